/- The value of 32 bytes, by the reference. -/
import Derived.Test.YtcpoldghkiiggaaOB
namespace Go.Proofs.Ytcpoldghkiiggaa.X
open Go Go.Proofs
set_option linter.unusedVariables false

theorem valR_can (a : List Int) (h0 : Byt a) (w : World) : Body Try.prog (tabOf tabOB) Try.f81 ⟨w, [], 0, noEnv⟩ (toA [.g [.ints .u8 (32 : Nat) a]]) [] (fun ys _ => ys = [.g [.ints .u32 (8 : Nat) (W8 (modL (BV a)))]]) :=
  Body.lens (c := (Try.f81.body.getD .skip)) rfl fun h => (valR_body0 a h0 (h.vals 0 _ _ _ rfl) w).mono fun xs K hx => by
    subst hx
    have e : valR a = W8 (modL (BV a)) := by
      unfold valR
      rw [sub_dig, dig_top h0]
    rw [e]
theorem V8_modL (v : Int) : V8 (W8 (modL v)) = modL v := V8_W8 (modL_rng v).1 (modL_rng v).2.2
theorem wrap32_rng (x : Int) : 0 ≤ IntKind.u32.wrap x ∧ IntKind.u32.wrap x < 4294967296 := by rw [wrap32]; omega
end Go.Proofs.Ytcpoldghkiiggaa.X
