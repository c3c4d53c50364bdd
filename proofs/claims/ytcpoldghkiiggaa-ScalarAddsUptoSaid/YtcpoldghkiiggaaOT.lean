/- Invert, in one form. -/
import Derived.Test.YtcpoldghkiiggaaOS
namespace Go.Proofs.Ytcpoldghkiiggaa.X
open Go Go.Proofs
set_option linter.unusedVariables false

def invL (a : List Int) : List Int := if W4 (modL (BV a)) = [0, 0, 0, 0] then [0, 0, 0, 0, 0, 0, 0, 0, 0, 0, 0, 0, 0, 0, 0, 0, 0, 0, 0, 0, 0, 0, 0, 0, 0, 0, 0, 0, 0, 0, 0, 0] else invB a
def invE (a : List Int) : Int := if W4 (modL (BV a)) = [0, 0, 0, 0] then 9 else 0

theorem inv_can (a : List Int) (h0 : Byt a) (w : World) : Body Try.prog (tabOf tabOS) Try.f40 ⟨w, [], 0, noEnv⟩ (toA [.g [.ints .u8 (32 : Nat) a]]) [] (fun ys _ => ys = [.g [.ints .u8 (32 : Nat) (invL a)], .a (.i .i64 (invE a))]) :=
  Body.lens (c := (Try.f40.body.getD .skip)) rfl fun h => by
    have hl := h.vals 0 _ _ _ rfl
    by_cases hc : W4 (modL (BV a)) = [0, 0, 0, 0]
    · refine (invA_body0 a h0 hl hc w).mono fun xs K hx => ?_
      subst hx
      have e1 : invL a = [0, 0, 0, 0, 0, 0, 0, 0, 0, 0, 0, 0, 0, 0, 0, 0, 0, 0, 0, 0, 0, 0, 0, 0, 0, 0, 0, 0, 0, 0, 0, 0] := by unfold invL; rw [if_pos hc]
      have e2 : invE a = 9 := by unfold invE; rw [if_pos hc]
      rw [e1, e2]
    · refine (invB_body0 a h0 hl hc w).mono fun xs K hx => ?_
      subst hx
      have e1 : invL a = invB a := by unfold invL; rw [if_neg hc]
      have e2 : invE a = 0 := by unfold invE; rw [if_neg hc]
      rw [e1, e2]
end Go.Proofs.Ytcpoldghkiiggaa.X
