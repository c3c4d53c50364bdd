/- Squares by numbers. -/
import Derived.Test.YtcpoldghkiiggaaQI
namespace Go.Proofs.Ytcpoldghkiiggaa.X
open Go Go.Proofs
set_option linter.unusedVariables false
set_option maxRecDepth 100000

theorem lgp_num (a : List Int) (h0 : Byt a) (w : World) : Body Try.prog (tabOf tabQI) Try.f56 ⟨w, [], 0, noEnv⟩ (toA [.g [.ints .u8 (32 : Nat) a]]) [] (fun ys _ => ys = [.a (.i .i64 (legI a))]) :=
  Body.lens (c := (Try.f56.body.getD .skip)) rfl fun h => by
    have hl := h.vals 0 _ _ _ rfl
    unfold legI
    by_cases h1 : lgP a = 0
    · rw [if_pos h1]; exact lgpA_body0 a h0 hl h1 w
    · rw [if_neg h1]
      by_cases h2 : lgP a = 1
      · rw [if_pos h2]; exact lgpB_body0 a h0 hl h2 w
      · rw [if_neg h2]; exact lgpC_body0 a h0 hl ⟨h1, h2⟩ w
theorem lgr_num (a : List Int) (h0 : Byt a) (w : World) : Body Try.prog (tabOf tabQI) Try.f57 ⟨w, [], 0, noEnv⟩ (toA [.g [.ints .u8 (32 : Nat) a]]) [] (fun ys _ => ys = [.a (.i .i64 (legI a))]) :=
  Body.lens (c := (Try.f57.body.getD .skip)) rfl fun h => by
    have hl := h.vals 0 _ _ _ rfl
    unfold legI
    by_cases h1 : lgP a = 0
    · rw [if_pos h1]; exact lgrA_body0 a h0 hl h1 w
    · rw [if_neg h1]
      by_cases h2 : lgP a = 1
      · rw [if_pos h2]; exact lgrB_body0 a h0 hl h2 w
      · rw [if_neg h2]; exact lgrC_body0 a h0 hl ⟨h1, h2⟩ w
end Go.Proofs.Ytcpoldghkiiggaa.X
