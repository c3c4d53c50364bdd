/- The program and the reference answer the same: sums, differences, opposites, products. -/
import Derived.Test.YtcpoldghkiiggaaOM
namespace Go.Proofs.Ytcpoldghkiiggaa.X
open Go Go.Proofs
set_option linter.unusedVariables false

theorem mulR_eq (a b : List Int) : mulR a b = B32 (modL (BV a * BV b)) := by
  unfold mulR
  rw [V8_modL (BV a), V8_modL (BV b), modL_mul, V8_modL]
theorem maddR_eq (a b c : List Int) : maddR a b c = B32 (modL (BV a * BV b + BV c)) := by
  unfold maddR
  rw [mulR_eq, BV_modL, modL_addl]

theorem add_same (a b : List Int) : addP a b = B32 (modL (BV a + BV b)) := addP_eq a b
theorem sub_same (a b : List Int) : subP a b = subR_ a b := by rw [subP_eq, subR_eq]
theorem neg_same (a : List Int) : negP a = B32 (modL (negI (BV a))) := negP_eq a
theorem mul_same (a b : List Int) : mulP a b = mulR a b := by rw [mulP_eq, mulR_eq]
theorem madd_same (a b c : List Int) : maddP a b c = maddR a b c := by rw [maddP_eq, maddR_eq]
end Go.Proofs.Ytcpoldghkiiggaa.X
