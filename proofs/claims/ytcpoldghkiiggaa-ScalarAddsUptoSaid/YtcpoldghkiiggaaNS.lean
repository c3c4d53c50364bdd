/- Numbers that are below the order. -/
import Derived.Test.YtcpoldghkiiggaaNP
namespace Go.Proofs.Ytcpoldghkiiggaa.X
open Go Go.Proofs
set_option linter.unusedVariables false

def modL (v : Int) : Int := v % LL
theorem modL_rng (v : Int) : 0 ≤ modL v ∧ modL v < LL ∧ modL v < 115792089237316195423570985008687907853269984665640564039457584007913129639936 := by
  unfold modL LL; omega
theorem V4_modL (v : Int) : V4 (W4 (modL v)) = modL v := V4_W4 (modL_rng v).1 (modL_rng v).2.2
theorem ltl_mod (v : Int) : LtL (W4 (modL v)) := by unfold LtL; rw [V4_modL]; exact (modL_rng v).2.1
theorem montV_rng (a b : Int) : 0 ≤ montV a b ∧ montV a b < LL ∧ montV a b < 115792089237316195423570985008687907853269984665640564039457584007913129639936 := modL_rng (a * b * RI)
theorem V4_mont (a b : Int) : V4 (W4 (montV a b)) = montV a b := V4_W4 (montV_rng a b).1 (montV_rng a b).2.2
theorem ltl_mont (a b : Int) : LtL (W4 (montV a b)) := by unfold LtL; rw [V4_mont]; exact (montV_rng a b).2.1
theorem wds_radx : Wds [11819153939886771969, 14991950615390032711, 14910419812499177061, 259310039853996605] := wds_four (by omega) (by omega) (by omega) (by omega)
theorem V4_radx : V4 [11819153939886771969, 14991950615390032711, 14910419812499177061, 259310039853996605] = 1627715501170711445284395025044413883736156588369414752970002579683115011841 := by decide +kernel
theorem ltl_radx : LtL [11819153939886771969, 14991950615390032711, 14910419812499177061, 259310039853996605] := by unfold LtL; rw [V4_radx]; unfold LL; omega
theorem wds_one : Wds [1, 0, 0, 0] := wds_four (by omega) (by omega) (by omega) (by omega)
theorem ltl_one : LtL [1, 0, 0, 0] := by show V4 [1, 0, 0, 0] < LL; decide +kernel
theorem wds_one1 {n : Int} (h0 : 0 ≤ n) (h1 : n < 18446744073709551616) : Wds [n, 0, 0, 0] := wds_four ⟨h0, h1⟩ (by omega) (by omega) (by omega)
theorem byt_B32 (v : Int) : Byt (B32 v) := by
  intro x hx
  unfold B32 at hx
  simp only [List.mem_cons, List.not_mem_nil, or_false] at hx
  rcases hx with rfl | rfl | rfl | rfl | rfl | rfl | rfl | rfl | rfl | rfl | rfl | rfl | rfl | rfl | rfl | rfl | rfl | rfl | rfl | rfl | rfl | rfl | rfl | rfl | rfl | rfl | rfl | rfl | rfl | rfl | rfl | rfl <;> omega
/-- the product of two numbers -/
theorem times_eq (a b : Int) : montV (montV a b) 1627715501170711445284395025044413883736156588369414752970002579683115011841 = modL (a * b) := mont_twice (a * b)
end Go.Proofs.Ytcpoldghkiiggaa.X
