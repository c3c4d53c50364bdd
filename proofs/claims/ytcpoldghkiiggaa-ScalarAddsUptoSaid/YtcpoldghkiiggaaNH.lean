/- Words of a number; a product and two words more. -/
import Derived.Test.YtcpoldghkiiggaaNG
namespace Go.Proofs.Ytcpoldghkiiggaa.X
open Go Go.Proofs
set_option linter.unusedVariables false

def Wds (S : List Int) : Prop := ∀ x ∈ S, 0 ≤ x ∧ x < 18446744073709551616

theorem wds_get {S : List Int} (h : Wds S) (i : Nat) : 0 ≤ List.getD S i 0 ∧ List.getD S i 0 < 18446744073709551616 := by
  rw [List.getD_eq_getElem?_getD]
  by_cases hi : i < S.length
  · rw [List.getElem?_eq_getElem hi]; exact h _ (List.getElem_mem hi)
  · rw [List.getElem?_eq_none (by omega)]; simp

theorem wds_W4 (v : Int) : Wds (W4 v) := by
  intro x hx
  unfold W4 at hx
  simp only [List.mem_cons, List.not_mem_nil, or_false] at hx
  rcases hx with rfl | rfl | rfl | rfl <;> omega

theorem muladd_eq {x y a c : Int} (h0 : 0 ≤ x) (h1 : x < 18446744073709551616) (h2 : 0 ≤ y) (h3 : y < 18446744073709551616) (h4 : 0 ≤ a) (h5 : a < 18446744073709551616) (h6 : 0 ≤ c) (h7 : c < 18446744073709551616) :
    18446744073709551616 * muladd x y a c + muladd_1 x y a c = x * y + a + c ∧ 0 ≤ muladd x y a c ∧ muladd x y a c < 18446744073709551616 ∧ 0 ≤ muladd_1 x y a c ∧ muladd_1 x y a c < 18446744073709551616 := by
  obtain ⟨e, p1, p2, p3, p4⟩ := mul64_eq h0 h1 h2 h3
  have hb : x * y ≤ 340282366920938463426481119284349108225 := by
    have := Int.mul_le_mul (show x ≤ 18446744073709551615 by omega) (show y ≤ 18446744073709551615 by omega) h2 (by omega)
    omega
  unfold muladd muladd_1 ad64c ad64s
  simp only [wrap64]
  generalize mul64 x y = H at *
  generalize mul64_1 x y = L at *
  generalize x * y = P at *
  omega

theorem muladd_nn (x y a c : Int) : 0 ≤ muladd x y a c := wrap_nn rfl
theorem muladd1_nn (x y a c : Int) : 0 ≤ muladd_1 x y a c := (ad64_rng _ _ _).1

theorem four {S : List Int} (h : S.length = 4) : ∃ a b c d, S = [a, b, c, d] := by
  match S, h with
  | [a, b, c, d], _ => exact ⟨a, b, c, d, rfl⟩
end Go.Proofs.Ytcpoldghkiiggaa.X
