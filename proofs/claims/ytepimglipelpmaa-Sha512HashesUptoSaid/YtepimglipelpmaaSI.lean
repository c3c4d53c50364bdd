/- Plain lemmas for the walks of State, Pad, Join. -/
import Derived.Test.YtepimglipelpmaaSG
namespace Go.Proofs.Ytepimglipelpmaa.X
open Go Go.Proofs

theorem wr_inv {N : Int} {tl n : Nat} (h0 : 0 ≤ N) (h : Int.tmod N 128 = ((tl : Nat) : Int)) (hn : n < 140737488355328) : 0 ≤ wrN N n ∧ Int.tmod (wrN N n) 128 = ((wrT tl n : Nat) : Int) ∧ wrT tl n < 128 := by
  have h1 : (0 : Int) ≤ wrN N n := wrap_nn rfl
  refine ⟨h1, ?_, by unfold wrT; omega⟩
  rw [Int.tmod_eq_emod_of_nonneg h1]
  rw [Int.tmod_eq_emod_of_nonneg h0] at h
  unfold wrN wrT
  rw [wrapU (x := (n : Int)) (by omega) (by omega)]
  show (let m := (N + (n : Int)) % (18446744073709551616 : Int); if (false && decide (m ≥ (9223372036854775808 : Int))) = true then m - 18446744073709551616 else m) % 128 = _
  simp only [Bool.false_and, Bool.false_eq_true, if_false]
  omega

theorem wr_inv0 {n : Nat} (hn : n < 140737488355328) : 0 ≤ wrN 0 n ∧ Int.tmod (wrN 0 n) 128 = ((wrT 0 n : Nat) : Int) ∧ wrT 0 n < 128 := wr_inv (Int.le_refl 0) rfl hn

theorem shr61 {n : Int} (h0 : 0 ≤ n) (h : n < 2305843009213693952) : shr .u64 n 61 = 0 := by
  have e : shr .u64 n 61 = n.fdiv 2305843009213693952 := rfl
  rw [e, Int.fdiv_eq_ediv_of_nonneg _ (by omega)]
  omega
end Go.Proofs.Ytepimglipelpmaa.X
