/- Plain lemmas on numbers for the walks of the hash. -/
import Derived.Test.YtepimglipelpmaaSA
namespace Go.Proofs.Ytepimglipelpmaa.X
open Go Go.Proofs

def padE (n : Int) : Int := IntKind.u64.wrap ((1 : Int) + (Int.tmod (IntKind.u64.wrap ((239 : Int) - (Int.tmod n (128 : Int)))) (128 : Int)))

theorem tmod_lt (n : Int) : -128 < Int.tmod n 128 ∧ Int.tmod n 128 < 128 := by
  rcases Int.le_total 0 n with h | h
  · rw [Int.tmod_eq_emod_of_nonneg h]; omega
  · obtain ⟨m, rfl⟩ : ∃ m, n = -m := ⟨-n, by omega⟩
    rw [Int.neg_tmod, Int.tmod_eq_emod_of_nonneg (by omega)]; omega

theorem padE_ok (n : Int) : 1 ≤ padE n ∧ padE n ≤ 128 := by
  have h1 := tmod_lt n
  have h2 : IntKind.u64.wrap (239 - Int.tmod n 128) = 239 - Int.tmod n 128 := wrapU (by omega) (by omega)
  unfold padE
  rw [h2]
  have h3 := tmod_lt (239 - Int.tmod n 128)
  have h4 : 0 ≤ Int.tmod (239 - Int.tmod n 128) 128 := Int.tmod_nonneg _ (by omega)
  rw [wrapU (by omega) (by omega)]
  omega

theorem wmin_small {tl n : Nat} (h : tl + n < 128) : (if ((n : Nat) : Int) < IntKind.i64.wrap ((128 : Int) - ((tl : Nat) : Int)) then ((n : Nat) : Int) else IntKind.i64.wrap ((128 : Int) - ((tl : Nat) : Int))) = ((n : Nat) : Int) := by
  rw [wrapI (by omega) (by omega), if_pos (by omega)]
theorem wmin_big {tl n : Nat} (h : 128 ≤ tl + n) (ht : tl < 128) : (if ((n : Nat) : Int) < IntKind.i64.wrap ((128 : Int) - ((tl : Nat) : Int)) then ((n : Nat) : Int) else IntKind.i64.wrap ((128 : Int) - ((tl : Nat) : Int))) = (((128 - tl : Nat) : Nat) : Int) := by
  rw [wrapI (by omega) (by omega)]; split <;> omega
end Go.Proofs.Ytepimglipelpmaa.X
