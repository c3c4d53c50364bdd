/- Plain lemmas on the bytes behind a message, for the walk of a Hasher's Sum. -/
import Derived.Test.YtepimglipelpmaaSE
namespace Go.Proofs.Ytepimglipelpmaa.X
open Go Go.Proofs

theorem pad_eq (N : Int) : pad N = (padE N).toNat + 16 := rfl

theorem pad_le (N : Int) : 17 ≤ pad N ∧ pad N ≤ 144 := by
  have := padE_ok N
  rw [pad_eq]; omega

theorem pad_mod {N : Int} {tl : Nat} (h0 : 0 ≤ N) (h : Int.tmod N 128 = ((tl : Nat) : Int)) : (tl + pad N) % 128 = 0 ∧ tl < 128 := by
  have h1 : Int.tmod N 128 = N % 128 := Int.tmod_eq_emod_of_nonneg h0
  have h2 : padE N = 1 + (239 - (tl : Int)) % 128 := by
    unfold padE
    rw [h]
    have : (tl : Int) < 128 := by omega
    rw [wrapU (x := 239 - (tl : Int)) (by omega) (by omega), Int.tmod_eq_emod_of_nonneg (by omega), wrapU (by omega) (by omega)]
  rw [pad_eq, h2]
  omega
end Go.Proofs.Ytepimglipelpmaa.X
