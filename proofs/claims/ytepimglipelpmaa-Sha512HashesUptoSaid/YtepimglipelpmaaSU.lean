/- Plain lemmas for the walk of the document's Pad. -/
import Derived.Test.YtepimglipelpmaaSS
namespace Go.Proofs.Ytepimglipelpmaa.X
open Go Go.Proofs
set_option linter.unusedVariables false

theorem padE_val {n : Int} (h0 : 0 ≤ n) : padE n = 1 + (239 - n % 128) % 128 := by
  unfold padE
  rw [Int.tmod_eq_emod_of_nonneg h0, wrapU (x := 239 - n % 128) (by omega) (by omega), Int.tmod_eq_emod_of_nonneg (by omega), wrapU (by omega) (by omega)]

theorem padR_at {n : Int} {k : Nat} (h0 : 0 ≤ n) (h1 : n < 2305843009213693952) (hk : k ≤ 128) :
    Int.tmod (IntKind.u64.wrap (n + (IntKind.u64.wrap ((((1 : Nat) + k) : Nat) : Int)))) (128 : Int) = (n + 1 + k) % 128 := by
  rw [wrapU (x := (((1 + k : Nat) : Nat) : Int)) (by omega) (by omega), wrapU (by omega) (by omega), Int.tmod_eq_emod_of_nonneg (by omega)]
  congr 1; omega

theorem padR_ne {n : Int} {k : Nat} (h0 : 0 ≤ n) (h1 : n < 2305843009213693952) (hk : k < (padE n).toNat - 1) :
    Int.tmod (IntKind.u64.wrap (n + (IntKind.u64.wrap ((((1 : Nat) + k) : Nat) : Int)))) (128 : Int) ≠ 112 := by
  rw [padE_val h0] at hk
  rw [padR_at h0 h1 (by omega)]
  omega

theorem padR_eq {n : Int} (h0 : 0 ≤ n) (h1 : n < 2305843009213693952) :
    Int.tmod (IntKind.u64.wrap (n + (IntKind.u64.wrap ((((1 : Nat) + ((padE n).toNat - 1)) : Nat) : Int)))) (128 : Int) = 112 := by
  have := padE_val h0
  rw [padR_at h0 h1 (by omega)]
  omega
end Go.Proofs.Ytepimglipelpmaa.X
