/- Plain lemmas for the arms that answer an error. -/
import Derived.Test.YtepimglipelpmaaSW
namespace Go.Proofs.Ytepimglipelpmaa.X
open Go Go.Proofs

theorem shr61_pos {n : Int} (h : 2305843009213693952 ≤ n) : 0 < shr .u64 n 61 := by
  have e : shr .u64 n 61 = n.fdiv 2305843009213693952 := rfl
  rw [e, Int.fdiv_eq_ediv_of_nonneg _ (by omega)]
  omega
end Go.Proofs.Ytepimglipelpmaa.X
