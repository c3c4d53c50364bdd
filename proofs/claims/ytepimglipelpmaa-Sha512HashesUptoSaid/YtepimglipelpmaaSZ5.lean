/- Plain lemma: Compress over what Given laid down is the document's. -/
import Derived.Test.YtepimglipelpmaaSZ4
namespace Go.Proofs.Ytepimglipelpmaa.X
open Go Go.Proofs

theorem compress_same {S b : List Int} {n : Nat} (hS : S.length = 8) (hb : b.length = n) : compress S n (sub (gb0_1 n (sub b 0 n)) 0 n) = compressR S n (sub b 0 n) := by
  have e : sub b 0 n = b := sub_all _ _ (by omega)
  rw [e, gb0_take hb]
  unfold compress compressR
  exact blk_eq _ hS
end Go.Proofs.Ytepimglipelpmaa.X
