/- Plain lemma: the two Pads answer the same bytes. -/
import Derived.Test.YtepimglipelpmaaSZ3
namespace Go.Proofs.Ytepimglipelpmaa.X
open Go Go.Proofs

theorem padL_eq (n : Int) : sub (pad_1 n) 0 (pad n) = padSpec n (padE n).toNat := by
  have h := padE_ok n
  have := padA n (padE n).toNat (by omega) (by omega)
  rw [← this]; rfl

theorem padR_len (n : Int) : padR n = pad n := by
  have h := padE_ok n
  rw [pad_eq]
  unfold padR
  omega

theorem padRL_out (n : Int) : padRL_out0 n [128] = 128 :: List.replicate ((padE n).toNat - 1) 0 := padRL_val n _

theorem padR_eqL (n : Int) : sub (padR_1 n) 0 (padR n) = padSpec n (padE n).toNat := by
  have h := padE_ok n
  have hb := padB_ n (padE n).toNat (by omega) (by omega)
  have e1 : 1 + ((padE n).toNat - 1) = (padE n).toNat := by omega
  rw [padR_len, pad_eq, ← hb]
  unfold padR_1
  rw [padRL_out, e1]

theorem pad_same (n : Int) : sub (padR_1 n) 0 (padR n) = sub (pad_1 n) 0 (pad n) := by
  rw [padR_eqL, padL_eq]
end Go.Proofs.Ytepimglipelpmaa.X
