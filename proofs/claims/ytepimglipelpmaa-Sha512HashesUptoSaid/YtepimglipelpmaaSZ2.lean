/- Plain lemmas: the two Pads lay the same bytes. -/
import Derived.Test.YtepimglipelpmaaSZ
namespace Go.Proofs.Ytepimglipelpmaa.X
open Go Go.Proofs
set_option linter.unusedVariables false
set_option maxRecDepth 100000

theorem app_step {l ys : List Int} {c m : Nat} (h : l.length = 256) (h1 : c + m ≤ 256) (h2 : ys.length = m) : sub (splice l c m ys) 0 (c + m) = sub l 0 c ++ ys := by
  unfold sub splice
  simp only [List.drop_zero]
  have e : (l.take c ++ ys).length = c + m := by simp; omega
  rw [List.take_append_of_le_length (by omega), List.take_of_length_le (by omega)]

theorem app_step' {l ys : List Int} {c m k : Nat} (hk : k = c + m) (h : l.length = 256) (h1 : c + m ≤ 256) (h2 : ys.length = m) : sub (splice l c m ys) 0 k = sub l 0 c ++ ys := by
  rw [hk]; exact app_step h h1 h2

theorem sub_app {x y : List Int} {k : Nat} (h : (x ++ y).length = k) : sub (x ++ y) 0 k = x ++ y := sub_all _ _ (by omega)

theorem padRL_val (n : Int) : ∀ k : Nat, iter padRL_step k [128] = 128 :: List.replicate k 0
  | 0 => rfl
  | k + 1 => by
    show sub (iter padRL_step k [128]) 0 (1 + k) ++ [0] = _
    rw [padRL_val n k, sub_all _ _ (by simp; omega), List.cons_append, ← List.replicate_succ']

theorem set_take (e : Nat) (h1 : 1 ≤ e) (h2 : e ≤ 256) : sub (List.set (List.replicate 256 (0 : Int)) 0 128) 0 e = 128 :: List.replicate (e - 1) 0 := by
  obtain ⟨m, rfl⟩ : ∃ m, e = m + 1 := ⟨e - 1, by omega⟩
  have : List.replicate 256 (0 : Int) = 0 :: List.replicate 255 0 := rfl
  rw [this, List.set_cons_zero]
  unfold sub
  rw [List.drop_zero, List.take_succ_cons, List.take_replicate]
  congr 2; omega
end Go.Proofs.Ytepimglipelpmaa.X
