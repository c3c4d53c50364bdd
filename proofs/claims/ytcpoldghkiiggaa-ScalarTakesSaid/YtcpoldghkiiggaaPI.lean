/- What Given lays down of bytes. -/
import Derived.Test.YtcpoldghkiiggaaQJ
namespace Go.Proofs.Ytcpoldghkiiggaa.X
open Go Go.Proofs
set_option linter.unusedVariables false

theorem sub_all (l : List Int) (n : Nat) (h : l.length ≤ n) : sub l 0 n = l := by
  unfold sub; rw [List.drop_zero, List.take_of_length_le h]
theorem iter_len {f : Nat → List Int → List Int} (h : ∀ i s, (f i s).length = s.length) : ∀ (k : Nat) (s : List Int), (iter f k s).length = s.length
  | 0, _ => rfl
  | k + 1, s => by
    show (f k (iter f k s)).length = s.length
    rw [h, iter_len h k s]
theorem gb0_len (n : Nat) (b : List Int) : (gb0_1 n b).length = n + 3 := by
  unfold gb0_1 gb0L2_out0 gb0L0_out0
  rw [iter_len (fun i s => by unfold gb0L2_step; simp), iter_len (fun i s => by unfold gb0L0_step; simp)]
  simp
theorem gb0_same (n : Nat) (b : List Int) : gb0_2 n b = gb0_1 n b := by
  have h := gb0_len n b
  unfold gb0_1 at h
  unfold gb0_2 gb0_1 copyB
  generalize gb0L2_out0 b n (gb0L0_out0 n (List.replicate (n + 3) 0)) = l at h ⊢
  have e : sub l 0 (n + 3) = l := sub_all _ _ (by omega)
  rw [e, e]
theorem fill_take (b : List Int) : ∀ (k : Nat) (l : List Int), k ≤ b.length → k ≤ l.length → (iter (gb0L2_step b) k l).take k = b.take k
  | 0, _, _, _ => by simp
  | k + 1, l, h1, h2 => by
    have hl : (iter (gb0L2_step b) k l).length = l.length := iter_len (fun i s => by unfold gb0L2_step; simp) k l
    show (((iter (gb0L2_step b) k l).set k (List.getD b k 0))).take (k + 1) = b.take (k + 1)
    rw [List.take_add_one, List.take_add_one, List.take_set_of_le (Nat.le_refl k), fill_take b k l (by omega) (by omega), List.getElem?_set_self (by omega), List.getElem?_eq_getElem (by omega), List.getD_eq_getElem?_getD, List.getElem?_eq_getElem (by omega)]
    rfl
theorem gb0_take {n : Nat} {b : List Int} (h : b.length = n) : sub (gb0_1 n b) 0 n = b := by
  unfold sub
  rw [List.drop_zero]
  unfold gb0_1 gb0L2_out0
  rw [fill_take b n _ (by omega) (by unfold gb0L0_out0; rw [iter_len (fun i s => by unfold gb0L0_step; simp)]; simp), List.take_of_length_le (by omega)]
theorem gb0_sub {n : Nat} {b : List Int} (h : b.length = n) : sub (gb0_1 n (sub b 0 n)) 0 n = b := by
  rw [sub_all b n (by omega), gb0_take h]
theorem gb0_n (n : Nat) : gb0 n = n + 3 := rfl
end Go.Proofs.Ytcpoldghkiiggaa.X
