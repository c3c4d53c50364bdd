/- Plain lemmas for the walk of the law of the chain. -/
import Derived.Test.YtepimglipelpmaaSL
namespace Go.Proofs.Ytepimglipelpmaa.X
open Go Go.Proofs
set_option linter.unusedVariables false

theorem pad_len0 {n : Nat} (h : n < 140737488355328) : (n + pad (IntKind.u64.wrap ((n : Nat) : Int))) % 128 = 0 ∧ 17 ≤ pad (IntKind.u64.wrap ((n : Nat) : Int)) ∧ pad (IntKind.u64.wrap ((n : Nat) : Int)) ≤ 144 ∧ IntKind.u64.wrap ((n : Nat) : Int) = ((n : Nat) : Int) := by
  have hw : IntKind.u64.wrap ((n : Nat) : Int) = ((n : Nat) : Int) := wrapU (by omega) (by omega)
  have h1 := pad_le (IntKind.u64.wrap ((n : Nat) : Int))
  have h2 := pad_mod (N := IntKind.u64.wrap ((n : Nat) : Int)) (tl := n % 128) (by rw [hw]; omega) (by rw [hw, Int.tmod_eq_emod_of_nonneg (by omega)]; omega)
  exact ⟨by omega, h1.1, h1.2, hw⟩

theorem chain_rem {n : Nat} (h : n < 140737488355328) : Int.tmod (((n + pad (IntKind.u64.wrap ((n : Nat) : Int)) : Nat) : Nat) : Int) (128 : Int) = 0 := by
  have := (pad_len0 h).1
  rw [Int.tmod_eq_emod_of_nonneg (by omega)]; omega

theorem splice_len3 {l ys : List Int} {c m : Nat} (h : l.length = 256) (h1 : c + m ≤ 256) (h2 : ys.length = m) : (splice l c m ys).length = 256 := by
  rw [splice_len _ _ _ _ (by omega) h2, h]

theorem pad_1_len (n : Int) : (pad_1 n).length = 256 := by
  have := padE_ok n
  unfold padE at this
  unfold pad_1
  repeat' first
    | refine splice_len3 ?_ ?_ ?_
  all_goals first
    | (rw [List.length_set, List.length_replicate])
    | omega
    | rfl

theorem sub_left {α : Type} (x y : List α) (c m : Nat) (h : c + m ≤ x.length) : sub (x ++ y) c m = sub x c m := by
  unfold sub
  rw [List.drop_append_of_le_length (by omega), List.take_append_of_le_length (by simp; omega)]

theorem sub_of_drop {α : Type} (l : List α) (a c m : Nat) : sub (l.drop a) c m = sub l (a + c) m := by
  unfold sub; rw [List.drop_drop]

theorem absN_zero (C D S : List Int) : absN C D 0 S = S := rfl
theorem absN_succ (C D : List Int) (k : Nat) (S : List Int) : absN C D (k + 1) S = blk (absN C D k S) (sub D (128 * k) 128) C := rfl

theorem absN_add (C D : List Int) (k1 : Nat) : ∀ (k2 : Nat) (S : List Int), absN C D (k1 + k2) S = absN C (D.drop (128 * k1)) k2 (absN C D k1 S)
  | 0, S => by rw [Nat.add_zero, absN_zero]
  | k2 + 1, S => by
    rw [← Nat.add_assoc, absN_succ, absN_succ, absN_add C D k1 k2 S, sub_of_drop, show 128 * k1 + 128 * k2 = 128 * (k1 + k2) by omega]

theorem absN_left (C D E : List Int) (k : Nat) (S : List Int) (h : 128 * k ≤ D.length) : absN C (D ++ E) k S = absN C D k S :=
  iter_congr fun i s hi => by rw [sub_left _ _ _ _ (by omega)]

theorem rest_sub {L P : List Int} {tl p c : Nat} (hL : L.length = tl) (hP : P.length = p) (h : tl + p ≤ 512) (hc : c + 128 ≤ tl + p) :
    sub (splice (splice (List.replicate (512 : Nat) (0 : Int)) (0 : Nat) (min tl tl) (sub L (0 : Nat) (min tl tl))) ((0 : Nat) + tl) p P) c 128 = sub (L ++ P) c 128 := by
  have e1 : splice (List.replicate (512 : Nat) (0 : Int)) 0 (min tl tl) (sub L 0 (min tl tl)) = L ++ (List.replicate 512 (0 : Int)).drop tl := by
    rw [Nat.min_self, sub_all _ _ (by omega), splice_zero]
  rw [e1, Nat.zero_add]
  have e2 : splice (L ++ (List.replicate 512 (0 : Int)).drop tl) tl p P = (L ++ P) ++ (L ++ (List.replicate 512 (0 : Int)).drop tl).drop (tl + p) := by
    unfold splice
    rw [List.take_append_of_le_length (by omega), List.take_of_length_le (by omega)]
  rw [e2, sub_left _ _ _ _ (by simp; omega)]

def padB (n : Nat) : List Int := sub (pad_1 (IntKind.u64.wrap ((n : Nat) : Int))) 0 (pad (IntKind.u64.wrap ((n : Nat) : Int)))

theorem words_join {n : Nat} {b : List Int} (h : n < 140737488355328) (hb : b.length = n) (H : List Int) :
    sumL_out0 (wrT 0 n) (wrN 0 n) (wrL [] (sub b 0 n) 0 n) konst (wrS konst H [] (sub b 0 n) 0 n) = absN konst (b ++ padB n) ((n + pad (IntKind.u64.wrap ((n : Nat) : Int))) / 128) H := by
  obtain ⟨p1, p2, p3, p4⟩ := pad_len0 h
  have eN : wrN 0 n = IntKind.u64.wrap ((n : Nat) : Int) := by
    unfold wrN
    rw [p4, Int.zero_add, p4]
  have eb : sub b 0 n = b := sub_all _ _ (by omega)
  have eT : wrT 0 n = n % 128 := by unfold wrT; rw [Nat.zero_add]
  have eL : wrL [] b 0 n = b.drop (128 * (n / 128)) := by unfold wrL; rw [List.nil_append, Nat.zero_add]
  have eS : wrS konst H [] b 0 n = absN konst b (n / 128) H := by unfold wrS; rw [List.nil_append, Nat.zero_add]
  rw [eb, eN, eT, eL, eS]
  have hk : (n + pad (IntKind.u64.wrap ((n : Nat) : Int))) / 128 = n / 128 + (n % 128 + pad (IntKind.u64.wrap ((n : Nat) : Int))) / 128 := by omega
  rw [hk, absN_add, absN_left _ _ _ _ _ (by omega)]
  have hP : (padB n).length = pad (IntKind.u64.wrap ((n : Nat) : Int)) := by
    unfold padB
    rw [sub_len]
    rw [pad_1_len]; omega
  have hL : (b.drop (128 * (n / 128))).length = n % 128 := by simp; omega
  unfold sumL_out0 absN
  refine iter_congr fun i s hi => ?_
  unfold sumL_step
  rw [List.drop_append_of_le_length (by omega)]
  have := rest_sub (c := 128 * i) hL hP (by omega) (by omega)
  unfold padB at this
  rw [this]
  rfl

def digL (W : List Int) : List Int := [IntKind.u8.wrap (shr .u64 (List.getD W 0 0) 56), IntKind.u8.wrap (shr .u64 (List.getD W 0 0) 48), IntKind.u8.wrap (shr .u64 (List.getD W 0 0) 40), IntKind.u8.wrap (shr .u64 (List.getD W 0 0) 32), IntKind.u8.wrap (shr .u64 (List.getD W 0 0) 24), IntKind.u8.wrap (shr .u64 (List.getD W 0 0) 16), IntKind.u8.wrap (shr .u64 (List.getD W 0 0) 8), IntKind.u8.wrap (shr .u64 (List.getD W 0 0) 0), IntKind.u8.wrap (shr .u64 (List.getD W 1 0) 56), IntKind.u8.wrap (shr .u64 (List.getD W 1 0) 48), IntKind.u8.wrap (shr .u64 (List.getD W 1 0) 40), IntKind.u8.wrap (shr .u64 (List.getD W 1 0) 32), IntKind.u8.wrap (shr .u64 (List.getD W 1 0) 24), IntKind.u8.wrap (shr .u64 (List.getD W 1 0) 16), IntKind.u8.wrap (shr .u64 (List.getD W 1 0) 8), IntKind.u8.wrap (shr .u64 (List.getD W 1 0) 0), IntKind.u8.wrap (shr .u64 (List.getD W 2 0) 56), IntKind.u8.wrap (shr .u64 (List.getD W 2 0) 48), IntKind.u8.wrap (shr .u64 (List.getD W 2 0) 40), IntKind.u8.wrap (shr .u64 (List.getD W 2 0) 32), IntKind.u8.wrap (shr .u64 (List.getD W 2 0) 24), IntKind.u8.wrap (shr .u64 (List.getD W 2 0) 16), IntKind.u8.wrap (shr .u64 (List.getD W 2 0) 8), IntKind.u8.wrap (shr .u64 (List.getD W 2 0) 0), IntKind.u8.wrap (shr .u64 (List.getD W 3 0) 56), IntKind.u8.wrap (shr .u64 (List.getD W 3 0) 48), IntKind.u8.wrap (shr .u64 (List.getD W 3 0) 40), IntKind.u8.wrap (shr .u64 (List.getD W 3 0) 32), IntKind.u8.wrap (shr .u64 (List.getD W 3 0) 24), IntKind.u8.wrap (shr .u64 (List.getD W 3 0) 16), IntKind.u8.wrap (shr .u64 (List.getD W 3 0) 8), IntKind.u8.wrap (shr .u64 (List.getD W 3 0) 0), IntKind.u8.wrap (shr .u64 (List.getD W 4 0) 56), IntKind.u8.wrap (shr .u64 (List.getD W 4 0) 48), IntKind.u8.wrap (shr .u64 (List.getD W 4 0) 40), IntKind.u8.wrap (shr .u64 (List.getD W 4 0) 32), IntKind.u8.wrap (shr .u64 (List.getD W 4 0) 24), IntKind.u8.wrap (shr .u64 (List.getD W 4 0) 16), IntKind.u8.wrap (shr .u64 (List.getD W 4 0) 8), IntKind.u8.wrap (shr .u64 (List.getD W 4 0) 0), IntKind.u8.wrap (shr .u64 (List.getD W 5 0) 56), IntKind.u8.wrap (shr .u64 (List.getD W 5 0) 48), IntKind.u8.wrap (shr .u64 (List.getD W 5 0) 40), IntKind.u8.wrap (shr .u64 (List.getD W 5 0) 32), IntKind.u8.wrap (shr .u64 (List.getD W 5 0) 24), IntKind.u8.wrap (shr .u64 (List.getD W 5 0) 16), IntKind.u8.wrap (shr .u64 (List.getD W 5 0) 8), IntKind.u8.wrap (shr .u64 (List.getD W 5 0) 0), IntKind.u8.wrap (shr .u64 (List.getD W 6 0) 56), IntKind.u8.wrap (shr .u64 (List.getD W 6 0) 48), IntKind.u8.wrap (shr .u64 (List.getD W 6 0) 40), IntKind.u8.wrap (shr .u64 (List.getD W 6 0) 32), IntKind.u8.wrap (shr .u64 (List.getD W 6 0) 24), IntKind.u8.wrap (shr .u64 (List.getD W 6 0) 16), IntKind.u8.wrap (shr .u64 (List.getD W 6 0) 8), IntKind.u8.wrap (shr .u64 (List.getD W 6 0) 0), IntKind.u8.wrap (shr .u64 (List.getD W 7 0) 56), IntKind.u8.wrap (shr .u64 (List.getD W 7 0) 48), IntKind.u8.wrap (shr .u64 (List.getD W 7 0) 40), IntKind.u8.wrap (shr .u64 (List.getD W 7 0) 32), IntKind.u8.wrap (shr .u64 (List.getD W 7 0) 24), IntKind.u8.wrap (shr .u64 (List.getD W 7 0) 16), IntKind.u8.wrap (shr .u64 (List.getD W 7 0) 8), IntKind.u8.wrap (shr .u64 (List.getD W 7 0) 0)]

theorem hsum_dig (S : List Int) (tl : Nat) (N : Int) (L C : List Int) : hsum S tl N L C = digL (sumL_out0 tl N L C S) := by kernel_rfl
end Go.Proofs.Ytepimglipelpmaa.X
