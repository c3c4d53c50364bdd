/- A Hasher that has taken some bytes, as a function of the bytes; parts that lie in a world, one behind the other. -/
import Derived.Test.YtepimglipelpmaaTG
import Derived.Test.YtepimglipelpmaaXY
namespace Go.Proofs.Ytepimglipelpmaa.X
open Go Go.Proofs
set_option linter.unusedVariables false

def H0 : List Int := [7640891576956012808, 13503953896175478587, 4354685564936845355, 11912009170470909681, 5840696475078001361, 11170449401992604703, 2270897969802886507, 6620516959819538809]
def hS (D : List Int) : List Int := absN konst D (D.length / 128) H0
def hT (D : List Int) : Nat := D.length % 128
def hN (D : List Int) : Int := ((D.length : Nat) : Int)
def hL (D : List Int) : List Int := D.drop (128 * (D.length / 128))
/-- the digest -/
def shaD (D : List Int) : List Int := hsum (hS D) (hT D) (hN D) (hL D) konst

theorem hT_lt (D : List Int) : hT D < 128 := by unfold hT; omega
theorem hL_len (D : List Int) : (hL D).length = hT D := by unfold hL hT; simp; omega
theorem hN_nn (D : List Int) : 0 ≤ hN D := by unfold hN; omega
theorem hN_mod (D : List Int) : Int.tmod (hN D) 128 = ((hT D : Nat) : Int) := by
  unfold hN hT
  rw [Int.tmod_eq_emod_of_nonneg (by omega)]; omega
theorem hS_len (D : List Int) : (hS D).length = 8 := absN_len _ _ _ rfl

theorem hS_step {D c : List Int} {n : Nat} (hc : c.length = n) : wrS konst (hS D) (hL D) (sub c 0 n) (hT D) n = hS (D ++ c) := by
  rw [sub_all c n (by omega)]
  unfold wrS hS
  have e1 : hL D ++ c = (D ++ c).drop (128 * (D.length / 128)) := by
    unfold hL; rw [List.drop_append_of_le_length (by omega)]
  have e2 : (D ++ c).length / 128 = D.length / 128 + (hT D + n) / 128 := by
    rw [List.length_append, hc]; unfold hT; omega
  rw [e1, e2, absN_add, absN_left _ _ _ _ _ (by omega)]

theorem hT_step {D c : List Int} {n : Nat} (hc : c.length = n) : wrT (hT D) n = hT (D ++ c) := by
  unfold wrT hT; rw [List.length_append, hc]; omega
theorem hN_step {D c : List Int} {n : Nat} (hc : c.length = n) (h : (D ++ c).length < 1152921504606846976) : wrN (hN D) n = hN (D ++ c) := by
  rw [List.length_append] at h
  unfold hN
  rw [wrN_eq (by omega) (by omega), List.length_append, hc]
  omega
theorem hL_step {D c : List Int} {n : Nat} (hc : c.length = n) : wrL (hL D) (sub c 0 n) (hT D) n = hL (D ++ c) := by
  rw [sub_all c n (by omega)]
  unfold wrL
  have e1 : hL D ++ c = (D ++ c).drop (128 * (D.length / 128)) := by
    unfold hL; rw [List.drop_append_of_le_length (by omega)]
  rw [e1, List.drop_drop]
  unfold hL
  congr 1
  rw [List.length_append, hc]; unfold hT; omega

/-- parts that lie in a world -/
def catV (w : World) (L : List Value) : Nat → List Int
  | 0 => []
  | k + 1 => catV w L k ++ contV w (L.getD k undef)

structure PartsOk (w : World) (L : List Value) (n : Nat) : Prop where
  imp : ∀ i, i < n → ∀ (k : Nat) (β : Env), ImpOk ⟨w, [], k, β⟩ (L.getD i undef) .u8 (lenV (L.getD i undef)) (capV (L.getD i undef)) (contV w (L.getD i undef))
  small : (catV w L n).length < 70368744177664

theorem PartsOk.len {w : World} {L : List Value} {n : Nat} (h : PartsOk w L n) {i : Nat} (hi : i < n) : (contV w (L.getD i undef)).length = lenV (L.getD i undef) := by
  obtain ⟨_, _, _, h3, _⟩ := h.imp i hi 0 noEnv
  exact h3

theorem catV_mono (w : World) (L : List Value) {i : Nat} : ∀ {n : Nat}, i ≤ n → (catV w L i).length ≤ (catV w L n).length
  | 0, h => by have : i = 0 := by omega
               subst this; exact Nat.le_refl _
  | n + 1, h => by
    rcases Nat.lt_or_ge n i with h1 | h1
    · have : i = n + 1 := by omega
      subst this; exact Nat.le_refl _
    · refine Nat.le_trans (catV_mono w L h1) ?_
      show _ ≤ (catV w L n ++ _).length
      rw [List.length_append]; omega

theorem PartsOk.lt {w : World} {L : List Value} {n : Nat} (h : PartsOk w L n) {i : Nat} (hi : i ≤ n) : (catV w L i).length < 70368744177664 := Nat.lt_of_le_of_lt (catV_mono w L hi) h.small
theorem PartsOk.llt {w : World} {L : List Value} {n : Nat} (h : PartsOk w L n) {i : Nat} (hi : i < n) : lenV (L.getD i undef) < 70368744177664 := by
  have h1 := h.lt (i := i + 1) hi
  have h2 : (catV w L i ++ contV w (L.getD i undef)).length < 70368744177664 := h1
  rw [List.length_append, h.len hi] at h2; omega

/-- a part more -/
theorem PartsOk.step {w : World} {L : List Value} {n : Nat} (h : PartsOk w L n) {k : Nat} (hk : k < n) {c : List Int} (hc : c = contV w (L.getD k undef)) :
    wrS konst (hS (catV w L k)) (hL (catV w L k)) (sub c 0 (lenV (L.getD k undef))) (hT (catV w L k)) (lenV (L.getD k undef)) = hS (catV w L (k + 1)) ∧
      wrT (hT (catV w L k)) (lenV (L.getD k undef)) = hT (catV w L (k + 1)) ∧ wrN (hN (catV w L k)) (lenV (L.getD k undef)) = hN (catV w L (k + 1)) ∧
      wrL (hL (catV w L k)) (sub c 0 (lenV (L.getD k undef))) (hT (catV w L k)) (lenV (L.getD k undef)) = hL (catV w L (k + 1)) := by
  subst hc
  have h1 := h.len hk
  refine ⟨hS_step h1, hT_step h1, hN_step h1 ?_, hL_step h1⟩
  have := h.lt (i := k + 1) hk
  have h2 : (catV w L k ++ contV w (L.getD k undef)).length < 70368744177664 := this
  omega

/-- the sum of bytes -/
theorem join1_sha {n : Nat} {b : List Int} (hb : b.length = n) (h : n < 70368744177664) : join1 n b = shaD b := by
  have h0 : hS [] = H0 := rfl
  have e1 : wrS konst H0 [] (sub b 0 n) 0 n = hS b := by
    have := hS_step (D := []) hb
    exact this
  have e2 : wrT 0 n = hT b := hT_step (D := []) hb
  have e3 : wrN 0 n = hN b := hN_step (D := []) hb (by simp; omega)
  have e4 : wrL [] (sub b 0 n) 0 n = hL b := hL_step (D := []) hb
  show hsum _ _ _ _ konst = _
  unfold shaD
  rw [← e1, ← e2, ← e3, ← e4]; rfl
end Go.Proofs.Ytepimglipelpmaa.X
