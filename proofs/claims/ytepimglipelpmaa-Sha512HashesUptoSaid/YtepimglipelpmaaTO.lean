/- A script over a Hasher: the bytes that it has taken behind k steps. -/
import Derived.Test.YtepimglipelpmaaTL
namespace Go.Proofs.Ytepimglipelpmaa.X
open Go Go.Proofs
set_option linter.unusedVariables false

def stepD (w : World) (L : List Value) : Nat → List Int
  | 0 => []
  | k + 1 => if intV (L.getD (k * 2) undef) = 0 then stepD w L k ++ contV w (L.getD (k * 2 + 1) undef) else if intV (L.getD (k * 2) undef) = 4 then [] else stepD w L k

structure StepsOk (w : World) (L : List Value) (n : Nat) : Prop where
  what : ∀ i, i < n → L.getD (i * 2) undef = .int .i64 (intV (L.getD (i * 2) undef))
  imp : ∀ i, i < n → ∀ (k : Nat) (β : Env), ImpOk ⟨w, [], k, β⟩ (L.getD (i * 2 + 1) undef) .u8 (lenV (L.getD (i * 2 + 1) undef)) (capV (L.getD (i * 2 + 1) undef)) (contV w (L.getD (i * 2 + 1) undef))
  small : ∀ k, k ≤ n → (stepD w L k).length < 70368744177664

variable {w : World} {L : List Value} {n k : Nat}

theorem StepsOk.len (h : StepsOk w L n) {i : Nat} (hi : i < n) : (contV w (L.getD (i * 2 + 1) undef)).length = lenV (L.getD (i * 2 + 1) undef) := by
  obtain ⟨_, _, _, h3, _⟩ := h.imp i hi 0 noEnv
  exact h3

theorem stepD_take (hv : intV (L.getD (k * 2) undef) = 0) : stepD w L (k + 1) = stepD w L k ++ contV w (L.getD (k * 2 + 1) undef) := by
  show (if _ then _ else _) = _
  rw [if_pos hv]
theorem stepD_zero (hv : intV (L.getD (k * 2) undef) = 4) : stepD w L (k + 1) = [] := by
  show (if _ then _ else _) = _
  rw [if_neg (by omega), if_pos hv]
theorem stepD_same (h0 : intV (L.getD (k * 2) undef) ≠ 0) (h4 : intV (L.getD (k * 2) undef) ≠ 4) : stepD w L (k + 1) = stepD w L k := by
  show (if _ then _ else _) = _
  rw [if_neg h0, if_neg h4]

theorem StepsOk.llt (h : StepsOk w L n) (hk : k < n) (hv : intV (L.getD (k * 2) undef) = 0) : lenV (L.getD (k * 2 + 1) undef) < 70368744177664 := by
  have h1 := h.small (k + 1) hk
  rw [stepD_take hv, List.length_append, h.len hk] at h1; omega

theorem gq {c : List Int} {m : Nat} (h : c.length = m) : sub (gb0_1 m (sub c 0 m)) 0 m = sub c 0 m := by
  rw [sub_all c m (by omega), gb0_take h]

theorem StepsOk.step (h : StepsOk w L n) (hk : k < n) (hv : intV (L.getD (k * 2) undef) = 0) :
    wrS konst (hS (stepD w L k)) (hL (stepD w L k)) (sub (contV w (L.getD (k * 2 + 1) undef)) 0 (lenV (L.getD (k * 2 + 1) undef))) (hT (stepD w L k)) (lenV (L.getD (k * 2 + 1) undef)) = hS (stepD w L (k + 1)) ∧
      wrT (hT (stepD w L k)) (lenV (L.getD (k * 2 + 1) undef)) = hT (stepD w L (k + 1)) ∧ wrN (hN (stepD w L k)) (lenV (L.getD (k * 2 + 1) undef)) = hN (stepD w L (k + 1)) ∧
      wrL (hL (stepD w L k)) (sub (contV w (L.getD (k * 2 + 1) undef)) 0 (lenV (L.getD (k * 2 + 1) undef))) (hT (stepD w L k)) (lenV (L.getD (k * 2 + 1) undef)) = hL (stepD w L (k + 1)) := by
  have h1 := h.len hk
  have h2 := h.small (k + 1) hk
  rw [stepD_take hv] at h2 ⊢
  exact ⟨hS_step h1, hT_step h1, hN_step h1 (by omega), hL_step h1⟩

theorem fin_sha (D : List Int) : hsum (hS D) (hT D) (hN D) (hL D) konst = finR (hS D) (hT D) (sub (hL D) 0 (hT D)) (hN D) := by
  rw [sub_all _ _ (Nat.le_of_eq (hL_len D))]
  exact (fin_eq (hS_len D) (hL_len D) (hN_nn D) (hN_mod D)).symm
end Go.Proofs.Ytepimglipelpmaa.X
