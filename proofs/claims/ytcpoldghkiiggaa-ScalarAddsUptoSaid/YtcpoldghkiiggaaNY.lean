/- Division bit by bit is division. -/
import Derived.Test.YtcpoldghkiiggaaNX
namespace Go.Proofs.Ytcpoldghkiiggaa.X
open Go Go.Proofs
set_option linter.unusedVariables false

theorem V8_OR8 : V8 OR8 = LL := by decide +kernel

theorem rI_step {x r : Int} {k : Nat} (h0 : 0 ≤ rI x r k) (h1 : rI x r k < LL) (hb : 0 ≤ bitX x k ∧ bitX x k ≤ 1) : rI x r (k + 1) = modL (2 * rI x r k + bitX x k) := by
  have e1 : V8 (W8 (rI x r k)) = rI x r k := V8_W8 h0 (by unfold LL at h1; omega)
  have e2 : dbl (rI x r k) (bitX x k) = 2 * rI x r k + bitX x k := by unfold dbl; unfold LL at h1; omega
  have e3 : V8 (W8 (2 * rI x r k + bitX x k)) = 2 * rI x r k + bitX x k := V8_W8 (by omega) (by unfold LL at h1; omega)
  by_cases hc : V8 (W8 (dbl (V8 (W8 (rI x r k))) (bitX x k))) < V8 OR8
  · rw [rI_a hc, e1, e2]
    rw [e1, e2, e3, V8_OR8] at hc
    unfold modL; exact (Int.emod_eq_of_lt (by omega) hc).symm
  · rw [rI_b hc, e1, e2, e3, V8_OR8]
    rw [e1, e2, e3, V8_OR8] at hc
    unfold difR modL
    unfold LL at *
    omega

theorem modL_2 (A b : Int) : modL (2 * modL A + b) = modL (2 * A + b) := by
  unfold modL
  rw [Int.add_emod, Int.mul_emod, Int.emod_emod_of_dvd _ (Int.dvd_refl LL), ← Int.mul_emod, ← Int.add_emod]

theorem bitX_eq {x : Int} {k : Nat} (h0 : 0 ≤ x) (hk : k < 32) : bitX x k = x / 2 ^ (31 - k) % 2 := by
  unfold bitX
  rw [bit_and]
  congr 1
  have e : IntKind.u64.wrap ((31 : Int) - ((k : Nat) : Int)) = ((31 - k : Nat) : Int) := by rw [wrap64]; omega
  rw [e]
  have e2 : shr .u32 x ((31 - k : Nat) : Int) = x.fdiv (2 ^ (min (31 - k) 32)) := rfl
  rw [e2, Nat.min_eq_left (by omega), Int.fdiv_eq_ediv_of_nonneg _ (Int.le_of_lt (Int.pow_pos (by omega)))]

theorem rI_eq {x r : Int} (h0 : 0 ≤ x) (h1 : x < 4294967296) (r0 : 0 ≤ r) (r1 : r < LL) : ∀ k : Nat, k ≤ 32 → rI x r k = modL (r * 2 ^ k + x / 2 ^ (32 - k))
  | 0, _ => by
    show r = modL (r * 2 ^ 0 + x / 2 ^ 32)
    have : x / 2 ^ 32 = 0 := Int.ediv_eq_zero_of_lt h0 (by exact h1)
    rw [this]
    unfold modL
    rw [show r * 2 ^ 0 + 0 = r by omega]; exact (Int.emod_eq_of_lt r0 r1).symm
  | k + 1, hk => by
    have ih := rI_eq h0 h1 r0 r1 k (by omega)
    have hm := modL_rng (r * 2 ^ k + x / 2 ^ (32 - k))
    rw [← ih] at hm
    have hb := bitX_eq h0 (show k < 32 by omega)
    rw [rI_step hm.1 hm.2.1 (by rw [hb]; omega), ih, modL_2, hb]
    congr 1
    have e1 : x / 2 ^ (32 - k) = x / 2 ^ (31 - k) / 2 := by
      rw [show 32 - k = (31 - k) + 1 by omega, Int.pow_succ]
      first | exact (Int.ediv_ediv_of_nonneg (Int.le_of_lt (Int.pow_pos (by omega)))).symm | exact (Int.ediv_ediv_eq_ediv_mul x (Int.le_of_lt (Int.pow_pos (by omega)))).symm | exact (Int.ediv_ediv (Int.le_of_lt (Int.pow_pos (by omega)))).symm
    rw [e1, show 32 - (k + 1) = 31 - k by omega, Int.pow_succ]
    generalize x / 2 ^ (31 - k) = y
    rw [← Int.mul_assoc]
    generalize r * 2 ^ k = z
    omega

/-- the number of the uppermost t digits -/
def topV (l : List Int) (n : Nat) : Nat → Int
  | 0 => 0
  | t + 1 => topV l n t * 4294967296 + List.getD l (Int.toNat (((n : Nat) : Int) - (1 : Int) - ((t : Nat) : Int))) 0

theorem wd8_get {S : List Int} (h : Wd8 S) (i : Nat) : 0 ≤ List.getD S i 0 ∧ List.getD S i 0 < 4294967296 := by
  rw [List.getD_eq_getElem?_getD]
  by_cases hi : i < S.length
  · rw [List.getElem?_eq_getElem hi]; exact h _ (List.getElem_mem hi)
  · rw [List.getElem?_eq_none (by omega)]; simp

theorem rO_eq {l : List Int} (h : Wd8 l) (n : Nat) : ∀ t, rO l n t = modL (topV l n t)
  | 0 => by show (0 : Int) = modL 0; rfl
  | t + 1 => by
    have hx := wd8_get h (Int.toNat (((n : Nat) : Int) - (1 : Int) - ((t : Nat) : Int)))
    show rI _ (rO l n t) 32 = modL (topV l n t * 4294967296 + _)
    rw [rO_eq h n t]
    have hm := modL_rng (topV l n t)
    rw [rI_eq hx.1 hx.2 hm.1 hm.2.1 32 (Nat.le_refl _)]
    unfold modL
    show (topV l n t % LL * 4294967296 + List.getD l _ 0 / 1) % LL = _
    rw [Int.ediv_one, Int.add_emod, Int.mul_emod, Int.emod_emod_of_dvd _ (Int.dvd_refl LL), ← Int.mul_emod, ← Int.add_emod]

theorem mod_can (n nm : Nat) (l : List Int) (cap0 : Nat) (h0 : nm = n) (h1 : n < 70368744177664) (h2 : Wd8 l) (w : World) (β : Env) : Body Try.prog (tabOf tabNX) Try.f77 ⟨w, [], 1, β⟩ [.o (.a (.sl 0 (0 : Nat) n cap0))] [some ⟨false, [.ints .u32 nm l]⟩] (fun ys _ => ys = [.g [.ints .u32 (8 : Nat) (W8 (modL (topV l n n)))]]) :=
  (modR_body n nm l cap0 h0 h1 w β).mono fun xs K hx => by
    subst hx
    have e : modR n l = W8 (modL (topV l n n)) := by show W8 (rO l n n) = _; rw [rO_eq h2]
    rw [e]
end Go.Proofs.Ytcpoldghkiiggaa.X
