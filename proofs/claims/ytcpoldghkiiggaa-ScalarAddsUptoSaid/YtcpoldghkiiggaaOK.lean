/- The reference's product of two numbers is their product. -/
import Derived.Test.YtcpoldghkiiggaaOJ
namespace Go.Proofs.Ytcpoldghkiiggaa.X
open Go Go.Proofs
set_option linter.unusedVariables false

def valL : List Int → Int
  | [] => 0
  | a :: r => a + 4294967296 * valL r
def pw (n : Nat) : Int := 4294967296 ^ n
theorem pw_succ (n : Nat) : pw (n + 1) = 4294967296 * pw n := by unfold pw; rw [Int.pow_succ, Int.mul_comm]
theorem pw_add (m n : Nat) : pw (m + n) = pw m * pw n := by unfold pw; exact Int.pow_add _ _ _

theorem val_set (x : Int) : ∀ (l : List Int) (i : Nat), i < l.length → valL (l.set i x) = valL l + (x - List.getD l i 0) * pw i
  | [], i, h => by simp at h
  | a :: r, 0, _ => by
    show x + 4294967296 * valL r = a + 4294967296 * valL r + (x - a) * 1
    omega
  | a :: r, i + 1, h => by
    have ih := val_set x r i (by simpa using h)
    show a + 4294967296 * valL (r.set i x) = a + 4294967296 * valL r + (x - List.getD r i 0) * pw (i + 1)
    rw [ih, pw_succ, Int.mul_add, Int.mul_left_comm]
    omega

def tV (T : List Int) : Nat → Int
  | 0 => 0
  | j + 1 => tV T j + List.getD T j 0 * pw j

theorem wd8_set {l : List Int} (h : Wd8 l) (i : Nat) {x : Int} (hx : 0 ≤ x ∧ x < 4294967296) : Wd8 (l.set i x) := by
  intro y hy
  rcases List.mem_or_eq_of_mem_set hy with h1 | h1
  · exact h y h1
  · rw [h1]; exact hx

theorem mV_eq {S T l : List Int} {k j : Nat} {c : Int} (hS : Wd8 S) (hT : Wd8 T) (hl : Wd8 l) (hc : 0 ≤ c ∧ c < 4294967296) : mV S T l k j c = c + List.getD l (k + j) 0 + List.getD S k 0 * List.getD T j 0 ∧ 0 ≤ mV S T l k j c ∧ mV S T l k j c < 18446744073709551616 := by
  have a := wd8_get hS k
  have b := wd8_get hT j
  have d := wd8_get hl (k + j)
  have p := mul_le32 a.1 a.2 b.1 b.2
  unfold mV
  simp only [wrap64]
  have e1 : List.getD S k 0 % 18446744073709551616 = List.getD S k 0 := by omega
  have e2 : List.getD T j 0 % 18446744073709551616 = List.getD T j 0 := by omega
  rw [e1, e2]
  generalize List.getD S k 0 * List.getD T j 0 = q at *
  omega

theorem mI_inv {S T l : List Int} {k : Nat} (hS : Wd8 S) (hT : Wd8 T) (hl : Wd8 l) (h16 : l.length = 16) (hk : k < 8) : ∀ j, j ≤ 8 → Wd8 (mIl S T k l j) ∧ (0 ≤ mIc S T k l j ∧ mIc S T k l j < 4294967296) ∧
    valL (mIl S T k l j) + mIc S T k l j * pw (k + j) = valL l + List.getD S k 0 * (pw k * tV T j) ∧ ∀ i, k + j ≤ i → List.getD (mIl S T k l j) i 0 = List.getD l i 0
  | 0, _ => ⟨hl, ⟨Int.le_refl 0, by show (0 : Int) < 4294967296; omega⟩, by show valL l + 0 * pw (k + 0) = valL l + List.getD S k 0 * (pw k * 0); rw [Int.zero_mul, Int.mul_zero, Int.mul_zero], fun _ _ => rfl⟩
  | j + 1, hj => by
    obtain ⟨i1, i2, i3, i4⟩ := mI_inv hS hT hl h16 hk j (by omega)
    obtain ⟨e, e0, e1⟩ := mV_eq (k := k) (j := j) hS hT i1 i2
    have hlen : (mIl S T k l j).length = 16 := by rw [mIl_len, h16]
    have hlst : mIl S T k l (j + 1) = (mIl S T k l j).set (k + j) (IntKind.u32.wrap (mV S T (mIl S T k l j) k j (mIc S T k l j))) := rfl
    have hcar : mIc S T k l (j + 1) = mV S T (mIl S T k l j) k j (mIc S T k l j) / 4294967296 := shr32
    refine ⟨by rw [hlst]; exact wd8_set i1 _ (wrap32_rng _), by rw [hcar]; omega, ?_, ?_⟩
    · rw [hlst, hcar, val_set _ _ _ (by omega), wrap32, show k + (j + 1) = (k + j) + 1 by omega, pw_succ]
      show _ = valL l + List.getD S k 0 * (pw k * (tV T j + List.getD T j 0 * pw j))
      have hp : pw (k + j) = pw k * pw j := pw_add k j
      have hR : List.getD S k 0 * (pw k * (tV T j + List.getD T j 0 * pw j)) = List.getD S k 0 * (pw k * tV T j) + (List.getD S k 0 * List.getD T j 0) * pw (k + j) := by
        rw [hp, Int.mul_add, Int.mul_add]
        congr 1
        rw [Int.mul_left_comm (pw k), ← Int.mul_assoc]
      rw [hR, ← Int.add_assoc, ← i3]
      generalize mV S T (mIl S T k l j) k j (mIc S T k l j) = v at *
      have hv : v = 4294967296 * (v / 4294967296) + v % 4294967296 := by omega
      generalize pw (k + j) = p at *
      generalize List.getD S k 0 * List.getD T j 0 = q at *
      generalize mIc S T k l j = c at *
      generalize List.getD (mIl S T k l j) (k + j) 0 = d at *
      generalize valL (mIl S T k l j) = V at *
      have h1 : (v % 4294967296 - d) * p + v / 4294967296 * (4294967296 * p) = (v - d) * p := by
        rw [← Int.mul_assoc, ← Int.add_mul]
        congr 1
        omega
      rw [Int.add_assoc, h1, e, show c + d + q - d = c + q by omega, Int.add_mul, ← Int.add_assoc]
    · intro i hi
      rw [hlst, List.getD_eq_getElem?_getD, List.getElem?_set_ne (by omega), ← List.getD_eq_getElem?_getD]
      exact i4 i (by omega)
end Go.Proofs.Ytcpoldghkiiggaa.X
