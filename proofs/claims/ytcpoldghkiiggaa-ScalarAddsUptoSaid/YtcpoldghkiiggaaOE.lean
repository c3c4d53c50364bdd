/- What the functions compute, as numbers, on both sides. -/
import Derived.Test.YtcpoldghkiiggaaOD
namespace Go.Proofs.Ytcpoldghkiiggaa.X
open Go Go.Proofs
set_option linter.unusedVariables false

theorem modL_add (x y : Int) : modL (modL x + modL y) = modL (x + y) := (Int.add_emod x y LL).symm
theorem modL_mul (x y : Int) : modL (modL x * modL y) = modL (x * y) := (Int.mul_emod x y LL).symm
theorem modL_addl (x y : Int) : modL (modL x + y) = modL (x + y) := by
  unfold modL; rw [Int.add_emod, Int.emod_emod_of_dvd _ (Int.dvd_refl LL), ← Int.add_emod]
theorem low_add {x y : Int} (hx : 0 ≤ x ∧ x < LL) (hy : 0 ≤ y ∧ y < LL) : low (addR x y) = modL (x + y) := by
  have e : addR x y = x + y := by unfold addR; unfold LL at *; omega
  rw [e]; exact low_mod (by omega) (by omega)
theorem modL_b (v : Int) : 0 ≤ modL v ∧ modL v < LL := ⟨(modL_rng v).1, (modL_rng v).2.1⟩

theorem addP_eq (a b : List Int) : addP a b = B32 (modL (BV a + BV b)) := by
  unfold addP
  rw [V4_modL, V4_modL, low_add (modL_b _) (modL_b _), V4_modL, modL_add]

theorem negL_eq (v : Int) : negL (modL v) = modL (-v) := by
  unfold negL difR modL
  unfold LL
  split <;> omega
theorem negP_eq (a : List Int) : negP a = B32 (modL (-(BV a))) := by
  unfold negP
  rw [V4_modL, negL_eq, V4_modL]
theorem subP_eq (a b : List Int) : subP a b = B32 (modL (BV a - BV b)) := by
  unfold subP
  rw [V4_modL, V4_modL, negL_eq, V4_modL, low_add (modL_b _) (modL_b _), V4_modL, modL_add, Int.sub_eq_add_neg]
theorem timesW (x y : Int) : times (W4 (modL x)) (W4 (modL y)) = W4 (modL (x * y)) := by
  unfold times
  rw [V4_modL, V4_modL, V4_mont, V4_radx, times_eq, modL_mul]
theorem mulP_eq (a b : List Int) : mulP a b = B32 (modL (BV a * BV b)) := by
  unfold mulP
  rw [timesW, V4_modL]
theorem maddP_eq (a b c : List Int) : maddP a b c = B32 (modL (BV a * BV b + BV c)) := by
  unfold maddP
  rw [timesW, V4_modL, V4_modL, low_add (modL_b _) (modL_b _), V4_modL, modL_add]

theorem W4_zero {v : Int} (h0 : 0 ≤ v) (h1 : v < 115792089237316195423570985008687907853269984665640564039457584007913129639936) : W4 v = [0, 0, 0, 0] ↔ v = 0 := by
  constructor
  · intro h
    have := V4_W4 h0 h1
    rw [h] at this
    exact this.symm
  · intro h; subst h; decide +kernel
theorem W8_zero {v : Int} (h0 : 0 ≤ v) (h1 : v < 115792089237316195423570985008687907853269984665640564039457584007913129639936) : W8 v = [0, 0, 0, 0, 0, 0, 0, 0] ↔ v = 0 := by
  constructor
  · intro h
    have := V8_W8 h0 h1
    rw [h] at this
    exact this.symm
  · intro h; subst h; exact W8_0
theorem isz_eq (a : List Int) : iszP a = iszR a := by
  unfold iszP iszR
  rw [decide_eq_decide, W4_zero (modL_rng _).1 (modL_rng _).2.2, W8_zero (modL_rng _).1 (modL_rng _).2.2]

/-- a digit and what is carried -/
def cW (c x y : Int) : Int := IntKind.u64.wrap (IntKind.u64.wrap (c + IntKind.u64.wrap x) + IntKind.u64.wrap y)
theorem cW_eq {c x y : Int} (hc : 0 ≤ c ∧ c ≤ 1) (hx : 0 ≤ x ∧ x < 4294967296) (hy : 0 ≤ y ∧ y < 4294967296) :
    IntKind.u32.wrap (cW c x y) + 4294967296 * shr .u64 (cW c x y) 32 = c + x + y ∧ (0 ≤ shr .u64 (cW c x y) 32 ∧ shr .u64 (cW c x y) 32 ≤ 1) := by
  rw [shr32, wrap32]
  unfold cW
  simp only [wrap64]
  omega
theorem top9 {a0 a1 a2 a3 a4 a5 a6 a7 a8 : Int} : topV [a0, a1, a2, a3, a4, a5, a6, a7, a8] 9 9 = a0 + 4294967296 * (a1 + 4294967296 * (a2 + 4294967296 * (a3 + 4294967296 * (a4 + 4294967296 * (a5 + 4294967296 * (a6 + 4294967296 * (a7 + 4294967296 * a8))))))) := by
  show ((((((((0 * 4294967296 + a8) * 4294967296 + a7) * 4294967296 + a6) * 4294967296 + a5) * 4294967296 + a4) * 4294967296 + a3) * 4294967296 + a2) * 4294967296 + a1) * 4294967296 + a0 = _
  omega
theorem nest8 {a0 a1 a2 a3 a4 a5 a6 a7 : Int} : V8 [a0, a1, a2, a3, a4, a5, a6, a7] = a0 + 4294967296 * (a1 + 4294967296 * (a2 + 4294967296 * (a3 + 4294967296 * (a4 + 4294967296 * (a5 + 4294967296 * (a6 + 4294967296 * a7)))))) := by
  show a0 + 4294967296 * a1 + 18446744073709551616 * a2 + 79228162514264337593543950336 * a3 + 340282366920938463463374607431768211456 * a4 + 1461501637330902918203684832716283019655932542976 * a5 + 6277101735386680763835789423207666416102355444464034512896 * a6 + 26959946667150639794667015087019630673637144422540572481103610249216 * a7 = _
  omega
theorem sum8 {S T : List Int} (hS : Wd8 S) (hT : Wd8 T) (lS : S.length = 8) (lT : T.length = 8) : topV [IntKind.u32.wrap (cW 0 (List.getD S 0 0) (List.getD T 0 0)), IntKind.u32.wrap (cW (shr .u64 (cW 0 (List.getD S 0 0) (List.getD T 0 0)) 32) (List.getD S 1 0) (List.getD T 1 0)), IntKind.u32.wrap (cW (shr .u64 (cW (shr .u64 (cW 0 (List.getD S 0 0) (List.getD T 0 0)) 32) (List.getD S 1 0) (List.getD T 1 0)) 32) (List.getD S 2 0) (List.getD T 2 0)), IntKind.u32.wrap (cW (shr .u64 (cW (shr .u64 (cW (shr .u64 (cW 0 (List.getD S 0 0) (List.getD T 0 0)) 32) (List.getD S 1 0) (List.getD T 1 0)) 32) (List.getD S 2 0) (List.getD T 2 0)) 32) (List.getD S 3 0) (List.getD T 3 0)), IntKind.u32.wrap (cW (shr .u64 (cW (shr .u64 (cW (shr .u64 (cW (shr .u64 (cW 0 (List.getD S 0 0) (List.getD T 0 0)) 32) (List.getD S 1 0) (List.getD T 1 0)) 32) (List.getD S 2 0) (List.getD T 2 0)) 32) (List.getD S 3 0) (List.getD T 3 0)) 32) (List.getD S 4 0) (List.getD T 4 0)), IntKind.u32.wrap (cW (shr .u64 (cW (shr .u64 (cW (shr .u64 (cW (shr .u64 (cW (shr .u64 (cW 0 (List.getD S 0 0) (List.getD T 0 0)) 32) (List.getD S 1 0) (List.getD T 1 0)) 32) (List.getD S 2 0) (List.getD T 2 0)) 32) (List.getD S 3 0) (List.getD T 3 0)) 32) (List.getD S 4 0) (List.getD T 4 0)) 32) (List.getD S 5 0) (List.getD T 5 0)), IntKind.u32.wrap (cW (shr .u64 (cW (shr .u64 (cW (shr .u64 (cW (shr .u64 (cW (shr .u64 (cW (shr .u64 (cW 0 (List.getD S 0 0) (List.getD T 0 0)) 32) (List.getD S 1 0) (List.getD T 1 0)) 32) (List.getD S 2 0) (List.getD T 2 0)) 32) (List.getD S 3 0) (List.getD T 3 0)) 32) (List.getD S 4 0) (List.getD T 4 0)) 32) (List.getD S 5 0) (List.getD T 5 0)) 32) (List.getD S 6 0) (List.getD T 6 0)), IntKind.u32.wrap (cW (shr .u64 (cW (shr .u64 (cW (shr .u64 (cW (shr .u64 (cW (shr .u64 (cW (shr .u64 (cW (shr .u64 (cW 0 (List.getD S 0 0) (List.getD T 0 0)) 32) (List.getD S 1 0) (List.getD T 1 0)) 32) (List.getD S 2 0) (List.getD T 2 0)) 32) (List.getD S 3 0) (List.getD T 3 0)) 32) (List.getD S 4 0) (List.getD T 4 0)) 32) (List.getD S 5 0) (List.getD T 5 0)) 32) (List.getD S 6 0) (List.getD T 6 0)) 32) (List.getD S 7 0) (List.getD T 7 0)), IntKind.u32.wrap (shr .u64 (cW (shr .u64 (cW (shr .u64 (cW (shr .u64 (cW (shr .u64 (cW (shr .u64 (cW (shr .u64 (cW (shr .u64 (cW 0 (List.getD S 0 0) (List.getD T 0 0)) 32) (List.getD S 1 0) (List.getD T 1 0)) 32) (List.getD S 2 0) (List.getD T 2 0)) 32) (List.getD S 3 0) (List.getD T 3 0)) 32) (List.getD S 4 0) (List.getD T 4 0)) 32) (List.getD S 5 0) (List.getD T 5 0)) 32) (List.getD S 6 0) (List.getD T 6 0)) 32) (List.getD S 7 0) (List.getD T 7 0)) 32)] 9 9 = V8 S + V8 T := by
  obtain ⟨a0, a1, a2, a3, a4, a5, a6, a7, rfl⟩ := eight8 lS
  obtain ⟨b0, b1, b2, b3, b4, b5, b6, b7, rfl⟩ := eight8 lT
  have j0 := hS a0 (by simp)
  have k0 := hT b0 (by simp)
  have j1 := hS a1 (by simp)
  have k1 := hT b1 (by simp)
  have j2 := hS a2 (by simp)
  have k2 := hT b2 (by simp)
  have j3 := hS a3 (by simp)
  have k3 := hT b3 (by simp)
  have j4 := hS a4 (by simp)
  have k4 := hT b4 (by simp)
  have j5 := hS a5 (by simp)
  have k5 := hT b5 (by simp)
  have j6 := hS a6 (by simp)
  have k6 := hT b6 (by simp)
  have j7 := hS a7 (by simp)
  have k7 := hT b7 (by simp)
  have e0 := cW_eq (c := 0) (by omega) j0 k0
  have e1 := cW_eq e0.2 j1 k1
  have e2 := cW_eq e1.2 j2 k2
  have e3 := cW_eq e2.2 j3 k3
  have e4 := cW_eq e3.2 j4 k4
  have e5 := cW_eq e4.2 j5 k5
  have e6 := cW_eq e5.2 j6 k6
  have e7 := cW_eq e6.2 j7 k7
  show topV [IntKind.u32.wrap (cW 0 a0 b0), IntKind.u32.wrap (cW (shr .u64 (cW 0 a0 b0) 32) a1 b1), IntKind.u32.wrap (cW (shr .u64 (cW (shr .u64 (cW 0 a0 b0) 32) a1 b1) 32) a2 b2), IntKind.u32.wrap (cW (shr .u64 (cW (shr .u64 (cW (shr .u64 (cW 0 a0 b0) 32) a1 b1) 32) a2 b2) 32) a3 b3), IntKind.u32.wrap (cW (shr .u64 (cW (shr .u64 (cW (shr .u64 (cW (shr .u64 (cW 0 a0 b0) 32) a1 b1) 32) a2 b2) 32) a3 b3) 32) a4 b4), IntKind.u32.wrap (cW (shr .u64 (cW (shr .u64 (cW (shr .u64 (cW (shr .u64 (cW (shr .u64 (cW 0 a0 b0) 32) a1 b1) 32) a2 b2) 32) a3 b3) 32) a4 b4) 32) a5 b5), IntKind.u32.wrap (cW (shr .u64 (cW (shr .u64 (cW (shr .u64 (cW (shr .u64 (cW (shr .u64 (cW (shr .u64 (cW 0 a0 b0) 32) a1 b1) 32) a2 b2) 32) a3 b3) 32) a4 b4) 32) a5 b5) 32) a6 b6), IntKind.u32.wrap (cW (shr .u64 (cW (shr .u64 (cW (shr .u64 (cW (shr .u64 (cW (shr .u64 (cW (shr .u64 (cW (shr .u64 (cW 0 a0 b0) 32) a1 b1) 32) a2 b2) 32) a3 b3) 32) a4 b4) 32) a5 b5) 32) a6 b6) 32) a7 b7), IntKind.u32.wrap (shr .u64 (cW (shr .u64 (cW (shr .u64 (cW (shr .u64 (cW (shr .u64 (cW (shr .u64 (cW (shr .u64 (cW (shr .u64 (cW 0 a0 b0) 32) a1 b1) 32) a2 b2) 32) a3 b3) 32) a4 b4) 32) a5 b5) 32) a6 b6) 32) a7 b7) 32)] 9 9 = _
  rw [top9, nest8, nest8, wrap32 (shr .u64 (cW (shr .u64 (cW (shr .u64 (cW (shr .u64 (cW (shr .u64 (cW (shr .u64 (cW (shr .u64 (cW (shr .u64 (cW 0 a0 b0) 32) a1 b1) 32) a2 b2) 32) a3 b3) 32) a4 b4) 32) a5 b5) 32) a6 b6) 32) a7 b7) 32)]
  generalize shr .u64 (cW (shr .u64 (cW (shr .u64 (cW (shr .u64 (cW (shr .u64 (cW (shr .u64 (cW (shr .u64 (cW (shr .u64 (cW 0 a0 b0) 32) a1 b1) 32) a2 b2) 32) a3 b3) 32) a4 b4) 32) a5 b5) 32) a6 b6) 32) a7 b7) 32 = c7 at *
  generalize IntKind.u32.wrap (cW (shr .u64 (cW (shr .u64 (cW (shr .u64 (cW (shr .u64 (cW (shr .u64 (cW (shr .u64 (cW (shr .u64 (cW 0 a0 b0) 32) a1 b1) 32) a2 b2) 32) a3 b3) 32) a4 b4) 32) a5 b5) 32) a6 b6) 32) a7 b7) = s7 at *
  generalize shr .u64 (cW (shr .u64 (cW (shr .u64 (cW (shr .u64 (cW (shr .u64 (cW (shr .u64 (cW (shr .u64 (cW 0 a0 b0) 32) a1 b1) 32) a2 b2) 32) a3 b3) 32) a4 b4) 32) a5 b5) 32) a6 b6) 32 = c6 at *
  generalize IntKind.u32.wrap (cW (shr .u64 (cW (shr .u64 (cW (shr .u64 (cW (shr .u64 (cW (shr .u64 (cW (shr .u64 (cW 0 a0 b0) 32) a1 b1) 32) a2 b2) 32) a3 b3) 32) a4 b4) 32) a5 b5) 32) a6 b6) = s6 at *
  generalize shr .u64 (cW (shr .u64 (cW (shr .u64 (cW (shr .u64 (cW (shr .u64 (cW (shr .u64 (cW 0 a0 b0) 32) a1 b1) 32) a2 b2) 32) a3 b3) 32) a4 b4) 32) a5 b5) 32 = c5 at *
  generalize IntKind.u32.wrap (cW (shr .u64 (cW (shr .u64 (cW (shr .u64 (cW (shr .u64 (cW (shr .u64 (cW 0 a0 b0) 32) a1 b1) 32) a2 b2) 32) a3 b3) 32) a4 b4) 32) a5 b5) = s5 at *
  generalize shr .u64 (cW (shr .u64 (cW (shr .u64 (cW (shr .u64 (cW (shr .u64 (cW 0 a0 b0) 32) a1 b1) 32) a2 b2) 32) a3 b3) 32) a4 b4) 32 = c4 at *
  generalize IntKind.u32.wrap (cW (shr .u64 (cW (shr .u64 (cW (shr .u64 (cW (shr .u64 (cW 0 a0 b0) 32) a1 b1) 32) a2 b2) 32) a3 b3) 32) a4 b4) = s4 at *
  generalize shr .u64 (cW (shr .u64 (cW (shr .u64 (cW (shr .u64 (cW 0 a0 b0) 32) a1 b1) 32) a2 b2) 32) a3 b3) 32 = c3 at *
  generalize IntKind.u32.wrap (cW (shr .u64 (cW (shr .u64 (cW (shr .u64 (cW 0 a0 b0) 32) a1 b1) 32) a2 b2) 32) a3 b3) = s3 at *
  generalize shr .u64 (cW (shr .u64 (cW (shr .u64 (cW 0 a0 b0) 32) a1 b1) 32) a2 b2) 32 = c2 at *
  generalize IntKind.u32.wrap (cW (shr .u64 (cW (shr .u64 (cW 0 a0 b0) 32) a1 b1) 32) a2 b2) = s2 at *
  generalize shr .u64 (cW (shr .u64 (cW 0 a0 b0) 32) a1 b1) 32 = c1 at *
  generalize IntKind.u32.wrap (cW (shr .u64 (cW 0 a0 b0) 32) a1 b1) = s1 at *
  generalize shr .u64 (cW 0 a0 b0) 32 = c0 at *
  generalize IntKind.u32.wrap (cW 0 a0 b0) = s0 at *
  clear hS hT lS lT
  omega
theorem addR_eq (a b : List Int) : addR_ a b = B32 (modL (BV a + BV b)) := by
  have e := sum8 (wd8_W8 (modL (BV a))) (wd8_W8 (modL (BV b))) rfl rfl
  rw [V8_modL, V8_modL] at e
  have e2 : addR_ a b = B32 (V8 (W8 (modL (topV [IntKind.u32.wrap (cW 0 (List.getD (W8 (modL (BV a))) 0 0) (List.getD (W8 (modL (BV b))) 0 0)), IntKind.u32.wrap (cW (shr .u64 (cW 0 (List.getD (W8 (modL (BV a))) 0 0) (List.getD (W8 (modL (BV b))) 0 0)) 32) (List.getD (W8 (modL (BV a))) 1 0) (List.getD (W8 (modL (BV b))) 1 0)), IntKind.u32.wrap (cW (shr .u64 (cW (shr .u64 (cW 0 (List.getD (W8 (modL (BV a))) 0 0) (List.getD (W8 (modL (BV b))) 0 0)) 32) (List.getD (W8 (modL (BV a))) 1 0) (List.getD (W8 (modL (BV b))) 1 0)) 32) (List.getD (W8 (modL (BV a))) 2 0) (List.getD (W8 (modL (BV b))) 2 0)), IntKind.u32.wrap (cW (shr .u64 (cW (shr .u64 (cW (shr .u64 (cW 0 (List.getD (W8 (modL (BV a))) 0 0) (List.getD (W8 (modL (BV b))) 0 0)) 32) (List.getD (W8 (modL (BV a))) 1 0) (List.getD (W8 (modL (BV b))) 1 0)) 32) (List.getD (W8 (modL (BV a))) 2 0) (List.getD (W8 (modL (BV b))) 2 0)) 32) (List.getD (W8 (modL (BV a))) 3 0) (List.getD (W8 (modL (BV b))) 3 0)), IntKind.u32.wrap (cW (shr .u64 (cW (shr .u64 (cW (shr .u64 (cW (shr .u64 (cW 0 (List.getD (W8 (modL (BV a))) 0 0) (List.getD (W8 (modL (BV b))) 0 0)) 32) (List.getD (W8 (modL (BV a))) 1 0) (List.getD (W8 (modL (BV b))) 1 0)) 32) (List.getD (W8 (modL (BV a))) 2 0) (List.getD (W8 (modL (BV b))) 2 0)) 32) (List.getD (W8 (modL (BV a))) 3 0) (List.getD (W8 (modL (BV b))) 3 0)) 32) (List.getD (W8 (modL (BV a))) 4 0) (List.getD (W8 (modL (BV b))) 4 0)), IntKind.u32.wrap (cW (shr .u64 (cW (shr .u64 (cW (shr .u64 (cW (shr .u64 (cW (shr .u64 (cW 0 (List.getD (W8 (modL (BV a))) 0 0) (List.getD (W8 (modL (BV b))) 0 0)) 32) (List.getD (W8 (modL (BV a))) 1 0) (List.getD (W8 (modL (BV b))) 1 0)) 32) (List.getD (W8 (modL (BV a))) 2 0) (List.getD (W8 (modL (BV b))) 2 0)) 32) (List.getD (W8 (modL (BV a))) 3 0) (List.getD (W8 (modL (BV b))) 3 0)) 32) (List.getD (W8 (modL (BV a))) 4 0) (List.getD (W8 (modL (BV b))) 4 0)) 32) (List.getD (W8 (modL (BV a))) 5 0) (List.getD (W8 (modL (BV b))) 5 0)), IntKind.u32.wrap (cW (shr .u64 (cW (shr .u64 (cW (shr .u64 (cW (shr .u64 (cW (shr .u64 (cW (shr .u64 (cW 0 (List.getD (W8 (modL (BV a))) 0 0) (List.getD (W8 (modL (BV b))) 0 0)) 32) (List.getD (W8 (modL (BV a))) 1 0) (List.getD (W8 (modL (BV b))) 1 0)) 32) (List.getD (W8 (modL (BV a))) 2 0) (List.getD (W8 (modL (BV b))) 2 0)) 32) (List.getD (W8 (modL (BV a))) 3 0) (List.getD (W8 (modL (BV b))) 3 0)) 32) (List.getD (W8 (modL (BV a))) 4 0) (List.getD (W8 (modL (BV b))) 4 0)) 32) (List.getD (W8 (modL (BV a))) 5 0) (List.getD (W8 (modL (BV b))) 5 0)) 32) (List.getD (W8 (modL (BV a))) 6 0) (List.getD (W8 (modL (BV b))) 6 0)), IntKind.u32.wrap (cW (shr .u64 (cW (shr .u64 (cW (shr .u64 (cW (shr .u64 (cW (shr .u64 (cW (shr .u64 (cW (shr .u64 (cW 0 (List.getD (W8 (modL (BV a))) 0 0) (List.getD (W8 (modL (BV b))) 0 0)) 32) (List.getD (W8 (modL (BV a))) 1 0) (List.getD (W8 (modL (BV b))) 1 0)) 32) (List.getD (W8 (modL (BV a))) 2 0) (List.getD (W8 (modL (BV b))) 2 0)) 32) (List.getD (W8 (modL (BV a))) 3 0) (List.getD (W8 (modL (BV b))) 3 0)) 32) (List.getD (W8 (modL (BV a))) 4 0) (List.getD (W8 (modL (BV b))) 4 0)) 32) (List.getD (W8 (modL (BV a))) 5 0) (List.getD (W8 (modL (BV b))) 5 0)) 32) (List.getD (W8 (modL (BV a))) 6 0) (List.getD (W8 (modL (BV b))) 6 0)) 32) (List.getD (W8 (modL (BV a))) 7 0) (List.getD (W8 (modL (BV b))) 7 0)), IntKind.u32.wrap (shr .u64 (cW (shr .u64 (cW (shr .u64 (cW (shr .u64 (cW (shr .u64 (cW (shr .u64 (cW (shr .u64 (cW (shr .u64 (cW 0 (List.getD (W8 (modL (BV a))) 0 0) (List.getD (W8 (modL (BV b))) 0 0)) 32) (List.getD (W8 (modL (BV a))) 1 0) (List.getD (W8 (modL (BV b))) 1 0)) 32) (List.getD (W8 (modL (BV a))) 2 0) (List.getD (W8 (modL (BV b))) 2 0)) 32) (List.getD (W8 (modL (BV a))) 3 0) (List.getD (W8 (modL (BV b))) 3 0)) 32) (List.getD (W8 (modL (BV a))) 4 0) (List.getD (W8 (modL (BV b))) 4 0)) 32) (List.getD (W8 (modL (BV a))) 5 0) (List.getD (W8 (modL (BV b))) 5 0)) 32) (List.getD (W8 (modL (BV a))) 6 0) (List.getD (W8 (modL (BV b))) 6 0)) 32) (List.getD (W8 (modL (BV a))) 7 0) (List.getD (W8 (modL (BV b))) 7 0)) 32)] 9 9)))) := rfl
  rw [e2, e, modL_add, V8_modL]
theorem negRB_eq {a : List Int} (h : W8 (modL (BV a)) ≠ [0, 0, 0, 0, 0, 0, 0, 0]) : negRB a = B32 (modL (-(BV a))) := by
  have h0 : modL (BV a) ≠ 0 := fun e => h ((W8_zero (modL_rng _).1 (modL_rng _).2.2).2 e)
  unfold negRB
  have e : V8 [1559614445, 1477600026, 2734136534, 350157278, 0, 0, 0, 268435456] = LL := V8_OR8
  rw [e, V8_modL]
  have e2 : difR LL (modL (BV a)) = modL (-(BV a)) := by
    rw [← negL_eq]; unfold negL; rw [if_neg h0]
  rw [e2, V8_modL]
end Go.Proofs.Ytcpoldghkiiggaa.X
