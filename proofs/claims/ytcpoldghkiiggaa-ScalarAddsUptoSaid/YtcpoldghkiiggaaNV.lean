/- Eight words of 32 bits: twice, difference, comparison. -/
import Derived.Test.YtcpoldghkiiggaaNU
namespace Go.Proofs.Ytcpoldghkiiggaa.X
open Go Go.Proofs
set_option linter.unusedVariables false

theorem wrap32 (x : Int) : IntKind.u32.wrap x = x % 4294967296 := by
  show (let m := x % (4294967296 : Int); if (false && decide (m ≥ (2147483648 : Int))) = true then m - 4294967296 else m) = x % 4294967296
  simp only [Bool.false_and, Bool.false_eq_true, if_false]

def Wd8 (S : List Int) : Prop := ∀ x ∈ S, 0 ≤ x ∧ x < 4294967296
theorem eight8 {S : List Int} (h : S.length = 8) : ∃ a0 a1 a2 a3 a4 a5 a6 a7, S = [a0, a1, a2, a3, a4, a5, a6, a7] := by
  match S, h with
  | [a0, a1, a2, a3, a4, a5, a6, a7], _ => exact ⟨a0, a1, a2, a3, a4, a5, a6, a7, rfl⟩
def V8 : List Int → Int
  | [a0, a1, a2, a3, a4, a5, a6, a7] => a0 + 4294967296 * a1 + 18446744073709551616 * a2 + 79228162514264337593543950336 * a3 + 340282366920938463463374607431768211456 * a4 + 1461501637330902918203684832716283019655932542976 * a5 + 6277101735386680763835789423207666416102355444464034512896 * a6 + 26959946667150639794667015087019630673637144422540572481103610249216 * a7
  | _ => 0
def W8 (v : Int) : List Int := [v % 4294967296, v / 4294967296 % 4294967296, v / 18446744073709551616 % 4294967296, v / 79228162514264337593543950336 % 4294967296, v / 340282366920938463463374607431768211456 % 4294967296, v / 1461501637330902918203684832716283019655932542976 % 4294967296, v / 6277101735386680763835789423207666416102355444464034512896 % 4294967296, v / 26959946667150639794667015087019630673637144422540572481103610249216 % 4294967296]
theorem V8_W8 {v : Int} (h0 : 0 ≤ v) (h1 : v < 115792089237316195423570985008687907853269984665640564039457584007913129639936) : V8 (W8 v) = v := by
  show (v % 4294967296) + 4294967296 * (v / 4294967296 % 4294967296) + 18446744073709551616 * (v / 18446744073709551616 % 4294967296) + 79228162514264337593543950336 * (v / 79228162514264337593543950336 % 4294967296) + 340282366920938463463374607431768211456 * (v / 340282366920938463463374607431768211456 % 4294967296) + 1461501637330902918203684832716283019655932542976 * (v / 1461501637330902918203684832716283019655932542976 % 4294967296) + 6277101735386680763835789423207666416102355444464034512896 * (v / 6277101735386680763835789423207666416102355444464034512896 % 4294967296) + 26959946667150639794667015087019630673637144422540572481103610249216 * (v / 26959946667150639794667015087019630673637144422540572481103610249216 % 4294967296) = v
  omega
theorem dd (a : Int) {b : Int} (h : 0 ≤ b) : a / b / 4294967296 = a / (b * 4294967296) := by first | exact Int.ediv_ediv_of_nonneg h | exact Int.ediv_ediv_eq_ediv_mul a h | exact Int.ediv_ediv h
theorem W8_eq {a0 a1 a2 a3 a4 a5 a6 a7 v : Int} (h : a0 + 4294967296 * a1 + 18446744073709551616 * a2 + 79228162514264337593543950336 * a3 + 340282366920938463463374607431768211456 * a4 + 1461501637330902918203684832716283019655932542976 * a5 + 6277101735386680763835789423207666416102355444464034512896 * a6 + 26959946667150639794667015087019630673637144422540572481103610249216 * a7 = v) (k0 : 0 ≤ a0 ∧ a0 < 4294967296) (k1 : 0 ≤ a1 ∧ a1 < 4294967296) (k2 : 0 ≤ a2 ∧ a2 < 4294967296) (k3 : 0 ≤ a3 ∧ a3 < 4294967296) (k4 : 0 ≤ a4 ∧ a4 < 4294967296) (k5 : 0 ≤ a5 ∧ a5 < 4294967296) (k6 : 0 ≤ a6 ∧ a6 < 4294967296) (k7 : 0 ≤ a7 ∧ a7 < 4294967296) : [a0, a1, a2, a3, a4, a5, a6, a7] = W8 v := by
  unfold W8
  have e0 : v = (a0 + 4294967296 * (a1 + 4294967296 * (a2 + 4294967296 * (a3 + 4294967296 * (a4 + 4294967296 * (a5 + 4294967296 * (a6 + 4294967296 * a7))))))) := by omega
  have e1 : v / 4294967296 = (a1 + 4294967296 * (a2 + 4294967296 * (a3 + 4294967296 * (a4 + 4294967296 * (a5 + 4294967296 * (a6 + 4294967296 * a7)))))) := by
    omega
  have e2 : v / 18446744073709551616 = (a2 + 4294967296 * (a3 + 4294967296 * (a4 + 4294967296 * (a5 + 4294967296 * (a6 + 4294967296 * a7))))) := by
    rw [show (18446744073709551616 : Int) = 4294967296 * 4294967296 by rfl, ← dd _ (by omega), e1]; clear e0 e1 h; omega
  have e3 : v / 79228162514264337593543950336 = (a3 + 4294967296 * (a4 + 4294967296 * (a5 + 4294967296 * (a6 + 4294967296 * a7)))) := by
    rw [show (79228162514264337593543950336 : Int) = 18446744073709551616 * 4294967296 by rfl, ← dd _ (by omega), e2]; clear e0 e1 e2 h; omega
  have e4 : v / 340282366920938463463374607431768211456 = (a4 + 4294967296 * (a5 + 4294967296 * (a6 + 4294967296 * a7))) := by
    rw [show (340282366920938463463374607431768211456 : Int) = 79228162514264337593543950336 * 4294967296 by rfl, ← dd _ (by omega), e3]; clear e0 e1 e2 e3 h; omega
  have e5 : v / 1461501637330902918203684832716283019655932542976 = (a5 + 4294967296 * (a6 + 4294967296 * a7)) := by
    rw [show (1461501637330902918203684832716283019655932542976 : Int) = 340282366920938463463374607431768211456 * 4294967296 by rfl, ← dd _ (by omega), e4]; clear e0 e1 e2 e3 e4 h; omega
  have e6 : v / 6277101735386680763835789423207666416102355444464034512896 = (a6 + 4294967296 * a7) := by
    rw [show (6277101735386680763835789423207666416102355444464034512896 : Int) = 1461501637330902918203684832716283019655932542976 * 4294967296 by rfl, ← dd _ (by omega), e5]; clear e0 e1 e2 e3 e4 e5 h; omega
  have e7 : v / 26959946667150639794667015087019630673637144422540572481103610249216 = a7 := by
    rw [show (26959946667150639794667015087019630673637144422540572481103610249216 : Int) = 6277101735386680763835789423207666416102355444464034512896 * 4294967296 by rfl, ← dd _ (by omega), e6]; clear e0 e1 e2 e3 e4 e5 e6 h; omega
  have h0 : v % 4294967296 = a0 := by rw [e0]; clear h e0 e1 e2 e3 e4 e5 e6 e7; omega
  have h1 : v / 4294967296 % 4294967296 = a1 := by rw [e1]; clear h e0 e1 e2 e3 e4 e5 e6 e7; omega
  have h2 : v / 18446744073709551616 % 4294967296 = a2 := by rw [e2]; clear h e0 e1 e2 e3 e4 e5 e6 e7; omega
  have h3 : v / 79228162514264337593543950336 % 4294967296 = a3 := by rw [e3]; clear h e0 e1 e2 e3 e4 e5 e6 e7; omega
  have h4 : v / 340282366920938463463374607431768211456 % 4294967296 = a4 := by rw [e4]; clear h e0 e1 e2 e3 e4 e5 e6 e7; omega
  have h5 : v / 1461501637330902918203684832716283019655932542976 % 4294967296 = a5 := by rw [e5]; clear h e0 e1 e2 e3 e4 e5 e6 e7; omega
  have h6 : v / 6277101735386680763835789423207666416102355444464034512896 % 4294967296 = a6 := by rw [e6]; clear h e0 e1 e2 e3 e4 e5 e6 e7; omega
  have h7 : v / 26959946667150639794667015087019630673637144422540572481103610249216 % 4294967296 = a7 := by rw [e7]; clear h e0 e1 e2 e3 e4 e5 e6 e7; omega
  rw [h0, h1, h2, h3, h4, h5, h6, h7]
theorem wd8_W8 (v : Int) : Wd8 (W8 v) := by
  intro x hx
  unfold W8 at hx
  simp only [List.mem_cons, List.not_mem_nil, or_false] at hx
  rcases hx with rfl | rfl | rfl | rfl | rfl | rfl | rfl | rfl <;> omega

theorem or32 {a c : Int} (h0 : 0 ≤ a) (h1 : a < 4294967296) (hc : 0 ≤ c ∧ c ≤ 1) : bits2 .or .u32 (shl .u32 a 1) c = 2 * a % 4294967296 + c := by
  have e1 : shl .u32 a 1 = 2 * (a % 2147483648) := by
    have : shl .u32 a 1 = IntKind.u32.wrap (a * 2) := rfl
    rw [this, wrap32]; omega
  rw [e1]
  obtain ⟨m, hm⟩ := Int.eq_ofNat_of_zero_le (show 0 ≤ a % 2147483648 by omega)
  obtain ⟨y, rfl⟩ := Int.eq_ofNat_of_zero_le hc.1
  rw [hm]
  have hm2 : m < 2147483648 := by omega
  have e : bits2 .or .u32 (2 * ((m : Nat) : Int)) ((y : Nat) : Int) = IntKind.u32.wrap (((BitVec.ofInt 32 (2 * ((m : Nat) : Int)) ||| BitVec.ofInt 32 ((y : Nat) : Int)).toNat : Nat) : Int) := rfl
  have t1 : (BitVec.ofInt 32 (2 * ((m : Nat) : Int))).toNat = 2 ^ 1 * m := by
    rw [BitVec.toNat_ofInt]
    show ((2 * ((m : Nat) : Int)) % 4294967296).toNat = 2 * m
    omega
  have t2 : (BitVec.ofInt 32 ((y : Nat) : Int)).toNat = y := by
    rw [BitVec.toNat_ofInt]
    show (((y : Nat) : Int) % 4294967296).toNat = y
    omega
  rw [e, BitVec.toNat_or, t1, t2, ← Nat.two_pow_add_eq_or_of_lt (show y < 2 ^ 1 by omega), wrap32]
  omega
theorem shr32_31 {a : Int} : shr .u32 a 31 = a / 2147483648 := by
  have e : shr .u32 a 31 = a.fdiv 2147483648 := rfl
  rw [e, Int.fdiv_eq_ediv_of_nonneg _ (by omega)]

theorem tw_eq {S : List Int} {b : Int} (h : Wd8 S) (l : S.length = 8) (hb : 0 ≤ b ∧ b ≤ 1) : twA S b = W8 ((2 * V8 S + b) % 115792089237316195423570985008687907853269984665640564039457584007913129639936) := by
  obtain ⟨a0, a1, a2, a3, a4, a5, a6, a7, rfl⟩ := eight8 l
  have k0 := h a0 (by simp)
  have k1 := h a1 (by simp)
  have k2 := h a2 (by simp)
  have k3 := h a3 (by simp)
  have k4 := h a4 (by simp)
  have k5 := h a5 (by simp)
  have k6 := h a6 (by simp)
  have k7 := h a7 (by simp)
  show [bits2 .or .u32 (shl .u32 a0 1) (b), bits2 .or .u32 (shl .u32 a1 1) (shr .u32 a0 31), bits2 .or .u32 (shl .u32 a2 1) (shr .u32 a1 31), bits2 .or .u32 (shl .u32 a3 1) (shr .u32 a2 31), bits2 .or .u32 (shl .u32 a4 1) (shr .u32 a3 31), bits2 .or .u32 (shl .u32 a5 1) (shr .u32 a4 31), bits2 .or .u32 (shl .u32 a6 1) (shr .u32 a5 31), bits2 .or .u32 (shl .u32 a7 1) (shr .u32 a6 31)] = _
  rw [or32 k0.1 k0.2 hb, or32 k1.1 k1.2 (by rw [shr32_31]; omega), or32 k2.1 k2.2 (by rw [shr32_31]; omega), or32 k3.1 k3.2 (by rw [shr32_31]; omega), or32 k4.1 k4.2 (by rw [shr32_31]; omega), or32 k5.1 k5.2 (by rw [shr32_31]; omega), or32 k6.1 k6.2 (by rw [shr32_31]; omega), or32 k7.1 k7.2 (by rw [shr32_31]; omega)]
  simp only [shr32_31]
  clear h l
  unfold V8
  refine W8_eq ?_ ?_ ?_ ?_ ?_ ?_ ?_ ?_ ?_
  · simp only
    omega
  all_goals omega

def dW (a b c : Int) : Int := IntKind.u64.wrap (IntKind.u64.wrap (IntKind.u64.wrap a - IntKind.u64.wrap b) - c)
theorem dW_eq {a b c : Int} (ha : 0 ≤ a ∧ a < 4294967296) (hb : 0 ≤ b ∧ b < 4294967296) (hc : 0 ≤ c ∧ c ≤ 1) :
    IntKind.u32.wrap (dW a b c) = a - b - c + 4294967296 * shr .u64 (dW a b c) 63 ∧ (0 ≤ IntKind.u32.wrap (dW a b c) ∧ IntKind.u32.wrap (dW a b c) < 4294967296) ∧ (0 ≤ shr .u64 (dW a b c) 63 ∧ shr .u64 (dW a b c) 63 ≤ 1) := by
  have e : shr .u64 (dW a b c) 63 = (dW a b c) / 9223372036854775808 := by
    have e : shr .u64 (dW a b c) 63 = (dW a b c).fdiv 9223372036854775808 := rfl
    rw [e, Int.fdiv_eq_ediv_of_nonneg _ (by omega)]
  rw [e, wrap32]
  unfold dW
  simp only [wrap64]
  omega

theorem mi_eq {S T : List Int} (hS : Wd8 S) (hT : Wd8 T) (lS : S.length = 8) (lT : T.length = 8) : miA S T = W8 (difR (V8 S) (V8 T)) := by
  obtain ⟨a0, a1, a2, a3, a4, a5, a6, a7, rfl⟩ := eight8 lS
  obtain ⟨b0, b1, b2, b3, b4, b5, b6, b7, rfl⟩ := eight8 lT
  have j0 := hS a0 (by simp)
  have k0 := hT b0 (by simp)
  have j1 := hS a1 (by simp)
  have k1 := hT b1 (by simp)
  have j2 := hS a2 (by simp)
  have k2 := hT b2 (by simp)
  have j3 := hS a3 (by simp)
  have k3 := hT b3 (by simp)
  have j4 := hS a4 (by simp)
  have k4 := hT b4 (by simp)
  have j5 := hS a5 (by simp)
  have k5 := hT b5 (by simp)
  have j6 := hS a6 (by simp)
  have k6 := hT b6 (by simp)
  have j7 := hS a7 (by simp)
  have k7 := hT b7 (by simp)
  have e0 := dW_eq j0 k0 (c := 0) (by omega)
  have e1 := dW_eq j1 k1 e0.2.2
  have e2 := dW_eq j2 k2 e1.2.2
  have e3 := dW_eq j3 k3 e2.2.2
  have e4 := dW_eq j4 k4 e3.2.2
  have e5 := dW_eq j5 k5 e4.2.2
  have e6 := dW_eq j6 k6 e5.2.2
  have e7 := dW_eq j7 k7 e6.2.2
  show [IntKind.u32.wrap (dW a0 b0 0), IntKind.u32.wrap (dW a1 b1 (shr .u64 (dW a0 b0 0) 63)), IntKind.u32.wrap (dW a2 b2 (shr .u64 (dW a1 b1 (shr .u64 (dW a0 b0 0) 63)) 63)), IntKind.u32.wrap (dW a3 b3 (shr .u64 (dW a2 b2 (shr .u64 (dW a1 b1 (shr .u64 (dW a0 b0 0) 63)) 63)) 63)), IntKind.u32.wrap (dW a4 b4 (shr .u64 (dW a3 b3 (shr .u64 (dW a2 b2 (shr .u64 (dW a1 b1 (shr .u64 (dW a0 b0 0) 63)) 63)) 63)) 63)), IntKind.u32.wrap (dW a5 b5 (shr .u64 (dW a4 b4 (shr .u64 (dW a3 b3 (shr .u64 (dW a2 b2 (shr .u64 (dW a1 b1 (shr .u64 (dW a0 b0 0) 63)) 63)) 63)) 63)) 63)), IntKind.u32.wrap (dW a6 b6 (shr .u64 (dW a5 b5 (shr .u64 (dW a4 b4 (shr .u64 (dW a3 b3 (shr .u64 (dW a2 b2 (shr .u64 (dW a1 b1 (shr .u64 (dW a0 b0 0) 63)) 63)) 63)) 63)) 63)) 63)), IntKind.u32.wrap (dW a7 b7 (shr .u64 (dW a6 b6 (shr .u64 (dW a5 b5 (shr .u64 (dW a4 b4 (shr .u64 (dW a3 b3 (shr .u64 (dW a2 b2 (shr .u64 (dW a1 b1 (shr .u64 (dW a0 b0 0) 63)) 63)) 63)) 63)) 63)) 63)) 63))] = _
  generalize shr .u64 (dW a7 b7 (shr .u64 (dW a6 b6 (shr .u64 (dW a5 b5 (shr .u64 (dW a4 b4 (shr .u64 (dW a3 b3 (shr .u64 (dW a2 b2 (shr .u64 (dW a1 b1 (shr .u64 (dW a0 b0 0) 63)) 63)) 63)) 63)) 63)) 63)) 63)) 63 = c7 at *
  generalize IntKind.u32.wrap (dW a7 b7 (shr .u64 (dW a6 b6 (shr .u64 (dW a5 b5 (shr .u64 (dW a4 b4 (shr .u64 (dW a3 b3 (shr .u64 (dW a2 b2 (shr .u64 (dW a1 b1 (shr .u64 (dW a0 b0 0) 63)) 63)) 63)) 63)) 63)) 63)) 63)) = s7 at *
  generalize shr .u64 (dW a6 b6 (shr .u64 (dW a5 b5 (shr .u64 (dW a4 b4 (shr .u64 (dW a3 b3 (shr .u64 (dW a2 b2 (shr .u64 (dW a1 b1 (shr .u64 (dW a0 b0 0) 63)) 63)) 63)) 63)) 63)) 63)) 63 = c6 at *
  generalize IntKind.u32.wrap (dW a6 b6 (shr .u64 (dW a5 b5 (shr .u64 (dW a4 b4 (shr .u64 (dW a3 b3 (shr .u64 (dW a2 b2 (shr .u64 (dW a1 b1 (shr .u64 (dW a0 b0 0) 63)) 63)) 63)) 63)) 63)) 63)) = s6 at *
  generalize shr .u64 (dW a5 b5 (shr .u64 (dW a4 b4 (shr .u64 (dW a3 b3 (shr .u64 (dW a2 b2 (shr .u64 (dW a1 b1 (shr .u64 (dW a0 b0 0) 63)) 63)) 63)) 63)) 63)) 63 = c5 at *
  generalize IntKind.u32.wrap (dW a5 b5 (shr .u64 (dW a4 b4 (shr .u64 (dW a3 b3 (shr .u64 (dW a2 b2 (shr .u64 (dW a1 b1 (shr .u64 (dW a0 b0 0) 63)) 63)) 63)) 63)) 63)) = s5 at *
  generalize shr .u64 (dW a4 b4 (shr .u64 (dW a3 b3 (shr .u64 (dW a2 b2 (shr .u64 (dW a1 b1 (shr .u64 (dW a0 b0 0) 63)) 63)) 63)) 63)) 63 = c4 at *
  generalize IntKind.u32.wrap (dW a4 b4 (shr .u64 (dW a3 b3 (shr .u64 (dW a2 b2 (shr .u64 (dW a1 b1 (shr .u64 (dW a0 b0 0) 63)) 63)) 63)) 63)) = s4 at *
  generalize shr .u64 (dW a3 b3 (shr .u64 (dW a2 b2 (shr .u64 (dW a1 b1 (shr .u64 (dW a0 b0 0) 63)) 63)) 63)) 63 = c3 at *
  generalize IntKind.u32.wrap (dW a3 b3 (shr .u64 (dW a2 b2 (shr .u64 (dW a1 b1 (shr .u64 (dW a0 b0 0) 63)) 63)) 63)) = s3 at *
  generalize shr .u64 (dW a2 b2 (shr .u64 (dW a1 b1 (shr .u64 (dW a0 b0 0) 63)) 63)) 63 = c2 at *
  generalize IntKind.u32.wrap (dW a2 b2 (shr .u64 (dW a1 b1 (shr .u64 (dW a0 b0 0) 63)) 63)) = s2 at *
  generalize shr .u64 (dW a1 b1 (shr .u64 (dW a0 b0 0) 63)) 63 = c1 at *
  generalize IntKind.u32.wrap (dW a1 b1 (shr .u64 (dW a0 b0 0) 63)) = s1 at *
  generalize shr .u64 (dW a0 b0 0) 63 = c0 at *
  generalize IntKind.u32.wrap (dW a0 b0 0) = s0 at *
  clear hS hT lS lT
  unfold difR V8
  refine W8_eq ?_ e0.2.1 e1.2.1 e2.2.1 e3.2.1 e4.2.1 e5.2.1 e6.2.1 e7.2.1
  simp only
  omega

theorem be_can (S : List Int) (T : List Int) (h0 : Wd8 S) (h1 : Wd8 T) (w : World) : Body Try.prog (tabOf tabNU) Try.f99 ⟨w, [], 0, noEnv⟩ (toA [.g [.ints .u32 (8 : Nat) S], .g [.ints .u32 (8 : Nat) T]]) [] (fun ys _ => ys = [.a (.b (decide (V8 S < V8 T)))]) :=
  Body.lens (c := (Try.f99.body.getD .skip)) rfl fun h => by
    have lS := h.vals 0 _ _ _ rfl
    have lT := h.vals 1 _ _ _ rfl
    obtain ⟨a0, a1, a2, a3, a4, a5, a6, a7, rfl⟩ := eight8 lS
    obtain ⟨b0, b1, b2, b3, b4, b5, b6, b7, rfl⟩ := eight8 lT
    have j0 := h0 a0 (by simp)
    have k0 := h1 b0 (by simp)
    have j1 := h0 a1 (by simp)
    have k1 := h1 b1 (by simp)
    have j2 := h0 a2 (by simp)
    have k2 := h1 b2 (by simp)
    have j3 := h0 a3 (by simp)
    have k3 := h1 b3 (by simp)
    have j4 := h0 a4 (by simp)
    have k4 := h1 b4 (by simp)
    have j5 := h0 a5 (by simp)
    have k5 := h1 b5 (by simp)
    have j6 := h0 a6 (by simp)
    have k6 := h1 b6 (by simp)
    have j7 := h0 a7 (by simp)
    have k7 := h1 b7 (by simp)
    by_cases e7 : a7 = b7
    rotate_left
    · refine (be8_body0 _ _ lS lT  e7 w).mono fun xs K hx => ?_
      subst hx
      have e : be8 [a0, a1, a2, a3, a4, a5, a6, a7] [b0, b1, b2, b3, b4, b5, b6, b7] = decide (V8 [a0, a1, a2, a3, a4, a5, a6, a7] < V8 [b0, b1, b2, b3, b4, b5, b6, b7]) := by
        show decide (a7 < b7) = decide (a0 + 4294967296 * a1 + 18446744073709551616 * a2 + 79228162514264337593543950336 * a3 + 340282366920938463463374607431768211456 * a4 + 1461501637330902918203684832716283019655932542976 * a5 + 6277101735386680763835789423207666416102355444464034512896 * a6 + 26959946667150639794667015087019630673637144422540572481103610249216 * a7 < b0 + 4294967296 * b1 + 18446744073709551616 * b2 + 79228162514264337593543950336 * b3 + 340282366920938463463374607431768211456 * b4 + 1461501637330902918203684832716283019655932542976 * b5 + 6277101735386680763835789423207666416102355444464034512896 * b6 + 26959946667150639794667015087019630673637144422540572481103610249216 * b7)
        exact decide_eq_decide.2 (by clear h0 h1 h lS lT; omega)
      rw [e]
    by_cases e6 : a6 = b6
    rotate_left
    · refine (be7_body0 _ _ lS lT e7 e6 w).mono fun xs K hx => ?_
      subst hx
      have e : be7 [a0, a1, a2, a3, a4, a5, a6, a7] [b0, b1, b2, b3, b4, b5, b6, b7] = decide (V8 [a0, a1, a2, a3, a4, a5, a6, a7] < V8 [b0, b1, b2, b3, b4, b5, b6, b7]) := by
        show decide (a6 < b6) = decide (a0 + 4294967296 * a1 + 18446744073709551616 * a2 + 79228162514264337593543950336 * a3 + 340282366920938463463374607431768211456 * a4 + 1461501637330902918203684832716283019655932542976 * a5 + 6277101735386680763835789423207666416102355444464034512896 * a6 + 26959946667150639794667015087019630673637144422540572481103610249216 * a7 < b0 + 4294967296 * b1 + 18446744073709551616 * b2 + 79228162514264337593543950336 * b3 + 340282366920938463463374607431768211456 * b4 + 1461501637330902918203684832716283019655932542976 * b5 + 6277101735386680763835789423207666416102355444464034512896 * b6 + 26959946667150639794667015087019630673637144422540572481103610249216 * b7)
        exact decide_eq_decide.2 (by clear h0 h1 h lS lT; omega)
      rw [e]
    by_cases e5 : a5 = b5
    rotate_left
    · refine (be6_body0 _ _ lS lT e7 e6 e5 w).mono fun xs K hx => ?_
      subst hx
      have e : be6 [a0, a1, a2, a3, a4, a5, a6, a7] [b0, b1, b2, b3, b4, b5, b6, b7] = decide (V8 [a0, a1, a2, a3, a4, a5, a6, a7] < V8 [b0, b1, b2, b3, b4, b5, b6, b7]) := by
        show decide (a5 < b5) = decide (a0 + 4294967296 * a1 + 18446744073709551616 * a2 + 79228162514264337593543950336 * a3 + 340282366920938463463374607431768211456 * a4 + 1461501637330902918203684832716283019655932542976 * a5 + 6277101735386680763835789423207666416102355444464034512896 * a6 + 26959946667150639794667015087019630673637144422540572481103610249216 * a7 < b0 + 4294967296 * b1 + 18446744073709551616 * b2 + 79228162514264337593543950336 * b3 + 340282366920938463463374607431768211456 * b4 + 1461501637330902918203684832716283019655932542976 * b5 + 6277101735386680763835789423207666416102355444464034512896 * b6 + 26959946667150639794667015087019630673637144422540572481103610249216 * b7)
        exact decide_eq_decide.2 (by clear h0 h1 h lS lT; omega)
      rw [e]
    by_cases e4 : a4 = b4
    rotate_left
    · refine (be5_body0 _ _ lS lT e7 e6 e5 e4 w).mono fun xs K hx => ?_
      subst hx
      have e : be5 [a0, a1, a2, a3, a4, a5, a6, a7] [b0, b1, b2, b3, b4, b5, b6, b7] = decide (V8 [a0, a1, a2, a3, a4, a5, a6, a7] < V8 [b0, b1, b2, b3, b4, b5, b6, b7]) := by
        show decide (a4 < b4) = decide (a0 + 4294967296 * a1 + 18446744073709551616 * a2 + 79228162514264337593543950336 * a3 + 340282366920938463463374607431768211456 * a4 + 1461501637330902918203684832716283019655932542976 * a5 + 6277101735386680763835789423207666416102355444464034512896 * a6 + 26959946667150639794667015087019630673637144422540572481103610249216 * a7 < b0 + 4294967296 * b1 + 18446744073709551616 * b2 + 79228162514264337593543950336 * b3 + 340282366920938463463374607431768211456 * b4 + 1461501637330902918203684832716283019655932542976 * b5 + 6277101735386680763835789423207666416102355444464034512896 * b6 + 26959946667150639794667015087019630673637144422540572481103610249216 * b7)
        exact decide_eq_decide.2 (by clear h0 h1 h lS lT; omega)
      rw [e]
    by_cases e3 : a3 = b3
    rotate_left
    · refine (be4_body0 _ _ lS lT e7 e6 e5 e4 e3 w).mono fun xs K hx => ?_
      subst hx
      have e : be4 [a0, a1, a2, a3, a4, a5, a6, a7] [b0, b1, b2, b3, b4, b5, b6, b7] = decide (V8 [a0, a1, a2, a3, a4, a5, a6, a7] < V8 [b0, b1, b2, b3, b4, b5, b6, b7]) := by
        show decide (a3 < b3) = decide (a0 + 4294967296 * a1 + 18446744073709551616 * a2 + 79228162514264337593543950336 * a3 + 340282366920938463463374607431768211456 * a4 + 1461501637330902918203684832716283019655932542976 * a5 + 6277101735386680763835789423207666416102355444464034512896 * a6 + 26959946667150639794667015087019630673637144422540572481103610249216 * a7 < b0 + 4294967296 * b1 + 18446744073709551616 * b2 + 79228162514264337593543950336 * b3 + 340282366920938463463374607431768211456 * b4 + 1461501637330902918203684832716283019655932542976 * b5 + 6277101735386680763835789423207666416102355444464034512896 * b6 + 26959946667150639794667015087019630673637144422540572481103610249216 * b7)
        exact decide_eq_decide.2 (by clear h0 h1 h lS lT; omega)
      rw [e]
    by_cases e2 : a2 = b2
    rotate_left
    · refine (be3_body0 _ _ lS lT e7 e6 e5 e4 e3 e2 w).mono fun xs K hx => ?_
      subst hx
      have e : be3 [a0, a1, a2, a3, a4, a5, a6, a7] [b0, b1, b2, b3, b4, b5, b6, b7] = decide (V8 [a0, a1, a2, a3, a4, a5, a6, a7] < V8 [b0, b1, b2, b3, b4, b5, b6, b7]) := by
        show decide (a2 < b2) = decide (a0 + 4294967296 * a1 + 18446744073709551616 * a2 + 79228162514264337593543950336 * a3 + 340282366920938463463374607431768211456 * a4 + 1461501637330902918203684832716283019655932542976 * a5 + 6277101735386680763835789423207666416102355444464034512896 * a6 + 26959946667150639794667015087019630673637144422540572481103610249216 * a7 < b0 + 4294967296 * b1 + 18446744073709551616 * b2 + 79228162514264337593543950336 * b3 + 340282366920938463463374607431768211456 * b4 + 1461501637330902918203684832716283019655932542976 * b5 + 6277101735386680763835789423207666416102355444464034512896 * b6 + 26959946667150639794667015087019630673637144422540572481103610249216 * b7)
        exact decide_eq_decide.2 (by clear h0 h1 h lS lT; omega)
      rw [e]
    by_cases e1 : a1 = b1
    rotate_left
    · refine (be2_body0 _ _ lS lT e7 e6 e5 e4 e3 e2 e1 w).mono fun xs K hx => ?_
      subst hx
      have e : be2 [a0, a1, a2, a3, a4, a5, a6, a7] [b0, b1, b2, b3, b4, b5, b6, b7] = decide (V8 [a0, a1, a2, a3, a4, a5, a6, a7] < V8 [b0, b1, b2, b3, b4, b5, b6, b7]) := by
        show decide (a1 < b1) = decide (a0 + 4294967296 * a1 + 18446744073709551616 * a2 + 79228162514264337593543950336 * a3 + 340282366920938463463374607431768211456 * a4 + 1461501637330902918203684832716283019655932542976 * a5 + 6277101735386680763835789423207666416102355444464034512896 * a6 + 26959946667150639794667015087019630673637144422540572481103610249216 * a7 < b0 + 4294967296 * b1 + 18446744073709551616 * b2 + 79228162514264337593543950336 * b3 + 340282366920938463463374607431768211456 * b4 + 1461501637330902918203684832716283019655932542976 * b5 + 6277101735386680763835789423207666416102355444464034512896 * b6 + 26959946667150639794667015087019630673637144422540572481103610249216 * b7)
        exact decide_eq_decide.2 (by clear h0 h1 h lS lT; omega)
      rw [e]
    by_cases e0 : a0 = b0
    rotate_left
    · refine (be1_body0 _ _ lS lT e7 e6 e5 e4 e3 e2 e1 e0 w).mono fun xs K hx => ?_
      subst hx
      have e : be1 [a0, a1, a2, a3, a4, a5, a6, a7] [b0, b1, b2, b3, b4, b5, b6, b7] = decide (V8 [a0, a1, a2, a3, a4, a5, a6, a7] < V8 [b0, b1, b2, b3, b4, b5, b6, b7]) := by
        show decide (a0 < b0) = decide (a0 + 4294967296 * a1 + 18446744073709551616 * a2 + 79228162514264337593543950336 * a3 + 340282366920938463463374607431768211456 * a4 + 1461501637330902918203684832716283019655932542976 * a5 + 6277101735386680763835789423207666416102355444464034512896 * a6 + 26959946667150639794667015087019630673637144422540572481103610249216 * a7 < b0 + 4294967296 * b1 + 18446744073709551616 * b2 + 79228162514264337593543950336 * b3 + 340282366920938463463374607431768211456 * b4 + 1461501637330902918203684832716283019655932542976 * b5 + 6277101735386680763835789423207666416102355444464034512896 * b6 + 26959946667150639794667015087019630673637144422540572481103610249216 * b7)
        exact decide_eq_decide.2 (by clear h0 h1 h lS lT; omega)
      rw [e]
    refine (be0_body0 _ _ lS lT e7 e6 e5 e4 e3 e2 e1 e0 w).mono fun xs K hx => ?_
    subst hx
    have e : false = decide (V8 [a0, a1, a2, a3, a4, a5, a6, a7] < V8 [b0, b1, b2, b3, b4, b5, b6, b7]) := by
      show false = decide (a0 + 4294967296 * a1 + 18446744073709551616 * a2 + 79228162514264337593543950336 * a3 + 340282366920938463463374607431768211456 * a4 + 1461501637330902918203684832716283019655932542976 * a5 + 6277101735386680763835789423207666416102355444464034512896 * a6 + 26959946667150639794667015087019630673637144422540572481103610249216 * a7 < b0 + 4294967296 * b1 + 18446744073709551616 * b2 + 79228162514264337593543950336 * b3 + 340282366920938463463374607431768211456 * b4 + 1461501637330902918203684832716283019655932542976 * b5 + 6277101735386680763835789423207666416102355444464034512896 * b6 + 26959946667150639794667015087019630673637144422540572481103610249216 * b7)
      exact (decide_eq_false (by clear h0 h1 h lS lT; omega)).symm
    rw [← e]

theorem bkR_eq {S : List Int} (h : Wd8 S) (l : S.length = 8) : bkR S = B32 (V8 S) := by
  obtain ⟨a0, a1, a2, a3, a4, a5, a6, a7, rfl⟩ := eight8 l
  have k0 := h a0 (by simp)
  have k1 := h a1 (by simp)
  have k2 := h a2 (by simp)
  have k3 := h a3 (by simp)
  have k4 := h a4 (by simp)
  have k5 := h a5 (by simp)
  have k6 := h a6 (by simp)
  have k7 := h a7 (by simp)
  have s0 : ∀ x : Int, shr .u32 x 0 = x / 1 := fun x => by
    have e : shr .u32 x 0 = x.fdiv 1 := rfl
    rw [e, Int.fdiv_eq_ediv_of_nonneg _ (by omega)]
  have s8 : ∀ x : Int, shr .u32 x 8 = x / 256 := fun x => by
    have e : shr .u32 x 8 = x.fdiv 256 := rfl
    rw [e, Int.fdiv_eq_ediv_of_nonneg _ (by omega)]
  have s16 : ∀ x : Int, shr .u32 x 16 = x / 65536 := fun x => by
    have e : shr .u32 x 16 = x.fdiv 65536 := rfl
    rw [e, Int.fdiv_eq_ediv_of_nonneg _ (by omega)]
  have s24 : ∀ x : Int, shr .u32 x 24 = x / 16777216 := fun x => by
    have e : shr .u32 x 24 = x.fdiv 16777216 := rfl
    rw [e, Int.fdiv_eq_ediv_of_nonneg _ (by omega)]
  clear h l
  unfold bkR B32 V8
  simp only [List.getD_cons_zero, List.getD_cons_succ, wrap8, s0, s8, s16, s24, List.cons.injEq, and_true]
  refine ⟨?_, ?_, ?_, ?_, ?_, ?_, ?_, ?_, ?_, ?_, ?_, ?_, ?_, ?_, ?_, ?_, ?_, ?_, ?_, ?_, ?_, ?_, ?_, ?_, ?_, ?_, ?_, ?_, ?_, ?_, ?_, ?_⟩ <;> omega

theorem tw_can (S : List Int) (b : Int) (h0 : Wd8 S) (h1 : (0 : Int) ≤ b) (h2 : b ≤ 1) (w : World) : Body Try.prog (tabOf tabNU) Try.f130 ⟨w, [], 0, noEnv⟩ (toA [.g [.ints .u32 (8 : Nat) S], .a (.i .u32 b)]) [] (fun ys _ => ys = [.g [.ints .u32 (8 : Nat) (W8 ((2 * V8 S + b) % 115792089237316195423570985008687907853269984665640564039457584007913129639936))]]) :=
  Body.lens (c := (Try.f130.body.getD .skip)) rfl fun h => (twA_body0 S b (h.vals 0 _ _ _ rfl) w).mono fun xs K hx => by
    subst hx; rw [tw_eq h0 (h.vals 0 _ _ _ rfl) ⟨h1, h2⟩]
theorem mi_can (S : List Int) (T : List Int) (h0 : Wd8 S) (h1 : Wd8 T) (w : World) : Body Try.prog (tabOf tabNU) Try.f96 ⟨w, [], 0, noEnv⟩ (toA [.g [.ints .u32 (8 : Nat) S], .g [.ints .u32 (8 : Nat) T]]) [] (fun ys _ => ys = [.g [.ints .u32 (8 : Nat) (W8 (difR (V8 S) (V8 T)))]]) :=
  Body.lens (c := (Try.f96.body.getD .skip)) rfl fun h => (miA_body0 S T (h.vals 0 _ _ _ rfl) (h.vals 1 _ _ _ rfl) w).mono fun xs K hx => by
    subst hx; rw [mi_eq h0 h1 (h.vals 0 _ _ _ rfl) (h.vals 1 _ _ _ rfl)]
theorem bkR_can (S : List Int) (h0 : Wd8 S) (w : World) : Body Try.prog (tabOf tabNU) Try.f76 ⟨w, [], 0, noEnv⟩ (toA [.g [.ints .u32 (8 : Nat) S]]) [] (fun ys _ => ys = [.g [.ints .u8 (32 : Nat) (B32 (V8 S))]]) :=
  Body.lens (c := (Try.f76.body.getD .skip)) rfl fun h => (bkR_body0 S (h.vals 0 _ _ _ rfl) w).mono fun xs K hx => by
    subst hx; rw [bkR_eq h0 (h.vals 0 _ _ _ rfl)]
end Go.Proofs.Ytcpoldghkiiggaa.X
