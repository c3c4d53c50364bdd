/- Texts of this session, put together (part 4), less what nothing uses. -/
import Derived.Test.YtcpoldghkiiggaaZinv3
import Derived.KernelRfl
/- Texts of this session, put together (part 2). -/
/- Eight words of 32 bits: twice, difference, comparison. -/
namespace Go.Proofs.Ytcpoldghkiiggaa.X
open Go Go.Proofs
set_option linter.unusedVariables false

theorem wrap32 (x : Int) : IntKind.u32.wrap x = x % 4294967296 := by
  show (let m := x % (4294967296 : Int); if (false && decide (m ≥ (2147483648 : Int))) = true then m - 4294967296 else m) = x % 4294967296
  simp only [Bool.false_and, Bool.false_eq_true, if_false]

def Wd8 (S : List Int) : Prop := ∀ x ∈ S, 0 ≤ x ∧ x < 4294967296
theorem eight8 {S : List Int} (h : S.length = 8) : ∃ a0 a1 a2 a3 a4 a5 a6 a7, S = [a0, a1, a2, a3, a4, a5, a6, a7] := by
  match S, h with
  | [a0, a1, a2, a3, a4, a5, a6, a7], _ => exact ⟨a0, a1, a2, a3, a4, a5, a6, a7, rfl⟩
def V8 : List Int → Int
  | [a0, a1, a2, a3, a4, a5, a6, a7] => a0 + 4294967296 * a1 + 18446744073709551616 * a2 + 79228162514264337593543950336 * a3 + 340282366920938463463374607431768211456 * a4 + 1461501637330902918203684832716283019655932542976 * a5 + 6277101735386680763835789423207666416102355444464034512896 * a6 + 26959946667150639794667015087019630673637144422540572481103610249216 * a7
  | _ => 0
def W8 (v : Int) : List Int := [v % 4294967296, v / 4294967296 % 4294967296, v / 18446744073709551616 % 4294967296, v / 79228162514264337593543950336 % 4294967296, v / 340282366920938463463374607431768211456 % 4294967296, v / 1461501637330902918203684832716283019655932542976 % 4294967296, v / 6277101735386680763835789423207666416102355444464034512896 % 4294967296, v / 26959946667150639794667015087019630673637144422540572481103610249216 % 4294967296]
theorem V8_W8 {v : Int} (h0 : 0 ≤ v) (h1 : v < 115792089237316195423570985008687907853269984665640564039457584007913129639936) : V8 (W8 v) = v := by
  show (v % 4294967296) + 4294967296 * (v / 4294967296 % 4294967296) + 18446744073709551616 * (v / 18446744073709551616 % 4294967296) + 79228162514264337593543950336 * (v / 79228162514264337593543950336 % 4294967296) + 340282366920938463463374607431768211456 * (v / 340282366920938463463374607431768211456 % 4294967296) + 1461501637330902918203684832716283019655932542976 * (v / 1461501637330902918203684832716283019655932542976 % 4294967296) + 6277101735386680763835789423207666416102355444464034512896 * (v / 6277101735386680763835789423207666416102355444464034512896 % 4294967296) + 26959946667150639794667015087019630673637144422540572481103610249216 * (v / 26959946667150639794667015087019630673637144422540572481103610249216 % 4294967296) = v
  omega
theorem dd (a : Int) {b : Int} (h : 0 ≤ b) : a / b / 4294967296 = a / (b * 4294967296) := by first | exact Int.ediv_ediv_of_nonneg h | exact Int.ediv_ediv_eq_ediv_mul a h | exact Int.ediv_ediv h
theorem W8_eq {a0 a1 a2 a3 a4 a5 a6 a7 v : Int} (h : a0 + 4294967296 * a1 + 18446744073709551616 * a2 + 79228162514264337593543950336 * a3 + 340282366920938463463374607431768211456 * a4 + 1461501637330902918203684832716283019655932542976 * a5 + 6277101735386680763835789423207666416102355444464034512896 * a6 + 26959946667150639794667015087019630673637144422540572481103610249216 * a7 = v) (k0 : 0 ≤ a0 ∧ a0 < 4294967296) (k1 : 0 ≤ a1 ∧ a1 < 4294967296) (k2 : 0 ≤ a2 ∧ a2 < 4294967296) (k3 : 0 ≤ a3 ∧ a3 < 4294967296) (k4 : 0 ≤ a4 ∧ a4 < 4294967296) (k5 : 0 ≤ a5 ∧ a5 < 4294967296) (k6 : 0 ≤ a6 ∧ a6 < 4294967296) (k7 : 0 ≤ a7 ∧ a7 < 4294967296) : [a0, a1, a2, a3, a4, a5, a6, a7] = W8 v := by
  unfold W8
  have e0 : v = (a0 + 4294967296 * (a1 + 4294967296 * (a2 + 4294967296 * (a3 + 4294967296 * (a4 + 4294967296 * (a5 + 4294967296 * (a6 + 4294967296 * a7))))))) := by omega
  have e1 : v / 4294967296 = (a1 + 4294967296 * (a2 + 4294967296 * (a3 + 4294967296 * (a4 + 4294967296 * (a5 + 4294967296 * (a6 + 4294967296 * a7)))))) := by
    omega
  have e2 : v / 18446744073709551616 = (a2 + 4294967296 * (a3 + 4294967296 * (a4 + 4294967296 * (a5 + 4294967296 * (a6 + 4294967296 * a7))))) := by
    rw [show (18446744073709551616 : Int) = 4294967296 * 4294967296 by rfl, ← dd _ (by omega), e1]; clear e0 e1 h; omega
  have e3 : v / 79228162514264337593543950336 = (a3 + 4294967296 * (a4 + 4294967296 * (a5 + 4294967296 * (a6 + 4294967296 * a7)))) := by
    rw [show (79228162514264337593543950336 : Int) = 18446744073709551616 * 4294967296 by rfl, ← dd _ (by omega), e2]; clear e0 e1 e2 h; omega
  have e4 : v / 340282366920938463463374607431768211456 = (a4 + 4294967296 * (a5 + 4294967296 * (a6 + 4294967296 * a7))) := by
    rw [show (340282366920938463463374607431768211456 : Int) = 79228162514264337593543950336 * 4294967296 by rfl, ← dd _ (by omega), e3]; clear e0 e1 e2 e3 h; omega
  have e5 : v / 1461501637330902918203684832716283019655932542976 = (a5 + 4294967296 * (a6 + 4294967296 * a7)) := by
    rw [show (1461501637330902918203684832716283019655932542976 : Int) = 340282366920938463463374607431768211456 * 4294967296 by rfl, ← dd _ (by omega), e4]; clear e0 e1 e2 e3 e4 h; omega
  have e6 : v / 6277101735386680763835789423207666416102355444464034512896 = (a6 + 4294967296 * a7) := by
    rw [show (6277101735386680763835789423207666416102355444464034512896 : Int) = 1461501637330902918203684832716283019655932542976 * 4294967296 by rfl, ← dd _ (by omega), e5]; clear e0 e1 e2 e3 e4 e5 h; omega
  have e7 : v / 26959946667150639794667015087019630673637144422540572481103610249216 = a7 := by
    rw [show (26959946667150639794667015087019630673637144422540572481103610249216 : Int) = 6277101735386680763835789423207666416102355444464034512896 * 4294967296 by rfl, ← dd _ (by omega), e6]; clear e0 e1 e2 e3 e4 e5 e6 h; omega
  have h0 : v % 4294967296 = a0 := by rw [e0]; clear h e0 e1 e2 e3 e4 e5 e6 e7; omega
  have h1 : v / 4294967296 % 4294967296 = a1 := by rw [e1]; clear h e0 e1 e2 e3 e4 e5 e6 e7; omega
  have h2 : v / 18446744073709551616 % 4294967296 = a2 := by rw [e2]; clear h e0 e1 e2 e3 e4 e5 e6 e7; omega
  have h3 : v / 79228162514264337593543950336 % 4294967296 = a3 := by rw [e3]; clear h e0 e1 e2 e3 e4 e5 e6 e7; omega
  have h4 : v / 340282366920938463463374607431768211456 % 4294967296 = a4 := by rw [e4]; clear h e0 e1 e2 e3 e4 e5 e6 e7; omega
  have h5 : v / 1461501637330902918203684832716283019655932542976 % 4294967296 = a5 := by rw [e5]; clear h e0 e1 e2 e3 e4 e5 e6 e7; omega
  have h6 : v / 6277101735386680763835789423207666416102355444464034512896 % 4294967296 = a6 := by rw [e6]; clear h e0 e1 e2 e3 e4 e5 e6 e7; omega
  have h7 : v / 26959946667150639794667015087019630673637144422540572481103610249216 % 4294967296 = a7 := by rw [e7]; clear h e0 e1 e2 e3 e4 e5 e6 e7; omega
  rw [h0, h1, h2, h3, h4, h5, h6, h7]
theorem wd8_W8 (v : Int) : Wd8 (W8 v) := by
  intro x hx
  unfold W8 at hx
  simp only [List.mem_cons, List.not_mem_nil, or_false] at hx
  rcases hx with rfl | rfl | rfl | rfl | rfl | rfl | rfl | rfl <;> omega

theorem or32 {a c : Int} (h0 : 0 ≤ a) (h1 : a < 4294967296) (hc : 0 ≤ c ∧ c ≤ 1) : bits2 .or .u32 (shl .u32 a 1) c = 2 * a % 4294967296 + c := by
  have e1 : shl .u32 a 1 = 2 * (a % 2147483648) := by
    have : shl .u32 a 1 = IntKind.u32.wrap (a * 2) := rfl
    rw [this, wrap32]; omega
  rw [e1]
  obtain ⟨m, hm⟩ := Int.eq_ofNat_of_zero_le (show 0 ≤ a % 2147483648 by omega)
  obtain ⟨y, rfl⟩ := Int.eq_ofNat_of_zero_le hc.1
  rw [hm]
  have hm2 : m < 2147483648 := by omega
  have e : bits2 .or .u32 (2 * ((m : Nat) : Int)) ((y : Nat) : Int) = IntKind.u32.wrap (((BitVec.ofInt 32 (2 * ((m : Nat) : Int)) ||| BitVec.ofInt 32 ((y : Nat) : Int)).toNat : Nat) : Int) := rfl
  have t1 : (BitVec.ofInt 32 (2 * ((m : Nat) : Int))).toNat = 2 ^ 1 * m := by
    rw [BitVec.toNat_ofInt]
    show ((2 * ((m : Nat) : Int)) % 4294967296).toNat = 2 * m
    omega
  have t2 : (BitVec.ofInt 32 ((y : Nat) : Int)).toNat = y := by
    rw [BitVec.toNat_ofInt]
    show (((y : Nat) : Int) % 4294967296).toNat = y
    omega
  rw [e, BitVec.toNat_or, t1, t2, ← Nat.two_pow_add_eq_or_of_lt (show y < 2 ^ 1 by omega), wrap32]
  omega
theorem shr32_31 {a : Int} : shr .u32 a 31 = a / 2147483648 := by
  have e : shr .u32 a 31 = a.fdiv 2147483648 := rfl
  rw [e, Int.fdiv_eq_ediv_of_nonneg _ (by omega)]

theorem tw_eq {S : List Int} {b : Int} (h : Wd8 S) (l : S.length = 8) (hb : 0 ≤ b ∧ b ≤ 1) : twA S b = W8 ((2 * V8 S + b) % 115792089237316195423570985008687907853269984665640564039457584007913129639936) := by
  obtain ⟨a0, a1, a2, a3, a4, a5, a6, a7, rfl⟩ := eight8 l
  have k0 := h a0 (by simp)
  have k1 := h a1 (by simp)
  have k2 := h a2 (by simp)
  have k3 := h a3 (by simp)
  have k4 := h a4 (by simp)
  have k5 := h a5 (by simp)
  have k6 := h a6 (by simp)
  have k7 := h a7 (by simp)
  show [bits2 .or .u32 (shl .u32 a0 1) (b), bits2 .or .u32 (shl .u32 a1 1) (shr .u32 a0 31), bits2 .or .u32 (shl .u32 a2 1) (shr .u32 a1 31), bits2 .or .u32 (shl .u32 a3 1) (shr .u32 a2 31), bits2 .or .u32 (shl .u32 a4 1) (shr .u32 a3 31), bits2 .or .u32 (shl .u32 a5 1) (shr .u32 a4 31), bits2 .or .u32 (shl .u32 a6 1) (shr .u32 a5 31), bits2 .or .u32 (shl .u32 a7 1) (shr .u32 a6 31)] = _
  rw [or32 k0.1 k0.2 hb, or32 k1.1 k1.2 (by rw [shr32_31]; omega), or32 k2.1 k2.2 (by rw [shr32_31]; omega), or32 k3.1 k3.2 (by rw [shr32_31]; omega), or32 k4.1 k4.2 (by rw [shr32_31]; omega), or32 k5.1 k5.2 (by rw [shr32_31]; omega), or32 k6.1 k6.2 (by rw [shr32_31]; omega), or32 k7.1 k7.2 (by rw [shr32_31]; omega)]
  simp only [shr32_31]
  clear h l
  unfold V8
  refine W8_eq ?_ ?_ ?_ ?_ ?_ ?_ ?_ ?_ ?_
  · simp only
    omega
  all_goals omega

def dW (a b c : Int) : Int := IntKind.u64.wrap (IntKind.u64.wrap (IntKind.u64.wrap a - IntKind.u64.wrap b) - c)
theorem dW_eq {a b c : Int} (ha : 0 ≤ a ∧ a < 4294967296) (hb : 0 ≤ b ∧ b < 4294967296) (hc : 0 ≤ c ∧ c ≤ 1) :
    IntKind.u32.wrap (dW a b c) = a - b - c + 4294967296 * shr .u64 (dW a b c) 63 ∧ (0 ≤ IntKind.u32.wrap (dW a b c) ∧ IntKind.u32.wrap (dW a b c) < 4294967296) ∧ (0 ≤ shr .u64 (dW a b c) 63 ∧ shr .u64 (dW a b c) 63 ≤ 1) := by
  have e : shr .u64 (dW a b c) 63 = (dW a b c) / 9223372036854775808 := by
    have e : shr .u64 (dW a b c) 63 = (dW a b c).fdiv 9223372036854775808 := rfl
    rw [e, Int.fdiv_eq_ediv_of_nonneg _ (by omega)]
  rw [e, wrap32]
  unfold dW
  simp only [wrap64]
  omega

theorem mi_eq {S T : List Int} (hS : Wd8 S) (hT : Wd8 T) (lS : S.length = 8) (lT : T.length = 8) : miA S T = W8 (difR (V8 S) (V8 T)) := by
  obtain ⟨a0, a1, a2, a3, a4, a5, a6, a7, rfl⟩ := eight8 lS
  obtain ⟨b0, b1, b2, b3, b4, b5, b6, b7, rfl⟩ := eight8 lT
  have j0 := hS a0 (by simp)
  have k0 := hT b0 (by simp)
  have j1 := hS a1 (by simp)
  have k1 := hT b1 (by simp)
  have j2 := hS a2 (by simp)
  have k2 := hT b2 (by simp)
  have j3 := hS a3 (by simp)
  have k3 := hT b3 (by simp)
  have j4 := hS a4 (by simp)
  have k4 := hT b4 (by simp)
  have j5 := hS a5 (by simp)
  have k5 := hT b5 (by simp)
  have j6 := hS a6 (by simp)
  have k6 := hT b6 (by simp)
  have j7 := hS a7 (by simp)
  have k7 := hT b7 (by simp)
  have e0 := dW_eq j0 k0 (c := 0) (by omega)
  have e1 := dW_eq j1 k1 e0.2.2
  have e2 := dW_eq j2 k2 e1.2.2
  have e3 := dW_eq j3 k3 e2.2.2
  have e4 := dW_eq j4 k4 e3.2.2
  have e5 := dW_eq j5 k5 e4.2.2
  have e6 := dW_eq j6 k6 e5.2.2
  have e7 := dW_eq j7 k7 e6.2.2
  show [IntKind.u32.wrap (dW a0 b0 0), IntKind.u32.wrap (dW a1 b1 (shr .u64 (dW a0 b0 0) 63)), IntKind.u32.wrap (dW a2 b2 (shr .u64 (dW a1 b1 (shr .u64 (dW a0 b0 0) 63)) 63)), IntKind.u32.wrap (dW a3 b3 (shr .u64 (dW a2 b2 (shr .u64 (dW a1 b1 (shr .u64 (dW a0 b0 0) 63)) 63)) 63)), IntKind.u32.wrap (dW a4 b4 (shr .u64 (dW a3 b3 (shr .u64 (dW a2 b2 (shr .u64 (dW a1 b1 (shr .u64 (dW a0 b0 0) 63)) 63)) 63)) 63)), IntKind.u32.wrap (dW a5 b5 (shr .u64 (dW a4 b4 (shr .u64 (dW a3 b3 (shr .u64 (dW a2 b2 (shr .u64 (dW a1 b1 (shr .u64 (dW a0 b0 0) 63)) 63)) 63)) 63)) 63)), IntKind.u32.wrap (dW a6 b6 (shr .u64 (dW a5 b5 (shr .u64 (dW a4 b4 (shr .u64 (dW a3 b3 (shr .u64 (dW a2 b2 (shr .u64 (dW a1 b1 (shr .u64 (dW a0 b0 0) 63)) 63)) 63)) 63)) 63)) 63)), IntKind.u32.wrap (dW a7 b7 (shr .u64 (dW a6 b6 (shr .u64 (dW a5 b5 (shr .u64 (dW a4 b4 (shr .u64 (dW a3 b3 (shr .u64 (dW a2 b2 (shr .u64 (dW a1 b1 (shr .u64 (dW a0 b0 0) 63)) 63)) 63)) 63)) 63)) 63)) 63))] = _
  generalize shr .u64 (dW a7 b7 (shr .u64 (dW a6 b6 (shr .u64 (dW a5 b5 (shr .u64 (dW a4 b4 (shr .u64 (dW a3 b3 (shr .u64 (dW a2 b2 (shr .u64 (dW a1 b1 (shr .u64 (dW a0 b0 0) 63)) 63)) 63)) 63)) 63)) 63)) 63)) 63 = c7 at *
  generalize IntKind.u32.wrap (dW a7 b7 (shr .u64 (dW a6 b6 (shr .u64 (dW a5 b5 (shr .u64 (dW a4 b4 (shr .u64 (dW a3 b3 (shr .u64 (dW a2 b2 (shr .u64 (dW a1 b1 (shr .u64 (dW a0 b0 0) 63)) 63)) 63)) 63)) 63)) 63)) 63)) = s7 at *
  generalize shr .u64 (dW a6 b6 (shr .u64 (dW a5 b5 (shr .u64 (dW a4 b4 (shr .u64 (dW a3 b3 (shr .u64 (dW a2 b2 (shr .u64 (dW a1 b1 (shr .u64 (dW a0 b0 0) 63)) 63)) 63)) 63)) 63)) 63)) 63 = c6 at *
  generalize IntKind.u32.wrap (dW a6 b6 (shr .u64 (dW a5 b5 (shr .u64 (dW a4 b4 (shr .u64 (dW a3 b3 (shr .u64 (dW a2 b2 (shr .u64 (dW a1 b1 (shr .u64 (dW a0 b0 0) 63)) 63)) 63)) 63)) 63)) 63)) = s6 at *
  generalize shr .u64 (dW a5 b5 (shr .u64 (dW a4 b4 (shr .u64 (dW a3 b3 (shr .u64 (dW a2 b2 (shr .u64 (dW a1 b1 (shr .u64 (dW a0 b0 0) 63)) 63)) 63)) 63)) 63)) 63 = c5 at *
  generalize IntKind.u32.wrap (dW a5 b5 (shr .u64 (dW a4 b4 (shr .u64 (dW a3 b3 (shr .u64 (dW a2 b2 (shr .u64 (dW a1 b1 (shr .u64 (dW a0 b0 0) 63)) 63)) 63)) 63)) 63)) = s5 at *
  generalize shr .u64 (dW a4 b4 (shr .u64 (dW a3 b3 (shr .u64 (dW a2 b2 (shr .u64 (dW a1 b1 (shr .u64 (dW a0 b0 0) 63)) 63)) 63)) 63)) 63 = c4 at *
  generalize IntKind.u32.wrap (dW a4 b4 (shr .u64 (dW a3 b3 (shr .u64 (dW a2 b2 (shr .u64 (dW a1 b1 (shr .u64 (dW a0 b0 0) 63)) 63)) 63)) 63)) = s4 at *
  generalize shr .u64 (dW a3 b3 (shr .u64 (dW a2 b2 (shr .u64 (dW a1 b1 (shr .u64 (dW a0 b0 0) 63)) 63)) 63)) 63 = c3 at *
  generalize IntKind.u32.wrap (dW a3 b3 (shr .u64 (dW a2 b2 (shr .u64 (dW a1 b1 (shr .u64 (dW a0 b0 0) 63)) 63)) 63)) = s3 at *
  generalize shr .u64 (dW a2 b2 (shr .u64 (dW a1 b1 (shr .u64 (dW a0 b0 0) 63)) 63)) 63 = c2 at *
  generalize IntKind.u32.wrap (dW a2 b2 (shr .u64 (dW a1 b1 (shr .u64 (dW a0 b0 0) 63)) 63)) = s2 at *
  generalize shr .u64 (dW a1 b1 (shr .u64 (dW a0 b0 0) 63)) 63 = c1 at *
  generalize IntKind.u32.wrap (dW a1 b1 (shr .u64 (dW a0 b0 0) 63)) = s1 at *
  generalize shr .u64 (dW a0 b0 0) 63 = c0 at *
  generalize IntKind.u32.wrap (dW a0 b0 0) = s0 at *
  clear hS hT lS lT
  unfold difR V8
  refine W8_eq ?_ e0.2.1 e1.2.1 e2.2.1 e3.2.1 e4.2.1 e5.2.1 e6.2.1 e7.2.1
  simp only
  omega

theorem be_can (S : List Int) (T : List Int) (h0 : Wd8 S) (h1 : Wd8 T) (w : World) : Body Try.prog (tabOf tabNU) Try.f99 ⟨w, [], 0, noEnv⟩ (toA [.g [.ints .u32 (8 : Nat) S], .g [.ints .u32 (8 : Nat) T]]) [] (fun ys _ => ys = [.a (.b (decide (V8 S < V8 T)))]) :=
  Body.lens (c := (Try.f99.body.getD .skip)) rfl fun h => by
    have lS := h.vals 0 _ _ _ rfl
    have lT := h.vals 1 _ _ _ rfl
    obtain ⟨a0, a1, a2, a3, a4, a5, a6, a7, rfl⟩ := eight8 lS
    obtain ⟨b0, b1, b2, b3, b4, b5, b6, b7, rfl⟩ := eight8 lT
    have j0 := h0 a0 (by simp)
    have k0 := h1 b0 (by simp)
    have j1 := h0 a1 (by simp)
    have k1 := h1 b1 (by simp)
    have j2 := h0 a2 (by simp)
    have k2 := h1 b2 (by simp)
    have j3 := h0 a3 (by simp)
    have k3 := h1 b3 (by simp)
    have j4 := h0 a4 (by simp)
    have k4 := h1 b4 (by simp)
    have j5 := h0 a5 (by simp)
    have k5 := h1 b5 (by simp)
    have j6 := h0 a6 (by simp)
    have k6 := h1 b6 (by simp)
    have j7 := h0 a7 (by simp)
    have k7 := h1 b7 (by simp)
    by_cases e7 : a7 = b7
    rotate_left
    · refine (be8_body0 _ _ lS lT  e7 w).mono fun xs K hx => ?_
      subst hx
      have e : be8 [a0, a1, a2, a3, a4, a5, a6, a7] [b0, b1, b2, b3, b4, b5, b6, b7] = decide (V8 [a0, a1, a2, a3, a4, a5, a6, a7] < V8 [b0, b1, b2, b3, b4, b5, b6, b7]) := by
        show decide (a7 < b7) = decide (a0 + 4294967296 * a1 + 18446744073709551616 * a2 + 79228162514264337593543950336 * a3 + 340282366920938463463374607431768211456 * a4 + 1461501637330902918203684832716283019655932542976 * a5 + 6277101735386680763835789423207666416102355444464034512896 * a6 + 26959946667150639794667015087019630673637144422540572481103610249216 * a7 < b0 + 4294967296 * b1 + 18446744073709551616 * b2 + 79228162514264337593543950336 * b3 + 340282366920938463463374607431768211456 * b4 + 1461501637330902918203684832716283019655932542976 * b5 + 6277101735386680763835789423207666416102355444464034512896 * b6 + 26959946667150639794667015087019630673637144422540572481103610249216 * b7)
        exact decide_eq_decide.2 (by clear h0 h1 h lS lT; omega)
      rw [e]
    by_cases e6 : a6 = b6
    rotate_left
    · refine (be7_body0 _ _ lS lT e7 e6 w).mono fun xs K hx => ?_
      subst hx
      have e : be7 [a0, a1, a2, a3, a4, a5, a6, a7] [b0, b1, b2, b3, b4, b5, b6, b7] = decide (V8 [a0, a1, a2, a3, a4, a5, a6, a7] < V8 [b0, b1, b2, b3, b4, b5, b6, b7]) := by
        show decide (a6 < b6) = decide (a0 + 4294967296 * a1 + 18446744073709551616 * a2 + 79228162514264337593543950336 * a3 + 340282366920938463463374607431768211456 * a4 + 1461501637330902918203684832716283019655932542976 * a5 + 6277101735386680763835789423207666416102355444464034512896 * a6 + 26959946667150639794667015087019630673637144422540572481103610249216 * a7 < b0 + 4294967296 * b1 + 18446744073709551616 * b2 + 79228162514264337593543950336 * b3 + 340282366920938463463374607431768211456 * b4 + 1461501637330902918203684832716283019655932542976 * b5 + 6277101735386680763835789423207666416102355444464034512896 * b6 + 26959946667150639794667015087019630673637144422540572481103610249216 * b7)
        exact decide_eq_decide.2 (by clear h0 h1 h lS lT; omega)
      rw [e]
    by_cases e5 : a5 = b5
    rotate_left
    · refine (be6_body0 _ _ lS lT e7 e6 e5 w).mono fun xs K hx => ?_
      subst hx
      have e : be6 [a0, a1, a2, a3, a4, a5, a6, a7] [b0, b1, b2, b3, b4, b5, b6, b7] = decide (V8 [a0, a1, a2, a3, a4, a5, a6, a7] < V8 [b0, b1, b2, b3, b4, b5, b6, b7]) := by
        show decide (a5 < b5) = decide (a0 + 4294967296 * a1 + 18446744073709551616 * a2 + 79228162514264337593543950336 * a3 + 340282366920938463463374607431768211456 * a4 + 1461501637330902918203684832716283019655932542976 * a5 + 6277101735386680763835789423207666416102355444464034512896 * a6 + 26959946667150639794667015087019630673637144422540572481103610249216 * a7 < b0 + 4294967296 * b1 + 18446744073709551616 * b2 + 79228162514264337593543950336 * b3 + 340282366920938463463374607431768211456 * b4 + 1461501637330902918203684832716283019655932542976 * b5 + 6277101735386680763835789423207666416102355444464034512896 * b6 + 26959946667150639794667015087019630673637144422540572481103610249216 * b7)
        exact decide_eq_decide.2 (by clear h0 h1 h lS lT; omega)
      rw [e]
    by_cases e4 : a4 = b4
    rotate_left
    · refine (be5_body0 _ _ lS lT e7 e6 e5 e4 w).mono fun xs K hx => ?_
      subst hx
      have e : be5 [a0, a1, a2, a3, a4, a5, a6, a7] [b0, b1, b2, b3, b4, b5, b6, b7] = decide (V8 [a0, a1, a2, a3, a4, a5, a6, a7] < V8 [b0, b1, b2, b3, b4, b5, b6, b7]) := by
        show decide (a4 < b4) = decide (a0 + 4294967296 * a1 + 18446744073709551616 * a2 + 79228162514264337593543950336 * a3 + 340282366920938463463374607431768211456 * a4 + 1461501637330902918203684832716283019655932542976 * a5 + 6277101735386680763835789423207666416102355444464034512896 * a6 + 26959946667150639794667015087019630673637144422540572481103610249216 * a7 < b0 + 4294967296 * b1 + 18446744073709551616 * b2 + 79228162514264337593543950336 * b3 + 340282366920938463463374607431768211456 * b4 + 1461501637330902918203684832716283019655932542976 * b5 + 6277101735386680763835789423207666416102355444464034512896 * b6 + 26959946667150639794667015087019630673637144422540572481103610249216 * b7)
        exact decide_eq_decide.2 (by clear h0 h1 h lS lT; omega)
      rw [e]
    by_cases e3 : a3 = b3
    rotate_left
    · refine (be4_body0 _ _ lS lT e7 e6 e5 e4 e3 w).mono fun xs K hx => ?_
      subst hx
      have e : be4 [a0, a1, a2, a3, a4, a5, a6, a7] [b0, b1, b2, b3, b4, b5, b6, b7] = decide (V8 [a0, a1, a2, a3, a4, a5, a6, a7] < V8 [b0, b1, b2, b3, b4, b5, b6, b7]) := by
        show decide (a3 < b3) = decide (a0 + 4294967296 * a1 + 18446744073709551616 * a2 + 79228162514264337593543950336 * a3 + 340282366920938463463374607431768211456 * a4 + 1461501637330902918203684832716283019655932542976 * a5 + 6277101735386680763835789423207666416102355444464034512896 * a6 + 26959946667150639794667015087019630673637144422540572481103610249216 * a7 < b0 + 4294967296 * b1 + 18446744073709551616 * b2 + 79228162514264337593543950336 * b3 + 340282366920938463463374607431768211456 * b4 + 1461501637330902918203684832716283019655932542976 * b5 + 6277101735386680763835789423207666416102355444464034512896 * b6 + 26959946667150639794667015087019630673637144422540572481103610249216 * b7)
        exact decide_eq_decide.2 (by clear h0 h1 h lS lT; omega)
      rw [e]
    by_cases e2 : a2 = b2
    rotate_left
    · refine (be3_body0 _ _ lS lT e7 e6 e5 e4 e3 e2 w).mono fun xs K hx => ?_
      subst hx
      have e : be3 [a0, a1, a2, a3, a4, a5, a6, a7] [b0, b1, b2, b3, b4, b5, b6, b7] = decide (V8 [a0, a1, a2, a3, a4, a5, a6, a7] < V8 [b0, b1, b2, b3, b4, b5, b6, b7]) := by
        show decide (a2 < b2) = decide (a0 + 4294967296 * a1 + 18446744073709551616 * a2 + 79228162514264337593543950336 * a3 + 340282366920938463463374607431768211456 * a4 + 1461501637330902918203684832716283019655932542976 * a5 + 6277101735386680763835789423207666416102355444464034512896 * a6 + 26959946667150639794667015087019630673637144422540572481103610249216 * a7 < b0 + 4294967296 * b1 + 18446744073709551616 * b2 + 79228162514264337593543950336 * b3 + 340282366920938463463374607431768211456 * b4 + 1461501637330902918203684832716283019655932542976 * b5 + 6277101735386680763835789423207666416102355444464034512896 * b6 + 26959946667150639794667015087019630673637144422540572481103610249216 * b7)
        exact decide_eq_decide.2 (by clear h0 h1 h lS lT; omega)
      rw [e]
    by_cases e1 : a1 = b1
    rotate_left
    · refine (be2_body0 _ _ lS lT e7 e6 e5 e4 e3 e2 e1 w).mono fun xs K hx => ?_
      subst hx
      have e : be2 [a0, a1, a2, a3, a4, a5, a6, a7] [b0, b1, b2, b3, b4, b5, b6, b7] = decide (V8 [a0, a1, a2, a3, a4, a5, a6, a7] < V8 [b0, b1, b2, b3, b4, b5, b6, b7]) := by
        show decide (a1 < b1) = decide (a0 + 4294967296 * a1 + 18446744073709551616 * a2 + 79228162514264337593543950336 * a3 + 340282366920938463463374607431768211456 * a4 + 1461501637330902918203684832716283019655932542976 * a5 + 6277101735386680763835789423207666416102355444464034512896 * a6 + 26959946667150639794667015087019630673637144422540572481103610249216 * a7 < b0 + 4294967296 * b1 + 18446744073709551616 * b2 + 79228162514264337593543950336 * b3 + 340282366920938463463374607431768211456 * b4 + 1461501637330902918203684832716283019655932542976 * b5 + 6277101735386680763835789423207666416102355444464034512896 * b6 + 26959946667150639794667015087019630673637144422540572481103610249216 * b7)
        exact decide_eq_decide.2 (by clear h0 h1 h lS lT; omega)
      rw [e]
    by_cases e0 : a0 = b0
    rotate_left
    · refine (be1_body0 _ _ lS lT e7 e6 e5 e4 e3 e2 e1 e0 w).mono fun xs K hx => ?_
      subst hx
      have e : be1 [a0, a1, a2, a3, a4, a5, a6, a7] [b0, b1, b2, b3, b4, b5, b6, b7] = decide (V8 [a0, a1, a2, a3, a4, a5, a6, a7] < V8 [b0, b1, b2, b3, b4, b5, b6, b7]) := by
        show decide (a0 < b0) = decide (a0 + 4294967296 * a1 + 18446744073709551616 * a2 + 79228162514264337593543950336 * a3 + 340282366920938463463374607431768211456 * a4 + 1461501637330902918203684832716283019655932542976 * a5 + 6277101735386680763835789423207666416102355444464034512896 * a6 + 26959946667150639794667015087019630673637144422540572481103610249216 * a7 < b0 + 4294967296 * b1 + 18446744073709551616 * b2 + 79228162514264337593543950336 * b3 + 340282366920938463463374607431768211456 * b4 + 1461501637330902918203684832716283019655932542976 * b5 + 6277101735386680763835789423207666416102355444464034512896 * b6 + 26959946667150639794667015087019630673637144422540572481103610249216 * b7)
        exact decide_eq_decide.2 (by clear h0 h1 h lS lT; omega)
      rw [e]
    refine (be0_body0 _ _ lS lT e7 e6 e5 e4 e3 e2 e1 e0 w).mono fun xs K hx => ?_
    subst hx
    have e : false = decide (V8 [a0, a1, a2, a3, a4, a5, a6, a7] < V8 [b0, b1, b2, b3, b4, b5, b6, b7]) := by
      show false = decide (a0 + 4294967296 * a1 + 18446744073709551616 * a2 + 79228162514264337593543950336 * a3 + 340282366920938463463374607431768211456 * a4 + 1461501637330902918203684832716283019655932542976 * a5 + 6277101735386680763835789423207666416102355444464034512896 * a6 + 26959946667150639794667015087019630673637144422540572481103610249216 * a7 < b0 + 4294967296 * b1 + 18446744073709551616 * b2 + 79228162514264337593543950336 * b3 + 340282366920938463463374607431768211456 * b4 + 1461501637330902918203684832716283019655932542976 * b5 + 6277101735386680763835789423207666416102355444464034512896 * b6 + 26959946667150639794667015087019630673637144422540572481103610249216 * b7)
      exact (decide_eq_false (by clear h0 h1 h lS lT; omega)).symm
    rw [← e]

theorem bkR_eq {S : List Int} (h : Wd8 S) (l : S.length = 8) : bkR S = B32 (V8 S) := by
  obtain ⟨a0, a1, a2, a3, a4, a5, a6, a7, rfl⟩ := eight8 l
  have k0 := h a0 (by simp)
  have k1 := h a1 (by simp)
  have k2 := h a2 (by simp)
  have k3 := h a3 (by simp)
  have k4 := h a4 (by simp)
  have k5 := h a5 (by simp)
  have k6 := h a6 (by simp)
  have k7 := h a7 (by simp)
  have s0 : ∀ x : Int, shr .u32 x 0 = x / 1 := fun x => by
    have e : shr .u32 x 0 = x.fdiv 1 := rfl
    rw [e, Int.fdiv_eq_ediv_of_nonneg _ (by omega)]
  have s8 : ∀ x : Int, shr .u32 x 8 = x / 256 := fun x => by
    have e : shr .u32 x 8 = x.fdiv 256 := rfl
    rw [e, Int.fdiv_eq_ediv_of_nonneg _ (by omega)]
  have s16 : ∀ x : Int, shr .u32 x 16 = x / 65536 := fun x => by
    have e : shr .u32 x 16 = x.fdiv 65536 := rfl
    rw [e, Int.fdiv_eq_ediv_of_nonneg _ (by omega)]
  have s24 : ∀ x : Int, shr .u32 x 24 = x / 16777216 := fun x => by
    have e : shr .u32 x 24 = x.fdiv 16777216 := rfl
    rw [e, Int.fdiv_eq_ediv_of_nonneg _ (by omega)]
  clear h l
  unfold bkR B32 V8
  simp only [List.getD_cons_zero, List.getD_cons_succ, wrap8, s0, s8, s16, s24, List.cons.injEq, and_true]
  refine ⟨?_, ?_, ?_, ?_, ?_, ?_, ?_, ?_, ?_, ?_, ?_, ?_, ?_, ?_, ?_, ?_, ?_, ?_, ?_, ?_, ?_, ?_, ?_, ?_, ?_, ?_, ?_, ?_, ?_, ?_, ?_, ?_⟩ <;> omega

theorem tw_can (S : List Int) (b : Int) (h0 : Wd8 S) (h1 : (0 : Int) ≤ b) (h2 : b ≤ 1) (w : World) : Body Try.prog (tabOf tabNU) Try.f130 ⟨w, [], 0, noEnv⟩ (toA [.g [.ints .u32 (8 : Nat) S], .a (.i .u32 b)]) [] (fun ys _ => ys = [.g [.ints .u32 (8 : Nat) (W8 ((2 * V8 S + b) % 115792089237316195423570985008687907853269984665640564039457584007913129639936))]]) :=
  Body.lens (c := (Try.f130.body.getD .skip)) rfl fun h => (twA_body0 S b (h.vals 0 _ _ _ rfl) w).mono fun xs K hx => by
    subst hx; rw [tw_eq h0 (h.vals 0 _ _ _ rfl) ⟨h1, h2⟩]
theorem mi_can (S : List Int) (T : List Int) (h0 : Wd8 S) (h1 : Wd8 T) (w : World) : Body Try.prog (tabOf tabNU) Try.f96 ⟨w, [], 0, noEnv⟩ (toA [.g [.ints .u32 (8 : Nat) S], .g [.ints .u32 (8 : Nat) T]]) [] (fun ys _ => ys = [.g [.ints .u32 (8 : Nat) (W8 (difR (V8 S) (V8 T)))]]) :=
  Body.lens (c := (Try.f96.body.getD .skip)) rfl fun h => (miA_body0 S T (h.vals 0 _ _ _ rfl) (h.vals 1 _ _ _ rfl) w).mono fun xs K hx => by
    subst hx; rw [mi_eq h0 h1 (h.vals 0 _ _ _ rfl) (h.vals 1 _ _ _ rfl)]
theorem bkR_can (S : List Int) (h0 : Wd8 S) (w : World) : Body Try.prog (tabOf tabNU) Try.f76 ⟨w, [], 0, noEnv⟩ (toA [.g [.ints .u32 (8 : Nat) S]]) [] (fun ys _ => ys = [.g [.ints .u8 (32 : Nat) (B32 (V8 S))]]) :=
  Body.lens (c := (Try.f76.body.getD .skip)) rfl fun h => (bkR_body0 S (h.vals 0 _ _ _ rfl) w).mono fun xs K hx => by
    subst hx; rw [bkR_eq h0 (h.vals 0 _ _ _ rfl)]
end Go.Proofs.Ytcpoldghkiiggaa.X

/- Division bit by bit, as the reference does it. -/
namespace Go.Proofs.Ytcpoldghkiiggaa.X
open Go Go.Proofs
set_option linter.unusedVariables false

def dbl (x b : Int) : Int := (2 * x + b) % 115792089237316195423570985008687907853269984665640564039457584007913129639936
def OR8 : List Int := [1559614445, 1477600026, 2734136534, 350157278, 0, 0, 0, 268435456]
def bitX (x : Int) (k : Nat) : Int := bits2 .and .u32 (shr .u32 x (IntKind.u64.wrap ((31 : Int) - ((k : Nat) : Int)))) 1
def rI (x r : Int) : Nat → Int
  | 0 => r
  | k + 1 => if V8 (W8 (dbl (V8 (W8 (rI x r k))) (bitX x k))) < V8 OR8 then dbl (V8 (W8 (rI x r k))) (bitX x k) else difR (V8 (W8 (dbl (V8 (W8 (rI x r k))) (bitX x k)))) (V8 OR8)
def rO (l : List Int) (n : Nat) : Nat → Int
  | 0 => 0
  | t + 1 => rI (List.getD l (Int.toNat (((n : Nat) : Int) - (1 : Int) - ((t : Nat) : Int))) 0) (rO l n t) 32

theorem rI_a {x r : Int} {k : Nat} (h : V8 (W8 (dbl (V8 (W8 (rI x r k))) (bitX x k))) < V8 OR8) : rI x r (k + 1) = dbl (V8 (W8 (rI x r k))) (bitX x k) := by
  show (if _ then _ else _) = _
  rw [if_pos h]
theorem rI_b {x r : Int} {k : Nat} (h : ¬ V8 (W8 (dbl (V8 (W8 (rI x r k))) (bitX x k))) < V8 OR8) : rI x r (k + 1) = difR (V8 (W8 (dbl (V8 (W8 (rI x r k))) (bitX x k)))) (V8 OR8) := by
  show (if _ then _ else _) = _
  rw [if_neg h]

theorem bit_and (y : Int) : bits2 .and .u32 y 1 = y % 2 := by
  have e : bits2 .and .u32 y 1 = IntKind.u32.wrap (((BitVec.ofInt 32 y &&& BitVec.ofInt 32 1).toNat : Nat) : Int) := rfl
  have t2 : (BitVec.ofInt 32 1).toNat = 2 ^ 1 - 1 := by rfl
  rw [e, BitVec.toNat_and, t2, Nat.and_two_pow_sub_one_eq_mod, BitVec.toNat_ofInt, wrap32]
  show (((y % 4294967296).toNat % 2 ^ 1 : Nat) : Int) % 4294967296 = y % 2
  omega
theorem bit_01 (y : Int) : 0 ≤ bits2 .and .u32 y 1 ∧ bits2 .and .u32 y 1 ≤ 1 := by rw [bit_and]; omega
theorem W8_0 : W8 0 = [0, 0, 0, 0, 0, 0, 0, 0] := by decide +kernel
theorem wd8_ord : Wd8 [1559614445, 1477600026, 2734136534, 350157278, 0, 0, 0, 268435456] := wd8_W8 7237005577332262213973186563042994240857116359379907606001950938285454250989
end Go.Proofs.Ytcpoldghkiiggaa.X

/- Printed by a tool of this session. -/
namespace Go.Proofs.Ytcpoldghkiiggaa.X
open Go Go.Proofs
set_option linter.unusedVariables false
set_option linter.unusedSimpArgs false
set_option maxRecDepth 100000
theorem teNX_3 : TEOk Try.prog 3 ⟨.int .i64, 1, 8, [.i .i64 (0 : Int)], false⟩ :=
  TEOk.of Try.underlying3 (i := Try.t3) (by kernel_rfl) rfl rfl rfl (by kernel_rfl) (fun h => by cases h) (by kernel_rfl)
theorem teNX_62 : TEOk Try.prog 62 ⟨.int .u64, 1, 8, [.i .u64 (0 : Int)], false⟩ :=
  TEOk.of Try.underlying62 (i := Try.t62) (by kernel_rfl) rfl rfl rfl (by kernel_rfl) (fun h => by cases h) (by kernel_rfl)
theorem teNX_109 : TEOk Try.prog 109 ⟨.int .u32, 1, 4, [.i .u32 (0 : Int)], false⟩ :=
  TEOk.of Try.underlying109 (i := Try.t109) (by kernel_rfl) rfl rfl rfl (by kernel_rfl) (fun h => by cases h) (by kernel_rfl)
theorem teNX_111 : TEOk Try.prog 111 ⟨.array 8 109, 8, 32, [.ints .u32 (8 : Nat) ([0, 0, 0, 0, 0, 0, 0, 0] : List Int)], true⟩ :=
  TEOk.of Try.underlying111 (i := Try.t111) (by kernel_rfl) rfl rfl rfl (by kernel_rfl) (fun _ => Try.eqGuardType111) (by kernel_rfl)
theorem teNX_113 : TEOk Try.prog 113 ⟨.slice 109, 1, 24, [.raw (.slice none 0 0)], false⟩ :=
  TEOk.of Try.underlying113 (i := Try.t113) (by kernel_rfl) rfl rfl rfl (by kernel_rfl) (fun h => by cases h) (by kernel_rfl)
noncomputable def tabNX : List (Nat × TE) := [(3, ⟨.int .i64, 1, 8, [.i .i64 (0 : Int)], false⟩), (62, ⟨.int .u64, 1, 8, [.i .u64 (0 : Int)], false⟩), (109, ⟨.int .u32, 1, 4, [.i .u32 (0 : Int)], false⟩), (111, ⟨.array 8 109, 8, 32, [.ints .u32 (8 : Nat) ([0, 0, 0, 0, 0, 0, 0, 0] : List Int)], true⟩), (113, ⟨.slice 109, 1, 24, [.raw (.slice none 0 0)], false⟩)]
theorem tabOkNX : TabOk Try.prog (tabOf tabNX) := (tabOf_cons teNX_3 (tabOf_cons teNX_62 (tabOf_cons teNX_109 (tabOf_cons teNX_111 (tabOf_cons teNX_113 tabOf_nil)))))

theorem twA_pure (S : List Int) (b : Int) (h0 : (Wd8 S)) (h1 : ((0 : Int) ≤ b)) (h2 : (b ≤ (1 : Int))) : PureC Try.prog 130 [.g [.ints .u32 (8 : Nat) S], .a (.i .u32 b)] [.g [.ints .u32 (8 : Nat) (W8 (dbl (V8 S) b))]] :=
  PureC.of_body tabOkNU Try.func130 rfl rfl fun w => tw_can S b h0 h1 h2 w

def gam23 : Gam := gpure 130 (fun args => match args with | [.o (.g [.ints .u32 (8 : Nat) S]), .o (.a (.i .u32 b))] => some (some ((Wd8 S) ∧ ((0 : Int) ≤ b) ∧ (b ≤ (1 : Int))), [.g [.ints .u32 (8 : Nat) (W8 (dbl (V8 S) b))]]) | _ => none) gam22
theorem gam23_ok : GamOk Try.prog gam23 := gpure_ok gam22_ok Try.call130 (by
  intro args vc xs h hv
  split at h
  · simp only [Option.some.injEq, Prod.mk.injEq] at h; obtain ⟨rfl, rfl⟩ := h; exact ⟨_, by rfl, twA_pure _ _ hv.1 hv.2.1 hv.2.2⟩
  · simp at h)

theorem miA_pure (S : List Int) (T : List Int) (h0 : (Wd8 S)) (h1 : (Wd8 T)) : PureC Try.prog 96 [.g [.ints .u32 (8 : Nat) S], .g [.ints .u32 (8 : Nat) T]] [.g [.ints .u32 (8 : Nat) (W8 (difR (V8 S) (V8 T)))]] :=
  PureC.of_body tabOkNU Try.func96 rfl rfl fun w => mi_can S T h0 h1 w

def gam24 : Gam := gpure 96 (fun args => match args with | [.o (.g [.ints .u32 (8 : Nat) S]), .o (.g [.ints .u32 (8 : Nat) T])] => some (some ((Wd8 S) ∧ (Wd8 T)), [.g [.ints .u32 (8 : Nat) (W8 (difR (V8 S) (V8 T)))]]) | _ => none) gam23
theorem gam24_ok : GamOk Try.prog gam24 := gpure_ok gam23_ok Try.call96 (by
  intro args vc xs h hv
  split at h
  · simp only [Option.some.injEq, Prod.mk.injEq] at h; obtain ⟨rfl, rfl⟩ := h; exact ⟨_, by rfl, miA_pure _ _ hv.1 hv.2⟩
  · simp at h)

theorem be8_pure (S : List Int) (T : List Int) (h0 : (Wd8 S)) (h1 : (Wd8 T)) : PureC Try.prog 99 [.g [.ints .u32 (8 : Nat) S], .g [.ints .u32 (8 : Nat) T]] [.a (.b (decide ((V8 S) < (V8 T))))] :=
  PureC.of_body tabOkNU Try.func99 rfl rfl fun w => be_can S T h0 h1 w

def gam25 : Gam := gpure 99 (fun args => match args with | [.o (.g [.ints .u32 (8 : Nat) S]), .o (.g [.ints .u32 (8 : Nat) T])] => some (some ((Wd8 S) ∧ (Wd8 T)), [.a (.b (decide ((V8 S) < (V8 T))))]) | _ => none) gam24
theorem gam25_ok : GamOk Try.prog gam25 := gpure_ok gam24_ok Try.call99 (by
  intro args vc xs h hv
  split at h
  · simp only [Option.some.injEq, Prod.mk.injEq] at h; obtain ⟨rfl, rfl⟩ := h; exact ⟨_, by rfl, be8_pure _ _ hv.1 hv.2⟩
  · simp at h)

theorem bkR_pure (S : List Int) (h0 : (Wd8 S)) : PureC Try.prog 76 [.g [.ints .u32 (8 : Nat) S]] [.g [.ints .u8 (32 : Nat) (B32 (V8 S))]] :=
  PureC.of_body tabOkNU Try.func76 rfl rfl fun w => bkR_can S h0 w

def gam26 : Gam := gpure 76 (fun args => match args with | [.o (.g [.ints .u32 (8 : Nat) S])] => some (some ((Wd8 S)), [.g [.ints .u8 (32 : Nat) (B32 (V8 S))]]) | _ => none) gam25
theorem gam26_ok : GamOk Try.prog gam26 := gpure_ok gam25_ok Try.call76 (by
  intro args vc xs h hv
  split at h
  · simp only [Option.some.injEq, Prod.mk.injEq] at h; obtain ⟨rfl, rfl⟩ := h; exact ⟨_, by rfl, bkR_pure _ hv⟩
  · simp at h)

def moO_mk (n : Nat) (nm : Nat) (l : List Int) (cap0 : Nat) (ko : Nat) (sko : Unit) : St := ⟨sparse 37 [(0, .o (.a (.sl 0 (0 : Nat) n cap0))), (2, .o (.a (.p 1 0))), (3, .o (.a (.p 2 0))), (4, .o (.a (.p 3 0))), (5, .o (.a (.i .i64 ((((n : Nat) : Int) - (1 : Int)) - ((ko : Nat) : Int))))), (8, .o (.a (.sl 0 (0 : Nat) n cap0))), (10, .o (.a (.i .i64 (IntKind.i64.wrap (((n : Nat) : Int) - (1 : Int))))))], [some ⟨false, [.ints .u32 nm l]⟩, some ⟨true, [.ints .u32 (8 : Nat) ([0, 0, 0, 0, 0, 0, 0, 0] : List Int)]⟩, some ⟨true, [.ints .u32 (8 : Nat) (W8 (rO l n ko))]⟩, some ⟨true, [.ints .u32 (8 : Nat) ([1559614445, 1477600026, 2734136534, 350157278, 0, 0, 0, 268435456] : List Int)]⟩]⟩

def moI_mk (n : Nat) (nm : Nat) (l : List Int) (cap0 : Nat) (ko : Nat) (sko : Unit) (k : Nat) (s : Unit) : St := ⟨sparse 37 [(0, .o (.a (.sl 0 (0 : Nat) n cap0))), (2, .o (.a (.p 1 0))), (3, .o (.a (.p 2 0))), (4, .o (.a (.p 3 0))), (5, .o (.a (.i .i64 ((((n : Nat) : Int) - (1 : Int)) - ((ko : Nat) : Int))))), (6, .o (.a (.i .i64 ((31 : Int) - ((k : Nat) : Int))))), (8, .o (.a (.sl 0 (0 : Nat) n cap0))), (10, .o (.a (.i .i64 (IntKind.i64.wrap (((n : Nat) : Int) - (1 : Int)))))), (11, .o (.a (.i .i64 ((((n : Nat) : Int) - (1 : Int)) - ((ko : Nat) : Int))))), (12, .o (.a (.b (decide (((((n : Nat) : Int) - (1 : Int)) - ((ko : Nat) : Int)) ≥ (0 : Int))))))], [some ⟨false, [.ints .u32 nm l]⟩, some ⟨true, [.ints .u32 (8 : Nat) ([0, 0, 0, 0, 0, 0, 0, 0] : List Int)]⟩, some ⟨true, [.ints .u32 (8 : Nat) (W8 (rI (List.getD l (Int.toNat ((((n : Nat) : Int) - (1 : Int)) - ((ko : Nat) : Int))) 0) (rO l n ko) k))]⟩, some ⟨true, [.ints .u32 (8 : Nat) ([1559614445, 1477600026, 2734136534, 350157278, 0, 0, 0, 268435456] : List Int)]⟩]⟩

def moI_step (k : Nat) (s : Unit) : Unit :=
  ()

set_option maxHeartbeats 1000000 in
theorem moI_round_0 (n : Nat) (nm : Nat) (l : List Int) (cap0 : Nat) (ko : Nat) (sko : Unit) (h0 : (nm = n)) (h1 : (n < (70368744177664 : Nat))) (hc0 : n ≤ cap0) (hl0_0 : List.length l = nm) (hko : ko < n) (w : World) (β : Env) (k : Nat) (hk : k < (32 : Nat)) (s : Unit) (ha : V8 (W8 (dbl (V8 (W8 (rI (List.getD l (Int.toNat (((n : Nat) : Int) - (1 : Int) - ((ko : Nat) : Int))) 0) (rO l n ko) k))) (bitX (List.getD l (Int.toNat (((n : Nat) : Int) - (1 : Int) - ((ko : Nat) : Int))) 0) k))) < V8 OR8) : Run Try.prog ⟨w, [], 1, β⟩ (loopB Try.f77 2) (moI_mk n nm l cap0 ko sko k s) (To ⟨w, [], 1, β⟩ .normal (moI_mk n nm l cap0 ko sko (k + 1) (moI_step k s))) := by
  have e0 : (W8 (dbl (V8 (W8 (rI (List.getD l (Int.toNat ((((n : Nat) : Int) - (1 : Int)) - ((ko : Nat) : Int))) 0) (rO l n ko) k))) (bits2 .and .u32 (shr .u32 (List.getD l (Int.toNat ((((n : Nat) : Int) - (1 : Int)) - ((ko : Nat) : Int))) 0) (IntKind.u64.wrap ((31 : Int) - ((k : Nat) : Int)))) (1 : Int)))) = (W8 (rI (List.getD l (Int.toNat ((((n : Nat) : Int) - (1 : Int)) - ((ko : Nat) : Int))) 0) (rO l n ko) (k + (1 : Nat)))) := (by first | (rw [wrapI (by omega) (by omega)]; omega) | (rw [rI_a ha]; rfl))
  have e1 : (IntKind.i64.wrap (((31 : Int) - ((k : Nat) : Int)) - (1 : Int))) = ((31 : Int) - (((k + (1 : Nat)) : Nat) : Int)) := (by first | (rw [wrapI (by omega) (by omega)]; omega) | (rw [rI_a ha]; rfl))
  have h := Run.of_outT (B := ⟨w, [], 1, β⟩) (Λ := noLam) (Ψ := noPsi) (fuel := 0) (ora := [true, false]) (c := (loopB Try.f77 2)) (st := (moI_mk n nm l cap0 ko sko k s)) (l := [.forget [0, 2, 3, 4, 5, 6, 8, 10, 11, 12] 4]) (s' := ⟨sparse 37 [(0, .o (.a (.sl 0 (0 : Nat) n cap0))), (2, .o (.a (.p 1 0))), (3, .o (.a (.p 2 0))), (4, .o (.a (.p 3 0))), (5, .o (.a (.i .i64 ((((n : Nat) : Int) - (1 : Int)) - ((ko : Nat) : Int))))), (6, .o (.a (.i .i64 (IntKind.i64.wrap (((31 : Int) - ((k : Nat) : Int)) - (1 : Int)))))), (8, .o (.a (.sl 0 (0 : Nat) n cap0))), (10, .o (.a (.i .i64 (IntKind.i64.wrap (((n : Nat) : Int) - (1 : Int)))))), (11, .o (.a (.i .i64 ((((n : Nat) : Int) - (1 : Int)) - ((ko : Nat) : Int))))), (12, .o (.a (.b (decide (((((n : Nat) : Int) - (1 : Int)) - ((ko : Nat) : Int)) ≥ (0 : Int))))))], [some ⟨false, [.ints .u32 nm l]⟩, some ⟨true, [.ints .u32 (8 : Nat) ([0, 0, 0, 0, 0, 0, 0, 0] : List Int)]⟩, some ⟨true, [.ints .u32 (8 : Nat) (W8 (dbl (V8 (W8 (rI (List.getD l (Int.toNat ((((n : Nat) : Int) - (1 : Int)) - ((ko : Nat) : Int))) 0) (rO l n ko) k))) (bits2 .and .u32 (shr .u32 (List.getD l (Int.toNat ((((n : Nat) : Int) - (1 : Int)) - ((ko : Nat) : Int))) 0) (IntKind.u64.wrap ((31 : Int) - ((k : Nat) : Int)))) (1 : Int))))]⟩, some ⟨true, [.ints .u32 (8 : Nat) ([1559614445, 1477600026, 2734136534, 350157278, 0, 0, 0, 268435456] : List Int)]⟩]⟩) (ex := .normal) mix tabOkNX gam26_ok
    (vc := [((!(decide ((V8 (W8 (dbl (V8 (W8 (rI (List.getD l (Int.toNat ((((n : Nat) : Int) - (1 : Int)) - ((ko : Nat) : Int))) 0) (rO l n ko) k))) (bits2 .and .u32 (shr .u32 (List.getD l (Int.toNat ((((n : Nat) : Int) - (1 : Int)) - ((ko : Nat) : Int))) 0) (IntKind.u64.wrap ((31 : Int) - ((k : Nat) : Int)))) (1 : Int))))) < (V8 ([1559614445, 1477600026, 2734136534, 350157278, 0, 0, 0, 268435456] : List Int))))) = false), ((Wd8 (W8 (dbl (V8 (W8 (rI (List.getD l (Int.toNat ((((n : Nat) : Int) - (1 : Int)) - ((ko : Nat) : Int))) 0) (rO l n ko) k))) (bits2 .and .u32 (shr .u32 (List.getD l (Int.toNat ((((n : Nat) : Int) - (1 : Int)) - ((ko : Nat) : Int))) 0) (IntKind.u64.wrap ((31 : Int) - ((k : Nat) : Int)))) (1 : Int))))) ∧ (Wd8 ([1559614445, 1477600026, 2734136534, 350157278, 0, 0, 0, 268435456] : List Int))), ((Wd8 (W8 (rI (List.getD l (Int.toNat ((((n : Nat) : Int) - (1 : Int)) - ((ko : Nat) : Int))) 0) (rO l n ko) k))) ∧ ((0 : Int) ≤ (bits2 .and .u32 (shr .u32 (List.getD l (Int.toNat ((((n : Nat) : Int) - (1 : Int)) - ((ko : Nat) : Int))) 0) (IntKind.u64.wrap ((31 : Int) - ((k : Nat) : Int)))) (1 : Int))) ∧ ((bits2 .and .u32 (shr .u32 (List.getD l (Int.toNat ((((n : Nat) : Int) - (1 : Int)) - ((ko : Nat) : Int))) 0) (IntKind.u64.wrap ((31 : Int) - ((k : Nat) : Int)))) (1 : Int)) ≤ (1 : Int))), ((0 : Int) ≤ (IntKind.u64.wrap ((31 : Int) - ((k : Nat) : Int)))), ((Int.toNat ((((n : Nat) : Int) - (1 : Int)) - ((ko : Nat) : Int))) < nm), (((0 : Int) ≤ ((((n : Nat) : Int) - (1 : Int)) - ((ko : Nat) : Int))) ∧ (((((n : Nat) : Int) - (1 : Int)) - ((ko : Nat) : Int)) < ((n : Nat) : Int))), ((decide (((31 : Int) - ((k : Nat) : Int)) ≥ (0 : Int))) = true)]) (by kernel_rfl)
    (AllP_cons (by show (!decide (V8 (W8 (dbl (V8 (W8 (rI (List.getD l (Int.toNat (((n : Nat) : Int) - (1 : Int) - ((ko : Nat) : Int))) 0) (rO l n ko) k))) (bitX (List.getD l (Int.toNat (((n : Nat) : Int) - (1 : Int) - ((ko : Nat) : Int))) 0) k))) < V8 OR8)) = false; rw [decide_eq_true ha]; rfl) (AllP_cons ⟨(by first | assumption | exact wd8_W8 _ | exact wd8_ord), (by first | assumption | exact wd8_W8 _ | exact wd8_ord)⟩ (AllP_cons ⟨(by first | assumption | exact wd8_W8 _ | exact wd8_ord), (bits2_nn rfl), (by first | exact (bit_01 _).1 | exact (bit_01 _).2)⟩ (AllP_cons (wrap_nn rfl) (AllP_cons (by first | omega | (simp (disch := omega) only [wrapI]; omega)) (AllP_cons ⟨(by first | omega | (simp (disch := omega) only [wrapI]; omega)), (by first | omega | (simp (disch := omega) only [wrapI]; omega))⟩ (AllP_cons (decide_eq_true (by first | omega | (simp (disch := omega) only [wrapI]; omega))) (AllP_nil))))))))
  rw [e0, e1] at h
  exact h

set_option maxHeartbeats 1000000 in
theorem moI_round_1 (n : Nat) (nm : Nat) (l : List Int) (cap0 : Nat) (ko : Nat) (sko : Unit) (h0 : (nm = n)) (h1 : (n < (70368744177664 : Nat))) (hc0 : n ≤ cap0) (hl0_0 : List.length l = nm) (hko : ko < n) (w : World) (β : Env) (k : Nat) (hk : k < (32 : Nat)) (s : Unit) (ha : ¬ V8 (W8 (dbl (V8 (W8 (rI (List.getD l (Int.toNat (((n : Nat) : Int) - (1 : Int) - ((ko : Nat) : Int))) 0) (rO l n ko) k))) (bitX (List.getD l (Int.toNat (((n : Nat) : Int) - (1 : Int) - ((ko : Nat) : Int))) 0) k))) < V8 OR8) : Run Try.prog ⟨w, [], 1, β⟩ (loopB Try.f77 2) (moI_mk n nm l cap0 ko sko k s) (To ⟨w, [], 1, β⟩ .normal (moI_mk n nm l cap0 ko sko (k + 1) (moI_step k s))) := by
  have e0 : (W8 (difR (V8 (W8 (dbl (V8 (W8 (rI (List.getD l (Int.toNat ((((n : Nat) : Int) - (1 : Int)) - ((ko : Nat) : Int))) 0) (rO l n ko) k))) (bits2 .and .u32 (shr .u32 (List.getD l (Int.toNat ((((n : Nat) : Int) - (1 : Int)) - ((ko : Nat) : Int))) 0) (IntKind.u64.wrap ((31 : Int) - ((k : Nat) : Int)))) (1 : Int))))) (V8 ([1559614445, 1477600026, 2734136534, 350157278, 0, 0, 0, 268435456] : List Int)))) = (W8 (rI (List.getD l (Int.toNat ((((n : Nat) : Int) - (1 : Int)) - ((ko : Nat) : Int))) 0) (rO l n ko) (k + (1 : Nat)))) := (by first | (rw [wrapI (by omega) (by omega)]; omega) | (rw [rI_b ha]; rfl))
  have e1 : (IntKind.i64.wrap (((31 : Int) - ((k : Nat) : Int)) - (1 : Int))) = ((31 : Int) - (((k + (1 : Nat)) : Nat) : Int)) := (by first | (rw [wrapI (by omega) (by omega)]; omega) | (rw [rI_b ha]; rfl))
  have h := Run.of_outT (B := ⟨w, [], 1, β⟩) (Λ := noLam) (Ψ := noPsi) (fuel := 0) (ora := [true, true]) (c := (loopB Try.f77 2)) (st := (moI_mk n nm l cap0 ko sko k s)) (l := [.forget [0, 2, 3, 4, 5, 6, 8, 10, 11, 12] 4]) (s' := ⟨sparse 37 [(0, .o (.a (.sl 0 (0 : Nat) n cap0))), (2, .o (.a (.p 1 0))), (3, .o (.a (.p 2 0))), (4, .o (.a (.p 3 0))), (5, .o (.a (.i .i64 ((((n : Nat) : Int) - (1 : Int)) - ((ko : Nat) : Int))))), (6, .o (.a (.i .i64 (IntKind.i64.wrap (((31 : Int) - ((k : Nat) : Int)) - (1 : Int)))))), (8, .o (.a (.sl 0 (0 : Nat) n cap0))), (10, .o (.a (.i .i64 (IntKind.i64.wrap (((n : Nat) : Int) - (1 : Int)))))), (11, .o (.a (.i .i64 ((((n : Nat) : Int) - (1 : Int)) - ((ko : Nat) : Int))))), (12, .o (.a (.b (decide (((((n : Nat) : Int) - (1 : Int)) - ((ko : Nat) : Int)) ≥ (0 : Int))))))], [some ⟨false, [.ints .u32 nm l]⟩, some ⟨true, [.ints .u32 (8 : Nat) ([0, 0, 0, 0, 0, 0, 0, 0] : List Int)]⟩, some ⟨true, [.ints .u32 (8 : Nat) (W8 (difR (V8 (W8 (dbl (V8 (W8 (rI (List.getD l (Int.toNat ((((n : Nat) : Int) - (1 : Int)) - ((ko : Nat) : Int))) 0) (rO l n ko) k))) (bits2 .and .u32 (shr .u32 (List.getD l (Int.toNat ((((n : Nat) : Int) - (1 : Int)) - ((ko : Nat) : Int))) 0) (IntKind.u64.wrap ((31 : Int) - ((k : Nat) : Int)))) (1 : Int))))) (V8 ([1559614445, 1477600026, 2734136534, 350157278, 0, 0, 0, 268435456] : List Int))))]⟩, some ⟨true, [.ints .u32 (8 : Nat) ([1559614445, 1477600026, 2734136534, 350157278, 0, 0, 0, 268435456] : List Int)]⟩]⟩) (ex := .normal) mix tabOkNX gam26_ok
    (vc := [((Wd8 (W8 (dbl (V8 (W8 (rI (List.getD l (Int.toNat ((((n : Nat) : Int) - (1 : Int)) - ((ko : Nat) : Int))) 0) (rO l n ko) k))) (bits2 .and .u32 (shr .u32 (List.getD l (Int.toNat ((((n : Nat) : Int) - (1 : Int)) - ((ko : Nat) : Int))) 0) (IntKind.u64.wrap ((31 : Int) - ((k : Nat) : Int)))) (1 : Int))))) ∧ (Wd8 ([1559614445, 1477600026, 2734136534, 350157278, 0, 0, 0, 268435456] : List Int))), ((!(decide ((V8 (W8 (dbl (V8 (W8 (rI (List.getD l (Int.toNat ((((n : Nat) : Int) - (1 : Int)) - ((ko : Nat) : Int))) 0) (rO l n ko) k))) (bits2 .and .u32 (shr .u32 (List.getD l (Int.toNat ((((n : Nat) : Int) - (1 : Int)) - ((ko : Nat) : Int))) 0) (IntKind.u64.wrap ((31 : Int) - ((k : Nat) : Int)))) (1 : Int))))) < (V8 ([1559614445, 1477600026, 2734136534, 350157278, 0, 0, 0, 268435456] : List Int))))) = true), ((Wd8 (W8 (dbl (V8 (W8 (rI (List.getD l (Int.toNat ((((n : Nat) : Int) - (1 : Int)) - ((ko : Nat) : Int))) 0) (rO l n ko) k))) (bits2 .and .u32 (shr .u32 (List.getD l (Int.toNat ((((n : Nat) : Int) - (1 : Int)) - ((ko : Nat) : Int))) 0) (IntKind.u64.wrap ((31 : Int) - ((k : Nat) : Int)))) (1 : Int))))) ∧ (Wd8 ([1559614445, 1477600026, 2734136534, 350157278, 0, 0, 0, 268435456] : List Int))), ((Wd8 (W8 (rI (List.getD l (Int.toNat ((((n : Nat) : Int) - (1 : Int)) - ((ko : Nat) : Int))) 0) (rO l n ko) k))) ∧ ((0 : Int) ≤ (bits2 .and .u32 (shr .u32 (List.getD l (Int.toNat ((((n : Nat) : Int) - (1 : Int)) - ((ko : Nat) : Int))) 0) (IntKind.u64.wrap ((31 : Int) - ((k : Nat) : Int)))) (1 : Int))) ∧ ((bits2 .and .u32 (shr .u32 (List.getD l (Int.toNat ((((n : Nat) : Int) - (1 : Int)) - ((ko : Nat) : Int))) 0) (IntKind.u64.wrap ((31 : Int) - ((k : Nat) : Int)))) (1 : Int)) ≤ (1 : Int))), ((0 : Int) ≤ (IntKind.u64.wrap ((31 : Int) - ((k : Nat) : Int)))), ((Int.toNat ((((n : Nat) : Int) - (1 : Int)) - ((ko : Nat) : Int))) < nm), (((0 : Int) ≤ ((((n : Nat) : Int) - (1 : Int)) - ((ko : Nat) : Int))) ∧ (((((n : Nat) : Int) - (1 : Int)) - ((ko : Nat) : Int)) < ((n : Nat) : Int))), ((decide (((31 : Int) - ((k : Nat) : Int)) ≥ (0 : Int))) = true)]) (by kernel_rfl)
    (AllP_cons ⟨(by first | assumption | exact wd8_W8 _ | exact wd8_ord), (by first | assumption | exact wd8_W8 _ | exact wd8_ord)⟩ (AllP_cons (by show (!decide (V8 (W8 (dbl (V8 (W8 (rI (List.getD l (Int.toNat (((n : Nat) : Int) - (1 : Int) - ((ko : Nat) : Int))) 0) (rO l n ko) k))) (bitX (List.getD l (Int.toNat (((n : Nat) : Int) - (1 : Int) - ((ko : Nat) : Int))) 0) k))) < V8 OR8)) = true; rw [decide_eq_false ha]; rfl) (AllP_cons ⟨(by first | assumption | exact wd8_W8 _ | exact wd8_ord), (by first | assumption | exact wd8_W8 _ | exact wd8_ord)⟩ (AllP_cons ⟨(by first | assumption | exact wd8_W8 _ | exact wd8_ord), (bits2_nn rfl), (by first | exact (bit_01 _).1 | exact (bit_01 _).2)⟩ (AllP_cons (wrap_nn rfl) (AllP_cons (by first | omega | (simp (disch := omega) only [wrapI]; omega)) (AllP_cons ⟨(by first | omega | (simp (disch := omega) only [wrapI]; omega)), (by first | omega | (simp (disch := omega) only [wrapI]; omega))⟩ (AllP_cons (decide_eq_true (by first | omega | (simp (disch := omega) only [wrapI]; omega))) (AllP_nil)))))))))
  rw [e0, e1] at h
  exact h

theorem moI_round (n : Nat) (nm : Nat) (l : List Int) (cap0 : Nat) (ko : Nat) (sko : Unit) (h0 : (nm = n)) (h1 : (n < (70368744177664 : Nat))) (hc0 : n ≤ cap0) (hl0_0 : List.length l = nm) (hko : ko < n) (w : World) (β : Env) (k : Nat) (hk : k < (32 : Nat)) (s : Unit) : Run Try.prog ⟨w, [], 1, β⟩ (loopB Try.f77 2) (moI_mk n nm l cap0 ko sko k s) (To ⟨w, [], 1, β⟩ .normal (moI_mk n nm l cap0 ko sko (k + 1) (moI_step k s))) := by
  by_cases ha : V8 (W8 (dbl (V8 (W8 (rI (List.getD l (Int.toNat (((n : Nat) : Int) - (1 : Int) - ((ko : Nat) : Int))) 0) (rO l n ko) k))) (bitX (List.getD l (Int.toNat (((n : Nat) : Int) - (1 : Int) - ((ko : Nat) : Int))) 0) k))) < V8 OR8
  · exact moI_round_0 n nm l cap0 ko sko h0 h1 hc0 hl0_0 hko w β k hk s ha
  · exact moI_round_1 n nm l cap0 ko sko h0 h1 hc0 hl0_0 hko w β k hk s ha

set_option maxHeartbeats 1000000 in
theorem moI_last (n : Nat) (nm : Nat) (l : List Int) (cap0 : Nat) (ko : Nat) (sko : Unit) (h0 : (nm = n)) (h1 : (n < (70368744177664 : Nat))) (hc0 : n ≤ cap0) (hl0_0 : List.length l = nm) (hko : ko < n) (w : World) (β : Env) (s : Unit) : Run Try.prog ⟨w, [], 1, β⟩ (loopB Try.f77 2) (moI_mk n nm l cap0 ko sko (32 : Nat) s) (To ⟨w, [], 1, β⟩ (.exit 2) (moI_mk n nm l cap0 ko sko (32 : Nat) s)) :=
  Run.of_outT (B := ⟨w, [], 1, β⟩) (Λ := noLam) (Ψ := noPsi) (fuel := 0) (ora := [false]) (l := [.forget [0, 2, 3, 4, 5, 6, 8, 10, 11, 12] 4]) mix tabOkNX gam26_ok
    (vc := [(false = false)]) (by kernel_rfl)
    (AllP_cons rfl (AllP_nil))

theorem moI_loop (n : Nat) (nm : Nat) (l : List Int) (cap0 : Nat) (ko : Nat) (sko : Unit) (h0 : (nm = n)) (h1 : (n < (70368744177664 : Nat))) (hc0 : n ≤ cap0) (hl0_0 : List.length l = nm) (hko : ko < n) (w : World) (β : Env) (s : Unit) : Run Try.prog ⟨w, [], 1, β⟩ (.block 2 (.loop (loopB Try.f77 2))) (moI_mk n nm l cap0 ko sko 0 s) (To ⟨w, [], 1, β⟩ .normal (moI_mk n nm l cap0 ko sko (32 : Nat) (iter (moI_step) (32 : Nat) s))) :=
  Run.count (fun k => moI_mk n nm l cap0 ko sko k (iter (moI_step) k s)) (32 : Nat) (fun k hk => moI_round n nm l cap0 ko sko h0 h1 hc0 hl0_0 hko w β k hk _) (ex := (.exit 2)) (by simp) (moI_last n nm l cap0 ko sko h0 h1 hc0 hl0_0 hko w β _)

def moO_step (ko : Nat) (sko : Unit) : Unit :=
  ()

set_option maxHeartbeats 1000000 in
theorem moO_round (n : Nat) (nm : Nat) (l : List Int) (cap0 : Nat) (h0 : (nm = n)) (h1 : (n < (70368744177664 : Nat))) (hc0 : n ≤ cap0) (hl0_0 : List.length l = nm) (w : World) (β : Env) (ko : Nat) (hko : ko < n) (sko : Unit) : Run Try.prog ⟨w, [], 1, β⟩ (loopB Try.f77 0) (moO_mk n nm l cap0 ko sko) (To ⟨w, [], 1, β⟩ .normal (moO_mk n nm l cap0 (ko + 1) (moO_step ko sko))) := by
  have e0 : (W8 (rI (List.getD l (Int.toNat ((((n : Nat) : Int) - (1 : Int)) - ((ko : Nat) : Int))) 0) (rO l n ko) (32 : Nat))) = (W8 (rO l n (ko + (1 : Nat)))) := (by first | (rw [wrapI (by omega) (by omega)]; omega) | rfl)
  have e1 : (IntKind.i64.wrap (((((n : Nat) : Int) - (1 : Int)) - ((ko : Nat) : Int)) - (1 : Int))) = ((((n : Nat) : Int) - (1 : Int)) - (((ko + (1 : Nat)) : Nat) : Int)) := (by first | (rw [wrapI (by omega) (by omega)]; omega) | rfl)
  have h := Run.of_outT (B := ⟨w, [], 1, β⟩) (Λ := lamOf [(2, ⟨[.forget [0, 2, 3, 4, 5, 6, 8, 10, 11, 12] 4], .normal, (moI_mk n nm l cap0 ko sko (32 : Nat) (iter (moI_step) (32 : Nat) ()))⟩)]) (Ψ := noPsi) (fuel := 0) (ora := [true]) (c := (loopB Try.f77 0)) (st := (moO_mk n nm l cap0 ko sko)) (l := [.forget [0, 2, 3, 4, 5, 8, 10] 4]) (s' := ⟨sparse 37 [(0, .o (.a (.sl 0 (0 : Nat) n cap0))), (2, .o (.a (.p 1 0))), (3, .o (.a (.p 2 0))), (4, .o (.a (.p 3 0))), (5, .o (.a (.i .i64 (IntKind.i64.wrap (((((n : Nat) : Int) - (1 : Int)) - ((ko : Nat) : Int)) - (1 : Int)))))), (8, .o (.a (.sl 0 (0 : Nat) n cap0))), (10, .o (.a (.i .i64 (IntKind.i64.wrap (((n : Nat) : Int) - (1 : Int))))))], [some ⟨false, [.ints .u32 nm l]⟩, some ⟨true, [.ints .u32 (8 : Nat) ([0, 0, 0, 0, 0, 0, 0, 0] : List Int)]⟩, some ⟨true, [.ints .u32 (8 : Nat) (W8 (rI (List.getD l (Int.toNat ((((n : Nat) : Int) - (1 : Int)) - ((ko : Nat) : Int))) 0) (rO l n ko) (32 : Nat)))]⟩, some ⟨true, [.ints .u32 (8 : Nat) ([1559614445, 1477600026, 2734136534, 350157278, 0, 0, 0, 268435456] : List Int)]⟩]⟩) (ex := .normal) mix tabOkNX gam26_ok
    (vc := [(Run Try.prog ⟨w, [], 1, β⟩ (.block 2 (.loop (loopB Try.f77 2))) (moI_mk n nm l cap0 ko sko 0 ()) (To ⟨w, [], 1, β⟩ .normal (moI_mk n nm l cap0 ko sko (32 : Nat) (iter (moI_step) (32 : Nat) ())))), ((decide (((((n : Nat) : Int) - (1 : Int)) - ((ko : Nat) : Int)) ≥ (0 : Int))) = true)]) (by kernel_rfl)
    (AllP_cons (moI_loop n nm l cap0 ko sko h0 h1 hc0 hl0_0 hko w β ()) (AllP_cons (decide_eq_true (by first | omega | (simp (disch := omega) only [wrapI]; omega))) (AllP_nil)))
  rw [e0, e1] at h
  exact h

set_option maxHeartbeats 1000000 in
theorem moO_last (n : Nat) (nm : Nat) (l : List Int) (cap0 : Nat) (h0 : (nm = n)) (h1 : (n < (70368744177664 : Nat))) (hc0 : n ≤ cap0) (hl0_0 : List.length l = nm) (w : World) (β : Env) (sko : Unit) : Run Try.prog ⟨w, [], 1, β⟩ (loopB Try.f77 0) (moO_mk n nm l cap0 n sko) (To ⟨w, [], 1, β⟩ (.exit 0) (moO_mk n nm l cap0 n sko)) :=
  Run.of_outT (B := ⟨w, [], 1, β⟩) (Λ := noLam) (Ψ := noPsi) (fuel := 0) (ora := [false]) (l := [.forget [0, 2, 3, 4, 5, 8, 10] 4]) mix tabOkNX gam26_ok
    (vc := [((decide (((((n : Nat) : Int) - (1 : Int)) - ((n : Nat) : Int)) ≥ (0 : Int))) = false)]) (by kernel_rfl)
    (AllP_cons (decide_eq_false (by omega)) (AllP_nil))

theorem moO_loop (n : Nat) (nm : Nat) (l : List Int) (cap0 : Nat) (h0 : (nm = n)) (h1 : (n < (70368744177664 : Nat))) (hc0 : n ≤ cap0) (hl0_0 : List.length l = nm) (w : World) (β : Env) (sko : Unit) : Run Try.prog ⟨w, [], 1, β⟩ (.block 0 (.loop (loopB Try.f77 0))) (moO_mk n nm l cap0 0 sko) (To ⟨w, [], 1, β⟩ .normal (moO_mk n nm l cap0 n (iter (moO_step) n sko))) :=
  Run.count (fun ko => moO_mk n nm l cap0 ko (iter (moO_step) ko sko)) n (fun ko hko => moO_round n nm l cap0 h0 h1 hc0 hl0_0 w β ko hko _) (ex := (.exit 0)) (by simp) (moO_last n nm l cap0 h0 h1 hc0 hl0_0 w β _)

def modR (n : Nat) (l : List Int) : List Int :=
  (W8 (rO l n n))

set_option maxHeartbeats 1000000 in
theorem modR_body0 (n : Nat) (nm : Nat) (l : List Int) (cap0 : Nat) (h0 : (nm = n)) (h1 : (n < (70368744177664 : Nat))) (hc0 : n ≤ cap0) (hl0_0 : List.length l = nm) (w : World) (β : Env) : Body Try.prog (tabOf tabNX) Try.f77 ⟨w, [], 1, β⟩ [.o (.a (.sl 0 (0 : Nat) n cap0))] [some ⟨false, [.ints .u32 nm l]⟩] (fun ys _ => ys = [.g [.ints .u32 (8 : Nat) (modR n l)]]) :=
  Body.of_fin (Γ := gam26) (Λ := lamOf [(0, ⟨[.eqS 5 (.o (.a (.i .i64 ((((n : Nat) : Int) - (1 : Int)) - ((0 : Nat) : Int))))), .eqB 2 (⟨true, [.ints .u32 (8 : Nat) (W8 (rO l n (0 : Nat)))]⟩), .forget [0, 2, 3, 4, 5, 8, 10] 4], .normal, (moO_mk n nm l cap0 n (iter (moO_step) n ()))⟩)]) (Ψ := noPsi) (fuel := 0) (m := 37) (c := (Try.f77.body.getD .skip)) mix tabOkNX gam26_ok rfl (rs := [.cell 2 111]) rfl rfl [] []
    (vc := [(Run Try.prog ⟨w, [], 1, β⟩ (.block 0 (.loop (loopB Try.f77 0))) (moO_mk n nm l cap0 0 ()) (To ⟨w, [], 1, β⟩ .normal (moO_mk n nm l cap0 n (iter (moO_step) n ())))), ((some ⟨true, [.ints .u32 (8 : Nat) ([0, 0, 0, 0, 0, 0, 0, 0] : List Int)]⟩ : Option Blk) = some ⟨true, [.ints .u32 (8 : Nat) (W8 (rO l n (0 : Nat)))]⟩), ((.o (.a (.i .i64 (IntKind.i64.wrap (((n : Nat) : Int) - (1 : Int))))) : AV) = .o (.a (.i .i64 ((((n : Nat) : Int) - (1 : Int)) - ((0 : Nat) : Int)))))]) (by kernel_rfl)
    (AllP_cons (moO_loop n nm l cap0 h0 h1 hc0 hl0_0 w β ()) (AllP_cons ((by rw [show rO l n 0 = 0 from rfl, W8_0])) (AllP_cons ((congrArg (fun z => AV.o (.a (.i .i64 z))) ((wrapI (by omega) (by omega)).trans (by omega)))) (AllP_nil))))

theorem modR_body (n : Nat) (nm : Nat) (l : List Int) (cap0 : Nat) (h0 : (nm = n)) (h1 : (n < (70368744177664 : Nat))) (w : World) (β : Env) : Body Try.prog (tabOf tabNX) Try.f77 ⟨w, [], 1, β⟩ [.o (.a (.sl 0 (0 : Nat) n cap0))] [some ⟨false, [.ints .u32 nm l]⟩] (fun ys _ => ys = [.g [.ints .u32 (8 : Nat) (modR n l)]]) :=
  Body.lens (c := (Try.f77.body.getD .skip)) rfl fun h => modR_body0 n nm l cap0 h0 h1 (h.caps 0 _ _ _ _ rfl) (h.lens 0 _ .u32 nm l rfl (by simp)) w β

end Go.Proofs.Ytcpoldghkiiggaa.X

/- Division bit by bit is division. -/
namespace Go.Proofs.Ytcpoldghkiiggaa.X
open Go Go.Proofs
set_option linter.unusedVariables false

theorem V8_OR8 : V8 OR8 = LL := by decide +kernel

theorem rI_step {x r : Int} {k : Nat} (h0 : 0 ≤ rI x r k) (h1 : rI x r k < LL) (hb : 0 ≤ bitX x k ∧ bitX x k ≤ 1) : rI x r (k + 1) = modL (2 * rI x r k + bitX x k) := by
  have e1 : V8 (W8 (rI x r k)) = rI x r k := V8_W8 h0 (by unfold LL at h1; omega)
  have e2 : dbl (rI x r k) (bitX x k) = 2 * rI x r k + bitX x k := by unfold dbl; unfold LL at h1; omega
  have e3 : V8 (W8 (2 * rI x r k + bitX x k)) = 2 * rI x r k + bitX x k := V8_W8 (by omega) (by unfold LL at h1; omega)
  by_cases hc : V8 (W8 (dbl (V8 (W8 (rI x r k))) (bitX x k))) < V8 OR8
  · rw [rI_a hc, e1, e2]
    rw [e1, e2, e3, V8_OR8] at hc
    unfold modL; exact (Int.emod_eq_of_lt (by omega) hc).symm
  · rw [rI_b hc, e1, e2, e3, V8_OR8]
    rw [e1, e2, e3, V8_OR8] at hc
    unfold difR modL
    unfold LL at *
    omega

theorem modL_2 (A b : Int) : modL (2 * modL A + b) = modL (2 * A + b) := by
  unfold modL
  rw [Int.add_emod, Int.mul_emod, Int.emod_emod_of_dvd _ (Int.dvd_refl LL), ← Int.mul_emod, ← Int.add_emod]

theorem bitX_eq {x : Int} {k : Nat} (h0 : 0 ≤ x) (hk : k < 32) : bitX x k = x / 2 ^ (31 - k) % 2 := by
  unfold bitX
  rw [bit_and]
  congr 1
  have e : IntKind.u64.wrap ((31 : Int) - ((k : Nat) : Int)) = ((31 - k : Nat) : Int) := by rw [wrap64]; omega
  rw [e]
  have e2 : shr .u32 x ((31 - k : Nat) : Int) = x.fdiv (2 ^ (min (31 - k) 32)) := rfl
  rw [e2, Nat.min_eq_left (by omega), Int.fdiv_eq_ediv_of_nonneg _ (Int.le_of_lt (Int.pow_pos (by omega)))]

theorem rI_eq {x r : Int} (h0 : 0 ≤ x) (h1 : x < 4294967296) (r0 : 0 ≤ r) (r1 : r < LL) : ∀ k : Nat, k ≤ 32 → rI x r k = modL (r * 2 ^ k + x / 2 ^ (32 - k))
  | 0, _ => by
    show r = modL (r * 2 ^ 0 + x / 2 ^ 32)
    have : x / 2 ^ 32 = 0 := Int.ediv_eq_zero_of_lt h0 (by exact h1)
    rw [this]
    unfold modL
    rw [show r * 2 ^ 0 + 0 = r by omega]; exact (Int.emod_eq_of_lt r0 r1).symm
  | k + 1, hk => by
    have ih := rI_eq h0 h1 r0 r1 k (by omega)
    have hm := modL_rng (r * 2 ^ k + x / 2 ^ (32 - k))
    rw [← ih] at hm
    have hb := bitX_eq h0 (show k < 32 by omega)
    rw [rI_step hm.1 hm.2.1 (by rw [hb]; omega), ih, modL_2, hb]
    congr 1
    have e1 : x / 2 ^ (32 - k) = x / 2 ^ (31 - k) / 2 := by
      rw [show 32 - k = (31 - k) + 1 by omega, Int.pow_succ]
      first | exact (Int.ediv_ediv_of_nonneg (Int.le_of_lt (Int.pow_pos (by omega)))).symm | exact (Int.ediv_ediv_eq_ediv_mul x (Int.le_of_lt (Int.pow_pos (by omega)))).symm | exact (Int.ediv_ediv (Int.le_of_lt (Int.pow_pos (by omega)))).symm
    rw [e1, show 32 - (k + 1) = 31 - k by omega, Int.pow_succ]
    generalize x / 2 ^ (31 - k) = y
    rw [← Int.mul_assoc]
    generalize r * 2 ^ k = z
    omega

/-- the number of the uppermost t digits -/
def topV (l : List Int) (n : Nat) : Nat → Int
  | 0 => 0
  | t + 1 => topV l n t * 4294967296 + List.getD l (Int.toNat (((n : Nat) : Int) - (1 : Int) - ((t : Nat) : Int))) 0

theorem wd8_get {S : List Int} (h : Wd8 S) (i : Nat) : 0 ≤ List.getD S i 0 ∧ List.getD S i 0 < 4294967296 := by
  rw [List.getD_eq_getElem?_getD]
  by_cases hi : i < S.length
  · rw [List.getElem?_eq_getElem hi]; exact h _ (List.getElem_mem hi)
  · rw [List.getElem?_eq_none (by omega)]; simp

theorem rO_eq {l : List Int} (h : Wd8 l) (n : Nat) : ∀ t, rO l n t = modL (topV l n t)
  | 0 => by show (0 : Int) = modL 0; rfl
  | t + 1 => by
    have hx := wd8_get h (Int.toNat (((n : Nat) : Int) - (1 : Int) - ((t : Nat) : Int)))
    show rI _ (rO l n t) 32 = modL (topV l n t * 4294967296 + _)
    rw [rO_eq h n t]
    have hm := modL_rng (topV l n t)
    rw [rI_eq hx.1 hx.2 hm.1 hm.2.1 32 (Nat.le_refl _)]
    unfold modL
    show (topV l n t % LL * 4294967296 + List.getD l _ 0 / 1) % LL = _
    rw [Int.ediv_one, Int.add_emod, Int.mul_emod, Int.emod_emod_of_dvd _ (Int.dvd_refl LL), ← Int.mul_emod, ← Int.add_emod]

theorem mod_can (n nm : Nat) (l : List Int) (cap0 : Nat) (h0 : nm = n) (h1 : n < 70368744177664) (h2 : Wd8 l) (w : World) (β : Env) : Body Try.prog (tabOf tabNX) Try.f77 ⟨w, [], 1, β⟩ [.o (.a (.sl 0 (0 : Nat) n cap0))] [some ⟨false, [.ints .u32 nm l]⟩] (fun ys _ => ys = [.g [.ints .u32 (8 : Nat) (W8 (modL (topV l n n)))]]) :=
  (modR_body n nm l cap0 h0 h1 w β).mono fun xs K hx => by
    subst hx
    have e : modR n l = W8 (modL (topV l n n)) := by show W8 (rO l n n) = _; rw [rO_eq h2]
    rw [e]
end Go.Proofs.Ytcpoldghkiiggaa.X

/- Printed by a tool of this session. -/
namespace Go.Proofs.Ytcpoldghkiiggaa.X
open Go Go.Proofs
set_option linter.unusedVariables false
set_option linter.unusedSimpArgs false
set_option maxRecDepth 100000
theorem teNZ_3 : TEOk Try.prog 3 ⟨.int .i64, 1, 8, [.i .i64 (0 : Int)], false⟩ :=
  TEOk.of Try.underlying3 (i := Try.t3) (by kernel_rfl) rfl rfl rfl (by kernel_rfl) (fun h => by cases h) (by kernel_rfl)
theorem teNZ_5 : TEOk Try.prog 5 ⟨.int .u8, 1, 1, [.i .u8 (0 : Int)], false⟩ :=
  TEOk.of Try.underlying5 (i := Try.t5) (by kernel_rfl) rfl rfl rfl (by kernel_rfl) (fun h => by cases h) (by kernel_rfl)
theorem teNZ_22 : TEOk Try.prog 22 ⟨.slice 5, 1, 24, [.raw (.slice none 0 0)], false⟩ :=
  TEOk.of Try.underlying22 (i := Try.t22) (by kernel_rfl) rfl rfl rfl (by kernel_rfl) (fun h => by cases h) (by kernel_rfl)
theorem teNZ_62 : TEOk Try.prog 62 ⟨.int .u64, 1, 8, [.i .u64 (0 : Int)], false⟩ :=
  TEOk.of Try.underlying62 (i := Try.t62) (by kernel_rfl) rfl rfl rfl (by kernel_rfl) (fun h => by cases h) (by kernel_rfl)
theorem teNZ_109 : TEOk Try.prog 109 ⟨.int .u32, 1, 4, [.i .u32 (0 : Int)], false⟩ :=
  TEOk.of Try.underlying109 (i := Try.t109) (by kernel_rfl) rfl rfl rfl (by kernel_rfl) (fun h => by cases h) (by kernel_rfl)
theorem teNZ_113 : TEOk Try.prog 113 ⟨.slice 109, 1, 24, [.raw (.slice none 0 0)], false⟩ :=
  TEOk.of Try.underlying113 (i := Try.t113) (by kernel_rfl) rfl rfl rfl (by kernel_rfl) (fun h => by cases h) (by kernel_rfl)
noncomputable def tabNZ : List (Nat × TE) := [(3, ⟨.int .i64, 1, 8, [.i .i64 (0 : Int)], false⟩), (5, ⟨.int .u8, 1, 1, [.i .u8 (0 : Int)], false⟩), (22, ⟨.slice 5, 1, 24, [.raw (.slice none 0 0)], false⟩), (62, ⟨.int .u64, 1, 8, [.i .u64 (0 : Int)], false⟩), (109, ⟨.int .u32, 1, 4, [.i .u32 (0 : Int)], false⟩), (113, ⟨.slice 109, 1, 24, [.raw (.slice none 0 0)], false⟩)]
theorem tabOkNZ : TabOk Try.prog (tabOf tabNZ) := (tabOf_cons teNZ_3 (tabOf_cons teNZ_5 (tabOf_cons teNZ_22 (tabOf_cons teNZ_62 (tabOf_cons teNZ_109 (tabOf_cons teNZ_113 tabOf_nil))))))

def gam27 : Gam := greadV 77 [.s 1] (fun vs args => match vs, args with | [⟨_, _, _, [.ints .u32 nm l]⟩], [a0] => some ((nm = (lenOfA a0)) ∧ ((lenOfA a0) < (70368744177664 : Nat)) ∧ (Wd8 l), [.g [.ints .u32 (8 : Nat) (W8 (modL (topV l (lenOfA a0) (lenOfA a0))))]]) | _, _ => none) gam26
theorem gam27_ok : GamOk Try.prog gam27 := greadV_ok tabOkNX Try.func77 gam26_ok Try.call77 (by
  intro vs args p xs h hv
  split at h
  · simp only [Option.some.injEq, Prod.mk.injEq] at h; obtain ⟨rfl, rfl⟩ := h; exact ⟨by rfl, fun caps w β => mod_can _ _ _ _ hv.1 hv.2.1 hv.2.2 w β⟩
  · simp at h)

def digA (b : List Int) : List Int :=
  ([(bits2 .or .u32 (bits2 .or .u32 (bits2 .or .u32 (bits2 .or .u32 (0 : Int) (shl .u32 (IntKind.u32.wrap (List.getD b (0 : Nat) 0)) (0 : Int))) (shl .u32 (IntKind.u32.wrap (List.getD b (1 : Nat) 0)) (8 : Int))) (shl .u32 (IntKind.u32.wrap (List.getD b (2 : Nat) 0)) (16 : Int))) (shl .u32 (IntKind.u32.wrap (List.getD b (3 : Nat) 0)) (24 : Int))), (bits2 .or .u32 (bits2 .or .u32 (bits2 .or .u32 (bits2 .or .u32 (0 : Int) (shl .u32 (IntKind.u32.wrap (List.getD b (4 : Nat) 0)) (0 : Int))) (shl .u32 (IntKind.u32.wrap (List.getD b (5 : Nat) 0)) (8 : Int))) (shl .u32 (IntKind.u32.wrap (List.getD b (6 : Nat) 0)) (16 : Int))) (shl .u32 (IntKind.u32.wrap (List.getD b (7 : Nat) 0)) (24 : Int))), (bits2 .or .u32 (bits2 .or .u32 (bits2 .or .u32 (bits2 .or .u32 (0 : Int) (shl .u32 (IntKind.u32.wrap (List.getD b (8 : Nat) 0)) (0 : Int))) (shl .u32 (IntKind.u32.wrap (List.getD b (9 : Nat) 0)) (8 : Int))) (shl .u32 (IntKind.u32.wrap (List.getD b (10 : Nat) 0)) (16 : Int))) (shl .u32 (IntKind.u32.wrap (List.getD b (11 : Nat) 0)) (24 : Int))), (bits2 .or .u32 (bits2 .or .u32 (bits2 .or .u32 (bits2 .or .u32 (0 : Int) (shl .u32 (IntKind.u32.wrap (List.getD b (12 : Nat) 0)) (0 : Int))) (shl .u32 (IntKind.u32.wrap (List.getD b (13 : Nat) 0)) (8 : Int))) (shl .u32 (IntKind.u32.wrap (List.getD b (14 : Nat) 0)) (16 : Int))) (shl .u32 (IntKind.u32.wrap (List.getD b (15 : Nat) 0)) (24 : Int))), (bits2 .or .u32 (bits2 .or .u32 (bits2 .or .u32 (bits2 .or .u32 (0 : Int) (shl .u32 (IntKind.u32.wrap (List.getD b (16 : Nat) 0)) (0 : Int))) (shl .u32 (IntKind.u32.wrap (List.getD b (17 : Nat) 0)) (8 : Int))) (shl .u32 (IntKind.u32.wrap (List.getD b (18 : Nat) 0)) (16 : Int))) (shl .u32 (IntKind.u32.wrap (List.getD b (19 : Nat) 0)) (24 : Int))), (bits2 .or .u32 (bits2 .or .u32 (bits2 .or .u32 (bits2 .or .u32 (0 : Int) (shl .u32 (IntKind.u32.wrap (List.getD b (20 : Nat) 0)) (0 : Int))) (shl .u32 (IntKind.u32.wrap (List.getD b (21 : Nat) 0)) (8 : Int))) (shl .u32 (IntKind.u32.wrap (List.getD b (22 : Nat) 0)) (16 : Int))) (shl .u32 (IntKind.u32.wrap (List.getD b (23 : Nat) 0)) (24 : Int))), (bits2 .or .u32 (bits2 .or .u32 (bits2 .or .u32 (bits2 .or .u32 (0 : Int) (shl .u32 (IntKind.u32.wrap (List.getD b (24 : Nat) 0)) (0 : Int))) (shl .u32 (IntKind.u32.wrap (List.getD b (25 : Nat) 0)) (8 : Int))) (shl .u32 (IntKind.u32.wrap (List.getD b (26 : Nat) 0)) (16 : Int))) (shl .u32 (IntKind.u32.wrap (List.getD b (27 : Nat) 0)) (24 : Int))), (bits2 .or .u32 (bits2 .or .u32 (bits2 .or .u32 (bits2 .or .u32 (0 : Int) (shl .u32 (IntKind.u32.wrap (List.getD b (28 : Nat) 0)) (0 : Int))) (shl .u32 (IntKind.u32.wrap (List.getD b (29 : Nat) 0)) (8 : Int))) (shl .u32 (IntKind.u32.wrap (List.getD b (30 : Nat) 0)) (16 : Int))) (shl .u32 (IntKind.u32.wrap (List.getD b (31 : Nat) 0)) (24 : Int)))] : List Int)

set_option maxHeartbeats 1000000 in
theorem digA_body0 (b : List Int) (cp : Nat) (hl0_0 : List.length b = (32 : Nat)) (w : World) (rw : List Nat) (β : Env) : Body Try.prog (tabOf tabNZ) Try.f78 ⟨w, rw, 1, β⟩ [.o (.a (.sl 0 (0 : Nat) (32 : Nat) cp))] [some ⟨false, [.ints .u8 (32 : Nat) b]⟩] (fun ys K' => ys = [.a (.sl 1 (0 : Nat) (8 : Nat) (8 : Nat))] ∧ K' = [some ⟨false, [.ints .u8 (32 : Nat) b]⟩, some ⟨true, [.ints .u32 (8 : Nat) (digA b)]⟩]) :=
  Body.of_finK (Γ := gam27) (Λ := noLam) (Ψ := psiOf [(1, [.eqB 1 (⟨true, [.ints .u32 (8 : Nat) ([0, 0, 0, 0, 0, 0, 0, 0] : List Int)]⟩)])]) (fuel := 33) (m := 37) (c := (Try.f78.body.getD .skip)) mix tabOkNZ gam27_ok rfl (rs := [.tmp 2]) rfl rfl [true, true, true, true, true, true, true, true, true, true, true, true, true, true, true, true, true, true, true, true, true, true, true, true, true, true, true, true, true, true, true, true, false] [] 2
    (vc := [(false = false), ((7 : Nat) < (8 : Nat)), (((0 : Int) ≤ (7 : Int)) ∧ ((7 : Int) < (8 : Int))), ((0 : Int) ≤ (24 : Int)), ((4 : Int) ≠ 0), ((31 : Nat) < (32 : Nat)), (((0 : Int) ≤ (31 : Int)) ∧ ((31 : Int) < (32 : Int))), ((7 : Nat) < (8 : Nat)), (((0 : Int) ≤ (7 : Int)) ∧ ((7 : Int) < (8 : Int))), ((4 : Int) ≠ 0), ((4 : Int) ≠ 0), (true = true), ((7 : Nat) < (8 : Nat)), (((0 : Int) ≤ (7 : Int)) ∧ ((7 : Int) < (8 : Int))), ((0 : Int) ≤ (16 : Int)), ((4 : Int) ≠ 0), ((30 : Nat) < (32 : Nat)), (((0 : Int) ≤ (30 : Int)) ∧ ((30 : Int) < (32 : Int))), ((7 : Nat) < (8 : Nat)), (((0 : Int) ≤ (7 : Int)) ∧ ((7 : Int) < (8 : Int))), ((4 : Int) ≠ 0), ((4 : Int) ≠ 0), (true = true), ((7 : Nat) < (8 : Nat)), (((0 : Int) ≤ (7 : Int)) ∧ ((7 : Int) < (8 : Int))), ((0 : Int) ≤ (8 : Int)), ((4 : Int) ≠ 0), ((29 : Nat) < (32 : Nat)), (((0 : Int) ≤ (29 : Int)) ∧ ((29 : Int) < (32 : Int))), ((7 : Nat) < (8 : Nat)), (((0 : Int) ≤ (7 : Int)) ∧ ((7 : Int) < (8 : Int))), ((4 : Int) ≠ 0), ((4 : Int) ≠ 0), (true = true), ((7 : Nat) < (8 : Nat)), (((0 : Int) ≤ (7 : Int)) ∧ ((7 : Int) < (8 : Int))), ((0 : Int) ≤ (0 : Int)), ((4 : Int) ≠ 0), ((28 : Nat) < (32 : Nat)), (((0 : Int) ≤ (28 : Int)) ∧ ((28 : Int) < (32 : Int))), ((7 : Nat) < (8 : Nat)), (((0 : Int) ≤ (7 : Int)) ∧ ((7 : Int) < (8 : Int))), ((4 : Int) ≠ 0), ((4 : Int) ≠ 0), (true = true), ((6 : Nat) < (8 : Nat)), (((0 : Int) ≤ (6 : Int)) ∧ ((6 : Int) < (8 : Int))), ((0 : Int) ≤ (24 : Int)), ((4 : Int) ≠ 0), ((27 : Nat) < (32 : Nat)), (((0 : Int) ≤ (27 : Int)) ∧ ((27 : Int) < (32 : Int))), ((6 : Nat) < (8 : Nat)), (((0 : Int) ≤ (6 : Int)) ∧ ((6 : Int) < (8 : Int))), ((4 : Int) ≠ 0), ((4 : Int) ≠ 0), (true = true), ((6 : Nat) < (8 : Nat)), (((0 : Int) ≤ (6 : Int)) ∧ ((6 : Int) < (8 : Int))), ((0 : Int) ≤ (16 : Int)), ((4 : Int) ≠ 0), ((26 : Nat) < (32 : Nat)), (((0 : Int) ≤ (26 : Int)) ∧ ((26 : Int) < (32 : Int))), ((6 : Nat) < (8 : Nat)), (((0 : Int) ≤ (6 : Int)) ∧ ((6 : Int) < (8 : Int))), ((4 : Int) ≠ 0), ((4 : Int) ≠ 0), (true = true), ((6 : Nat) < (8 : Nat)), (((0 : Int) ≤ (6 : Int)) ∧ ((6 : Int) < (8 : Int))), ((0 : Int) ≤ (8 : Int)), ((4 : Int) ≠ 0), ((25 : Nat) < (32 : Nat)), (((0 : Int) ≤ (25 : Int)) ∧ ((25 : Int) < (32 : Int))), ((6 : Nat) < (8 : Nat)), (((0 : Int) ≤ (6 : Int)) ∧ ((6 : Int) < (8 : Int))), ((4 : Int) ≠ 0), ((4 : Int) ≠ 0), (true = true), ((6 : Nat) < (8 : Nat)), (((0 : Int) ≤ (6 : Int)) ∧ ((6 : Int) < (8 : Int))), ((0 : Int) ≤ (0 : Int)), ((4 : Int) ≠ 0), ((24 : Nat) < (32 : Nat)), (((0 : Int) ≤ (24 : Int)) ∧ ((24 : Int) < (32 : Int))), ((6 : Nat) < (8 : Nat)), (((0 : Int) ≤ (6 : Int)) ∧ ((6 : Int) < (8 : Int))), ((4 : Int) ≠ 0), ((4 : Int) ≠ 0), (true = true), ((5 : Nat) < (8 : Nat)), (((0 : Int) ≤ (5 : Int)) ∧ ((5 : Int) < (8 : Int))), ((0 : Int) ≤ (24 : Int)), ((4 : Int) ≠ 0), ((23 : Nat) < (32 : Nat)), (((0 : Int) ≤ (23 : Int)) ∧ ((23 : Int) < (32 : Int))), ((5 : Nat) < (8 : Nat)), (((0 : Int) ≤ (5 : Int)) ∧ ((5 : Int) < (8 : Int))), ((4 : Int) ≠ 0), ((4 : Int) ≠ 0), (true = true), ((5 : Nat) < (8 : Nat)), (((0 : Int) ≤ (5 : Int)) ∧ ((5 : Int) < (8 : Int))), ((0 : Int) ≤ (16 : Int)), ((4 : Int) ≠ 0), ((22 : Nat) < (32 : Nat)), (((0 : Int) ≤ (22 : Int)) ∧ ((22 : Int) < (32 : Int))), ((5 : Nat) < (8 : Nat)), (((0 : Int) ≤ (5 : Int)) ∧ ((5 : Int) < (8 : Int))), ((4 : Int) ≠ 0), ((4 : Int) ≠ 0), (true = true), ((5 : Nat) < (8 : Nat)), (((0 : Int) ≤ (5 : Int)) ∧ ((5 : Int) < (8 : Int))), ((0 : Int) ≤ (8 : Int)), ((4 : Int) ≠ 0), ((21 : Nat) < (32 : Nat)), (((0 : Int) ≤ (21 : Int)) ∧ ((21 : Int) < (32 : Int))), ((5 : Nat) < (8 : Nat)), (((0 : Int) ≤ (5 : Int)) ∧ ((5 : Int) < (8 : Int))), ((4 : Int) ≠ 0), ((4 : Int) ≠ 0), (true = true), ((5 : Nat) < (8 : Nat)), (((0 : Int) ≤ (5 : Int)) ∧ ((5 : Int) < (8 : Int))), ((0 : Int) ≤ (0 : Int)), ((4 : Int) ≠ 0), ((20 : Nat) < (32 : Nat)), (((0 : Int) ≤ (20 : Int)) ∧ ((20 : Int) < (32 : Int))), ((5 : Nat) < (8 : Nat)), (((0 : Int) ≤ (5 : Int)) ∧ ((5 : Int) < (8 : Int))), ((4 : Int) ≠ 0), ((4 : Int) ≠ 0), (true = true), ((4 : Nat) < (8 : Nat)), (((0 : Int) ≤ (4 : Int)) ∧ ((4 : Int) < (8 : Int))), ((0 : Int) ≤ (24 : Int)), ((4 : Int) ≠ 0), ((19 : Nat) < (32 : Nat)), (((0 : Int) ≤ (19 : Int)) ∧ ((19 : Int) < (32 : Int))), ((4 : Nat) < (8 : Nat)), (((0 : Int) ≤ (4 : Int)) ∧ ((4 : Int) < (8 : Int))), ((4 : Int) ≠ 0), ((4 : Int) ≠ 0), (true = true), ((4 : Nat) < (8 : Nat)), (((0 : Int) ≤ (4 : Int)) ∧ ((4 : Int) < (8 : Int))), ((0 : Int) ≤ (16 : Int)), ((4 : Int) ≠ 0), ((18 : Nat) < (32 : Nat)), (((0 : Int) ≤ (18 : Int)) ∧ ((18 : Int) < (32 : Int))), ((4 : Nat) < (8 : Nat)), (((0 : Int) ≤ (4 : Int)) ∧ ((4 : Int) < (8 : Int))), ((4 : Int) ≠ 0), ((4 : Int) ≠ 0), (true = true), ((4 : Nat) < (8 : Nat)), (((0 : Int) ≤ (4 : Int)) ∧ ((4 : Int) < (8 : Int))), ((0 : Int) ≤ (8 : Int)), ((4 : Int) ≠ 0), ((17 : Nat) < (32 : Nat)), (((0 : Int) ≤ (17 : Int)) ∧ ((17 : Int) < (32 : Int))), ((4 : Nat) < (8 : Nat)), (((0 : Int) ≤ (4 : Int)) ∧ ((4 : Int) < (8 : Int))), ((4 : Int) ≠ 0), ((4 : Int) ≠ 0), (true = true), ((4 : Nat) < (8 : Nat)), (((0 : Int) ≤ (4 : Int)) ∧ ((4 : Int) < (8 : Int))), ((0 : Int) ≤ (0 : Int)), ((4 : Int) ≠ 0), ((16 : Nat) < (32 : Nat)), (((0 : Int) ≤ (16 : Int)) ∧ ((16 : Int) < (32 : Int))), ((4 : Nat) < (8 : Nat)), (((0 : Int) ≤ (4 : Int)) ∧ ((4 : Int) < (8 : Int))), ((4 : Int) ≠ 0), ((4 : Int) ≠ 0), (true = true), ((3 : Nat) < (8 : Nat)), (((0 : Int) ≤ (3 : Int)) ∧ ((3 : Int) < (8 : Int))), ((0 : Int) ≤ (24 : Int)), ((4 : Int) ≠ 0), ((15 : Nat) < (32 : Nat)), (((0 : Int) ≤ (15 : Int)) ∧ ((15 : Int) < (32 : Int))), ((3 : Nat) < (8 : Nat)), (((0 : Int) ≤ (3 : Int)) ∧ ((3 : Int) < (8 : Int))), ((4 : Int) ≠ 0), ((4 : Int) ≠ 0), (true = true), ((3 : Nat) < (8 : Nat)), (((0 : Int) ≤ (3 : Int)) ∧ ((3 : Int) < (8 : Int))), ((0 : Int) ≤ (16 : Int)), ((4 : Int) ≠ 0), ((14 : Nat) < (32 : Nat)), (((0 : Int) ≤ (14 : Int)) ∧ ((14 : Int) < (32 : Int))), ((3 : Nat) < (8 : Nat)), (((0 : Int) ≤ (3 : Int)) ∧ ((3 : Int) < (8 : Int))), ((4 : Int) ≠ 0), ((4 : Int) ≠ 0), (true = true), ((3 : Nat) < (8 : Nat)), (((0 : Int) ≤ (3 : Int)) ∧ ((3 : Int) < (8 : Int))), ((0 : Int) ≤ (8 : Int)), ((4 : Int) ≠ 0), ((13 : Nat) < (32 : Nat)), (((0 : Int) ≤ (13 : Int)) ∧ ((13 : Int) < (32 : Int))), ((3 : Nat) < (8 : Nat)), (((0 : Int) ≤ (3 : Int)) ∧ ((3 : Int) < (8 : Int))), ((4 : Int) ≠ 0), ((4 : Int) ≠ 0), (true = true), ((3 : Nat) < (8 : Nat)), (((0 : Int) ≤ (3 : Int)) ∧ ((3 : Int) < (8 : Int))), ((0 : Int) ≤ (0 : Int)), ((4 : Int) ≠ 0), ((12 : Nat) < (32 : Nat)), (((0 : Int) ≤ (12 : Int)) ∧ ((12 : Int) < (32 : Int))), ((3 : Nat) < (8 : Nat)), (((0 : Int) ≤ (3 : Int)) ∧ ((3 : Int) < (8 : Int))), ((4 : Int) ≠ 0), ((4 : Int) ≠ 0), (true = true), ((2 : Nat) < (8 : Nat)), (((0 : Int) ≤ (2 : Int)) ∧ ((2 : Int) < (8 : Int))), ((0 : Int) ≤ (24 : Int)), ((4 : Int) ≠ 0), ((11 : Nat) < (32 : Nat)), (((0 : Int) ≤ (11 : Int)) ∧ ((11 : Int) < (32 : Int))), ((2 : Nat) < (8 : Nat)), (((0 : Int) ≤ (2 : Int)) ∧ ((2 : Int) < (8 : Int))), ((4 : Int) ≠ 0), ((4 : Int) ≠ 0), (true = true), ((2 : Nat) < (8 : Nat)), (((0 : Int) ≤ (2 : Int)) ∧ ((2 : Int) < (8 : Int))), ((0 : Int) ≤ (16 : Int)), ((4 : Int) ≠ 0), ((10 : Nat) < (32 : Nat)), (((0 : Int) ≤ (10 : Int)) ∧ ((10 : Int) < (32 : Int))), ((2 : Nat) < (8 : Nat)), (((0 : Int) ≤ (2 : Int)) ∧ ((2 : Int) < (8 : Int))), ((4 : Int) ≠ 0), ((4 : Int) ≠ 0), (true = true), ((2 : Nat) < (8 : Nat)), (((0 : Int) ≤ (2 : Int)) ∧ ((2 : Int) < (8 : Int))), ((0 : Int) ≤ (8 : Int)), ((4 : Int) ≠ 0), ((9 : Nat) < (32 : Nat)), (((0 : Int) ≤ (9 : Int)) ∧ ((9 : Int) < (32 : Int))), ((2 : Nat) < (8 : Nat)), (((0 : Int) ≤ (2 : Int)) ∧ ((2 : Int) < (8 : Int))), ((4 : Int) ≠ 0), ((4 : Int) ≠ 0), (true = true), ((2 : Nat) < (8 : Nat)), (((0 : Int) ≤ (2 : Int)) ∧ ((2 : Int) < (8 : Int))), ((0 : Int) ≤ (0 : Int)), ((4 : Int) ≠ 0), ((8 : Nat) < (32 : Nat)), (((0 : Int) ≤ (8 : Int)) ∧ ((8 : Int) < (32 : Int))), ((2 : Nat) < (8 : Nat)), (((0 : Int) ≤ (2 : Int)) ∧ ((2 : Int) < (8 : Int))), ((4 : Int) ≠ 0), ((4 : Int) ≠ 0), (true = true), ((1 : Nat) < (8 : Nat)), (((0 : Int) ≤ (1 : Int)) ∧ ((1 : Int) < (8 : Int))), ((0 : Int) ≤ (24 : Int)), ((4 : Int) ≠ 0), ((7 : Nat) < (32 : Nat)), (((0 : Int) ≤ (7 : Int)) ∧ ((7 : Int) < (32 : Int))), ((1 : Nat) < (8 : Nat)), (((0 : Int) ≤ (1 : Int)) ∧ ((1 : Int) < (8 : Int))), ((4 : Int) ≠ 0), ((4 : Int) ≠ 0), (true = true), ((1 : Nat) < (8 : Nat)), (((0 : Int) ≤ (1 : Int)) ∧ ((1 : Int) < (8 : Int))), ((0 : Int) ≤ (16 : Int)), ((4 : Int) ≠ 0), ((6 : Nat) < (32 : Nat)), (((0 : Int) ≤ (6 : Int)) ∧ ((6 : Int) < (32 : Int))), ((1 : Nat) < (8 : Nat)), (((0 : Int) ≤ (1 : Int)) ∧ ((1 : Int) < (8 : Int))), ((4 : Int) ≠ 0), ((4 : Int) ≠ 0), (true = true), ((1 : Nat) < (8 : Nat)), (((0 : Int) ≤ (1 : Int)) ∧ ((1 : Int) < (8 : Int))), ((0 : Int) ≤ (8 : Int)), ((4 : Int) ≠ 0), ((5 : Nat) < (32 : Nat)), (((0 : Int) ≤ (5 : Int)) ∧ ((5 : Int) < (32 : Int))), ((1 : Nat) < (8 : Nat)), (((0 : Int) ≤ (1 : Int)) ∧ ((1 : Int) < (8 : Int))), ((4 : Int) ≠ 0), ((4 : Int) ≠ 0), (true = true), ((1 : Nat) < (8 : Nat)), (((0 : Int) ≤ (1 : Int)) ∧ ((1 : Int) < (8 : Int))), ((0 : Int) ≤ (0 : Int)), ((4 : Int) ≠ 0), ((4 : Nat) < (32 : Nat)), (((0 : Int) ≤ (4 : Int)) ∧ ((4 : Int) < (32 : Int))), ((1 : Nat) < (8 : Nat)), (((0 : Int) ≤ (1 : Int)) ∧ ((1 : Int) < (8 : Int))), ((4 : Int) ≠ 0), ((4 : Int) ≠ 0), (true = true), ((0 : Nat) < (8 : Nat)), (((0 : Int) ≤ (0 : Int)) ∧ ((0 : Int) < (8 : Int))), ((0 : Int) ≤ (24 : Int)), ((4 : Int) ≠ 0), ((3 : Nat) < (32 : Nat)), (((0 : Int) ≤ (3 : Int)) ∧ ((3 : Int) < (32 : Int))), ((0 : Nat) < (8 : Nat)), (((0 : Int) ≤ (0 : Int)) ∧ ((0 : Int) < (8 : Int))), ((4 : Int) ≠ 0), ((4 : Int) ≠ 0), (true = true), ((0 : Nat) < (8 : Nat)), (((0 : Int) ≤ (0 : Int)) ∧ ((0 : Int) < (8 : Int))), ((0 : Int) ≤ (16 : Int)), ((4 : Int) ≠ 0), ((2 : Nat) < (32 : Nat)), (((0 : Int) ≤ (2 : Int)) ∧ ((2 : Int) < (32 : Int))), ((0 : Nat) < (8 : Nat)), (((0 : Int) ≤ (0 : Int)) ∧ ((0 : Int) < (8 : Int))), ((4 : Int) ≠ 0), ((4 : Int) ≠ 0), (true = true), ((0 : Nat) < (8 : Nat)), (((0 : Int) ≤ (0 : Int)) ∧ ((0 : Int) < (8 : Int))), ((0 : Int) ≤ (8 : Int)), ((4 : Int) ≠ 0), ((1 : Nat) < (32 : Nat)), (((0 : Int) ≤ (1 : Int)) ∧ ((1 : Int) < (32 : Int))), ((0 : Nat) < (8 : Nat)), (((0 : Int) ≤ (0 : Int)) ∧ ((0 : Int) < (8 : Int))), ((4 : Int) ≠ 0), ((4 : Int) ≠ 0), (true = true), ((0 : Nat) < (8 : Nat)), (((0 : Int) ≤ (0 : Int)) ∧ ((0 : Int) < (8 : Int))), ((0 : Int) ≤ (0 : Int)), ((4 : Int) ≠ 0), ((0 : Nat) < (32 : Nat)), (((0 : Int) ≤ (0 : Int)) ∧ ((0 : Int) < (32 : Int))), ((0 : Nat) < (8 : Nat)), (((0 : Int) ≤ (0 : Int)) ∧ ((0 : Int) < (8 : Int))), ((4 : Int) ≠ 0), ((4 : Int) ≠ 0), (true = true), ((some ⟨true, [.ints .u32 (8 : Nat) (List.replicate (8 : Nat) (0 : Int))]⟩ : Option Blk) = some ⟨true, [.ints .u32 (8 : Nat) ([0, 0, 0, 0, 0, 0, 0, 0] : List Int)]⟩), (((0 : Int) ≤ (8 : Int)) ∧ ((8 : Int) ≤ (8 : Int)) ∧ ((32 : Int) ≤ (281474976710656 : Int))), ((4 : Int) ≠ 0)]) (by kernel_rfl)
    (AllP_cons rfl (AllP_cons (by decide) (AllP_cons ⟨(by decide), (by decide)⟩ (AllP_cons (by decide) (AllP_cons (by decide) (AllP_cons (by decide) (AllP_cons ⟨(by decide), (by decide)⟩ (AllP_cons (by decide) (AllP_cons ⟨(by decide), (by decide)⟩ (AllP_cons (by decide) (AllP_cons (by decide) (AllP_cons rfl (AllP_cons (by decide) (AllP_cons ⟨(by decide), (by decide)⟩ (AllP_cons (by decide) (AllP_cons (by decide) (AllP_cons (by decide) (AllP_cons ⟨(by decide), (by decide)⟩ (AllP_cons (by decide) (AllP_cons ⟨(by decide), (by decide)⟩ (AllP_cons (by decide) (AllP_cons (by decide) (AllP_cons rfl (AllP_cons (by decide) (AllP_cons ⟨(by decide), (by decide)⟩ (AllP_cons (by decide) (AllP_cons (by decide) (AllP_cons (by decide) (AllP_cons ⟨(by decide), (by decide)⟩ (AllP_cons (by decide) (AllP_cons ⟨(by decide), (by decide)⟩ (AllP_cons (by decide) (AllP_cons (by decide) (AllP_cons rfl (AllP_cons (by decide) (AllP_cons ⟨(by decide), (by decide)⟩ (AllP_cons (by decide) (AllP_cons (by decide) (AllP_cons (by decide) (AllP_cons ⟨(by decide), (by decide)⟩ (AllP_cons (by decide) (AllP_cons ⟨(by decide), (by decide)⟩ (AllP_cons (by decide) (AllP_cons (by decide) (AllP_cons rfl (AllP_cons (by decide) (AllP_cons ⟨(by decide), (by decide)⟩ (AllP_cons (by decide) (AllP_cons (by decide) (AllP_cons (by decide) (AllP_cons ⟨(by decide), (by decide)⟩ (AllP_cons (by decide) (AllP_cons ⟨(by decide), (by decide)⟩ (AllP_cons (by decide) (AllP_cons (by decide) (AllP_cons rfl (AllP_cons (by decide) (AllP_cons ⟨(by decide), (by decide)⟩ (AllP_cons (by decide) (AllP_cons (by decide) (AllP_cons (by decide) (AllP_cons ⟨(by decide), (by decide)⟩ (AllP_cons (by decide) (AllP_cons ⟨(by decide), (by decide)⟩ (AllP_cons (by decide) (AllP_cons (by decide) (AllP_cons rfl (AllP_cons (by decide) (AllP_cons ⟨(by decide), (by decide)⟩ (AllP_cons (by decide) (AllP_cons (by decide) (AllP_cons (by decide) (AllP_cons ⟨(by decide), (by decide)⟩ (AllP_cons (by decide) (AllP_cons ⟨(by decide), (by decide)⟩ (AllP_cons (by decide) (AllP_cons (by decide) (AllP_cons rfl (AllP_cons (by decide) (AllP_cons ⟨(by decide), (by decide)⟩ (AllP_cons (by decide) (AllP_cons (by decide) (AllP_cons (by decide) (AllP_cons ⟨(by decide), (by decide)⟩ (AllP_cons (by decide) (AllP_cons ⟨(by decide), (by decide)⟩ (AllP_cons (by decide) (AllP_cons (by decide) (AllP_cons rfl (AllP_cons (by decide) (AllP_cons ⟨(by decide), (by decide)⟩ (AllP_cons (by decide) (AllP_cons (by decide) (AllP_cons (by decide) (AllP_cons ⟨(by decide), (by decide)⟩ (AllP_cons (by decide) (AllP_cons ⟨(by decide), (by decide)⟩ (AllP_cons (by decide) (AllP_cons (by decide) (AllP_cons rfl (AllP_cons (by decide) (AllP_cons ⟨(by decide), (by decide)⟩ (AllP_cons (by decide) (AllP_cons (by decide) (AllP_cons (by decide) (AllP_cons ⟨(by decide), (by decide)⟩ (AllP_cons (by decide) (AllP_cons ⟨(by decide), (by decide)⟩ (AllP_cons (by decide) (AllP_cons (by decide) (AllP_cons rfl (AllP_cons (by decide) (AllP_cons ⟨(by decide), (by decide)⟩ (AllP_cons (by decide) (AllP_cons (by decide) (AllP_cons (by decide) (AllP_cons ⟨(by decide), (by decide)⟩ (AllP_cons (by decide) (AllP_cons ⟨(by decide), (by decide)⟩ (AllP_cons (by decide) (AllP_cons (by decide) (AllP_cons rfl (AllP_cons (by decide) (AllP_cons ⟨(by decide), (by decide)⟩ (AllP_cons (by decide) (AllP_cons (by decide) (AllP_cons (by decide) (AllP_cons ⟨(by decide), (by decide)⟩ (AllP_cons (by decide) (AllP_cons ⟨(by decide), (by decide)⟩ (AllP_cons (by decide) (AllP_cons (by decide) (AllP_cons rfl (AllP_cons (by decide) (AllP_cons ⟨(by decide), (by decide)⟩ (AllP_cons (by decide) (AllP_cons (by decide) (AllP_cons (by decide) (AllP_cons ⟨(by decide), (by decide)⟩ (AllP_cons (by decide) (AllP_cons ⟨(by decide), (by decide)⟩ (AllP_cons (by decide) (AllP_cons (by decide) (AllP_cons rfl (AllP_cons (by decide) (AllP_cons ⟨(by decide), (by decide)⟩ (AllP_cons (by decide) (AllP_cons (by decide) (AllP_cons (by decide) (AllP_cons ⟨(by decide), (by decide)⟩ (AllP_cons (by decide) (AllP_cons ⟨(by decide), (by decide)⟩ (AllP_cons (by decide) (AllP_cons (by decide) (AllP_cons rfl (AllP_cons (by decide) (AllP_cons ⟨(by decide), (by decide)⟩ (AllP_cons (by decide) (AllP_cons (by decide) (AllP_cons (by decide) (AllP_cons ⟨(by decide), (by decide)⟩ (AllP_cons (by decide) (AllP_cons ⟨(by decide), (by decide)⟩ (AllP_cons (by decide) (AllP_cons (by decide) (AllP_cons rfl (AllP_cons (by decide) (AllP_cons ⟨(by decide), (by decide)⟩ (AllP_cons (by decide) (AllP_cons (by decide) (AllP_cons (by decide) (AllP_cons ⟨(by decide), (by decide)⟩ (AllP_cons (by decide) (AllP_cons ⟨(by decide), (by decide)⟩ (AllP_cons (by decide) (AllP_cons (by decide) (AllP_cons rfl (AllP_cons (by decide) (AllP_cons ⟨(by decide), (by decide)⟩ (AllP_cons (by decide) (AllP_cons (by decide) (AllP_cons (by decide) (AllP_cons ⟨(by decide), (by decide)⟩ (AllP_cons (by decide) (AllP_cons ⟨(by decide), (by decide)⟩ (AllP_cons (by decide) (AllP_cons (by decide) (AllP_cons rfl (AllP_cons (by decide) (AllP_cons ⟨(by decide), (by decide)⟩ (AllP_cons (by decide) (AllP_cons (by decide) (AllP_cons (by decide) (AllP_cons ⟨(by decide), (by decide)⟩ (AllP_cons (by decide) (AllP_cons ⟨(by decide), (by decide)⟩ (AllP_cons (by decide) (AllP_cons (by decide) (AllP_cons rfl (AllP_cons (by decide) (AllP_cons ⟨(by decide), (by decide)⟩ (AllP_cons (by decide) (AllP_cons (by decide) (AllP_cons (by decide) (AllP_cons ⟨(by decide), (by decide)⟩ (AllP_cons (by decide) (AllP_cons ⟨(by decide), (by decide)⟩ (AllP_cons (by decide) (AllP_cons (by decide) (AllP_cons rfl (AllP_cons (by decide) (AllP_cons ⟨(by decide), (by decide)⟩ (AllP_cons (by decide) (AllP_cons (by decide) (AllP_cons (by decide) (AllP_cons ⟨(by decide), (by decide)⟩ (AllP_cons (by decide) (AllP_cons ⟨(by decide), (by decide)⟩ (AllP_cons (by decide) (AllP_cons (by decide) (AllP_cons rfl (AllP_cons (by decide) (AllP_cons ⟨(by decide), (by decide)⟩ (AllP_cons (by decide) (AllP_cons (by decide) (AllP_cons (by decide) (AllP_cons ⟨(by decide), (by decide)⟩ (AllP_cons (by decide) (AllP_cons ⟨(by decide), (by decide)⟩ (AllP_cons (by decide) (AllP_cons (by decide) (AllP_cons rfl (AllP_cons (by decide) (AllP_cons ⟨(by decide), (by decide)⟩ (AllP_cons (by decide) (AllP_cons (by decide) (AllP_cons (by decide) (AllP_cons ⟨(by decide), (by decide)⟩ (AllP_cons (by decide) (AllP_cons ⟨(by decide), (by decide)⟩ (AllP_cons (by decide) (AllP_cons (by decide) (AllP_cons rfl (AllP_cons (by decide) (AllP_cons ⟨(by decide), (by decide)⟩ (AllP_cons (by decide) (AllP_cons (by decide) (AllP_cons (by decide) (AllP_cons ⟨(by decide), (by decide)⟩ (AllP_cons (by decide) (AllP_cons ⟨(by decide), (by decide)⟩ (AllP_cons (by decide) (AllP_cons (by decide) (AllP_cons rfl (AllP_cons (by decide) (AllP_cons ⟨(by decide), (by decide)⟩ (AllP_cons (by decide) (AllP_cons (by decide) (AllP_cons (by decide) (AllP_cons ⟨(by decide), (by decide)⟩ (AllP_cons (by decide) (AllP_cons ⟨(by decide), (by decide)⟩ (AllP_cons (by decide) (AllP_cons (by decide) (AllP_cons rfl (AllP_cons (by decide) (AllP_cons ⟨(by decide), (by decide)⟩ (AllP_cons (by decide) (AllP_cons (by decide) (AllP_cons (by decide) (AllP_cons ⟨(by decide), (by decide)⟩ (AllP_cons (by decide) (AllP_cons ⟨(by decide), (by decide)⟩ (AllP_cons (by decide) (AllP_cons (by decide) (AllP_cons rfl (AllP_cons (by decide) (AllP_cons ⟨(by decide), (by decide)⟩ (AllP_cons (by decide) (AllP_cons (by decide) (AllP_cons (by decide) (AllP_cons ⟨(by decide), (by decide)⟩ (AllP_cons (by decide) (AllP_cons ⟨(by decide), (by decide)⟩ (AllP_cons (by decide) (AllP_cons (by decide) (AllP_cons rfl (AllP_cons (by decide) (AllP_cons ⟨(by decide), (by decide)⟩ (AllP_cons (by decide) (AllP_cons (by decide) (AllP_cons (by decide) (AllP_cons ⟨(by decide), (by decide)⟩ (AllP_cons (by decide) (AllP_cons ⟨(by decide), (by decide)⟩ (AllP_cons (by decide) (AllP_cons (by decide) (AllP_cons rfl (AllP_cons (by decide) (AllP_cons ⟨(by decide), (by decide)⟩ (AllP_cons (by decide) (AllP_cons (by decide) (AllP_cons (by decide) (AllP_cons ⟨(by decide), (by decide)⟩ (AllP_cons (by decide) (AllP_cons ⟨(by decide), (by decide)⟩ (AllP_cons (by decide) (AllP_cons (by decide) (AllP_cons rfl (AllP_cons (by decide) (AllP_cons ⟨(by decide), (by decide)⟩ (AllP_cons (by decide) (AllP_cons (by decide) (AllP_cons (by decide) (AllP_cons ⟨(by decide), (by decide)⟩ (AllP_cons (by decide) (AllP_cons ⟨(by decide), (by decide)⟩ (AllP_cons (by decide) (AllP_cons (by decide) (AllP_cons rfl (AllP_cons (by decide) (AllP_cons ⟨(by decide), (by decide)⟩ (AllP_cons (by decide) (AllP_cons (by decide) (AllP_cons (by decide) (AllP_cons ⟨(by decide), (by decide)⟩ (AllP_cons (by decide) (AllP_cons ⟨(by decide), (by decide)⟩ (AllP_cons (by decide) (AllP_cons (by decide) (AllP_cons rfl (AllP_cons (by decide) (AllP_cons ⟨(by decide), (by decide)⟩ (AllP_cons (by decide) (AllP_cons (by decide) (AllP_cons (by decide) (AllP_cons ⟨(by decide), (by decide)⟩ (AllP_cons (by decide) (AllP_cons ⟨(by decide), (by decide)⟩ (AllP_cons (by decide) (AllP_cons (by decide) (AllP_cons rfl (AllP_cons (by decide) (AllP_cons ⟨(by decide), (by decide)⟩ (AllP_cons (by decide) (AllP_cons (by decide) (AllP_cons (by decide) (AllP_cons ⟨(by decide), (by decide)⟩ (AllP_cons (by decide) (AllP_cons ⟨(by decide), (by decide)⟩ (AllP_cons (by decide) (AllP_cons (by decide) (AllP_cons rfl (AllP_cons ((by rfl)) (AllP_cons ⟨(by decide), (by decide), (by decide)⟩ (AllP_cons (by decide) (AllP_nil)))))))))))))))))))))))))))))))))))))))))))))))))))))))))))))))))))))))))))))))))))))))))))))))))))))))))))))))))))))))))))))))))))))))))))))))))))))))))))))))))))))))))))))))))))))))))))))))))))))))))))))))))))))))))))))))))))))))))))))))))))))))))))))))))))))))))))))))))))))))))))))))))))))))))))))))))))))))))))))))))))))))))))))))))))))))))))))))))))))

theorem digA_body (b : List Int) (cp : Nat) (w : World) (rw : List Nat) (β : Env) : Body Try.prog (tabOf tabNZ) Try.f78 ⟨w, rw, 1, β⟩ [.o (.a (.sl 0 (0 : Nat) (32 : Nat) cp))] [some ⟨false, [.ints .u8 (32 : Nat) b]⟩] (fun ys K' => ys = [.a (.sl 1 (0 : Nat) (8 : Nat) (8 : Nat))] ∧ K' = [some ⟨false, [.ints .u8 (32 : Nat) b]⟩, some ⟨true, [.ints .u32 (8 : Nat) (digA b)]⟩]) :=
  Body.lens (c := (Try.f78.body.getD .skip)) rfl fun h => digA_body0 b cp (h.lens 0 _ .u8 (32 : Nat) b rfl (by simp)) w rw β

end Go.Proofs.Ytcpoldghkiiggaa.X

/- The digits of 32 bytes. -/
namespace Go.Proofs.Ytcpoldghkiiggaa.X
open Go Go.Proofs
set_option linter.unusedVariables false

theorem or_shl32 {a b : Int} {n : Nat} (hn : n ≤ 24) (h0 : 0 ≤ a) (h1 : a < ((2 ^ n : Nat) : Int)) (b0 : 0 ≤ b) (b1 : b < 256) : bits2 .or .u32 a (shl .u32 (IntKind.u32.wrap b) ((n : Nat) : Int)) = a + b * ((2 ^ n : Nat) : Int) := by
  obtain ⟨x, rfl⟩ := Int.eq_ofNat_of_zero_le h0
  obtain ⟨y, rfl⟩ := Int.eq_ofNat_of_zero_le b0
  have hx : x < 2 ^ n := by omega
  have hy : y < 256 := by omega
  have hp : 2 ^ n ≤ 2 ^ 24 := Nat.pow_le_pow_right (by omega) hn
  have hyp : y * 2 ^ n ≤ 255 * 2 ^ 24 := Nat.mul_le_mul (by omega) hp
  have e1 : shl .u32 (IntKind.u32.wrap ((y : Nat) : Int)) ((n : Nat) : Int) = ((y * 2 ^ n : Nat) : Int) := by
    have : shl .u32 (IntKind.u32.wrap ((y : Nat) : Int)) ((n : Nat) : Int) = IntKind.u32.wrap (IntKind.u32.wrap ((y : Nat) : Int) * 2 ^ (min n 32)) := rfl
    rw [this, Nat.min_eq_left (by omega), wrap32 ((y : Nat) : Int), Int.emod_eq_of_lt (by omega) (by omega), wrap32]
    have e : ((y : Nat) : Int) * 2 ^ n = ((y * 2 ^ n : Nat) : Int) := by rw [Int.natCast_mul, Int.natCast_pow]; rfl
    rw [e]
    exact Int.emod_eq_of_lt (by omega) (by omega)
  rw [e1]
  have e : bits2 .or .u32 ((x : Nat) : Int) ((y * 2 ^ n : Nat) : Int) = IntKind.u32.wrap (((BitVec.ofInt 32 ((x : Nat) : Int) ||| BitVec.ofInt 32 ((y * 2 ^ n : Nat) : Int)).toNat : Nat) : Int) := rfl
  have t : ∀ m : Nat, m < 4294967296 → (BitVec.ofInt 32 ((m : Nat) : Int)).toNat = m := by
    intro m hm
    rw [BitVec.toNat_ofInt]
    show (((m : Nat) : Int) % 4294967296).toNat = m
    omega
  rw [e, BitVec.toNat_or, t x (by omega), t (y * 2 ^ n) (by omega), Nat.or_comm, Nat.mul_comm y, ← Nat.two_pow_add_eq_or_of_lt hx, wrap32]
  have : ((2 ^ n * y + x : Nat) : Int) % 4294967296 = ((2 ^ n * y + x : Nat) : Int) := Int.emod_eq_of_lt (by omega) (by rw [Nat.mul_comm]; omega)
  rw [this, Int.natCast_add, Int.natCast_mul, Int.add_comm, Int.mul_comm]

theorem word4 {b0 b1 b2 b3 : Int} (h0 : 0 ≤ b0 ∧ b0 < 256) (h1 : 0 ≤ b1 ∧ b1 < 256) (h2 : 0 ≤ b2 ∧ b2 < 256) (h3 : 0 ≤ b3 ∧ b3 < 256) : (bits2 .or .u32 (bits2 .or .u32 (bits2 .or .u32 (bits2 .or .u32 (0 : Int) (shl .u32 (IntKind.u32.wrap b0) (0 : Int))) (shl .u32 (IntKind.u32.wrap b1) (8 : Int))) (shl .u32 (IntKind.u32.wrap b2) (16 : Int))) (shl .u32 (IntKind.u32.wrap b3) (24 : Int))) = b0 + 256 * b1 + 65536 * b2 + 16777216 * b3 := by
  have e0 : bits2 .or .u32 ((0 : Int)) (shl .u32 (IntKind.u32.wrap b0) (0 : Int)) = b0 := by
    have q := or_shl32 (a := (0 : Int)) (b := b0) (n := 0) (by omega) (by omega) (show _ < (1 : Int) by omega) h0.1 h0.2
    have q : bits2 .or .u32 ((0 : Int)) (shl .u32 (IntKind.u32.wrap b0) (0 : Int)) = ((0 : Int)) + b0 * 1 := q
    rw [q]; omega
  have e1 : bits2 .or .u32 (b0) (shl .u32 (IntKind.u32.wrap b1) (8 : Int)) = b0 + 256 * b1 := by
    have q := or_shl32 (a := b0) (b := b1) (n := 8) (by omega) (by omega) (show _ < (256 : Int) by omega) h1.1 h1.2
    have q : bits2 .or .u32 (b0) (shl .u32 (IntKind.u32.wrap b1) (8 : Int)) = (b0) + b1 * 256 := q
    rw [q]; omega
  have e2 : bits2 .or .u32 (b0 + 256 * b1) (shl .u32 (IntKind.u32.wrap b2) (16 : Int)) = b0 + 256 * b1 + 65536 * b2 := by
    have q := or_shl32 (a := b0 + 256 * b1) (b := b2) (n := 16) (by omega) (by omega) (show _ < (65536 : Int) by omega) h2.1 h2.2
    have q : bits2 .or .u32 (b0 + 256 * b1) (shl .u32 (IntKind.u32.wrap b2) (16 : Int)) = (b0 + 256 * b1) + b2 * 65536 := q
    rw [q]; omega
  have e3 : bits2 .or .u32 (b0 + 256 * b1 + 65536 * b2) (shl .u32 (IntKind.u32.wrap b3) (24 : Int)) = b0 + 256 * b1 + 65536 * b2 + 16777216 * b3 := by
    have q := or_shl32 (a := b0 + 256 * b1 + 65536 * b2) (b := b3) (n := 24) (by omega) (by omega) (show _ < (16777216 : Int) by omega) h3.1 h3.2
    have q : bits2 .or .u32 (b0 + 256 * b1 + 65536 * b2) (shl .u32 (IntKind.u32.wrap b3) (24 : Int)) = (b0 + 256 * b1 + 65536 * b2) + b3 * 16777216 := q
    rw [q]; omega
  rw [e0, e1, e2, e3]

def le4 (s : List Int) (o : Nat) : Int := List.getD s (o + 0) 0 + 256 * List.getD s (o + 1) 0 + 65536 * List.getD s (o + 2) 0 + 16777216 * List.getD s (o + 3) 0
theorem le4_rng {s : List Int} (h : Byt s) (o : Nat) : 0 ≤ le4 s o ∧ le4 s o < 4294967296 := by
  have h0 := byt_get h (o + 0)
  have h1 := byt_get h (o + 1)
  have h2 := byt_get h (o + 2)
  have h3 := byt_get h (o + 3)
  unfold le4
  omega
theorem le8_le4 (s : List Int) (o : Nat) : le8 s o = le4 s o + 4294967296 * le4 s (o + 4) := by
  unfold le8 le4
  simp only [Nat.add_assoc, Nat.reduceAdd]
  omega
theorem dig_eq {s : List Int} (h : Byt s) : digA s = [le4 s 0, le4 s 4, le4 s 8, le4 s 12, le4 s 16, le4 s 20, le4 s 24, le4 s 28] := by
  unfold digA
  rw [word4 (byt_get h 0) (byt_get h 1) (byt_get h 2) (byt_get h 3), word4 (byt_get h 4) (byt_get h 5) (byt_get h 6) (byt_get h 7), word4 (byt_get h 8) (byt_get h 9) (byt_get h 10) (byt_get h 11), word4 (byt_get h 12) (byt_get h 13) (byt_get h 14) (byt_get h 15), word4 (byt_get h 16) (byt_get h 17) (byt_get h 18) (byt_get h 19), word4 (byt_get h 20) (byt_get h 21) (byt_get h 22) (byt_get h 23), word4 (byt_get h 24) (byt_get h 25) (byt_get h 26) (byt_get h 27), word4 (byt_get h 28) (byt_get h 29) (byt_get h 30) (byt_get h 31)]
  rfl
theorem dig_wd {s : List Int} (h : Byt s) : Wd8 (digA s) := by
  rw [dig_eq h]
  intro x hx
  simp only [List.mem_cons, List.not_mem_nil, or_false] at hx
  rcases hx with rfl | rfl | rfl | rfl | rfl | rfl | rfl | rfl <;> exact le4_rng h _
theorem top8 {a0 a1 a2 a3 a4 a5 a6 a7 : Int} : topV [a0, a1, a2, a3, a4, a5, a6, a7] 8 8 = a0 + 4294967296 * a1 + 18446744073709551616 * a2 + 79228162514264337593543950336 * a3 + 340282366920938463463374607431768211456 * a4 + 1461501637330902918203684832716283019655932542976 * a5 + 6277101735386680763835789423207666416102355444464034512896 * a6 + 26959946667150639794667015087019630673637144422540572481103610249216 * a7 := by
  show (((((((0 * 4294967296 + a7) * 4294967296 + a6) * 4294967296 + a5) * 4294967296 + a4) * 4294967296 + a3) * 4294967296 + a2) * 4294967296 + a1) * 4294967296 + a0 = _
  omega
theorem sub_dig (s : List Int) : sub (digA s) 0 8 = digA s := by
  unfold sub
  rw [List.drop_zero]
  exact List.take_of_length_le (Nat.le_of_eq rfl)
theorem dig_wd2 {s : List Int} (h : Byt s) : Wd8 (sub (digA s) 0 8) := by rw [sub_dig]; exact dig_wd h
theorem dig_top {s : List Int} (h : Byt s) : topV (digA s) 8 8 = BV s := by
  rw [dig_eq h, top8]
  unfold BV
  rw [le8_le4, le8_le4, le8_le4, le8_le4]
  show _ = le4 s 0 + 4294967296 * le4 s 4 + 18446744073709551616 * (le4 s 8 + 4294967296 * le4 s 12) + 340282366920938463463374607431768211456 * (le4 s 16 + 4294967296 * le4 s 20) + 6277101735386680763835789423207666416102355444464034512896 * (le4 s 24 + 4294967296 * le4 s 28)
  omega
end Go.Proofs.Ytcpoldghkiiggaa.X

/- Printed by a tool of this session. -/
namespace Go.Proofs.Ytcpoldghkiiggaa.X
open Go Go.Proofs
set_option linter.unusedVariables false
set_option linter.unusedSimpArgs false
set_option maxRecDepth 100000
theorem teOB_5 : TEOk Try.prog 5 ⟨.int .u8, 1, 1, [.i .u8 (0 : Int)], false⟩ :=
  TEOk.of Try.underlying5 (i := Try.t5) (by kernel_rfl) rfl rfl rfl (by kernel_rfl) (fun h => by cases h) (by kernel_rfl)
theorem teOB_24 : TEOk Try.prog 24 ⟨.array 32 5, 32, 32, [.ints .u8 (32 : Nat) ([0, 0, 0, 0, 0, 0, 0, 0, 0, 0, 0, 0, 0, 0, 0, 0, 0, 0, 0, 0, 0, 0, 0, 0, 0, 0, 0, 0, 0, 0, 0, 0] : List Int)], true⟩ :=
  TEOk.of Try.underlying24 (i := Try.t24) (by kernel_rfl) rfl rfl rfl (by kernel_rfl) (fun _ => Try.eqGuardType24) (by kernel_rfl)
theorem teOB_111 : TEOk Try.prog 111 ⟨.array 8 109, 8, 32, [.ints .u32 (8 : Nat) ([0, 0, 0, 0, 0, 0, 0, 0] : List Int)], true⟩ :=
  TEOk.of Try.underlying111 (i := Try.t111) (by kernel_rfl) rfl rfl rfl (by kernel_rfl) (fun _ => Try.eqGuardType111) (by kernel_rfl)
noncomputable def tabOB : List (Nat × TE) := [(5, ⟨.int .u8, 1, 1, [.i .u8 (0 : Int)], false⟩), (24, ⟨.array 32 5, 32, 32, [.ints .u8 (32 : Nat) ([0, 0, 0, 0, 0, 0, 0, 0, 0, 0, 0, 0, 0, 0, 0, 0, 0, 0, 0, 0, 0, 0, 0, 0, 0, 0, 0, 0, 0, 0, 0, 0] : List Int)], true⟩), (111, ⟨.array 8 109, 8, 32, [.ints .u32 (8 : Nat) ([0, 0, 0, 0, 0, 0, 0, 0] : List Int)], true⟩)]
theorem tabOkOB : TabOk Try.prog (tabOf tabOB) := (tabOf_cons teOB_5 (tabOf_cons teOB_24 (tabOf_cons teOB_111 tabOf_nil)))

def gam28 : Gam := gcall 78 [false] [.w] (fun wk vs args => match wk, vs, args with | [⟨false, [.ints .u8 (32 : Nat) b]⟩], [], [.o (.a (.sl 0 (0 : Nat) (32 : Nat) cp))] => some (True, [.a (.sl 1 (0 : Nat) (8 : Nat) (8 : Nat))], [some ⟨false, [.ints .u8 (32 : Nat) b]⟩, some ⟨true, [.ints .u32 (8 : Nat) (digA b)]⟩]) | _, _, _ => none) gam27
theorem gam28_ok : GamOk Try.prog gam28 := gcall_ok tabOkNZ Try.func78 gam27_ok Try.call78 (by
  intro wk vs args p xs K1 h hv
  split at h
  · simp only [Option.some.injEq, Prod.mk.injEq] at h; obtain ⟨rfl, rfl, rfl⟩ := h; exact fun caps w rw β => digA_body _ _ w rw β
  · simp at h)

def valR (a : List Int) : List Int :=
  (W8 (modL (topV (sub (digA a) (0 : Nat) (8 : Nat)) (8 : Nat) (8 : Nat))))

set_option maxHeartbeats 1000000 in
theorem valR_body0 (a : List Int) (h0 : (Byt a)) (hv0 : List.length a = (32 : Nat)) (w : World) : Body Try.prog (tabOf tabOB) Try.f81 ⟨w, [], 0, noEnv⟩ (toA [.g [.ints .u8 (32 : Nat) a]]) [] (fun ys _ => ys = [.g [.ints .u32 (8 : Nat) (valR a)]]) :=
  Body.of_fin (Γ := gam28) (Λ := noLam) (Ψ := noPsi) (fuel := 0) (m := 6) (c := (Try.f81.body.getD .skip)) mix tabOkOB gam28_ok rfl (rs := [.cell 2 111]) rfl rfl [] []
    (vc := [((((8 : Nat) ≤ (8 : Nat)) ∧ True) ∧ (((8 : Nat) = (8 : Nat)) ∧ ((8 : Nat) < (70368744177664 : Nat)) ∧ (Wd8 (sub (digA a) (0 : Nat) (8 : Nat))))), ((True ∧ True) ∧ True), (((0 : Int) ≤ (0 : Int)) ∧ ((0 : Int) ≤ (32 : Int)))]) (by kernel_rfl)
    (AllP_cons ⟨⟨(by decide), trivial⟩, ⟨rfl, (by decide), (by first | exact dig_wd2 h0 | assumption)⟩⟩ (AllP_cons ⟨⟨trivial, trivial⟩, trivial⟩ (AllP_cons ⟨(by decide), (by decide)⟩ (AllP_nil))))

end Go.Proofs.Ytcpoldghkiiggaa.X

/- The value of 32 bytes, by the reference. -/
namespace Go.Proofs.Ytcpoldghkiiggaa.X
open Go Go.Proofs
set_option linter.unusedVariables false

theorem valR_can (a : List Int) (h0 : Byt a) (w : World) : Body Try.prog (tabOf tabOB) Try.f81 ⟨w, [], 0, noEnv⟩ (toA [.g [.ints .u8 (32 : Nat) a]]) [] (fun ys _ => ys = [.g [.ints .u32 (8 : Nat) (W8 (modL (BV a)))]]) :=
  Body.lens (c := (Try.f81.body.getD .skip)) rfl fun h => (valR_body0 a h0 (h.vals 0 _ _ _ rfl) w).mono fun xs K hx => by
    subst hx
    have e : valR a = W8 (modL (BV a)) := by
      unfold valR
      rw [sub_dig, dig_top h0]
    rw [e]
theorem V8_modL (v : Int) : V8 (W8 (modL v)) = modL v := V8_W8 (modL_rng v).1 (modL_rng v).2.2
theorem wrap32_rng (x : Int) : 0 ≤ IntKind.u32.wrap x ∧ IntKind.u32.wrap x < 4294967296 := by rw [wrap32]; omega
end Go.Proofs.Ytcpoldghkiiggaa.X

/- Printed by a tool of this session. -/
namespace Go.Proofs.Ytcpoldghkiiggaa.X
open Go Go.Proofs
set_option linter.unusedVariables false
set_option linter.unusedSimpArgs false
set_option maxRecDepth 100000
theorem teOD_5 : TEOk Try.prog 5 ⟨.int .u8, 1, 1, [.i .u8 (0 : Int)], false⟩ :=
  TEOk.of Try.underlying5 (i := Try.t5) (by kernel_rfl) rfl rfl rfl (by kernel_rfl) (fun h => by cases h) (by kernel_rfl)
theorem teOD_24 : TEOk Try.prog 24 ⟨.array 32 5, 32, 32, [.ints .u8 (32 : Nat) ([0, 0, 0, 0, 0, 0, 0, 0, 0, 0, 0, 0, 0, 0, 0, 0, 0, 0, 0, 0, 0, 0, 0, 0, 0, 0, 0, 0, 0, 0, 0, 0] : List Int)], true⟩ :=
  TEOk.of Try.underlying24 (i := Try.t24) (by kernel_rfl) rfl rfl rfl (by kernel_rfl) (fun _ => Try.eqGuardType24) (by kernel_rfl)
theorem teOD_25 : TEOk Try.prog 25 ⟨.int .u64, 1, 8, [.i .u64 (0 : Int)], false⟩ :=
  TEOk.of Try.underlying25 (i := Try.t25) (by kernel_rfl) rfl rfl rfl (by kernel_rfl) (fun h => by cases h) (by kernel_rfl)
theorem teOD_109 : TEOk Try.prog 109 ⟨.int .u32, 1, 4, [.i .u32 (0 : Int)], false⟩ :=
  TEOk.of Try.underlying109 (i := Try.t109) (by kernel_rfl) rfl rfl rfl (by kernel_rfl) (fun h => by cases h) (by kernel_rfl)
theorem teOD_111 : TEOk Try.prog 111 ⟨.array 8 109, 8, 32, [.ints .u32 (8 : Nat) ([0, 0, 0, 0, 0, 0, 0, 0] : List Int)], true⟩ :=
  TEOk.of Try.underlying111 (i := Try.t111) (by kernel_rfl) rfl rfl rfl (by kernel_rfl) (fun _ => Try.eqGuardType111) (by kernel_rfl)
theorem teOD_113 : TEOk Try.prog 113 ⟨.slice 109, 1, 24, [.raw (.slice none 0 0)], false⟩ :=
  TEOk.of Try.underlying113 (i := Try.t113) (by kernel_rfl) rfl rfl rfl (by kernel_rfl) (fun h => by cases h) (by kernel_rfl)
noncomputable def tabOD : List (Nat × TE) := [(5, ⟨.int .u8, 1, 1, [.i .u8 (0 : Int)], false⟩), (24, ⟨.array 32 5, 32, 32, [.ints .u8 (32 : Nat) ([0, 0, 0, 0, 0, 0, 0, 0, 0, 0, 0, 0, 0, 0, 0, 0, 0, 0, 0, 0, 0, 0, 0, 0, 0, 0, 0, 0, 0, 0, 0, 0] : List Int)], true⟩), (25, ⟨.int .u64, 1, 8, [.i .u64 (0 : Int)], false⟩), (109, ⟨.int .u32, 1, 4, [.i .u32 (0 : Int)], false⟩), (111, ⟨.array 8 109, 8, 32, [.ints .u32 (8 : Nat) ([0, 0, 0, 0, 0, 0, 0, 0] : List Int)], true⟩), (113, ⟨.slice 109, 1, 24, [.raw (.slice none 0 0)], false⟩)]
theorem tabOkOD : TabOk Try.prog (tabOf tabOD) := (tabOf_cons teOD_5 (tabOf_cons teOD_24 (tabOf_cons teOD_25 (tabOf_cons teOD_109 (tabOf_cons teOD_111 (tabOf_cons teOD_113 tabOf_nil))))))

theorem valR_pure (a : List Int) (h0 : (Byt a)) : PureC Try.prog 81 [.g [.ints .u8 (32 : Nat) a]] [.g [.ints .u32 (8 : Nat) (W8 (modL (BV a)))]] :=
  PureC.of_body tabOkOB Try.func81 rfl rfl fun w => valR_can a h0 w

def gam29 : Gam := gpure 81 (fun args => match args with | [.o (.g [.ints .u8 (32 : Nat) a])] => some (some ((Byt a)), [.g [.ints .u32 (8 : Nat) (W8 (modL (BV a)))]]) | _ => none) gam28
theorem gam29_ok : GamOk Try.prog gam29 := gpure_ok gam28_ok Try.call81 (by
  intro args vc xs h hv
  split at h
  · simp only [Option.some.injEq, Prod.mk.injEq] at h; obtain ⟨rfl, rfl⟩ := h; exact ⟨_, by rfl, valR_pure _ hv⟩
  · simp at h)

def iszR (a : List Int) : Bool :=
  (decide ((W8 (modL (BV a))) = ([0, 0, 0, 0, 0, 0, 0, 0] : List Int)))

set_option maxHeartbeats 1000000 in
theorem iszR_body0 (a : List Int) (h0 : (Byt a)) (hv0 : List.length a = (32 : Nat)) (w : World) : Body Try.prog (tabOf tabOD) Try.f37 ⟨w, [], 0, noEnv⟩ (toA [.g [.ints .u8 (32 : Nat) a]]) [] (fun ys _ => ys = [.a (.b (iszR a))]) :=
  Body.of_fin (Γ := gam29) (Λ := noLam) (Ψ := noPsi) (fuel := 0) (m := 7) (c := (Try.f37.body.getD .skip)) mix tabOkOD gam29_ok rfl (rs := [.tmp 2]) rfl rfl [] []
    (vc := [(Byt a)]) (by kernel_rfl)
    (AllP_cons (by first | assumption | exact byt_B32 _) (AllP_nil))

theorem iszR_body (a : List Int) (h0 : (Byt a)) (w : World) : Body Try.prog (tabOf tabOD) Try.f37 ⟨w, [], 0, noEnv⟩ (toA [.g [.ints .u8 (32 : Nat) a]]) [] (fun ys _ => ys = [.a (.b (iszR a))]) :=
  Body.lens (c := (Try.f37.body.getD .skip)) rfl fun h => iszR_body0 a h0 (h.vals 0 _ _ _ rfl) w

end Go.Proofs.Ytcpoldghkiiggaa.X

/- What the functions compute, as numbers, on both sides. -/
namespace Go.Proofs.Ytcpoldghkiiggaa.X
open Go Go.Proofs
set_option linter.unusedVariables false

theorem modL_add (x y : Int) : modL (modL x + modL y) = modL (x + y) := (Int.add_emod x y LL).symm
theorem modL_mul (x y : Int) : modL (modL x * modL y) = modL (x * y) := (Int.mul_emod x y LL).symm
theorem low_add {x y : Int} (hx : 0 ≤ x ∧ x < LL) (hy : 0 ≤ y ∧ y < LL) : low (addR x y) = modL (x + y) := by
  have e : addR x y = x + y := by unfold addR; unfold LL at *; omega
  rw [e]; exact low_mod (by omega) (by omega)
theorem modL_b (v : Int) : 0 ≤ modL v ∧ modL v < LL := ⟨(modL_rng v).1, (modL_rng v).2.1⟩

theorem addP_eq (a b : List Int) : addP a b = B32 (modL (BV a + BV b)) := by
  unfold addP
  rw [V4_modL, V4_modL, low_add (modL_b _) (modL_b _), V4_modL, modL_add]

theorem negL_eq (v : Int) : negL (modL v) = modL (-v) := by
  unfold negL difR modL
  unfold LL
  split <;> omega
theorem negP_eq (a : List Int) : negP a = B32 (modL (-(BV a))) := by
  unfold negP
  rw [V4_modL, negL_eq, V4_modL]
theorem timesW (x y : Int) : times (W4 (modL x)) (W4 (modL y)) = W4 (modL (x * y)) := by
  unfold times
  rw [V4_modL, V4_modL, V4_mont, V4_radx, times_eq, modL_mul]
theorem mulP_eq (a b : List Int) : mulP a b = B32 (modL (BV a * BV b)) := by
  unfold mulP
  rw [timesW, V4_modL]
theorem W4_zero {v : Int} (h0 : 0 ≤ v) (h1 : v < 115792089237316195423570985008687907853269984665640564039457584007913129639936) : W4 v = [0, 0, 0, 0] ↔ v = 0 := by
  constructor
  · intro h
    have := V4_W4 h0 h1
    rw [h] at this
    exact this.symm
  · intro h; subst h; decide +kernel
theorem W8_zero {v : Int} (h0 : 0 ≤ v) (h1 : v < 115792089237316195423570985008687907853269984665640564039457584007913129639936) : W8 v = [0, 0, 0, 0, 0, 0, 0, 0] ↔ v = 0 := by
  constructor
  · intro h
    have := V8_W8 h0 h1
    rw [h] at this
    exact this.symm
  · intro h; subst h; exact W8_0
theorem isz_eq (a : List Int) : iszP a = iszR a := by
  unfold iszP iszR
  rw [decide_eq_decide, W4_zero (modL_rng _).1 (modL_rng _).2.2, W8_zero (modL_rng _).1 (modL_rng _).2.2]

end Go.Proofs.Ytcpoldghkiiggaa.X

/- Neg, Add of the reference and Compare of the program: bodies by numbers. -/
namespace Go.Proofs.Ytcpoldghkiiggaa.X
open Go Go.Proofs
set_option linter.unusedVariables false

theorem B32_0 : B32 0 = [0, 0, 0, 0, 0, 0, 0, 0, 0, 0, 0, 0, 0, 0, 0, 0, 0, 0, 0, 0, 0, 0, 0, 0, 0, 0, 0, 0, 0, 0, 0, 0] := by decide +kernel

def negI (x : Int) : Int := -x
end Go.Proofs.Ytcpoldghkiiggaa.X

/- Printed by a tool of this session. -/
namespace Go.Proofs.Ytcpoldghkiiggaa.X
open Go Go.Proofs
set_option linter.unusedVariables false
set_option linter.unusedSimpArgs false
set_option maxRecDepth 100000
end Go.Proofs.Ytcpoldghkiiggaa.X

/- Bytes back to numbers; Sub and Compare of the reference. -/
namespace Go.Proofs.Ytcpoldghkiiggaa.X
open Go Go.Proofs
set_option linter.unusedVariables false

theorem dd2 (a : Int) {b c : Int} (h : 0 ≤ b) : a / b / c = a / (b * c) := by first | exact Int.ediv_ediv_of_nonneg h | exact Int.ediv_ediv_eq_ediv_mul a h | exact Int.ediv_ediv h
theorem bytes8 (u : Int) : u % 256 + 256 * (u / 256 % 256) + 65536 * (u / 65536 % 256) + 16777216 * (u / 16777216 % 256) + 4294967296 * (u / 4294967296 % 256) + 1099511627776 * (u / 1099511627776 % 256) + 281474976710656 * (u / 281474976710656 % 256) + 72057594037927936 * (u / 72057594037927936 % 256) = u % 18446744073709551616 := by
  have q2 : u / 65536 = u / 256 / 256 := (dd2 u (b := 256) (c := 256) (by omega)).symm
  have q3 : u / 16777216 = u / 65536 / 256 := (dd2 u (b := 65536) (c := 256) (by omega)).symm
  have q4 : u / 4294967296 = u / 16777216 / 256 := (dd2 u (b := 16777216) (c := 256) (by omega)).symm
  have q5 : u / 1099511627776 = u / 4294967296 / 256 := (dd2 u (b := 4294967296) (c := 256) (by omega)).symm
  have q6 : u / 281474976710656 = u / 1099511627776 / 256 := (dd2 u (b := 1099511627776) (c := 256) (by omega)).symm
  have q7 : u / 72057594037927936 = u / 281474976710656 / 256 := (dd2 u (b := 281474976710656) (c := 256) (by omega)).symm
  have q8 : u / 18446744073709551616 = u / 72057594037927936 / 256 := (dd2 u (b := 72057594037927936) (c := 256) (by omega)).symm
  have e : u % 18446744073709551616 = u - 18446744073709551616 * (u / 18446744073709551616) := by omega
  rw [e]
  have q1 : u = u % 256 + 256 * (u / 256) := by omega
  generalize u / 256 = z1 at *
  generalize u / 65536 = z2 at *
  generalize u / 16777216 = z3 at *
  generalize u / 4294967296 = z4 at *
  generalize u / 1099511627776 = z5 at *
  generalize u / 281474976710656 = z6 at *
  generalize u / 72057594037927936 = z7 at *
  generalize u / 18446744073709551616 = z8 at *
  omega

theorem le8_B32 (v : Int) : le8 (B32 v) 0 = v % 18446744073709551616 ∧ le8 (B32 v) 8 = v / 18446744073709551616 % 18446744073709551616 ∧ le8 (B32 v) 16 = v / 340282366920938463463374607431768211456 % 18446744073709551616 ∧ le8 (B32 v) 24 = v / 6277101735386680763835789423207666416102355444464034512896 % 18446744073709551616 := by
  refine ⟨bytes8 v, ?_, ?_, ?_⟩
  · rw [← bytes8]
    show (v / 18446744073709551616 % 256) + 256 * (v / 4722366482869645213696 % 256) + 65536 * (v / 1208925819614629174706176 % 256) + 16777216 * (v / 309485009821345068724781056 % 256) + 4294967296 * (v / 79228162514264337593543950336 % 256) + 1099511627776 * (v / 20282409603651670423947251286016 % 256) + 281474976710656 * (v / 5192296858534827628530496329220096 % 256) + 72057594037927936 * (v / 1329227995784915872903807060280344576 % 256) = _
    have d : ∀ c : Int, v / 18446744073709551616 / c = v / (18446744073709551616 * c) := fun c => dd2 v (by omega)
    simp only [d]
    rfl
  · rw [← bytes8]
    show (v / 340282366920938463463374607431768211456 % 256) + 256 * (v / 87112285931760246646623899502532662132736 % 256) + 65536 * (v / 22300745198530623141535718272648361505980416 % 256) + 16777216 * (v / 5708990770823839524233143877797980545530986496 % 256) + 4294967296 * (v / 1461501637330902918203684832716283019655932542976 % 256) + 1099511627776 * (v / 374144419156711147060143317175368453031918731001856 % 256) + 281474976710656 * (v / 95780971304118053647396689196894323976171195136475136 % 256) + 72057594037927936 * (v / 24519928653854221733733552434404946937899825954937634816 % 256) = _
    have d : ∀ c : Int, v / 340282366920938463463374607431768211456 / c = v / (340282366920938463463374607431768211456 * c) := fun c => dd2 v (by omega)
    simp only [d]
    rfl
  · rw [← bytes8]
    show (v / 6277101735386680763835789423207666416102355444464034512896 % 256) + 256 * (v / 1606938044258990275541962092341162602522202993782792835301376 % 256) + 65536 * (v / 411376139330301510538742295639337626245683966408394965837152256 % 256) + 16777216 * (v / 105312291668557186697918027683670432318895095400549111254310977536 % 256) + 4294967296 * (v / 26959946667150639794667015087019630673637144422540572481103610249216 % 256) + 1099511627776 * (v / 6901746346790563787434755862277025452451108972170386555162524223799296 % 256) + 281474976710656 * (v / 1766847064778384329583297500742918515827483896875618958121606201292619776 % 256) + 72057594037927936 * (v / 452312848583266388373324160190187140051835877600158453279131187530910662656 % 256) = _
    have d : ∀ c : Int, v / 6277101735386680763835789423207666416102355444464034512896 / c = v / (6277101735386680763835789423207666416102355444464034512896 * c) := fun c => dd2 v (by omega)
    simp only [d]
    rfl
theorem BV_B32 {v : Int} (h0 : 0 ≤ v) (h1 : v < 115792089237316195423570985008687907853269984665640564039457584007913129639936) : BV (B32 v) = v := by
  obtain ⟨e0, e1, e2, e3⟩ := le8_B32 v
  unfold BV
  rw [e0, e1, e2, e3]
  omega
end Go.Proofs.Ytcpoldghkiiggaa.X

/- The reference's product, digit by digit. -/
namespace Go.Proofs.Ytcpoldghkiiggaa.X
open Go Go.Proofs
set_option linter.unusedVariables false

def mV (S T l : List Int) (k j : Nat) (c : Int) : Int := IntKind.u64.wrap (IntKind.u64.wrap (c + IntKind.u64.wrap (List.getD l (k + j) 0)) + IntKind.u64.wrap (IntKind.u64.wrap (List.getD S k 0) * IntKind.u64.wrap (List.getD T j 0)))
def mI (S T : List Int) (k : Nat) (l : List Int) : Nat → List Int × Int
  | 0 => (l, 0)
  | j + 1 => ((mI S T k l j).1.set (k + j) (IntKind.u32.wrap (mV S T (mI S T k l j).1 k j (mI S T k l j).2)), shr .u64 (mV S T (mI S T k l j).1 k j (mI S T k l j).2) 32)
def mO (S T : List Int) : Nat → List Int
  | 0 => List.replicate 16 0
  | k + 1 => (mI S T k (mO S T k) 8).1.set (k + 8) (IntKind.u32.wrap (mI S T k (mO S T k) 8).2)
def mIl (S T : List Int) (k : Nat) (l : List Int) (j : Nat) : List Int := (mI S T k l j).1
def mIc (S T : List Int) (k : Nat) (l : List Int) (j : Nat) : Int := (mI S T k l j).2

theorem ixi {k j : Nat} (hk : k < 8) (hj : j < 8) : Int.toNat (IntKind.i64.wrap (((k : Nat) : Int) + ((j : Nat) : Int))) = k + j := by
  rw [wrapI (by omega) (by omega)]; omega
theorem ixo {k : Nat} (hk : k < 8) : Int.toNat (IntKind.i64.wrap (((k : Nat) : Int) + (8 : Int))) = k + 8 := by
  rw [wrapI (by omega) (by omega)]; omega
theorem mIl_len (S T : List Int) (k : Nat) (l : List Int) : ∀ j, (mIl S T k l j).length = l.length
  | 0 => rfl
  | j + 1 => by
    show ((mI S T k l j).1.set _ _).length = _
    rw [List.length_set]; exact mIl_len S T k l j
theorem mO_len (S T : List Int) : ∀ k, (mO S T k).length = 16
  | 0 => rfl
  | k + 1 => by
    show ((mI S T k (mO S T k) 8).1.set _ _).length = _
    rw [List.length_set, show (mI S T k (mO S T k) 8).1 = mIl S T k (mO S T k) 8 from rfl, mIl_len, mO_len S T k]
end Go.Proofs.Ytcpoldghkiiggaa.X

/- Printed by a tool of this session. -/
namespace Go.Proofs.Ytcpoldghkiiggaa.X
open Go Go.Proofs
set_option linter.unusedVariables false
set_option linter.unusedSimpArgs false
set_option maxRecDepth 100000
theorem teOJ_25 : TEOk Try.prog 25 ⟨.int .u64, 1, 8, [.i .u64 (0 : Int)], false⟩ :=
  TEOk.of Try.underlying25 (i := Try.t25) (by kernel_rfl) rfl rfl rfl (by kernel_rfl) (fun h => by cases h) (by kernel_rfl)
theorem teOJ_109 : TEOk Try.prog 109 ⟨.int .u32, 1, 4, [.i .u32 (0 : Int)], false⟩ :=
  TEOk.of Try.underlying109 (i := Try.t109) (by kernel_rfl) rfl rfl rfl (by kernel_rfl) (fun h => by cases h) (by kernel_rfl)
theorem teOJ_111 : TEOk Try.prog 111 ⟨.array 8 109, 8, 32, [.ints .u32 (8 : Nat) ([0, 0, 0, 0, 0, 0, 0, 0] : List Int)], true⟩ :=
  TEOk.of Try.underlying111 (i := Try.t111) (by kernel_rfl) rfl rfl rfl (by kernel_rfl) (fun _ => Try.eqGuardType111) (by kernel_rfl)
theorem teOJ_113 : TEOk Try.prog 113 ⟨.slice 109, 1, 24, [.raw (.slice none 0 0)], false⟩ :=
  TEOk.of Try.underlying113 (i := Try.t113) (by kernel_rfl) rfl rfl rfl (by kernel_rfl) (fun h => by cases h) (by kernel_rfl)
noncomputable def tabOJ : List (Nat × TE) := [(25, ⟨.int .u64, 1, 8, [.i .u64 (0 : Int)], false⟩), (109, ⟨.int .u32, 1, 4, [.i .u32 (0 : Int)], false⟩), (111, ⟨.array 8 109, 8, 32, [.ints .u32 (8 : Nat) ([0, 0, 0, 0, 0, 0, 0, 0] : List Int)], true⟩), (113, ⟨.slice 109, 1, 24, [.raw (.slice none 0 0)], false⟩)]
theorem tabOkOJ : TabOk Try.prog (tabOf tabOJ) := (tabOf_cons teOJ_25 (tabOf_cons teOJ_109 (tabOf_cons teOJ_111 (tabOf_cons teOJ_113 tabOf_nil))))

def muO_mk (S : List Int) (T : List Int) (ko : Nat) (sko : Unit) : St := ⟨sparse 54 [(0, .o (.g [.ints .u32 (8 : Nat) S])), (1, .o (.g [.ints .u32 (8 : Nat) T])), (2, .o (.a (.p 0 0))), (3, .o (.a (.p 1 0))), (4, .o (.a (.p 2 0))), (5, .o (.a (.sl 3 (0 : Nat) (16 : Nat) (16 : Nat)))), (6, .o (.a (.i .i64 ((ko : Nat) : Int)))), (9, .o (.a (.sl 3 (0 : Nat) (16 : Nat) (16 : Nat))))], [some ⟨true, [.ints .u32 (8 : Nat) S]⟩, some ⟨true, [.ints .u32 (8 : Nat) T]⟩, some ⟨true, [.ints .u32 (8 : Nat) ([0, 0, 0, 0, 0, 0, 0, 0] : List Int)]⟩, some ⟨true, [.ints .u32 (16 : Nat) (mO S T ko)]⟩]⟩

def muI_mk (S : List Int) (T : List Int) (ko : Nat) (sko : Unit) (k : Nat) (s : Unit) : St := ⟨sparse 54 [(0, .o (.g [.ints .u32 (8 : Nat) S])), (1, .o (.g [.ints .u32 (8 : Nat) T])), (2, .o (.a (.p 0 0))), (3, .o (.a (.p 1 0))), (4, .o (.a (.p 2 0))), (5, .o (.a (.sl 3 (0 : Nat) (16 : Nat) (16 : Nat)))), (6, .o (.a (.i .i64 ((ko : Nat) : Int)))), (7, .o (.a (.i .u64 (mIc S T ko (mO S T ko) k)))), (8, .o (.a (.i .i64 ((k : Nat) : Int)))), (9, .o (.a (.sl 3 (0 : Nat) (16 : Nat) (16 : Nat)))), (10, .o (.a (.i .i64 ((ko : Nat) : Int)))), (11, .o (.a (.b (decide (((ko : Nat) : Int) < (8 : Int))))))], [some ⟨true, [.ints .u32 (8 : Nat) S]⟩, some ⟨true, [.ints .u32 (8 : Nat) T]⟩, some ⟨true, [.ints .u32 (8 : Nat) ([0, 0, 0, 0, 0, 0, 0, 0] : List Int)]⟩, some ⟨true, [.ints .u32 (16 : Nat) (mIl S T ko (mO S T ko) k)]⟩]⟩

def muI_step (k : Nat) (s : Unit) : Unit :=
  ()

set_option maxHeartbeats 1000000 in
theorem muI_round (S : List Int) (T : List Int) (ko : Nat) (sko : Unit) (hv0 : List.length S = (8 : Nat)) (hv1 : List.length T = (8 : Nat)) (hw : Wd8 (sub (mO S T 8) 0 16)) (hko : ko < (8 : Nat)) (w : World) (k : Nat) (hk : k < (8 : Nat)) (s : Unit) : Run Try.prog ⟨w, [], 0, noEnv⟩ (loopB Try.f98 2) (muI_mk S T ko sko k s) (To ⟨w, [], 0, noEnv⟩ .normal (muI_mk S T ko sko (k + 1) (muI_step k s))) := by
  have e0 : (List.set (mIl S T ko (mO S T ko) k) (Int.toNat (IntKind.i64.wrap (((ko : Nat) : Int) + ((k : Nat) : Int)))) (IntKind.u32.wrap (IntKind.u64.wrap ((IntKind.u64.wrap ((mIc S T ko (mO S T ko) k) + (IntKind.u64.wrap (List.getD (mIl S T ko (mO S T ko) k) (Int.toNat (IntKind.i64.wrap (((ko : Nat) : Int) + ((k : Nat) : Int)))) 0)))) + (IntKind.u64.wrap ((IntKind.u64.wrap (List.getD S ko 0)) * (IntKind.u64.wrap (List.getD T k 0)))))))) = (mIl S T ko (mO S T ko) (k + (1 : Nat))) := (by first | exact wrap_succ (by omega) | (rw [ixi hko hk]; rfl))
  have e1 : (shr .u64 (IntKind.u64.wrap ((IntKind.u64.wrap ((mIc S T ko (mO S T ko) k) + (IntKind.u64.wrap (List.getD (mIl S T ko (mO S T ko) k) (Int.toNat (IntKind.i64.wrap (((ko : Nat) : Int) + ((k : Nat) : Int)))) 0)))) + (IntKind.u64.wrap ((IntKind.u64.wrap (List.getD S ko 0)) * (IntKind.u64.wrap (List.getD T k 0)))))) (32 : Int)) = (mIc S T ko (mO S T ko) (k + (1 : Nat))) := (by first | exact wrap_succ (by omega) | (rw [ixi hko hk]; rfl))
  have e2 : (IntKind.i64.wrap (((k : Nat) : Int) + (1 : Int))) = (((k + (1 : Nat)) : Nat) : Int) := (by first | exact wrap_succ (by omega) | (rw [ixi hko hk]; rfl))
  have h := Run.of_outT (B := ⟨w, [], 0, noEnv⟩) (Λ := noLam) (Ψ := noPsi) (fuel := 0) (ora := [true]) (c := (loopB Try.f98 2)) (st := (muI_mk S T ko sko k s)) (l := [.forget [0, 1, 2, 3, 4, 5, 6, 7, 8, 9, 10, 11] 4]) (s' := ⟨sparse 54 [(0, .o (.g [.ints .u32 (8 : Nat) S])), (1, .o (.g [.ints .u32 (8 : Nat) T])), (2, .o (.a (.p 0 0))), (3, .o (.a (.p 1 0))), (4, .o (.a (.p 2 0))), (5, .o (.a (.sl 3 (0 : Nat) (16 : Nat) (16 : Nat)))), (6, .o (.a (.i .i64 ((ko : Nat) : Int)))), (7, .o (.a (.i .u64 (shr .u64 (IntKind.u64.wrap ((IntKind.u64.wrap ((mIc S T ko (mO S T ko) k) + (IntKind.u64.wrap (List.getD (mIl S T ko (mO S T ko) k) (Int.toNat (IntKind.i64.wrap (((ko : Nat) : Int) + ((k : Nat) : Int)))) 0)))) + (IntKind.u64.wrap ((IntKind.u64.wrap (List.getD S ko 0)) * (IntKind.u64.wrap (List.getD T k 0)))))) (32 : Int))))), (8, .o (.a (.i .i64 (IntKind.i64.wrap (((k : Nat) : Int) + (1 : Int)))))), (9, .o (.a (.sl 3 (0 : Nat) (16 : Nat) (16 : Nat)))), (10, .o (.a (.i .i64 ((ko : Nat) : Int)))), (11, .o (.a (.b (decide (((ko : Nat) : Int) < (8 : Int))))))], [some ⟨true, [.ints .u32 (8 : Nat) S]⟩, some ⟨true, [.ints .u32 (8 : Nat) T]⟩, some ⟨true, [.ints .u32 (8 : Nat) ([0, 0, 0, 0, 0, 0, 0, 0] : List Int)]⟩, some ⟨true, [.ints .u32 (16 : Nat) (List.set (mIl S T ko (mO S T ko) k) (Int.toNat (IntKind.i64.wrap (((ko : Nat) : Int) + ((k : Nat) : Int)))) (IntKind.u32.wrap (IntKind.u64.wrap ((IntKind.u64.wrap ((mIc S T ko (mO S T ko) k) + (IntKind.u64.wrap (List.getD (mIl S T ko (mO S T ko) k) (Int.toNat (IntKind.i64.wrap (((ko : Nat) : Int) + ((k : Nat) : Int)))) 0)))) + (IntKind.u64.wrap ((IntKind.u64.wrap (List.getD S ko 0)) * (IntKind.u64.wrap (List.getD T k 0))))))))]⟩]⟩) (ex := .normal) mix tabOkOJ gam29_ok
    (vc := [((0 : Int) ≤ (32 : Int)), ((Int.toNat (IntKind.i64.wrap (((ko : Nat) : Int) + ((k : Nat) : Int)))) < (16 : Nat)), (((0 : Int) ≤ (IntKind.i64.wrap (((ko : Nat) : Int) + ((k : Nat) : Int)))) ∧ ((IntKind.i64.wrap (((ko : Nat) : Int) + ((k : Nat) : Int))) < (16 : Int))), (k < (8 : Nat)), (((0 : Int) ≤ ((k : Nat) : Int)) ∧ (((k : Nat) : Int) < (8 : Int))), (ko < (8 : Nat)), (((0 : Int) ≤ ((ko : Nat) : Int)) ∧ (((ko : Nat) : Int) < (8 : Int))), ((Int.toNat (IntKind.i64.wrap (((ko : Nat) : Int) + ((k : Nat) : Int)))) < (16 : Nat)), (((0 : Int) ≤ (IntKind.i64.wrap (((ko : Nat) : Int) + ((k : Nat) : Int)))) ∧ ((IntKind.i64.wrap (((ko : Nat) : Int) + ((k : Nat) : Int))) < (16 : Int))), ((decide (((k : Nat) : Int) < (8 : Int))) = true)]) (by kernel_rfl)
    (AllP_cons (by decide) (AllP_cons (by have q := ixi hko hk; first | omega | (rw [q]; omega) | (simp (disch := omega) only [wrapI]; omega) | exact wrap_nn rfl) (AllP_cons ⟨(by have q := ixi hko hk; first | omega | (rw [q]; omega) | (simp (disch := omega) only [wrapI]; omega) | exact wrap_nn rfl), (by have q := ixi hko hk; first | omega | (rw [q]; omega) | (simp (disch := omega) only [wrapI]; omega) | exact wrap_nn rfl)⟩ (AllP_cons (by have q := ixi hko hk; first | omega | (rw [q]; omega) | (simp (disch := omega) only [wrapI]; omega) | exact wrap_nn rfl) (AllP_cons ⟨(by have q := ixi hko hk; first | omega | (rw [q]; omega) | (simp (disch := omega) only [wrapI]; omega) | exact wrap_nn rfl), (by have q := ixi hko hk; first | omega | (rw [q]; omega) | (simp (disch := omega) only [wrapI]; omega) | exact wrap_nn rfl)⟩ (AllP_cons (by have q := ixi hko hk; first | omega | (rw [q]; omega) | (simp (disch := omega) only [wrapI]; omega) | exact wrap_nn rfl) (AllP_cons ⟨(by have q := ixi hko hk; first | omega | (rw [q]; omega) | (simp (disch := omega) only [wrapI]; omega) | exact wrap_nn rfl), (by have q := ixi hko hk; first | omega | (rw [q]; omega) | (simp (disch := omega) only [wrapI]; omega) | exact wrap_nn rfl)⟩ (AllP_cons (by have q := ixi hko hk; first | omega | (rw [q]; omega) | (simp (disch := omega) only [wrapI]; omega) | exact wrap_nn rfl) (AllP_cons ⟨(by have q := ixi hko hk; first | omega | (rw [q]; omega) | (simp (disch := omega) only [wrapI]; omega) | exact wrap_nn rfl), (by have q := ixi hko hk; first | omega | (rw [q]; omega) | (simp (disch := omega) only [wrapI]; omega) | exact wrap_nn rfl)⟩ (AllP_cons (decide_eq_true (by have q := ixi hko hk; first | omega | (rw [q]; omega) | (simp (disch := omega) only [wrapI]; omega) | exact wrap_nn rfl)) (AllP_nil)))))))))))
  rw [e0, e1, e2] at h
  exact h

set_option maxHeartbeats 1000000 in
theorem muI_last (S : List Int) (T : List Int) (ko : Nat) (sko : Unit) (hv0 : List.length S = (8 : Nat)) (hv1 : List.length T = (8 : Nat)) (hw : Wd8 (sub (mO S T 8) 0 16)) (hko : ko < (8 : Nat)) (w : World) (s : Unit) : Run Try.prog ⟨w, [], 0, noEnv⟩ (loopB Try.f98 2) (muI_mk S T ko sko (8 : Nat) s) (To ⟨w, [], 0, noEnv⟩ (.exit 2) (muI_mk S T ko sko (8 : Nat) s)) :=
  Run.of_outT (B := ⟨w, [], 0, noEnv⟩) (Λ := noLam) (Ψ := noPsi) (fuel := 0) (ora := [false]) (l := [.forget [0, 1, 2, 3, 4, 5, 6, 7, 8, 9, 10, 11] 4]) mix tabOkOJ gam29_ok
    (vc := [(false = false)]) (by kernel_rfl)
    (AllP_cons rfl (AllP_nil))

theorem muI_loop (S : List Int) (T : List Int) (ko : Nat) (sko : Unit) (hv0 : List.length S = (8 : Nat)) (hv1 : List.length T = (8 : Nat)) (hw : Wd8 (sub (mO S T 8) 0 16)) (hko : ko < (8 : Nat)) (w : World) (s : Unit) : Run Try.prog ⟨w, [], 0, noEnv⟩ (.block 2 (.loop (loopB Try.f98 2))) (muI_mk S T ko sko 0 s) (To ⟨w, [], 0, noEnv⟩ .normal (muI_mk S T ko sko (8 : Nat) (iter (muI_step) (8 : Nat) s))) :=
  Run.count (fun k => muI_mk S T ko sko k (iter (muI_step) k s)) (8 : Nat) (fun k hk => muI_round S T ko sko hv0 hv1 hw hko w k hk _) (ex := (.exit 2)) (by simp) (muI_last S T ko sko hv0 hv1 hw hko w _)

def muO_step (ko : Nat) (sko : Unit) : Unit :=
  ()

set_option maxHeartbeats 1000000 in
theorem muO_round (S : List Int) (T : List Int) (hv0 : List.length S = (8 : Nat)) (hv1 : List.length T = (8 : Nat)) (hw : Wd8 (sub (mO S T 8) 0 16)) (w : World) (ko : Nat) (hko : ko < (8 : Nat)) (sko : Unit) : Run Try.prog ⟨w, [], 0, noEnv⟩ (loopB Try.f98 0) (muO_mk S T ko sko) (To ⟨w, [], 0, noEnv⟩ .normal (muO_mk S T (ko + 1) (muO_step ko sko))) := by
  have e0 : (List.set (mIl S T ko (mO S T ko) (8 : Nat)) (Int.toNat (IntKind.i64.wrap (((ko : Nat) : Int) + (8 : Int)))) (IntKind.u32.wrap (mIc S T ko (mO S T ko) (8 : Nat)))) = (mO S T (ko + (1 : Nat))) := (by first | exact wrap_succ (by omega) | (rw [ixo hko]; rfl))
  have e1 : (IntKind.i64.wrap (((ko : Nat) : Int) + (1 : Int))) = (((ko + (1 : Nat)) : Nat) : Int) := (by first | exact wrap_succ (by omega) | (rw [ixo hko]; rfl))
  have h := Run.of_outT (B := ⟨w, [], 0, noEnv⟩) (Λ := lamOf [(2, ⟨[.forget [0, 1, 2, 3, 4, 5, 6, 7, 8, 9, 10, 11] 4], .normal, (muI_mk S T ko sko (8 : Nat) (iter (muI_step) (8 : Nat) ()))⟩)]) (Ψ := noPsi) (fuel := 0) (ora := [true]) (c := (loopB Try.f98 0)) (st := (muO_mk S T ko sko)) (l := [.forget [0, 1, 2, 3, 4, 5, 6, 9] 4]) (s' := ⟨sparse 54 [(0, .o (.g [.ints .u32 (8 : Nat) S])), (1, .o (.g [.ints .u32 (8 : Nat) T])), (2, .o (.a (.p 0 0))), (3, .o (.a (.p 1 0))), (4, .o (.a (.p 2 0))), (5, .o (.a (.sl 3 (0 : Nat) (16 : Nat) (16 : Nat)))), (6, .o (.a (.i .i64 (IntKind.i64.wrap (((ko : Nat) : Int) + (1 : Int)))))), (9, .o (.a (.sl 3 (0 : Nat) (16 : Nat) (16 : Nat))))], [some ⟨true, [.ints .u32 (8 : Nat) S]⟩, some ⟨true, [.ints .u32 (8 : Nat) T]⟩, some ⟨true, [.ints .u32 (8 : Nat) ([0, 0, 0, 0, 0, 0, 0, 0] : List Int)]⟩, some ⟨true, [.ints .u32 (16 : Nat) (List.set (mIl S T ko (mO S T ko) (8 : Nat)) (Int.toNat (IntKind.i64.wrap (((ko : Nat) : Int) + (8 : Int)))) (IntKind.u32.wrap (mIc S T ko (mO S T ko) (8 : Nat))))]⟩]⟩) (ex := .normal) mix tabOkOJ gam29_ok
    (vc := [((Int.toNat (IntKind.i64.wrap (((ko : Nat) : Int) + (8 : Int)))) < (16 : Nat)), (((0 : Int) ≤ (IntKind.i64.wrap (((ko : Nat) : Int) + (8 : Int)))) ∧ ((IntKind.i64.wrap (((ko : Nat) : Int) + (8 : Int))) < (16 : Int))), (Run Try.prog ⟨w, [], 0, noEnv⟩ (.block 2 (.loop (loopB Try.f98 2))) (muI_mk S T ko sko 0 ()) (To ⟨w, [], 0, noEnv⟩ .normal (muI_mk S T ko sko (8 : Nat) (iter (muI_step) (8 : Nat) ())))), ((decide (((ko : Nat) : Int) < (8 : Int))) = true)]) (by kernel_rfl)
    (AllP_cons (by have q := ixo hko; first | omega | (rw [q]; omega) | (simp (disch := omega) only [wrapI]; omega)) (AllP_cons ⟨(by have q := ixo hko; first | omega | (rw [q]; omega) | (simp (disch := omega) only [wrapI]; omega)), (by have q := ixo hko; first | omega | (rw [q]; omega) | (simp (disch := omega) only [wrapI]; omega))⟩ (AllP_cons (muI_loop S T ko sko hv0 hv1 hw hko w ()) (AllP_cons (decide_eq_true (by have q := ixo hko; first | omega | (rw [q]; omega) | (simp (disch := omega) only [wrapI]; omega))) (AllP_nil)))))
  rw [e0, e1] at h
  exact h

set_option maxHeartbeats 1000000 in
theorem muO_last (S : List Int) (T : List Int) (hv0 : List.length S = (8 : Nat)) (hv1 : List.length T = (8 : Nat)) (hw : Wd8 (sub (mO S T 8) 0 16)) (w : World) (sko : Unit) : Run Try.prog ⟨w, [], 0, noEnv⟩ (loopB Try.f98 0) (muO_mk S T (8 : Nat) sko) (To ⟨w, [], 0, noEnv⟩ (.exit 0) (muO_mk S T (8 : Nat) sko)) :=
  Run.of_outT (B := ⟨w, [], 0, noEnv⟩) (Λ := noLam) (Ψ := noPsi) (fuel := 0) (ora := [false]) (l := [.forget [0, 1, 2, 3, 4, 5, 6, 9] 4]) mix tabOkOJ gam29_ok
    (vc := [(false = false)]) (by kernel_rfl)
    (AllP_cons rfl (AllP_nil))

theorem muO_loop (S : List Int) (T : List Int) (hv0 : List.length S = (8 : Nat)) (hv1 : List.length T = (8 : Nat)) (hw : Wd8 (sub (mO S T 8) 0 16)) (w : World) (sko : Unit) : Run Try.prog ⟨w, [], 0, noEnv⟩ (.block 0 (.loop (loopB Try.f98 0))) (muO_mk S T 0 sko) (To ⟨w, [], 0, noEnv⟩ .normal (muO_mk S T (8 : Nat) (iter (muO_step) (8 : Nat) sko))) :=
  Run.count (fun ko => muO_mk S T ko (iter (muO_step) ko sko)) (8 : Nat) (fun ko hko => muO_round S T hv0 hv1 hw w ko hko _) (ex := (.exit 0)) (by simp) (muO_last S T hv0 hv1 hw w _)

def mulR_ (S : List Int) (T : List Int) : List Int :=
  (W8 (modL (topV (sub (mO S T (8 : Nat)) (0 : Nat) (16 : Nat)) (16 : Nat) (16 : Nat))))

set_option maxHeartbeats 1000000 in
theorem mulR__body0 (S : List Int) (T : List Int) (hv0 : List.length S = (8 : Nat)) (hv1 : List.length T = (8 : Nat)) (hw : Wd8 (sub (mO S T 8) 0 16)) (w : World) : Body Try.prog (tabOf tabOJ) Try.f98 ⟨w, [], 0, noEnv⟩ (toA [.g [.ints .u32 (8 : Nat) S], .g [.ints .u32 (8 : Nat) T]]) [] (fun ys _ => ys = [.g [.ints .u32 (8 : Nat) (mulR_ S T)]]) :=
  Body.of_fin (Γ := gam29) (Λ := lamOf [(0, ⟨[.forget [0, 1, 2, 3, 4, 5, 6, 9] 4], .normal, (muO_mk S T (8 : Nat) (iter (muO_step) (8 : Nat) ()))⟩)]) (Ψ := noPsi) (fuel := 0) (m := 54) (c := (Try.f98.body.getD .skip)) mix tabOkOJ gam29_ok rfl (rs := [.cell 4 111]) rfl rfl [] []
    (vc := [((((16 : Nat) ≤ (16 : Nat)) ∧ True) ∧ (((16 : Nat) = (16 : Nat)) ∧ ((16 : Nat) < (70368744177664 : Nat)) ∧ (Wd8 (sub (mO S T (8 : Nat)) (0 : Nat) (16 : Nat))))), (Run Try.prog ⟨w, [], 0, noEnv⟩ (.block 0 (.loop (loopB Try.f98 0))) (muO_mk S T 0 ()) (To ⟨w, [], 0, noEnv⟩ .normal (muO_mk S T (8 : Nat) (iter (muO_step) (8 : Nat) ())))), (((0 : Int) ≤ (16 : Int)) ∧ ((16 : Int) ≤ (16 : Int)) ∧ ((64 : Int) ≤ (281474976710656 : Int)))]) (by kernel_rfl)
    (AllP_cons ⟨⟨(by decide), trivial⟩, ⟨rfl, (by decide), hw⟩⟩ (AllP_cons (muO_loop S T hv0 hv1 hw w ()) (AllP_cons ⟨(by decide), (by decide), (by decide)⟩ (AllP_nil))))

end Go.Proofs.Ytcpoldghkiiggaa.X

/- The reference's product of two numbers is their product. -/
namespace Go.Proofs.Ytcpoldghkiiggaa.X
open Go Go.Proofs
set_option linter.unusedVariables false

def valL : List Int → Int
  | [] => 0
  | a :: r => a + 4294967296 * valL r
def pw (n : Nat) : Int := 4294967296 ^ n
theorem pw_succ (n : Nat) : pw (n + 1) = 4294967296 * pw n := by unfold pw; rw [Int.pow_succ, Int.mul_comm]
theorem pw_add (m n : Nat) : pw (m + n) = pw m * pw n := by unfold pw; exact Int.pow_add _ _ _

theorem val_set (x : Int) : ∀ (l : List Int) (i : Nat), i < l.length → valL (l.set i x) = valL l + (x - List.getD l i 0) * pw i
  | [], i, h => by simp at h
  | a :: r, 0, _ => by
    show x + 4294967296 * valL r = a + 4294967296 * valL r + (x - a) * 1
    omega
  | a :: r, i + 1, h => by
    have ih := val_set x r i (by simpa using h)
    show a + 4294967296 * valL (r.set i x) = a + 4294967296 * valL r + (x - List.getD r i 0) * pw (i + 1)
    rw [ih, pw_succ, Int.mul_add, Int.mul_left_comm]
    omega

def tV (T : List Int) : Nat → Int
  | 0 => 0
  | j + 1 => tV T j + List.getD T j 0 * pw j

theorem wd8_set {l : List Int} (h : Wd8 l) (i : Nat) {x : Int} (hx : 0 ≤ x ∧ x < 4294967296) : Wd8 (l.set i x) := by
  intro y hy
  rcases List.mem_or_eq_of_mem_set hy with h1 | h1
  · exact h y h1
  · rw [h1]; exact hx

theorem mV_eq {S T l : List Int} {k j : Nat} {c : Int} (hS : Wd8 S) (hT : Wd8 T) (hl : Wd8 l) (hc : 0 ≤ c ∧ c < 4294967296) : mV S T l k j c = c + List.getD l (k + j) 0 + List.getD S k 0 * List.getD T j 0 ∧ 0 ≤ mV S T l k j c ∧ mV S T l k j c < 18446744073709551616 := by
  have a := wd8_get hS k
  have b := wd8_get hT j
  have d := wd8_get hl (k + j)
  have p := mul_le32 a.1 a.2 b.1 b.2
  unfold mV
  simp only [wrap64]
  have e1 : List.getD S k 0 % 18446744073709551616 = List.getD S k 0 := by omega
  have e2 : List.getD T j 0 % 18446744073709551616 = List.getD T j 0 := by omega
  rw [e1, e2]
  generalize List.getD S k 0 * List.getD T j 0 = q at *
  omega

theorem mI_inv {S T l : List Int} {k : Nat} (hS : Wd8 S) (hT : Wd8 T) (hl : Wd8 l) (h16 : l.length = 16) (hk : k < 8) : ∀ j, j ≤ 8 → Wd8 (mIl S T k l j) ∧ (0 ≤ mIc S T k l j ∧ mIc S T k l j < 4294967296) ∧
    valL (mIl S T k l j) + mIc S T k l j * pw (k + j) = valL l + List.getD S k 0 * (pw k * tV T j) ∧ ∀ i, k + j ≤ i → List.getD (mIl S T k l j) i 0 = List.getD l i 0
  | 0, _ => ⟨hl, ⟨Int.le_refl 0, by show (0 : Int) < 4294967296; omega⟩, by show valL l + 0 * pw (k + 0) = valL l + List.getD S k 0 * (pw k * 0); rw [Int.zero_mul, Int.mul_zero, Int.mul_zero], fun _ _ => rfl⟩
  | j + 1, hj => by
    obtain ⟨i1, i2, i3, i4⟩ := mI_inv hS hT hl h16 hk j (by omega)
    obtain ⟨e, e0, e1⟩ := mV_eq (k := k) (j := j) hS hT i1 i2
    have hlen : (mIl S T k l j).length = 16 := by rw [mIl_len, h16]
    have hlst : mIl S T k l (j + 1) = (mIl S T k l j).set (k + j) (IntKind.u32.wrap (mV S T (mIl S T k l j) k j (mIc S T k l j))) := rfl
    have hcar : mIc S T k l (j + 1) = mV S T (mIl S T k l j) k j (mIc S T k l j) / 4294967296 := shr32
    refine ⟨by rw [hlst]; exact wd8_set i1 _ (wrap32_rng _), by rw [hcar]; omega, ?_, ?_⟩
    · rw [hlst, hcar, val_set _ _ _ (by omega), wrap32, show k + (j + 1) = (k + j) + 1 by omega, pw_succ]
      show _ = valL l + List.getD S k 0 * (pw k * (tV T j + List.getD T j 0 * pw j))
      have hp : pw (k + j) = pw k * pw j := pw_add k j
      have hR : List.getD S k 0 * (pw k * (tV T j + List.getD T j 0 * pw j)) = List.getD S k 0 * (pw k * tV T j) + (List.getD S k 0 * List.getD T j 0) * pw (k + j) := by
        rw [hp, Int.mul_add, Int.mul_add]
        congr 1
        rw [Int.mul_left_comm (pw k), ← Int.mul_assoc]
      rw [hR, ← Int.add_assoc, ← i3]
      generalize mV S T (mIl S T k l j) k j (mIc S T k l j) = v at *
      have hv : v = 4294967296 * (v / 4294967296) + v % 4294967296 := by omega
      generalize pw (k + j) = p at *
      generalize List.getD S k 0 * List.getD T j 0 = q at *
      generalize mIc S T k l j = c at *
      generalize List.getD (mIl S T k l j) (k + j) 0 = d at *
      generalize valL (mIl S T k l j) = V at *
      have h1 : (v % 4294967296 - d) * p + v / 4294967296 * (4294967296 * p) = (v - d) * p := by
        rw [← Int.mul_assoc, ← Int.add_mul]
        congr 1
        omega
      rw [Int.add_assoc, h1, e, show c + d + q - d = c + q by omega, Int.add_mul, ← Int.add_assoc]
    · intro i hi
      rw [hlst, List.getD_eq_getElem?_getD, List.getElem?_set_ne (by omega), ← List.getD_eq_getElem?_getD]
      exact i4 i (by omega)
end Go.Proofs.Ytcpoldghkiiggaa.X

/- The reference's product, as numbers. -/
namespace Go.Proofs.Ytcpoldghkiiggaa.X
open Go Go.Proofs
set_option linter.unusedVariables false

theorem mO_inv {S T : List Int} (hS : Wd8 S) (hT : Wd8 T) : ∀ k, k ≤ 8 → Wd8 (mO S T k) ∧ (∀ i, k + 8 ≤ i → List.getD (mO S T k) i 0 = 0) ∧ valL (mO S T k) = tV S k * tV T 8
  | 0, _ => by
    refine ⟨?_, ?_, ?_⟩
    · intro x hx
      have : x = 0 := List.eq_of_mem_replicate hx
      omega
    · intro i hi
      show List.getD (List.replicate 16 (0 : Int)) i 0 = 0
      rw [List.getD_eq_getElem?_getD, List.getElem?_replicate]
      split <;> rfl
    · show valL (List.replicate 16 0) = 0 * tV T 8
      rw [Int.zero_mul]; rfl
  | k + 1, hk => by
    obtain ⟨i1, i2, i3⟩ := mO_inv hS hT k (by omega)
    obtain ⟨j1, j2, j3, j4⟩ := mI_inv hS hT i1 (mO_len S T k) (show k < 8 by omega) 8 (Nat.le_refl 8)
    have e : mO S T (k + 1) = (mIl S T k (mO S T k) 8).set (k + 8) (IntKind.u32.wrap (mIc S T k (mO S T k) 8)) := rfl
    have hlen : (mIl S T k (mO S T k) 8).length = 16 := by rw [mIl_len, mO_len]
    have hz : List.getD (mIl S T k (mO S T k) 8) (k + 8) 0 = 0 := by rw [j4 _ (by omega)]; exact i2 _ (by omega)
    refine ⟨by rw [e]; exact wd8_set j1 _ (wrap32_rng _), ?_, ?_⟩
    · intro i hi
      rw [e, List.getD_eq_getElem?_getD, List.getElem?_set_ne (by omega), ← List.getD_eq_getElem?_getD, j4 i (by omega)]
      exact i2 i (by omega)
    · rw [e, val_set _ _ _ (by omega), hz, wrap32, Int.emod_eq_of_lt j2.1 j2.2, Int.sub_zero, j3, i3]
      show _ = (tV S k + List.getD S k 0 * pw k) * tV T 8
      rw [Int.add_mul, Int.mul_assoc]

theorem tV_8 {S : List Int} (h : S.length = 8) : tV S 8 = V8 S := by
  obtain ⟨a0, a1, a2, a3, a4, a5, a6, a7, rfl⟩ := eight8 h
  have p0 : pw 0 = 1 := by decide +kernel
  have p1 : pw 1 = 4294967296 := by decide +kernel
  have p2 : pw 2 = 18446744073709551616 := by decide +kernel
  have p3 : pw 3 = 79228162514264337593543950336 := by decide +kernel
  have p4 : pw 4 = 340282366920938463463374607431768211456 := by decide +kernel
  have p5 : pw 5 = 1461501637330902918203684832716283019655932542976 := by decide +kernel
  have p6 : pw 6 = 6277101735386680763835789423207666416102355444464034512896 := by decide +kernel
  have p7 : pw 7 = 26959946667150639794667015087019630673637144422540572481103610249216 := by decide +kernel
  show 0 + a0 * pw 0 + a1 * pw 1 + a2 * pw 2 + a3 * pw 3 + a4 * pw 4 + a5 * pw 5 + a6 * pw 6 + a7 * pw 7 = a0 + 4294967296 * a1 + 18446744073709551616 * a2 + 79228162514264337593543950336 * a3 + 340282366920938463463374607431768211456 * a4 + 1461501637330902918203684832716283019655932542976 * a5 + 6277101735386680763835789423207666416102355444464034512896 * a6 + 26959946667150639794667015087019630673637144422540572481103610249216 * a7
  rw [p0, p1, p2, p3, p4, p5, p6, p7]
  omega
theorem top16 {l : List Int} (h : l.length = 16) : topV l 16 16 = valL l := by
  match l, h with
  | [a0, a1, a2, a3, a4, a5, a6, a7, a8, a9, a10, a11, a12, a13, a14, a15], _ =>
    show ((((((((((((((((0 * 4294967296 + a15) * 4294967296 + a14) * 4294967296 + a13) * 4294967296 + a12) * 4294967296 + a11) * 4294967296 + a10) * 4294967296 + a9) * 4294967296 + a8) * 4294967296 + a7) * 4294967296 + a6) * 4294967296 + a5) * 4294967296 + a4) * 4294967296 + a3) * 4294967296 + a2) * 4294967296 + a1) * 4294967296 + a0) = (a0 + 4294967296 * (a1 + 4294967296 * (a2 + 4294967296 * (a3 + 4294967296 * (a4 + 4294967296 * (a5 + 4294967296 * (a6 + 4294967296 * (a7 + 4294967296 * (a8 + 4294967296 * (a9 + 4294967296 * (a10 + 4294967296 * (a11 + 4294967296 * (a12 + 4294967296 * (a13 + 4294967296 * (a14 + 4294967296 * (a15 + 4294967296 * 0))))))))))))))))
    omega
theorem sub16 (S T : List Int) : sub (mO S T 8) 0 16 = mO S T 8 := by
  unfold sub
  rw [List.drop_zero]
  exact List.take_of_length_le (Nat.le_of_eq (mO_len S T 8))

theorem mul_can (S T : List Int) (h0 : Wd8 S) (h1 : Wd8 T) (w : World) : Body Try.prog (tabOf tabOJ) Try.f98 ⟨w, [], 0, noEnv⟩ (toA [.g [.ints .u32 (8 : Nat) S], .g [.ints .u32 (8 : Nat) T]]) [] (fun ys _ => ys = [.g [.ints .u32 (8 : Nat) (W8 (modL (V8 S * V8 T)))]]) :=
  Body.lens (c := (Try.f98.body.getD .skip)) rfl fun h => by
    have lS := h.vals 0 _ _ _ rfl
    have lT := h.vals 1 _ _ _ rfl
    obtain ⟨i1, i2, i3⟩ := mO_inv h0 h1 8 (Nat.le_refl 8)
    refine (mulR__body0 S T lS lT (by rw [sub16]; exact i1) w).mono fun xs K hx => ?_
    subst hx
    have e : mulR_ S T = W8 (modL (V8 S * V8 T)) := by
      unfold mulR_
      rw [sub16, top16 (mO_len S T 8), i3, tV_8 lS, tV_8 lT]
    rw [e]
end Go.Proofs.Ytcpoldghkiiggaa.X

/- Printed by a tool of this session. -/
namespace Go.Proofs.Ytcpoldghkiiggaa.X
open Go Go.Proofs
set_option linter.unusedVariables false
set_option linter.unusedSimpArgs false
set_option maxRecDepth 100000
theorem teOM_24 : TEOk Try.prog 24 ⟨.array 32 5, 32, 32, [.ints .u8 (32 : Nat) ([0, 0, 0, 0, 0, 0, 0, 0, 0, 0, 0, 0, 0, 0, 0, 0, 0, 0, 0, 0, 0, 0, 0, 0, 0, 0, 0, 0, 0, 0, 0, 0] : List Int)], true⟩ :=
  TEOk.of Try.underlying24 (i := Try.t24) (by kernel_rfl) rfl rfl rfl (by kernel_rfl) (fun _ => Try.eqGuardType24) (by kernel_rfl)
noncomputable def tabOM : List (Nat × TE) := [(24, ⟨.array 32 5, 32, 32, [.ints .u8 (32 : Nat) ([0, 0, 0, 0, 0, 0, 0, 0, 0, 0, 0, 0, 0, 0, 0, 0, 0, 0, 0, 0, 0, 0, 0, 0, 0, 0, 0, 0, 0, 0, 0, 0] : List Int)], true⟩)]
theorem tabOkOM : TabOk Try.prog (tabOf tabOM) := (tabOf_cons teOM_24 tabOf_nil)

theorem mulR__pure (S : List Int) (T : List Int) (h0 : (Wd8 S)) (h1 : (Wd8 T)) : PureC Try.prog 98 [.g [.ints .u32 (8 : Nat) S], .g [.ints .u32 (8 : Nat) T]] [.g [.ints .u32 (8 : Nat) (W8 (modL ((V8 S) * (V8 T))))]] :=
  PureC.of_body tabOkOJ Try.func98 rfl rfl fun w => mul_can S T h0 h1 w

def gam34 : Gam := gpure 98 (fun args => match args with | [.o (.g [.ints .u32 (8 : Nat) S]), .o (.g [.ints .u32 (8 : Nat) T])] => some (some ((Wd8 S) ∧ (Wd8 T)), [.g [.ints .u32 (8 : Nat) (W8 (modL ((V8 S) * (V8 T))))]]) | _ => none) gam29
theorem gam34_ok : GamOk Try.prog gam34 := gpure_ok gam29_ok Try.call98 (by
  intro args vc xs h hv
  split at h
  · simp only [Option.some.injEq, Prod.mk.injEq] at h; obtain ⟨rfl, rfl⟩ := h; exact ⟨_, by rfl, mulR__pure _ _ hv.1 hv.2⟩
  · simp at h)

set_option maxHeartbeats 1000000 in
theorem num_body0 (x : Int) (w : World) : Body Try.prog (tabOf tabOM) Try.f17 ⟨w, [], 0, noEnv⟩ (toA [.a (.i .i64 x)]) [] (fun ys _ => ys = [.a (.i .i64 x)]) :=
  Body.of_fin (Γ := gam34) (Λ := noLam) (Ψ := noPsi) (fuel := 0) (m := 4) (c := (Try.f17.body.getD .skip)) mix tabOkOM gam34_ok rfl (rs := [.tmp 2]) rfl rfl [] []
    (vc := []) (by kernel_rfl)
    (AllP_nil)

theorem num_body (x : Int) (w : World) : Body Try.prog (tabOf tabOM) Try.f17 ⟨w, [], 0, noEnv⟩ (toA [.a (.i .i64 x)]) [] (fun ys _ => ys = [.a (.i .i64 x)]) :=
  Body.lens (c := (Try.f17.body.getD .skip)) rfl fun h => num_body0 x  w

theorem num_pure (x : Int) : PureC Try.prog 17 [.a (.i .i64 x)] [.a (.i .i64 x)] :=
  PureC.of_body tabOkOM Try.func17 rfl rfl fun w => num_body x w

def gam38 : Gam := gpure 17 (fun args => match args with | [.o (.a (.i .i64 x))] => some (none, [.a (.i .i64 x)]) | _ => none) gam34
theorem gam38_ok : GamOk Try.prog gam38 := gpure_ok gam34_ok Try.call17 (by
  intro args vc xs h hv
  split at h
  · simp only [Option.some.injEq, Prod.mk.injEq] at h; obtain ⟨rfl, rfl⟩ := h; exact ⟨_, by rfl, num_pure _⟩
  · simp at h)

end Go.Proofs.Ytcpoldghkiiggaa.X

/- The program and the reference answer the same: sums, differences, opposites, products. -/
namespace Go.Proofs.Ytcpoldghkiiggaa.X
open Go Go.Proofs
set_option linter.unusedVariables false

end Go.Proofs.Ytcpoldghkiiggaa.X

/- Powers, as the program reckons them. -/
namespace Go.Proofs.Ytcpoldghkiiggaa.X
open Go Go.Proofs
set_option linter.unusedVariables false

def bitE (E : List Int) (k : Nat) : Int := bits2 .and .u64 (shr .u64 (List.getD E (Int.toNat (IntKind.i64.wrap (Int.tdiv ((255 : Int) - ((k : Nat) : Int)) (64 : Int)))) 0) (Int.tmod ((255 : Int) - ((k : Nat) : Int)) (64 : Int))) (1 : Int)
def rP (m r0 : Int) (E : List Int) : Nat → Int
  | 0 => r0
  | k + 1 => if bitE E k = 1 then montV (V4 (W4 (montV (V4 (W4 (rP m r0 E k))) (V4 (W4 (rP m r0 E k)))))) (V4 (W4 m)) else montV (V4 (W4 (rP m r0 E k))) (V4 (W4 (rP m r0 E k)))
theorem rP_a {m r0 : Int} {E : List Int} {k : Nat} (h : bitE E k = 1) : rP m r0 E (k + 1) = montV (V4 (W4 (montV (V4 (W4 (rP m r0 E k))) (V4 (W4 (rP m r0 E k)))))) (V4 (W4 m)) := by
  show (if _ then _ else _) = _
  rw [if_pos h]
theorem rP_b {m r0 : Int} {E : List Int} {k : Nat} (h : ¬ bitE E k = 1) : rP m r0 E (k + 1) = montV (V4 (W4 (rP m r0 E k))) (V4 (W4 (rP m r0 E k))) := by
  show (if _ then _ else _) = _
  rw [if_neg h]
theorem rP_ltl (m a b : Int) (E : List Int) : ∀ k, LtL (W4 (rP m (montV a b) E k))
  | 0 => ltl_mont a b
  | k + 1 => by
    by_cases h : bitE E k = 1
    · rw [rP_a h]; exact ltl_mont _ _
    · rw [rP_b h]; exact ltl_mont _ _
theorem qt {k : Nat} (h : k < 256) : IntKind.i64.wrap (Int.tdiv ((255 : Int) - ((k : Nat) : Int)) 64) = Int.tdiv ((255 : Int) - ((k : Nat) : Int)) 64 ∧ 0 ≤ Int.tdiv ((255 : Int) - ((k : Nat) : Int)) 64 ∧ Int.tdiv ((255 : Int) - ((k : Nat) : Int)) 64 < 4 ∧ 0 ≤ Int.tmod ((255 : Int) - ((k : Nat) : Int)) 64 := by
  rw [Int.tdiv_eq_ediv_of_nonneg (by omega), Int.tmod_eq_emod_of_nonneg (by omega)]
  exact ⟨wrapI (by omega) (by omega), by omega, by omega, by omega⟩
end Go.Proofs.Ytcpoldghkiiggaa.X

/- Printed by a tool of this session. -/
namespace Go.Proofs.Ytcpoldghkiiggaa.X
open Go Go.Proofs
set_option linter.unusedVariables false
set_option linter.unusedSimpArgs false
set_option maxRecDepth 100000
theorem teOQ_25 : TEOk Try.prog 25 ⟨.int .u64, 1, 8, [.i .u64 (0 : Int)], false⟩ :=
  TEOk.of Try.underlying25 (i := Try.t25) (by kernel_rfl) rfl rfl rfl (by kernel_rfl) (fun h => by cases h) (by kernel_rfl)
theorem teOQ_104 : TEOk Try.prog 104 ⟨.array 4 25, 4, 32, [.ints .u64 (4 : Nat) ([0, 0, 0, 0] : List Int)], true⟩ :=
  TEOk.of Try.underlying104 (i := Try.t104) (by kernel_rfl) rfl rfl rfl (by kernel_rfl) (fun _ => Try.eqGuardType104) (by kernel_rfl)
noncomputable def tabOQ : List (Nat × TE) := [(25, ⟨.int .u64, 1, 8, [.i .u64 (0 : Int)], false⟩), (104, ⟨.array 4 25, 4, 32, [.ints .u64 (4 : Nat) ([0, 0, 0, 0] : List Int)], true⟩)]
theorem tabOkOQ : TabOk Try.prog (tabOf tabOQ) := (tabOf_cons teOQ_25 (tabOf_cons teOQ_104 tabOf_nil))

def pwL_mk (S : List Int) (E : List Int) (k : Nat) (s : Unit) : St := ⟨sparse 36 [(0, .o (.g [.ints .u64 (4 : Nat) S])), (1, .o (.g [.ints .u64 (4 : Nat) E])), (2, .o (.a (.p 0 0))), (3, .o (.a (.p 1 0))), (4, .o (.a (.p 2 0))), (5, .o (.a (.p 3 0))), (6, .o (.a (.p 4 0))), (7, .o (.a (.i .i64 ((255 : Int) - ((k : Nat) : Int))))), (8, .o (.g [.ints .u64 (4 : Nat) S])), (9, .o (.g [.ints .u64 (4 : Nat) ([11819153939886771969, 14991950615390032711, 14910419812499177061, 259310039853996605] : List Int)])), (10, .o (.g [.ints .u64 (4 : Nat) (W4 (montV (V4 S) (V4 ([11819153939886771969, 14991950615390032711, 14910419812499177061, 259310039853996605] : List Int))))])), (11, .o (.g [.ints .u64 (4 : Nat) ([1, 0, 0, 0] : List Int)])), (12, .o (.g [.ints .u64 (4 : Nat) ([11819153939886771969, 14991950615390032711, 14910419812499177061, 259310039853996605] : List Int)])), (13, .o (.g [.ints .u64 (4 : Nat) (W4 (montV (V4 ([1, 0, 0, 0] : List Int)) (V4 ([11819153939886771969, 14991950615390032711, 14910419812499177061, 259310039853996605] : List Int))))]))], [some ⟨true, [.ints .u64 (4 : Nat) S]⟩, some ⟨true, [.ints .u64 (4 : Nat) E]⟩, some ⟨true, [.ints .u64 (4 : Nat) ([0, 0, 0, 0] : List Int)]⟩, some ⟨true, [.ints .u64 (4 : Nat) (W4 (montV (V4 S) (V4 ([11819153939886771969, 14991950615390032711, 14910419812499177061, 259310039853996605] : List Int))))]⟩, some ⟨true, [.ints .u64 (4 : Nat) (W4 (rP (montV (V4 S) (V4 ([11819153939886771969, 14991950615390032711, 14910419812499177061, 259310039853996605] : List Int))) (montV (V4 ([1, 0, 0, 0] : List Int)) (V4 ([11819153939886771969, 14991950615390032711, 14910419812499177061, 259310039853996605] : List Int))) E k))]⟩]⟩

def pwL_step (k : Nat) (s : Unit) : Unit :=
  ()

set_option maxHeartbeats 1000000 in
theorem pwL_round_0 (S : List Int) (E : List Int) (h0 : (Wds S)) (h1 : (Wds E)) (hv0 : List.length S = (4 : Nat)) (hv1 : List.length E = (4 : Nat)) (w : World) (k : Nat) (hk : k < (256 : Nat)) (s : Unit) (ha : bitE E k = 1) : Run Try.prog ⟨w, [], 0, noEnv⟩ (loopB Try.f100 0) (pwL_mk S E k s) (To ⟨w, [], 0, noEnv⟩ .normal (pwL_mk S E (k + 1) (pwL_step k s))) := by
  have e0 : (W4 (montV (V4 (W4 (montV (V4 (W4 (rP (montV (V4 S) (V4 ([11819153939886771969, 14991950615390032711, 14910419812499177061, 259310039853996605] : List Int))) (montV (V4 ([1, 0, 0, 0] : List Int)) (V4 ([11819153939886771969, 14991950615390032711, 14910419812499177061, 259310039853996605] : List Int))) E k))) (V4 (W4 (rP (montV (V4 S) (V4 ([11819153939886771969, 14991950615390032711, 14910419812499177061, 259310039853996605] : List Int))) (montV (V4 ([1, 0, 0, 0] : List Int)) (V4 ([11819153939886771969, 14991950615390032711, 14910419812499177061, 259310039853996605] : List Int))) E k)))))) (V4 (W4 (montV (V4 S) (V4 ([11819153939886771969, 14991950615390032711, 14910419812499177061, 259310039853996605] : List Int))))))) = (W4 (rP (montV (V4 S) (V4 ([11819153939886771969, 14991950615390032711, 14910419812499177061, 259310039853996605] : List Int))) (montV (V4 ([1, 0, 0, 0] : List Int)) (V4 ([11819153939886771969, 14991950615390032711, 14910419812499177061, 259310039853996605] : List Int))) E (k + (1 : Nat)))) := (by first | (rw [wrapI (by omega) (by omega)]; omega) | (rw [rP_a ha]))
  have e1 : (IntKind.i64.wrap (((255 : Int) - ((k : Nat) : Int)) - (1 : Int))) = ((255 : Int) - (((k + (1 : Nat)) : Nat) : Int)) := (by first | (rw [wrapI (by omega) (by omega)]; omega) | (rw [rP_a ha]))
  have h := Run.of_outT (B := ⟨w, [], 0, noEnv⟩) (Λ := noLam) (Ψ := noPsi) (fuel := 0) (ora := [true, true]) (c := (loopB Try.f100 0)) (st := (pwL_mk S E k s)) (l := [.forget [0, 1, 2, 3, 4, 5, 6, 7, 8, 9, 10, 11, 12, 13] 5]) (s' := ⟨sparse 36 [(0, .o (.g [.ints .u64 (4 : Nat) S])), (1, .o (.g [.ints .u64 (4 : Nat) E])), (2, .o (.a (.p 0 0))), (3, .o (.a (.p 1 0))), (4, .o (.a (.p 2 0))), (5, .o (.a (.p 3 0))), (6, .o (.a (.p 4 0))), (7, .o (.a (.i .i64 (IntKind.i64.wrap (((255 : Int) - ((k : Nat) : Int)) - (1 : Int)))))), (8, .o (.g [.ints .u64 (4 : Nat) S])), (9, .o (.g [.ints .u64 (4 : Nat) ([11819153939886771969, 14991950615390032711, 14910419812499177061, 259310039853996605] : List Int)])), (10, .o (.g [.ints .u64 (4 : Nat) (W4 (montV (V4 S) (V4 ([11819153939886771969, 14991950615390032711, 14910419812499177061, 259310039853996605] : List Int))))])), (11, .o (.g [.ints .u64 (4 : Nat) ([1, 0, 0, 0] : List Int)])), (12, .o (.g [.ints .u64 (4 : Nat) ([11819153939886771969, 14991950615390032711, 14910419812499177061, 259310039853996605] : List Int)])), (13, .o (.g [.ints .u64 (4 : Nat) (W4 (montV (V4 ([1, 0, 0, 0] : List Int)) (V4 ([11819153939886771969, 14991950615390032711, 14910419812499177061, 259310039853996605] : List Int))))]))], [some ⟨true, [.ints .u64 (4 : Nat) S]⟩, some ⟨true, [.ints .u64 (4 : Nat) E]⟩, some ⟨true, [.ints .u64 (4 : Nat) ([0, 0, 0, 0] : List Int)]⟩, some ⟨true, [.ints .u64 (4 : Nat) (W4 (montV (V4 S) (V4 ([11819153939886771969, 14991950615390032711, 14910419812499177061, 259310039853996605] : List Int))))]⟩, some ⟨true, [.ints .u64 (4 : Nat) (W4 (montV (V4 (W4 (montV (V4 (W4 (rP (montV (V4 S) (V4 ([11819153939886771969, 14991950615390032711, 14910419812499177061, 259310039853996605] : List Int))) (montV (V4 ([1, 0, 0, 0] : List Int)) (V4 ([11819153939886771969, 14991950615390032711, 14910419812499177061, 259310039853996605] : List Int))) E k))) (V4 (W4 (rP (montV (V4 S) (V4 ([11819153939886771969, 14991950615390032711, 14910419812499177061, 259310039853996605] : List Int))) (montV (V4 ([1, 0, 0, 0] : List Int)) (V4 ([11819153939886771969, 14991950615390032711, 14910419812499177061, 259310039853996605] : List Int))) E k)))))) (V4 (W4 (montV (V4 S) (V4 ([11819153939886771969, 14991950615390032711, 14910419812499177061, 259310039853996605] : List Int)))))))]⟩]⟩) (ex := .normal) mix tabOkOQ gam38_ok
    (vc := [((Wds (W4 (montV (V4 (W4 (rP (montV (V4 S) (V4 ([11819153939886771969, 14991950615390032711, 14910419812499177061, 259310039853996605] : List Int))) (montV (V4 ([1, 0, 0, 0] : List Int)) (V4 ([11819153939886771969, 14991950615390032711, 14910419812499177061, 259310039853996605] : List Int))) E k))) (V4 (W4 (rP (montV (V4 S) (V4 ([11819153939886771969, 14991950615390032711, 14910419812499177061, 259310039853996605] : List Int))) (montV (V4 ([1, 0, 0, 0] : List Int)) (V4 ([11819153939886771969, 14991950615390032711, 14910419812499177061, 259310039853996605] : List Int))) E k)))))) ∧ (Wds (W4 (montV (V4 S) (V4 ([11819153939886771969, 14991950615390032711, 14910419812499177061, 259310039853996605] : List Int))))) ∧ (LtL (W4 (montV (V4 S) (V4 ([11819153939886771969, 14991950615390032711, 14910419812499177061, 259310039853996605] : List Int)))))), (((bits2 .and .u64 (shr .u64 (List.getD E (Int.toNat (IntKind.i64.wrap (Int.tdiv ((255 : Int) - ((k : Nat) : Int)) (64 : Int)))) 0) (Int.tmod ((255 : Int) - ((k : Nat) : Int)) (64 : Int))) (1 : Int)) == (1 : Int)) = true), ((0 : Int) ≤ (Int.tmod ((255 : Int) - ((k : Nat) : Int)) (64 : Int))), ((64 : Int) ≠ 0), ((Int.toNat (IntKind.i64.wrap (Int.tdiv ((255 : Int) - ((k : Nat) : Int)) (64 : Int)))) < (4 : Nat)), (((0 : Int) ≤ (IntKind.i64.wrap (Int.tdiv ((255 : Int) - ((k : Nat) : Int)) (64 : Int)))) ∧ ((IntKind.i64.wrap (Int.tdiv ((255 : Int) - ((k : Nat) : Int)) (64 : Int))) < (4 : Int))), ((64 : Int) ≠ 0), ((Wds (W4 (rP (montV (V4 S) (V4 ([11819153939886771969, 14991950615390032711, 14910419812499177061, 259310039853996605] : List Int))) (montV (V4 ([1, 0, 0, 0] : List Int)) (V4 ([11819153939886771969, 14991950615390032711, 14910419812499177061, 259310039853996605] : List Int))) E k))) ∧ (Wds (W4 (rP (montV (V4 S) (V4 ([11819153939886771969, 14991950615390032711, 14910419812499177061, 259310039853996605] : List Int))) (montV (V4 ([1, 0, 0, 0] : List Int)) (V4 ([11819153939886771969, 14991950615390032711, 14910419812499177061, 259310039853996605] : List Int))) E k))) ∧ (LtL (W4 (rP (montV (V4 S) (V4 ([11819153939886771969, 14991950615390032711, 14910419812499177061, 259310039853996605] : List Int))) (montV (V4 ([1, 0, 0, 0] : List Int)) (V4 ([11819153939886771969, 14991950615390032711, 14910419812499177061, 259310039853996605] : List Int))) E k)))), ((decide (((255 : Int) - ((k : Nat) : Int)) ≥ (0 : Int))) = true)]) (by kernel_rfl)
    (AllP_cons ⟨(wds_W4 _), (wds_W4 _), (ltl_mont _ _)⟩ (AllP_cons (beq_iff_eq.2 ha) (AllP_cons (by have q := qt hk; first | omega | exact q.2.2.2 | (rw [q.1]; omega) | (simp (disch := omega) only [wrapI]; omega)) (AllP_cons (by decide) (AllP_cons (by have q := qt hk; first | omega | exact q.2.2.2 | (rw [q.1]; omega) | (simp (disch := omega) only [wrapI]; omega)) (AllP_cons ⟨(by have q := qt hk; first | omega | exact q.2.2.2 | (rw [q.1]; omega) | (simp (disch := omega) only [wrapI]; omega)), (by have q := qt hk; first | omega | exact q.2.2.2 | (rw [q.1]; omega) | (simp (disch := omega) only [wrapI]; omega))⟩ (AllP_cons (by decide) (AllP_cons ⟨(wds_W4 _), (wds_W4 _), (rP_ltl _ _ _ _ _)⟩ (AllP_cons (decide_eq_true (by have q := qt hk; first | omega | exact q.2.2.2 | (rw [q.1]; omega) | (simp (disch := omega) only [wrapI]; omega))) (AllP_nil))))))))))
  rw [e0, e1] at h
  exact h

set_option maxHeartbeats 1000000 in
theorem pwL_round_1 (S : List Int) (E : List Int) (h0 : (Wds S)) (h1 : (Wds E)) (hv0 : List.length S = (4 : Nat)) (hv1 : List.length E = (4 : Nat)) (w : World) (k : Nat) (hk : k < (256 : Nat)) (s : Unit) (ha : ¬ bitE E k = 1) : Run Try.prog ⟨w, [], 0, noEnv⟩ (loopB Try.f100 0) (pwL_mk S E k s) (To ⟨w, [], 0, noEnv⟩ .normal (pwL_mk S E (k + 1) (pwL_step k s))) := by
  have e0 : (W4 (montV (V4 (W4 (rP (montV (V4 S) (V4 ([11819153939886771969, 14991950615390032711, 14910419812499177061, 259310039853996605] : List Int))) (montV (V4 ([1, 0, 0, 0] : List Int)) (V4 ([11819153939886771969, 14991950615390032711, 14910419812499177061, 259310039853996605] : List Int))) E k))) (V4 (W4 (rP (montV (V4 S) (V4 ([11819153939886771969, 14991950615390032711, 14910419812499177061, 259310039853996605] : List Int))) (montV (V4 ([1, 0, 0, 0] : List Int)) (V4 ([11819153939886771969, 14991950615390032711, 14910419812499177061, 259310039853996605] : List Int))) E k))))) = (W4 (rP (montV (V4 S) (V4 ([11819153939886771969, 14991950615390032711, 14910419812499177061, 259310039853996605] : List Int))) (montV (V4 ([1, 0, 0, 0] : List Int)) (V4 ([11819153939886771969, 14991950615390032711, 14910419812499177061, 259310039853996605] : List Int))) E (k + (1 : Nat)))) := (by first | (rw [wrapI (by omega) (by omega)]; omega) | (rw [rP_b ha]))
  have e1 : (IntKind.i64.wrap (((255 : Int) - ((k : Nat) : Int)) - (1 : Int))) = ((255 : Int) - (((k + (1 : Nat)) : Nat) : Int)) := (by first | (rw [wrapI (by omega) (by omega)]; omega) | (rw [rP_b ha]))
  have h := Run.of_outT (B := ⟨w, [], 0, noEnv⟩) (Λ := noLam) (Ψ := noPsi) (fuel := 0) (ora := [true, false]) (c := (loopB Try.f100 0)) (st := (pwL_mk S E k s)) (l := [.forget [0, 1, 2, 3, 4, 5, 6, 7, 8, 9, 10, 11, 12, 13] 5]) (s' := ⟨sparse 36 [(0, .o (.g [.ints .u64 (4 : Nat) S])), (1, .o (.g [.ints .u64 (4 : Nat) E])), (2, .o (.a (.p 0 0))), (3, .o (.a (.p 1 0))), (4, .o (.a (.p 2 0))), (5, .o (.a (.p 3 0))), (6, .o (.a (.p 4 0))), (7, .o (.a (.i .i64 (IntKind.i64.wrap (((255 : Int) - ((k : Nat) : Int)) - (1 : Int)))))), (8, .o (.g [.ints .u64 (4 : Nat) S])), (9, .o (.g [.ints .u64 (4 : Nat) ([11819153939886771969, 14991950615390032711, 14910419812499177061, 259310039853996605] : List Int)])), (10, .o (.g [.ints .u64 (4 : Nat) (W4 (montV (V4 S) (V4 ([11819153939886771969, 14991950615390032711, 14910419812499177061, 259310039853996605] : List Int))))])), (11, .o (.g [.ints .u64 (4 : Nat) ([1, 0, 0, 0] : List Int)])), (12, .o (.g [.ints .u64 (4 : Nat) ([11819153939886771969, 14991950615390032711, 14910419812499177061, 259310039853996605] : List Int)])), (13, .o (.g [.ints .u64 (4 : Nat) (W4 (montV (V4 ([1, 0, 0, 0] : List Int)) (V4 ([11819153939886771969, 14991950615390032711, 14910419812499177061, 259310039853996605] : List Int))))]))], [some ⟨true, [.ints .u64 (4 : Nat) S]⟩, some ⟨true, [.ints .u64 (4 : Nat) E]⟩, some ⟨true, [.ints .u64 (4 : Nat) ([0, 0, 0, 0] : List Int)]⟩, some ⟨true, [.ints .u64 (4 : Nat) (W4 (montV (V4 S) (V4 ([11819153939886771969, 14991950615390032711, 14910419812499177061, 259310039853996605] : List Int))))]⟩, some ⟨true, [.ints .u64 (4 : Nat) (W4 (montV (V4 (W4 (rP (montV (V4 S) (V4 ([11819153939886771969, 14991950615390032711, 14910419812499177061, 259310039853996605] : List Int))) (montV (V4 ([1, 0, 0, 0] : List Int)) (V4 ([11819153939886771969, 14991950615390032711, 14910419812499177061, 259310039853996605] : List Int))) E k))) (V4 (W4 (rP (montV (V4 S) (V4 ([11819153939886771969, 14991950615390032711, 14910419812499177061, 259310039853996605] : List Int))) (montV (V4 ([1, 0, 0, 0] : List Int)) (V4 ([11819153939886771969, 14991950615390032711, 14910419812499177061, 259310039853996605] : List Int))) E k)))))]⟩]⟩) (ex := .normal) mix tabOkOQ gam38_ok
    (vc := [(((bits2 .and .u64 (shr .u64 (List.getD E (Int.toNat (IntKind.i64.wrap (Int.tdiv ((255 : Int) - ((k : Nat) : Int)) (64 : Int)))) 0) (Int.tmod ((255 : Int) - ((k : Nat) : Int)) (64 : Int))) (1 : Int)) == (1 : Int)) = false), ((0 : Int) ≤ (Int.tmod ((255 : Int) - ((k : Nat) : Int)) (64 : Int))), ((64 : Int) ≠ 0), ((Int.toNat (IntKind.i64.wrap (Int.tdiv ((255 : Int) - ((k : Nat) : Int)) (64 : Int)))) < (4 : Nat)), (((0 : Int) ≤ (IntKind.i64.wrap (Int.tdiv ((255 : Int) - ((k : Nat) : Int)) (64 : Int)))) ∧ ((IntKind.i64.wrap (Int.tdiv ((255 : Int) - ((k : Nat) : Int)) (64 : Int))) < (4 : Int))), ((64 : Int) ≠ 0), ((Wds (W4 (rP (montV (V4 S) (V4 ([11819153939886771969, 14991950615390032711, 14910419812499177061, 259310039853996605] : List Int))) (montV (V4 ([1, 0, 0, 0] : List Int)) (V4 ([11819153939886771969, 14991950615390032711, 14910419812499177061, 259310039853996605] : List Int))) E k))) ∧ (Wds (W4 (rP (montV (V4 S) (V4 ([11819153939886771969, 14991950615390032711, 14910419812499177061, 259310039853996605] : List Int))) (montV (V4 ([1, 0, 0, 0] : List Int)) (V4 ([11819153939886771969, 14991950615390032711, 14910419812499177061, 259310039853996605] : List Int))) E k))) ∧ (LtL (W4 (rP (montV (V4 S) (V4 ([11819153939886771969, 14991950615390032711, 14910419812499177061, 259310039853996605] : List Int))) (montV (V4 ([1, 0, 0, 0] : List Int)) (V4 ([11819153939886771969, 14991950615390032711, 14910419812499177061, 259310039853996605] : List Int))) E k)))), ((decide (((255 : Int) - ((k : Nat) : Int)) ≥ (0 : Int))) = true)]) (by kernel_rfl)
    (AllP_cons (beq_eq_false_iff_ne.2 ha) (AllP_cons (by have q := qt hk; first | omega | exact q.2.2.2 | (rw [q.1]; omega) | (simp (disch := omega) only [wrapI]; omega)) (AllP_cons (by decide) (AllP_cons (by have q := qt hk; first | omega | exact q.2.2.2 | (rw [q.1]; omega) | (simp (disch := omega) only [wrapI]; omega)) (AllP_cons ⟨(by have q := qt hk; first | omega | exact q.2.2.2 | (rw [q.1]; omega) | (simp (disch := omega) only [wrapI]; omega)), (by have q := qt hk; first | omega | exact q.2.2.2 | (rw [q.1]; omega) | (simp (disch := omega) only [wrapI]; omega))⟩ (AllP_cons (by decide) (AllP_cons ⟨(wds_W4 _), (wds_W4 _), (rP_ltl _ _ _ _ _)⟩ (AllP_cons (decide_eq_true (by have q := qt hk; first | omega | exact q.2.2.2 | (rw [q.1]; omega) | (simp (disch := omega) only [wrapI]; omega))) (AllP_nil)))))))))
  rw [e0, e1] at h
  exact h

theorem pwL_round (S : List Int) (E : List Int) (h0 : (Wds S)) (h1 : (Wds E)) (hv0 : List.length S = (4 : Nat)) (hv1 : List.length E = (4 : Nat)) (w : World) (k : Nat) (hk : k < (256 : Nat)) (s : Unit) : Run Try.prog ⟨w, [], 0, noEnv⟩ (loopB Try.f100 0) (pwL_mk S E k s) (To ⟨w, [], 0, noEnv⟩ .normal (pwL_mk S E (k + 1) (pwL_step k s))) := by
  by_cases ha : bitE E k = 1
  · exact pwL_round_0 S E h0 h1 hv0 hv1 w k hk s ha
  · exact pwL_round_1 S E h0 h1 hv0 hv1 w k hk s ha

set_option maxHeartbeats 1000000 in
theorem pwL_last (S : List Int) (E : List Int) (h0 : (Wds S)) (h1 : (Wds E)) (hv0 : List.length S = (4 : Nat)) (hv1 : List.length E = (4 : Nat)) (w : World) (s : Unit) : Run Try.prog ⟨w, [], 0, noEnv⟩ (loopB Try.f100 0) (pwL_mk S E (256 : Nat) s) (To ⟨w, [], 0, noEnv⟩ (.exit 0) (pwL_mk S E (256 : Nat) s)) :=
  Run.of_outT (B := ⟨w, [], 0, noEnv⟩) (Λ := noLam) (Ψ := noPsi) (fuel := 0) (ora := [false]) (l := [.forget [0, 1, 2, 3, 4, 5, 6, 7, 8, 9, 10, 11, 12, 13] 5]) mix tabOkOQ gam38_ok
    (vc := [(false = false)]) (by kernel_rfl)
    (AllP_cons rfl (AllP_nil))

theorem pwL_loop (S : List Int) (E : List Int) (h0 : (Wds S)) (h1 : (Wds E)) (hv0 : List.length S = (4 : Nat)) (hv1 : List.length E = (4 : Nat)) (w : World) (s : Unit) : Run Try.prog ⟨w, [], 0, noEnv⟩ (.block 0 (.loop (loopB Try.f100 0))) (pwL_mk S E 0 s) (To ⟨w, [], 0, noEnv⟩ .normal (pwL_mk S E (256 : Nat) (iter (pwL_step) (256 : Nat) s))) :=
  Run.count (fun k => pwL_mk S E k (iter (pwL_step) k s)) (256 : Nat) (fun k hk => pwL_round S E h0 h1 hv0 hv1 w k hk _) (ex := (.exit 0)) (by simp) (pwL_last S E h0 h1 hv0 hv1 w _)

def powA (S : List Int) (E : List Int) : List Int :=
  (W4 (montV (V4 (W4 (rP (montV (V4 S) (V4 ([11819153939886771969, 14991950615390032711, 14910419812499177061, 259310039853996605] : List Int))) (montV (V4 ([1, 0, 0, 0] : List Int)) (V4 ([11819153939886771969, 14991950615390032711, 14910419812499177061, 259310039853996605] : List Int))) E (256 : Nat)))) (V4 ([1, 0, 0, 0] : List Int))))

set_option maxHeartbeats 1000000 in
theorem powA_body0 (S : List Int) (E : List Int) (h0 : (Wds S)) (h1 : (Wds E)) (hv0 : List.length S = (4 : Nat)) (hv1 : List.length E = (4 : Nat)) (w : World) : Body Try.prog (tabOf tabOQ) Try.f100 ⟨w, [], 0, noEnv⟩ (toA [.g [.ints .u64 (4 : Nat) S], .g [.ints .u64 (4 : Nat) E]]) [] (fun ys _ => ys = [.g [.ints .u64 (4 : Nat) (powA S E)]]) :=
  Body.of_fin (Γ := gam38) (Λ := lamOf [(0, ⟨[.forget [0, 1, 2, 3, 4, 5, 6, 7, 8, 9, 10, 11, 12, 13] 5], .normal, (pwL_mk S E (256 : Nat) (iter (pwL_step) (256 : Nat) ()))⟩)]) (Ψ := noPsi) (fuel := 0) (m := 36) (c := (Try.f100.body.getD .skip)) mix tabOkOQ gam38_ok rfl (rs := [.cell 4 104]) rfl rfl [] []
    (vc := [((Wds (W4 (rP (montV (V4 S) (V4 ([11819153939886771969, 14991950615390032711, 14910419812499177061, 259310039853996605] : List Int))) (montV (V4 ([1, 0, 0, 0] : List Int)) (V4 ([11819153939886771969, 14991950615390032711, 14910419812499177061, 259310039853996605] : List Int))) E (256 : Nat)))) ∧ (Wds ([1, 0, 0, 0] : List Int)) ∧ (LtL ([1, 0, 0, 0] : List Int))), (Run Try.prog ⟨w, [], 0, noEnv⟩ (.block 0 (.loop (loopB Try.f100 0))) (pwL_mk S E 0 ()) (To ⟨w, [], 0, noEnv⟩ .normal (pwL_mk S E (256 : Nat) (iter (pwL_step) (256 : Nat) ())))), ((Wds ([1, 0, 0, 0] : List Int)) ∧ (Wds ([11819153939886771969, 14991950615390032711, 14910419812499177061, 259310039853996605] : List Int)) ∧ (LtL ([11819153939886771969, 14991950615390032711, 14910419812499177061, 259310039853996605] : List Int))), ((Wds S) ∧ (Wds ([11819153939886771969, 14991950615390032711, 14910419812499177061, 259310039853996605] : List Int)) ∧ (LtL ([11819153939886771969, 14991950615390032711, 14910419812499177061, 259310039853996605] : List Int)))]) (by kernel_rfl)
    (AllP_cons ⟨(wds_W4 _), wds_one, ltl_one⟩ (AllP_cons (pwL_loop S E h0 h1 hv0 hv1 w ()) (AllP_cons ⟨wds_one, wds_radx, ltl_radx⟩ (AllP_cons ⟨(by assumption), wds_radx, ltl_radx⟩ (AllP_nil)))))

theorem powA_body (S : List Int) (E : List Int) (h0 : (Wds S)) (h1 : (Wds E)) (w : World) : Body Try.prog (tabOf tabOQ) Try.f100 ⟨w, [], 0, noEnv⟩ (toA [.g [.ints .u64 (4 : Nat) S], .g [.ints .u64 (4 : Nat) E]]) [] (fun ys _ => ys = [.g [.ints .u64 (4 : Nat) (powA S E)]]) :=
  Body.lens (c := (Try.f100.body.getD .skip)) rfl fun h => powA_body0 S E h0 h1 (h.vals 0 _ _ _ rfl) (h.vals 1 _ _ _ rfl) w

end Go.Proofs.Ytcpoldghkiiggaa.X

/- A power's words. -/
namespace Go.Proofs.Ytcpoldghkiiggaa.X
open Go Go.Proofs
theorem wds_pow (S E : List Int) : Wds (powA S E) := by unfold powA; exact wds_W4 _
end Go.Proofs.Ytcpoldghkiiggaa.X

/- Printed by a tool of this session. -/
namespace Go.Proofs.Ytcpoldghkiiggaa.X
open Go Go.Proofs
set_option linter.unusedVariables false
set_option linter.unusedSimpArgs false
set_option maxRecDepth 100000
theorem teOS_5 : TEOk Try.prog 5 ⟨.int .u8, 1, 1, [.i .u8 (0 : Int)], false⟩ :=
  TEOk.of Try.underlying5 (i := Try.t5) (by kernel_rfl) rfl rfl rfl (by kernel_rfl) (fun h => by cases h) (by kernel_rfl)
theorem teOS_24 : TEOk Try.prog 24 ⟨.array 32 5, 32, 32, [.ints .u8 (32 : Nat) ([0, 0, 0, 0, 0, 0, 0, 0, 0, 0, 0, 0, 0, 0, 0, 0, 0, 0, 0, 0, 0, 0, 0, 0, 0, 0, 0, 0, 0, 0, 0, 0] : List Int)], true⟩ :=
  TEOk.of Try.underlying24 (i := Try.t24) (by kernel_rfl) rfl rfl rfl (by kernel_rfl) (fun _ => Try.eqGuardType24) (by kernel_rfl)
theorem teOS_25 : TEOk Try.prog 25 ⟨.int .u64, 1, 8, [.i .u64 (0 : Int)], false⟩ :=
  TEOk.of Try.underlying25 (i := Try.t25) (by kernel_rfl) rfl rfl rfl (by kernel_rfl) (fun h => by cases h) (by kernel_rfl)
theorem teOS_104 : TEOk Try.prog 104 ⟨.array 4 25, 4, 32, [.ints .u64 (4 : Nat) ([0, 0, 0, 0] : List Int)], true⟩ :=
  TEOk.of Try.underlying104 (i := Try.t104) (by kernel_rfl) rfl rfl rfl (by kernel_rfl) (fun _ => Try.eqGuardType104) (by kernel_rfl)
noncomputable def tabOS : List (Nat × TE) := [(5, ⟨.int .u8, 1, 1, [.i .u8 (0 : Int)], false⟩), (24, ⟨.array 32 5, 32, 32, [.ints .u8 (32 : Nat) ([0, 0, 0, 0, 0, 0, 0, 0, 0, 0, 0, 0, 0, 0, 0, 0, 0, 0, 0, 0, 0, 0, 0, 0, 0, 0, 0, 0, 0, 0, 0, 0] : List Int)], true⟩), (25, ⟨.int .u64, 1, 8, [.i .u64 (0 : Int)], false⟩), (104, ⟨.array 4 25, 4, 32, [.ints .u64 (4 : Nat) ([0, 0, 0, 0] : List Int)], true⟩)]
theorem tabOkOS : TabOk Try.prog (tabOf tabOS) := (tabOf_cons teOS_5 (tabOf_cons teOS_24 (tabOf_cons teOS_25 (tabOf_cons teOS_104 tabOf_nil))))

theorem powA_pure (S : List Int) (E : List Int) (h0 : (Wds S)) (h1 : (Wds E)) : PureC Try.prog 100 [.g [.ints .u64 (4 : Nat) S], .g [.ints .u64 (4 : Nat) E]] [.g [.ints .u64 (4 : Nat) (powA S E)]] :=
  PureC.of_body tabOkOQ Try.func100 rfl rfl fun w => powA_body S E h0 h1 w

def gam39 : Gam := gpure 100 (fun args => match args with | [.o (.g [.ints .u64 (4 : Nat) S]), .o (.g [.ints .u64 (4 : Nat) E])] => some (some ((Wds S) ∧ (Wds E)), [.g [.ints .u64 (4 : Nat) (powA S E)]]) | _ => none) gam38
theorem gam39_ok : GamOk Try.prog gam39 := gpure_ok gam38_ok Try.call100 (by
  intro args vc xs h hv
  split at h
  · simp only [Option.some.injEq, Prod.mk.injEq] at h; obtain ⟨rfl, rfl⟩ := h; exact ⟨_, by rfl, powA_pure _ _ hv.1 hv.2⟩
  · simp at h)

set_option maxHeartbeats 1000000 in
theorem invA_body0 (a : List Int) (h0 : (Byt a)) (hv0 : List.length a = (32 : Nat)) (hc : W4 (modL (BV a)) = [0, 0, 0, 0]) (w : World) : Body Try.prog (tabOf tabOS) Try.f40 ⟨w, [], 0, noEnv⟩ (toA [.g [.ints .u8 (32 : Nat) a]]) [] (fun ys _ => ys = [.g [.ints .u8 (32 : Nat) ([0, 0, 0, 0, 0, 0, 0, 0, 0, 0, 0, 0, 0, 0, 0, 0, 0, 0, 0, 0, 0, 0, 0, 0, 0, 0, 0, 0, 0, 0, 0, 0] : List Int)], .a (.i .i64 (9 : Int))]) :=
  Body.of_fin (Γ := gam39) (Λ := noLam) (Ψ := noPsi) (fuel := 0) (m := 23) (c := (Try.f40.body.getD .skip)) mix tabOkOS gam39_ok rfl (rs := [.cell 2 24, .tmp 3]) rfl rfl [true] []
    (vc := [((decide ((W4 (modL (BV a))) = ([0, 0, 0, 0] : List Int))) = true), (Byt a)]) (by kernel_rfl)
    (AllP_cons (decide_eq_true hc) (AllP_cons (by assumption) (AllP_nil)))

def invB (a : List Int) : List Int :=
  (B32 (V4 (powA (W4 (modL (BV a))) (W4 (difR (V4 ([6346243789798364141, 1503914060200516822, 0, 1152921504606846976] : List Int)) (V4 ([2, 0, 0, 0] : List Int)))))))

set_option maxHeartbeats 1000000 in
theorem invB_body0 (a : List Int) (h0 : (Byt a)) (hv0 : List.length a = (32 : Nat)) (hc : W4 (modL (BV a)) ≠ [0, 0, 0, 0]) (w : World) : Body Try.prog (tabOf tabOS) Try.f40 ⟨w, [], 0, noEnv⟩ (toA [.g [.ints .u8 (32 : Nat) a]]) [] (fun ys _ => ys = [.g [.ints .u8 (32 : Nat) (invB a)], .a (.i .i64 (0 : Int))]) :=
  Body.of_fin (Γ := gam39) (Λ := noLam) (Ψ := noPsi) (fuel := 0) (m := 23) (c := (Try.f40.body.getD .skip)) mix tabOkOS gam39_ok rfl (rs := [.cell 2 24, .tmp 3]) rfl rfl [false] []
    (vc := [(Wds (powA (W4 (modL (BV a))) (W4 (difR (V4 ([6346243789798364141, 1503914060200516822, 0, 1152921504606846976] : List Int)) (V4 ([2, 0, 0, 0] : List Int)))))), ((Wds (W4 (modL (BV a)))) ∧ (Wds (W4 (difR (V4 ([6346243789798364141, 1503914060200516822, 0, 1152921504606846976] : List Int)) (V4 ([2, 0, 0, 0] : List Int)))))), ((Wds ([6346243789798364141, 1503914060200516822, 0, 1152921504606846976] : List Int)) ∧ (Wds ([2, 0, 0, 0] : List Int))), ((decide ((W4 (modL (BV a))) = ([0, 0, 0, 0] : List Int))) = false), (Byt a)]) (by kernel_rfl)
    (AllP_cons (wds_pow _ _) (AllP_cons ⟨(wds_W4 _), (wds_W4 _)⟩ (AllP_cons ⟨(wds_four (by omega) (by omega) (by omega) (by omega)), (wds_four (by omega) (by omega) (by omega) (by omega))⟩ (AllP_cons (decide_eq_false hc) (AllP_cons (by assumption) (AllP_nil))))))

end Go.Proofs.Ytcpoldghkiiggaa.X

/- Invert, in one form. -/
namespace Go.Proofs.Ytcpoldghkiiggaa.X
open Go Go.Proofs
set_option linter.unusedVariables false

def invL (a : List Int) : List Int := if W4 (modL (BV a)) = [0, 0, 0, 0] then [0, 0, 0, 0, 0, 0, 0, 0, 0, 0, 0, 0, 0, 0, 0, 0, 0, 0, 0, 0, 0, 0, 0, 0, 0, 0, 0, 0, 0, 0, 0, 0] else invB a
def invE (a : List Int) : Int := if W4 (modL (BV a)) = [0, 0, 0, 0] then 9 else 0

theorem inv_can (a : List Int) (h0 : Byt a) (w : World) : Body Try.prog (tabOf tabOS) Try.f40 ⟨w, [], 0, noEnv⟩ (toA [.g [.ints .u8 (32 : Nat) a]]) [] (fun ys _ => ys = [.g [.ints .u8 (32 : Nat) (invL a)], .a (.i .i64 (invE a))]) :=
  Body.lens (c := (Try.f40.body.getD .skip)) rfl fun h => by
    have hl := h.vals 0 _ _ _ rfl
    by_cases hc : W4 (modL (BV a)) = [0, 0, 0, 0]
    · refine (invA_body0 a h0 hl hc w).mono fun xs K hx => ?_
      subst hx
      have e1 : invL a = [0, 0, 0, 0, 0, 0, 0, 0, 0, 0, 0, 0, 0, 0, 0, 0, 0, 0, 0, 0, 0, 0, 0, 0, 0, 0, 0, 0, 0, 0, 0, 0] := by unfold invL; rw [if_pos hc]
      have e2 : invE a = 9 := by unfold invE; rw [if_pos hc]
      rw [e1, e2]
    · refine (invB_body0 a h0 hl hc w).mono fun xs K hx => ?_
      subst hx
      have e1 : invL a = invB a := by unfold invL; rw [if_neg hc]
      have e2 : invE a = 0 := by unfold invE; rw [if_neg hc]
      rw [e1, e2]
end Go.Proofs.Ytcpoldghkiiggaa.X

/- Small bytes. -/
namespace Go.Proofs.Ytcpoldghkiiggaa.X
open Go Go.Proofs
theorem byt_small {s : List Int} (h : (s.all fun x => decide (0 ≤ x ∧ x < 256)) = true) : Byt s := by
  intro x hx
  simpa using List.all_eq_true.1 h x hx
end Go.Proofs.Ytcpoldghkiiggaa.X

/- Printed by a tool of this session. -/
namespace Go.Proofs.Ytcpoldghkiiggaa.X
open Go Go.Proofs
set_option linter.unusedVariables false
set_option linter.unusedSimpArgs false
set_option maxRecDepth 100000
theorem teOV_5 : TEOk Try.prog 5 ⟨.int .u8, 1, 1, [.i .u8 (0 : Int)], false⟩ :=
  TEOk.of Try.underlying5 (i := Try.t5) (by kernel_rfl) rfl rfl rfl (by kernel_rfl) (fun h => by cases h) (by kernel_rfl)
theorem teOV_22 : TEOk Try.prog 22 ⟨.slice 5, 1, 24, [.raw (.slice none 0 0)], false⟩ :=
  TEOk.of Try.underlying22 (i := Try.t22) (by kernel_rfl) rfl rfl rfl (by kernel_rfl) (fun h => by cases h) (by kernel_rfl)
theorem teOV_24 : TEOk Try.prog 24 ⟨.array 32 5, 32, 32, [.ints .u8 (32 : Nat) ([0, 0, 0, 0, 0, 0, 0, 0, 0, 0, 0, 0, 0, 0, 0, 0, 0, 0, 0, 0, 0, 0, 0, 0, 0, 0, 0, 0, 0, 0, 0, 0] : List Int)], true⟩ :=
  TEOk.of Try.underlying24 (i := Try.t24) (by kernel_rfl) rfl rfl rfl (by kernel_rfl) (fun _ => Try.eqGuardType24) (by kernel_rfl)
noncomputable def tabOV : List (Nat × TE) := [(5, ⟨.int .u8, 1, 1, [.i .u8 (0 : Int)], false⟩), (22, ⟨.slice 5, 1, 24, [.raw (.slice none 0 0)], false⟩), (24, ⟨.array 32 5, 32, 32, [.ints .u8 (32 : Nat) ([0, 0, 0, 0, 0, 0, 0, 0, 0, 0, 0, 0, 0, 0, 0, 0, 0, 0, 0, 0, 0, 0, 0, 0, 0, 0, 0, 0, 0, 0, 0, 0] : List Int)], true⟩)]
theorem tabOkOV : TabOk Try.prog (tabOf tabOV) := (tabOf_cons teOV_5 (tabOf_cons teOV_22 (tabOf_cons teOV_24 tabOf_nil)))

theorem invA_pure (a : List Int) (h0 : (Byt a)) : PureC Try.prog 40 [.g [.ints .u8 (32 : Nat) a]] [.g [.ints .u8 (32 : Nat) (invL a)], .a (.i .i64 (invE a))] :=
  PureC.of_body tabOkOS Try.func40 rfl rfl fun w => inv_can a h0 w

def gam40 : Gam := gpure 40 (fun args => match args with | [.o (.g [.ints .u8 (32 : Nat) a])] => some (some ((Byt a)), [.g [.ints .u8 (32 : Nat) (invL a)], .a (.i .i64 (invE a))]) | _ => none) gam39
theorem gam40_ok : GamOk Try.prog gam40 := gpure_ok gam39_ok Try.call40 (by
  intro args vc xs h hv
  split at h
  · simp only [Option.some.injEq, Prod.mk.injEq] at h; obtain ⟨rfl, rfl⟩ := h; exact ⟨_, by rfl, invA_pure _ hv⟩
  · simp at h)

def decZ (b : List Int) : List Int :=
  (sub b (0 : Nat) (32 : Nat))

set_option maxHeartbeats 1000000 in
theorem decZ_body0 (b : List Int) (cp : Nat) (h0 : (Byt (sub b (0 : Nat) (32 : Nat)))) (h1 : ((canP (sub b (0 : Nat) (32 : Nat))) = true)) (hl0_0 : List.length b = (32 : Nat)) (w : World) (rw : List Nat) (β : Env) : Body Try.prog (tabOf tabOV) Try.f15 ⟨w, rw, 1, β⟩ [.o (.a (.sl 0 (0 : Nat) (32 : Nat) cp))] [some ⟨false, [.ints .u8 (32 : Nat) b]⟩] (fun ys K' => ys = [.g [.ints .u8 (32 : Nat) (decZ b)], .a (.i .i64 (0 : Int))] ∧ K' = [some ⟨false, [.ints .u8 (32 : Nat) b]⟩]) :=
  Body.of_finK (Γ := gam40) (Λ := noLam) (Ψ := noPsi) (fuel := 0) (m := 17) (c := (Try.f15.body.getD .skip)) mix tabOkOV gam40_ok rfl (rs := [.cell 2 24, .tmp 3]) rfl rfl [false, false] [] 1
    (vc := [((!(canP (sub b (0 : Nat) (32 : Nat)))) = false), (Byt (sub b (0 : Nat) (32 : Nat))), ((32 : Nat) ≤ (32 : Nat)), ((32 : Nat) ≤ (32 : Nat)), (false = false)]) (by kernel_rfl)
    (AllP_cons (by rw [h1]; rfl) (AllP_cons (by assumption) (AllP_cons (by decide) (AllP_cons (by decide) (AllP_cons rfl (AllP_nil))))))

theorem decZ_body (b : List Int) (cp : Nat) (h0 : (Byt (sub b (0 : Nat) (32 : Nat)))) (h1 : ((canP (sub b (0 : Nat) (32 : Nat))) = true)) (w : World) (rw : List Nat) (β : Env) : Body Try.prog (tabOf tabOV) Try.f15 ⟨w, rw, 1, β⟩ [.o (.a (.sl 0 (0 : Nat) (32 : Nat) cp))] [some ⟨false, [.ints .u8 (32 : Nat) b]⟩] (fun ys K' => ys = [.g [.ints .u8 (32 : Nat) (decZ b)], .a (.i .i64 (0 : Int))] ∧ K' = [some ⟨false, [.ints .u8 (32 : Nat) b]⟩]) :=
  Body.lens (c := (Try.f15.body.getD .skip)) rfl fun h => decZ_body0 b cp h0 h1 (h.lens 0 _ .u8 (32 : Nat) b rfl (by simp)) w rw β

def gam41 : Gam := gcall 15 [false] [.w] (fun wk vs args => match wk, vs, args with | [⟨false, [.ints .u8 (32 : Nat) b]⟩], [], [.o (.a (.sl 0 (0 : Nat) (32 : Nat) cp))] => some ((Byt (sub b (0 : Nat) (32 : Nat))) ∧ ((canP (sub b (0 : Nat) (32 : Nat))) = true), [.g [.ints .u8 (32 : Nat) (decZ b)], .a (.i .i64 (0 : Int))], [some ⟨false, [.ints .u8 (32 : Nat) b]⟩]) | _, _, _ => none) gam40
theorem gam41_ok : GamOk Try.prog gam41 := gcall_ok tabOkOV Try.func15 gam40_ok Try.call15 (by
  intro wk vs args p xs K1 h hv
  split at h
  · simp only [Option.some.injEq, Prod.mk.injEq] at h; obtain ⟨rfl, rfl, rfl⟩ := h; obtain ⟨g0, g1⟩ := hv; exact fun caps w rw β => decZ_body _ _ g0 g1 w rw β
  · simp at h)

set_option maxHeartbeats 1000000 in
theorem works_body0 (w : World) : Body Try.prog (tabOf tabOV) Try.f25 ⟨w, [], 0, noEnv⟩ (toA []) [] (fun ys _ => ys = [.a (.b true)]) :=
  Body.of_fin (Γ := gam41) (Λ := noLam) (Ψ := noPsi) (fuel := 0) (m := 60) (c := (Try.f25.body.getD .skip)) mix tabOkOV gam41_ok rfl (rs := [.tmp 0]) rfl rfl [true, true, true, true, true, true, true, true, true, true, true, true, true, true, true, true, true, true, true, true, true, true, true, true, true, true, true] [.eqS 0 (.o (.a (.b true)))]
    (vc := [((.o (.a (.b (decide ((addP (negP ([1, 0, 0, 0, 0, 0, 0, 0, 0, 0, 0, 0, 0, 0, 0, 0, 0, 0, 0, 0, 0, 0, 0, 0, 0, 0, 0, 0, 0, 0, 0, 0] : List Int)) ([2, 0, 0, 0, 0, 0, 0, 0, 0, 0, 0, 0, 0, 0, 0, 0, 0, 0, 0, 0, 0, 0, 0, 0, 0, 0, 0, 0, 0, 0, 0, 0] : List Int)) = ([1, 0, 0, 0, 0, 0, 0, 0, 0, 0, 0, 0, 0, 0, 0, 0, 0, 0, 0, 0, 0, 0, 0, 0, 0, 0, 0, 0, 0, 0, 0, 0] : List Int))))) : AV) = .o (.a (.b true))), ((decide ((decZ (List.replicate (32 : Nat) (0 : Int))) = ([0, 0, 0, 0, 0, 0, 0, 0, 0, 0, 0, 0, 0, 0, 0, 0, 0, 0, 0, 0, 0, 0, 0, 0, 0, 0, 0, 0, 0, 0, 0, 0] : List Int))) = true), ((decide ((decZ (List.replicate (32 : Nat) (0 : Int))) = ([0, 0, 0, 0, 0, 0, 0, 0, 0, 0, 0, 0, 0, 0, 0, 0, 0, 0, 0, 0, 0, 0, 0, 0, 0, 0, 0, 0, 0, 0, 0, 0] : List Int))) = true), ((decide ((decZ (List.replicate (32 : Nat) (0 : Int))) = ([0, 0, 0, 0, 0, 0, 0, 0, 0, 0, 0, 0, 0, 0, 0, 0, 0, 0, 0, 0, 0, 0, 0, 0, 0, 0, 0, 0, 0, 0, 0, 0] : List Int))) = true), ((Byt (negP ([1, 0, 0, 0, 0, 0, 0, 0, 0, 0, 0, 0, 0, 0, 0, 0, 0, 0, 0, 0, 0, 0, 0, 0, 0, 0, 0, 0, 0, 0, 0, 0] : List Int))) ∧ (Byt ([2, 0, 0, 0, 0, 0, 0, 0, 0, 0, 0, 0, 0, 0, 0, 0, 0, 0, 0, 0, 0, 0, 0, 0, 0, 0, 0, 0, 0, 0, 0, 0] : List Int))), ((decide ((decZ (List.replicate (32 : Nat) (0 : Int))) = ([0, 0, 0, 0, 0, 0, 0, 0, 0, 0, 0, 0, 0, 0, 0, 0, 0, 0, 0, 0, 0, 0, 0, 0, 0, 0, 0, 0, 0, 0, 0, 0] : List Int))) = true), ((decide ((decZ (List.replicate (32 : Nat) (0 : Int))) = ([0, 0, 0, 0, 0, 0, 0, 0, 0, 0, 0, 0, 0, 0, 0, 0, 0, 0, 0, 0, 0, 0, 0, 0, 0, 0, 0, 0, 0, 0, 0, 0] : List Int))) = true), (Byt ([1, 0, 0, 0, 0, 0, 0, 0, 0, 0, 0, 0, 0, 0, 0, 0, 0, 0, 0, 0, 0, 0, 0, 0, 0, 0, 0, 0, 0, 0, 0, 0] : List Int)), ((decide ((decZ (List.replicate (32 : Nat) (0 : Int))) = ([0, 0, 0, 0, 0, 0, 0, 0, 0, 0, 0, 0, 0, 0, 0, 0, 0, 0, 0, 0, 0, 0, 0, 0, 0, 0, 0, 0, 0, 0, 0, 0] : List Int))) = true), ((decide ((decZ (List.replicate (32 : Nat) (0 : Int))) = ([0, 0, 0, 0, 0, 0, 0, 0, 0, 0, 0, 0, 0, 0, 0, 0, 0, 0, 0, 0, 0, 0, 0, 0, 0, 0, 0, 0, 0, 0, 0, 0] : List Int))) = true), (true = true), (true = true), (true = true), (true = true), (((invE ([0, 0, 0, 0, 0, 0, 0, 0, 0, 0, 0, 0, 0, 0, 0, 0, 0, 0, 0, 0, 0, 0, 0, 0, 0, 0, 0, 0, 0, 0, 0, 0] : List Int)) == (9 : Int)) = true), (((invE ([0, 0, 0, 0, 0, 0, 0, 0, 0, 0, 0, 0, 0, 0, 0, 0, 0, 0, 0, 0, 0, 0, 0, 0, 0, 0, 0, 0, 0, 0, 0, 0] : List Int)) == (9 : Int)) = true), (((invE ([0, 0, 0, 0, 0, 0, 0, 0, 0, 0, 0, 0, 0, 0, 0, 0, 0, 0, 0, 0, 0, 0, 0, 0, 0, 0, 0, 0, 0, 0, 0, 0] : List Int)) == (9 : Int)) = true), (((invE ([0, 0, 0, 0, 0, 0, 0, 0, 0, 0, 0, 0, 0, 0, 0, 0, 0, 0, 0, 0, 0, 0, 0, 0, 0, 0, 0, 0, 0, 0, 0, 0] : List Int)) == (9 : Int)) = true), ((decide ((invL ([1, 0, 0, 0, 0, 0, 0, 0, 0, 0, 0, 0, 0, 0, 0, 0, 0, 0, 0, 0, 0, 0, 0, 0, 0, 0, 0, 0, 0, 0, 0, 0] : List Int)) = ([1, 0, 0, 0, 0, 0, 0, 0, 0, 0, 0, 0, 0, 0, 0, 0, 0, 0, 0, 0, 0, 0, 0, 0, 0, 0, 0, 0, 0, 0, 0, 0] : List Int))) = true), ((decide ((invL ([1, 0, 0, 0, 0, 0, 0, 0, 0, 0, 0, 0, 0, 0, 0, 0, 0, 0, 0, 0, 0, 0, 0, 0, 0, 0, 0, 0, 0, 0, 0, 0] : List Int)) = ([1, 0, 0, 0, 0, 0, 0, 0, 0, 0, 0, 0, 0, 0, 0, 0, 0, 0, 0, 0, 0, 0, 0, 0, 0, 0, 0, 0, 0, 0, 0, 0] : List Int))) = true), ((decide ((invL ([1, 0, 0, 0, 0, 0, 0, 0, 0, 0, 0, 0, 0, 0, 0, 0, 0, 0, 0, 0, 0, 0, 0, 0, 0, 0, 0, 0, 0, 0, 0, 0] : List Int)) = ([1, 0, 0, 0, 0, 0, 0, 0, 0, 0, 0, 0, 0, 0, 0, 0, 0, 0, 0, 0, 0, 0, 0, 0, 0, 0, 0, 0, 0, 0, 0, 0] : List Int))) = true), ((decide ((invL ([1, 0, 0, 0, 0, 0, 0, 0, 0, 0, 0, 0, 0, 0, 0, 0, 0, 0, 0, 0, 0, 0, 0, 0, 0, 0, 0, 0, 0, 0, 0, 0] : List Int)) = ([1, 0, 0, 0, 0, 0, 0, 0, 0, 0, 0, 0, 0, 0, 0, 0, 0, 0, 0, 0, 0, 0, 0, 0, 0, 0, 0, 0, 0, 0, 0, 0] : List Int))) = true), (((invE ([1, 0, 0, 0, 0, 0, 0, 0, 0, 0, 0, 0, 0, 0, 0, 0, 0, 0, 0, 0, 0, 0, 0, 0, 0, 0, 0, 0, 0, 0, 0, 0] : List Int)) == (0 : Int)) = true), (((invE ([1, 0, 0, 0, 0, 0, 0, 0, 0, 0, 0, 0, 0, 0, 0, 0, 0, 0, 0, 0, 0, 0, 0, 0, 0, 0, 0, 0, 0, 0, 0, 0] : List Int)) == (0 : Int)) = true), (((invE ([1, 0, 0, 0, 0, 0, 0, 0, 0, 0, 0, 0, 0, 0, 0, 0, 0, 0, 0, 0, 0, 0, 0, 0, 0, 0, 0, 0, 0, 0, 0, 0] : List Int)) == (0 : Int)) = true), (((invE ([1, 0, 0, 0, 0, 0, 0, 0, 0, 0, 0, 0, 0, 0, 0, 0, 0, 0, 0, 0, 0, 0, 0, 0, 0, 0, 0, 0, 0, 0, 0, 0] : List Int)) == (0 : Int)) = true), ((decide ((mulP ([3, 0, 0, 0, 0, 0, 0, 0, 0, 0, 0, 0, 0, 0, 0, 0, 0, 0, 0, 0, 0, 0, 0, 0, 0, 0, 0, 0, 0, 0, 0, 0] : List Int) ([5, 0, 0, 0, 0, 0, 0, 0, 0, 0, 0, 0, 0, 0, 0, 0, 0, 0, 0, 0, 0, 0, 0, 0, 0, 0, 0, 0, 0, 0, 0, 0] : List Int)) = ([15, 0, 0, 0, 0, 0, 0, 0, 0, 0, 0, 0, 0, 0, 0, 0, 0, 0, 0, 0, 0, 0, 0, 0, 0, 0, 0, 0, 0, 0, 0, 0] : List Int))) = true), ((decide ((mulP ([3, 0, 0, 0, 0, 0, 0, 0, 0, 0, 0, 0, 0, 0, 0, 0, 0, 0, 0, 0, 0, 0, 0, 0, 0, 0, 0, 0, 0, 0, 0, 0] : List Int) ([5, 0, 0, 0, 0, 0, 0, 0, 0, 0, 0, 0, 0, 0, 0, 0, 0, 0, 0, 0, 0, 0, 0, 0, 0, 0, 0, 0, 0, 0, 0, 0] : List Int)) = ([15, 0, 0, 0, 0, 0, 0, 0, 0, 0, 0, 0, 0, 0, 0, 0, 0, 0, 0, 0, 0, 0, 0, 0, 0, 0, 0, 0, 0, 0, 0, 0] : List Int))) = true), ((decide ((mulP ([3, 0, 0, 0, 0, 0, 0, 0, 0, 0, 0, 0, 0, 0, 0, 0, 0, 0, 0, 0, 0, 0, 0, 0, 0, 0, 0, 0, 0, 0, 0, 0] : List Int) ([5, 0, 0, 0, 0, 0, 0, 0, 0, 0, 0, 0, 0, 0, 0, 0, 0, 0, 0, 0, 0, 0, 0, 0, 0, 0, 0, 0, 0, 0, 0, 0] : List Int)) = ([15, 0, 0, 0, 0, 0, 0, 0, 0, 0, 0, 0, 0, 0, 0, 0, 0, 0, 0, 0, 0, 0, 0, 0, 0, 0, 0, 0, 0, 0, 0, 0] : List Int))) = true), ((decide ((mulP ([3, 0, 0, 0, 0, 0, 0, 0, 0, 0, 0, 0, 0, 0, 0, 0, 0, 0, 0, 0, 0, 0, 0, 0, 0, 0, 0, 0, 0, 0, 0, 0] : List Int) ([5, 0, 0, 0, 0, 0, 0, 0, 0, 0, 0, 0, 0, 0, 0, 0, 0, 0, 0, 0, 0, 0, 0, 0, 0, 0, 0, 0, 0, 0, 0, 0] : List Int)) = ([15, 0, 0, 0, 0, 0, 0, 0, 0, 0, 0, 0, 0, 0, 0, 0, 0, 0, 0, 0, 0, 0, 0, 0, 0, 0, 0, 0, 0, 0, 0, 0] : List Int))) = true), ((Byt ([3, 0, 0, 0, 0, 0, 0, 0, 0, 0, 0, 0, 0, 0, 0, 0, 0, 0, 0, 0, 0, 0, 0, 0, 0, 0, 0, 0, 0, 0, 0, 0] : List Int)) ∧ (Byt ([5, 0, 0, 0, 0, 0, 0, 0, 0, 0, 0, 0, 0, 0, 0, 0, 0, 0, 0, 0, 0, 0, 0, 0, 0, 0, 0, 0, 0, 0, 0, 0] : List Int))), ((True ∧ True) ∧ ((Byt (sub (List.replicate (32 : Nat) (0 : Int)) (0 : Nat) (32 : Nat))) ∧ ((canP (sub (List.replicate (32 : Nat) (0 : Int)) (0 : Nat) (32 : Nat))) = true))), (((0 : Int) ≤ (32 : Int)) ∧ ((32 : Int) ≤ (32 : Int)) ∧ ((32 : Int) ≤ (281474976710656 : Int))), (Byt ([0, 0, 0, 0, 0, 0, 0, 0, 0, 0, 0, 0, 0, 0, 0, 0, 0, 0, 0, 0, 0, 0, 0, 0, 0, 0, 0, 0, 0, 0, 0, 0] : List Int)), (Byt ([1, 0, 0, 0, 0, 0, 0, 0, 0, 0, 0, 0, 0, 0, 0, 0, 0, 0, 0, 0, 0, 0, 0, 0, 0, 0, 0, 0, 0, 0, 0, 0] : List Int))]) (by kernel_rfl)
    (AllP_cons ((congrArg (fun z => AV.o (.a (.b z))) (by decide +kernel))) (AllP_cons (by decide +kernel) (AllP_cons (by decide +kernel) (AllP_cons (by decide +kernel) (AllP_cons ⟨(byt_small (by decide +kernel)), (byt_small (by decide +kernel))⟩ (AllP_cons (by decide +kernel) (AllP_cons (by decide +kernel) (AllP_cons (byt_small (by decide +kernel)) (AllP_cons (by decide +kernel) (AllP_cons (by decide +kernel) (AllP_cons rfl (AllP_cons rfl (AllP_cons rfl (AllP_cons rfl (AllP_cons (by decide +kernel) (AllP_cons (by decide +kernel) (AllP_cons (by decide +kernel) (AllP_cons (by decide +kernel) (AllP_cons (by decide +kernel) (AllP_cons (by decide +kernel) (AllP_cons (by decide +kernel) (AllP_cons (by decide +kernel) (AllP_cons (by decide +kernel) (AllP_cons (by decide +kernel) (AllP_cons (by decide +kernel) (AllP_cons (by decide +kernel) (AllP_cons (by decide +kernel) (AllP_cons (by decide +kernel) (AllP_cons (by decide +kernel) (AllP_cons (by decide +kernel) (AllP_cons ⟨(byt_small (by decide +kernel)), (byt_small (by decide +kernel))⟩ (AllP_cons ⟨⟨trivial, trivial⟩, ⟨(byt_small (by decide +kernel)), (by decide +kernel)⟩⟩ (AllP_cons ⟨(by decide), (by decide), (by decide)⟩ (AllP_cons (byt_small (by decide +kernel)) (AllP_cons (byt_small (by decide +kernel)) (AllP_nil))))))))))))))))))))))))))))))))))))

theorem works_body (w : World) : Body Try.prog (tabOf tabOV) Try.f25 ⟨w, [], 0, noEnv⟩ (toA []) [] (fun ys _ => ys = [.a (.b true)]) :=
  Body.lens (c := (Try.f25.body.getD .skip)) rfl fun h => works_body0  w

theorem works_pure : PureC Try.prog 25 [] [.a (.b true)] :=
  PureC.of_body tabOkOV Try.func25 rfl rfl fun w => works_body w

def gam42 : Gam := gpure 25 (fun args => match args with | [] => some (none, [.a (.b true)]) | _ => none) gam41
theorem gam42_ok : GamOk Try.prog gam42 := gpure_ok gam41_ok Try.call25 (by
  intro args vc xs h hv
  split at h
  · simp only [Option.some.injEq, Prod.mk.injEq] at h; obtain ⟨rfl, rfl⟩ := h; exact ⟨_, by rfl, works_pure⟩
  · simp at h)

end Go.Proofs.Ytcpoldghkiiggaa.X

/- Primes: Fermat's little theorem, and Pocklington's test. -/
namespace Go.Proofs.Ytcpoldghkiiggaa.X
set_option linter.unusedVariables false

def Prm (p : Nat) : Prop := 2 ≤ p ∧ ∀ d, d ∣ p → d = 1 ∨ d = p

theorem prm_dvd : ∀ n : Nat, 2 ≤ n → ∃ p, Prm p ∧ p ∣ n := by
  intro n
  induction n using Nat.strongRecOn with
  | _ n ih =>
    intro h
    by_cases hp : Prm n
    · exact ⟨n, hp, Nat.dvd_refl n⟩
    · have : ∃ d, d ∣ n ∧ d ≠ 1 ∧ d ≠ n := by
        apply Classical.byContradiction
        intro hn
        exact hp ⟨h, fun d hd => Classical.byContradiction fun hc => hn ⟨d, hd, fun e => hc (.inl e), fun e => hc (.inr e)⟩⟩
      obtain ⟨d, hd, h1, h2⟩ := this
      have hle := Nat.le_of_dvd (by omega) hd
      have h0 : d ≠ 0 := by rintro rfl; have := Nat.eq_zero_of_zero_dvd hd; omega
      obtain ⟨p, hp, hpd⟩ := ih d (by omega) (by omega)
      exact ⟨p, hp, Nat.dvd_trans hpd hd⟩

theorem prm_mul {p a b : Nat} (hp : Prm p) (h : p ∣ a * b) : p ∣ a ∨ p ∣ b := by
  rcases hp.2 (Nat.gcd p a) (Nat.gcd_dvd_left p a) with hg | hg
  · exact .inr ((show Nat.Coprime p a from hg).dvd_of_dvd_mul_left h)
  · exact .inl (hg ▸ Nat.gcd_dvd_right p a)
def chs : Nat → Nat → Nat
  | _, 0 => 1
  | 0, _ + 1 => 0
  | n + 1, k + 1 => chs n k + chs n (k + 1)
theorem chs_0 : ∀ n, chs n 0 = 1
  | 0 => rfl
  | _ + 1 => rfl
theorem chs_s (n k : Nat) : chs (n + 1) (k + 1) = chs n k + chs n (k + 1) := rfl
theorem chs_gt : ∀ n k, n < k → chs n k = 0
  | 0, k + 1, _ => rfl
  | n + 1, k + 1, h => by rw [chs_s, chs_gt n k (by omega), chs_gt n (k + 1) (by omega)]
theorem chs_n : ∀ n, chs n n = 1
  | 0 => rfl
  | n + 1 => by rw [chs_s, chs_n n, chs_gt n (n + 1) (by omega)]
theorem chs_mul : ∀ n k, (k + 1) * chs (n + 1) (k + 1) = (n + 1) * chs n k
  | 0, 0 => rfl
  | 0, k + 1 => by rw [chs_gt 1 (k + 1 + 1) (by omega), chs_gt 0 (k + 1) (by omega), Nat.mul_zero, Nat.mul_zero]
  | n + 1, 0 => by
    have := chs_mul n 0
    rw [chs_0 n] at this
    rw [chs_s (n + 1) 0, chs_0 (n + 1)]
    omega
  | n + 1, k + 1 => by
    have h1 := chs_mul n k
    have h2 := chs_mul n (k + 1)
    rw [chs_s (n + 1) (k + 1)]
    have e : (k + 1 + 1) * (chs (n + 1) (k + 1) + chs (n + 1) (k + 1 + 1)) = (k + 1) * chs (n + 1) (k + 1) + chs (n + 1) (k + 1) + (k + 1 + 1) * chs (n + 1) (k + 1 + 1) := by
      rw [Nat.mul_add, Nat.add_mul (k + 1) 1]; omega
    rw [e, h1, h2, chs_s n k]
    generalize chs n k = u
    generalize chs n (k + 1) = v
    rw [Nat.add_mul (n + 1) 1, Nat.mul_add]; omega
def bsum (n a : Nat) : Nat → Nat
  | 0 => 0
  | m + 1 => bsum n a m + chs n m * a ^ m
theorem bsum_s (n a : Nat) : ∀ m, bsum (n + 1) a (m + 1) = bsum n a (m + 1) + a * bsum n a m
  | 0 => by simp [bsum, chs_0]
  | m + 1 => by
    show bsum (n + 1) a (m + 1) + chs (n + 1) (m + 1) * a ^ (m + 1) = bsum n a (m + 1) + chs n (m + 1) * a ^ (m + 1) + a * (bsum n a m + chs n m * a ^ m)
    rw [bsum_s n a m, chs_s, Nat.add_mul, Nat.mul_add, Nat.pow_succ]
    have : a * (chs n m * a ^ m) = chs n m * (a ^ m * a) := by rw [Nat.mul_left_comm, Nat.mul_comm a]
    omega
theorem bsum_eq (a : Nat) : ∀ n, bsum n a (n + 1) = (a + 1) ^ n
  | 0 => by simp [bsum, chs]
  | n + 1 => by
    rw [bsum_s, Nat.pow_succ, ← bsum_eq a n]
    have : bsum n a (n + 1 + 1) = bsum n a (n + 1) := by
      show bsum n a (n + 1) + chs n (n + 1) * a ^ (n + 1) = _
      rw [chs_gt n (n + 1) (by omega)]; omega
    rw [this, Nat.mul_add, Nat.mul_one, Nat.mul_comm a]; omega
theorem chs_dvd {p k : Nat} (hp : Prm p) (h0 : 0 < k) (h1 : k < p) : p ∣ chs p k := by
  obtain ⟨n, rfl⟩ : ∃ n, p = n + 1 := ⟨p - 1, by omega⟩
  obtain ⟨j, rfl⟩ : ∃ j, k = j + 1 := ⟨k - 1, by omega⟩
  have h := chs_mul n j
  rcases prm_mul hp (show n + 1 ∣ (j + 1) * chs (n + 1) (j + 1) from ⟨_, h⟩) with h | h
  · have := Nat.le_of_dvd (by omega) h; omega
  · exact h
theorem bsum_mod {p : Nat} (hp : Prm p) (a : Nat) : ∀ m, m < p → bsum p a (m + 1) % p = 1 % p
  | 0, _ => by simp [bsum, chs_0]
  | m + 1, h => by
    show (bsum p a (m + 1) + chs p (m + 1) * a ^ (m + 1)) % p = _
    obtain ⟨c, hc⟩ := chs_dvd hp (k := m + 1) (by omega) h
    rw [hc, Nat.mul_assoc, Nat.add_mul_mod_self_left, bsum_mod hp a m (by omega)]
theorem frob {p : Nat} (hp : Prm p) (a : Nat) : (a + 1) ^ p % p = (a ^ p + 1) % p := by
  have h := bsum_eq a p
  have h1 : bsum p a (p + 1) = bsum p a p + chs p p * a ^ p := rfl
  rw [← h, h1, chs_n, Nat.one_mul]
  obtain ⟨n, hn⟩ : ∃ n, p = n + 1 := ⟨p - 1, by have := hp.1; omega⟩
  have h2 := bsum_mod hp a n (by omega)
  rw [← hn] at h2
  rw [Nat.add_mod, h2, ← Nat.add_mod, Nat.add_comm]
theorem flt0 {p : Nat} (hp : Prm p) : ∀ a, a ^ p % p = a % p
  | 0 => by rw [Nat.zero_pow (by have := hp.1; omega)]
  | a + 1 => by rw [frob hp a, Nat.add_mod, flt0 hp a, ← Nat.add_mod]
theorem sub_dvd {p a b : Nat} (h : a % p = b % p) (hab : b ≤ a) : p ∣ a - b := Nat.dvd_of_mod_eq_zero (Nat.sub_mod_eq_zero_of_mod_eq h)
theorem flt {p : Nat} (hp : Prm p) {a : Nat} (h : ¬ p ∣ a) : a ^ (p - 1) % p = 1 := by
  have h1 := flt0 hp a
  have h2 := hp.1
  have ha : 0 < a := by rcases Nat.eq_zero_or_pos a with rfl | h'; exact absurd (Nat.dvd_zero p) h; exact h'
  have e : a ^ p = a * a ^ (p - 1) := by conv => lhs; rw [show p = (p - 1) + 1 by omega, Nat.pow_succ, Nat.mul_comm]
  have hpos : 0 < a ^ (p - 1) := Nat.pow_pos ha
  rw [e] at h1
  have h3 : p ∣ a * a ^ (p - 1) - a := sub_dvd h1 (Nat.le_mul_of_pos_right a hpos)
  have h4 : a * a ^ (p - 1) - a = a * (a ^ (p - 1) - 1) := by rw [Nat.mul_sub, Nat.mul_one]
  rw [h4] at h3
  rcases prm_mul hp h3 with h5 | h5
  · exact absurd h5 h
  · obtain ⟨c, hc⟩ := h5
    have : a ^ (p - 1) = 1 + p * c := by omega
    rw [this, Nat.add_mul_mod_self_left]
    exact Nat.mod_eq_of_lt h2

theorem pow_mod1 {p b m : Nat} (h : b ^ m % p = 1 % p) (k : Nat) : b ^ (m * k) % p = 1 % p := by
  rw [Nat.pow_mul, Nat.pow_mod, h]
  rw [← Nat.pow_mod, Nat.one_pow]
theorem pow_gcd {p b : Nat} (m n : Nat) : b ^ m % p = 1 % p → b ^ n % p = 1 % p → b ^ Nat.gcd m n % p = 1 % p := by
  induction m, n using Nat.gcd.induction with
  | H0 n => intro _ h; rw [Nat.gcd_zero_left]; exact h
  | H1 m n hm ih =>
    intro h1 h2
    rw [Nat.gcd_rec]
    refine ih ?_ h1
    have e : b ^ n = b ^ (m * (n / m)) * b ^ (n % m) := by rw [← Nat.pow_add, Nat.div_add_mod]
    rw [e, Nat.mul_mod, pow_mod1 h1, ← Nat.mul_mod, Nat.one_mul] at h2
    exact h2

/-- what a prime below a candidate must be -/
theorem pock_q {N q r a p : Nat} (hq : Prm q) (hN : N - 1 = q * r) (h1 : a ^ (N - 1) % N = 1 % N) (hg : Nat.gcd (a ^ r % N + (N - 1)) N = 1) (hN0 : 0 < N) (hp : Prm p) (hpN : p ∣ N) : q ∣ p - 1 := by
  have hb : a ^ (N - 1) % p = 1 % p := by
    rw [← Nat.mod_mod_of_dvd _ hpN, h1, Nat.mod_mod_of_dvd _ hpN]
  have hb2 : (a ^ r) ^ q % p = 1 % p := by rw [← Nat.pow_mul, Nat.mul_comm, ← hN]; exact hb
  have hp2 := hp.1
  have hnd : ¬ p ∣ a ^ r := by
    intro hd
    have hq2 := hq.1
    have : p ∣ (a ^ r) ^ q := by
      rw [show q = (q - 1) + 1 by omega, Nat.pow_succ]
      exact Nat.dvd_trans hd (Nat.dvd_mul_left _ _)
    rw [Nat.mod_eq_zero_of_dvd this, Nat.mod_eq_of_lt hp2] at hb2
    exact absurd hb2 (by decide)
  have hf := flt hp hnd
  have hf' : (a ^ r) ^ (p - 1) % p = 1 % p := by rw [hf, Nat.mod_eq_of_lt hp2]
  have hgc := pow_gcd q (p - 1) hb2 hf'
  rcases hq.2 _ (Nat.gcd_dvd_left q (p - 1)) with h | h
  · exfalso
    rw [h, Nat.pow_one] at hgc
    have : p ∣ a ^ r % N + (N - 1) := by
      apply Nat.dvd_of_mod_eq_zero
      rw [Nat.add_mod, Nat.mod_mod_of_dvd _ hpN, hgc, ← Nat.add_mod, Nat.add_comm, Nat.sub_add_cancel hN0]
      exact Nat.mod_eq_zero_of_dvd hpN
    have h3 := Nat.dvd_gcd this hpN
    rw [hg] at h3
    have := Nat.le_of_dvd (by omega) h3
    omega
  · exact h ▸ Nat.gcd_dvd_right q (p - 1)
theorem prm_of_big {N F : Nat} (hN : 2 ≤ N) (hF : N < (F + 1) * (F + 1)) (h : ∀ p, Prm p → p ∣ N → F ∣ p - 1) : Prm N := by
  refine ⟨hN, fun d hd => ?_⟩
  apply Classical.byContradiction
  intro hc
  have big : ∀ d, d ∣ N → d ≠ 1 → F + 1 ≤ d := by
    intro d hd h1
    have hd0 : d ≠ 0 := by rintro rfl; have := Nat.eq_zero_of_zero_dvd hd; omega
    obtain ⟨p, hp, hpd⟩ := prm_dvd d (by omega)
    have := Nat.le_of_dvd (by have := hp.1; omega) (h p hp (Nat.dvd_trans hpd hd))
    have := Nat.le_of_dvd (by omega) hpd
    have := hp.1
    omega
  obtain ⟨e, he⟩ := hd
  have h1 := big d ⟨e, he⟩ (fun h => hc (.inl h))
  have h2 := big e ⟨d, by rw [he, Nat.mul_comm]⟩ (fun h => hc (.inr (by rw [he, h, Nat.mul_one])))
  have := Nat.mul_le_mul h1 h2
  omega
theorem pock1 {N q r a : Nat} (hN2 : 2 ≤ N) (hq : Prm q) (hN : N - 1 = q * r) (h1 : a ^ (N - 1) % N = 1 % N) (hg : Nat.gcd (a ^ r % N + (N - 1)) N = 1) (hF : N < (q + 1) * (q + 1)) : Prm N :=
  prm_of_big hN2 hF fun p hp hpN => pock_q hq hN h1 hg (by omega) hp hpN

/-- powers, reckoned -/
def pwm (N : Nat) : Nat → Nat → Nat → Nat
  | 0, _, _ => 1 % N
  | f + 1, a, e => if e % 2 = 1 then a * pwm N f (a * a % N) (e / 2) % N else pwm N f (a * a % N) (e / 2)
theorem pwm_eq (N : Nat) : ∀ f a e, e < 2 ^ f → pwm N f a e = a ^ e % N
  | 0, a, e, h => by have : e = 0 := by rw [Nat.pow_zero] at h; omega
                     subst this; rfl
  | f + 1, a, e, h => by
    have ih := pwm_eq N f (a * a % N) (e / 2) (by rw [Nat.pow_succ] at h; omega)
    have e2 : (a * a % N) ^ (e / 2) % N = a ^ (2 * (e / 2)) % N := by rw [← Nat.pow_mod, Nat.pow_mul, Nat.pow_two]
    show (if e % 2 = 1 then _ else _) = _
    split
    · rename_i h1
      rw [ih, e2, Nat.mul_mod, Nat.mod_mod, ← Nat.mul_mod]
      rw [Nat.mul_comm a, ← Nat.pow_succ]
      rw [show (2 * (e / 2)).succ = e by omega]
    · rw [ih, e2, show 2 * (e / 2) = e by omega]
def noDiv (n : Nat) : Nat → Nat → Bool
  | 0, d => decide (n < d * d)
  | f + 1, d => decide (n < d * d) || (n % d != 0 && noDiv n f (d + 1))
theorem noDiv_ok {n : Nat} : ∀ f d, noDiv n f d = true → (∀ e, 2 ≤ e → e < d → ¬ e ∣ n) → ∀ e, 2 ≤ e → e * e ≤ n → ¬ e ∣ n
  | 0, d, h, hp, e, h2, hle => by
    have h := of_decide_eq_true h
    refine hp e h2 (Nat.lt_of_not_le fun hc => ?_)
    have := Nat.mul_le_mul hc hc; omega
  | f + 1, d, h, hp, e, h2, hle => by
    simp only [noDiv, Bool.or_eq_true, decide_eq_true_eq, Bool.and_eq_true, bne_iff_ne, ne_eq] at h
    rcases h with h | ⟨h, h'⟩
    · refine hp e h2 (Nat.lt_of_not_le fun hc => ?_)
      have := Nat.mul_le_mul hc hc; omega
    · refine noDiv_ok f (d + 1) h' (fun x hx hx1 => ?_) e h2 hle
      by_cases hxd : x = d
      · subst hxd; exact fun hd => h (Nat.mod_eq_zero_of_dvd hd)
      · exact hp x hx (by omega)
theorem prm_small {n f : Nat} (h2 : 2 ≤ n) (h : noDiv n f 2 = true) : Prm n := by
  have key := noDiv_ok f 2 h (fun e h h' => by omega)
  refine ⟨h2, fun d hd => Classical.byContradiction fun hc => ?_⟩
  obtain ⟨e, he⟩ := hd
  have hd0 : d ≠ 0 := by rintro rfl; omega
  have he0 : e ≠ 0 := by rintro rfl; omega
  have hd1 : d ≠ 1 := fun h => hc (.inl h)
  have he1 : e ≠ 1 := fun h => hc (.inr (by rw [he, h, Nat.mul_one]))
  by_cases hle : d ≤ e
  · exact key d (by omega) (by rw [he]; exact Nat.mul_le_mul_left d hle) ⟨e, he⟩
  · exact key e (by omega) (by rw [he]; exact Nat.mul_le_mul_right e (by omega)) ⟨d, by rw [he, Nat.mul_comm]⟩
/-- a certificate with one prime -/
theorem cert1 {N q r a f : Nat} (hq : Prm q) (hN2 : (decide (2 ≤ N) && (N - 1 == q * r) && decide (N - 1 < 2 ^ f) && (pwm N f a (N - 1) == 1) && (Nat.gcd (pwm N f a r + (N - 1)) N == 1) && decide (N < (q + 1) * (q + 1))) = true) : Prm N := by
  simp only [Bool.and_eq_true, decide_eq_true_eq, beq_iff_eq] at hN2
  obtain ⟨⟨⟨⟨⟨h1, h2⟩, h3⟩, h4⟩, h5⟩, h6⟩ := hN2
  have hr : r < 2 ^ f := by
    have : r ≤ q * r := Nat.le_mul_of_pos_left r (by have := hq.1; omega)
    omega
  rw [pwm_eq N f a _ h3] at h4
  rw [pwm_eq N f a _ hr] at h5
  exact pock1 h1 hq h2 (by rw [h4, Nat.mod_eq_of_lt (by omega)]) h5 h6
theorem prm_cop {p q : Nat} (hp : Prm p) (hq : Prm q) (h : p ≠ q) : Nat.Coprime p q := by
  rcases hp.2 _ (Nat.gcd_dvd_left p q) with hg | hg
  · exact hg
  · exfalso
    have hd : p ∣ q := hg ▸ Nat.gcd_dvd_right p q
    rcases hq.2 p hd with h1 | h1
    · have := hp.1; omega
    · exact h h1
/-- a certificate with two primes -/
theorem cert2 {N q r s t a f : Nat} (hq : Prm q) (hs : Prm s) (hN2 : (decide (2 ≤ N) && (N - 1 == q * r) && decide (N - 1 < 2 ^ f) && (pwm N f a (N - 1) == 1) && (Nat.gcd (pwm N f a r + (N - 1)) N == 1) && decide (N < (q * s + 1) * (q * s + 1)) && (N - 1 == s * t) && (Nat.gcd (pwm N f a t + (N - 1)) N == 1) && (q != s)) = true) : Prm N := by
  simp only [Bool.and_eq_true, decide_eq_true_eq, beq_iff_eq, bne_iff_ne, ne_eq] at hN2
  obtain ⟨⟨⟨⟨⟨⟨⟨⟨h1, h2⟩, h3⟩, h4⟩, h5⟩, h6⟩, h7⟩, h8⟩, h9⟩ := hN2
  have hr : r < 2 ^ f := by
    have : r ≤ q * r := Nat.le_mul_of_pos_left r (by have := hq.1; omega)
    omega
  have ht : t < 2 ^ f := by
    have : t ≤ s * t := Nat.le_mul_of_pos_left t (by have := hs.1; omega)
    omega
  rw [pwm_eq N f a _ h3] at h4
  rw [pwm_eq N f a _ hr] at h5
  rw [pwm_eq N f a _ ht] at h8
  have h4' : a ^ (N - 1) % N = 1 % N := by rw [h4, Nat.mod_eq_of_lt (by omega)]
  exact prm_of_big h1 h6 fun p hp hpN => (prm_cop hq hs h9).mul_dvd_of_dvd_of_dvd (pock_q hq h2 h4' h5 (by omega) hp hpN) (pock_q hs h7 h4' h8 (by omega) hp hpN)
end Go.Proofs.Ytcpoldghkiiggaa.X

/- The order of the group is a prime number. -/
namespace Go.Proofs.Ytcpoldghkiiggaa.X
set_option linter.unusedVariables false
set_option maxRecDepth 100000

theorem prm_s531581 : Prm 531581 := prm_small (f := 732) (by decide) (by decide +kernel)
theorem prm_s1224481 : Prm 1224481 := prm_small (f := 1109) (by decide) (by decide +kernel)
theorem prm_5 : Prm 1257559732178653 := cert2 (q := 531581) (r := 2365697292) (s := 1224481) (t := 1027014492) (a := 2) (f := 51) prm_s531581 prm_s1224481 (by decide +kernel)
theorem prm_4 : Prm 4434155615661930479 := cert1 (q := 1257559732178653) (r := 3526) (a := 2) (f := 62) prm_5 (by decide +kernel)
theorem prm_3 : Prm 172054593956031949258510691 := cert1 (q := 4434155615661930479) (r := 38802110) (a := 2) (f := 88) prm_4 (by decide +kernel)
theorem prm_2 : Prm 19757330305831588566944191468367130476339 := cert1 (q := 172054593956031949258510691) (r := 114831751082918) (a := 2) (f := 134) prm_3 (by decide +kernel)
theorem prm_1 : Prm 276602624281642239937218680557139826668747 := cert1 (q := 19757330305831588566944191468367130476339) (r := 14) (a := 2) (f := 138) prm_2 (by decide +kernel)
theorem prm_0 : Prm 7237005577332262213973186563042994240857116359379907606001950938285454250989 := cert1 (q := 276602624281642239937218680557139826668747) (r := 26163907866482859529727157400808004) (a := 2) (f := 253) prm_1 (by decide +kernel)
theorem LL_toNat : LL.toNat = 7237005577332262213973186563042994240857116359379907606001950938285454250989 := by decide +kernel
theorem prm_L : Prm LL.toNat := by rw [LL_toNat]; exact prm_0
/-- Fermat, for the scalars -/
theorem fermat_L {x : Int} (h0 : 0 ≤ x) (h : x % LL ≠ 0) : x ^ (LL.toNat - 1) % LL = 1 := by
  obtain ⟨n, rfl⟩ := Int.eq_ofNat_of_zero_le h0
  have hL : ((LL.toNat : Nat) : Int) = LL := by decide +kernel
  have hnd : ¬ LL.toNat ∣ n := by
    intro hd
    apply h
    rw [← hL]
    exact Int.emod_eq_zero_of_dvd (Int.ofNat_dvd.2 hd)
  have hf := flt prm_L hnd
  generalize LL.toNat - 1 = e at hf ⊢
  rw [← hL, ← Int.natCast_pow, ← Int.natCast_emod, hf]
  rfl
end Go.Proofs.Ytcpoldghkiiggaa.X

/- Powers, as numbers. -/
namespace Go.Proofs.Ytcpoldghkiiggaa.X
open Go Go.Proofs
set_option linter.unusedVariables false
set_option maxRecDepth 100000

theorem montR (u v : Int) : montV (modL (u * 115792089237316195423570985008687907853269984665640564039457584007913129639936)) (modL (v * 115792089237316195423570985008687907853269984665640564039457584007913129639936)) = modL (u * v * 115792089237316195423570985008687907853269984665640564039457584007913129639936) := by
  have e : montV (modL (u * 115792089237316195423570985008687907853269984665640564039457584007913129639936)) (modL (v * 115792089237316195423570985008687907853269984665640564039457584007913129639936)) = modL ((u * 115792089237316195423570985008687907853269984665640564039457584007913129639936) * (v * 115792089237316195423570985008687907853269984665640564039457584007913129639936) * RI) := by
    show modL (modL _ * modL _ * RI) = _
    generalize (u * 115792089237316195423570985008687907853269984665640564039457584007913129639936) = x
    generalize (v * 115792089237316195423570985008687907853269984665640564039457584007913129639936) = y
    rw [← modL_mul (modL x * modL y), modL_mul x y, modL_mul]
  rw [e]
  have h : (115792089237316195423570985008687907853269984665640564039457584007913129639936 : Int) * RI = 1 + LL * 71336056475231800826343715077027849978041630819377026201054086228062141447707 := by decide +kernel
  have e2 : (u * 115792089237316195423570985008687907853269984665640564039457584007913129639936) * (v * 115792089237316195423570985008687907853269984665640564039457584007913129639936) * RI = u * v * 115792089237316195423570985008687907853269984665640564039457584007913129639936 + LL * (u * v * 115792089237316195423570985008687907853269984665640564039457584007913129639936 * 71336056475231800826343715077027849978041630819377026201054086228062141447707) := by
    have a1 : (u * 115792089237316195423570985008687907853269984665640564039457584007913129639936) * (v * 115792089237316195423570985008687907853269984665640564039457584007913129639936) = u * v * 115792089237316195423570985008687907853269984665640564039457584007913129639936 * 115792089237316195423570985008687907853269984665640564039457584007913129639936 := by
      rw [Int.mul_assoc u, Int.mul_left_comm _ v, ← Int.mul_assoc u v, ← Int.mul_assoc]
    rw [a1, Int.mul_assoc _ _ RI, h, Int.mul_add, Int.mul_one, Int.mul_left_comm]
  rw [e2]
  unfold modL
  rw [Int.add_mul_emod_self_left]

theorem shr64 {x : Int} {s : Nat} (hs : s ≤ 64) : shr .u64 x ((s : Nat) : Int) = x / 2 ^ s := by
  have e2 : shr .u64 x ((s : Nat) : Int) = x.fdiv (2 ^ (min s 64)) := rfl
  rw [e2, Nat.min_eq_left hs, Int.fdiv_eq_ediv_of_nonneg _ (Int.le_of_lt (Int.pow_pos (by omega)))]
theorem bit_and64 (y : Int) : bits2 .and .u64 y 1 = y % 2 := by
  have e : bits2 .and .u64 y 1 = IntKind.u64.wrap (((BitVec.ofInt 64 y &&& BitVec.ofInt 64 1).toNat : Nat) : Int) := rfl
  have t2 : (BitVec.ofInt 64 1).toNat = 2 ^ 1 - 1 := by rfl
  rw [e, BitVec.toNat_and, t2, Nat.and_two_pow_sub_one_eq_mod, BitVec.toNat_ofInt, wrap64]
  show (((y % 18446744073709551616).toNat % 2 ^ 1 : Nat) : Int) % 18446744073709551616 = y % 2
  omega
/-- the bit s of a digit, in the number of the digits -/
theorem bit_of {w r : Int} {s d : Nat} (hs : s < d) : (w + 2 ^ d * r) / 2 ^ s % 2 = w / 2 ^ s % 2 := by
  obtain ⟨c, rfl⟩ : ∃ c, d = s + (c + 1) := ⟨d - s - 1, by omega⟩
  have e : w + 2 ^ (s + (c + 1)) * r = w + 2 ^ s * (2 ^ (c + 1) * r) := by rw [Int.pow_add, Int.mul_assoc]
  rw [e, Int.add_mul_ediv_left _ _ (Int.ne_of_gt (Int.pow_pos (by omega))), Int.pow_succ, Int.mul_comm (2 ^ c), Int.mul_assoc, Int.add_mul_emod_self_left]

theorem bitE_eq {E : List Int} (hE : Wds E) (l : E.length = 4) {k : Nat} (hk : k < 256) : bitE E k = V4 E / 2 ^ (255 - k) % 2 := by
  obtain ⟨a, b, c, d, rfl⟩ := four l
  have ha := hE a (by simp); have hb := hE b (by simp); have hc := hE c (by simp); have hd := hE d (by simp)
  unfold bitE
  rw [(qt hk).1, Int.tdiv_eq_ediv_of_nonneg (by omega), Int.tmod_eq_emod_of_nonneg (by omega)]
  rw [show ((255 : Int) - ((k : Nat) : Int)) / 64 = (((255 - k) / 64 : Nat) : Int) by omega, show ((255 : Int) - ((k : Nat) : Int)) % 64 = (((255 - k) % 64 : Nat) : Int) by omega, Int.toNat_natCast]
  generalize hj : 255 - k = j
  have hjl : j < 256 := by omega
  clear hj hk k
  rw [bit_and64, shr64 (by omega)]
  obtain ⟨i, s, hs, hi, rfl⟩ : ∃ i s, s < 64 ∧ i < 4 ∧ j = 64 * i + s := ⟨j / 64, j % 64, by omega, by omega, by omega⟩
  rw [show (64 * i + s) / 64 = i by omega, show (64 * i + s) % 64 = s by omega, Int.pow_add, ← dd2 _ (Int.le_of_lt (Int.pow_pos (by omega)))]
  match i, hi with
  | 0, _ =>
    have e : V4 [a, b, c, d] / 2 ^ (64 * 0) = a + 2 ^ 64 * (b + 18446744073709551616 * c + 340282366920938463463374607431768211456 * d) := by
      show (a + 18446744073709551616 * b + 340282366920938463463374607431768211456 * c + 6277101735386680763835789423207666416102355444464034512896 * d) / 1 = a + 18446744073709551616 * _
      omega
    rw [e, bit_of hs]; rfl
  | 1, _ =>
    have e : V4 [a, b, c, d] / 2 ^ (64 * 1) = b + 2 ^ 64 * (c + 18446744073709551616 * d) := by
      show (a + 18446744073709551616 * b + 340282366920938463463374607431768211456 * c + 6277101735386680763835789423207666416102355444464034512896 * d) / 18446744073709551616 = b + 18446744073709551616 * _
      omega
    rw [e, bit_of hs]; rfl
  | 2, _ =>
    have e : V4 [a, b, c, d] / 2 ^ (64 * 2) = c + 2 ^ 64 * d := by
      show (a + 18446744073709551616 * b + 340282366920938463463374607431768211456 * c + 6277101735386680763835789423207666416102355444464034512896 * d) / 340282366920938463463374607431768211456 = c + 18446744073709551616 * _
      omega
    rw [e, bit_of hs]; rfl
  | 3, _ =>
    have e : V4 [a, b, c, d] / 2 ^ (64 * 3) = d + 2 ^ 64 * 0 := by
      show (a + 18446744073709551616 * b + 340282366920938463463374607431768211456 * c + 6277101735386680763835789423207666416102355444464034512896 * d) / 6277101735386680763835789423207666416102355444464034512896 = d + 18446744073709551616 * 0
      omega
    rw [e, bit_of hs]; rfl

theorem modL_pow (x : Int) : ∀ n : Nat, modL (modL x ^ n) = modL (x ^ n)
  | 0 => by rw [Int.pow_zero, Int.pow_zero]
  | n + 1 => by rw [Int.pow_succ, Int.pow_succ, ← modL_mul, modL_pow x n, ← modL_mul (x ^ n) x, show modL (modL x) = modL x from Int.emod_emod_of_dvd _ (Int.dvd_refl LL)]

/-- one round of squaring -/
def sqr (x : Int) (n : Nat) : Int := modL (x ^ n * 115792089237316195423570985008687907853269984665640564039457584007913129639936)
theorem sqr_sq (x : Int) (n : Nat) : montV (sqr x n) (sqr x n) = sqr x (2 * n) := by
  unfold sqr; rw [montR, ← Int.pow_add, show 2 * n = n + n by omega]
theorem sqr_mul (x : Int) (n : Nat) : montV (sqr x n) (modL (x * 115792089237316195423570985008687907853269984665640564039457584007913129639936)) = sqr x (n + 1) := by
  unfold sqr; rw [montR, Int.pow_succ]
theorem sqr_V (x : Int) (n : Nat) : V4 (W4 (sqr x n)) = sqr x n := V4_modL _
theorem half_pow (n k : Nat) (hk : k < 256) : n / 2 ^ (256 - (k + 1)) = 2 * (n / 2 ^ (256 - k)) + n / 2 ^ (256 - (k + 1)) % 2 := by
  rw [show 256 - k = (256 - (k + 1)) + 1 by omega, Nat.pow_succ, ← Nat.div_div_eq_div_mul]
  omega
theorem rP_eq {E : List Int} (hE : Wds E) (l : E.length = 4) (x : Int) {n : Nat} (hn : V4 E = ((n : Nat) : Int)) : ∀ k, k ≤ 256 → rP (modL (x * 115792089237316195423570985008687907853269984665640564039457584007913129639936)) (sqr x 0) E k = sqr x (n / 2 ^ (256 - k))
  | 0, _ => by
    have hr := (V4_rng hE l).2
    rw [hn] at hr
    have : n < 2 ^ 256 := by
      have e : (2 : Nat) ^ 256 = 115792089237316195423570985008687907853269984665640564039457584007913129639936 := by decide +kernel
      omega
    rw [Nat.div_eq_of_lt this]; rfl
  | k + 1, hk => by
    have ih := rP_eq hE l x hn k (by omega)
    have hb := bitE_eq hE l (show k < 256 by omega)
    have hb2 : bitE E k = ((n / 2 ^ (256 - (k + 1)) % 2 : Nat) : Int) := by
      rw [hb, hn, show 255 - k = 256 - (k + 1) by omega, Int.natCast_emod, Int.natCast_ediv, Int.natCast_pow]; rfl
    have hp := half_pow n k (by omega)
    by_cases hc : bitE E k = 1
    · rw [rP_a hc, ih, sqr_V, sqr_sq, sqr_V, V4_modL, sqr_mul]
      rw [hb2] at hc
      rw [hp]; congr 2; omega
    · rw [rP_b hc, ih, sqr_V, sqr_sq]
      rw [hb2] at hc
      rw [hp]; congr 1; omega

theorem montI (x : Int) : montV x 1627715501170711445284395025044413883736156588369414752970002579683115011841 = modL (x * 115792089237316195423570985008687907853269984665640564039457584007913129639936) := by
  have h : (1627715501170711445284395025044413883736156588369414752970002579683115011841 : Int) * RI = 115792089237316195423570985008687907853269984665640564039457584007913129639936 + LL * (1627715501170711445284395025044413883736156588369414752970002579683115011841 * RI / LL - 115792089237316195423570985008687907853269984665640564039457584007913129639936 / LL) := by decide +kernel
  show x * _ * RI % LL = _
  rw [Int.mul_assoc, h, Int.mul_add, Int.mul_left_comm, Int.add_mul_emod_self_left]; rfl
theorem mont1 (x : Int) : montV (modL (x * 115792089237316195423570985008687907853269984665640564039457584007913129639936)) 1 = modL x := by
  have h : (115792089237316195423570985008687907853269984665640564039457584007913129639936 : Int) * RI = 1 + LL * 71336056475231800826343715077027849978041630819377026201054086228062141447707 := by decide +kernel
  show modL (modL _ * 1 * RI) = _
  rw [Int.mul_one, ← modL_mul, show ∀ y, modL (modL y) = modL y from fun y => Int.emod_emod_of_dvd _ (Int.dvd_refl LL), modL_mul, Int.mul_assoc, h, Int.mul_add, Int.mul_one, Int.mul_left_comm]
  unfold modL
  rw [Int.add_mul_emod_self_left]
theorem V4_one : V4 [1, 0, 0, 0] = 1 := by decide +kernel
theorem pow_num {E : List Int} (hE : Wds E) (l : E.length = 4) {x : Int} (h0 : 0 ≤ x) (h1 : x < LL) {n : Nat} (hn : V4 E = ((n : Nat) : Int)) : powA (W4 x) E = W4 (modL (x ^ n)) := by
  unfold powA
  rw [V4_radx, V4_one, montI, montI, V4_W4 h0 (by unfold LL at h1; omega)]
  have e : modL (1 * 115792089237316195423570985008687907853269984665640564039457584007913129639936) = sqr x 0 := by unfold sqr; rw [Int.pow_zero]
  rw [e, rP_eq hE l x hn 256 (Nat.le_refl _), sqr_V, Nat.sub_self, Nat.pow_zero, Nat.div_one]
  unfold sqr
  rw [mont1]
def eInv : Nat := LL.toNat - 2
theorem V4_inv : V4 (W4 (difR (V4 [6346243789798364141, 1503914060200516822, 0, 1152921504606846976]) (V4 [2, 0, 0, 0]))) = ((eInv : Nat) : Int) := by decide +kernel
theorem invB_num (a : List Int) : invB a = B32 (modL (BV a ^ eInv)) := by
  unfold invB
  rw [pow_num (wds_W4 _) rfl (modL_rng (BV a)).1 (modL_rng (BV a)).2.1 V4_inv, V4_modL, modL_pow]
theorem inv_zero {a : List Int} : W4 (modL (BV a)) = [0, 0, 0, 0] ↔ modL (BV a) = 0 := W4_zero (modL_rng _).1 (modL_rng _).2.2
/-- the inverse is one -/
theorem modL_addr_mul (x y : Int) : modL (x * modL y) = modL (x * y) := by
  rw [← modL_mul, show modL (modL y) = modL y from Int.emod_emod_of_dvd _ (Int.dvd_refl LL), modL_mul]
theorem inv_mul {x : Int} (h : modL x ≠ 0) : modL (x * modL (x ^ eInv)) = 1 := by
  rw [modL_addr_mul]
  have hp := fermat_L (modL_rng x).1 (show modL x % LL ≠ 0 by rw [show modL x % LL = modL x from Int.emod_emod_of_dvd _ (Int.dvd_refl LL)]; exact h)
  have e : LL.toNat - 1 = eInv + 1 := by decide +kernel
  rw [e] at hp
  rw [← Int.mul_comm, ← Int.pow_succ, ← modL_pow]
  exact hp
end Go.Proofs.Ytcpoldghkiiggaa.X

/- The scalars' functions, by numbers. -/
namespace Go.Proofs.Ytcpoldghkiiggaa.X
open Go Go.Proofs
set_option linter.unusedVariables false
set_option maxRecDepth 100000

theorem addP_num (a b : List Int) (h0 : Byt a) (h1 : Byt b) (w : World) : Body Try.prog (tabOf tabNT) Try.f26 ⟨w, [], 0, noEnv⟩ (toA [.g [.ints .u8 (32 : Nat) a], .g [.ints .u8 (32 : Nat) b]]) [] (fun ys _ => ys = [.g [.ints .u8 (32 : Nat) (B32 (modL (BV a + BV b)))]]) := addP_eq a b ▸ addP_body a b h0 h1 w
theorem negP_num (a : List Int) (h0 : Byt a) (w : World) : Body Try.prog (tabOf tabNT) Try.f30 ⟨w, [], 0, noEnv⟩ (toA [.g [.ints .u8 (32 : Nat) a]]) [] (fun ys _ => ys = [.g [.ints .u8 (32 : Nat) (B32 (modL (negI (BV a))))]]) := negP_eq a ▸ negP_body a h0 w
theorem mulP_num (a b : List Int) (h0 : Byt a) (h1 : Byt b) (w : World) : Body Try.prog (tabOf tabNT) Try.f32 ⟨w, [], 0, noEnv⟩ (toA [.g [.ints .u8 (32 : Nat) a], .g [.ints .u8 (32 : Nat) b]]) [] (fun ys _ => ys = [.g [.ints .u8 (32 : Nat) (B32 (modL (BV a * BV b)))]]) := mulP_eq a b ▸ mulP_body a b h0 h1 w
theorem iszP_eq (a : List Int) : iszP a = decide (modL (BV a) = 0) := by
  unfold iszP; exact decide_eq_decide.2 inv_zero
theorem iszP_num (a : List Int) (h0 : Byt a) (w : World) : Body Try.prog (tabOf tabNT) Try.f36 ⟨w, [], 0, noEnv⟩ (toA [.g [.ints .u8 (32 : Nat) a]]) [] (fun ys _ => ys = [.a (.b (modL (BV a) == 0))]) := by
  rw [show (modL (BV a) == 0) = iszP a by rw [iszP_eq]; rfl]; exact iszP_body a h0 w
theorem canP_eq {a : List Int} (h : Byt a) : canP a = decide (BV a < LL) := by
  have r := BV_rng h
  unfold canP lessC
  rw [V4_W4 r.1 r.2, V4_ord]
  by_cases hc : BV a < LL <;> simp [hc]
theorem canP_num (a : List Int) (h0 : Byt a) (w : World) : Body Try.prog (tabOf tabNT) Try.f20 ⟨w, [], 0, noEnv⟩ (toA [.g [.ints .u8 (32 : Nat) a]]) [] (fun ys _ => ys = [.a (.b (decide (BV a < LL)))]) := by
  rw [← canP_eq h0]; exact canP_body a h0 w
def invN (x : Int) : Int := if modL x = 0 then 0 else modL (x ^ eInv)
def invE1 (x : Int) : Int := if modL x = 0 then 9 else 0
theorem invL_num (a : List Int) : invL a = B32 (invN (BV a)) := by
  unfold invL invN
  by_cases h : modL (BV a) = 0
  · rw [if_pos (inv_zero.2 h), if_pos h, B32_0]
  · rw [if_neg (fun hc => h (inv_zero.1 hc)), if_neg h, invB_num]
theorem invE_num (a : List Int) : invE a = invE1 (BV a) := by
  unfold invE invE1
  by_cases h : modL (BV a) = 0
  · rw [if_pos (inv_zero.2 h), if_pos h]
  · rw [if_neg (fun hc => h (inv_zero.1 hc)), if_neg h]
theorem inv_num (a : List Int) (h0 : Byt a) (w : World) : Body Try.prog (tabOf tabOS) Try.f40 ⟨w, [], 0, noEnv⟩ (toA [.g [.ints .u8 (32 : Nat) a]]) [] (fun ys _ => ys = [.g [.ints .u8 (32 : Nat) (B32 (invN (BV a)))], .a (.i .i64 (invE1 (BV a)))]) :=
  invL_num a ▸ invE_num a ▸ inv_can a h0 w
theorem invN_rng (x : Int) : 0 ≤ invN x ∧ invN x < LL ∧ invN x < 115792089237316195423570985008687907853269984665640564039457584007913129639936 := by
  unfold invN
  split
  · unfold LL; omega
  · exact modL_rng _
theorem invN_mul {x : Int} (h : modL x ≠ 0) : modL (x * invN x) = 1 := by
  unfold invN; rw [if_neg h]; exact inv_mul h
theorem fromP_num (n : Int) (h0 : 0 ≤ n) (h1 : n < 18446744073709551616) (w : World) : Body Try.prog (tabOf tabNT) Try.f22 ⟨w, [], 0, noEnv⟩ (toA [.a (.i .u64 n)]) [] (fun ys _ => ys = [.g [.ints .u8 (32 : Nat) (B32 n)]]) := by
  have e : fromP n = B32 n := by
    show B32 (V4 [n, 0, 0, 0]) = B32 n
    congr 1
    show n + 18446744073709551616 * 0 + 340282366920938463463374607431768211456 * 0 + 6277101735386680763835789423207666416102355444464034512896 * 0 = n
    omega
  exact e ▸ fromP_body n h0 h1 w
/-! the reference -/
theorem iszR_num (a : List Int) (h0 : Byt a) (w : World) : Body Try.prog (tabOf tabOD) Try.f37 ⟨w, [], 0, noEnv⟩ (toA [.g [.ints .u8 (32 : Nat) a]]) [] (fun ys _ => ys = [.a (.b (modL (BV a) == 0))]) := by
  rw [show (modL (BV a) == 0) = iszR a by rw [← isz_eq, iszP_eq]; rfl]; exact iszR_body a h0 w
end Go.Proofs.Ytcpoldghkiiggaa.X

/- Texts of this session, put together (part 3). -/
/- Printed by a tool of this session. -/
namespace Go.Proofs.Ytcpoldghkiiggaa.X
open Go Go.Proofs
set_option linter.unusedVariables false
set_option linter.unusedSimpArgs false
set_option maxRecDepth 100000
theorem addP_num_pure (a : List Int) (b : List Int) (h0 : (Byt a)) (h1 : (Byt b)) : PureC Try.prog 26 [.g [.ints .u8 (32 : Nat) a], .g [.ints .u8 (32 : Nat) b]] [.g [.ints .u8 (32 : Nat) (B32 (modL ((BV a) + (BV b))))]] :=
  PureC.of_body tabOkNT Try.func26 rfl rfl fun w => addP_num a b h0 h1 w

def gam43 : Gam := gpure 26 (fun args => match args with | [.o (.g [.ints .u8 (32 : Nat) a]), .o (.g [.ints .u8 (32 : Nat) b])] => some (some ((Byt a) ∧ (Byt b)), [.g [.ints .u8 (32 : Nat) (B32 (modL ((BV a) + (BV b))))]]) | _ => none) gam42
theorem gam43_ok : GamOk Try.prog gam43 := gpure_ok gam42_ok Try.call26 (by
  intro args vc xs h hv
  split at h
  · simp only [Option.some.injEq, Prod.mk.injEq] at h; obtain ⟨rfl, rfl⟩ := h; exact ⟨_, by rfl, addP_num_pure _ _ hv.1 hv.2⟩
  · simp at h)

theorem negP_num_pure (a : List Int) (h0 : (Byt a)) : PureC Try.prog 30 [.g [.ints .u8 (32 : Nat) a]] [.g [.ints .u8 (32 : Nat) (B32 (modL (negI (BV a))))]] :=
  PureC.of_body tabOkNT Try.func30 rfl rfl fun w => negP_num a h0 w

def gam45 : Gam := gpure 30 (fun args => match args with | [.o (.g [.ints .u8 (32 : Nat) a])] => some (some ((Byt a)), [.g [.ints .u8 (32 : Nat) (B32 (modL (negI (BV a))))]]) | _ => none) gam43
theorem gam45_ok : GamOk Try.prog gam45 := gpure_ok gam43_ok Try.call30 (by
  intro args vc xs h hv
  split at h
  · simp only [Option.some.injEq, Prod.mk.injEq] at h; obtain ⟨rfl, rfl⟩ := h; exact ⟨_, by rfl, negP_num_pure _ hv⟩
  · simp at h)

theorem mulP_num_pure (a : List Int) (b : List Int) (h0 : (Byt a)) (h1 : (Byt b)) : PureC Try.prog 32 [.g [.ints .u8 (32 : Nat) a], .g [.ints .u8 (32 : Nat) b]] [.g [.ints .u8 (32 : Nat) (B32 (modL ((BV a) * (BV b))))]] :=
  PureC.of_body tabOkNT Try.func32 rfl rfl fun w => mulP_num a b h0 h1 w

def gam46 : Gam := gpure 32 (fun args => match args with | [.o (.g [.ints .u8 (32 : Nat) a]), .o (.g [.ints .u8 (32 : Nat) b])] => some (some ((Byt a) ∧ (Byt b)), [.g [.ints .u8 (32 : Nat) (B32 (modL ((BV a) * (BV b))))]]) | _ => none) gam45
theorem gam46_ok : GamOk Try.prog gam46 := gpure_ok gam45_ok Try.call32 (by
  intro args vc xs h hv
  split at h
  · simp only [Option.some.injEq, Prod.mk.injEq] at h; obtain ⟨rfl, rfl⟩ := h; exact ⟨_, by rfl, mulP_num_pure _ _ hv.1 hv.2⟩
  · simp at h)

theorem iszP_num_pure (a : List Int) (h0 : (Byt a)) : PureC Try.prog 36 [.g [.ints .u8 (32 : Nat) a]] [.a (.b ((modL (BV a)) == (0 : Int)))] :=
  PureC.of_body tabOkNT Try.func36 rfl rfl fun w => iszP_num a h0 w

def gam48 : Gam := gpure 36 (fun args => match args with | [.o (.g [.ints .u8 (32 : Nat) a])] => some (some ((Byt a)), [.a (.b ((modL (BV a)) == (0 : Int)))]) | _ => none) gam46
theorem gam48_ok : GamOk Try.prog gam48 := gpure_ok gam46_ok Try.call36 (by
  intro args vc xs h hv
  split at h
  · simp only [Option.some.injEq, Prod.mk.injEq] at h; obtain ⟨rfl, rfl⟩ := h; exact ⟨_, by rfl, iszP_num_pure _ hv⟩
  · simp at h)

theorem canP_num_pure (a : List Int) (h0 : (Byt a)) : PureC Try.prog 20 [.g [.ints .u8 (32 : Nat) a]] [.a (.b (decide ((BV a) < (LL))))] :=
  PureC.of_body tabOkNT Try.func20 rfl rfl fun w => canP_num a h0 w

def gam49 : Gam := gpure 20 (fun args => match args with | [.o (.g [.ints .u8 (32 : Nat) a])] => some (some ((Byt a)), [.a (.b (decide ((BV a) < (LL))))]) | _ => none) gam48
theorem gam49_ok : GamOk Try.prog gam49 := gpure_ok gam48_ok Try.call20 (by
  intro args vc xs h hv
  split at h
  · simp only [Option.some.injEq, Prod.mk.injEq] at h; obtain ⟨rfl, rfl⟩ := h; exact ⟨_, by rfl, canP_num_pure _ hv⟩
  · simp at h)

theorem fromP_num_pure (n : Int) (h0 : ((0 : Int) ≤ n)) (h1 : (n < (18446744073709551616 : Int))) : PureC Try.prog 22 [.a (.i .u64 n)] [.g [.ints .u8 (32 : Nat) (B32 n)]] :=
  PureC.of_body tabOkNT Try.func22 rfl rfl fun w => fromP_num n h0 h1 w

def gam50 : Gam := gpure 22 (fun args => match args with | [.o (.a (.i .u64 n))] => some (some (((0 : Int) ≤ n) ∧ (n < (18446744073709551616 : Int))), [.g [.ints .u8 (32 : Nat) (B32 n)]]) | _ => none) gam49
theorem gam50_ok : GamOk Try.prog gam50 := gpure_ok gam49_ok Try.call22 (by
  intro args vc xs h hv
  split at h
  · simp only [Option.some.injEq, Prod.mk.injEq] at h; obtain ⟨rfl, rfl⟩ := h; exact ⟨_, by rfl, fromP_num_pure _ hv.1 hv.2⟩
  · simp at h)

theorem inv_num_pure (a : List Int) (h0 : (Byt a)) : PureC Try.prog 40 [.g [.ints .u8 (32 : Nat) a]] [.g [.ints .u8 (32 : Nat) (B32 (invN (BV a)))], .a (.i .i64 (invE1 (BV a)))] :=
  PureC.of_body tabOkOS Try.func40 rfl rfl fun w => inv_num a h0 w

def gam51 : Gam := gpure 40 (fun args => match args with | [.o (.g [.ints .u8 (32 : Nat) a])] => some (some ((Byt a)), [.g [.ints .u8 (32 : Nat) (B32 (invN (BV a)))], .a (.i .i64 (invE1 (BV a)))]) | _ => none) gam50
theorem gam51_ok : GamOk Try.prog gam51 := gpure_ok gam50_ok Try.call40 (by
  intro args vc xs h hv
  split at h
  · simp only [Option.some.injEq, Prod.mk.injEq] at h; obtain ⟨rfl, rfl⟩ := h; exact ⟨_, by rfl, inv_num_pure _ hv⟩
  · simp at h)

theorem iszR_num_pure (a : List Int) (h0 : (Byt a)) : PureC Try.prog 37 [.g [.ints .u8 (32 : Nat) a]] [.a (.b ((modL (BV a)) == (0 : Int)))] :=
  PureC.of_body tabOkOD Try.func37 rfl rfl fun w => iszR_num a h0 w

def gam55 : Gam := gpure 37 (fun args => match args with | [.o (.g [.ints .u8 (32 : Nat) a])] => some (some ((Byt a)), [.a (.b ((modL (BV a)) == (0 : Int)))]) | _ => none) gam51
theorem gam55_ok : GamOk Try.prog gam55 := gpure_ok gam51_ok Try.call37 (by
  intro args vc xs h hv
  split at h
  · simp only [Option.some.injEq, Prod.mk.injEq] at h; obtain ⟨rfl, rfl⟩ := h; exact ⟨_, by rfl, iszR_num_pure _ hv⟩
  · simp at h)

end Go.Proofs.Ytcpoldghkiiggaa.X

/- Sums and products modulo the order: what the laws of a field come down to. -/
namespace Go.Proofs.Ytcpoldghkiiggaa.X
open Go Go.Proofs
set_option linter.unusedVariables false
set_option maxRecDepth 100000

theorem not_dec {x y : List Int} (h : x = y) : (!(decide (x = y))) = false := by rw [decide_eq_true h]; rfl
theorem modL_modL (x : Int) : modL (modL x) = modL x := Int.emod_emod_of_dvd _ (Int.dvd_refl LL)
theorem modL_mulr (x y : Int) : modL (x * modL y) = modL (x * y) := by rw [← modL_mul, modL_modL, modL_mul]
theorem modL_mull (x y : Int) : modL (modL x * y) = modL (x * y) := by rw [← modL_mul, modL_modL, modL_mul]
theorem modL_small {x : Int} (h0 : 0 ≤ x) (h1 : x < LL) : modL x = x := Int.emod_eq_of_lt h0 h1
end Go.Proofs.Ytcpoldghkiiggaa.X

/- Bytes as a number of any length; its bits; powers by its bits. -/
namespace Go.Proofs.Ytcpoldghkiiggaa.X
open Go Go.Proofs
set_option linter.unusedVariables false
set_option maxRecDepth 100000

/-- the number of bytes, the lowest first -/
def nb : List Int → Nat
  | [] => 0
  | x :: l => x.toNat + 256 * nb l
theorem nb_lt {l : List Int} (h : Byt l) : nb l < 256 ^ l.length := by
  induction l with
  | nil => exact Nat.one_pos
  | cons x l ih =>
    have hx := h x (List.mem_cons_self ..)
    have := ih fun y hy => h y (List.mem_cons_of_mem _ hy)
    show x.toNat + 256 * nb l < 256 ^ (l.length + 1)
    rw [Nat.pow_succ]; omega
theorem nb_div : ∀ (i : Nat) {l : List Int}, Byt l → nb l / 256 ^ i = nb (l.drop i)
  | 0, l, _ => by rw [Nat.pow_zero, Nat.div_one]; rfl
  | i + 1, [], _ => by show 0 / _ = 0; exact Nat.zero_div _
  | i + 1, x :: l, h => by
    have hx := h x (List.mem_cons_self ..)
    show (x.toNat + 256 * nb l) / 256 ^ (i + 1) = nb (l.drop i)
    rw [Nat.pow_succ', ← Nat.div_div_eq_div_mul, show (x.toNat + 256 * nb l) / 256 = nb l by omega]
    exact nb_div i fun y hy => h y (List.mem_cons_of_mem _ hy)
theorem nb_drop {l : List Int} {i : Nat} (hi : i < l.length) : nb (l.drop i) = (List.getD l i 0).toNat + 256 * nb (l.drop (i + 1)) := by
  rw [List.drop_eq_getElem_cons hi, List.getD_eq_getElem?_getD, List.getElem?_eq_getElem hi]; rfl
theorem bit_ofN {w r s d : Nat} (hs : s < d) : (w + 2 ^ d * r) / 2 ^ s % 2 = w / 2 ^ s % 2 := by
  obtain ⟨c, rfl⟩ : ∃ c, d = s + (c + 1) := ⟨d - s - 1, by omega⟩
  have e : w + 2 ^ (s + (c + 1)) * r = w + 2 ^ s * (2 ^ (c + 1) * r) := by rw [Nat.pow_add, Nat.mul_assoc]
  rw [e, Nat.add_mul_div_left _ _ (Nat.pow_pos (by omega)), Nat.pow_succ, Nat.mul_comm (2 ^ c), Nat.mul_assoc, Nat.add_mul_mod_self_left]
theorem nb_bit {l : List Int} (h : Byt l) {i s : Nat} (hi : i < l.length) (hs : s < 8) : nb l / 2 ^ (8 * i + s) % 2 = (List.getD l i 0).toNat / 2 ^ s % 2 := by
  rw [Nat.pow_add, ← Nat.div_div_eq_div_mul, Nat.pow_mul, show (2 : Nat) ^ 8 = 256 from rfl, nb_div i h, nb_drop hi]
  exact bit_ofN (d := 8) hs

theorem shr8n {x : Int} {s : Nat} (hs : s ≤ 8) : shr .u8 x ((s : Nat) : Int) = x / 2 ^ s := by
  have e2 : shr .u8 x ((s : Nat) : Int) = x.fdiv (2 ^ (min s 8)) := rfl
  rw [e2, Nat.min_eq_left hs, Int.fdiv_eq_ediv_of_nonneg _ (Int.le_of_lt (Int.pow_pos (by omega)))]
theorem bit_and8 (y : Int) : bits2 .and .u8 y 1 = y % 2 := by
  have e : bits2 .and .u8 y 1 = IntKind.u8.wrap (((BitVec.ofInt 8 y &&& BitVec.ofInt 8 1).toNat : Nat) : Int) := rfl
  have t2 : (BitVec.ofInt 8 1).toNat = 2 ^ 1 - 1 := by rfl
  rw [e, BitVec.toNat_and, t2, Nat.and_two_pow_sub_one_eq_mod, BitVec.toNat_ofInt, wrap8]
  show (((y % 256).toNat % 2 ^ 1 : Nat) : Int) % 256 = y % 2
  omega
theorem byt_bit {l : List Int} (h : Byt l) {i s : Nat} (hi : i < l.length) (hs : s < 8) : bits2 .and .u8 (shr .u8 (List.getD l i 0) ((s : Nat) : Int)) 1 = ((nb l / 2 ^ (8 * i + s) % 2 : Nat) : Int) := by
  have hx := byt_get h i
  rw [bit_and8, shr8n (by omega), nb_bit h hi hs, Int.natCast_emod, Int.natCast_ediv, Int.natCast_pow, Int.toNat_of_nonneg hx.1]; rfl

theorem half_nb (m n k : Nat) (hk : k < n) : m / 2 ^ (n - (k + 1)) = 2 * (m / 2 ^ (n - k)) + m / 2 ^ (n - (k + 1)) % 2 := by
  rw [show n - k = (n - (k + 1)) + 1 by omega, Nat.pow_succ, ← Nat.div_div_eq_div_mul]
  omega
theorem nb_top {e : List Int} (he : Byt e) {n : Nat} (l : e.length = n) : nb e / 2 ^ (8 * n) = 0 := by
  apply Nat.div_eq_of_lt
  have := nb_lt he
  rw [l] at this
  rwa [Nat.pow_mul]
/-! the reference -/
def bitR (e : List Int) (n t k : Nat) : Int := bits2 .and .u8 (shr .u8 (List.getD e (Int.toNat ((((n : Nat) : Int) - (1 : Int)) - ((t : Nat) : Int))) 0) (IntKind.u64.wrap ((7 : Int) - ((k : Nat) : Int)))) (1 : Int)
def pwR (a e : List Int) (n t k : Nat) : Int := modL (BV a ^ (nb e / 2 ^ (8 * n - (8 * t + k))))
theorem bitR_eq {e : List Int} (he : Byt e) {n t k : Nat} (l : e.length = n) (hn : n ≤ 140737488351232) (ht : t < n) (hk : k < 8) : bitR e n t k = ((nb e / 2 ^ (8 * n - (8 * t + (k + 1))) % 2 : Nat) : Int) := by
  unfold bitR
  rw [show Int.toNat ((((n : Nat) : Int) - (1 : Int)) - ((t : Nat) : Int)) = n - 1 - t by omega, show IntKind.u64.wrap ((7 : Int) - ((k : Nat) : Int)) = ((7 - k : Nat) : Int) by rw [wrap64]; omega, byt_bit he (by omega) (by omega)]
  rw [show 8 * (n - 1 - t) + (7 - k) = 8 * n - (8 * t + (k + 1)) by omega]
theorem pwR_a {a e : List Int} (he : Byt e) {n t k : Nat} (l : e.length = n) (hn : n ≤ 140737488351232) (ht : t < n) (hk : k < 8) (h : bitR e n t k = 1) : pwR a e n t (k + 1) = modL (V8 (W8 (modL (V8 (W8 (pwR a e n t k)) * V8 (W8 (pwR a e n t k))))) * V8 (W8 (modL (BV a)))) := by
  rw [bitR_eq he l hn ht hk] at h
  unfold pwR
  simp only [V8_modL, modL_mull, modL_mulr]
  rw [← Int.pow_add, ← Int.pow_succ]
  congr 2
  have := half_nb (nb e) (8 * n) (8 * t + k) (by omega)
  rw [show 8 * n - (8 * t + (k + 1)) = 8 * n - (8 * t + k + 1) by omega] at *
  omega
theorem pwR_b {a e : List Int} (he : Byt e) {n t k : Nat} (l : e.length = n) (hn : n ≤ 140737488351232) (ht : t < n) (hk : k < 8) (h : ¬ bitR e n t k = 1) : pwR a e n t (k + 1) = modL (V8 (W8 (pwR a e n t k)) * V8 (W8 (pwR a e n t k))) := by
  rw [bitR_eq he l hn ht hk] at h
  unfold pwR
  rw [V8_modL, modL_mul, ← Int.pow_add]
  congr 2
  have := half_nb (nb e) (8 * n) (8 * t + k) (by omega)
  rw [show 8 * n - (8 * t + (k + 1)) = 8 * n - (8 * t + k + 1) by omega] at *
  omega
theorem pwR_0 {a e : List Int} (he : Byt e) {n : Nat} (l : e.length = n) : W8 (pwR a e n 0 0) = [1, 0, 0, 0, 0, 0, 0, 0] := by
  unfold pwR
  rw [show 8 * n - (8 * 0 + 0) = 8 * n by omega, nb_top he l, Int.pow_zero]
  decide +kernel
theorem pwR_8 (a e : List Int) (n t : Nat) : pwR a e n t 8 = pwR a e n (t + 1) 0 := by
  unfold pwR
  rw [show 8 * t + 8 = 8 * (t + 1) + 0 by omega]
theorem pwR_fin (a e : List Int) (n : Nat) : V8 (W8 (pwR a e n n 0)) = modL (BV a ^ nb e) := by
  unfold pwR
  rw [show 8 * n - (8 * n + 0) = 0 by omega, Nat.pow_zero, Nat.div_one, V8_modL]
/-! the number of 32 bytes -/
end Go.Proofs.Ytcpoldghkiiggaa.X

/- Power of the program, as a number. -/
namespace Go.Proofs.Ytcpoldghkiiggaa.X
open Go Go.Proofs
set_option linter.unusedVariables false
set_option maxRecDepth 100000

def powV (a e : List Int) : Int := modL (BV a ^ nb e)
end Go.Proofs.Ytcpoldghkiiggaa.X

/- Printed by a tool of this session. -/
namespace Go.Proofs.Ytcpoldghkiiggaa.X
open Go Go.Proofs
set_option linter.unusedVariables false
set_option linter.unusedSimpArgs false
set_option maxRecDepth 100000
theorem teQH_3 : TEOk Try.prog 3 ⟨.int .i64, 1, 8, [.i .i64 (0 : Int)], false⟩ :=
  TEOk.of Try.underlying3 (i := Try.t3) (by kernel_rfl) rfl rfl rfl (by kernel_rfl) (fun h => by cases h) (by kernel_rfl)
theorem teQH_5 : TEOk Try.prog 5 ⟨.int .u8, 1, 1, [.i .u8 (0 : Int)], false⟩ :=
  TEOk.of Try.underlying5 (i := Try.t5) (by kernel_rfl) rfl rfl rfl (by kernel_rfl) (fun h => by cases h) (by kernel_rfl)
theorem teQH_22 : TEOk Try.prog 22 ⟨.slice 5, 1, 24, [.raw (.slice none 0 0)], false⟩ :=
  TEOk.of Try.underlying22 (i := Try.t22) (by kernel_rfl) rfl rfl rfl (by kernel_rfl) (fun h => by cases h) (by kernel_rfl)
theorem teQH_24 : TEOk Try.prog 24 ⟨.array 32 5, 32, 32, [.ints .u8 (32 : Nat) ([0, 0, 0, 0, 0, 0, 0, 0, 0, 0, 0, 0, 0, 0, 0, 0, 0, 0, 0, 0, 0, 0, 0, 0, 0, 0, 0, 0, 0, 0, 0, 0] : List Int)], true⟩ :=
  TEOk.of Try.underlying24 (i := Try.t24) (by kernel_rfl) rfl rfl rfl (by kernel_rfl) (fun _ => Try.eqGuardType24) (by kernel_rfl)
theorem teQH_62 : TEOk Try.prog 62 ⟨.int .u64, 1, 8, [.i .u64 (0 : Int)], false⟩ :=
  TEOk.of Try.underlying62 (i := Try.t62) (by kernel_rfl) rfl rfl rfl (by kernel_rfl) (fun h => by cases h) (by kernel_rfl)
theorem teQH_109 : TEOk Try.prog 109 ⟨.int .u32, 1, 4, [.i .u32 (0 : Int)], false⟩ :=
  TEOk.of Try.underlying109 (i := Try.t109) (by kernel_rfl) rfl rfl rfl (by kernel_rfl) (fun h => by cases h) (by kernel_rfl)
theorem teQH_111 : TEOk Try.prog 111 ⟨.array 8 109, 8, 32, [.ints .u32 (8 : Nat) ([0, 0, 0, 0, 0, 0, 0, 0] : List Int)], true⟩ :=
  TEOk.of Try.underlying111 (i := Try.t111) (by kernel_rfl) rfl rfl rfl (by kernel_rfl) (fun _ => Try.eqGuardType111) (by kernel_rfl)
noncomputable def tabQH : List (Nat × TE) := [(3, ⟨.int .i64, 1, 8, [.i .i64 (0 : Int)], false⟩), (5, ⟨.int .u8, 1, 1, [.i .u8 (0 : Int)], false⟩), (22, ⟨.slice 5, 1, 24, [.raw (.slice none 0 0)], false⟩), (24, ⟨.array 32 5, 32, 32, [.ints .u8 (32 : Nat) ([0, 0, 0, 0, 0, 0, 0, 0, 0, 0, 0, 0, 0, 0, 0, 0, 0, 0, 0, 0, 0, 0, 0, 0, 0, 0, 0, 0, 0, 0, 0, 0] : List Int)], true⟩), (62, ⟨.int .u64, 1, 8, [.i .u64 (0 : Int)], false⟩), (109, ⟨.int .u32, 1, 4, [.i .u32 (0 : Int)], false⟩), (111, ⟨.array 8 109, 8, 32, [.ints .u32 (8 : Nat) ([0, 0, 0, 0, 0, 0, 0, 0] : List Int)], true⟩)]
theorem tabOkQH : TabOk Try.prog (tabOf tabQH) := (tabOf_cons teQH_3 (tabOf_cons teQH_5 (tabOf_cons teQH_22 (tabOf_cons teQH_24 (tabOf_cons teQH_62 (tabOf_cons teQH_109 (tabOf_cons teQH_111 tabOf_nil)))))))

def prO_mk (a : List Int) (n : Nat) (nm : Nat) (e : List Int) (cap0 : Nat) (kt : Nat) (skt : Unit) : St := ⟨sparse 40 [(0, .o (.g [.ints .u8 (32 : Nat) a])), (1, .o (.a (.sl 0 (0 : Nat) n cap0))), (2, .o (.a (.p 1 0))), (4, .o (.a (.p 2 0))), (5, .o (.a (.p 3 0))), (6, .o (.a (.p 4 0))), (7, .o (.a (.i .i64 ((((n : Nat) : Int) - (1 : Int)) - ((kt : Nat) : Int))))), (9, .o (.g [.ints .u8 (32 : Nat) a])), (10, .o (.g [.ints .u32 (8 : Nat) (W8 (modL (BV a)))])), (11, .o (.g [.ints .u32 (8 : Nat) ([1, 0, 0, 0, 0, 0, 0, 0] : List Int)])), (12, .o (.a (.sl 0 (0 : Nat) n cap0))), (13, .o (.a (.i .i64 ((n : Nat) : Int)))), (14, .o (.a (.i .i64 (IntKind.i64.wrap (((n : Nat) : Int) - (1 : Int))))))], [some ⟨false, [.ints .u8 nm e]⟩, some ⟨true, [.ints .u8 (32 : Nat) a]⟩, some ⟨true, [.ints .u8 (32 : Nat) ([0, 0, 0, 0, 0, 0, 0, 0, 0, 0, 0, 0, 0, 0, 0, 0, 0, 0, 0, 0, 0, 0, 0, 0, 0, 0, 0, 0, 0, 0, 0, 0] : List Int)]⟩, some ⟨true, [.ints .u32 (8 : Nat) (W8 (modL (BV a)))]⟩, some ⟨true, [.ints .u32 (8 : Nat) (W8 (pwR a e n kt (0 : Nat)))]⟩]⟩

def prI_mk (a : List Int) (n : Nat) (nm : Nat) (e : List Int) (cap0 : Nat) (kt : Nat) (skt : Unit) (k : Nat) (s : Unit) : St := ⟨sparse 40 [(0, .o (.g [.ints .u8 (32 : Nat) a])), (1, .o (.a (.sl 0 (0 : Nat) n cap0))), (2, .o (.a (.p 1 0))), (4, .o (.a (.p 2 0))), (5, .o (.a (.p 3 0))), (6, .o (.a (.p 4 0))), (7, .o (.a (.i .i64 ((((n : Nat) : Int) - (1 : Int)) - ((kt : Nat) : Int))))), (8, .o (.a (.i .i64 ((7 : Int) - ((k : Nat) : Int))))), (9, .o (.g [.ints .u8 (32 : Nat) a])), (10, .o (.g [.ints .u32 (8 : Nat) (W8 (modL (BV a)))])), (11, .o (.g [.ints .u32 (8 : Nat) ([1, 0, 0, 0, 0, 0, 0, 0] : List Int)])), (12, .o (.a (.sl 0 (0 : Nat) n cap0))), (13, .o (.a (.i .i64 ((n : Nat) : Int)))), (14, .o (.a (.i .i64 (IntKind.i64.wrap (((n : Nat) : Int) - (1 : Int)))))), (15, .o (.a (.i .i64 ((((n : Nat) : Int) - (1 : Int)) - ((kt : Nat) : Int))))), (16, .o (.a (.b (decide (((((n : Nat) : Int) - (1 : Int)) - ((kt : Nat) : Int)) ≥ (0 : Int))))))], [some ⟨false, [.ints .u8 nm e]⟩, some ⟨true, [.ints .u8 (32 : Nat) a]⟩, some ⟨true, [.ints .u8 (32 : Nat) ([0, 0, 0, 0, 0, 0, 0, 0, 0, 0, 0, 0, 0, 0, 0, 0, 0, 0, 0, 0, 0, 0, 0, 0, 0, 0, 0, 0, 0, 0, 0, 0] : List Int)]⟩, some ⟨true, [.ints .u32 (8 : Nat) (W8 (modL (BV a)))]⟩, some ⟨true, [.ints .u32 (8 : Nat) (W8 (pwR a e n kt k))]⟩]⟩

def prI_step (k : Nat) (s : Unit) : Unit :=
  ()

set_option maxHeartbeats 1000000 in
theorem prI_round_0 (a : List Int) (n : Nat) (nm : Nat) (e : List Int) (cap0 : Nat) (kt : Nat) (skt : Unit) (h0 : (nm = n)) (h1 : (n ≤ (140737488351232 : Nat))) (h2 : (Byt e)) (h3 : (Byt a)) (hc0 : n ≤ cap0) (hl0_0 : List.length e = nm) (hv0 : List.length a = (32 : Nat)) (hkt : kt < n) (w : World) (β : Env) (k : Nat) (hk : k < (8 : Nat)) (s : Unit) (ha : bitR e n kt k = 1) : Run Try.prog ⟨w, [], 1, β⟩ (loopB Try.f55 2) (prI_mk a n nm e cap0 kt skt k s) (To ⟨w, [], 1, β⟩ .normal (prI_mk a n nm e cap0 kt skt (k + 1) (prI_step k s))) := by
  have e0 : (W8 (modL ((V8 (W8 (modL ((V8 (W8 (pwR a e n kt k))) * (V8 (W8 (pwR a e n kt k))))))) * (V8 (W8 (modL (BV a))))))) = (W8 (pwR a e n kt (k + (1 : Nat)))) := (by first | (rw [wrapI (by omega) (by omega)]; omega) | (rw [pwR_a h2 (hl0_0.trans h0) h1 hkt hk ha]))
  have e1 : (IntKind.i64.wrap (((7 : Int) - ((k : Nat) : Int)) - (1 : Int))) = ((7 : Int) - (((k + (1 : Nat)) : Nat) : Int)) := (by first | (rw [wrapI (by omega) (by omega)]; omega) | (rw [pwR_a h2 (hl0_0.trans h0) h1 hkt hk ha]))
  have h := Run.of_outT (B := ⟨w, [], 1, β⟩) (Λ := noLam) (Ψ := noPsi) (fuel := 0) (ora := [true, true]) (c := (loopB Try.f55 2)) (st := (prI_mk a n nm e cap0 kt skt k s)) (l := [.forget [0, 1, 2, 4, 5, 6, 7, 8, 9, 10, 11, 12, 13, 14, 15, 16] 5]) (s' := ⟨sparse 40 [(0, .o (.g [.ints .u8 (32 : Nat) a])), (1, .o (.a (.sl 0 (0 : Nat) n cap0))), (2, .o (.a (.p 1 0))), (4, .o (.a (.p 2 0))), (5, .o (.a (.p 3 0))), (6, .o (.a (.p 4 0))), (7, .o (.a (.i .i64 ((((n : Nat) : Int) - (1 : Int)) - ((kt : Nat) : Int))))), (8, .o (.a (.i .i64 (IntKind.i64.wrap (((7 : Int) - ((k : Nat) : Int)) - (1 : Int)))))), (9, .o (.g [.ints .u8 (32 : Nat) a])), (10, .o (.g [.ints .u32 (8 : Nat) (W8 (modL (BV a)))])), (11, .o (.g [.ints .u32 (8 : Nat) ([1, 0, 0, 0, 0, 0, 0, 0] : List Int)])), (12, .o (.a (.sl 0 (0 : Nat) n cap0))), (13, .o (.a (.i .i64 ((n : Nat) : Int)))), (14, .o (.a (.i .i64 (IntKind.i64.wrap (((n : Nat) : Int) - (1 : Int)))))), (15, .o (.a (.i .i64 ((((n : Nat) : Int) - (1 : Int)) - ((kt : Nat) : Int))))), (16, .o (.a (.b (decide (((((n : Nat) : Int) - (1 : Int)) - ((kt : Nat) : Int)) ≥ (0 : Int))))))], [some ⟨false, [.ints .u8 nm e]⟩, some ⟨true, [.ints .u8 (32 : Nat) a]⟩, some ⟨true, [.ints .u8 (32 : Nat) ([0, 0, 0, 0, 0, 0, 0, 0, 0, 0, 0, 0, 0, 0, 0, 0, 0, 0, 0, 0, 0, 0, 0, 0, 0, 0, 0, 0, 0, 0, 0, 0] : List Int)]⟩, some ⟨true, [.ints .u32 (8 : Nat) (W8 (modL (BV a)))]⟩, some ⟨true, [.ints .u32 (8 : Nat) (W8 (modL ((V8 (W8 (modL ((V8 (W8 (pwR a e n kt k))) * (V8 (W8 (pwR a e n kt k))))))) * (V8 (W8 (modL (BV a)))))))]⟩]⟩) (ex := .normal) mix tabOkQH gam55_ok
    (vc := [((Wd8 (W8 (modL ((V8 (W8 (pwR a e n kt k))) * (V8 (W8 (pwR a e n kt k))))))) ∧ (Wd8 (W8 (modL (BV a))))), (((bits2 .and .u8 (shr .u8 (List.getD e (Int.toNat ((((n : Nat) : Int) - (1 : Int)) - ((kt : Nat) : Int))) 0) (IntKind.u64.wrap ((7 : Int) - ((k : Nat) : Int)))) (1 : Int)) == (1 : Int)) = true), ((0 : Int) ≤ (IntKind.u64.wrap ((7 : Int) - ((k : Nat) : Int)))), ((Int.toNat ((((n : Nat) : Int) - (1 : Int)) - ((kt : Nat) : Int))) < nm), (((0 : Int) ≤ ((((n : Nat) : Int) - (1 : Int)) - ((kt : Nat) : Int))) ∧ (((((n : Nat) : Int) - (1 : Int)) - ((kt : Nat) : Int)) < ((n : Nat) : Int))), ((Wd8 (W8 (pwR a e n kt k))) ∧ (Wd8 (W8 (pwR a e n kt k)))), ((decide (((7 : Int) - ((k : Nat) : Int)) ≥ (0 : Int))) = true)]) (by kernel_rfl)
    (AllP_cons ⟨(wd8_W8 _), (wd8_W8 _)⟩ (AllP_cons (beq_iff_eq.2 ha) (AllP_cons (wrap_nn rfl) (AllP_cons (by first | omega | exact wrap_nn rfl | (simp (disch := omega) only [wrapI]; omega)) (AllP_cons ⟨(by first | omega | exact wrap_nn rfl | (simp (disch := omega) only [wrapI]; omega)), (by first | omega | exact wrap_nn rfl | (simp (disch := omega) only [wrapI]; omega))⟩ (AllP_cons ⟨(wd8_W8 _), (wd8_W8 _)⟩ (AllP_cons (decide_eq_true (by first | omega | exact wrap_nn rfl | (simp (disch := omega) only [wrapI]; omega))) (AllP_nil))))))))
  rw [e0, e1] at h
  exact h

set_option maxHeartbeats 1000000 in
theorem prI_round_1 (a : List Int) (n : Nat) (nm : Nat) (e : List Int) (cap0 : Nat) (kt : Nat) (skt : Unit) (h0 : (nm = n)) (h1 : (n ≤ (140737488351232 : Nat))) (h2 : (Byt e)) (h3 : (Byt a)) (hc0 : n ≤ cap0) (hl0_0 : List.length e = nm) (hv0 : List.length a = (32 : Nat)) (hkt : kt < n) (w : World) (β : Env) (k : Nat) (hk : k < (8 : Nat)) (s : Unit) (ha : ¬ bitR e n kt k = 1) : Run Try.prog ⟨w, [], 1, β⟩ (loopB Try.f55 2) (prI_mk a n nm e cap0 kt skt k s) (To ⟨w, [], 1, β⟩ .normal (prI_mk a n nm e cap0 kt skt (k + 1) (prI_step k s))) := by
  have e0 : (W8 (modL ((V8 (W8 (pwR a e n kt k))) * (V8 (W8 (pwR a e n kt k)))))) = (W8 (pwR a e n kt (k + (1 : Nat)))) := (by first | (rw [wrapI (by omega) (by omega)]; omega) | (rw [pwR_b h2 (hl0_0.trans h0) h1 hkt hk ha]))
  have e1 : (IntKind.i64.wrap (((7 : Int) - ((k : Nat) : Int)) - (1 : Int))) = ((7 : Int) - (((k + (1 : Nat)) : Nat) : Int)) := (by first | (rw [wrapI (by omega) (by omega)]; omega) | (rw [pwR_b h2 (hl0_0.trans h0) h1 hkt hk ha]))
  have h := Run.of_outT (B := ⟨w, [], 1, β⟩) (Λ := noLam) (Ψ := noPsi) (fuel := 0) (ora := [true, false]) (c := (loopB Try.f55 2)) (st := (prI_mk a n nm e cap0 kt skt k s)) (l := [.forget [0, 1, 2, 4, 5, 6, 7, 8, 9, 10, 11, 12, 13, 14, 15, 16] 5]) (s' := ⟨sparse 40 [(0, .o (.g [.ints .u8 (32 : Nat) a])), (1, .o (.a (.sl 0 (0 : Nat) n cap0))), (2, .o (.a (.p 1 0))), (4, .o (.a (.p 2 0))), (5, .o (.a (.p 3 0))), (6, .o (.a (.p 4 0))), (7, .o (.a (.i .i64 ((((n : Nat) : Int) - (1 : Int)) - ((kt : Nat) : Int))))), (8, .o (.a (.i .i64 (IntKind.i64.wrap (((7 : Int) - ((k : Nat) : Int)) - (1 : Int)))))), (9, .o (.g [.ints .u8 (32 : Nat) a])), (10, .o (.g [.ints .u32 (8 : Nat) (W8 (modL (BV a)))])), (11, .o (.g [.ints .u32 (8 : Nat) ([1, 0, 0, 0, 0, 0, 0, 0] : List Int)])), (12, .o (.a (.sl 0 (0 : Nat) n cap0))), (13, .o (.a (.i .i64 ((n : Nat) : Int)))), (14, .o (.a (.i .i64 (IntKind.i64.wrap (((n : Nat) : Int) - (1 : Int)))))), (15, .o (.a (.i .i64 ((((n : Nat) : Int) - (1 : Int)) - ((kt : Nat) : Int))))), (16, .o (.a (.b (decide (((((n : Nat) : Int) - (1 : Int)) - ((kt : Nat) : Int)) ≥ (0 : Int))))))], [some ⟨false, [.ints .u8 nm e]⟩, some ⟨true, [.ints .u8 (32 : Nat) a]⟩, some ⟨true, [.ints .u8 (32 : Nat) ([0, 0, 0, 0, 0, 0, 0, 0, 0, 0, 0, 0, 0, 0, 0, 0, 0, 0, 0, 0, 0, 0, 0, 0, 0, 0, 0, 0, 0, 0, 0, 0] : List Int)]⟩, some ⟨true, [.ints .u32 (8 : Nat) (W8 (modL (BV a)))]⟩, some ⟨true, [.ints .u32 (8 : Nat) (W8 (modL ((V8 (W8 (pwR a e n kt k))) * (V8 (W8 (pwR a e n kt k))))))]⟩]⟩) (ex := .normal) mix tabOkQH gam55_ok
    (vc := [(((bits2 .and .u8 (shr .u8 (List.getD e (Int.toNat ((((n : Nat) : Int) - (1 : Int)) - ((kt : Nat) : Int))) 0) (IntKind.u64.wrap ((7 : Int) - ((k : Nat) : Int)))) (1 : Int)) == (1 : Int)) = false), ((0 : Int) ≤ (IntKind.u64.wrap ((7 : Int) - ((k : Nat) : Int)))), ((Int.toNat ((((n : Nat) : Int) - (1 : Int)) - ((kt : Nat) : Int))) < nm), (((0 : Int) ≤ ((((n : Nat) : Int) - (1 : Int)) - ((kt : Nat) : Int))) ∧ (((((n : Nat) : Int) - (1 : Int)) - ((kt : Nat) : Int)) < ((n : Nat) : Int))), ((Wd8 (W8 (pwR a e n kt k))) ∧ (Wd8 (W8 (pwR a e n kt k)))), ((decide (((7 : Int) - ((k : Nat) : Int)) ≥ (0 : Int))) = true)]) (by kernel_rfl)
    (AllP_cons (beq_eq_false_iff_ne.2 ha) (AllP_cons (wrap_nn rfl) (AllP_cons (by first | omega | exact wrap_nn rfl | (simp (disch := omega) only [wrapI]; omega)) (AllP_cons ⟨(by first | omega | exact wrap_nn rfl | (simp (disch := omega) only [wrapI]; omega)), (by first | omega | exact wrap_nn rfl | (simp (disch := omega) only [wrapI]; omega))⟩ (AllP_cons ⟨(wd8_W8 _), (wd8_W8 _)⟩ (AllP_cons (decide_eq_true (by first | omega | exact wrap_nn rfl | (simp (disch := omega) only [wrapI]; omega))) (AllP_nil)))))))
  rw [e0, e1] at h
  exact h

theorem prI_round (a : List Int) (n : Nat) (nm : Nat) (e : List Int) (cap0 : Nat) (kt : Nat) (skt : Unit) (h0 : (nm = n)) (h1 : (n ≤ (140737488351232 : Nat))) (h2 : (Byt e)) (h3 : (Byt a)) (hc0 : n ≤ cap0) (hl0_0 : List.length e = nm) (hv0 : List.length a = (32 : Nat)) (hkt : kt < n) (w : World) (β : Env) (k : Nat) (hk : k < (8 : Nat)) (s : Unit) : Run Try.prog ⟨w, [], 1, β⟩ (loopB Try.f55 2) (prI_mk a n nm e cap0 kt skt k s) (To ⟨w, [], 1, β⟩ .normal (prI_mk a n nm e cap0 kt skt (k + 1) (prI_step k s))) := by
  by_cases ha : bitR e n kt k = 1
  · exact prI_round_0 a n nm e cap0 kt skt h0 h1 h2 h3 hc0 hl0_0 hv0 hkt w β k hk s ha
  · exact prI_round_1 a n nm e cap0 kt skt h0 h1 h2 h3 hc0 hl0_0 hv0 hkt w β k hk s ha

set_option maxHeartbeats 1000000 in
theorem prI_last (a : List Int) (n : Nat) (nm : Nat) (e : List Int) (cap0 : Nat) (kt : Nat) (skt : Unit) (h0 : (nm = n)) (h1 : (n ≤ (140737488351232 : Nat))) (h2 : (Byt e)) (h3 : (Byt a)) (hc0 : n ≤ cap0) (hl0_0 : List.length e = nm) (hv0 : List.length a = (32 : Nat)) (hkt : kt < n) (w : World) (β : Env) (s : Unit) : Run Try.prog ⟨w, [], 1, β⟩ (loopB Try.f55 2) (prI_mk a n nm e cap0 kt skt (8 : Nat) s) (To ⟨w, [], 1, β⟩ (.exit 2) (prI_mk a n nm e cap0 kt skt (8 : Nat) s)) :=
  Run.of_outT (B := ⟨w, [], 1, β⟩) (Λ := noLam) (Ψ := noPsi) (fuel := 0) (ora := [false]) (l := [.forget [0, 1, 2, 4, 5, 6, 7, 8, 9, 10, 11, 12, 13, 14, 15, 16] 5]) mix tabOkQH gam55_ok
    (vc := [(false = false)]) (by kernel_rfl)
    (AllP_cons rfl (AllP_nil))

theorem prI_loop (a : List Int) (n : Nat) (nm : Nat) (e : List Int) (cap0 : Nat) (kt : Nat) (skt : Unit) (h0 : (nm = n)) (h1 : (n ≤ (140737488351232 : Nat))) (h2 : (Byt e)) (h3 : (Byt a)) (hc0 : n ≤ cap0) (hl0_0 : List.length e = nm) (hv0 : List.length a = (32 : Nat)) (hkt : kt < n) (w : World) (β : Env) (s : Unit) : Run Try.prog ⟨w, [], 1, β⟩ (.block 2 (.loop (loopB Try.f55 2))) (prI_mk a n nm e cap0 kt skt 0 s) (To ⟨w, [], 1, β⟩ .normal (prI_mk a n nm e cap0 kt skt (8 : Nat) (iter (prI_step) (8 : Nat) s))) :=
  Run.count (fun k => prI_mk a n nm e cap0 kt skt k (iter (prI_step) k s)) (8 : Nat) (fun k hk => prI_round a n nm e cap0 kt skt h0 h1 h2 h3 hc0 hl0_0 hv0 hkt w β k hk _) (ex := (.exit 2)) (by simp) (prI_last a n nm e cap0 kt skt h0 h1 h2 h3 hc0 hl0_0 hv0 hkt w β _)

def prO_step (kt : Nat) (skt : Unit) : Unit :=
  ()

set_option maxHeartbeats 1000000 in
theorem prO_round (a : List Int) (n : Nat) (nm : Nat) (e : List Int) (cap0 : Nat) (h0 : (nm = n)) (h1 : (n ≤ (140737488351232 : Nat))) (h2 : (Byt e)) (h3 : (Byt a)) (hc0 : n ≤ cap0) (hl0_0 : List.length e = nm) (hv0 : List.length a = (32 : Nat)) (w : World) (β : Env) (kt : Nat) (hkt : kt < n) (skt : Unit) : Run Try.prog ⟨w, [], 1, β⟩ (loopB Try.f55 0) (prO_mk a n nm e cap0 kt skt) (To ⟨w, [], 1, β⟩ .normal (prO_mk a n nm e cap0 (kt + 1) (prO_step kt skt))) := by
  have e0 : (IntKind.i64.wrap (((((n : Nat) : Int) - (1 : Int)) - ((kt : Nat) : Int)) - (1 : Int))) = ((((n : Nat) : Int) - (1 : Int)) - (((kt + (1 : Nat)) : Nat) : Int)) := (by first | (rw [wrapI (by omega) (by omega)]; omega) | (rw [pwR_8]) | rfl)
  have e1 : (W8 (pwR a e n kt (8 : Nat))) = (W8 (pwR a e n (kt + (1 : Nat)) (0 : Nat))) := (by first | (rw [wrapI (by omega) (by omega)]; omega) | (rw [pwR_8]) | rfl)
  have h := Run.of_outT (B := ⟨w, [], 1, β⟩) (Λ := lamOf [(2, ⟨[.forget [0, 1, 2, 4, 5, 6, 7, 8, 9, 10, 11, 12, 13, 14, 15, 16] 5], .normal, (prI_mk a n nm e cap0 kt skt (8 : Nat) (iter (prI_step) (8 : Nat) ()))⟩)]) (Ψ := noPsi) (fuel := 0) (ora := [true]) (c := (loopB Try.f55 0)) (st := (prO_mk a n nm e cap0 kt skt)) (l := [.forget [0, 1, 2, 4, 5, 6, 7, 9, 10, 11, 12, 13, 14] 5]) (s' := ⟨sparse 40 [(0, .o (.g [.ints .u8 (32 : Nat) a])), (1, .o (.a (.sl 0 (0 : Nat) n cap0))), (2, .o (.a (.p 1 0))), (4, .o (.a (.p 2 0))), (5, .o (.a (.p 3 0))), (6, .o (.a (.p 4 0))), (7, .o (.a (.i .i64 (IntKind.i64.wrap (((((n : Nat) : Int) - (1 : Int)) - ((kt : Nat) : Int)) - (1 : Int)))))), (9, .o (.g [.ints .u8 (32 : Nat) a])), (10, .o (.g [.ints .u32 (8 : Nat) (W8 (modL (BV a)))])), (11, .o (.g [.ints .u32 (8 : Nat) ([1, 0, 0, 0, 0, 0, 0, 0] : List Int)])), (12, .o (.a (.sl 0 (0 : Nat) n cap0))), (13, .o (.a (.i .i64 ((n : Nat) : Int)))), (14, .o (.a (.i .i64 (IntKind.i64.wrap (((n : Nat) : Int) - (1 : Int))))))], [some ⟨false, [.ints .u8 nm e]⟩, some ⟨true, [.ints .u8 (32 : Nat) a]⟩, some ⟨true, [.ints .u8 (32 : Nat) ([0, 0, 0, 0, 0, 0, 0, 0, 0, 0, 0, 0, 0, 0, 0, 0, 0, 0, 0, 0, 0, 0, 0, 0, 0, 0, 0, 0, 0, 0, 0, 0] : List Int)]⟩, some ⟨true, [.ints .u32 (8 : Nat) (W8 (modL (BV a)))]⟩, some ⟨true, [.ints .u32 (8 : Nat) (W8 (pwR a e n kt (8 : Nat)))]⟩]⟩) (ex := .normal) mix tabOkQH gam55_ok
    (vc := [(Run Try.prog ⟨w, [], 1, β⟩ (.block 2 (.loop (loopB Try.f55 2))) (prI_mk a n nm e cap0 kt skt 0 ()) (To ⟨w, [], 1, β⟩ .normal (prI_mk a n nm e cap0 kt skt (8 : Nat) (iter (prI_step) (8 : Nat) ())))), ((decide (((((n : Nat) : Int) - (1 : Int)) - ((kt : Nat) : Int)) ≥ (0 : Int))) = true)]) (by kernel_rfl)
    (AllP_cons (prI_loop a n nm e cap0 kt skt h0 h1 h2 h3 hc0 hl0_0 hv0 hkt w β ()) (AllP_cons (decide_eq_true (by first | omega | (simp (disch := omega) only [wrapI]; omega))) (AllP_nil)))
  rw [e0, e1] at h
  exact h

set_option maxHeartbeats 1000000 in
theorem prO_last (a : List Int) (n : Nat) (nm : Nat) (e : List Int) (cap0 : Nat) (h0 : (nm = n)) (h1 : (n ≤ (140737488351232 : Nat))) (h2 : (Byt e)) (h3 : (Byt a)) (hc0 : n ≤ cap0) (hl0_0 : List.length e = nm) (hv0 : List.length a = (32 : Nat)) (w : World) (β : Env) (skt : Unit) : Run Try.prog ⟨w, [], 1, β⟩ (loopB Try.f55 0) (prO_mk a n nm e cap0 n skt) (To ⟨w, [], 1, β⟩ (.exit 0) (prO_mk a n nm e cap0 n skt)) :=
  Run.of_outT (B := ⟨w, [], 1, β⟩) (Λ := noLam) (Ψ := noPsi) (fuel := 0) (ora := [false]) (l := [.forget [0, 1, 2, 4, 5, 6, 7, 9, 10, 11, 12, 13, 14] 5]) mix tabOkQH gam55_ok
    (vc := [((decide (((((n : Nat) : Int) - (1 : Int)) - ((n : Nat) : Int)) ≥ (0 : Int))) = false)]) (by kernel_rfl)
    (AllP_cons (decide_eq_false (by omega)) (AllP_nil))

theorem prO_loop (a : List Int) (n : Nat) (nm : Nat) (e : List Int) (cap0 : Nat) (h0 : (nm = n)) (h1 : (n ≤ (140737488351232 : Nat))) (h2 : (Byt e)) (h3 : (Byt a)) (hc0 : n ≤ cap0) (hl0_0 : List.length e = nm) (hv0 : List.length a = (32 : Nat)) (w : World) (β : Env) (skt : Unit) : Run Try.prog ⟨w, [], 1, β⟩ (.block 0 (.loop (loopB Try.f55 0))) (prO_mk a n nm e cap0 0 skt) (To ⟨w, [], 1, β⟩ .normal (prO_mk a n nm e cap0 n (iter (prO_step) n skt))) :=
  Run.count (fun kt => prO_mk a n nm e cap0 kt (iter (prO_step) kt skt)) n (fun kt hkt => prO_round a n nm e cap0 h0 h1 h2 h3 hc0 hl0_0 hv0 w β kt hkt _) (ex := (.exit 0)) (by simp) (prO_last a n nm e cap0 h0 h1 h2 h3 hc0 hl0_0 hv0 w β _)

def prP (a : List Int) (n : Nat) (e : List Int) : List Int :=
  (B32 (V8 (W8 (pwR a e n n (0 : Nat)))))

set_option maxHeartbeats 1000000 in
theorem prP_body0 (a : List Int) (n : Nat) (nm : Nat) (e : List Int) (cap0 : Nat) (h0 : (nm = n)) (h1 : (n ≤ (140737488351232 : Nat))) (h2 : (Byt e)) (h3 : (Byt a)) (hc0 : n ≤ cap0) (hl0_0 : List.length e = nm) (hv0 : List.length a = (32 : Nat)) (w : World) (β : Env) : Body Try.prog (tabOf tabQH) Try.f55 ⟨w, [], 1, β⟩ [.o (.g [.ints .u8 (32 : Nat) a]), .o (.a (.sl 0 (0 : Nat) n cap0))] [some ⟨false, [.ints .u8 nm e]⟩] (fun ys _ => ys = [.g [.ints .u8 (32 : Nat) (prP a n e)]]) :=
  Body.of_fin (Γ := gam55) (Λ := lamOf [(0, ⟨[.eqS 7 (.o (.a (.i .i64 ((((n : Nat) : Int) - (1 : Int)) - ((0 : Nat) : Int))))), .eqB 4 (⟨true, [.ints .u32 (8 : Nat) (W8 (pwR a e n (0 : Nat) (0 : Nat)))]⟩), .forget [0, 1, 2, 4, 5, 6, 7, 9, 10, 11, 12, 13, 14] 5], .normal, (prO_mk a n nm e cap0 n (iter (prO_step) n ()))⟩)]) (Ψ := noPsi) (fuel := 0) (m := 40) (c := (Try.f55.body.getD .skip)) mix tabOkQH gam55_ok rfl (rs := [.cell 4 24]) rfl rfl [] []
    (vc := [(Wd8 (W8 (pwR a e n n (0 : Nat)))), (Run Try.prog ⟨w, [], 1, β⟩ (.block 0 (.loop (loopB Try.f55 0))) (prO_mk a n nm e cap0 0 ()) (To ⟨w, [], 1, β⟩ .normal (prO_mk a n nm e cap0 n (iter (prO_step) n ())))), ((some ⟨true, [.ints .u32 (8 : Nat) ([1, 0, 0, 0, 0, 0, 0, 0] : List Int)]⟩ : Option Blk) = some ⟨true, [.ints .u32 (8 : Nat) (W8 (pwR a e n (0 : Nat) (0 : Nat)))]⟩), ((.o (.a (.i .i64 (IntKind.i64.wrap (((n : Nat) : Int) - (1 : Int))))) : AV) = .o (.a (.i .i64 ((((n : Nat) : Int) - (1 : Int)) - ((0 : Nat) : Int))))), (Byt a)]) (by kernel_rfl)
    (AllP_cons (wd8_W8 _) (AllP_cons (prO_loop a n nm e cap0 h0 h1 h2 h3 hc0 hl0_0 hv0 w β ()) (AllP_cons ((by rw [pwR_0 h2 (hl0_0.trans h0)])) (AllP_cons ((congrArg (fun z => AV.o (.a (.i .i64 z))) ((wrapI (by omega) (by omega)).trans (by omega)))) (AllP_cons (by assumption) (AllP_nil))))))

theorem prP_body (a : List Int) (n : Nat) (nm : Nat) (e : List Int) (cap0 : Nat) (h0 : (nm = n)) (h1 : (n ≤ (140737488351232 : Nat))) (h2 : (Byt e)) (h3 : (Byt a)) (w : World) (β : Env) : Body Try.prog (tabOf tabQH) Try.f55 ⟨w, [], 1, β⟩ [.o (.g [.ints .u8 (32 : Nat) a]), .o (.a (.sl 0 (0 : Nat) n cap0))] [some ⟨false, [.ints .u8 nm e]⟩] (fun ys _ => ys = [.g [.ints .u8 (32 : Nat) (prP a n e)]]) :=
  Body.lens (c := (Try.f55.body.getD .skip)) rfl fun h => prP_body0 a n nm e cap0 h0 h1 h2 h3 (h.caps 1 _ _ _ _ rfl) (h.lens 0 _ .u8 nm e rfl (by simp)) (h.vals 0 _ _ _ rfl) w β

end Go.Proofs.Ytcpoldghkiiggaa.X

/- Power of the reference, as a number; squares. -/
namespace Go.Proofs.Ytcpoldghkiiggaa.X
open Go Go.Proofs
set_option linter.unusedVariables false
set_option maxRecDepth 100000

theorem prP_eq (a e : List Int) (n : Nat) : prP a n e = B32 (powV a e) := by
  unfold prP powV
  rw [pwR_fin]
theorem prP_num (a : List Int) (n nm : Nat) (e : List Int) (cap0 : Nat) (h0 : nm = n) (h1 : n ≤ 140737488351232) (h2 : Byt e) (h3 : Byt a) (w : World) (β : Env) : Body Try.prog (tabOf tabQH) Try.f55 ⟨w, [], 1, β⟩ [.o (.g [.ints .u8 (32 : Nat) a]), .o (.a (.sl 0 (0 : Nat) n cap0))] [some ⟨false, [.ints .u8 nm e]⟩] (fun ys _ => ys = [.g [.ints .u8 (32 : Nat) (B32 (powV a e))]]) := prP_eq a e n ▸ prP_body a n nm e cap0 h0 h1 h2 h3 w β
def powW (S E : List Int) : Int := modL (V4 S ^ (V4 E).toNat)
theorem powW_eq {S E : List Int} (hE : Wds E) (l : E.length = 4) : powA S E = W4 (powW S E) := by
  have hn : V4 E = (((V4 E).toNat : Nat) : Int) := by have := (V4_rng hE l).1; omega
  unfold powA
  rw [V4_radx, V4_one, montI, montI]
  have e : modL (1 * 115792089237316195423570985008687907853269984665640564039457584007913129639936) = sqr (V4 S) 0 := by unfold sqr; rw [Int.pow_zero]
  rw [e, rP_eq hE l (V4 S) hn 256 (Nat.le_refl _), sqr_V, Nat.sub_self, Nat.pow_zero, Nat.div_one]
  unfold sqr powW
  rw [mont1]
theorem pow100_num (S E : List Int) (h0 : Wds S) (h1 : Wds E) (w : World) : Body Try.prog (tabOf tabOQ) Try.f100 ⟨w, [], 0, noEnv⟩ (toA [.g [.ints .u64 (4 : Nat) S], .g [.ints .u64 (4 : Nat) E]]) [] (fun ys _ => ys = [.g [.ints .u64 (4 : Nat) (W4 (powW S E))]]) :=
  Body.lens (c := (Try.f100.body.getD .skip)) rfl fun h => powW_eq (S := S) h1 (h.vals 1 _ _ _ rfl) ▸ powA_body S E h0 h1 w
theorem wd8_small {s : List Int} (h : (s.all fun x => decide (0 ≤ x ∧ x < 4294967296)) = true) : Wd8 s := by
  intro x hx
  simpa using List.all_eq_true.1 h x hx
end Go.Proofs.Ytcpoldghkiiggaa.X

/- Printed by a tool of this session. -/
namespace Go.Proofs.Ytcpoldghkiiggaa.X
open Go Go.Proofs
set_option linter.unusedVariables false
set_option linter.unusedSimpArgs false
set_option maxRecDepth 100000
def gam57 : Gam := greadV 55 [.v, .s 1] (fun vs args => match vs, args with | [⟨_, _, _, [.ints .u8 nm e]⟩], [.o (.g [.ints .u8 (32 : Nat) a]), a0] => some ((nm = (lenOfA a0)) ∧ ((lenOfA a0) ≤ (140737488351232 : Nat)) ∧ (Byt e) ∧ (Byt a), [.g [.ints .u8 (32 : Nat) (B32 (powV a e))]]) | _, _ => none) gam55
theorem gam57_ok : GamOk Try.prog gam57 := greadV_ok tabOkQH Try.func55 gam55_ok Try.call55 (by
  intro vs args p xs h hv
  split at h
  · simp only [Option.some.injEq, Prod.mk.injEq] at h; obtain ⟨rfl, rfl⟩ := h; exact ⟨by rfl, fun caps w β => prP_num _ _ _ _ _ hv.1 hv.2.1 hv.2.2.1 hv.2.2.2 w β⟩
  · simp at h)

theorem pow100_num_pure (S : List Int) (E : List Int) (h0 : (Wds S)) (h1 : (Wds E)) : PureC Try.prog 100 [.g [.ints .u64 (4 : Nat) S], .g [.ints .u64 (4 : Nat) E]] [.g [.ints .u64 (4 : Nat) (W4 (powW S E))]] :=
  PureC.of_body tabOkOQ Try.func100 rfl rfl fun w => pow100_num S E h0 h1 w

def gam58 : Gam := gpure 100 (fun args => match args with | [.o (.g [.ints .u64 (4 : Nat) S]), .o (.g [.ints .u64 (4 : Nat) E])] => some (some ((Wds S) ∧ (Wds E)), [.g [.ints .u64 (4 : Nat) (W4 (powW S E))]]) | _ => none) gam57
theorem gam58_ok : GamOk Try.prog gam58 := gpure_ok gam57_ok Try.call100 (by
  intro args vc xs h hv
  split at h
  · simp only [Option.some.injEq, Prod.mk.injEq] at h; obtain ⟨rfl, rfl⟩ := h; exact ⟨_, by rfl, pow100_num_pure _ _ hv.1 hv.2⟩
  · simp at h)

end Go.Proofs.Ytcpoldghkiiggaa.X

/- Printed by a tool of this session. -/
namespace Go.Proofs.Ytcpoldghkiiggaa.X
open Go Go.Proofs
set_option linter.unusedVariables false
set_option linter.unusedSimpArgs false
set_option maxRecDepth 100000
theorem teQJ_3 : TEOk Try.prog 3 ⟨.int .i64, 1, 8, [.i .i64 (0 : Int)], false⟩ :=
  TEOk.of Try.underlying3 (i := Try.t3) (by kernel_rfl) rfl rfl rfl (by kernel_rfl) (fun h => by cases h) (by kernel_rfl)
theorem teQJ_5 : TEOk Try.prog 5 ⟨.int .u8, 1, 1, [.i .u8 (0 : Int)], false⟩ :=
  TEOk.of Try.underlying5 (i := Try.t5) (by kernel_rfl) rfl rfl rfl (by kernel_rfl) (fun h => by cases h) (by kernel_rfl)
theorem teQJ_22 : TEOk Try.prog 22 ⟨.slice 5, 1, 24, [.raw (.slice none 0 0)], false⟩ :=
  TEOk.of Try.underlying22 (i := Try.t22) (by kernel_rfl) rfl rfl rfl (by kernel_rfl) (fun h => by cases h) (by kernel_rfl)
theorem teQJ_26 : TEOk Try.prog 26 ⟨.slice 22, 1, 24, [.raw (.slice none 0 0)], false⟩ :=
  TEOk.of Try.underlying26 (i := Try.t26) (by kernel_rfl) rfl rfl rfl (by kernel_rfl) (fun h => by cases h) (by kernel_rfl)
theorem teQJ_27 : TEOk Try.prog 27 ⟨.slice 81, 1, 24, [.raw (.slice none 0 0)], false⟩ :=
  TEOk.of Try.underlying27 (i := Try.t27) (by kernel_rfl) rfl rfl rfl (by kernel_rfl) (fun h => by cases h) (by kernel_rfl)
theorem teQJ_28 : TEOk Try.prog 28 ⟨.slice 113, 1, 24, [.raw (.slice none 0 0)], false⟩ :=
  TEOk.of Try.underlying28 (i := Try.t28) (by kernel_rfl) rfl rfl rfl (by kernel_rfl) (fun h => by cases h) (by kernel_rfl)
theorem teQJ_29 : TEOk Try.prog 29 ⟨.slice 122, 1, 24, [.raw (.slice none 0 0)], false⟩ :=
  TEOk.of Try.underlying29 (i := Try.t29) (by kernel_rfl) rfl rfl rfl (by kernel_rfl) (fun h => by cases h) (by kernel_rfl)
theorem teQJ_30 : TEOk Try.prog 30 ⟨.slice 64, 1, 24, [.raw (.slice none 0 0)], false⟩ :=
  TEOk.of Try.underlying30 (i := Try.t30) (by kernel_rfl) rfl rfl rfl (by kernel_rfl) (fun h => by cases h) (by kernel_rfl)
theorem teQJ_31 : TEOk Try.prog 31 ⟨.slice 124, 1, 24, [.raw (.slice none 0 0)], false⟩ :=
  TEOk.of Try.underlying31 (i := Try.t31) (by kernel_rfl) rfl rfl rfl (by kernel_rfl) (fun h => by cases h) (by kernel_rfl)
theorem teQJ_32 : TEOk Try.prog 32 ⟨.slice 126, 1, 24, [.raw (.slice none 0 0)], false⟩ :=
  TEOk.of Try.underlying32 (i := Try.t32) (by kernel_rfl) rfl rfl rfl (by kernel_rfl) (fun h => by cases h) (by kernel_rfl)
theorem teQJ_33 : TEOk Try.prog 33 ⟨.slice 128, 1, 24, [.raw (.slice none 0 0)], false⟩ :=
  TEOk.of Try.underlying33 (i := Try.t33) (by kernel_rfl) rfl rfl rfl (by kernel_rfl) (fun h => by cases h) (by kernel_rfl)
theorem teQJ_34 : TEOk Try.prog 34 ⟨.slice 130, 1, 24, [.raw (.slice none 0 0)], false⟩ :=
  TEOk.of Try.underlying34 (i := Try.t34) (by kernel_rfl) rfl rfl rfl (by kernel_rfl) (fun h => by cases h) (by kernel_rfl)
theorem teQJ_35 : TEOk Try.prog 35 ⟨.slice 132, 1, 24, [.raw (.slice none 0 0)], false⟩ :=
  TEOk.of Try.underlying35 (i := Try.t35) (by kernel_rfl) rfl rfl rfl (by kernel_rfl) (fun h => by cases h) (by kernel_rfl)
theorem teQJ_36 : TEOk Try.prog 36 ⟨.slice 134, 1, 24, [.raw (.slice none 0 0)], false⟩ :=
  TEOk.of Try.underlying36 (i := Try.t36) (by kernel_rfl) rfl rfl rfl (by kernel_rfl) (fun h => by cases h) (by kernel_rfl)
theorem teQJ_37 : TEOk Try.prog 37 ⟨.slice 136, 1, 24, [.raw (.slice none 0 0)], false⟩ :=
  TEOk.of Try.underlying37 (i := Try.t37) (by kernel_rfl) rfl rfl rfl (by kernel_rfl) (fun h => by cases h) (by kernel_rfl)
theorem teQJ_38 : TEOk Try.prog 38 ⟨.slice 138, 1, 24, [.raw (.slice none 0 0)], false⟩ :=
  TEOk.of Try.underlying38 (i := Try.t38) (by kernel_rfl) rfl rfl rfl (by kernel_rfl) (fun h => by cases h) (by kernel_rfl)
theorem teQJ_39 : TEOk Try.prog 39 ⟨.slice 140, 1, 24, [.raw (.slice none 0 0)], false⟩ :=
  TEOk.of Try.underlying39 (i := Try.t39) (by kernel_rfl) rfl rfl rfl (by kernel_rfl) (fun h => by cases h) (by kernel_rfl)
theorem teQJ_40 : TEOk Try.prog 40 ⟨.slice 142, 1, 24, [.raw (.slice none 0 0)], false⟩ :=
  TEOk.of Try.underlying40 (i := Try.t40) (by kernel_rfl) rfl rfl rfl (by kernel_rfl) (fun h => by cases h) (by kernel_rfl)
theorem teQJ_42 : TEOk Try.prog 42 ⟨Try.t41.desc, 30, 720, [.raw (.slice none 0 0), .raw (.slice none 0 0), .raw (.slice none 0 0), .raw (.slice none 0 0), .raw (.slice none 0 0), .raw (.slice none 0 0), .raw (.slice none 0 0), .raw (.slice none 0 0), .raw (.slice none 0 0), .raw (.slice none 0 0), .raw (.slice none 0 0), .raw (.slice none 0 0), .raw (.slice none 0 0), .raw (.slice none 0 0), .raw (.slice none 0 0), .raw (.slice none 0 0), .raw (.slice none 0 0), .raw (.slice none 0 0), .raw (.slice none 0 0), .raw (.slice none 0 0), .raw (.slice none 0 0), .raw (.slice none 0 0), .raw (.slice none 0 0), .raw (.slice none 0 0), .raw (.slice none 0 0), .raw (.slice none 0 0), .raw (.slice none 0 0), .raw (.slice none 0 0), .raw (.slice none 0 0), .raw (.slice none 0 0)], false⟩ :=
  TEOk.of Try.underlying42 (i := Try.t42) (by kernel_rfl) rfl rfl rfl (by kernel_rfl) (fun h => by cases h) (by kernel_rfl)
noncomputable def tabQJ : List (Nat × TE) := [(3, ⟨.int .i64, 1, 8, [.i .i64 (0 : Int)], false⟩), (5, ⟨.int .u8, 1, 1, [.i .u8 (0 : Int)], false⟩), (22, ⟨.slice 5, 1, 24, [.raw (.slice none 0 0)], false⟩), (26, ⟨.slice 22, 1, 24, [.raw (.slice none 0 0)], false⟩), (27, ⟨.slice 81, 1, 24, [.raw (.slice none 0 0)], false⟩), (28, ⟨.slice 113, 1, 24, [.raw (.slice none 0 0)], false⟩), (29, ⟨.slice 122, 1, 24, [.raw (.slice none 0 0)], false⟩), (30, ⟨.slice 64, 1, 24, [.raw (.slice none 0 0)], false⟩), (31, ⟨.slice 124, 1, 24, [.raw (.slice none 0 0)], false⟩), (32, ⟨.slice 126, 1, 24, [.raw (.slice none 0 0)], false⟩), (33, ⟨.slice 128, 1, 24, [.raw (.slice none 0 0)], false⟩), (34, ⟨.slice 130, 1, 24, [.raw (.slice none 0 0)], false⟩), (35, ⟨.slice 132, 1, 24, [.raw (.slice none 0 0)], false⟩), (36, ⟨.slice 134, 1, 24, [.raw (.slice none 0 0)], false⟩), (37, ⟨.slice 136, 1, 24, [.raw (.slice none 0 0)], false⟩), (38, ⟨.slice 138, 1, 24, [.raw (.slice none 0 0)], false⟩), (39, ⟨.slice 140, 1, 24, [.raw (.slice none 0 0)], false⟩), (40, ⟨.slice 142, 1, 24, [.raw (.slice none 0 0)], false⟩), (42, ⟨Try.t41.desc, 30, 720, [.raw (.slice none 0 0), .raw (.slice none 0 0), .raw (.slice none 0 0), .raw (.slice none 0 0), .raw (.slice none 0 0), .raw (.slice none 0 0), .raw (.slice none 0 0), .raw (.slice none 0 0), .raw (.slice none 0 0), .raw (.slice none 0 0), .raw (.slice none 0 0), .raw (.slice none 0 0), .raw (.slice none 0 0), .raw (.slice none 0 0), .raw (.slice none 0 0), .raw (.slice none 0 0), .raw (.slice none 0 0), .raw (.slice none 0 0), .raw (.slice none 0 0), .raw (.slice none 0 0), .raw (.slice none 0 0), .raw (.slice none 0 0), .raw (.slice none 0 0), .raw (.slice none 0 0), .raw (.slice none 0 0), .raw (.slice none 0 0), .raw (.slice none 0 0), .raw (.slice none 0 0), .raw (.slice none 0 0), .raw (.slice none 0 0)], false⟩)]
theorem tabOkQJ : TabOk Try.prog (tabOf tabQJ) := (tabOf_cons teQJ_3 (tabOf_cons teQJ_5 (tabOf_cons teQJ_22 (tabOf_cons teQJ_26 (tabOf_cons teQJ_27 (tabOf_cons teQJ_28 (tabOf_cons teQJ_29 (tabOf_cons teQJ_30 (tabOf_cons teQJ_31 (tabOf_cons teQJ_32 (tabOf_cons teQJ_33 (tabOf_cons teQJ_34 (tabOf_cons teQJ_35 (tabOf_cons teQJ_36 (tabOf_cons teQJ_37 (tabOf_cons teQJ_38 (tabOf_cons teQJ_39 (tabOf_cons teQJ_40 (tabOf_cons teQJ_42 tabOf_nil)))))))))))))))))))

def sameL_mk (n : Nat) (nm : Nat) (b : List Int) (m : Nat) (mm : Nat) (c : List Int) (cap0 : Nat) (cap1 : Nat) (k : Nat) (s : Unit) : St := ⟨sparse 26 [(0, .o (.a (.sl 0 (0 : Nat) n cap0))), (1, .o (.a (.sl 1 (0 : Nat) m cap1))), (5, .o (.a (.i .i64 ((k : Nat) : Int)))), (6, .o (.a (.sl 0 (0 : Nat) n cap0))), (7, .o (.a (.i .i64 ((n : Nat) : Int)))), (8, .o (.a (.sl 1 (0 : Nat) m cap1))), (9, .o (.a (.i .i64 ((m : Nat) : Int)))), (10, .o (.a (.b (((n : Nat) : Int) != ((m : Nat) : Int)))))], [some ⟨false, [.ints .u8 nm b]⟩, some ⟨false, [.ints .u8 mm c]⟩]⟩

def sameL_step (k : Nat) (s : Unit) : Unit :=
  ()

set_option maxHeartbeats 1000000 in
theorem sameL_round (n : Nat) (nm : Nat) (b : List Int) (m : Nat) (mm : Nat) (c : List Int) (cap0 : Nat) (cap1 : Nat) (h0 : (nm = n)) (h1 : (mm = m)) (h2 : (m = n)) (h3 : (b = c)) (h4 : (n < (4611686018427387904 : Nat))) (hc0 : n ≤ cap0) (hc1 : m ≤ cap1) (hl0_0 : List.length b = nm) (hl1_0 : List.length c = mm) (w : World) (β : Env) (k : Nat) (hk : k < n) (s : Unit) : Run Try.prog ⟨w, [], 2, β⟩ (loopB Try.f82 0) (sameL_mk n nm b m mm c cap0 cap1 k s) (To ⟨w, [], 2, β⟩ .normal (sameL_mk n nm b m mm c cap0 cap1 (k + 1) (sameL_step k s))) := by
  have e0 : (IntKind.i64.wrap (((k : Nat) : Int) + (1 : Int))) = (((k + (1 : Nat)) : Nat) : Int) := (by first | rfl | exact wrap_succ (by omega) | omega | (simp (disch := omega) only [wrapI]; omega))
  have h := Run.of_outT (B := ⟨w, [], 2, β⟩) (Λ := noLam) (Ψ := noPsi) (fuel := 0) (ora := [true, false]) (c := (loopB Try.f82 0)) (st := (sameL_mk n nm b m mm c cap0 cap1 k s)) (l := [.forget [0, 1, 5, 6, 7, 8, 9, 10] 2]) (s' := ⟨sparse 26 [(0, .o (.a (.sl 0 (0 : Nat) n cap0))), (1, .o (.a (.sl 1 (0 : Nat) m cap1))), (5, .o (.a (.i .i64 (IntKind.i64.wrap (((k : Nat) : Int) + (1 : Int)))))), (6, .o (.a (.sl 0 (0 : Nat) n cap0))), (7, .o (.a (.i .i64 ((n : Nat) : Int)))), (8, .o (.a (.sl 1 (0 : Nat) m cap1))), (9, .o (.a (.i .i64 ((m : Nat) : Int)))), (10, .o (.a (.b (((n : Nat) : Int) != ((m : Nat) : Int)))))], [some ⟨false, [.ints .u8 nm b]⟩, some ⟨false, [.ints .u8 mm c]⟩]⟩) (ex := .normal) mix tabOkQJ gam58_ok
    (vc := [(((List.getD b k 0) != (List.getD c k 0)) = false), (k < mm), (((0 : Int) ≤ ((k : Nat) : Int)) ∧ (((k : Nat) : Int) < ((m : Nat) : Int))), (k < nm), (((0 : Int) ≤ ((k : Nat) : Int)) ∧ (((k : Nat) : Int) < ((n : Nat) : Int))), ((decide (((k : Nat) : Int) < ((n : Nat) : Int))) = true)]) (by kernel_rfl)
    (AllP_cons (bne_eq_false_iff_eq.2 (by rw [h3])) (AllP_cons (by first | omega | (simp (disch := omega) only [wrapI]; omega)) (AllP_cons ⟨(by first | omega | (simp (disch := omega) only [wrapI]; omega)), (by first | omega | (simp (disch := omega) only [wrapI]; omega))⟩ (AllP_cons (by first | omega | (simp (disch := omega) only [wrapI]; omega)) (AllP_cons ⟨(by first | omega | (simp (disch := omega) only [wrapI]; omega)), (by first | omega | (simp (disch := omega) only [wrapI]; omega))⟩ (AllP_cons (decide_eq_true (by first | omega | (simp (disch := omega) only [wrapI]; omega))) (AllP_nil)))))))
  rw [e0] at h
  exact h

set_option maxHeartbeats 1000000 in
theorem sameL_last (n : Nat) (nm : Nat) (b : List Int) (m : Nat) (mm : Nat) (c : List Int) (cap0 : Nat) (cap1 : Nat) (h0 : (nm = n)) (h1 : (mm = m)) (h2 : (m = n)) (h3 : (b = c)) (h4 : (n < (4611686018427387904 : Nat))) (hc0 : n ≤ cap0) (hc1 : m ≤ cap1) (hl0_0 : List.length b = nm) (hl1_0 : List.length c = mm) (w : World) (β : Env) (s : Unit) : Run Try.prog ⟨w, [], 2, β⟩ (loopB Try.f82 0) (sameL_mk n nm b m mm c cap0 cap1 n s) (To ⟨w, [], 2, β⟩ (.exit 0) (sameL_mk n nm b m mm c cap0 cap1 n s)) :=
  Run.of_outT (B := ⟨w, [], 2, β⟩) (Λ := noLam) (Ψ := noPsi) (fuel := 0) (ora := [false]) (l := [.forget [0, 1, 5, 6, 7, 8, 9, 10] 2]) mix tabOkQJ gam58_ok
    (vc := [((decide (((n : Nat) : Int) < ((n : Nat) : Int))) = false)]) (by kernel_rfl)
    (AllP_cons (decide_eq_false (by first | omega | (simp (disch := omega) only [wrapI]; omega))) (AllP_nil))

theorem sameL_loop (n : Nat) (nm : Nat) (b : List Int) (m : Nat) (mm : Nat) (c : List Int) (cap0 : Nat) (cap1 : Nat) (h0 : (nm = n)) (h1 : (mm = m)) (h2 : (m = n)) (h3 : (b = c)) (h4 : (n < (4611686018427387904 : Nat))) (hc0 : n ≤ cap0) (hc1 : m ≤ cap1) (hl0_0 : List.length b = nm) (hl1_0 : List.length c = mm) (w : World) (β : Env) (s : Unit) : Run Try.prog ⟨w, [], 2, β⟩ (.block 0 (.loop (loopB Try.f82 0))) (sameL_mk n nm b m mm c cap0 cap1 0 s) (To ⟨w, [], 2, β⟩ .normal (sameL_mk n nm b m mm c cap0 cap1 n (iter (sameL_step) n s))) :=
  Run.count (fun k => sameL_mk n nm b m mm c cap0 cap1 k (iter (sameL_step) k s)) n (fun k hk => sameL_round n nm b m mm c cap0 cap1 h0 h1 h2 h3 h4 hc0 hc1 hl0_0 hl1_0 w β k hk _) (ex := (.exit 0)) (by simp) (sameL_last n nm b m mm c cap0 cap1 h0 h1 h2 h3 h4 hc0 hc1 hl0_0 hl1_0 w β _)

set_option maxHeartbeats 1000000 in
theorem same_body0 (n : Nat) (nm : Nat) (b : List Int) (m : Nat) (mm : Nat) (c : List Int) (cap0 : Nat) (cap1 : Nat) (h0 : (nm = n)) (h1 : (mm = m)) (h2 : (m = n)) (h3 : (b = c)) (h4 : (n < (4611686018427387904 : Nat))) (hc0 : n ≤ cap0) (hc1 : m ≤ cap1) (hl0_0 : List.length b = nm) (hl1_0 : List.length c = mm) (w : World) (β : Env) : Body Try.prog (tabOf tabQJ) Try.f82 ⟨w, [], 2, β⟩ [.o (.a (.sl 0 (0 : Nat) n cap0)), .o (.a (.sl 1 (0 : Nat) m cap1))] [some ⟨false, [.ints .u8 nm b]⟩, some ⟨false, [.ints .u8 mm c]⟩] (fun ys _ => ys = [.a (.b true)]) :=
  Body.of_fin (Γ := gam58) (Λ := lamOf [(0, ⟨[.forget [0, 1, 5, 6, 7, 8, 9, 10] 2], .normal, (sameL_mk n nm b m mm c cap0 cap1 n (iter (sameL_step) n ()))⟩)]) (Ψ := noPsi) (fuel := 0) (m := 26) (c := (Try.f82.body.getD .skip)) mix tabOkQJ gam58_ok rfl (rs := [.tmp 4]) rfl rfl [false] []
    (vc := [(Run Try.prog ⟨w, [], 2, β⟩ (.block 0 (.loop (loopB Try.f82 0))) (sameL_mk n nm b m mm c cap0 cap1 0 ()) (To ⟨w, [], 2, β⟩ .normal (sameL_mk n nm b m mm c cap0 cap1 n (iter (sameL_step) n ())))), ((((n : Nat) : Int) != ((m : Nat) : Int)) = false)]) (by kernel_rfl)
    (AllP_cons (sameL_loop n nm b m mm c cap0 cap1 h0 h1 h2 h3 h4 hc0 hc1 hl0_0 hl1_0 w β ()) (AllP_cons (bne_eq_false_iff_eq.2 (by first | omega | (simp (disch := omega) only [wrapI]; omega))) (AllP_nil)))

theorem same_body (n : Nat) (nm : Nat) (b : List Int) (m : Nat) (mm : Nat) (c : List Int) (cap0 : Nat) (cap1 : Nat) (h0 : (nm = n)) (h1 : (mm = m)) (h2 : (m = n)) (h3 : (b = c)) (h4 : (n < (4611686018427387904 : Nat))) (w : World) (β : Env) : Body Try.prog (tabOf tabQJ) Try.f82 ⟨w, [], 2, β⟩ [.o (.a (.sl 0 (0 : Nat) n cap0)), .o (.a (.sl 1 (0 : Nat) m cap1))] [some ⟨false, [.ints .u8 nm b]⟩, some ⟨false, [.ints .u8 mm c]⟩] (fun ys _ => ys = [.a (.b true)]) :=
  Body.lens (c := (Try.f82.body.getD .skip)) rfl fun h => same_body0 n nm b m mm c cap0 cap1 h0 h1 h2 h3 h4 (h.caps 0 _ _ _ _ rfl) (h.caps 1 _ _ _ _ rfl) (h.lens 0 _ .u8 nm b rfl (by simp)) (h.lens 1 _ .u8 mm c rfl (by simp)) w β

def gam63 : Gam := greadV 82 [.s 1, .s 1] (fun vs args => match vs, args with | [⟨_, _, _, [.ints .u8 nm b]⟩, ⟨_, _, _, [.ints .u8 mm c]⟩], [a0, a1] => some ((nm = (lenOfA a0)) ∧ (mm = (lenOfA a1)) ∧ ((lenOfA a1) = (lenOfA a0)) ∧ (b = c) ∧ ((lenOfA a0) < (4611686018427387904 : Nat)), [.a (.b true)]) | _, _ => none) gam58
theorem gam63_ok : GamOk Try.prog gam63 := greadV_ok tabOkQJ Try.func82 gam58_ok Try.call82 (by
  intro vs args p xs h hv
  split at h
  · simp only [Option.some.injEq, Prod.mk.injEq] at h; obtain ⟨rfl, rfl⟩ := h; exact ⟨by rfl, fun caps w β => same_body _ _ _ _ _ _ _ _ hv.1 hv.2.1 hv.2.2.1 hv.2.2.2.1 hv.2.2.2.2 w β⟩
  · simp at h)

set_option maxHeartbeats 1000000 in
theorem intact1_body0 (m : Nat) (mc : Nat) (O : List Int) (m2 : Nat) (O2 : List Int) (h0 : (m2 = m)) (h1 : (O2 = O)) (h2 : (m < (4611686018427387904 : Nat))) (hl2_0 : List.length O = m) (hl4_0 : List.length O2 = m2) (w : World) (rw : List Nat) (β : Env) : Body Try.prog (tabOf tabQJ) Try.f24 ⟨w, rw, 5, β⟩ [.o (.a (.p 0 0))] [some ⟨false, [.rs 1 (0 : Nat) (1 : Nat) 1, .rs 3 (0 : Nat) (1 : Nat) 1, .raw (.slice none 0 0), .raw (.slice none 0 0), .raw (.slice none 0 0), .raw (.slice none 0 0), .raw (.slice none 0 0), .raw (.slice none 0 0), .raw (.slice none 0 0), .raw (.slice none 0 0), .raw (.slice none 0 0), .raw (.slice none 0 0), .raw (.slice none 0 0), .raw (.slice none 0 0), .raw (.slice none 0 0), .raw (.slice none 0 0), .raw (.slice none 0 0), .raw (.slice none 0 0), .raw (.slice none 0 0), .raw (.slice none 0 0), .raw (.slice none 0 0), .raw (.slice none 0 0), .raw (.slice none 0 0), .raw (.slice none 0 0), .raw (.slice none 0 0), .raw (.slice none 0 0), .raw (.slice none 0 0), .raw (.slice none 0 0), .raw (.slice none 0 0), .raw (.slice none 0 0)]⟩, some ⟨false, [.sl 2 (0 : Nat) m mc]⟩, some ⟨false, [.ints .u8 m O]⟩, some ⟨false, [.rs 4 (0 : Nat) m2 1]⟩, some ⟨false, [.ints .u8 m2 O2]⟩] (fun ys K' => ys = [.a (.b true)] ∧ K' = [some ⟨false, [.rs 1 (0 : Nat) (1 : Nat) 1, .rs 3 (0 : Nat) (1 : Nat) 1, .raw (.slice none 0 0), .raw (.slice none 0 0), .raw (.slice none 0 0), .raw (.slice none 0 0), .raw (.slice none 0 0), .raw (.slice none 0 0), .raw (.slice none 0 0), .raw (.slice none 0 0), .raw (.slice none 0 0), .raw (.slice none 0 0), .raw (.slice none 0 0), .raw (.slice none 0 0), .raw (.slice none 0 0), .raw (.slice none 0 0), .raw (.slice none 0 0), .raw (.slice none 0 0), .raw (.slice none 0 0), .raw (.slice none 0 0), .raw (.slice none 0 0), .raw (.slice none 0 0), .raw (.slice none 0 0), .raw (.slice none 0 0), .raw (.slice none 0 0), .raw (.slice none 0 0), .raw (.slice none 0 0), .raw (.slice none 0 0), .raw (.slice none 0 0), .raw (.slice none 0 0)]⟩, some ⟨false, [.sl 2 (0 : Nat) m mc]⟩, some ⟨false, [.ints .u8 m O]⟩, some ⟨false, [.rs 4 (0 : Nat) m2 1]⟩, some ⟨false, [.ints .u8 m2 O2]⟩]) :=
  Body.of_finK (Γ := gam63) (Λ := noLam) (Ψ := noPsi) (fuel := 2) (m := 393) (c := (Try.f24.body.getD .skip)) mix tabOkQJ gam63_ok rfl (rs := [.tmp 2]) rfl rfl [true, false, false, false, false, false, false, false, false, false, false, false, false, false, false, false, false] [] 5
    (vc := [(false = false), (false = false), (false = false), (false = false), (false = false), (false = false), (false = false), (false = false), (false = false), (false = false), (false = false), (false = false), (false = false), (false = false), (false = false), (false = false), (((((0 : Nat) + m) ≤ m) ∧ ((((0 : Nat) + m2) ≤ m2) ∧ True)) ∧ ((m = m) ∧ (m2 = m2) ∧ (m2 = m) ∧ ((sub O (0 : Nat) m) = (sub O2 (0 : Nat) m2)) ∧ (m < (4611686018427387904 : Nat)))), (((0 : Int) ≤ (0 : Int)) ∧ ((0 : Int) < (1 : Int))), (((0 : Int) ≤ (0 : Int)) ∧ ((0 : Int) < (1 : Int))), (true = true)]) (by kernel_rfl)
    (AllP_cons rfl (AllP_cons rfl (AllP_cons rfl (AllP_cons rfl (AllP_cons rfl (AllP_cons rfl (AllP_cons rfl (AllP_cons rfl (AllP_cons rfl (AllP_cons rfl (AllP_cons rfl (AllP_cons rfl (AllP_cons rfl (AllP_cons rfl (AllP_cons rfl (AllP_cons rfl (AllP_cons ⟨⟨(by first | omega | (simp (disch := omega) only [wrapI]; omega)), ⟨(by first | omega | (simp (disch := omega) only [wrapI]; omega)), trivial⟩⟩, ⟨rfl, rfl, h0, (by rw [h0, h1]), h2⟩⟩ (AllP_cons ⟨(by decide), (by decide)⟩ (AllP_cons ⟨(by decide), (by decide)⟩ (AllP_cons rfl (AllP_nil)))))))))))))))))))))

theorem intact1_body (m : Nat) (mc : Nat) (O : List Int) (m2 : Nat) (O2 : List Int) (h0 : (m2 = m)) (h1 : (O2 = O)) (h2 : (m < (4611686018427387904 : Nat))) (w : World) (rw : List Nat) (β : Env) : Body Try.prog (tabOf tabQJ) Try.f24 ⟨w, rw, 5, β⟩ [.o (.a (.p 0 0))] [some ⟨false, [.rs 1 (0 : Nat) (1 : Nat) 1, .rs 3 (0 : Nat) (1 : Nat) 1, .raw (.slice none 0 0), .raw (.slice none 0 0), .raw (.slice none 0 0), .raw (.slice none 0 0), .raw (.slice none 0 0), .raw (.slice none 0 0), .raw (.slice none 0 0), .raw (.slice none 0 0), .raw (.slice none 0 0), .raw (.slice none 0 0), .raw (.slice none 0 0), .raw (.slice none 0 0), .raw (.slice none 0 0), .raw (.slice none 0 0), .raw (.slice none 0 0), .raw (.slice none 0 0), .raw (.slice none 0 0), .raw (.slice none 0 0), .raw (.slice none 0 0), .raw (.slice none 0 0), .raw (.slice none 0 0), .raw (.slice none 0 0), .raw (.slice none 0 0), .raw (.slice none 0 0), .raw (.slice none 0 0), .raw (.slice none 0 0), .raw (.slice none 0 0), .raw (.slice none 0 0)]⟩, some ⟨false, [.sl 2 (0 : Nat) m mc]⟩, some ⟨false, [.ints .u8 m O]⟩, some ⟨false, [.rs 4 (0 : Nat) m2 1]⟩, some ⟨false, [.ints .u8 m2 O2]⟩] (fun ys K' => ys = [.a (.b true)] ∧ K' = [some ⟨false, [.rs 1 (0 : Nat) (1 : Nat) 1, .rs 3 (0 : Nat) (1 : Nat) 1, .raw (.slice none 0 0), .raw (.slice none 0 0), .raw (.slice none 0 0), .raw (.slice none 0 0), .raw (.slice none 0 0), .raw (.slice none 0 0), .raw (.slice none 0 0), .raw (.slice none 0 0), .raw (.slice none 0 0), .raw (.slice none 0 0), .raw (.slice none 0 0), .raw (.slice none 0 0), .raw (.slice none 0 0), .raw (.slice none 0 0), .raw (.slice none 0 0), .raw (.slice none 0 0), .raw (.slice none 0 0), .raw (.slice none 0 0), .raw (.slice none 0 0), .raw (.slice none 0 0), .raw (.slice none 0 0), .raw (.slice none 0 0), .raw (.slice none 0 0), .raw (.slice none 0 0), .raw (.slice none 0 0), .raw (.slice none 0 0), .raw (.slice none 0 0), .raw (.slice none 0 0)]⟩, some ⟨false, [.sl 2 (0 : Nat) m mc]⟩, some ⟨false, [.ints .u8 m O]⟩, some ⟨false, [.rs 4 (0 : Nat) m2 1]⟩, some ⟨false, [.ints .u8 m2 O2]⟩]) :=
  Body.lens (c := (Try.f24.body.getD .skip)) rfl fun h => intact1_body0 m mc O m2 O2 h0 h1 h2 (h.lens 2 _ .u8 m O rfl (by simp)) (h.lens 4 _ .u8 m2 O2 rfl (by simp)) w rw β

def gam65 : Gam := gcall 24 [false, false, false, false, false] [.w] (fun wk vs args => match wk, vs, args with | [⟨false, [.rs 1 (0 : Nat) (1 : Nat) 1, .rs 3 (0 : Nat) (1 : Nat) 1, .raw (.slice none 0 0), .raw (.slice none 0 0), .raw (.slice none 0 0), .raw (.slice none 0 0), .raw (.slice none 0 0), .raw (.slice none 0 0), .raw (.slice none 0 0), .raw (.slice none 0 0), .raw (.slice none 0 0), .raw (.slice none 0 0), .raw (.slice none 0 0), .raw (.slice none 0 0), .raw (.slice none 0 0), .raw (.slice none 0 0), .raw (.slice none 0 0), .raw (.slice none 0 0), .raw (.slice none 0 0), .raw (.slice none 0 0), .raw (.slice none 0 0), .raw (.slice none 0 0), .raw (.slice none 0 0), .raw (.slice none 0 0), .raw (.slice none 0 0), .raw (.slice none 0 0), .raw (.slice none 0 0), .raw (.slice none 0 0), .raw (.slice none 0 0), .raw (.slice none 0 0)]⟩, ⟨false, [.sl 2 (0 : Nat) m mc]⟩, ⟨false, [.ints .u8 m_1 O]⟩, ⟨false, [.rs 4 (0 : Nat) m2 1]⟩, ⟨false, [.ints .u8 m2_1 O2]⟩], [], [.o (.a (.p 0 0))] => some ((m_1 = m) ∧ (m2_1 = m2) ∧ (m2 = m) ∧ (O2 = O) ∧ (m < (4611686018427387904 : Nat)), [.a (.b true)], [some ⟨false, [.rs 1 (0 : Nat) (1 : Nat) 1, .rs 3 (0 : Nat) (1 : Nat) 1, .raw (.slice none 0 0), .raw (.slice none 0 0), .raw (.slice none 0 0), .raw (.slice none 0 0), .raw (.slice none 0 0), .raw (.slice none 0 0), .raw (.slice none 0 0), .raw (.slice none 0 0), .raw (.slice none 0 0), .raw (.slice none 0 0), .raw (.slice none 0 0), .raw (.slice none 0 0), .raw (.slice none 0 0), .raw (.slice none 0 0), .raw (.slice none 0 0), .raw (.slice none 0 0), .raw (.slice none 0 0), .raw (.slice none 0 0), .raw (.slice none 0 0), .raw (.slice none 0 0), .raw (.slice none 0 0), .raw (.slice none 0 0), .raw (.slice none 0 0), .raw (.slice none 0 0), .raw (.slice none 0 0), .raw (.slice none 0 0), .raw (.slice none 0 0), .raw (.slice none 0 0)]⟩, some ⟨false, [.sl 2 (0 : Nat) m mc]⟩, some ⟨false, [.ints .u8 m O]⟩, some ⟨false, [.rs 4 (0 : Nat) m2 1]⟩, some ⟨false, [.ints .u8 m2 O2]⟩]) | _, _, _ => none) gam63
theorem gam65_ok : GamOk Try.prog gam65 := gcall_ok tabOkQJ Try.func24 gam63_ok Try.call24 (by
  intro wk vs args p xs K1 h hv
  split at h
  · simp only [Option.some.injEq, Prod.mk.injEq] at h; obtain ⟨rfl, rfl, rfl⟩ := h; obtain ⟨g0, g1, g2, g3, g4⟩ := hv; subst g0; subst g1; exact fun caps w rw β => intact1_body _ _ _ _ _ g2 g3 g4 w rw β
  · simp at h)

end Go.Proofs.Ytcpoldghkiiggaa.X

/- What Given lays down of bytes. -/
namespace Go.Proofs.Ytcpoldghkiiggaa.X
open Go Go.Proofs
set_option linter.unusedVariables false

theorem sub_all (l : List Int) (n : Nat) (h : l.length ≤ n) : sub l 0 n = l := by
  unfold sub; rw [List.drop_zero, List.take_of_length_le h]
end Go.Proofs.Ytcpoldghkiiggaa.X

/- Reduce, piece by piece. -/
namespace Go.Proofs.Ytcpoldghkiiggaa.X
open Go Go.Proofs
set_option linter.unusedVariables false
set_option maxRecDepth 100000

theorem dg_n {n : Nat} (h : n ≤ 140737488355328) : Int.toNat (IntKind.i64.wrap (Int.tdiv (IntKind.i64.wrap (((n : Nat) : Int) + (3 : Int))) (4 : Int))) = (n + 3) / 4 := by
  rw [wrapI (x := ((n : Nat) : Int) + 3) (by omega) (by omega), Int.tdiv_eq_ediv_of_nonneg (by omega), wrapI (by omega) (by omega)]
  omega
theorem dg_n2 {n : Nat} (h : n ≤ 140737488355328) : IntKind.i64.wrap (Int.tdiv (IntKind.i64.wrap (((n : Nat) : Int) + (3 : Int))) (4 : Int)) = (((n + 3) / 4 : Nat) : Int) := by
  rw [wrapI (x := ((n : Nat) : Int) + 3) (by omega) (by omega), Int.tdiv_eq_ediv_of_nonneg (by omega), wrapI (by omega) (by omega)]
  omega
theorem dg_i2 {k : Nat} (h : k ≤ 140737488355328) : IntKind.i64.wrap (Int.tdiv ((k : Nat) : Int) (4 : Int)) = ((k / 4 : Nat) : Int) := by
  rw [Int.tdiv_eq_ediv_of_nonneg (by omega), wrapI (by omega) (by omega)]
  omega
theorem tim_num (S T : List Int) (h0 : Wds S) (h1 : Wds T) (h2 : LtL T) (w : World) : Body Try.prog (tabOf tabNT) Try.f73 ⟨w, [], 0, noEnv⟩ (toA [.g [.ints .u64 (4 : Nat) S], .g [.ints .u64 (4 : Nat) T]]) [] (fun ys _ => ys = [.g [.ints .u64 (4 : Nat) (W4 (modL (V4 S * V4 T)))]]) := by
  have e : times S T = W4 (modL (V4 S * V4 T)) := by
    unfold times
    rw [V4_mont, V4_radx, times_eq]
  exact e ▸ times_body S T h0 h1 h2 w

theorem byt_sub {b : List Int} (h : Byt b) (c m : Nat) : Byt (sub b c m) := fun x hx => h x (List.mem_of_mem_drop (List.mem_of_mem_take hx))
end Go.Proofs.Ytcpoldghkiiggaa.X

