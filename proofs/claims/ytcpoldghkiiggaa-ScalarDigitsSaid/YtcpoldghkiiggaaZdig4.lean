/- Texts of this session, put together (part 4), less what nothing uses. -/
import Derived.Test.YtcpoldghkiiggaaZdig3
import Derived.KernelRfl
/- Texts of this session, put together (part 2). -/
/- Eight words of 32 bits: twice, difference, comparison. -/
namespace Go.Proofs.Ytcpoldghkiiggaa.X
open Go Go.Proofs
set_option linter.unusedVariables false

theorem wrap32 (x : Int) : IntKind.u32.wrap x = x % 4294967296 := by
  show (let m := x % (4294967296 : Int); if (false && decide (m ≥ (2147483648 : Int))) = true then m - 4294967296 else m) = x % 4294967296
  simp only [Bool.false_and, Bool.false_eq_true, if_false]

def Wd8 (S : List Int) : Prop := ∀ x ∈ S, 0 ≤ x ∧ x < 4294967296
theorem eight8 {S : List Int} (h : S.length = 8) : ∃ a0 a1 a2 a3 a4 a5 a6 a7, S = [a0, a1, a2, a3, a4, a5, a6, a7] := by
  match S, h with
  | [a0, a1, a2, a3, a4, a5, a6, a7], _ => exact ⟨a0, a1, a2, a3, a4, a5, a6, a7, rfl⟩
def V8 : List Int → Int
  | [a0, a1, a2, a3, a4, a5, a6, a7] => a0 + 4294967296 * a1 + 18446744073709551616 * a2 + 79228162514264337593543950336 * a3 + 340282366920938463463374607431768211456 * a4 + 1461501637330902918203684832716283019655932542976 * a5 + 6277101735386680763835789423207666416102355444464034512896 * a6 + 26959946667150639794667015087019630673637144422540572481103610249216 * a7
  | _ => 0
def W8 (v : Int) : List Int := [v % 4294967296, v / 4294967296 % 4294967296, v / 18446744073709551616 % 4294967296, v / 79228162514264337593543950336 % 4294967296, v / 340282366920938463463374607431768211456 % 4294967296, v / 1461501637330902918203684832716283019655932542976 % 4294967296, v / 6277101735386680763835789423207666416102355444464034512896 % 4294967296, v / 26959946667150639794667015087019630673637144422540572481103610249216 % 4294967296]
theorem V8_W8 {v : Int} (h0 : 0 ≤ v) (h1 : v < 115792089237316195423570985008687907853269984665640564039457584007913129639936) : V8 (W8 v) = v := by
  show (v % 4294967296) + 4294967296 * (v / 4294967296 % 4294967296) + 18446744073709551616 * (v / 18446744073709551616 % 4294967296) + 79228162514264337593543950336 * (v / 79228162514264337593543950336 % 4294967296) + 340282366920938463463374607431768211456 * (v / 340282366920938463463374607431768211456 % 4294967296) + 1461501637330902918203684832716283019655932542976 * (v / 1461501637330902918203684832716283019655932542976 % 4294967296) + 6277101735386680763835789423207666416102355444464034512896 * (v / 6277101735386680763835789423207666416102355444464034512896 % 4294967296) + 26959946667150639794667015087019630673637144422540572481103610249216 * (v / 26959946667150639794667015087019630673637144422540572481103610249216 % 4294967296) = v
  omega
theorem dd (a : Int) {b : Int} (h : 0 ≤ b) : a / b / 4294967296 = a / (b * 4294967296) := by first | exact Int.ediv_ediv_of_nonneg h | exact Int.ediv_ediv_eq_ediv_mul a h | exact Int.ediv_ediv h
theorem W8_eq {a0 a1 a2 a3 a4 a5 a6 a7 v : Int} (h : a0 + 4294967296 * a1 + 18446744073709551616 * a2 + 79228162514264337593543950336 * a3 + 340282366920938463463374607431768211456 * a4 + 1461501637330902918203684832716283019655932542976 * a5 + 6277101735386680763835789423207666416102355444464034512896 * a6 + 26959946667150639794667015087019630673637144422540572481103610249216 * a7 = v) (k0 : 0 ≤ a0 ∧ a0 < 4294967296) (k1 : 0 ≤ a1 ∧ a1 < 4294967296) (k2 : 0 ≤ a2 ∧ a2 < 4294967296) (k3 : 0 ≤ a3 ∧ a3 < 4294967296) (k4 : 0 ≤ a4 ∧ a4 < 4294967296) (k5 : 0 ≤ a5 ∧ a5 < 4294967296) (k6 : 0 ≤ a6 ∧ a6 < 4294967296) (k7 : 0 ≤ a7 ∧ a7 < 4294967296) : [a0, a1, a2, a3, a4, a5, a6, a7] = W8 v := by
  unfold W8
  have e0 : v = (a0 + 4294967296 * (a1 + 4294967296 * (a2 + 4294967296 * (a3 + 4294967296 * (a4 + 4294967296 * (a5 + 4294967296 * (a6 + 4294967296 * a7))))))) := by omega
  have e1 : v / 4294967296 = (a1 + 4294967296 * (a2 + 4294967296 * (a3 + 4294967296 * (a4 + 4294967296 * (a5 + 4294967296 * (a6 + 4294967296 * a7)))))) := by
    omega
  have e2 : v / 18446744073709551616 = (a2 + 4294967296 * (a3 + 4294967296 * (a4 + 4294967296 * (a5 + 4294967296 * (a6 + 4294967296 * a7))))) := by
    rw [show (18446744073709551616 : Int) = 4294967296 * 4294967296 by rfl, ← dd _ (by omega), e1]; clear e0 e1 h; omega
  have e3 : v / 79228162514264337593543950336 = (a3 + 4294967296 * (a4 + 4294967296 * (a5 + 4294967296 * (a6 + 4294967296 * a7)))) := by
    rw [show (79228162514264337593543950336 : Int) = 18446744073709551616 * 4294967296 by rfl, ← dd _ (by omega), e2]; clear e0 e1 e2 h; omega
  have e4 : v / 340282366920938463463374607431768211456 = (a4 + 4294967296 * (a5 + 4294967296 * (a6 + 4294967296 * a7))) := by
    rw [show (340282366920938463463374607431768211456 : Int) = 79228162514264337593543950336 * 4294967296 by rfl, ← dd _ (by omega), e3]; clear e0 e1 e2 e3 h; omega
  have e5 : v / 1461501637330902918203684832716283019655932542976 = (a5 + 4294967296 * (a6 + 4294967296 * a7)) := by
    rw [show (1461501637330902918203684832716283019655932542976 : Int) = 340282366920938463463374607431768211456 * 4294967296 by rfl, ← dd _ (by omega), e4]; clear e0 e1 e2 e3 e4 h; omega
  have e6 : v / 6277101735386680763835789423207666416102355444464034512896 = (a6 + 4294967296 * a7) := by
    rw [show (6277101735386680763835789423207666416102355444464034512896 : Int) = 1461501637330902918203684832716283019655932542976 * 4294967296 by rfl, ← dd _ (by omega), e5]; clear e0 e1 e2 e3 e4 e5 h; omega
  have e7 : v / 26959946667150639794667015087019630673637144422540572481103610249216 = a7 := by
    rw [show (26959946667150639794667015087019630673637144422540572481103610249216 : Int) = 6277101735386680763835789423207666416102355444464034512896 * 4294967296 by rfl, ← dd _ (by omega), e6]; clear e0 e1 e2 e3 e4 e5 e6 h; omega
  have h0 : v % 4294967296 = a0 := by rw [e0]; clear h e0 e1 e2 e3 e4 e5 e6 e7; omega
  have h1 : v / 4294967296 % 4294967296 = a1 := by rw [e1]; clear h e0 e1 e2 e3 e4 e5 e6 e7; omega
  have h2 : v / 18446744073709551616 % 4294967296 = a2 := by rw [e2]; clear h e0 e1 e2 e3 e4 e5 e6 e7; omega
  have h3 : v / 79228162514264337593543950336 % 4294967296 = a3 := by rw [e3]; clear h e0 e1 e2 e3 e4 e5 e6 e7; omega
  have h4 : v / 340282366920938463463374607431768211456 % 4294967296 = a4 := by rw [e4]; clear h e0 e1 e2 e3 e4 e5 e6 e7; omega
  have h5 : v / 1461501637330902918203684832716283019655932542976 % 4294967296 = a5 := by rw [e5]; clear h e0 e1 e2 e3 e4 e5 e6 e7; omega
  have h6 : v / 6277101735386680763835789423207666416102355444464034512896 % 4294967296 = a6 := by rw [e6]; clear h e0 e1 e2 e3 e4 e5 e6 e7; omega
  have h7 : v / 26959946667150639794667015087019630673637144422540572481103610249216 % 4294967296 = a7 := by rw [e7]; clear h e0 e1 e2 e3 e4 e5 e6 e7; omega
  rw [h0, h1, h2, h3, h4, h5, h6, h7]
theorem wd8_W8 (v : Int) : Wd8 (W8 v) := by
  intro x hx
  unfold W8 at hx
  simp only [List.mem_cons, List.not_mem_nil, or_false] at hx
  rcases hx with rfl | rfl | rfl | rfl | rfl | rfl | rfl | rfl <;> omega

theorem or32 {a c : Int} (h0 : 0 ≤ a) (h1 : a < 4294967296) (hc : 0 ≤ c ∧ c ≤ 1) : bits2 .or .u32 (shl .u32 a 1) c = 2 * a % 4294967296 + c := by
  have e1 : shl .u32 a 1 = 2 * (a % 2147483648) := by
    have : shl .u32 a 1 = IntKind.u32.wrap (a * 2) := rfl
    rw [this, wrap32]; omega
  rw [e1]
  obtain ⟨m, hm⟩ := Int.eq_ofNat_of_zero_le (show 0 ≤ a % 2147483648 by omega)
  obtain ⟨y, rfl⟩ := Int.eq_ofNat_of_zero_le hc.1
  rw [hm]
  have hm2 : m < 2147483648 := by omega
  have e : bits2 .or .u32 (2 * ((m : Nat) : Int)) ((y : Nat) : Int) = IntKind.u32.wrap (((BitVec.ofInt 32 (2 * ((m : Nat) : Int)) ||| BitVec.ofInt 32 ((y : Nat) : Int)).toNat : Nat) : Int) := rfl
  have t1 : (BitVec.ofInt 32 (2 * ((m : Nat) : Int))).toNat = 2 ^ 1 * m := by
    rw [BitVec.toNat_ofInt]
    show ((2 * ((m : Nat) : Int)) % 4294967296).toNat = 2 * m
    omega
  have t2 : (BitVec.ofInt 32 ((y : Nat) : Int)).toNat = y := by
    rw [BitVec.toNat_ofInt]
    show (((y : Nat) : Int) % 4294967296).toNat = y
    omega
  rw [e, BitVec.toNat_or, t1, t2, ← Nat.two_pow_add_eq_or_of_lt (show y < 2 ^ 1 by omega), wrap32]
  omega
theorem shr32_31 {a : Int} : shr .u32 a 31 = a / 2147483648 := by
  have e : shr .u32 a 31 = a.fdiv 2147483648 := rfl
  rw [e, Int.fdiv_eq_ediv_of_nonneg _ (by omega)]

theorem tw_eq {S : List Int} {b : Int} (h : Wd8 S) (l : S.length = 8) (hb : 0 ≤ b ∧ b ≤ 1) : twA S b = W8 ((2 * V8 S + b) % 115792089237316195423570985008687907853269984665640564039457584007913129639936) := by
  obtain ⟨a0, a1, a2, a3, a4, a5, a6, a7, rfl⟩ := eight8 l
  have k0 := h a0 (by simp)
  have k1 := h a1 (by simp)
  have k2 := h a2 (by simp)
  have k3 := h a3 (by simp)
  have k4 := h a4 (by simp)
  have k5 := h a5 (by simp)
  have k6 := h a6 (by simp)
  have k7 := h a7 (by simp)
  show [bits2 .or .u32 (shl .u32 a0 1) (b), bits2 .or .u32 (shl .u32 a1 1) (shr .u32 a0 31), bits2 .or .u32 (shl .u32 a2 1) (shr .u32 a1 31), bits2 .or .u32 (shl .u32 a3 1) (shr .u32 a2 31), bits2 .or .u32 (shl .u32 a4 1) (shr .u32 a3 31), bits2 .or .u32 (shl .u32 a5 1) (shr .u32 a4 31), bits2 .or .u32 (shl .u32 a6 1) (shr .u32 a5 31), bits2 .or .u32 (shl .u32 a7 1) (shr .u32 a6 31)] = _
  rw [or32 k0.1 k0.2 hb, or32 k1.1 k1.2 (by rw [shr32_31]; omega), or32 k2.1 k2.2 (by rw [shr32_31]; omega), or32 k3.1 k3.2 (by rw [shr32_31]; omega), or32 k4.1 k4.2 (by rw [shr32_31]; omega), or32 k5.1 k5.2 (by rw [shr32_31]; omega), or32 k6.1 k6.2 (by rw [shr32_31]; omega), or32 k7.1 k7.2 (by rw [shr32_31]; omega)]
  simp only [shr32_31]
  clear h l
  unfold V8
  refine W8_eq ?_ ?_ ?_ ?_ ?_ ?_ ?_ ?_ ?_
  · simp only
    omega
  all_goals omega

def dW (a b c : Int) : Int := IntKind.u64.wrap (IntKind.u64.wrap (IntKind.u64.wrap a - IntKind.u64.wrap b) - c)
theorem dW_eq {a b c : Int} (ha : 0 ≤ a ∧ a < 4294967296) (hb : 0 ≤ b ∧ b < 4294967296) (hc : 0 ≤ c ∧ c ≤ 1) :
    IntKind.u32.wrap (dW a b c) = a - b - c + 4294967296 * shr .u64 (dW a b c) 63 ∧ (0 ≤ IntKind.u32.wrap (dW a b c) ∧ IntKind.u32.wrap (dW a b c) < 4294967296) ∧ (0 ≤ shr .u64 (dW a b c) 63 ∧ shr .u64 (dW a b c) 63 ≤ 1) := by
  have e : shr .u64 (dW a b c) 63 = (dW a b c) / 9223372036854775808 := by
    have e : shr .u64 (dW a b c) 63 = (dW a b c).fdiv 9223372036854775808 := rfl
    rw [e, Int.fdiv_eq_ediv_of_nonneg _ (by omega)]
  rw [e, wrap32]
  unfold dW
  simp only [wrap64]
  omega

theorem mi_eq {S T : List Int} (hS : Wd8 S) (hT : Wd8 T) (lS : S.length = 8) (lT : T.length = 8) : miA S T = W8 (difR (V8 S) (V8 T)) := by
  obtain ⟨a0, a1, a2, a3, a4, a5, a6, a7, rfl⟩ := eight8 lS
  obtain ⟨b0, b1, b2, b3, b4, b5, b6, b7, rfl⟩ := eight8 lT
  have j0 := hS a0 (by simp)
  have k0 := hT b0 (by simp)
  have j1 := hS a1 (by simp)
  have k1 := hT b1 (by simp)
  have j2 := hS a2 (by simp)
  have k2 := hT b2 (by simp)
  have j3 := hS a3 (by simp)
  have k3 := hT b3 (by simp)
  have j4 := hS a4 (by simp)
  have k4 := hT b4 (by simp)
  have j5 := hS a5 (by simp)
  have k5 := hT b5 (by simp)
  have j6 := hS a6 (by simp)
  have k6 := hT b6 (by simp)
  have j7 := hS a7 (by simp)
  have k7 := hT b7 (by simp)
  have e0 := dW_eq j0 k0 (c := 0) (by omega)
  have e1 := dW_eq j1 k1 e0.2.2
  have e2 := dW_eq j2 k2 e1.2.2
  have e3 := dW_eq j3 k3 e2.2.2
  have e4 := dW_eq j4 k4 e3.2.2
  have e5 := dW_eq j5 k5 e4.2.2
  have e6 := dW_eq j6 k6 e5.2.2
  have e7 := dW_eq j7 k7 e6.2.2
  show [IntKind.u32.wrap (dW a0 b0 0), IntKind.u32.wrap (dW a1 b1 (shr .u64 (dW a0 b0 0) 63)), IntKind.u32.wrap (dW a2 b2 (shr .u64 (dW a1 b1 (shr .u64 (dW a0 b0 0) 63)) 63)), IntKind.u32.wrap (dW a3 b3 (shr .u64 (dW a2 b2 (shr .u64 (dW a1 b1 (shr .u64 (dW a0 b0 0) 63)) 63)) 63)), IntKind.u32.wrap (dW a4 b4 (shr .u64 (dW a3 b3 (shr .u64 (dW a2 b2 (shr .u64 (dW a1 b1 (shr .u64 (dW a0 b0 0) 63)) 63)) 63)) 63)), IntKind.u32.wrap (dW a5 b5 (shr .u64 (dW a4 b4 (shr .u64 (dW a3 b3 (shr .u64 (dW a2 b2 (shr .u64 (dW a1 b1 (shr .u64 (dW a0 b0 0) 63)) 63)) 63)) 63)) 63)), IntKind.u32.wrap (dW a6 b6 (shr .u64 (dW a5 b5 (shr .u64 (dW a4 b4 (shr .u64 (dW a3 b3 (shr .u64 (dW a2 b2 (shr .u64 (dW a1 b1 (shr .u64 (dW a0 b0 0) 63)) 63)) 63)) 63)) 63)) 63)), IntKind.u32.wrap (dW a7 b7 (shr .u64 (dW a6 b6 (shr .u64 (dW a5 b5 (shr .u64 (dW a4 b4 (shr .u64 (dW a3 b3 (shr .u64 (dW a2 b2 (shr .u64 (dW a1 b1 (shr .u64 (dW a0 b0 0) 63)) 63)) 63)) 63)) 63)) 63)) 63))] = _
  generalize shr .u64 (dW a7 b7 (shr .u64 (dW a6 b6 (shr .u64 (dW a5 b5 (shr .u64 (dW a4 b4 (shr .u64 (dW a3 b3 (shr .u64 (dW a2 b2 (shr .u64 (dW a1 b1 (shr .u64 (dW a0 b0 0) 63)) 63)) 63)) 63)) 63)) 63)) 63)) 63 = c7 at *
  generalize IntKind.u32.wrap (dW a7 b7 (shr .u64 (dW a6 b6 (shr .u64 (dW a5 b5 (shr .u64 (dW a4 b4 (shr .u64 (dW a3 b3 (shr .u64 (dW a2 b2 (shr .u64 (dW a1 b1 (shr .u64 (dW a0 b0 0) 63)) 63)) 63)) 63)) 63)) 63)) 63)) = s7 at *
  generalize shr .u64 (dW a6 b6 (shr .u64 (dW a5 b5 (shr .u64 (dW a4 b4 (shr .u64 (dW a3 b3 (shr .u64 (dW a2 b2 (shr .u64 (dW a1 b1 (shr .u64 (dW a0 b0 0) 63)) 63)) 63)) 63)) 63)) 63)) 63 = c6 at *
  generalize IntKind.u32.wrap (dW a6 b6 (shr .u64 (dW a5 b5 (shr .u64 (dW a4 b4 (shr .u64 (dW a3 b3 (shr .u64 (dW a2 b2 (shr .u64 (dW a1 b1 (shr .u64 (dW a0 b0 0) 63)) 63)) 63)) 63)) 63)) 63)) = s6 at *
  generalize shr .u64 (dW a5 b5 (shr .u64 (dW a4 b4 (shr .u64 (dW a3 b3 (shr .u64 (dW a2 b2 (shr .u64 (dW a1 b1 (shr .u64 (dW a0 b0 0) 63)) 63)) 63)) 63)) 63)) 63 = c5 at *
  generalize IntKind.u32.wrap (dW a5 b5 (shr .u64 (dW a4 b4 (shr .u64 (dW a3 b3 (shr .u64 (dW a2 b2 (shr .u64 (dW a1 b1 (shr .u64 (dW a0 b0 0) 63)) 63)) 63)) 63)) 63)) = s5 at *
  generalize shr .u64 (dW a4 b4 (shr .u64 (dW a3 b3 (shr .u64 (dW a2 b2 (shr .u64 (dW a1 b1 (shr .u64 (dW a0 b0 0) 63)) 63)) 63)) 63)) 63 = c4 at *
  generalize IntKind.u32.wrap (dW a4 b4 (shr .u64 (dW a3 b3 (shr .u64 (dW a2 b2 (shr .u64 (dW a1 b1 (shr .u64 (dW a0 b0 0) 63)) 63)) 63)) 63)) = s4 at *
  generalize shr .u64 (dW a3 b3 (shr .u64 (dW a2 b2 (shr .u64 (dW a1 b1 (shr .u64 (dW a0 b0 0) 63)) 63)) 63)) 63 = c3 at *
  generalize IntKind.u32.wrap (dW a3 b3 (shr .u64 (dW a2 b2 (shr .u64 (dW a1 b1 (shr .u64 (dW a0 b0 0) 63)) 63)) 63)) = s3 at *
  generalize shr .u64 (dW a2 b2 (shr .u64 (dW a1 b1 (shr .u64 (dW a0 b0 0) 63)) 63)) 63 = c2 at *
  generalize IntKind.u32.wrap (dW a2 b2 (shr .u64 (dW a1 b1 (shr .u64 (dW a0 b0 0) 63)) 63)) = s2 at *
  generalize shr .u64 (dW a1 b1 (shr .u64 (dW a0 b0 0) 63)) 63 = c1 at *
  generalize IntKind.u32.wrap (dW a1 b1 (shr .u64 (dW a0 b0 0) 63)) = s1 at *
  generalize shr .u64 (dW a0 b0 0) 63 = c0 at *
  generalize IntKind.u32.wrap (dW a0 b0 0) = s0 at *
  clear hS hT lS lT
  unfold difR V8
  refine W8_eq ?_ e0.2.1 e1.2.1 e2.2.1 e3.2.1 e4.2.1 e5.2.1 e6.2.1 e7.2.1
  simp only
  omega

theorem be_can (S : List Int) (T : List Int) (h0 : Wd8 S) (h1 : Wd8 T) (w : World) : Body Try.prog (tabOf tabNU) Try.f99 ⟨w, [], 0, noEnv⟩ (toA [.g [.ints .u32 (8 : Nat) S], .g [.ints .u32 (8 : Nat) T]]) [] (fun ys _ => ys = [.a (.b (decide (V8 S < V8 T)))]) :=
  Body.lens (c := (Try.f99.body.getD .skip)) rfl fun h => by
    have lS := h.vals 0 _ _ _ rfl
    have lT := h.vals 1 _ _ _ rfl
    obtain ⟨a0, a1, a2, a3, a4, a5, a6, a7, rfl⟩ := eight8 lS
    obtain ⟨b0, b1, b2, b3, b4, b5, b6, b7, rfl⟩ := eight8 lT
    have j0 := h0 a0 (by simp)
    have k0 := h1 b0 (by simp)
    have j1 := h0 a1 (by simp)
    have k1 := h1 b1 (by simp)
    have j2 := h0 a2 (by simp)
    have k2 := h1 b2 (by simp)
    have j3 := h0 a3 (by simp)
    have k3 := h1 b3 (by simp)
    have j4 := h0 a4 (by simp)
    have k4 := h1 b4 (by simp)
    have j5 := h0 a5 (by simp)
    have k5 := h1 b5 (by simp)
    have j6 := h0 a6 (by simp)
    have k6 := h1 b6 (by simp)
    have j7 := h0 a7 (by simp)
    have k7 := h1 b7 (by simp)
    by_cases e7 : a7 = b7
    rotate_left
    · refine (be8_body0 _ _ lS lT  e7 w).mono fun xs K hx => ?_
      subst hx
      have e : be8 [a0, a1, a2, a3, a4, a5, a6, a7] [b0, b1, b2, b3, b4, b5, b6, b7] = decide (V8 [a0, a1, a2, a3, a4, a5, a6, a7] < V8 [b0, b1, b2, b3, b4, b5, b6, b7]) := by
        show decide (a7 < b7) = decide (a0 + 4294967296 * a1 + 18446744073709551616 * a2 + 79228162514264337593543950336 * a3 + 340282366920938463463374607431768211456 * a4 + 1461501637330902918203684832716283019655932542976 * a5 + 6277101735386680763835789423207666416102355444464034512896 * a6 + 26959946667150639794667015087019630673637144422540572481103610249216 * a7 < b0 + 4294967296 * b1 + 18446744073709551616 * b2 + 79228162514264337593543950336 * b3 + 340282366920938463463374607431768211456 * b4 + 1461501637330902918203684832716283019655932542976 * b5 + 6277101735386680763835789423207666416102355444464034512896 * b6 + 26959946667150639794667015087019630673637144422540572481103610249216 * b7)
        exact decide_eq_decide.2 (by clear h0 h1 h lS lT; omega)
      rw [e]
    by_cases e6 : a6 = b6
    rotate_left
    · refine (be7_body0 _ _ lS lT e7 e6 w).mono fun xs K hx => ?_
      subst hx
      have e : be7 [a0, a1, a2, a3, a4, a5, a6, a7] [b0, b1, b2, b3, b4, b5, b6, b7] = decide (V8 [a0, a1, a2, a3, a4, a5, a6, a7] < V8 [b0, b1, b2, b3, b4, b5, b6, b7]) := by
        show decide (a6 < b6) = decide (a0 + 4294967296 * a1 + 18446744073709551616 * a2 + 79228162514264337593543950336 * a3 + 340282366920938463463374607431768211456 * a4 + 1461501637330902918203684832716283019655932542976 * a5 + 6277101735386680763835789423207666416102355444464034512896 * a6 + 26959946667150639794667015087019630673637144422540572481103610249216 * a7 < b0 + 4294967296 * b1 + 18446744073709551616 * b2 + 79228162514264337593543950336 * b3 + 340282366920938463463374607431768211456 * b4 + 1461501637330902918203684832716283019655932542976 * b5 + 6277101735386680763835789423207666416102355444464034512896 * b6 + 26959946667150639794667015087019630673637144422540572481103610249216 * b7)
        exact decide_eq_decide.2 (by clear h0 h1 h lS lT; omega)
      rw [e]
    by_cases e5 : a5 = b5
    rotate_left
    · refine (be6_body0 _ _ lS lT e7 e6 e5 w).mono fun xs K hx => ?_
      subst hx
      have e : be6 [a0, a1, a2, a3, a4, a5, a6, a7] [b0, b1, b2, b3, b4, b5, b6, b7] = decide (V8 [a0, a1, a2, a3, a4, a5, a6, a7] < V8 [b0, b1, b2, b3, b4, b5, b6, b7]) := by
        show decide (a5 < b5) = decide (a0 + 4294967296 * a1 + 18446744073709551616 * a2 + 79228162514264337593543950336 * a3 + 340282366920938463463374607431768211456 * a4 + 1461501637330902918203684832716283019655932542976 * a5 + 6277101735386680763835789423207666416102355444464034512896 * a6 + 26959946667150639794667015087019630673637144422540572481103610249216 * a7 < b0 + 4294967296 * b1 + 18446744073709551616 * b2 + 79228162514264337593543950336 * b3 + 340282366920938463463374607431768211456 * b4 + 1461501637330902918203684832716283019655932542976 * b5 + 6277101735386680763835789423207666416102355444464034512896 * b6 + 26959946667150639794667015087019630673637144422540572481103610249216 * b7)
        exact decide_eq_decide.2 (by clear h0 h1 h lS lT; omega)
      rw [e]
    by_cases e4 : a4 = b4
    rotate_left
    · refine (be5_body0 _ _ lS lT e7 e6 e5 e4 w).mono fun xs K hx => ?_
      subst hx
      have e : be5 [a0, a1, a2, a3, a4, a5, a6, a7] [b0, b1, b2, b3, b4, b5, b6, b7] = decide (V8 [a0, a1, a2, a3, a4, a5, a6, a7] < V8 [b0, b1, b2, b3, b4, b5, b6, b7]) := by
        show decide (a4 < b4) = decide (a0 + 4294967296 * a1 + 18446744073709551616 * a2 + 79228162514264337593543950336 * a3 + 340282366920938463463374607431768211456 * a4 + 1461501637330902918203684832716283019655932542976 * a5 + 6277101735386680763835789423207666416102355444464034512896 * a6 + 26959946667150639794667015087019630673637144422540572481103610249216 * a7 < b0 + 4294967296 * b1 + 18446744073709551616 * b2 + 79228162514264337593543950336 * b3 + 340282366920938463463374607431768211456 * b4 + 1461501637330902918203684832716283019655932542976 * b5 + 6277101735386680763835789423207666416102355444464034512896 * b6 + 26959946667150639794667015087019630673637144422540572481103610249216 * b7)
        exact decide_eq_decide.2 (by clear h0 h1 h lS lT; omega)
      rw [e]
    by_cases e3 : a3 = b3
    rotate_left
    · refine (be4_body0 _ _ lS lT e7 e6 e5 e4 e3 w).mono fun xs K hx => ?_
      subst hx
      have e : be4 [a0, a1, a2, a3, a4, a5, a6, a7] [b0, b1, b2, b3, b4, b5, b6, b7] = decide (V8 [a0, a1, a2, a3, a4, a5, a6, a7] < V8 [b0, b1, b2, b3, b4, b5, b6, b7]) := by
        show decide (a3 < b3) = decide (a0 + 4294967296 * a1 + 18446744073709551616 * a2 + 79228162514264337593543950336 * a3 + 340282366920938463463374607431768211456 * a4 + 1461501637330902918203684832716283019655932542976 * a5 + 6277101735386680763835789423207666416102355444464034512896 * a6 + 26959946667150639794667015087019630673637144422540572481103610249216 * a7 < b0 + 4294967296 * b1 + 18446744073709551616 * b2 + 79228162514264337593543950336 * b3 + 340282366920938463463374607431768211456 * b4 + 1461501637330902918203684832716283019655932542976 * b5 + 6277101735386680763835789423207666416102355444464034512896 * b6 + 26959946667150639794667015087019630673637144422540572481103610249216 * b7)
        exact decide_eq_decide.2 (by clear h0 h1 h lS lT; omega)
      rw [e]
    by_cases e2 : a2 = b2
    rotate_left
    · refine (be3_body0 _ _ lS lT e7 e6 e5 e4 e3 e2 w).mono fun xs K hx => ?_
      subst hx
      have e : be3 [a0, a1, a2, a3, a4, a5, a6, a7] [b0, b1, b2, b3, b4, b5, b6, b7] = decide (V8 [a0, a1, a2, a3, a4, a5, a6, a7] < V8 [b0, b1, b2, b3, b4, b5, b6, b7]) := by
        show decide (a2 < b2) = decide (a0 + 4294967296 * a1 + 18446744073709551616 * a2 + 79228162514264337593543950336 * a3 + 340282366920938463463374607431768211456 * a4 + 1461501637330902918203684832716283019655932542976 * a5 + 6277101735386680763835789423207666416102355444464034512896 * a6 + 26959946667150639794667015087019630673637144422540572481103610249216 * a7 < b0 + 4294967296 * b1 + 18446744073709551616 * b2 + 79228162514264337593543950336 * b3 + 340282366920938463463374607431768211456 * b4 + 1461501637330902918203684832716283019655932542976 * b5 + 6277101735386680763835789423207666416102355444464034512896 * b6 + 26959946667150639794667015087019630673637144422540572481103610249216 * b7)
        exact decide_eq_decide.2 (by clear h0 h1 h lS lT; omega)
      rw [e]
    by_cases e1 : a1 = b1
    rotate_left
    · refine (be2_body0 _ _ lS lT e7 e6 e5 e4 e3 e2 e1 w).mono fun xs K hx => ?_
      subst hx
      have e : be2 [a0, a1, a2, a3, a4, a5, a6, a7] [b0, b1, b2, b3, b4, b5, b6, b7] = decide (V8 [a0, a1, a2, a3, a4, a5, a6, a7] < V8 [b0, b1, b2, b3, b4, b5, b6, b7]) := by
        show decide (a1 < b1) = decide (a0 + 4294967296 * a1 + 18446744073709551616 * a2 + 79228162514264337593543950336 * a3 + 340282366920938463463374607431768211456 * a4 + 1461501637330902918203684832716283019655932542976 * a5 + 6277101735386680763835789423207666416102355444464034512896 * a6 + 26959946667150639794667015087019630673637144422540572481103610249216 * a7 < b0 + 4294967296 * b1 + 18446744073709551616 * b2 + 79228162514264337593543950336 * b3 + 340282366920938463463374607431768211456 * b4 + 1461501637330902918203684832716283019655932542976 * b5 + 6277101735386680763835789423207666416102355444464034512896 * b6 + 26959946667150639794667015087019630673637144422540572481103610249216 * b7)
        exact decide_eq_decide.2 (by clear h0 h1 h lS lT; omega)
      rw [e]
    by_cases e0 : a0 = b0
    rotate_left
    · refine (be1_body0 _ _ lS lT e7 e6 e5 e4 e3 e2 e1 e0 w).mono fun xs K hx => ?_
      subst hx
      have e : be1 [a0, a1, a2, a3, a4, a5, a6, a7] [b0, b1, b2, b3, b4, b5, b6, b7] = decide (V8 [a0, a1, a2, a3, a4, a5, a6, a7] < V8 [b0, b1, b2, b3, b4, b5, b6, b7]) := by
        show decide (a0 < b0) = decide (a0 + 4294967296 * a1 + 18446744073709551616 * a2 + 79228162514264337593543950336 * a3 + 340282366920938463463374607431768211456 * a4 + 1461501637330902918203684832716283019655932542976 * a5 + 6277101735386680763835789423207666416102355444464034512896 * a6 + 26959946667150639794667015087019630673637144422540572481103610249216 * a7 < b0 + 4294967296 * b1 + 18446744073709551616 * b2 + 79228162514264337593543950336 * b3 + 340282366920938463463374607431768211456 * b4 + 1461501637330902918203684832716283019655932542976 * b5 + 6277101735386680763835789423207666416102355444464034512896 * b6 + 26959946667150639794667015087019630673637144422540572481103610249216 * b7)
        exact decide_eq_decide.2 (by clear h0 h1 h lS lT; omega)
      rw [e]
    refine (be0_body0 _ _ lS lT e7 e6 e5 e4 e3 e2 e1 e0 w).mono fun xs K hx => ?_
    subst hx
    have e : false = decide (V8 [a0, a1, a2, a3, a4, a5, a6, a7] < V8 [b0, b1, b2, b3, b4, b5, b6, b7]) := by
      show false = decide (a0 + 4294967296 * a1 + 18446744073709551616 * a2 + 79228162514264337593543950336 * a3 + 340282366920938463463374607431768211456 * a4 + 1461501637330902918203684832716283019655932542976 * a5 + 6277101735386680763835789423207666416102355444464034512896 * a6 + 26959946667150639794667015087019630673637144422540572481103610249216 * a7 < b0 + 4294967296 * b1 + 18446744073709551616 * b2 + 79228162514264337593543950336 * b3 + 340282366920938463463374607431768211456 * b4 + 1461501637330902918203684832716283019655932542976 * b5 + 6277101735386680763835789423207666416102355444464034512896 * b6 + 26959946667150639794667015087019630673637144422540572481103610249216 * b7)
      exact (decide_eq_false (by clear h0 h1 h lS lT; omega)).symm
    rw [← e]

theorem bkR_eq {S : List Int} (h : Wd8 S) (l : S.length = 8) : bkR S = B32 (V8 S) := by
  obtain ⟨a0, a1, a2, a3, a4, a5, a6, a7, rfl⟩ := eight8 l
  have k0 := h a0 (by simp)
  have k1 := h a1 (by simp)
  have k2 := h a2 (by simp)
  have k3 := h a3 (by simp)
  have k4 := h a4 (by simp)
  have k5 := h a5 (by simp)
  have k6 := h a6 (by simp)
  have k7 := h a7 (by simp)
  have s0 : ∀ x : Int, shr .u32 x 0 = x / 1 := fun x => by
    have e : shr .u32 x 0 = x.fdiv 1 := rfl
    rw [e, Int.fdiv_eq_ediv_of_nonneg _ (by omega)]
  have s8 : ∀ x : Int, shr .u32 x 8 = x / 256 := fun x => by
    have e : shr .u32 x 8 = x.fdiv 256 := rfl
    rw [e, Int.fdiv_eq_ediv_of_nonneg _ (by omega)]
  have s16 : ∀ x : Int, shr .u32 x 16 = x / 65536 := fun x => by
    have e : shr .u32 x 16 = x.fdiv 65536 := rfl
    rw [e, Int.fdiv_eq_ediv_of_nonneg _ (by omega)]
  have s24 : ∀ x : Int, shr .u32 x 24 = x / 16777216 := fun x => by
    have e : shr .u32 x 24 = x.fdiv 16777216 := rfl
    rw [e, Int.fdiv_eq_ediv_of_nonneg _ (by omega)]
  clear h l
  unfold bkR B32 V8
  simp only [List.getD_cons_zero, List.getD_cons_succ, wrap8, s0, s8, s16, s24, List.cons.injEq, and_true]
  refine ⟨?_, ?_, ?_, ?_, ?_, ?_, ?_, ?_, ?_, ?_, ?_, ?_, ?_, ?_, ?_, ?_, ?_, ?_, ?_, ?_, ?_, ?_, ?_, ?_, ?_, ?_, ?_, ?_, ?_, ?_, ?_, ?_⟩ <;> omega

theorem tw_can (S : List Int) (b : Int) (h0 : Wd8 S) (h1 : (0 : Int) ≤ b) (h2 : b ≤ 1) (w : World) : Body Try.prog (tabOf tabNU) Try.f130 ⟨w, [], 0, noEnv⟩ (toA [.g [.ints .u32 (8 : Nat) S], .a (.i .u32 b)]) [] (fun ys _ => ys = [.g [.ints .u32 (8 : Nat) (W8 ((2 * V8 S + b) % 115792089237316195423570985008687907853269984665640564039457584007913129639936))]]) :=
  Body.lens (c := (Try.f130.body.getD .skip)) rfl fun h => (twA_body0 S b (h.vals 0 _ _ _ rfl) w).mono fun xs K hx => by
    subst hx; rw [tw_eq h0 (h.vals 0 _ _ _ rfl) ⟨h1, h2⟩]
theorem mi_can (S : List Int) (T : List Int) (h0 : Wd8 S) (h1 : Wd8 T) (w : World) : Body Try.prog (tabOf tabNU) Try.f96 ⟨w, [], 0, noEnv⟩ (toA [.g [.ints .u32 (8 : Nat) S], .g [.ints .u32 (8 : Nat) T]]) [] (fun ys _ => ys = [.g [.ints .u32 (8 : Nat) (W8 (difR (V8 S) (V8 T)))]]) :=
  Body.lens (c := (Try.f96.body.getD .skip)) rfl fun h => (miA_body0 S T (h.vals 0 _ _ _ rfl) (h.vals 1 _ _ _ rfl) w).mono fun xs K hx => by
    subst hx; rw [mi_eq h0 h1 (h.vals 0 _ _ _ rfl) (h.vals 1 _ _ _ rfl)]
theorem bkR_can (S : List Int) (h0 : Wd8 S) (w : World) : Body Try.prog (tabOf tabNU) Try.f76 ⟨w, [], 0, noEnv⟩ (toA [.g [.ints .u32 (8 : Nat) S]]) [] (fun ys _ => ys = [.g [.ints .u8 (32 : Nat) (B32 (V8 S))]]) :=
  Body.lens (c := (Try.f76.body.getD .skip)) rfl fun h => (bkR_body0 S (h.vals 0 _ _ _ rfl) w).mono fun xs K hx => by
    subst hx; rw [bkR_eq h0 (h.vals 0 _ _ _ rfl)]
end Go.Proofs.Ytcpoldghkiiggaa.X

/- Division bit by bit, as the reference does it. -/
namespace Go.Proofs.Ytcpoldghkiiggaa.X
open Go Go.Proofs
set_option linter.unusedVariables false

def dbl (x b : Int) : Int := (2 * x + b) % 115792089237316195423570985008687907853269984665640564039457584007913129639936
def OR8 : List Int := [1559614445, 1477600026, 2734136534, 350157278, 0, 0, 0, 268435456]
def bitX (x : Int) (k : Nat) : Int := bits2 .and .u32 (shr .u32 x (IntKind.u64.wrap ((31 : Int) - ((k : Nat) : Int)))) 1
def rI (x r : Int) : Nat → Int
  | 0 => r
  | k + 1 => if V8 (W8 (dbl (V8 (W8 (rI x r k))) (bitX x k))) < V8 OR8 then dbl (V8 (W8 (rI x r k))) (bitX x k) else difR (V8 (W8 (dbl (V8 (W8 (rI x r k))) (bitX x k)))) (V8 OR8)
def rO (l : List Int) (n : Nat) : Nat → Int
  | 0 => 0
  | t + 1 => rI (List.getD l (Int.toNat (((n : Nat) : Int) - (1 : Int) - ((t : Nat) : Int))) 0) (rO l n t) 32

theorem rI_a {x r : Int} {k : Nat} (h : V8 (W8 (dbl (V8 (W8 (rI x r k))) (bitX x k))) < V8 OR8) : rI x r (k + 1) = dbl (V8 (W8 (rI x r k))) (bitX x k) := by
  show (if _ then _ else _) = _
  rw [if_pos h]
theorem rI_b {x r : Int} {k : Nat} (h : ¬ V8 (W8 (dbl (V8 (W8 (rI x r k))) (bitX x k))) < V8 OR8) : rI x r (k + 1) = difR (V8 (W8 (dbl (V8 (W8 (rI x r k))) (bitX x k)))) (V8 OR8) := by
  show (if _ then _ else _) = _
  rw [if_neg h]

theorem bit_and (y : Int) : bits2 .and .u32 y 1 = y % 2 := by
  have e : bits2 .and .u32 y 1 = IntKind.u32.wrap (((BitVec.ofInt 32 y &&& BitVec.ofInt 32 1).toNat : Nat) : Int) := rfl
  have t2 : (BitVec.ofInt 32 1).toNat = 2 ^ 1 - 1 := by rfl
  rw [e, BitVec.toNat_and, t2, Nat.and_two_pow_sub_one_eq_mod, BitVec.toNat_ofInt, wrap32]
  show (((y % 4294967296).toNat % 2 ^ 1 : Nat) : Int) % 4294967296 = y % 2
  omega
theorem bit_01 (y : Int) : 0 ≤ bits2 .and .u32 y 1 ∧ bits2 .and .u32 y 1 ≤ 1 := by rw [bit_and]; omega
theorem W8_0 : W8 0 = [0, 0, 0, 0, 0, 0, 0, 0] := by decide +kernel
theorem wd8_ord : Wd8 [1559614445, 1477600026, 2734136534, 350157278, 0, 0, 0, 268435456] := wd8_W8 7237005577332262213973186563042994240857116359379907606001950938285454250989
end Go.Proofs.Ytcpoldghkiiggaa.X

/- Printed by a tool of this session. -/
namespace Go.Proofs.Ytcpoldghkiiggaa.X
open Go Go.Proofs
set_option linter.unusedVariables false
set_option linter.unusedSimpArgs false
set_option maxRecDepth 100000
theorem teNX_3 : TEOk Try.prog 3 ⟨.int .i64, 1, 8, [.i .i64 (0 : Int)], false⟩ :=
  TEOk.of Try.underlying3 (i := Try.t3) (by kernel_rfl) rfl rfl rfl (by kernel_rfl) (fun h => by cases h) (by kernel_rfl)
theorem teNX_62 : TEOk Try.prog 62 ⟨.int .u64, 1, 8, [.i .u64 (0 : Int)], false⟩ :=
  TEOk.of Try.underlying62 (i := Try.t62) (by kernel_rfl) rfl rfl rfl (by kernel_rfl) (fun h => by cases h) (by kernel_rfl)
theorem teNX_109 : TEOk Try.prog 109 ⟨.int .u32, 1, 4, [.i .u32 (0 : Int)], false⟩ :=
  TEOk.of Try.underlying109 (i := Try.t109) (by kernel_rfl) rfl rfl rfl (by kernel_rfl) (fun h => by cases h) (by kernel_rfl)
theorem teNX_111 : TEOk Try.prog 111 ⟨.array 8 109, 8, 32, [.ints .u32 (8 : Nat) ([0, 0, 0, 0, 0, 0, 0, 0] : List Int)], true⟩ :=
  TEOk.of Try.underlying111 (i := Try.t111) (by kernel_rfl) rfl rfl rfl (by kernel_rfl) (fun _ => Try.eqGuardType111) (by kernel_rfl)
theorem teNX_113 : TEOk Try.prog 113 ⟨.slice 109, 1, 24, [.raw (.slice none 0 0)], false⟩ :=
  TEOk.of Try.underlying113 (i := Try.t113) (by kernel_rfl) rfl rfl rfl (by kernel_rfl) (fun h => by cases h) (by kernel_rfl)
noncomputable def tabNX : List (Nat × TE) := [(3, ⟨.int .i64, 1, 8, [.i .i64 (0 : Int)], false⟩), (62, ⟨.int .u64, 1, 8, [.i .u64 (0 : Int)], false⟩), (109, ⟨.int .u32, 1, 4, [.i .u32 (0 : Int)], false⟩), (111, ⟨.array 8 109, 8, 32, [.ints .u32 (8 : Nat) ([0, 0, 0, 0, 0, 0, 0, 0] : List Int)], true⟩), (113, ⟨.slice 109, 1, 24, [.raw (.slice none 0 0)], false⟩)]
theorem tabOkNX : TabOk Try.prog (tabOf tabNX) := (tabOf_cons teNX_3 (tabOf_cons teNX_62 (tabOf_cons teNX_109 (tabOf_cons teNX_111 (tabOf_cons teNX_113 tabOf_nil)))))

theorem twA_pure (S : List Int) (b : Int) (h0 : (Wd8 S)) (h1 : ((0 : Int) ≤ b)) (h2 : (b ≤ (1 : Int))) : PureC Try.prog 130 [.g [.ints .u32 (8 : Nat) S], .a (.i .u32 b)] [.g [.ints .u32 (8 : Nat) (W8 (dbl (V8 S) b))]] :=
  PureC.of_body tabOkNU Try.func130 rfl rfl fun w => tw_can S b h0 h1 h2 w

def gam23 : Gam := gpure 130 (fun args => match args with | [.o (.g [.ints .u32 (8 : Nat) S]), .o (.a (.i .u32 b))] => some (some ((Wd8 S) ∧ ((0 : Int) ≤ b) ∧ (b ≤ (1 : Int))), [.g [.ints .u32 (8 : Nat) (W8 (dbl (V8 S) b))]]) | _ => none) gam22
theorem gam23_ok : GamOk Try.prog gam23 := gpure_ok gam22_ok Try.call130 (by
  intro args vc xs h hv
  split at h
  · simp only [Option.some.injEq, Prod.mk.injEq] at h; obtain ⟨rfl, rfl⟩ := h; exact ⟨_, by rfl, twA_pure _ _ hv.1 hv.2.1 hv.2.2⟩
  · simp at h)

theorem miA_pure (S : List Int) (T : List Int) (h0 : (Wd8 S)) (h1 : (Wd8 T)) : PureC Try.prog 96 [.g [.ints .u32 (8 : Nat) S], .g [.ints .u32 (8 : Nat) T]] [.g [.ints .u32 (8 : Nat) (W8 (difR (V8 S) (V8 T)))]] :=
  PureC.of_body tabOkNU Try.func96 rfl rfl fun w => mi_can S T h0 h1 w

def gam24 : Gam := gpure 96 (fun args => match args with | [.o (.g [.ints .u32 (8 : Nat) S]), .o (.g [.ints .u32 (8 : Nat) T])] => some (some ((Wd8 S) ∧ (Wd8 T)), [.g [.ints .u32 (8 : Nat) (W8 (difR (V8 S) (V8 T)))]]) | _ => none) gam23
theorem gam24_ok : GamOk Try.prog gam24 := gpure_ok gam23_ok Try.call96 (by
  intro args vc xs h hv
  split at h
  · simp only [Option.some.injEq, Prod.mk.injEq] at h; obtain ⟨rfl, rfl⟩ := h; exact ⟨_, by rfl, miA_pure _ _ hv.1 hv.2⟩
  · simp at h)

theorem be8_pure (S : List Int) (T : List Int) (h0 : (Wd8 S)) (h1 : (Wd8 T)) : PureC Try.prog 99 [.g [.ints .u32 (8 : Nat) S], .g [.ints .u32 (8 : Nat) T]] [.a (.b (decide ((V8 S) < (V8 T))))] :=
  PureC.of_body tabOkNU Try.func99 rfl rfl fun w => be_can S T h0 h1 w

def gam25 : Gam := gpure 99 (fun args => match args with | [.o (.g [.ints .u32 (8 : Nat) S]), .o (.g [.ints .u32 (8 : Nat) T])] => some (some ((Wd8 S) ∧ (Wd8 T)), [.a (.b (decide ((V8 S) < (V8 T))))]) | _ => none) gam24
theorem gam25_ok : GamOk Try.prog gam25 := gpure_ok gam24_ok Try.call99 (by
  intro args vc xs h hv
  split at h
  · simp only [Option.some.injEq, Prod.mk.injEq] at h; obtain ⟨rfl, rfl⟩ := h; exact ⟨_, by rfl, be8_pure _ _ hv.1 hv.2⟩
  · simp at h)

theorem bkR_pure (S : List Int) (h0 : (Wd8 S)) : PureC Try.prog 76 [.g [.ints .u32 (8 : Nat) S]] [.g [.ints .u8 (32 : Nat) (B32 (V8 S))]] :=
  PureC.of_body tabOkNU Try.func76 rfl rfl fun w => bkR_can S h0 w

def gam26 : Gam := gpure 76 (fun args => match args with | [.o (.g [.ints .u32 (8 : Nat) S])] => some (some ((Wd8 S)), [.g [.ints .u8 (32 : Nat) (B32 (V8 S))]]) | _ => none) gam25
theorem gam26_ok : GamOk Try.prog gam26 := gpure_ok gam25_ok Try.call76 (by
  intro args vc xs h hv
  split at h
  · simp only [Option.some.injEq, Prod.mk.injEq] at h; obtain ⟨rfl, rfl⟩ := h; exact ⟨_, by rfl, bkR_pure _ hv⟩
  · simp at h)

def moO_mk (n : Nat) (nm : Nat) (l : List Int) (cap0 : Nat) (ko : Nat) (sko : Unit) : St := ⟨sparse 37 [(0, .o (.a (.sl 0 (0 : Nat) n cap0))), (2, .o (.a (.p 1 0))), (3, .o (.a (.p 2 0))), (4, .o (.a (.p 3 0))), (5, .o (.a (.i .i64 ((((n : Nat) : Int) - (1 : Int)) - ((ko : Nat) : Int))))), (8, .o (.a (.sl 0 (0 : Nat) n cap0))), (10, .o (.a (.i .i64 (IntKind.i64.wrap (((n : Nat) : Int) - (1 : Int))))))], [some ⟨false, [.ints .u32 nm l]⟩, some ⟨true, [.ints .u32 (8 : Nat) ([0, 0, 0, 0, 0, 0, 0, 0] : List Int)]⟩, some ⟨true, [.ints .u32 (8 : Nat) (W8 (rO l n ko))]⟩, some ⟨true, [.ints .u32 (8 : Nat) ([1559614445, 1477600026, 2734136534, 350157278, 0, 0, 0, 268435456] : List Int)]⟩]⟩

def moI_mk (n : Nat) (nm : Nat) (l : List Int) (cap0 : Nat) (ko : Nat) (sko : Unit) (k : Nat) (s : Unit) : St := ⟨sparse 37 [(0, .o (.a (.sl 0 (0 : Nat) n cap0))), (2, .o (.a (.p 1 0))), (3, .o (.a (.p 2 0))), (4, .o (.a (.p 3 0))), (5, .o (.a (.i .i64 ((((n : Nat) : Int) - (1 : Int)) - ((ko : Nat) : Int))))), (6, .o (.a (.i .i64 ((31 : Int) - ((k : Nat) : Int))))), (8, .o (.a (.sl 0 (0 : Nat) n cap0))), (10, .o (.a (.i .i64 (IntKind.i64.wrap (((n : Nat) : Int) - (1 : Int)))))), (11, .o (.a (.i .i64 ((((n : Nat) : Int) - (1 : Int)) - ((ko : Nat) : Int))))), (12, .o (.a (.b (decide (((((n : Nat) : Int) - (1 : Int)) - ((ko : Nat) : Int)) ≥ (0 : Int))))))], [some ⟨false, [.ints .u32 nm l]⟩, some ⟨true, [.ints .u32 (8 : Nat) ([0, 0, 0, 0, 0, 0, 0, 0] : List Int)]⟩, some ⟨true, [.ints .u32 (8 : Nat) (W8 (rI (List.getD l (Int.toNat ((((n : Nat) : Int) - (1 : Int)) - ((ko : Nat) : Int))) 0) (rO l n ko) k))]⟩, some ⟨true, [.ints .u32 (8 : Nat) ([1559614445, 1477600026, 2734136534, 350157278, 0, 0, 0, 268435456] : List Int)]⟩]⟩

def moI_step (k : Nat) (s : Unit) : Unit :=
  ()

set_option maxHeartbeats 1000000 in
theorem moI_round_0 (n : Nat) (nm : Nat) (l : List Int) (cap0 : Nat) (ko : Nat) (sko : Unit) (h0 : (nm = n)) (h1 : (n < (70368744177664 : Nat))) (hc0 : n ≤ cap0) (hl0_0 : List.length l = nm) (hko : ko < n) (w : World) (β : Env) (k : Nat) (hk : k < (32 : Nat)) (s : Unit) (ha : V8 (W8 (dbl (V8 (W8 (rI (List.getD l (Int.toNat (((n : Nat) : Int) - (1 : Int) - ((ko : Nat) : Int))) 0) (rO l n ko) k))) (bitX (List.getD l (Int.toNat (((n : Nat) : Int) - (1 : Int) - ((ko : Nat) : Int))) 0) k))) < V8 OR8) : Run Try.prog ⟨w, [], 1, β⟩ (loopB Try.f77 2) (moI_mk n nm l cap0 ko sko k s) (To ⟨w, [], 1, β⟩ .normal (moI_mk n nm l cap0 ko sko (k + 1) (moI_step k s))) := by
  have e0 : (W8 (dbl (V8 (W8 (rI (List.getD l (Int.toNat ((((n : Nat) : Int) - (1 : Int)) - ((ko : Nat) : Int))) 0) (rO l n ko) k))) (bits2 .and .u32 (shr .u32 (List.getD l (Int.toNat ((((n : Nat) : Int) - (1 : Int)) - ((ko : Nat) : Int))) 0) (IntKind.u64.wrap ((31 : Int) - ((k : Nat) : Int)))) (1 : Int)))) = (W8 (rI (List.getD l (Int.toNat ((((n : Nat) : Int) - (1 : Int)) - ((ko : Nat) : Int))) 0) (rO l n ko) (k + (1 : Nat)))) := (by first | (rw [wrapI (by omega) (by omega)]; omega) | (rw [rI_a ha]; rfl))
  have e1 : (IntKind.i64.wrap (((31 : Int) - ((k : Nat) : Int)) - (1 : Int))) = ((31 : Int) - (((k + (1 : Nat)) : Nat) : Int)) := (by first | (rw [wrapI (by omega) (by omega)]; omega) | (rw [rI_a ha]; rfl))
  have h := Run.of_outT (B := ⟨w, [], 1, β⟩) (Λ := noLam) (Ψ := noPsi) (fuel := 0) (ora := [true, false]) (c := (loopB Try.f77 2)) (st := (moI_mk n nm l cap0 ko sko k s)) (l := [.forget [0, 2, 3, 4, 5, 6, 8, 10, 11, 12] 4]) (s' := ⟨sparse 37 [(0, .o (.a (.sl 0 (0 : Nat) n cap0))), (2, .o (.a (.p 1 0))), (3, .o (.a (.p 2 0))), (4, .o (.a (.p 3 0))), (5, .o (.a (.i .i64 ((((n : Nat) : Int) - (1 : Int)) - ((ko : Nat) : Int))))), (6, .o (.a (.i .i64 (IntKind.i64.wrap (((31 : Int) - ((k : Nat) : Int)) - (1 : Int)))))), (8, .o (.a (.sl 0 (0 : Nat) n cap0))), (10, .o (.a (.i .i64 (IntKind.i64.wrap (((n : Nat) : Int) - (1 : Int)))))), (11, .o (.a (.i .i64 ((((n : Nat) : Int) - (1 : Int)) - ((ko : Nat) : Int))))), (12, .o (.a (.b (decide (((((n : Nat) : Int) - (1 : Int)) - ((ko : Nat) : Int)) ≥ (0 : Int))))))], [some ⟨false, [.ints .u32 nm l]⟩, some ⟨true, [.ints .u32 (8 : Nat) ([0, 0, 0, 0, 0, 0, 0, 0] : List Int)]⟩, some ⟨true, [.ints .u32 (8 : Nat) (W8 (dbl (V8 (W8 (rI (List.getD l (Int.toNat ((((n : Nat) : Int) - (1 : Int)) - ((ko : Nat) : Int))) 0) (rO l n ko) k))) (bits2 .and .u32 (shr .u32 (List.getD l (Int.toNat ((((n : Nat) : Int) - (1 : Int)) - ((ko : Nat) : Int))) 0) (IntKind.u64.wrap ((31 : Int) - ((k : Nat) : Int)))) (1 : Int))))]⟩, some ⟨true, [.ints .u32 (8 : Nat) ([1559614445, 1477600026, 2734136534, 350157278, 0, 0, 0, 268435456] : List Int)]⟩]⟩) (ex := .normal) mix tabOkNX gam26_ok
    (vc := [((!(decide ((V8 (W8 (dbl (V8 (W8 (rI (List.getD l (Int.toNat ((((n : Nat) : Int) - (1 : Int)) - ((ko : Nat) : Int))) 0) (rO l n ko) k))) (bits2 .and .u32 (shr .u32 (List.getD l (Int.toNat ((((n : Nat) : Int) - (1 : Int)) - ((ko : Nat) : Int))) 0) (IntKind.u64.wrap ((31 : Int) - ((k : Nat) : Int)))) (1 : Int))))) < (V8 ([1559614445, 1477600026, 2734136534, 350157278, 0, 0, 0, 268435456] : List Int))))) = false), ((Wd8 (W8 (dbl (V8 (W8 (rI (List.getD l (Int.toNat ((((n : Nat) : Int) - (1 : Int)) - ((ko : Nat) : Int))) 0) (rO l n ko) k))) (bits2 .and .u32 (shr .u32 (List.getD l (Int.toNat ((((n : Nat) : Int) - (1 : Int)) - ((ko : Nat) : Int))) 0) (IntKind.u64.wrap ((31 : Int) - ((k : Nat) : Int)))) (1 : Int))))) ∧ (Wd8 ([1559614445, 1477600026, 2734136534, 350157278, 0, 0, 0, 268435456] : List Int))), ((Wd8 (W8 (rI (List.getD l (Int.toNat ((((n : Nat) : Int) - (1 : Int)) - ((ko : Nat) : Int))) 0) (rO l n ko) k))) ∧ ((0 : Int) ≤ (bits2 .and .u32 (shr .u32 (List.getD l (Int.toNat ((((n : Nat) : Int) - (1 : Int)) - ((ko : Nat) : Int))) 0) (IntKind.u64.wrap ((31 : Int) - ((k : Nat) : Int)))) (1 : Int))) ∧ ((bits2 .and .u32 (shr .u32 (List.getD l (Int.toNat ((((n : Nat) : Int) - (1 : Int)) - ((ko : Nat) : Int))) 0) (IntKind.u64.wrap ((31 : Int) - ((k : Nat) : Int)))) (1 : Int)) ≤ (1 : Int))), ((0 : Int) ≤ (IntKind.u64.wrap ((31 : Int) - ((k : Nat) : Int)))), ((Int.toNat ((((n : Nat) : Int) - (1 : Int)) - ((ko : Nat) : Int))) < nm), (((0 : Int) ≤ ((((n : Nat) : Int) - (1 : Int)) - ((ko : Nat) : Int))) ∧ (((((n : Nat) : Int) - (1 : Int)) - ((ko : Nat) : Int)) < ((n : Nat) : Int))), ((decide (((31 : Int) - ((k : Nat) : Int)) ≥ (0 : Int))) = true)]) (by kernel_rfl)
    (AllP_cons (by show (!decide (V8 (W8 (dbl (V8 (W8 (rI (List.getD l (Int.toNat (((n : Nat) : Int) - (1 : Int) - ((ko : Nat) : Int))) 0) (rO l n ko) k))) (bitX (List.getD l (Int.toNat (((n : Nat) : Int) - (1 : Int) - ((ko : Nat) : Int))) 0) k))) < V8 OR8)) = false; rw [decide_eq_true ha]; rfl) (AllP_cons ⟨(by first | assumption | exact wd8_W8 _ | exact wd8_ord), (by first | assumption | exact wd8_W8 _ | exact wd8_ord)⟩ (AllP_cons ⟨(by first | assumption | exact wd8_W8 _ | exact wd8_ord), (bits2_nn rfl), (by first | exact (bit_01 _).1 | exact (bit_01 _).2)⟩ (AllP_cons (wrap_nn rfl) (AllP_cons (by first | omega | (simp (disch := omega) only [wrapI]; omega)) (AllP_cons ⟨(by first | omega | (simp (disch := omega) only [wrapI]; omega)), (by first | omega | (simp (disch := omega) only [wrapI]; omega))⟩ (AllP_cons (decide_eq_true (by first | omega | (simp (disch := omega) only [wrapI]; omega))) (AllP_nil))))))))
  rw [e0, e1] at h
  exact h

set_option maxHeartbeats 1000000 in
theorem moI_round_1 (n : Nat) (nm : Nat) (l : List Int) (cap0 : Nat) (ko : Nat) (sko : Unit) (h0 : (nm = n)) (h1 : (n < (70368744177664 : Nat))) (hc0 : n ≤ cap0) (hl0_0 : List.length l = nm) (hko : ko < n) (w : World) (β : Env) (k : Nat) (hk : k < (32 : Nat)) (s : Unit) (ha : ¬ V8 (W8 (dbl (V8 (W8 (rI (List.getD l (Int.toNat (((n : Nat) : Int) - (1 : Int) - ((ko : Nat) : Int))) 0) (rO l n ko) k))) (bitX (List.getD l (Int.toNat (((n : Nat) : Int) - (1 : Int) - ((ko : Nat) : Int))) 0) k))) < V8 OR8) : Run Try.prog ⟨w, [], 1, β⟩ (loopB Try.f77 2) (moI_mk n nm l cap0 ko sko k s) (To ⟨w, [], 1, β⟩ .normal (moI_mk n nm l cap0 ko sko (k + 1) (moI_step k s))) := by
  have e0 : (W8 (difR (V8 (W8 (dbl (V8 (W8 (rI (List.getD l (Int.toNat ((((n : Nat) : Int) - (1 : Int)) - ((ko : Nat) : Int))) 0) (rO l n ko) k))) (bits2 .and .u32 (shr .u32 (List.getD l (Int.toNat ((((n : Nat) : Int) - (1 : Int)) - ((ko : Nat) : Int))) 0) (IntKind.u64.wrap ((31 : Int) - ((k : Nat) : Int)))) (1 : Int))))) (V8 ([1559614445, 1477600026, 2734136534, 350157278, 0, 0, 0, 268435456] : List Int)))) = (W8 (rI (List.getD l (Int.toNat ((((n : Nat) : Int) - (1 : Int)) - ((ko : Nat) : Int))) 0) (rO l n ko) (k + (1 : Nat)))) := (by first | (rw [wrapI (by omega) (by omega)]; omega) | (rw [rI_b ha]; rfl))
  have e1 : (IntKind.i64.wrap (((31 : Int) - ((k : Nat) : Int)) - (1 : Int))) = ((31 : Int) - (((k + (1 : Nat)) : Nat) : Int)) := (by first | (rw [wrapI (by omega) (by omega)]; omega) | (rw [rI_b ha]; rfl))
  have h := Run.of_outT (B := ⟨w, [], 1, β⟩) (Λ := noLam) (Ψ := noPsi) (fuel := 0) (ora := [true, true]) (c := (loopB Try.f77 2)) (st := (moI_mk n nm l cap0 ko sko k s)) (l := [.forget [0, 2, 3, 4, 5, 6, 8, 10, 11, 12] 4]) (s' := ⟨sparse 37 [(0, .o (.a (.sl 0 (0 : Nat) n cap0))), (2, .o (.a (.p 1 0))), (3, .o (.a (.p 2 0))), (4, .o (.a (.p 3 0))), (5, .o (.a (.i .i64 ((((n : Nat) : Int) - (1 : Int)) - ((ko : Nat) : Int))))), (6, .o (.a (.i .i64 (IntKind.i64.wrap (((31 : Int) - ((k : Nat) : Int)) - (1 : Int)))))), (8, .o (.a (.sl 0 (0 : Nat) n cap0))), (10, .o (.a (.i .i64 (IntKind.i64.wrap (((n : Nat) : Int) - (1 : Int)))))), (11, .o (.a (.i .i64 ((((n : Nat) : Int) - (1 : Int)) - ((ko : Nat) : Int))))), (12, .o (.a (.b (decide (((((n : Nat) : Int) - (1 : Int)) - ((ko : Nat) : Int)) ≥ (0 : Int))))))], [some ⟨false, [.ints .u32 nm l]⟩, some ⟨true, [.ints .u32 (8 : Nat) ([0, 0, 0, 0, 0, 0, 0, 0] : List Int)]⟩, some ⟨true, [.ints .u32 (8 : Nat) (W8 (difR (V8 (W8 (dbl (V8 (W8 (rI (List.getD l (Int.toNat ((((n : Nat) : Int) - (1 : Int)) - ((ko : Nat) : Int))) 0) (rO l n ko) k))) (bits2 .and .u32 (shr .u32 (List.getD l (Int.toNat ((((n : Nat) : Int) - (1 : Int)) - ((ko : Nat) : Int))) 0) (IntKind.u64.wrap ((31 : Int) - ((k : Nat) : Int)))) (1 : Int))))) (V8 ([1559614445, 1477600026, 2734136534, 350157278, 0, 0, 0, 268435456] : List Int))))]⟩, some ⟨true, [.ints .u32 (8 : Nat) ([1559614445, 1477600026, 2734136534, 350157278, 0, 0, 0, 268435456] : List Int)]⟩]⟩) (ex := .normal) mix tabOkNX gam26_ok
    (vc := [((Wd8 (W8 (dbl (V8 (W8 (rI (List.getD l (Int.toNat ((((n : Nat) : Int) - (1 : Int)) - ((ko : Nat) : Int))) 0) (rO l n ko) k))) (bits2 .and .u32 (shr .u32 (List.getD l (Int.toNat ((((n : Nat) : Int) - (1 : Int)) - ((ko : Nat) : Int))) 0) (IntKind.u64.wrap ((31 : Int) - ((k : Nat) : Int)))) (1 : Int))))) ∧ (Wd8 ([1559614445, 1477600026, 2734136534, 350157278, 0, 0, 0, 268435456] : List Int))), ((!(decide ((V8 (W8 (dbl (V8 (W8 (rI (List.getD l (Int.toNat ((((n : Nat) : Int) - (1 : Int)) - ((ko : Nat) : Int))) 0) (rO l n ko) k))) (bits2 .and .u32 (shr .u32 (List.getD l (Int.toNat ((((n : Nat) : Int) - (1 : Int)) - ((ko : Nat) : Int))) 0) (IntKind.u64.wrap ((31 : Int) - ((k : Nat) : Int)))) (1 : Int))))) < (V8 ([1559614445, 1477600026, 2734136534, 350157278, 0, 0, 0, 268435456] : List Int))))) = true), ((Wd8 (W8 (dbl (V8 (W8 (rI (List.getD l (Int.toNat ((((n : Nat) : Int) - (1 : Int)) - ((ko : Nat) : Int))) 0) (rO l n ko) k))) (bits2 .and .u32 (shr .u32 (List.getD l (Int.toNat ((((n : Nat) : Int) - (1 : Int)) - ((ko : Nat) : Int))) 0) (IntKind.u64.wrap ((31 : Int) - ((k : Nat) : Int)))) (1 : Int))))) ∧ (Wd8 ([1559614445, 1477600026, 2734136534, 350157278, 0, 0, 0, 268435456] : List Int))), ((Wd8 (W8 (rI (List.getD l (Int.toNat ((((n : Nat) : Int) - (1 : Int)) - ((ko : Nat) : Int))) 0) (rO l n ko) k))) ∧ ((0 : Int) ≤ (bits2 .and .u32 (shr .u32 (List.getD l (Int.toNat ((((n : Nat) : Int) - (1 : Int)) - ((ko : Nat) : Int))) 0) (IntKind.u64.wrap ((31 : Int) - ((k : Nat) : Int)))) (1 : Int))) ∧ ((bits2 .and .u32 (shr .u32 (List.getD l (Int.toNat ((((n : Nat) : Int) - (1 : Int)) - ((ko : Nat) : Int))) 0) (IntKind.u64.wrap ((31 : Int) - ((k : Nat) : Int)))) (1 : Int)) ≤ (1 : Int))), ((0 : Int) ≤ (IntKind.u64.wrap ((31 : Int) - ((k : Nat) : Int)))), ((Int.toNat ((((n : Nat) : Int) - (1 : Int)) - ((ko : Nat) : Int))) < nm), (((0 : Int) ≤ ((((n : Nat) : Int) - (1 : Int)) - ((ko : Nat) : Int))) ∧ (((((n : Nat) : Int) - (1 : Int)) - ((ko : Nat) : Int)) < ((n : Nat) : Int))), ((decide (((31 : Int) - ((k : Nat) : Int)) ≥ (0 : Int))) = true)]) (by kernel_rfl)
    (AllP_cons ⟨(by first | assumption | exact wd8_W8 _ | exact wd8_ord), (by first | assumption | exact wd8_W8 _ | exact wd8_ord)⟩ (AllP_cons (by show (!decide (V8 (W8 (dbl (V8 (W8 (rI (List.getD l (Int.toNat (((n : Nat) : Int) - (1 : Int) - ((ko : Nat) : Int))) 0) (rO l n ko) k))) (bitX (List.getD l (Int.toNat (((n : Nat) : Int) - (1 : Int) - ((ko : Nat) : Int))) 0) k))) < V8 OR8)) = true; rw [decide_eq_false ha]; rfl) (AllP_cons ⟨(by first | assumption | exact wd8_W8 _ | exact wd8_ord), (by first | assumption | exact wd8_W8 _ | exact wd8_ord)⟩ (AllP_cons ⟨(by first | assumption | exact wd8_W8 _ | exact wd8_ord), (bits2_nn rfl), (by first | exact (bit_01 _).1 | exact (bit_01 _).2)⟩ (AllP_cons (wrap_nn rfl) (AllP_cons (by first | omega | (simp (disch := omega) only [wrapI]; omega)) (AllP_cons ⟨(by first | omega | (simp (disch := omega) only [wrapI]; omega)), (by first | omega | (simp (disch := omega) only [wrapI]; omega))⟩ (AllP_cons (decide_eq_true (by first | omega | (simp (disch := omega) only [wrapI]; omega))) (AllP_nil)))))))))
  rw [e0, e1] at h
  exact h

theorem moI_round (n : Nat) (nm : Nat) (l : List Int) (cap0 : Nat) (ko : Nat) (sko : Unit) (h0 : (nm = n)) (h1 : (n < (70368744177664 : Nat))) (hc0 : n ≤ cap0) (hl0_0 : List.length l = nm) (hko : ko < n) (w : World) (β : Env) (k : Nat) (hk : k < (32 : Nat)) (s : Unit) : Run Try.prog ⟨w, [], 1, β⟩ (loopB Try.f77 2) (moI_mk n nm l cap0 ko sko k s) (To ⟨w, [], 1, β⟩ .normal (moI_mk n nm l cap0 ko sko (k + 1) (moI_step k s))) := by
  by_cases ha : V8 (W8 (dbl (V8 (W8 (rI (List.getD l (Int.toNat (((n : Nat) : Int) - (1 : Int) - ((ko : Nat) : Int))) 0) (rO l n ko) k))) (bitX (List.getD l (Int.toNat (((n : Nat) : Int) - (1 : Int) - ((ko : Nat) : Int))) 0) k))) < V8 OR8
  · exact moI_round_0 n nm l cap0 ko sko h0 h1 hc0 hl0_0 hko w β k hk s ha
  · exact moI_round_1 n nm l cap0 ko sko h0 h1 hc0 hl0_0 hko w β k hk s ha

set_option maxHeartbeats 1000000 in
theorem moI_last (n : Nat) (nm : Nat) (l : List Int) (cap0 : Nat) (ko : Nat) (sko : Unit) (h0 : (nm = n)) (h1 : (n < (70368744177664 : Nat))) (hc0 : n ≤ cap0) (hl0_0 : List.length l = nm) (hko : ko < n) (w : World) (β : Env) (s : Unit) : Run Try.prog ⟨w, [], 1, β⟩ (loopB Try.f77 2) (moI_mk n nm l cap0 ko sko (32 : Nat) s) (To ⟨w, [], 1, β⟩ (.exit 2) (moI_mk n nm l cap0 ko sko (32 : Nat) s)) :=
  Run.of_outT (B := ⟨w, [], 1, β⟩) (Λ := noLam) (Ψ := noPsi) (fuel := 0) (ora := [false]) (l := [.forget [0, 2, 3, 4, 5, 6, 8, 10, 11, 12] 4]) mix tabOkNX gam26_ok
    (vc := [(false = false)]) (by kernel_rfl)
    (AllP_cons rfl (AllP_nil))

theorem moI_loop (n : Nat) (nm : Nat) (l : List Int) (cap0 : Nat) (ko : Nat) (sko : Unit) (h0 : (nm = n)) (h1 : (n < (70368744177664 : Nat))) (hc0 : n ≤ cap0) (hl0_0 : List.length l = nm) (hko : ko < n) (w : World) (β : Env) (s : Unit) : Run Try.prog ⟨w, [], 1, β⟩ (.block 2 (.loop (loopB Try.f77 2))) (moI_mk n nm l cap0 ko sko 0 s) (To ⟨w, [], 1, β⟩ .normal (moI_mk n nm l cap0 ko sko (32 : Nat) (iter (moI_step) (32 : Nat) s))) :=
  Run.count (fun k => moI_mk n nm l cap0 ko sko k (iter (moI_step) k s)) (32 : Nat) (fun k hk => moI_round n nm l cap0 ko sko h0 h1 hc0 hl0_0 hko w β k hk _) (ex := (.exit 2)) (by simp) (moI_last n nm l cap0 ko sko h0 h1 hc0 hl0_0 hko w β _)

def moO_step (ko : Nat) (sko : Unit) : Unit :=
  ()

set_option maxHeartbeats 1000000 in
theorem moO_round (n : Nat) (nm : Nat) (l : List Int) (cap0 : Nat) (h0 : (nm = n)) (h1 : (n < (70368744177664 : Nat))) (hc0 : n ≤ cap0) (hl0_0 : List.length l = nm) (w : World) (β : Env) (ko : Nat) (hko : ko < n) (sko : Unit) : Run Try.prog ⟨w, [], 1, β⟩ (loopB Try.f77 0) (moO_mk n nm l cap0 ko sko) (To ⟨w, [], 1, β⟩ .normal (moO_mk n nm l cap0 (ko + 1) (moO_step ko sko))) := by
  have e0 : (W8 (rI (List.getD l (Int.toNat ((((n : Nat) : Int) - (1 : Int)) - ((ko : Nat) : Int))) 0) (rO l n ko) (32 : Nat))) = (W8 (rO l n (ko + (1 : Nat)))) := (by first | (rw [wrapI (by omega) (by omega)]; omega) | rfl)
  have e1 : (IntKind.i64.wrap (((((n : Nat) : Int) - (1 : Int)) - ((ko : Nat) : Int)) - (1 : Int))) = ((((n : Nat) : Int) - (1 : Int)) - (((ko + (1 : Nat)) : Nat) : Int)) := (by first | (rw [wrapI (by omega) (by omega)]; omega) | rfl)
  have h := Run.of_outT (B := ⟨w, [], 1, β⟩) (Λ := lamOf [(2, ⟨[.forget [0, 2, 3, 4, 5, 6, 8, 10, 11, 12] 4], .normal, (moI_mk n nm l cap0 ko sko (32 : Nat) (iter (moI_step) (32 : Nat) ()))⟩)]) (Ψ := noPsi) (fuel := 0) (ora := [true]) (c := (loopB Try.f77 0)) (st := (moO_mk n nm l cap0 ko sko)) (l := [.forget [0, 2, 3, 4, 5, 8, 10] 4]) (s' := ⟨sparse 37 [(0, .o (.a (.sl 0 (0 : Nat) n cap0))), (2, .o (.a (.p 1 0))), (3, .o (.a (.p 2 0))), (4, .o (.a (.p 3 0))), (5, .o (.a (.i .i64 (IntKind.i64.wrap (((((n : Nat) : Int) - (1 : Int)) - ((ko : Nat) : Int)) - (1 : Int)))))), (8, .o (.a (.sl 0 (0 : Nat) n cap0))), (10, .o (.a (.i .i64 (IntKind.i64.wrap (((n : Nat) : Int) - (1 : Int))))))], [some ⟨false, [.ints .u32 nm l]⟩, some ⟨true, [.ints .u32 (8 : Nat) ([0, 0, 0, 0, 0, 0, 0, 0] : List Int)]⟩, some ⟨true, [.ints .u32 (8 : Nat) (W8 (rI (List.getD l (Int.toNat ((((n : Nat) : Int) - (1 : Int)) - ((ko : Nat) : Int))) 0) (rO l n ko) (32 : Nat)))]⟩, some ⟨true, [.ints .u32 (8 : Nat) ([1559614445, 1477600026, 2734136534, 350157278, 0, 0, 0, 268435456] : List Int)]⟩]⟩) (ex := .normal) mix tabOkNX gam26_ok
    (vc := [(Run Try.prog ⟨w, [], 1, β⟩ (.block 2 (.loop (loopB Try.f77 2))) (moI_mk n nm l cap0 ko sko 0 ()) (To ⟨w, [], 1, β⟩ .normal (moI_mk n nm l cap0 ko sko (32 : Nat) (iter (moI_step) (32 : Nat) ())))), ((decide (((((n : Nat) : Int) - (1 : Int)) - ((ko : Nat) : Int)) ≥ (0 : Int))) = true)]) (by kernel_rfl)
    (AllP_cons (moI_loop n nm l cap0 ko sko h0 h1 hc0 hl0_0 hko w β ()) (AllP_cons (decide_eq_true (by first | omega | (simp (disch := omega) only [wrapI]; omega))) (AllP_nil)))
  rw [e0, e1] at h
  exact h

set_option maxHeartbeats 1000000 in
theorem moO_last (n : Nat) (nm : Nat) (l : List Int) (cap0 : Nat) (h0 : (nm = n)) (h1 : (n < (70368744177664 : Nat))) (hc0 : n ≤ cap0) (hl0_0 : List.length l = nm) (w : World) (β : Env) (sko : Unit) : Run Try.prog ⟨w, [], 1, β⟩ (loopB Try.f77 0) (moO_mk n nm l cap0 n sko) (To ⟨w, [], 1, β⟩ (.exit 0) (moO_mk n nm l cap0 n sko)) :=
  Run.of_outT (B := ⟨w, [], 1, β⟩) (Λ := noLam) (Ψ := noPsi) (fuel := 0) (ora := [false]) (l := [.forget [0, 2, 3, 4, 5, 8, 10] 4]) mix tabOkNX gam26_ok
    (vc := [((decide (((((n : Nat) : Int) - (1 : Int)) - ((n : Nat) : Int)) ≥ (0 : Int))) = false)]) (by kernel_rfl)
    (AllP_cons (decide_eq_false (by omega)) (AllP_nil))

theorem moO_loop (n : Nat) (nm : Nat) (l : List Int) (cap0 : Nat) (h0 : (nm = n)) (h1 : (n < (70368744177664 : Nat))) (hc0 : n ≤ cap0) (hl0_0 : List.length l = nm) (w : World) (β : Env) (sko : Unit) : Run Try.prog ⟨w, [], 1, β⟩ (.block 0 (.loop (loopB Try.f77 0))) (moO_mk n nm l cap0 0 sko) (To ⟨w, [], 1, β⟩ .normal (moO_mk n nm l cap0 n (iter (moO_step) n sko))) :=
  Run.count (fun ko => moO_mk n nm l cap0 ko (iter (moO_step) ko sko)) n (fun ko hko => moO_round n nm l cap0 h0 h1 hc0 hl0_0 w β ko hko _) (ex := (.exit 0)) (by simp) (moO_last n nm l cap0 h0 h1 hc0 hl0_0 w β _)

def modR (n : Nat) (l : List Int) : List Int :=
  (W8 (rO l n n))

set_option maxHeartbeats 1000000 in
theorem modR_body0 (n : Nat) (nm : Nat) (l : List Int) (cap0 : Nat) (h0 : (nm = n)) (h1 : (n < (70368744177664 : Nat))) (hc0 : n ≤ cap0) (hl0_0 : List.length l = nm) (w : World) (β : Env) : Body Try.prog (tabOf tabNX) Try.f77 ⟨w, [], 1, β⟩ [.o (.a (.sl 0 (0 : Nat) n cap0))] [some ⟨false, [.ints .u32 nm l]⟩] (fun ys _ => ys = [.g [.ints .u32 (8 : Nat) (modR n l)]]) :=
  Body.of_fin (Γ := gam26) (Λ := lamOf [(0, ⟨[.eqS 5 (.o (.a (.i .i64 ((((n : Nat) : Int) - (1 : Int)) - ((0 : Nat) : Int))))), .eqB 2 (⟨true, [.ints .u32 (8 : Nat) (W8 (rO l n (0 : Nat)))]⟩), .forget [0, 2, 3, 4, 5, 8, 10] 4], .normal, (moO_mk n nm l cap0 n (iter (moO_step) n ()))⟩)]) (Ψ := noPsi) (fuel := 0) (m := 37) (c := (Try.f77.body.getD .skip)) mix tabOkNX gam26_ok rfl (rs := [.cell 2 111]) rfl rfl [] []
    (vc := [(Run Try.prog ⟨w, [], 1, β⟩ (.block 0 (.loop (loopB Try.f77 0))) (moO_mk n nm l cap0 0 ()) (To ⟨w, [], 1, β⟩ .normal (moO_mk n nm l cap0 n (iter (moO_step) n ())))), ((some ⟨true, [.ints .u32 (8 : Nat) ([0, 0, 0, 0, 0, 0, 0, 0] : List Int)]⟩ : Option Blk) = some ⟨true, [.ints .u32 (8 : Nat) (W8 (rO l n (0 : Nat)))]⟩), ((.o (.a (.i .i64 (IntKind.i64.wrap (((n : Nat) : Int) - (1 : Int))))) : AV) = .o (.a (.i .i64 ((((n : Nat) : Int) - (1 : Int)) - ((0 : Nat) : Int)))))]) (by kernel_rfl)
    (AllP_cons (moO_loop n nm l cap0 h0 h1 hc0 hl0_0 w β ()) (AllP_cons ((by rw [show rO l n 0 = 0 from rfl, W8_0])) (AllP_cons ((congrArg (fun z => AV.o (.a (.i .i64 z))) ((wrapI (by omega) (by omega)).trans (by omega)))) (AllP_nil))))

theorem modR_body (n : Nat) (nm : Nat) (l : List Int) (cap0 : Nat) (h0 : (nm = n)) (h1 : (n < (70368744177664 : Nat))) (w : World) (β : Env) : Body Try.prog (tabOf tabNX) Try.f77 ⟨w, [], 1, β⟩ [.o (.a (.sl 0 (0 : Nat) n cap0))] [some ⟨false, [.ints .u32 nm l]⟩] (fun ys _ => ys = [.g [.ints .u32 (8 : Nat) (modR n l)]]) :=
  Body.lens (c := (Try.f77.body.getD .skip)) rfl fun h => modR_body0 n nm l cap0 h0 h1 (h.caps 0 _ _ _ _ rfl) (h.lens 0 _ .u32 nm l rfl (by simp)) w β

end Go.Proofs.Ytcpoldghkiiggaa.X

/- Division bit by bit is division. -/
namespace Go.Proofs.Ytcpoldghkiiggaa.X
open Go Go.Proofs
set_option linter.unusedVariables false

theorem V8_OR8 : V8 OR8 = LL := by decide +kernel

theorem rI_step {x r : Int} {k : Nat} (h0 : 0 ≤ rI x r k) (h1 : rI x r k < LL) (hb : 0 ≤ bitX x k ∧ bitX x k ≤ 1) : rI x r (k + 1) = modL (2 * rI x r k + bitX x k) := by
  have e1 : V8 (W8 (rI x r k)) = rI x r k := V8_W8 h0 (by unfold LL at h1; omega)
  have e2 : dbl (rI x r k) (bitX x k) = 2 * rI x r k + bitX x k := by unfold dbl; unfold LL at h1; omega
  have e3 : V8 (W8 (2 * rI x r k + bitX x k)) = 2 * rI x r k + bitX x k := V8_W8 (by omega) (by unfold LL at h1; omega)
  by_cases hc : V8 (W8 (dbl (V8 (W8 (rI x r k))) (bitX x k))) < V8 OR8
  · rw [rI_a hc, e1, e2]
    rw [e1, e2, e3, V8_OR8] at hc
    unfold modL; exact (Int.emod_eq_of_lt (by omega) hc).symm
  · rw [rI_b hc, e1, e2, e3, V8_OR8]
    rw [e1, e2, e3, V8_OR8] at hc
    unfold difR modL
    unfold LL at *
    omega

theorem modL_2 (A b : Int) : modL (2 * modL A + b) = modL (2 * A + b) := by
  unfold modL
  rw [Int.add_emod, Int.mul_emod, Int.emod_emod_of_dvd _ (Int.dvd_refl LL), ← Int.mul_emod, ← Int.add_emod]

theorem bitX_eq {x : Int} {k : Nat} (h0 : 0 ≤ x) (hk : k < 32) : bitX x k = x / 2 ^ (31 - k) % 2 := by
  unfold bitX
  rw [bit_and]
  congr 1
  have e : IntKind.u64.wrap ((31 : Int) - ((k : Nat) : Int)) = ((31 - k : Nat) : Int) := by rw [wrap64]; omega
  rw [e]
  have e2 : shr .u32 x ((31 - k : Nat) : Int) = x.fdiv (2 ^ (min (31 - k) 32)) := rfl
  rw [e2, Nat.min_eq_left (by omega), Int.fdiv_eq_ediv_of_nonneg _ (Int.le_of_lt (Int.pow_pos (by omega)))]

theorem rI_eq {x r : Int} (h0 : 0 ≤ x) (h1 : x < 4294967296) (r0 : 0 ≤ r) (r1 : r < LL) : ∀ k : Nat, k ≤ 32 → rI x r k = modL (r * 2 ^ k + x / 2 ^ (32 - k))
  | 0, _ => by
    show r = modL (r * 2 ^ 0 + x / 2 ^ 32)
    have : x / 2 ^ 32 = 0 := Int.ediv_eq_zero_of_lt h0 (by exact h1)
    rw [this]
    unfold modL
    rw [show r * 2 ^ 0 + 0 = r by omega]; exact (Int.emod_eq_of_lt r0 r1).symm
  | k + 1, hk => by
    have ih := rI_eq h0 h1 r0 r1 k (by omega)
    have hm := modL_rng (r * 2 ^ k + x / 2 ^ (32 - k))
    rw [← ih] at hm
    have hb := bitX_eq h0 (show k < 32 by omega)
    rw [rI_step hm.1 hm.2.1 (by rw [hb]; omega), ih, modL_2, hb]
    congr 1
    have e1 : x / 2 ^ (32 - k) = x / 2 ^ (31 - k) / 2 := by
      rw [show 32 - k = (31 - k) + 1 by omega, Int.pow_succ]
      first | exact (Int.ediv_ediv_of_nonneg (Int.le_of_lt (Int.pow_pos (by omega)))).symm | exact (Int.ediv_ediv_eq_ediv_mul x (Int.le_of_lt (Int.pow_pos (by omega)))).symm | exact (Int.ediv_ediv (Int.le_of_lt (Int.pow_pos (by omega)))).symm
    rw [e1, show 32 - (k + 1) = 31 - k by omega, Int.pow_succ]
    generalize x / 2 ^ (31 - k) = y
    rw [← Int.mul_assoc]
    generalize r * 2 ^ k = z
    omega

/-- the number of the uppermost t digits -/
def topV (l : List Int) (n : Nat) : Nat → Int
  | 0 => 0
  | t + 1 => topV l n t * 4294967296 + List.getD l (Int.toNat (((n : Nat) : Int) - (1 : Int) - ((t : Nat) : Int))) 0

theorem wd8_get {S : List Int} (h : Wd8 S) (i : Nat) : 0 ≤ List.getD S i 0 ∧ List.getD S i 0 < 4294967296 := by
  rw [List.getD_eq_getElem?_getD]
  by_cases hi : i < S.length
  · rw [List.getElem?_eq_getElem hi]; exact h _ (List.getElem_mem hi)
  · rw [List.getElem?_eq_none (by omega)]; simp

theorem rO_eq {l : List Int} (h : Wd8 l) (n : Nat) : ∀ t, rO l n t = modL (topV l n t)
  | 0 => by show (0 : Int) = modL 0; rfl
  | t + 1 => by
    have hx := wd8_get h (Int.toNat (((n : Nat) : Int) - (1 : Int) - ((t : Nat) : Int)))
    show rI _ (rO l n t) 32 = modL (topV l n t * 4294967296 + _)
    rw [rO_eq h n t]
    have hm := modL_rng (topV l n t)
    rw [rI_eq hx.1 hx.2 hm.1 hm.2.1 32 (Nat.le_refl _)]
    unfold modL
    show (topV l n t % LL * 4294967296 + List.getD l _ 0 / 1) % LL = _
    rw [Int.ediv_one, Int.add_emod, Int.mul_emod, Int.emod_emod_of_dvd _ (Int.dvd_refl LL), ← Int.mul_emod, ← Int.add_emod]

theorem mod_can (n nm : Nat) (l : List Int) (cap0 : Nat) (h0 : nm = n) (h1 : n < 70368744177664) (h2 : Wd8 l) (w : World) (β : Env) : Body Try.prog (tabOf tabNX) Try.f77 ⟨w, [], 1, β⟩ [.o (.a (.sl 0 (0 : Nat) n cap0))] [some ⟨false, [.ints .u32 nm l]⟩] (fun ys _ => ys = [.g [.ints .u32 (8 : Nat) (W8 (modL (topV l n n)))]]) :=
  (modR_body n nm l cap0 h0 h1 w β).mono fun xs K hx => by
    subst hx
    have e : modR n l = W8 (modL (topV l n n)) := by show W8 (rO l n n) = _; rw [rO_eq h2]
    rw [e]
end Go.Proofs.Ytcpoldghkiiggaa.X

/- Printed by a tool of this session. -/
namespace Go.Proofs.Ytcpoldghkiiggaa.X
open Go Go.Proofs
set_option linter.unusedVariables false
set_option linter.unusedSimpArgs false
set_option maxRecDepth 100000
theorem teNZ_3 : TEOk Try.prog 3 ⟨.int .i64, 1, 8, [.i .i64 (0 : Int)], false⟩ :=
  TEOk.of Try.underlying3 (i := Try.t3) (by kernel_rfl) rfl rfl rfl (by kernel_rfl) (fun h => by cases h) (by kernel_rfl)
theorem teNZ_5 : TEOk Try.prog 5 ⟨.int .u8, 1, 1, [.i .u8 (0 : Int)], false⟩ :=
  TEOk.of Try.underlying5 (i := Try.t5) (by kernel_rfl) rfl rfl rfl (by kernel_rfl) (fun h => by cases h) (by kernel_rfl)
theorem teNZ_22 : TEOk Try.prog 22 ⟨.slice 5, 1, 24, [.raw (.slice none 0 0)], false⟩ :=
  TEOk.of Try.underlying22 (i := Try.t22) (by kernel_rfl) rfl rfl rfl (by kernel_rfl) (fun h => by cases h) (by kernel_rfl)
theorem teNZ_62 : TEOk Try.prog 62 ⟨.int .u64, 1, 8, [.i .u64 (0 : Int)], false⟩ :=
  TEOk.of Try.underlying62 (i := Try.t62) (by kernel_rfl) rfl rfl rfl (by kernel_rfl) (fun h => by cases h) (by kernel_rfl)
theorem teNZ_109 : TEOk Try.prog 109 ⟨.int .u32, 1, 4, [.i .u32 (0 : Int)], false⟩ :=
  TEOk.of Try.underlying109 (i := Try.t109) (by kernel_rfl) rfl rfl rfl (by kernel_rfl) (fun h => by cases h) (by kernel_rfl)
theorem teNZ_113 : TEOk Try.prog 113 ⟨.slice 109, 1, 24, [.raw (.slice none 0 0)], false⟩ :=
  TEOk.of Try.underlying113 (i := Try.t113) (by kernel_rfl) rfl rfl rfl (by kernel_rfl) (fun h => by cases h) (by kernel_rfl)
noncomputable def tabNZ : List (Nat × TE) := [(3, ⟨.int .i64, 1, 8, [.i .i64 (0 : Int)], false⟩), (5, ⟨.int .u8, 1, 1, [.i .u8 (0 : Int)], false⟩), (22, ⟨.slice 5, 1, 24, [.raw (.slice none 0 0)], false⟩), (62, ⟨.int .u64, 1, 8, [.i .u64 (0 : Int)], false⟩), (109, ⟨.int .u32, 1, 4, [.i .u32 (0 : Int)], false⟩), (113, ⟨.slice 109, 1, 24, [.raw (.slice none 0 0)], false⟩)]
theorem tabOkNZ : TabOk Try.prog (tabOf tabNZ) := (tabOf_cons teNZ_3 (tabOf_cons teNZ_5 (tabOf_cons teNZ_22 (tabOf_cons teNZ_62 (tabOf_cons teNZ_109 (tabOf_cons teNZ_113 tabOf_nil))))))

def gam27 : Gam := greadV 77 [.s 1] (fun vs args => match vs, args with | [⟨_, _, _, [.ints .u32 nm l]⟩], [a0] => some ((nm = (lenOfA a0)) ∧ ((lenOfA a0) < (70368744177664 : Nat)) ∧ (Wd8 l), [.g [.ints .u32 (8 : Nat) (W8 (modL (topV l (lenOfA a0) (lenOfA a0))))]]) | _, _ => none) gam26
theorem gam27_ok : GamOk Try.prog gam27 := greadV_ok tabOkNX Try.func77 gam26_ok Try.call77 (by
  intro vs args p xs h hv
  split at h
  · simp only [Option.some.injEq, Prod.mk.injEq] at h; obtain ⟨rfl, rfl⟩ := h; exact ⟨by rfl, fun caps w β => mod_can _ _ _ _ hv.1 hv.2.1 hv.2.2 w β⟩
  · simp at h)

def digA (b : List Int) : List Int :=
  ([(bits2 .or .u32 (bits2 .or .u32 (bits2 .or .u32 (bits2 .or .u32 (0 : Int) (shl .u32 (IntKind.u32.wrap (List.getD b (0 : Nat) 0)) (0 : Int))) (shl .u32 (IntKind.u32.wrap (List.getD b (1 : Nat) 0)) (8 : Int))) (shl .u32 (IntKind.u32.wrap (List.getD b (2 : Nat) 0)) (16 : Int))) (shl .u32 (IntKind.u32.wrap (List.getD b (3 : Nat) 0)) (24 : Int))), (bits2 .or .u32 (bits2 .or .u32 (bits2 .or .u32 (bits2 .or .u32 (0 : Int) (shl .u32 (IntKind.u32.wrap (List.getD b (4 : Nat) 0)) (0 : Int))) (shl .u32 (IntKind.u32.wrap (List.getD b (5 : Nat) 0)) (8 : Int))) (shl .u32 (IntKind.u32.wrap (List.getD b (6 : Nat) 0)) (16 : Int))) (shl .u32 (IntKind.u32.wrap (List.getD b (7 : Nat) 0)) (24 : Int))), (bits2 .or .u32 (bits2 .or .u32 (bits2 .or .u32 (bits2 .or .u32 (0 : Int) (shl .u32 (IntKind.u32.wrap (List.getD b (8 : Nat) 0)) (0 : Int))) (shl .u32 (IntKind.u32.wrap (List.getD b (9 : Nat) 0)) (8 : Int))) (shl .u32 (IntKind.u32.wrap (List.getD b (10 : Nat) 0)) (16 : Int))) (shl .u32 (IntKind.u32.wrap (List.getD b (11 : Nat) 0)) (24 : Int))), (bits2 .or .u32 (bits2 .or .u32 (bits2 .or .u32 (bits2 .or .u32 (0 : Int) (shl .u32 (IntKind.u32.wrap (List.getD b (12 : Nat) 0)) (0 : Int))) (shl .u32 (IntKind.u32.wrap (List.getD b (13 : Nat) 0)) (8 : Int))) (shl .u32 (IntKind.u32.wrap (List.getD b (14 : Nat) 0)) (16 : Int))) (shl .u32 (IntKind.u32.wrap (List.getD b (15 : Nat) 0)) (24 : Int))), (bits2 .or .u32 (bits2 .or .u32 (bits2 .or .u32 (bits2 .or .u32 (0 : Int) (shl .u32 (IntKind.u32.wrap (List.getD b (16 : Nat) 0)) (0 : Int))) (shl .u32 (IntKind.u32.wrap (List.getD b (17 : Nat) 0)) (8 : Int))) (shl .u32 (IntKind.u32.wrap (List.getD b (18 : Nat) 0)) (16 : Int))) (shl .u32 (IntKind.u32.wrap (List.getD b (19 : Nat) 0)) (24 : Int))), (bits2 .or .u32 (bits2 .or .u32 (bits2 .or .u32 (bits2 .or .u32 (0 : Int) (shl .u32 (IntKind.u32.wrap (List.getD b (20 : Nat) 0)) (0 : Int))) (shl .u32 (IntKind.u32.wrap (List.getD b (21 : Nat) 0)) (8 : Int))) (shl .u32 (IntKind.u32.wrap (List.getD b (22 : Nat) 0)) (16 : Int))) (shl .u32 (IntKind.u32.wrap (List.getD b (23 : Nat) 0)) (24 : Int))), (bits2 .or .u32 (bits2 .or .u32 (bits2 .or .u32 (bits2 .or .u32 (0 : Int) (shl .u32 (IntKind.u32.wrap (List.getD b (24 : Nat) 0)) (0 : Int))) (shl .u32 (IntKind.u32.wrap (List.getD b (25 : Nat) 0)) (8 : Int))) (shl .u32 (IntKind.u32.wrap (List.getD b (26 : Nat) 0)) (16 : Int))) (shl .u32 (IntKind.u32.wrap (List.getD b (27 : Nat) 0)) (24 : Int))), (bits2 .or .u32 (bits2 .or .u32 (bits2 .or .u32 (bits2 .or .u32 (0 : Int) (shl .u32 (IntKind.u32.wrap (List.getD b (28 : Nat) 0)) (0 : Int))) (shl .u32 (IntKind.u32.wrap (List.getD b (29 : Nat) 0)) (8 : Int))) (shl .u32 (IntKind.u32.wrap (List.getD b (30 : Nat) 0)) (16 : Int))) (shl .u32 (IntKind.u32.wrap (List.getD b (31 : Nat) 0)) (24 : Int)))] : List Int)

set_option maxHeartbeats 1000000 in
theorem digA_body0 (b : List Int) (cp : Nat) (hl0_0 : List.length b = (32 : Nat)) (w : World) (rw : List Nat) (β : Env) : Body Try.prog (tabOf tabNZ) Try.f78 ⟨w, rw, 1, β⟩ [.o (.a (.sl 0 (0 : Nat) (32 : Nat) cp))] [some ⟨false, [.ints .u8 (32 : Nat) b]⟩] (fun ys K' => ys = [.a (.sl 1 (0 : Nat) (8 : Nat) (8 : Nat))] ∧ K' = [some ⟨false, [.ints .u8 (32 : Nat) b]⟩, some ⟨true, [.ints .u32 (8 : Nat) (digA b)]⟩]) :=
  Body.of_finK (Γ := gam27) (Λ := noLam) (Ψ := psiOf [(1, [.eqB 1 (⟨true, [.ints .u32 (8 : Nat) ([0, 0, 0, 0, 0, 0, 0, 0] : List Int)]⟩)])]) (fuel := 33) (m := 37) (c := (Try.f78.body.getD .skip)) mix tabOkNZ gam27_ok rfl (rs := [.tmp 2]) rfl rfl [true, true, true, true, true, true, true, true, true, true, true, true, true, true, true, true, true, true, true, true, true, true, true, true, true, true, true, true, true, true, true, true, false] [] 2
    (vc := [(false = false), ((7 : Nat) < (8 : Nat)), (((0 : Int) ≤ (7 : Int)) ∧ ((7 : Int) < (8 : Int))), ((0 : Int) ≤ (24 : Int)), ((4 : Int) ≠ 0), ((31 : Nat) < (32 : Nat)), (((0 : Int) ≤ (31 : Int)) ∧ ((31 : Int) < (32 : Int))), ((7 : Nat) < (8 : Nat)), (((0 : Int) ≤ (7 : Int)) ∧ ((7 : Int) < (8 : Int))), ((4 : Int) ≠ 0), ((4 : Int) ≠ 0), (true = true), ((7 : Nat) < (8 : Nat)), (((0 : Int) ≤ (7 : Int)) ∧ ((7 : Int) < (8 : Int))), ((0 : Int) ≤ (16 : Int)), ((4 : Int) ≠ 0), ((30 : Nat) < (32 : Nat)), (((0 : Int) ≤ (30 : Int)) ∧ ((30 : Int) < (32 : Int))), ((7 : Nat) < (8 : Nat)), (((0 : Int) ≤ (7 : Int)) ∧ ((7 : Int) < (8 : Int))), ((4 : Int) ≠ 0), ((4 : Int) ≠ 0), (true = true), ((7 : Nat) < (8 : Nat)), (((0 : Int) ≤ (7 : Int)) ∧ ((7 : Int) < (8 : Int))), ((0 : Int) ≤ (8 : Int)), ((4 : Int) ≠ 0), ((29 : Nat) < (32 : Nat)), (((0 : Int) ≤ (29 : Int)) ∧ ((29 : Int) < (32 : Int))), ((7 : Nat) < (8 : Nat)), (((0 : Int) ≤ (7 : Int)) ∧ ((7 : Int) < (8 : Int))), ((4 : Int) ≠ 0), ((4 : Int) ≠ 0), (true = true), ((7 : Nat) < (8 : Nat)), (((0 : Int) ≤ (7 : Int)) ∧ ((7 : Int) < (8 : Int))), ((0 : Int) ≤ (0 : Int)), ((4 : Int) ≠ 0), ((28 : Nat) < (32 : Nat)), (((0 : Int) ≤ (28 : Int)) ∧ ((28 : Int) < (32 : Int))), ((7 : Nat) < (8 : Nat)), (((0 : Int) ≤ (7 : Int)) ∧ ((7 : Int) < (8 : Int))), ((4 : Int) ≠ 0), ((4 : Int) ≠ 0), (true = true), ((6 : Nat) < (8 : Nat)), (((0 : Int) ≤ (6 : Int)) ∧ ((6 : Int) < (8 : Int))), ((0 : Int) ≤ (24 : Int)), ((4 : Int) ≠ 0), ((27 : Nat) < (32 : Nat)), (((0 : Int) ≤ (27 : Int)) ∧ ((27 : Int) < (32 : Int))), ((6 : Nat) < (8 : Nat)), (((0 : Int) ≤ (6 : Int)) ∧ ((6 : Int) < (8 : Int))), ((4 : Int) ≠ 0), ((4 : Int) ≠ 0), (true = true), ((6 : Nat) < (8 : Nat)), (((0 : Int) ≤ (6 : Int)) ∧ ((6 : Int) < (8 : Int))), ((0 : Int) ≤ (16 : Int)), ((4 : Int) ≠ 0), ((26 : Nat) < (32 : Nat)), (((0 : Int) ≤ (26 : Int)) ∧ ((26 : Int) < (32 : Int))), ((6 : Nat) < (8 : Nat)), (((0 : Int) ≤ (6 : Int)) ∧ ((6 : Int) < (8 : Int))), ((4 : Int) ≠ 0), ((4 : Int) ≠ 0), (true = true), ((6 : Nat) < (8 : Nat)), (((0 : Int) ≤ (6 : Int)) ∧ ((6 : Int) < (8 : Int))), ((0 : Int) ≤ (8 : Int)), ((4 : Int) ≠ 0), ((25 : Nat) < (32 : Nat)), (((0 : Int) ≤ (25 : Int)) ∧ ((25 : Int) < (32 : Int))), ((6 : Nat) < (8 : Nat)), (((0 : Int) ≤ (6 : Int)) ∧ ((6 : Int) < (8 : Int))), ((4 : Int) ≠ 0), ((4 : Int) ≠ 0), (true = true), ((6 : Nat) < (8 : Nat)), (((0 : Int) ≤ (6 : Int)) ∧ ((6 : Int) < (8 : Int))), ((0 : Int) ≤ (0 : Int)), ((4 : Int) ≠ 0), ((24 : Nat) < (32 : Nat)), (((0 : Int) ≤ (24 : Int)) ∧ ((24 : Int) < (32 : Int))), ((6 : Nat) < (8 : Nat)), (((0 : Int) ≤ (6 : Int)) ∧ ((6 : Int) < (8 : Int))), ((4 : Int) ≠ 0), ((4 : Int) ≠ 0), (true = true), ((5 : Nat) < (8 : Nat)), (((0 : Int) ≤ (5 : Int)) ∧ ((5 : Int) < (8 : Int))), ((0 : Int) ≤ (24 : Int)), ((4 : Int) ≠ 0), ((23 : Nat) < (32 : Nat)), (((0 : Int) ≤ (23 : Int)) ∧ ((23 : Int) < (32 : Int))), ((5 : Nat) < (8 : Nat)), (((0 : Int) ≤ (5 : Int)) ∧ ((5 : Int) < (8 : Int))), ((4 : Int) ≠ 0), ((4 : Int) ≠ 0), (true = true), ((5 : Nat) < (8 : Nat)), (((0 : Int) ≤ (5 : Int)) ∧ ((5 : Int) < (8 : Int))), ((0 : Int) ≤ (16 : Int)), ((4 : Int) ≠ 0), ((22 : Nat) < (32 : Nat)), (((0 : Int) ≤ (22 : Int)) ∧ ((22 : Int) < (32 : Int))), ((5 : Nat) < (8 : Nat)), (((0 : Int) ≤ (5 : Int)) ∧ ((5 : Int) < (8 : Int))), ((4 : Int) ≠ 0), ((4 : Int) ≠ 0), (true = true), ((5 : Nat) < (8 : Nat)), (((0 : Int) ≤ (5 : Int)) ∧ ((5 : Int) < (8 : Int))), ((0 : Int) ≤ (8 : Int)), ((4 : Int) ≠ 0), ((21 : Nat) < (32 : Nat)), (((0 : Int) ≤ (21 : Int)) ∧ ((21 : Int) < (32 : Int))), ((5 : Nat) < (8 : Nat)), (((0 : Int) ≤ (5 : Int)) ∧ ((5 : Int) < (8 : Int))), ((4 : Int) ≠ 0), ((4 : Int) ≠ 0), (true = true), ((5 : Nat) < (8 : Nat)), (((0 : Int) ≤ (5 : Int)) ∧ ((5 : Int) < (8 : Int))), ((0 : Int) ≤ (0 : Int)), ((4 : Int) ≠ 0), ((20 : Nat) < (32 : Nat)), (((0 : Int) ≤ (20 : Int)) ∧ ((20 : Int) < (32 : Int))), ((5 : Nat) < (8 : Nat)), (((0 : Int) ≤ (5 : Int)) ∧ ((5 : Int) < (8 : Int))), ((4 : Int) ≠ 0), ((4 : Int) ≠ 0), (true = true), ((4 : Nat) < (8 : Nat)), (((0 : Int) ≤ (4 : Int)) ∧ ((4 : Int) < (8 : Int))), ((0 : Int) ≤ (24 : Int)), ((4 : Int) ≠ 0), ((19 : Nat) < (32 : Nat)), (((0 : Int) ≤ (19 : Int)) ∧ ((19 : Int) < (32 : Int))), ((4 : Nat) < (8 : Nat)), (((0 : Int) ≤ (4 : Int)) ∧ ((4 : Int) < (8 : Int))), ((4 : Int) ≠ 0), ((4 : Int) ≠ 0), (true = true), ((4 : Nat) < (8 : Nat)), (((0 : Int) ≤ (4 : Int)) ∧ ((4 : Int) < (8 : Int))), ((0 : Int) ≤ (16 : Int)), ((4 : Int) ≠ 0), ((18 : Nat) < (32 : Nat)), (((0 : Int) ≤ (18 : Int)) ∧ ((18 : Int) < (32 : Int))), ((4 : Nat) < (8 : Nat)), (((0 : Int) ≤ (4 : Int)) ∧ ((4 : Int) < (8 : Int))), ((4 : Int) ≠ 0), ((4 : Int) ≠ 0), (true = true), ((4 : Nat) < (8 : Nat)), (((0 : Int) ≤ (4 : Int)) ∧ ((4 : Int) < (8 : Int))), ((0 : Int) ≤ (8 : Int)), ((4 : Int) ≠ 0), ((17 : Nat) < (32 : Nat)), (((0 : Int) ≤ (17 : Int)) ∧ ((17 : Int) < (32 : Int))), ((4 : Nat) < (8 : Nat)), (((0 : Int) ≤ (4 : Int)) ∧ ((4 : Int) < (8 : Int))), ((4 : Int) ≠ 0), ((4 : Int) ≠ 0), (true = true), ((4 : Nat) < (8 : Nat)), (((0 : Int) ≤ (4 : Int)) ∧ ((4 : Int) < (8 : Int))), ((0 : Int) ≤ (0 : Int)), ((4 : Int) ≠ 0), ((16 : Nat) < (32 : Nat)), (((0 : Int) ≤ (16 : Int)) ∧ ((16 : Int) < (32 : Int))), ((4 : Nat) < (8 : Nat)), (((0 : Int) ≤ (4 : Int)) ∧ ((4 : Int) < (8 : Int))), ((4 : Int) ≠ 0), ((4 : Int) ≠ 0), (true = true), ((3 : Nat) < (8 : Nat)), (((0 : Int) ≤ (3 : Int)) ∧ ((3 : Int) < (8 : Int))), ((0 : Int) ≤ (24 : Int)), ((4 : Int) ≠ 0), ((15 : Nat) < (32 : Nat)), (((0 : Int) ≤ (15 : Int)) ∧ ((15 : Int) < (32 : Int))), ((3 : Nat) < (8 : Nat)), (((0 : Int) ≤ (3 : Int)) ∧ ((3 : Int) < (8 : Int))), ((4 : Int) ≠ 0), ((4 : Int) ≠ 0), (true = true), ((3 : Nat) < (8 : Nat)), (((0 : Int) ≤ (3 : Int)) ∧ ((3 : Int) < (8 : Int))), ((0 : Int) ≤ (16 : Int)), ((4 : Int) ≠ 0), ((14 : Nat) < (32 : Nat)), (((0 : Int) ≤ (14 : Int)) ∧ ((14 : Int) < (32 : Int))), ((3 : Nat) < (8 : Nat)), (((0 : Int) ≤ (3 : Int)) ∧ ((3 : Int) < (8 : Int))), ((4 : Int) ≠ 0), ((4 : Int) ≠ 0), (true = true), ((3 : Nat) < (8 : Nat)), (((0 : Int) ≤ (3 : Int)) ∧ ((3 : Int) < (8 : Int))), ((0 : Int) ≤ (8 : Int)), ((4 : Int) ≠ 0), ((13 : Nat) < (32 : Nat)), (((0 : Int) ≤ (13 : Int)) ∧ ((13 : Int) < (32 : Int))), ((3 : Nat) < (8 : Nat)), (((0 : Int) ≤ (3 : Int)) ∧ ((3 : Int) < (8 : Int))), ((4 : Int) ≠ 0), ((4 : Int) ≠ 0), (true = true), ((3 : Nat) < (8 : Nat)), (((0 : Int) ≤ (3 : Int)) ∧ ((3 : Int) < (8 : Int))), ((0 : Int) ≤ (0 : Int)), ((4 : Int) ≠ 0), ((12 : Nat) < (32 : Nat)), (((0 : Int) ≤ (12 : Int)) ∧ ((12 : Int) < (32 : Int))), ((3 : Nat) < (8 : Nat)), (((0 : Int) ≤ (3 : Int)) ∧ ((3 : Int) < (8 : Int))), ((4 : Int) ≠ 0), ((4 : Int) ≠ 0), (true = true), ((2 : Nat) < (8 : Nat)), (((0 : Int) ≤ (2 : Int)) ∧ ((2 : Int) < (8 : Int))), ((0 : Int) ≤ (24 : Int)), ((4 : Int) ≠ 0), ((11 : Nat) < (32 : Nat)), (((0 : Int) ≤ (11 : Int)) ∧ ((11 : Int) < (32 : Int))), ((2 : Nat) < (8 : Nat)), (((0 : Int) ≤ (2 : Int)) ∧ ((2 : Int) < (8 : Int))), ((4 : Int) ≠ 0), ((4 : Int) ≠ 0), (true = true), ((2 : Nat) < (8 : Nat)), (((0 : Int) ≤ (2 : Int)) ∧ ((2 : Int) < (8 : Int))), ((0 : Int) ≤ (16 : Int)), ((4 : Int) ≠ 0), ((10 : Nat) < (32 : Nat)), (((0 : Int) ≤ (10 : Int)) ∧ ((10 : Int) < (32 : Int))), ((2 : Nat) < (8 : Nat)), (((0 : Int) ≤ (2 : Int)) ∧ ((2 : Int) < (8 : Int))), ((4 : Int) ≠ 0), ((4 : Int) ≠ 0), (true = true), ((2 : Nat) < (8 : Nat)), (((0 : Int) ≤ (2 : Int)) ∧ ((2 : Int) < (8 : Int))), ((0 : Int) ≤ (8 : Int)), ((4 : Int) ≠ 0), ((9 : Nat) < (32 : Nat)), (((0 : Int) ≤ (9 : Int)) ∧ ((9 : Int) < (32 : Int))), ((2 : Nat) < (8 : Nat)), (((0 : Int) ≤ (2 : Int)) ∧ ((2 : Int) < (8 : Int))), ((4 : Int) ≠ 0), ((4 : Int) ≠ 0), (true = true), ((2 : Nat) < (8 : Nat)), (((0 : Int) ≤ (2 : Int)) ∧ ((2 : Int) < (8 : Int))), ((0 : Int) ≤ (0 : Int)), ((4 : Int) ≠ 0), ((8 : Nat) < (32 : Nat)), (((0 : Int) ≤ (8 : Int)) ∧ ((8 : Int) < (32 : Int))), ((2 : Nat) < (8 : Nat)), (((0 : Int) ≤ (2 : Int)) ∧ ((2 : Int) < (8 : Int))), ((4 : Int) ≠ 0), ((4 : Int) ≠ 0), (true = true), ((1 : Nat) < (8 : Nat)), (((0 : Int) ≤ (1 : Int)) ∧ ((1 : Int) < (8 : Int))), ((0 : Int) ≤ (24 : Int)), ((4 : Int) ≠ 0), ((7 : Nat) < (32 : Nat)), (((0 : Int) ≤ (7 : Int)) ∧ ((7 : Int) < (32 : Int))), ((1 : Nat) < (8 : Nat)), (((0 : Int) ≤ (1 : Int)) ∧ ((1 : Int) < (8 : Int))), ((4 : Int) ≠ 0), ((4 : Int) ≠ 0), (true = true), ((1 : Nat) < (8 : Nat)), (((0 : Int) ≤ (1 : Int)) ∧ ((1 : Int) < (8 : Int))), ((0 : Int) ≤ (16 : Int)), ((4 : Int) ≠ 0), ((6 : Nat) < (32 : Nat)), (((0 : Int) ≤ (6 : Int)) ∧ ((6 : Int) < (32 : Int))), ((1 : Nat) < (8 : Nat)), (((0 : Int) ≤ (1 : Int)) ∧ ((1 : Int) < (8 : Int))), ((4 : Int) ≠ 0), ((4 : Int) ≠ 0), (true = true), ((1 : Nat) < (8 : Nat)), (((0 : Int) ≤ (1 : Int)) ∧ ((1 : Int) < (8 : Int))), ((0 : Int) ≤ (8 : Int)), ((4 : Int) ≠ 0), ((5 : Nat) < (32 : Nat)), (((0 : Int) ≤ (5 : Int)) ∧ ((5 : Int) < (32 : Int))), ((1 : Nat) < (8 : Nat)), (((0 : Int) ≤ (1 : Int)) ∧ ((1 : Int) < (8 : Int))), ((4 : Int) ≠ 0), ((4 : Int) ≠ 0), (true = true), ((1 : Nat) < (8 : Nat)), (((0 : Int) ≤ (1 : Int)) ∧ ((1 : Int) < (8 : Int))), ((0 : Int) ≤ (0 : Int)), ((4 : Int) ≠ 0), ((4 : Nat) < (32 : Nat)), (((0 : Int) ≤ (4 : Int)) ∧ ((4 : Int) < (32 : Int))), ((1 : Nat) < (8 : Nat)), (((0 : Int) ≤ (1 : Int)) ∧ ((1 : Int) < (8 : Int))), ((4 : Int) ≠ 0), ((4 : Int) ≠ 0), (true = true), ((0 : Nat) < (8 : Nat)), (((0 : Int) ≤ (0 : Int)) ∧ ((0 : Int) < (8 : Int))), ((0 : Int) ≤ (24 : Int)), ((4 : Int) ≠ 0), ((3 : Nat) < (32 : Nat)), (((0 : Int) ≤ (3 : Int)) ∧ ((3 : Int) < (32 : Int))), ((0 : Nat) < (8 : Nat)), (((0 : Int) ≤ (0 : Int)) ∧ ((0 : Int) < (8 : Int))), ((4 : Int) ≠ 0), ((4 : Int) ≠ 0), (true = true), ((0 : Nat) < (8 : Nat)), (((0 : Int) ≤ (0 : Int)) ∧ ((0 : Int) < (8 : Int))), ((0 : Int) ≤ (16 : Int)), ((4 : Int) ≠ 0), ((2 : Nat) < (32 : Nat)), (((0 : Int) ≤ (2 : Int)) ∧ ((2 : Int) < (32 : Int))), ((0 : Nat) < (8 : Nat)), (((0 : Int) ≤ (0 : Int)) ∧ ((0 : Int) < (8 : Int))), ((4 : Int) ≠ 0), ((4 : Int) ≠ 0), (true = true), ((0 : Nat) < (8 : Nat)), (((0 : Int) ≤ (0 : Int)) ∧ ((0 : Int) < (8 : Int))), ((0 : Int) ≤ (8 : Int)), ((4 : Int) ≠ 0), ((1 : Nat) < (32 : Nat)), (((0 : Int) ≤ (1 : Int)) ∧ ((1 : Int) < (32 : Int))), ((0 : Nat) < (8 : Nat)), (((0 : Int) ≤ (0 : Int)) ∧ ((0 : Int) < (8 : Int))), ((4 : Int) ≠ 0), ((4 : Int) ≠ 0), (true = true), ((0 : Nat) < (8 : Nat)), (((0 : Int) ≤ (0 : Int)) ∧ ((0 : Int) < (8 : Int))), ((0 : Int) ≤ (0 : Int)), ((4 : Int) ≠ 0), ((0 : Nat) < (32 : Nat)), (((0 : Int) ≤ (0 : Int)) ∧ ((0 : Int) < (32 : Int))), ((0 : Nat) < (8 : Nat)), (((0 : Int) ≤ (0 : Int)) ∧ ((0 : Int) < (8 : Int))), ((4 : Int) ≠ 0), ((4 : Int) ≠ 0), (true = true), ((some ⟨true, [.ints .u32 (8 : Nat) (List.replicate (8 : Nat) (0 : Int))]⟩ : Option Blk) = some ⟨true, [.ints .u32 (8 : Nat) ([0, 0, 0, 0, 0, 0, 0, 0] : List Int)]⟩), (((0 : Int) ≤ (8 : Int)) ∧ ((8 : Int) ≤ (8 : Int)) ∧ ((32 : Int) ≤ (281474976710656 : Int))), ((4 : Int) ≠ 0)]) (by kernel_rfl)
    (AllP_cons rfl (AllP_cons (by decide) (AllP_cons ⟨(by decide), (by decide)⟩ (AllP_cons (by decide) (AllP_cons (by decide) (AllP_cons (by decide) (AllP_cons ⟨(by decide), (by decide)⟩ (AllP_cons (by decide) (AllP_cons ⟨(by decide), (by decide)⟩ (AllP_cons (by decide) (AllP_cons (by decide) (AllP_cons rfl (AllP_cons (by decide) (AllP_cons ⟨(by decide), (by decide)⟩ (AllP_cons (by decide) (AllP_cons (by decide) (AllP_cons (by decide) (AllP_cons ⟨(by decide), (by decide)⟩ (AllP_cons (by decide) (AllP_cons ⟨(by decide), (by decide)⟩ (AllP_cons (by decide) (AllP_cons (by decide) (AllP_cons rfl (AllP_cons (by decide) (AllP_cons ⟨(by decide), (by decide)⟩ (AllP_cons (by decide) (AllP_cons (by decide) (AllP_cons (by decide) (AllP_cons ⟨(by decide), (by decide)⟩ (AllP_cons (by decide) (AllP_cons ⟨(by decide), (by decide)⟩ (AllP_cons (by decide) (AllP_cons (by decide) (AllP_cons rfl (AllP_cons (by decide) (AllP_cons ⟨(by decide), (by decide)⟩ (AllP_cons (by decide) (AllP_cons (by decide) (AllP_cons (by decide) (AllP_cons ⟨(by decide), (by decide)⟩ (AllP_cons (by decide) (AllP_cons ⟨(by decide), (by decide)⟩ (AllP_cons (by decide) (AllP_cons (by decide) (AllP_cons rfl (AllP_cons (by decide) (AllP_cons ⟨(by decide), (by decide)⟩ (AllP_cons (by decide) (AllP_cons (by decide) (AllP_cons (by decide) (AllP_cons ⟨(by decide), (by decide)⟩ (AllP_cons (by decide) (AllP_cons ⟨(by decide), (by decide)⟩ (AllP_cons (by decide) (AllP_cons (by decide) (AllP_cons rfl (AllP_cons (by decide) (AllP_cons ⟨(by decide), (by decide)⟩ (AllP_cons (by decide) (AllP_cons (by decide) (AllP_cons (by decide) (AllP_cons ⟨(by decide), (by decide)⟩ (AllP_cons (by decide) (AllP_cons ⟨(by decide), (by decide)⟩ (AllP_cons (by decide) (AllP_cons (by decide) (AllP_cons rfl (AllP_cons (by decide) (AllP_cons ⟨(by decide), (by decide)⟩ (AllP_cons (by decide) (AllP_cons (by decide) (AllP_cons (by decide) (AllP_cons ⟨(by decide), (by decide)⟩ (AllP_cons (by decide) (AllP_cons ⟨(by decide), (by decide)⟩ (AllP_cons (by decide) (AllP_cons (by decide) (AllP_cons rfl (AllP_cons (by decide) (AllP_cons ⟨(by decide), (by decide)⟩ (AllP_cons (by decide) (AllP_cons (by decide) (AllP_cons (by decide) (AllP_cons ⟨(by decide), (by decide)⟩ (AllP_cons (by decide) (AllP_cons ⟨(by decide), (by decide)⟩ (AllP_cons (by decide) (AllP_cons (by decide) (AllP_cons rfl (AllP_cons (by decide) (AllP_cons ⟨(by decide), (by decide)⟩ (AllP_cons (by decide) (AllP_cons (by decide) (AllP_cons (by decide) (AllP_cons ⟨(by decide), (by decide)⟩ (AllP_cons (by decide) (AllP_cons ⟨(by decide), (by decide)⟩ (AllP_cons (by decide) (AllP_cons (by decide) (AllP_cons rfl (AllP_cons (by decide) (AllP_cons ⟨(by decide), (by decide)⟩ (AllP_cons (by decide) (AllP_cons (by decide) (AllP_cons (by decide) (AllP_cons ⟨(by decide), (by decide)⟩ (AllP_cons (by decide) (AllP_cons ⟨(by decide), (by decide)⟩ (AllP_cons (by decide) (AllP_cons (by decide) (AllP_cons rfl (AllP_cons (by decide) (AllP_cons ⟨(by decide), (by decide)⟩ (AllP_cons (by decide) (AllP_cons (by decide) (AllP_cons (by decide) (AllP_cons ⟨(by decide), (by decide)⟩ (AllP_cons (by decide) (AllP_cons ⟨(by decide), (by decide)⟩ (AllP_cons (by decide) (AllP_cons (by decide) (AllP_cons rfl (AllP_cons (by decide) (AllP_cons ⟨(by decide), (by decide)⟩ (AllP_cons (by decide) (AllP_cons (by decide) (AllP_cons (by decide) (AllP_cons ⟨(by decide), (by decide)⟩ (AllP_cons (by decide) (AllP_cons ⟨(by decide), (by decide)⟩ (AllP_cons (by decide) (AllP_cons (by decide) (AllP_cons rfl (AllP_cons (by decide) (AllP_cons ⟨(by decide), (by decide)⟩ (AllP_cons (by decide) (AllP_cons (by decide) (AllP_cons (by decide) (AllP_cons ⟨(by decide), (by decide)⟩ (AllP_cons (by decide) (AllP_cons ⟨(by decide), (by decide)⟩ (AllP_cons (by decide) (AllP_cons (by decide) (AllP_cons rfl (AllP_cons (by decide) (AllP_cons ⟨(by decide), (by decide)⟩ (AllP_cons (by decide) (AllP_cons (by decide) (AllP_cons (by decide) (AllP_cons ⟨(by decide), (by decide)⟩ (AllP_cons (by decide) (AllP_cons ⟨(by decide), (by decide)⟩ (AllP_cons (by decide) (AllP_cons (by decide) (AllP_cons rfl (AllP_cons (by decide) (AllP_cons ⟨(by decide), (by decide)⟩ (AllP_cons (by decide) (AllP_cons (by decide) (AllP_cons (by decide) (AllP_cons ⟨(by decide), (by decide)⟩ (AllP_cons (by decide) (AllP_cons ⟨(by decide), (by decide)⟩ (AllP_cons (by decide) (AllP_cons (by decide) (AllP_cons rfl (AllP_cons (by decide) (AllP_cons ⟨(by decide), (by decide)⟩ (AllP_cons (by decide) (AllP_cons (by decide) (AllP_cons (by decide) (AllP_cons ⟨(by decide), (by decide)⟩ (AllP_cons (by decide) (AllP_cons ⟨(by decide), (by decide)⟩ (AllP_cons (by decide) (AllP_cons (by decide) (AllP_cons rfl (AllP_cons (by decide) (AllP_cons ⟨(by decide), (by decide)⟩ (AllP_cons (by decide) (AllP_cons (by decide) (AllP_cons (by decide) (AllP_cons ⟨(by decide), (by decide)⟩ (AllP_cons (by decide) (AllP_cons ⟨(by decide), (by decide)⟩ (AllP_cons (by decide) (AllP_cons (by decide) (AllP_cons rfl (AllP_cons (by decide) (AllP_cons ⟨(by decide), (by decide)⟩ (AllP_cons (by decide) (AllP_cons (by decide) (AllP_cons (by decide) (AllP_cons ⟨(by decide), (by decide)⟩ (AllP_cons (by decide) (AllP_cons ⟨(by decide), (by decide)⟩ (AllP_cons (by decide) (AllP_cons (by decide) (AllP_cons rfl (AllP_cons (by decide) (AllP_cons ⟨(by decide), (by decide)⟩ (AllP_cons (by decide) (AllP_cons (by decide) (AllP_cons (by decide) (AllP_cons ⟨(by decide), (by decide)⟩ (AllP_cons (by decide) (AllP_cons ⟨(by decide), (by decide)⟩ (AllP_cons (by decide) (AllP_cons (by decide) (AllP_cons rfl (AllP_cons (by decide) (AllP_cons ⟨(by decide), (by decide)⟩ (AllP_cons (by decide) (AllP_cons (by decide) (AllP_cons (by decide) (AllP_cons ⟨(by decide), (by decide)⟩ (AllP_cons (by decide) (AllP_cons ⟨(by decide), (by decide)⟩ (AllP_cons (by decide) (AllP_cons (by decide) (AllP_cons rfl (AllP_cons (by decide) (AllP_cons ⟨(by decide), (by decide)⟩ (AllP_cons (by decide) (AllP_cons (by decide) (AllP_cons (by decide) (AllP_cons ⟨(by decide), (by decide)⟩ (AllP_cons (by decide) (AllP_cons ⟨(by decide), (by decide)⟩ (AllP_cons (by decide) (AllP_cons (by decide) (AllP_cons rfl (AllP_cons (by decide) (AllP_cons ⟨(by decide), (by decide)⟩ (AllP_cons (by decide) (AllP_cons (by decide) (AllP_cons (by decide) (AllP_cons ⟨(by decide), (by decide)⟩ (AllP_cons (by decide) (AllP_cons ⟨(by decide), (by decide)⟩ (AllP_cons (by decide) (AllP_cons (by decide) (AllP_cons rfl (AllP_cons (by decide) (AllP_cons ⟨(by decide), (by decide)⟩ (AllP_cons (by decide) (AllP_cons (by decide) (AllP_cons (by decide) (AllP_cons ⟨(by decide), (by decide)⟩ (AllP_cons (by decide) (AllP_cons ⟨(by decide), (by decide)⟩ (AllP_cons (by decide) (AllP_cons (by decide) (AllP_cons rfl (AllP_cons (by decide) (AllP_cons ⟨(by decide), (by decide)⟩ (AllP_cons (by decide) (AllP_cons (by decide) (AllP_cons (by decide) (AllP_cons ⟨(by decide), (by decide)⟩ (AllP_cons (by decide) (AllP_cons ⟨(by decide), (by decide)⟩ (AllP_cons (by decide) (AllP_cons (by decide) (AllP_cons rfl (AllP_cons (by decide) (AllP_cons ⟨(by decide), (by decide)⟩ (AllP_cons (by decide) (AllP_cons (by decide) (AllP_cons (by decide) (AllP_cons ⟨(by decide), (by decide)⟩ (AllP_cons (by decide) (AllP_cons ⟨(by decide), (by decide)⟩ (AllP_cons (by decide) (AllP_cons (by decide) (AllP_cons rfl (AllP_cons (by decide) (AllP_cons ⟨(by decide), (by decide)⟩ (AllP_cons (by decide) (AllP_cons (by decide) (AllP_cons (by decide) (AllP_cons ⟨(by decide), (by decide)⟩ (AllP_cons (by decide) (AllP_cons ⟨(by decide), (by decide)⟩ (AllP_cons (by decide) (AllP_cons (by decide) (AllP_cons rfl (AllP_cons (by decide) (AllP_cons ⟨(by decide), (by decide)⟩ (AllP_cons (by decide) (AllP_cons (by decide) (AllP_cons (by decide) (AllP_cons ⟨(by decide), (by decide)⟩ (AllP_cons (by decide) (AllP_cons ⟨(by decide), (by decide)⟩ (AllP_cons (by decide) (AllP_cons (by decide) (AllP_cons rfl (AllP_cons (by decide) (AllP_cons ⟨(by decide), (by decide)⟩ (AllP_cons (by decide) (AllP_cons (by decide) (AllP_cons (by decide) (AllP_cons ⟨(by decide), (by decide)⟩ (AllP_cons (by decide) (AllP_cons ⟨(by decide), (by decide)⟩ (AllP_cons (by decide) (AllP_cons (by decide) (AllP_cons rfl (AllP_cons (by decide) (AllP_cons ⟨(by decide), (by decide)⟩ (AllP_cons (by decide) (AllP_cons (by decide) (AllP_cons (by decide) (AllP_cons ⟨(by decide), (by decide)⟩ (AllP_cons (by decide) (AllP_cons ⟨(by decide), (by decide)⟩ (AllP_cons (by decide) (AllP_cons (by decide) (AllP_cons rfl (AllP_cons (by decide) (AllP_cons ⟨(by decide), (by decide)⟩ (AllP_cons (by decide) (AllP_cons (by decide) (AllP_cons (by decide) (AllP_cons ⟨(by decide), (by decide)⟩ (AllP_cons (by decide) (AllP_cons ⟨(by decide), (by decide)⟩ (AllP_cons (by decide) (AllP_cons (by decide) (AllP_cons rfl (AllP_cons (by decide) (AllP_cons ⟨(by decide), (by decide)⟩ (AllP_cons (by decide) (AllP_cons (by decide) (AllP_cons (by decide) (AllP_cons ⟨(by decide), (by decide)⟩ (AllP_cons (by decide) (AllP_cons ⟨(by decide), (by decide)⟩ (AllP_cons (by decide) (AllP_cons (by decide) (AllP_cons rfl (AllP_cons (by decide) (AllP_cons ⟨(by decide), (by decide)⟩ (AllP_cons (by decide) (AllP_cons (by decide) (AllP_cons (by decide) (AllP_cons ⟨(by decide), (by decide)⟩ (AllP_cons (by decide) (AllP_cons ⟨(by decide), (by decide)⟩ (AllP_cons (by decide) (AllP_cons (by decide) (AllP_cons rfl (AllP_cons ((by rfl)) (AllP_cons ⟨(by decide), (by decide), (by decide)⟩ (AllP_cons (by decide) (AllP_nil)))))))))))))))))))))))))))))))))))))))))))))))))))))))))))))))))))))))))))))))))))))))))))))))))))))))))))))))))))))))))))))))))))))))))))))))))))))))))))))))))))))))))))))))))))))))))))))))))))))))))))))))))))))))))))))))))))))))))))))))))))))))))))))))))))))))))))))))))))))))))))))))))))))))))))))))))))))))))))))))))))))))))))))))))))))))))))))))))))))

theorem digA_body (b : List Int) (cp : Nat) (w : World) (rw : List Nat) (β : Env) : Body Try.prog (tabOf tabNZ) Try.f78 ⟨w, rw, 1, β⟩ [.o (.a (.sl 0 (0 : Nat) (32 : Nat) cp))] [some ⟨false, [.ints .u8 (32 : Nat) b]⟩] (fun ys K' => ys = [.a (.sl 1 (0 : Nat) (8 : Nat) (8 : Nat))] ∧ K' = [some ⟨false, [.ints .u8 (32 : Nat) b]⟩, some ⟨true, [.ints .u32 (8 : Nat) (digA b)]⟩]) :=
  Body.lens (c := (Try.f78.body.getD .skip)) rfl fun h => digA_body0 b cp (h.lens 0 _ .u8 (32 : Nat) b rfl (by simp)) w rw β

end Go.Proofs.Ytcpoldghkiiggaa.X

/- The digits of 32 bytes. -/
namespace Go.Proofs.Ytcpoldghkiiggaa.X
open Go Go.Proofs
set_option linter.unusedVariables false

theorem or_shl32 {a b : Int} {n : Nat} (hn : n ≤ 24) (h0 : 0 ≤ a) (h1 : a < ((2 ^ n : Nat) : Int)) (b0 : 0 ≤ b) (b1 : b < 256) : bits2 .or .u32 a (shl .u32 (IntKind.u32.wrap b) ((n : Nat) : Int)) = a + b * ((2 ^ n : Nat) : Int) := by
  obtain ⟨x, rfl⟩ := Int.eq_ofNat_of_zero_le h0
  obtain ⟨y, rfl⟩ := Int.eq_ofNat_of_zero_le b0
  have hx : x < 2 ^ n := by omega
  have hy : y < 256 := by omega
  have hp : 2 ^ n ≤ 2 ^ 24 := Nat.pow_le_pow_right (by omega) hn
  have hyp : y * 2 ^ n ≤ 255 * 2 ^ 24 := Nat.mul_le_mul (by omega) hp
  have e1 : shl .u32 (IntKind.u32.wrap ((y : Nat) : Int)) ((n : Nat) : Int) = ((y * 2 ^ n : Nat) : Int) := by
    have : shl .u32 (IntKind.u32.wrap ((y : Nat) : Int)) ((n : Nat) : Int) = IntKind.u32.wrap (IntKind.u32.wrap ((y : Nat) : Int) * 2 ^ (min n 32)) := rfl
    rw [this, Nat.min_eq_left (by omega), wrap32 ((y : Nat) : Int), Int.emod_eq_of_lt (by omega) (by omega), wrap32]
    have e : ((y : Nat) : Int) * 2 ^ n = ((y * 2 ^ n : Nat) : Int) := by rw [Int.natCast_mul, Int.natCast_pow]; rfl
    rw [e]
    exact Int.emod_eq_of_lt (by omega) (by omega)
  rw [e1]
  have e : bits2 .or .u32 ((x : Nat) : Int) ((y * 2 ^ n : Nat) : Int) = IntKind.u32.wrap (((BitVec.ofInt 32 ((x : Nat) : Int) ||| BitVec.ofInt 32 ((y * 2 ^ n : Nat) : Int)).toNat : Nat) : Int) := rfl
  have t : ∀ m : Nat, m < 4294967296 → (BitVec.ofInt 32 ((m : Nat) : Int)).toNat = m := by
    intro m hm
    rw [BitVec.toNat_ofInt]
    show (((m : Nat) : Int) % 4294967296).toNat = m
    omega
  rw [e, BitVec.toNat_or, t x (by omega), t (y * 2 ^ n) (by omega), Nat.or_comm, Nat.mul_comm y, ← Nat.two_pow_add_eq_or_of_lt hx, wrap32]
  have : ((2 ^ n * y + x : Nat) : Int) % 4294967296 = ((2 ^ n * y + x : Nat) : Int) := Int.emod_eq_of_lt (by omega) (by rw [Nat.mul_comm]; omega)
  rw [this, Int.natCast_add, Int.natCast_mul, Int.add_comm, Int.mul_comm]

theorem word4 {b0 b1 b2 b3 : Int} (h0 : 0 ≤ b0 ∧ b0 < 256) (h1 : 0 ≤ b1 ∧ b1 < 256) (h2 : 0 ≤ b2 ∧ b2 < 256) (h3 : 0 ≤ b3 ∧ b3 < 256) : (bits2 .or .u32 (bits2 .or .u32 (bits2 .or .u32 (bits2 .or .u32 (0 : Int) (shl .u32 (IntKind.u32.wrap b0) (0 : Int))) (shl .u32 (IntKind.u32.wrap b1) (8 : Int))) (shl .u32 (IntKind.u32.wrap b2) (16 : Int))) (shl .u32 (IntKind.u32.wrap b3) (24 : Int))) = b0 + 256 * b1 + 65536 * b2 + 16777216 * b3 := by
  have e0 : bits2 .or .u32 ((0 : Int)) (shl .u32 (IntKind.u32.wrap b0) (0 : Int)) = b0 := by
    have q := or_shl32 (a := (0 : Int)) (b := b0) (n := 0) (by omega) (by omega) (show _ < (1 : Int) by omega) h0.1 h0.2
    have q : bits2 .or .u32 ((0 : Int)) (shl .u32 (IntKind.u32.wrap b0) (0 : Int)) = ((0 : Int)) + b0 * 1 := q
    rw [q]; omega
  have e1 : bits2 .or .u32 (b0) (shl .u32 (IntKind.u32.wrap b1) (8 : Int)) = b0 + 256 * b1 := by
    have q := or_shl32 (a := b0) (b := b1) (n := 8) (by omega) (by omega) (show _ < (256 : Int) by omega) h1.1 h1.2
    have q : bits2 .or .u32 (b0) (shl .u32 (IntKind.u32.wrap b1) (8 : Int)) = (b0) + b1 * 256 := q
    rw [q]; omega
  have e2 : bits2 .or .u32 (b0 + 256 * b1) (shl .u32 (IntKind.u32.wrap b2) (16 : Int)) = b0 + 256 * b1 + 65536 * b2 := by
    have q := or_shl32 (a := b0 + 256 * b1) (b := b2) (n := 16) (by omega) (by omega) (show _ < (65536 : Int) by omega) h2.1 h2.2
    have q : bits2 .or .u32 (b0 + 256 * b1) (shl .u32 (IntKind.u32.wrap b2) (16 : Int)) = (b0 + 256 * b1) + b2 * 65536 := q
    rw [q]; omega
  have e3 : bits2 .or .u32 (b0 + 256 * b1 + 65536 * b2) (shl .u32 (IntKind.u32.wrap b3) (24 : Int)) = b0 + 256 * b1 + 65536 * b2 + 16777216 * b3 := by
    have q := or_shl32 (a := b0 + 256 * b1 + 65536 * b2) (b := b3) (n := 24) (by omega) (by omega) (show _ < (16777216 : Int) by omega) h3.1 h3.2
    have q : bits2 .or .u32 (b0 + 256 * b1 + 65536 * b2) (shl .u32 (IntKind.u32.wrap b3) (24 : Int)) = (b0 + 256 * b1 + 65536 * b2) + b3 * 16777216 := q
    rw [q]; omega
  rw [e0, e1, e2, e3]

def le4 (s : List Int) (o : Nat) : Int := List.getD s (o + 0) 0 + 256 * List.getD s (o + 1) 0 + 65536 * List.getD s (o + 2) 0 + 16777216 * List.getD s (o + 3) 0
theorem le4_rng {s : List Int} (h : Byt s) (o : Nat) : 0 ≤ le4 s o ∧ le4 s o < 4294967296 := by
  have h0 := byt_get h (o + 0)
  have h1 := byt_get h (o + 1)
  have h2 := byt_get h (o + 2)
  have h3 := byt_get h (o + 3)
  unfold le4
  omega
theorem le8_le4 (s : List Int) (o : Nat) : le8 s o = le4 s o + 4294967296 * le4 s (o + 4) := by
  unfold le8 le4
  simp only [Nat.add_assoc, Nat.reduceAdd]
  omega
theorem dig_eq {s : List Int} (h : Byt s) : digA s = [le4 s 0, le4 s 4, le4 s 8, le4 s 12, le4 s 16, le4 s 20, le4 s 24, le4 s 28] := by
  unfold digA
  rw [word4 (byt_get h 0) (byt_get h 1) (byt_get h 2) (byt_get h 3), word4 (byt_get h 4) (byt_get h 5) (byt_get h 6) (byt_get h 7), word4 (byt_get h 8) (byt_get h 9) (byt_get h 10) (byt_get h 11), word4 (byt_get h 12) (byt_get h 13) (byt_get h 14) (byt_get h 15), word4 (byt_get h 16) (byt_get h 17) (byt_get h 18) (byt_get h 19), word4 (byt_get h 20) (byt_get h 21) (byt_get h 22) (byt_get h 23), word4 (byt_get h 24) (byt_get h 25) (byt_get h 26) (byt_get h 27), word4 (byt_get h 28) (byt_get h 29) (byt_get h 30) (byt_get h 31)]
  rfl
theorem dig_wd {s : List Int} (h : Byt s) : Wd8 (digA s) := by
  rw [dig_eq h]
  intro x hx
  simp only [List.mem_cons, List.not_mem_nil, or_false] at hx
  rcases hx with rfl | rfl | rfl | rfl | rfl | rfl | rfl | rfl <;> exact le4_rng h _
theorem top8 {a0 a1 a2 a3 a4 a5 a6 a7 : Int} : topV [a0, a1, a2, a3, a4, a5, a6, a7] 8 8 = a0 + 4294967296 * a1 + 18446744073709551616 * a2 + 79228162514264337593543950336 * a3 + 340282366920938463463374607431768211456 * a4 + 1461501637330902918203684832716283019655932542976 * a5 + 6277101735386680763835789423207666416102355444464034512896 * a6 + 26959946667150639794667015087019630673637144422540572481103610249216 * a7 := by
  show (((((((0 * 4294967296 + a7) * 4294967296 + a6) * 4294967296 + a5) * 4294967296 + a4) * 4294967296 + a3) * 4294967296 + a2) * 4294967296 + a1) * 4294967296 + a0 = _
  omega
theorem sub_dig (s : List Int) : sub (digA s) 0 8 = digA s := by
  unfold sub
  rw [List.drop_zero]
  exact List.take_of_length_le (Nat.le_of_eq rfl)
theorem dig_wd2 {s : List Int} (h : Byt s) : Wd8 (sub (digA s) 0 8) := by rw [sub_dig]; exact dig_wd h
theorem dig_top {s : List Int} (h : Byt s) : topV (digA s) 8 8 = BV s := by
  rw [dig_eq h, top8]
  unfold BV
  rw [le8_le4, le8_le4, le8_le4, le8_le4]
  show _ = le4 s 0 + 4294967296 * le4 s 4 + 18446744073709551616 * (le4 s 8 + 4294967296 * le4 s 12) + 340282366920938463463374607431768211456 * (le4 s 16 + 4294967296 * le4 s 20) + 6277101735386680763835789423207666416102355444464034512896 * (le4 s 24 + 4294967296 * le4 s 28)
  omega
end Go.Proofs.Ytcpoldghkiiggaa.X

/- Printed by a tool of this session. -/
namespace Go.Proofs.Ytcpoldghkiiggaa.X
open Go Go.Proofs
set_option linter.unusedVariables false
set_option linter.unusedSimpArgs false
set_option maxRecDepth 100000
theorem teOB_5 : TEOk Try.prog 5 ⟨.int .u8, 1, 1, [.i .u8 (0 : Int)], false⟩ :=
  TEOk.of Try.underlying5 (i := Try.t5) (by kernel_rfl) rfl rfl rfl (by kernel_rfl) (fun h => by cases h) (by kernel_rfl)
theorem teOB_24 : TEOk Try.prog 24 ⟨.array 32 5, 32, 32, [.ints .u8 (32 : Nat) ([0, 0, 0, 0, 0, 0, 0, 0, 0, 0, 0, 0, 0, 0, 0, 0, 0, 0, 0, 0, 0, 0, 0, 0, 0, 0, 0, 0, 0, 0, 0, 0] : List Int)], true⟩ :=
  TEOk.of Try.underlying24 (i := Try.t24) (by kernel_rfl) rfl rfl rfl (by kernel_rfl) (fun _ => Try.eqGuardType24) (by kernel_rfl)
theorem teOB_111 : TEOk Try.prog 111 ⟨.array 8 109, 8, 32, [.ints .u32 (8 : Nat) ([0, 0, 0, 0, 0, 0, 0, 0] : List Int)], true⟩ :=
  TEOk.of Try.underlying111 (i := Try.t111) (by kernel_rfl) rfl rfl rfl (by kernel_rfl) (fun _ => Try.eqGuardType111) (by kernel_rfl)
noncomputable def tabOB : List (Nat × TE) := [(5, ⟨.int .u8, 1, 1, [.i .u8 (0 : Int)], false⟩), (24, ⟨.array 32 5, 32, 32, [.ints .u8 (32 : Nat) ([0, 0, 0, 0, 0, 0, 0, 0, 0, 0, 0, 0, 0, 0, 0, 0, 0, 0, 0, 0, 0, 0, 0, 0, 0, 0, 0, 0, 0, 0, 0, 0] : List Int)], true⟩), (111, ⟨.array 8 109, 8, 32, [.ints .u32 (8 : Nat) ([0, 0, 0, 0, 0, 0, 0, 0] : List Int)], true⟩)]
theorem tabOkOB : TabOk Try.prog (tabOf tabOB) := (tabOf_cons teOB_5 (tabOf_cons teOB_24 (tabOf_cons teOB_111 tabOf_nil)))

def gam28 : Gam := gcall 78 [false] [.w] (fun wk vs args => match wk, vs, args with | [⟨false, [.ints .u8 (32 : Nat) b]⟩], [], [.o (.a (.sl 0 (0 : Nat) (32 : Nat) cp))] => some (True, [.a (.sl 1 (0 : Nat) (8 : Nat) (8 : Nat))], [some ⟨false, [.ints .u8 (32 : Nat) b]⟩, some ⟨true, [.ints .u32 (8 : Nat) (digA b)]⟩]) | _, _, _ => none) gam27
theorem gam28_ok : GamOk Try.prog gam28 := gcall_ok tabOkNZ Try.func78 gam27_ok Try.call78 (by
  intro wk vs args p xs K1 h hv
  split at h
  · simp only [Option.some.injEq, Prod.mk.injEq] at h; obtain ⟨rfl, rfl, rfl⟩ := h; exact fun caps w rw β => digA_body _ _ w rw β
  · simp at h)

def valR (a : List Int) : List Int :=
  (W8 (modL (topV (sub (digA a) (0 : Nat) (8 : Nat)) (8 : Nat) (8 : Nat))))

set_option maxHeartbeats 1000000 in
theorem valR_body0 (a : List Int) (h0 : (Byt a)) (hv0 : List.length a = (32 : Nat)) (w : World) : Body Try.prog (tabOf tabOB) Try.f81 ⟨w, [], 0, noEnv⟩ (toA [.g [.ints .u8 (32 : Nat) a]]) [] (fun ys _ => ys = [.g [.ints .u32 (8 : Nat) (valR a)]]) :=
  Body.of_fin (Γ := gam28) (Λ := noLam) (Ψ := noPsi) (fuel := 0) (m := 6) (c := (Try.f81.body.getD .skip)) mix tabOkOB gam28_ok rfl (rs := [.cell 2 111]) rfl rfl [] []
    (vc := [((((8 : Nat) ≤ (8 : Nat)) ∧ True) ∧ (((8 : Nat) = (8 : Nat)) ∧ ((8 : Nat) < (70368744177664 : Nat)) ∧ (Wd8 (sub (digA a) (0 : Nat) (8 : Nat))))), ((True ∧ True) ∧ True), (((0 : Int) ≤ (0 : Int)) ∧ ((0 : Int) ≤ (32 : Int)))]) (by kernel_rfl)
    (AllP_cons ⟨⟨(by decide), trivial⟩, ⟨rfl, (by decide), (by first | exact dig_wd2 h0 | assumption)⟩⟩ (AllP_cons ⟨⟨trivial, trivial⟩, trivial⟩ (AllP_cons ⟨(by decide), (by decide)⟩ (AllP_nil))))

end Go.Proofs.Ytcpoldghkiiggaa.X

/- The value of 32 bytes, by the reference. -/
namespace Go.Proofs.Ytcpoldghkiiggaa.X
open Go Go.Proofs
set_option linter.unusedVariables false

theorem valR_can (a : List Int) (h0 : Byt a) (w : World) : Body Try.prog (tabOf tabOB) Try.f81 ⟨w, [], 0, noEnv⟩ (toA [.g [.ints .u8 (32 : Nat) a]]) [] (fun ys _ => ys = [.g [.ints .u32 (8 : Nat) (W8 (modL (BV a)))]]) :=
  Body.lens (c := (Try.f81.body.getD .skip)) rfl fun h => (valR_body0 a h0 (h.vals 0 _ _ _ rfl) w).mono fun xs K hx => by
    subst hx
    have e : valR a = W8 (modL (BV a)) := by
      unfold valR
      rw [sub_dig, dig_top h0]
    rw [e]
theorem V8_modL (v : Int) : V8 (W8 (modL v)) = modL v := V8_W8 (modL_rng v).1 (modL_rng v).2.2
end Go.Proofs.Ytcpoldghkiiggaa.X

/- Printed by a tool of this session. -/
namespace Go.Proofs.Ytcpoldghkiiggaa.X
open Go Go.Proofs
set_option linter.unusedVariables false
set_option linter.unusedSimpArgs false
set_option maxRecDepth 100000
theorem valR_pure (a : List Int) (h0 : (Byt a)) : PureC Try.prog 81 [.g [.ints .u8 (32 : Nat) a]] [.g [.ints .u32 (8 : Nat) (W8 (modL (BV a)))]] :=
  PureC.of_body tabOkOB Try.func81 rfl rfl fun w => valR_can a h0 w

def gam29 : Gam := gpure 81 (fun args => match args with | [.o (.g [.ints .u8 (32 : Nat) a])] => some (some ((Byt a)), [.g [.ints .u32 (8 : Nat) (W8 (modL (BV a)))]]) | _ => none) gam28
theorem gam29_ok : GamOk Try.prog gam29 := gpure_ok gam28_ok Try.call81 (by
  intro args vc xs h hv
  split at h
  · simp only [Option.some.injEq, Prod.mk.injEq] at h; obtain ⟨rfl, rfl⟩ := h; exact ⟨_, by rfl, valR_pure _ hv⟩
  · simp at h)

end Go.Proofs.Ytcpoldghkiiggaa.X

/- What the functions compute, as numbers, on both sides. -/
namespace Go.Proofs.Ytcpoldghkiiggaa.X
open Go Go.Proofs
set_option linter.unusedVariables false

theorem modL_add (x y : Int) : modL (modL x + modL y) = modL (x + y) := (Int.add_emod x y LL).symm
theorem modL_mul (x y : Int) : modL (modL x * modL y) = modL (x * y) := (Int.mul_emod x y LL).symm
theorem low_add {x y : Int} (hx : 0 ≤ x ∧ x < LL) (hy : 0 ≤ y ∧ y < LL) : low (addR x y) = modL (x + y) := by
  have e : addR x y = x + y := by unfold addR; unfold LL at *; omega
  rw [e]; exact low_mod (by omega) (by omega)
theorem modL_b (v : Int) : 0 ≤ modL v ∧ modL v < LL := ⟨(modL_rng v).1, (modL_rng v).2.1⟩

theorem addP_eq (a b : List Int) : addP a b = B32 (modL (BV a + BV b)) := by
  unfold addP
  rw [V4_modL, V4_modL, low_add (modL_b _) (modL_b _), V4_modL, modL_add]

theorem negL_eq (v : Int) : negL (modL v) = modL (-v) := by
  unfold negL difR modL
  unfold LL
  split <;> omega
theorem negP_eq (a : List Int) : negP a = B32 (modL (-(BV a))) := by
  unfold negP
  rw [V4_modL, negL_eq, V4_modL]
theorem timesW (x y : Int) : times (W4 (modL x)) (W4 (modL y)) = W4 (modL (x * y)) := by
  unfold times
  rw [V4_modL, V4_modL, V4_mont, V4_radx, times_eq, modL_mul]
theorem mulP_eq (a b : List Int) : mulP a b = B32 (modL (BV a * BV b)) := by
  unfold mulP
  rw [timesW, V4_modL]
theorem W4_zero {v : Int} (h0 : 0 ≤ v) (h1 : v < 115792089237316195423570985008687907853269984665640564039457584007913129639936) : W4 v = [0, 0, 0, 0] ↔ v = 0 := by
  constructor
  · intro h
    have := V4_W4 h0 h1
    rw [h] at this
    exact this.symm
  · intro h; subst h; decide +kernel
end Go.Proofs.Ytcpoldghkiiggaa.X

/- Neg, Add of the reference and Compare of the program: bodies by numbers. -/
namespace Go.Proofs.Ytcpoldghkiiggaa.X
open Go Go.Proofs
set_option linter.unusedVariables false

theorem B32_0 : B32 0 = [0, 0, 0, 0, 0, 0, 0, 0, 0, 0, 0, 0, 0, 0, 0, 0, 0, 0, 0, 0, 0, 0, 0, 0, 0, 0, 0, 0, 0, 0, 0, 0] := by decide +kernel

def negI (x : Int) : Int := -x
end Go.Proofs.Ytcpoldghkiiggaa.X

/- Printed by a tool of this session. -/
namespace Go.Proofs.Ytcpoldghkiiggaa.X
open Go Go.Proofs
set_option linter.unusedVariables false
set_option linter.unusedSimpArgs false
set_option maxRecDepth 100000
end Go.Proofs.Ytcpoldghkiiggaa.X

/- Bytes back to numbers; Sub and Compare of the reference. -/
namespace Go.Proofs.Ytcpoldghkiiggaa.X
open Go Go.Proofs
set_option linter.unusedVariables false

theorem dd2 (a : Int) {b c : Int} (h : 0 ≤ b) : a / b / c = a / (b * c) := by first | exact Int.ediv_ediv_of_nonneg h | exact Int.ediv_ediv_eq_ediv_mul a h | exact Int.ediv_ediv h
end Go.Proofs.Ytcpoldghkiiggaa.X

/- The reference's product, digit by digit. -/
namespace Go.Proofs.Ytcpoldghkiiggaa.X
open Go Go.Proofs
set_option linter.unusedVariables false

end Go.Proofs.Ytcpoldghkiiggaa.X

/- Printed by a tool of this session. -/
namespace Go.Proofs.Ytcpoldghkiiggaa.X
open Go Go.Proofs
set_option linter.unusedVariables false
set_option linter.unusedSimpArgs false
set_option maxRecDepth 100000
end Go.Proofs.Ytcpoldghkiiggaa.X

/- The reference's product of two numbers is their product. -/
namespace Go.Proofs.Ytcpoldghkiiggaa.X
open Go Go.Proofs
set_option linter.unusedVariables false

end Go.Proofs.Ytcpoldghkiiggaa.X

/- The reference's product, as numbers. -/
namespace Go.Proofs.Ytcpoldghkiiggaa.X
open Go Go.Proofs
set_option linter.unusedVariables false

end Go.Proofs.Ytcpoldghkiiggaa.X

/- Printed by a tool of this session. -/
namespace Go.Proofs.Ytcpoldghkiiggaa.X
open Go Go.Proofs
set_option linter.unusedVariables false
set_option linter.unusedSimpArgs false
set_option maxRecDepth 100000
theorem teOM_24 : TEOk Try.prog 24 ⟨.array 32 5, 32, 32, [.ints .u8 (32 : Nat) ([0, 0, 0, 0, 0, 0, 0, 0, 0, 0, 0, 0, 0, 0, 0, 0, 0, 0, 0, 0, 0, 0, 0, 0, 0, 0, 0, 0, 0, 0, 0, 0] : List Int)], true⟩ :=
  TEOk.of Try.underlying24 (i := Try.t24) (by kernel_rfl) rfl rfl rfl (by kernel_rfl) (fun _ => Try.eqGuardType24) (by kernel_rfl)
noncomputable def tabOM : List (Nat × TE) := [(24, ⟨.array 32 5, 32, 32, [.ints .u8 (32 : Nat) ([0, 0, 0, 0, 0, 0, 0, 0, 0, 0, 0, 0, 0, 0, 0, 0, 0, 0, 0, 0, 0, 0, 0, 0, 0, 0, 0, 0, 0, 0, 0, 0] : List Int)], true⟩)]
theorem tabOkOM : TabOk Try.prog (tabOf tabOM) := (tabOf_cons teOM_24 tabOf_nil)

set_option maxHeartbeats 1000000 in
theorem num_body0 (x : Int) (w : World) : Body Try.prog (tabOf tabOM) Try.f17 ⟨w, [], 0, noEnv⟩ (toA [.a (.i .i64 x)]) [] (fun ys _ => ys = [.a (.i .i64 x)]) :=
  Body.of_fin (Γ := gam29) (Λ := noLam) (Ψ := noPsi) (fuel := 0) (m := 4) (c := (Try.f17.body.getD .skip)) mix tabOkOM gam29_ok rfl (rs := [.tmp 2]) rfl rfl [] []
    (vc := []) (by kernel_rfl)
    (AllP_nil)

theorem num_body (x : Int) (w : World) : Body Try.prog (tabOf tabOM) Try.f17 ⟨w, [], 0, noEnv⟩ (toA [.a (.i .i64 x)]) [] (fun ys _ => ys = [.a (.i .i64 x)]) :=
  Body.lens (c := (Try.f17.body.getD .skip)) rfl fun h => num_body0 x  w

theorem num_pure (x : Int) : PureC Try.prog 17 [.a (.i .i64 x)] [.a (.i .i64 x)] :=
  PureC.of_body tabOkOM Try.func17 rfl rfl fun w => num_body x w

def gam38 : Gam := gpure 17 (fun args => match args with | [.o (.a (.i .i64 x))] => some (none, [.a (.i .i64 x)]) | _ => none) gam29
theorem gam38_ok : GamOk Try.prog gam38 := gpure_ok gam29_ok Try.call17 (by
  intro args vc xs h hv
  split at h
  · simp only [Option.some.injEq, Prod.mk.injEq] at h; obtain ⟨rfl, rfl⟩ := h; exact ⟨_, by rfl, num_pure _⟩
  · simp at h)

end Go.Proofs.Ytcpoldghkiiggaa.X

/- The program and the reference answer the same: sums, differences, opposites, products. -/
namespace Go.Proofs.Ytcpoldghkiiggaa.X
open Go Go.Proofs
set_option linter.unusedVariables false

end Go.Proofs.Ytcpoldghkiiggaa.X

/- Powers, as the program reckons them. -/
namespace Go.Proofs.Ytcpoldghkiiggaa.X
open Go Go.Proofs
set_option linter.unusedVariables false

def bitE (E : List Int) (k : Nat) : Int := bits2 .and .u64 (shr .u64 (List.getD E (Int.toNat (IntKind.i64.wrap (Int.tdiv ((255 : Int) - ((k : Nat) : Int)) (64 : Int)))) 0) (Int.tmod ((255 : Int) - ((k : Nat) : Int)) (64 : Int))) (1 : Int)
def rP (m r0 : Int) (E : List Int) : Nat → Int
  | 0 => r0
  | k + 1 => if bitE E k = 1 then montV (V4 (W4 (montV (V4 (W4 (rP m r0 E k))) (V4 (W4 (rP m r0 E k)))))) (V4 (W4 m)) else montV (V4 (W4 (rP m r0 E k))) (V4 (W4 (rP m r0 E k)))
theorem rP_a {m r0 : Int} {E : List Int} {k : Nat} (h : bitE E k = 1) : rP m r0 E (k + 1) = montV (V4 (W4 (montV (V4 (W4 (rP m r0 E k))) (V4 (W4 (rP m r0 E k)))))) (V4 (W4 m)) := by
  show (if _ then _ else _) = _
  rw [if_pos h]
theorem rP_b {m r0 : Int} {E : List Int} {k : Nat} (h : ¬ bitE E k = 1) : rP m r0 E (k + 1) = montV (V4 (W4 (rP m r0 E k))) (V4 (W4 (rP m r0 E k))) := by
  show (if _ then _ else _) = _
  rw [if_neg h]
theorem rP_ltl (m a b : Int) (E : List Int) : ∀ k, LtL (W4 (rP m (montV a b) E k))
  | 0 => ltl_mont a b
  | k + 1 => by
    by_cases h : bitE E k = 1
    · rw [rP_a h]; exact ltl_mont _ _
    · rw [rP_b h]; exact ltl_mont _ _
theorem qt {k : Nat} (h : k < 256) : IntKind.i64.wrap (Int.tdiv ((255 : Int) - ((k : Nat) : Int)) 64) = Int.tdiv ((255 : Int) - ((k : Nat) : Int)) 64 ∧ 0 ≤ Int.tdiv ((255 : Int) - ((k : Nat) : Int)) 64 ∧ Int.tdiv ((255 : Int) - ((k : Nat) : Int)) 64 < 4 ∧ 0 ≤ Int.tmod ((255 : Int) - ((k : Nat) : Int)) 64 := by
  rw [Int.tdiv_eq_ediv_of_nonneg (by omega), Int.tmod_eq_emod_of_nonneg (by omega)]
  exact ⟨wrapI (by omega) (by omega), by omega, by omega, by omega⟩
end Go.Proofs.Ytcpoldghkiiggaa.X

/- Printed by a tool of this session. -/
namespace Go.Proofs.Ytcpoldghkiiggaa.X
open Go Go.Proofs
set_option linter.unusedVariables false
set_option linter.unusedSimpArgs false
set_option maxRecDepth 100000
theorem teOQ_25 : TEOk Try.prog 25 ⟨.int .u64, 1, 8, [.i .u64 (0 : Int)], false⟩ :=
  TEOk.of Try.underlying25 (i := Try.t25) (by kernel_rfl) rfl rfl rfl (by kernel_rfl) (fun h => by cases h) (by kernel_rfl)
theorem teOQ_104 : TEOk Try.prog 104 ⟨.array 4 25, 4, 32, [.ints .u64 (4 : Nat) ([0, 0, 0, 0] : List Int)], true⟩ :=
  TEOk.of Try.underlying104 (i := Try.t104) (by kernel_rfl) rfl rfl rfl (by kernel_rfl) (fun _ => Try.eqGuardType104) (by kernel_rfl)
noncomputable def tabOQ : List (Nat × TE) := [(25, ⟨.int .u64, 1, 8, [.i .u64 (0 : Int)], false⟩), (104, ⟨.array 4 25, 4, 32, [.ints .u64 (4 : Nat) ([0, 0, 0, 0] : List Int)], true⟩)]
theorem tabOkOQ : TabOk Try.prog (tabOf tabOQ) := (tabOf_cons teOQ_25 (tabOf_cons teOQ_104 tabOf_nil))

def pwL_mk (S : List Int) (E : List Int) (k : Nat) (s : Unit) : St := ⟨sparse 36 [(0, .o (.g [.ints .u64 (4 : Nat) S])), (1, .o (.g [.ints .u64 (4 : Nat) E])), (2, .o (.a (.p 0 0))), (3, .o (.a (.p 1 0))), (4, .o (.a (.p 2 0))), (5, .o (.a (.p 3 0))), (6, .o (.a (.p 4 0))), (7, .o (.a (.i .i64 ((255 : Int) - ((k : Nat) : Int))))), (8, .o (.g [.ints .u64 (4 : Nat) S])), (9, .o (.g [.ints .u64 (4 : Nat) ([11819153939886771969, 14991950615390032711, 14910419812499177061, 259310039853996605] : List Int)])), (10, .o (.g [.ints .u64 (4 : Nat) (W4 (montV (V4 S) (V4 ([11819153939886771969, 14991950615390032711, 14910419812499177061, 259310039853996605] : List Int))))])), (11, .o (.g [.ints .u64 (4 : Nat) ([1, 0, 0, 0] : List Int)])), (12, .o (.g [.ints .u64 (4 : Nat) ([11819153939886771969, 14991950615390032711, 14910419812499177061, 259310039853996605] : List Int)])), (13, .o (.g [.ints .u64 (4 : Nat) (W4 (montV (V4 ([1, 0, 0, 0] : List Int)) (V4 ([11819153939886771969, 14991950615390032711, 14910419812499177061, 259310039853996605] : List Int))))]))], [some ⟨true, [.ints .u64 (4 : Nat) S]⟩, some ⟨true, [.ints .u64 (4 : Nat) E]⟩, some ⟨true, [.ints .u64 (4 : Nat) ([0, 0, 0, 0] : List Int)]⟩, some ⟨true, [.ints .u64 (4 : Nat) (W4 (montV (V4 S) (V4 ([11819153939886771969, 14991950615390032711, 14910419812499177061, 259310039853996605] : List Int))))]⟩, some ⟨true, [.ints .u64 (4 : Nat) (W4 (rP (montV (V4 S) (V4 ([11819153939886771969, 14991950615390032711, 14910419812499177061, 259310039853996605] : List Int))) (montV (V4 ([1, 0, 0, 0] : List Int)) (V4 ([11819153939886771969, 14991950615390032711, 14910419812499177061, 259310039853996605] : List Int))) E k))]⟩]⟩

def pwL_step (k : Nat) (s : Unit) : Unit :=
  ()

set_option maxHeartbeats 1000000 in
theorem pwL_round_0 (S : List Int) (E : List Int) (h0 : (Wds S)) (h1 : (Wds E)) (hv0 : List.length S = (4 : Nat)) (hv1 : List.length E = (4 : Nat)) (w : World) (k : Nat) (hk : k < (256 : Nat)) (s : Unit) (ha : bitE E k = 1) : Run Try.prog ⟨w, [], 0, noEnv⟩ (loopB Try.f100 0) (pwL_mk S E k s) (To ⟨w, [], 0, noEnv⟩ .normal (pwL_mk S E (k + 1) (pwL_step k s))) := by
  have e0 : (W4 (montV (V4 (W4 (montV (V4 (W4 (rP (montV (V4 S) (V4 ([11819153939886771969, 14991950615390032711, 14910419812499177061, 259310039853996605] : List Int))) (montV (V4 ([1, 0, 0, 0] : List Int)) (V4 ([11819153939886771969, 14991950615390032711, 14910419812499177061, 259310039853996605] : List Int))) E k))) (V4 (W4 (rP (montV (V4 S) (V4 ([11819153939886771969, 14991950615390032711, 14910419812499177061, 259310039853996605] : List Int))) (montV (V4 ([1, 0, 0, 0] : List Int)) (V4 ([11819153939886771969, 14991950615390032711, 14910419812499177061, 259310039853996605] : List Int))) E k)))))) (V4 (W4 (montV (V4 S) (V4 ([11819153939886771969, 14991950615390032711, 14910419812499177061, 259310039853996605] : List Int))))))) = (W4 (rP (montV (V4 S) (V4 ([11819153939886771969, 14991950615390032711, 14910419812499177061, 259310039853996605] : List Int))) (montV (V4 ([1, 0, 0, 0] : List Int)) (V4 ([11819153939886771969, 14991950615390032711, 14910419812499177061, 259310039853996605] : List Int))) E (k + (1 : Nat)))) := (by first | (rw [wrapI (by omega) (by omega)]; omega) | (rw [rP_a ha]))
  have e1 : (IntKind.i64.wrap (((255 : Int) - ((k : Nat) : Int)) - (1 : Int))) = ((255 : Int) - (((k + (1 : Nat)) : Nat) : Int)) := (by first | (rw [wrapI (by omega) (by omega)]; omega) | (rw [rP_a ha]))
  have h := Run.of_outT (B := ⟨w, [], 0, noEnv⟩) (Λ := noLam) (Ψ := noPsi) (fuel := 0) (ora := [true, true]) (c := (loopB Try.f100 0)) (st := (pwL_mk S E k s)) (l := [.forget [0, 1, 2, 3, 4, 5, 6, 7, 8, 9, 10, 11, 12, 13] 5]) (s' := ⟨sparse 36 [(0, .o (.g [.ints .u64 (4 : Nat) S])), (1, .o (.g [.ints .u64 (4 : Nat) E])), (2, .o (.a (.p 0 0))), (3, .o (.a (.p 1 0))), (4, .o (.a (.p 2 0))), (5, .o (.a (.p 3 0))), (6, .o (.a (.p 4 0))), (7, .o (.a (.i .i64 (IntKind.i64.wrap (((255 : Int) - ((k : Nat) : Int)) - (1 : Int)))))), (8, .o (.g [.ints .u64 (4 : Nat) S])), (9, .o (.g [.ints .u64 (4 : Nat) ([11819153939886771969, 14991950615390032711, 14910419812499177061, 259310039853996605] : List Int)])), (10, .o (.g [.ints .u64 (4 : Nat) (W4 (montV (V4 S) (V4 ([11819153939886771969, 14991950615390032711, 14910419812499177061, 259310039853996605] : List Int))))])), (11, .o (.g [.ints .u64 (4 : Nat) ([1, 0, 0, 0] : List Int)])), (12, .o (.g [.ints .u64 (4 : Nat) ([11819153939886771969, 14991950615390032711, 14910419812499177061, 259310039853996605] : List Int)])), (13, .o (.g [.ints .u64 (4 : Nat) (W4 (montV (V4 ([1, 0, 0, 0] : List Int)) (V4 ([11819153939886771969, 14991950615390032711, 14910419812499177061, 259310039853996605] : List Int))))]))], [some ⟨true, [.ints .u64 (4 : Nat) S]⟩, some ⟨true, [.ints .u64 (4 : Nat) E]⟩, some ⟨true, [.ints .u64 (4 : Nat) ([0, 0, 0, 0] : List Int)]⟩, some ⟨true, [.ints .u64 (4 : Nat) (W4 (montV (V4 S) (V4 ([11819153939886771969, 14991950615390032711, 14910419812499177061, 259310039853996605] : List Int))))]⟩, some ⟨true, [.ints .u64 (4 : Nat) (W4 (montV (V4 (W4 (montV (V4 (W4 (rP (montV (V4 S) (V4 ([11819153939886771969, 14991950615390032711, 14910419812499177061, 259310039853996605] : List Int))) (montV (V4 ([1, 0, 0, 0] : List Int)) (V4 ([11819153939886771969, 14991950615390032711, 14910419812499177061, 259310039853996605] : List Int))) E k))) (V4 (W4 (rP (montV (V4 S) (V4 ([11819153939886771969, 14991950615390032711, 14910419812499177061, 259310039853996605] : List Int))) (montV (V4 ([1, 0, 0, 0] : List Int)) (V4 ([11819153939886771969, 14991950615390032711, 14910419812499177061, 259310039853996605] : List Int))) E k)))))) (V4 (W4 (montV (V4 S) (V4 ([11819153939886771969, 14991950615390032711, 14910419812499177061, 259310039853996605] : List Int)))))))]⟩]⟩) (ex := .normal) mix tabOkOQ gam38_ok
    (vc := [((Wds (W4 (montV (V4 (W4 (rP (montV (V4 S) (V4 ([11819153939886771969, 14991950615390032711, 14910419812499177061, 259310039853996605] : List Int))) (montV (V4 ([1, 0, 0, 0] : List Int)) (V4 ([11819153939886771969, 14991950615390032711, 14910419812499177061, 259310039853996605] : List Int))) E k))) (V4 (W4 (rP (montV (V4 S) (V4 ([11819153939886771969, 14991950615390032711, 14910419812499177061, 259310039853996605] : List Int))) (montV (V4 ([1, 0, 0, 0] : List Int)) (V4 ([11819153939886771969, 14991950615390032711, 14910419812499177061, 259310039853996605] : List Int))) E k)))))) ∧ (Wds (W4 (montV (V4 S) (V4 ([11819153939886771969, 14991950615390032711, 14910419812499177061, 259310039853996605] : List Int))))) ∧ (LtL (W4 (montV (V4 S) (V4 ([11819153939886771969, 14991950615390032711, 14910419812499177061, 259310039853996605] : List Int)))))), (((bits2 .and .u64 (shr .u64 (List.getD E (Int.toNat (IntKind.i64.wrap (Int.tdiv ((255 : Int) - ((k : Nat) : Int)) (64 : Int)))) 0) (Int.tmod ((255 : Int) - ((k : Nat) : Int)) (64 : Int))) (1 : Int)) == (1 : Int)) = true), ((0 : Int) ≤ (Int.tmod ((255 : Int) - ((k : Nat) : Int)) (64 : Int))), ((64 : Int) ≠ 0), ((Int.toNat (IntKind.i64.wrap (Int.tdiv ((255 : Int) - ((k : Nat) : Int)) (64 : Int)))) < (4 : Nat)), (((0 : Int) ≤ (IntKind.i64.wrap (Int.tdiv ((255 : Int) - ((k : Nat) : Int)) (64 : Int)))) ∧ ((IntKind.i64.wrap (Int.tdiv ((255 : Int) - ((k : Nat) : Int)) (64 : Int))) < (4 : Int))), ((64 : Int) ≠ 0), ((Wds (W4 (rP (montV (V4 S) (V4 ([11819153939886771969, 14991950615390032711, 14910419812499177061, 259310039853996605] : List Int))) (montV (V4 ([1, 0, 0, 0] : List Int)) (V4 ([11819153939886771969, 14991950615390032711, 14910419812499177061, 259310039853996605] : List Int))) E k))) ∧ (Wds (W4 (rP (montV (V4 S) (V4 ([11819153939886771969, 14991950615390032711, 14910419812499177061, 259310039853996605] : List Int))) (montV (V4 ([1, 0, 0, 0] : List Int)) (V4 ([11819153939886771969, 14991950615390032711, 14910419812499177061, 259310039853996605] : List Int))) E k))) ∧ (LtL (W4 (rP (montV (V4 S) (V4 ([11819153939886771969, 14991950615390032711, 14910419812499177061, 259310039853996605] : List Int))) (montV (V4 ([1, 0, 0, 0] : List Int)) (V4 ([11819153939886771969, 14991950615390032711, 14910419812499177061, 259310039853996605] : List Int))) E k)))), ((decide (((255 : Int) - ((k : Nat) : Int)) ≥ (0 : Int))) = true)]) (by kernel_rfl)
    (AllP_cons ⟨(wds_W4 _), (wds_W4 _), (ltl_mont _ _)⟩ (AllP_cons (beq_iff_eq.2 ha) (AllP_cons (by have q := qt hk; first | omega | exact q.2.2.2 | (rw [q.1]; omega) | (simp (disch := omega) only [wrapI]; omega)) (AllP_cons (by decide) (AllP_cons (by have q := qt hk; first | omega | exact q.2.2.2 | (rw [q.1]; omega) | (simp (disch := omega) only [wrapI]; omega)) (AllP_cons ⟨(by have q := qt hk; first | omega | exact q.2.2.2 | (rw [q.1]; omega) | (simp (disch := omega) only [wrapI]; omega)), (by have q := qt hk; first | omega | exact q.2.2.2 | (rw [q.1]; omega) | (simp (disch := omega) only [wrapI]; omega))⟩ (AllP_cons (by decide) (AllP_cons ⟨(wds_W4 _), (wds_W4 _), (rP_ltl _ _ _ _ _)⟩ (AllP_cons (decide_eq_true (by have q := qt hk; first | omega | exact q.2.2.2 | (rw [q.1]; omega) | (simp (disch := omega) only [wrapI]; omega))) (AllP_nil))))))))))
  rw [e0, e1] at h
  exact h

set_option maxHeartbeats 1000000 in
theorem pwL_round_1 (S : List Int) (E : List Int) (h0 : (Wds S)) (h1 : (Wds E)) (hv0 : List.length S = (4 : Nat)) (hv1 : List.length E = (4 : Nat)) (w : World) (k : Nat) (hk : k < (256 : Nat)) (s : Unit) (ha : ¬ bitE E k = 1) : Run Try.prog ⟨w, [], 0, noEnv⟩ (loopB Try.f100 0) (pwL_mk S E k s) (To ⟨w, [], 0, noEnv⟩ .normal (pwL_mk S E (k + 1) (pwL_step k s))) := by
  have e0 : (W4 (montV (V4 (W4 (rP (montV (V4 S) (V4 ([11819153939886771969, 14991950615390032711, 14910419812499177061, 259310039853996605] : List Int))) (montV (V4 ([1, 0, 0, 0] : List Int)) (V4 ([11819153939886771969, 14991950615390032711, 14910419812499177061, 259310039853996605] : List Int))) E k))) (V4 (W4 (rP (montV (V4 S) (V4 ([11819153939886771969, 14991950615390032711, 14910419812499177061, 259310039853996605] : List Int))) (montV (V4 ([1, 0, 0, 0] : List Int)) (V4 ([11819153939886771969, 14991950615390032711, 14910419812499177061, 259310039853996605] : List Int))) E k))))) = (W4 (rP (montV (V4 S) (V4 ([11819153939886771969, 14991950615390032711, 14910419812499177061, 259310039853996605] : List Int))) (montV (V4 ([1, 0, 0, 0] : List Int)) (V4 ([11819153939886771969, 14991950615390032711, 14910419812499177061, 259310039853996605] : List Int))) E (k + (1 : Nat)))) := (by first | (rw [wrapI (by omega) (by omega)]; omega) | (rw [rP_b ha]))
  have e1 : (IntKind.i64.wrap (((255 : Int) - ((k : Nat) : Int)) - (1 : Int))) = ((255 : Int) - (((k + (1 : Nat)) : Nat) : Int)) := (by first | (rw [wrapI (by omega) (by omega)]; omega) | (rw [rP_b ha]))
  have h := Run.of_outT (B := ⟨w, [], 0, noEnv⟩) (Λ := noLam) (Ψ := noPsi) (fuel := 0) (ora := [true, false]) (c := (loopB Try.f100 0)) (st := (pwL_mk S E k s)) (l := [.forget [0, 1, 2, 3, 4, 5, 6, 7, 8, 9, 10, 11, 12, 13] 5]) (s' := ⟨sparse 36 [(0, .o (.g [.ints .u64 (4 : Nat) S])), (1, .o (.g [.ints .u64 (4 : Nat) E])), (2, .o (.a (.p 0 0))), (3, .o (.a (.p 1 0))), (4, .o (.a (.p 2 0))), (5, .o (.a (.p 3 0))), (6, .o (.a (.p 4 0))), (7, .o (.a (.i .i64 (IntKind.i64.wrap (((255 : Int) - ((k : Nat) : Int)) - (1 : Int)))))), (8, .o (.g [.ints .u64 (4 : Nat) S])), (9, .o (.g [.ints .u64 (4 : Nat) ([11819153939886771969, 14991950615390032711, 14910419812499177061, 259310039853996605] : List Int)])), (10, .o (.g [.ints .u64 (4 : Nat) (W4 (montV (V4 S) (V4 ([11819153939886771969, 14991950615390032711, 14910419812499177061, 259310039853996605] : List Int))))])), (11, .o (.g [.ints .u64 (4 : Nat) ([1, 0, 0, 0] : List Int)])), (12, .o (.g [.ints .u64 (4 : Nat) ([11819153939886771969, 14991950615390032711, 14910419812499177061, 259310039853996605] : List Int)])), (13, .o (.g [.ints .u64 (4 : Nat) (W4 (montV (V4 ([1, 0, 0, 0] : List Int)) (V4 ([11819153939886771969, 14991950615390032711, 14910419812499177061, 259310039853996605] : List Int))))]))], [some ⟨true, [.ints .u64 (4 : Nat) S]⟩, some ⟨true, [.ints .u64 (4 : Nat) E]⟩, some ⟨true, [.ints .u64 (4 : Nat) ([0, 0, 0, 0] : List Int)]⟩, some ⟨true, [.ints .u64 (4 : Nat) (W4 (montV (V4 S) (V4 ([11819153939886771969, 14991950615390032711, 14910419812499177061, 259310039853996605] : List Int))))]⟩, some ⟨true, [.ints .u64 (4 : Nat) (W4 (montV (V4 (W4 (rP (montV (V4 S) (V4 ([11819153939886771969, 14991950615390032711, 14910419812499177061, 259310039853996605] : List Int))) (montV (V4 ([1, 0, 0, 0] : List Int)) (V4 ([11819153939886771969, 14991950615390032711, 14910419812499177061, 259310039853996605] : List Int))) E k))) (V4 (W4 (rP (montV (V4 S) (V4 ([11819153939886771969, 14991950615390032711, 14910419812499177061, 259310039853996605] : List Int))) (montV (V4 ([1, 0, 0, 0] : List Int)) (V4 ([11819153939886771969, 14991950615390032711, 14910419812499177061, 259310039853996605] : List Int))) E k)))))]⟩]⟩) (ex := .normal) mix tabOkOQ gam38_ok
    (vc := [(((bits2 .and .u64 (shr .u64 (List.getD E (Int.toNat (IntKind.i64.wrap (Int.tdiv ((255 : Int) - ((k : Nat) : Int)) (64 : Int)))) 0) (Int.tmod ((255 : Int) - ((k : Nat) : Int)) (64 : Int))) (1 : Int)) == (1 : Int)) = false), ((0 : Int) ≤ (Int.tmod ((255 : Int) - ((k : Nat) : Int)) (64 : Int))), ((64 : Int) ≠ 0), ((Int.toNat (IntKind.i64.wrap (Int.tdiv ((255 : Int) - ((k : Nat) : Int)) (64 : Int)))) < (4 : Nat)), (((0 : Int) ≤ (IntKind.i64.wrap (Int.tdiv ((255 : Int) - ((k : Nat) : Int)) (64 : Int)))) ∧ ((IntKind.i64.wrap (Int.tdiv ((255 : Int) - ((k : Nat) : Int)) (64 : Int))) < (4 : Int))), ((64 : Int) ≠ 0), ((Wds (W4 (rP (montV (V4 S) (V4 ([11819153939886771969, 14991950615390032711, 14910419812499177061, 259310039853996605] : List Int))) (montV (V4 ([1, 0, 0, 0] : List Int)) (V4 ([11819153939886771969, 14991950615390032711, 14910419812499177061, 259310039853996605] : List Int))) E k))) ∧ (Wds (W4 (rP (montV (V4 S) (V4 ([11819153939886771969, 14991950615390032711, 14910419812499177061, 259310039853996605] : List Int))) (montV (V4 ([1, 0, 0, 0] : List Int)) (V4 ([11819153939886771969, 14991950615390032711, 14910419812499177061, 259310039853996605] : List Int))) E k))) ∧ (LtL (W4 (rP (montV (V4 S) (V4 ([11819153939886771969, 14991950615390032711, 14910419812499177061, 259310039853996605] : List Int))) (montV (V4 ([1, 0, 0, 0] : List Int)) (V4 ([11819153939886771969, 14991950615390032711, 14910419812499177061, 259310039853996605] : List Int))) E k)))), ((decide (((255 : Int) - ((k : Nat) : Int)) ≥ (0 : Int))) = true)]) (by kernel_rfl)
    (AllP_cons (beq_eq_false_iff_ne.2 ha) (AllP_cons (by have q := qt hk; first | omega | exact q.2.2.2 | (rw [q.1]; omega) | (simp (disch := omega) only [wrapI]; omega)) (AllP_cons (by decide) (AllP_cons (by have q := qt hk; first | omega | exact q.2.2.2 | (rw [q.1]; omega) | (simp (disch := omega) only [wrapI]; omega)) (AllP_cons ⟨(by have q := qt hk; first | omega | exact q.2.2.2 | (rw [q.1]; omega) | (simp (disch := omega) only [wrapI]; omega)), (by have q := qt hk; first | omega | exact q.2.2.2 | (rw [q.1]; omega) | (simp (disch := omega) only [wrapI]; omega))⟩ (AllP_cons (by decide) (AllP_cons ⟨(wds_W4 _), (wds_W4 _), (rP_ltl _ _ _ _ _)⟩ (AllP_cons (decide_eq_true (by have q := qt hk; first | omega | exact q.2.2.2 | (rw [q.1]; omega) | (simp (disch := omega) only [wrapI]; omega))) (AllP_nil)))))))))
  rw [e0, e1] at h
  exact h

theorem pwL_round (S : List Int) (E : List Int) (h0 : (Wds S)) (h1 : (Wds E)) (hv0 : List.length S = (4 : Nat)) (hv1 : List.length E = (4 : Nat)) (w : World) (k : Nat) (hk : k < (256 : Nat)) (s : Unit) : Run Try.prog ⟨w, [], 0, noEnv⟩ (loopB Try.f100 0) (pwL_mk S E k s) (To ⟨w, [], 0, noEnv⟩ .normal (pwL_mk S E (k + 1) (pwL_step k s))) := by
  by_cases ha : bitE E k = 1
  · exact pwL_round_0 S E h0 h1 hv0 hv1 w k hk s ha
  · exact pwL_round_1 S E h0 h1 hv0 hv1 w k hk s ha

set_option maxHeartbeats 1000000 in
theorem pwL_last (S : List Int) (E : List Int) (h0 : (Wds S)) (h1 : (Wds E)) (hv0 : List.length S = (4 : Nat)) (hv1 : List.length E = (4 : Nat)) (w : World) (s : Unit) : Run Try.prog ⟨w, [], 0, noEnv⟩ (loopB Try.f100 0) (pwL_mk S E (256 : Nat) s) (To ⟨w, [], 0, noEnv⟩ (.exit 0) (pwL_mk S E (256 : Nat) s)) :=
  Run.of_outT (B := ⟨w, [], 0, noEnv⟩) (Λ := noLam) (Ψ := noPsi) (fuel := 0) (ora := [false]) (l := [.forget [0, 1, 2, 3, 4, 5, 6, 7, 8, 9, 10, 11, 12, 13] 5]) mix tabOkOQ gam38_ok
    (vc := [(false = false)]) (by kernel_rfl)
    (AllP_cons rfl (AllP_nil))

theorem pwL_loop (S : List Int) (E : List Int) (h0 : (Wds S)) (h1 : (Wds E)) (hv0 : List.length S = (4 : Nat)) (hv1 : List.length E = (4 : Nat)) (w : World) (s : Unit) : Run Try.prog ⟨w, [], 0, noEnv⟩ (.block 0 (.loop (loopB Try.f100 0))) (pwL_mk S E 0 s) (To ⟨w, [], 0, noEnv⟩ .normal (pwL_mk S E (256 : Nat) (iter (pwL_step) (256 : Nat) s))) :=
  Run.count (fun k => pwL_mk S E k (iter (pwL_step) k s)) (256 : Nat) (fun k hk => pwL_round S E h0 h1 hv0 hv1 w k hk _) (ex := (.exit 0)) (by simp) (pwL_last S E h0 h1 hv0 hv1 w _)

def powA (S : List Int) (E : List Int) : List Int :=
  (W4 (montV (V4 (W4 (rP (montV (V4 S) (V4 ([11819153939886771969, 14991950615390032711, 14910419812499177061, 259310039853996605] : List Int))) (montV (V4 ([1, 0, 0, 0] : List Int)) (V4 ([11819153939886771969, 14991950615390032711, 14910419812499177061, 259310039853996605] : List Int))) E (256 : Nat)))) (V4 ([1, 0, 0, 0] : List Int))))

set_option maxHeartbeats 1000000 in
theorem powA_body0 (S : List Int) (E : List Int) (h0 : (Wds S)) (h1 : (Wds E)) (hv0 : List.length S = (4 : Nat)) (hv1 : List.length E = (4 : Nat)) (w : World) : Body Try.prog (tabOf tabOQ) Try.f100 ⟨w, [], 0, noEnv⟩ (toA [.g [.ints .u64 (4 : Nat) S], .g [.ints .u64 (4 : Nat) E]]) [] (fun ys _ => ys = [.g [.ints .u64 (4 : Nat) (powA S E)]]) :=
  Body.of_fin (Γ := gam38) (Λ := lamOf [(0, ⟨[.forget [0, 1, 2, 3, 4, 5, 6, 7, 8, 9, 10, 11, 12, 13] 5], .normal, (pwL_mk S E (256 : Nat) (iter (pwL_step) (256 : Nat) ()))⟩)]) (Ψ := noPsi) (fuel := 0) (m := 36) (c := (Try.f100.body.getD .skip)) mix tabOkOQ gam38_ok rfl (rs := [.cell 4 104]) rfl rfl [] []
    (vc := [((Wds (W4 (rP (montV (V4 S) (V4 ([11819153939886771969, 14991950615390032711, 14910419812499177061, 259310039853996605] : List Int))) (montV (V4 ([1, 0, 0, 0] : List Int)) (V4 ([11819153939886771969, 14991950615390032711, 14910419812499177061, 259310039853996605] : List Int))) E (256 : Nat)))) ∧ (Wds ([1, 0, 0, 0] : List Int)) ∧ (LtL ([1, 0, 0, 0] : List Int))), (Run Try.prog ⟨w, [], 0, noEnv⟩ (.block 0 (.loop (loopB Try.f100 0))) (pwL_mk S E 0 ()) (To ⟨w, [], 0, noEnv⟩ .normal (pwL_mk S E (256 : Nat) (iter (pwL_step) (256 : Nat) ())))), ((Wds ([1, 0, 0, 0] : List Int)) ∧ (Wds ([11819153939886771969, 14991950615390032711, 14910419812499177061, 259310039853996605] : List Int)) ∧ (LtL ([11819153939886771969, 14991950615390032711, 14910419812499177061, 259310039853996605] : List Int))), ((Wds S) ∧ (Wds ([11819153939886771969, 14991950615390032711, 14910419812499177061, 259310039853996605] : List Int)) ∧ (LtL ([11819153939886771969, 14991950615390032711, 14910419812499177061, 259310039853996605] : List Int)))]) (by kernel_rfl)
    (AllP_cons ⟨(wds_W4 _), wds_one, ltl_one⟩ (AllP_cons (pwL_loop S E h0 h1 hv0 hv1 w ()) (AllP_cons ⟨wds_one, wds_radx, ltl_radx⟩ (AllP_cons ⟨(by assumption), wds_radx, ltl_radx⟩ (AllP_nil)))))

theorem powA_body (S : List Int) (E : List Int) (h0 : (Wds S)) (h1 : (Wds E)) (w : World) : Body Try.prog (tabOf tabOQ) Try.f100 ⟨w, [], 0, noEnv⟩ (toA [.g [.ints .u64 (4 : Nat) S], .g [.ints .u64 (4 : Nat) E]]) [] (fun ys _ => ys = [.g [.ints .u64 (4 : Nat) (powA S E)]]) :=
  Body.lens (c := (Try.f100.body.getD .skip)) rfl fun h => powA_body0 S E h0 h1 (h.vals 0 _ _ _ rfl) (h.vals 1 _ _ _ rfl) w

end Go.Proofs.Ytcpoldghkiiggaa.X

/- A power's words. -/
namespace Go.Proofs.Ytcpoldghkiiggaa.X
open Go Go.Proofs
theorem wds_pow (S E : List Int) : Wds (powA S E) := by unfold powA; exact wds_W4 _
end Go.Proofs.Ytcpoldghkiiggaa.X

/- Printed by a tool of this session. -/
namespace Go.Proofs.Ytcpoldghkiiggaa.X
open Go Go.Proofs
set_option linter.unusedVariables false
set_option linter.unusedSimpArgs false
set_option maxRecDepth 100000
theorem teOS_5 : TEOk Try.prog 5 ⟨.int .u8, 1, 1, [.i .u8 (0 : Int)], false⟩ :=
  TEOk.of Try.underlying5 (i := Try.t5) (by kernel_rfl) rfl rfl rfl (by kernel_rfl) (fun h => by cases h) (by kernel_rfl)
theorem teOS_24 : TEOk Try.prog 24 ⟨.array 32 5, 32, 32, [.ints .u8 (32 : Nat) ([0, 0, 0, 0, 0, 0, 0, 0, 0, 0, 0, 0, 0, 0, 0, 0, 0, 0, 0, 0, 0, 0, 0, 0, 0, 0, 0, 0, 0, 0, 0, 0] : List Int)], true⟩ :=
  TEOk.of Try.underlying24 (i := Try.t24) (by kernel_rfl) rfl rfl rfl (by kernel_rfl) (fun _ => Try.eqGuardType24) (by kernel_rfl)
theorem teOS_25 : TEOk Try.prog 25 ⟨.int .u64, 1, 8, [.i .u64 (0 : Int)], false⟩ :=
  TEOk.of Try.underlying25 (i := Try.t25) (by kernel_rfl) rfl rfl rfl (by kernel_rfl) (fun h => by cases h) (by kernel_rfl)
theorem teOS_104 : TEOk Try.prog 104 ⟨.array 4 25, 4, 32, [.ints .u64 (4 : Nat) ([0, 0, 0, 0] : List Int)], true⟩ :=
  TEOk.of Try.underlying104 (i := Try.t104) (by kernel_rfl) rfl rfl rfl (by kernel_rfl) (fun _ => Try.eqGuardType104) (by kernel_rfl)
noncomputable def tabOS : List (Nat × TE) := [(5, ⟨.int .u8, 1, 1, [.i .u8 (0 : Int)], false⟩), (24, ⟨.array 32 5, 32, 32, [.ints .u8 (32 : Nat) ([0, 0, 0, 0, 0, 0, 0, 0, 0, 0, 0, 0, 0, 0, 0, 0, 0, 0, 0, 0, 0, 0, 0, 0, 0, 0, 0, 0, 0, 0, 0, 0] : List Int)], true⟩), (25, ⟨.int .u64, 1, 8, [.i .u64 (0 : Int)], false⟩), (104, ⟨.array 4 25, 4, 32, [.ints .u64 (4 : Nat) ([0, 0, 0, 0] : List Int)], true⟩)]
theorem tabOkOS : TabOk Try.prog (tabOf tabOS) := (tabOf_cons teOS_5 (tabOf_cons teOS_24 (tabOf_cons teOS_25 (tabOf_cons teOS_104 tabOf_nil))))

theorem powA_pure (S : List Int) (E : List Int) (h0 : (Wds S)) (h1 : (Wds E)) : PureC Try.prog 100 [.g [.ints .u64 (4 : Nat) S], .g [.ints .u64 (4 : Nat) E]] [.g [.ints .u64 (4 : Nat) (powA S E)]] :=
  PureC.of_body tabOkOQ Try.func100 rfl rfl fun w => powA_body S E h0 h1 w

def gam39 : Gam := gpure 100 (fun args => match args with | [.o (.g [.ints .u64 (4 : Nat) S]), .o (.g [.ints .u64 (4 : Nat) E])] => some (some ((Wds S) ∧ (Wds E)), [.g [.ints .u64 (4 : Nat) (powA S E)]]) | _ => none) gam38
theorem gam39_ok : GamOk Try.prog gam39 := gpure_ok gam38_ok Try.call100 (by
  intro args vc xs h hv
  split at h
  · simp only [Option.some.injEq, Prod.mk.injEq] at h; obtain ⟨rfl, rfl⟩ := h; exact ⟨_, by rfl, powA_pure _ _ hv.1 hv.2⟩
  · simp at h)

set_option maxHeartbeats 1000000 in
theorem invA_body0 (a : List Int) (h0 : (Byt a)) (hv0 : List.length a = (32 : Nat)) (hc : W4 (modL (BV a)) = [0, 0, 0, 0]) (w : World) : Body Try.prog (tabOf tabOS) Try.f40 ⟨w, [], 0, noEnv⟩ (toA [.g [.ints .u8 (32 : Nat) a]]) [] (fun ys _ => ys = [.g [.ints .u8 (32 : Nat) ([0, 0, 0, 0, 0, 0, 0, 0, 0, 0, 0, 0, 0, 0, 0, 0, 0, 0, 0, 0, 0, 0, 0, 0, 0, 0, 0, 0, 0, 0, 0, 0] : List Int)], .a (.i .i64 (9 : Int))]) :=
  Body.of_fin (Γ := gam39) (Λ := noLam) (Ψ := noPsi) (fuel := 0) (m := 23) (c := (Try.f40.body.getD .skip)) mix tabOkOS gam39_ok rfl (rs := [.cell 2 24, .tmp 3]) rfl rfl [true] []
    (vc := [((decide ((W4 (modL (BV a))) = ([0, 0, 0, 0] : List Int))) = true), (Byt a)]) (by kernel_rfl)
    (AllP_cons (decide_eq_true hc) (AllP_cons (by assumption) (AllP_nil)))

def invB (a : List Int) : List Int :=
  (B32 (V4 (powA (W4 (modL (BV a))) (W4 (difR (V4 ([6346243789798364141, 1503914060200516822, 0, 1152921504606846976] : List Int)) (V4 ([2, 0, 0, 0] : List Int)))))))

set_option maxHeartbeats 1000000 in
theorem invB_body0 (a : List Int) (h0 : (Byt a)) (hv0 : List.length a = (32 : Nat)) (hc : W4 (modL (BV a)) ≠ [0, 0, 0, 0]) (w : World) : Body Try.prog (tabOf tabOS) Try.f40 ⟨w, [], 0, noEnv⟩ (toA [.g [.ints .u8 (32 : Nat) a]]) [] (fun ys _ => ys = [.g [.ints .u8 (32 : Nat) (invB a)], .a (.i .i64 (0 : Int))]) :=
  Body.of_fin (Γ := gam39) (Λ := noLam) (Ψ := noPsi) (fuel := 0) (m := 23) (c := (Try.f40.body.getD .skip)) mix tabOkOS gam39_ok rfl (rs := [.cell 2 24, .tmp 3]) rfl rfl [false] []
    (vc := [(Wds (powA (W4 (modL (BV a))) (W4 (difR (V4 ([6346243789798364141, 1503914060200516822, 0, 1152921504606846976] : List Int)) (V4 ([2, 0, 0, 0] : List Int)))))), ((Wds (W4 (modL (BV a)))) ∧ (Wds (W4 (difR (V4 ([6346243789798364141, 1503914060200516822, 0, 1152921504606846976] : List Int)) (V4 ([2, 0, 0, 0] : List Int)))))), ((Wds ([6346243789798364141, 1503914060200516822, 0, 1152921504606846976] : List Int)) ∧ (Wds ([2, 0, 0, 0] : List Int))), ((decide ((W4 (modL (BV a))) = ([0, 0, 0, 0] : List Int))) = false), (Byt a)]) (by kernel_rfl)
    (AllP_cons (wds_pow _ _) (AllP_cons ⟨(wds_W4 _), (wds_W4 _)⟩ (AllP_cons ⟨(wds_four (by omega) (by omega) (by omega) (by omega)), (wds_four (by omega) (by omega) (by omega) (by omega))⟩ (AllP_cons (decide_eq_false hc) (AllP_cons (by assumption) (AllP_nil))))))

end Go.Proofs.Ytcpoldghkiiggaa.X

/- Invert, in one form. -/
namespace Go.Proofs.Ytcpoldghkiiggaa.X
open Go Go.Proofs
set_option linter.unusedVariables false

def invL (a : List Int) : List Int := if W4 (modL (BV a)) = [0, 0, 0, 0] then [0, 0, 0, 0, 0, 0, 0, 0, 0, 0, 0, 0, 0, 0, 0, 0, 0, 0, 0, 0, 0, 0, 0, 0, 0, 0, 0, 0, 0, 0, 0, 0] else invB a
def invE (a : List Int) : Int := if W4 (modL (BV a)) = [0, 0, 0, 0] then 9 else 0

theorem inv_can (a : List Int) (h0 : Byt a) (w : World) : Body Try.prog (tabOf tabOS) Try.f40 ⟨w, [], 0, noEnv⟩ (toA [.g [.ints .u8 (32 : Nat) a]]) [] (fun ys _ => ys = [.g [.ints .u8 (32 : Nat) (invL a)], .a (.i .i64 (invE a))]) :=
  Body.lens (c := (Try.f40.body.getD .skip)) rfl fun h => by
    have hl := h.vals 0 _ _ _ rfl
    by_cases hc : W4 (modL (BV a)) = [0, 0, 0, 0]
    · refine (invA_body0 a h0 hl hc w).mono fun xs K hx => ?_
      subst hx
      have e1 : invL a = [0, 0, 0, 0, 0, 0, 0, 0, 0, 0, 0, 0, 0, 0, 0, 0, 0, 0, 0, 0, 0, 0, 0, 0, 0, 0, 0, 0, 0, 0, 0, 0] := by unfold invL; rw [if_pos hc]
      have e2 : invE a = 9 := by unfold invE; rw [if_pos hc]
      rw [e1, e2]
    · refine (invB_body0 a h0 hl hc w).mono fun xs K hx => ?_
      subst hx
      have e1 : invL a = invB a := by unfold invL; rw [if_neg hc]
      have e2 : invE a = 0 := by unfold invE; rw [if_neg hc]
      rw [e1, e2]
end Go.Proofs.Ytcpoldghkiiggaa.X

/- Small bytes. -/
namespace Go.Proofs.Ytcpoldghkiiggaa.X
open Go Go.Proofs
theorem byt_small {s : List Int} (h : (s.all fun x => decide (0 ≤ x ∧ x < 256)) = true) : Byt s := by
  intro x hx
  simpa using List.all_eq_true.1 h x hx
end Go.Proofs.Ytcpoldghkiiggaa.X

/- Printed by a tool of this session. -/
namespace Go.Proofs.Ytcpoldghkiiggaa.X
open Go Go.Proofs
set_option linter.unusedVariables false
set_option linter.unusedSimpArgs false
set_option maxRecDepth 100000
theorem teOV_5 : TEOk Try.prog 5 ⟨.int .u8, 1, 1, [.i .u8 (0 : Int)], false⟩ :=
  TEOk.of Try.underlying5 (i := Try.t5) (by kernel_rfl) rfl rfl rfl (by kernel_rfl) (fun h => by cases h) (by kernel_rfl)
theorem teOV_22 : TEOk Try.prog 22 ⟨.slice 5, 1, 24, [.raw (.slice none 0 0)], false⟩ :=
  TEOk.of Try.underlying22 (i := Try.t22) (by kernel_rfl) rfl rfl rfl (by kernel_rfl) (fun h => by cases h) (by kernel_rfl)
theorem teOV_24 : TEOk Try.prog 24 ⟨.array 32 5, 32, 32, [.ints .u8 (32 : Nat) ([0, 0, 0, 0, 0, 0, 0, 0, 0, 0, 0, 0, 0, 0, 0, 0, 0, 0, 0, 0, 0, 0, 0, 0, 0, 0, 0, 0, 0, 0, 0, 0] : List Int)], true⟩ :=
  TEOk.of Try.underlying24 (i := Try.t24) (by kernel_rfl) rfl rfl rfl (by kernel_rfl) (fun _ => Try.eqGuardType24) (by kernel_rfl)
noncomputable def tabOV : List (Nat × TE) := [(5, ⟨.int .u8, 1, 1, [.i .u8 (0 : Int)], false⟩), (22, ⟨.slice 5, 1, 24, [.raw (.slice none 0 0)], false⟩), (24, ⟨.array 32 5, 32, 32, [.ints .u8 (32 : Nat) ([0, 0, 0, 0, 0, 0, 0, 0, 0, 0, 0, 0, 0, 0, 0, 0, 0, 0, 0, 0, 0, 0, 0, 0, 0, 0, 0, 0, 0, 0, 0, 0] : List Int)], true⟩)]
theorem tabOkOV : TabOk Try.prog (tabOf tabOV) := (tabOf_cons teOV_5 (tabOf_cons teOV_22 (tabOf_cons teOV_24 tabOf_nil)))

theorem invA_pure (a : List Int) (h0 : (Byt a)) : PureC Try.prog 40 [.g [.ints .u8 (32 : Nat) a]] [.g [.ints .u8 (32 : Nat) (invL a)], .a (.i .i64 (invE a))] :=
  PureC.of_body tabOkOS Try.func40 rfl rfl fun w => inv_can a h0 w

def gam40 : Gam := gpure 40 (fun args => match args with | [.o (.g [.ints .u8 (32 : Nat) a])] => some (some ((Byt a)), [.g [.ints .u8 (32 : Nat) (invL a)], .a (.i .i64 (invE a))]) | _ => none) gam39
theorem gam40_ok : GamOk Try.prog gam40 := gpure_ok gam39_ok Try.call40 (by
  intro args vc xs h hv
  split at h
  · simp only [Option.some.injEq, Prod.mk.injEq] at h; obtain ⟨rfl, rfl⟩ := h; exact ⟨_, by rfl, invA_pure _ hv⟩
  · simp at h)

def decZ (b : List Int) : List Int :=
  (sub b (0 : Nat) (32 : Nat))

set_option maxHeartbeats 1000000 in
theorem decZ_body0 (b : List Int) (cp : Nat) (h0 : (Byt (sub b (0 : Nat) (32 : Nat)))) (h1 : ((canP (sub b (0 : Nat) (32 : Nat))) = true)) (hl0_0 : List.length b = (32 : Nat)) (w : World) (rw : List Nat) (β : Env) : Body Try.prog (tabOf tabOV) Try.f15 ⟨w, rw, 1, β⟩ [.o (.a (.sl 0 (0 : Nat) (32 : Nat) cp))] [some ⟨false, [.ints .u8 (32 : Nat) b]⟩] (fun ys K' => ys = [.g [.ints .u8 (32 : Nat) (decZ b)], .a (.i .i64 (0 : Int))] ∧ K' = [some ⟨false, [.ints .u8 (32 : Nat) b]⟩]) :=
  Body.of_finK (Γ := gam40) (Λ := noLam) (Ψ := noPsi) (fuel := 0) (m := 17) (c := (Try.f15.body.getD .skip)) mix tabOkOV gam40_ok rfl (rs := [.cell 2 24, .tmp 3]) rfl rfl [false, false] [] 1
    (vc := [((!(canP (sub b (0 : Nat) (32 : Nat)))) = false), (Byt (sub b (0 : Nat) (32 : Nat))), ((32 : Nat) ≤ (32 : Nat)), ((32 : Nat) ≤ (32 : Nat)), (false = false)]) (by kernel_rfl)
    (AllP_cons (by rw [h1]; rfl) (AllP_cons (by assumption) (AllP_cons (by decide) (AllP_cons (by decide) (AllP_cons rfl (AllP_nil))))))

theorem decZ_body (b : List Int) (cp : Nat) (h0 : (Byt (sub b (0 : Nat) (32 : Nat)))) (h1 : ((canP (sub b (0 : Nat) (32 : Nat))) = true)) (w : World) (rw : List Nat) (β : Env) : Body Try.prog (tabOf tabOV) Try.f15 ⟨w, rw, 1, β⟩ [.o (.a (.sl 0 (0 : Nat) (32 : Nat) cp))] [some ⟨false, [.ints .u8 (32 : Nat) b]⟩] (fun ys K' => ys = [.g [.ints .u8 (32 : Nat) (decZ b)], .a (.i .i64 (0 : Int))] ∧ K' = [some ⟨false, [.ints .u8 (32 : Nat) b]⟩]) :=
  Body.lens (c := (Try.f15.body.getD .skip)) rfl fun h => decZ_body0 b cp h0 h1 (h.lens 0 _ .u8 (32 : Nat) b rfl (by simp)) w rw β

def gam41 : Gam := gcall 15 [false] [.w] (fun wk vs args => match wk, vs, args with | [⟨false, [.ints .u8 (32 : Nat) b]⟩], [], [.o (.a (.sl 0 (0 : Nat) (32 : Nat) cp))] => some ((Byt (sub b (0 : Nat) (32 : Nat))) ∧ ((canP (sub b (0 : Nat) (32 : Nat))) = true), [.g [.ints .u8 (32 : Nat) (decZ b)], .a (.i .i64 (0 : Int))], [some ⟨false, [.ints .u8 (32 : Nat) b]⟩]) | _, _, _ => none) gam40
theorem gam41_ok : GamOk Try.prog gam41 := gcall_ok tabOkOV Try.func15 gam40_ok Try.call15 (by
  intro wk vs args p xs K1 h hv
  split at h
  · simp only [Option.some.injEq, Prod.mk.injEq] at h; obtain ⟨rfl, rfl, rfl⟩ := h; obtain ⟨g0, g1⟩ := hv; exact fun caps w rw β => decZ_body _ _ g0 g1 w rw β
  · simp at h)

set_option maxHeartbeats 1000000 in
theorem works_body0 (w : World) : Body Try.prog (tabOf tabOV) Try.f25 ⟨w, [], 0, noEnv⟩ (toA []) [] (fun ys _ => ys = [.a (.b true)]) :=
  Body.of_fin (Γ := gam41) (Λ := noLam) (Ψ := noPsi) (fuel := 0) (m := 60) (c := (Try.f25.body.getD .skip)) mix tabOkOV gam41_ok rfl (rs := [.tmp 0]) rfl rfl [true, true, true, true, true, true, true, true, true, true, true, true, true, true, true, true, true, true, true, true, true, true, true, true, true, true, true] [.eqS 0 (.o (.a (.b true)))]
    (vc := [((.o (.a (.b (decide ((addP (negP ([1, 0, 0, 0, 0, 0, 0, 0, 0, 0, 0, 0, 0, 0, 0, 0, 0, 0, 0, 0, 0, 0, 0, 0, 0, 0, 0, 0, 0, 0, 0, 0] : List Int)) ([2, 0, 0, 0, 0, 0, 0, 0, 0, 0, 0, 0, 0, 0, 0, 0, 0, 0, 0, 0, 0, 0, 0, 0, 0, 0, 0, 0, 0, 0, 0, 0] : List Int)) = ([1, 0, 0, 0, 0, 0, 0, 0, 0, 0, 0, 0, 0, 0, 0, 0, 0, 0, 0, 0, 0, 0, 0, 0, 0, 0, 0, 0, 0, 0, 0, 0] : List Int))))) : AV) = .o (.a (.b true))), ((decide ((decZ (List.replicate (32 : Nat) (0 : Int))) = ([0, 0, 0, 0, 0, 0, 0, 0, 0, 0, 0, 0, 0, 0, 0, 0, 0, 0, 0, 0, 0, 0, 0, 0, 0, 0, 0, 0, 0, 0, 0, 0] : List Int))) = true), ((decide ((decZ (List.replicate (32 : Nat) (0 : Int))) = ([0, 0, 0, 0, 0, 0, 0, 0, 0, 0, 0, 0, 0, 0, 0, 0, 0, 0, 0, 0, 0, 0, 0, 0, 0, 0, 0, 0, 0, 0, 0, 0] : List Int))) = true), ((decide ((decZ (List.replicate (32 : Nat) (0 : Int))) = ([0, 0, 0, 0, 0, 0, 0, 0, 0, 0, 0, 0, 0, 0, 0, 0, 0, 0, 0, 0, 0, 0, 0, 0, 0, 0, 0, 0, 0, 0, 0, 0] : List Int))) = true), ((Byt (negP ([1, 0, 0, 0, 0, 0, 0, 0, 0, 0, 0, 0, 0, 0, 0, 0, 0, 0, 0, 0, 0, 0, 0, 0, 0, 0, 0, 0, 0, 0, 0, 0] : List Int))) ∧ (Byt ([2, 0, 0, 0, 0, 0, 0, 0, 0, 0, 0, 0, 0, 0, 0, 0, 0, 0, 0, 0, 0, 0, 0, 0, 0, 0, 0, 0, 0, 0, 0, 0] : List Int))), ((decide ((decZ (List.replicate (32 : Nat) (0 : Int))) = ([0, 0, 0, 0, 0, 0, 0, 0, 0, 0, 0, 0, 0, 0, 0, 0, 0, 0, 0, 0, 0, 0, 0, 0, 0, 0, 0, 0, 0, 0, 0, 0] : List Int))) = true), ((decide ((decZ (List.replicate (32 : Nat) (0 : Int))) = ([0, 0, 0, 0, 0, 0, 0, 0, 0, 0, 0, 0, 0, 0, 0, 0, 0, 0, 0, 0, 0, 0, 0, 0, 0, 0, 0, 0, 0, 0, 0, 0] : List Int))) = true), (Byt ([1, 0, 0, 0, 0, 0, 0, 0, 0, 0, 0, 0, 0, 0, 0, 0, 0, 0, 0, 0, 0, 0, 0, 0, 0, 0, 0, 0, 0, 0, 0, 0] : List Int)), ((decide ((decZ (List.replicate (32 : Nat) (0 : Int))) = ([0, 0, 0, 0, 0, 0, 0, 0, 0, 0, 0, 0, 0, 0, 0, 0, 0, 0, 0, 0, 0, 0, 0, 0, 0, 0, 0, 0, 0, 0, 0, 0] : List Int))) = true), ((decide ((decZ (List.replicate (32 : Nat) (0 : Int))) = ([0, 0, 0, 0, 0, 0, 0, 0, 0, 0, 0, 0, 0, 0, 0, 0, 0, 0, 0, 0, 0, 0, 0, 0, 0, 0, 0, 0, 0, 0, 0, 0] : List Int))) = true), (true = true), (true = true), (true = true), (true = true), (((invE ([0, 0, 0, 0, 0, 0, 0, 0, 0, 0, 0, 0, 0, 0, 0, 0, 0, 0, 0, 0, 0, 0, 0, 0, 0, 0, 0, 0, 0, 0, 0, 0] : List Int)) == (9 : Int)) = true), (((invE ([0, 0, 0, 0, 0, 0, 0, 0, 0, 0, 0, 0, 0, 0, 0, 0, 0, 0, 0, 0, 0, 0, 0, 0, 0, 0, 0, 0, 0, 0, 0, 0] : List Int)) == (9 : Int)) = true), (((invE ([0, 0, 0, 0, 0, 0, 0, 0, 0, 0, 0, 0, 0, 0, 0, 0, 0, 0, 0, 0, 0, 0, 0, 0, 0, 0, 0, 0, 0, 0, 0, 0] : List Int)) == (9 : Int)) = true), (((invE ([0, 0, 0, 0, 0, 0, 0, 0, 0, 0, 0, 0, 0, 0, 0, 0, 0, 0, 0, 0, 0, 0, 0, 0, 0, 0, 0, 0, 0, 0, 0, 0] : List Int)) == (9 : Int)) = true), ((decide ((invL ([1, 0, 0, 0, 0, 0, 0, 0, 0, 0, 0, 0, 0, 0, 0, 0, 0, 0, 0, 0, 0, 0, 0, 0, 0, 0, 0, 0, 0, 0, 0, 0] : List Int)) = ([1, 0, 0, 0, 0, 0, 0, 0, 0, 0, 0, 0, 0, 0, 0, 0, 0, 0, 0, 0, 0, 0, 0, 0, 0, 0, 0, 0, 0, 0, 0, 0] : List Int))) = true), ((decide ((invL ([1, 0, 0, 0, 0, 0, 0, 0, 0, 0, 0, 0, 0, 0, 0, 0, 0, 0, 0, 0, 0, 0, 0, 0, 0, 0, 0, 0, 0, 0, 0, 0] : List Int)) = ([1, 0, 0, 0, 0, 0, 0, 0, 0, 0, 0, 0, 0, 0, 0, 0, 0, 0, 0, 0, 0, 0, 0, 0, 0, 0, 0, 0, 0, 0, 0, 0] : List Int))) = true), ((decide ((invL ([1, 0, 0, 0, 0, 0, 0, 0, 0, 0, 0, 0, 0, 0, 0, 0, 0, 0, 0, 0, 0, 0, 0, 0, 0, 0, 0, 0, 0, 0, 0, 0] : List Int)) = ([1, 0, 0, 0, 0, 0, 0, 0, 0, 0, 0, 0, 0, 0, 0, 0, 0, 0, 0, 0, 0, 0, 0, 0, 0, 0, 0, 0, 0, 0, 0, 0] : List Int))) = true), ((decide ((invL ([1, 0, 0, 0, 0, 0, 0, 0, 0, 0, 0, 0, 0, 0, 0, 0, 0, 0, 0, 0, 0, 0, 0, 0, 0, 0, 0, 0, 0, 0, 0, 0] : List Int)) = ([1, 0, 0, 0, 0, 0, 0, 0, 0, 0, 0, 0, 0, 0, 0, 0, 0, 0, 0, 0, 0, 0, 0, 0, 0, 0, 0, 0, 0, 0, 0, 0] : List Int))) = true), (((invE ([1, 0, 0, 0, 0, 0, 0, 0, 0, 0, 0, 0, 0, 0, 0, 0, 0, 0, 0, 0, 0, 0, 0, 0, 0, 0, 0, 0, 0, 0, 0, 0] : List Int)) == (0 : Int)) = true), (((invE ([1, 0, 0, 0, 0, 0, 0, 0, 0, 0, 0, 0, 0, 0, 0, 0, 0, 0, 0, 0, 0, 0, 0, 0, 0, 0, 0, 0, 0, 0, 0, 0] : List Int)) == (0 : Int)) = true), (((invE ([1, 0, 0, 0, 0, 0, 0, 0, 0, 0, 0, 0, 0, 0, 0, 0, 0, 0, 0, 0, 0, 0, 0, 0, 0, 0, 0, 0, 0, 0, 0, 0] : List Int)) == (0 : Int)) = true), (((invE ([1, 0, 0, 0, 0, 0, 0, 0, 0, 0, 0, 0, 0, 0, 0, 0, 0, 0, 0, 0, 0, 0, 0, 0, 0, 0, 0, 0, 0, 0, 0, 0] : List Int)) == (0 : Int)) = true), ((decide ((mulP ([3, 0, 0, 0, 0, 0, 0, 0, 0, 0, 0, 0, 0, 0, 0, 0, 0, 0, 0, 0, 0, 0, 0, 0, 0, 0, 0, 0, 0, 0, 0, 0] : List Int) ([5, 0, 0, 0, 0, 0, 0, 0, 0, 0, 0, 0, 0, 0, 0, 0, 0, 0, 0, 0, 0, 0, 0, 0, 0, 0, 0, 0, 0, 0, 0, 0] : List Int)) = ([15, 0, 0, 0, 0, 0, 0, 0, 0, 0, 0, 0, 0, 0, 0, 0, 0, 0, 0, 0, 0, 0, 0, 0, 0, 0, 0, 0, 0, 0, 0, 0] : List Int))) = true), ((decide ((mulP ([3, 0, 0, 0, 0, 0, 0, 0, 0, 0, 0, 0, 0, 0, 0, 0, 0, 0, 0, 0, 0, 0, 0, 0, 0, 0, 0, 0, 0, 0, 0, 0] : List Int) ([5, 0, 0, 0, 0, 0, 0, 0, 0, 0, 0, 0, 0, 0, 0, 0, 0, 0, 0, 0, 0, 0, 0, 0, 0, 0, 0, 0, 0, 0, 0, 0] : List Int)) = ([15, 0, 0, 0, 0, 0, 0, 0, 0, 0, 0, 0, 0, 0, 0, 0, 0, 0, 0, 0, 0, 0, 0, 0, 0, 0, 0, 0, 0, 0, 0, 0] : List Int))) = true), ((decide ((mulP ([3, 0, 0, 0, 0, 0, 0, 0, 0, 0, 0, 0, 0, 0, 0, 0, 0, 0, 0, 0, 0, 0, 0, 0, 0, 0, 0, 0, 0, 0, 0, 0] : List Int) ([5, 0, 0, 0, 0, 0, 0, 0, 0, 0, 0, 0, 0, 0, 0, 0, 0, 0, 0, 0, 0, 0, 0, 0, 0, 0, 0, 0, 0, 0, 0, 0] : List Int)) = ([15, 0, 0, 0, 0, 0, 0, 0, 0, 0, 0, 0, 0, 0, 0, 0, 0, 0, 0, 0, 0, 0, 0, 0, 0, 0, 0, 0, 0, 0, 0, 0] : List Int))) = true), ((decide ((mulP ([3, 0, 0, 0, 0, 0, 0, 0, 0, 0, 0, 0, 0, 0, 0, 0, 0, 0, 0, 0, 0, 0, 0, 0, 0, 0, 0, 0, 0, 0, 0, 0] : List Int) ([5, 0, 0, 0, 0, 0, 0, 0, 0, 0, 0, 0, 0, 0, 0, 0, 0, 0, 0, 0, 0, 0, 0, 0, 0, 0, 0, 0, 0, 0, 0, 0] : List Int)) = ([15, 0, 0, 0, 0, 0, 0, 0, 0, 0, 0, 0, 0, 0, 0, 0, 0, 0, 0, 0, 0, 0, 0, 0, 0, 0, 0, 0, 0, 0, 0, 0] : List Int))) = true), ((Byt ([3, 0, 0, 0, 0, 0, 0, 0, 0, 0, 0, 0, 0, 0, 0, 0, 0, 0, 0, 0, 0, 0, 0, 0, 0, 0, 0, 0, 0, 0, 0, 0] : List Int)) ∧ (Byt ([5, 0, 0, 0, 0, 0, 0, 0, 0, 0, 0, 0, 0, 0, 0, 0, 0, 0, 0, 0, 0, 0, 0, 0, 0, 0, 0, 0, 0, 0, 0, 0] : List Int))), ((True ∧ True) ∧ ((Byt (sub (List.replicate (32 : Nat) (0 : Int)) (0 : Nat) (32 : Nat))) ∧ ((canP (sub (List.replicate (32 : Nat) (0 : Int)) (0 : Nat) (32 : Nat))) = true))), (((0 : Int) ≤ (32 : Int)) ∧ ((32 : Int) ≤ (32 : Int)) ∧ ((32 : Int) ≤ (281474976710656 : Int))), (Byt ([0, 0, 0, 0, 0, 0, 0, 0, 0, 0, 0, 0, 0, 0, 0, 0, 0, 0, 0, 0, 0, 0, 0, 0, 0, 0, 0, 0, 0, 0, 0, 0] : List Int)), (Byt ([1, 0, 0, 0, 0, 0, 0, 0, 0, 0, 0, 0, 0, 0, 0, 0, 0, 0, 0, 0, 0, 0, 0, 0, 0, 0, 0, 0, 0, 0, 0, 0] : List Int))]) (by kernel_rfl)
    (AllP_cons ((congrArg (fun z => AV.o (.a (.b z))) (by decide +kernel))) (AllP_cons (by decide +kernel) (AllP_cons (by decide +kernel) (AllP_cons (by decide +kernel) (AllP_cons ⟨(byt_small (by decide +kernel)), (byt_small (by decide +kernel))⟩ (AllP_cons (by decide +kernel) (AllP_cons (by decide +kernel) (AllP_cons (byt_small (by decide +kernel)) (AllP_cons (by decide +kernel) (AllP_cons (by decide +kernel) (AllP_cons rfl (AllP_cons rfl (AllP_cons rfl (AllP_cons rfl (AllP_cons (by decide +kernel) (AllP_cons (by decide +kernel) (AllP_cons (by decide +kernel) (AllP_cons (by decide +kernel) (AllP_cons (by decide +kernel) (AllP_cons (by decide +kernel) (AllP_cons (by decide +kernel) (AllP_cons (by decide +kernel) (AllP_cons (by decide +kernel) (AllP_cons (by decide +kernel) (AllP_cons (by decide +kernel) (AllP_cons (by decide +kernel) (AllP_cons (by decide +kernel) (AllP_cons (by decide +kernel) (AllP_cons (by decide +kernel) (AllP_cons (by decide +kernel) (AllP_cons ⟨(byt_small (by decide +kernel)), (byt_small (by decide +kernel))⟩ (AllP_cons ⟨⟨trivial, trivial⟩, ⟨(byt_small (by decide +kernel)), (by decide +kernel)⟩⟩ (AllP_cons ⟨(by decide), (by decide), (by decide)⟩ (AllP_cons (byt_small (by decide +kernel)) (AllP_cons (byt_small (by decide +kernel)) (AllP_nil))))))))))))))))))))))))))))))))))))

theorem works_body (w : World) : Body Try.prog (tabOf tabOV) Try.f25 ⟨w, [], 0, noEnv⟩ (toA []) [] (fun ys _ => ys = [.a (.b true)]) :=
  Body.lens (c := (Try.f25.body.getD .skip)) rfl fun h => works_body0  w

theorem works_pure : PureC Try.prog 25 [] [.a (.b true)] :=
  PureC.of_body tabOkOV Try.func25 rfl rfl fun w => works_body w

def gam42 : Gam := gpure 25 (fun args => match args with | [] => some (none, [.a (.b true)]) | _ => none) gam41
theorem gam42_ok : GamOk Try.prog gam42 := gpure_ok gam41_ok Try.call25 (by
  intro args vc xs h hv
  split at h
  · simp only [Option.some.injEq, Prod.mk.injEq] at h; obtain ⟨rfl, rfl⟩ := h; exact ⟨_, by rfl, works_pure⟩
  · simp at h)

end Go.Proofs.Ytcpoldghkiiggaa.X

/- Primes: Fermat's little theorem, and Pocklington's test. -/
namespace Go.Proofs.Ytcpoldghkiiggaa.X
set_option linter.unusedVariables false

end Go.Proofs.Ytcpoldghkiiggaa.X

/- The order of the group is a prime number. -/
namespace Go.Proofs.Ytcpoldghkiiggaa.X
set_option linter.unusedVariables false
set_option maxRecDepth 100000

end Go.Proofs.Ytcpoldghkiiggaa.X

/- Powers, as numbers. -/
namespace Go.Proofs.Ytcpoldghkiiggaa.X
open Go Go.Proofs
set_option linter.unusedVariables false
set_option maxRecDepth 100000

theorem montR (u v : Int) : montV (modL (u * 115792089237316195423570985008687907853269984665640564039457584007913129639936)) (modL (v * 115792089237316195423570985008687907853269984665640564039457584007913129639936)) = modL (u * v * 115792089237316195423570985008687907853269984665640564039457584007913129639936) := by
  have e : montV (modL (u * 115792089237316195423570985008687907853269984665640564039457584007913129639936)) (modL (v * 115792089237316195423570985008687907853269984665640564039457584007913129639936)) = modL ((u * 115792089237316195423570985008687907853269984665640564039457584007913129639936) * (v * 115792089237316195423570985008687907853269984665640564039457584007913129639936) * RI) := by
    show modL (modL _ * modL _ * RI) = _
    generalize (u * 115792089237316195423570985008687907853269984665640564039457584007913129639936) = x
    generalize (v * 115792089237316195423570985008687907853269984665640564039457584007913129639936) = y
    rw [← modL_mul (modL x * modL y), modL_mul x y, modL_mul]
  rw [e]
  have h : (115792089237316195423570985008687907853269984665640564039457584007913129639936 : Int) * RI = 1 + LL * 71336056475231800826343715077027849978041630819377026201054086228062141447707 := by decide +kernel
  have e2 : (u * 115792089237316195423570985008687907853269984665640564039457584007913129639936) * (v * 115792089237316195423570985008687907853269984665640564039457584007913129639936) * RI = u * v * 115792089237316195423570985008687907853269984665640564039457584007913129639936 + LL * (u * v * 115792089237316195423570985008687907853269984665640564039457584007913129639936 * 71336056475231800826343715077027849978041630819377026201054086228062141447707) := by
    have a1 : (u * 115792089237316195423570985008687907853269984665640564039457584007913129639936) * (v * 115792089237316195423570985008687907853269984665640564039457584007913129639936) = u * v * 115792089237316195423570985008687907853269984665640564039457584007913129639936 * 115792089237316195423570985008687907853269984665640564039457584007913129639936 := by
      rw [Int.mul_assoc u, Int.mul_left_comm _ v, ← Int.mul_assoc u v, ← Int.mul_assoc]
    rw [a1, Int.mul_assoc _ _ RI, h, Int.mul_add, Int.mul_one, Int.mul_left_comm]
  rw [e2]
  unfold modL
  rw [Int.add_mul_emod_self_left]

theorem shr64 {x : Int} {s : Nat} (hs : s ≤ 64) : shr .u64 x ((s : Nat) : Int) = x / 2 ^ s := by
  have e2 : shr .u64 x ((s : Nat) : Int) = x.fdiv (2 ^ (min s 64)) := rfl
  rw [e2, Nat.min_eq_left hs, Int.fdiv_eq_ediv_of_nonneg _ (Int.le_of_lt (Int.pow_pos (by omega)))]
theorem bit_and64 (y : Int) : bits2 .and .u64 y 1 = y % 2 := by
  have e : bits2 .and .u64 y 1 = IntKind.u64.wrap (((BitVec.ofInt 64 y &&& BitVec.ofInt 64 1).toNat : Nat) : Int) := rfl
  have t2 : (BitVec.ofInt 64 1).toNat = 2 ^ 1 - 1 := by rfl
  rw [e, BitVec.toNat_and, t2, Nat.and_two_pow_sub_one_eq_mod, BitVec.toNat_ofInt, wrap64]
  show (((y % 18446744073709551616).toNat % 2 ^ 1 : Nat) : Int) % 18446744073709551616 = y % 2
  omega
/-- the bit s of a digit, in the number of the digits -/
theorem bit_of {w r : Int} {s d : Nat} (hs : s < d) : (w + 2 ^ d * r) / 2 ^ s % 2 = w / 2 ^ s % 2 := by
  obtain ⟨c, rfl⟩ : ∃ c, d = s + (c + 1) := ⟨d - s - 1, by omega⟩
  have e : w + 2 ^ (s + (c + 1)) * r = w + 2 ^ s * (2 ^ (c + 1) * r) := by rw [Int.pow_add, Int.mul_assoc]
  rw [e, Int.add_mul_ediv_left _ _ (Int.ne_of_gt (Int.pow_pos (by omega))), Int.pow_succ, Int.mul_comm (2 ^ c), Int.mul_assoc, Int.add_mul_emod_self_left]

theorem bitE_eq {E : List Int} (hE : Wds E) (l : E.length = 4) {k : Nat} (hk : k < 256) : bitE E k = V4 E / 2 ^ (255 - k) % 2 := by
  obtain ⟨a, b, c, d, rfl⟩ := four l
  have ha := hE a (by simp); have hb := hE b (by simp); have hc := hE c (by simp); have hd := hE d (by simp)
  unfold bitE
  rw [(qt hk).1, Int.tdiv_eq_ediv_of_nonneg (by omega), Int.tmod_eq_emod_of_nonneg (by omega)]
  rw [show ((255 : Int) - ((k : Nat) : Int)) / 64 = (((255 - k) / 64 : Nat) : Int) by omega, show ((255 : Int) - ((k : Nat) : Int)) % 64 = (((255 - k) % 64 : Nat) : Int) by omega, Int.toNat_natCast]
  generalize hj : 255 - k = j
  have hjl : j < 256 := by omega
  clear hj hk k
  rw [bit_and64, shr64 (by omega)]
  obtain ⟨i, s, hs, hi, rfl⟩ : ∃ i s, s < 64 ∧ i < 4 ∧ j = 64 * i + s := ⟨j / 64, j % 64, by omega, by omega, by omega⟩
  rw [show (64 * i + s) / 64 = i by omega, show (64 * i + s) % 64 = s by omega, Int.pow_add, ← dd2 _ (Int.le_of_lt (Int.pow_pos (by omega)))]
  match i, hi with
  | 0, _ =>
    have e : V4 [a, b, c, d] / 2 ^ (64 * 0) = a + 2 ^ 64 * (b + 18446744073709551616 * c + 340282366920938463463374607431768211456 * d) := by
      show (a + 18446744073709551616 * b + 340282366920938463463374607431768211456 * c + 6277101735386680763835789423207666416102355444464034512896 * d) / 1 = a + 18446744073709551616 * _
      omega
    rw [e, bit_of hs]; rfl
  | 1, _ =>
    have e : V4 [a, b, c, d] / 2 ^ (64 * 1) = b + 2 ^ 64 * (c + 18446744073709551616 * d) := by
      show (a + 18446744073709551616 * b + 340282366920938463463374607431768211456 * c + 6277101735386680763835789423207666416102355444464034512896 * d) / 18446744073709551616 = b + 18446744073709551616 * _
      omega
    rw [e, bit_of hs]; rfl
  | 2, _ =>
    have e : V4 [a, b, c, d] / 2 ^ (64 * 2) = c + 2 ^ 64 * d := by
      show (a + 18446744073709551616 * b + 340282366920938463463374607431768211456 * c + 6277101735386680763835789423207666416102355444464034512896 * d) / 340282366920938463463374607431768211456 = c + 18446744073709551616 * _
      omega
    rw [e, bit_of hs]; rfl
  | 3, _ =>
    have e : V4 [a, b, c, d] / 2 ^ (64 * 3) = d + 2 ^ 64 * 0 := by
      show (a + 18446744073709551616 * b + 340282366920938463463374607431768211456 * c + 6277101735386680763835789423207666416102355444464034512896 * d) / 6277101735386680763835789423207666416102355444464034512896 = d + 18446744073709551616 * 0
      omega
    rw [e, bit_of hs]; rfl

theorem modL_pow (x : Int) : ∀ n : Nat, modL (modL x ^ n) = modL (x ^ n)
  | 0 => by rw [Int.pow_zero, Int.pow_zero]
  | n + 1 => by rw [Int.pow_succ, Int.pow_succ, ← modL_mul, modL_pow x n, ← modL_mul (x ^ n) x, show modL (modL x) = modL x from Int.emod_emod_of_dvd _ (Int.dvd_refl LL)]

/-- one round of squaring -/
def sqr (x : Int) (n : Nat) : Int := modL (x ^ n * 115792089237316195423570985008687907853269984665640564039457584007913129639936)
theorem sqr_sq (x : Int) (n : Nat) : montV (sqr x n) (sqr x n) = sqr x (2 * n) := by
  unfold sqr; rw [montR, ← Int.pow_add, show 2 * n = n + n by omega]
theorem sqr_mul (x : Int) (n : Nat) : montV (sqr x n) (modL (x * 115792089237316195423570985008687907853269984665640564039457584007913129639936)) = sqr x (n + 1) := by
  unfold sqr; rw [montR, Int.pow_succ]
theorem sqr_V (x : Int) (n : Nat) : V4 (W4 (sqr x n)) = sqr x n := V4_modL _
theorem half_pow (n k : Nat) (hk : k < 256) : n / 2 ^ (256 - (k + 1)) = 2 * (n / 2 ^ (256 - k)) + n / 2 ^ (256 - (k + 1)) % 2 := by
  rw [show 256 - k = (256 - (k + 1)) + 1 by omega, Nat.pow_succ, ← Nat.div_div_eq_div_mul]
  omega
theorem rP_eq {E : List Int} (hE : Wds E) (l : E.length = 4) (x : Int) {n : Nat} (hn : V4 E = ((n : Nat) : Int)) : ∀ k, k ≤ 256 → rP (modL (x * 115792089237316195423570985008687907853269984665640564039457584007913129639936)) (sqr x 0) E k = sqr x (n / 2 ^ (256 - k))
  | 0, _ => by
    have hr := (V4_rng hE l).2
    rw [hn] at hr
    have : n < 2 ^ 256 := by
      have e : (2 : Nat) ^ 256 = 115792089237316195423570985008687907853269984665640564039457584007913129639936 := by decide +kernel
      omega
    rw [Nat.div_eq_of_lt this]; rfl
  | k + 1, hk => by
    have ih := rP_eq hE l x hn k (by omega)
    have hb := bitE_eq hE l (show k < 256 by omega)
    have hb2 : bitE E k = ((n / 2 ^ (256 - (k + 1)) % 2 : Nat) : Int) := by
      rw [hb, hn, show 255 - k = 256 - (k + 1) by omega, Int.natCast_emod, Int.natCast_ediv, Int.natCast_pow]; rfl
    have hp := half_pow n k (by omega)
    by_cases hc : bitE E k = 1
    · rw [rP_a hc, ih, sqr_V, sqr_sq, sqr_V, V4_modL, sqr_mul]
      rw [hb2] at hc
      rw [hp]; congr 2; omega
    · rw [rP_b hc, ih, sqr_V, sqr_sq]
      rw [hb2] at hc
      rw [hp]; congr 1; omega

theorem montI (x : Int) : montV x 1627715501170711445284395025044413883736156588369414752970002579683115011841 = modL (x * 115792089237316195423570985008687907853269984665640564039457584007913129639936) := by
  have h : (1627715501170711445284395025044413883736156588369414752970002579683115011841 : Int) * RI = 115792089237316195423570985008687907853269984665640564039457584007913129639936 + LL * (1627715501170711445284395025044413883736156588369414752970002579683115011841 * RI / LL - 115792089237316195423570985008687907853269984665640564039457584007913129639936 / LL) := by decide +kernel
  show x * _ * RI % LL = _
  rw [Int.mul_assoc, h, Int.mul_add, Int.mul_left_comm, Int.add_mul_emod_self_left]; rfl
theorem mont1 (x : Int) : montV (modL (x * 115792089237316195423570985008687907853269984665640564039457584007913129639936)) 1 = modL x := by
  have h : (115792089237316195423570985008687907853269984665640564039457584007913129639936 : Int) * RI = 1 + LL * 71336056475231800826343715077027849978041630819377026201054086228062141447707 := by decide +kernel
  show modL (modL _ * 1 * RI) = _
  rw [Int.mul_one, ← modL_mul, show ∀ y, modL (modL y) = modL y from fun y => Int.emod_emod_of_dvd _ (Int.dvd_refl LL), modL_mul, Int.mul_assoc, h, Int.mul_add, Int.mul_one, Int.mul_left_comm]
  unfold modL
  rw [Int.add_mul_emod_self_left]
theorem V4_one : V4 [1, 0, 0, 0] = 1 := by decide +kernel
theorem pow_num {E : List Int} (hE : Wds E) (l : E.length = 4) {x : Int} (h0 : 0 ≤ x) (h1 : x < LL) {n : Nat} (hn : V4 E = ((n : Nat) : Int)) : powA (W4 x) E = W4 (modL (x ^ n)) := by
  unfold powA
  rw [V4_radx, V4_one, montI, montI, V4_W4 h0 (by unfold LL at h1; omega)]
  have e : modL (1 * 115792089237316195423570985008687907853269984665640564039457584007913129639936) = sqr x 0 := by unfold sqr; rw [Int.pow_zero]
  rw [e, rP_eq hE l x hn 256 (Nat.le_refl _), sqr_V, Nat.sub_self, Nat.pow_zero, Nat.div_one]
  unfold sqr
  rw [mont1]
def eInv : Nat := LL.toNat - 2
theorem V4_inv : V4 (W4 (difR (V4 [6346243789798364141, 1503914060200516822, 0, 1152921504606846976]) (V4 [2, 0, 0, 0]))) = ((eInv : Nat) : Int) := by decide +kernel
theorem invB_num (a : List Int) : invB a = B32 (modL (BV a ^ eInv)) := by
  unfold invB
  rw [pow_num (wds_W4 _) rfl (modL_rng (BV a)).1 (modL_rng (BV a)).2.1 V4_inv, V4_modL, modL_pow]
theorem inv_zero {a : List Int} : W4 (modL (BV a)) = [0, 0, 0, 0] ↔ modL (BV a) = 0 := W4_zero (modL_rng _).1 (modL_rng _).2.2
end Go.Proofs.Ytcpoldghkiiggaa.X

/- The scalars' functions, by numbers. -/
namespace Go.Proofs.Ytcpoldghkiiggaa.X
open Go Go.Proofs
set_option linter.unusedVariables false
set_option maxRecDepth 100000

theorem addP_num (a b : List Int) (h0 : Byt a) (h1 : Byt b) (w : World) : Body Try.prog (tabOf tabNT) Try.f26 ⟨w, [], 0, noEnv⟩ (toA [.g [.ints .u8 (32 : Nat) a], .g [.ints .u8 (32 : Nat) b]]) [] (fun ys _ => ys = [.g [.ints .u8 (32 : Nat) (B32 (modL (BV a + BV b)))]]) := addP_eq a b ▸ addP_body a b h0 h1 w
theorem negP_num (a : List Int) (h0 : Byt a) (w : World) : Body Try.prog (tabOf tabNT) Try.f30 ⟨w, [], 0, noEnv⟩ (toA [.g [.ints .u8 (32 : Nat) a]]) [] (fun ys _ => ys = [.g [.ints .u8 (32 : Nat) (B32 (modL (negI (BV a))))]]) := negP_eq a ▸ negP_body a h0 w
theorem mulP_num (a b : List Int) (h0 : Byt a) (h1 : Byt b) (w : World) : Body Try.prog (tabOf tabNT) Try.f32 ⟨w, [], 0, noEnv⟩ (toA [.g [.ints .u8 (32 : Nat) a], .g [.ints .u8 (32 : Nat) b]]) [] (fun ys _ => ys = [.g [.ints .u8 (32 : Nat) (B32 (modL (BV a * BV b)))]]) := mulP_eq a b ▸ mulP_body a b h0 h1 w
theorem canP_eq {a : List Int} (h : Byt a) : canP a = decide (BV a < LL) := by
  have r := BV_rng h
  unfold canP lessC
  rw [V4_W4 r.1 r.2, V4_ord]
  by_cases hc : BV a < LL <;> simp [hc]
theorem canP_num (a : List Int) (h0 : Byt a) (w : World) : Body Try.prog (tabOf tabNT) Try.f20 ⟨w, [], 0, noEnv⟩ (toA [.g [.ints .u8 (32 : Nat) a]]) [] (fun ys _ => ys = [.a (.b (decide (BV a < LL)))]) := by
  rw [← canP_eq h0]; exact canP_body a h0 w
def invN (x : Int) : Int := if modL x = 0 then 0 else modL (x ^ eInv)
def invE1 (x : Int) : Int := if modL x = 0 then 9 else 0
theorem invL_num (a : List Int) : invL a = B32 (invN (BV a)) := by
  unfold invL invN
  by_cases h : modL (BV a) = 0
  · rw [if_pos (inv_zero.2 h), if_pos h, B32_0]
  · rw [if_neg (fun hc => h (inv_zero.1 hc)), if_neg h, invB_num]
theorem invE_num (a : List Int) : invE a = invE1 (BV a) := by
  unfold invE invE1
  by_cases h : modL (BV a) = 0
  · rw [if_pos (inv_zero.2 h), if_pos h]
  · rw [if_neg (fun hc => h (inv_zero.1 hc)), if_neg h]
theorem inv_num (a : List Int) (h0 : Byt a) (w : World) : Body Try.prog (tabOf tabOS) Try.f40 ⟨w, [], 0, noEnv⟩ (toA [.g [.ints .u8 (32 : Nat) a]]) [] (fun ys _ => ys = [.g [.ints .u8 (32 : Nat) (B32 (invN (BV a)))], .a (.i .i64 (invE1 (BV a)))]) :=
  invL_num a ▸ invE_num a ▸ inv_can a h0 w
/-! the reference -/
end Go.Proofs.Ytcpoldghkiiggaa.X

/- Texts of this session, put together (part 3). -/
/- Printed by a tool of this session. -/
namespace Go.Proofs.Ytcpoldghkiiggaa.X
open Go Go.Proofs
set_option linter.unusedVariables false
set_option linter.unusedSimpArgs false
set_option maxRecDepth 100000
theorem addP_num_pure (a : List Int) (b : List Int) (h0 : (Byt a)) (h1 : (Byt b)) : PureC Try.prog 26 [.g [.ints .u8 (32 : Nat) a], .g [.ints .u8 (32 : Nat) b]] [.g [.ints .u8 (32 : Nat) (B32 (modL ((BV a) + (BV b))))]] :=
  PureC.of_body tabOkNT Try.func26 rfl rfl fun w => addP_num a b h0 h1 w

def gam43 : Gam := gpure 26 (fun args => match args with | [.o (.g [.ints .u8 (32 : Nat) a]), .o (.g [.ints .u8 (32 : Nat) b])] => some (some ((Byt a) ∧ (Byt b)), [.g [.ints .u8 (32 : Nat) (B32 (modL ((BV a) + (BV b))))]]) | _ => none) gam42
theorem gam43_ok : GamOk Try.prog gam43 := gpure_ok gam42_ok Try.call26 (by
  intro args vc xs h hv
  split at h
  · simp only [Option.some.injEq, Prod.mk.injEq] at h; obtain ⟨rfl, rfl⟩ := h; exact ⟨_, by rfl, addP_num_pure _ _ hv.1 hv.2⟩
  · simp at h)

theorem negP_num_pure (a : List Int) (h0 : (Byt a)) : PureC Try.prog 30 [.g [.ints .u8 (32 : Nat) a]] [.g [.ints .u8 (32 : Nat) (B32 (modL (negI (BV a))))]] :=
  PureC.of_body tabOkNT Try.func30 rfl rfl fun w => negP_num a h0 w

def gam45 : Gam := gpure 30 (fun args => match args with | [.o (.g [.ints .u8 (32 : Nat) a])] => some (some ((Byt a)), [.g [.ints .u8 (32 : Nat) (B32 (modL (negI (BV a))))]]) | _ => none) gam43
theorem gam45_ok : GamOk Try.prog gam45 := gpure_ok gam43_ok Try.call30 (by
  intro args vc xs h hv
  split at h
  · simp only [Option.some.injEq, Prod.mk.injEq] at h; obtain ⟨rfl, rfl⟩ := h; exact ⟨_, by rfl, negP_num_pure _ hv⟩
  · simp at h)

theorem mulP_num_pure (a : List Int) (b : List Int) (h0 : (Byt a)) (h1 : (Byt b)) : PureC Try.prog 32 [.g [.ints .u8 (32 : Nat) a], .g [.ints .u8 (32 : Nat) b]] [.g [.ints .u8 (32 : Nat) (B32 (modL ((BV a) * (BV b))))]] :=
  PureC.of_body tabOkNT Try.func32 rfl rfl fun w => mulP_num a b h0 h1 w

def gam46 : Gam := gpure 32 (fun args => match args with | [.o (.g [.ints .u8 (32 : Nat) a]), .o (.g [.ints .u8 (32 : Nat) b])] => some (some ((Byt a) ∧ (Byt b)), [.g [.ints .u8 (32 : Nat) (B32 (modL ((BV a) * (BV b))))]]) | _ => none) gam45
theorem gam46_ok : GamOk Try.prog gam46 := gpure_ok gam45_ok Try.call32 (by
  intro args vc xs h hv
  split at h
  · simp only [Option.some.injEq, Prod.mk.injEq] at h; obtain ⟨rfl, rfl⟩ := h; exact ⟨_, by rfl, mulP_num_pure _ _ hv.1 hv.2⟩
  · simp at h)

theorem canP_num_pure (a : List Int) (h0 : (Byt a)) : PureC Try.prog 20 [.g [.ints .u8 (32 : Nat) a]] [.a (.b (decide ((BV a) < (LL))))] :=
  PureC.of_body tabOkNT Try.func20 rfl rfl fun w => canP_num a h0 w

def gam49 : Gam := gpure 20 (fun args => match args with | [.o (.g [.ints .u8 (32 : Nat) a])] => some (some ((Byt a)), [.a (.b (decide ((BV a) < (LL))))]) | _ => none) gam46
theorem gam49_ok : GamOk Try.prog gam49 := gpure_ok gam46_ok Try.call20 (by
  intro args vc xs h hv
  split at h
  · simp only [Option.some.injEq, Prod.mk.injEq] at h; obtain ⟨rfl, rfl⟩ := h; exact ⟨_, by rfl, canP_num_pure _ hv⟩
  · simp at h)

theorem inv_num_pure (a : List Int) (h0 : (Byt a)) : PureC Try.prog 40 [.g [.ints .u8 (32 : Nat) a]] [.g [.ints .u8 (32 : Nat) (B32 (invN (BV a)))], .a (.i .i64 (invE1 (BV a)))] :=
  PureC.of_body tabOkOS Try.func40 rfl rfl fun w => inv_num a h0 w

def gam51 : Gam := gpure 40 (fun args => match args with | [.o (.g [.ints .u8 (32 : Nat) a])] => some (some ((Byt a)), [.g [.ints .u8 (32 : Nat) (B32 (invN (BV a)))], .a (.i .i64 (invE1 (BV a)))]) | _ => none) gam49
theorem gam51_ok : GamOk Try.prog gam51 := gpure_ok gam49_ok Try.call40 (by
  intro args vc xs h hv
  split at h
  · simp only [Option.some.injEq, Prod.mk.injEq] at h; obtain ⟨rfl, rfl⟩ := h; exact ⟨_, by rfl, inv_num_pure _ hv⟩
  · simp at h)

end Go.Proofs.Ytcpoldghkiiggaa.X

/- Sums and products modulo the order: what the laws of a field come down to. -/
namespace Go.Proofs.Ytcpoldghkiiggaa.X
open Go Go.Proofs
set_option linter.unusedVariables false
set_option maxRecDepth 100000

end Go.Proofs.Ytcpoldghkiiggaa.X

/- Power of the reference, as a number; squares. -/
namespace Go.Proofs.Ytcpoldghkiiggaa.X
open Go Go.Proofs
set_option linter.unusedVariables false
set_option maxRecDepth 100000

def powW (S E : List Int) : Int := modL (V4 S ^ (V4 E).toNat)
theorem powW_eq {S E : List Int} (hE : Wds E) (l : E.length = 4) : powA S E = W4 (powW S E) := by
  have hn : V4 E = (((V4 E).toNat : Nat) : Int) := by have := (V4_rng hE l).1; omega
  unfold powA
  rw [V4_radx, V4_one, montI, montI]
  have e : modL (1 * 115792089237316195423570985008687907853269984665640564039457584007913129639936) = sqr (V4 S) 0 := by unfold sqr; rw [Int.pow_zero]
  rw [e, rP_eq hE l (V4 S) hn 256 (Nat.le_refl _), sqr_V, Nat.sub_self, Nat.pow_zero, Nat.div_one]
  unfold sqr powW
  rw [mont1]
theorem pow100_num (S E : List Int) (h0 : Wds S) (h1 : Wds E) (w : World) : Body Try.prog (tabOf tabOQ) Try.f100 ⟨w, [], 0, noEnv⟩ (toA [.g [.ints .u64 (4 : Nat) S], .g [.ints .u64 (4 : Nat) E]]) [] (fun ys _ => ys = [.g [.ints .u64 (4 : Nat) (W4 (powW S E))]]) :=
  Body.lens (c := (Try.f100.body.getD .skip)) rfl fun h => powW_eq (S := S) h1 (h.vals 1 _ _ _ rfl) ▸ powA_body S E h0 h1 w
end Go.Proofs.Ytcpoldghkiiggaa.X

/- Printed by a tool of this session. -/
namespace Go.Proofs.Ytcpoldghkiiggaa.X
open Go Go.Proofs
set_option linter.unusedVariables false
set_option linter.unusedSimpArgs false
set_option maxRecDepth 100000
theorem pow100_num_pure (S : List Int) (E : List Int) (h0 : (Wds S)) (h1 : (Wds E)) : PureC Try.prog 100 [.g [.ints .u64 (4 : Nat) S], .g [.ints .u64 (4 : Nat) E]] [.g [.ints .u64 (4 : Nat) (W4 (powW S E))]] :=
  PureC.of_body tabOkOQ Try.func100 rfl rfl fun w => pow100_num S E h0 h1 w

def gam58 : Gam := gpure 100 (fun args => match args with | [.o (.g [.ints .u64 (4 : Nat) S]), .o (.g [.ints .u64 (4 : Nat) E])] => some (some ((Wds S) ∧ (Wds E)), [.g [.ints .u64 (4 : Nat) (W4 (powW S E))]]) | _ => none) gam51
theorem gam58_ok : GamOk Try.prog gam58 := gpure_ok gam51_ok Try.call100 (by
  intro args vc xs h hv
  split at h
  · simp only [Option.some.injEq, Prod.mk.injEq] at h; obtain ⟨rfl, rfl⟩ := h; exact ⟨_, by rfl, pow100_num_pure _ _ hv.1 hv.2⟩
  · simp at h)

end Go.Proofs.Ytcpoldghkiiggaa.X

/- What Given lays down of bytes. -/
namespace Go.Proofs.Ytcpoldghkiiggaa.X
open Go Go.Proofs
set_option linter.unusedVariables false

theorem sub_all (l : List Int) (n : Nat) (h : l.length ≤ n) : sub l 0 n = l := by
  unfold sub; rw [List.drop_zero, List.take_of_length_le h]
end Go.Proofs.Ytcpoldghkiiggaa.X

/- Reduce, piece by piece. -/
namespace Go.Proofs.Ytcpoldghkiiggaa.X
open Go Go.Proofs
set_option linter.unusedVariables false
set_option maxRecDepth 100000

theorem dg_n {n : Nat} (h : n ≤ 140737488355328) : Int.toNat (IntKind.i64.wrap (Int.tdiv (IntKind.i64.wrap (((n : Nat) : Int) + (3 : Int))) (4 : Int))) = (n + 3) / 4 := by
  rw [wrapI (x := ((n : Nat) : Int) + 3) (by omega) (by omega), Int.tdiv_eq_ediv_of_nonneg (by omega), wrapI (by omega) (by omega)]
  omega
theorem dg_n2 {n : Nat} (h : n ≤ 140737488355328) : IntKind.i64.wrap (Int.tdiv (IntKind.i64.wrap (((n : Nat) : Int) + (3 : Int))) (4 : Int)) = (((n + 3) / 4 : Nat) : Int) := by
  rw [wrapI (x := ((n : Nat) : Int) + 3) (by omega) (by omega), Int.tdiv_eq_ediv_of_nonneg (by omega), wrapI (by omega) (by omega)]
  omega
theorem dg_i2 {k : Nat} (h : k ≤ 140737488355328) : IntKind.i64.wrap (Int.tdiv ((k : Nat) : Int) (4 : Int)) = ((k / 4 : Nat) : Int) := by
  rw [Int.tdiv_eq_ediv_of_nonneg (by omega), wrapI (by omega) (by omega)]
  omega
theorem tim_num (S T : List Int) (h0 : Wds S) (h1 : Wds T) (h2 : LtL T) (w : World) : Body Try.prog (tabOf tabNT) Try.f73 ⟨w, [], 0, noEnv⟩ (toA [.g [.ints .u64 (4 : Nat) S], .g [.ints .u64 (4 : Nat) T]]) [] (fun ys _ => ys = [.g [.ints .u64 (4 : Nat) (W4 (modL (V4 S * V4 T)))]]) := by
  have e : times S T = W4 (modL (V4 S * V4 T)) := by
    unfold times
    rw [V4_mont, V4_radx, times_eq]
  exact e ▸ times_body S T h0 h1 h2 w

theorem byt_sub {b : List Int} (h : Byt b) (c m : Nat) : Byt (sub b c m) := fun x hx => h x (List.mem_of_mem_drop (List.mem_of_mem_take hx))
end Go.Proofs.Ytcpoldghkiiggaa.X

/- Printed by a tool of this session. -/
namespace Go.Proofs.Ytcpoldghkiiggaa.X
open Go Go.Proofs
set_option linter.unusedVariables false
set_option linter.unusedSimpArgs false
set_option maxRecDepth 100000
theorem teQN_3 : TEOk Try.prog 3 ⟨.int .i64, 1, 8, [.i .i64 (0 : Int)], false⟩ :=
  TEOk.of Try.underlying3 (i := Try.t3) (by kernel_rfl) rfl rfl rfl (by kernel_rfl) (fun h => by cases h) (by kernel_rfl)
theorem teQN_5 : TEOk Try.prog 5 ⟨.int .u8, 1, 1, [.i .u8 (0 : Int)], false⟩ :=
  TEOk.of Try.underlying5 (i := Try.t5) (by kernel_rfl) rfl rfl rfl (by kernel_rfl) (fun h => by cases h) (by kernel_rfl)
theorem teQN_22 : TEOk Try.prog 22 ⟨.slice 5, 1, 24, [.raw (.slice none 0 0)], false⟩ :=
  TEOk.of Try.underlying22 (i := Try.t22) (by kernel_rfl) rfl rfl rfl (by kernel_rfl) (fun h => by cases h) (by kernel_rfl)
theorem teQN_24 : TEOk Try.prog 24 ⟨.array 32 5, 32, 32, [.ints .u8 (32 : Nat) ([0, 0, 0, 0, 0, 0, 0, 0, 0, 0, 0, 0, 0, 0, 0, 0, 0, 0, 0, 0, 0, 0, 0, 0, 0, 0, 0, 0, 0, 0, 0, 0] : List Int)], true⟩ :=
  TEOk.of Try.underlying24 (i := Try.t24) (by kernel_rfl) rfl rfl rfl (by kernel_rfl) (fun _ => Try.eqGuardType24) (by kernel_rfl)
theorem teQN_25 : TEOk Try.prog 25 ⟨.int .u64, 1, 8, [.i .u64 (0 : Int)], false⟩ :=
  TEOk.of Try.underlying25 (i := Try.t25) (by kernel_rfl) rfl rfl rfl (by kernel_rfl) (fun h => by cases h) (by kernel_rfl)
theorem teQN_62 : TEOk Try.prog 62 ⟨.int .u64, 1, 8, [.i .u64 (0 : Int)], false⟩ :=
  TEOk.of Try.underlying62 (i := Try.t62) (by kernel_rfl) rfl rfl rfl (by kernel_rfl) (fun h => by cases h) (by kernel_rfl)
theorem teQN_104 : TEOk Try.prog 104 ⟨.array 4 25, 4, 32, [.ints .u64 (4 : Nat) ([0, 0, 0, 0] : List Int)], true⟩ :=
  TEOk.of Try.underlying104 (i := Try.t104) (by kernel_rfl) rfl rfl rfl (by kernel_rfl) (fun _ => Try.eqGuardType104) (by kernel_rfl)
theorem teQN_109 : TEOk Try.prog 109 ⟨.int .u32, 1, 4, [.i .u32 (0 : Int)], false⟩ :=
  TEOk.of Try.underlying109 (i := Try.t109) (by kernel_rfl) rfl rfl rfl (by kernel_rfl) (fun h => by cases h) (by kernel_rfl)
theorem teQN_113 : TEOk Try.prog 113 ⟨.slice 109, 1, 24, [.raw (.slice none 0 0)], false⟩ :=
  TEOk.of Try.underlying113 (i := Try.t113) (by kernel_rfl) rfl rfl rfl (by kernel_rfl) (fun h => by cases h) (by kernel_rfl)
noncomputable def tabQN : List (Nat × TE) := [(3, ⟨.int .i64, 1, 8, [.i .i64 (0 : Int)], false⟩), (5, ⟨.int .u8, 1, 1, [.i .u8 (0 : Int)], false⟩), (22, ⟨.slice 5, 1, 24, [.raw (.slice none 0 0)], false⟩), (24, ⟨.array 32 5, 32, 32, [.ints .u8 (32 : Nat) ([0, 0, 0, 0, 0, 0, 0, 0, 0, 0, 0, 0, 0, 0, 0, 0, 0, 0, 0, 0, 0, 0, 0, 0, 0, 0, 0, 0, 0, 0, 0, 0] : List Int)], true⟩), (25, ⟨.int .u64, 1, 8, [.i .u64 (0 : Int)], false⟩), (62, ⟨.int .u64, 1, 8, [.i .u64 (0 : Int)], false⟩), (104, ⟨.array 4 25, 4, 32, [.ints .u64 (4 : Nat) ([0, 0, 0, 0] : List Int)], true⟩), (109, ⟨.int .u32, 1, 4, [.i .u32 (0 : Int)], false⟩), (113, ⟨.slice 109, 1, 24, [.raw (.slice none 0 0)], false⟩)]
theorem tabOkQN : TabOk Try.prog (tabOf tabQN) := (tabOf_cons teQN_3 (tabOf_cons teQN_5 (tabOf_cons teQN_22 (tabOf_cons teQN_24 (tabOf_cons teQN_25 (tabOf_cons teQN_62 (tabOf_cons teQN_104 (tabOf_cons teQN_109 (tabOf_cons teQN_113 tabOf_nil)))))))))

theorem tim_num_pure (S : List Int) (T : List Int) (h0 : (Wds S)) (h1 : (Wds T)) (h2 : (LtL T)) : PureC Try.prog 73 [.g [.ints .u64 (4 : Nat) S], .g [.ints .u64 (4 : Nat) T]] [.g [.ints .u64 (4 : Nat) (W4 (modL ((V4 S) * (V4 T))))]] :=
  PureC.of_body tabOkNT Try.func73 rfl rfl fun w => tim_num S T h0 h1 h2 w

def gam66 : Gam := gpure 73 (fun args => match args with | [.o (.g [.ints .u64 (4 : Nat) S]), .o (.g [.ints .u64 (4 : Nat) T])] => some (some ((Wds S) ∧ (Wds T) ∧ (LtL T)), [.g [.ints .u64 (4 : Nat) (W4 (modL ((V4 S) * (V4 T))))]]) | _ => none) gam58
theorem gam66_ok : GamOk Try.prog gam66 := gpure_ok gam58_ok Try.call73 (by
  intro args vc xs h hv
  split at h
  · simp only [Option.some.injEq, Prod.mk.injEq] at h; obtain ⟨rfl, rfl⟩ := h; exact ⟨_, by rfl, tim_num_pure _ _ hv.1 hv.2.1 hv.2.2⟩
  · simp at h)

def dgL_mk (n : Nat) (nm : Nat) (b : List Int) (cap0 : Nat) (k : Nat) (s : (List Int)) : St := ⟨sparse 37 [(0, .o (.a (.sl 0 (0 : Nat) n cap0))), (2, .o (.a (.raw (.slice none 0 0)))), (3, .o (.a (.sl 1 (0 : Nat) ((n + (3 : Nat)) / (4 : Nat)) ((n + (3 : Nat)) / (4 : Nat))))), (4, .o (.a (.i .i64 ((k : Nat) : Int)))), (5, .o (.a (.sl 0 (0 : Nat) n cap0))), (6, .o (.a (.i .i64 ((n : Nat) : Int)))), (7, .o (.a (.i .i64 (IntKind.i64.wrap (((n : Nat) : Int) + (3 : Int)))))), (8, .o (.a (.i .i64 (IntKind.i64.wrap (Int.tdiv (IntKind.i64.wrap (((n : Nat) : Int) + (3 : Int))) (4 : Int)))))), (9, .o (.a (.sl 1 (0 : Nat) (Int.toNat (IntKind.i64.wrap (Int.tdiv (IntKind.i64.wrap (((n : Nat) : Int) + (3 : Int))) (4 : Int)))) (Int.toNat (IntKind.i64.wrap (Int.tdiv (IntKind.i64.wrap (((n : Nat) : Int) + (3 : Int))) (4 : Int)))))))], [some ⟨false, [.ints .u8 nm b]⟩, some ⟨true, [.ints .u32 ((n + (3 : Nat)) / (4 : Nat)) s]⟩]⟩

def dgL_step (b : List Int) (k : Nat) (s : (List Int)) : (List Int) :=
  let z0 : Nat := (Int.toNat (IntKind.i64.wrap (Int.tdiv ((k : Nat) : Int) (4 : Int))))
  ((List.set s z0 (bits2 .or .u32 (List.getD s z0 0) (shl .u32 (IntKind.u32.wrap (List.getD b k 0)) (IntKind.u64.wrap (IntKind.i64.wrap ((8 : Int) * (Int.tmod ((k : Nat) : Int) (4 : Int)))))))))

set_option maxHeartbeats 1000000 in
theorem dgL_round (n : Nat) (nm : Nat) (b : List Int) (cap0 : Nat) (h0 : (nm = n)) (h1 : (n ≤ (140737488355328 : Nat))) (hc0 : n ≤ cap0) (hl0_0 : List.length b = nm) (w : World) (rw : List Nat) (β : Env) (k : Nat) (hk : k < n) (s : (List Int)) : Run Try.prog ⟨w, rw, 1, β⟩ (loopB Try.f78 0) (dgL_mk n nm b cap0 k s) (To ⟨w, rw, 1, β⟩ .normal (dgL_mk n nm b cap0 (k + 1) (dgL_step b k s))) := by
  have e0 : (IntKind.i64.wrap (((k : Nat) : Int) + (1 : Int))) = (((k + (1 : Nat)) : Nat) : Int) := (by first | rfl | exact wrap_succ (by omega) | omega | (simp (disch := omega) only [wrapI]; omega))
  have h := Run.of_outT (B := ⟨w, rw, 1, β⟩) (Λ := noLam) (Ψ := noPsi) (fuel := 0) (ora := [true]) (c := (loopB Try.f78 0)) (st := (dgL_mk n nm b cap0 k s)) (l := [.forget [0, 2, 3, 4, 5, 6, 7, 8, 9] 2]) (s' := ⟨sparse 37 [(0, .o (.a (.sl 0 (0 : Nat) n cap0))), (2, .o (.a (.raw (.slice none 0 0)))), (3, .o (.a (.sl 1 (0 : Nat) ((n + (3 : Nat)) / (4 : Nat)) ((n + (3 : Nat)) / (4 : Nat))))), (4, .o (.a (.i .i64 (IntKind.i64.wrap (((k : Nat) : Int) + (1 : Int)))))), (5, .o (.a (.sl 0 (0 : Nat) n cap0))), (6, .o (.a (.i .i64 ((n : Nat) : Int)))), (7, .o (.a (.i .i64 (IntKind.i64.wrap (((n : Nat) : Int) + (3 : Int)))))), (8, .o (.a (.i .i64 (IntKind.i64.wrap (Int.tdiv (IntKind.i64.wrap (((n : Nat) : Int) + (3 : Int))) (4 : Int)))))), (9, .o (.a (.sl 1 (0 : Nat) (Int.toNat (IntKind.i64.wrap (Int.tdiv (IntKind.i64.wrap (((n : Nat) : Int) + (3 : Int))) (4 : Int)))) (Int.toNat (IntKind.i64.wrap (Int.tdiv (IntKind.i64.wrap (((n : Nat) : Int) + (3 : Int))) (4 : Int)))))))], [some ⟨false, [.ints .u8 nm b]⟩, some ⟨true, [.ints .u32 ((n + (3 : Nat)) / (4 : Nat)) (dgL_step b k s)]⟩]⟩) (ex := .normal) mix tabOkQN gam66_ok
    (vc := [((Int.toNat (IntKind.i64.wrap (Int.tdiv ((k : Nat) : Int) (4 : Int)))) < ((n + (3 : Nat)) / (4 : Nat))), (((0 : Int) ≤ (IntKind.i64.wrap (Int.tdiv ((k : Nat) : Int) (4 : Int)))) ∧ ((IntKind.i64.wrap (Int.tdiv ((k : Nat) : Int) (4 : Int))) < ((((n + (3 : Nat)) / (4 : Nat)) : Nat) : Int))), ((0 : Int) ≤ (IntKind.u64.wrap (IntKind.i64.wrap ((8 : Int) * (Int.tmod ((k : Nat) : Int) (4 : Int)))))), ((4 : Int) ≠ 0), (k < nm), (((0 : Int) ≤ ((k : Nat) : Int)) ∧ (((k : Nat) : Int) < ((n : Nat) : Int))), ((Int.toNat (IntKind.i64.wrap (Int.tdiv ((k : Nat) : Int) (4 : Int)))) < ((n + (3 : Nat)) / (4 : Nat))), (((0 : Int) ≤ (IntKind.i64.wrap (Int.tdiv ((k : Nat) : Int) (4 : Int)))) ∧ ((IntKind.i64.wrap (Int.tdiv ((k : Nat) : Int) (4 : Int))) < ((((n + (3 : Nat)) / (4 : Nat)) : Nat) : Int))), ((4 : Int) ≠ 0), ((4 : Int) ≠ 0), ((decide (((k : Nat) : Int) < ((n : Nat) : Int))) = true)]) (by kernel_rfl)
    (AllP_cons (by first | omega | exact wrap_nn rfl | (have q := dg_i2 (k := k) (by omega); omega) | (simp (disch := omega) only [wrapI]; omega)) (AllP_cons ⟨(by first | omega | exact wrap_nn rfl | (have q := dg_i2 (k := k) (by omega); omega) | (simp (disch := omega) only [wrapI]; omega)), (by first | omega | exact wrap_nn rfl | (have q := dg_i2 (k := k) (by omega); omega) | (simp (disch := omega) only [wrapI]; omega))⟩ (AllP_cons (wrap_nn rfl) (AllP_cons (by decide) (AllP_cons (by first | omega | exact wrap_nn rfl | (have q := dg_i2 (k := k) (by omega); omega) | (simp (disch := omega) only [wrapI]; omega)) (AllP_cons ⟨(by first | omega | exact wrap_nn rfl | (have q := dg_i2 (k := k) (by omega); omega) | (simp (disch := omega) only [wrapI]; omega)), (by first | omega | exact wrap_nn rfl | (have q := dg_i2 (k := k) (by omega); omega) | (simp (disch := omega) only [wrapI]; omega))⟩ (AllP_cons (by first | omega | exact wrap_nn rfl | (have q := dg_i2 (k := k) (by omega); omega) | (simp (disch := omega) only [wrapI]; omega)) (AllP_cons ⟨(by first | omega | exact wrap_nn rfl | (have q := dg_i2 (k := k) (by omega); omega) | (simp (disch := omega) only [wrapI]; omega)), (by first | omega | exact wrap_nn rfl | (have q := dg_i2 (k := k) (by omega); omega) | (simp (disch := omega) only [wrapI]; omega))⟩ (AllP_cons (by decide) (AllP_cons (by decide) (AllP_cons (decide_eq_true (by first | omega | exact wrap_nn rfl | (have q := dg_i2 (k := k) (by omega); omega) | (simp (disch := omega) only [wrapI]; omega))) (AllP_nil))))))))))))
  rw [e0] at h
  exact h

set_option maxHeartbeats 1000000 in
theorem dgL_last (n : Nat) (nm : Nat) (b : List Int) (cap0 : Nat) (h0 : (nm = n)) (h1 : (n ≤ (140737488355328 : Nat))) (hc0 : n ≤ cap0) (hl0_0 : List.length b = nm) (w : World) (rw : List Nat) (β : Env) (s : (List Int)) : Run Try.prog ⟨w, rw, 1, β⟩ (loopB Try.f78 0) (dgL_mk n nm b cap0 n s) (To ⟨w, rw, 1, β⟩ (.exit 0) (dgL_mk n nm b cap0 n s)) :=
  Run.of_outT (B := ⟨w, rw, 1, β⟩) (Λ := noLam) (Ψ := noPsi) (fuel := 0) (ora := [false]) (l := [.forget [0, 2, 3, 4, 5, 6, 7, 8, 9] 2]) mix tabOkQN gam66_ok
    (vc := [((decide (((n : Nat) : Int) < ((n : Nat) : Int))) = false)]) (by kernel_rfl)
    (AllP_cons (decide_eq_false (by omega)) (AllP_nil))

theorem dgL_loop (n : Nat) (nm : Nat) (b : List Int) (cap0 : Nat) (h0 : (nm = n)) (h1 : (n ≤ (140737488355328 : Nat))) (hc0 : n ≤ cap0) (hl0_0 : List.length b = nm) (w : World) (rw : List Nat) (β : Env) (s : (List Int)) : Run Try.prog ⟨w, rw, 1, β⟩ (.block 0 (.loop (loopB Try.f78 0))) (dgL_mk n nm b cap0 0 s) (To ⟨w, rw, 1, β⟩ .normal (dgL_mk n nm b cap0 n (iter (dgL_step b) n s))) :=
  Run.count (fun k => dgL_mk n nm b cap0 k (iter (dgL_step b) k s)) n (fun k hk => dgL_round n nm b cap0 h0 h1 hc0 hl0_0 w rw β k hk _) (ex := (.exit 0)) (by simp) (dgL_last n nm b cap0 h0 h1 hc0 hl0_0 w rw β _)

def dgL_out0 (b : List Int) (n : Nat) (i0 : List Int) : List Int := (iter (dgL_step b) n (i0))

def dgN (n : Nat) : Nat :=
  ((n + (3 : Nat)) / (4 : Nat))

def dgN_1 (n : Nat) (b : List Int) : List Int :=
  (dgL_out0 b n (List.replicate ((n + (3 : Nat)) / (4 : Nat)) (0 : Int)))

set_option maxHeartbeats 1000000 in
theorem dgN_body0 (n : Nat) (nm : Nat) (b : List Int) (cap0 : Nat) (h0 : (nm = n)) (h1 : (n ≤ (140737488355328 : Nat))) (hc0 : n ≤ cap0) (hl0_0 : List.length b = nm) (w : World) (rw : List Nat) (β : Env) : Body Try.prog (tabOf tabQN) Try.f78 ⟨w, rw, 1, β⟩ [.o (.a (.sl 0 (0 : Nat) n cap0))] [some ⟨false, [.ints .u8 nm b]⟩] (fun ys K' => ys = [.a (.sl 1 (0 : Nat) (dgN n) (dgN n))] ∧ K' = [some ⟨false, [.ints .u8 nm b]⟩, some ⟨true, [.ints .u32 (dgN n) (dgN_1 n b)]⟩]) :=
  Body.of_finK (Γ := gam66) (Λ := lamOf [(0, ⟨[.forget [0, 2, 3, 4, 5, 6, 7, 8, 9] 2], .normal, (dgL_mk n nm b cap0 n (iter (dgL_step b) n ((List.replicate ((n + (3 : Nat)) / (4 : Nat)) (0 : Int)))))⟩)]) (Ψ := psiOf [(1, [.eqS 3 (.o (.a (.sl 1 (0 : Nat) ((n + (3 : Nat)) / (4 : Nat)) ((n + (3 : Nat)) / (4 : Nat))))), .eqB 1 (⟨true, [.ints .u32 ((n + (3 : Nat)) / (4 : Nat)) (List.replicate ((n + (3 : Nat)) / (4 : Nat)) (0 : Int))]⟩)])]) (fuel := 0) (m := 37) (c := (Try.f78.body.getD .skip)) mix tabOkQN gam66_ok rfl (rs := [.tmp 2]) rfl rfl [] [] 2
    (vc := [(Run Try.prog ⟨w, rw, 1, β⟩ (.block 0 (.loop (loopB Try.f78 0))) (dgL_mk n nm b cap0 0 ((List.replicate ((n + (3 : Nat)) / (4 : Nat)) (0 : Int)))) (To ⟨w, rw, 1, β⟩ .normal (dgL_mk n nm b cap0 n (iter (dgL_step b) n ((List.replicate ((n + (3 : Nat)) / (4 : Nat)) (0 : Int))))))), ((some ⟨true, [.ints .u32 (Int.toNat (IntKind.i64.wrap (Int.tdiv (IntKind.i64.wrap (((n : Nat) : Int) + (3 : Int))) (4 : Int)))) (List.replicate (Int.toNat (IntKind.i64.wrap (Int.tdiv (IntKind.i64.wrap (((n : Nat) : Int) + (3 : Int))) (4 : Int)))) (0 : Int))]⟩ : Option Blk) = some ⟨true, [.ints .u32 ((n + (3 : Nat)) / (4 : Nat)) (List.replicate ((n + (3 : Nat)) / (4 : Nat)) (0 : Int))]⟩), ((.o (.a (.sl 1 (0 : Nat) (Int.toNat (IntKind.i64.wrap (Int.tdiv (IntKind.i64.wrap (((n : Nat) : Int) + (3 : Int))) (4 : Int)))) (Int.toNat (IntKind.i64.wrap (Int.tdiv (IntKind.i64.wrap (((n : Nat) : Int) + (3 : Int))) (4 : Int)))))) : AV) = .o (.a (.sl 1 (0 : Nat) ((n + (3 : Nat)) / (4 : Nat)) ((n + (3 : Nat)) / (4 : Nat))))), (((0 : Int) ≤ (IntKind.i64.wrap (Int.tdiv (IntKind.i64.wrap (((n : Nat) : Int) + (3 : Int))) (4 : Int)))) ∧ ((IntKind.i64.wrap (Int.tdiv (IntKind.i64.wrap (((n : Nat) : Int) + (3 : Int))) (4 : Int))) ≤ (IntKind.i64.wrap (Int.tdiv (IntKind.i64.wrap (((n : Nat) : Int) + (3 : Int))) (4 : Int)))) ∧ (((IntKind.i64.wrap (Int.tdiv (IntKind.i64.wrap (((n : Nat) : Int) + (3 : Int))) (4 : Int))) * (4 : Int)) ≤ (281474976710656 : Int))), ((4 : Int) ≠ 0)]) (by kernel_rfl)
    (AllP_cons (dgL_loop n nm b cap0 h0 h1 hc0 hl0_0 w rw β ((List.replicate ((n + (3 : Nat)) / (4 : Nat)) (0 : Int)))) (AllP_cons ((by rw [show Int.toNat (IntKind.i64.wrap (Int.tdiv (IntKind.i64.wrap (((n : Nat) : Int) + (3 : Int))) (4 : Int))) = (n + 3) / 4 from dg_n h1])) (AllP_cons ((by rw [show Int.toNat (IntKind.i64.wrap (Int.tdiv (IntKind.i64.wrap (((n : Nat) : Int) + (3 : Int))) (4 : Int))) = (n + 3) / 4 from dg_n h1])) (AllP_cons ⟨(by first | decide | omega | (have q := dg_n2 h1; omega) | (simp (disch := omega) only [wrapI]; omega)), (by first | decide | omega | (have q := dg_n2 h1; omega) | (simp (disch := omega) only [wrapI]; omega)), (by first | decide | omega | (have q := dg_n2 h1; omega) | (simp (disch := omega) only [wrapI]; omega))⟩ (AllP_cons (by decide) (AllP_nil))))))

theorem dgN_body (n : Nat) (nm : Nat) (b : List Int) (cap0 : Nat) (h0 : (nm = n)) (h1 : (n ≤ (140737488355328 : Nat))) (w : World) (rw : List Nat) (β : Env) : Body Try.prog (tabOf tabQN) Try.f78 ⟨w, rw, 1, β⟩ [.o (.a (.sl 0 (0 : Nat) n cap0))] [some ⟨false, [.ints .u8 nm b]⟩] (fun ys K' => ys = [.a (.sl 1 (0 : Nat) (dgN n) (dgN n))] ∧ K' = [some ⟨false, [.ints .u8 nm b]⟩, some ⟨true, [.ints .u32 (dgN n) (dgN_1 n b)]⟩]) :=
  Body.lens (c := (Try.f78.body.getD .skip)) rfl fun h => dgN_body0 n nm b cap0 h0 h1 (h.caps 0 _ _ _ _ rfl) (h.lens 0 _ .u8 nm b rfl (by simp)) w rw β

end Go.Proofs.Ytcpoldghkiiggaa.X

/- Printed by a tool of this session. -/
namespace Go.Proofs.Ytcpoldghkiiggaa.X
open Go Go.Proofs
set_option linter.unusedVariables false
set_option linter.unusedSimpArgs false
set_option maxRecDepth 100000
def gam68 : Gam := gcall 78 [] [.s 1] (fun wk vs args => match wk, vs, args with | [], [⟨_, _, _, [.ints .u8 nm b]⟩], [.o (.a (.sl 0 0 n _))] => some ((nm = n) ∧ (n ≤ (140737488355328 : Nat)), [.a (.sl 1 (0 : Nat) (dgN n) (dgN n))], [some ⟨false, [.ints .u8 nm b]⟩, some ⟨true, [.ints .u32 (dgN n) (dgN_1 n b)]⟩]) | _, _, _ => none) gam66
theorem gam68_ok : GamOk Try.prog gam68 := gcall_ok tabOkQN Try.func78 gam66_ok Try.call78 (by
  intro wk vs args p xs K1 h hv
  split at h
  · simp only [Option.some.injEq, Prod.mk.injEq] at h; obtain ⟨rfl, rfl, rfl⟩ := h; obtain ⟨g0, g1⟩ := hv; exact fun caps w rw β => dgN_body _ _ _ _ g0 g1 w rw β
  · simp at h)

end Go.Proofs.Ytcpoldghkiiggaa.X

/- Printed by a tool of this session. -/
namespace Go.Proofs.Ytcpoldghkiiggaa.X
open Go Go.Proofs
set_option linter.unusedVariables false
set_option linter.unusedSimpArgs false
set_option maxRecDepth 100000
theorem teQP_5 : TEOk Try.prog 5 ⟨.int .u8, 1, 1, [.i .u8 (0 : Int)], false⟩ :=
  TEOk.of Try.underlying5 (i := Try.t5) (by kernel_rfl) rfl rfl rfl (by kernel_rfl) (fun h => by cases h) (by kernel_rfl)
theorem teQP_22 : TEOk Try.prog 22 ⟨.slice 5, 1, 24, [.raw (.slice none 0 0)], false⟩ :=
  TEOk.of Try.underlying22 (i := Try.t22) (by kernel_rfl) rfl rfl rfl (by kernel_rfl) (fun h => by cases h) (by kernel_rfl)
theorem teQP_24 : TEOk Try.prog 24 ⟨.array 32 5, 32, 32, [.ints .u8 (32 : Nat) ([0, 0, 0, 0, 0, 0, 0, 0, 0, 0, 0, 0, 0, 0, 0, 0, 0, 0, 0, 0, 0, 0, 0, 0, 0, 0, 0, 0, 0, 0, 0, 0] : List Int)], true⟩ :=
  TEOk.of Try.underlying24 (i := Try.t24) (by kernel_rfl) rfl rfl rfl (by kernel_rfl) (fun _ => Try.eqGuardType24) (by kernel_rfl)
noncomputable def tabQP : List (Nat × TE) := [(5, ⟨.int .u8, 1, 1, [.i .u8 (0 : Int)], false⟩), (22, ⟨.slice 5, 1, 24, [.raw (.slice none 0 0)], false⟩), (24, ⟨.array 32 5, 32, 32, [.ints .u8 (32 : Nat) ([0, 0, 0, 0, 0, 0, 0, 0, 0, 0, 0, 0, 0, 0, 0, 0, 0, 0, 0, 0, 0, 0, 0, 0, 0, 0, 0, 0, 0, 0, 0, 0] : List Int)], true⟩)]
theorem tabOkQP : TabOk Try.prog (tabOf tabQP) := (tabOf_cons teQP_5 (tabOf_cons teQP_22 (tabOf_cons teQP_24 tabOf_nil)))

set_option maxHeartbeats 1000000 in
theorem deA_body0 (n : Nat) (nm : Nat) (b : List Int) (cap0 : Nat) (h0 : (nm = n)) (h1 : (n ≤ (140737488355328 : Nat))) (h2 : (Byt b)) (hc0 : n ≤ cap0) (hl0_0 : List.length b = nm) (hn : n ≠ 32) (w : World) (β : Env) : Body Try.prog (tabOf tabQP) Try.f15 ⟨w, [], 1, β⟩ [.o (.a (.sl 0 (0 : Nat) n cap0))] [some ⟨false, [.ints .u8 nm b]⟩] (fun ys _ => ys = [.g [.ints .u8 (32 : Nat) ([0, 0, 0, 0, 0, 0, 0, 0, 0, 0, 0, 0, 0, 0, 0, 0, 0, 0, 0, 0, 0, 0, 0, 0, 0, 0, 0, 0, 0, 0, 0, 0] : List Int)], .a (.i .i64 (3 : Int))]) :=
  Body.of_fin (Γ := gam68) (Λ := noLam) (Ψ := noPsi) (fuel := 0) (m := 17) (c := (Try.f15.body.getD .skip)) mix tabOkQP gam68_ok rfl (rs := [.cell 2 24, .tmp 3]) rfl rfl [true] []
    (vc := [((((n : Nat) : Int) != (32 : Int)) = true)]) (by kernel_rfl)
    (AllP_cons (bne_iff_ne.2 (by first | omega | decide)) (AllP_nil))

set_option maxHeartbeats 1000000 in
theorem deB_body0 (n : Nat) (nm : Nat) (b : List Int) (cap0 : Nat) (h0 : (nm = n)) (h1 : (n ≤ (140737488355328 : Nat))) (h2 : (Byt b)) (hc0 : n ≤ cap0) (hl0_0 : List.length b = nm) (hn : n = 32) (hd : ¬ BV b < LL) (w : World) (β : Env) : Body Try.prog (tabOf tabQP) Try.f15 ⟨w, [], 1, β⟩ [.o (.a (.sl 0 (0 : Nat) n cap0))] [some ⟨false, [.ints .u8 nm b]⟩] (fun ys _ => ys = [.g [.ints .u8 (32 : Nat) ([0, 0, 0, 0, 0, 0, 0, 0, 0, 0, 0, 0, 0, 0, 0, 0, 0, 0, 0, 0, 0, 0, 0, 0, 0, 0, 0, 0, 0, 0, 0, 0] : List Int)], .a (.i .i64 (21 : Int))]) :=
  Body.of_fin (Γ := gam68) (Λ := noLam) (Ψ := noPsi) (fuel := 0) (m := 17) (c := (Try.f15.body.getD .skip)) mix tabOkQP gam68_ok rfl (rs := [.cell 2 24, .tmp 3]) rfl rfl [false, true] []
    (vc := [((!(decide ((BV (sub b (0 : Nat) (32 : Nat))) < (LL)))) = true), (Byt (sub b (0 : Nat) (32 : Nat))), ((32 : Nat) ≤ nm), ((32 : Nat) ≤ n), ((((n : Nat) : Int) != (32 : Int)) = false)]) (by kernel_rfl)
    (AllP_cons (by rw [sub_all b 32 (by omega), decide_eq_false hd]; rfl) (AllP_cons (by first | exact byt_sub h2 _ _ | exact h2) (AllP_cons (by first | omega | decide) (AllP_cons (by first | omega | decide) (AllP_cons (bne_eq_false_iff_eq.2 (by first | omega | decide)) (AllP_nil))))))

def deC (b : List Int) : List Int :=
  (sub b (0 : Nat) (32 : Nat))

set_option maxHeartbeats 1000000 in
theorem deC_body0 (n : Nat) (nm : Nat) (b : List Int) (cap0 : Nat) (h0 : (nm = n)) (h1 : (n ≤ (140737488355328 : Nat))) (h2 : (Byt b)) (hc0 : n ≤ cap0) (hl0_0 : List.length b = nm) (hn : n = 32) (hd : BV b < LL) (w : World) (β : Env) : Body Try.prog (tabOf tabQP) Try.f15 ⟨w, [], 1, β⟩ [.o (.a (.sl 0 (0 : Nat) n cap0))] [some ⟨false, [.ints .u8 nm b]⟩] (fun ys _ => ys = [.g [.ints .u8 (32 : Nat) (deC b)], .a (.i .i64 (0 : Int))]) :=
  Body.of_fin (Γ := gam68) (Λ := noLam) (Ψ := noPsi) (fuel := 0) (m := 17) (c := (Try.f15.body.getD .skip)) mix tabOkQP gam68_ok rfl (rs := [.cell 2 24, .tmp 3]) rfl rfl [false, false] []
    (vc := [((!(decide ((BV (sub b (0 : Nat) (32 : Nat))) < (LL)))) = false), (Byt (sub b (0 : Nat) (32 : Nat))), ((32 : Nat) ≤ nm), ((32 : Nat) ≤ n), ((((n : Nat) : Int) != (32 : Int)) = false)]) (by kernel_rfl)
    (AllP_cons (by rw [sub_all b 32 (by omega), decide_eq_true hd]; rfl) (AllP_cons (by first | exact byt_sub h2 _ _ | exact h2) (AllP_cons (by first | omega | decide) (AllP_cons (by first | omega | decide) (AllP_cons (bne_eq_false_iff_eq.2 (by first | omega | decide)) (AllP_nil))))))

end Go.Proofs.Ytcpoldghkiiggaa.X

/- Decode in one form. -/
namespace Go.Proofs.Ytcpoldghkiiggaa.X
open Go Go.Proofs
set_option linter.unusedVariables false
set_option maxRecDepth 100000

def decL (n : Nat) (b : List Int) : List Int := if n = 32 then (if BV b < LL then sub b 0 32 else [0, 0, 0, 0, 0, 0, 0, 0, 0, 0, 0, 0, 0, 0, 0, 0, 0, 0, 0, 0, 0, 0, 0, 0, 0, 0, 0, 0, 0, 0, 0, 0]) else [0, 0, 0, 0, 0, 0, 0, 0, 0, 0, 0, 0, 0, 0, 0, 0, 0, 0, 0, 0, 0, 0, 0, 0, 0, 0, 0, 0, 0, 0, 0, 0]
def decE (n : Nat) (b : List Int) : Int := if n = 32 then (if BV b < LL then 0 else 21) else 3
theorem dec_num (n nm : Nat) (b : List Int) (cap0 : Nat) (h0 : nm = n) (h1 : n ≤ 140737488355328) (h2 : Byt b) (w : World) (β : Env) : Body Try.prog (tabOf tabQP) Try.f15 ⟨w, [], 1, β⟩ [.o (.a (.sl 0 (0 : Nat) n cap0))] [some ⟨false, [.ints .u8 nm b]⟩] (fun ys _ => ys = [.g [.ints .u8 (32 : Nat) (decL n b)], .a (.i .i64 (decE n b))]) :=
  Body.lens (c := (Try.f15.body.getD .skip)) rfl fun h => by
    have hc := h.caps 0 _ _ _ _ rfl
    have hl := h.lens 0 _ .u8 nm b rfl (by simp)
    unfold decL decE
    by_cases hn : n = 32
    · rw [if_pos hn, if_pos hn]
      by_cases hd : BV b < LL
      · rw [if_pos hd, if_pos hd]; exact deC_body0 n nm b cap0 h0 h1 h2 hc hl hn hd w β
      · rw [if_neg hd, if_neg hd]; exact deB_body0 n nm b cap0 h0 h1 h2 hc hl hn hd w β
    · rw [if_neg hn, if_neg hn]; exact deA_body0 n nm b cap0 h0 h1 h2 hc hl hn w β
end Go.Proofs.Ytcpoldghkiiggaa.X

/- Printed by a tool of this session. -/
namespace Go.Proofs.Ytcpoldghkiiggaa.X
open Go Go.Proofs
set_option linter.unusedVariables false
set_option linter.unusedSimpArgs false
set_option maxRecDepth 100000
def gam72 : Gam := greadV 15 [.s 1] (fun vs args => match vs, args with | [⟨_, _, _, [.ints .u8 nm b]⟩], [a0] => some ((nm = (lenOfA a0)) ∧ ((lenOfA a0) ≤ (140737488355328 : Nat)) ∧ (Byt b), [.g [.ints .u8 (32 : Nat) (decL (lenOfA a0) b)], .a (.i .i64 (decE (lenOfA a0) b))]) | _, _ => none) gam68
theorem gam72_ok : GamOk Try.prog gam72 := greadV_ok tabOkQP Try.func15 gam68_ok Try.call15 (by
  intro vs args p xs h hv
  split at h
  · simp only [Option.some.injEq, Prod.mk.injEq] at h; obtain ⟨rfl, rfl⟩ := h; exact ⟨by rfl, fun caps w β => dec_num _ _ _ _ hv.1 hv.2.1 hv.2.2 w β⟩
  · simp at h)

end Go.Proofs.Ytcpoldghkiiggaa.X

/- Lists of digits. -/
namespace Go.Proofs.Ytcpoldghkiiggaa.X
open Go Go.Proofs
set_option linter.unusedVariables false
set_option linter.unusedSimpArgs false
set_option maxRecDepth 100000

def lnO (f : Nat → Int) (n k : Nat) : List Int := (List.range k).map f ++ List.replicate (n - k) 0
def lnR (f : Nat → Int) (k : Nat) : List Int := (List.range k).map f
theorem lnR_len (f : Nat → Int) (k : Nat) : (lnR f k).length = k := by unfold lnR; rw [List.length_map, List.length_range]
theorem lnR_s (f : Nat → Int) (k : Nat) : lnR f (k + 1) = lnR f k ++ [f k] := by unfold lnR; rw [List.range_succ, List.map_append]; rfl
theorem lnO_n (f : Nat → Int) (n : Nat) : lnO f n n = lnR f n := by
  unfold lnO lnR; rw [Nat.sub_self]; exact List.append_nil _
theorem lnO_0 (f : Nat → Int) (n : Nat) : lnO f n 0 = List.replicate n 0 := by unfold lnO; rfl
theorem lnO_s (f : Nat → Int) {n k : Nat} (h : k < n) : (lnO f n k).set k (f k) = lnO f n (k + 1) := by
  unfold lnO
  rw [List.range_succ, List.map_append, show n - k = (n - (k + 1)) + 1 by omega, List.replicate_succ, List.set_append_right _ _ (by rw [List.length_map, List.length_range]; exact Nat.le_refl _), List.length_map, List.length_range, Nat.sub_self, List.set_cons_zero, List.append_assoc]
  rfl
theorem lnO_z {f : Nat → Int} {n k : Nat} (h : k < n) (h0 : f k = 0) : lnO f n (k + 1) = lnO f n k := by
  unfold lnO
  rw [List.range_succ, List.map_append, show n - k = (n - (k + 1)) + 1 by omega, List.replicate_succ, List.append_assoc]
  show _ ++ ([f k] ++ _) = _
  rw [h0]; rfl

/-! sixteen's -/
def nib (s : List Int) (k : Nat) : Int := bits2 .and .u8 (shr .u8 (List.getD s (Int.toNat (IntKind.i64.wrap (Int.tdiv ((k : Nat) : Int) (2 : Int)))) 0) (IntKind.i64.wrap ((4 : Int) * (Int.tmod ((k : Nat) : Int) (2 : Int))))) (15 : Int)
def dcC (s : List Int) : Nat → Int
  | 0 => 0
  | k + 1 => if nib s k + dcC s k > 7 ∧ k < 63 then 1 else 0
def dcD (s : List Int) (k : Nat) : Int := if nib s k + dcC s k > 7 ∧ k < 63 then nib s k + dcC s k - 16 else nib s k + dcC s k
theorem bit_and15 (y : Int) : bits2 .and .u8 y 15 = y % 16 := by
  have e : bits2 .and .u8 y 15 = IntKind.u8.wrap (((BitVec.ofInt 8 y &&& BitVec.ofInt 8 15).toNat : Nat) : Int) := rfl
  have t2 : (BitVec.ofInt 8 15).toNat = 2 ^ 4 - 1 := by rfl
  rw [e, BitVec.toNat_and, t2, Nat.and_two_pow_sub_one_eq_mod, BitVec.toNat_ofInt, wrap8]
  show (((y % 256).toNat % 2 ^ 4 : Nat) : Int) % 256 = y % 16
  omega
theorem nib_rng (s : List Int) (k : Nat) : 0 ≤ nib s k ∧ nib s k < 16 := by unfold nib; rw [bit_and15]; omega
theorem dcC_rng (s : List Int) : ∀ k, 0 ≤ dcC s k ∧ dcC s k ≤ 1
  | 0 => by show (0 : Int) ≤ 0 ∧ (0 : Int) ≤ 1; omega
  | k + 1 => by show 0 ≤ (if _ then _ else _ : Int) ∧ (if _ then _ else _ : Int) ≤ 1; split <;> omega
theorem dc_w (s : List Int) (k : Nat) : IntKind.i64.wrap (IntKind.i64.wrap (nib s k) + dcC s k) = nib s k + dcC s k := by
  have h := nib_rng s k
  have h2 := dcC_rng s k
  rw [wrapI (x := nib s k) (by omega) (by omega), wrapI (by omega) (by omega)]
theorem dc_w2 (s : List Int) (k : Nat) : IntKind.i64.wrap (nib s k + dcC s k - 16) = nib s k + dcC s k - 16 := by
  have h := nib_rng s k
  have h2 := dcC_rng s k
  rw [wrapI (by omega) (by omega)]
theorem dc_a {s : List Int} {k : Nat} (h : nib s k + dcC s k > 7 ∧ k < 63) : dcD s k = nib s k + dcC s k - 16 ∧ dcC s (k + 1) = 1 := ⟨if_pos h, if_pos h⟩
theorem dc_b {s : List Int} {k : Nat} (h : ¬ (nib s k + dcC s k > 7 ∧ k < 63)) : dcD s k = nib s k + dcC s k ∧ dcC s (k + 1) = 0 := ⟨if_neg h, if_neg h⟩
theorem dq {k : Nat} (h : k < 64) : IntKind.i64.wrap (Int.tdiv ((k : Nat) : Int) (2 : Int)) = ((k / 2 : Nat) : Int) ∧ IntKind.i64.wrap ((4 : Int) * (Int.tmod ((k : Nat) : Int) (2 : Int))) = ((4 * (k % 2) : Nat) : Int) := by
  rw [Int.tdiv_eq_ediv_of_nonneg (by omega), Int.tmod_eq_emod_of_nonneg (by omega), wrapI (by omega) (by omega), wrapI (by omega) (by omega)]
  omega
theorem dc_wr (s : List Int) {k : Nat} (hk : k < 64) : IntKind.i64.wrap (IntKind.i64.wrap (bits2 .and .u8 (shr .u8 (List.getD s (Int.toNat (IntKind.i64.wrap (Int.tdiv ((k : Nat) : Int) (2 : Int)))) 0) (IntKind.u64.wrap (IntKind.i64.wrap ((4 : Int) * (Int.tmod ((k : Nat) : Int) (2 : Int)))))) (15 : Int)) + dcC s k) = nib s k + dcC s k := by
  have q := (dq hk).2
  have e : IntKind.u64.wrap (IntKind.i64.wrap ((4 : Int) * (Int.tmod ((k : Nat) : Int) (2 : Int)))) = IntKind.i64.wrap ((4 : Int) * (Int.tmod ((k : Nat) : Int) (2 : Int))) := by rw [q, wrap64]; omega
  rw [e]; exact dc_w s k
def dcO (s : List Int) (k : Nat) : List Int := lnO (dcD s) 64 k
def dcR (s : List Int) (k : Nat) : List Int := lnR (dcD s) k
end Go.Proofs.Ytcpoldghkiiggaa.X

/- The form of digits that stand apart: numbers. -/
namespace Go.Proofs.Ytcpoldghkiiggaa.X
open Go Go.Proofs
set_option linter.unusedVariables false
set_option linter.unusedSimpArgs false
set_option maxRecDepth 100000

def pw2 (w : Int) : Int := 2 ^ w.toNat
def nafX (w v : Int) : Int := v % pw2 w
def nafD (w v : Int) : Int := if v % 2 = 1 then (if nafX w v ≥ pw2 (w - 1) then nafX w v - pw2 w else nafX w v) else 0
def nfV (w : Int) (a : List Int) : Nat → Int
  | 0 => modL (BV a)
  | k + 1 => (nfV w a k - nafD w (nfV w a k)) / 2
def nfF (w : Int) (a : List Int) (k : Nat) : Int := nafD w (nfV w a k)

theorem w_cases {w : Int} (h0 : 2 ≤ w) (h1 : w ≤ 8) : w = 2 ∨ w = 3 ∨ w = 4 ∨ w = 5 ∨ w = 6 ∨ w = 7 ∨ w = 8 := by omega
theorem pw2_rng {w : Int} (h0 : 2 ≤ w) (h1 : w ≤ 8) : 4 ≤ pw2 w ∧ pw2 w ≤ 256 ∧ pw2 w = 2 * pw2 (w - 1) := by
  rcases w_cases h0 h1 with rfl | rfl | rfl | rfl | rfl | rfl | rfl <;> decide
theorem bit_mask {x : Int} {n : Nat} (hn : n ≤ 63) : bits2 .and .u64 x (((2 ^ n - 1 : Nat)) : Int) = x % ((2 ^ n : Nat) : Int) := by
  have hp : 2 ^ n ≤ 2 ^ 63 := Nat.pow_le_pow_right (by omega) hn
  have hp0 : 0 < 2 ^ n := Nat.pow_pos (by omega)
  have e : bits2 .and .u64 x (((2 ^ n - 1 : Nat)) : Int) = IntKind.u64.wrap (((BitVec.ofInt 64 x &&& BitVec.ofInt 64 (((2 ^ n - 1 : Nat)) : Int)).toNat : Nat) : Int) := rfl
  have t2 : (BitVec.ofInt 64 (((2 ^ n - 1 : Nat)) : Int)).toNat = 2 ^ n - 1 := by
    rw [BitVec.toNat_ofInt]
    show ((((2 ^ n - 1 : Nat)) : Int) % 18446744073709551616).toNat = _
    have : (2 : Nat) ^ 63 = 9223372036854775808 := by decide
    omega
  rw [e, BitVec.toNat_and, t2, Nat.and_two_pow_sub_one_eq_mod, BitVec.toNat_ofInt, wrap64]
  show (((x % 18446744073709551616).toNat % 2 ^ n : Nat) : Int) % 18446744073709551616 = _
  have hd : (2 : Nat) ^ n ∣ 18446744073709551616 := ⟨2 ^ (64 - n), by rw [← Nat.pow_add, show n + (64 - n) = 64 by omega]⟩
  have h63 : (2 : Nat) ^ 63 = 9223372036854775808 := by decide
  have hlt : (x % 18446744073709551616).toNat % 2 ^ n < 2 ^ n := Nat.mod_lt _ hp0
  rw [Int.emod_eq_of_lt (by omega) (by omega), Int.natCast_emod, Int.toNat_of_nonneg (by omega)]
  exact Int.emod_emod_of_dvd x (Int.ofNat_dvd.2 hd)
theorem W4_0at (v : Int) : List.getD (W4 v) 0 0 = v % 18446744073709551616 := rfl
theorem W4_odd (v : Int) : bits2 .and .u64 (List.getD (W4 v) 0 0) 1 = v % 2 := by
  rw [bit_and64, W4_0at]; omega
theorem mod_pw {v : Int} {w : Int} (h0 : 2 ≤ w) (h1 : w ≤ 8) : v % 18446744073709551616 % pw2 w = v % pw2 w := by
  rcases w_cases h0 h1 with rfl | rfl | rfl | rfl | rfl | rfl | rfl
  · show v % 18446744073709551616 % 4 = v % 4; omega
  · show v % 18446744073709551616 % 8 = v % 8; omega
  · show v % 18446744073709551616 % 16 = v % 16; omega
  · show v % 18446744073709551616 % 32 = v % 32; omega
  · show v % 18446744073709551616 % 64 = v % 64; omega
  · show v % 18446744073709551616 % 128 = v % 128; omega
  · show v % 18446744073709551616 % 256 = v % 256; omega
theorem mask_w {x w : Int} (h0 : 2 ≤ w) (h1 : w ≤ 8) : bits2 .and .u64 x (IntKind.u64.wrap (shl .u64 1 w - 1)) = x % pw2 w := by
  rcases w_cases h0 h1 with rfl | rfl | rfl | rfl | rfl | rfl | rfl
  · exact bit_mask (n := 2) (by omega)
  · exact bit_mask (n := 3) (by omega)
  · exact bit_mask (n := 4) (by omega)
  · exact bit_mask (n := 5) (by omega)
  · exact bit_mask (n := 6) (by omega)
  · exact bit_mask (n := 7) (by omega)
  · exact bit_mask (n := 8) (by omega)
theorem nafX_rng {w : Int} (h0 : 2 ≤ w) (h1 : w ≤ 8) (v : Int) : 0 ≤ nafX w v ∧ nafX w v < pw2 w := by
  have := (pw2_rng h0 h1).1
  unfold nafX
  exact ⟨Int.emod_nonneg _ (by omega), Int.emod_lt_of_pos _ (by omega)⟩
theorem naf_x {w : Int} (h0 : 2 ≤ w) (h1 : w ≤ 8) (v : Int) : IntKind.i64.wrap (bits2 .and .u64 (List.getD (W4 v) 0 0) (IntKind.u64.wrap (shl .u64 1 w - 1))) = nafX w v := by
  have r := nafX_rng h0 h1 v
  have p := pw2_rng h0 h1
  rw [mask_w h0 h1, W4_0at, mod_pw h0 h1]
  exact wrapI (by unfold nafX at r; omega) (by unfold nafX at r; omega)
theorem shl_w1 {w : Int} (h0 : 2 ≤ w) (h1 : w ≤ 8) : shl .i64 1 (IntKind.i64.wrap (w - 1)) = pw2 (w - 1) := by
  rcases w_cases h0 h1 with rfl | rfl | rfl | rfl | rfl | rfl | rfl <;> decide
theorem shl_w {w : Int} (h0 : 2 ≤ w) (h1 : w ≤ 8) : shl .i64 1 w = pw2 w := by
  rcases w_cases h0 h1 with rfl | rfl | rfl | rfl | rfl | rfl | rfl <;> decide
theorem shl_u1 {w : Int} (h0 : 2 ≤ w) (h1 : w ≤ 8) : shl .i64 1 (IntKind.u64.wrap (IntKind.i64.wrap (w - 1))) = pw2 (w - 1) := by
  rcases w_cases h0 h1 with rfl | rfl | rfl | rfl | rfl | rfl | rfl <;> decide
theorem shl_u {w : Int} (h0 : 2 ≤ w) (h1 : w ≤ 8) : shl .i64 1 (IntKind.u64.wrap w) = pw2 w := by
  rcases w_cases h0 h1 with rfl | rfl | rfl | rfl | rfl | rfl | rfl <;> decide
theorem odd_X {w : Int} (h0 : 2 ≤ w) (h1 : w ≤ 8) {v : Int} (h : v % 2 = 1) : 0 < nafX w v := by
  unfold nafX
  rcases w_cases h0 h1 with rfl | rfl | rfl | rfl | rfl | rfl | rfl
  · show 0 < v % 4; omega
  · show 0 < v % 8; omega
  · show 0 < v % 16; omega
  · show 0 < v % 32; omega
  · show 0 < v % 64; omega
  · show 0 < v % 128; omega
  · show 0 < v % 256; omega
theorem nafD_e {w v : Int} (h : ¬ v % 2 = 1) : nafD w v = 0 := if_neg h
theorem nafD_s {w v : Int} (h : v % 2 = 1) (h2 : ¬ nafX w v ≥ pw2 (w - 1)) : nafD w v = nafX w v := by unfold nafD; rw [if_pos h, if_neg h2]
theorem nafD_b {w v : Int} (h : v % 2 = 1) (h2 : nafX w v ≥ pw2 (w - 1)) : nafD w v = nafX w v - pw2 w := by unfold nafD; rw [if_pos h, if_pos h2]
theorem nafX_le {w : Int} (h0 : 2 ≤ w) (h1 : w ≤ 8) {v : Int} (hv : 0 ≤ v) : nafX w v ≤ v := by
  have := (pw2_rng h0 h1).1
  unfold nafX
  have := Int.emod_add_mul_ediv v (pw2 w)
  have h3 : 0 ≤ pw2 w * (v / pw2 w) := Int.mul_nonneg (by omega) (Int.ediv_nonneg hv (by omega))
  omega
theorem nafD_rng {w : Int} (h0 : 2 ≤ w) (h1 : w ≤ 8) {v : Int} (hv : 0 ≤ v) : -128 ≤ nafD w v ∧ nafD w v ≤ 127 ∧ nafD w v ≤ v := by
  have p := pw2_rng h0 h1
  have r := nafX_rng h0 h1 v
  have l := nafX_le h0 h1 hv
  unfold nafD
  split
  · split <;> omega
  · omega
theorem nfV_rng {w : Int} (h0 : 2 ≤ w) (h1 : w ≤ 8) (a : List Int) : ∀ k, 0 ≤ nfV w a k ∧ nfV w a k < 14474011154664524427946373126085988481658748083205070504932198000989141204992
  | 0 => ⟨(modL_rng _).1, Int.lt_trans (modL_rng _).2.1 (by decide +kernel)⟩
  | k + 1 => by
    have ih := nfV_rng h0 h1 a k
    have d := nafD_rng h0 h1 ih.1
    show 0 ≤ (_ - _) / 2 ∧ (_ - _) / 2 < _
    omega
def nafW (w v : Int) : Int := v - nafD w v

/-! words -/
theorem or_shl63 {x y : Int} (hx : 0 ≤ x ∧ x < 9223372036854775808) (hy : 0 ≤ y ∧ y < 18446744073709551616) : bits2 .or .u64 x (shl .u64 y 63) = x + 9223372036854775808 * (y % 2) := by
  have e1 : shl .u64 y 63 = ((2 ^ 63 * (y % 2).toNat : Nat) : Int) := by
    have : shl .u64 y 63 = IntKind.u64.wrap (y * 9223372036854775808) := rfl
    rw [this, wrap64]
    have : (2 : Nat) ^ 63 = 9223372036854775808 := by decide
    omega
  obtain ⟨n, rfl⟩ := Int.eq_ofNat_of_zero_le hx.1
  have hn : n < 2 ^ 63 := by
    have : (2 : Nat) ^ 63 = 9223372036854775808 := by decide
    omega
  rw [e1]
  generalize hb : (y % 2).toNat = b
  have hb1 : b ≤ 1 := by omega
  have h63 : (2 : Nat) ^ 63 = 9223372036854775808 := by decide
  have e : bits2 .or .u64 ((n : Nat) : Int) ((2 ^ 63 * b : Nat) : Int) = IntKind.u64.wrap (((BitVec.ofInt 64 ((n : Nat) : Int) ||| BitVec.ofInt 64 ((2 ^ 63 * b : Nat) : Int)).toNat : Nat) : Int) := rfl
  have t : ∀ m : Nat, m < 18446744073709551616 → (BitVec.ofInt 64 ((m : Nat) : Int)).toNat = m := by
    intro m hm
    rw [BitVec.toNat_ofInt]
    show (((m : Nat) : Int) % 18446744073709551616).toNat = m
    omega
  rw [e, BitVec.toNat_or, t n (by omega), t (2 ^ 63 * b) (by omega), Nat.or_comm, ← Nat.two_pow_add_eq_or_of_lt hn, wrap64]
  omega
theorem shr_1 (x : Int) : shr .u64 x 1 = x / 2 := by
  have e : shr .u64 x 1 = x.fdiv 2 := rfl
  rw [e, Int.fdiv_eq_ediv_of_nonneg _ (by omega)]
theorem half4 {a b c d : Int} (ha : 0 ≤ a ∧ a < 18446744073709551616) (hb : 0 ≤ b ∧ b < 18446744073709551616) (hc : 0 ≤ c ∧ c < 18446744073709551616) (hd : 0 ≤ d ∧ d < 18446744073709551616) {v : Int} (hv : v = a + 18446744073709551616 * b + 340282366920938463463374607431768211456 * c + 6277101735386680763835789423207666416102355444464034512896 * d) :
    [bits2 .or .u64 (shr .u64 a 1) (shl .u64 b 63), bits2 .or .u64 (shr .u64 b 1) (shl .u64 c 63), bits2 .or .u64 (shr .u64 c 1) (shl .u64 d 63), shr .u64 d 1] = W4 (v / 2) := by
  rw [shr_1, shr_1, shr_1, shr_1, or_shl63 (by omega) hb, or_shl63 (by omega) hc, or_shl63 (by omega) hd]
  exact W4_eq (by omega) (by omega) (by omega) (by omega) (by omega)
theorem add4 {v e : Int} (hv : 0 ≤ v ∧ v < 14474011154664524427946373126085988481658748083205070504932198000989141204992) (he : 0 ≤ e ∧ e < 18446744073709551616) :
    [ad64s (v % 18446744073709551616) e 0, ad64s (v / 18446744073709551616 % 18446744073709551616) 0 (ad64c (v % 18446744073709551616) e 0), ad64s (v / 340282366920938463463374607431768211456 % 18446744073709551616) 0 (ad64c (v / 18446744073709551616 % 18446744073709551616) 0 (ad64c (v % 18446744073709551616) e 0)), ad64s (v / 6277101735386680763835789423207666416102355444464034512896 % 18446744073709551616) 0 (ad64c (v / 340282366920938463463374607431768211456 % 18446744073709551616) 0 (ad64c (v / 18446744073709551616 % 18446744073709551616) 0 (ad64c (v % 18446744073709551616) e 0)))] = W4 (v + e) := by
  have hV : v = v % 18446744073709551616 + 18446744073709551616 * (v / 18446744073709551616 % 18446744073709551616) + 340282366920938463463374607431768211456 * (v / 340282366920938463463374607431768211456 % 18446744073709551616) + 6277101735386680763835789423207666416102355444464034512896 * (v / 6277101735386680763835789423207666416102355444464034512896 % 18446744073709551616) := by omega
  have h0 : 0 ≤ v % 18446744073709551616 ∧ v % 18446744073709551616 < 18446744073709551616 := by omega
  have h1 : 0 ≤ v / 18446744073709551616 % 18446744073709551616 ∧ v / 18446744073709551616 % 18446744073709551616 < 18446744073709551616 := by omega
  have h2 : 0 ≤ v / 340282366920938463463374607431768211456 % 18446744073709551616 ∧ v / 340282366920938463463374607431768211456 % 18446744073709551616 < 18446744073709551616 := by omega
  have h3 : 0 ≤ v / 6277101735386680763835789423207666416102355444464034512896 % 18446744073709551616 ∧ v / 6277101735386680763835789423207666416102355444464034512896 % 18446744073709551616 < 18446744073709551616 := by omega
  generalize v % 18446744073709551616 = a at *
  generalize v / 18446744073709551616 % 18446744073709551616 = b at *
  generalize v / 340282366920938463463374607431768211456 % 18446744073709551616 = c at *
  generalize v / 6277101735386680763835789423207666416102355444464034512896 % 18446744073709551616 = d at *
  have e0 := ad64_eq h0.1 h0.2 he.1 he.2 (c := 0) (by omega)
  have e1 := ad64_eq h1.1 h1.2 (show (0 : Int) ≤ 0 by omega) (by omega) (c := ad64c a e 0) (by omega)
  have e2 := ad64_eq h2.1 h2.2 (show (0 : Int) ≤ 0 by omega) (by omega) (c := ad64c b 0 (ad64c a e 0)) (by omega)
  have e3 := ad64_eq h3.1 h3.2 (show (0 : Int) ≤ 0 by omega) (by omega) (c := ad64c c 0 (ad64c b 0 (ad64c a e 0))) (by omega)
  generalize ad64c d 0 (ad64c c 0 (ad64c b 0 (ad64c a e 0))) = c3 at *
  generalize ad64s d 0 (ad64c c 0 (ad64c b 0 (ad64c a e 0))) = s3 at *
  generalize ad64s c 0 (ad64c b 0 (ad64c a e 0)) = s2 at *
  generalize ad64c c 0 (ad64c b 0 (ad64c a e 0)) = c2 at *
  generalize ad64s b 0 (ad64c a e 0) = s1 at *
  generalize ad64c b 0 (ad64c a e 0) = c1 at *
  generalize ad64s a e 0 = s0 at *
  generalize ad64c a e 0 = c0 at *
  exact W4_eq (by omega) ⟨e0.2.1, e0.2.2.1⟩ ⟨e1.2.1, e1.2.2.1⟩ ⟨e2.2.1, e2.2.2.1⟩ ⟨e3.2.1, e3.2.2.1⟩
theorem dif4 {v e : Int} (hv : 0 ≤ v ∧ v < 14474011154664524427946373126085988481658748083205070504932198000989141204992) (he : 0 ≤ e ∧ e ≤ v) (he2 : e < 18446744073709551616) : difR (V4 (W4 v)) (V4 [e, 0, 0, 0]) = v - e := by
  have e1 : V4 [e, 0, 0, 0] = e := by
    show e + 18446744073709551616 * 0 + 340282366920938463463374607431768211456 * 0 + 6277101735386680763835789423207666416102355444464034512896 * 0 = e
    omega
  rw [V4_W4 hv.1 (by omega), e1]
  unfold difR; omega
end Go.Proofs.Ytcpoldghkiiggaa.X

/- The form of digits that stand apart: its rounds. -/
namespace Go.Proofs.Ytcpoldghkiiggaa.X
open Go Go.Proofs
set_option linter.unusedVariables false
set_option linter.unusedSimpArgs false
set_option maxRecDepth 100000

def wdx (u : Int) (i : Nat) : Int := List.getD (W4 u) i 0
theorem wdx_rng (u : Int) (i : Nat) : 0 ≤ wdx u i ∧ wdx u i < 18446744073709551616 := wds_get (wds_W4 u) i
theorem W4_wdx (u : Int) : W4 u = [wdx u 0, wdx u 1, wdx u 2, wdx u 3] := rfl
def nfO (w : Int) (a : List Int) (k : Nat) : List Int := lnO (nfF w a) 256 k
def nfR (w : Int) (a : List Int) (k : Nat) : List Int := lnR (nfF w a) k
theorem nfO_0 (w : Int) (a : List Int) : nfO w a 0 = List.replicate 256 0 := lnO_0 _ _
theorem nfO_s {w : Int} {a : List Int} {k : Nat} (hk : k < 256) : List.set (nfO w a k) k (nafD w (nfV w a k)) = nfO w a (k + 1) := lnO_s _ hk
theorem nfO_z {w : Int} {a : List Int} {k : Nat} (hk : k < 256) (ha : ¬ nfV w a k % 2 = 1) : nfO w a k = nfO w a (k + 1) := (lnO_z hk (nafD_e ha)).symm
theorem naf_d {w v : Int} (h1 : 2 ≤ w) (h2 : w ≤ 8) (ha : v % 2 = 1) (hb : nafX w v ≥ pw2 (w - 1)) : IntKind.i64.wrap (nafX w v - shl .i64 1 w) = nafD w v := by
  have p := pw2_rng h1 h2
  have r := nafX_rng h1 h2 v
  rw [shl_w h1 h2, nafD_b ha hb]
  exact wrapI (by omega) (by omega)
theorem naf_w0 {w v : Int} (ha : ¬ v % 2 = 1) : W4 v = [wdx (nafW w v) 0, wdx (nafW w v) 1, wdx (nafW w v) 2, wdx (nafW w v) 3] := by
  unfold nafW
  rw [nafD_e ha, Int.sub_zero]; rfl
theorem naf_w1 {w v : Int} (h1 : 2 ≤ w) (h2 : w ≤ 8) (hv : 0 ≤ v ∧ v < 14474011154664524427946373126085988481658748083205070504932198000989141204992) (ha : v % 2 = 1) (hb : ¬ nafX w v ≥ pw2 (w - 1)) : W4 (difR (V4 (W4 v)) (V4 [IntKind.u64.wrap (nafX w v), 0, 0, 0])) = [wdx (nafW w v) 0, wdx (nafW w v) 1, wdx (nafW w v) 2, wdx (nafW w v) 3] := by
  have p := pw2_rng h1 h2
  have r := nafX_rng h1 h2 v
  have l := nafX_le h1 h2 hv.1
  rw [wrap64, Int.emod_eq_of_lt r.1 (by omega), dif4 hv ⟨r.1, l⟩ (by omega), ← nafD_s ha hb]; rfl
theorem naf_w2 {w v : Int} (h1 : 2 ≤ w) (h2 : w ≤ 8) (hv : 0 ≤ v ∧ v < 14474011154664524427946373126085988481658748083205070504932198000989141204992) (ha : v % 2 = 1) (hb : nafX w v ≥ pw2 (w - 1)) :
    [ad64s (wdx v 0) (IntKind.u64.wrap (IntKind.i64.wrap (0 - nafD w v))) 0, ad64s (wdx v 1) 0 (ad64c (wdx v 0) (IntKind.u64.wrap (IntKind.i64.wrap (0 - nafD w v))) 0), ad64s (wdx v 2) 0 (ad64c (wdx v 1) 0 (ad64c (wdx v 0) (IntKind.u64.wrap (IntKind.i64.wrap (0 - nafD w v))) 0)), ad64s (wdx v 3) 0 (ad64c (wdx v 2) 0 (ad64c (wdx v 1) 0 (ad64c (wdx v 0) (IntKind.u64.wrap (IntKind.i64.wrap (0 - nafD w v))) 0)))] = [wdx (nafW w v) 0, wdx (nafW w v) 1, wdx (nafW w v) 2, wdx (nafW w v) 3] := by
  have p := pw2_rng h1 h2
  have r := nafX_rng h1 h2 v
  have e : IntKind.u64.wrap (IntKind.i64.wrap (0 - nafD w v)) = 0 - nafD w v := by
    rw [nafD_b ha hb, wrapI (by omega) (by omega), wrap64]; omega
  rw [e]
  have q := add4 hv (e := 0 - nafD w v) (by rw [nafD_b ha hb]; omega)
  rw [← W4_wdx]
  have e2 : v + (0 - nafD w v) = nafW w v := by unfold nafW; omega
  rw [e2] at q
  exact q
theorem nafW_rng {w v : Int} (h1 : 2 ≤ w) (h2 : w ≤ 8) (hv : 0 ≤ v ∧ v < 14474011154664524427946373126085988481658748083205070504932198000989141204992) : 0 ≤ nafW w v ∧ nafW w v < 115792089237316195423570985008687907853269984665640564039457584007913129639936 := by
  have d := nafD_rng h1 h2 hv.1
  unfold nafW; omega
theorem naf_half {u : Int} (h : 0 ≤ u ∧ u < 115792089237316195423570985008687907853269984665640564039457584007913129639936) : [bits2 .or .u64 (shr .u64 (wdx u 0) 1) (shl .u64 (wdx u 1) 63), bits2 .or .u64 (shr .u64 (wdx u 1) 1) (shl .u64 (wdx u 2) 63), bits2 .or .u64 (shr .u64 (wdx u 2) 1) (shl .u64 (wdx u 3) 63), shr .u64 (wdx u 3) 1] = W4 (u / 2) := by
  refine half4 (wdx_rng u 0) (wdx_rng u 1) (wdx_rng u 2) (wdx_rng u 3) ?_
  have := V4_W4 h.1 h.2
  exact this.symm
theorem adc_nn (x y c : Int) (hx : 0 ≤ x) (hy : 0 ≤ y) (hc : 0 ≤ c) : 0 ≤ ad64c x y c := ad64c_nn hx hy hc
theorem adc_le {x y c : Int} (hx : x < 18446744073709551616) (hy : y < 18446744073709551616) (hc : c ≤ 1) : ad64c x y c ≤ 1 := by unfold ad64c; omega
end Go.Proofs.Ytcpoldghkiiggaa.X

/- Printed by a tool of this session. -/
namespace Go.Proofs.Ytcpoldghkiiggaa.X
open Go Go.Proofs
set_option linter.unusedVariables false
set_option linter.unusedSimpArgs false
set_option maxRecDepth 100000
theorem teRJ_3 : TEOk Try.prog 3 ⟨.int .i64, 1, 8, [.i .i64 (0 : Int)], false⟩ :=
  TEOk.of Try.underlying3 (i := Try.t3) (by kernel_rfl) rfl rfl rfl (by kernel_rfl) (fun h => by cases h) (by kernel_rfl)
theorem teRJ_5 : TEOk Try.prog 5 ⟨.int .u8, 1, 1, [.i .u8 (0 : Int)], false⟩ :=
  TEOk.of Try.underlying5 (i := Try.t5) (by kernel_rfl) rfl rfl rfl (by kernel_rfl) (fun h => by cases h) (by kernel_rfl)
theorem teRJ_24 : TEOk Try.prog 24 ⟨.array 32 5, 32, 32, [.ints .u8 (32 : Nat) ([0, 0, 0, 0, 0, 0, 0, 0, 0, 0, 0, 0, 0, 0, 0, 0, 0, 0, 0, 0, 0, 0, 0, 0, 0, 0, 0, 0, 0, 0, 0, 0] : List Int)], true⟩ :=
  TEOk.of Try.underlying24 (i := Try.t24) (by kernel_rfl) rfl rfl rfl (by kernel_rfl) (fun _ => Try.eqGuardType24) (by kernel_rfl)
theorem teRJ_62 : TEOk Try.prog 62 ⟨.int .u64, 1, 8, [.i .u64 (0 : Int)], false⟩ :=
  TEOk.of Try.underlying62 (i := Try.t62) (by kernel_rfl) rfl rfl rfl (by kernel_rfl) (fun h => by cases h) (by kernel_rfl)
theorem teRJ_81 : TEOk Try.prog 81 ⟨.slice 3, 1, 24, [.raw (.slice none 0 0)], false⟩ :=
  TEOk.of Try.underlying81 (i := Try.t81) (by kernel_rfl) rfl rfl rfl (by kernel_rfl) (fun h => by cases h) (by kernel_rfl)
noncomputable def tabRJ : List (Nat × TE) := [(3, ⟨.int .i64, 1, 8, [.i .i64 (0 : Int)], false⟩), (5, ⟨.int .u8, 1, 1, [.i .u8 (0 : Int)], false⟩), (24, ⟨.array 32 5, 32, 32, [.ints .u8 (32 : Nat) ([0, 0, 0, 0, 0, 0, 0, 0, 0, 0, 0, 0, 0, 0, 0, 0, 0, 0, 0, 0, 0, 0, 0, 0, 0, 0, 0, 0, 0, 0, 0, 0] : List Int)], true⟩), (62, ⟨.int .u64, 1, 8, [.i .u64 (0 : Int)], false⟩), (81, ⟨.slice 3, 1, 24, [.raw (.slice none 0 0)], false⟩)]
theorem tabOkRJ : TabOk Try.prog (tabOf tabRJ) := (tabOf_cons teRJ_3 (tabOf_cons teRJ_5 (tabOf_cons teRJ_24 (tabOf_cons teRJ_62 (tabOf_cons teRJ_81 tabOf_nil)))))

def dl62_mk (a : List Int) (k : Nat) (s : Unit) : St := ⟨sparse 41 [(0, .o (.g [.ints .u8 (32 : Nat) a])), (1, .o (.a (.p 0 0))), (2, .o (.a (.raw (.slice none 0 0)))), (3, .o (.a (.p 1 0))), (4, .o (.a (.sl 2 (0 : Nat) (64 : Nat) (64 : Nat)))), (5, .o (.a (.i .i64 (dcC (B32 (modL (BV a))) k)))), (8, .o (.g [.ints .u8 (32 : Nat) a])), (9, .o (.g [.ints .u64 (4 : Nat) (W4 (modL (BV a)))])), (10, .o (.g [.ints .u8 (32 : Nat) (B32 (V4 (W4 (modL (BV a)))))])), (11, .o (.a (.sl 2 (0 : Nat) (64 : Nat) (64 : Nat)))), (12, .o (.a (.i .i64 ((k : Nat) : Int))))], [some ⟨true, [.ints .u8 (32 : Nat) a]⟩, some ⟨true, [.ints .u8 (32 : Nat) (B32 (modL (BV a)))]⟩, some ⟨true, [.ints .i64 (64 : Nat) (dcO (B32 (modL (BV a))) k)]⟩]⟩

def dl62_step (k : Nat) (s : Unit) : Unit :=
  ()

set_option maxHeartbeats 1000000 in
theorem dl62_round_0 (a : List Int) (h0 : (Byt a)) (hv0 : List.length a = (32 : Nat)) (w : World) (rw : List Nat) (β : Env) (k : Nat) (hk : k < (64 : Nat)) (s : Unit) (ha : nib (B32 (modL (BV a))) k + dcC (B32 (modL (BV a))) k > 7) (hb : k < 63) : Run Try.prog ⟨w, rw, 0, β⟩ (loopB Try.f62 0) (dl62_mk a k s) (To ⟨w, rw, 0, β⟩ .normal (dl62_mk a (k + 1) (dl62_step k s))) := by
  have e0 : (List.set (dcO (B32 (modL (BV a))) k) k (IntKind.i64.wrap (((nib (B32 (modL (BV a))) k) + (dcC (B32 (modL (BV a))) k)) - (16 : Int)))) = (dcO (B32 (modL (BV a))) (k + (1 : Nat))) := (by first | exact wrap_succ (by omega) | exact (dc_a ⟨ha, hb⟩).2.symm | omega | (rw [dc_w2, ← (dc_a ⟨ha, hb⟩).1]; unfold dcO; exact lnO_s _ hk))
  have e1 : (IntKind.i64.wrap (((k : Nat) : Int) + (1 : Int))) = (((k + (1 : Nat)) : Nat) : Int) := (by first | exact wrap_succ (by omega) | exact (dc_a ⟨ha, hb⟩).2.symm | omega | (rw [dc_w2, ← (dc_a ⟨ha, hb⟩).1]; unfold dcO; exact lnO_s _ hk))
  have e2 : (1 : Int) = (dcC (B32 (modL (BV a))) (k + (1 : Nat))) := (by first | exact wrap_succ (by omega) | exact (dc_a ⟨ha, hb⟩).2.symm | omega | (rw [dc_w2, ← (dc_a ⟨ha, hb⟩).1]; unfold dcO; exact lnO_s _ hk))
  have h := Run.of_outT (B := ⟨w, rw, 0, β⟩) (Λ := noLam) (Ψ := psiOf [(7, [.eqS 7 (.o (.a (.i .i64 ((nib (B32 (modL (BV a))) k) + (dcC (B32 (modL (BV a))) k)))))])]) (fuel := 0) (ora := [true, true, true, true, true]) (c := (loopB Try.f62 0)) (st := (dl62_mk a k s)) (l := [.forget [0, 1, 2, 3, 4, 5, 8, 9, 10, 11, 12] 3]) (s' := ⟨sparse 41 [(0, .o (.g [.ints .u8 (32 : Nat) a])), (1, .o (.a (.p 0 0))), (2, .o (.a (.raw (.slice none 0 0)))), (3, .o (.a (.p 1 0))), (4, .o (.a (.sl 2 (0 : Nat) (64 : Nat) (64 : Nat)))), (5, .o (.a (.i .i64 (1 : Int)))), (8, .o (.g [.ints .u8 (32 : Nat) a])), (9, .o (.g [.ints .u64 (4 : Nat) (W4 (modL (BV a)))])), (10, .o (.g [.ints .u8 (32 : Nat) (B32 (V4 (W4 (modL (BV a)))))])), (11, .o (.a (.sl 2 (0 : Nat) (64 : Nat) (64 : Nat)))), (12, .o (.a (.i .i64 (IntKind.i64.wrap (((k : Nat) : Int) + (1 : Int))))))], [some ⟨true, [.ints .u8 (32 : Nat) a]⟩, some ⟨true, [.ints .u8 (32 : Nat) (B32 (modL (BV a)))]⟩, some ⟨true, [.ints .i64 (64 : Nat) (List.set (dcO (B32 (modL (BV a))) k) k (IntKind.i64.wrap (((nib (B32 (modL (BV a))) k) + (dcC (B32 (modL (BV a))) k)) - (16 : Int))))]⟩]⟩) (ex := .normal) mix tabOkRJ gam72_ok
    (vc := [(k < (64 : Nat)), (((0 : Int) ≤ ((k : Nat) : Int)) ∧ (((k : Nat) : Int) < (64 : Int))), ((decide (((k : Nat) : Int) < (63 : Int))) = true), ((decide (((nib (B32 (modL (BV a))) k) + (dcC (B32 (modL (BV a))) k)) > (7 : Int))) = true), ((decide (((nib (B32 (modL (BV a))) k) + (dcC (B32 (modL (BV a))) k)) > (7 : Int))) = true), ((decide (((nib (B32 (modL (BV a))) k) + (dcC (B32 (modL (BV a))) k)) > (7 : Int))) = true), ((.o (.a (.i .i64 (IntKind.i64.wrap ((IntKind.i64.wrap (bits2 .and .u8 (shr .u8 (List.getD (B32 (modL (BV a))) (Int.toNat (IntKind.i64.wrap (Int.tdiv ((k : Nat) : Int) (2 : Int)))) 0) (IntKind.i64.wrap ((4 : Int) * (Int.tmod ((k : Nat) : Int) (2 : Int))))) (15 : Int))) + (dcC (B32 (modL (BV a))) k))))) : AV) = .o (.a (.i .i64 ((nib (B32 (modL (BV a))) k) + (dcC (B32 (modL (BV a))) k))))), ((0 : Int) ≤ (IntKind.i64.wrap ((4 : Int) * (Int.tmod ((k : Nat) : Int) (2 : Int))))), ((2 : Int) ≠ 0), ((Int.toNat (IntKind.i64.wrap (Int.tdiv ((k : Nat) : Int) (2 : Int)))) < (32 : Nat)), (((0 : Int) ≤ (IntKind.i64.wrap (Int.tdiv ((k : Nat) : Int) (2 : Int)))) ∧ ((IntKind.i64.wrap (Int.tdiv ((k : Nat) : Int) (2 : Int))) < (32 : Int))), ((2 : Int) ≠ 0), ((decide (((k : Nat) : Int) < (64 : Int))) = true)]) (by kernel_rfl)
    (AllP_cons (by have q := dq hk; have q1 := q.1; have q2 := q.2; have hc := dcC_rng (B32 (modL (BV a))) k; have hn := nib_rng (B32 (modL (BV a))) k; first | omega | (simp (disch := omega) only [wrapI]; omega)) (AllP_cons ⟨(by have q := dq hk; have q1 := q.1; have q2 := q.2; have hc := dcC_rng (B32 (modL (BV a))) k; have hn := nib_rng (B32 (modL (BV a))) k; first | omega | (simp (disch := omega) only [wrapI]; omega)), (by have q := dq hk; have q1 := q.1; have q2 := q.2; have hc := dcC_rng (B32 (modL (BV a))) k; have hn := nib_rng (B32 (modL (BV a))) k; first | omega | (simp (disch := omega) only [wrapI]; omega))⟩ (AllP_cons (decide_eq_true (by omega)) (AllP_cons (decide_eq_true ha) (AllP_cons (decide_eq_true ha) (AllP_cons (decide_eq_true ha) (AllP_cons ((congrArg (fun z => AV.o (.a (.i .i64 z))) (dc_w (B32 (modL (BV a))) k))) (AllP_cons (by have q := dq hk; have q1 := q.1; have q2 := q.2; have hc := dcC_rng (B32 (modL (BV a))) k; have hn := nib_rng (B32 (modL (BV a))) k; first | omega | (simp (disch := omega) only [wrapI]; omega)) (AllP_cons (by decide) (AllP_cons (by have q := dq hk; have q1 := q.1; have q2 := q.2; have hc := dcC_rng (B32 (modL (BV a))) k; have hn := nib_rng (B32 (modL (BV a))) k; first | omega | (simp (disch := omega) only [wrapI]; omega)) (AllP_cons ⟨(by have q := dq hk; have q1 := q.1; have q2 := q.2; have hc := dcC_rng (B32 (modL (BV a))) k; have hn := nib_rng (B32 (modL (BV a))) k; first | omega | (simp (disch := omega) only [wrapI]; omega)), (by have q := dq hk; have q1 := q.1; have q2 := q.2; have hc := dcC_rng (B32 (modL (BV a))) k; have hn := nib_rng (B32 (modL (BV a))) k; first | omega | (simp (disch := omega) only [wrapI]; omega))⟩ (AllP_cons (by decide) (AllP_cons (decide_eq_true (by have q := dq hk; have q1 := q.1; have q2 := q.2; have hc := dcC_rng (B32 (modL (BV a))) k; have hn := nib_rng (B32 (modL (BV a))) k; first | omega | (simp (disch := omega) only [wrapI]; omega))) (AllP_nil))))))))))))))
  rw [e0, e1, e2] at h
  exact h

set_option maxHeartbeats 1000000 in
theorem dl62_round_1 (a : List Int) (h0 : (Byt a)) (hv0 : List.length a = (32 : Nat)) (w : World) (rw : List Nat) (β : Env) (k : Nat) (hk : k < (64 : Nat)) (s : Unit) (ha : nib (B32 (modL (BV a))) k + dcC (B32 (modL (BV a))) k > 7) (hb : ¬ k < 63) : Run Try.prog ⟨w, rw, 0, β⟩ (loopB Try.f62 0) (dl62_mk a k s) (To ⟨w, rw, 0, β⟩ .normal (dl62_mk a (k + 1) (dl62_step k s))) := by
  have e0 : (List.set (dcO (B32 (modL (BV a))) k) k ((nib (B32 (modL (BV a))) k) + (dcC (B32 (modL (BV a))) k))) = (dcO (B32 (modL (BV a))) (k + (1 : Nat))) := (by first | exact wrap_succ (by omega) | exact (dc_b (fun h => hb h.2)).2.symm | omega | (rw [← (dc_b (fun h => hb h.2)).1]; unfold dcO; exact lnO_s _ hk))
  have e1 : (IntKind.i64.wrap (((k : Nat) : Int) + (1 : Int))) = (((k + (1 : Nat)) : Nat) : Int) := (by first | exact wrap_succ (by omega) | exact (dc_b (fun h => hb h.2)).2.symm | omega | (rw [← (dc_b (fun h => hb h.2)).1]; unfold dcO; exact lnO_s _ hk))
  have e2 : (0 : Int) = (dcC (B32 (modL (BV a))) (k + (1 : Nat))) := (by first | exact wrap_succ (by omega) | exact (dc_b (fun h => hb h.2)).2.symm | omega | (rw [← (dc_b (fun h => hb h.2)).1]; unfold dcO; exact lnO_s _ hk))
  have h := Run.of_outT (B := ⟨w, rw, 0, β⟩) (Λ := noLam) (Ψ := psiOf [(7, [.eqS 7 (.o (.a (.i .i64 ((nib (B32 (modL (BV a))) k) + (dcC (B32 (modL (BV a))) k)))))])]) (fuel := 0) (ora := [true, true, true, true, false]) (c := (loopB Try.f62 0)) (st := (dl62_mk a k s)) (l := [.forget [0, 1, 2, 3, 4, 5, 8, 9, 10, 11, 12] 3]) (s' := ⟨sparse 41 [(0, .o (.g [.ints .u8 (32 : Nat) a])), (1, .o (.a (.p 0 0))), (2, .o (.a (.raw (.slice none 0 0)))), (3, .o (.a (.p 1 0))), (4, .o (.a (.sl 2 (0 : Nat) (64 : Nat) (64 : Nat)))), (5, .o (.a (.i .i64 (0 : Int)))), (8, .o (.g [.ints .u8 (32 : Nat) a])), (9, .o (.g [.ints .u64 (4 : Nat) (W4 (modL (BV a)))])), (10, .o (.g [.ints .u8 (32 : Nat) (B32 (V4 (W4 (modL (BV a)))))])), (11, .o (.a (.sl 2 (0 : Nat) (64 : Nat) (64 : Nat)))), (12, .o (.a (.i .i64 (IntKind.i64.wrap (((k : Nat) : Int) + (1 : Int))))))], [some ⟨true, [.ints .u8 (32 : Nat) a]⟩, some ⟨true, [.ints .u8 (32 : Nat) (B32 (modL (BV a)))]⟩, some ⟨true, [.ints .i64 (64 : Nat) (List.set (dcO (B32 (modL (BV a))) k) k ((nib (B32 (modL (BV a))) k) + (dcC (B32 (modL (BV a))) k)))]⟩]⟩) (ex := .normal) mix tabOkRJ gam72_ok
    (vc := [(k < (64 : Nat)), (((0 : Int) ≤ ((k : Nat) : Int)) ∧ (((k : Nat) : Int) < (64 : Int))), ((decide (((k : Nat) : Int) < (63 : Int))) = false), ((decide (((nib (B32 (modL (BV a))) k) + (dcC (B32 (modL (BV a))) k)) > (7 : Int))) = true), ((decide (((nib (B32 (modL (BV a))) k) + (dcC (B32 (modL (BV a))) k)) > (7 : Int))) = true), ((decide (((nib (B32 (modL (BV a))) k) + (dcC (B32 (modL (BV a))) k)) > (7 : Int))) = true), ((.o (.a (.i .i64 (IntKind.i64.wrap ((IntKind.i64.wrap (bits2 .and .u8 (shr .u8 (List.getD (B32 (modL (BV a))) (Int.toNat (IntKind.i64.wrap (Int.tdiv ((k : Nat) : Int) (2 : Int)))) 0) (IntKind.i64.wrap ((4 : Int) * (Int.tmod ((k : Nat) : Int) (2 : Int))))) (15 : Int))) + (dcC (B32 (modL (BV a))) k))))) : AV) = .o (.a (.i .i64 ((nib (B32 (modL (BV a))) k) + (dcC (B32 (modL (BV a))) k))))), ((0 : Int) ≤ (IntKind.i64.wrap ((4 : Int) * (Int.tmod ((k : Nat) : Int) (2 : Int))))), ((2 : Int) ≠ 0), ((Int.toNat (IntKind.i64.wrap (Int.tdiv ((k : Nat) : Int) (2 : Int)))) < (32 : Nat)), (((0 : Int) ≤ (IntKind.i64.wrap (Int.tdiv ((k : Nat) : Int) (2 : Int)))) ∧ ((IntKind.i64.wrap (Int.tdiv ((k : Nat) : Int) (2 : Int))) < (32 : Int))), ((2 : Int) ≠ 0), ((decide (((k : Nat) : Int) < (64 : Int))) = true)]) (by kernel_rfl)
    (AllP_cons (by have q := dq hk; have q1 := q.1; have q2 := q.2; have hc := dcC_rng (B32 (modL (BV a))) k; have hn := nib_rng (B32 (modL (BV a))) k; first | omega | (simp (disch := omega) only [wrapI]; omega)) (AllP_cons ⟨(by have q := dq hk; have q1 := q.1; have q2 := q.2; have hc := dcC_rng (B32 (modL (BV a))) k; have hn := nib_rng (B32 (modL (BV a))) k; first | omega | (simp (disch := omega) only [wrapI]; omega)), (by have q := dq hk; have q1 := q.1; have q2 := q.2; have hc := dcC_rng (B32 (modL (BV a))) k; have hn := nib_rng (B32 (modL (BV a))) k; first | omega | (simp (disch := omega) only [wrapI]; omega))⟩ (AllP_cons (decide_eq_false (by omega)) (AllP_cons (decide_eq_true ha) (AllP_cons (decide_eq_true ha) (AllP_cons (decide_eq_true ha) (AllP_cons ((congrArg (fun z => AV.o (.a (.i .i64 z))) (dc_w (B32 (modL (BV a))) k))) (AllP_cons (by have q := dq hk; have q1 := q.1; have q2 := q.2; have hc := dcC_rng (B32 (modL (BV a))) k; have hn := nib_rng (B32 (modL (BV a))) k; first | omega | (simp (disch := omega) only [wrapI]; omega)) (AllP_cons (by decide) (AllP_cons (by have q := dq hk; have q1 := q.1; have q2 := q.2; have hc := dcC_rng (B32 (modL (BV a))) k; have hn := nib_rng (B32 (modL (BV a))) k; first | omega | (simp (disch := omega) only [wrapI]; omega)) (AllP_cons ⟨(by have q := dq hk; have q1 := q.1; have q2 := q.2; have hc := dcC_rng (B32 (modL (BV a))) k; have hn := nib_rng (B32 (modL (BV a))) k; first | omega | (simp (disch := omega) only [wrapI]; omega)), (by have q := dq hk; have q1 := q.1; have q2 := q.2; have hc := dcC_rng (B32 (modL (BV a))) k; have hn := nib_rng (B32 (modL (BV a))) k; first | omega | (simp (disch := omega) only [wrapI]; omega))⟩ (AllP_cons (by decide) (AllP_cons (decide_eq_true (by have q := dq hk; have q1 := q.1; have q2 := q.2; have hc := dcC_rng (B32 (modL (BV a))) k; have hn := nib_rng (B32 (modL (BV a))) k; first | omega | (simp (disch := omega) only [wrapI]; omega))) (AllP_nil))))))))))))))
  rw [e0, e1, e2] at h
  exact h

set_option maxHeartbeats 1000000 in
theorem dl62_round_2 (a : List Int) (h0 : (Byt a)) (hv0 : List.length a = (32 : Nat)) (w : World) (rw : List Nat) (β : Env) (k : Nat) (hk : k < (64 : Nat)) (s : Unit) (ha : ¬ (nib (B32 (modL (BV a))) k + dcC (B32 (modL (BV a))) k > 7)) : Run Try.prog ⟨w, rw, 0, β⟩ (loopB Try.f62 0) (dl62_mk a k s) (To ⟨w, rw, 0, β⟩ .normal (dl62_mk a (k + 1) (dl62_step k s))) := by
  have e0 : (List.set (dcO (B32 (modL (BV a))) k) k ((nib (B32 (modL (BV a))) k) + (dcC (B32 (modL (BV a))) k))) = (dcO (B32 (modL (BV a))) (k + (1 : Nat))) := (by first | exact wrap_succ (by omega) | exact (dc_b (fun h => ha h.1)).2.symm | omega | (rw [← (dc_b (fun h => ha h.1)).1]; unfold dcO; exact lnO_s _ hk))
  have e1 : (IntKind.i64.wrap (((k : Nat) : Int) + (1 : Int))) = (((k + (1 : Nat)) : Nat) : Int) := (by first | exact wrap_succ (by omega) | exact (dc_b (fun h => ha h.1)).2.symm | omega | (rw [← (dc_b (fun h => ha h.1)).1]; unfold dcO; exact lnO_s _ hk))
  have e2 : (0 : Int) = (dcC (B32 (modL (BV a))) (k + (1 : Nat))) := (by first | exact wrap_succ (by omega) | exact (dc_b (fun h => ha h.1)).2.symm | omega | (rw [← (dc_b (fun h => ha h.1)).1]; unfold dcO; exact lnO_s _ hk))
  have h := Run.of_outT (B := ⟨w, rw, 0, β⟩) (Λ := noLam) (Ψ := psiOf [(7, [.eqS 7 (.o (.a (.i .i64 ((nib (B32 (modL (BV a))) k) + (dcC (B32 (modL (BV a))) k)))))])]) (fuel := 0) (ora := [true, false, false, false, false]) (c := (loopB Try.f62 0)) (st := (dl62_mk a k s)) (l := [.forget [0, 1, 2, 3, 4, 5, 8, 9, 10, 11, 12] 3]) (s' := ⟨sparse 41 [(0, .o (.g [.ints .u8 (32 : Nat) a])), (1, .o (.a (.p 0 0))), (2, .o (.a (.raw (.slice none 0 0)))), (3, .o (.a (.p 1 0))), (4, .o (.a (.sl 2 (0 : Nat) (64 : Nat) (64 : Nat)))), (5, .o (.a (.i .i64 (0 : Int)))), (8, .o (.g [.ints .u8 (32 : Nat) a])), (9, .o (.g [.ints .u64 (4 : Nat) (W4 (modL (BV a)))])), (10, .o (.g [.ints .u8 (32 : Nat) (B32 (V4 (W4 (modL (BV a)))))])), (11, .o (.a (.sl 2 (0 : Nat) (64 : Nat) (64 : Nat)))), (12, .o (.a (.i .i64 (IntKind.i64.wrap (((k : Nat) : Int) + (1 : Int))))))], [some ⟨true, [.ints .u8 (32 : Nat) a]⟩, some ⟨true, [.ints .u8 (32 : Nat) (B32 (modL (BV a)))]⟩, some ⟨true, [.ints .i64 (64 : Nat) (List.set (dcO (B32 (modL (BV a))) k) k ((nib (B32 (modL (BV a))) k) + (dcC (B32 (modL (BV a))) k)))]⟩]⟩) (ex := .normal) mix tabOkRJ gam72_ok
    (vc := [(k < (64 : Nat)), (((0 : Int) ≤ ((k : Nat) : Int)) ∧ (((k : Nat) : Int) < (64 : Int))), (false = false), ((decide (((nib (B32 (modL (BV a))) k) + (dcC (B32 (modL (BV a))) k)) > (7 : Int))) = false), ((decide (((nib (B32 (modL (BV a))) k) + (dcC (B32 (modL (BV a))) k)) > (7 : Int))) = false), ((decide (((nib (B32 (modL (BV a))) k) + (dcC (B32 (modL (BV a))) k)) > (7 : Int))) = false), ((.o (.a (.i .i64 (IntKind.i64.wrap ((IntKind.i64.wrap (bits2 .and .u8 (shr .u8 (List.getD (B32 (modL (BV a))) (Int.toNat (IntKind.i64.wrap (Int.tdiv ((k : Nat) : Int) (2 : Int)))) 0) (IntKind.i64.wrap ((4 : Int) * (Int.tmod ((k : Nat) : Int) (2 : Int))))) (15 : Int))) + (dcC (B32 (modL (BV a))) k))))) : AV) = .o (.a (.i .i64 ((nib (B32 (modL (BV a))) k) + (dcC (B32 (modL (BV a))) k))))), ((0 : Int) ≤ (IntKind.i64.wrap ((4 : Int) * (Int.tmod ((k : Nat) : Int) (2 : Int))))), ((2 : Int) ≠ 0), ((Int.toNat (IntKind.i64.wrap (Int.tdiv ((k : Nat) : Int) (2 : Int)))) < (32 : Nat)), (((0 : Int) ≤ (IntKind.i64.wrap (Int.tdiv ((k : Nat) : Int) (2 : Int)))) ∧ ((IntKind.i64.wrap (Int.tdiv ((k : Nat) : Int) (2 : Int))) < (32 : Int))), ((2 : Int) ≠ 0), ((decide (((k : Nat) : Int) < (64 : Int))) = true)]) (by kernel_rfl)
    (AllP_cons (by have q := dq hk; have q1 := q.1; have q2 := q.2; have hc := dcC_rng (B32 (modL (BV a))) k; have hn := nib_rng (B32 (modL (BV a))) k; first | omega | (simp (disch := omega) only [wrapI]; omega)) (AllP_cons ⟨(by have q := dq hk; have q1 := q.1; have q2 := q.2; have hc := dcC_rng (B32 (modL (BV a))) k; have hn := nib_rng (B32 (modL (BV a))) k; first | omega | (simp (disch := omega) only [wrapI]; omega)), (by have q := dq hk; have q1 := q.1; have q2 := q.2; have hc := dcC_rng (B32 (modL (BV a))) k; have hn := nib_rng (B32 (modL (BV a))) k; first | omega | (simp (disch := omega) only [wrapI]; omega))⟩ (AllP_cons rfl (AllP_cons (decide_eq_false ha) (AllP_cons (decide_eq_false ha) (AllP_cons (decide_eq_false ha) (AllP_cons ((congrArg (fun z => AV.o (.a (.i .i64 z))) (dc_w (B32 (modL (BV a))) k))) (AllP_cons (by have q := dq hk; have q1 := q.1; have q2 := q.2; have hc := dcC_rng (B32 (modL (BV a))) k; have hn := nib_rng (B32 (modL (BV a))) k; first | omega | (simp (disch := omega) only [wrapI]; omega)) (AllP_cons (by decide) (AllP_cons (by have q := dq hk; have q1 := q.1; have q2 := q.2; have hc := dcC_rng (B32 (modL (BV a))) k; have hn := nib_rng (B32 (modL (BV a))) k; first | omega | (simp (disch := omega) only [wrapI]; omega)) (AllP_cons ⟨(by have q := dq hk; have q1 := q.1; have q2 := q.2; have hc := dcC_rng (B32 (modL (BV a))) k; have hn := nib_rng (B32 (modL (BV a))) k; first | omega | (simp (disch := omega) only [wrapI]; omega)), (by have q := dq hk; have q1 := q.1; have q2 := q.2; have hc := dcC_rng (B32 (modL (BV a))) k; have hn := nib_rng (B32 (modL (BV a))) k; first | omega | (simp (disch := omega) only [wrapI]; omega))⟩ (AllP_cons (by decide) (AllP_cons (decide_eq_true (by have q := dq hk; have q1 := q.1; have q2 := q.2; have hc := dcC_rng (B32 (modL (BV a))) k; have hn := nib_rng (B32 (modL (BV a))) k; first | omega | (simp (disch := omega) only [wrapI]; omega))) (AllP_nil))))))))))))))
  rw [e0, e1, e2] at h
  exact h

theorem dl62_round (a : List Int) (h0 : (Byt a)) (hv0 : List.length a = (32 : Nat)) (w : World) (rw : List Nat) (β : Env) (k : Nat) (hk : k < (64 : Nat)) (s : Unit) : Run Try.prog ⟨w, rw, 0, β⟩ (loopB Try.f62 0) (dl62_mk a k s) (To ⟨w, rw, 0, β⟩ .normal (dl62_mk a (k + 1) (dl62_step k s))) := by
  by_cases ha : nib (B32 (modL (BV a))) k + dcC (B32 (modL (BV a))) k > 7
  · by_cases hb : k < 63
    · exact dl62_round_0 a h0 hv0 w rw β k hk s ha hb
    · exact dl62_round_1 a h0 hv0 w rw β k hk s ha hb
  · exact dl62_round_2 a h0 hv0 w rw β k hk s ha

set_option maxHeartbeats 1000000 in
theorem dl62_last (a : List Int) (h0 : (Byt a)) (hv0 : List.length a = (32 : Nat)) (w : World) (rw : List Nat) (β : Env) (s : Unit) : Run Try.prog ⟨w, rw, 0, β⟩ (loopB Try.f62 0) (dl62_mk a (64 : Nat) s) (To ⟨w, rw, 0, β⟩ (.exit 0) (dl62_mk a (64 : Nat) s)) :=
  Run.of_outT (B := ⟨w, rw, 0, β⟩) (Λ := noLam) (Ψ := noPsi) (fuel := 0) (ora := [false]) (l := [.forget [0, 1, 2, 3, 4, 5, 8, 9, 10, 11, 12] 3]) mix tabOkRJ gam72_ok
    (vc := [(false = false)]) (by kernel_rfl)
    (AllP_cons rfl (AllP_nil))

theorem dl62_loop (a : List Int) (h0 : (Byt a)) (hv0 : List.length a = (32 : Nat)) (w : World) (rw : List Nat) (β : Env) (s : Unit) : Run Try.prog ⟨w, rw, 0, β⟩ (.block 0 (.loop (loopB Try.f62 0))) (dl62_mk a 0 s) (To ⟨w, rw, 0, β⟩ .normal (dl62_mk a (64 : Nat) (iter (dl62_step) (64 : Nat) s))) :=
  Run.count (fun k => dl62_mk a k (iter (dl62_step) k s)) (64 : Nat) (fun k hk => dl62_round a h0 hv0 w rw β k hk _) (ex := (.exit 0)) (by simp) (dl62_last a h0 hv0 w rw β _)

def digP (a : List Int) : List Int :=
  (B32 (modL (BV a)))

def digP_1 (a : List Int) : List Int :=
  (dcO (B32 (modL (BV a))) (64 : Nat))

set_option maxHeartbeats 1000000 in
theorem digP_body0 (a : List Int) (h0 : (Byt a)) (hv0 : List.length a = (32 : Nat)) (w : World) (rw : List Nat) (β : Env) : Body Try.prog (tabOf tabRJ) Try.f62 ⟨w, rw, 0, β⟩ [.o (.g [.ints .u8 (32 : Nat) a])] [] (fun ys K' => ys = [.a (.sl 2 (0 : Nat) (64 : Nat) (64 : Nat))] ∧ K' = [some ⟨true, [.ints .u8 (32 : Nat) a]⟩, some ⟨true, [.ints .u8 (32 : Nat) (digP a)]⟩, some ⟨true, [.ints .i64 (64 : Nat) (digP_1 a)]⟩]) :=
  Body.of_finK (Γ := gam72) (Λ := lamOf [(0, ⟨[.eqB 2 (⟨true, [.ints .i64 (64 : Nat) (dcO (B32 (modL (BV a))) (0 : Nat))]⟩), .eqS 5 (.o (.a (.i .i64 (dcC (B32 (modL (BV a))) (0 : Nat))))), .forget [0, 1, 2, 3, 4, 5, 8, 9, 10, 11, 12] 3], .normal, (dl62_mk a (64 : Nat) (iter (dl62_step) (64 : Nat) ()))⟩)]) (Ψ := psiOf [(1, [.eqB 1 (⟨true, [.ints .u8 (32 : Nat) (B32 (modL (BV a)))]⟩)])]) (fuel := 0) (m := 41) (c := (Try.f62.body.getD .skip)) mix tabOkRJ gam72_ok rfl (rs := [.tmp 2]) rfl rfl [] [] 4
    (vc := [(Run Try.prog ⟨w, rw, 0, β⟩ (.block 0 (.loop (loopB Try.f62 0))) (dl62_mk a 0 ()) (To ⟨w, rw, 0, β⟩ .normal (dl62_mk a (64 : Nat) (iter (dl62_step) (64 : Nat) ())))), ((.o (.a (.i .i64 (0 : Int))) : AV) = .o (.a (.i .i64 (dcC (B32 (modL (BV a))) (0 : Nat))))), ((some ⟨true, [.ints .i64 (64 : Nat) (List.replicate (64 : Nat) (0 : Int))]⟩ : Option Blk) = some ⟨true, [.ints .i64 (64 : Nat) (dcO (B32 (modL (BV a))) (0 : Nat))]⟩), (((0 : Int) ≤ (64 : Int)) ∧ ((64 : Int) ≤ (64 : Int)) ∧ ((512 : Int) ≤ (281474976710656 : Int))), ((some ⟨true, [.ints .u8 (32 : Nat) (B32 (V4 (W4 (modL (BV a)))))]⟩ : Option Blk) = some ⟨true, [.ints .u8 (32 : Nat) (B32 (modL (BV a)))]⟩), (Wds (W4 (modL (BV a)))), (Byt a)]) (by kernel_rfl)
    (AllP_cons (dl62_loop a h0 hv0 w rw β ()) (AllP_cons ((by rfl)) (AllP_cons ((by unfold dcO; rw [lnO_0])) (AllP_cons ⟨(by decide), (by decide), (by decide)⟩ (AllP_cons ((by rw [V4_modL])) (AllP_cons (wds_W4 _) (AllP_cons (by assumption) (AllP_nil))))))))

theorem digP_body (a : List Int) (h0 : (Byt a)) (w : World) (rw : List Nat) (β : Env) : Body Try.prog (tabOf tabRJ) Try.f62 ⟨w, rw, 0, β⟩ [.o (.g [.ints .u8 (32 : Nat) a])] [] (fun ys K' => ys = [.a (.sl 2 (0 : Nat) (64 : Nat) (64 : Nat))] ∧ K' = [some ⟨true, [.ints .u8 (32 : Nat) a]⟩, some ⟨true, [.ints .u8 (32 : Nat) (digP a)]⟩, some ⟨true, [.ints .i64 (64 : Nat) (digP_1 a)]⟩]) :=
  Body.lens (c := (Try.f62.body.getD .skip)) rfl fun h => digP_body0 a h0 (h.vals 0 _ _ _ rfl) w rw β

def dl63_mk (a : List Int) (k : Nat) (s : Unit) : St := ⟨sparse 41 [(0, .o (.g [.ints .u8 (32 : Nat) a])), (1, .o (.a (.p 0 0))), (2, .o (.a (.raw (.slice none 0 0)))), (3, .o (.a (.p 1 0))), (4, .o (.a (.rs 2 (0 : Nat) k 1))), (5, .o (.a (.i .i64 (dcC (B32 (modL (BV a))) k)))), (6, .o (.a (.i .i64 ((k : Nat) : Int)))), (8, .o (.g [.ints .u8 (32 : Nat) a])), (9, .o (.g [.ints .u32 (8 : Nat) (W8 (modL (BV a)))])), (10, .o (.g [.ints .u8 (32 : Nat) (B32 (V8 (W8 (modL (BV a)))))]))], [some ⟨true, [.ints .u8 (32 : Nat) a]⟩, some ⟨true, [.ints .u8 (32 : Nat) (B32 (modL (BV a)))]⟩, some ⟨true, [.ints .i64 k (dcR (B32 (modL (BV a))) k)]⟩]⟩

def dl63_step (k : Nat) (s : Unit) : Unit :=
  ()

set_option maxHeartbeats 1000000 in
theorem dl63_round_0 (a : List Int) (h0 : (Byt a)) (hv0 : List.length a = (32 : Nat)) (w : World) (rw : List Nat) (β : Env) (k : Nat) (hk : k < (64 : Nat)) (s : Unit) (ha : nib (B32 (modL (BV a))) k + dcC (B32 (modL (BV a))) k > 7) (hb : k < 63) : Run Try.prog ⟨w, rw, 0, β⟩ (loopB Try.f63 0) (dl63_mk a k s) (To ⟨w, rw, 0, β⟩ .normal (dl63_mk a (k + 1) (dl63_step k s))) := by
  have e0 : ((sub (dcR (B32 (modL (BV a))) k) (0 : Nat) k) ++ ([(IntKind.i64.wrap (((nib (B32 (modL (BV a))) k) + (dcC (B32 (modL (BV a))) k)) - (16 : Int)))] : List Int)) = (dcR (B32 (modL (BV a))) (k + (1 : Nat))) := (by first | exact wrap_succ (by omega) | exact (dc_a ⟨ha, hb⟩).2.symm | omega | (rw [sub_all _ _ (Nat.le_of_eq (by unfold dcR; exact lnR_len _ _))]; rw [dc_w2, ← (dc_a ⟨ha, hb⟩).1]; unfold dcR; rw [lnR_s]))
  have e1 : (IntKind.i64.wrap (((k : Nat) : Int) + (1 : Int))) = (((k + (1 : Nat)) : Nat) : Int) := (by first | exact wrap_succ (by omega) | exact (dc_a ⟨ha, hb⟩).2.symm | omega | (rw [sub_all _ _ (Nat.le_of_eq (by unfold dcR; exact lnR_len _ _))]; rw [dc_w2, ← (dc_a ⟨ha, hb⟩).1]; unfold dcR; rw [lnR_s]))
  have e2 : (1 : Int) = (dcC (B32 (modL (BV a))) (k + (1 : Nat))) := (by first | exact wrap_succ (by omega) | exact (dc_a ⟨ha, hb⟩).2.symm | omega | (rw [sub_all _ _ (Nat.le_of_eq (by unfold dcR; exact lnR_len _ _))]; rw [dc_w2, ← (dc_a ⟨ha, hb⟩).1]; unfold dcR; rw [lnR_s]))
  have h := Run.of_outT (B := ⟨w, rw, 0, β⟩) (Λ := noLam) (Ψ := psiOf [(7, [.eqS 7 (.o (.a (.i .i64 ((nib (B32 (modL (BV a))) k) + (dcC (B32 (modL (BV a))) k)))))])]) (fuel := 0) (ora := [true, true, true, true, true, false]) (c := (loopB Try.f63 0)) (st := (dl63_mk a k s)) (l := [.swap 2 4, .forget [0, 1, 2, 3, 4, 5, 6, 8, 9, 10] 3]) (s' := ⟨sparse 41 [(0, .o (.g [.ints .u8 (32 : Nat) a])), (1, .o (.a (.p 0 0))), (2, .o (.a (.raw (.slice none 0 0)))), (3, .o (.a (.p 1 0))), (4, .o (.a (.rs 2 (0 : Nat) (k + (1 : Nat)) 1))), (5, .o (.a (.i .i64 (1 : Int)))), (6, .o (.a (.i .i64 (IntKind.i64.wrap (((k : Nat) : Int) + (1 : Int)))))), (8, .o (.g [.ints .u8 (32 : Nat) a])), (9, .o (.g [.ints .u32 (8 : Nat) (W8 (modL (BV a)))])), (10, .o (.g [.ints .u8 (32 : Nat) (B32 (V8 (W8 (modL (BV a)))))]))], [some ⟨true, [.ints .u8 (32 : Nat) a]⟩, some ⟨true, [.ints .u8 (32 : Nat) (B32 (modL (BV a)))]⟩, some ⟨true, [.ints .i64 (k + (1 : Nat)) ((sub (dcR (B32 (modL (BV a))) k) (0 : Nat) k) ++ ([(IntKind.i64.wrap (((nib (B32 (modL (BV a))) k) + (dcC (B32 (modL (BV a))) k)) - (16 : Int)))] : List Int))]⟩]⟩) (ex := .normal) mix tabOkRJ gam72_ok
    (vc := [((((0 : Nat) + k) ≤ k) ∧ (((1 : Nat) ≤ (1 : Nat)) ∧ ((1 : Nat) ≤ (1 : Nat))) ∧ (((k + (1 : Nat)) * (8 : Nat)) ≤ (140737488355328 : Nat))), ((decide (((k : Nat) : Int) < (63 : Int))) = true), ((decide (((nib (B32 (modL (BV a))) k) + (dcC (B32 (modL (BV a))) k)) > (7 : Int))) = true), ((decide (((nib (B32 (modL (BV a))) k) + (dcC (B32 (modL (BV a))) k)) > (7 : Int))) = true), ((decide (((nib (B32 (modL (BV a))) k) + (dcC (B32 (modL (BV a))) k)) > (7 : Int))) = true), ((.o (.a (.i .i64 (IntKind.i64.wrap ((IntKind.i64.wrap (bits2 .and .u8 (shr .u8 (List.getD (B32 (modL (BV a))) (Int.toNat (IntKind.i64.wrap (Int.tdiv ((k : Nat) : Int) (2 : Int)))) 0) (IntKind.u64.wrap (IntKind.i64.wrap ((4 : Int) * (Int.tmod ((k : Nat) : Int) (2 : Int)))))) (15 : Int))) + (dcC (B32 (modL (BV a))) k))))) : AV) = .o (.a (.i .i64 ((nib (B32 (modL (BV a))) k) + (dcC (B32 (modL (BV a))) k))))), ((0 : Int) ≤ (IntKind.u64.wrap (IntKind.i64.wrap ((4 : Int) * (Int.tmod ((k : Nat) : Int) (2 : Int)))))), ((2 : Int) ≠ 0), ((Int.toNat (IntKind.i64.wrap (Int.tdiv ((k : Nat) : Int) (2 : Int)))) < (32 : Nat)), (((0 : Int) ≤ (IntKind.i64.wrap (Int.tdiv ((k : Nat) : Int) (2 : Int)))) ∧ ((IntKind.i64.wrap (Int.tdiv ((k : Nat) : Int) (2 : Int))) < (32 : Int))), ((2 : Int) ≠ 0), ((decide (((k : Nat) : Int) < (64 : Int))) = true)]) (by kernel_rfl)
    (AllP_cons ⟨(by have q := dq hk; have q1 := q.1; have q2 := q.2; have hc := dcC_rng (B32 (modL (BV a))) k; have hn := nib_rng (B32 (modL (BV a))) k; first | omega | (simp (disch := omega) only [wrapI]; omega)), ⟨(by decide), (by decide)⟩, (by have q := dq hk; have q1 := q.1; have q2 := q.2; have hc := dcC_rng (B32 (modL (BV a))) k; have hn := nib_rng (B32 (modL (BV a))) k; first | omega | (simp (disch := omega) only [wrapI]; omega))⟩ (AllP_cons (decide_eq_true (by omega)) (AllP_cons (decide_eq_true ha) (AllP_cons (decide_eq_true ha) (AllP_cons (decide_eq_true ha) (AllP_cons ((congrArg (fun z => AV.o (.a (.i .i64 z))) (dc_wr (B32 (modL (BV a))) hk))) (AllP_cons (wrap_nn rfl) (AllP_cons (by decide) (AllP_cons (by have q := dq hk; have q1 := q.1; have q2 := q.2; have hc := dcC_rng (B32 (modL (BV a))) k; have hn := nib_rng (B32 (modL (BV a))) k; first | omega | (simp (disch := omega) only [wrapI]; omega)) (AllP_cons ⟨(by have q := dq hk; have q1 := q.1; have q2 := q.2; have hc := dcC_rng (B32 (modL (BV a))) k; have hn := nib_rng (B32 (modL (BV a))) k; first | omega | (simp (disch := omega) only [wrapI]; omega)), (by have q := dq hk; have q1 := q.1; have q2 := q.2; have hc := dcC_rng (B32 (modL (BV a))) k; have hn := nib_rng (B32 (modL (BV a))) k; first | omega | (simp (disch := omega) only [wrapI]; omega))⟩ (AllP_cons (by decide) (AllP_cons (decide_eq_true (by have q := dq hk; have q1 := q.1; have q2 := q.2; have hc := dcC_rng (B32 (modL (BV a))) k; have hn := nib_rng (B32 (modL (BV a))) k; first | omega | (simp (disch := omega) only [wrapI]; omega))) (AllP_nil)))))))))))))
  rw [e0, e1, e2] at h
  exact h

set_option maxHeartbeats 1000000 in
theorem dl63_round_1 (a : List Int) (h0 : (Byt a)) (hv0 : List.length a = (32 : Nat)) (w : World) (rw : List Nat) (β : Env) (k : Nat) (hk : k < (64 : Nat)) (s : Unit) (ha : nib (B32 (modL (BV a))) k + dcC (B32 (modL (BV a))) k > 7) (hb : ¬ k < 63) : Run Try.prog ⟨w, rw, 0, β⟩ (loopB Try.f63 0) (dl63_mk a k s) (To ⟨w, rw, 0, β⟩ .normal (dl63_mk a (k + 1) (dl63_step k s))) := by
  have e0 : ((sub (dcR (B32 (modL (BV a))) k) (0 : Nat) k) ++ ([((nib (B32 (modL (BV a))) k) + (dcC (B32 (modL (BV a))) k))] : List Int)) = (dcR (B32 (modL (BV a))) (k + (1 : Nat))) := (by first | exact wrap_succ (by omega) | exact (dc_b (fun h => hb h.2)).2.symm | omega | (rw [sub_all _ _ (Nat.le_of_eq (by unfold dcR; exact lnR_len _ _))]; rw [← (dc_b (fun h => hb h.2)).1]; unfold dcR; rw [lnR_s]))
  have e1 : (IntKind.i64.wrap (((k : Nat) : Int) + (1 : Int))) = (((k + (1 : Nat)) : Nat) : Int) := (by first | exact wrap_succ (by omega) | exact (dc_b (fun h => hb h.2)).2.symm | omega | (rw [sub_all _ _ (Nat.le_of_eq (by unfold dcR; exact lnR_len _ _))]; rw [← (dc_b (fun h => hb h.2)).1]; unfold dcR; rw [lnR_s]))
  have e2 : (0 : Int) = (dcC (B32 (modL (BV a))) (k + (1 : Nat))) := (by first | exact wrap_succ (by omega) | exact (dc_b (fun h => hb h.2)).2.symm | omega | (rw [sub_all _ _ (Nat.le_of_eq (by unfold dcR; exact lnR_len _ _))]; rw [← (dc_b (fun h => hb h.2)).1]; unfold dcR; rw [lnR_s]))
  have h := Run.of_outT (B := ⟨w, rw, 0, β⟩) (Λ := noLam) (Ψ := psiOf [(7, [.eqS 7 (.o (.a (.i .i64 ((nib (B32 (modL (BV a))) k) + (dcC (B32 (modL (BV a))) k)))))])]) (fuel := 0) (ora := [true, true, true, true, false, false]) (c := (loopB Try.f63 0)) (st := (dl63_mk a k s)) (l := [.swap 2 4, .forget [0, 1, 2, 3, 4, 5, 6, 8, 9, 10] 3]) (s' := ⟨sparse 41 [(0, .o (.g [.ints .u8 (32 : Nat) a])), (1, .o (.a (.p 0 0))), (2, .o (.a (.raw (.slice none 0 0)))), (3, .o (.a (.p 1 0))), (4, .o (.a (.rs 2 (0 : Nat) (k + (1 : Nat)) 1))), (5, .o (.a (.i .i64 (0 : Int)))), (6, .o (.a (.i .i64 (IntKind.i64.wrap (((k : Nat) : Int) + (1 : Int)))))), (8, .o (.g [.ints .u8 (32 : Nat) a])), (9, .o (.g [.ints .u32 (8 : Nat) (W8 (modL (BV a)))])), (10, .o (.g [.ints .u8 (32 : Nat) (B32 (V8 (W8 (modL (BV a)))))]))], [some ⟨true, [.ints .u8 (32 : Nat) a]⟩, some ⟨true, [.ints .u8 (32 : Nat) (B32 (modL (BV a)))]⟩, some ⟨true, [.ints .i64 (k + (1 : Nat)) ((sub (dcR (B32 (modL (BV a))) k) (0 : Nat) k) ++ ([((nib (B32 (modL (BV a))) k) + (dcC (B32 (modL (BV a))) k))] : List Int))]⟩]⟩) (ex := .normal) mix tabOkRJ gam72_ok
    (vc := [((((0 : Nat) + k) ≤ k) ∧ (((1 : Nat) ≤ (1 : Nat)) ∧ ((1 : Nat) ≤ (1 : Nat))) ∧ (((k + (1 : Nat)) * (8 : Nat)) ≤ (140737488355328 : Nat))), ((decide (((k : Nat) : Int) < (63 : Int))) = false), ((decide (((nib (B32 (modL (BV a))) k) + (dcC (B32 (modL (BV a))) k)) > (7 : Int))) = true), ((decide (((nib (B32 (modL (BV a))) k) + (dcC (B32 (modL (BV a))) k)) > (7 : Int))) = true), ((decide (((nib (B32 (modL (BV a))) k) + (dcC (B32 (modL (BV a))) k)) > (7 : Int))) = true), ((.o (.a (.i .i64 (IntKind.i64.wrap ((IntKind.i64.wrap (bits2 .and .u8 (shr .u8 (List.getD (B32 (modL (BV a))) (Int.toNat (IntKind.i64.wrap (Int.tdiv ((k : Nat) : Int) (2 : Int)))) 0) (IntKind.u64.wrap (IntKind.i64.wrap ((4 : Int) * (Int.tmod ((k : Nat) : Int) (2 : Int)))))) (15 : Int))) + (dcC (B32 (modL (BV a))) k))))) : AV) = .o (.a (.i .i64 ((nib (B32 (modL (BV a))) k) + (dcC (B32 (modL (BV a))) k))))), ((0 : Int) ≤ (IntKind.u64.wrap (IntKind.i64.wrap ((4 : Int) * (Int.tmod ((k : Nat) : Int) (2 : Int)))))), ((2 : Int) ≠ 0), ((Int.toNat (IntKind.i64.wrap (Int.tdiv ((k : Nat) : Int) (2 : Int)))) < (32 : Nat)), (((0 : Int) ≤ (IntKind.i64.wrap (Int.tdiv ((k : Nat) : Int) (2 : Int)))) ∧ ((IntKind.i64.wrap (Int.tdiv ((k : Nat) : Int) (2 : Int))) < (32 : Int))), ((2 : Int) ≠ 0), ((decide (((k : Nat) : Int) < (64 : Int))) = true)]) (by kernel_rfl)
    (AllP_cons ⟨(by have q := dq hk; have q1 := q.1; have q2 := q.2; have hc := dcC_rng (B32 (modL (BV a))) k; have hn := nib_rng (B32 (modL (BV a))) k; first | omega | (simp (disch := omega) only [wrapI]; omega)), ⟨(by decide), (by decide)⟩, (by have q := dq hk; have q1 := q.1; have q2 := q.2; have hc := dcC_rng (B32 (modL (BV a))) k; have hn := nib_rng (B32 (modL (BV a))) k; first | omega | (simp (disch := omega) only [wrapI]; omega))⟩ (AllP_cons (decide_eq_false (by omega)) (AllP_cons (decide_eq_true ha) (AllP_cons (decide_eq_true ha) (AllP_cons (decide_eq_true ha) (AllP_cons ((congrArg (fun z => AV.o (.a (.i .i64 z))) (dc_wr (B32 (modL (BV a))) hk))) (AllP_cons (wrap_nn rfl) (AllP_cons (by decide) (AllP_cons (by have q := dq hk; have q1 := q.1; have q2 := q.2; have hc := dcC_rng (B32 (modL (BV a))) k; have hn := nib_rng (B32 (modL (BV a))) k; first | omega | (simp (disch := omega) only [wrapI]; omega)) (AllP_cons ⟨(by have q := dq hk; have q1 := q.1; have q2 := q.2; have hc := dcC_rng (B32 (modL (BV a))) k; have hn := nib_rng (B32 (modL (BV a))) k; first | omega | (simp (disch := omega) only [wrapI]; omega)), (by have q := dq hk; have q1 := q.1; have q2 := q.2; have hc := dcC_rng (B32 (modL (BV a))) k; have hn := nib_rng (B32 (modL (BV a))) k; first | omega | (simp (disch := omega) only [wrapI]; omega))⟩ (AllP_cons (by decide) (AllP_cons (decide_eq_true (by have q := dq hk; have q1 := q.1; have q2 := q.2; have hc := dcC_rng (B32 (modL (BV a))) k; have hn := nib_rng (B32 (modL (BV a))) k; first | omega | (simp (disch := omega) only [wrapI]; omega))) (AllP_nil)))))))))))))
  rw [e0, e1, e2] at h
  exact h

set_option maxHeartbeats 1000000 in
theorem dl63_round_2 (a : List Int) (h0 : (Byt a)) (hv0 : List.length a = (32 : Nat)) (w : World) (rw : List Nat) (β : Env) (k : Nat) (hk : k < (64 : Nat)) (s : Unit) (ha : ¬ (nib (B32 (modL (BV a))) k + dcC (B32 (modL (BV a))) k > 7)) : Run Try.prog ⟨w, rw, 0, β⟩ (loopB Try.f63 0) (dl63_mk a k s) (To ⟨w, rw, 0, β⟩ .normal (dl63_mk a (k + 1) (dl63_step k s))) := by
  have e0 : ((sub (dcR (B32 (modL (BV a))) k) (0 : Nat) k) ++ ([((nib (B32 (modL (BV a))) k) + (dcC (B32 (modL (BV a))) k))] : List Int)) = (dcR (B32 (modL (BV a))) (k + (1 : Nat))) := (by first | exact wrap_succ (by omega) | exact (dc_b (fun h => ha h.1)).2.symm | omega | (rw [sub_all _ _ (Nat.le_of_eq (by unfold dcR; exact lnR_len _ _))]; rw [← (dc_b (fun h => ha h.1)).1]; unfold dcR; rw [lnR_s]))
  have e1 : (IntKind.i64.wrap (((k : Nat) : Int) + (1 : Int))) = (((k + (1 : Nat)) : Nat) : Int) := (by first | exact wrap_succ (by omega) | exact (dc_b (fun h => ha h.1)).2.symm | omega | (rw [sub_all _ _ (Nat.le_of_eq (by unfold dcR; exact lnR_len _ _))]; rw [← (dc_b (fun h => ha h.1)).1]; unfold dcR; rw [lnR_s]))
  have e2 : (0 : Int) = (dcC (B32 (modL (BV a))) (k + (1 : Nat))) := (by first | exact wrap_succ (by omega) | exact (dc_b (fun h => ha h.1)).2.symm | omega | (rw [sub_all _ _ (Nat.le_of_eq (by unfold dcR; exact lnR_len _ _))]; rw [← (dc_b (fun h => ha h.1)).1]; unfold dcR; rw [lnR_s]))
  have h := Run.of_outT (B := ⟨w, rw, 0, β⟩) (Λ := noLam) (Ψ := psiOf [(7, [.eqS 7 (.o (.a (.i .i64 ((nib (B32 (modL (BV a))) k) + (dcC (B32 (modL (BV a))) k)))))])]) (fuel := 0) (ora := [true, false, false, false, false, false]) (c := (loopB Try.f63 0)) (st := (dl63_mk a k s)) (l := [.swap 2 4, .forget [0, 1, 2, 3, 4, 5, 6, 8, 9, 10] 3]) (s' := ⟨sparse 41 [(0, .o (.g [.ints .u8 (32 : Nat) a])), (1, .o (.a (.p 0 0))), (2, .o (.a (.raw (.slice none 0 0)))), (3, .o (.a (.p 1 0))), (4, .o (.a (.rs 2 (0 : Nat) (k + (1 : Nat)) 1))), (5, .o (.a (.i .i64 (0 : Int)))), (6, .o (.a (.i .i64 (IntKind.i64.wrap (((k : Nat) : Int) + (1 : Int)))))), (8, .o (.g [.ints .u8 (32 : Nat) a])), (9, .o (.g [.ints .u32 (8 : Nat) (W8 (modL (BV a)))])), (10, .o (.g [.ints .u8 (32 : Nat) (B32 (V8 (W8 (modL (BV a)))))]))], [some ⟨true, [.ints .u8 (32 : Nat) a]⟩, some ⟨true, [.ints .u8 (32 : Nat) (B32 (modL (BV a)))]⟩, some ⟨true, [.ints .i64 (k + (1 : Nat)) ((sub (dcR (B32 (modL (BV a))) k) (0 : Nat) k) ++ ([((nib (B32 (modL (BV a))) k) + (dcC (B32 (modL (BV a))) k))] : List Int))]⟩]⟩) (ex := .normal) mix tabOkRJ gam72_ok
    (vc := [((((0 : Nat) + k) ≤ k) ∧ (((1 : Nat) ≤ (1 : Nat)) ∧ ((1 : Nat) ≤ (1 : Nat))) ∧ (((k + (1 : Nat)) * (8 : Nat)) ≤ (140737488355328 : Nat))), (false = false), ((decide (((nib (B32 (modL (BV a))) k) + (dcC (B32 (modL (BV a))) k)) > (7 : Int))) = false), ((decide (((nib (B32 (modL (BV a))) k) + (dcC (B32 (modL (BV a))) k)) > (7 : Int))) = false), ((decide (((nib (B32 (modL (BV a))) k) + (dcC (B32 (modL (BV a))) k)) > (7 : Int))) = false), ((.o (.a (.i .i64 (IntKind.i64.wrap ((IntKind.i64.wrap (bits2 .and .u8 (shr .u8 (List.getD (B32 (modL (BV a))) (Int.toNat (IntKind.i64.wrap (Int.tdiv ((k : Nat) : Int) (2 : Int)))) 0) (IntKind.u64.wrap (IntKind.i64.wrap ((4 : Int) * (Int.tmod ((k : Nat) : Int) (2 : Int)))))) (15 : Int))) + (dcC (B32 (modL (BV a))) k))))) : AV) = .o (.a (.i .i64 ((nib (B32 (modL (BV a))) k) + (dcC (B32 (modL (BV a))) k))))), ((0 : Int) ≤ (IntKind.u64.wrap (IntKind.i64.wrap ((4 : Int) * (Int.tmod ((k : Nat) : Int) (2 : Int)))))), ((2 : Int) ≠ 0), ((Int.toNat (IntKind.i64.wrap (Int.tdiv ((k : Nat) : Int) (2 : Int)))) < (32 : Nat)), (((0 : Int) ≤ (IntKind.i64.wrap (Int.tdiv ((k : Nat) : Int) (2 : Int)))) ∧ ((IntKind.i64.wrap (Int.tdiv ((k : Nat) : Int) (2 : Int))) < (32 : Int))), ((2 : Int) ≠ 0), ((decide (((k : Nat) : Int) < (64 : Int))) = true)]) (by kernel_rfl)
    (AllP_cons ⟨(by have q := dq hk; have q1 := q.1; have q2 := q.2; have hc := dcC_rng (B32 (modL (BV a))) k; have hn := nib_rng (B32 (modL (BV a))) k; first | omega | (simp (disch := omega) only [wrapI]; omega)), ⟨(by decide), (by decide)⟩, (by have q := dq hk; have q1 := q.1; have q2 := q.2; have hc := dcC_rng (B32 (modL (BV a))) k; have hn := nib_rng (B32 (modL (BV a))) k; first | omega | (simp (disch := omega) only [wrapI]; omega))⟩ (AllP_cons rfl (AllP_cons (decide_eq_false ha) (AllP_cons (decide_eq_false ha) (AllP_cons (decide_eq_false ha) (AllP_cons ((congrArg (fun z => AV.o (.a (.i .i64 z))) (dc_wr (B32 (modL (BV a))) hk))) (AllP_cons (wrap_nn rfl) (AllP_cons (by decide) (AllP_cons (by have q := dq hk; have q1 := q.1; have q2 := q.2; have hc := dcC_rng (B32 (modL (BV a))) k; have hn := nib_rng (B32 (modL (BV a))) k; first | omega | (simp (disch := omega) only [wrapI]; omega)) (AllP_cons ⟨(by have q := dq hk; have q1 := q.1; have q2 := q.2; have hc := dcC_rng (B32 (modL (BV a))) k; have hn := nib_rng (B32 (modL (BV a))) k; first | omega | (simp (disch := omega) only [wrapI]; omega)), (by have q := dq hk; have q1 := q.1; have q2 := q.2; have hc := dcC_rng (B32 (modL (BV a))) k; have hn := nib_rng (B32 (modL (BV a))) k; first | omega | (simp (disch := omega) only [wrapI]; omega))⟩ (AllP_cons (by decide) (AllP_cons (decide_eq_true (by have q := dq hk; have q1 := q.1; have q2 := q.2; have hc := dcC_rng (B32 (modL (BV a))) k; have hn := nib_rng (B32 (modL (BV a))) k; first | omega | (simp (disch := omega) only [wrapI]; omega))) (AllP_nil)))))))))))))
  rw [e0, e1, e2] at h
  exact h

theorem dl63_round (a : List Int) (h0 : (Byt a)) (hv0 : List.length a = (32 : Nat)) (w : World) (rw : List Nat) (β : Env) (k : Nat) (hk : k < (64 : Nat)) (s : Unit) : Run Try.prog ⟨w, rw, 0, β⟩ (loopB Try.f63 0) (dl63_mk a k s) (To ⟨w, rw, 0, β⟩ .normal (dl63_mk a (k + 1) (dl63_step k s))) := by
  by_cases ha : nib (B32 (modL (BV a))) k + dcC (B32 (modL (BV a))) k > 7
  · by_cases hb : k < 63
    · exact dl63_round_0 a h0 hv0 w rw β k hk s ha hb
    · exact dl63_round_1 a h0 hv0 w rw β k hk s ha hb
  · exact dl63_round_2 a h0 hv0 w rw β k hk s ha

set_option maxHeartbeats 1000000 in
theorem dl63_last (a : List Int) (h0 : (Byt a)) (hv0 : List.length a = (32 : Nat)) (w : World) (rw : List Nat) (β : Env) (s : Unit) : Run Try.prog ⟨w, rw, 0, β⟩ (loopB Try.f63 0) (dl63_mk a (64 : Nat) s) (To ⟨w, rw, 0, β⟩ (.exit 0) (dl63_mk a (64 : Nat) s)) :=
  Run.of_outT (B := ⟨w, rw, 0, β⟩) (Λ := noLam) (Ψ := noPsi) (fuel := 0) (ora := [false]) (l := [.forget [0, 1, 2, 3, 4, 5, 6, 8, 9, 10] 3]) mix tabOkRJ gam72_ok
    (vc := [(false = false)]) (by kernel_rfl)
    (AllP_cons rfl (AllP_nil))

theorem dl63_loop (a : List Int) (h0 : (Byt a)) (hv0 : List.length a = (32 : Nat)) (w : World) (rw : List Nat) (β : Env) (s : Unit) : Run Try.prog ⟨w, rw, 0, β⟩ (.block 0 (.loop (loopB Try.f63 0))) (dl63_mk a 0 s) (To ⟨w, rw, 0, β⟩ .normal (dl63_mk a (64 : Nat) (iter (dl63_step) (64 : Nat) s))) :=
  Run.count (fun k => dl63_mk a k (iter (dl63_step) k s)) (64 : Nat) (fun k hk => dl63_round a h0 hv0 w rw β k hk _) (ex := (.exit 0)) (by simp) (dl63_last a h0 hv0 w rw β _)

def digR (a : List Int) : List Int :=
  (B32 (modL (BV a)))

def digR_1 (a : List Int) : List Int :=
  (dcR (B32 (modL (BV a))) (64 : Nat))

set_option maxHeartbeats 1000000 in
theorem digR_body0 (a : List Int) (h0 : (Byt a)) (hv0 : List.length a = (32 : Nat)) (w : World) (rw : List Nat) (β : Env) : Body Try.prog (tabOf tabRJ) Try.f63 ⟨w, rw, 0, β⟩ [.o (.g [.ints .u8 (32 : Nat) a])] [] (fun ys K' => ys = [.a (.rs 2 (0 : Nat) (64 : Nat) 1)] ∧ K' = [some ⟨true, [.ints .u8 (32 : Nat) a]⟩, some ⟨true, [.ints .u8 (32 : Nat) (digR a)]⟩, some ⟨true, [.ints .i64 (64 : Nat) (digR_1 a)]⟩]) :=
  Body.of_finK (Γ := gam72) (Λ := lamOf [(0, ⟨[.rowS 4 .i64 1, .eqS 5 (.o (.a (.i .i64 (dcC (B32 (modL (BV a))) (0 : Nat))))), .forget [0, 1, 2, 3, 4, 5, 6, 8, 9, 10] 3], .normal, (dl63_mk a (64 : Nat) (iter (dl63_step) (64 : Nat) ()))⟩)]) (Ψ := psiOf [(1, [.eqB 1 (⟨true, [.ints .u8 (32 : Nat) (B32 (modL (BV a)))]⟩)])]) (fuel := 0) (m := 41) (c := (Try.f63.body.getD .skip)) mix tabOkRJ gam72_ok rfl (rs := [.tmp 2]) rfl rfl [] [] 4
    (vc := [(Run Try.prog ⟨w, rw, 0, β⟩ (.block 0 (.loop (loopB Try.f63 0))) (dl63_mk a 0 ()) (To ⟨w, rw, 0, β⟩ .normal (dl63_mk a (64 : Nat) (iter (dl63_step) (64 : Nat) ())))), ((.o (.a (.i .i64 (0 : Int))) : AV) = .o (.a (.i .i64 (dcC (B32 (modL (BV a))) (0 : Nat))))), ((some ⟨true, [.ints .u8 (32 : Nat) (B32 (V8 (W8 (modL (BV a)))))]⟩ : Option Blk) = some ⟨true, [.ints .u8 (32 : Nat) (B32 (modL (BV a)))]⟩), (Wd8 (W8 (modL (BV a)))), (Byt a)]) (by kernel_rfl)
    (AllP_cons (dl63_loop a h0 hv0 w rw β ()) (AllP_cons ((by rfl)) (AllP_cons ((by rw [V8_modL])) (AllP_cons (wd8_W8 _) (AllP_cons (by assumption) (AllP_nil))))))

theorem digR_body (a : List Int) (h0 : (Byt a)) (w : World) (rw : List Nat) (β : Env) : Body Try.prog (tabOf tabRJ) Try.f63 ⟨w, rw, 0, β⟩ [.o (.g [.ints .u8 (32 : Nat) a])] [] (fun ys K' => ys = [.a (.rs 2 (0 : Nat) (64 : Nat) 1)] ∧ K' = [some ⟨true, [.ints .u8 (32 : Nat) a]⟩, some ⟨true, [.ints .u8 (32 : Nat) (digR a)]⟩, some ⟨true, [.ints .i64 (64 : Nat) (digR_1 a)]⟩]) :=
  Body.lens (c := (Try.f63.body.getD .skip)) rfl fun h => digR_body0 a h0 (h.vals 0 _ _ _ rfl) w rw β

end Go.Proofs.Ytcpoldghkiiggaa.X

