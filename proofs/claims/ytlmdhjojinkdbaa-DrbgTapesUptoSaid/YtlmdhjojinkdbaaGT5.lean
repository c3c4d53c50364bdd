/- Texts of this session, put together (part 5), less what nothing uses. -/
import Derived.Test.YtlmdhjojinkdbaaGT4
import Derived.KernelRfl
import Derived.Test.YtlmdhjojinkdbaaProg
/- Texts of this session, put together (part 2), less what nothing uses. -/
/- Texts of this session, put together (part 2). -/
/- Eight words of 32 bits: twice, difference, comparison. -/
namespace Go.Proofs.Ytlmdhjojinkdbaa.X.V
open Go Go.Proofs
set_option linter.unusedVariables false

theorem wrap32 (x : Int) : IntKind.u32.wrap x = x % 4294967296 := by
  show (let m := x % (4294967296 : Int); if (false && decide (m ≥ (2147483648 : Int))) = true then m - 4294967296 else m) = x % 4294967296
  simp only [Bool.false_and, Bool.false_eq_true, if_false]

def Wd8 (S : List Int) : Prop := ∀ x ∈ S, 0 ≤ x ∧ x < 4294967296
theorem eight8 {S : List Int} (h : S.length = 8) : ∃ a0 a1 a2 a3 a4 a5 a6 a7, S = [a0, a1, a2, a3, a4, a5, a6, a7] := by
  match S, h with
  | [a0, a1, a2, a3, a4, a5, a6, a7], _ => exact ⟨a0, a1, a2, a3, a4, a5, a6, a7, rfl⟩
def V8 : List Int → Int
  | [a0, a1, a2, a3, a4, a5, a6, a7] => a0 + 4294967296 * a1 + 18446744073709551616 * a2 + 79228162514264337593543950336 * a3 + 340282366920938463463374607431768211456 * a4 + 1461501637330902918203684832716283019655932542976 * a5 + 6277101735386680763835789423207666416102355444464034512896 * a6 + 26959946667150639794667015087019630673637144422540572481103610249216 * a7
  | _ => 0
def W8 (v : Int) : List Int := [v % 4294967296, v / 4294967296 % 4294967296, v / 18446744073709551616 % 4294967296, v / 79228162514264337593543950336 % 4294967296, v / 340282366920938463463374607431768211456 % 4294967296, v / 1461501637330902918203684832716283019655932542976 % 4294967296, v / 6277101735386680763835789423207666416102355444464034512896 % 4294967296, v / 26959946667150639794667015087019630673637144422540572481103610249216 % 4294967296]
theorem V8_W8 {v : Int} (h0 : 0 ≤ v) (h1 : v < 115792089237316195423570985008687907853269984665640564039457584007913129639936) : V8 (W8 v) = v := by
  show (v % 4294967296) + 4294967296 * (v / 4294967296 % 4294967296) + 18446744073709551616 * (v / 18446744073709551616 % 4294967296) + 79228162514264337593543950336 * (v / 79228162514264337593543950336 % 4294967296) + 340282366920938463463374607431768211456 * (v / 340282366920938463463374607431768211456 % 4294967296) + 1461501637330902918203684832716283019655932542976 * (v / 1461501637330902918203684832716283019655932542976 % 4294967296) + 6277101735386680763835789423207666416102355444464034512896 * (v / 6277101735386680763835789423207666416102355444464034512896 % 4294967296) + 26959946667150639794667015087019630673637144422540572481103610249216 * (v / 26959946667150639794667015087019630673637144422540572481103610249216 % 4294967296) = v
  omega
theorem dd (a : Int) {b : Int} (h : 0 ≤ b) : a / b / 4294967296 = a / (b * 4294967296) := by first | exact Int.ediv_ediv_of_nonneg h | exact Int.ediv_ediv_eq_ediv_mul a h | exact Int.ediv_ediv h
theorem W8_eq {a0 a1 a2 a3 a4 a5 a6 a7 v : Int} (h : a0 + 4294967296 * a1 + 18446744073709551616 * a2 + 79228162514264337593543950336 * a3 + 340282366920938463463374607431768211456 * a4 + 1461501637330902918203684832716283019655932542976 * a5 + 6277101735386680763835789423207666416102355444464034512896 * a6 + 26959946667150639794667015087019630673637144422540572481103610249216 * a7 = v) (k0 : 0 ≤ a0 ∧ a0 < 4294967296) (k1 : 0 ≤ a1 ∧ a1 < 4294967296) (k2 : 0 ≤ a2 ∧ a2 < 4294967296) (k3 : 0 ≤ a3 ∧ a3 < 4294967296) (k4 : 0 ≤ a4 ∧ a4 < 4294967296) (k5 : 0 ≤ a5 ∧ a5 < 4294967296) (k6 : 0 ≤ a6 ∧ a6 < 4294967296) (k7 : 0 ≤ a7 ∧ a7 < 4294967296) : [a0, a1, a2, a3, a4, a5, a6, a7] = W8 v := by
  unfold W8
  have e0 : v = (a0 + 4294967296 * (a1 + 4294967296 * (a2 + 4294967296 * (a3 + 4294967296 * (a4 + 4294967296 * (a5 + 4294967296 * (a6 + 4294967296 * a7))))))) := by omega
  have e1 : v / 4294967296 = (a1 + 4294967296 * (a2 + 4294967296 * (a3 + 4294967296 * (a4 + 4294967296 * (a5 + 4294967296 * (a6 + 4294967296 * a7)))))) := by
    omega
  have e2 : v / 18446744073709551616 = (a2 + 4294967296 * (a3 + 4294967296 * (a4 + 4294967296 * (a5 + 4294967296 * (a6 + 4294967296 * a7))))) := by
    rw [show (18446744073709551616 : Int) = 4294967296 * 4294967296 by rfl, ← dd _ (by omega), e1]; clear e0 e1 h; omega
  have e3 : v / 79228162514264337593543950336 = (a3 + 4294967296 * (a4 + 4294967296 * (a5 + 4294967296 * (a6 + 4294967296 * a7)))) := by
    rw [show (79228162514264337593543950336 : Int) = 18446744073709551616 * 4294967296 by rfl, ← dd _ (by omega), e2]; clear e0 e1 e2 h; omega
  have e4 : v / 340282366920938463463374607431768211456 = (a4 + 4294967296 * (a5 + 4294967296 * (a6 + 4294967296 * a7))) := by
    rw [show (340282366920938463463374607431768211456 : Int) = 79228162514264337593543950336 * 4294967296 by rfl, ← dd _ (by omega), e3]; clear e0 e1 e2 e3 h; omega
  have e5 : v / 1461501637330902918203684832716283019655932542976 = (a5 + 4294967296 * (a6 + 4294967296 * a7)) := by
    rw [show (1461501637330902918203684832716283019655932542976 : Int) = 340282366920938463463374607431768211456 * 4294967296 by rfl, ← dd _ (by omega), e4]; clear e0 e1 e2 e3 e4 h; omega
  have e6 : v / 6277101735386680763835789423207666416102355444464034512896 = (a6 + 4294967296 * a7) := by
    rw [show (6277101735386680763835789423207666416102355444464034512896 : Int) = 1461501637330902918203684832716283019655932542976 * 4294967296 by rfl, ← dd _ (by omega), e5]; clear e0 e1 e2 e3 e4 e5 h; omega
  have e7 : v / 26959946667150639794667015087019630673637144422540572481103610249216 = a7 := by
    rw [show (26959946667150639794667015087019630673637144422540572481103610249216 : Int) = 6277101735386680763835789423207666416102355444464034512896 * 4294967296 by rfl, ← dd _ (by omega), e6]; clear e0 e1 e2 e3 e4 e5 e6 h; omega
  have h0 : v % 4294967296 = a0 := by rw [e0]; clear h e0 e1 e2 e3 e4 e5 e6 e7; omega
  have h1 : v / 4294967296 % 4294967296 = a1 := by rw [e1]; clear h e0 e1 e2 e3 e4 e5 e6 e7; omega
  have h2 : v / 18446744073709551616 % 4294967296 = a2 := by rw [e2]; clear h e0 e1 e2 e3 e4 e5 e6 e7; omega
  have h3 : v / 79228162514264337593543950336 % 4294967296 = a3 := by rw [e3]; clear h e0 e1 e2 e3 e4 e5 e6 e7; omega
  have h4 : v / 340282366920938463463374607431768211456 % 4294967296 = a4 := by rw [e4]; clear h e0 e1 e2 e3 e4 e5 e6 e7; omega
  have h5 : v / 1461501637330902918203684832716283019655932542976 % 4294967296 = a5 := by rw [e5]; clear h e0 e1 e2 e3 e4 e5 e6 e7; omega
  have h6 : v / 6277101735386680763835789423207666416102355444464034512896 % 4294967296 = a6 := by rw [e6]; clear h e0 e1 e2 e3 e4 e5 e6 e7; omega
  have h7 : v / 26959946667150639794667015087019630673637144422540572481103610249216 % 4294967296 = a7 := by rw [e7]; clear h e0 e1 e2 e3 e4 e5 e6 e7; omega
  rw [h0, h1, h2, h3, h4, h5, h6, h7]
theorem wd8_W8 (v : Int) : Wd8 (W8 v) := by
  intro x hx
  unfold W8 at hx
  simp only [List.mem_cons, List.not_mem_nil, or_false] at hx
  rcases hx with rfl | rfl | rfl | rfl | rfl | rfl | rfl | rfl <;> omega

theorem or32 {a c : Int} (h0 : 0 ≤ a) (h1 : a < 4294967296) (hc : 0 ≤ c ∧ c ≤ 1) : bits2 .or .u32 (shl .u32 a 1) c = 2 * a % 4294967296 + c := by
  have e1 : shl .u32 a 1 = 2 * (a % 2147483648) := by
    have : shl .u32 a 1 = IntKind.u32.wrap (a * 2) := rfl
    rw [this, wrap32]; omega
  rw [e1]
  obtain ⟨m, hm⟩ := Int.eq_ofNat_of_zero_le (show 0 ≤ a % 2147483648 by omega)
  obtain ⟨y, rfl⟩ := Int.eq_ofNat_of_zero_le hc.1
  rw [hm]
  have hm2 : m < 2147483648 := by omega
  have e : bits2 .or .u32 (2 * ((m : Nat) : Int)) ((y : Nat) : Int) = IntKind.u32.wrap (((BitVec.ofInt 32 (2 * ((m : Nat) : Int)) ||| BitVec.ofInt 32 ((y : Nat) : Int)).toNat : Nat) : Int) := rfl
  have t1 : (BitVec.ofInt 32 (2 * ((m : Nat) : Int))).toNat = 2 ^ 1 * m := by
    rw [BitVec.toNat_ofInt]
    show ((2 * ((m : Nat) : Int)) % 4294967296).toNat = 2 * m
    omega
  have t2 : (BitVec.ofInt 32 ((y : Nat) : Int)).toNat = y := by
    rw [BitVec.toNat_ofInt]
    show (((y : Nat) : Int) % 4294967296).toNat = y
    omega
  rw [e, BitVec.toNat_or, t1, t2, ← Nat.two_pow_add_eq_or_of_lt (show y < 2 ^ 1 by omega), wrap32]
  omega
theorem shr32_31 {a : Int} : shr .u32 a 31 = a / 2147483648 := by
  have e : shr .u32 a 31 = a.fdiv 2147483648 := rfl
  rw [e, Int.fdiv_eq_ediv_of_nonneg _ (by omega)]

theorem tw_eq {S : List Int} {b : Int} (h : Wd8 S) (l : S.length = 8) (hb : 0 ≤ b ∧ b ≤ 1) : twA S b = W8 ((2 * V8 S + b) % 115792089237316195423570985008687907853269984665640564039457584007913129639936) := by
  obtain ⟨a0, a1, a2, a3, a4, a5, a6, a7, rfl⟩ := eight8 l
  have k0 := h a0 (by simp)
  have k1 := h a1 (by simp)
  have k2 := h a2 (by simp)
  have k3 := h a3 (by simp)
  have k4 := h a4 (by simp)
  have k5 := h a5 (by simp)
  have k6 := h a6 (by simp)
  have k7 := h a7 (by simp)
  show [bits2 .or .u32 (shl .u32 a0 1) (b), bits2 .or .u32 (shl .u32 a1 1) (shr .u32 a0 31), bits2 .or .u32 (shl .u32 a2 1) (shr .u32 a1 31), bits2 .or .u32 (shl .u32 a3 1) (shr .u32 a2 31), bits2 .or .u32 (shl .u32 a4 1) (shr .u32 a3 31), bits2 .or .u32 (shl .u32 a5 1) (shr .u32 a4 31), bits2 .or .u32 (shl .u32 a6 1) (shr .u32 a5 31), bits2 .or .u32 (shl .u32 a7 1) (shr .u32 a6 31)] = _
  rw [or32 k0.1 k0.2 hb, or32 k1.1 k1.2 (by rw [shr32_31]; omega), or32 k2.1 k2.2 (by rw [shr32_31]; omega), or32 k3.1 k3.2 (by rw [shr32_31]; omega), or32 k4.1 k4.2 (by rw [shr32_31]; omega), or32 k5.1 k5.2 (by rw [shr32_31]; omega), or32 k6.1 k6.2 (by rw [shr32_31]; omega), or32 k7.1 k7.2 (by rw [shr32_31]; omega)]
  simp only [shr32_31]
  clear h l
  unfold V8
  refine W8_eq ?_ ?_ ?_ ?_ ?_ ?_ ?_ ?_ ?_
  · simp only
    omega
  all_goals omega

def dW (a b c : Int) : Int := IntKind.u64.wrap (IntKind.u64.wrap (IntKind.u64.wrap a - IntKind.u64.wrap b) - c)
theorem dW_eq {a b c : Int} (ha : 0 ≤ a ∧ a < 4294967296) (hb : 0 ≤ b ∧ b < 4294967296) (hc : 0 ≤ c ∧ c ≤ 1) :
    IntKind.u32.wrap (dW a b c) = a - b - c + 4294967296 * shr .u64 (dW a b c) 63 ∧ (0 ≤ IntKind.u32.wrap (dW a b c) ∧ IntKind.u32.wrap (dW a b c) < 4294967296) ∧ (0 ≤ shr .u64 (dW a b c) 63 ∧ shr .u64 (dW a b c) 63 ≤ 1) := by
  have e : shr .u64 (dW a b c) 63 = (dW a b c) / 9223372036854775808 := by
    have e : shr .u64 (dW a b c) 63 = (dW a b c).fdiv 9223372036854775808 := rfl
    rw [e, Int.fdiv_eq_ediv_of_nonneg _ (by omega)]
  rw [e, wrap32]
  unfold dW
  simp only [wrap64]
  omega

theorem mi_eq {S T : List Int} (hS : Wd8 S) (hT : Wd8 T) (lS : S.length = 8) (lT : T.length = 8) : miA S T = W8 (difR (V8 S) (V8 T)) := by
  obtain ⟨a0, a1, a2, a3, a4, a5, a6, a7, rfl⟩ := eight8 lS
  obtain ⟨b0, b1, b2, b3, b4, b5, b6, b7, rfl⟩ := eight8 lT
  have j0 := hS a0 (by simp)
  have k0 := hT b0 (by simp)
  have j1 := hS a1 (by simp)
  have k1 := hT b1 (by simp)
  have j2 := hS a2 (by simp)
  have k2 := hT b2 (by simp)
  have j3 := hS a3 (by simp)
  have k3 := hT b3 (by simp)
  have j4 := hS a4 (by simp)
  have k4 := hT b4 (by simp)
  have j5 := hS a5 (by simp)
  have k5 := hT b5 (by simp)
  have j6 := hS a6 (by simp)
  have k6 := hT b6 (by simp)
  have j7 := hS a7 (by simp)
  have k7 := hT b7 (by simp)
  have e0 := dW_eq j0 k0 (c := 0) (by omega)
  have e1 := dW_eq j1 k1 e0.2.2
  have e2 := dW_eq j2 k2 e1.2.2
  have e3 := dW_eq j3 k3 e2.2.2
  have e4 := dW_eq j4 k4 e3.2.2
  have e5 := dW_eq j5 k5 e4.2.2
  have e6 := dW_eq j6 k6 e5.2.2
  have e7 := dW_eq j7 k7 e6.2.2
  show [IntKind.u32.wrap (dW a0 b0 0), IntKind.u32.wrap (dW a1 b1 (shr .u64 (dW a0 b0 0) 63)), IntKind.u32.wrap (dW a2 b2 (shr .u64 (dW a1 b1 (shr .u64 (dW a0 b0 0) 63)) 63)), IntKind.u32.wrap (dW a3 b3 (shr .u64 (dW a2 b2 (shr .u64 (dW a1 b1 (shr .u64 (dW a0 b0 0) 63)) 63)) 63)), IntKind.u32.wrap (dW a4 b4 (shr .u64 (dW a3 b3 (shr .u64 (dW a2 b2 (shr .u64 (dW a1 b1 (shr .u64 (dW a0 b0 0) 63)) 63)) 63)) 63)), IntKind.u32.wrap (dW a5 b5 (shr .u64 (dW a4 b4 (shr .u64 (dW a3 b3 (shr .u64 (dW a2 b2 (shr .u64 (dW a1 b1 (shr .u64 (dW a0 b0 0) 63)) 63)) 63)) 63)) 63)), IntKind.u32.wrap (dW a6 b6 (shr .u64 (dW a5 b5 (shr .u64 (dW a4 b4 (shr .u64 (dW a3 b3 (shr .u64 (dW a2 b2 (shr .u64 (dW a1 b1 (shr .u64 (dW a0 b0 0) 63)) 63)) 63)) 63)) 63)) 63)), IntKind.u32.wrap (dW a7 b7 (shr .u64 (dW a6 b6 (shr .u64 (dW a5 b5 (shr .u64 (dW a4 b4 (shr .u64 (dW a3 b3 (shr .u64 (dW a2 b2 (shr .u64 (dW a1 b1 (shr .u64 (dW a0 b0 0) 63)) 63)) 63)) 63)) 63)) 63)) 63))] = _
  generalize shr .u64 (dW a7 b7 (shr .u64 (dW a6 b6 (shr .u64 (dW a5 b5 (shr .u64 (dW a4 b4 (shr .u64 (dW a3 b3 (shr .u64 (dW a2 b2 (shr .u64 (dW a1 b1 (shr .u64 (dW a0 b0 0) 63)) 63)) 63)) 63)) 63)) 63)) 63)) 63 = c7 at *
  generalize IntKind.u32.wrap (dW a7 b7 (shr .u64 (dW a6 b6 (shr .u64 (dW a5 b5 (shr .u64 (dW a4 b4 (shr .u64 (dW a3 b3 (shr .u64 (dW a2 b2 (shr .u64 (dW a1 b1 (shr .u64 (dW a0 b0 0) 63)) 63)) 63)) 63)) 63)) 63)) 63)) = s7 at *
  generalize shr .u64 (dW a6 b6 (shr .u64 (dW a5 b5 (shr .u64 (dW a4 b4 (shr .u64 (dW a3 b3 (shr .u64 (dW a2 b2 (shr .u64 (dW a1 b1 (shr .u64 (dW a0 b0 0) 63)) 63)) 63)) 63)) 63)) 63)) 63 = c6 at *
  generalize IntKind.u32.wrap (dW a6 b6 (shr .u64 (dW a5 b5 (shr .u64 (dW a4 b4 (shr .u64 (dW a3 b3 (shr .u64 (dW a2 b2 (shr .u64 (dW a1 b1 (shr .u64 (dW a0 b0 0) 63)) 63)) 63)) 63)) 63)) 63)) = s6 at *
  generalize shr .u64 (dW a5 b5 (shr .u64 (dW a4 b4 (shr .u64 (dW a3 b3 (shr .u64 (dW a2 b2 (shr .u64 (dW a1 b1 (shr .u64 (dW a0 b0 0) 63)) 63)) 63)) 63)) 63)) 63 = c5 at *
  generalize IntKind.u32.wrap (dW a5 b5 (shr .u64 (dW a4 b4 (shr .u64 (dW a3 b3 (shr .u64 (dW a2 b2 (shr .u64 (dW a1 b1 (shr .u64 (dW a0 b0 0) 63)) 63)) 63)) 63)) 63)) = s5 at *
  generalize shr .u64 (dW a4 b4 (shr .u64 (dW a3 b3 (shr .u64 (dW a2 b2 (shr .u64 (dW a1 b1 (shr .u64 (dW a0 b0 0) 63)) 63)) 63)) 63)) 63 = c4 at *
  generalize IntKind.u32.wrap (dW a4 b4 (shr .u64 (dW a3 b3 (shr .u64 (dW a2 b2 (shr .u64 (dW a1 b1 (shr .u64 (dW a0 b0 0) 63)) 63)) 63)) 63)) = s4 at *
  generalize shr .u64 (dW a3 b3 (shr .u64 (dW a2 b2 (shr .u64 (dW a1 b1 (shr .u64 (dW a0 b0 0) 63)) 63)) 63)) 63 = c3 at *
  generalize IntKind.u32.wrap (dW a3 b3 (shr .u64 (dW a2 b2 (shr .u64 (dW a1 b1 (shr .u64 (dW a0 b0 0) 63)) 63)) 63)) = s3 at *
  generalize shr .u64 (dW a2 b2 (shr .u64 (dW a1 b1 (shr .u64 (dW a0 b0 0) 63)) 63)) 63 = c2 at *
  generalize IntKind.u32.wrap (dW a2 b2 (shr .u64 (dW a1 b1 (shr .u64 (dW a0 b0 0) 63)) 63)) = s2 at *
  generalize shr .u64 (dW a1 b1 (shr .u64 (dW a0 b0 0) 63)) 63 = c1 at *
  generalize IntKind.u32.wrap (dW a1 b1 (shr .u64 (dW a0 b0 0) 63)) = s1 at *
  generalize shr .u64 (dW a0 b0 0) 63 = c0 at *
  generalize IntKind.u32.wrap (dW a0 b0 0) = s0 at *
  clear hS hT lS lT
  unfold difR V8
  refine W8_eq ?_ e0.2.1 e1.2.1 e2.2.1 e3.2.1 e4.2.1 e5.2.1 e6.2.1 e7.2.1
  simp only
  omega

theorem be_can (S T : List Int) (h0 : Wd8 S) (h1 : Wd8 T) (w : World) : Body Try.prog (tabOf tabNU) Try.f131 ⟨w, [], 0, noEnv⟩ (toA [.g [.ints .u32 (8 : Nat) S], .g [.ints .u32 (8 : Nat) T]]) [] (fun ys _ => ys = [.a (.b (decide (V8 S < V8 T)))]) :=
  Body.lens (c := (Try.f131.body.getD .skip)) rfl fun h => by
    have lS := h.vals 0 _ _ _ rfl
    have lT := h.vals 1 _ _ _ rfl
    obtain ⟨a0, a1, a2, a3, a4, a5, a6, a7, rfl⟩ := eight8 lS
    obtain ⟨b0, b1, b2, b3, b4, b5, b6, b7, rfl⟩ := eight8 lT
    have j0 := h0 a0 (by simp)
    have k0 := h1 b0 (by simp)
    have j1 := h0 a1 (by simp)
    have k1 := h1 b1 (by simp)
    have j2 := h0 a2 (by simp)
    have k2 := h1 b2 (by simp)
    have j3 := h0 a3 (by simp)
    have k3 := h1 b3 (by simp)
    have j4 := h0 a4 (by simp)
    have k4 := h1 b4 (by simp)
    have j5 := h0 a5 (by simp)
    have k5 := h1 b5 (by simp)
    have j6 := h0 a6 (by simp)
    have k6 := h1 b6 (by simp)
    have j7 := h0 a7 (by simp)
    have k7 := h1 b7 (by simp)
    by_cases e7 : a7 = b7
    rotate_left
    · refine (be8_body0 _ _ lS lT  e7 w).mono fun xs K hx => ?_
      subst hx
      have e : be8 [a0, a1, a2, a3, a4, a5, a6, a7] [b0, b1, b2, b3, b4, b5, b6, b7] = decide (V8 [a0, a1, a2, a3, a4, a5, a6, a7] < V8 [b0, b1, b2, b3, b4, b5, b6, b7]) := by
        show decide (a7 < b7) = decide (a0 + 4294967296 * a1 + 18446744073709551616 * a2 + 79228162514264337593543950336 * a3 + 340282366920938463463374607431768211456 * a4 + 1461501637330902918203684832716283019655932542976 * a5 + 6277101735386680763835789423207666416102355444464034512896 * a6 + 26959946667150639794667015087019630673637144422540572481103610249216 * a7 < b0 + 4294967296 * b1 + 18446744073709551616 * b2 + 79228162514264337593543950336 * b3 + 340282366920938463463374607431768211456 * b4 + 1461501637330902918203684832716283019655932542976 * b5 + 6277101735386680763835789423207666416102355444464034512896 * b6 + 26959946667150639794667015087019630673637144422540572481103610249216 * b7)
        exact decide_eq_decide.2 (by clear h0 h1 h lS lT; omega)
      rw [e]
    by_cases e6 : a6 = b6
    rotate_left
    · refine (be7_body0 _ _ lS lT e7 e6 w).mono fun xs K hx => ?_
      subst hx
      have e : be7 [a0, a1, a2, a3, a4, a5, a6, a7] [b0, b1, b2, b3, b4, b5, b6, b7] = decide (V8 [a0, a1, a2, a3, a4, a5, a6, a7] < V8 [b0, b1, b2, b3, b4, b5, b6, b7]) := by
        show decide (a6 < b6) = decide (a0 + 4294967296 * a1 + 18446744073709551616 * a2 + 79228162514264337593543950336 * a3 + 340282366920938463463374607431768211456 * a4 + 1461501637330902918203684832716283019655932542976 * a5 + 6277101735386680763835789423207666416102355444464034512896 * a6 + 26959946667150639794667015087019630673637144422540572481103610249216 * a7 < b0 + 4294967296 * b1 + 18446744073709551616 * b2 + 79228162514264337593543950336 * b3 + 340282366920938463463374607431768211456 * b4 + 1461501637330902918203684832716283019655932542976 * b5 + 6277101735386680763835789423207666416102355444464034512896 * b6 + 26959946667150639794667015087019630673637144422540572481103610249216 * b7)
        exact decide_eq_decide.2 (by clear h0 h1 h lS lT; omega)
      rw [e]
    by_cases e5 : a5 = b5
    rotate_left
    · refine (be6_body0 _ _ lS lT e7 e6 e5 w).mono fun xs K hx => ?_
      subst hx
      have e : be6 [a0, a1, a2, a3, a4, a5, a6, a7] [b0, b1, b2, b3, b4, b5, b6, b7] = decide (V8 [a0, a1, a2, a3, a4, a5, a6, a7] < V8 [b0, b1, b2, b3, b4, b5, b6, b7]) := by
        show decide (a5 < b5) = decide (a0 + 4294967296 * a1 + 18446744073709551616 * a2 + 79228162514264337593543950336 * a3 + 340282366920938463463374607431768211456 * a4 + 1461501637330902918203684832716283019655932542976 * a5 + 6277101735386680763835789423207666416102355444464034512896 * a6 + 26959946667150639794667015087019630673637144422540572481103610249216 * a7 < b0 + 4294967296 * b1 + 18446744073709551616 * b2 + 79228162514264337593543950336 * b3 + 340282366920938463463374607431768211456 * b4 + 1461501637330902918203684832716283019655932542976 * b5 + 6277101735386680763835789423207666416102355444464034512896 * b6 + 26959946667150639794667015087019630673637144422540572481103610249216 * b7)
        exact decide_eq_decide.2 (by clear h0 h1 h lS lT; omega)
      rw [e]
    by_cases e4 : a4 = b4
    rotate_left
    · refine (be5_body0 _ _ lS lT e7 e6 e5 e4 w).mono fun xs K hx => ?_
      subst hx
      have e : be5 [a0, a1, a2, a3, a4, a5, a6, a7] [b0, b1, b2, b3, b4, b5, b6, b7] = decide (V8 [a0, a1, a2, a3, a4, a5, a6, a7] < V8 [b0, b1, b2, b3, b4, b5, b6, b7]) := by
        show decide (a4 < b4) = decide (a0 + 4294967296 * a1 + 18446744073709551616 * a2 + 79228162514264337593543950336 * a3 + 340282366920938463463374607431768211456 * a4 + 1461501637330902918203684832716283019655932542976 * a5 + 6277101735386680763835789423207666416102355444464034512896 * a6 + 26959946667150639794667015087019630673637144422540572481103610249216 * a7 < b0 + 4294967296 * b1 + 18446744073709551616 * b2 + 79228162514264337593543950336 * b3 + 340282366920938463463374607431768211456 * b4 + 1461501637330902918203684832716283019655932542976 * b5 + 6277101735386680763835789423207666416102355444464034512896 * b6 + 26959946667150639794667015087019630673637144422540572481103610249216 * b7)
        exact decide_eq_decide.2 (by clear h0 h1 h lS lT; omega)
      rw [e]
    by_cases e3 : a3 = b3
    rotate_left
    · refine (be4_body0 _ _ lS lT e7 e6 e5 e4 e3 w).mono fun xs K hx => ?_
      subst hx
      have e : be4 [a0, a1, a2, a3, a4, a5, a6, a7] [b0, b1, b2, b3, b4, b5, b6, b7] = decide (V8 [a0, a1, a2, a3, a4, a5, a6, a7] < V8 [b0, b1, b2, b3, b4, b5, b6, b7]) := by
        show decide (a3 < b3) = decide (a0 + 4294967296 * a1 + 18446744073709551616 * a2 + 79228162514264337593543950336 * a3 + 340282366920938463463374607431768211456 * a4 + 1461501637330902918203684832716283019655932542976 * a5 + 6277101735386680763835789423207666416102355444464034512896 * a6 + 26959946667150639794667015087019630673637144422540572481103610249216 * a7 < b0 + 4294967296 * b1 + 18446744073709551616 * b2 + 79228162514264337593543950336 * b3 + 340282366920938463463374607431768211456 * b4 + 1461501637330902918203684832716283019655932542976 * b5 + 6277101735386680763835789423207666416102355444464034512896 * b6 + 26959946667150639794667015087019630673637144422540572481103610249216 * b7)
        exact decide_eq_decide.2 (by clear h0 h1 h lS lT; omega)
      rw [e]
    by_cases e2 : a2 = b2
    rotate_left
    · refine (be3_body0 _ _ lS lT e7 e6 e5 e4 e3 e2 w).mono fun xs K hx => ?_
      subst hx
      have e : be3 [a0, a1, a2, a3, a4, a5, a6, a7] [b0, b1, b2, b3, b4, b5, b6, b7] = decide (V8 [a0, a1, a2, a3, a4, a5, a6, a7] < V8 [b0, b1, b2, b3, b4, b5, b6, b7]) := by
        show decide (a2 < b2) = decide (a0 + 4294967296 * a1 + 18446744073709551616 * a2 + 79228162514264337593543950336 * a3 + 340282366920938463463374607431768211456 * a4 + 1461501637330902918203684832716283019655932542976 * a5 + 6277101735386680763835789423207666416102355444464034512896 * a6 + 26959946667150639794667015087019630673637144422540572481103610249216 * a7 < b0 + 4294967296 * b1 + 18446744073709551616 * b2 + 79228162514264337593543950336 * b3 + 340282366920938463463374607431768211456 * b4 + 1461501637330902918203684832716283019655932542976 * b5 + 6277101735386680763835789423207666416102355444464034512896 * b6 + 26959946667150639794667015087019630673637144422540572481103610249216 * b7)
        exact decide_eq_decide.2 (by clear h0 h1 h lS lT; omega)
      rw [e]
    by_cases e1 : a1 = b1
    rotate_left
    · refine (be2_body0 _ _ lS lT e7 e6 e5 e4 e3 e2 e1 w).mono fun xs K hx => ?_
      subst hx
      have e : be2 [a0, a1, a2, a3, a4, a5, a6, a7] [b0, b1, b2, b3, b4, b5, b6, b7] = decide (V8 [a0, a1, a2, a3, a4, a5, a6, a7] < V8 [b0, b1, b2, b3, b4, b5, b6, b7]) := by
        show decide (a1 < b1) = decide (a0 + 4294967296 * a1 + 18446744073709551616 * a2 + 79228162514264337593543950336 * a3 + 340282366920938463463374607431768211456 * a4 + 1461501637330902918203684832716283019655932542976 * a5 + 6277101735386680763835789423207666416102355444464034512896 * a6 + 26959946667150639794667015087019630673637144422540572481103610249216 * a7 < b0 + 4294967296 * b1 + 18446744073709551616 * b2 + 79228162514264337593543950336 * b3 + 340282366920938463463374607431768211456 * b4 + 1461501637330902918203684832716283019655932542976 * b5 + 6277101735386680763835789423207666416102355444464034512896 * b6 + 26959946667150639794667015087019630673637144422540572481103610249216 * b7)
        exact decide_eq_decide.2 (by clear h0 h1 h lS lT; omega)
      rw [e]
    by_cases e0 : a0 = b0
    rotate_left
    · refine (be1_body0 _ _ lS lT e7 e6 e5 e4 e3 e2 e1 e0 w).mono fun xs K hx => ?_
      subst hx
      have e : be1 [a0, a1, a2, a3, a4, a5, a6, a7] [b0, b1, b2, b3, b4, b5, b6, b7] = decide (V8 [a0, a1, a2, a3, a4, a5, a6, a7] < V8 [b0, b1, b2, b3, b4, b5, b6, b7]) := by
        show decide (a0 < b0) = decide (a0 + 4294967296 * a1 + 18446744073709551616 * a2 + 79228162514264337593543950336 * a3 + 340282366920938463463374607431768211456 * a4 + 1461501637330902918203684832716283019655932542976 * a5 + 6277101735386680763835789423207666416102355444464034512896 * a6 + 26959946667150639794667015087019630673637144422540572481103610249216 * a7 < b0 + 4294967296 * b1 + 18446744073709551616 * b2 + 79228162514264337593543950336 * b3 + 340282366920938463463374607431768211456 * b4 + 1461501637330902918203684832716283019655932542976 * b5 + 6277101735386680763835789423207666416102355444464034512896 * b6 + 26959946667150639794667015087019630673637144422540572481103610249216 * b7)
        exact decide_eq_decide.2 (by clear h0 h1 h lS lT; omega)
      rw [e]
    refine (be0_body0 _ _ lS lT e7 e6 e5 e4 e3 e2 e1 e0 w).mono fun xs K hx => ?_
    subst hx
    have e : false = decide (V8 [a0, a1, a2, a3, a4, a5, a6, a7] < V8 [b0, b1, b2, b3, b4, b5, b6, b7]) := by
      show false = decide (a0 + 4294967296 * a1 + 18446744073709551616 * a2 + 79228162514264337593543950336 * a3 + 340282366920938463463374607431768211456 * a4 + 1461501637330902918203684832716283019655932542976 * a5 + 6277101735386680763835789423207666416102355444464034512896 * a6 + 26959946667150639794667015087019630673637144422540572481103610249216 * a7 < b0 + 4294967296 * b1 + 18446744073709551616 * b2 + 79228162514264337593543950336 * b3 + 340282366920938463463374607431768211456 * b4 + 1461501637330902918203684832716283019655932542976 * b5 + 6277101735386680763835789423207666416102355444464034512896 * b6 + 26959946667150639794667015087019630673637144422540572481103610249216 * b7)
      exact (decide_eq_false (by clear h0 h1 h lS lT; omega)).symm
    rw [← e]

theorem bkR_eq {S : List Int} (h : Wd8 S) (l : S.length = 8) : bkR S = B32 (V8 S) := by
  obtain ⟨a0, a1, a2, a3, a4, a5, a6, a7, rfl⟩ := eight8 l
  have k0 := h a0 (by simp)
  have k1 := h a1 (by simp)
  have k2 := h a2 (by simp)
  have k3 := h a3 (by simp)
  have k4 := h a4 (by simp)
  have k5 := h a5 (by simp)
  have k6 := h a6 (by simp)
  have k7 := h a7 (by simp)
  have s0 : ∀ x : Int, shr .u32 x 0 = x / 1 := fun x => by
    have e : shr .u32 x 0 = x.fdiv 1 := rfl
    rw [e, Int.fdiv_eq_ediv_of_nonneg _ (by omega)]
  have s8 : ∀ x : Int, shr .u32 x 8 = x / 256 := fun x => by
    have e : shr .u32 x 8 = x.fdiv 256 := rfl
    rw [e, Int.fdiv_eq_ediv_of_nonneg _ (by omega)]
  have s16 : ∀ x : Int, shr .u32 x 16 = x / 65536 := fun x => by
    have e : shr .u32 x 16 = x.fdiv 65536 := rfl
    rw [e, Int.fdiv_eq_ediv_of_nonneg _ (by omega)]
  have s24 : ∀ x : Int, shr .u32 x 24 = x / 16777216 := fun x => by
    have e : shr .u32 x 24 = x.fdiv 16777216 := rfl
    rw [e, Int.fdiv_eq_ediv_of_nonneg _ (by omega)]
  clear h l
  unfold bkR B32 V8
  simp only [List.getD_cons_zero, List.getD_cons_succ, wrap8, s0, s8, s16, s24, List.cons.injEq, and_true]
  refine ⟨?_, ?_, ?_, ?_, ?_, ?_, ?_, ?_, ?_, ?_, ?_, ?_, ?_, ?_, ?_, ?_, ?_, ?_, ?_, ?_, ?_, ?_, ?_, ?_, ?_, ?_, ?_, ?_, ?_, ?_, ?_, ?_⟩ <;> omega

theorem tw_can (S : List Int) (b : Int) (h0 : Wd8 S) (h1 : (0 : Int) ≤ b) (h2 : b ≤ 1) (w : World) : Body Try.prog (tabOf tabNU) Try.f130 ⟨w, [], 0, noEnv⟩ (toA [.g [.ints .u32 (8 : Nat) S], .a (.i .u32 b)]) [] (fun ys _ => ys = [.g [.ints .u32 (8 : Nat) (W8 ((2 * V8 S + b) % 115792089237316195423570985008687907853269984665640564039457584007913129639936))]]) :=
  Body.lens (c := (Try.f130.body.getD .skip)) rfl fun h => (twA_body0 S b (h.vals 0 _ _ _ rfl) w).mono fun xs K hx => by
    subst hx; rw [tw_eq h0 (h.vals 0 _ _ _ rfl) ⟨h1, h2⟩]
theorem mi_can (S T : List Int) (h0 : Wd8 S) (h1 : Wd8 T) (w : World) : Body Try.prog (tabOf tabNU) Try.f132 ⟨w, [], 0, noEnv⟩ (toA [.g [.ints .u32 (8 : Nat) S], .g [.ints .u32 (8 : Nat) T]]) [] (fun ys _ => ys = [.g [.ints .u32 (8 : Nat) (W8 (difR (V8 S) (V8 T)))]]) :=
  Body.lens (c := (Try.f132.body.getD .skip)) rfl fun h => (miA_body0 S T (h.vals 0 _ _ _ rfl) (h.vals 1 _ _ _ rfl) w).mono fun xs K hx => by
    subst hx; rw [mi_eq h0 h1 (h.vals 0 _ _ _ rfl) (h.vals 1 _ _ _ rfl)]
theorem bkR_can (S : List Int) (h0 : Wd8 S) (w : World) : Body Try.prog (tabOf tabNU) Try.f114 ⟨w, [], 0, noEnv⟩ (toA [.g [.ints .u32 (8 : Nat) S]]) [] (fun ys _ => ys = [.g [.ints .u8 (32 : Nat) (B32 (V8 S))]]) :=
  Body.lens (c := (Try.f114.body.getD .skip)) rfl fun h => (bkR_body0 S (h.vals 0 _ _ _ rfl) w).mono fun xs K hx => by
    subst hx; rw [bkR_eq h0 (h.vals 0 _ _ _ rfl)]
end Go.Proofs.Ytlmdhjojinkdbaa.X.V

/- Division bit by bit, as the reference does it. -/
namespace Go.Proofs.Ytlmdhjojinkdbaa.X.V
open Go Go.Proofs
set_option linter.unusedVariables false

def dbl (x b : Int) : Int := (2 * x + b) % 115792089237316195423570985008687907853269984665640564039457584007913129639936
def OR8 : List Int := [1559614445, 1477600026, 2734136534, 350157278, 0, 0, 0, 268435456]
def bitX (x : Int) (k : Nat) : Int := bits2 .and .u32 (shr .u32 x (IntKind.u64.wrap ((31 : Int) - ((k : Nat) : Int)))) 1
def rI (x r : Int) : Nat → Int
  | 0 => r
  | k + 1 => if V8 (W8 (dbl (V8 (W8 (rI x r k))) (bitX x k))) < V8 OR8 then dbl (V8 (W8 (rI x r k))) (bitX x k) else difR (V8 (W8 (dbl (V8 (W8 (rI x r k))) (bitX x k)))) (V8 OR8)
def rO (l : List Int) (n : Nat) : Nat → Int
  | 0 => 0
  | t + 1 => rI (List.getD l (Int.toNat (((n : Nat) : Int) - (1 : Int) - ((t : Nat) : Int))) 0) (rO l n t) 32

theorem rI_a {x r : Int} {k : Nat} (h : V8 (W8 (dbl (V8 (W8 (rI x r k))) (bitX x k))) < V8 OR8) : rI x r (k + 1) = dbl (V8 (W8 (rI x r k))) (bitX x k) := by
  show (if _ then _ else _) = _
  rw [if_pos h]
theorem rI_b {x r : Int} {k : Nat} (h : ¬ V8 (W8 (dbl (V8 (W8 (rI x r k))) (bitX x k))) < V8 OR8) : rI x r (k + 1) = difR (V8 (W8 (dbl (V8 (W8 (rI x r k))) (bitX x k)))) (V8 OR8) := by
  show (if _ then _ else _) = _
  rw [if_neg h]

theorem bit_and (y : Int) : bits2 .and .u32 y 1 = y % 2 := by
  have e : bits2 .and .u32 y 1 = IntKind.u32.wrap (((BitVec.ofInt 32 y &&& BitVec.ofInt 32 1).toNat : Nat) : Int) := rfl
  have t2 : (BitVec.ofInt 32 1).toNat = 2 ^ 1 - 1 := by rfl
  rw [e, BitVec.toNat_and, t2, Nat.and_two_pow_sub_one_eq_mod, BitVec.toNat_ofInt, wrap32]
  show (((y % 4294967296).toNat % 2 ^ 1 : Nat) : Int) % 4294967296 = y % 2
  omega
theorem bit_01 (y : Int) : 0 ≤ bits2 .and .u32 y 1 ∧ bits2 .and .u32 y 1 ≤ 1 := by rw [bit_and]; omega
theorem W8_0 : W8 0 = [0, 0, 0, 0, 0, 0, 0, 0] := by decide +kernel
theorem wd8_ord : Wd8 [1559614445, 1477600026, 2734136534, 350157278, 0, 0, 0, 268435456] := wd8_W8 7237005577332262213973186563042994240857116359379907606001950938285454250989
end Go.Proofs.Ytlmdhjojinkdbaa.X.V

/- Printed by a tool of this session. -/
namespace Go.Proofs.Ytlmdhjojinkdbaa.X.V
open Go Go.Proofs
set_option linter.unusedVariables false
set_option linter.unusedSimpArgs false
set_option maxRecDepth 100000
theorem teNX_3 : TEOk Try.prog 3 ⟨.int .i64, 1, 8, [.i .i64 (0 : Int)], false⟩ :=
  TEOk.of Try.underlying3 (i := Try.t3) (by kernel_rfl) rfl rfl rfl (by kernel_rfl) (fun h => by cases h) (by kernel_rfl)
theorem teNX_62 : TEOk Try.prog 229 ⟨.int .u64, 1, 8, [.i .u64 (0 : Int)], false⟩ :=
  TEOk.of Try.underlying229 (i := Try.t229) (by kernel_rfl) rfl rfl rfl (by kernel_rfl) (fun h => by cases h) (by kernel_rfl)
theorem teNX_109 : TEOk Try.prog 152 ⟨.int .u32, 1, 4, [.i .u32 (0 : Int)], false⟩ :=
  TEOk.of Try.underlying152 (i := Try.t152) (by kernel_rfl) rfl rfl rfl (by kernel_rfl) (fun h => by cases h) (by kernel_rfl)
theorem teNX_111 : TEOk Try.prog 219 ⟨.array 8 152, 8, 32, [.ints .u32 (8 : Nat) ([0, 0, 0, 0, 0, 0, 0, 0] : List Int)], true⟩ :=
  TEOk.of Try.underlying219 (i := Try.t219) (by kernel_rfl) rfl rfl rfl (by kernel_rfl) (fun _ => Try.eqGuardType219) (by kernel_rfl)
theorem teNX_113 : TEOk Try.prog 108 ⟨.slice 152, 1, 24, [.raw (.slice none 0 0)], false⟩ :=
  TEOk.of Try.underlying108 (i := Try.t108) (by kernel_rfl) rfl rfl rfl (by kernel_rfl) (fun h => by cases h) (by kernel_rfl)
noncomputable def tabNX : List (Nat × TE) := [(3, ⟨.int .i64, 1, 8, [.i .i64 (0 : Int)], false⟩), (229, ⟨.int .u64, 1, 8, [.i .u64 (0 : Int)], false⟩), (152, ⟨.int .u32, 1, 4, [.i .u32 (0 : Int)], false⟩), (219, ⟨.array 8 152, 8, 32, [.ints .u32 (8 : Nat) ([0, 0, 0, 0, 0, 0, 0, 0] : List Int)], true⟩), (108, ⟨.slice 152, 1, 24, [.raw (.slice none 0 0)], false⟩)]
theorem tabOkNX : TabOk Try.prog (tabOf tabNX) := (tabOf_cons teNX_3 (tabOf_cons teNX_62 (tabOf_cons teNX_109 (tabOf_cons teNX_111 (tabOf_cons teNX_113 tabOf_nil)))))

theorem twA_pure (S : List Int) (b : Int) (h0 : (Wd8 S)) (h1 : ((0 : Int) ≤ b)) (h2 : (b ≤ (1 : Int))) : PureC Try.prog 130 [.g [.ints .u32 (8 : Nat) S], .a (.i .u32 b)] [.g [.ints .u32 (8 : Nat) (W8 (dbl (V8 S) b))]] :=
  PureC.of_body tabOkNU Try.func130 rfl rfl fun w => tw_can S b h0 h1 h2 w

def gv23 : Gam := gpure 130 (fun args => match args with | [.o (.g [.ints .u32 (8 : Nat) S]), .o (.a (.i .u32 b))] => some (some ((Wd8 S) ∧ ((0 : Int) ≤ b) ∧ (b ≤ (1 : Int))), [.g [.ints .u32 (8 : Nat) (W8 (dbl (V8 S) b))]]) | _ => none) gv22
theorem gv23_ok : GamOk Try.prog gv23 := gpure_ok gv22_ok Try.call130 (by
  intro args vc xs h hv
  split at h
  · simp only [Option.some.injEq, Prod.mk.injEq] at h; obtain ⟨rfl, rfl⟩ := h; exact ⟨_, by rfl, twA_pure _ _ hv.1 hv.2.1 hv.2.2⟩
  · simp at h)

theorem miA_pure (S T : List Int) (h0 : (Wd8 S)) (h1 : (Wd8 T)) : PureC Try.prog 132 [.g [.ints .u32 (8 : Nat) S], .g [.ints .u32 (8 : Nat) T]] [.g [.ints .u32 (8 : Nat) (W8 (difR (V8 S) (V8 T)))]] :=
  PureC.of_body tabOkNU Try.func132 rfl rfl fun w => mi_can S T h0 h1 w

def gv24 : Gam := gpure 132 (fun args => match args with | [.o (.g [.ints .u32 (8 : Nat) S]), .o (.g [.ints .u32 (8 : Nat) T])] => some (some ((Wd8 S) ∧ (Wd8 T)), [.g [.ints .u32 (8 : Nat) (W8 (difR (V8 S) (V8 T)))]]) | _ => none) gv23
theorem gv24_ok : GamOk Try.prog gv24 := gpure_ok gv23_ok Try.call132 (by
  intro args vc xs h hv
  split at h
  · simp only [Option.some.injEq, Prod.mk.injEq] at h; obtain ⟨rfl, rfl⟩ := h; exact ⟨_, by rfl, miA_pure _ _ hv.1 hv.2⟩
  · simp at h)

theorem be8_pure (S T : List Int) (h0 : (Wd8 S)) (h1 : (Wd8 T)) : PureC Try.prog 131 [.g [.ints .u32 (8 : Nat) S], .g [.ints .u32 (8 : Nat) T]] [.a (.b (decide ((V8 S) < (V8 T))))] :=
  PureC.of_body tabOkNU Try.func131 rfl rfl fun w => be_can S T h0 h1 w

def gv25 : Gam := gpure 131 (fun args => match args with | [.o (.g [.ints .u32 (8 : Nat) S]), .o (.g [.ints .u32 (8 : Nat) T])] => some (some ((Wd8 S) ∧ (Wd8 T)), [.a (.b (decide ((V8 S) < (V8 T))))]) | _ => none) gv24
theorem gv25_ok : GamOk Try.prog gv25 := gpure_ok gv24_ok Try.call131 (by
  intro args vc xs h hv
  split at h
  · simp only [Option.some.injEq, Prod.mk.injEq] at h; obtain ⟨rfl, rfl⟩ := h; exact ⟨_, by rfl, be8_pure _ _ hv.1 hv.2⟩
  · simp at h)

theorem bkR_pure (S : List Int) (h0 : (Wd8 S)) : PureC Try.prog 114 [.g [.ints .u32 (8 : Nat) S]] [.g [.ints .u8 (32 : Nat) (B32 (V8 S))]] :=
  PureC.of_body tabOkNU Try.func114 rfl rfl fun w => bkR_can S h0 w

def gv26 : Gam := gpure 114 (fun args => match args with | [.o (.g [.ints .u32 (8 : Nat) S])] => some (some ((Wd8 S)), [.g [.ints .u8 (32 : Nat) (B32 (V8 S))]]) | _ => none) gv25
theorem gv26_ok : GamOk Try.prog gv26 := gpure_ok gv25_ok Try.call114 (by
  intro args vc xs h hv
  split at h
  · simp only [Option.some.injEq, Prod.mk.injEq] at h; obtain ⟨rfl, rfl⟩ := h; exact ⟨_, by rfl, bkR_pure _ hv⟩
  · simp at h)

def moO_mk (n nm : Nat) (l : List Int) (cap0 ko : Nat) (sko : Unit) : St := ⟨sparse 37 [(0, .o (.a (.sl 0 0 n cap0))), (2, .o (.a (.p 1 0))), (3, .o (.a (.p 2 0))), (4, .o (.a (.p 3 0))), (5, .o (.a (.i .i64 ((((n : Nat) : Int) - (1 : Int)) - ((ko : Nat) : Int))))), (8, .o (.a (.sl 0 0 n cap0))), (10, .o (.a (.i .i64 (IntKind.i64.wrap (((n : Nat) : Int) - (1 : Int))))))], [some ⟨false, [.ints .u32 nm l]⟩, some ⟨true, [.ints .u32 (8 : Nat) ([0, 0, 0, 0, 0, 0, 0, 0] : List Int)]⟩, some ⟨true, [.ints .u32 (8 : Nat) (W8 (rO l n ko))]⟩, some ⟨true, [.ints .u32 (8 : Nat) ([1559614445, 1477600026, 2734136534, 350157278, 0, 0, 0, 268435456] : List Int)]⟩]⟩

def moI_mk (n nm : Nat) (l : List Int) (cap0 ko : Nat) (sko : Unit) (k : Nat) (s : Unit) : St := ⟨sparse 37 [(0, .o (.a (.sl 0 0 n cap0))), (2, .o (.a (.p 1 0))), (3, .o (.a (.p 2 0))), (4, .o (.a (.p 3 0))), (5, .o (.a (.i .i64 ((((n : Nat) : Int) - (1 : Int)) - ((ko : Nat) : Int))))), (6, .o (.a (.i .i64 ((31 : Int) - ((k : Nat) : Int))))), (8, .o (.a (.sl 0 0 n cap0))), (10, .o (.a (.i .i64 (IntKind.i64.wrap (((n : Nat) : Int) - (1 : Int)))))), (11, .o (.a (.i .i64 ((((n : Nat) : Int) - (1 : Int)) - ((ko : Nat) : Int))))), (12, .o (.a (.b (decide (((((n : Nat) : Int) - (1 : Int)) - ((ko : Nat) : Int)) ≥ (0 : Int))))))], [some ⟨false, [.ints .u32 nm l]⟩, some ⟨true, [.ints .u32 (8 : Nat) ([0, 0, 0, 0, 0, 0, 0, 0] : List Int)]⟩, some ⟨true, [.ints .u32 (8 : Nat) (W8 (rI (List.getD l (Int.toNat ((((n : Nat) : Int) - (1 : Int)) - ((ko : Nat) : Int))) 0) (rO l n ko) k))]⟩, some ⟨true, [.ints .u32 (8 : Nat) ([1559614445, 1477600026, 2734136534, 350157278, 0, 0, 0, 268435456] : List Int)]⟩]⟩

def moI_step (k : Nat) (s : Unit) : Unit :=
  ()

set_option maxHeartbeats 1000000 in
theorem moI_round_0 (n nm : Nat) (l : List Int) (cap0 ko : Nat) (sko : Unit) (h0 : (nm = n)) (h1 : (n < (70368744177664 : Nat))) (hc0 : n ≤ cap0) (hl0_0 : List.length l = nm) (hko : ko < n) (w : World) (β : Env) (k : Nat) (hk : k < (32 : Nat)) (s : Unit) (ha : V8 (W8 (dbl (V8 (W8 (rI (List.getD l (Int.toNat (((n : Nat) : Int) - (1 : Int) - ((ko : Nat) : Int))) 0) (rO l n ko) k))) (bitX (List.getD l (Int.toNat (((n : Nat) : Int) - (1 : Int) - ((ko : Nat) : Int))) 0) k))) < V8 OR8) : Run Try.prog ⟨w, [], 1, β⟩ (loopB Try.f115 2) (moI_mk n nm l cap0 ko sko k s) (To ⟨w, [], 1, β⟩ .normal (moI_mk n nm l cap0 ko sko (k + 1) (moI_step k s))) := by
  have e0 : (W8 (dbl (V8 (W8 (rI (List.getD l (Int.toNat ((((n : Nat) : Int) - (1 : Int)) - ((ko : Nat) : Int))) 0) (rO l n ko) k))) (bits2 .and .u32 (shr .u32 (List.getD l (Int.toNat ((((n : Nat) : Int) - (1 : Int)) - ((ko : Nat) : Int))) 0) (IntKind.u64.wrap ((31 : Int) - ((k : Nat) : Int)))) (1 : Int)))) = (W8 (rI (List.getD l (Int.toNat ((((n : Nat) : Int) - (1 : Int)) - ((ko : Nat) : Int))) 0) (rO l n ko) (k + (1 : Nat)))) := (by first | (rw [wrapI (by omega) (by omega)]; omega) | (rw [rI_a ha]; rfl))
  have e1 : (IntKind.i64.wrap (((31 : Int) - ((k : Nat) : Int)) - (1 : Int))) = ((31 : Int) - (((k + (1 : Nat)) : Nat) : Int)) := (by first | (rw [wrapI (by omega) (by omega)]; omega) | (rw [rI_a ha]; rfl))
  have h := Run.of_outT (B := ⟨w, [], 1, β⟩) (Λ := noLam) (Ψ := noPsi) (fuel := 0) (ora := [true, false]) (c := (loopB Try.f115 2)) (st := (moI_mk n nm l cap0 ko sko k s)) (l := [.forget [0, 2, 3, 4, 5, 6, 8, 10, 11, 12] 4]) (s' := ⟨sparse 37 [(0, .o (.a (.sl 0 0 n cap0))), (2, .o (.a (.p 1 0))), (3, .o (.a (.p 2 0))), (4, .o (.a (.p 3 0))), (5, .o (.a (.i .i64 ((((n : Nat) : Int) - (1 : Int)) - ((ko : Nat) : Int))))), (6, .o (.a (.i .i64 (IntKind.i64.wrap (((31 : Int) - ((k : Nat) : Int)) - (1 : Int)))))), (8, .o (.a (.sl 0 0 n cap0))), (10, .o (.a (.i .i64 (IntKind.i64.wrap (((n : Nat) : Int) - (1 : Int)))))), (11, .o (.a (.i .i64 ((((n : Nat) : Int) - (1 : Int)) - ((ko : Nat) : Int))))), (12, .o (.a (.b (decide (((((n : Nat) : Int) - (1 : Int)) - ((ko : Nat) : Int)) ≥ (0 : Int))))))], [some ⟨false, [.ints .u32 nm l]⟩, some ⟨true, [.ints .u32 (8 : Nat) ([0, 0, 0, 0, 0, 0, 0, 0] : List Int)]⟩, some ⟨true, [.ints .u32 (8 : Nat) (W8 (dbl (V8 (W8 (rI (List.getD l (Int.toNat ((((n : Nat) : Int) - (1 : Int)) - ((ko : Nat) : Int))) 0) (rO l n ko) k))) (bits2 .and .u32 (shr .u32 (List.getD l (Int.toNat ((((n : Nat) : Int) - (1 : Int)) - ((ko : Nat) : Int))) 0) (IntKind.u64.wrap ((31 : Int) - ((k : Nat) : Int)))) (1 : Int))))]⟩, some ⟨true, [.ints .u32 (8 : Nat) ([1559614445, 1477600026, 2734136534, 350157278, 0, 0, 0, 268435456] : List Int)]⟩]⟩) (ex := .normal) mix tabOkNX gv26_ok
    (vc := [((!(decide ((V8 (W8 (dbl (V8 (W8 (rI (List.getD l (Int.toNat ((((n : Nat) : Int) - (1 : Int)) - ((ko : Nat) : Int))) 0) (rO l n ko) k))) (bits2 .and .u32 (shr .u32 (List.getD l (Int.toNat ((((n : Nat) : Int) - (1 : Int)) - ((ko : Nat) : Int))) 0) (IntKind.u64.wrap ((31 : Int) - ((k : Nat) : Int)))) (1 : Int))))) < (V8 ([1559614445, 1477600026, 2734136534, 350157278, 0, 0, 0, 268435456] : List Int))))) = false), ((Wd8 (W8 (dbl (V8 (W8 (rI (List.getD l (Int.toNat ((((n : Nat) : Int) - (1 : Int)) - ((ko : Nat) : Int))) 0) (rO l n ko) k))) (bits2 .and .u32 (shr .u32 (List.getD l (Int.toNat ((((n : Nat) : Int) - (1 : Int)) - ((ko : Nat) : Int))) 0) (IntKind.u64.wrap ((31 : Int) - ((k : Nat) : Int)))) (1 : Int))))) ∧ (Wd8 ([1559614445, 1477600026, 2734136534, 350157278, 0, 0, 0, 268435456] : List Int))), ((Wd8 (W8 (rI (List.getD l (Int.toNat ((((n : Nat) : Int) - (1 : Int)) - ((ko : Nat) : Int))) 0) (rO l n ko) k))) ∧ ((0 : Int) ≤ (bits2 .and .u32 (shr .u32 (List.getD l (Int.toNat ((((n : Nat) : Int) - (1 : Int)) - ((ko : Nat) : Int))) 0) (IntKind.u64.wrap ((31 : Int) - ((k : Nat) : Int)))) (1 : Int))) ∧ ((bits2 .and .u32 (shr .u32 (List.getD l (Int.toNat ((((n : Nat) : Int) - (1 : Int)) - ((ko : Nat) : Int))) 0) (IntKind.u64.wrap ((31 : Int) - ((k : Nat) : Int)))) (1 : Int)) ≤ (1 : Int))), ((0 : Int) ≤ (IntKind.u64.wrap ((31 : Int) - ((k : Nat) : Int)))), ((Int.toNat ((((n : Nat) : Int) - (1 : Int)) - ((ko : Nat) : Int))) < nm), (((0 : Int) ≤ ((((n : Nat) : Int) - (1 : Int)) - ((ko : Nat) : Int))) ∧ (((((n : Nat) : Int) - (1 : Int)) - ((ko : Nat) : Int)) < ((n : Nat) : Int))), ((decide (((31 : Int) - ((k : Nat) : Int)) ≥ (0 : Int))) = true)]) (by kernel_rfl)
    (aC (by show (!decide (V8 (W8 (dbl (V8 (W8 (rI (List.getD l (Int.toNat (((n : Nat) : Int) - (1 : Int) - ((ko : Nat) : Int))) 0) (rO l n ko) k))) (bitX (List.getD l (Int.toNat (((n : Nat) : Int) - (1 : Int) - ((ko : Nat) : Int))) 0) k))) < V8 OR8)) = false; rw [decide_eq_true ha]; rfl) (aC ⟨(by first | assumption | exact wd8_W8 _ | exact wd8_ord), (by first | assumption | exact wd8_W8 _ | exact wd8_ord)⟩ (aC ⟨(by first | assumption | exact wd8_W8 _ | exact wd8_ord), (bits2_nn (k := .u32) rfl), (by first | exact (bit_01 _).1 | exact (bit_01 _).2)⟩ (aC (wrap_nn (k := .u64) rfl) (aC (by first | omega | (simp (disch := omega) only [wrapI]; omega)) (aC ⟨(by first | omega | (simp (disch := omega) only [wrapI]; omega)), (by first | omega | (simp (disch := omega) only [wrapI]; omega))⟩ (aC (decide_eq_true (by first | omega | (simp (disch := omega) only [wrapI]; omega))) (AllP_nil))))))))
  rw [e0, e1] at h
  exact h

set_option maxHeartbeats 1000000 in
theorem moI_round_1 (n nm : Nat) (l : List Int) (cap0 ko : Nat) (sko : Unit) (h0 : (nm = n)) (h1 : (n < (70368744177664 : Nat))) (hc0 : n ≤ cap0) (hl0_0 : List.length l = nm) (hko : ko < n) (w : World) (β : Env) (k : Nat) (hk : k < (32 : Nat)) (s : Unit) (ha : ¬ V8 (W8 (dbl (V8 (W8 (rI (List.getD l (Int.toNat (((n : Nat) : Int) - (1 : Int) - ((ko : Nat) : Int))) 0) (rO l n ko) k))) (bitX (List.getD l (Int.toNat (((n : Nat) : Int) - (1 : Int) - ((ko : Nat) : Int))) 0) k))) < V8 OR8) : Run Try.prog ⟨w, [], 1, β⟩ (loopB Try.f115 2) (moI_mk n nm l cap0 ko sko k s) (To ⟨w, [], 1, β⟩ .normal (moI_mk n nm l cap0 ko sko (k + 1) (moI_step k s))) := by
  have e0 : (W8 (difR (V8 (W8 (dbl (V8 (W8 (rI (List.getD l (Int.toNat ((((n : Nat) : Int) - (1 : Int)) - ((ko : Nat) : Int))) 0) (rO l n ko) k))) (bits2 .and .u32 (shr .u32 (List.getD l (Int.toNat ((((n : Nat) : Int) - (1 : Int)) - ((ko : Nat) : Int))) 0) (IntKind.u64.wrap ((31 : Int) - ((k : Nat) : Int)))) (1 : Int))))) (V8 ([1559614445, 1477600026, 2734136534, 350157278, 0, 0, 0, 268435456] : List Int)))) = (W8 (rI (List.getD l (Int.toNat ((((n : Nat) : Int) - (1 : Int)) - ((ko : Nat) : Int))) 0) (rO l n ko) (k + (1 : Nat)))) := (by first | (rw [wrapI (by omega) (by omega)]; omega) | (rw [rI_b ha]; rfl))
  have e1 : (IntKind.i64.wrap (((31 : Int) - ((k : Nat) : Int)) - (1 : Int))) = ((31 : Int) - (((k + (1 : Nat)) : Nat) : Int)) := (by first | (rw [wrapI (by omega) (by omega)]; omega) | (rw [rI_b ha]; rfl))
  have h := Run.of_outT (B := ⟨w, [], 1, β⟩) (Λ := noLam) (Ψ := noPsi) (fuel := 0) (ora := [true, true]) (c := (loopB Try.f115 2)) (st := (moI_mk n nm l cap0 ko sko k s)) (l := [.forget [0, 2, 3, 4, 5, 6, 8, 10, 11, 12] 4]) (s' := ⟨sparse 37 [(0, .o (.a (.sl 0 0 n cap0))), (2, .o (.a (.p 1 0))), (3, .o (.a (.p 2 0))), (4, .o (.a (.p 3 0))), (5, .o (.a (.i .i64 ((((n : Nat) : Int) - (1 : Int)) - ((ko : Nat) : Int))))), (6, .o (.a (.i .i64 (IntKind.i64.wrap (((31 : Int) - ((k : Nat) : Int)) - (1 : Int)))))), (8, .o (.a (.sl 0 0 n cap0))), (10, .o (.a (.i .i64 (IntKind.i64.wrap (((n : Nat) : Int) - (1 : Int)))))), (11, .o (.a (.i .i64 ((((n : Nat) : Int) - (1 : Int)) - ((ko : Nat) : Int))))), (12, .o (.a (.b (decide (((((n : Nat) : Int) - (1 : Int)) - ((ko : Nat) : Int)) ≥ (0 : Int))))))], [some ⟨false, [.ints .u32 nm l]⟩, some ⟨true, [.ints .u32 (8 : Nat) ([0, 0, 0, 0, 0, 0, 0, 0] : List Int)]⟩, some ⟨true, [.ints .u32 (8 : Nat) (W8 (difR (V8 (W8 (dbl (V8 (W8 (rI (List.getD l (Int.toNat ((((n : Nat) : Int) - (1 : Int)) - ((ko : Nat) : Int))) 0) (rO l n ko) k))) (bits2 .and .u32 (shr .u32 (List.getD l (Int.toNat ((((n : Nat) : Int) - (1 : Int)) - ((ko : Nat) : Int))) 0) (IntKind.u64.wrap ((31 : Int) - ((k : Nat) : Int)))) (1 : Int))))) (V8 ([1559614445, 1477600026, 2734136534, 350157278, 0, 0, 0, 268435456] : List Int))))]⟩, some ⟨true, [.ints .u32 (8 : Nat) ([1559614445, 1477600026, 2734136534, 350157278, 0, 0, 0, 268435456] : List Int)]⟩]⟩) (ex := .normal) mix tabOkNX gv26_ok
    (vc := [((Wd8 (W8 (dbl (V8 (W8 (rI (List.getD l (Int.toNat ((((n : Nat) : Int) - (1 : Int)) - ((ko : Nat) : Int))) 0) (rO l n ko) k))) (bits2 .and .u32 (shr .u32 (List.getD l (Int.toNat ((((n : Nat) : Int) - (1 : Int)) - ((ko : Nat) : Int))) 0) (IntKind.u64.wrap ((31 : Int) - ((k : Nat) : Int)))) (1 : Int))))) ∧ (Wd8 ([1559614445, 1477600026, 2734136534, 350157278, 0, 0, 0, 268435456] : List Int))), ((!(decide ((V8 (W8 (dbl (V8 (W8 (rI (List.getD l (Int.toNat ((((n : Nat) : Int) - (1 : Int)) - ((ko : Nat) : Int))) 0) (rO l n ko) k))) (bits2 .and .u32 (shr .u32 (List.getD l (Int.toNat ((((n : Nat) : Int) - (1 : Int)) - ((ko : Nat) : Int))) 0) (IntKind.u64.wrap ((31 : Int) - ((k : Nat) : Int)))) (1 : Int))))) < (V8 ([1559614445, 1477600026, 2734136534, 350157278, 0, 0, 0, 268435456] : List Int))))) = true), ((Wd8 (W8 (dbl (V8 (W8 (rI (List.getD l (Int.toNat ((((n : Nat) : Int) - (1 : Int)) - ((ko : Nat) : Int))) 0) (rO l n ko) k))) (bits2 .and .u32 (shr .u32 (List.getD l (Int.toNat ((((n : Nat) : Int) - (1 : Int)) - ((ko : Nat) : Int))) 0) (IntKind.u64.wrap ((31 : Int) - ((k : Nat) : Int)))) (1 : Int))))) ∧ (Wd8 ([1559614445, 1477600026, 2734136534, 350157278, 0, 0, 0, 268435456] : List Int))), ((Wd8 (W8 (rI (List.getD l (Int.toNat ((((n : Nat) : Int) - (1 : Int)) - ((ko : Nat) : Int))) 0) (rO l n ko) k))) ∧ ((0 : Int) ≤ (bits2 .and .u32 (shr .u32 (List.getD l (Int.toNat ((((n : Nat) : Int) - (1 : Int)) - ((ko : Nat) : Int))) 0) (IntKind.u64.wrap ((31 : Int) - ((k : Nat) : Int)))) (1 : Int))) ∧ ((bits2 .and .u32 (shr .u32 (List.getD l (Int.toNat ((((n : Nat) : Int) - (1 : Int)) - ((ko : Nat) : Int))) 0) (IntKind.u64.wrap ((31 : Int) - ((k : Nat) : Int)))) (1 : Int)) ≤ (1 : Int))), ((0 : Int) ≤ (IntKind.u64.wrap ((31 : Int) - ((k : Nat) : Int)))), ((Int.toNat ((((n : Nat) : Int) - (1 : Int)) - ((ko : Nat) : Int))) < nm), (((0 : Int) ≤ ((((n : Nat) : Int) - (1 : Int)) - ((ko : Nat) : Int))) ∧ (((((n : Nat) : Int) - (1 : Int)) - ((ko : Nat) : Int)) < ((n : Nat) : Int))), ((decide (((31 : Int) - ((k : Nat) : Int)) ≥ (0 : Int))) = true)]) (by kernel_rfl)
    (aC ⟨(by first | assumption | exact wd8_W8 _ | exact wd8_ord), (by first | assumption | exact wd8_W8 _ | exact wd8_ord)⟩ (aC (by show (!decide (V8 (W8 (dbl (V8 (W8 (rI (List.getD l (Int.toNat (((n : Nat) : Int) - (1 : Int) - ((ko : Nat) : Int))) 0) (rO l n ko) k))) (bitX (List.getD l (Int.toNat (((n : Nat) : Int) - (1 : Int) - ((ko : Nat) : Int))) 0) k))) < V8 OR8)) = true; rw [decide_eq_false ha]; rfl) (aC ⟨(by first | assumption | exact wd8_W8 _ | exact wd8_ord), (by first | assumption | exact wd8_W8 _ | exact wd8_ord)⟩ (aC ⟨(by first | assumption | exact wd8_W8 _ | exact wd8_ord), (bits2_nn (k := .u32) rfl), (by first | exact (bit_01 _).1 | exact (bit_01 _).2)⟩ (aC (wrap_nn (k := .u64) rfl) (aC (by first | omega | (simp (disch := omega) only [wrapI]; omega)) (aC ⟨(by first | omega | (simp (disch := omega) only [wrapI]; omega)), (by first | omega | (simp (disch := omega) only [wrapI]; omega))⟩ (aC (decide_eq_true (by first | omega | (simp (disch := omega) only [wrapI]; omega))) (AllP_nil)))))))))
  rw [e0, e1] at h
  exact h

theorem moI_round (n nm : Nat) (l : List Int) (cap0 ko : Nat) (sko : Unit) (h0 : (nm = n)) (h1 : (n < (70368744177664 : Nat))) (hc0 : n ≤ cap0) (hl0_0 : List.length l = nm) (hko : ko < n) (w : World) (β : Env) (k : Nat) (hk : k < (32 : Nat)) (s : Unit) : Run Try.prog ⟨w, [], 1, β⟩ (loopB Try.f115 2) (moI_mk n nm l cap0 ko sko k s) (To ⟨w, [], 1, β⟩ .normal (moI_mk n nm l cap0 ko sko (k + 1) (moI_step k s))) := by
  by_cases ha : V8 (W8 (dbl (V8 (W8 (rI (List.getD l (Int.toNat (((n : Nat) : Int) - (1 : Int) - ((ko : Nat) : Int))) 0) (rO l n ko) k))) (bitX (List.getD l (Int.toNat (((n : Nat) : Int) - (1 : Int) - ((ko : Nat) : Int))) 0) k))) < V8 OR8
  · exact moI_round_0 n nm l cap0 ko sko h0 h1 hc0 hl0_0 hko w β k hk s ha
  · exact moI_round_1 n nm l cap0 ko sko h0 h1 hc0 hl0_0 hko w β k hk s ha

set_option maxHeartbeats 1000000 in
theorem moI_last (n nm : Nat) (l : List Int) (cap0 ko : Nat) (sko : Unit) (h0 : (nm = n)) (h1 : (n < (70368744177664 : Nat))) (hc0 : n ≤ cap0) (hl0_0 : List.length l = nm) (hko : ko < n) (w : World) (β : Env) (s : Unit) : Run Try.prog ⟨w, [], 1, β⟩ (loopB Try.f115 2) (moI_mk n nm l cap0 ko sko (32 : Nat) s) (To ⟨w, [], 1, β⟩ (.exit 2) (moI_mk n nm l cap0 ko sko (32 : Nat) s)) :=
  Run.of_outT (B := ⟨w, [], 1, β⟩) (Λ := noLam) (Ψ := noPsi) (fuel := 0) (ora := [false]) (l := [.forget [0, 2, 3, 4, 5, 6, 8, 10, 11, 12] 4]) mix tabOkNX gv26_ok
    (vc := [(false = false)]) (by kernel_rfl)
    (aC rfl (AllP_nil))

theorem moI_loop (n nm : Nat) (l : List Int) (cap0 ko : Nat) (sko : Unit) (h0 : (nm = n)) (h1 : (n < (70368744177664 : Nat))) (hc0 : n ≤ cap0) (hl0_0 : List.length l = nm) (hko : ko < n) (w : World) (β : Env) (s : Unit) : Run Try.prog ⟨w, [], 1, β⟩ (.block 2 (.loop (loopB Try.f115 2))) (moI_mk n nm l cap0 ko sko 0 s) (To ⟨w, [], 1, β⟩ .normal (moI_mk n nm l cap0 ko sko (32 : Nat) (iter (moI_step) (32 : Nat) s))) :=
  Run.count (fun k => moI_mk n nm l cap0 ko sko k (iter (moI_step) k s)) (32 : Nat) (fun k hk => moI_round n nm l cap0 ko sko h0 h1 hc0 hl0_0 hko w β k hk _) (ex := (.exit 2)) (by simp) (moI_last n nm l cap0 ko sko h0 h1 hc0 hl0_0 hko w β _)

def moO_step (ko : Nat) (sko : Unit) : Unit :=
  ()

set_option maxHeartbeats 1000000 in
theorem moO_round (n nm : Nat) (l : List Int) (cap0 : Nat) (h0 : (nm = n)) (h1 : (n < (70368744177664 : Nat))) (hc0 : n ≤ cap0) (hl0_0 : List.length l = nm) (w : World) (β : Env) (ko : Nat) (hko : ko < n) (sko : Unit) : Run Try.prog ⟨w, [], 1, β⟩ (loopB Try.f115 0) (moO_mk n nm l cap0 ko sko) (To ⟨w, [], 1, β⟩ .normal (moO_mk n nm l cap0 (ko + 1) (moO_step ko sko))) := by
  have e0 : (W8 (rI (List.getD l (Int.toNat ((((n : Nat) : Int) - (1 : Int)) - ((ko : Nat) : Int))) 0) (rO l n ko) (32 : Nat))) = (W8 (rO l n (ko + (1 : Nat)))) := (by first | (rw [wrapI (by omega) (by omega)]; omega) | rfl)
  have e1 : (IntKind.i64.wrap (((((n : Nat) : Int) - (1 : Int)) - ((ko : Nat) : Int)) - (1 : Int))) = ((((n : Nat) : Int) - (1 : Int)) - (((ko + (1 : Nat)) : Nat) : Int)) := (by first | (rw [wrapI (by omega) (by omega)]; omega) | rfl)
  have h := Run.of_outT (B := ⟨w, [], 1, β⟩) (Λ := lamOf [(2, ⟨[.forget [0, 2, 3, 4, 5, 6, 8, 10, 11, 12] 4], .normal, (moI_mk n nm l cap0 ko sko (32 : Nat) (iter (moI_step) (32 : Nat) ()))⟩)]) (Ψ := noPsi) (fuel := 0) (ora := [true]) (c := (loopB Try.f115 0)) (st := (moO_mk n nm l cap0 ko sko)) (l := [.forget [0, 2, 3, 4, 5, 8, 10] 4]) (s' := ⟨sparse 37 [(0, .o (.a (.sl 0 0 n cap0))), (2, .o (.a (.p 1 0))), (3, .o (.a (.p 2 0))), (4, .o (.a (.p 3 0))), (5, .o (.a (.i .i64 (IntKind.i64.wrap (((((n : Nat) : Int) - (1 : Int)) - ((ko : Nat) : Int)) - (1 : Int)))))), (8, .o (.a (.sl 0 0 n cap0))), (10, .o (.a (.i .i64 (IntKind.i64.wrap (((n : Nat) : Int) - (1 : Int))))))], [some ⟨false, [.ints .u32 nm l]⟩, some ⟨true, [.ints .u32 (8 : Nat) ([0, 0, 0, 0, 0, 0, 0, 0] : List Int)]⟩, some ⟨true, [.ints .u32 (8 : Nat) (W8 (rI (List.getD l (Int.toNat ((((n : Nat) : Int) - (1 : Int)) - ((ko : Nat) : Int))) 0) (rO l n ko) (32 : Nat)))]⟩, some ⟨true, [.ints .u32 (8 : Nat) ([1559614445, 1477600026, 2734136534, 350157278, 0, 0, 0, 268435456] : List Int)]⟩]⟩) (ex := .normal) mix tabOkNX gv26_ok
    (vc := [(Run Try.prog ⟨w, [], 1, β⟩ (.block 2 (.loop (loopB Try.f115 2))) (moI_mk n nm l cap0 ko sko 0 ()) (To ⟨w, [], 1, β⟩ .normal (moI_mk n nm l cap0 ko sko (32 : Nat) (iter (moI_step) (32 : Nat) ())))), ((decide (((((n : Nat) : Int) - (1 : Int)) - ((ko : Nat) : Int)) ≥ (0 : Int))) = true)]) (by kernel_rfl)
    (aC (moI_loop n nm l cap0 ko sko h0 h1 hc0 hl0_0 hko w β ()) (aC (decide_eq_true (by first | omega | (simp (disch := omega) only [wrapI]; omega))) (AllP_nil)))
  rw [e0, e1] at h
  exact h

set_option maxHeartbeats 1000000 in
theorem moO_last (n nm : Nat) (l : List Int) (cap0 : Nat) (h0 : (nm = n)) (h1 : (n < (70368744177664 : Nat))) (hc0 : n ≤ cap0) (hl0_0 : List.length l = nm) (w : World) (β : Env) (sko : Unit) : Run Try.prog ⟨w, [], 1, β⟩ (loopB Try.f115 0) (moO_mk n nm l cap0 n sko) (To ⟨w, [], 1, β⟩ (.exit 0) (moO_mk n nm l cap0 n sko)) :=
  Run.of_outT (B := ⟨w, [], 1, β⟩) (Λ := noLam) (Ψ := noPsi) (fuel := 0) (ora := [false]) (l := [.forget [0, 2, 3, 4, 5, 8, 10] 4]) mix tabOkNX gv26_ok
    (vc := [((decide (((((n : Nat) : Int) - (1 : Int)) - ((n : Nat) : Int)) ≥ (0 : Int))) = false)]) (by kernel_rfl)
    (aC (decide_eq_false (by omega)) (AllP_nil))

theorem moO_loop (n nm : Nat) (l : List Int) (cap0 : Nat) (h0 : (nm = n)) (h1 : (n < (70368744177664 : Nat))) (hc0 : n ≤ cap0) (hl0_0 : List.length l = nm) (w : World) (β : Env) (sko : Unit) : Run Try.prog ⟨w, [], 1, β⟩ (.block 0 (.loop (loopB Try.f115 0))) (moO_mk n nm l cap0 0 sko) (To ⟨w, [], 1, β⟩ .normal (moO_mk n nm l cap0 n (iter (moO_step) n sko))) :=
  Run.count (fun ko => moO_mk n nm l cap0 ko (iter (moO_step) ko sko)) n (fun ko hko => moO_round n nm l cap0 h0 h1 hc0 hl0_0 w β ko hko _) (ex := (.exit 0)) (by simp) (moO_last n nm l cap0 h0 h1 hc0 hl0_0 w β _)

def modR (n : Nat) (l : List Int) : List Int :=
  (W8 (rO l n n))

set_option maxHeartbeats 1000000 in
theorem modR_body0 (n nm : Nat) (l : List Int) (cap0 : Nat) (h0 : (nm = n)) (h1 : (n < (70368744177664 : Nat))) (hc0 : n ≤ cap0) (hl0_0 : List.length l = nm) (w : World) (β : Env) : Body Try.prog (tabOf tabNX) Try.f115 ⟨w, [], 1, β⟩ [.o (.a (.sl 0 0 n cap0))] [some ⟨false, [.ints .u32 nm l]⟩] (fun ys _ => ys = [.g [.ints .u32 (8 : Nat) (modR n l)]]) :=
  Body.of_fin (Γ := gv26) (Λ := lamOf [(0, ⟨[.eqS 5 (.o (.a (.i .i64 ((((n : Nat) : Int) - (1 : Int)) - ((0 : Nat) : Int))))), .eqB 2 (⟨true, [.ints .u32 (8 : Nat) (W8 (rO l n (0 : Nat)))]⟩), .forget [0, 2, 3, 4, 5, 8, 10] 4], .normal, (moO_mk n nm l cap0 n (iter (moO_step) n ()))⟩)]) (Ψ := noPsi) (fuel := 0) (m := 37) (c := (Try.f115.body.getD .skip)) mix tabOkNX gv26_ok rfl (rs := [.cell 2 219]) rfl rfl [] []
    (vc := [(Run Try.prog ⟨w, [], 1, β⟩ (.block 0 (.loop (loopB Try.f115 0))) (moO_mk n nm l cap0 0 ()) (To ⟨w, [], 1, β⟩ .normal (moO_mk n nm l cap0 n (iter (moO_step) n ())))), ((some ⟨true, [.ints .u32 (8 : Nat) ([0, 0, 0, 0, 0, 0, 0, 0] : List Int)]⟩ : Option Blk) = some ⟨true, [.ints .u32 (8 : Nat) (W8 (rO l n (0 : Nat)))]⟩), ((.o (.a (.i .i64 (IntKind.i64.wrap (((n : Nat) : Int) - (1 : Int))))) : AV) = .o (.a (.i .i64 ((((n : Nat) : Int) - (1 : Int)) - ((0 : Nat) : Int)))))]) (by kernel_rfl)
    (aC (moO_loop n nm l cap0 h0 h1 hc0 hl0_0 w β ()) (aC ((by rw [show rO l n 0 = 0 from rfl, W8_0])) (aC ((congrArg (fun z => AV.o (.a (.i .i64 z))) ((wrapI (by omega) (by omega)).trans (by omega)))) (AllP_nil))))

theorem modR_body (n nm : Nat) (l : List Int) (cap0 : Nat) (h0 : (nm = n)) (h1 : (n < (70368744177664 : Nat))) (w : World) (β : Env) : Body Try.prog (tabOf tabNX) Try.f115 ⟨w, [], 1, β⟩ [.o (.a (.sl 0 0 n cap0))] [some ⟨false, [.ints .u32 nm l]⟩] (fun ys _ => ys = [.g [.ints .u32 (8 : Nat) (modR n l)]]) :=
  Body.lens (c := (Try.f115.body.getD .skip)) rfl fun h => modR_body0 n nm l cap0 h0 h1 (h.caps 0 _ _ _ _ rfl) (h.lens 0 _ .u32 nm l rfl (by simp)) w β

end Go.Proofs.Ytlmdhjojinkdbaa.X.V

/- Division bit by bit is division. -/
namespace Go.Proofs.Ytlmdhjojinkdbaa.X.V
open Go Go.Proofs
set_option linter.unusedVariables false

theorem V8_OR8 : V8 OR8 = LL := by decide +kernel

theorem rI_step {x r : Int} {k : Nat} (h0 : 0 ≤ rI x r k) (h1 : rI x r k < LL) (hb : 0 ≤ bitX x k ∧ bitX x k ≤ 1) : rI x r (k + 1) = modL (2 * rI x r k + bitX x k) := by
  have e1 : V8 (W8 (rI x r k)) = rI x r k := V8_W8 h0 (by unfold LL at h1; omega)
  have e2 : dbl (rI x r k) (bitX x k) = 2 * rI x r k + bitX x k := by unfold dbl; unfold LL at h1; omega
  have e3 : V8 (W8 (2 * rI x r k + bitX x k)) = 2 * rI x r k + bitX x k := V8_W8 (by omega) (by unfold LL at h1; omega)
  by_cases hc : V8 (W8 (dbl (V8 (W8 (rI x r k))) (bitX x k))) < V8 OR8
  · rw [rI_a hc, e1, e2]
    rw [e1, e2, e3, V8_OR8] at hc
    unfold modL; exact (Int.emod_eq_of_lt (by omega) hc).symm
  · rw [rI_b hc, e1, e2, e3, V8_OR8]
    rw [e1, e2, e3, V8_OR8] at hc
    unfold difR modL
    unfold LL at *
    omega

theorem modL_2 (A b : Int) : modL (2 * modL A + b) = modL (2 * A + b) := by
  unfold modL
  rw [Int.add_emod, Int.mul_emod, Int.emod_emod_of_dvd _ (Int.dvd_refl LL), ← Int.mul_emod, ← Int.add_emod]

theorem bitX_eq {x : Int} {k : Nat} (h0 : 0 ≤ x) (hk : k < 32) : bitX x k = x / 2 ^ (31 - k) % 2 := by
  unfold bitX
  rw [bit_and]
  congr 1
  have e : IntKind.u64.wrap ((31 : Int) - ((k : Nat) : Int)) = ((31 - k : Nat) : Int) := by rw [wrap64]; omega
  rw [e]
  have e2 : shr .u32 x ((31 - k : Nat) : Int) = x.fdiv (2 ^ (min (31 - k) 32)) := rfl
  rw [e2, Nat.min_eq_left (by omega), Int.fdiv_eq_ediv_of_nonneg _ (Int.le_of_lt (Int.pow_pos (by omega)))]

theorem rI_eq {x r : Int} (h0 : 0 ≤ x) (h1 : x < 4294967296) (r0 : 0 ≤ r) (r1 : r < LL) : ∀ k : Nat, k ≤ 32 → rI x r k = modL (r * 2 ^ k + x / 2 ^ (32 - k))
  | 0, _ => by
    show r = modL (r * 2 ^ 0 + x / 2 ^ 32)
    have : x / 2 ^ 32 = 0 := Int.ediv_eq_zero_of_lt h0 (by exact h1)
    rw [this]
    unfold modL
    rw [show r * 2 ^ 0 + 0 = r by omega]; exact (Int.emod_eq_of_lt r0 r1).symm
  | k + 1, hk => by
    have ih := rI_eq h0 h1 r0 r1 k (by omega)
    have hm := modL_rng (r * 2 ^ k + x / 2 ^ (32 - k))
    rw [← ih] at hm
    have hb := bitX_eq h0 (show k < 32 by omega)
    rw [rI_step hm.1 hm.2.1 (by rw [hb]; omega), ih, modL_2, hb]
    congr 1
    have e1 : x / 2 ^ (32 - k) = x / 2 ^ (31 - k) / 2 := by
      rw [show 32 - k = (31 - k) + 1 by omega, Int.pow_succ]
      first | exact (Int.ediv_ediv_of_nonneg (Int.le_of_lt (Int.pow_pos (by omega)))).symm | exact (Int.ediv_ediv_eq_ediv_mul x (Int.le_of_lt (Int.pow_pos (by omega)))).symm | exact (Int.ediv_ediv (Int.le_of_lt (Int.pow_pos (by omega)))).symm
    rw [e1, show 32 - (k + 1) = 31 - k by omega, Int.pow_succ]
    generalize x / 2 ^ (31 - k) = y
    rw [← Int.mul_assoc]
    generalize r * 2 ^ k = z
    omega

/-- the number of the uppermost t digits -/
def topV (l : List Int) (n : Nat) : Nat → Int
  | 0 => 0
  | t + 1 => topV l n t * 4294967296 + List.getD l (Int.toNat (((n : Nat) : Int) - (1 : Int) - ((t : Nat) : Int))) 0

theorem wd8_get {S : List Int} (h : Wd8 S) (i : Nat) : 0 ≤ List.getD S i 0 ∧ List.getD S i 0 < 4294967296 := by
  rw [List.getD_eq_getElem?_getD]
  by_cases hi : i < S.length
  · rw [List.getElem?_eq_getElem hi]; exact h _ (List.getElem_mem hi)
  · rw [List.getElem?_eq_none (by omega)]; simp

theorem rO_eq {l : List Int} (h : Wd8 l) (n : Nat) : ∀ t, rO l n t = modL (topV l n t)
  | 0 => by show (0 : Int) = modL 0; rfl
  | t + 1 => by
    have hx := wd8_get h (Int.toNat (((n : Nat) : Int) - (1 : Int) - ((t : Nat) : Int)))
    show rI _ (rO l n t) 32 = modL (topV l n t * 4294967296 + _)
    rw [rO_eq h n t]
    have hm := modL_rng (topV l n t)
    rw [rI_eq hx.1 hx.2 hm.1 hm.2.1 32 (Nat.le_refl _)]
    unfold modL
    show (topV l n t % LL * 4294967296 + List.getD l _ 0 / 1) % LL = _
    rw [Int.ediv_one, Int.add_emod, Int.mul_emod, Int.emod_emod_of_dvd _ (Int.dvd_refl LL), ← Int.mul_emod, ← Int.add_emod]

theorem mod_can (n nm : Nat) (l : List Int) (cap0 : Nat) (h0 : nm = n) (h1 : n < 70368744177664) (h2 : Wd8 l) (w : World) (β : Env) : Body Try.prog (tabOf tabNX) Try.f115 ⟨w, [], 1, β⟩ [.o (.a (.sl 0 0 n cap0))] [some ⟨false, [.ints .u32 nm l]⟩] (fun ys _ => ys = [.g [.ints .u32 (8 : Nat) (W8 (modL (topV l n n)))]]) :=
  (modR_body n nm l cap0 h0 h1 w β).mono fun xs K hx => by
    subst hx
    have e : modR n l = W8 (modL (topV l n n)) := by show W8 (rO l n n) = _; rw [rO_eq h2]
    rw [e]
end Go.Proofs.Ytlmdhjojinkdbaa.X.V

/- Printed by a tool of this session. -/
namespace Go.Proofs.Ytlmdhjojinkdbaa.X.V
open Go Go.Proofs
set_option linter.unusedVariables false
set_option linter.unusedSimpArgs false
set_option maxRecDepth 100000
theorem teNZ_3 : TEOk Try.prog 3 ⟨.int .i64, 1, 8, [.i .i64 (0 : Int)], false⟩ :=
  TEOk.of Try.underlying3 (i := Try.t3) (by kernel_rfl) rfl rfl rfl (by kernel_rfl) (fun h => by cases h) (by kernel_rfl)
theorem teNZ_5 : TEOk Try.prog 5 ⟨.int .u8, 1, 1, [.i .u8 (0 : Int)], false⟩ :=
  TEOk.of Try.underlying5 (i := Try.t5) (by kernel_rfl) rfl rfl rfl (by kernel_rfl) (fun h => by cases h) (by kernel_rfl)
theorem teNZ_22 : TEOk Try.prog 22 ⟨.slice 5, 1, 24, [.raw (.slice none 0 0)], false⟩ :=
  TEOk.of Try.underlying22 (i := Try.t22) (by kernel_rfl) rfl rfl rfl (by kernel_rfl) (fun h => by cases h) (by kernel_rfl)
theorem teNZ_62 : TEOk Try.prog 229 ⟨.int .u64, 1, 8, [.i .u64 (0 : Int)], false⟩ :=
  TEOk.of Try.underlying229 (i := Try.t229) (by kernel_rfl) rfl rfl rfl (by kernel_rfl) (fun h => by cases h) (by kernel_rfl)
theorem teNZ_109 : TEOk Try.prog 152 ⟨.int .u32, 1, 4, [.i .u32 (0 : Int)], false⟩ :=
  TEOk.of Try.underlying152 (i := Try.t152) (by kernel_rfl) rfl rfl rfl (by kernel_rfl) (fun h => by cases h) (by kernel_rfl)
theorem teNZ_113 : TEOk Try.prog 108 ⟨.slice 152, 1, 24, [.raw (.slice none 0 0)], false⟩ :=
  TEOk.of Try.underlying108 (i := Try.t108) (by kernel_rfl) rfl rfl rfl (by kernel_rfl) (fun h => by cases h) (by kernel_rfl)
noncomputable def tabNZ : List (Nat × TE) := [(3, ⟨.int .i64, 1, 8, [.i .i64 (0 : Int)], false⟩), (5, ⟨.int .u8, 1, 1, [.i .u8 (0 : Int)], false⟩), (22, ⟨.slice 5, 1, 24, [.raw (.slice none 0 0)], false⟩), (229, ⟨.int .u64, 1, 8, [.i .u64 (0 : Int)], false⟩), (152, ⟨.int .u32, 1, 4, [.i .u32 (0 : Int)], false⟩), (108, ⟨.slice 152, 1, 24, [.raw (.slice none 0 0)], false⟩)]
theorem tabOkNZ : TabOk Try.prog (tabOf tabNZ) := (tabOf_cons teNZ_3 (tabOf_cons teNZ_5 (tabOf_cons teNZ_22 (tabOf_cons teNZ_62 (tabOf_cons teNZ_109 (tabOf_cons teNZ_113 tabOf_nil))))))

def gv27 : Gam := greadV 115 [.s 1] (fun vs args => match vs, args with | [⟨_, _, _, [.ints .u32 nm l]⟩], [a0] => some ((nm = (lenOfA a0)) ∧ ((lenOfA a0) < (70368744177664 : Nat)) ∧ (Wd8 l), [.g [.ints .u32 (8 : Nat) (W8 (modL (topV l (lenOfA a0) (lenOfA a0))))]]) | _, _ => none) gv26
theorem gv27_ok : GamOk Try.prog gv27 := greadV_ok tabOkNX Try.func115 gv26_ok Try.call115 (by
  intro vs args p xs h hv
  split at h
  · simp only [Option.some.injEq, Prod.mk.injEq] at h; obtain ⟨rfl, rfl⟩ := h; exact ⟨by rfl, fun caps w β => mod_can _ _ _ _ hv.1 hv.2.1 hv.2.2 w β⟩
  · simp at h)

def digA (b : List Int) : List Int :=
  ([(bits2 .or .u32 (bits2 .or .u32 (bits2 .or .u32 (bits2 .or .u32 (0 : Int) (shl .u32 (IntKind.u32.wrap (List.getD b (0 : Nat) 0)) (0 : Int))) (shl .u32 (IntKind.u32.wrap (List.getD b (1 : Nat) 0)) (8 : Int))) (shl .u32 (IntKind.u32.wrap (List.getD b (2 : Nat) 0)) (16 : Int))) (shl .u32 (IntKind.u32.wrap (List.getD b (3 : Nat) 0)) (24 : Int))), (bits2 .or .u32 (bits2 .or .u32 (bits2 .or .u32 (bits2 .or .u32 (0 : Int) (shl .u32 (IntKind.u32.wrap (List.getD b (4 : Nat) 0)) (0 : Int))) (shl .u32 (IntKind.u32.wrap (List.getD b (5 : Nat) 0)) (8 : Int))) (shl .u32 (IntKind.u32.wrap (List.getD b (6 : Nat) 0)) (16 : Int))) (shl .u32 (IntKind.u32.wrap (List.getD b (7 : Nat) 0)) (24 : Int))), (bits2 .or .u32 (bits2 .or .u32 (bits2 .or .u32 (bits2 .or .u32 (0 : Int) (shl .u32 (IntKind.u32.wrap (List.getD b (8 : Nat) 0)) (0 : Int))) (shl .u32 (IntKind.u32.wrap (List.getD b (9 : Nat) 0)) (8 : Int))) (shl .u32 (IntKind.u32.wrap (List.getD b (10 : Nat) 0)) (16 : Int))) (shl .u32 (IntKind.u32.wrap (List.getD b (11 : Nat) 0)) (24 : Int))), (bits2 .or .u32 (bits2 .or .u32 (bits2 .or .u32 (bits2 .or .u32 (0 : Int) (shl .u32 (IntKind.u32.wrap (List.getD b (12 : Nat) 0)) (0 : Int))) (shl .u32 (IntKind.u32.wrap (List.getD b (13 : Nat) 0)) (8 : Int))) (shl .u32 (IntKind.u32.wrap (List.getD b (14 : Nat) 0)) (16 : Int))) (shl .u32 (IntKind.u32.wrap (List.getD b (15 : Nat) 0)) (24 : Int))), (bits2 .or .u32 (bits2 .or .u32 (bits2 .or .u32 (bits2 .or .u32 (0 : Int) (shl .u32 (IntKind.u32.wrap (List.getD b (16 : Nat) 0)) (0 : Int))) (shl .u32 (IntKind.u32.wrap (List.getD b (17 : Nat) 0)) (8 : Int))) (shl .u32 (IntKind.u32.wrap (List.getD b (18 : Nat) 0)) (16 : Int))) (shl .u32 (IntKind.u32.wrap (List.getD b (19 : Nat) 0)) (24 : Int))), (bits2 .or .u32 (bits2 .or .u32 (bits2 .or .u32 (bits2 .or .u32 (0 : Int) (shl .u32 (IntKind.u32.wrap (List.getD b (20 : Nat) 0)) (0 : Int))) (shl .u32 (IntKind.u32.wrap (List.getD b (21 : Nat) 0)) (8 : Int))) (shl .u32 (IntKind.u32.wrap (List.getD b (22 : Nat) 0)) (16 : Int))) (shl .u32 (IntKind.u32.wrap (List.getD b (23 : Nat) 0)) (24 : Int))), (bits2 .or .u32 (bits2 .or .u32 (bits2 .or .u32 (bits2 .or .u32 (0 : Int) (shl .u32 (IntKind.u32.wrap (List.getD b (24 : Nat) 0)) (0 : Int))) (shl .u32 (IntKind.u32.wrap (List.getD b (25 : Nat) 0)) (8 : Int))) (shl .u32 (IntKind.u32.wrap (List.getD b (26 : Nat) 0)) (16 : Int))) (shl .u32 (IntKind.u32.wrap (List.getD b (27 : Nat) 0)) (24 : Int))), (bits2 .or .u32 (bits2 .or .u32 (bits2 .or .u32 (bits2 .or .u32 (0 : Int) (shl .u32 (IntKind.u32.wrap (List.getD b (28 : Nat) 0)) (0 : Int))) (shl .u32 (IntKind.u32.wrap (List.getD b (29 : Nat) 0)) (8 : Int))) (shl .u32 (IntKind.u32.wrap (List.getD b (30 : Nat) 0)) (16 : Int))) (shl .u32 (IntKind.u32.wrap (List.getD b (31 : Nat) 0)) (24 : Int)))] : List Int)

set_option maxHeartbeats 1000000 in
theorem digA_body0 (b : List Int) (cp : Nat) (hl0_0 : List.length b = (32 : Nat)) (w : World) (rw : List Nat) (β : Env) : Body Try.prog (tabOf tabNZ) Try.f116 ⟨w, rw, 1, β⟩ [.o (.a (.sl 0 0 (32 : Nat) cp))] [some ⟨false, [.ints .u8 (32 : Nat) b]⟩] (fun ys K' => ys = [.a (.sl 1 0 (8 : Nat) (8 : Nat))] ∧ K' = [some ⟨false, [.ints .u8 (32 : Nat) b]⟩, some ⟨true, [.ints .u32 (8 : Nat) (digA b)]⟩]) :=
  Body.of_finK (Γ := gv27) (Λ := noLam) (Ψ := psiOf [(1, [.eqB 1 (⟨true, [.ints .u32 (8 : Nat) ([0, 0, 0, 0, 0, 0, 0, 0] : List Int)]⟩)])]) (fuel := 33) (m := 37) (c := (Try.f116.body.getD .skip)) mix tabOkNZ gv27_ok rfl (rs := [.tmp 2]) rfl rfl [true, true, true, true, true, true, true, true, true, true, true, true, true, true, true, true, true, true, true, true, true, true, true, true, true, true, true, true, true, true, true, true, false] [] 2
    (vc := [(false = false), ((7 : Nat) < (8 : Nat)), (((0 : Int) ≤ (7 : Int)) ∧ ((7 : Int) < (8 : Int))), ((0 : Int) ≤ (24 : Int)), ((4 : Int) ≠ 0), ((31 : Nat) < (32 : Nat)), (((0 : Int) ≤ (31 : Int)) ∧ ((31 : Int) < (32 : Int))), ((7 : Nat) < (8 : Nat)), (((0 : Int) ≤ (7 : Int)) ∧ ((7 : Int) < (8 : Int))), ((4 : Int) ≠ 0), ((4 : Int) ≠ 0), (true = true), ((7 : Nat) < (8 : Nat)), (((0 : Int) ≤ (7 : Int)) ∧ ((7 : Int) < (8 : Int))), ((0 : Int) ≤ (16 : Int)), ((4 : Int) ≠ 0), ((30 : Nat) < (32 : Nat)), (((0 : Int) ≤ (30 : Int)) ∧ ((30 : Int) < (32 : Int))), ((7 : Nat) < (8 : Nat)), (((0 : Int) ≤ (7 : Int)) ∧ ((7 : Int) < (8 : Int))), ((4 : Int) ≠ 0), ((4 : Int) ≠ 0), (true = true), ((7 : Nat) < (8 : Nat)), (((0 : Int) ≤ (7 : Int)) ∧ ((7 : Int) < (8 : Int))), ((0 : Int) ≤ (8 : Int)), ((4 : Int) ≠ 0), ((29 : Nat) < (32 : Nat)), (((0 : Int) ≤ (29 : Int)) ∧ ((29 : Int) < (32 : Int))), ((7 : Nat) < (8 : Nat)), (((0 : Int) ≤ (7 : Int)) ∧ ((7 : Int) < (8 : Int))), ((4 : Int) ≠ 0), ((4 : Int) ≠ 0), (true = true), ((7 : Nat) < (8 : Nat)), (((0 : Int) ≤ (7 : Int)) ∧ ((7 : Int) < (8 : Int))), ((0 : Int) ≤ (0 : Int)), ((4 : Int) ≠ 0), ((28 : Nat) < (32 : Nat)), (((0 : Int) ≤ (28 : Int)) ∧ ((28 : Int) < (32 : Int))), ((7 : Nat) < (8 : Nat)), (((0 : Int) ≤ (7 : Int)) ∧ ((7 : Int) < (8 : Int))), ((4 : Int) ≠ 0), ((4 : Int) ≠ 0), (true = true), ((6 : Nat) < (8 : Nat)), (((0 : Int) ≤ (6 : Int)) ∧ ((6 : Int) < (8 : Int))), ((0 : Int) ≤ (24 : Int)), ((4 : Int) ≠ 0), ((27 : Nat) < (32 : Nat)), (((0 : Int) ≤ (27 : Int)) ∧ ((27 : Int) < (32 : Int))), ((6 : Nat) < (8 : Nat)), (((0 : Int) ≤ (6 : Int)) ∧ ((6 : Int) < (8 : Int))), ((4 : Int) ≠ 0), ((4 : Int) ≠ 0), (true = true), ((6 : Nat) < (8 : Nat)), (((0 : Int) ≤ (6 : Int)) ∧ ((6 : Int) < (8 : Int))), ((0 : Int) ≤ (16 : Int)), ((4 : Int) ≠ 0), ((26 : Nat) < (32 : Nat)), (((0 : Int) ≤ (26 : Int)) ∧ ((26 : Int) < (32 : Int))), ((6 : Nat) < (8 : Nat)), (((0 : Int) ≤ (6 : Int)) ∧ ((6 : Int) < (8 : Int))), ((4 : Int) ≠ 0), ((4 : Int) ≠ 0), (true = true), ((6 : Nat) < (8 : Nat)), (((0 : Int) ≤ (6 : Int)) ∧ ((6 : Int) < (8 : Int))), ((0 : Int) ≤ (8 : Int)), ((4 : Int) ≠ 0), ((25 : Nat) < (32 : Nat)), (((0 : Int) ≤ (25 : Int)) ∧ ((25 : Int) < (32 : Int))), ((6 : Nat) < (8 : Nat)), (((0 : Int) ≤ (6 : Int)) ∧ ((6 : Int) < (8 : Int))), ((4 : Int) ≠ 0), ((4 : Int) ≠ 0), (true = true), ((6 : Nat) < (8 : Nat)), (((0 : Int) ≤ (6 : Int)) ∧ ((6 : Int) < (8 : Int))), ((0 : Int) ≤ (0 : Int)), ((4 : Int) ≠ 0), ((24 : Nat) < (32 : Nat)), (((0 : Int) ≤ (24 : Int)) ∧ ((24 : Int) < (32 : Int))), ((6 : Nat) < (8 : Nat)), (((0 : Int) ≤ (6 : Int)) ∧ ((6 : Int) < (8 : Int))), ((4 : Int) ≠ 0), ((4 : Int) ≠ 0), (true = true), ((5 : Nat) < (8 : Nat)), (((0 : Int) ≤ (5 : Int)) ∧ ((5 : Int) < (8 : Int))), ((0 : Int) ≤ (24 : Int)), ((4 : Int) ≠ 0), ((23 : Nat) < (32 : Nat)), (((0 : Int) ≤ (23 : Int)) ∧ ((23 : Int) < (32 : Int))), ((5 : Nat) < (8 : Nat)), (((0 : Int) ≤ (5 : Int)) ∧ ((5 : Int) < (8 : Int))), ((4 : Int) ≠ 0), ((4 : Int) ≠ 0), (true = true), ((5 : Nat) < (8 : Nat)), (((0 : Int) ≤ (5 : Int)) ∧ ((5 : Int) < (8 : Int))), ((0 : Int) ≤ (16 : Int)), ((4 : Int) ≠ 0), ((22 : Nat) < (32 : Nat)), (((0 : Int) ≤ (22 : Int)) ∧ ((22 : Int) < (32 : Int))), ((5 : Nat) < (8 : Nat)), (((0 : Int) ≤ (5 : Int)) ∧ ((5 : Int) < (8 : Int))), ((4 : Int) ≠ 0), ((4 : Int) ≠ 0), (true = true), ((5 : Nat) < (8 : Nat)), (((0 : Int) ≤ (5 : Int)) ∧ ((5 : Int) < (8 : Int))), ((0 : Int) ≤ (8 : Int)), ((4 : Int) ≠ 0), ((21 : Nat) < (32 : Nat)), (((0 : Int) ≤ (21 : Int)) ∧ ((21 : Int) < (32 : Int))), ((5 : Nat) < (8 : Nat)), (((0 : Int) ≤ (5 : Int)) ∧ ((5 : Int) < (8 : Int))), ((4 : Int) ≠ 0), ((4 : Int) ≠ 0), (true = true), ((5 : Nat) < (8 : Nat)), (((0 : Int) ≤ (5 : Int)) ∧ ((5 : Int) < (8 : Int))), ((0 : Int) ≤ (0 : Int)), ((4 : Int) ≠ 0), ((20 : Nat) < (32 : Nat)), (((0 : Int) ≤ (20 : Int)) ∧ ((20 : Int) < (32 : Int))), ((5 : Nat) < (8 : Nat)), (((0 : Int) ≤ (5 : Int)) ∧ ((5 : Int) < (8 : Int))), ((4 : Int) ≠ 0), ((4 : Int) ≠ 0), (true = true), ((4 : Nat) < (8 : Nat)), (((0 : Int) ≤ (4 : Int)) ∧ ((4 : Int) < (8 : Int))), ((0 : Int) ≤ (24 : Int)), ((4 : Int) ≠ 0), ((19 : Nat) < (32 : Nat)), (((0 : Int) ≤ (19 : Int)) ∧ ((19 : Int) < (32 : Int))), ((4 : Nat) < (8 : Nat)), (((0 : Int) ≤ (4 : Int)) ∧ ((4 : Int) < (8 : Int))), ((4 : Int) ≠ 0), ((4 : Int) ≠ 0), (true = true), ((4 : Nat) < (8 : Nat)), (((0 : Int) ≤ (4 : Int)) ∧ ((4 : Int) < (8 : Int))), ((0 : Int) ≤ (16 : Int)), ((4 : Int) ≠ 0), ((18 : Nat) < (32 : Nat)), (((0 : Int) ≤ (18 : Int)) ∧ ((18 : Int) < (32 : Int))), ((4 : Nat) < (8 : Nat)), (((0 : Int) ≤ (4 : Int)) ∧ ((4 : Int) < (8 : Int))), ((4 : Int) ≠ 0), ((4 : Int) ≠ 0), (true = true), ((4 : Nat) < (8 : Nat)), (((0 : Int) ≤ (4 : Int)) ∧ ((4 : Int) < (8 : Int))), ((0 : Int) ≤ (8 : Int)), ((4 : Int) ≠ 0), ((17 : Nat) < (32 : Nat)), (((0 : Int) ≤ (17 : Int)) ∧ ((17 : Int) < (32 : Int))), ((4 : Nat) < (8 : Nat)), (((0 : Int) ≤ (4 : Int)) ∧ ((4 : Int) < (8 : Int))), ((4 : Int) ≠ 0), ((4 : Int) ≠ 0), (true = true), ((4 : Nat) < (8 : Nat)), (((0 : Int) ≤ (4 : Int)) ∧ ((4 : Int) < (8 : Int))), ((0 : Int) ≤ (0 : Int)), ((4 : Int) ≠ 0), ((16 : Nat) < (32 : Nat)), (((0 : Int) ≤ (16 : Int)) ∧ ((16 : Int) < (32 : Int))), ((4 : Nat) < (8 : Nat)), (((0 : Int) ≤ (4 : Int)) ∧ ((4 : Int) < (8 : Int))), ((4 : Int) ≠ 0), ((4 : Int) ≠ 0), (true = true), ((3 : Nat) < (8 : Nat)), (((0 : Int) ≤ (3 : Int)) ∧ ((3 : Int) < (8 : Int))), ((0 : Int) ≤ (24 : Int)), ((4 : Int) ≠ 0), ((15 : Nat) < (32 : Nat)), (((0 : Int) ≤ (15 : Int)) ∧ ((15 : Int) < (32 : Int))), ((3 : Nat) < (8 : Nat)), (((0 : Int) ≤ (3 : Int)) ∧ ((3 : Int) < (8 : Int))), ((4 : Int) ≠ 0), ((4 : Int) ≠ 0), (true = true), ((3 : Nat) < (8 : Nat)), (((0 : Int) ≤ (3 : Int)) ∧ ((3 : Int) < (8 : Int))), ((0 : Int) ≤ (16 : Int)), ((4 : Int) ≠ 0), ((14 : Nat) < (32 : Nat)), (((0 : Int) ≤ (14 : Int)) ∧ ((14 : Int) < (32 : Int))), ((3 : Nat) < (8 : Nat)), (((0 : Int) ≤ (3 : Int)) ∧ ((3 : Int) < (8 : Int))), ((4 : Int) ≠ 0), ((4 : Int) ≠ 0), (true = true), ((3 : Nat) < (8 : Nat)), (((0 : Int) ≤ (3 : Int)) ∧ ((3 : Int) < (8 : Int))), ((0 : Int) ≤ (8 : Int)), ((4 : Int) ≠ 0), ((13 : Nat) < (32 : Nat)), (((0 : Int) ≤ (13 : Int)) ∧ ((13 : Int) < (32 : Int))), ((3 : Nat) < (8 : Nat)), (((0 : Int) ≤ (3 : Int)) ∧ ((3 : Int) < (8 : Int))), ((4 : Int) ≠ 0), ((4 : Int) ≠ 0), (true = true), ((3 : Nat) < (8 : Nat)), (((0 : Int) ≤ (3 : Int)) ∧ ((3 : Int) < (8 : Int))), ((0 : Int) ≤ (0 : Int)), ((4 : Int) ≠ 0), ((12 : Nat) < (32 : Nat)), (((0 : Int) ≤ (12 : Int)) ∧ ((12 : Int) < (32 : Int))), ((3 : Nat) < (8 : Nat)), (((0 : Int) ≤ (3 : Int)) ∧ ((3 : Int) < (8 : Int))), ((4 : Int) ≠ 0), ((4 : Int) ≠ 0), (true = true), ((2 : Nat) < (8 : Nat)), (((0 : Int) ≤ (2 : Int)) ∧ ((2 : Int) < (8 : Int))), ((0 : Int) ≤ (24 : Int)), ((4 : Int) ≠ 0), ((11 : Nat) < (32 : Nat)), (((0 : Int) ≤ (11 : Int)) ∧ ((11 : Int) < (32 : Int))), ((2 : Nat) < (8 : Nat)), (((0 : Int) ≤ (2 : Int)) ∧ ((2 : Int) < (8 : Int))), ((4 : Int) ≠ 0), ((4 : Int) ≠ 0), (true = true), ((2 : Nat) < (8 : Nat)), (((0 : Int) ≤ (2 : Int)) ∧ ((2 : Int) < (8 : Int))), ((0 : Int) ≤ (16 : Int)), ((4 : Int) ≠ 0), ((10 : Nat) < (32 : Nat)), (((0 : Int) ≤ (10 : Int)) ∧ ((10 : Int) < (32 : Int))), ((2 : Nat) < (8 : Nat)), (((0 : Int) ≤ (2 : Int)) ∧ ((2 : Int) < (8 : Int))), ((4 : Int) ≠ 0), ((4 : Int) ≠ 0), (true = true), ((2 : Nat) < (8 : Nat)), (((0 : Int) ≤ (2 : Int)) ∧ ((2 : Int) < (8 : Int))), ((0 : Int) ≤ (8 : Int)), ((4 : Int) ≠ 0), ((9 : Nat) < (32 : Nat)), (((0 : Int) ≤ (9 : Int)) ∧ ((9 : Int) < (32 : Int))), ((2 : Nat) < (8 : Nat)), (((0 : Int) ≤ (2 : Int)) ∧ ((2 : Int) < (8 : Int))), ((4 : Int) ≠ 0), ((4 : Int) ≠ 0), (true = true), ((2 : Nat) < (8 : Nat)), (((0 : Int) ≤ (2 : Int)) ∧ ((2 : Int) < (8 : Int))), ((0 : Int) ≤ (0 : Int)), ((4 : Int) ≠ 0), ((8 : Nat) < (32 : Nat)), (((0 : Int) ≤ (8 : Int)) ∧ ((8 : Int) < (32 : Int))), ((2 : Nat) < (8 : Nat)), (((0 : Int) ≤ (2 : Int)) ∧ ((2 : Int) < (8 : Int))), ((4 : Int) ≠ 0), ((4 : Int) ≠ 0), (true = true), ((1 : Nat) < (8 : Nat)), (((0 : Int) ≤ (1 : Int)) ∧ ((1 : Int) < (8 : Int))), ((0 : Int) ≤ (24 : Int)), ((4 : Int) ≠ 0), ((7 : Nat) < (32 : Nat)), (((0 : Int) ≤ (7 : Int)) ∧ ((7 : Int) < (32 : Int))), ((1 : Nat) < (8 : Nat)), (((0 : Int) ≤ (1 : Int)) ∧ ((1 : Int) < (8 : Int))), ((4 : Int) ≠ 0), ((4 : Int) ≠ 0), (true = true), ((1 : Nat) < (8 : Nat)), (((0 : Int) ≤ (1 : Int)) ∧ ((1 : Int) < (8 : Int))), ((0 : Int) ≤ (16 : Int)), ((4 : Int) ≠ 0), ((6 : Nat) < (32 : Nat)), (((0 : Int) ≤ (6 : Int)) ∧ ((6 : Int) < (32 : Int))), ((1 : Nat) < (8 : Nat)), (((0 : Int) ≤ (1 : Int)) ∧ ((1 : Int) < (8 : Int))), ((4 : Int) ≠ 0), ((4 : Int) ≠ 0), (true = true), ((1 : Nat) < (8 : Nat)), (((0 : Int) ≤ (1 : Int)) ∧ ((1 : Int) < (8 : Int))), ((0 : Int) ≤ (8 : Int)), ((4 : Int) ≠ 0), ((5 : Nat) < (32 : Nat)), (((0 : Int) ≤ (5 : Int)) ∧ ((5 : Int) < (32 : Int))), ((1 : Nat) < (8 : Nat)), (((0 : Int) ≤ (1 : Int)) ∧ ((1 : Int) < (8 : Int))), ((4 : Int) ≠ 0), ((4 : Int) ≠ 0), (true = true), ((1 : Nat) < (8 : Nat)), (((0 : Int) ≤ (1 : Int)) ∧ ((1 : Int) < (8 : Int))), ((0 : Int) ≤ (0 : Int)), ((4 : Int) ≠ 0), ((4 : Nat) < (32 : Nat)), (((0 : Int) ≤ (4 : Int)) ∧ ((4 : Int) < (32 : Int))), ((1 : Nat) < (8 : Nat)), (((0 : Int) ≤ (1 : Int)) ∧ ((1 : Int) < (8 : Int))), ((4 : Int) ≠ 0), ((4 : Int) ≠ 0), (true = true), ((0 : Nat) < (8 : Nat)), (((0 : Int) ≤ (0 : Int)) ∧ ((0 : Int) < (8 : Int))), ((0 : Int) ≤ (24 : Int)), ((4 : Int) ≠ 0), ((3 : Nat) < (32 : Nat)), (((0 : Int) ≤ (3 : Int)) ∧ ((3 : Int) < (32 : Int))), ((0 : Nat) < (8 : Nat)), (((0 : Int) ≤ (0 : Int)) ∧ ((0 : Int) < (8 : Int))), ((4 : Int) ≠ 0), ((4 : Int) ≠ 0), (true = true), ((0 : Nat) < (8 : Nat)), (((0 : Int) ≤ (0 : Int)) ∧ ((0 : Int) < (8 : Int))), ((0 : Int) ≤ (16 : Int)), ((4 : Int) ≠ 0), ((2 : Nat) < (32 : Nat)), (((0 : Int) ≤ (2 : Int)) ∧ ((2 : Int) < (32 : Int))), ((0 : Nat) < (8 : Nat)), (((0 : Int) ≤ (0 : Int)) ∧ ((0 : Int) < (8 : Int))), ((4 : Int) ≠ 0), ((4 : Int) ≠ 0), (true = true), ((0 : Nat) < (8 : Nat)), (((0 : Int) ≤ (0 : Int)) ∧ ((0 : Int) < (8 : Int))), ((0 : Int) ≤ (8 : Int)), ((4 : Int) ≠ 0), ((1 : Nat) < (32 : Nat)), (((0 : Int) ≤ (1 : Int)) ∧ ((1 : Int) < (32 : Int))), ((0 : Nat) < (8 : Nat)), (((0 : Int) ≤ (0 : Int)) ∧ ((0 : Int) < (8 : Int))), ((4 : Int) ≠ 0), ((4 : Int) ≠ 0), (true = true), ((0 : Nat) < (8 : Nat)), (((0 : Int) ≤ (0 : Int)) ∧ ((0 : Int) < (8 : Int))), ((0 : Int) ≤ (0 : Int)), ((4 : Int) ≠ 0), ((0 : Nat) < (32 : Nat)), (((0 : Int) ≤ (0 : Int)) ∧ ((0 : Int) < (32 : Int))), ((0 : Nat) < (8 : Nat)), (((0 : Int) ≤ (0 : Int)) ∧ ((0 : Int) < (8 : Int))), ((4 : Int) ≠ 0), ((4 : Int) ≠ 0), (true = true), ((some ⟨true, [.ints .u32 (8 : Nat) (List.replicate (8 : Nat) (0 : Int))]⟩ : Option Blk) = some ⟨true, [.ints .u32 (8 : Nat) ([0, 0, 0, 0, 0, 0, 0, 0] : List Int)]⟩), (((0 : Int) ≤ (8 : Int)) ∧ ((8 : Int) ≤ (8 : Int)) ∧ ((32 : Int) ≤ (281474976710656 : Int))), ((4 : Int) ≠ 0)]) (by kernel_rfl)
    (aC rfl (aC (by decide) (aC ⟨(by decide), (by decide)⟩ (aC (by decide) (aC (by decide) (aC (by decide) (aC ⟨(by decide), (by decide)⟩ (aC (by decide) (aC ⟨(by decide), (by decide)⟩ (aC (by decide) (aC (by decide) (aC rfl (aC (by decide) (aC ⟨(by decide), (by decide)⟩ (aC (by decide) (aC (by decide) (aC (by decide) (aC ⟨(by decide), (by decide)⟩ (aC (by decide) (aC ⟨(by decide), (by decide)⟩ (aC (by decide) (aC (by decide) (aC rfl (aC (by decide) (aC ⟨(by decide), (by decide)⟩ (aC (by decide) (aC (by decide) (aC (by decide) (aC ⟨(by decide), (by decide)⟩ (aC (by decide) (aC ⟨(by decide), (by decide)⟩ (aC (by decide) (aC (by decide) (aC rfl (aC (by decide) (aC ⟨(by decide), (by decide)⟩ (aC (by decide) (aC (by decide) (aC (by decide) (aC ⟨(by decide), (by decide)⟩ (aC (by decide) (aC ⟨(by decide), (by decide)⟩ (aC (by decide) (aC (by decide) (aC rfl (aC (by decide) (aC ⟨(by decide), (by decide)⟩ (aC (by decide) (aC (by decide) (aC (by decide) (aC ⟨(by decide), (by decide)⟩ (aC (by decide) (aC ⟨(by decide), (by decide)⟩ (aC (by decide) (aC (by decide) (aC rfl (aC (by decide) (aC ⟨(by decide), (by decide)⟩ (aC (by decide) (aC (by decide) (aC (by decide) (aC ⟨(by decide), (by decide)⟩ (aC (by decide) (aC ⟨(by decide), (by decide)⟩ (aC (by decide) (aC (by decide) (aC rfl (aC (by decide) (aC ⟨(by decide), (by decide)⟩ (aC (by decide) (aC (by decide) (aC (by decide) (aC ⟨(by decide), (by decide)⟩ (aC (by decide) (aC ⟨(by decide), (by decide)⟩ (aC (by decide) (aC (by decide) (aC rfl (aC (by decide) (aC ⟨(by decide), (by decide)⟩ (aC (by decide) (aC (by decide) (aC (by decide) (aC ⟨(by decide), (by decide)⟩ (aC (by decide) (aC ⟨(by decide), (by decide)⟩ (aC (by decide) (aC (by decide) (aC rfl (aC (by decide) (aC ⟨(by decide), (by decide)⟩ (aC (by decide) (aC (by decide) (aC (by decide) (aC ⟨(by decide), (by decide)⟩ (aC (by decide) (aC ⟨(by decide), (by decide)⟩ (aC (by decide) (aC (by decide) (aC rfl (aC (by decide) (aC ⟨(by decide), (by decide)⟩ (aC (by decide) (aC (by decide) (aC (by decide) (aC ⟨(by decide), (by decide)⟩ (aC (by decide) (aC ⟨(by decide), (by decide)⟩ (aC (by decide) (aC (by decide) (aC rfl (aC (by decide) (aC ⟨(by decide), (by decide)⟩ (aC (by decide) (aC (by decide) (aC (by decide) (aC ⟨(by decide), (by decide)⟩ (aC (by decide) (aC ⟨(by decide), (by decide)⟩ (aC (by decide) (aC (by decide) (aC rfl (aC (by decide) (aC ⟨(by decide), (by decide)⟩ (aC (by decide) (aC (by decide) (aC (by decide) (aC ⟨(by decide), (by decide)⟩ (aC (by decide) (aC ⟨(by decide), (by decide)⟩ (aC (by decide) (aC (by decide) (aC rfl (aC (by decide) (aC ⟨(by decide), (by decide)⟩ (aC (by decide) (aC (by decide) (aC (by decide) (aC ⟨(by decide), (by decide)⟩ (aC (by decide) (aC ⟨(by decide), (by decide)⟩ (aC (by decide) (aC (by decide) (aC rfl (aC (by decide) (aC ⟨(by decide), (by decide)⟩ (aC (by decide) (aC (by decide) (aC (by decide) (aC ⟨(by decide), (by decide)⟩ (aC (by decide) (aC ⟨(by decide), (by decide)⟩ (aC (by decide) (aC (by decide) (aC rfl (aC (by decide) (aC ⟨(by decide), (by decide)⟩ (aC (by decide) (aC (by decide) (aC (by decide) (aC ⟨(by decide), (by decide)⟩ (aC (by decide) (aC ⟨(by decide), (by decide)⟩ (aC (by decide) (aC (by decide) (aC rfl (aC (by decide) (aC ⟨(by decide), (by decide)⟩ (aC (by decide) (aC (by decide) (aC (by decide) (aC ⟨(by decide), (by decide)⟩ (aC (by decide) (aC ⟨(by decide), (by decide)⟩ (aC (by decide) (aC (by decide) (aC rfl (aC (by decide) (aC ⟨(by decide), (by decide)⟩ (aC (by decide) (aC (by decide) (aC (by decide) (aC ⟨(by decide), (by decide)⟩ (aC (by decide) (aC ⟨(by decide), (by decide)⟩ (aC (by decide) (aC (by decide) (aC rfl (aC (by decide) (aC ⟨(by decide), (by decide)⟩ (aC (by decide) (aC (by decide) (aC (by decide) (aC ⟨(by decide), (by decide)⟩ (aC (by decide) (aC ⟨(by decide), (by decide)⟩ (aC (by decide) (aC (by decide) (aC rfl (aC (by decide) (aC ⟨(by decide), (by decide)⟩ (aC (by decide) (aC (by decide) (aC (by decide) (aC ⟨(by decide), (by decide)⟩ (aC (by decide) (aC ⟨(by decide), (by decide)⟩ (aC (by decide) (aC (by decide) (aC rfl (aC (by decide) (aC ⟨(by decide), (by decide)⟩ (aC (by decide) (aC (by decide) (aC (by decide) (aC ⟨(by decide), (by decide)⟩ (aC (by decide) (aC ⟨(by decide), (by decide)⟩ (aC (by decide) (aC (by decide) (aC rfl (aC (by decide) (aC ⟨(by decide), (by decide)⟩ (aC (by decide) (aC (by decide) (aC (by decide) (aC ⟨(by decide), (by decide)⟩ (aC (by decide) (aC ⟨(by decide), (by decide)⟩ (aC (by decide) (aC (by decide) (aC rfl (aC (by decide) (aC ⟨(by decide), (by decide)⟩ (aC (by decide) (aC (by decide) (aC (by decide) (aC ⟨(by decide), (by decide)⟩ (aC (by decide) (aC ⟨(by decide), (by decide)⟩ (aC (by decide) (aC (by decide) (aC rfl (aC (by decide) (aC ⟨(by decide), (by decide)⟩ (aC (by decide) (aC (by decide) (aC (by decide) (aC ⟨(by decide), (by decide)⟩ (aC (by decide) (aC ⟨(by decide), (by decide)⟩ (aC (by decide) (aC (by decide) (aC rfl (aC (by decide) (aC ⟨(by decide), (by decide)⟩ (aC (by decide) (aC (by decide) (aC (by decide) (aC ⟨(by decide), (by decide)⟩ (aC (by decide) (aC ⟨(by decide), (by decide)⟩ (aC (by decide) (aC (by decide) (aC rfl (aC (by decide) (aC ⟨(by decide), (by decide)⟩ (aC (by decide) (aC (by decide) (aC (by decide) (aC ⟨(by decide), (by decide)⟩ (aC (by decide) (aC ⟨(by decide), (by decide)⟩ (aC (by decide) (aC (by decide) (aC rfl (aC (by decide) (aC ⟨(by decide), (by decide)⟩ (aC (by decide) (aC (by decide) (aC (by decide) (aC ⟨(by decide), (by decide)⟩ (aC (by decide) (aC ⟨(by decide), (by decide)⟩ (aC (by decide) (aC (by decide) (aC rfl (aC (by decide) (aC ⟨(by decide), (by decide)⟩ (aC (by decide) (aC (by decide) (aC (by decide) (aC ⟨(by decide), (by decide)⟩ (aC (by decide) (aC ⟨(by decide), (by decide)⟩ (aC (by decide) (aC (by decide) (aC rfl (aC (by decide) (aC ⟨(by decide), (by decide)⟩ (aC (by decide) (aC (by decide) (aC (by decide) (aC ⟨(by decide), (by decide)⟩ (aC (by decide) (aC ⟨(by decide), (by decide)⟩ (aC (by decide) (aC (by decide) (aC rfl (aC (by decide) (aC ⟨(by decide), (by decide)⟩ (aC (by decide) (aC (by decide) (aC (by decide) (aC ⟨(by decide), (by decide)⟩ (aC (by decide) (aC ⟨(by decide), (by decide)⟩ (aC (by decide) (aC (by decide) (aC rfl (aC (by decide) (aC ⟨(by decide), (by decide)⟩ (aC (by decide) (aC (by decide) (aC (by decide) (aC ⟨(by decide), (by decide)⟩ (aC (by decide) (aC ⟨(by decide), (by decide)⟩ (aC (by decide) (aC (by decide) (aC rfl (aC (by decide) (aC ⟨(by decide), (by decide)⟩ (aC (by decide) (aC (by decide) (aC (by decide) (aC ⟨(by decide), (by decide)⟩ (aC (by decide) (aC ⟨(by decide), (by decide)⟩ (aC (by decide) (aC (by decide) (aC rfl (aC (by decide) (aC ⟨(by decide), (by decide)⟩ (aC (by decide) (aC (by decide) (aC (by decide) (aC ⟨(by decide), (by decide)⟩ (aC (by decide) (aC ⟨(by decide), (by decide)⟩ (aC (by decide) (aC (by decide) (aC rfl (aC ((by rfl)) (aC ⟨(by decide), (by decide), (by decide)⟩ (aC (by decide) (AllP_nil)))))))))))))))))))))))))))))))))))))))))))))))))))))))))))))))))))))))))))))))))))))))))))))))))))))))))))))))))))))))))))))))))))))))))))))))))))))))))))))))))))))))))))))))))))))))))))))))))))))))))))))))))))))))))))))))))))))))))))))))))))))))))))))))))))))))))))))))))))))))))))))))))))))))))))))))))))))))))))))))))))))))))))))))))))))))))))))))))))))

theorem digA_body (b : List Int) (cp : Nat) (w : World) (rw : List Nat) (β : Env) : Body Try.prog (tabOf tabNZ) Try.f116 ⟨w, rw, 1, β⟩ [.o (.a (.sl 0 0 (32 : Nat) cp))] [some ⟨false, [.ints .u8 (32 : Nat) b]⟩] (fun ys K' => ys = [.a (.sl 1 0 (8 : Nat) (8 : Nat))] ∧ K' = [some ⟨false, [.ints .u8 (32 : Nat) b]⟩, some ⟨true, [.ints .u32 (8 : Nat) (digA b)]⟩]) :=
  Body.lens (c := (Try.f116.body.getD .skip)) rfl fun h => digA_body0 b cp (h.lens 0 _ .u8 (32 : Nat) b rfl (by simp)) w rw β

end Go.Proofs.Ytlmdhjojinkdbaa.X.V

/- The digits of 32 bytes. -/
namespace Go.Proofs.Ytlmdhjojinkdbaa.X.V
open Go Go.Proofs
set_option linter.unusedVariables false

theorem or_shl32 {a b : Int} {n : Nat} (hn : n ≤ 24) (h0 : 0 ≤ a) (h1 : a < ((2 ^ n : Nat) : Int)) (b0 : 0 ≤ b) (b1 : b < 256) : bits2 .or .u32 a (shl .u32 (IntKind.u32.wrap b) ((n : Nat) : Int)) = a + b * ((2 ^ n : Nat) : Int) := by
  obtain ⟨x, rfl⟩ := Int.eq_ofNat_of_zero_le h0
  obtain ⟨y, rfl⟩ := Int.eq_ofNat_of_zero_le b0
  have hx : x < 2 ^ n := by omega
  have hy : y < 256 := by omega
  have hp : 2 ^ n ≤ 2 ^ 24 := Nat.pow_le_pow_right (by omega) hn
  have hyp : y * 2 ^ n ≤ 255 * 2 ^ 24 := Nat.mul_le_mul (by omega) hp
  have e1 : shl .u32 (IntKind.u32.wrap ((y : Nat) : Int)) ((n : Nat) : Int) = ((y * 2 ^ n : Nat) : Int) := by
    have : shl .u32 (IntKind.u32.wrap ((y : Nat) : Int)) ((n : Nat) : Int) = IntKind.u32.wrap (IntKind.u32.wrap ((y : Nat) : Int) * 2 ^ (min n 32)) := rfl
    rw [this, Nat.min_eq_left (by omega), wrap32 ((y : Nat) : Int), Int.emod_eq_of_lt (by omega) (by omega), wrap32]
    have e : ((y : Nat) : Int) * 2 ^ n = ((y * 2 ^ n : Nat) : Int) := by rw [Int.natCast_mul, Int.natCast_pow]; rfl
    rw [e]
    exact Int.emod_eq_of_lt (by omega) (by omega)
  rw [e1]
  have e : bits2 .or .u32 ((x : Nat) : Int) ((y * 2 ^ n : Nat) : Int) = IntKind.u32.wrap (((BitVec.ofInt 32 ((x : Nat) : Int) ||| BitVec.ofInt 32 ((y * 2 ^ n : Nat) : Int)).toNat : Nat) : Int) := rfl
  have t : ∀ m : Nat, m < 4294967296 → (BitVec.ofInt 32 ((m : Nat) : Int)).toNat = m := by
    intro m hm
    rw [BitVec.toNat_ofInt]
    show (((m : Nat) : Int) % 4294967296).toNat = m
    omega
  rw [e, BitVec.toNat_or, t x (by omega), t (y * 2 ^ n) (by omega), Nat.or_comm, Nat.mul_comm y, ← Nat.two_pow_add_eq_or_of_lt hx, wrap32]
  have : ((2 ^ n * y + x : Nat) : Int) % 4294967296 = ((2 ^ n * y + x : Nat) : Int) := Int.emod_eq_of_lt (by omega) (by rw [Nat.mul_comm]; omega)
  rw [this, Int.natCast_add, Int.natCast_mul, Int.add_comm, Int.mul_comm]

end Go.Proofs.Ytlmdhjojinkdbaa.X.V

/- Printed by a tool of this session. -/
namespace Go.Proofs.Ytlmdhjojinkdbaa.X.V
open Go Go.Proofs
set_option linter.unusedVariables false
set_option linter.unusedSimpArgs false
set_option maxRecDepth 100000
def gv28 : Gam := gcall 116 [false] [.w] (fun wk vs args => match wk, vs, args with | [⟨false, [.ints .u8 (32 : Nat) b]⟩], [], [.o (.a (.sl 0 0 (32 : Nat) cp))] => some (True, [.a (.sl 1 0 (8 : Nat) (8 : Nat))], [some ⟨false, [.ints .u8 (32 : Nat) b]⟩, some ⟨true, [.ints .u32 (8 : Nat) (digA b)]⟩]) | _, _, _ => none) gv27
theorem gv28_ok : GamOk Try.prog gv28 := gcall_ok tabOkNZ Try.func116 gv27_ok Try.call116 (by
  intro wk vs args p xs K1 h hv
  split at h
  · simp only [Option.some.injEq, Prod.mk.injEq] at h; obtain ⟨rfl, rfl, rfl⟩ := h; exact fun caps w rw β => digA_body _ _ w rw β
  · simp at h)

end Go.Proofs.Ytlmdhjojinkdbaa.X.V

/- The value of 32 bytes, by the reference. -/
namespace Go.Proofs.Ytlmdhjojinkdbaa.X.V
open Go Go.Proofs
set_option linter.unusedVariables false

theorem V8_modL (v : Int) : V8 (W8 (modL v)) = modL v := V8_W8 (modL_rng v).1 (modL_rng v).2.2
end Go.Proofs.Ytlmdhjojinkdbaa.X.V

/- Printed by a tool of this session. -/
namespace Go.Proofs.Ytlmdhjojinkdbaa.X.V
open Go Go.Proofs
set_option linter.unusedVariables false
set_option linter.unusedSimpArgs false
set_option maxRecDepth 100000
end Go.Proofs.Ytlmdhjojinkdbaa.X.V

/- What the functions compute, as numbers, on both sides. -/
namespace Go.Proofs.Ytlmdhjojinkdbaa.X.V
open Go Go.Proofs
set_option linter.unusedVariables false

theorem modL_add (x y : Int) : modL (modL x + modL y) = modL (x + y) := (Int.add_emod x y LL).symm
theorem modL_mul (x y : Int) : modL (modL x * modL y) = modL (x * y) := (Int.mul_emod x y LL).symm
theorem modL_addl (x y : Int) : modL (modL x + y) = modL (x + y) := by
  unfold modL; rw [Int.add_emod, Int.emod_emod_of_dvd _ (Int.dvd_refl LL), ← Int.add_emod]
theorem low_add {x y : Int} (hx : 0 ≤ x ∧ x < LL) (hy : 0 ≤ y ∧ y < LL) : low (addR x y) = modL (x + y) := by
  have e : addR x y = x + y := by unfold addR; unfold LL at *; omega
  rw [e]; exact low_mod (by omega) (by omega)
theorem modL_b (v : Int) : 0 ≤ modL v ∧ modL v < LL := ⟨(modL_rng v).1, (modL_rng v).2.1⟩

end Go.Proofs.Ytlmdhjojinkdbaa.X.V

/- Neg, Add of the reference and Compare of the program: bodies by numbers. -/
namespace Go.Proofs.Ytlmdhjojinkdbaa.X.V
open Go Go.Proofs
set_option linter.unusedVariables false

end Go.Proofs.Ytlmdhjojinkdbaa.X.V

/- Printed by a tool of this session. -/
namespace Go.Proofs.Ytlmdhjojinkdbaa.X.V
open Go Go.Proofs
set_option linter.unusedVariables false
set_option linter.unusedSimpArgs false
set_option maxRecDepth 100000
end Go.Proofs.Ytlmdhjojinkdbaa.X.V

/- Bytes back to numbers; Sub and Compare of the reference. -/
namespace Go.Proofs.Ytlmdhjojinkdbaa.X.V
open Go Go.Proofs
set_option linter.unusedVariables false

end Go.Proofs.Ytlmdhjojinkdbaa.X.V

/- The reference's product, digit by digit. -/
namespace Go.Proofs.Ytlmdhjojinkdbaa.X.V
open Go Go.Proofs
set_option linter.unusedVariables false

end Go.Proofs.Ytlmdhjojinkdbaa.X.V

/- Printed by a tool of this session. -/
namespace Go.Proofs.Ytlmdhjojinkdbaa.X.V
open Go Go.Proofs
set_option linter.unusedVariables false
set_option linter.unusedSimpArgs false
set_option maxRecDepth 100000
end Go.Proofs.Ytlmdhjojinkdbaa.X.V

/- The reference's product of two numbers is their product. -/
namespace Go.Proofs.Ytlmdhjojinkdbaa.X.V
open Go Go.Proofs
set_option linter.unusedVariables false

def valL : List Int → Int
  | [] => 0
  | a :: r => a + 4294967296 * valL r
def pw (n : Nat) : Int := 4294967296 ^ n
theorem pw_succ (n : Nat) : pw (n + 1) = 4294967296 * pw n := by unfold pw; rw [Int.pow_succ, Int.mul_comm]
theorem val_set (x : Int) : ∀ (l : List Int) (i : Nat), i < l.length → valL (l.set i x) = valL l + (x - List.getD l i 0) * pw i
  | [], i, h => by simp at h
  | a :: r, 0, _ => by
    show x + 4294967296 * valL r = a + 4294967296 * valL r + (x - a) * 1
    omega
  | a :: r, i + 1, h => by
    have ih := val_set x r i (by simpa using h)
    show a + 4294967296 * valL (r.set i x) = a + 4294967296 * valL r + (x - List.getD r i 0) * pw (i + 1)
    rw [ih, pw_succ, Int.mul_add, Int.mul_left_comm]
    omega

end Go.Proofs.Ytlmdhjojinkdbaa.X.V

/- The reference's product, as numbers. -/
namespace Go.Proofs.Ytlmdhjojinkdbaa.X.V
open Go Go.Proofs
set_option linter.unusedVariables false

end Go.Proofs.Ytlmdhjojinkdbaa.X.V

/- Printed by a tool of this session. -/
namespace Go.Proofs.Ytlmdhjojinkdbaa.X.V
open Go Go.Proofs
set_option linter.unusedVariables false
set_option linter.unusedSimpArgs false
set_option maxRecDepth 100000
end Go.Proofs.Ytlmdhjojinkdbaa.X.V

/- The program and the reference answer the same: sums, differences, opposites, products. -/
namespace Go.Proofs.Ytlmdhjojinkdbaa.X.V
open Go Go.Proofs
set_option linter.unusedVariables false

end Go.Proofs.Ytlmdhjojinkdbaa.X.V

/- Powers, as the program reckons them. -/
namespace Go.Proofs.Ytlmdhjojinkdbaa.X.V
open Go Go.Proofs
set_option linter.unusedVariables false

end Go.Proofs.Ytlmdhjojinkdbaa.X.V

/- Printed by a tool of this session. -/
namespace Go.Proofs.Ytlmdhjojinkdbaa.X.V
open Go Go.Proofs
set_option linter.unusedVariables false
set_option linter.unusedSimpArgs false
set_option maxRecDepth 100000
end Go.Proofs.Ytlmdhjojinkdbaa.X.V

/- A power's words. -/
namespace Go.Proofs.Ytlmdhjojinkdbaa.X.V
open Go Go.Proofs
end Go.Proofs.Ytlmdhjojinkdbaa.X.V

/- Printed by a tool of this session. -/
namespace Go.Proofs.Ytlmdhjojinkdbaa.X.V
open Go Go.Proofs
set_option linter.unusedVariables false
set_option linter.unusedSimpArgs false
set_option maxRecDepth 100000
end Go.Proofs.Ytlmdhjojinkdbaa.X.V

/- Invert, in one form. -/
namespace Go.Proofs.Ytlmdhjojinkdbaa.X.V
open Go Go.Proofs
set_option linter.unusedVariables false

end Go.Proofs.Ytlmdhjojinkdbaa.X.V

/- Small bytes. -/
namespace Go.Proofs.Ytlmdhjojinkdbaa.X.V
open Go Go.Proofs
theorem byt_small {s : List Int} (h : (s.all fun x => decide (0 ≤ x ∧ x < 256)) = true) : Byt s := by
  intro x hx
  simpa using List.all_eq_true.1 h x hx
end Go.Proofs.Ytlmdhjojinkdbaa.X.V

/- Printed by a tool of this session. -/
namespace Go.Proofs.Ytlmdhjojinkdbaa.X.V
open Go Go.Proofs
set_option linter.unusedVariables false
set_option linter.unusedSimpArgs false
set_option maxRecDepth 100000
end Go.Proofs.Ytlmdhjojinkdbaa.X.V

/- Primes: Fermat's little theorem, and Pocklington's test. -/
namespace Go.Proofs.Ytlmdhjojinkdbaa.X.V
set_option linter.unusedVariables false

end Go.Proofs.Ytlmdhjojinkdbaa.X.V

/- The order of the group is a prime number. -/
namespace Go.Proofs.Ytlmdhjojinkdbaa.X.V
set_option linter.unusedVariables false
set_option maxRecDepth 100000

end Go.Proofs.Ytlmdhjojinkdbaa.X.V

/- Powers, as numbers. -/
namespace Go.Proofs.Ytlmdhjojinkdbaa.X.V
open Go Go.Proofs
set_option linter.unusedVariables false
set_option maxRecDepth 100000

end Go.Proofs.Ytlmdhjojinkdbaa.X.V

/- The scalars' functions, by numbers. -/
namespace Go.Proofs.Ytlmdhjojinkdbaa.X.V
open Go Go.Proofs
set_option linter.unusedVariables false
set_option maxRecDepth 100000

/-! the reference -/
end Go.Proofs.Ytlmdhjojinkdbaa.X.V

/- Texts of this session, put together (part 3). -/
/- Printed by a tool of this session. -/
namespace Go.Proofs.Ytlmdhjojinkdbaa.X.V
open Go Go.Proofs
set_option linter.unusedVariables false
set_option linter.unusedSimpArgs false
set_option maxRecDepth 100000
end Go.Proofs.Ytlmdhjojinkdbaa.X.V

/- Sums and products modulo the order: what the laws of a field come down to. -/
namespace Go.Proofs.Ytlmdhjojinkdbaa.X.V
open Go Go.Proofs
set_option linter.unusedVariables false
set_option maxRecDepth 100000

theorem modL_modL (x : Int) : modL (modL x) = modL x := Int.emod_emod_of_dvd _ (Int.dvd_refl LL)
theorem modL_mull (x y : Int) : modL (modL x * y) = modL (x * y) := by rw [← modL_mul, modL_modL, modL_mul]
theorem len32 {s : List Int} (h : s.length = 32) : ∃ a0 a1 a2 a3 a4 a5 a6 a7 b0 b1 b2 b3 b4 b5 b6 b7 c0 c1 c2 c3 c4 c5 c6 c7 d0 d1 d2 d3 d4 d5 d6 d7, s = [a0, a1, a2, a3, a4, a5, a6, a7, b0, b1, b2, b3, b4, b5, b6, b7, c0, c1, c2, c3, c4, c5, c6, c7, d0, d1, d2, d3, d4, d5, d6, d7] := by
  match s, h with
  | [a0, a1, a2, a3, a4, a5, a6, a7, b0, b1, b2, b3, b4, b5, b6, b7, c0, c1, c2, c3, c4, c5, c6, c7, d0, d1, d2, d3, d4, d5, d6, d7], _ => exact ⟨_, _, _, _, _, _, _, _, _, _, _, _, _, _, _, _, _, _, _, _, _, _, _, _, _, _, _, _, _, _, _, _, rfl⟩
end Go.Proofs.Ytlmdhjojinkdbaa.X.V

/- Bytes as a number of any length; its bits; powers by its bits. -/
namespace Go.Proofs.Ytlmdhjojinkdbaa.X.V
open Go Go.Proofs
set_option linter.unusedVariables false
set_option maxRecDepth 100000

/-- the number of bytes, the lowest first -/
def nb : List Int → Nat
  | [] => 0
  | x :: l => x.toNat + 256 * nb l
theorem nb_drop0 {l : List Int} {i : Nat} (hi : l.length ≤ i) : nb (l.drop i) = 0 := by
  rw [List.drop_eq_nil_of_le hi]; rfl
/-! the reference -/
/-! the number of 32 bytes -/
theorem nb8 {a0 a1 a2 a3 a4 a5 a6 a7 : Int} (l : List Int) (h0 : 0 ≤ a0) (h1 : 0 ≤ a1) (h2 : 0 ≤ a2) (h3 : 0 ≤ a3) (h4 : 0 ≤ a4) (h5 : 0 ≤ a5) (h6 : 0 ≤ a6) (h7 : 0 ≤ a7) :
    ((nb (a0 :: a1 :: a2 :: a3 :: a4 :: a5 :: a6 :: a7 :: l) : Nat) : Int) = a0 + 256 * a1 + 65536 * a2 + 16777216 * a3 + 4294967296 * a4 + 1099511627776 * a5 + 281474976710656 * a6 + 72057594037927936 * a7 + 18446744073709551616 * ((nb l : Nat) : Int) := by
  simp only [nb]
  omega
theorem BV_nb {s : List Int} (h : Byt s) (l : s.length = 32) : BV s = ((nb s : Nat) : Int) := by
  obtain ⟨a0, a1, a2, a3, a4, a5, a6, a7, b0, b1, b2, b3, b4, b5, b6, b7, c0, c1, c2, c3, c4, c5, c6, c7, d0, d1, d2, d3, d4, d5, d6, d7, rfl⟩ := len32 l
  have g : ∀ x ∈ [a0, a1, a2, a3, a4, a5, a6, a7, b0, b1, b2, b3, b4, b5, b6, b7, c0, c1, c2, c3, c4, c5, c6, c7, d0, d1, d2, d3, d4, d5, d6, d7], 0 ≤ x ∧ x < 256 := h
  simp only [List.forall_mem_cons] at g
  obtain ⟨ha0, ha1, ha2, ha3, ha4, ha5, ha6, ha7, hb0, hb1, hb2, hb3, hb4, hb5, hb6, hb7, hc0, hc1, hc2, hc3, hc4, hc5, hc6, hc7, hd0, hd1, hd2, hd3, hd4, hd5, hd6, hd7, _⟩ := g
  rw [nb8 _ ha0.1 ha1.1 ha2.1 ha3.1 ha4.1 ha5.1 ha6.1 ha7.1, nb8 _ hb0.1 hb1.1 hb2.1 hb3.1 hb4.1 hb5.1 hb6.1 hb7.1, nb8 _ hc0.1 hc1.1 hc2.1 hc3.1 hc4.1 hc5.1 hc6.1 hc7.1, nb8 _ hd0.1 hd1.1 hd2.1 hd3.1 hd4.1 hd5.1 hd6.1 hd7.1]
  simp only [BV, le8, List.getD_cons_zero, List.getD_cons_succ, Nat.zero_add]
  show _ = _ + 18446744073709551616 * (_ + 18446744073709551616 * (_ + 18446744073709551616 * (_ + 18446744073709551616 * ((0 : Nat) : Int))))
  omega
end Go.Proofs.Ytlmdhjojinkdbaa.X.V

/- What Given lays down of bytes. -/
namespace Go.Proofs.Ytlmdhjojinkdbaa.X.V
open Go Go.Proofs
set_option linter.unusedVariables false

theorem sub_all (l : List Int) (n : Nat) (h : l.length ≤ n) : sub l 0 n = l := by
  unfold sub; rw [List.drop_zero, List.take_of_length_le h]
end Go.Proofs.Ytlmdhjojinkdbaa.X.V

/- Reduce, piece by piece. -/
namespace Go.Proofs.Ytlmdhjojinkdbaa.X.V
open Go Go.Proofs
set_option linter.unusedVariables false
set_option maxRecDepth 100000

theorem dg_n {n : Nat} (h : n ≤ 140737488355328) : Int.toNat (IntKind.i64.wrap (Int.tdiv (IntKind.i64.wrap (((n : Nat) : Int) + (3 : Int))) (4 : Int))) = (n + 3) / 4 := by
  rw [wrapI (x := ((n : Nat) : Int) + 3) (by omega) (by omega), Int.tdiv_eq_ediv_of_nonneg (by omega), wrapI (by omega) (by omega)]
  omega
theorem dg_n2 {n : Nat} (h : n ≤ 140737488355328) : IntKind.i64.wrap (Int.tdiv (IntKind.i64.wrap (((n : Nat) : Int) + (3 : Int))) (4 : Int)) = (((n + 3) / 4 : Nat) : Int) := by
  rw [wrapI (x := ((n : Nat) : Int) + 3) (by omega) (by omega), Int.tdiv_eq_ediv_of_nonneg (by omega), wrapI (by omega) (by omega)]
  omega
theorem dg_i2 {k : Nat} (h : k ≤ 140737488355328) : IntKind.i64.wrap (Int.tdiv ((k : Nat) : Int) (4 : Int)) = ((k / 4 : Nat) : Int) := by
  rw [Int.tdiv_eq_ediv_of_nonneg (by omega), wrapI (by omega) (by omega)]
  omega
theorem dg_i {k : Nat} (h : k ≤ 140737488355328) : Int.toNat (IntKind.i64.wrap (Int.tdiv ((k : Nat) : Int) (4 : Int))) = k / 4 := by
  rw [Int.tdiv_eq_ediv_of_nonneg (by omega), wrapI (by omega) (by omega)]
  omega

theorem tim_num (S T : List Int) (h0 : Wds S) (h1 : Wds T) (h2 : LtL T) (w : World) : Body Try.prog (tabOf tabNT) Try.f111 ⟨w, [], 0, noEnv⟩ (toA [.g [.ints .u64 (4 : Nat) S], .g [.ints .u64 (4 : Nat) T]]) [] (fun ys _ => ys = [.g [.ints .u64 (4 : Nat) (W4 (modL (V4 S * V4 T)))]]) := by
  have e : times S T = W4 (modL (V4 S * V4 T)) := by
    unfold times
    rw [V4_mont, V4_radx, times_eq]
  exact e ▸ times_body S T h0 h1 h2 w

def rdS (b : List Int) (n k : Nat) : Int := modL ((nb (b.drop (min n (24 * ((n + 23) / 24 - k)))) : Nat) : Int)
theorem W4_00 : W4 0 = [0, 0, 0, 0] := by decide +kernel
theorem rdS_0 {b : List Int} {n : Nat} (l : b.length = n) : rdS b n 0 = 0 := by
  unfold rdS
  rw [nb_drop0 (by omega)]; rfl
theorem rd_at {n k : Nat} (h0 : n ≤ 140737488355328) (hk : k < (n + 23) / 24) : IntKind.i64.wrap (IntKind.i64.wrap (Int.tdiv (IntKind.i64.wrap (((min n (24 * ((n + 23) / 24 - k)) : Nat) : Int) - (1 : Int))) (24 : Int)) * (24 : Int)) = ((24 * ((n + 23) / 24 - (k + 1)) : Nat) : Int) := by
  rw [wrapI (x := ((min n (24 * ((n + 23) / 24 - k)) : Nat) : Int) - 1) (by omega) (by omega), Int.tdiv_eq_ediv_of_nonneg (by omega), wrapI (x := (((min n (24 * ((n + 23) / 24 - k)) : Nat) : Int) - 1) / 24) (by omega) (by omega), wrapI (by omega) (by omega)]
  omega
theorem byt_sub {b : List Int} (h : Byt b) (c m : Nat) : Byt (sub b c m) := fun x hx => h x (List.mem_of_mem_drop (List.mem_of_mem_take hx))
theorem rd_byt {b : List Int} (h : Byt b) (o m : Nat) : Byt (splice [0, 0, 0, 0, 0, 0, 0, 0, 0, 0, 0, 0, 0, 0, 0, 0, 0, 0, 0, 0, 0, 0, 0, 0, 0, 0, 0, 0, 0, 0, 0, 0] 0 m (sub b o m)) := by
  have hz : Byt [0, 0, 0, 0, 0, 0, 0, 0, 0, 0, 0, 0, 0, 0, 0, 0, 0, 0, 0, 0, 0, 0, 0, 0, 0, 0, 0, 0, 0, 0, 0, 0] := byt_small (by decide +kernel)
  intro x hx
  unfold splice at hx
  rw [List.mem_append, List.mem_append] at hx
  rcases hx with (hx | hx) | hx
  · exact hz x (List.mem_of_mem_take hx)
  · exact byt_sub h o m x hx
  · exact hz x (List.mem_of_mem_drop hx)
theorem nb_app (a b : List Int) : nb (a ++ b) = nb a + 256 ^ a.length * nb b := by
  induction a with
  | nil => show nb b = 0 + 1 * nb b; omega
  | cons x a ih =>
    show x.toNat + 256 * nb (a ++ b) = x.toNat + 256 * nb a + 256 ^ (a.length + 1) * nb b
    rw [ih, Nat.pow_succ, Nat.mul_add, Nat.mul_comm (256 ^ a.length) 256, Nat.mul_assoc]; omega
theorem nb_zeros : ∀ n : Nat, nb (List.replicate n 0) = 0
  | 0 => rfl
  | n + 1 => by show (0 : Int).toNat + 256 * nb (List.replicate n 0) = 0; rw [nb_zeros n]; rfl
theorem z32 : ([0, 0, 0, 0, 0, 0, 0, 0, 0, 0, 0, 0, 0, 0, 0, 0, 0, 0, 0, 0, 0, 0, 0, 0, 0, 0, 0, 0, 0, 0, 0, 0] : List Int) = List.replicate 32 0 := by rfl
theorem piece_BV {b : List Int} (h : Byt b) {o m : Nat} (hm : m ≤ 32) (hl : o + m ≤ b.length) : BV (splice [0, 0, 0, 0, 0, 0, 0, 0, 0, 0, 0, 0, 0, 0, 0, 0, 0, 0, 0, 0, 0, 0, 0, 0, 0, 0, 0, 0, 0, 0, 0, 0] 0 m (sub b o m)) = ((nb (sub b o m) : Nat) : Int) := by
  have hb := rd_byt h o m
  rw [z32] at *
  have e : splice (List.replicate 32 (0 : Int)) 0 m (sub b o m) = sub b o m ++ List.replicate (32 - m) 0 := by
    unfold splice
    rw [List.take_zero, List.nil_append, Nat.zero_add, List.drop_replicate]
  rw [e] at hb ⊢
  rw [BV_nb hb (by rw [List.length_append, sub_len _ _ _ hl, List.length_replicate]; omega), nb_app, nb_zeros, Nat.mul_zero, Nat.add_zero]
theorem nb_split {b : List Int} {o m : Nat} (h : o + m ≤ b.length) : nb (b.drop o) = nb (sub b o m) + 256 ^ m * nb (b.drop (o + m)) := by
  have e : b.drop o = sub b o m ++ b.drop (o + m) := by
    unfold sub
    rw [← List.drop_drop, List.take_append_drop]
  conv => lhs; rw [e]
  rw [nb_app, sub_len _ _ _ h]
theorem V4_192 : BV (B32 (V4 [0, 0, 0, 1])) = 6277101735386680763835789423207666416102355444464034512896 := by decide +kernel
theorem rd_ltl : LtL (W4 (BV (B32 (V4 [0, 0, 0, 1])))) := by unfold LtL; rw [V4_192]; decide +kernel
theorem modL_addl_mul (x y z : Int) : modL (modL x * y + z) = modL (x * y + z) := by
  rw [← modL_addl, modL_mull, modL_addl]
theorem rd_step {b : List Int} (hb : Byt b) {n k : Nat} (l : b.length = n) (h0 : n ≤ 140737488355328) (hk : k < (n + 23) / 24) :
    low (addR (V4 (W4 (modL (V4 (W4 (rdS b n k)) * V4 (W4 (BV (B32 (V4 [0, 0, 0, 1])))))))) (V4 (W4 (modL (BV (splice [0, 0, 0, 0, 0, 0, 0, 0, 0, 0, 0, 0, 0, 0, 0, 0, 0, 0, 0, 0, 0, 0, 0, 0, 0, 0, 0, 0, 0, 0, 0, 0] 0 (min (min n (24 * ((n + 23) / 24 - k)) - 24 * ((n + 23) / 24 - (k + 1))) 32) (sub b (24 * ((n + 23) / 24 - (k + 1))) (min (min n (24 * ((n + 23) / 24 - k)) - 24 * ((n + 23) / 24 - (k + 1))) 32)))))))) = rdS b n (k + 1) := by
  generalize hm : min (min n (24 * ((n + 23) / 24 - k)) - 24 * ((n + 23) / 24 - (k + 1))) 32 = m
  generalize ho : 24 * ((n + 23) / 24 - (k + 1)) = o at *
  have hlm : o + m ≤ b.length := by omega
  have e1 : V4 (W4 (rdS b n k)) = rdS b n k := V4_modL _
  have e2 : V4 (W4 (BV (B32 (V4 [0, 0, 0, 1])))) = 6277101735386680763835789423207666416102355444464034512896 := by rw [V4_192]; decide +kernel
  rw [piece_BV hb (by omega) hlm, V4_modL, V4_modL, low_add (modL_b _) (modL_b _), modL_add, e1, e2]
  unfold rdS
  rw [ho, show min n o = o by omega, nb_split hlm]
  by_cases hk0 : k = 0
  · subst hk0
    rw [nb_drop0 (l := b) (i := min n (24 * ((n + 23) / 24 - 0))) (by omega), nb_drop0 (l := b) (i := o + m) (by omega)]
    show modL (0 * _ + _) = _
    rw [Int.zero_mul, Int.zero_add, Nat.mul_zero, Nat.add_zero]
  · rw [show min n (24 * ((n + 23) / 24 - k)) = o + m by omega, show m = 24 by omega]
    rw [modL_addl_mul, Int.natCast_add, Int.natCast_mul, Int.add_comm]
    congr 2
    rw [Int.mul_comm]
    rfl
theorem rd_fin {b : List Int} {n : Nat} : V4 (W4 (rdS b n ((n + 23) / 24))) = modL ((nb b : Nat) : Int) := by
  unfold rdS
  rw [V4_modL, Nat.sub_self, Nat.mul_zero, Nat.min_zero, List.drop_zero]
end Go.Proofs.Ytlmdhjojinkdbaa.X.V

/- Printed by a tool of this session. -/
namespace Go.Proofs.Ytlmdhjojinkdbaa.X.V
open Go Go.Proofs
set_option linter.unusedVariables false
set_option linter.unusedSimpArgs false
set_option maxRecDepth 100000
theorem teQN_3 : TEOk Try.prog 3 ⟨.int .i64, 1, 8, [.i .i64 (0 : Int)], false⟩ :=
  TEOk.of Try.underlying3 (i := Try.t3) (by kernel_rfl) rfl rfl rfl (by kernel_rfl) (fun h => by cases h) (by kernel_rfl)
theorem teQN_5 : TEOk Try.prog 5 ⟨.int .u8, 1, 1, [.i .u8 (0 : Int)], false⟩ :=
  TEOk.of Try.underlying5 (i := Try.t5) (by kernel_rfl) rfl rfl rfl (by kernel_rfl) (fun h => by cases h) (by kernel_rfl)
theorem teQN_22 : TEOk Try.prog 22 ⟨.slice 5, 1, 24, [.raw (.slice none 0 0)], false⟩ :=
  TEOk.of Try.underlying22 (i := Try.t22) (by kernel_rfl) rfl rfl rfl (by kernel_rfl) (fun h => by cases h) (by kernel_rfl)
theorem teQN_24 : TEOk Try.prog 98 ⟨.array 32 5, 32, 32, [.ints .u8 (32 : Nat) ([0, 0, 0, 0, 0, 0, 0, 0, 0, 0, 0, 0, 0, 0, 0, 0, 0, 0, 0, 0, 0, 0, 0, 0, 0, 0, 0, 0, 0, 0, 0, 0] : List Int)], true⟩ :=
  TEOk.of Try.underlying98 (i := Try.t98) (by kernel_rfl) rfl rfl rfl (by kernel_rfl) (fun _ => Try.eqGuardType98) (by kernel_rfl)
theorem teQN_25 : TEOk Try.prog 147 ⟨.int .u64, 1, 8, [.i .u64 (0 : Int)], false⟩ :=
  TEOk.of Try.underlying147 (i := Try.t147) (by kernel_rfl) rfl rfl rfl (by kernel_rfl) (fun h => by cases h) (by kernel_rfl)
theorem teQN_62 : TEOk Try.prog 229 ⟨.int .u64, 1, 8, [.i .u64 (0 : Int)], false⟩ :=
  TEOk.of Try.underlying229 (i := Try.t229) (by kernel_rfl) rfl rfl rfl (by kernel_rfl) (fun h => by cases h) (by kernel_rfl)
theorem teQN_104 : TEOk Try.prog 213 ⟨.array 4 147, 4, 32, [.ints .u64 (4 : Nat) ([0, 0, 0, 0] : List Int)], true⟩ :=
  TEOk.of Try.underlying213 (i := Try.t213) (by kernel_rfl) rfl rfl rfl (by kernel_rfl) (fun _ => Try.eqGuardType213) (by kernel_rfl)
theorem teQN_109 : TEOk Try.prog 152 ⟨.int .u32, 1, 4, [.i .u32 (0 : Int)], false⟩ :=
  TEOk.of Try.underlying152 (i := Try.t152) (by kernel_rfl) rfl rfl rfl (by kernel_rfl) (fun h => by cases h) (by kernel_rfl)
theorem teQN_113 : TEOk Try.prog 108 ⟨.slice 152, 1, 24, [.raw (.slice none 0 0)], false⟩ :=
  TEOk.of Try.underlying108 (i := Try.t108) (by kernel_rfl) rfl rfl rfl (by kernel_rfl) (fun h => by cases h) (by kernel_rfl)
noncomputable def tabQN : List (Nat × TE) := [(3, ⟨.int .i64, 1, 8, [.i .i64 (0 : Int)], false⟩), (5, ⟨.int .u8, 1, 1, [.i .u8 (0 : Int)], false⟩), (22, ⟨.slice 5, 1, 24, [.raw (.slice none 0 0)], false⟩), (98, ⟨.array 32 5, 32, 32, [.ints .u8 (32 : Nat) ([0, 0, 0, 0, 0, 0, 0, 0, 0, 0, 0, 0, 0, 0, 0, 0, 0, 0, 0, 0, 0, 0, 0, 0, 0, 0, 0, 0, 0, 0, 0, 0] : List Int)], true⟩), (147, ⟨.int .u64, 1, 8, [.i .u64 (0 : Int)], false⟩), (229, ⟨.int .u64, 1, 8, [.i .u64 (0 : Int)], false⟩), (213, ⟨.array 4 147, 4, 32, [.ints .u64 (4 : Nat) ([0, 0, 0, 0] : List Int)], true⟩), (152, ⟨.int .u32, 1, 4, [.i .u32 (0 : Int)], false⟩), (108, ⟨.slice 152, 1, 24, [.raw (.slice none 0 0)], false⟩)]
theorem tabOkQN : TabOk Try.prog (tabOf tabQN) := (tabOf_cons teQN_3 (tabOf_cons teQN_5 (tabOf_cons teQN_22 (tabOf_cons teQN_24 (tabOf_cons teQN_25 (tabOf_cons teQN_62 (tabOf_cons teQN_104 (tabOf_cons teQN_109 (tabOf_cons teQN_113 tabOf_nil)))))))))

theorem tim_num_pure (S T : List Int) (h0 : (Wds S)) (h1 : (Wds T)) (h2 : (LtL T)) : PureC Try.prog 111 [.g [.ints .u64 (4 : Nat) S], .g [.ints .u64 (4 : Nat) T]] [.g [.ints .u64 (4 : Nat) (W4 (modL ((V4 S) * (V4 T))))]] :=
  PureC.of_body tabOkNT Try.func111 rfl rfl fun w => tim_num S T h0 h1 h2 w

def gv66 : Gam := gpure 111 (fun args => match args with | [.o (.g [.ints .u64 (4 : Nat) S]), .o (.g [.ints .u64 (4 : Nat) T])] => some (some ((Wds S) ∧ (Wds T) ∧ (LtL T)), [.g [.ints .u64 (4 : Nat) (W4 (modL ((V4 S) * (V4 T))))]]) | _ => none) gv28
theorem gv66_ok : GamOk Try.prog gv66 := gpure_ok gv28_ok Try.call111 (by
  intro args vc xs h hv
  split at h
  · simp only [Option.some.injEq, Prod.mk.injEq] at h; obtain ⟨rfl, rfl⟩ := h; exact ⟨_, by rfl, tim_num_pure _ _ hv.1 hv.2.1 hv.2.2⟩
  · simp at h)

def rdL_mk (n nm : Nat) (b : List Int) (cap0 k : Nat) (s : Unit) : St := ⟨sparse 34 [(0, .o (.a (.sl 0 0 n cap0))), (2, .o (.a (.p 1 0))), (3, .o (.a (.p 2 0))), (4, .o (.a (.p 3 0))), (5, .o (.a (.i .i64 (((min n ((24 : Nat) * (((n + (23 : Nat)) / (24 : Nat)) - k))) : Nat) : Int)))), (8, .o (.g [.ints .u64 (4 : Nat) ([0, 0, 0, 1] : List Int)])), (9, .o (.g [.ints .u8 (32 : Nat) (B32 (V4 ([0, 0, 0, 1] : List Int)))])), (10, .o (.a (.sl 0 0 n cap0))), (11, .o (.a (.i .i64 ((n : Nat) : Int))))], [some ⟨false, [.ints .u8 nm b]⟩, some ⟨true, [.ints .u8 (32 : Nat) ([0, 0, 0, 0, 0, 0, 0, 0, 0, 0, 0, 0, 0, 0, 0, 0, 0, 0, 0, 0, 0, 0, 0, 0, 0, 0, 0, 0, 0, 0, 0, 0] : List Int)]⟩, some ⟨true, [.ints .u64 (4 : Nat) (W4 (rdS b n k))]⟩, some ⟨true, [.ints .u8 (32 : Nat) (B32 (V4 ([0, 0, 0, 1] : List Int)))]⟩]⟩

def rdL_step (k : Nat) (s : Unit) : Unit :=
  ()

set_option maxHeartbeats 1000000 in
theorem rdL_round (n nm : Nat) (b : List Int) (cap0 : Nat) (h0 : (nm = n)) (h1 : (n ≤ (140737488355328 : Nat))) (h2 : (Byt b)) (hc0 : n ≤ cap0) (hl0_0 : List.length b = nm) (w : World) (β : Env) (k : Nat) (hk : k < ((n + (23 : Nat)) / (24 : Nat))) (s : Unit) : Run Try.prog ⟨w, [], 1, β⟩ (loopB Try.f81 0) (rdL_mk n nm b cap0 k s) (To ⟨w, [], 1, β⟩ .normal (rdL_mk n nm b cap0 (k + 1) (rdL_step k s))) := by
  have e0 : (W4 (low (addR (V4 (W4 (modL ((V4 (W4 (rdS b n k))) * (V4 (W4 (BV (B32 (V4 ([0, 0, 0, 1] : List Int)))))))))) (V4 (W4 (modL (BV (splice ([0, 0, 0, 0, 0, 0, 0, 0, 0, 0, 0, 0, 0, 0, 0, 0, 0, 0, 0, 0, 0, 0, 0, 0, 0, 0, 0, 0, 0, 0, 0, 0] : List Int) (0 : Nat) (min ((min n ((24 : Nat) * (((n + (23 : Nat)) / (24 : Nat)) - k))) - ((24 : Nat) * (((n + (23 : Nat)) / (24 : Nat)) - (k + (1 : Nat))))) (32 : Nat)) (sub b ((0 : Nat) + ((24 : Nat) * (((n + (23 : Nat)) / (24 : Nat)) - (k + (1 : Nat))))) (min ((min n ((24 : Nat) * (((n + (23 : Nat)) / (24 : Nat)) - k))) - ((24 : Nat) * (((n + (23 : Nat)) / (24 : Nat)) - (k + (1 : Nat))))) (32 : Nat))))))))))) = (W4 (rdS b n (k + (1 : Nat)))) := (by first | omega | (rw [Nat.zero_add, rd_step h2 (hl0_0.trans h0) h1 hk]))
  have e1 : ((((24 : Nat) * (((n + (23 : Nat)) / (24 : Nat)) - (k + (1 : Nat)))) : Nat) : Int) = (((min n ((24 : Nat) * (((n + (23 : Nat)) / (24 : Nat)) - (k + (1 : Nat))))) : Nat) : Int) := (by first | omega | (rw [Nat.zero_add, rd_step h2 (hl0_0.trans h0) h1 hk]))
  have h := Run.of_outT (B := ⟨w, [], 1, β⟩) (Λ := noLam) (Ψ := psiOf [(5, [.eqS 6 (.o (.a (.i .i64 ((((24 : Nat) * (((n + (23 : Nat)) / (24 : Nat)) - (k + (1 : Nat)))) : Nat) : Int))))])]) (fuel := 0) (ora := [true]) (c := (loopB Try.f81 0)) (st := (rdL_mk n nm b cap0 k s)) (l := [.forget [0, 2, 3, 4, 5, 8, 9, 10, 11] 4]) (s' := ⟨sparse 34 [(0, .o (.a (.sl 0 0 n cap0))), (2, .o (.a (.p 1 0))), (3, .o (.a (.p 2 0))), (4, .o (.a (.p 3 0))), (5, .o (.a (.i .i64 ((((24 : Nat) * (((n + (23 : Nat)) / (24 : Nat)) - (k + (1 : Nat)))) : Nat) : Int)))), (8, .o (.g [.ints .u64 (4 : Nat) ([0, 0, 0, 1] : List Int)])), (9, .o (.g [.ints .u8 (32 : Nat) (B32 (V4 ([0, 0, 0, 1] : List Int)))])), (10, .o (.a (.sl 0 0 n cap0))), (11, .o (.a (.i .i64 ((n : Nat) : Int))))], [some ⟨false, [.ints .u8 nm b]⟩, some ⟨true, [.ints .u8 (32 : Nat) ([0, 0, 0, 0, 0, 0, 0, 0, 0, 0, 0, 0, 0, 0, 0, 0, 0, 0, 0, 0, 0, 0, 0, 0, 0, 0, 0, 0, 0, 0, 0, 0] : List Int)]⟩, some ⟨true, [.ints .u64 (4 : Nat) (W4 (low (addR (V4 (W4 (modL ((V4 (W4 (rdS b n k))) * (V4 (W4 (BV (B32 (V4 ([0, 0, 0, 1] : List Int)))))))))) (V4 (W4 (modL (BV (splice ([0, 0, 0, 0, 0, 0, 0, 0, 0, 0, 0, 0, 0, 0, 0, 0, 0, 0, 0, 0, 0, 0, 0, 0, 0, 0, 0, 0, 0, 0, 0, 0] : List Int) (0 : Nat) (min ((min n ((24 : Nat) * (((n + (23 : Nat)) / (24 : Nat)) - k))) - ((24 : Nat) * (((n + (23 : Nat)) / (24 : Nat)) - (k + (1 : Nat))))) (32 : Nat)) (sub b ((0 : Nat) + ((24 : Nat) * (((n + (23 : Nat)) / (24 : Nat)) - (k + (1 : Nat))))) (min ((min n ((24 : Nat) * (((n + (23 : Nat)) / (24 : Nat)) - k))) - ((24 : Nat) * (((n + (23 : Nat)) / (24 : Nat)) - (k + (1 : Nat))))) (32 : Nat)))))))))))]⟩, some ⟨true, [.ints .u8 (32 : Nat) (B32 (V4 ([0, 0, 0, 1] : List Int)))]⟩]⟩) (ex := .normal) mix tabOkQN gv66_ok
    (vc := [((Wds (W4 (modL ((V4 (W4 (rdS b n k))) * (V4 (W4 (BV (B32 (V4 ([0, 0, 0, 1] : List Int)))))))))) ∧ (Wds (W4 (modL (BV (splice ([0, 0, 0, 0, 0, 0, 0, 0, 0, 0, 0, 0, 0, 0, 0, 0, 0, 0, 0, 0, 0, 0, 0, 0, 0, 0, 0, 0, 0, 0, 0, 0] : List Int) (0 : Nat) (min ((min n ((24 : Nat) * (((n + (23 : Nat)) / (24 : Nat)) - k))) - ((24 : Nat) * (((n + (23 : Nat)) / (24 : Nat)) - (k + (1 : Nat))))) (32 : Nat)) (sub b ((0 : Nat) + ((24 : Nat) * (((n + (23 : Nat)) / (24 : Nat)) - (k + (1 : Nat))))) (min ((min n ((24 : Nat) * (((n + (23 : Nat)) / (24 : Nat)) - k))) - ((24 : Nat) * (((n + (23 : Nat)) / (24 : Nat)) - (k + (1 : Nat))))) (32 : Nat))))))))), (Byt (splice ([0, 0, 0, 0, 0, 0, 0, 0, 0, 0, 0, 0, 0, 0, 0, 0, 0, 0, 0, 0, 0, 0, 0, 0, 0, 0, 0, 0, 0, 0, 0, 0] : List Int) (0 : Nat) (min ((min n ((24 : Nat) * (((n + (23 : Nat)) / (24 : Nat)) - k))) - ((24 : Nat) * (((n + (23 : Nat)) / (24 : Nat)) - (k + (1 : Nat))))) (32 : Nat)) (sub b ((0 : Nat) + ((24 : Nat) * (((n + (23 : Nat)) / (24 : Nat)) - (k + (1 : Nat))))) (min ((min n ((24 : Nat) * (((n + (23 : Nat)) / (24 : Nat)) - k))) - ((24 : Nat) * (((n + (23 : Nat)) / (24 : Nat)) - (k + (1 : Nat))))) (32 : Nat))))), ((Wds (W4 (rdS b n k))) ∧ (Wds (W4 (BV (B32 (V4 ([0, 0, 0, 1] : List Int)))))) ∧ (LtL (W4 (BV (B32 (V4 ([0, 0, 0, 1] : List Int))))))), (Byt (B32 (V4 ([0, 0, 0, 1] : List Int)))), ((((min ((min n ((24 : Nat) * (((n + (23 : Nat)) / (24 : Nat)) - k))) - ((24 : Nat) * (((n + (23 : Nat)) / (24 : Nat)) - (k + (1 : Nat))))) (32 : Nat)) ≤ ((min n ((24 : Nat) * (((n + (23 : Nat)) / (24 : Nat)) - k))) - ((24 : Nat) * (((n + (23 : Nat)) / (24 : Nat)) - (k + (1 : Nat)))))) ∧ ((((0 : Nat) + ((24 : Nat) * (((n + (23 : Nat)) / (24 : Nat)) - (k + (1 : Nat))))) + (min ((min n ((24 : Nat) * (((n + (23 : Nat)) / (24 : Nat)) - k))) - ((24 : Nat) * (((n + (23 : Nat)) / (24 : Nat)) - (k + (1 : Nat))))) (32 : Nat))) ≤ nm)) ∧ (okP (some (((0 : Nat) + (min ((min n ((24 : Nat) * (((n + (23 : Nat)) / (24 : Nat)) - k))) - ((24 : Nat) * (((n + (23 : Nat)) / (24 : Nat)) - (k + (1 : Nat))))) (32 : Nat))) ≤ (32 : Nat))))), (((0 : Int) ≤ ((((24 : Nat) * (((n + (23 : Nat)) / (24 : Nat)) - (k + (1 : Nat)))) : Nat) : Int)) ∧ (((((24 : Nat) * (((n + (23 : Nat)) / (24 : Nat)) - (k + (1 : Nat)))) : Nat) : Int) ≤ (((min n ((24 : Nat) * (((n + (23 : Nat)) / (24 : Nat)) - k))) : Nat) : Int)) ∧ ((((min n ((24 : Nat) * (((n + (23 : Nat)) / (24 : Nat)) - k))) : Nat) : Int) ≤ ((cap0 : Nat) : Int))), (((0 : Int) ≤ (0 : Int)) ∧ ((0 : Int) ≤ (32 : Int))), ((.o (.a (.i .i64 (IntKind.i64.wrap ((IntKind.i64.wrap (Int.tdiv (IntKind.i64.wrap ((((min n ((24 : Nat) * (((n + (23 : Nat)) / (24 : Nat)) - k))) : Nat) : Int) - (1 : Int))) (24 : Int))) * (24 : Int))))) : AV) = .o (.a (.i .i64 ((((24 : Nat) * (((n + (23 : Nat)) / (24 : Nat)) - (k + (1 : Nat)))) : Nat) : Int)))), ((24 : Int) ≠ 0), ((decide ((((min n ((24 : Nat) * (((n + (23 : Nat)) / (24 : Nat)) - k))) : Nat) : Int) > (0 : Int))) = true)]) (by kernel_rfl)
    (aC ⟨(wds_W4 _), (wds_W4 _)⟩ (aC (rd_byt h2 _ _) (aC ⟨(wds_W4 _), (wds_W4 _), (rd_ltl)⟩ (aC (byt_B32 _) (aC ⟨⟨(by omega), (by omega)⟩, (show (((0 : Nat) + (min ((min n ((24 : Nat) * (((n + (23 : Nat)) / (24 : Nat)) - k))) - ((24 : Nat) * (((n + (23 : Nat)) / (24 : Nat)) - (k + (1 : Nat))))) (32 : Nat))) ≤ (32 : Nat)) from (by omega))⟩ (aC ⟨(by omega), (by omega), (by omega)⟩ (aC ⟨(by decide), (by decide)⟩ (aC ((congrArg (fun z => AV.o (.a (.i .i64 z))) (rd_at h1 hk))) (aC (by decide) (aC (decide_eq_true (by omega)) (AllP_nil)))))))))))
  rw [e0, e1] at h
  exact h

set_option maxHeartbeats 1000000 in
theorem rdL_last (n nm : Nat) (b : List Int) (cap0 : Nat) (h0 : (nm = n)) (h1 : (n ≤ (140737488355328 : Nat))) (h2 : (Byt b)) (hc0 : n ≤ cap0) (hl0_0 : List.length b = nm) (w : World) (β : Env) (s : Unit) : Run Try.prog ⟨w, [], 1, β⟩ (loopB Try.f81 0) (rdL_mk n nm b cap0 ((n + (23 : Nat)) / (24 : Nat)) s) (To ⟨w, [], 1, β⟩ (.exit 0) (rdL_mk n nm b cap0 ((n + (23 : Nat)) / (24 : Nat)) s)) :=
  Run.of_outT (B := ⟨w, [], 1, β⟩) (Λ := noLam) (Ψ := noPsi) (fuel := 0) (ora := [false]) (l := [.forget [0, 2, 3, 4, 5, 8, 9, 10, 11] 4]) mix tabOkQN gv66_ok
    (vc := [((decide ((((min n ((24 : Nat) * (((n + (23 : Nat)) / (24 : Nat)) - ((n + (23 : Nat)) / (24 : Nat))))) : Nat) : Int) > (0 : Int))) = false)]) (by kernel_rfl)
    (aC (decide_eq_false (by omega)) (AllP_nil))

theorem rdL_loop (n nm : Nat) (b : List Int) (cap0 : Nat) (h0 : (nm = n)) (h1 : (n ≤ (140737488355328 : Nat))) (h2 : (Byt b)) (hc0 : n ≤ cap0) (hl0_0 : List.length b = nm) (w : World) (β : Env) (s : Unit) : Run Try.prog ⟨w, [], 1, β⟩ (.block 0 (.loop (loopB Try.f81 0))) (rdL_mk n nm b cap0 0 s) (To ⟨w, [], 1, β⟩ .normal (rdL_mk n nm b cap0 ((n + (23 : Nat)) / (24 : Nat)) (iter (rdL_step) ((n + (23 : Nat)) / (24 : Nat)) s))) :=
  Run.count (fun k => rdL_mk n nm b cap0 k (iter (rdL_step) k s)) ((n + (23 : Nat)) / (24 : Nat)) (fun k hk => rdL_round n nm b cap0 h0 h1 h2 hc0 hl0_0 w β k hk _) (ex := (.exit 0)) (by simp) (rdL_last n nm b cap0 h0 h1 h2 hc0 hl0_0 w β _)

def rdP (n : Nat) (b : List Int) : List Int :=
  (B32 (V4 (W4 (rdS b n ((n + (23 : Nat)) / (24 : Nat))))))

set_option maxHeartbeats 1000000 in
theorem rdP_body0 (n nm : Nat) (b : List Int) (cap0 : Nat) (h0 : (nm = n)) (h1 : (n ≤ (140737488355328 : Nat))) (h2 : (Byt b)) (hc0 : n ≤ cap0) (hl0_0 : List.length b = nm) (w : World) (β : Env) : Body Try.prog (tabOf tabQN) Try.f81 ⟨w, [], 1, β⟩ [.o (.a (.sl 0 0 n cap0))] [some ⟨false, [.ints .u8 nm b]⟩] (fun ys _ => ys = [.g [.ints .u8 (32 : Nat) (rdP n b)]]) :=
  Body.of_fin (Γ := gv66) (Λ := lamOf [(0, ⟨[.eqS 5 (.o (.a (.i .i64 (((min n ((24 : Nat) * (((n + (23 : Nat)) / (24 : Nat)) - (0 : Nat)))) : Nat) : Int)))), .eqB 2 (⟨true, [.ints .u64 (4 : Nat) (W4 (rdS b n (0 : Nat)))]⟩), .forget [0, 2, 3, 4, 5, 8, 9, 10, 11] 4], .normal, (rdL_mk n nm b cap0 ((n + (23 : Nat)) / (24 : Nat)) (iter (rdL_step) ((n + (23 : Nat)) / (24 : Nat)) ()))⟩)]) (Ψ := noPsi) (fuel := 0) (m := 34) (c := (Try.f81.body.getD .skip)) mix tabOkQN gv66_ok rfl (rs := [.cell 2 98]) rfl rfl [] []
    (vc := [(Wds (W4 (rdS b n ((n + (23 : Nat)) / (24 : Nat))))), (Run Try.prog ⟨w, [], 1, β⟩ (.block 0 (.loop (loopB Try.f81 0))) (rdL_mk n nm b cap0 0 ()) (To ⟨w, [], 1, β⟩ .normal (rdL_mk n nm b cap0 ((n + (23 : Nat)) / (24 : Nat)) (iter (rdL_step) ((n + (23 : Nat)) / (24 : Nat)) ())))), ((some ⟨true, [.ints .u64 (4 : Nat) ([0, 0, 0, 0] : List Int)]⟩ : Option Blk) = some ⟨true, [.ints .u64 (4 : Nat) (W4 (rdS b n (0 : Nat)))]⟩), ((.o (.a (.i .i64 ((n : Nat) : Int))) : AV) = .o (.a (.i .i64 (((min n ((24 : Nat) * (((n + (23 : Nat)) / (24 : Nat)) - (0 : Nat)))) : Nat) : Int)))), (Wds ([0, 0, 0, 1] : List Int))]) (by kernel_rfl)
    (aC (wds_W4 _) (aC (rdL_loop n nm b cap0 h0 h1 h2 hc0 hl0_0 w β ()) (aC ((by rw [rdS_0 (hl0_0.trans h0), W4_00])) (aC ((congrArg (fun z => AV.o (.a (.i .i64 z))) (by omega))) (aC (wds_four (by omega) (by omega) (by omega) (by omega)) (AllP_nil))))))

theorem rdP_body (n nm : Nat) (b : List Int) (cap0 : Nat) (h0 : (nm = n)) (h1 : (n ≤ (140737488355328 : Nat))) (h2 : (Byt b)) (w : World) (β : Env) : Body Try.prog (tabOf tabQN) Try.f81 ⟨w, [], 1, β⟩ [.o (.a (.sl 0 0 n cap0))] [some ⟨false, [.ints .u8 nm b]⟩] (fun ys _ => ys = [.g [.ints .u8 (32 : Nat) (rdP n b)]]) :=
  Body.lens (c := (Try.f81.body.getD .skip)) rfl fun h => rdP_body0 n nm b cap0 h0 h1 h2 (h.caps 0 _ _ _ _ rfl) (h.lens 0 _ .u8 nm b rfl (by simp)) w β

def dgL_mk (n nm : Nat) (b : List Int) (cap0 k : Nat) (s : (List Int)) : St := ⟨sparse 37 [(0, .o (.a (.sl 0 0 n cap0))), (2, .o (.a (.raw (.slice none 0 0)))), (3, .o (.a (.sl 1 0 ((n + (3 : Nat)) / (4 : Nat)) ((n + (3 : Nat)) / (4 : Nat))))), (4, .o (.a (.i .i64 ((k : Nat) : Int)))), (5, .o (.a (.sl 0 0 n cap0))), (6, .o (.a (.i .i64 ((n : Nat) : Int)))), (7, .o (.a (.i .i64 (IntKind.i64.wrap (((n : Nat) : Int) + (3 : Int)))))), (8, .o (.a (.i .i64 (IntKind.i64.wrap (Int.tdiv (IntKind.i64.wrap (((n : Nat) : Int) + (3 : Int))) (4 : Int)))))), (9, .o (.a (.sl 1 0 (Int.toNat (IntKind.i64.wrap (Int.tdiv (IntKind.i64.wrap (((n : Nat) : Int) + (3 : Int))) (4 : Int)))) (Int.toNat (IntKind.i64.wrap (Int.tdiv (IntKind.i64.wrap (((n : Nat) : Int) + (3 : Int))) (4 : Int)))))))], [some ⟨false, [.ints .u8 nm b]⟩, some ⟨true, [.ints .u32 ((n + (3 : Nat)) / (4 : Nat)) s]⟩]⟩

def dgL_step (b : List Int) (k : Nat) (s : (List Int)) : (List Int) :=
  let z0 : Nat := (Int.toNat (IntKind.i64.wrap (Int.tdiv ((k : Nat) : Int) (4 : Int))))
  ((List.set s z0 (bits2 .or .u32 (List.getD s z0 0) (shl .u32 (IntKind.u32.wrap (List.getD b k 0)) (IntKind.u64.wrap (IntKind.i64.wrap ((8 : Int) * (Int.tmod ((k : Nat) : Int) (4 : Int)))))))))

set_option maxHeartbeats 1000000 in
theorem dgL_round (n nm : Nat) (b : List Int) (cap0 : Nat) (h0 : (nm = n)) (h1 : (n ≤ (140737488355328 : Nat))) (hc0 : n ≤ cap0) (hl0_0 : List.length b = nm) (w : World) (rw : List Nat) (β : Env) (k : Nat) (hk : k < n) (s : (List Int)) : Run Try.prog ⟨w, rw, 1, β⟩ (loopB Try.f116 0) (dgL_mk n nm b cap0 k s) (To ⟨w, rw, 1, β⟩ .normal (dgL_mk n nm b cap0 (k + 1) (dgL_step b k s))) := by
  have e0 : (IntKind.i64.wrap (((k : Nat) : Int) + (1 : Int))) = (((k + (1 : Nat)) : Nat) : Int) := (by first | rfl | exact wrap_succ (by omega) | omega | (simp (disch := omega) only [wrapI]; omega))
  have h := Run.of_outT (B := ⟨w, rw, 1, β⟩) (Λ := noLam) (Ψ := noPsi) (fuel := 0) (ora := [true]) (c := (loopB Try.f116 0)) (st := (dgL_mk n nm b cap0 k s)) (l := [.forget [0, 2, 3, 4, 5, 6, 7, 8, 9] 2]) (s' := ⟨sparse 37 [(0, .o (.a (.sl 0 0 n cap0))), (2, .o (.a (.raw (.slice none 0 0)))), (3, .o (.a (.sl 1 0 ((n + (3 : Nat)) / (4 : Nat)) ((n + (3 : Nat)) / (4 : Nat))))), (4, .o (.a (.i .i64 (IntKind.i64.wrap (((k : Nat) : Int) + (1 : Int)))))), (5, .o (.a (.sl 0 0 n cap0))), (6, .o (.a (.i .i64 ((n : Nat) : Int)))), (7, .o (.a (.i .i64 (IntKind.i64.wrap (((n : Nat) : Int) + (3 : Int)))))), (8, .o (.a (.i .i64 (IntKind.i64.wrap (Int.tdiv (IntKind.i64.wrap (((n : Nat) : Int) + (3 : Int))) (4 : Int)))))), (9, .o (.a (.sl 1 0 (Int.toNat (IntKind.i64.wrap (Int.tdiv (IntKind.i64.wrap (((n : Nat) : Int) + (3 : Int))) (4 : Int)))) (Int.toNat (IntKind.i64.wrap (Int.tdiv (IntKind.i64.wrap (((n : Nat) : Int) + (3 : Int))) (4 : Int)))))))], [some ⟨false, [.ints .u8 nm b]⟩, some ⟨true, [.ints .u32 ((n + (3 : Nat)) / (4 : Nat)) (dgL_step b k s)]⟩]⟩) (ex := .normal) mix tabOkQN gv66_ok
    (vc := [((Int.toNat (IntKind.i64.wrap (Int.tdiv ((k : Nat) : Int) (4 : Int)))) < ((n + (3 : Nat)) / (4 : Nat))), (((0 : Int) ≤ (IntKind.i64.wrap (Int.tdiv ((k : Nat) : Int) (4 : Int)))) ∧ ((IntKind.i64.wrap (Int.tdiv ((k : Nat) : Int) (4 : Int))) < ((((n + (3 : Nat)) / (4 : Nat)) : Nat) : Int))), ((0 : Int) ≤ (IntKind.u64.wrap (IntKind.i64.wrap ((8 : Int) * (Int.tmod ((k : Nat) : Int) (4 : Int)))))), ((4 : Int) ≠ 0), (k < nm), (((0 : Int) ≤ ((k : Nat) : Int)) ∧ (((k : Nat) : Int) < ((n : Nat) : Int))), ((Int.toNat (IntKind.i64.wrap (Int.tdiv ((k : Nat) : Int) (4 : Int)))) < ((n + (3 : Nat)) / (4 : Nat))), (((0 : Int) ≤ (IntKind.i64.wrap (Int.tdiv ((k : Nat) : Int) (4 : Int)))) ∧ ((IntKind.i64.wrap (Int.tdiv ((k : Nat) : Int) (4 : Int))) < ((((n + (3 : Nat)) / (4 : Nat)) : Nat) : Int))), ((4 : Int) ≠ 0), ((4 : Int) ≠ 0), ((decide (((k : Nat) : Int) < ((n : Nat) : Int))) = true)]) (by kernel_rfl)
    (aC (by first | omega | exact wrap_nn rfl | (have q := dg_i2 (k := k) (by omega); omega) | (simp (disch := omega) only [wrapI]; omega)) (aC ⟨(by first | omega | exact wrap_nn rfl | (have q := dg_i2 (k := k) (by omega); omega) | (simp (disch := omega) only [wrapI]; omega)), (by first | omega | exact wrap_nn rfl | (have q := dg_i2 (k := k) (by omega); omega) | (simp (disch := omega) only [wrapI]; omega))⟩ (aC (wrap_nn (k := .u64) rfl) (aC (by decide) (aC (by first | omega | exact wrap_nn rfl | (have q := dg_i2 (k := k) (by omega); omega) | (simp (disch := omega) only [wrapI]; omega)) (aC ⟨(by first | omega | exact wrap_nn rfl | (have q := dg_i2 (k := k) (by omega); omega) | (simp (disch := omega) only [wrapI]; omega)), (by first | omega | exact wrap_nn rfl | (have q := dg_i2 (k := k) (by omega); omega) | (simp (disch := omega) only [wrapI]; omega))⟩ (aC (by first | omega | exact wrap_nn rfl | (have q := dg_i2 (k := k) (by omega); omega) | (simp (disch := omega) only [wrapI]; omega)) (aC ⟨(by first | omega | exact wrap_nn rfl | (have q := dg_i2 (k := k) (by omega); omega) | (simp (disch := omega) only [wrapI]; omega)), (by first | omega | exact wrap_nn rfl | (have q := dg_i2 (k := k) (by omega); omega) | (simp (disch := omega) only [wrapI]; omega))⟩ (aC (by decide) (aC (by decide) (aC (decide_eq_true (by first | omega | exact wrap_nn rfl | (have q := dg_i2 (k := k) (by omega); omega) | (simp (disch := omega) only [wrapI]; omega))) (AllP_nil))))))))))))
  rw [e0] at h
  exact h

set_option maxHeartbeats 1000000 in
theorem dgL_last (n nm : Nat) (b : List Int) (cap0 : Nat) (h0 : (nm = n)) (h1 : (n ≤ (140737488355328 : Nat))) (hc0 : n ≤ cap0) (hl0_0 : List.length b = nm) (w : World) (rw : List Nat) (β : Env) (s : (List Int)) : Run Try.prog ⟨w, rw, 1, β⟩ (loopB Try.f116 0) (dgL_mk n nm b cap0 n s) (To ⟨w, rw, 1, β⟩ (.exit 0) (dgL_mk n nm b cap0 n s)) :=
  Run.of_outT (B := ⟨w, rw, 1, β⟩) (Λ := noLam) (Ψ := noPsi) (fuel := 0) (ora := [false]) (l := [.forget [0, 2, 3, 4, 5, 6, 7, 8, 9] 2]) mix tabOkQN gv66_ok
    (vc := [((decide (((n : Nat) : Int) < ((n : Nat) : Int))) = false)]) (by kernel_rfl)
    (aC (decide_eq_false (by omega)) (AllP_nil))

theorem dgL_loop (n nm : Nat) (b : List Int) (cap0 : Nat) (h0 : (nm = n)) (h1 : (n ≤ (140737488355328 : Nat))) (hc0 : n ≤ cap0) (hl0_0 : List.length b = nm) (w : World) (rw : List Nat) (β : Env) (s : (List Int)) : Run Try.prog ⟨w, rw, 1, β⟩ (.block 0 (.loop (loopB Try.f116 0))) (dgL_mk n nm b cap0 0 s) (To ⟨w, rw, 1, β⟩ .normal (dgL_mk n nm b cap0 n (iter (dgL_step b) n s))) :=
  Run.count (fun k => dgL_mk n nm b cap0 k (iter (dgL_step b) k s)) n (fun k hk => dgL_round n nm b cap0 h0 h1 hc0 hl0_0 w rw β k hk _) (ex := (.exit 0)) (by simp) (dgL_last n nm b cap0 h0 h1 hc0 hl0_0 w rw β _)

def dgL_out0 (b : List Int) (n : Nat) (i0 : List Int) : List Int := (iter (dgL_step b) n (i0))

def dgN (n : Nat) : Nat :=
  ((n + (3 : Nat)) / (4 : Nat))

def dgN_1 (n : Nat) (b : List Int) : List Int :=
  (dgL_out0 b n (List.replicate ((n + (3 : Nat)) / (4 : Nat)) (0 : Int)))

set_option maxHeartbeats 1000000 in
theorem dgN_body0 (n nm : Nat) (b : List Int) (cap0 : Nat) (h0 : (nm = n)) (h1 : (n ≤ (140737488355328 : Nat))) (hc0 : n ≤ cap0) (hl0_0 : List.length b = nm) (w : World) (rw : List Nat) (β : Env) : Body Try.prog (tabOf tabQN) Try.f116 ⟨w, rw, 1, β⟩ [.o (.a (.sl 0 0 n cap0))] [some ⟨false, [.ints .u8 nm b]⟩] (fun ys K' => ys = [.a (.sl 1 0 (dgN n) (dgN n))] ∧ K' = [some ⟨false, [.ints .u8 nm b]⟩, some ⟨true, [.ints .u32 (dgN n) (dgN_1 n b)]⟩]) :=
  Body.of_finK (Γ := gv66) (Λ := lamOf [(0, ⟨[.forget [0, 2, 3, 4, 5, 6, 7, 8, 9] 2], .normal, (dgL_mk n nm b cap0 n (iter (dgL_step b) n ((List.replicate ((n + (3 : Nat)) / (4 : Nat)) (0 : Int)))))⟩)]) (Ψ := psiOf [(1, [.eqS 3 (.o (.a (.sl 1 0 ((n + (3 : Nat)) / (4 : Nat)) ((n + (3 : Nat)) / (4 : Nat))))), .eqB 1 (⟨true, [.ints .u32 ((n + (3 : Nat)) / (4 : Nat)) (List.replicate ((n + (3 : Nat)) / (4 : Nat)) (0 : Int))]⟩)])]) (fuel := 0) (m := 37) (c := (Try.f116.body.getD .skip)) mix tabOkQN gv66_ok rfl (rs := [.tmp 2]) rfl rfl [] [] 2
    (vc := [(Run Try.prog ⟨w, rw, 1, β⟩ (.block 0 (.loop (loopB Try.f116 0))) (dgL_mk n nm b cap0 0 ((List.replicate ((n + (3 : Nat)) / (4 : Nat)) (0 : Int)))) (To ⟨w, rw, 1, β⟩ .normal (dgL_mk n nm b cap0 n (iter (dgL_step b) n ((List.replicate ((n + (3 : Nat)) / (4 : Nat)) (0 : Int))))))), ((some ⟨true, [.ints .u32 (Int.toNat (IntKind.i64.wrap (Int.tdiv (IntKind.i64.wrap (((n : Nat) : Int) + (3 : Int))) (4 : Int)))) (List.replicate (Int.toNat (IntKind.i64.wrap (Int.tdiv (IntKind.i64.wrap (((n : Nat) : Int) + (3 : Int))) (4 : Int)))) (0 : Int))]⟩ : Option Blk) = some ⟨true, [.ints .u32 ((n + (3 : Nat)) / (4 : Nat)) (List.replicate ((n + (3 : Nat)) / (4 : Nat)) (0 : Int))]⟩), ((.o (.a (.sl 1 0 (Int.toNat (IntKind.i64.wrap (Int.tdiv (IntKind.i64.wrap (((n : Nat) : Int) + (3 : Int))) (4 : Int)))) (Int.toNat (IntKind.i64.wrap (Int.tdiv (IntKind.i64.wrap (((n : Nat) : Int) + (3 : Int))) (4 : Int)))))) : AV) = .o (.a (.sl 1 0 ((n + (3 : Nat)) / (4 : Nat)) ((n + (3 : Nat)) / (4 : Nat))))), (((0 : Int) ≤ (IntKind.i64.wrap (Int.tdiv (IntKind.i64.wrap (((n : Nat) : Int) + (3 : Int))) (4 : Int)))) ∧ ((IntKind.i64.wrap (Int.tdiv (IntKind.i64.wrap (((n : Nat) : Int) + (3 : Int))) (4 : Int))) ≤ (IntKind.i64.wrap (Int.tdiv (IntKind.i64.wrap (((n : Nat) : Int) + (3 : Int))) (4 : Int)))) ∧ (((IntKind.i64.wrap (Int.tdiv (IntKind.i64.wrap (((n : Nat) : Int) + (3 : Int))) (4 : Int))) * (4 : Int)) ≤ (281474976710656 : Int))), ((4 : Int) ≠ 0)]) (by kernel_rfl)
    (aC (dgL_loop n nm b cap0 h0 h1 hc0 hl0_0 w rw β ((List.replicate ((n + (3 : Nat)) / (4 : Nat)) (0 : Int)))) (aC ((by rw [show Int.toNat (IntKind.i64.wrap (Int.tdiv (IntKind.i64.wrap (((n : Nat) : Int) + (3 : Int))) (4 : Int))) = (n + 3) / 4 from dg_n h1])) (aC ((by rw [show Int.toNat (IntKind.i64.wrap (Int.tdiv (IntKind.i64.wrap (((n : Nat) : Int) + (3 : Int))) (4 : Int))) = (n + 3) / 4 from dg_n h1])) (aC ⟨(by first | decide | omega | (have q := dg_n2 h1; omega) | (simp (disch := omega) only [wrapI]; omega)), (by first | decide | omega | (have q := dg_n2 h1; omega) | (simp (disch := omega) only [wrapI]; omega)), (by first | decide | omega | (have q := dg_n2 h1; omega) | (simp (disch := omega) only [wrapI]; omega))⟩ (aC (by decide) (AllP_nil))))))

theorem dgN_body (n nm : Nat) (b : List Int) (cap0 : Nat) (h0 : (nm = n)) (h1 : (n ≤ (140737488355328 : Nat))) (w : World) (rw : List Nat) (β : Env) : Body Try.prog (tabOf tabQN) Try.f116 ⟨w, rw, 1, β⟩ [.o (.a (.sl 0 0 n cap0))] [some ⟨false, [.ints .u8 nm b]⟩] (fun ys K' => ys = [.a (.sl 1 0 (dgN n) (dgN n))] ∧ K' = [some ⟨false, [.ints .u8 nm b]⟩, some ⟨true, [.ints .u32 (dgN n) (dgN_1 n b)]⟩]) :=
  Body.lens (c := (Try.f116.body.getD .skip)) rfl fun h => dgN_body0 n nm b cap0 h0 h1 (h.caps 0 _ _ _ _ rfl) (h.lens 0 _ .u8 nm b rfl (by simp)) w rw β

end Go.Proofs.Ytlmdhjojinkdbaa.X.V

/- Digits of any bytes; Reduce, Decode, Canonical by numbers. -/
namespace Go.Proofs.Ytlmdhjojinkdbaa.X.V
open Go Go.Proofs
set_option linter.unusedVariables false
set_option maxRecDepth 100000

theorem topV_val {l : List Int} {n : Nat} (h : l.length = n) : ∀ t, t ≤ n → topV l n t = valL (l.drop (n - t))
  | 0, _ => by rw [Nat.sub_zero, List.drop_eq_nil_of_le (by omega)]; rfl
  | t + 1, ht => by
    show topV l n t * 4294967296 + List.getD l (Int.toNat (((n : Nat) : Int) - (1 : Int) - ((t : Nat) : Int))) 0 = _
    rw [topV_val h t (by omega), show Int.toNat (((n : Nat) : Int) - (1 : Int) - ((t : Nat) : Int)) = n - (t + 1) by omega]
    rw [List.drop_eq_getElem_cons (show n - (t + 1) < l.length by omega), List.getD_eq_getElem?_getD, List.getElem?_eq_getElem (show n - (t + 1) < l.length by omega), show n - (t + 1) + 1 = n - t by omega]
    show _ = _ + 4294967296 * _
    rw [Int.add_comm, Int.mul_comm]; rfl
theorem topV_all {l : List Int} {n : Nat} (h : l.length = n) : topV l n n = valL l := by
  rw [topV_val h n (Nat.le_refl _), Nat.sub_self, List.drop_zero]
theorem valL_0 : ∀ n : Nat, valL (List.replicate n 0) = 0
  | 0 => rfl
  | n + 1 => by show (0 : Int) + 4294967296 * valL (List.replicate n 0) = 0; rw [valL_0 n]; rfl
theorem nb_take {b : List Int} {k : Nat} (h : k < b.length) : nb (b.take (k + 1)) = nb (b.take k) + 256 ^ k * (List.getD b k 0).toNat := by
  rw [List.take_add_one, List.getElem?_eq_getElem h, nb_app, List.length_take, Nat.min_eq_left (by omega), List.getD_eq_getElem?_getD, List.getElem?_eq_getElem h]
  rfl
theorem getD_set {l : List Int} {i j : Nat} {x : Int} (hi : i < l.length) : List.getD (l.set i x) j 0 = if i = j then x else List.getD l j 0 := by
  rw [List.getD_eq_getElem?_getD, List.getD_eq_getElem?_getD, List.getElem?_set]
  by_cases hc : i = j
  · subst hc; rw [if_pos rfl, if_pos rfl, if_pos hi]; rfl
  · rw [if_neg hc, if_neg hc]

theorem dg_inv {b : List Int} (hb : Byt b) {n : Nat} (hl : b.length = n) (hn : n ≤ 140737488355328) : ∀ k, k ≤ n →
    (iter (dgL_step b) k (List.replicate ((n + 3) / 4) 0)).length = (n + 3) / 4 ∧
    (∀ j, 0 ≤ List.getD (iter (dgL_step b) k (List.replicate ((n + 3) / 4) 0)) j 0 ∧ List.getD (iter (dgL_step b) k (List.replicate ((n + 3) / 4) 0)) j 0 < ((2 ^ (8 * min 4 (k - 4 * j)) : Nat) : Int)) ∧
    valL (iter (dgL_step b) k (List.replicate ((n + 3) / 4) 0)) = ((nb (b.take k) : Nat) : Int)
  | 0, _ => by
    refine ⟨List.length_replicate, fun j => ?_, ?_⟩
    · have e : List.getD (iter (dgL_step b) 0 (List.replicate ((n + 3) / 4) 0)) j 0 = 0 := by
        show List.getD (List.replicate ((n + 3) / 4) (0 : Int)) j 0 = 0
        rw [List.getD_eq_getElem?_getD]
        by_cases hj : j < (n + 3) / 4
        · rw [List.getElem?_replicate, if_pos hj]; rfl
        · rw [List.getElem?_replicate, if_neg hj]; rfl
      rw [e]
      exact ⟨Int.le_refl _, by rw [Nat.zero_sub]; decide⟩
    · exact valL_0 _
  | k + 1, hk => by
    obtain ⟨h1, h2, h3⟩ := dg_inv hb hl hn k (by omega)
    show List.length (dgL_step b k _) = _ ∧ (∀ j, 0 ≤ List.getD (dgL_step b k _) j 0 ∧ List.getD (dgL_step b k _) j 0 < _) ∧ valL (dgL_step b k _) = _
    generalize iter (dgL_step b) k (List.replicate ((n + 3) / 4) 0) = l at *
    have hx := byt_get hb k
    have hs : IntKind.u64.wrap (IntKind.i64.wrap ((8 : Int) * (Int.tmod ((k : Nat) : Int) (4 : Int)))) = ((8 * (k % 4) : Nat) : Int) := by
      rw [Int.tmod_eq_emod_of_nonneg (by omega), wrapI (by omega) (by omega), wrap64]; omega
    have ho := h2 (k / 4)
    have hm : min 4 (k - 4 * (k / 4)) = k % 4 := by omega
    rw [hm] at ho
    have hor := or_shl32 (n := 8 * (k % 4)) (by omega) ho.1 ho.2 hx.1 hx.2
    have e : dgL_step b k l = l.set (k / 4) (List.getD l (k / 4) 0 + List.getD b k 0 * ((2 ^ (8 * (k % 4)) : Nat) : Int)) := by
      unfold dgL_step
      simp only
      rw [dg_i (by omega), hs, hor]
    have hj0 : k / 4 < l.length := by omega
    rw [e]
    refine ⟨by rw [List.length_set]; exact h1, fun j => ?_, ?_⟩
    · rw [getD_set hj0]
      by_cases hc : k / 4 = j
      · subst hc
        rw [if_pos rfl, show min 4 (k + 1 - 4 * (k / 4)) = k % 4 + 1 by omega]
        have hp : (2 : Nat) ^ (8 * (k % 4 + 1)) = 256 * 2 ^ (8 * (k % 4)) := by
          rw [Nat.mul_add, Nat.pow_add, Nat.mul_comm]
        rw [hp]
        have hp0 : 0 < (2 : Nat) ^ (8 * (k % 4)) := Nat.pow_pos (by omega)
        generalize (2 : Nat) ^ (8 * (k % 4)) = q at *
        have m1 : 0 ≤ List.getD b k 0 * ((q : Nat) : Int) := Int.mul_nonneg hx.1 (by omega)
        have m2 : List.getD b k 0 * ((q : Nat) : Int) ≤ 255 * ((q : Nat) : Int) := Int.mul_le_mul_of_nonneg_right (by omega) (by omega)
        omega
      · rw [if_neg hc]
        have := h2 j
        rcases Nat.lt_or_gt_of_ne hc with hlt | hgt
        · rw [show min 4 (k + 1 - 4 * j) = min 4 (k - 4 * j) by omega]; exact this
        · rw [show min 4 (k + 1 - 4 * j) = min 4 (k - 4 * j) by omega]; exact this
    · rw [val_set _ _ _ hj0, h3, nb_take (by omega), Int.natCast_add, Int.natCast_mul, Int.toNat_of_nonneg hx.1]
      have e2 : ((256 ^ k : Nat) : Int) = ((2 ^ (8 * (k % 4)) : Nat) : Int) * pw (k / 4) := by
        have e3 : (256 : Nat) ^ k = 2 ^ (8 * (k % 4)) * 4294967296 ^ (k / 4) := by
          rw [show (256 : Nat) = 2 ^ 8 from rfl, show (4294967296 : Nat) = 2 ^ 32 from rfl, ← Nat.pow_mul, ← Nat.pow_mul, ← Nat.pow_add]
          congr 1; omega
        rw [e3, Int.natCast_mul, Int.natCast_pow 4294967296]; rfl
      rw [e2]
      generalize ((2 ^ (8 * (k % 4)) : Nat) : Int) = q
      generalize pw (k / 4) = r
      generalize List.getD b k 0 = x
      generalize List.getD l (k / 4) 0 = y
      rw [show y + x * q - y = x * q by omega, Int.mul_comm (q * r), Int.mul_assoc]
theorem dgN_num {b : List Int} (hb : Byt b) {n : Nat} (hl : b.length = n) (hn : n ≤ 140737488355328) : (dgN_1 n b).length = dgN n ∧ Wd8 (dgN_1 n b) ∧ topV (dgN_1 n b) (dgN n) (dgN n) = ((nb b : Nat) : Int) := by
  obtain ⟨h1, h2, h3⟩ := dg_inv hb hl hn n (Nat.le_refl _)
  have hl2 : (dgN_1 n b).length = dgN n := h1
  refine ⟨hl2, fun x hx => ?_, ?_⟩
  · obtain ⟨j, hj, rfl⟩ := List.mem_iff_getElem.1 hx
    have q := h2 j
    have e : List.getD (iter (dgL_step b) n (List.replicate ((n + 3) / 4) 0)) j 0 = (dgN_1 n b)[j] := by
      rw [List.getD_eq_getElem?_getD, List.getElem?_eq_getElem (show j < (iter (dgL_step b) n (List.replicate ((n + 3) / 4) 0)).length from hj)]; rfl
    rw [e] at q
    refine ⟨q.1, Int.lt_of_lt_of_le q.2 ?_⟩
    have : (2 : Nat) ^ (8 * min 4 (n - 4 * j)) ≤ 2 ^ 32 := Nat.pow_le_pow_right (by omega) (by omega)
    have e4 : (2 : Nat) ^ 32 = 4294967296 := by rfl
    omega
  · rw [topV_all hl2]
    have e5 : valL (dgN_1 n b) = ((nb (b.take n) : Nat) : Int) := h3
    rw [e5, List.take_of_length_le (by omega)]

theorem rdP_eq (b : List Int) (n : Nat) : rdP n b = B32 (modL ((nb b : Nat) : Int)) := by
  unfold rdP
  rw [rd_fin]
def nbI (b : List Int) : Int := ((nb b : Nat) : Int)
theorem rdP_num (n nm : Nat) (b : List Int) (cap0 : Nat) (h0 : nm = n) (h1 : n ≤ 140737488355328) (h2 : Byt b) (w : World) (β : Env) : Body Try.prog (tabOf tabQN) Try.f81 ⟨w, [], 1, β⟩ [.o (.a (.sl 0 0 n cap0))] [some ⟨false, [.ints .u8 nm b]⟩] (fun ys _ => ys = [.g [.ints .u8 (32 : Nat) (B32 (modL (nbI b)))]]) := rdP_eq b n ▸ rdP_body n nm b cap0 h0 h1 h2 w β
end Go.Proofs.Ytlmdhjojinkdbaa.X.V

/- Printed by a tool of this session. -/
namespace Go.Proofs.Ytlmdhjojinkdbaa.X.V
open Go Go.Proofs
set_option linter.unusedVariables false
set_option linter.unusedSimpArgs false
set_option maxRecDepth 100000
theorem teQO_3 : TEOk Try.prog 3 ⟨.int .i64, 1, 8, [.i .i64 (0 : Int)], false⟩ :=
  TEOk.of Try.underlying3 (i := Try.t3) (by kernel_rfl) rfl rfl rfl (by kernel_rfl) (fun h => by cases h) (by kernel_rfl)
theorem teQO_5 : TEOk Try.prog 5 ⟨.int .u8, 1, 1, [.i .u8 (0 : Int)], false⟩ :=
  TEOk.of Try.underlying5 (i := Try.t5) (by kernel_rfl) rfl rfl rfl (by kernel_rfl) (fun h => by cases h) (by kernel_rfl)
theorem teQO_24 : TEOk Try.prog 98 ⟨.array 32 5, 32, 32, [.ints .u8 (32 : Nat) ([0, 0, 0, 0, 0, 0, 0, 0, 0, 0, 0, 0, 0, 0, 0, 0, 0, 0, 0, 0, 0, 0, 0, 0, 0, 0, 0, 0, 0, 0, 0, 0] : List Int)], true⟩ :=
  TEOk.of Try.underlying98 (i := Try.t98) (by kernel_rfl) rfl rfl rfl (by kernel_rfl) (fun _ => Try.eqGuardType98) (by kernel_rfl)
theorem teQO_25 : TEOk Try.prog 147 ⟨.int .u64, 1, 8, [.i .u64 (0 : Int)], false⟩ :=
  TEOk.of Try.underlying147 (i := Try.t147) (by kernel_rfl) rfl rfl rfl (by kernel_rfl) (fun h => by cases h) (by kernel_rfl)
theorem teQO_62 : TEOk Try.prog 229 ⟨.int .u64, 1, 8, [.i .u64 (0 : Int)], false⟩ :=
  TEOk.of Try.underlying229 (i := Try.t229) (by kernel_rfl) rfl rfl rfl (by kernel_rfl) (fun h => by cases h) (by kernel_rfl)
noncomputable def tabQO : List (Nat × TE) := [(3, ⟨.int .i64, 1, 8, [.i .i64 (0 : Int)], false⟩), (5, ⟨.int .u8, 1, 1, [.i .u8 (0 : Int)], false⟩), (98, ⟨.array 32 5, 32, 32, [.ints .u8 (32 : Nat) ([0, 0, 0, 0, 0, 0, 0, 0, 0, 0, 0, 0, 0, 0, 0, 0, 0, 0, 0, 0, 0, 0, 0, 0, 0, 0, 0, 0, 0, 0, 0, 0] : List Int)], true⟩), (147, ⟨.int .u64, 1, 8, [.i .u64 (0 : Int)], false⟩), (229, ⟨.int .u64, 1, 8, [.i .u64 (0 : Int)], false⟩)]
theorem tabOkQO : TabOk Try.prog (tabOf tabQO) := (tabOf_cons teQO_3 (tabOf_cons teQO_5 (tabOf_cons teQO_24 (tabOf_cons teQO_25 (tabOf_cons teQO_62 tabOf_nil)))))

def gv67 : Gam := greadV 81 [.s 1] (fun vs args => match vs, args with | [⟨_, _, _, [.ints .u8 nm b]⟩], [a0] => some ((nm = (lenOfA a0)) ∧ ((lenOfA a0) ≤ (140737488355328 : Nat)) ∧ (Byt b), [.g [.ints .u8 (32 : Nat) (B32 (modL (nbI b)))]]) | _, _ => none) gv66
theorem gv67_ok : GamOk Try.prog gv67 := greadV_ok tabOkQN Try.func81 gv66_ok Try.call81 (by
  intro vs args p xs h hv
  split at h
  · simp only [Option.some.injEq, Prod.mk.injEq] at h; obtain ⟨rfl, rfl⟩ := h; exact ⟨by rfl, fun caps w β => rdP_num _ _ _ _ hv.1 hv.2.1 hv.2.2 w β⟩
  · simp at h)

def gv68 : Gam := gcall 116 [] [.s 1] (fun wk vs args => match wk, vs, args with | [], [⟨_, _, _, [.ints .u8 nm b]⟩], [.o (.a (.sl 0 0 n _))] => some ((nm = n) ∧ (n ≤ (140737488355328 : Nat)), [.a (.sl 1 0 (dgN n) (dgN n))], [some ⟨false, [.ints .u8 nm b]⟩, some ⟨true, [.ints .u32 (dgN n) (dgN_1 n b)]⟩]) | _, _, _ => none) gv67
theorem gv68_ok : GamOk Try.prog gv68 := gcall_ok tabOkQN Try.func116 gv67_ok Try.call116 (by
  intro wk vs args p xs K1 h hv
  split at h
  · simp only [Option.some.injEq, Prod.mk.injEq] at h; obtain ⟨rfl, rfl, rfl⟩ := h; obtain ⟨g0, g1⟩ := hv; exact fun caps w rw β => dgN_body _ _ _ _ g0 g1 w rw β
  · simp at h)

def rdR (n : Nat) (b : List Int) : List Int :=
  (B32 (V8 (W8 (modL (topV (sub (dgN_1 n (sub b 0 n)) (0 : Nat) (dgN n)) (dgN n) (dgN n))))))

set_option maxHeartbeats 1000000 in
theorem rdR_body0 (n nm : Nat) (b : List Int) (cap0 : Nat) (h0 : (nm = n)) (h1 : (n ≤ (140737488355328 : Nat))) (h2 : (Byt b)) (hc0 : n ≤ cap0) (hl0_0 : List.length b = nm) (w : World) (β : Env) : Body Try.prog (tabOf tabQO) Try.f82 ⟨w, [], 1, β⟩ [.o (.a (.sl 0 0 n cap0))] [some ⟨false, [.ints .u8 nm b]⟩] (fun ys _ => ys = [.g [.ints .u8 (32 : Nat) (rdR n b)]]) :=
  Body.of_fin (Γ := gv68) (Λ := noLam) (Ψ := noPsi) (fuel := 0) (m := 7) (c := (Try.f82.body.getD .skip)) mix tabOkQO gv68_ok rfl (rs := [.cell 2 98]) rfl rfl [] []
    (vc := [(Wd8 (W8 (modL (topV (sub (dgN_1 n (sub b 0 n)) (0 : Nat) (dgN n)) (dgN n) (dgN n))))), (((((0 : Nat) + (dgN n)) ≤ (dgN n)) ∧ True) ∧ (((dgN n) = (dgN n)) ∧ ((dgN n) < (70368744177664 : Nat)) ∧ (Wd8 (sub (dgN_1 n (sub b 0 n)) (0 : Nat) (dgN n))))), (((((0 : Nat) + n) ≤ nm) ∧ True) ∧ ((n = n) ∧ (n ≤ (140737488355328 : Nat))))]) (by kernel_rfl)
    (aC (wd8_W8 _) (aC ⟨⟨(by first | omega | (unfold dgN; omega)), trivial⟩, ⟨rfl, (by first | omega | (unfold dgN; omega)), (by rw [sub_all b n (by omega), sub_all _ _ (Nat.le_of_eq (dgN_num h2 (hl0_0.trans h0) h1).1)]; exact (dgN_num h2 (hl0_0.trans h0) h1).2.1)⟩⟩ (aC ⟨⟨(by first | omega | (unfold dgN; omega)), trivial⟩, ⟨rfl, h1⟩⟩ (AllP_nil))))

theorem rdR_body (n nm : Nat) (b : List Int) (cap0 : Nat) (h0 : (nm = n)) (h1 : (n ≤ (140737488355328 : Nat))) (h2 : (Byt b)) (w : World) (β : Env) : Body Try.prog (tabOf tabQO) Try.f82 ⟨w, [], 1, β⟩ [.o (.a (.sl 0 0 n cap0))] [some ⟨false, [.ints .u8 nm b]⟩] (fun ys _ => ys = [.g [.ints .u8 (32 : Nat) (rdR n b)]]) :=
  Body.lens (c := (Try.f82.body.getD .skip)) rfl fun h => rdR_body0 n nm b cap0 h0 h1 h2 (h.caps 0 _ _ _ _ rfl) (h.lens 0 _ .u8 nm b rfl (by simp)) w β

end Go.Proofs.Ytlmdhjojinkdbaa.X.V

/- The reference's Reduce, FromInt, Canonical by numbers. -/
namespace Go.Proofs.Ytlmdhjojinkdbaa.X.V
open Go Go.Proofs
set_option linter.unusedVariables false
set_option maxRecDepth 100000

theorem rdR_eq {b : List Int} (hb : Byt b) {n : Nat} (hl : b.length = n) (hn : n ≤ 140737488355328) : rdR n b = B32 (modL (nbI b)) := by
  obtain ⟨h1, h2, h3⟩ := dgN_num hb hl hn
  unfold rdR
  rw [sub_all b n (by omega), sub_all _ _ (Nat.le_of_eq h1), h3, V8_modL]; rfl
theorem rdR_num (n nm : Nat) (b : List Int) (cap0 : Nat) (h0 : nm = n) (h1 : n ≤ 140737488355328) (h2 : Byt b) (w : World) (β : Env) : Body Try.prog (tabOf tabQO) Try.f82 ⟨w, [], 1, β⟩ [.o (.a (.sl 0 0 n cap0))] [some ⟨false, [.ints .u8 nm b]⟩] (fun ys _ => ys = [.g [.ints .u8 (32 : Nat) (B32 (modL (nbI b)))]]) :=
  Body.lens (c := (Try.f82.body.getD .skip)) rfl fun h => rdR_eq h2 ((h.lens 0 _ .u8 nm b rfl (by simp)).trans h0) h1 ▸ rdR_body n nm b cap0 h0 h1 h2 w β
end Go.Proofs.Ytlmdhjojinkdbaa.X.V

/- Printed by a tool of this session. -/
namespace Go.Proofs.Ytlmdhjojinkdbaa.X.V
open Go Go.Proofs
set_option linter.unusedVariables false
set_option linter.unusedSimpArgs false
set_option maxRecDepth 100000
def gv69 : Gam := greadV 82 [.s 1] (fun vs args => match vs, args with | [⟨_, _, _, [.ints .u8 nm b]⟩], [a0] => some ((nm = (lenOfA a0)) ∧ ((lenOfA a0) ≤ (140737488355328 : Nat)) ∧ (Byt b), [.g [.ints .u8 (32 : Nat) (B32 (modL (nbI b)))]]) | _, _ => none) gv68
theorem gv69_ok : GamOk Try.prog gv69 := greadV_ok tabOkQO Try.func82 gv68_ok Try.call82 (by
  intro vs args p xs h hv
  split at h
  · simp only [Option.some.injEq, Prod.mk.injEq] at h; obtain ⟨rfl, rfl⟩ := h; exact ⟨by rfl, fun caps w β => rdR_num _ _ _ _ hv.1 hv.2.1 hv.2.2 w β⟩
  · simp at h)

end Go.Proofs.Ytlmdhjojinkdbaa.X.V

/- What a name means among the methods of a type: calls through an interface whose value is a known pointer. -/
namespace Go.Proofs.Ytlmdhjojinkdbaa.X
open Go

def gmeth (t : TypeId) (nm : String) (fn : FuncId) (rest : Gam) : Gam := fun g K n args =>
  if mthId + t = g then (match args with | [.u, .o (.a (.raw (.string b)))] => if b = nm.toUTF8 then some ⟨none, .f fn [] [], [], 0⟩ else none | _ => none) else rest g K n args

theorem gmeth_at {P : Program} {t : TypeId} {nm : String} {fn : FuncId} {rest : Gam} {w0 : World} {rw : List Nat} (hr : GamAt P rest w0 rw)
    (h : ∀ v w args, (callMethod (.iface t v) nm args).run P w = (callFunc fn (#[v] ++ args)).run P w) (ht : t < 500000 := by decide) : GamAt P (gmeth t nm fn rest) w0 rw := by
  have ne : ∀ f : Nat, f < impId → ¬ (mthId + t = f) := fun f hf e => by
    have h1 : mthId ≤ mthId + t := Nat.le_add_right _ _
    rw [e] at h1
    exact Nat.lt_irrefl _ (Nat.lt_of_lt_of_le hf (Nat.le_trans (by decide : impId ≤ mthId) h1))
  have ne2 : ∀ f : Nat, ¬ (mthId + t = extId + f) := fun f e => by
    have h1 : mthId + t < mthId + 500000 := Nat.add_lt_add_left ht _
    have h2 : mthId + 500000 = extId := rfl
    have h3 : extId ≤ extId + f := Nat.le_add_right _ _
    rw [e, h2] at h1
    exact Nat.lt_irrefl _ (Nat.lt_of_lt_of_le h1 h3)
  refine ⟨?_, ?_, ?_, ?_, ?_, ?_⟩
  · intro t' n nm' s ht' hs
    unfold gmeth at hs
    split at hs
    · rename_i e
      have e : t = t' := Nat.add_left_cancel e
      subst e
      simp only [strVal] at hs
      split at hs
      · rename_i hb
        have hb : nm' = nm := String.toByteArray_inj.1 hb
        subst hb
        simp only [Option.some.injEq] at hs; subst hs
        exact ⟨fn, rfl, h⟩
      · cases hs
    · exact hr.meth _ _ _ _ ht' hs
  · intro f K n args s hf hs
    unfold gmeth at hs; rw [if_neg (ne f hf)] at hs
    exact hr.enter _ _ _ _ _ hf hs
  · intro f K n args s hf hs
    unfold gmeth at hs; rw [if_neg (ne f hf)] at hs
    exact hr.calls _ _ _ _ _ hf hs
  · intro f K K' n args s hf hs hk
    unfold gmeth at hs ⊢; rw [if_neg (ne f hf)] at hs ⊢
    exact hr.mono _ _ _ _ _ _ hf hs hk
  · intro f n args s hs
    unfold gmeth at hs; rw [if_neg (ne2 f)] at hs
    exact hr.ext _ _ _ _ hs
  · intro f n v s hf hf2 hs
    unfold gmeth at hs
    split at hs
    · cases hs
    · exact hr.imp _ _ _ _ hf hf2 hs
end Go.Proofs.Ytlmdhjojinkdbaa.X

/- Which function Random means for a tape. -/
namespace Go.Proofs.Ytlmdhjojinkdbaa.X
open Go Go.Proofs
theorem meth89 (v : Value) (w : World) (args : Array Value) : (callMethod (.iface 89 v) "Random" args).run Try.prog w = (callFunc 32 (#[v] ++ args)).run Try.prog w := by kernel_rfl
end Go.Proofs.Ytlmdhjojinkdbaa.X

/- Printed by a tool of this session. -/
namespace Go.Proofs.Ytlmdhjojinkdbaa.X
open Go Go.Proofs
set_option linter.unusedVariables false
set_option linter.unusedSimpArgs false
set_option maxRecDepth 100000
def gam34 : Gam := gcall 32 [true, true] [.w] (fun wk vs args => match wk, vs, args with | [⟨true, [.rs 1 c m 32]⟩, ⟨true, [.ints .u8 sz l]⟩], [], [.o (.a (.p 0 0))] => some (((c + (m * (32 : Nat))) ≤ sz) ∧ (m < (1099511627776 : Nat)), [.g [.ints .u8 (32 : Nat) (tnV c m l)], .a (.i .i64 (tnE m))], [some ⟨true, [.rs 1 (tnC c m) (tnM m) 32]⟩, some ⟨true, [.ints .u8 sz l]⟩]) | _, _, _ => none) V.gv69
theorem gam34_ok : GamOk Try.prog gam34 := gcall_ok tabOkTA Try.func32 V.gv69_ok Try.call32 (by
  intro wk vs args p xs K1 h hv
  split at h
  · simp only [Option.some.injEq, Prod.mk.injEq] at h; obtain ⟨rfl, rfl, rfl⟩ := h; obtain ⟨g0, g1⟩ := hv; exact fun caps w rw β => tapeAny_body _ _ _ _ g0 g1 w rw β
  · simp at h)

end Go.Proofs.Ytlmdhjojinkdbaa.X

/- Printed by a tool of this session. -/
namespace Go.Proofs.Ytlmdhjojinkdbaa.X
open Go Go.Proofs
set_option linter.unusedVariables false
set_option linter.unusedSimpArgs false
set_option maxRecDepth 100000
theorem teTC_5 : TEOk Try.prog 5 ⟨.int .u8, 1, 1, [.i .u8 (0 : Int)], false⟩ :=
  TEOk.of Try.underlying5 (i := Try.t5) (by kernel_rfl) rfl rfl rfl (by kernel_rfl) (fun h => by cases h) (by kernel_rfl)
theorem teTC_22 : TEOk Try.prog 22 ⟨.slice 5, 1, 24, [.raw (.slice none 0 0)], false⟩ :=
  TEOk.of Try.underlying22 (i := Try.t22) (by kernel_rfl) rfl rfl rfl (by kernel_rfl) (fun h => by cases h) (by kernel_rfl)
theorem teTC_72 : TEOk Try.prog 72 ⟨.array 32 5, 32, 32, [.ints .u8 (32 : Nat) ([0, 0, 0, 0, 0, 0, 0, 0, 0, 0, 0, 0, 0, 0, 0, 0, 0, 0, 0, 0, 0, 0, 0, 0, 0, 0, 0, 0, 0, 0, 0, 0] : List Int)], true⟩ :=
  TEOk.of Try.underlying72 (i := Try.t72) (by kernel_rfl) rfl rfl rfl (by kernel_rfl) (fun _ => Try.eqGuardType72) (by kernel_rfl)
theorem teTC_95 : TEOk Try.prog 95 ⟨.slice 98, 1, 24, [.raw (.slice none 0 0)], false⟩ :=
  TEOk.of Try.underlying95 (i := Try.t95) (by kernel_rfl) rfl rfl rfl (by kernel_rfl) (fun h => by cases h) (by kernel_rfl)
theorem teTC_98 : TEOk Try.prog 98 ⟨.array 32 5, 32, 32, [.ints .u8 (32 : Nat) ([0, 0, 0, 0, 0, 0, 0, 0, 0, 0, 0, 0, 0, 0, 0, 0, 0, 0, 0, 0, 0, 0, 0, 0, 0, 0, 0, 0, 0, 0, 0, 0] : List Int)], true⟩ :=
  TEOk.of Try.underlying98 (i := Try.t98) (by kernel_rfl) rfl rfl rfl (by kernel_rfl) (fun _ => Try.eqGuardType98) (by kernel_rfl)
theorem teTC_142 : TEOk Try.prog 142 ⟨Try.t141.desc, 1, 16, [.raw .nilIface], false⟩ :=
  TEOk.of Try.underlying142 (i := Try.t142) (by kernel_rfl) rfl rfl rfl (by kernel_rfl) (fun h => by cases h) (by kernel_rfl)
noncomputable def tabTC : List (Nat × TE) := [(5, ⟨.int .u8, 1, 1, [.i .u8 (0 : Int)], false⟩), (22, ⟨.slice 5, 1, 24, [.raw (.slice none 0 0)], false⟩), (72, ⟨.array 32 5, 32, 32, [.ints .u8 (32 : Nat) ([0, 0, 0, 0, 0, 0, 0, 0, 0, 0, 0, 0, 0, 0, 0, 0, 0, 0, 0, 0, 0, 0, 0, 0, 0, 0, 0, 0, 0, 0, 0, 0] : List Int)], true⟩), (95, ⟨.slice 98, 1, 24, [.raw (.slice none 0 0)], false⟩), (98, ⟨.array 32 5, 32, 32, [.ints .u8 (32 : Nat) ([0, 0, 0, 0, 0, 0, 0, 0, 0, 0, 0, 0, 0, 0, 0, 0, 0, 0, 0, 0, 0, 0, 0, 0, 0, 0, 0, 0, 0, 0, 0, 0] : List Int)], true⟩), (142, ⟨Try.t141.desc, 1, 16, [.raw .nilIface], false⟩)]
theorem tabOkTC : TabOk Try.prog (tabOf tabTC) := (tabOf_cons teTC_5 (tabOf_cons teTC_22 (tabOf_cons teTC_72 (tabOf_cons teTC_95 (tabOf_cons teTC_98 (tabOf_cons teTC_142 tabOf_nil))))))

noncomputable def scP (c m : Nat) (l : List Int) : List Int := sub (V.B32 (V.modL (V.nbI (sub (sub (tnV c m l) 0 32 ++ sub (tnV (tnC c m) (tnM m) l) 0 32) 0 64)))) 0 32
noncomputable def scO (c m : Nat) (l : List Int) : Nat → List Int
  | 0 => []
  | k + 1 => sub (scO c m l k) 0 (k * 32) ++ scP (c + 64 * k) (m - 2 * k) l
theorem byt_app {a b : List Int} (ha : V.Byt a) (hb : V.Byt b) : V.Byt (a ++ b) := fun x hx => by
  rcases List.mem_append.1 hx with h | h
  · exact ha x h
  · exact hb x h
theorem tnE0 {m : Nat} (h : 0 < m) : (tnE m != 0) = false := by obtain ⟨q, rfl⟩ : ∃ q, m = q + 1 := ⟨m - 1, by omega⟩; rfl
theorem tnC_pos {c m : Nat} (h : 0 < m) : tnC c m = c + 32 := by obtain ⟨q, rfl⟩ : ∃ q, m = q + 1 := ⟨m - 1, by omega⟩; rfl
theorem tn2C {c m : Nat} (h : 2 ≤ m) : tnC (tnC c m) (tnM m) = c + 64 := by rw [tnC_pos (m := m) (by omega), tnC_pos (by unfold tnM; omega)]
theorem tnV_byt {c m : Nat} {l : List Int} (h : V.Byt l) : V.Byt (tnV c m l) := by
  cases m with
  | zero => intro x hx; have := List.eq_of_mem_replicate hx; subst this; decide
  | succ q => exact V.byt_sub h _ _

noncomputable def scN (N : Int) (m : Nat) : Nat := if m / 2 < N.toNat then m / 2 else N.toNat
noncomputable def scE (N : Int) (m : Nat) : Int := if m / 2 < N.toNat then 122 else 0
noncomputable def scC (N : Int) (c m : Nat) : Nat := if m / 2 < N.toNat then c + 32 * m else c + 64 * N.toNat
noncomputable def scM (N : Int) (m : Nat) : Nat := if m / 2 < N.toNat then 0 else m - 2 * N.toNat
noncomputable def scZ (N : Int) (m : Nat) : Nat := scN N m * 32
noncomputable def scV (N : Int) (c m : Nat) (l : List Int) : List Int := scO c m l (scN N m)
theorem ev0 {m : Nat} (h : m % 2 = 0) : m - 2 * (m / 2) = 0 := by omega
theorem ev1 {m : Nat} (h : m % 2 = 1) : m - 2 * (m / 2) = 1 := by omega
theorem scEE_a {m : Nat} (h : m % 2 = 0) : tnE (m - 2 * (m / 2)) = 122 := by rw [ev0 h]; rfl
theorem scEE_b {m : Nat} (h : m % 2 = 1) : tnE (tnM (m - 2 * (m / 2))) = 122 := by rw [ev1 h]; rfl
theorem scE_a {m : Nat} (h : m % 2 = 0) : (tnE (m - 2 * (m / 2)) != 0) = true := by rw [scEE_a h]; rfl
theorem scE_b {m : Nat} (h : m % 2 = 1) : (tnE (tnM (m - 2 * (m / 2))) != 0) = true := by rw [scEE_b h]; rfl
theorem scC_a {c m : Nat} (h : m % 2 = 0) : tnC (c + 64 * (m / 2)) (m - 2 * (m / 2)) = c + 32 * m := by rw [ev0 h]; show c + 64 * (m / 2) = _; omega
theorem scM_a {m : Nat} (h : m % 2 = 0) : tnM (m - 2 * (m / 2)) = 0 := by rw [ev0 h]; rfl
theorem scC_b {c m : Nat} (h : m % 2 = 1) : tnC (tnC (c + 64 * (m / 2)) (m - 2 * (m / 2))) (tnM (m - 2 * (m / 2))) = c + 32 * m := by rw [ev1 h]; show c + 64 * (m / 2) + 32 = _; omega
theorem scM_b {m : Nat} (h : m % 2 = 1) : tnM (tnM (m - 2 * (m / 2))) = 0 := by rw [ev1 h]; rfl
noncomputable def scFL_mk (c m sz : Nat) (l : List Int) (N : Int) (k : Nat) (s : Unit) : St := ⟨sparse 50 [(0, .o (.a (.ip 89 0 0))), (1, .o (.a (.i .i64 N))), (6, .o (.a (.rs 2 0 k 32))), (10, .o (.a (.ip 89 0 0))), (11, .o (.a (.b false))), (12, .o (.a (.b false))), (13, .o (.a (.i .i64 N))), (14, .o (.a (.b (decide (N < (0 : Int)))))), (15, .o (.a (.b (decide (N < (0 : Int)))))), (16, .o (.a (.b (decide (N < (0 : Int)))))), (17, .o (.a (.i .i64 N))), (18, .o (.a (.b (decide (N > (65536 : Int)))))), (19, .o (.a (.b (decide (N > (65536 : Int)))))), (20, .o (.a (.i .i64 N))), (21, .o (.a (.i .i64 ((k : Nat) : Int))))], [some ⟨true, [.rs 1 (c + ((64 : Nat) * k)) (m - ((2 : Nat) * k)) 32]⟩, some ⟨true, [.ints .u8 sz l]⟩, some ⟨true, [.ints .u8 (k * (32 : Nat)) (scO c m l k)]⟩]⟩

noncomputable def scFL_step (k : Nat) (s : Unit) : Unit :=
  ()

set_option maxHeartbeats 1000000 in
theorem scFL_round (c m sz : Nat) (l : List Int) (N : Int) (h0 : ((c + (m * (32 : Nat))) ≤ sz)) (h1 : (m < (1099511627776 : Nat))) (h2 : (V.Byt l)) (h3 : ((0 : Int) ≤ N)) (h4 : (N ≤ (65536 : Int))) (hl1_0 : List.length l = sz) (hc : 2 * N.toNat ≤ m) (w : World) (rw : List Nat) (β : Env) (k : Nat) (hk : k < (Int.toNat N)) (s : Unit) : Run Try.prog ⟨w, rw, 2, β⟩ (loopB Try.f36 0) (scFL_mk c m sz l N k s) (To ⟨w, rw, 2, β⟩ .normal (scFL_mk c m sz l N (k + 1) (scFL_step k s))) := by
  have e0 : ((sub (scO c m l k) (0 : Nat) (k * (32 : Nat))) ++ (sub (V.B32 (V.modL (V.nbI (sub ((sub (tnV (c + ((64 : Nat) * k)) (m - ((2 : Nat) * k)) l) (0 : Nat) (32 : Nat)) ++ (sub (tnV (tnC (c + ((64 : Nat) * k)) (m - ((2 : Nat) * k))) (tnM (m - ((2 : Nat) * k))) l) (0 : Nat) (32 : Nat))) (0 : Nat) (64 : Nat))))) (0 : Nat) (32 : Nat))) = (scO c m l (k + (1 : Nat))) := (by first | rfl | exact wrap_succ (by omega) | omega | exact (tn2C (by omega)).trans (by omega) | (unfold tnM; omega))
  have e1 : (tnC (tnC (c + ((64 : Nat) * k)) (m - ((2 : Nat) * k))) (tnM (m - ((2 : Nat) * k)))) = (c + ((64 : Nat) * (k + (1 : Nat)))) := (by first | rfl | exact wrap_succ (by omega) | omega | exact (tn2C (by omega)).trans (by omega) | (unfold tnM; omega))
  have e2 : (IntKind.i64.wrap (((k : Nat) : Int) + (1 : Int))) = (((k + (1 : Nat)) : Nat) : Int) := (by first | rfl | exact wrap_succ (by omega) | omega | exact (tn2C (by omega)).trans (by omega) | (unfold tnM; omega))
  have e3 : (tnM (tnM (m - ((2 : Nat) * k)))) = (m - ((2 : Nat) * (k + (1 : Nat)))) := (by first | rfl | exact wrap_succ (by omega) | omega | exact (tn2C (by omega)).trans (by omega) | (unfold tnM; omega))
  have e4 : ((k * (32 : Nat)) + (32 : Nat)) = ((k + (1 : Nat)) * (32 : Nat)) := (by first | rfl | exact wrap_succ (by omega) | omega | exact (tn2C (by omega)).trans (by omega) | (unfold tnM; omega))
  have h := Run.of_outTAt (B := ⟨w, rw, 2, β⟩) (Λ := noLam) (Ψ := noPsi) (fuel := 0) (ora := [true, false, false, false, false]) (c := (loopB Try.f36 0)) (st := (scFL_mk c m sz l N k s)) (l := [.swap 2 7, .forget [0, 1, 6, 10, 11, 12, 13, 14, 15, 16, 17, 18, 19, 20, 21] 3]) (s' := ⟨sparse 50 [(0, .o (.a (.ip 89 0 0))), (1, .o (.a (.i .i64 N))), (6, .o (.a (.rs 2 0 (k + (1 : Nat)) 32))), (10, .o (.a (.ip 89 0 0))), (11, .o (.a (.b false))), (12, .o (.a (.b false))), (13, .o (.a (.i .i64 N))), (14, .o (.a (.b (decide (N < (0 : Int)))))), (15, .o (.a (.b (decide (N < (0 : Int)))))), (16, .o (.a (.b (decide (N < (0 : Int)))))), (17, .o (.a (.i .i64 N))), (18, .o (.a (.b (decide (N > (65536 : Int)))))), (19, .o (.a (.b (decide (N > (65536 : Int)))))), (20, .o (.a (.i .i64 N))), (21, .o (.a (.i .i64 (IntKind.i64.wrap (((k : Nat) : Int) + (1 : Int))))))], [some ⟨true, [.rs 1 (tnC (tnC (c + ((64 : Nat) * k)) (m - ((2 : Nat) * k))) (tnM (m - ((2 : Nat) * k)))) (tnM (tnM (m - ((2 : Nat) * k)))) 32]⟩, some ⟨true, [.ints .u8 sz l]⟩, some ⟨true, [.ints .u8 ((k * (32 : Nat)) + (32 : Nat)) ((sub (scO c m l k) (0 : Nat) (k * (32 : Nat))) ++ (sub (V.B32 (V.modL (V.nbI (sub ((sub (tnV (c + ((64 : Nat) * k)) (m - ((2 : Nat) * k)) l) (0 : Nat) (32 : Nat)) ++ (sub (tnV (tnC (c + ((64 : Nat) * k)) (m - ((2 : Nat) * k))) (tnM (m - ((2 : Nat) * k))) l) (0 : Nat) (32 : Nat))) (0 : Nat) (64 : Nat))))) (0 : Nat) (32 : Nat)))]⟩]⟩) (ex := .normal) mix tabOkTC (gmeth_at (gam34_ok.at _ _) meth89)
    (vc := [((((0 : Nat) + (k * (32 : Nat))) ≤ (k * (32 : Nat))) ∧ (((1 : Nat) ≤ (1 : Nat)) ∧ ((32 : Nat) ≤ (32 : Nat))) ∧ (((k + (1 : Nat)) * (32 : Nat)) ≤ (140737488355328 : Nat))), ((((64 : Nat) ≤ (64 : Nat)) ∧ True) ∧ (((64 : Nat) = (64 : Nat)) ∧ ((64 : Nat) ≤ (140737488355328 : Nat)) ∧ (V.Byt (sub ((sub (tnV (c + ((64 : Nat) * k)) (m - ((2 : Nat) * k)) l) (0 : Nat) (32 : Nat)) ++ (sub (tnV (tnC (c + ((64 : Nat) * k)) (m - ((2 : Nat) * k))) (tnM (m - ((2 : Nat) * k))) l) (0 : Nat) (32 : Nat))) (0 : Nat) (64 : Nat))))), (((32 : Nat) ≤ (32 : Nat)) ∧ (((32 : Nat) ≤ (32 : Nat)) ∧ ((32 : Nat) ≤ (32 : Nat))) ∧ ((32 : Nat) < (64 : Nat)) ∧ ((64 : Nat) ≤ (140737488355328 : Nat))), (((0 : Int) ≤ (0 : Int)) ∧ ((0 : Int) ≤ (32 : Int))), (((0 : Int) ≤ (0 : Int)) ∧ ((0 : Int) ≤ (32 : Int))), (((tnE (tnM (m - ((2 : Nat) * k)))) != (0 : Int)) = false), ((True ∧ True) ∧ ((((tnC (c + ((64 : Nat) * k)) (m - ((2 : Nat) * k))) + ((tnM (m - ((2 : Nat) * k))) * (32 : Nat))) ≤ sz) ∧ ((tnM (m - ((2 : Nat) * k))) < (1099511627776 : Nat)))), (((tnE (m - ((2 : Nat) * k))) != (0 : Int)) = false), ((True ∧ True) ∧ ((((c + ((64 : Nat) * k)) + ((m - ((2 : Nat) * k)) * (32 : Nat))) ≤ sz) ∧ ((m - ((2 : Nat) * k)) < (1099511627776 : Nat)))), ((decide (((k : Nat) : Int) < N)) = true)]) (by kernel_rfl)
    (aC ⟨(by first | omega | (simp (disch := omega) only [wrapI]; omega)), ⟨(by decide), (by decide)⟩, (by first | omega | (simp (disch := omega) only [wrapI]; omega))⟩ (aC ⟨⟨(by decide), trivial⟩, ⟨rfl, (by decide), (V.byt_sub (byt_app (V.byt_sub (tnV_byt h2) _ _) (V.byt_sub (tnV_byt h2) _ _)) _ _)⟩⟩ (aC ⟨(by decide), ⟨(by decide), (by decide)⟩, (by decide), (by decide)⟩ (aC ⟨(by decide), (by decide)⟩ (aC ⟨(by decide), (by decide)⟩ (aC (tnE0 (by unfold tnM; omega)) (aC ⟨⟨trivial, trivial⟩, ⟨(by rw [tnC_pos (by omega)]; unfold tnM; omega), (by unfold tnM; omega)⟩⟩ (aC (tnE0 (by omega)) (aC ⟨⟨trivial, trivial⟩, ⟨(by first | omega | (simp (disch := omega) only [wrapI]; omega)), (by first | omega | (simp (disch := omega) only [wrapI]; omega))⟩⟩ (aC (decide_eq_true (by first | omega | (simp (disch := omega) only [wrapI]; omega))) (AllP_nil)))))))))))
  rw [e0, e1, e2, e3, e4] at h
  exact h

set_option maxHeartbeats 1000000 in
theorem scFL_last (c m sz : Nat) (l : List Int) (N : Int) (h0 : ((c + (m * (32 : Nat))) ≤ sz)) (h1 : (m < (1099511627776 : Nat))) (h2 : (V.Byt l)) (h3 : ((0 : Int) ≤ N)) (h4 : (N ≤ (65536 : Int))) (hl1_0 : List.length l = sz) (hc : 2 * N.toNat ≤ m) (w : World) (rw : List Nat) (β : Env) (s : Unit) : Run Try.prog ⟨w, rw, 2, β⟩ (loopB Try.f36 0) (scFL_mk c m sz l N (Int.toNat N) s) (To ⟨w, rw, 2, β⟩ (.exit 0) (scFL_mk c m sz l N (Int.toNat N) s)) :=
  Run.of_outTAt (B := ⟨w, rw, 2, β⟩) (Λ := noLam) (Ψ := noPsi) (fuel := 0) (ora := [false]) (l := [.forget [0, 1, 6, 10, 11, 12, 13, 14, 15, 16, 17, 18, 19, 20, 21] 3]) mix tabOkTC (gmeth_at (gam34_ok.at _ _) meth89)
    (vc := [((decide ((((Int.toNat N) : Nat) : Int) < N)) = false)]) (by kernel_rfl)
    (aC (decide_eq_false (by first | omega | (simp (disch := omega) only [wrapI]; omega))) (AllP_nil))

theorem scFL_loop (c m sz : Nat) (l : List Int) (N : Int) (h0 : ((c + (m * (32 : Nat))) ≤ sz)) (h1 : (m < (1099511627776 : Nat))) (h2 : (V.Byt l)) (h3 : ((0 : Int) ≤ N)) (h4 : (N ≤ (65536 : Int))) (hl1_0 : List.length l = sz) (hc : 2 * N.toNat ≤ m) (w : World) (rw : List Nat) (β : Env) (s : Unit) : Run Try.prog ⟨w, rw, 2, β⟩ (.block 0 (.loop (loopB Try.f36 0))) (scFL_mk c m sz l N 0 s) (To ⟨w, rw, 2, β⟩ .normal (scFL_mk c m sz l N (Int.toNat N) (iter (scFL_step) (Int.toNat N) s))) :=
  Run.count (fun k => scFL_mk c m sz l N k (iter (scFL_step) k s)) (Int.toNat N) (fun k hk => scFL_round c m sz l N h0 h1 h2 h3 h4 hl1_0 hc w rw β k hk _) (ex := (.exit 0)) (by simp) (scFL_last c m sz l N h0 h1 h2 h3 h4 hl1_0 hc w rw β _)

set_option maxHeartbeats 1000000 in
theorem scalF_body0 (c m sz : Nat) (l : List Int) (N : Int) (h0 : ((c + (m * (32 : Nat))) ≤ sz)) (h1 : (m < (1099511627776 : Nat))) (h2 : (V.Byt l)) (h3 : ((0 : Int) ≤ N)) (h4 : (N ≤ (65536 : Int))) (hl1_0 : List.length l = sz) (hc : 2 * N.toNat ≤ m) (w : World) (rw : List Nat) (β : Env) : Body Try.prog (tabOf tabTC) Try.f36 ⟨w, rw, 2, β⟩ [.o (.a (.ip 89 0 0)), .o (.a (.i .i64 N))] [some ⟨true, [.rs 1 c m 32]⟩, some ⟨true, [.ints .u8 sz l]⟩] (fun ys K' => ys = [.a (.rs 2 0 (scN N m) 32), .a (.i .i64 (scE N m))] ∧ K' = [some ⟨true, [.rs 1 (scC N c m) (scM N m) 32]⟩, some ⟨true, [.ints .u8 sz l]⟩, some ⟨true, [.ints .u8 (scZ N m) (scV N c m l)]⟩]) :=
  Body.of_finKAt (Γ := (gmeth 89 "Random" 32 gam34)) (Λ := lamOf [(0, ⟨[.rowS 6 .u8 32, .forget [0, 1, 6, 10, 11, 12, 13, 14, 15, 16, 17, 18, 19, 20, 21] 3], .normal, (scFL_mk c m sz l N (Int.toNat N) (iter (scFL_step) (Int.toNat N) ()))⟩)]) (Ψ := noPsi) (fuel := 0) (m := 50) (c := (Try.f36.body.getD .skip)) mix tabOkTC (gmeth_at (gam34_ok.at _ _) meth89) rfl (rs := [.tmp 4, .tmp 5]) rfl rfl [true, true, false, true, true, false, false] [.eqS 4 (.o (.a (.rs 2 0 (scN N m) 32))), .eqS 5 (.o (.a (.i .i64 (scE N m)))), .eqB 2 (⟨true, [.ints .u8 (scZ N m) (scV N c m l)]⟩), .eqB 0 (⟨true, [.rs 1 (scC N c m) (scM N m) 32]⟩)] 3
    (vc := [((some ⟨true, [.rs 1 (c + ((64 : Nat) * (Int.toNat N))) (m - ((2 : Nat) * (Int.toNat N))) 32]⟩ : Option Blk) = some ⟨true, [.rs 1 (scC N c m) (scM N m) 32]⟩), ((some ⟨true, [.ints .u8 ((Int.toNat N) * (32 : Nat)) (scO c m l (Int.toNat N))]⟩ : Option Blk) = some ⟨true, [.ints .u8 (scZ N m) (scV N c m l)]⟩), ((.o (.a (.i .i64 (0 : Int))) : AV) = .o (.a (.i .i64 (scE N m)))), ((.o (.a (.rs 2 0 (Int.toNat N) 32)) : AV) = .o (.a (.rs 2 0 (scN N m) 32))), (Run Try.prog ⟨w, rw, 2, β⟩ (.block 0 (.loop (loopB Try.f36 0))) (scFL_mk c m sz l N 0 ()) (To ⟨w, rw, 2, β⟩ .normal (scFL_mk c m sz l N (Int.toNat N) (iter (scFL_step) (Int.toNat N) ())))), ((decide (N > (65536 : Int))) = false), ((decide (N < (0 : Int))) = false), ((decide (N < (0 : Int))) = false), ((decide (N < (0 : Int))) = false), (false = false), (false = false), (false = false)]) (by kernel_rfl)
    (aC ((by unfold scC scM; rw [if_neg (show ¬ m / 2 < N.toNat by omega), if_neg (show ¬ m / 2 < N.toNat by omega)])) (aC ((by unfold scZ scV scN; rw [if_neg (show ¬ m / 2 < N.toNat by omega)])) (aC ((by unfold scE; rw [if_neg (show ¬ m / 2 < N.toNat by omega)])) (aC ((by unfold scN; rw [if_neg (show ¬ m / 2 < N.toNat by omega)])) (aC (scFL_loop c m sz l N h0 h1 h2 h3 h4 hl1_0 hc w rw β ()) (aC (decide_eq_false (by first | omega | (simp (disch := omega) only [wrapI]; omega))) (aC (decide_eq_false (by first | omega | (simp (disch := omega) only [wrapI]; omega))) (aC (decide_eq_false (by first | omega | (simp (disch := omega) only [wrapI]; omega))) (aC (decide_eq_false (by first | omega | (simp (disch := omega) only [wrapI]; omega))) (aC rfl (aC rfl (aC rfl (AllP_nil)))))))))))))

noncomputable def scAL_mk (c m sz : Nat) (l : List Int) (N : Int) (k : Nat) (s : Unit) : St := ⟨sparse 50 [(0, .o (.a (.ip 89 0 0))), (1, .o (.a (.i .i64 N))), (6, .o (.a (.rs 2 0 k 32))), (10, .o (.a (.ip 89 0 0))), (11, .o (.a (.b false))), (12, .o (.a (.b false))), (13, .o (.a (.i .i64 N))), (14, .o (.a (.b (decide (N < (0 : Int)))))), (15, .o (.a (.b (decide (N < (0 : Int)))))), (16, .o (.a (.b (decide (N < (0 : Int)))))), (17, .o (.a (.i .i64 N))), (18, .o (.a (.b (decide (N > (65536 : Int)))))), (19, .o (.a (.b (decide (N > (65536 : Int)))))), (20, .o (.a (.i .i64 N))), (21, .o (.a (.i .i64 ((k : Nat) : Int))))], [some ⟨true, [.rs 1 (c + ((64 : Nat) * k)) (m - ((2 : Nat) * k)) 32]⟩, some ⟨true, [.ints .u8 sz l]⟩, some ⟨true, [.ints .u8 (k * (32 : Nat)) (scO c m l k)]⟩]⟩

noncomputable def scAL_step (k : Nat) (s : Unit) : Unit :=
  ()

set_option maxHeartbeats 1000000 in
theorem scAL_round (c m sz : Nat) (l : List Int) (N : Int) (h0 : ((c + (m * (32 : Nat))) ≤ sz)) (h1 : (m < (1099511627776 : Nat))) (h2 : (V.Byt l)) (h3 : ((0 : Int) ≤ N)) (h4 : (N ≤ (65536 : Int))) (hl1_0 : List.length l = sz) (hc : m / 2 < N.toNat) (hd : m % 2 = 0) (w : World) (rw : List Nat) (β : Env) (k : Nat) (hk : k < (m / (2 : Nat))) (s : Unit) : Run Try.prog ⟨w, rw, 2, β⟩ (loopB Try.f36 0) (scAL_mk c m sz l N k s) (To ⟨w, rw, 2, β⟩ .normal (scAL_mk c m sz l N (k + 1) (scAL_step k s))) := by
  have e0 : ((sub (scO c m l k) (0 : Nat) (k * (32 : Nat))) ++ (sub (V.B32 (V.modL (V.nbI (sub ((sub (tnV (c + ((64 : Nat) * k)) (m - ((2 : Nat) * k)) l) (0 : Nat) (32 : Nat)) ++ (sub (tnV (tnC (c + ((64 : Nat) * k)) (m - ((2 : Nat) * k))) (tnM (m - ((2 : Nat) * k))) l) (0 : Nat) (32 : Nat))) (0 : Nat) (64 : Nat))))) (0 : Nat) (32 : Nat))) = (scO c m l (k + (1 : Nat))) := (by first | rfl | exact wrap_succ (by omega) | omega | exact (tn2C (by omega)).trans (by omega) | (unfold tnM; omega))
  have e1 : (tnC (tnC (c + ((64 : Nat) * k)) (m - ((2 : Nat) * k))) (tnM (m - ((2 : Nat) * k)))) = (c + ((64 : Nat) * (k + (1 : Nat)))) := (by first | rfl | exact wrap_succ (by omega) | omega | exact (tn2C (by omega)).trans (by omega) | (unfold tnM; omega))
  have e2 : (IntKind.i64.wrap (((k : Nat) : Int) + (1 : Int))) = (((k + (1 : Nat)) : Nat) : Int) := (by first | rfl | exact wrap_succ (by omega) | omega | exact (tn2C (by omega)).trans (by omega) | (unfold tnM; omega))
  have e3 : (tnM (tnM (m - ((2 : Nat) * k)))) = (m - ((2 : Nat) * (k + (1 : Nat)))) := (by first | rfl | exact wrap_succ (by omega) | omega | exact (tn2C (by omega)).trans (by omega) | (unfold tnM; omega))
  have e4 : ((k * (32 : Nat)) + (32 : Nat)) = ((k + (1 : Nat)) * (32 : Nat)) := (by first | rfl | exact wrap_succ (by omega) | omega | exact (tn2C (by omega)).trans (by omega) | (unfold tnM; omega))
  have h := Run.of_outTAt (B := ⟨w, rw, 2, β⟩) (Λ := noLam) (Ψ := noPsi) (fuel := 0) (ora := [true, false, false, false, false]) (c := (loopB Try.f36 0)) (st := (scAL_mk c m sz l N k s)) (l := [.swap 2 7, .forget [0, 1, 6, 10, 11, 12, 13, 14, 15, 16, 17, 18, 19, 20, 21] 3]) (s' := ⟨sparse 50 [(0, .o (.a (.ip 89 0 0))), (1, .o (.a (.i .i64 N))), (6, .o (.a (.rs 2 0 (k + (1 : Nat)) 32))), (10, .o (.a (.ip 89 0 0))), (11, .o (.a (.b false))), (12, .o (.a (.b false))), (13, .o (.a (.i .i64 N))), (14, .o (.a (.b (decide (N < (0 : Int)))))), (15, .o (.a (.b (decide (N < (0 : Int)))))), (16, .o (.a (.b (decide (N < (0 : Int)))))), (17, .o (.a (.i .i64 N))), (18, .o (.a (.b (decide (N > (65536 : Int)))))), (19, .o (.a (.b (decide (N > (65536 : Int)))))), (20, .o (.a (.i .i64 N))), (21, .o (.a (.i .i64 (IntKind.i64.wrap (((k : Nat) : Int) + (1 : Int))))))], [some ⟨true, [.rs 1 (tnC (tnC (c + ((64 : Nat) * k)) (m - ((2 : Nat) * k))) (tnM (m - ((2 : Nat) * k)))) (tnM (tnM (m - ((2 : Nat) * k)))) 32]⟩, some ⟨true, [.ints .u8 sz l]⟩, some ⟨true, [.ints .u8 ((k * (32 : Nat)) + (32 : Nat)) ((sub (scO c m l k) (0 : Nat) (k * (32 : Nat))) ++ (sub (V.B32 (V.modL (V.nbI (sub ((sub (tnV (c + ((64 : Nat) * k)) (m - ((2 : Nat) * k)) l) (0 : Nat) (32 : Nat)) ++ (sub (tnV (tnC (c + ((64 : Nat) * k)) (m - ((2 : Nat) * k))) (tnM (m - ((2 : Nat) * k))) l) (0 : Nat) (32 : Nat))) (0 : Nat) (64 : Nat))))) (0 : Nat) (32 : Nat)))]⟩]⟩) (ex := .normal) mix tabOkTC (gmeth_at (gam34_ok.at _ _) meth89)
    (vc := [((((0 : Nat) + (k * (32 : Nat))) ≤ (k * (32 : Nat))) ∧ (((1 : Nat) ≤ (1 : Nat)) ∧ ((32 : Nat) ≤ (32 : Nat))) ∧ (((k + (1 : Nat)) * (32 : Nat)) ≤ (140737488355328 : Nat))), ((((64 : Nat) ≤ (64 : Nat)) ∧ True) ∧ (((64 : Nat) = (64 : Nat)) ∧ ((64 : Nat) ≤ (140737488355328 : Nat)) ∧ (V.Byt (sub ((sub (tnV (c + ((64 : Nat) * k)) (m - ((2 : Nat) * k)) l) (0 : Nat) (32 : Nat)) ++ (sub (tnV (tnC (c + ((64 : Nat) * k)) (m - ((2 : Nat) * k))) (tnM (m - ((2 : Nat) * k))) l) (0 : Nat) (32 : Nat))) (0 : Nat) (64 : Nat))))), (((32 : Nat) ≤ (32 : Nat)) ∧ (((32 : Nat) ≤ (32 : Nat)) ∧ ((32 : Nat) ≤ (32 : Nat))) ∧ ((32 : Nat) < (64 : Nat)) ∧ ((64 : Nat) ≤ (140737488355328 : Nat))), (((0 : Int) ≤ (0 : Int)) ∧ ((0 : Int) ≤ (32 : Int))), (((0 : Int) ≤ (0 : Int)) ∧ ((0 : Int) ≤ (32 : Int))), (((tnE (tnM (m - ((2 : Nat) * k)))) != (0 : Int)) = false), ((True ∧ True) ∧ ((((tnC (c + ((64 : Nat) * k)) (m - ((2 : Nat) * k))) + ((tnM (m - ((2 : Nat) * k))) * (32 : Nat))) ≤ sz) ∧ ((tnM (m - ((2 : Nat) * k))) < (1099511627776 : Nat)))), (((tnE (m - ((2 : Nat) * k))) != (0 : Int)) = false), ((True ∧ True) ∧ ((((c + ((64 : Nat) * k)) + ((m - ((2 : Nat) * k)) * (32 : Nat))) ≤ sz) ∧ ((m - ((2 : Nat) * k)) < (1099511627776 : Nat)))), ((decide (((k : Nat) : Int) < N)) = true)]) (by kernel_rfl)
    (aC ⟨(by first | omega | (simp (disch := omega) only [wrapI]; omega)), ⟨(by decide), (by decide)⟩, (by first | omega | (simp (disch := omega) only [wrapI]; omega))⟩ (aC ⟨⟨(by decide), trivial⟩, ⟨rfl, (by decide), (V.byt_sub (byt_app (V.byt_sub (tnV_byt h2) _ _) (V.byt_sub (tnV_byt h2) _ _)) _ _)⟩⟩ (aC ⟨(by decide), ⟨(by decide), (by decide)⟩, (by decide), (by decide)⟩ (aC ⟨(by decide), (by decide)⟩ (aC ⟨(by decide), (by decide)⟩ (aC (tnE0 (by unfold tnM; omega)) (aC ⟨⟨trivial, trivial⟩, ⟨(by rw [tnC_pos (by omega)]; unfold tnM; omega), (by unfold tnM; omega)⟩⟩ (aC (tnE0 (by omega)) (aC ⟨⟨trivial, trivial⟩, ⟨(by first | omega | (simp (disch := omega) only [wrapI]; omega)), (by first | omega | (simp (disch := omega) only [wrapI]; omega))⟩⟩ (aC (decide_eq_true (by first | omega | (simp (disch := omega) only [wrapI]; omega))) (AllP_nil)))))))))))
  rw [e0, e1, e2, e3, e4] at h
  exact h

noncomputable def scAL_end (c m sz : Nat) (l : List Int) (N : Int) (s : Unit) : St := ⟨sparse 50 [(0, .o (.a (.ip 89 0 0))), (1, .o (.a (.i .i64 N))), (4, .o (.a (.rs 2 0 (m / (2 : Nat)) 32))), (5, .o (.a (.i .i64 (tnE (m - ((2 : Nat) * (m / (2 : Nat)))))))), (6, .o (.a (.rs 2 0 (m / (2 : Nat)) 32))), (10, .o (.a (.ip 89 0 0))), (11, .o (.a (.b false))), (12, .o (.a (.b false))), (13, .o (.a (.i .i64 N))), (14, .o (.a (.b (decide (N < (0 : Int)))))), (15, .o (.a (.b (decide (N < (0 : Int)))))), (16, .o (.a (.b (decide (N < (0 : Int)))))), (17, .o (.a (.i .i64 N))), (18, .o (.a (.b (decide (N > (65536 : Int)))))), (19, .o (.a (.b (decide (N > (65536 : Int)))))), (20, .o (.a (.i .i64 N))), (21, .o (.a (.i .i64 (((m / (2 : Nat)) : Nat) : Int))))], [some ⟨true, [.rs 1 (tnC (c + ((64 : Nat) * (m / (2 : Nat)))) (m - ((2 : Nat) * (m / (2 : Nat))))) (tnM (m - ((2 : Nat) * (m / (2 : Nat))))) 32]⟩, some ⟨true, [.ints .u8 sz l]⟩, some ⟨true, [.ints .u8 ((m / (2 : Nat)) * (32 : Nat)) (scO c m l (m / (2 : Nat)))]⟩]⟩

set_option maxHeartbeats 1000000 in
theorem scAL_last (c m sz : Nat) (l : List Int) (N : Int) (h0 : ((c + (m * (32 : Nat))) ≤ sz)) (h1 : (m < (1099511627776 : Nat))) (h2 : (V.Byt l)) (h3 : ((0 : Int) ≤ N)) (h4 : (N ≤ (65536 : Int))) (hl1_0 : List.length l = sz) (hc : m / 2 < N.toNat) (hd : m % 2 = 0) (w : World) (rw : List Nat) (β : Env) (s : Unit) : Run Try.prog ⟨w, rw, 2, β⟩ (loopB Try.f36 0) (scAL_mk c m sz l N (m / (2 : Nat)) s) (To ⟨w, rw, 2, β⟩ .ret (scAL_end c m sz l N s)) :=
  Run.of_outTAt (B := ⟨w, rw, 2, β⟩) (Λ := noLam) (Ψ := noPsi) (fuel := 0) (ora := [true, true]) (l := [.forget [0, 1, 4, 5, 6, 10, 11, 12, 13, 14, 15, 16, 17, 18, 19, 20, 21] 3]) mix tabOkTC (gmeth_at (gam34_ok.at _ _) meth89)
    (vc := [(((tnE (m - ((2 : Nat) * (m / (2 : Nat))))) != (0 : Int)) = true), ((True ∧ True) ∧ ((((c + ((64 : Nat) * (m / (2 : Nat)))) + ((m - ((2 : Nat) * (m / (2 : Nat)))) * (32 : Nat))) ≤ sz) ∧ ((m - ((2 : Nat) * (m / (2 : Nat)))) < (1099511627776 : Nat)))), ((decide ((((m / (2 : Nat)) : Nat) : Int) < N)) = true)]) (by kernel_rfl)
    (aC (scE_a hd) (aC ⟨⟨trivial, trivial⟩, ⟨(by first | omega | (simp (disch := omega) only [wrapI]; omega)), (by first | omega | (simp (disch := omega) only [wrapI]; omega))⟩⟩ (aC (decide_eq_true (by first | omega | (simp (disch := omega) only [wrapI]; omega))) (AllP_nil))))

theorem scAL_loop (c m sz : Nat) (l : List Int) (N : Int) (h0 : ((c + (m * (32 : Nat))) ≤ sz)) (h1 : (m < (1099511627776 : Nat))) (h2 : (V.Byt l)) (h3 : ((0 : Int) ≤ N)) (h4 : (N ≤ (65536 : Int))) (hl1_0 : List.length l = sz) (hc : m / 2 < N.toNat) (hd : m % 2 = 0) (w : World) (rw : List Nat) (β : Env) (s : Unit) : Run Try.prog ⟨w, rw, 2, β⟩ (.block 0 (.loop (loopB Try.f36 0))) (scAL_mk c m sz l N 0 s) (To ⟨w, rw, 2, β⟩ .ret (scAL_end c m sz l N (iter (scAL_step) (m / (2 : Nat)) s))) :=
  Run.count (fun k => scAL_mk c m sz l N k (iter (scAL_step) k s)) (m / (2 : Nat)) (fun k hk => scAL_round c m sz l N h0 h1 h2 h3 h4 hl1_0 hc hd w rw β k hk _) (ex := .ret) (by simp) (scAL_last c m sz l N h0 h1 h2 h3 h4 hl1_0 hc hd w rw β _)

set_option maxHeartbeats 1000000 in
theorem scalA_body0 (c m sz : Nat) (l : List Int) (N : Int) (h0 : ((c + (m * (32 : Nat))) ≤ sz)) (h1 : (m < (1099511627776 : Nat))) (h2 : (V.Byt l)) (h3 : ((0 : Int) ≤ N)) (h4 : (N ≤ (65536 : Int))) (hl1_0 : List.length l = sz) (hc : m / 2 < N.toNat) (hd : m % 2 = 0) (w : World) (rw : List Nat) (β : Env) : Body Try.prog (tabOf tabTC) Try.f36 ⟨w, rw, 2, β⟩ [.o (.a (.ip 89 0 0)), .o (.a (.i .i64 N))] [some ⟨true, [.rs 1 c m 32]⟩, some ⟨true, [.ints .u8 sz l]⟩] (fun ys K' => ys = [.a (.rs 2 0 (scN N m) 32), .a (.i .i64 (scE N m))] ∧ K' = [some ⟨true, [.rs 1 (scC N c m) (scM N m) 32]⟩, some ⟨true, [.ints .u8 sz l]⟩, some ⟨true, [.ints .u8 (scZ N m) (scV N c m l)]⟩]) :=
  Body.of_finKAt (Γ := (gmeth 89 "Random" 32 gam34)) (Λ := lamOf [(0, ⟨[.rowS 6 .u8 32, .forget [0, 1, 6, 10, 11, 12, 13, 14, 15, 16, 17, 18, 19, 20, 21] 3], .ret, (scAL_end c m sz l N (iter (scAL_step) (m / (2 : Nat)) ()))⟩)]) (Ψ := noPsi) (fuel := 0) (m := 50) (c := (Try.f36.body.getD .skip)) mix tabOkTC (gmeth_at (gam34_ok.at _ _) meth89) rfl (rs := [.tmp 4, .tmp 5]) rfl rfl [true, true, false, true, true, false, false] [.eqS 4 (.o (.a (.rs 2 0 (scN N m) 32))), .eqS 5 (.o (.a (.i .i64 (scE N m)))), .eqB 2 (⟨true, [.ints .u8 (scZ N m) (scV N c m l)]⟩), .eqB 0 (⟨true, [.rs 1 (scC N c m) (scM N m) 32]⟩)] 3
    (vc := [((some ⟨true, [.rs 1 (tnC (c + ((64 : Nat) * (m / (2 : Nat)))) (m - ((2 : Nat) * (m / (2 : Nat))))) (tnM (m - ((2 : Nat) * (m / (2 : Nat))))) 32]⟩ : Option Blk) = some ⟨true, [.rs 1 (scC N c m) (scM N m) 32]⟩), ((some ⟨true, [.ints .u8 ((m / (2 : Nat)) * (32 : Nat)) (scO c m l (m / (2 : Nat)))]⟩ : Option Blk) = some ⟨true, [.ints .u8 (scZ N m) (scV N c m l)]⟩), ((.o (.a (.i .i64 (tnE (m - ((2 : Nat) * (m / (2 : Nat))))))) : AV) = .o (.a (.i .i64 (scE N m)))), ((.o (.a (.rs 2 0 (m / (2 : Nat)) 32)) : AV) = .o (.a (.rs 2 0 (scN N m) 32))), (Run Try.prog ⟨w, rw, 2, β⟩ (.block 0 (.loop (loopB Try.f36 0))) (scAL_mk c m sz l N 0 ()) (To ⟨w, rw, 2, β⟩ .ret (scAL_end c m sz l N (iter (scAL_step) (m / (2 : Nat)) ())))), ((decide (N > (65536 : Int))) = false), ((decide (N < (0 : Int))) = false), ((decide (N < (0 : Int))) = false), ((decide (N < (0 : Int))) = false), (false = false), (false = false), (false = false)]) (by kernel_rfl)
    (aC ((by unfold scC scM; rw [if_pos hc, if_pos hc, scC_a hd, scM_a hd])) (aC ((by unfold scZ scV scN; rw [if_pos hc])) (aC ((by unfold scE; rw [if_pos hc, scEE_a hd])) (aC ((by unfold scN; rw [if_pos hc])) (aC (scAL_loop c m sz l N h0 h1 h2 h3 h4 hl1_0 hc hd w rw β ()) (aC (decide_eq_false (by first | omega | (simp (disch := omega) only [wrapI]; omega))) (aC (decide_eq_false (by first | omega | (simp (disch := omega) only [wrapI]; omega))) (aC (decide_eq_false (by first | omega | (simp (disch := omega) only [wrapI]; omega))) (aC (decide_eq_false (by first | omega | (simp (disch := omega) only [wrapI]; omega))) (aC rfl (aC rfl (aC rfl (AllP_nil)))))))))))))

noncomputable def scBL_mk (c m sz : Nat) (l : List Int) (N : Int) (k : Nat) (s : Unit) : St := ⟨sparse 50 [(0, .o (.a (.ip 89 0 0))), (1, .o (.a (.i .i64 N))), (6, .o (.a (.rs 2 0 k 32))), (10, .o (.a (.ip 89 0 0))), (11, .o (.a (.b false))), (12, .o (.a (.b false))), (13, .o (.a (.i .i64 N))), (14, .o (.a (.b (decide (N < (0 : Int)))))), (15, .o (.a (.b (decide (N < (0 : Int)))))), (16, .o (.a (.b (decide (N < (0 : Int)))))), (17, .o (.a (.i .i64 N))), (18, .o (.a (.b (decide (N > (65536 : Int)))))), (19, .o (.a (.b (decide (N > (65536 : Int)))))), (20, .o (.a (.i .i64 N))), (21, .o (.a (.i .i64 ((k : Nat) : Int))))], [some ⟨true, [.rs 1 (c + ((64 : Nat) * k)) (m - ((2 : Nat) * k)) 32]⟩, some ⟨true, [.ints .u8 sz l]⟩, some ⟨true, [.ints .u8 (k * (32 : Nat)) (scO c m l k)]⟩]⟩

noncomputable def scBL_step (k : Nat) (s : Unit) : Unit :=
  ()

set_option maxHeartbeats 1000000 in
theorem scBL_round (c m sz : Nat) (l : List Int) (N : Int) (h0 : ((c + (m * (32 : Nat))) ≤ sz)) (h1 : (m < (1099511627776 : Nat))) (h2 : (V.Byt l)) (h3 : ((0 : Int) ≤ N)) (h4 : (N ≤ (65536 : Int))) (hl1_0 : List.length l = sz) (hc : m / 2 < N.toNat) (hd : m % 2 = 1) (w : World) (rw : List Nat) (β : Env) (k : Nat) (hk : k < (m / (2 : Nat))) (s : Unit) : Run Try.prog ⟨w, rw, 2, β⟩ (loopB Try.f36 0) (scBL_mk c m sz l N k s) (To ⟨w, rw, 2, β⟩ .normal (scBL_mk c m sz l N (k + 1) (scBL_step k s))) := by
  have e0 : ((sub (scO c m l k) (0 : Nat) (k * (32 : Nat))) ++ (sub (V.B32 (V.modL (V.nbI (sub ((sub (tnV (c + ((64 : Nat) * k)) (m - ((2 : Nat) * k)) l) (0 : Nat) (32 : Nat)) ++ (sub (tnV (tnC (c + ((64 : Nat) * k)) (m - ((2 : Nat) * k))) (tnM (m - ((2 : Nat) * k))) l) (0 : Nat) (32 : Nat))) (0 : Nat) (64 : Nat))))) (0 : Nat) (32 : Nat))) = (scO c m l (k + (1 : Nat))) := (by first | rfl | exact wrap_succ (by omega) | omega | exact (tn2C (by omega)).trans (by omega) | (unfold tnM; omega))
  have e1 : (tnC (tnC (c + ((64 : Nat) * k)) (m - ((2 : Nat) * k))) (tnM (m - ((2 : Nat) * k)))) = (c + ((64 : Nat) * (k + (1 : Nat)))) := (by first | rfl | exact wrap_succ (by omega) | omega | exact (tn2C (by omega)).trans (by omega) | (unfold tnM; omega))
  have e2 : (IntKind.i64.wrap (((k : Nat) : Int) + (1 : Int))) = (((k + (1 : Nat)) : Nat) : Int) := (by first | rfl | exact wrap_succ (by omega) | omega | exact (tn2C (by omega)).trans (by omega) | (unfold tnM; omega))
  have e3 : (tnM (tnM (m - ((2 : Nat) * k)))) = (m - ((2 : Nat) * (k + (1 : Nat)))) := (by first | rfl | exact wrap_succ (by omega) | omega | exact (tn2C (by omega)).trans (by omega) | (unfold tnM; omega))
  have e4 : ((k * (32 : Nat)) + (32 : Nat)) = ((k + (1 : Nat)) * (32 : Nat)) := (by first | rfl | exact wrap_succ (by omega) | omega | exact (tn2C (by omega)).trans (by omega) | (unfold tnM; omega))
  have h := Run.of_outTAt (B := ⟨w, rw, 2, β⟩) (Λ := noLam) (Ψ := noPsi) (fuel := 0) (ora := [true, false, false, false, false]) (c := (loopB Try.f36 0)) (st := (scBL_mk c m sz l N k s)) (l := [.swap 2 7, .forget [0, 1, 6, 10, 11, 12, 13, 14, 15, 16, 17, 18, 19, 20, 21] 3]) (s' := ⟨sparse 50 [(0, .o (.a (.ip 89 0 0))), (1, .o (.a (.i .i64 N))), (6, .o (.a (.rs 2 0 (k + (1 : Nat)) 32))), (10, .o (.a (.ip 89 0 0))), (11, .o (.a (.b false))), (12, .o (.a (.b false))), (13, .o (.a (.i .i64 N))), (14, .o (.a (.b (decide (N < (0 : Int)))))), (15, .o (.a (.b (decide (N < (0 : Int)))))), (16, .o (.a (.b (decide (N < (0 : Int)))))), (17, .o (.a (.i .i64 N))), (18, .o (.a (.b (decide (N > (65536 : Int)))))), (19, .o (.a (.b (decide (N > (65536 : Int)))))), (20, .o (.a (.i .i64 N))), (21, .o (.a (.i .i64 (IntKind.i64.wrap (((k : Nat) : Int) + (1 : Int))))))], [some ⟨true, [.rs 1 (tnC (tnC (c + ((64 : Nat) * k)) (m - ((2 : Nat) * k))) (tnM (m - ((2 : Nat) * k)))) (tnM (tnM (m - ((2 : Nat) * k)))) 32]⟩, some ⟨true, [.ints .u8 sz l]⟩, some ⟨true, [.ints .u8 ((k * (32 : Nat)) + (32 : Nat)) ((sub (scO c m l k) (0 : Nat) (k * (32 : Nat))) ++ (sub (V.B32 (V.modL (V.nbI (sub ((sub (tnV (c + ((64 : Nat) * k)) (m - ((2 : Nat) * k)) l) (0 : Nat) (32 : Nat)) ++ (sub (tnV (tnC (c + ((64 : Nat) * k)) (m - ((2 : Nat) * k))) (tnM (m - ((2 : Nat) * k))) l) (0 : Nat) (32 : Nat))) (0 : Nat) (64 : Nat))))) (0 : Nat) (32 : Nat)))]⟩]⟩) (ex := .normal) mix tabOkTC (gmeth_at (gam34_ok.at _ _) meth89)
    (vc := [((((0 : Nat) + (k * (32 : Nat))) ≤ (k * (32 : Nat))) ∧ (((1 : Nat) ≤ (1 : Nat)) ∧ ((32 : Nat) ≤ (32 : Nat))) ∧ (((k + (1 : Nat)) * (32 : Nat)) ≤ (140737488355328 : Nat))), ((((64 : Nat) ≤ (64 : Nat)) ∧ True) ∧ (((64 : Nat) = (64 : Nat)) ∧ ((64 : Nat) ≤ (140737488355328 : Nat)) ∧ (V.Byt (sub ((sub (tnV (c + ((64 : Nat) * k)) (m - ((2 : Nat) * k)) l) (0 : Nat) (32 : Nat)) ++ (sub (tnV (tnC (c + ((64 : Nat) * k)) (m - ((2 : Nat) * k))) (tnM (m - ((2 : Nat) * k))) l) (0 : Nat) (32 : Nat))) (0 : Nat) (64 : Nat))))), (((32 : Nat) ≤ (32 : Nat)) ∧ (((32 : Nat) ≤ (32 : Nat)) ∧ ((32 : Nat) ≤ (32 : Nat))) ∧ ((32 : Nat) < (64 : Nat)) ∧ ((64 : Nat) ≤ (140737488355328 : Nat))), (((0 : Int) ≤ (0 : Int)) ∧ ((0 : Int) ≤ (32 : Int))), (((0 : Int) ≤ (0 : Int)) ∧ ((0 : Int) ≤ (32 : Int))), (((tnE (tnM (m - ((2 : Nat) * k)))) != (0 : Int)) = false), ((True ∧ True) ∧ ((((tnC (c + ((64 : Nat) * k)) (m - ((2 : Nat) * k))) + ((tnM (m - ((2 : Nat) * k))) * (32 : Nat))) ≤ sz) ∧ ((tnM (m - ((2 : Nat) * k))) < (1099511627776 : Nat)))), (((tnE (m - ((2 : Nat) * k))) != (0 : Int)) = false), ((True ∧ True) ∧ ((((c + ((64 : Nat) * k)) + ((m - ((2 : Nat) * k)) * (32 : Nat))) ≤ sz) ∧ ((m - ((2 : Nat) * k)) < (1099511627776 : Nat)))), ((decide (((k : Nat) : Int) < N)) = true)]) (by kernel_rfl)
    (aC ⟨(by first | omega | (simp (disch := omega) only [wrapI]; omega)), ⟨(by decide), (by decide)⟩, (by first | omega | (simp (disch := omega) only [wrapI]; omega))⟩ (aC ⟨⟨(by decide), trivial⟩, ⟨rfl, (by decide), (V.byt_sub (byt_app (V.byt_sub (tnV_byt h2) _ _) (V.byt_sub (tnV_byt h2) _ _)) _ _)⟩⟩ (aC ⟨(by decide), ⟨(by decide), (by decide)⟩, (by decide), (by decide)⟩ (aC ⟨(by decide), (by decide)⟩ (aC ⟨(by decide), (by decide)⟩ (aC (tnE0 (by unfold tnM; omega)) (aC ⟨⟨trivial, trivial⟩, ⟨(by rw [tnC_pos (by omega)]; unfold tnM; omega), (by unfold tnM; omega)⟩⟩ (aC (tnE0 (by omega)) (aC ⟨⟨trivial, trivial⟩, ⟨(by first | omega | (simp (disch := omega) only [wrapI]; omega)), (by first | omega | (simp (disch := omega) only [wrapI]; omega))⟩⟩ (aC (decide_eq_true (by first | omega | (simp (disch := omega) only [wrapI]; omega))) (AllP_nil)))))))))))
  rw [e0, e1, e2, e3, e4] at h
  exact h

noncomputable def scBL_end (c m sz : Nat) (l : List Int) (N : Int) (s : Unit) : St := ⟨sparse 50 [(0, .o (.a (.ip 89 0 0))), (1, .o (.a (.i .i64 N))), (4, .o (.a (.rs 2 0 (m / (2 : Nat)) 32))), (5, .o (.a (.i .i64 (tnE (tnM (m - ((2 : Nat) * (m / (2 : Nat))))))))), (6, .o (.a (.rs 2 0 (m / (2 : Nat)) 32))), (10, .o (.a (.ip 89 0 0))), (11, .o (.a (.b false))), (12, .o (.a (.b false))), (13, .o (.a (.i .i64 N))), (14, .o (.a (.b (decide (N < (0 : Int)))))), (15, .o (.a (.b (decide (N < (0 : Int)))))), (16, .o (.a (.b (decide (N < (0 : Int)))))), (17, .o (.a (.i .i64 N))), (18, .o (.a (.b (decide (N > (65536 : Int)))))), (19, .o (.a (.b (decide (N > (65536 : Int)))))), (20, .o (.a (.i .i64 N))), (21, .o (.a (.i .i64 (((m / (2 : Nat)) : Nat) : Int))))], [some ⟨true, [.rs 1 (tnC (tnC (c + ((64 : Nat) * (m / (2 : Nat)))) (m - ((2 : Nat) * (m / (2 : Nat))))) (tnM (m - ((2 : Nat) * (m / (2 : Nat)))))) (tnM (tnM (m - ((2 : Nat) * (m / (2 : Nat)))))) 32]⟩, some ⟨true, [.ints .u8 sz l]⟩, some ⟨true, [.ints .u8 ((m / (2 : Nat)) * (32 : Nat)) (scO c m l (m / (2 : Nat)))]⟩]⟩

set_option maxHeartbeats 1000000 in
theorem scBL_last (c m sz : Nat) (l : List Int) (N : Int) (h0 : ((c + (m * (32 : Nat))) ≤ sz)) (h1 : (m < (1099511627776 : Nat))) (h2 : (V.Byt l)) (h3 : ((0 : Int) ≤ N)) (h4 : (N ≤ (65536 : Int))) (hl1_0 : List.length l = sz) (hc : m / 2 < N.toNat) (hd : m % 2 = 1) (w : World) (rw : List Nat) (β : Env) (s : Unit) : Run Try.prog ⟨w, rw, 2, β⟩ (loopB Try.f36 0) (scBL_mk c m sz l N (m / (2 : Nat)) s) (To ⟨w, rw, 2, β⟩ .ret (scBL_end c m sz l N s)) :=
  Run.of_outTAt (B := ⟨w, rw, 2, β⟩) (Λ := noLam) (Ψ := noPsi) (fuel := 0) (ora := [true, false, true]) (l := [.forget [0, 1, 4, 5, 6, 10, 11, 12, 13, 14, 15, 16, 17, 18, 19, 20, 21] 3]) mix tabOkTC (gmeth_at (gam34_ok.at _ _) meth89)
    (vc := [(((tnE (tnM (m - ((2 : Nat) * (m / (2 : Nat)))))) != (0 : Int)) = true), ((True ∧ True) ∧ ((((tnC (c + ((64 : Nat) * (m / (2 : Nat)))) (m - ((2 : Nat) * (m / (2 : Nat))))) + ((tnM (m - ((2 : Nat) * (m / (2 : Nat))))) * (32 : Nat))) ≤ sz) ∧ ((tnM (m - ((2 : Nat) * (m / (2 : Nat))))) < (1099511627776 : Nat)))), (((tnE (m - ((2 : Nat) * (m / (2 : Nat))))) != (0 : Int)) = false), ((True ∧ True) ∧ ((((c + ((64 : Nat) * (m / (2 : Nat)))) + ((m - ((2 : Nat) * (m / (2 : Nat)))) * (32 : Nat))) ≤ sz) ∧ ((m - ((2 : Nat) * (m / (2 : Nat)))) < (1099511627776 : Nat)))), ((decide ((((m / (2 : Nat)) : Nat) : Int) < N)) = true)]) (by kernel_rfl)
    (aC (scE_b hd) (aC ⟨⟨trivial, trivial⟩, ⟨(by rw [tnC_pos (by omega)]; unfold tnM; omega), (by unfold tnM; omega)⟩⟩ (aC (tnE0 (by omega)) (aC ⟨⟨trivial, trivial⟩, ⟨(by first | omega | (simp (disch := omega) only [wrapI]; omega)), (by first | omega | (simp (disch := omega) only [wrapI]; omega))⟩⟩ (aC (decide_eq_true (by first | omega | (simp (disch := omega) only [wrapI]; omega))) (AllP_nil))))))

theorem scBL_loop (c m sz : Nat) (l : List Int) (N : Int) (h0 : ((c + (m * (32 : Nat))) ≤ sz)) (h1 : (m < (1099511627776 : Nat))) (h2 : (V.Byt l)) (h3 : ((0 : Int) ≤ N)) (h4 : (N ≤ (65536 : Int))) (hl1_0 : List.length l = sz) (hc : m / 2 < N.toNat) (hd : m % 2 = 1) (w : World) (rw : List Nat) (β : Env) (s : Unit) : Run Try.prog ⟨w, rw, 2, β⟩ (.block 0 (.loop (loopB Try.f36 0))) (scBL_mk c m sz l N 0 s) (To ⟨w, rw, 2, β⟩ .ret (scBL_end c m sz l N (iter (scBL_step) (m / (2 : Nat)) s))) :=
  Run.count (fun k => scBL_mk c m sz l N k (iter (scBL_step) k s)) (m / (2 : Nat)) (fun k hk => scBL_round c m sz l N h0 h1 h2 h3 h4 hl1_0 hc hd w rw β k hk _) (ex := .ret) (by simp) (scBL_last c m sz l N h0 h1 h2 h3 h4 hl1_0 hc hd w rw β _)

set_option maxHeartbeats 1000000 in
theorem scalB_body0 (c m sz : Nat) (l : List Int) (N : Int) (h0 : ((c + (m * (32 : Nat))) ≤ sz)) (h1 : (m < (1099511627776 : Nat))) (h2 : (V.Byt l)) (h3 : ((0 : Int) ≤ N)) (h4 : (N ≤ (65536 : Int))) (hl1_0 : List.length l = sz) (hc : m / 2 < N.toNat) (hd : m % 2 = 1) (w : World) (rw : List Nat) (β : Env) : Body Try.prog (tabOf tabTC) Try.f36 ⟨w, rw, 2, β⟩ [.o (.a (.ip 89 0 0)), .o (.a (.i .i64 N))] [some ⟨true, [.rs 1 c m 32]⟩, some ⟨true, [.ints .u8 sz l]⟩] (fun ys K' => ys = [.a (.rs 2 0 (scN N m) 32), .a (.i .i64 (scE N m))] ∧ K' = [some ⟨true, [.rs 1 (scC N c m) (scM N m) 32]⟩, some ⟨true, [.ints .u8 sz l]⟩, some ⟨true, [.ints .u8 (scZ N m) (scV N c m l)]⟩]) :=
  Body.of_finKAt (Γ := (gmeth 89 "Random" 32 gam34)) (Λ := lamOf [(0, ⟨[.rowS 6 .u8 32, .forget [0, 1, 6, 10, 11, 12, 13, 14, 15, 16, 17, 18, 19, 20, 21] 3], .ret, (scBL_end c m sz l N (iter (scBL_step) (m / (2 : Nat)) ()))⟩)]) (Ψ := noPsi) (fuel := 0) (m := 50) (c := (Try.f36.body.getD .skip)) mix tabOkTC (gmeth_at (gam34_ok.at _ _) meth89) rfl (rs := [.tmp 4, .tmp 5]) rfl rfl [true, true, false, true, true, false, false] [.eqS 4 (.o (.a (.rs 2 0 (scN N m) 32))), .eqS 5 (.o (.a (.i .i64 (scE N m)))), .eqB 2 (⟨true, [.ints .u8 (scZ N m) (scV N c m l)]⟩), .eqB 0 (⟨true, [.rs 1 (scC N c m) (scM N m) 32]⟩)] 3
    (vc := [((some ⟨true, [.rs 1 (tnC (tnC (c + ((64 : Nat) * (m / (2 : Nat)))) (m - ((2 : Nat) * (m / (2 : Nat))))) (tnM (m - ((2 : Nat) * (m / (2 : Nat)))))) (tnM (tnM (m - ((2 : Nat) * (m / (2 : Nat)))))) 32]⟩ : Option Blk) = some ⟨true, [.rs 1 (scC N c m) (scM N m) 32]⟩), ((some ⟨true, [.ints .u8 ((m / (2 : Nat)) * (32 : Nat)) (scO c m l (m / (2 : Nat)))]⟩ : Option Blk) = some ⟨true, [.ints .u8 (scZ N m) (scV N c m l)]⟩), ((.o (.a (.i .i64 (tnE (tnM (m - ((2 : Nat) * (m / (2 : Nat)))))))) : AV) = .o (.a (.i .i64 (scE N m)))), ((.o (.a (.rs 2 0 (m / (2 : Nat)) 32)) : AV) = .o (.a (.rs 2 0 (scN N m) 32))), (Run Try.prog ⟨w, rw, 2, β⟩ (.block 0 (.loop (loopB Try.f36 0))) (scBL_mk c m sz l N 0 ()) (To ⟨w, rw, 2, β⟩ .ret (scBL_end c m sz l N (iter (scBL_step) (m / (2 : Nat)) ())))), ((decide (N > (65536 : Int))) = false), ((decide (N < (0 : Int))) = false), ((decide (N < (0 : Int))) = false), ((decide (N < (0 : Int))) = false), (false = false), (false = false), (false = false)]) (by kernel_rfl)
    (aC ((by unfold scC scM; rw [if_pos hc, if_pos hc, scC_b hd, scM_b hd])) (aC ((by unfold scZ scV scN; rw [if_pos hc])) (aC ((by unfold scE; rw [if_pos hc, scEE_b hd])) (aC ((by unfold scN; rw [if_pos hc])) (aC (scBL_loop c m sz l N h0 h1 h2 h3 h4 hl1_0 hc hd w rw β ()) (aC (decide_eq_false (by first | omega | (simp (disch := omega) only [wrapI]; omega))) (aC (decide_eq_false (by first | omega | (simp (disch := omega) only [wrapI]; omega))) (aC (decide_eq_false (by first | omega | (simp (disch := omega) only [wrapI]; omega))) (aC (decide_eq_false (by first | omega | (simp (disch := omega) only [wrapI]; omega))) (aC rfl (aC rfl (aC rfl (AllP_nil)))))))))))))

theorem scal_body (c m sz : Nat) (l : List Int) (N : Int) (h0 : ((c + (m * (32 : Nat))) ≤ sz)) (h1 : (m < (1099511627776 : Nat))) (h2 : (V.Byt l)) (h3 : ((0 : Int) ≤ N)) (h4 : (N ≤ (65536 : Int))) (w : World) (rw : List Nat) (β : Env) : Body Try.prog (tabOf tabTC) Try.f36 ⟨w, rw, 2, β⟩ [.o (.a (.ip 89 0 0)), .o (.a (.i .i64 N))] [some ⟨true, [.rs 1 c m 32]⟩, some ⟨true, [.ints .u8 sz l]⟩] (fun ys K' => ys = [.a (.rs 2 0 (scN N m) 32), .a (.i .i64 (scE N m))] ∧ K' = [some ⟨true, [.rs 1 (scC N c m) (scM N m) 32]⟩, some ⟨true, [.ints .u8 sz l]⟩, some ⟨true, [.ints .u8 (scZ N m) (scV N c m l)]⟩]) :=
  Body.lens (c := (Try.f36.body.getD .skip)) rfl fun h => by
  by_cases hc : m / 2 < N.toNat
  · by_cases hd : m % 2 = 0
    · exact scalA_body0 c m sz l N h0 h1 h2 h3 h4 (h.lens 1 _ .u8 sz l rfl (by simp)) hc hd w rw β
    · exact scalB_body0 c m sz l N h0 h1 h2 h3 h4 (h.lens 1 _ .u8 sz l rfl (by simp)) hc (by omega) w rw β
  · exact scalF_body0 c m sz l N h0 h1 h2 h3 h4 (h.lens 1 _ .u8 sz l rfl (by simp)) (by omega) w rw β

end Go.Proofs.Ytlmdhjojinkdbaa.X

/- Printed by a tool of this session. -/
namespace Go.Proofs.Ytlmdhjojinkdbaa.X
open Go Go.Proofs
set_option linter.unusedVariables false
set_option linter.unusedSimpArgs false
set_option maxRecDepth 100000
theorem teTD_5 : TEOk Try.prog 5 ⟨.int .u8, 1, 1, [.i .u8 (0 : Int)], false⟩ :=
  TEOk.of Try.underlying5 (i := Try.t5) (by kernel_rfl) rfl rfl rfl (by kernel_rfl) (fun h => by cases h) (by kernel_rfl)
theorem teTD_22 : TEOk Try.prog 22 ⟨.slice 5, 1, 24, [.raw (.slice none 0 0)], false⟩ :=
  TEOk.of Try.underlying22 (i := Try.t22) (by kernel_rfl) rfl rfl rfl (by kernel_rfl) (fun h => by cases h) (by kernel_rfl)
theorem teTD_72 : TEOk Try.prog 72 ⟨.array 32 5, 32, 32, [.ints .u8 (32 : Nat) ([0, 0, 0, 0, 0, 0, 0, 0, 0, 0, 0, 0, 0, 0, 0, 0, 0, 0, 0, 0, 0, 0, 0, 0, 0, 0, 0, 0, 0, 0, 0, 0] : List Int)], true⟩ :=
  TEOk.of Try.underlying72 (i := Try.t72) (by kernel_rfl) rfl rfl rfl (by kernel_rfl) (fun _ => Try.eqGuardType72) (by kernel_rfl)
theorem teTD_98 : TEOk Try.prog 98 ⟨.array 32 5, 32, 32, [.ints .u8 (32 : Nat) ([0, 0, 0, 0, 0, 0, 0, 0, 0, 0, 0, 0, 0, 0, 0, 0, 0, 0, 0, 0, 0, 0, 0, 0, 0, 0, 0, 0, 0, 0, 0, 0] : List Int)], true⟩ :=
  TEOk.of Try.underlying98 (i := Try.t98) (by kernel_rfl) rfl rfl rfl (by kernel_rfl) (fun _ => Try.eqGuardType98) (by kernel_rfl)
theorem teTD_142 : TEOk Try.prog 142 ⟨Try.t141.desc, 1, 16, [.raw .nilIface], false⟩ :=
  TEOk.of Try.underlying142 (i := Try.t142) (by kernel_rfl) rfl rfl rfl (by kernel_rfl) (fun h => by cases h) (by kernel_rfl)
noncomputable def tabTD : List (Nat × TE) := [(5, ⟨.int .u8, 1, 1, [.i .u8 (0 : Int)], false⟩), (22, ⟨.slice 5, 1, 24, [.raw (.slice none 0 0)], false⟩), (72, ⟨.array 32 5, 32, 32, [.ints .u8 (32 : Nat) ([0, 0, 0, 0, 0, 0, 0, 0, 0, 0, 0, 0, 0, 0, 0, 0, 0, 0, 0, 0, 0, 0, 0, 0, 0, 0, 0, 0, 0, 0, 0, 0] : List Int)], true⟩), (98, ⟨.array 32 5, 32, 32, [.ints .u8 (32 : Nat) ([0, 0, 0, 0, 0, 0, 0, 0, 0, 0, 0, 0, 0, 0, 0, 0, 0, 0, 0, 0, 0, 0, 0, 0, 0, 0, 0, 0, 0, 0, 0, 0] : List Int)], true⟩), (142, ⟨Try.t141.desc, 1, 16, [.raw .nilIface], false⟩)]
theorem tabOkTD : TabOk Try.prog (tabOf tabTD) := (tabOf_cons teTD_5 (tabOf_cons teTD_22 (tabOf_cons teTD_72 (tabOf_cons teTD_98 (tabOf_cons teTD_142 tabOf_nil)))))

noncomputable def two (a b : List Int) : List Int :=
  (V.B32 (V.modL (V.nbI (sub ((sub (sub a 0 (32 : Nat)) (0 : Nat) (32 : Nat)) ++ (sub b 0 (32 : Nat))) (0 : Nat) (64 : Nat)))))

set_option maxHeartbeats 1000000 in
theorem two_body0 (a b : List Int) (h0 : (V.Byt a)) (h1 : (V.Byt b)) (hv0 : List.length a = (32 : Nat)) (hv1 : List.length b = (32 : Nat)) (w : World) : Body Try.prog (tabOf tabTD) Try.f37 ⟨w, [], 0, noEnv⟩ (toA [.g [.ints .u8 (32 : Nat) a], .g [.ints .u8 (32 : Nat) b]]) [] (fun ys _ => ys = [.g [.ints .u8 (32 : Nat) (two a b)]]) :=
  Body.of_fin (Γ := V.gv69) (Λ := noLam) (Ψ := noPsi) (fuel := 0) (m := 14) (c := (Try.f37.body.getD .skip)) mix tabOkTD V.gv69_ok rfl (rs := [.cell 4 98]) rfl rfl [false, false] []
    (vc := [((((64 : Nat) ≤ (64 : Nat)) ∧ True) ∧ (((64 : Nat) = (64 : Nat)) ∧ ((64 : Nat) ≤ (140737488355328 : Nat)) ∧ (V.Byt (sub ((sub (sub a 0 (32 : Nat)) (0 : Nat) (32 : Nat)) ++ (sub b 0 (32 : Nat))) (0 : Nat) (64 : Nat))))), (((32 : Nat) ≤ (32 : Nat)) ∧ (((32 : Nat) ≤ (32 : Nat)) ∧ ((32 : Nat) ≤ (32 : Nat))) ∧ ((64 : Nat) ≤ (140737488355328 : Nat))), (((0 : Int) ≤ (0 : Int)) ∧ ((0 : Int) ≤ (32 : Int))), ((((32 : Nat) ≤ (32 : Nat)) ∧ ((32 : Nat) ≤ (32 : Nat))) ∧ ((32 : Nat) ≤ (140737488355328 : Nat))), (((0 : Int) ≤ (0 : Int)) ∧ ((0 : Int) ≤ (32 : Int)))]) (by kernel_rfl)
    (aC ⟨⟨(by decide), trivial⟩, ⟨rfl, (by decide), (V.byt_sub (byt_app (V.byt_sub (V.byt_sub h0 _ _) _ _) (V.byt_sub h1 _ _)) _ _)⟩⟩ (aC ⟨(by decide), ⟨(by decide), (by decide)⟩, (by decide)⟩ (aC ⟨(by decide), (by decide)⟩ (aC ⟨⟨(by decide), (by decide)⟩, (by decide)⟩ (aC ⟨(by decide), (by decide)⟩ (AllP_nil))))))

theorem two_body (a b : List Int) (h0 : (V.Byt a)) (h1 : (V.Byt b)) (w : World) : Body Try.prog (tabOf tabTD) Try.f37 ⟨w, [], 0, noEnv⟩ (toA [.g [.ints .u8 (32 : Nat) a], .g [.ints .u8 (32 : Nat) b]]) [] (fun ys _ => ys = [.g [.ints .u8 (32 : Nat) (two a b)]]) :=
  Body.lens (c := (Try.f37.body.getD .skip)) rfl fun h => two_body0 a b h0 h1 (h.vals 0 _ _ _ rfl) (h.vals 1 _ _ _ rfl) w

set_option maxHeartbeats 1000000 in
theorem numT_body0 (x : Int) (w : World) : Body Try.prog (tabOf tabTD) Try.f11 ⟨w, [], 0, noEnv⟩ (toA [.a (.i .i64 x)]) [] (fun ys _ => ys = [.a (.i .i64 x)]) :=
  Body.of_fin (Γ := V.gv69) (Λ := noLam) (Ψ := noPsi) (fuel := 0) (m := 4) (c := (Try.f11.body.getD .skip)) mix tabOkTD V.gv69_ok rfl (rs := [.tmp 2]) rfl rfl [] []
    (vc := []) (by kernel_rfl)
    (AllP_nil)

theorem numT_body (x : Int) (w : World) : Body Try.prog (tabOf tabTD) Try.f11 ⟨w, [], 0, noEnv⟩ (toA [.a (.i .i64 x)]) [] (fun ys _ => ys = [.a (.i .i64 x)]) :=
  Body.lens (c := (Try.f11.body.getD .skip)) rfl fun h => numT_body0 x  w

set_option maxHeartbeats 1000000 in
theorem scN1_body0 (c m sz : Nat) (l : List Int) (N : Int) (h0 : (N < (0 : Int))) (hl1_0 : List.length l = sz) (w : World) (rw : List Nat) (β : Env) : Body Try.prog (tabOf tabTD) Try.f36 ⟨w, rw, 2, β⟩ [.o (.a (.ip 89 0 0)), .o (.a (.i .i64 N))] [some ⟨true, [.rs 1 c m 32]⟩, some ⟨true, [.ints .u8 sz l]⟩] (fun ys K' => ys = [.a (.raw (.slice none 0 0)), .a (.i .i64 (1 : Int))] ∧ K' = [some ⟨true, [.rs 1 c m 32]⟩, some ⟨true, [.ints .u8 sz l]⟩]) :=
  Body.of_finKAt (Γ := (gmeth 89 "Random" 32 gam34)) (Λ := noLam) (Ψ := noPsi) (fuel := 0) (m := 50) (c := (Try.f36.body.getD .skip)) mix tabOkTD (gmeth_at (gam34_ok.at _ _) meth89) rfl (rs := [.tmp 4, .tmp 5]) rfl rfl [true, true, false, false, false, true, true] [] 2
    (vc := [(true = true), ((decide (N < (0 : Int))) = true), ((decide (N < (0 : Int))) = true), ((decide (N < (0 : Int))) = true), (false = false), (false = false), (false = false)]) (by kernel_rfl)
    (aC rfl (aC (decide_eq_true (by first | omega | (simp (disch := omega) only [wrapI]; omega))) (aC (decide_eq_true (by first | omega | (simp (disch := omega) only [wrapI]; omega))) (aC (decide_eq_true (by first | omega | (simp (disch := omega) only [wrapI]; omega))) (aC rfl (aC rfl (aC rfl (AllP_nil))))))))

theorem scN1_body (c m sz : Nat) (l : List Int) (N : Int) (h0 : (N < (0 : Int))) (w : World) (rw : List Nat) (β : Env) : Body Try.prog (tabOf tabTD) Try.f36 ⟨w, rw, 2, β⟩ [.o (.a (.ip 89 0 0)), .o (.a (.i .i64 N))] [some ⟨true, [.rs 1 c m 32]⟩, some ⟨true, [.ints .u8 sz l]⟩] (fun ys K' => ys = [.a (.raw (.slice none 0 0)), .a (.i .i64 (1 : Int))] ∧ K' = [some ⟨true, [.rs 1 c m 32]⟩, some ⟨true, [.ints .u8 sz l]⟩]) :=
  Body.lens (c := (Try.f36.body.getD .skip)) rfl fun h => scN1_body0 c m sz l N h0 (h.lens 1 _ .u8 sz l rfl (by simp)) w rw β

set_option maxHeartbeats 1000000 in
theorem scN2_body0 (c m sz : Nat) (l : List Int) (N : Int) (h0 : ((65536 : Int) < N)) (hl1_0 : List.length l = sz) (w : World) (rw : List Nat) (β : Env) : Body Try.prog (tabOf tabTD) Try.f36 ⟨w, rw, 2, β⟩ [.o (.a (.ip 89 0 0)), .o (.a (.i .i64 N))] [some ⟨true, [.rs 1 c m 32]⟩, some ⟨true, [.ints .u8 sz l]⟩] (fun ys K' => ys = [.a (.raw (.slice none 0 0)), .a (.i .i64 (1 : Int))] ∧ K' = [some ⟨true, [.rs 1 c m 32]⟩, some ⟨true, [.ints .u8 sz l]⟩]) :=
  Body.of_finKAt (Γ := (gmeth 89 "Random" 32 gam34)) (Λ := noLam) (Ψ := noPsi) (fuel := 0) (m := 50) (c := (Try.f36.body.getD .skip)) mix tabOkTD (gmeth_at (gam34_ok.at _ _) meth89) rfl (rs := [.tmp 4, .tmp 5]) rfl rfl [true, true, false, true, true, false, true] [] 2
    (vc := [((decide (N > (65536 : Int))) = true), ((decide (N < (0 : Int))) = false), ((decide (N < (0 : Int))) = false), ((decide (N < (0 : Int))) = false), (false = false), (false = false), (false = false)]) (by kernel_rfl)
    (aC (decide_eq_true (by first | omega | (simp (disch := omega) only [wrapI]; omega))) (aC (decide_eq_false (by first | omega | (simp (disch := omega) only [wrapI]; omega))) (aC (decide_eq_false (by first | omega | (simp (disch := omega) only [wrapI]; omega))) (aC (decide_eq_false (by first | omega | (simp (disch := omega) only [wrapI]; omega))) (aC rfl (aC rfl (aC rfl (AllP_nil))))))))

theorem scN2_body (c m sz : Nat) (l : List Int) (N : Int) (h0 : ((65536 : Int) < N)) (w : World) (rw : List Nat) (β : Env) : Body Try.prog (tabOf tabTD) Try.f36 ⟨w, rw, 2, β⟩ [.o (.a (.ip 89 0 0)), .o (.a (.i .i64 N))] [some ⟨true, [.rs 1 c m 32]⟩, some ⟨true, [.ints .u8 sz l]⟩] (fun ys K' => ys = [.a (.raw (.slice none 0 0)), .a (.i .i64 (1 : Int))] ∧ K' = [some ⟨true, [.rs 1 c m 32]⟩, some ⟨true, [.ints .u8 sz l]⟩]) :=
  Body.lens (c := (Try.f36.body.getD .skip)) rfl fun h => scN2_body0 c m sz l N h0 (h.lens 1 _ .u8 sz l rfl (by simp)) w rw β

end Go.Proofs.Ytlmdhjojinkdbaa.X

/- Printed by a tool of this session. -/
namespace Go.Proofs.Ytlmdhjojinkdbaa.X
open Go Go.Proofs
set_option linter.unusedVariables false
set_option linter.unusedSimpArgs false
set_option maxRecDepth 100000
theorem teDK_3 : TEOk Try.prog 3 ⟨.int .i64, 1, 8, [.i .i64 (0 : Int)], false⟩ :=
  TEOk.of Try.underlying3 (i := Try.t3) (by kernel_rfl) rfl rfl rfl (by kernel_rfl) (fun h => by cases h) (by kernel_rfl)
theorem teDK_5 : TEOk Try.prog 5 ⟨.int .u8, 1, 1, [.i .u8 (0 : Int)], false⟩ :=
  TEOk.of Try.underlying5 (i := Try.t5) (by kernel_rfl) rfl rfl rfl (by kernel_rfl) (fun h => by cases h) (by kernel_rfl)
theorem teDK_22 : TEOk Try.prog 22 ⟨.slice 5, 1, 24, [.raw (.slice none 0 0)], false⟩ :=
  TEOk.of Try.underlying22 (i := Try.t22) (by kernel_rfl) rfl rfl rfl (by kernel_rfl) (fun h => by cases h) (by kernel_rfl)
theorem teDK_23 : TEOk Try.prog 23 ⟨.slice 22, 1, 24, [.raw (.slice none 0 0)], false⟩ :=
  TEOk.of Try.underlying23 (i := Try.t23) (by kernel_rfl) rfl rfl rfl (by kernel_rfl) (fun h => by cases h) (by kernel_rfl)
theorem teDK_32 : TEOk Try.prog 32 ⟨.array 64 5, 64, 64, [.ints .u8 (64 : Nat) ([0, 0, 0, 0, 0, 0, 0, 0, 0, 0, 0, 0, 0, 0, 0, 0, 0, 0, 0, 0, 0, 0, 0, 0, 0, 0, 0, 0, 0, 0, 0, 0, 0, 0, 0, 0, 0, 0, 0, 0, 0, 0, 0, 0, 0, 0, 0, 0, 0, 0, 0, 0, 0, 0, 0, 0, 0, 0, 0, 0, 0, 0, 0, 0] : List Int)], true⟩ :=
  TEOk.of Try.underlying32 (i := Try.t32) (by kernel_rfl) rfl rfl rfl (by kernel_rfl) (fun _ => Try.eqGuardType32) (by kernel_rfl)
theorem teDK_57 : TEOk Try.prog 57 ⟨.pointer 134, 1, 8, [.raw (.pointer none)], false⟩ :=
  TEOk.of Try.underlying57 (i := Try.t57) (by kernel_rfl) rfl rfl rfl (by kernel_rfl) (fun h => by cases h) (by kernel_rfl)
theorem teDK_72 : TEOk Try.prog 72 ⟨.array 32 5, 32, 32, [.ints .u8 (32 : Nat) ([0, 0, 0, 0, 0, 0, 0, 0, 0, 0, 0, 0, 0, 0, 0, 0, 0, 0, 0, 0, 0, 0, 0, 0, 0, 0, 0, 0, 0, 0, 0, 0] : List Int)], true⟩ :=
  TEOk.of Try.underlying72 (i := Try.t72) (by kernel_rfl) rfl rfl rfl (by kernel_rfl) (fun _ => Try.eqGuardType72) (by kernel_rfl)
theorem teDK_89 : TEOk Try.prog 89 ⟨.pointer 140, 1, 8, [.raw (.pointer none)], false⟩ :=
  TEOk.of Try.underlying89 (i := Try.t89) (by kernel_rfl) rfl rfl rfl (by kernel_rfl) (fun h => by cases h) (by kernel_rfl)
theorem teDK_91 : TEOk Try.prog 91 ⟨.slice 72, 1, 24, [.raw (.slice none 0 0)], false⟩ :=
  TEOk.of Try.underlying91 (i := Try.t91) (by kernel_rfl) rfl rfl rfl (by kernel_rfl) (fun h => by cases h) (by kernel_rfl)
theorem teDK_134 : TEOk Try.prog 134 ⟨Try.t133.desc, 130, 144, [.ints .u8 (64 : Nat) ([0, 0, 0, 0, 0, 0, 0, 0, 0, 0, 0, 0, 0, 0, 0, 0, 0, 0, 0, 0, 0, 0, 0, 0, 0, 0, 0, 0, 0, 0, 0, 0, 0, 0, 0, 0, 0, 0, 0, 0, 0, 0, 0, 0, 0, 0, 0, 0, 0, 0, 0, 0, 0, 0, 0, 0, 0, 0, 0, 0, 0, 0, 0, 0] : List Int), .ints .u8 (64 : Nat) ([0, 0, 0, 0, 0, 0, 0, 0, 0, 0, 0, 0, 0, 0, 0, 0, 0, 0, 0, 0, 0, 0, 0, 0, 0, 0, 0, 0, 0, 0, 0, 0, 0, 0, 0, 0, 0, 0, 0, 0, 0, 0, 0, 0, 0, 0, 0, 0, 0, 0, 0, 0, 0, 0, 0, 0, 0, 0, 0, 0, 0, 0, 0, 0] : List Int), .b false, .i .i64 (0 : Int)], false⟩ :=
  TEOk.of Try.underlying134 (i := Try.t134) (by kernel_rfl) rfl rfl rfl (by kernel_rfl) (fun h => by cases h) (by kernel_rfl)
theorem teDK_140 : TEOk Try.prog 140 ⟨Try.t139.desc, 1, 24, [.raw (.slice none 0 0)], false⟩ :=
  TEOk.of Try.underlying140 (i := Try.t140) (by kernel_rfl) rfl rfl rfl (by kernel_rfl) (fun h => by cases h) (by kernel_rfl)
noncomputable def tabDK : List (Nat × TE) := [(3, ⟨.int .i64, 1, 8, [.i .i64 (0 : Int)], false⟩), (5, ⟨.int .u8, 1, 1, [.i .u8 (0 : Int)], false⟩), (22, ⟨.slice 5, 1, 24, [.raw (.slice none 0 0)], false⟩), (23, ⟨.slice 22, 1, 24, [.raw (.slice none 0 0)], false⟩), (32, ⟨.array 64 5, 64, 64, [.ints .u8 (64 : Nat) ([0, 0, 0, 0, 0, 0, 0, 0, 0, 0, 0, 0, 0, 0, 0, 0, 0, 0, 0, 0, 0, 0, 0, 0, 0, 0, 0, 0, 0, 0, 0, 0, 0, 0, 0, 0, 0, 0, 0, 0, 0, 0, 0, 0, 0, 0, 0, 0, 0, 0, 0, 0, 0, 0, 0, 0, 0, 0, 0, 0, 0, 0, 0, 0] : List Int)], true⟩), (57, ⟨.pointer 134, 1, 8, [.raw (.pointer none)], false⟩), (72, ⟨.array 32 5, 32, 32, [.ints .u8 (32 : Nat) ([0, 0, 0, 0, 0, 0, 0, 0, 0, 0, 0, 0, 0, 0, 0, 0, 0, 0, 0, 0, 0, 0, 0, 0, 0, 0, 0, 0, 0, 0, 0, 0] : List Int)], true⟩), (89, ⟨.pointer 140, 1, 8, [.raw (.pointer none)], false⟩), (91, ⟨.slice 72, 1, 24, [.raw (.slice none 0 0)], false⟩), (134, ⟨Try.t133.desc, 130, 144, [.ints .u8 (64 : Nat) ([0, 0, 0, 0, 0, 0, 0, 0, 0, 0, 0, 0, 0, 0, 0, 0, 0, 0, 0, 0, 0, 0, 0, 0, 0, 0, 0, 0, 0, 0, 0, 0, 0, 0, 0, 0, 0, 0, 0, 0, 0, 0, 0, 0, 0, 0, 0, 0, 0, 0, 0, 0, 0, 0, 0, 0, 0, 0, 0, 0, 0, 0, 0, 0] : List Int), .ints .u8 (64 : Nat) ([0, 0, 0, 0, 0, 0, 0, 0, 0, 0, 0, 0, 0, 0, 0, 0, 0, 0, 0, 0, 0, 0, 0, 0, 0, 0, 0, 0, 0, 0, 0, 0, 0, 0, 0, 0, 0, 0, 0, 0, 0, 0, 0, 0, 0, 0, 0, 0, 0, 0, 0, 0, 0, 0, 0, 0, 0, 0, 0, 0, 0, 0, 0, 0] : List Int), .b false, .i .i64 (0 : Int)], false⟩), (140, ⟨Try.t139.desc, 1, 24, [.raw (.slice none 0 0)], false⟩)]
theorem tabOkDK : TabOk Try.prog (tabOf tabDK) := (tabOf_cons teDK_3 (tabOf_cons teDK_5 (tabOf_cons teDK_22 (tabOf_cons teDK_23 (tabOf_cons teDK_32 (tabOf_cons teDK_57 (tabOf_cons teDK_72 (tabOf_cons teDK_89 (tabOf_cons teDK_91 (tabOf_cons teDK_134 (tabOf_cons teDK_140 tabOf_nil)))))))))))

theorem not_bne_self (x : Int) : (x != x) = false := by simp
theorem al180 : ((List.getD (sub (macD ([107, 101, 121] : List Int) ([84, 104, 101, 32, 113, 117, 105, 99, 107, 32, 98, 114, 111, 119, 110, 32, 102, 111, 120, 32, 106, 117, 109, 112, 115, 32, 111, 118, 101, 114, 32, 116, 104, 101, 32, 108, 97, 122, 121, 32, 100, 111, 103] : List Int)) (0 : Nat) (1 : Nat)) (0 : Nat) 0) == (180 : Int)) = true := by kernel_rfl
theorem al42 : ((List.getD (sub (macD ([107, 101, 121] : List Int) ([84, 104, 101, 32, 113, 117, 105, 99, 107, 32, 98, 114, 111, 119, 110, 32, 102, 111, 120, 32, 106, 117, 109, 112, 115, 32, 111, 118, 101, 114, 32, 116, 104, 101, 32, 108, 97, 122, 121, 32, 100, 111, 103] : List Int)) (1 : Nat) (1 : Nat)) (0 : Nat) 0) == (42 : Int)) = true := by kernel_rfl
theorem al226 : ((List.getD (sub (macD ([107, 101, 121] : List Int) ([84, 104, 101, 32, 113, 117, 105, 99, 107, 32, 98, 114, 111, 119, 110, 32, 102, 111, 120, 32, 106, 117, 109, 112, 115, 32, 111, 118, 101, 114, 32, 116, 104, 101, 32, 108, 97, 122, 121, 32, 100, 111, 103] : List Int)) (7 : Nat) (1 : Nat)) (0 : Nat) 0) == (226 : Int)) = true := by kernel_rfl
def left (d : Int) : Int :=
  (IntKind.i64.wrap ((4096 : Int) - d))

def newTape1 (l : List Int) : List Int :=
  (sub l 0 (32 : Nat))

set_option maxHeartbeats 1000000 in
theorem newTape1_body0 (l : List Int) (cp : Nat) (hl0_0 : List.length l = (32 : Nat)) (w : World) (rw : List Nat) (β : Env) : Body Try.prog (tabOf tabDK) Try.f35 ⟨w, rw, 1, β⟩ [.o (.a (.sl 0 0 (1 : Nat) cp))] [some ⟨false, [.ints .u8 (32 : Nat) l]⟩] (fun ys K' => ys = [.a (.p 1 0)] ∧ K' = [some ⟨false, [.ints .u8 (32 : Nat) l]⟩, some ⟨true, [.rs 2 0 (1 : Nat) 32]⟩, some ⟨true, [.ints .u8 (32 : Nat) (newTape1 l)]⟩]) :=
  Body.of_finK (Γ := gam17) (Λ := noLam) (Ψ := noPsi) (fuel := 0) (m := 7) (c := (Try.f35.body.getD .skip)) mix tabOkDK gam17_ok rfl (rs := [.tmp 2]) rfl rfl [false] [.swap 1 2] 3
    (vc := [((((1 : Nat) ≤ (1 : Nat)) ∧ ((32 : Nat) ≤ (32 : Nat))) ∧ ((32 : Nat) ≤ (140737488355328 : Nat)))]) (by kernel_rfl)
    (aC ⟨⟨(by decide), (by decide)⟩, (by decide)⟩ (AllP_nil))

theorem newTape1_body (l : List Int) (cp : Nat) (w : World) (rw : List Nat) (β : Env) : Body Try.prog (tabOf tabDK) Try.f35 ⟨w, rw, 1, β⟩ [.o (.a (.sl 0 0 (1 : Nat) cp))] [some ⟨false, [.ints .u8 (32 : Nat) l]⟩] (fun ys K' => ys = [.a (.p 1 0)] ∧ K' = [some ⟨false, [.ints .u8 (32 : Nat) l]⟩, some ⟨true, [.rs 2 0 (1 : Nat) 32]⟩, some ⟨true, [.ints .u8 (32 : Nat) (newTape1 l)]⟩]) :=
  Body.lens (c := (Try.f35.body.getD .skip)) rfl fun h => newTape1_body0 l cp (h.lens 0 _ .u8 (32 : Nat) l rfl (by simp)) w rw β

noncomputable def gam27 : Gam := gcall 35 [false] [.w] (fun wk vs args => match wk, vs, args with | [⟨false, [.ints .u8 (32 : Nat) l]⟩], [], [.o (.a (.sl 0 0 (1 : Nat) cp))] => some (True, [.a (.p 1 0)], [some ⟨false, [.ints .u8 (32 : Nat) l]⟩, some ⟨true, [.rs 2 0 (1 : Nat) 32]⟩, some ⟨true, [.ints .u8 (32 : Nat) (newTape1 l)]⟩]) | _, _, _ => none) gam17
theorem gam27_ok : GamOk Try.prog gam27 := gcall_ok tabOkDK Try.func35 gam17_ok Try.call35 (by
  intro wk vs args p xs K1 h hv
  split at h
  · simp only [Option.some.injEq, Prod.mk.injEq] at h; obtain ⟨rfl, rfl, rfl⟩ := h; exact fun caps w rw β => newTape1_body _ _ w rw β
  · simp at h)

def tapeRandom1 (l : List Int) : List Int :=
  (sub l 0 (32 : Nat))

set_option maxHeartbeats 1000000 in
theorem tapeRandom1_body0 (l : List Int) (hl1_0 : List.length l = (32 : Nat)) (w : World) (rw : List Nat) (β : Env) : Body Try.prog (tabOf tabDK) Try.f32 ⟨w, rw, 2, β⟩ [.o (.a (.p 0 0))] [some ⟨true, [.rs 1 0 (1 : Nat) 32]⟩, some ⟨true, [.ints .u8 (32 : Nat) l]⟩] (fun ys K' => ys = [.g [.ints .u8 (32 : Nat) (tapeRandom1 l)], .a (.i .i64 (0 : Int))] ∧ K' = [some ⟨true, [.rs 1 (32 : Nat) (0 : Nat) 32]⟩, some ⟨true, [.ints .u8 (32 : Nat) l]⟩]) :=
  Body.of_finK (Γ := gam27) (Λ := noLam) (Ψ := noPsi) (fuel := 0) (m := 30) (c := (Try.f32.body.getD .skip)) mix tabOkDK gam27_ok rfl (rs := [.cell 2 72, .tmp 3]) rfl rfl [false, false] [] 2
    (vc := [(((0 : Int) ≤ (1 : Int)) ∧ ((1 : Int) ≤ (1 : Int))), ((32 : Nat) ≤ (32 : Nat)), (((0 : Int) ≤ (0 : Int)) ∧ ((0 : Int) < (1 : Int))), (false = false), (false = false)]) (by kernel_rfl)
    (aC ⟨(by decide), (by decide)⟩ (aC (by decide) (aC ⟨(by decide), (by decide)⟩ (aC rfl (aC rfl (AllP_nil))))))

theorem tapeRandom1_body (l : List Int) (w : World) (rw : List Nat) (β : Env) : Body Try.prog (tabOf tabDK) Try.f32 ⟨w, rw, 2, β⟩ [.o (.a (.p 0 0))] [some ⟨true, [.rs 1 0 (1 : Nat) 32]⟩, some ⟨true, [.ints .u8 (32 : Nat) l]⟩] (fun ys K' => ys = [.g [.ints .u8 (32 : Nat) (tapeRandom1 l)], .a (.i .i64 (0 : Int))] ∧ K' = [some ⟨true, [.rs 1 (32 : Nat) (0 : Nat) 32]⟩, some ⟨true, [.ints .u8 (32 : Nat) l]⟩]) :=
  Body.lens (c := (Try.f32.body.getD .skip)) rfl fun h => tapeRandom1_body0 l (h.lens 1 _ .u8 (32 : Nat) l rfl (by simp)) w rw β

noncomputable def gam28 : Gam := gcall 32 [true, true] [.w] (fun wk vs args => match wk, vs, args with | [⟨true, [.rs 1 0 (1 : Nat) 32]⟩, ⟨true, [.ints .u8 (32 : Nat) l]⟩], [], [.o (.a (.p 0 0))] => some (True, [.g [.ints .u8 (32 : Nat) (tapeRandom1 l)], .a (.i .i64 (0 : Int))], [some ⟨true, [.rs 1 (32 : Nat) (0 : Nat) 32]⟩, some ⟨true, [.ints .u8 (32 : Nat) l]⟩]) | _, _, _ => none) gam27
theorem gam28_ok : GamOk Try.prog gam28 := gcall_ok tabOkDK Try.func32 gam27_ok Try.call32 (by
  intro wk vs args p xs K1 h hv
  split at h
  · simp only [Option.some.injEq, Prod.mk.injEq] at h; obtain ⟨rfl, rfl, rfl⟩ := h; exact fun caps w rw β => tapeRandom1_body _ w rw β
  · simp at h)

set_option maxHeartbeats 1000000 in
theorem tapeLeft1_body0 (l : List Int) (hl1_0 : List.length l = (32 : Nat)) (w : World) (rw : List Nat) (β : Env) : Body Try.prog (tabOf tabDK) Try.f33 ⟨w, rw, 2, β⟩ [.o (.a (.p 0 0))] [some ⟨false, [.rs 1 (32 : Nat) (0 : Nat) 32]⟩, some ⟨false, [.ints .u8 (32 : Nat) l]⟩] (fun ys K' => ys = [.a (.i .i64 (0 : Int))] ∧ K' = [some ⟨false, [.rs 1 (32 : Nat) (0 : Nat) 32]⟩, some ⟨false, [.ints .u8 (32 : Nat) l]⟩]) :=
  Body.of_finK (Γ := gam28) (Λ := noLam) (Ψ := noPsi) (fuel := 0) (m := 10) (c := (Try.f33.body.getD .skip)) mix tabOkDK gam28_ok rfl (rs := [.tmp 2]) rfl rfl [false] [] 2
    (vc := [(false = false)]) (by kernel_rfl)
    (aC rfl (AllP_nil))

theorem tapeLeft1_body (l : List Int) (w : World) (rw : List Nat) (β : Env) : Body Try.prog (tabOf tabDK) Try.f33 ⟨w, rw, 2, β⟩ [.o (.a (.p 0 0))] [some ⟨false, [.rs 1 (32 : Nat) (0 : Nat) 32]⟩, some ⟨false, [.ints .u8 (32 : Nat) l]⟩] (fun ys K' => ys = [.a (.i .i64 (0 : Int))] ∧ K' = [some ⟨false, [.rs 1 (32 : Nat) (0 : Nat) 32]⟩, some ⟨false, [.ints .u8 (32 : Nat) l]⟩]) :=
  Body.lens (c := (Try.f33.body.getD .skip)) rfl fun h => tapeLeft1_body0 l (h.lens 1 _ .u8 (32 : Nat) l rfl (by simp)) w rw β

noncomputable def gam29 : Gam := gcall 33 [false, false] [.w] (fun wk vs args => match wk, vs, args with | [⟨false, [.rs 1 (32 : Nat) (0 : Nat) 32]⟩, ⟨false, [.ints .u8 (32 : Nat) l]⟩], [], [.o (.a (.p 0 0))] => some (True, [.a (.i .i64 (0 : Int))], [some ⟨false, [.rs 1 (32 : Nat) (0 : Nat) 32]⟩, some ⟨false, [.ints .u8 (32 : Nat) l]⟩]) | _, _, _ => none) gam28
theorem gam29_ok : GamOk Try.prog gam29 := gcall_ok tabOkDK Try.func33 gam28_ok Try.call33 (by
  intro wk vs args p xs K1 h hv
  split at h
  · simp only [Option.some.injEq, Prod.mk.injEq] at h; obtain ⟨rfl, rfl, rfl⟩ := h; exact fun caps w rw β => tapeLeft1_body _ w rw β
  · simp at h)

noncomputable def gam30 : Gam := gcall 21 [] [.s 1, .w, .w] (fun wk vs args => match wk, vs, args with | [], [⟨_, _, _, [.ints .u8 nm b]⟩], [.o (.a (.sl 0 0 n _)), .o (.a (.raw (.slice none 0 0))), .o (.a (.raw (.slice none 0 0)))] => some ((nm = n) ∧ (n < (35184372088832 : Nat)) ∧ ((32 : Nat) ≤ n), [.a (.p 1 0), .a (.i .i64 (0 : Int))], [some ⟨false, [.ints .u8 nm b]⟩, some ⟨true, [.ints .u8 (64 : Nat) (nwK b), .ints .u8 (64 : Nat) (nwV b), .b true, .i .i64 (0 : Int)]⟩]) | _, _, _ => none) gam29
theorem gam30_ok : GamOk Try.prog gam30 := gcall_ok tabOkDK Try.func21 gam29_ok Try.call21 (by
  intro wk vs args p xs K1 h hv
  split at h
  · simp only [Option.some.injEq, Prod.mk.injEq] at h; obtain ⟨rfl, rfl, rfl⟩ := h; obtain ⟨g0, g1, g2⟩ := hv; exact fun caps w rw β => newOk_body _ _ _ _ g0 g1 g2 w rw β
  · simp at h)

noncomputable def gam31 : Gam := gcall 22 [true] [.w, .w, .w] (fun wk vs args => match wk, vs, args with | [⟨true, [.ints .u8 (64 : Nat) ky, .ints .u8 (64 : Nat) v, .b true, .i .i64 d]⟩], [], [.o (.a (.p 0 0)), .o (.a (.i .i64 N)), .o (.a (.raw (.slice none 0 0)))] => some (True, [.a (.rs 1 0 (drN N d) 1), .a (.i .i64 (drE N d))], [some ⟨true, [.ints .u8 (64 : Nat) (drK0 N d ky v), .ints .u8 (64 : Nat) (drV0 N d ky v), .b true, .i .i64 (drD N d)]⟩, some ⟨true, [.ints .u8 (drM N d) (drO0 N d ky v)]⟩]) | _, _, _ => none) gam30
theorem gam31_ok : GamOk Try.prog gam31 := gcall_ok tabOkDK Try.func22 gam30_ok Try.call22 (by
  intro wk vs args p xs K1 h hv
  split at h
  · simp only [Option.some.injEq, Prod.mk.injEq] at h; obtain ⟨rfl, rfl, rfl⟩ := h; exact fun caps w rw β => drawN_body _ _ _ _ w rw β
  · simp at h)

set_option maxHeartbeats 1000000 in
theorem alive_body0 (w : World) (rw : List Nat) (β : Env) : Body Try.prog (tabOf tabDK) Try.f9 ⟨w, rw, 0, β⟩ [] [] (fun ys K' => ys = [.a (.b true)] ∧ K' = []) :=
  Body.of_finKAt (Γ := (gmac w rw (gjoin w rw gam31))) (Λ := noLam) (Ψ := noPsi) (fuel := 0) (m := 80) (c := (Try.f9.body.getD .skip)) mix tabOkDK (gmac_ok (gjoin_ok (gam31_ok.at _ _))) rfl (rs := [.tmp 0]) rfl rfl [true, true, false, false, true, true, true, true, true, true, true, true, true, true, true, true, true, true, true, true, true, true, true, true, true, true, true, true, true, true, true, true] [] 0
    (vc := [(true = true), (true = true), ((True ∧ True) ∧ True), (true = true), (true = true), ((decide ((tapeRandom1 (newTape1 ([7, 0, 0, 0, 0, 0, 0, 0, 0, 0, 0, 0, 0, 0, 0, 0, 0, 0, 0, 0, 0, 0, 0, 0, 0, 0, 0, 0, 0, 0, 0, 0] : List Int))) = ([7, 0, 0, 0, 0, 0, 0, 0, 0, 0, 0, 0, 0, 0, 0, 0, 0, 0, 0, 0, 0, 0, 0, 0, 0, 0, 0, 0, 0, 0, 0, 0] : List Int))) = true), ((decide ((tapeRandom1 (newTape1 ([7, 0, 0, 0, 0, 0, 0, 0, 0, 0, 0, 0, 0, 0, 0, 0, 0, 0, 0, 0, 0, 0, 0, 0, 0, 0, 0, 0, 0, 0, 0, 0] : List Int))) = ([7, 0, 0, 0, 0, 0, 0, 0, 0, 0, 0, 0, 0, 0, 0, 0, 0, 0, 0, 0, 0, 0, 0, 0, 0, 0, 0, 0, 0, 0, 0, 0] : List Int))) = true), ((decide ((tapeRandom1 (newTape1 ([7, 0, 0, 0, 0, 0, 0, 0, 0, 0, 0, 0, 0, 0, 0, 0, 0, 0, 0, 0, 0, 0, 0, 0, 0, 0, 0, 0, 0, 0, 0, 0] : List Int))) = ([7, 0, 0, 0, 0, 0, 0, 0, 0, 0, 0, 0, 0, 0, 0, 0, 0, 0, 0, 0, 0, 0, 0, 0, 0, 0, 0, 0, 0, 0, 0, 0] : List Int))) = true), ((decide ((tapeRandom1 (newTape1 ([7, 0, 0, 0, 0, 0, 0, 0, 0, 0, 0, 0, 0, 0, 0, 0, 0, 0, 0, 0, 0, 0, 0, 0, 0, 0, 0, 0, 0, 0, 0, 0] : List Int))) = ([7, 0, 0, 0, 0, 0, 0, 0, 0, 0, 0, 0, 0, 0, 0, 0, 0, 0, 0, 0, 0, 0, 0, 0, 0, 0, 0, 0, 0, 0, 0, 0] : List Int))) = true), (((drE (5 : Int) (0 : Int)) == (0 : Int)) = true), (((drE (5 : Int) (0 : Int)) == (0 : Int)) = true), (((drE (5 : Int) (0 : Int)) == (0 : Int)) = true), (((drE (5 : Int) (0 : Int)) == (0 : Int)) = true), (((((drN (5 : Int) (0 : Int)) : Nat) : Int) == (5 : Int)) = true), (((((drN (5 : Int) (0 : Int)) : Nat) : Int) == (5 : Int)) = true), (((((drN (5 : Int) (0 : Int)) : Nat) : Int) == (5 : Int)) = true), (((((drN (5 : Int) (0 : Int)) : Nat) : Int) == (5 : Int)) = true), (((List.getD (sub (macD ([107, 101, 121] : List Int) ([84, 104, 101, 32, 113, 117, 105, 99, 107, 32, 98, 114, 111, 119, 110, 32, 102, 111, 120, 32, 106, 117, 109, 112, 115, 32, 111, 118, 101, 114, 32, 116, 104, 101, 32, 108, 97, 122, 121, 32, 100, 111, 103] : List Int)) (7 : Nat) (1 : Nat)) (0 : Nat) 0) == (226 : Int)) = true), (((List.getD (sub (macD ([107, 101, 121] : List Int) ([84, 104, 101, 32, 113, 117, 105, 99, 107, 32, 98, 114, 111, 119, 110, 32, 102, 111, 120, 32, 106, 117, 109, 112, 115, 32, 111, 118, 101, 114, 32, 116, 104, 101, 32, 108, 97, 122, 121, 32, 100, 111, 103] : List Int)) (7 : Nat) (1 : Nat)) (0 : Nat) 0) == (226 : Int)) = true), (((List.getD (sub (macD ([107, 101, 121] : List Int) ([84, 104, 101, 32, 113, 117, 105, 99, 107, 32, 98, 114, 111, 119, 110, 32, 102, 111, 120, 32, 106, 117, 109, 112, 115, 32, 111, 118, 101, 114, 32, 116, 104, 101, 32, 108, 97, 122, 121, 32, 100, 111, 103] : List Int)) (7 : Nat) (1 : Nat)) (0 : Nat) 0) == (226 : Int)) = true), (((List.getD (sub (macD ([107, 101, 121] : List Int) ([84, 104, 101, 32, 113, 117, 105, 99, 107, 32, 98, 114, 111, 119, 110, 32, 102, 111, 120, 32, 106, 117, 109, 112, 115, 32, 111, 118, 101, 114, 32, 116, 104, 101, 32, 108, 97, 122, 121, 32, 100, 111, 103] : List Int)) (7 : Nat) (1 : Nat)) (0 : Nat) 0) == (226 : Int)) = true), (((List.getD (sub (macD ([107, 101, 121] : List Int) ([84, 104, 101, 32, 113, 117, 105, 99, 107, 32, 98, 114, 111, 119, 110, 32, 102, 111, 120, 32, 106, 117, 109, 112, 115, 32, 111, 118, 101, 114, 32, 116, 104, 101, 32, 108, 97, 122, 121, 32, 100, 111, 103] : List Int)) (1 : Nat) (1 : Nat)) (0 : Nat) 0) == (42 : Int)) = true), (((List.getD (sub (macD ([107, 101, 121] : List Int) ([84, 104, 101, 32, 113, 117, 105, 99, 107, 32, 98, 114, 111, 119, 110, 32, 102, 111, 120, 32, 106, 117, 109, 112, 115, 32, 111, 118, 101, 114, 32, 116, 104, 101, 32, 108, 97, 122, 121, 32, 100, 111, 103] : List Int)) (1 : Nat) (1 : Nat)) (0 : Nat) 0) == (42 : Int)) = true), (((List.getD (sub (macD ([107, 101, 121] : List Int) ([84, 104, 101, 32, 113, 117, 105, 99, 107, 32, 98, 114, 111, 119, 110, 32, 102, 111, 120, 32, 106, 117, 109, 112, 115, 32, 111, 118, 101, 114, 32, 116, 104, 101, 32, 108, 97, 122, 121, 32, 100, 111, 103] : List Int)) (1 : Nat) (1 : Nat)) (0 : Nat) 0) == (42 : Int)) = true), (((List.getD (sub (macD ([107, 101, 121] : List Int) ([84, 104, 101, 32, 113, 117, 105, 99, 107, 32, 98, 114, 111, 119, 110, 32, 102, 111, 120, 32, 106, 117, 109, 112, 115, 32, 111, 118, 101, 114, 32, 116, 104, 101, 32, 108, 97, 122, 121, 32, 100, 111, 103] : List Int)) (1 : Nat) (1 : Nat)) (0 : Nat) 0) == (42 : Int)) = true), (((List.getD (sub (macD ([107, 101, 121] : List Int) ([84, 104, 101, 32, 113, 117, 105, 99, 107, 32, 98, 114, 111, 119, 110, 32, 102, 111, 120, 32, 106, 117, 109, 112, 115, 32, 111, 118, 101, 114, 32, 116, 104, 101, 32, 108, 97, 122, 121, 32, 100, 111, 103] : List Int)) (0 : Nat) (1 : Nat)) (0 : Nat) 0) == (180 : Int)) = true), (((List.getD (sub (macD ([107, 101, 121] : List Int) ([84, 104, 101, 32, 113, 117, 105, 99, 107, 32, 98, 114, 111, 119, 110, 32, 102, 111, 120, 32, 106, 117, 109, 112, 115, 32, 111, 118, 101, 114, 32, 116, 104, 101, 32, 108, 97, 122, 121, 32, 100, 111, 103] : List Int)) (0 : Nat) (1 : Nat)) (0 : Nat) 0) == (180 : Int)) = true), (((List.getD (sub (macD ([107, 101, 121] : List Int) ([84, 104, 101, 32, 113, 117, 105, 99, 107, 32, 98, 114, 111, 119, 110, 32, 102, 111, 120, 32, 106, 117, 109, 112, 115, 32, 111, 118, 101, 114, 32, 116, 104, 101, 32, 108, 97, 122, 121, 32, 100, 111, 103] : List Int)) (0 : Nat) (1 : Nat)) (0 : Nat) 0) == (180 : Int)) = true), (((List.getD (sub (macD ([107, 101, 121] : List Int) ([84, 104, 101, 32, 113, 117, 105, 99, 107, 32, 98, 114, 111, 119, 110, 32, 102, 111, 120, 32, 106, 117, 109, 112, 115, 32, 111, 118, 101, 114, 32, 116, 104, 101, 32, 108, 97, 122, 121, 32, 100, 111, 103] : List Int)) (0 : Nat) (1 : Nat)) (0 : Nat) 0) == (180 : Int)) = true), ((True ∧ True) ∧ True), ((True ∧ True) ∧ True), ((True ∧ (True ∧ (True ∧ True))) ∧ True), (false = false), (false = false), (false = false), (false = false), ((((32 : Nat) ≤ (32 : Nat)) ∧ (True ∧ (True ∧ True))) ∧ (((32 : Nat) = (32 : Nat)) ∧ ((32 : Nat) < (35184372088832 : Nat)) ∧ ((32 : Nat) ≤ (32 : Nat)))), (((0 : Int) ≤ (32 : Int)) ∧ ((32 : Int) ≤ (32 : Int)) ∧ ((32 : Int) ≤ (281474976710656 : Int))), (((2 : Nat) = (2 : Nat)) ∧ (((31 : Nat) ≤ (31 : Nat)) ∧ (((12 : Nat) ≤ (12 : Nat)) ∧ True)) ∧ ((List.length ([84, 104, 101, 32, 113, 117, 105, 99, 107, 32, 98, 114, 111, 119, 110, 32, 102, 111, 120, 32, 106, 117, 109, 112, 115, 32, 111, 118, 101, 114, 32, 116, 104, 101, 32, 108, 97, 122, 121, 32, 100, 111, 103] : List Int)) < (70368744177664 : Nat)) ∧ (((3 : Nat) ≤ (3 : Nat)) ∧ True) ∧ (((3 : Nat) = (3 : Nat)) ∧ ((3 : Nat) < (70368744177664 : Nat)) ∧ ((3 : Nat) < (4398046511104 : Nat)) ∧ (((List.length ([84, 104, 101, 32, 113, 117, 105, 99, 107, 32, 98, 114, 111, 119, 110, 32, 102, 111, 120, 32, 106, 117, 109, 112, 115, 32, 111, 118, 101, 114, 32, 116, 104, 101, 32, 108, 97, 122, 121, 32, 100, 111, 103] : List Int)) + (128 : Nat)) < (70368744177664 : Nat)))), ((0 : Nat) < (12 : Nat)), ((0 : Nat) < (31 : Nat)), ((0 : Nat) < (3 : Nat))]) (by kernel_rfl)
    (aC rfl (aC rfl (aC ⟨⟨trivial, trivial⟩, trivial⟩ (aC rfl (aC rfl (aC (by kernel_rfl) (aC (by kernel_rfl) (aC (by kernel_rfl) (aC (by kernel_rfl) (aC (by kernel_rfl) (aC (by kernel_rfl) (aC (by kernel_rfl) (aC (by kernel_rfl) (aC (by kernel_rfl) (aC (by kernel_rfl) (aC (by kernel_rfl) (aC (by kernel_rfl) (aC al226 (aC al226 (aC al226 (aC al226 (aC al42 (aC al42 (aC al42 (aC al42 (aC al180 (aC al180 (aC al180 (aC al180 (aC ⟨⟨trivial, trivial⟩, trivial⟩ (aC ⟨⟨trivial, trivial⟩, trivial⟩ (aC ⟨⟨trivial, ⟨trivial, ⟨trivial, trivial⟩⟩⟩, trivial⟩ (aC rfl (aC rfl (aC rfl (aC rfl (aC ⟨⟨(by decide), ⟨trivial, ⟨trivial, trivial⟩⟩⟩, ⟨rfl, (by decide), (by decide)⟩⟩ (aC ⟨(by decide), (by decide), (by decide)⟩ (aC ⟨rfl, ⟨(by decide), ⟨(by decide), trivial⟩⟩, (by decide), ⟨(by decide), trivial⟩, ⟨rfl, (by decide), (by decide), (by decide)⟩⟩ (aC (by decide) (aC (by decide) (aC (by decide) (AllP_nil)))))))))))))))))))))))))))))))))))))))))))

end Go.Proofs.Ytlmdhjojinkdbaa.X

/- The law Tapes: rows of scalars, where a tape stands. -/
namespace Go.Proofs.Ytlmdhjojinkdbaa.X
open Go Go.Proofs
set_option linter.unusedVariables false
set_option linter.unusedSimpArgs false
set_option maxRecDepth 100000

theorem tsub_all {α : Type} (L : List α) {n : Nat} (h : L.length = n) : sub L 0 n = L := by
  unfold sub; rw [List.drop_zero]; exact List.take_of_length_le (by omega)
theorem tsub_left {α : Type} (x y : List α) (c m : Nat) (h : c + m ≤ x.length) : sub (x ++ y) c m = sub x c m := by
  unfold sub
  rw [List.drop_append_of_le_length (by omega), List.take_append_of_le_length (by rw [List.length_drop]; omega)]
theorem tB32_len (v : Int) : (V.B32 v).length = 32 := rfl
theorem scP_len (c m : Nat) (l : List Int) : (scP c m l).length = 32 := by
  unfold scP; rw [tsub_all _ (tB32_len _)]; exact tB32_len _
theorem scO_len (c m : Nat) (l : List Int) (k : Nat) : (scO c m l k).length = k * 32 := by
  induction k with
  | zero => rfl
  | succ k ih =>
    show (sub (scO c m l k) 0 (k * 32) ++ scP (c + 64 * k) (m - 2 * k) l).length = _
    rw [tsub_all _ ih, List.length_append, ih, scP_len]; omega
theorem scO_row (c m : Nat) (l : List Int) (j k : Nat) (h : j < k) : sub (scO c m l k) (j * 32) 32 = scP (c + 64 * j) (m - 2 * j) l := by
  induction k with
  | zero => omega
  | succ k ih =>
    show sub (sub (scO c m l k) 0 (k * 32) ++ scP (c + 64 * k) (m - 2 * k) l) (j * 32) 32 = _
    have hl := scO_len c m l k
    rw [tsub_all _ hl]
    by_cases hj : j = k
    · subst hj
      rw [sub_append_right _ _ _ _ (by omega), hl, Nat.sub_self, tsub_all _ (scP_len _ _ _)]
    · rw [tsub_left _ _ _ _ (by omega)]; exact ih (by omega)
theorem tnV_pos {c m : Nat} {l : List Int} (h : 0 < m) : tnV c m l = sub l c 32 := by
  obtain ⟨q, rfl⟩ : ∃ q, m = q + 1 := ⟨m - 1, by omega⟩; rfl
theorem scP_two {c m : Nat} {l : List Int} (hm : 2 ≤ m) (hl : c + 64 ≤ l.length) : scP c m l = two (sub l c 32) (sub l (c + 32) 32) := by
  unfold scP two
  have h1 : (sub l c 32).length = 32 := sub_len _ _ _ (by omega)
  have h2 : (sub l (c + 32) 32).length = 32 := sub_len _ _ _ (by omega)
  rw [tnC_pos (by omega), tnV_pos (by omega), tnV_pos (by unfold tnM; omega), tsub_all _ (tB32_len _), tsub_all _ h1, tsub_all _ h1, tsub_all _ h2]

/-- what is taken from a tape of n, of which t were taken, when x is asked for -/
def tpA (n : Nat) (x : Int) (t : Nat) : Nat :=
  if x = 0 then (if t = n then t else t + 1) else if x < 0 ∨ 65536 < x then t else if (n - t) / 2 < x.toNat then n else t + 2 * x.toNat
def tpAt (n : Nat) (A : List Int) : Nat → Nat
  | 0 => 0
  | k + 1 => tpA n (A.getD k 0) (tpAt n A k)
theorem tpA_le {n : Nat} {x : Int} {t : Nat} (h : t ≤ n) : tpA n x t ≤ n := by
  unfold tpA; split
  · split <;> omega
  · split
    · omega
    · split <;> omega
theorem tpAt_le (n : Nat) (A : List Int) (k : Nat) : tpAt n A k ≤ n := by
  induction k with
  | zero => exact Nat.zero_le _
  | succ k ih => exact tpA_le ih
section
variable {n : Nat} {A : List Int} {k : Nat}
theorem tp_z0 (h0 : A.getD k 0 = 0) (hz : tpAt n A k = n) : tpAt n A (k + 1) = tpAt n A k := by
  show tpA _ _ _ = _; unfold tpA; rw [if_pos h0, if_pos hz]
theorem tp_z1 (h0 : A.getD k 0 = 0) (hz : tpAt n A k < n) : tpAt n A (k + 1) = tpAt n A k + 1 := by
  show tpA _ _ _ = _; unfold tpA; rw [if_pos h0, if_neg (by omega)]
theorem tp_n (h0 : A.getD k 0 < 0) : tpAt n A (k + 1) = tpAt n A k := by
  show tpA _ _ _ = _; unfold tpA; rw [if_neg (by omega), if_pos (Or.inl h0)]
theorem tp_b (h0 : 65536 < A.getD k 0) : tpAt n A (k + 1) = tpAt n A k := by
  show tpA _ _ _ = _; unfold tpA; rw [if_neg (by omega), if_pos (Or.inr h0)]
theorem tp_s (h0 : 0 < A.getD k 0) (h1 : A.getD k 0 ≤ 65536) (h2 : (n - tpAt n A k) / 2 < (A.getD k 0).toNat) : tpAt n A (k + 1) = n := by
  show tpA _ _ _ = _; unfold tpA; rw [if_neg (by omega), if_neg (by omega), if_pos h2]
theorem tp_f (h0 : 0 < A.getD k 0) (h1 : A.getD k 0 ≤ 65536) (h2 : ¬ (n - tpAt n A k) / 2 < (A.getD k 0).toNat) : tpAt n A (k + 1) = tpAt n A k + 2 * (A.getD k 0).toNat := by
  show tpA _ _ _ = _; unfold tpA; rw [if_neg (by omega), if_neg (by omega), if_neg h2]
end
theorem rsEq {i a b a' b' : Nat} (h1 : a = a') (h2 : b = b') : (some ⟨true, [.rs i a b 32]⟩ : Option Blk) = some ⟨true, [.rs i a' b' 32]⟩ := by rw [h1, h2]
theorem tnE_z {m : Nat} (h : m = 0) : tnE m = 122 := by subst h; rfl
theorem tnE_p {m : Nat} (h : 0 < m) : tnE m = 0 := by obtain ⟨q, rfl⟩ : ∃ q, m = q + 1 := ⟨m - 1, by omega⟩; rfl
theorem tnV_z {c m : Nat} {l : List Int} (h : m = 0) : tnV c m l = List.replicate 32 0 := by subst h; rfl
theorem tnC_z {c m : Nat} (h : m = 0) : tnC c m = c := by subst h; rfl
theorem scN_lt {N : Int} {m j : Nat} (h : j < scN N m) : 2 * j + 2 ≤ m := by unfold scN at h; split at h <;> omega
theorem iEq {x y : Int} (h : x = y) : (.o (.a (.i .i64 x)) : AV) = .o (.a (.i .i64 y)) := by rw [h]
theorem bEq {x y : Bool} (h : x = y) : (.o (.a (.b x)) : AV) = .o (.a (.b y)) := by rw [h]
theorem tdivN (n t : Nat) (h : t ≤ n) : Int.tdiv ((n : Int) - (t : Int)) 2 = (((n - t) / 2 : Nat) : Int) := by
  rw [show ((n : Int) - (t : Int)) = ((n - t : Nat) : Int) by omega]
  exact (Int.ofNat_tdiv _ _).symm
theorem ndec_eq {a b : List Int} (h : a = b) : (!(decide (a = b))) = false := by simp [h]
theorem tp_i0 {n t k : Nat} (h : t ≤ n) (hn : n < 1099511627776) (hk : 2 * k + 2 ≤ n - t) :
    IntKind.i64.wrap ((t : Int) + IntKind.i64.wrap (2 * (k : Int))) = ((t + 2 * k : Nat) : Int) := by
  rw [wrapI (x := 2 * _) (by omega) (by omega), wrapI (by omega) (by omega)]; omega
theorem tp_i1 {n t k : Nat} (h : t ≤ n) (hn : n < 1099511627776) (hk : 2 * k + 2 ≤ n - t) :
    IntKind.i64.wrap (IntKind.i64.wrap ((t : Int) + IntKind.i64.wrap (2 * (k : Int))) + 1) = ((t + 2 * k + 1 : Nat) : Int) := by
  rw [tp_i0 h hn hk, wrapI (by omega) (by omega)]; omega
theorem tp_ix {n t k : Nat} (h : t ≤ n) (hn : n < 1099511627776) (hk : 2 * k + 2 ≤ n - t) :
    (IntKind.i64.wrap ((t : Int) + IntKind.i64.wrap (2 * (k : Int)))).toNat * 32 = t * 32 + 64 * k := by
  rw [wrapI (x := 2 * _) (by omega) (by omega), wrapI (by omega) (by omega)]; omega
theorem tp_ix1 {n t k : Nat} (h : t ≤ n) (hn : n < 1099511627776) (hk : 2 * k + 2 ≤ n - t) :
    (IntKind.i64.wrap (IntKind.i64.wrap ((t : Int) + IntKind.i64.wrap (2 * (k : Int))) + 1)).toNat * 32 = t * 32 + 64 * k + 32 := by
  rw [wrapI (x := 2 * _) (by omega) (by omega), wrapI (x := _ + 2 * _) (by omega) (by omega), wrapI (by omega) (by omega)]; omega
theorem row_eq {N : Int} {n t k : Nat} {l : List Int} (hl : l.length = n * 32) (h : t ≤ n) (hn : n < 1099511627776) (hk : k < scN N (n - t)) :
    sub (scV N (t * 32) (n - t) l) (k * 32) 32 = two (sub l ((IntKind.i64.wrap ((t : Int) + IntKind.i64.wrap (2 * (k : Int)))).toNat * 32) 32) (sub l ((IntKind.i64.wrap (IntKind.i64.wrap ((t : Int) + IntKind.i64.wrap (2 * (k : Int))) + 1)).toNat * 32) 32) := by
  have hj := scN_lt hk
  rw [tp_ix h hn hj, tp_ix1 h hn hj]
  unfold scV
  rw [scO_row _ _ _ _ _ hk]
  exact scP_two (by omega) (by omega)

end Go.Proofs.Ytlmdhjojinkdbaa.X

