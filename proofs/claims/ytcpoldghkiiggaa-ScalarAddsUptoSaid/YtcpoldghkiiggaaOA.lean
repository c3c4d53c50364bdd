/- The digits of 32 bytes. -/
import Derived.Test.YtcpoldghkiiggaaNZ
namespace Go.Proofs.Ytcpoldghkiiggaa.X
open Go Go.Proofs
set_option linter.unusedVariables false

theorem or_shl32 {a b : Int} {n : Nat} (hn : n ≤ 24) (h0 : 0 ≤ a) (h1 : a < ((2 ^ n : Nat) : Int)) (b0 : 0 ≤ b) (b1 : b < 256) : bits2 .or .u32 a (shl .u32 (IntKind.u32.wrap b) ((n : Nat) : Int)) = a + b * ((2 ^ n : Nat) : Int) := by
  obtain ⟨x, rfl⟩ := Int.eq_ofNat_of_zero_le h0
  obtain ⟨y, rfl⟩ := Int.eq_ofNat_of_zero_le b0
  have hx : x < 2 ^ n := by omega
  have hy : y < 256 := by omega
  have hp : 2 ^ n ≤ 2 ^ 24 := Nat.pow_le_pow_right (by omega) hn
  have hyp : y * 2 ^ n ≤ 255 * 2 ^ 24 := Nat.mul_le_mul (by omega) hp
  have e1 : shl .u32 (IntKind.u32.wrap ((y : Nat) : Int)) ((n : Nat) : Int) = ((y * 2 ^ n : Nat) : Int) := by
    have : shl .u32 (IntKind.u32.wrap ((y : Nat) : Int)) ((n : Nat) : Int) = IntKind.u32.wrap (IntKind.u32.wrap ((y : Nat) : Int) * 2 ^ (min n 32)) := rfl
    rw [this, Nat.min_eq_left (by omega), wrap32 ((y : Nat) : Int), Int.emod_eq_of_lt (by omega) (by omega), wrap32]
    have e : ((y : Nat) : Int) * 2 ^ n = ((y * 2 ^ n : Nat) : Int) := by rw [Int.natCast_mul, Int.natCast_pow]; rfl
    rw [e]
    exact Int.emod_eq_of_lt (by omega) (by omega)
  rw [e1]
  have e : bits2 .or .u32 ((x : Nat) : Int) ((y * 2 ^ n : Nat) : Int) = IntKind.u32.wrap (((BitVec.ofInt 32 ((x : Nat) : Int) ||| BitVec.ofInt 32 ((y * 2 ^ n : Nat) : Int)).toNat : Nat) : Int) := rfl
  have t : ∀ m : Nat, m < 4294967296 → (BitVec.ofInt 32 ((m : Nat) : Int)).toNat = m := by
    intro m hm
    rw [BitVec.toNat_ofInt]
    show (((m : Nat) : Int) % 4294967296).toNat = m
    omega
  rw [e, BitVec.toNat_or, t x (by omega), t (y * 2 ^ n) (by omega), Nat.or_comm, Nat.mul_comm y, ← Nat.two_pow_add_eq_or_of_lt hx, wrap32]
  have : ((2 ^ n * y + x : Nat) : Int) % 4294967296 = ((2 ^ n * y + x : Nat) : Int) := Int.emod_eq_of_lt (by omega) (by rw [Nat.mul_comm]; omega)
  rw [this, Int.natCast_add, Int.natCast_mul, Int.add_comm, Int.mul_comm]

theorem word4 {b0 b1 b2 b3 : Int} (h0 : 0 ≤ b0 ∧ b0 < 256) (h1 : 0 ≤ b1 ∧ b1 < 256) (h2 : 0 ≤ b2 ∧ b2 < 256) (h3 : 0 ≤ b3 ∧ b3 < 256) : (bits2 .or .u32 (bits2 .or .u32 (bits2 .or .u32 (bits2 .or .u32 (0 : Int) (shl .u32 (IntKind.u32.wrap b0) (0 : Int))) (shl .u32 (IntKind.u32.wrap b1) (8 : Int))) (shl .u32 (IntKind.u32.wrap b2) (16 : Int))) (shl .u32 (IntKind.u32.wrap b3) (24 : Int))) = b0 + 256 * b1 + 65536 * b2 + 16777216 * b3 := by
  have e0 : bits2 .or .u32 ((0 : Int)) (shl .u32 (IntKind.u32.wrap b0) (0 : Int)) = b0 := by
    have q := or_shl32 (a := (0 : Int)) (b := b0) (n := 0) (by omega) (by omega) (show _ < (1 : Int) by omega) h0.1 h0.2
    have q : bits2 .or .u32 ((0 : Int)) (shl .u32 (IntKind.u32.wrap b0) (0 : Int)) = ((0 : Int)) + b0 * 1 := q
    rw [q]; omega
  have e1 : bits2 .or .u32 (b0) (shl .u32 (IntKind.u32.wrap b1) (8 : Int)) = b0 + 256 * b1 := by
    have q := or_shl32 (a := b0) (b := b1) (n := 8) (by omega) (by omega) (show _ < (256 : Int) by omega) h1.1 h1.2
    have q : bits2 .or .u32 (b0) (shl .u32 (IntKind.u32.wrap b1) (8 : Int)) = (b0) + b1 * 256 := q
    rw [q]; omega
  have e2 : bits2 .or .u32 (b0 + 256 * b1) (shl .u32 (IntKind.u32.wrap b2) (16 : Int)) = b0 + 256 * b1 + 65536 * b2 := by
    have q := or_shl32 (a := b0 + 256 * b1) (b := b2) (n := 16) (by omega) (by omega) (show _ < (65536 : Int) by omega) h2.1 h2.2
    have q : bits2 .or .u32 (b0 + 256 * b1) (shl .u32 (IntKind.u32.wrap b2) (16 : Int)) = (b0 + 256 * b1) + b2 * 65536 := q
    rw [q]; omega
  have e3 : bits2 .or .u32 (b0 + 256 * b1 + 65536 * b2) (shl .u32 (IntKind.u32.wrap b3) (24 : Int)) = b0 + 256 * b1 + 65536 * b2 + 16777216 * b3 := by
    have q := or_shl32 (a := b0 + 256 * b1 + 65536 * b2) (b := b3) (n := 24) (by omega) (by omega) (show _ < (16777216 : Int) by omega) h3.1 h3.2
    have q : bits2 .or .u32 (b0 + 256 * b1 + 65536 * b2) (shl .u32 (IntKind.u32.wrap b3) (24 : Int)) = (b0 + 256 * b1 + 65536 * b2) + b3 * 16777216 := q
    rw [q]; omega
  rw [e0, e1, e2, e3]

def le4 (s : List Int) (o : Nat) : Int := List.getD s (o + 0) 0 + 256 * List.getD s (o + 1) 0 + 65536 * List.getD s (o + 2) 0 + 16777216 * List.getD s (o + 3) 0
theorem le4_rng {s : List Int} (h : Byt s) (o : Nat) : 0 ≤ le4 s o ∧ le4 s o < 4294967296 := by
  have h0 := byt_get h (o + 0)
  have h1 := byt_get h (o + 1)
  have h2 := byt_get h (o + 2)
  have h3 := byt_get h (o + 3)
  unfold le4
  omega
theorem le8_le4 (s : List Int) (o : Nat) : le8 s o = le4 s o + 4294967296 * le4 s (o + 4) := by
  unfold le8 le4
  simp only [Nat.add_assoc, Nat.reduceAdd]
  omega
theorem dig_eq {s : List Int} (h : Byt s) : digA s = [le4 s 0, le4 s 4, le4 s 8, le4 s 12, le4 s 16, le4 s 20, le4 s 24, le4 s 28] := by
  unfold digA
  rw [word4 (byt_get h 0) (byt_get h 1) (byt_get h 2) (byt_get h 3), word4 (byt_get h 4) (byt_get h 5) (byt_get h 6) (byt_get h 7), word4 (byt_get h 8) (byt_get h 9) (byt_get h 10) (byt_get h 11), word4 (byt_get h 12) (byt_get h 13) (byt_get h 14) (byt_get h 15), word4 (byt_get h 16) (byt_get h 17) (byt_get h 18) (byt_get h 19), word4 (byt_get h 20) (byt_get h 21) (byt_get h 22) (byt_get h 23), word4 (byt_get h 24) (byt_get h 25) (byt_get h 26) (byt_get h 27), word4 (byt_get h 28) (byt_get h 29) (byt_get h 30) (byt_get h 31)]
  rfl
theorem dig_wd {s : List Int} (h : Byt s) : Wd8 (digA s) := by
  rw [dig_eq h]
  intro x hx
  simp only [List.mem_cons, List.not_mem_nil, or_false] at hx
  rcases hx with rfl | rfl | rfl | rfl | rfl | rfl | rfl | rfl <;> exact le4_rng h _
theorem top8 {a0 a1 a2 a3 a4 a5 a6 a7 : Int} : topV [a0, a1, a2, a3, a4, a5, a6, a7] 8 8 = a0 + 4294967296 * a1 + 18446744073709551616 * a2 + 79228162514264337593543950336 * a3 + 340282366920938463463374607431768211456 * a4 + 1461501637330902918203684832716283019655932542976 * a5 + 6277101735386680763835789423207666416102355444464034512896 * a6 + 26959946667150639794667015087019630673637144422540572481103610249216 * a7 := by
  show (((((((0 * 4294967296 + a7) * 4294967296 + a6) * 4294967296 + a5) * 4294967296 + a4) * 4294967296 + a3) * 4294967296 + a2) * 4294967296 + a1) * 4294967296 + a0 = _
  omega
theorem sub_dig (s : List Int) : sub (digA s) 0 8 = digA s := by
  unfold sub
  rw [List.drop_zero]
  exact List.take_of_length_le (Nat.le_of_eq rfl)
theorem dig_wd2 {s : List Int} (h : Byt s) : Wd8 (sub (digA s) 0 8) := by rw [sub_dig]; exact dig_wd h
theorem dig_top {s : List Int} (h : Byt s) : topV (digA s) 8 8 = BV s := by
  rw [dig_eq h, top8]
  unfold BV
  rw [le8_le4, le8_le4, le8_le4, le8_le4]
  show _ = le4 s 0 + 4294967296 * le4 s 4 + 18446744073709551616 * (le4 s 8 + 4294967296 * le4 s 12) + 340282366920938463463374607431768211456 * (le4 s 16 + 4294967296 * le4 s 20) + 6277101735386680763835789423207666416102355444464034512896 * (le4 s 24 + 4294967296 * le4 s 28)
  omega
end Go.Proofs.Ytcpoldghkiiggaa.X
