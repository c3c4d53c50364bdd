/- The program's block and the document's: one function. -/
import Derived.Test.YtepimglipelpmaaSV
namespace Go.Proofs.Ytepimglipelpmaa.X
open Go Go.Proofs
set_option maxRecDepth 100000

theorem bits2_or_comm (x y : Int) : bits2 .or .u64 x y = bits2 .or .u64 y x := by
  unfold bits2
  simp only [BitVec.or_comm]

theorem ror_1 (x : Int) : ror x 1 = rorR x 1 := by
  have e1 : ror x 1 = bits2 .or .u64 (shl .u64 x 63) (shr .u64 x 1) := by kernel_rfl
  have e2 : rorR x 1 = bits2 .or .u64 (shr .u64 x 1) (shl .u64 x 63) := by kernel_rfl
  rw [e1, e2, bits2_or_comm]
theorem ror_8 (x : Int) : ror x 8 = rorR x 8 := by
  have e1 : ror x 8 = bits2 .or .u64 (shl .u64 x 56) (shr .u64 x 8) := by kernel_rfl
  have e2 : rorR x 8 = bits2 .or .u64 (shr .u64 x 8) (shl .u64 x 56) := by kernel_rfl
  rw [e1, e2, bits2_or_comm]
theorem ror_19 (x : Int) : ror x 19 = rorR x 19 := by
  have e1 : ror x 19 = bits2 .or .u64 (shl .u64 x 45) (shr .u64 x 19) := by kernel_rfl
  have e2 : rorR x 19 = bits2 .or .u64 (shr .u64 x 19) (shl .u64 x 45) := by kernel_rfl
  rw [e1, e2, bits2_or_comm]
theorem ror_61 (x : Int) : ror x 61 = rorR x 61 := by
  have e1 : ror x 61 = bits2 .or .u64 (shl .u64 x 3) (shr .u64 x 61) := by kernel_rfl
  have e2 : rorR x 61 = bits2 .or .u64 (shr .u64 x 61) (shl .u64 x 3) := by kernel_rfl
  rw [e1, e2, bits2_or_comm]
theorem ror_14 (x : Int) : ror x 14 = rorR x 14 := by
  have e1 : ror x 14 = bits2 .or .u64 (shl .u64 x 50) (shr .u64 x 14) := by kernel_rfl
  have e2 : rorR x 14 = bits2 .or .u64 (shr .u64 x 14) (shl .u64 x 50) := by kernel_rfl
  rw [e1, e2, bits2_or_comm]
theorem ror_18 (x : Int) : ror x 18 = rorR x 18 := by
  have e1 : ror x 18 = bits2 .or .u64 (shl .u64 x 46) (shr .u64 x 18) := by kernel_rfl
  have e2 : rorR x 18 = bits2 .or .u64 (shr .u64 x 18) (shl .u64 x 46) := by kernel_rfl
  rw [e1, e2, bits2_or_comm]
theorem ror_41 (x : Int) : ror x 41 = rorR x 41 := by
  have e1 : ror x 41 = bits2 .or .u64 (shl .u64 x 23) (shr .u64 x 41) := by kernel_rfl
  have e2 : rorR x 41 = bits2 .or .u64 (shr .u64 x 41) (shl .u64 x 23) := by kernel_rfl
  rw [e1, e2, bits2_or_comm]
theorem ror_28 (x : Int) : ror x 28 = rorR x 28 := by
  have e1 : ror x 28 = bits2 .or .u64 (shl .u64 x 36) (shr .u64 x 28) := by kernel_rfl
  have e2 : rorR x 28 = bits2 .or .u64 (shr .u64 x 28) (shl .u64 x 36) := by kernel_rfl
  rw [e1, e2, bits2_or_comm]
theorem ror_34 (x : Int) : ror x 34 = rorR x 34 := by
  have e1 : ror x 34 = bits2 .or .u64 (shl .u64 x 30) (shr .u64 x 34) := by kernel_rfl
  have e2 : rorR x 34 = bits2 .or .u64 (shr .u64 x 34) (shl .u64 x 30) := by kernel_rfl
  rw [e1, e2, bits2_or_comm]
theorem ror_39 (x : Int) : ror x 39 = rorR x 39 := by
  have e1 : ror x 39 = bits2 .or .u64 (shl .u64 x 25) (shr .u64 x 39) := by kernel_rfl
  have e2 : rorR x 39 = bits2 .or .u64 (shr .u64 x 39) (shl .u64 x 25) := by kernel_rfl
  rw [e1, e2, bits2_or_comm]

theorem konst_eq : konst = konstR := by kernel_rfl

theorem w1_eq (b s : List Int) (k : Nat) : bW1_step b k s = rW1_step b k s := by kernel_rfl
theorem w2_eq (s : List Int) (k : Nat) : bW2_step k s = rW2_step k s := by
  unfold bW2_step rW2_step
  simp only [ror_1, ror_8, ror_19, ror_61]
theorem w2_out (s : List Int) : bW2_out0 s = rW2_out0 s := by
  unfold bW2_out0 rW2_out0
  exact iter_congr fun i s _ => w2_eq s i
theorem w1_out (b s : List Int) : bW1_out0 b s = rW1_out0 b s := by
  unfold bW1_out0 rW1_out0
  exact iter_congr fun i s _ => w1_eq b s i
theorem t_eq (b s : List Int) (k : Nat) : bT_step b konst k s = rT_step b k s := by
  unfold bT_step rT_step
  simp only [ror_14, ror_18, ror_41, ror_28, ror_34, ror_39, w1_out, w2_out, konst_eq]
theorem t_out (b s : List Int) : bT_out0 b konst s = rT_out0 b s := by
  unfold bT_out0 rT_out0
  exact iter_congr fun i s _ => t_eq b s i

theorem eight {l : List Int} (h : l.length = 8) : ∃ a b c d e f g i, l = [a, b, c, d, e, f, g, i] := by
  match l, h with
  | [a, b, c, d, e, f, g, i], _ => exact ⟨a, b, c, d, e, f, g, i, rfl⟩

theorem rT_len (b S : List Int) : (rT_out0 b S).length = 8 := by kernel_rfl

theorem blk_eq {S : List Int} (b : List Int) (h : S.length = 8) : blk S b konst = blkR S b := by
  unfold blk blkR
  rw [t_out]
  have hT := rT_len b S
  generalize rT_out0 b S = T at hT ⊢
  obtain ⟨s0, s1, s2, s3, s4, s5, s6, s7, rfl⟩ := eight h
  obtain ⟨t0, t1, t2, t3, t4, t5, t6, t7, rfl⟩ := eight hT
  simp only [List.set_cons_zero, List.set_cons_succ, List.getD_cons_zero, List.getD_cons_succ, Int.add_comm]

theorem blk_len (S b : List Int) (h : S.length = 8) (C : List Int) : (blk S b C).length = 8 := by
  unfold blk
  simp only [List.length_set]
  exact h
end Go.Proofs.Ytepimglipelpmaa.X
