/- The reference's product, as numbers. -/
import Derived.Test.YtcpoldghkiiggaaOK
namespace Go.Proofs.Ytcpoldghkiiggaa.X
open Go Go.Proofs
set_option linter.unusedVariables false

theorem mO_inv {S T : List Int} (hS : Wd8 S) (hT : Wd8 T) : ∀ k, k ≤ 8 → Wd8 (mO S T k) ∧ (∀ i, k + 8 ≤ i → List.getD (mO S T k) i 0 = 0) ∧ valL (mO S T k) = tV S k * tV T 8
  | 0, _ => by
    refine ⟨?_, ?_, ?_⟩
    · intro x hx
      have : x = 0 := List.eq_of_mem_replicate hx
      omega
    · intro i hi
      show List.getD (List.replicate 16 (0 : Int)) i 0 = 0
      rw [List.getD_eq_getElem?_getD, List.getElem?_replicate]
      split <;> rfl
    · show valL (List.replicate 16 0) = 0 * tV T 8
      rw [Int.zero_mul]; rfl
  | k + 1, hk => by
    obtain ⟨i1, i2, i3⟩ := mO_inv hS hT k (by omega)
    obtain ⟨j1, j2, j3, j4⟩ := mI_inv hS hT i1 (mO_len S T k) (show k < 8 by omega) 8 (Nat.le_refl 8)
    have e : mO S T (k + 1) = (mIl S T k (mO S T k) 8).set (k + 8) (IntKind.u32.wrap (mIc S T k (mO S T k) 8)) := rfl
    have hlen : (mIl S T k (mO S T k) 8).length = 16 := by rw [mIl_len, mO_len]
    have hz : List.getD (mIl S T k (mO S T k) 8) (k + 8) 0 = 0 := by rw [j4 _ (by omega)]; exact i2 _ (by omega)
    refine ⟨by rw [e]; exact wd8_set j1 _ (wrap32_rng _), ?_, ?_⟩
    · intro i hi
      rw [e, List.getD_eq_getElem?_getD, List.getElem?_set_ne (by omega), ← List.getD_eq_getElem?_getD, j4 i (by omega)]
      exact i2 i (by omega)
    · rw [e, val_set _ _ _ (by omega), hz, wrap32, Int.emod_eq_of_lt j2.1 j2.2, Int.sub_zero, j3, i3]
      show _ = (tV S k + List.getD S k 0 * pw k) * tV T 8
      rw [Int.add_mul, Int.mul_assoc]

theorem tV_8 {S : List Int} (h : S.length = 8) : tV S 8 = V8 S := by
  obtain ⟨a0, a1, a2, a3, a4, a5, a6, a7, rfl⟩ := eight8 h
  have p0 : pw 0 = 1 := by decide +kernel
  have p1 : pw 1 = 4294967296 := by decide +kernel
  have p2 : pw 2 = 18446744073709551616 := by decide +kernel
  have p3 : pw 3 = 79228162514264337593543950336 := by decide +kernel
  have p4 : pw 4 = 340282366920938463463374607431768211456 := by decide +kernel
  have p5 : pw 5 = 1461501637330902918203684832716283019655932542976 := by decide +kernel
  have p6 : pw 6 = 6277101735386680763835789423207666416102355444464034512896 := by decide +kernel
  have p7 : pw 7 = 26959946667150639794667015087019630673637144422540572481103610249216 := by decide +kernel
  show 0 + a0 * pw 0 + a1 * pw 1 + a2 * pw 2 + a3 * pw 3 + a4 * pw 4 + a5 * pw 5 + a6 * pw 6 + a7 * pw 7 = a0 + 4294967296 * a1 + 18446744073709551616 * a2 + 79228162514264337593543950336 * a3 + 340282366920938463463374607431768211456 * a4 + 1461501637330902918203684832716283019655932542976 * a5 + 6277101735386680763835789423207666416102355444464034512896 * a6 + 26959946667150639794667015087019630673637144422540572481103610249216 * a7
  rw [p0, p1, p2, p3, p4, p5, p6, p7]
  omega
theorem top16 {l : List Int} (h : l.length = 16) : topV l 16 16 = valL l := by
  match l, h with
  | [a0, a1, a2, a3, a4, a5, a6, a7, a8, a9, a10, a11, a12, a13, a14, a15], _ =>
    show ((((((((((((((((0 * 4294967296 + a15) * 4294967296 + a14) * 4294967296 + a13) * 4294967296 + a12) * 4294967296 + a11) * 4294967296 + a10) * 4294967296 + a9) * 4294967296 + a8) * 4294967296 + a7) * 4294967296 + a6) * 4294967296 + a5) * 4294967296 + a4) * 4294967296 + a3) * 4294967296 + a2) * 4294967296 + a1) * 4294967296 + a0) = (a0 + 4294967296 * (a1 + 4294967296 * (a2 + 4294967296 * (a3 + 4294967296 * (a4 + 4294967296 * (a5 + 4294967296 * (a6 + 4294967296 * (a7 + 4294967296 * (a8 + 4294967296 * (a9 + 4294967296 * (a10 + 4294967296 * (a11 + 4294967296 * (a12 + 4294967296 * (a13 + 4294967296 * (a14 + 4294967296 * (a15 + 4294967296 * 0))))))))))))))))
    omega
theorem sub16 (S T : List Int) : sub (mO S T 8) 0 16 = mO S T 8 := by
  unfold sub
  rw [List.drop_zero]
  exact List.take_of_length_le (Nat.le_of_eq (mO_len S T 8))

theorem mul_can (S T : List Int) (h0 : Wd8 S) (h1 : Wd8 T) (w : World) : Body Try.prog (tabOf tabOJ) Try.f98 ⟨w, [], 0, noEnv⟩ (toA [.g [.ints .u32 (8 : Nat) S], .g [.ints .u32 (8 : Nat) T]]) [] (fun ys _ => ys = [.g [.ints .u32 (8 : Nat) (W8 (modL (V8 S * V8 T)))]]) :=
  Body.lens (c := (Try.f98.body.getD .skip)) rfl fun h => by
    have lS := h.vals 0 _ _ _ rfl
    have lT := h.vals 1 _ _ _ rfl
    obtain ⟨i1, i2, i3⟩ := mO_inv h0 h1 8 (Nat.le_refl 8)
    refine (mulR__body0 S T lS lT (by rw [sub16]; exact i1) w).mono fun xs K hx => ?_
    subst hx
    have e : mulR_ S T = W8 (modL (V8 S * V8 T)) := by
      unfold mulR_
      rw [sub16, top16 (mO_len S T 8), i3, tV_8 lS, tV_8 lT]
    rw [e]
end Go.Proofs.Ytcpoldghkiiggaa.X
