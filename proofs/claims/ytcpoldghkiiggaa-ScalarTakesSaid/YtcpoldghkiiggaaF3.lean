/- Texts of this session, put together (part 3). -/
import Derived.Test.YtcpoldghkiiggaaF2
import Derived.KernelRfl
/- Printed by a tool of this session. -/
namespace Go.Proofs.Ytcpoldghkiiggaa.X
open Go Go.Proofs
set_option linter.unusedVariables false
set_option linter.unusedSimpArgs false
set_option maxRecDepth 100000
noncomputable def tabQA : List (Nat × TE) := []
theorem tabOkQA : TabOk Try.prog (tabOf tabQA) := tabOf_nil

theorem addP_num_pure (a : List Int) (b : List Int) (h0 : (Byt a)) (h1 : (Byt b)) : PureC Try.prog 26 [.g [.ints .u8 (32 : Nat) a], .g [.ints .u8 (32 : Nat) b]] [.g [.ints .u8 (32 : Nat) (B32 (modL ((BV a) + (BV b))))]] :=
  PureC.of_body tabOkNT Try.func26 rfl rfl fun w => addP_num a b h0 h1 w

def gam43 : Gam := gpure 26 (fun args => match args with | [.o (.g [.ints .u8 (32 : Nat) a]), .o (.g [.ints .u8 (32 : Nat) b])] => some (some ((Byt a) ∧ (Byt b)), [.g [.ints .u8 (32 : Nat) (B32 (modL ((BV a) + (BV b))))]]) | _ => none) gam42
theorem gam43_ok : GamOk Try.prog gam43 := gpure_ok gam42_ok Try.call26 (by
  intro args vc xs h hv
  split at h
  · simp only [Option.some.injEq, Prod.mk.injEq] at h; obtain ⟨rfl, rfl⟩ := h; exact ⟨_, by rfl, addP_num_pure _ _ hv.1 hv.2⟩
  · simp at h)

theorem subP_num_pure (a : List Int) (b : List Int) (h0 : (Byt a)) (h1 : (Byt b)) : PureC Try.prog 28 [.g [.ints .u8 (32 : Nat) a], .g [.ints .u8 (32 : Nat) b]] [.g [.ints .u8 (32 : Nat) (B32 (modL ((BV a) - (BV b))))]] :=
  PureC.of_body tabOkNT Try.func28 rfl rfl fun w => subP_num a b h0 h1 w

def gam44 : Gam := gpure 28 (fun args => match args with | [.o (.g [.ints .u8 (32 : Nat) a]), .o (.g [.ints .u8 (32 : Nat) b])] => some (some ((Byt a) ∧ (Byt b)), [.g [.ints .u8 (32 : Nat) (B32 (modL ((BV a) - (BV b))))]]) | _ => none) gam43
theorem gam44_ok : GamOk Try.prog gam44 := gpure_ok gam43_ok Try.call28 (by
  intro args vc xs h hv
  split at h
  · simp only [Option.some.injEq, Prod.mk.injEq] at h; obtain ⟨rfl, rfl⟩ := h; exact ⟨_, by rfl, subP_num_pure _ _ hv.1 hv.2⟩
  · simp at h)

theorem negP_num_pure (a : List Int) (h0 : (Byt a)) : PureC Try.prog 30 [.g [.ints .u8 (32 : Nat) a]] [.g [.ints .u8 (32 : Nat) (B32 (modL (negI (BV a))))]] :=
  PureC.of_body tabOkNT Try.func30 rfl rfl fun w => negP_num a h0 w

def gam45 : Gam := gpure 30 (fun args => match args with | [.o (.g [.ints .u8 (32 : Nat) a])] => some (some ((Byt a)), [.g [.ints .u8 (32 : Nat) (B32 (modL (negI (BV a))))]]) | _ => none) gam44
theorem gam45_ok : GamOk Try.prog gam45 := gpure_ok gam44_ok Try.call30 (by
  intro args vc xs h hv
  split at h
  · simp only [Option.some.injEq, Prod.mk.injEq] at h; obtain ⟨rfl, rfl⟩ := h; exact ⟨_, by rfl, negP_num_pure _ hv⟩
  · simp at h)

theorem mulP_num_pure (a : List Int) (b : List Int) (h0 : (Byt a)) (h1 : (Byt b)) : PureC Try.prog 32 [.g [.ints .u8 (32 : Nat) a], .g [.ints .u8 (32 : Nat) b]] [.g [.ints .u8 (32 : Nat) (B32 (modL ((BV a) * (BV b))))]] :=
  PureC.of_body tabOkNT Try.func32 rfl rfl fun w => mulP_num a b h0 h1 w

def gam46 : Gam := gpure 32 (fun args => match args with | [.o (.g [.ints .u8 (32 : Nat) a]), .o (.g [.ints .u8 (32 : Nat) b])] => some (some ((Byt a) ∧ (Byt b)), [.g [.ints .u8 (32 : Nat) (B32 (modL ((BV a) * (BV b))))]]) | _ => none) gam45
theorem gam46_ok : GamOk Try.prog gam46 := gpure_ok gam45_ok Try.call32 (by
  intro args vc xs h hv
  split at h
  · simp only [Option.some.injEq, Prod.mk.injEq] at h; obtain ⟨rfl, rfl⟩ := h; exact ⟨_, by rfl, mulP_num_pure _ _ hv.1 hv.2⟩
  · simp at h)

theorem maddP_num_pure (a : List Int) (b : List Int) (c : List Int) (h0 : (Byt a)) (h1 : (Byt b)) (h2 : (Byt c)) : PureC Try.prog 34 [.g [.ints .u8 (32 : Nat) a], .g [.ints .u8 (32 : Nat) b], .g [.ints .u8 (32 : Nat) c]] [.g [.ints .u8 (32 : Nat) (B32 (modL (((BV a) * (BV b)) + (BV c))))]] :=
  PureC.of_body tabOkNT Try.func34 rfl rfl fun w => maddP_num a b c h0 h1 h2 w

def gam47 : Gam := gpure 34 (fun args => match args with | [.o (.g [.ints .u8 (32 : Nat) a]), .o (.g [.ints .u8 (32 : Nat) b]), .o (.g [.ints .u8 (32 : Nat) c])] => some (some ((Byt a) ∧ (Byt b) ∧ (Byt c)), [.g [.ints .u8 (32 : Nat) (B32 (modL (((BV a) * (BV b)) + (BV c))))]]) | _ => none) gam46
theorem gam47_ok : GamOk Try.prog gam47 := gpure_ok gam46_ok Try.call34 (by
  intro args vc xs h hv
  split at h
  · simp only [Option.some.injEq, Prod.mk.injEq] at h; obtain ⟨rfl, rfl⟩ := h; exact ⟨_, by rfl, maddP_num_pure _ _ _ hv.1 hv.2.1 hv.2.2⟩
  · simp at h)

theorem iszP_num_pure (a : List Int) (h0 : (Byt a)) : PureC Try.prog 36 [.g [.ints .u8 (32 : Nat) a]] [.a (.b ((modL (BV a)) == (0 : Int)))] :=
  PureC.of_body tabOkNT Try.func36 rfl rfl fun w => iszP_num a h0 w

def gam48 : Gam := gpure 36 (fun args => match args with | [.o (.g [.ints .u8 (32 : Nat) a])] => some (some ((Byt a)), [.a (.b ((modL (BV a)) == (0 : Int)))]) | _ => none) gam47
theorem gam48_ok : GamOk Try.prog gam48 := gpure_ok gam47_ok Try.call36 (by
  intro args vc xs h hv
  split at h
  · simp only [Option.some.injEq, Prod.mk.injEq] at h; obtain ⟨rfl, rfl⟩ := h; exact ⟨_, by rfl, iszP_num_pure _ hv⟩
  · simp at h)

theorem canP_num_pure (a : List Int) (h0 : (Byt a)) : PureC Try.prog 20 [.g [.ints .u8 (32 : Nat) a]] [.a (.b (decide ((BV a) < (LL))))] :=
  PureC.of_body tabOkNT Try.func20 rfl rfl fun w => canP_num a h0 w

def gam49 : Gam := gpure 20 (fun args => match args with | [.o (.g [.ints .u8 (32 : Nat) a])] => some (some ((Byt a)), [.a (.b (decide ((BV a) < (LL))))]) | _ => none) gam48
theorem gam49_ok : GamOk Try.prog gam49 := gpure_ok gam48_ok Try.call20 (by
  intro args vc xs h hv
  split at h
  · simp only [Option.some.injEq, Prod.mk.injEq] at h; obtain ⟨rfl, rfl⟩ := h; exact ⟨_, by rfl, canP_num_pure _ hv⟩
  · simp at h)

theorem fromP_num_pure (n : Int) (h0 : ((0 : Int) ≤ n)) (h1 : (n < (18446744073709551616 : Int))) : PureC Try.prog 22 [.a (.i .u64 n)] [.g [.ints .u8 (32 : Nat) (B32 n)]] :=
  PureC.of_body tabOkNT Try.func22 rfl rfl fun w => fromP_num n h0 h1 w

def gam50 : Gam := gpure 22 (fun args => match args with | [.o (.a (.i .u64 n))] => some (some (((0 : Int) ≤ n) ∧ (n < (18446744073709551616 : Int))), [.g [.ints .u8 (32 : Nat) (B32 n)]]) | _ => none) gam49
theorem gam50_ok : GamOk Try.prog gam50 := gpure_ok gam49_ok Try.call22 (by
  intro args vc xs h hv
  split at h
  · simp only [Option.some.injEq, Prod.mk.injEq] at h; obtain ⟨rfl, rfl⟩ := h; exact ⟨_, by rfl, fromP_num_pure _ hv.1 hv.2⟩
  · simp at h)

theorem inv_num_pure (a : List Int) (h0 : (Byt a)) : PureC Try.prog 40 [.g [.ints .u8 (32 : Nat) a]] [.g [.ints .u8 (32 : Nat) (B32 (invN (BV a)))], .a (.i .i64 (invE1 (BV a)))] :=
  PureC.of_body tabOkOS Try.func40 rfl rfl fun w => inv_num a h0 w

def gam51 : Gam := gpure 40 (fun args => match args with | [.o (.g [.ints .u8 (32 : Nat) a])] => some (some ((Byt a)), [.g [.ints .u8 (32 : Nat) (B32 (invN (BV a)))], .a (.i .i64 (invE1 (BV a)))]) | _ => none) gam50
theorem gam51_ok : GamOk Try.prog gam51 := gpure_ok gam50_ok Try.call40 (by
  intro args vc xs h hv
  split at h
  · simp only [Option.some.injEq, Prod.mk.injEq] at h; obtain ⟨rfl, rfl⟩ := h; exact ⟨_, by rfl, inv_num_pure _ hv⟩
  · simp at h)

theorem subR_num_pure (a : List Int) (b : List Int) (h0 : (Byt a)) (h1 : (Byt b)) : PureC Try.prog 29 [.g [.ints .u8 (32 : Nat) a], .g [.ints .u8 (32 : Nat) b]] [.g [.ints .u8 (32 : Nat) (B32 (modL ((BV a) - (BV b))))]] :=
  PureC.of_body tabOkOG Try.func29 rfl rfl fun w => subR_num a b h0 h1 w

def gam52 : Gam := gpure 29 (fun args => match args with | [.o (.g [.ints .u8 (32 : Nat) a]), .o (.g [.ints .u8 (32 : Nat) b])] => some (some ((Byt a) ∧ (Byt b)), [.g [.ints .u8 (32 : Nat) (B32 (modL ((BV a) - (BV b))))]]) | _ => none) gam51
theorem gam52_ok : GamOk Try.prog gam52 := gpure_ok gam51_ok Try.call29 (by
  intro args vc xs h hv
  split at h
  · simp only [Option.some.injEq, Prod.mk.injEq] at h; obtain ⟨rfl, rfl⟩ := h; exact ⟨_, by rfl, subR_num_pure _ _ hv.1 hv.2⟩
  · simp at h)

theorem mulR_num_pure (a : List Int) (b : List Int) (h0 : (Byt a)) (h1 : (Byt b)) : PureC Try.prog 33 [.g [.ints .u8 (32 : Nat) a], .g [.ints .u8 (32 : Nat) b]] [.g [.ints .u8 (32 : Nat) (B32 (modL ((BV a) * (BV b))))]] :=
  PureC.of_body tabOkOM Try.func33 rfl rfl fun w => mulR_num a b h0 h1 w

def gam53 : Gam := gpure 33 (fun args => match args with | [.o (.g [.ints .u8 (32 : Nat) a]), .o (.g [.ints .u8 (32 : Nat) b])] => some (some ((Byt a) ∧ (Byt b)), [.g [.ints .u8 (32 : Nat) (B32 (modL ((BV a) * (BV b))))]]) | _ => none) gam52
theorem gam53_ok : GamOk Try.prog gam53 := gpure_ok gam52_ok Try.call33 (by
  intro args vc xs h hv
  split at h
  · simp only [Option.some.injEq, Prod.mk.injEq] at h; obtain ⟨rfl, rfl⟩ := h; exact ⟨_, by rfl, mulR_num_pure _ _ hv.1 hv.2⟩
  · simp at h)

theorem maddR_num_pure (a : List Int) (b : List Int) (c : List Int) (h0 : (Byt a)) (h1 : (Byt b)) (h2 : (Byt c)) : PureC Try.prog 35 [.g [.ints .u8 (32 : Nat) a], .g [.ints .u8 (32 : Nat) b], .g [.ints .u8 (32 : Nat) c]] [.g [.ints .u8 (32 : Nat) (B32 (modL (((BV a) * (BV b)) + (BV c))))]] :=
  PureC.of_body tabOkOM Try.func35 rfl rfl fun w => maddR_num a b c h0 h1 h2 w

def gam54 : Gam := gpure 35 (fun args => match args with | [.o (.g [.ints .u8 (32 : Nat) a]), .o (.g [.ints .u8 (32 : Nat) b]), .o (.g [.ints .u8 (32 : Nat) c])] => some (some ((Byt a) ∧ (Byt b) ∧ (Byt c)), [.g [.ints .u8 (32 : Nat) (B32 (modL (((BV a) * (BV b)) + (BV c))))]]) | _ => none) gam53
theorem gam54_ok : GamOk Try.prog gam54 := gpure_ok gam53_ok Try.call35 (by
  intro args vc xs h hv
  split at h
  · simp only [Option.some.injEq, Prod.mk.injEq] at h; obtain ⟨rfl, rfl⟩ := h; exact ⟨_, by rfl, maddR_num_pure _ _ _ hv.1 hv.2.1 hv.2.2⟩
  · simp at h)

theorem iszR_num_pure (a : List Int) (h0 : (Byt a)) : PureC Try.prog 37 [.g [.ints .u8 (32 : Nat) a]] [.a (.b ((modL (BV a)) == (0 : Int)))] :=
  PureC.of_body tabOkOD Try.func37 rfl rfl fun w => iszR_num a h0 w

def gam55 : Gam := gpure 37 (fun args => match args with | [.o (.g [.ints .u8 (32 : Nat) a])] => some (some ((Byt a)), [.a (.b ((modL (BV a)) == (0 : Int)))]) | _ => none) gam54
theorem gam55_ok : GamOk Try.prog gam55 := gpure_ok gam54_ok Try.call37 (by
  intro args vc xs h hv
  split at h
  · simp only [Option.some.injEq, Prod.mk.injEq] at h; obtain ⟨rfl, rfl⟩ := h; exact ⟨_, by rfl, iszR_num_pure _ hv⟩
  · simp at h)

end Go.Proofs.Ytcpoldghkiiggaa.X

/- Sums and products modulo the order: what the laws of a field come down to. -/
namespace Go.Proofs.Ytcpoldghkiiggaa.X
open Go Go.Proofs
set_option linter.unusedVariables false
set_option maxRecDepth 100000

theorem not_dec {x y : List Int} (h : x = y) : (!(decide (x = y))) = false := by rw [decide_eq_true h]; rfl
theorem not_beq {x y : Bool} (h : x = y) : (!(x == y)) = false := by subst h; cases x <;> rfl
theorem modL_modL (x : Int) : modL (modL x) = modL x := Int.emod_emod_of_dvd _ (Int.dvd_refl LL)
theorem modL_mulr (x y : Int) : modL (x * modL y) = modL (x * y) := by rw [← modL_mul, modL_modL, modL_mul]
theorem modL_mull (x y : Int) : modL (modL x * y) = modL (x * y) := by rw [← modL_mul, modL_modL, modL_mul]
theorem modL_subr (x y : Int) : modL (x - modL y) = modL (x - y) := by unfold modL LL; omega
theorem modL_subl (x y : Int) : modL (modL x - y) = modL (x - y) := by unfold modL LL; omega
theorem BV_zero : BV [0, 0, 0, 0, 0, 0, 0, 0, 0, 0, 0, 0, 0, 0, 0, 0, 0, 0, 0, 0, 0, 0, 0, 0, 0, 0, 0, 0, 0, 0, 0, 0] = 0 := by decide +kernel
theorem BV_one : BV [1, 0, 0, 0, 0, 0, 0, 0, 0, 0, 0, 0, 0, 0, 0, 0, 0, 0, 0, 0, 0, 0, 0, 0, 0, 0, 0, 0, 0, 0, 0, 0] = 1 := by decide +kernel
theorem B32_one : B32 1 = [1, 0, 0, 0, 0, 0, 0, 0, 0, 0, 0, 0, 0, 0, 0, 0, 0, 0, 0, 0, 0, 0, 0, 0, 0, 0, 0, 0, 0, 0, 0, 0] := by decide +kernel
theorem B32_inj {x y : Int} (hx : 0 ≤ x ∧ x < 115792089237316195423570985008687907853269984665640564039457584007913129639936) (hy : 0 ≤ y ∧ y < 115792089237316195423570985008687907853269984665640564039457584007913129639936) (h : B32 x = B32 y) : x = y := by
  rw [← BV_B32 hx.1 hx.2, h, BV_B32 hy.1 hy.2]
theorem modL_small {x : Int} (h0 : 0 ≤ x) (h1 : x < LL) : modL x = x := Int.emod_eq_of_lt h0 h1
theorem modL_b2 (x : Int) : 0 ≤ modL x ∧ modL x < 115792089237316195423570985008687907853269984665640564039457584007913129639936 := ⟨(modL_rng x).1, (modL_rng x).2.2⟩
theorem B32_zero {x : Int} : B32 (modL x) = [0, 0, 0, 0, 0, 0, 0, 0, 0, 0, 0, 0, 0, 0, 0, 0, 0, 0, 0, 0, 0, 0, 0, 0, 0, 0, 0, 0, 0, 0, 0, 0] ↔ modL x = 0 := by
  rw [← B32_0]
  constructor
  · exact fun h => B32_inj (modL_b2 x) (by omega) h
  · intro h; rw [h]
theorem len32 {s : List Int} (h : s.length = 32) : ∃ a0 a1 a2 a3 a4 a5 a6 a7 b0 b1 b2 b3 b4 b5 b6 b7 c0 c1 c2 c3 c4 c5 c6 c7 d0 d1 d2 d3 d4 d5 d6 d7, s = [a0, a1, a2, a3, a4, a5, a6, a7, b0, b1, b2, b3, b4, b5, b6, b7, c0, c1, c2, c3, c4, c5, c6, c7, d0, d1, d2, d3, d4, d5, d6, d7] := by
  match s, h with
  | [a0, a1, a2, a3, a4, a5, a6, a7, b0, b1, b2, b3, b4, b5, b6, b7, c0, c1, c2, c3, c4, c5, c6, c7, d0, d1, d2, d3, d4, d5, d6, d7], _ => exact ⟨_, _, _, _, _, _, _, _, _, _, _, _, _, _, _, _, _, _, _, _, _, _, _, _, _, _, _, _, _, _, _, _, rfl⟩
theorem dig8 {a0 a1 a2 a3 a4 a5 a6 a7 e0 e1 e2 e3 e4 e5 e6 e7 : Int} (ha0 : 0 ≤ a0 ∧ a0 < 256) (ha1 : 0 ≤ a1 ∧ a1 < 256) (ha2 : 0 ≤ a2 ∧ a2 < 256) (ha3 : 0 ≤ a3 ∧ a3 < 256) (ha4 : 0 ≤ a4 ∧ a4 < 256) (ha5 : 0 ≤ a5 ∧ a5 < 256) (ha6 : 0 ≤ a6 ∧ a6 < 256) (ha7 : 0 ≤ a7 ∧ a7 < 256) (he0 : 0 ≤ e0 ∧ e0 < 256) (he1 : 0 ≤ e1 ∧ e1 < 256) (he2 : 0 ≤ e2 ∧ e2 < 256) (he3 : 0 ≤ e3 ∧ e3 < 256) (he4 : 0 ≤ e4 ∧ e4 < 256) (he5 : 0 ≤ e5 ∧ e5 < 256) (he6 : 0 ≤ e6 ∧ e6 < 256) (he7 : 0 ≤ e7 ∧ e7 < 256) (h : a0 + 256 * a1 + 65536 * a2 + 16777216 * a3 + 4294967296 * a4 + 1099511627776 * a5 + 281474976710656 * a6 + 72057594037927936 * a7 = e0 + 256 * e1 + 65536 * e2 + 16777216 * e3 + 4294967296 * e4 + 1099511627776 * e5 + 281474976710656 * e6 + 72057594037927936 * e7) : a0 = e0 ∧ a1 = e1 ∧ a2 = e2 ∧ a3 = e3 ∧ a4 = e4 ∧ a5 = e5 ∧ a6 = e6 ∧ a7 = e7 := by
  have qa0 : a0 = e0 := by omega
  have qa1 : a1 = e1 := by omega
  have qa2 : a2 = e2 := by omega
  have qa3 : a3 = e3 := by omega
  have qa4 : a4 = e4 := by omega
  have qa5 : a5 = e5 := by omega
  have qa6 : a6 = e6 := by omega
  have qa7 : a7 = e7 := by omega
  exact ⟨qa0, qa1, qa2, qa3, qa4, qa5, qa6, qa7⟩
theorem list32 {s t : List Int} (hs : Byt s) (ht : Byt t) (ls : s.length = 32) (lt : t.length = 32) (h0 : le8 s 0 = le8 t 0) (h1 : le8 s 8 = le8 t 8) (h2 : le8 s 16 = le8 t 16) (h3 : le8 s 24 = le8 t 24) : s = t := by
  obtain ⟨a0, a1, a2, a3, a4, a5, a6, a7, b0, b1, b2, b3, b4, b5, b6, b7, c0, c1, c2, c3, c4, c5, c6, c7, d0, d1, d2, d3, d4, d5, d6, d7, rfl⟩ := len32 ls
  obtain ⟨e0, e1, e2, e3, e4, e5, e6, e7, f0, f1, f2, f3, f4, f5, f6, f7, m0, m1, m2, m3, m4, m5, m6, m7, n0, n1, n2, n3, n4, n5, n6, n7, rfl⟩ := len32 lt
  have g : ∀ x ∈ [a0, a1, a2, a3, a4, a5, a6, a7, b0, b1, b2, b3, b4, b5, b6, b7, c0, c1, c2, c3, c4, c5, c6, c7, d0, d1, d2, d3, d4, d5, d6, d7], 0 ≤ x ∧ x < 256 := hs
  have k : ∀ x ∈ [e0, e1, e2, e3, e4, e5, e6, e7, f0, f1, f2, f3, f4, f5, f6, f7, m0, m1, m2, m3, m4, m5, m6, m7, n0, n1, n2, n3, n4, n5, n6, n7], 0 ≤ x ∧ x < 256 := ht
  simp only [List.forall_mem_cons] at g k
  obtain ⟨ha0, ha1, ha2, ha3, ha4, ha5, ha6, ha7, hb0, hb1, hb2, hb3, hb4, hb5, hb6, hb7, hc0, hc1, hc2, hc3, hc4, hc5, hc6, hc7, hd0, hd1, hd2, hd3, hd4, hd5, hd6, hd7, _⟩ := g
  obtain ⟨he0, he1, he2, he3, he4, he5, he6, he7, hf0, hf1, hf2, hf3, hf4, hf5, hf6, hf7, hm0, hm1, hm2, hm3, hm4, hm5, hm6, hm7, hn0, hn1, hn2, hn3, hn4, hn5, hn6, hn7, _⟩ := k
  obtain ⟨rfl, rfl, rfl, rfl, rfl, rfl, rfl, rfl⟩ := dig8 ha0 ha1 ha2 ha3 ha4 ha5 ha6 ha7 he0 he1 he2 he3 he4 he5 he6 he7 h0
  obtain ⟨rfl, rfl, rfl, rfl, rfl, rfl, rfl, rfl⟩ := dig8 hb0 hb1 hb2 hb3 hb4 hb5 hb6 hb7 hf0 hf1 hf2 hf3 hf4 hf5 hf6 hf7 h1
  obtain ⟨rfl, rfl, rfl, rfl, rfl, rfl, rfl, rfl⟩ := dig8 hc0 hc1 hc2 hc3 hc4 hc5 hc6 hc7 hm0 hm1 hm2 hm3 hm4 hm5 hm6 hm7 h2
  obtain ⟨rfl, rfl, rfl, rfl, rfl, rfl, rfl, rfl⟩ := dig8 hd0 hd1 hd2 hd3 hd4 hd5 hd6 hd7 hn0 hn1 hn2 hn3 hn4 hn5 hn6 hn7 h3
  rfl
/-- the bytes of the number of bytes -/
theorem B32_BV {s : List Int} (h : Byt s) (l : s.length = 32) : B32 (BV s) = s := by
  obtain ⟨L0, L1, L2, L3⟩ := le8_B32 (BV s)
  have r0 := le8_rng h 0
  have r1 := le8_rng h 8
  have r2 := le8_rng h 16
  have r3 := le8_rng h 24
  have e : BV s = le8 s 0 + 18446744073709551616 * le8 s 8 + 340282366920938463463374607431768211456 * le8 s 16 + 6277101735386680763835789423207666416102355444464034512896 * le8 s 24 := rfl
  exact list32 (byt_B32 _) h rfl l (by rw [L0, e]; omega) (by rw [L1, e]; omega) (by rw [L2, e]; omega) (by rw [L3, e]; omega)
theorem low_self {a : List Int} (h : Byt a) (l : a.length = 32) : decide (BV a < LL) = decide (B32 (modL (BV a)) = a) := by
  refine decide_eq_decide.2 ⟨fun hc => ?_, fun hc => ?_⟩
  · rw [modL_small (BV_rng h).1 hc, B32_BV h l]
  · rw [← hc, BV_modL]; exact (modL_rng _).2.1
end Go.Proofs.Ytcpoldghkiiggaa.X

