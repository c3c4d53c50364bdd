/- Texts of this session, put together (part 4), less what nothing uses. -/
import Derived.Test.YtcpoldghkiiggaaZcom3
import Derived.KernelRfl
/- Texts of this session, put together (part 3). -/
/- Printed by a tool of this session. -/
namespace Go.Proofs.Ytcpoldghkiiggaa.X
open Go Go.Proofs
set_option linter.unusedVariables false
set_option linter.unusedSimpArgs false
set_option maxRecDepth 100000
theorem addP_num_pure (a : List Int) (b : List Int) (h0 : (Byt a)) (h1 : (Byt b)) : PureC Try.prog 26 [.g [.ints .u8 (32 : Nat) a], .g [.ints .u8 (32 : Nat) b]] [.g [.ints .u8 (32 : Nat) (B32 (modL ((BV a) + (BV b))))]] :=
  PureC.of_body tabOkNT Try.func26 rfl rfl fun w => addP_num a b h0 h1 w

def gam43 : Gam := gpure 26 (fun args => match args with | [.o (.g [.ints .u8 (32 : Nat) a]), .o (.g [.ints .u8 (32 : Nat) b])] => some (some ((Byt a) ∧ (Byt b)), [.g [.ints .u8 (32 : Nat) (B32 (modL ((BV a) + (BV b))))]]) | _ => none) gam42
theorem gam43_ok : GamOk Try.prog gam43 := gpure_ok gam42_ok Try.call26 (by
  intro args vc xs h hv
  split at h
  · simp only [Option.some.injEq, Prod.mk.injEq] at h; obtain ⟨rfl, rfl⟩ := h; exact ⟨_, by rfl, addP_num_pure _ _ hv.1 hv.2⟩
  · simp at h)

theorem subP_num_pure (a : List Int) (b : List Int) (h0 : (Byt a)) (h1 : (Byt b)) : PureC Try.prog 28 [.g [.ints .u8 (32 : Nat) a], .g [.ints .u8 (32 : Nat) b]] [.g [.ints .u8 (32 : Nat) (B32 (modL ((BV a) - (BV b))))]] :=
  PureC.of_body tabOkNT Try.func28 rfl rfl fun w => subP_num a b h0 h1 w

def gam44 : Gam := gpure 28 (fun args => match args with | [.o (.g [.ints .u8 (32 : Nat) a]), .o (.g [.ints .u8 (32 : Nat) b])] => some (some ((Byt a) ∧ (Byt b)), [.g [.ints .u8 (32 : Nat) (B32 (modL ((BV a) - (BV b))))]]) | _ => none) gam43
theorem gam44_ok : GamOk Try.prog gam44 := gpure_ok gam43_ok Try.call28 (by
  intro args vc xs h hv
  split at h
  · simp only [Option.some.injEq, Prod.mk.injEq] at h; obtain ⟨rfl, rfl⟩ := h; exact ⟨_, by rfl, subP_num_pure _ _ hv.1 hv.2⟩
  · simp at h)

theorem negP_num_pure (a : List Int) (h0 : (Byt a)) : PureC Try.prog 30 [.g [.ints .u8 (32 : Nat) a]] [.g [.ints .u8 (32 : Nat) (B32 (modL (negI (BV a))))]] :=
  PureC.of_body tabOkNT Try.func30 rfl rfl fun w => negP_num a h0 w

def gam45 : Gam := gpure 30 (fun args => match args with | [.o (.g [.ints .u8 (32 : Nat) a])] => some (some ((Byt a)), [.g [.ints .u8 (32 : Nat) (B32 (modL (negI (BV a))))]]) | _ => none) gam44
theorem gam45_ok : GamOk Try.prog gam45 := gpure_ok gam44_ok Try.call30 (by
  intro args vc xs h hv
  split at h
  · simp only [Option.some.injEq, Prod.mk.injEq] at h; obtain ⟨rfl, rfl⟩ := h; exact ⟨_, by rfl, negP_num_pure _ hv⟩
  · simp at h)

theorem mulP_num_pure (a : List Int) (b : List Int) (h0 : (Byt a)) (h1 : (Byt b)) : PureC Try.prog 32 [.g [.ints .u8 (32 : Nat) a], .g [.ints .u8 (32 : Nat) b]] [.g [.ints .u8 (32 : Nat) (B32 (modL ((BV a) * (BV b))))]] :=
  PureC.of_body tabOkNT Try.func32 rfl rfl fun w => mulP_num a b h0 h1 w

def gam46 : Gam := gpure 32 (fun args => match args with | [.o (.g [.ints .u8 (32 : Nat) a]), .o (.g [.ints .u8 (32 : Nat) b])] => some (some ((Byt a) ∧ (Byt b)), [.g [.ints .u8 (32 : Nat) (B32 (modL ((BV a) * (BV b))))]]) | _ => none) gam45
theorem gam46_ok : GamOk Try.prog gam46 := gpure_ok gam45_ok Try.call32 (by
  intro args vc xs h hv
  split at h
  · simp only [Option.some.injEq, Prod.mk.injEq] at h; obtain ⟨rfl, rfl⟩ := h; exact ⟨_, by rfl, mulP_num_pure _ _ hv.1 hv.2⟩
  · simp at h)

theorem canP_num_pure (a : List Int) (h0 : (Byt a)) : PureC Try.prog 20 [.g [.ints .u8 (32 : Nat) a]] [.a (.b (decide ((BV a) < (LL))))] :=
  PureC.of_body tabOkNT Try.func20 rfl rfl fun w => canP_num a h0 w

def gam49 : Gam := gpure 20 (fun args => match args with | [.o (.g [.ints .u8 (32 : Nat) a])] => some (some ((Byt a)), [.a (.b (decide ((BV a) < (LL))))]) | _ => none) gam46
theorem gam49_ok : GamOk Try.prog gam49 := gpure_ok gam46_ok Try.call20 (by
  intro args vc xs h hv
  split at h
  · simp only [Option.some.injEq, Prod.mk.injEq] at h; obtain ⟨rfl, rfl⟩ := h; exact ⟨_, by rfl, canP_num_pure _ hv⟩
  · simp at h)

theorem fromP_num_pure (n : Int) (h0 : ((0 : Int) ≤ n)) (h1 : (n < (18446744073709551616 : Int))) : PureC Try.prog 22 [.a (.i .u64 n)] [.g [.ints .u8 (32 : Nat) (B32 n)]] :=
  PureC.of_body tabOkNT Try.func22 rfl rfl fun w => fromP_num n h0 h1 w

def gam50 : Gam := gpure 22 (fun args => match args with | [.o (.a (.i .u64 n))] => some (some (((0 : Int) ≤ n) ∧ (n < (18446744073709551616 : Int))), [.g [.ints .u8 (32 : Nat) (B32 n)]]) | _ => none) gam49
theorem gam50_ok : GamOk Try.prog gam50 := gpure_ok gam49_ok Try.call22 (by
  intro args vc xs h hv
  split at h
  · simp only [Option.some.injEq, Prod.mk.injEq] at h; obtain ⟨rfl, rfl⟩ := h; exact ⟨_, by rfl, fromP_num_pure _ hv.1 hv.2⟩
  · simp at h)

theorem inv_num_pure (a : List Int) (h0 : (Byt a)) : PureC Try.prog 40 [.g [.ints .u8 (32 : Nat) a]] [.g [.ints .u8 (32 : Nat) (B32 (invN (BV a)))], .a (.i .i64 (invE1 (BV a)))] :=
  PureC.of_body tabOkOS Try.func40 rfl rfl fun w => inv_num a h0 w

def gam51 : Gam := gpure 40 (fun args => match args with | [.o (.g [.ints .u8 (32 : Nat) a])] => some (some ((Byt a)), [.g [.ints .u8 (32 : Nat) (B32 (invN (BV a)))], .a (.i .i64 (invE1 (BV a)))]) | _ => none) gam50
theorem gam51_ok : GamOk Try.prog gam51 := gpure_ok gam50_ok Try.call40 (by
  intro args vc xs h hv
  split at h
  · simp only [Option.some.injEq, Prod.mk.injEq] at h; obtain ⟨rfl, rfl⟩ := h; exact ⟨_, by rfl, inv_num_pure _ hv⟩
  · simp at h)

end Go.Proofs.Ytcpoldghkiiggaa.X

/- Sums and products modulo the order: what the laws of a field come down to. -/
namespace Go.Proofs.Ytcpoldghkiiggaa.X
open Go Go.Proofs
set_option linter.unusedVariables false
set_option maxRecDepth 100000

theorem not_dec {x y : List Int} (h : x = y) : (!(decide (x = y))) = false := by rw [decide_eq_true h]; rfl
theorem modL_modL (x : Int) : modL (modL x) = modL x := Int.emod_emod_of_dvd _ (Int.dvd_refl LL)
theorem modL_mull (x y : Int) : modL (modL x * y) = modL (x * y) := by rw [← modL_mul, modL_modL, modL_mul]
theorem modL_subl (x y : Int) : modL (modL x - y) = modL (x - y) := by unfold modL LL; omega
theorem BV_zero : BV [0, 0, 0, 0, 0, 0, 0, 0, 0, 0, 0, 0, 0, 0, 0, 0, 0, 0, 0, 0, 0, 0, 0, 0, 0, 0, 0, 0, 0, 0, 0, 0] = 0 := by decide +kernel
theorem len32 {s : List Int} (h : s.length = 32) : ∃ a0 a1 a2 a3 a4 a5 a6 a7 b0 b1 b2 b3 b4 b5 b6 b7 c0 c1 c2 c3 c4 c5 c6 c7 d0 d1 d2 d3 d4 d5 d6 d7, s = [a0, a1, a2, a3, a4, a5, a6, a7, b0, b1, b2, b3, b4, b5, b6, b7, c0, c1, c2, c3, c4, c5, c6, c7, d0, d1, d2, d3, d4, d5, d6, d7] := by
  match s, h with
  | [a0, a1, a2, a3, a4, a5, a6, a7, b0, b1, b2, b3, b4, b5, b6, b7, c0, c1, c2, c3, c4, c5, c6, c7, d0, d1, d2, d3, d4, d5, d6, d7], _ => exact ⟨_, _, _, _, _, _, _, _, _, _, _, _, _, _, _, _, _, _, _, _, _, _, _, _, _, _, _, _, _, _, _, _, rfl⟩
end Go.Proofs.Ytcpoldghkiiggaa.X

/- Bytes as a number of any length; its bits; powers by its bits. -/
namespace Go.Proofs.Ytcpoldghkiiggaa.X
open Go Go.Proofs
set_option linter.unusedVariables false
set_option maxRecDepth 100000

/-- the number of bytes, the lowest first -/
def nb : List Int → Nat
  | [] => 0
  | x :: l => x.toNat + 256 * nb l
theorem nb_div : ∀ (i : Nat) {l : List Int}, Byt l → nb l / 256 ^ i = nb (l.drop i)
  | 0, l, _ => by rw [Nat.pow_zero, Nat.div_one]; rfl
  | i + 1, [], _ => by show 0 / _ = 0; exact Nat.zero_div _
  | i + 1, x :: l, h => by
    have hx := h x (List.mem_cons_self ..)
    show (x.toNat + 256 * nb l) / 256 ^ (i + 1) = nb (l.drop i)
    rw [Nat.pow_succ', ← Nat.div_div_eq_div_mul, show (x.toNat + 256 * nb l) / 256 = nb l by omega]
    exact nb_div i fun y hy => h y (List.mem_cons_of_mem _ hy)
theorem nb_drop {l : List Int} {i : Nat} (hi : i < l.length) : nb (l.drop i) = (List.getD l i 0).toNat + 256 * nb (l.drop (i + 1)) := by
  rw [List.drop_eq_getElem_cons hi, List.getD_eq_getElem?_getD, List.getElem?_eq_getElem hi]; rfl
theorem bit_ofN {w r s d : Nat} (hs : s < d) : (w + 2 ^ d * r) / 2 ^ s % 2 = w / 2 ^ s % 2 := by
  obtain ⟨c, rfl⟩ : ∃ c, d = s + (c + 1) := ⟨d - s - 1, by omega⟩
  have e : w + 2 ^ (s + (c + 1)) * r = w + 2 ^ s * (2 ^ (c + 1) * r) := by rw [Nat.pow_add, Nat.mul_assoc]
  rw [e, Nat.add_mul_div_left _ _ (Nat.pow_pos (by omega)), Nat.pow_succ, Nat.mul_comm (2 ^ c), Nat.mul_assoc, Nat.add_mul_mod_self_left]
theorem nb_bit {l : List Int} (h : Byt l) {i s : Nat} (hi : i < l.length) (hs : s < 8) : nb l / 2 ^ (8 * i + s) % 2 = (List.getD l i 0).toNat / 2 ^ s % 2 := by
  rw [Nat.pow_add, ← Nat.div_div_eq_div_mul, Nat.pow_mul, show (2 : Nat) ^ 8 = 256 from rfl, nb_div i h, nb_drop hi]
  exact bit_ofN (d := 8) hs

theorem shr8n {x : Int} {s : Nat} (hs : s ≤ 8) : shr .u8 x ((s : Nat) : Int) = x / 2 ^ s := by
  have e2 : shr .u8 x ((s : Nat) : Int) = x.fdiv (2 ^ (min s 8)) := rfl
  rw [e2, Nat.min_eq_left hs, Int.fdiv_eq_ediv_of_nonneg _ (Int.le_of_lt (Int.pow_pos (by omega)))]
theorem bit_and8 (y : Int) : bits2 .and .u8 y 1 = y % 2 := by
  have e : bits2 .and .u8 y 1 = IntKind.u8.wrap (((BitVec.ofInt 8 y &&& BitVec.ofInt 8 1).toNat : Nat) : Int) := rfl
  have t2 : (BitVec.ofInt 8 1).toNat = 2 ^ 1 - 1 := by rfl
  rw [e, BitVec.toNat_and, t2, Nat.and_two_pow_sub_one_eq_mod, BitVec.toNat_ofInt, wrap8]
  show (((y % 256).toNat % 2 ^ 1 : Nat) : Int) % 256 = y % 2
  omega
theorem byt_bit {l : List Int} (h : Byt l) {i s : Nat} (hi : i < l.length) (hs : s < 8) : bits2 .and .u8 (shr .u8 (List.getD l i 0) ((s : Nat) : Int)) 1 = ((nb l / 2 ^ (8 * i + s) % 2 : Nat) : Int) := by
  have hx := byt_get h i
  rw [bit_and8, shr8n (by omega), nb_bit h hi hs, Int.natCast_emod, Int.natCast_ediv, Int.natCast_pow, Int.toNat_of_nonneg hx.1]; rfl

/-! the reference -/
/-! the number of 32 bytes -/
theorem nb8 {a0 a1 a2 a3 a4 a5 a6 a7 : Int} (l : List Int) (h0 : 0 ≤ a0) (h1 : 0 ≤ a1) (h2 : 0 ≤ a2) (h3 : 0 ≤ a3) (h4 : 0 ≤ a4) (h5 : 0 ≤ a5) (h6 : 0 ≤ a6) (h7 : 0 ≤ a7) :
    ((nb (a0 :: a1 :: a2 :: a3 :: a4 :: a5 :: a6 :: a7 :: l) : Nat) : Int) = a0 + 256 * a1 + 65536 * a2 + 16777216 * a3 + 4294967296 * a4 + 1099511627776 * a5 + 281474976710656 * a6 + 72057594037927936 * a7 + 18446744073709551616 * ((nb l : Nat) : Int) := by
  simp only [nb]
  omega
theorem BV_nb {s : List Int} (h : Byt s) (l : s.length = 32) : BV s = ((nb s : Nat) : Int) := by
  obtain ⟨a0, a1, a2, a3, a4, a5, a6, a7, b0, b1, b2, b3, b4, b5, b6, b7, c0, c1, c2, c3, c4, c5, c6, c7, d0, d1, d2, d3, d4, d5, d6, d7, rfl⟩ := len32 l
  have g : ∀ x ∈ [a0, a1, a2, a3, a4, a5, a6, a7, b0, b1, b2, b3, b4, b5, b6, b7, c0, c1, c2, c3, c4, c5, c6, c7, d0, d1, d2, d3, d4, d5, d6, d7], 0 ≤ x ∧ x < 256 := h
  simp only [List.forall_mem_cons] at g
  obtain ⟨ha0, ha1, ha2, ha3, ha4, ha5, ha6, ha7, hb0, hb1, hb2, hb3, hb4, hb5, hb6, hb7, hc0, hc1, hc2, hc3, hc4, hc5, hc6, hc7, hd0, hd1, hd2, hd3, hd4, hd5, hd6, hd7, _⟩ := g
  rw [nb8 _ ha0.1 ha1.1 ha2.1 ha3.1 ha4.1 ha5.1 ha6.1 ha7.1, nb8 _ hb0.1 hb1.1 hb2.1 hb3.1 hb4.1 hb5.1 hb6.1 hb7.1, nb8 _ hc0.1 hc1.1 hc2.1 hc3.1 hc4.1 hc5.1 hc6.1 hc7.1, nb8 _ hd0.1 hd1.1 hd2.1 hd3.1 hd4.1 hd5.1 hd6.1 hd7.1]
  simp only [BV, le8, List.getD_cons_zero, List.getD_cons_succ, Nat.zero_add]
  show _ = _ + 18446744073709551616 * (_ + 18446744073709551616 * (_ + 18446744073709551616 * (_ + 18446744073709551616 * ((0 : Nat) : Int))))
  omega
end Go.Proofs.Ytcpoldghkiiggaa.X

/- Power of the reference, as a number; squares. -/
namespace Go.Proofs.Ytcpoldghkiiggaa.X
open Go Go.Proofs
set_option linter.unusedVariables false
set_option maxRecDepth 100000

def powW (S E : List Int) : Int := modL (V4 S ^ (V4 E).toNat)
theorem powW_eq {S E : List Int} (hE : Wds E) (l : E.length = 4) : powA S E = W4 (powW S E) := by
  have hn : V4 E = (((V4 E).toNat : Nat) : Int) := by have := (V4_rng hE l).1; omega
  unfold powA
  rw [V4_radx, V4_one, montI, montI]
  have e : modL (1 * 115792089237316195423570985008687907853269984665640564039457584007913129639936) = sqr (V4 S) 0 := by unfold sqr; rw [Int.pow_zero]
  rw [e, rP_eq hE l (V4 S) hn 256 (Nat.le_refl _), sqr_V, Nat.sub_self, Nat.pow_zero, Nat.div_one]
  unfold sqr powW
  rw [mont1]
theorem pow100_num (S E : List Int) (h0 : Wds S) (h1 : Wds E) (w : World) : Body Try.prog (tabOf tabOQ) Try.f100 ⟨w, [], 0, noEnv⟩ (toA [.g [.ints .u64 (4 : Nat) S], .g [.ints .u64 (4 : Nat) E]]) [] (fun ys _ => ys = [.g [.ints .u64 (4 : Nat) (W4 (powW S E))]]) :=
  Body.lens (c := (Try.f100.body.getD .skip)) rfl fun h => powW_eq (S := S) h1 (h.vals 1 _ _ _ rfl) ▸ powA_body S E h0 h1 w
end Go.Proofs.Ytcpoldghkiiggaa.X

/- Printed by a tool of this session. -/
namespace Go.Proofs.Ytcpoldghkiiggaa.X
open Go Go.Proofs
set_option linter.unusedVariables false
set_option linter.unusedSimpArgs false
set_option maxRecDepth 100000
theorem pow100_num_pure (S : List Int) (E : List Int) (h0 : (Wds S)) (h1 : (Wds E)) : PureC Try.prog 100 [.g [.ints .u64 (4 : Nat) S], .g [.ints .u64 (4 : Nat) E]] [.g [.ints .u64 (4 : Nat) (W4 (powW S E))]] :=
  PureC.of_body tabOkOQ Try.func100 rfl rfl fun w => pow100_num S E h0 h1 w

def gam58 : Gam := gpure 100 (fun args => match args with | [.o (.g [.ints .u64 (4 : Nat) S]), .o (.g [.ints .u64 (4 : Nat) E])] => some (some ((Wds S) ∧ (Wds E)), [.g [.ints .u64 (4 : Nat) (W4 (powW S E))]]) | _ => none) gam51
theorem gam58_ok : GamOk Try.prog gam58 := gpure_ok gam51_ok Try.call100 (by
  intro args vc xs h hv
  split at h
  · simp only [Option.some.injEq, Prod.mk.injEq] at h; obtain ⟨rfl, rfl⟩ := h; exact ⟨_, by rfl, pow100_num_pure _ _ hv.1 hv.2⟩
  · simp at h)

end Go.Proofs.Ytcpoldghkiiggaa.X

/- What Given lays down of bytes. -/
namespace Go.Proofs.Ytcpoldghkiiggaa.X
open Go Go.Proofs
set_option linter.unusedVariables false

theorem sub_all (l : List Int) (n : Nat) (h : l.length ≤ n) : sub l 0 n = l := by
  unfold sub; rw [List.drop_zero, List.take_of_length_le h]
end Go.Proofs.Ytcpoldghkiiggaa.X

/- Reduce, piece by piece. -/
namespace Go.Proofs.Ytcpoldghkiiggaa.X
open Go Go.Proofs
set_option linter.unusedVariables false
set_option maxRecDepth 100000

theorem tim_num (S T : List Int) (h0 : Wds S) (h1 : Wds T) (h2 : LtL T) (w : World) : Body Try.prog (tabOf tabNT) Try.f73 ⟨w, [], 0, noEnv⟩ (toA [.g [.ints .u64 (4 : Nat) S], .g [.ints .u64 (4 : Nat) T]]) [] (fun ys _ => ys = [.g [.ints .u64 (4 : Nat) (W4 (modL (V4 S * V4 T)))]]) := by
  have e : times S T = W4 (modL (V4 S * V4 T)) := by
    unfold times
    rw [V4_mont, V4_radx, times_eq]
  exact e ▸ times_body S T h0 h1 h2 w

theorem byt_sub {b : List Int} (h : Byt b) (c m : Nat) : Byt (sub b c m) := fun x hx => h x (List.mem_of_mem_drop (List.mem_of_mem_take hx))
theorem nb_app (a b : List Int) : nb (a ++ b) = nb a + 256 ^ a.length * nb b := by
  induction a with
  | nil => show nb b = 0 + 1 * nb b; omega
  | cons x a ih =>
    show x.toNat + 256 * nb (a ++ b) = x.toNat + 256 * nb a + 256 ^ (a.length + 1) * nb b
    rw [ih, Nat.pow_succ, Nat.mul_add, Nat.mul_comm (256 ^ a.length) 256, Nat.mul_assoc]; omega
theorem modL_addl_mul (x y z : Int) : modL (modL x * y + z) = modL (x * y + z) := by
  rw [← modL_addl, modL_mull, modL_addl]
end Go.Proofs.Ytcpoldghkiiggaa.X

/- Printed by a tool of this session. -/
namespace Go.Proofs.Ytcpoldghkiiggaa.X
open Go Go.Proofs
set_option linter.unusedVariables false
set_option linter.unusedSimpArgs false
set_option maxRecDepth 100000
theorem tim_num_pure (S : List Int) (T : List Int) (h0 : (Wds S)) (h1 : (Wds T)) (h2 : (LtL T)) : PureC Try.prog 73 [.g [.ints .u64 (4 : Nat) S], .g [.ints .u64 (4 : Nat) T]] [.g [.ints .u64 (4 : Nat) (W4 (modL ((V4 S) * (V4 T))))]] :=
  PureC.of_body tabOkNT Try.func73 rfl rfl fun w => tim_num S T h0 h1 h2 w

def gam66 : Gam := gpure 73 (fun args => match args with | [.o (.g [.ints .u64 (4 : Nat) S]), .o (.g [.ints .u64 (4 : Nat) T])] => some (some ((Wds S) ∧ (Wds T) ∧ (LtL T)), [.g [.ints .u64 (4 : Nat) (W4 (modL ((V4 S) * (V4 T))))]]) | _ => none) gam58
theorem gam66_ok : GamOk Try.prog gam66 := gpure_ok gam58_ok Try.call73 (by
  intro args vc xs h hv
  split at h
  · simp only [Option.some.injEq, Prod.mk.injEq] at h; obtain ⟨rfl, rfl⟩ := h; exact ⟨_, by rfl, tim_num_pure _ _ hv.1 hv.2.1 hv.2.2⟩
  · simp at h)

end Go.Proofs.Ytcpoldghkiiggaa.X

/- Digits of any bytes; Reduce, Decode, Canonical by numbers. -/
namespace Go.Proofs.Ytcpoldghkiiggaa.X
open Go Go.Proofs
set_option linter.unusedVariables false
set_option maxRecDepth 100000

theorem nb_take {b : List Int} {k : Nat} (h : k < b.length) : nb (b.take (k + 1)) = nb (b.take k) + 256 ^ k * (List.getD b k 0).toNat := by
  rw [List.take_add_one, List.getElem?_eq_getElem h, nb_app, List.length_take, Nat.min_eq_left (by omega), List.getD_eq_getElem?_getD, List.getElem?_eq_getElem h]
  rfl
end Go.Proofs.Ytcpoldghkiiggaa.X

/- Printed by a tool of this session. -/
namespace Go.Proofs.Ytcpoldghkiiggaa.X
open Go Go.Proofs
set_option linter.unusedVariables false
set_option linter.unusedSimpArgs false
set_option maxRecDepth 100000
theorem teQP_5 : TEOk Try.prog 5 ⟨.int .u8, 1, 1, [.i .u8 (0 : Int)], false⟩ :=
  TEOk.of Try.underlying5 (i := Try.t5) (by kernel_rfl) rfl rfl rfl (by kernel_rfl) (fun h => by cases h) (by kernel_rfl)
theorem teQP_22 : TEOk Try.prog 22 ⟨.slice 5, 1, 24, [.raw (.slice none 0 0)], false⟩ :=
  TEOk.of Try.underlying22 (i := Try.t22) (by kernel_rfl) rfl rfl rfl (by kernel_rfl) (fun h => by cases h) (by kernel_rfl)
theorem teQP_24 : TEOk Try.prog 24 ⟨.array 32 5, 32, 32, [.ints .u8 (32 : Nat) ([0, 0, 0, 0, 0, 0, 0, 0, 0, 0, 0, 0, 0, 0, 0, 0, 0, 0, 0, 0, 0, 0, 0, 0, 0, 0, 0, 0, 0, 0, 0, 0] : List Int)], true⟩ :=
  TEOk.of Try.underlying24 (i := Try.t24) (by kernel_rfl) rfl rfl rfl (by kernel_rfl) (fun _ => Try.eqGuardType24) (by kernel_rfl)
noncomputable def tabQP : List (Nat × TE) := [(5, ⟨.int .u8, 1, 1, [.i .u8 (0 : Int)], false⟩), (22, ⟨.slice 5, 1, 24, [.raw (.slice none 0 0)], false⟩), (24, ⟨.array 32 5, 32, 32, [.ints .u8 (32 : Nat) ([0, 0, 0, 0, 0, 0, 0, 0, 0, 0, 0, 0, 0, 0, 0, 0, 0, 0, 0, 0, 0, 0, 0, 0, 0, 0, 0, 0, 0, 0, 0, 0] : List Int)], true⟩)]
theorem tabOkQP : TabOk Try.prog (tabOf tabQP) := (tabOf_cons teQP_5 (tabOf_cons teQP_22 (tabOf_cons teQP_24 tabOf_nil)))

set_option maxHeartbeats 1000000 in
theorem deA_body0 (n : Nat) (nm : Nat) (b : List Int) (cap0 : Nat) (h0 : (nm = n)) (h1 : (n ≤ (140737488355328 : Nat))) (h2 : (Byt b)) (hc0 : n ≤ cap0) (hl0_0 : List.length b = nm) (hn : n ≠ 32) (w : World) (β : Env) : Body Try.prog (tabOf tabQP) Try.f15 ⟨w, [], 1, β⟩ [.o (.a (.sl 0 (0 : Nat) n cap0))] [some ⟨false, [.ints .u8 nm b]⟩] (fun ys _ => ys = [.g [.ints .u8 (32 : Nat) ([0, 0, 0, 0, 0, 0, 0, 0, 0, 0, 0, 0, 0, 0, 0, 0, 0, 0, 0, 0, 0, 0, 0, 0, 0, 0, 0, 0, 0, 0, 0, 0] : List Int)], .a (.i .i64 (3 : Int))]) :=
  Body.of_fin (Γ := gam66) (Λ := noLam) (Ψ := noPsi) (fuel := 0) (m := 17) (c := (Try.f15.body.getD .skip)) mix tabOkQP gam66_ok rfl (rs := [.cell 2 24, .tmp 3]) rfl rfl [true] []
    (vc := [((((n : Nat) : Int) != (32 : Int)) = true)]) (by kernel_rfl)
    (AllP_cons (bne_iff_ne.2 (by first | omega | decide)) (AllP_nil))

set_option maxHeartbeats 1000000 in
theorem deB_body0 (n : Nat) (nm : Nat) (b : List Int) (cap0 : Nat) (h0 : (nm = n)) (h1 : (n ≤ (140737488355328 : Nat))) (h2 : (Byt b)) (hc0 : n ≤ cap0) (hl0_0 : List.length b = nm) (hn : n = 32) (hd : ¬ BV b < LL) (w : World) (β : Env) : Body Try.prog (tabOf tabQP) Try.f15 ⟨w, [], 1, β⟩ [.o (.a (.sl 0 (0 : Nat) n cap0))] [some ⟨false, [.ints .u8 nm b]⟩] (fun ys _ => ys = [.g [.ints .u8 (32 : Nat) ([0, 0, 0, 0, 0, 0, 0, 0, 0, 0, 0, 0, 0, 0, 0, 0, 0, 0, 0, 0, 0, 0, 0, 0, 0, 0, 0, 0, 0, 0, 0, 0] : List Int)], .a (.i .i64 (21 : Int))]) :=
  Body.of_fin (Γ := gam66) (Λ := noLam) (Ψ := noPsi) (fuel := 0) (m := 17) (c := (Try.f15.body.getD .skip)) mix tabOkQP gam66_ok rfl (rs := [.cell 2 24, .tmp 3]) rfl rfl [false, true] []
    (vc := [((!(decide ((BV (sub b (0 : Nat) (32 : Nat))) < (LL)))) = true), (Byt (sub b (0 : Nat) (32 : Nat))), ((32 : Nat) ≤ nm), ((32 : Nat) ≤ n), ((((n : Nat) : Int) != (32 : Int)) = false)]) (by kernel_rfl)
    (AllP_cons (by rw [sub_all b 32 (by omega), decide_eq_false hd]; rfl) (AllP_cons (by first | exact byt_sub h2 _ _ | exact h2) (AllP_cons (by first | omega | decide) (AllP_cons (by first | omega | decide) (AllP_cons (bne_eq_false_iff_eq.2 (by first | omega | decide)) (AllP_nil))))))

def deC (b : List Int) : List Int :=
  (sub b (0 : Nat) (32 : Nat))

set_option maxHeartbeats 1000000 in
theorem deC_body0 (n : Nat) (nm : Nat) (b : List Int) (cap0 : Nat) (h0 : (nm = n)) (h1 : (n ≤ (140737488355328 : Nat))) (h2 : (Byt b)) (hc0 : n ≤ cap0) (hl0_0 : List.length b = nm) (hn : n = 32) (hd : BV b < LL) (w : World) (β : Env) : Body Try.prog (tabOf tabQP) Try.f15 ⟨w, [], 1, β⟩ [.o (.a (.sl 0 (0 : Nat) n cap0))] [some ⟨false, [.ints .u8 nm b]⟩] (fun ys _ => ys = [.g [.ints .u8 (32 : Nat) (deC b)], .a (.i .i64 (0 : Int))]) :=
  Body.of_fin (Γ := gam66) (Λ := noLam) (Ψ := noPsi) (fuel := 0) (m := 17) (c := (Try.f15.body.getD .skip)) mix tabOkQP gam66_ok rfl (rs := [.cell 2 24, .tmp 3]) rfl rfl [false, false] []
    (vc := [((!(decide ((BV (sub b (0 : Nat) (32 : Nat))) < (LL)))) = false), (Byt (sub b (0 : Nat) (32 : Nat))), ((32 : Nat) ≤ nm), ((32 : Nat) ≤ n), ((((n : Nat) : Int) != (32 : Int)) = false)]) (by kernel_rfl)
    (AllP_cons (by rw [sub_all b 32 (by omega), decide_eq_true hd]; rfl) (AllP_cons (by first | exact byt_sub h2 _ _ | exact h2) (AllP_cons (by first | omega | decide) (AllP_cons (by first | omega | decide) (AllP_cons (bne_eq_false_iff_eq.2 (by first | omega | decide)) (AllP_nil))))))

end Go.Proofs.Ytcpoldghkiiggaa.X

/- Decode in one form. -/
namespace Go.Proofs.Ytcpoldghkiiggaa.X
open Go Go.Proofs
set_option linter.unusedVariables false
set_option maxRecDepth 100000

def decL (n : Nat) (b : List Int) : List Int := if n = 32 then (if BV b < LL then sub b 0 32 else [0, 0, 0, 0, 0, 0, 0, 0, 0, 0, 0, 0, 0, 0, 0, 0, 0, 0, 0, 0, 0, 0, 0, 0, 0, 0, 0, 0, 0, 0, 0, 0]) else [0, 0, 0, 0, 0, 0, 0, 0, 0, 0, 0, 0, 0, 0, 0, 0, 0, 0, 0, 0, 0, 0, 0, 0, 0, 0, 0, 0, 0, 0, 0, 0]
def decE (n : Nat) (b : List Int) : Int := if n = 32 then (if BV b < LL then 0 else 21) else 3
theorem dec_num (n nm : Nat) (b : List Int) (cap0 : Nat) (h0 : nm = n) (h1 : n ≤ 140737488355328) (h2 : Byt b) (w : World) (β : Env) : Body Try.prog (tabOf tabQP) Try.f15 ⟨w, [], 1, β⟩ [.o (.a (.sl 0 (0 : Nat) n cap0))] [some ⟨false, [.ints .u8 nm b]⟩] (fun ys _ => ys = [.g [.ints .u8 (32 : Nat) (decL n b)], .a (.i .i64 (decE n b))]) :=
  Body.lens (c := (Try.f15.body.getD .skip)) rfl fun h => by
    have hc := h.caps 0 _ _ _ _ rfl
    have hl := h.lens 0 _ .u8 nm b rfl (by simp)
    unfold decL decE
    by_cases hn : n = 32
    · rw [if_pos hn, if_pos hn]
      by_cases hd : BV b < LL
      · rw [if_pos hd, if_pos hd]; exact deC_body0 n nm b cap0 h0 h1 h2 hc hl hn hd w β
      · rw [if_neg hd, if_neg hd]; exact deB_body0 n nm b cap0 h0 h1 h2 hc hl hn hd w β
    · rw [if_neg hn, if_neg hn]; exact deA_body0 n nm b cap0 h0 h1 h2 hc hl hn w β
end Go.Proofs.Ytcpoldghkiiggaa.X

/- Sums of numbers of bytes. -/
namespace Go.Proofs.Ytcpoldghkiiggaa.X
open Go Go.Proofs
set_option linter.unusedVariables false
set_option maxRecDepth 100000

theorem getD_ge {a : List Int} {k : Nat} (h : a.length ≤ k) : List.getD a k 0 = 0 := by
  rw [List.getD_eq_getElem?_getD, List.getElem?_eq_none h]; rfl
theorem nb_take1 {b : List Int} (k : Nat) : nb (b.take (k + 1)) = nb (b.take k) + 256 ^ k * (List.getD b k 0).toNat := by
  by_cases h : k < b.length
  · exact nb_take h
  · rw [getD_ge (by omega), List.take_of_length_le (by omega), List.take_of_length_le (by omega)]; rfl
end Go.Proofs.Ytcpoldghkiiggaa.X

/- Printed by a tool of this session. -/
namespace Go.Proofs.Ytcpoldghkiiggaa.X
open Go Go.Proofs
set_option linter.unusedVariables false
set_option linter.unusedSimpArgs false
set_option maxRecDepth 100000
def gam72 : Gam := greadV 15 [.s 1] (fun vs args => match vs, args with | [⟨_, _, _, [.ints .u8 nm b]⟩], [a0] => some ((nm = (lenOfA a0)) ∧ ((lenOfA a0) ≤ (140737488355328 : Nat)) ∧ (Byt b), [.g [.ints .u8 (32 : Nat) (decL (lenOfA a0) b)], .a (.i .i64 (decE (lenOfA a0) b))]) | _, _ => none) gam66
theorem gam72_ok : GamOk Try.prog gam72 := greadV_ok tabOkQP Try.func15 gam66_ok Try.call15 (by
  intro vs args p xs h hv
  split at h
  · simp only [Option.some.injEq, Prod.mk.injEq] at h; obtain ⟨rfl, rfl⟩ := h; exact ⟨by rfl, fun caps w β => dec_num _ _ _ _ hv.1 hv.2.1 hv.2.2 w β⟩
  · simp at h)

end Go.Proofs.Ytcpoldghkiiggaa.X

/- Lists of digits. -/
namespace Go.Proofs.Ytcpoldghkiiggaa.X
open Go Go.Proofs
set_option linter.unusedVariables false
set_option linter.unusedSimpArgs false
set_option maxRecDepth 100000

def lnO (f : Nat → Int) (n k : Nat) : List Int := (List.range k).map f ++ List.replicate (n - k) 0
def lnR (f : Nat → Int) (k : Nat) : List Int := (List.range k).map f
theorem lnR_len (f : Nat → Int) (k : Nat) : (lnR f k).length = k := by unfold lnR; rw [List.length_map, List.length_range]
theorem lnR_s (f : Nat → Int) (k : Nat) : lnR f (k + 1) = lnR f k ++ [f k] := by unfold lnR; rw [List.range_succ, List.map_append]; rfl
theorem lnO_n (f : Nat → Int) (n : Nat) : lnO f n n = lnR f n := by
  unfold lnO lnR; rw [Nat.sub_self]; exact List.append_nil _
theorem lnO_0 (f : Nat → Int) (n : Nat) : lnO f n 0 = List.replicate n 0 := by unfold lnO; rfl
theorem lnO_s (f : Nat → Int) {n k : Nat} (h : k < n) : (lnO f n k).set k (f k) = lnO f n (k + 1) := by
  unfold lnO
  rw [List.range_succ, List.map_append, show n - k = (n - (k + 1)) + 1 by omega, List.replicate_succ, List.set_append_right _ _ (by rw [List.length_map, List.length_range]; exact Nat.le_refl _), List.length_map, List.length_range, Nat.sub_self, List.set_cons_zero, List.append_assoc]
  rfl
theorem lnO_z {f : Nat → Int} {n k : Nat} (h : k < n) (h0 : f k = 0) : lnO f n (k + 1) = lnO f n k := by
  unfold lnO
  rw [List.range_succ, List.map_append, show n - k = (n - (k + 1)) + 1 by omega, List.replicate_succ, List.append_assoc]
  show _ ++ ([f k] ++ _) = _
  rw [h0]; rfl

/-! sixteen's -/
def nib (s : List Int) (k : Nat) : Int := bits2 .and .u8 (shr .u8 (List.getD s (Int.toNat (IntKind.i64.wrap (Int.tdiv ((k : Nat) : Int) (2 : Int)))) 0) (IntKind.i64.wrap ((4 : Int) * (Int.tmod ((k : Nat) : Int) (2 : Int))))) (15 : Int)
def dcC (s : List Int) : Nat → Int
  | 0 => 0
  | k + 1 => if nib s k + dcC s k > 7 ∧ k < 63 then 1 else 0
def dcD (s : List Int) (k : Nat) : Int := if nib s k + dcC s k > 7 ∧ k < 63 then nib s k + dcC s k - 16 else nib s k + dcC s k
theorem bit_and15 (y : Int) : bits2 .and .u8 y 15 = y % 16 := by
  have e : bits2 .and .u8 y 15 = IntKind.u8.wrap (((BitVec.ofInt 8 y &&& BitVec.ofInt 8 15).toNat : Nat) : Int) := rfl
  have t2 : (BitVec.ofInt 8 15).toNat = 2 ^ 4 - 1 := by rfl
  rw [e, BitVec.toNat_and, t2, Nat.and_two_pow_sub_one_eq_mod, BitVec.toNat_ofInt, wrap8]
  show (((y % 256).toNat % 2 ^ 4 : Nat) : Int) % 256 = y % 16
  omega
theorem nib_rng (s : List Int) (k : Nat) : 0 ≤ nib s k ∧ nib s k < 16 := by unfold nib; rw [bit_and15]; omega
theorem dcC_rng (s : List Int) : ∀ k, 0 ≤ dcC s k ∧ dcC s k ≤ 1
  | 0 => by show (0 : Int) ≤ 0 ∧ (0 : Int) ≤ 1; omega
  | k + 1 => by show 0 ≤ (if _ then _ else _ : Int) ∧ (if _ then _ else _ : Int) ≤ 1; split <;> omega
theorem dc_w (s : List Int) (k : Nat) : IntKind.i64.wrap (IntKind.i64.wrap (nib s k) + dcC s k) = nib s k + dcC s k := by
  have h := nib_rng s k
  have h2 := dcC_rng s k
  rw [wrapI (x := nib s k) (by omega) (by omega), wrapI (by omega) (by omega)]
theorem dc_w2 (s : List Int) (k : Nat) : IntKind.i64.wrap (nib s k + dcC s k - 16) = nib s k + dcC s k - 16 := by
  have h := nib_rng s k
  have h2 := dcC_rng s k
  rw [wrapI (by omega) (by omega)]
theorem dc_a {s : List Int} {k : Nat} (h : nib s k + dcC s k > 7 ∧ k < 63) : dcD s k = nib s k + dcC s k - 16 ∧ dcC s (k + 1) = 1 := ⟨if_pos h, if_pos h⟩
theorem dc_b {s : List Int} {k : Nat} (h : ¬ (nib s k + dcC s k > 7 ∧ k < 63)) : dcD s k = nib s k + dcC s k ∧ dcC s (k + 1) = 0 := ⟨if_neg h, if_neg h⟩
theorem dq {k : Nat} (h : k < 64) : IntKind.i64.wrap (Int.tdiv ((k : Nat) : Int) (2 : Int)) = ((k / 2 : Nat) : Int) ∧ IntKind.i64.wrap ((4 : Int) * (Int.tmod ((k : Nat) : Int) (2 : Int))) = ((4 * (k % 2) : Nat) : Int) := by
  rw [Int.tdiv_eq_ediv_of_nonneg (by omega), Int.tmod_eq_emod_of_nonneg (by omega), wrapI (by omega) (by omega), wrapI (by omega) (by omega)]
  omega
def dcO (s : List Int) (k : Nat) : List Int := lnO (dcD s) 64 k
def dcR (s : List Int) (k : Nat) : List Int := lnR (dcD s) k
end Go.Proofs.Ytcpoldghkiiggaa.X

/- The form of digits that stand apart: numbers. -/
namespace Go.Proofs.Ytcpoldghkiiggaa.X
open Go Go.Proofs
set_option linter.unusedVariables false
set_option linter.unusedSimpArgs false
set_option maxRecDepth 100000

def pw2 (w : Int) : Int := 2 ^ w.toNat
def nafX (w v : Int) : Int := v % pw2 w
def nafD (w v : Int) : Int := if v % 2 = 1 then (if nafX w v ≥ pw2 (w - 1) then nafX w v - pw2 w else nafX w v) else 0
def nfV (w : Int) (a : List Int) : Nat → Int
  | 0 => modL (BV a)
  | k + 1 => (nfV w a k - nafD w (nfV w a k)) / 2
def nfF (w : Int) (a : List Int) (k : Nat) : Int := nafD w (nfV w a k)

theorem w_cases {w : Int} (h0 : 2 ≤ w) (h1 : w ≤ 8) : w = 2 ∨ w = 3 ∨ w = 4 ∨ w = 5 ∨ w = 6 ∨ w = 7 ∨ w = 8 := by omega
theorem pw2_rng {w : Int} (h0 : 2 ≤ w) (h1 : w ≤ 8) : 4 ≤ pw2 w ∧ pw2 w ≤ 256 ∧ pw2 w = 2 * pw2 (w - 1) := by
  rcases w_cases h0 h1 with rfl | rfl | rfl | rfl | rfl | rfl | rfl <;> decide
theorem bit_mask {x : Int} {n : Nat} (hn : n ≤ 63) : bits2 .and .u64 x (((2 ^ n - 1 : Nat)) : Int) = x % ((2 ^ n : Nat) : Int) := by
  have hp : 2 ^ n ≤ 2 ^ 63 := Nat.pow_le_pow_right (by omega) hn
  have hp0 : 0 < 2 ^ n := Nat.pow_pos (by omega)
  have e : bits2 .and .u64 x (((2 ^ n - 1 : Nat)) : Int) = IntKind.u64.wrap (((BitVec.ofInt 64 x &&& BitVec.ofInt 64 (((2 ^ n - 1 : Nat)) : Int)).toNat : Nat) : Int) := rfl
  have t2 : (BitVec.ofInt 64 (((2 ^ n - 1 : Nat)) : Int)).toNat = 2 ^ n - 1 := by
    rw [BitVec.toNat_ofInt]
    show ((((2 ^ n - 1 : Nat)) : Int) % 18446744073709551616).toNat = _
    have : (2 : Nat) ^ 63 = 9223372036854775808 := by decide
    omega
  rw [e, BitVec.toNat_and, t2, Nat.and_two_pow_sub_one_eq_mod, BitVec.toNat_ofInt, wrap64]
  show (((x % 18446744073709551616).toNat % 2 ^ n : Nat) : Int) % 18446744073709551616 = _
  have hd : (2 : Nat) ^ n ∣ 18446744073709551616 := ⟨2 ^ (64 - n), by rw [← Nat.pow_add, show n + (64 - n) = 64 by omega]⟩
  have h63 : (2 : Nat) ^ 63 = 9223372036854775808 := by decide
  have hlt : (x % 18446744073709551616).toNat % 2 ^ n < 2 ^ n := Nat.mod_lt _ hp0
  rw [Int.emod_eq_of_lt (by omega) (by omega), Int.natCast_emod, Int.toNat_of_nonneg (by omega)]
  exact Int.emod_emod_of_dvd x (Int.ofNat_dvd.2 hd)
theorem W4_0at (v : Int) : List.getD (W4 v) 0 0 = v % 18446744073709551616 := rfl
theorem W4_odd (v : Int) : bits2 .and .u64 (List.getD (W4 v) 0 0) 1 = v % 2 := by
  rw [bit_and64, W4_0at]; omega
theorem mod_pw {v : Int} {w : Int} (h0 : 2 ≤ w) (h1 : w ≤ 8) : v % 18446744073709551616 % pw2 w = v % pw2 w := by
  rcases w_cases h0 h1 with rfl | rfl | rfl | rfl | rfl | rfl | rfl
  · show v % 18446744073709551616 % 4 = v % 4; omega
  · show v % 18446744073709551616 % 8 = v % 8; omega
  · show v % 18446744073709551616 % 16 = v % 16; omega
  · show v % 18446744073709551616 % 32 = v % 32; omega
  · show v % 18446744073709551616 % 64 = v % 64; omega
  · show v % 18446744073709551616 % 128 = v % 128; omega
  · show v % 18446744073709551616 % 256 = v % 256; omega
theorem mask_w {x w : Int} (h0 : 2 ≤ w) (h1 : w ≤ 8) : bits2 .and .u64 x (IntKind.u64.wrap (shl .u64 1 w - 1)) = x % pw2 w := by
  rcases w_cases h0 h1 with rfl | rfl | rfl | rfl | rfl | rfl | rfl
  · exact bit_mask (n := 2) (by omega)
  · exact bit_mask (n := 3) (by omega)
  · exact bit_mask (n := 4) (by omega)
  · exact bit_mask (n := 5) (by omega)
  · exact bit_mask (n := 6) (by omega)
  · exact bit_mask (n := 7) (by omega)
  · exact bit_mask (n := 8) (by omega)
theorem nafX_rng {w : Int} (h0 : 2 ≤ w) (h1 : w ≤ 8) (v : Int) : 0 ≤ nafX w v ∧ nafX w v < pw2 w := by
  have := (pw2_rng h0 h1).1
  unfold nafX
  exact ⟨Int.emod_nonneg _ (by omega), Int.emod_lt_of_pos _ (by omega)⟩
theorem naf_x {w : Int} (h0 : 2 ≤ w) (h1 : w ≤ 8) (v : Int) : IntKind.i64.wrap (bits2 .and .u64 (List.getD (W4 v) 0 0) (IntKind.u64.wrap (shl .u64 1 w - 1))) = nafX w v := by
  have r := nafX_rng h0 h1 v
  have p := pw2_rng h0 h1
  rw [mask_w h0 h1, W4_0at, mod_pw h0 h1]
  exact wrapI (by unfold nafX at r; omega) (by unfold nafX at r; omega)
theorem shl_w1 {w : Int} (h0 : 2 ≤ w) (h1 : w ≤ 8) : shl .i64 1 (IntKind.i64.wrap (w - 1)) = pw2 (w - 1) := by
  rcases w_cases h0 h1 with rfl | rfl | rfl | rfl | rfl | rfl | rfl <;> decide
theorem shl_w {w : Int} (h0 : 2 ≤ w) (h1 : w ≤ 8) : shl .i64 1 w = pw2 w := by
  rcases w_cases h0 h1 with rfl | rfl | rfl | rfl | rfl | rfl | rfl <;> decide
theorem shl_u1 {w : Int} (h0 : 2 ≤ w) (h1 : w ≤ 8) : shl .i64 1 (IntKind.u64.wrap (IntKind.i64.wrap (w - 1))) = pw2 (w - 1) := by
  rcases w_cases h0 h1 with rfl | rfl | rfl | rfl | rfl | rfl | rfl <;> decide
theorem odd_X {w : Int} (h0 : 2 ≤ w) (h1 : w ≤ 8) {v : Int} (h : v % 2 = 1) : 0 < nafX w v := by
  unfold nafX
  rcases w_cases h0 h1 with rfl | rfl | rfl | rfl | rfl | rfl | rfl
  · show 0 < v % 4; omega
  · show 0 < v % 8; omega
  · show 0 < v % 16; omega
  · show 0 < v % 32; omega
  · show 0 < v % 64; omega
  · show 0 < v % 128; omega
  · show 0 < v % 256; omega
theorem nafD_e {w v : Int} (h : ¬ v % 2 = 1) : nafD w v = 0 := if_neg h
theorem nafD_s {w v : Int} (h : v % 2 = 1) (h2 : ¬ nafX w v ≥ pw2 (w - 1)) : nafD w v = nafX w v := by unfold nafD; rw [if_pos h, if_neg h2]
theorem nafD_b {w v : Int} (h : v % 2 = 1) (h2 : nafX w v ≥ pw2 (w - 1)) : nafD w v = nafX w v - pw2 w := by unfold nafD; rw [if_pos h, if_pos h2]
theorem nafX_le {w : Int} (h0 : 2 ≤ w) (h1 : w ≤ 8) {v : Int} (hv : 0 ≤ v) : nafX w v ≤ v := by
  have := (pw2_rng h0 h1).1
  unfold nafX
  have := Int.emod_add_mul_ediv v (pw2 w)
  have h3 : 0 ≤ pw2 w * (v / pw2 w) := Int.mul_nonneg (by omega) (Int.ediv_nonneg hv (by omega))
  omega
theorem nafD_rng {w : Int} (h0 : 2 ≤ w) (h1 : w ≤ 8) {v : Int} (hv : 0 ≤ v) : -128 ≤ nafD w v ∧ nafD w v ≤ 127 ∧ nafD w v ≤ v := by
  have p := pw2_rng h0 h1
  have r := nafX_rng h0 h1 v
  have l := nafX_le h0 h1 hv
  unfold nafD
  split
  · split <;> omega
  · omega
theorem nfV_rng {w : Int} (h0 : 2 ≤ w) (h1 : w ≤ 8) (a : List Int) : ∀ k, 0 ≤ nfV w a k ∧ nfV w a k < 14474011154664524427946373126085988481658748083205070504932198000989141204992
  | 0 => ⟨(modL_rng _).1, Int.lt_trans (modL_rng _).2.1 (by decide +kernel)⟩
  | k + 1 => by
    have ih := nfV_rng h0 h1 a k
    have d := nafD_rng h0 h1 ih.1
    show 0 ≤ (_ - _) / 2 ∧ (_ - _) / 2 < _
    omega
def nafW (w v : Int) : Int := v - nafD w v

/-! words -/
theorem or_shl63 {x y : Int} (hx : 0 ≤ x ∧ x < 9223372036854775808) (hy : 0 ≤ y ∧ y < 18446744073709551616) : bits2 .or .u64 x (shl .u64 y 63) = x + 9223372036854775808 * (y % 2) := by
  have e1 : shl .u64 y 63 = ((2 ^ 63 * (y % 2).toNat : Nat) : Int) := by
    have : shl .u64 y 63 = IntKind.u64.wrap (y * 9223372036854775808) := rfl
    rw [this, wrap64]
    have : (2 : Nat) ^ 63 = 9223372036854775808 := by decide
    omega
  obtain ⟨n, rfl⟩ := Int.eq_ofNat_of_zero_le hx.1
  have hn : n < 2 ^ 63 := by
    have : (2 : Nat) ^ 63 = 9223372036854775808 := by decide
    omega
  rw [e1]
  generalize hb : (y % 2).toNat = b
  have hb1 : b ≤ 1 := by omega
  have h63 : (2 : Nat) ^ 63 = 9223372036854775808 := by decide
  have e : bits2 .or .u64 ((n : Nat) : Int) ((2 ^ 63 * b : Nat) : Int) = IntKind.u64.wrap (((BitVec.ofInt 64 ((n : Nat) : Int) ||| BitVec.ofInt 64 ((2 ^ 63 * b : Nat) : Int)).toNat : Nat) : Int) := rfl
  have t : ∀ m : Nat, m < 18446744073709551616 → (BitVec.ofInt 64 ((m : Nat) : Int)).toNat = m := by
    intro m hm
    rw [BitVec.toNat_ofInt]
    show (((m : Nat) : Int) % 18446744073709551616).toNat = m
    omega
  rw [e, BitVec.toNat_or, t n (by omega), t (2 ^ 63 * b) (by omega), Nat.or_comm, ← Nat.two_pow_add_eq_or_of_lt hn, wrap64]
  omega
theorem shr_1 (x : Int) : shr .u64 x 1 = x / 2 := by
  have e : shr .u64 x 1 = x.fdiv 2 := rfl
  rw [e, Int.fdiv_eq_ediv_of_nonneg _ (by omega)]
theorem half4 {a b c d : Int} (ha : 0 ≤ a ∧ a < 18446744073709551616) (hb : 0 ≤ b ∧ b < 18446744073709551616) (hc : 0 ≤ c ∧ c < 18446744073709551616) (hd : 0 ≤ d ∧ d < 18446744073709551616) {v : Int} (hv : v = a + 18446744073709551616 * b + 340282366920938463463374607431768211456 * c + 6277101735386680763835789423207666416102355444464034512896 * d) :
    [bits2 .or .u64 (shr .u64 a 1) (shl .u64 b 63), bits2 .or .u64 (shr .u64 b 1) (shl .u64 c 63), bits2 .or .u64 (shr .u64 c 1) (shl .u64 d 63), shr .u64 d 1] = W4 (v / 2) := by
  rw [shr_1, shr_1, shr_1, shr_1, or_shl63 (by omega) hb, or_shl63 (by omega) hc, or_shl63 (by omega) hd]
  exact W4_eq (by omega) (by omega) (by omega) (by omega) (by omega)
theorem add4 {v e : Int} (hv : 0 ≤ v ∧ v < 14474011154664524427946373126085988481658748083205070504932198000989141204992) (he : 0 ≤ e ∧ e < 18446744073709551616) :
    [ad64s (v % 18446744073709551616) e 0, ad64s (v / 18446744073709551616 % 18446744073709551616) 0 (ad64c (v % 18446744073709551616) e 0), ad64s (v / 340282366920938463463374607431768211456 % 18446744073709551616) 0 (ad64c (v / 18446744073709551616 % 18446744073709551616) 0 (ad64c (v % 18446744073709551616) e 0)), ad64s (v / 6277101735386680763835789423207666416102355444464034512896 % 18446744073709551616) 0 (ad64c (v / 340282366920938463463374607431768211456 % 18446744073709551616) 0 (ad64c (v / 18446744073709551616 % 18446744073709551616) 0 (ad64c (v % 18446744073709551616) e 0)))] = W4 (v + e) := by
  have hV : v = v % 18446744073709551616 + 18446744073709551616 * (v / 18446744073709551616 % 18446744073709551616) + 340282366920938463463374607431768211456 * (v / 340282366920938463463374607431768211456 % 18446744073709551616) + 6277101735386680763835789423207666416102355444464034512896 * (v / 6277101735386680763835789423207666416102355444464034512896 % 18446744073709551616) := by omega
  have h0 : 0 ≤ v % 18446744073709551616 ∧ v % 18446744073709551616 < 18446744073709551616 := by omega
  have h1 : 0 ≤ v / 18446744073709551616 % 18446744073709551616 ∧ v / 18446744073709551616 % 18446744073709551616 < 18446744073709551616 := by omega
  have h2 : 0 ≤ v / 340282366920938463463374607431768211456 % 18446744073709551616 ∧ v / 340282366920938463463374607431768211456 % 18446744073709551616 < 18446744073709551616 := by omega
  have h3 : 0 ≤ v / 6277101735386680763835789423207666416102355444464034512896 % 18446744073709551616 ∧ v / 6277101735386680763835789423207666416102355444464034512896 % 18446744073709551616 < 18446744073709551616 := by omega
  generalize v % 18446744073709551616 = a at *
  generalize v / 18446744073709551616 % 18446744073709551616 = b at *
  generalize v / 340282366920938463463374607431768211456 % 18446744073709551616 = c at *
  generalize v / 6277101735386680763835789423207666416102355444464034512896 % 18446744073709551616 = d at *
  have e0 := ad64_eq h0.1 h0.2 he.1 he.2 (c := 0) (by omega)
  have e1 := ad64_eq h1.1 h1.2 (show (0 : Int) ≤ 0 by omega) (by omega) (c := ad64c a e 0) (by omega)
  have e2 := ad64_eq h2.1 h2.2 (show (0 : Int) ≤ 0 by omega) (by omega) (c := ad64c b 0 (ad64c a e 0)) (by omega)
  have e3 := ad64_eq h3.1 h3.2 (show (0 : Int) ≤ 0 by omega) (by omega) (c := ad64c c 0 (ad64c b 0 (ad64c a e 0))) (by omega)
  generalize ad64c d 0 (ad64c c 0 (ad64c b 0 (ad64c a e 0))) = c3 at *
  generalize ad64s d 0 (ad64c c 0 (ad64c b 0 (ad64c a e 0))) = s3 at *
  generalize ad64s c 0 (ad64c b 0 (ad64c a e 0)) = s2 at *
  generalize ad64c c 0 (ad64c b 0 (ad64c a e 0)) = c2 at *
  generalize ad64s b 0 (ad64c a e 0) = s1 at *
  generalize ad64c b 0 (ad64c a e 0) = c1 at *
  generalize ad64s a e 0 = s0 at *
  generalize ad64c a e 0 = c0 at *
  exact W4_eq (by omega) ⟨e0.2.1, e0.2.2.1⟩ ⟨e1.2.1, e1.2.2.1⟩ ⟨e2.2.1, e2.2.2.1⟩ ⟨e3.2.1, e3.2.2.1⟩
theorem dif4 {v e : Int} (hv : 0 ≤ v ∧ v < 14474011154664524427946373126085988481658748083205070504932198000989141204992) (he : 0 ≤ e ∧ e ≤ v) (he2 : e < 18446744073709551616) : difR (V4 (W4 v)) (V4 [e, 0, 0, 0]) = v - e := by
  have e1 : V4 [e, 0, 0, 0] = e := by
    show e + 18446744073709551616 * 0 + 340282366920938463463374607431768211456 * 0 + 6277101735386680763835789423207666416102355444464034512896 * 0 = e
    omega
  rw [V4_W4 hv.1 (by omega), e1]
  unfold difR; omega
end Go.Proofs.Ytcpoldghkiiggaa.X

/- The form of digits that stand apart: its rounds. -/
namespace Go.Proofs.Ytcpoldghkiiggaa.X
open Go Go.Proofs
set_option linter.unusedVariables false
set_option linter.unusedSimpArgs false
set_option maxRecDepth 100000

def wdx (u : Int) (i : Nat) : Int := List.getD (W4 u) i 0
theorem wdx_rng (u : Int) (i : Nat) : 0 ≤ wdx u i ∧ wdx u i < 18446744073709551616 := wds_get (wds_W4 u) i
theorem W4_wdx (u : Int) : W4 u = [wdx u 0, wdx u 1, wdx u 2, wdx u 3] := rfl
def nfO (w : Int) (a : List Int) (k : Nat) : List Int := lnO (nfF w a) 256 k
def nfR (w : Int) (a : List Int) (k : Nat) : List Int := lnR (nfF w a) k
theorem nfO_0 (w : Int) (a : List Int) : nfO w a 0 = List.replicate 256 0 := lnO_0 _ _
theorem nfO_s {w : Int} {a : List Int} {k : Nat} (hk : k < 256) : List.set (nfO w a k) k (nafD w (nfV w a k)) = nfO w a (k + 1) := lnO_s _ hk
theorem nfO_z {w : Int} {a : List Int} {k : Nat} (hk : k < 256) (ha : ¬ nfV w a k % 2 = 1) : nfO w a k = nfO w a (k + 1) := (lnO_z hk (nafD_e ha)).symm
theorem naf_d {w v : Int} (h1 : 2 ≤ w) (h2 : w ≤ 8) (ha : v % 2 = 1) (hb : nafX w v ≥ pw2 (w - 1)) : IntKind.i64.wrap (nafX w v - shl .i64 1 w) = nafD w v := by
  have p := pw2_rng h1 h2
  have r := nafX_rng h1 h2 v
  rw [shl_w h1 h2, nafD_b ha hb]
  exact wrapI (by omega) (by omega)
theorem naf_w0 {w v : Int} (ha : ¬ v % 2 = 1) : W4 v = [wdx (nafW w v) 0, wdx (nafW w v) 1, wdx (nafW w v) 2, wdx (nafW w v) 3] := by
  unfold nafW
  rw [nafD_e ha, Int.sub_zero]; rfl
theorem naf_w1 {w v : Int} (h1 : 2 ≤ w) (h2 : w ≤ 8) (hv : 0 ≤ v ∧ v < 14474011154664524427946373126085988481658748083205070504932198000989141204992) (ha : v % 2 = 1) (hb : ¬ nafX w v ≥ pw2 (w - 1)) : W4 (difR (V4 (W4 v)) (V4 [IntKind.u64.wrap (nafX w v), 0, 0, 0])) = [wdx (nafW w v) 0, wdx (nafW w v) 1, wdx (nafW w v) 2, wdx (nafW w v) 3] := by
  have p := pw2_rng h1 h2
  have r := nafX_rng h1 h2 v
  have l := nafX_le h1 h2 hv.1
  rw [wrap64, Int.emod_eq_of_lt r.1 (by omega), dif4 hv ⟨r.1, l⟩ (by omega), ← nafD_s ha hb]; rfl
theorem naf_w2 {w v : Int} (h1 : 2 ≤ w) (h2 : w ≤ 8) (hv : 0 ≤ v ∧ v < 14474011154664524427946373126085988481658748083205070504932198000989141204992) (ha : v % 2 = 1) (hb : nafX w v ≥ pw2 (w - 1)) :
    [ad64s (wdx v 0) (IntKind.u64.wrap (IntKind.i64.wrap (0 - nafD w v))) 0, ad64s (wdx v 1) 0 (ad64c (wdx v 0) (IntKind.u64.wrap (IntKind.i64.wrap (0 - nafD w v))) 0), ad64s (wdx v 2) 0 (ad64c (wdx v 1) 0 (ad64c (wdx v 0) (IntKind.u64.wrap (IntKind.i64.wrap (0 - nafD w v))) 0)), ad64s (wdx v 3) 0 (ad64c (wdx v 2) 0 (ad64c (wdx v 1) 0 (ad64c (wdx v 0) (IntKind.u64.wrap (IntKind.i64.wrap (0 - nafD w v))) 0)))] = [wdx (nafW w v) 0, wdx (nafW w v) 1, wdx (nafW w v) 2, wdx (nafW w v) 3] := by
  have p := pw2_rng h1 h2
  have r := nafX_rng h1 h2 v
  have e : IntKind.u64.wrap (IntKind.i64.wrap (0 - nafD w v)) = 0 - nafD w v := by
    rw [nafD_b ha hb, wrapI (by omega) (by omega), wrap64]; omega
  rw [e]
  have q := add4 hv (e := 0 - nafD w v) (by rw [nafD_b ha hb]; omega)
  rw [← W4_wdx]
  have e2 : v + (0 - nafD w v) = nafW w v := by unfold nafW; omega
  rw [e2] at q
  exact q
theorem nafW_rng {w v : Int} (h1 : 2 ≤ w) (h2 : w ≤ 8) (hv : 0 ≤ v ∧ v < 14474011154664524427946373126085988481658748083205070504932198000989141204992) : 0 ≤ nafW w v ∧ nafW w v < 115792089237316195423570985008687907853269984665640564039457584007913129639936 := by
  have d := nafD_rng h1 h2 hv.1
  unfold nafW; omega
theorem naf_half {u : Int} (h : 0 ≤ u ∧ u < 115792089237316195423570985008687907853269984665640564039457584007913129639936) : [bits2 .or .u64 (shr .u64 (wdx u 0) 1) (shl .u64 (wdx u 1) 63), bits2 .or .u64 (shr .u64 (wdx u 1) 1) (shl .u64 (wdx u 2) 63), bits2 .or .u64 (shr .u64 (wdx u 2) 1) (shl .u64 (wdx u 3) 63), shr .u64 (wdx u 3) 1] = W4 (u / 2) := by
  refine half4 (wdx_rng u 0) (wdx_rng u 1) (wdx_rng u 2) (wdx_rng u 3) ?_
  have := V4_W4 h.1 h.2
  exact this.symm
theorem adc_nn (x y c : Int) (hx : 0 ≤ x) (hy : 0 ≤ y) (hc : 0 ≤ c) : 0 ≤ ad64c x y c := ad64c_nn hx hy hc
theorem adc_le {x y c : Int} (hx : x < 18446744073709551616) (hy : y < 18446744073709551616) (hc : c ≤ 1) : ad64c x y c ≤ 1 := by unfold ad64c; omega
end Go.Proofs.Ytcpoldghkiiggaa.X

/- Printed by a tool of this session. -/
namespace Go.Proofs.Ytcpoldghkiiggaa.X
open Go Go.Proofs
set_option linter.unusedVariables false
set_option linter.unusedSimpArgs false
set_option maxRecDepth 100000
theorem teRJ_3 : TEOk Try.prog 3 ⟨.int .i64, 1, 8, [.i .i64 (0 : Int)], false⟩ :=
  TEOk.of Try.underlying3 (i := Try.t3) (by kernel_rfl) rfl rfl rfl (by kernel_rfl) (fun h => by cases h) (by kernel_rfl)
theorem teRJ_5 : TEOk Try.prog 5 ⟨.int .u8, 1, 1, [.i .u8 (0 : Int)], false⟩ :=
  TEOk.of Try.underlying5 (i := Try.t5) (by kernel_rfl) rfl rfl rfl (by kernel_rfl) (fun h => by cases h) (by kernel_rfl)
theorem teRJ_24 : TEOk Try.prog 24 ⟨.array 32 5, 32, 32, [.ints .u8 (32 : Nat) ([0, 0, 0, 0, 0, 0, 0, 0, 0, 0, 0, 0, 0, 0, 0, 0, 0, 0, 0, 0, 0, 0, 0, 0, 0, 0, 0, 0, 0, 0, 0, 0] : List Int)], true⟩ :=
  TEOk.of Try.underlying24 (i := Try.t24) (by kernel_rfl) rfl rfl rfl (by kernel_rfl) (fun _ => Try.eqGuardType24) (by kernel_rfl)
theorem teRJ_62 : TEOk Try.prog 62 ⟨.int .u64, 1, 8, [.i .u64 (0 : Int)], false⟩ :=
  TEOk.of Try.underlying62 (i := Try.t62) (by kernel_rfl) rfl rfl rfl (by kernel_rfl) (fun h => by cases h) (by kernel_rfl)
theorem teRJ_81 : TEOk Try.prog 81 ⟨.slice 3, 1, 24, [.raw (.slice none 0 0)], false⟩ :=
  TEOk.of Try.underlying81 (i := Try.t81) (by kernel_rfl) rfl rfl rfl (by kernel_rfl) (fun h => by cases h) (by kernel_rfl)
noncomputable def tabRJ : List (Nat × TE) := [(3, ⟨.int .i64, 1, 8, [.i .i64 (0 : Int)], false⟩), (5, ⟨.int .u8, 1, 1, [.i .u8 (0 : Int)], false⟩), (24, ⟨.array 32 5, 32, 32, [.ints .u8 (32 : Nat) ([0, 0, 0, 0, 0, 0, 0, 0, 0, 0, 0, 0, 0, 0, 0, 0, 0, 0, 0, 0, 0, 0, 0, 0, 0, 0, 0, 0, 0, 0, 0, 0] : List Int)], true⟩), (62, ⟨.int .u64, 1, 8, [.i .u64 (0 : Int)], false⟩), (81, ⟨.slice 3, 1, 24, [.raw (.slice none 0 0)], false⟩)]
theorem tabOkRJ : TabOk Try.prog (tabOf tabRJ) := (tabOf_cons teRJ_3 (tabOf_cons teRJ_5 (tabOf_cons teRJ_24 (tabOf_cons teRJ_62 (tabOf_cons teRJ_81 tabOf_nil)))))

def dl62_mk (a : List Int) (k : Nat) (s : Unit) : St := ⟨sparse 41 [(0, .o (.g [.ints .u8 (32 : Nat) a])), (1, .o (.a (.p 0 0))), (2, .o (.a (.raw (.slice none 0 0)))), (3, .o (.a (.p 1 0))), (4, .o (.a (.sl 2 (0 : Nat) (64 : Nat) (64 : Nat)))), (5, .o (.a (.i .i64 (dcC (B32 (modL (BV a))) k)))), (8, .o (.g [.ints .u8 (32 : Nat) a])), (9, .o (.g [.ints .u64 (4 : Nat) (W4 (modL (BV a)))])), (10, .o (.g [.ints .u8 (32 : Nat) (B32 (V4 (W4 (modL (BV a)))))])), (11, .o (.a (.sl 2 (0 : Nat) (64 : Nat) (64 : Nat)))), (12, .o (.a (.i .i64 ((k : Nat) : Int))))], [some ⟨true, [.ints .u8 (32 : Nat) a]⟩, some ⟨true, [.ints .u8 (32 : Nat) (B32 (modL (BV a)))]⟩, some ⟨true, [.ints .i64 (64 : Nat) (dcO (B32 (modL (BV a))) k)]⟩]⟩

def dl62_step (k : Nat) (s : Unit) : Unit :=
  ()

set_option maxHeartbeats 1000000 in
theorem dl62_round_0 (a : List Int) (h0 : (Byt a)) (hv0 : List.length a = (32 : Nat)) (w : World) (rw : List Nat) (β : Env) (k : Nat) (hk : k < (64 : Nat)) (s : Unit) (ha : nib (B32 (modL (BV a))) k + dcC (B32 (modL (BV a))) k > 7) (hb : k < 63) : Run Try.prog ⟨w, rw, 0, β⟩ (loopB Try.f62 0) (dl62_mk a k s) (To ⟨w, rw, 0, β⟩ .normal (dl62_mk a (k + 1) (dl62_step k s))) := by
  have e0 : (List.set (dcO (B32 (modL (BV a))) k) k (IntKind.i64.wrap (((nib (B32 (modL (BV a))) k) + (dcC (B32 (modL (BV a))) k)) - (16 : Int)))) = (dcO (B32 (modL (BV a))) (k + (1 : Nat))) := (by first | exact wrap_succ (by omega) | exact (dc_a ⟨ha, hb⟩).2.symm | omega | (rw [dc_w2, ← (dc_a ⟨ha, hb⟩).1]; unfold dcO; exact lnO_s _ hk))
  have e1 : (IntKind.i64.wrap (((k : Nat) : Int) + (1 : Int))) = (((k + (1 : Nat)) : Nat) : Int) := (by first | exact wrap_succ (by omega) | exact (dc_a ⟨ha, hb⟩).2.symm | omega | (rw [dc_w2, ← (dc_a ⟨ha, hb⟩).1]; unfold dcO; exact lnO_s _ hk))
  have e2 : (1 : Int) = (dcC (B32 (modL (BV a))) (k + (1 : Nat))) := (by first | exact wrap_succ (by omega) | exact (dc_a ⟨ha, hb⟩).2.symm | omega | (rw [dc_w2, ← (dc_a ⟨ha, hb⟩).1]; unfold dcO; exact lnO_s _ hk))
  have h := Run.of_outT (B := ⟨w, rw, 0, β⟩) (Λ := noLam) (Ψ := psiOf [(7, [.eqS 7 (.o (.a (.i .i64 ((nib (B32 (modL (BV a))) k) + (dcC (B32 (modL (BV a))) k)))))])]) (fuel := 0) (ora := [true, true, true, true, true]) (c := (loopB Try.f62 0)) (st := (dl62_mk a k s)) (l := [.forget [0, 1, 2, 3, 4, 5, 8, 9, 10, 11, 12] 3]) (s' := ⟨sparse 41 [(0, .o (.g [.ints .u8 (32 : Nat) a])), (1, .o (.a (.p 0 0))), (2, .o (.a (.raw (.slice none 0 0)))), (3, .o (.a (.p 1 0))), (4, .o (.a (.sl 2 (0 : Nat) (64 : Nat) (64 : Nat)))), (5, .o (.a (.i .i64 (1 : Int)))), (8, .o (.g [.ints .u8 (32 : Nat) a])), (9, .o (.g [.ints .u64 (4 : Nat) (W4 (modL (BV a)))])), (10, .o (.g [.ints .u8 (32 : Nat) (B32 (V4 (W4 (modL (BV a)))))])), (11, .o (.a (.sl 2 (0 : Nat) (64 : Nat) (64 : Nat)))), (12, .o (.a (.i .i64 (IntKind.i64.wrap (((k : Nat) : Int) + (1 : Int))))))], [some ⟨true, [.ints .u8 (32 : Nat) a]⟩, some ⟨true, [.ints .u8 (32 : Nat) (B32 (modL (BV a)))]⟩, some ⟨true, [.ints .i64 (64 : Nat) (List.set (dcO (B32 (modL (BV a))) k) k (IntKind.i64.wrap (((nib (B32 (modL (BV a))) k) + (dcC (B32 (modL (BV a))) k)) - (16 : Int))))]⟩]⟩) (ex := .normal) mix tabOkRJ gam72_ok
    (vc := [(k < (64 : Nat)), (((0 : Int) ≤ ((k : Nat) : Int)) ∧ (((k : Nat) : Int) < (64 : Int))), ((decide (((k : Nat) : Int) < (63 : Int))) = true), ((decide (((nib (B32 (modL (BV a))) k) + (dcC (B32 (modL (BV a))) k)) > (7 : Int))) = true), ((decide (((nib (B32 (modL (BV a))) k) + (dcC (B32 (modL (BV a))) k)) > (7 : Int))) = true), ((decide (((nib (B32 (modL (BV a))) k) + (dcC (B32 (modL (BV a))) k)) > (7 : Int))) = true), ((.o (.a (.i .i64 (IntKind.i64.wrap ((IntKind.i64.wrap (bits2 .and .u8 (shr .u8 (List.getD (B32 (modL (BV a))) (Int.toNat (IntKind.i64.wrap (Int.tdiv ((k : Nat) : Int) (2 : Int)))) 0) (IntKind.i64.wrap ((4 : Int) * (Int.tmod ((k : Nat) : Int) (2 : Int))))) (15 : Int))) + (dcC (B32 (modL (BV a))) k))))) : AV) = .o (.a (.i .i64 ((nib (B32 (modL (BV a))) k) + (dcC (B32 (modL (BV a))) k))))), ((0 : Int) ≤ (IntKind.i64.wrap ((4 : Int) * (Int.tmod ((k : Nat) : Int) (2 : Int))))), ((2 : Int) ≠ 0), ((Int.toNat (IntKind.i64.wrap (Int.tdiv ((k : Nat) : Int) (2 : Int)))) < (32 : Nat)), (((0 : Int) ≤ (IntKind.i64.wrap (Int.tdiv ((k : Nat) : Int) (2 : Int)))) ∧ ((IntKind.i64.wrap (Int.tdiv ((k : Nat) : Int) (2 : Int))) < (32 : Int))), ((2 : Int) ≠ 0), ((decide (((k : Nat) : Int) < (64 : Int))) = true)]) (by kernel_rfl)
    (AllP_cons (by have q := dq hk; have q1 := q.1; have q2 := q.2; have hc := dcC_rng (B32 (modL (BV a))) k; have hn := nib_rng (B32 (modL (BV a))) k; first | omega | (simp (disch := omega) only [wrapI]; omega)) (AllP_cons ⟨(by have q := dq hk; have q1 := q.1; have q2 := q.2; have hc := dcC_rng (B32 (modL (BV a))) k; have hn := nib_rng (B32 (modL (BV a))) k; first | omega | (simp (disch := omega) only [wrapI]; omega)), (by have q := dq hk; have q1 := q.1; have q2 := q.2; have hc := dcC_rng (B32 (modL (BV a))) k; have hn := nib_rng (B32 (modL (BV a))) k; first | omega | (simp (disch := omega) only [wrapI]; omega))⟩ (AllP_cons (decide_eq_true (by omega)) (AllP_cons (decide_eq_true ha) (AllP_cons (decide_eq_true ha) (AllP_cons (decide_eq_true ha) (AllP_cons ((congrArg (fun z => AV.o (.a (.i .i64 z))) (dc_w (B32 (modL (BV a))) k))) (AllP_cons (by have q := dq hk; have q1 := q.1; have q2 := q.2; have hc := dcC_rng (B32 (modL (BV a))) k; have hn := nib_rng (B32 (modL (BV a))) k; first | omega | (simp (disch := omega) only [wrapI]; omega)) (AllP_cons (by decide) (AllP_cons (by have q := dq hk; have q1 := q.1; have q2 := q.2; have hc := dcC_rng (B32 (modL (BV a))) k; have hn := nib_rng (B32 (modL (BV a))) k; first | omega | (simp (disch := omega) only [wrapI]; omega)) (AllP_cons ⟨(by have q := dq hk; have q1 := q.1; have q2 := q.2; have hc := dcC_rng (B32 (modL (BV a))) k; have hn := nib_rng (B32 (modL (BV a))) k; first | omega | (simp (disch := omega) only [wrapI]; omega)), (by have q := dq hk; have q1 := q.1; have q2 := q.2; have hc := dcC_rng (B32 (modL (BV a))) k; have hn := nib_rng (B32 (modL (BV a))) k; first | omega | (simp (disch := omega) only [wrapI]; omega))⟩ (AllP_cons (by decide) (AllP_cons (decide_eq_true (by have q := dq hk; have q1 := q.1; have q2 := q.2; have hc := dcC_rng (B32 (modL (BV a))) k; have hn := nib_rng (B32 (modL (BV a))) k; first | omega | (simp (disch := omega) only [wrapI]; omega))) (AllP_nil))))))))))))))
  rw [e0, e1, e2] at h
  exact h

set_option maxHeartbeats 1000000 in
theorem dl62_round_1 (a : List Int) (h0 : (Byt a)) (hv0 : List.length a = (32 : Nat)) (w : World) (rw : List Nat) (β : Env) (k : Nat) (hk : k < (64 : Nat)) (s : Unit) (ha : nib (B32 (modL (BV a))) k + dcC (B32 (modL (BV a))) k > 7) (hb : ¬ k < 63) : Run Try.prog ⟨w, rw, 0, β⟩ (loopB Try.f62 0) (dl62_mk a k s) (To ⟨w, rw, 0, β⟩ .normal (dl62_mk a (k + 1) (dl62_step k s))) := by
  have e0 : (List.set (dcO (B32 (modL (BV a))) k) k ((nib (B32 (modL (BV a))) k) + (dcC (B32 (modL (BV a))) k))) = (dcO (B32 (modL (BV a))) (k + (1 : Nat))) := (by first | exact wrap_succ (by omega) | exact (dc_b (fun h => hb h.2)).2.symm | omega | (rw [← (dc_b (fun h => hb h.2)).1]; unfold dcO; exact lnO_s _ hk))
  have e1 : (IntKind.i64.wrap (((k : Nat) : Int) + (1 : Int))) = (((k + (1 : Nat)) : Nat) : Int) := (by first | exact wrap_succ (by omega) | exact (dc_b (fun h => hb h.2)).2.symm | omega | (rw [← (dc_b (fun h => hb h.2)).1]; unfold dcO; exact lnO_s _ hk))
  have e2 : (0 : Int) = (dcC (B32 (modL (BV a))) (k + (1 : Nat))) := (by first | exact wrap_succ (by omega) | exact (dc_b (fun h => hb h.2)).2.symm | omega | (rw [← (dc_b (fun h => hb h.2)).1]; unfold dcO; exact lnO_s _ hk))
  have h := Run.of_outT (B := ⟨w, rw, 0, β⟩) (Λ := noLam) (Ψ := psiOf [(7, [.eqS 7 (.o (.a (.i .i64 ((nib (B32 (modL (BV a))) k) + (dcC (B32 (modL (BV a))) k)))))])]) (fuel := 0) (ora := [true, true, true, true, false]) (c := (loopB Try.f62 0)) (st := (dl62_mk a k s)) (l := [.forget [0, 1, 2, 3, 4, 5, 8, 9, 10, 11, 12] 3]) (s' := ⟨sparse 41 [(0, .o (.g [.ints .u8 (32 : Nat) a])), (1, .o (.a (.p 0 0))), (2, .o (.a (.raw (.slice none 0 0)))), (3, .o (.a (.p 1 0))), (4, .o (.a (.sl 2 (0 : Nat) (64 : Nat) (64 : Nat)))), (5, .o (.a (.i .i64 (0 : Int)))), (8, .o (.g [.ints .u8 (32 : Nat) a])), (9, .o (.g [.ints .u64 (4 : Nat) (W4 (modL (BV a)))])), (10, .o (.g [.ints .u8 (32 : Nat) (B32 (V4 (W4 (modL (BV a)))))])), (11, .o (.a (.sl 2 (0 : Nat) (64 : Nat) (64 : Nat)))), (12, .o (.a (.i .i64 (IntKind.i64.wrap (((k : Nat) : Int) + (1 : Int))))))], [some ⟨true, [.ints .u8 (32 : Nat) a]⟩, some ⟨true, [.ints .u8 (32 : Nat) (B32 (modL (BV a)))]⟩, some ⟨true, [.ints .i64 (64 : Nat) (List.set (dcO (B32 (modL (BV a))) k) k ((nib (B32 (modL (BV a))) k) + (dcC (B32 (modL (BV a))) k)))]⟩]⟩) (ex := .normal) mix tabOkRJ gam72_ok
    (vc := [(k < (64 : Nat)), (((0 : Int) ≤ ((k : Nat) : Int)) ∧ (((k : Nat) : Int) < (64 : Int))), ((decide (((k : Nat) : Int) < (63 : Int))) = false), ((decide (((nib (B32 (modL (BV a))) k) + (dcC (B32 (modL (BV a))) k)) > (7 : Int))) = true), ((decide (((nib (B32 (modL (BV a))) k) + (dcC (B32 (modL (BV a))) k)) > (7 : Int))) = true), ((decide (((nib (B32 (modL (BV a))) k) + (dcC (B32 (modL (BV a))) k)) > (7 : Int))) = true), ((.o (.a (.i .i64 (IntKind.i64.wrap ((IntKind.i64.wrap (bits2 .and .u8 (shr .u8 (List.getD (B32 (modL (BV a))) (Int.toNat (IntKind.i64.wrap (Int.tdiv ((k : Nat) : Int) (2 : Int)))) 0) (IntKind.i64.wrap ((4 : Int) * (Int.tmod ((k : Nat) : Int) (2 : Int))))) (15 : Int))) + (dcC (B32 (modL (BV a))) k))))) : AV) = .o (.a (.i .i64 ((nib (B32 (modL (BV a))) k) + (dcC (B32 (modL (BV a))) k))))), ((0 : Int) ≤ (IntKind.i64.wrap ((4 : Int) * (Int.tmod ((k : Nat) : Int) (2 : Int))))), ((2 : Int) ≠ 0), ((Int.toNat (IntKind.i64.wrap (Int.tdiv ((k : Nat) : Int) (2 : Int)))) < (32 : Nat)), (((0 : Int) ≤ (IntKind.i64.wrap (Int.tdiv ((k : Nat) : Int) (2 : Int)))) ∧ ((IntKind.i64.wrap (Int.tdiv ((k : Nat) : Int) (2 : Int))) < (32 : Int))), ((2 : Int) ≠ 0), ((decide (((k : Nat) : Int) < (64 : Int))) = true)]) (by kernel_rfl)
    (AllP_cons (by have q := dq hk; have q1 := q.1; have q2 := q.2; have hc := dcC_rng (B32 (modL (BV a))) k; have hn := nib_rng (B32 (modL (BV a))) k; first | omega | (simp (disch := omega) only [wrapI]; omega)) (AllP_cons ⟨(by have q := dq hk; have q1 := q.1; have q2 := q.2; have hc := dcC_rng (B32 (modL (BV a))) k; have hn := nib_rng (B32 (modL (BV a))) k; first | omega | (simp (disch := omega) only [wrapI]; omega)), (by have q := dq hk; have q1 := q.1; have q2 := q.2; have hc := dcC_rng (B32 (modL (BV a))) k; have hn := nib_rng (B32 (modL (BV a))) k; first | omega | (simp (disch := omega) only [wrapI]; omega))⟩ (AllP_cons (decide_eq_false (by omega)) (AllP_cons (decide_eq_true ha) (AllP_cons (decide_eq_true ha) (AllP_cons (decide_eq_true ha) (AllP_cons ((congrArg (fun z => AV.o (.a (.i .i64 z))) (dc_w (B32 (modL (BV a))) k))) (AllP_cons (by have q := dq hk; have q1 := q.1; have q2 := q.2; have hc := dcC_rng (B32 (modL (BV a))) k; have hn := nib_rng (B32 (modL (BV a))) k; first | omega | (simp (disch := omega) only [wrapI]; omega)) (AllP_cons (by decide) (AllP_cons (by have q := dq hk; have q1 := q.1; have q2 := q.2; have hc := dcC_rng (B32 (modL (BV a))) k; have hn := nib_rng (B32 (modL (BV a))) k; first | omega | (simp (disch := omega) only [wrapI]; omega)) (AllP_cons ⟨(by have q := dq hk; have q1 := q.1; have q2 := q.2; have hc := dcC_rng (B32 (modL (BV a))) k; have hn := nib_rng (B32 (modL (BV a))) k; first | omega | (simp (disch := omega) only [wrapI]; omega)), (by have q := dq hk; have q1 := q.1; have q2 := q.2; have hc := dcC_rng (B32 (modL (BV a))) k; have hn := nib_rng (B32 (modL (BV a))) k; first | omega | (simp (disch := omega) only [wrapI]; omega))⟩ (AllP_cons (by decide) (AllP_cons (decide_eq_true (by have q := dq hk; have q1 := q.1; have q2 := q.2; have hc := dcC_rng (B32 (modL (BV a))) k; have hn := nib_rng (B32 (modL (BV a))) k; first | omega | (simp (disch := omega) only [wrapI]; omega))) (AllP_nil))))))))))))))
  rw [e0, e1, e2] at h
  exact h

set_option maxHeartbeats 1000000 in
theorem dl62_round_2 (a : List Int) (h0 : (Byt a)) (hv0 : List.length a = (32 : Nat)) (w : World) (rw : List Nat) (β : Env) (k : Nat) (hk : k < (64 : Nat)) (s : Unit) (ha : ¬ (nib (B32 (modL (BV a))) k + dcC (B32 (modL (BV a))) k > 7)) : Run Try.prog ⟨w, rw, 0, β⟩ (loopB Try.f62 0) (dl62_mk a k s) (To ⟨w, rw, 0, β⟩ .normal (dl62_mk a (k + 1) (dl62_step k s))) := by
  have e0 : (List.set (dcO (B32 (modL (BV a))) k) k ((nib (B32 (modL (BV a))) k) + (dcC (B32 (modL (BV a))) k))) = (dcO (B32 (modL (BV a))) (k + (1 : Nat))) := (by first | exact wrap_succ (by omega) | exact (dc_b (fun h => ha h.1)).2.symm | omega | (rw [← (dc_b (fun h => ha h.1)).1]; unfold dcO; exact lnO_s _ hk))
  have e1 : (IntKind.i64.wrap (((k : Nat) : Int) + (1 : Int))) = (((k + (1 : Nat)) : Nat) : Int) := (by first | exact wrap_succ (by omega) | exact (dc_b (fun h => ha h.1)).2.symm | omega | (rw [← (dc_b (fun h => ha h.1)).1]; unfold dcO; exact lnO_s _ hk))
  have e2 : (0 : Int) = (dcC (B32 (modL (BV a))) (k + (1 : Nat))) := (by first | exact wrap_succ (by omega) | exact (dc_b (fun h => ha h.1)).2.symm | omega | (rw [← (dc_b (fun h => ha h.1)).1]; unfold dcO; exact lnO_s _ hk))
  have h := Run.of_outT (B := ⟨w, rw, 0, β⟩) (Λ := noLam) (Ψ := psiOf [(7, [.eqS 7 (.o (.a (.i .i64 ((nib (B32 (modL (BV a))) k) + (dcC (B32 (modL (BV a))) k)))))])]) (fuel := 0) (ora := [true, false, false, false, false]) (c := (loopB Try.f62 0)) (st := (dl62_mk a k s)) (l := [.forget [0, 1, 2, 3, 4, 5, 8, 9, 10, 11, 12] 3]) (s' := ⟨sparse 41 [(0, .o (.g [.ints .u8 (32 : Nat) a])), (1, .o (.a (.p 0 0))), (2, .o (.a (.raw (.slice none 0 0)))), (3, .o (.a (.p 1 0))), (4, .o (.a (.sl 2 (0 : Nat) (64 : Nat) (64 : Nat)))), (5, .o (.a (.i .i64 (0 : Int)))), (8, .o (.g [.ints .u8 (32 : Nat) a])), (9, .o (.g [.ints .u64 (4 : Nat) (W4 (modL (BV a)))])), (10, .o (.g [.ints .u8 (32 : Nat) (B32 (V4 (W4 (modL (BV a)))))])), (11, .o (.a (.sl 2 (0 : Nat) (64 : Nat) (64 : Nat)))), (12, .o (.a (.i .i64 (IntKind.i64.wrap (((k : Nat) : Int) + (1 : Int))))))], [some ⟨true, [.ints .u8 (32 : Nat) a]⟩, some ⟨true, [.ints .u8 (32 : Nat) (B32 (modL (BV a)))]⟩, some ⟨true, [.ints .i64 (64 : Nat) (List.set (dcO (B32 (modL (BV a))) k) k ((nib (B32 (modL (BV a))) k) + (dcC (B32 (modL (BV a))) k)))]⟩]⟩) (ex := .normal) mix tabOkRJ gam72_ok
    (vc := [(k < (64 : Nat)), (((0 : Int) ≤ ((k : Nat) : Int)) ∧ (((k : Nat) : Int) < (64 : Int))), (false = false), ((decide (((nib (B32 (modL (BV a))) k) + (dcC (B32 (modL (BV a))) k)) > (7 : Int))) = false), ((decide (((nib (B32 (modL (BV a))) k) + (dcC (B32 (modL (BV a))) k)) > (7 : Int))) = false), ((decide (((nib (B32 (modL (BV a))) k) + (dcC (B32 (modL (BV a))) k)) > (7 : Int))) = false), ((.o (.a (.i .i64 (IntKind.i64.wrap ((IntKind.i64.wrap (bits2 .and .u8 (shr .u8 (List.getD (B32 (modL (BV a))) (Int.toNat (IntKind.i64.wrap (Int.tdiv ((k : Nat) : Int) (2 : Int)))) 0) (IntKind.i64.wrap ((4 : Int) * (Int.tmod ((k : Nat) : Int) (2 : Int))))) (15 : Int))) + (dcC (B32 (modL (BV a))) k))))) : AV) = .o (.a (.i .i64 ((nib (B32 (modL (BV a))) k) + (dcC (B32 (modL (BV a))) k))))), ((0 : Int) ≤ (IntKind.i64.wrap ((4 : Int) * (Int.tmod ((k : Nat) : Int) (2 : Int))))), ((2 : Int) ≠ 0), ((Int.toNat (IntKind.i64.wrap (Int.tdiv ((k : Nat) : Int) (2 : Int)))) < (32 : Nat)), (((0 : Int) ≤ (IntKind.i64.wrap (Int.tdiv ((k : Nat) : Int) (2 : Int)))) ∧ ((IntKind.i64.wrap (Int.tdiv ((k : Nat) : Int) (2 : Int))) < (32 : Int))), ((2 : Int) ≠ 0), ((decide (((k : Nat) : Int) < (64 : Int))) = true)]) (by kernel_rfl)
    (AllP_cons (by have q := dq hk; have q1 := q.1; have q2 := q.2; have hc := dcC_rng (B32 (modL (BV a))) k; have hn := nib_rng (B32 (modL (BV a))) k; first | omega | (simp (disch := omega) only [wrapI]; omega)) (AllP_cons ⟨(by have q := dq hk; have q1 := q.1; have q2 := q.2; have hc := dcC_rng (B32 (modL (BV a))) k; have hn := nib_rng (B32 (modL (BV a))) k; first | omega | (simp (disch := omega) only [wrapI]; omega)), (by have q := dq hk; have q1 := q.1; have q2 := q.2; have hc := dcC_rng (B32 (modL (BV a))) k; have hn := nib_rng (B32 (modL (BV a))) k; first | omega | (simp (disch := omega) only [wrapI]; omega))⟩ (AllP_cons rfl (AllP_cons (decide_eq_false ha) (AllP_cons (decide_eq_false ha) (AllP_cons (decide_eq_false ha) (AllP_cons ((congrArg (fun z => AV.o (.a (.i .i64 z))) (dc_w (B32 (modL (BV a))) k))) (AllP_cons (by have q := dq hk; have q1 := q.1; have q2 := q.2; have hc := dcC_rng (B32 (modL (BV a))) k; have hn := nib_rng (B32 (modL (BV a))) k; first | omega | (simp (disch := omega) only [wrapI]; omega)) (AllP_cons (by decide) (AllP_cons (by have q := dq hk; have q1 := q.1; have q2 := q.2; have hc := dcC_rng (B32 (modL (BV a))) k; have hn := nib_rng (B32 (modL (BV a))) k; first | omega | (simp (disch := omega) only [wrapI]; omega)) (AllP_cons ⟨(by have q := dq hk; have q1 := q.1; have q2 := q.2; have hc := dcC_rng (B32 (modL (BV a))) k; have hn := nib_rng (B32 (modL (BV a))) k; first | omega | (simp (disch := omega) only [wrapI]; omega)), (by have q := dq hk; have q1 := q.1; have q2 := q.2; have hc := dcC_rng (B32 (modL (BV a))) k; have hn := nib_rng (B32 (modL (BV a))) k; first | omega | (simp (disch := omega) only [wrapI]; omega))⟩ (AllP_cons (by decide) (AllP_cons (decide_eq_true (by have q := dq hk; have q1 := q.1; have q2 := q.2; have hc := dcC_rng (B32 (modL (BV a))) k; have hn := nib_rng (B32 (modL (BV a))) k; first | omega | (simp (disch := omega) only [wrapI]; omega))) (AllP_nil))))))))))))))
  rw [e0, e1, e2] at h
  exact h

theorem dl62_round (a : List Int) (h0 : (Byt a)) (hv0 : List.length a = (32 : Nat)) (w : World) (rw : List Nat) (β : Env) (k : Nat) (hk : k < (64 : Nat)) (s : Unit) : Run Try.prog ⟨w, rw, 0, β⟩ (loopB Try.f62 0) (dl62_mk a k s) (To ⟨w, rw, 0, β⟩ .normal (dl62_mk a (k + 1) (dl62_step k s))) := by
  by_cases ha : nib (B32 (modL (BV a))) k + dcC (B32 (modL (BV a))) k > 7
  · by_cases hb : k < 63
    · exact dl62_round_0 a h0 hv0 w rw β k hk s ha hb
    · exact dl62_round_1 a h0 hv0 w rw β k hk s ha hb
  · exact dl62_round_2 a h0 hv0 w rw β k hk s ha

set_option maxHeartbeats 1000000 in
theorem dl62_last (a : List Int) (h0 : (Byt a)) (hv0 : List.length a = (32 : Nat)) (w : World) (rw : List Nat) (β : Env) (s : Unit) : Run Try.prog ⟨w, rw, 0, β⟩ (loopB Try.f62 0) (dl62_mk a (64 : Nat) s) (To ⟨w, rw, 0, β⟩ (.exit 0) (dl62_mk a (64 : Nat) s)) :=
  Run.of_outT (B := ⟨w, rw, 0, β⟩) (Λ := noLam) (Ψ := noPsi) (fuel := 0) (ora := [false]) (l := [.forget [0, 1, 2, 3, 4, 5, 8, 9, 10, 11, 12] 3]) mix tabOkRJ gam72_ok
    (vc := [(false = false)]) (by kernel_rfl)
    (AllP_cons rfl (AllP_nil))

theorem dl62_loop (a : List Int) (h0 : (Byt a)) (hv0 : List.length a = (32 : Nat)) (w : World) (rw : List Nat) (β : Env) (s : Unit) : Run Try.prog ⟨w, rw, 0, β⟩ (.block 0 (.loop (loopB Try.f62 0))) (dl62_mk a 0 s) (To ⟨w, rw, 0, β⟩ .normal (dl62_mk a (64 : Nat) (iter (dl62_step) (64 : Nat) s))) :=
  Run.count (fun k => dl62_mk a k (iter (dl62_step) k s)) (64 : Nat) (fun k hk => dl62_round a h0 hv0 w rw β k hk _) (ex := (.exit 0)) (by simp) (dl62_last a h0 hv0 w rw β _)

def digP (a : List Int) : List Int :=
  (B32 (modL (BV a)))

def digP_1 (a : List Int) : List Int :=
  (dcO (B32 (modL (BV a))) (64 : Nat))

set_option maxHeartbeats 1000000 in
theorem digP_body0 (a : List Int) (h0 : (Byt a)) (hv0 : List.length a = (32 : Nat)) (w : World) (rw : List Nat) (β : Env) : Body Try.prog (tabOf tabRJ) Try.f62 ⟨w, rw, 0, β⟩ [.o (.g [.ints .u8 (32 : Nat) a])] [] (fun ys K' => ys = [.a (.sl 2 (0 : Nat) (64 : Nat) (64 : Nat))] ∧ K' = [some ⟨true, [.ints .u8 (32 : Nat) a]⟩, some ⟨true, [.ints .u8 (32 : Nat) (digP a)]⟩, some ⟨true, [.ints .i64 (64 : Nat) (digP_1 a)]⟩]) :=
  Body.of_finK (Γ := gam72) (Λ := lamOf [(0, ⟨[.eqB 2 (⟨true, [.ints .i64 (64 : Nat) (dcO (B32 (modL (BV a))) (0 : Nat))]⟩), .eqS 5 (.o (.a (.i .i64 (dcC (B32 (modL (BV a))) (0 : Nat))))), .forget [0, 1, 2, 3, 4, 5, 8, 9, 10, 11, 12] 3], .normal, (dl62_mk a (64 : Nat) (iter (dl62_step) (64 : Nat) ()))⟩)]) (Ψ := psiOf [(1, [.eqB 1 (⟨true, [.ints .u8 (32 : Nat) (B32 (modL (BV a)))]⟩)])]) (fuel := 0) (m := 41) (c := (Try.f62.body.getD .skip)) mix tabOkRJ gam72_ok rfl (rs := [.tmp 2]) rfl rfl [] [] 4
    (vc := [(Run Try.prog ⟨w, rw, 0, β⟩ (.block 0 (.loop (loopB Try.f62 0))) (dl62_mk a 0 ()) (To ⟨w, rw, 0, β⟩ .normal (dl62_mk a (64 : Nat) (iter (dl62_step) (64 : Nat) ())))), ((.o (.a (.i .i64 (0 : Int))) : AV) = .o (.a (.i .i64 (dcC (B32 (modL (BV a))) (0 : Nat))))), ((some ⟨true, [.ints .i64 (64 : Nat) (List.replicate (64 : Nat) (0 : Int))]⟩ : Option Blk) = some ⟨true, [.ints .i64 (64 : Nat) (dcO (B32 (modL (BV a))) (0 : Nat))]⟩), (((0 : Int) ≤ (64 : Int)) ∧ ((64 : Int) ≤ (64 : Int)) ∧ ((512 : Int) ≤ (281474976710656 : Int))), ((some ⟨true, [.ints .u8 (32 : Nat) (B32 (V4 (W4 (modL (BV a)))))]⟩ : Option Blk) = some ⟨true, [.ints .u8 (32 : Nat) (B32 (modL (BV a)))]⟩), (Wds (W4 (modL (BV a)))), (Byt a)]) (by kernel_rfl)
    (AllP_cons (dl62_loop a h0 hv0 w rw β ()) (AllP_cons ((by rfl)) (AllP_cons ((by unfold dcO; rw [lnO_0])) (AllP_cons ⟨(by decide), (by decide), (by decide)⟩ (AllP_cons ((by rw [V4_modL])) (AllP_cons (wds_W4 _) (AllP_cons (by assumption) (AllP_nil))))))))

theorem digP_body (a : List Int) (h0 : (Byt a)) (w : World) (rw : List Nat) (β : Env) : Body Try.prog (tabOf tabRJ) Try.f62 ⟨w, rw, 0, β⟩ [.o (.g [.ints .u8 (32 : Nat) a])] [] (fun ys K' => ys = [.a (.sl 2 (0 : Nat) (64 : Nat) (64 : Nat))] ∧ K' = [some ⟨true, [.ints .u8 (32 : Nat) a]⟩, some ⟨true, [.ints .u8 (32 : Nat) (digP a)]⟩, some ⟨true, [.ints .i64 (64 : Nat) (digP_1 a)]⟩]) :=
  Body.lens (c := (Try.f62.body.getD .skip)) rfl fun h => digP_body0 a h0 (h.vals 0 _ _ _ rfl) w rw β

end Go.Proofs.Ytcpoldghkiiggaa.X

/- Printed by a tool of this session. -/
namespace Go.Proofs.Ytcpoldghkiiggaa.X
open Go Go.Proofs
set_option linter.unusedVariables false
set_option linter.unusedSimpArgs false
set_option maxRecDepth 100000
theorem teRK_3 : TEOk Try.prog 3 ⟨.int .i64, 1, 8, [.i .i64 (0 : Int)], false⟩ :=
  TEOk.of Try.underlying3 (i := Try.t3) (by kernel_rfl) rfl rfl rfl (by kernel_rfl) (fun h => by cases h) (by kernel_rfl)
theorem teRK_24 : TEOk Try.prog 24 ⟨.array 32 5, 32, 32, [.ints .u8 (32 : Nat) ([0, 0, 0, 0, 0, 0, 0, 0, 0, 0, 0, 0, 0, 0, 0, 0, 0, 0, 0, 0, 0, 0, 0, 0, 0, 0, 0, 0, 0, 0, 0, 0] : List Int)], true⟩ :=
  TEOk.of Try.underlying24 (i := Try.t24) (by kernel_rfl) rfl rfl rfl (by kernel_rfl) (fun _ => Try.eqGuardType24) (by kernel_rfl)
theorem teRK_25 : TEOk Try.prog 25 ⟨.int .u64, 1, 8, [.i .u64 (0 : Int)], false⟩ :=
  TEOk.of Try.underlying25 (i := Try.t25) (by kernel_rfl) rfl rfl rfl (by kernel_rfl) (fun h => by cases h) (by kernel_rfl)
theorem teRK_81 : TEOk Try.prog 81 ⟨.slice 3, 1, 24, [.raw (.slice none 0 0)], false⟩ :=
  TEOk.of Try.underlying81 (i := Try.t81) (by kernel_rfl) rfl rfl rfl (by kernel_rfl) (fun h => by cases h) (by kernel_rfl)
theorem teRK_104 : TEOk Try.prog 104 ⟨.array 4 25, 4, 32, [.ints .u64 (4 : Nat) ([0, 0, 0, 0] : List Int)], true⟩ :=
  TEOk.of Try.underlying104 (i := Try.t104) (by kernel_rfl) rfl rfl rfl (by kernel_rfl) (fun _ => Try.eqGuardType104) (by kernel_rfl)
noncomputable def tabRK : List (Nat × TE) := [(3, ⟨.int .i64, 1, 8, [.i .i64 (0 : Int)], false⟩), (24, ⟨.array 32 5, 32, 32, [.ints .u8 (32 : Nat) ([0, 0, 0, 0, 0, 0, 0, 0, 0, 0, 0, 0, 0, 0, 0, 0, 0, 0, 0, 0, 0, 0, 0, 0, 0, 0, 0, 0, 0, 0, 0, 0] : List Int)], true⟩), (25, ⟨.int .u64, 1, 8, [.i .u64 (0 : Int)], false⟩), (81, ⟨.slice 3, 1, 24, [.raw (.slice none 0 0)], false⟩), (104, ⟨.array 4 25, 4, 32, [.ints .u64 (4 : Nat) ([0, 0, 0, 0] : List Int)], true⟩)]
theorem tabOkRK : TabOk Try.prog (tabOf tabRK) := (tabOf_cons teRK_3 (tabOf_cons teRK_24 (tabOf_cons teRK_25 (tabOf_cons teRK_81 (tabOf_cons teRK_104 tabOf_nil)))))

def nfL_mk (a : List Int) (v : Int) (k : Nat) (s : Unit) : St := ⟨sparse 106 [(0, .o (.g [.ints .u8 (32 : Nat) a])), (1, .o (.a (.i .i64 v))), (2, .o (.a (.p 0 0))), (4, .o (.a (.raw (.slice none 0 0)))), (5, .o (.a (.i .i64 (0 : Int)))), (6, .o (.a (.p 1 0))), (7, .o (.a (.sl 2 (0 : Nat) (256 : Nat) (256 : Nat)))), (13, .o (.a (.i .i64 v))), (14, .o (.a (.b (decide (v < (2 : Int)))))), (15, .o (.a (.b (decide (v < (2 : Int)))))), (16, .o (.a (.i .i64 v))), (17, .o (.a (.b (decide (v > (8 : Int)))))), (18, .o (.a (.b (decide (v > (8 : Int)))))), (19, .o (.g [.ints .u8 (32 : Nat) a])), (20, .o (.g [.ints .u64 (4 : Nat) (W4 (modL (BV a)))])), (21, .o (.a (.sl 2 (0 : Nat) (256 : Nat) (256 : Nat)))), (22, .o (.a (.i .i64 ((k : Nat) : Int))))], [some ⟨true, [.ints .u8 (32 : Nat) a]⟩, some ⟨true, [.ints .u64 (4 : Nat) (W4 (nfV v a k))]⟩, some ⟨true, [.ints .i64 (256 : Nat) (nfO v a k)]⟩]⟩

def nfL_step (k : Nat) (s : Unit) : Unit :=
  ()

set_option maxHeartbeats 1000000 in
theorem nfL_round_0 (a : List Int) (v : Int) (h0 : (Byt a)) (h1 : ((2 : Int) ≤ v)) (h2 : (v ≤ (8 : Int))) (hv0 : List.length a = (32 : Nat)) (w : World) (rw : List Nat) (β : Env) (k : Nat) (hk : k < (256 : Nat)) (s : Unit) (ha : (nfV v a k) % 2 = 1) (hb : nafX v (nfV v a k) ≥ pw2 (v - 1)) : Run Try.prog ⟨w, rw, 0, β⟩ (loopB Try.f59 0) (nfL_mk a v k s) (To ⟨w, rw, 0, β⟩ .normal (nfL_mk a v (k + 1) (nfL_step k s))) := by
  have e0 : ([(bits2 .or .u64 (shr .u64 (wdx (nafW v (nfV v a k)) (0 : Nat)) (1 : Int)) (shl .u64 (wdx (nafW v (nfV v a k)) (1 : Nat)) (63 : Int))), (bits2 .or .u64 (shr .u64 (wdx (nafW v (nfV v a k)) (1 : Nat)) (1 : Int)) (shl .u64 (wdx (nafW v (nfV v a k)) (2 : Nat)) (63 : Int))), (bits2 .or .u64 (shr .u64 (wdx (nafW v (nfV v a k)) (2 : Nat)) (1 : Int)) (shl .u64 (wdx (nafW v (nfV v a k)) (3 : Nat)) (63 : Int))), (shr .u64 (wdx (nafW v (nfV v a k)) (3 : Nat)) (1 : Int))] : List Int) = (W4 (nfV v a (k + (1 : Nat)))) := (by first | exact wrap_succ (by omega) | omega | exact nfO_s hk | exact naf_half (nafW_rng h1 h2 (nfV_rng h1 h2 a k)))
  have e1 : (IntKind.i64.wrap (((k : Nat) : Int) + (1 : Int))) = (((k + (1 : Nat)) : Nat) : Int) := (by first | exact wrap_succ (by omega) | omega | exact nfO_s hk | exact naf_half (nafW_rng h1 h2 (nfV_rng h1 h2 a k)))
  have e2 : (List.set (nfO v a k) k (nafD v (nfV v a k))) = (nfO v a (k + (1 : Nat))) := (by first | exact wrap_succ (by omega) | omega | exact nfO_s hk | exact naf_half (nafW_rng h1 h2 (nfV_rng h1 h2 a k)))
  have h := Run.of_outT (B := ⟨w, rw, 0, β⟩) (Λ := noLam) (Ψ := psiOf [(9, [.eqS 9 (.o (.a (.i .i64 (nafX v (nfV v a k)))))]), (11, [.eqS 9 (.o (.a (.i .i64 (nafD v (nfV v a k)))))]), (15, [.eqB 1 (⟨true, [.ints .u64 (4 : Nat) ([(wdx (nfV v a k) (0 : Nat)), (wdx (nfV v a k) (1 : Nat)), (wdx (nfV v a k) (2 : Nat)), (wdx (nfV v a k) (3 : Nat))] : List Int)]⟩)]), (21, [.eqB 1 (⟨true, [.ints .u64 (4 : Nat) ([(wdx (nafW v (nfV v a k)) (0 : Nat)), (wdx (nafW v (nfV v a k)) (1 : Nat)), (wdx (nafW v (nfV v a k)) (2 : Nat)), (wdx (nafW v (nfV v a k)) (3 : Nat))] : List Int)]⟩)])]) (fuel := 6) (ora := [true, true, true, false, true, true, true, false, true, true, true, true, true, true, true, false, false]) (c := (loopB Try.f59 0)) (st := (nfL_mk a v k s)) (l := [.forget [0, 1, 2, 4, 5, 6, 7, 13, 14, 15, 16, 17, 18, 19, 20, 21, 22] 3]) (s' := ⟨sparse 106 [(0, .o (.g [.ints .u8 (32 : Nat) a])), (1, .o (.a (.i .i64 v))), (2, .o (.a (.p 0 0))), (4, .o (.a (.raw (.slice none 0 0)))), (5, .o (.a (.i .i64 (0 : Int)))), (6, .o (.a (.p 1 0))), (7, .o (.a (.sl 2 (0 : Nat) (256 : Nat) (256 : Nat)))), (13, .o (.a (.i .i64 v))), (14, .o (.a (.b (decide (v < (2 : Int)))))), (15, .o (.a (.b (decide (v < (2 : Int)))))), (16, .o (.a (.i .i64 v))), (17, .o (.a (.b (decide (v > (8 : Int)))))), (18, .o (.a (.b (decide (v > (8 : Int)))))), (19, .o (.g [.ints .u8 (32 : Nat) a])), (20, .o (.g [.ints .u64 (4 : Nat) (W4 (modL (BV a)))])), (21, .o (.a (.sl 2 (0 : Nat) (256 : Nat) (256 : Nat)))), (22, .o (.a (.i .i64 (IntKind.i64.wrap (((k : Nat) : Int) + (1 : Int))))))], [some ⟨true, [.ints .u8 (32 : Nat) a]⟩, some ⟨true, [.ints .u64 (4 : Nat) ([(bits2 .or .u64 (shr .u64 (wdx (nafW v (nfV v a k)) (0 : Nat)) (1 : Int)) (shl .u64 (wdx (nafW v (nfV v a k)) (1 : Nat)) (63 : Int))), (bits2 .or .u64 (shr .u64 (wdx (nafW v (nfV v a k)) (1 : Nat)) (1 : Int)) (shl .u64 (wdx (nafW v (nfV v a k)) (2 : Nat)) (63 : Int))), (bits2 .or .u64 (shr .u64 (wdx (nafW v (nfV v a k)) (2 : Nat)) (1 : Int)) (shl .u64 (wdx (nafW v (nfV v a k)) (3 : Nat)) (63 : Int))), (shr .u64 (wdx (nafW v (nfV v a k)) (3 : Nat)) (1 : Int))] : List Int)]⟩, some ⟨true, [.ints .i64 (256 : Nat) (List.set (nfO v a k) k (nafD v (nfV v a k)))]⟩]⟩) (ex := .normal) mix tabOkRK gam72_ok
    (vc := [(false = false), (false = false), ((3 : Nat) < (4 : Nat)), (((0 : Int) ≤ (3 : Int)) ∧ ((3 : Int) < (4 : Int))), ((0 : Int) ≤ (1 : Int)), ((3 : Nat) < (4 : Nat)), (((0 : Int) ≤ (3 : Int)) ∧ ((3 : Int) < (4 : Int))), (true = true), ((2 : Nat) < (4 : Nat)), (((0 : Int) ≤ (2 : Int)) ∧ ((2 : Int) < (4 : Int))), ((0 : Int) ≤ (63 : Int)), ((3 : Nat) < (4 : Nat)), (((0 : Int) ≤ (3 : Int)) ∧ ((3 : Int) < (4 : Int))), ((2 : Nat) < (4 : Nat)), (((0 : Int) ≤ (2 : Int)) ∧ ((2 : Int) < (4 : Int))), (true = true), ((2 : Nat) < (4 : Nat)), (((0 : Int) ≤ (2 : Int)) ∧ ((2 : Int) < (4 : Int))), ((0 : Int) ≤ (1 : Int)), ((2 : Nat) < (4 : Nat)), (((0 : Int) ≤ (2 : Int)) ∧ ((2 : Int) < (4 : Int))), (true = true), ((1 : Nat) < (4 : Nat)), (((0 : Int) ≤ (1 : Int)) ∧ ((1 : Int) < (4 : Int))), ((0 : Int) ≤ (63 : Int)), ((2 : Nat) < (4 : Nat)), (((0 : Int) ≤ (2 : Int)) ∧ ((2 : Int) < (4 : Int))), ((1 : Nat) < (4 : Nat)), (((0 : Int) ≤ (1 : Int)) ∧ ((1 : Int) < (4 : Int))), (true = true), ((1 : Nat) < (4 : Nat)), (((0 : Int) ≤ (1 : Int)) ∧ ((1 : Int) < (4 : Int))), ((0 : Int) ≤ (1 : Int)), ((1 : Nat) < (4 : Nat)), (((0 : Int) ≤ (1 : Int)) ∧ ((1 : Int) < (4 : Int))), (true = true), ((0 : Nat) < (4 : Nat)), (((0 : Int) ≤ (0 : Int)) ∧ ((0 : Int) < (4 : Int))), ((0 : Int) ≤ (63 : Int)), ((1 : Nat) < (4 : Nat)), (((0 : Int) ≤ (1 : Int)) ∧ ((1 : Int) < (4 : Int))), ((0 : Nat) < (4 : Nat)), (((0 : Int) ≤ (0 : Int)) ∧ ((0 : Int) < (4 : Int))), (true = true), ((0 : Nat) < (4 : Nat)), (((0 : Int) ≤ (0 : Int)) ∧ ((0 : Int) < (4 : Int))), ((0 : Int) ≤ (1 : Int)), ((0 : Nat) < (4 : Nat)), (((0 : Int) ≤ (0 : Int)) ∧ ((0 : Int) < (4 : Int))), (true = true), ((some ⟨true, [.ints .u64 (4 : Nat) ([(ad64s (wdx (nfV v a k) (0 : Nat)) (IntKind.u64.wrap (IntKind.i64.wrap ((0 : Int) - (nafD v (nfV v a k))))) (0 : Int)), (ad64s (wdx (nfV v a k) (1 : Nat)) (0 : Int) (ad64c (wdx (nfV v a k) (0 : Nat)) (IntKind.u64.wrap (IntKind.i64.wrap ((0 : Int) - (nafD v (nfV v a k))))) (0 : Int))), (ad64s (wdx (nfV v a k) (2 : Nat)) (0 : Int) (ad64c (wdx (nfV v a k) (1 : Nat)) (0 : Int) (ad64c (wdx (nfV v a k) (0 : Nat)) (IntKind.u64.wrap (IntKind.i64.wrap ((0 : Int) - (nafD v (nfV v a k))))) (0 : Int)))), (ad64s (wdx (nfV v a k) (3 : Nat)) (0 : Int) (ad64c (wdx (nfV v a k) (2 : Nat)) (0 : Int) (ad64c (wdx (nfV v a k) (1 : Nat)) (0 : Int) (ad64c (wdx (nfV v a k) (0 : Nat)) (IntKind.u64.wrap (IntKind.i64.wrap ((0 : Int) - (nafD v (nfV v a k))))) (0 : Int)))))] : List Int)]⟩ : Option Blk) = some ⟨true, [.ints .u64 (4 : Nat) ([(wdx (nafW v (nfV v a k)) (0 : Nat)), (wdx (nafW v (nfV v a k)) (1 : Nat)), (wdx (nafW v (nfV v a k)) (2 : Nat)), (wdx (nafW v (nfV v a k)) (3 : Nat))] : List Int)]⟩), (false = false), ((3 : Nat) < (4 : Nat)), (((0 : Int) ≤ (3 : Int)) ∧ ((3 : Int) < (4 : Int))), (((0 : Int) ≤ (wdx (nfV v a k) (3 : Nat))) ∧ ((0 : Int) ≤ (0 : Int)) ∧ ((0 : Int) ≤ (ad64c (wdx (nfV v a k) (2 : Nat)) (0 : Int) (ad64c (wdx (nfV v a k) (1 : Nat)) (0 : Int) (ad64c (wdx (nfV v a k) (0 : Nat)) (IntKind.u64.wrap (IntKind.i64.wrap ((0 : Int) - (nafD v (nfV v a k))))) (0 : Int))))) ∧ ((ad64c (wdx (nfV v a k) (2 : Nat)) (0 : Int) (ad64c (wdx (nfV v a k) (1 : Nat)) (0 : Int) (ad64c (wdx (nfV v a k) (0 : Nat)) (IntKind.u64.wrap (IntKind.i64.wrap ((0 : Int) - (nafD v (nfV v a k))))) (0 : Int)))) ≤ (1 : Int))), ((3 : Nat) < (4 : Nat)), (((0 : Int) ≤ (3 : Int)) ∧ ((3 : Int) < (4 : Int))), (true = true), ((2 : Nat) < (4 : Nat)), (((0 : Int) ≤ (2 : Int)) ∧ ((2 : Int) < (4 : Int))), (((0 : Int) ≤ (wdx (nfV v a k) (2 : Nat))) ∧ ((0 : Int) ≤ (0 : Int)) ∧ ((0 : Int) ≤ (ad64c (wdx (nfV v a k) (1 : Nat)) (0 : Int) (ad64c (wdx (nfV v a k) (0 : Nat)) (IntKind.u64.wrap (IntKind.i64.wrap ((0 : Int) - (nafD v (nfV v a k))))) (0 : Int)))) ∧ ((ad64c (wdx (nfV v a k) (1 : Nat)) (0 : Int) (ad64c (wdx (nfV v a k) (0 : Nat)) (IntKind.u64.wrap (IntKind.i64.wrap ((0 : Int) - (nafD v (nfV v a k))))) (0 : Int))) ≤ (1 : Int))), ((2 : Nat) < (4 : Nat)), (((0 : Int) ≤ (2 : Int)) ∧ ((2 : Int) < (4 : Int))), (true = true), ((1 : Nat) < (4 : Nat)), (((0 : Int) ≤ (1 : Int)) ∧ ((1 : Int) < (4 : Int))), (((0 : Int) ≤ (wdx (nfV v a k) (1 : Nat))) ∧ ((0 : Int) ≤ (0 : Int)) ∧ ((0 : Int) ≤ (ad64c (wdx (nfV v a k) (0 : Nat)) (IntKind.u64.wrap (IntKind.i64.wrap ((0 : Int) - (nafD v (nfV v a k))))) (0 : Int))) ∧ ((ad64c (wdx (nfV v a k) (0 : Nat)) (IntKind.u64.wrap (IntKind.i64.wrap ((0 : Int) - (nafD v (nfV v a k))))) (0 : Int)) ≤ (1 : Int))), ((1 : Nat) < (4 : Nat)), (((0 : Int) ≤ (1 : Int)) ∧ ((1 : Int) < (4 : Int))), (true = true), (((0 : Int) ≤ (wdx (nfV v a k) (0 : Nat))) ∧ ((0 : Int) ≤ (IntKind.u64.wrap (IntKind.i64.wrap ((0 : Int) - (nafD v (nfV v a k)))))) ∧ ((0 : Int) ≤ (0 : Int)) ∧ ((0 : Int) ≤ (1 : Int))), ((some ⟨true, [.ints .u64 (4 : Nat) (W4 (nfV v a k))]⟩ : Option Blk) = some ⟨true, [.ints .u64 (4 : Nat) ([(wdx (nfV v a k) (0 : Nat)), (wdx (nfV v a k) (1 : Nat)), (wdx (nfV v a k) (2 : Nat)), (wdx (nfV v a k) (3 : Nat))] : List Int)]⟩), ((decide ((nafD v (nfV v a k)) > (0 : Int))) = false), (k < (256 : Nat)), (((0 : Int) ≤ ((k : Nat) : Int)) ∧ (((k : Nat) : Int) < (256 : Int))), ((.o (.a (.i .i64 (IntKind.i64.wrap ((nafX v (nfV v a k)) - (shl .i64 (1 : Int) v))))) : AV) = .o (.a (.i .i64 (nafD v (nfV v a k))))), ((0 : Int) ≤ v), ((decide ((nafX v (nfV v a k)) ≥ (shl .i64 (1 : Int) (IntKind.i64.wrap (v - (1 : Int)))))) = true), ((0 : Int) ≤ (IntKind.i64.wrap (v - (1 : Int)))), ((.o (.a (.i .i64 (IntKind.i64.wrap (bits2 .and .u64 (List.getD (sub (W4 (nfV v a k)) (0 : Nat) (1 : Nat)) (0 : Nat) 0) (IntKind.u64.wrap ((shl .u64 (1 : Int) v) - (1 : Int))))))) : AV) = .o (.a (.i .i64 (nafX v (nfV v a k))))), ((0 : Int) ≤ v), (((bits2 .and .u64 (List.getD (sub (W4 (nfV v a k)) (0 : Nat) (1 : Nat)) (0 : Nat) 0) (1 : Int)) == (1 : Int)) = true), ((decide (((k : Nat) : Int) < (256 : Int))) = true)]) (by kernel_rfl)
    (AllP_cons rfl (AllP_cons rfl (AllP_cons (by decide) (AllP_cons ⟨(by decide), (by decide)⟩ (AllP_cons (by decide) (AllP_cons (by decide) (AllP_cons ⟨(by decide), (by decide)⟩ (AllP_cons rfl (AllP_cons (by decide) (AllP_cons ⟨(by decide), (by decide)⟩ (AllP_cons (by decide) (AllP_cons (by decide) (AllP_cons ⟨(by decide), (by decide)⟩ (AllP_cons (by decide) (AllP_cons ⟨(by decide), (by decide)⟩ (AllP_cons rfl (AllP_cons (by decide) (AllP_cons ⟨(by decide), (by decide)⟩ (AllP_cons (by decide) (AllP_cons (by decide) (AllP_cons ⟨(by decide), (by decide)⟩ (AllP_cons rfl (AllP_cons (by decide) (AllP_cons ⟨(by decide), (by decide)⟩ (AllP_cons (by decide) (AllP_cons (by decide) (AllP_cons ⟨(by decide), (by decide)⟩ (AllP_cons (by decide) (AllP_cons ⟨(by decide), (by decide)⟩ (AllP_cons rfl (AllP_cons (by decide) (AllP_cons ⟨(by decide), (by decide)⟩ (AllP_cons (by decide) (AllP_cons (by decide) (AllP_cons ⟨(by decide), (by decide)⟩ (AllP_cons rfl (AllP_cons (by decide) (AllP_cons ⟨(by decide), (by decide)⟩ (AllP_cons (by decide) (AllP_cons (by decide) (AllP_cons ⟨(by decide), (by decide)⟩ (AllP_cons (by decide) (AllP_cons ⟨(by decide), (by decide)⟩ (AllP_cons rfl (AllP_cons (by decide) (AllP_cons ⟨(by decide), (by decide)⟩ (AllP_cons (by decide) (AllP_cons (by decide) (AllP_cons ⟨(by decide), (by decide)⟩ (AllP_cons rfl (AllP_cons ((by first | exact congrArg (fun z => some (Blk.mk true [.ints .u64 4 z])) (naf_w0 ha) | exact congrArg (fun z => some (Blk.mk true [.ints .u64 4 z])) (naf_w1 h1 h2 (nfV_rng h1 h2 a k) ha hb) | exact congrArg (fun z => some (Blk.mk true [.ints .u64 4 z])) (naf_w2 h1 h2 (nfV_rng h1 h2 a k) ha hb))) (AllP_cons rfl (AllP_cons (by decide) (AllP_cons ⟨(by decide), (by decide)⟩ (AllP_cons ⟨(wdx_rng _ _).1, (by decide), (adc_nn _ _ _ (wdx_rng _ _).1 (by decide) (adc_nn _ _ _ (wdx_rng _ _).1 (by decide) (adc_nn _ _ _ (wdx_rng _ _).1 (wrap_nn rfl) (by decide)))), (adc_le (wdx_rng _ _).2 (by decide) (adc_le (wdx_rng _ _).2 (by decide) (adc_le (wdx_rng _ _).2 (by rw [wrap64]; omega) (by decide))))⟩ (AllP_cons (by decide) (AllP_cons ⟨(by decide), (by decide)⟩ (AllP_cons rfl (AllP_cons (by decide) (AllP_cons ⟨(by decide), (by decide)⟩ (AllP_cons ⟨(wdx_rng _ _).1, (by decide), (adc_nn _ _ _ (wdx_rng _ _).1 (by decide) (adc_nn _ _ _ (wdx_rng _ _).1 (wrap_nn rfl) (by decide))), (adc_le (wdx_rng _ _).2 (by decide) (adc_le (wdx_rng _ _).2 (by rw [wrap64]; omega) (by decide)))⟩ (AllP_cons (by decide) (AllP_cons ⟨(by decide), (by decide)⟩ (AllP_cons rfl (AllP_cons (by decide) (AllP_cons ⟨(by decide), (by decide)⟩ (AllP_cons ⟨(wdx_rng _ _).1, (by decide), (adc_nn _ _ _ (wdx_rng _ _).1 (wrap_nn rfl) (by decide)), (adc_le (wdx_rng _ _).2 (by rw [wrap64]; omega) (by decide))⟩ (AllP_cons (by decide) (AllP_cons ⟨(by decide), (by decide)⟩ (AllP_cons rfl (AllP_cons ⟨(wdx_rng _ _).1, (wrap_nn rfl), (by decide), (by decide)⟩ (AllP_cons ((congrArg (fun z => some (Blk.mk true [.ints .u64 4 z])) (W4_wdx _))) (AllP_cons (decide_eq_false (by have q1 := odd_X h1 h2 ha; have q2 := nafX_rng h1 h2 (nfV v a k); first | omega | (rw [nafD_b ha hb]; omega))) (AllP_cons (by have q := pw2_rng h1 h2; first | omega | exact wrap_nn rfl | exact (ad64_rng _ _ _).1 | (simp (disch := omega) only [wrapI]; omega)) (AllP_cons ⟨(by have q := pw2_rng h1 h2; first | omega | exact wrap_nn rfl | exact (ad64_rng _ _ _).1 | (simp (disch := omega) only [wrapI]; omega)), (by have q := pw2_rng h1 h2; first | omega | exact wrap_nn rfl | exact (ad64_rng _ _ _).1 | (simp (disch := omega) only [wrapI]; omega))⟩ (AllP_cons ((congrArg (fun z => AV.o (.a (.i .i64 z))) (naf_d h1 h2 ha hb))) (AllP_cons (by have q := pw2_rng h1 h2; first | omega | exact wrap_nn rfl | exact (ad64_rng _ _ _).1 | (simp (disch := omega) only [wrapI]; omega)) (AllP_cons (by rw [shl_w1 h1 h2]; exact decide_eq_true hb) (AllP_cons (by have q := pw2_rng h1 h2; first | omega | exact wrap_nn rfl | exact (ad64_rng _ _ _).1 | (simp (disch := omega) only [wrapI]; omega)) (AllP_cons ((congrArg (fun z => AV.o (.a (.i .i64 z))) (naf_x h1 h2 _))) (AllP_cons (by have q := pw2_rng h1 h2; first | omega | exact wrap_nn rfl | exact (ad64_rng _ _ _).1 | (simp (disch := omega) only [wrapI]; omega)) (AllP_cons (by show (bits2 .and .u64 (List.getD (W4 (nfV v a k)) 0 0) 1 == 1) = true; rw [W4_odd]; exact beq_iff_eq.2 ha) (AllP_cons (decide_eq_true (by have q := pw2_rng h1 h2; first | omega | exact wrap_nn rfl | exact (ad64_rng _ _ _).1 | (simp (disch := omega) only [wrapI]; omega))) (AllP_nil))))))))))))))))))))))))))))))))))))))))))))))))))))))))))))))))))))))))))))))))))))
  rw [e0, e1, e2] at h
  exact h

set_option maxHeartbeats 1000000 in
theorem nfL_round_1 (a : List Int) (v : Int) (h0 : (Byt a)) (h1 : ((2 : Int) ≤ v)) (h2 : (v ≤ (8 : Int))) (hv0 : List.length a = (32 : Nat)) (w : World) (rw : List Nat) (β : Env) (k : Nat) (hk : k < (256 : Nat)) (s : Unit) (ha : (nfV v a k) % 2 = 1) (hb : ¬ nafX v (nfV v a k) ≥ pw2 (v - 1)) : Run Try.prog ⟨w, rw, 0, β⟩ (loopB Try.f59 0) (nfL_mk a v k s) (To ⟨w, rw, 0, β⟩ .normal (nfL_mk a v (k + 1) (nfL_step k s))) := by
  have e0 : ([(bits2 .or .u64 (shr .u64 (wdx (nafW v (nfV v a k)) (0 : Nat)) (1 : Int)) (shl .u64 (wdx (nafW v (nfV v a k)) (1 : Nat)) (63 : Int))), (bits2 .or .u64 (shr .u64 (wdx (nafW v (nfV v a k)) (1 : Nat)) (1 : Int)) (shl .u64 (wdx (nafW v (nfV v a k)) (2 : Nat)) (63 : Int))), (bits2 .or .u64 (shr .u64 (wdx (nafW v (nfV v a k)) (2 : Nat)) (1 : Int)) (shl .u64 (wdx (nafW v (nfV v a k)) (3 : Nat)) (63 : Int))), (shr .u64 (wdx (nafW v (nfV v a k)) (3 : Nat)) (1 : Int))] : List Int) = (W4 (nfV v a (k + (1 : Nat)))) := (by first | exact wrap_succ (by omega) | omega | (rw [← nafD_s ha hb]; exact nfO_s hk) | exact naf_half (nafW_rng h1 h2 (nfV_rng h1 h2 a k)))
  have e1 : (IntKind.i64.wrap (((k : Nat) : Int) + (1 : Int))) = (((k + (1 : Nat)) : Nat) : Int) := (by first | exact wrap_succ (by omega) | omega | (rw [← nafD_s ha hb]; exact nfO_s hk) | exact naf_half (nafW_rng h1 h2 (nfV_rng h1 h2 a k)))
  have e2 : (List.set (nfO v a k) k (nafX v (nfV v a k))) = (nfO v a (k + (1 : Nat))) := (by first | exact wrap_succ (by omega) | omega | (rw [← nafD_s ha hb]; exact nfO_s hk) | exact naf_half (nafW_rng h1 h2 (nfV_rng h1 h2 a k)))
  have h := Run.of_outT (B := ⟨w, rw, 0, β⟩) (Λ := noLam) (Ψ := psiOf [(9, [.eqS 9 (.o (.a (.i .i64 (nafX v (nfV v a k)))))]), (21, [.eqB 1 (⟨true, [.ints .u64 (4 : Nat) ([(wdx (nafW v (nfV v a k)) (0 : Nat)), (wdx (nafW v (nfV v a k)) (1 : Nat)), (wdx (nafW v (nfV v a k)) (2 : Nat)), (wdx (nafW v (nfV v a k)) (3 : Nat))] : List Int)]⟩)])]) (fuel := 6) (ora := [true, true, false, true, true, true, true, true, true, true, true, false, false]) (c := (loopB Try.f59 0)) (st := (nfL_mk a v k s)) (l := [.forget [0, 1, 2, 4, 5, 6, 7, 13, 14, 15, 16, 17, 18, 19, 20, 21, 22] 3]) (s' := ⟨sparse 106 [(0, .o (.g [.ints .u8 (32 : Nat) a])), (1, .o (.a (.i .i64 v))), (2, .o (.a (.p 0 0))), (4, .o (.a (.raw (.slice none 0 0)))), (5, .o (.a (.i .i64 (0 : Int)))), (6, .o (.a (.p 1 0))), (7, .o (.a (.sl 2 (0 : Nat) (256 : Nat) (256 : Nat)))), (13, .o (.a (.i .i64 v))), (14, .o (.a (.b (decide (v < (2 : Int)))))), (15, .o (.a (.b (decide (v < (2 : Int)))))), (16, .o (.a (.i .i64 v))), (17, .o (.a (.b (decide (v > (8 : Int)))))), (18, .o (.a (.b (decide (v > (8 : Int)))))), (19, .o (.g [.ints .u8 (32 : Nat) a])), (20, .o (.g [.ints .u64 (4 : Nat) (W4 (modL (BV a)))])), (21, .o (.a (.sl 2 (0 : Nat) (256 : Nat) (256 : Nat)))), (22, .o (.a (.i .i64 (IntKind.i64.wrap (((k : Nat) : Int) + (1 : Int))))))], [some ⟨true, [.ints .u8 (32 : Nat) a]⟩, some ⟨true, [.ints .u64 (4 : Nat) ([(bits2 .or .u64 (shr .u64 (wdx (nafW v (nfV v a k)) (0 : Nat)) (1 : Int)) (shl .u64 (wdx (nafW v (nfV v a k)) (1 : Nat)) (63 : Int))), (bits2 .or .u64 (shr .u64 (wdx (nafW v (nfV v a k)) (1 : Nat)) (1 : Int)) (shl .u64 (wdx (nafW v (nfV v a k)) (2 : Nat)) (63 : Int))), (bits2 .or .u64 (shr .u64 (wdx (nafW v (nfV v a k)) (2 : Nat)) (1 : Int)) (shl .u64 (wdx (nafW v (nfV v a k)) (3 : Nat)) (63 : Int))), (shr .u64 (wdx (nafW v (nfV v a k)) (3 : Nat)) (1 : Int))] : List Int)]⟩, some ⟨true, [.ints .i64 (256 : Nat) (List.set (nfO v a k) k (nafX v (nfV v a k)))]⟩]⟩) (ex := .normal) mix tabOkRK gam72_ok
    (vc := [(false = false), (false = false), ((3 : Nat) < (4 : Nat)), (((0 : Int) ≤ (3 : Int)) ∧ ((3 : Int) < (4 : Int))), ((0 : Int) ≤ (1 : Int)), ((3 : Nat) < (4 : Nat)), (((0 : Int) ≤ (3 : Int)) ∧ ((3 : Int) < (4 : Int))), (true = true), ((2 : Nat) < (4 : Nat)), (((0 : Int) ≤ (2 : Int)) ∧ ((2 : Int) < (4 : Int))), ((0 : Int) ≤ (63 : Int)), ((3 : Nat) < (4 : Nat)), (((0 : Int) ≤ (3 : Int)) ∧ ((3 : Int) < (4 : Int))), ((2 : Nat) < (4 : Nat)), (((0 : Int) ≤ (2 : Int)) ∧ ((2 : Int) < (4 : Int))), (true = true), ((2 : Nat) < (4 : Nat)), (((0 : Int) ≤ (2 : Int)) ∧ ((2 : Int) < (4 : Int))), ((0 : Int) ≤ (1 : Int)), ((2 : Nat) < (4 : Nat)), (((0 : Int) ≤ (2 : Int)) ∧ ((2 : Int) < (4 : Int))), (true = true), ((1 : Nat) < (4 : Nat)), (((0 : Int) ≤ (1 : Int)) ∧ ((1 : Int) < (4 : Int))), ((0 : Int) ≤ (63 : Int)), ((2 : Nat) < (4 : Nat)), (((0 : Int) ≤ (2 : Int)) ∧ ((2 : Int) < (4 : Int))), ((1 : Nat) < (4 : Nat)), (((0 : Int) ≤ (1 : Int)) ∧ ((1 : Int) < (4 : Int))), (true = true), ((1 : Nat) < (4 : Nat)), (((0 : Int) ≤ (1 : Int)) ∧ ((1 : Int) < (4 : Int))), ((0 : Int) ≤ (1 : Int)), ((1 : Nat) < (4 : Nat)), (((0 : Int) ≤ (1 : Int)) ∧ ((1 : Int) < (4 : Int))), (true = true), ((0 : Nat) < (4 : Nat)), (((0 : Int) ≤ (0 : Int)) ∧ ((0 : Int) < (4 : Int))), ((0 : Int) ≤ (63 : Int)), ((1 : Nat) < (4 : Nat)), (((0 : Int) ≤ (1 : Int)) ∧ ((1 : Int) < (4 : Int))), ((0 : Nat) < (4 : Nat)), (((0 : Int) ≤ (0 : Int)) ∧ ((0 : Int) < (4 : Int))), (true = true), ((0 : Nat) < (4 : Nat)), (((0 : Int) ≤ (0 : Int)) ∧ ((0 : Int) < (4 : Int))), ((0 : Int) ≤ (1 : Int)), ((0 : Nat) < (4 : Nat)), (((0 : Int) ≤ (0 : Int)) ∧ ((0 : Int) < (4 : Int))), (true = true), ((some ⟨true, [.ints .u64 (4 : Nat) (W4 (difR (V4 (W4 (nfV v a k))) (V4 ([(IntKind.u64.wrap (nafX v (nfV v a k))), 0, 0, 0] : List Int))))]⟩ : Option Blk) = some ⟨true, [.ints .u64 (4 : Nat) ([(wdx (nafW v (nfV v a k)) (0 : Nat)), (wdx (nafW v (nfV v a k)) (1 : Nat)), (wdx (nafW v (nfV v a k)) (2 : Nat)), (wdx (nafW v (nfV v a k)) (3 : Nat))] : List Int)]⟩), ((Wds (W4 (nfV v a k))) ∧ (Wds ([(IntKind.u64.wrap (nafX v (nfV v a k))), 0, 0, 0] : List Int))), ((decide ((nafX v (nfV v a k)) > (0 : Int))) = true), (k < (256 : Nat)), (((0 : Int) ≤ ((k : Nat) : Int)) ∧ (((k : Nat) : Int) < (256 : Int))), ((decide ((nafX v (nfV v a k)) ≥ (shl .i64 (1 : Int) (IntKind.i64.wrap (v - (1 : Int)))))) = false), ((0 : Int) ≤ (IntKind.i64.wrap (v - (1 : Int)))), ((.o (.a (.i .i64 (IntKind.i64.wrap (bits2 .and .u64 (List.getD (sub (W4 (nfV v a k)) (0 : Nat) (1 : Nat)) (0 : Nat) 0) (IntKind.u64.wrap ((shl .u64 (1 : Int) v) - (1 : Int))))))) : AV) = .o (.a (.i .i64 (nafX v (nfV v a k))))), ((0 : Int) ≤ v), (((bits2 .and .u64 (List.getD (sub (W4 (nfV v a k)) (0 : Nat) (1 : Nat)) (0 : Nat) 0) (1 : Int)) == (1 : Int)) = true), ((decide (((k : Nat) : Int) < (256 : Int))) = true)]) (by kernel_rfl)
    (AllP_cons rfl (AllP_cons rfl (AllP_cons (by decide) (AllP_cons ⟨(by decide), (by decide)⟩ (AllP_cons (by decide) (AllP_cons (by decide) (AllP_cons ⟨(by decide), (by decide)⟩ (AllP_cons rfl (AllP_cons (by decide) (AllP_cons ⟨(by decide), (by decide)⟩ (AllP_cons (by decide) (AllP_cons (by decide) (AllP_cons ⟨(by decide), (by decide)⟩ (AllP_cons (by decide) (AllP_cons ⟨(by decide), (by decide)⟩ (AllP_cons rfl (AllP_cons (by decide) (AllP_cons ⟨(by decide), (by decide)⟩ (AllP_cons (by decide) (AllP_cons (by decide) (AllP_cons ⟨(by decide), (by decide)⟩ (AllP_cons rfl (AllP_cons (by decide) (AllP_cons ⟨(by decide), (by decide)⟩ (AllP_cons (by decide) (AllP_cons (by decide) (AllP_cons ⟨(by decide), (by decide)⟩ (AllP_cons (by decide) (AllP_cons ⟨(by decide), (by decide)⟩ (AllP_cons rfl (AllP_cons (by decide) (AllP_cons ⟨(by decide), (by decide)⟩ (AllP_cons (by decide) (AllP_cons (by decide) (AllP_cons ⟨(by decide), (by decide)⟩ (AllP_cons rfl (AllP_cons (by decide) (AllP_cons ⟨(by decide), (by decide)⟩ (AllP_cons (by decide) (AllP_cons (by decide) (AllP_cons ⟨(by decide), (by decide)⟩ (AllP_cons (by decide) (AllP_cons ⟨(by decide), (by decide)⟩ (AllP_cons rfl (AllP_cons (by decide) (AllP_cons ⟨(by decide), (by decide)⟩ (AllP_cons (by decide) (AllP_cons (by decide) (AllP_cons ⟨(by decide), (by decide)⟩ (AllP_cons rfl (AllP_cons ((by first | exact congrArg (fun z => some (Blk.mk true [.ints .u64 4 z])) (naf_w0 ha) | exact congrArg (fun z => some (Blk.mk true [.ints .u64 4 z])) (naf_w1 h1 h2 (nfV_rng h1 h2 a k) ha hb) | exact congrArg (fun z => some (Blk.mk true [.ints .u64 4 z])) (naf_w2 h1 h2 (nfV_rng h1 h2 a k) ha hb))) (AllP_cons ⟨(wds_W4 _), (wds_four ⟨wrap_nn rfl, by rw [wrap64]; omega⟩ (by omega) (by omega) (by omega))⟩ (AllP_cons (decide_eq_true (by have q1 := odd_X h1 h2 ha; have q2 := nafX_rng h1 h2 (nfV v a k); first | omega | (rw [nafD_b ha hb]; omega))) (AllP_cons (by have q := pw2_rng h1 h2; first | omega | exact wrap_nn rfl | exact (ad64_rng _ _ _).1 | (simp (disch := omega) only [wrapI]; omega)) (AllP_cons ⟨(by have q := pw2_rng h1 h2; first | omega | exact wrap_nn rfl | exact (ad64_rng _ _ _).1 | (simp (disch := omega) only [wrapI]; omega)), (by have q := pw2_rng h1 h2; first | omega | exact wrap_nn rfl | exact (ad64_rng _ _ _).1 | (simp (disch := omega) only [wrapI]; omega))⟩ (AllP_cons (by rw [shl_w1 h1 h2]; exact decide_eq_false hb) (AllP_cons (by have q := pw2_rng h1 h2; first | omega | exact wrap_nn rfl | exact (ad64_rng _ _ _).1 | (simp (disch := omega) only [wrapI]; omega)) (AllP_cons ((congrArg (fun z => AV.o (.a (.i .i64 z))) (naf_x h1 h2 _))) (AllP_cons (by have q := pw2_rng h1 h2; first | omega | exact wrap_nn rfl | exact (ad64_rng _ _ _).1 | (simp (disch := omega) only [wrapI]; omega)) (AllP_cons (by show (bits2 .and .u64 (List.getD (W4 (nfV v a k)) 0 0) 1 == 1) = true; rw [W4_odd]; exact beq_iff_eq.2 ha) (AllP_cons (decide_eq_true (by have q := pw2_rng h1 h2; first | omega | exact wrap_nn rfl | exact (ad64_rng _ _ _).1 | (simp (disch := omega) only [wrapI]; omega))) (AllP_nil))))))))))))))))))))))))))))))))))))))))))))))))))))))))))))))
  rw [e0, e1, e2] at h
  exact h

set_option maxHeartbeats 1000000 in
theorem nfL_round_2 (a : List Int) (v : Int) (h0 : (Byt a)) (h1 : ((2 : Int) ≤ v)) (h2 : (v ≤ (8 : Int))) (hv0 : List.length a = (32 : Nat)) (w : World) (rw : List Nat) (β : Env) (k : Nat) (hk : k < (256 : Nat)) (s : Unit) (ha : ¬ (nfV v a k) % 2 = 1) : Run Try.prog ⟨w, rw, 0, β⟩ (loopB Try.f59 0) (nfL_mk a v k s) (To ⟨w, rw, 0, β⟩ .normal (nfL_mk a v (k + 1) (nfL_step k s))) := by
  have e0 : ([(bits2 .or .u64 (shr .u64 (wdx (nafW v (nfV v a k)) (0 : Nat)) (1 : Int)) (shl .u64 (wdx (nafW v (nfV v a k)) (1 : Nat)) (63 : Int))), (bits2 .or .u64 (shr .u64 (wdx (nafW v (nfV v a k)) (1 : Nat)) (1 : Int)) (shl .u64 (wdx (nafW v (nfV v a k)) (2 : Nat)) (63 : Int))), (bits2 .or .u64 (shr .u64 (wdx (nafW v (nfV v a k)) (2 : Nat)) (1 : Int)) (shl .u64 (wdx (nafW v (nfV v a k)) (3 : Nat)) (63 : Int))), (shr .u64 (wdx (nafW v (nfV v a k)) (3 : Nat)) (1 : Int))] : List Int) = (W4 (nfV v a (k + (1 : Nat)))) := (by first | exact wrap_succ (by omega) | omega | exact nfO_z hk ha | exact naf_half (nafW_rng h1 h2 (nfV_rng h1 h2 a k)))
  have e1 : (IntKind.i64.wrap (((k : Nat) : Int) + (1 : Int))) = (((k + (1 : Nat)) : Nat) : Int) := (by first | exact wrap_succ (by omega) | omega | exact nfO_z hk ha | exact naf_half (nafW_rng h1 h2 (nfV_rng h1 h2 a k)))
  have e2 : (nfO v a k) = (nfO v a (k + (1 : Nat))) := (by first | exact wrap_succ (by omega) | omega | exact nfO_z hk ha | exact naf_half (nafW_rng h1 h2 (nfV_rng h1 h2 a k)))
  have h := Run.of_outT (B := ⟨w, rw, 0, β⟩) (Λ := noLam) (Ψ := psiOf [(21, [.eqB 1 (⟨true, [.ints .u64 (4 : Nat) ([(wdx (nafW v (nfV v a k)) (0 : Nat)), (wdx (nafW v (nfV v a k)) (1 : Nat)), (wdx (nafW v (nfV v a k)) (2 : Nat)), (wdx (nafW v (nfV v a k)) (3 : Nat))] : List Int)]⟩)])]) (fuel := 6) (ora := [true, false, true, true, true, true, true, true, true, false, false]) (c := (loopB Try.f59 0)) (st := (nfL_mk a v k s)) (l := [.forget [0, 1, 2, 4, 5, 6, 7, 13, 14, 15, 16, 17, 18, 19, 20, 21, 22] 3]) (s' := ⟨sparse 106 [(0, .o (.g [.ints .u8 (32 : Nat) a])), (1, .o (.a (.i .i64 v))), (2, .o (.a (.p 0 0))), (4, .o (.a (.raw (.slice none 0 0)))), (5, .o (.a (.i .i64 (0 : Int)))), (6, .o (.a (.p 1 0))), (7, .o (.a (.sl 2 (0 : Nat) (256 : Nat) (256 : Nat)))), (13, .o (.a (.i .i64 v))), (14, .o (.a (.b (decide (v < (2 : Int)))))), (15, .o (.a (.b (decide (v < (2 : Int)))))), (16, .o (.a (.i .i64 v))), (17, .o (.a (.b (decide (v > (8 : Int)))))), (18, .o (.a (.b (decide (v > (8 : Int)))))), (19, .o (.g [.ints .u8 (32 : Nat) a])), (20, .o (.g [.ints .u64 (4 : Nat) (W4 (modL (BV a)))])), (21, .o (.a (.sl 2 (0 : Nat) (256 : Nat) (256 : Nat)))), (22, .o (.a (.i .i64 (IntKind.i64.wrap (((k : Nat) : Int) + (1 : Int))))))], [some ⟨true, [.ints .u8 (32 : Nat) a]⟩, some ⟨true, [.ints .u64 (4 : Nat) ([(bits2 .or .u64 (shr .u64 (wdx (nafW v (nfV v a k)) (0 : Nat)) (1 : Int)) (shl .u64 (wdx (nafW v (nfV v a k)) (1 : Nat)) (63 : Int))), (bits2 .or .u64 (shr .u64 (wdx (nafW v (nfV v a k)) (1 : Nat)) (1 : Int)) (shl .u64 (wdx (nafW v (nfV v a k)) (2 : Nat)) (63 : Int))), (bits2 .or .u64 (shr .u64 (wdx (nafW v (nfV v a k)) (2 : Nat)) (1 : Int)) (shl .u64 (wdx (nafW v (nfV v a k)) (3 : Nat)) (63 : Int))), (shr .u64 (wdx (nafW v (nfV v a k)) (3 : Nat)) (1 : Int))] : List Int)]⟩, some ⟨true, [.ints .i64 (256 : Nat) (nfO v a k)]⟩]⟩) (ex := .normal) mix tabOkRK gam72_ok
    (vc := [(false = false), (false = false), ((3 : Nat) < (4 : Nat)), (((0 : Int) ≤ (3 : Int)) ∧ ((3 : Int) < (4 : Int))), ((0 : Int) ≤ (1 : Int)), ((3 : Nat) < (4 : Nat)), (((0 : Int) ≤ (3 : Int)) ∧ ((3 : Int) < (4 : Int))), (true = true), ((2 : Nat) < (4 : Nat)), (((0 : Int) ≤ (2 : Int)) ∧ ((2 : Int) < (4 : Int))), ((0 : Int) ≤ (63 : Int)), ((3 : Nat) < (4 : Nat)), (((0 : Int) ≤ (3 : Int)) ∧ ((3 : Int) < (4 : Int))), ((2 : Nat) < (4 : Nat)), (((0 : Int) ≤ (2 : Int)) ∧ ((2 : Int) < (4 : Int))), (true = true), ((2 : Nat) < (4 : Nat)), (((0 : Int) ≤ (2 : Int)) ∧ ((2 : Int) < (4 : Int))), ((0 : Int) ≤ (1 : Int)), ((2 : Nat) < (4 : Nat)), (((0 : Int) ≤ (2 : Int)) ∧ ((2 : Int) < (4 : Int))), (true = true), ((1 : Nat) < (4 : Nat)), (((0 : Int) ≤ (1 : Int)) ∧ ((1 : Int) < (4 : Int))), ((0 : Int) ≤ (63 : Int)), ((2 : Nat) < (4 : Nat)), (((0 : Int) ≤ (2 : Int)) ∧ ((2 : Int) < (4 : Int))), ((1 : Nat) < (4 : Nat)), (((0 : Int) ≤ (1 : Int)) ∧ ((1 : Int) < (4 : Int))), (true = true), ((1 : Nat) < (4 : Nat)), (((0 : Int) ≤ (1 : Int)) ∧ ((1 : Int) < (4 : Int))), ((0 : Int) ≤ (1 : Int)), ((1 : Nat) < (4 : Nat)), (((0 : Int) ≤ (1 : Int)) ∧ ((1 : Int) < (4 : Int))), (true = true), ((0 : Nat) < (4 : Nat)), (((0 : Int) ≤ (0 : Int)) ∧ ((0 : Int) < (4 : Int))), ((0 : Int) ≤ (63 : Int)), ((1 : Nat) < (4 : Nat)), (((0 : Int) ≤ (1 : Int)) ∧ ((1 : Int) < (4 : Int))), ((0 : Nat) < (4 : Nat)), (((0 : Int) ≤ (0 : Int)) ∧ ((0 : Int) < (4 : Int))), (true = true), ((0 : Nat) < (4 : Nat)), (((0 : Int) ≤ (0 : Int)) ∧ ((0 : Int) < (4 : Int))), ((0 : Int) ≤ (1 : Int)), ((0 : Nat) < (4 : Nat)), (((0 : Int) ≤ (0 : Int)) ∧ ((0 : Int) < (4 : Int))), (true = true), ((some ⟨true, [.ints .u64 (4 : Nat) (W4 (nfV v a k))]⟩ : Option Blk) = some ⟨true, [.ints .u64 (4 : Nat) ([(wdx (nafW v (nfV v a k)) (0 : Nat)), (wdx (nafW v (nfV v a k)) (1 : Nat)), (wdx (nafW v (nfV v a k)) (2 : Nat)), (wdx (nafW v (nfV v a k)) (3 : Nat))] : List Int)]⟩), (((bits2 .and .u64 (List.getD (sub (W4 (nfV v a k)) (0 : Nat) (1 : Nat)) (0 : Nat) 0) (1 : Int)) == (1 : Int)) = false), ((decide (((k : Nat) : Int) < (256 : Int))) = true)]) (by kernel_rfl)
    (AllP_cons rfl (AllP_cons rfl (AllP_cons (by decide) (AllP_cons ⟨(by decide), (by decide)⟩ (AllP_cons (by decide) (AllP_cons (by decide) (AllP_cons ⟨(by decide), (by decide)⟩ (AllP_cons rfl (AllP_cons (by decide) (AllP_cons ⟨(by decide), (by decide)⟩ (AllP_cons (by decide) (AllP_cons (by decide) (AllP_cons ⟨(by decide), (by decide)⟩ (AllP_cons (by decide) (AllP_cons ⟨(by decide), (by decide)⟩ (AllP_cons rfl (AllP_cons (by decide) (AllP_cons ⟨(by decide), (by decide)⟩ (AllP_cons (by decide) (AllP_cons (by decide) (AllP_cons ⟨(by decide), (by decide)⟩ (AllP_cons rfl (AllP_cons (by decide) (AllP_cons ⟨(by decide), (by decide)⟩ (AllP_cons (by decide) (AllP_cons (by decide) (AllP_cons ⟨(by decide), (by decide)⟩ (AllP_cons (by decide) (AllP_cons ⟨(by decide), (by decide)⟩ (AllP_cons rfl (AllP_cons (by decide) (AllP_cons ⟨(by decide), (by decide)⟩ (AllP_cons (by decide) (AllP_cons (by decide) (AllP_cons ⟨(by decide), (by decide)⟩ (AllP_cons rfl (AllP_cons (by decide) (AllP_cons ⟨(by decide), (by decide)⟩ (AllP_cons (by decide) (AllP_cons (by decide) (AllP_cons ⟨(by decide), (by decide)⟩ (AllP_cons (by decide) (AllP_cons ⟨(by decide), (by decide)⟩ (AllP_cons rfl (AllP_cons (by decide) (AllP_cons ⟨(by decide), (by decide)⟩ (AllP_cons (by decide) (AllP_cons (by decide) (AllP_cons ⟨(by decide), (by decide)⟩ (AllP_cons rfl (AllP_cons ((by first | exact congrArg (fun z => some (Blk.mk true [.ints .u64 4 z])) (naf_w0 ha) | exact congrArg (fun z => some (Blk.mk true [.ints .u64 4 z])) (naf_w1 h1 h2 (nfV_rng h1 h2 a k) ha hb) | exact congrArg (fun z => some (Blk.mk true [.ints .u64 4 z])) (naf_w2 h1 h2 (nfV_rng h1 h2 a k) ha hb))) (AllP_cons (by show (bits2 .and .u64 (List.getD (W4 (nfV v a k)) 0 0) 1 == 1) = false; rw [W4_odd]; exact beq_eq_false_iff_ne.2 ha) (AllP_cons (decide_eq_true (by have q := pw2_rng h1 h2; first | omega | exact wrap_nn rfl | exact (ad64_rng _ _ _).1 | (simp (disch := omega) only [wrapI]; omega))) (AllP_nil))))))))))))))))))))))))))))))))))))))))))))))))))))))
  rw [e0, e1, e2] at h
  exact h

theorem nfL_round (a : List Int) (v : Int) (h0 : (Byt a)) (h1 : ((2 : Int) ≤ v)) (h2 : (v ≤ (8 : Int))) (hv0 : List.length a = (32 : Nat)) (w : World) (rw : List Nat) (β : Env) (k : Nat) (hk : k < (256 : Nat)) (s : Unit) : Run Try.prog ⟨w, rw, 0, β⟩ (loopB Try.f59 0) (nfL_mk a v k s) (To ⟨w, rw, 0, β⟩ .normal (nfL_mk a v (k + 1) (nfL_step k s))) := by
  by_cases ha : (nfV v a k) % 2 = 1
  · by_cases hb : nafX v (nfV v a k) ≥ pw2 (v - 1)
    · exact nfL_round_0 a v h0 h1 h2 hv0 w rw β k hk s ha hb
    · exact nfL_round_1 a v h0 h1 h2 hv0 w rw β k hk s ha hb
  · exact nfL_round_2 a v h0 h1 h2 hv0 w rw β k hk s ha

set_option maxHeartbeats 1000000 in
theorem nfL_last (a : List Int) (v : Int) (h0 : (Byt a)) (h1 : ((2 : Int) ≤ v)) (h2 : (v ≤ (8 : Int))) (hv0 : List.length a = (32 : Nat)) (w : World) (rw : List Nat) (β : Env) (s : Unit) : Run Try.prog ⟨w, rw, 0, β⟩ (loopB Try.f59 0) (nfL_mk a v (256 : Nat) s) (To ⟨w, rw, 0, β⟩ (.exit 0) (nfL_mk a v (256 : Nat) s)) :=
  Run.of_outT (B := ⟨w, rw, 0, β⟩) (Λ := noLam) (Ψ := noPsi) (fuel := 6) (ora := [false]) (l := [.forget [0, 1, 2, 4, 5, 6, 7, 13, 14, 15, 16, 17, 18, 19, 20, 21, 22] 3]) mix tabOkRK gam72_ok
    (vc := [(false = false)]) (by kernel_rfl)
    (AllP_cons rfl (AllP_nil))

theorem nfL_loop (a : List Int) (v : Int) (h0 : (Byt a)) (h1 : ((2 : Int) ≤ v)) (h2 : (v ≤ (8 : Int))) (hv0 : List.length a = (32 : Nat)) (w : World) (rw : List Nat) (β : Env) (s : Unit) : Run Try.prog ⟨w, rw, 0, β⟩ (.block 0 (.loop (loopB Try.f59 0))) (nfL_mk a v 0 s) (To ⟨w, rw, 0, β⟩ .normal (nfL_mk a v (256 : Nat) (iter (nfL_step) (256 : Nat) s))) :=
  Run.count (fun k => nfL_mk a v k (iter (nfL_step) k s)) (256 : Nat) (fun k hk => nfL_round a v h0 h1 h2 hv0 w rw β k hk _) (ex := (.exit 0)) (by simp) (nfL_last a v h0 h1 h2 hv0 w rw β _)

def nafP (a : List Int) (v : Int) : List Int :=
  (W4 (nfV v a (256 : Nat)))

def nafP_1 (a : List Int) (v : Int) : List Int :=
  (nfO v a (256 : Nat))

set_option maxHeartbeats 1000000 in
theorem nafP_body0 (a : List Int) (v : Int) (h0 : (Byt a)) (h1 : ((2 : Int) ≤ v)) (h2 : (v ≤ (8 : Int))) (hv0 : List.length a = (32 : Nat)) (w : World) (rw : List Nat) (β : Env) : Body Try.prog (tabOf tabRK) Try.f59 ⟨w, rw, 0, β⟩ [.o (.g [.ints .u8 (32 : Nat) a]), .o (.a (.i .i64 v))] [] (fun ys K' => ys = [.a (.sl 2 (0 : Nat) (256 : Nat) (256 : Nat)), .a (.i .i64 (0 : Int))] ∧ K' = [some ⟨true, [.ints .u8 (32 : Nat) a]⟩, some ⟨true, [.ints .u64 (4 : Nat) (nafP a v)]⟩, some ⟨true, [.ints .i64 (256 : Nat) (nafP_1 a v)]⟩]) :=
  Body.of_finK (Γ := gam72) (Λ := lamOf [(0, ⟨[.eqB 2 (⟨true, [.ints .i64 (256 : Nat) (nfO v a (0 : Nat))]⟩), .eqB 1 (⟨true, [.ints .u64 (4 : Nat) (W4 (nfV v a (0 : Nat)))]⟩), .forget [0, 1, 2, 4, 5, 6, 7, 13, 14, 15, 16, 17, 18, 19, 20, 21, 22] 3], .normal, (nfL_mk a v (256 : Nat) (iter (nfL_step) (256 : Nat) ()))⟩)]) (Ψ := noPsi) (fuel := 0) (m := 106) (c := (Try.f59.body.getD .skip)) mix tabOkRK gam72_ok rfl (rs := [.tmp 4, .tmp 5]) rfl rfl [true, true, false, false] [] 3
    (vc := [(Run Try.prog ⟨w, rw, 0, β⟩ (.block 0 (.loop (loopB Try.f59 0))) (nfL_mk a v 0 ()) (To ⟨w, rw, 0, β⟩ .normal (nfL_mk a v (256 : Nat) (iter (nfL_step) (256 : Nat) ())))), ((some ⟨true, [.ints .u64 (4 : Nat) (W4 (modL (BV a)))]⟩ : Option Blk) = some ⟨true, [.ints .u64 (4 : Nat) (W4 (nfV v a (0 : Nat)))]⟩), ((some ⟨true, [.ints .i64 (256 : Nat) (List.replicate (256 : Nat) (0 : Int))]⟩ : Option Blk) = some ⟨true, [.ints .i64 (256 : Nat) (nfO v a (0 : Nat))]⟩), (((0 : Int) ≤ (256 : Int)) ∧ ((256 : Int) ≤ (256 : Int)) ∧ ((2048 : Int) ≤ (281474976710656 : Int))), (Byt a), ((decide (v > (8 : Int))) = false), ((decide (v < (2 : Int))) = false), ((decide (v < (2 : Int))) = false), ((decide (v < (2 : Int))) = false)]) (by kernel_rfl)
    (AllP_cons (nfL_loop a v h0 h1 h2 hv0 w rw β ()) (AllP_cons ((by rfl)) (AllP_cons ((by rw [nfO_0])) (AllP_cons ⟨(by decide), (by decide), (by decide)⟩ (AllP_cons (by assumption) (AllP_cons (decide_eq_false (by omega)) (AllP_cons (decide_eq_false (by omega)) (AllP_cons (decide_eq_false (by omega)) (AllP_cons (decide_eq_false (by omega)) (AllP_nil))))))))))

theorem nafP_body (a : List Int) (v : Int) (h0 : (Byt a)) (h1 : ((2 : Int) ≤ v)) (h2 : (v ≤ (8 : Int))) (w : World) (rw : List Nat) (β : Env) : Body Try.prog (tabOf tabRK) Try.f59 ⟨w, rw, 0, β⟩ [.o (.g [.ints .u8 (32 : Nat) a]), .o (.a (.i .i64 v))] [] (fun ys K' => ys = [.a (.sl 2 (0 : Nat) (256 : Nat) (256 : Nat)), .a (.i .i64 (0 : Int))] ∧ K' = [some ⟨true, [.ints .u8 (32 : Nat) a]⟩, some ⟨true, [.ints .u64 (4 : Nat) (nafP a v)]⟩, some ⟨true, [.ints .i64 (256 : Nat) (nafP_1 a v)]⟩]) :=
  Body.lens (c := (Try.f59.body.getD .skip)) rfl fun h => nafP_body0 a v h0 h1 h2 (h.vals 0 _ _ _ rfl) w rw β

end Go.Proofs.Ytcpoldghkiiggaa.X

/- The reference's rounds. -/
namespace Go.Proofs.Ytcpoldghkiiggaa.X
open Go Go.Proofs
set_option linter.unusedVariables false
set_option linter.unusedSimpArgs false
set_option maxRecDepth 100000

theorem naf_all (w : Int) (a : List Int) : nfO w a 256 = nfR w a 256 := lnO_n _ _
theorem dc_all (s : List Int) : dcO s 64 = dcR s 64 := lnO_n _ _
end Go.Proofs.Ytcpoldghkiiggaa.X

/- Sums, products of lists of scalars. -/
namespace Go.Proofs.Ytcpoldghkiiggaa.X
open Go Go.Proofs
set_option linter.unusedVariables false
set_option linter.unusedSimpArgs false
set_option maxRecDepth 100000

theorem LL_256 : LL < 115792089237316195423570985008687907853269984665640564039457584007913129639936 := by decide +kernel
theorem BV_lt {v : Int} (h : 0 ≤ v ∧ v < LL) : BV (B32 v) = v := BV_B32 h.1 (Int.lt_trans h.2 LL_256)
end Go.Proofs.Ytcpoldghkiiggaa.X

/- Digits come back; digits that stand apart are few. -/
namespace Go.Proofs.Ytcpoldghkiiggaa.X
open Go Go.Proofs
set_option linter.unusedVariables false
set_option linter.unusedSimpArgs false
set_option maxRecDepth 100000

/-- the number of digits of a radix -/
def polyV (x : Int) : List Int → Int
  | [] => 0
  | d :: l => d + x * polyV x l
theorem polyV_app (x y : Int) : ∀ l : List Int, polyV x (l ++ [y]) = polyV x l + y * x ^ l.length
  | [] => by show y + x * 0 = 0 + y * x ^ 0; rw [Int.pow_zero]; omega
  | d :: l => by
    show d + x * polyV x (l ++ [y]) = d + x * polyV x l + y * x ^ (l.length + 1)
    rw [polyV_app x y l, Int.mul_add, Int.pow_succ, Int.mul_left_comm, Int.mul_comm (x ^ l.length)]; omega
theorem polyV_s (x : Int) (f : Nat → Int) (k : Nat) : polyV x (lnR f (k + 1)) = polyV x (lnR f k) + f k * x ^ k := by
  rw [lnR_s, polyV_app, lnR_len]
def bkS (d : List Int) (n : Nat) (x : Int) : Nat → Int
  | 0 => 0
  | k + 1 => modL (bkS d n x k * x + List.getD d (n - 1 - k) 0)
theorem bkS_rng (d : List Int) (n : Nat) (x : Int) : ∀ k, 0 ≤ bkS d n x k ∧ bkS d n x k < LL
  | 0 => by show (0 : Int) ≤ 0 ∧ (0 : Int) < LL; decide +kernel
  | _ + 1 => modL_b _
theorem bkS_eq {d : List Int} {n : Nat} (hl : d.length = n) (x : Int) : ∀ k, k ≤ n → bkS d n x k = modL (polyV x (d.drop (n - k)))
  | 0, _ => by rw [Nat.sub_zero, List.drop_eq_nil_of_le (by omega)]; rfl
  | k + 1, hk => by
    show modL (bkS d n x k * x + _) = _
    rw [bkS_eq hl x k (by omega), modL_addl_mul, List.drop_eq_getElem_cons (show n - (k + 1) < d.length by omega), show n - (k + 1) + 1 = n - k by omega, show n - 1 - k = n - (k + 1) by omega, List.getD_eq_getElem?_getD, List.getElem?_eq_getElem (show n - (k + 1) < d.length by omega)]
    show modL (_ * x + _) = modL (_ + x * _)
    rw [Int.mul_comm, Int.add_comm]; rfl
theorem bkS_fin {d : List Int} {n : Nat} (hl : d.length = n) (x : Int) : bkS d n x n = modL (polyV x d) := by
  rw [bkS_eq hl x n (Nat.le_refl _), Nat.sub_self, List.drop_zero]
def Dsm (d : List Int) : Prop := ∀ x ∈ d, -300 ≤ x ∧ x ≤ 300
theorem dsm_get {d : List Int} (h : Dsm d) (i : Nat) : -300 ≤ List.getD d i 0 ∧ List.getD d i 0 ≤ 300 := by
  rw [List.getD_eq_getElem?_getD]
  by_cases hi : i < d.length
  · rw [List.getElem?_eq_getElem hi]; exact h _ (List.getElem_mem hi)
  · rw [List.getElem?_eq_none (by omega)]; simp
theorem dsm_sub {d : List Int} (h : Dsm d) (c m : Nat) : Dsm (sub d c m) := fun x hx => h x (List.mem_of_mem_drop (List.mem_of_mem_take hx))
theorem BV_rad (x : Int) : BV [x, 0, 0, 0, 0, 0, 0, 0, 0, 0, 0, 0, 0, 0, 0, 0, 0, 0, 0, 0, 0, 0, 0, 0, 0, 0, 0, 0, 0, 0, 0, 0] = x := by
  simp only [BV, le8, List.getD_cons_zero, List.getD_cons_succ, Nat.zero_add]
  show x + 256 * 0 + 65536 * 0 + 16777216 * 0 + 4294967296 * 0 + 1099511627776 * 0 + 281474976710656 * 0 + 72057594037927936 * 0 + 18446744073709551616 * (0 + 256 * 0 + 65536 * 0 + 16777216 * 0 + 4294967296 * 0 + 1099511627776 * 0 + 281474976710656 * 0 + 72057594037927936 * 0) + 340282366920938463463374607431768211456 * (0 + 256 * 0 + 65536 * 0 + 16777216 * 0 + 4294967296 * 0 + 1099511627776 * 0 + 281474976710656 * 0 + 72057594037927936 * 0) + 6277101735386680763835789423207666416102355444464034512896 * (0 + 256 * 0 + 65536 * 0 + 16777216 * 0 + 4294967296 * 0 + 1099511627776 * 0 + 281474976710656 * 0 + 72057594037927936 * 0) = x
  omega
theorem BV_w64 {n : Int} (h : 0 ≤ n ∧ n < 18446744073709551616) : BV (B32 n) = n := BV_B32 h.1 (by omega)
theorem bk_a {d : List Int} {n : Nat} {x : Int} {k : Nat} (hd : Dsm d) (h : List.getD d (n - 1 - k) 0 < 0) : modL (BV (B32 (modL (BV (B32 (bkS d n x k)) * BV [x, 0, 0, 0, 0, 0, 0, 0, 0, 0, 0, 0, 0, 0, 0, 0, 0, 0, 0, 0, 0, 0, 0, 0, 0, 0, 0, 0, 0, 0, 0, 0]))) - BV (B32 (IntKind.u64.wrap (IntKind.i64.wrap (0 - List.getD d (n - 1 - k) 0))))) = bkS d n x (k + 1) := by
  have hg := dsm_get hd (n - 1 - k)
  have e : IntKind.u64.wrap (IntKind.i64.wrap (0 - List.getD d (n - 1 - k) 0)) = 0 - List.getD d (n - 1 - k) 0 := by
    rw [wrapI (by omega) (by omega), wrap64]; omega
  rw [e, BV_lt (bkS_rng d n x k), BV_rad, BV_modL, BV_w64 (by omega), modL_subl]
  show _ = modL _
  congr 1; omega
theorem bk_b {d : List Int} {n : Nat} {x : Int} {k : Nat} (hd : Dsm d) (h : ¬ List.getD d (n - 1 - k) 0 < 0) : modL (BV (B32 (modL (BV (B32 (bkS d n x k)) * BV [x, 0, 0, 0, 0, 0, 0, 0, 0, 0, 0, 0, 0, 0, 0, 0, 0, 0, 0, 0, 0, 0, 0, 0, 0, 0, 0, 0, 0, 0, 0, 0]))) + BV (B32 (IntKind.u64.wrap (List.getD d (n - 1 - k) 0)))) = bkS d n x (k + 1) := by
  have hg := dsm_get hd (n - 1 - k)
  have e : IntKind.u64.wrap (List.getD d (n - 1 - k) 0) = List.getD d (n - 1 - k) 0 := by
    rw [wrap64]; omega
  rw [e, BV_lt (bkS_rng d n x k), BV_rad, BV_modL, BV_w64 (by omega), modL_addl]; rfl

/-! sixteens -/
theorem nib_lo {s : List Int} (h : Byt s) {j : Nat} (hj : j < 32) : nib s (2 * j) = List.getD s j 0 % 16 ∧ nib s (2 * j + 1) = List.getD s j 0 / 16 := by
  have hb := byt_get h j
  have q0 := dq (k := 2 * j) (by omega)
  have q1 := dq (k := 2 * j + 1) (by omega)
  unfold nib
  rw [q0.1, q0.2, q1.1, q1.2, bit_and15, bit_and15, Int.toNat_natCast, Int.toNat_natCast, show 2 * j / 2 = j by omega, show (2 * j + 1) / 2 = j by omega, show 4 * (2 * j % 2) = 0 by omega, show 4 * ((2 * j + 1) % 2) = 4 by omega, shr8n (by omega), shr8n (by omega)]
  constructor
  · show List.getD s j 0 / 1 % 16 = _; omega
  · show List.getD s j 0 / 16 % 16 = _; omega
theorem nib_sum {s : List Int} (h : Byt s) (hl : s.length = 32) : ∀ j, j ≤ 32 → polyV 16 (lnR (nib s) (2 * j)) = ((nb (s.take j) : Nat) : Int)
  | 0, _ => rfl
  | j + 1, hj => by
    have q := nib_lo h (show j < 32 by omega)
    have hb := byt_get h j
    rw [show 2 * (j + 1) = 2 * j + 1 + 1 by omega, polyV_s, polyV_s, nib_sum h hl j (by omega), q.1, q.2, nb_take1, Int.natCast_add, Int.natCast_mul, Int.toNat_of_nonneg hb.1]
    have e : (16 : Int) ^ (2 * j) = ((256 ^ j : Nat) : Int) := by rw [Int.pow_mul, Int.natCast_pow]; rfl
    rw [Int.pow_succ, e]
    generalize ((256 ^ j : Nat) : Int) = p
    have : p * List.getD s j 0 = p * (List.getD s j 0 % 16) + p * (16 * (List.getD s j 0 / 16)) := by
      rw [← Int.mul_add]; congr 1; omega
    rw [this, Int.mul_comm (List.getD s j 0 % 16), Int.mul_comm (List.getD s j 0 / 16), Int.mul_assoc]; omega
theorem dc_sum (s : List Int) : ∀ k, polyV 16 (lnR (dcD s) k) + dcC s k * 16 ^ k = polyV 16 (lnR (nib s) k)
  | 0 => rfl
  | k + 1 => by
    have ih := dc_sum s k
    rw [polyV_s, polyV_s, ← ih, Int.pow_succ]
    have e : dcD s k + 16 * dcC s (k + 1) = nib s k + dcC s k := by
      by_cases h : nib s k + dcC s k > 7 ∧ k < 63
      · rw [(dc_a h).1, (dc_a h).2]; omega
      · rw [(dc_b h).1, (dc_b h).2]; omega
    generalize (16 : Int) ^ k = p
    have : dcD s k * p + dcC s (k + 1) * (p * 16) = dcC s k * p + nib s k * p := by
      rw [Int.mul_comm p 16, ← Int.mul_assoc, ← Int.add_mul, Int.mul_comm _ 16, e, Int.add_mul, Int.add_comm]
    omega
theorem dc_back {s : List Int} (h : Byt s) (hl : s.length = 32) : polyV 16 (dcR s 64) = BV s := by
  have e := dc_sum s 64
  have c : dcC s 64 = 0 := (dc_b (s := s) (k := 63) (fun h => by omega)).2
  rw [c, Int.zero_mul, Int.add_zero] at e
  unfold dcR
  rw [e, nib_sum h hl 32 (Nat.le_refl _), List.take_of_length_le (by omega), BV_nb h hl]
theorem dc_rng {s : List Int} (k : Nat) (hk : k < 63) : -8 ≤ dcD s k ∧ dcD s k ≤ 7 := by
  have h1 := nib_rng s k
  have h2 := dcC_rng s k
  by_cases h : nib s k + dcC s k > 7 ∧ k < 63
  · rw [(dc_a h).1]; omega
  · rw [(dc_b h).1]; omega
theorem dc_top {s : List Int} (h : Byt s) (hs : BV s < LL) : 0 ≤ dcD s 63 ∧ dcD s 63 ≤ 2 := by
  have h2 := dcC_rng s 63
  have q := nib_lo h (show 31 < 32 by omega)
  have hb := byt_get h 31
  have e : List.getD s 31 0 < 32 := by
    have r0 := le8_rng h 0
    have r1 := le8_rng h 8
    have r2 := le8_rng h 16
    have g0 := byt_get h (24 + 0); have g1 := byt_get h (24 + 1); have g2 := byt_get h (24 + 2); have g3 := byt_get h (24 + 3); have g4 := byt_get h (24 + 4); have g5 := byt_get h (24 + 5); have g6 := byt_get h (24 + 6)
    unfold BV at hs
    have e3 : le8 s 24 = List.getD s (24 + 0) 0 + 256 * List.getD s (24 + 1) 0 + 65536 * List.getD s (24 + 2) 0 + 16777216 * List.getD s (24 + 3) 0 + 4294967296 * List.getD s (24 + 4) 0 + 1099511627776 * List.getD s (24 + 5) 0 + 281474976710656 * List.getD s (24 + 6) 0 + 72057594037927936 * List.getD s (24 + 7) 0 := rfl
    have e31 : List.getD s (24 + 7) 0 = List.getD s 31 0 := rfl
    rw [e31] at e3
    unfold LL at hs
    omega
  rw [(dc_b (s := s) (k := 63) (fun h => by omega)).1]
  have := q.2
  have e63 : nib s 63 = List.getD s 31 0 / 16 := this
  omega
end Go.Proofs.Ytcpoldghkiiggaa.X

/- Digits that stand apart: they come back, end, stand apart, and are few. -/
namespace Go.Proofs.Ytcpoldghkiiggaa.X
open Go Go.Proofs
set_option linter.unusedVariables false
set_option linter.unusedSimpArgs false
set_option maxRecDepth 100000

theorem tp_pos (n : Nat) : (0 : Int) < 2 ^ n := Int.pow_pos (by decide)
theorem tp_s (n : Nat) : (2 : Int) ^ (n + 1) = 2 * 2 ^ n := by rw [Int.pow_succ, Int.mul_comm]
theorem tp_dvd {m n : Nat} (h : m ≤ n) : (2 : Int) ^ m ∣ 2 ^ n := ⟨2 ^ (n - m), by rw [← Int.pow_add, show m + (n - m) = n by omega]⟩
theorem tp_le {m n : Nat} (h : m ≤ n) : (2 : Int) ^ m ≤ 2 ^ n := Int.le_of_dvd (tp_pos n) (tp_dvd h)
def nafM (w v : Int) : Int := if nafX w v ≥ pw2 (w - 1) then v / pw2 w + 1 else v / pw2 w
theorem nafW_M {w v : Int} (ha : v % 2 = 1) : nafW w v = pw2 w * nafM w v := by
  have e := Int.emod_add_mul_ediv v (pw2 w)
  unfold nafW nafM
  by_cases hb : nafX w v ≥ pw2 (w - 1)
  · rw [nafD_b ha hb, if_pos hb, Int.mul_add, Int.mul_one]; unfold nafX; omega
  · rw [nafD_s ha hb, if_neg hb]; unfold nafX; omega
theorem nfV_odd {w : Int} (h0 : 2 ≤ w) (h1 : w ≤ 8) {a : List Int} {k : Nat} (ha : nfV w a k % 2 = 1) : nfV w a (k + 1) = pw2 (w - 1) * nafM w (nfV w a k) := by
  have p := pw2_rng h0 h1
  show nafW w (nfV w a k) / 2 = _
  rw [nafW_M ha, p.2.2, Int.mul_assoc, Int.mul_ediv_cancel_left _ (by decide)]
theorem nfV_even {w : Int} {a : List Int} {k : Nat} (ha : ¬ nfV w a k % 2 = 1) : nfV w a (k + 1) = nfV w a k / 2 := by
  show (nfV w a k - nafD w (nfV w a k)) / 2 = _
  rw [nafD_e ha, Int.sub_zero]
theorem nfV_s2 {w : Int} (h0 : 2 ≤ w) (h1 : w ≤ 8) (a : List Int) (k : Nat) : 2 * nfV w a (k + 1) = nfV w a k - nfF w a k := by
  have p := pw2_rng h0 h1
  by_cases ha : nfV w a k % 2 = 1
  · rw [nfV_odd h0 h1 ha, ← Int.mul_assoc, ← p.2.2, ← nafW_M ha]; rfl
  · have e : nfF w a k = 0 := nafD_e ha
    rw [nfV_even ha, e]; omega
theorem nf_sum {w : Int} (h0 : 2 ≤ w) (h1 : w ≤ 8) (a : List Int) : ∀ k, polyV 2 (lnR (nfF w a) k) + nfV w a k * 2 ^ k = modL (BV a)
  | 0 => by show (0 : Int) + modL (BV a) * 1 = _; omega
  | k + 1 => by
    have ih := nf_sum h0 h1 a k
    have s := nfV_s2 h0 h1 a k
    rw [polyV_s, tp_s, Int.mul_left_comm, ← Int.mul_assoc, s, Int.sub_mul]; omega
theorem odd_dvd {v : Int} {z k : Nat} (h : v % 2 = 1) (hd : (2 : Int) ^ (z + 1) ∣ v * 2 ^ k) : z + 1 ≤ k := by
  apply Nat.le_of_not_lt
  intro hl
  obtain ⟨c, hc⟩ := Int.dvd_trans (a := (2 : Int) ^ (k + 1)) (tp_dvd (by omega)) hd
  have p := tp_pos k
  rw [tp_s, Int.mul_comm v, Int.mul_comm 2, Int.mul_assoc] at hc
  have := Int.eq_of_mul_eq_mul_left (by omega) hc
  omega
def nfI (w : Int) (a : List Int) (k : Nat) : Prop := nfV w a k * 2 ^ k ≤ modL (BV a) ∨ ∃ z : Nat, nfV w a k * 2 ^ k < modL (BV a) + 2 ^ z ∧ (2 : Int) ^ (z + 1) ∣ nfV w a k * 2 ^ k
theorem nfU_s {w : Int} (h0 : 2 ≤ w) (h1 : w ≤ 8) (a : List Int) (k : Nat) : nfV w a (k + 1) * 2 ^ (k + 1) = nfV w a k * 2 ^ k - nfF w a k * 2 ^ k := by
  rw [tp_s, Int.mul_left_comm, ← Int.mul_assoc, nfV_s2 h0 h1, Int.sub_mul]
theorem nfD_rng {w v : Int} (h0 : 2 ≤ w) (h1 : w ≤ 8) (ha : v % 2 = 1) : -pw2 (w - 1) < nafD w v ∧ nafD w v < pw2 (w - 1) ∧ nafD w v % 2 = 1 := by
  have p := pw2_rng h0 h1
  have r := nafX_rng h0 h1 v
  have o : nafX w v % 2 = 1 := by
    unfold nafX
    rcases w_cases h0 h1 with rfl | rfl | rfl | rfl | rfl | rfl | rfl
    · show v % 4 % 2 = 1; omega
    · show v % 8 % 2 = 1; omega
    · show v % 16 % 2 = 1; omega
    · show v % 32 % 2 = 1; omega
    · show v % 64 % 2 = 1; omega
    · show v % 128 % 2 = 1; omega
    · show v % 256 % 2 = 1; omega
  have e : pw2 (w - 1) % 2 = 0 := by
    rcases w_cases h0 h1 with rfl | rfl | rfl | rfl | rfl | rfl | rfl <;> decide
  by_cases hb : nafX w v ≥ pw2 (w - 1)
  · rw [nafD_b ha hb]; omega
  · rw [nafD_s ha hb]; omega
theorem pw2_tp {w : Int} (h0 : 2 ≤ w) : pw2 (w - 1) = 2 ^ (w - 1).toNat ∧ pw2 w = 2 ^ ((w - 1).toNat + 1) := ⟨rfl, by unfold pw2; congr 1; omega⟩
theorem nfI_s {w : Int} (h0 : 2 ≤ w) (h1 : w ≤ 8) {a : List Int} {k : Nat} (ih : nfI w a k) : nfI w a (k + 1) := by
  unfold nfI at ih ⊢
  have pk := tp_pos k
  by_cases ha : nfV w a k % 2 = 1
  · have dr := nfD_rng h0 h1 ha
    have up : nfV w a k * 2 ^ k ≤ modL (BV a) ∨ nfV w a k * 2 ^ k < modL (BV a) + 2 ^ k := by
      rcases ih with h | ⟨z, hz, hd⟩
      · exact Or.inl h
      · have hk := odd_dvd ha hd
        have : (2 : Int) ^ z ≤ 2 ^ k := tp_le (by omega)
        exact Or.inr (by omega)
    have up2 : nfV w a k * 2 ^ k < modL (BV a) + 2 ^ k := by rcases up with h | h <;> omega
    by_cases hb : nafD w (nfV w a k) < 0
    · right
      refine ⟨k + (w - 1).toNat, ?_, ?_⟩
      · rw [nfU_s h0 h1]
        show _ - nafD w (nfV w a k) * 2 ^ k < _
        have q := pw2_tp h0
        rw [Int.pow_add, ← q.1]
        have m : (-nafD w (nfV w a k) + 1) * 2 ^ k ≤ pw2 (w - 1) * 2 ^ k := Int.mul_le_mul_of_nonneg_right (by omega) (by omega)
        rw [Int.add_mul, Int.one_mul, Int.neg_mul] at m
        rw [Int.mul_comm (2 ^ k) (pw2 _)]
        omega
      · have e : nfV w a (k + 1) * 2 ^ (k + 1) = 2 ^ (k + (w - 1).toNat + 1) * nafM w (nfV w a k) := by
          rw [nfV_odd h0 h1 ha, (pw2_tp h0).1, show k + (w - 1).toNat + 1 = (w - 1).toNat + (k + 1) by omega, Int.pow_add _ (w - 1).toNat, Int.mul_right_comm]
        rw [e]
        exact Int.dvd_mul_right _ _
    · left
      rw [nfU_s h0 h1]
      show _ - nafD w (nfV w a k) * 2 ^ k ≤ _
      have m : 1 * 2 ^ k ≤ nafD w (nfV w a k) * 2 ^ k := Int.mul_le_mul_of_nonneg_right (by omega) (by omega)
      omega
  · have e : nfF w a k = 0 := nafD_e ha
    rw [nfU_s h0 h1, e, Int.zero_mul, Int.sub_zero]
    exact ih
theorem nfI_all {w : Int} (h0 : 2 ≤ w) (h1 : w ≤ 8) (a : List Int) : ∀ k, nfI w a k
  | 0 => Or.inl (by show modL (BV a) * 1 ≤ _; omega)
  | k + 1 => nfI_s h0 h1 (nfI_all h0 h1 a k)
theorem nfV_end {w : Int} (h0 : 2 ≤ w) (h1 : w ≤ 8) (a : List Int) : nfV w a 256 = 0 := by
  have r := nfV_rng h0 h1 a 256
  have m := modL_b (BV a)
  have i := nfI_all h0 h1 a 256
  unfold nfI at i
  rw [show (2 : Int) ^ 256 = 115792089237316195423570985008687907853269984665640564039457584007913129639936 by decide +kernel] at i
  unfold LL at m
  generalize nfV w a 256 = v at *
  generalize modL (BV a) = n at *
  rcases i with h | ⟨z, hz, c, hc⟩
  · omega
  · rw [tp_s] at hc
    have pz := tp_pos z
    generalize (2 : Int) ^ z = t at *
    by_cases hv : v = 0
    · exact hv
    · have hc0 : 1 ≤ c := by
        apply Int.lt_of_mul_lt_mul_left (a := 2 * t) (b := 0) (c := c) _ (by omega)
        rw [← hc]; omega
      have : 2 * t * 1 ≤ 2 * t * c := Int.mul_le_mul_of_nonneg_left hc0 (by omega)
      omega
theorem nf_back {w : Int} (h0 : 2 ≤ w) (h1 : w ≤ 8) (a : List Int) : polyV 2 (nfR w a 256) = modL (BV a) := by
  have e := nf_sum h0 h1 a 256
  rw [nfV_end h0 h1, Int.zero_mul, Int.add_zero] at e
  exact e
/-! they stand apart -/
def lsS (w : Int) (a : List Int) : Nat → Int
  | 0 => -w
  | k + 1 => if nfF w a k = 0 then lsS w a k else (k : Int)
def cnS (w : Int) (a : List Int) : Nat → Int
  | 0 => 0
  | k + 1 => if nfF w a k = 0 then cnS w a k else cnS w a k + 1
theorem nfF_nz {w : Int} (h0 : 2 ≤ w) (h1 : w ≤ 8) {a : List Int} {k : Nat} : nfF w a k = 0 ↔ ¬ nfV w a k % 2 = 1 := by
  constructor
  · intro e h
    have := (nfD_rng h0 h1 h).2.2
    unfold nfF at e
    rw [e] at this
    exact absurd this (by decide)
  · exact nafD_e
theorem gap_inv {w : Int} (h0 : 2 ≤ w) (h1 : w ≤ 8) (a : List Int) : ∀ k : Nat, lsS w a k < k ∧ (w ≤ k - lsS w a k ∨ ∃ z : Nat, 1 ≤ z ∧ (z : Int) + (k - lsS w a k) = w ∧ (2 : Int) ^ z ∣ nfV w a k)
  | 0 => ⟨by show -w < ((0 : Nat) : Int); omega, Or.inl (by show w ≤ ((0 : Nat) : Int) - -w; omega)⟩
  | k + 1 => by
    have ih := gap_inv h0 h1 a k
    by_cases ha : nfV w a k % 2 = 1
    · have e : lsS w a (k + 1) = k := if_neg (fun h => (nfF_nz h0 h1).1 h ha)
      rw [e]
      refine ⟨by omega, Or.inr ⟨(w - 1).toNat, by omega, by omega, ?_⟩⟩
      rw [nfV_odd h0 h1 ha, (pw2_tp h0).1]
      exact Int.dvd_mul_right _ _
    · have e : lsS w a (k + 1) = lsS w a k := if_pos (nafD_e ha)
      rw [e]
      refine ⟨by omega, ?_⟩
      rcases ih.2 with h | ⟨z, hz, he, c, hc⟩
      · exact Or.inl (by omega)
      · by_cases z1 : z = 1
        · exact Or.inl (by omega)
        · refine Or.inr ⟨z - 1, by omega, by omega, c, ?_⟩
          rw [nfV_even ha, hc, show z = z - 1 + 1 by omega, tp_s, Int.mul_assoc, Int.mul_ediv_cancel_left _ (by decide)]; rfl
theorem gap_odd {w : Int} (h0 : 2 ≤ w) (h1 : w ≤ 8) {a : List Int} {k : Nat} (ha : ¬ nfF w a k = 0) : w ≤ k - lsS w a k := by
  have ho : nfV w a k % 2 = 1 := Classical.byContradiction fun h => ha ((nfF_nz h0 h1).2 h)
  rcases (gap_inv h0 h1 a k).2 with h | ⟨z, hz, he, c, hc⟩
  · exact h
  · rw [show z = z - 1 + 1 by omega, tp_s, Int.mul_assoc] at hc
    omega
theorem cn_ls {w : Int} (h0 : 2 ≤ w) (h1 : w ≤ 8) (a : List Int) : ∀ k : Nat, w * cnS w a k ≤ lsS w a k + w ∧ 0 ≤ cnS w a k
  | 0 => by show w * 0 ≤ -w + w ∧ (0 : Int) ≤ 0; omega
  | k + 1 => by
    have ih := cn_ls h0 h1 a k
    by_cases ha : nfF w a k = 0
    · have e : lsS w a (k + 1) = lsS w a k := if_pos ha
      have e2 : cnS w a (k + 1) = cnS w a k := if_pos ha
      rw [e, e2]; exact ih
    · have e : lsS w a (k + 1) = k := if_neg ha
      have e2 : cnS w a (k + 1) = cnS w a k + 1 := if_neg ha
      have g := gap_odd h0 h1 ha
      rw [e, e2, Int.mul_add]; omega
theorem cn_few {w : Int} (h0 : 2 ≤ w) (h1 : w ≤ 8) (a : List Int) : 0 ≤ cnS w a 256 ∧ cnS w a 256 ≤ 256 / w + 1 := by
  have h := cn_ls h0 h1 a 256
  have g := (gap_inv h0 h1 a 256).1
  refine ⟨h.2, ?_⟩
  have : cnS w a 256 - 1 ≤ 256 / w := by
    rw [Int.le_ediv_iff_mul_le (by omega), Int.mul_comm, Int.mul_sub]; omega
  omega
/-! ones -/
def popN (n : Nat) : Nat := if n = 0 then 0 else n % 2 + popN (n / 2)
theorem popN_0 : popN 0 = 0 := by rw [popN]; rfl
theorem popN_s (n : Nat) : popN n = n % 2 + popN (n / 2) := by
  by_cases h : n = 0
  · subst h; rw [popN_0]
  · rw [popN, if_neg h]
theorem popN_add (n : Nat) : ∀ s m : Nat, n < 2 ^ s → popN (2 ^ s * m + n) = popN m + popN n := by
  intro s
  induction s generalizing n with
  | zero => intro m h; have : n = 0 := by rw [Nat.pow_zero] at h; omega
            subst this; rw [popN_0, Nat.pow_zero, Nat.one_mul]; rfl
  | succ s ih =>
    intro m h
    rw [Nat.pow_succ] at h
    rw [popN_s (2 ^ (s + 1) * m + n), popN_s n, Nat.pow_succ, Nat.mul_comm (2 ^ s) 2, Nat.mul_assoc]
    have e1 : (2 * (2 ^ s * m) + n) % 2 = n % 2 := by omega
    have e2 : (2 * (2 ^ s * m) + n) / 2 = 2 ^ s * m + n / 2 := by omega
    rw [e1, e2, ih (n / 2) m (by omega)]; omega
theorem popN_pos {n : Nat} (h : 0 < n) : 0 < popN n := by
  induction n using Nat.strongRecOn with
  | _ n ih =>
    rw [popN_s]
    by_cases o : n % 2 = 1
    · omega
    · have := ih (n / 2) (by omega) (by omega); omega
theorem popN_succ (n : Nat) : popN (n + 1) ≤ popN n + 1 := by
  induction n using Nat.strongRecOn with
  | _ n ih =>
    rw [popN_s (n + 1), popN_s n]
    by_cases o : n % 2 = 1
    · have := ih (n / 2) (by omega)
      have e : (n + 1) / 2 = n / 2 + 1 := by omega
      rw [e]; omega
    · have e : (n + 1) / 2 = n / 2 := by omega
      rw [e]; omega
theorem popN_two {n s : Nat} (h : n % 2 = 1) (h2 : 2 ≤ n) : 2 ≤ popN n := by
  have := popN_pos (n := n / 2) (by omega)
  rw [popN_s]; omega
theorem popN_mul (s m : Nat) : popN (2 ^ s * m) = popN m := by
  have := popN_add 0 s m (Nat.pow_pos (by omega))
  rw [popN_0, Nat.add_zero] at this; simpa using this
theorem cn_pop {w : Int} (h0 : 2 ≤ w) (h1 : w ≤ 8) (a : List Int) : ∀ k : Nat, cnS w a k + popN (nfV w a k).toNat ≤ popN (modL (BV a)).toNat
  | 0 => by show (0 : Int) + popN (modL (BV a)).toNat ≤ _; omega
  | k + 1 => by
    have ih := cn_pop h0 h1 a k
    have r := nfV_rng h0 h1 a k
    by_cases ha : nfV w a k % 2 = 1
    · have e2 : cnS w a (k + 1) = cnS w a k + 1 := if_neg (fun h => (nfF_nz h0 h1).1 h ha)
      have q := pw2_tp h0
      have p := pw2_rng h0 h1
      have x := nafX_rng h0 h1 (nfV w a k)
      have dm := Int.emod_add_mul_ediv (nfV w a k) (pw2 w)
      have md0 : 0 ≤ nfV w a k / pw2 w := Int.ediv_nonneg r.1 (by omega)
      obtain ⟨m, hm⟩ := Int.eq_ofNat_of_zero_le md0
      obtain ⟨y, hy⟩ := Int.eq_ofNat_of_zero_le x.1
      have e3 : (nfV w a k).toNat = 2 ^ ((w - 1).toNat + 1) * m + y := by
        have : nfV w a k = ((2 ^ ((w - 1).toNat + 1) * m + y : Nat) : Int) := by
          rw [Int.natCast_add, Int.natCast_mul, Int.natCast_pow, ← hm, ← hy]
          show _ = (2 : Int) ^ ((w - 1).toNat + 1) * _ + _
          rw [← q.2]
          unfold nafX; omega
        omega
      have ylt : y < 2 ^ ((w - 1).toNat + 1) := by
        have := x.2
        rw [hy, q.2] at this
        exact Int.ofNat_lt.1 (by rw [Int.natCast_pow]; exact this)
      have yo : y % 2 = 1 := by
        have d := nfD_rng h0 h1 ha
        have pe : pw2 w % 2 = 0 := by omega
        have : nafX w (nfV w a k) % 2 = 1 := by
          by_cases hb : nafX w (nfV w a k) ≥ pw2 (w - 1)
          · rw [nafD_b ha hb] at d; omega
          · rw [nafD_s ha hb] at d; exact d.2.2
        omega
      rw [e3, popN_add y _ m ylt] at ih
      rw [e2, nfV_odd h0 h1 ha]
      unfold nafM
      by_cases hb : nafX w (nfV w a k) ≥ pw2 (w - 1)
      · have e4 : (pw2 (w - 1) * (nfV w a k / pw2 w + 1)).toNat = 2 ^ (w - 1).toNat * (m + 1) := by
          rw [q.1, hm]
          have : (2 : Int) ^ (w - 1).toNat * ((m : Int) + 1) = ((2 ^ (w - 1).toNat * (m + 1) : Nat) : Int) := by
            rw [Int.natCast_mul, Int.natCast_pow]; rfl
          rw [this]; rfl
        rw [if_pos hb, e4, popN_mul]
        have p1 := popN_succ m
        have p2 := popN_two (s := 0) yo (by omega)
        omega
      · have e4 : (pw2 (w - 1) * (nfV w a k / pw2 w)).toNat = 2 ^ (w - 1).toNat * m := by
          rw [q.1, hm]
          have : (2 : Int) ^ (w - 1).toNat * (m : Int) = ((2 ^ (w - 1).toNat * m : Nat) : Int) := by
            rw [Int.natCast_mul, Int.natCast_pow]; rfl
          rw [this]; rfl
        rw [if_neg hb, e4, popN_mul]
        have p2 := popN_pos (n := y) (by omega)
        omega
    · have e2 : cnS w a (k + 1) = cnS w a k := if_pos (nafD_e ha)
      have s := popN_s (nfV w a k).toNat
      rw [e2, nfV_even ha, show (nfV w a k / 2).toNat = (nfV w a k).toNat / 2 by omega]
      rw [show (nfV w a k).toNat % 2 = 0 by omega] at s
      omega
theorem cn_ones {w : Int} (h0 : 2 ≤ w) (h1 : w ≤ 8) (a : List Int) : cnS w a 256 ≤ popN (modL (BV a)).toNat := by
  have := cn_pop h0 h1 a 256
  omega
/-- the count of the ones of a byte list, as the loop counts it -/
def onS (l : List Int) : Nat → Int
  | 0 => 0
  | k + 1 => onS l k + ((nb l / 2 ^ k % 2 : Nat) : Int)
theorem on_pop (l : List Int) : ∀ k, onS l k + popN (nb l / 2 ^ k) = popN (nb l)
  | 0 => by rw [Nat.pow_zero, Nat.div_one]; show (0 : Int) + _ = _; omega
  | k + 1 => by
    have ih := on_pop l k
    rw [popN_s (nb l / 2 ^ k), Nat.div_div_eq_div_mul, ← Nat.pow_succ] at ih
    show onS l k + ((nb l / 2 ^ k % 2 : Nat) : Int) + popN (nb l / 2 ^ Nat.succ k) = _
    generalize popN (nb l / 2 ^ Nat.succ k) = z at *
    generalize nb l / 2 ^ k = y at *
    omega
theorem on_all {l : List Int} (h : Byt l) (hl : l.length = 32) : onS l 256 = popN (BV l).toNat := by
  have e := on_pop l 256
  have b : nb l < 2 ^ 256 := by
    have r := BV_rng h
    rw [BV_nb h hl] at r
    have : (2 : Nat) ^ 256 = 115792089237316195423570985008687907853269984665640564039457584007913129639936 := by decide +kernel
    omega
  rw [Nat.div_eq_of_lt b, popN_0] at e
  rw [BV_nb h hl, Int.toNat_natCast]; omega
theorem on_bnd (l : List Int) : ∀ k, 0 ≤ onS l k ∧ onS l k ≤ k
  | 0 => by show (0 : Int) ≤ 0 ∧ (0 : Int) ≤ ((0 : Nat) : Int); omega
  | k + 1 => by
    have ih := on_bnd l k
    show 0 ≤ onS l k + _ ∧ onS l k + _ ≤ _
    omega
theorem byt_rad {x : Int} (h : 0 ≤ x ∧ x < 256) : Byt [x, 0, 0, 0, 0, 0, 0, 0, 0, 0, 0, 0, 0, 0, 0, 0, 0, 0, 0, 0, 0, 0, 0, 0, 0, 0, 0, 0, 0, 0, 0, 0] := by
  intro y hy
  rcases List.mem_cons.1 hy with rfl | hy
  · exact h
  · have : ∀ z ∈ ([0, 0, 0, 0, 0, 0, 0, 0, 0, 0, 0, 0, 0, 0, 0, 0, 0, 0, 0, 0, 0, 0, 0, 0, 0, 0, 0, 0, 0, 0, 0] : List Int), z = 0 := by decide
    rw [this y hy]; decide
end Go.Proofs.Ytcpoldghkiiggaa.X

/- Printed by a tool of this session. -/
namespace Go.Proofs.Ytcpoldghkiiggaa.X
open Go Go.Proofs
set_option linter.unusedVariables false
set_option linter.unusedSimpArgs false
set_option maxRecDepth 100000
theorem teRQ_3 : TEOk Try.prog 3 ⟨.int .i64, 1, 8, [.i .i64 (0 : Int)], false⟩ :=
  TEOk.of Try.underlying3 (i := Try.t3) (by kernel_rfl) rfl rfl rfl (by kernel_rfl) (fun h => by cases h) (by kernel_rfl)
theorem teRQ_5 : TEOk Try.prog 5 ⟨.int .u8, 1, 1, [.i .u8 (0 : Int)], false⟩ :=
  TEOk.of Try.underlying5 (i := Try.t5) (by kernel_rfl) rfl rfl rfl (by kernel_rfl) (fun h => by cases h) (by kernel_rfl)
theorem teRQ_24 : TEOk Try.prog 24 ⟨.array 32 5, 32, 32, [.ints .u8 (32 : Nat) ([0, 0, 0, 0, 0, 0, 0, 0, 0, 0, 0, 0, 0, 0, 0, 0, 0, 0, 0, 0, 0, 0, 0, 0, 0, 0, 0, 0, 0, 0, 0, 0] : List Int)], true⟩ :=
  TEOk.of Try.underlying24 (i := Try.t24) (by kernel_rfl) rfl rfl rfl (by kernel_rfl) (fun _ => Try.eqGuardType24) (by kernel_rfl)
theorem teRQ_25 : TEOk Try.prog 25 ⟨.int .u64, 1, 8, [.i .u64 (0 : Int)], false⟩ :=
  TEOk.of Try.underlying25 (i := Try.t25) (by kernel_rfl) rfl rfl rfl (by kernel_rfl) (fun h => by cases h) (by kernel_rfl)
theorem teRQ_81 : TEOk Try.prog 81 ⟨.slice 3, 1, 24, [.raw (.slice none 0 0)], false⟩ :=
  TEOk.of Try.underlying81 (i := Try.t81) (by kernel_rfl) rfl rfl rfl (by kernel_rfl) (fun h => by cases h) (by kernel_rfl)
noncomputable def tabRQ : List (Nat × TE) := [(3, ⟨.int .i64, 1, 8, [.i .i64 (0 : Int)], false⟩), (5, ⟨.int .u8, 1, 1, [.i .u8 (0 : Int)], false⟩), (24, ⟨.array 32 5, 32, 32, [.ints .u8 (32 : Nat) ([0, 0, 0, 0, 0, 0, 0, 0, 0, 0, 0, 0, 0, 0, 0, 0, 0, 0, 0, 0, 0, 0, 0, 0, 0, 0, 0, 0, 0, 0, 0, 0] : List Int)], true⟩), (25, ⟨.int .u64, 1, 8, [.i .u64 (0 : Int)], false⟩), (81, ⟨.slice 3, 1, 24, [.raw (.slice none 0 0)], false⟩)]
theorem tabOkRQ : TabOk Try.prog (tabOf tabRQ) := (tabOf_cons teRQ_3 (tabOf_cons teRQ_5 (tabOf_cons teRQ_24 (tabOf_cons teRQ_25 (tabOf_cons teRQ_81 tabOf_nil)))))

def bkL_mk (n : Nat) (nm : Nat) (d : List Int) (x : Int) (cap0 : Nat) (k : Nat) (s : Unit) : St := ⟨sparse 42 [(0, .o (.a (.sl 0 (0 : Nat) n cap0))), (1, .o (.a (.i .u8 x))), (4, .o (.a (.p 1 0))), (5, .o (.a (.p 2 0))), (6, .o (.a (.i .i64 ((((n : Nat) : Int) - 1) - ((k : Nat) : Int))))), (7, .o (.g [.ints .u8 (32 : Nat) ([0, 0, 0, 0, 0, 0, 0, 0, 0, 0, 0, 0, 0, 0, 0, 0, 0, 0, 0, 0, 0, 0, 0, 0, 0, 0, 0, 0, 0, 0, 0, 0] : List Int)])), (8, .o (.a (.sl 0 (0 : Nat) n cap0))), (9, .o (.a (.i .i64 ((n : Nat) : Int)))), (10, .o (.a (.i .i64 (IntKind.i64.wrap (((n : Nat) : Int) - (1 : Int))))))], [some ⟨false, [.ints .i64 nm d]⟩, some ⟨true, [.ints .u8 (32 : Nat) ([0, 0, 0, 0, 0, 0, 0, 0, 0, 0, 0, 0, 0, 0, 0, 0, 0, 0, 0, 0, 0, 0, 0, 0, 0, 0, 0, 0, 0, 0, 0, 0] : List Int)]⟩, some ⟨true, [.ints .u8 (32 : Nat) (B32 (bkS d n x k))]⟩]⟩

def bkL_step (k : Nat) (s : Unit) : Unit :=
  ()

set_option maxHeartbeats 1000000 in
theorem bkL_round_0 (n : Nat) (nm : Nat) (d : List Int) (x : Int) (cap0 : Nat) (h0 : (nm = n)) (h1 : (n < (1099511627776 : Nat))) (h2 : (Dsm d)) (h3 : ((0 : Int) ≤ x)) (h4 : (x < (256 : Int))) (hc0 : n ≤ cap0) (hl0_0 : List.length d = nm) (w : World) (β : Env) (k : Nat) (hk : k < n) (s : Unit) (ha : List.getD d (n - 1 - k) 0 < 0) : Run Try.prog ⟨w, [], 1, β⟩ (loopB Try.f64 0) (bkL_mk n nm d x cap0 k s) (To ⟨w, [], 1, β⟩ .normal (bkL_mk n nm d x cap0 (k + 1) (bkL_step k s))) := by
  have e0 : (B32 (modL ((BV (B32 (modL ((BV (B32 (bkS d n x k))) * (BV ([x, 0, 0, 0, 0, 0, 0, 0, 0, 0, 0, 0, 0, 0, 0, 0, 0, 0, 0, 0, 0, 0, 0, 0, 0, 0, 0, 0, 0, 0, 0, 0] : List Int)))))) - (BV (B32 (IntKind.u64.wrap (IntKind.i64.wrap ((0 : Int) - (List.getD d ((n - (1 : Nat)) - k) 0))))))))) = (B32 (bkS d n x (k + (1 : Nat)))) := (by first | (simp (disch := omega) only [wrapI]; omega) | (rw [bk_a h2 ha]))
  have e1 : (IntKind.i64.wrap (((((n - (1 : Nat)) - k) : Nat) : Int) - (1 : Int))) = ((((n : Nat) : Int) - 1) - (((k + (1 : Nat)) : Nat) : Int)) := (by first | (simp (disch := omega) only [wrapI]; omega) | (rw [bk_a h2 ha]))
  have h := Run.of_outT (B := ⟨w, [], 1, β⟩) (Λ := noLam) (Ψ := psiOf [(5, [.eqS 6 (.o (.a (.i .i64 ((((n - (1 : Nat)) - k) : Nat) : Int))))])]) (fuel := 0) (ora := [true, true]) (c := (loopB Try.f64 0)) (st := (bkL_mk n nm d x cap0 k s)) (l := [.forget [0, 1, 4, 5, 6, 7, 8, 9, 10] 3]) (s' := ⟨sparse 42 [(0, .o (.a (.sl 0 (0 : Nat) n cap0))), (1, .o (.a (.i .u8 x))), (4, .o (.a (.p 1 0))), (5, .o (.a (.p 2 0))), (6, .o (.a (.i .i64 (IntKind.i64.wrap (((((n - (1 : Nat)) - k) : Nat) : Int) - (1 : Int)))))), (7, .o (.g [.ints .u8 (32 : Nat) ([0, 0, 0, 0, 0, 0, 0, 0, 0, 0, 0, 0, 0, 0, 0, 0, 0, 0, 0, 0, 0, 0, 0, 0, 0, 0, 0, 0, 0, 0, 0, 0] : List Int)])), (8, .o (.a (.sl 0 (0 : Nat) n cap0))), (9, .o (.a (.i .i64 ((n : Nat) : Int)))), (10, .o (.a (.i .i64 (IntKind.i64.wrap (((n : Nat) : Int) - (1 : Int))))))], [some ⟨false, [.ints .i64 nm d]⟩, some ⟨true, [.ints .u8 (32 : Nat) ([0, 0, 0, 0, 0, 0, 0, 0, 0, 0, 0, 0, 0, 0, 0, 0, 0, 0, 0, 0, 0, 0, 0, 0, 0, 0, 0, 0, 0, 0, 0, 0] : List Int)]⟩, some ⟨true, [.ints .u8 (32 : Nat) (B32 (modL ((BV (B32 (modL ((BV (B32 (bkS d n x k))) * (BV ([x, 0, 0, 0, 0, 0, 0, 0, 0, 0, 0, 0, 0, 0, 0, 0, 0, 0, 0, 0, 0, 0, 0, 0, 0, 0, 0, 0, 0, 0, 0, 0] : List Int)))))) - (BV (B32 (IntKind.u64.wrap (IntKind.i64.wrap ((0 : Int) - (List.getD d ((n - (1 : Nat)) - k) 0)))))))))]⟩]⟩) (ex := .normal) mix tabOkRQ gam72_ok
    (vc := [((Byt (B32 (modL ((BV (B32 (bkS d n x k))) * (BV ([x, 0, 0, 0, 0, 0, 0, 0, 0, 0, 0, 0, 0, 0, 0, 0, 0, 0, 0, 0, 0, 0, 0, 0, 0, 0, 0, 0, 0, 0, 0, 0] : List Int)))))) ∧ (Byt (B32 (IntKind.u64.wrap (IntKind.i64.wrap ((0 : Int) - (List.getD d ((n - (1 : Nat)) - k) 0))))))), (((0 : Int) ≤ (IntKind.u64.wrap (IntKind.i64.wrap ((0 : Int) - (List.getD d ((n - (1 : Nat)) - k) 0))))) ∧ ((IntKind.u64.wrap (IntKind.i64.wrap ((0 : Int) - (List.getD d ((n - (1 : Nat)) - k) 0)))) < (18446744073709551616 : Int))), (((n - (1 : Nat)) - k) < nm), (((0 : Int) ≤ ((((n - (1 : Nat)) - k) : Nat) : Int)) ∧ (((((n - (1 : Nat)) - k) : Nat) : Int) < ((n : Nat) : Int))), ((decide ((List.getD d ((n - (1 : Nat)) - k) 0) < (0 : Int))) = true), (((n - (1 : Nat)) - k) < nm), (((0 : Int) ≤ ((((n - (1 : Nat)) - k) : Nat) : Int)) ∧ (((((n - (1 : Nat)) - k) : Nat) : Int) < ((n : Nat) : Int))), ((.o (.a (.i .i64 ((((n : Nat) : Int) - 1) - ((k : Nat) : Int)))) : AV) = .o (.a (.i .i64 ((((n - (1 : Nat)) - k) : Nat) : Int)))), ((Byt (B32 (bkS d n x k))) ∧ (Byt ([x, 0, 0, 0, 0, 0, 0, 0, 0, 0, 0, 0, 0, 0, 0, 0, 0, 0, 0, 0, 0, 0, 0, 0, 0, 0, 0, 0, 0, 0, 0, 0] : List Int))), ((decide (((((n : Nat) : Int) - 1) - ((k : Nat) : Int)) ≥ (0 : Int))) = true)]) (by kernel_rfl)
    (AllP_cons ⟨(byt_B32 _), (byt_B32 _)⟩ (AllP_cons ⟨(wrap_nn rfl), (by have q := dsm_get h2 (n - 1 - k); first | omega | (simp (disch := omega) only [wrapI]; omega) | exact wrap_nn rfl | (rw [wrap64]; omega))⟩ (AllP_cons (by have q := dsm_get h2 (n - 1 - k); first | omega | (simp (disch := omega) only [wrapI]; omega) | exact wrap_nn rfl | (rw [wrap64]; omega)) (AllP_cons ⟨(by have q := dsm_get h2 (n - 1 - k); first | omega | (simp (disch := omega) only [wrapI]; omega) | exact wrap_nn rfl | (rw [wrap64]; omega)), (by have q := dsm_get h2 (n - 1 - k); first | omega | (simp (disch := omega) only [wrapI]; omega) | exact wrap_nn rfl | (rw [wrap64]; omega))⟩ (AllP_cons (decide_eq_true ha) (AllP_cons (by have q := dsm_get h2 (n - 1 - k); first | omega | (simp (disch := omega) only [wrapI]; omega) | exact wrap_nn rfl | (rw [wrap64]; omega)) (AllP_cons ⟨(by have q := dsm_get h2 (n - 1 - k); first | omega | (simp (disch := omega) only [wrapI]; omega) | exact wrap_nn rfl | (rw [wrap64]; omega)), (by have q := dsm_get h2 (n - 1 - k); first | omega | (simp (disch := omega) only [wrapI]; omega) | exact wrap_nn rfl | (rw [wrap64]; omega))⟩ (AllP_cons ((congrArg (fun z => AV.o (.a (.i .i64 z))) (by omega))) (AllP_cons ⟨(byt_B32 _), (byt_rad (by omega))⟩ (AllP_cons (decide_eq_true (by have q := dsm_get h2 (n - 1 - k); first | omega | (simp (disch := omega) only [wrapI]; omega) | exact wrap_nn rfl | (rw [wrap64]; omega))) (AllP_nil)))))))))))
  rw [e0, e1] at h
  exact h

set_option maxHeartbeats 1000000 in
theorem bkL_round_1 (n : Nat) (nm : Nat) (d : List Int) (x : Int) (cap0 : Nat) (h0 : (nm = n)) (h1 : (n < (1099511627776 : Nat))) (h2 : (Dsm d)) (h3 : ((0 : Int) ≤ x)) (h4 : (x < (256 : Int))) (hc0 : n ≤ cap0) (hl0_0 : List.length d = nm) (w : World) (β : Env) (k : Nat) (hk : k < n) (s : Unit) (ha : ¬ List.getD d (n - 1 - k) 0 < 0) : Run Try.prog ⟨w, [], 1, β⟩ (loopB Try.f64 0) (bkL_mk n nm d x cap0 k s) (To ⟨w, [], 1, β⟩ .normal (bkL_mk n nm d x cap0 (k + 1) (bkL_step k s))) := by
  have e0 : (B32 (modL ((BV (B32 (modL ((BV (B32 (bkS d n x k))) * (BV ([x, 0, 0, 0, 0, 0, 0, 0, 0, 0, 0, 0, 0, 0, 0, 0, 0, 0, 0, 0, 0, 0, 0, 0, 0, 0, 0, 0, 0, 0, 0, 0] : List Int)))))) + (BV (B32 (IntKind.u64.wrap (List.getD d ((n - (1 : Nat)) - k) 0))))))) = (B32 (bkS d n x (k + (1 : Nat)))) := (by first | (simp (disch := omega) only [wrapI]; omega) | (rw [bk_b h2 ha]))
  have e1 : (IntKind.i64.wrap (((((n - (1 : Nat)) - k) : Nat) : Int) - (1 : Int))) = ((((n : Nat) : Int) - 1) - (((k + (1 : Nat)) : Nat) : Int)) := (by first | (simp (disch := omega) only [wrapI]; omega) | (rw [bk_b h2 ha]))
  have h := Run.of_outT (B := ⟨w, [], 1, β⟩) (Λ := noLam) (Ψ := psiOf [(5, [.eqS 6 (.o (.a (.i .i64 ((((n - (1 : Nat)) - k) : Nat) : Int))))])]) (fuel := 0) (ora := [true, false]) (c := (loopB Try.f64 0)) (st := (bkL_mk n nm d x cap0 k s)) (l := [.forget [0, 1, 4, 5, 6, 7, 8, 9, 10] 3]) (s' := ⟨sparse 42 [(0, .o (.a (.sl 0 (0 : Nat) n cap0))), (1, .o (.a (.i .u8 x))), (4, .o (.a (.p 1 0))), (5, .o (.a (.p 2 0))), (6, .o (.a (.i .i64 (IntKind.i64.wrap (((((n - (1 : Nat)) - k) : Nat) : Int) - (1 : Int)))))), (7, .o (.g [.ints .u8 (32 : Nat) ([0, 0, 0, 0, 0, 0, 0, 0, 0, 0, 0, 0, 0, 0, 0, 0, 0, 0, 0, 0, 0, 0, 0, 0, 0, 0, 0, 0, 0, 0, 0, 0] : List Int)])), (8, .o (.a (.sl 0 (0 : Nat) n cap0))), (9, .o (.a (.i .i64 ((n : Nat) : Int)))), (10, .o (.a (.i .i64 (IntKind.i64.wrap (((n : Nat) : Int) - (1 : Int))))))], [some ⟨false, [.ints .i64 nm d]⟩, some ⟨true, [.ints .u8 (32 : Nat) ([0, 0, 0, 0, 0, 0, 0, 0, 0, 0, 0, 0, 0, 0, 0, 0, 0, 0, 0, 0, 0, 0, 0, 0, 0, 0, 0, 0, 0, 0, 0, 0] : List Int)]⟩, some ⟨true, [.ints .u8 (32 : Nat) (B32 (modL ((BV (B32 (modL ((BV (B32 (bkS d n x k))) * (BV ([x, 0, 0, 0, 0, 0, 0, 0, 0, 0, 0, 0, 0, 0, 0, 0, 0, 0, 0, 0, 0, 0, 0, 0, 0, 0, 0, 0, 0, 0, 0, 0] : List Int)))))) + (BV (B32 (IntKind.u64.wrap (List.getD d ((n - (1 : Nat)) - k) 0)))))))]⟩]⟩) (ex := .normal) mix tabOkRQ gam72_ok
    (vc := [((Byt (B32 (modL ((BV (B32 (bkS d n x k))) * (BV ([x, 0, 0, 0, 0, 0, 0, 0, 0, 0, 0, 0, 0, 0, 0, 0, 0, 0, 0, 0, 0, 0, 0, 0, 0, 0, 0, 0, 0, 0, 0, 0] : List Int)))))) ∧ (Byt (B32 (IntKind.u64.wrap (List.getD d ((n - (1 : Nat)) - k) 0))))), (((0 : Int) ≤ (IntKind.u64.wrap (List.getD d ((n - (1 : Nat)) - k) 0))) ∧ ((IntKind.u64.wrap (List.getD d ((n - (1 : Nat)) - k) 0)) < (18446744073709551616 : Int))), (((n - (1 : Nat)) - k) < nm), (((0 : Int) ≤ ((((n - (1 : Nat)) - k) : Nat) : Int)) ∧ (((((n - (1 : Nat)) - k) : Nat) : Int) < ((n : Nat) : Int))), ((decide ((List.getD d ((n - (1 : Nat)) - k) 0) < (0 : Int))) = false), (((n - (1 : Nat)) - k) < nm), (((0 : Int) ≤ ((((n - (1 : Nat)) - k) : Nat) : Int)) ∧ (((((n - (1 : Nat)) - k) : Nat) : Int) < ((n : Nat) : Int))), ((.o (.a (.i .i64 ((((n : Nat) : Int) - 1) - ((k : Nat) : Int)))) : AV) = .o (.a (.i .i64 ((((n - (1 : Nat)) - k) : Nat) : Int)))), ((Byt (B32 (bkS d n x k))) ∧ (Byt ([x, 0, 0, 0, 0, 0, 0, 0, 0, 0, 0, 0, 0, 0, 0, 0, 0, 0, 0, 0, 0, 0, 0, 0, 0, 0, 0, 0, 0, 0, 0, 0] : List Int))), ((decide (((((n : Nat) : Int) - 1) - ((k : Nat) : Int)) ≥ (0 : Int))) = true)]) (by kernel_rfl)
    (AllP_cons ⟨(byt_B32 _), (byt_B32 _)⟩ (AllP_cons ⟨(wrap_nn rfl), (by have q := dsm_get h2 (n - 1 - k); first | omega | (simp (disch := omega) only [wrapI]; omega) | exact wrap_nn rfl | (rw [wrap64]; omega))⟩ (AllP_cons (by have q := dsm_get h2 (n - 1 - k); first | omega | (simp (disch := omega) only [wrapI]; omega) | exact wrap_nn rfl | (rw [wrap64]; omega)) (AllP_cons ⟨(by have q := dsm_get h2 (n - 1 - k); first | omega | (simp (disch := omega) only [wrapI]; omega) | exact wrap_nn rfl | (rw [wrap64]; omega)), (by have q := dsm_get h2 (n - 1 - k); first | omega | (simp (disch := omega) only [wrapI]; omega) | exact wrap_nn rfl | (rw [wrap64]; omega))⟩ (AllP_cons (decide_eq_false ha) (AllP_cons (by have q := dsm_get h2 (n - 1 - k); first | omega | (simp (disch := omega) only [wrapI]; omega) | exact wrap_nn rfl | (rw [wrap64]; omega)) (AllP_cons ⟨(by have q := dsm_get h2 (n - 1 - k); first | omega | (simp (disch := omega) only [wrapI]; omega) | exact wrap_nn rfl | (rw [wrap64]; omega)), (by have q := dsm_get h2 (n - 1 - k); first | omega | (simp (disch := omega) only [wrapI]; omega) | exact wrap_nn rfl | (rw [wrap64]; omega))⟩ (AllP_cons ((congrArg (fun z => AV.o (.a (.i .i64 z))) (by omega))) (AllP_cons ⟨(byt_B32 _), (byt_rad (by omega))⟩ (AllP_cons (decide_eq_true (by have q := dsm_get h2 (n - 1 - k); first | omega | (simp (disch := omega) only [wrapI]; omega) | exact wrap_nn rfl | (rw [wrap64]; omega))) (AllP_nil)))))))))))
  rw [e0, e1] at h
  exact h

theorem bkL_round (n : Nat) (nm : Nat) (d : List Int) (x : Int) (cap0 : Nat) (h0 : (nm = n)) (h1 : (n < (1099511627776 : Nat))) (h2 : (Dsm d)) (h3 : ((0 : Int) ≤ x)) (h4 : (x < (256 : Int))) (hc0 : n ≤ cap0) (hl0_0 : List.length d = nm) (w : World) (β : Env) (k : Nat) (hk : k < n) (s : Unit) : Run Try.prog ⟨w, [], 1, β⟩ (loopB Try.f64 0) (bkL_mk n nm d x cap0 k s) (To ⟨w, [], 1, β⟩ .normal (bkL_mk n nm d x cap0 (k + 1) (bkL_step k s))) := by
  by_cases ha : List.getD d (n - 1 - k) 0 < 0
  · exact bkL_round_0 n nm d x cap0 h0 h1 h2 h3 h4 hc0 hl0_0 w β k hk s ha
  · exact bkL_round_1 n nm d x cap0 h0 h1 h2 h3 h4 hc0 hl0_0 w β k hk s ha

set_option maxHeartbeats 1000000 in
theorem bkL_last (n : Nat) (nm : Nat) (d : List Int) (x : Int) (cap0 : Nat) (h0 : (nm = n)) (h1 : (n < (1099511627776 : Nat))) (h2 : (Dsm d)) (h3 : ((0 : Int) ≤ x)) (h4 : (x < (256 : Int))) (hc0 : n ≤ cap0) (hl0_0 : List.length d = nm) (w : World) (β : Env) (s : Unit) : Run Try.prog ⟨w, [], 1, β⟩ (loopB Try.f64 0) (bkL_mk n nm d x cap0 n s) (To ⟨w, [], 1, β⟩ (.exit 0) (bkL_mk n nm d x cap0 n s)) :=
  Run.of_outT (B := ⟨w, [], 1, β⟩) (Λ := noLam) (Ψ := noPsi) (fuel := 0) (ora := [false]) (l := [.forget [0, 1, 4, 5, 6, 7, 8, 9, 10] 3]) mix tabOkRQ gam72_ok
    (vc := [((decide (((((n : Nat) : Int) - 1) - ((n : Nat) : Int)) ≥ (0 : Int))) = false)]) (by kernel_rfl)
    (AllP_cons (decide_eq_false (by omega)) (AllP_nil))

theorem bkL_loop (n : Nat) (nm : Nat) (d : List Int) (x : Int) (cap0 : Nat) (h0 : (nm = n)) (h1 : (n < (1099511627776 : Nat))) (h2 : (Dsm d)) (h3 : ((0 : Int) ≤ x)) (h4 : (x < (256 : Int))) (hc0 : n ≤ cap0) (hl0_0 : List.length d = nm) (w : World) (β : Env) (s : Unit) : Run Try.prog ⟨w, [], 1, β⟩ (.block 0 (.loop (loopB Try.f64 0))) (bkL_mk n nm d x cap0 0 s) (To ⟨w, [], 1, β⟩ .normal (bkL_mk n nm d x cap0 n (iter (bkL_step) n s))) :=
  Run.count (fun k => bkL_mk n nm d x cap0 k (iter (bkL_step) k s)) n (fun k hk => bkL_round n nm d x cap0 h0 h1 h2 h3 h4 hc0 hl0_0 w β k hk _) (ex := (.exit 0)) (by simp) (bkL_last n nm d x cap0 h0 h1 h2 h3 h4 hc0 hl0_0 w β _)

def back (n : Nat) (d : List Int) (x : Int) : List Int :=
  (B32 (bkS d n x n))

set_option maxHeartbeats 1000000 in
theorem back_body0 (n : Nat) (nm : Nat) (d : List Int) (x : Int) (cap0 : Nat) (h0 : (nm = n)) (h1 : (n < (1099511627776 : Nat))) (h2 : (Dsm d)) (h3 : ((0 : Int) ≤ x)) (h4 : (x < (256 : Int))) (hc0 : n ≤ cap0) (hl0_0 : List.length d = nm) (w : World) (β : Env) : Body Try.prog (tabOf tabRQ) Try.f64 ⟨w, [], 1, β⟩ [.o (.a (.sl 0 (0 : Nat) n cap0)), .o (.a (.i .u8 x))] [some ⟨false, [.ints .i64 nm d]⟩] (fun ys _ => ys = [.g [.ints .u8 (32 : Nat) (back n d x)]]) :=
  Body.of_fin (Γ := gam72) (Λ := lamOf [(0, ⟨[.eqS 6 (.o (.a (.i .i64 ((((n : Nat) : Int) - 1) - (((0 : Nat) : Nat) : Int))))), .eqB 2 (⟨true, [.ints .u8 (32 : Nat) (B32 (bkS d n x (0 : Nat)))]⟩), .forget [0, 1, 4, 5, 6, 7, 8, 9, 10] 3], .normal, (bkL_mk n nm d x cap0 n (iter (bkL_step) n ()))⟩)]) (Ψ := noPsi) (fuel := 0) (m := 42) (c := (Try.f64.body.getD .skip)) mix tabOkRQ gam72_ok rfl (rs := [.cell 4 24]) rfl rfl [] []
    (vc := [(Run Try.prog ⟨w, [], 1, β⟩ (.block 0 (.loop (loopB Try.f64 0))) (bkL_mk n nm d x cap0 0 ()) (To ⟨w, [], 1, β⟩ .normal (bkL_mk n nm d x cap0 n (iter (bkL_step) n ())))), ((some ⟨true, [.ints .u8 (32 : Nat) ([0, 0, 0, 0, 0, 0, 0, 0, 0, 0, 0, 0, 0, 0, 0, 0, 0, 0, 0, 0, 0, 0, 0, 0, 0, 0, 0, 0, 0, 0, 0, 0] : List Int)]⟩ : Option Blk) = some ⟨true, [.ints .u8 (32 : Nat) (B32 (bkS d n x (0 : Nat)))]⟩), ((.o (.a (.i .i64 (IntKind.i64.wrap (((n : Nat) : Int) - (1 : Int))))) : AV) = .o (.a (.i .i64 ((((n : Nat) : Int) - 1) - (((0 : Nat) : Nat) : Int)))))]) (by kernel_rfl)
    (AllP_cons (bkL_loop n nm d x cap0 h0 h1 h2 h3 h4 hc0 hl0_0 w β ()) (AllP_cons ((by rfl)) (AllP_cons ((congrArg (fun z => AV.o (.a (.i .i64 z))) (by simp (disch := omega) only [wrapI]; omega))) (AllP_nil))))

theorem back_body (n : Nat) (nm : Nat) (d : List Int) (x : Int) (cap0 : Nat) (h0 : (nm = n)) (h1 : (n < (1099511627776 : Nat))) (h2 : (Dsm d)) (h3 : ((0 : Int) ≤ x)) (h4 : (x < (256 : Int))) (w : World) (β : Env) : Body Try.prog (tabOf tabRQ) Try.f64 ⟨w, [], 1, β⟩ [.o (.a (.sl 0 (0 : Nat) n cap0)), .o (.a (.i .u8 x))] [some ⟨false, [.ints .i64 nm d]⟩] (fun ys _ => ys = [.g [.ints .u8 (32 : Nat) (back n d x)]]) :=
  Body.lens (c := (Try.f64.body.getD .skip)) rfl fun h => back_body0 n nm d x cap0 h0 h1 h2 h3 h4 (h.caps 0 _ _ _ _ rfl) (h.lens 0 _ .i64 nm d rfl (by simp)) w β

end Go.Proofs.Ytcpoldghkiiggaa.X

/- Digits come back: what the law asks. -/
namespace Go.Proofs.Ytcpoldghkiiggaa.X
open Go Go.Proofs
set_option linter.unusedVariables false
set_option linter.unusedSimpArgs false
set_option maxRecDepth 100000

theorem lnR_get (f : Nat → Int) {n k : Nat} (h : k < n) : List.getD (lnR f n) k 0 = f k := by
  unfold lnR
  rw [List.getD_eq_getElem?_getD, List.getElem?_map, List.getElem?_range h]; rfl
theorem mem_lnR {f : Nat → Int} {n : Nat} {x : Int} (h : x ∈ lnR f n) : ∃ k, k < n ∧ x = f k := by
  unfold lnR at h
  obtain ⟨k, hk, e⟩ := List.mem_map.1 h
  exact ⟨k, List.mem_range.1 hk, e.symm⟩
theorem dcR_at (s : List Int) {k : Nat} (h : k < 64) : List.getD (dcR s 64) k 0 = dcD s k := lnR_get _ h
theorem nfR_at (w : Int) (a : List Int) {k : Nat} (h : k < 256) : List.getD (nfR w a 256) k 0 = nfF w a k := lnR_get _ h
theorem low_z (a : List Int) : B32 (modL (BV a + BV [0, 0, 0, 0, 0, 0, 0, 0, 0, 0, 0, 0, 0, 0, 0, 0, 0, 0, 0, 0, 0, 0, 0, 0, 0, 0, 0, 0, 0, 0, 0, 0])) = B32 (modL (BV a)) := by rw [BV_zero, Int.add_zero]
theorem low_LL (a : List Int) : BV (B32 (modL (BV a))) < LL := by rw [BV_modL]; exact (modL_b _).2
theorem dsm_dc (a : List Int) : Dsm (dcR (B32 (modL (BV a))) 64) := by
  intro x hx
  obtain ⟨k, hk, rfl⟩ := mem_lnR hx
  by_cases h : k < 63
  · have := dc_rng (s := B32 (modL (BV a))) k h; omega
  · have : k = 63 := by omega
    subst this
    have := dc_top (byt_B32 _) (low_LL a); omega
theorem dsm_nf {w : Int} (h0 : 2 ≤ w) (h1 : w ≤ 8) (a : List Int) : Dsm (nfR w a 256) := by
  intro x hx
  obtain ⟨k, hk, rfl⟩ := mem_lnR hx
  have := nafD_rng h0 h1 (nfV_rng h0 h1 a k).1
  unfold nfF; omega
theorem len_dcR (s : List Int) : (dcR s 64).length = 64 := lnR_len _ _
theorem len_nfR (w : Int) (a : List Int) : (nfR w a 256).length = 256 := lnR_len _ _
theorem bk_dc (a : List Int) : B32 (bkS (sub (dcR (B32 (modL (BV a))) 64) 0 64) 64 16 64) = B32 (modL (BV a)) := by
  rw [sub_all _ _ (Nat.le_of_eq (len_dcR _)), bkS_fin (len_dcR _), dc_back (byt_B32 _) rfl, BV_modL, modL_modL]
theorem bk_nf {w : Int} (h0 : 2 ≤ w) (h1 : w ≤ 8) (a : List Int) : B32 (bkS (sub (nfR w a 256) 0 256) 256 2 256) = B32 (modL (BV a)) := by
  rw [sub_all _ _ (Nat.le_of_eq (len_nfR _ _)), bkS_fin (len_nfR _ _), nf_back h0 h1, modL_modL]
theorem bit_maskI {x : Int} {n : Nat} (hn : n ≤ 62) : bits2 .and .i64 x (((2 ^ n - 1 : Nat)) : Int) = x % ((2 ^ n : Nat) : Int) := by
  have hp : 2 ^ n ≤ 2 ^ 62 := Nat.pow_le_pow_right (by omega) hn
  have hp0 : 0 < 2 ^ n := Nat.pow_pos (by omega)
  have e : bits2 .and .i64 x (((2 ^ n - 1 : Nat)) : Int) = IntKind.i64.wrap (((BitVec.ofInt 64 x &&& BitVec.ofInt 64 (((2 ^ n - 1 : Nat)) : Int)).toNat : Nat) : Int) := rfl
  have t2 : (BitVec.ofInt 64 (((2 ^ n - 1 : Nat)) : Int)).toNat = 2 ^ n - 1 := by
    rw [BitVec.toNat_ofInt]
    show ((((2 ^ n - 1 : Nat)) : Int) % 18446744073709551616).toNat = _
    have : (2 : Nat) ^ 62 = 4611686018427387904 := by decide
    omega
  have hd : (2 : Nat) ^ n ∣ 18446744073709551616 := ⟨2 ^ (64 - n), by rw [← Nat.pow_add, show n + (64 - n) = 64 by omega]⟩
  have h63 : (2 : Nat) ^ 62 = 4611686018427387904 := by decide
  have hlt : (x % 18446744073709551616).toNat % 2 ^ n < 2 ^ n := Nat.mod_lt _ hp0
  rw [e, BitVec.toNat_and, t2, Nat.and_two_pow_sub_one_eq_mod, BitVec.toNat_ofInt]
  show IntKind.i64.wrap (((x % 18446744073709551616).toNat % 2 ^ n : Nat) : Int) = _
  rw [wrapI (by omega) (by omega), Int.natCast_emod, Int.toNat_of_nonneg (by omega)]
  exact Int.emod_emod_of_dvd x (Int.ofNat_dvd.2 hd)
theorem andI1 (x : Int) : bits2 .and .i64 x 1 = x % 2 := bit_maskI (n := 1) (by omega)
theorem andI7 (x : Int) : bits2 .and .i64 x 7 = x % 8 := bit_maskI (n := 3) (by omega)
/-- the width that the law asks for -/
def wD (v : Int) : Int := if v % 8 = 7 then 8 else 2 + v % 8
theorem wD_rng (v : Int) : 2 ≤ wD v ∧ wD v ≤ 8 := by
  unfold wD
  by_cases h : v % 8 = 7
  · rw [if_pos h]; omega
  · rw [if_neg h]; omega
theorem wD_a {v : Int} (h : v % 8 < 7) : IntKind.i64.wrap (2 + bits2 .and .i64 v 7) = wD v := by
  unfold wD
  rw [if_neg (by omega), andI7, wrapI (by omega) (by omega)]
theorem wD_b {v : Int} (h : v % 8 = 7) : (8 : Int) = wD v := by unfold wD; rw [if_pos h]
theorem wD_g {v : Int} (h : v % 8 = 7) : IntKind.i64.wrap (2 + bits2 .and .i64 v 7) > 8 := by
  rw [andI7, wrapI (by omega) (by omega)]; omega
theorem nf_even {w : Int} (h0 : 2 ≤ w) (h1 : w ≤ 8) {a : List Int} {k : Nat} (ha : ¬ nfF w a k = 0) : nfF w a k % 2 = 1 ∧ -pw2 (w - 1) < nfF w a k ∧ nfF w a k < pw2 (w - 1) := by
  have ho : nfV w a k % 2 = 1 := Classical.byContradiction fun h => ha ((nfF_nz h0 h1).2 h)
  have := nfD_rng h0 h1 ho
  exact ⟨this.2.2, this.1, this.2.1⟩
theorem nf_p1 {w : Int} (h0 : 2 ≤ w) (h1 : w ≤ 8) {a : List Int} {k : Nat} (ha : ¬ nfF w a k = 0) (hk : k < 256) : (bits2 .and .i64 (List.getD (nfR w a 256) k 0) 1 == 0) = false := by
  rw [nfR_at w a hk, andI1, (nf_even h0 h1 ha).1]; rfl
theorem nf_p2 {w : Int} (h0 : 2 ≤ w) (h1 : w ≤ 8) {a : List Int} {k : Nat} (ha : ¬ nfF w a k = 0) (hk : k < 256) : ¬ List.getD (nfR w a 256) k 0 ≥ shl .i64 1 (IntKind.u64.wrap (IntKind.i64.wrap (w - 1))) := by
  rw [nfR_at w a hk, shl_u1 h0 h1]
  have := nf_even h0 h1 ha; omega
theorem nf_p3 {w : Int} (h0 : 2 ≤ w) (h1 : w ≤ 8) {a : List Int} {k : Nat} (ha : ¬ nfF w a k = 0) (hk : k < 256) : ¬ List.getD (nfR w a 256) k 0 ≤ IntKind.i64.wrap (0 - shl .i64 1 (IntKind.u64.wrap (IntKind.i64.wrap (w - 1)))) := by
  have p := pw2_rng h0 h1
  rw [nfR_at w a hk, shl_u1 h0 h1, wrapI (by omega) (by omega)]
  have := nf_even h0 h1 ha; omega
theorem ls_rng {w : Int} (h0 : 2 ≤ w) (h1 : w ≤ 8) (a : List Int) : ∀ k : Nat, -8 ≤ lsS w a k ∧ lsS w a k < k
  | 0 => by show -8 ≤ -w ∧ -w < ((0 : Nat) : Int); omega
  | k + 1 => by
    have ih := ls_rng h0 h1 a k
    by_cases ha : nfF w a k = 0
    · have e : lsS w a (k + 1) = lsS w a k := if_pos ha
      rw [e]; omega
    · have e : lsS w a (k + 1) = k := if_neg ha
      rw [e]; omega
theorem nf_p4 {w : Int} (h0 : 2 ≤ w) (h1 : w ≤ 8) {a : List Int} {k : Nat} (ha : ¬ nfF w a k = 0) (hk : k < 256) : ¬ IntKind.i64.wrap ((k : Int) - lsS w a k) < w := by
  have r := ls_rng h0 h1 a k
  have := gap_odd h0 h1 ha
  rw [wrapI (by omega) (by omega)]; omega
theorem cn_bnd (w : Int) (a : List Int) : ∀ k, 0 ≤ cnS w a k ∧ cnS w a k ≤ k
  | 0 => by show (0 : Int) ≤ 0 ∧ (0 : Int) ≤ ((0 : Nat) : Int); omega
  | k + 1 => by
    have ih := cn_bnd w a k
    by_cases ha : nfF w a k = 0
    · have e : cnS w a (k + 1) = cnS w a k := if_pos ha
      rw [e]; omega
    · have e : cnS w a (k + 1) = cnS w a k + 1 := if_neg ha
      rw [e]; omega
theorem cn_step {w : Int} {a : List Int} {k : Nat} (ha : ¬ nfF w a k = 0) (hk : k < 256) : IntKind.i64.wrap (cnS w a k + 1) = cnS w a (k + 1) := by
  have r := cn_bnd w a k
  have e : cnS w a (k + 1) = cnS w a k + 1 := if_neg ha
  rw [e, wrapI (by omega) (by omega)]
theorem ls_step {w : Int} {a : List Int} {k : Nat} (ha : ¬ nfF w a k = 0) : (k : Int) = lsS w a (k + 1) := (if_neg ha).symm
theorem ls_z {w : Int} {a : List Int} {k : Nat} (ha : nfF w a k = 0) : lsS w a k = lsS w a (k + 1) := (if_pos ha).symm
theorem cn_z {w : Int} {a : List Int} {k : Nat} (ha : nfF w a k = 0) : cnS w a k = cnS w a (k + 1) := (if_pos ha).symm
theorem cn_f {w : Int} (h0 : 2 ≤ w) (h1 : w ≤ 8) (a : List Int) : cnS w a 256 ≤ IntKind.i64.wrap (IntKind.i64.wrap (Int.tdiv 256 w) + 1) := by
  have q := (cn_few h0 h1 a).2
  rcases w_cases h0 h1 with rfl | rfl | rfl | rfl | rfl | rfl | rfl <;> exact q
theorem cn_o {w : Int} (h0 : 2 ≤ w) (h1 : w ≤ 8) (a : List Int) : cnS w a 256 ≤ onS (B32 (modL (BV a))) 256 := by
  rw [on_all (byt_B32 _) rfl, BV_modL]
  exact cn_ones h0 h1 a
theorem qt8k {k : Nat} (h : k < 256) : IntKind.i64.wrap (Int.tdiv ((k : Nat) : Int) (8 : Int)) = ((k / 8 : Nat) : Int) ∧ IntKind.u64.wrap (Int.tmod ((k : Nat) : Int) (8 : Int)) = ((k % 8 : Nat) : Int) := by
  rw [Int.tdiv_eq_ediv_of_nonneg (by omega), Int.tmod_eq_emod_of_nonneg (by omega), wrapI (by omega) (by omega), wrap64]
  omega
theorem on_stp {l : List Int} (h : Byt l) (hl : l.length = 32) {k : Nat} (hk : k < 256) : IntKind.i64.wrap (onS l k + IntKind.i64.wrap (bits2 .and .u8 (shr .u8 (List.getD l (Int.toNat (IntKind.i64.wrap (Int.tdiv ((k : Nat) : Int) (8 : Int)))) 0) (IntKind.u64.wrap (Int.tmod ((k : Nat) : Int) (8 : Int)))) 1)) = onS l (k + 1) := by
  have q := qt8k hk
  have r := on_bnd l k
  rw [q.1, q.2, Int.toNat_natCast, byt_bit h (by omega) (by omega), show 8 * (k / 8) + k % 8 = k by omega]
  show _ = onS l k + _
  rw [wrapI (x := ((nb l / 2 ^ k % 2 : Nat) : Int)) (by omega) (by omega), wrapI (by omega) (by omega)]
end Go.Proofs.Ytcpoldghkiiggaa.X

/- Printed by a tool of this session. -/
namespace Go.Proofs.Ytcpoldghkiiggaa.X
open Go Go.Proofs
set_option linter.unusedVariables false
set_option linter.unusedSimpArgs false
set_option maxRecDepth 100000
def gam79 : Gam := gcall 62 [] [.w] (fun wk vs args => match wk, vs, args with | [], [], [.o (.g [.ints .u8 (32 : Nat) a])] => some ((Byt a), [.a (.sl 2 (0 : Nat) (64 : Nat) (64 : Nat))], [some ⟨true, [.ints .u8 (32 : Nat) a]⟩, some ⟨true, [.ints .u8 (32 : Nat) (digP a)]⟩, some ⟨true, [.ints .i64 (64 : Nat) (digP_1 a)]⟩]) | _, _, _ => none) gam72
theorem gam79_ok : GamOk Try.prog gam79 := gcall_ok tabOkRJ Try.func62 gam72_ok Try.call62 (by
  intro wk vs args p xs K1 h hv
  split at h
  · simp only [Option.some.injEq, Prod.mk.injEq] at h; obtain ⟨rfl, rfl, rfl⟩ := h; have g0 := hv; exact fun caps w rw β => digP_body _ g0 w rw β
  · simp at h)

def gam80 : Gam := gcall 59 [] [.w, .w] (fun wk vs args => match wk, vs, args with | [], [], [.o (.g [.ints .u8 (32 : Nat) a]), .o (.a (.i .i64 v))] => some ((Byt a) ∧ ((2 : Int) ≤ v) ∧ (v ≤ (8 : Int)), [.a (.sl 2 (0 : Nat) (256 : Nat) (256 : Nat)), .a (.i .i64 (0 : Int))], [some ⟨true, [.ints .u8 (32 : Nat) a]⟩, some ⟨true, [.ints .u64 (4 : Nat) (nafP a v)]⟩, some ⟨true, [.ints .i64 (256 : Nat) (nafP_1 a v)]⟩]) | _, _, _ => none) gam79
theorem gam80_ok : GamOk Try.prog gam80 := gcall_ok tabOkRK Try.func59 gam79_ok Try.call59 (by
  intro wk vs args p xs K1 h hv
  split at h
  · simp only [Option.some.injEq, Prod.mk.injEq] at h; obtain ⟨rfl, rfl, rfl⟩ := h; obtain ⟨g0, g1, g2⟩ := hv; exact fun caps w rw β => nafP_body _ _ g0 g1 g2 w rw β
  · simp at h)

def gam81 : Gam := greadV 64 [.s 1, .v] (fun vs args => match vs, args with | [⟨_, _, _, [.ints .i64 nm d]⟩], [a0, .o (.a (.i .u8 x))] => some ((nm = (lenOfA a0)) ∧ ((lenOfA a0) < (1099511627776 : Nat)) ∧ (Dsm d) ∧ ((0 : Int) ≤ x) ∧ (x < (256 : Int)), [.g [.ints .u8 (32 : Nat) (back (lenOfA a0) d x)]]) | _, _ => none) gam80
theorem gam81_ok : GamOk Try.prog gam81 := greadV_ok tabOkRQ Try.func64 gam80_ok Try.call64 (by
  intro vs args p xs h hv
  split at h
  · simp only [Option.some.injEq, Prod.mk.injEq] at h; obtain ⟨rfl, rfl⟩ := h; exact ⟨by rfl, fun caps w β => back_body _ _ _ _ _ hv.1 hv.2.1 hv.2.2.1 hv.2.2.2.1 hv.2.2.2.2 w β⟩
  · simp at h)

end Go.Proofs.Ytcpoldghkiiggaa.X

