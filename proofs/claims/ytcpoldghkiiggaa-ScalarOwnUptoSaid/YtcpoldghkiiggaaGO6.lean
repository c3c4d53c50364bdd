/- Texts of this session, put together (part 6), less what nothing uses. -/
import Derived.Test.YtcpoldghkiiggaaGO5
import Derived.KernelRfl
import Derived.Test.YtcpoldghkiiggaaRows
/- The form of digits that stand apart: numbers. -/
namespace Go.Proofs.Ytcpoldghkiiggaa.X
open Go Go.Proofs
set_option linter.unusedVariables false
set_option linter.unusedSimpArgs false
set_option maxRecDepth 100000
set_option maxHeartbeats 8000000

def pw2 (w : Int) : Int := 2 ^ w.toNat
def nafX (w v : Int) : Int := v % pw2 w
def nafD (w v : Int) : Int := if v % 2 = 1 then (if nafX w v ≥ pw2 (w - 1) then nafX w v - pw2 w else nafX w v) else 0
def nfV (w : Int) (a : List Int) : Nat → Int
 | 0 => modL (BV a)
 | k + 1 => (nfV w a k - nafD w (nfV w a k)) / 2
def nfF (w : Int) (a : List Int) (k : Nat) : Int := nafD w (nfV w a k)

theorem w_cases {w : Int} (h0 : 2 ≤ w) (h1 : w ≤ 8) : w = 2 ∨ w = 3 ∨ w = 4 ∨ w = 5 ∨ w = 6 ∨ w = 7 ∨ w = 8 := by omega
theorem pw2_rng {w : Int} (h0 : 2 ≤ w) (h1 : w ≤ 8) : 4 ≤ pw2 w ∧ pw2 w ≤ 256 ∧ pw2 w = 2 * pw2 (w - 1) := by
 rcases w_cases h0 h1 with rfl | rfl | rfl | rfl | rfl | rfl | rfl <;> decide
theorem bit_mask {x : Int} {n : Nat} (hn : n ≤ 63) : bits2 .and .u64 x (((2 ^ n - 1 : Nat)) : Int) = x % ((2 ^ n : Nat) : Int) := by
 have hp : 2 ^ n ≤ 2 ^ 63 := Nat.pow_le_pow_right (by omega) hn
 have hp0 : 0 < 2 ^ n := Nat.pow_pos (by omega)
 have e : bits2 .and .u64 x (((2 ^ n - 1 : Nat)) : Int) = IntKind.u64.wrap (((BitVec.ofInt 64 x &&& BitVec.ofInt 64 (((2 ^ n - 1 : Nat)) : Int)).toNat : Nat) : Int) := rfl
 have t2 : (BitVec.ofInt 64 (((2 ^ n - 1 : Nat)) : Int)).toNat = 2 ^ n - 1 := by
  rw [BitVec.toNat_ofInt]
  show ((((2 ^ n - 1 : Nat)) : Int) % 18446744073709551616).toNat = _
  have : 2 ^ 63 = 9223372036854775808 := by decide
  omega
 rw [e, BitVec.toNat_and, t2, Nat.and_two_pow_sub_one_eq_mod, BitVec.toNat_ofInt, wrap64]
 show (((x % 18446744073709551616).toNat % 2 ^ n : Nat) : Int) % 18446744073709551616 = _
 have hd : 2 ^ n ∣ 18446744073709551616 := ⟨2 ^ (64 - n), by rw [← Nat.pow_add, show n + (64 - n) = 64 by omega]⟩
 have h63 : 2 ^ 63 = 9223372036854775808 := by decide
 have hlt : (x % 18446744073709551616).toNat % 2 ^ n < 2 ^ n := Nat.mod_lt _ hp0
 rw [Int.emod_eq_of_lt (by omega) (by omega), Int.natCast_emod, Int.toNat_of_nonneg (by omega)]
 exact Int.emod_emod_of_dvd x (Int.ofNat_dvd.2 hd)
theorem W4_0at (v : Int) : List.getD (W4 v) 0 0 = v % 18446744073709551616 := rfl
theorem W4_odd (v : Int) : bits2 .and .u64 (List.getD (W4 v) 0 0) 1 = v % 2 := by
 rw [bit_and64, W4_0at]; omega
theorem mod_pw {v : Int} {w : Int} (h0 : 2 ≤ w) (h1 : w ≤ 8) : v % 18446744073709551616 % pw2 w = v % pw2 w := by
 rcases w_cases h0 h1 with rfl | rfl | rfl | rfl | rfl | rfl | rfl
 ·show v % 18446744073709551616 % 4 = v % 4; omega
 ·show v % 18446744073709551616 % 8 = v % 8; omega
 ·show v % 18446744073709551616 % 16 = v % 16; omega
 ·show v % 18446744073709551616 % 32 = v % 32; omega
 ·show v % 18446744073709551616 % 64 = v % 64; omega
 ·show v % 18446744073709551616 % 128 = v % 128; omega
 ·show v % 18446744073709551616 % 256 = v % 256; omega
theorem mask_w {x w : Int} (h0 : 2 ≤ w) (h1 : w ≤ 8) : bits2 .and .u64 x (IntKind.u64.wrap (shl .u64 1 w - 1)) = x % pw2 w := by
 rcases w_cases h0 h1 with rfl | rfl | rfl | rfl | rfl | rfl | rfl
 ·exact bit_mask (n := 2) (by omega)
 ·exact bit_mask (n := 3) (by omega)
 ·exact bit_mask (n := 4) (by omega)
 ·exact bit_mask (n := 5) (by omega)
 ·exact bit_mask (n := 6) (by omega)
 ·exact bit_mask (n := 7) (by omega)
 ·exact bit_mask (n := 8) (by omega)
theorem nafX_rng {w : Int} (h0 : 2 ≤ w) (h1 : w ≤ 8) (v : Int) : 0 ≤ nafX w v ∧ nafX w v < pw2 w := by
 have := (pw2_rng h0 h1).1
 unfold nafX
 exact ⟨Int.emod_nonneg _ (by omega), Int.emod_lt_of_pos _ (by omega)⟩
theorem naf_x {w : Int} (h0 : 2 ≤ w) (h1 : w ≤ 8) (v : Int) : IntKind.i64.wrap (bits2 .and .u64 (List.getD (W4 v) 0 0) (IntKind.u64.wrap (shl .u64 1 w - 1))) = nafX w v := by
 have r := nafX_rng h0 h1 v
 have p := pw2_rng h0 h1
 rw [mask_w h0 h1, W4_0at, mod_pw h0 h1]
 exact wrapI (by unfold nafX at r; omega) (by unfold nafX at r; omega)
theorem shl_w1 {w : Int} (h0 : 2 ≤ w) (h1 : w ≤ 8) : shl .i64 1 (IntKind.i64.wrap (w - 1)) = pw2 (w - 1) := by
 rcases w_cases h0 h1 with rfl | rfl | rfl | rfl | rfl | rfl | rfl <;> decide
theorem shl_w {w : Int} (h0 : 2 ≤ w) (h1 : w ≤ 8) : shl .i64 1 w = pw2 w := by
 rcases w_cases h0 h1 with rfl | rfl | rfl | rfl | rfl | rfl | rfl <;> decide
theorem odd_X {w : Int} (h0 : 2 ≤ w) (h1 : w ≤ 8) {v : Int} (h : v % 2 = 1) : 0 < nafX w v := by
 unfold nafX
 rcases w_cases h0 h1 with rfl | rfl | rfl | rfl | rfl | rfl | rfl
 ·show 0 < v % 4; omega
 ·show 0 < v % 8; omega
 ·show 0 < v % 16; omega
 ·show 0 < v % 32; omega
 ·show 0 < v % 64; omega
 ·show 0 < v % 128; omega
 ·show 0 < v % 256; omega
theorem nafD_e {w v : Int} (h : ¬ v % 2 = 1) : nafD w v = 0 := if_neg h
theorem nafD_s {w v : Int} (h : v % 2 = 1) (h2 : ¬ nafX w v ≥ pw2 (w - 1)) : nafD w v = nafX w v := by unfold nafD; rw [if_pos h, if_neg h2]
theorem nafD_b {w v : Int} (h : v % 2 = 1) (h2 : nafX w v ≥ pw2 (w - 1)) : nafD w v = nafX w v - pw2 w := by unfold nafD; rw [if_pos h, if_pos h2]
theorem nafX_le {w : Int} (h0 : 2 ≤ w) (h1 : w ≤ 8) {v : Int} (hv : 0 ≤ v) : nafX w v ≤ v := by
 have := (pw2_rng h0 h1).1
 unfold nafX
 have := Int.emod_add_mul_ediv v (pw2 w)
 have h3 : 0 ≤ pw2 w * (v / pw2 w) := Int.mul_nonneg (by omega) (Int.ediv_nonneg hv (by omega))
 omega
theorem nafD_rng {w : Int} (h0 : 2 ≤ w) (h1 : w ≤ 8) {v : Int} (hv : 0 ≤ v) : -128 ≤ nafD w v ∧ nafD w v ≤ 127 ∧ nafD w v ≤ v := by
 have p := pw2_rng h0 h1
 have r := nafX_rng h0 h1 v
 have l := nafX_le h0 h1 hv
 unfold nafD
 split
 ·split <;> omega
 ·omega
theorem nfV_rng {w : Int} (h0 : 2 ≤ w) (h1 : w ≤ 8) (a : List Int) : ∀ k, 0 ≤ nfV w a k ∧ nfV w a k < 14474011154664524427946373126085988481658748083205070504932198000989141204992
 | 0 => ⟨(modL_rng _).1, Int.lt_trans (modL_rng _).2.1 (by decide +kernel)⟩
 | k + 1 => by
  have ih := nfV_rng h0 h1 a k
  have d := nafD_rng h0 h1 ih.1
  show 0 ≤ (_ - _) / 2 ∧ (_ - _) / 2 < _
  omega
def nafW (w v : Int) : Int := v - nafD w v

/-! words -/
theorem or_shl63 {x y : Int} (hx : 0 ≤ x ∧ x < 9223372036854775808) (hy : 0 ≤ y ∧ y < 18446744073709551616) : bits2 .or .u64 x (shl .u64 y 63) = x + 9223372036854775808 * (y % 2) := by
 have e1 : shl .u64 y 63 = ((2 ^ 63 * (y % 2).toNat : Nat) : Int) := by
  have : shl .u64 y 63 = IntKind.u64.wrap (y * 9223372036854775808) := rfl
  rw [this, wrap64]
  have : 2 ^ 63 = 9223372036854775808 := by decide
  omega
 obtain ⟨n, rfl⟩ := Int.eq_ofNat_of_zero_le hx.1
 have hn : n < 2 ^ 63 := by
  have : 2 ^ 63 = 9223372036854775808 := by decide
  omega
 rw [e1]
 generalize hb : (y % 2).toNat = b
 have hb1 : b ≤ 1 := by omega
 have h63 : 2 ^ 63 = 9223372036854775808 := by decide
 have e : bits2 .or .u64 ((n : Nat) : Int) ((2 ^ 63 * b : Nat) : Int) = IntKind.u64.wrap (((BitVec.ofInt 64 ((n : Nat) : Int) ||| BitVec.ofInt 64 ((2 ^ 63 * b : Nat) : Int)).toNat : Nat) : Int) := rfl
 have t : ∀ m : Nat, m < 18446744073709551616 → (BitVec.ofInt 64 (m : Int)).toNat = m := by
  intro m hm
  rw [BitVec.toNat_ofInt]
  show ((m : Int) % 18446744073709551616).toNat = m
  omega
 rw [e, BitVec.toNat_or, t n (by omega), t (2 ^ 63 * b) (by omega), Nat.or_comm, ← Nat.two_pow_add_eq_or_of_lt hn, wrap64]
 omega
theorem shr_1 (x : Int) : shr .u64 x 1 = x / 2 := by
 have e : shr .u64 x 1 = x.fdiv 2 := rfl
 rw [e, Int.fdiv_eq_ediv_of_nonneg _ (by omega)]
theorem half4 {a b c d : Int} (ha : 0 ≤ a ∧ a < 18446744073709551616) (hb : 0 ≤ b ∧ b < 18446744073709551616) (hc : 0 ≤ c ∧ c < 18446744073709551616) (hd : 0 ≤ d ∧ d < 18446744073709551616) {v : Int} (hv : v = a + 18446744073709551616 * b + 340282366920938463463374607431768211456 * c + 6277101735386680763835789423207666416102355444464034512896 * d) :
  [bits2 .or .u64 (shr .u64 a 1) (shl .u64 b 63), bits2 .or .u64 (shr .u64 b 1) (shl .u64 c 63), bits2 .or .u64 (shr .u64 c 1) (shl .u64 d 63), shr .u64 d 1] = W4 (v / 2) := by
 rw [shr_1, shr_1, shr_1, shr_1, or_shl63 (by omega) hb, or_shl63 (by omega) hc, or_shl63 (by omega) hd]
 exact W4_eq (by omega) (by omega) (by omega) (by omega) (by omega)
theorem add4 {v e : Int} (hv : 0 ≤ v ∧ v < 14474011154664524427946373126085988481658748083205070504932198000989141204992) (he : 0 ≤ e ∧ e < 18446744073709551616) :
  [ad64s (v % 18446744073709551616) e 0, ad64s (v / 18446744073709551616 % 18446744073709551616) 0 (ad64c (v % 18446744073709551616) e 0), ad64s (v / 340282366920938463463374607431768211456 % 18446744073709551616) 0 (ad64c (v / 18446744073709551616 % 18446744073709551616) 0 (ad64c (v % 18446744073709551616) e 0)), ad64s (v / 6277101735386680763835789423207666416102355444464034512896 % 18446744073709551616) 0 (ad64c (v / 340282366920938463463374607431768211456 % 18446744073709551616) 0 (ad64c (v / 18446744073709551616 % 18446744073709551616) 0 (ad64c (v % 18446744073709551616) e 0)))] = W4 (v + e) := by
 have hV : v = v % 18446744073709551616 + 18446744073709551616 * (v / 18446744073709551616 % 18446744073709551616) + 340282366920938463463374607431768211456 * (v / 340282366920938463463374607431768211456 % 18446744073709551616) + 6277101735386680763835789423207666416102355444464034512896 * (v / 6277101735386680763835789423207666416102355444464034512896 % 18446744073709551616) := by omega
 have h0 : 0 ≤ v % 18446744073709551616 ∧ v % 18446744073709551616 < 18446744073709551616 := by omega
 have h1 : 0 ≤ v / 18446744073709551616 % 18446744073709551616 ∧ v / 18446744073709551616 % 18446744073709551616 < 18446744073709551616 := by omega
 have h2 : 0 ≤ v / 340282366920938463463374607431768211456 % 18446744073709551616 ∧ v / 340282366920938463463374607431768211456 % 18446744073709551616 < 18446744073709551616 := by omega
 have h3 : 0 ≤ v / 6277101735386680763835789423207666416102355444464034512896 % 18446744073709551616 ∧ v / 6277101735386680763835789423207666416102355444464034512896 % 18446744073709551616 < 18446744073709551616 := by omega
 generalize v % 18446744073709551616 = a at *
 generalize v / 18446744073709551616 % 18446744073709551616 = b at *
 generalize v / 340282366920938463463374607431768211456 % 18446744073709551616 = c at *
 generalize v / 6277101735386680763835789423207666416102355444464034512896 % 18446744073709551616 = d at *
 have e0 := ad64_eq h0.1 h0.2 he.1 he.2 (c := 0) (by omega)
 have e1 := ad64_eq h1.1 h1.2 (show (0 : Int) ≤ 0 by omega) (by omega) (c := ad64c a e 0) (by omega)
 have e2 := ad64_eq h2.1 h2.2 (show (0 : Int) ≤ 0 by omega) (by omega) (c := ad64c b 0 (ad64c a e 0)) (by omega)
 have e3 := ad64_eq h3.1 h3.2 (show (0 : Int) ≤ 0 by omega) (by omega) (c := ad64c c 0 (ad64c b 0 (ad64c a e 0))) (by omega)
 generalize ad64c d 0 (ad64c c 0 (ad64c b 0 (ad64c a e 0))) = c3 at *
 generalize ad64s d 0 (ad64c c 0 (ad64c b 0 (ad64c a e 0))) = s3 at *
 generalize ad64s c 0 (ad64c b 0 (ad64c a e 0)) = s2 at *
 generalize ad64c c 0 (ad64c b 0 (ad64c a e 0)) = c2 at *
 generalize ad64s b 0 (ad64c a e 0) = s1 at *
 generalize ad64c b 0 (ad64c a e 0) = c1 at *
 generalize ad64s a e 0 = s0 at *
 generalize ad64c a e 0 = c0 at *
 exact W4_eq (by omega) ⟨e0.2.1, e0.2.2.1⟩ ⟨e1.2.1, e1.2.2.1⟩ ⟨e2.2.1, e2.2.2.1⟩ ⟨e3.2.1, e3.2.2.1⟩
theorem dif4 {v e : Int} (hv : 0 ≤ v ∧ v < 14474011154664524427946373126085988481658748083205070504932198000989141204992) (he : 0 ≤ e ∧ e ≤ v) (he2 : e < 18446744073709551616) : difR (V4 (W4 v)) (V4 [e, 0, 0, 0]) = v - e := by
 have e1 : V4 [e, 0, 0, 0] = e := by
  show e + 18446744073709551616 * 0 + 340282366920938463463374607431768211456 * 0 + 6277101735386680763835789423207666416102355444464034512896 * 0 = e
  omega
 rw [V4_W4 hv.1 (by omega), e1]
 unfold difR; omega
end Go.Proofs.Ytcpoldghkiiggaa.X

/- The form of digits that stand apart: its rounds. -/
namespace Go.Proofs.Ytcpoldghkiiggaa.X
open Go Go.Proofs
set_option linter.unusedVariables false
set_option linter.unusedSimpArgs false
set_option maxRecDepth 100000
set_option maxHeartbeats 8000000

def wdx (u : Int) (i : Nat) : Int := List.getD (W4 u) i 0
theorem wdx_rng (u : Int) (i : Nat) : 0 ≤ wdx u i ∧ wdx u i < 18446744073709551616 := wds_get (wds_W4 u) i
theorem W4_wdx (u : Int) : W4 u = [wdx u 0, wdx u 1, wdx u 2, wdx u 3] := rfl
def nfO (w : Int) (a : List Int) (k : Nat) : List Int := lnO (nfF w a) 256 k
theorem nfO_0 (w : Int) (a : List Int) : nfO w a 0 = List.replicate 256 0 := lnO_0 _ _
theorem nfO_s {w : Int} {a : List Int} {k : Nat} (hk : k < 256) : List.set (nfO w a k) k (nafD w (nfV w a k)) = nfO w a (k + 1) := lnO_s _ hk
theorem nfO_z {w : Int} {a : List Int} {k : Nat} (hk : k < 256) (ha : ¬ nfV w a k % 2 = 1) : nfO w a k = nfO w a (k + 1) := (lnO_z hk (nafD_e ha)).symm
theorem naf_d {w v : Int} (h1 : 2 ≤ w) (h2 : w ≤ 8) (ha : v % 2 = 1) (hb : nafX w v ≥ pw2 (w - 1)) : IntKind.i64.wrap (nafX w v - shl .i64 1 w) = nafD w v := by
 have p := pw2_rng h1 h2
 have r := nafX_rng h1 h2 v
 rw [shl_w h1 h2, nafD_b ha hb]
 exact wrapI (by omega) (by omega)
theorem naf_w0 {w v : Int} (ha : ¬ v % 2 = 1) : W4 v = [wdx (nafW w v) 0, wdx (nafW w v) 1, wdx (nafW w v) 2, wdx (nafW w v) 3] := by
 unfold nafW
 rw [nafD_e ha, Int.sub_zero]; rfl
theorem naf_w1 {w v : Int} (h1 : 2 ≤ w) (h2 : w ≤ 8) (hv : 0 ≤ v ∧ v < 14474011154664524427946373126085988481658748083205070504932198000989141204992) (ha : v % 2 = 1) (hb : ¬ nafX w v ≥ pw2 (w - 1)) : W4 (difR (V4 (W4 v)) (V4 [IntKind.u64.wrap (nafX w v), 0, 0, 0])) = [wdx (nafW w v) 0, wdx (nafW w v) 1, wdx (nafW w v) 2, wdx (nafW w v) 3] := by
 have p := pw2_rng h1 h2
 have r := nafX_rng h1 h2 v
 have l := nafX_le h1 h2 hv.1
 rw [wrap64, Int.emod_eq_of_lt r.1 (by omega), dif4 hv ⟨r.1, l⟩ (by omega), ← nafD_s ha hb]; rfl
theorem naf_w2 {w v : Int} (h1 : 2 ≤ w) (h2 : w ≤ 8) (hv : 0 ≤ v ∧ v < 14474011154664524427946373126085988481658748083205070504932198000989141204992) (ha : v % 2 = 1) (hb : nafX w v ≥ pw2 (w - 1)) :
  [ad64s (wdx v 0) (IntKind.u64.wrap (IntKind.i64.wrap (0 - nafD w v))) 0, ad64s (wdx v 1) 0 (ad64c (wdx v 0) (IntKind.u64.wrap (IntKind.i64.wrap (0 - nafD w v))) 0), ad64s (wdx v 2) 0 (ad64c (wdx v 1) 0 (ad64c (wdx v 0) (IntKind.u64.wrap (IntKind.i64.wrap (0 - nafD w v))) 0)), ad64s (wdx v 3) 0 (ad64c (wdx v 2) 0 (ad64c (wdx v 1) 0 (ad64c (wdx v 0) (IntKind.u64.wrap (IntKind.i64.wrap (0 - nafD w v))) 0)))] = [wdx (nafW w v) 0, wdx (nafW w v) 1, wdx (nafW w v) 2, wdx (nafW w v) 3] := by
 have p := pw2_rng h1 h2
 have r := nafX_rng h1 h2 v
 have e : IntKind.u64.wrap (IntKind.i64.wrap (0 - nafD w v)) = 0 - nafD w v := by
  rw [nafD_b ha hb, wrapI (by omega) (by omega), wrap64]; omega
 rw [e]
 have q := add4 hv (e := 0 - nafD w v) (by rw [nafD_b ha hb]; omega)
 rw [← W4_wdx]
 have e2 : v + (0 - nafD w v) = nafW w v := by unfold nafW; omega
 rw [e2] at q
 exact q
theorem nafW_rng {w v : Int} (h1 : 2 ≤ w) (h2 : w ≤ 8) (hv : 0 ≤ v ∧ v < 14474011154664524427946373126085988481658748083205070504932198000989141204992) : 0 ≤ nafW w v ∧ nafW w v < 115792089237316195423570985008687907853269984665640564039457584007913129639936 := by
 have d := nafD_rng h1 h2 hv.1
 unfold nafW; omega
theorem naf_half {u : Int} (h : 0 ≤ u ∧ u < 115792089237316195423570985008687907853269984665640564039457584007913129639936) : [bits2 .or .u64 (shr .u64 (wdx u 0) 1) (shl .u64 (wdx u 1) 63), bits2 .or .u64 (shr .u64 (wdx u 1) 1) (shl .u64 (wdx u 2) 63), bits2 .or .u64 (shr .u64 (wdx u 2) 1) (shl .u64 (wdx u 3) 63), shr .u64 (wdx u 3) 1] = W4 (u / 2) := by
 refine half4 (wdx_rng u 0) (wdx_rng u 1) (wdx_rng u 2) (wdx_rng u 3) ?_
 have := V4_W4 h.1 h.2
 exact this.symm
theorem adc_nn (x y c : Int) (hx : 0 ≤ x) (hy : 0 ≤ y) (hc : 0 ≤ c) : 0 ≤ ad64c x y c := ad64c_nn hx hy hc
theorem adc_le {x y c : Int} (hx : x < 18446744073709551616) (hy : y < 18446744073709551616) (hc : c ≤ 1) : ad64c x y c ≤ 1 := by unfold ad64c; omega
end Go.Proofs.Ytcpoldghkiiggaa.X

/- Printed by a tool of this session. -/
namespace Go.Proofs.Ytcpoldghkiiggaa.X
open Go Go.Proofs
set_option linter.unusedVariables false
set_option linter.unusedSimpArgs false
set_option maxRecDepth 100000
set_option maxHeartbeats 8000000
theorem teRJ_62 : TEOk Try.prog 62 ⟨.int .u64, 1, 8, [.i .u64 (0 : Int)], false⟩ :=
 TEOk.of Try.underlying62 (i := Try.t62) (by kernel_rfl) rfl rfl rfl (by kernel_rfl) (fun h => by cases h) (by kernel_rfl)
noncomputable def tabRJ : List (Nat × TE) := [(3, ⟨.int .i64, 1, 8, [.i .i64 0], false⟩), (5, ⟨.int .u8, 1, 1, [.i .u8 0], false⟩), (24, ⟨.array 32 5, 32, 32, [.ints .u8 32 ([0, 0, 0, 0, 0, 0, 0, 0, 0, 0, 0, 0, 0, 0, 0, 0, 0, 0, 0, 0, 0, 0, 0, 0, 0, 0, 0, 0, 0, 0, 0, 0] : List Int)], true⟩), (62, ⟨.int .u64, 1, 8, [.i .u64 0], false⟩), (81, ⟨.slice 3, 1, 24, [nlA], false⟩)]
theorem tabOkRJ : TabOk Try.prog (tabOf tabRJ) := (tabOf_cons teQJ_3 (tabOf_cons teNM_5 (tabOf_cons teNM_24 (tabOf_cons teRJ_62 (tabOf_cons teSB_81 tabOf_nil)))))

def dl62_mk (a : List Int) (k : Nat) (s : Unit) : St := ⟨sparse 41 [(0, .o (.g [.ints .u8 32 a])), (1, .o (.a (.p 0 0))), (2, .o (.a nlA)), (3, .o (.a (.p 1 0))), (4, .o (.a (.sl 2 0 64 64))), (5, .o (.a (.i .i64 (dcC (B32 (modL (BV a))) k)))), (8, .o (.g [.ints .u8 32 a])), (9, .o (.g [.ints .u64 4 (W4 (modL (BV a)))])), (10, .o (.g [.ints .u8 32 (B32 (V4 (W4 (modL (BV a)))))])), (11, .o (.a (.sl 2 0 64 64))), (12, .o (.a (.i .i64 (k : Int))))], [bT [.ints .u8 32 a], bT [.ints .u8 32 (B32 (modL (BV a)))], bT [.ints .i64 64 (dcO (B32 (modL (BV a))) k)]]⟩

theorem dl62_round_0 (a : List Int) (h0 : (Byt a)) (hv0 : a.length = 32) (w : World) (rw : List Nat) (β : Env) (k : Nat) (hk : k < 64) (s : Unit) (ha : nib (B32 (modL (BV a))) k + dcC (B32 (modL (BV a))) k > 7) (hb : k < 63) : Run Try.prog ⟨w, rw, 0, β⟩ (loopB Try.f62 0) (dl62_mk a k s) (To ⟨w, rw, 0, β⟩ .normal (dl62_mk a (k + 1) (moL_step k s))) := by
 have e0 : (List.set (dcO (B32 (modL (BV a))) k) k (IntKind.i64.wrap (((nib (B32 (modL (BV a))) k) + (dcC (B32 (modL (BV a))) k)) - (16 : Int)))) = (dcO (B32 (modL (BV a))) (k + 1)) := (by first | exact wrap_succ (by omega) | exact (dc_a ⟨ha, hb⟩).2.symm | omega | (rw [dc_w2, ← (dc_a ⟨ha, hb⟩).1]; unfold dcO; exact lnO_s _ hk))
 have e1 := wrap_succ (n := k) (by omega)
 have e2 : (1 : Int) = (dcC (B32 (modL (BV a))) (k + (1 : Nat))) := (by first | exact wrap_succ (by omega) | exact (dc_a ⟨ha, hb⟩).2.symm | omega | (rw [dc_w2, ← (dc_a ⟨ha, hb⟩).1]; unfold dcO; exact lnO_s _ hk))
 have h := Run.of_outT (B := ⟨w, rw, 0, β⟩) (Λ := noLam) (Ψ := psiOf [(7, [.eqS 7 (.o (.a (.i .i64 ((nib (B32 (modL (BV a))) k) + (dcC (B32 (modL (BV a))) k)))))])]) (fuel := 0) (ora := [true, true, true, true, true]) (c := (loopB Try.f62 0)) (st := (dl62_mk a k s)) (l := [.forget [0, 1, 2, 3, 4, 5, 8, 9, 10, 11, 12] 3]) (s' := ⟨sparse 41 [(0, .o (.g [.ints .u8 32 a])), (1, .o (.a (.p 0 0))), (2, .o (.a nlA)), (3, .o (.a (.p 1 0))), (4, .o (.a (.sl 2 0 64 64))), (5, .o (.a (.i .i64 1))), (8, .o (.g [.ints .u8 32 a])), (9, .o (.g [.ints .u64 4 (W4 (modL (BV a)))])), (10, .o (.g [.ints .u8 32 (B32 (V4 (W4 (modL (BV a)))))])), (11, .o (.a (.sl 2 0 64 64))), (12, .o (.a (.i .i64 (IntKind.i64.wrap ((k : Int) + 1)))))], [bT [.ints .u8 32 a], bT [.ints .u8 32 (B32 (modL (BV a)))], bT [.ints .i64 64 (List.set (dcO (B32 (modL (BV a))) k) k (IntKind.i64.wrap (((nib (B32 (modL (BV a))) k) + (dcC (B32 (modL (BV a))) k)) - 16)))]]⟩) (ex := .normal) mix tabOkRJ gam72_ok
  (vc := (let p0_ : Prop := ((decide (((nib (B32 (modL (BV a))) k) + (dcC (B32 (modL (BV a))) k)) > (7 : Int))) = true); [(k < 64), ((0 ≤ (k : Int)) ∧ ((k : Int) < 64)), ((decide ((k : Int) < 63)) = true), p0_, p0_, p0_, ((.o (.a (.i .i64 (IntKind.i64.wrap ((IntKind.i64.wrap (bits2 .and .u8 (shr .u8 (List.getD (B32 (modL (BV a))) (Int.toNat (IntKind.i64.wrap (Int.tdiv (k : Int) (2 : Int)))) 0) (IntKind.i64.wrap ((4 : Int) * (Int.tmod (k : Int) (2 : Int))))) (15 : Int))) + (dcC (B32 (modL (BV a))) k))))) : AV) = .o (.a (.i .i64 ((nib (B32 (modL (BV a))) k) + (dcC (B32 (modL (BV a))) k))))), ((0 : Int) ≤ (IntKind.i64.wrap ((4 : Int) * (Int.tmod (k : Int) (2 : Int))))), ((2 : Int) ≠ 0), ((Int.toNat (IntKind.i64.wrap (Int.tdiv (k : Int) (2 : Int)))) < 32), (((0 : Int) ≤ (IntKind.i64.wrap (Int.tdiv (k : Int) (2 : Int)))) ∧ ((IntKind.i64.wrap (Int.tdiv (k : Int) (2 : Int))) < 32)), ((2 : Int) ≠ 0), ((decide ((k : Int) < 64)) = true)])) (by kernel_rfl)
  (aC (by have q := dq hk; have q1 := q.1; have q2 := q.2; have hc := dcC_rng (B32 (modL (BV a))) k; have hn := nib_rng (B32 (modL (BV a))) k; first | omega | (simp (disch := omega) only [wrapI]; omega)) (aC ⟨(by have q := dq hk; have q1 := q.1; have q2 := q.2; have hc := dcC_rng (B32 (modL (BV a))) k; have hn := nib_rng (B32 (modL (BV a))) k; first | omega | (simp (disch := omega) only [wrapI]; omega)), (by have q := dq hk; have q1 := q.1; have q2 := q.2; have hc := dcC_rng (B32 (modL (BV a))) k; have hn := nib_rng (B32 (modL (BV a))) k; first | omega | (simp (disch := omega) only [wrapI]; omega))⟩ (aC (dt (by omega)) (aC (dt ha) (aC (dt ha) (aC (dt ha) (aC ((congrArg (fun z => AV.o (.a (.i .i64 z))) (dc_w (B32 (modL (BV a))) k))) (aC (by have q := dq hk; have q1 := q.1; have q2 := q.2; have hc := dcC_rng (B32 (modL (BV a))) k; have hn := nib_rng (B32 (modL (BV a))) k; first | omega | (simp (disch := omega) only [wrapI]; omega)) (aC (dd rfl) (aC (by have q := dq hk; have q1 := q.1; have q2 := q.2; have hc := dcC_rng (B32 (modL (BV a))) k; have hn := nib_rng (B32 (modL (BV a))) k; first | omega | (simp (disch := omega) only [wrapI]; omega)) (aC ⟨(by have q := dq hk; have q1 := q.1; have q2 := q.2; have hc := dcC_rng (B32 (modL (BV a))) k; have hn := nib_rng (B32 (modL (BV a))) k; first | omega | (simp (disch := omega) only [wrapI]; omega)), (by have q := dq hk; have q1 := q.1; have q2 := q.2; have hc := dcC_rng (B32 (modL (BV a))) k; have hn := nib_rng (B32 (modL (BV a))) k; first | omega | (simp (disch := omega) only [wrapI]; omega))⟩ (aC (dd rfl) (aC (dt (by have q := dq hk; have q1 := q.1; have q2 := q.2; have hc := dcC_rng (B32 (modL (BV a))) k; have hn := nib_rng (B32 (modL (BV a))) k; first | omega | (simp (disch := omega) only [wrapI]; omega))) (AllP_nil))))))))))))))
 rw [e0, e1, e2] at h
 exact h

theorem dl62_round_1 (a : List Int) (h0 : (Byt a)) (hv0 : a.length = 32) (w : World) (rw : List Nat) (β : Env) (k : Nat) (hk : k < 64) (s : Unit) (ha : nib (B32 (modL (BV a))) k + dcC (B32 (modL (BV a))) k > 7) (hb : ¬ k < 63) : Run Try.prog ⟨w, rw, 0, β⟩ (loopB Try.f62 0) (dl62_mk a k s) (To ⟨w, rw, 0, β⟩ .normal (dl62_mk a (k + 1) (moL_step k s))) := by
 have e0 : (List.set (dcO (B32 (modL (BV a))) k) k ((nib (B32 (modL (BV a))) k) + (dcC (B32 (modL (BV a))) k))) = (dcO (B32 (modL (BV a))) (k + 1)) := (by first | exact wrap_succ (by omega) | exact (dc_b (fun h => hb h.2)).2.symm | omega | (rw [← (dc_b (fun h => hb h.2)).1]; unfold dcO; exact lnO_s _ hk))
 have e1 := wrap_succ (n := k) (by omega)
 have e2 : (0 : Int) = (dcC (B32 (modL (BV a))) (k + (1 : Nat))) := (by first | exact wrap_succ (by omega) | exact (dc_b (fun h => hb h.2)).2.symm | omega | (rw [← (dc_b (fun h => hb h.2)).1]; unfold dcO; exact lnO_s _ hk))
 have h := Run.of_outT (B := ⟨w, rw, 0, β⟩) (Λ := noLam) (Ψ := psiOf [(7, [.eqS 7 (.o (.a (.i .i64 ((nib (B32 (modL (BV a))) k) + (dcC (B32 (modL (BV a))) k)))))])]) (fuel := 0) (ora := [true, true, true, true, false]) (c := (loopB Try.f62 0)) (st := (dl62_mk a k s)) (l := [.forget [0, 1, 2, 3, 4, 5, 8, 9, 10, 11, 12] 3]) (s' := ⟨sparse 41 [(0, .o (.g [.ints .u8 32 a])), (1, .o (.a (.p 0 0))), (2, .o (.a nlA)), (3, .o (.a (.p 1 0))), (4, .o (.a (.sl 2 0 64 64))), (5, .o (.a (.i .i64 0))), (8, .o (.g [.ints .u8 32 a])), (9, .o (.g [.ints .u64 4 (W4 (modL (BV a)))])), (10, .o (.g [.ints .u8 32 (B32 (V4 (W4 (modL (BV a)))))])), (11, .o (.a (.sl 2 0 64 64))), (12, .o (.a (.i .i64 (IntKind.i64.wrap ((k : Int) + 1)))))], [bT [.ints .u8 32 a], bT [.ints .u8 32 (B32 (modL (BV a)))], bT [.ints .i64 64 (List.set (dcO (B32 (modL (BV a))) k) k ((nib (B32 (modL (BV a))) k) + (dcC (B32 (modL (BV a))) k)))]]⟩) (ex := .normal) mix tabOkRJ gam72_ok
  (vc := (let p0_ : Prop := ((decide (((nib (B32 (modL (BV a))) k) + (dcC (B32 (modL (BV a))) k)) > (7 : Int))) = true); [(k < 64), ((0 ≤ (k : Int)) ∧ ((k : Int) < 64)), ((decide ((k : Int) < 63)) = false), p0_, p0_, p0_, ((.o (.a (.i .i64 (IntKind.i64.wrap ((IntKind.i64.wrap (bits2 .and .u8 (shr .u8 (List.getD (B32 (modL (BV a))) (Int.toNat (IntKind.i64.wrap (Int.tdiv (k : Int) (2 : Int)))) 0) (IntKind.i64.wrap ((4 : Int) * (Int.tmod (k : Int) (2 : Int))))) (15 : Int))) + (dcC (B32 (modL (BV a))) k))))) : AV) = .o (.a (.i .i64 ((nib (B32 (modL (BV a))) k) + (dcC (B32 (modL (BV a))) k))))), ((0 : Int) ≤ (IntKind.i64.wrap ((4 : Int) * (Int.tmod (k : Int) (2 : Int))))), ((2 : Int) ≠ 0), ((Int.toNat (IntKind.i64.wrap (Int.tdiv (k : Int) (2 : Int)))) < 32), (((0 : Int) ≤ (IntKind.i64.wrap (Int.tdiv (k : Int) (2 : Int)))) ∧ ((IntKind.i64.wrap (Int.tdiv (k : Int) (2 : Int))) < 32)), ((2 : Int) ≠ 0), ((decide ((k : Int) < 64)) = true)])) (by kernel_rfl)
  (aC (by have q := dq hk; have q1 := q.1; have q2 := q.2; have hc := dcC_rng (B32 (modL (BV a))) k; have hn := nib_rng (B32 (modL (BV a))) k; first | omega | (simp (disch := omega) only [wrapI]; omega)) (aC ⟨(by have q := dq hk; have q1 := q.1; have q2 := q.2; have hc := dcC_rng (B32 (modL (BV a))) k; have hn := nib_rng (B32 (modL (BV a))) k; first | omega | (simp (disch := omega) only [wrapI]; omega)), (by have q := dq hk; have q1 := q.1; have q2 := q.2; have hc := dcC_rng (B32 (modL (BV a))) k; have hn := nib_rng (B32 (modL (BV a))) k; first | omega | (simp (disch := omega) only [wrapI]; omega))⟩ (aC (df (by omega)) (aC (dt ha) (aC (dt ha) (aC (dt ha) (aC ((congrArg (fun z => AV.o (.a (.i .i64 z))) (dc_w (B32 (modL (BV a))) k))) (aC (by have q := dq hk; have q1 := q.1; have q2 := q.2; have hc := dcC_rng (B32 (modL (BV a))) k; have hn := nib_rng (B32 (modL (BV a))) k; first | omega | (simp (disch := omega) only [wrapI]; omega)) (aC (dd rfl) (aC (by have q := dq hk; have q1 := q.1; have q2 := q.2; have hc := dcC_rng (B32 (modL (BV a))) k; have hn := nib_rng (B32 (modL (BV a))) k; first | omega | (simp (disch := omega) only [wrapI]; omega)) (aC ⟨(by have q := dq hk; have q1 := q.1; have q2 := q.2; have hc := dcC_rng (B32 (modL (BV a))) k; have hn := nib_rng (B32 (modL (BV a))) k; first | omega | (simp (disch := omega) only [wrapI]; omega)), (by have q := dq hk; have q1 := q.1; have q2 := q.2; have hc := dcC_rng (B32 (modL (BV a))) k; have hn := nib_rng (B32 (modL (BV a))) k; first | omega | (simp (disch := omega) only [wrapI]; omega))⟩ (aC (dd rfl) (aC (dt (by have q := dq hk; have q1 := q.1; have q2 := q.2; have hc := dcC_rng (B32 (modL (BV a))) k; have hn := nib_rng (B32 (modL (BV a))) k; first | omega | (simp (disch := omega) only [wrapI]; omega))) (AllP_nil))))))))))))))
 rw [e0, e1, e2] at h
 exact h

theorem dl62_round_2 (a : List Int) (h0 : (Byt a)) (hv0 : a.length = 32) (w : World) (rw : List Nat) (β : Env) (k : Nat) (hk : k < 64) (s : Unit) (ha : ¬ (nib (B32 (modL (BV a))) k + dcC (B32 (modL (BV a))) k > 7)) : Run Try.prog ⟨w, rw, 0, β⟩ (loopB Try.f62 0) (dl62_mk a k s) (To ⟨w, rw, 0, β⟩ .normal (dl62_mk a (k + 1) (moL_step k s))) := by
 have e0 : (List.set (dcO (B32 (modL (BV a))) k) k ((nib (B32 (modL (BV a))) k) + (dcC (B32 (modL (BV a))) k))) = (dcO (B32 (modL (BV a))) (k + 1)) := (by first | exact wrap_succ (by omega) | exact (dc_b (fun h => ha h.1)).2.symm | omega | (rw [← (dc_b (fun h => ha h.1)).1]; unfold dcO; exact lnO_s _ hk))
 have e1 := wrap_succ (n := k) (by omega)
 have e2 : (0 : Int) = (dcC (B32 (modL (BV a))) (k + (1 : Nat))) := (by first | exact wrap_succ (by omega) | exact (dc_b (fun h => ha h.1)).2.symm | omega | (rw [← (dc_b (fun h => ha h.1)).1]; unfold dcO; exact lnO_s _ hk))
 have h := Run.of_outT (B := ⟨w, rw, 0, β⟩) (Λ := noLam) (Ψ := psiOf [(7, [.eqS 7 (.o (.a (.i .i64 ((nib (B32 (modL (BV a))) k) + (dcC (B32 (modL (BV a))) k)))))])]) (fuel := 0) (ora := [true, false, false, false, false]) (c := (loopB Try.f62 0)) (st := (dl62_mk a k s)) (l := [.forget [0, 1, 2, 3, 4, 5, 8, 9, 10, 11, 12] 3]) (s' := ⟨sparse 41 [(0, .o (.g [.ints .u8 32 a])), (1, .o (.a (.p 0 0))), (2, .o (.a nlA)), (3, .o (.a (.p 1 0))), (4, .o (.a (.sl 2 0 64 64))), (5, .o (.a (.i .i64 0))), (8, .o (.g [.ints .u8 32 a])), (9, .o (.g [.ints .u64 4 (W4 (modL (BV a)))])), (10, .o (.g [.ints .u8 32 (B32 (V4 (W4 (modL (BV a)))))])), (11, .o (.a (.sl 2 0 64 64))), (12, .o (.a (.i .i64 (IntKind.i64.wrap ((k : Int) + 1)))))], [bT [.ints .u8 32 a], bT [.ints .u8 32 (B32 (modL (BV a)))], bT [.ints .i64 64 (List.set (dcO (B32 (modL (BV a))) k) k ((nib (B32 (modL (BV a))) k) + (dcC (B32 (modL (BV a))) k)))]]⟩) (ex := .normal) mix tabOkRJ gam72_ok
  (vc := (let p0_ : Prop := ((decide (((nib (B32 (modL (BV a))) k) + (dcC (B32 (modL (BV a))) k)) > (7 : Int))) = false); [(k < 64), ((0 ≤ (k : Int)) ∧ ((k : Int) < 64)), (false = false), p0_, p0_, p0_, ((.o (.a (.i .i64 (IntKind.i64.wrap ((IntKind.i64.wrap (bits2 .and .u8 (shr .u8 (List.getD (B32 (modL (BV a))) (Int.toNat (IntKind.i64.wrap (Int.tdiv (k : Int) (2 : Int)))) 0) (IntKind.i64.wrap ((4 : Int) * (Int.tmod (k : Int) (2 : Int))))) (15 : Int))) + (dcC (B32 (modL (BV a))) k))))) : AV) = .o (.a (.i .i64 ((nib (B32 (modL (BV a))) k) + (dcC (B32 (modL (BV a))) k))))), ((0 : Int) ≤ (IntKind.i64.wrap ((4 : Int) * (Int.tmod (k : Int) (2 : Int))))), ((2 : Int) ≠ 0), ((Int.toNat (IntKind.i64.wrap (Int.tdiv (k : Int) (2 : Int)))) < 32), (((0 : Int) ≤ (IntKind.i64.wrap (Int.tdiv (k : Int) (2 : Int)))) ∧ ((IntKind.i64.wrap (Int.tdiv (k : Int) (2 : Int))) < 32)), ((2 : Int) ≠ 0), ((decide ((k : Int) < 64)) = true)])) (by kernel_rfl)
  (aC (by have q := dq hk; have q1 := q.1; have q2 := q.2; have hc := dcC_rng (B32 (modL (BV a))) k; have hn := nib_rng (B32 (modL (BV a))) k; first | omega | (simp (disch := omega) only [wrapI]; omega)) (aC ⟨(by have q := dq hk; have q1 := q.1; have q2 := q.2; have hc := dcC_rng (B32 (modL (BV a))) k; have hn := nib_rng (B32 (modL (BV a))) k; first | omega | (simp (disch := omega) only [wrapI]; omega)), (by have q := dq hk; have q1 := q.1; have q2 := q.2; have hc := dcC_rng (B32 (modL (BV a))) k; have hn := nib_rng (B32 (modL (BV a))) k; first | omega | (simp (disch := omega) only [wrapI]; omega))⟩ (aC rfl (aC (df ha) (aC (df ha) (aC (df ha) (aC ((congrArg (fun z => AV.o (.a (.i .i64 z))) (dc_w (B32 (modL (BV a))) k))) (aC (by have q := dq hk; have q1 := q.1; have q2 := q.2; have hc := dcC_rng (B32 (modL (BV a))) k; have hn := nib_rng (B32 (modL (BV a))) k; first | omega | (simp (disch := omega) only [wrapI]; omega)) (aC (dd rfl) (aC (by have q := dq hk; have q1 := q.1; have q2 := q.2; have hc := dcC_rng (B32 (modL (BV a))) k; have hn := nib_rng (B32 (modL (BV a))) k; first | omega | (simp (disch := omega) only [wrapI]; omega)) (aC ⟨(by have q := dq hk; have q1 := q.1; have q2 := q.2; have hc := dcC_rng (B32 (modL (BV a))) k; have hn := nib_rng (B32 (modL (BV a))) k; first | omega | (simp (disch := omega) only [wrapI]; omega)), (by have q := dq hk; have q1 := q.1; have q2 := q.2; have hc := dcC_rng (B32 (modL (BV a))) k; have hn := nib_rng (B32 (modL (BV a))) k; first | omega | (simp (disch := omega) only [wrapI]; omega))⟩ (aC (dd rfl) (aC (dt (by have q := dq hk; have q1 := q.1; have q2 := q.2; have hc := dcC_rng (B32 (modL (BV a))) k; have hn := nib_rng (B32 (modL (BV a))) k; first | omega | (simp (disch := omega) only [wrapI]; omega))) (AllP_nil))))))))))))))
 rw [e0, e1, e2] at h
 exact h

theorem dl62_round (a : List Int) (h0 : (Byt a)) (hv0 : a.length = 32) (w : World) (rw : List Nat) (β : Env) (k : Nat) (hk : k < 64) (s : Unit) : Run Try.prog ⟨w, rw, 0, β⟩ (loopB Try.f62 0) (dl62_mk a k s) (To ⟨w, rw, 0, β⟩ .normal (dl62_mk a (k + 1) (moL_step k s))) := by
 by_cases ha : nib (B32 (modL (BV a))) k + dcC (B32 (modL (BV a))) k > 7
 ·by_cases hb : k < 63
  ·exact dl62_round_0 a h0 hv0 w rw β k hk s ha hb
  ·exact dl62_round_1 a h0 hv0 w rw β k hk s ha hb
 ·exact dl62_round_2 a h0 hv0 w rw β k hk s ha

theorem dl62_last (a : List Int) (h0 : (Byt a)) (hv0 : List.length a = 32) (w : World) (rw : List Nat) (β : Env) (s : Unit) : Run Try.prog ⟨w, rw, 0, β⟩ (loopB Try.f62 0) (dl62_mk a 64 s) (To ⟨w, rw, 0, β⟩ (.exit 0) (dl62_mk a 64 s)) :=
 Run.of_outT (Λ := noLam) (Ψ := noPsi) (fuel := 0) (ora := [false]) (l := [.forget [0, 1, 2, 3, 4, 5, 8, 9, 10, 11, 12] 3]) mix tabOkRJ gam72_ok
  (vc := [(false = false)]) (by kernel_rfl)
  (aC rfl (AllP_nil))

theorem dl62_loop (a : List Int) (h0 : (Byt a)) (hv0 : a.length = 32) (w : World) (rw : List Nat) (β : Env) (s : Unit) : Run Try.prog ⟨w, rw, 0, β⟩ (.block 0 (.loop (loopB Try.f62 0))) (dl62_mk a 0 s) (To ⟨w, rw, 0, β⟩ .normal (dl62_mk a 64 (iter (moL_step) 64 s))) :=
 Run.count (fun k => dl62_mk a k (iter (moL_step) k s)) 64 (fun k hk => dl62_round a h0 hv0 w rw β k hk _) (ex := (.exit 0)) (by simp) (dl62_last a h0 hv0 w rw β _)

def digP (a : List Int) : List Int :=
 (B32 (modL (BV a)))

def digP_1 (a : List Int) : List Int :=
 (dcO (B32 (modL (BV a))) 64)

theorem digP_body0 (a : List Int) (h0 : (Byt a)) (hv0 : a.length = 32) (w : World) (rw : List Nat) (β : Env) : Body Try.prog (tabOf tabRJ) Try.f62 ⟨w, rw, 0, β⟩ [.o (.g [.ints .u8 32 a])] [] (fun ys K' => ys = [.a (.sl 2 0 64 64)] ∧ K' = [bT [.ints .u8 32 a], bT [.ints .u8 32 (digP a)], bT [.ints .i64 64 (digP_1 a)]]) :=
 Body.of_finK (Γ := gam72) (Λ := lamOf [(0, ⟨[.eqB 2 (⟨true, [.ints .i64 64 (dcO (B32 (modL (BV a))) 0)]⟩), .eqS 5 (.o (.a (.i .i64 (dcC (B32 (modL (BV a))) 0)))), .forget [0, 1, 2, 3, 4, 5, 8, 9, 10, 11, 12] 3], .normal, (dl62_mk a 64 (iter (moL_step) 64 ()))⟩)]) (Ψ := psiOf [(1, [.eqB 1 (⟨true, [.ints .u8 32 (B32 (modL (BV a)))]⟩)])]) (fuel := 0) (m := 41) (c := (Try.f62.body.getD .skip)) mix tabOkRJ gam72_ok rfl (rs := [.tmp 2]) rfl rfl [] [] 4
  (vc := [(Run Try.prog ⟨w, rw, 0, β⟩ (.block 0 (.loop (loopB Try.f62 0))) (dl62_mk a 0 ()) (To ⟨w, rw, 0, β⟩ .normal (dl62_mk a 64 (iter (moL_step) 64 ())))), ((.o (.a (.i .i64 0)) : AV) = .o (.a (.i .i64 (dcC (B32 (modL (BV a))) 0)))), ((bT [.ints .i64 64 (List.replicate 64 (0 : Int))] : Option Blk) = bT [.ints .i64 64 (dcO (B32 (modL (BV a))) 0)]), ((cZ 64) ∧ ((64 : Int) ≤ 64) ∧ ((512 : Int) ≤ 281474976710656)), ((bT [.ints .u8 32 (B32 (V4 (W4 (modL (BV a)))))] : Option Blk) = bT [.ints .u8 32 (B32 (modL (BV a)))]), (Wds (W4 (modL (BV a)))), (Byt a)]) (by kernel_rfl)
  (aC (dl62_loop a h0 hv0 w rw β ()) (aC ((by rfl)) (aC ((by unfold dcO; rw [lnO_0])) (aC ⟨(by decide), (by decide), (by decide)⟩ (aC ((by rw [V4_modL])) (aC (wds_W4 _) (aC (by assumption) (AllP_nil))))))))

theorem digP_body (a : List Int) (h0 : (Byt a)) (w : World) (rw : List Nat) (β : Env) : Body Try.prog (tabOf tabRJ) Try.f62 ⟨w, rw, 0, β⟩ [.o (.g [.ints .u8 32 a])] [] (fun ys K' => ys = [.a (.sl 2 0 64 64)] ∧ K' = [bT [.ints .u8 32 a], bT [.ints .u8 32 (digP a)], bT [.ints .i64 64 (digP_1 a)]]) :=
 Body.lens (c := (Try.f62.body.getD .skip)) rfl fun h => digP_body0 a h0 (h.vals 0 _ _ _ rfl) w rw β

end Go.Proofs.Ytcpoldghkiiggaa.X

/- Printed by a tool of this session. -/
namespace Go.Proofs.Ytcpoldghkiiggaa.X
open Go Go.Proofs
set_option linter.unusedVariables false
set_option linter.unusedSimpArgs false
set_option maxRecDepth 100000
set_option maxHeartbeats 8000000
noncomputable def tabRK : List (Nat × TE) := [(3, ⟨.int .i64, 1, 8, [.i .i64 0], false⟩), (24, ⟨.array 32 5, 32, 32, [.ints .u8 32 ([0, 0, 0, 0, 0, 0, 0, 0, 0, 0, 0, 0, 0, 0, 0, 0, 0, 0, 0, 0, 0, 0, 0, 0, 0, 0, 0, 0, 0, 0, 0, 0] : List Int)], true⟩), (25, ⟨.int .u64, 1, 8, [.i .u64 0], false⟩), (81, ⟨.slice 3, 1, 24, [nlA], false⟩), (104, ⟨.array 4 25, 4, 32, [.ints .u64 4 ([0, 0, 0, 0] : List Int)], true⟩)]
theorem tabOkRK : TabOk Try.prog (tabOf tabRK) := (tabOf_cons teQJ_3 (tabOf_cons teNM_24 (tabOf_cons teNG_25 (tabOf_cons teSB_81 (tabOf_cons teNG_104 tabOf_nil)))))

def nfL_mk (a : List Int) (v : Int) (k : Nat) (s : Unit) : St := ⟨sparse 106 [(0, .o (.g [.ints .u8 32 a])), (1, .o (.a (.i .i64 v))), (2, .o (.a (.p 0 0))), (4, .o (.a nlA)), (5, .o (.a (.i .i64 0))), (6, .o (.a (.p 1 0))), (7, .o (.a (.sl 2 0 256 256))), (13, .o (.a (.i .i64 v))), (14, .o (.a (.b (decide (v < (2 : Int)))))), (15, .o (.a (.b (decide (v < (2 : Int)))))), (16, .o (.a (.i .i64 v))), (17, .o (.a (.b (decide (v > (8 : Int)))))), (18, .o (.a (.b (decide (v > (8 : Int)))))), (19, .o (.g [.ints .u8 32 a])), (20, .o (.g [.ints .u64 4 (W4 (modL (BV a)))])), (21, .o (.a (.sl 2 0 256 256))), (22, .o (.a (.i .i64 (k : Int))))], [bT [.ints .u8 32 a], bT [.ints .u64 4 (W4 (nfV v a k))], bT [.ints .i64 256 (nfO v a k)]]⟩

theorem nfL_round_0 (a : List Int) (v : Int) (h0 : (Byt a)) (h1 : ((2 : Int) ≤ v)) (h2 : (v ≤ (8 : Int))) (hv0 : a.length = 32) (w : World) (rw : List Nat) (β : Env) (k : Nat) (hk : k < 256) (s : Unit) (ha : (nfV v a k) % 2 = 1) (hb : nafX v (nfV v a k) ≥ pw2 (v - 1)) : Run Try.prog ⟨w, rw, 0, β⟩ (loopB Try.f59 0) (nfL_mk a v k s) (To ⟨w, rw, 0, β⟩ .normal (nfL_mk a v (k + 1) (moL_step k s))) := by
 have e0 : ([(bits2 .or .u64 (shr .u64 (wdx (nafW v (nfV v a k)) 0) (1 : Int)) (shl .u64 (wdx (nafW v (nfV v a k)) 1) (63 : Int))), (bits2 .or .u64 (shr .u64 (wdx (nafW v (nfV v a k)) 1) (1 : Int)) (shl .u64 (wdx (nafW v (nfV v a k)) 2) (63 : Int))), (bits2 .or .u64 (shr .u64 (wdx (nafW v (nfV v a k)) 2) (1 : Int)) (shl .u64 (wdx (nafW v (nfV v a k)) 3) (63 : Int))), (shr .u64 (wdx (nafW v (nfV v a k)) 3) (1 : Int))] : List Int) = (W4 (nfV v a (k + 1))) := (by first | exact wrap_succ (by omega) | omega | exact nfO_s hk | exact naf_half (nafW_rng h1 h2 (nfV_rng h1 h2 a k)))
 have e1 := wrap_succ (n := k) (by omega)
 have e2 : (List.set (nfO v a k) k (nafD v (nfV v a k))) = (nfO v a (k + (1 : Nat))) := (by first | exact wrap_succ (by omega) | omega | exact nfO_s hk | exact naf_half (nafW_rng h1 h2 (nfV_rng h1 h2 a k)))
 have h := Run.of_outT (B := ⟨w, rw, 0, β⟩) (Λ := noLam) (Ψ := psiOf [(9, [.eqS 9 (.o (.a (.i .i64 (nafX v (nfV v a k)))))]), (11, [.eqS 9 (.o (.a (.i .i64 (nafD v (nfV v a k)))))]), (15, [.eqB 1 (⟨true, [.ints .u64 4 ([(wdx (nfV v a k) 0), (wdx (nfV v a k) 1), (wdx (nfV v a k) 2), (wdx (nfV v a k) 3)] : List Int)]⟩)]), (21, [.eqB 1 (⟨true, [.ints .u64 4 ([(wdx (nafW v (nfV v a k)) 0), (wdx (nafW v (nfV v a k)) 1), (wdx (nafW v (nfV v a k)) 2), (wdx (nafW v (nfV v a k)) 3)] : List Int)]⟩)])]) (fuel := 6) (ora := [true, true, true, false, true, true, true, false, true, true, true, true, true, true, true, false, false]) (c := (loopB Try.f59 0)) (st := (nfL_mk a v k s)) (l := [.forget [0, 1, 2, 4, 5, 6, 7, 13, 14, 15, 16, 17, 18, 19, 20, 21, 22] 3]) (s' := ⟨sparse 106 [(0, .o (.g [.ints .u8 32 a])), (1, .o (.a (.i .i64 v))), (2, .o (.a (.p 0 0))), (4, .o (.a nlA)), (5, .o (.a (.i .i64 0))), (6, .o (.a (.p 1 0))), (7, .o (.a (.sl 2 0 256 256))), (13, .o (.a (.i .i64 v))), (14, .o (.a (.b (decide (v < (2 : Int)))))), (15, .o (.a (.b (decide (v < (2 : Int)))))), (16, .o (.a (.i .i64 v))), (17, .o (.a (.b (decide (v > (8 : Int)))))), (18, .o (.a (.b (decide (v > (8 : Int)))))), (19, .o (.g [.ints .u8 32 a])), (20, .o (.g [.ints .u64 4 (W4 (modL (BV a)))])), (21, .o (.a (.sl 2 0 256 256))), (22, .o (.a (.i .i64 (IntKind.i64.wrap ((k : Int) + 1)))))], [bT [.ints .u8 32 a], bT [.ints .u64 4 ([(bits2 .or .u64 (shr .u64 (wdx (nafW v (nfV v a k)) 0) (1 : Int)) (shl .u64 (wdx (nafW v (nfV v a k)) 1) (63 : Int))), (bits2 .or .u64 (shr .u64 (wdx (nafW v (nfV v a k)) 1) (1 : Int)) (shl .u64 (wdx (nafW v (nfV v a k)) 2) (63 : Int))), (bits2 .or .u64 (shr .u64 (wdx (nafW v (nfV v a k)) 2) (1 : Int)) (shl .u64 (wdx (nafW v (nfV v a k)) 3) (63 : Int))), (shr .u64 (wdx (nafW v (nfV v a k)) 3) (1 : Int))] : List Int)], bT [.ints .i64 256 (List.set (nfO v a k) k (nafD v (nfV v a k)))]]⟩) (ex := .normal) mix tabOkRK gam72_ok
  (vc := [(false = false), (false = false), (cN 3 4), (cI 3 4), (cZ 1), (cN 3 4), (cI 3 4), cT, (cN 2 4), (cI 2 4), (cZ 63), (cN 3 4), (cI 3 4), (cN 2 4), (cI 2 4), cT, (cN 2 4), (cI 2 4), (cZ 1), (cN 2 4), (cI 2 4), cT, (cN 1 4), (cI 1 4), (cZ 63), (cN 2 4), (cI 2 4), (cN 1 4), (cI 1 4), cT, (cN 1 4), (cI 1 4), (cZ 1), (cN 1 4), (cI 1 4), cT, (cN 0 4), (cI 0 4), (cZ 63), (cN 1 4), (cI 1 4), (cN 0 4), (cI 0 4), cT, (cN 0 4), (cI 0 4), (cZ 1), (cN 0 4), (cI 0 4), cT, ((bT [.ints .u64 4 ([(ad64s (wdx (nfV v a k) 0) (IntKind.u64.wrap (IntKind.i64.wrap ((0 : Int) - (nafD v (nfV v a k))))) (0 : Int)), (ad64s (wdx (nfV v a k) 1) (0 : Int) (ad64c (wdx (nfV v a k) 0) (IntKind.u64.wrap (IntKind.i64.wrap ((0 : Int) - (nafD v (nfV v a k))))) (0 : Int))), (ad64s (wdx (nfV v a k) 2) (0 : Int) (ad64c (wdx (nfV v a k) 1) (0 : Int) (ad64c (wdx (nfV v a k) 0) (IntKind.u64.wrap (IntKind.i64.wrap ((0 : Int) - (nafD v (nfV v a k))))) (0 : Int)))), (ad64s (wdx (nfV v a k) 3) (0 : Int) (ad64c (wdx (nfV v a k) 2) (0 : Int) (ad64c (wdx (nfV v a k) 1) (0 : Int) (ad64c (wdx (nfV v a k) 0) (IntKind.u64.wrap (IntKind.i64.wrap ((0 : Int) - (nafD v (nfV v a k))))) (0 : Int)))))] : List Int)] : Option Blk) = bT [.ints .u64 4 ([(wdx (nafW v (nfV v a k)) 0), (wdx (nafW v (nfV v a k)) 1), (wdx (nafW v (nfV v a k)) 2), (wdx (nafW v (nfV v a k)) 3)] : List Int)]), (false = false), (cN 3 4), (cI 3 4), (((0 : Int) ≤ (wdx (nfV v a k) 3)) ∧ (cZ 0) ∧ ((0 : Int) ≤ (ad64c (wdx (nfV v a k) 2) (0 : Int) (ad64c (wdx (nfV v a k) 1) (0 : Int) (ad64c (wdx (nfV v a k) 0) (IntKind.u64.wrap (IntKind.i64.wrap ((0 : Int) - (nafD v (nfV v a k))))) (0 : Int))))) ∧ ((ad64c (wdx (nfV v a k) 2) (0 : Int) (ad64c (wdx (nfV v a k) 1) (0 : Int) (ad64c (wdx (nfV v a k) 0) (IntKind.u64.wrap (IntKind.i64.wrap ((0 : Int) - (nafD v (nfV v a k))))) (0 : Int)))) ≤ 1)), (cN 3 4), (cI 3 4), cT, (cN 2 4), (cI 2 4), (((0 : Int) ≤ (wdx (nfV v a k) 2)) ∧ (cZ 0) ∧ ((0 : Int) ≤ (ad64c (wdx (nfV v a k) 1) (0 : Int) (ad64c (wdx (nfV v a k) 0) (IntKind.u64.wrap (IntKind.i64.wrap ((0 : Int) - (nafD v (nfV v a k))))) (0 : Int)))) ∧ ((ad64c (wdx (nfV v a k) 1) (0 : Int) (ad64c (wdx (nfV v a k) 0) (IntKind.u64.wrap (IntKind.i64.wrap ((0 : Int) - (nafD v (nfV v a k))))) (0 : Int))) ≤ 1)), (cN 2 4), (cI 2 4), cT, (cN 1 4), (cI 1 4), (((0 : Int) ≤ (wdx (nfV v a k) 1)) ∧ (cZ 0) ∧ ((0 : Int) ≤ (ad64c (wdx (nfV v a k) 0) (IntKind.u64.wrap (IntKind.i64.wrap ((0 : Int) - (nafD v (nfV v a k))))) (0 : Int))) ∧ ((ad64c (wdx (nfV v a k) 0) (IntKind.u64.wrap (IntKind.i64.wrap ((0 : Int) - (nafD v (nfV v a k))))) (0 : Int)) ≤ 1)), (cN 1 4), (cI 1 4), cT, (((0 : Int) ≤ (wdx (nfV v a k) 0)) ∧ ((0 : Int) ≤ (IntKind.u64.wrap (IntKind.i64.wrap ((0 : Int) - (nafD v (nfV v a k)))))) ∧ (cZ 0) ∧ (cZ 1)), ((bT [.ints .u64 4 (W4 (nfV v a k))] : Option Blk) = bT [.ints .u64 4 ([(wdx (nfV v a k) 0), (wdx (nfV v a k) 1), (wdx (nfV v a k) 2), (wdx (nfV v a k) 3)] : List Int)]), ((decide ((nafD v (nfV v a k)) > (0 : Int))) = false), (k < 256), ((0 ≤ (k : Int)) ∧ ((k : Int) < 256)), ((.o (.a (.i .i64 (IntKind.i64.wrap ((nafX v (nfV v a k)) - (shl .i64 (1 : Int) v))))) : AV) = .o (.a (.i .i64 (nafD v (nfV v a k))))), ((0 : Int) ≤ v), ((decide ((nafX v (nfV v a k)) ≥ (shl .i64 (1 : Int) (IntKind.i64.wrap (v - (1 : Int)))))) = true), ((0 : Int) ≤ (IntKind.i64.wrap (v - (1 : Int)))), ((.o (.a (.i .i64 (IntKind.i64.wrap (bits2 .and .u64 (List.getD (sub (W4 (nfV v a k)) 0 1) 0 0) (IntKind.u64.wrap ((shl .u64 (1 : Int) v) - 1)))))) : AV) = .o (.a (.i .i64 (nafX v (nfV v a k))))), ((0 : Int) ≤ v), (((bits2 .and .u64 (List.getD (sub (W4 (nfV v a k)) 0 1) 0 0) (1 : Int)) == (1 : Int)) = true), ((decide ((k : Int) < 256)) = true)]) (by kernel_rfl)
  (aC rfl (aC rfl (aC (dd rfl) (aC (dd rfl) (aC (dd rfl) (aC (dd rfl) (aC (dd rfl) (aC rfl (aC (dd rfl) (aC (dd rfl) (aC (dd rfl) (aC (dd rfl) (aC (dd rfl) (aC (dd rfl) (aC (dd rfl) (aC rfl (aC (dd rfl) (aC (dd rfl) (aC (dd rfl) (aC (dd rfl) (aC (dd rfl) (aC rfl (aC (dd rfl) (aC (dd rfl) (aC (dd rfl) (aC (dd rfl) (aC (dd rfl) (aC (dd rfl) (aC (dd rfl) (aC rfl (aC (dd rfl) (aC (dd rfl) (aC (dd rfl) (aC (dd rfl) (aC (dd rfl) (aC rfl (aC (dd rfl) (aC (dd rfl) (aC (dd rfl) (aC (dd rfl) (aC (dd rfl) (aC (dd rfl) (aC (dd rfl) (aC rfl (aC (dd rfl) (aC (dd rfl) (aC (dd rfl) (aC (dd rfl) (aC (dd rfl) (aC rfl (aC ((by first | exact congrArg (fun z => some (Blk.mk true [.ints .u64 4 z])) (naf_w0 ha) | exact congrArg (fun z => some (Blk.mk true [.ints .u64 4 z])) (naf_w1 h1 h2 (nfV_rng h1 h2 a k) ha hb) | exact congrArg (fun z => some (Blk.mk true [.ints .u64 4 z])) (naf_w2 h1 h2 (nfV_rng h1 h2 a k) ha hb))) (aC rfl (aC (dd rfl) (aC (dd rfl) (aC ⟨(wdx_rng _ _).1, (dd rfl), (adc_nn _ _ _ (wdx_rng _ _).1 (dd rfl) (adc_nn _ _ _ (wdx_rng _ _).1 (dd rfl) (adc_nn _ _ _ (wdx_rng _ _).1 (wrap_nn rfl) (dd rfl)))), (adc_le (wdx_rng _ _).2 (dd rfl) (adc_le (wdx_rng _ _).2 (dd rfl) (adc_le (wdx_rng _ _).2 (by rw [wrap64]; omega) (dd rfl))))⟩ (aC (dd rfl) (aC (dd rfl) (aC rfl (aC (dd rfl) (aC (dd rfl) (aC ⟨(wdx_rng _ _).1, (dd rfl), (adc_nn _ _ _ (wdx_rng _ _).1 (dd rfl) (adc_nn _ _ _ (wdx_rng _ _).1 (wrap_nn rfl) (dd rfl))), (adc_le (wdx_rng _ _).2 (dd rfl) (adc_le (wdx_rng _ _).2 (by rw [wrap64]; omega) (dd rfl)))⟩ (aC (dd rfl) (aC (dd rfl) (aC rfl (aC (dd rfl) (aC (dd rfl) (aC ⟨(wdx_rng _ _).1, (dd rfl), (adc_nn _ _ _ (wdx_rng _ _).1 (wrap_nn rfl) (dd rfl)), (adc_le (wdx_rng _ _).2 (by rw [wrap64]; omega) (dd rfl))⟩ (aC (dd rfl) (aC (dd rfl) (aC rfl (aC ⟨(wdx_rng _ _).1, (wrap_nn (k := .u64) rfl), (dd rfl), (dd rfl)⟩ (aC ((congrArg (fun z => some (Blk.mk true [.ints .u64 4 z])) (W4_wdx _))) (aC (df (by have q1 := odd_X h1 h2 ha; have q2 := nafX_rng h1 h2 (nfV v a k); first | omega | (rw [nafD_b ha hb]; omega))) (aC (by have q := pw2_rng h1 h2; first | omega | exact wrap_nn rfl | exact (ad64_rng _ _ _).1 | (simp (disch := omega) only [wrapI]; omega)) (aC ⟨(by have q := pw2_rng h1 h2; first | omega | exact wrap_nn rfl | exact (ad64_rng _ _ _).1 | (simp (disch := omega) only [wrapI]; omega)), (by have q := pw2_rng h1 h2; first | omega | exact wrap_nn rfl | exact (ad64_rng _ _ _).1 | (simp (disch := omega) only [wrapI]; omega))⟩ (aC ((congrArg (fun z => AV.o (.a (.i .i64 z))) (naf_d h1 h2 ha hb))) (aC (by have q := pw2_rng h1 h2; first | omega | exact wrap_nn rfl | exact (ad64_rng _ _ _).1 | (simp (disch := omega) only [wrapI]; omega)) (aC (by rw [shl_w1 h1 h2]; exact decide_eq_true hb) (aC (by have q := pw2_rng h1 h2; first | omega | exact wrap_nn rfl | exact (ad64_rng _ _ _).1 | (simp (disch := omega) only [wrapI]; omega)) (aC ((congrArg (fun z => AV.o (.a (.i .i64 z))) (naf_x h1 h2 _))) (aC (by have q := pw2_rng h1 h2; first | omega | exact wrap_nn rfl | exact (ad64_rng _ _ _).1 | (simp (disch := omega) only [wrapI]; omega)) (aC (by show (bits2 .and .u64 (List.getD (W4 (nfV v a k)) 0 0) 1 == 1) = true; rw [W4_odd]; exact beq_iff_eq.2 ha) (aC (dt (by have q := pw2_rng h1 h2; first | omega | exact wrap_nn rfl | exact (ad64_rng _ _ _).1 | (simp (disch := omega) only [wrapI]; omega))) (AllP_nil))))))))))))))))))))))))))))))))))))))))))))))))))))))))))))))))))))))))))))))))))))
 rw [e0, e1, e2] at h
 exact h

theorem nfL_round_1 (a : List Int) (v : Int) (h0 : (Byt a)) (h1 : ((2 : Int) ≤ v)) (h2 : (v ≤ (8 : Int))) (hv0 : a.length = 32) (w : World) (rw : List Nat) (β : Env) (k : Nat) (hk : k < 256) (s : Unit) (ha : (nfV v a k) % 2 = 1) (hb : ¬ nafX v (nfV v a k) ≥ pw2 (v - 1)) : Run Try.prog ⟨w, rw, 0, β⟩ (loopB Try.f59 0) (nfL_mk a v k s) (To ⟨w, rw, 0, β⟩ .normal (nfL_mk a v (k + 1) (moL_step k s))) := by
 have e0 : ([(bits2 .or .u64 (shr .u64 (wdx (nafW v (nfV v a k)) 0) (1 : Int)) (shl .u64 (wdx (nafW v (nfV v a k)) 1) (63 : Int))), (bits2 .or .u64 (shr .u64 (wdx (nafW v (nfV v a k)) 1) (1 : Int)) (shl .u64 (wdx (nafW v (nfV v a k)) 2) (63 : Int))), (bits2 .or .u64 (shr .u64 (wdx (nafW v (nfV v a k)) 2) (1 : Int)) (shl .u64 (wdx (nafW v (nfV v a k)) 3) (63 : Int))), (shr .u64 (wdx (nafW v (nfV v a k)) 3) (1 : Int))] : List Int) = (W4 (nfV v a (k + 1))) := (by first | exact wrap_succ (by omega) | omega | (rw [← nafD_s ha hb]; exact nfO_s hk) | exact naf_half (nafW_rng h1 h2 (nfV_rng h1 h2 a k)))
 have e1 := wrap_succ (n := k) (by omega)
 have e2 : (List.set (nfO v a k) k (nafX v (nfV v a k))) = (nfO v a (k + (1 : Nat))) := (by first | exact wrap_succ (by omega) | omega | (rw [← nafD_s ha hb]; exact nfO_s hk) | exact naf_half (nafW_rng h1 h2 (nfV_rng h1 h2 a k)))
 have h := Run.of_outT (B := ⟨w, rw, 0, β⟩) (Λ := noLam) (Ψ := psiOf [(9, [.eqS 9 (.o (.a (.i .i64 (nafX v (nfV v a k)))))]), (21, [.eqB 1 (⟨true, [.ints .u64 4 ([(wdx (nafW v (nfV v a k)) 0), (wdx (nafW v (nfV v a k)) 1), (wdx (nafW v (nfV v a k)) 2), (wdx (nafW v (nfV v a k)) 3)] : List Int)]⟩)])]) (fuel := 6) (ora := [true, true, false, true, true, true, true, true, true, true, true, false, false]) (c := (loopB Try.f59 0)) (st := (nfL_mk a v k s)) (l := [.forget [0, 1, 2, 4, 5, 6, 7, 13, 14, 15, 16, 17, 18, 19, 20, 21, 22] 3]) (s' := ⟨sparse 106 [(0, .o (.g [.ints .u8 32 a])), (1, .o (.a (.i .i64 v))), (2, .o (.a (.p 0 0))), (4, .o (.a nlA)), (5, .o (.a (.i .i64 0))), (6, .o (.a (.p 1 0))), (7, .o (.a (.sl 2 0 256 256))), (13, .o (.a (.i .i64 v))), (14, .o (.a (.b (decide (v < (2 : Int)))))), (15, .o (.a (.b (decide (v < (2 : Int)))))), (16, .o (.a (.i .i64 v))), (17, .o (.a (.b (decide (v > (8 : Int)))))), (18, .o (.a (.b (decide (v > (8 : Int)))))), (19, .o (.g [.ints .u8 32 a])), (20, .o (.g [.ints .u64 4 (W4 (modL (BV a)))])), (21, .o (.a (.sl 2 0 256 256))), (22, .o (.a (.i .i64 (IntKind.i64.wrap ((k : Int) + 1)))))], [bT [.ints .u8 32 a], bT [.ints .u64 4 ([(bits2 .or .u64 (shr .u64 (wdx (nafW v (nfV v a k)) 0) (1 : Int)) (shl .u64 (wdx (nafW v (nfV v a k)) 1) (63 : Int))), (bits2 .or .u64 (shr .u64 (wdx (nafW v (nfV v a k)) 1) (1 : Int)) (shl .u64 (wdx (nafW v (nfV v a k)) 2) (63 : Int))), (bits2 .or .u64 (shr .u64 (wdx (nafW v (nfV v a k)) 2) (1 : Int)) (shl .u64 (wdx (nafW v (nfV v a k)) 3) (63 : Int))), (shr .u64 (wdx (nafW v (nfV v a k)) 3) (1 : Int))] : List Int)], bT [.ints .i64 256 (List.set (nfO v a k) k (nafX v (nfV v a k)))]]⟩) (ex := .normal) mix tabOkRK gam72_ok
  (vc := [(false = false), (false = false), (cN 3 4), (cI 3 4), (cZ 1), (cN 3 4), (cI 3 4), cT, (cN 2 4), (cI 2 4), (cZ 63), (cN 3 4), (cI 3 4), (cN 2 4), (cI 2 4), cT, (cN 2 4), (cI 2 4), (cZ 1), (cN 2 4), (cI 2 4), cT, (cN 1 4), (cI 1 4), (cZ 63), (cN 2 4), (cI 2 4), (cN 1 4), (cI 1 4), cT, (cN 1 4), (cI 1 4), (cZ 1), (cN 1 4), (cI 1 4), cT, (cN 0 4), (cI 0 4), (cZ 63), (cN 1 4), (cI 1 4), (cN 0 4), (cI 0 4), cT, (cN 0 4), (cI 0 4), (cZ 1), (cN 0 4), (cI 0 4), cT, ((bT [.ints .u64 4 (W4 (difR (V4 (W4 (nfV v a k))) (V4 ([(IntKind.u64.wrap (nafX v (nfV v a k))), 0, 0, 0] : List Int))))] : Option Blk) = bT [.ints .u64 4 ([(wdx (nafW v (nfV v a k)) 0), (wdx (nafW v (nfV v a k)) 1), (wdx (nafW v (nfV v a k)) 2), (wdx (nafW v (nfV v a k)) 3)] : List Int)]), ((Wds (W4 (nfV v a k))) ∧ (Wds ([(IntKind.u64.wrap (nafX v (nfV v a k))), 0, 0, 0] : List Int))), ((decide ((nafX v (nfV v a k)) > (0 : Int))) = true), (k < 256), ((0 ≤ (k : Int)) ∧ ((k : Int) < 256)), ((decide ((nafX v (nfV v a k)) ≥ (shl .i64 (1 : Int) (IntKind.i64.wrap (v - (1 : Int)))))) = false), ((0 : Int) ≤ (IntKind.i64.wrap (v - (1 : Int)))), ((.o (.a (.i .i64 (IntKind.i64.wrap (bits2 .and .u64 (List.getD (sub (W4 (nfV v a k)) 0 1) 0 0) (IntKind.u64.wrap ((shl .u64 (1 : Int) v) - 1)))))) : AV) = .o (.a (.i .i64 (nafX v (nfV v a k))))), ((0 : Int) ≤ v), (((bits2 .and .u64 (List.getD (sub (W4 (nfV v a k)) 0 1) 0 0) (1 : Int)) == (1 : Int)) = true), ((decide ((k : Int) < 256)) = true)]) (by kernel_rfl)
  (aC rfl (aC rfl (aC (dd rfl) (aC (dd rfl) (aC (dd rfl) (aC (dd rfl) (aC (dd rfl) (aC rfl (aC (dd rfl) (aC (dd rfl) (aC (dd rfl) (aC (dd rfl) (aC (dd rfl) (aC (dd rfl) (aC (dd rfl) (aC rfl (aC (dd rfl) (aC (dd rfl) (aC (dd rfl) (aC (dd rfl) (aC (dd rfl) (aC rfl (aC (dd rfl) (aC (dd rfl) (aC (dd rfl) (aC (dd rfl) (aC (dd rfl) (aC (dd rfl) (aC (dd rfl) (aC rfl (aC (dd rfl) (aC (dd rfl) (aC (dd rfl) (aC (dd rfl) (aC (dd rfl) (aC rfl (aC (dd rfl) (aC (dd rfl) (aC (dd rfl) (aC (dd rfl) (aC (dd rfl) (aC (dd rfl) (aC (dd rfl) (aC rfl (aC (dd rfl) (aC (dd rfl) (aC (dd rfl) (aC (dd rfl) (aC (dd rfl) (aC rfl (aC ((by first | exact congrArg (fun z => some (Blk.mk true [.ints .u64 4 z])) (naf_w0 ha) | exact congrArg (fun z => some (Blk.mk true [.ints .u64 4 z])) (naf_w1 h1 h2 (nfV_rng h1 h2 a k) ha hb) | exact congrArg (fun z => some (Blk.mk true [.ints .u64 4 z])) (naf_w2 h1 h2 (nfV_rng h1 h2 a k) ha hb))) (aC ⟨(wds_W4 _), (wds_four ⟨wrap_nn rfl, by rw [wrap64]; omega⟩ (by omega) (by omega) (by omega))⟩ (aC (dt (by have q1 := odd_X h1 h2 ha; have q2 := nafX_rng h1 h2 (nfV v a k); first | omega | (rw [nafD_b ha hb]; omega))) (aC (by have q := pw2_rng h1 h2; first | omega | exact wrap_nn rfl | exact (ad64_rng _ _ _).1 | (simp (disch := omega) only [wrapI]; omega)) (aC ⟨(by have q := pw2_rng h1 h2; first | omega | exact wrap_nn rfl | exact (ad64_rng _ _ _).1 | (simp (disch := omega) only [wrapI]; omega)), (by have q := pw2_rng h1 h2; first | omega | exact wrap_nn rfl | exact (ad64_rng _ _ _).1 | (simp (disch := omega) only [wrapI]; omega))⟩ (aC (by rw [shl_w1 h1 h2]; exact decide_eq_false hb) (aC (by have q := pw2_rng h1 h2; first | omega | exact wrap_nn rfl | exact (ad64_rng _ _ _).1 | (simp (disch := omega) only [wrapI]; omega)) (aC ((congrArg (fun z => AV.o (.a (.i .i64 z))) (naf_x h1 h2 _))) (aC (by have q := pw2_rng h1 h2; first | omega | exact wrap_nn rfl | exact (ad64_rng _ _ _).1 | (simp (disch := omega) only [wrapI]; omega)) (aC (by show (bits2 .and .u64 (List.getD (W4 (nfV v a k)) 0 0) 1 == 1) = true; rw [W4_odd]; exact beq_iff_eq.2 ha) (aC (dt (by have q := pw2_rng h1 h2; first | omega | exact wrap_nn rfl | exact (ad64_rng _ _ _).1 | (simp (disch := omega) only [wrapI]; omega))) (AllP_nil))))))))))))))))))))))))))))))))))))))))))))))))))))))))))))))
 rw [e0, e1, e2] at h
 exact h

theorem nfL_round_2 (a : List Int) (v : Int) (h0 : (Byt a)) (h1 : ((2 : Int) ≤ v)) (h2 : (v ≤ (8 : Int))) (hv0 : a.length = 32) (w : World) (rw : List Nat) (β : Env) (k : Nat) (hk : k < 256) (s : Unit) (ha : ¬ (nfV v a k) % 2 = 1) : Run Try.prog ⟨w, rw, 0, β⟩ (loopB Try.f59 0) (nfL_mk a v k s) (To ⟨w, rw, 0, β⟩ .normal (nfL_mk a v (k + 1) (moL_step k s))) := by
 have e0 : ([(bits2 .or .u64 (shr .u64 (wdx (nafW v (nfV v a k)) 0) (1 : Int)) (shl .u64 (wdx (nafW v (nfV v a k)) 1) (63 : Int))), (bits2 .or .u64 (shr .u64 (wdx (nafW v (nfV v a k)) 1) (1 : Int)) (shl .u64 (wdx (nafW v (nfV v a k)) 2) (63 : Int))), (bits2 .or .u64 (shr .u64 (wdx (nafW v (nfV v a k)) 2) (1 : Int)) (shl .u64 (wdx (nafW v (nfV v a k)) 3) (63 : Int))), (shr .u64 (wdx (nafW v (nfV v a k)) 3) (1 : Int))] : List Int) = (W4 (nfV v a (k + 1))) := (by first | exact wrap_succ (by omega) | omega | exact nfO_z hk ha | exact naf_half (nafW_rng h1 h2 (nfV_rng h1 h2 a k)))
 have e1 := wrap_succ (n := k) (by omega)
 have e2 : (nfO v a k) = (nfO v a (k + (1 : Nat))) := (by first | exact wrap_succ (by omega) | omega | exact nfO_z hk ha | exact naf_half (nafW_rng h1 h2 (nfV_rng h1 h2 a k)))
 have h := Run.of_outT (B := ⟨w, rw, 0, β⟩) (Λ := noLam) (Ψ := psiOf [(21, [.eqB 1 (⟨true, [.ints .u64 4 ([(wdx (nafW v (nfV v a k)) 0), (wdx (nafW v (nfV v a k)) 1), (wdx (nafW v (nfV v a k)) 2), (wdx (nafW v (nfV v a k)) 3)] : List Int)]⟩)])]) (fuel := 6) (ora := [true, false, true, true, true, true, true, true, true, false, false]) (c := (loopB Try.f59 0)) (st := (nfL_mk a v k s)) (l := [.forget [0, 1, 2, 4, 5, 6, 7, 13, 14, 15, 16, 17, 18, 19, 20, 21, 22] 3]) (s' := ⟨sparse 106 [(0, .o (.g [.ints .u8 32 a])), (1, .o (.a (.i .i64 v))), (2, .o (.a (.p 0 0))), (4, .o (.a nlA)), (5, .o (.a (.i .i64 0))), (6, .o (.a (.p 1 0))), (7, .o (.a (.sl 2 0 256 256))), (13, .o (.a (.i .i64 v))), (14, .o (.a (.b (decide (v < (2 : Int)))))), (15, .o (.a (.b (decide (v < (2 : Int)))))), (16, .o (.a (.i .i64 v))), (17, .o (.a (.b (decide (v > (8 : Int)))))), (18, .o (.a (.b (decide (v > (8 : Int)))))), (19, .o (.g [.ints .u8 32 a])), (20, .o (.g [.ints .u64 4 (W4 (modL (BV a)))])), (21, .o (.a (.sl 2 0 256 256))), (22, .o (.a (.i .i64 (IntKind.i64.wrap ((k : Int) + 1)))))], [bT [.ints .u8 32 a], bT [.ints .u64 4 ([(bits2 .or .u64 (shr .u64 (wdx (nafW v (nfV v a k)) 0) (1 : Int)) (shl .u64 (wdx (nafW v (nfV v a k)) 1) (63 : Int))), (bits2 .or .u64 (shr .u64 (wdx (nafW v (nfV v a k)) 1) (1 : Int)) (shl .u64 (wdx (nafW v (nfV v a k)) 2) (63 : Int))), (bits2 .or .u64 (shr .u64 (wdx (nafW v (nfV v a k)) 2) (1 : Int)) (shl .u64 (wdx (nafW v (nfV v a k)) 3) (63 : Int))), (shr .u64 (wdx (nafW v (nfV v a k)) 3) (1 : Int))] : List Int)], bT [.ints .i64 256 (nfO v a k)]]⟩) (ex := .normal) mix tabOkRK gam72_ok
  (vc := [(false = false), (false = false), (cN 3 4), (cI 3 4), (cZ 1), (cN 3 4), (cI 3 4), cT, (cN 2 4), (cI 2 4), (cZ 63), (cN 3 4), (cI 3 4), (cN 2 4), (cI 2 4), cT, (cN 2 4), (cI 2 4), (cZ 1), (cN 2 4), (cI 2 4), cT, (cN 1 4), (cI 1 4), (cZ 63), (cN 2 4), (cI 2 4), (cN 1 4), (cI 1 4), cT, (cN 1 4), (cI 1 4), (cZ 1), (cN 1 4), (cI 1 4), cT, (cN 0 4), (cI 0 4), (cZ 63), (cN 1 4), (cI 1 4), (cN 0 4), (cI 0 4), cT, (cN 0 4), (cI 0 4), (cZ 1), (cN 0 4), (cI 0 4), cT, ((bT [.ints .u64 4 (W4 (nfV v a k))] : Option Blk) = bT [.ints .u64 4 ([(wdx (nafW v (nfV v a k)) 0), (wdx (nafW v (nfV v a k)) 1), (wdx (nafW v (nfV v a k)) 2), (wdx (nafW v (nfV v a k)) 3)] : List Int)]), (((bits2 .and .u64 (List.getD (sub (W4 (nfV v a k)) 0 1) 0 0) (1 : Int)) == (1 : Int)) = false), ((decide ((k : Int) < 256)) = true)]) (by kernel_rfl)
  (aC rfl (aC rfl (aC (dd rfl) (aC (dd rfl) (aC (dd rfl) (aC (dd rfl) (aC (dd rfl) (aC rfl (aC (dd rfl) (aC (dd rfl) (aC (dd rfl) (aC (dd rfl) (aC (dd rfl) (aC (dd rfl) (aC (dd rfl) (aC rfl (aC (dd rfl) (aC (dd rfl) (aC (dd rfl) (aC (dd rfl) (aC (dd rfl) (aC rfl (aC (dd rfl) (aC (dd rfl) (aC (dd rfl) (aC (dd rfl) (aC (dd rfl) (aC (dd rfl) (aC (dd rfl) (aC rfl (aC (dd rfl) (aC (dd rfl) (aC (dd rfl) (aC (dd rfl) (aC (dd rfl) (aC rfl (aC (dd rfl) (aC (dd rfl) (aC (dd rfl) (aC (dd rfl) (aC (dd rfl) (aC (dd rfl) (aC (dd rfl) (aC rfl (aC (dd rfl) (aC (dd rfl) (aC (dd rfl) (aC (dd rfl) (aC (dd rfl) (aC rfl (aC ((by first | exact congrArg (fun z => some (Blk.mk true [.ints .u64 4 z])) (naf_w0 ha) | exact congrArg (fun z => some (Blk.mk true [.ints .u64 4 z])) (naf_w1 h1 h2 (nfV_rng h1 h2 a k) ha hb) | exact congrArg (fun z => some (Blk.mk true [.ints .u64 4 z])) (naf_w2 h1 h2 (nfV_rng h1 h2 a k) ha hb))) (aC (by show (bits2 .and .u64 (List.getD (W4 (nfV v a k)) 0 0) 1 == 1) = false; rw [W4_odd]; exact beq_eq_false_iff_ne.2 ha) (aC (dt (by have q := pw2_rng h1 h2; first | omega | exact wrap_nn rfl | exact (ad64_rng _ _ _).1 | (simp (disch := omega) only [wrapI]; omega))) (AllP_nil))))))))))))))))))))))))))))))))))))))))))))))))))))))
 rw [e0, e1, e2] at h
 exact h

theorem nfL_round (a : List Int) (v : Int) (h0 : (Byt a)) (h1 : ((2 : Int) ≤ v)) (h2 : (v ≤ (8 : Int))) (hv0 : a.length = 32) (w : World) (rw : List Nat) (β : Env) (k : Nat) (hk : k < 256) (s : Unit) : Run Try.prog ⟨w, rw, 0, β⟩ (loopB Try.f59 0) (nfL_mk a v k s) (To ⟨w, rw, 0, β⟩ .normal (nfL_mk a v (k + 1) (moL_step k s))) := by
 by_cases ha : (nfV v a k) % 2 = 1
 ·by_cases hb : nafX v (nfV v a k) ≥ pw2 (v - 1)
  ·exact nfL_round_0 a v h0 h1 h2 hv0 w rw β k hk s ha hb
  ·exact nfL_round_1 a v h0 h1 h2 hv0 w rw β k hk s ha hb
 ·exact nfL_round_2 a v h0 h1 h2 hv0 w rw β k hk s ha

theorem nfL_last (a : List Int) (v : Int) (h0 : (Byt a)) (h1 : ((2 : Int) ≤ v)) (h2 : (v ≤ (8 : Int))) (hv0 : a.length = 32) (w : World) (rw : List Nat) (β : Env) (s : Unit) : Run Try.prog ⟨w, rw, 0, β⟩ (loopB Try.f59 0) (nfL_mk a v 256 s) (To ⟨w, rw, 0, β⟩ (.exit 0) (nfL_mk a v 256 s)) :=
 Run.of_outT (Λ := noLam) (Ψ := noPsi) (fuel := 6) (ora := [false]) (l := [.forget [0, 1, 2, 4, 5, 6, 7, 13, 14, 15, 16, 17, 18, 19, 20, 21, 22] 3]) mix tabOkRK gam72_ok
  (vc := [(false = false)]) (by kernel_rfl)
  (aC rfl (AllP_nil))

theorem nfL_loop (a : List Int) (v : Int) (h0 : (Byt a)) (h1 : ((2 : Int) ≤ v)) (h2 : (v ≤ (8 : Int))) (hv0 : a.length = 32) (w : World) (rw : List Nat) (β : Env) (s : Unit) : Run Try.prog ⟨w, rw, 0, β⟩ (.block 0 (.loop (loopB Try.f59 0))) (nfL_mk a v 0 s) (To ⟨w, rw, 0, β⟩ .normal (nfL_mk a v 256 (iter (moL_step) 256 s))) :=
 Run.count (fun k => nfL_mk a v k (iter (moL_step) k s)) 256 (fun k hk => nfL_round a v h0 h1 h2 hv0 w rw β k hk _) (ex := (.exit 0)) (by simp) (nfL_last a v h0 h1 h2 hv0 w rw β _)

def nafP (a : List Int) (v : Int) : List Int :=
 (W4 (nfV v a 256))

def nafP_1 (a : List Int) (v : Int) : List Int :=
 (nfO v a 256)

theorem nafP_body0 (a : List Int) (v : Int) (h0 : (Byt a)) (h1 : ((2 : Int) ≤ v)) (h2 : (v ≤ (8 : Int))) (hv0 : a.length = 32) (w : World) (rw : List Nat) (β : Env) : Body Try.prog (tabOf tabRK) Try.f59 ⟨w, rw, 0, β⟩ [.o (.g [.ints .u8 32 a]), .o (.a (.i .i64 v))] [] (fun ys K' => ys = [.a (.sl 2 0 256 256), .a (.i .i64 0)] ∧ K' = [bT [.ints .u8 32 a], bT [.ints .u64 4 (nafP a v)], bT [.ints .i64 256 (nafP_1 a v)]]) :=
 Body.of_finK (Γ := gam72) (Λ := lamOf [(0, ⟨[.eqB 2 (⟨true, [.ints .i64 256 (nfO v a 0)]⟩), .eqB 1 (⟨true, [.ints .u64 4 (W4 (nfV v a 0))]⟩), .forget [0, 1, 2, 4, 5, 6, 7, 13, 14, 15, 16, 17, 18, 19, 20, 21, 22] 3], .normal, (nfL_mk a v 256 (iter (moL_step) 256 ()))⟩)]) (Ψ := noPsi) (fuel := 0) (m := 106) (c := (Try.f59.body.getD .skip)) mix tabOkRK gam72_ok rfl (rs := [.tmp 4, .tmp 5]) rfl rfl [true, true, false, false] [] 3
  (vc := (let p0_ : Prop := ((decide (v < (2 : Int))) = false); [(Run Try.prog ⟨w, rw, 0, β⟩ (.block 0 (.loop (loopB Try.f59 0))) (nfL_mk a v 0 ()) (To ⟨w, rw, 0, β⟩ .normal (nfL_mk a v 256 (iter (moL_step) 256 ())))), ((bT [.ints .u64 4 (W4 (modL (BV a)))] : Option Blk) = bT [.ints .u64 4 (W4 (nfV v a 0))]), ((bT [.ints .i64 256 (List.replicate 256 (0 : Int))] : Option Blk) = bT [.ints .i64 256 (nfO v a 0)]), ((cZ 256) ∧ ((256 : Int) ≤ 256) ∧ ((2048 : Int) ≤ 281474976710656)), (Byt a), ((decide (v > (8 : Int))) = false), p0_, p0_, p0_])) (by kernel_rfl)
  (aC (nfL_loop a v h0 h1 h2 hv0 w rw β ()) (aC ((by rfl)) (aC ((by rw [nfO_0])) (aC ⟨(dd rfl), (dd rfl), (dd rfl)⟩ (aC (by assumption) (aC (df (by omega)) (aC (df (by omega)) (aC (df (by omega)) (aC (df (by omega)) (AllP_nil))))))))))

theorem nafP_body (a : List Int) (v : Int) (h0 : (Byt a)) (h1 : ((2 : Int) ≤ v)) (h2 : (v ≤ (8 : Int))) (w : World) (rw : List Nat) (β : Env) : Body Try.prog (tabOf tabRK) Try.f59 ⟨w, rw, 0, β⟩ [.o (.g [.ints .u8 32 a]), .o (.a (.i .i64 v))] [] (fun ys K' => ys = [.a (.sl 2 0 256 256), .a (.i .i64 0)] ∧ K' = [bT [.ints .u8 32 a], bT [.ints .u64 4 (nafP a v)], bT [.ints .i64 256 (nafP_1 a v)]]) :=
 Body.lens (c := (Try.f59.body.getD .skip)) rfl fun h => nafP_body0 a v h0 h1 h2 (h.vals 0 _ _ _ rfl) w rw β

end Go.Proofs.Ytcpoldghkiiggaa.X

/- Printed by a tool of this session. -/
namespace Go.Proofs.Ytcpoldghkiiggaa.X
open Go Go.Proofs
set_option linter.unusedVariables false
set_option linter.unusedSimpArgs false
set_option maxRecDepth 100000
set_option maxHeartbeats 8000000
set_option maxHeartbeats 4000000
noncomputable def gam801 : Gam := gcall 62 [] [.w] (fun wk vs args => match wk, vs, args with | [], [], [.o (.g [.ints .u8 32 a])] => some ((Byt a), [.a (.sl 2 0 64 64)], [bT [.ints .u8 32 a], bT [.ints .u8 32 (digP a)], bT [.ints .i64 64 (digP_1 a)]]) | _, _, _ => none) gam88
theorem gam801_ok : GamOk Try.prog gam801 := gcall_ok tabOkRJ Try.func62 gam88_ok Try.call62 (by
 intro wk vs args p xs K1 h hv
 split at h
 ·simp only [Option.some.injEq, Prod.mk.injEq] at h; obtain ⟨rfl, rfl, rfl⟩ := h; have g0 := hv; exact fun caps w rw β => digP_body _ g0 w rw β
 ·simp at h)

noncomputable def gam802 : Gam := gcall 59 [] [.w, .w] (fun wk vs args => match wk, vs, args with | [], [], [.o (.g [.ints .u8 32 a]), .o (.a (.i .i64 v))] => some ((Byt a) ∧ ((2 : Int) ≤ v) ∧ (v ≤ (8 : Int)), [.a (.sl 2 0 256 256), .a (.i .i64 0)], [bT [.ints .u8 32 a], bT [.ints .u64 4 (nafP a v)], bT [.ints .i64 256 (nafP_1 a v)]]) | _, _, _ => none) gam801
theorem gam802_ok : GamOk Try.prog gam802 := gcall_ok tabOkRK Try.func59 gam801_ok Try.call59 (by
 intro wk vs args p xs K1 h hv
 split at h
 ·simp only [Option.some.injEq, Prod.mk.injEq] at h; obtain ⟨rfl, rfl, rfl⟩ := h; obtain ⟨g0, g1, g2⟩ := hv; exact fun caps w rw β => nafP_body _ _ g0 g1 g2 w rw β
 ·simp at h)

noncomputable def gam803 : Gam := gcall 44 [] [.s 32] (fun wk vs args => match wk, vs, args with | [], [⟨_, _, _, [.ints .u8 nm l]⟩], [.o (.a (.sl 0 0 n _))] => some ((nm = (n * 32)) ∧ (n ≤ 4398046510976) ∧ (Byt l) ∧ (IaP l n), [.a (.rs 1 0 n 32), .a (.i .i64 0), .a (.i .i64 0)], [bF [.ints .u8 nm l], bT [.ints .u8 (iaP n) (out2 l n n)]]) | _, _, _ => none) gam802
theorem gam803_ok : GamOk Try.prog gam803 := gcall_ok tabOkSH Try.func44 gam802_ok Try.call44 (by
 intro wk vs args p xs K1 h hv
 split at h
 ·simp only [Option.some.injEq, Prod.mk.injEq] at h; obtain ⟨rfl, rfl, rfl⟩ := h; obtain ⟨g0, g1, g2, g3⟩ := hv; exact fun caps w rw β => iaSome_body _ _ _ _ g0 g1 g2 g3 w rw β
 ·simp at h)

noncomputable def gam807 : Gam := gfull 66 (selE [.w, .w] 2 (gcallE [true, true] [.w, .w] (fun wk vs args => match wk, vs, args with | [⟨true, [.raw (.slice none 0 0), .raw (.slice none 0 0), .raw (.slice none 0 0), .raw (.slice none 0 0), .raw (.slice none 0 0), .raw (.slice none 0 0), .raw (.slice none 0 0), .raw (.slice none 0 0), .raw (.slice none 0 0), .raw (.slice none 0 0), .raw (.slice none 0 0), .raw (.slice none 0 0), .raw (.slice none 0 0), .raw (.slice none 0 0), .raw (.slice none 0 0), .raw (.slice none 0 0), .raw (.slice none 0 0), .raw (.slice none 0 0), .raw (.slice none 0 0), .raw (.slice none 0 0), .raw (.slice none 0 0)]⟩, ⟨true, [.ints .u8 s0 L0]⟩], [], [.o (.a (.p 0 0)), .o (.a (.rs 1 0 p0 32))] => some ((s0 = (p0 * 32)) ∧ (0 < p0), [], [bT [nlA, nlA, nlA, nlA, .rs 2 0 1 1, nlA, nlA, nlA, nlA, nlA, nlA, nlA, nlA, nlA, nlA, nlA, nlA, nlA, nlA, nlA, nlA], bT [.ints .u8 s0 L0], bT [.rs 1 0 p0 32]]) | _, _, _ => none)) (selE [.w, .w] 4 (gcallE [true, true, true, true] [.w, .w] (fun wk vs args => match wk, vs, args with | [⟨true, [.raw (.slice none 0 0), .raw (.slice none 0 0), .raw (.slice none 0 0), .raw (.slice none 0 0), .rs 1 0 1 1, .raw (.slice none 0 0), .raw (.slice none 0 0), .raw (.slice none 0 0), .raw (.slice none 0 0), .raw (.slice none 0 0), .raw (.slice none 0 0), .raw (.slice none 0 0), .raw (.slice none 0 0), .raw (.slice none 0 0), .raw (.slice none 0 0), .raw (.slice none 0 0), .raw (.slice none 0 0), .raw (.slice none 0 0), .raw (.slice none 0 0), .raw (.slice none 0 0), .raw (.slice none 0 0)]⟩, ⟨true, [.rs 2 0 p0 32]⟩, ⟨true, [.ints .u8 s0 L0]⟩, ⟨true, [.ints .u8 s1 L1]⟩], [], [.o (.a (.p 0 0)), .o (.a (.rs 3 0 p1 32))] => some ((s0 = (p0 * 32)) ∧ (s1 = (p1 * 32)) ∧ (0 < p1), [], [bT [nlA, nlA, nlA, nlA, .rs 4 0 2 1, nlA, nlA, nlA, nlA, nlA, nlA, nlA, nlA, nlA, nlA, nlA, nlA, nlA, nlA, nlA, nlA], none, bT [.ints .u8 s0 L0], bT [.ints .u8 s1 L1], bT [.rs 2 0 p0 32, .rs 3 0 p1 32]]) | _, _, _ => none)) (gcallE [true, true, true, true, true] [.w, .w] (fun wk vs args => match wk, vs, args with | [⟨true, [.raw (.slice none 0 0), .raw (.slice none 0 0), .raw (.slice none 0 0), .raw (.slice none 0 0), .rs 1 0 2 1, .raw (.slice none 0 0), .raw (.slice none 0 0), .raw (.slice none 0 0), .raw (.slice none 0 0), .raw (.slice none 0 0), .raw (.slice none 0 0), .raw (.slice none 0 0), .raw (.slice none 0 0), .raw (.slice none 0 0), .raw (.slice none 0 0), .raw (.slice none 0 0), .raw (.slice none 0 0), .raw (.slice none 0 0), .raw (.slice none 0 0), .raw (.slice none 0 0), .raw (.slice none 0 0)]⟩, ⟨true, [.rs 2 0 p0 32, .rs 3 0 p1 32]⟩, ⟨true, [.ints .u8 s0 L0]⟩, ⟨true, [.ints .u8 s1 L1]⟩, ⟨true, [.ints .u8 s2 L2]⟩], [], [.o (.a (.p 0 0)), .o (.a (.rs 4 0 p2 32))] => some ((s0 = (p0 * 32)) ∧ (s1 = (p1 * 32)) ∧ (s2 = (p2 * 32)) ∧ (0 < p2), [], [bT [nlA, nlA, nlA, nlA, .rs 5 0 3 1, nlA, nlA, nlA, nlA, nlA, nlA, nlA, nlA, nlA, nlA, nlA, nlA, nlA, nlA, nlA, nlA], none, bT [.ints .u8 s0 L0], bT [.ints .u8 s1 L1], bT [.ints .u8 s2 L2], bT [.rs 2 0 p0 32, .rs 3 0 p1 32, .rs 4 0 p2 32]]) | _, _, _ => none)))) gam803
theorem gam807_ok : GamOk Try.prog gam807 := gent_ok gam803_ok Try.call66 (selE_ent (gcallE_ent tabOkSF Try.func66 (by
 intro wk vs args p xs K1 h hv
 split at h
 ·simp only [Option.some.injEq, Prod.mk.injEq] at h; obtain ⟨rfl, rfl, rfl⟩ := h; obtain ⟨g0, g1⟩ := hv; exact fun caps w rw β => sy0_body _ _ _ g0 g1 w rw β
 ·simp at h)) (selE_ent (gcallE_ent tabOkSF Try.func66 (by
 intro wk vs args p xs K1 h hv
 split at h
 ·simp only [Option.some.injEq, Prod.mk.injEq] at h; obtain ⟨rfl, rfl, rfl⟩ := h; obtain ⟨g0, g1, g2⟩ := hv; exact fun caps w rw β => sy1_body _ _ _ _ _ _ g0 g1 g2 w rw β
 ·simp at h)) (gcallE_ent tabOkSF Try.func66 (by
 intro wk vs args p xs K1 h hv
 split at h
 ·simp only [Option.some.injEq, Prod.mk.injEq] at h; obtain ⟨rfl, rfl, rfl⟩ := h; obtain ⟨g0, g1, g2, g3⟩ := hv; exact fun caps w rw β => sy2_body _ _ _ _ _ _ _ _ _ g0 g1 g2 g3 w rw β
 ·simp at h))))

noncomputable def gam812 : Gam := gfull 67 (selE [.w, .w] 6 (gcallE [true, false, false, false, false, true] [.w, .w] (fun wk vs args => match wk, vs, args with | [⟨true, [.raw (.slice none 0 0), .raw (.slice none 0 0), .raw (.slice none 0 0), .raw (.slice none 0 0), .rs 1 0 3 1, .raw (.slice none 0 0), .raw (.slice none 0 0), .raw (.slice none 0 0), .raw (.slice none 0 0), .raw (.slice none 0 0), .raw (.slice none 0 0), .raw (.slice none 0 0), .raw (.slice none 0 0), .raw (.slice none 0 0), .raw (.slice none 0 0), .raw (.slice none 0 0), .raw (.slice none 0 0), .raw (.slice none 0 0), .raw (.slice none 0 0), .raw (.slice none 0 0), .raw (.slice none 0 0)]⟩, ⟨false, [.rs 2 0 p0 32, .rs 3 0 p1 32, .rs 4 0 p2 32]⟩, ⟨false, [.ints .u8 s0 S0]⟩, ⟨false, [.ints .u8 s1 S1]⟩, ⟨false, [.ints .u8 s2 S2]⟩, ⟨true, [.ints .i64 64 I0]⟩], [], [.o (.a (.p 0 0)), .o (.a (.sl 5 0 64 64))] => some ((s0 = (p0 * 32)) ∧ (s1 = (p1 * 32)) ∧ (s2 = (p2 * 32)), [], [bT [nlA, .rs 6 0 1 1, nlA, nlA, .rs 1 0 3 1, nlA, nlA, nlA, nlA, nlA, nlA, nlA, nlA, nlA, nlA, nlA, nlA, nlA, nlA, nlA, nlA], bF [.rs 2 0 p0 32, .rs 3 0 p1 32, .rs 4 0 p2 32], bF [.ints .u8 s0 S0], bF [.ints .u8 s1 S1], bF [.ints .u8 s2 S2], bT [.ints .i64 64 I0], bT [.rs 5 0 64 1]]) | _, _, _ => none)) (selE [.w, .w] 8 (gcallE [true, true, true, false, false, false, false, true] [.w, .w] (fun wk vs args => match wk, vs, args with | [⟨true, [.raw (.slice none 0 0), .rs 1 0 1 1, .raw (.slice none 0 0), .raw (.slice none 0 0), .rs 3 0 3 1, .raw (.slice none 0 0), .raw (.slice none 0 0), .raw (.slice none 0 0), .raw (.slice none 0 0), .raw (.slice none 0 0), .raw (.slice none 0 0), .raw (.slice none 0 0), .raw (.slice none 0 0), .raw (.slice none 0 0), .raw (.slice none 0 0), .raw (.slice none 0 0), .raw (.slice none 0 0), .raw (.slice none 0 0), .raw (.slice none 0 0), .raw (.slice none 0 0), .raw (.slice none 0 0)]⟩, ⟨true, [.rs 2 0 64 1]⟩, ⟨true, [.ints .i64 64 I0]⟩, ⟨false, [.rs 4 0 p0 32, .rs 5 0 p1 32, .rs 6 0 p2 32]⟩, ⟨false, [.ints .u8 s0 S0]⟩, ⟨false, [.ints .u8 s1 S1]⟩, ⟨false, [.ints .u8 s2 S2]⟩, ⟨true, [.ints .i64 256 I1]⟩], [], [.o (.a (.p 0 0)), .o (.a (.sl 7 0 256 256))] => some ((s0 = (p0 * 32)) ∧ (s1 = (p1 * 32)) ∧ (s2 = (p2 * 32)), [], [bT [nlA, .rs 8 0 2 1, nlA, nlA, .rs 3 0 3 1, nlA, nlA, nlA, nlA, nlA, nlA, nlA, nlA, nlA, nlA, nlA, nlA, nlA, nlA, nlA, nlA], none, bT [.ints .i64 64 I0], bF [.rs 4 0 p0 32, .rs 5 0 p1 32, .rs 6 0 p2 32], bF [.ints .u8 s0 S0], bF [.ints .u8 s1 S1], bF [.ints .u8 s2 S2], bT [.ints .i64 256 I1], bT [.rs 2 0 64 1, .rs 7 0 256 1]]) | _, _, _ => none)) (selE [.w, .w] 9 (gcallE [true, true, true, true, false, false, false, false, true] [.w, .w] (fun wk vs args => match wk, vs, args with | [⟨true, [.raw (.slice none 0 0), .rs 1 0 2 1, .raw (.slice none 0 0), .raw (.slice none 0 0), .rs 4 0 3 1, .raw (.slice none 0 0), .raw (.slice none 0 0), .raw (.slice none 0 0), .raw (.slice none 0 0), .raw (.slice none 0 0), .raw (.slice none 0 0), .raw (.slice none 0 0), .raw (.slice none 0 0), .raw (.slice none 0 0), .raw (.slice none 0 0), .raw (.slice none 0 0), .raw (.slice none 0 0), .raw (.slice none 0 0), .raw (.slice none 0 0), .raw (.slice none 0 0), .raw (.slice none 0 0)]⟩, ⟨true, [.rs 2 0 64 1, .rs 3 0 256 1]⟩, ⟨true, [.ints .i64 64 I0]⟩, ⟨true, [.ints .i64 256 I1]⟩, ⟨false, [.rs 5 0 p0 32, .rs 6 0 p1 32, .rs 7 0 p2 32]⟩, ⟨false, [.ints .u8 s0 S0]⟩, ⟨false, [.ints .u8 s1 S1]⟩, ⟨false, [.ints .u8 s2 S2]⟩, ⟨true, [.ints .i64 64 I2]⟩], [], [.o (.a (.p 0 0)), .o (.a (.sl 8 0 64 64))] => some ((s0 = (p0 * 32)) ∧ (s1 = (p1 * 32)) ∧ (s2 = (p2 * 32)), [], [bT [nlA, .rs 9 0 3 1, nlA, nlA, .rs 4 0 3 1, nlA, nlA, nlA, nlA, nlA, nlA, nlA, nlA, nlA, nlA, nlA, nlA, nlA, nlA, nlA, nlA], none, bT [.ints .i64 64 I0], bT [.ints .i64 256 I1], bF [.rs 5 0 p0 32, .rs 6 0 p1 32, .rs 7 0 p2 32], bF [.ints .u8 s0 S0], bF [.ints .u8 s1 S1], bF [.ints .u8 s2 S2], bT [.ints .i64 64 I2], bT [.rs 2 0 64 1, .rs 3 0 256 1, .rs 8 0 64 1]]) | _, _, _ => none)) (gcallE [true, true, true, true, true, false, false, false, false, true] [.w, .w] (fun wk vs args => match wk, vs, args with | [⟨true, [.raw (.slice none 0 0), .rs 1 0 3 1, .raw (.slice none 0 0), .raw (.slice none 0 0), .rs 5 0 3 1, .raw (.slice none 0 0), .raw (.slice none 0 0), .raw (.slice none 0 0), .raw (.slice none 0 0), .raw (.slice none 0 0), .raw (.slice none 0 0), .raw (.slice none 0 0), .raw (.slice none 0 0), .raw (.slice none 0 0), .raw (.slice none 0 0), .raw (.slice none 0 0), .raw (.slice none 0 0), .raw (.slice none 0 0), .raw (.slice none 0 0), .raw (.slice none 0 0), .raw (.slice none 0 0)]⟩, ⟨true, [.rs 2 0 64 1, .rs 3 0 256 1, .rs 4 0 64 1]⟩, ⟨true, [.ints .i64 64 I0]⟩, ⟨true, [.ints .i64 256 I1]⟩, ⟨true, [.ints .i64 64 I2]⟩, ⟨false, [.rs 6 0 p0 32, .rs 7 0 p1 32, .rs 8 0 p2 32]⟩, ⟨false, [.ints .u8 s0 S0]⟩, ⟨false, [.ints .u8 s1 S1]⟩, ⟨false, [.ints .u8 s2 S2]⟩, ⟨true, [.ints .i64 256 I3]⟩], [], [.o (.a (.p 0 0)), .o (.a (.sl 9 0 256 256))] => some ((s0 = (p0 * 32)) ∧ (s1 = (p1 * 32)) ∧ (s2 = (p2 * 32)), [], [bT [nlA, .rs 10 0 4 1, nlA, nlA, .rs 5 0 3 1, nlA, nlA, nlA, nlA, nlA, nlA, nlA, nlA, nlA, nlA, nlA, nlA, nlA, nlA, nlA, nlA], none, bT [.ints .i64 64 I0], bT [.ints .i64 256 I1], bT [.ints .i64 64 I2], bF [.rs 6 0 p0 32, .rs 7 0 p1 32, .rs 8 0 p2 32], bF [.ints .u8 s0 S0], bF [.ints .u8 s1 S1], bF [.ints .u8 s2 S2], bT [.ints .i64 256 I3], bT [.rs 2 0 64 1, .rs 3 0 256 1, .rs 4 0 64 1, .rs 9 0 256 1]]) | _, _, _ => none))))) gam807
theorem gam812_ok : GamOk Try.prog gam812 := gent_ok gam807_ok Try.call67 (selE_ent (gcallE_ent tabOkSG Try.func67 (by
 intro wk vs args p xs K1 h hv
 split at h
 ·simp only [Option.some.injEq, Prod.mk.injEq] at h; obtain ⟨rfl, rfl, rfl⟩ := h; obtain ⟨g0, g1, g2⟩ := hv; exact fun caps w rw β => iy30_body _ _ _ _ _ _ _ _ _ _ g0 g1 g2 w rw β
 ·simp at h)) (selE_ent (gcallE_ent tabOkSG Try.func67 (by
 intro wk vs args p xs K1 h hv
 split at h
 ·simp only [Option.some.injEq, Prod.mk.injEq] at h; obtain ⟨rfl, rfl, rfl⟩ := h; obtain ⟨g0, g1, g2⟩ := hv; exact fun caps w rw β => iy31_body _ _ _ _ _ _ _ _ _ _ _ g0 g1 g2 w rw β
 ·simp at h)) (selE_ent (gcallE_ent tabOkSG Try.func67 (by
 intro wk vs args p xs K1 h hv
 split at h
 ·simp only [Option.some.injEq, Prod.mk.injEq] at h; obtain ⟨rfl, rfl, rfl⟩ := h; obtain ⟨g0, g1, g2⟩ := hv; exact fun caps w rw β => iy32_body _ _ _ _ _ _ _ _ _ _ _ _ g0 g1 g2 w rw β
 ·simp at h)) (gcallE_ent tabOkSG Try.func67 (by
 intro wk vs args p xs K1 h hv
 split at h
 ·simp only [Option.some.injEq, Prod.mk.injEq] at h; obtain ⟨rfl, rfl, rfl⟩ := h; obtain ⟨g0, g1, g2⟩ := hv; exact fun caps w rw β => iy33_body _ _ _ _ _ _ _ _ _ _ _ _ _ g0 g1 g2 w rw β
 ·simp at h)))))

noncomputable def gam813 : Gam := gcall 68 [false, false, true, true, true, true, false, true, true, true] [.w] (fun wk vs args => match wk, vs, args with | [⟨false, [.raw (.slice none 0 0), .rs 1 0 4 1, .raw (.slice none 0 0), .raw (.slice none 0 0), .rs 6 0 3 1, .raw (.slice none 0 0), .raw (.slice none 0 0), .raw (.slice none 0 0), .raw (.slice none 0 0), .raw (.slice none 0 0), .raw (.slice none 0 0), .raw (.slice none 0 0), .raw (.slice none 0 0), .raw (.slice none 0 0), .raw (.slice none 0 0), .raw (.slice none 0 0), .raw (.slice none 0 0), .raw (.slice none 0 0), .raw (.slice none 0 0), .raw (.slice none 0 0), .raw (.slice none 0 0)]⟩, ⟨false, [.rs 2 0 64 1, .rs 3 0 256 1, .rs 4 0 64 1, .rs 5 0 256 1]⟩, ⟨true, [.ints .i64 64 I0]⟩, ⟨true, [.ints .i64 256 I1]⟩, ⟨true, [.ints .i64 64 I2]⟩, ⟨true, [.ints .i64 256 I3]⟩, ⟨false, [.rs 7 0 n 32, .rs 8 0 m 32, .rs 9 0 n_1 32]⟩, ⟨true, [.ints .u8 s0 S0]⟩, ⟨true, [.ints .u8 s1 S1]⟩, ⟨true, [.ints .u8 s2 S2]⟩], [], [.o (.a (.p 0 0))] => some ((n_1 = n) ∧ (m < 1099511627776) ∧ (n < 1099511627776) ∧ (s0 = (n * 32)) ∧ (s1 = (m * 32)) ∧ (s2 = (n * 32)), [.a (.b true)], [bF [nlA, .rs 1 0 4 1, nlA, nlA, .rs 6 0 3 1, nlA, nlA, nlA, nlA, nlA, nlA, nlA, nlA, nlA, nlA, nlA, nlA, nlA, nlA, nlA, nlA], bF [.rs 2 0 64 1, .rs 3 0 256 1, .rs 4 0 64 1, .rs 5 0 256 1], bF [.ints .i64 64 (biBk)], bF [.ints .i64 256 (biBk_1)], bF [.ints .i64 64 (biBk_2)], bF [.ints .i64 256 (biBk_3)], bF [.rs 7 0 n 32, .rs 8 0 m 32, .rs 9 0 n 32], bF [.ints .u8 (bs3Bk n) (bs1Bk_1 n)], bF [.ints .u8 (bs3Bk_2 m) (bs3Bk_3 m)], bF [.ints .u8 (bs3Bk n) (bs3Bk_4 n)]]) | _, _, _ => none) gam812
theorem gam813_ok : GamOk Try.prog gam813 := gcall_ok tabOkNE Try.func68 gam812_ok Try.call68 (by
 intro wk vs args p xs K1 h hv
 split at h
 ·simp only [Option.some.injEq, Prod.mk.injEq] at h; obtain ⟨rfl, rfl, rfl⟩ := h; obtain ⟨g0, g1, g2, g3, g4, g5⟩ := hv; subst g0; exact fun caps w rw β => apart3_body _ _ _ _ _ _ _ _ _ _ _ _ g1 g2 g3 g4 g5 w rw β
 ·simp at h)

noncomputable def gam816 : Gam := gfull 44 (selA (fun args => match args with | .o (.a (.sl _ _ _ _)) :: _ => true | _ => false) (gcallE [] [.s 32] (fun wk vs args => match wk, vs, args with | [], [⟨_, _, _, [.ints .u8 nm l]⟩], [.o (.a (.sl 0 0 n _))] => some ((nm = (n * 32)) ∧ (n ≤ 4398046510976) ∧ (Byt l) ∧ (IaZ l n), [.a (.rs 1 0 0 1), .a (.i .i64 (iaE n)), .a (.i .i64 (iaX l n))], [bF [.ints .u8 nm l], bT [.ints .u8 0 ([] : List Int)]]) | _, _, _ => none)) (gcallE [] [.s 32] (fun wk vs args => match wk, vs, args with | [], [⟨_, _, _, [.ints .u8 nm l]⟩], [.o (.a (.sl 0 0 n _))] => some ((nm = (n * 32)) ∧ (n ≤ 4398046510976) ∧ (Byt l) ∧ (IaP l n), [.a (.rs 1 0 n 32), .a (.i .i64 0), .a (.i .i64 0)], [bF [.ints .u8 nm l], bT [.ints .u8 (iaP n) (out2 l n n)]]) | _, _, _ => none))) gam802
theorem gam816_ok : GamOk Try.prog gam816 := gent_ok gam802_ok Try.call44 (selA_ent (gcallE_ent tabOkSH Try.func44 (by
 intro wk vs args p xs K1 h hv
 split at h
 ·simp only [Option.some.injEq, Prod.mk.injEq] at h; obtain ⟨rfl, rfl, rfl⟩ := h; obtain ⟨g0, g1, g2, g3⟩ := hv; exact fun caps w rw β => iaNone_body _ _ _ _ g0 g1 g2 g3 w rw β
 ·simp at h)) (gcallE_ent tabOkSH Try.func44 (by
 intro wk vs args p xs K1 h hv
 split at h
 ·simp only [Option.some.injEq, Prod.mk.injEq] at h; obtain ⟨rfl, rfl, rfl⟩ := h; obtain ⟨g0, g1, g2, g3⟩ := hv; exact fun caps w rw β => iaSome_body _ _ _ _ g0 g1 g2 g3 w rw β
 ·simp at h)))

noncomputable def gam820 : Gam := gfull 66 (selA (fun args => match args with | _ :: .o (.a (.rs _ _ _ 1)) :: _ => true | _ => false) (gcallE [true, true, true, true] [.w, .w] (fun wk vs args => match wk, vs, args with | [⟨true, [.raw (.slice none 0 0), .raw (.slice none 0 0), .raw (.slice none 0 0), .raw (.slice none 0 0), .rs 1 0 1 1, .raw (.slice none 0 0), .raw (.slice none 0 0), .raw (.slice none 0 0), .raw (.slice none 0 0), .raw (.slice none 0 0), .raw (.slice none 0 0), .raw (.slice none 0 0), .raw (.slice none 0 0), .raw (.slice none 0 0), .raw (.slice none 0 0), .raw (.slice none 0 0), .raw (.slice none 0 0), .raw (.slice none 0 0), .raw (.slice none 0 0), .raw (.slice none 0 0), .raw (.slice none 0 0)]⟩, ⟨true, [.rs 2 0 p0 32]⟩, ⟨true, [.ints .u8 s0 L0]⟩, ⟨true, [.ints .u8 0 L1]⟩], [], [.o (.a (.p 0 0)), .o (.a (.rs 3 0 0 1))] => some ((s0 = (p0 * 32)), [], [bT [nlA, nlA, nlA, nlA, .rs 1 0 1 1, nlA, nlA, nlA, nlA, nlA, nlA, nlA, nlA, nlA, nlA, nlA, nlA, nlA, nlA, nlA, nlA], bT [.rs 2 0 p0 32], bT [.ints .u8 s0 L0], bT [.ints .u8 0 L1]]) | _, _, _ => none)) (selE [.w, .w] 2 (gcallE [true, true] [.w, .w] (fun wk vs args => match wk, vs, args with | [⟨true, [.raw (.slice none 0 0), .raw (.slice none 0 0), .raw (.slice none 0 0), .raw (.slice none 0 0), .raw (.slice none 0 0), .raw (.slice none 0 0), .raw (.slice none 0 0), .raw (.slice none 0 0), .raw (.slice none 0 0), .raw (.slice none 0 0), .raw (.slice none 0 0), .raw (.slice none 0 0), .raw (.slice none 0 0), .raw (.slice none 0 0), .raw (.slice none 0 0), .raw (.slice none 0 0), .raw (.slice none 0 0), .raw (.slice none 0 0), .raw (.slice none 0 0), .raw (.slice none 0 0), .raw (.slice none 0 0)]⟩, ⟨true, [.ints .u8 s0 L0]⟩], [], [.o (.a (.p 0 0)), .o (.a (.rs 1 0 p0 32))] => some ((s0 = (p0 * 32)) ∧ (0 < p0), [], [bT [nlA, nlA, nlA, nlA, .rs 2 0 1 1, nlA, nlA, nlA, nlA, nlA, nlA, nlA, nlA, nlA, nlA, nlA, nlA, nlA, nlA, nlA, nlA], bT [.ints .u8 s0 L0], bT [.rs 1 0 p0 32]]) | _, _, _ => none)) (gcallE [true, true, true, true] [.w, .w] (fun wk vs args => match wk, vs, args with | [⟨true, [.raw (.slice none 0 0), .raw (.slice none 0 0), .raw (.slice none 0 0), .raw (.slice none 0 0), .rs 1 0 1 1, .raw (.slice none 0 0), .raw (.slice none 0 0), .raw (.slice none 0 0), .raw (.slice none 0 0), .raw (.slice none 0 0), .raw (.slice none 0 0), .raw (.slice none 0 0), .raw (.slice none 0 0), .raw (.slice none 0 0), .raw (.slice none 0 0), .raw (.slice none 0 0), .raw (.slice none 0 0), .raw (.slice none 0 0), .raw (.slice none 0 0), .raw (.slice none 0 0), .raw (.slice none 0 0)]⟩, ⟨true, [.rs 2 0 p0 32]⟩, ⟨true, [.ints .u8 s0 L0]⟩, ⟨true, [.ints .u8 s1 L1]⟩], [], [.o (.a (.p 0 0)), .o (.a (.rs 3 0 p1 32))] => some ((s0 = (p0 * 32)) ∧ (s1 = (p1 * 32)) ∧ (0 < p1), [], [bT [nlA, nlA, nlA, nlA, .rs 4 0 2 1, nlA, nlA, nlA, nlA, nlA, nlA, nlA, nlA, nlA, nlA, nlA, nlA, nlA, nlA, nlA, nlA], none, bT [.ints .u8 s0 L0], bT [.ints .u8 s1 L1], bT [.rs 2 0 p0 32, .rs 3 0 p1 32]]) | _, _, _ => none)))) gam816
theorem gam820_ok : GamOk Try.prog gam820 := gent_ok gam816_ok Try.call66 (selA_ent (gcallE_ent tabOkSF Try.func66 (by
 intro wk vs args p xs K1 h hv
 split at h
 ·simp only [Option.some.injEq, Prod.mk.injEq] at h; obtain ⟨rfl, rfl, rfl⟩ := h; have g0 := hv; exact fun caps w rw β => sz1_body _ _ _ _ g0 w rw β
 ·simp at h)) (selE_ent (gcallE_ent tabOkSF Try.func66 (by
 intro wk vs args p xs K1 h hv
 split at h
 ·simp only [Option.some.injEq, Prod.mk.injEq] at h; obtain ⟨rfl, rfl, rfl⟩ := h; obtain ⟨g0, g1⟩ := hv; exact fun caps w rw β => sy0_body _ _ _ g0 g1 w rw β
 ·simp at h)) (gcallE_ent tabOkSF Try.func66 (by
 intro wk vs args p xs K1 h hv
 split at h
 ·simp only [Option.some.injEq, Prod.mk.injEq] at h; obtain ⟨rfl, rfl, rfl⟩ := h; obtain ⟨g0, g1, g2⟩ := hv; exact fun caps w rw β => sy1_body _ _ _ _ _ _ g0 g1 g2 w rw β
 ·simp at h))))

noncomputable def gam825 : Gam := gfull 67 (selE [.w, .w] 5 (gcallE [true, false, false, false, true] [.w, .w] (fun wk vs args => match wk, vs, args with | [⟨true, [.raw (.slice none 0 0), .raw (.slice none 0 0), .raw (.slice none 0 0), .raw (.slice none 0 0), .rs 1 0 2 1, .raw (.slice none 0 0), .raw (.slice none 0 0), .raw (.slice none 0 0), .raw (.slice none 0 0), .raw (.slice none 0 0), .raw (.slice none 0 0), .raw (.slice none 0 0), .raw (.slice none 0 0), .raw (.slice none 0 0), .raw (.slice none 0 0), .raw (.slice none 0 0), .raw (.slice none 0 0), .raw (.slice none 0 0), .raw (.slice none 0 0), .raw (.slice none 0 0), .raw (.slice none 0 0)]⟩, ⟨false, [.rs 2 0 p0 32, .rs 3 0 p1 32]⟩, ⟨false, [.ints .u8 s0 S0]⟩, ⟨false, [.ints .u8 s1 S1]⟩, ⟨true, [.ints .i64 64 I0]⟩], [], [.o (.a (.p 0 0)), .o (.a (.sl 4 0 64 64))] => some ((s0 = (p0 * 32)) ∧ (s1 = (p1 * 32)), [], [bT [nlA, .rs 5 0 1 1, nlA, nlA, .rs 1 0 2 1, nlA, nlA, nlA, nlA, nlA, nlA, nlA, nlA, nlA, nlA, nlA, nlA, nlA, nlA, nlA, nlA], bF [.rs 2 0 p0 32, .rs 3 0 p1 32], bF [.ints .u8 s0 S0], bF [.ints .u8 s1 S1], bT [.ints .i64 64 I0], bT [.rs 4 0 64 1]]) | _, _, _ => none)) (selE [.w, .w] 7 (gcallE [true, true, true, false, false, false, true] [.w, .w] (fun wk vs args => match wk, vs, args with | [⟨true, [.raw (.slice none 0 0), .rs 1 0 1 1, .raw (.slice none 0 0), .raw (.slice none 0 0), .rs 3 0 2 1, .raw (.slice none 0 0), .raw (.slice none 0 0), .raw (.slice none 0 0), .raw (.slice none 0 0), .raw (.slice none 0 0), .raw (.slice none 0 0), .raw (.slice none 0 0), .raw (.slice none 0 0), .raw (.slice none 0 0), .raw (.slice none 0 0), .raw (.slice none 0 0), .raw (.slice none 0 0), .raw (.slice none 0 0), .raw (.slice none 0 0), .raw (.slice none 0 0), .raw (.slice none 0 0)]⟩, ⟨true, [.rs 2 0 64 1]⟩, ⟨true, [.ints .i64 64 I0]⟩, ⟨false, [.rs 4 0 p0 32, .rs 5 0 p1 32]⟩, ⟨false, [.ints .u8 s0 S0]⟩, ⟨false, [.ints .u8 s1 S1]⟩, ⟨true, [.ints .i64 256 I1]⟩], [], [.o (.a (.p 0 0)), .o (.a (.sl 6 0 256 256))] => some ((s0 = (p0 * 32)) ∧ (s1 = (p1 * 32)), [], [bT [nlA, .rs 7 0 2 1, nlA, nlA, .rs 3 0 2 1, nlA, nlA, nlA, nlA, nlA, nlA, nlA, nlA, nlA, nlA, nlA, nlA, nlA, nlA, nlA, nlA], none, bT [.ints .i64 64 I0], bF [.rs 4 0 p0 32, .rs 5 0 p1 32], bF [.ints .u8 s0 S0], bF [.ints .u8 s1 S1], bT [.ints .i64 256 I1], bT [.rs 2 0 64 1, .rs 6 0 256 1]]) | _, _, _ => none)) (selE [.w, .w] 8 (gcallE [true, true, true, true, false, false, false, true] [.w, .w] (fun wk vs args => match wk, vs, args with | [⟨true, [.raw (.slice none 0 0), .rs 1 0 2 1, .raw (.slice none 0 0), .raw (.slice none 0 0), .rs 4 0 2 1, .raw (.slice none 0 0), .raw (.slice none 0 0), .raw (.slice none 0 0), .raw (.slice none 0 0), .raw (.slice none 0 0), .raw (.slice none 0 0), .raw (.slice none 0 0), .raw (.slice none 0 0), .raw (.slice none 0 0), .raw (.slice none 0 0), .raw (.slice none 0 0), .raw (.slice none 0 0), .raw (.slice none 0 0), .raw (.slice none 0 0), .raw (.slice none 0 0), .raw (.slice none 0 0)]⟩, ⟨true, [.rs 2 0 64 1, .rs 3 0 256 1]⟩, ⟨true, [.ints .i64 64 I0]⟩, ⟨true, [.ints .i64 256 I1]⟩, ⟨false, [.rs 5 0 p0 32, .rs 6 0 p1 32]⟩, ⟨false, [.ints .u8 s0 S0]⟩, ⟨false, [.ints .u8 s1 S1]⟩, ⟨true, [.ints .i64 64 I2]⟩], [], [.o (.a (.p 0 0)), .o (.a (.sl 7 0 64 64))] => some ((s0 = (p0 * 32)) ∧ (s1 = (p1 * 32)), [], [bT [nlA, .rs 8 0 3 1, nlA, nlA, .rs 4 0 2 1, nlA, nlA, nlA, nlA, nlA, nlA, nlA, nlA, nlA, nlA, nlA, nlA, nlA, nlA, nlA, nlA], none, bT [.ints .i64 64 I0], bT [.ints .i64 256 I1], bF [.rs 5 0 p0 32, .rs 6 0 p1 32], bF [.ints .u8 s0 S0], bF [.ints .u8 s1 S1], bT [.ints .i64 64 I2], bT [.rs 2 0 64 1, .rs 3 0 256 1, .rs 7 0 64 1]]) | _, _, _ => none)) (gcallE [true, true, true, true, true, false, false, false, true] [.w, .w] (fun wk vs args => match wk, vs, args with | [⟨true, [.raw (.slice none 0 0), .rs 1 0 3 1, .raw (.slice none 0 0), .raw (.slice none 0 0), .rs 5 0 2 1, .raw (.slice none 0 0), .raw (.slice none 0 0), .raw (.slice none 0 0), .raw (.slice none 0 0), .raw (.slice none 0 0), .raw (.slice none 0 0), .raw (.slice none 0 0), .raw (.slice none 0 0), .raw (.slice none 0 0), .raw (.slice none 0 0), .raw (.slice none 0 0), .raw (.slice none 0 0), .raw (.slice none 0 0), .raw (.slice none 0 0), .raw (.slice none 0 0), .raw (.slice none 0 0)]⟩, ⟨true, [.rs 2 0 64 1, .rs 3 0 256 1, .rs 4 0 64 1]⟩, ⟨true, [.ints .i64 64 I0]⟩, ⟨true, [.ints .i64 256 I1]⟩, ⟨true, [.ints .i64 64 I2]⟩, ⟨false, [.rs 6 0 p0 32, .rs 7 0 p1 32]⟩, ⟨false, [.ints .u8 s0 S0]⟩, ⟨false, [.ints .u8 s1 S1]⟩, ⟨true, [.ints .i64 256 I3]⟩], [], [.o (.a (.p 0 0)), .o (.a (.sl 8 0 256 256))] => some ((s0 = (p0 * 32)) ∧ (s1 = (p1 * 32)), [], [bT [nlA, .rs 9 0 4 1, nlA, nlA, .rs 5 0 2 1, nlA, nlA, nlA, nlA, nlA, nlA, nlA, nlA, nlA, nlA, nlA, nlA, nlA, nlA, nlA, nlA], none, bT [.ints .i64 64 I0], bT [.ints .i64 256 I1], bT [.ints .i64 64 I2], bF [.rs 6 0 p0 32, .rs 7 0 p1 32], bF [.ints .u8 s0 S0], bF [.ints .u8 s1 S1], bT [.ints .i64 256 I3], bT [.rs 2 0 64 1, .rs 3 0 256 1, .rs 4 0 64 1, .rs 8 0 256 1]]) | _, _, _ => none))))) gam820
theorem gam825_ok : GamOk Try.prog gam825 := gent_ok gam820_ok Try.call67 (selE_ent (gcallE_ent tabOkSG Try.func67 (by
 intro wk vs args p xs K1 h hv
 split at h
 ·simp only [Option.some.injEq, Prod.mk.injEq] at h; obtain ⟨rfl, rfl, rfl⟩ := h; obtain ⟨g0, g1⟩ := hv; exact fun caps w rw β => iy20_body _ _ _ _ _ _ _ g0 g1 w rw β
 ·simp at h)) (selE_ent (gcallE_ent tabOkSG Try.func67 (by
 intro wk vs args p xs K1 h hv
 split at h
 ·simp only [Option.some.injEq, Prod.mk.injEq] at h; obtain ⟨rfl, rfl, rfl⟩ := h; obtain ⟨g0, g1⟩ := hv; exact fun caps w rw β => iy21_body _ _ _ _ _ _ _ _ g0 g1 w rw β
 ·simp at h)) (selE_ent (gcallE_ent tabOkSG Try.func67 (by
 intro wk vs args p xs K1 h hv
 split at h
 ·simp only [Option.some.injEq, Prod.mk.injEq] at h; obtain ⟨rfl, rfl, rfl⟩ := h; obtain ⟨g0, g1⟩ := hv; exact fun caps w rw β => iy22_body _ _ _ _ _ _ _ _ _ g0 g1 w rw β
 ·simp at h)) (gcallE_ent tabOkSG Try.func67 (by
 intro wk vs args p xs K1 h hv
 split at h
 ·simp only [Option.some.injEq, Prod.mk.injEq] at h; obtain ⟨rfl, rfl, rfl⟩ := h; obtain ⟨g0, g1⟩ := hv; exact fun caps w rw β => iy23_body _ _ _ _ _ _ _ _ _ _ g0 g1 w rw β
 ·simp at h)))))

noncomputable def gam826 : Gam := gcall 68 [false, false, true, true, true, true, false, true, true] [.w] (fun wk vs args => match wk, vs, args with | [⟨false, [.raw (.slice none 0 0), .rs 1 0 4 1, .raw (.slice none 0 0), .raw (.slice none 0 0), .rs 6 0 2 1, .raw (.slice none 0 0), .raw (.slice none 0 0), .raw (.slice none 0 0), .raw (.slice none 0 0), .raw (.slice none 0 0), .raw (.slice none 0 0), .raw (.slice none 0 0), .raw (.slice none 0 0), .raw (.slice none 0 0), .raw (.slice none 0 0), .raw (.slice none 0 0), .raw (.slice none 0 0), .raw (.slice none 0 0), .raw (.slice none 0 0), .raw (.slice none 0 0), .raw (.slice none 0 0)]⟩, ⟨false, [.rs 2 0 64 1, .rs 3 0 256 1, .rs 4 0 64 1, .rs 5 0 256 1]⟩, ⟨true, [.ints .i64 64 I0]⟩, ⟨true, [.ints .i64 256 I1]⟩, ⟨true, [.ints .i64 64 I2]⟩, ⟨true, [.ints .i64 256 I3]⟩, ⟨false, [.rs 7 0 n 32, .rs 8 0 n_1 32]⟩, ⟨true, [.ints .u8 s0 S0]⟩, ⟨true, [.ints .u8 s1 S1]⟩], [], [.o (.a (.p 0 0))] => some ((n_1 = n) ∧ (n < 1099511627776) ∧ (s0 = (n * 32)) ∧ (s1 = (n * 32)), [.a (.b true)], [bF [nlA, .rs 1 0 4 1, nlA, nlA, .rs 6 0 2 1, nlA, nlA, nlA, nlA, nlA, nlA, nlA, nlA, nlA, nlA, nlA, nlA, nlA, nlA, nlA, nlA], bF [.rs 2 0 64 1, .rs 3 0 256 1, .rs 4 0 64 1, .rs 5 0 256 1], bF [.ints .i64 64 (biBk)], bF [.ints .i64 256 (biBk_1)], bF [.ints .i64 64 (biBk_2)], bF [.ints .i64 256 (biBk_3)], bF [.rs 7 0 n 32, .rs 8 0 n 32], bF [.ints .u8 (bs2Bk n) (bs1Bk_1 n)], bF [.ints .u8 (bs2Bk n) (bs2Bk_2 n)]]) | _, _, _ => none) gam825
theorem gam826_ok : GamOk Try.prog gam826 := gcall_ok tabOkNE Try.func68 gam825_ok Try.call68 (by
 intro wk vs args p xs K1 h hv
 split at h
 ·simp only [Option.some.injEq, Prod.mk.injEq] at h; obtain ⟨rfl, rfl, rfl⟩ := h; obtain ⟨g0, g1, g2, g3⟩ := hv; subst g0; exact fun caps w rw β => apart2_body _ _ _ _ _ _ _ _ _ g1 g2 g3 w rw β
 ·simp at h)

noncomputable def gam829 : Gam := gfull 44 (selA (fun args => match args with | .o (.a (.sl _ _ _ _)) :: _ => true | _ => false) (gcallE [] [.s 32] (fun wk vs args => match wk, vs, args with | [], [⟨_, _, _, [.ints .u8 nm l]⟩], [.o (.a (.sl 0 0 n _))] => some ((nm = (n * 32)) ∧ (n ≤ 4398046510976) ∧ (Byt l) ∧ (IaP l n), [.a (.rs 1 0 n 32), .a (.i .i64 0), .a (.i .i64 0)], [bF [.ints .u8 nm l], bT [.ints .u8 (iaP n) (out2 l n n)]]) | _, _, _ => none)) (gcallE [] [.s 32] (fun wk vs args => match wk, vs, args with | [], [⟨_, _, _, [.ints .u8 nm l]⟩], [.o (.a (.sl 0 0 n _))] => some ((nm = (n * 32)) ∧ (n ≤ 4398046510976) ∧ (Byt l) ∧ (IaZ l n), [.a (.rs 1 0 0 1), .a (.i .i64 (iaE n)), .a (.i .i64 (iaX l n))], [bF [.ints .u8 nm l], bT [.ints .u8 0 ([] : List Int)]]) | _, _, _ => none))) gam802
theorem gam829_ok : GamOk Try.prog gam829 := gent_ok gam802_ok Try.call44 (selA_ent (gcallE_ent tabOkSH Try.func44 (by
 intro wk vs args p xs K1 h hv
 split at h
 ·simp only [Option.some.injEq, Prod.mk.injEq] at h; obtain ⟨rfl, rfl, rfl⟩ := h; obtain ⟨g0, g1, g2, g3⟩ := hv; exact fun caps w rw β => iaSome_body _ _ _ _ g0 g1 g2 g3 w rw β
 ·simp at h)) (gcallE_ent tabOkSH Try.func44 (by
 intro wk vs args p xs K1 h hv
 split at h
 ·simp only [Option.some.injEq, Prod.mk.injEq] at h; obtain ⟨rfl, rfl, rfl⟩ := h; obtain ⟨g0, g1, g2, g3⟩ := hv; exact fun caps w rw β => iaNone_body _ _ _ _ g0 g1 g2 g3 w rw β
 ·simp at h)))

noncomputable def gam833 : Gam := gfull 66 (selA (fun args => match args with | _ :: .o (.a (.rs _ _ _ 1)) :: _ => true | _ => false) (selE [.w, .w] 2 (gcallE [true, true] [.w, .w] (fun wk vs args => match wk, vs, args with | [⟨true, [.raw (.slice none 0 0), .raw (.slice none 0 0), .raw (.slice none 0 0), .raw (.slice none 0 0), .raw (.slice none 0 0), .raw (.slice none 0 0), .raw (.slice none 0 0), .raw (.slice none 0 0), .raw (.slice none 0 0), .raw (.slice none 0 0), .raw (.slice none 0 0), .raw (.slice none 0 0), .raw (.slice none 0 0), .raw (.slice none 0 0), .raw (.slice none 0 0), .raw (.slice none 0 0), .raw (.slice none 0 0), .raw (.slice none 0 0), .raw (.slice none 0 0), .raw (.slice none 0 0), .raw (.slice none 0 0)]⟩, ⟨true, [.ints .u8 0 L0]⟩], [], [.o (.a (.p 0 0)), .o (.a (.rs 1 0 0 1))] => some (True, [], [bT [nlA, nlA, nlA, nlA, nlA, nlA, nlA, nlA, nlA, nlA, nlA, nlA, nlA, nlA, nlA, nlA, nlA, nlA, nlA, nlA, nlA], bT [.ints .u8 0 L0]]) | _, _, _ => none)) (gcallE [true, true, true, true] [.w, .w] (fun wk vs args => match wk, vs, args with | [⟨true, [.raw (.slice none 0 0), .raw (.slice none 0 0), .raw (.slice none 0 0), .raw (.slice none 0 0), .rs 1 0 1 1, .raw (.slice none 0 0), .raw (.slice none 0 0), .raw (.slice none 0 0), .raw (.slice none 0 0), .raw (.slice none 0 0), .raw (.slice none 0 0), .raw (.slice none 0 0), .raw (.slice none 0 0), .raw (.slice none 0 0), .raw (.slice none 0 0), .raw (.slice none 0 0), .raw (.slice none 0 0), .raw (.slice none 0 0), .raw (.slice none 0 0), .raw (.slice none 0 0), .raw (.slice none 0 0)]⟩, ⟨true, [.rs 2 0 p0 32]⟩, ⟨true, [.ints .u8 s0 L0]⟩, ⟨true, [.ints .u8 0 L1]⟩], [], [.o (.a (.p 0 0)), .o (.a (.rs 3 0 0 1))] => some ((s0 = (p0 * 32)), [], [bT [nlA, nlA, nlA, nlA, .rs 1 0 1 1, nlA, nlA, nlA, nlA, nlA, nlA, nlA, nlA, nlA, nlA, nlA, nlA, nlA, nlA, nlA, nlA], bT [.rs 2 0 p0 32], bT [.ints .u8 s0 L0], bT [.ints .u8 0 L1]]) | _, _, _ => none))) (gcallE [true, true] [.w, .w] (fun wk vs args => match wk, vs, args with | [⟨true, [.raw (.slice none 0 0), .raw (.slice none 0 0), .raw (.slice none 0 0), .raw (.slice none 0 0), .raw (.slice none 0 0), .raw (.slice none 0 0), .raw (.slice none 0 0), .raw (.slice none 0 0), .raw (.slice none 0 0), .raw (.slice none 0 0), .raw (.slice none 0 0), .raw (.slice none 0 0), .raw (.slice none 0 0), .raw (.slice none 0 0), .raw (.slice none 0 0), .raw (.slice none 0 0), .raw (.slice none 0 0), .raw (.slice none 0 0), .raw (.slice none 0 0), .raw (.slice none 0 0), .raw (.slice none 0 0)]⟩, ⟨true, [.ints .u8 s0 L0]⟩], [], [.o (.a (.p 0 0)), .o (.a (.rs 1 0 p0 32))] => some ((s0 = (p0 * 32)) ∧ (0 < p0), [], [bT [nlA, nlA, nlA, nlA, .rs 2 0 1 1, nlA, nlA, nlA, nlA, nlA, nlA, nlA, nlA, nlA, nlA, nlA, nlA, nlA, nlA, nlA, nlA], bT [.ints .u8 s0 L0], bT [.rs 1 0 p0 32]]) | _, _, _ => none))) gam829
theorem gam833_ok : GamOk Try.prog gam833 := gent_ok gam829_ok Try.call66 (selA_ent (selE_ent (gcallE_ent tabOkSF Try.func66 (by
 intro wk vs args p xs K1 h hv
 split at h
 ·simp only [Option.some.injEq, Prod.mk.injEq] at h; obtain ⟨rfl, rfl, rfl⟩ := h; exact fun caps w rw β => sz0_body _ w rw β
 ·simp at h)) (gcallE_ent tabOkSF Try.func66 (by
 intro wk vs args p xs K1 h hv
 split at h
 ·simp only [Option.some.injEq, Prod.mk.injEq] at h; obtain ⟨rfl, rfl, rfl⟩ := h; have g0 := hv; exact fun caps w rw β => sz1_body _ _ _ _ g0 w rw β
 ·simp at h))) (gcallE_ent tabOkSF Try.func66 (by
 intro wk vs args p xs K1 h hv
 split at h
 ·simp only [Option.some.injEq, Prod.mk.injEq] at h; obtain ⟨rfl, rfl, rfl⟩ := h; obtain ⟨g0, g1⟩ := hv; exact fun caps w rw β => sy0_body _ _ _ g0 g1 w rw β
 ·simp at h)))

noncomputable def gam838 : Gam := gfull 67 (selE [.w, .w] 4 (gcallE [true, false, false, true] [.w, .w] (fun wk vs args => match wk, vs, args with | [⟨true, [.raw (.slice none 0 0), .raw (.slice none 0 0), .raw (.slice none 0 0), .raw (.slice none 0 0), .rs 1 0 1 1, .raw (.slice none 0 0), .raw (.slice none 0 0), .raw (.slice none 0 0), .raw (.slice none 0 0), .raw (.slice none 0 0), .raw (.slice none 0 0), .raw (.slice none 0 0), .raw (.slice none 0 0), .raw (.slice none 0 0), .raw (.slice none 0 0), .raw (.slice none 0 0), .raw (.slice none 0 0), .raw (.slice none 0 0), .raw (.slice none 0 0), .raw (.slice none 0 0), .raw (.slice none 0 0)]⟩, ⟨false, [.rs 2 0 p0 32]⟩, ⟨false, [.ints .u8 s0 S0]⟩, ⟨true, [.ints .i64 64 I0]⟩], [], [.o (.a (.p 0 0)), .o (.a (.sl 3 0 64 64))] => some ((s0 = (p0 * 32)), [], [bT [nlA, .rs 4 0 1 1, nlA, nlA, .rs 1 0 1 1, nlA, nlA, nlA, nlA, nlA, nlA, nlA, nlA, nlA, nlA, nlA, nlA, nlA, nlA, nlA, nlA], bF [.rs 2 0 p0 32], bF [.ints .u8 s0 S0], bT [.ints .i64 64 I0], bT [.rs 3 0 64 1]]) | _, _, _ => none)) (selE [.w, .w] 6 (gcallE [true, true, true, false, false, true] [.w, .w] (fun wk vs args => match wk, vs, args with | [⟨true, [.raw (.slice none 0 0), .rs 1 0 1 1, .raw (.slice none 0 0), .raw (.slice none 0 0), .rs 3 0 1 1, .raw (.slice none 0 0), .raw (.slice none 0 0), .raw (.slice none 0 0), .raw (.slice none 0 0), .raw (.slice none 0 0), .raw (.slice none 0 0), .raw (.slice none 0 0), .raw (.slice none 0 0), .raw (.slice none 0 0), .raw (.slice none 0 0), .raw (.slice none 0 0), .raw (.slice none 0 0), .raw (.slice none 0 0), .raw (.slice none 0 0), .raw (.slice none 0 0), .raw (.slice none 0 0)]⟩, ⟨true, [.rs 2 0 64 1]⟩, ⟨true, [.ints .i64 64 I0]⟩, ⟨false, [.rs 4 0 p0 32]⟩, ⟨false, [.ints .u8 s0 S0]⟩, ⟨true, [.ints .i64 256 I1]⟩], [], [.o (.a (.p 0 0)), .o (.a (.sl 5 0 256 256))] => some ((s0 = (p0 * 32)), [], [bT [nlA, .rs 6 0 2 1, nlA, nlA, .rs 3 0 1 1, nlA, nlA, nlA, nlA, nlA, nlA, nlA, nlA, nlA, nlA, nlA, nlA, nlA, nlA, nlA, nlA], none, bT [.ints .i64 64 I0], bF [.rs 4 0 p0 32], bF [.ints .u8 s0 S0], bT [.ints .i64 256 I1], bT [.rs 2 0 64 1, .rs 5 0 256 1]]) | _, _, _ => none)) (selE [.w, .w] 7 (gcallE [true, true, true, true, false, false, true] [.w, .w] (fun wk vs args => match wk, vs, args with | [⟨true, [.raw (.slice none 0 0), .rs 1 0 2 1, .raw (.slice none 0 0), .raw (.slice none 0 0), .rs 4 0 1 1, .raw (.slice none 0 0), .raw (.slice none 0 0), .raw (.slice none 0 0), .raw (.slice none 0 0), .raw (.slice none 0 0), .raw (.slice none 0 0), .raw (.slice none 0 0), .raw (.slice none 0 0), .raw (.slice none 0 0), .raw (.slice none 0 0), .raw (.slice none 0 0), .raw (.slice none 0 0), .raw (.slice none 0 0), .raw (.slice none 0 0), .raw (.slice none 0 0), .raw (.slice none 0 0)]⟩, ⟨true, [.rs 2 0 64 1, .rs 3 0 256 1]⟩, ⟨true, [.ints .i64 64 I0]⟩, ⟨true, [.ints .i64 256 I1]⟩, ⟨false, [.rs 5 0 p0 32]⟩, ⟨false, [.ints .u8 s0 S0]⟩, ⟨true, [.ints .i64 64 I2]⟩], [], [.o (.a (.p 0 0)), .o (.a (.sl 6 0 64 64))] => some ((s0 = (p0 * 32)), [], [bT [nlA, .rs 7 0 3 1, nlA, nlA, .rs 4 0 1 1, nlA, nlA, nlA, nlA, nlA, nlA, nlA, nlA, nlA, nlA, nlA, nlA, nlA, nlA, nlA, nlA], none, bT [.ints .i64 64 I0], bT [.ints .i64 256 I1], bF [.rs 5 0 p0 32], bF [.ints .u8 s0 S0], bT [.ints .i64 64 I2], bT [.rs 2 0 64 1, .rs 3 0 256 1, .rs 6 0 64 1]]) | _, _, _ => none)) (gcallE [true, true, true, true, true, false, false, true] [.w, .w] (fun wk vs args => match wk, vs, args with | [⟨true, [.raw (.slice none 0 0), .rs 1 0 3 1, .raw (.slice none 0 0), .raw (.slice none 0 0), .rs 5 0 1 1, .raw (.slice none 0 0), .raw (.slice none 0 0), .raw (.slice none 0 0), .raw (.slice none 0 0), .raw (.slice none 0 0), .raw (.slice none 0 0), .raw (.slice none 0 0), .raw (.slice none 0 0), .raw (.slice none 0 0), .raw (.slice none 0 0), .raw (.slice none 0 0), .raw (.slice none 0 0), .raw (.slice none 0 0), .raw (.slice none 0 0), .raw (.slice none 0 0), .raw (.slice none 0 0)]⟩, ⟨true, [.rs 2 0 64 1, .rs 3 0 256 1, .rs 4 0 64 1]⟩, ⟨true, [.ints .i64 64 I0]⟩, ⟨true, [.ints .i64 256 I1]⟩, ⟨true, [.ints .i64 64 I2]⟩, ⟨false, [.rs 6 0 p0 32]⟩, ⟨false, [.ints .u8 s0 S0]⟩, ⟨true, [.ints .i64 256 I3]⟩], [], [.o (.a (.p 0 0)), .o (.a (.sl 7 0 256 256))] => some ((s0 = (p0 * 32)), [], [bT [nlA, .rs 8 0 4 1, nlA, nlA, .rs 5 0 1 1, nlA, nlA, nlA, nlA, nlA, nlA, nlA, nlA, nlA, nlA, nlA, nlA, nlA, nlA, nlA, nlA], none, bT [.ints .i64 64 I0], bT [.ints .i64 256 I1], bT [.ints .i64 64 I2], bF [.rs 6 0 p0 32], bF [.ints .u8 s0 S0], bT [.ints .i64 256 I3], bT [.rs 2 0 64 1, .rs 3 0 256 1, .rs 4 0 64 1, .rs 7 0 256 1]]) | _, _, _ => none))))) gam833
theorem gam838_ok : GamOk Try.prog gam838 := gent_ok gam833_ok Try.call67 (selE_ent (gcallE_ent tabOkSG Try.func67 (by
 intro wk vs args p xs K1 h hv
 split at h
 ·simp only [Option.some.injEq, Prod.mk.injEq] at h; obtain ⟨rfl, rfl, rfl⟩ := h; have g0 := hv; exact fun caps w rw β => iy10_body _ _ _ _ g0 w rw β
 ·simp at h)) (selE_ent (gcallE_ent tabOkSG Try.func67 (by
 intro wk vs args p xs K1 h hv
 split at h
 ·simp only [Option.some.injEq, Prod.mk.injEq] at h; obtain ⟨rfl, rfl, rfl⟩ := h; have g0 := hv; exact fun caps w rw β => iy11_body _ _ _ _ _ g0 w rw β
 ·simp at h)) (selE_ent (gcallE_ent tabOkSG Try.func67 (by
 intro wk vs args p xs K1 h hv
 split at h
 ·simp only [Option.some.injEq, Prod.mk.injEq] at h; obtain ⟨rfl, rfl, rfl⟩ := h; have g0 := hv; exact fun caps w rw β => iy12_body _ _ _ _ _ _ g0 w rw β
 ·simp at h)) (gcallE_ent tabOkSG Try.func67 (by
 intro wk vs args p xs K1 h hv
 split at h
 ·simp only [Option.some.injEq, Prod.mk.injEq] at h; obtain ⟨rfl, rfl, rfl⟩ := h; have g0 := hv; exact fun caps w rw β => iy13_body _ _ _ _ _ _ _ g0 w rw β
 ·simp at h)))))

noncomputable def gam839 : Gam := gcall 68 [false, false, true, true, true, true, false, true] [.w] (fun wk vs args => match wk, vs, args with | [⟨false, [.raw (.slice none 0 0), .rs 1 0 4 1, .raw (.slice none 0 0), .raw (.slice none 0 0), .rs 6 0 1 1, .raw (.slice none 0 0), .raw (.slice none 0 0), .raw (.slice none 0 0), .raw (.slice none 0 0), .raw (.slice none 0 0), .raw (.slice none 0 0), .raw (.slice none 0 0), .raw (.slice none 0 0), .raw (.slice none 0 0), .raw (.slice none 0 0), .raw (.slice none 0 0), .raw (.slice none 0 0), .raw (.slice none 0 0), .raw (.slice none 0 0), .raw (.slice none 0 0), .raw (.slice none 0 0)]⟩, ⟨false, [.rs 2 0 64 1, .rs 3 0 256 1, .rs 4 0 64 1, .rs 5 0 256 1]⟩, ⟨true, [.ints .i64 64 I0]⟩, ⟨true, [.ints .i64 256 I1]⟩, ⟨true, [.ints .i64 64 I2]⟩, ⟨true, [.ints .i64 256 I3]⟩, ⟨false, [.rs 7 0 n 32]⟩, ⟨true, [.ints .u8 s0 S0]⟩], [], [.o (.a (.p 0 0))] => some ((n < 1099511627776) ∧ (s0 = (n * 32)), [.a (.b true)], [bF [nlA, .rs 1 0 4 1, nlA, nlA, .rs 6 0 1 1, nlA, nlA, nlA, nlA, nlA, nlA, nlA, nlA, nlA, nlA, nlA, nlA, nlA, nlA, nlA, nlA], bF [.rs 2 0 64 1, .rs 3 0 256 1, .rs 4 0 64 1, .rs 5 0 256 1], bF [.ints .i64 64 (biBk)], bF [.ints .i64 256 (biBk_1)], bF [.ints .i64 64 (biBk_2)], bF [.ints .i64 256 (biBk_3)], bF [.rs 7 0 n 32], bF [.ints .u8 (bs1Bk n) (bs1Bk_1 n)]]) | _, _, _ => none) gam838
theorem gam839_ok : GamOk Try.prog gam839 := gcall_ok tabOkNE Try.func68 gam838_ok Try.call68 (by
 intro wk vs args p xs K1 h hv
 split at h
 ·simp only [Option.some.injEq, Prod.mk.injEq] at h; obtain ⟨rfl, rfl, rfl⟩ := h; obtain ⟨g0, g1⟩ := hv; exact fun caps w rw β => apart1_body _ _ _ _ _ _ _ g0 g1 w rw β
 ·simp at h)

noncomputable def gam840 : Gam := gcall 44 [] [.s 32] (fun wk vs args => match wk, vs, args with | [], [⟨_, _, _, [.ints .u8 nm l]⟩], [.o (.a (.sl 0 0 n _))] => some ((nm = (n * 32)) ∧ (n ≤ 4398046510976) ∧ (Byt l) ∧ (IaZ l n), [.a (.rs 1 0 0 1), .a (.i .i64 (iaE n)), .a (.i .i64 (iaX l n))], [bF [.ints .u8 nm l], bT [.ints .u8 0 ([] : List Int)]]) | _, _, _ => none) gam802
theorem gam840_ok : GamOk Try.prog gam840 := gcall_ok tabOkSH Try.func44 gam802_ok Try.call44 (by
 intro wk vs args p xs K1 h hv
 split at h
 ·simp only [Option.some.injEq, Prod.mk.injEq] at h; obtain ⟨rfl, rfl, rfl⟩ := h; obtain ⟨g0, g1, g2, g3⟩ := hv; exact fun caps w rw β => iaNone_body _ _ _ _ g0 g1 g2 g3 w rw β
 ·simp at h)

noncomputable def gam842 : Gam := gfull 66 (gcallE [true, true] [.w, .w] (fun wk vs args => match wk, vs, args with | [⟨true, [.raw (.slice none 0 0), .raw (.slice none 0 0), .raw (.slice none 0 0), .raw (.slice none 0 0), .raw (.slice none 0 0), .raw (.slice none 0 0), .raw (.slice none 0 0), .raw (.slice none 0 0), .raw (.slice none 0 0), .raw (.slice none 0 0), .raw (.slice none 0 0), .raw (.slice none 0 0), .raw (.slice none 0 0), .raw (.slice none 0 0), .raw (.slice none 0 0), .raw (.slice none 0 0), .raw (.slice none 0 0), .raw (.slice none 0 0), .raw (.slice none 0 0), .raw (.slice none 0 0), .raw (.slice none 0 0)]⟩, ⟨true, [.ints .u8 0 L0]⟩], [], [.o (.a (.p 0 0)), .o (.a (.rs 1 0 0 1))] => some (True, [], [bT [nlA, nlA, nlA, nlA, nlA, nlA, nlA, nlA, nlA, nlA, nlA, nlA, nlA, nlA, nlA, nlA, nlA, nlA, nlA, nlA, nlA], bT [.ints .u8 0 L0]]) | _, _, _ => none)) gam840
theorem gam842_ok : GamOk Try.prog gam842 := gent_ok gam840_ok Try.call66 (gcallE_ent tabOkSF Try.func66 (by
 intro wk vs args p xs K1 h hv
 split at h
 ·simp only [Option.some.injEq, Prod.mk.injEq] at h; obtain ⟨rfl, rfl, rfl⟩ := h; exact fun caps w rw β => sz0_body _ w rw β
 ·simp at h))

noncomputable def gam847 : Gam := gfull 67 (selE [.w, .w] 2 (gcallE [true, true] [.w, .w] (fun wk vs args => match wk, vs, args with | [⟨true, [.raw (.slice none 0 0), .raw (.slice none 0 0), .raw (.slice none 0 0), .raw (.slice none 0 0), .raw (.slice none 0 0), .raw (.slice none 0 0), .raw (.slice none 0 0), .raw (.slice none 0 0), .raw (.slice none 0 0), .raw (.slice none 0 0), .raw (.slice none 0 0), .raw (.slice none 0 0), .raw (.slice none 0 0), .raw (.slice none 0 0), .raw (.slice none 0 0), .raw (.slice none 0 0), .raw (.slice none 0 0), .raw (.slice none 0 0), .raw (.slice none 0 0), .raw (.slice none 0 0), .raw (.slice none 0 0)]⟩, ⟨true, [.ints .i64 64 I0]⟩], [], [.o (.a (.p 0 0)), .o (.a (.sl 1 0 64 64))] => some (True, [], [bT [nlA, .rs 2 0 1 1, nlA, nlA, nlA, nlA, nlA, nlA, nlA, nlA, nlA, nlA, nlA, nlA, nlA, nlA, nlA, nlA, nlA, nlA, nlA], bT [.ints .i64 64 I0], bT [.rs 1 0 64 1]]) | _, _, _ => none)) (selE [.w, .w] 4 (gcallE [true, true, true, true] [.w, .w] (fun wk vs args => match wk, vs, args with | [⟨true, [.raw (.slice none 0 0), .rs 1 0 1 1, .raw (.slice none 0 0), .raw (.slice none 0 0), .raw (.slice none 0 0), .raw (.slice none 0 0), .raw (.slice none 0 0), .raw (.slice none 0 0), .raw (.slice none 0 0), .raw (.slice none 0 0), .raw (.slice none 0 0), .raw (.slice none 0 0), .raw (.slice none 0 0), .raw (.slice none 0 0), .raw (.slice none 0 0), .raw (.slice none 0 0), .raw (.slice none 0 0), .raw (.slice none 0 0), .raw (.slice none 0 0), .raw (.slice none 0 0), .raw (.slice none 0 0)]⟩, ⟨true, [.rs 2 0 64 1]⟩, ⟨true, [.ints .i64 64 I0]⟩, ⟨true, [.ints .i64 256 I1]⟩], [], [.o (.a (.p 0 0)), .o (.a (.sl 3 0 256 256))] => some (True, [], [bT [nlA, .rs 4 0 2 1, nlA, nlA, nlA, nlA, nlA, nlA, nlA, nlA, nlA, nlA, nlA, nlA, nlA, nlA, nlA, nlA, nlA, nlA, nlA], none, bT [.ints .i64 64 I0], bT [.ints .i64 256 I1], bT [.rs 2 0 64 1, .rs 3 0 256 1]]) | _, _, _ => none)) (selE [.w, .w] 5 (gcallE [true, true, true, true, true] [.w, .w] (fun wk vs args => match wk, vs, args with | [⟨true, [.raw (.slice none 0 0), .rs 1 0 2 1, .raw (.slice none 0 0), .raw (.slice none 0 0), .raw (.slice none 0 0), .raw (.slice none 0 0), .raw (.slice none 0 0), .raw (.slice none 0 0), .raw (.slice none 0 0), .raw (.slice none 0 0), .raw (.slice none 0 0), .raw (.slice none 0 0), .raw (.slice none 0 0), .raw (.slice none 0 0), .raw (.slice none 0 0), .raw (.slice none 0 0), .raw (.slice none 0 0), .raw (.slice none 0 0), .raw (.slice none 0 0), .raw (.slice none 0 0), .raw (.slice none 0 0)]⟩, ⟨true, [.rs 2 0 64 1, .rs 3 0 256 1]⟩, ⟨true, [.ints .i64 64 I0]⟩, ⟨true, [.ints .i64 256 I1]⟩, ⟨true, [.ints .i64 64 I2]⟩], [], [.o (.a (.p 0 0)), .o (.a (.sl 4 0 64 64))] => some (True, [], [bT [nlA, .rs 5 0 3 1, nlA, nlA, nlA, nlA, nlA, nlA, nlA, nlA, nlA, nlA, nlA, nlA, nlA, nlA, nlA, nlA, nlA, nlA, nlA], none, bT [.ints .i64 64 I0], bT [.ints .i64 256 I1], bT [.ints .i64 64 I2], bT [.rs 2 0 64 1, .rs 3 0 256 1, .rs 4 0 64 1]]) | _, _, _ => none)) (gcallE [true, true, true, true, true, true] [.w, .w] (fun wk vs args => match wk, vs, args with | [⟨true, [.raw (.slice none 0 0), .rs 1 0 3 1, .raw (.slice none 0 0), .raw (.slice none 0 0), .raw (.slice none 0 0), .raw (.slice none 0 0), .raw (.slice none 0 0), .raw (.slice none 0 0), .raw (.slice none 0 0), .raw (.slice none 0 0), .raw (.slice none 0 0), .raw (.slice none 0 0), .raw (.slice none 0 0), .raw (.slice none 0 0), .raw (.slice none 0 0), .raw (.slice none 0 0), .raw (.slice none 0 0), .raw (.slice none 0 0), .raw (.slice none 0 0), .raw (.slice none 0 0), .raw (.slice none 0 0)]⟩, ⟨true, [.rs 2 0 64 1, .rs 3 0 256 1, .rs 4 0 64 1]⟩, ⟨true, [.ints .i64 64 I0]⟩, ⟨true, [.ints .i64 256 I1]⟩, ⟨true, [.ints .i64 64 I2]⟩, ⟨true, [.ints .i64 256 I3]⟩], [], [.o (.a (.p 0 0)), .o (.a (.sl 5 0 256 256))] => some (True, [], [bT [nlA, .rs 6 0 4 1, nlA, nlA, nlA, nlA, nlA, nlA, nlA, nlA, nlA, nlA, nlA, nlA, nlA, nlA, nlA, nlA, nlA, nlA, nlA], none, bT [.ints .i64 64 I0], bT [.ints .i64 256 I1], bT [.ints .i64 64 I2], bT [.ints .i64 256 I3], bT [.rs 2 0 64 1, .rs 3 0 256 1, .rs 4 0 64 1, .rs 5 0 256 1]]) | _, _, _ => none))))) gam842
theorem gam847_ok : GamOk Try.prog gam847 := gent_ok gam842_ok Try.call67 (selE_ent (gcallE_ent tabOkSG Try.func67 (by
 intro wk vs args p xs K1 h hv
 split at h
 ·simp only [Option.some.injEq, Prod.mk.injEq] at h; obtain ⟨rfl, rfl, rfl⟩ := h; exact fun caps w rw β => iy00_body _ w rw β
 ·simp at h)) (selE_ent (gcallE_ent tabOkSG Try.func67 (by
 intro wk vs args p xs K1 h hv
 split at h
 ·simp only [Option.some.injEq, Prod.mk.injEq] at h; obtain ⟨rfl, rfl, rfl⟩ := h; exact fun caps w rw β => iy01_body _ _ w rw β
 ·simp at h)) (selE_ent (gcallE_ent tabOkSG Try.func67 (by
 intro wk vs args p xs K1 h hv
 split at h
 ·simp only [Option.some.injEq, Prod.mk.injEq] at h; obtain ⟨rfl, rfl, rfl⟩ := h; exact fun caps w rw β => iy02_body _ _ _ w rw β
 ·simp at h)) (gcallE_ent tabOkSG Try.func67 (by
 intro wk vs args p xs K1 h hv
 split at h
 ·simp only [Option.some.injEq, Prod.mk.injEq] at h; obtain ⟨rfl, rfl, rfl⟩ := h; exact fun caps w rw β => iy03_body _ _ _ _ w rw β
 ·simp at h)))))

noncomputable def gam848 : Gam := gcall 68 [false, false, true, true, true, true] [.w] (fun wk vs args => match wk, vs, args with | [⟨false, [.raw (.slice none 0 0), .rs 1 0 4 1, .raw (.slice none 0 0), .raw (.slice none 0 0), .raw (.slice none 0 0), .raw (.slice none 0 0), .raw (.slice none 0 0), .raw (.slice none 0 0), .raw (.slice none 0 0), .raw (.slice none 0 0), .raw (.slice none 0 0), .raw (.slice none 0 0), .raw (.slice none 0 0), .raw (.slice none 0 0), .raw (.slice none 0 0), .raw (.slice none 0 0), .raw (.slice none 0 0), .raw (.slice none 0 0), .raw (.slice none 0 0), .raw (.slice none 0 0), .raw (.slice none 0 0)]⟩, ⟨false, [.rs 2 0 64 1, .rs 3 0 256 1, .rs 4 0 64 1, .rs 5 0 256 1]⟩, ⟨true, [.ints .i64 64 I0]⟩, ⟨true, [.ints .i64 256 I1]⟩, ⟨true, [.ints .i64 64 I2]⟩, ⟨true, [.ints .i64 256 I3]⟩], [], [.o (.a (.p 0 0))] => some (True, [.a (.b true)], [bF [nlA, .rs 1 0 4 1, nlA, nlA, nlA, nlA, nlA, nlA, nlA, nlA, nlA, nlA, nlA, nlA, nlA, nlA, nlA, nlA, nlA, nlA, nlA], bF [.rs 2 0 64 1, .rs 3 0 256 1, .rs 4 0 64 1, .rs 5 0 256 1], bF [.ints .i64 64 (biBk)], bF [.ints .i64 256 (biBk_1)], bF [.ints .i64 64 (biBk_2)], bF [.ints .i64 256 (biBk_3)]]) | _, _, _ => none) gam847
theorem gam848_ok : GamOk Try.prog gam848 := gcall_ok tabOkNE Try.func68 gam847_ok Try.call68 (by
 intro wk vs args p xs K1 h hv
 split at h
 ·simp only [Option.some.injEq, Prod.mk.injEq] at h; obtain ⟨rfl, rfl, rfl⟩ := h; exact fun caps w rw β => apart0_body _ _ _ _ w rw β
 ·simp at h)

noncomputable def gam849 : Gam := gcall 44 [] [.s 32] (fun wk vs args => match wk, vs, args with | [], [⟨_, _, _, [.ints .u8 nm l]⟩], [.o (.a (.sl 0 0 n _))] => some ((nm = (n * 32)) ∧ (n ≤ 4398046510976) ∧ (Byt l) ∧ (IaP l n), [.a (.rs 1 0 n 32), .a (.i .i64 0), .a (.i .i64 0)], [bF [.ints .u8 nm l], bT [.ints .u8 (iaP n) (out2 l n n)]]) | _, _, _ => none) gam88
theorem gam849_ok : GamOk Try.prog gam849 := gcall_ok tabOkSH Try.func44 gam88_ok Try.call44 (by
 intro wk vs args p xs K1 h hv
 split at h
 ·simp only [Option.some.injEq, Prod.mk.injEq] at h; obtain ⟨rfl, rfl, rfl⟩ := h; obtain ⟨g0, g1, g2, g3⟩ := hv; exact fun caps w rw β => iaSome_body _ _ _ _ g0 g1 g2 g3 w rw β
 ·simp at h)

noncomputable def gam850 : Gam := gcall 44 [] [.s 32] (fun wk vs args => match wk, vs, args with | [], [⟨_, _, _, [.ints .u8 nm l]⟩], [.o (.a (.sl 0 0 n _))] => some ((nm = (n * 32)) ∧ (n ≤ 4398046510976) ∧ (Byt l) ∧ (IaZ l n), [.a (.rs 1 0 0 1), .a (.i .i64 (iaE n)), .a (.i .i64 (iaX l n))], [bF [.ints .u8 nm l], bT [.ints .u8 0 ([] : List Int)]]) | _, _, _ => none) gam88
theorem gam850_ok : GamOk Try.prog gam850 := gcall_ok tabOkSH Try.func44 gam88_ok Try.call44 (by
 intro wk vs args p xs K1 h hv
 split at h
 ·simp only [Option.some.injEq, Prod.mk.injEq] at h; obtain ⟨rfl, rfl, rfl⟩ := h; obtain ⟨g0, g1, g2, g3⟩ := hv; exact fun caps w rw β => iaNone_body _ _ _ _ g0 g1 g2 g3 w rw β
 ·simp at h)

end Go.Proofs.Ytcpoldghkiiggaa.X

/- A contract by hand: two lists of slices, families in them or not, are looked at and found to show the same. -/
namespace Go.Proofs.Ytcpoldghkiiggaa.X
open Go Go.Proofs
set_option linter.unusedVariables false

def PartsI (w : World) (rw : List Nat) (L : List Value) (n : Nat) : Prop := ∀ i, i < n → ∀ (k : Nat) (β : Env), ImpOk ⟨w, rw, k, β⟩ (L.getD i undef) .u8 (lenV (L.getD i undef)) (capV (L.getD i undef)) (contV w (L.getD i undef))
def contL (w : World) (L : List Value) (n : Nat) : List (List Int) := (List.range n).map fun i => contV w (L.getD i undef)
section fam
variable {w0 w : World} {rw : List Nat} {β : Env} {K : Know}

def AllI (w : World) (L : List Value) (C : List (List Int)) : Prop := L.length = C.length ∧ PartsI w [] L C.length ∧ ∀ i, i < C.length → contV w (L.getD i undef) = C.getD i []
theorem AllI.of {L : List Value} {C : List (List Int)} (h : FamR w [] L C) : AllI w L C := ⟨h.len, h.imp, h.cont⟩
theorem AllI.to {L : List Value} {C : List (List Int)} (h : AllI w L C) : FamR w [] L C := ⟨h.1, h.2.1, h.2.2⟩

theorem contL_len (w : World) (L : List Value) (n : Nat) : (contL w L n).length = n := by simp [contL]
theorem contL_get {w : World} {L : List Value} {n i : Nat} (h : i < n) : (contL w L n).getD i [] = contV w (L.getD i undef) := by
 unfold contL
 rw [List.getD_eq_getElem?_getD, List.getElem?_map, List.getElem?_range h]; rfl

end fam

end Go.Proofs.Ytcpoldghkiiggaa.X

/- Families that a loop makes, told for the loop's block alone; what a family says to those that read it. -/
namespace Go.Proofs.Ytcpoldghkiiggaa.X
open Go Go.Proofs
set_option linter.unusedVariables false

def fstC : Code → Code
 | .seq a _ => a
 | c => c
def sndC : Code → Code
 | .seq _ b => b
 | c => c

theorem FamR.of {w : World} {rw : List Nat} {L : List Value} {n : Nat} (hl : L.length = n) (h : PartsI w rw L n) : FamR w rw L (contL w L n) :=
 ⟨by rw [contL_len, hl], fun i hi => h i (by rwa [contL_len] at hi), fun i hi => (contL_get (by rwa [contL_len] at hi)).symm⟩
end Go.Proofs.Ytcpoldghkiiggaa.X

/- Printed by a tool of this session. -/
namespace Go.Proofs.Ytcpoldghkiiggaa.X
open Go Go.Proofs
set_option linter.unusedVariables false
set_option linter.unusedSimpArgs false
set_option maxRecDepth 100000
set_option maxHeartbeats 8000000
noncomputable def tabSJPP : List (Nat × TE) := [(24, ⟨.array 32 5, 32, 32, [.ints .u8 32 ([0, 0, 0, 0, 0, 0, 0, 0, 0, 0, 0, 0, 0, 0, 0, 0, 0, 0, 0, 0, 0, 0, 0, 0, 0, 0, 0, 0, 0, 0, 0, 0] : List Int)], true⟩), (97, ⟨Try.t96.desc, 21, 504, [nlA, nlA, nlA, nlA, nlA, nlA, nlA, nlA, nlA, nlA, nlA, nlA, nlA, nlA, nlA, nlA, nlA, nlA, nlA, nlA, nlA], false⟩)]
theorem tabOkSJPP : TabOk Try.prog (tabOf tabSJPP) := (tabOf_cons teNM_24 (tabOf_cons teSD_97 tabOf_nil))

noncomputable def soB : Code := Try.f13.body.getD .skip

noncomputable def soS0 (n : Nat) (l : List Int) (m : Nat) (M a : List Int) (cap0 cap1 : Nat) : St := ⟨sparse 133 [(0, .o (.a (.sl 0 0 n cap0))), (1, .o (.a (.sl 1 0 m cap1))), (2, .o (.g [.ints .u8 32 a]))], [bF [.ints .u8 (n * 32) l], bF [.ints .u8 (m * 32) M]]⟩

noncomputable def soPPS1 (n : Nat) (l : List Int) (m : Nat) (M a : List Int) (cap0 cap1 : Nat) : St := ⟨sparse 133 [(0, .o (.a (.sl 0 0 n cap0))), (1, .o (.a (.sl 1 0 m cap1))), (2, .o (.g [.ints .u8 32 a])), (5, .o (.a (.p 2 0)))], [bF [.ints .u8 (n * 32) l], bF [.ints .u8 (m * 32) M], bT [.ints .u8 32 a]]⟩

theorem soPPP0 (w : World) (β : Env) (n : Nat) (l : List Int) (m : Nat) (M a : List Int) (cap0 cap1 : Nat) (hn : n < 1099511627776) (hm : m < 1099511627776) (hl : l.length = n * 32) (hM : M.length = m * 32) (hBl : Byt l) (hBM : Byt M) (hBa : Byt a) (ha : a.length = 32) (hX : IaP l n) (hY : IaP M m) : Run Try.prog ⟨w, [], 2, β⟩ (fstC soB) (soS0 n l m M a cap0 cap1) (To ⟨w, [], 2, β⟩ .normal (soPPS1 n l m M a cap0 cap1)) :=
 Run.of_outT (Λ := noLam) (Ψ := noPsi) (fuel := 0) (ora := []) (l := [.forget [0, 1, 2, 5] 3]) mix tabOkSJPP gam813_ok
  (vc := []) (by kernel_rfl)
  (AllP_nil)

noncomputable def soPPS2 (n : Nat) (l : List Int) (m : Nat) (M a : List Int) (cap0 cap1 : Nat) : St := ⟨sparse 133 [(0, .o (.a (.sl 0 0 n cap0))), (1, .o (.a (.sl 1 0 m cap1))), (2, .o (.g [.ints .u8 32 a])), (5, .o (.a (.p 2 0))), (7, .o (.a (.p 3 0)))], [bF [.ints .u8 (n * 32) l], bF [.ints .u8 (m * 32) M], bT [.ints .u8 32 a], some kb5]⟩

theorem soPPP1 (w : World) (β : Env) (n : Nat) (l : List Int) (m : Nat) (M a : List Int) (cap0 cap1 : Nat) (hn : n < 1099511627776) (hm : m < 1099511627776) (hl : l.length = n * 32) (hM : M.length = m * 32) (hBl : Byt l) (hBM : Byt M) (hBa : Byt a) (ha : a.length = 32) (hX : IaP l n) (hY : IaP M m) : Run Try.prog ⟨w, [], 2, β⟩ (fstC (sndC soB)) (soPPS1 n l m M a cap0 cap1) (To ⟨w, [], 2, β⟩ .normal (soPPS2 n l m M a cap0 cap1)) :=
 Run.of_outT (Λ := noLam) (Ψ := noPsi) (fuel := 0) (ora := []) (l := [.forget [0, 1, 2, 5, 7] 4]) mix tabOkSJPP gam813_ok
  (vc := []) (by kernel_rfl)
  (AllP_nil)

noncomputable def soPPS3 (n : Nat) (l : List Int) (m : Nat) (M a : List Int) (cap0 cap1 : Nat) : St := ⟨sparse 133 [(0, .o (.a (.sl 0 0 n cap0))), (1, .o (.a (.sl 1 0 m cap1))), (2, .o (.g [.ints .u8 32 a])), (5, .o (.a (.p 2 0))), (7, .o (.a (.p 3 0))), (8, .o (.a (.rs 4 0 n 32)))], [bF [.ints .u8 (n * 32) l], bF [.ints .u8 (m * 32) M], bT [.ints .u8 32 a], some kb5, bT [.ints .u8 (n * 32) l]]⟩

theorem soPPP2 (w : World) (β : Env) (n : Nat) (l : List Int) (m : Nat) (M a : List Int) (cap0 cap1 : Nat) (hn : n < 1099511627776) (hm : m < 1099511627776) (hl : l.length = n * 32) (hM : M.length = m * 32) (hBl : Byt l) (hBM : Byt M) (hBa : Byt a) (ha : a.length = 32) (hX : IaP l n) (hY : IaP M m) : Run Try.prog ⟨w, [], 2, β⟩ (fstC (sndC (sndC soB))) (soPPS2 n l m M a cap0 cap1) (To ⟨w, [], 2, β⟩ .normal (soPPS3 n l m M a cap0 cap1)) :=
 Run.of_outT (Λ := noLam) (Ψ := noPsi) (fuel := 0) (ora := []) (l := [.eqB 4 (⟨true, [.ints .u8 (n * 32) l]⟩), .forget [0, 1, 2, 5, 7, 8] 5]) mix tabOkSJPP gam813_ok
  (vc := [((some ⟨true, [.ints .u8 (copyS n) (copyS_1 n (sub l 0 (n * 32)))]⟩ : Option Blk) = some ⟨true, [.ints .u8 (n * 32) l]⟩), ((((0 + (n * 32)) ≤ (n * 32)) ∧ True) ∧ (((n * 32) = (n * 32)) ∧ (n ≤ 4398046511104)))]) (by kernel_rfl)
  (aC ((by rw [so_copy hl]; rfl)) (aC ⟨⟨(by first|assumption|exact hX.2|exact hY.2|omega), trivial⟩, ⟨rfl, (by first|assumption|exact hX.2|exact hY.2|omega)⟩⟩ (AllP_nil)))

noncomputable def soPPS4 (n : Nat) (l : List Int) (m : Nat) (M a : List Int) (cap0 cap1 : Nat) : St := ⟨sparse 133 [(0, .o (.a (.sl 0 0 n cap0))), (1, .o (.a (.sl 1 0 m cap1))), (2, .o (.g [.ints .u8 32 a])), (5, .o (.a (.p 2 0))), (7, .o (.a (.p 3 0))), (8, .o (.a (.rs 4 0 n 32))), (9, .o (.a (.rs 5 0 n 32))), (10, .o (.a (.i .i64 0)))], [bF [.ints .u8 (n * 32) l], bF [.ints .u8 (m * 32) M], bT [.ints .u8 32 a], some kb5, bT [.ints .u8 (n * 32) l], bT [.ints .u8 (n * 32) (out2 l n n)]]⟩

theorem soPPP3 (w : World) (β : Env) (n : Nat) (l : List Int) (m : Nat) (M a : List Int) (cap0 cap1 : Nat) (hn : n < 1099511627776) (hm : m < 1099511627776) (hl : l.length = n * 32) (hM : M.length = m * 32) (hBl : Byt l) (hBM : Byt M) (hBa : Byt a) (ha : a.length = 32) (hX : IaP l n) (hY : IaP M m) : Run Try.prog ⟨w, [], 2, β⟩ (fstC (sndC (sndC (sndC soB)))) (soPPS3 n l m M a cap0 cap1) (To ⟨w, [], 2, β⟩ .normal (soPPS4 n l m M a cap0 cap1)) :=
 Run.of_outT (Λ := noLam) (Ψ := noPsi) (fuel := 0) (ora := []) (l := [.eqB 5 (⟨true, [.ints .u8 (n * 32) (out2 l n n)]⟩), .forget [0, 1, 2, 5, 7, 8, 9, 10] 6]) mix tabOkSJPP gam813_ok
  (vc := [((bT [.ints .u8 (iaP n) (out2 (sub l 0 (n * 32)) n n)] : Option Blk) = bT [.ints .u8 (n * 32) (out2 l n n)]), ((((0 + (n * 32)) ≤ (n * 32)) ∧ True) ∧ (((n * 32) = (n * 32)) ∧ (n ≤ 4398046510976) ∧ (Byt (sub l 0 (n * 32))) ∧ (IaP (sub l 0 (n * 32)) n)))]) (by kernel_rfl)
  (aC ((by rw [sub_all l _ (Nat.le_of_eq hl)]; rfl)) (aC ⟨⟨(by first|assumption|exact hX.2|exact hY.2|omega), trivial⟩, ⟨rfl, (by first|assumption|exact hX.2|exact hY.2|omega), (byt_sub (by assumption) _ _), (by rw [sub_all l _ (Nat.le_of_eq hl)]; exact hX)⟩⟩ (AllP_nil)))

noncomputable def soPPS5 (n : Nat) (l : List Int) (m : Nat) (M a : List Int) (cap0 cap1 : Nat) : St := ⟨sparse 133 [(0, .o (.a (.sl 0 0 n cap0))), (1, .o (.a (.sl 1 0 m cap1))), (2, .o (.g [.ints .u8 32 a])), (5, .o (.a (.p 2 0))), (7, .o (.a (.p 3 0))), (8, .o (.a (.rs 4 0 n 32))), (9, .o (.a (.rs 5 0 n 32))), (10, .o (.a (.i .i64 0))), (12, .o (.a (.rs 6 0 m 32)))], [bF [.ints .u8 (n * 32) l], bF [.ints .u8 (m * 32) M], bT [.ints .u8 32 a], some kb5, bT [.ints .u8 (n * 32) l], bT [.ints .u8 (n * 32) (out2 l n n)], bT [.ints .u8 (m * 32) (out2 M m m)]]⟩

theorem soPPP4 (w : World) (β : Env) (n : Nat) (l : List Int) (m : Nat) (M a : List Int) (cap0 cap1 : Nat) (hn : n < 1099511627776) (hm : m < 1099511627776) (hl : l.length = n * 32) (hM : M.length = m * 32) (hBl : Byt l) (hBM : Byt M) (hBa : Byt a) (ha : a.length = 32) (hX : IaP l n) (hY : IaP M m) : Run Try.prog ⟨w, [], 2, β⟩ (fstC (sndC (sndC (sndC (sndC soB))))) (soPPS4 n l m M a cap0 cap1) (To ⟨w, [], 2, β⟩ .normal (soPPS5 n l m M a cap0 cap1)) :=
 Run.of_outT (Λ := noLam) (Ψ := noPsi) (fuel := 0) (ora := []) (l := [.eqB 6 (⟨true, [.ints .u8 (m * 32) (out2 M m m)]⟩), .forget [0, 1, 2, 5, 7, 8, 9, 10, 12] 7]) mix tabOkSJPP gam813_ok
  (vc := [((bT [.ints .u8 (iaP m) (out2 (sub M 0 (m * 32)) m m)] : Option Blk) = bT [.ints .u8 (m * 32) (out2 M m m)]), ((((0 + (m * 32)) ≤ (m * 32)) ∧ True) ∧ (((m * 32) = (m * 32)) ∧ (m ≤ 4398046510976) ∧ (Byt (sub M 0 (m * 32))) ∧ (IaP (sub M 0 (m * 32)) m)))]) (by kernel_rfl)
  (aC ((by rw [sub_all M _ (Nat.le_of_eq hM)]; rfl)) (aC ⟨⟨(by first|assumption|exact hX.2|exact hY.2|omega), trivial⟩, ⟨rfl, (by first|assumption|exact hX.2|exact hY.2|omega), (byt_sub (by assumption) _ _), (by rw [sub_all M _ (Nat.le_of_eq hM)]; exact hY)⟩⟩ (AllP_nil)))

noncomputable def soPPS6 (n : Nat) (l : List Int) (m : Nat) (M a : List Int) (cap0 cap1 : Nat) : St := ⟨sparse 133 [(0, .o (.a (.sl 0 0 n cap0))), (1, .o (.a (.sl 1 0 m cap1))), (2, .o (.g [.ints .u8 32 a])), (5, .o (.a (.p 2 0))), (7, .o (.a (.p 3 0))), (8, .o (.a (.rs 4 0 n 32))), (9, .o (.a (.rs 5 0 n 32))), (10, .o (.a (.i .i64 0))), (12, .o (.a (.rs 6 0 m 32))), (15, .o (.a (.rs 7 0 n 32))), (16, .o (.a (.i .i64 0)))], [bF [.ints .u8 (n * 32) l], bF [.ints .u8 (m * 32) M], bT [.ints .u8 32 a], some kb5, bT [.ints .u8 (n * 32) l], bT [.ints .u8 (n * 32) (out2 l n n)], bT [.ints .u8 (m * 32) (out2 M m m)], bT [.ints .u8 (n * 32) (out2 l n n)]]⟩

theorem soPPP5 (w : World) (β : Env) (n : Nat) (l : List Int) (m : Nat) (M a : List Int) (cap0 cap1 : Nat) (hn : n < 1099511627776) (hm : m < 1099511627776) (hl : l.length = n * 32) (hM : M.length = m * 32) (hBl : Byt l) (hBM : Byt M) (hBa : Byt a) (ha : a.length = 32) (hX : IaP l n) (hY : IaP M m) : Run Try.prog ⟨w, [], 2, β⟩ (fstC (sndC (sndC (sndC (sndC (sndC soB)))))) (soPPS5 n l m M a cap0 cap1) (To ⟨w, [], 2, β⟩ .normal (soPPS6 n l m M a cap0 cap1)) :=
 Run.of_outT (Λ := noLam) (Ψ := noPsi) (fuel := 0) (ora := []) (l := [.eqB 7 (⟨true, [.ints .u8 (n * 32) (out2 l n n)]⟩), .forget [0, 1, 2, 5, 7, 8, 9, 10, 12, 15, 16] 8]) mix tabOkSJPP gam813_ok
  (vc := [((bT [.ints .u8 (iaP n) (out2 (sub l 0 (n * 32)) n n)] : Option Blk) = bT [.ints .u8 (n * 32) (out2 l n n)]), ((((0 + (n * 32)) ≤ (n * 32)) ∧ True) ∧ (((n * 32) = (n * 32)) ∧ (n ≤ 4398046510976) ∧ (Byt (sub l 0 (n * 32))) ∧ (IaP (sub l 0 (n * 32)) n)))]) (by kernel_rfl)
  (aC ((by rw [sub_all l _ (Nat.le_of_eq hl)]; rfl)) (aC ⟨⟨(by first|assumption|exact hX.2|exact hY.2|omega), trivial⟩, ⟨rfl, (by first|assumption|exact hX.2|exact hY.2|omega), (byt_sub (by assumption) _ _), (by rw [sub_all l _ (Nat.le_of_eq hl)]; exact hX)⟩⟩ (AllP_nil)))

theorem soPPP6 (w : World) (β : Env) (n : Nat) (l : List Int) (m : Nat) (M a : List Int) (cap0 cap1 : Nat) (hn : n < 1099511627776) (hm : m < 1099511627776) (hl : l.length = n * 32) (hM : M.length = m * 32) (hBl : Byt l) (hBM : Byt M) (hBa : Byt a) (ha : a.length = 32) (hX : IaP l n) (hY : IaP M m) : Run Try.prog ⟨w, [], 2, β⟩ (fstC (sndC (sndC (sndC (sndC (sndC (sndC soB))))))) (soPPS6 n l m M a cap0 cap1) (To ⟨w, [], 2, β⟩ .normal (soPPS6 n l m M a cap0 cap1)) :=
 Run.of_outT (Λ := noLam) (Ψ := noPsi) (fuel := 0) (ora := [true, true, true, true, false, false]) (l := [.forget [0, 1, 2, 5, 7, 8, 9, 10, 12, 15, 16] 8]) mix tabOkSJPP gam813_ok
  (vc := [(false = false), (false = false), (false = false), ((((0 + (n * 32)) ≤ (n * 32)) ∧ (((0 + (n * 32)) ≤ (n * 32)) ∧ True)) ∧ (((n * 32) = (n * 32)) ∧ ((n * 32) = (n * 32)) ∧ (n = n) ∧ ((sub (out2 l n n) 0 (n * 32)) = (sub (out2 l n n) 0 (n * 32))) ∧ (n ≤ 4398046511104))), (false = false), (false = false), (false = false)]) (by kernel_rfl)
  (aC rfl (aC rfl (aC rfl (aC ⟨⟨(by first|assumption|exact hX.2|exact hY.2|omega), ⟨(by first|assumption|exact hX.2|exact hY.2|omega), trivial⟩⟩, ⟨rfl, rfl, rfl, rfl, (by first|assumption|exact hX.2|exact hY.2|omega)⟩⟩ (aC rfl (aC rfl (aC rfl (AllP_nil))))))))

noncomputable def soPPS8 (n : Nat) (l : List Int) (m : Nat) (M a : List Int) (cap0 cap1 : Nat) : St := ⟨sparse 133 [(0, .o (.a (.sl 0 0 n cap0))), (1, .o (.a (.sl 1 0 m cap1))), (2, .o (.g [.ints .u8 32 a])), (5, .o (.a (.p 2 0))), (7, .o (.a (.p 3 0))), (8, .o (.a (.rs 4 0 n 32))), (9, .o (.a (.rs 5 0 n 32))), (10, .o (.a (.i .i64 0))), (12, .o (.a (.rs 6 0 m 32))), (15, .o (.a (.rs 7 0 n 32))), (16, .o (.a (.i .i64 0)))], [bF [.ints .u8 (n * 32) l], bF [.ints .u8 (m * 32) M], bT [.ints .u8 32 a], bT [nlA, nlA, nlA, nlA, .rs 8 0 1 1, nlA, nlA, nlA, nlA, nlA, nlA, nlA, nlA, nlA, nlA, nlA, nlA, nlA, nlA, nlA, nlA], bT [.ints .u8 (n * 32) l], bT [.ints .u8 (n * 32) (out2 l n n)], bT [.ints .u8 (m * 32) (out2 M m m)], bT [.ints .u8 (n * 32) (out2 l n n)], bT [.rs 5 0 n 32]]⟩

theorem soPPP7 (w : World) (β : Env) (n : Nat) (l : List Int) (m : Nat) (M a : List Int) (cap0 cap1 : Nat) (hn : n < 1099511627776) (hm : m < 1099511627776) (hl : l.length = n * 32) (hM : M.length = m * 32) (hBl : Byt l) (hBM : Byt M) (hBa : Byt a) (ha : a.length = 32) (hX : IaP l n) (hY : IaP M m) : Run Try.prog ⟨w, [], 2, β⟩ (fstC (sndC (sndC (sndC (sndC (sndC (sndC (sndC soB)))))))) (soPPS6 n l m M a cap0 cap1) (To ⟨w, [], 2, β⟩ .normal (soPPS8 n l m M a cap0 cap1)) :=
 Run.of_outT (Λ := noLam) (Ψ := noPsi) (fuel := 0) (ora := []) (l := [.forget [0, 1, 2, 5, 7, 8, 9, 10, 12, 15, 16] 9]) mix tabOkSJPP gam813_ok
  (vc := [((True ∧ (True ∧ True)) ∧ (((n * 32) = (n * 32)) ∧ (0 < n)))]) (by kernel_rfl)
  (aC ⟨⟨trivial, ⟨trivial, trivial⟩⟩, ⟨rfl, (by first|assumption|exact hX.2|exact hY.2|omega)⟩⟩ (AllP_nil))

noncomputable def soPPS9 (n : Nat) (l : List Int) (m : Nat) (M a : List Int) (cap0 cap1 : Nat) : St := ⟨sparse 133 [(0, .o (.a (.sl 0 0 n cap0))), (1, .o (.a (.sl 1 0 m cap1))), (2, .o (.g [.ints .u8 32 a])), (5, .o (.a (.p 2 0))), (7, .o (.a (.p 3 0))), (8, .o (.a (.rs 4 0 n 32))), (9, .o (.a (.rs 5 0 n 32))), (10, .o (.a (.i .i64 0))), (12, .o (.a (.rs 6 0 m 32))), (15, .o (.a (.rs 7 0 n 32))), (16, .o (.a (.i .i64 0)))], [bF [.ints .u8 (n * 32) l], bF [.ints .u8 (m * 32) M], bT [.ints .u8 32 a], bT [nlA, nlA, nlA, nlA, .rs 9 0 2 1, nlA, nlA, nlA, nlA, nlA, nlA, nlA, nlA, nlA, nlA, nlA, nlA, nlA, nlA, nlA, nlA], bT [.ints .u8 (n * 32) l], bT [.ints .u8 (n * 32) (out2 l n n)], bT [.ints .u8 (m * 32) (out2 M m m)], bT [.ints .u8 (n * 32) (out2 l n n)], none, bT [.rs 5 0 n 32, .rs 6 0 m 32]]⟩

theorem soPPP8 (w : World) (β : Env) (n : Nat) (l : List Int) (m : Nat) (M a : List Int) (cap0 cap1 : Nat) (hn : n < 1099511627776) (hm : m < 1099511627776) (hl : l.length = n * 32) (hM : M.length = m * 32) (hBl : Byt l) (hBM : Byt M) (hBa : Byt a) (ha : a.length = 32) (hX : IaP l n) (hY : IaP M m) : Run Try.prog ⟨w, [], 2, β⟩ (fstC (sndC (sndC (sndC (sndC (sndC (sndC (sndC (sndC soB))))))))) (soPPS8 n l m M a cap0 cap1) (To ⟨w, [], 2, β⟩ .normal (soPPS9 n l m M a cap0 cap1)) :=
 Run.of_outT (Λ := noLam) (Ψ := noPsi) (fuel := 0) (ora := []) (l := [.forget [0, 1, 2, 5, 7, 8, 9, 10, 12, 15, 16] 10]) mix tabOkSJPP gam813_ok
  (vc := [((True ∧ (True ∧ True)) ∧ (((n * 32) = (n * 32)) ∧ ((m * 32) = (m * 32)) ∧ (0 < m)))]) (by kernel_rfl)
  (aC ⟨⟨trivial, ⟨trivial, trivial⟩⟩, ⟨rfl, rfl, (by first|assumption|exact hX.2|exact hY.2|omega)⟩⟩ (AllP_nil))

noncomputable def soPPS10 (n : Nat) (l : List Int) (m : Nat) (M a : List Int) (cap0 cap1 : Nat) : St := ⟨sparse 133 [(0, .o (.a (.sl 0 0 n cap0))), (1, .o (.a (.sl 1 0 m cap1))), (2, .o (.g [.ints .u8 32 a])), (5, .o (.a (.p 2 0))), (7, .o (.a (.p 3 0))), (8, .o (.a (.rs 4 0 n 32))), (9, .o (.a (.rs 5 0 n 32))), (10, .o (.a (.i .i64 0))), (12, .o (.a (.rs 6 0 m 32))), (15, .o (.a (.rs 7 0 n 32))), (16, .o (.a (.i .i64 0)))], [bF [.ints .u8 (n * 32) l], bF [.ints .u8 (m * 32) M], bT [.ints .u8 32 a], bT [nlA, nlA, nlA, nlA, .rs 10 0 3 1, nlA, nlA, nlA, nlA, nlA, nlA, nlA, nlA, nlA, nlA, nlA, nlA, nlA, nlA, nlA, nlA], bT [.ints .u8 (n * 32) l], bT [.ints .u8 (n * 32) (out2 l n n)], bT [.ints .u8 (m * 32) (out2 M m m)], bT [.ints .u8 (n * 32) (out2 l n n)], none, none, bT [.rs 5 0 n 32, .rs 6 0 m 32, .rs 7 0 n 32]]⟩

theorem soPPP9 (w : World) (β : Env) (n : Nat) (l : List Int) (m : Nat) (M a : List Int) (cap0 cap1 : Nat) (hn : n < 1099511627776) (hm : m < 1099511627776) (hl : l.length = n * 32) (hM : M.length = m * 32) (hBl : Byt l) (hBM : Byt M) (hBa : Byt a) (ha : a.length = 32) (hX : IaP l n) (hY : IaP M m) : Run Try.prog ⟨w, [], 2, β⟩ (fstC (sndC (sndC (sndC (sndC (sndC (sndC (sndC (sndC (sndC soB)))))))))) (soPPS9 n l m M a cap0 cap1) (To ⟨w, [], 2, β⟩ .normal (soPPS10 n l m M a cap0 cap1)) :=
 Run.of_outT (Λ := noLam) (Ψ := noPsi) (fuel := 0) (ora := []) (l := [.forget [0, 1, 2, 5, 7, 8, 9, 10, 12, 15, 16] 11]) mix tabOkSJPP gam813_ok
  (vc := [((True ∧ (True ∧ True)) ∧ (((n * 32) = (n * 32)) ∧ ((m * 32) = (m * 32)) ∧ ((n * 32) = (n * 32)) ∧ (0 < n)))]) (by kernel_rfl)
  (aC ⟨⟨trivial, ⟨trivial, trivial⟩⟩, ⟨rfl, rfl, rfl, (by first|assumption|exact hX.2|exact hY.2|omega)⟩⟩ (AllP_nil))

noncomputable def soPPS11 (n : Nat) (l : List Int) (m : Nat) (M a : List Int) (cap0 cap1 : Nat) : St := ⟨sparse 133 [(0, .o (.a (.sl 0 0 n cap0))), (1, .o (.a (.sl 1 0 m cap1))), (2, .o (.g [.ints .u8 32 a])), (5, .o (.a (.p 2 0))), (7, .o (.a (.p 3 0))), (8, .o (.a (.rs 4 0 n 32))), (9, .o (.a (.rs 5 0 n 32))), (10, .o (.a (.i .i64 0))), (12, .o (.a (.rs 6 0 m 32))), (15, .o (.a (.rs 7 0 n 32))), (16, .o (.a (.i .i64 0)))], [bF [.ints .u8 (n * 32) l], bF [.ints .u8 (m * 32) M], bT [.ints .u8 32 a], bT [nlA, .rs 26 0 4 1, nlA, nlA, .rs 10 0 3 1, nlA, nlA, nlA, nlA, nlA, nlA, nlA, nlA, nlA, nlA, nlA, nlA, nlA, nlA, nlA, nlA], bT [.ints .u8 (n * 32) l], bT [.ints .u8 (n * 32) (out2 l n n)], bT [.ints .u8 (m * 32) (out2 M m m)], bT [.ints .u8 (n * 32) (out2 l n n)], none, none, bT [.rs 5 0 n 32, .rs 6 0 m 32, .rs 7 0 n 32], bT [.ints .u8 32 a], bT [.ints .u64 4 (nafP a (4 : Int))], bT [.ints .i64 256 (nafP_1 a (4 : Int))], bT [.ints .u8 32 a], bT [.ints .u8 32 (digP a)], bT [.ints .i64 64 (digP_1 a)], none, none, bT [.ints .u8 32 a], bT [.ints .u64 4 (nafP a (4 : Int))], bT [.ints .i64 256 (nafP_1 a (4 : Int))], bT [.ints .u8 32 a], bT [.ints .u8 32 (digP a)], bT [.ints .i64 64 (digP_1 a)], none, bT [.rs 16 0 64 1, .rs 13 0 256 1, .rs 24 0 64 1, .rs 21 0 256 1]]⟩

theorem soPPP10 (w : World) (β : Env) (n : Nat) (l : List Int) (m : Nat) (M a : List Int) (cap0 cap1 : Nat) (hn : n < 1099511627776) (hm : m < 1099511627776) (hl : l.length = n * 32) (hM : M.length = m * 32) (hBl : Byt l) (hBM : Byt M) (hBa : Byt a) (ha : a.length = 32) (hX : IaP l n) (hY : IaP M m) : Run Try.prog ⟨w, [], 2, β⟩ (fstC (sndC (sndC (sndC (sndC (sndC (sndC (sndC (sndC (sndC (sndC soB))))))))))) (soPPS10 n l m M a cap0 cap1) (To ⟨w, [], 2, β⟩ .normal (soPPS11 n l m M a cap0 cap1)) :=
 Run.of_outT (Λ := noLam) (Ψ := noPsi) (fuel := 3) (ora := [true, true, false]) (l := [.forget [0, 1, 2, 5, 7, 8, 9, 10, 12, 15, 16] 27]) mix tabOkSJPP gam813_ok
  (vc := (let p0_ : Prop := ((True ∧ (True ∧ True)) ∧ (((n * 32) = (n * 32)) ∧ ((m * 32) = (m * 32)) ∧ ((n * 32) = (n * 32)))); let p1_ : Prop := ((True ∧ True) ∧ (Byt a)); let p2_ : Prop := ((True ∧ (True ∧ True)) ∧ ((Byt a) ∧ ((2 : Int) ≤ 4) ∧ ((4 : Int) ≤ 8))); [(false = false), p0_, p0_, p1_, p2_, cT, p0_, p0_, p1_, p2_, cT])) (by kernel_rfl)
  (aC rfl (aC ⟨⟨trivial, ⟨trivial, trivial⟩⟩, ⟨rfl, rfl, rfl⟩⟩ (aC ⟨⟨trivial, ⟨trivial, trivial⟩⟩, ⟨rfl, rfl, rfl⟩⟩ (aC ⟨⟨trivial, trivial⟩, (by first | assumption | exact byt_B32 _)⟩ (aC ⟨⟨trivial, ⟨trivial, trivial⟩⟩, ⟨(by first | assumption | exact byt_B32 _), (dd rfl), (dd rfl)⟩⟩ (aC rfl (aC ⟨⟨trivial, ⟨trivial, trivial⟩⟩, ⟨rfl, rfl, rfl⟩⟩ (aC ⟨⟨trivial, ⟨trivial, trivial⟩⟩, ⟨rfl, rfl, rfl⟩⟩ (aC ⟨⟨trivial, trivial⟩, (by first | assumption | exact byt_B32 _)⟩ (aC ⟨⟨trivial, ⟨trivial, trivial⟩⟩, ⟨(by first | assumption | exact byt_B32 _), (dd rfl), (dd rfl)⟩⟩ (aC rfl (AllP_nil))))))))))))

noncomputable def soMidPP (n : Nat) (l : List Int) (m : Nat) (M a : List Int) (cap0 cap1 : Nat) : St := ⟨sparse 133 [(8, .o (.a (.rs 2 0 n 32)))], [bF [.ints .u8 (n * 32) l], bF [.ints .u8 (m * 32) M], bT [.ints .u8 (n * 32) l]]⟩

theorem soPPP11 (w : World) (β : Env) (n : Nat) (l : List Int) (m : Nat) (M a : List Int) (cap0 cap1 : Nat) (hn : n < 1099511627776) (hm : m < 1099511627776) (hl : l.length = n * 32) (hM : M.length = m * 32) (hBl : Byt l) (hBM : Byt M) (hBa : Byt a) (ha : a.length = 32) (hX : IaP l n) (hY : IaP M m) : Run Try.prog ⟨w, [], 2, β⟩ (fstC (sndC (sndC (sndC (sndC (sndC (sndC (sndC (sndC (sndC (sndC (sndC soB)))))))))))) (soPPS11 n l m M a cap0 cap1) (To ⟨w, [], 2, β⟩ .normal (soMidPP n l m M a cap0 cap1)) :=
 Run.of_outT (Λ := noLam) (Ψ := noPsi) (fuel := 0) (ora := [true, true, true, true, false, false]) (l := [.swap 2 4, .forget [8] 3]) mix tabOkSJPP gam813_ok
  (vc := [(false = false), (false = false), (false = false), ((((0 + (n * 32)) ≤ (n * 32)) ∧ (((0 + (n * 32)) ≤ (n * 32)) ∧ True)) ∧ (((n * 32) = (n * 32)) ∧ ((n * 32) = (n * 32)) ∧ (n = n) ∧ ((sub l 0 (n * 32)) = (sub l 0 (n * 32))) ∧ (n ≤ 4398046511104))), (false = false), (false = false), (false = false), ((True ∧ True) ∧ ((n = n) ∧ (m < 1099511627776) ∧ (n < 1099511627776) ∧ ((n * 32) = (n * 32)) ∧ ((m * 32) = (m * 32)) ∧ ((n * 32) = (n * 32))))]) (by kernel_rfl)
  (aC rfl (aC rfl (aC rfl (aC ⟨⟨(by first|assumption|exact hX.2|exact hY.2|omega), ⟨(by first|assumption|exact hX.2|exact hY.2|omega), trivial⟩⟩, ⟨rfl, rfl, rfl, rfl, (by first|assumption|exact hX.2|exact hY.2|omega)⟩⟩ (aC rfl (aC rfl (aC rfl (aC ⟨⟨trivial, trivial⟩, ⟨rfl, (by first|assumption|exact hX.2|exact hY.2|omega), (by first|assumption|exact hX.2|exact hY.2|omega), rfl, rfl, rfl⟩⟩ (AllP_nil)))))))))

end Go.Proofs.Ytcpoldghkiiggaa.X

/- Printed by a tool of this session. -/
namespace Go.Proofs.Ytcpoldghkiiggaa.X
open Go Go.Proofs
set_option linter.unusedVariables false
set_option linter.unusedSimpArgs false
set_option maxRecDepth 100000
set_option maxHeartbeats 8000000
noncomputable def tabSK : List (Nat × TE) := [(3, ⟨.int .i64, 1, 8, [.i .i64 0], false⟩), (5, ⟨.int .u8, 1, 1, [.i .u8 0], false⟩), (24, ⟨.array 32 5, 32, 32, [.ints .u8 32 ([0, 0, 0, 0, 0, 0, 0, 0, 0, 0, 0, 0, 0, 0, 0, 0, 0, 0, 0, 0, 0, 0, 0, 0, 0, 0, 0, 0, 0, 0, 0, 0] : List Int)], true⟩), (64, ⟨.slice 24, 1, 24, [nlA], false⟩)]
theorem tabOkSK : TabOk Try.prog (tabOf tabSK) := (tabOf_cons teQJ_3 (tabOf_cons teNM_5 (tabOf_cons teNM_24 (tabOf_cons teRB_64 tabOf_nil))))

def soW_mk (w : World) (β : Env) (n : Nat) (l : List Int) (m : Nat) (M a : List Int) (cap0 cap1 k : Nat) (s : Unit) : St := ⟨sparse 133 [(8, .o (.a (.rs 2 0 n 32))), (21, .o (.a (.i .i64 (k : Int))))], [bF [.ints .u8 (n * 32) l], bF [.ints .u8 (m * 32) M], bT [.ints .u8 (n * 32) (nsR l k)]]⟩

theorem soW_round (w : World) (β : Env) (n : Nat) (l : List Int) (m : Nat) (M a : List Int) (cap0 cap1 : Nat) (hn : n < 1099511627776) (hm : m < 1099511627776) (hl : l.length = n * 32) (hM : M.length = m * 32) (hBl : Byt l) (hBM : Byt M) (hBa : Byt a) (ha : a.length = 32) (k : Nat) (hk : k < n) (s : Unit) : Run Try.prog ⟨w, [], 2, β⟩ (loopB Try.f13 2) (soW_mk w β n l m M a cap0 cap1 k s) (To ⟨w, [], 2, β⟩ .normal (soW_mk w β n l m M a cap0 cap1 (k + 1) (moL_step k s))) := by
 have e0 : (splice (nsR l k) (k * 32) 32 ([(IntKind.u8.wrap (IntKind.i64.wrap (((k : Nat) : Int) + (1 : Int)))), (IntKind.u8.wrap (shr .i64 ((k : Nat) : Int) (8 : Int))), 0, 0, 0, 0, 0, 0, 0, 0, 0, 0, 0, 0, 0, 0, 0, 0, 0, 0, 0, 0, 0, 0, 0, 0, 0, 0, 0, 0, 0, 0] : List Int)) = (nsR l (k + 1)) := (by first | exact wrap_succ (by omega) | exact nsR_step | rfl)
 have e1 := wrap_succ (n := k) (by omega)
 have h := Run.of_outT (B := ⟨w, [], 2, β⟩) (Λ := noLam) (Ψ := noPsi) (fuel := 0) (ora := [true]) (c := (loopB Try.f13 2)) (st := (soW_mk w β n l m M a cap0 cap1 k s)) (l := [.forget [8, 21] 3]) (s' := ⟨sparse 133 [(8, .o (.a (.rs 2 0 n 32))), (21, .o (.a (.i .i64 (IntKind.i64.wrap ((k : Int) + 1)))))], [bF [.ints .u8 (n * 32) l], bF [.ints .u8 (m * 32) M], bT [.ints .u8 (n * 32) (splice (nsR l k) (k * 32) 32 ([(IntKind.u8.wrap (IntKind.i64.wrap ((k : Int) + 1))), (IntKind.u8.wrap (shr .i64 (k : Int) (8 : Int))), 0, 0, 0, 0, 0, 0, 0, 0, 0, 0, 0, 0, 0, 0, 0, 0, 0, 0, 0, 0, 0, 0, 0, 0, 0, 0, 0, 0, 0, 0] : List Int))]]⟩) (ex := .normal) mix tabOkSK gam849_ok
  (vc := [(((k * 32) + 32) ≤ (n * 32)), ((0 ≤ (k : Int)) ∧ ((k : Int) < (n : Int))), ((0 : Int) ≤ 8), ((decide ((k : Int) < (n : Int))) = true)]) (by kernel_rfl)
  (aC (by omega) (aC ⟨(by omega), (by omega)⟩ (aC (by decide) (aC (decide_eq_true (by omega)) (AllP_nil)))))
 rw [e0, e1] at h
 exact h

theorem soW_last (w : World) (β : Env) (n : Nat) (l : List Int) (m : Nat) (M a : List Int) (cap0 cap1 : Nat) (hn : n < 1099511627776) (hm : m < 1099511627776) (hl : l.length = n * 32) (hM : M.length = m * 32) (hBl : Byt l) (hBM : Byt M) (hBa : Byt a) (ha : a.length = 32) (s : Unit) : Run Try.prog ⟨w, [], 2, β⟩ (loopB Try.f13 2) (soW_mk w β n l m M a cap0 cap1 n s) (To ⟨w, [], 2, β⟩ (.exit 2) (soW_mk w β n l m M a cap0 cap1 n s)) :=
 Run.of_outT (Λ := noLam) (Ψ := noPsi) (fuel := 0) (ora := [false]) (l := [.forget [8, 21] 3]) mix tabOkSK gam849_ok
  (vc := [((decide ((n : Int) < (n : Int))) = false)]) (by kernel_rfl)
  (aC (decide_eq_false (by omega)) (AllP_nil))

theorem soW_loop (w : World) (β : Env) (n : Nat) (l : List Int) (m : Nat) (M a : List Int) (cap0 cap1 : Nat) (hn : n < 1099511627776) (hm : m < 1099511627776) (hl : l.length = n * 32) (hM : M.length = m * 32) (hBl : Byt l) (hBM : Byt M) (hBa : Byt a) (ha : a.length = 32) (s : Unit) : Run Try.prog ⟨w, [], 2, β⟩ (.block 2 (.loop (loopB Try.f13 2))) (soW_mk w β n l m M a cap0 cap1 0 s) (To ⟨w, [], 2, β⟩ .normal (soW_mk w β n l m M a cap0 cap1 n (iter (moL_step) n s))) :=
 Run.count (fun k => soW_mk w β n l m M a cap0 cap1 k (iter (moL_step) k s)) n (fun k hk => soW_round w β n l m M a cap0 cap1 hn hm hl hM hBl hBM hBa ha k hk _) (ex := (.exit 2)) (by simp) (soW_last w β n l m M a cap0 cap1 hn hm hl hM hBl hBM hBa ha _)

noncomputable def soT1 (n : Nat) (l : List Int) (m : Nat) (M a : List Int) (cap0 cap1 : Nat) : St := ⟨sparse 133 [(8, .o (.a (.rs 2 0 n 32)))], [bF [.ints .u8 (n * 32) l], bF [.ints .u8 (m * 32) M], bT [.ints .u8 (n * 32) (nsRows n)]]⟩

theorem soQ1 (w : World) (β : Env) (n : Nat) (l : List Int) (m : Nat) (M a : List Int) (cap0 cap1 : Nat) (hn : n < 1099511627776) (hm : m < 1099511627776) (hl : l.length = n * 32) (hM : M.length = m * 32) (hBl : Byt l) (hBM : Byt M) (hBa : Byt a) (ha : a.length = 32) : Run Try.prog ⟨w, [], 2, β⟩ (fstC (sndC (sndC (sndC (sndC (sndC (sndC (sndC (sndC (sndC (sndC (sndC (sndC soB))))))))))))) (soMidPP n l m M a cap0 cap1) (To ⟨w, [], 2, β⟩ .normal (soT1 n l m M a cap0 cap1)) :=
 Run.of_outT (Λ := lamOf [(2, ⟨[.forget [8, 21] 3], .normal, (soW_mk w β n l m M a cap0 cap1 n (iter (moL_step) n ()))⟩)]) (Ψ := noPsi) (fuel := 1) (ora := []) (l := [.forget [8] 3, .eqB 2 (⟨true, [.ints .u8 (n * 32) (nsRows n)]⟩), .forget [8] 3]) mix tabOkSK gam849_ok
  (vc := [((bT [.ints .u8 (n * 32) (nsR l n)] : Option Blk) = bT [.ints .u8 (n * 32) (nsRows n)]), (Run Try.prog ⟨w, [], 2, β⟩ (.block 2 (.loop (loopB Try.f13 2))) (soW_mk w β n l m M a cap0 cap1 0 ()) (To ⟨w, [], 2, β⟩ .normal (soW_mk w β n l m M a cap0 cap1 n (iter (moL_step) n ()))))]) (by kernel_rfl)
  (aC ((by rw [nsR_all hl]; rfl)) (aC (soW_loop w β n l m M a cap0 cap1 hn hm hl hM hBl hBM hBa ha ()) (AllP_nil)))

end Go.Proofs.Ytcpoldghkiiggaa.X

/- Printed by a tool of this session. -/
namespace Go.Proofs.Ytcpoldghkiiggaa.X
open Go Go.Proofs
set_option linter.unusedVariables false
set_option linter.unusedSimpArgs false
set_option maxRecDepth 100000
set_option maxHeartbeats 8000000
noncomputable def tabSL : List (Nat × TE) := [(5, ⟨.int .u8, 1, 1, [.i .u8 0], false⟩), (24, ⟨.array 32 5, 32, 32, [.ints .u8 32 ([0, 0, 0, 0, 0, 0, 0, 0, 0, 0, 0, 0, 0, 0, 0, 0, 0, 0, 0, 0, 0, 0, 0, 0, 0, 0, 0, 0, 0, 0, 0, 0] : List Int)], true⟩), (64, ⟨.slice 24, 1, 24, [nlA], false⟩)]
theorem tabOkSL : TabOk Try.prog (tabOf tabSL) := (tabOf_cons teNM_5 (tabOf_cons teNM_24 (tabOf_cons teRB_64 tabOf_nil)))

noncomputable def soVP (n : Nat) (l : List Int) (m : Nat) (M a : List Int) (cap0 cap1 : Nat) : St := ⟨sparse 133 [(8, .o (.a (.rs 2 0 n 32))), (22, .o (.a (.rs 3 0 n 32))), (23, .o (.a (.i .i64 0))), (24, .o (.a (.i .i64 0))), (99, .t [.a (.rs 3 0 n 32), .a (.i .i64 0), .a (.i .i64 0)]), (100, .o (.a (.rs 2 0 n 32))), (101, .t [.a (.rs 3 0 n 32), .a (.i .i64 0), .a (.i .i64 0)]), (102, .o (.a (.rs 3 0 n 32))), (103, .o (.a (.i .i64 0))), (104, .o (.a (.i .i64 0)))], [bF [.ints .u8 (n * 32) l], bF [.ints .u8 (m * 32) M], bT [.ints .u8 (n * 32) (nsRows n)], bT [.ints .u8 (n * 32) (out2 (nsRows n) n n)]]⟩

theorem soUP (w : World) (β : Env) (n : Nat) (l : List Int) (m : Nat) (M a : List Int) (cap0 cap1 : Nat) (hn : n < 1099511627776) (hm : m < 1099511627776) (hl : l.length = n * 32) (hM : M.length = m * 32) (hBl : Byt l) (hBM : Byt M) (hBa : Byt a) (ha : a.length = 32) (hZ : IaP (nsRows n) n) : Run Try.prog ⟨w, [], 2, β⟩ (fstC (sndC (sndC (sndC (sndC (sndC (sndC (sndC (sndC (sndC (sndC (sndC (sndC (sndC soB)))))))))))))) (soT1 n l m M a cap0 cap1) (To ⟨w, [], 2, β⟩ .normal (soVP n l m M a cap0 cap1)) :=
 Run.of_outT (Λ := noLam) (Ψ := noPsi) (fuel := 1) (ora := []) (l := [.eqB 3 (⟨true, [.ints .u8 (n * 32) (out2 (nsRows n) n n)]⟩), .forget [8, 22, 23, 24, 99, 100, 101, 102, 103, 104] 4]) mix tabOkSL gam849_ok
  (vc := [((bT [.ints .u8 (iaP n) (out2 (sub (nsRows n) 0 (n * 32)) n n)] : Option Blk) = bT [.ints .u8 (n * 32) (out2 (nsRows n) n n)]), ((((0 + (n * 32)) ≤ (n * 32)) ∧ True) ∧ (((n * 32) = (n * 32)) ∧ (n ≤ 4398046510976) ∧ (Byt (sub (nsRows n) 0 (n * 32))) ∧ (IaP (sub (nsRows n) 0 (n * 32)) n)))]) (by kernel_rfl)
  (aC ((by rw [sub_all _ _ (Nat.le_of_eq (nsRows_len n))]; rfl)) (aC ⟨⟨(by first | assumption | omega | (simp (disch := omega) only [wrapI]; omega)), trivial⟩, ⟨rfl, (by first | assumption | omega | (simp (disch := omega) only [wrapI]; omega)), (by first | exact byt_sub (nsRows_byt _) _ _ | exact byt_sub (out2_byt _ _ _) _ _ | exact nsRows_byt _), (by rw [sub_all _ _ (Nat.le_of_eq (nsRows_len n))]; exact hZ)⟩⟩ (AllP_nil)))

def soX_mk (w : World) (β : Env) (n : Nat) (l : List Int) (m : Nat) (M a : List Int) (cap0 cap1 k : Nat) (s : Unit) : St := ⟨sparse 133 [(8, .o (.a (.rs 2 0 n 32))), (22, .o (.a (.rs 3 0 n 32))), (23, .o (.a (.i .i64 0))), (25, .o (.a (.i .i64 (k : Int))))], [bF [.ints .u8 (n * 32) l], bF [.ints .u8 (m * 32) M], bT [.ints .u8 (n * 32) (nsRows n)], bT [.ints .u8 (n * 32) (out2 (nsRows n) n n)]]⟩

theorem soX_round (w : World) (β : Env) (n : Nat) (l : List Int) (m : Nat) (M a : List Int) (cap0 cap1 : Nat) (hn : n < 1099511627776) (hm : m < 1099511627776) (hl : l.length = n * 32) (hM : M.length = m * 32) (hBl : Byt l) (hBM : Byt M) (hBa : Byt a) (ha : a.length = 32) (hZ : IaP (nsRows n) n) (k : Nat) (hk : k < n) (s : Unit) : Run Try.prog ⟨w, [], 2, β⟩ (loopB Try.f13 4) (soX_mk w β n l m M a cap0 cap1 k s) (To ⟨w, [], 2, β⟩ .normal (soX_mk w β n l m M a cap0 cap1 (k + 1) (moL_step k s))) := by
 have e0 := wrap_succ (n := k) (by omega)
 have h := Run.of_outT (B := ⟨w, [], 2, β⟩) (Λ := noLam) (Ψ := noPsi) (fuel := 0) (ora := [true, true, true, true, true, true, true, true, true, true, true, true, true, true, true, false, false]) (c := (loopB Try.f13 4)) (st := (soX_mk w β n l m M a cap0 cap1 k s)) (l := [.forget [8, 22, 23, 25] 4]) (s' := ⟨sparse 133 [(8, .o (.a (.rs 2 0 n 32))), (22, .o (.a (.rs 3 0 n 32))), (23, .o (.a (.i .i64 0))), (25, .o (.a (.i .i64 (IntKind.i64.wrap ((k : Int) + 1)))))], [bF [.ints .u8 (n * 32) l], bF [.ints .u8 (m * 32) M], bT [.ints .u8 (n * 32) (nsRows n)], bT [.ints .u8 (n * 32) (out2 (nsRows n) n n)]]⟩) (ex := .normal) mix tabOkSL gam849_ok
  (vc := (let p0_ : Prop := ((decide ((k : Int) ≥ (n : Int))) = false); let p1_ : Prop := (((k * 32) + 32) ≤ (n * 32)); let p2_ : Prop := ((0 ≤ (k : Int)) ∧ ((k : Int) < (n : Int))); let p3_ : Prop := ((decide ((k : Int) < (n : Int))) = true); [((!(decide ((B32 (modL ((BV (sub (out2 (nsRows n) n n) (k * 32) 32)) * (BV (sub (nsRows n) (k * 32) 32))))) = ([1, 0, 0, 0, 0, 0, 0, 0, 0, 0, 0, 0, 0, 0, 0, 0, 0, 0, 0, 0, 0, 0, 0, 0, 0, 0, 0, 0, 0, 0, 0, 0] : List Int)))) = false), p0_, p0_, p0_, ((Byt (sub (out2 (nsRows n) n n) (k * 32) 32)) ∧ (Byt (sub (nsRows n) (k * 32) 32))), p0_, p1_, p0_, p2_, p0_, p0_, p0_, p1_, p0_, p2_, p0_, p0_, p0_, cT, p3_, p3_, p3_])) (by kernel_rfl)
  (aC (not_dec (own_one hZ.1 hk)) (aC (df (by omega)) (aC (df (by omega)) (aC (df (by omega)) (aC ⟨(by first | exact byt_sub (nsRows_byt _) _ _ | exact byt_sub (out2_byt _ _ _) _ _ | exact nsRows_byt _), (by first | exact byt_sub (nsRows_byt _) _ _ | exact byt_sub (out2_byt _ _ _) _ _ | exact nsRows_byt _)⟩ (aC (df (by omega)) (aC (by omega) (aC (df (by omega)) (aC ⟨(by omega), (by omega)⟩ (aC (df (by omega)) (aC (df (by omega)) (aC (df (by omega)) (aC (by omega) (aC (df (by omega)) (aC ⟨(by omega), (by omega)⟩ (aC (df (by omega)) (aC (df (by omega)) (aC (df (by omega)) (aC rfl (aC (dt (by omega)) (aC (dt (by omega)) (aC (dt (by omega)) (AllP_nil)))))))))))))))))))))))
 rw [e0] at h
 exact h

theorem soX_last (w : World) (β : Env) (n : Nat) (l : List Int) (m : Nat) (M a : List Int) (cap0 cap1 : Nat) (hn : n < 1099511627776) (hm : m < 1099511627776) (hl : l.length = n * 32) (hM : M.length = m * 32) (hBl : Byt l) (hBM : Byt M) (hBa : Byt a) (ha : a.length = 32) (hZ : IaP (nsRows n) n) (s : Unit) : Run Try.prog ⟨w, [], 2, β⟩ (loopB Try.f13 4) (soX_mk w β n l m M a cap0 cap1 n s) (To ⟨w, [], 2, β⟩ (.exit 4) (soX_mk w β n l m M a cap0 cap1 n s)) :=
 Run.of_outT (Λ := noLam) (Ψ := noPsi) (fuel := 0) (ora := [false, false, false, false]) (l := [.forget [8, 22, 23, 25] 4]) mix tabOkSL gam849_ok
  (vc := [(false = false), ((decide ((n : Int) < (n : Int))) = false), ((decide ((n : Int) < (n : Int))) = false), ((decide ((n : Int) < (n : Int))) = false)]) (by kernel_rfl)
  (aC rfl (aC (decide_eq_false (by omega)) (aC (decide_eq_false (by omega)) (aC (decide_eq_false (by omega)) (AllP_nil)))))

theorem soX_loop (w : World) (β : Env) (n : Nat) (l : List Int) (m : Nat) (M a : List Int) (cap0 cap1 : Nat) (hn : n < 1099511627776) (hm : m < 1099511627776) (hl : l.length = n * 32) (hM : M.length = m * 32) (hBl : Byt l) (hBM : Byt M) (hBa : Byt a) (ha : a.length = 32) (hZ : IaP (nsRows n) n) (s : Unit) : Run Try.prog ⟨w, [], 2, β⟩ (.block 4 (.loop (loopB Try.f13 4))) (soX_mk w β n l m M a cap0 cap1 0 s) (To ⟨w, [], 2, β⟩ .normal (soX_mk w β n l m M a cap0 cap1 n (iter (moL_step) n s))) :=
 Run.count (fun k => soX_mk w β n l m M a cap0 cap1 k (iter (moL_step) k s)) n (fun k hk => soX_round w β n l m M a cap0 cap1 hn hm hl hM hBl hBM hBa ha hZ k hk _) (ex := (.exit 4)) (by simp) (soX_last w β n l m M a cap0 cap1 hn hm hl hM hBl hBM hBa ha hZ _)

noncomputable def soZP (n : Nat) (l : List Int) (m : Nat) (M a : List Int) (cap0 cap1 : Nat) : St := ⟨sparse 133 [(8, .o (.a (.rs 2 0 n 32))), (22, .o (.a (.rs 3 0 n 32))), (23, .o (.a (.i .i64 0))), (25, .o (.a (.i .i64 (n : Int))))], [bF [.ints .u8 (n * 32) l], bF [.ints .u8 (m * 32) M], bT [.ints .u8 (n * 32) (nsRows n)], bT [.ints .u8 (n * 32) (out2 (nsRows n) n n)]]⟩

theorem soYP (w : World) (β : Env) (n : Nat) (l : List Int) (m : Nat) (M a : List Int) (cap0 cap1 : Nat) (hn : n < 1099511627776) (hm : m < 1099511627776) (hl : l.length = n * 32) (hM : M.length = m * 32) (hBl : Byt l) (hBM : Byt M) (hBa : Byt a) (ha : a.length = 32) (hZ : IaP (nsRows n) n) : Run Try.prog ⟨w, [], 2, β⟩ (fstC (sndC (sndC (sndC (sndC (sndC (sndC (sndC (sndC (sndC (sndC (sndC (sndC (sndC (sndC soB))))))))))))))) (soVP n l m M a cap0 cap1) (To ⟨w, [], 2, β⟩ .normal (soZP n l m M a cap0 cap1)) :=
 Run.of_outT (Λ := lamOf [(4, ⟨[.forget [8, 22, 23, 25] 4], .normal, (soX_mk w β n l m M a cap0 cap1 n (iter (moL_step) n ()))⟩)]) (Ψ := noPsi) (fuel := 1) (ora := []) (l := [.forget [8, 22, 23, 25] 4]) mix tabOkSL gam849_ok
  (vc := [(Run Try.prog ⟨w, [], 2, β⟩ (.block 4 (.loop (loopB Try.f13 4))) (soX_mk w β n l m M a cap0 cap1 0 ()) (To ⟨w, [], 2, β⟩ .normal (soX_mk w β n l m M a cap0 cap1 n (iter (moL_step) n ()))))]) (by kernel_rfl)
  (aC (soX_loop w β n l m M a cap0 cap1 hn hm hl hM hBl hBM hBa ha hZ ()) (AllP_nil))

theorem soEP (w : World) (β : Env) (n : Nat) (l : List Int) (m : Nat) (M a : List Int) (cap0 cap1 : Nat) : Run Try.prog ⟨w, [], 2, β⟩ (sndC (sndC (sndC (sndC (sndC (sndC (sndC (sndC (sndC (sndC (sndC (sndC (sndC (sndC (sndC soB))))))))))))))) (soZP n l m M a cap0 cap1) (finP (tabOf tabSL) Try.f13 fun ys _ => ys = [.a (.b true)]) :=
 Run.of_finAt (Λ := noLam) (Ψ := noPsi) (fuel := 0) mix tabOkSL (gam849_ok.at _ _) (rs := [.tmp 6]) rfl [] []
  (vc := []) (by kernel_rfl)
  (AllP_nil)

noncomputable def soVE (n : Nat) (l : List Int) (m : Nat) (M a : List Int) (cap0 cap1 : Nat) : St := ⟨sparse 133 [(8, .o (.a (.rs 2 0 n 32))), (22, .o (.a (.rs 3 0 0 1))), (23, .o (.a (.i .i64 (iaE n)))), (24, .o (.a (.i .i64 (iaX (sub (nsRows n) 0 (n * 32)) n)))), (99, .t [.a (.rs 3 0 0 1), .a (.i .i64 (iaE n)), .a (.i .i64 (iaX (sub (nsRows n) 0 (n * 32)) n))]), (100, .o (.a (.rs 2 0 n 32))), (101, .t [.a (.rs 3 0 0 1), .a (.i .i64 (iaE n)), .a (.i .i64 (iaX (sub (nsRows n) 0 (n * 32)) n))]), (102, .o (.a (.rs 3 0 0 1))), (103, .o (.a (.i .i64 (iaE n)))), (104, .o (.a (.i .i64 (iaX (sub (nsRows n) 0 (n * 32)) n))))], [bF [.ints .u8 (n * 32) l], bF [.ints .u8 (m * 32) M], bT [.ints .u8 (n * 32) (nsRows n)], bT [.ints .u8 0 ([] : List Int)]]⟩

theorem soUE (w : World) (β : Env) (n : Nat) (l : List Int) (m : Nat) (M a : List Int) (cap0 cap1 : Nat) (hn : n < 1099511627776) (hm : m < 1099511627776) (hl : l.length = n * 32) (hM : M.length = m * 32) (hBl : Byt l) (hBM : Byt M) (hBa : Byt a) (ha : a.length = 32) (hZ : IaZ (nsRows n) n) (hn0 : 0 < n) : Run Try.prog ⟨w, [], 2, β⟩ (fstC (sndC (sndC (sndC (sndC (sndC (sndC (sndC (sndC (sndC (sndC (sndC (sndC (sndC soB)))))))))))))) (soT1 n l m M a cap0 cap1) (To ⟨w, [], 2, β⟩ .normal (soVE n l m M a cap0 cap1)) :=
 Run.of_outT (Λ := noLam) (Ψ := noPsi) (fuel := 1) (ora := []) (l := [.forget [8, 22, 23, 24, 99, 100, 101, 102, 103, 104] 4]) mix tabOkSL gam850_ok
  (vc := [((((0 + (n * 32)) ≤ (n * 32)) ∧ True) ∧ (((n * 32) = (n * 32)) ∧ (n ≤ 4398046510976) ∧ (Byt (sub (nsRows n) 0 (n * 32))) ∧ (IaZ (sub (nsRows n) 0 (n * 32)) n)))]) (by kernel_rfl)
  (aC ⟨⟨(by first | assumption | omega | (simp (disch := omega) only [wrapI]; omega)), trivial⟩, ⟨rfl, (by first | assumption | omega | (simp (disch := omega) only [wrapI]; omega)), (by first | exact byt_sub (nsRows_byt _) _ _ | exact byt_sub (out2_byt _ _ _) _ _ | exact nsRows_byt _), (by rw [sub_all _ _ (Nat.le_of_eq (nsRows_len n))]; exact hZ)⟩⟩ (AllP_nil))

noncomputable def soZE (n : Nat) (l : List Int) (m : Nat) (M a : List Int) (cap0 cap1 : Nat) : St := ⟨sparse 133 [(8, .o (.a (.rs 2 0 n 32))), (22, .o (.a (.rs 3 0 0 1))), (23, .o (.a (.i .i64 (iaE n)))), (24, .o (.a (.i .i64 (iaX (sub (nsRows n) 0 (n * 32)) n)))), (25, .o (.a (.i .i64 0))), (99, .t [.a (.rs 3 0 0 1), .a (.i .i64 (iaE n)), .a (.i .i64 (iaX (sub (nsRows n) 0 (n * 32)) n))]), (100, .o (.a (.rs 2 0 n 32))), (101, .t [.a (.rs 3 0 0 1), .a (.i .i64 (iaE n)), .a (.i .i64 (iaX (sub (nsRows n) 0 (n * 32)) n))]), (102, .o (.a (.rs 3 0 0 1))), (103, .o (.a (.i .i64 (iaE n)))), (104, .o (.a (.i .i64 (iaX (sub (nsRows n) 0 (n * 32)) n)))), (105, .o (.a (.i .i64 0))), (106, .o (.a (.rs 2 0 n 32))), (107, .o (.a (.i .i64 (n : Int)))), (108, .o (.a (.b (decide (0 < (n : Int)))))), (109, .o (.a (.b (decide (0 < (n : Int)))))), (110, .o (.a (.i .i64 (iaE n)))), (111, .o (.a (.b ((iaE n) == (0 : Int))))), (112, .o (.a (.b ((iaE n) == (0 : Int)))))], [bF [.ints .u8 (n * 32) l], bF [.ints .u8 (m * 32) M], bT [.ints .u8 (n * 32) (nsRows n)], bT [.ints .u8 0 ([] : List Int)]]⟩

theorem soYE (w : World) (β : Env) (n : Nat) (l : List Int) (m : Nat) (M a : List Int) (cap0 cap1 : Nat) (hn : n < 1099511627776) (hm : m < 1099511627776) (hl : l.length = n * 32) (hM : M.length = m * 32) (hBl : Byt l) (hBM : Byt M) (hBa : Byt a) (ha : a.length = 32) (hZ : IaZ (nsRows n) n) (hn0 : 0 < n) : Run Try.prog ⟨w, [], 2, β⟩ (fstC (sndC (sndC (sndC (sndC (sndC (sndC (sndC (sndC (sndC (sndC (sndC (sndC (sndC (sndC soB))))))))))))))) (soVE n l m M a cap0 cap1) (To ⟨w, [], 2, β⟩ .normal (soZE n l m M a cap0 cap1)) :=
 Run.of_outT (Λ := noLam) (Ψ := noPsi) (fuel := 1) (ora := [true, true, true, false]) (l := [.forget [8, 22, 23, 24, 25, 99, 100, 101, 102, 103, 104, 105, 106, 107, 108, 109, 110, 111, 112] 4]) mix tabOkSL gam850_ok
  (vc := [(((iaE n) == (0 : Int)) = false), ((decide (0 < (n : Int))) = true), ((decide (0 < (n : Int))) = true), ((decide (0 < (n : Int))) = true)]) (by kernel_rfl)
  (aC (beq_eq_false_iff_ne.2 (by unfold iaE; rw [if_neg (by omega)]; decide)) (aC (dt (by first | assumption | omega | (simp (disch := omega) only [wrapI]; omega))) (aC (dt (by first | assumption | omega | (simp (disch := omega) only [wrapI]; omega))) (aC (dt (by first | assumption | omega | (simp (disch := omega) only [wrapI]; omega))) (AllP_nil)))))

theorem soEE (w : World) (β : Env) (n : Nat) (l : List Int) (m : Nat) (M a : List Int) (cap0 cap1 : Nat) : Run Try.prog ⟨w, [], 2, β⟩ (sndC (sndC (sndC (sndC (sndC (sndC (sndC (sndC (sndC (sndC (sndC (sndC (sndC (sndC (sndC soB))))))))))))))) (soZE n l m M a cap0 cap1) (finP (tabOf tabSL) Try.f13 fun ys _ => ys = [.a (.b true)]) :=
 Run.of_finAt (Λ := noLam) (Ψ := noPsi) (fuel := 0) mix tabOkSL (gam850_ok.at _ _) (rs := [.tmp 6]) rfl [] []
  (vc := []) (by kernel_rfl)
  (AllP_nil)

theorem soUO (w : World) (β : Env) (n : Nat) (l : List Int) (m : Nat) (M a : List Int) (cap0 cap1 : Nat) (hn : n < 1099511627776) (hm : m < 1099511627776) (hl : l.length = n * 32) (hM : M.length = m * 32) (hBl : Byt l) (hBM : Byt M) (hBa : Byt a) (ha : a.length = 32) (hZ : IaZ (nsRows n) n) (hn0 : n = 0) : Run Try.prog ⟨w, [], 2, β⟩ (fstC (sndC (sndC (sndC (sndC (sndC (sndC (sndC (sndC (sndC (sndC (sndC (sndC (sndC soB)))))))))))))) (soT1 n l m M a cap0 cap1) (To ⟨w, [], 2, β⟩ .normal (soVE n l m M a cap0 cap1)) :=
 Run.of_outT (Λ := noLam) (Ψ := noPsi) (fuel := 1) (ora := []) (l := [.forget [8, 22, 23, 24, 99, 100, 101, 102, 103, 104] 4]) mix tabOkSL gam850_ok
  (vc := [((((0 + (n * 32)) ≤ (n * 32)) ∧ True) ∧ (((n * 32) = (n * 32)) ∧ (n ≤ 4398046510976) ∧ (Byt (sub (nsRows n) 0 (n * 32))) ∧ (IaZ (sub (nsRows n) 0 (n * 32)) n)))]) (by kernel_rfl)
  (aC ⟨⟨(by first | assumption | omega | (simp (disch := omega) only [wrapI]; omega)), trivial⟩, ⟨rfl, (by first | assumption | omega | (simp (disch := omega) only [wrapI]; omega)), (by first | exact byt_sub (nsRows_byt _) _ _ | exact byt_sub (out2_byt _ _ _) _ _ | exact nsRows_byt _), (by rw [sub_all _ _ (Nat.le_of_eq (nsRows_len n))]; exact hZ)⟩⟩ (AllP_nil))

noncomputable def soZO (n : Nat) (l : List Int) (m : Nat) (M a : List Int) (cap0 cap1 : Nat) : St := ⟨sparse 133 [(8, .o (.a (.rs 2 0 n 32))), (22, .o (.a (.rs 3 0 0 1))), (23, .o (.a (.i .i64 (iaE n)))), (24, .o (.a (.i .i64 (iaX (sub (nsRows n) 0 (n * 32)) n)))), (25, .o (.a (.i .i64 0))), (99, .t [.a (.rs 3 0 0 1), .a (.i .i64 (iaE n)), .a (.i .i64 (iaX (sub (nsRows n) 0 (n * 32)) n))]), (100, .o (.a (.rs 2 0 n 32))), (101, .t [.a (.rs 3 0 0 1), .a (.i .i64 (iaE n)), .a (.i .i64 (iaX (sub (nsRows n) 0 (n * 32)) n))]), (102, .o (.a (.rs 3 0 0 1))), (103, .o (.a (.i .i64 (iaE n)))), (104, .o (.a (.i .i64 (iaX (sub (nsRows n) 0 (n * 32)) n)))), (105, .o (.a (.i .i64 0))), (106, .o (.a (.rs 2 0 n 32))), (107, .o (.a (.i .i64 (n : Int)))), (108, .o (.a (.b (decide (0 < (n : Int)))))), (109, .o (.a (.b (decide (0 < (n : Int)))))), (110, .t []), (111, .t []), (112, .o (.a (.b false)))], [bF [.ints .u8 (n * 32) l], bF [.ints .u8 (m * 32) M], bT [.ints .u8 (n * 32) (nsRows n)], bT [.ints .u8 0 ([] : List Int)]]⟩

theorem soYO (w : World) (β : Env) (n : Nat) (l : List Int) (m : Nat) (M a : List Int) (cap0 cap1 : Nat) (hn : n < 1099511627776) (hm : m < 1099511627776) (hl : l.length = n * 32) (hM : M.length = m * 32) (hBl : Byt l) (hBM : Byt M) (hBa : Byt a) (ha : a.length = 32) (hZ : IaZ (nsRows n) n) (hn0 : n = 0) : Run Try.prog ⟨w, [], 2, β⟩ (fstC (sndC (sndC (sndC (sndC (sndC (sndC (sndC (sndC (sndC (sndC (sndC (sndC (sndC (sndC soB))))))))))))))) (soVE n l m M a cap0 cap1) (To ⟨w, [], 2, β⟩ .normal (soZO n l m M a cap0 cap1)) :=
 Run.of_outT (Λ := noLam) (Ψ := noPsi) (fuel := 1) (ora := [false, false, false, false]) (l := [.forget [8, 22, 23, 24, 25, 99, 100, 101, 102, 103, 104, 105, 106, 107, 108, 109, 110, 111, 112] 4]) mix tabOkSL gam850_ok
  (vc := [(false = false), ((decide (0 < (n : Int))) = false), ((decide (0 < (n : Int))) = false), ((decide (0 < (n : Int))) = false)]) (by kernel_rfl)
  (aC rfl (aC (df (by first | assumption | omega | (simp (disch := omega) only [wrapI]; omega))) (aC (df (by first | assumption | omega | (simp (disch := omega) only [wrapI]; omega))) (aC (df (by first | assumption | omega | (simp (disch := omega) only [wrapI]; omega))) (AllP_nil)))))

theorem soEO (w : World) (β : Env) (n : Nat) (l : List Int) (m : Nat) (M a : List Int) (cap0 cap1 : Nat) : Run Try.prog ⟨w, [], 2, β⟩ (sndC (sndC (sndC (sndC (sndC (sndC (sndC (sndC (sndC (sndC (sndC (sndC (sndC (sndC (sndC soB))))))))))))))) (soZO n l m M a cap0 cap1) (finP (tabOf tabSL) Try.f13 fun ys _ => ys = [.a (.b true)]) :=
 Run.of_finAt (Λ := noLam) (Ψ := noPsi) (fuel := 0) mix tabOkSL (gam850_ok.at _ _) (rs := [.tmp 6]) rfl [] []
  (vc := []) (by kernel_rfl)
  (AllP_nil)

end Go.Proofs.Ytcpoldghkiiggaa.X

/- Printed by a tool of this session. -/
namespace Go.Proofs.Ytcpoldghkiiggaa.X
open Go Go.Proofs
set_option linter.unusedVariables false
set_option linter.unusedSimpArgs false
set_option maxRecDepth 100000
set_option maxHeartbeats 8000000
theorem soPEP0 (w : World) (β : Env) (n : Nat) (l : List Int) (m : Nat) (M a : List Int) (cap0 cap1 : Nat) (hn : n < 1099511627776) (hm : m < 1099511627776) (hl : l.length = n * 32) (hM : M.length = m * 32) (hBl : Byt l) (hBM : Byt M) (hBa : Byt a) (ha : a.length = 32) (hX : IaP l n) (hY : IaZ M m) : Run Try.prog ⟨w, [], 2, β⟩ (fstC soB) (soS0 n l m M a cap0 cap1) (To ⟨w, [], 2, β⟩ .normal (soPPS1 n l m M a cap0 cap1)) :=
 Run.of_outT (Λ := noLam) (Ψ := noPsi) (fuel := 0) (ora := []) (l := [.forget [0, 1, 2, 5] 3]) mix tabOkSJPP gam826_ok
  (vc := []) (by kernel_rfl)
  (AllP_nil)

theorem soPEP1 (w : World) (β : Env) (n : Nat) (l : List Int) (m : Nat) (M a : List Int) (cap0 cap1 : Nat) (hn : n < 1099511627776) (hm : m < 1099511627776) (hl : l.length = n * 32) (hM : M.length = m * 32) (hBl : Byt l) (hBM : Byt M) (hBa : Byt a) (ha : a.length = 32) (hX : IaP l n) (hY : IaZ M m) : Run Try.prog ⟨w, [], 2, β⟩ (fstC (sndC soB)) (soPPS1 n l m M a cap0 cap1) (To ⟨w, [], 2, β⟩ .normal (soPPS2 n l m M a cap0 cap1)) :=
 Run.of_outT (Λ := noLam) (Ψ := noPsi) (fuel := 0) (ora := []) (l := [.forget [0, 1, 2, 5, 7] 4]) mix tabOkSJPP gam826_ok
  (vc := []) (by kernel_rfl)
  (AllP_nil)

theorem soPEP2 (w : World) (β : Env) (n : Nat) (l : List Int) (m : Nat) (M a : List Int) (cap0 cap1 : Nat) (hn : n < 1099511627776) (hm : m < 1099511627776) (hl : l.length = n * 32) (hM : M.length = m * 32) (hBl : Byt l) (hBM : Byt M) (hBa : Byt a) (ha : a.length = 32) (hX : IaP l n) (hY : IaZ M m) : Run Try.prog ⟨w, [], 2, β⟩ (fstC (sndC (sndC soB))) (soPPS2 n l m M a cap0 cap1) (To ⟨w, [], 2, β⟩ .normal (soPPS3 n l m M a cap0 cap1)) :=
 Run.of_outT (Λ := noLam) (Ψ := noPsi) (fuel := 0) (ora := []) (l := [.eqB 4 (⟨true, [.ints .u8 (n * 32) l]⟩), .forget [0, 1, 2, 5, 7, 8] 5]) mix tabOkSJPP gam826_ok
  (vc := [((some ⟨true, [.ints .u8 (copyS n) (copyS_1 n (sub l 0 (n * 32)))]⟩ : Option Blk) = some ⟨true, [.ints .u8 (n * 32) l]⟩), ((((0 + (n * 32)) ≤ (n * 32)) ∧ True) ∧ (((n * 32) = (n * 32)) ∧ (n ≤ 4398046511104)))]) (by kernel_rfl)
  (aC ((by rw [so_copy hl]; rfl)) (aC ⟨⟨(by first|assumption|exact hX.2|exact hY.2|omega), trivial⟩, ⟨rfl, (by first|assumption|exact hX.2|exact hY.2|omega)⟩⟩ (AllP_nil)))

theorem soPEP3 (w : World) (β : Env) (n : Nat) (l : List Int) (m : Nat) (M a : List Int) (cap0 cap1 : Nat) (hn : n < 1099511627776) (hm : m < 1099511627776) (hl : l.length = n * 32) (hM : M.length = m * 32) (hBl : Byt l) (hBM : Byt M) (hBa : Byt a) (ha : a.length = 32) (hX : IaP l n) (hY : IaZ M m) : Run Try.prog ⟨w, [], 2, β⟩ (fstC (sndC (sndC (sndC soB)))) (soPPS3 n l m M a cap0 cap1) (To ⟨w, [], 2, β⟩ .normal (soPPS4 n l m M a cap0 cap1)) :=
 Run.of_outT (Λ := noLam) (Ψ := noPsi) (fuel := 0) (ora := []) (l := [.eqB 5 (⟨true, [.ints .u8 (n * 32) (out2 l n n)]⟩), .forget [0, 1, 2, 5, 7, 8, 9, 10] 6]) mix tabOkSJPP gam826_ok
  (vc := [((bT [.ints .u8 (iaP n) (out2 (sub l 0 (n * 32)) n n)] : Option Blk) = bT [.ints .u8 (n * 32) (out2 l n n)]), ((((0 + (n * 32)) ≤ (n * 32)) ∧ True) ∧ (((n * 32) = (n * 32)) ∧ (n ≤ 4398046510976) ∧ (Byt (sub l 0 (n * 32))) ∧ (IaP (sub l 0 (n * 32)) n)))]) (by kernel_rfl)
  (aC ((by rw [sub_all l _ (Nat.le_of_eq hl)]; rfl)) (aC ⟨⟨(by first|assumption|exact hX.2|exact hY.2|omega), trivial⟩, ⟨rfl, (by first|assumption|exact hX.2|exact hY.2|omega), (byt_sub (by assumption) _ _), (by rw [sub_all l _ (Nat.le_of_eq hl)]; exact hX)⟩⟩ (AllP_nil)))

noncomputable def soPES5 (n : Nat) (l : List Int) (m : Nat) (M a : List Int) (cap0 cap1 : Nat) : St := ⟨sparse 133 [(0, .o (.a (.sl 0 0 n cap0))), (1, .o (.a (.sl 1 0 m cap1))), (2, .o (.g [.ints .u8 32 a])), (5, .o (.a (.p 2 0))), (7, .o (.a (.p 3 0))), (8, .o (.a (.rs 4 0 n 32))), (9, .o (.a (.rs 5 0 n 32))), (10, .o (.a (.i .i64 0))), (12, .o (.a (.rs 6 0 0 1)))], [bF [.ints .u8 (n * 32) l], bF [.ints .u8 (m * 32) M], bT [.ints .u8 32 a], some kb5, bT [.ints .u8 (n * 32) l], bT [.ints .u8 (n * 32) (out2 l n n)], bT [.ints .u8 0 ([] : List Int)]]⟩

theorem soPEP4 (w : World) (β : Env) (n : Nat) (l : List Int) (m : Nat) (M a : List Int) (cap0 cap1 : Nat) (hn : n < 1099511627776) (hm : m < 1099511627776) (hl : l.length = n * 32) (hM : M.length = m * 32) (hBl : Byt l) (hBM : Byt M) (hBa : Byt a) (ha : a.length = 32) (hX : IaP l n) (hY : IaZ M m) : Run Try.prog ⟨w, [], 2, β⟩ (fstC (sndC (sndC (sndC (sndC soB))))) (soPPS4 n l m M a cap0 cap1) (To ⟨w, [], 2, β⟩ .normal (soPES5 n l m M a cap0 cap1)) :=
 Run.of_outT (Λ := noLam) (Ψ := noPsi) (fuel := 0) (ora := []) (l := [.forget [0, 1, 2, 5, 7, 8, 9, 10, 12] 7]) mix tabOkSJPP gam826_ok
  (vc := [((((0 + (m * 32)) ≤ (m * 32)) ∧ True) ∧ (((m * 32) = (m * 32)) ∧ (m ≤ 4398046510976) ∧ (Byt (sub M 0 (m * 32))) ∧ (IaZ (sub M 0 (m * 32)) m)))]) (by kernel_rfl)
  (aC ⟨⟨(by first|assumption|exact hX.2|exact hY.2|omega), trivial⟩, ⟨rfl, (by first|assumption|exact hX.2|exact hY.2|omega), (byt_sub (by assumption) _ _), (by rw [sub_all M _ (Nat.le_of_eq hM)]; exact hY)⟩⟩ (AllP_nil))

noncomputable def soPES6 (n : Nat) (l : List Int) (m : Nat) (M a : List Int) (cap0 cap1 : Nat) : St := ⟨sparse 133 [(0, .o (.a (.sl 0 0 n cap0))), (1, .o (.a (.sl 1 0 m cap1))), (2, .o (.g [.ints .u8 32 a])), (5, .o (.a (.p 2 0))), (7, .o (.a (.p 3 0))), (8, .o (.a (.rs 4 0 n 32))), (9, .o (.a (.rs 5 0 n 32))), (10, .o (.a (.i .i64 0))), (12, .o (.a (.rs 6 0 0 1))), (15, .o (.a (.rs 7 0 n 32))), (16, .o (.a (.i .i64 0)))], [bF [.ints .u8 (n * 32) l], bF [.ints .u8 (m * 32) M], bT [.ints .u8 32 a], some kb5, bT [.ints .u8 (n * 32) l], bT [.ints .u8 (n * 32) (out2 l n n)], bT [.ints .u8 0 ([] : List Int)], bT [.ints .u8 (n * 32) (out2 l n n)]]⟩

theorem soPEP5 (w : World) (β : Env) (n : Nat) (l : List Int) (m : Nat) (M a : List Int) (cap0 cap1 : Nat) (hn : n < 1099511627776) (hm : m < 1099511627776) (hl : l.length = n * 32) (hM : M.length = m * 32) (hBl : Byt l) (hBM : Byt M) (hBa : Byt a) (ha : a.length = 32) (hX : IaP l n) (hY : IaZ M m) : Run Try.prog ⟨w, [], 2, β⟩ (fstC (sndC (sndC (sndC (sndC (sndC soB)))))) (soPES5 n l m M a cap0 cap1) (To ⟨w, [], 2, β⟩ .normal (soPES6 n l m M a cap0 cap1)) :=
 Run.of_outT (Λ := noLam) (Ψ := noPsi) (fuel := 0) (ora := []) (l := [.eqB 7 (⟨true, [.ints .u8 (n * 32) (out2 l n n)]⟩), .forget [0, 1, 2, 5, 7, 8, 9, 10, 12, 15, 16] 8]) mix tabOkSJPP gam826_ok
  (vc := [((bT [.ints .u8 (iaP n) (out2 (sub l 0 (n * 32)) n n)] : Option Blk) = bT [.ints .u8 (n * 32) (out2 l n n)]), ((((0 + (n * 32)) ≤ (n * 32)) ∧ True) ∧ (((n * 32) = (n * 32)) ∧ (n ≤ 4398046510976) ∧ (Byt (sub l 0 (n * 32))) ∧ (IaP (sub l 0 (n * 32)) n)))]) (by kernel_rfl)
  (aC ((by rw [sub_all l _ (Nat.le_of_eq hl)]; rfl)) (aC ⟨⟨(by first|assumption|exact hX.2|exact hY.2|omega), trivial⟩, ⟨rfl, (by first|assumption|exact hX.2|exact hY.2|omega), (byt_sub (by assumption) _ _), (by rw [sub_all l _ (Nat.le_of_eq hl)]; exact hX)⟩⟩ (AllP_nil)))

theorem soPEP6 (w : World) (β : Env) (n : Nat) (l : List Int) (m : Nat) (M a : List Int) (cap0 cap1 : Nat) (hn : n < 1099511627776) (hm : m < 1099511627776) (hl : l.length = n * 32) (hM : M.length = m * 32) (hBl : Byt l) (hBM : Byt M) (hBa : Byt a) (ha : a.length = 32) (hX : IaP l n) (hY : IaZ M m) : Run Try.prog ⟨w, [], 2, β⟩ (fstC (sndC (sndC (sndC (sndC (sndC (sndC soB))))))) (soPES6 n l m M a cap0 cap1) (To ⟨w, [], 2, β⟩ .normal (soPES6 n l m M a cap0 cap1)) :=
 Run.of_outT (Λ := noLam) (Ψ := noPsi) (fuel := 0) (ora := [true, true, true, true, false, false]) (l := [.forget [0, 1, 2, 5, 7, 8, 9, 10, 12, 15, 16] 8]) mix tabOkSJPP gam826_ok
  (vc := [(false = false), (false = false), (false = false), ((((0 + (n * 32)) ≤ (n * 32)) ∧ (((0 + (n * 32)) ≤ (n * 32)) ∧ True)) ∧ (((n * 32) = (n * 32)) ∧ ((n * 32) = (n * 32)) ∧ (n = n) ∧ ((sub (out2 l n n) 0 (n * 32)) = (sub (out2 l n n) 0 (n * 32))) ∧ (n ≤ 4398046511104))), (false = false), (false = false), (false = false)]) (by kernel_rfl)
  (aC rfl (aC rfl (aC rfl (aC ⟨⟨(by first|assumption|exact hX.2|exact hY.2|omega), ⟨(by first|assumption|exact hX.2|exact hY.2|omega), trivial⟩⟩, ⟨rfl, rfl, rfl, rfl, (by first|assumption|exact hX.2|exact hY.2|omega)⟩⟩ (aC rfl (aC rfl (aC rfl (AllP_nil))))))))

noncomputable def soPES8 (n : Nat) (l : List Int) (m : Nat) (M a : List Int) (cap0 cap1 : Nat) : St := ⟨sparse 133 [(0, .o (.a (.sl 0 0 n cap0))), (1, .o (.a (.sl 1 0 m cap1))), (2, .o (.g [.ints .u8 32 a])), (5, .o (.a (.p 2 0))), (7, .o (.a (.p 3 0))), (8, .o (.a (.rs 4 0 n 32))), (9, .o (.a (.rs 5 0 n 32))), (10, .o (.a (.i .i64 0))), (12, .o (.a (.rs 6 0 0 1))), (15, .o (.a (.rs 7 0 n 32))), (16, .o (.a (.i .i64 0)))], [bF [.ints .u8 (n * 32) l], bF [.ints .u8 (m * 32) M], bT [.ints .u8 32 a], bT [nlA, nlA, nlA, nlA, .rs 8 0 1 1, nlA, nlA, nlA, nlA, nlA, nlA, nlA, nlA, nlA, nlA, nlA, nlA, nlA, nlA, nlA, nlA], bT [.ints .u8 (n * 32) l], bT [.ints .u8 (n * 32) (out2 l n n)], bT [.ints .u8 0 ([] : List Int)], bT [.ints .u8 (n * 32) (out2 l n n)], bT [.rs 5 0 n 32]]⟩

theorem soPEP7 (w : World) (β : Env) (n : Nat) (l : List Int) (m : Nat) (M a : List Int) (cap0 cap1 : Nat) (hn : n < 1099511627776) (hm : m < 1099511627776) (hl : l.length = n * 32) (hM : M.length = m * 32) (hBl : Byt l) (hBM : Byt M) (hBa : Byt a) (ha : a.length = 32) (hX : IaP l n) (hY : IaZ M m) : Run Try.prog ⟨w, [], 2, β⟩ (fstC (sndC (sndC (sndC (sndC (sndC (sndC (sndC soB)))))))) (soPES6 n l m M a cap0 cap1) (To ⟨w, [], 2, β⟩ .normal (soPES8 n l m M a cap0 cap1)) :=
 Run.of_outT (Λ := noLam) (Ψ := noPsi) (fuel := 0) (ora := []) (l := [.forget [0, 1, 2, 5, 7, 8, 9, 10, 12, 15, 16] 9]) mix tabOkSJPP gam826_ok
  (vc := [((True ∧ (True ∧ True)) ∧ (((n * 32) = (n * 32)) ∧ (0 < n)))]) (by kernel_rfl)
  (aC ⟨⟨trivial, ⟨trivial, trivial⟩⟩, ⟨rfl, (by first|assumption|exact hX.2|exact hY.2|omega)⟩⟩ (AllP_nil))

theorem soPEP8 (w : World) (β : Env) (n : Nat) (l : List Int) (m : Nat) (M a : List Int) (cap0 cap1 : Nat) (hn : n < 1099511627776) (hm : m < 1099511627776) (hl : l.length = n * 32) (hM : M.length = m * 32) (hBl : Byt l) (hBM : Byt M) (hBa : Byt a) (ha : a.length = 32) (hX : IaP l n) (hY : IaZ M m) : Run Try.prog ⟨w, [], 2, β⟩ (fstC (sndC (sndC (sndC (sndC (sndC (sndC (sndC (sndC soB))))))))) (soPES8 n l m M a cap0 cap1) (To ⟨w, [], 2, β⟩ .normal (soPES8 n l m M a cap0 cap1)) :=
 Run.of_outT (Λ := noLam) (Ψ := noPsi) (fuel := 0) (ora := []) (l := [.forget [0, 1, 2, 5, 7, 8, 9, 10, 12, 15, 16] 9]) mix tabOkSJPP gam826_ok
  (vc := [((True ∧ (True ∧ True)) ∧ ((n * 32) = (n * 32)))]) (by kernel_rfl)
  (aC ⟨⟨trivial, ⟨trivial, trivial⟩⟩, rfl⟩ (AllP_nil))

noncomputable def soPES10 (n : Nat) (l : List Int) (m : Nat) (M a : List Int) (cap0 cap1 : Nat) : St := ⟨sparse 133 [(0, .o (.a (.sl 0 0 n cap0))), (1, .o (.a (.sl 1 0 m cap1))), (2, .o (.g [.ints .u8 32 a])), (5, .o (.a (.p 2 0))), (7, .o (.a (.p 3 0))), (8, .o (.a (.rs 4 0 n 32))), (9, .o (.a (.rs 5 0 n 32))), (10, .o (.a (.i .i64 0))), (12, .o (.a (.rs 6 0 0 1))), (15, .o (.a (.rs 7 0 n 32))), (16, .o (.a (.i .i64 0)))], [bF [.ints .u8 (n * 32) l], bF [.ints .u8 (m * 32) M], bT [.ints .u8 32 a], bT [nlA, nlA, nlA, nlA, .rs 9 0 2 1, nlA, nlA, nlA, nlA, nlA, nlA, nlA, nlA, nlA, nlA, nlA, nlA, nlA, nlA, nlA, nlA], bT [.ints .u8 (n * 32) l], bT [.ints .u8 (n * 32) (out2 l n n)], bT [.ints .u8 0 ([] : List Int)], bT [.ints .u8 (n * 32) (out2 l n n)], none, bT [.rs 5 0 n 32, .rs 7 0 n 32]]⟩

theorem soPEP9 (w : World) (β : Env) (n : Nat) (l : List Int) (m : Nat) (M a : List Int) (cap0 cap1 : Nat) (hn : n < 1099511627776) (hm : m < 1099511627776) (hl : l.length = n * 32) (hM : M.length = m * 32) (hBl : Byt l) (hBM : Byt M) (hBa : Byt a) (ha : a.length = 32) (hX : IaP l n) (hY : IaZ M m) : Run Try.prog ⟨w, [], 2, β⟩ (fstC (sndC (sndC (sndC (sndC (sndC (sndC (sndC (sndC (sndC soB)))))))))) (soPES8 n l m M a cap0 cap1) (To ⟨w, [], 2, β⟩ .normal (soPES10 n l m M a cap0 cap1)) :=
 Run.of_outT (Λ := noLam) (Ψ := noPsi) (fuel := 0) (ora := []) (l := [.forget [0, 1, 2, 5, 7, 8, 9, 10, 12, 15, 16] 10]) mix tabOkSJPP gam826_ok
  (vc := [((True ∧ (True ∧ True)) ∧ (((n * 32) = (n * 32)) ∧ ((n * 32) = (n * 32)) ∧ (0 < n)))]) (by kernel_rfl)
  (aC ⟨⟨trivial, ⟨trivial, trivial⟩⟩, ⟨rfl, rfl, (by first|assumption|exact hX.2|exact hY.2|omega)⟩⟩ (AllP_nil))

noncomputable def soPES11 (n : Nat) (l : List Int) (m : Nat) (M a : List Int) (cap0 cap1 : Nat) : St := ⟨sparse 133 [(0, .o (.a (.sl 0 0 n cap0))), (1, .o (.a (.sl 1 0 m cap1))), (2, .o (.g [.ints .u8 32 a])), (5, .o (.a (.p 2 0))), (7, .o (.a (.p 3 0))), (8, .o (.a (.rs 4 0 n 32))), (9, .o (.a (.rs 5 0 n 32))), (10, .o (.a (.i .i64 0))), (12, .o (.a (.rs 6 0 0 1))), (15, .o (.a (.rs 7 0 n 32))), (16, .o (.a (.i .i64 0)))], [bF [.ints .u8 (n * 32) l], bF [.ints .u8 (m * 32) M], bT [.ints .u8 32 a], bT [nlA, .rs 25 0 4 1, nlA, nlA, .rs 9 0 2 1, nlA, nlA, nlA, nlA, nlA, nlA, nlA, nlA, nlA, nlA, nlA, nlA, nlA, nlA, nlA, nlA], bT [.ints .u8 (n * 32) l], bT [.ints .u8 (n * 32) (out2 l n n)], bT [.ints .u8 0 ([] : List Int)], bT [.ints .u8 (n * 32) (out2 l n n)], none, bT [.rs 5 0 n 32, .rs 7 0 n 32], bT [.ints .u8 32 a], bT [.ints .u64 4 (nafP a (4 : Int))], bT [.ints .i64 256 (nafP_1 a (4 : Int))], bT [.ints .u8 32 a], bT [.ints .u8 32 (digP a)], bT [.ints .i64 64 (digP_1 a)], none, none, bT [.ints .u8 32 a], bT [.ints .u64 4 (nafP a (4 : Int))], bT [.ints .i64 256 (nafP_1 a (4 : Int))], bT [.ints .u8 32 a], bT [.ints .u8 32 (digP a)], bT [.ints .i64 64 (digP_1 a)], none, bT [.rs 15 0 64 1, .rs 12 0 256 1, .rs 23 0 64 1, .rs 20 0 256 1]]⟩

theorem soPEP10 (w : World) (β : Env) (n : Nat) (l : List Int) (m : Nat) (M a : List Int) (cap0 cap1 : Nat) (hn : n < 1099511627776) (hm : m < 1099511627776) (hl : l.length = n * 32) (hM : M.length = m * 32) (hBl : Byt l) (hBM : Byt M) (hBa : Byt a) (ha : a.length = 32) (hX : IaP l n) (hY : IaZ M m) : Run Try.prog ⟨w, [], 2, β⟩ (fstC (sndC (sndC (sndC (sndC (sndC (sndC (sndC (sndC (sndC (sndC soB))))))))))) (soPES10 n l m M a cap0 cap1) (To ⟨w, [], 2, β⟩ .normal (soPES11 n l m M a cap0 cap1)) :=
 Run.of_outT (Λ := noLam) (Ψ := noPsi) (fuel := 3) (ora := [true, true, false]) (l := [.forget [0, 1, 2, 5, 7, 8, 9, 10, 12, 15, 16] 26]) mix tabOkSJPP gam826_ok
  (vc := (let p0_ : Prop := ((True ∧ (True ∧ True)) ∧ (((n * 32) = (n * 32)) ∧ ((n * 32) = (n * 32)))); let p1_ : Prop := ((True ∧ True) ∧ (Byt a)); let p2_ : Prop := ((True ∧ (True ∧ True)) ∧ ((Byt a) ∧ ((2 : Int) ≤ 4) ∧ ((4 : Int) ≤ 8))); [(false = false), p0_, p0_, p1_, p2_, cT, p0_, p0_, p1_, p2_, cT])) (by kernel_rfl)
  (aC rfl (aC ⟨⟨trivial, ⟨trivial, trivial⟩⟩, ⟨rfl, rfl⟩⟩ (aC ⟨⟨trivial, ⟨trivial, trivial⟩⟩, ⟨rfl, rfl⟩⟩ (aC ⟨⟨trivial, trivial⟩, (by first | assumption | exact byt_B32 _)⟩ (aC ⟨⟨trivial, ⟨trivial, trivial⟩⟩, ⟨(by first | assumption | exact byt_B32 _), (dd rfl), (dd rfl)⟩⟩ (aC rfl (aC ⟨⟨trivial, ⟨trivial, trivial⟩⟩, ⟨rfl, rfl⟩⟩ (aC ⟨⟨trivial, ⟨trivial, trivial⟩⟩, ⟨rfl, rfl⟩⟩ (aC ⟨⟨trivial, trivial⟩, (by first | assumption | exact byt_B32 _)⟩ (aC ⟨⟨trivial, ⟨trivial, trivial⟩⟩, ⟨(by first | assumption | exact byt_B32 _), (dd rfl), (dd rfl)⟩⟩ (aC rfl (AllP_nil))))))))))))

theorem soPEP11 (w : World) (β : Env) (n : Nat) (l : List Int) (m : Nat) (M a : List Int) (cap0 cap1 : Nat) (hn : n < 1099511627776) (hm : m < 1099511627776) (hl : l.length = n * 32) (hM : M.length = m * 32) (hBl : Byt l) (hBM : Byt M) (hBa : Byt a) (ha : a.length = 32) (hX : IaP l n) (hY : IaZ M m) : Run Try.prog ⟨w, [], 2, β⟩ (fstC (sndC (sndC (sndC (sndC (sndC (sndC (sndC (sndC (sndC (sndC (sndC soB)))))))))))) (soPES11 n l m M a cap0 cap1) (To ⟨w, [], 2, β⟩ .normal (soMidPP n l m M a cap0 cap1)) :=
 Run.of_outT (Λ := noLam) (Ψ := noPsi) (fuel := 0) (ora := [true, true, true, true, false, false]) (l := [.swap 2 4, .forget [8] 3]) mix tabOkSJPP gam826_ok
  (vc := [(false = false), (false = false), (false = false), ((((0 + (n * 32)) ≤ (n * 32)) ∧ (((0 + (n * 32)) ≤ (n * 32)) ∧ True)) ∧ (((n * 32) = (n * 32)) ∧ ((n * 32) = (n * 32)) ∧ (n = n) ∧ ((sub l 0 (n * 32)) = (sub l 0 (n * 32))) ∧ (n ≤ 4398046511104))), (false = false), (false = false), (false = false), ((True ∧ True) ∧ ((n = n) ∧ (n < 1099511627776) ∧ ((n * 32) = (n * 32)) ∧ ((n * 32) = (n * 32))))]) (by kernel_rfl)
  (aC rfl (aC rfl (aC rfl (aC ⟨⟨(by first|assumption|exact hX.2|exact hY.2|omega), ⟨(by first|assumption|exact hX.2|exact hY.2|omega), trivial⟩⟩, ⟨rfl, rfl, rfl, rfl, (by first|assumption|exact hX.2|exact hY.2|omega)⟩⟩ (aC rfl (aC rfl (aC rfl (aC ⟨⟨trivial, trivial⟩, ⟨rfl, (by first|assumption|exact hX.2|exact hY.2|omega), rfl, rfl⟩⟩ (AllP_nil)))))))))

end Go.Proofs.Ytcpoldghkiiggaa.X

/- Printed by a tool of this session. -/
namespace Go.Proofs.Ytcpoldghkiiggaa.X
open Go Go.Proofs
set_option linter.unusedVariables false
set_option linter.unusedSimpArgs false
set_option maxRecDepth 100000
set_option maxHeartbeats 8000000
theorem soEPP0 (w : World) (β : Env) (n : Nat) (l : List Int) (m : Nat) (M a : List Int) (cap0 cap1 : Nat) (hn : n < 1099511627776) (hm : m < 1099511627776) (hl : l.length = n * 32) (hM : M.length = m * 32) (hBl : Byt l) (hBM : Byt M) (hBa : Byt a) (ha : a.length = 32) (hX : IaZ l n) (hY : IaP M m) : Run Try.prog ⟨w, [], 2, β⟩ (fstC soB) (soS0 n l m M a cap0 cap1) (To ⟨w, [], 2, β⟩ .normal (soPPS1 n l m M a cap0 cap1)) :=
 Run.of_outT (Λ := noLam) (Ψ := noPsi) (fuel := 0) (ora := []) (l := [.forget [0, 1, 2, 5] 3]) mix tabOkSJPP gam839_ok
  (vc := []) (by kernel_rfl)
  (AllP_nil)

theorem soEPP1 (w : World) (β : Env) (n : Nat) (l : List Int) (m : Nat) (M a : List Int) (cap0 cap1 : Nat) (hn : n < 1099511627776) (hm : m < 1099511627776) (hl : l.length = n * 32) (hM : M.length = m * 32) (hBl : Byt l) (hBM : Byt M) (hBa : Byt a) (ha : a.length = 32) (hX : IaZ l n) (hY : IaP M m) : Run Try.prog ⟨w, [], 2, β⟩ (fstC (sndC soB)) (soPPS1 n l m M a cap0 cap1) (To ⟨w, [], 2, β⟩ .normal (soPPS2 n l m M a cap0 cap1)) :=
 Run.of_outT (Λ := noLam) (Ψ := noPsi) (fuel := 0) (ora := []) (l := [.forget [0, 1, 2, 5, 7] 4]) mix tabOkSJPP gam839_ok
  (vc := []) (by kernel_rfl)
  (AllP_nil)

theorem soEPP2 (w : World) (β : Env) (n : Nat) (l : List Int) (m : Nat) (M a : List Int) (cap0 cap1 : Nat) (hn : n < 1099511627776) (hm : m < 1099511627776) (hl : l.length = n * 32) (hM : M.length = m * 32) (hBl : Byt l) (hBM : Byt M) (hBa : Byt a) (ha : a.length = 32) (hX : IaZ l n) (hY : IaP M m) : Run Try.prog ⟨w, [], 2, β⟩ (fstC (sndC (sndC soB))) (soPPS2 n l m M a cap0 cap1) (To ⟨w, [], 2, β⟩ .normal (soPPS3 n l m M a cap0 cap1)) :=
 Run.of_outT (Λ := noLam) (Ψ := noPsi) (fuel := 0) (ora := []) (l := [.eqB 4 (⟨true, [.ints .u8 (n * 32) l]⟩), .forget [0, 1, 2, 5, 7, 8] 5]) mix tabOkSJPP gam839_ok
  (vc := [((some ⟨true, [.ints .u8 (copyS n) (copyS_1 n (sub l 0 (n * 32)))]⟩ : Option Blk) = some ⟨true, [.ints .u8 (n * 32) l]⟩), ((((0 + (n * 32)) ≤ (n * 32)) ∧ True) ∧ (((n * 32) = (n * 32)) ∧ (n ≤ 4398046511104)))]) (by kernel_rfl)
  (aC ((by rw [so_copy hl]; rfl)) (aC ⟨⟨(by first|assumption|exact hX.2|exact hY.2|omega), trivial⟩, ⟨rfl, (by first|assumption|exact hX.2|exact hY.2|omega)⟩⟩ (AllP_nil)))

noncomputable def soEPS4 (n : Nat) (l : List Int) (m : Nat) (M a : List Int) (cap0 cap1 : Nat) : St := ⟨sparse 133 [(0, .o (.a (.sl 0 0 n cap0))), (1, .o (.a (.sl 1 0 m cap1))), (2, .o (.g [.ints .u8 32 a])), (5, .o (.a (.p 2 0))), (7, .o (.a (.p 3 0))), (8, .o (.a (.rs 4 0 n 32))), (9, .o (.a (.rs 5 0 0 1))), (10, .o (.a (.i .i64 (iaE n))))], [bF [.ints .u8 (n * 32) l], bF [.ints .u8 (m * 32) M], bT [.ints .u8 32 a], some kb5, bT [.ints .u8 (n * 32) l], bT [.ints .u8 0 ([] : List Int)]]⟩

theorem soEPP3 (w : World) (β : Env) (n : Nat) (l : List Int) (m : Nat) (M a : List Int) (cap0 cap1 : Nat) (hn : n < 1099511627776) (hm : m < 1099511627776) (hl : l.length = n * 32) (hM : M.length = m * 32) (hBl : Byt l) (hBM : Byt M) (hBa : Byt a) (ha : a.length = 32) (hX : IaZ l n) (hY : IaP M m) : Run Try.prog ⟨w, [], 2, β⟩ (fstC (sndC (sndC (sndC soB)))) (soPPS3 n l m M a cap0 cap1) (To ⟨w, [], 2, β⟩ .normal (soEPS4 n l m M a cap0 cap1)) :=
 Run.of_outT (Λ := noLam) (Ψ := noPsi) (fuel := 0) (ora := []) (l := [.forget [0, 1, 2, 5, 7, 8, 9, 10] 6]) mix tabOkSJPP gam839_ok
  (vc := [((((0 + (n * 32)) ≤ (n * 32)) ∧ True) ∧ (((n * 32) = (n * 32)) ∧ (n ≤ 4398046510976) ∧ (Byt (sub l 0 (n * 32))) ∧ (IaZ (sub l 0 (n * 32)) n)))]) (by kernel_rfl)
  (aC ⟨⟨(by first|assumption|exact hX.2|exact hY.2|omega), trivial⟩, ⟨rfl, (by first|assumption|exact hX.2|exact hY.2|omega), (byt_sub (by assumption) _ _), (by rw [sub_all l _ (Nat.le_of_eq hl)]; exact hX)⟩⟩ (AllP_nil))

noncomputable def soEPS5 (n : Nat) (l : List Int) (m : Nat) (M a : List Int) (cap0 cap1 : Nat) : St := ⟨sparse 133 [(0, .o (.a (.sl 0 0 n cap0))), (1, .o (.a (.sl 1 0 m cap1))), (2, .o (.g [.ints .u8 32 a])), (5, .o (.a (.p 2 0))), (7, .o (.a (.p 3 0))), (8, .o (.a (.rs 4 0 n 32))), (9, .o (.a (.rs 5 0 0 1))), (10, .o (.a (.i .i64 (iaE n)))), (12, .o (.a (.rs 6 0 m 32)))], [bF [.ints .u8 (n * 32) l], bF [.ints .u8 (m * 32) M], bT [.ints .u8 32 a], some kb5, bT [.ints .u8 (n * 32) l], bT [.ints .u8 0 ([] : List Int)], bT [.ints .u8 (m * 32) (out2 M m m)]]⟩

theorem soEPP4 (w : World) (β : Env) (n : Nat) (l : List Int) (m : Nat) (M a : List Int) (cap0 cap1 : Nat) (hn : n < 1099511627776) (hm : m < 1099511627776) (hl : l.length = n * 32) (hM : M.length = m * 32) (hBl : Byt l) (hBM : Byt M) (hBa : Byt a) (ha : a.length = 32) (hX : IaZ l n) (hY : IaP M m) : Run Try.prog ⟨w, [], 2, β⟩ (fstC (sndC (sndC (sndC (sndC soB))))) (soEPS4 n l m M a cap0 cap1) (To ⟨w, [], 2, β⟩ .normal (soEPS5 n l m M a cap0 cap1)) :=
 Run.of_outT (Λ := noLam) (Ψ := noPsi) (fuel := 0) (ora := []) (l := [.eqB 6 (⟨true, [.ints .u8 (m * 32) (out2 M m m)]⟩), .forget [0, 1, 2, 5, 7, 8, 9, 10, 12] 7]) mix tabOkSJPP gam839_ok
  (vc := [((bT [.ints .u8 (iaP m) (out2 (sub M 0 (m * 32)) m m)] : Option Blk) = bT [.ints .u8 (m * 32) (out2 M m m)]), ((((0 + (m * 32)) ≤ (m * 32)) ∧ True) ∧ (((m * 32) = (m * 32)) ∧ (m ≤ 4398046510976) ∧ (Byt (sub M 0 (m * 32))) ∧ (IaP (sub M 0 (m * 32)) m)))]) (by kernel_rfl)
  (aC ((by rw [sub_all M _ (Nat.le_of_eq hM)]; rfl)) (aC ⟨⟨(by first|assumption|exact hX.2|exact hY.2|omega), trivial⟩, ⟨rfl, (by first|assumption|exact hX.2|exact hY.2|omega), (byt_sub (by assumption) _ _), (by rw [sub_all M _ (Nat.le_of_eq hM)]; exact hY)⟩⟩ (AllP_nil)))

noncomputable def soEPS6 (n : Nat) (l : List Int) (m : Nat) (M a : List Int) (cap0 cap1 : Nat) : St := ⟨sparse 133 [(0, .o (.a (.sl 0 0 n cap0))), (1, .o (.a (.sl 1 0 m cap1))), (2, .o (.g [.ints .u8 32 a])), (5, .o (.a (.p 2 0))), (7, .o (.a (.p 3 0))), (8, .o (.a (.rs 4 0 n 32))), (9, .o (.a (.rs 5 0 0 1))), (10, .o (.a (.i .i64 (iaE n)))), (12, .o (.a (.rs 6 0 m 32))), (15, .o (.a (.rs 7 0 0 1))), (16, .o (.a (.i .i64 (iaE n))))], [bF [.ints .u8 (n * 32) l], bF [.ints .u8 (m * 32) M], bT [.ints .u8 32 a], some kb5, bT [.ints .u8 (n * 32) l], bT [.ints .u8 0 ([] : List Int)], bT [.ints .u8 (m * 32) (out2 M m m)], bT [.ints .u8 0 ([] : List Int)]]⟩

theorem soEPP5 (w : World) (β : Env) (n : Nat) (l : List Int) (m : Nat) (M a : List Int) (cap0 cap1 : Nat) (hn : n < 1099511627776) (hm : m < 1099511627776) (hl : l.length = n * 32) (hM : M.length = m * 32) (hBl : Byt l) (hBM : Byt M) (hBa : Byt a) (ha : a.length = 32) (hX : IaZ l n) (hY : IaP M m) : Run Try.prog ⟨w, [], 2, β⟩ (fstC (sndC (sndC (sndC (sndC (sndC soB)))))) (soEPS5 n l m M a cap0 cap1) (To ⟨w, [], 2, β⟩ .normal (soEPS6 n l m M a cap0 cap1)) :=
 Run.of_outT (Λ := noLam) (Ψ := noPsi) (fuel := 0) (ora := []) (l := [.forget [0, 1, 2, 5, 7, 8, 9, 10, 12, 15, 16] 8]) mix tabOkSJPP gam839_ok
  (vc := [((((0 + (n * 32)) ≤ (n * 32)) ∧ True) ∧ (((n * 32) = (n * 32)) ∧ (n ≤ 4398046510976) ∧ (Byt (sub l 0 (n * 32))) ∧ (IaZ (sub l 0 (n * 32)) n)))]) (by kernel_rfl)
  (aC ⟨⟨(by first|assumption|exact hX.2|exact hY.2|omega), trivial⟩, ⟨rfl, (by first|assumption|exact hX.2|exact hY.2|omega), (byt_sub (by assumption) _ _), (by rw [sub_all l _ (Nat.le_of_eq hl)]; exact hX)⟩⟩ (AllP_nil))

theorem soEPP6 (w : World) (β : Env) (n : Nat) (l : List Int) (m : Nat) (M a : List Int) (cap0 cap1 : Nat) (hn : n < 1099511627776) (hm : m < 1099511627776) (hl : l.length = n * 32) (hM : M.length = m * 32) (hBl : Byt l) (hBM : Byt M) (hBa : Byt a) (ha : a.length = 32) (hX : IaZ l n) (hY : IaP M m) : Run Try.prog ⟨w, [], 2, β⟩ (fstC (sndC (sndC (sndC (sndC (sndC (sndC soB))))))) (soEPS6 n l m M a cap0 cap1) (To ⟨w, [], 2, β⟩ .normal (soEPS6 n l m M a cap0 cap1)) :=
 Run.of_outT (Λ := noLam) (Ψ := noPsi) (fuel := 0) (ora := [true, true, true, true, false, false]) (l := [.forget [0, 1, 2, 5, 7, 8, 9, 10, 12, 15, 16] 8]) mix tabOkSJPP gam839_ok
  (vc := (let p0_ : Prop := (((iaE n) != (iaE n)) = false); [(false = false), p0_, p0_, (((0 ≤ 0) ∧ ((0 ≤ 0) ∧ True)) ∧ ((0 = (0 * 32)) ∧ (0 = (0 * 32)) ∧ (0 = 0) ∧ (([] : List Int) = ([] : List Int)) ∧ (0 ≤ 4398046511104))), p0_, p0_, p0_])) (by kernel_rfl)
  (aC rfl (aC (not_bne_same _) (aC (not_bne_same _) (aC ⟨⟨(dd rfl), ⟨(dd rfl), trivial⟩⟩, ⟨(by first|assumption|exact hX.2|exact hY.2|omega), (by first|assumption|exact hX.2|exact hY.2|omega), rfl, rfl, (dd rfl)⟩⟩ (aC (not_bne_same _) (aC (not_bne_same _) (aC (not_bne_same _) (AllP_nil))))))))

theorem soEPP7 (w : World) (β : Env) (n : Nat) (l : List Int) (m : Nat) (M a : List Int) (cap0 cap1 : Nat) (hn : n < 1099511627776) (hm : m < 1099511627776) (hl : l.length = n * 32) (hM : M.length = m * 32) (hBl : Byt l) (hBM : Byt M) (hBa : Byt a) (ha : a.length = 32) (hX : IaZ l n) (hY : IaP M m) : Run Try.prog ⟨w, [], 2, β⟩ (fstC (sndC (sndC (sndC (sndC (sndC (sndC (sndC soB)))))))) (soEPS6 n l m M a cap0 cap1) (To ⟨w, [], 2, β⟩ .normal (soEPS6 n l m M a cap0 cap1)) :=
 Run.of_outT (Λ := noLam) (Ψ := noPsi) (fuel := 0) (ora := []) (l := [.forget [0, 1, 2, 5, 7, 8, 9, 10, 12, 15, 16] 8]) mix tabOkSJPP gam839_ok
  (vc := [((True ∧ (True ∧ True)) ∧ True)]) (by kernel_rfl)
  (aC ⟨⟨trivial, ⟨trivial, trivial⟩⟩, trivial⟩ (AllP_nil))

noncomputable def soEPS9 (n : Nat) (l : List Int) (m : Nat) (M a : List Int) (cap0 cap1 : Nat) : St := ⟨sparse 133 [(0, .o (.a (.sl 0 0 n cap0))), (1, .o (.a (.sl 1 0 m cap1))), (2, .o (.g [.ints .u8 32 a])), (5, .o (.a (.p 2 0))), (7, .o (.a (.p 3 0))), (8, .o (.a (.rs 4 0 n 32))), (9, .o (.a (.rs 5 0 0 1))), (10, .o (.a (.i .i64 (iaE n)))), (12, .o (.a (.rs 6 0 m 32))), (15, .o (.a (.rs 7 0 0 1))), (16, .o (.a (.i .i64 (iaE n))))], [bF [.ints .u8 (n * 32) l], bF [.ints .u8 (m * 32) M], bT [.ints .u8 32 a], bT [nlA, nlA, nlA, nlA, .rs 8 0 1 1, nlA, nlA, nlA, nlA, nlA, nlA, nlA, nlA, nlA, nlA, nlA, nlA, nlA, nlA, nlA, nlA], bT [.ints .u8 (n * 32) l], bT [.ints .u8 0 ([] : List Int)], bT [.ints .u8 (m * 32) (out2 M m m)], bT [.ints .u8 0 ([] : List Int)], bT [.rs 6 0 m 32]]⟩

theorem soEPP8 (w : World) (β : Env) (n : Nat) (l : List Int) (m : Nat) (M a : List Int) (cap0 cap1 : Nat) (hn : n < 1099511627776) (hm : m < 1099511627776) (hl : l.length = n * 32) (hM : M.length = m * 32) (hBl : Byt l) (hBM : Byt M) (hBa : Byt a) (ha : a.length = 32) (hX : IaZ l n) (hY : IaP M m) : Run Try.prog ⟨w, [], 2, β⟩ (fstC (sndC (sndC (sndC (sndC (sndC (sndC (sndC (sndC soB))))))))) (soEPS6 n l m M a cap0 cap1) (To ⟨w, [], 2, β⟩ .normal (soEPS9 n l m M a cap0 cap1)) :=
 Run.of_outT (Λ := noLam) (Ψ := noPsi) (fuel := 0) (ora := []) (l := [.forget [0, 1, 2, 5, 7, 8, 9, 10, 12, 15, 16] 9]) mix tabOkSJPP gam839_ok
  (vc := [((True ∧ (True ∧ True)) ∧ (((m * 32) = (m * 32)) ∧ (0 < m)))]) (by kernel_rfl)
  (aC ⟨⟨trivial, ⟨trivial, trivial⟩⟩, ⟨rfl, (by first|assumption|exact hX.2|exact hY.2|omega)⟩⟩ (AllP_nil))

theorem soEPP9 (w : World) (β : Env) (n : Nat) (l : List Int) (m : Nat) (M a : List Int) (cap0 cap1 : Nat) (hn : n < 1099511627776) (hm : m < 1099511627776) (hl : l.length = n * 32) (hM : M.length = m * 32) (hBl : Byt l) (hBM : Byt M) (hBa : Byt a) (ha : a.length = 32) (hX : IaZ l n) (hY : IaP M m) : Run Try.prog ⟨w, [], 2, β⟩ (fstC (sndC (sndC (sndC (sndC (sndC (sndC (sndC (sndC (sndC soB)))))))))) (soEPS9 n l m M a cap0 cap1) (To ⟨w, [], 2, β⟩ .normal (soEPS9 n l m M a cap0 cap1)) :=
 Run.of_outT (Λ := noLam) (Ψ := noPsi) (fuel := 0) (ora := []) (l := [.forget [0, 1, 2, 5, 7, 8, 9, 10, 12, 15, 16] 9]) mix tabOkSJPP gam839_ok
  (vc := [((True ∧ (True ∧ True)) ∧ ((m * 32) = (m * 32)))]) (by kernel_rfl)
  (aC ⟨⟨trivial, ⟨trivial, trivial⟩⟩, rfl⟩ (AllP_nil))

noncomputable def soEPS11 (n : Nat) (l : List Int) (m : Nat) (M a : List Int) (cap0 cap1 : Nat) : St := ⟨sparse 133 [(0, .o (.a (.sl 0 0 n cap0))), (1, .o (.a (.sl 1 0 m cap1))), (2, .o (.g [.ints .u8 32 a])), (5, .o (.a (.p 2 0))), (7, .o (.a (.p 3 0))), (8, .o (.a (.rs 4 0 n 32))), (9, .o (.a (.rs 5 0 0 1))), (10, .o (.a (.i .i64 (iaE n)))), (12, .o (.a (.rs 6 0 m 32))), (15, .o (.a (.rs 7 0 0 1))), (16, .o (.a (.i .i64 (iaE n))))], [bF [.ints .u8 (n * 32) l], bF [.ints .u8 (m * 32) M], bT [.ints .u8 32 a], bT [nlA, .rs 24 0 4 1, nlA, nlA, .rs 8 0 1 1, nlA, nlA, nlA, nlA, nlA, nlA, nlA, nlA, nlA, nlA, nlA, nlA, nlA, nlA, nlA, nlA], bT [.ints .u8 (n * 32) l], bT [.ints .u8 0 ([] : List Int)], bT [.ints .u8 (m * 32) (out2 M m m)], bT [.ints .u8 0 ([] : List Int)], bT [.rs 6 0 m 32], bT [.ints .u8 32 a], bT [.ints .u64 4 (nafP a (4 : Int))], bT [.ints .i64 256 (nafP_1 a (4 : Int))], bT [.ints .u8 32 a], bT [.ints .u8 32 (digP a)], bT [.ints .i64 64 (digP_1 a)], none, none, bT [.ints .u8 32 a], bT [.ints .u64 4 (nafP a (4 : Int))], bT [.ints .i64 256 (nafP_1 a (4 : Int))], bT [.ints .u8 32 a], bT [.ints .u8 32 (digP a)], bT [.ints .i64 64 (digP_1 a)], none, bT [.rs 14 0 64 1, .rs 11 0 256 1, .rs 22 0 64 1, .rs 19 0 256 1]]⟩

theorem soEPP10 (w : World) (β : Env) (n : Nat) (l : List Int) (m : Nat) (M a : List Int) (cap0 cap1 : Nat) (hn : n < 1099511627776) (hm : m < 1099511627776) (hl : l.length = n * 32) (hM : M.length = m * 32) (hBl : Byt l) (hBM : Byt M) (hBa : Byt a) (ha : a.length = 32) (hX : IaZ l n) (hY : IaP M m) : Run Try.prog ⟨w, [], 2, β⟩ (fstC (sndC (sndC (sndC (sndC (sndC (sndC (sndC (sndC (sndC (sndC soB))))))))))) (soEPS9 n l m M a cap0 cap1) (To ⟨w, [], 2, β⟩ .normal (soEPS11 n l m M a cap0 cap1)) :=
 Run.of_outT (Λ := noLam) (Ψ := noPsi) (fuel := 3) (ora := [true, true, false]) (l := [.forget [0, 1, 2, 5, 7, 8, 9, 10, 12, 15, 16] 25]) mix tabOkSJPP gam839_ok
  (vc := (let p0_ : Prop := ((True ∧ (True ∧ True)) ∧ ((m * 32) = (m * 32))); let p1_ : Prop := ((True ∧ True) ∧ (Byt a)); let p2_ : Prop := ((True ∧ (True ∧ True)) ∧ ((Byt a) ∧ ((2 : Int) ≤ 4) ∧ ((4 : Int) ≤ 8))); [(false = false), p0_, p0_, p1_, p2_, cT, p0_, p0_, p1_, p2_, cT])) (by kernel_rfl)
  (aC rfl (aC ⟨⟨trivial, ⟨trivial, trivial⟩⟩, rfl⟩ (aC ⟨⟨trivial, ⟨trivial, trivial⟩⟩, rfl⟩ (aC ⟨⟨trivial, trivial⟩, (by first | assumption | exact byt_B32 _)⟩ (aC ⟨⟨trivial, ⟨trivial, trivial⟩⟩, ⟨(by first | assumption | exact byt_B32 _), (dd rfl), (dd rfl)⟩⟩ (aC rfl (aC ⟨⟨trivial, ⟨trivial, trivial⟩⟩, rfl⟩ (aC ⟨⟨trivial, ⟨trivial, trivial⟩⟩, rfl⟩ (aC ⟨⟨trivial, trivial⟩, (by first | assumption | exact byt_B32 _)⟩ (aC ⟨⟨trivial, ⟨trivial, trivial⟩⟩, ⟨(by first | assumption | exact byt_B32 _), (dd rfl), (dd rfl)⟩⟩ (aC rfl (AllP_nil))))))))))))

theorem soEPP11 (w : World) (β : Env) (n : Nat) (l : List Int) (m : Nat) (M a : List Int) (cap0 cap1 : Nat) (hn : n < 1099511627776) (hm : m < 1099511627776) (hl : l.length = n * 32) (hM : M.length = m * 32) (hBl : Byt l) (hBM : Byt M) (hBa : Byt a) (ha : a.length = 32) (hX : IaZ l n) (hY : IaP M m) : Run Try.prog ⟨w, [], 2, β⟩ (fstC (sndC (sndC (sndC (sndC (sndC (sndC (sndC (sndC (sndC (sndC (sndC soB)))))))))))) (soEPS11 n l m M a cap0 cap1) (To ⟨w, [], 2, β⟩ .normal (soMidPP n l m M a cap0 cap1)) :=
 Run.of_outT (Λ := noLam) (Ψ := noPsi) (fuel := 0) (ora := [true, true, true, true, false, false]) (l := [.swap 2 4, .forget [8] 3]) mix tabOkSJPP gam839_ok
  (vc := [(false = false), (false = false), (false = false), ((((0 + (n * 32)) ≤ (n * 32)) ∧ (((0 + (n * 32)) ≤ (n * 32)) ∧ True)) ∧ (((n * 32) = (n * 32)) ∧ ((n * 32) = (n * 32)) ∧ (n = n) ∧ ((sub l 0 (n * 32)) = (sub l 0 (n * 32))) ∧ (n ≤ 4398046511104))), (false = false), (false = false), (false = false), ((True ∧ True) ∧ ((m < 1099511627776) ∧ ((m * 32) = (m * 32))))]) (by kernel_rfl)
  (aC rfl (aC rfl (aC rfl (aC ⟨⟨(by first|assumption|exact hX.2|exact hY.2|omega), ⟨(by first|assumption|exact hX.2|exact hY.2|omega), trivial⟩⟩, ⟨rfl, rfl, rfl, rfl, (by first|assumption|exact hX.2|exact hY.2|omega)⟩⟩ (aC rfl (aC rfl (aC rfl (aC ⟨⟨trivial, trivial⟩, ⟨(by first|assumption|exact hX.2|exact hY.2|omega), rfl⟩⟩ (AllP_nil)))))))))

end Go.Proofs.Ytcpoldghkiiggaa.X

/- Printed by a tool of this session. -/
namespace Go.Proofs.Ytcpoldghkiiggaa.X
open Go Go.Proofs
set_option linter.unusedVariables false
set_option linter.unusedSimpArgs false
set_option maxRecDepth 100000
set_option maxHeartbeats 8000000
theorem soEEP0 (w : World) (β : Env) (n : Nat) (l : List Int) (m : Nat) (M a : List Int) (cap0 cap1 : Nat) (hn : n < 1099511627776) (hm : m < 1099511627776) (hl : l.length = n * 32) (hM : M.length = m * 32) (hBl : Byt l) (hBM : Byt M) (hBa : Byt a) (ha : a.length = 32) (hX : IaZ l n) (hY : IaZ M m) : Run Try.prog ⟨w, [], 2, β⟩ (fstC soB) (soS0 n l m M a cap0 cap1) (To ⟨w, [], 2, β⟩ .normal (soPPS1 n l m M a cap0 cap1)) :=
 Run.of_outT (Λ := noLam) (Ψ := noPsi) (fuel := 0) (ora := []) (l := [.forget [0, 1, 2, 5] 3]) mix tabOkSJPP gam848_ok
  (vc := []) (by kernel_rfl)
  (AllP_nil)

theorem soEEP1 (w : World) (β : Env) (n : Nat) (l : List Int) (m : Nat) (M a : List Int) (cap0 cap1 : Nat) (hn : n < 1099511627776) (hm : m < 1099511627776) (hl : l.length = n * 32) (hM : M.length = m * 32) (hBl : Byt l) (hBM : Byt M) (hBa : Byt a) (ha : a.length = 32) (hX : IaZ l n) (hY : IaZ M m) : Run Try.prog ⟨w, [], 2, β⟩ (fstC (sndC soB)) (soPPS1 n l m M a cap0 cap1) (To ⟨w, [], 2, β⟩ .normal (soPPS2 n l m M a cap0 cap1)) :=
 Run.of_outT (Λ := noLam) (Ψ := noPsi) (fuel := 0) (ora := []) (l := [.forget [0, 1, 2, 5, 7] 4]) mix tabOkSJPP gam848_ok
  (vc := []) (by kernel_rfl)
  (AllP_nil)

theorem soEEP2 (w : World) (β : Env) (n : Nat) (l : List Int) (m : Nat) (M a : List Int) (cap0 cap1 : Nat) (hn : n < 1099511627776) (hm : m < 1099511627776) (hl : l.length = n * 32) (hM : M.length = m * 32) (hBl : Byt l) (hBM : Byt M) (hBa : Byt a) (ha : a.length = 32) (hX : IaZ l n) (hY : IaZ M m) : Run Try.prog ⟨w, [], 2, β⟩ (fstC (sndC (sndC soB))) (soPPS2 n l m M a cap0 cap1) (To ⟨w, [], 2, β⟩ .normal (soPPS3 n l m M a cap0 cap1)) :=
 Run.of_outT (Λ := noLam) (Ψ := noPsi) (fuel := 0) (ora := []) (l := [.eqB 4 (⟨true, [.ints .u8 (n * 32) l]⟩), .forget [0, 1, 2, 5, 7, 8] 5]) mix tabOkSJPP gam848_ok
  (vc := [((some ⟨true, [.ints .u8 (copyS n) (copyS_1 n (sub l 0 (n * 32)))]⟩ : Option Blk) = some ⟨true, [.ints .u8 (n * 32) l]⟩), ((((0 + (n * 32)) ≤ (n * 32)) ∧ True) ∧ (((n * 32) = (n * 32)) ∧ (n ≤ 4398046511104)))]) (by kernel_rfl)
  (aC ((by rw [so_copy hl]; rfl)) (aC ⟨⟨(by first|assumption|exact hX.2|exact hY.2|omega), trivial⟩, ⟨rfl, (by first|assumption|exact hX.2|exact hY.2|omega)⟩⟩ (AllP_nil)))

theorem soEEP3 (w : World) (β : Env) (n : Nat) (l : List Int) (m : Nat) (M a : List Int) (cap0 cap1 : Nat) (hn : n < 1099511627776) (hm : m < 1099511627776) (hl : l.length = n * 32) (hM : M.length = m * 32) (hBl : Byt l) (hBM : Byt M) (hBa : Byt a) (ha : a.length = 32) (hX : IaZ l n) (hY : IaZ M m) : Run Try.prog ⟨w, [], 2, β⟩ (fstC (sndC (sndC (sndC soB)))) (soPPS3 n l m M a cap0 cap1) (To ⟨w, [], 2, β⟩ .normal (soEPS4 n l m M a cap0 cap1)) :=
 Run.of_outT (Λ := noLam) (Ψ := noPsi) (fuel := 0) (ora := []) (l := [.forget [0, 1, 2, 5, 7, 8, 9, 10] 6]) mix tabOkSJPP gam848_ok
  (vc := [((((0 + (n * 32)) ≤ (n * 32)) ∧ True) ∧ (((n * 32) = (n * 32)) ∧ (n ≤ 4398046510976) ∧ (Byt (sub l 0 (n * 32))) ∧ (IaZ (sub l 0 (n * 32)) n)))]) (by kernel_rfl)
  (aC ⟨⟨(by first|assumption|exact hX.2|exact hY.2|omega), trivial⟩, ⟨rfl, (by first|assumption|exact hX.2|exact hY.2|omega), (byt_sub (by assumption) _ _), (by rw [sub_all l _ (Nat.le_of_eq hl)]; exact hX)⟩⟩ (AllP_nil))

noncomputable def soEES5 (n : Nat) (l : List Int) (m : Nat) (M a : List Int) (cap0 cap1 : Nat) : St := ⟨sparse 133 [(0, .o (.a (.sl 0 0 n cap0))), (1, .o (.a (.sl 1 0 m cap1))), (2, .o (.g [.ints .u8 32 a])), (5, .o (.a (.p 2 0))), (7, .o (.a (.p 3 0))), (8, .o (.a (.rs 4 0 n 32))), (9, .o (.a (.rs 5 0 0 1))), (10, .o (.a (.i .i64 (iaE n)))), (12, .o (.a (.rs 6 0 0 1)))], [bF [.ints .u8 (n * 32) l], bF [.ints .u8 (m * 32) M], bT [.ints .u8 32 a], some kb5, bT [.ints .u8 (n * 32) l], bT [.ints .u8 0 ([] : List Int)], bT [.ints .u8 0 ([] : List Int)]]⟩

theorem soEEP4 (w : World) (β : Env) (n : Nat) (l : List Int) (m : Nat) (M a : List Int) (cap0 cap1 : Nat) (hn : n < 1099511627776) (hm : m < 1099511627776) (hl : l.length = n * 32) (hM : M.length = m * 32) (hBl : Byt l) (hBM : Byt M) (hBa : Byt a) (ha : a.length = 32) (hX : IaZ l n) (hY : IaZ M m) : Run Try.prog ⟨w, [], 2, β⟩ (fstC (sndC (sndC (sndC (sndC soB))))) (soEPS4 n l m M a cap0 cap1) (To ⟨w, [], 2, β⟩ .normal (soEES5 n l m M a cap0 cap1)) :=
 Run.of_outT (Λ := noLam) (Ψ := noPsi) (fuel := 0) (ora := []) (l := [.forget [0, 1, 2, 5, 7, 8, 9, 10, 12] 7]) mix tabOkSJPP gam848_ok
  (vc := [((((0 + (m * 32)) ≤ (m * 32)) ∧ True) ∧ (((m * 32) = (m * 32)) ∧ (m ≤ 4398046510976) ∧ (Byt (sub M 0 (m * 32))) ∧ (IaZ (sub M 0 (m * 32)) m)))]) (by kernel_rfl)
  (aC ⟨⟨(by first|assumption|exact hX.2|exact hY.2|omega), trivial⟩, ⟨rfl, (by first|assumption|exact hX.2|exact hY.2|omega), (byt_sub (by assumption) _ _), (by rw [sub_all M _ (Nat.le_of_eq hM)]; exact hY)⟩⟩ (AllP_nil))

noncomputable def soEES6 (n : Nat) (l : List Int) (m : Nat) (M a : List Int) (cap0 cap1 : Nat) : St := ⟨sparse 133 [(0, .o (.a (.sl 0 0 n cap0))), (1, .o (.a (.sl 1 0 m cap1))), (2, .o (.g [.ints .u8 32 a])), (5, .o (.a (.p 2 0))), (7, .o (.a (.p 3 0))), (8, .o (.a (.rs 4 0 n 32))), (9, .o (.a (.rs 5 0 0 1))), (10, .o (.a (.i .i64 (iaE n)))), (12, .o (.a (.rs 6 0 0 1))), (15, .o (.a (.rs 7 0 0 1))), (16, .o (.a (.i .i64 (iaE n))))], [bF [.ints .u8 (n * 32) l], bF [.ints .u8 (m * 32) M], bT [.ints .u8 32 a], some kb5, bT [.ints .u8 (n * 32) l], bT [.ints .u8 0 ([] : List Int)], bT [.ints .u8 0 ([] : List Int)], bT [.ints .u8 0 ([] : List Int)]]⟩

theorem soEEP5 (w : World) (β : Env) (n : Nat) (l : List Int) (m : Nat) (M a : List Int) (cap0 cap1 : Nat) (hn : n < 1099511627776) (hm : m < 1099511627776) (hl : l.length = n * 32) (hM : M.length = m * 32) (hBl : Byt l) (hBM : Byt M) (hBa : Byt a) (ha : a.length = 32) (hX : IaZ l n) (hY : IaZ M m) : Run Try.prog ⟨w, [], 2, β⟩ (fstC (sndC (sndC (sndC (sndC (sndC soB)))))) (soEES5 n l m M a cap0 cap1) (To ⟨w, [], 2, β⟩ .normal (soEES6 n l m M a cap0 cap1)) :=
 Run.of_outT (Λ := noLam) (Ψ := noPsi) (fuel := 0) (ora := []) (l := [.forget [0, 1, 2, 5, 7, 8, 9, 10, 12, 15, 16] 8]) mix tabOkSJPP gam848_ok
  (vc := [((((0 + (n * 32)) ≤ (n * 32)) ∧ True) ∧ (((n * 32) = (n * 32)) ∧ (n ≤ 4398046510976) ∧ (Byt (sub l 0 (n * 32))) ∧ (IaZ (sub l 0 (n * 32)) n)))]) (by kernel_rfl)
  (aC ⟨⟨(by first|assumption|exact hX.2|exact hY.2|omega), trivial⟩, ⟨rfl, (by first|assumption|exact hX.2|exact hY.2|omega), (byt_sub (by assumption) _ _), (by rw [sub_all l _ (Nat.le_of_eq hl)]; exact hX)⟩⟩ (AllP_nil))

theorem soEEP6 (w : World) (β : Env) (n : Nat) (l : List Int) (m : Nat) (M a : List Int) (cap0 cap1 : Nat) (hn : n < 1099511627776) (hm : m < 1099511627776) (hl : l.length = n * 32) (hM : M.length = m * 32) (hBl : Byt l) (hBM : Byt M) (hBa : Byt a) (ha : a.length = 32) (hX : IaZ l n) (hY : IaZ M m) : Run Try.prog ⟨w, [], 2, β⟩ (fstC (sndC (sndC (sndC (sndC (sndC (sndC soB))))))) (soEES6 n l m M a cap0 cap1) (To ⟨w, [], 2, β⟩ .normal (soEES6 n l m M a cap0 cap1)) :=
 Run.of_outT (Λ := noLam) (Ψ := noPsi) (fuel := 0) (ora := [true, true, true, true, false, false]) (l := [.forget [0, 1, 2, 5, 7, 8, 9, 10, 12, 15, 16] 8]) mix tabOkSJPP gam848_ok
  (vc := (let p0_ : Prop := (((iaE n) != (iaE n)) = false); [(false = false), p0_, p0_, (((0 ≤ 0) ∧ ((0 ≤ 0) ∧ True)) ∧ ((0 = (0 * 32)) ∧ (0 = (0 * 32)) ∧ (0 = 0) ∧ (([] : List Int) = ([] : List Int)) ∧ (0 ≤ 4398046511104))), p0_, p0_, p0_])) (by kernel_rfl)
  (aC rfl (aC (not_bne_same _) (aC (not_bne_same _) (aC ⟨⟨(dd rfl), ⟨(dd rfl), trivial⟩⟩, ⟨(by first|assumption|exact hX.2|exact hY.2|omega), (by first|assumption|exact hX.2|exact hY.2|omega), rfl, rfl, (dd rfl)⟩⟩ (aC (not_bne_same _) (aC (not_bne_same _) (aC (not_bne_same _) (AllP_nil))))))))

theorem soEEP7 (w : World) (β : Env) (n : Nat) (l : List Int) (m : Nat) (M a : List Int) (cap0 cap1 : Nat) (hn : n < 1099511627776) (hm : m < 1099511627776) (hl : l.length = n * 32) (hM : M.length = m * 32) (hBl : Byt l) (hBM : Byt M) (hBa : Byt a) (ha : a.length = 32) (hX : IaZ l n) (hY : IaZ M m) : Run Try.prog ⟨w, [], 2, β⟩ (fstC (sndC (sndC (sndC (sndC (sndC (sndC (sndC soB)))))))) (soEES6 n l m M a cap0 cap1) (To ⟨w, [], 2, β⟩ .normal (soEES6 n l m M a cap0 cap1)) :=
 Run.of_outT (Λ := noLam) (Ψ := noPsi) (fuel := 0) (ora := []) (l := [.forget [0, 1, 2, 5, 7, 8, 9, 10, 12, 15, 16] 8]) mix tabOkSJPP gam848_ok
  (vc := [((True ∧ (True ∧ True)) ∧ True)]) (by kernel_rfl)
  (aC ⟨⟨trivial, ⟨trivial, trivial⟩⟩, trivial⟩ (AllP_nil))

theorem soEEP8 (w : World) (β : Env) (n : Nat) (l : List Int) (m : Nat) (M a : List Int) (cap0 cap1 : Nat) (hn : n < 1099511627776) (hm : m < 1099511627776) (hl : l.length = n * 32) (hM : M.length = m * 32) (hBl : Byt l) (hBM : Byt M) (hBa : Byt a) (ha : a.length = 32) (hX : IaZ l n) (hY : IaZ M m) : Run Try.prog ⟨w, [], 2, β⟩ (fstC (sndC (sndC (sndC (sndC (sndC (sndC (sndC (sndC soB))))))))) (soEES6 n l m M a cap0 cap1) (To ⟨w, [], 2, β⟩ .normal (soEES6 n l m M a cap0 cap1)) :=
 Run.of_outT (Λ := noLam) (Ψ := noPsi) (fuel := 0) (ora := []) (l := [.forget [0, 1, 2, 5, 7, 8, 9, 10, 12, 15, 16] 8]) mix tabOkSJPP gam848_ok
  (vc := [((True ∧ (True ∧ True)) ∧ True)]) (by kernel_rfl)
  (aC ⟨⟨trivial, ⟨trivial, trivial⟩⟩, trivial⟩ (AllP_nil))

theorem soEEP9 (w : World) (β : Env) (n : Nat) (l : List Int) (m : Nat) (M a : List Int) (cap0 cap1 : Nat) (hn : n < 1099511627776) (hm : m < 1099511627776) (hl : l.length = n * 32) (hM : M.length = m * 32) (hBl : Byt l) (hBM : Byt M) (hBa : Byt a) (ha : a.length = 32) (hX : IaZ l n) (hY : IaZ M m) : Run Try.prog ⟨w, [], 2, β⟩ (fstC (sndC (sndC (sndC (sndC (sndC (sndC (sndC (sndC (sndC soB)))))))))) (soEES6 n l m M a cap0 cap1) (To ⟨w, [], 2, β⟩ .normal (soEES6 n l m M a cap0 cap1)) :=
 Run.of_outT (Λ := noLam) (Ψ := noPsi) (fuel := 0) (ora := []) (l := [.forget [0, 1, 2, 5, 7, 8, 9, 10, 12, 15, 16] 8]) mix tabOkSJPP gam848_ok
  (vc := [((True ∧ (True ∧ True)) ∧ True)]) (by kernel_rfl)
  (aC ⟨⟨trivial, ⟨trivial, trivial⟩⟩, trivial⟩ (AllP_nil))

noncomputable def soEES11 (n : Nat) (l : List Int) (m : Nat) (M a : List Int) (cap0 cap1 : Nat) : St := ⟨sparse 133 [(0, .o (.a (.sl 0 0 n cap0))), (1, .o (.a (.sl 1 0 m cap1))), (2, .o (.g [.ints .u8 32 a])), (5, .o (.a (.p 2 0))), (7, .o (.a (.p 3 0))), (8, .o (.a (.rs 4 0 n 32))), (9, .o (.a (.rs 5 0 0 1))), (10, .o (.a (.i .i64 (iaE n)))), (12, .o (.a (.rs 6 0 0 1))), (15, .o (.a (.rs 7 0 0 1))), (16, .o (.a (.i .i64 (iaE n))))], [bF [.ints .u8 (n * 32) l], bF [.ints .u8 (m * 32) M], bT [.ints .u8 32 a], bT [nlA, .rs 23 0 4 1, nlA, nlA, nlA, nlA, nlA, nlA, nlA, nlA, nlA, nlA, nlA, nlA, nlA, nlA, nlA, nlA, nlA, nlA, nlA], bT [.ints .u8 (n * 32) l], bT [.ints .u8 0 ([] : List Int)], bT [.ints .u8 0 ([] : List Int)], bT [.ints .u8 0 ([] : List Int)], bT [.ints .u8 32 a], bT [.ints .u64 4 (nafP a (4 : Int))], bT [.ints .i64 256 (nafP_1 a (4 : Int))], bT [.ints .u8 32 a], bT [.ints .u8 32 (digP a)], bT [.ints .i64 64 (digP_1 a)], none, none, bT [.ints .u8 32 a], bT [.ints .u64 4 (nafP a (4 : Int))], bT [.ints .i64 256 (nafP_1 a (4 : Int))], bT [.ints .u8 32 a], bT [.ints .u8 32 (digP a)], bT [.ints .i64 64 (digP_1 a)], none, bT [.rs 13 0 64 1, .rs 10 0 256 1, .rs 21 0 64 1, .rs 18 0 256 1]]⟩

theorem soEEP10 (w : World) (β : Env) (n : Nat) (l : List Int) (m : Nat) (M a : List Int) (cap0 cap1 : Nat) (hn : n < 1099511627776) (hm : m < 1099511627776) (hl : l.length = n * 32) (hM : M.length = m * 32) (hBl : Byt l) (hBM : Byt M) (hBa : Byt a) (ha : a.length = 32) (hX : IaZ l n) (hY : IaZ M m) : Run Try.prog ⟨w, [], 2, β⟩ (fstC (sndC (sndC (sndC (sndC (sndC (sndC (sndC (sndC (sndC (sndC soB))))))))))) (soEES6 n l m M a cap0 cap1) (To ⟨w, [], 2, β⟩ .normal (soEES11 n l m M a cap0 cap1)) :=
 Run.of_outT (Λ := noLam) (Ψ := noPsi) (fuel := 3) (ora := [true, true, false]) (l := [.forget [0, 1, 2, 5, 7, 8, 9, 10, 12, 15, 16] 24]) mix tabOkSJPP gam848_ok
  (vc := (let p0_ : Prop := ((True ∧ (True ∧ True)) ∧ True); let p1_ : Prop := ((True ∧ True) ∧ (Byt a)); let p2_ : Prop := ((True ∧ (True ∧ True)) ∧ ((Byt a) ∧ ((2 : Int) ≤ 4) ∧ ((4 : Int) ≤ 8))); [(false = false), p0_, p0_, p1_, p2_, cT, p0_, p0_, p1_, p2_, cT])) (by kernel_rfl)
  (aC rfl (aC ⟨⟨trivial, ⟨trivial, trivial⟩⟩, trivial⟩ (aC ⟨⟨trivial, ⟨trivial, trivial⟩⟩, trivial⟩ (aC ⟨⟨trivial, trivial⟩, (by first | assumption | exact byt_B32 _)⟩ (aC ⟨⟨trivial, ⟨trivial, trivial⟩⟩, ⟨(by first | assumption | exact byt_B32 _), (dd rfl), (dd rfl)⟩⟩ (aC rfl (aC ⟨⟨trivial, ⟨trivial, trivial⟩⟩, trivial⟩ (aC ⟨⟨trivial, ⟨trivial, trivial⟩⟩, trivial⟩ (aC ⟨⟨trivial, trivial⟩, (by first | assumption | exact byt_B32 _)⟩ (aC ⟨⟨trivial, ⟨trivial, trivial⟩⟩, ⟨(by first | assumption | exact byt_B32 _), (dd rfl), (dd rfl)⟩⟩ (aC rfl (AllP_nil))))))))))))

theorem soEEP11 (w : World) (β : Env) (n : Nat) (l : List Int) (m : Nat) (M a : List Int) (cap0 cap1 : Nat) (hn : n < 1099511627776) (hm : m < 1099511627776) (hl : l.length = n * 32) (hM : M.length = m * 32) (hBl : Byt l) (hBM : Byt M) (hBa : Byt a) (ha : a.length = 32) (hX : IaZ l n) (hY : IaZ M m) : Run Try.prog ⟨w, [], 2, β⟩ (fstC (sndC (sndC (sndC (sndC (sndC (sndC (sndC (sndC (sndC (sndC (sndC soB)))))))))))) (soEES11 n l m M a cap0 cap1) (To ⟨w, [], 2, β⟩ .normal (soMidPP n l m M a cap0 cap1)) :=
 Run.of_outT (Λ := noLam) (Ψ := noPsi) (fuel := 0) (ora := [true, true, true, true, false, false]) (l := [.swap 2 4, .forget [8] 3]) mix tabOkSJPP gam848_ok
  (vc := [(false = false), (false = false), (false = false), ((((0 + (n * 32)) ≤ (n * 32)) ∧ (((0 + (n * 32)) ≤ (n * 32)) ∧ True)) ∧ (((n * 32) = (n * 32)) ∧ ((n * 32) = (n * 32)) ∧ (n = n) ∧ ((sub l 0 (n * 32)) = (sub l 0 (n * 32))) ∧ (n ≤ 4398046511104))), (false = false), (false = false), (false = false), ((True ∧ True) ∧ True)]) (by kernel_rfl)
  (aC rfl (aC rfl (aC rfl (aC ⟨⟨(by first|assumption|exact hX.2|exact hY.2|omega), ⟨(by first|assumption|exact hX.2|exact hY.2|omega), trivial⟩⟩, ⟨rfl, rfl, rfl, rfl, (by first|assumption|exact hX.2|exact hY.2|omega)⟩⟩ (aC rfl (aC rfl (aC rfl (aC ⟨⟨trivial, trivial⟩, trivial⟩ (AllP_nil)))))))))

end Go.Proofs.Ytcpoldghkiiggaa.X

/- Own of the scalars: all arms together. -/
namespace Go.Proofs.Ytcpoldghkiiggaa.X
open Go Go.Proofs
set_option linter.unusedVariables false
set_option maxRecDepth 100000
set_option maxHeartbeats 8000000

theorem so_body (w : World) (n : Nat) (l : List Int) (m : Nat) (M a : List Int) (cap0 cap1 : Nat) (hn : n < 1099511627776) (hm : m < 1099511627776) (hBl : Byt l) (hBM : Byt M) (hBa : Byt a) (β : Env) :
  Body Try.prog (tabOf tabSL) Try.f13 ⟨w, [], 2, β⟩ [.o (.a (.sl 0 0 n cap0)), .o (.a (.sl 1 0 m cap1)), .o (.g [.ints .u8 32 a])] [some ⟨false, [.ints .u8 (n * 32) l]⟩, some ⟨false, [.ints .u8 (m * 32) M]⟩] fun ys _ => ys = [.a (.b true)] := by
 refine Body.lens (c := soB) rfl fun h => ?_
 have hl := h.lens 0 _ .u8 (n * 32) l rfl (by simp)
 have hM := h.lens 1 _ .u8 (m * 32) M rfl (by simp)
 have ha := h.vals 2 _ _ _ rfl
 have tail : Run Try.prog ⟨w, [], 2, β⟩ (.seq (fstC (sndC (sndC (sndC (sndC (sndC (sndC (sndC (sndC (sndC (sndC (sndC (sndC soB))))))))))))) (.seq (fstC (sndC (sndC (sndC (sndC (sndC (sndC (sndC (sndC (sndC (sndC (sndC (sndC (sndC soB)))))))))))))) (.seq (fstC (sndC (sndC (sndC (sndC (sndC (sndC (sndC (sndC (sndC (sndC (sndC (sndC (sndC (sndC soB))))))))))))))) (sndC (sndC (sndC (sndC (sndC (sndC (sndC (sndC (sndC (sndC (sndC (sndC (sndC (sndC (sndC soB)))))))))))))))))) (soMidPP n l m M a cap0 cap1) (finP (tabOf tabSL) Try.f13 fun ys _ => ys = [.a (.b true)]) := by
  refine Run.seqTo (soQ1 w β n l m M a cap0 cap1 hn hm hl hM hBl hBM hBa ha) ?_
  rcases ia_or (nsRows n) n with hZ | hZ
  ·exact Run.seqTo (soUP w β n l m M a cap0 cap1 hn hm hl hM hBl hBM hBa ha hZ) (Run.seqTo (soYP w β n l m M a cap0 cap1 hn hm hl hM hBl hBM hBa ha hZ) (soEP w β n l m M a cap0 cap1))
  ·by_cases hn0 : n = 0
   ·exact Run.seqTo (soUO w β n l m M a cap0 cap1 hn hm hl hM hBl hBM hBa ha hZ hn0) (Run.seqTo (soYO w β n l m M a cap0 cap1 hn hm hl hM hBl hBM hBa ha hZ hn0) (soEO w β n l m M a cap0 cap1))
   ·exact Run.seqTo (soUE w β n l m M a cap0 cap1 hn hm hl hM hBl hBM hBa ha hZ (by omega)) (Run.seqTo (soYE w β n l m M a cap0 cap1 hn hm hl hM hBl hBM hBa ha hZ (by omega)) (soEE w β n l m M a cap0 cap1))
 refine Body.of_run (c := soB) rfl ?_
 rw [show soB = (.seq (fstC soB) (.seq (fstC (sndC soB)) (.seq (fstC (sndC (sndC soB))) (.seq (fstC (sndC (sndC (sndC soB)))) (.seq (fstC (sndC (sndC (sndC (sndC soB))))) (.seq (fstC (sndC (sndC (sndC (sndC (sndC soB)))))) (.seq (fstC (sndC (sndC (sndC (sndC (sndC (sndC soB))))))) (.seq (fstC (sndC (sndC (sndC (sndC (sndC (sndC (sndC soB)))))))) (.seq (fstC (sndC (sndC (sndC (sndC (sndC (sndC (sndC (sndC soB))))))))) (.seq (fstC (sndC (sndC (sndC (sndC (sndC (sndC (sndC (sndC (sndC soB)))))))))) (.seq (fstC (sndC (sndC (sndC (sndC (sndC (sndC (sndC (sndC (sndC (sndC soB))))))))))) (.seq (fstC (sndC (sndC (sndC (sndC (sndC (sndC (sndC (sndC (sndC (sndC (sndC soB)))))))))))) (.seq (fstC (sndC (sndC (sndC (sndC (sndC (sndC (sndC (sndC (sndC (sndC (sndC (sndC soB))))))))))))) (.seq (fstC (sndC (sndC (sndC (sndC (sndC (sndC (sndC (sndC (sndC (sndC (sndC (sndC (sndC soB)))))))))))))) (.seq (fstC (sndC (sndC (sndC (sndC (sndC (sndC (sndC (sndC (sndC (sndC (sndC (sndC (sndC (sndC soB))))))))))))))) (sndC (sndC (sndC (sndC (sndC (sndC (sndC (sndC (sndC (sndC (sndC (sndC (sndC (sndC (sndC soB)))))))))))))))))))))))))))))) from by kernel_rfl]
 rcases ia_or l n with hX | hX
 ·rcases ia_or M m with hY | hY
  ·refine Run.seqTo (soPPP0 w β n l m M a cap0 cap1 hn hm hl hM hBl hBM hBa ha hX hY) ?_
   refine Run.seqTo (soPPP1 w β n l m M a cap0 cap1 hn hm hl hM hBl hBM hBa ha hX hY) ?_
   refine Run.seqTo (soPPP2 w β n l m M a cap0 cap1 hn hm hl hM hBl hBM hBa ha hX hY) ?_
   refine Run.seqTo (soPPP3 w β n l m M a cap0 cap1 hn hm hl hM hBl hBM hBa ha hX hY) ?_
   refine Run.seqTo (soPPP4 w β n l m M a cap0 cap1 hn hm hl hM hBl hBM hBa ha hX hY) ?_
   refine Run.seqTo (soPPP5 w β n l m M a cap0 cap1 hn hm hl hM hBl hBM hBa ha hX hY) ?_
   refine Run.seqTo (soPPP6 w β n l m M a cap0 cap1 hn hm hl hM hBl hBM hBa ha hX hY) ?_
   refine Run.seqTo (soPPP7 w β n l m M a cap0 cap1 hn hm hl hM hBl hBM hBa ha hX hY) ?_
   refine Run.seqTo (soPPP8 w β n l m M a cap0 cap1 hn hm hl hM hBl hBM hBa ha hX hY) ?_
   refine Run.seqTo (soPPP9 w β n l m M a cap0 cap1 hn hm hl hM hBl hBM hBa ha hX hY) ?_
   refine Run.seqTo (soPPP10 w β n l m M a cap0 cap1 hn hm hl hM hBl hBM hBa ha hX hY) ?_
   refine Run.seqTo ((soPPP11 w β n l m M a cap0 cap1 hn hm hl hM hBl hBM hBa ha hX hY).to_weak (s2 := soMidPP n l m M a cap0 cap1) fun b1 a1 w1 h1 => ⟨b1, h1.cast (by rfl)⟩) tail
  ·refine Run.seqTo (soPEP0 w β n l m M a cap0 cap1 hn hm hl hM hBl hBM hBa ha hX hY) ?_
   refine Run.seqTo (soPEP1 w β n l m M a cap0 cap1 hn hm hl hM hBl hBM hBa ha hX hY) ?_
   refine Run.seqTo (soPEP2 w β n l m M a cap0 cap1 hn hm hl hM hBl hBM hBa ha hX hY) ?_
   refine Run.seqTo (soPEP3 w β n l m M a cap0 cap1 hn hm hl hM hBl hBM hBa ha hX hY) ?_
   refine Run.seqTo (soPEP4 w β n l m M a cap0 cap1 hn hm hl hM hBl hBM hBa ha hX hY) ?_
   refine Run.seqTo (soPEP5 w β n l m M a cap0 cap1 hn hm hl hM hBl hBM hBa ha hX hY) ?_
   refine Run.seqTo (soPEP6 w β n l m M a cap0 cap1 hn hm hl hM hBl hBM hBa ha hX hY) ?_
   refine Run.seqTo (soPEP7 w β n l m M a cap0 cap1 hn hm hl hM hBl hBM hBa ha hX hY) ?_
   refine Run.seqTo (soPEP8 w β n l m M a cap0 cap1 hn hm hl hM hBl hBM hBa ha hX hY) ?_
   refine Run.seqTo (soPEP9 w β n l m M a cap0 cap1 hn hm hl hM hBl hBM hBa ha hX hY) ?_
   refine Run.seqTo (soPEP10 w β n l m M a cap0 cap1 hn hm hl hM hBl hBM hBa ha hX hY) ?_
   refine Run.seqTo ((soPEP11 w β n l m M a cap0 cap1 hn hm hl hM hBl hBM hBa ha hX hY).to_weak (s2 := soMidPP n l m M a cap0 cap1) fun b1 a1 w1 h1 => ⟨b1, h1.cast (by rfl)⟩) tail
 ·rcases ia_or M m with hY | hY
  ·refine Run.seqTo (soEPP0 w β n l m M a cap0 cap1 hn hm hl hM hBl hBM hBa ha hX hY) ?_
   refine Run.seqTo (soEPP1 w β n l m M a cap0 cap1 hn hm hl hM hBl hBM hBa ha hX hY) ?_
   refine Run.seqTo (soEPP2 w β n l m M a cap0 cap1 hn hm hl hM hBl hBM hBa ha hX hY) ?_
   refine Run.seqTo (soEPP3 w β n l m M a cap0 cap1 hn hm hl hM hBl hBM hBa ha hX hY) ?_
   refine Run.seqTo (soEPP4 w β n l m M a cap0 cap1 hn hm hl hM hBl hBM hBa ha hX hY) ?_
   refine Run.seqTo (soEPP5 w β n l m M a cap0 cap1 hn hm hl hM hBl hBM hBa ha hX hY) ?_
   refine Run.seqTo (soEPP6 w β n l m M a cap0 cap1 hn hm hl hM hBl hBM hBa ha hX hY) ?_
   refine Run.seqTo (soEPP7 w β n l m M a cap0 cap1 hn hm hl hM hBl hBM hBa ha hX hY) ?_
   refine Run.seqTo (soEPP8 w β n l m M a cap0 cap1 hn hm hl hM hBl hBM hBa ha hX hY) ?_
   refine Run.seqTo (soEPP9 w β n l m M a cap0 cap1 hn hm hl hM hBl hBM hBa ha hX hY) ?_
   refine Run.seqTo (soEPP10 w β n l m M a cap0 cap1 hn hm hl hM hBl hBM hBa ha hX hY) ?_
   refine Run.seqTo ((soEPP11 w β n l m M a cap0 cap1 hn hm hl hM hBl hBM hBa ha hX hY).to_weak (s2 := soMidPP n l m M a cap0 cap1) fun b1 a1 w1 h1 => ⟨b1, h1.cast (by rfl)⟩) tail
  ·refine Run.seqTo (soEEP0 w β n l m M a cap0 cap1 hn hm hl hM hBl hBM hBa ha hX hY) ?_
   refine Run.seqTo (soEEP1 w β n l m M a cap0 cap1 hn hm hl hM hBl hBM hBa ha hX hY) ?_
   refine Run.seqTo (soEEP2 w β n l m M a cap0 cap1 hn hm hl hM hBl hBM hBa ha hX hY) ?_
   refine Run.seqTo (soEEP3 w β n l m M a cap0 cap1 hn hm hl hM hBl hBM hBa ha hX hY) ?_
   refine Run.seqTo (soEEP4 w β n l m M a cap0 cap1 hn hm hl hM hBl hBM hBa ha hX hY) ?_
   refine Run.seqTo (soEEP5 w β n l m M a cap0 cap1 hn hm hl hM hBl hBM hBa ha hX hY) ?_
   refine Run.seqTo (soEEP6 w β n l m M a cap0 cap1 hn hm hl hM hBl hBM hBa ha hX hY) ?_
   refine Run.seqTo (soEEP7 w β n l m M a cap0 cap1 hn hm hl hM hBl hBM hBa ha hX hY) ?_
   refine Run.seqTo (soEEP8 w β n l m M a cap0 cap1 hn hm hl hM hBl hBM hBa ha hX hY) ?_
   refine Run.seqTo (soEEP9 w β n l m M a cap0 cap1 hn hm hl hM hBl hBM hBa ha hX hY) ?_
   refine Run.seqTo (soEEP10 w β n l m M a cap0 cap1 hn hm hl hM hBl hBM hBa ha hX hY) ?_
   refine Run.seqTo ((soEEP11 w β n l m M a cap0 cap1 hn hm hl hM hBl hBM hBa ha hX hY).to_weak (s2 := soMidPP n l m M a cap0 cap1) fun b1 a1 w1 h1 => ⟨b1, h1.cast (by rfl)⟩) tail
end Go.Proofs.Ytcpoldghkiiggaa.X

/-
 FOR A PROOF OF AN '..UptoSaid': WHAT THE BOUND GIVES. Copy it as <Name>Bulk.lean (put your seat's Name for Ytcpoldghkiiggaa, the bound of 'uptoSmall' for 1048576), name it in GOCLAIM.json's 'order' behind <Name>Rows. By an AI agent, Sun Nov 15 2026. No person has read it. No macro, syntax, notation, axiom, sorry.
-/
namespace Go.Proofs.Ytcpoldghkiiggaa.bulks

theorem one_le {H : Type} (d : DataW H) : 1 ≤ Rows.uptoBulk d := by
 cases d with
 | lit l => cases l <;> simp [Rows.uptoBulk]
 | nil => simp [Rows.uptoBulk]
 | ptr d => simp [Rows.uptoBulk]
 | slice elems spare => simp [Rows.uptoBulk]
 | agg parts => simp [Rows.uptoBulk]
 | iface t d => simp [Rows.uptoBulk]
 | map entries => simp [Rows.uptoBulk]
 | held h => simp [Rows.uptoBulk]

theorem part_le {H : Type} {d : DataW H} {l : List (DataW H)} (h : d ∈ l) : Rows.uptoBulk d ≤ Rows.uptoBulkAll l := by
 induction l with
 | nil => cases h
 | cons x r ih =>
  simp only [Rows.uptoBulkAll]
  cases List.mem_cons.1 h with
  | inl e => subst e; omega
  | inr e => have := ih e; omega

theorem append {H : Type} (l r : List (DataW H)) : Rows.uptoBulkAll (l ++ r) = Rows.uptoBulkAll l + Rows.uptoBulkAll r := by
 induction l with
 | nil => simp [Rows.uptoBulkAll]
 | cons x l ih => simp only [List.cons_append, Rows.uptoBulkAll, ih]; omega

theorem length_le {H : Type} (l : List (DataW H)) : l.length ≤ Rows.uptoBulkAll l := by
 induction l with
 | nil => simp [Rows.uptoBulkAll]
 | cons x r ih => have := one_le x; simp only [Rows.uptoBulkAll, List.length_cons]; omega

theorem slice_le {H : Type} (elems spare : List (DataW H)) : elems.length + spare.length + 1 ≤ Rows.uptoBulk (.slice elems spare) := by
 have h1 := length_le elems
 have h2 := length_le spare
 simp only [Rows.uptoBulk]
 omega
theorem bound {H : Type} {l : List (DataW H)} (hk : Rows.uptoSmall H l = true) : Rows.uptoBulkAll l ≤ 1048576 := by
 simpa [Rows.uptoSmall] using hk

end Go.Proofs.Ytcpoldghkiiggaa.bulks

