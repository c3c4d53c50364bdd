/- Bytes of a number and numbers of bytes; sums. -/
import Derived.Test.YtcpoldghkiiggaaNM
namespace Go.Proofs.Ytcpoldghkiiggaa.X
open Go Go.Proofs
set_option linter.unusedVariables false

theorem wrap8 (x : Int) : IntKind.u8.wrap x = x % 256 := by
  show (let m := x % (256 : Int); if (false && decide (m ≥ (128 : Int))) = true then m - 256 else m) = x % 256
  simp only [Bool.false_and, Bool.false_eq_true, if_false]
theorem shr_0 (x : Int) : shr .u64 x 0 = x / 1 := by
  have e : shr .u64 x 0 = x.fdiv 1 := rfl
  rw [e, Int.fdiv_eq_ediv_of_nonneg _ (by omega)]
theorem shr_8 (x : Int) : shr .u64 x 8 = x / 256 := by
  have e : shr .u64 x 8 = x.fdiv 256 := rfl
  rw [e, Int.fdiv_eq_ediv_of_nonneg _ (by omega)]
theorem shr_16 (x : Int) : shr .u64 x 16 = x / 65536 := by
  have e : shr .u64 x 16 = x.fdiv 65536 := rfl
  rw [e, Int.fdiv_eq_ediv_of_nonneg _ (by omega)]
theorem shr_24 (x : Int) : shr .u64 x 24 = x / 16777216 := by
  have e : shr .u64 x 24 = x.fdiv 16777216 := rfl
  rw [e, Int.fdiv_eq_ediv_of_nonneg _ (by omega)]
theorem shr_32 (x : Int) : shr .u64 x 32 = x / 4294967296 := by
  have e : shr .u64 x 32 = x.fdiv 4294967296 := rfl
  rw [e, Int.fdiv_eq_ediv_of_nonneg _ (by omega)]
theorem shr_40 (x : Int) : shr .u64 x 40 = x / 1099511627776 := by
  have e : shr .u64 x 40 = x.fdiv 1099511627776 := rfl
  rw [e, Int.fdiv_eq_ediv_of_nonneg _ (by omega)]
theorem shr_48 (x : Int) : shr .u64 x 48 = x / 281474976710656 := by
  have e : shr .u64 x 48 = x.fdiv 281474976710656 := rfl
  rw [e, Int.fdiv_eq_ediv_of_nonneg _ (by omega)]
theorem shr_56 (x : Int) : shr .u64 x 56 = x / 72057594037927936 := by
  have e : shr .u64 x 56 = x.fdiv 72057594037927936 := rfl
  rw [e, Int.fdiv_eq_ediv_of_nonneg _ (by omega)]

theorem or_shl {a b : Int} {n : Nat} (hn : n ≤ 56) (h0 : 0 ≤ a) (h1 : a < ((2 ^ n : Nat) : Int)) (b0 : 0 ≤ b) (b1 : b < 256) : bits2 .or .u64 a (shl .u64 (IntKind.u64.wrap b) ((n : Nat) : Int)) = a + b * ((2 ^ n : Nat) : Int) := by
  obtain ⟨x, rfl⟩ := Int.eq_ofNat_of_zero_le h0
  obtain ⟨y, rfl⟩ := Int.eq_ofNat_of_zero_le b0
  have hx : x < 2 ^ n := by omega
  have hy : y < 256 := by omega
  have hp : 2 ^ n ≤ 2 ^ 56 := Nat.pow_le_pow_right (by omega) hn
  have hp0 : 0 < 2 ^ n := Nat.pow_pos (by omega)
  have hyp : y * 2 ^ n ≤ 255 * 2 ^ 56 := Nat.mul_le_mul (by omega) hp
  have e1 : shl .u64 (IntKind.u64.wrap ((y : Nat) : Int)) ((n : Nat) : Int) = ((y * 2 ^ n : Nat) : Int) := by
    have : shl .u64 (IntKind.u64.wrap ((y : Nat) : Int)) ((n : Nat) : Int) = IntKind.u64.wrap (IntKind.u64.wrap ((y : Nat) : Int) * 2 ^ (min n 64)) := rfl
    rw [this, Nat.min_eq_left (by omega), wrap64 ((y : Nat) : Int), Int.emod_eq_of_lt (by omega) (by omega), wrap64]
    have e : ((y : Nat) : Int) * 2 ^ n = ((y * 2 ^ n : Nat) : Int) := by rw [Int.natCast_mul, Int.natCast_pow]; rfl
    rw [e]
    exact Int.emod_eq_of_lt (by omega) (by omega)
  rw [e1]
  have e : bits2 .or .u64 ((x : Nat) : Int) ((y * 2 ^ n : Nat) : Int) = IntKind.u64.wrap (((BitVec.ofInt 64 ((x : Nat) : Int) ||| BitVec.ofInt 64 ((y * 2 ^ n : Nat) : Int)).toNat : Nat) : Int) := rfl
  have t : ∀ m : Nat, m < 18446744073709551616 → (BitVec.ofInt 64 ((m : Nat) : Int)).toNat = m := by
    intro m hm
    rw [BitVec.toNat_ofInt]
    show (((m : Nat) : Int) % 18446744073709551616).toNat = m
    omega
  rw [e, BitVec.toNat_or, t x (by omega), t (y * 2 ^ n) (by omega), Nat.or_comm, Nat.mul_comm y, ← Nat.two_pow_add_eq_or_of_lt hx, wrap64]
  have : ((2 ^ n * y + x : Nat) : Int) % 18446744073709551616 = ((2 ^ n * y + x : Nat) : Int) := Int.emod_eq_of_lt (by omega) (by rw [Nat.mul_comm]; omega)
  rw [this, Int.natCast_add, Int.natCast_mul, Int.add_comm, Int.mul_comm]

def Byt (s : List Int) : Prop := ∀ x ∈ s, 0 ≤ x ∧ x < 256
theorem byt_get {s : List Int} (h : Byt s) (i : Nat) : 0 ≤ List.getD s i 0 ∧ List.getD s i 0 < 256 := by
  rw [List.getD_eq_getElem?_getD]
  by_cases hi : i < s.length
  · rw [List.getElem?_eq_getElem hi]; exact h _ (List.getElem_mem hi)
  · rw [List.getElem?_eq_none (by omega)]; simp

theorem word8 {b0 b1 b2 b3 b4 b5 b6 b7 : Int} (h0 : 0 ≤ b0 ∧ b0 < 256) (h1 : 0 ≤ b1 ∧ b1 < 256) (h2 : 0 ≤ b2 ∧ b2 < 256) (h3 : 0 ≤ b3 ∧ b3 < 256) (h4 : 0 ≤ b4 ∧ b4 < 256) (h5 : 0 ≤ b5 ∧ b5 < 256) (h6 : 0 ≤ b6 ∧ b6 < 256) (h7 : 0 ≤ b7 ∧ b7 < 256) : (bits2 .or .u64 (bits2 .or .u64 (bits2 .or .u64 (bits2 .or .u64 (bits2 .or .u64 (bits2 .or .u64 (bits2 .or .u64 (bits2 .or .u64 (0 : Int) (shl .u64 (IntKind.u64.wrap b0) (0 : Int))) (shl .u64 (IntKind.u64.wrap b1) (8 : Int))) (shl .u64 (IntKind.u64.wrap b2) (16 : Int))) (shl .u64 (IntKind.u64.wrap b3) (24 : Int))) (shl .u64 (IntKind.u64.wrap b4) (32 : Int))) (shl .u64 (IntKind.u64.wrap b5) (40 : Int))) (shl .u64 (IntKind.u64.wrap b6) (48 : Int))) (shl .u64 (IntKind.u64.wrap b7) (56 : Int))) = b0 + 256 * b1 + 65536 * b2 + 16777216 * b3 + 4294967296 * b4 + 1099511627776 * b5 + 281474976710656 * b6 + 72057594037927936 * b7 := by
  have e0 : bits2 .or .u64 ((0 : Int)) (shl .u64 (IntKind.u64.wrap b0) (0 : Int)) = b0 := by
    have q := or_shl (a := (0 : Int)) (b := b0) (n := 0) (by omega) (by omega) (show _ < (1 : Int) by omega) h0.1 h0.2
    have q : bits2 .or .u64 ((0 : Int)) (shl .u64 (IntKind.u64.wrap b0) (0 : Int)) = ((0 : Int)) + b0 * 1 := q
    rw [q]; omega
  have e1 : bits2 .or .u64 (b0) (shl .u64 (IntKind.u64.wrap b1) (8 : Int)) = b0 + 256 * b1 := by
    have q := or_shl (a := b0) (b := b1) (n := 8) (by omega) (by omega) (show _ < (256 : Int) by omega) h1.1 h1.2
    have q : bits2 .or .u64 (b0) (shl .u64 (IntKind.u64.wrap b1) (8 : Int)) = (b0) + b1 * 256 := q
    rw [q]; omega
  have e2 : bits2 .or .u64 (b0 + 256 * b1) (shl .u64 (IntKind.u64.wrap b2) (16 : Int)) = b0 + 256 * b1 + 65536 * b2 := by
    have q := or_shl (a := b0 + 256 * b1) (b := b2) (n := 16) (by omega) (by omega) (show _ < (65536 : Int) by omega) h2.1 h2.2
    have q : bits2 .or .u64 (b0 + 256 * b1) (shl .u64 (IntKind.u64.wrap b2) (16 : Int)) = (b0 + 256 * b1) + b2 * 65536 := q
    rw [q]; omega
  have e3 : bits2 .or .u64 (b0 + 256 * b1 + 65536 * b2) (shl .u64 (IntKind.u64.wrap b3) (24 : Int)) = b0 + 256 * b1 + 65536 * b2 + 16777216 * b3 := by
    have q := or_shl (a := b0 + 256 * b1 + 65536 * b2) (b := b3) (n := 24) (by omega) (by omega) (show _ < (16777216 : Int) by omega) h3.1 h3.2
    have q : bits2 .or .u64 (b0 + 256 * b1 + 65536 * b2) (shl .u64 (IntKind.u64.wrap b3) (24 : Int)) = (b0 + 256 * b1 + 65536 * b2) + b3 * 16777216 := q
    rw [q]; omega
  have e4 : bits2 .or .u64 (b0 + 256 * b1 + 65536 * b2 + 16777216 * b3) (shl .u64 (IntKind.u64.wrap b4) (32 : Int)) = b0 + 256 * b1 + 65536 * b2 + 16777216 * b3 + 4294967296 * b4 := by
    have q := or_shl (a := b0 + 256 * b1 + 65536 * b2 + 16777216 * b3) (b := b4) (n := 32) (by omega) (by omega) (show _ < (4294967296 : Int) by omega) h4.1 h4.2
    have q : bits2 .or .u64 (b0 + 256 * b1 + 65536 * b2 + 16777216 * b3) (shl .u64 (IntKind.u64.wrap b4) (32 : Int)) = (b0 + 256 * b1 + 65536 * b2 + 16777216 * b3) + b4 * 4294967296 := q
    rw [q]; omega
  have e5 : bits2 .or .u64 (b0 + 256 * b1 + 65536 * b2 + 16777216 * b3 + 4294967296 * b4) (shl .u64 (IntKind.u64.wrap b5) (40 : Int)) = b0 + 256 * b1 + 65536 * b2 + 16777216 * b3 + 4294967296 * b4 + 1099511627776 * b5 := by
    have q := or_shl (a := b0 + 256 * b1 + 65536 * b2 + 16777216 * b3 + 4294967296 * b4) (b := b5) (n := 40) (by omega) (by omega) (show _ < (1099511627776 : Int) by omega) h5.1 h5.2
    have q : bits2 .or .u64 (b0 + 256 * b1 + 65536 * b2 + 16777216 * b3 + 4294967296 * b4) (shl .u64 (IntKind.u64.wrap b5) (40 : Int)) = (b0 + 256 * b1 + 65536 * b2 + 16777216 * b3 + 4294967296 * b4) + b5 * 1099511627776 := q
    rw [q]; omega
  have e6 : bits2 .or .u64 (b0 + 256 * b1 + 65536 * b2 + 16777216 * b3 + 4294967296 * b4 + 1099511627776 * b5) (shl .u64 (IntKind.u64.wrap b6) (48 : Int)) = b0 + 256 * b1 + 65536 * b2 + 16777216 * b3 + 4294967296 * b4 + 1099511627776 * b5 + 281474976710656 * b6 := by
    have q := or_shl (a := b0 + 256 * b1 + 65536 * b2 + 16777216 * b3 + 4294967296 * b4 + 1099511627776 * b5) (b := b6) (n := 48) (by omega) (by omega) (show _ < (281474976710656 : Int) by omega) h6.1 h6.2
    have q : bits2 .or .u64 (b0 + 256 * b1 + 65536 * b2 + 16777216 * b3 + 4294967296 * b4 + 1099511627776 * b5) (shl .u64 (IntKind.u64.wrap b6) (48 : Int)) = (b0 + 256 * b1 + 65536 * b2 + 16777216 * b3 + 4294967296 * b4 + 1099511627776 * b5) + b6 * 281474976710656 := q
    rw [q]; omega
  have e7 : bits2 .or .u64 (b0 + 256 * b1 + 65536 * b2 + 16777216 * b3 + 4294967296 * b4 + 1099511627776 * b5 + 281474976710656 * b6) (shl .u64 (IntKind.u64.wrap b7) (56 : Int)) = b0 + 256 * b1 + 65536 * b2 + 16777216 * b3 + 4294967296 * b4 + 1099511627776 * b5 + 281474976710656 * b6 + 72057594037927936 * b7 := by
    have q := or_shl (a := b0 + 256 * b1 + 65536 * b2 + 16777216 * b3 + 4294967296 * b4 + 1099511627776 * b5 + 281474976710656 * b6) (b := b7) (n := 56) (by omega) (by omega) (show _ < (72057594037927936 : Int) by omega) h7.1 h7.2
    have q : bits2 .or .u64 (b0 + 256 * b1 + 65536 * b2 + 16777216 * b3 + 4294967296 * b4 + 1099511627776 * b5 + 281474976710656 * b6) (shl .u64 (IntKind.u64.wrap b7) (56 : Int)) = (b0 + 256 * b1 + 65536 * b2 + 16777216 * b3 + 4294967296 * b4 + 1099511627776 * b5 + 281474976710656 * b6) + b7 * 72057594037927936 := q
    rw [q]; omega
  rw [e0, e1, e2, e3, e4, e5, e6, e7]

def le8 (s : List Int) (o : Nat) : Int := List.getD s (o + 0) 0 + 256 * List.getD s (o + 1) 0 + 65536 * List.getD s (o + 2) 0 + 16777216 * List.getD s (o + 3) 0 + 4294967296 * List.getD s (o + 4) 0 + 1099511627776 * List.getD s (o + 5) 0 + 281474976710656 * List.getD s (o + 6) 0 + 72057594037927936 * List.getD s (o + 7) 0
/-- the number of 32 bytes -/
def BV (s : List Int) : Int := le8 s 0 + 18446744073709551616 * le8 s 8 + 340282366920938463463374607431768211456 * le8 s 16 + 6277101735386680763835789423207666416102355444464034512896 * le8 s 24

theorem le8_rng {s : List Int} (h : Byt s) (o : Nat) : 0 ≤ le8 s o ∧ le8 s o < 18446744073709551616 := by
  have h0 := byt_get h (o + 0)
  have h1 := byt_get h (o + 1)
  have h2 := byt_get h (o + 2)
  have h3 := byt_get h (o + 3)
  have h4 := byt_get h (o + 4)
  have h5 := byt_get h (o + 5)
  have h6 := byt_get h (o + 6)
  have h7 := byt_get h (o + 7)
  unfold le8
  omega
theorem BV_rng {s : List Int} (h : Byt s) : 0 ≤ BV s ∧ BV s < 115792089237316195423570985008687907853269984665640564039457584007913129639936 := by
  have h0 := le8_rng h 0
  have h1 := le8_rng h 8
  have h2 := le8_rng h 16
  have h3 := le8_rng h 24
  unfold BV
  omega

theorem frm_eq {s : List Int} (h : Byt s) : frm s = W4 (BV s) := by
  unfold frm
  rw [word8 (byt_get h 0) (byt_get h 1) (byt_get h 2) (byt_get h 3) (byt_get h 4) (byt_get h 5) (byt_get h 6) (byt_get h 7), word8 (byt_get h 8) (byt_get h 9) (byt_get h 10) (byt_get h 11) (byt_get h 12) (byt_get h 13) (byt_get h 14) (byt_get h 15), word8 (byt_get h 16) (byt_get h 17) (byt_get h 18) (byt_get h 19) (byt_get h 20) (byt_get h 21) (byt_get h 22) (byt_get h 23), word8 (byt_get h 24) (byt_get h 25) (byt_get h 26) (byt_get h 27) (byt_get h 28) (byt_get h 29) (byt_get h 30) (byt_get h 31)]
  exact W4_eq rfl (le8_rng h 0) (le8_rng h 8) (le8_rng h 16) (le8_rng h 24)

/-- the 32 bytes of a number -/
def B32 (v : Int) : List Int := [v % 256, v / 256 % 256, v / 65536 % 256, v / 16777216 % 256, v / 4294967296 % 256, v / 1099511627776 % 256, v / 281474976710656 % 256, v / 72057594037927936 % 256, v / 18446744073709551616 % 256, v / 4722366482869645213696 % 256, v / 1208925819614629174706176 % 256, v / 309485009821345068724781056 % 256, v / 79228162514264337593543950336 % 256, v / 20282409603651670423947251286016 % 256, v / 5192296858534827628530496329220096 % 256, v / 1329227995784915872903807060280344576 % 256, v / 340282366920938463463374607431768211456 % 256, v / 87112285931760246646623899502532662132736 % 256, v / 22300745198530623141535718272648361505980416 % 256, v / 5708990770823839524233143877797980545530986496 % 256, v / 1461501637330902918203684832716283019655932542976 % 256, v / 374144419156711147060143317175368453031918731001856 % 256, v / 95780971304118053647396689196894323976171195136475136 % 256, v / 24519928653854221733733552434404946937899825954937634816 % 256, v / 6277101735386680763835789423207666416102355444464034512896 % 256, v / 1606938044258990275541962092341162602522202993782792835301376 % 256, v / 411376139330301510538742295639337626245683966408394965837152256 % 256, v / 105312291668557186697918027683670432318895095400549111254310977536 % 256, v / 26959946667150639794667015087019630673637144422540572481103610249216 % 256, v / 6901746346790563787434755862277025452451108972170386555162524223799296 % 256, v / 1766847064778384329583297500742918515827483896875618958121606201292619776 % 256, v / 452312848583266388373324160190187140051835877600158453279131187530910662656 % 256]

theorem bck_eq {S : List Int} (h : Wds S) (l : S.length = 4) : bck S = B32 (V4 S) := by
  obtain ⟨a, b, c, d, rfl⟩ := four l
  have h0 := h a (by simp); have h1 := h b (by simp); have h2 := h c (by simp); have h3 := h d (by simp)
  unfold bck B32 V4
  simp only [List.getD_cons_zero, List.getD_cons_succ, wrap8, shr_0, shr_8, shr_16, shr_24, shr_32, shr_40, shr_48, shr_56, List.cons.injEq, and_true]
  refine ⟨?_, ?_, ?_, ?_, ?_, ?_, ?_, ?_, ?_, ?_, ?_, ?_, ?_, ?_, ?_, ?_, ?_, ?_, ?_, ?_, ?_, ?_, ?_, ?_, ?_, ?_, ?_, ?_, ?_, ?_, ?_, ?_⟩ <;> omega

theorem ad64_eq {x y c : Int} (h0 : 0 ≤ x) (h1 : x < 18446744073709551616) (h2 : 0 ≤ y) (h3 : y < 18446744073709551616) (hc : 0 ≤ c ∧ c ≤ 1) :
    ad64s x y c + 18446744073709551616 * ad64c x y c = x + y + c ∧ 0 ≤ ad64s x y c ∧ ad64s x y c < 18446744073709551616 ∧ 0 ≤ ad64c x y c ∧ ad64c x y c ≤ 1 := by
  unfold ad64s ad64c; omega

theorem plus_eq {S T : List Int} (hS : Wds S) (hT : Wds T) (lS : S.length = 4) (lT : T.length = 4) : plusA S T = W4 (low (addR (V4 S) (V4 T))) := by
  obtain ⟨a0, a1, a2, a3, rfl⟩ := four lS
  obtain ⟨b0, b1, b2, b3, rfl⟩ := four lT
  have ha0 := hS a0 (by simp); have ha1 := hS a1 (by simp); have ha2 := hS a2 (by simp); have ha3 := hS a3 (by simp)
  have hb0 := hT b0 (by simp); have hb1 := hT b1 (by simp); have hb2 := hT b2 (by simp); have hb3 := hT b3 (by simp)
  have e0 := ad64_eq ha0.1 ha0.2 hb0.1 hb0.2 (c := 0) (by omega)
  have e1 := ad64_eq ha1.1 ha1.2 hb1.1 hb1.2 (c := ad64c a0 b0 0) (by omega)
  have e2 := ad64_eq ha2.1 ha2.2 hb2.1 hb2.2 (c := ad64c a1 b1 (ad64c a0 b0 0)) (by omega)
  have e3 := ad64_eq ha3.1 ha3.2 hb3.1 hb3.2 (c := ad64c a2 b2 (ad64c a1 b1 (ad64c a0 b0 0))) (by omega)
  show W4 (low (V4 [ad64s a0 b0 0, ad64s a1 b1 (ad64c a0 b0 0), ad64s a2 b2 (ad64c a1 b1 (ad64c a0 b0 0)), ad64s a3 b3 (ad64c a2 b2 (ad64c a1 b1 (ad64c a0 b0 0)))])) = _
  congr 2
  generalize ad64c a3 b3 (ad64c a2 b2 (ad64c a1 b1 (ad64c a0 b0 0))) = c3 at *
  generalize ad64s a3 b3 (ad64c a2 b2 (ad64c a1 b1 (ad64c a0 b0 0))) = s3 at *
  generalize ad64s a2 b2 (ad64c a1 b1 (ad64c a0 b0 0)) = s2 at *
  generalize ad64c a2 b2 (ad64c a1 b1 (ad64c a0 b0 0)) = c2 at *
  generalize ad64s a1 b1 (ad64c a0 b0 0) = s1 at *
  generalize ad64c a1 b1 (ad64c a0 b0 0) = c1 at *
  generalize ad64s a0 b0 0 = s0 at *
  generalize ad64c a0 b0 0 = c0 at *
  unfold addR V4
  simp only
  clear hS hT lS lT
  omega

theorem plus_can (S : List Int) (T : List Int) (h0 : (Wds S)) (h1 : (Wds T)) (w : World) : Body Try.prog (tabOf tabNM) Try.f72 ⟨w, [], 0, noEnv⟩ (toA [.g [.ints .u64 (4 : Nat) S], .g [.ints .u64 (4 : Nat) T]]) [] (fun ys _ => ys = [.g [.ints .u64 (4 : Nat) (W4 (low (addR (V4 S) (V4 T))))]]) :=
  Body.lens (c := (Try.f72.body.getD .skip)) rfl fun h => (plusA_body0 S T h0 h1 (h.vals 0 _ _ _ rfl) (h.vals 1 _ _ _ rfl) w).mono fun xs K hx => by
    subst hx; rw [plus_eq h0 h1 (h.vals 0 _ _ _ rfl) (h.vals 1 _ _ _ rfl)]

def negL (v : Int) : Int := if v = 0 then 0 else difR LL v
theorem minus_can (S : List Int) (h0 : (Wds S)) (w : World) : Body Try.prog (tabOf tabNM) Try.f95 ⟨w, [], 0, noEnv⟩ (toA [.g [.ints .u64 (4 : Nat) S]]) [] (fun ys _ => ys = [.g [.ints .u64 (4 : Nat) (W4 (negL (V4 S)))]]) :=
  Body.lens (c := (Try.f95.body.getD .skip)) rfl fun h => by
    have hl := h.vals 0 _ _ _ rfl
    by_cases hc : S = [0, 0, 0, 0]
    · refine (minA_body0 S h0 hl hc w).mono fun xs K hx => ?_
      subst hx; subst hc; rfl
    · refine (minB_body0 S h0 hl hc w).mono fun xs K hx => ?_
      subst hx
      have e : minB S = W4 (negL (V4 S)) := by
        unfold minB negL
        rw [V4_ord, if_neg]
        intro h0'
        apply hc
        rw [W4_of h0 hl, h0']; rfl
      rw [e]

theorem frm_can (s : List Int) (h0 : Byt s) (w : World) : Body Try.prog (tabOf tabNM) Try.f74 ⟨w, [], 0, noEnv⟩ (toA [.g [.ints .u8 (32 : Nat) s]]) [] (fun ys _ => ys = [.g [.ints .u64 (4 : Nat) (W4 (BV s))]]) :=
  Body.lens (c := (Try.f74.body.getD .skip)) rfl fun h => (frm_body0 s (h.vals 0 _ _ _ rfl) w).mono fun xs K hx => by
    subst hx; rw [frm_eq h0]

theorem bck_can (S : List Int) (h0 : (Wds S)) (w : World) : Body Try.prog (tabOf tabNM) Try.f71 ⟨w, [], 0, noEnv⟩ (toA [.g [.ints .u64 (4 : Nat) S]]) [] (fun ys _ => ys = [.g [.ints .u8 (32 : Nat) (B32 (V4 S))]]) :=
  Body.lens (c := (Try.f71.body.getD .skip)) rfl fun h => (bck_body0 S (h.vals 0 _ _ _ rfl) w).mono fun xs K hx => by
    subst hx; rw [bck_eq h0 (h.vals 0 _ _ _ rfl)]
end Go.Proofs.Ytcpoldghkiiggaa.X
