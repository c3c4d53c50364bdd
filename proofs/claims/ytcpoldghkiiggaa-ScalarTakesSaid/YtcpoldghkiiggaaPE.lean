/- Bytes as a number of any length; its bits; powers by its bits. -/
import Derived.Test.YtcpoldghkiiggaaF3
namespace Go.Proofs.Ytcpoldghkiiggaa.X
open Go Go.Proofs
set_option linter.unusedVariables false
set_option maxRecDepth 100000

/-- the number of bytes, the lowest first -/
def nb : List Int → Nat
  | [] => 0
  | x :: l => x.toNat + 256 * nb l
theorem nb_lt {l : List Int} (h : Byt l) : nb l < 256 ^ l.length := by
  induction l with
  | nil => exact Nat.one_pos
  | cons x l ih =>
    have hx := h x (List.mem_cons_self ..)
    have := ih fun y hy => h y (List.mem_cons_of_mem _ hy)
    show x.toNat + 256 * nb l < 256 ^ (l.length + 1)
    rw [Nat.pow_succ]; omega
theorem nb_div : ∀ (i : Nat) {l : List Int}, Byt l → nb l / 256 ^ i = nb (l.drop i)
  | 0, l, _ => by rw [Nat.pow_zero, Nat.div_one]; rfl
  | i + 1, [], _ => by show 0 / _ = 0; exact Nat.zero_div _
  | i + 1, x :: l, h => by
    have hx := h x (List.mem_cons_self ..)
    show (x.toNat + 256 * nb l) / 256 ^ (i + 1) = nb (l.drop i)
    rw [Nat.pow_succ', ← Nat.div_div_eq_div_mul, show (x.toNat + 256 * nb l) / 256 = nb l by omega]
    exact nb_div i fun y hy => h y (List.mem_cons_of_mem _ hy)
theorem nb_drop {l : List Int} {i : Nat} (hi : i < l.length) : nb (l.drop i) = (List.getD l i 0).toNat + 256 * nb (l.drop (i + 1)) := by
  rw [List.drop_eq_getElem_cons hi, List.getD_eq_getElem?_getD, List.getElem?_eq_getElem hi]; rfl
theorem nb_drop0 {l : List Int} {i : Nat} (hi : l.length ≤ i) : nb (l.drop i) = 0 := by
  rw [List.drop_eq_nil_of_le hi]; rfl
theorem bit_ofN {w r s d : Nat} (hs : s < d) : (w + 2 ^ d * r) / 2 ^ s % 2 = w / 2 ^ s % 2 := by
  obtain ⟨c, rfl⟩ : ∃ c, d = s + (c + 1) := ⟨d - s - 1, by omega⟩
  have e : w + 2 ^ (s + (c + 1)) * r = w + 2 ^ s * (2 ^ (c + 1) * r) := by rw [Nat.pow_add, Nat.mul_assoc]
  rw [e, Nat.add_mul_div_left _ _ (Nat.pow_pos (by omega)), Nat.pow_succ, Nat.mul_comm (2 ^ c), Nat.mul_assoc, Nat.add_mul_mod_self_left]
theorem nb_bit {l : List Int} (h : Byt l) {i s : Nat} (hi : i < l.length) (hs : s < 8) : nb l / 2 ^ (8 * i + s) % 2 = (List.getD l i 0).toNat / 2 ^ s % 2 := by
  rw [Nat.pow_add, ← Nat.div_div_eq_div_mul, Nat.pow_mul, show (2 : Nat) ^ 8 = 256 from rfl, nb_div i h, nb_drop hi]
  exact bit_ofN (d := 8) hs

theorem shr8n {x : Int} {s : Nat} (hs : s ≤ 8) : shr .u8 x ((s : Nat) : Int) = x / 2 ^ s := by
  have e2 : shr .u8 x ((s : Nat) : Int) = x.fdiv (2 ^ (min s 8)) := rfl
  rw [e2, Nat.min_eq_left hs, Int.fdiv_eq_ediv_of_nonneg _ (Int.le_of_lt (Int.pow_pos (by omega)))]
theorem bit_and8 (y : Int) : bits2 .and .u8 y 1 = y % 2 := by
  have e : bits2 .and .u8 y 1 = IntKind.u8.wrap (((BitVec.ofInt 8 y &&& BitVec.ofInt 8 1).toNat : Nat) : Int) := rfl
  have t2 : (BitVec.ofInt 8 1).toNat = 2 ^ 1 - 1 := by rfl
  rw [e, BitVec.toNat_and, t2, Nat.and_two_pow_sub_one_eq_mod, BitVec.toNat_ofInt, wrap8]
  show (((y % 256).toNat % 2 ^ 1 : Nat) : Int) % 256 = y % 2
  omega
theorem byt_bit {l : List Int} (h : Byt l) {i s : Nat} (hi : i < l.length) (hs : s < 8) : bits2 .and .u8 (shr .u8 (List.getD l i 0) ((s : Nat) : Int)) 1 = ((nb l / 2 ^ (8 * i + s) % 2 : Nat) : Int) := by
  have hx := byt_get h i
  rw [bit_and8, shr8n (by omega), nb_bit h hi hs, Int.natCast_emod, Int.natCast_ediv, Int.natCast_pow, Int.toNat_of_nonneg hx.1]; rfl

/-- the program's bit at round k -/
def bitQ (e : List Int) (n k : Nat) : Int := bits2 .and .u8 (shr .u8 (List.getD e (Int.toNat (IntKind.i64.wrap (Int.tdiv ((((((8 : Nat) * n) : Nat) : Int) - (1 : Int)) - ((k : Nat) : Int)) (8 : Int)))) 0) (Int.tmod ((((((8 : Nat) * n) : Nat) : Int) - (1 : Int)) - ((k : Nat) : Int)) (8 : Int))) (1 : Int)
theorem qt8 {n k : Nat} (hn : n ≤ 140737488351232) (h : k < 8 * n) : IntKind.i64.wrap (Int.tdiv ((((((8 : Nat) * n) : Nat) : Int) - (1 : Int)) - ((k : Nat) : Int)) 8) = (((8 * n - 1 - k) / 8 : Nat) : Int) ∧ Int.tmod ((((((8 : Nat) * n) : Nat) : Int) - (1 : Int)) - ((k : Nat) : Int)) 8 = (((8 * n - 1 - k) % 8 : Nat) : Int) ∧ (8 * n - 1 - k) / 8 < n := by
  rw [Int.tdiv_eq_ediv_of_nonneg (by omega), Int.tmod_eq_emod_of_nonneg (by omega)]
  exact ⟨(wrapI (by omega) (by omega)).trans (by omega), by omega, by omega⟩
theorem bitQ_eq {e : List Int} (he : Byt e) {n k : Nat} (l : e.length = n) (hn : n ≤ 140737488351232) (hk : k < 8 * n) : bitQ e n k = ((nb e / 2 ^ (8 * n - (k + 1)) % 2 : Nat) : Int) := by
  obtain ⟨q1, q2, q3⟩ := qt8 hn hk
  unfold bitQ
  rw [q1, q2, Int.toNat_natCast, byt_bit he (by omega) (by omega)]
  rw [show 8 * ((8 * n - 1 - k) / 8) + (8 * n - 1 - k) % 8 = 8 * n - (k + 1) by omega]
theorem half_nb (m n k : Nat) (hk : k < n) : m / 2 ^ (n - (k + 1)) = 2 * (m / 2 ^ (n - k)) + m / 2 ^ (n - (k + 1)) % 2 := by
  rw [show n - k = (n - (k + 1)) + 1 by omega, Nat.pow_succ, ← Nat.div_div_eq_div_mul]
  omega
/-- what the program holds at round k of a power -/
def pwS (a e : List Int) (n k : Nat) : Int := sqr (BV a) (nb e / 2 ^ (8 * n - k))
def mA (a : List Int) : Int := modL (BV a * 115792089237316195423570985008687907853269984665640564039457584007913129639936)
theorem nb_top {e : List Int} (he : Byt e) {n : Nat} (l : e.length = n) : nb e / 2 ^ (8 * n) = 0 := by
  apply Nat.div_eq_of_lt
  have := nb_lt he
  rw [l] at this
  rwa [Nat.pow_mul]
theorem pwS_0 {a e : List Int} (he : Byt e) {n : Nat} (l : e.length = n) : montV (V4 [1, 0, 0, 0]) (V4 [11819153939886771969, 14991950615390032711, 14910419812499177061, 259310039853996605]) = pwS a e n 0 := by
  unfold pwS
  rw [V4_radx, V4_one, montI, Nat.sub_zero, nb_top he l]; unfold sqr; rw [Int.pow_zero]
theorem mA_eq (a : List Int) : montV (V4 (W4 (modL (BV a)))) (V4 [11819153939886771969, 14991950615390032711, 14910419812499177061, 259310039853996605]) = mA a := by
  rw [V4_radx, V4_modL, montI]
  unfold mA
  rw [← modL_mul, show modL (modL (BV a)) = modL (BV a) from Int.emod_emod_of_dvd _ (Int.dvd_refl LL), modL_mul]
theorem pwS_V (a e : List Int) (n k : Nat) : V4 (W4 (pwS a e n k)) = pwS a e n k := V4_modL _
theorem pwS_a {a e : List Int} (he : Byt e) {n k : Nat} (l : e.length = n) (hn : n ≤ 140737488351232) (hk : k < 8 * n) (h : bitQ e n k = 1) : pwS a e n (k + 1) = montV (V4 (W4 (montV (V4 (W4 (pwS a e n k))) (V4 (W4 (pwS a e n k)))))) (V4 (W4 (mA a))) := by
  rw [bitQ_eq he l hn hk] at h
  rw [pwS_V]
  unfold pwS mA
  rw [sqr_sq, sqr_V, V4_modL, sqr_mul]
  congr 1
  have := half_nb (nb e) (8 * n) k hk
  omega
theorem pwS_b {a e : List Int} (he : Byt e) {n k : Nat} (l : e.length = n) (hn : n ≤ 140737488351232) (hk : k < 8 * n) (h : ¬ bitQ e n k = 1) : pwS a e n (k + 1) = montV (V4 (W4 (pwS a e n k))) (V4 (W4 (pwS a e n k))) := by
  rw [bitQ_eq he l hn hk] at h
  rw [pwS_V]
  unfold pwS
  rw [sqr_sq]
  congr 1
  have := half_nb (nb e) (8 * n) k hk
  omega
theorem pwS_fin (a e : List Int) (n : Nat) : V4 (W4 (montV (V4 (W4 (pwS a e n (8 * n)))) (V4 [1, 0, 0, 0]))) = modL (BV a ^ nb e) := by
  rw [pwS_V, V4_one]
  unfold pwS sqr
  rw [Nat.sub_self, Nat.pow_zero, Nat.div_one, mont1, V4_modL]
theorem ltl_pwS (a e : List Int) (n k : Nat) : LtL (W4 (pwS a e n k)) := ltl_mod _
theorem ltl_mA (a : List Int) : LtL (W4 (mA a)) := ltl_mod _

/-! the reference -/
def bitR (e : List Int) (n t k : Nat) : Int := bits2 .and .u8 (shr .u8 (List.getD e (Int.toNat ((((n : Nat) : Int) - (1 : Int)) - ((t : Nat) : Int))) 0) (IntKind.u64.wrap ((7 : Int) - ((k : Nat) : Int)))) (1 : Int)
def pwR (a e : List Int) (n t k : Nat) : Int := modL (BV a ^ (nb e / 2 ^ (8 * n - (8 * t + k))))
theorem bitR_eq {e : List Int} (he : Byt e) {n t k : Nat} (l : e.length = n) (hn : n ≤ 140737488351232) (ht : t < n) (hk : k < 8) : bitR e n t k = ((nb e / 2 ^ (8 * n - (8 * t + (k + 1))) % 2 : Nat) : Int) := by
  unfold bitR
  rw [show Int.toNat ((((n : Nat) : Int) - (1 : Int)) - ((t : Nat) : Int)) = n - 1 - t by omega, show IntKind.u64.wrap ((7 : Int) - ((k : Nat) : Int)) = ((7 - k : Nat) : Int) by rw [wrap64]; omega, byt_bit he (by omega) (by omega)]
  rw [show 8 * (n - 1 - t) + (7 - k) = 8 * n - (8 * t + (k + 1)) by omega]
theorem pwR_a {a e : List Int} (he : Byt e) {n t k : Nat} (l : e.length = n) (hn : n ≤ 140737488351232) (ht : t < n) (hk : k < 8) (h : bitR e n t k = 1) : pwR a e n t (k + 1) = modL (V8 (W8 (modL (V8 (W8 (pwR a e n t k)) * V8 (W8 (pwR a e n t k))))) * V8 (W8 (modL (BV a)))) := by
  rw [bitR_eq he l hn ht hk] at h
  unfold pwR
  simp only [V8_modL, modL_mull, modL_mulr]
  rw [← Int.pow_add, ← Int.pow_succ]
  congr 2
  have := half_nb (nb e) (8 * n) (8 * t + k) (by omega)
  rw [show 8 * n - (8 * t + (k + 1)) = 8 * n - (8 * t + k + 1) by omega] at *
  omega
theorem pwR_b {a e : List Int} (he : Byt e) {n t k : Nat} (l : e.length = n) (hn : n ≤ 140737488351232) (ht : t < n) (hk : k < 8) (h : ¬ bitR e n t k = 1) : pwR a e n t (k + 1) = modL (V8 (W8 (pwR a e n t k)) * V8 (W8 (pwR a e n t k))) := by
  rw [bitR_eq he l hn ht hk] at h
  unfold pwR
  rw [V8_modL, modL_mul, ← Int.pow_add]
  congr 2
  have := half_nb (nb e) (8 * n) (8 * t + k) (by omega)
  rw [show 8 * n - (8 * t + (k + 1)) = 8 * n - (8 * t + k + 1) by omega] at *
  omega
theorem pwR_0 {a e : List Int} (he : Byt e) {n : Nat} (l : e.length = n) : W8 (pwR a e n 0 0) = [1, 0, 0, 0, 0, 0, 0, 0] := by
  unfold pwR
  rw [show 8 * n - (8 * 0 + 0) = 8 * n by omega, nb_top he l, Int.pow_zero]
  decide +kernel
theorem pwR_8 (a e : List Int) (n t : Nat) : pwR a e n t 8 = pwR a e n (t + 1) 0 := by
  unfold pwR
  rw [show 8 * t + 8 = 8 * (t + 1) + 0 by omega]
theorem pwR_fin (a e : List Int) (n : Nat) : V8 (W8 (pwR a e n n 0)) = modL (BV a ^ nb e) := by
  unfold pwR
  rw [show 8 * n - (8 * n + 0) = 0 by omega, Nat.pow_zero, Nat.div_one, V8_modL]
theorem wd8_pwR (a e : List Int) (n t k : Nat) : Wd8 (W8 (pwR a e n t k)) := wd8_W8 _

/-! the number of 32 bytes -/
theorem nb8 {a0 a1 a2 a3 a4 a5 a6 a7 : Int} (l : List Int) (h0 : 0 ≤ a0) (h1 : 0 ≤ a1) (h2 : 0 ≤ a2) (h3 : 0 ≤ a3) (h4 : 0 ≤ a4) (h5 : 0 ≤ a5) (h6 : 0 ≤ a6) (h7 : 0 ≤ a7) :
    ((nb (a0 :: a1 :: a2 :: a3 :: a4 :: a5 :: a6 :: a7 :: l) : Nat) : Int) = a0 + 256 * a1 + 65536 * a2 + 16777216 * a3 + 4294967296 * a4 + 1099511627776 * a5 + 281474976710656 * a6 + 72057594037927936 * a7 + 18446744073709551616 * ((nb l : Nat) : Int) := by
  simp only [nb]
  omega
theorem BV_nb {s : List Int} (h : Byt s) (l : s.length = 32) : BV s = ((nb s : Nat) : Int) := by
  obtain ⟨a0, a1, a2, a3, a4, a5, a6, a7, b0, b1, b2, b3, b4, b5, b6, b7, c0, c1, c2, c3, c4, c5, c6, c7, d0, d1, d2, d3, d4, d5, d6, d7, rfl⟩ := len32 l
  have g : ∀ x ∈ [a0, a1, a2, a3, a4, a5, a6, a7, b0, b1, b2, b3, b4, b5, b6, b7, c0, c1, c2, c3, c4, c5, c6, c7, d0, d1, d2, d3, d4, d5, d6, d7], 0 ≤ x ∧ x < 256 := h
  simp only [List.forall_mem_cons] at g
  obtain ⟨ha0, ha1, ha2, ha3, ha4, ha5, ha6, ha7, hb0, hb1, hb2, hb3, hb4, hb5, hb6, hb7, hc0, hc1, hc2, hc3, hc4, hc5, hc6, hc7, hd0, hd1, hd2, hd3, hd4, hd5, hd6, hd7, _⟩ := g
  rw [nb8 _ ha0.1 ha1.1 ha2.1 ha3.1 ha4.1 ha5.1 ha6.1 ha7.1, nb8 _ hb0.1 hb1.1 hb2.1 hb3.1 hb4.1 hb5.1 hb6.1 hb7.1, nb8 _ hc0.1 hc1.1 hc2.1 hc3.1 hc4.1 hc5.1 hc6.1 hc7.1, nb8 _ hd0.1 hd1.1 hd2.1 hd3.1 hd4.1 hd5.1 hd6.1 hd7.1]
  simp only [BV, le8, List.getD_cons_zero, List.getD_cons_succ, Nat.zero_add]
  show _ = _ + 18446744073709551616 * (_ + 18446744073709551616 * (_ + 18446744073709551616 * (_ + 18446744073709551616 * ((0 : Nat) : Int))))
  omega
end Go.Proofs.Ytcpoldghkiiggaa.X
