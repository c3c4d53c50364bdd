/- Digits of any bytes; Reduce, Decode, Canonical by numbers. -/
import Derived.Test.YtcpoldghkiiggaaQN
namespace Go.Proofs.Ytcpoldghkiiggaa.X
open Go Go.Proofs
set_option linter.unusedVariables false
set_option maxRecDepth 100000

theorem topV_val {l : List Int} {n : Nat} (h : l.length = n) : ∀ t, t ≤ n → topV l n t = valL (l.drop (n - t))
  | 0, _ => by rw [Nat.sub_zero, List.drop_eq_nil_of_le (by omega)]; rfl
  | t + 1, ht => by
    show topV l n t * 4294967296 + List.getD l (Int.toNat (((n : Nat) : Int) - (1 : Int) - ((t : Nat) : Int))) 0 = _
    rw [topV_val h t (by omega), show Int.toNat (((n : Nat) : Int) - (1 : Int) - ((t : Nat) : Int)) = n - (t + 1) by omega]
    rw [List.drop_eq_getElem_cons (show n - (t + 1) < l.length by omega), List.getD_eq_getElem?_getD, List.getElem?_eq_getElem (show n - (t + 1) < l.length by omega), show n - (t + 1) + 1 = n - t by omega]
    show _ = _ + 4294967296 * _
    rw [Int.add_comm, Int.mul_comm]; rfl
theorem topV_all {l : List Int} {n : Nat} (h : l.length = n) : topV l n n = valL l := by
  rw [topV_val h n (Nat.le_refl _), Nat.sub_self, List.drop_zero]
theorem valL_0 : ∀ n : Nat, valL (List.replicate n 0) = 0
  | 0 => rfl
  | n + 1 => by show (0 : Int) + 4294967296 * valL (List.replicate n 0) = 0; rw [valL_0 n]; rfl
theorem nb_take {b : List Int} {k : Nat} (h : k < b.length) : nb (b.take (k + 1)) = nb (b.take k) + 256 ^ k * (List.getD b k 0).toNat := by
  rw [List.take_add_one, List.getElem?_eq_getElem h, nb_app, List.length_take, Nat.min_eq_left (by omega), List.getD_eq_getElem?_getD, List.getElem?_eq_getElem h]
  rfl
theorem getD_set {l : List Int} {i j : Nat} {x : Int} (hi : i < l.length) : List.getD (l.set i x) j 0 = if i = j then x else List.getD l j 0 := by
  rw [List.getD_eq_getElem?_getD, List.getD_eq_getElem?_getD, List.getElem?_set]
  by_cases hc : i = j
  · subst hc; rw [if_pos rfl, if_pos rfl, if_pos hi]; rfl
  · rw [if_neg hc, if_neg hc]

theorem dg_inv {b : List Int} (hb : Byt b) {n : Nat} (hl : b.length = n) (hn : n ≤ 140737488351232) : ∀ k, k ≤ n →
    (iter (dgL_step b) k (List.replicate ((n + 3) / 4) 0)).length = (n + 3) / 4 ∧
    (∀ j, 0 ≤ List.getD (iter (dgL_step b) k (List.replicate ((n + 3) / 4) 0)) j 0 ∧ List.getD (iter (dgL_step b) k (List.replicate ((n + 3) / 4) 0)) j 0 < ((2 ^ (8 * min 4 (k - 4 * j)) : Nat) : Int)) ∧
    valL (iter (dgL_step b) k (List.replicate ((n + 3) / 4) 0)) = ((nb (b.take k) : Nat) : Int)
  | 0, _ => by
    refine ⟨List.length_replicate, fun j => ?_, ?_⟩
    · have e : List.getD (iter (dgL_step b) 0 (List.replicate ((n + 3) / 4) 0)) j 0 = 0 := by
        show List.getD (List.replicate ((n + 3) / 4) (0 : Int)) j 0 = 0
        rw [List.getD_eq_getElem?_getD]
        by_cases hj : j < (n + 3) / 4
        · rw [List.getElem?_replicate, if_pos hj]; rfl
        · rw [List.getElem?_replicate, if_neg hj]; rfl
      rw [e]
      exact ⟨Int.le_refl _, by rw [Nat.zero_sub]; decide⟩
    · exact valL_0 _
  | k + 1, hk => by
    obtain ⟨h1, h2, h3⟩ := dg_inv hb hl hn k (by omega)
    show List.length (dgL_step b k _) = _ ∧ (∀ j, 0 ≤ List.getD (dgL_step b k _) j 0 ∧ List.getD (dgL_step b k _) j 0 < _) ∧ valL (dgL_step b k _) = _
    generalize iter (dgL_step b) k (List.replicate ((n + 3) / 4) 0) = l at *
    have hx := byt_get hb k
    have hs : IntKind.u64.wrap (IntKind.i64.wrap ((8 : Int) * (Int.tmod ((k : Nat) : Int) (4 : Int)))) = ((8 * (k % 4) : Nat) : Int) := by
      rw [Int.tmod_eq_emod_of_nonneg (by omega), wrapI (by omega) (by omega), wrap64]; omega
    have ho := h2 (k / 4)
    have hm : min 4 (k - 4 * (k / 4)) = k % 4 := by omega
    rw [hm] at ho
    have hor := or_shl32 (n := 8 * (k % 4)) (by omega) ho.1 ho.2 hx.1 hx.2
    have e : dgL_step b k l = l.set (k / 4) (List.getD l (k / 4) 0 + List.getD b k 0 * ((2 ^ (8 * (k % 4)) : Nat) : Int)) := by
      unfold dgL_step
      simp only
      rw [dg_i (by omega), hs, hor]
    have hj0 : k / 4 < l.length := by omega
    rw [e]
    refine ⟨by rw [List.length_set]; exact h1, fun j => ?_, ?_⟩
    · rw [getD_set hj0]
      by_cases hc : k / 4 = j
      · subst hc
        rw [if_pos rfl, show min 4 (k + 1 - 4 * (k / 4)) = k % 4 + 1 by omega]
        have hp : (2 : Nat) ^ (8 * (k % 4 + 1)) = 256 * 2 ^ (8 * (k % 4)) := by
          rw [Nat.mul_add, Nat.pow_add, Nat.mul_comm]
        rw [hp]
        have hp0 : 0 < (2 : Nat) ^ (8 * (k % 4)) := Nat.pow_pos (by omega)
        generalize (2 : Nat) ^ (8 * (k % 4)) = q at *
        have m1 : 0 ≤ List.getD b k 0 * ((q : Nat) : Int) := Int.mul_nonneg hx.1 (by omega)
        have m2 : List.getD b k 0 * ((q : Nat) : Int) ≤ 255 * ((q : Nat) : Int) := Int.mul_le_mul_of_nonneg_right (by omega) (by omega)
        omega
      · rw [if_neg hc]
        have := h2 j
        rcases Nat.lt_or_gt_of_ne hc with hlt | hgt
        · rw [show min 4 (k + 1 - 4 * j) = min 4 (k - 4 * j) by omega]; exact this
        · rw [show min 4 (k + 1 - 4 * j) = min 4 (k - 4 * j) by omega]; exact this
    · rw [val_set _ _ _ hj0, h3, nb_take (by omega), Int.natCast_add, Int.natCast_mul, Int.toNat_of_nonneg hx.1]
      have e2 : ((256 ^ k : Nat) : Int) = ((2 ^ (8 * (k % 4)) : Nat) : Int) * pw (k / 4) := by
        have e3 : (256 : Nat) ^ k = 2 ^ (8 * (k % 4)) * 4294967296 ^ (k / 4) := by
          rw [show (256 : Nat) = 2 ^ 8 from rfl, show (4294967296 : Nat) = 2 ^ 32 from rfl, ← Nat.pow_mul, ← Nat.pow_mul, ← Nat.pow_add]
          congr 1; omega
        rw [e3, Int.natCast_mul, Int.natCast_pow 4294967296]; rfl
      rw [e2]
      generalize ((2 ^ (8 * (k % 4)) : Nat) : Int) = q
      generalize pw (k / 4) = r
      generalize List.getD b k 0 = x
      generalize List.getD l (k / 4) 0 = y
      rw [show y + x * q - y = x * q by omega, Int.mul_comm (q * r), Int.mul_assoc]
theorem dgN_num {b : List Int} (hb : Byt b) {n : Nat} (hl : b.length = n) (hn : n ≤ 140737488351232) : (dgN_1 n b).length = dgN n ∧ Wd8 (dgN_1 n b) ∧ topV (dgN_1 n b) (dgN n) (dgN n) = ((nb b : Nat) : Int) := by
  obtain ⟨h1, h2, h3⟩ := dg_inv hb hl hn n (Nat.le_refl _)
  have hl2 : (dgN_1 n b).length = dgN n := h1
  refine ⟨hl2, fun x hx => ?_, ?_⟩
  · obtain ⟨j, hj, rfl⟩ := List.mem_iff_getElem.1 hx
    have q := h2 j
    have e : List.getD (iter (dgL_step b) n (List.replicate ((n + 3) / 4) 0)) j 0 = (dgN_1 n b)[j] := by
      rw [List.getD_eq_getElem?_getD, List.getElem?_eq_getElem (show j < (iter (dgL_step b) n (List.replicate ((n + 3) / 4) 0)).length from hj)]; rfl
    rw [e] at q
    refine ⟨q.1, Int.lt_of_lt_of_le q.2 ?_⟩
    have : (2 : Nat) ^ (8 * min 4 (n - 4 * j)) ≤ 2 ^ 32 := Nat.pow_le_pow_right (by omega) (by omega)
    have e4 : (2 : Nat) ^ 32 = 4294967296 := by rfl
    omega
  · rw [topV_all hl2]
    have e5 : valL (dgN_1 n b) = ((nb (b.take n) : Nat) : Int) := h3
    rw [e5, List.take_of_length_le (by omega)]

theorem rdP_eq (b : List Int) (n : Nat) : rdP n b = B32 (modL ((nb b : Nat) : Int)) := by
  unfold rdP
  rw [rd_fin]
def nbI (b : List Int) : Int := ((nb b : Nat) : Int)
theorem rdP_num (n nm : Nat) (b : List Int) (cap0 : Nat) (h0 : nm = n) (h1 : n ≤ 140737488351232) (h2 : Byt b) (w : World) (β : Env) : Body Try.prog (tabOf tabQN) Try.f18 ⟨w, [], 1, β⟩ [.o (.a (.sl 0 (0 : Nat) n cap0))] [some ⟨false, [.ints .u8 nm b]⟩] (fun ys _ => ys = [.g [.ints .u8 (32 : Nat) (B32 (modL (nbI b)))]]) := rdP_eq b n ▸ rdP_body n nm b cap0 h0 h1 h2 w β
end Go.Proofs.Ytcpoldghkiiggaa.X
