/- Reduce, piece by piece. -/
import Derived.Test.YtcpoldghkiiggaaPI
namespace Go.Proofs.Ytcpoldghkiiggaa.X
open Go Go.Proofs
set_option linter.unusedVariables false
set_option maxRecDepth 100000

theorem dg_n {n : Nat} (h : n ≤ 140737488351232) : Int.toNat (IntKind.i64.wrap (Int.tdiv (IntKind.i64.wrap (((n : Nat) : Int) + (3 : Int))) (4 : Int))) = (n + 3) / 4 := by
  rw [wrapI (x := ((n : Nat) : Int) + 3) (by omega) (by omega), Int.tdiv_eq_ediv_of_nonneg (by omega), wrapI (by omega) (by omega)]
  omega
theorem dg_n2 {n : Nat} (h : n ≤ 140737488351232) : IntKind.i64.wrap (Int.tdiv (IntKind.i64.wrap (((n : Nat) : Int) + (3 : Int))) (4 : Int)) = (((n + 3) / 4 : Nat) : Int) := by
  rw [wrapI (x := ((n : Nat) : Int) + 3) (by omega) (by omega), Int.tdiv_eq_ediv_of_nonneg (by omega), wrapI (by omega) (by omega)]
  omega
theorem dg_i2 {k : Nat} (h : k ≤ 140737488351232) : IntKind.i64.wrap (Int.tdiv ((k : Nat) : Int) (4 : Int)) = ((k / 4 : Nat) : Int) := by
  rw [Int.tdiv_eq_ediv_of_nonneg (by omega), wrapI (by omega) (by omega)]
  omega
theorem dg_i {k : Nat} (h : k ≤ 140737488351232) : Int.toNat (IntKind.i64.wrap (Int.tdiv ((k : Nat) : Int) (4 : Int))) = k / 4 := by
  rw [Int.tdiv_eq_ediv_of_nonneg (by omega), wrapI (by omega) (by omega)]
  omega

theorem tim_num (S T : List Int) (h0 : Wds S) (h1 : Wds T) (h2 : LtL T) (w : World) : Body Try.prog (tabOf tabNT) Try.f73 ⟨w, [], 0, noEnv⟩ (toA [.g [.ints .u64 (4 : Nat) S], .g [.ints .u64 (4 : Nat) T]]) [] (fun ys _ => ys = [.g [.ints .u64 (4 : Nat) (W4 (modL (V4 S * V4 T)))]]) := by
  have e : times S T = W4 (modL (V4 S * V4 T)) := by
    unfold times
    rw [V4_mont, V4_radx, times_eq]
  exact e ▸ times_body S T h0 h1 h2 w

def rdS (b : List Int) (n k : Nat) : Int := modL ((nb (b.drop (min n (24 * ((n + 23) / 24 - k)))) : Nat) : Int)
theorem W4_00 : W4 0 = [0, 0, 0, 0] := by decide +kernel
theorem rdS_0 {b : List Int} {n : Nat} (l : b.length = n) : rdS b n 0 = 0 := by
  unfold rdS
  rw [nb_drop0 (by omega)]; rfl
theorem rd_at {n k : Nat} (h0 : n ≤ 140737488351232) (hk : k < (n + 23) / 24) : IntKind.i64.wrap (IntKind.i64.wrap (Int.tdiv (IntKind.i64.wrap (((min n (24 * ((n + 23) / 24 - k)) : Nat) : Int) - (1 : Int))) (24 : Int)) * (24 : Int)) = ((24 * ((n + 23) / 24 - (k + 1)) : Nat) : Int) := by
  rw [wrapI (x := ((min n (24 * ((n + 23) / 24 - k)) : Nat) : Int) - 1) (by omega) (by omega), Int.tdiv_eq_ediv_of_nonneg (by omega), wrapI (x := (((min n (24 * ((n + 23) / 24 - k)) : Nat) : Int) - 1) / 24) (by omega) (by omega), wrapI (by omega) (by omega)]
  omega
theorem byt_sub {b : List Int} (h : Byt b) (c m : Nat) : Byt (sub b c m) := fun x hx => h x (List.mem_of_mem_drop (List.mem_of_mem_take hx))
theorem rd_byt {b : List Int} (h : Byt b) (o m : Nat) : Byt (splice [0, 0, 0, 0, 0, 0, 0, 0, 0, 0, 0, 0, 0, 0, 0, 0, 0, 0, 0, 0, 0, 0, 0, 0, 0, 0, 0, 0, 0, 0, 0, 0] 0 m (sub b o m)) := by
  have hz : Byt [0, 0, 0, 0, 0, 0, 0, 0, 0, 0, 0, 0, 0, 0, 0, 0, 0, 0, 0, 0, 0, 0, 0, 0, 0, 0, 0, 0, 0, 0, 0, 0] := byt_small (by decide +kernel)
  intro x hx
  unfold splice at hx
  rw [List.mem_append, List.mem_append] at hx
  rcases hx with (hx | hx) | hx
  · exact hz x (List.mem_of_mem_take hx)
  · exact byt_sub h o m x hx
  · exact hz x (List.mem_of_mem_drop hx)
theorem nb_app (a b : List Int) : nb (a ++ b) = nb a + 256 ^ a.length * nb b := by
  induction a with
  | nil => show nb b = 0 + 1 * nb b; omega
  | cons x a ih =>
    show x.toNat + 256 * nb (a ++ b) = x.toNat + 256 * nb a + 256 ^ (a.length + 1) * nb b
    rw [ih, Nat.pow_succ, Nat.mul_add, Nat.mul_comm (256 ^ a.length) 256, Nat.mul_assoc]; omega
theorem nb_zeros : ∀ n : Nat, nb (List.replicate n 0) = 0
  | 0 => rfl
  | n + 1 => by show (0 : Int).toNat + 256 * nb (List.replicate n 0) = 0; rw [nb_zeros n]; rfl
theorem z32 : ([0, 0, 0, 0, 0, 0, 0, 0, 0, 0, 0, 0, 0, 0, 0, 0, 0, 0, 0, 0, 0, 0, 0, 0, 0, 0, 0, 0, 0, 0, 0, 0] : List Int) = List.replicate 32 0 := by rfl
theorem piece_BV {b : List Int} (h : Byt b) {o m : Nat} (hm : m ≤ 32) (hl : o + m ≤ b.length) : BV (splice [0, 0, 0, 0, 0, 0, 0, 0, 0, 0, 0, 0, 0, 0, 0, 0, 0, 0, 0, 0, 0, 0, 0, 0, 0, 0, 0, 0, 0, 0, 0, 0] 0 m (sub b o m)) = ((nb (sub b o m) : Nat) : Int) := by
  have hb := rd_byt h o m
  rw [z32] at *
  have e : splice (List.replicate 32 (0 : Int)) 0 m (sub b o m) = sub b o m ++ List.replicate (32 - m) 0 := by
    unfold splice
    rw [List.take_zero, List.nil_append, Nat.zero_add, List.drop_replicate]
  rw [e] at hb ⊢
  rw [BV_nb hb (by rw [List.length_append, sub_len _ _ _ hl, List.length_replicate]; omega), nb_app, nb_zeros, Nat.mul_zero, Nat.add_zero]
theorem nb_split {b : List Int} {o m : Nat} (h : o + m ≤ b.length) : nb (b.drop o) = nb (sub b o m) + 256 ^ m * nb (b.drop (o + m)) := by
  have e : b.drop o = sub b o m ++ b.drop (o + m) := by
    unfold sub
    rw [← List.drop_drop, List.take_append_drop]
  conv => lhs; rw [e]
  rw [nb_app, sub_len _ _ _ h]
theorem V4_192 : BV (B32 (V4 [0, 0, 0, 1])) = 6277101735386680763835789423207666416102355444464034512896 := by decide +kernel
theorem rd_ltl : LtL (W4 (BV (B32 (V4 [0, 0, 0, 1])))) := by unfold LtL; rw [V4_192]; decide +kernel
theorem modL_addl_mul (x y z : Int) : modL (modL x * y + z) = modL (x * y + z) := by
  rw [← modL_addl, modL_mull, modL_addl]
theorem rd_step {b : List Int} (hb : Byt b) {n k : Nat} (l : b.length = n) (h0 : n ≤ 140737488351232) (hk : k < (n + 23) / 24) :
    low (addR (V4 (W4 (modL (V4 (W4 (rdS b n k)) * V4 (W4 (BV (B32 (V4 [0, 0, 0, 1])))))))) (V4 (W4 (modL (BV (splice [0, 0, 0, 0, 0, 0, 0, 0, 0, 0, 0, 0, 0, 0, 0, 0, 0, 0, 0, 0, 0, 0, 0, 0, 0, 0, 0, 0, 0, 0, 0, 0] 0 (min (min n (24 * ((n + 23) / 24 - k)) - 24 * ((n + 23) / 24 - (k + 1))) 32) (sub b (24 * ((n + 23) / 24 - (k + 1))) (min (min n (24 * ((n + 23) / 24 - k)) - 24 * ((n + 23) / 24 - (k + 1))) 32)))))))) = rdS b n (k + 1) := by
  generalize hm : min (min n (24 * ((n + 23) / 24 - k)) - 24 * ((n + 23) / 24 - (k + 1))) 32 = m
  generalize ho : 24 * ((n + 23) / 24 - (k + 1)) = o at *
  have hlm : o + m ≤ b.length := by omega
  have e1 : V4 (W4 (rdS b n k)) = rdS b n k := V4_modL _
  have e2 : V4 (W4 (BV (B32 (V4 [0, 0, 0, 1])))) = 6277101735386680763835789423207666416102355444464034512896 := by rw [V4_192]; decide +kernel
  rw [piece_BV hb (by omega) hlm, V4_modL, V4_modL, low_add (modL_b _) (modL_b _), modL_add, e1, e2]
  unfold rdS
  rw [ho, show min n o = o by omega, nb_split hlm]
  by_cases hk0 : k = 0
  · subst hk0
    rw [nb_drop0 (l := b) (i := min n (24 * ((n + 23) / 24 - 0))) (by omega), nb_drop0 (l := b) (i := o + m) (by omega)]
    show modL (0 * _ + _) = _
    rw [Int.zero_mul, Int.zero_add, Nat.mul_zero, Nat.add_zero]
  · rw [show min n (24 * ((n + 23) / 24 - k)) = o + m by omega, show m = 24 by omega]
    rw [modL_addl_mul, Int.natCast_add, Int.natCast_mul, Int.add_comm]
    congr 2
    rw [Int.mul_comm]
    rfl
theorem rd_fin {b : List Int} {n : Nat} : V4 (W4 (rdS b n ((n + 23) / 24))) = modL ((nb b : Nat) : Int) := by
  unfold rdS
  rw [V4_modL, Nat.sub_self, Nat.mul_zero, Nat.min_zero, List.drop_zero]
end Go.Proofs.Ytcpoldghkiiggaa.X
