/- The reference's Reduce, FromInt, Canonical by numbers. -/
import Derived.Test.YtcpoldghkiiggaaQO
namespace Go.Proofs.Ytcpoldghkiiggaa.X
open Go Go.Proofs
set_option linter.unusedVariables false
set_option maxRecDepth 100000

theorem spl32 (y : List Int) : splice [0, 0, 0, 0, 0, 0, 0, 0, 0, 0, 0, 0, 0, 0, 0, 0, 0, 0, 0, 0, 0, 0, 0, 0, 0, 0, 0, 0, 0, 0, 0, 0] 0 (min 32 32) y = y := by
  show [] ++ y ++ [] = y
  rw [List.append_nil, List.nil_append]
theorem rdR_eq {b : List Int} (hb : Byt b) {n : Nat} (hl : b.length = n) (hn : n ≤ 140737488351232) : rdR n b = B32 (modL (nbI b)) := by
  obtain ⟨h1, h2, h3⟩ := dgN_num hb hl hn
  unfold rdR
  rw [sub_all b n (by omega), sub_all _ _ (Nat.le_of_eq h1), h3, V8_modL]; rfl
theorem rdR_num (n nm : Nat) (b : List Int) (cap0 : Nat) (h0 : nm = n) (h1 : n ≤ 140737488351232) (h2 : Byt b) (w : World) (β : Env) : Body Try.prog (tabOf tabQO) Try.f19 ⟨w, [], 1, β⟩ [.o (.a (.sl 0 (0 : Nat) n cap0))] [some ⟨false, [.ints .u8 nm b]⟩] (fun ys _ => ys = [.g [.ints .u8 (32 : Nat) (B32 (modL (nbI b)))]]) :=
  Body.lens (c := (Try.f19.body.getD .skip)) rfl fun h => rdR_eq h2 ((h.lens 0 _ .u8 nm b rfl (by simp)).trans h0) h1 ▸ rdR_body n nm b cap0 h0 h1 h2 w β
theorem frR_eq {n : Int} (h0 : 0 ≤ n) (h1 : n < 18446744073709551616) : frR n = B32 n := by
  unfold frR B32
  have z : ∀ m : Int, 18446744073709551616 ≤ m → n / m % 256 = 0 := fun m hm => by rw [Int.ediv_eq_zero_of_lt h0 (by omega)]; rfl
  simp only [wrap8, shr_0, shr_8, shr_16, shr_24, shr_32, shr_40, shr_48, shr_56, Int.ediv_one]
  simp only [List.cons.injEq, and_true, true_and]
  refine ⟨?_, ?_, ?_, ?_, ?_, ?_, ?_, ?_, ?_, ?_, ?_, ?_, ?_, ?_, ?_, ?_, ?_, ?_, ?_, ?_, ?_, ?_, ?_, ?_⟩ <;> (symm; apply z; decide)
theorem frR_num (n : Int) (h0 : 0 ≤ n) (h1 : n < 18446744073709551616) (w : World) : Body Try.prog (tabOf tabQO) Try.f23 ⟨w, [], 0, noEnv⟩ (toA [.a (.i .u64 n)]) [] (fun ys _ => ys = [.g [.ints .u8 (32 : Nat) (B32 n)]]) := frR_eq h0 h1 ▸ frR_body n h0 h1 w
theorem caR_num (a : List Int) (h0 : Byt a) (w : World) : Body Try.prog (tabOf tabQO) Try.f21 ⟨w, [], 0, noEnv⟩ (toA [.g [.ints .u8 (32 : Nat) a]]) [] (fun ys _ => ys = [.a (.b (decide (BV a < LL)))]) :=
  Body.lens (c := (Try.f21.body.getD .skip)) rfl fun h => by
    rw [low_self h0 (h.vals 0 _ _ _ rfl)]
    have e : caR a = decide (B32 (modL (BV a)) = a) := by unfold caR; rw [V8_modL]
    exact e ▸ caR_body a h0 w
end Go.Proofs.Ytcpoldghkiiggaa.X
