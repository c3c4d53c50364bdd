/- Powers, as the program reckons them. -/
import Derived.Test.YtcpoldghkiiggaaON
namespace Go.Proofs.Ytcpoldghkiiggaa.X
open Go Go.Proofs
set_option linter.unusedVariables false

def bitE (E : List Int) (k : Nat) : Int := bits2 .and .u64 (shr .u64 (List.getD E (Int.toNat (IntKind.i64.wrap (Int.tdiv ((255 : Int) - ((k : Nat) : Int)) (64 : Int)))) 0) (Int.tmod ((255 : Int) - ((k : Nat) : Int)) (64 : Int))) (1 : Int)
def rP (m r0 : Int) (E : List Int) : Nat → Int
  | 0 => r0
  | k + 1 => if bitE E k = 1 then montV (V4 (W4 (montV (V4 (W4 (rP m r0 E k))) (V4 (W4 (rP m r0 E k)))))) (V4 (W4 m)) else montV (V4 (W4 (rP m r0 E k))) (V4 (W4 (rP m r0 E k)))
theorem rP_a {m r0 : Int} {E : List Int} {k : Nat} (h : bitE E k = 1) : rP m r0 E (k + 1) = montV (V4 (W4 (montV (V4 (W4 (rP m r0 E k))) (V4 (W4 (rP m r0 E k)))))) (V4 (W4 m)) := by
  show (if _ then _ else _) = _
  rw [if_pos h]
theorem rP_b {m r0 : Int} {E : List Int} {k : Nat} (h : ¬ bitE E k = 1) : rP m r0 E (k + 1) = montV (V4 (W4 (rP m r0 E k))) (V4 (W4 (rP m r0 E k))) := by
  show (if _ then _ else _) = _
  rw [if_neg h]
theorem rP_ltl (m a b : Int) (E : List Int) : ∀ k, LtL (W4 (rP m (montV a b) E k))
  | 0 => ltl_mont a b
  | k + 1 => by
    by_cases h : bitE E k = 1
    · rw [rP_a h]; exact ltl_mont _ _
    · rw [rP_b h]; exact ltl_mont _ _
theorem qt {k : Nat} (h : k < 256) : IntKind.i64.wrap (Int.tdiv ((255 : Int) - ((k : Nat) : Int)) 64) = Int.tdiv ((255 : Int) - ((k : Nat) : Int)) 64 ∧ 0 ≤ Int.tdiv ((255 : Int) - ((k : Nat) : Int)) 64 ∧ Int.tdiv ((255 : Int) - ((k : Nat) : Int)) 64 < 4 ∧ 0 ≤ Int.tmod ((255 : Int) - ((k : Nat) : Int)) 64 := by
  rw [Int.tdiv_eq_ediv_of_nonneg (by omega), Int.tmod_eq_emod_of_nonneg (by omega)]
  exact ⟨wrapI (by omega) (by omega), by omega, by omega, by omega⟩
end Go.Proofs.Ytcpoldghkiiggaa.X
