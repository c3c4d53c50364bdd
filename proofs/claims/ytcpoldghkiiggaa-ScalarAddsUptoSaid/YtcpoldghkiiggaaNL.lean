/- A number, less the order if it is not below it. -/
import Derived.Test.YtcpoldghkiiggaaNK
namespace Go.Proofs.Ytcpoldghkiiggaa.X
open Go Go.Proofs
set_option linter.unusedVariables false

def low (v : Int) : Int := if LL ≤ v then v - LL else v
def addR (a b : Int) : Int := (a + b) % 115792089237316195423570985008687907853269984665640564039457584007913129639936

theorem V4_rng {S : List Int} (h : Wds S) (l : S.length = 4) : 0 ≤ V4 S ∧ V4 S < 115792089237316195423570985008687907853269984665640564039457584007913129639936 := by
  obtain ⟨a, b, c, d, rfl⟩ := four l
  have h0 := h a (by simp); have h1 := h b (by simp); have h2 := h c (by simp); have h3 := h d (by simp)
  unfold V4
  simp only
  omega
theorem W4_of {S : List Int} (h : Wds S) (l : S.length = 4) : S = W4 (V4 S) := by
  obtain ⟨a, b, c, d, rfl⟩ := four l
  exact W4_eq rfl (h a (by simp)) (h b (by simp)) (h c (by simp)) (h d (by simp))
theorem V4_ord : V4 [6346243789798364141, 1503914060200516822, 0, 1152921504606846976] = LL := by decide +kernel

theorem low_rng {v : Int} (h0 : 0 ≤ v) (h1 : v < 115792089237316195423570985008687907853269984665640564039457584007913129639936) : 0 ≤ low v ∧ low v < 115792089237316195423570985008687907853269984665640564039457584007913129639936 := by
  unfold low LL
  split <;> omega

theorem lowered_can (S : List Int) (h0 : (Wds S)) (w : World) : Body Try.prog (tabOf tabNK) Try.f129 ⟨w, [], 0, noEnv⟩ (toA [.g [.ints .u64 (4 : Nat) S]]) [] (fun ys _ => ys = [.g [.ints .u64 (4 : Nat) (W4 (low (V4 S)))]]) :=
  Body.lens (c := (Try.f129.body.getD .skip)) rfl fun h => by
    have hl := h.vals 0 _ _ _ rfl
    obtain ⟨r0, r1⟩ := V4_rng h0 hl
    by_cases hc : lessC (V4 S) (V4 ([6346243789798364141, 1503914060200516822, 0, 1152921504606846976] : List Int)) = 0
    · refine (lowA_body0 S h0 hl hc w).mono fun xs K hx => ?_
      subst hx
      have e : lowA S = W4 (low (V4 S)) := by
        unfold lowA
        congr 1
        rw [V4_ord] at hc ⊢
        unfold lessC at hc
        unfold difR low
        split at hc
        · cases hc
        · rename_i h; rw [if_pos (by omega)]
          unfold LL at *
          omega
      rw [e]
    · refine (lowB_body0 S h0 hl hc w).mono fun xs K hx => ?_
      subst hx
      have e : W4 (low (V4 S)) = S := by
        rw [V4_ord] at hc
        unfold lessC at hc
        unfold low
        split at hc
        · rename_i h; rw [if_neg (by omega)]; exact (W4_of h0 hl).symm
        · exact absurd rfl hc
      rw [e]
end Go.Proofs.Ytcpoldghkiiggaa.X
