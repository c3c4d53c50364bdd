/- The difference of two numbers. -/
import Derived.Test.YtcpoldghkiiggaaNI
namespace Go.Proofs.Ytcpoldghkiiggaa.X
open Go Go.Proofs
set_option linter.unusedVariables false

def difR (a b : Int) : Int := (a - b) % 115792089237316195423570985008687907853269984665640564039457584007913129639936
def lessC (a b : Int) : Int := if a < b then 1 else 0

theorem wds_four {a b c d : Int} (h0 : 0 ≤ a ∧ a < 18446744073709551616) (h1 : 0 ≤ b ∧ b < 18446744073709551616) (h2 : 0 ≤ c ∧ c < 18446744073709551616) (h3 : 0 ≤ d ∧ d < 18446744073709551616) : Wds [a, b, c, d] := by
  intro x hx
  simp only [List.mem_cons, List.not_mem_nil, or_false] at hx
  rcases hx with rfl | rfl | rfl | rfl <;> assumption

theorem sb64_eq {x y b : Int} (h0 : 0 ≤ x) (h1 : x < 18446744073709551616) (h2 : 0 ≤ y) (h3 : y < 18446744073709551616) (hb : 0 ≤ b ∧ b ≤ 1) :
    sb64s x y b = x - y - b + 18446744073709551616 * sb64c x y b ∧ 0 ≤ sb64s x y b ∧ sb64s x y b < 18446744073709551616 ∧ 0 ≤ sb64c x y b ∧ sb64c x y b ≤ 1 := by
  unfold sb64s sb64c
  split <;> omega

theorem less_eq {S T : List Int} (hS : Wds S) (hT : Wds T) (lS : S.length = 4) (lT : T.length = 4) : less S T = W4 (difR (V4 S) (V4 T)) ∧ less_1 S T = lessC (V4 S) (V4 T) := by
  obtain ⟨a0, a1, a2, a3, rfl⟩ := four lS
  obtain ⟨b0, b1, b2, b3, rfl⟩ := four lT
  have ha0 := hS a0 (by simp); have ha1 := hS a1 (by simp); have ha2 := hS a2 (by simp); have ha3 := hS a3 (by simp)
  have hb0 := hT b0 (by simp); have hb1 := hT b1 (by simp); have hb2 := hT b2 (by simp); have hb3 := hT b3 (by simp)
  have e0 := sb64_eq ha0.1 ha0.2 hb0.1 hb0.2 (b := 0) (by omega)
  have e1 := sb64_eq ha1.1 ha1.2 hb1.1 hb1.2 (b := sb64c a0 b0 0) (by omega)
  have e2 := sb64_eq ha2.1 ha2.2 hb2.1 hb2.2 (b := sb64c a1 b1 (sb64c a0 b0 0)) (by omega)
  have e3 := sb64_eq ha3.1 ha3.2 hb3.1 hb3.2 (b := sb64c a2 b2 (sb64c a1 b1 (sb64c a0 b0 0))) (by omega)
  show [sb64s a0 b0 0, sb64s a1 b1 (sb64c a0 b0 0), sb64s a2 b2 (sb64c a1 b1 (sb64c a0 b0 0)), sb64s a3 b3 (sb64c a2 b2 (sb64c a1 b1 (sb64c a0 b0 0)))] = _ ∧ sb64c a3 b3 (sb64c a2 b2 (sb64c a1 b1 (sb64c a0 b0 0))) = _
  generalize sb64c a3 b3 (sb64c a2 b2 (sb64c a1 b1 (sb64c a0 b0 0))) = c3 at *
  generalize sb64s a3 b3 (sb64c a2 b2 (sb64c a1 b1 (sb64c a0 b0 0))) = s3 at *
  generalize sb64s a2 b2 (sb64c a1 b1 (sb64c a0 b0 0)) = s2 at *
  generalize sb64c a2 b2 (sb64c a1 b1 (sb64c a0 b0 0)) = c2 at *
  generalize sb64s a1 b1 (sb64c a0 b0 0) = s1 at *
  generalize sb64c a1 b1 (sb64c a0 b0 0) = c1 at *
  generalize sb64s a0 b0 0 = s0 at *
  generalize sb64c a0 b0 0 = c0 at *
  unfold difR lessC V4
  simp only
  clear hS hT lS lT
  constructor
  · refine W4_eq ?_ ⟨e0.2.1, e0.2.2.1⟩ ⟨e1.2.1, e1.2.2.1⟩ ⟨e2.2.1, e2.2.2.1⟩ ⟨e3.2.1, e3.2.2.1⟩
    omega
  · split <;> omega

theorem less_can (S : List Int) (T : List Int) (h0 : (Wds S)) (h1 : (Wds T)) (w : World) : Body Try.prog (tabOf tabNI) Try.f79 ⟨w, [], 0, noEnv⟩ (toA [.g [.ints .u64 (4 : Nat) S], .g [.ints .u64 (4 : Nat) T]]) [] (fun ys _ => ys = [.g [.ints .u64 (4 : Nat) (W4 (difR (V4 S) (V4 T)))], .a (.i .u64 (lessC (V4 S) (V4 T)))]) :=
  Body.lens (c := (Try.f79.body.getD .skip)) rfl fun h => (less_body S T h0 h1 w).mono fun xs K hx => by
    subst hx
    obtain ⟨e1, e2⟩ := less_eq h0 h1 (h.vals 0 _ _ _ rfl) (h.vals 1 _ _ _ rfl)
    rw [e1, e2]
theorem wds_ord : Wds [6346243789798364141, 1503914060200516822, 0, 1152921504606846976] := by
  intro x hx
  simp only [List.mem_cons, List.not_mem_nil, or_false] at hx
  rcases hx with rfl | rfl | rfl | rfl <;> decide
end Go.Proofs.Ytcpoldghkiiggaa.X
