/- Montgomery's product and the value of 32 bytes, as numbers. -/
import Derived.Test.YtcpoldghkiiggaaNO
namespace Go.Proofs.Ytcpoldghkiiggaa.X
open Go Go.Proofs
set_option linter.unusedVariables false

def montV (a b : Int) : Int := a * b * RI % LL
def LtL (T : List Int) : Prop := V4 T < LL

theorem mT_fin {S T : List Int} (hS : Wds S) (hT : Wds T) (lS : S.length = 4) (lT : T.length = 4) (hB : LtL T) :
    Wds [mTi S T 4 0, mTi S T 4 1, mTi S T 4 2, mTi S T 4 3] ∧ ∃ M : Int, 115792089237316195423570985008687907853269984665640564039457584007913129639936 * V4 [mTi S T 4 0, mTi S T 4 1, mTi S T 4 2, mTi S T 4 3] = V4 S * V4 T + M * LL ∧ V4 [mTi S T 4 0, mTi S T 4 1, mTi S T 4 2, mTi S T 4 3] < 2 * LL := by
  obtain ⟨a0, a1, a2, a3, rfl⟩ := four lS
  obtain ⟨b0, b1, b2, b3, rfl⟩ := four lT
  have ha0 := hS a0 (by simp); have ha1 := hS a1 (by simp); have ha2 := hS a2 (by simp); have ha3 := hS a3 (by simp)
  have hb0 := hT b0 (by simp); have hb1 := hT b1 (by simp); have hb2 := hT b2 (by simp); have hb3 := hT b3 (by simp)
  have hB' : b0 + 18446744073709551616 * b1 + 340282366920938463463374607431768211456 * b2 + 6277101735386680763835789423207666416102355444464034512896 * b3 < LL := hB
  have z : (0 : Int) ≤ 0 ∧ (0 : Int) < 18446744073709551616 := by omega
  obtain ⟨v0, v1, v2, v3, v4, v5, m0, e1, r0, r1, r2, r3, r4, q1, l1⟩ := mstep_eq ha0 hb0 hb1 hb2 hb3 z z z z (t4 := 0) (by omega) hB' (by unfold LL; omega)
  have g1 : mT [a0, a1, a2, a3] [b0, b1, b2, b3] 1 = [v0, v1, v2, v3, v4, v5] := e1
  obtain ⟨x0, x1, x2, x3, x4, x5, m1, e2, s0, s1, s2, s3, s4, q2, l2⟩ := mstep_eq ha1 hb0 hb1 hb2 hb3 r0 r1 r2 r3 r4 hB' l1
  have g2 : mT [a0, a1, a2, a3] [b0, b1, b2, b3] 2 = [x0, x1, x2, x3, x4, x5] := by
    show mstep a1 b0 b1 b2 b3 ((mT _ _ 1).getD 0 0) ((mT _ _ 1).getD 1 0) ((mT _ _ 1).getD 2 0) ((mT _ _ 1).getD 3 0) ((mT _ _ 1).getD 4 0) = _
    rw [g1]; exact e2
  obtain ⟨y0, y1, y2, y3, y4, y5, m2, e3, t0, t1, t2, t3, t4, q3, l3⟩ := mstep_eq ha2 hb0 hb1 hb2 hb3 s0 s1 s2 s3 s4 hB' l2
  have g3 : mT [a0, a1, a2, a3] [b0, b1, b2, b3] 3 = [y0, y1, y2, y3, y4, y5] := by
    show mstep a2 b0 b1 b2 b3 ((mT _ _ 2).getD 0 0) ((mT _ _ 2).getD 1 0) ((mT _ _ 2).getD 2 0) ((mT _ _ 2).getD 3 0) ((mT _ _ 2).getD 4 0) = _
    rw [g2]; exact e3
  obtain ⟨w0, w1, w2, w3, w4, w5, m3, e4, u0, u1, u2, u3, u4, q4, l4⟩ := mstep_eq ha3 hb0 hb1 hb2 hb3 t0 t1 t2 t3 t4 hB' l3
  have g4 : mT [a0, a1, a2, a3] [b0, b1, b2, b3] 4 = [w0, w1, w2, w3, w4, w5] := by
    show mstep a3 b0 b1 b2 b3 ((mT _ _ 3).getD 0 0) ((mT _ _ 3).getD 1 0) ((mT _ _ 3).getD 2 0) ((mT _ _ 3).getD 3 0) ((mT _ _ 3).getD 4 0) = _
    rw [g3]; exact e4
  have i0 : mTi [a0, a1, a2, a3] [b0, b1, b2, b3] 4 0 = w0 := by unfold mTi; rw [g4]; rfl
  have i1 : mTi [a0, a1, a2, a3] [b0, b1, b2, b3] 4 1 = w1 := by unfold mTi; rw [g4]; rfl
  have i2 : mTi [a0, a1, a2, a3] [b0, b1, b2, b3] 4 2 = w2 := by unfold mTi; rw [g4]; rfl
  have i3 : mTi [a0, a1, a2, a3] [b0, b1, b2, b3] 4 3 = w3 := by unfold mTi; rw [g4]; rfl
  rw [i0, i1, i2, i3]
  refine ⟨wds_four u0 u1 u2 u3, m0 + 18446744073709551616 * m1 + 340282366920938463463374607431768211456 * m2 + 6277101735386680763835789423207666416102355444464034512896 * m3, ?_, ?_⟩
  · have hw4 : w4 = 0 := by unfold LL at l4; omega
    subst hw4
    have hAB : V4 [a0, a1, a2, a3] * V4 [b0, b1, b2, b3] = a0 * V4 [b0, b1, b2, b3] + 18446744073709551616 * (a1 * V4 [b0, b1, b2, b3]) + 340282366920938463463374607431768211456 * (a2 * V4 [b0, b1, b2, b3]) + 6277101735386680763835789423207666416102355444464034512896 * (a3 * V4 [b0, b1, b2, b3]) := by
      show (a0 + 18446744073709551616 * a1 + 340282366920938463463374607431768211456 * a2 + 6277101735386680763835789423207666416102355444464034512896 * a3) * V4 [b0, b1, b2, b3] = _
      rw [Int.add_mul, Int.add_mul, Int.add_mul, Int.mul_assoc, Int.mul_assoc, Int.mul_assoc]
    rw [hAB]
    have hV : b0 + 18446744073709551616 * b1 + 340282366920938463463374607431768211456 * b2 + 6277101735386680763835789423207666416102355444464034512896 * b3 = V4 [b0, b1, b2, b3] := rfl
    rw [hV] at q1 q2 q3 q4
    generalize V4 [b0, b1, b2, b3] = B at *
    generalize a0 * B = p0 at *
    generalize a1 * B = p1 at *
    generalize a2 * B = p2 at *
    generalize a3 * B = p3 at *
    show 115792089237316195423570985008687907853269984665640564039457584007913129639936 * (w0 + 18446744073709551616 * w1 + 340282366920938463463374607431768211456 * w2 + 6277101735386680763835789423207666416102355444464034512896 * w3) = _
    unfold LL at *
    clear g1 g2 g3 g4 e1 e2 e3 e4 i0 i1 i2 i3 hS hT lS lT hB hAB hV hB'
    omega
  · have hw4 : w4 = 0 := by unfold LL at l4; omega
    subst hw4
    show w0 + 18446744073709551616 * w1 + 340282366920938463463374607431768211456 * w2 + 6277101735386680763835789423207666416102355444464034512896 * w3 < 2 * LL
    omega

theorem low_mod {v : Int} (h0 : 0 ≤ v) (h1 : v < 2 * LL) : low v = v % LL := by
  unfold low LL at *
  split <;> omega

theorem mont_can (S : List Int) (T : List Int) (h0 : (Wds S)) (h1 : (Wds T)) (h2 : LtL T) (w : World) : Body Try.prog (tabOf tabNO) Try.f103 ⟨w, [], 0, noEnv⟩ (toA [.g [.ints .u64 (4 : Nat) S], .g [.ints .u64 (4 : Nat) T]]) [] (fun ys _ => ys = [.g [.ints .u64 (4 : Nat) (W4 (montV (V4 S) (V4 T)))]]) :=
  Body.lens (c := (Try.f103.body.getD .skip)) rfl fun h => by
    have lS := h.vals 0 _ _ _ rfl
    have lT := h.vals 1 _ _ _ rfl
    obtain ⟨hr, M, e, hlt⟩ := mT_fin h0 h1 lS lT h2
    refine (montA_body0 S T h0 h1 lS lT hr w).mono fun xs K hx => ?_
    subst hx
    have e2 : montA S T = W4 (montV (V4 S) (V4 T)) := by
      show W4 (low (V4 [mTi S T 4 0, mTi S T 4 1, mTi S T 4 2, mTi S T 4 3])) = _
      rw [low_mod (V4_rng hr rfl).1 hlt, mont_num e]; rfl
    rw [e2]

def lowI (v : Int) : Nat → Int
  | 0 => v
  | k + 1 => low (lowI v k)
def lowC (v : Int) : Nat → List Int
  | 0 => W4 v
  | k + 1 => W4 (low (V4 (lowC v k)))

theorem lowI_ok {v : Int} (h0 : 0 ≤ v) (h1 : v < 115792089237316195423570985008687907853269984665640564039457584007913129639936) : ∀ k, 0 ≤ lowI v k ∧ lowI v k < 115792089237316195423570985008687907853269984665640564039457584007913129639936 ∧ lowI v k % LL = v % LL ∧ (lowI v k < LL ∨ lowI v k = v - ((k : Nat) : Int) * LL)
  | 0 => ⟨h0, h1, rfl, .inr (by show v = v - (0 : Int) * LL; omega)⟩
  | k + 1 => by
    obtain ⟨a, b, c, d⟩ := lowI_ok h0 h1 k
    have r := low_rng a b
    refine ⟨r.1, r.2, ?_, ?_⟩
    · rw [← c]; show low (lowI v k) % LL = _
      unfold low
      split
      · rw [show lowI v k - LL = lowI v k + LL * (-1) by omega, Int.add_mul_emod_self_left]
      · rfl
    · show low (lowI v k) < LL ∨ low (lowI v k) = _
      unfold low LL at *
      split <;> omega

theorem lowC_eq {v : Int} (h0 : 0 ≤ v) (h1 : v < 115792089237316195423570985008687907853269984665640564039457584007913129639936) : ∀ k, lowC v k = W4 (lowI v k)
  | 0 => rfl
  | k + 1 => by
    obtain ⟨a, b, _⟩ := lowI_ok h0 h1 k
    show W4 (low (V4 (lowC v k))) = W4 (low (lowI v k))
    rw [lowC_eq h0 h1 k, V4_W4 a b]

theorem low16 {v : Int} (h0 : 0 ≤ v) (h1 : v < 115792089237316195423570985008687907853269984665640564039457584007913129639936) : lowI v 16 = v % LL := by
  obtain ⟨a, b, c, d⟩ := lowI_ok h0 h1 16
  unfold LL at *
  rcases d with d | d <;> omega

theorem val_can (s : List Int) (h0 : Byt s) (w : World) : Body Try.prog (tabOf tabNO) Try.f75 ⟨w, [], 0, noEnv⟩ (toA [.g [.ints .u8 (32 : Nat) s]]) [] (fun ys _ => ys = [.g [.ints .u64 (4 : Nat) (W4 (BV s % LL))]]) :=
  Body.lens (c := (Try.f75.body.getD .skip)) rfl fun h => (valA_body0 s h0 (h.vals 0 _ _ _ rfl) w).mono fun xs K hx => by
    subst hx
    have r := BV_rng h0
    have e : valA s = W4 (BV s % LL) := by
      have e1 : valA s = lowC (BV s) 16 := rfl
      rw [e1, lowC_eq r.1 r.2, low16 r.1 r.2]
    rw [e]
end Go.Proofs.Ytcpoldghkiiggaa.X
