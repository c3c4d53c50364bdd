/- One round of Montgomery's product. -/
import Derived.Test.YtcpoldghkiiggaaNN
namespace Go.Proofs.Ytcpoldghkiiggaa.X
open Go Go.Proofs
set_option linter.unusedVariables false

def mstep (a b0 b1 b2 b3 t0 t1 t2 t3 t4 : Int) : List Int :=
  let u0 := muladd_1 a b0 t0 0
  let c0 := muladd a b0 t0 0
  let u1 := muladd_1 a b1 t1 c0
  let c1 := muladd a b1 t1 c0
  let u2 := muladd_1 a b2 t2 c1
  let c2 := muladd a b2 t2 c1
  let u3 := muladd_1 a b3 t3 c2
  let c3 := muladd a b3 t3 c2
  let s4 := ad64s t4 c3 0
  let s5 := ad64c t4 c3 0
  let m := IntKind.u64.wrap (u0 * 15183074304973897243)
  let d0 := muladd m 6346243789798364141 u0 0
  let v0 := muladd_1 m 1503914060200516822 u1 d0
  let d1 := muladd m 1503914060200516822 u1 d0
  let v1 := muladd_1 m 0 u2 d1
  let d2 := muladd m 0 u2 d1
  let v2 := muladd_1 m 1152921504606846976 u3 d2
  let d3 := muladd m 1152921504606846976 u3 d2
  let v3 := ad64s s4 d3 0
  let v4 := IntKind.u64.wrap (s5 + ad64c s4 d3 0)
  [v0, v1, v2, v3, v4, s5]

def mT (S T : List Int) : Nat → List Int
  | 0 => [0, 0, 0, 0, 0, 0]
  | k + 1 => mstep (S.getD k 0) (T.getD 0 0) (T.getD 1 0) (T.getD 2 0) (T.getD 3 0) ((mT S T k).getD 0 0) ((mT S T k).getD 1 0) ((mT S T k).getD 2 0) ((mT S T k).getD 3 0) ((mT S T k).getD 4 0)
def mTi (S T : List Int) (k i : Nat) : Int := (mT S T k).getD i 0

/-- the round as a number: T' 2^64 = T + a B + m L -/
theorem mstep_eq {a b0 b1 b2 b3 t0 t1 t2 t3 t4 : Int} (ha : 0 ≤ a ∧ a < 18446744073709551616) (hb0 : 0 ≤ b0 ∧ b0 < 18446744073709551616) (hb1 : 0 ≤ b1 ∧ b1 < 18446744073709551616) (hb2 : 0 ≤ b2 ∧ b2 < 18446744073709551616) (hb3 : 0 ≤ b3 ∧ b3 < 18446744073709551616)
    (h0 : 0 ≤ t0 ∧ t0 < 18446744073709551616) (h1 : 0 ≤ t1 ∧ t1 < 18446744073709551616) (h2 : 0 ≤ t2 ∧ t2 < 18446744073709551616) (h3 : 0 ≤ t3 ∧ t3 < 18446744073709551616) (h4 : 0 ≤ t4 ∧ t4 ≤ 1)
    (hB : b0 + 18446744073709551616 * b1 + 340282366920938463463374607431768211456 * b2 + 6277101735386680763835789423207666416102355444464034512896 * b3 < LL)
    (hT : t0 + 18446744073709551616 * t1 + 340282366920938463463374607431768211456 * t2 + 6277101735386680763835789423207666416102355444464034512896 * t3 + 115792089237316195423570985008687907853269984665640564039457584007913129639936 * t4 < 2 * LL) :
    ∃ v0 v1 v2 v3 v4 s5 m : Int, mstep a b0 b1 b2 b3 t0 t1 t2 t3 t4 = [v0, v1, v2, v3, v4, s5] ∧ (0 ≤ v0 ∧ v0 < 18446744073709551616) ∧ (0 ≤ v1 ∧ v1 < 18446744073709551616) ∧ (0 ≤ v2 ∧ v2 < 18446744073709551616) ∧ (0 ≤ v3 ∧ v3 < 18446744073709551616) ∧ (0 ≤ v4 ∧ v4 ≤ 1) ∧
      18446744073709551616 * (v0 + 18446744073709551616 * v1 + 340282366920938463463374607431768211456 * v2 + 6277101735386680763835789423207666416102355444464034512896 * v3 + 115792089237316195423570985008687907853269984665640564039457584007913129639936 * v4) =
        t0 + 18446744073709551616 * t1 + 340282366920938463463374607431768211456 * t2 + 6277101735386680763835789423207666416102355444464034512896 * t3 + 115792089237316195423570985008687907853269984665640564039457584007913129639936 * t4 + a * (b0 + 18446744073709551616 * b1 + 340282366920938463463374607431768211456 * b2 + 6277101735386680763835789423207666416102355444464034512896 * b3) + m * LL ∧
      v0 + 18446744073709551616 * v1 + 340282366920938463463374607431768211456 * v2 + 6277101735386680763835789423207666416102355444464034512896 * v3 + 115792089237316195423570985008687907853269984665640564039457584007913129639936 * v4 < 2 * LL := by
  have hz : (0 : Int) ≤ 0 ∧ (0 : Int) < 18446744073709551616 := by omega
  have e0 := muladd_eq ha.1 ha.2 hb0.1 hb0.2 h0.1 h0.2 hz.1 hz.2
  have e1 := muladd_eq ha.1 ha.2 hb1.1 hb1.2 h1.1 h1.2 e0.2.1 e0.2.2.1
  have e2 := muladd_eq ha.1 ha.2 hb2.1 hb2.2 h2.1 h2.2 e1.2.1 e1.2.2.1
  have e3 := muladd_eq ha.1 ha.2 hb3.1 hb3.2 h3.1 h3.2 e2.2.1 e2.2.2.1
  have hm : 0 ≤ IntKind.u64.wrap (muladd_1 a b0 t0 0 * 15183074304973897243) ∧ IntKind.u64.wrap (muladd_1 a b0 t0 0 * 15183074304973897243) < 18446744073709551616 := by rw [wrap64]; omega
  have f0 := muladd_eq hm.1 hm.2 (y := 6346243789798364141) (by omega) (by omega) e0.2.2.2.1 e0.2.2.2.2 hz.1 hz.2
  have f1 := muladd_eq hm.1 hm.2 (y := 1503914060200516822) (by omega) (by omega) e1.2.2.2.1 e1.2.2.2.2 f0.2.1 f0.2.2.1
  have f2 := muladd_eq hm.1 hm.2 (y := 0) (by omega) (by omega) e2.2.2.2.1 e2.2.2.2.2 f1.2.1 f1.2.2.1
  have f3 := muladd_eq hm.1 hm.2 (y := 1152921504606846976) (by omega) (by omega) e3.2.2.2.1 e3.2.2.2.2 f2.2.1 f2.2.2.1
  have hmm := wrap64 (muladd_1 a b0 t0 0 * 15183074304973897243)
  have e := show mstep a b0 b1 b2 b3 t0 t1 t2 t3 t4 = _ from rfl
  refine ⟨_, _, _, _, _, _, IntKind.u64.wrap (muladd_1 a b0 t0 0 * 15183074304973897243), e, ?_⟩
  have hAB : a * (b0 + 18446744073709551616 * b1 + 340282366920938463463374607431768211456 * b2 + 6277101735386680763835789423207666416102355444464034512896 * b3) = a * b0 + 18446744073709551616 * (a * b1) + 340282366920938463463374607431768211456 * (a * b2) + 6277101735386680763835789423207666416102355444464034512896 * (a * b3) := by
    rw [Int.mul_add, Int.mul_add, Int.mul_add, Int.mul_left_comm a, Int.mul_left_comm a, Int.mul_left_comm a]
  have hAB2 : a * (b0 + 18446744073709551616 * b1 + 340282366920938463463374607431768211456 * b2 + 6277101735386680763835789423207666416102355444464034512896 * b3) ≤ 18446744073709551615 * (b0 + 18446744073709551616 * b1 + 340282366920938463463374607431768211456 * b2 + 6277101735386680763835789423207666416102355444464034512896 * b3) :=
    Int.mul_le_mul_of_nonneg_right (by omega) (by omega)
  clear e
  rw [hAB] at hAB2
  rw [hAB]
  generalize a * b0 = p0 at *
  generalize a * b1 = p1 at *
  generalize a * b2 = p2 at *
  generalize a * b3 = p3 at *
  generalize muladd a b3 t3 (muladd a b2 t2 (muladd a b1 t1 (muladd a b0 t0 0))) = c3 at *
  generalize muladd_1 a b3 t3 (muladd a b2 t2 (muladd a b1 t1 (muladd a b0 t0 0))) = u3 at *
  generalize muladd_1 a b2 t2 (muladd a b1 t1 (muladd a b0 t0 0)) = u2 at *
  generalize muladd a b2 t2 (muladd a b1 t1 (muladd a b0 t0 0)) = c2 at *
  generalize muladd_1 a b1 t1 (muladd a b0 t0 0) = u1 at *
  generalize muladd a b1 t1 (muladd a b0 t0 0) = c1 at *
  generalize muladd_1 a b0 t0 0 = u0 at *
  generalize muladd a b0 t0 0 = c0 at *
  generalize IntKind.u64.wrap (u0 * 15183074304973897243) = m at *
  generalize muladd m 1152921504606846976 u3 (muladd m 0 u2 (muladd m 1503914060200516822 u1 (muladd m 6346243789798364141 u0 0))) = d3 at *
  generalize muladd_1 m 1152921504606846976 u3 (muladd m 0 u2 (muladd m 1503914060200516822 u1 (muladd m 6346243789798364141 u0 0))) = v2 at *
  generalize muladd_1 m 0 u2 (muladd m 1503914060200516822 u1 (muladd m 6346243789798364141 u0 0)) = v1 at *
  generalize muladd m 0 u2 (muladd m 1503914060200516822 u1 (muladd m 6346243789798364141 u0 0)) = d2 at *
  generalize muladd_1 m 1503914060200516822 u1 (muladd m 6346243789798364141 u0 0) = v0 at *
  generalize muladd m 1503914060200516822 u1 (muladd m 6346243789798364141 u0 0) = d1 at *
  generalize muladd_1 m 6346243789798364141 u0 0 = z at *
  generalize muladd m 6346243789798364141 u0 0 = d0 at *
  have hs : ad64s (ad64s t4 c3 0) d3 0 + 18446744073709551616 * (ad64c t4 c3 0 + ad64c (ad64s t4 c3 0) d3 0) = t4 + c3 + d3 ∧ 0 ≤ ad64s (ad64s t4 c3 0) d3 0 ∧ ad64s (ad64s t4 c3 0) d3 0 < 18446744073709551616 ∧ 0 ≤ ad64c t4 c3 0 + ad64c (ad64s t4 c3 0) d3 0 ∧ ad64c t4 c3 0 + ad64c (ad64s t4 c3 0) d3 0 ≤ 2 := by
    unfold ad64s ad64c; omega
  have hw : IntKind.u64.wrap (ad64c t4 c3 0 + ad64c (ad64s t4 c3 0) d3 0) = ad64c t4 c3 0 + ad64c (ad64s t4 c3 0) d3 0 := by rw [wrap64]; omega
  rw [hw]
  generalize ad64s (ad64s t4 c3 0) d3 0 = v3 at *
  generalize ad64c t4 c3 0 + ad64c (ad64s t4 c3 0) d3 0 = v4 at *
  have hz0 : z = 0 := by omega
  subst hz0
  unfold LL at *
  have key : 18446744073709551616 * (v0 + 18446744073709551616 * v1 + 340282366920938463463374607431768211456 * v2 + 6277101735386680763835789423207666416102355444464034512896 * v3 + 115792089237316195423570985008687907853269984665640564039457584007913129639936 * v4) =
        t0 + 18446744073709551616 * t1 + 340282366920938463463374607431768211456 * t2 + 6277101735386680763835789423207666416102355444464034512896 * t3 + 115792089237316195423570985008687907853269984665640564039457584007913129639936 * t4 + (p0 + 18446744073709551616 * p1 + 340282366920938463463374607431768211456 * p2 + 6277101735386680763835789423207666416102355444464034512896 * p3) + m * 7237005577332262213973186563042994240857116359379907606001950938285454250989 := by
    omega
  refine ⟨⟨f1.2.2.2.1, f1.2.2.2.2⟩, ⟨f2.2.2.2.1, f2.2.2.2.2⟩, ⟨f3.2.2.2.1, f3.2.2.2.2⟩, ⟨hs.2.1, hs.2.2.1⟩, ?_, key, ?_⟩
  · omega
  · omega
end Go.Proofs.Ytcpoldghkiiggaa.X
