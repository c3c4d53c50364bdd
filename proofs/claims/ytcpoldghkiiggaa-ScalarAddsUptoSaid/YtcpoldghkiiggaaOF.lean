/- Neg, Add of the reference and Compare of the program: bodies by numbers. -/
import Derived.Test.YtcpoldghkiiggaaOE
namespace Go.Proofs.Ytcpoldghkiiggaa.X
open Go Go.Proofs
set_option linter.unusedVariables false

theorem addR_can (a b : List Int) (h0 : Byt a) (h1 : Byt b) (w : World) : Body Try.prog (tabOf tabOD) Try.f27 ⟨w, [], 0, noEnv⟩ (toA [.g [.ints .u8 (32 : Nat) a], .g [.ints .u8 (32 : Nat) b]]) [] (fun ys _ => ys = [.g [.ints .u8 (32 : Nat) (B32 (modL (BV a + BV b)))]]) :=
  Body.lens (c := (Try.f27.body.getD .skip)) rfl fun h => (addR__body0 a b h0 h1 (h.vals 0 _ _ _ rfl) (h.vals 1 _ _ _ rfl) w).mono fun xs K hx => by
    subst hx; rw [addR_eq]

theorem B32_0 : B32 0 = [0, 0, 0, 0, 0, 0, 0, 0, 0, 0, 0, 0, 0, 0, 0, 0, 0, 0, 0, 0, 0, 0, 0, 0, 0, 0, 0, 0, 0, 0, 0, 0] := by decide +kernel

theorem negR_can (a : List Int) (h0 : Byt a) (w : World) : Body Try.prog (tabOf tabOD) Try.f31 ⟨w, [], 0, noEnv⟩ (toA [.g [.ints .u8 (32 : Nat) a]]) [] (fun ys _ => ys = [.g [.ints .u8 (32 : Nat) (B32 (modL (-(BV a))))]]) :=
  Body.lens (c := (Try.f31.body.getD .skip)) rfl fun h => by
    have hl := h.vals 0 _ _ _ rfl
    by_cases hc : W8 (modL (BV a)) = [0, 0, 0, 0, 0, 0, 0, 0]
    · refine (negRA_body0 a h0 hl hc w).mono fun xs K hx => ?_
      subst hx
      have e : modL (-(BV a)) = 0 := by
        rw [← negL_eq, (W8_zero (modL_rng _).1 (modL_rng _).2.2).1 hc]; rfl
      rw [e, B32_0]
    · refine (negRB_body0 a h0 hl hc w).mono fun xs K hx => ?_
      subst hx
      rw [negRB_eq hc]

def negI (x : Int) : Int := -x
def cmpV (x y : Int) : Int := if x = y then 0 else if x < y then -1 else 1

theorem cmpP_can (a b : List Int) (h0 : Byt a) (h1 : Byt b) (w : World) : Body Try.prog (tabOf tabNT) Try.f38 ⟨w, [], 0, noEnv⟩ (toA [.g [.ints .u8 (32 : Nat) a], .g [.ints .u8 (32 : Nat) b]]) [] (fun ys _ => ys = [.a (.i .i64 (cmpV (modL (BV a)) (modL (BV b))))]) :=
  Body.lens (c := (Try.f38.body.getD .skip)) rfl fun h => by
    have la := h.vals 0 _ _ _ rfl
    have lb := h.vals 1 _ _ _ rfl
    by_cases hc : W4 (modL (BV a)) = W4 (modL (BV b))
    · refine (cmpA_body0 a b h0 h1 la lb hc w).mono fun xs K hx => ?_
      subst hx
      have e : modL (BV a) = modL (BV b) := by rw [← V4_modL (BV a), hc, V4_modL]
      have e2 : cmpV (modL (BV a)) (modL (BV b)) = 0 := by unfold cmpV; rw [if_pos e]
      rw [e2]
    · have hne : modL (BV a) ≠ modL (BV b) := fun e => hc (by rw [e])
      by_cases hd : lessC (V4 (W4 (modL (BV a)))) (V4 (W4 (modL (BV b)))) = 1
      · refine (cmpB_body0 a b h0 h1 la lb hc hd w).mono fun xs K hx => ?_
        subst hx
        rw [V4_modL, V4_modL] at hd
        have e2 : cmpV (modL (BV a)) (modL (BV b)) = -1 := by
          unfold lessC at hd
          unfold cmpV
          rw [if_neg hne]
          split at hd
          · rename_i hlt; rw [if_pos hlt]
          · cases hd
        rw [e2]
      · refine (cmpC_body0 a b h0 h1 la lb hc hd w).mono fun xs K hx => ?_
        subst hx
        rw [V4_modL, V4_modL] at hd
        have e2 : cmpV (modL (BV a)) (modL (BV b)) = 1 := by
          unfold lessC at hd
          unfold cmpV
          rw [if_neg hne]
          split at hd
          · exact absurd rfl hd
          · rename_i hlt; rw [if_neg hlt]
        rw [e2]
end Go.Proofs.Ytcpoldghkiiggaa.X
