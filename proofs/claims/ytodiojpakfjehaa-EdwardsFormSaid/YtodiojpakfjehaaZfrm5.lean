/- Texts of this session, put together (part 5), less what nothing uses. -/
import Derived.Test.YtodiojpakfjehaaZfrm4
import Derived.KernelRfl
import Derived.WalkKit
import Derived.ProofKit
import Derived.OpenShut
import Derived.JoinedCond
import Derived.Carry
import Derived.Test.YtodiojpakfjehaaRows
/- Printed by a tool of this session. -/
namespace Go.Proofs.Ytodiojpakfjehaa.X
open Go Go.Proofs
set_option linter.unusedVariables false
set_option linter.unusedSimpArgs false
set_option maxRecDepth 100000
theorem teVO_5 : TEOk Try.prog 5 ⟨.int .u8, 1, 1, [.i .u8 (0 : Int)], false⟩ :=
  TEOk.of Try.underlying5 (i := Try.t5) (by kernel_rfl) rfl rfl rfl (by kernel_rfl) (fun h => by cases h) (by kernel_rfl)
theorem teVO_23 : TEOk Try.prog 23 ⟨.array 32 5, 32, 32, [.ints .u8 (32 : Nat) ([0, 0, 0, 0, 0, 0, 0, 0, 0, 0, 0, 0, 0, 0, 0, 0, 0, 0, 0, 0, 0, 0, 0, 0, 0, 0, 0, 0, 0, 0, 0, 0] : List Int)], true⟩ :=
  TEOk.of Try.underlying23 (i := Try.t23) (by kernel_rfl) rfl rfl rfl (by kernel_rfl) (fun _ => Try.eqGuardType23) (by kernel_rfl)
theorem teVO_32 : TEOk Try.prog 32 ⟨.slice 5, 1, 24, [.raw (.slice none 0 0)], false⟩ :=
  TEOk.of Try.underlying32 (i := Try.t32) (by kernel_rfl) rfl rfl rfl (by kernel_rfl) (fun h => by cases h) (by kernel_rfl)
theorem teVO_37 : TEOk Try.prog 37 ⟨.array 32 5, 32, 32, [.ints .u8 (32 : Nat) ([0, 0, 0, 0, 0, 0, 0, 0, 0, 0, 0, 0, 0, 0, 0, 0, 0, 0, 0, 0, 0, 0, 0, 0, 0, 0, 0, 0, 0, 0, 0, 0] : List Int)], true⟩ :=
  TEOk.of Try.underlying37 (i := Try.t37) (by kernel_rfl) rfl rfl rfl (by kernel_rfl) (fun _ => Try.eqGuardType37) (by kernel_rfl)
theorem teVO_45 : TEOk Try.prog 45 ⟨.slice 23, 1, 24, [.raw (.slice none 0 0)], false⟩ :=
  TEOk.of Try.underlying45 (i := Try.t45) (by kernel_rfl) rfl rfl rfl (by kernel_rfl) (fun h => by cases h) (by kernel_rfl)
noncomputable def tabVO : List (Nat × TE) := [(5, ⟨.int .u8, 1, 1, [.i .u8 (0 : Int)], false⟩), (23, ⟨.array 32 5, 32, 32, [.ints .u8 (32 : Nat) ([0, 0, 0, 0, 0, 0, 0, 0, 0, 0, 0, 0, 0, 0, 0, 0, 0, 0, 0, 0, 0, 0, 0, 0, 0, 0, 0, 0, 0, 0, 0, 0] : List Int)], true⟩), (32, ⟨.slice 5, 1, 24, [.raw (.slice none 0 0)], false⟩), (37, ⟨.array 32 5, 32, 32, [.ints .u8 (32 : Nat) ([0, 0, 0, 0, 0, 0, 0, 0, 0, 0, 0, 0, 0, 0, 0, 0, 0, 0, 0, 0, 0, 0, 0, 0, 0, 0, 0, 0, 0, 0, 0, 0] : List Int)], true⟩), (45, ⟨.slice 23, 1, 24, [.raw (.slice none 0 0)], false⟩)]
theorem tabOkVO : TabOk Try.prog (tabOf tabVO) := (tabOf_cons teVO_5 (tabOf_cons teVO_23 (tabOf_cons teVO_32 (tabOf_cons teVO_37 (tabOf_cons teVO_45 tabOf_nil)))))

set_option maxHeartbeats 1000000 in
theorem works_body0 (w : World) : Body Try.prog (tabOf tabVO) Try.f10 ⟨w, [], 0, noEnv⟩ (toA []) [] (fun ys _ => ys = [.a (.b true)]) :=
  Body.of_fin (Γ := gam61) (Λ := noLam) (Ψ := noPsi) (fuel := 0) (m := 63) (c := (Try.f10.body.getD .skip)) mix tabOkVO gam61_ok rfl (rs := [.tmp 0]) rfl rfl [true, true, true, true, true, true, true, true, true, true, true, true, true, true, true, true, true, true, true, true, true, true, true, true, true, true, true] [.eqS 0 (.o (.a (.b true)))]
    (vc := [((.o (.a (.b ((apCheck ([2, 0, 0, 0, 0, 0, 0, 0, 0, 0, 0, 0, 0, 0, 0, 0, 0, 0, 0, 0, 0, 0, 0, 0, 0, 0, 0, 0, 0, 0, 0, 0] : List Int)) == (41 : Int)))) : AV) = .o (.a (.b true))), (true = true), (true = true), (true = true), (true = true), (((apPrime_1 ([0, 0, 0, 0, 0, 0, 0, 0, 0, 0, 0, 0, 0, 0, 0, 0, 0, 0, 0, 0, 0, 0, 0, 0, 0, 0, 0, 0, 0, 0, 0, 0] : List Int)) == (0 : Int)) = true), (((apPrime_1 ([0, 0, 0, 0, 0, 0, 0, 0, 0, 0, 0, 0, 0, 0, 0, 0, 0, 0, 0, 0, 0, 0, 0, 0, 0, 0, 0, 0, 0, 0, 0, 0] : List Int)) == (0 : Int)) = true), (((apPrime_1 ([0, 0, 0, 0, 0, 0, 0, 0, 0, 0, 0, 0, 0, 0, 0, 0, 0, 0, 0, 0, 0, 0, 0, 0, 0, 0, 0, 0, 0, 0, 0, 0] : List Int)) == (0 : Int)) = true), (((apPrime_1 ([0, 0, 0, 0, 0, 0, 0, 0, 0, 0, 0, 0, 0, 0, 0, 0, 0, 0, 0, 0, 0, 0, 0, 0, 0, 0, 0, 0, 0, 0, 0, 0] : List Int)) == (0 : Int)) = true), ((!(apPrime ([0, 0, 0, 0, 0, 0, 0, 0, 0, 0, 0, 0, 0, 0, 0, 0, 0, 0, 0, 0, 0, 0, 0, 0, 0, 0, 0, 0, 0, 0, 0, 0] : List Int))) = true), ((!(apPrime ([0, 0, 0, 0, 0, 0, 0, 0, 0, 0, 0, 0, 0, 0, 0, 0, 0, 0, 0, 0, 0, 0, 0, 0, 0, 0, 0, 0, 0, 0, 0, 0] : List Int))) = true), ((!(apPrime ([0, 0, 0, 0, 0, 0, 0, 0, 0, 0, 0, 0, 0, 0, 0, 0, 0, 0, 0, 0, 0, 0, 0, 0, 0, 0, 0, 0, 0, 0, 0, 0] : List Int))) = true), ((!(apPrime ([0, 0, 0, 0, 0, 0, 0, 0, 0, 0, 0, 0, 0, 0, 0, 0, 0, 0, 0, 0, 0, 0, 0, 0, 0, 0, 0, 0, 0, 0, 0, 0] : List Int))) = true), (((apAdd_1 (apBase) (apBase)) == (0 : Int)) = true), (((apAdd_1 (apBase) (apBase)) == (0 : Int)) = true), (((apAdd_1 (apBase) (apBase)) == (0 : Int)) = true), ((decide ((apAdd (apBase) (apBase)) = (apMulB ([2, 0, 0, 0, 0, 0, 0, 0, 0, 0, 0, 0, 0, 0, 0, 0, 0, 0, 0, 0, 0, 0, 0, 0, 0, 0, 0, 0, 0, 0, 0, 0] : List Int)))) = true), ((decide ((apAdd (apBase) (apBase)) = (apMulB ([2, 0, 0, 0, 0, 0, 0, 0, 0, 0, 0, 0, 0, 0, 0, 0, 0, 0, 0, 0, 0, 0, 0, 0, 0, 0, 0, 0, 0, 0, 0, 0] : List Int)))) = true), ((decide ((apAdd (apBase) (apBase)) = (apMulB ([2, 0, 0, 0, 0, 0, 0, 0, 0, 0, 0, 0, 0, 0, 0, 0, 0, 0, 0, 0, 0, 0, 0, 0, 0, 0, 0, 0, 0, 0, 0, 0] : List Int)))) = true), ((decide ((apAdd (apBase) (apBase)) = (apMulB ([2, 0, 0, 0, 0, 0, 0, 0, 0, 0, 0, 0, 0, 0, 0, 0, 0, 0, 0, 0, 0, 0, 0, 0, 0, 0, 0, 0, 0, 0, 0, 0] : List Int)))) = true), (((List.getD (sub (apMulB ([2, 0, 0, 0, 0, 0, 0, 0, 0, 0, 0, 0, 0, 0, 0, 0, 0, 0, 0, 0, 0, 0, 0, 0, 0, 0, 0, 0, 0, 0, 0, 0] : List Int)) (31 : Nat) (1 : Nat)) (0 : Nat) 0) == (34 : Int)) = true), (((List.getD (sub (apMulB ([2, 0, 0, 0, 0, 0, 0, 0, 0, 0, 0, 0, 0, 0, 0, 0, 0, 0, 0, 0, 0, 0, 0, 0, 0, 0, 0, 0, 0, 0, 0, 0] : List Int)) (31 : Nat) (1 : Nat)) (0 : Nat) 0) == (34 : Int)) = true), (((List.getD (sub (apMulB ([2, 0, 0, 0, 0, 0, 0, 0, 0, 0, 0, 0, 0, 0, 0, 0, 0, 0, 0, 0, 0, 0, 0, 0, 0, 0, 0, 0, 0, 0, 0, 0] : List Int)) (31 : Nat) (1 : Nat)) (0 : Nat) 0) == (34 : Int)) = true), (((List.getD (sub (apMulB ([2, 0, 0, 0, 0, 0, 0, 0, 0, 0, 0, 0, 0, 0, 0, 0, 0, 0, 0, 0, 0, 0, 0, 0, 0, 0, 0, 0, 0, 0, 0, 0] : List Int)) (31 : Nat) (1 : Nat)) (0 : Nat) 0) == (34 : Int)) = true), (((List.getD (sub (apMulB ([2, 0, 0, 0, 0, 0, 0, 0, 0, 0, 0, 0, 0, 0, 0, 0, 0, 0, 0, 0, 0, 0, 0, 0, 0, 0, 0, 0, 0, 0, 0, 0] : List Int)) (0 : Nat) (1 : Nat)) (0 : Nat) 0) == (201 : Int)) = true), (((List.getD (sub (apMulB ([2, 0, 0, 0, 0, 0, 0, 0, 0, 0, 0, 0, 0, 0, 0, 0, 0, 0, 0, 0, 0, 0, 0, 0, 0, 0, 0, 0, 0, 0, 0, 0] : List Int)) (0 : Nat) (1 : Nat)) (0 : Nat) 0) == (201 : Int)) = true), (((List.getD (sub (apMulB ([2, 0, 0, 0, 0, 0, 0, 0, 0, 0, 0, 0, 0, 0, 0, 0, 0, 0, 0, 0, 0, 0, 0, 0, 0, 0, 0, 0, 0, 0, 0, 0] : List Int)) (0 : Nat) (1 : Nat)) (0 : Nat) 0) == (201 : Int)) = true), (((List.getD (sub (apMulB ([2, 0, 0, 0, 0, 0, 0, 0, 0, 0, 0, 0, 0, 0, 0, 0, 0, 0, 0, 0, 0, 0, 0, 0, 0, 0, 0, 0, 0, 0, 0, 0] : List Int)) (0 : Nat) (1 : Nat)) (0 : Nat) 0) == (201 : Int)) = true), ((((1 : Nat) ≤ (1 : Nat)) ∧ True) ∧ (((1 : Nat) = (1 : Nat)) ∧ ((1 : Nat) ≠ (32 : Nat))))]) (by kernel_rfl)
    (AllP_cons ((congrArg (fun z => AV.o (.a (.b z))) (beq_iff_eq.2 wk_chk))) (AllP_cons rfl (AllP_cons rfl (AllP_cons rfl (AllP_cons rfl (AllP_cons (beq_iff_eq.2 wk_prime.2) (AllP_cons (beq_iff_eq.2 wk_prime.2) (AllP_cons (beq_iff_eq.2 wk_prime.2) (AllP_cons (beq_iff_eq.2 wk_prime.2) (AllP_cons (congrArg (fun z => !z) wk_prime.1) (AllP_cons (congrArg (fun z => !z) wk_prime.1) (AllP_cons (congrArg (fun z => !z) wk_prime.1) (AllP_cons (congrArg (fun z => !z) wk_prime.1) (AllP_cons (beq_iff_eq.2 wk_addc) (AllP_cons (beq_iff_eq.2 wk_addc) (AllP_cons (beq_iff_eq.2 wk_addc) (AllP_cons (decide_eq_true (wk_add.trans wk_two.symm)) (AllP_cons (decide_eq_true (wk_add.trans wk_two.symm)) (AllP_cons (decide_eq_true (wk_add.trans wk_two.symm)) (AllP_cons (decide_eq_true (wk_add.trans wk_two.symm)) (AllP_cons (beq_iff_eq.2 (by rw [getsub1, wk_two, pB2_enc]; rfl)) (AllP_cons (beq_iff_eq.2 (by rw [getsub1, wk_two, pB2_enc]; rfl)) (AllP_cons (beq_iff_eq.2 (by rw [getsub1, wk_two, pB2_enc]; rfl)) (AllP_cons (beq_iff_eq.2 (by rw [getsub1, wk_two, pB2_enc]; rfl)) (AllP_cons (beq_iff_eq.2 (by rw [getsub1, wk_two, pB2_enc]; rfl)) (AllP_cons (beq_iff_eq.2 (by rw [getsub1, wk_two, pB2_enc]; rfl)) (AllP_cons (beq_iff_eq.2 (by rw [getsub1, wk_two, pB2_enc]; rfl)) (AllP_cons (beq_iff_eq.2 (by rw [getsub1, wk_two, pB2_enc]; rfl)) (AllP_cons ⟨⟨(by decide), trivial⟩, ⟨rfl, (by decide)⟩⟩ (AllP_nil))))))))))))))))))))))))))))))

theorem works_body (w : World) : Body Try.prog (tabOf tabVO) Try.f10 ⟨w, [], 0, noEnv⟩ (toA []) [] (fun ys _ => ys = [.a (.b true)]) :=
  Body.lens (c := (Try.f10.body.getD .skip)) rfl fun h => works_body0  w

theorem works_pure : PureC Try.prog 10 [] [.a (.b true)] :=
  PureC.of_body tabOkVO Try.func10 rfl rfl fun w => works_body w

def gam63 : Gam := gpure 10 (fun args => match args with | [] => some (none, [.a (.b true)]) | _ => none) gam61
theorem gam63_ok : GamOk Try.prog gam63 := gpure_ok gam61_ok Try.call10 (by
  intro args vc xs h hv
  split at h
  · simp only [Option.some.injEq, Prod.mk.injEq] at h; obtain ⟨rfl, rfl⟩ := h; exact ⟨_, by rfl, works_pure⟩
  · simp at h)

end Go.Proofs.Ytodiojpakfjehaa.X

/- The ladder, as multiples. -/
namespace Go.Proofs.Ytodiojpakfjehaa.X
open Go Go.Proofs
set_option linter.unusedVariables false
set_option linter.unusedSimpArgs false
set_option maxRecDepth 100000

theorem coX_enc (p : E) : apCo (encE p) = B32 (p.1.1.val : Int) := (co_enc p).1
theorem coY_enc (p : E) : apCo_1 (encE p) = B32 (p.1.2.val : Int) := (co_enc p).2.1
theorem coC_enc (p : E) : apCo_2 (encE p) = 0 := (co_enc p).2.2
end Go.Proofs.Ytodiojpakfjehaa.X

/- Coordinates there and back. -/
namespace Go.Proofs.Ytodiojpakfjehaa.X
open Go Go.Proofs
set_option linter.unusedVariables false
set_option linter.unusedSimpArgs false
set_option maxRecDepth 100000

theorem co_some {s : List Int} (h : Byt s) (l : s.length = 32) (hc : (apCo_2 s == (0 : Int)) = true) : ∃ p, encE p = s := by
  cases hd : decE s with
  | some p => exact ⟨p, enc_dec h l hd⟩
  | none =>
    rw [(co_none h l hd).2.2] at hc
    exact absurd hc (by decide)
theorem co_no {s : List Int} (h : Byt s) (l : s.length = 32) (hc : (apCo_2 s == (0 : Int)) = false) : apCo s = [0, 0, 0, 0, 0, 0, 0, 0, 0, 0, 0, 0, 0, 0, 0, 0, 0, 0, 0, 0, 0, 0, 0, 0, 0, 0, 0, 0, 0, 0, 0, 0] ∧ apCo_1 s = [0, 0, 0, 0, 0, 0, 0, 0, 0, 0, 0, 0, 0, 0, 0, 0, 0, 0, 0, 0, 0, 0, 0, 0, 0, 0, 0, 0, 0, 0, 0, 0] ∧ apCo_2 s = 41 ∧ apCheck s = 41 := by
  cases hd : decE s with
  | some p =>
    rw [← enc_dec h l hd, coC_enc] at hc
    exact absurd hc (by decide)
  | none =>
    obtain ⟨k1, k2, k3⟩ := co_none h l hd
    exact ⟨k1, k2, k3, chk_none h l hd⟩
theorem fI_B32 (z : Fp) : fI (BV (B32 (z.val : Int))) = z := by rw [BV_B32 (val_rng z).1 (val_256 z), fI_self]
theorem from_self (p : E) : apFrom (B32 (p.1.1.val : Int)) (B32 (p.1.2.val : Int)) = encE p := (from_yes (byt_B32 _) (byt_B32 _) (by rw [fI_B32, fI_B32])).1
theorem fromC_self (p : E) : apFrom_1 (B32 (p.1.1.val : Int)) (B32 (p.1.2.val : Int)) = 0 := (from_yes (byt_B32 _) (byt_B32 _) (by rw [fI_B32, fI_B32])).2
theorem from_some {x y : List Int} (hx : Byt x) (hy : Byt y) (hc : (apFrom_1 x y != (0 : Int)) = false) : ∃ P, apFrom x y = encE P ∧ apFrom_1 x y = 0 := by
  by_cases h : On cD (fI (BV x), fI (BV y))
  · exact ⟨⟨_, h⟩, from_yes hx hy rfl⟩
  · rw [(from_no hx hy h).2] at hc
    exact absurd hc (by decide)
theorem from_none {x y : List Int} (hx : Byt x) (hy : Byt y) (hc : (apFrom_1 x y != (0 : Int)) = true) : apFrom x y = [0, 0, 0, 0, 0, 0, 0, 0, 0, 0, 0, 0, 0, 0, 0, 0, 0, 0, 0, 0, 0, 0, 0, 0, 0, 0, 0, 0, 0, 0, 0, 0] ∧ apFrom_1 x y = 41 := by
  by_cases h : On cD (fI (BV x), fI (BV y))
  · rw [(from_yes hx hy (p := ⟨_, h⟩) rfl).2] at hc
    exact absurd hc (by decide)
  · exact from_no hx hy h
theorem from_swap (p : E) (hc : (apFrom_1 (B32 (p.1.2.val : Int)) (B32 (p.1.1.val : Int)) == (0 : Int)) = true) : (decide (apFrom (B32 (p.1.2.val : Int)) (B32 (p.1.1.val : Int)) = encE p) == decide (B32 (p.1.1.val : Int) = B32 (p.1.2.val : Int))) = true := by
  by_cases h : On cD (p.1.2, p.1.1)
  · have k := (from_yes (x := B32 (p.1.2.val : Int)) (y := B32 (p.1.1.val : Int)) (byt_B32 _) (byt_B32 _) (p := ⟨_, h⟩) (by rw [fI_B32, fI_B32])).1
    rw [k]
    refine beq_iff_eq.2 (decide_eq_decide.2 ⟨fun e => ?_, fun e => ?_⟩)
    · exact congrArg (fun q : E => B32 (q.1.2.val : Int)) (encE_inj e)
    · have e' : p.1.1 = p.1.2 := fp_ext (B32_inj ⟨(val_rng _).1, val_256 _⟩ ⟨(val_rng _).1, val_256 _⟩ e)
      exact congrArg encE (Ep.ext (Prod.ext e'.symm e'))
  · rw [(from_no (byt_B32 _) (byt_B32 _) (by rw [fI_B32, fI_B32]; exact h)).2] at hc
    exact absurd hc (by decide)
theorem add_E0 (p : E) : ad p E0 = p := ad_zero p
end Go.Proofs.Ytodiojpakfjehaa.X

/- Printed by a tool of this session. -/
namespace Go.Proofs.Ytodiojpakfjehaa.X
open Go Go.Proofs
set_option linter.unusedVariables false
set_option linter.unusedSimpArgs false
set_option maxRecDepth 100000
theorem teVS_5 : TEOk Try.prog 5 ⟨.int .u8, 1, 1, [.i .u8 (0 : Int)], false⟩ :=
  TEOk.of Try.underlying5 (i := Try.t5) (by kernel_rfl) rfl rfl rfl (by kernel_rfl) (fun h => by cases h) (by kernel_rfl)
theorem teVS_23 : TEOk Try.prog 23 ⟨.array 32 5, 32, 32, [.ints .u8 (32 : Nat) ([0, 0, 0, 0, 0, 0, 0, 0, 0, 0, 0, 0, 0, 0, 0, 0, 0, 0, 0, 0, 0, 0, 0, 0, 0, 0, 0, 0, 0, 0, 0, 0] : List Int)], true⟩ :=
  TEOk.of Try.underlying23 (i := Try.t23) (by kernel_rfl) rfl rfl rfl (by kernel_rfl) (fun _ => Try.eqGuardType23) (by kernel_rfl)
theorem teVS_32 : TEOk Try.prog 32 ⟨.slice 5, 1, 24, [.raw (.slice none 0 0)], false⟩ :=
  TEOk.of Try.underlying32 (i := Try.t32) (by kernel_rfl) rfl rfl rfl (by kernel_rfl) (fun h => by cases h) (by kernel_rfl)
noncomputable def tabVS : List (Nat × TE) := [(5, ⟨.int .u8, 1, 1, [.i .u8 (0 : Int)], false⟩), (23, ⟨.array 32 5, 32, 32, [.ints .u8 (32 : Nat) ([0, 0, 0, 0, 0, 0, 0, 0, 0, 0, 0, 0, 0, 0, 0, 0, 0, 0, 0, 0, 0, 0, 0, 0, 0, 0, 0, 0, 0, 0, 0, 0] : List Int)], true⟩), (32, ⟨.slice 5, 1, 24, [.raw (.slice none 0 0)], false⟩)]
theorem tabOkVS : TabOk Try.prog (tabOf tabVS) := (tabOf_cons teVS_5 (tabOf_cons teVS_23 (tabOf_cons teVS_32 tabOf_nil)))

def apDec_w0 (b : List Int) : Int :=
  (apCheck (sub b (0 : Nat) (32 : Nat)))

set_option maxHeartbeats 1000000 in
theorem apDec_w0_body0 (n : Nat) (nm : Nat) (b : List Int) (cap0 : Nat) (h0 : (nm = n)) (h1 : (n = (32 : Nat))) (hc0 : n ≤ cap0) (hl0_0 : List.length b = nm) (hb0 : ((apCheck (sub b (0 : Nat) (32 : Nat))) != (0 : Int)) = true) (w : World) (β : Env) : Body Try.prog (tabOf tabVS) Try.f13 ⟨w, [], 1, β⟩ [.o (.a (.sl 0 (0 : Nat) n cap0))] [some ⟨false, [.ints .u8 nm b]⟩] (fun ys _ => ys = [.g [.ints .u8 (32 : Nat) ([0, 0, 0, 0, 0, 0, 0, 0, 0, 0, 0, 0, 0, 0, 0, 0, 0, 0, 0, 0, 0, 0, 0, 0, 0, 0, 0, 0, 0, 0, 0, 0] : List Int)], .a (.i .i64 (apDec_w0 b))]) :=
  Body.of_fin (Γ := gam63) (Λ := noLam) (Ψ := noPsi) (fuel := 0) (m := 20) (c := (Try.f13.body.getD .skip)) mix tabOkVS gam63_ok rfl (rs := [.cell 2 23, .tmp 3]) rfl rfl [false, true] []
    (vc := [(((apCheck (sub b (0 : Nat) (32 : Nat))) != (0 : Int)) = true), ((32 : Nat) ≤ nm), ((32 : Nat) ≤ n), ((((n : Nat) : Int) != (32 : Int)) = false)]) (by kernel_rfl)
    (AllP_cons hb0 (AllP_cons (by omega) (AllP_cons (by omega) (AllP_cons (bne_eq_false_iff_eq.2 (by omega)) (AllP_nil)))))

def apDec_w1 (b : List Int) : List Int :=
  (sub b (0 : Nat) (32 : Nat))

set_option maxHeartbeats 1000000 in
theorem apDec_w1_body0 (n : Nat) (nm : Nat) (b : List Int) (cap0 : Nat) (h0 : (nm = n)) (h1 : (n = (32 : Nat))) (hc0 : n ≤ cap0) (hl0_0 : List.length b = nm) (hb0 : ((apCheck (sub b (0 : Nat) (32 : Nat))) != (0 : Int)) = false) (w : World) (β : Env) : Body Try.prog (tabOf tabVS) Try.f13 ⟨w, [], 1, β⟩ [.o (.a (.sl 0 (0 : Nat) n cap0))] [some ⟨false, [.ints .u8 nm b]⟩] (fun ys _ => ys = [.g [.ints .u8 (32 : Nat) (apDec_w1 b)], .a (.i .i64 (0 : Int))]) :=
  Body.of_fin (Γ := gam63) (Λ := noLam) (Ψ := noPsi) (fuel := 0) (m := 20) (c := (Try.f13.body.getD .skip)) mix tabOkVS gam63_ok rfl (rs := [.cell 2 23, .tmp 3]) rfl rfl [false, false] []
    (vc := [(((apCheck (sub b (0 : Nat) (32 : Nat))) != (0 : Int)) = false), ((32 : Nat) ≤ nm), ((32 : Nat) ≤ n), ((((n : Nat) : Int) != (32 : Int)) = false)]) (by kernel_rfl)
    (AllP_cons hb0 (AllP_cons (by omega) (AllP_cons (by omega) (AllP_cons (bne_eq_false_iff_eq.2 (by omega)) (AllP_nil)))))

def apDec (b : List Int) : List Int :=
  (cond ((apCheck (sub b (0 : Nat) (32 : Nat))) != (0 : Int)) ([0, 0, 0, 0, 0, 0, 0, 0, 0, 0, 0, 0, 0, 0, 0, 0, 0, 0, 0, 0, 0, 0, 0, 0, 0, 0, 0, 0, 0, 0, 0, 0] : List Int) (apDec_w1 b))

def apDec_1 (b : List Int) : Int :=
  (cond ((apCheck (sub b (0 : Nat) (32 : Nat))) != (0 : Int)) (apDec_w0 b) (0 : Int))

set_option maxHeartbeats 1000000 in
theorem apDec_body (n : Nat) (nm : Nat) (b : List Int) (cap0 : Nat) (h0 : (nm = n)) (h1 : (n = (32 : Nat))) (w : World) (β : Env) : Body Try.prog (tabOf tabVS) Try.f13 ⟨w, [], 1, β⟩ [.o (.a (.sl 0 (0 : Nat) n cap0))] [some ⟨false, [.ints .u8 nm b]⟩] (fun ys _ => ys = [.g [.ints .u8 (32 : Nat) (apDec b)], .a (.i .i64 (apDec_1 b))]) :=
  Body.lens (c := (Try.f13.body.getD .skip)) rfl fun h => by
    cases hb0 : ((apCheck (sub b (0 : Nat) (32 : Nat))) != (0 : Int))
    · exact (apDec_w1_body0 n nm b cap0 h0 h1 (h.caps 0 _ _ _ _ rfl) (h.lens 0 _ .u8 nm b rfl (by simp)) hb0 w β).mono fun _ _ hx => hx.trans (by rw [(show (apDec b) = (apDec_w1 b) from (cond_f hb0)), (show (apDec_1 b) = (0 : Int) from (cond_f hb0))])
    · exact (apDec_w0_body0 n nm b cap0 h0 h1 (h.caps 0 _ _ _ _ rfl) (h.lens 0 _ .u8 nm b rfl (by simp)) hb0 w β).mono fun _ _ hx => hx.trans (by rw [(show (apDec b) = ([0, 0, 0, 0, 0, 0, 0, 0, 0, 0, 0, 0, 0, 0, 0, 0, 0, 0, 0, 0, 0, 0, 0, 0, 0, 0, 0, 0, 0, 0, 0, 0] : List Int) from (cond_t hb0)), (show (apDec_1 b) = (apDec_w0 b) from (cond_t hb0))])

def gam66 : Gam := greadV 13 [.s 1] (fun vs args => match vs, args with | [⟨_, _, _, [.ints .u8 nm b]⟩], [a0] => some ((nm = (lenOfA a0)) ∧ ((lenOfA a0) = (32 : Nat)), [.g [.ints .u8 (32 : Nat) (apDec b)], .a (.i .i64 (apDec_1 b))]) | _, _ => none) gam63
theorem gam66_ok : GamOk Try.prog gam66 := greadV_ok tabOkVS Try.func13 gam63_ok Try.call13 (by
  intro vs args p xs h hv
  split at h
  · simp only [Option.some.injEq, Prod.mk.injEq] at h; obtain ⟨rfl, rfl⟩ := h; exact ⟨by rfl, fun caps w β => apDec_body _ _ _ _ hv.1 hv.2 w β⟩
  · simp at h)

end Go.Proofs.Ytodiojpakfjehaa.X

/- Decode of a form. -/
namespace Go.Proofs.Ytodiojpakfjehaa.X
open Go Go.Proofs
set_option linter.unusedVariables false
set_option maxRecDepth 100000

theorem decs_enc (p : E) : apDec (sub (encE p) 0 32) = encE p := by
  unfold apDec
  rw [sub_all (encE p) 32 (Nat.le_of_eq (encE_len p)), sub_all (encE p) 32 (Nat.le_of_eq (encE_len p)), chk_enc]
  rfl
theorem decsc_enc (p : E) : apDec_1 (sub (encE p) 0 32) = 0 := by
  unfold apDec_1
  rw [sub_all (encE p) 32 (Nat.le_of_eq (encE_len p)), sub_all (encE p) 32 (Nat.le_of_eq (encE_len p)), chk_enc]
  rfl
end Go.Proofs.Ytodiojpakfjehaa.X

/- Printed by a tool of this session. -/
namespace Go.Proofs.Ytodiojpakfjehaa.X
open Go Go.Proofs
set_option linter.unusedVariables false
set_option linter.unusedSimpArgs false
set_option maxRecDepth 100000
theorem teVT_4 : TEOk Try.prog 4 ⟨.bool, 1, 1, [.b false], false⟩ :=
  TEOk.of Try.underlying4 (i := Try.t4) (by kernel_rfl) rfl rfl rfl (by kernel_rfl) (fun h => by cases h) (by kernel_rfl)
theorem teVT_5 : TEOk Try.prog 5 ⟨.int .u8, 1, 1, [.i .u8 (0 : Int)], false⟩ :=
  TEOk.of Try.underlying5 (i := Try.t5) (by kernel_rfl) rfl rfl rfl (by kernel_rfl) (fun h => by cases h) (by kernel_rfl)
theorem teVT_23 : TEOk Try.prog 23 ⟨.array 32 5, 32, 32, [.ints .u8 (32 : Nat) ([0, 0, 0, 0, 0, 0, 0, 0, 0, 0, 0, 0, 0, 0, 0, 0, 0, 0, 0, 0, 0, 0, 0, 0, 0, 0, 0, 0, 0, 0, 0, 0] : List Int)], true⟩ :=
  TEOk.of Try.underlying23 (i := Try.t23) (by kernel_rfl) rfl rfl rfl (by kernel_rfl) (fun _ => Try.eqGuardType23) (by kernel_rfl)
theorem teVT_24 : TEOk Try.prog 24 ⟨.array 32 5, 32, 32, [.ints .u8 (32 : Nat) ([0, 0, 0, 0, 0, 0, 0, 0, 0, 0, 0, 0, 0, 0, 0, 0, 0, 0, 0, 0, 0, 0, 0, 0, 0, 0, 0, 0, 0, 0, 0, 0] : List Int)], true⟩ :=
  TEOk.of Try.underlying24 (i := Try.t24) (by kernel_rfl) rfl rfl rfl (by kernel_rfl) (fun _ => Try.eqGuardType24) (by kernel_rfl)
noncomputable def tabVT : List (Nat × TE) := [(4, ⟨.bool, 1, 1, [.b false], false⟩), (5, ⟨.int .u8, 1, 1, [.i .u8 (0 : Int)], false⟩), (23, ⟨.array 32 5, 32, 32, [.ints .u8 (32 : Nat) ([0, 0, 0, 0, 0, 0, 0, 0, 0, 0, 0, 0, 0, 0, 0, 0, 0, 0, 0, 0, 0, 0, 0, 0, 0, 0, 0, 0, 0, 0, 0, 0] : List Int)], true⟩), (24, ⟨.array 32 5, 32, 32, [.ints .u8 (32 : Nat) ([0, 0, 0, 0, 0, 0, 0, 0, 0, 0, 0, 0, 0, 0, 0, 0, 0, 0, 0, 0, 0, 0, 0, 0, 0, 0, 0, 0, 0, 0, 0, 0] : List Int)], true⟩)]
theorem tabOkVT : TabOk Try.prog (tabOf tabVT) := (tabOf_cons teVT_4 (tabOf_cons teVT_5 (tabOf_cons teVT_23 (tabOf_cons teVT_24 tabOf_nil))))

theorem form0_v0 (e x y : List Int) (h0 : Byt e) (h1 : Byt x) (h2 : Byt y) (hv0 : List.length e = 32) (hv1 : List.length x = 32) (hv2 : List.length y = 32) (hb0 : ((apCo_2 e) == (0 : Int)) = true) (hb1 : ((apFrom_1 (apCo_1 e) (apCo e)) == (0 : Int)) = true) (hb2 : ((apFrom_1 x y) != (0 : Int)) = true) : ((decide ((apFrom x y) = ([0, 0, 0, 0, 0, 0, 0, 0, 0, 0, 0, 0, 0, 0, 0, 0, 0, 0, 0, 0, 0, 0, 0, 0, 0, 0, 0, 0, 0, 0, 0, 0] : List Int))) = true) := (by obtain ⟨p, hp⟩ := co_some h0 hv0 hb0; subst hp; have m := from_none h1 h2 hb2; simp only [coX_enc, coY_enc, coC_enc, from_self, fromC_self, chk_enc, id_enc, lwAdd_enc, add_E0, decs_enc, decsc_enc, m.1, m.2]; rfl)
theorem form0_v1 (e x y : List Int) (h0 : Byt e) (h1 : Byt x) (h2 : Byt y) (hv0 : List.length e = 32) (hv1 : List.length x = 32) (hv2 : List.length y = 32) (hb0 : ((apCo_2 e) == (0 : Int)) = true) (hb1 : ((apFrom_1 (apCo_1 e) (apCo e)) == (0 : Int)) = true) (hb2 : ((apFrom_1 x y) != (0 : Int)) = true) : (((apFrom_1 x y) == (41 : Int)) = true) := (by obtain ⟨p, hp⟩ := co_some h0 hv0 hb0; subst hp; have m := from_none h1 h2 hb2; simp only [coX_enc, coY_enc, coC_enc, from_self, fromC_self, chk_enc, id_enc, lwAdd_enc, add_E0, decs_enc, decsc_enc, m.1, m.2]; rfl)
theorem form0_v2 (e x y : List Int) (h0 : Byt e) (h1 : Byt x) (h2 : Byt y) (hv0 : List.length e = 32) (hv1 : List.length x = 32) (hv2 : List.length y = 32) (hb0 : ((apCo_2 e) == (0 : Int)) = true) (hb1 : ((apFrom_1 (apCo_1 e) (apCo e)) == (0 : Int)) = true) (hb2 : ((apFrom_1 x y) != (0 : Int)) = true) : ((!((decide ((apFrom (apCo_1 e) (apCo e)) = e)) == (decide ((apCo e) = (apCo_1 e))))) = false) := (by obtain ⟨p, hp⟩ := co_some h0 hv0 hb0; subst hp; have m := from_none h1 h2 hb2; simp only [coX_enc, coY_enc, coC_enc, from_self, fromC_self, chk_enc, id_enc, lwAdd_enc, add_E0, decs_enc, decsc_enc] at hb1 ⊢; have sw := from_swap p hb1; rw [sw]; rfl)
theorem form0_v3 (e x y : List Int) (h0 : Byt e) (h1 : Byt x) (h2 : Byt y) (hv0 : List.length e = 32) (hv1 : List.length x = 32) (hv2 : List.length y = 32) (hb0 : ((apCo_2 e) == (0 : Int)) = true) (hb1 : ((apFrom_1 (apCo_1 e) (apCo e)) == (0 : Int)) = true) (hb2 : ((apFrom_1 x y) != (0 : Int)) = true) : ((!(decide ((lwAdd e (apId)) = e))) = false) := (by obtain ⟨p, hp⟩ := co_some h0 hv0 hb0; subst hp; have m := from_none h1 h2 hb2; simp only [coX_enc, coY_enc, coC_enc, from_self, fromC_self, chk_enc, id_enc, lwAdd_enc, add_E0, decs_enc, decsc_enc, m.1, m.2]; rfl)
theorem form0_v4 (e x y : List Int) (h0 : Byt e) (h1 : Byt x) (h2 : Byt y) (hv0 : List.length e = 32) (hv1 : List.length x = 32) (hv2 : List.length y = 32) (hb0 : ((apCo_2 e) == (0 : Int)) = true) (hb1 : ((apFrom_1 (apCo_1 e) (apCo e)) == (0 : Int)) = true) (hb2 : ((apFrom_1 x y) != (0 : Int)) = true) : (((apCheck e) != (0 : Int)) = false) := (by obtain ⟨p, hp⟩ := co_some h0 hv0 hb0; subst hp; have m := from_none h1 h2 hb2; simp only [coX_enc, coY_enc, coC_enc, from_self, fromC_self, chk_enc, id_enc, lwAdd_enc, add_E0, decs_enc, decsc_enc, m.1, m.2]; rfl)
theorem form0_v5 (e x y : List Int) (h0 : Byt e) (h1 : Byt x) (h2 : Byt y) (hv0 : List.length e = 32) (hv1 : List.length x = 32) (hv2 : List.length y = 32) (hb0 : ((apCo_2 e) == (0 : Int)) = true) (hb1 : ((apFrom_1 (apCo_1 e) (apCo e)) == (0 : Int)) = true) (hb2 : ((apFrom_1 x y) != (0 : Int)) = true) : ((!(decide ((apDec (sub e (0 : Nat) (32 : Nat))) = e))) = false) := (by obtain ⟨p, hp⟩ := co_some h0 hv0 hb0; subst hp; have m := from_none h1 h2 hb2; simp only [coX_enc, coY_enc, coC_enc, from_self, fromC_self, chk_enc, id_enc, lwAdd_enc, add_E0, decs_enc, decsc_enc, m.1, m.2]; rfl)
theorem form0_v6 (e x y : List Int) (h0 : Byt e) (h1 : Byt x) (h2 : Byt y) (hv0 : List.length e = 32) (hv1 : List.length x = 32) (hv2 : List.length y = 32) (hb0 : ((apCo_2 e) == (0 : Int)) = true) (hb1 : ((apFrom_1 (apCo_1 e) (apCo e)) == (0 : Int)) = true) (hb2 : ((apFrom_1 x y) != (0 : Int)) = true) : (((apDec_1 (sub e (0 : Nat) (32 : Nat))) != (0 : Int)) = false) := (by obtain ⟨p, hp⟩ := co_some h0 hv0 hb0; subst hp; have m := from_none h1 h2 hb2; simp only [coX_enc, coY_enc, coC_enc, from_self, fromC_self, chk_enc, id_enc, lwAdd_enc, add_E0, decs_enc, decsc_enc, m.1, m.2]; rfl)
theorem form0_v7 (e x y : List Int) (h0 : Byt e) (h1 : Byt x) (h2 : Byt y) (hv0 : List.length e = 32) (hv1 : List.length x = 32) (hv2 : List.length y = 32) (hb0 : ((apCo_2 e) == (0 : Int)) = true) (hb1 : ((apFrom_1 (apCo_1 e) (apCo e)) == (0 : Int)) = true) (hb2 : ((apFrom_1 x y) != (0 : Int)) = true) : ((!(decide ((apFrom (apCo e) (apCo_1 e)) = e))) = false) := (by obtain ⟨p, hp⟩ := co_some h0 hv0 hb0; subst hp; have m := from_none h1 h2 hb2; simp only [coX_enc, coY_enc, coC_enc, from_self, fromC_self, chk_enc, id_enc, lwAdd_enc, add_E0, decs_enc, decsc_enc, m.1, m.2]; rfl)
theorem form0_v8 (e x y : List Int) (h0 : Byt e) (h1 : Byt x) (h2 : Byt y) (hv0 : List.length e = 32) (hv1 : List.length x = 32) (hv2 : List.length y = 32) (hb0 : ((apCo_2 e) == (0 : Int)) = true) (hb1 : ((apFrom_1 (apCo_1 e) (apCo e)) == (0 : Int)) = true) (hb2 : ((apFrom_1 x y) != (0 : Int)) = true) : (((apFrom_1 (apCo e) (apCo_1 e)) != (0 : Int)) = false) := (by obtain ⟨p, hp⟩ := co_some h0 hv0 hb0; subst hp; have m := from_none h1 h2 hb2; simp only [coX_enc, coY_enc, coC_enc, from_self, fromC_self, chk_enc, id_enc, lwAdd_enc, add_E0, decs_enc, decsc_enc, m.1, m.2]; rfl)
set_option maxHeartbeats 1000000 in
theorem form_w0_body0 (e : List Int) (x : List Int) (y : List Int) (h0 : (Byt e)) (h1 : (Byt x)) (h2 : (Byt y)) (hv0 : List.length e = (32 : Nat)) (hv1 : List.length x = (32 : Nat)) (hv2 : List.length y = (32 : Nat)) (hb0 : ((apCo_2 e) == (0 : Int)) = true) (hb1 : ((apFrom_1 (apCo_1 e) (apCo e)) == (0 : Int)) = true) (hb2 : ((apFrom_1 x y) != (0 : Int)) = true) (w : World) : Body Try.prog (tabOf tabVT) Try.f3 ⟨w, [], 0, noEnv⟩ (toA [.g [.ints .u8 (32 : Nat) e], .g [.ints .u8 (32 : Nat) x], .g [.ints .u8 (32 : Nat) y]]) [] (fun ys _ => ys = [.a (.b true)]) :=
  Body.of_fin (Γ := gam66) (Λ := noLam) (Ψ := noPsi) (fuel := 0) (m := 137) (c := (Try.f3.body.getD .skip)) mix tabOkVT gam66_ok rfl (rs := [.tmp 6]) rfl rfl [false, true, true, true, true, false, false, true, true, true, false, true, true, true, false, true, true, true, true, true, false, false, true, true, true, true, true, true, true, true, false, true, true, true, true, true] [.eqS 6 (.o (.a (.b true)))]
    (vc := [((.o (.a (.b (decide ((apFrom x y) = ([0, 0, 0, 0, 0, 0, 0, 0, 0, 0, 0, 0, 0, 0, 0, 0, 0, 0, 0, 0, 0, 0, 0, 0, 0, 0, 0, 0, 0, 0, 0, 0] : List Int))))) : AV) = .o (.a (.b true))), (((apFrom_1 x y) == (41 : Int)) = true), (((apFrom_1 x y) == (41 : Int)) = true), (((apFrom_1 x y) == (41 : Int)) = true), (((apFrom_1 x y) == (41 : Int)) = true), (((apFrom_1 x y) != (0 : Int)) = true), ((!((decide ((apFrom (apCo_1 e) (apCo e)) = e)) == (decide ((apCo e) = (apCo_1 e))))) = false), (((apFrom_1 (apCo_1 e) (apCo e)) == (0 : Int)) = true), (((apFrom_1 (apCo_1 e) (apCo e)) == (0 : Int)) = true), (((apFrom_1 (apCo_1 e) (apCo e)) == (0 : Int)) = true), (((apFrom_1 (apCo_1 e) (apCo e)) == (0 : Int)) = true), (((apFrom_1 (apCo_1 e) (apCo e)) == (0 : Int)) = true), (((apFrom_1 (apCo_1 e) (apCo e)) == (0 : Int)) = true), (((apFrom_1 (apCo_1 e) (apCo e)) == (0 : Int)) = true), (((apFrom_1 (apCo_1 e) (apCo e)) == (0 : Int)) = true), ((!(decide ((lwAdd e (apId)) = e))) = false), (((apCheck e) != (0 : Int)) = false), (((apCheck e) != (0 : Int)) = false), (((apCheck e) != (0 : Int)) = false), (((apCheck e) != (0 : Int)) = false), (((apCheck e) != (0 : Int)) = false), (((apCheck e) != (0 : Int)) = false), ((!(decide ((apDec (sub e (0 : Nat) (32 : Nat))) = e))) = false), ((!(decide ((apDec (sub e (0 : Nat) (32 : Nat))) = e))) = false), ((!(decide ((apDec (sub e (0 : Nat) (32 : Nat))) = e))) = false), ((!(decide ((apDec (sub e (0 : Nat) (32 : Nat))) = e))) = false), (((apDec_1 (sub e (0 : Nat) (32 : Nat))) != (0 : Int)) = false), (((apDec_1 (sub e (0 : Nat) (32 : Nat))) != (0 : Int)) = false), (((apDec_1 (sub e (0 : Nat) (32 : Nat))) != (0 : Int)) = false), (((apDec_1 (sub e (0 : Nat) (32 : Nat))) != (0 : Int)) = false), ((((32 : Nat) ≤ (32 : Nat)) ∧ True) ∧ (((32 : Nat) = (32 : Nat)) ∧ ((32 : Nat) = (32 : Nat)))), (((0 : Int) ≤ (0 : Int)) ∧ ((0 : Int) ≤ (32 : Int))), ((!(decide ((apFrom (apCo e) (apCo_1 e)) = e))) = false), (((apFrom_1 (apCo e) (apCo_1 e)) != (0 : Int)) = false), (((apFrom_1 (apCo e) (apCo_1 e)) != (0 : Int)) = false), (((apFrom_1 (apCo e) (apCo_1 e)) != (0 : Int)) = false), (((apFrom_1 (apCo e) (apCo_1 e)) != (0 : Int)) = false), (((apCo_2 e) == (0 : Int)) = true), (false = false)]) (by kernel_rfl)
    (AllP_cons ((congrArg (fun z => AV.o (.a (.b z))) (form0_v0 e x y h0 h1 h2 hv0 hv1 hv2 hb0 hb1 hb2))) (AllP_cons (form0_v1 e x y h0 h1 h2 hv0 hv1 hv2 hb0 hb1 hb2) (AllP_cons (form0_v1 e x y h0 h1 h2 hv0 hv1 hv2 hb0 hb1 hb2) (AllP_cons (form0_v1 e x y h0 h1 h2 hv0 hv1 hv2 hb0 hb1 hb2) (AllP_cons (form0_v1 e x y h0 h1 h2 hv0 hv1 hv2 hb0 hb1 hb2) (AllP_cons hb2 (AllP_cons (form0_v2 e x y h0 h1 h2 hv0 hv1 hv2 hb0 hb1 hb2) (AllP_cons hb1 (AllP_cons hb1 (AllP_cons hb1 (AllP_cons hb1 (AllP_cons hb1 (AllP_cons hb1 (AllP_cons hb1 (AllP_cons hb1 (AllP_cons (form0_v3 e x y h0 h1 h2 hv0 hv1 hv2 hb0 hb1 hb2) (AllP_cons (form0_v4 e x y h0 h1 h2 hv0 hv1 hv2 hb0 hb1 hb2) (AllP_cons (form0_v4 e x y h0 h1 h2 hv0 hv1 hv2 hb0 hb1 hb2) (AllP_cons (form0_v4 e x y h0 h1 h2 hv0 hv1 hv2 hb0 hb1 hb2) (AllP_cons (form0_v4 e x y h0 h1 h2 hv0 hv1 hv2 hb0 hb1 hb2) (AllP_cons (form0_v4 e x y h0 h1 h2 hv0 hv1 hv2 hb0 hb1 hb2) (AllP_cons (form0_v4 e x y h0 h1 h2 hv0 hv1 hv2 hb0 hb1 hb2) (AllP_cons (form0_v5 e x y h0 h1 h2 hv0 hv1 hv2 hb0 hb1 hb2) (AllP_cons (form0_v5 e x y h0 h1 h2 hv0 hv1 hv2 hb0 hb1 hb2) (AllP_cons (form0_v5 e x y h0 h1 h2 hv0 hv1 hv2 hb0 hb1 hb2) (AllP_cons (form0_v5 e x y h0 h1 h2 hv0 hv1 hv2 hb0 hb1 hb2) (AllP_cons (form0_v6 e x y h0 h1 h2 hv0 hv1 hv2 hb0 hb1 hb2) (AllP_cons (form0_v6 e x y h0 h1 h2 hv0 hv1 hv2 hb0 hb1 hb2) (AllP_cons (form0_v6 e x y h0 h1 h2 hv0 hv1 hv2 hb0 hb1 hb2) (AllP_cons (form0_v6 e x y h0 h1 h2 hv0 hv1 hv2 hb0 hb1 hb2) (AllP_cons ⟨⟨(by decide), trivial⟩, ⟨rfl, rfl⟩⟩ (AllP_cons ⟨(by decide), (by decide)⟩ (AllP_cons (form0_v7 e x y h0 h1 h2 hv0 hv1 hv2 hb0 hb1 hb2) (AllP_cons (form0_v8 e x y h0 h1 h2 hv0 hv1 hv2 hb0 hb1 hb2) (AllP_cons (form0_v8 e x y h0 h1 h2 hv0 hv1 hv2 hb0 hb1 hb2) (AllP_cons (form0_v8 e x y h0 h1 h2 hv0 hv1 hv2 hb0 hb1 hb2) (AllP_cons (form0_v8 e x y h0 h1 h2 hv0 hv1 hv2 hb0 hb1 hb2) (AllP_cons hb0 (AllP_cons rfl (AllP_nil))))))))))))))))))))))))))))))))))))))))

theorem form1_v0 (e x y : List Int) (h0 : Byt e) (h1 : Byt x) (h2 : Byt y) (hv0 : List.length e = 32) (hv1 : List.length x = 32) (hv2 : List.length y = 32) (hb0 : ((apCo_2 e) == (0 : Int)) = true) (hb1 : ((apFrom_1 (apCo_1 e) (apCo e)) == (0 : Int)) = true) (hb2 : ((apFrom_1 x y) != (0 : Int)) = false) : ((decide ((apFrom (apCo (apFrom x y)) (apCo_1 (apFrom x y))) = (apFrom x y))) = true) := (by obtain ⟨p, hp⟩ := co_some h0 hv0 hb0; subst hp; obtain ⟨P, m⟩ := from_some h1 h2 hb2; simp only [coX_enc, coY_enc, coC_enc, from_self, fromC_self, chk_enc, id_enc, lwAdd_enc, add_E0, decs_enc, decsc_enc, m.1, m.2]; rfl)
theorem form1_v1 (e x y : List Int) (h0 : Byt e) (h1 : Byt x) (h2 : Byt y) (hv0 : List.length e = 32) (hv1 : List.length x = 32) (hv2 : List.length y = 32) (hb0 : ((apCo_2 e) == (0 : Int)) = true) (hb1 : ((apFrom_1 (apCo_1 e) (apCo e)) == (0 : Int)) = true) (hb2 : ((apFrom_1 x y) != (0 : Int)) = false) : (((apFrom_1 (apCo (apFrom x y)) (apCo_1 (apFrom x y))) == (0 : Int)) = true) := (by obtain ⟨p, hp⟩ := co_some h0 hv0 hb0; subst hp; obtain ⟨P, m⟩ := from_some h1 h2 hb2; simp only [coX_enc, coY_enc, coC_enc, from_self, fromC_self, chk_enc, id_enc, lwAdd_enc, add_E0, decs_enc, decsc_enc, m.1, m.2]; rfl)
theorem form1_v2 (e x y : List Int) (h0 : Byt e) (h1 : Byt x) (h2 : Byt y) (hv0 : List.length e = 32) (hv1 : List.length x = 32) (hv2 : List.length y = 32) (hb0 : ((apCo_2 e) == (0 : Int)) = true) (hb1 : ((apFrom_1 (apCo_1 e) (apCo e)) == (0 : Int)) = true) (hb2 : ((apFrom_1 x y) != (0 : Int)) = false) : (((apCo_2 (apFrom x y)) == (0 : Int)) = true) := (by obtain ⟨p, hp⟩ := co_some h0 hv0 hb0; subst hp; obtain ⟨P, m⟩ := from_some h1 h2 hb2; simp only [coX_enc, coY_enc, coC_enc, from_self, fromC_self, chk_enc, id_enc, lwAdd_enc, add_E0, decs_enc, decsc_enc, m.1, m.2]; rfl)
theorem form1_v3 (e x y : List Int) (h0 : Byt e) (h1 : Byt x) (h2 : Byt y) (hv0 : List.length e = 32) (hv1 : List.length x = 32) (hv2 : List.length y = 32) (hb0 : ((apCo_2 e) == (0 : Int)) = true) (hb1 : ((apFrom_1 (apCo_1 e) (apCo e)) == (0 : Int)) = true) (hb2 : ((apFrom_1 x y) != (0 : Int)) = false) : ((!((decide ((apFrom (apCo_1 e) (apCo e)) = e)) == (decide ((apCo e) = (apCo_1 e))))) = false) := (by obtain ⟨p, hp⟩ := co_some h0 hv0 hb0; subst hp; obtain ⟨P, m⟩ := from_some h1 h2 hb2; simp only [coX_enc, coY_enc, coC_enc, from_self, fromC_self, chk_enc, id_enc, lwAdd_enc, add_E0, decs_enc, decsc_enc] at hb1 ⊢; have sw := from_swap p hb1; rw [sw]; rfl)
theorem form1_v4 (e x y : List Int) (h0 : Byt e) (h1 : Byt x) (h2 : Byt y) (hv0 : List.length e = 32) (hv1 : List.length x = 32) (hv2 : List.length y = 32) (hb0 : ((apCo_2 e) == (0 : Int)) = true) (hb1 : ((apFrom_1 (apCo_1 e) (apCo e)) == (0 : Int)) = true) (hb2 : ((apFrom_1 x y) != (0 : Int)) = false) : ((!(decide ((lwAdd e (apId)) = e))) = false) := (by obtain ⟨p, hp⟩ := co_some h0 hv0 hb0; subst hp; obtain ⟨P, m⟩ := from_some h1 h2 hb2; simp only [coX_enc, coY_enc, coC_enc, from_self, fromC_self, chk_enc, id_enc, lwAdd_enc, add_E0, decs_enc, decsc_enc, m.1, m.2]; rfl)
theorem form1_v5 (e x y : List Int) (h0 : Byt e) (h1 : Byt x) (h2 : Byt y) (hv0 : List.length e = 32) (hv1 : List.length x = 32) (hv2 : List.length y = 32) (hb0 : ((apCo_2 e) == (0 : Int)) = true) (hb1 : ((apFrom_1 (apCo_1 e) (apCo e)) == (0 : Int)) = true) (hb2 : ((apFrom_1 x y) != (0 : Int)) = false) : (((apCheck e) != (0 : Int)) = false) := (by obtain ⟨p, hp⟩ := co_some h0 hv0 hb0; subst hp; obtain ⟨P, m⟩ := from_some h1 h2 hb2; simp only [coX_enc, coY_enc, coC_enc, from_self, fromC_self, chk_enc, id_enc, lwAdd_enc, add_E0, decs_enc, decsc_enc, m.1, m.2]; rfl)
theorem form1_v6 (e x y : List Int) (h0 : Byt e) (h1 : Byt x) (h2 : Byt y) (hv0 : List.length e = 32) (hv1 : List.length x = 32) (hv2 : List.length y = 32) (hb0 : ((apCo_2 e) == (0 : Int)) = true) (hb1 : ((apFrom_1 (apCo_1 e) (apCo e)) == (0 : Int)) = true) (hb2 : ((apFrom_1 x y) != (0 : Int)) = false) : ((!(decide ((apDec (sub e (0 : Nat) (32 : Nat))) = e))) = false) := (by obtain ⟨p, hp⟩ := co_some h0 hv0 hb0; subst hp; obtain ⟨P, m⟩ := from_some h1 h2 hb2; simp only [coX_enc, coY_enc, coC_enc, from_self, fromC_self, chk_enc, id_enc, lwAdd_enc, add_E0, decs_enc, decsc_enc, m.1, m.2]; rfl)
theorem form1_v7 (e x y : List Int) (h0 : Byt e) (h1 : Byt x) (h2 : Byt y) (hv0 : List.length e = 32) (hv1 : List.length x = 32) (hv2 : List.length y = 32) (hb0 : ((apCo_2 e) == (0 : Int)) = true) (hb1 : ((apFrom_1 (apCo_1 e) (apCo e)) == (0 : Int)) = true) (hb2 : ((apFrom_1 x y) != (0 : Int)) = false) : (((apDec_1 (sub e (0 : Nat) (32 : Nat))) != (0 : Int)) = false) := (by obtain ⟨p, hp⟩ := co_some h0 hv0 hb0; subst hp; obtain ⟨P, m⟩ := from_some h1 h2 hb2; simp only [coX_enc, coY_enc, coC_enc, from_self, fromC_self, chk_enc, id_enc, lwAdd_enc, add_E0, decs_enc, decsc_enc, m.1, m.2]; rfl)
theorem form1_v8 (e x y : List Int) (h0 : Byt e) (h1 : Byt x) (h2 : Byt y) (hv0 : List.length e = 32) (hv1 : List.length x = 32) (hv2 : List.length y = 32) (hb0 : ((apCo_2 e) == (0 : Int)) = true) (hb1 : ((apFrom_1 (apCo_1 e) (apCo e)) == (0 : Int)) = true) (hb2 : ((apFrom_1 x y) != (0 : Int)) = false) : ((!(decide ((apFrom (apCo e) (apCo_1 e)) = e))) = false) := (by obtain ⟨p, hp⟩ := co_some h0 hv0 hb0; subst hp; obtain ⟨P, m⟩ := from_some h1 h2 hb2; simp only [coX_enc, coY_enc, coC_enc, from_self, fromC_self, chk_enc, id_enc, lwAdd_enc, add_E0, decs_enc, decsc_enc, m.1, m.2]; rfl)
theorem form1_v9 (e x y : List Int) (h0 : Byt e) (h1 : Byt x) (h2 : Byt y) (hv0 : List.length e = 32) (hv1 : List.length x = 32) (hv2 : List.length y = 32) (hb0 : ((apCo_2 e) == (0 : Int)) = true) (hb1 : ((apFrom_1 (apCo_1 e) (apCo e)) == (0 : Int)) = true) (hb2 : ((apFrom_1 x y) != (0 : Int)) = false) : (((apFrom_1 (apCo e) (apCo_1 e)) != (0 : Int)) = false) := (by obtain ⟨p, hp⟩ := co_some h0 hv0 hb0; subst hp; obtain ⟨P, m⟩ := from_some h1 h2 hb2; simp only [coX_enc, coY_enc, coC_enc, from_self, fromC_self, chk_enc, id_enc, lwAdd_enc, add_E0, decs_enc, decsc_enc, m.1, m.2]; rfl)
set_option maxHeartbeats 1000000 in
theorem form_w1_body0 (e : List Int) (x : List Int) (y : List Int) (h0 : (Byt e)) (h1 : (Byt x)) (h2 : (Byt y)) (hv0 : List.length e = (32 : Nat)) (hv1 : List.length x = (32 : Nat)) (hv2 : List.length y = (32 : Nat)) (hb0 : ((apCo_2 e) == (0 : Int)) = true) (hb1 : ((apFrom_1 (apCo_1 e) (apCo e)) == (0 : Int)) = true) (hb2 : ((apFrom_1 x y) != (0 : Int)) = false) (w : World) : Body Try.prog (tabOf tabVT) Try.f3 ⟨w, [], 0, noEnv⟩ (toA [.g [.ints .u8 (32 : Nat) e], .g [.ints .u8 (32 : Nat) x], .g [.ints .u8 (32 : Nat) y]]) [] (fun ys _ => ys = [.a (.b true)]) :=
  Body.of_fin (Γ := gam66) (Λ := noLam) (Ψ := noPsi) (fuel := 0) (m := 137) (c := (Try.f3.body.getD .skip)) mix tabOkVT gam66_ok rfl (rs := [.tmp 6]) rfl rfl [false, true, true, true, true, false, false, true, true, true, false, true, true, true, false, true, true, true, true, true, false, false, true, true, true, true, true, true, true, true, false, false, true, true, true, true, true, true, true] [.eqS 6 (.o (.a (.b true)))]
    (vc := [((.o (.a (.b (decide ((apFrom (apCo (apFrom x y)) (apCo_1 (apFrom x y))) = (apFrom x y))))) : AV) = .o (.a (.b true))), (((apFrom_1 (apCo (apFrom x y)) (apCo_1 (apFrom x y))) == (0 : Int)) = true), (((apFrom_1 (apCo (apFrom x y)) (apCo_1 (apFrom x y))) == (0 : Int)) = true), (((apFrom_1 (apCo (apFrom x y)) (apCo_1 (apFrom x y))) == (0 : Int)) = true), (((apFrom_1 (apCo (apFrom x y)) (apCo_1 (apFrom x y))) == (0 : Int)) = true), (((apCo_2 (apFrom x y)) == (0 : Int)) = true), (((apCo_2 (apFrom x y)) == (0 : Int)) = true), (((apCo_2 (apFrom x y)) == (0 : Int)) = true), (((apFrom_1 x y) != (0 : Int)) = false), ((!((decide ((apFrom (apCo_1 e) (apCo e)) = e)) == (decide ((apCo e) = (apCo_1 e))))) = false), (((apFrom_1 (apCo_1 e) (apCo e)) == (0 : Int)) = true), (((apFrom_1 (apCo_1 e) (apCo e)) == (0 : Int)) = true), (((apFrom_1 (apCo_1 e) (apCo e)) == (0 : Int)) = true), (((apFrom_1 (apCo_1 e) (apCo e)) == (0 : Int)) = true), (((apFrom_1 (apCo_1 e) (apCo e)) == (0 : Int)) = true), (((apFrom_1 (apCo_1 e) (apCo e)) == (0 : Int)) = true), (((apFrom_1 (apCo_1 e) (apCo e)) == (0 : Int)) = true), (((apFrom_1 (apCo_1 e) (apCo e)) == (0 : Int)) = true), ((!(decide ((lwAdd e (apId)) = e))) = false), (((apCheck e) != (0 : Int)) = false), (((apCheck e) != (0 : Int)) = false), (((apCheck e) != (0 : Int)) = false), (((apCheck e) != (0 : Int)) = false), (((apCheck e) != (0 : Int)) = false), (((apCheck e) != (0 : Int)) = false), ((!(decide ((apDec (sub e (0 : Nat) (32 : Nat))) = e))) = false), ((!(decide ((apDec (sub e (0 : Nat) (32 : Nat))) = e))) = false), ((!(decide ((apDec (sub e (0 : Nat) (32 : Nat))) = e))) = false), ((!(decide ((apDec (sub e (0 : Nat) (32 : Nat))) = e))) = false), (((apDec_1 (sub e (0 : Nat) (32 : Nat))) != (0 : Int)) = false), (((apDec_1 (sub e (0 : Nat) (32 : Nat))) != (0 : Int)) = false), (((apDec_1 (sub e (0 : Nat) (32 : Nat))) != (0 : Int)) = false), (((apDec_1 (sub e (0 : Nat) (32 : Nat))) != (0 : Int)) = false), ((((32 : Nat) ≤ (32 : Nat)) ∧ True) ∧ (((32 : Nat) = (32 : Nat)) ∧ ((32 : Nat) = (32 : Nat)))), (((0 : Int) ≤ (0 : Int)) ∧ ((0 : Int) ≤ (32 : Int))), ((!(decide ((apFrom (apCo e) (apCo_1 e)) = e))) = false), (((apFrom_1 (apCo e) (apCo_1 e)) != (0 : Int)) = false), (((apFrom_1 (apCo e) (apCo_1 e)) != (0 : Int)) = false), (((apFrom_1 (apCo e) (apCo_1 e)) != (0 : Int)) = false), (((apFrom_1 (apCo e) (apCo_1 e)) != (0 : Int)) = false), (((apCo_2 e) == (0 : Int)) = true), (false = false)]) (by kernel_rfl)
    (AllP_cons ((congrArg (fun z => AV.o (.a (.b z))) (form1_v0 e x y h0 h1 h2 hv0 hv1 hv2 hb0 hb1 hb2))) (AllP_cons (form1_v1 e x y h0 h1 h2 hv0 hv1 hv2 hb0 hb1 hb2) (AllP_cons (form1_v1 e x y h0 h1 h2 hv0 hv1 hv2 hb0 hb1 hb2) (AllP_cons (form1_v1 e x y h0 h1 h2 hv0 hv1 hv2 hb0 hb1 hb2) (AllP_cons (form1_v1 e x y h0 h1 h2 hv0 hv1 hv2 hb0 hb1 hb2) (AllP_cons (form1_v2 e x y h0 h1 h2 hv0 hv1 hv2 hb0 hb1 hb2) (AllP_cons (form1_v2 e x y h0 h1 h2 hv0 hv1 hv2 hb0 hb1 hb2) (AllP_cons (form1_v2 e x y h0 h1 h2 hv0 hv1 hv2 hb0 hb1 hb2) (AllP_cons hb2 (AllP_cons (form1_v3 e x y h0 h1 h2 hv0 hv1 hv2 hb0 hb1 hb2) (AllP_cons hb1 (AllP_cons hb1 (AllP_cons hb1 (AllP_cons hb1 (AllP_cons hb1 (AllP_cons hb1 (AllP_cons hb1 (AllP_cons hb1 (AllP_cons (form1_v4 e x y h0 h1 h2 hv0 hv1 hv2 hb0 hb1 hb2) (AllP_cons (form1_v5 e x y h0 h1 h2 hv0 hv1 hv2 hb0 hb1 hb2) (AllP_cons (form1_v5 e x y h0 h1 h2 hv0 hv1 hv2 hb0 hb1 hb2) (AllP_cons (form1_v5 e x y h0 h1 h2 hv0 hv1 hv2 hb0 hb1 hb2) (AllP_cons (form1_v5 e x y h0 h1 h2 hv0 hv1 hv2 hb0 hb1 hb2) (AllP_cons (form1_v5 e x y h0 h1 h2 hv0 hv1 hv2 hb0 hb1 hb2) (AllP_cons (form1_v5 e x y h0 h1 h2 hv0 hv1 hv2 hb0 hb1 hb2) (AllP_cons (form1_v6 e x y h0 h1 h2 hv0 hv1 hv2 hb0 hb1 hb2) (AllP_cons (form1_v6 e x y h0 h1 h2 hv0 hv1 hv2 hb0 hb1 hb2) (AllP_cons (form1_v6 e x y h0 h1 h2 hv0 hv1 hv2 hb0 hb1 hb2) (AllP_cons (form1_v6 e x y h0 h1 h2 hv0 hv1 hv2 hb0 hb1 hb2) (AllP_cons (form1_v7 e x y h0 h1 h2 hv0 hv1 hv2 hb0 hb1 hb2) (AllP_cons (form1_v7 e x y h0 h1 h2 hv0 hv1 hv2 hb0 hb1 hb2) (AllP_cons (form1_v7 e x y h0 h1 h2 hv0 hv1 hv2 hb0 hb1 hb2) (AllP_cons (form1_v7 e x y h0 h1 h2 hv0 hv1 hv2 hb0 hb1 hb2) (AllP_cons ⟨⟨(by decide), trivial⟩, ⟨rfl, rfl⟩⟩ (AllP_cons ⟨(by decide), (by decide)⟩ (AllP_cons (form1_v8 e x y h0 h1 h2 hv0 hv1 hv2 hb0 hb1 hb2) (AllP_cons (form1_v9 e x y h0 h1 h2 hv0 hv1 hv2 hb0 hb1 hb2) (AllP_cons (form1_v9 e x y h0 h1 h2 hv0 hv1 hv2 hb0 hb1 hb2) (AllP_cons (form1_v9 e x y h0 h1 h2 hv0 hv1 hv2 hb0 hb1 hb2) (AllP_cons (form1_v9 e x y h0 h1 h2 hv0 hv1 hv2 hb0 hb1 hb2) (AllP_cons hb0 (AllP_cons rfl (AllP_nil)))))))))))))))))))))))))))))))))))))))))))

theorem form2_v0 (e x y : List Int) (h0 : Byt e) (h1 : Byt x) (h2 : Byt y) (hv0 : List.length e = 32) (hv1 : List.length x = 32) (hv2 : List.length y = 32) (hb0 : ((apCo_2 e) == (0 : Int)) = true) (hb1 : ((apFrom_1 (apCo_1 e) (apCo e)) == (0 : Int)) = false) (hb2 : ((apFrom_1 x y) != (0 : Int)) = true) : ((decide ((apFrom x y) = ([0, 0, 0, 0, 0, 0, 0, 0, 0, 0, 0, 0, 0, 0, 0, 0, 0, 0, 0, 0, 0, 0, 0, 0, 0, 0, 0, 0, 0, 0, 0, 0] : List Int))) = true) := (by obtain ⟨p, hp⟩ := co_some h0 hv0 hb0; subst hp; have m := from_none h1 h2 hb2; simp only [coX_enc, coY_enc, coC_enc, from_self, fromC_self, chk_enc, id_enc, lwAdd_enc, add_E0, decs_enc, decsc_enc, m.1, m.2]; rfl)
theorem form2_v1 (e x y : List Int) (h0 : Byt e) (h1 : Byt x) (h2 : Byt y) (hv0 : List.length e = 32) (hv1 : List.length x = 32) (hv2 : List.length y = 32) (hb0 : ((apCo_2 e) == (0 : Int)) = true) (hb1 : ((apFrom_1 (apCo_1 e) (apCo e)) == (0 : Int)) = false) (hb2 : ((apFrom_1 x y) != (0 : Int)) = true) : (((apFrom_1 x y) == (41 : Int)) = true) := (by obtain ⟨p, hp⟩ := co_some h0 hv0 hb0; subst hp; have m := from_none h1 h2 hb2; simp only [coX_enc, coY_enc, coC_enc, from_self, fromC_self, chk_enc, id_enc, lwAdd_enc, add_E0, decs_enc, decsc_enc, m.1, m.2]; rfl)
theorem form2_v2 (e x y : List Int) (h0 : Byt e) (h1 : Byt x) (h2 : Byt y) (hv0 : List.length e = 32) (hv1 : List.length x = 32) (hv2 : List.length y = 32) (hb0 : ((apCo_2 e) == (0 : Int)) = true) (hb1 : ((apFrom_1 (apCo_1 e) (apCo e)) == (0 : Int)) = false) (hb2 : ((apFrom_1 x y) != (0 : Int)) = true) : ((!(decide ((lwAdd e (apId)) = e))) = false) := (by obtain ⟨p, hp⟩ := co_some h0 hv0 hb0; subst hp; have m := from_none h1 h2 hb2; simp only [coX_enc, coY_enc, coC_enc, from_self, fromC_self, chk_enc, id_enc, lwAdd_enc, add_E0, decs_enc, decsc_enc, m.1, m.2]; rfl)
theorem form2_v3 (e x y : List Int) (h0 : Byt e) (h1 : Byt x) (h2 : Byt y) (hv0 : List.length e = 32) (hv1 : List.length x = 32) (hv2 : List.length y = 32) (hb0 : ((apCo_2 e) == (0 : Int)) = true) (hb1 : ((apFrom_1 (apCo_1 e) (apCo e)) == (0 : Int)) = false) (hb2 : ((apFrom_1 x y) != (0 : Int)) = true) : (((apCheck e) != (0 : Int)) = false) := (by obtain ⟨p, hp⟩ := co_some h0 hv0 hb0; subst hp; have m := from_none h1 h2 hb2; simp only [coX_enc, coY_enc, coC_enc, from_self, fromC_self, chk_enc, id_enc, lwAdd_enc, add_E0, decs_enc, decsc_enc, m.1, m.2]; rfl)
theorem form2_v4 (e x y : List Int) (h0 : Byt e) (h1 : Byt x) (h2 : Byt y) (hv0 : List.length e = 32) (hv1 : List.length x = 32) (hv2 : List.length y = 32) (hb0 : ((apCo_2 e) == (0 : Int)) = true) (hb1 : ((apFrom_1 (apCo_1 e) (apCo e)) == (0 : Int)) = false) (hb2 : ((apFrom_1 x y) != (0 : Int)) = true) : ((!(decide ((apDec (sub e (0 : Nat) (32 : Nat))) = e))) = false) := (by obtain ⟨p, hp⟩ := co_some h0 hv0 hb0; subst hp; have m := from_none h1 h2 hb2; simp only [coX_enc, coY_enc, coC_enc, from_self, fromC_self, chk_enc, id_enc, lwAdd_enc, add_E0, decs_enc, decsc_enc, m.1, m.2]; rfl)
theorem form2_v5 (e x y : List Int) (h0 : Byt e) (h1 : Byt x) (h2 : Byt y) (hv0 : List.length e = 32) (hv1 : List.length x = 32) (hv2 : List.length y = 32) (hb0 : ((apCo_2 e) == (0 : Int)) = true) (hb1 : ((apFrom_1 (apCo_1 e) (apCo e)) == (0 : Int)) = false) (hb2 : ((apFrom_1 x y) != (0 : Int)) = true) : (((apDec_1 (sub e (0 : Nat) (32 : Nat))) != (0 : Int)) = false) := (by obtain ⟨p, hp⟩ := co_some h0 hv0 hb0; subst hp; have m := from_none h1 h2 hb2; simp only [coX_enc, coY_enc, coC_enc, from_self, fromC_self, chk_enc, id_enc, lwAdd_enc, add_E0, decs_enc, decsc_enc, m.1, m.2]; rfl)
theorem form2_v6 (e x y : List Int) (h0 : Byt e) (h1 : Byt x) (h2 : Byt y) (hv0 : List.length e = 32) (hv1 : List.length x = 32) (hv2 : List.length y = 32) (hb0 : ((apCo_2 e) == (0 : Int)) = true) (hb1 : ((apFrom_1 (apCo_1 e) (apCo e)) == (0 : Int)) = false) (hb2 : ((apFrom_1 x y) != (0 : Int)) = true) : ((!(decide ((apFrom (apCo e) (apCo_1 e)) = e))) = false) := (by obtain ⟨p, hp⟩ := co_some h0 hv0 hb0; subst hp; have m := from_none h1 h2 hb2; simp only [coX_enc, coY_enc, coC_enc, from_self, fromC_self, chk_enc, id_enc, lwAdd_enc, add_E0, decs_enc, decsc_enc, m.1, m.2]; rfl)
theorem form2_v7 (e x y : List Int) (h0 : Byt e) (h1 : Byt x) (h2 : Byt y) (hv0 : List.length e = 32) (hv1 : List.length x = 32) (hv2 : List.length y = 32) (hb0 : ((apCo_2 e) == (0 : Int)) = true) (hb1 : ((apFrom_1 (apCo_1 e) (apCo e)) == (0 : Int)) = false) (hb2 : ((apFrom_1 x y) != (0 : Int)) = true) : (((apFrom_1 (apCo e) (apCo_1 e)) != (0 : Int)) = false) := (by obtain ⟨p, hp⟩ := co_some h0 hv0 hb0; subst hp; have m := from_none h1 h2 hb2; simp only [coX_enc, coY_enc, coC_enc, from_self, fromC_self, chk_enc, id_enc, lwAdd_enc, add_E0, decs_enc, decsc_enc, m.1, m.2]; rfl)
set_option maxHeartbeats 1000000 in
theorem form_w2_body0 (e : List Int) (x : List Int) (y : List Int) (h0 : (Byt e)) (h1 : (Byt x)) (h2 : (Byt y)) (hv0 : List.length e = (32 : Nat)) (hv1 : List.length x = (32 : Nat)) (hv2 : List.length y = (32 : Nat)) (hb0 : ((apCo_2 e) == (0 : Int)) = true) (hb1 : ((apFrom_1 (apCo_1 e) (apCo e)) == (0 : Int)) = false) (hb2 : ((apFrom_1 x y) != (0 : Int)) = true) (w : World) : Body Try.prog (tabOf tabVT) Try.f3 ⟨w, [], 0, noEnv⟩ (toA [.g [.ints .u8 (32 : Nat) e], .g [.ints .u8 (32 : Nat) x], .g [.ints .u8 (32 : Nat) y]]) [] (fun ys _ => ys = [.a (.b true)]) :=
  Body.of_fin (Γ := gam66) (Λ := noLam) (Ψ := noPsi) (fuel := 0) (m := 137) (c := (Try.f3.body.getD .skip)) mix tabOkVT gam66_ok rfl (rs := [.tmp 6]) rfl rfl [false, true, true, true, true, false, false, true, true, true, false, true, true, true, false, true, true, true, true, true, false, false, false, false, false, false, false, false, false, false, false, true, true, true, true, true] [.eqS 6 (.o (.a (.b true)))]
    (vc := [((.o (.a (.b (decide ((apFrom x y) = ([0, 0, 0, 0, 0, 0, 0, 0, 0, 0, 0, 0, 0, 0, 0, 0, 0, 0, 0, 0, 0, 0, 0, 0, 0, 0, 0, 0, 0, 0, 0, 0] : List Int))))) : AV) = .o (.a (.b true))), (((apFrom_1 x y) == (41 : Int)) = true), (((apFrom_1 x y) == (41 : Int)) = true), (((apFrom_1 x y) == (41 : Int)) = true), (((apFrom_1 x y) == (41 : Int)) = true), (((apFrom_1 x y) != (0 : Int)) = true), (false = false), (((apFrom_1 (apCo_1 e) (apCo e)) == (0 : Int)) = false), (((apFrom_1 (apCo_1 e) (apCo e)) == (0 : Int)) = false), (((apFrom_1 (apCo_1 e) (apCo e)) == (0 : Int)) = false), (((apFrom_1 (apCo_1 e) (apCo e)) == (0 : Int)) = false), (((apFrom_1 (apCo_1 e) (apCo e)) == (0 : Int)) = false), (((apFrom_1 (apCo_1 e) (apCo e)) == (0 : Int)) = false), (((apFrom_1 (apCo_1 e) (apCo e)) == (0 : Int)) = false), (((apFrom_1 (apCo_1 e) (apCo e)) == (0 : Int)) = false), ((!(decide ((lwAdd e (apId)) = e))) = false), (((apCheck e) != (0 : Int)) = false), (((apCheck e) != (0 : Int)) = false), (((apCheck e) != (0 : Int)) = false), (((apCheck e) != (0 : Int)) = false), (((apCheck e) != (0 : Int)) = false), (((apCheck e) != (0 : Int)) = false), ((!(decide ((apDec (sub e (0 : Nat) (32 : Nat))) = e))) = false), ((!(decide ((apDec (sub e (0 : Nat) (32 : Nat))) = e))) = false), ((!(decide ((apDec (sub e (0 : Nat) (32 : Nat))) = e))) = false), ((!(decide ((apDec (sub e (0 : Nat) (32 : Nat))) = e))) = false), (((apDec_1 (sub e (0 : Nat) (32 : Nat))) != (0 : Int)) = false), (((apDec_1 (sub e (0 : Nat) (32 : Nat))) != (0 : Int)) = false), (((apDec_1 (sub e (0 : Nat) (32 : Nat))) != (0 : Int)) = false), (((apDec_1 (sub e (0 : Nat) (32 : Nat))) != (0 : Int)) = false), ((((32 : Nat) ≤ (32 : Nat)) ∧ True) ∧ (((32 : Nat) = (32 : Nat)) ∧ ((32 : Nat) = (32 : Nat)))), (((0 : Int) ≤ (0 : Int)) ∧ ((0 : Int) ≤ (32 : Int))), ((!(decide ((apFrom (apCo e) (apCo_1 e)) = e))) = false), (((apFrom_1 (apCo e) (apCo_1 e)) != (0 : Int)) = false), (((apFrom_1 (apCo e) (apCo_1 e)) != (0 : Int)) = false), (((apFrom_1 (apCo e) (apCo_1 e)) != (0 : Int)) = false), (((apFrom_1 (apCo e) (apCo_1 e)) != (0 : Int)) = false), (((apCo_2 e) == (0 : Int)) = true), (false = false)]) (by kernel_rfl)
    (AllP_cons ((congrArg (fun z => AV.o (.a (.b z))) (form2_v0 e x y h0 h1 h2 hv0 hv1 hv2 hb0 hb1 hb2))) (AllP_cons (form2_v1 e x y h0 h1 h2 hv0 hv1 hv2 hb0 hb1 hb2) (AllP_cons (form2_v1 e x y h0 h1 h2 hv0 hv1 hv2 hb0 hb1 hb2) (AllP_cons (form2_v1 e x y h0 h1 h2 hv0 hv1 hv2 hb0 hb1 hb2) (AllP_cons (form2_v1 e x y h0 h1 h2 hv0 hv1 hv2 hb0 hb1 hb2) (AllP_cons hb2 (AllP_cons rfl (AllP_cons hb1 (AllP_cons hb1 (AllP_cons hb1 (AllP_cons hb1 (AllP_cons hb1 (AllP_cons hb1 (AllP_cons hb1 (AllP_cons hb1 (AllP_cons (form2_v2 e x y h0 h1 h2 hv0 hv1 hv2 hb0 hb1 hb2) (AllP_cons (form2_v3 e x y h0 h1 h2 hv0 hv1 hv2 hb0 hb1 hb2) (AllP_cons (form2_v3 e x y h0 h1 h2 hv0 hv1 hv2 hb0 hb1 hb2) (AllP_cons (form2_v3 e x y h0 h1 h2 hv0 hv1 hv2 hb0 hb1 hb2) (AllP_cons (form2_v3 e x y h0 h1 h2 hv0 hv1 hv2 hb0 hb1 hb2) (AllP_cons (form2_v3 e x y h0 h1 h2 hv0 hv1 hv2 hb0 hb1 hb2) (AllP_cons (form2_v3 e x y h0 h1 h2 hv0 hv1 hv2 hb0 hb1 hb2) (AllP_cons (form2_v4 e x y h0 h1 h2 hv0 hv1 hv2 hb0 hb1 hb2) (AllP_cons (form2_v4 e x y h0 h1 h2 hv0 hv1 hv2 hb0 hb1 hb2) (AllP_cons (form2_v4 e x y h0 h1 h2 hv0 hv1 hv2 hb0 hb1 hb2) (AllP_cons (form2_v4 e x y h0 h1 h2 hv0 hv1 hv2 hb0 hb1 hb2) (AllP_cons (form2_v5 e x y h0 h1 h2 hv0 hv1 hv2 hb0 hb1 hb2) (AllP_cons (form2_v5 e x y h0 h1 h2 hv0 hv1 hv2 hb0 hb1 hb2) (AllP_cons (form2_v5 e x y h0 h1 h2 hv0 hv1 hv2 hb0 hb1 hb2) (AllP_cons (form2_v5 e x y h0 h1 h2 hv0 hv1 hv2 hb0 hb1 hb2) (AllP_cons ⟨⟨(by decide), trivial⟩, ⟨rfl, rfl⟩⟩ (AllP_cons ⟨(by decide), (by decide)⟩ (AllP_cons (form2_v6 e x y h0 h1 h2 hv0 hv1 hv2 hb0 hb1 hb2) (AllP_cons (form2_v7 e x y h0 h1 h2 hv0 hv1 hv2 hb0 hb1 hb2) (AllP_cons (form2_v7 e x y h0 h1 h2 hv0 hv1 hv2 hb0 hb1 hb2) (AllP_cons (form2_v7 e x y h0 h1 h2 hv0 hv1 hv2 hb0 hb1 hb2) (AllP_cons (form2_v7 e x y h0 h1 h2 hv0 hv1 hv2 hb0 hb1 hb2) (AllP_cons hb0 (AllP_cons rfl (AllP_nil))))))))))))))))))))))))))))))))))))))))

theorem form3_v0 (e x y : List Int) (h0 : Byt e) (h1 : Byt x) (h2 : Byt y) (hv0 : List.length e = 32) (hv1 : List.length x = 32) (hv2 : List.length y = 32) (hb0 : ((apCo_2 e) == (0 : Int)) = true) (hb1 : ((apFrom_1 (apCo_1 e) (apCo e)) == (0 : Int)) = false) (hb2 : ((apFrom_1 x y) != (0 : Int)) = false) : ((decide ((apFrom (apCo (apFrom x y)) (apCo_1 (apFrom x y))) = (apFrom x y))) = true) := (by obtain ⟨p, hp⟩ := co_some h0 hv0 hb0; subst hp; obtain ⟨P, m⟩ := from_some h1 h2 hb2; simp only [coX_enc, coY_enc, coC_enc, from_self, fromC_self, chk_enc, id_enc, lwAdd_enc, add_E0, decs_enc, decsc_enc, m.1, m.2]; rfl)
theorem form3_v1 (e x y : List Int) (h0 : Byt e) (h1 : Byt x) (h2 : Byt y) (hv0 : List.length e = 32) (hv1 : List.length x = 32) (hv2 : List.length y = 32) (hb0 : ((apCo_2 e) == (0 : Int)) = true) (hb1 : ((apFrom_1 (apCo_1 e) (apCo e)) == (0 : Int)) = false) (hb2 : ((apFrom_1 x y) != (0 : Int)) = false) : (((apFrom_1 (apCo (apFrom x y)) (apCo_1 (apFrom x y))) == (0 : Int)) = true) := (by obtain ⟨p, hp⟩ := co_some h0 hv0 hb0; subst hp; obtain ⟨P, m⟩ := from_some h1 h2 hb2; simp only [coX_enc, coY_enc, coC_enc, from_self, fromC_self, chk_enc, id_enc, lwAdd_enc, add_E0, decs_enc, decsc_enc, m.1, m.2]; rfl)
theorem form3_v2 (e x y : List Int) (h0 : Byt e) (h1 : Byt x) (h2 : Byt y) (hv0 : List.length e = 32) (hv1 : List.length x = 32) (hv2 : List.length y = 32) (hb0 : ((apCo_2 e) == (0 : Int)) = true) (hb1 : ((apFrom_1 (apCo_1 e) (apCo e)) == (0 : Int)) = false) (hb2 : ((apFrom_1 x y) != (0 : Int)) = false) : (((apCo_2 (apFrom x y)) == (0 : Int)) = true) := (by obtain ⟨p, hp⟩ := co_some h0 hv0 hb0; subst hp; obtain ⟨P, m⟩ := from_some h1 h2 hb2; simp only [coX_enc, coY_enc, coC_enc, from_self, fromC_self, chk_enc, id_enc, lwAdd_enc, add_E0, decs_enc, decsc_enc, m.1, m.2]; rfl)
theorem form3_v3 (e x y : List Int) (h0 : Byt e) (h1 : Byt x) (h2 : Byt y) (hv0 : List.length e = 32) (hv1 : List.length x = 32) (hv2 : List.length y = 32) (hb0 : ((apCo_2 e) == (0 : Int)) = true) (hb1 : ((apFrom_1 (apCo_1 e) (apCo e)) == (0 : Int)) = false) (hb2 : ((apFrom_1 x y) != (0 : Int)) = false) : ((!(decide ((lwAdd e (apId)) = e))) = false) := (by obtain ⟨p, hp⟩ := co_some h0 hv0 hb0; subst hp; obtain ⟨P, m⟩ := from_some h1 h2 hb2; simp only [coX_enc, coY_enc, coC_enc, from_self, fromC_self, chk_enc, id_enc, lwAdd_enc, add_E0, decs_enc, decsc_enc, m.1, m.2]; rfl)
theorem form3_v4 (e x y : List Int) (h0 : Byt e) (h1 : Byt x) (h2 : Byt y) (hv0 : List.length e = 32) (hv1 : List.length x = 32) (hv2 : List.length y = 32) (hb0 : ((apCo_2 e) == (0 : Int)) = true) (hb1 : ((apFrom_1 (apCo_1 e) (apCo e)) == (0 : Int)) = false) (hb2 : ((apFrom_1 x y) != (0 : Int)) = false) : (((apCheck e) != (0 : Int)) = false) := (by obtain ⟨p, hp⟩ := co_some h0 hv0 hb0; subst hp; obtain ⟨P, m⟩ := from_some h1 h2 hb2; simp only [coX_enc, coY_enc, coC_enc, from_self, fromC_self, chk_enc, id_enc, lwAdd_enc, add_E0, decs_enc, decsc_enc, m.1, m.2]; rfl)
theorem form3_v5 (e x y : List Int) (h0 : Byt e) (h1 : Byt x) (h2 : Byt y) (hv0 : List.length e = 32) (hv1 : List.length x = 32) (hv2 : List.length y = 32) (hb0 : ((apCo_2 e) == (0 : Int)) = true) (hb1 : ((apFrom_1 (apCo_1 e) (apCo e)) == (0 : Int)) = false) (hb2 : ((apFrom_1 x y) != (0 : Int)) = false) : ((!(decide ((apDec (sub e (0 : Nat) (32 : Nat))) = e))) = false) := (by obtain ⟨p, hp⟩ := co_some h0 hv0 hb0; subst hp; obtain ⟨P, m⟩ := from_some h1 h2 hb2; simp only [coX_enc, coY_enc, coC_enc, from_self, fromC_self, chk_enc, id_enc, lwAdd_enc, add_E0, decs_enc, decsc_enc, m.1, m.2]; rfl)
theorem form3_v6 (e x y : List Int) (h0 : Byt e) (h1 : Byt x) (h2 : Byt y) (hv0 : List.length e = 32) (hv1 : List.length x = 32) (hv2 : List.length y = 32) (hb0 : ((apCo_2 e) == (0 : Int)) = true) (hb1 : ((apFrom_1 (apCo_1 e) (apCo e)) == (0 : Int)) = false) (hb2 : ((apFrom_1 x y) != (0 : Int)) = false) : (((apDec_1 (sub e (0 : Nat) (32 : Nat))) != (0 : Int)) = false) := (by obtain ⟨p, hp⟩ := co_some h0 hv0 hb0; subst hp; obtain ⟨P, m⟩ := from_some h1 h2 hb2; simp only [coX_enc, coY_enc, coC_enc, from_self, fromC_self, chk_enc, id_enc, lwAdd_enc, add_E0, decs_enc, decsc_enc, m.1, m.2]; rfl)
theorem form3_v7 (e x y : List Int) (h0 : Byt e) (h1 : Byt x) (h2 : Byt y) (hv0 : List.length e = 32) (hv1 : List.length x = 32) (hv2 : List.length y = 32) (hb0 : ((apCo_2 e) == (0 : Int)) = true) (hb1 : ((apFrom_1 (apCo_1 e) (apCo e)) == (0 : Int)) = false) (hb2 : ((apFrom_1 x y) != (0 : Int)) = false) : ((!(decide ((apFrom (apCo e) (apCo_1 e)) = e))) = false) := (by obtain ⟨p, hp⟩ := co_some h0 hv0 hb0; subst hp; obtain ⟨P, m⟩ := from_some h1 h2 hb2; simp only [coX_enc, coY_enc, coC_enc, from_self, fromC_self, chk_enc, id_enc, lwAdd_enc, add_E0, decs_enc, decsc_enc, m.1, m.2]; rfl)
theorem form3_v8 (e x y : List Int) (h0 : Byt e) (h1 : Byt x) (h2 : Byt y) (hv0 : List.length e = 32) (hv1 : List.length x = 32) (hv2 : List.length y = 32) (hb0 : ((apCo_2 e) == (0 : Int)) = true) (hb1 : ((apFrom_1 (apCo_1 e) (apCo e)) == (0 : Int)) = false) (hb2 : ((apFrom_1 x y) != (0 : Int)) = false) : (((apFrom_1 (apCo e) (apCo_1 e)) != (0 : Int)) = false) := (by obtain ⟨p, hp⟩ := co_some h0 hv0 hb0; subst hp; obtain ⟨P, m⟩ := from_some h1 h2 hb2; simp only [coX_enc, coY_enc, coC_enc, from_self, fromC_self, chk_enc, id_enc, lwAdd_enc, add_E0, decs_enc, decsc_enc, m.1, m.2]; rfl)
set_option maxHeartbeats 1000000 in
theorem form_w3_body0 (e : List Int) (x : List Int) (y : List Int) (h0 : (Byt e)) (h1 : (Byt x)) (h2 : (Byt y)) (hv0 : List.length e = (32 : Nat)) (hv1 : List.length x = (32 : Nat)) (hv2 : List.length y = (32 : Nat)) (hb0 : ((apCo_2 e) == (0 : Int)) = true) (hb1 : ((apFrom_1 (apCo_1 e) (apCo e)) == (0 : Int)) = false) (hb2 : ((apFrom_1 x y) != (0 : Int)) = false) (w : World) : Body Try.prog (tabOf tabVT) Try.f3 ⟨w, [], 0, noEnv⟩ (toA [.g [.ints .u8 (32 : Nat) e], .g [.ints .u8 (32 : Nat) x], .g [.ints .u8 (32 : Nat) y]]) [] (fun ys _ => ys = [.a (.b true)]) :=
  Body.of_fin (Γ := gam66) (Λ := noLam) (Ψ := noPsi) (fuel := 0) (m := 137) (c := (Try.f3.body.getD .skip)) mix tabOkVT gam66_ok rfl (rs := [.tmp 6]) rfl rfl [false, true, true, true, true, false, false, true, true, true, false, true, true, true, false, true, true, true, true, true, false, false, false, false, false, false, false, false, false, false, false, false, true, true, true, true, true, true, true] [.eqS 6 (.o (.a (.b true)))]
    (vc := [((.o (.a (.b (decide ((apFrom (apCo (apFrom x y)) (apCo_1 (apFrom x y))) = (apFrom x y))))) : AV) = .o (.a (.b true))), (((apFrom_1 (apCo (apFrom x y)) (apCo_1 (apFrom x y))) == (0 : Int)) = true), (((apFrom_1 (apCo (apFrom x y)) (apCo_1 (apFrom x y))) == (0 : Int)) = true), (((apFrom_1 (apCo (apFrom x y)) (apCo_1 (apFrom x y))) == (0 : Int)) = true), (((apFrom_1 (apCo (apFrom x y)) (apCo_1 (apFrom x y))) == (0 : Int)) = true), (((apCo_2 (apFrom x y)) == (0 : Int)) = true), (((apCo_2 (apFrom x y)) == (0 : Int)) = true), (((apCo_2 (apFrom x y)) == (0 : Int)) = true), (((apFrom_1 x y) != (0 : Int)) = false), (false = false), (((apFrom_1 (apCo_1 e) (apCo e)) == (0 : Int)) = false), (((apFrom_1 (apCo_1 e) (apCo e)) == (0 : Int)) = false), (((apFrom_1 (apCo_1 e) (apCo e)) == (0 : Int)) = false), (((apFrom_1 (apCo_1 e) (apCo e)) == (0 : Int)) = false), (((apFrom_1 (apCo_1 e) (apCo e)) == (0 : Int)) = false), (((apFrom_1 (apCo_1 e) (apCo e)) == (0 : Int)) = false), (((apFrom_1 (apCo_1 e) (apCo e)) == (0 : Int)) = false), (((apFrom_1 (apCo_1 e) (apCo e)) == (0 : Int)) = false), ((!(decide ((lwAdd e (apId)) = e))) = false), (((apCheck e) != (0 : Int)) = false), (((apCheck e) != (0 : Int)) = false), (((apCheck e) != (0 : Int)) = false), (((apCheck e) != (0 : Int)) = false), (((apCheck e) != (0 : Int)) = false), (((apCheck e) != (0 : Int)) = false), ((!(decide ((apDec (sub e (0 : Nat) (32 : Nat))) = e))) = false), ((!(decide ((apDec (sub e (0 : Nat) (32 : Nat))) = e))) = false), ((!(decide ((apDec (sub e (0 : Nat) (32 : Nat))) = e))) = false), ((!(decide ((apDec (sub e (0 : Nat) (32 : Nat))) = e))) = false), (((apDec_1 (sub e (0 : Nat) (32 : Nat))) != (0 : Int)) = false), (((apDec_1 (sub e (0 : Nat) (32 : Nat))) != (0 : Int)) = false), (((apDec_1 (sub e (0 : Nat) (32 : Nat))) != (0 : Int)) = false), (((apDec_1 (sub e (0 : Nat) (32 : Nat))) != (0 : Int)) = false), ((((32 : Nat) ≤ (32 : Nat)) ∧ True) ∧ (((32 : Nat) = (32 : Nat)) ∧ ((32 : Nat) = (32 : Nat)))), (((0 : Int) ≤ (0 : Int)) ∧ ((0 : Int) ≤ (32 : Int))), ((!(decide ((apFrom (apCo e) (apCo_1 e)) = e))) = false), (((apFrom_1 (apCo e) (apCo_1 e)) != (0 : Int)) = false), (((apFrom_1 (apCo e) (apCo_1 e)) != (0 : Int)) = false), (((apFrom_1 (apCo e) (apCo_1 e)) != (0 : Int)) = false), (((apFrom_1 (apCo e) (apCo_1 e)) != (0 : Int)) = false), (((apCo_2 e) == (0 : Int)) = true), (false = false)]) (by kernel_rfl)
    (AllP_cons ((congrArg (fun z => AV.o (.a (.b z))) (form3_v0 e x y h0 h1 h2 hv0 hv1 hv2 hb0 hb1 hb2))) (AllP_cons (form3_v1 e x y h0 h1 h2 hv0 hv1 hv2 hb0 hb1 hb2) (AllP_cons (form3_v1 e x y h0 h1 h2 hv0 hv1 hv2 hb0 hb1 hb2) (AllP_cons (form3_v1 e x y h0 h1 h2 hv0 hv1 hv2 hb0 hb1 hb2) (AllP_cons (form3_v1 e x y h0 h1 h2 hv0 hv1 hv2 hb0 hb1 hb2) (AllP_cons (form3_v2 e x y h0 h1 h2 hv0 hv1 hv2 hb0 hb1 hb2) (AllP_cons (form3_v2 e x y h0 h1 h2 hv0 hv1 hv2 hb0 hb1 hb2) (AllP_cons (form3_v2 e x y h0 h1 h2 hv0 hv1 hv2 hb0 hb1 hb2) (AllP_cons hb2 (AllP_cons rfl (AllP_cons hb1 (AllP_cons hb1 (AllP_cons hb1 (AllP_cons hb1 (AllP_cons hb1 (AllP_cons hb1 (AllP_cons hb1 (AllP_cons hb1 (AllP_cons (form3_v3 e x y h0 h1 h2 hv0 hv1 hv2 hb0 hb1 hb2) (AllP_cons (form3_v4 e x y h0 h1 h2 hv0 hv1 hv2 hb0 hb1 hb2) (AllP_cons (form3_v4 e x y h0 h1 h2 hv0 hv1 hv2 hb0 hb1 hb2) (AllP_cons (form3_v4 e x y h0 h1 h2 hv0 hv1 hv2 hb0 hb1 hb2) (AllP_cons (form3_v4 e x y h0 h1 h2 hv0 hv1 hv2 hb0 hb1 hb2) (AllP_cons (form3_v4 e x y h0 h1 h2 hv0 hv1 hv2 hb0 hb1 hb2) (AllP_cons (form3_v4 e x y h0 h1 h2 hv0 hv1 hv2 hb0 hb1 hb2) (AllP_cons (form3_v5 e x y h0 h1 h2 hv0 hv1 hv2 hb0 hb1 hb2) (AllP_cons (form3_v5 e x y h0 h1 h2 hv0 hv1 hv2 hb0 hb1 hb2) (AllP_cons (form3_v5 e x y h0 h1 h2 hv0 hv1 hv2 hb0 hb1 hb2) (AllP_cons (form3_v5 e x y h0 h1 h2 hv0 hv1 hv2 hb0 hb1 hb2) (AllP_cons (form3_v6 e x y h0 h1 h2 hv0 hv1 hv2 hb0 hb1 hb2) (AllP_cons (form3_v6 e x y h0 h1 h2 hv0 hv1 hv2 hb0 hb1 hb2) (AllP_cons (form3_v6 e x y h0 h1 h2 hv0 hv1 hv2 hb0 hb1 hb2) (AllP_cons (form3_v6 e x y h0 h1 h2 hv0 hv1 hv2 hb0 hb1 hb2) (AllP_cons ⟨⟨(by decide), trivial⟩, ⟨rfl, rfl⟩⟩ (AllP_cons ⟨(by decide), (by decide)⟩ (AllP_cons (form3_v7 e x y h0 h1 h2 hv0 hv1 hv2 hb0 hb1 hb2) (AllP_cons (form3_v8 e x y h0 h1 h2 hv0 hv1 hv2 hb0 hb1 hb2) (AllP_cons (form3_v8 e x y h0 h1 h2 hv0 hv1 hv2 hb0 hb1 hb2) (AllP_cons (form3_v8 e x y h0 h1 h2 hv0 hv1 hv2 hb0 hb1 hb2) (AllP_cons (form3_v8 e x y h0 h1 h2 hv0 hv1 hv2 hb0 hb1 hb2) (AllP_cons hb0 (AllP_cons rfl (AllP_nil)))))))))))))))))))))))))))))))))))))))))))

theorem form4_v0 (e x y : List Int) (h0 : Byt e) (h1 : Byt x) (h2 : Byt y) (hv0 : List.length e = 32) (hv1 : List.length x = 32) (hv2 : List.length y = 32) (hb0 : ((apCo_2 e) == (0 : Int)) = false) (hb1 : ((apFrom_1 x y) != (0 : Int)) = true) : ((decide ((apFrom x y) = ([0, 0, 0, 0, 0, 0, 0, 0, 0, 0, 0, 0, 0, 0, 0, 0, 0, 0, 0, 0, 0, 0, 0, 0, 0, 0, 0, 0, 0, 0, 0, 0] : List Int))) = true) := (by have k := co_no h0 hv0 hb0; have m := from_none h1 h2 hb1; simp only [coX_enc, coY_enc, coC_enc, from_self, fromC_self, chk_enc, id_enc, lwAdd_enc, add_E0, decs_enc, decsc_enc, k.1, k.2.1, k.2.2.1, k.2.2.2, m.1, m.2]; rfl)
theorem form4_v1 (e x y : List Int) (h0 : Byt e) (h1 : Byt x) (h2 : Byt y) (hv0 : List.length e = 32) (hv1 : List.length x = 32) (hv2 : List.length y = 32) (hb0 : ((apCo_2 e) == (0 : Int)) = false) (hb1 : ((apFrom_1 x y) != (0 : Int)) = true) : (((apFrom_1 x y) == (41 : Int)) = true) := (by have k := co_no h0 hv0 hb0; have m := from_none h1 h2 hb1; simp only [coX_enc, coY_enc, coC_enc, from_self, fromC_self, chk_enc, id_enc, lwAdd_enc, add_E0, decs_enc, decsc_enc, k.1, k.2.1, k.2.2.1, k.2.2.2, m.1, m.2]; rfl)
theorem form4_v2 (e x y : List Int) (h0 : Byt e) (h1 : Byt x) (h2 : Byt y) (hv0 : List.length e = 32) (hv1 : List.length x = 32) (hv2 : List.length y = 32) (hb0 : ((apCo_2 e) == (0 : Int)) = false) (hb1 : ((apFrom_1 x y) != (0 : Int)) = true) : (((apCheck e) != (41 : Int)) = false) := (by have k := co_no h0 hv0 hb0; have m := from_none h1 h2 hb1; simp only [coX_enc, coY_enc, coC_enc, from_self, fromC_self, chk_enc, id_enc, lwAdd_enc, add_E0, decs_enc, decsc_enc, k.1, k.2.1, k.2.2.1, k.2.2.2, m.1, m.2]; rfl)
theorem form4_v3 (e x y : List Int) (h0 : Byt e) (h1 : Byt x) (h2 : Byt y) (hv0 : List.length e = 32) (hv1 : List.length x = 32) (hv2 : List.length y = 32) (hb0 : ((apCo_2 e) == (0 : Int)) = false) (hb1 : ((apFrom_1 x y) != (0 : Int)) = true) : ((!(decide ((apCo_1 e) = ([0, 0, 0, 0, 0, 0, 0, 0, 0, 0, 0, 0, 0, 0, 0, 0, 0, 0, 0, 0, 0, 0, 0, 0, 0, 0, 0, 0, 0, 0, 0, 0] : List Int)))) = false) := (by have k := co_no h0 hv0 hb0; have m := from_none h1 h2 hb1; simp only [coX_enc, coY_enc, coC_enc, from_self, fromC_self, chk_enc, id_enc, lwAdd_enc, add_E0, decs_enc, decsc_enc, k.1, k.2.1, k.2.2.1, k.2.2.2, m.1, m.2]; rfl)
theorem form4_v4 (e x y : List Int) (h0 : Byt e) (h1 : Byt x) (h2 : Byt y) (hv0 : List.length e = 32) (hv1 : List.length x = 32) (hv2 : List.length y = 32) (hb0 : ((apCo_2 e) == (0 : Int)) = false) (hb1 : ((apFrom_1 x y) != (0 : Int)) = true) : ((!(decide ((apCo e) = ([0, 0, 0, 0, 0, 0, 0, 0, 0, 0, 0, 0, 0, 0, 0, 0, 0, 0, 0, 0, 0, 0, 0, 0, 0, 0, 0, 0, 0, 0, 0, 0] : List Int)))) = false) := (by have k := co_no h0 hv0 hb0; have m := from_none h1 h2 hb1; simp only [coX_enc, coY_enc, coC_enc, from_self, fromC_self, chk_enc, id_enc, lwAdd_enc, add_E0, decs_enc, decsc_enc, k.1, k.2.1, k.2.2.1, k.2.2.2, m.1, m.2]; rfl)
theorem form4_v5 (e x y : List Int) (h0 : Byt e) (h1 : Byt x) (h2 : Byt y) (hv0 : List.length e = 32) (hv1 : List.length x = 32) (hv2 : List.length y = 32) (hb0 : ((apCo_2 e) == (0 : Int)) = false) (hb1 : ((apFrom_1 x y) != (0 : Int)) = true) : (((apCo_2 e) != (41 : Int)) = false) := (by have k := co_no h0 hv0 hb0; have m := from_none h1 h2 hb1; simp only [coX_enc, coY_enc, coC_enc, from_self, fromC_self, chk_enc, id_enc, lwAdd_enc, add_E0, decs_enc, decsc_enc, k.1, k.2.1, k.2.2.1, k.2.2.2, m.1, m.2]; rfl)
set_option maxHeartbeats 1000000 in
theorem form_w4_body0 (e : List Int) (x : List Int) (y : List Int) (h0 : (Byt e)) (h1 : (Byt x)) (h2 : (Byt y)) (hv0 : List.length e = (32 : Nat)) (hv1 : List.length x = (32 : Nat)) (hv2 : List.length y = (32 : Nat)) (hb0 : ((apCo_2 e) == (0 : Int)) = false) (hb1 : ((apFrom_1 x y) != (0 : Int)) = true) (w : World) : Body Try.prog (tabOf tabVT) Try.f3 ⟨w, [], 0, noEnv⟩ (toA [.g [.ints .u8 (32 : Nat) e], .g [.ints .u8 (32 : Nat) x], .g [.ints .u8 (32 : Nat) y]]) [] (fun ys _ => ys = [.a (.b true)]) :=
  Body.of_fin (Γ := gam66) (Λ := noLam) (Ψ := noPsi) (fuel := 0) (m := 137) (c := (Try.f3.body.getD .skip)) mix tabOkVT gam66_ok rfl (rs := [.tmp 6]) rfl rfl [false, false, true, true, true, false, true, true, true, false, true, true, true, false, false, true, true, true, true, true] [.eqS 6 (.o (.a (.b true)))]
    (vc := [((.o (.a (.b (decide ((apFrom x y) = ([0, 0, 0, 0, 0, 0, 0, 0, 0, 0, 0, 0, 0, 0, 0, 0, 0, 0, 0, 0, 0, 0, 0, 0, 0, 0, 0, 0, 0, 0, 0, 0] : List Int))))) : AV) = .o (.a (.b true))), (((apFrom_1 x y) == (41 : Int)) = true), (((apFrom_1 x y) == (41 : Int)) = true), (((apFrom_1 x y) == (41 : Int)) = true), (((apFrom_1 x y) == (41 : Int)) = true), (((apFrom_1 x y) != (0 : Int)) = true), (((apCheck e) != (41 : Int)) = false), ((!(decide ((apCo_1 e) = ([0, 0, 0, 0, 0, 0, 0, 0, 0, 0, 0, 0, 0, 0, 0, 0, 0, 0, 0, 0, 0, 0, 0, 0, 0, 0, 0, 0, 0, 0, 0, 0] : List Int)))) = false), ((!(decide ((apCo_1 e) = ([0, 0, 0, 0, 0, 0, 0, 0, 0, 0, 0, 0, 0, 0, 0, 0, 0, 0, 0, 0, 0, 0, 0, 0, 0, 0, 0, 0, 0, 0, 0, 0] : List Int)))) = false), ((!(decide ((apCo_1 e) = ([0, 0, 0, 0, 0, 0, 0, 0, 0, 0, 0, 0, 0, 0, 0, 0, 0, 0, 0, 0, 0, 0, 0, 0, 0, 0, 0, 0, 0, 0, 0, 0] : List Int)))) = false), ((!(decide ((apCo_1 e) = ([0, 0, 0, 0, 0, 0, 0, 0, 0, 0, 0, 0, 0, 0, 0, 0, 0, 0, 0, 0, 0, 0, 0, 0, 0, 0, 0, 0, 0, 0, 0, 0] : List Int)))) = false), ((!(decide ((apCo e) = ([0, 0, 0, 0, 0, 0, 0, 0, 0, 0, 0, 0, 0, 0, 0, 0, 0, 0, 0, 0, 0, 0, 0, 0, 0, 0, 0, 0, 0, 0, 0, 0] : List Int)))) = false), ((!(decide ((apCo e) = ([0, 0, 0, 0, 0, 0, 0, 0, 0, 0, 0, 0, 0, 0, 0, 0, 0, 0, 0, 0, 0, 0, 0, 0, 0, 0, 0, 0, 0, 0, 0, 0] : List Int)))) = false), ((!(decide ((apCo e) = ([0, 0, 0, 0, 0, 0, 0, 0, 0, 0, 0, 0, 0, 0, 0, 0, 0, 0, 0, 0, 0, 0, 0, 0, 0, 0, 0, 0, 0, 0, 0, 0] : List Int)))) = false), ((!(decide ((apCo e) = ([0, 0, 0, 0, 0, 0, 0, 0, 0, 0, 0, 0, 0, 0, 0, 0, 0, 0, 0, 0, 0, 0, 0, 0, 0, 0, 0, 0, 0, 0, 0, 0] : List Int)))) = false), (((apCo_2 e) != (41 : Int)) = false), (((apCo_2 e) != (41 : Int)) = false), (((apCo_2 e) != (41 : Int)) = false), (((apCo_2 e) != (41 : Int)) = false), (((apCo_2 e) == (0 : Int)) = false), (false = false)]) (by kernel_rfl)
    (AllP_cons ((congrArg (fun z => AV.o (.a (.b z))) (form4_v0 e x y h0 h1 h2 hv0 hv1 hv2 hb0 hb1))) (AllP_cons (form4_v1 e x y h0 h1 h2 hv0 hv1 hv2 hb0 hb1) (AllP_cons (form4_v1 e x y h0 h1 h2 hv0 hv1 hv2 hb0 hb1) (AllP_cons (form4_v1 e x y h0 h1 h2 hv0 hv1 hv2 hb0 hb1) (AllP_cons (form4_v1 e x y h0 h1 h2 hv0 hv1 hv2 hb0 hb1) (AllP_cons hb1 (AllP_cons (form4_v2 e x y h0 h1 h2 hv0 hv1 hv2 hb0 hb1) (AllP_cons (form4_v3 e x y h0 h1 h2 hv0 hv1 hv2 hb0 hb1) (AllP_cons (form4_v3 e x y h0 h1 h2 hv0 hv1 hv2 hb0 hb1) (AllP_cons (form4_v3 e x y h0 h1 h2 hv0 hv1 hv2 hb0 hb1) (AllP_cons (form4_v3 e x y h0 h1 h2 hv0 hv1 hv2 hb0 hb1) (AllP_cons (form4_v4 e x y h0 h1 h2 hv0 hv1 hv2 hb0 hb1) (AllP_cons (form4_v4 e x y h0 h1 h2 hv0 hv1 hv2 hb0 hb1) (AllP_cons (form4_v4 e x y h0 h1 h2 hv0 hv1 hv2 hb0 hb1) (AllP_cons (form4_v4 e x y h0 h1 h2 hv0 hv1 hv2 hb0 hb1) (AllP_cons (form4_v5 e x y h0 h1 h2 hv0 hv1 hv2 hb0 hb1) (AllP_cons (form4_v5 e x y h0 h1 h2 hv0 hv1 hv2 hb0 hb1) (AllP_cons (form4_v5 e x y h0 h1 h2 hv0 hv1 hv2 hb0 hb1) (AllP_cons (form4_v5 e x y h0 h1 h2 hv0 hv1 hv2 hb0 hb1) (AllP_cons hb0 (AllP_cons rfl (AllP_nil))))))))))))))))))))))

theorem form5_v0 (e x y : List Int) (h0 : Byt e) (h1 : Byt x) (h2 : Byt y) (hv0 : List.length e = 32) (hv1 : List.length x = 32) (hv2 : List.length y = 32) (hb0 : ((apCo_2 e) == (0 : Int)) = false) (hb1 : ((apFrom_1 x y) != (0 : Int)) = false) : ((decide ((apFrom (apCo (apFrom x y)) (apCo_1 (apFrom x y))) = (apFrom x y))) = true) := (by have k := co_no h0 hv0 hb0; obtain ⟨P, m⟩ := from_some h1 h2 hb1; simp only [coX_enc, coY_enc, coC_enc, from_self, fromC_self, chk_enc, id_enc, lwAdd_enc, add_E0, decs_enc, decsc_enc, k.1, k.2.1, k.2.2.1, k.2.2.2, m.1, m.2]; rfl)
theorem form5_v1 (e x y : List Int) (h0 : Byt e) (h1 : Byt x) (h2 : Byt y) (hv0 : List.length e = 32) (hv1 : List.length x = 32) (hv2 : List.length y = 32) (hb0 : ((apCo_2 e) == (0 : Int)) = false) (hb1 : ((apFrom_1 x y) != (0 : Int)) = false) : (((apFrom_1 (apCo (apFrom x y)) (apCo_1 (apFrom x y))) == (0 : Int)) = true) := (by have k := co_no h0 hv0 hb0; obtain ⟨P, m⟩ := from_some h1 h2 hb1; simp only [coX_enc, coY_enc, coC_enc, from_self, fromC_self, chk_enc, id_enc, lwAdd_enc, add_E0, decs_enc, decsc_enc, k.1, k.2.1, k.2.2.1, k.2.2.2, m.1, m.2]; rfl)
theorem form5_v2 (e x y : List Int) (h0 : Byt e) (h1 : Byt x) (h2 : Byt y) (hv0 : List.length e = 32) (hv1 : List.length x = 32) (hv2 : List.length y = 32) (hb0 : ((apCo_2 e) == (0 : Int)) = false) (hb1 : ((apFrom_1 x y) != (0 : Int)) = false) : (((apCo_2 (apFrom x y)) == (0 : Int)) = true) := (by have k := co_no h0 hv0 hb0; obtain ⟨P, m⟩ := from_some h1 h2 hb1; simp only [coX_enc, coY_enc, coC_enc, from_self, fromC_self, chk_enc, id_enc, lwAdd_enc, add_E0, decs_enc, decsc_enc, k.1, k.2.1, k.2.2.1, k.2.2.2, m.1, m.2]; rfl)
theorem form5_v3 (e x y : List Int) (h0 : Byt e) (h1 : Byt x) (h2 : Byt y) (hv0 : List.length e = 32) (hv1 : List.length x = 32) (hv2 : List.length y = 32) (hb0 : ((apCo_2 e) == (0 : Int)) = false) (hb1 : ((apFrom_1 x y) != (0 : Int)) = false) : (((apCheck e) != (41 : Int)) = false) := (by have k := co_no h0 hv0 hb0; obtain ⟨P, m⟩ := from_some h1 h2 hb1; simp only [coX_enc, coY_enc, coC_enc, from_self, fromC_self, chk_enc, id_enc, lwAdd_enc, add_E0, decs_enc, decsc_enc, k.1, k.2.1, k.2.2.1, k.2.2.2, m.1, m.2]; rfl)
theorem form5_v4 (e x y : List Int) (h0 : Byt e) (h1 : Byt x) (h2 : Byt y) (hv0 : List.length e = 32) (hv1 : List.length x = 32) (hv2 : List.length y = 32) (hb0 : ((apCo_2 e) == (0 : Int)) = false) (hb1 : ((apFrom_1 x y) != (0 : Int)) = false) : ((!(decide ((apCo_1 e) = ([0, 0, 0, 0, 0, 0, 0, 0, 0, 0, 0, 0, 0, 0, 0, 0, 0, 0, 0, 0, 0, 0, 0, 0, 0, 0, 0, 0, 0, 0, 0, 0] : List Int)))) = false) := (by have k := co_no h0 hv0 hb0; obtain ⟨P, m⟩ := from_some h1 h2 hb1; simp only [coX_enc, coY_enc, coC_enc, from_self, fromC_self, chk_enc, id_enc, lwAdd_enc, add_E0, decs_enc, decsc_enc, k.1, k.2.1, k.2.2.1, k.2.2.2, m.1, m.2]; rfl)
theorem form5_v5 (e x y : List Int) (h0 : Byt e) (h1 : Byt x) (h2 : Byt y) (hv0 : List.length e = 32) (hv1 : List.length x = 32) (hv2 : List.length y = 32) (hb0 : ((apCo_2 e) == (0 : Int)) = false) (hb1 : ((apFrom_1 x y) != (0 : Int)) = false) : ((!(decide ((apCo e) = ([0, 0, 0, 0, 0, 0, 0, 0, 0, 0, 0, 0, 0, 0, 0, 0, 0, 0, 0, 0, 0, 0, 0, 0, 0, 0, 0, 0, 0, 0, 0, 0] : List Int)))) = false) := (by have k := co_no h0 hv0 hb0; obtain ⟨P, m⟩ := from_some h1 h2 hb1; simp only [coX_enc, coY_enc, coC_enc, from_self, fromC_self, chk_enc, id_enc, lwAdd_enc, add_E0, decs_enc, decsc_enc, k.1, k.2.1, k.2.2.1, k.2.2.2, m.1, m.2]; rfl)
theorem form5_v6 (e x y : List Int) (h0 : Byt e) (h1 : Byt x) (h2 : Byt y) (hv0 : List.length e = 32) (hv1 : List.length x = 32) (hv2 : List.length y = 32) (hb0 : ((apCo_2 e) == (0 : Int)) = false) (hb1 : ((apFrom_1 x y) != (0 : Int)) = false) : (((apCo_2 e) != (41 : Int)) = false) := (by have k := co_no h0 hv0 hb0; obtain ⟨P, m⟩ := from_some h1 h2 hb1; simp only [coX_enc, coY_enc, coC_enc, from_self, fromC_self, chk_enc, id_enc, lwAdd_enc, add_E0, decs_enc, decsc_enc, k.1, k.2.1, k.2.2.1, k.2.2.2, m.1, m.2]; rfl)
set_option maxHeartbeats 1000000 in
theorem form_w5_body0 (e : List Int) (x : List Int) (y : List Int) (h0 : (Byt e)) (h1 : (Byt x)) (h2 : (Byt y)) (hv0 : List.length e = (32 : Nat)) (hv1 : List.length x = (32 : Nat)) (hv2 : List.length y = (32 : Nat)) (hb0 : ((apCo_2 e) == (0 : Int)) = false) (hb1 : ((apFrom_1 x y) != (0 : Int)) = false) (w : World) : Body Try.prog (tabOf tabVT) Try.f3 ⟨w, [], 0, noEnv⟩ (toA [.g [.ints .u8 (32 : Nat) e], .g [.ints .u8 (32 : Nat) x], .g [.ints .u8 (32 : Nat) y]]) [] (fun ys _ => ys = [.a (.b true)]) :=
  Body.of_fin (Γ := gam66) (Λ := noLam) (Ψ := noPsi) (fuel := 0) (m := 137) (c := (Try.f3.body.getD .skip)) mix tabOkVT gam66_ok rfl (rs := [.tmp 6]) rfl rfl [false, false, true, true, true, false, true, true, true, false, true, true, true, false, false, false, true, true, true, true, true, true, true] [.eqS 6 (.o (.a (.b true)))]
    (vc := [((.o (.a (.b (decide ((apFrom (apCo (apFrom x y)) (apCo_1 (apFrom x y))) = (apFrom x y))))) : AV) = .o (.a (.b true))), (((apFrom_1 (apCo (apFrom x y)) (apCo_1 (apFrom x y))) == (0 : Int)) = true), (((apFrom_1 (apCo (apFrom x y)) (apCo_1 (apFrom x y))) == (0 : Int)) = true), (((apFrom_1 (apCo (apFrom x y)) (apCo_1 (apFrom x y))) == (0 : Int)) = true), (((apFrom_1 (apCo (apFrom x y)) (apCo_1 (apFrom x y))) == (0 : Int)) = true), (((apCo_2 (apFrom x y)) == (0 : Int)) = true), (((apCo_2 (apFrom x y)) == (0 : Int)) = true), (((apCo_2 (apFrom x y)) == (0 : Int)) = true), (((apFrom_1 x y) != (0 : Int)) = false), (((apCheck e) != (41 : Int)) = false), ((!(decide ((apCo_1 e) = ([0, 0, 0, 0, 0, 0, 0, 0, 0, 0, 0, 0, 0, 0, 0, 0, 0, 0, 0, 0, 0, 0, 0, 0, 0, 0, 0, 0, 0, 0, 0, 0] : List Int)))) = false), ((!(decide ((apCo_1 e) = ([0, 0, 0, 0, 0, 0, 0, 0, 0, 0, 0, 0, 0, 0, 0, 0, 0, 0, 0, 0, 0, 0, 0, 0, 0, 0, 0, 0, 0, 0, 0, 0] : List Int)))) = false), ((!(decide ((apCo_1 e) = ([0, 0, 0, 0, 0, 0, 0, 0, 0, 0, 0, 0, 0, 0, 0, 0, 0, 0, 0, 0, 0, 0, 0, 0, 0, 0, 0, 0, 0, 0, 0, 0] : List Int)))) = false), ((!(decide ((apCo_1 e) = ([0, 0, 0, 0, 0, 0, 0, 0, 0, 0, 0, 0, 0, 0, 0, 0, 0, 0, 0, 0, 0, 0, 0, 0, 0, 0, 0, 0, 0, 0, 0, 0] : List Int)))) = false), ((!(decide ((apCo e) = ([0, 0, 0, 0, 0, 0, 0, 0, 0, 0, 0, 0, 0, 0, 0, 0, 0, 0, 0, 0, 0, 0, 0, 0, 0, 0, 0, 0, 0, 0, 0, 0] : List Int)))) = false), ((!(decide ((apCo e) = ([0, 0, 0, 0, 0, 0, 0, 0, 0, 0, 0, 0, 0, 0, 0, 0, 0, 0, 0, 0, 0, 0, 0, 0, 0, 0, 0, 0, 0, 0, 0, 0] : List Int)))) = false), ((!(decide ((apCo e) = ([0, 0, 0, 0, 0, 0, 0, 0, 0, 0, 0, 0, 0, 0, 0, 0, 0, 0, 0, 0, 0, 0, 0, 0, 0, 0, 0, 0, 0, 0, 0, 0] : List Int)))) = false), ((!(decide ((apCo e) = ([0, 0, 0, 0, 0, 0, 0, 0, 0, 0, 0, 0, 0, 0, 0, 0, 0, 0, 0, 0, 0, 0, 0, 0, 0, 0, 0, 0, 0, 0, 0, 0] : List Int)))) = false), (((apCo_2 e) != (41 : Int)) = false), (((apCo_2 e) != (41 : Int)) = false), (((apCo_2 e) != (41 : Int)) = false), (((apCo_2 e) != (41 : Int)) = false), (((apCo_2 e) == (0 : Int)) = false), (false = false)]) (by kernel_rfl)
    (AllP_cons ((congrArg (fun z => AV.o (.a (.b z))) (form5_v0 e x y h0 h1 h2 hv0 hv1 hv2 hb0 hb1))) (AllP_cons (form5_v1 e x y h0 h1 h2 hv0 hv1 hv2 hb0 hb1) (AllP_cons (form5_v1 e x y h0 h1 h2 hv0 hv1 hv2 hb0 hb1) (AllP_cons (form5_v1 e x y h0 h1 h2 hv0 hv1 hv2 hb0 hb1) (AllP_cons (form5_v1 e x y h0 h1 h2 hv0 hv1 hv2 hb0 hb1) (AllP_cons (form5_v2 e x y h0 h1 h2 hv0 hv1 hv2 hb0 hb1) (AllP_cons (form5_v2 e x y h0 h1 h2 hv0 hv1 hv2 hb0 hb1) (AllP_cons (form5_v2 e x y h0 h1 h2 hv0 hv1 hv2 hb0 hb1) (AllP_cons hb1 (AllP_cons (form5_v3 e x y h0 h1 h2 hv0 hv1 hv2 hb0 hb1) (AllP_cons (form5_v4 e x y h0 h1 h2 hv0 hv1 hv2 hb0 hb1) (AllP_cons (form5_v4 e x y h0 h1 h2 hv0 hv1 hv2 hb0 hb1) (AllP_cons (form5_v4 e x y h0 h1 h2 hv0 hv1 hv2 hb0 hb1) (AllP_cons (form5_v4 e x y h0 h1 h2 hv0 hv1 hv2 hb0 hb1) (AllP_cons (form5_v5 e x y h0 h1 h2 hv0 hv1 hv2 hb0 hb1) (AllP_cons (form5_v5 e x y h0 h1 h2 hv0 hv1 hv2 hb0 hb1) (AllP_cons (form5_v5 e x y h0 h1 h2 hv0 hv1 hv2 hb0 hb1) (AllP_cons (form5_v5 e x y h0 h1 h2 hv0 hv1 hv2 hb0 hb1) (AllP_cons (form5_v6 e x y h0 h1 h2 hv0 hv1 hv2 hb0 hb1) (AllP_cons (form5_v6 e x y h0 h1 h2 hv0 hv1 hv2 hb0 hb1) (AllP_cons (form5_v6 e x y h0 h1 h2 hv0 hv1 hv2 hb0 hb1) (AllP_cons (form5_v6 e x y h0 h1 h2 hv0 hv1 hv2 hb0 hb1) (AllP_cons hb0 (AllP_cons rfl (AllP_nil)))))))))))))))))))))))))

set_option maxHeartbeats 1000000 in
theorem form_body (e : List Int) (x : List Int) (y : List Int) (h0 : (Byt e)) (h1 : (Byt x)) (h2 : (Byt y)) (w : World) : Body Try.prog (tabOf tabVT) Try.f3 ⟨w, [], 0, noEnv⟩ (toA [.g [.ints .u8 (32 : Nat) e], .g [.ints .u8 (32 : Nat) x], .g [.ints .u8 (32 : Nat) y]]) [] (fun ys _ => ys = [.a (.b true)]) :=
  Body.lens (c := (Try.f3.body.getD .skip)) rfl fun h => by
    cases hb0 : ((apCo_2 e) == (0 : Int))
    · cases hb1 : ((apFrom_1 x y) != (0 : Int))
      · exact (form_w5_body0 e x y h0 h1 h2 (h.vals 0 _ _ _ rfl) (h.vals 1 _ _ _ rfl) (h.vals 2 _ _ _ rfl) hb0 hb1 w).mono fun _ _ hx => hx.trans rfl
      · exact (form_w4_body0 e x y h0 h1 h2 (h.vals 0 _ _ _ rfl) (h.vals 1 _ _ _ rfl) (h.vals 2 _ _ _ rfl) hb0 hb1 w).mono fun _ _ hx => hx.trans rfl
    · cases hb1 : ((apFrom_1 (apCo_1 e) (apCo e)) == (0 : Int))
      · cases hb2 : ((apFrom_1 x y) != (0 : Int))
        · exact (form_w3_body0 e x y h0 h1 h2 (h.vals 0 _ _ _ rfl) (h.vals 1 _ _ _ rfl) (h.vals 2 _ _ _ rfl) hb0 hb1 hb2 w).mono fun _ _ hx => hx.trans rfl
        · exact (form_w2_body0 e x y h0 h1 h2 (h.vals 0 _ _ _ rfl) (h.vals 1 _ _ _ rfl) (h.vals 2 _ _ _ rfl) hb0 hb1 hb2 w).mono fun _ _ hx => hx.trans rfl
      · cases hb2 : ((apFrom_1 x y) != (0 : Int))
        · exact (form_w1_body0 e x y h0 h1 h2 (h.vals 0 _ _ _ rfl) (h.vals 1 _ _ _ rfl) (h.vals 2 _ _ _ rfl) hb0 hb1 hb2 w).mono fun _ _ hx => hx.trans rfl
        · exact (form_w0_body0 e x y h0 h1 h2 (h.vals 0 _ _ _ rfl) (h.vals 1 _ _ _ rfl) (h.vals 2 _ _ _ rfl) hb0 hb1 hb2 w).mono fun _ _ hx => hx.trans rfl

end Go.Proofs.Ytodiojpakfjehaa.X

/- The core, part 5 of 5: blocks of memory known by number, and an evaluator over loaded code, shown sound. -/
/- Rows: a law that answers true and leaves what was there as it was: from its body to its post; arguments opened. -/
namespace Go.Proofs.Ytodiojpakfjehaa.R
open Go Go.Proofs Go.ChangeShapes Go.WideShapes Go.ChangeAt Go.RowKit Go.Proofs.Ytodiojpakfjehaa.X
set_option linter.unusedVariables false

theorem below {W W' : World} (g : Grow W W') : Below W.heap.size W W' := ⟨g.os, g.tape, g.output, g.size, g.old⟩

section post
variable {H : Type} {enc : TypeId × Value → H} {P : Program}

/-- types that read again -/
def Reads (P : Program) (ts : List TypeId) : Bool := laidOutB P && ts.all fun t => P.readableRec t && decide (t < P.types.size)

theorem trodAll_grow (hl : laidOutB P = true) {W W' : World} (g : Grow W W') {sp : Nat → Bool} : ∀ {ts : List TypeId} {vs : List Value} {ds : List (DataW H)} {ps : List MemPlace}, (ts.all fun t => P.readableRec t && decide (t < P.types.size)) = true →
    DataW.TrodAll enc P W 0 (fun _ => true) true ts vs ds ps → (∀ p ∈ ps, p.block < W.heap.size) → (∀ p ∈ ps, sp p.block = true) → DataW.TrodAll enc P W' 0 sp true ts vs ds ps
  | [], [], [], ps, _, h, _, _ => h
  | [], _ :: _, _, _, _, h, _, _ => h.elim
  | [], [], _ :: _, _, _, h, _, _ => h.elim
  | _ :: _, [], _, _, _, h, _, _ => h.elim
  | _ :: _, _ :: _, [], _, _, h, _, _ => h.elim
  | t :: ts, v :: vs, d :: ds, ps, ht, h, hlt, hsp => by
    obtain ⟨p, q, hd, hr, rfl⟩ := h
    simp only [List.all_cons, Bool.and_eq_true, decide_eq_true_eq] at ht
    exact ⟨p, q, WideElems.Trod_stays hl ht.1.1 ht.1.2 hd (fun x hx => (below g).same (hlt x (by simp [hx]))) (fun x hx => hsp x (by simp [hx])),
      trodAll_grow hl g ht.2 hr (fun x hx => hlt x (by simp [hx])) (fun x hx => hsp x (by simp [hx])), rfl⟩

theorem post_true {f : Func} {s : ChangeSpec} {W W' : World} {args : Array Value} {ds : List (DataW H)} {before : List MemPlace} {tb : TypeId}
    (hreads : Reads P f.params.toList = true) (hvars : s.vars = []) (hfn : s.fn H ds = { results := [.lit (.bool true)], args := ds }) (hrt : f.resultTypes = #[tb]) (htb : P.underlying tb = some .bool)
    (hW : DataW.Whole enc P f.params.toList s.vars false W args.toList ds [] before) (g : Grow W W') : s.post enc P f false true false false W args (.bool true) W' := by
  unfold Reads at hreads
  rw [Bool.and_eq_true] at hreads
  have hW0 := hW
  obtain ⟨p, q, hA, hV, rfl, hfz, hnd⟩ := hW
  rw [hvars] at hV
  obtain ⟨_, rfl⟩ := trodVars_none hV
  have hlt : ∀ x ∈ p ++ [], x.block < W.heap.size := fun x hx => by simpa using hW0.lt x hx
  have hfn' : s.fn H (ds ++ []) = { results := [.lit (.bool true)], args := ds } := by rw [List.append_nil]; exact hfn
  refine ⟨ds, [], p ++ [], [], p ++ [], [], hW0, ?_, ?_, ?_, (below g).frame _, fun h => by cases h⟩
  · rw [hfn', hrt]; exact trodAll_cons_mk (shut_bool htb _) trodAll_mk0
  · rw [hfn']
    rw [List.append_nil] at hlt ⊢
    exact trodAll_grow hreads.1 g hreads.2 hA hlt (fun x hx => by simpa using hlt x hx)
  · rw [hfn', hvars]; exact rfl
end post

/-- what a list of arguments is, abstractly, with blocks from the i-th on -/
def Opened (W : World) (i : Nat) (vs : List Value) (avs : List AV) (K : Know) : Prop :=
  ∃ ρ : List (Option Ref), ρ.length = K.length ∧ ∀ β : Env, (∀ j, j < ρ.length → β (i + j) = (ρ[j]?).join) →
    (∀ j b, K.at j = some b → b.own = false ∧ b.holds β W (i + j) ∧ ∀ r, β (i + j) = some r → r.blk < W.heap.size) ∧ allC β avs vs

theorem Opened.nil {W : World} {i : Nat} : Opened W i [] [] [] := ⟨[], rfl, fun β _ => ⟨fun j b h => by simp [Know.at] at h, rfl⟩⟩

theorem allC_app {β : Env} : ∀ {a b : List AV} {x y : List Value}, allC β a x → allC β b y → allC β (a ++ b) (x ++ y)
  | [], _, _, _, h, h' => by cases h; exact h'
  | _ :: _, _, _, _, ⟨v, r, hv, hc, hr⟩, h' => by subst hv; exact ⟨v, _, rfl, hc, allC_app hr h'⟩

theorem Opened.app {W : World} {i : Nat} {vs vs' : List Value} {avs avs' : List AV} {K K' : Know} (h : Opened W i vs avs K) (h' : Opened W (i + K.length) vs' avs' K') : Opened W i (vs ++ vs') (avs ++ avs') (K ++ K') := by
  obtain ⟨ρ, hl, hρ⟩ := h
  obtain ⟨ρ', hl', hρ'⟩ := h'
  refine ⟨ρ ++ ρ', by simp [hl, hl'], fun β hβ => ?_⟩
  obtain ⟨h1, h2⟩ := hρ β fun j hj => by rw [hβ j (by simp; omega), List.getElem?_append_left hj]
  obtain ⟨h3, h4⟩ := hρ' β fun j hj => by
    rw [Nat.add_assoc, hβ (K.length + j) (by simp; omega), List.getElem?_append_right (by omega)]
    congr 2; omega
  refine ⟨fun j b hb => ?_, allC_app h2 h4⟩
  by_cases hj : j < K.length
  · refine h1 j b ?_
    unfold Know.at at hb ⊢; rwa [List.getElem?_append_left hj] at hb
  · have := h3 (j - K.length) b (by unfold Know.at at hb ⊢; rwa [List.getElem?_append_right (by omega)] at hb)
    rw [show i + K.length + (j - K.length) = i + j from by omega] at this
    exact this

/-- a value without places -/
theorem Opened.val {W : World} {i : Nat} {v : Value} {x : V1} (h : ∀ β : Env, x.con β v) : Opened W i [v] [.o x] [] :=
  ⟨[], rfl, fun β _ => ⟨fun j b hb => by simp [Know.at] at hb, ⟨v, [], rfl, h β, rfl⟩⟩⟩

/-- a slice of integers -/
theorem Opened.sl {W : World} {i : Nat} {k : IntKind} {a0 : Option Addr} {len cap : Nat} {L : List Int} (hL : L.length = len) (hlc : len ≤ cap)
    (hc : 0 < cap → ∃ b off arr ty fr, a0 = some ⟨b, off, none⟩ ∧ W.heap[b]? = some (.cells arr ty fr) ∧ off + len ≤ arr.size ∧ ∀ i x, L[i]? = some x → arr[off + i]? = some (.int k x)) :
    Opened W i [.slice a0 len cap] [.o (.a (.sl i 0 len cap))] [some ⟨false, [.ints k len L]⟩] := by
  have hbk : ∀ j (bk : Blk), Know.at [some ⟨false, [.ints k len L]⟩] j = some bk → j = 0 ∧ bk = ⟨false, [.ints k len L]⟩ := by
    intro j bk hj
    match j, hj with
    | 0, hj => exact ⟨rfl, (Option.some.inj hj).symm⟩
    | j + 1, hj => simp [Know.at] at hj
  by_cases h0 : 0 < cap
  · obtain ⟨b, off, arr, ty, fr, rfl, hh, hs, hx⟩ := hc h0
    have hlt : b < W.heap.size := (Array.getElem?_eq_some_iff.1 hh).1
    refine ⟨[some ⟨b, off, arr.size⟩], rfl, fun β hβ => ?_⟩
    have hb := hβ 0 (by simp)
    rw [Nat.add_zero] at hb
    have hb : β i = some ⟨b, off, arr.size⟩ := hb
    refine ⟨fun j bk hj => ?_, _, [], rfl, ⟨_, rfl, hlc, fun _ => ⟨_, hb, rfl⟩⟩, rfl⟩
    obtain ⟨rfl, rfl⟩ := hbk j bk hj
    rw [Nat.add_zero]
    refine ⟨rfl, ⟨L.map (Value.int k), ⟨_, [], by simp, ⟨hL, rfl⟩, rfl⟩, .inr ⟨_, arr, ty, fr, hb, hh, rfl, by simp; omega, ?_, fun h => by cases h⟩⟩, fun r hr => by rw [hb] at hr; cases hr; exact hlt⟩
    intro i v hv
    rw [List.getElem?_map, Option.map_eq_some_iff] at hv
    obtain ⟨x, hx', rfl⟩ := hv
    exact hx i x hx'
  · have hn : L = [] := List.length_eq_zero_iff.1 (by omega)
    subst hn
    have hl0 : len = 0 := by omega
    subst hl0
    refine ⟨[none], rfl, fun β hβ => ?_⟩
    have hb : β i = none := hβ 0 (by simp)
    refine ⟨fun j bk hj => ?_, _, [], rfl, ⟨_, rfl, hlc, fun h => absurd h h0⟩, rfl⟩
    obtain ⟨rfl, rfl⟩ := hbk j bk hj
    rw [Nat.add_zero]
    exact ⟨rfl, ⟨[], ⟨[], [], rfl, ⟨rfl, rfl⟩, rfl⟩, .inl ⟨rfl, .inl rfl⟩⟩, fun r hr => by rw [hb] at hr; cases hr⟩

section args
variable {H : Type} {enc : TypeId × Value → H} {P : Program} {W : World} {base : Nat} {sp : Nat → Bool}

/-- an argument [n]int -/
theorem arr_arg {t e : TypeId} {n : Nat} {k : IntKind} {v : Value} {d : DataW H} {p : List MemPlace} (ht : P.underlying t = some (.array n e)) (he : P.underlying e = some (.int k)) (hc : P.cellsOf e = 1) (hn : P.cellsOf t = n)
    (hval : Value.okWide P W .any base t v) (h : DataW.Trod enc P W 0 (fun _ => true) true t v d p) :
    ∃ S : List Int, S.length = n ∧ (∀ x ∈ S, (Lit.int k x).wf = true) ∧ ∀ i, Opened W i [v] [.o (.g [.ints k n S])] [] := by
  have hv : ∃ cs : Array Value, v = .agg cs ∧ cs.size = n := by
    unfold Value.okWide at hval
    rw [ht] at hval
    obtain ⟨cs, rfl, hsz, _⟩ := hval
    exact ⟨cs, rfl, hsz.trans hn⟩
  obtain ⟨cs, rfl, hsz⟩ := hv
  obtain ⟨fuel, hf⟩ := h
  obtain ⟨xs, m, rfl, _, hlen, hxl, hel⟩ := DataW.trod_array ht hf
  have hcells : (Value.agg cs).cells.toList = cs.toList := rfl
  rw [hcells] at hel
  have key : ∀ j, j < n → ∃ z : Int, cs.toList[j]? = some (.int k z) ∧ (Lit.int k z).wf = true := by
    intro j hj
    have h1 := hel j hj
    rw [hc, Nat.mul_one] at h1
    have hjx : j < xs.length := by omega
    rw [List.getElem?_eq_getElem hjx] at h1
    obtain ⟨z, hz, _, hw⟩ := DataW.trod_int he h1
    refine ⟨z, ?_, hw⟩
    have := congrArg (·[0]?) hz
    simpa [List.getElem?_take, List.getElem?_drop] using this
  have hS : ∃ S : List Int, S.length = n ∧ cs.toList = S.map (Value.int k) ∧ ∀ x ∈ S, (Lit.int k x).wf = true := by
    have hl : cs.toList.length = n := by simpa using hsz
    revert key hl
    generalize cs.toList = l
    clear hel hxl hlen hsz hf hcells hval hn ht
    intro key hl
    induction l generalizing n with
    | nil => exact ⟨[], hl, rfl, by simp⟩
    | cons a l ih =>
      cases n with
      | zero => cases hl
      | succ n =>
        obtain ⟨z, hz, hw⟩ := key 0 (by omega)
        obtain ⟨S, h1, h2, h3⟩ := ih (n := n) (fun j hj => by simpa using key (j + 1) (by omega)) (by simpa using hl)
        simp only [List.getElem?_cons_zero, Option.some.injEq] at hz
        exact ⟨z :: S, by simp [h1], by simp [hz, h2], by simpa using ⟨hw, h3⟩⟩
  obtain ⟨S, h1, h2, h3⟩ := hS
  refine ⟨S, h1, h3, fun i => Opened.val fun β => ⟨cs.toList, by simp, _, [], by simp, ⟨h1, h2⟩, rfl⟩⟩
end args

end Go.Proofs.Ytodiojpakfjehaa.R

/- Arguments that are structs: opened cell by cell. -/
namespace Go.Proofs.Ytodiojpakfjehaa.R
open Go Go.Proofs Go.ChangeShapes Go.WideShapes Go.ChangeAt Go.RowKit Go.Proofs.Ytodiojpakfjehaa.X
set_option linter.unusedVariables false

/-- a row of cells, abstractly, with blocks from the i-th on -/
def OpenC (W : World) (i : Nat) (cs : List Value) (l : List Atom) (K : Know) : Prop :=
  ∃ ρ : List (Option Ref), ρ.length = K.length ∧ ∀ β : Env, (∀ j, j < ρ.length → β (i + j) = (ρ[j]?).join) →
    (∀ j b, K.at j = some b → b.own = false ∧ b.holds β W (i + j) ∧ ∀ r, β (i + j) = some r → r.blk < W.heap.size) ∧ cons β l cs

theorem OpenC.nil {W : World} {i : Nat} : OpenC W i [] [] [] := ⟨[], rfl, fun β _ => ⟨fun j b h => by simp [Know.at] at h, rfl⟩⟩

theorem cons_app {β : Env} : ∀ {a b : List Atom} {x y : List Value}, cons β a x → cons β b y → cons β (a ++ b) (x ++ y)
  | [], _, _, _, h, h' => by cases h; exact h'
  | _ :: _, _, _, _, ⟨v, r, hv, hc, hr⟩, h' => by subst hv; exact ⟨v, _, by rw [List.append_assoc], hc, cons_app hr h'⟩

theorem OpenC.app {W : World} {i : Nat} {vs vs' : List Value} {l l' : List Atom} {K K' : Know} (h : OpenC W i vs l K) (h' : OpenC W (i + K.length) vs' l' K') : OpenC W i (vs ++ vs') (l ++ l') (K ++ K') := by
  obtain ⟨ρ, hl, hρ⟩ := h
  obtain ⟨ρ', hl', hρ'⟩ := h'
  refine ⟨ρ ++ ρ', by simp [hl, hl'], fun β hβ => ?_⟩
  obtain ⟨h1, h2⟩ := hρ β fun j hj => by rw [hβ j (by simp; omega), List.getElem?_append_left hj]
  obtain ⟨h3, h4⟩ := hρ' β fun j hj => by
    rw [Nat.add_assoc, hβ (K.length + j) (by simp; omega), List.getElem?_append_right (by omega)]
    congr 2; omega
  refine ⟨fun j b hb => ?_, cons_app h2 h4⟩
  by_cases hj : j < K.length
  · refine h1 j b ?_
    unfold Know.at at hb ⊢; rwa [List.getElem?_append_left hj] at hb
  · have := h3 (j - K.length) b (by unfold Know.at at hb ⊢; rwa [List.getElem?_append_right (by omega)] at hb)
    rw [show i + K.length + (j - K.length) = i + j from by omega] at this
    exact this

theorem OpenC.agg {W : World} {i : Nat} {cs : Array Value} {l : List Atom} {K : Know} (h : OpenC W i cs.toList l K) : Opened W i [.agg cs] [.o (.g l)] K := by
  obtain ⟨ρ, hl, hρ⟩ := h
  refine ⟨ρ, hl, fun β hβ => ?_⟩
  obtain ⟨h1, h2⟩ := hρ β hβ
  exact ⟨h1, _, [], rfl, ⟨cs.toList, by simp, h2⟩, rfl⟩

theorem OpenC.one {W : World} {i : Nat} {v : Value} {x : Atom} {K : Know} (h : OpenC W i [v] [x] K) : Opened W i [v] [.o (.a x)] K := by
  obtain ⟨ρ, hl, hρ⟩ := h
  refine ⟨ρ, hl, fun β hβ => ?_⟩
  obtain ⟨h1, x, y, h2, h3, h4⟩ := hρ β hβ
  cases h4
  rw [List.append_nil] at h2
  subst h2
  exact ⟨h1, _, [], rfl, h3, rfl⟩

/-- cells without places -/
theorem OpenC.val {W : World} {i : Nat} {vs : List Value} {l : List Atom} (h : ∀ β : Env, cons β l vs) : OpenC W i vs l [] :=
  ⟨[], rfl, fun β _ => ⟨fun j b hb => by simp [Know.at] at hb, h β⟩⟩

section args
variable {H : Type} {enc : TypeId × Value → H} {P : Program} {W : World} {base : Nat} {sp : Nat → Bool}

theorem OpenC.ints {i : Nat} {k : IntKind} {n : Nat} {S : List Int} (h : S.length = n) : OpenC W i (S.map (Value.int k)) [.ints k n S] [] :=
  OpenC.val fun β => ⟨_, [], by simp, ⟨h, rfl⟩, rfl⟩

theorem OpenC.int {i : Nat} {k : IntKind} {n : Int} : OpenC W i [.int k n] [.i k n] [] := OpenC.val fun β => ⟨_, [], by simp, rfl, rfl⟩

end args
end Go.Proofs.Ytodiojpakfjehaa.R

/-
  FOR A PROOF OF AN '..UptoSaid': WHAT THE BOUND GIVES. Copy it as <Name>Bulk.lean (put your seat's Name for Ytodiojpakfjehaa, the bound of 'uptoSmall' for 1048576), name it in GOCLAIM.json's 'order' behind <Name>Rows. By an AI agent, Sun Nov 15 2026. No person has read it. No macro, syntax, notation, axiom, sorry.
-/
namespace Go.Proofs.Ytodiojpakfjehaa.bulks

theorem append {H : Type} (l r : List (DataW H)) : Rows.uptoBulkAll (l ++ r) = Rows.uptoBulkAll l + Rows.uptoBulkAll r := by
  induction l with
  | nil => simp [Rows.uptoBulkAll]
  | cons x l ih => simp only [List.cons_append, Rows.uptoBulkAll, ih]; omega

end Go.Proofs.Ytodiojpakfjehaa.bulks

