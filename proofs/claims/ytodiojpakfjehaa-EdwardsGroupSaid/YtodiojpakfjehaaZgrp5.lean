/- Texts of this session, put together (part 5), less what nothing uses. -/
import Derived.Test.YtodiojpakfjehaaZgrp4
import Derived.KernelRfl
import Derived.WalkKit
import Derived.ProofKit
import Derived.OpenShut
import Derived.JoinedCond
import Derived.Carry
import Derived.Test.YtodiojpakfjehaaRows
/- Printed by a tool of this session. -/
namespace Go.Proofs.Ytodiojpakfjehaa.X
open Go Go.Proofs
set_option linter.unusedVariables false
set_option linter.unusedSimpArgs false
set_option maxRecDepth 100000
theorem teVL_5 : TEOk Try.prog 5 ⟨.int .u8, 1, 1, [.i .u8 (0 : Int)], false⟩ :=
  TEOk.of Try.underlying5 (i := Try.t5) (by kernel_rfl) rfl rfl rfl (by kernel_rfl) (fun h => by cases h) (by kernel_rfl)
theorem teVL_23 : TEOk Try.prog 23 ⟨.array 32 5, 32, 32, [.ints .u8 (32 : Nat) ([0, 0, 0, 0, 0, 0, 0, 0, 0, 0, 0, 0, 0, 0, 0, 0, 0, 0, 0, 0, 0, 0, 0, 0, 0, 0, 0, 0, 0, 0, 0, 0] : List Int)], true⟩ :=
  TEOk.of Try.underlying23 (i := Try.t23) (by kernel_rfl) rfl rfl rfl (by kernel_rfl) (fun _ => Try.eqGuardType23) (by kernel_rfl)
theorem teVL_37 : TEOk Try.prog 37 ⟨.array 32 5, 32, 32, [.ints .u8 (32 : Nat) ([0, 0, 0, 0, 0, 0, 0, 0, 0, 0, 0, 0, 0, 0, 0, 0, 0, 0, 0, 0, 0, 0, 0, 0, 0, 0, 0, 0, 0, 0, 0, 0] : List Int)], true⟩ :=
  TEOk.of Try.underlying37 (i := Try.t37) (by kernel_rfl) rfl rfl rfl (by kernel_rfl) (fun _ => Try.eqGuardType37) (by kernel_rfl)
theorem teVL_94 : TEOk Try.prog 94 ⟨Try.t93.desc, 20, 160, [.ints .u64 (20 : Nat) ([0, 0, 0, 0, 0, 0, 0, 0, 0, 0, 0, 0, 0, 0, 0, 0, 0, 0, 0, 0] : List Int)], false⟩ :=
  TEOk.of Try.underlying94 (i := Try.t94) (by kernel_rfl) rfl rfl rfl (by kernel_rfl) (fun h => by cases h) (by kernel_rfl)
noncomputable def tabVL : List (Nat × TE) := [(5, ⟨.int .u8, 1, 1, [.i .u8 (0 : Int)], false⟩), (23, ⟨.array 32 5, 32, 32, [.ints .u8 (32 : Nat) ([0, 0, 0, 0, 0, 0, 0, 0, 0, 0, 0, 0, 0, 0, 0, 0, 0, 0, 0, 0, 0, 0, 0, 0, 0, 0, 0, 0, 0, 0, 0, 0] : List Int)], true⟩), (37, ⟨.array 32 5, 32, 32, [.ints .u8 (32 : Nat) ([0, 0, 0, 0, 0, 0, 0, 0, 0, 0, 0, 0, 0, 0, 0, 0, 0, 0, 0, 0, 0, 0, 0, 0, 0, 0, 0, 0, 0, 0, 0, 0] : List Int)], true⟩), (94, ⟨Try.t93.desc, 20, 160, [.ints .u64 (20 : Nat) ([0, 0, 0, 0, 0, 0, 0, 0, 0, 0, 0, 0, 0, 0, 0, 0, 0, 0, 0, 0] : List Int)], false⟩)]
theorem tabOkVL : TabOk Try.prog (tabOf tabVL) := (tabOf_cons teVL_5 (tabOf_cons teVL_23 (tabOf_cons teVL_37 (tabOf_cons teVL_94 tabOf_nil))))

def subF (p : List Int) (q : List Int) : List Int :=
  (ptAdd p (ptNeg q))

set_option maxHeartbeats 1000000 in
theorem subF_body0 (p : List Int) (q : List Int) (hl0_0 : List.length p = (20 : Nat)) (hv0 : List.length q = (20 : Nat)) (w : World) (rw : List Nat) (β : Env) : Body Try.prog (tabOf tabVL) Try.f84 ⟨w, rw, 1, β⟩ [.o (.g [.ints .u64 (20 : Nat) q]), .o (.a (.p 0 0))] [some ⟨false, [.ints .u64 (20 : Nat) p]⟩] (fun ys K' => ys = [.g [.ints .u64 (20 : Nat) (subF p q)]] ∧ K' = [some ⟨false, [.ints .u64 (20 : Nat) p]⟩]) :=
  Body.of_finK (Γ := gam31) (Λ := noLam) (Ψ := noPsi) (fuel := 0) (m := 8) (c := (Try.f84.body.getD .skip)) mix tabOkVL gam31_ok rfl (rs := [.cell 3 94]) rfl rfl [] [] 1
    (vc := []) (by kernel_rfl)
    (AllP_nil)

theorem subF_body (p : List Int) (q : List Int) (w : World) (rw : List Nat) (β : Env) : Body Try.prog (tabOf tabVL) Try.f84 ⟨w, rw, 1, β⟩ [.o (.g [.ints .u64 (20 : Nat) q]), .o (.a (.p 0 0))] [some ⟨false, [.ints .u64 (20 : Nat) p]⟩] (fun ys K' => ys = [.g [.ints .u64 (20 : Nat) (subF p q)]] ∧ K' = [some ⟨false, [.ints .u64 (20 : Nat) p]⟩]) :=
  Body.lens (c := (Try.f84.body.getD .skip)) rfl fun h => subF_body0 p q (h.lens 0 _ .u64 (20 : Nat) p rfl (by simp)) (h.vals 0 _ _ _ rfl) w rw β

def gam32 : Gam := gcall 84 [false] [.w, .w] (fun wk vs args => match wk, vs, args with | [⟨false, [.ints .u64 (20 : Nat) p]⟩], [], [.o (.g [.ints .u64 (20 : Nat) q]), .o (.a (.p 0 0))] => some (True, [.g [.ints .u64 (20 : Nat) (subF p q)]], [some ⟨false, [.ints .u64 (20 : Nat) p]⟩]) | _, _, _ => none) gam31
theorem gam32_ok : GamOk Try.prog gam32 := gcall_ok tabOkVL Try.func84 gam31_ok Try.call84 (by
  intro wk vs args p xs K1 h hv
  split at h
  · simp only [Option.some.injEq, Prod.mk.injEq] at h; obtain ⟨rfl, rfl, rfl⟩ := h; exact fun caps w rw β => subF_body _ _ w rw β
  · simp at h)

set_option maxHeartbeats 1000000 in
theorem mulF_body0 (K : List Int) (q : List Int) (hl0_0 : List.length K = (32 : Nat)) (hv0 : List.length q = (20 : Nat)) (w : World) (rw : List Nat) (β : Env) : Body Try.prog (tabOf tabVL) Try.f96 ⟨w, rw, 1, β⟩ [.o (.g [.ints .u64 (20 : Nat) q]), .o (.a (.p 0 0))] [some ⟨false, [.ints .u8 (32 : Nat) K]⟩] (fun ys K' => ys = [.g [.ints .u64 (20 : Nat) (ptMul q K)]] ∧ K' = [some ⟨false, [.ints .u8 (32 : Nat) K]⟩]) :=
  Body.of_finK (Γ := gam32) (Λ := noLam) (Ψ := noPsi) (fuel := 0) (m := 7) (c := (Try.f96.body.getD .skip)) mix tabOkVL gam32_ok rfl (rs := [.cell 3 94]) rfl rfl [] [] 1
    (vc := []) (by kernel_rfl)
    (AllP_nil)

theorem mulF_body (K : List Int) (q : List Int) (w : World) (rw : List Nat) (β : Env) : Body Try.prog (tabOf tabVL) Try.f96 ⟨w, rw, 1, β⟩ [.o (.g [.ints .u64 (20 : Nat) q]), .o (.a (.p 0 0))] [some ⟨false, [.ints .u8 (32 : Nat) K]⟩] (fun ys K' => ys = [.g [.ints .u64 (20 : Nat) (ptMul q K)]] ∧ K' = [some ⟨false, [.ints .u8 (32 : Nat) K]⟩]) :=
  Body.lens (c := (Try.f96.body.getD .skip)) rfl fun h => mulF_body0 K q (h.lens 0 _ .u8 (32 : Nat) K rfl (by simp)) (h.vals 0 _ _ _ rfl) w rw β

def gam33 : Gam := gcall 96 [false] [.w, .w] (fun wk vs args => match wk, vs, args with | [⟨false, [.ints .u8 (32 : Nat) K]⟩], [], [.o (.g [.ints .u64 (20 : Nat) q]), .o (.a (.p 0 0))] => some (True, [.g [.ints .u64 (20 : Nat) (ptMul q K)]], [some ⟨false, [.ints .u8 (32 : Nat) K]⟩]) | _, _, _ => none) gam32
theorem gam33_ok : GamOk Try.prog gam33 := gcall_ok tabOkVL Try.func96 gam32_ok Try.call96 (by
  intro wk vs args p xs K1 h hv
  split at h
  · simp only [Option.some.injEq, Prod.mk.injEq] at h; obtain ⟨rfl, rfl, rfl⟩ := h; exact fun caps w rw β => mulF_body _ _ w rw β
  · simp at h)

def cofF (q : List Int) : List Int :=
  (ptDbl (ptDbl (ptDbl q)))

set_option maxHeartbeats 1000000 in
theorem cofF_body0 (q : List Int) (hv0 : List.length q = (20 : Nat)) (w : World) : Body Try.prog (tabOf tabVL) Try.f86 ⟨w, [], 0, noEnv⟩ (toA [.g [.ints .u64 (20 : Nat) q]]) [] (fun ys _ => ys = [.g [.ints .u64 (20 : Nat) (cofF q)]]) :=
  Body.of_fin (Γ := gam33) (Λ := noLam) (Ψ := noPsi) (fuel := 0) (m := 7) (c := (Try.f86.body.getD .skip)) mix tabOkVL gam33_ok rfl (rs := [.cell 2 94]) rfl rfl [] []
    (vc := []) (by kernel_rfl)
    (AllP_nil)

theorem cofF_body (q : List Int) (w : World) : Body Try.prog (tabOf tabVL) Try.f86 ⟨w, [], 0, noEnv⟩ (toA [.g [.ints .u64 (20 : Nat) q]]) [] (fun ys _ => ys = [.g [.ints .u64 (20 : Nat) (cofF q)]]) :=
  Body.lens (c := (Try.f86.body.getD .skip)) rfl fun h => cofF_body0 q (h.vals 0 _ _ _ rfl) w

theorem cofF_pure (q : List Int) : PureC Try.prog 86 [.g [.ints .u64 (20 : Nat) q]] [.g [.ints .u64 (20 : Nat) (cofF q)]] :=
  PureC.of_body tabOkVL Try.func86 rfl rfl fun w => cofF_body q w

def gam34 : Gam := gpure 86 (fun args => match args with | [.o (.g [.ints .u64 (20 : Nat) q])] => some (none, [.g [.ints .u64 (20 : Nat) (cofF q)]]) | _ => none) gam33
theorem gam34_ok : GamOk Try.prog gam34 := gpure_ok gam33_ok Try.call86 (by
  intro args vc xs h hv
  split at h
  · simp only [Option.some.injEq, Prod.mk.injEq] at h; obtain ⟨rfl, rfl⟩ := h; exact ⟨_, by rfl, cofF_pure _⟩
  · simp at h)

def oneAdd_w0 (s : List Int) (p : List Int) : List Int :=
  (ptForm (ptAdd p (ptOpen s)))

set_option maxHeartbeats 1000000 in
theorem oneAdd_w0_body0 (s : List Int) (p : List Int) (hv0 : List.length s = (32 : Nat)) (hb0 : (ptOpen_1 s) = true) (w : World) (rw : List Nat) (β : Env) : Body Try.prog (tabOf tabVL) Try.f82 ⟨w, rw, 0, β⟩ [.o (.g [.ints .u8 (32 : Nat) s]), .f 59 [.g [.ints .u64 (20 : Nat) p]] []] [] (fun ys K' => ys = [.g [.ints .u8 (32 : Nat) (oneAdd_w0 s p)], .a (.i .i64 (0 : Int))] ∧ K' = []) :=
  Body.of_finK (Γ := gam34) (Λ := noLam) (Ψ := noPsi) (fuel := 0) (m := 20) (c := (Try.f82.body.getD .skip)) mix tabOkVL gam34_ok rfl (rs := [.cell 4 23, .tmp 5]) rfl rfl [false] [] 0
    (vc := [((!(ptOpen_1 s)) = false)]) (by kernel_rfl)
    (AllP_cons (by rw [hb0]; rfl) (AllP_nil))

set_option maxHeartbeats 1000000 in
theorem oneAdd_w1_body0 (s : List Int) (p : List Int) (hv0 : List.length s = (32 : Nat)) (hb0 : (ptOpen_1 s) = false) (w : World) (rw : List Nat) (β : Env) : Body Try.prog (tabOf tabVL) Try.f82 ⟨w, rw, 0, β⟩ [.o (.g [.ints .u8 (32 : Nat) s]), .f 59 [.g [.ints .u64 (20 : Nat) p]] []] [] (fun ys K' => ys = [.g [.ints .u8 (32 : Nat) ([0, 0, 0, 0, 0, 0, 0, 0, 0, 0, 0, 0, 0, 0, 0, 0, 0, 0, 0, 0, 0, 0, 0, 0, 0, 0, 0, 0, 0, 0, 0, 0] : List Int)], .a (.i .i64 (41 : Int))] ∧ K' = []) :=
  Body.of_finK (Γ := gam34) (Λ := noLam) (Ψ := noPsi) (fuel := 0) (m := 20) (c := (Try.f82.body.getD .skip)) mix tabOkVL gam34_ok rfl (rs := [.cell 4 23, .tmp 5]) rfl rfl [true] [] 0
    (vc := [((!(ptOpen_1 s)) = true)]) (by kernel_rfl)
    (AllP_cons (by rw [hb0]; rfl) (AllP_nil))

def oneAdd (s : List Int) (p : List Int) : List Int :=
  (cond (ptOpen_1 s) (oneAdd_w0 s p) ([0, 0, 0, 0, 0, 0, 0, 0, 0, 0, 0, 0, 0, 0, 0, 0, 0, 0, 0, 0, 0, 0, 0, 0, 0, 0, 0, 0, 0, 0, 0, 0] : List Int))

def oneAdd_1 (s : List Int) : Int :=
  (cond (ptOpen_1 s) (0 : Int) (41 : Int))

set_option maxHeartbeats 1000000 in
theorem oneAdd_body (s : List Int) (p : List Int) (w : World) (rw : List Nat) (β : Env) : Body Try.prog (tabOf tabVL) Try.f82 ⟨w, rw, 0, β⟩ [.o (.g [.ints .u8 (32 : Nat) s]), .f 59 [.g [.ints .u64 (20 : Nat) p]] []] [] (fun ys K' => ys = [.g [.ints .u8 (32 : Nat) (oneAdd s p)], .a (.i .i64 (oneAdd_1 s))] ∧ K' = []) :=
  Body.lens (c := (Try.f82.body.getD .skip)) rfl fun h => by
    cases hb0 : (ptOpen_1 s)
    · exact (oneAdd_w1_body0 s p (h.vals 0 _ _ _ rfl) hb0 w rw β).mono fun _ _ hx => ⟨hx.1.trans (by rw [(show (oneAdd s p) = ([0, 0, 0, 0, 0, 0, 0, 0, 0, 0, 0, 0, 0, 0, 0, 0, 0, 0, 0, 0, 0, 0, 0, 0, 0, 0, 0, 0, 0, 0, 0, 0] : List Int) from (cond_f hb0)), (show (oneAdd_1 s) = (41 : Int) from (cond_f hb0))]), hx.2⟩
    · exact (oneAdd_w0_body0 s p (h.vals 0 _ _ _ rfl) hb0 w rw β).mono fun _ _ hx => ⟨hx.1.trans (by rw [(show (oneAdd s p) = (oneAdd_w0 s p) from (cond_t hb0)), (show (oneAdd_1 s) = (0 : Int) from (cond_t hb0))]), hx.2⟩

def gam35 : Gam := gcall 82 [] [.w, .w] (fun wk vs args => match wk, vs, args with | [], [], [.o (.g [.ints .u8 (32 : Nat) s]), .f 59 [.g [.ints .u64 (20 : Nat) p]] []] => some (True, [.g [.ints .u8 (32 : Nat) (oneAdd s p)], .a (.i .i64 (oneAdd_1 s))], []) | _, _, _ => none) gam34
theorem gam35_ok : GamOk Try.prog gam35 := gcall_ok tabOkVL Try.func82 gam34_ok Try.call82 (by
  intro wk vs args p xs K1 h hv
  split at h
  · simp only [Option.some.injEq, Prod.mk.injEq] at h; obtain ⟨rfl, rfl, rfl⟩ := h; exact fun caps w rw β => oneAdd_body _ _ w rw β
  · simp at h)

def apAdd_w0 (r : List Int) (s : List Int) : List Int :=
  (oneAdd s (ptOpen r))

set_option maxHeartbeats 1000000 in
theorem apAdd_w0_body0 (r : List Int) (s : List Int) (hv0 : List.length r = (32 : Nat)) (hv1 : List.length s = (32 : Nat)) (hb0 : (ptOpen_1 r) = true) (w : World) : Body Try.prog (tabOf tabVL) Try.f42 ⟨w, [], 0, noEnv⟩ (toA [.g [.ints .u8 (32 : Nat) r], .g [.ints .u8 (32 : Nat) s]]) [] (fun ys _ => ys = [.g [.ints .u8 (32 : Nat) (apAdd_w0 r s)], .a (.i .i64 (oneAdd_1 s))]) :=
  Body.of_fin (Γ := gam35) (Λ := noLam) (Ψ := noPsi) (fuel := 0) (m := 22) (c := (Try.f42.body.getD .skip)) mix tabOkVL gam35_ok rfl (rs := [.cell 4 23, .tmp 5]) rfl rfl [false] []
    (vc := [((True ∧ (True ∧ True)) ∧ True), ((!(ptOpen_1 r)) = false)]) (by kernel_rfl)
    (AllP_cons ⟨⟨trivial, ⟨trivial, trivial⟩⟩, trivial⟩ (AllP_cons (by rw [hb0]; rfl) (AllP_nil)))

set_option maxHeartbeats 1000000 in
theorem apAdd_w1_body0 (r : List Int) (s : List Int) (hv0 : List.length r = (32 : Nat)) (hv1 : List.length s = (32 : Nat)) (hb0 : (ptOpen_1 r) = false) (w : World) : Body Try.prog (tabOf tabVL) Try.f42 ⟨w, [], 0, noEnv⟩ (toA [.g [.ints .u8 (32 : Nat) r], .g [.ints .u8 (32 : Nat) s]]) [] (fun ys _ => ys = [.g [.ints .u8 (32 : Nat) ([0, 0, 0, 0, 0, 0, 0, 0, 0, 0, 0, 0, 0, 0, 0, 0, 0, 0, 0, 0, 0, 0, 0, 0, 0, 0, 0, 0, 0, 0, 0, 0] : List Int)], .a (.i .i64 (41 : Int))]) :=
  Body.of_fin (Γ := gam35) (Λ := noLam) (Ψ := noPsi) (fuel := 0) (m := 22) (c := (Try.f42.body.getD .skip)) mix tabOkVL gam35_ok rfl (rs := [.cell 4 23, .tmp 5]) rfl rfl [true] []
    (vc := [((!(ptOpen_1 r)) = true)]) (by kernel_rfl)
    (AllP_cons (by rw [hb0]; rfl) (AllP_nil))

def apAdd (r : List Int) (s : List Int) : List Int :=
  (cond (ptOpen_1 r) (apAdd_w0 r s) ([0, 0, 0, 0, 0, 0, 0, 0, 0, 0, 0, 0, 0, 0, 0, 0, 0, 0, 0, 0, 0, 0, 0, 0, 0, 0, 0, 0, 0, 0, 0, 0] : List Int))

def apAdd_1 (r : List Int) (s : List Int) : Int :=
  (cond (ptOpen_1 r) (oneAdd_1 s) (41 : Int))

set_option maxHeartbeats 1000000 in
theorem apAdd_body (r : List Int) (s : List Int) (w : World) : Body Try.prog (tabOf tabVL) Try.f42 ⟨w, [], 0, noEnv⟩ (toA [.g [.ints .u8 (32 : Nat) r], .g [.ints .u8 (32 : Nat) s]]) [] (fun ys _ => ys = [.g [.ints .u8 (32 : Nat) (apAdd r s)], .a (.i .i64 (apAdd_1 r s))]) :=
  Body.lens (c := (Try.f42.body.getD .skip)) rfl fun h => by
    cases hb0 : (ptOpen_1 r)
    · exact (apAdd_w1_body0 r s (h.vals 0 _ _ _ rfl) (h.vals 1 _ _ _ rfl) hb0 w).mono fun _ _ hx => hx.trans (by rw [(show (apAdd r s) = ([0, 0, 0, 0, 0, 0, 0, 0, 0, 0, 0, 0, 0, 0, 0, 0, 0, 0, 0, 0, 0, 0, 0, 0, 0, 0, 0, 0, 0, 0, 0, 0] : List Int) from (cond_f hb0)), (show (apAdd_1 r s) = (41 : Int) from (cond_f hb0))])
    · exact (apAdd_w0_body0 r s (h.vals 0 _ _ _ rfl) (h.vals 1 _ _ _ rfl) hb0 w).mono fun _ _ hx => hx.trans (by rw [(show (apAdd r s) = (apAdd_w0 r s) from (cond_t hb0)), (show (apAdd_1 r s) = (oneAdd_1 s) from (cond_t hb0))])

theorem apAdd_pure (r : List Int) (s : List Int) : PureC Try.prog 42 [.g [.ints .u8 (32 : Nat) r], .g [.ints .u8 (32 : Nat) s]] [.g [.ints .u8 (32 : Nat) (apAdd r s)], .a (.i .i64 (apAdd_1 r s))] :=
  PureC.of_body tabOkVL Try.func42 rfl rfl fun w => apAdd_body r s w

def gam36 : Gam := gpure 42 (fun args => match args with | [.o (.g [.ints .u8 (32 : Nat) r]), .o (.g [.ints .u8 (32 : Nat) s])] => some (none, [.g [.ints .u8 (32 : Nat) (apAdd r s)], .a (.i .i64 (apAdd_1 r s))]) | _ => none) gam35
theorem gam36_ok : GamOk Try.prog gam36 := gpure_ok gam35_ok Try.call42 (by
  intro args vc xs h hv
  split at h
  · simp only [Option.some.injEq, Prod.mk.injEq] at h; obtain ⟨rfl, rfl⟩ := h; exact ⟨_, by rfl, apAdd_pure _ _⟩
  · simp at h)

def oneSub_w0 (p : List Int) (s : List Int) : List Int :=
  (ptForm (subF p (ptOpen s)))

set_option maxHeartbeats 1000000 in
theorem oneSub_w0_body0 (p : List Int) (s : List Int) (hl0_0 : List.length p = (20 : Nat)) (hv0 : List.length s = (32 : Nat)) (hb0 : (ptOpen_1 s) = true) (w : World) (rw : List Nat) (β : Env) : Body Try.prog (tabOf tabVL) Try.f82 ⟨w, rw, 1, β⟩ [.o (.g [.ints .u8 (32 : Nat) s]), .f 84 [] [.a (.p 0 0)]] [some ⟨false, [.ints .u64 (20 : Nat) p]⟩] (fun ys K' => ys = [.g [.ints .u8 (32 : Nat) (oneSub_w0 p s)], .a (.i .i64 (0 : Int))] ∧ K' = [some ⟨false, [.ints .u64 (20 : Nat) p]⟩]) :=
  Body.of_finK (Γ := gam36) (Λ := noLam) (Ψ := noPsi) (fuel := 0) (m := 20) (c := (Try.f82.body.getD .skip)) mix tabOkVL gam36_ok rfl (rs := [.cell 4 23, .tmp 5]) rfl rfl [false] [] 1
    (vc := [((True ∧ (True ∧ True)) ∧ True), ((!(ptOpen_1 s)) = false)]) (by kernel_rfl)
    (AllP_cons ⟨⟨trivial, ⟨trivial, trivial⟩⟩, trivial⟩ (AllP_cons (by rw [hb0]; rfl) (AllP_nil)))

set_option maxHeartbeats 1000000 in
theorem oneSub_w1_body0 (p : List Int) (s : List Int) (hl0_0 : List.length p = (20 : Nat)) (hv0 : List.length s = (32 : Nat)) (hb0 : (ptOpen_1 s) = false) (w : World) (rw : List Nat) (β : Env) : Body Try.prog (tabOf tabVL) Try.f82 ⟨w, rw, 1, β⟩ [.o (.g [.ints .u8 (32 : Nat) s]), .f 84 [] [.a (.p 0 0)]] [some ⟨false, [.ints .u64 (20 : Nat) p]⟩] (fun ys K' => ys = [.g [.ints .u8 (32 : Nat) ([0, 0, 0, 0, 0, 0, 0, 0, 0, 0, 0, 0, 0, 0, 0, 0, 0, 0, 0, 0, 0, 0, 0, 0, 0, 0, 0, 0, 0, 0, 0, 0] : List Int)], .a (.i .i64 (41 : Int))] ∧ K' = [some ⟨false, [.ints .u64 (20 : Nat) p]⟩]) :=
  Body.of_finK (Γ := gam36) (Λ := noLam) (Ψ := noPsi) (fuel := 0) (m := 20) (c := (Try.f82.body.getD .skip)) mix tabOkVL gam36_ok rfl (rs := [.cell 4 23, .tmp 5]) rfl rfl [true] [] 1
    (vc := [((!(ptOpen_1 s)) = true)]) (by kernel_rfl)
    (AllP_cons (by rw [hb0]; rfl) (AllP_nil))

def oneSub (p : List Int) (s : List Int) : List Int :=
  (cond (ptOpen_1 s) (oneSub_w0 p s) ([0, 0, 0, 0, 0, 0, 0, 0, 0, 0, 0, 0, 0, 0, 0, 0, 0, 0, 0, 0, 0, 0, 0, 0, 0, 0, 0, 0, 0, 0, 0, 0] : List Int))

def oneSub_1 (s : List Int) : Int :=
  (cond (ptOpen_1 s) (0 : Int) (41 : Int))

set_option maxHeartbeats 1000000 in
theorem oneSub_body (p : List Int) (s : List Int) (w : World) (rw : List Nat) (β : Env) : Body Try.prog (tabOf tabVL) Try.f82 ⟨w, rw, 1, β⟩ [.o (.g [.ints .u8 (32 : Nat) s]), .f 84 [] [.a (.p 0 0)]] [some ⟨false, [.ints .u64 (20 : Nat) p]⟩] (fun ys K' => ys = [.g [.ints .u8 (32 : Nat) (oneSub p s)], .a (.i .i64 (oneSub_1 s))] ∧ K' = [some ⟨false, [.ints .u64 (20 : Nat) p]⟩]) :=
  Body.lens (c := (Try.f82.body.getD .skip)) rfl fun h => by
    cases hb0 : (ptOpen_1 s)
    · exact (oneSub_w1_body0 p s (h.lens 0 _ .u64 (20 : Nat) p rfl (by simp)) (h.vals 0 _ _ _ rfl) hb0 w rw β).mono fun _ _ hx => ⟨hx.1.trans (by rw [(show (oneSub p s) = ([0, 0, 0, 0, 0, 0, 0, 0, 0, 0, 0, 0, 0, 0, 0, 0, 0, 0, 0, 0, 0, 0, 0, 0, 0, 0, 0, 0, 0, 0, 0, 0] : List Int) from (cond_f hb0)), (show (oneSub_1 s) = (41 : Int) from (cond_f hb0))]), hx.2⟩
    · exact (oneSub_w0_body0 p s (h.lens 0 _ .u64 (20 : Nat) p rfl (by simp)) (h.vals 0 _ _ _ rfl) hb0 w rw β).mono fun _ _ hx => ⟨hx.1.trans (by rw [(show (oneSub p s) = (oneSub_w0 p s) from (cond_t hb0)), (show (oneSub_1 s) = (0 : Int) from (cond_t hb0))]), hx.2⟩

def gam37 : Gam := gcall 82 [false] [.w, .w] (fun wk vs args => match wk, vs, args with | [⟨false, [.ints .u64 (20 : Nat) p]⟩], [], [.o (.g [.ints .u8 (32 : Nat) s]), .f 84 [] [.a (.p 0 0)]] => some (True, [.g [.ints .u8 (32 : Nat) (oneSub p s)], .a (.i .i64 (oneSub_1 s))], [some ⟨false, [.ints .u64 (20 : Nat) p]⟩]) | _, _, _ => none) gam36
theorem gam37_ok : GamOk Try.prog gam37 := gcall_ok tabOkVL Try.func82 gam36_ok Try.call82 (by
  intro wk vs args p xs K1 h hv
  split at h
  · simp only [Option.some.injEq, Prod.mk.injEq] at h; obtain ⟨rfl, rfl, rfl⟩ := h; exact fun caps w rw β => oneSub_body _ _ w rw β
  · simp at h)

def apSub_w0 (r : List Int) (s : List Int) : List Int :=
  (oneSub (ptOpen r) s)

set_option maxHeartbeats 1000000 in
theorem apSub_w0_body0 (r : List Int) (s : List Int) (hv0 : List.length r = (32 : Nat)) (hv1 : List.length s = (32 : Nat)) (hb0 : (ptOpen_1 r) = true) (w : World) : Body Try.prog (tabOf tabVL) Try.f33 ⟨w, [], 0, noEnv⟩ (toA [.g [.ints .u8 (32 : Nat) r], .g [.ints .u8 (32 : Nat) s]]) [] (fun ys _ => ys = [.g [.ints .u8 (32 : Nat) (apSub_w0 r s)], .a (.i .i64 (oneSub_1 s))]) :=
  Body.of_fin (Γ := gam37) (Λ := noLam) (Ψ := noPsi) (fuel := 0) (m := 21) (c := (Try.f33.body.getD .skip)) mix tabOkVL gam37_ok rfl (rs := [.cell 4 23, .tmp 5]) rfl rfl [false] []
    (vc := [((True ∧ (True ∧ True)) ∧ True), ((!(ptOpen_1 r)) = false)]) (by kernel_rfl)
    (AllP_cons ⟨⟨trivial, ⟨trivial, trivial⟩⟩, trivial⟩ (AllP_cons (by rw [hb0]; rfl) (AllP_nil)))

set_option maxHeartbeats 1000000 in
theorem apSub_w1_body0 (r : List Int) (s : List Int) (hv0 : List.length r = (32 : Nat)) (hv1 : List.length s = (32 : Nat)) (hb0 : (ptOpen_1 r) = false) (w : World) : Body Try.prog (tabOf tabVL) Try.f33 ⟨w, [], 0, noEnv⟩ (toA [.g [.ints .u8 (32 : Nat) r], .g [.ints .u8 (32 : Nat) s]]) [] (fun ys _ => ys = [.g [.ints .u8 (32 : Nat) ([0, 0, 0, 0, 0, 0, 0, 0, 0, 0, 0, 0, 0, 0, 0, 0, 0, 0, 0, 0, 0, 0, 0, 0, 0, 0, 0, 0, 0, 0, 0, 0] : List Int)], .a (.i .i64 (41 : Int))]) :=
  Body.of_fin (Γ := gam37) (Λ := noLam) (Ψ := noPsi) (fuel := 0) (m := 21) (c := (Try.f33.body.getD .skip)) mix tabOkVL gam37_ok rfl (rs := [.cell 4 23, .tmp 5]) rfl rfl [true] []
    (vc := [((!(ptOpen_1 r)) = true)]) (by kernel_rfl)
    (AllP_cons (by rw [hb0]; rfl) (AllP_nil))

def apSub (r : List Int) (s : List Int) : List Int :=
  (cond (ptOpen_1 r) (apSub_w0 r s) ([0, 0, 0, 0, 0, 0, 0, 0, 0, 0, 0, 0, 0, 0, 0, 0, 0, 0, 0, 0, 0, 0, 0, 0, 0, 0, 0, 0, 0, 0, 0, 0] : List Int))

def apSub_1 (r : List Int) (s : List Int) : Int :=
  (cond (ptOpen_1 r) (oneSub_1 s) (41 : Int))

set_option maxHeartbeats 1000000 in
theorem apSub_body (r : List Int) (s : List Int) (w : World) : Body Try.prog (tabOf tabVL) Try.f33 ⟨w, [], 0, noEnv⟩ (toA [.g [.ints .u8 (32 : Nat) r], .g [.ints .u8 (32 : Nat) s]]) [] (fun ys _ => ys = [.g [.ints .u8 (32 : Nat) (apSub r s)], .a (.i .i64 (apSub_1 r s))]) :=
  Body.lens (c := (Try.f33.body.getD .skip)) rfl fun h => by
    cases hb0 : (ptOpen_1 r)
    · exact (apSub_w1_body0 r s (h.vals 0 _ _ _ rfl) (h.vals 1 _ _ _ rfl) hb0 w).mono fun _ _ hx => hx.trans (by rw [(show (apSub r s) = ([0, 0, 0, 0, 0, 0, 0, 0, 0, 0, 0, 0, 0, 0, 0, 0, 0, 0, 0, 0, 0, 0, 0, 0, 0, 0, 0, 0, 0, 0, 0, 0] : List Int) from (cond_f hb0)), (show (apSub_1 r s) = (41 : Int) from (cond_f hb0))])
    · exact (apSub_w0_body0 r s (h.vals 0 _ _ _ rfl) (h.vals 1 _ _ _ rfl) hb0 w).mono fun _ _ hx => hx.trans (by rw [(show (apSub r s) = (apSub_w0 r s) from (cond_t hb0)), (show (apSub_1 r s) = (oneSub_1 s) from (cond_t hb0))])

theorem apSub_pure (r : List Int) (s : List Int) : PureC Try.prog 33 [.g [.ints .u8 (32 : Nat) r], .g [.ints .u8 (32 : Nat) s]] [.g [.ints .u8 (32 : Nat) (apSub r s)], .a (.i .i64 (apSub_1 r s))] :=
  PureC.of_body tabOkVL Try.func33 rfl rfl fun w => apSub_body r s w

def gam38 : Gam := gpure 33 (fun args => match args with | [.o (.g [.ints .u8 (32 : Nat) r]), .o (.g [.ints .u8 (32 : Nat) s])] => some (none, [.g [.ints .u8 (32 : Nat) (apSub r s)], .a (.i .i64 (apSub_1 r s))]) | _ => none) gam37
theorem gam38_ok : GamOk Try.prog gam38 := gpure_ok gam37_ok Try.call33 (by
  intro args vc xs h hv
  split at h
  · simp only [Option.some.injEq, Prod.mk.injEq] at h; obtain ⟨rfl, rfl⟩ := h; exact ⟨_, by rfl, apSub_pure _ _⟩
  · simp at h)

def oneNeg_w0 (s : List Int) : List Int :=
  (ptForm (ptNeg (ptOpen s)))

set_option maxHeartbeats 1000000 in
theorem oneNeg_w0_body0 (s : List Int) (hv0 : List.length s = (32 : Nat)) (hb0 : (ptOpen_1 s) = true) (w : World) (rw : List Nat) (β : Env) : Body Try.prog (tabOf tabVL) Try.f82 ⟨w, rw, 0, β⟩ [.o (.g [.ints .u8 (32 : Nat) s]), .f 83 [] []] [] (fun ys K' => ys = [.g [.ints .u8 (32 : Nat) (oneNeg_w0 s)], .a (.i .i64 (0 : Int))] ∧ K' = []) :=
  Body.of_finK (Γ := gam38) (Λ := noLam) (Ψ := noPsi) (fuel := 0) (m := 20) (c := (Try.f82.body.getD .skip)) mix tabOkVL gam38_ok rfl (rs := [.cell 4 23, .tmp 5]) rfl rfl [false] [] 0
    (vc := [((!(ptOpen_1 s)) = false)]) (by kernel_rfl)
    (AllP_cons (by rw [hb0]; rfl) (AllP_nil))

set_option maxHeartbeats 1000000 in
theorem oneNeg_w1_body0 (s : List Int) (hv0 : List.length s = (32 : Nat)) (hb0 : (ptOpen_1 s) = false) (w : World) (rw : List Nat) (β : Env) : Body Try.prog (tabOf tabVL) Try.f82 ⟨w, rw, 0, β⟩ [.o (.g [.ints .u8 (32 : Nat) s]), .f 83 [] []] [] (fun ys K' => ys = [.g [.ints .u8 (32 : Nat) ([0, 0, 0, 0, 0, 0, 0, 0, 0, 0, 0, 0, 0, 0, 0, 0, 0, 0, 0, 0, 0, 0, 0, 0, 0, 0, 0, 0, 0, 0, 0, 0] : List Int)], .a (.i .i64 (41 : Int))] ∧ K' = []) :=
  Body.of_finK (Γ := gam38) (Λ := noLam) (Ψ := noPsi) (fuel := 0) (m := 20) (c := (Try.f82.body.getD .skip)) mix tabOkVL gam38_ok rfl (rs := [.cell 4 23, .tmp 5]) rfl rfl [true] [] 0
    (vc := [((!(ptOpen_1 s)) = true)]) (by kernel_rfl)
    (AllP_cons (by rw [hb0]; rfl) (AllP_nil))

def oneNeg (s : List Int) : List Int :=
  (cond (ptOpen_1 s) (oneNeg_w0 s) ([0, 0, 0, 0, 0, 0, 0, 0, 0, 0, 0, 0, 0, 0, 0, 0, 0, 0, 0, 0, 0, 0, 0, 0, 0, 0, 0, 0, 0, 0, 0, 0] : List Int))

def oneNeg_1 (s : List Int) : Int :=
  (cond (ptOpen_1 s) (0 : Int) (41 : Int))

set_option maxHeartbeats 1000000 in
theorem oneNeg_body (s : List Int) (w : World) (rw : List Nat) (β : Env) : Body Try.prog (tabOf tabVL) Try.f82 ⟨w, rw, 0, β⟩ [.o (.g [.ints .u8 (32 : Nat) s]), .f 83 [] []] [] (fun ys K' => ys = [.g [.ints .u8 (32 : Nat) (oneNeg s)], .a (.i .i64 (oneNeg_1 s))] ∧ K' = []) :=
  Body.lens (c := (Try.f82.body.getD .skip)) rfl fun h => by
    cases hb0 : (ptOpen_1 s)
    · exact (oneNeg_w1_body0 s (h.vals 0 _ _ _ rfl) hb0 w rw β).mono fun _ _ hx => ⟨hx.1.trans (by rw [(show (oneNeg s) = ([0, 0, 0, 0, 0, 0, 0, 0, 0, 0, 0, 0, 0, 0, 0, 0, 0, 0, 0, 0, 0, 0, 0, 0, 0, 0, 0, 0, 0, 0, 0, 0] : List Int) from (cond_f hb0)), (show (oneNeg_1 s) = (41 : Int) from (cond_f hb0))]), hx.2⟩
    · exact (oneNeg_w0_body0 s (h.vals 0 _ _ _ rfl) hb0 w rw β).mono fun _ _ hx => ⟨hx.1.trans (by rw [(show (oneNeg s) = (oneNeg_w0 s) from (cond_t hb0)), (show (oneNeg_1 s) = (0 : Int) from (cond_t hb0))]), hx.2⟩

def gam39 : Gam := gcall 82 [] [.w, .w] (fun wk vs args => match wk, vs, args with | [], [], [.o (.g [.ints .u8 (32 : Nat) s]), .f 83 [] []] => some (True, [.g [.ints .u8 (32 : Nat) (oneNeg s)], .a (.i .i64 (oneNeg_1 s))], []) | _, _, _ => none) gam38
theorem gam39_ok : GamOk Try.prog gam39 := gcall_ok tabOkVL Try.func82 gam38_ok Try.call82 (by
  intro wk vs args p xs K1 h hv
  split at h
  · simp only [Option.some.injEq, Prod.mk.injEq] at h; obtain ⟨rfl, rfl, rfl⟩ := h; exact fun caps w rw β => oneNeg_body _ w rw β
  · simp at h)

set_option maxHeartbeats 1000000 in
theorem apNeg_w0_body0 (s : List Int) (hv0 : List.length s = (32 : Nat)) (w : World) : Body Try.prog (tabOf tabVL) Try.f32 ⟨w, [], 0, noEnv⟩ (toA [.g [.ints .u8 (32 : Nat) s]]) [] (fun ys _ => ys = [.g [.ints .u8 (32 : Nat) (oneNeg s)], .a (.i .i64 (oneNeg_1 s))]) :=
  Body.of_fin (Γ := gam39) (Λ := noLam) (Ψ := noPsi) (fuel := 0) (m := 8) (c := (Try.f32.body.getD .skip)) mix tabOkVL gam39_ok rfl (rs := [.cell 2 23, .tmp 3]) rfl rfl [] []
    (vc := [((True ∧ (True ∧ True)) ∧ True)]) (by kernel_rfl)
    (AllP_cons ⟨⟨trivial, ⟨trivial, trivial⟩⟩, trivial⟩ (AllP_nil))

set_option maxHeartbeats 1000000 in
theorem apNeg_body (s : List Int) (w : World) : Body Try.prog (tabOf tabVL) Try.f32 ⟨w, [], 0, noEnv⟩ (toA [.g [.ints .u8 (32 : Nat) s]]) [] (fun ys _ => ys = [.g [.ints .u8 (32 : Nat) (oneNeg s)], .a (.i .i64 (oneNeg_1 s))]) :=
  Body.lens (c := (Try.f32.body.getD .skip)) rfl fun h => by
    exact (apNeg_w0_body0 s (h.vals 0 _ _ _ rfl)  w).mono fun _ _ hx => hx.trans rfl

theorem apNeg_pure (s : List Int) : PureC Try.prog 32 [.g [.ints .u8 (32 : Nat) s]] [.g [.ints .u8 (32 : Nat) (oneNeg s)], .a (.i .i64 (oneNeg_1 s))] :=
  PureC.of_body tabOkVL Try.func32 rfl rfl fun w => apNeg_body s w

def gam40 : Gam := gpure 32 (fun args => match args with | [.o (.g [.ints .u8 (32 : Nat) s])] => some (none, [.g [.ints .u8 (32 : Nat) (oneNeg s)], .a (.i .i64 (oneNeg_1 s))]) | _ => none) gam39
theorem gam40_ok : GamOk Try.prog gam40 := gpure_ok gam39_ok Try.call32 (by
  intro args vc xs h hv
  split at h
  · simp only [Option.some.injEq, Prod.mk.injEq] at h; obtain ⟨rfl, rfl⟩ := h; exact ⟨_, by rfl, apNeg_pure _⟩
  · simp at h)

def oneDbl_w0 (s : List Int) : List Int :=
  (ptForm (ptDbl (ptOpen s)))

set_option maxHeartbeats 1000000 in
theorem oneDbl_w0_body0 (s : List Int) (hv0 : List.length s = (32 : Nat)) (hb0 : (ptOpen_1 s) = true) (w : World) (rw : List Nat) (β : Env) : Body Try.prog (tabOf tabVL) Try.f82 ⟨w, rw, 0, β⟩ [.o (.g [.ints .u8 (32 : Nat) s]), .f 85 [] []] [] (fun ys K' => ys = [.g [.ints .u8 (32 : Nat) (oneDbl_w0 s)], .a (.i .i64 (0 : Int))] ∧ K' = []) :=
  Body.of_finK (Γ := gam40) (Λ := noLam) (Ψ := noPsi) (fuel := 0) (m := 20) (c := (Try.f82.body.getD .skip)) mix tabOkVL gam40_ok rfl (rs := [.cell 4 23, .tmp 5]) rfl rfl [false] [] 0
    (vc := [((!(ptOpen_1 s)) = false)]) (by kernel_rfl)
    (AllP_cons (by rw [hb0]; rfl) (AllP_nil))

set_option maxHeartbeats 1000000 in
theorem oneDbl_w1_body0 (s : List Int) (hv0 : List.length s = (32 : Nat)) (hb0 : (ptOpen_1 s) = false) (w : World) (rw : List Nat) (β : Env) : Body Try.prog (tabOf tabVL) Try.f82 ⟨w, rw, 0, β⟩ [.o (.g [.ints .u8 (32 : Nat) s]), .f 85 [] []] [] (fun ys K' => ys = [.g [.ints .u8 (32 : Nat) ([0, 0, 0, 0, 0, 0, 0, 0, 0, 0, 0, 0, 0, 0, 0, 0, 0, 0, 0, 0, 0, 0, 0, 0, 0, 0, 0, 0, 0, 0, 0, 0] : List Int)], .a (.i .i64 (41 : Int))] ∧ K' = []) :=
  Body.of_finK (Γ := gam40) (Λ := noLam) (Ψ := noPsi) (fuel := 0) (m := 20) (c := (Try.f82.body.getD .skip)) mix tabOkVL gam40_ok rfl (rs := [.cell 4 23, .tmp 5]) rfl rfl [true] [] 0
    (vc := [((!(ptOpen_1 s)) = true)]) (by kernel_rfl)
    (AllP_cons (by rw [hb0]; rfl) (AllP_nil))

def oneDbl (s : List Int) : List Int :=
  (cond (ptOpen_1 s) (oneDbl_w0 s) ([0, 0, 0, 0, 0, 0, 0, 0, 0, 0, 0, 0, 0, 0, 0, 0, 0, 0, 0, 0, 0, 0, 0, 0, 0, 0, 0, 0, 0, 0, 0, 0] : List Int))

def oneDbl_1 (s : List Int) : Int :=
  (cond (ptOpen_1 s) (0 : Int) (41 : Int))

set_option maxHeartbeats 1000000 in
theorem oneDbl_body (s : List Int) (w : World) (rw : List Nat) (β : Env) : Body Try.prog (tabOf tabVL) Try.f82 ⟨w, rw, 0, β⟩ [.o (.g [.ints .u8 (32 : Nat) s]), .f 85 [] []] [] (fun ys K' => ys = [.g [.ints .u8 (32 : Nat) (oneDbl s)], .a (.i .i64 (oneDbl_1 s))] ∧ K' = []) :=
  Body.lens (c := (Try.f82.body.getD .skip)) rfl fun h => by
    cases hb0 : (ptOpen_1 s)
    · exact (oneDbl_w1_body0 s (h.vals 0 _ _ _ rfl) hb0 w rw β).mono fun _ _ hx => ⟨hx.1.trans (by rw [(show (oneDbl s) = ([0, 0, 0, 0, 0, 0, 0, 0, 0, 0, 0, 0, 0, 0, 0, 0, 0, 0, 0, 0, 0, 0, 0, 0, 0, 0, 0, 0, 0, 0, 0, 0] : List Int) from (cond_f hb0)), (show (oneDbl_1 s) = (41 : Int) from (cond_f hb0))]), hx.2⟩
    · exact (oneDbl_w0_body0 s (h.vals 0 _ _ _ rfl) hb0 w rw β).mono fun _ _ hx => ⟨hx.1.trans (by rw [(show (oneDbl s) = (oneDbl_w0 s) from (cond_t hb0)), (show (oneDbl_1 s) = (0 : Int) from (cond_t hb0))]), hx.2⟩

def gam41 : Gam := gcall 82 [] [.w, .w] (fun wk vs args => match wk, vs, args with | [], [], [.o (.g [.ints .u8 (32 : Nat) s]), .f 85 [] []] => some (True, [.g [.ints .u8 (32 : Nat) (oneDbl s)], .a (.i .i64 (oneDbl_1 s))], []) | _, _, _ => none) gam40
theorem gam41_ok : GamOk Try.prog gam41 := gcall_ok tabOkVL Try.func82 gam40_ok Try.call82 (by
  intro wk vs args p xs K1 h hv
  split at h
  · simp only [Option.some.injEq, Prod.mk.injEq] at h; obtain ⟨rfl, rfl, rfl⟩ := h; exact fun caps w rw β => oneDbl_body _ w rw β
  · simp at h)

set_option maxHeartbeats 1000000 in
theorem apDbl_w0_body0 (s : List Int) (hv0 : List.length s = (32 : Nat)) (w : World) : Body Try.prog (tabOf tabVL) Try.f34 ⟨w, [], 0, noEnv⟩ (toA [.g [.ints .u8 (32 : Nat) s]]) [] (fun ys _ => ys = [.g [.ints .u8 (32 : Nat) (oneDbl s)], .a (.i .i64 (oneDbl_1 s))]) :=
  Body.of_fin (Γ := gam41) (Λ := noLam) (Ψ := noPsi) (fuel := 0) (m := 8) (c := (Try.f34.body.getD .skip)) mix tabOkVL gam41_ok rfl (rs := [.cell 2 23, .tmp 3]) rfl rfl [] []
    (vc := [((True ∧ (True ∧ True)) ∧ True)]) (by kernel_rfl)
    (AllP_cons ⟨⟨trivial, ⟨trivial, trivial⟩⟩, trivial⟩ (AllP_nil))

set_option maxHeartbeats 1000000 in
theorem apDbl_body (s : List Int) (w : World) : Body Try.prog (tabOf tabVL) Try.f34 ⟨w, [], 0, noEnv⟩ (toA [.g [.ints .u8 (32 : Nat) s]]) [] (fun ys _ => ys = [.g [.ints .u8 (32 : Nat) (oneDbl s)], .a (.i .i64 (oneDbl_1 s))]) :=
  Body.lens (c := (Try.f34.body.getD .skip)) rfl fun h => by
    exact (apDbl_w0_body0 s (h.vals 0 _ _ _ rfl)  w).mono fun _ _ hx => hx.trans rfl

theorem apDbl_pure (s : List Int) : PureC Try.prog 34 [.g [.ints .u8 (32 : Nat) s]] [.g [.ints .u8 (32 : Nat) (oneDbl s)], .a (.i .i64 (oneDbl_1 s))] :=
  PureC.of_body tabOkVL Try.func34 rfl rfl fun w => apDbl_body s w

def gam42 : Gam := gpure 34 (fun args => match args with | [.o (.g [.ints .u8 (32 : Nat) s])] => some (none, [.g [.ints .u8 (32 : Nat) (oneDbl s)], .a (.i .i64 (oneDbl_1 s))]) | _ => none) gam41
theorem gam42_ok : GamOk Try.prog gam42 := gpure_ok gam41_ok Try.call34 (by
  intro args vc xs h hv
  split at h
  · simp only [Option.some.injEq, Prod.mk.injEq] at h; obtain ⟨rfl, rfl⟩ := h; exact ⟨_, by rfl, apDbl_pure _⟩
  · simp at h)

def oneMul_w0 (K : List Int) (s : List Int) : List Int :=
  (ptForm (ptMul (ptOpen s) K))

set_option maxHeartbeats 1000000 in
theorem oneMul_w0_body0 (K : List Int) (s : List Int) (hl0_0 : List.length K = (32 : Nat)) (hv0 : List.length s = (32 : Nat)) (hb0 : (ptOpen_1 s) = true) (w : World) (rw : List Nat) (β : Env) : Body Try.prog (tabOf tabVL) Try.f82 ⟨w, rw, 1, β⟩ [.o (.g [.ints .u8 (32 : Nat) s]), .f 96 [] [.a (.p 0 0)]] [some ⟨false, [.ints .u8 (32 : Nat) K]⟩] (fun ys K' => ys = [.g [.ints .u8 (32 : Nat) (oneMul_w0 K s)], .a (.i .i64 (0 : Int))] ∧ K' = [some ⟨false, [.ints .u8 (32 : Nat) K]⟩]) :=
  Body.of_finK (Γ := gam42) (Λ := noLam) (Ψ := noPsi) (fuel := 0) (m := 20) (c := (Try.f82.body.getD .skip)) mix tabOkVL gam42_ok rfl (rs := [.cell 4 23, .tmp 5]) rfl rfl [false] [] 1
    (vc := [((True ∧ (True ∧ True)) ∧ True), ((!(ptOpen_1 s)) = false)]) (by kernel_rfl)
    (AllP_cons ⟨⟨trivial, ⟨trivial, trivial⟩⟩, trivial⟩ (AllP_cons (by rw [hb0]; rfl) (AllP_nil)))

set_option maxHeartbeats 1000000 in
theorem oneMul_w1_body0 (K : List Int) (s : List Int) (hl0_0 : List.length K = (32 : Nat)) (hv0 : List.length s = (32 : Nat)) (hb0 : (ptOpen_1 s) = false) (w : World) (rw : List Nat) (β : Env) : Body Try.prog (tabOf tabVL) Try.f82 ⟨w, rw, 1, β⟩ [.o (.g [.ints .u8 (32 : Nat) s]), .f 96 [] [.a (.p 0 0)]] [some ⟨false, [.ints .u8 (32 : Nat) K]⟩] (fun ys K' => ys = [.g [.ints .u8 (32 : Nat) ([0, 0, 0, 0, 0, 0, 0, 0, 0, 0, 0, 0, 0, 0, 0, 0, 0, 0, 0, 0, 0, 0, 0, 0, 0, 0, 0, 0, 0, 0, 0, 0] : List Int)], .a (.i .i64 (41 : Int))] ∧ K' = [some ⟨false, [.ints .u8 (32 : Nat) K]⟩]) :=
  Body.of_finK (Γ := gam42) (Λ := noLam) (Ψ := noPsi) (fuel := 0) (m := 20) (c := (Try.f82.body.getD .skip)) mix tabOkVL gam42_ok rfl (rs := [.cell 4 23, .tmp 5]) rfl rfl [true] [] 1
    (vc := [((!(ptOpen_1 s)) = true)]) (by kernel_rfl)
    (AllP_cons (by rw [hb0]; rfl) (AllP_nil))

def oneMul (K : List Int) (s : List Int) : List Int :=
  (cond (ptOpen_1 s) (oneMul_w0 K s) ([0, 0, 0, 0, 0, 0, 0, 0, 0, 0, 0, 0, 0, 0, 0, 0, 0, 0, 0, 0, 0, 0, 0, 0, 0, 0, 0, 0, 0, 0, 0, 0] : List Int))

def oneMul_1 (s : List Int) : Int :=
  (cond (ptOpen_1 s) (0 : Int) (41 : Int))

set_option maxHeartbeats 1000000 in
theorem oneMul_body (K : List Int) (s : List Int) (w : World) (rw : List Nat) (β : Env) : Body Try.prog (tabOf tabVL) Try.f82 ⟨w, rw, 1, β⟩ [.o (.g [.ints .u8 (32 : Nat) s]), .f 96 [] [.a (.p 0 0)]] [some ⟨false, [.ints .u8 (32 : Nat) K]⟩] (fun ys K' => ys = [.g [.ints .u8 (32 : Nat) (oneMul K s)], .a (.i .i64 (oneMul_1 s))] ∧ K' = [some ⟨false, [.ints .u8 (32 : Nat) K]⟩]) :=
  Body.lens (c := (Try.f82.body.getD .skip)) rfl fun h => by
    cases hb0 : (ptOpen_1 s)
    · exact (oneMul_w1_body0 K s (h.lens 0 _ .u8 (32 : Nat) K rfl (by simp)) (h.vals 0 _ _ _ rfl) hb0 w rw β).mono fun _ _ hx => ⟨hx.1.trans (by rw [(show (oneMul K s) = ([0, 0, 0, 0, 0, 0, 0, 0, 0, 0, 0, 0, 0, 0, 0, 0, 0, 0, 0, 0, 0, 0, 0, 0, 0, 0, 0, 0, 0, 0, 0, 0] : List Int) from (cond_f hb0)), (show (oneMul_1 s) = (41 : Int) from (cond_f hb0))]), hx.2⟩
    · exact (oneMul_w0_body0 K s (h.lens 0 _ .u8 (32 : Nat) K rfl (by simp)) (h.vals 0 _ _ _ rfl) hb0 w rw β).mono fun _ _ hx => ⟨hx.1.trans (by rw [(show (oneMul K s) = (oneMul_w0 K s) from (cond_t hb0)), (show (oneMul_1 s) = (0 : Int) from (cond_t hb0))]), hx.2⟩

def gam43 : Gam := gcall 82 [false] [.w, .w] (fun wk vs args => match wk, vs, args with | [⟨false, [.ints .u8 (32 : Nat) K]⟩], [], [.o (.g [.ints .u8 (32 : Nat) s]), .f 96 [] [.a (.p 0 0)]] => some (True, [.g [.ints .u8 (32 : Nat) (oneMul K s)], .a (.i .i64 (oneMul_1 s))], [some ⟨false, [.ints .u8 (32 : Nat) K]⟩]) | _, _, _ => none) gam42
theorem gam43_ok : GamOk Try.prog gam43 := gcall_ok tabOkVL Try.func82 gam42_ok Try.call82 (by
  intro wk vs args p xs K1 h hv
  split at h
  · simp only [Option.some.injEq, Prod.mk.injEq] at h; obtain ⟨rfl, rfl, rfl⟩ := h; exact fun caps w rw β => oneMul_body _ _ w rw β
  · simp at h)

set_option maxHeartbeats 1000000 in
theorem apMul_w0_body0 (K : List Int) (s : List Int) (hv0 : List.length K = (32 : Nat)) (hv1 : List.length s = (32 : Nat)) (w : World) : Body Try.prog (tabOf tabVL) Try.f56 ⟨w, [], 0, noEnv⟩ (toA [.g [.ints .u8 (32 : Nat) K], .g [.ints .u8 (32 : Nat) s]]) [] (fun ys _ => ys = [.g [.ints .u8 (32 : Nat) (oneMul K s)], .a (.i .i64 (oneMul_1 s))]) :=
  Body.of_fin (Γ := gam43) (Λ := noLam) (Ψ := noPsi) (fuel := 0) (m := 11) (c := (Try.f56.body.getD .skip)) mix tabOkVL gam43_ok rfl (rs := [.cell 4 23, .tmp 5]) rfl rfl [] []
    (vc := [((True ∧ (True ∧ True)) ∧ True)]) (by kernel_rfl)
    (AllP_cons ⟨⟨trivial, ⟨trivial, trivial⟩⟩, trivial⟩ (AllP_nil))

set_option maxHeartbeats 1000000 in
theorem apMul_body (K : List Int) (s : List Int) (w : World) : Body Try.prog (tabOf tabVL) Try.f56 ⟨w, [], 0, noEnv⟩ (toA [.g [.ints .u8 (32 : Nat) K], .g [.ints .u8 (32 : Nat) s]]) [] (fun ys _ => ys = [.g [.ints .u8 (32 : Nat) (oneMul K s)], .a (.i .i64 (oneMul_1 s))]) :=
  Body.lens (c := (Try.f56.body.getD .skip)) rfl fun h => by
    exact (apMul_w0_body0 K s (h.vals 0 _ _ _ rfl) (h.vals 1 _ _ _ rfl)  w).mono fun _ _ hx => hx.trans rfl

theorem apMul_pure (K : List Int) (s : List Int) : PureC Try.prog 56 [.g [.ints .u8 (32 : Nat) K], .g [.ints .u8 (32 : Nat) s]] [.g [.ints .u8 (32 : Nat) (oneMul K s)], .a (.i .i64 (oneMul_1 s))] :=
  PureC.of_body tabOkVL Try.func56 rfl rfl fun w => apMul_body K s w

def gam44 : Gam := gpure 56 (fun args => match args with | [.o (.g [.ints .u8 (32 : Nat) K]), .o (.g [.ints .u8 (32 : Nat) s])] => some (none, [.g [.ints .u8 (32 : Nat) (oneMul K s)], .a (.i .i64 (oneMul_1 s))]) | _ => none) gam43
theorem gam44_ok : GamOk Try.prog gam44 := gpure_ok gam43_ok Try.call56 (by
  intro args vc xs h hv
  split at h
  · simp only [Option.some.injEq, Prod.mk.injEq] at h; obtain ⟨rfl, rfl⟩ := h; exact ⟨_, by rfl, apMul_pure _ _⟩
  · simp at h)

def oneCof_w0 (s : List Int) : List Int :=
  (ptForm (cofF (ptOpen s)))

set_option maxHeartbeats 1000000 in
theorem oneCof_w0_body0 (s : List Int) (hv0 : List.length s = (32 : Nat)) (hb0 : (ptOpen_1 s) = true) (w : World) (rw : List Nat) (β : Env) : Body Try.prog (tabOf tabVL) Try.f82 ⟨w, rw, 0, β⟩ [.o (.g [.ints .u8 (32 : Nat) s]), .f 86 [] []] [] (fun ys K' => ys = [.g [.ints .u8 (32 : Nat) (oneCof_w0 s)], .a (.i .i64 (0 : Int))] ∧ K' = []) :=
  Body.of_finK (Γ := gam44) (Λ := noLam) (Ψ := noPsi) (fuel := 0) (m := 20) (c := (Try.f82.body.getD .skip)) mix tabOkVL gam44_ok rfl (rs := [.cell 4 23, .tmp 5]) rfl rfl [false] [] 0
    (vc := [((!(ptOpen_1 s)) = false)]) (by kernel_rfl)
    (AllP_cons (by rw [hb0]; rfl) (AllP_nil))

set_option maxHeartbeats 1000000 in
theorem oneCof_w1_body0 (s : List Int) (hv0 : List.length s = (32 : Nat)) (hb0 : (ptOpen_1 s) = false) (w : World) (rw : List Nat) (β : Env) : Body Try.prog (tabOf tabVL) Try.f82 ⟨w, rw, 0, β⟩ [.o (.g [.ints .u8 (32 : Nat) s]), .f 86 [] []] [] (fun ys K' => ys = [.g [.ints .u8 (32 : Nat) ([0, 0, 0, 0, 0, 0, 0, 0, 0, 0, 0, 0, 0, 0, 0, 0, 0, 0, 0, 0, 0, 0, 0, 0, 0, 0, 0, 0, 0, 0, 0, 0] : List Int)], .a (.i .i64 (41 : Int))] ∧ K' = []) :=
  Body.of_finK (Γ := gam44) (Λ := noLam) (Ψ := noPsi) (fuel := 0) (m := 20) (c := (Try.f82.body.getD .skip)) mix tabOkVL gam44_ok rfl (rs := [.cell 4 23, .tmp 5]) rfl rfl [true] [] 0
    (vc := [((!(ptOpen_1 s)) = true)]) (by kernel_rfl)
    (AllP_cons (by rw [hb0]; rfl) (AllP_nil))

def oneCof (s : List Int) : List Int :=
  (cond (ptOpen_1 s) (oneCof_w0 s) ([0, 0, 0, 0, 0, 0, 0, 0, 0, 0, 0, 0, 0, 0, 0, 0, 0, 0, 0, 0, 0, 0, 0, 0, 0, 0, 0, 0, 0, 0, 0, 0] : List Int))

def oneCof_1 (s : List Int) : Int :=
  (cond (ptOpen_1 s) (0 : Int) (41 : Int))

set_option maxHeartbeats 1000000 in
theorem oneCof_body (s : List Int) (w : World) (rw : List Nat) (β : Env) : Body Try.prog (tabOf tabVL) Try.f82 ⟨w, rw, 0, β⟩ [.o (.g [.ints .u8 (32 : Nat) s]), .f 86 [] []] [] (fun ys K' => ys = [.g [.ints .u8 (32 : Nat) (oneCof s)], .a (.i .i64 (oneCof_1 s))] ∧ K' = []) :=
  Body.lens (c := (Try.f82.body.getD .skip)) rfl fun h => by
    cases hb0 : (ptOpen_1 s)
    · exact (oneCof_w1_body0 s (h.vals 0 _ _ _ rfl) hb0 w rw β).mono fun _ _ hx => ⟨hx.1.trans (by rw [(show (oneCof s) = ([0, 0, 0, 0, 0, 0, 0, 0, 0, 0, 0, 0, 0, 0, 0, 0, 0, 0, 0, 0, 0, 0, 0, 0, 0, 0, 0, 0, 0, 0, 0, 0] : List Int) from (cond_f hb0)), (show (oneCof_1 s) = (41 : Int) from (cond_f hb0))]), hx.2⟩
    · exact (oneCof_w0_body0 s (h.vals 0 _ _ _ rfl) hb0 w rw β).mono fun _ _ hx => ⟨hx.1.trans (by rw [(show (oneCof s) = (oneCof_w0 s) from (cond_t hb0)), (show (oneCof_1 s) = (0 : Int) from (cond_t hb0))]), hx.2⟩

def gam45 : Gam := gcall 82 [] [.w, .w] (fun wk vs args => match wk, vs, args with | [], [], [.o (.g [.ints .u8 (32 : Nat) s]), .f 86 [] []] => some (True, [.g [.ints .u8 (32 : Nat) (oneCof s)], .a (.i .i64 (oneCof_1 s))], []) | _, _, _ => none) gam44
theorem gam45_ok : GamOk Try.prog gam45 := gcall_ok tabOkVL Try.func82 gam44_ok Try.call82 (by
  intro wk vs args p xs K1 h hv
  split at h
  · simp only [Option.some.injEq, Prod.mk.injEq] at h; obtain ⟨rfl, rfl, rfl⟩ := h; exact fun caps w rw β => oneCof_body _ w rw β
  · simp at h)

set_option maxHeartbeats 1000000 in
theorem apCof_w0_body0 (s : List Int) (hv0 : List.length s = (32 : Nat)) (w : World) : Body Try.prog (tabOf tabVL) Try.f35 ⟨w, [], 0, noEnv⟩ (toA [.g [.ints .u8 (32 : Nat) s]]) [] (fun ys _ => ys = [.g [.ints .u8 (32 : Nat) (oneCof s)], .a (.i .i64 (oneCof_1 s))]) :=
  Body.of_fin (Γ := gam45) (Λ := noLam) (Ψ := noPsi) (fuel := 0) (m := 8) (c := (Try.f35.body.getD .skip)) mix tabOkVL gam45_ok rfl (rs := [.cell 2 23, .tmp 3]) rfl rfl [] []
    (vc := [((True ∧ (True ∧ True)) ∧ True)]) (by kernel_rfl)
    (AllP_cons ⟨⟨trivial, ⟨trivial, trivial⟩⟩, trivial⟩ (AllP_nil))

set_option maxHeartbeats 1000000 in
theorem apCof_body (s : List Int) (w : World) : Body Try.prog (tabOf tabVL) Try.f35 ⟨w, [], 0, noEnv⟩ (toA [.g [.ints .u8 (32 : Nat) s]]) [] (fun ys _ => ys = [.g [.ints .u8 (32 : Nat) (oneCof s)], .a (.i .i64 (oneCof_1 s))]) :=
  Body.lens (c := (Try.f35.body.getD .skip)) rfl fun h => by
    exact (apCof_w0_body0 s (h.vals 0 _ _ _ rfl)  w).mono fun _ _ hx => hx.trans rfl

theorem apCof_pure (s : List Int) : PureC Try.prog 35 [.g [.ints .u8 (32 : Nat) s]] [.g [.ints .u8 (32 : Nat) (oneCof s)], .a (.i .i64 (oneCof_1 s))] :=
  PureC.of_body tabOkVL Try.func35 rfl rfl fun w => apCof_body s w

def gam46 : Gam := gpure 35 (fun args => match args with | [.o (.g [.ints .u8 (32 : Nat) s])] => some (none, [.g [.ints .u8 (32 : Nat) (oneCof s)], .a (.i .i64 (oneCof_1 s))]) | _ => none) gam45
theorem gam46_ok : GamOk Try.prog gam46 := gpure_ok gam45_ok Try.call35 (by
  intro args vc xs h hv
  split at h
  · simp only [Option.some.injEq, Prod.mk.injEq] at h; obtain ⟨rfl, rfl⟩ := h; exact ⟨_, by rfl, apCof_pure _⟩
  · simp at h)

end Go.Proofs.Ytodiojpakfjehaa.X

/- Printed by a tool of this session. -/
namespace Go.Proofs.Ytodiojpakfjehaa.X
open Go Go.Proofs
set_option linter.unusedVariables false
set_option linter.unusedSimpArgs false
set_option maxRecDepth 100000
theorem teVM_5 : TEOk Try.prog 5 ⟨.int .u8, 1, 1, [.i .u8 (0 : Int)], false⟩ :=
  TEOk.of Try.underlying5 (i := Try.t5) (by kernel_rfl) rfl rfl rfl (by kernel_rfl) (fun h => by cases h) (by kernel_rfl)
theorem teVM_23 : TEOk Try.prog 23 ⟨.array 32 5, 32, 32, [.ints .u8 (32 : Nat) ([0, 0, 0, 0, 0, 0, 0, 0, 0, 0, 0, 0, 0, 0, 0, 0, 0, 0, 0, 0, 0, 0, 0, 0, 0, 0, 0, 0, 0, 0, 0, 0] : List Int)], true⟩ :=
  TEOk.of Try.underlying23 (i := Try.t23) (by kernel_rfl) rfl rfl rfl (by kernel_rfl) (fun _ => Try.eqGuardType23) (by kernel_rfl)
theorem teVM_24 : TEOk Try.prog 24 ⟨.array 32 5, 32, 32, [.ints .u8 (32 : Nat) ([0, 0, 0, 0, 0, 0, 0, 0, 0, 0, 0, 0, 0, 0, 0, 0, 0, 0, 0, 0, 0, 0, 0, 0, 0, 0, 0, 0, 0, 0, 0, 0] : List Int)], true⟩ :=
  TEOk.of Try.underlying24 (i := Try.t24) (by kernel_rfl) rfl rfl rfl (by kernel_rfl) (fun _ => Try.eqGuardType24) (by kernel_rfl)
theorem teVM_37 : TEOk Try.prog 37 ⟨.array 32 5, 32, 32, [.ints .u8 (32 : Nat) ([0, 0, 0, 0, 0, 0, 0, 0, 0, 0, 0, 0, 0, 0, 0, 0, 0, 0, 0, 0, 0, 0, 0, 0, 0, 0, 0, 0, 0, 0, 0, 0] : List Int)], true⟩ :=
  TEOk.of Try.underlying37 (i := Try.t37) (by kernel_rfl) rfl rfl rfl (by kernel_rfl) (fun _ => Try.eqGuardType37) (by kernel_rfl)
theorem teVM_92 : TEOk Try.prog 92 ⟨.array 5 90, 5, 40, [.ints .u64 (5 : Nat) ([0, 0, 0, 0, 0] : List Int)], true⟩ :=
  TEOk.of Try.underlying92 (i := Try.t92) (by kernel_rfl) rfl rfl rfl (by kernel_rfl) (fun _ => Try.eqGuardType92) (by kernel_rfl)
theorem teVM_94 : TEOk Try.prog 94 ⟨Try.t93.desc, 20, 160, [.ints .u64 (20 : Nat) ([0, 0, 0, 0, 0, 0, 0, 0, 0, 0, 0, 0, 0, 0, 0, 0, 0, 0, 0, 0] : List Int)], false⟩ :=
  TEOk.of Try.underlying94 (i := Try.t94) (by kernel_rfl) rfl rfl rfl (by kernel_rfl) (fun h => by cases h) (by kernel_rfl)
noncomputable def tabVM : List (Nat × TE) := [(5, ⟨.int .u8, 1, 1, [.i .u8 (0 : Int)], false⟩), (23, ⟨.array 32 5, 32, 32, [.ints .u8 (32 : Nat) ([0, 0, 0, 0, 0, 0, 0, 0, 0, 0, 0, 0, 0, 0, 0, 0, 0, 0, 0, 0, 0, 0, 0, 0, 0, 0, 0, 0, 0, 0, 0, 0] : List Int)], true⟩), (24, ⟨.array 32 5, 32, 32, [.ints .u8 (32 : Nat) ([0, 0, 0, 0, 0, 0, 0, 0, 0, 0, 0, 0, 0, 0, 0, 0, 0, 0, 0, 0, 0, 0, 0, 0, 0, 0, 0, 0, 0, 0, 0, 0] : List Int)], true⟩), (37, ⟨.array 32 5, 32, 32, [.ints .u8 (32 : Nat) ([0, 0, 0, 0, 0, 0, 0, 0, 0, 0, 0, 0, 0, 0, 0, 0, 0, 0, 0, 0, 0, 0, 0, 0, 0, 0, 0, 0, 0, 0, 0, 0] : List Int)], true⟩), (92, ⟨.array 5 90, 5, 40, [.ints .u64 (5 : Nat) ([0, 0, 0, 0, 0] : List Int)], true⟩), (94, ⟨Try.t93.desc, 20, 160, [.ints .u64 (20 : Nat) ([0, 0, 0, 0, 0, 0, 0, 0, 0, 0, 0, 0, 0, 0, 0, 0, 0, 0, 0, 0] : List Int)], false⟩)]
theorem tabOkVM : TabOk Try.prog (tabOf tabVM) := (tabOf_cons teVM_5 (tabOf_cons teVM_23 (tabOf_cons teVM_24 (tabOf_cons teVM_37 (tabOf_cons teVM_92 (tabOf_cons teVM_94 tabOf_nil))))))

set_option maxHeartbeats 1000000 in
theorem apCheck_w0_body0 (s : List Int) (hv0 : List.length s = (32 : Nat)) (hb0 : (ptOpen_1 s) = true) (w : World) : Body Try.prog (tabOf tabVM) Try.f14 ⟨w, [], 0, noEnv⟩ (toA [.g [.ints .u8 (32 : Nat) s]]) [] (fun ys _ => ys = [.a (.i .i64 (0 : Int))]) :=
  Body.of_fin (Γ := gam46) (Λ := noLam) (Ψ := noPsi) (fuel := 0) (m := 12) (c := (Try.f14.body.getD .skip)) mix tabOkVM gam46_ok rfl (rs := [.tmp 2]) rfl rfl [false] []
    (vc := [((!(ptOpen_1 s)) = false)]) (by kernel_rfl)
    (AllP_cons (by rw [hb0]; rfl) (AllP_nil))

set_option maxHeartbeats 1000000 in
theorem apCheck_w1_body0 (s : List Int) (hv0 : List.length s = (32 : Nat)) (hb0 : (ptOpen_1 s) = false) (w : World) : Body Try.prog (tabOf tabVM) Try.f14 ⟨w, [], 0, noEnv⟩ (toA [.g [.ints .u8 (32 : Nat) s]]) [] (fun ys _ => ys = [.a (.i .i64 (41 : Int))]) :=
  Body.of_fin (Γ := gam46) (Λ := noLam) (Ψ := noPsi) (fuel := 0) (m := 12) (c := (Try.f14.body.getD .skip)) mix tabOkVM gam46_ok rfl (rs := [.tmp 2]) rfl rfl [true] []
    (vc := [((!(ptOpen_1 s)) = true)]) (by kernel_rfl)
    (AllP_cons (by rw [hb0]; rfl) (AllP_nil))

def apCheck (s : List Int) : Int :=
  (cond (ptOpen_1 s) (0 : Int) (41 : Int))

set_option maxHeartbeats 1000000 in
theorem apCheck_body (s : List Int) (w : World) : Body Try.prog (tabOf tabVM) Try.f14 ⟨w, [], 0, noEnv⟩ (toA [.g [.ints .u8 (32 : Nat) s]]) [] (fun ys _ => ys = [.a (.i .i64 (apCheck s))]) :=
  Body.lens (c := (Try.f14.body.getD .skip)) rfl fun h => by
    cases hb0 : (ptOpen_1 s)
    · exact (apCheck_w1_body0 s (h.vals 0 _ _ _ rfl) hb0 w).mono fun _ _ hx => hx.trans (by rw [(show (apCheck s) = (41 : Int) from (cond_f hb0))])
    · exact (apCheck_w0_body0 s (h.vals 0 _ _ _ rfl) hb0 w).mono fun _ _ hx => hx.trans (by rw [(show (apCheck s) = (0 : Int) from (cond_t hb0))])

theorem apCheck_pure (s : List Int) : PureC Try.prog 14 [.g [.ints .u8 (32 : Nat) s]] [.a (.i .i64 (apCheck s))] :=
  PureC.of_body tabOkVM Try.func14 rfl rfl fun w => apCheck_body s w

def gam47 : Gam := gpure 14 (fun args => match args with | [.o (.g [.ints .u8 (32 : Nat) s])] => some (none, [.a (.i .i64 (apCheck s))]) | _ => none) gam46
theorem gam47_ok : GamOk Try.prog gam47 := gpure_ok gam46_ok Try.call14 (by
  intro args vc xs h hv
  split at h
  · simp only [Option.some.injEq, Prod.mk.injEq] at h; obtain ⟨rfl, rfl⟩ := h; exact ⟨_, by rfl, apCheck_pure _⟩
  · simp at h)

def apId : List Int :=
  (ptForm (ptId))

set_option maxHeartbeats 1000000 in
theorem apId_body0 (w : World) : Body Try.prog (tabOf tabVM) Try.f16 ⟨w, [], 0, noEnv⟩ (toA []) [] (fun ys _ => ys = [.g [.ints .u8 (32 : Nat) (apId)]]) :=
  Body.of_fin (Γ := gam47) (Λ := noLam) (Ψ := noPsi) (fuel := 0) (m := 3) (c := (Try.f16.body.getD .skip)) mix tabOkVM gam47_ok rfl (rs := [.cell 0 23]) rfl rfl [] []
    (vc := []) (by kernel_rfl)
    (AllP_nil)

theorem apId_body (w : World) : Body Try.prog (tabOf tabVM) Try.f16 ⟨w, [], 0, noEnv⟩ (toA []) [] (fun ys _ => ys = [.g [.ints .u8 (32 : Nat) (apId)]]) :=
  Body.lens (c := (Try.f16.body.getD .skip)) rfl fun h => apId_body0  w

theorem apId_pure : PureC Try.prog 16 [] [.g [.ints .u8 (32 : Nat) (apId)]] :=
  PureC.of_body tabOkVM Try.func16 rfl rfl fun w => apId_body w

def gam48 : Gam := gpure 16 (fun args => match args with | [] => some (none, [.g [.ints .u8 (32 : Nat) (apId)]]) | _ => none) gam47
theorem gam48_ok : GamOk Try.prog gam48 := gpure_ok gam47_ok Try.call16 (by
  intro args vc xs h hv
  split at h
  · simp only [Option.some.injEq, Prod.mk.injEq] at h; obtain ⟨rfl, rfl⟩ := h; exact ⟨_, by rfl, apId_pure⟩
  · simp at h)

def apBase : List Int :=
  (ptForm (ptB))

set_option maxHeartbeats 1000000 in
theorem apBase_body0 (w : World) : Body Try.prog (tabOf tabVM) Try.f23 ⟨w, [], 0, noEnv⟩ (toA []) [] (fun ys _ => ys = [.g [.ints .u8 (32 : Nat) (apBase)]]) :=
  Body.of_fin (Γ := gam48) (Λ := noLam) (Ψ := noPsi) (fuel := 0) (m := 3) (c := (Try.f23.body.getD .skip)) mix tabOkVM gam48_ok rfl (rs := [.cell 0 23]) rfl rfl [] []
    (vc := []) (by kernel_rfl)
    (AllP_nil)

theorem apBase_body (w : World) : Body Try.prog (tabOf tabVM) Try.f23 ⟨w, [], 0, noEnv⟩ (toA []) [] (fun ys _ => ys = [.g [.ints .u8 (32 : Nat) (apBase)]]) :=
  Body.lens (c := (Try.f23.body.getD .skip)) rfl fun h => apBase_body0  w

theorem apBase_pure : PureC Try.prog 23 [] [.g [.ints .u8 (32 : Nat) (apBase)]] :=
  PureC.of_body tabOkVM Try.func23 rfl rfl fun w => apBase_body w

def gam49 : Gam := gpure 23 (fun args => match args with | [] => some (none, [.g [.ints .u8 (32 : Nat) (apBase)]]) | _ => none) gam48
theorem gam49_ok : GamOk Try.prog gam49 := gpure_ok gam48_ok Try.call23 (by
  intro args vc xs h hv
  split at h
  · simp only [Option.some.injEq, Prod.mk.injEq] at h; obtain ⟨rfl, rfl⟩ := h; exact ⟨_, by rfl, apBase_pure⟩
  · simp at h)

def apMulB (K : List Int) : List Int :=
  (ptForm (ptMul (ptB) K))

set_option maxHeartbeats 1000000 in
theorem apMulB_body0 (K : List Int) (hv0 : List.length K = (32 : Nat)) (w : World) : Body Try.prog (tabOf tabVM) Try.f22 ⟨w, [], 0, noEnv⟩ (toA [.g [.ints .u8 (32 : Nat) K]]) [] (fun ys _ => ys = [.g [.ints .u8 (32 : Nat) (apMulB K)]]) :=
  Body.of_fin (Γ := gam49) (Λ := noLam) (Ψ := noPsi) (fuel := 0) (m := 7) (c := (Try.f22.body.getD .skip)) mix tabOkVM gam49_ok rfl (rs := [.cell 2 23]) rfl rfl [] []
    (vc := []) (by kernel_rfl)
    (AllP_nil)

theorem apMulB_body (K : List Int) (w : World) : Body Try.prog (tabOf tabVM) Try.f22 ⟨w, [], 0, noEnv⟩ (toA [.g [.ints .u8 (32 : Nat) K]]) [] (fun ys _ => ys = [.g [.ints .u8 (32 : Nat) (apMulB K)]]) :=
  Body.lens (c := (Try.f22.body.getD .skip)) rfl fun h => apMulB_body0 K (h.vals 0 _ _ _ rfl) w

theorem apMulB_pure (K : List Int) : PureC Try.prog 22 [.g [.ints .u8 (32 : Nat) K]] [.g [.ints .u8 (32 : Nat) (apMulB K)]] :=
  PureC.of_body tabOkVM Try.func22 rfl rfl fun w => apMulB_body K w

def gam52 : Gam := gpure 22 (fun args => match args with | [.o (.g [.ints .u8 (32 : Nat) K])] => some (none, [.g [.ints .u8 (32 : Nat) (apMulB K)]]) | _ => none) gam49
theorem gam52_ok : GamOk Try.prog gam52 := gpure_ok gam49_ok Try.call22 (by
  intro args vc xs h hv
  split at h
  · simp only [Option.some.injEq, Prod.mk.injEq] at h; obtain ⟨rfl, rfl⟩ := h; exact ⟨_, by rfl, apMulB_pure _⟩
  · simp at h)

def apPrime_w0 (s : List Int) : Bool :=
  (ptIsId (ptMul (ptOpen s) ([237, 211, 245, 92, 26, 99, 18, 88, 214, 156, 247, 162, 222, 249, 222, 20, 0, 0, 0, 0, 0, 0, 0, 0, 0, 0, 0, 0, 0, 0, 0, 16] : List Int)))

set_option maxHeartbeats 1000000 in
theorem apPrime_w0_body0 (s : List Int) (hv0 : List.length s = (32 : Nat)) (hb0 : (ptOpen_1 s) = true) (w : World) : Body Try.prog (tabOf tabVM) Try.f38 ⟨w, [], 0, noEnv⟩ (toA [.g [.ints .u8 (32 : Nat) s]]) [] (fun ys _ => ys = [.a (.b (apPrime_w0 s)), .a (.i .i64 (0 : Int))]) :=
  Body.of_fin (Γ := gam52) (Λ := noLam) (Ψ := noPsi) (fuel := 0) (m := 17) (c := (Try.f38.body.getD .skip)) mix tabOkVM gam52_ok rfl (rs := [.tmp 2, .tmp 3]) rfl rfl [false] []
    (vc := [((!(ptOpen_1 s)) = false)]) (by kernel_rfl)
    (AllP_cons (by rw [hb0]; rfl) (AllP_nil))

set_option maxHeartbeats 1000000 in
theorem apPrime_w1_body0 (s : List Int) (hv0 : List.length s = (32 : Nat)) (hb0 : (ptOpen_1 s) = false) (w : World) : Body Try.prog (tabOf tabVM) Try.f38 ⟨w, [], 0, noEnv⟩ (toA [.g [.ints .u8 (32 : Nat) s]]) [] (fun ys _ => ys = [.a (.b false), .a (.i .i64 (41 : Int))]) :=
  Body.of_fin (Γ := gam52) (Λ := noLam) (Ψ := noPsi) (fuel := 0) (m := 17) (c := (Try.f38.body.getD .skip)) mix tabOkVM gam52_ok rfl (rs := [.tmp 2, .tmp 3]) rfl rfl [true] []
    (vc := [((!(ptOpen_1 s)) = true)]) (by kernel_rfl)
    (AllP_cons (by rw [hb0]; rfl) (AllP_nil))

def apPrime (s : List Int) : Bool :=
  (cond (ptOpen_1 s) (apPrime_w0 s) false)

def apPrime_1 (s : List Int) : Int :=
  (cond (ptOpen_1 s) (0 : Int) (41 : Int))

set_option maxHeartbeats 1000000 in
theorem apPrime_body (s : List Int) (w : World) : Body Try.prog (tabOf tabVM) Try.f38 ⟨w, [], 0, noEnv⟩ (toA [.g [.ints .u8 (32 : Nat) s]]) [] (fun ys _ => ys = [.a (.b (apPrime s)), .a (.i .i64 (apPrime_1 s))]) :=
  Body.lens (c := (Try.f38.body.getD .skip)) rfl fun h => by
    cases hb0 : (ptOpen_1 s)
    · exact (apPrime_w1_body0 s (h.vals 0 _ _ _ rfl) hb0 w).mono fun _ _ hx => hx.trans (by rw [(show (apPrime s) = false from (cond_f hb0)), (show (apPrime_1 s) = (41 : Int) from (cond_f hb0))])
    · exact (apPrime_w0_body0 s (h.vals 0 _ _ _ rfl) hb0 w).mono fun _ _ hx => hx.trans (by rw [(show (apPrime s) = (apPrime_w0 s) from (cond_t hb0)), (show (apPrime_1 s) = (0 : Int) from (cond_t hb0))])

theorem apPrime_pure (s : List Int) : PureC Try.prog 38 [.g [.ints .u8 (32 : Nat) s]] [.a (.b (apPrime s)), .a (.i .i64 (apPrime_1 s))] :=
  PureC.of_body tabOkVM Try.func38 rfl rfl fun w => apPrime_body s w

def gam53 : Gam := gpure 38 (fun args => match args with | [.o (.g [.ints .u8 (32 : Nat) s])] => some (none, [.a (.b (apPrime s)), .a (.i .i64 (apPrime_1 s))]) | _ => none) gam52
theorem gam53_ok : GamOk Try.prog gam53 := gpure_ok gam52_ok Try.call38 (by
  intro args vc xs h hv
  split at h
  · simp only [Option.some.injEq, Prod.mk.injEq] at h; obtain ⟨rfl, rfl⟩ := h; exact ⟨_, by rfl, apPrime_pure _⟩
  · simp at h)

end Go.Proofs.Ytodiojpakfjehaa.X

/- What the functions of the package answer, as points of the curve. -/
namespace Go.Proofs.Ytodiojpakfjehaa.X
open Go Go.Proofs
set_option linter.unusedVariables false
set_option linter.unusedSimpArgs false
set_option maxRecDepth 100000

instance eDec : DecidableEq E := fun a b => if h : a.1 = b.1 then isTrue (Ep.ext h) else isFalse fun e => h (congrArg Subtype.val e)
def z32 : List Int := [0, 0, 0, 0, 0, 0, 0, 0, 0, 0, 0, 0, 0, 0, 0, 0, 0, 0, 0, 0, 0, 0, 0, 0, 0, 0, 0, 0, 0, 0, 0, 0]
theorem op_enc (p : E) : ptOpen_1 (encE p) = true ∧ LA (ptOpen (encE p)) p := (open_ok (encE_byt p) (encE_len p)).2 p (dec_enc p)
theorem op1 (p : E) : ptOpen_1 (encE p) = true := (op_enc p).1
theorem op2 (p : E) : LP (ptOpen (encE p)) p := (op_enc p).2.lp
theorem add_enc (p q : E) : apAdd (encE p) (encE q) = encE (ad p q) := by
  refine (cond_t (op1 p)).trans ((cond_t (op1 q)).trans ?_)
  exact form_ok (lp_add (op2 p) (op2 q))
theorem addc_enc (p q : E) : apAdd_1 (encE p) (encE q) = 0 := (cond_t (op1 p)).trans (cond_t (op1 q))
theorem sub_enc (p q : E) : apSub (encE p) (encE q) = encE (ad p (ng q)) := by
  refine (cond_t (op1 p)).trans ((cond_t (op1 q)).trans ?_)
  exact form_ok (lp_add (op2 p) (lp_neg (op2 q)))
theorem subc_enc (p q : E) : apSub_1 (encE p) (encE q) = 0 := (cond_t (op1 p)).trans (cond_t (op1 q))
theorem neg_enc (p : E) : oneNeg (encE p) = encE (ng p) := (cond_t (op1 p)).trans (form_ok (lp_neg (op2 p)))
theorem negc_enc (p : E) : oneNeg_1 (encE p) = 0 := cond_t (op1 p)
theorem dbl_enc (p : E) : oneDbl (encE p) = encE (ad p p) := (cond_t (op1 p)).trans (form_ok (lp_dbl (op2 p)))
theorem dblc_enc (p : E) : oneDbl_1 (encE p) = 0 := cond_t (op1 p)
theorem mul_enc {K : List Int} (hK : Byt K) (l : K.length = 32) (p : E) : oneMul K (encE p) = encE (mu (BV K).toNat p) := (cond_t (op1 p)).trans (form_ok (lp_mul (op2 p) hK l))
theorem mulc_enc (p : E) : oneMul_1 (encE p) = 0 := cond_t (op1 p)
theorem cof_enc (p : E) : oneCof (encE p) = encE (mu 8 p) := by
  refine (cond_t (op1 p)).trans ?_
  have k := form_ok (lp_dbl (lp_dbl (lp_dbl (op2 p))))
  have e : ad (ad (ad p p) (ad p p)) (ad (ad p p) (ad p p)) = mu 8 p := by
    have h1 : ad p p = mu 2 p := by
      have := mu_add 1 1 p
      rw [mu_one] at this
      exact this.symm
    rw [h1, ← mu_add, ← mu_add]
  rw [e] at k
  exact k
theorem cofc_enc (p : E) : oneCof_1 (encE p) = 0 := cond_t (op1 p)
theorem chk_enc (p : E) : apCheck (encE p) = 0 := cond_t (op1 p)
theorem chk_none {s : List Int} (h : Byt s) (l : s.length = 32) (hd : decE s = none) : apCheck s = 41 := cond_f ((open_ok h l).1 hd)
theorem id_enc : apId = encE E0 := form_ok lp_id
theorem base_enc : apBase = encE eB := form_ok lp_base
theorem mulB_enc {K : List Int} (hK : Byt K) (l : K.length = 32) : apMulB K = encE (mu (BV K).toNat eB) := form_ok (lp_mul lp_base hK l)
section ring
variable {K : Type} [Lean.Grind.CommRing K]
end ring
theorem isid_ok {l : List Int} {p : E} (h : LP l p) : ptIsId l = decide (p = E0) := by
  obtain ⟨⟨_, x, y, z, _⟩, q⟩ := h
  have k := qr_zero q
  have s1 := same_ok x zero5.1
  have s2 := same_ok y z
  rw [zero5.2] at s1
  unfold ptIsId ptIsId_w0
  rw [s1, s2]
  by_cases h1 : fv (sub l 0 5) = 0
  · rw [decide_eq_true h1]
    show decide _ = _
    refine decide_eq_decide.2 ⟨fun h2 => k.2 ⟨h1, h2⟩, fun h2 => (k.1 h2).2⟩
  · rw [decide_eq_false h1]
    exact (decide_eq_false fun h2 => h1 (k.1 h2).1).symm
theorem ordL_BV : (BV [237, 211, 245, 92, 26, 99, 18, 88, 214, 156, 247, 162, 222, 249, 222, 20, 0, 0, 0, 0, 0, 0, 0, 0, 0, 0, 0, 0, 0, 0, 0, 16]).toNat = LN := by decide +kernel
theorem ordL_byt : Byt [237, 211, 245, 92, 26, 99, 18, 88, 214, 156, 247, 162, 222, 249, 222, 20, 0, 0, 0, 0, 0, 0, 0, 0, 0, 0, 0, 0, 0, 0, 0, 16] := byt_small (by decide)
theorem mulL_ok {l : List Int} {p : E} (h : LP l p) : ptIsId (ptMul l [237, 211, 245, 92, 26, 99, 18, 88, 214, 156, 247, 162, 222, 249, 222, 20, 0, 0, 0, 0, 0, 0, 0, 0, 0, 0, 0, 0, 0, 0, 0, 16]) = decide (mu LN p = E0) := by
  have k := isid_ok (lp_mul h ordL_byt rfl)
  rw [ordL_BV] at k
  exact k
theorem prime_enc (p : E) : apPrime (encE p) = decide (mu LN p = E0) ∧ apPrime_1 (encE p) = 0 :=
  ⟨(cond_t (op1 p)).trans (mulL_ok (op2 p)), cond_t (op1 p)⟩
end Go.Proofs.Ytodiojpakfjehaa.X

/- Printed by a tool of this session. -/
namespace Go.Proofs.Ytodiojpakfjehaa.X
open Go Go.Proofs
set_option linter.unusedVariables false
set_option linter.unusedSimpArgs false
set_option maxRecDepth 100000
theorem teVN_5 : TEOk Try.prog 5 ⟨.int .u8, 1, 1, [.i .u8 (0 : Int)], false⟩ :=
  TEOk.of Try.underlying5 (i := Try.t5) (by kernel_rfl) rfl rfl rfl (by kernel_rfl) (fun h => by cases h) (by kernel_rfl)
theorem teVN_23 : TEOk Try.prog 23 ⟨.array 32 5, 32, 32, [.ints .u8 (32 : Nat) ([0, 0, 0, 0, 0, 0, 0, 0, 0, 0, 0, 0, 0, 0, 0, 0, 0, 0, 0, 0, 0, 0, 0, 0, 0, 0, 0, 0, 0, 0, 0, 0] : List Int)], true⟩ :=
  TEOk.of Try.underlying23 (i := Try.t23) (by kernel_rfl) rfl rfl rfl (by kernel_rfl) (fun _ => Try.eqGuardType23) (by kernel_rfl)
theorem teVN_32 : TEOk Try.prog 32 ⟨.slice 5, 1, 24, [.raw (.slice none 0 0)], false⟩ :=
  TEOk.of Try.underlying32 (i := Try.t32) (by kernel_rfl) rfl rfl rfl (by kernel_rfl) (fun h => by cases h) (by kernel_rfl)
theorem teVN_37 : TEOk Try.prog 37 ⟨.array 32 5, 32, 32, [.ints .u8 (32 : Nat) ([0, 0, 0, 0, 0, 0, 0, 0, 0, 0, 0, 0, 0, 0, 0, 0, 0, 0, 0, 0, 0, 0, 0, 0, 0, 0, 0, 0, 0, 0, 0, 0] : List Int)], true⟩ :=
  TEOk.of Try.underlying37 (i := Try.t37) (by kernel_rfl) rfl rfl rfl (by kernel_rfl) (fun _ => Try.eqGuardType37) (by kernel_rfl)
theorem teVN_45 : TEOk Try.prog 45 ⟨.slice 23, 1, 24, [.raw (.slice none 0 0)], false⟩ :=
  TEOk.of Try.underlying45 (i := Try.t45) (by kernel_rfl) rfl rfl rfl (by kernel_rfl) (fun h => by cases h) (by kernel_rfl)
theorem teVN_94 : TEOk Try.prog 94 ⟨Try.t93.desc, 20, 160, [.ints .u64 (20 : Nat) ([0, 0, 0, 0, 0, 0, 0, 0, 0, 0, 0, 0, 0, 0, 0, 0, 0, 0, 0, 0] : List Int)], false⟩ :=
  TEOk.of Try.underlying94 (i := Try.t94) (by kernel_rfl) rfl rfl rfl (by kernel_rfl) (fun h => by cases h) (by kernel_rfl)
noncomputable def tabVN : List (Nat × TE) := [(5, ⟨.int .u8, 1, 1, [.i .u8 (0 : Int)], false⟩), (23, ⟨.array 32 5, 32, 32, [.ints .u8 (32 : Nat) ([0, 0, 0, 0, 0, 0, 0, 0, 0, 0, 0, 0, 0, 0, 0, 0, 0, 0, 0, 0, 0, 0, 0, 0, 0, 0, 0, 0, 0, 0, 0, 0] : List Int)], true⟩), (32, ⟨.slice 5, 1, 24, [.raw (.slice none 0 0)], false⟩), (37, ⟨.array 32 5, 32, 32, [.ints .u8 (32 : Nat) ([0, 0, 0, 0, 0, 0, 0, 0, 0, 0, 0, 0, 0, 0, 0, 0, 0, 0, 0, 0, 0, 0, 0, 0, 0, 0, 0, 0, 0, 0, 0, 0] : List Int)], true⟩), (45, ⟨.slice 23, 1, 24, [.raw (.slice none 0 0)], false⟩), (94, ⟨Try.t93.desc, 20, 160, [.ints .u64 (20 : Nat) ([0, 0, 0, 0, 0, 0, 0, 0, 0, 0, 0, 0, 0, 0, 0, 0, 0, 0, 0, 0] : List Int)], false⟩)]
theorem tabOkVN : TabOk Try.prog (tabOf tabVN) := (tabOf_cons teVN_5 (tabOf_cons teVN_23 (tabOf_cons teVN_32 (tabOf_cons teVN_37 (tabOf_cons teVN_45 (tabOf_cons teVN_94 tabOf_nil))))))

set_option maxHeartbeats 1000000 in
theorem num_body0 (x : Int) (w : World) : Body Try.prog (tabOf tabVN) Try.f43 ⟨w, [], 0, noEnv⟩ (toA [.a (.i .i64 x)]) [] (fun ys _ => ys = [.a (.i .i64 x)]) :=
  Body.of_fin (Γ := gam53) (Λ := noLam) (Ψ := noPsi) (fuel := 0) (m := 4) (c := (Try.f43.body.getD .skip)) mix tabOkVN gam53_ok rfl (rs := [.tmp 2]) rfl rfl [] []
    (vc := []) (by kernel_rfl)
    (AllP_nil)

theorem num_body (x : Int) (w : World) : Body Try.prog (tabOf tabVN) Try.f43 ⟨w, [], 0, noEnv⟩ (toA [.a (.i .i64 x)]) [] (fun ys _ => ys = [.a (.i .i64 x)]) :=
  Body.lens (c := (Try.f43.body.getD .skip)) rfl fun h => num_body0 x  w

theorem num_pure (x : Int) : PureC Try.prog 43 [.a (.i .i64 x)] [.a (.i .i64 x)] :=
  PureC.of_body tabOkVN Try.func43 rfl rfl fun w => num_body x w

def gam57 : Gam := gpure 43 (fun args => match args with | [.o (.a (.i .i64 x))] => some (none, [.a (.i .i64 x)]) | _ => none) gam53
theorem gam57_ok : GamOk Try.prog gam57 := gpure_ok gam53_ok Try.call43 (by
  intro args vc xs h hv
  split at h
  · simp only [Option.some.injEq, Prod.mk.injEq] at h; obtain ⟨rfl, rfl⟩ := h; exact ⟨_, by rfl, num_pure _⟩
  · simp at h)

set_option maxHeartbeats 1000000 in
theorem lwAdd_w0_body0 (r : List Int) (s : List Int) (hv0 : List.length r = (32 : Nat)) (hv1 : List.length s = (32 : Nat)) (hb0 : ((apAdd_1 r s) != (0 : Int)) = true) (w : World) : Body Try.prog (tabOf tabVN) Try.f15 ⟨w, [], 0, noEnv⟩ (toA [.g [.ints .u8 (32 : Nat) r], .g [.ints .u8 (32 : Nat) s]]) [] (fun ys _ => ys = [.g [.ints .u8 (32 : Nat) ([0, 0, 0, 0, 0, 0, 0, 0, 0, 0, 0, 0, 0, 0, 0, 0, 0, 0, 0, 0, 0, 0, 0, 0, 0, 0, 0, 0, 0, 0, 0, 0] : List Int)]]) :=
  Body.of_fin (Γ := gam57) (Λ := noLam) (Ψ := noPsi) (fuel := 0) (m := 17) (c := (Try.f15.body.getD .skip)) mix tabOkVN gam57_ok rfl (rs := [.cell 4 23]) rfl rfl [true] []
    (vc := [(((apAdd_1 r s) != (0 : Int)) = true)]) (by kernel_rfl)
    (AllP_cons hb0 (AllP_nil))

set_option maxHeartbeats 1000000 in
theorem lwAdd_w1_body0 (r : List Int) (s : List Int) (hv0 : List.length r = (32 : Nat)) (hv1 : List.length s = (32 : Nat)) (hb0 : ((apAdd_1 r s) != (0 : Int)) = false) (w : World) : Body Try.prog (tabOf tabVN) Try.f15 ⟨w, [], 0, noEnv⟩ (toA [.g [.ints .u8 (32 : Nat) r], .g [.ints .u8 (32 : Nat) s]]) [] (fun ys _ => ys = [.g [.ints .u8 (32 : Nat) (apAdd r s)]]) :=
  Body.of_fin (Γ := gam57) (Λ := noLam) (Ψ := noPsi) (fuel := 0) (m := 17) (c := (Try.f15.body.getD .skip)) mix tabOkVN gam57_ok rfl (rs := [.cell 4 23]) rfl rfl [false] []
    (vc := [(((apAdd_1 r s) != (0 : Int)) = false)]) (by kernel_rfl)
    (AllP_cons hb0 (AllP_nil))

def lwAdd (r : List Int) (s : List Int) : List Int :=
  (cond ((apAdd_1 r s) != (0 : Int)) ([0, 0, 0, 0, 0, 0, 0, 0, 0, 0, 0, 0, 0, 0, 0, 0, 0, 0, 0, 0, 0, 0, 0, 0, 0, 0, 0, 0, 0, 0, 0, 0] : List Int) (apAdd r s))

set_option maxHeartbeats 1000000 in
theorem lwAdd_body (r : List Int) (s : List Int) (w : World) : Body Try.prog (tabOf tabVN) Try.f15 ⟨w, [], 0, noEnv⟩ (toA [.g [.ints .u8 (32 : Nat) r], .g [.ints .u8 (32 : Nat) s]]) [] (fun ys _ => ys = [.g [.ints .u8 (32 : Nat) (lwAdd r s)]]) :=
  Body.lens (c := (Try.f15.body.getD .skip)) rfl fun h => by
    cases hb0 : ((apAdd_1 r s) != (0 : Int))
    · exact (lwAdd_w1_body0 r s (h.vals 0 _ _ _ rfl) (h.vals 1 _ _ _ rfl) hb0 w).mono fun _ _ hx => hx.trans (by rw [(show (lwAdd r s) = (apAdd r s) from (cond_f hb0))])
    · exact (lwAdd_w0_body0 r s (h.vals 0 _ _ _ rfl) (h.vals 1 _ _ _ rfl) hb0 w).mono fun _ _ hx => hx.trans (by rw [(show (lwAdd r s) = ([0, 0, 0, 0, 0, 0, 0, 0, 0, 0, 0, 0, 0, 0, 0, 0, 0, 0, 0, 0, 0, 0, 0, 0, 0, 0, 0, 0, 0, 0, 0, 0] : List Int) from (cond_t hb0))])

theorem lwAdd_pure (r : List Int) (s : List Int) : PureC Try.prog 15 [.g [.ints .u8 (32 : Nat) r], .g [.ints .u8 (32 : Nat) s]] [.g [.ints .u8 (32 : Nat) (lwAdd r s)]] :=
  PureC.of_body tabOkVN Try.func15 rfl rfl fun w => lwAdd_body r s w

def gam58 : Gam := gpure 15 (fun args => match args with | [.o (.g [.ints .u8 (32 : Nat) r]), .o (.g [.ints .u8 (32 : Nat) s])] => some (none, [.g [.ints .u8 (32 : Nat) (lwAdd r s)]]) | _ => none) gam57
theorem gam58_ok : GamOk Try.prog gam58 := gpure_ok gam57_ok Try.call15 (by
  intro args vc xs h hv
  split at h
  · simp only [Option.some.injEq, Prod.mk.injEq] at h; obtain ⟨rfl, rfl⟩ := h; exact ⟨_, by rfl, lwAdd_pure _ _⟩
  · simp at h)

set_option maxHeartbeats 1000000 in
theorem lwMul_w0_body0 (K : List Int) (s : List Int) (hv0 : List.length K = (32 : Nat)) (hv1 : List.length s = (32 : Nat)) (hb0 : ((oneMul_1 s) != (0 : Int)) = true) (w : World) : Body Try.prog (tabOf tabVN) Try.f18 ⟨w, [], 0, noEnv⟩ (toA [.g [.ints .u8 (32 : Nat) K], .g [.ints .u8 (32 : Nat) s]]) [] (fun ys _ => ys = [.g [.ints .u8 (32 : Nat) ([0, 0, 0, 0, 0, 0, 0, 0, 0, 0, 0, 0, 0, 0, 0, 0, 0, 0, 0, 0, 0, 0, 0, 0, 0, 0, 0, 0, 0, 0, 0, 0] : List Int)]]) :=
  Body.of_fin (Γ := gam58) (Λ := noLam) (Ψ := noPsi) (fuel := 0) (m := 17) (c := (Try.f18.body.getD .skip)) mix tabOkVN gam58_ok rfl (rs := [.cell 4 23]) rfl rfl [true] []
    (vc := [(((oneMul_1 s) != (0 : Int)) = true)]) (by kernel_rfl)
    (AllP_cons hb0 (AllP_nil))

set_option maxHeartbeats 1000000 in
theorem lwMul_w1_body0 (K : List Int) (s : List Int) (hv0 : List.length K = (32 : Nat)) (hv1 : List.length s = (32 : Nat)) (hb0 : ((oneMul_1 s) != (0 : Int)) = false) (w : World) : Body Try.prog (tabOf tabVN) Try.f18 ⟨w, [], 0, noEnv⟩ (toA [.g [.ints .u8 (32 : Nat) K], .g [.ints .u8 (32 : Nat) s]]) [] (fun ys _ => ys = [.g [.ints .u8 (32 : Nat) (oneMul K s)]]) :=
  Body.of_fin (Γ := gam58) (Λ := noLam) (Ψ := noPsi) (fuel := 0) (m := 17) (c := (Try.f18.body.getD .skip)) mix tabOkVN gam58_ok rfl (rs := [.cell 4 23]) rfl rfl [false] []
    (vc := [(((oneMul_1 s) != (0 : Int)) = false)]) (by kernel_rfl)
    (AllP_cons hb0 (AllP_nil))

def lwMul (K : List Int) (s : List Int) : List Int :=
  (cond ((oneMul_1 s) != (0 : Int)) ([0, 0, 0, 0, 0, 0, 0, 0, 0, 0, 0, 0, 0, 0, 0, 0, 0, 0, 0, 0, 0, 0, 0, 0, 0, 0, 0, 0, 0, 0, 0, 0] : List Int) (oneMul K s))

set_option maxHeartbeats 1000000 in
theorem lwMul_body (K : List Int) (s : List Int) (w : World) : Body Try.prog (tabOf tabVN) Try.f18 ⟨w, [], 0, noEnv⟩ (toA [.g [.ints .u8 (32 : Nat) K], .g [.ints .u8 (32 : Nat) s]]) [] (fun ys _ => ys = [.g [.ints .u8 (32 : Nat) (lwMul K s)]]) :=
  Body.lens (c := (Try.f18.body.getD .skip)) rfl fun h => by
    cases hb0 : ((oneMul_1 s) != (0 : Int))
    · exact (lwMul_w1_body0 K s (h.vals 0 _ _ _ rfl) (h.vals 1 _ _ _ rfl) hb0 w).mono fun _ _ hx => hx.trans (by rw [(show (lwMul K s) = (oneMul K s) from (cond_f hb0))])
    · exact (lwMul_w0_body0 K s (h.vals 0 _ _ _ rfl) (h.vals 1 _ _ _ rfl) hb0 w).mono fun _ _ hx => hx.trans (by rw [(show (lwMul K s) = ([0, 0, 0, 0, 0, 0, 0, 0, 0, 0, 0, 0, 0, 0, 0, 0, 0, 0, 0, 0, 0, 0, 0, 0, 0, 0, 0, 0, 0, 0, 0, 0] : List Int) from (cond_t hb0))])

theorem lwMul_pure (K : List Int) (s : List Int) : PureC Try.prog 18 [.g [.ints .u8 (32 : Nat) K], .g [.ints .u8 (32 : Nat) s]] [.g [.ints .u8 (32 : Nat) (lwMul K s)]] :=
  PureC.of_body tabOkVN Try.func18 rfl rfl fun w => lwMul_body K s w

def gam59 : Gam := gpure 18 (fun args => match args with | [.o (.g [.ints .u8 (32 : Nat) K]), .o (.g [.ints .u8 (32 : Nat) s])] => some (none, [.g [.ints .u8 (32 : Nat) (lwMul K s)]]) | _ => none) gam58
theorem gam59_ok : GamOk Try.prog gam59 := gpure_ok gam58_ok Try.call18 (by
  intro args vc xs h hv
  split at h
  · simp only [Option.some.injEq, Prod.mk.injEq] at h; obtain ⟨rfl, rfl⟩ := h; exact ⟨_, by rfl, lwMul_pure _ _⟩
  · simp at h)

set_option maxHeartbeats 1000000 in
theorem lwOrd_body0 (w : World) : Body Try.prog (tabOf tabVN) Try.f36 ⟨w, [], 0, noEnv⟩ (toA []) [] (fun ys _ => ys = [.g [.ints .u8 (32 : Nat) ([237, 211, 245, 92, 26, 99, 18, 88, 214, 156, 247, 162, 222, 249, 222, 20, 0, 0, 0, 0, 0, 0, 0, 0, 0, 0, 0, 0, 0, 0, 0, 16] : List Int)]]) :=
  Body.of_fin (Γ := gam59) (Λ := noLam) (Ψ := noPsi) (fuel := 0) (m := 2) (c := (Try.f36.body.getD .skip)) mix tabOkVN gam59_ok rfl (rs := [.cell 0 37]) rfl rfl [] []
    (vc := []) (by kernel_rfl)
    (AllP_nil)

theorem lwOrd_body (w : World) : Body Try.prog (tabOf tabVN) Try.f36 ⟨w, [], 0, noEnv⟩ (toA []) [] (fun ys _ => ys = [.g [.ints .u8 (32 : Nat) ([237, 211, 245, 92, 26, 99, 18, 88, 214, 156, 247, 162, 222, 249, 222, 20, 0, 0, 0, 0, 0, 0, 0, 0, 0, 0, 0, 0, 0, 0, 0, 16] : List Int)]]) :=
  Body.lens (c := (Try.f36.body.getD .skip)) rfl fun h => lwOrd_body0  w

theorem lwOrd_pure : PureC Try.prog 36 [] [.g [.ints .u8 (32 : Nat) ([237, 211, 245, 92, 26, 99, 18, 88, 214, 156, 247, 162, 222, 249, 222, 20, 0, 0, 0, 0, 0, 0, 0, 0, 0, 0, 0, 0, 0, 0, 0, 16] : List Int)]] :=
  PureC.of_body tabOkVN Try.func36 rfl rfl fun w => lwOrd_body w

def gam60 : Gam := gpure 36 (fun args => match args with | [] => some (none, [.g [.ints .u8 (32 : Nat) ([237, 211, 245, 92, 26, 99, 18, 88, 214, 156, 247, 162, 222, 249, 222, 20, 0, 0, 0, 0, 0, 0, 0, 0, 0, 0, 0, 0, 0, 0, 0, 16] : List Int)]]) | _ => none) gam59
theorem gam60_ok : GamOk Try.prog gam60 := gpure_ok gam59_ok Try.call36 (by
  intro args vc xs h hv
  split at h
  · simp only [Option.some.injEq, Prod.mk.injEq] at h; obtain ⟨rfl, rfl⟩ := h; exact ⟨_, by rfl, lwOrd_pure⟩
  · simp at h)

set_option maxHeartbeats 1000000 in
theorem apDecE_body0 (n : Nat) (nm : Nat) (b : List Int) (cap0 : Nat) (h0 : (nm = n)) (h1 : (n ≠ (32 : Nat))) (hc0 : n ≤ cap0) (hl0_0 : List.length b = nm) (w : World) (β : Env) : Body Try.prog (tabOf tabVN) Try.f13 ⟨w, [], 1, β⟩ [.o (.a (.sl 0 (0 : Nat) n cap0))] [some ⟨false, [.ints .u8 nm b]⟩] (fun ys _ => ys = [.g [.ints .u8 (32 : Nat) ([0, 0, 0, 0, 0, 0, 0, 0, 0, 0, 0, 0, 0, 0, 0, 0, 0, 0, 0, 0, 0, 0, 0, 0, 0, 0, 0, 0, 0, 0, 0, 0] : List Int)], .a (.i .i64 (3 : Int))]) :=
  Body.of_fin (Γ := gam60) (Λ := noLam) (Ψ := noPsi) (fuel := 0) (m := 20) (c := (Try.f13.body.getD .skip)) mix tabOkVN gam60_ok rfl (rs := [.cell 2 23, .tmp 3]) rfl rfl [true] []
    (vc := [((((n : Nat) : Int) != (32 : Int)) = true)]) (by kernel_rfl)
    (AllP_cons (bne_iff_ne.2 (by omega)) (AllP_nil))

theorem apDecE_body (n : Nat) (nm : Nat) (b : List Int) (cap0 : Nat) (h0 : (nm = n)) (h1 : (n ≠ (32 : Nat))) (w : World) (β : Env) : Body Try.prog (tabOf tabVN) Try.f13 ⟨w, [], 1, β⟩ [.o (.a (.sl 0 (0 : Nat) n cap0))] [some ⟨false, [.ints .u8 nm b]⟩] (fun ys _ => ys = [.g [.ints .u8 (32 : Nat) ([0, 0, 0, 0, 0, 0, 0, 0, 0, 0, 0, 0, 0, 0, 0, 0, 0, 0, 0, 0, 0, 0, 0, 0, 0, 0, 0, 0, 0, 0, 0, 0] : List Int)], .a (.i .i64 (3 : Int))]) :=
  Body.lens (c := (Try.f13.body.getD .skip)) rfl fun h => apDecE_body0 n nm b cap0 h0 h1 (h.caps 0 _ _ _ _ rfl) (h.lens 0 _ .u8 nm b rfl (by simp)) w β

def gam61 : Gam := greadV 13 [.s 1] (fun vs args => match vs, args with | [⟨_, _, _, [.ints .u8 nm b]⟩], [a0] => some ((nm = (lenOfA a0)) ∧ ((lenOfA a0) ≠ (32 : Nat)), [.g [.ints .u8 (32 : Nat) ([0, 0, 0, 0, 0, 0, 0, 0, 0, 0, 0, 0, 0, 0, 0, 0, 0, 0, 0, 0, 0, 0, 0, 0, 0, 0, 0, 0, 0, 0, 0, 0] : List Int)], .a (.i .i64 (3 : Int))]) | _, _ => none) gam60
theorem gam61_ok : GamOk Try.prog gam61 := greadV_ok tabOkVN Try.func13 gam60_ok Try.call13 (by
  intro vs args p xs h hv
  split at h
  · simp only [Option.some.injEq, Prod.mk.injEq] at h; obtain ⟨rfl, rfl⟩ := h; exact ⟨by rfl, fun caps w β => apDecE_body _ _ _ _ hv.1 hv.2 w β⟩
  · simp at h)

def apO8 : List Int :=
  let z0 : List Int := (ptAdd (ptAdd (ptId) (ptT)) (ptT))
  let z1 : List Int := (ptAdd z0 (ptT))
  let z2 : List Int := (ptAdd z1 (ptT))
  let z3 : List Int := (ptAdd z2 (ptT))
  let z4 : List Int := (ptAdd z3 (ptT))
  ((sub ((sub ((sub ((sub ((sub ((sub ((sub (sub (ptForm (ptId)) (0 : Nat) (32 : Nat)) (0 : Nat) (32 : Nat)) ++ (sub (ptForm (ptAdd (ptId) (ptT))) (0 : Nat) (32 : Nat))) (0 : Nat) (64 : Nat)) ++ (sub (ptForm z0) (0 : Nat) (32 : Nat))) (0 : Nat) (96 : Nat)) ++ (sub (ptForm z1) (0 : Nat) (32 : Nat))) (0 : Nat) (128 : Nat)) ++ (sub (ptForm z2) (0 : Nat) (32 : Nat))) (0 : Nat) (160 : Nat)) ++ (sub (ptForm z3) (0 : Nat) (32 : Nat))) (0 : Nat) (192 : Nat)) ++ (sub (ptForm z4) (0 : Nat) (32 : Nat))) (0 : Nat) (224 : Nat)) ++ (sub (ptForm (ptAdd z4 (ptT))) (0 : Nat) (32 : Nat)))

set_option maxHeartbeats 1000000 in
theorem apO8_body0 (w : World) (rw : List Nat) (β : Env) : Body Try.prog (tabOf tabVN) Try.f25 ⟨w, rw, 0, β⟩ [] [] (fun ys K' => ys = [.a (.rs 0 (0 : Nat) (8 : Nat) 32)] ∧ K' = [some ⟨true, [.ints .u8 (256 : Nat) (apO8)]⟩]) :=
  Body.of_finK (Γ := gam61) (Λ := noLam) (Ψ := noPsi) (fuel := 9) (m := 16) (c := (Try.f25.body.getD .skip)) mix tabOkVN gam61_ok rfl (rs := [.tmp 0]) rfl rfl [true, false, true, false, true, false, true, false, true, false, true, false, true, false, true, false, false] [.swap 0 16] 1
    (vc := [(false = false), (((224 : Nat) ≤ (224 : Nat)) ∧ (((1 : Nat) ≤ (1 : Nat)) ∧ ((32 : Nat) ≤ (32 : Nat))) ∧ ((256 : Nat) ≤ (140737488355328 : Nat))), (true = true), (((192 : Nat) ≤ (192 : Nat)) ∧ (((1 : Nat) ≤ (1 : Nat)) ∧ ((32 : Nat) ≤ (32 : Nat))) ∧ ((224 : Nat) ≤ (140737488355328 : Nat))), (true = true), (((160 : Nat) ≤ (160 : Nat)) ∧ (((1 : Nat) ≤ (1 : Nat)) ∧ ((32 : Nat) ≤ (32 : Nat))) ∧ ((192 : Nat) ≤ (140737488355328 : Nat))), (true = true), (((128 : Nat) ≤ (128 : Nat)) ∧ (((1 : Nat) ≤ (1 : Nat)) ∧ ((32 : Nat) ≤ (32 : Nat))) ∧ ((160 : Nat) ≤ (140737488355328 : Nat))), (true = true), (((96 : Nat) ≤ (96 : Nat)) ∧ (((1 : Nat) ≤ (1 : Nat)) ∧ ((32 : Nat) ≤ (32 : Nat))) ∧ ((128 : Nat) ≤ (140737488355328 : Nat))), (true = true), (((64 : Nat) ≤ (64 : Nat)) ∧ (((1 : Nat) ≤ (1 : Nat)) ∧ ((32 : Nat) ≤ (32 : Nat))) ∧ ((96 : Nat) ≤ (140737488355328 : Nat))), (true = true), (((32 : Nat) ≤ (32 : Nat)) ∧ (((1 : Nat) ≤ (1 : Nat)) ∧ ((32 : Nat) ≤ (32 : Nat))) ∧ ((64 : Nat) ≤ (140737488355328 : Nat))), (true = true), ((((1 : Nat) ≤ (1 : Nat)) ∧ ((32 : Nat) ≤ (32 : Nat))) ∧ ((32 : Nat) ≤ (140737488355328 : Nat))), (true = true)]) (by kernel_rfl)
    (AllP_cons rfl (AllP_cons ⟨(by decide), ⟨(by decide), (by decide)⟩, (by decide)⟩ (AllP_cons rfl (AllP_cons ⟨(by decide), ⟨(by decide), (by decide)⟩, (by decide)⟩ (AllP_cons rfl (AllP_cons ⟨(by decide), ⟨(by decide), (by decide)⟩, (by decide)⟩ (AllP_cons rfl (AllP_cons ⟨(by decide), ⟨(by decide), (by decide)⟩, (by decide)⟩ (AllP_cons rfl (AllP_cons ⟨(by decide), ⟨(by decide), (by decide)⟩, (by decide)⟩ (AllP_cons rfl (AllP_cons ⟨(by decide), ⟨(by decide), (by decide)⟩, (by decide)⟩ (AllP_cons rfl (AllP_cons ⟨(by decide), ⟨(by decide), (by decide)⟩, (by decide)⟩ (AllP_cons rfl (AllP_cons ⟨⟨(by decide), (by decide)⟩, (by decide)⟩ (AllP_cons rfl (AllP_nil))))))))))))))))))

theorem apO8_body (w : World) (rw : List Nat) (β : Env) : Body Try.prog (tabOf tabVN) Try.f25 ⟨w, rw, 0, β⟩ [] [] (fun ys K' => ys = [.a (.rs 0 (0 : Nat) (8 : Nat) 32)] ∧ K' = [some ⟨true, [.ints .u8 (256 : Nat) (apO8)]⟩]) :=
  Body.lens (c := (Try.f25.body.getD .skip)) rfl fun h => apO8_body0  w rw β

def gam62 : Gam := gcall 25 [] [] (fun wk vs args => match wk, vs, args with | [], [], [] => some (True, [.a (.rs 0 (0 : Nat) (8 : Nat) 32)], [some ⟨true, [.ints .u8 (256 : Nat) (apO8)]⟩]) | _, _, _ => none) gam61
theorem gam62_ok : GamOk Try.prog gam62 := gcall_ok tabOkVN Try.func25 gam61_ok Try.call25 (by
  intro wk vs args p xs K1 h hv
  split at h
  · simp only [Option.some.injEq, Prod.mk.injEq] at h; obtain ⟨rfl, rfl, rfl⟩ := h; exact fun caps w rw β => apO8_body w rw β
  · simp at h)

end Go.Proofs.Ytodiojpakfjehaa.X

/- The small example that each law begins with. -/
namespace Go.Proofs.Ytodiojpakfjehaa.X
open Go Go.Proofs
set_option linter.unusedVariables false
set_option linter.unusedSimpArgs false
set_option maxRecDepth 100000

def p4 : E := ⟨(cI, 0), by decide +kernel⟩
theorem p4_enc : encE p4 = z32 := by decide +kernel
theorem p4_L : mu LN p4 ≠ E0 := fun h => absurd ((qr_zero (qr_mulN (qr_aff p4) (f := 253) (by decide +kernel))).1 h) (by decide +kernel)
theorem wk_prime : apPrime z32 = false ∧ apPrime_1 z32 = 0 := by
  rw [← p4_enc]
  have k := prime_enc p4
  exact ⟨k.1.trans (decide_eq_false p4_L), k.2⟩
def pB2 : E := ⟨(fI 24727413235106541002554574571675588834622768167397638456726423682521233608206, fI 15549675580280190176352668710449542251549572066445060580507079593062643049417), by decide +kernel⟩
theorem pB2_eq : mu 2 eB = pB2 := by
  have k := qr_mulN (qr_aff eB) (n := 2) (f := 2) (by decide)
  refine Ep.ext (rep_uniq fp_curve k ?_)
  exact ⟨by decide +kernel, by decide +kernel, by decide +kernel, by decide +kernel⟩
theorem pB2_enc : encE pB2 = [201, 163, 248, 106, 174, 70, 95, 14, 86, 81, 56, 100, 81, 15, 57, 151, 86, 31, 162, 201, 232, 94, 162, 29, 194, 41, 35, 9, 243, 205, 96, 34] := by decide +kernel
theorem wk_two : apMulB [2, 0, 0, 0, 0, 0, 0, 0, 0, 0, 0, 0, 0, 0, 0, 0, 0, 0, 0, 0, 0, 0, 0, 0, 0, 0, 0, 0, 0, 0, 0, 0] = encE pB2 := by
  rw [mulB_enc (byt_small (by decide)) rfl, ← pB2_eq]
  have : (BV [2, 0, 0, 0, 0, 0, 0, 0, 0, 0, 0, 0, 0, 0, 0, 0, 0, 0, 0, 0, 0, 0, 0, 0, 0, 0, 0, 0, 0, 0, 0, 0]).toNat = 2 := by decide +kernel
  rw [this]
theorem wk_add : apAdd apBase apBase = encE pB2 := by
  rw [base_enc, add_enc, ← pB2_eq]
  have h1 := mu_add 1 1 eB
  rw [mu_one] at h1
  rw [← h1]
theorem wk_addc : apAdd_1 apBase apBase = 0 := by rw [base_enc]; exact addc_enc _ _
theorem y2_none (x : Fp) : ¬ On cD (x, fI 2) := by
  intro h
  have h1 := on_sq h
  have h2 : x * x = fI 43446857792565604583783486763960003913525092658904367978015407342224011949000 := by
    refine fp_curve.can (den_y (fI 2)) (h1.trans ?_)
    decide +kernel
  have h3 : fpw (fI 43446857792565604583783486763960003913525092658904367978015407342224011949000) ((PP - 1) / 2) = -1 := by
    apply Fin.ext
    rw [fpw_pwm _ (f := 255) (by decide +kernel)]
    decide +kernel
  rw [← h2, ← fpw_2, ← fpw_mul] at h3
  by_cases hx : x = 0
  · rw [hx, fpw_zero (by decide +kernel)] at h3
    exact absurd h3 (by decide +kernel)
  · rw [show 2 * ((PP - 1) / 2) = PP - 1 by decide +kernel, fp_fermat hx] at h3
    exact absurd h3 (by decide +kernel)
theorem wk_chk : apCheck [2, 0, 0, 0, 0, 0, 0, 0, 0, 0, 0, 0, 0, 0, 0, 0, 0, 0, 0, 0, 0, 0, 0, 0, 0, 0, 0, 0, 0, 0, 0, 0] = 41 := by
  refine chk_none (byt_small (by decide)) rfl ?_
  have e : BV [2, 0, 0, 0, 0, 0, 0, 0, 0, 0, 0, 0, 0, 0, 0, 0, 0, 0, 0, 0, 0, 0, 0, 0, 0, 0, 0, 0, 0, 0, 0, 0] = 2 := by decide +kernel
  unfold decE
  rw [e, if_pos (by decide), show (2 : Int) % 57896044618658097711785492504343953926634992332820282019728792003956564819968 = 2 from by decide]
  cases h : decP (decide ((57896044618658097711785492504343953926634992332820282019728792003956564819968 : Int) ≤ 2)) (fI 2) with
  | none => rfl
  | some p =>
    obtain ⟨⟨x, y⟩, o⟩ := p
    have hy := (decP_y h).1
    simp only at hy
    subst hy
    exact absurd o (y2_none x)
/-! the eight -/
theorem T_ok : LP ptT eT := by
  have h : decE [38, 232, 149, 143, 194, 178, 39, 176, 69, 195, 244, 137, 242, 239, 152, 240, 213, 223, 172, 5, 211, 198, 51, 57, 177, 56, 2, 136, 109, 83, 252, 5] = some eT := by
    have e : encE eT = [38, 232, 149, 143, 194, 178, 39, 176, 69, 195, 244, 137, 242, 239, 152, 240, 213, 223, 172, 5, 211, 198, 51, 57, 177, 56, 2, 136, 109, 83, 252, 5] := by decide +kernel
    rw [← e]; exact dec_enc eT
  exact ((open_ok (byt_small (by decide)) rfl).2 eT h).2.lp
end Go.Proofs.Ytodiojpakfjehaa.X

/- The eight points; the points that bytes are made into. -/
namespace Go.Proofs.Ytodiojpakfjehaa.X
open Go Go.Proofs
set_option linter.unusedVariables false
set_option linter.unusedSimpArgs false
set_option maxRecDepth 100000

theorem and7 (x : Int) (h0 : 0 ≤ x) (h1 : x < 256) : bits2 .and .u8 x 7 = x % 8 := by
  have key : ∀ n : Nat, n < 256 → bits2 .and .u8 ((n : Nat) : Int) 7 = ((n : Nat) : Int) % 8 := by decide +kernel
  obtain ⟨n, rfl⟩ := Int.eq_ofNat_of_zero_le h0
  exact key n (by omega)
theorem and7_rng (x : Int) : 0 ≤ bits2 .and .u8 x 7 ∧ bits2 .and .u8 x 7 < 8 := by
  have e : bits2 .and .u8 x 7 = IntKind.u8.wrap (((BitVec.ofInt 8 x &&& BitVec.ofInt 8 7).toNat : Nat) : Int) := rfl
  have t2 : (BitVec.ofInt 8 7).toNat = 2 ^ 3 - 1 := by rfl
  rw [e, BitVec.toNat_and, t2, Nat.and_two_pow_sub_one_eq_mod, wrap8]
  omega
theorem sub_all (l : List Int) (n : Nat) (h : l.length ≤ n) : sub l 0 n = l := by
  unfold sub
  rw [List.drop_zero, List.take_of_length_le h]
/-- the forms of points, one behind the other -/
def encs (f : Nat → E) : Nat → List Int
  | 0 => []
  | n + 1 => encs f n ++ encE (f n)
theorem encs_len (f : Nat → E) (n : Nat) : (encs f n).length = n * 32 := by
  induction n with
  | zero => rfl
  | succ n ih => show (encs f n ++ encE (f n)).length = _; rw [List.length_append, ih, encE_len]; omega
theorem encs_sub (f : Nat → E) {n k : Nat} (h : k < n) : sub (encs f n) (k * 32) 32 = encE (f k) := by
  induction n with
  | zero => omega
  | succ n ih =>
    show sub (encs f n ++ encE (f n)) (k * 32) 32 = _
    by_cases hk : k < n
    · have := ih hk
      rw [← this]
      have l := encs_len f n
      refine List.ext_getElem? fun r => ?_
      by_cases hr : r < 32
      · rw [sub_get hr, sub_get hr, List.getElem?_append_left (by omega)]
      · rw [List.getElem?_eq_none, List.getElem?_eq_none]
        · rw [sub_len _ _ _ (by omega)]; omega
        · rw [sub_len _ _ _ (by rw [List.length_append, encE_len]; omega)]; omega
    · have : k = n := by omega
      subst this
      have l := encs_len f k
      refine List.ext_getElem? fun r => ?_
      by_cases hr : r < 32
      · rw [sub_get hr, List.getElem?_append_right (by omega)]
        congr 1; omega
      · rw [List.getElem?_eq_none, List.getElem?_eq_none]
        · rw [encE_len]; omega
        · rw [sub_len _ _ _ (by rw [List.length_append, encE_len]; omega)]; omega
theorem lp_T (k : Nat) : ∀ {l : List Int}, LP l (mu k eT) → LP (ptAdd l ptT) (mu (k + 1) eT) := fun h => lp_add h T_ok
theorem o8_eq : apO8 = encs (fun k => mu k eT) 8 := by
  have h0 : LP ptId (mu 0 eT) := lp_id
  have h1 := lp_T 0 h0
  have h2 := lp_T 1 h1
  have h3 := lp_T 2 h2
  have h4 := lp_T 3 h3
  have h5 := lp_T 4 h4
  have h6 := lp_T 5 h5
  have h7 := lp_T 6 h6
  unfold apO8
  simp only
  rw [form_ok h0, form_ok h1, form_ok h2, form_ok h3, form_ok h4, form_ok h5, form_ok h6, form_ok h7]
  simp (disch := (simp only [List.length_append, encE_len]; decide)) only [sub_all]
  rfl
/-- the point that a law makes of any 32 bytes -/
noncomputable def ptF (s : List Int) : E :=
  match decE s with
  | some p => p
  | none => ad (mu (BV s).toNat eB) (mu (List.getD s 0 0 % 8).toNat eT)
theorem lwAdd_enc (p q : E) : lwAdd (encE p) (encE q) = encE (ad p q) := by
  unfold lwAdd
  rw [addc_enc]
  exact add_enc p q
theorem lwMul_enc {K : List Int} (hK : Byt K) (l : K.length = 32) (p : E) : lwMul K (encE p) = encE (mu (BV K).toNat p) := by
  unfold lwMul
  rw [mulc_enc]
  exact mul_enc hK l p
end Go.Proofs.Ytodiojpakfjehaa.X

/- Printed by a tool of this session. -/
namespace Go.Proofs.Ytodiojpakfjehaa.X
open Go Go.Proofs
set_option linter.unusedVariables false
set_option linter.unusedSimpArgs false
set_option maxRecDepth 100000
theorem teVO_5 : TEOk Try.prog 5 ⟨.int .u8, 1, 1, [.i .u8 (0 : Int)], false⟩ :=
  TEOk.of Try.underlying5 (i := Try.t5) (by kernel_rfl) rfl rfl rfl (by kernel_rfl) (fun h => by cases h) (by kernel_rfl)
theorem teVO_23 : TEOk Try.prog 23 ⟨.array 32 5, 32, 32, [.ints .u8 (32 : Nat) ([0, 0, 0, 0, 0, 0, 0, 0, 0, 0, 0, 0, 0, 0, 0, 0, 0, 0, 0, 0, 0, 0, 0, 0, 0, 0, 0, 0, 0, 0, 0, 0] : List Int)], true⟩ :=
  TEOk.of Try.underlying23 (i := Try.t23) (by kernel_rfl) rfl rfl rfl (by kernel_rfl) (fun _ => Try.eqGuardType23) (by kernel_rfl)
theorem teVO_32 : TEOk Try.prog 32 ⟨.slice 5, 1, 24, [.raw (.slice none 0 0)], false⟩ :=
  TEOk.of Try.underlying32 (i := Try.t32) (by kernel_rfl) rfl rfl rfl (by kernel_rfl) (fun h => by cases h) (by kernel_rfl)
theorem teVO_37 : TEOk Try.prog 37 ⟨.array 32 5, 32, 32, [.ints .u8 (32 : Nat) ([0, 0, 0, 0, 0, 0, 0, 0, 0, 0, 0, 0, 0, 0, 0, 0, 0, 0, 0, 0, 0, 0, 0, 0, 0, 0, 0, 0, 0, 0, 0, 0] : List Int)], true⟩ :=
  TEOk.of Try.underlying37 (i := Try.t37) (by kernel_rfl) rfl rfl rfl (by kernel_rfl) (fun _ => Try.eqGuardType37) (by kernel_rfl)
theorem teVO_45 : TEOk Try.prog 45 ⟨.slice 23, 1, 24, [.raw (.slice none 0 0)], false⟩ :=
  TEOk.of Try.underlying45 (i := Try.t45) (by kernel_rfl) rfl rfl rfl (by kernel_rfl) (fun h => by cases h) (by kernel_rfl)
noncomputable def tabVO : List (Nat × TE) := [(5, ⟨.int .u8, 1, 1, [.i .u8 (0 : Int)], false⟩), (23, ⟨.array 32 5, 32, 32, [.ints .u8 (32 : Nat) ([0, 0, 0, 0, 0, 0, 0, 0, 0, 0, 0, 0, 0, 0, 0, 0, 0, 0, 0, 0, 0, 0, 0, 0, 0, 0, 0, 0, 0, 0, 0, 0] : List Int)], true⟩), (32, ⟨.slice 5, 1, 24, [.raw (.slice none 0 0)], false⟩), (37, ⟨.array 32 5, 32, 32, [.ints .u8 (32 : Nat) ([0, 0, 0, 0, 0, 0, 0, 0, 0, 0, 0, 0, 0, 0, 0, 0, 0, 0, 0, 0, 0, 0, 0, 0, 0, 0, 0, 0, 0, 0, 0, 0] : List Int)], true⟩), (45, ⟨.slice 23, 1, 24, [.raw (.slice none 0 0)], false⟩)]
theorem tabOkVO : TabOk Try.prog (tabOf tabVO) := (tabOf_cons teVO_5 (tabOf_cons teVO_23 (tabOf_cons teVO_32 (tabOf_cons teVO_37 (tabOf_cons teVO_45 tabOf_nil)))))

set_option maxHeartbeats 1000000 in
theorem works_body0 (w : World) : Body Try.prog (tabOf tabVO) Try.f10 ⟨w, [], 0, noEnv⟩ (toA []) [] (fun ys _ => ys = [.a (.b true)]) :=
  Body.of_fin (Γ := gam62) (Λ := noLam) (Ψ := noPsi) (fuel := 0) (m := 63) (c := (Try.f10.body.getD .skip)) mix tabOkVO gam62_ok rfl (rs := [.tmp 0]) rfl rfl [true, true, true, true, true, true, true, true, true, true, true, true, true, true, true, true, true, true, true, true, true, true, true, true, true, true, true] [.eqS 0 (.o (.a (.b true)))]
    (vc := [((.o (.a (.b ((apCheck ([2, 0, 0, 0, 0, 0, 0, 0, 0, 0, 0, 0, 0, 0, 0, 0, 0, 0, 0, 0, 0, 0, 0, 0, 0, 0, 0, 0, 0, 0, 0, 0] : List Int)) == (41 : Int)))) : AV) = .o (.a (.b true))), (true = true), (true = true), (true = true), (true = true), (((apPrime_1 ([0, 0, 0, 0, 0, 0, 0, 0, 0, 0, 0, 0, 0, 0, 0, 0, 0, 0, 0, 0, 0, 0, 0, 0, 0, 0, 0, 0, 0, 0, 0, 0] : List Int)) == (0 : Int)) = true), (((apPrime_1 ([0, 0, 0, 0, 0, 0, 0, 0, 0, 0, 0, 0, 0, 0, 0, 0, 0, 0, 0, 0, 0, 0, 0, 0, 0, 0, 0, 0, 0, 0, 0, 0] : List Int)) == (0 : Int)) = true), (((apPrime_1 ([0, 0, 0, 0, 0, 0, 0, 0, 0, 0, 0, 0, 0, 0, 0, 0, 0, 0, 0, 0, 0, 0, 0, 0, 0, 0, 0, 0, 0, 0, 0, 0] : List Int)) == (0 : Int)) = true), (((apPrime_1 ([0, 0, 0, 0, 0, 0, 0, 0, 0, 0, 0, 0, 0, 0, 0, 0, 0, 0, 0, 0, 0, 0, 0, 0, 0, 0, 0, 0, 0, 0, 0, 0] : List Int)) == (0 : Int)) = true), ((!(apPrime ([0, 0, 0, 0, 0, 0, 0, 0, 0, 0, 0, 0, 0, 0, 0, 0, 0, 0, 0, 0, 0, 0, 0, 0, 0, 0, 0, 0, 0, 0, 0, 0] : List Int))) = true), ((!(apPrime ([0, 0, 0, 0, 0, 0, 0, 0, 0, 0, 0, 0, 0, 0, 0, 0, 0, 0, 0, 0, 0, 0, 0, 0, 0, 0, 0, 0, 0, 0, 0, 0] : List Int))) = true), ((!(apPrime ([0, 0, 0, 0, 0, 0, 0, 0, 0, 0, 0, 0, 0, 0, 0, 0, 0, 0, 0, 0, 0, 0, 0, 0, 0, 0, 0, 0, 0, 0, 0, 0] : List Int))) = true), ((!(apPrime ([0, 0, 0, 0, 0, 0, 0, 0, 0, 0, 0, 0, 0, 0, 0, 0, 0, 0, 0, 0, 0, 0, 0, 0, 0, 0, 0, 0, 0, 0, 0, 0] : List Int))) = true), (((apAdd_1 (apBase) (apBase)) == (0 : Int)) = true), (((apAdd_1 (apBase) (apBase)) == (0 : Int)) = true), (((apAdd_1 (apBase) (apBase)) == (0 : Int)) = true), ((decide ((apAdd (apBase) (apBase)) = (apMulB ([2, 0, 0, 0, 0, 0, 0, 0, 0, 0, 0, 0, 0, 0, 0, 0, 0, 0, 0, 0, 0, 0, 0, 0, 0, 0, 0, 0, 0, 0, 0, 0] : List Int)))) = true), ((decide ((apAdd (apBase) (apBase)) = (apMulB ([2, 0, 0, 0, 0, 0, 0, 0, 0, 0, 0, 0, 0, 0, 0, 0, 0, 0, 0, 0, 0, 0, 0, 0, 0, 0, 0, 0, 0, 0, 0, 0] : List Int)))) = true), ((decide ((apAdd (apBase) (apBase)) = (apMulB ([2, 0, 0, 0, 0, 0, 0, 0, 0, 0, 0, 0, 0, 0, 0, 0, 0, 0, 0, 0, 0, 0, 0, 0, 0, 0, 0, 0, 0, 0, 0, 0] : List Int)))) = true), ((decide ((apAdd (apBase) (apBase)) = (apMulB ([2, 0, 0, 0, 0, 0, 0, 0, 0, 0, 0, 0, 0, 0, 0, 0, 0, 0, 0, 0, 0, 0, 0, 0, 0, 0, 0, 0, 0, 0, 0, 0] : List Int)))) = true), (((List.getD (sub (apMulB ([2, 0, 0, 0, 0, 0, 0, 0, 0, 0, 0, 0, 0, 0, 0, 0, 0, 0, 0, 0, 0, 0, 0, 0, 0, 0, 0, 0, 0, 0, 0, 0] : List Int)) (31 : Nat) (1 : Nat)) (0 : Nat) 0) == (34 : Int)) = true), (((List.getD (sub (apMulB ([2, 0, 0, 0, 0, 0, 0, 0, 0, 0, 0, 0, 0, 0, 0, 0, 0, 0, 0, 0, 0, 0, 0, 0, 0, 0, 0, 0, 0, 0, 0, 0] : List Int)) (31 : Nat) (1 : Nat)) (0 : Nat) 0) == (34 : Int)) = true), (((List.getD (sub (apMulB ([2, 0, 0, 0, 0, 0, 0, 0, 0, 0, 0, 0, 0, 0, 0, 0, 0, 0, 0, 0, 0, 0, 0, 0, 0, 0, 0, 0, 0, 0, 0, 0] : List Int)) (31 : Nat) (1 : Nat)) (0 : Nat) 0) == (34 : Int)) = true), (((List.getD (sub (apMulB ([2, 0, 0, 0, 0, 0, 0, 0, 0, 0, 0, 0, 0, 0, 0, 0, 0, 0, 0, 0, 0, 0, 0, 0, 0, 0, 0, 0, 0, 0, 0, 0] : List Int)) (31 : Nat) (1 : Nat)) (0 : Nat) 0) == (34 : Int)) = true), (((List.getD (sub (apMulB ([2, 0, 0, 0, 0, 0, 0, 0, 0, 0, 0, 0, 0, 0, 0, 0, 0, 0, 0, 0, 0, 0, 0, 0, 0, 0, 0, 0, 0, 0, 0, 0] : List Int)) (0 : Nat) (1 : Nat)) (0 : Nat) 0) == (201 : Int)) = true), (((List.getD (sub (apMulB ([2, 0, 0, 0, 0, 0, 0, 0, 0, 0, 0, 0, 0, 0, 0, 0, 0, 0, 0, 0, 0, 0, 0, 0, 0, 0, 0, 0, 0, 0, 0, 0] : List Int)) (0 : Nat) (1 : Nat)) (0 : Nat) 0) == (201 : Int)) = true), (((List.getD (sub (apMulB ([2, 0, 0, 0, 0, 0, 0, 0, 0, 0, 0, 0, 0, 0, 0, 0, 0, 0, 0, 0, 0, 0, 0, 0, 0, 0, 0, 0, 0, 0, 0, 0] : List Int)) (0 : Nat) (1 : Nat)) (0 : Nat) 0) == (201 : Int)) = true), (((List.getD (sub (apMulB ([2, 0, 0, 0, 0, 0, 0, 0, 0, 0, 0, 0, 0, 0, 0, 0, 0, 0, 0, 0, 0, 0, 0, 0, 0, 0, 0, 0, 0, 0, 0, 0] : List Int)) (0 : Nat) (1 : Nat)) (0 : Nat) 0) == (201 : Int)) = true), ((((1 : Nat) ≤ (1 : Nat)) ∧ True) ∧ (((1 : Nat) = (1 : Nat)) ∧ ((1 : Nat) ≠ (32 : Nat))))]) (by kernel_rfl)
    (AllP_cons ((congrArg (fun z => AV.o (.a (.b z))) (beq_iff_eq.2 wk_chk))) (AllP_cons rfl (AllP_cons rfl (AllP_cons rfl (AllP_cons rfl (AllP_cons (beq_iff_eq.2 wk_prime.2) (AllP_cons (beq_iff_eq.2 wk_prime.2) (AllP_cons (beq_iff_eq.2 wk_prime.2) (AllP_cons (beq_iff_eq.2 wk_prime.2) (AllP_cons (congrArg (fun z => !z) wk_prime.1) (AllP_cons (congrArg (fun z => !z) wk_prime.1) (AllP_cons (congrArg (fun z => !z) wk_prime.1) (AllP_cons (congrArg (fun z => !z) wk_prime.1) (AllP_cons (beq_iff_eq.2 wk_addc) (AllP_cons (beq_iff_eq.2 wk_addc) (AllP_cons (beq_iff_eq.2 wk_addc) (AllP_cons (decide_eq_true (wk_add.trans wk_two.symm)) (AllP_cons (decide_eq_true (wk_add.trans wk_two.symm)) (AllP_cons (decide_eq_true (wk_add.trans wk_two.symm)) (AllP_cons (decide_eq_true (wk_add.trans wk_two.symm)) (AllP_cons (beq_iff_eq.2 (by rw [getsub1, wk_two, pB2_enc]; rfl)) (AllP_cons (beq_iff_eq.2 (by rw [getsub1, wk_two, pB2_enc]; rfl)) (AllP_cons (beq_iff_eq.2 (by rw [getsub1, wk_two, pB2_enc]; rfl)) (AllP_cons (beq_iff_eq.2 (by rw [getsub1, wk_two, pB2_enc]; rfl)) (AllP_cons (beq_iff_eq.2 (by rw [getsub1, wk_two, pB2_enc]; rfl)) (AllP_cons (beq_iff_eq.2 (by rw [getsub1, wk_two, pB2_enc]; rfl)) (AllP_cons (beq_iff_eq.2 (by rw [getsub1, wk_two, pB2_enc]; rfl)) (AllP_cons (beq_iff_eq.2 (by rw [getsub1, wk_two, pB2_enc]; rfl)) (AllP_cons ⟨⟨(by decide), trivial⟩, ⟨rfl, (by decide)⟩⟩ (AllP_nil))))))))))))))))))))))))))))))

theorem works_body (w : World) : Body Try.prog (tabOf tabVO) Try.f10 ⟨w, [], 0, noEnv⟩ (toA []) [] (fun ys _ => ys = [.a (.b true)]) :=
  Body.lens (c := (Try.f10.body.getD .skip)) rfl fun h => works_body0  w

theorem works_pure : PureC Try.prog 10 [] [.a (.b true)] :=
  PureC.of_body tabOkVO Try.func10 rfl rfl fun w => works_body w

def gam63 : Gam := gpure 10 (fun args => match args with | [] => some (none, [.a (.b true)]) | _ => none) gam62
theorem gam63_ok : GamOk Try.prog gam63 := gpure_ok gam62_ok Try.call10 (by
  intro args vc xs h hv
  split at h
  · simp only [Option.some.injEq, Prod.mk.injEq] at h; obtain ⟨rfl, rfl⟩ := h; exact ⟨_, by rfl, works_pure⟩
  · simp at h)

set_option maxHeartbeats 1000000 in
theorem lwPt_w0_body0 (s : List Int) (hv0 : List.length s = (32 : Nat)) (hb0 : ((apCheck s) == (0 : Int)) = true) (w : World) : Body Try.prog (tabOf tabVO) Try.f17 ⟨w, [], 0, noEnv⟩ (toA [.g [.ints .u8 (32 : Nat) s]]) [] (fun ys _ => ys = [.g [.ints .u8 (32 : Nat) s]]) :=
  Body.of_fin (Γ := gam63) (Λ := noLam) (Ψ := noPsi) (fuel := 0) (m := 30) (c := (Try.f17.body.getD .skip)) mix tabOkVO gam63_ok rfl (rs := [.cell 2 23]) rfl rfl [true] []
    (vc := [(((apCheck s) == (0 : Int)) = true)]) (by kernel_rfl)
    (AllP_cons hb0 (AllP_nil))

def lwPt_w1 (s : List Int) : List Int :=
  (apAdd (apMulB s) (sub (apO8) ((Int.toNat (bits2 .and .u8 (List.getD (sub s (0 : Nat) (1 : Nat)) (0 : Nat) 0) (7 : Int))) * (32 : Nat)) (32 : Nat)))

set_option maxHeartbeats 1000000 in
theorem lwPt_w1_body0 (s : List Int) (hv0 : List.length s = (32 : Nat)) (hb0 : ((apCheck s) == (0 : Int)) = false) (w : World) : Body Try.prog (tabOf tabVO) Try.f17 ⟨w, [], 0, noEnv⟩ (toA [.g [.ints .u8 (32 : Nat) s]]) [] (fun ys _ => ys = [.g [.ints .u8 (32 : Nat) (lwPt_w1 s)]]) :=
  Body.of_fin (Γ := gam63) (Λ := noLam) (Ψ := noPsi) (fuel := 0) (m := 30) (c := (Try.f17.body.getD .skip)) mix tabOkVO gam63_ok rfl (rs := [.cell 2 23]) rfl rfl [false, false] []
    (vc := [((((Int.toNat (bits2 .and .u8 (List.getD (sub s (0 : Nat) (1 : Nat)) (0 : Nat) 0) (7 : Int))) * (32 : Nat)) + (32 : Nat)) ≤ (256 : Nat)), (((0 : Int) ≤ (bits2 .and .u8 (List.getD (sub s (0 : Nat) (1 : Nat)) (0 : Nat) 0) (7 : Int))) ∧ ((bits2 .and .u8 (List.getD (sub s (0 : Nat) (1 : Nat)) (0 : Nat) 0) (7 : Int)) < (8 : Int))), (false = false), (True ∧ True), (((apCheck s) == (0 : Int)) = false)]) (by kernel_rfl)
    (AllP_cons (by have q := and7_rng (List.getD (sub s 0 1) 0 0); omega) (AllP_cons ⟨(bits2_nn (k := .u8) rfl), (by have q := and7_rng (List.getD (sub s 0 1) 0 0); omega)⟩ (AllP_cons rfl (AllP_cons ⟨trivial, trivial⟩ (AllP_cons hb0 (AllP_nil))))))

def lwPt (s : List Int) : List Int :=
  (cond ((apCheck s) == (0 : Int)) s (lwPt_w1 s))

set_option maxHeartbeats 1000000 in
theorem lwPt_body (s : List Int) (w : World) : Body Try.prog (tabOf tabVO) Try.f17 ⟨w, [], 0, noEnv⟩ (toA [.g [.ints .u8 (32 : Nat) s]]) [] (fun ys _ => ys = [.g [.ints .u8 (32 : Nat) (lwPt s)]]) :=
  Body.lens (c := (Try.f17.body.getD .skip)) rfl fun h => by
    cases hb0 : ((apCheck s) == (0 : Int))
    · exact (lwPt_w1_body0 s (h.vals 0 _ _ _ rfl) hb0 w).mono fun _ _ hx => hx.trans (by rw [(show (lwPt s) = (lwPt_w1 s) from (cond_f hb0))])
    · exact (lwPt_w0_body0 s (h.vals 0 _ _ _ rfl) hb0 w).mono fun _ _ hx => hx.trans (by rw [(show (lwPt s) = s from (cond_t hb0))])

theorem lwPt_pure (s : List Int) : PureC Try.prog 17 [.g [.ints .u8 (32 : Nat) s]] [.g [.ints .u8 (32 : Nat) (lwPt s)]] :=
  PureC.of_body tabOkVO Try.func17 rfl rfl fun w => lwPt_body s w

def gam64 : Gam := gpure 17 (fun args => match args with | [.o (.g [.ints .u8 (32 : Nat) s])] => some (none, [.g [.ints .u8 (32 : Nat) (lwPt s)]]) | _ => none) gam63
theorem gam64_ok : GamOk Try.prog gam64 := gpure_ok gam63_ok Try.call17 (by
  intro args vc xs h hv
  split at h
  · simp only [Option.some.injEq, Prod.mk.injEq] at h; obtain ⟨rfl, rfl⟩ := h; exact ⟨_, by rfl, lwPt_pure _⟩
  · simp at h)

end Go.Proofs.Ytodiojpakfjehaa.X

/- What the laws compare. -/
namespace Go.Proofs.Ytodiojpakfjehaa.X
open Go Go.Proofs
set_option linter.unusedVariables false
set_option linter.unusedSimpArgs false
set_option maxRecDepth 100000

theorem pt_ok {s : List Int} (h : Byt s) (l : s.length = 32) : lwPt s = encE (ptF s) := by
  have b := byt_get h 0
  unfold lwPt ptF
  cases hd : decE s with
  | some p =>
    have c : apCheck s = 0 := by rw [← enc_dec h l hd]; exact chk_enc p
    rw [c]
    exact (enc_dec h l hd).symm
  | none =>
    rw [chk_none h l hd]
    show lwPt_w1 s = _
    unfold lwPt_w1
    rw [getsub1, and7 _ b.1 b.2, mulB_enc h l, o8_eq, encs_sub _ (by omega), add_enc]
theorem cof_order (a : E) : mu LN (mu 8 a) = E0 := by
  rw [← mu_mul, Nat.mul_comm]
  exact e_order a
theorem mu8 (a : E) : mu 8 a = ad (ad (ad a a) (ad a a)) (ad (ad a a) (ad a a)) := by
  have h1 : ad a a = mu 2 a := by
    have := mu_add 1 1 a
    rw [mu_one] at this
    exact this.symm
  rw [h1, ← mu_add, ← mu_add]
theorem lwOrd_enc (p : E) : lwMul [237, 211, 245, 92, 26, 99, 18, 88, 214, 156, 247, 162, 222, 249, 222, 20, 0, 0, 0, 0, 0, 0, 0, 0, 0, 0, 0, 0, 0, 0, 0, 16] (encE p) = encE (mu LN p) := by
  rw [lwMul_enc ordL_byt rfl, ordL_BV]
theorem ad_ng (a : E) : ad a (ng a) = E0 := eG.ng a
end Go.Proofs.Ytodiojpakfjehaa.X

/- Printed by a tool of this session. -/
namespace Go.Proofs.Ytodiojpakfjehaa.X
open Go Go.Proofs
set_option linter.unusedVariables false
set_option linter.unusedSimpArgs false
set_option maxRecDepth 100000
theorem teVP_5 : TEOk Try.prog 5 ⟨.int .u8, 1, 1, [.i .u8 (0 : Int)], false⟩ :=
  TEOk.of Try.underlying5 (i := Try.t5) (by kernel_rfl) rfl rfl rfl (by kernel_rfl) (fun h => by cases h) (by kernel_rfl)
theorem teVP_23 : TEOk Try.prog 23 ⟨.array 32 5, 32, 32, [.ints .u8 (32 : Nat) ([0, 0, 0, 0, 0, 0, 0, 0, 0, 0, 0, 0, 0, 0, 0, 0, 0, 0, 0, 0, 0, 0, 0, 0, 0, 0, 0, 0, 0, 0, 0, 0] : List Int)], true⟩ :=
  TEOk.of Try.underlying23 (i := Try.t23) (by kernel_rfl) rfl rfl rfl (by kernel_rfl) (fun _ => Try.eqGuardType23) (by kernel_rfl)
noncomputable def tabVP : List (Nat × TE) := [(5, ⟨.int .u8, 1, 1, [.i .u8 (0 : Int)], false⟩), (23, ⟨.array 32 5, 32, 32, [.ints .u8 (32 : Nat) ([0, 0, 0, 0, 0, 0, 0, 0, 0, 0, 0, 0, 0, 0, 0, 0, 0, 0, 0, 0, 0, 0, 0, 0, 0, 0, 0, 0, 0, 0, 0, 0] : List Int)], true⟩)]
theorem tabOkVP : TabOk Try.prog (tabOf tabVP) := (tabOf_cons teVP_5 (tabOf_cons teVP_23 tabOf_nil))

theorem group_v0 (a : List Int) (b : List Int) (c : List Int) (h0 : Byt a) (h1 : Byt b) (h2 : Byt c) (hv0 : List.length a = 32) (hv1 : List.length b = 32) (hv2 : List.length c = 32) : ((decide ((oneCof (lwPt a)) = (lwAdd (lwAdd (oneDbl (lwPt a)) (oneDbl (lwPt a))) (lwAdd (oneDbl (lwPt a)) (oneDbl (lwPt a)))))) = true) := (by simp only [pt_ok h0 hv0, pt_ok h1 hv1, pt_ok h2 hv2, id_enc, base_enc, lwAdd_enc, neg_enc, negc_enc, sub_enc, subc_enc, dbl_enc, dblc_enc, cof_enc, cofc_enc, lwOrd_enc]; exact decide_eq_true (congrArg encE (mu8 _)))
theorem group_v1 (a : List Int) (b : List Int) (c : List Int) (h0 : Byt a) (h1 : Byt b) (h2 : Byt c) (hv0 : List.length a = 32) (hv1 : List.length b = 32) (hv2 : List.length c = 32) : ((decide ((lwMul ([237, 211, 245, 92, 26, 99, 18, 88, 214, 156, 247, 162, 222, 249, 222, 20, 0, 0, 0, 0, 0, 0, 0, 0, 0, 0, 0, 0, 0, 0, 0, 16] : List Int) (oneCof (lwPt a))) = (apId))) = true) := (by simp only [pt_ok h0 hv0, pt_ok h1 hv1, pt_ok h2 hv2, id_enc, base_enc, lwAdd_enc, neg_enc, negc_enc, sub_enc, subc_enc, dbl_enc, dblc_enc, cof_enc, cofc_enc, lwOrd_enc]; exact decide_eq_true (congrArg encE (cof_order _)))
theorem group_v2 (a : List Int) (b : List Int) (c : List Int) (h0 : Byt a) (h1 : Byt b) (h2 : Byt c) (hv0 : List.length a = 32) (hv1 : List.length b = 32) (hv2 : List.length c = 32) : (((oneCof_1 (lwPt a)) == (0 : Int)) = true) := (by simp only [pt_ok h0 hv0, pt_ok h1 hv1, pt_ok h2 hv2, id_enc, base_enc, lwAdd_enc, neg_enc, negc_enc, sub_enc, subc_enc, dbl_enc, dblc_enc, cof_enc, cofc_enc, lwOrd_enc]; rfl)
theorem group_v3 (a : List Int) (b : List Int) (c : List Int) (h0 : Byt a) (h1 : Byt b) (h2 : Byt c) (hv0 : List.length a = 32) (hv1 : List.length b = 32) (hv2 : List.length c = 32) : ((!(decide ((oneDbl (lwPt a)) = (lwAdd (lwPt a) (lwPt a))))) = false) := (by simp only [pt_ok h0 hv0, pt_ok h1 hv1, pt_ok h2 hv2, id_enc, base_enc, lwAdd_enc, neg_enc, negc_enc, sub_enc, subc_enc, dbl_enc, dblc_enc, cof_enc, cofc_enc, lwOrd_enc]; rfl)
theorem group_v4 (a : List Int) (b : List Int) (c : List Int) (h0 : Byt a) (h1 : Byt b) (h2 : Byt c) (hv0 : List.length a = 32) (hv1 : List.length b = 32) (hv2 : List.length c = 32) : ((!(decide ((apSub (lwPt a) (lwPt b)) = (lwAdd (lwPt a) (oneNeg (lwPt b)))))) = false) := (by simp only [pt_ok h0 hv0, pt_ok h1 hv1, pt_ok h2 hv2, id_enc, base_enc, lwAdd_enc, neg_enc, negc_enc, sub_enc, subc_enc, dbl_enc, dblc_enc, cof_enc, cofc_enc, lwOrd_enc]; rfl)
theorem group_v5 (a : List Int) (b : List Int) (c : List Int) (h0 : Byt a) (h1 : Byt b) (h2 : Byt c) (hv0 : List.length a = 32) (hv1 : List.length b = 32) (hv2 : List.length c = 32) : ((!(decide ((lwAdd (lwPt a) (oneNeg (lwPt a))) = (apId)))) = false) := (by simp only [pt_ok h0 hv0, pt_ok h1 hv1, pt_ok h2 hv2, id_enc, base_enc, lwAdd_enc, neg_enc, negc_enc, sub_enc, subc_enc, dbl_enc, dblc_enc, cof_enc, cofc_enc, lwOrd_enc]; exact not_dec (congrArg encE (ad_ng _)))
theorem group_v6 (a : List Int) (b : List Int) (c : List Int) (h0 : Byt a) (h1 : Byt b) (h2 : Byt c) (hv0 : List.length a = 32) (hv1 : List.length b = 32) (hv2 : List.length c = 32) : ((!(decide ((lwAdd (lwPt a) (apId)) = (lwPt a)))) = false) := (by simp only [pt_ok h0 hv0, pt_ok h1 hv1, pt_ok h2 hv2, id_enc, base_enc, lwAdd_enc, neg_enc, negc_enc, sub_enc, subc_enc, dbl_enc, dblc_enc, cof_enc, cofc_enc, lwOrd_enc]; exact not_dec (congrArg encE (ad_zero _)))
theorem group_v7 (a : List Int) (b : List Int) (c : List Int) (h0 : Byt a) (h1 : Byt b) (h2 : Byt c) (hv0 : List.length a = 32) (hv1 : List.length b = 32) (hv2 : List.length c = 32) : ((!(decide ((lwAdd (lwAdd (lwPt a) (lwPt b)) (lwPt c)) = (lwAdd (lwPt a) (lwAdd (lwPt b) (lwPt c)))))) = false) := (by simp only [pt_ok h0 hv0, pt_ok h1 hv1, pt_ok h2 hv2, id_enc, base_enc, lwAdd_enc, neg_enc, negc_enc, sub_enc, subc_enc, dbl_enc, dblc_enc, cof_enc, cofc_enc, lwOrd_enc]; exact not_dec (congrArg encE (ad_assoc _ _ _)))
theorem group_v8 (a : List Int) (b : List Int) (c : List Int) (h0 : Byt a) (h1 : Byt b) (h2 : Byt c) (hv0 : List.length a = 32) (hv1 : List.length b = 32) (hv2 : List.length c = 32) : ((!(decide ((lwAdd (lwPt a) (lwPt b)) = (lwAdd (lwPt b) (lwPt a))))) = false) := (by simp only [pt_ok h0 hv0, pt_ok h1 hv1, pt_ok h2 hv2, id_enc, base_enc, lwAdd_enc, neg_enc, negc_enc, sub_enc, subc_enc, dbl_enc, dblc_enc, cof_enc, cofc_enc, lwOrd_enc]; exact not_dec (congrArg encE (ad_comm _ _)))
theorem group_v9 (a : List Int) (b : List Int) (c : List Int) (h0 : Byt a) (h1 : Byt b) (h2 : Byt c) (hv0 : List.length a = 32) (hv1 : List.length b = 32) (hv2 : List.length c = 32) : (((oneDbl_1 (lwPt a)) != (0 : Int)) = false) := (by simp only [pt_ok h0 hv0, pt_ok h1 hv1, pt_ok h2 hv2, id_enc, base_enc, lwAdd_enc, neg_enc, negc_enc, sub_enc, subc_enc, dbl_enc, dblc_enc, cof_enc, cofc_enc, lwOrd_enc]; rfl)
theorem group_v10 (a : List Int) (b : List Int) (c : List Int) (h0 : Byt a) (h1 : Byt b) (h2 : Byt c) (hv0 : List.length a = 32) (hv1 : List.length b = 32) (hv2 : List.length c = 32) : (((oneNeg_1 (lwPt b)) != (0 : Int)) = false) := (by simp only [pt_ok h0 hv0, pt_ok h1 hv1, pt_ok h2 hv2, id_enc, base_enc, lwAdd_enc, neg_enc, negc_enc, sub_enc, subc_enc, dbl_enc, dblc_enc, cof_enc, cofc_enc, lwOrd_enc]; rfl)
theorem group_v11 (a : List Int) (b : List Int) (c : List Int) (h0 : Byt a) (h1 : Byt b) (h2 : Byt c) (hv0 : List.length a = 32) (hv1 : List.length b = 32) (hv2 : List.length c = 32) : (((apSub_1 (lwPt a) (lwPt b)) != (0 : Int)) = false) := (by simp only [pt_ok h0 hv0, pt_ok h1 hv1, pt_ok h2 hv2, id_enc, base_enc, lwAdd_enc, neg_enc, negc_enc, sub_enc, subc_enc, dbl_enc, dblc_enc, cof_enc, cofc_enc, lwOrd_enc]; rfl)
theorem group_v12 (a : List Int) (b : List Int) (c : List Int) (h0 : Byt a) (h1 : Byt b) (h2 : Byt c) (hv0 : List.length a = 32) (hv1 : List.length b = 32) (hv2 : List.length c = 32) : (((oneNeg_1 (lwPt a)) != (0 : Int)) = false) := (by simp only [pt_ok h0 hv0, pt_ok h1 hv1, pt_ok h2 hv2, id_enc, base_enc, lwAdd_enc, neg_enc, negc_enc, sub_enc, subc_enc, dbl_enc, dblc_enc, cof_enc, cofc_enc, lwOrd_enc]; rfl)
set_option maxHeartbeats 1000000 in
theorem group_body0 (a : List Int) (b : List Int) (c : List Int) (h0 : (Byt a)) (h1 : (Byt b)) (h2 : (Byt c)) (hv0 : List.length a = (32 : Nat)) (hv1 : List.length b = (32 : Nat)) (hv2 : List.length c = (32 : Nat)) (w : World) : Body Try.prog (tabOf tabVP) Try.f7 ⟨w, [], 0, noEnv⟩ (toA [.g [.ints .u8 (32 : Nat) a], .g [.ints .u8 (32 : Nat) b], .g [.ints .u8 (32 : Nat) c]]) [] (fun ys _ => ys = [.a (.b true)]) :=
  Body.of_fin (Γ := gam64) (Λ := noLam) (Ψ := noPsi) (fuel := 0) (m := 136) (c := (Try.f7.body.getD .skip)) mix tabOkVP gam64_ok rfl (rs := [.tmp 6]) rfl rfl [false, true, true, false, true, true, false, true, true, false, true, true, true, true, true, true, true, false, true, true, true, true, true, true, true, true, true, true, true, false, true, true, true, true, true, false, true, true, true, true, true, false, true, true, true, true, true, false, true, true, true, true, true, false, false, true, true, true, true, true, true, true, true, true, true, true, true, true, true, true, true] [.eqS 6 (.o (.a (.b true)))]
    (vc := [((.o (.a (.b (decide ((oneCof (lwPt a)) = (lwAdd (lwAdd (oneDbl (lwPt a)) (oneDbl (lwPt a))) (lwAdd (oneDbl (lwPt a)) (oneDbl (lwPt a)))))))) : AV) = .o (.a (.b true))), ((decide ((lwMul ([237, 211, 245, 92, 26, 99, 18, 88, 214, 156, 247, 162, 222, 249, 222, 20, 0, 0, 0, 0, 0, 0, 0, 0, 0, 0, 0, 0, 0, 0, 0, 16] : List Int) (oneCof (lwPt a))) = (apId))) = true), ((decide ((lwMul ([237, 211, 245, 92, 26, 99, 18, 88, 214, 156, 247, 162, 222, 249, 222, 20, 0, 0, 0, 0, 0, 0, 0, 0, 0, 0, 0, 0, 0, 0, 0, 16] : List Int) (oneCof (lwPt a))) = (apId))) = true), ((decide ((lwMul ([237, 211, 245, 92, 26, 99, 18, 88, 214, 156, 247, 162, 222, 249, 222, 20, 0, 0, 0, 0, 0, 0, 0, 0, 0, 0, 0, 0, 0, 0, 0, 16] : List Int) (oneCof (lwPt a))) = (apId))) = true), ((decide ((lwMul ([237, 211, 245, 92, 26, 99, 18, 88, 214, 156, 247, 162, 222, 249, 222, 20, 0, 0, 0, 0, 0, 0, 0, 0, 0, 0, 0, 0, 0, 0, 0, 16] : List Int) (oneCof (lwPt a))) = (apId))) = true), ((decide ((lwMul ([237, 211, 245, 92, 26, 99, 18, 88, 214, 156, 247, 162, 222, 249, 222, 20, 0, 0, 0, 0, 0, 0, 0, 0, 0, 0, 0, 0, 0, 0, 0, 16] : List Int) (oneCof (lwPt a))) = (apId))) = true), ((decide ((lwMul ([237, 211, 245, 92, 26, 99, 18, 88, 214, 156, 247, 162, 222, 249, 222, 20, 0, 0, 0, 0, 0, 0, 0, 0, 0, 0, 0, 0, 0, 0, 0, 16] : List Int) (oneCof (lwPt a))) = (apId))) = true), ((decide ((lwMul ([237, 211, 245, 92, 26, 99, 18, 88, 214, 156, 247, 162, 222, 249, 222, 20, 0, 0, 0, 0, 0, 0, 0, 0, 0, 0, 0, 0, 0, 0, 0, 16] : List Int) (oneCof (lwPt a))) = (apId))) = true), ((decide ((lwMul ([237, 211, 245, 92, 26, 99, 18, 88, 214, 156, 247, 162, 222, 249, 222, 20, 0, 0, 0, 0, 0, 0, 0, 0, 0, 0, 0, 0, 0, 0, 0, 16] : List Int) (oneCof (lwPt a))) = (apId))) = true), ((decide ((lwMul ([237, 211, 245, 92, 26, 99, 18, 88, 214, 156, 247, 162, 222, 249, 222, 20, 0, 0, 0, 0, 0, 0, 0, 0, 0, 0, 0, 0, 0, 0, 0, 16] : List Int) (oneCof (lwPt a))) = (apId))) = true), ((decide ((lwMul ([237, 211, 245, 92, 26, 99, 18, 88, 214, 156, 247, 162, 222, 249, 222, 20, 0, 0, 0, 0, 0, 0, 0, 0, 0, 0, 0, 0, 0, 0, 0, 16] : List Int) (oneCof (lwPt a))) = (apId))) = true), (((oneCof_1 (lwPt a)) == (0 : Int)) = true), (((oneCof_1 (lwPt a)) == (0 : Int)) = true), (((oneCof_1 (lwPt a)) == (0 : Int)) = true), (((oneCof_1 (lwPt a)) == (0 : Int)) = true), (((oneCof_1 (lwPt a)) == (0 : Int)) = true), (((oneCof_1 (lwPt a)) == (0 : Int)) = true), ((!(decide ((oneDbl (lwPt a)) = (lwAdd (lwPt a) (lwPt a))))) = false), ((!(decide ((apSub (lwPt a) (lwPt b)) = (lwAdd (lwPt a) (oneNeg (lwPt b)))))) = false), ((!(decide ((apSub (lwPt a) (lwPt b)) = (lwAdd (lwPt a) (oneNeg (lwPt b)))))) = false), ((!(decide ((apSub (lwPt a) (lwPt b)) = (lwAdd (lwPt a) (oneNeg (lwPt b)))))) = false), ((!(decide ((apSub (lwPt a) (lwPt b)) = (lwAdd (lwPt a) (oneNeg (lwPt b)))))) = false), ((!(decide ((apSub (lwPt a) (lwPt b)) = (lwAdd (lwPt a) (oneNeg (lwPt b)))))) = false), ((!(decide ((apSub (lwPt a) (lwPt b)) = (lwAdd (lwPt a) (oneNeg (lwPt b)))))) = false), ((!(decide ((lwAdd (lwPt a) (oneNeg (lwPt a))) = (apId)))) = false), ((!(decide ((lwAdd (lwPt a) (oneNeg (lwPt a))) = (apId)))) = false), ((!(decide ((lwAdd (lwPt a) (oneNeg (lwPt a))) = (apId)))) = false), ((!(decide ((lwAdd (lwPt a) (oneNeg (lwPt a))) = (apId)))) = false), ((!(decide ((lwAdd (lwPt a) (oneNeg (lwPt a))) = (apId)))) = false), ((!(decide ((lwAdd (lwPt a) (oneNeg (lwPt a))) = (apId)))) = false), ((!(decide ((lwAdd (lwPt a) (apId)) = (lwPt a)))) = false), ((!(decide ((lwAdd (lwPt a) (apId)) = (lwPt a)))) = false), ((!(decide ((lwAdd (lwPt a) (apId)) = (lwPt a)))) = false), ((!(decide ((lwAdd (lwPt a) (apId)) = (lwPt a)))) = false), ((!(decide ((lwAdd (lwPt a) (apId)) = (lwPt a)))) = false), ((!(decide ((lwAdd (lwPt a) (apId)) = (lwPt a)))) = false), ((!(decide ((lwAdd (lwAdd (lwPt a) (lwPt b)) (lwPt c)) = (lwAdd (lwPt a) (lwAdd (lwPt b) (lwPt c)))))) = false), ((!(decide ((lwAdd (lwAdd (lwPt a) (lwPt b)) (lwPt c)) = (lwAdd (lwPt a) (lwAdd (lwPt b) (lwPt c)))))) = false), ((!(decide ((lwAdd (lwAdd (lwPt a) (lwPt b)) (lwPt c)) = (lwAdd (lwPt a) (lwAdd (lwPt b) (lwPt c)))))) = false), ((!(decide ((lwAdd (lwAdd (lwPt a) (lwPt b)) (lwPt c)) = (lwAdd (lwPt a) (lwAdd (lwPt b) (lwPt c)))))) = false), ((!(decide ((lwAdd (lwAdd (lwPt a) (lwPt b)) (lwPt c)) = (lwAdd (lwPt a) (lwAdd (lwPt b) (lwPt c)))))) = false), ((!(decide ((lwAdd (lwAdd (lwPt a) (lwPt b)) (lwPt c)) = (lwAdd (lwPt a) (lwAdd (lwPt b) (lwPt c)))))) = false), ((!(decide ((lwAdd (lwPt a) (lwPt b)) = (lwAdd (lwPt b) (lwPt a))))) = false), ((!(decide ((lwAdd (lwPt a) (lwPt b)) = (lwAdd (lwPt b) (lwPt a))))) = false), ((!(decide ((lwAdd (lwPt a) (lwPt b)) = (lwAdd (lwPt b) (lwPt a))))) = false), ((!(decide ((lwAdd (lwPt a) (lwPt b)) = (lwAdd (lwPt b) (lwPt a))))) = false), ((!(decide ((lwAdd (lwPt a) (lwPt b)) = (lwAdd (lwPt b) (lwPt a))))) = false), ((!(decide ((lwAdd (lwPt a) (lwPt b)) = (lwAdd (lwPt b) (lwPt a))))) = false), ((!(decide ((lwAdd (lwPt a) (lwPt b)) = (lwAdd (lwPt b) (lwPt a))))) = false), ((!(decide ((lwAdd (lwPt a) (lwPt b)) = (lwAdd (lwPt b) (lwPt a))))) = false), ((!(decide ((lwAdd (lwPt a) (lwPt b)) = (lwAdd (lwPt b) (lwPt a))))) = false), ((!(decide ((lwAdd (lwPt a) (lwPt b)) = (lwAdd (lwPt b) (lwPt a))))) = false), ((!(decide ((lwAdd (lwPt a) (lwPt b)) = (lwAdd (lwPt b) (lwPt a))))) = false), ((!(decide ((lwAdd (lwPt a) (lwPt b)) = (lwAdd (lwPt b) (lwPt a))))) = false), (((oneDbl_1 (lwPt a)) != (0 : Int)) = false), (((oneDbl_1 (lwPt a)) != (0 : Int)) = false), (((oneDbl_1 (lwPt a)) != (0 : Int)) = false), (((oneDbl_1 (lwPt a)) != (0 : Int)) = false), (((oneDbl_1 (lwPt a)) != (0 : Int)) = false), (((oneDbl_1 (lwPt a)) != (0 : Int)) = false), (((oneDbl_1 (lwPt a)) != (0 : Int)) = false), (((oneDbl_1 (lwPt a)) != (0 : Int)) = false), (((oneNeg_1 (lwPt b)) != (0 : Int)) = false), (((oneNeg_1 (lwPt b)) != (0 : Int)) = false), (((oneNeg_1 (lwPt b)) != (0 : Int)) = false), (((apSub_1 (lwPt a) (lwPt b)) != (0 : Int)) = false), (((apSub_1 (lwPt a) (lwPt b)) != (0 : Int)) = false), (((apSub_1 (lwPt a) (lwPt b)) != (0 : Int)) = false), (((oneNeg_1 (lwPt a)) != (0 : Int)) = false), (((oneNeg_1 (lwPt a)) != (0 : Int)) = false), (((oneNeg_1 (lwPt a)) != (0 : Int)) = false), (false = false)]) (by kernel_rfl)
    (AllP_cons ((congrArg (fun z => AV.o (.a (.b z))) (group_v0 a b c h0 h1 h2 hv0 hv1 hv2))) (AllP_cons (group_v1 a b c h0 h1 h2 hv0 hv1 hv2) (AllP_cons (group_v1 a b c h0 h1 h2 hv0 hv1 hv2) (AllP_cons (group_v1 a b c h0 h1 h2 hv0 hv1 hv2) (AllP_cons (group_v1 a b c h0 h1 h2 hv0 hv1 hv2) (AllP_cons (group_v1 a b c h0 h1 h2 hv0 hv1 hv2) (AllP_cons (group_v1 a b c h0 h1 h2 hv0 hv1 hv2) (AllP_cons (group_v1 a b c h0 h1 h2 hv0 hv1 hv2) (AllP_cons (group_v1 a b c h0 h1 h2 hv0 hv1 hv2) (AllP_cons (group_v1 a b c h0 h1 h2 hv0 hv1 hv2) (AllP_cons (group_v1 a b c h0 h1 h2 hv0 hv1 hv2) (AllP_cons (group_v2 a b c h0 h1 h2 hv0 hv1 hv2) (AllP_cons (group_v2 a b c h0 h1 h2 hv0 hv1 hv2) (AllP_cons (group_v2 a b c h0 h1 h2 hv0 hv1 hv2) (AllP_cons (group_v2 a b c h0 h1 h2 hv0 hv1 hv2) (AllP_cons (group_v2 a b c h0 h1 h2 hv0 hv1 hv2) (AllP_cons (group_v2 a b c h0 h1 h2 hv0 hv1 hv2) (AllP_cons (group_v3 a b c h0 h1 h2 hv0 hv1 hv2) (AllP_cons (group_v4 a b c h0 h1 h2 hv0 hv1 hv2) (AllP_cons (group_v4 a b c h0 h1 h2 hv0 hv1 hv2) (AllP_cons (group_v4 a b c h0 h1 h2 hv0 hv1 hv2) (AllP_cons (group_v4 a b c h0 h1 h2 hv0 hv1 hv2) (AllP_cons (group_v4 a b c h0 h1 h2 hv0 hv1 hv2) (AllP_cons (group_v4 a b c h0 h1 h2 hv0 hv1 hv2) (AllP_cons (group_v5 a b c h0 h1 h2 hv0 hv1 hv2) (AllP_cons (group_v5 a b c h0 h1 h2 hv0 hv1 hv2) (AllP_cons (group_v5 a b c h0 h1 h2 hv0 hv1 hv2) (AllP_cons (group_v5 a b c h0 h1 h2 hv0 hv1 hv2) (AllP_cons (group_v5 a b c h0 h1 h2 hv0 hv1 hv2) (AllP_cons (group_v5 a b c h0 h1 h2 hv0 hv1 hv2) (AllP_cons (group_v6 a b c h0 h1 h2 hv0 hv1 hv2) (AllP_cons (group_v6 a b c h0 h1 h2 hv0 hv1 hv2) (AllP_cons (group_v6 a b c h0 h1 h2 hv0 hv1 hv2) (AllP_cons (group_v6 a b c h0 h1 h2 hv0 hv1 hv2) (AllP_cons (group_v6 a b c h0 h1 h2 hv0 hv1 hv2) (AllP_cons (group_v6 a b c h0 h1 h2 hv0 hv1 hv2) (AllP_cons (group_v7 a b c h0 h1 h2 hv0 hv1 hv2) (AllP_cons (group_v7 a b c h0 h1 h2 hv0 hv1 hv2) (AllP_cons (group_v7 a b c h0 h1 h2 hv0 hv1 hv2) (AllP_cons (group_v7 a b c h0 h1 h2 hv0 hv1 hv2) (AllP_cons (group_v7 a b c h0 h1 h2 hv0 hv1 hv2) (AllP_cons (group_v7 a b c h0 h1 h2 hv0 hv1 hv2) (AllP_cons (group_v8 a b c h0 h1 h2 hv0 hv1 hv2) (AllP_cons (group_v8 a b c h0 h1 h2 hv0 hv1 hv2) (AllP_cons (group_v8 a b c h0 h1 h2 hv0 hv1 hv2) (AllP_cons (group_v8 a b c h0 h1 h2 hv0 hv1 hv2) (AllP_cons (group_v8 a b c h0 h1 h2 hv0 hv1 hv2) (AllP_cons (group_v8 a b c h0 h1 h2 hv0 hv1 hv2) (AllP_cons (group_v8 a b c h0 h1 h2 hv0 hv1 hv2) (AllP_cons (group_v8 a b c h0 h1 h2 hv0 hv1 hv2) (AllP_cons (group_v8 a b c h0 h1 h2 hv0 hv1 hv2) (AllP_cons (group_v8 a b c h0 h1 h2 hv0 hv1 hv2) (AllP_cons (group_v8 a b c h0 h1 h2 hv0 hv1 hv2) (AllP_cons (group_v8 a b c h0 h1 h2 hv0 hv1 hv2) (AllP_cons (group_v9 a b c h0 h1 h2 hv0 hv1 hv2) (AllP_cons (group_v9 a b c h0 h1 h2 hv0 hv1 hv2) (AllP_cons (group_v9 a b c h0 h1 h2 hv0 hv1 hv2) (AllP_cons (group_v9 a b c h0 h1 h2 hv0 hv1 hv2) (AllP_cons (group_v9 a b c h0 h1 h2 hv0 hv1 hv2) (AllP_cons (group_v9 a b c h0 h1 h2 hv0 hv1 hv2) (AllP_cons (group_v9 a b c h0 h1 h2 hv0 hv1 hv2) (AllP_cons (group_v9 a b c h0 h1 h2 hv0 hv1 hv2) (AllP_cons (group_v10 a b c h0 h1 h2 hv0 hv1 hv2) (AllP_cons (group_v10 a b c h0 h1 h2 hv0 hv1 hv2) (AllP_cons (group_v10 a b c h0 h1 h2 hv0 hv1 hv2) (AllP_cons (group_v11 a b c h0 h1 h2 hv0 hv1 hv2) (AllP_cons (group_v11 a b c h0 h1 h2 hv0 hv1 hv2) (AllP_cons (group_v11 a b c h0 h1 h2 hv0 hv1 hv2) (AllP_cons (group_v12 a b c h0 h1 h2 hv0 hv1 hv2) (AllP_cons (group_v12 a b c h0 h1 h2 hv0 hv1 hv2) (AllP_cons (group_v12 a b c h0 h1 h2 hv0 hv1 hv2) (AllP_cons rfl (AllP_nil)))))))))))))))))))))))))))))))))))))))))))))))))))))))))))))))))))))))))

theorem group_body (a : List Int) (b : List Int) (c : List Int) (h0 : (Byt a)) (h1 : (Byt b)) (h2 : (Byt c)) (w : World) : Body Try.prog (tabOf tabVP) Try.f7 ⟨w, [], 0, noEnv⟩ (toA [.g [.ints .u8 (32 : Nat) a], .g [.ints .u8 (32 : Nat) b], .g [.ints .u8 (32 : Nat) c]]) [] (fun ys _ => ys = [.a (.b true)]) :=
  Body.lens (c := (Try.f7.body.getD .skip)) rfl fun h => group_body0 a b c h0 h1 h2 (h.vals 0 _ _ _ rfl) (h.vals 1 _ _ _ rfl) (h.vals 2 _ _ _ rfl) w

end Go.Proofs.Ytodiojpakfjehaa.X

/- The core, part 5 of 5: blocks of memory known by number, and an evaluator over loaded code, shown sound. -/
/- Rows: a law that answers true and leaves what was there as it was: from its body to its post; arguments opened. -/
namespace Go.Proofs.Ytodiojpakfjehaa.R
open Go Go.Proofs Go.ChangeShapes Go.WideShapes Go.ChangeAt Go.RowKit Go.Proofs.Ytodiojpakfjehaa.X
set_option linter.unusedVariables false

theorem below {W W' : World} (g : Grow W W') : Below W.heap.size W W' := ⟨g.os, g.tape, g.output, g.size, g.old⟩

section post
variable {H : Type} {enc : TypeId × Value → H} {P : Program}

/-- types that read again -/
def Reads (P : Program) (ts : List TypeId) : Bool := laidOutB P && ts.all fun t => P.readableRec t && decide (t < P.types.size)

theorem trodAll_grow (hl : laidOutB P = true) {W W' : World} (g : Grow W W') {sp : Nat → Bool} : ∀ {ts : List TypeId} {vs : List Value} {ds : List (DataW H)} {ps : List MemPlace}, (ts.all fun t => P.readableRec t && decide (t < P.types.size)) = true →
    DataW.TrodAll enc P W 0 (fun _ => true) true ts vs ds ps → (∀ p ∈ ps, p.block < W.heap.size) → (∀ p ∈ ps, sp p.block = true) → DataW.TrodAll enc P W' 0 sp true ts vs ds ps
  | [], [], [], ps, _, h, _, _ => h
  | [], _ :: _, _, _, _, h, _, _ => h.elim
  | [], [], _ :: _, _, _, h, _, _ => h.elim
  | _ :: _, [], _, _, _, h, _, _ => h.elim
  | _ :: _, _ :: _, [], _, _, h, _, _ => h.elim
  | t :: ts, v :: vs, d :: ds, ps, ht, h, hlt, hsp => by
    obtain ⟨p, q, hd, hr, rfl⟩ := h
    simp only [List.all_cons, Bool.and_eq_true, decide_eq_true_eq] at ht
    exact ⟨p, q, WideElems.Trod_stays hl ht.1.1 ht.1.2 hd (fun x hx => (below g).same (hlt x (by simp [hx]))) (fun x hx => hsp x (by simp [hx])),
      trodAll_grow hl g ht.2 hr (fun x hx => hlt x (by simp [hx])) (fun x hx => hsp x (by simp [hx])), rfl⟩

theorem post_true {f : Func} {s : ChangeSpec} {W W' : World} {args : Array Value} {ds : List (DataW H)} {before : List MemPlace} {tb : TypeId}
    (hreads : Reads P f.params.toList = true) (hvars : s.vars = []) (hfn : s.fn H ds = { results := [.lit (.bool true)], args := ds }) (hrt : f.resultTypes = #[tb]) (htb : P.underlying tb = some .bool)
    (hW : DataW.Whole enc P f.params.toList s.vars false W args.toList ds [] before) (g : Grow W W') : s.post enc P f false true false false W args (.bool true) W' := by
  unfold Reads at hreads
  rw [Bool.and_eq_true] at hreads
  have hW0 := hW
  obtain ⟨p, q, hA, hV, rfl, hfz, hnd⟩ := hW
  rw [hvars] at hV
  obtain ⟨_, rfl⟩ := trodVars_none hV
  have hlt : ∀ x ∈ p ++ [], x.block < W.heap.size := fun x hx => by simpa using hW0.lt x hx
  have hfn' : s.fn H (ds ++ []) = { results := [.lit (.bool true)], args := ds } := by rw [List.append_nil]; exact hfn
  refine ⟨ds, [], p ++ [], [], p ++ [], [], hW0, ?_, ?_, ?_, (below g).frame _, fun h => by cases h⟩
  · rw [hfn', hrt]; exact trodAll_cons_mk (shut_bool htb _) trodAll_mk0
  · rw [hfn']
    rw [List.append_nil] at hlt ⊢
    exact trodAll_grow hreads.1 g hreads.2 hA hlt (fun x hx => by simpa using hlt x hx)
  · rw [hfn', hvars]; exact rfl
end post

/-- what a list of arguments is, abstractly, with blocks from the i-th on -/
def Opened (W : World) (i : Nat) (vs : List Value) (avs : List AV) (K : Know) : Prop :=
  ∃ ρ : List (Option Ref), ρ.length = K.length ∧ ∀ β : Env, (∀ j, j < ρ.length → β (i + j) = (ρ[j]?).join) →
    (∀ j b, K.at j = some b → b.own = false ∧ b.holds β W (i + j) ∧ ∀ r, β (i + j) = some r → r.blk < W.heap.size) ∧ allC β avs vs

theorem Opened.nil {W : World} {i : Nat} : Opened W i [] [] [] := ⟨[], rfl, fun β _ => ⟨fun j b h => by simp [Know.at] at h, rfl⟩⟩

theorem allC_app {β : Env} : ∀ {a b : List AV} {x y : List Value}, allC β a x → allC β b y → allC β (a ++ b) (x ++ y)
  | [], _, _, _, h, h' => by cases h; exact h'
  | _ :: _, _, _, _, ⟨v, r, hv, hc, hr⟩, h' => by subst hv; exact ⟨v, _, rfl, hc, allC_app hr h'⟩

theorem Opened.app {W : World} {i : Nat} {vs vs' : List Value} {avs avs' : List AV} {K K' : Know} (h : Opened W i vs avs K) (h' : Opened W (i + K.length) vs' avs' K') : Opened W i (vs ++ vs') (avs ++ avs') (K ++ K') := by
  obtain ⟨ρ, hl, hρ⟩ := h
  obtain ⟨ρ', hl', hρ'⟩ := h'
  refine ⟨ρ ++ ρ', by simp [hl, hl'], fun β hβ => ?_⟩
  obtain ⟨h1, h2⟩ := hρ β fun j hj => by rw [hβ j (by simp; omega), List.getElem?_append_left hj]
  obtain ⟨h3, h4⟩ := hρ' β fun j hj => by
    rw [Nat.add_assoc, hβ (K.length + j) (by simp; omega), List.getElem?_append_right (by omega)]
    congr 2; omega
  refine ⟨fun j b hb => ?_, allC_app h2 h4⟩
  by_cases hj : j < K.length
  · refine h1 j b ?_
    unfold Know.at at hb ⊢; rwa [List.getElem?_append_left hj] at hb
  · have := h3 (j - K.length) b (by unfold Know.at at hb ⊢; rwa [List.getElem?_append_right (by omega)] at hb)
    rw [show i + K.length + (j - K.length) = i + j from by omega] at this
    exact this

/-- a value without places -/
theorem Opened.val {W : World} {i : Nat} {v : Value} {x : V1} (h : ∀ β : Env, x.con β v) : Opened W i [v] [.o x] [] :=
  ⟨[], rfl, fun β _ => ⟨fun j b hb => by simp [Know.at] at hb, ⟨v, [], rfl, h β, rfl⟩⟩⟩

/-- a slice of integers -/
theorem Opened.sl {W : World} {i : Nat} {k : IntKind} {a0 : Option Addr} {len cap : Nat} {L : List Int} (hL : L.length = len) (hlc : len ≤ cap)
    (hc : 0 < cap → ∃ b off arr ty fr, a0 = some ⟨b, off, none⟩ ∧ W.heap[b]? = some (.cells arr ty fr) ∧ off + len ≤ arr.size ∧ ∀ i x, L[i]? = some x → arr[off + i]? = some (.int k x)) :
    Opened W i [.slice a0 len cap] [.o (.a (.sl i 0 len cap))] [some ⟨false, [.ints k len L]⟩] := by
  have hbk : ∀ j (bk : Blk), Know.at [some ⟨false, [.ints k len L]⟩] j = some bk → j = 0 ∧ bk = ⟨false, [.ints k len L]⟩ := by
    intro j bk hj
    match j, hj with
    | 0, hj => exact ⟨rfl, (Option.some.inj hj).symm⟩
    | j + 1, hj => simp [Know.at] at hj
  by_cases h0 : 0 < cap
  · obtain ⟨b, off, arr, ty, fr, rfl, hh, hs, hx⟩ := hc h0
    have hlt : b < W.heap.size := (Array.getElem?_eq_some_iff.1 hh).1
    refine ⟨[some ⟨b, off, arr.size⟩], rfl, fun β hβ => ?_⟩
    have hb := hβ 0 (by simp)
    rw [Nat.add_zero] at hb
    have hb : β i = some ⟨b, off, arr.size⟩ := hb
    refine ⟨fun j bk hj => ?_, _, [], rfl, ⟨_, rfl, hlc, fun _ => ⟨_, hb, rfl⟩⟩, rfl⟩
    obtain ⟨rfl, rfl⟩ := hbk j bk hj
    rw [Nat.add_zero]
    refine ⟨rfl, ⟨L.map (Value.int k), ⟨_, [], by simp, ⟨hL, rfl⟩, rfl⟩, .inr ⟨_, arr, ty, fr, hb, hh, rfl, by simp; omega, ?_, fun h => by cases h⟩⟩, fun r hr => by rw [hb] at hr; cases hr; exact hlt⟩
    intro i v hv
    rw [List.getElem?_map, Option.map_eq_some_iff] at hv
    obtain ⟨x, hx', rfl⟩ := hv
    exact hx i x hx'
  · have hn : L = [] := List.length_eq_zero_iff.1 (by omega)
    subst hn
    have hl0 : len = 0 := by omega
    subst hl0
    refine ⟨[none], rfl, fun β hβ => ?_⟩
    have hb : β i = none := hβ 0 (by simp)
    refine ⟨fun j bk hj => ?_, _, [], rfl, ⟨_, rfl, hlc, fun h => absurd h h0⟩, rfl⟩
    obtain ⟨rfl, rfl⟩ := hbk j bk hj
    rw [Nat.add_zero]
    exact ⟨rfl, ⟨[], ⟨[], [], rfl, ⟨rfl, rfl⟩, rfl⟩, .inl ⟨rfl, .inl rfl⟩⟩, fun r hr => by rw [hb] at hr; cases hr⟩

section args
variable {H : Type} {enc : TypeId × Value → H} {P : Program} {W : World} {base : Nat} {sp : Nat → Bool}

/-- an argument [n]int -/
theorem arr_arg {t e : TypeId} {n : Nat} {k : IntKind} {v : Value} {d : DataW H} {p : List MemPlace} (ht : P.underlying t = some (.array n e)) (he : P.underlying e = some (.int k)) (hc : P.cellsOf e = 1) (hn : P.cellsOf t = n)
    (hval : Value.okWide P W .any base t v) (h : DataW.Trod enc P W 0 (fun _ => true) true t v d p) :
    ∃ S : List Int, S.length = n ∧ (∀ x ∈ S, (Lit.int k x).wf = true) ∧ ∀ i, Opened W i [v] [.o (.g [.ints k n S])] [] := by
  have hv : ∃ cs : Array Value, v = .agg cs ∧ cs.size = n := by
    unfold Value.okWide at hval
    rw [ht] at hval
    obtain ⟨cs, rfl, hsz, _⟩ := hval
    exact ⟨cs, rfl, hsz.trans hn⟩
  obtain ⟨cs, rfl, hsz⟩ := hv
  obtain ⟨fuel, hf⟩ := h
  obtain ⟨xs, m, rfl, _, hlen, hxl, hel⟩ := DataW.trod_array ht hf
  have hcells : (Value.agg cs).cells.toList = cs.toList := rfl
  rw [hcells] at hel
  have key : ∀ j, j < n → ∃ z : Int, cs.toList[j]? = some (.int k z) ∧ (Lit.int k z).wf = true := by
    intro j hj
    have h1 := hel j hj
    rw [hc, Nat.mul_one] at h1
    have hjx : j < xs.length := by omega
    rw [List.getElem?_eq_getElem hjx] at h1
    obtain ⟨z, hz, _, hw⟩ := DataW.trod_int he h1
    refine ⟨z, ?_, hw⟩
    have := congrArg (·[0]?) hz
    simpa [List.getElem?_take, List.getElem?_drop] using this
  have hS : ∃ S : List Int, S.length = n ∧ cs.toList = S.map (Value.int k) ∧ ∀ x ∈ S, (Lit.int k x).wf = true := by
    have hl : cs.toList.length = n := by simpa using hsz
    revert key hl
    generalize cs.toList = l
    clear hel hxl hlen hsz hf hcells hval hn ht
    intro key hl
    induction l generalizing n with
    | nil => exact ⟨[], hl, rfl, by simp⟩
    | cons a l ih =>
      cases n with
      | zero => cases hl
      | succ n =>
        obtain ⟨z, hz, hw⟩ := key 0 (by omega)
        obtain ⟨S, h1, h2, h3⟩ := ih (n := n) (fun j hj => by simpa using key (j + 1) (by omega)) (by simpa using hl)
        simp only [List.getElem?_cons_zero, Option.some.injEq] at hz
        exact ⟨z :: S, by simp [h1], by simp [hz, h2], by simpa using ⟨hw, h3⟩⟩
  obtain ⟨S, h1, h2, h3⟩ := hS
  refine ⟨S, h1, h3, fun i => Opened.val fun β => ⟨cs.toList, by simp, _, [], by simp, ⟨h1, h2⟩, rfl⟩⟩
end args

end Go.Proofs.Ytodiojpakfjehaa.R

/- Arguments that are structs: opened cell by cell. -/
namespace Go.Proofs.Ytodiojpakfjehaa.R
open Go Go.Proofs Go.ChangeShapes Go.WideShapes Go.ChangeAt Go.RowKit Go.Proofs.Ytodiojpakfjehaa.X
set_option linter.unusedVariables false

/-- a row of cells, abstractly, with blocks from the i-th on -/
def OpenC (W : World) (i : Nat) (cs : List Value) (l : List Atom) (K : Know) : Prop :=
  ∃ ρ : List (Option Ref), ρ.length = K.length ∧ ∀ β : Env, (∀ j, j < ρ.length → β (i + j) = (ρ[j]?).join) →
    (∀ j b, K.at j = some b → b.own = false ∧ b.holds β W (i + j) ∧ ∀ r, β (i + j) = some r → r.blk < W.heap.size) ∧ cons β l cs

theorem OpenC.nil {W : World} {i : Nat} : OpenC W i [] [] [] := ⟨[], rfl, fun β _ => ⟨fun j b h => by simp [Know.at] at h, rfl⟩⟩

theorem cons_app {β : Env} : ∀ {a b : List Atom} {x y : List Value}, cons β a x → cons β b y → cons β (a ++ b) (x ++ y)
  | [], _, _, _, h, h' => by cases h; exact h'
  | _ :: _, _, _, _, ⟨v, r, hv, hc, hr⟩, h' => by subst hv; exact ⟨v, _, by rw [List.append_assoc], hc, cons_app hr h'⟩

theorem OpenC.app {W : World} {i : Nat} {vs vs' : List Value} {l l' : List Atom} {K K' : Know} (h : OpenC W i vs l K) (h' : OpenC W (i + K.length) vs' l' K') : OpenC W i (vs ++ vs') (l ++ l') (K ++ K') := by
  obtain ⟨ρ, hl, hρ⟩ := h
  obtain ⟨ρ', hl', hρ'⟩ := h'
  refine ⟨ρ ++ ρ', by simp [hl, hl'], fun β hβ => ?_⟩
  obtain ⟨h1, h2⟩ := hρ β fun j hj => by rw [hβ j (by simp; omega), List.getElem?_append_left hj]
  obtain ⟨h3, h4⟩ := hρ' β fun j hj => by
    rw [Nat.add_assoc, hβ (K.length + j) (by simp; omega), List.getElem?_append_right (by omega)]
    congr 2; omega
  refine ⟨fun j b hb => ?_, cons_app h2 h4⟩
  by_cases hj : j < K.length
  · refine h1 j b ?_
    unfold Know.at at hb ⊢; rwa [List.getElem?_append_left hj] at hb
  · have := h3 (j - K.length) b (by unfold Know.at at hb ⊢; rwa [List.getElem?_append_right (by omega)] at hb)
    rw [show i + K.length + (j - K.length) = i + j from by omega] at this
    exact this

theorem OpenC.agg {W : World} {i : Nat} {cs : Array Value} {l : List Atom} {K : Know} (h : OpenC W i cs.toList l K) : Opened W i [.agg cs] [.o (.g l)] K := by
  obtain ⟨ρ, hl, hρ⟩ := h
  refine ⟨ρ, hl, fun β hβ => ?_⟩
  obtain ⟨h1, h2⟩ := hρ β hβ
  exact ⟨h1, _, [], rfl, ⟨cs.toList, by simp, h2⟩, rfl⟩

theorem OpenC.one {W : World} {i : Nat} {v : Value} {x : Atom} {K : Know} (h : OpenC W i [v] [x] K) : Opened W i [v] [.o (.a x)] K := by
  obtain ⟨ρ, hl, hρ⟩ := h
  refine ⟨ρ, hl, fun β hβ => ?_⟩
  obtain ⟨h1, x, y, h2, h3, h4⟩ := hρ β hβ
  cases h4
  rw [List.append_nil] at h2
  subst h2
  exact ⟨h1, _, [], rfl, h3, rfl⟩

/-- cells without places -/
theorem OpenC.val {W : World} {i : Nat} {vs : List Value} {l : List Atom} (h : ∀ β : Env, cons β l vs) : OpenC W i vs l [] :=
  ⟨[], rfl, fun β _ => ⟨fun j b hb => by simp [Know.at] at hb, h β⟩⟩

section args
variable {H : Type} {enc : TypeId × Value → H} {P : Program} {W : World} {base : Nat} {sp : Nat → Bool}

theorem OpenC.ints {i : Nat} {k : IntKind} {n : Nat} {S : List Int} (h : S.length = n) : OpenC W i (S.map (Value.int k)) [.ints k n S] [] :=
  OpenC.val fun β => ⟨_, [], by simp, ⟨h, rfl⟩, rfl⟩

theorem OpenC.int {i : Nat} {k : IntKind} {n : Int} : OpenC W i [.int k n] [.i k n] [] := OpenC.val fun β => ⟨_, [], by simp, rfl, rfl⟩

end args
end Go.Proofs.Ytodiojpakfjehaa.R

/-
  FOR A PROOF OF AN '..UptoSaid': WHAT THE BOUND GIVES. Copy it as <Name>Bulk.lean (put your seat's Name for Ytodiojpakfjehaa, the bound of 'uptoSmall' for 1048576), name it in GOCLAIM.json's 'order' behind <Name>Rows. By an AI agent, Sun Nov 15 2026. No person has read it. No macro, syntax, notation, axiom, sorry.
-/
namespace Go.Proofs.Ytodiojpakfjehaa.bulks

theorem append {H : Type} (l r : List (DataW H)) : Rows.uptoBulkAll (l ++ r) = Rows.uptoBulkAll l + Rows.uptoBulkAll r := by
  induction l with
  | nil => simp [Rows.uptoBulkAll]
  | cons x l ih => simp only [List.cons_append, Rows.uptoBulkAll, ih]; omega

end Go.Proofs.Ytodiojpakfjehaa.bulks

