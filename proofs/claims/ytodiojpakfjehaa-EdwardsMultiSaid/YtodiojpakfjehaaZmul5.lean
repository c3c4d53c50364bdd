/- Texts of this session, put together (part 5), less what nothing uses. -/
import Derived.Test.YtodiojpakfjehaaZmul4
import Derived.KernelRfl
import Derived.WalkKit
import Derived.ProofKit
import Derived.OpenShut
import Derived.JoinedCond
import Derived.Carry
import Derived.Test.YtodiojpakfjehaaRows
/- Printed by a tool of this session. -/
namespace Go.Proofs.Ytodiojpakfjehaa.X
open Go Go.Proofs
set_option linter.unusedVariables false
set_option linter.unusedSimpArgs false
set_option maxRecDepth 100000
theorem teVN_5 : TEOk Try.prog 5 ⟨.int .u8, 1, 1, [.i .u8 (0 : Int)], false⟩ :=
  TEOk.of Try.underlying5 (i := Try.t5) (by kernel_rfl) rfl rfl rfl (by kernel_rfl) (fun h => by cases h) (by kernel_rfl)
theorem teVN_23 : TEOk Try.prog 23 ⟨.array 32 5, 32, 32, [.ints .u8 (32 : Nat) ([0, 0, 0, 0, 0, 0, 0, 0, 0, 0, 0, 0, 0, 0, 0, 0, 0, 0, 0, 0, 0, 0, 0, 0, 0, 0, 0, 0, 0, 0, 0, 0] : List Int)], true⟩ :=
  TEOk.of Try.underlying23 (i := Try.t23) (by kernel_rfl) rfl rfl rfl (by kernel_rfl) (fun _ => Try.eqGuardType23) (by kernel_rfl)
theorem teVN_32 : TEOk Try.prog 32 ⟨.slice 5, 1, 24, [.raw (.slice none 0 0)], false⟩ :=
  TEOk.of Try.underlying32 (i := Try.t32) (by kernel_rfl) rfl rfl rfl (by kernel_rfl) (fun h => by cases h) (by kernel_rfl)
theorem teVN_37 : TEOk Try.prog 37 ⟨.array 32 5, 32, 32, [.ints .u8 (32 : Nat) ([0, 0, 0, 0, 0, 0, 0, 0, 0, 0, 0, 0, 0, 0, 0, 0, 0, 0, 0, 0, 0, 0, 0, 0, 0, 0, 0, 0, 0, 0, 0, 0] : List Int)], true⟩ :=
  TEOk.of Try.underlying37 (i := Try.t37) (by kernel_rfl) rfl rfl rfl (by kernel_rfl) (fun _ => Try.eqGuardType37) (by kernel_rfl)
theorem teVN_45 : TEOk Try.prog 45 ⟨.slice 23, 1, 24, [.raw (.slice none 0 0)], false⟩ :=
  TEOk.of Try.underlying45 (i := Try.t45) (by kernel_rfl) rfl rfl rfl (by kernel_rfl) (fun h => by cases h) (by kernel_rfl)
theorem teVN_94 : TEOk Try.prog 94 ⟨Try.t93.desc, 20, 160, [.ints .u64 (20 : Nat) ([0, 0, 0, 0, 0, 0, 0, 0, 0, 0, 0, 0, 0, 0, 0, 0, 0, 0, 0, 0] : List Int)], false⟩ :=
  TEOk.of Try.underlying94 (i := Try.t94) (by kernel_rfl) rfl rfl rfl (by kernel_rfl) (fun h => by cases h) (by kernel_rfl)
noncomputable def tabVN : List (Nat × TE) := [(5, ⟨.int .u8, 1, 1, [.i .u8 (0 : Int)], false⟩), (23, ⟨.array 32 5, 32, 32, [.ints .u8 (32 : Nat) ([0, 0, 0, 0, 0, 0, 0, 0, 0, 0, 0, 0, 0, 0, 0, 0, 0, 0, 0, 0, 0, 0, 0, 0, 0, 0, 0, 0, 0, 0, 0, 0] : List Int)], true⟩), (32, ⟨.slice 5, 1, 24, [.raw (.slice none 0 0)], false⟩), (37, ⟨.array 32 5, 32, 32, [.ints .u8 (32 : Nat) ([0, 0, 0, 0, 0, 0, 0, 0, 0, 0, 0, 0, 0, 0, 0, 0, 0, 0, 0, 0, 0, 0, 0, 0, 0, 0, 0, 0, 0, 0, 0, 0] : List Int)], true⟩), (45, ⟨.slice 23, 1, 24, [.raw (.slice none 0 0)], false⟩), (94, ⟨Try.t93.desc, 20, 160, [.ints .u64 (20 : Nat) ([0, 0, 0, 0, 0, 0, 0, 0, 0, 0, 0, 0, 0, 0, 0, 0, 0, 0, 0, 0] : List Int)], false⟩)]
theorem tabOkVN : TabOk Try.prog (tabOf tabVN) := (tabOf_cons teVN_5 (tabOf_cons teVN_23 (tabOf_cons teVN_32 (tabOf_cons teVN_37 (tabOf_cons teVN_45 (tabOf_cons teVN_94 tabOf_nil))))))

set_option maxHeartbeats 1000000 in
theorem num_body0 (x : Int) (w : World) : Body Try.prog (tabOf tabVN) Try.f43 ⟨w, [], 0, noEnv⟩ (toA [.a (.i .i64 x)]) [] (fun ys _ => ys = [.a (.i .i64 x)]) :=
  Body.of_fin (Γ := gam53) (Λ := noLam) (Ψ := noPsi) (fuel := 0) (m := 4) (c := (Try.f43.body.getD .skip)) mix tabOkVN gam53_ok rfl (rs := [.tmp 2]) rfl rfl [] []
    (vc := []) (by kernel_rfl)
    (AllP_nil)

theorem num_body (x : Int) (w : World) : Body Try.prog (tabOf tabVN) Try.f43 ⟨w, [], 0, noEnv⟩ (toA [.a (.i .i64 x)]) [] (fun ys _ => ys = [.a (.i .i64 x)]) :=
  Body.lens (c := (Try.f43.body.getD .skip)) rfl fun h => num_body0 x  w

theorem num_pure (x : Int) : PureC Try.prog 43 [.a (.i .i64 x)] [.a (.i .i64 x)] :=
  PureC.of_body tabOkVN Try.func43 rfl rfl fun w => num_body x w

def gam57 : Gam := gpure 43 (fun args => match args with | [.o (.a (.i .i64 x))] => some (none, [.a (.i .i64 x)]) | _ => none) gam53
theorem gam57_ok : GamOk Try.prog gam57 := gpure_ok gam53_ok Try.call43 (by
  intro args vc xs h hv
  split at h
  · simp only [Option.some.injEq, Prod.mk.injEq] at h; obtain ⟨rfl, rfl⟩ := h; exact ⟨_, by rfl, num_pure _⟩
  · simp at h)

set_option maxHeartbeats 1000000 in
theorem lwAdd_w0_body0 (r : List Int) (s : List Int) (hv0 : List.length r = (32 : Nat)) (hv1 : List.length s = (32 : Nat)) (hb0 : ((apAdd_1 r s) != (0 : Int)) = true) (w : World) : Body Try.prog (tabOf tabVN) Try.f15 ⟨w, [], 0, noEnv⟩ (toA [.g [.ints .u8 (32 : Nat) r], .g [.ints .u8 (32 : Nat) s]]) [] (fun ys _ => ys = [.g [.ints .u8 (32 : Nat) ([0, 0, 0, 0, 0, 0, 0, 0, 0, 0, 0, 0, 0, 0, 0, 0, 0, 0, 0, 0, 0, 0, 0, 0, 0, 0, 0, 0, 0, 0, 0, 0] : List Int)]]) :=
  Body.of_fin (Γ := gam57) (Λ := noLam) (Ψ := noPsi) (fuel := 0) (m := 17) (c := (Try.f15.body.getD .skip)) mix tabOkVN gam57_ok rfl (rs := [.cell 4 23]) rfl rfl [true] []
    (vc := [(((apAdd_1 r s) != (0 : Int)) = true)]) (by kernel_rfl)
    (AllP_cons hb0 (AllP_nil))

set_option maxHeartbeats 1000000 in
theorem lwAdd_w1_body0 (r : List Int) (s : List Int) (hv0 : List.length r = (32 : Nat)) (hv1 : List.length s = (32 : Nat)) (hb0 : ((apAdd_1 r s) != (0 : Int)) = false) (w : World) : Body Try.prog (tabOf tabVN) Try.f15 ⟨w, [], 0, noEnv⟩ (toA [.g [.ints .u8 (32 : Nat) r], .g [.ints .u8 (32 : Nat) s]]) [] (fun ys _ => ys = [.g [.ints .u8 (32 : Nat) (apAdd r s)]]) :=
  Body.of_fin (Γ := gam57) (Λ := noLam) (Ψ := noPsi) (fuel := 0) (m := 17) (c := (Try.f15.body.getD .skip)) mix tabOkVN gam57_ok rfl (rs := [.cell 4 23]) rfl rfl [false] []
    (vc := [(((apAdd_1 r s) != (0 : Int)) = false)]) (by kernel_rfl)
    (AllP_cons hb0 (AllP_nil))

def lwAdd (r : List Int) (s : List Int) : List Int :=
  (cond ((apAdd_1 r s) != (0 : Int)) ([0, 0, 0, 0, 0, 0, 0, 0, 0, 0, 0, 0, 0, 0, 0, 0, 0, 0, 0, 0, 0, 0, 0, 0, 0, 0, 0, 0, 0, 0, 0, 0] : List Int) (apAdd r s))

set_option maxHeartbeats 1000000 in
theorem lwAdd_body (r : List Int) (s : List Int) (w : World) : Body Try.prog (tabOf tabVN) Try.f15 ⟨w, [], 0, noEnv⟩ (toA [.g [.ints .u8 (32 : Nat) r], .g [.ints .u8 (32 : Nat) s]]) [] (fun ys _ => ys = [.g [.ints .u8 (32 : Nat) (lwAdd r s)]]) :=
  Body.lens (c := (Try.f15.body.getD .skip)) rfl fun h => by
    cases hb0 : ((apAdd_1 r s) != (0 : Int))
    · exact (lwAdd_w1_body0 r s (h.vals 0 _ _ _ rfl) (h.vals 1 _ _ _ rfl) hb0 w).mono fun _ _ hx => hx.trans (by rw [(show (lwAdd r s) = (apAdd r s) from (cond_f hb0))])
    · exact (lwAdd_w0_body0 r s (h.vals 0 _ _ _ rfl) (h.vals 1 _ _ _ rfl) hb0 w).mono fun _ _ hx => hx.trans (by rw [(show (lwAdd r s) = ([0, 0, 0, 0, 0, 0, 0, 0, 0, 0, 0, 0, 0, 0, 0, 0, 0, 0, 0, 0, 0, 0, 0, 0, 0, 0, 0, 0, 0, 0, 0, 0] : List Int) from (cond_t hb0))])

theorem lwAdd_pure (r : List Int) (s : List Int) : PureC Try.prog 15 [.g [.ints .u8 (32 : Nat) r], .g [.ints .u8 (32 : Nat) s]] [.g [.ints .u8 (32 : Nat) (lwAdd r s)]] :=
  PureC.of_body tabOkVN Try.func15 rfl rfl fun w => lwAdd_body r s w

def gam58 : Gam := gpure 15 (fun args => match args with | [.o (.g [.ints .u8 (32 : Nat) r]), .o (.g [.ints .u8 (32 : Nat) s])] => some (none, [.g [.ints .u8 (32 : Nat) (lwAdd r s)]]) | _ => none) gam57
theorem gam58_ok : GamOk Try.prog gam58 := gpure_ok gam57_ok Try.call15 (by
  intro args vc xs h hv
  split at h
  · simp only [Option.some.injEq, Prod.mk.injEq] at h; obtain ⟨rfl, rfl⟩ := h; exact ⟨_, by rfl, lwAdd_pure _ _⟩
  · simp at h)

set_option maxHeartbeats 1000000 in
theorem lwMul_w0_body0 (K : List Int) (s : List Int) (hv0 : List.length K = (32 : Nat)) (hv1 : List.length s = (32 : Nat)) (hb0 : ((oneMul_1 s) != (0 : Int)) = true) (w : World) : Body Try.prog (tabOf tabVN) Try.f18 ⟨w, [], 0, noEnv⟩ (toA [.g [.ints .u8 (32 : Nat) K], .g [.ints .u8 (32 : Nat) s]]) [] (fun ys _ => ys = [.g [.ints .u8 (32 : Nat) ([0, 0, 0, 0, 0, 0, 0, 0, 0, 0, 0, 0, 0, 0, 0, 0, 0, 0, 0, 0, 0, 0, 0, 0, 0, 0, 0, 0, 0, 0, 0, 0] : List Int)]]) :=
  Body.of_fin (Γ := gam58) (Λ := noLam) (Ψ := noPsi) (fuel := 0) (m := 17) (c := (Try.f18.body.getD .skip)) mix tabOkVN gam58_ok rfl (rs := [.cell 4 23]) rfl rfl [true] []
    (vc := [(((oneMul_1 s) != (0 : Int)) = true)]) (by kernel_rfl)
    (AllP_cons hb0 (AllP_nil))

set_option maxHeartbeats 1000000 in
theorem lwMul_w1_body0 (K : List Int) (s : List Int) (hv0 : List.length K = (32 : Nat)) (hv1 : List.length s = (32 : Nat)) (hb0 : ((oneMul_1 s) != (0 : Int)) = false) (w : World) : Body Try.prog (tabOf tabVN) Try.f18 ⟨w, [], 0, noEnv⟩ (toA [.g [.ints .u8 (32 : Nat) K], .g [.ints .u8 (32 : Nat) s]]) [] (fun ys _ => ys = [.g [.ints .u8 (32 : Nat) (oneMul K s)]]) :=
  Body.of_fin (Γ := gam58) (Λ := noLam) (Ψ := noPsi) (fuel := 0) (m := 17) (c := (Try.f18.body.getD .skip)) mix tabOkVN gam58_ok rfl (rs := [.cell 4 23]) rfl rfl [false] []
    (vc := [(((oneMul_1 s) != (0 : Int)) = false)]) (by kernel_rfl)
    (AllP_cons hb0 (AllP_nil))

def lwMul (K : List Int) (s : List Int) : List Int :=
  (cond ((oneMul_1 s) != (0 : Int)) ([0, 0, 0, 0, 0, 0, 0, 0, 0, 0, 0, 0, 0, 0, 0, 0, 0, 0, 0, 0, 0, 0, 0, 0, 0, 0, 0, 0, 0, 0, 0, 0] : List Int) (oneMul K s))

set_option maxHeartbeats 1000000 in
theorem lwMul_body (K : List Int) (s : List Int) (w : World) : Body Try.prog (tabOf tabVN) Try.f18 ⟨w, [], 0, noEnv⟩ (toA [.g [.ints .u8 (32 : Nat) K], .g [.ints .u8 (32 : Nat) s]]) [] (fun ys _ => ys = [.g [.ints .u8 (32 : Nat) (lwMul K s)]]) :=
  Body.lens (c := (Try.f18.body.getD .skip)) rfl fun h => by
    cases hb0 : ((oneMul_1 s) != (0 : Int))
    · exact (lwMul_w1_body0 K s (h.vals 0 _ _ _ rfl) (h.vals 1 _ _ _ rfl) hb0 w).mono fun _ _ hx => hx.trans (by rw [(show (lwMul K s) = (oneMul K s) from (cond_f hb0))])
    · exact (lwMul_w0_body0 K s (h.vals 0 _ _ _ rfl) (h.vals 1 _ _ _ rfl) hb0 w).mono fun _ _ hx => hx.trans (by rw [(show (lwMul K s) = ([0, 0, 0, 0, 0, 0, 0, 0, 0, 0, 0, 0, 0, 0, 0, 0, 0, 0, 0, 0, 0, 0, 0, 0, 0, 0, 0, 0, 0, 0, 0, 0] : List Int) from (cond_t hb0))])

theorem lwMul_pure (K : List Int) (s : List Int) : PureC Try.prog 18 [.g [.ints .u8 (32 : Nat) K], .g [.ints .u8 (32 : Nat) s]] [.g [.ints .u8 (32 : Nat) (lwMul K s)]] :=
  PureC.of_body tabOkVN Try.func18 rfl rfl fun w => lwMul_body K s w

def gam59 : Gam := gpure 18 (fun args => match args with | [.o (.g [.ints .u8 (32 : Nat) K]), .o (.g [.ints .u8 (32 : Nat) s])] => some (none, [.g [.ints .u8 (32 : Nat) (lwMul K s)]]) | _ => none) gam58
theorem gam59_ok : GamOk Try.prog gam59 := gpure_ok gam58_ok Try.call18 (by
  intro args vc xs h hv
  split at h
  · simp only [Option.some.injEq, Prod.mk.injEq] at h; obtain ⟨rfl, rfl⟩ := h; exact ⟨_, by rfl, lwMul_pure _ _⟩
  · simp at h)

set_option maxHeartbeats 1000000 in
theorem apDecE_body0 (n : Nat) (nm : Nat) (b : List Int) (cap0 : Nat) (h0 : (nm = n)) (h1 : (n ≠ (32 : Nat))) (hc0 : n ≤ cap0) (hl0_0 : List.length b = nm) (w : World) (β : Env) : Body Try.prog (tabOf tabVN) Try.f13 ⟨w, [], 1, β⟩ [.o (.a (.sl 0 (0 : Nat) n cap0))] [some ⟨false, [.ints .u8 nm b]⟩] (fun ys _ => ys = [.g [.ints .u8 (32 : Nat) ([0, 0, 0, 0, 0, 0, 0, 0, 0, 0, 0, 0, 0, 0, 0, 0, 0, 0, 0, 0, 0, 0, 0, 0, 0, 0, 0, 0, 0, 0, 0, 0] : List Int)], .a (.i .i64 (3 : Int))]) :=
  Body.of_fin (Γ := gam59) (Λ := noLam) (Ψ := noPsi) (fuel := 0) (m := 20) (c := (Try.f13.body.getD .skip)) mix tabOkVN gam59_ok rfl (rs := [.cell 2 23, .tmp 3]) rfl rfl [true] []
    (vc := [((((n : Nat) : Int) != (32 : Int)) = true)]) (by kernel_rfl)
    (AllP_cons (bne_iff_ne.2 (by omega)) (AllP_nil))

theorem apDecE_body (n : Nat) (nm : Nat) (b : List Int) (cap0 : Nat) (h0 : (nm = n)) (h1 : (n ≠ (32 : Nat))) (w : World) (β : Env) : Body Try.prog (tabOf tabVN) Try.f13 ⟨w, [], 1, β⟩ [.o (.a (.sl 0 (0 : Nat) n cap0))] [some ⟨false, [.ints .u8 nm b]⟩] (fun ys _ => ys = [.g [.ints .u8 (32 : Nat) ([0, 0, 0, 0, 0, 0, 0, 0, 0, 0, 0, 0, 0, 0, 0, 0, 0, 0, 0, 0, 0, 0, 0, 0, 0, 0, 0, 0, 0, 0, 0, 0] : List Int)], .a (.i .i64 (3 : Int))]) :=
  Body.lens (c := (Try.f13.body.getD .skip)) rfl fun h => apDecE_body0 n nm b cap0 h0 h1 (h.caps 0 _ _ _ _ rfl) (h.lens 0 _ .u8 nm b rfl (by simp)) w β

def gam61 : Gam := greadV 13 [.s 1] (fun vs args => match vs, args with | [⟨_, _, _, [.ints .u8 nm b]⟩], [a0] => some ((nm = (lenOfA a0)) ∧ ((lenOfA a0) ≠ (32 : Nat)), [.g [.ints .u8 (32 : Nat) ([0, 0, 0, 0, 0, 0, 0, 0, 0, 0, 0, 0, 0, 0, 0, 0, 0, 0, 0, 0, 0, 0, 0, 0, 0, 0, 0, 0, 0, 0, 0, 0] : List Int)], .a (.i .i64 (3 : Int))]) | _, _ => none) gam59
theorem gam61_ok : GamOk Try.prog gam61 := greadV_ok tabOkVN Try.func13 gam59_ok Try.call13 (by
  intro vs args p xs h hv
  split at h
  · simp only [Option.some.injEq, Prod.mk.injEq] at h; obtain ⟨rfl, rfl⟩ := h; exact ⟨by rfl, fun caps w β => apDecE_body _ _ _ _ hv.1 hv.2 w β⟩
  · simp at h)

def apO8 : List Int :=
  let z0 : List Int := (ptAdd (ptAdd (ptId) (ptT)) (ptT))
  let z1 : List Int := (ptAdd z0 (ptT))
  let z2 : List Int := (ptAdd z1 (ptT))
  let z3 : List Int := (ptAdd z2 (ptT))
  let z4 : List Int := (ptAdd z3 (ptT))
  ((sub ((sub ((sub ((sub ((sub ((sub ((sub (sub (ptForm (ptId)) (0 : Nat) (32 : Nat)) (0 : Nat) (32 : Nat)) ++ (sub (ptForm (ptAdd (ptId) (ptT))) (0 : Nat) (32 : Nat))) (0 : Nat) (64 : Nat)) ++ (sub (ptForm z0) (0 : Nat) (32 : Nat))) (0 : Nat) (96 : Nat)) ++ (sub (ptForm z1) (0 : Nat) (32 : Nat))) (0 : Nat) (128 : Nat)) ++ (sub (ptForm z2) (0 : Nat) (32 : Nat))) (0 : Nat) (160 : Nat)) ++ (sub (ptForm z3) (0 : Nat) (32 : Nat))) (0 : Nat) (192 : Nat)) ++ (sub (ptForm z4) (0 : Nat) (32 : Nat))) (0 : Nat) (224 : Nat)) ++ (sub (ptForm (ptAdd z4 (ptT))) (0 : Nat) (32 : Nat)))

set_option maxHeartbeats 1000000 in
theorem apO8_body0 (w : World) (rw : List Nat) (β : Env) : Body Try.prog (tabOf tabVN) Try.f25 ⟨w, rw, 0, β⟩ [] [] (fun ys K' => ys = [.a (.rs 0 (0 : Nat) (8 : Nat) 32)] ∧ K' = [some ⟨true, [.ints .u8 (256 : Nat) (apO8)]⟩]) :=
  Body.of_finK (Γ := gam61) (Λ := noLam) (Ψ := noPsi) (fuel := 9) (m := 16) (c := (Try.f25.body.getD .skip)) mix tabOkVN gam61_ok rfl (rs := [.tmp 0]) rfl rfl [true, false, true, false, true, false, true, false, true, false, true, false, true, false, true, false, false] [.swap 0 16] 1
    (vc := [(false = false), (((224 : Nat) ≤ (224 : Nat)) ∧ (((1 : Nat) ≤ (1 : Nat)) ∧ ((32 : Nat) ≤ (32 : Nat))) ∧ ((256 : Nat) ≤ (140737488355328 : Nat))), (true = true), (((192 : Nat) ≤ (192 : Nat)) ∧ (((1 : Nat) ≤ (1 : Nat)) ∧ ((32 : Nat) ≤ (32 : Nat))) ∧ ((224 : Nat) ≤ (140737488355328 : Nat))), (true = true), (((160 : Nat) ≤ (160 : Nat)) ∧ (((1 : Nat) ≤ (1 : Nat)) ∧ ((32 : Nat) ≤ (32 : Nat))) ∧ ((192 : Nat) ≤ (140737488355328 : Nat))), (true = true), (((128 : Nat) ≤ (128 : Nat)) ∧ (((1 : Nat) ≤ (1 : Nat)) ∧ ((32 : Nat) ≤ (32 : Nat))) ∧ ((160 : Nat) ≤ (140737488355328 : Nat))), (true = true), (((96 : Nat) ≤ (96 : Nat)) ∧ (((1 : Nat) ≤ (1 : Nat)) ∧ ((32 : Nat) ≤ (32 : Nat))) ∧ ((128 : Nat) ≤ (140737488355328 : Nat))), (true = true), (((64 : Nat) ≤ (64 : Nat)) ∧ (((1 : Nat) ≤ (1 : Nat)) ∧ ((32 : Nat) ≤ (32 : Nat))) ∧ ((96 : Nat) ≤ (140737488355328 : Nat))), (true = true), (((32 : Nat) ≤ (32 : Nat)) ∧ (((1 : Nat) ≤ (1 : Nat)) ∧ ((32 : Nat) ≤ (32 : Nat))) ∧ ((64 : Nat) ≤ (140737488355328 : Nat))), (true = true), ((((1 : Nat) ≤ (1 : Nat)) ∧ ((32 : Nat) ≤ (32 : Nat))) ∧ ((32 : Nat) ≤ (140737488355328 : Nat))), (true = true)]) (by kernel_rfl)
    (AllP_cons rfl (AllP_cons ⟨(by decide), ⟨(by decide), (by decide)⟩, (by decide)⟩ (AllP_cons rfl (AllP_cons ⟨(by decide), ⟨(by decide), (by decide)⟩, (by decide)⟩ (AllP_cons rfl (AllP_cons ⟨(by decide), ⟨(by decide), (by decide)⟩, (by decide)⟩ (AllP_cons rfl (AllP_cons ⟨(by decide), ⟨(by decide), (by decide)⟩, (by decide)⟩ (AllP_cons rfl (AllP_cons ⟨(by decide), ⟨(by decide), (by decide)⟩, (by decide)⟩ (AllP_cons rfl (AllP_cons ⟨(by decide), ⟨(by decide), (by decide)⟩, (by decide)⟩ (AllP_cons rfl (AllP_cons ⟨(by decide), ⟨(by decide), (by decide)⟩, (by decide)⟩ (AllP_cons rfl (AllP_cons ⟨⟨(by decide), (by decide)⟩, (by decide)⟩ (AllP_cons rfl (AllP_nil))))))))))))))))))

theorem apO8_body (w : World) (rw : List Nat) (β : Env) : Body Try.prog (tabOf tabVN) Try.f25 ⟨w, rw, 0, β⟩ [] [] (fun ys K' => ys = [.a (.rs 0 (0 : Nat) (8 : Nat) 32)] ∧ K' = [some ⟨true, [.ints .u8 (256 : Nat) (apO8)]⟩]) :=
  Body.lens (c := (Try.f25.body.getD .skip)) rfl fun h => apO8_body0  w rw β

def gam62 : Gam := gcall 25 [] [] (fun wk vs args => match wk, vs, args with | [], [], [] => some (True, [.a (.rs 0 (0 : Nat) (8 : Nat) 32)], [some ⟨true, [.ints .u8 (256 : Nat) (apO8)]⟩]) | _, _, _ => none) gam61
theorem gam62_ok : GamOk Try.prog gam62 := gcall_ok tabOkVN Try.func25 gam61_ok Try.call25 (by
  intro wk vs args p xs K1 h hv
  split at h
  · simp only [Option.some.injEq, Prod.mk.injEq] at h; obtain ⟨rfl, rfl, rfl⟩ := h; exact fun caps w rw β => apO8_body w rw β
  · simp at h)

end Go.Proofs.Ytodiojpakfjehaa.X

/- The small example that each law begins with. -/
namespace Go.Proofs.Ytodiojpakfjehaa.X
open Go Go.Proofs
set_option linter.unusedVariables false
set_option linter.unusedSimpArgs false
set_option maxRecDepth 100000

def p4 : E := ⟨(cI, 0), by decide +kernel⟩
theorem p4_enc : encE p4 = z32 := by decide +kernel
theorem p4_L : mu LN p4 ≠ E0 := fun h => absurd ((qr_zero (qr_mulN (qr_aff p4) (f := 253) (by decide +kernel))).1 h) (by decide +kernel)
theorem wk_prime : apPrime z32 = false ∧ apPrime_1 z32 = 0 := by
  rw [← p4_enc]
  have k := prime_enc p4
  exact ⟨k.1.trans (decide_eq_false p4_L), k.2⟩
def pB2 : E := ⟨(fI 24727413235106541002554574571675588834622768167397638456726423682521233608206, fI 15549675580280190176352668710449542251549572066445060580507079593062643049417), by decide +kernel⟩
theorem pB2_eq : mu 2 eB = pB2 := by
  have k := qr_mulN (qr_aff eB) (n := 2) (f := 2) (by decide)
  refine Ep.ext (rep_uniq fp_curve k ?_)
  exact ⟨by decide +kernel, by decide +kernel, by decide +kernel, by decide +kernel⟩
theorem pB2_enc : encE pB2 = [201, 163, 248, 106, 174, 70, 95, 14, 86, 81, 56, 100, 81, 15, 57, 151, 86, 31, 162, 201, 232, 94, 162, 29, 194, 41, 35, 9, 243, 205, 96, 34] := by decide +kernel
theorem wk_two : apMulB [2, 0, 0, 0, 0, 0, 0, 0, 0, 0, 0, 0, 0, 0, 0, 0, 0, 0, 0, 0, 0, 0, 0, 0, 0, 0, 0, 0, 0, 0, 0, 0] = encE pB2 := by
  rw [mulB_enc (byt_small (by decide)) rfl, ← pB2_eq]
  have : (BV [2, 0, 0, 0, 0, 0, 0, 0, 0, 0, 0, 0, 0, 0, 0, 0, 0, 0, 0, 0, 0, 0, 0, 0, 0, 0, 0, 0, 0, 0, 0, 0]).toNat = 2 := by decide +kernel
  rw [this]
theorem wk_add : apAdd apBase apBase = encE pB2 := by
  rw [base_enc, add_enc, ← pB2_eq]
  have h1 := mu_add 1 1 eB
  rw [mu_one] at h1
  rw [← h1]
theorem wk_addc : apAdd_1 apBase apBase = 0 := by rw [base_enc]; exact addc_enc _ _
theorem y2_none (x : Fp) : ¬ On cD (x, fI 2) := by
  intro h
  have h1 := on_sq h
  have h2 : x * x = fI 43446857792565604583783486763960003913525092658904367978015407342224011949000 := by
    refine fp_curve.can (den_y (fI 2)) (h1.trans ?_)
    decide +kernel
  have h3 : fpw (fI 43446857792565604583783486763960003913525092658904367978015407342224011949000) ((PP - 1) / 2) = -1 := by
    apply Fin.ext
    rw [fpw_pwm _ (f := 255) (by decide +kernel)]
    decide +kernel
  rw [← h2, ← fpw_2, ← fpw_mul] at h3
  by_cases hx : x = 0
  · rw [hx, fpw_zero (by decide +kernel)] at h3
    exact absurd h3 (by decide +kernel)
  · rw [show 2 * ((PP - 1) / 2) = PP - 1 by decide +kernel, fp_fermat hx] at h3
    exact absurd h3 (by decide +kernel)
theorem wk_chk : apCheck [2, 0, 0, 0, 0, 0, 0, 0, 0, 0, 0, 0, 0, 0, 0, 0, 0, 0, 0, 0, 0, 0, 0, 0, 0, 0, 0, 0, 0, 0, 0, 0] = 41 := by
  refine chk_none (byt_small (by decide)) rfl ?_
  have e : BV [2, 0, 0, 0, 0, 0, 0, 0, 0, 0, 0, 0, 0, 0, 0, 0, 0, 0, 0, 0, 0, 0, 0, 0, 0, 0, 0, 0, 0, 0, 0, 0] = 2 := by decide +kernel
  unfold decE
  rw [e, if_pos (by decide), show (2 : Int) % 57896044618658097711785492504343953926634992332820282019728792003956564819968 = 2 from by decide]
  cases h : decP (decide ((57896044618658097711785492504343953926634992332820282019728792003956564819968 : Int) ≤ 2)) (fI 2) with
  | none => rfl
  | some p =>
    obtain ⟨⟨x, y⟩, o⟩ := p
    have hy := (decP_y h).1
    simp only at hy
    subst hy
    exact absurd o (y2_none x)
/-! the eight -/
theorem T_ok : LP ptT eT := by
  have h : decE [38, 232, 149, 143, 194, 178, 39, 176, 69, 195, 244, 137, 242, 239, 152, 240, 213, 223, 172, 5, 211, 198, 51, 57, 177, 56, 2, 136, 109, 83, 252, 5] = some eT := by
    have e : encE eT = [38, 232, 149, 143, 194, 178, 39, 176, 69, 195, 244, 137, 242, 239, 152, 240, 213, 223, 172, 5, 211, 198, 51, 57, 177, 56, 2, 136, 109, 83, 252, 5] := by decide +kernel
    rw [← e]; exact dec_enc eT
  exact ((open_ok (byt_small (by decide)) rfl).2 eT h).2.lp
end Go.Proofs.Ytodiojpakfjehaa.X

/- The eight points; the points that bytes are made into. -/
namespace Go.Proofs.Ytodiojpakfjehaa.X
open Go Go.Proofs
set_option linter.unusedVariables false
set_option linter.unusedSimpArgs false
set_option maxRecDepth 100000

theorem and7 (x : Int) (h0 : 0 ≤ x) (h1 : x < 256) : bits2 .and .u8 x 7 = x % 8 := by
  have key : ∀ n : Nat, n < 256 → bits2 .and .u8 ((n : Nat) : Int) 7 = ((n : Nat) : Int) % 8 := by decide +kernel
  obtain ⟨n, rfl⟩ := Int.eq_ofNat_of_zero_le h0
  exact key n (by omega)
theorem and7_rng (x : Int) : 0 ≤ bits2 .and .u8 x 7 ∧ bits2 .and .u8 x 7 < 8 := by
  have e : bits2 .and .u8 x 7 = IntKind.u8.wrap (((BitVec.ofInt 8 x &&& BitVec.ofInt 8 7).toNat : Nat) : Int) := rfl
  have t2 : (BitVec.ofInt 8 7).toNat = 2 ^ 3 - 1 := by rfl
  rw [e, BitVec.toNat_and, t2, Nat.and_two_pow_sub_one_eq_mod, wrap8]
  omega
theorem sub_all (l : List Int) (n : Nat) (h : l.length ≤ n) : sub l 0 n = l := by
  unfold sub
  rw [List.drop_zero, List.take_of_length_le h]
/-- the forms of points, one behind the other -/
def encs (f : Nat → E) : Nat → List Int
  | 0 => []
  | n + 1 => encs f n ++ encE (f n)
theorem encs_len (f : Nat → E) (n : Nat) : (encs f n).length = n * 32 := by
  induction n with
  | zero => rfl
  | succ n ih => show (encs f n ++ encE (f n)).length = _; rw [List.length_append, ih, encE_len]; omega
theorem encs_sub (f : Nat → E) {n k : Nat} (h : k < n) : sub (encs f n) (k * 32) 32 = encE (f k) := by
  induction n with
  | zero => omega
  | succ n ih =>
    show sub (encs f n ++ encE (f n)) (k * 32) 32 = _
    by_cases hk : k < n
    · have := ih hk
      rw [← this]
      have l := encs_len f n
      refine List.ext_getElem? fun r => ?_
      by_cases hr : r < 32
      · rw [sub_get hr, sub_get hr, List.getElem?_append_left (by omega)]
      · rw [List.getElem?_eq_none, List.getElem?_eq_none]
        · rw [sub_len _ _ _ (by omega)]; omega
        · rw [sub_len _ _ _ (by rw [List.length_append, encE_len]; omega)]; omega
    · have : k = n := by omega
      subst this
      have l := encs_len f k
      refine List.ext_getElem? fun r => ?_
      by_cases hr : r < 32
      · rw [sub_get hr, List.getElem?_append_right (by omega)]
        congr 1; omega
      · rw [List.getElem?_eq_none, List.getElem?_eq_none]
        · rw [encE_len]; omega
        · rw [sub_len _ _ _ (by rw [List.length_append, encE_len]; omega)]; omega
theorem lp_T (k : Nat) : ∀ {l : List Int}, LP l (mu k eT) → LP (ptAdd l ptT) (mu (k + 1) eT) := fun h => lp_add h T_ok
theorem o8_eq : apO8 = encs (fun k => mu k eT) 8 := by
  have h0 : LP ptId (mu 0 eT) := lp_id
  have h1 := lp_T 0 h0
  have h2 := lp_T 1 h1
  have h3 := lp_T 2 h2
  have h4 := lp_T 3 h3
  have h5 := lp_T 4 h4
  have h6 := lp_T 5 h5
  have h7 := lp_T 6 h6
  unfold apO8
  simp only
  rw [form_ok h0, form_ok h1, form_ok h2, form_ok h3, form_ok h4, form_ok h5, form_ok h6, form_ok h7]
  simp (disch := (simp only [List.length_append, encE_len]; decide)) only [sub_all]
  rfl
/-- the point that a law makes of any 32 bytes -/
noncomputable def ptF (s : List Int) : E :=
  match decE s with
  | some p => p
  | none => ad (mu (BV s).toNat eB) (mu (List.getD s 0 0 % 8).toNat eT)
theorem lwAdd_enc (p q : E) : lwAdd (encE p) (encE q) = encE (ad p q) := by
  unfold lwAdd
  rw [addc_enc]
  exact add_enc p q
theorem lwMul_enc {K : List Int} (hK : Byt K) (l : K.length = 32) (p : E) : lwMul K (encE p) = encE (mu (BV K).toNat p) := by
  unfold lwMul
  rw [mulc_enc]
  exact mul_enc hK l p
end Go.Proofs.Ytodiojpakfjehaa.X

/- Printed by a tool of this session. -/
namespace Go.Proofs.Ytodiojpakfjehaa.X
open Go Go.Proofs
set_option linter.unusedVariables false
set_option linter.unusedSimpArgs false
set_option maxRecDepth 100000
theorem teVO_5 : TEOk Try.prog 5 ⟨.int .u8, 1, 1, [.i .u8 (0 : Int)], false⟩ :=
  TEOk.of Try.underlying5 (i := Try.t5) (by kernel_rfl) rfl rfl rfl (by kernel_rfl) (fun h => by cases h) (by kernel_rfl)
theorem teVO_23 : TEOk Try.prog 23 ⟨.array 32 5, 32, 32, [.ints .u8 (32 : Nat) ([0, 0, 0, 0, 0, 0, 0, 0, 0, 0, 0, 0, 0, 0, 0, 0, 0, 0, 0, 0, 0, 0, 0, 0, 0, 0, 0, 0, 0, 0, 0, 0] : List Int)], true⟩ :=
  TEOk.of Try.underlying23 (i := Try.t23) (by kernel_rfl) rfl rfl rfl (by kernel_rfl) (fun _ => Try.eqGuardType23) (by kernel_rfl)
theorem teVO_32 : TEOk Try.prog 32 ⟨.slice 5, 1, 24, [.raw (.slice none 0 0)], false⟩ :=
  TEOk.of Try.underlying32 (i := Try.t32) (by kernel_rfl) rfl rfl rfl (by kernel_rfl) (fun h => by cases h) (by kernel_rfl)
theorem teVO_37 : TEOk Try.prog 37 ⟨.array 32 5, 32, 32, [.ints .u8 (32 : Nat) ([0, 0, 0, 0, 0, 0, 0, 0, 0, 0, 0, 0, 0, 0, 0, 0, 0, 0, 0, 0, 0, 0, 0, 0, 0, 0, 0, 0, 0, 0, 0, 0] : List Int)], true⟩ :=
  TEOk.of Try.underlying37 (i := Try.t37) (by kernel_rfl) rfl rfl rfl (by kernel_rfl) (fun _ => Try.eqGuardType37) (by kernel_rfl)
theorem teVO_45 : TEOk Try.prog 45 ⟨.slice 23, 1, 24, [.raw (.slice none 0 0)], false⟩ :=
  TEOk.of Try.underlying45 (i := Try.t45) (by kernel_rfl) rfl rfl rfl (by kernel_rfl) (fun h => by cases h) (by kernel_rfl)
noncomputable def tabVO : List (Nat × TE) := [(5, ⟨.int .u8, 1, 1, [.i .u8 (0 : Int)], false⟩), (23, ⟨.array 32 5, 32, 32, [.ints .u8 (32 : Nat) ([0, 0, 0, 0, 0, 0, 0, 0, 0, 0, 0, 0, 0, 0, 0, 0, 0, 0, 0, 0, 0, 0, 0, 0, 0, 0, 0, 0, 0, 0, 0, 0] : List Int)], true⟩), (32, ⟨.slice 5, 1, 24, [.raw (.slice none 0 0)], false⟩), (37, ⟨.array 32 5, 32, 32, [.ints .u8 (32 : Nat) ([0, 0, 0, 0, 0, 0, 0, 0, 0, 0, 0, 0, 0, 0, 0, 0, 0, 0, 0, 0, 0, 0, 0, 0, 0, 0, 0, 0, 0, 0, 0, 0] : List Int)], true⟩), (45, ⟨.slice 23, 1, 24, [.raw (.slice none 0 0)], false⟩)]
theorem tabOkVO : TabOk Try.prog (tabOf tabVO) := (tabOf_cons teVO_5 (tabOf_cons teVO_23 (tabOf_cons teVO_32 (tabOf_cons teVO_37 (tabOf_cons teVO_45 tabOf_nil)))))

set_option maxHeartbeats 1000000 in
theorem works_body0 (w : World) : Body Try.prog (tabOf tabVO) Try.f10 ⟨w, [], 0, noEnv⟩ (toA []) [] (fun ys _ => ys = [.a (.b true)]) :=
  Body.of_fin (Γ := gam62) (Λ := noLam) (Ψ := noPsi) (fuel := 0) (m := 63) (c := (Try.f10.body.getD .skip)) mix tabOkVO gam62_ok rfl (rs := [.tmp 0]) rfl rfl [true, true, true, true, true, true, true, true, true, true, true, true, true, true, true, true, true, true, true, true, true, true, true, true, true, true, true] [.eqS 0 (.o (.a (.b true)))]
    (vc := [((.o (.a (.b ((apCheck ([2, 0, 0, 0, 0, 0, 0, 0, 0, 0, 0, 0, 0, 0, 0, 0, 0, 0, 0, 0, 0, 0, 0, 0, 0, 0, 0, 0, 0, 0, 0, 0] : List Int)) == (41 : Int)))) : AV) = .o (.a (.b true))), (true = true), (true = true), (true = true), (true = true), (((apPrime_1 ([0, 0, 0, 0, 0, 0, 0, 0, 0, 0, 0, 0, 0, 0, 0, 0, 0, 0, 0, 0, 0, 0, 0, 0, 0, 0, 0, 0, 0, 0, 0, 0] : List Int)) == (0 : Int)) = true), (((apPrime_1 ([0, 0, 0, 0, 0, 0, 0, 0, 0, 0, 0, 0, 0, 0, 0, 0, 0, 0, 0, 0, 0, 0, 0, 0, 0, 0, 0, 0, 0, 0, 0, 0] : List Int)) == (0 : Int)) = true), (((apPrime_1 ([0, 0, 0, 0, 0, 0, 0, 0, 0, 0, 0, 0, 0, 0, 0, 0, 0, 0, 0, 0, 0, 0, 0, 0, 0, 0, 0, 0, 0, 0, 0, 0] : List Int)) == (0 : Int)) = true), (((apPrime_1 ([0, 0, 0, 0, 0, 0, 0, 0, 0, 0, 0, 0, 0, 0, 0, 0, 0, 0, 0, 0, 0, 0, 0, 0, 0, 0, 0, 0, 0, 0, 0, 0] : List Int)) == (0 : Int)) = true), ((!(apPrime ([0, 0, 0, 0, 0, 0, 0, 0, 0, 0, 0, 0, 0, 0, 0, 0, 0, 0, 0, 0, 0, 0, 0, 0, 0, 0, 0, 0, 0, 0, 0, 0] : List Int))) = true), ((!(apPrime ([0, 0, 0, 0, 0, 0, 0, 0, 0, 0, 0, 0, 0, 0, 0, 0, 0, 0, 0, 0, 0, 0, 0, 0, 0, 0, 0, 0, 0, 0, 0, 0] : List Int))) = true), ((!(apPrime ([0, 0, 0, 0, 0, 0, 0, 0, 0, 0, 0, 0, 0, 0, 0, 0, 0, 0, 0, 0, 0, 0, 0, 0, 0, 0, 0, 0, 0, 0, 0, 0] : List Int))) = true), ((!(apPrime ([0, 0, 0, 0, 0, 0, 0, 0, 0, 0, 0, 0, 0, 0, 0, 0, 0, 0, 0, 0, 0, 0, 0, 0, 0, 0, 0, 0, 0, 0, 0, 0] : List Int))) = true), (((apAdd_1 (apBase) (apBase)) == (0 : Int)) = true), (((apAdd_1 (apBase) (apBase)) == (0 : Int)) = true), (((apAdd_1 (apBase) (apBase)) == (0 : Int)) = true), ((decide ((apAdd (apBase) (apBase)) = (apMulB ([2, 0, 0, 0, 0, 0, 0, 0, 0, 0, 0, 0, 0, 0, 0, 0, 0, 0, 0, 0, 0, 0, 0, 0, 0, 0, 0, 0, 0, 0, 0, 0] : List Int)))) = true), ((decide ((apAdd (apBase) (apBase)) = (apMulB ([2, 0, 0, 0, 0, 0, 0, 0, 0, 0, 0, 0, 0, 0, 0, 0, 0, 0, 0, 0, 0, 0, 0, 0, 0, 0, 0, 0, 0, 0, 0, 0] : List Int)))) = true), ((decide ((apAdd (apBase) (apBase)) = (apMulB ([2, 0, 0, 0, 0, 0, 0, 0, 0, 0, 0, 0, 0, 0, 0, 0, 0, 0, 0, 0, 0, 0, 0, 0, 0, 0, 0, 0, 0, 0, 0, 0] : List Int)))) = true), ((decide ((apAdd (apBase) (apBase)) = (apMulB ([2, 0, 0, 0, 0, 0, 0, 0, 0, 0, 0, 0, 0, 0, 0, 0, 0, 0, 0, 0, 0, 0, 0, 0, 0, 0, 0, 0, 0, 0, 0, 0] : List Int)))) = true), (((List.getD (sub (apMulB ([2, 0, 0, 0, 0, 0, 0, 0, 0, 0, 0, 0, 0, 0, 0, 0, 0, 0, 0, 0, 0, 0, 0, 0, 0, 0, 0, 0, 0, 0, 0, 0] : List Int)) (31 : Nat) (1 : Nat)) (0 : Nat) 0) == (34 : Int)) = true), (((List.getD (sub (apMulB ([2, 0, 0, 0, 0, 0, 0, 0, 0, 0, 0, 0, 0, 0, 0, 0, 0, 0, 0, 0, 0, 0, 0, 0, 0, 0, 0, 0, 0, 0, 0, 0] : List Int)) (31 : Nat) (1 : Nat)) (0 : Nat) 0) == (34 : Int)) = true), (((List.getD (sub (apMulB ([2, 0, 0, 0, 0, 0, 0, 0, 0, 0, 0, 0, 0, 0, 0, 0, 0, 0, 0, 0, 0, 0, 0, 0, 0, 0, 0, 0, 0, 0, 0, 0] : List Int)) (31 : Nat) (1 : Nat)) (0 : Nat) 0) == (34 : Int)) = true), (((List.getD (sub (apMulB ([2, 0, 0, 0, 0, 0, 0, 0, 0, 0, 0, 0, 0, 0, 0, 0, 0, 0, 0, 0, 0, 0, 0, 0, 0, 0, 0, 0, 0, 0, 0, 0] : List Int)) (31 : Nat) (1 : Nat)) (0 : Nat) 0) == (34 : Int)) = true), (((List.getD (sub (apMulB ([2, 0, 0, 0, 0, 0, 0, 0, 0, 0, 0, 0, 0, 0, 0, 0, 0, 0, 0, 0, 0, 0, 0, 0, 0, 0, 0, 0, 0, 0, 0, 0] : List Int)) (0 : Nat) (1 : Nat)) (0 : Nat) 0) == (201 : Int)) = true), (((List.getD (sub (apMulB ([2, 0, 0, 0, 0, 0, 0, 0, 0, 0, 0, 0, 0, 0, 0, 0, 0, 0, 0, 0, 0, 0, 0, 0, 0, 0, 0, 0, 0, 0, 0, 0] : List Int)) (0 : Nat) (1 : Nat)) (0 : Nat) 0) == (201 : Int)) = true), (((List.getD (sub (apMulB ([2, 0, 0, 0, 0, 0, 0, 0, 0, 0, 0, 0, 0, 0, 0, 0, 0, 0, 0, 0, 0, 0, 0, 0, 0, 0, 0, 0, 0, 0, 0, 0] : List Int)) (0 : Nat) (1 : Nat)) (0 : Nat) 0) == (201 : Int)) = true), (((List.getD (sub (apMulB ([2, 0, 0, 0, 0, 0, 0, 0, 0, 0, 0, 0, 0, 0, 0, 0, 0, 0, 0, 0, 0, 0, 0, 0, 0, 0, 0, 0, 0, 0, 0, 0] : List Int)) (0 : Nat) (1 : Nat)) (0 : Nat) 0) == (201 : Int)) = true), ((((1 : Nat) ≤ (1 : Nat)) ∧ True) ∧ (((1 : Nat) = (1 : Nat)) ∧ ((1 : Nat) ≠ (32 : Nat))))]) (by kernel_rfl)
    (AllP_cons ((congrArg (fun z => AV.o (.a (.b z))) (beq_iff_eq.2 wk_chk))) (AllP_cons rfl (AllP_cons rfl (AllP_cons rfl (AllP_cons rfl (AllP_cons (beq_iff_eq.2 wk_prime.2) (AllP_cons (beq_iff_eq.2 wk_prime.2) (AllP_cons (beq_iff_eq.2 wk_prime.2) (AllP_cons (beq_iff_eq.2 wk_prime.2) (AllP_cons (congrArg (fun z => !z) wk_prime.1) (AllP_cons (congrArg (fun z => !z) wk_prime.1) (AllP_cons (congrArg (fun z => !z) wk_prime.1) (AllP_cons (congrArg (fun z => !z) wk_prime.1) (AllP_cons (beq_iff_eq.2 wk_addc) (AllP_cons (beq_iff_eq.2 wk_addc) (AllP_cons (beq_iff_eq.2 wk_addc) (AllP_cons (decide_eq_true (wk_add.trans wk_two.symm)) (AllP_cons (decide_eq_true (wk_add.trans wk_two.symm)) (AllP_cons (decide_eq_true (wk_add.trans wk_two.symm)) (AllP_cons (decide_eq_true (wk_add.trans wk_two.symm)) (AllP_cons (beq_iff_eq.2 (by rw [getsub1, wk_two, pB2_enc]; rfl)) (AllP_cons (beq_iff_eq.2 (by rw [getsub1, wk_two, pB2_enc]; rfl)) (AllP_cons (beq_iff_eq.2 (by rw [getsub1, wk_two, pB2_enc]; rfl)) (AllP_cons (beq_iff_eq.2 (by rw [getsub1, wk_two, pB2_enc]; rfl)) (AllP_cons (beq_iff_eq.2 (by rw [getsub1, wk_two, pB2_enc]; rfl)) (AllP_cons (beq_iff_eq.2 (by rw [getsub1, wk_two, pB2_enc]; rfl)) (AllP_cons (beq_iff_eq.2 (by rw [getsub1, wk_two, pB2_enc]; rfl)) (AllP_cons (beq_iff_eq.2 (by rw [getsub1, wk_two, pB2_enc]; rfl)) (AllP_cons ⟨⟨(by decide), trivial⟩, ⟨rfl, (by decide)⟩⟩ (AllP_nil))))))))))))))))))))))))))))))

theorem works_body (w : World) : Body Try.prog (tabOf tabVO) Try.f10 ⟨w, [], 0, noEnv⟩ (toA []) [] (fun ys _ => ys = [.a (.b true)]) :=
  Body.lens (c := (Try.f10.body.getD .skip)) rfl fun h => works_body0  w

theorem works_pure : PureC Try.prog 10 [] [.a (.b true)] :=
  PureC.of_body tabOkVO Try.func10 rfl rfl fun w => works_body w

def gam63 : Gam := gpure 10 (fun args => match args with | [] => some (none, [.a (.b true)]) | _ => none) gam62
theorem gam63_ok : GamOk Try.prog gam63 := gpure_ok gam62_ok Try.call10 (by
  intro args vc xs h hv
  split at h
  · simp only [Option.some.injEq, Prod.mk.injEq] at h; obtain ⟨rfl, rfl⟩ := h; exact ⟨_, by rfl, works_pure⟩
  · simp at h)

set_option maxHeartbeats 1000000 in
theorem lwPt_w0_body0 (s : List Int) (hv0 : List.length s = (32 : Nat)) (hb0 : ((apCheck s) == (0 : Int)) = true) (w : World) : Body Try.prog (tabOf tabVO) Try.f17 ⟨w, [], 0, noEnv⟩ (toA [.g [.ints .u8 (32 : Nat) s]]) [] (fun ys _ => ys = [.g [.ints .u8 (32 : Nat) s]]) :=
  Body.of_fin (Γ := gam63) (Λ := noLam) (Ψ := noPsi) (fuel := 0) (m := 30) (c := (Try.f17.body.getD .skip)) mix tabOkVO gam63_ok rfl (rs := [.cell 2 23]) rfl rfl [true] []
    (vc := [(((apCheck s) == (0 : Int)) = true)]) (by kernel_rfl)
    (AllP_cons hb0 (AllP_nil))

def lwPt_w1 (s : List Int) : List Int :=
  (apAdd (apMulB s) (sub (apO8) ((Int.toNat (bits2 .and .u8 (List.getD (sub s (0 : Nat) (1 : Nat)) (0 : Nat) 0) (7 : Int))) * (32 : Nat)) (32 : Nat)))

set_option maxHeartbeats 1000000 in
theorem lwPt_w1_body0 (s : List Int) (hv0 : List.length s = (32 : Nat)) (hb0 : ((apCheck s) == (0 : Int)) = false) (w : World) : Body Try.prog (tabOf tabVO) Try.f17 ⟨w, [], 0, noEnv⟩ (toA [.g [.ints .u8 (32 : Nat) s]]) [] (fun ys _ => ys = [.g [.ints .u8 (32 : Nat) (lwPt_w1 s)]]) :=
  Body.of_fin (Γ := gam63) (Λ := noLam) (Ψ := noPsi) (fuel := 0) (m := 30) (c := (Try.f17.body.getD .skip)) mix tabOkVO gam63_ok rfl (rs := [.cell 2 23]) rfl rfl [false, false] []
    (vc := [((((Int.toNat (bits2 .and .u8 (List.getD (sub s (0 : Nat) (1 : Nat)) (0 : Nat) 0) (7 : Int))) * (32 : Nat)) + (32 : Nat)) ≤ (256 : Nat)), (((0 : Int) ≤ (bits2 .and .u8 (List.getD (sub s (0 : Nat) (1 : Nat)) (0 : Nat) 0) (7 : Int))) ∧ ((bits2 .and .u8 (List.getD (sub s (0 : Nat) (1 : Nat)) (0 : Nat) 0) (7 : Int)) < (8 : Int))), (false = false), (True ∧ True), (((apCheck s) == (0 : Int)) = false)]) (by kernel_rfl)
    (AllP_cons (by have q := and7_rng (List.getD (sub s 0 1) 0 0); omega) (AllP_cons ⟨(bits2_nn (k := .u8) rfl), (by have q := and7_rng (List.getD (sub s 0 1) 0 0); omega)⟩ (AllP_cons rfl (AllP_cons ⟨trivial, trivial⟩ (AllP_cons hb0 (AllP_nil))))))

def lwPt (s : List Int) : List Int :=
  (cond ((apCheck s) == (0 : Int)) s (lwPt_w1 s))

set_option maxHeartbeats 1000000 in
theorem lwPt_body (s : List Int) (w : World) : Body Try.prog (tabOf tabVO) Try.f17 ⟨w, [], 0, noEnv⟩ (toA [.g [.ints .u8 (32 : Nat) s]]) [] (fun ys _ => ys = [.g [.ints .u8 (32 : Nat) (lwPt s)]]) :=
  Body.lens (c := (Try.f17.body.getD .skip)) rfl fun h => by
    cases hb0 : ((apCheck s) == (0 : Int))
    · exact (lwPt_w1_body0 s (h.vals 0 _ _ _ rfl) hb0 w).mono fun _ _ hx => hx.trans (by rw [(show (lwPt s) = (lwPt_w1 s) from (cond_f hb0))])
    · exact (lwPt_w0_body0 s (h.vals 0 _ _ _ rfl) hb0 w).mono fun _ _ hx => hx.trans (by rw [(show (lwPt s) = s from (cond_t hb0))])

theorem lwPt_pure (s : List Int) : PureC Try.prog 17 [.g [.ints .u8 (32 : Nat) s]] [.g [.ints .u8 (32 : Nat) (lwPt s)]] :=
  PureC.of_body tabOkVO Try.func17 rfl rfl fun w => lwPt_body s w

def gam64 : Gam := gpure 17 (fun args => match args with | [.o (.g [.ints .u8 (32 : Nat) s])] => some (none, [.g [.ints .u8 (32 : Nat) (lwPt s)]]) | _ => none) gam63
theorem gam64_ok : GamOk Try.prog gam64 := gpure_ok gam63_ok Try.call17 (by
  intro args vc xs h hv
  split at h
  · simp only [Option.some.injEq, Prod.mk.injEq] at h; obtain ⟨rfl, rfl⟩ := h; exact ⟨_, by rfl, lwPt_pure _⟩
  · simp at h)

end Go.Proofs.Ytodiojpakfjehaa.X

/- What the laws compare. -/
namespace Go.Proofs.Ytodiojpakfjehaa.X
open Go Go.Proofs
set_option linter.unusedVariables false
set_option linter.unusedSimpArgs false
set_option maxRecDepth 100000

theorem pt_ok {s : List Int} (h : Byt s) (l : s.length = 32) : lwPt s = encE (ptF s) := by
  have b := byt_get h 0
  unfold lwPt ptF
  cases hd : decE s with
  | some p =>
    have c : apCheck s = 0 := by rw [← enc_dec h l hd]; exact chk_enc p
    rw [c]
    exact (enc_dec h l hd).symm
  | none =>
    rw [chk_none h l hd]
    show lwPt_w1 s = _
    unfold lwPt_w1
    rw [getsub1, and7 _ b.1 b.2, mulB_enc h l, o8_eq, encs_sub _ (by omega), add_enc]
end Go.Proofs.Ytodiojpakfjehaa.X

/- The ladder, as multiples. -/
namespace Go.Proofs.Ytodiojpakfjehaa.X
open Go Go.Proofs
set_option linter.unusedVariables false
set_option linter.unusedSimpArgs false
set_option maxRecDepth 100000

/-- the bits of a number, the highest first -/
def bl (V : Nat) : Nat → List Bool
  | 0 => []
  | k + 1 => bl V k ++ [V / 2 ^ (255 - k) % 2 == 1]
end Go.Proofs.Ytodiojpakfjehaa.X

/- Printed by a tool of this session. -/
namespace Go.Proofs.Ytodiojpakfjehaa.X
open Go Go.Proofs
set_option linter.unusedVariables false
set_option linter.unusedSimpArgs false
set_option maxRecDepth 100000
theorem teVS_5 : TEOk Try.prog 5 ⟨.int .u8, 1, 1, [.i .u8 (0 : Int)], false⟩ :=
  TEOk.of Try.underlying5 (i := Try.t5) (by kernel_rfl) rfl rfl rfl (by kernel_rfl) (fun h => by cases h) (by kernel_rfl)
theorem teVS_23 : TEOk Try.prog 23 ⟨.array 32 5, 32, 32, [.ints .u8 (32 : Nat) ([0, 0, 0, 0, 0, 0, 0, 0, 0, 0, 0, 0, 0, 0, 0, 0, 0, 0, 0, 0, 0, 0, 0, 0, 0, 0, 0, 0, 0, 0, 0, 0] : List Int)], true⟩ :=
  TEOk.of Try.underlying23 (i := Try.t23) (by kernel_rfl) rfl rfl rfl (by kernel_rfl) (fun _ => Try.eqGuardType23) (by kernel_rfl)
theorem teVS_32 : TEOk Try.prog 32 ⟨.slice 5, 1, 24, [.raw (.slice none 0 0)], false⟩ :=
  TEOk.of Try.underlying32 (i := Try.t32) (by kernel_rfl) rfl rfl rfl (by kernel_rfl) (fun h => by cases h) (by kernel_rfl)
noncomputable def tabVS : List (Nat × TE) := [(5, ⟨.int .u8, 1, 1, [.i .u8 (0 : Int)], false⟩), (23, ⟨.array 32 5, 32, 32, [.ints .u8 (32 : Nat) ([0, 0, 0, 0, 0, 0, 0, 0, 0, 0, 0, 0, 0, 0, 0, 0, 0, 0, 0, 0, 0, 0, 0, 0, 0, 0, 0, 0, 0, 0, 0, 0] : List Int)], true⟩), (32, ⟨.slice 5, 1, 24, [.raw (.slice none 0 0)], false⟩)]
theorem tabOkVS : TabOk Try.prog (tabOf tabVS) := (tabOf_cons teVS_5 (tabOf_cons teVS_23 (tabOf_cons teVS_32 tabOf_nil)))

def apDec_w0 (b : List Int) : Int :=
  (apCheck (sub b (0 : Nat) (32 : Nat)))

set_option maxHeartbeats 1000000 in
theorem apDec_w0_body0 (n : Nat) (nm : Nat) (b : List Int) (cap0 : Nat) (h0 : (nm = n)) (h1 : (n = (32 : Nat))) (hc0 : n ≤ cap0) (hl0_0 : List.length b = nm) (hb0 : ((apCheck (sub b (0 : Nat) (32 : Nat))) != (0 : Int)) = true) (w : World) (β : Env) : Body Try.prog (tabOf tabVS) Try.f13 ⟨w, [], 1, β⟩ [.o (.a (.sl 0 (0 : Nat) n cap0))] [some ⟨false, [.ints .u8 nm b]⟩] (fun ys _ => ys = [.g [.ints .u8 (32 : Nat) ([0, 0, 0, 0, 0, 0, 0, 0, 0, 0, 0, 0, 0, 0, 0, 0, 0, 0, 0, 0, 0, 0, 0, 0, 0, 0, 0, 0, 0, 0, 0, 0] : List Int)], .a (.i .i64 (apDec_w0 b))]) :=
  Body.of_fin (Γ := gam64) (Λ := noLam) (Ψ := noPsi) (fuel := 0) (m := 20) (c := (Try.f13.body.getD .skip)) mix tabOkVS gam64_ok rfl (rs := [.cell 2 23, .tmp 3]) rfl rfl [false, true] []
    (vc := [(((apCheck (sub b (0 : Nat) (32 : Nat))) != (0 : Int)) = true), ((32 : Nat) ≤ nm), ((32 : Nat) ≤ n), ((((n : Nat) : Int) != (32 : Int)) = false)]) (by kernel_rfl)
    (AllP_cons hb0 (AllP_cons (by omega) (AllP_cons (by omega) (AllP_cons (bne_eq_false_iff_eq.2 (by omega)) (AllP_nil)))))

def apDec_w1 (b : List Int) : List Int :=
  (sub b (0 : Nat) (32 : Nat))

set_option maxHeartbeats 1000000 in
theorem apDec_w1_body0 (n : Nat) (nm : Nat) (b : List Int) (cap0 : Nat) (h0 : (nm = n)) (h1 : (n = (32 : Nat))) (hc0 : n ≤ cap0) (hl0_0 : List.length b = nm) (hb0 : ((apCheck (sub b (0 : Nat) (32 : Nat))) != (0 : Int)) = false) (w : World) (β : Env) : Body Try.prog (tabOf tabVS) Try.f13 ⟨w, [], 1, β⟩ [.o (.a (.sl 0 (0 : Nat) n cap0))] [some ⟨false, [.ints .u8 nm b]⟩] (fun ys _ => ys = [.g [.ints .u8 (32 : Nat) (apDec_w1 b)], .a (.i .i64 (0 : Int))]) :=
  Body.of_fin (Γ := gam64) (Λ := noLam) (Ψ := noPsi) (fuel := 0) (m := 20) (c := (Try.f13.body.getD .skip)) mix tabOkVS gam64_ok rfl (rs := [.cell 2 23, .tmp 3]) rfl rfl [false, false] []
    (vc := [(((apCheck (sub b (0 : Nat) (32 : Nat))) != (0 : Int)) = false), ((32 : Nat) ≤ nm), ((32 : Nat) ≤ n), ((((n : Nat) : Int) != (32 : Int)) = false)]) (by kernel_rfl)
    (AllP_cons hb0 (AllP_cons (by omega) (AllP_cons (by omega) (AllP_cons (bne_eq_false_iff_eq.2 (by omega)) (AllP_nil)))))

def apDec (b : List Int) : List Int :=
  (cond ((apCheck (sub b (0 : Nat) (32 : Nat))) != (0 : Int)) ([0, 0, 0, 0, 0, 0, 0, 0, 0, 0, 0, 0, 0, 0, 0, 0, 0, 0, 0, 0, 0, 0, 0, 0, 0, 0, 0, 0, 0, 0, 0, 0] : List Int) (apDec_w1 b))

def apDec_1 (b : List Int) : Int :=
  (cond ((apCheck (sub b (0 : Nat) (32 : Nat))) != (0 : Int)) (apDec_w0 b) (0 : Int))

set_option maxHeartbeats 1000000 in
theorem apDec_body (n : Nat) (nm : Nat) (b : List Int) (cap0 : Nat) (h0 : (nm = n)) (h1 : (n = (32 : Nat))) (w : World) (β : Env) : Body Try.prog (tabOf tabVS) Try.f13 ⟨w, [], 1, β⟩ [.o (.a (.sl 0 (0 : Nat) n cap0))] [some ⟨false, [.ints .u8 nm b]⟩] (fun ys _ => ys = [.g [.ints .u8 (32 : Nat) (apDec b)], .a (.i .i64 (apDec_1 b))]) :=
  Body.lens (c := (Try.f13.body.getD .skip)) rfl fun h => by
    cases hb0 : ((apCheck (sub b (0 : Nat) (32 : Nat))) != (0 : Int))
    · exact (apDec_w1_body0 n nm b cap0 h0 h1 (h.caps 0 _ _ _ _ rfl) (h.lens 0 _ .u8 nm b rfl (by simp)) hb0 w β).mono fun _ _ hx => hx.trans (by rw [(show (apDec b) = (apDec_w1 b) from (cond_f hb0)), (show (apDec_1 b) = (0 : Int) from (cond_f hb0))])
    · exact (apDec_w0_body0 n nm b cap0 h0 h1 (h.caps 0 _ _ _ _ rfl) (h.lens 0 _ .u8 nm b rfl (by simp)) hb0 w β).mono fun _ _ hx => hx.trans (by rw [(show (apDec b) = ([0, 0, 0, 0, 0, 0, 0, 0, 0, 0, 0, 0, 0, 0, 0, 0, 0, 0, 0, 0, 0, 0, 0, 0, 0, 0, 0, 0, 0, 0, 0, 0] : List Int) from (cond_t hb0)), (show (apDec_1 b) = (apDec_w0 b) from (cond_t hb0))])

def gam66 : Gam := greadV 13 [.s 1] (fun vs args => match vs, args with | [⟨_, _, _, [.ints .u8 nm b]⟩], [a0] => some ((nm = (lenOfA a0)) ∧ ((lenOfA a0) = (32 : Nat)), [.g [.ints .u8 (32 : Nat) (apDec b)], .a (.i .i64 (apDec_1 b))]) | _, _ => none) gam64
theorem gam66_ok : GamOk Try.prog gam66 := greadV_ok tabOkVS Try.func13 gam64_ok Try.call13 (by
  intro vs args p xs h hv
  split at h
  · simp only [Option.some.injEq, Prod.mk.injEq] at h; obtain ⟨rfl, rfl⟩ := h; exact ⟨by rfl, fun caps w β => apDec_body _ _ _ _ hv.1 hv.2 w β⟩
  · simp at h)

end Go.Proofs.Ytodiojpakfjehaa.X

/- Two parts of a point. -/
namespace Go.Proofs.Ytodiojpakfjehaa.X
open Go Go.Proofs
set_option linter.unusedVariables false
set_option linter.unusedSimpArgs false
set_option maxRecDepth 100000

/-- one of the eight taken off j times -/
noncomputable def dn (p : E) : Nat → E
  | 0 => p
  | j + 1 => ad (dn p j) (ng eT)
theorem T_mod (n : Nat) : mu (n % 8) eT = mu n eT := mu_mod T8_zero n
theorem LN8 : LN % 8 = 5 := by decide +kernel
theorem LN_T (j : Nat) : mu (LN * j) eT = mu (5 * j) eT := by
  rw [← T_mod (LN * j), ← T_mod (5 * j), Nat.mul_mod, LN8, Nat.mul_mod 5 j]
theorem ti_ex (p : E) : ∃ i, i < 8 ∧ mu LN p = mu (5 * i) eT := by
  obtain ⟨k, _, rfl⟩ := e_cyclic p
  refine ⟨k % 8, Nat.mod_lt _ (by decide), ?_⟩
  rw [← mu_mul, Nat.mul_comm, mu_mul]
  have e : mu LN eg = mu LN eT := by
    unfold eg
    rw [mu_dist, LB_zero, ad_zero']
  rw [e, ← mu_mul, Nat.mul_comm, LN_T, ← T_mod (5 * k), ← T_mod (5 * (k % 8)), Nat.mul_mod 5 k, Nat.mul_mod 5 (k % 8), Nat.mod_mod]
/-- which of the eight a point holds -/
noncomputable def ti (p : E) : Nat := Classical.choose (ti_ex p)
/-- the part in the subgroup -/
noncomputable def sp (p : E) : E := dn p (ti p)
-- what Parts answers
section
variable {a b k : List Int}
end
end Go.Proofs.Ytodiojpakfjehaa.X

/- Printed by a tool of this session. -/
namespace Go.Proofs.Ytodiojpakfjehaa.X
open Go Go.Proofs
set_option linter.unusedVariables false
set_option linter.unusedSimpArgs false
set_option maxRecDepth 100000
theorem teVY_5 : TEOk Try.prog 5 ⟨.int .u8, 1, 1, [.i .u8 (0 : Int)], false⟩ :=
  TEOk.of Try.underlying5 (i := Try.t5) (by kernel_rfl) rfl rfl rfl (by kernel_rfl) (fun h => by cases h) (by kernel_rfl)
theorem teVY_23 : TEOk Try.prog 23 ⟨.array 32 5, 32, 32, [.ints .u8 (32 : Nat) ([0, 0, 0, 0, 0, 0, 0, 0, 0, 0, 0, 0, 0, 0, 0, 0, 0, 0, 0, 0, 0, 0, 0, 0, 0, 0, 0, 0, 0, 0, 0, 0] : List Int)], true⟩ :=
  TEOk.of Try.underlying23 (i := Try.t23) (by kernel_rfl) rfl rfl rfl (by kernel_rfl) (fun _ => Try.eqGuardType23) (by kernel_rfl)
theorem teVY_37 : TEOk Try.prog 37 ⟨.array 32 5, 32, 32, [.ints .u8 (32 : Nat) ([0, 0, 0, 0, 0, 0, 0, 0, 0, 0, 0, 0, 0, 0, 0, 0, 0, 0, 0, 0, 0, 0, 0, 0, 0, 0, 0, 0, 0, 0, 0, 0] : List Int)], true⟩ :=
  TEOk.of Try.underlying37 (i := Try.t37) (by kernel_rfl) rfl rfl rfl (by kernel_rfl) (fun _ => Try.eqGuardType37) (by kernel_rfl)
theorem teVY_44 : TEOk Try.prog 44 ⟨.slice 37, 1, 24, [.raw (.slice none 0 0)], false⟩ :=
  TEOk.of Try.underlying44 (i := Try.t44) (by kernel_rfl) rfl rfl rfl (by kernel_rfl) (fun h => by cases h) (by kernel_rfl)
theorem teVY_45 : TEOk Try.prog 45 ⟨.slice 23, 1, 24, [.raw (.slice none 0 0)], false⟩ :=
  TEOk.of Try.underlying45 (i := Try.t45) (by kernel_rfl) rfl rfl rfl (by kernel_rfl) (fun h => by cases h) (by kernel_rfl)
theorem teVY_94 : TEOk Try.prog 94 ⟨Try.t93.desc, 20, 160, [.ints .u64 (20 : Nat) ([0, 0, 0, 0, 0, 0, 0, 0, 0, 0, 0, 0, 0, 0, 0, 0, 0, 0, 0, 0] : List Int)], false⟩ :=
  TEOk.of Try.underlying94 (i := Try.t94) (by kernel_rfl) rfl rfl rfl (by kernel_rfl) (fun h => by cases h) (by kernel_rfl)
noncomputable def tabVY : List (Nat × TE) := [(5, ⟨.int .u8, 1, 1, [.i .u8 (0 : Int)], false⟩), (23, ⟨.array 32 5, 32, 32, [.ints .u8 (32 : Nat) ([0, 0, 0, 0, 0, 0, 0, 0, 0, 0, 0, 0, 0, 0, 0, 0, 0, 0, 0, 0, 0, 0, 0, 0, 0, 0, 0, 0, 0, 0, 0, 0] : List Int)], true⟩), (37, ⟨.array 32 5, 32, 32, [.ints .u8 (32 : Nat) ([0, 0, 0, 0, 0, 0, 0, 0, 0, 0, 0, 0, 0, 0, 0, 0, 0, 0, 0, 0, 0, 0, 0, 0, 0, 0, 0, 0, 0, 0, 0, 0] : List Int)], true⟩), (44, ⟨.slice 37, 1, 24, [.raw (.slice none 0 0)], false⟩), (45, ⟨.slice 23, 1, 24, [.raw (.slice none 0 0)], false⟩), (94, ⟨Try.t93.desc, 20, 160, [.ints .u64 (20 : Nat) ([0, 0, 0, 0, 0, 0, 0, 0, 0, 0, 0, 0, 0, 0, 0, 0, 0, 0, 0, 0] : List Int)], false⟩)]
theorem tabOkVY : TabOk Try.prog (tabOf tabVY) := (tabOf_cons teVY_5 (tabOf_cons teVY_23 (tabOf_cons teVY_37 (tabOf_cons teVY_44 (tabOf_cons teVY_45 (tabOf_cons teVY_94 tabOf_nil))))))

def PtsIf (n m : Nat) (e : List Int) : Prop := n = m → ∀ k, k < m → ptOpen_1 (sub e (k * 32) 32) = true
theorem pts_at {n m : Nat} {e : List Int} (h : PtsIf n m e) (hb : ((((n : Nat) : Int) != ((m : Nat) : Int))) = false) {k : Nat} (hk : k < m) : ptOpen_1 (sub e (k * 32) 32) = true := h (by have := bne_eq_false_iff_eq.1 hb; omega) k hk

set_option maxHeartbeats 1000000 in
theorem apMulti_w0_body0 (n : Nat) (nm : Nat) (K : List Int) (m : Nat) (mm : Nat) (e : List Int) (cap0 : Nat) (cap1 : Nat) (h0 : (nm = (n * (32 : Nat)))) (h1 : (mm = (m * (32 : Nat)))) (h2 : (PtsIf n m e)) (h3 : (m ≤ (4398046510976 : Nat))) (hc0 : n ≤ cap0) (hc1 : m ≤ cap1) (hl0_0 : List.length K = nm) (hl1_0 : List.length e = mm) (hb0 : (((n : Nat) : Int) != ((m : Nat) : Int)) = true) (w : World) (β : Env) : Body Try.prog (tabOf tabVY) Try.f29 ⟨w, [], 2, β⟩ [.o (.a (.sl 0 (0 : Nat) n cap0)), .o (.a (.sl 1 (0 : Nat) m cap1))] [some ⟨false, [.ints .u8 nm K]⟩, some ⟨false, [.ints .u8 mm e]⟩] (fun ys _ => ys = [.g [.ints .u8 (32 : Nat) ([0, 0, 0, 0, 0, 0, 0, 0, 0, 0, 0, 0, 0, 0, 0, 0, 0, 0, 0, 0, 0, 0, 0, 0, 0, 0, 0, 0, 0, 0, 0, 0] : List Int)], .a (.i .i64 (8 : Int))]) :=
  Body.of_fin (Γ := gam66) (Λ := noLam) (Ψ := noPsi) (fuel := 0) (m := 44) (c := (Try.f29.body.getD .skip)) mix tabOkVY gam66_ok rfl (rs := [.cell 4 23, .tmp 5]) rfl rfl [true] []
    (vc := [((((n : Nat) : Int) != ((m : Nat) : Int)) = true)]) (by kernel_rfl)
    (AllP_cons hb0 (AllP_nil))

def muL_mk (n : Nat) (nm : Nat) (K : List Int) (m : Nat) (mm : Nat) (e : List Int) (cap0 : Nat) (cap1 : Nat) (k : Nat) (s : (List Int)) : St := ⟨sparse 44 [(0, .o (.a (.sl 0 (0 : Nat) n cap0))), (1, .o (.a (.sl 1 (0 : Nat) m cap1))), (4, .o (.a (.p 2 0))), (6, .o (.a (.p 3 0))), (11, .o (.a (.sl 0 (0 : Nat) n cap0))), (12, .o (.a (.i .i64 ((n : Nat) : Int)))), (13, .o (.a (.sl 1 (0 : Nat) m cap1))), (14, .o (.a (.i .i64 ((m : Nat) : Int)))), (15, .o (.a (.b (((n : Nat) : Int) != ((m : Nat) : Int))))), (17, .o (.g [.ints .u64 (20 : Nat) (ptId)])), (18, .o (.a (.sl 1 (0 : Nat) m cap1))), (19, .o (.a (.i .i64 ((m : Nat) : Int)))), (20, .o (.a (.i .i64 ((k : Nat) : Int))))], [some ⟨false, [.ints .u8 nm K]⟩, some ⟨false, [.ints .u8 mm e]⟩, some ⟨true, [.ints .u8 (32 : Nat) ([0, 0, 0, 0, 0, 0, 0, 0, 0, 0, 0, 0, 0, 0, 0, 0, 0, 0, 0, 0, 0, 0, 0, 0, 0, 0, 0, 0, 0, 0, 0, 0] : List Int)]⟩, some ⟨true, [.ints .u64 (20 : Nat) s]⟩]⟩

def muL_step (K : List Int) (e : List Int) (k : Nat) (s : (List Int)) : (List Int) :=
  ((ptAdd s (ptMul (ptOpen (sub e (k * (32 : Nat)) (32 : Nat))) (sub K (k * (32 : Nat)) (32 : Nat)))))

set_option maxHeartbeats 1000000 in
theorem muL_round (n : Nat) (nm : Nat) (K : List Int) (m : Nat) (mm : Nat) (e : List Int) (cap0 : Nat) (cap1 : Nat) (h0 : (nm = (n * (32 : Nat)))) (h1 : (mm = (m * (32 : Nat)))) (h2 : (PtsIf n m e)) (h3 : (m ≤ (4398046510976 : Nat))) (hc0 : n ≤ cap0) (hc1 : m ≤ cap1) (hl0_0 : List.length K = nm) (hl1_0 : List.length e = mm) (hb0 : (((n : Nat) : Int) != ((m : Nat) : Int)) = false) (w : World) (β : Env) (k : Nat) (hk : k < m) (s : (List Int)) : Run Try.prog ⟨w, [], 2, β⟩ (loopB Try.f29 0) (muL_mk n nm K m mm e cap0 cap1 k s) (To ⟨w, [], 2, β⟩ .normal (muL_mk n nm K m mm e cap0 cap1 (k + 1) (muL_step K e k s))) := by
  have e0 : (IntKind.i64.wrap (((k : Nat) : Int) + (1 : Int))) = (((k + (1 : Nat)) : Nat) : Int) := (by first | rfl | exact wrap_succ (by omega) | omega | (simp (disch := omega) only [wrapI]; omega))
  have h := Run.of_outT (B := ⟨w, [], 2, β⟩) (Λ := noLam) (Ψ := noPsi) (fuel := 0) (ora := [true, false]) (c := (loopB Try.f29 0)) (st := (muL_mk n nm K m mm e cap0 cap1 k s)) (l := [.forget [0, 1, 4, 6, 11, 12, 13, 14, 15, 17, 18, 19, 20] 4]) (s' := ⟨sparse 44 [(0, .o (.a (.sl 0 (0 : Nat) n cap0))), (1, .o (.a (.sl 1 (0 : Nat) m cap1))), (4, .o (.a (.p 2 0))), (6, .o (.a (.p 3 0))), (11, .o (.a (.sl 0 (0 : Nat) n cap0))), (12, .o (.a (.i .i64 ((n : Nat) : Int)))), (13, .o (.a (.sl 1 (0 : Nat) m cap1))), (14, .o (.a (.i .i64 ((m : Nat) : Int)))), (15, .o (.a (.b (((n : Nat) : Int) != ((m : Nat) : Int))))), (17, .o (.g [.ints .u64 (20 : Nat) (ptId)])), (18, .o (.a (.sl 1 (0 : Nat) m cap1))), (19, .o (.a (.i .i64 ((m : Nat) : Int)))), (20, .o (.a (.i .i64 (IntKind.i64.wrap (((k : Nat) : Int) + (1 : Int))))))], [some ⟨false, [.ints .u8 nm K]⟩, some ⟨false, [.ints .u8 mm e]⟩, some ⟨true, [.ints .u8 (32 : Nat) ([0, 0, 0, 0, 0, 0, 0, 0, 0, 0, 0, 0, 0, 0, 0, 0, 0, 0, 0, 0, 0, 0, 0, 0, 0, 0, 0, 0, 0, 0, 0, 0] : List Int)]⟩, some ⟨true, [.ints .u64 (20 : Nat) (muL_step K e k s)]⟩]⟩) (ex := .normal) mix tabOkVY gam66_ok
    (vc := [(((k * (32 : Nat)) + (32 : Nat)) ≤ nm), (((0 : Int) ≤ ((k : Nat) : Int)) ∧ (((k : Nat) : Int) < ((n : Nat) : Int))), ((!(ptOpen_1 (sub e (k * (32 : Nat)) (32 : Nat)))) = false), (((k * (32 : Nat)) + (32 : Nat)) ≤ mm), (((0 : Int) ≤ ((k : Nat) : Int)) ∧ (((k : Nat) : Int) < ((m : Nat) : Int))), ((decide (((k : Nat) : Int) < ((m : Nat) : Int))) = true)]) (by kernel_rfl)
    (AllP_cons (by first | omega | exact decide_eq_true (by omega) | exact decide_eq_false (by omega) | (have q := bne_eq_false_iff_eq.1 hb0; omega) | (simp (disch := omega) only [wrapI]; omega)) (AllP_cons ⟨(by first | omega | exact decide_eq_true (by omega) | exact decide_eq_false (by omega) | (have q := bne_eq_false_iff_eq.1 hb0; omega) | (simp (disch := omega) only [wrapI]; omega)), (by first | omega | exact decide_eq_true (by omega) | exact decide_eq_false (by omega) | (have q := bne_eq_false_iff_eq.1 hb0; omega) | (simp (disch := omega) only [wrapI]; omega))⟩ (AllP_cons (by rw [pts_at h2 hb0 hk]; rfl) (AllP_cons (by first | omega | exact decide_eq_true (by omega) | exact decide_eq_false (by omega) | (have q := bne_eq_false_iff_eq.1 hb0; omega) | (simp (disch := omega) only [wrapI]; omega)) (AllP_cons ⟨(by first | omega | exact decide_eq_true (by omega) | exact decide_eq_false (by omega) | (have q := bne_eq_false_iff_eq.1 hb0; omega) | (simp (disch := omega) only [wrapI]; omega)), (by first | omega | exact decide_eq_true (by omega) | exact decide_eq_false (by omega) | (have q := bne_eq_false_iff_eq.1 hb0; omega) | (simp (disch := omega) only [wrapI]; omega))⟩ (AllP_cons (decide_eq_true (by first | omega | exact decide_eq_true (by omega) | exact decide_eq_false (by omega) | (have q := bne_eq_false_iff_eq.1 hb0; omega) | (simp (disch := omega) only [wrapI]; omega))) (AllP_nil)))))))
  rw [e0] at h
  exact h

set_option maxHeartbeats 1000000 in
theorem muL_last (n : Nat) (nm : Nat) (K : List Int) (m : Nat) (mm : Nat) (e : List Int) (cap0 : Nat) (cap1 : Nat) (h0 : (nm = (n * (32 : Nat)))) (h1 : (mm = (m * (32 : Nat)))) (h2 : (PtsIf n m e)) (h3 : (m ≤ (4398046510976 : Nat))) (hc0 : n ≤ cap0) (hc1 : m ≤ cap1) (hl0_0 : List.length K = nm) (hl1_0 : List.length e = mm) (hb0 : (((n : Nat) : Int) != ((m : Nat) : Int)) = false) (w : World) (β : Env) (s : (List Int)) : Run Try.prog ⟨w, [], 2, β⟩ (loopB Try.f29 0) (muL_mk n nm K m mm e cap0 cap1 m s) (To ⟨w, [], 2, β⟩ (.exit 0) (muL_mk n nm K m mm e cap0 cap1 m s)) :=
  Run.of_outT (B := ⟨w, [], 2, β⟩) (Λ := noLam) (Ψ := noPsi) (fuel := 0) (ora := [false]) (l := [.forget [0, 1, 4, 6, 11, 12, 13, 14, 15, 17, 18, 19, 20] 4]) mix tabOkVY gam66_ok
    (vc := [((decide (((m : Nat) : Int) < ((m : Nat) : Int))) = false)]) (by kernel_rfl)
    (AllP_cons (decide_eq_false (by first | omega | exact decide_eq_true (by omega) | exact decide_eq_false (by omega) | (have q := bne_eq_false_iff_eq.1 hb0; omega) | (simp (disch := omega) only [wrapI]; omega))) (AllP_nil))

theorem muL_loop (n : Nat) (nm : Nat) (K : List Int) (m : Nat) (mm : Nat) (e : List Int) (cap0 : Nat) (cap1 : Nat) (h0 : (nm = (n * (32 : Nat)))) (h1 : (mm = (m * (32 : Nat)))) (h2 : (PtsIf n m e)) (h3 : (m ≤ (4398046510976 : Nat))) (hc0 : n ≤ cap0) (hc1 : m ≤ cap1) (hl0_0 : List.length K = nm) (hl1_0 : List.length e = mm) (hb0 : (((n : Nat) : Int) != ((m : Nat) : Int)) = false) (w : World) (β : Env) (s : (List Int)) : Run Try.prog ⟨w, [], 2, β⟩ (.block 0 (.loop (loopB Try.f29 0))) (muL_mk n nm K m mm e cap0 cap1 0 s) (To ⟨w, [], 2, β⟩ .normal (muL_mk n nm K m mm e cap0 cap1 m (iter (muL_step K e) m s))) :=
  Run.count (fun k => muL_mk n nm K m mm e cap0 cap1 k (iter (muL_step K e) k s)) m (fun k hk => muL_round n nm K m mm e cap0 cap1 h0 h1 h2 h3 hc0 hc1 hl0_0 hl1_0 hb0 w β k hk _) (ex := (.exit 0)) (by simp) (muL_last n nm K m mm e cap0 cap1 h0 h1 h2 h3 hc0 hc1 hl0_0 hl1_0 hb0 w β _)

def muL_out0 (K : List Int) (e : List Int) (m : Nat) (i0 : List Int) : List Int := (iter (muL_step K e) m (i0))

def apMulti_w1 (K : List Int) (m : Nat) (e : List Int) : List Int :=
  (ptForm (muL_out0 K e m (ptId)))

set_option maxHeartbeats 1000000 in
theorem apMulti_w1_body0 (n : Nat) (nm : Nat) (K : List Int) (m : Nat) (mm : Nat) (e : List Int) (cap0 : Nat) (cap1 : Nat) (h0 : (nm = (n * (32 : Nat)))) (h1 : (mm = (m * (32 : Nat)))) (h2 : (PtsIf n m e)) (h3 : (m ≤ (4398046510976 : Nat))) (hc0 : n ≤ cap0) (hc1 : m ≤ cap1) (hl0_0 : List.length K = nm) (hl1_0 : List.length e = mm) (hb0 : (((n : Nat) : Int) != ((m : Nat) : Int)) = false) (w : World) (β : Env) : Body Try.prog (tabOf tabVY) Try.f29 ⟨w, [], 2, β⟩ [.o (.a (.sl 0 (0 : Nat) n cap0)), .o (.a (.sl 1 (0 : Nat) m cap1))] [some ⟨false, [.ints .u8 nm K]⟩, some ⟨false, [.ints .u8 mm e]⟩] (fun ys _ => ys = [.g [.ints .u8 (32 : Nat) (apMulti_w1 K m e)], .a (.i .i64 (0 : Int))]) :=
  Body.of_fin (Γ := gam66) (Λ := lamOf [(0, ⟨[.forget [0, 1, 4, 6, 11, 12, 13, 14, 15, 17, 18, 19, 20] 4], .normal, (muL_mk n nm K m mm e cap0 cap1 m (iter (muL_step K e) m ((ptId))))⟩)]) (Ψ := noPsi) (fuel := 0) (m := 44) (c := (Try.f29.body.getD .skip)) mix tabOkVY gam66_ok rfl (rs := [.cell 4 23, .tmp 5]) rfl rfl [false] []
    (vc := [(Run Try.prog ⟨w, [], 2, β⟩ (.block 0 (.loop (loopB Try.f29 0))) (muL_mk n nm K m mm e cap0 cap1 0 ((ptId))) (To ⟨w, [], 2, β⟩ .normal (muL_mk n nm K m mm e cap0 cap1 m (iter (muL_step K e) m ((ptId)))))), ((((n : Nat) : Int) != ((m : Nat) : Int)) = false)]) (by kernel_rfl)
    (AllP_cons (muL_loop n nm K m mm e cap0 cap1 h0 h1 h2 h3 hc0 hc1 hl0_0 hl1_0 hb0 w β ((ptId))) (AllP_cons hb0 (AllP_nil)))

def apMulti (n : Nat) (K : List Int) (m : Nat) (e : List Int) : List Int :=
  (cond (((n : Nat) : Int) != ((m : Nat) : Int)) ([0, 0, 0, 0, 0, 0, 0, 0, 0, 0, 0, 0, 0, 0, 0, 0, 0, 0, 0, 0, 0, 0, 0, 0, 0, 0, 0, 0, 0, 0, 0, 0] : List Int) (apMulti_w1 K m e))

def apMulti_1 (n : Nat) (m : Nat) : Int :=
  (cond (((n : Nat) : Int) != ((m : Nat) : Int)) (8 : Int) (0 : Int))

set_option maxHeartbeats 1000000 in
theorem apMulti_body (n : Nat) (nm : Nat) (K : List Int) (m : Nat) (mm : Nat) (e : List Int) (cap0 : Nat) (cap1 : Nat) (h0 : (nm = (n * (32 : Nat)))) (h1 : (mm = (m * (32 : Nat)))) (h2 : (PtsIf n m e)) (h3 : (m ≤ (4398046510976 : Nat))) (w : World) (β : Env) : Body Try.prog (tabOf tabVY) Try.f29 ⟨w, [], 2, β⟩ [.o (.a (.sl 0 (0 : Nat) n cap0)), .o (.a (.sl 1 (0 : Nat) m cap1))] [some ⟨false, [.ints .u8 nm K]⟩, some ⟨false, [.ints .u8 mm e]⟩] (fun ys _ => ys = [.g [.ints .u8 (32 : Nat) (apMulti n K m e)], .a (.i .i64 (apMulti_1 n m))]) :=
  Body.lens (c := (Try.f29.body.getD .skip)) rfl fun h => by
    cases hb0 : (((n : Nat) : Int) != ((m : Nat) : Int))
    · exact (apMulti_w1_body0 n nm K m mm e cap0 cap1 h0 h1 h2 h3 (h.caps 0 _ _ _ _ rfl) (h.caps 1 _ _ _ _ rfl) (h.lens 0 _ .u8 nm K rfl (by simp)) (h.lens 1 _ .u8 mm e rfl (by simp)) hb0 w β).mono fun _ _ hx => hx.trans (by rw [(show (apMulti n K m e) = (apMulti_w1 K m e) from (cond_f hb0)), (show (apMulti_1 n m) = (0 : Int) from (cond_f hb0))])
    · exact (apMulti_w0_body0 n nm K m mm e cap0 cap1 h0 h1 h2 h3 (h.caps 0 _ _ _ _ rfl) (h.caps 1 _ _ _ _ rfl) (h.lens 0 _ .u8 nm K rfl (by simp)) (h.lens 1 _ .u8 mm e rfl (by simp)) hb0 w β).mono fun _ _ hx => hx.trans (by rw [(show (apMulti n K m e) = ([0, 0, 0, 0, 0, 0, 0, 0, 0, 0, 0, 0, 0, 0, 0, 0, 0, 0, 0, 0, 0, 0, 0, 0, 0, 0, 0, 0, 0, 0, 0, 0] : List Int) from (cond_t hb0)), (show (apMulti_1 n m) = (8 : Int) from (cond_t hb0))])

def gam70 : Gam := greadV 29 [.s 32, .s 32] (fun vs args => match vs, args with | [⟨_, _, _, [.ints .u8 nm K]⟩, ⟨_, _, _, [.ints .u8 mm e]⟩], [a0, a1] => some ((nm = ((lenOfA a0) * (32 : Nat))) ∧ (mm = ((lenOfA a1) * (32 : Nat))) ∧ (PtsIf (lenOfA a0) (lenOfA a1) e) ∧ ((lenOfA a1) ≤ (4398046510976 : Nat)), [.g [.ints .u8 (32 : Nat) (apMulti (lenOfA a0) K (lenOfA a1) e)], .a (.i .i64 (apMulti_1 (lenOfA a0) (lenOfA a1)))]) | _, _ => none) gam66
theorem gam70_ok : GamOk Try.prog gam70 := greadV_ok tabOkVY Try.func29 gam66_ok Try.call29 (by
  intro vs args p xs h hv
  split at h
  · simp only [Option.some.injEq, Prod.mk.injEq] at h; obtain ⟨rfl, rfl⟩ := h; exact ⟨by rfl, fun caps w β => apMulti_body _ _ _ _ _ _ _ _ hv.1 hv.2.1 hv.2.2.1 hv.2.2.2 w β⟩
  · simp at h)

end Go.Proofs.Ytodiojpakfjehaa.X

/- Sums over lists. -/
namespace Go.Proofs.Ytodiojpakfjehaa.X
open Go Go.Proofs
set_option linter.unusedVariables false
set_option linter.unusedSimpArgs false
set_option maxRecDepth 100000

/-- rows, one behind the other -/
def rowsL (f : Nat → List Int) : Nat → List Int
  | 0 => []
  | n + 1 => rowsL f n ++ f n
theorem rowsL_len {f : Nat → List Int} : ∀ {n : Nat}, (∀ j, j < n → (f j).length = 32) → (rowsL f n).length = n * 32
  | 0, _ => rfl
  | n + 1, h => by
    show (rowsL f n ++ f n).length = _
    rw [List.length_append, rowsL_len (fun j hj => h j (by omega)), h n (by omega)]; omega
theorem rowsL_sub {f : Nat → List Int} : ∀ {n k : Nat}, (∀ j, j < n → (f j).length = 32) → k < n → sub (rowsL f n) (k * 32) 32 = f k
  | 0, k, _, h => by omega
  | n + 1, k, hf, h => by
    show sub (rowsL f n ++ f n) (k * 32) 32 = _
    have l := rowsL_len (n := n) (fun j hj => hf j (by omega))
    have ln := hf n (by omega)
    by_cases hk : k < n
    · have ih := rowsL_sub (n := n) (fun j hj => hf j (by omega)) hk
      rw [← ih]
      refine List.ext_getElem? fun r => ?_
      by_cases hr : r < 32
      · rw [sub_get hr, sub_get hr, List.getElem?_append_left (by omega)]
      · rw [List.getElem?_eq_none, List.getElem?_eq_none]
        · rw [sub_len _ _ _ (by omega)]; omega
        · rw [sub_len _ _ _ (by rw [List.length_append, ln]; omega)]; omega
    · have : k = n := by omega
      subst this
      refine List.ext_getElem? fun r => ?_
      by_cases hr : r < 32
      · rw [sub_get hr, List.getElem?_append_right (by omega)]
        congr 1; omega
      · rw [List.getElem?_eq_none, List.getElem?_eq_none]
        · rw [ln]; omega
        · rw [sub_len _ _ _ (by rw [List.length_append, ln]; omega)]; omega
def kS (K : List Int) : Nat → List Int := rowsL (fun j => sub K (j * 32) 32)
def eS (e : List Int) : Nat → List Int := rowsL (fun j => lwPt (sub e (j * 32) 32))
def sumS (K e : List Int) : Nat → List Int
  | 0 => apId
  | k + 1 => lwAdd (sumS K e k) (lwMul (sub K (k * 32) 32) (lwPt (sub e (k * 32) 32)))
def rkS (K : List Int) (N : Nat) : Nat → List Int := rowsL (fun k => sub (kS K N) ((Int.toNat (((((N : Nat) : Int) - (1 : Int)) - ((k : Nat) : Int)))) * (32 : Nat)) 32)
def reS (e : List Int) (N : Nat) : Nat → List Int := rowsL (fun k => sub (eS e N) ((Int.toNat (((((N : Nat) : Int) - (1 : Int)) - ((k : Nat) : Int)))) * (32 : Nat)) 32)

theorem byt_sub {b : List Int} (h : Byt b) (c m : Nat) : Byt (sub b c m) := fun x hx => h x (List.mem_of_mem_drop (List.mem_of_mem_take hx))
section
variable {K e : List Int} {n m : Nat}
theorem row_ok (hK : Byt K) (lK : List.length K = n * 32) {j : Nat} (hj : j < n) : Byt (sub K (j * 32) 32) ∧ (sub K (j * 32) 32).length = 32 := ⟨byt_sub hK _ _, sub_len _ _ _ (by omega)⟩
theorem row_pt (he : Byt e) (le : List.length e = m * 32) {j : Nat} (hj : j < m) : lwPt (sub e (j * 32) 32) = encE (ptF (sub e (j * 32) 32)) := pt_ok (row_ok he le hj).1 (row_ok he le hj).2
theorem row_pl (he : Byt e) (le : List.length e = m * 32) {j : Nat} (hj : j < m) : (lwPt (sub e (j * 32) 32)).length = 32 := by rw [row_pt he le hj]; exact encE_len _
theorem kS_sub (hK : Byt K) (lK : List.length K = n * 32) {N j : Nat} (hN : N ≤ n) (hj : j < N) : sub (kS K N) (j * 32) 32 = sub K (j * 32) 32 :=
  rowsL_sub (fun i hi => (row_ok hK lK (show i < n by omega)).2) hj
theorem eS_sub (he : Byt e) (le : List.length e = m * 32) {N j : Nat} (hN : N ≤ m) (hj : j < N) : sub (eS e N) (j * 32) 32 = lwPt (sub e (j * 32) 32) :=
  rowsL_sub (fun i hi => row_pl he le (show i < m by omega)) hj
theorem kS_len (hK : Byt K) (lK : List.length K = n * 32) {N : Nat} (hN : N ≤ n) : (kS K N).length = N * 32 := rowsL_len (fun i hi => (row_ok hK lK (show i < n by omega)).2)
theorem eS_len (he : Byt e) (le : List.length e = m * 32) {N : Nat} (hN : N ≤ m) : (eS e N).length = N * 32 := rowsL_len (fun i hi => row_pl he le (show i < m by omega))
theorem ix_nat {N k : Nat} (hk : k < N) : Int.toNat (((((N : Nat) : Int) - (1 : Int)) - ((k : Nat) : Int))) = N - 1 - k := by omega
theorem rk_row (hK : Byt K) (lK : List.length K = n * 32) {N j : Nat} (hN : N ≤ n) (hj : j < N) : sub (kS K N) ((Int.toNat (((((N : Nat) : Int) - (1 : Int)) - ((j : Nat) : Int)))) * (32 : Nat)) 32 = sub K ((N - 1 - j) * 32) 32 := by
  rw [ix_nat hj, kS_sub hK lK hN (by omega)]
theorem re_row (he : Byt e) (le : List.length e = m * 32) {N j : Nat} (hN : N ≤ m) (hj : j < N) : sub (eS e N) ((Int.toNat (((((N : Nat) : Int) - (1 : Int)) - ((j : Nat) : Int)))) * (32 : Nat)) 32 = lwPt (sub e ((N - 1 - j) * 32) 32) := by
  rw [ix_nat hj, eS_sub he le hN (by omega)]
theorem rkS_len (hK : Byt K) (lK : List.length K = n * 32) {N k : Nat} (hN : N ≤ n) (hk : k ≤ N) : (rkS K N k).length = k * 32 :=
  rowsL_len (fun i hi => by rw [rk_row hK lK hN (by omega)]; exact (row_ok hK lK (show N - 1 - i < n by omega)).2)
theorem reS_len (he : Byt e) (le : List.length e = m * 32) {N k : Nat} (hN : N ≤ m) (hk : k ≤ N) : (reS e N k).length = k * 32 :=
  rowsL_len (fun i hi => by rw [re_row he le hN (by omega)]; exact row_pl he le (show N - 1 - i < m by omega))
theorem rkS_sub (hK : Byt K) (lK : List.length K = n * 32) {N j : Nat} (hN : N ≤ n) (hj : j < N) : sub (rkS K N N) (j * 32) 32 = sub K ((N - 1 - j) * 32) 32 := by
  refine (rowsL_sub (fun i hi => ?_) hj).trans (rk_row hK lK hN hj)
  rw [rk_row hK lK hN hi]; exact (row_ok hK lK (show N - 1 - i < n by omega)).2
theorem reS_sub (he : Byt e) (le : List.length e = m * 32) {N j : Nat} (hN : N ≤ m) (hj : j < N) : sub (reS e N N) (j * 32) 32 = lwPt (sub e ((N - 1 - j) * 32) 32) := by
  refine (rowsL_sub (fun i hi => ?_) hj).trans (re_row he le hN hj)
  rw [re_row he le hN hi]; exact row_pl he le (show N - 1 - i < m by omega)
theorem rows_step {f : Nat → List Int} {k : Nat} (h : (rowsL f k).length = k * 32) (l : (f k).length = 32) : sub (rowsL f k) 0 (k * 32) ++ sub (f k) 0 32 = rowsL f (k + 1) := by
  rw [sub_all _ _ (Nat.le_of_eq h), sub_all _ _ (Nat.le_of_eq l)]; rfl
theorem kS_step (hK : Byt K) (lK : List.length K = n * 32) {k : Nat} (hk : k < n) : sub (kS K k) 0 (k * 32) ++ sub (sub K (k * 32) 32) 0 32 = kS K (k + 1) :=
  rows_step (f := fun j => sub K (j * 32) 32) (kS_len hK lK (Nat.le_of_lt hk)) (row_ok hK lK hk).2
theorem eS_step (he : Byt e) (le : List.length e = m * 32) {k : Nat} (hk : k < m) : sub (eS e k) 0 (k * 32) ++ sub (lwPt (sub e (k * 32) 32)) 0 32 = eS e (k + 1) :=
  rows_step (f := fun j => lwPt (sub e (j * 32) 32)) (eS_len he le (Nat.le_of_lt hk)) (row_pl he le hk)
theorem rkS_step (hK : Byt K) (lK : List.length K = n * 32) {N k : Nat} (hN : N ≤ n) (hk : k < N) : sub (rkS K N k) 0 (k * 32) ++ sub (sub (kS K N) ((Int.toNat (((((N : Nat) : Int) - (1 : Int)) - ((k : Nat) : Int)))) * (32 : Nat)) 32) 0 32 = rkS K N (k + 1) :=
  rows_step (f := fun k => sub (kS K N) ((Int.toNat (((((N : Nat) : Int) - (1 : Int)) - ((k : Nat) : Int)))) * (32 : Nat)) 32) (rkS_len hK lK hN (Nat.le_of_lt hk)) (by rw [rk_row hK lK hN hk]; exact (row_ok hK lK (show N - 1 - k < n by omega)).2)
theorem reS_step (he : Byt e) (le : List.length e = m * 32) {N k : Nat} (hN : N ≤ m) (hk : k < N) : sub (reS e N k) 0 (k * 32) ++ sub (sub (eS e N) ((Int.toNat (((((N : Nat) : Int) - (1 : Int)) - ((k : Nat) : Int)))) * (32 : Nat)) 32) 0 32 = reS e N (k + 1) :=
  rows_step (f := fun k => sub (eS e N) ((Int.toNat (((((N : Nat) : Int) - (1 : Int)) - ((k : Nat) : Int)))) * (32 : Nat)) 32) (reS_len he le hN (Nat.le_of_lt hk)) (by rw [re_row he le hN hk]; exact row_pl he le (show N - 1 - k < m by omega))
end

-- sums of points
noncomputable def gsumE (f : Nat → E) : Nat → E
  | 0 => E0
  | k + 1 => ad (gsumE f k) (f k)
theorem gsumE_congr {f g : Nat → E} : ∀ {n : Nat}, (∀ j, j < n → f j = g j) → gsumE f n = gsumE g n
  | 0, _ => rfl
  | n + 1, h => by
    show ad (gsumE f n) (f n) = ad (gsumE g n) (g n)
    rw [gsumE_congr (fun j hj => h j (by omega)), h n (by omega)]
theorem gsumE_front (f : Nat → E) : ∀ n : Nat, gsumE f (n + 1) = ad (f 0) (gsumE (fun j => f (j + 1)) n)
  | 0 => by show ad E0 (f 0) = ad (f 0) E0; rw [ad_comm]
  | n + 1 => by
    show ad (gsumE f (n + 1)) (f (n + 1)) = ad (f 0) (ad (gsumE (fun j => f (j + 1)) n) (f (n + 1)))
    rw [gsumE_front f n, ad_assoc]
theorem gsumE_rev : ∀ (n : Nat) (f : Nat → E), gsumE (fun j => f (n - 1 - j)) n = gsumE f n
  | 0, _ => rfl
  | n + 1, f => by
    rw [gsumE_front, ad_comm]
    have e : gsumE (fun j => f (n + 1 - 1 - (j + 1))) n = gsumE f n := by
      refine Eq.trans (gsumE_congr fun j hj => ?_) (gsumE_rev n f)
      rw [show n + 1 - 1 - (j + 1) = n - 1 - j by omega]
    rw [e]
    rfl
noncomputable def tmE (K e : List Int) (j : Nat) : E := mu (BV (sub K (j * 32) 32)).toNat (ptF (sub e (j * 32) 32))
section
variable {K e : List Int} {n m : Nat}
theorem sumS_enc (hK : Byt K) (lK : List.length K = n * 32) (he : Byt e) (le : List.length e = m * 32) : ∀ k, k ≤ n → k ≤ m → sumS K e k = encE (gsumE (tmE K e) k)
  | 0, _, _ => id_enc
  | k + 1, h0, h1 => by
    show lwAdd (sumS K e k) (lwMul (sub K (k * 32) 32) (lwPt (sub e (k * 32) 32))) = _
    have r := row_ok hK lK (show k < n by omega)
    rw [sumS_enc hK lK he le k (by omega) (by omega), row_pt he le (by omega), lwMul_enc r.1 r.2, lwAdd_enc]
    rfl
/-- what Multi answers for rows of points -/
theorem multi_enc {K' e' : List Int} {N : Nat} {p : Nat → E} (hK : ∀ j, j < N → Byt (sub K' (j * 32) 32) ∧ (sub K' (j * 32) 32).length = 32) (he : ∀ j, j < N → sub e' (j * 32) 32 = encE (p j)) : apMulti N K' N e' = encE (gsumE (fun j => mu (BV (sub K' (j * 32) 32)).toNat (p j)) N) := by
  have l : ∀ k, k ≤ N → LP (iter (muL_step K' e') k ptId) (gsumE (fun j => mu (BV (sub K' (j * 32) 32)).toNat (p j)) k) := by
    intro k
    induction k with
    | zero => intro _; exact lp_id
    | succ k ih =>
      intro h
      show LP (ptAdd (iter (muL_step K' e') k ptId) (ptMul (ptOpen (sub e' (k * 32) 32)) (sub K' (k * 32) 32))) (ad _ (mu _ (p k)))
      refine lp_add (ih (by omega)) (lp_mul ?_ (hK k (by omega)).1 (hK k (by omega)).2)
      rw [he k (by omega)]
      exact op2 (p k)
  exact (cond_f (bne_eq_false_iff_eq.2 rfl)).trans (form_ok (l N (Nat.le_refl _)))
theorem multi_code (N : Nat) : apMulti_1 N N = 0 := cond_f (bne_eq_false_iff_eq.2 rfl)
theorem multi_code1 (N : Nat) : apMulti_1 (N + 1) N = 8 := cond_t (bne_iff_ne.2 (by omega))
theorem pts_if {e' : List Int} {N N' : Nat} {p : Nat → E} (he : ∀ j, j < N → sub e' (j * 32) 32 = encE (p j)) : PtsIf N' N e' := fun _ k hk => by rw [he k hk]; exact op1 _
theorem pts_ne {e' : List Int} {N : Nat} : PtsIf (N + 1) N e' := fun h => by omega
theorem ml_e (he : Byt e) (le : List.length e = m * 32) {N : Nat} (hN : N ≤ m) : ∀ j, j < N → sub (sub (eS e N) 0 (N * 32)) (j * 32) 32 = encE (ptF (sub e (j * 32) 32)) := fun j hj => by
  rw [sub_all _ _ (Nat.le_of_eq (eS_len he le hN)), eS_sub he le hN hj, row_pt he le (by omega)]
theorem ml_re (he : Byt e) (le : List.length e = m * 32) {N : Nat} (hN : N ≤ m) : ∀ j, j < N → sub (sub (reS e N N) 0 (N * 32)) (j * 32) 32 = encE (ptF (sub e ((N - 1 - j) * 32) 32)) := fun j hj => by
  rw [sub_all _ _ (Nat.le_of_eq (reS_len he le hN (Nat.le_refl _))), reS_sub he le hN hj, row_pt he le (by omega)]
theorem ml_sum (hK : Byt K) (lK : List.length K = n * 32) (he : Byt e) (le : List.length e = m * 32) {N : Nat} (hN : N ≤ n) (hM : N ≤ m) : apMulti N (sub (kS K N) 0 (N * 32)) N (sub (eS e N) 0 (N * 32)) = sumS K e N := by
  have kk : ∀ j, j < N → sub (sub (kS K N) 0 (N * 32)) (j * 32) 32 = sub K (j * 32) 32 := fun j hj => by
    rw [sub_all _ _ (Nat.le_of_eq (kS_len hK lK hN)), kS_sub hK lK hN hj]
  rw [multi_enc (fun j hj => by rw [kk j hj]; exact row_ok hK lK (by omega)) (ml_e he le hM), sumS_enc hK lK he le N hN hM]
  exact congrArg encE (gsumE_congr fun j hj => by rw [kk j hj]; rfl)
theorem ml_rsum (hK : Byt K) (lK : List.length K = n * 32) (he : Byt e) (le : List.length e = m * 32) {N : Nat} (hN : N ≤ n) (hM : N ≤ m) : apMulti N (sub (rkS K N N) 0 (N * 32)) N (sub (reS e N N) 0 (N * 32)) = sumS K e N := by
  have kk : ∀ j, j < N → sub (sub (rkS K N N) 0 (N * 32)) (j * 32) 32 = sub K ((N - 1 - j) * 32) 32 := fun j hj => by
    rw [sub_all _ _ (Nat.le_of_eq (rkS_len hK lK hN (Nat.le_refl _))), rkS_sub hK lK hN hj]
  rw [multi_enc (fun j hj => by rw [kk j hj]; exact row_ok hK lK (by omega)) (ml_re he le hM), sumS_enc hK lK he le N hN hM, ← gsumE_rev]
  exact congrArg encE (gsumE_congr fun j hj => by rw [kk _ (by omega), show N - 1 - (N - 1 - j) = j by omega]; rfl)
end
end Go.Proofs.Ytodiojpakfjehaa.X

/- Printed by a tool of this session. -/
namespace Go.Proofs.Ytodiojpakfjehaa.X
open Go Go.Proofs
set_option linter.unusedVariables false
set_option linter.unusedSimpArgs false
set_option maxRecDepth 100000
theorem teVZ_5 : TEOk Try.prog 5 ⟨.int .u8, 1, 1, [.i .u8 (0 : Int)], false⟩ :=
  TEOk.of Try.underlying5 (i := Try.t5) (by kernel_rfl) rfl rfl rfl (by kernel_rfl) (fun h => by cases h) (by kernel_rfl)
theorem teVZ_23 : TEOk Try.prog 23 ⟨.array 32 5, 32, 32, [.ints .u8 (32 : Nat) ([0, 0, 0, 0, 0, 0, 0, 0, 0, 0, 0, 0, 0, 0, 0, 0, 0, 0, 0, 0, 0, 0, 0, 0, 0, 0, 0, 0, 0, 0, 0, 0] : List Int)], true⟩ :=
  TEOk.of Try.underlying23 (i := Try.t23) (by kernel_rfl) rfl rfl rfl (by kernel_rfl) (fun _ => Try.eqGuardType23) (by kernel_rfl)
theorem teVZ_37 : TEOk Try.prog 37 ⟨.array 32 5, 32, 32, [.ints .u8 (32 : Nat) ([0, 0, 0, 0, 0, 0, 0, 0, 0, 0, 0, 0, 0, 0, 0, 0, 0, 0, 0, 0, 0, 0, 0, 0, 0, 0, 0, 0, 0, 0, 0, 0] : List Int)], true⟩ :=
  TEOk.of Try.underlying37 (i := Try.t37) (by kernel_rfl) rfl rfl rfl (by kernel_rfl) (fun _ => Try.eqGuardType37) (by kernel_rfl)
theorem teVZ_44 : TEOk Try.prog 44 ⟨.slice 37, 1, 24, [.raw (.slice none 0 0)], false⟩ :=
  TEOk.of Try.underlying44 (i := Try.t44) (by kernel_rfl) rfl rfl rfl (by kernel_rfl) (fun h => by cases h) (by kernel_rfl)
theorem teVZ_45 : TEOk Try.prog 45 ⟨.slice 23, 1, 24, [.raw (.slice none 0 0)], false⟩ :=
  TEOk.of Try.underlying45 (i := Try.t45) (by kernel_rfl) rfl rfl rfl (by kernel_rfl) (fun h => by cases h) (by kernel_rfl)
noncomputable def tabVZ : List (Nat × TE) := [(5, ⟨.int .u8, 1, 1, [.i .u8 (0 : Int)], false⟩), (23, ⟨.array 32 5, 32, 32, [.ints .u8 (32 : Nat) ([0, 0, 0, 0, 0, 0, 0, 0, 0, 0, 0, 0, 0, 0, 0, 0, 0, 0, 0, 0, 0, 0, 0, 0, 0, 0, 0, 0, 0, 0, 0, 0] : List Int)], true⟩), (37, ⟨.array 32 5, 32, 32, [.ints .u8 (32 : Nat) ([0, 0, 0, 0, 0, 0, 0, 0, 0, 0, 0, 0, 0, 0, 0, 0, 0, 0, 0, 0, 0, 0, 0, 0, 0, 0, 0, 0, 0, 0, 0, 0] : List Int)], true⟩), (44, ⟨.slice 37, 1, 24, [.raw (.slice none 0 0)], false⟩), (45, ⟨.slice 23, 1, 24, [.raw (.slice none 0 0)], false⟩)]
theorem tabOkVZ : TabOk Try.prog (tabOf tabVZ) := (tabOf_cons teVZ_5 (tabOf_cons teVZ_23 (tabOf_cons teVZ_37 (tabOf_cons teVZ_44 (tabOf_cons teVZ_45 tabOf_nil)))))

def mlA_mk (n : Nat) (nm : Nat) (K : List Int) (m : Nat) (mm : Nat) (e : List Int) (cap0 : Nat) (cap1 : Nat) (k : Nat) (s : Unit) : St := ⟨sparse 114 [(0, .o (.a (.sl 0 (0 : Nat) n cap0))), (1, .o (.a (.sl 1 (0 : Nat) m cap1))), (4, .o (.a (.b false))), (5, .o (.a (.i .i64 (((min n m) : Nat) : Int)))), (6, .o (.a (.rs 3 (0 : Nat) k 32))), (7, .o (.a (.raw (.slice none 0 0)))), (8, .o (.a (.rs 4 (0 : Nat) k 32))), (9, .o (.a (.raw (.slice none 0 0)))), (10, .o (.a (.p 2 0))), (11, .o (.a (.i .i64 ((k : Nat) : Int)))), (18, .o (.a (.b true))), (19, .o (.a (.b false))), (20, .o (.a (.sl 0 (0 : Nat) n cap0))), (21, .o (.a (.i .i64 ((n : Nat) : Int)))), (22, .o (.a (.sl 1 (0 : Nat) m cap1))), (23, .o (.a (.i .i64 ((m : Nat) : Int)))), (24, .o (.a (.i .i64 (if ((m : Nat) : Int) < ((n : Nat) : Int) then ((m : Nat) : Int) else ((n : Nat) : Int))))), (25, .o (.g [.ints .u8 (32 : Nat) (apId)]))], [some ⟨false, [.ints .u8 nm K]⟩, some ⟨false, [.ints .u8 mm e]⟩, some ⟨true, [.ints .u8 (32 : Nat) (sumS K e k)]⟩, some ⟨true, [.ints .u8 (k * (32 : Nat)) (kS K k)]⟩, some ⟨true, [.ints .u8 (k * (32 : Nat)) (eS e k)]⟩]⟩

def mlA_step (k : Nat) (s : Unit) : Unit :=
  ()

set_option maxHeartbeats 1000000 in
theorem mlA_round (n : Nat) (nm : Nat) (K : List Int) (m : Nat) (mm : Nat) (e : List Int) (cap0 : Nat) (cap1 : Nat) (h0 : (nm = (n * (32 : Nat)))) (h1 : (mm = (m * (32 : Nat)))) (h2 : (n ≤ (4398046510976 : Nat))) (h3 : (m ≤ (4398046510976 : Nat))) (h4 : (Byt K)) (h5 : (Byt e)) (hc0 : n ≤ cap0) (hc1 : m ≤ cap1) (hl0_0 : List.length K = nm) (hl1_0 : List.length e = mm) (w : World) (β : Env) (k : Nat) (hk : k < (min n m)) (s : Unit) : Run Try.prog ⟨w, [], 2, β⟩ (loopB Try.f6 0) (mlA_mk n nm K m mm e cap0 cap1 k s) (To ⟨w, [], 2, β⟩ .normal (mlA_mk n nm K m mm e cap0 cap1 (k + 1) (mlA_step k s))) := by
  have e0 : ((sub (eS e k) (0 : Nat) (k * (32 : Nat))) ++ (sub (lwPt (sub e (k * (32 : Nat)) (32 : Nat))) (0 : Nat) (32 : Nat))) = (eS e (k + (1 : Nat))) := (by first | exact wrap_succ (by omega) | omega | exact kS_step h4 (hl0_0.trans h0) (by omega) | exact eS_step h5 (hl1_0.trans h1) (by omega) | rfl)
  have e1 : ((sub (kS K k) (0 : Nat) (k * (32 : Nat))) ++ (sub (sub K (k * (32 : Nat)) (32 : Nat)) (0 : Nat) (32 : Nat))) = (kS K (k + (1 : Nat))) := (by first | exact wrap_succ (by omega) | omega | exact kS_step h4 (hl0_0.trans h0) (by omega) | exact eS_step h5 (hl1_0.trans h1) (by omega) | rfl)
  have e2 : (lwAdd (sumS K e k) (lwMul (sub K (k * (32 : Nat)) (32 : Nat)) (lwPt (sub e (k * (32 : Nat)) (32 : Nat))))) = (sumS K e (k + (1 : Nat))) := (by first | exact wrap_succ (by omega) | omega | exact kS_step h4 (hl0_0.trans h0) (by omega) | exact eS_step h5 (hl1_0.trans h1) (by omega) | rfl)
  have e3 : (IntKind.i64.wrap (((k : Nat) : Int) + (1 : Int))) = (((k + (1 : Nat)) : Nat) : Int) := (by first | exact wrap_succ (by omega) | omega | exact kS_step h4 (hl0_0.trans h0) (by omega) | exact eS_step h5 (hl1_0.trans h1) (by omega) | rfl)
  have e4 : ((k * (32 : Nat)) + (32 : Nat)) = ((k + (1 : Nat)) * (32 : Nat)) := (by first | exact wrap_succ (by omega) | omega | exact kS_step h4 (hl0_0.trans h0) (by omega) | exact eS_step h5 (hl1_0.trans h1) (by omega) | rfl)
  have h := Run.of_outT (B := ⟨w, [], 2, β⟩) (Λ := noLam) (Ψ := noPsi) (fuel := 0) (ora := [true, false, false]) (c := (loopB Try.f6 0)) (st := (mlA_mk n nm K m mm e cap0 cap1 k s)) (l := [.swap 7 3, .swap 9 4, .forget [0, 1, 4, 5, 6, 7, 8, 9, 10, 11, 18, 19, 20, 21, 22, 23, 24, 25] 5]) (s' := ⟨sparse 114 [(0, .o (.a (.sl 0 (0 : Nat) n cap0))), (1, .o (.a (.sl 1 (0 : Nat) m cap1))), (4, .o (.a (.b false))), (5, .o (.a (.i .i64 (((min n m) : Nat) : Int)))), (6, .o (.a (.rs 3 (0 : Nat) (k + (1 : Nat)) 32))), (7, .o (.a (.raw (.slice none 0 0)))), (8, .o (.a (.rs 4 (0 : Nat) (k + (1 : Nat)) 32))), (9, .o (.a (.raw (.slice none 0 0)))), (10, .o (.a (.p 2 0))), (11, .o (.a (.i .i64 (IntKind.i64.wrap (((k : Nat) : Int) + (1 : Int)))))), (18, .o (.a (.b true))), (19, .o (.a (.b false))), (20, .o (.a (.sl 0 (0 : Nat) n cap0))), (21, .o (.a (.i .i64 ((n : Nat) : Int)))), (22, .o (.a (.sl 1 (0 : Nat) m cap1))), (23, .o (.a (.i .i64 ((m : Nat) : Int)))), (24, .o (.a (.i .i64 (if ((m : Nat) : Int) < ((n : Nat) : Int) then ((m : Nat) : Int) else ((n : Nat) : Int))))), (25, .o (.g [.ints .u8 (32 : Nat) (apId)]))], [some ⟨false, [.ints .u8 nm K]⟩, some ⟨false, [.ints .u8 mm e]⟩, some ⟨true, [.ints .u8 (32 : Nat) (lwAdd (sumS K e k) (lwMul (sub K (k * (32 : Nat)) (32 : Nat)) (lwPt (sub e (k * (32 : Nat)) (32 : Nat)))))]⟩, some ⟨true, [.ints .u8 ((k * (32 : Nat)) + (32 : Nat)) ((sub (kS K k) (0 : Nat) (k * (32 : Nat))) ++ (sub (sub K (k * (32 : Nat)) (32 : Nat)) (0 : Nat) (32 : Nat)))]⟩, some ⟨true, [.ints .u8 ((k * (32 : Nat)) + (32 : Nat)) ((sub (eS e k) (0 : Nat) (k * (32 : Nat))) ++ (sub (lwPt (sub e (k * (32 : Nat)) (32 : Nat))) (0 : Nat) (32 : Nat)))]⟩]⟩) (ex := .normal) mix tabOkVZ gam70_ok
    (vc := [(((k * (32 : Nat)) + (32 : Nat)) ≤ nm), (((0 : Int) ≤ ((k : Nat) : Int)) ∧ (((k : Nat) : Int) < ((n : Nat) : Int))), ((((0 : Nat) + (k * (32 : Nat))) ≤ (k * (32 : Nat))) ∧ (((1 : Nat) ≤ (1 : Nat)) ∧ ((32 : Nat) ≤ (32 : Nat))) ∧ (((k + (1 : Nat)) * (32 : Nat)) ≤ (140737488355328 : Nat))), ((((0 : Nat) + (k * (32 : Nat))) ≤ (k * (32 : Nat))) ∧ (((1 : Nat) ≤ (1 : Nat)) ∧ ((32 : Nat) ≤ (32 : Nat))) ∧ (((k + (1 : Nat)) * (32 : Nat)) ≤ (140737488355328 : Nat))), (((k * (32 : Nat)) + (32 : Nat)) ≤ nm), (((0 : Int) ≤ ((k : Nat) : Int)) ∧ (((k : Nat) : Int) < ((n : Nat) : Int))), (((k * (32 : Nat)) + (32 : Nat)) ≤ mm), (((0 : Int) ≤ ((k : Nat) : Int)) ∧ (((k : Nat) : Int) < ((m : Nat) : Int))), ((decide (((k : Nat) : Int) < (((min n m) : Nat) : Int))) = true)]) (by kernel_rfl)
    (AllP_cons (by first | omega | (simp (disch := omega) only [wrapI]; omega)) (AllP_cons ⟨(by first | omega | (simp (disch := omega) only [wrapI]; omega)), (by first | omega | (simp (disch := omega) only [wrapI]; omega))⟩ (AllP_cons ⟨(by first | omega | (simp (disch := omega) only [wrapI]; omega)), ⟨(by decide), (by decide)⟩, (by first | omega | (simp (disch := omega) only [wrapI]; omega))⟩ (AllP_cons ⟨(by first | omega | (simp (disch := omega) only [wrapI]; omega)), ⟨(by decide), (by decide)⟩, (by first | omega | (simp (disch := omega) only [wrapI]; omega))⟩ (AllP_cons (by first | omega | (simp (disch := omega) only [wrapI]; omega)) (AllP_cons ⟨(by first | omega | (simp (disch := omega) only [wrapI]; omega)), (by first | omega | (simp (disch := omega) only [wrapI]; omega))⟩ (AllP_cons (by first | omega | (simp (disch := omega) only [wrapI]; omega)) (AllP_cons ⟨(by first | omega | (simp (disch := omega) only [wrapI]; omega)), (by first | omega | (simp (disch := omega) only [wrapI]; omega))⟩ (AllP_cons (decide_eq_true (by omega)) (AllP_nil))))))))))
  rw [e0, e1, e2, e3, e4] at h
  exact h

set_option maxHeartbeats 1000000 in
theorem mlA_last (n : Nat) (nm : Nat) (K : List Int) (m : Nat) (mm : Nat) (e : List Int) (cap0 : Nat) (cap1 : Nat) (h0 : (nm = (n * (32 : Nat)))) (h1 : (mm = (m * (32 : Nat)))) (h2 : (n ≤ (4398046510976 : Nat))) (h3 : (m ≤ (4398046510976 : Nat))) (h4 : (Byt K)) (h5 : (Byt e)) (hc0 : n ≤ cap0) (hc1 : m ≤ cap1) (hl0_0 : List.length K = nm) (hl1_0 : List.length e = mm) (w : World) (β : Env) (s : Unit) : Run Try.prog ⟨w, [], 2, β⟩ (loopB Try.f6 0) (mlA_mk n nm K m mm e cap0 cap1 (min n m) s) (To ⟨w, [], 2, β⟩ (.exit 0) (mlA_mk n nm K m mm e cap0 cap1 (min n m) s)) :=
  Run.of_outT (B := ⟨w, [], 2, β⟩) (Λ := noLam) (Ψ := noPsi) (fuel := 0) (ora := [false]) (l := [.forget [0, 1, 4, 5, 6, 7, 8, 9, 10, 11, 18, 19, 20, 21, 22, 23, 24, 25] 5]) mix tabOkVZ gam70_ok
    (vc := [((decide ((((min n m) : Nat) : Int) < (((min n m) : Nat) : Int))) = false)]) (by kernel_rfl)
    (AllP_cons (decide_eq_false (by omega)) (AllP_nil))

theorem mlA_loop (n : Nat) (nm : Nat) (K : List Int) (m : Nat) (mm : Nat) (e : List Int) (cap0 : Nat) (cap1 : Nat) (h0 : (nm = (n * (32 : Nat)))) (h1 : (mm = (m * (32 : Nat)))) (h2 : (n ≤ (4398046510976 : Nat))) (h3 : (m ≤ (4398046510976 : Nat))) (h4 : (Byt K)) (h5 : (Byt e)) (hc0 : n ≤ cap0) (hc1 : m ≤ cap1) (hl0_0 : List.length K = nm) (hl1_0 : List.length e = mm) (w : World) (β : Env) (s : Unit) : Run Try.prog ⟨w, [], 2, β⟩ (.block 0 (.loop (loopB Try.f6 0))) (mlA_mk n nm K m mm e cap0 cap1 0 s) (To ⟨w, [], 2, β⟩ .normal (mlA_mk n nm K m mm e cap0 cap1 (min n m) (iter (mlA_step) (min n m) s))) :=
  Run.count (fun k => mlA_mk n nm K m mm e cap0 cap1 k (iter (mlA_step) k s)) (min n m) (fun k hk => mlA_round n nm K m mm e cap0 cap1 h0 h1 h2 h3 h4 h5 hc0 hc1 hl0_0 hl1_0 w β k hk _) (ex := (.exit 0)) (by simp) (mlA_last n nm K m mm e cap0 cap1 h0 h1 h2 h3 h4 h5 hc0 hc1 hl0_0 hl1_0 w β _)

def mlB_mk (n : Nat) (nm : Nat) (K : List Int) (m : Nat) (mm : Nat) (e : List Int) (cap0 : Nat) (cap1 : Nat) (k : Nat) (s : Unit) : St := ⟨sparse 114 [(0, .o (.a (.sl 0 (0 : Nat) n cap0))), (1, .o (.a (.sl 1 (0 : Nat) m cap1))), (4, .o (.a (.b false))), (5, .o (.a (.i .i64 (((min n m) : Nat) : Int)))), (6, .o (.a (.rs 3 (0 : Nat) (min n m) 32))), (7, .o (.a (.rs 5 (0 : Nat) k 32))), (8, .o (.a (.rs 4 (0 : Nat) (min n m) 32))), (9, .o (.a (.rs 6 (0 : Nat) k 32))), (10, .o (.a (.p 2 0))), (11, .o (.a (.i .i64 (((min n m) : Nat) : Int)))), (13, .o (.a (.i .i64 (((((min n m) : Nat) : Int) - (1 : Int)) - ((k : Nat) : Int))))), (18, .o (.a (.b true))), (19, .o (.a (.b false))), (20, .o (.a (.sl 0 (0 : Nat) n cap0))), (21, .o (.a (.i .i64 ((n : Nat) : Int)))), (22, .o (.a (.sl 1 (0 : Nat) m cap1))), (23, .o (.a (.i .i64 ((m : Nat) : Int)))), (24, .o (.a (.i .i64 (if ((m : Nat) : Int) < ((n : Nat) : Int) then ((m : Nat) : Int) else ((n : Nat) : Int))))), (25, .o (.g [.ints .u8 (32 : Nat) (apId)])), (55, .o (.a (.i .i64 (((min n m) : Nat) : Int)))), (56, .o (.a (.i .i64 (IntKind.i64.wrap ((((min n m) : Nat) : Int) - (1 : Int))))))], [some ⟨false, [.ints .u8 nm K]⟩, some ⟨false, [.ints .u8 mm e]⟩, some ⟨true, [.ints .u8 (32 : Nat) (sumS K e (min n m))]⟩, some ⟨true, [.ints .u8 ((min n m) * (32 : Nat)) (kS K (min n m))]⟩, some ⟨true, [.ints .u8 ((min n m) * (32 : Nat)) (eS e (min n m))]⟩, some ⟨true, [.ints .u8 (k * (32 : Nat)) (rkS K (min n m) k)]⟩, some ⟨true, [.ints .u8 (k * (32 : Nat)) (reS e (min n m) k)]⟩]⟩

def mlB_step (k : Nat) (s : Unit) : Unit :=
  ()

set_option maxHeartbeats 1000000 in
theorem mlB_round (n : Nat) (nm : Nat) (K : List Int) (m : Nat) (mm : Nat) (e : List Int) (cap0 : Nat) (cap1 : Nat) (h0 : (nm = (n * (32 : Nat)))) (h1 : (mm = (m * (32 : Nat)))) (h2 : (n ≤ (4398046510976 : Nat))) (h3 : (m ≤ (4398046510976 : Nat))) (h4 : (Byt K)) (h5 : (Byt e)) (hc0 : n ≤ cap0) (hc1 : m ≤ cap1) (hl0_0 : List.length K = nm) (hl1_0 : List.length e = mm) (w : World) (β : Env) (k : Nat) (hk : k < (min n m)) (s : Unit) : Run Try.prog ⟨w, [], 2, β⟩ (loopB Try.f6 2) (mlB_mk n nm K m mm e cap0 cap1 k s) (To ⟨w, [], 2, β⟩ .normal (mlB_mk n nm K m mm e cap0 cap1 (k + 1) (mlB_step k s))) := by
  have e0 : ((sub (rkS K (min n m) k) (0 : Nat) (k * (32 : Nat))) ++ (sub (sub (kS K (min n m)) ((Int.toNat (((((min n m) : Nat) : Int) - (1 : Int)) - ((k : Nat) : Int))) * (32 : Nat)) (32 : Nat)) (0 : Nat) (32 : Nat))) = (rkS K (min n m) (k + (1 : Nat))) := (by first | exact wrap_succ (by omega) | omega | (simp (disch := omega) only [wrapI]; omega) | exact rkS_step h4 (hl0_0.trans h0) (by omega) (by omega) | exact reS_step h5 (hl1_0.trans h1) (by omega) (by omega) | rfl)
  have e1 : ((sub (reS e (min n m) k) (0 : Nat) (k * (32 : Nat))) ++ (sub (sub (eS e (min n m)) ((Int.toNat (((((min n m) : Nat) : Int) - (1 : Int)) - ((k : Nat) : Int))) * (32 : Nat)) (32 : Nat)) (0 : Nat) (32 : Nat))) = (reS e (min n m) (k + (1 : Nat))) := (by first | exact wrap_succ (by omega) | omega | (simp (disch := omega) only [wrapI]; omega) | exact rkS_step h4 (hl0_0.trans h0) (by omega) (by omega) | exact reS_step h5 (hl1_0.trans h1) (by omega) (by omega) | rfl)
  have e2 : (IntKind.i64.wrap ((((((min n m) : Nat) : Int) - (1 : Int)) - ((k : Nat) : Int)) - (1 : Int))) = (((((min n m) : Nat) : Int) - (1 : Int)) - (((k + (1 : Nat)) : Nat) : Int)) := (by first | exact wrap_succ (by omega) | omega | (simp (disch := omega) only [wrapI]; omega) | exact rkS_step h4 (hl0_0.trans h0) (by omega) (by omega) | exact reS_step h5 (hl1_0.trans h1) (by omega) (by omega) | rfl)
  have e3 : ((k * (32 : Nat)) + (32 : Nat)) = ((k + (1 : Nat)) * (32 : Nat)) := (by first | exact wrap_succ (by omega) | omega | (simp (disch := omega) only [wrapI]; omega) | exact rkS_step h4 (hl0_0.trans h0) (by omega) (by omega) | exact reS_step h5 (hl1_0.trans h1) (by omega) (by omega) | rfl)
  have h := Run.of_outT (B := ⟨w, [], 2, β⟩) (Λ := noLam) (Ψ := noPsi) (fuel := 0) (ora := [true, false, false]) (c := (loopB Try.f6 2)) (st := (mlB_mk n nm K m mm e cap0 cap1 k s)) (l := [.swap 8 5, .swap 10 6, .forget [0, 1, 4, 5, 6, 7, 8, 9, 10, 11, 13, 18, 19, 20, 21, 22, 23, 24, 25, 55, 56] 7]) (s' := ⟨sparse 114 [(0, .o (.a (.sl 0 (0 : Nat) n cap0))), (1, .o (.a (.sl 1 (0 : Nat) m cap1))), (4, .o (.a (.b false))), (5, .o (.a (.i .i64 (((min n m) : Nat) : Int)))), (6, .o (.a (.rs 3 (0 : Nat) (min n m) 32))), (7, .o (.a (.rs 5 (0 : Nat) (k + (1 : Nat)) 32))), (8, .o (.a (.rs 4 (0 : Nat) (min n m) 32))), (9, .o (.a (.rs 6 (0 : Nat) (k + (1 : Nat)) 32))), (10, .o (.a (.p 2 0))), (11, .o (.a (.i .i64 (((min n m) : Nat) : Int)))), (13, .o (.a (.i .i64 (IntKind.i64.wrap ((((((min n m) : Nat) : Int) - (1 : Int)) - ((k : Nat) : Int)) - (1 : Int)))))), (18, .o (.a (.b true))), (19, .o (.a (.b false))), (20, .o (.a (.sl 0 (0 : Nat) n cap0))), (21, .o (.a (.i .i64 ((n : Nat) : Int)))), (22, .o (.a (.sl 1 (0 : Nat) m cap1))), (23, .o (.a (.i .i64 ((m : Nat) : Int)))), (24, .o (.a (.i .i64 (if ((m : Nat) : Int) < ((n : Nat) : Int) then ((m : Nat) : Int) else ((n : Nat) : Int))))), (25, .o (.g [.ints .u8 (32 : Nat) (apId)])), (55, .o (.a (.i .i64 (((min n m) : Nat) : Int)))), (56, .o (.a (.i .i64 (IntKind.i64.wrap ((((min n m) : Nat) : Int) - (1 : Int))))))], [some ⟨false, [.ints .u8 nm K]⟩, some ⟨false, [.ints .u8 mm e]⟩, some ⟨true, [.ints .u8 (32 : Nat) (sumS K e (min n m))]⟩, some ⟨true, [.ints .u8 ((min n m) * (32 : Nat)) (kS K (min n m))]⟩, some ⟨true, [.ints .u8 ((min n m) * (32 : Nat)) (eS e (min n m))]⟩, some ⟨true, [.ints .u8 ((k * (32 : Nat)) + (32 : Nat)) ((sub (rkS K (min n m) k) (0 : Nat) (k * (32 : Nat))) ++ (sub (sub (kS K (min n m)) ((Int.toNat (((((min n m) : Nat) : Int) - (1 : Int)) - ((k : Nat) : Int))) * (32 : Nat)) (32 : Nat)) (0 : Nat) (32 : Nat)))]⟩, some ⟨true, [.ints .u8 ((k * (32 : Nat)) + (32 : Nat)) ((sub (reS e (min n m) k) (0 : Nat) (k * (32 : Nat))) ++ (sub (sub (eS e (min n m)) ((Int.toNat (((((min n m) : Nat) : Int) - (1 : Int)) - ((k : Nat) : Int))) * (32 : Nat)) (32 : Nat)) (0 : Nat) (32 : Nat)))]⟩]⟩) (ex := .normal) mix tabOkVZ gam70_ok
    (vc := [((((0 : Nat) + (k * (32 : Nat))) ≤ (k * (32 : Nat))) ∧ (((1 : Nat) ≤ (1 : Nat)) ∧ ((32 : Nat) ≤ (32 : Nat))) ∧ (((k + (1 : Nat)) * (32 : Nat)) ≤ (140737488355328 : Nat))), ((((Int.toNat (((((min n m) : Nat) : Int) - (1 : Int)) - ((k : Nat) : Int))) * (32 : Nat)) + (32 : Nat)) ≤ ((min n m) * (32 : Nat))), (((0 : Int) ≤ (((((min n m) : Nat) : Int) - (1 : Int)) - ((k : Nat) : Int))) ∧ ((((((min n m) : Nat) : Int) - (1 : Int)) - ((k : Nat) : Int)) < (((min n m) : Nat) : Int))), ((((0 : Nat) + (k * (32 : Nat))) ≤ (k * (32 : Nat))) ∧ (((1 : Nat) ≤ (1 : Nat)) ∧ ((32 : Nat) ≤ (32 : Nat))) ∧ (((k + (1 : Nat)) * (32 : Nat)) ≤ (140737488355328 : Nat))), ((((Int.toNat (((((min n m) : Nat) : Int) - (1 : Int)) - ((k : Nat) : Int))) * (32 : Nat)) + (32 : Nat)) ≤ ((min n m) * (32 : Nat))), (((0 : Int) ≤ (((((min n m) : Nat) : Int) - (1 : Int)) - ((k : Nat) : Int))) ∧ ((((((min n m) : Nat) : Int) - (1 : Int)) - ((k : Nat) : Int)) < (((min n m) : Nat) : Int))), ((decide ((((((min n m) : Nat) : Int) - (1 : Int)) - ((k : Nat) : Int)) ≥ (0 : Int))) = true)]) (by kernel_rfl)
    (AllP_cons ⟨(by first | omega | (simp (disch := omega) only [wrapI]; omega)), ⟨(by decide), (by decide)⟩, (by first | omega | (simp (disch := omega) only [wrapI]; omega))⟩ (AllP_cons (by first | omega | (simp (disch := omega) only [wrapI]; omega)) (AllP_cons ⟨(by first | omega | (simp (disch := omega) only [wrapI]; omega)), (by first | omega | (simp (disch := omega) only [wrapI]; omega))⟩ (AllP_cons ⟨(by first | omega | (simp (disch := omega) only [wrapI]; omega)), ⟨(by decide), (by decide)⟩, (by first | omega | (simp (disch := omega) only [wrapI]; omega))⟩ (AllP_cons (by first | omega | (simp (disch := omega) only [wrapI]; omega)) (AllP_cons ⟨(by first | omega | (simp (disch := omega) only [wrapI]; omega)), (by first | omega | (simp (disch := omega) only [wrapI]; omega))⟩ (AllP_cons (decide_eq_true (by omega)) (AllP_nil))))))))
  rw [e0, e1, e2, e3] at h
  exact h

set_option maxHeartbeats 1000000 in
theorem mlB_last (n : Nat) (nm : Nat) (K : List Int) (m : Nat) (mm : Nat) (e : List Int) (cap0 : Nat) (cap1 : Nat) (h0 : (nm = (n * (32 : Nat)))) (h1 : (mm = (m * (32 : Nat)))) (h2 : (n ≤ (4398046510976 : Nat))) (h3 : (m ≤ (4398046510976 : Nat))) (h4 : (Byt K)) (h5 : (Byt e)) (hc0 : n ≤ cap0) (hc1 : m ≤ cap1) (hl0_0 : List.length K = nm) (hl1_0 : List.length e = mm) (w : World) (β : Env) (s : Unit) : Run Try.prog ⟨w, [], 2, β⟩ (loopB Try.f6 2) (mlB_mk n nm K m mm e cap0 cap1 (min n m) s) (To ⟨w, [], 2, β⟩ (.exit 2) (mlB_mk n nm K m mm e cap0 cap1 (min n m) s)) :=
  Run.of_outT (B := ⟨w, [], 2, β⟩) (Λ := noLam) (Ψ := noPsi) (fuel := 0) (ora := [false]) (l := [.forget [0, 1, 4, 5, 6, 7, 8, 9, 10, 11, 13, 18, 19, 20, 21, 22, 23, 24, 25, 55, 56] 7]) mix tabOkVZ gam70_ok
    (vc := [((decide ((((((min n m) : Nat) : Int) - (1 : Int)) - (((min n m) : Nat) : Int)) ≥ (0 : Int))) = false)]) (by kernel_rfl)
    (AllP_cons (decide_eq_false (by omega)) (AllP_nil))

theorem mlB_loop (n : Nat) (nm : Nat) (K : List Int) (m : Nat) (mm : Nat) (e : List Int) (cap0 : Nat) (cap1 : Nat) (h0 : (nm = (n * (32 : Nat)))) (h1 : (mm = (m * (32 : Nat)))) (h2 : (n ≤ (4398046510976 : Nat))) (h3 : (m ≤ (4398046510976 : Nat))) (h4 : (Byt K)) (h5 : (Byt e)) (hc0 : n ≤ cap0) (hc1 : m ≤ cap1) (hl0_0 : List.length K = nm) (hl1_0 : List.length e = mm) (w : World) (β : Env) (s : Unit) : Run Try.prog ⟨w, [], 2, β⟩ (.block 2 (.loop (loopB Try.f6 2))) (mlB_mk n nm K m mm e cap0 cap1 0 s) (To ⟨w, [], 2, β⟩ .normal (mlB_mk n nm K m mm e cap0 cap1 (min n m) (iter (mlB_step) (min n m) s))) :=
  Run.count (fun k => mlB_mk n nm K m mm e cap0 cap1 k (iter (mlB_step) k s)) (min n m) (fun k hk => mlB_round n nm K m mm e cap0 cap1 h0 h1 h2 h3 h4 h5 hc0 hc1 hl0_0 hl1_0 w β k hk _) (ex := (.exit 2)) (by simp) (mlB_last n nm K m mm e cap0 cap1 h0 h1 h2 h3 h4 h5 hc0 hc1 hl0_0 hl1_0 w β _)

set_option maxHeartbeats 1000000 in
theorem multi_body0 (n : Nat) (nm : Nat) (K : List Int) (m : Nat) (mm : Nat) (e : List Int) (cap0 : Nat) (cap1 : Nat) (h0 : (nm = (n * (32 : Nat)))) (h1 : (mm = (m * (32 : Nat)))) (h2 : (n ≤ (4398046510976 : Nat))) (h3 : (m ≤ (4398046510976 : Nat))) (h4 : (Byt K)) (h5 : (Byt e)) (hc0 : n ≤ cap0) (hc1 : m ≤ cap1) (hl0_0 : List.length K = nm) (hl1_0 : List.length e = mm) (w : World) (β : Env) : Body Try.prog (tabOf tabVZ) Try.f6 ⟨w, [], 2, β⟩ [.o (.a (.sl 0 (0 : Nat) n cap0)), .o (.a (.sl 1 (0 : Nat) m cap1))] [some ⟨false, [.ints .u8 nm K]⟩, some ⟨false, [.ints .u8 mm e]⟩] (fun ys _ => ys = [.a (.b true)]) :=
  Body.of_fin (Γ := gam70) (Λ := lamOf [(0, ⟨[.rowS 6 .u8 32, .rowS 8 .u8 32, .eqB 2 (⟨true, [.ints .u8 (32 : Nat) (sumS K e (0 : Nat))]⟩), .forget [0, 1, 4, 5, 6, 7, 8, 9, 10, 11, 18, 19, 20, 21, 22, 23, 24, 25] 5], .normal, (mlA_mk n nm K m mm e cap0 cap1 (min n m) (iter (mlA_step) (min n m) ()))⟩), (2, ⟨[.rowS 7 .u8 32, .rowS 9 .u8 32, .eqS 13 (.o (.a (.i .i64 (((((min n m) : Nat) : Int) - (1 : Int)) - (0 : Int))))), .forget [0, 1, 4, 5, 6, 7, 8, 9, 10, 11, 13, 18, 19, 20, 21, 22, 23, 24, 25, 55, 56] 7], .normal, (mlB_mk n nm K m mm e cap0 cap1 (min n m) (iter (mlB_step) (min n m) ()))⟩)]) (Ψ := psiOf [(3, [.eqS 5 (.o (.a (.i .i64 (((min n m) : Nat) : Int))))])]) (fuel := 0) (m := 114) (c := (Try.f6.body.getD .skip)) mix tabOkVZ gam70_ok rfl (rs := [.tmp 4]) rfl rfl [false, true, true, false, true, true, true, false, true, true, true, false, false, false] [.eqS 4 (.o (.a (.b true)))]
    (vc := [((.o (.a (.b ((apMulti_1 ((min n m) + (1 : Nat)) (min n m)) == (8 : Int)))) : AV) = .o (.a (.b true))), (((((0 : Nat) + (((min n m) + (1 : Nat)) * (32 : Nat))) ≤ (((min n m) * (32 : Nat)) + (32 : Nat))) ∧ ((((0 : Nat) + ((min n m) * (32 : Nat))) ≤ ((min n m) * (32 : Nat))) ∧ True)) ∧ (((((min n m) + (1 : Nat)) * (32 : Nat)) = (((min n m) + (1 : Nat)) * (32 : Nat))) ∧ (((min n m) * (32 : Nat)) = ((min n m) * (32 : Nat))) ∧ (PtsIf ((min n m) + (1 : Nat)) (min n m) (sub (eS e (min n m)) (0 : Nat) ((min n m) * (32 : Nat)))) ∧ ((min n m) ≤ (4398046510976 : Nat)))), ((((0 : Nat) + ((min n m) * (32 : Nat))) ≤ ((min n m) * (32 : Nat))) ∧ (((1 : Nat) ≤ (1 : Nat)) ∧ ((32 : Nat) ≤ (32 : Nat))) ∧ ((((min n m) + (1 : Nat)) * (32 : Nat)) ≤ (140737488355328 : Nat))), ((!(decide ((apMulti (min n m) (sub (rkS K (min n m) (min n m)) (0 : Nat) ((min n m) * (32 : Nat))) (min n m) (sub (reS e (min n m) (min n m)) (0 : Nat) ((min n m) * (32 : Nat)))) = (sumS K e (min n m))))) = false), ((!(decide ((apMulti (min n m) (sub (kS K (min n m)) (0 : Nat) ((min n m) * (32 : Nat))) (min n m) (sub (eS e (min n m)) (0 : Nat) ((min n m) * (32 : Nat)))) = (sumS K e (min n m))))) = false), ((!(decide ((apMulti (min n m) (sub (kS K (min n m)) (0 : Nat) ((min n m) * (32 : Nat))) (min n m) (sub (eS e (min n m)) (0 : Nat) ((min n m) * (32 : Nat)))) = (sumS K e (min n m))))) = false), ((!(decide ((apMulti (min n m) (sub (kS K (min n m)) (0 : Nat) ((min n m) * (32 : Nat))) (min n m) (sub (eS e (min n m)) (0 : Nat) ((min n m) * (32 : Nat)))) = (sumS K e (min n m))))) = false), ((!(decide ((apMulti (min n m) (sub (kS K (min n m)) (0 : Nat) ((min n m) * (32 : Nat))) (min n m) (sub (eS e (min n m)) (0 : Nat) ((min n m) * (32 : Nat)))) = (sumS K e (min n m))))) = false), (((apMulti_1 (min n m) (min n m)) != (0 : Int)) = false), (((apMulti_1 (min n m) (min n m)) != (0 : Int)) = false), (((apMulti_1 (min n m) (min n m)) != (0 : Int)) = false), (((apMulti_1 (min n m) (min n m)) != (0 : Int)) = false), (((apMulti_1 (min n m) (min n m)) != (0 : Int)) = false), (((apMulti_1 (min n m) (min n m)) != (0 : Int)) = false), (((apMulti_1 (min n m) (min n m)) != (0 : Int)) = false), (((((0 : Nat) + ((min n m) * (32 : Nat))) ≤ ((min n m) * (32 : Nat))) ∧ ((((0 : Nat) + ((min n m) * (32 : Nat))) ≤ ((min n m) * (32 : Nat))) ∧ True)) ∧ ((((min n m) * (32 : Nat)) = ((min n m) * (32 : Nat))) ∧ (((min n m) * (32 : Nat)) = ((min n m) * (32 : Nat))) ∧ (PtsIf (min n m) (min n m) (sub (reS e (min n m) (min n m)) (0 : Nat) ((min n m) * (32 : Nat)))) ∧ ((min n m) ≤ (4398046510976 : Nat)))), (((((0 : Nat) + ((min n m) * (32 : Nat))) ≤ ((min n m) * (32 : Nat))) ∧ ((((0 : Nat) + ((min n m) * (32 : Nat))) ≤ ((min n m) * (32 : Nat))) ∧ True)) ∧ ((((min n m) * (32 : Nat)) = ((min n m) * (32 : Nat))) ∧ (((min n m) * (32 : Nat)) = ((min n m) * (32 : Nat))) ∧ (PtsIf (min n m) (min n m) (sub (eS e (min n m)) (0 : Nat) ((min n m) * (32 : Nat)))) ∧ ((min n m) ≤ (4398046510976 : Nat)))), (Run Try.prog ⟨w, [], 2, β⟩ (.block 2 (.loop (loopB Try.f6 2))) (mlB_mk n nm K m mm e cap0 cap1 0 ()) (To ⟨w, [], 2, β⟩ .normal (mlB_mk n nm K m mm e cap0 cap1 (min n m) (iter (mlB_step) (min n m) ())))), ((.o (.a (.i .i64 (IntKind.i64.wrap ((((min n m) : Nat) : Int) - (1 : Int))))) : AV) = .o (.a (.i .i64 (((((min n m) : Nat) : Int) - (1 : Int)) - (0 : Int))))), (Run Try.prog ⟨w, [], 2, β⟩ (.block 0 (.loop (loopB Try.f6 0))) (mlA_mk n nm K m mm e cap0 cap1 0 ()) (To ⟨w, [], 2, β⟩ .normal (mlA_mk n nm K m mm e cap0 cap1 (min n m) (iter (mlA_step) (min n m) ())))), ((some ⟨true, [.ints .u8 (32 : Nat) (apId)]⟩ : Option Blk) = some ⟨true, [.ints .u8 (32 : Nat) (sumS K e (0 : Nat))]⟩), ((.o (.a (.i .i64 (if ((m : Nat) : Int) < ((n : Nat) : Int) then ((m : Nat) : Int) else ((n : Nat) : Int)))) : AV) = .o (.a (.i .i64 (((min n m) : Nat) : Int)))), (false = false)]) (by kernel_rfl)
    (AllP_cons ((congrArg (fun z => AV.o (.a (.b z))) (beq_iff_eq.2 (multi_code1 _)))) (AllP_cons ⟨⟨(by first | omega | (simp (disch := omega) only [wrapI]; omega)), ⟨(by first | omega | (simp (disch := omega) only [wrapI]; omega)), trivial⟩⟩, ⟨rfl, rfl, pts_ne, (by first | omega | (simp (disch := omega) only [wrapI]; omega))⟩⟩ (AllP_cons ⟨(by first | omega | (simp (disch := omega) only [wrapI]; omega)), ⟨(by decide), (by decide)⟩, (by first | omega | (simp (disch := omega) only [wrapI]; omega))⟩ (AllP_cons (not_dec (ml_rsum h4 (hl0_0.trans h0) h5 (hl1_0.trans h1) (N := min n m) (by omega) (by omega))) (AllP_cons (not_dec (ml_sum h4 (hl0_0.trans h0) h5 (hl1_0.trans h1) (N := min n m) (by omega) (by omega))) (AllP_cons (not_dec (ml_sum h4 (hl0_0.trans h0) h5 (hl1_0.trans h1) (N := min n m) (by omega) (by omega))) (AllP_cons (not_dec (ml_sum h4 (hl0_0.trans h0) h5 (hl1_0.trans h1) (N := min n m) (by omega) (by omega))) (AllP_cons (not_dec (ml_sum h4 (hl0_0.trans h0) h5 (hl1_0.trans h1) (N := min n m) (by omega) (by omega))) (AllP_cons (bne_eq_false_iff_eq.2 (multi_code _)) (AllP_cons (bne_eq_false_iff_eq.2 (multi_code _)) (AllP_cons (bne_eq_false_iff_eq.2 (multi_code _)) (AllP_cons (bne_eq_false_iff_eq.2 (multi_code _)) (AllP_cons (bne_eq_false_iff_eq.2 (multi_code _)) (AllP_cons (bne_eq_false_iff_eq.2 (multi_code _)) (AllP_cons (bne_eq_false_iff_eq.2 (multi_code _)) (AllP_cons ⟨⟨(by first | omega | (simp (disch := omega) only [wrapI]; omega)), ⟨(by first | omega | (simp (disch := omega) only [wrapI]; omega)), trivial⟩⟩, ⟨rfl, rfl, (pts_if (ml_re h5 (hl1_0.trans h1) (N := min n m) (by omega))), (by first | omega | (simp (disch := omega) only [wrapI]; omega))⟩⟩ (AllP_cons ⟨⟨(by first | omega | (simp (disch := omega) only [wrapI]; omega)), ⟨(by first | omega | (simp (disch := omega) only [wrapI]; omega)), trivial⟩⟩, ⟨rfl, rfl, (pts_if (ml_e h5 (hl1_0.trans h1) (N := min n m) (by omega))), (by first | omega | (simp (disch := omega) only [wrapI]; omega))⟩⟩ (AllP_cons (mlB_loop n nm K m mm e cap0 cap1 h0 h1 h2 h3 h4 h5 hc0 hc1 hl0_0 hl1_0 w β ()) (AllP_cons ((congrArg (fun z => AV.o (.a (.i .i64 z))) (by first | omega | (simp (disch := omega) only [wrapI]; omega)))) (AllP_cons (mlA_loop n nm K m mm e cap0 cap1 h0 h1 h2 h3 h4 h5 hc0 hc1 hl0_0 hl1_0 w β ()) (AllP_cons ((by rfl)) (AllP_cons ((congrArg (fun z => AV.o (.a (.i .i64 z))) (by omega))) (AllP_cons rfl (AllP_nil))))))))))))))))))))))))

theorem multi_body (n : Nat) (nm : Nat) (K : List Int) (m : Nat) (mm : Nat) (e : List Int) (cap0 : Nat) (cap1 : Nat) (h0 : (nm = (n * (32 : Nat)))) (h1 : (mm = (m * (32 : Nat)))) (h2 : (n ≤ (4398046510976 : Nat))) (h3 : (m ≤ (4398046510976 : Nat))) (h4 : (Byt K)) (h5 : (Byt e)) (w : World) (β : Env) : Body Try.prog (tabOf tabVZ) Try.f6 ⟨w, [], 2, β⟩ [.o (.a (.sl 0 (0 : Nat) n cap0)), .o (.a (.sl 1 (0 : Nat) m cap1))] [some ⟨false, [.ints .u8 nm K]⟩, some ⟨false, [.ints .u8 mm e]⟩] (fun ys _ => ys = [.a (.b true)]) :=
  Body.lens (c := (Try.f6.body.getD .skip)) rfl fun h => multi_body0 n nm K m mm e cap0 cap1 h0 h1 h2 h3 h4 h5 (h.caps 0 _ _ _ _ rfl) (h.caps 1 _ _ _ _ rfl) (h.lens 0 _ .u8 nm K rfl (by simp)) (h.lens 1 _ .u8 mm e rfl (by simp)) w β

end Go.Proofs.Ytodiojpakfjehaa.X

/- The core, part 5 of 5: blocks of memory known by number, and an evaluator over loaded code, shown sound. -/
/- Rows: a law that answers true and leaves what was there as it was: from its body to its post; arguments opened. -/
namespace Go.Proofs.Ytodiojpakfjehaa.R
open Go Go.Proofs Go.ChangeShapes Go.WideShapes Go.ChangeAt Go.RowKit Go.Proofs.Ytodiojpakfjehaa.X
set_option linter.unusedVariables false

theorem below {W W' : World} (g : Grow W W') : Below W.heap.size W W' := ⟨g.os, g.tape, g.output, g.size, g.old⟩

section post
variable {H : Type} {enc : TypeId × Value → H} {P : Program}

/-- types that read again -/
def Reads (P : Program) (ts : List TypeId) : Bool := laidOutB P && ts.all fun t => P.readableRec t && decide (t < P.types.size)

theorem trodAll_grow (hl : laidOutB P = true) {W W' : World} (g : Grow W W') {sp : Nat → Bool} : ∀ {ts : List TypeId} {vs : List Value} {ds : List (DataW H)} {ps : List MemPlace}, (ts.all fun t => P.readableRec t && decide (t < P.types.size)) = true →
    DataW.TrodAll enc P W 0 (fun _ => true) true ts vs ds ps → (∀ p ∈ ps, p.block < W.heap.size) → (∀ p ∈ ps, sp p.block = true) → DataW.TrodAll enc P W' 0 sp true ts vs ds ps
  | [], [], [], ps, _, h, _, _ => h
  | [], _ :: _, _, _, _, h, _, _ => h.elim
  | [], [], _ :: _, _, _, h, _, _ => h.elim
  | _ :: _, [], _, _, _, h, _, _ => h.elim
  | _ :: _, _ :: _, [], _, _, h, _, _ => h.elim
  | t :: ts, v :: vs, d :: ds, ps, ht, h, hlt, hsp => by
    obtain ⟨p, q, hd, hr, rfl⟩ := h
    simp only [List.all_cons, Bool.and_eq_true, decide_eq_true_eq] at ht
    exact ⟨p, q, WideElems.Trod_stays hl ht.1.1 ht.1.2 hd (fun x hx => (below g).same (hlt x (by simp [hx]))) (fun x hx => hsp x (by simp [hx])),
      trodAll_grow hl g ht.2 hr (fun x hx => hlt x (by simp [hx])) (fun x hx => hsp x (by simp [hx])), rfl⟩

theorem post_true {f : Func} {s : ChangeSpec} {W W' : World} {args : Array Value} {ds : List (DataW H)} {before : List MemPlace} {tb : TypeId}
    (hreads : Reads P f.params.toList = true) (hvars : s.vars = []) (hfn : s.fn H ds = { results := [.lit (.bool true)], args := ds }) (hrt : f.resultTypes = #[tb]) (htb : P.underlying tb = some .bool)
    (hW : DataW.Whole enc P f.params.toList s.vars false W args.toList ds [] before) (g : Grow W W') : s.post enc P f false true false false W args (.bool true) W' := by
  unfold Reads at hreads
  rw [Bool.and_eq_true] at hreads
  have hW0 := hW
  obtain ⟨p, q, hA, hV, rfl, hfz, hnd⟩ := hW
  rw [hvars] at hV
  obtain ⟨_, rfl⟩ := trodVars_none hV
  have hlt : ∀ x ∈ p ++ [], x.block < W.heap.size := fun x hx => by simpa using hW0.lt x hx
  have hfn' : s.fn H (ds ++ []) = { results := [.lit (.bool true)], args := ds } := by rw [List.append_nil]; exact hfn
  refine ⟨ds, [], p ++ [], [], p ++ [], [], hW0, ?_, ?_, ?_, (below g).frame _, fun h => by cases h⟩
  · rw [hfn', hrt]; exact trodAll_cons_mk (shut_bool htb _) trodAll_mk0
  · rw [hfn']
    rw [List.append_nil] at hlt ⊢
    exact trodAll_grow hreads.1 g hreads.2 hA hlt (fun x hx => by simpa using hlt x hx)
  · rw [hfn', hvars]; exact rfl
end post

/-- what a list of arguments is, abstractly, with blocks from the i-th on -/
def Opened (W : World) (i : Nat) (vs : List Value) (avs : List AV) (K : Know) : Prop :=
  ∃ ρ : List (Option Ref), ρ.length = K.length ∧ ∀ β : Env, (∀ j, j < ρ.length → β (i + j) = (ρ[j]?).join) →
    (∀ j b, K.at j = some b → b.own = false ∧ b.holds β W (i + j) ∧ ∀ r, β (i + j) = some r → r.blk < W.heap.size) ∧ allC β avs vs

theorem Opened.nil {W : World} {i : Nat} : Opened W i [] [] [] := ⟨[], rfl, fun β _ => ⟨fun j b h => by simp [Know.at] at h, rfl⟩⟩

theorem allC_app {β : Env} : ∀ {a b : List AV} {x y : List Value}, allC β a x → allC β b y → allC β (a ++ b) (x ++ y)
  | [], _, _, _, h, h' => by cases h; exact h'
  | _ :: _, _, _, _, ⟨v, r, hv, hc, hr⟩, h' => by subst hv; exact ⟨v, _, rfl, hc, allC_app hr h'⟩

theorem Opened.app {W : World} {i : Nat} {vs vs' : List Value} {avs avs' : List AV} {K K' : Know} (h : Opened W i vs avs K) (h' : Opened W (i + K.length) vs' avs' K') : Opened W i (vs ++ vs') (avs ++ avs') (K ++ K') := by
  obtain ⟨ρ, hl, hρ⟩ := h
  obtain ⟨ρ', hl', hρ'⟩ := h'
  refine ⟨ρ ++ ρ', by simp [hl, hl'], fun β hβ => ?_⟩
  obtain ⟨h1, h2⟩ := hρ β fun j hj => by rw [hβ j (by simp; omega), List.getElem?_append_left hj]
  obtain ⟨h3, h4⟩ := hρ' β fun j hj => by
    rw [Nat.add_assoc, hβ (K.length + j) (by simp; omega), List.getElem?_append_right (by omega)]
    congr 2; omega
  refine ⟨fun j b hb => ?_, allC_app h2 h4⟩
  by_cases hj : j < K.length
  · refine h1 j b ?_
    unfold Know.at at hb ⊢; rwa [List.getElem?_append_left hj] at hb
  · have := h3 (j - K.length) b (by unfold Know.at at hb ⊢; rwa [List.getElem?_append_right (by omega)] at hb)
    rw [show i + K.length + (j - K.length) = i + j from by omega] at this
    exact this

theorem Opened.rel {W : World} {vs : List Value} {avs : List AV} {K : Know} (h : Opened W 0 vs avs K) : ∃ β : Env, RelW W [] β K W ∧ allC β avs vs := by
  obtain ⟨ρ, hl, hρ⟩ := h
  obtain ⟨h1, h2⟩ := hρ (fun j => (ρ[j]?).join) fun j hj => by rw [Nat.zero_add]
  refine ⟨_, RelW.ofRead fun j b hj => ?_, h2⟩
  have := h1 j b hj
  rw [Nat.zero_add] at this; exact this

/-- a value without places -/
theorem Opened.val {W : World} {i : Nat} {v : Value} {x : V1} (h : ∀ β : Env, x.con β v) : Opened W i [v] [.o x] [] :=
  ⟨[], rfl, fun β _ => ⟨fun j b hb => by simp [Know.at] at hb, ⟨v, [], rfl, h β, rfl⟩⟩⟩

/-- a slice of integers -/
theorem Opened.sl {W : World} {i : Nat} {k : IntKind} {a0 : Option Addr} {len cap : Nat} {L : List Int} (hL : L.length = len) (hlc : len ≤ cap)
    (hc : 0 < cap → ∃ b off arr ty fr, a0 = some ⟨b, off, none⟩ ∧ W.heap[b]? = some (.cells arr ty fr) ∧ off + len ≤ arr.size ∧ ∀ i x, L[i]? = some x → arr[off + i]? = some (.int k x)) :
    Opened W i [.slice a0 len cap] [.o (.a (.sl i 0 len cap))] [some ⟨false, [.ints k len L]⟩] := by
  have hbk : ∀ j (bk : Blk), Know.at [some ⟨false, [.ints k len L]⟩] j = some bk → j = 0 ∧ bk = ⟨false, [.ints k len L]⟩ := by
    intro j bk hj
    match j, hj with
    | 0, hj => exact ⟨rfl, (Option.some.inj hj).symm⟩
    | j + 1, hj => simp [Know.at] at hj
  by_cases h0 : 0 < cap
  · obtain ⟨b, off, arr, ty, fr, rfl, hh, hs, hx⟩ := hc h0
    have hlt : b < W.heap.size := (Array.getElem?_eq_some_iff.1 hh).1
    refine ⟨[some ⟨b, off, arr.size⟩], rfl, fun β hβ => ?_⟩
    have hb := hβ 0 (by simp)
    rw [Nat.add_zero] at hb
    have hb : β i = some ⟨b, off, arr.size⟩ := hb
    refine ⟨fun j bk hj => ?_, _, [], rfl, ⟨_, rfl, hlc, fun _ => ⟨_, hb, rfl⟩⟩, rfl⟩
    obtain ⟨rfl, rfl⟩ := hbk j bk hj
    rw [Nat.add_zero]
    refine ⟨rfl, ⟨L.map (Value.int k), ⟨_, [], by simp, ⟨hL, rfl⟩, rfl⟩, .inr ⟨_, arr, ty, fr, hb, hh, rfl, by simp; omega, ?_, fun h => by cases h⟩⟩, fun r hr => by rw [hb] at hr; cases hr; exact hlt⟩
    intro i v hv
    rw [List.getElem?_map, Option.map_eq_some_iff] at hv
    obtain ⟨x, hx', rfl⟩ := hv
    exact hx i x hx'
  · have hn : L = [] := List.length_eq_zero_iff.1 (by omega)
    subst hn
    have hl0 : len = 0 := by omega
    subst hl0
    refine ⟨[none], rfl, fun β hβ => ?_⟩
    have hb : β i = none := hβ 0 (by simp)
    refine ⟨fun j bk hj => ?_, _, [], rfl, ⟨_, rfl, hlc, fun h => absurd h h0⟩, rfl⟩
    obtain ⟨rfl, rfl⟩ := hbk j bk hj
    rw [Nat.add_zero]
    exact ⟨rfl, ⟨[], ⟨[], [], rfl, ⟨rfl, rfl⟩, rfl⟩, .inl ⟨rfl, .inl rfl⟩⟩, fun r hr => by rw [hb] at hr; cases hr⟩

section args
variable {H : Type} {enc : TypeId × Value → H} {P : Program} {W : World} {base : Nat} {sp : Nat → Bool}

end args

/-- a law whose body answers true -/
theorem calls_true {P : Program} {T : Tab} (hT : TabOk P T) {f : FuncId} {fn : Func} (hf : P.funcs[f]? = some fn) {W : World} {vs : List Value} {avs : List AV} {K : Know} (ho : Opened W 0 vs avs K)
    (h : ∀ β : Env, Body P T fn ⟨W, [], K.length, β⟩ avs K fun ys _ => ys = [.a (.b true)]) :
    Calls P f vs.toArray W fun e W' => e = .returned (.bool true) ∧ Grow W W' := by
  obtain ⟨β, hrel, hall⟩ := ho.rel
  refine Calls.mono (calls_of_body hT hf hall hrel (h β)) fun e W' h => ?_
  obtain ⟨xs, K, v, β', hx, rfl, hv, hr, _⟩ := h
  subst hx
  have hv : [v] = [Value.bool true] := hv
  simp only [List.cons.injEq, and_true] at hv
  subst hv
  exact ⟨rfl, hr.toGrow⟩
end Go.Proofs.Ytodiojpakfjehaa.R

/- Arguments that are structs: opened cell by cell. -/
namespace Go.Proofs.Ytodiojpakfjehaa.R
open Go Go.Proofs Go.ChangeShapes Go.WideShapes Go.ChangeAt Go.RowKit Go.Proofs.Ytodiojpakfjehaa.X
set_option linter.unusedVariables false

/-- a row of cells, abstractly, with blocks from the i-th on -/
def OpenC (W : World) (i : Nat) (cs : List Value) (l : List Atom) (K : Know) : Prop :=
  ∃ ρ : List (Option Ref), ρ.length = K.length ∧ ∀ β : Env, (∀ j, j < ρ.length → β (i + j) = (ρ[j]?).join) →
    (∀ j b, K.at j = some b → b.own = false ∧ b.holds β W (i + j) ∧ ∀ r, β (i + j) = some r → r.blk < W.heap.size) ∧ cons β l cs

theorem OpenC.nil {W : World} {i : Nat} : OpenC W i [] [] [] := ⟨[], rfl, fun β _ => ⟨fun j b h => by simp [Know.at] at h, rfl⟩⟩

theorem cons_app {β : Env} : ∀ {a b : List Atom} {x y : List Value}, cons β a x → cons β b y → cons β (a ++ b) (x ++ y)
  | [], _, _, _, h, h' => by cases h; exact h'
  | _ :: _, _, _, _, ⟨v, r, hv, hc, hr⟩, h' => by subst hv; exact ⟨v, _, by rw [List.append_assoc], hc, cons_app hr h'⟩

theorem OpenC.app {W : World} {i : Nat} {vs vs' : List Value} {l l' : List Atom} {K K' : Know} (h : OpenC W i vs l K) (h' : OpenC W (i + K.length) vs' l' K') : OpenC W i (vs ++ vs') (l ++ l') (K ++ K') := by
  obtain ⟨ρ, hl, hρ⟩ := h
  obtain ⟨ρ', hl', hρ'⟩ := h'
  refine ⟨ρ ++ ρ', by simp [hl, hl'], fun β hβ => ?_⟩
  obtain ⟨h1, h2⟩ := hρ β fun j hj => by rw [hβ j (by simp; omega), List.getElem?_append_left hj]
  obtain ⟨h3, h4⟩ := hρ' β fun j hj => by
    rw [Nat.add_assoc, hβ (K.length + j) (by simp; omega), List.getElem?_append_right (by omega)]
    congr 2; omega
  refine ⟨fun j b hb => ?_, cons_app h2 h4⟩
  by_cases hj : j < K.length
  · refine h1 j b ?_
    unfold Know.at at hb ⊢; rwa [List.getElem?_append_left hj] at hb
  · have := h3 (j - K.length) b (by unfold Know.at at hb ⊢; rwa [List.getElem?_append_right (by omega)] at hb)
    rw [show i + K.length + (j - K.length) = i + j from by omega] at this
    exact this

theorem OpenC.agg {W : World} {i : Nat} {cs : Array Value} {l : List Atom} {K : Know} (h : OpenC W i cs.toList l K) : Opened W i [.agg cs] [.o (.g l)] K := by
  obtain ⟨ρ, hl, hρ⟩ := h
  refine ⟨ρ, hl, fun β hβ => ?_⟩
  obtain ⟨h1, h2⟩ := hρ β hβ
  exact ⟨h1, _, [], rfl, ⟨cs.toList, by simp, h2⟩, rfl⟩

theorem OpenC.one {W : World} {i : Nat} {v : Value} {x : Atom} {K : Know} (h : OpenC W i [v] [x] K) : Opened W i [v] [.o (.a x)] K := by
  obtain ⟨ρ, hl, hρ⟩ := h
  refine ⟨ρ, hl, fun β hβ => ?_⟩
  obtain ⟨h1, x, y, h2, h3, h4⟩ := hρ β hβ
  cases h4
  rw [List.append_nil] at h2
  subst h2
  exact ⟨h1, _, [], rfl, h3, rfl⟩

/-- cells without places -/
theorem OpenC.val {W : World} {i : Nat} {vs : List Value} {l : List Atom} (h : ∀ β : Env, cons β l vs) : OpenC W i vs l [] :=
  ⟨[], rfl, fun β _ => ⟨fun j b hb => by simp [Know.at] at hb, h β⟩⟩

section args
variable {H : Type} {enc : TypeId × Value → H} {P : Program} {W : World} {base : Nat} {sp : Nat → Bool}

theorem OpenC.ints {i : Nat} {k : IntKind} {n : Nat} {S : List Int} (h : S.length = n) : OpenC W i (S.map (Value.int k)) [.ints k n S] [] :=
  OpenC.val fun β => ⟨_, [], by simp, ⟨h, rfl⟩, rfl⟩

theorem OpenC.int {i : Nat} {k : IntKind} {n : Int} : OpenC W i [.int k n] [.i k n] [] := OpenC.val fun β => ⟨_, [], by simp, rfl, rfl⟩

end args
end Go.Proofs.Ytodiojpakfjehaa.R

/- Arguments that are slices of whatever: their cells as values. -/
namespace Go.Proofs.Ytodiojpakfjehaa.R
open Go Go.Proofs Go.ChangeShapes Go.WideShapes Go.ChangeAt Go.RowKit Go.Proofs.Ytodiojpakfjehaa.X
set_option linter.unusedVariables false

theorem vals_open {W : World} {i : Nat} {a0 : Option Addr} {len cap N : Nat} {L : List Value} (hL : L.length = N) (hlc : len ≤ cap) (hone : ∀ v ∈ L, v.oneCell' = true) (h0 : cap = 0 → N = 0)
    (hc : 0 < cap → ∃ b off arr ty fr, a0 = some ⟨b, off, none⟩ ∧ W.heap[b]? = some (.cells arr ty fr) ∧ off + N ≤ arr.size ∧ ∀ i x, L[i]? = some x → arr[off + i]? = some x) :
    Opened W i [.slice a0 len cap] [.o (.a (.sl i 0 len cap))] [some ⟨false, [.vals N L]⟩] := by
  have hbk : ∀ j (bk : Blk), Know.at [some ⟨false, [.vals N L]⟩] j = some bk → j = 0 ∧ bk = ⟨false, [.vals N L]⟩ := by
    intro j bk hj
    match j, hj with
    | 0, hj => exact ⟨rfl, (Option.some.inj hj).symm⟩
    | j + 1, hj => simp [Know.at] at hj
  by_cases hcap : 0 < cap
  · obtain ⟨b, off, arr, ty, fr, rfl, hh, hs, hx⟩ := hc hcap
    have hlt : b < W.heap.size := (Array.getElem?_eq_some_iff.1 hh).1
    refine ⟨[some ⟨b, off, arr.size⟩], rfl, fun β hβ => ?_⟩
    have hb := hβ 0 (by simp)
    rw [Nat.add_zero] at hb
    have hb : β i = some ⟨b, off, arr.size⟩ := hb
    refine ⟨fun j bk hj => ?_, _, [], rfl, ⟨_, rfl, hlc, fun _ => ⟨_, hb, rfl⟩⟩, rfl⟩
    obtain ⟨rfl, rfl⟩ := hbk j bk hj
    rw [Nat.add_zero]
    exact ⟨rfl, ⟨L, ⟨_, [], by simp, ⟨hL, rfl, hone⟩, rfl⟩, .inr ⟨_, arr, ty, fr, hb, hh, rfl, by simp; omega, hx, fun h => by cases h⟩⟩, fun r hr => by rw [hb] at hr; cases hr; exact hlt⟩
  · have hN : N = 0 := h0 (by omega)
    have hn : L = [] := List.length_eq_zero_iff.1 (by omega)
    subst hn
    refine ⟨[none], rfl, fun β hβ => ?_⟩
    have hb : β i = none := hβ 0 (by simp)
    refine ⟨fun j bk hj => ?_, _, [], rfl, ⟨_, rfl, hlc, fun h => absurd h hcap⟩, rfl⟩
    obtain ⟨rfl, rfl⟩ := hbk j bk hj
    rw [Nat.add_zero]
    exact ⟨rfl, ⟨[], ⟨[], [], rfl, ⟨hL, rfl, by simp⟩, rfl⟩, .inl ⟨rfl, .inl rfl⟩⟩, fun r hr => by rw [hb] at hr; cases hr⟩

section args
variable {H : Type} {enc : TypeId × Value → H} {P : Program} {W : World} {base : Nat}

/-- a slice's cells, all its room -/
theorem slice_cells {t e : TypeId} {fuel : Nat} {cs : List Value} {x : DataW H × List MemPlace} (ht : P.underlying t = some (.slice e)) (hpos : 0 < P.cellsOf e) (h : DataW.trod enc P W 0 (fun _ => true) true fuel t cs = some x) :
    (cs = [.slice none 0 0] ∧ x.1 = .nil) ∨
    ∃ (a : Addr) (len cap n : Nat) (xs rest : List (DataW H × List MemPlace)) (A : List Value), cs = [.slice (some a) len cap] ∧ x.1 = .slice (xs.map (·.1)) (rest.map (·.1)) ∧ len ≤ cap ∧ cap ≤ maxLen ∧ xs.length = len ∧ A.length = cap * P.cellsOf e ∧
      (∀ i, i < cap * P.cellsOf e → W.cell? (a.add i) = A[i]?) ∧ ∀ i, i < cap → ∃ y, DataW.trod enc P W 0 (fun _ => true) true n e ((A.drop (i * P.cellsOf e)).take (P.cellsOf e)) = some y ∧ (i < len → xs[i]? = some y) := by
  rcases DataW.trod_slice ht h with ⟨h1, rfl⟩ | ⟨a, len, cap, elems, rest, n, _, rfl, rfl, _, hl, hm, hlen, hel, hsp, _⟩
  · exact .inl ⟨h1, rfl⟩
  obtain ⟨hrl, hr⟩ := hsp rfl
  have each : ∀ i, i < cap → ∃ y, (W.cells? 0 (a.add (i * P.cellsOf e)) (P.cellsOf e)).bind (DataW.trod enc P W 0 (fun _ => true) true n e) = some y ∧ (i < len → elems[i]? = some y) := by
    intro i hi
    by_cases h1 : i < len
    · have h2 : i < elems.length := by omega
      exact ⟨elems[i], by rw [hel i h1, List.getElem?_eq_getElem h2], fun _ => List.getElem?_eq_getElem h2⟩
    · have h2 : i - len < rest.length := by omega
      have := hr (i - len) (by omega)
      rw [show len + (i - len) = i by omega] at this
      exact ⟨rest[i - len], by rw [this, List.getElem?_eq_getElem h2], fun h => absurd h h1⟩
  have some_ : ∀ i, i < cap * P.cellsOf e → ∃ v, W.cell? (a.add i) = some v := by
    intro i hi
    have hq : i / P.cellsOf e < cap := (Nat.div_lt_iff_lt_mul hpos).2 hi
    obtain ⟨y, hy, _⟩ := each _ hq
    rw [Option.bind_eq_some_iff] at hy
    obtain ⟨ds, hds, _⟩ := hy
    obtain ⟨_, h2, h3⟩ := World.cells?_some hds
    have h4 := h3 (i % P.cellsOf e) (Nat.mod_lt _ hpos)
    rw [Addr.add_add, show i / P.cellsOf e * P.cellsOf e + i % P.cellsOf e = i from Nat.div_add_mod' _ _] at h4
    have h5 : i % P.cellsOf e < ds.length := by rw [h2]; exact Nat.mod_lt _ hpos
    exact ⟨ds[i % P.cellsOf e], by rw [h4, List.getElem?_eq_getElem h5]⟩
  refine .inr ⟨a, len, cap, n, elems, rest, (List.range (cap * P.cellsOf e)).map fun i => (W.cell? (a.add i)).getD undef, rfl, rfl, hl, hm, hlen, by simp, ?_, ?_⟩
  · intro i hi
    obtain ⟨v, hv⟩ := some_ i hi
    rw [List.getElem?_map, List.getElem?_range hi, hv]
    simp [hv]
  · intro i hi
    obtain ⟨y, hy, hy2⟩ := each i hi
    refine ⟨y, ?_, hy2⟩
    rw [Option.bind_eq_some_iff] at hy
    obtain ⟨ds, hds, hy3⟩ := hy
    obtain ⟨_, h2, h3⟩ := World.cells?_some hds
    have hle : i * P.cellsOf e + P.cellsOf e ≤ cap * P.cellsOf e := by
      have := Nat.mul_le_mul_right (P.cellsOf e) (Nat.succ_le_of_lt hi)
      rw [Nat.succ_mul] at this; exact this
    have : ((((List.range (cap * P.cellsOf e)).map fun i => (W.cell? (a.add i)).getD undef).drop (i * P.cellsOf e)).take (P.cellsOf e)) = ds := by
      refine List.ext_getElem? fun j => ?_
      by_cases hj : j < P.cellsOf e
      · rw [List.getElem?_take_of_lt hj, List.getElem?_drop, List.getElem?_map, List.getElem?_range (by omega)]
        have h4 := h3 j hj
        rw [Addr.add_add] at h4
        have h5 : j < ds.length := by omega
        simp only [Option.map_some]
        rw [h4, List.getElem?_eq_getElem h5]; rfl
      · rw [List.getElem?_eq_none (by simp; omega), List.getElem?_eq_none (by omega)]
    rw [this]; exact hy3

/-- a slice whose elements have c cells, opened -/
theorem vals_arg {t e : TypeId} {c : Nat} {v : Value} {d : DataW H} {p : List MemPlace} (ht : P.underlying t = some (.slice e)) (hcc : P.cellsOf e = c) (hpos : 0 < c)
    (hone : ∀ (n : Nat) (cs : List Value) (y : DataW H × List MemPlace), DataW.trod enc P W 0 (fun _ => true) true n e cs = some y → ∀ v ∈ cs, v.oneCell' = true)
    (hval : Value.okWide P W .any base t v) (h : DataW.Trod enc P W 0 (fun _ => true) true t v d p) :
    ∃ (len cap : Nat) (L : List Value), L.length = len * c ∧ len ≤ cap ∧ (∀ i, Opened W i [v] [.o (.a (.sl i 0 len cap))] [some ⟨false, [.vals (len * c) L]⟩]) ∧
      ((d = .nil ∧ len = 0) ∨ ∃ (n : Nat) (xs : List (DataW H × List MemPlace)) (s : List (DataW H)), d = .slice (xs.map (·.1)) s ∧ xs.length = len ∧
        ∀ i, i < len → ∃ y, DataW.trod enc P W 0 (fun _ => true) true n e ((L.drop (i * c)).take c) = some y ∧ xs[i]? = some y) := by
  subst hcc
  obtain ⟨a0, len, cap, rfl⟩ := okWide_slice ht hval
  obtain ⟨fuel, hf⟩ := h
  rcases slice_cells ht hpos hf with ⟨hcs, hx⟩ | ⟨a, len', cap', n, xs, rest, A, hcs, hx, hl, hm, hxl, hAl, hcell, hel⟩
  · simp [Value.cells] at hcs
    obtain ⟨rfl, rfl, rfl⟩ := hcs
    exact ⟨0, 0, [], by simp, Nat.le_refl _, fun i => vals_open (by simp) (Nat.le_refl _) (by simp) (fun _ => by simp) (fun h => absurd h (by omega)), .inl ⟨hx, rfl⟩⟩
  · simp [Value.cells] at hcs
    obtain ⟨rfl, rfl, rfl⟩ := hcs
    have hle : len * P.cellsOf e ≤ cap * P.cellsOf e := Nat.mul_le_mul_right _ hl
    refine ⟨len, cap, A.take (len * P.cellsOf e), by simp; omega, hl, fun i => vals_open (by simp; omega) hl ?_ ?_ fun hcap => ?_, .inr ⟨n, xs, _, hx, hxl, ?_⟩⟩
    · intro v hv
      obtain ⟨j, hj⟩ := List.getElem?_of_mem hv
      rw [List.getElem?_take] at hj
      split at hj
      · rename_i hjl
        have hq : j / P.cellsOf e < cap := (Nat.div_lt_iff_lt_mul hpos).2 (by omega)
        obtain ⟨y, hy, _⟩ := hel _ hq
        refine hone _ _ _ hy v (List.mem_of_getElem? (i := j % P.cellsOf e) ?_)
        rw [List.getElem?_take_of_lt (Nat.mod_lt _ hpos), List.getElem?_drop, Nat.div_add_mod']; exact hj
      · cases hj
    · intro hc0; have : len = 0 := by omega
      rw [this, Nat.zero_mul]
    · have hp : 0 < cap * P.cellsOf e := Nat.mul_pos hcap hpos
      have h0 := hcell 0 hp
      obtain ⟨v0, hv0⟩ : ∃ v0, A[0]? = some v0 := ⟨A[0], List.getElem?_eq_getElem (by omega)⟩
      rw [hv0] at h0
      obtain ⟨b, off, spot⟩ := a
      have hspot : spot = none := by simpa [Addr.add] using World.cell?_spot h0
      subst hspot
      have hc2 : ∀ j, j < cap * P.cellsOf e → W.cell? ⟨b, off + j, none⟩ = A[j]? := fun j hj => by rw [← Go.WideShapes.add_plain]; exact hcell j hj
      have h00 := hc2 0 hp
      rw [hv0] at h00
      unfold World.cell? at h00
      split at h00
      · rename_i arr ty fr hh
        have hget : ∀ j, j < cap * P.cellsOf e → arr[off + j]? = A[j]? := by
          intro j hj
          have h1 := hc2 j hj
          unfold World.cell? at h1
          rw [hh] at h1
          simpa using h1
        refine ⟨b, off, arr, ty, fr, rfl, hh, ?_, ?_⟩
        · by_cases hz : len * P.cellsOf e = 0
          · have := (Array.getElem?_eq_some_iff.1 ((hget 0 hp).trans hv0)).1
            omega
          · have h1 := hget (len * P.cellsOf e - 1) (by omega)
            rw [List.getElem?_eq_getElem (by omega)] at h1
            have := (Array.getElem?_eq_some_iff.1 h1).1
            omega
        · intro i x hix
          rw [List.getElem?_take] at hix
          split at hix
          · rw [hget i (by omega), hix]
          · cases hix
      · cases h00
    · intro i hi
      obtain ⟨y, hy, hy2⟩ := hel i (by omega)
      refine ⟨y, ?_, hy2 hi⟩
      rw [← hy]
      congr 1
      refine List.ext_getElem? fun j => ?_
      by_cases hj : j < P.cellsOf e
      · rw [List.getElem?_take_of_lt hj, List.getElem?_take_of_lt hj, List.getElem?_drop, List.getElem?_drop, List.getElem?_take_of_lt]
        have := Nat.mul_le_mul_right (P.cellsOf e) (Nat.succ_le_of_lt hi)
        rw [Nat.succ_mul] at this; omega
      · rw [List.getElem?_eq_none (by simp; omega), List.getElem?_eq_none (by simp; omega)]

end args
end Go.Proofs.Ytodiojpakfjehaa.R

/- Arguments that are slices of arrays of whole numbers. -/
namespace Go.Proofs.Ytodiojpakfjehaa.R
open Go Go.Proofs Go.ChangeShapes Go.WideShapes Go.ChangeAt Go.RowKit Go.Proofs.Ytodiojpakfjehaa.X
set_option linter.unusedVariables false

theorem vals_ints {W : World} {i m : Nat} {v : Value} {x : AV} {k : IntKind} {L : List Value} {l : List Int} (hL : L = l.map (Value.int k)) (h : Opened W i [v] [x] [some ⟨false, [.vals m L]⟩]) : Opened W i [v] [x] [some ⟨false, [.ints k m l]⟩] := by
  obtain ⟨ρ, hl, hρ⟩ := h
  refine ⟨ρ, hl, fun β hβ => ?_⟩
  obtain ⟨hb, ha⟩ := hρ β hβ
  refine ⟨fun j b hj => ?_, ha⟩
  have hj0 : j = 0 ∧ b = ⟨false, [.ints k m l]⟩ := by
    match j, hj with
    | 0, hj => exact ⟨rfl, (Option.some.inj hj).symm⟩
    | j + 1, hj => simp [Know.at] at hj
  obtain ⟨rfl, rfl⟩ := hj0
  obtain ⟨_, hh, hlt⟩ := hb 0 ⟨false, [.vals m L]⟩ rfl
  refine ⟨rfl, ?_, hlt⟩
  obtain ⟨cs, hc, hr⟩ := hh
  refine ⟨cs, ?_, hr⟩
  obtain ⟨a, b, rfl, hx, hy⟩ := hc
  refine ⟨a, b, rfl, ?_, hy⟩
  obtain ⟨h1, h2, _⟩ := hx
  exact ⟨by rw [← h1, hL, List.length_map], by rw [h2, hL]⟩

variable {H : Type} {enc : TypeId × Value → H} {P : Program} {W : World} {base : Nat}

theorem arr_ints {e b : TypeId} {k : IntKind} {z : Nat} (he : P.underlying e = some (.array z b)) (hb : P.underlying b = some (.int k)) (hcb : P.cellsOf b = 1) (hce : P.cellsOf e = z)
    {n : Nat} {cs : List Value} {y : DataW H × List MemPlace} (h : DataW.trod enc P W 0 (fun _ => true) true n e cs = some y) : ∀ v ∈ cs, ∃ x, v = .int k x ∧ (Lit.int k x).wf = true := by
  obtain ⟨xs, m, rfl, _, hlen, hxl, hel⟩ := DataW.trod_array he h
  intro v hv
  obtain ⟨j, hj⟩ := List.getElem?_of_mem hv
  have hjl : j < z := by
    have := (List.getElem?_eq_some_iff.1 hj).1
    omega
  have h1 := hel j hjl
  rw [hcb, Nat.mul_one] at h1
  have hjx : j < xs.length := by omega
  rw [List.getElem?_eq_getElem hjx] at h1
  obtain ⟨x, hx, _, hw⟩ := DataW.trod_int hb h1
  refine ⟨x, ?_, hw⟩
  have := congrArg (·[0]?) hx
  have e : cs[j]? = some (.int k x) := by simpa [List.getElem?_take, List.getElem?_drop] using this
  rw [hj] at e
  exact Option.some.inj e

def toI : Value → Int
  | .int _ x => x
  | _ => 0

/-- a slice of arrays of whole numbers, opened -/
theorem arrs_arg {t e b : TypeId} {k : IntKind} {z : Nat} {v : Value} {d : DataW H} {p : List MemPlace} (ht : P.underlying t = some (.slice e)) (he : P.underlying e = some (.array z b)) (hb : P.underlying b = some (.int k)) (hcb : P.cellsOf b = 1) (hce : P.cellsOf e = z) (hz : 0 < z)
    (hval : Value.okWide P W .any base t v) (h : DataW.Trod enc P W 0 (fun _ => true) true t v d p) :
    ∃ (len cap : Nat) (L : List Int), L.length = len * z ∧ len ≤ cap ∧ (∀ x ∈ L, (Lit.int k x).wf = true) ∧ (∀ i, Opened W i [v] [.o (.a (.sl i 0 len cap))] [some ⟨false, [.ints k (len * z) L]⟩]) ∧
      ((d = .nil ∧ len = 0) ∨ ∃ (xs s : List (DataW H)), d = .slice xs s ∧ xs.length = len) := by
  obtain ⟨len, cap, L, hl, hlc, ho, hd⟩ := vals_arg (c := z) ht hce hz (fun n cs y h v hv => by obtain ⟨x, rfl, _⟩ := arr_ints he hb hcb hce h v hv; rfl) hval h
  have key : ∀ v ∈ L, ∃ x, v = .int k x ∧ (Lit.int k x).wf = true := by
    intro v hv
    rcases hd with ⟨_, h0⟩ | ⟨n, xs, s, _, _, hx⟩
    · subst h0
      rw [Nat.zero_mul] at hl
      rw [List.length_eq_zero_iff.1 hl] at hv
      cases hv
    · obtain ⟨j, hj⟩ := List.getElem?_of_mem hv
      have hjl := (List.getElem?_eq_some_iff.1 hj).1
      have hq : j / z < len := (Nat.div_lt_iff_lt_mul hz).2 (by omega)
      obtain ⟨y, hy, _⟩ := hx _ hq
      refine arr_ints he hb hcb hce hy v (List.mem_of_getElem? (i := j % z) ?_)
      rw [List.getElem?_take_of_lt (Nat.mod_lt _ hz), List.getElem?_drop, Nat.div_add_mod']; exact hj
  have hmap : L = (L.map toI).map (Value.int k) := by
    rw [List.map_map]
    conv => lhs; rw [← List.map_id L]
    refine List.map_congr_left fun v hv => ?_
    obtain ⟨x, rfl, _⟩ := key v hv
    rfl
  refine ⟨len, cap, L.map toI, by rw [List.length_map]; exact hl, hlc, ?_, fun i => vals_ints hmap (ho i), ?_⟩
  · intro x hx
    obtain ⟨v, hv, rfl⟩ := List.mem_map.1 hx
    obtain ⟨y, rfl, hw⟩ := key v hv
    exact hw
  · rcases hd with h | ⟨n, xs, s, h1, h2, _⟩
    · exact .inl h
    · exact .inr ⟨xs.map (·.1), s, h1, by rw [List.length_map]; exact h2⟩
end Go.Proofs.Ytodiojpakfjehaa.R

/-
  FOR A PROOF OF AN '..UptoSaid': WHAT THE BOUND GIVES. Copy it as <Name>Bulk.lean (put your seat's Name for Ytodiojpakfjehaa, the bound of 'uptoSmall' for 1048576), name it in GOCLAIM.json's 'order' behind <Name>Rows. By an AI agent, Sun Nov 15 2026. No person has read it. No macro, syntax, notation, axiom, sorry.
-/
namespace Go.Proofs.Ytodiojpakfjehaa.bulks

theorem append {H : Type} (l r : List (DataW H)) : Rows.uptoBulkAll (l ++ r) = Rows.uptoBulkAll l + Rows.uptoBulkAll r := by
  induction l with
  | nil => simp [Rows.uptoBulkAll]
  | cons x l ih => simp only [List.cons_append, Rows.uptoBulkAll, ih]; omega

end Go.Proofs.Ytodiojpakfjehaa.bulks

