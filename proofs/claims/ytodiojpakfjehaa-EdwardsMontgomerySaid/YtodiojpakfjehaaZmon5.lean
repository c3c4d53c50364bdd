/- Texts of this session, put together (part 5), less what nothing uses. -/
import Derived.Test.YtodiojpakfjehaaZmon4
import Derived.KernelRfl
import Derived.WalkKit
import Derived.ProofKit
import Derived.OpenShut
import Derived.JoinedCond
import Derived.Carry
import Derived.Test.YtodiojpakfjehaaRows
/- Printed by a tool of this session. -/
namespace Go.Proofs.Ytodiojpakfjehaa.X
open Go Go.Proofs
set_option linter.unusedVariables false
set_option linter.unusedSimpArgs false
set_option maxRecDepth 100000
theorem teVM_5 : TEOk Try.prog 5 ⟨.int .u8, 1, 1, [.i .u8 (0 : Int)], false⟩ :=
  TEOk.of Try.underlying5 (i := Try.t5) (by kernel_rfl) rfl rfl rfl (by kernel_rfl) (fun h => by cases h) (by kernel_rfl)
theorem teVM_23 : TEOk Try.prog 23 ⟨.array 32 5, 32, 32, [.ints .u8 (32 : Nat) ([0, 0, 0, 0, 0, 0, 0, 0, 0, 0, 0, 0, 0, 0, 0, 0, 0, 0, 0, 0, 0, 0, 0, 0, 0, 0, 0, 0, 0, 0, 0, 0] : List Int)], true⟩ :=
  TEOk.of Try.underlying23 (i := Try.t23) (by kernel_rfl) rfl rfl rfl (by kernel_rfl) (fun _ => Try.eqGuardType23) (by kernel_rfl)
theorem teVM_24 : TEOk Try.prog 24 ⟨.array 32 5, 32, 32, [.ints .u8 (32 : Nat) ([0, 0, 0, 0, 0, 0, 0, 0, 0, 0, 0, 0, 0, 0, 0, 0, 0, 0, 0, 0, 0, 0, 0, 0, 0, 0, 0, 0, 0, 0, 0, 0] : List Int)], true⟩ :=
  TEOk.of Try.underlying24 (i := Try.t24) (by kernel_rfl) rfl rfl rfl (by kernel_rfl) (fun _ => Try.eqGuardType24) (by kernel_rfl)
theorem teVM_37 : TEOk Try.prog 37 ⟨.array 32 5, 32, 32, [.ints .u8 (32 : Nat) ([0, 0, 0, 0, 0, 0, 0, 0, 0, 0, 0, 0, 0, 0, 0, 0, 0, 0, 0, 0, 0, 0, 0, 0, 0, 0, 0, 0, 0, 0, 0, 0] : List Int)], true⟩ :=
  TEOk.of Try.underlying37 (i := Try.t37) (by kernel_rfl) rfl rfl rfl (by kernel_rfl) (fun _ => Try.eqGuardType37) (by kernel_rfl)
theorem teVM_92 : TEOk Try.prog 92 ⟨.array 5 90, 5, 40, [.ints .u64 (5 : Nat) ([0, 0, 0, 0, 0] : List Int)], true⟩ :=
  TEOk.of Try.underlying92 (i := Try.t92) (by kernel_rfl) rfl rfl rfl (by kernel_rfl) (fun _ => Try.eqGuardType92) (by kernel_rfl)
theorem teVM_94 : TEOk Try.prog 94 ⟨Try.t93.desc, 20, 160, [.ints .u64 (20 : Nat) ([0, 0, 0, 0, 0, 0, 0, 0, 0, 0, 0, 0, 0, 0, 0, 0, 0, 0, 0, 0] : List Int)], false⟩ :=
  TEOk.of Try.underlying94 (i := Try.t94) (by kernel_rfl) rfl rfl rfl (by kernel_rfl) (fun h => by cases h) (by kernel_rfl)
noncomputable def tabVM : List (Nat × TE) := [(5, ⟨.int .u8, 1, 1, [.i .u8 (0 : Int)], false⟩), (23, ⟨.array 32 5, 32, 32, [.ints .u8 (32 : Nat) ([0, 0, 0, 0, 0, 0, 0, 0, 0, 0, 0, 0, 0, 0, 0, 0, 0, 0, 0, 0, 0, 0, 0, 0, 0, 0, 0, 0, 0, 0, 0, 0] : List Int)], true⟩), (24, ⟨.array 32 5, 32, 32, [.ints .u8 (32 : Nat) ([0, 0, 0, 0, 0, 0, 0, 0, 0, 0, 0, 0, 0, 0, 0, 0, 0, 0, 0, 0, 0, 0, 0, 0, 0, 0, 0, 0, 0, 0, 0, 0] : List Int)], true⟩), (37, ⟨.array 32 5, 32, 32, [.ints .u8 (32 : Nat) ([0, 0, 0, 0, 0, 0, 0, 0, 0, 0, 0, 0, 0, 0, 0, 0, 0, 0, 0, 0, 0, 0, 0, 0, 0, 0, 0, 0, 0, 0, 0, 0] : List Int)], true⟩), (92, ⟨.array 5 90, 5, 40, [.ints .u64 (5 : Nat) ([0, 0, 0, 0, 0] : List Int)], true⟩), (94, ⟨Try.t93.desc, 20, 160, [.ints .u64 (20 : Nat) ([0, 0, 0, 0, 0, 0, 0, 0, 0, 0, 0, 0, 0, 0, 0, 0, 0, 0, 0, 0] : List Int)], false⟩)]
theorem tabOkVM : TabOk Try.prog (tabOf tabVM) := (tabOf_cons teVM_5 (tabOf_cons teVM_23 (tabOf_cons teVM_24 (tabOf_cons teVM_37 (tabOf_cons teVM_92 (tabOf_cons teVM_94 tabOf_nil))))))

set_option maxHeartbeats 1000000 in
theorem apCheck_w0_body0 (s : List Int) (hv0 : List.length s = (32 : Nat)) (hb0 : (ptOpen_1 s) = true) (w : World) : Body Try.prog (tabOf tabVM) Try.f14 ⟨w, [], 0, noEnv⟩ (toA [.g [.ints .u8 (32 : Nat) s]]) [] (fun ys _ => ys = [.a (.i .i64 (0 : Int))]) :=
  Body.of_fin (Γ := gam44) (Λ := noLam) (Ψ := noPsi) (fuel := 0) (m := 12) (c := (Try.f14.body.getD .skip)) mix tabOkVM gam44_ok rfl (rs := [.tmp 2]) rfl rfl [false] []
    (vc := [((!(ptOpen_1 s)) = false)]) (by kernel_rfl)
    (AllP_cons (by rw [hb0]; rfl) (AllP_nil))

set_option maxHeartbeats 1000000 in
theorem apCheck_w1_body0 (s : List Int) (hv0 : List.length s = (32 : Nat)) (hb0 : (ptOpen_1 s) = false) (w : World) : Body Try.prog (tabOf tabVM) Try.f14 ⟨w, [], 0, noEnv⟩ (toA [.g [.ints .u8 (32 : Nat) s]]) [] (fun ys _ => ys = [.a (.i .i64 (41 : Int))]) :=
  Body.of_fin (Γ := gam44) (Λ := noLam) (Ψ := noPsi) (fuel := 0) (m := 12) (c := (Try.f14.body.getD .skip)) mix tabOkVM gam44_ok rfl (rs := [.tmp 2]) rfl rfl [true] []
    (vc := [((!(ptOpen_1 s)) = true)]) (by kernel_rfl)
    (AllP_cons (by rw [hb0]; rfl) (AllP_nil))

def apCheck (s : List Int) : Int :=
  (cond (ptOpen_1 s) (0 : Int) (41 : Int))

set_option maxHeartbeats 1000000 in
theorem apCheck_body (s : List Int) (w : World) : Body Try.prog (tabOf tabVM) Try.f14 ⟨w, [], 0, noEnv⟩ (toA [.g [.ints .u8 (32 : Nat) s]]) [] (fun ys _ => ys = [.a (.i .i64 (apCheck s))]) :=
  Body.lens (c := (Try.f14.body.getD .skip)) rfl fun h => by
    cases hb0 : (ptOpen_1 s)
    · exact (apCheck_w1_body0 s (h.vals 0 _ _ _ rfl) hb0 w).mono fun _ _ hx => hx.trans (by rw [(show (apCheck s) = (41 : Int) from (cond_f hb0))])
    · exact (apCheck_w0_body0 s (h.vals 0 _ _ _ rfl) hb0 w).mono fun _ _ hx => hx.trans (by rw [(show (apCheck s) = (0 : Int) from (cond_t hb0))])

theorem apCheck_pure (s : List Int) : PureC Try.prog 14 [.g [.ints .u8 (32 : Nat) s]] [.a (.i .i64 (apCheck s))] :=
  PureC.of_body tabOkVM Try.func14 rfl rfl fun w => apCheck_body s w

def gam47 : Gam := gpure 14 (fun args => match args with | [.o (.g [.ints .u8 (32 : Nat) s])] => some (none, [.a (.i .i64 (apCheck s))]) | _ => none) gam44
theorem gam47_ok : GamOk Try.prog gam47 := gpure_ok gam44_ok Try.call14 (by
  intro args vc xs h hv
  split at h
  · simp only [Option.some.injEq, Prod.mk.injEq] at h; obtain ⟨rfl, rfl⟩ := h; exact ⟨_, by rfl, apCheck_pure _⟩
  · simp at h)

def apId : List Int :=
  (ptForm (ptId))

def apBase : List Int :=
  (ptForm (ptB))

set_option maxHeartbeats 1000000 in
theorem apBase_body0 (w : World) : Body Try.prog (tabOf tabVM) Try.f23 ⟨w, [], 0, noEnv⟩ (toA []) [] (fun ys _ => ys = [.g [.ints .u8 (32 : Nat) (apBase)]]) :=
  Body.of_fin (Γ := gam47) (Λ := noLam) (Ψ := noPsi) (fuel := 0) (m := 3) (c := (Try.f23.body.getD .skip)) mix tabOkVM gam47_ok rfl (rs := [.cell 0 23]) rfl rfl [] []
    (vc := []) (by kernel_rfl)
    (AllP_nil)

theorem apBase_body (w : World) : Body Try.prog (tabOf tabVM) Try.f23 ⟨w, [], 0, noEnv⟩ (toA []) [] (fun ys _ => ys = [.g [.ints .u8 (32 : Nat) (apBase)]]) :=
  Body.lens (c := (Try.f23.body.getD .skip)) rfl fun h => apBase_body0  w

theorem apBase_pure : PureC Try.prog 23 [] [.g [.ints .u8 (32 : Nat) (apBase)]] :=
  PureC.of_body tabOkVM Try.func23 rfl rfl fun w => apBase_body w

def gam49 : Gam := gpure 23 (fun args => match args with | [] => some (none, [.g [.ints .u8 (32 : Nat) (apBase)]]) | _ => none) gam47
theorem gam49_ok : GamOk Try.prog gam49 := gpure_ok gam47_ok Try.call23 (by
  intro args vc xs h hv
  split at h
  · simp only [Option.some.injEq, Prod.mk.injEq] at h; obtain ⟨rfl, rfl⟩ := h; exact ⟨_, by rfl, apBase_pure⟩
  · simp at h)

def apCo_w0 (s : List Int) : List Int :=
  (feBytes (sub (ptOpen s) (0 : Nat) (5 : Nat)))

def apCo_w0_1 (s : List Int) : List Int :=
  (feBytes (sub (ptOpen s) (5 : Nat) (5 : Nat)))

set_option maxHeartbeats 1000000 in
theorem apCo_w0_body0 (s : List Int) (hv0 : List.length s = (32 : Nat)) (hb0 : (ptOpen_1 s) = true) (w : World) : Body Try.prog (tabOf tabVM) Try.f11 ⟨w, [], 0, noEnv⟩ (toA [.g [.ints .u8 (32 : Nat) s]]) [] (fun ys _ => ys = [.g [.ints .u8 (32 : Nat) (apCo_w0 s)], .g [.ints .u8 (32 : Nat) (apCo_w0_1 s)], .a (.i .i64 (0 : Int))]) :=
  Body.of_fin (Γ := gam49) (Λ := noLam) (Ψ := noPsi) (fuel := 0) (m := 22) (c := (Try.f11.body.getD .skip)) mix tabOkVM gam49_ok rfl (rs := [.cell 2 24, .cell 3 24, .tmp 4]) rfl rfl [false] []
    (vc := [((!(ptOpen_1 s)) = false)]) (by kernel_rfl)
    (AllP_cons (by rw [hb0]; rfl) (AllP_nil))

set_option maxHeartbeats 1000000 in
theorem apCo_w1_body0 (s : List Int) (hv0 : List.length s = (32 : Nat)) (hb0 : (ptOpen_1 s) = false) (w : World) : Body Try.prog (tabOf tabVM) Try.f11 ⟨w, [], 0, noEnv⟩ (toA [.g [.ints .u8 (32 : Nat) s]]) [] (fun ys _ => ys = [.g [.ints .u8 (32 : Nat) ([0, 0, 0, 0, 0, 0, 0, 0, 0, 0, 0, 0, 0, 0, 0, 0, 0, 0, 0, 0, 0, 0, 0, 0, 0, 0, 0, 0, 0, 0, 0, 0] : List Int)], .g [.ints .u8 (32 : Nat) ([0, 0, 0, 0, 0, 0, 0, 0, 0, 0, 0, 0, 0, 0, 0, 0, 0, 0, 0, 0, 0, 0, 0, 0, 0, 0, 0, 0, 0, 0, 0, 0] : List Int)], .a (.i .i64 (41 : Int))]) :=
  Body.of_fin (Γ := gam49) (Λ := noLam) (Ψ := noPsi) (fuel := 0) (m := 22) (c := (Try.f11.body.getD .skip)) mix tabOkVM gam49_ok rfl (rs := [.cell 2 24, .cell 3 24, .tmp 4]) rfl rfl [true] []
    (vc := [((!(ptOpen_1 s)) = true)]) (by kernel_rfl)
    (AllP_cons (by rw [hb0]; rfl) (AllP_nil))

def apCo (s : List Int) : List Int :=
  (cond (ptOpen_1 s) (apCo_w0 s) ([0, 0, 0, 0, 0, 0, 0, 0, 0, 0, 0, 0, 0, 0, 0, 0, 0, 0, 0, 0, 0, 0, 0, 0, 0, 0, 0, 0, 0, 0, 0, 0] : List Int))

def apCo_1 (s : List Int) : List Int :=
  (cond (ptOpen_1 s) (apCo_w0_1 s) ([0, 0, 0, 0, 0, 0, 0, 0, 0, 0, 0, 0, 0, 0, 0, 0, 0, 0, 0, 0, 0, 0, 0, 0, 0, 0, 0, 0, 0, 0, 0, 0] : List Int))

def apCo_2 (s : List Int) : Int :=
  (cond (ptOpen_1 s) (0 : Int) (41 : Int))

set_option maxHeartbeats 1000000 in
theorem apCo_body (s : List Int) (w : World) : Body Try.prog (tabOf tabVM) Try.f11 ⟨w, [], 0, noEnv⟩ (toA [.g [.ints .u8 (32 : Nat) s]]) [] (fun ys _ => ys = [.g [.ints .u8 (32 : Nat) (apCo s)], .g [.ints .u8 (32 : Nat) (apCo_1 s)], .a (.i .i64 (apCo_2 s))]) :=
  Body.lens (c := (Try.f11.body.getD .skip)) rfl fun h => by
    cases hb0 : (ptOpen_1 s)
    · exact (apCo_w1_body0 s (h.vals 0 _ _ _ rfl) hb0 w).mono fun _ _ hx => hx.trans (by rw [(show (apCo s) = ([0, 0, 0, 0, 0, 0, 0, 0, 0, 0, 0, 0, 0, 0, 0, 0, 0, 0, 0, 0, 0, 0, 0, 0, 0, 0, 0, 0, 0, 0, 0, 0] : List Int) from (cond_f hb0)), (show (apCo_1 s) = ([0, 0, 0, 0, 0, 0, 0, 0, 0, 0, 0, 0, 0, 0, 0, 0, 0, 0, 0, 0, 0, 0, 0, 0, 0, 0, 0, 0, 0, 0, 0, 0] : List Int) from (cond_f hb0)), (show (apCo_2 s) = (41 : Int) from (cond_f hb0))])
    · exact (apCo_w0_body0 s (h.vals 0 _ _ _ rfl) hb0 w).mono fun _ _ hx => hx.trans (by rw [(show (apCo s) = (apCo_w0 s) from (cond_t hb0)), (show (apCo_1 s) = (apCo_w0_1 s) from (cond_t hb0)), (show (apCo_2 s) = (0 : Int) from (cond_t hb0))])

theorem apCo_pure (s : List Int) : PureC Try.prog 11 [.g [.ints .u8 (32 : Nat) s]] [.g [.ints .u8 (32 : Nat) (apCo s)], .g [.ints .u8 (32 : Nat) (apCo_1 s)], .a (.i .i64 (apCo_2 s))] :=
  PureC.of_body tabOkVM Try.func11 rfl rfl fun w => apCo_body s w

def gam50 : Gam := gpure 11 (fun args => match args with | [.o (.g [.ints .u8 (32 : Nat) s])] => some (none, [.g [.ints .u8 (32 : Nat) (apCo s)], .g [.ints .u8 (32 : Nat) (apCo_1 s)], .a (.i .i64 (apCo_2 s))]) | _ => none) gam49
theorem gam50_ok : GamOk Try.prog gam50 := gpure_ok gam49_ok Try.call11 (by
  intro args vc xs h hv
  split at h
  · simp only [Option.some.injEq, Prod.mk.injEq] at h; obtain ⟨rfl, rfl⟩ := h; exact ⟨_, by rfl, apCo_pure _⟩
  · simp at h)

def apMulB (K : List Int) : List Int :=
  (ptForm (ptMul (ptB) K))

set_option maxHeartbeats 1000000 in
theorem apMulB_body0 (K : List Int) (hv0 : List.length K = (32 : Nat)) (w : World) : Body Try.prog (tabOf tabVM) Try.f22 ⟨w, [], 0, noEnv⟩ (toA [.g [.ints .u8 (32 : Nat) K]]) [] (fun ys _ => ys = [.g [.ints .u8 (32 : Nat) (apMulB K)]]) :=
  Body.of_fin (Γ := gam50) (Λ := noLam) (Ψ := noPsi) (fuel := 0) (m := 7) (c := (Try.f22.body.getD .skip)) mix tabOkVM gam50_ok rfl (rs := [.cell 2 23]) rfl rfl [] []
    (vc := []) (by kernel_rfl)
    (AllP_nil)

theorem apMulB_body (K : List Int) (w : World) : Body Try.prog (tabOf tabVM) Try.f22 ⟨w, [], 0, noEnv⟩ (toA [.g [.ints .u8 (32 : Nat) K]]) [] (fun ys _ => ys = [.g [.ints .u8 (32 : Nat) (apMulB K)]]) :=
  Body.lens (c := (Try.f22.body.getD .skip)) rfl fun h => apMulB_body0 K (h.vals 0 _ _ _ rfl) w

theorem apMulB_pure (K : List Int) : PureC Try.prog 22 [.g [.ints .u8 (32 : Nat) K]] [.g [.ints .u8 (32 : Nat) (apMulB K)]] :=
  PureC.of_body tabOkVM Try.func22 rfl rfl fun w => apMulB_body K w

def gam52 : Gam := gpure 22 (fun args => match args with | [.o (.g [.ints .u8 (32 : Nat) K])] => some (none, [.g [.ints .u8 (32 : Nat) (apMulB K)]]) | _ => none) gam50
theorem gam52_ok : GamOk Try.prog gam52 := gpure_ok gam50_ok Try.call22 (by
  intro args vc xs h hv
  split at h
  · simp only [Option.some.injEq, Prod.mk.injEq] at h; obtain ⟨rfl, rfl⟩ := h; exact ⟨_, by rfl, apMulB_pure _⟩
  · simp at h)

def apPrime_w0 (s : List Int) : Bool :=
  (ptIsId (ptMul (ptOpen s) ([237, 211, 245, 92, 26, 99, 18, 88, 214, 156, 247, 162, 222, 249, 222, 20, 0, 0, 0, 0, 0, 0, 0, 0, 0, 0, 0, 0, 0, 0, 0, 16] : List Int)))

set_option maxHeartbeats 1000000 in
theorem apPrime_w0_body0 (s : List Int) (hv0 : List.length s = (32 : Nat)) (hb0 : (ptOpen_1 s) = true) (w : World) : Body Try.prog (tabOf tabVM) Try.f38 ⟨w, [], 0, noEnv⟩ (toA [.g [.ints .u8 (32 : Nat) s]]) [] (fun ys _ => ys = [.a (.b (apPrime_w0 s)), .a (.i .i64 (0 : Int))]) :=
  Body.of_fin (Γ := gam52) (Λ := noLam) (Ψ := noPsi) (fuel := 0) (m := 17) (c := (Try.f38.body.getD .skip)) mix tabOkVM gam52_ok rfl (rs := [.tmp 2, .tmp 3]) rfl rfl [false] []
    (vc := [((!(ptOpen_1 s)) = false)]) (by kernel_rfl)
    (AllP_cons (by rw [hb0]; rfl) (AllP_nil))

set_option maxHeartbeats 1000000 in
theorem apPrime_w1_body0 (s : List Int) (hv0 : List.length s = (32 : Nat)) (hb0 : (ptOpen_1 s) = false) (w : World) : Body Try.prog (tabOf tabVM) Try.f38 ⟨w, [], 0, noEnv⟩ (toA [.g [.ints .u8 (32 : Nat) s]]) [] (fun ys _ => ys = [.a (.b false), .a (.i .i64 (41 : Int))]) :=
  Body.of_fin (Γ := gam52) (Λ := noLam) (Ψ := noPsi) (fuel := 0) (m := 17) (c := (Try.f38.body.getD .skip)) mix tabOkVM gam52_ok rfl (rs := [.tmp 2, .tmp 3]) rfl rfl [true] []
    (vc := [((!(ptOpen_1 s)) = true)]) (by kernel_rfl)
    (AllP_cons (by rw [hb0]; rfl) (AllP_nil))

def apPrime (s : List Int) : Bool :=
  (cond (ptOpen_1 s) (apPrime_w0 s) false)

def apPrime_1 (s : List Int) : Int :=
  (cond (ptOpen_1 s) (0 : Int) (41 : Int))

set_option maxHeartbeats 1000000 in
theorem apPrime_body (s : List Int) (w : World) : Body Try.prog (tabOf tabVM) Try.f38 ⟨w, [], 0, noEnv⟩ (toA [.g [.ints .u8 (32 : Nat) s]]) [] (fun ys _ => ys = [.a (.b (apPrime s)), .a (.i .i64 (apPrime_1 s))]) :=
  Body.lens (c := (Try.f38.body.getD .skip)) rfl fun h => by
    cases hb0 : (ptOpen_1 s)
    · exact (apPrime_w1_body0 s (h.vals 0 _ _ _ rfl) hb0 w).mono fun _ _ hx => hx.trans (by rw [(show (apPrime s) = false from (cond_f hb0)), (show (apPrime_1 s) = (41 : Int) from (cond_f hb0))])
    · exact (apPrime_w0_body0 s (h.vals 0 _ _ _ rfl) hb0 w).mono fun _ _ hx => hx.trans (by rw [(show (apPrime s) = (apPrime_w0 s) from (cond_t hb0)), (show (apPrime_1 s) = (0 : Int) from (cond_t hb0))])

theorem apPrime_pure (s : List Int) : PureC Try.prog 38 [.g [.ints .u8 (32 : Nat) s]] [.a (.b (apPrime s)), .a (.i .i64 (apPrime_1 s))] :=
  PureC.of_body tabOkVM Try.func38 rfl rfl fun w => apPrime_body s w

def gam53 : Gam := gpure 38 (fun args => match args with | [.o (.g [.ints .u8 (32 : Nat) s])] => some (none, [.a (.b (apPrime s)), .a (.i .i64 (apPrime_1 s))]) | _ => none) gam52
theorem gam53_ok : GamOk Try.prog gam53 := gpure_ok gam52_ok Try.call38 (by
  intro args vc xs h hv
  split at h
  · simp only [Option.some.injEq, Prod.mk.injEq] at h; obtain ⟨rfl, rfl⟩ := h; exact ⟨_, by rfl, apPrime_pure _⟩
  · simp at h)

def apMont_w0 (s : List Int) : List Int :=
  (feBytes (feMul (fePlus (feSmall (1 : Int)) (sub (ptOpen s) (5 : Nat) (5 : Nat))) (feInv (feMin (feSmall (1 : Int)) (sub (ptOpen s) (5 : Nat) (5 : Nat))))))

set_option maxHeartbeats 1000000 in
theorem apMont_w0_body0 (s : List Int) (hv0 : List.length s = (32 : Nat)) (hb0 : (ptOpen_1 s) = true) (w : World) : Body Try.prog (tabOf tabVM) Try.f40 ⟨w, [], 0, noEnv⟩ (toA [.g [.ints .u8 (32 : Nat) s]]) [] (fun ys _ => ys = [.g [.ints .u8 (32 : Nat) (apMont_w0 s)], .a (.i .i64 (0 : Int))]) :=
  Body.of_fin (Γ := gam53) (Λ := noLam) (Ψ := noPsi) (fuel := 0) (m := 27) (c := (Try.f40.body.getD .skip)) mix tabOkVM gam53_ok rfl (rs := [.cell 2 24, .tmp 3]) rfl rfl [false] []
    (vc := [((!(ptOpen_1 s)) = false)]) (by kernel_rfl)
    (AllP_cons (by rw [hb0]; rfl) (AllP_nil))

set_option maxHeartbeats 1000000 in
theorem apMont_w1_body0 (s : List Int) (hv0 : List.length s = (32 : Nat)) (hb0 : (ptOpen_1 s) = false) (w : World) : Body Try.prog (tabOf tabVM) Try.f40 ⟨w, [], 0, noEnv⟩ (toA [.g [.ints .u8 (32 : Nat) s]]) [] (fun ys _ => ys = [.g [.ints .u8 (32 : Nat) ([0, 0, 0, 0, 0, 0, 0, 0, 0, 0, 0, 0, 0, 0, 0, 0, 0, 0, 0, 0, 0, 0, 0, 0, 0, 0, 0, 0, 0, 0, 0, 0] : List Int)], .a (.i .i64 (41 : Int))]) :=
  Body.of_fin (Γ := gam53) (Λ := noLam) (Ψ := noPsi) (fuel := 0) (m := 27) (c := (Try.f40.body.getD .skip)) mix tabOkVM gam53_ok rfl (rs := [.cell 2 24, .tmp 3]) rfl rfl [true] []
    (vc := [((!(ptOpen_1 s)) = true)]) (by kernel_rfl)
    (AllP_cons (by rw [hb0]; rfl) (AllP_nil))

def apMont (s : List Int) : List Int :=
  (cond (ptOpen_1 s) (apMont_w0 s) ([0, 0, 0, 0, 0, 0, 0, 0, 0, 0, 0, 0, 0, 0, 0, 0, 0, 0, 0, 0, 0, 0, 0, 0, 0, 0, 0, 0, 0, 0, 0, 0] : List Int))

def apMont_1 (s : List Int) : Int :=
  (cond (ptOpen_1 s) (0 : Int) (41 : Int))

set_option maxHeartbeats 1000000 in
theorem apMont_body (s : List Int) (w : World) : Body Try.prog (tabOf tabVM) Try.f40 ⟨w, [], 0, noEnv⟩ (toA [.g [.ints .u8 (32 : Nat) s]]) [] (fun ys _ => ys = [.g [.ints .u8 (32 : Nat) (apMont s)], .a (.i .i64 (apMont_1 s))]) :=
  Body.lens (c := (Try.f40.body.getD .skip)) rfl fun h => by
    cases hb0 : (ptOpen_1 s)
    · exact (apMont_w1_body0 s (h.vals 0 _ _ _ rfl) hb0 w).mono fun _ _ hx => hx.trans (by rw [(show (apMont s) = ([0, 0, 0, 0, 0, 0, 0, 0, 0, 0, 0, 0, 0, 0, 0, 0, 0, 0, 0, 0, 0, 0, 0, 0, 0, 0, 0, 0, 0, 0, 0, 0] : List Int) from (cond_f hb0)), (show (apMont_1 s) = (41 : Int) from (cond_f hb0))])
    · exact (apMont_w0_body0 s (h.vals 0 _ _ _ rfl) hb0 w).mono fun _ _ hx => hx.trans (by rw [(show (apMont s) = (apMont_w0 s) from (cond_t hb0)), (show (apMont_1 s) = (0 : Int) from (cond_t hb0))])

theorem apMont_pure (s : List Int) : PureC Try.prog 40 [.g [.ints .u8 (32 : Nat) s]] [.g [.ints .u8 (32 : Nat) (apMont s)], .a (.i .i64 (apMont_1 s))] :=
  PureC.of_body tabOkVM Try.func40 rfl rfl fun w => apMont_body s w

def gam55 : Gam := gpure 40 (fun args => match args with | [.o (.g [.ints .u8 (32 : Nat) s])] => some (none, [.g [.ints .u8 (32 : Nat) (apMont s)], .a (.i .i64 (apMont_1 s))]) | _ => none) gam53
theorem gam55_ok : GamOk Try.prog gam55 := gpure_ok gam53_ok Try.call40 (by
  intro args vc xs h hv
  split at h
  · simp only [Option.some.injEq, Prod.mk.injEq] at h; obtain ⟨rfl, rfl⟩ := h; exact ⟨_, by rfl, apMont_pure _⟩
  · simp at h)

end Go.Proofs.Ytodiojpakfjehaa.X

/- What the functions of the package answer, as points of the curve. -/
namespace Go.Proofs.Ytodiojpakfjehaa.X
open Go Go.Proofs
set_option linter.unusedVariables false
set_option linter.unusedSimpArgs false
set_option maxRecDepth 100000

instance eDec : DecidableEq E := fun a b => if h : a.1 = b.1 then isTrue (Ep.ext h) else isFalse fun e => h (congrArg Subtype.val e)
def z32 : List Int := [0, 0, 0, 0, 0, 0, 0, 0, 0, 0, 0, 0, 0, 0, 0, 0, 0, 0, 0, 0, 0, 0, 0, 0, 0, 0, 0, 0, 0, 0, 0, 0]
theorem op_enc (p : E) : ptOpen_1 (encE p) = true ∧ LA (ptOpen (encE p)) p := (open_ok (encE_byt p) (encE_len p)).2 p (dec_enc p)
theorem op1 (p : E) : ptOpen_1 (encE p) = true := (op_enc p).1
theorem op2 (p : E) : LP (ptOpen (encE p)) p := (op_enc p).2.lp
theorem encE_inj {p q : E} (h : encE p = encE q) : p = q := by
  have := dec_enc p
  rw [h, dec_enc] at this
  exact (Option.some.inj this).symm
theorem add_enc (p q : E) : apAdd (encE p) (encE q) = encE (ad p q) := by
  refine (cond_t (op1 p)).trans ((cond_t (op1 q)).trans ?_)
  exact form_ok (lp_add (op2 p) (op2 q))
theorem addc_enc (p q : E) : apAdd_1 (encE p) (encE q) = 0 := (cond_t (op1 p)).trans (cond_t (op1 q))
theorem sub_enc (p q : E) : apSub (encE p) (encE q) = encE (ad p (ng q)) := by
  refine (cond_t (op1 p)).trans ((cond_t (op1 q)).trans ?_)
  exact form_ok (lp_add (op2 p) (lp_neg (op2 q)))
theorem subc_enc (p q : E) : apSub_1 (encE p) (encE q) = 0 := (cond_t (op1 p)).trans (cond_t (op1 q))
theorem neg_enc (p : E) : oneNeg (encE p) = encE (ng p) := (cond_t (op1 p)).trans (form_ok (lp_neg (op2 p)))
theorem negc_enc (p : E) : oneNeg_1 (encE p) = 0 := cond_t (op1 p)
theorem dbl_enc (p : E) : oneDbl (encE p) = encE (ad p p) := (cond_t (op1 p)).trans (form_ok (lp_dbl (op2 p)))
theorem dblc_enc (p : E) : oneDbl_1 (encE p) = 0 := cond_t (op1 p)
theorem mul_enc {K : List Int} (hK : Byt K) (l : K.length = 32) (p : E) : oneMul K (encE p) = encE (mu (BV K).toNat p) := (cond_t (op1 p)).trans (form_ok (lp_mul (op2 p) hK l))
theorem mulc_enc (p : E) : oneMul_1 (encE p) = 0 := cond_t (op1 p)
theorem cof_enc (p : E) : oneCof (encE p) = encE (mu 8 p) := by
  refine (cond_t (op1 p)).trans ?_
  have k := form_ok (lp_dbl (lp_dbl (lp_dbl (op2 p))))
  have e : ad (ad (ad p p) (ad p p)) (ad (ad p p) (ad p p)) = mu 8 p := by
    have h1 : ad p p = mu 2 p := by
      have := mu_add 1 1 p
      rw [mu_one] at this
      exact this.symm
    rw [h1, ← mu_add, ← mu_add]
  rw [e] at k
  exact k
theorem cofc_enc (p : E) : oneCof_1 (encE p) = 0 := cond_t (op1 p)
theorem chk_enc (p : E) : apCheck (encE p) = 0 := cond_t (op1 p)
theorem chk_none {s : List Int} (h : Byt s) (l : s.length = 32) (hd : decE s = none) : apCheck s = 41 := cond_f ((open_ok h l).1 hd)
theorem id_enc : apId = encE E0 := form_ok lp_id
theorem base_enc : apBase = encE eB := form_ok lp_base
theorem mulB_enc {K : List Int} (hK : Byt K) (l : K.length = 32) : apMulB K = encE (mu (BV K).toNat eB) := form_ok (lp_mul lp_base hK l)
theorem la_xy {l : List Int} {p : E} (h : LA l p) : (B5 (sub l 0 5) ∧ fv (sub l 0 5) = p.1.1) ∧ (B5 (sub l 5 5) ∧ fv (sub l 5 5) = p.1.2) := by
  obtain ⟨⟨_, x, y, _, _⟩, e⟩ := h
  exact ⟨⟨x, congrArg Q4.x e⟩, ⟨y, congrArg Q4.y e⟩⟩
theorem co_enc (p : E) : apCo (encE p) = B32 (p.1.1.val : Int) ∧ apCo_1 (encE p) = B32 (p.1.2.val : Int) ∧ apCo_2 (encE p) = 0 := by
  obtain ⟨⟨x, ex⟩, ⟨y, ey⟩⟩ := la_xy (op_enc p).2
  refine ⟨(cond_t (op1 p)).trans ?_, (cond_t (op1 p)).trans ?_, cond_t (op1 p)⟩
  · show feBytes _ = _
    rw [bytes_ok x, ex]
  · show feBytes _ = _
    rw [bytes_ok y, ey]
section ring
variable {K : Type} [Lean.Grind.CommRing K]
end ring
theorem isid_ok {l : List Int} {p : E} (h : LP l p) : ptIsId l = decide (p = E0) := by
  obtain ⟨⟨_, x, y, z, _⟩, q⟩ := h
  have k := qr_zero q
  have s1 := same_ok x zero5.1
  have s2 := same_ok y z
  rw [zero5.2] at s1
  unfold ptIsId ptIsId_w0
  rw [s1, s2]
  by_cases h1 : fv (sub l 0 5) = 0
  · rw [decide_eq_true h1]
    show decide _ = _
    refine decide_eq_decide.2 ⟨fun h2 => k.2 ⟨h1, h2⟩, fun h2 => (k.1 h2).2⟩
  · rw [decide_eq_false h1]
    exact (decide_eq_false fun h2 => h1 (k.1 h2).1).symm
theorem ordL_BV : (BV [237, 211, 245, 92, 26, 99, 18, 88, 214, 156, 247, 162, 222, 249, 222, 20, 0, 0, 0, 0, 0, 0, 0, 0, 0, 0, 0, 0, 0, 0, 0, 16]).toNat = LN := by decide +kernel
theorem ordL_byt : Byt [237, 211, 245, 92, 26, 99, 18, 88, 214, 156, 247, 162, 222, 249, 222, 20, 0, 0, 0, 0, 0, 0, 0, 0, 0, 0, 0, 0, 0, 0, 0, 16] := byt_small (by decide)
theorem mulL_ok {l : List Int} {p : E} (h : LP l p) : ptIsId (ptMul l [237, 211, 245, 92, 26, 99, 18, 88, 214, 156, 247, 162, 222, 249, 222, 20, 0, 0, 0, 0, 0, 0, 0, 0, 0, 0, 0, 0, 0, 0, 0, 16]) = decide (mu LN p = E0) := by
  have k := isid_ok (lp_mul h ordL_byt rfl)
  rw [ordL_BV] at k
  exact k
theorem prime_enc (p : E) : apPrime (encE p) = decide (mu LN p = E0) ∧ apPrime_1 (encE p) = 0 :=
  ⟨(cond_t (op1 p)).trans (mulL_ok (op2 p)), cond_t (op1 p)⟩
theorem mont_enc (p : E) : apMont (encE p) = B32 ((uY finv p.1.2).val : Int) ∧ apMont_1 (encE p) = 0 := by
  refine ⟨(cond_t (op1 p)).trans ?_, cond_t (op1 p)⟩
  obtain ⟨_, ⟨y, ey⟩⟩ := la_xy (op_enc p).2
  have a := plus_ok one5.1 y
  have b := min_ok one5.1 y
  have i := inv_ok b.1
  have m := mul_ok a.1 i.1
  show feBytes _ = _
  rw [bytes_ok m.1, m.2, a.2, i.2, b.2, one5.2, ey]
  rfl
/-- two forms are one just where the points are one -/
theorem enc_dec2 (p q : E) : decide (encE p = encE q) = decide (p = q) := decide_eq_decide.2 ⟨encE_inj, fun h => h ▸ rfl⟩
end Go.Proofs.Ytodiojpakfjehaa.X

/- Printed by a tool of this session. -/
namespace Go.Proofs.Ytodiojpakfjehaa.X
open Go Go.Proofs
set_option linter.unusedVariables false
set_option linter.unusedSimpArgs false
set_option maxRecDepth 100000
theorem teVN_5 : TEOk Try.prog 5 ⟨.int .u8, 1, 1, [.i .u8 (0 : Int)], false⟩ :=
  TEOk.of Try.underlying5 (i := Try.t5) (by kernel_rfl) rfl rfl rfl (by kernel_rfl) (fun h => by cases h) (by kernel_rfl)
theorem teVN_23 : TEOk Try.prog 23 ⟨.array 32 5, 32, 32, [.ints .u8 (32 : Nat) ([0, 0, 0, 0, 0, 0, 0, 0, 0, 0, 0, 0, 0, 0, 0, 0, 0, 0, 0, 0, 0, 0, 0, 0, 0, 0, 0, 0, 0, 0, 0, 0] : List Int)], true⟩ :=
  TEOk.of Try.underlying23 (i := Try.t23) (by kernel_rfl) rfl rfl rfl (by kernel_rfl) (fun _ => Try.eqGuardType23) (by kernel_rfl)
theorem teVN_32 : TEOk Try.prog 32 ⟨.slice 5, 1, 24, [.raw (.slice none 0 0)], false⟩ :=
  TEOk.of Try.underlying32 (i := Try.t32) (by kernel_rfl) rfl rfl rfl (by kernel_rfl) (fun h => by cases h) (by kernel_rfl)
theorem teVN_37 : TEOk Try.prog 37 ⟨.array 32 5, 32, 32, [.ints .u8 (32 : Nat) ([0, 0, 0, 0, 0, 0, 0, 0, 0, 0, 0, 0, 0, 0, 0, 0, 0, 0, 0, 0, 0, 0, 0, 0, 0, 0, 0, 0, 0, 0, 0, 0] : List Int)], true⟩ :=
  TEOk.of Try.underlying37 (i := Try.t37) (by kernel_rfl) rfl rfl rfl (by kernel_rfl) (fun _ => Try.eqGuardType37) (by kernel_rfl)
theorem teVN_45 : TEOk Try.prog 45 ⟨.slice 23, 1, 24, [.raw (.slice none 0 0)], false⟩ :=
  TEOk.of Try.underlying45 (i := Try.t45) (by kernel_rfl) rfl rfl rfl (by kernel_rfl) (fun h => by cases h) (by kernel_rfl)
theorem teVN_94 : TEOk Try.prog 94 ⟨Try.t93.desc, 20, 160, [.ints .u64 (20 : Nat) ([0, 0, 0, 0, 0, 0, 0, 0, 0, 0, 0, 0, 0, 0, 0, 0, 0, 0, 0, 0] : List Int)], false⟩ :=
  TEOk.of Try.underlying94 (i := Try.t94) (by kernel_rfl) rfl rfl rfl (by kernel_rfl) (fun h => by cases h) (by kernel_rfl)
noncomputable def tabVN : List (Nat × TE) := [(5, ⟨.int .u8, 1, 1, [.i .u8 (0 : Int)], false⟩), (23, ⟨.array 32 5, 32, 32, [.ints .u8 (32 : Nat) ([0, 0, 0, 0, 0, 0, 0, 0, 0, 0, 0, 0, 0, 0, 0, 0, 0, 0, 0, 0, 0, 0, 0, 0, 0, 0, 0, 0, 0, 0, 0, 0] : List Int)], true⟩), (32, ⟨.slice 5, 1, 24, [.raw (.slice none 0 0)], false⟩), (37, ⟨.array 32 5, 32, 32, [.ints .u8 (32 : Nat) ([0, 0, 0, 0, 0, 0, 0, 0, 0, 0, 0, 0, 0, 0, 0, 0, 0, 0, 0, 0, 0, 0, 0, 0, 0, 0, 0, 0, 0, 0, 0, 0] : List Int)], true⟩), (45, ⟨.slice 23, 1, 24, [.raw (.slice none 0 0)], false⟩), (94, ⟨Try.t93.desc, 20, 160, [.ints .u64 (20 : Nat) ([0, 0, 0, 0, 0, 0, 0, 0, 0, 0, 0, 0, 0, 0, 0, 0, 0, 0, 0, 0] : List Int)], false⟩)]
theorem tabOkVN : TabOk Try.prog (tabOf tabVN) := (tabOf_cons teVN_5 (tabOf_cons teVN_23 (tabOf_cons teVN_32 (tabOf_cons teVN_37 (tabOf_cons teVN_45 (tabOf_cons teVN_94 tabOf_nil))))))

set_option maxHeartbeats 1000000 in
theorem num_body0 (x : Int) (w : World) : Body Try.prog (tabOf tabVN) Try.f43 ⟨w, [], 0, noEnv⟩ (toA [.a (.i .i64 x)]) [] (fun ys _ => ys = [.a (.i .i64 x)]) :=
  Body.of_fin (Γ := gam55) (Λ := noLam) (Ψ := noPsi) (fuel := 0) (m := 4) (c := (Try.f43.body.getD .skip)) mix tabOkVN gam55_ok rfl (rs := [.tmp 2]) rfl rfl [] []
    (vc := []) (by kernel_rfl)
    (AllP_nil)

theorem num_body (x : Int) (w : World) : Body Try.prog (tabOf tabVN) Try.f43 ⟨w, [], 0, noEnv⟩ (toA [.a (.i .i64 x)]) [] (fun ys _ => ys = [.a (.i .i64 x)]) :=
  Body.lens (c := (Try.f43.body.getD .skip)) rfl fun h => num_body0 x  w

theorem num_pure (x : Int) : PureC Try.prog 43 [.a (.i .i64 x)] [.a (.i .i64 x)] :=
  PureC.of_body tabOkVN Try.func43 rfl rfl fun w => num_body x w

def gam57 : Gam := gpure 43 (fun args => match args with | [.o (.a (.i .i64 x))] => some (none, [.a (.i .i64 x)]) | _ => none) gam55
theorem gam57_ok : GamOk Try.prog gam57 := gpure_ok gam55_ok Try.call43 (by
  intro args vc xs h hv
  split at h
  · simp only [Option.some.injEq, Prod.mk.injEq] at h; obtain ⟨rfl, rfl⟩ := h; exact ⟨_, by rfl, num_pure _⟩
  · simp at h)

def lwAdd (r : List Int) (s : List Int) : List Int :=
  (cond ((apAdd_1 r s) != (0 : Int)) ([0, 0, 0, 0, 0, 0, 0, 0, 0, 0, 0, 0, 0, 0, 0, 0, 0, 0, 0, 0, 0, 0, 0, 0, 0, 0, 0, 0, 0, 0, 0, 0] : List Int) (apAdd r s))

set_option maxHeartbeats 1000000 in
theorem lwMul_w0_body0 (K : List Int) (s : List Int) (hv0 : List.length K = (32 : Nat)) (hv1 : List.length s = (32 : Nat)) (hb0 : ((oneMul_1 s) != (0 : Int)) = true) (w : World) : Body Try.prog (tabOf tabVN) Try.f18 ⟨w, [], 0, noEnv⟩ (toA [.g [.ints .u8 (32 : Nat) K], .g [.ints .u8 (32 : Nat) s]]) [] (fun ys _ => ys = [.g [.ints .u8 (32 : Nat) ([0, 0, 0, 0, 0, 0, 0, 0, 0, 0, 0, 0, 0, 0, 0, 0, 0, 0, 0, 0, 0, 0, 0, 0, 0, 0, 0, 0, 0, 0, 0, 0] : List Int)]]) :=
  Body.of_fin (Γ := gam57) (Λ := noLam) (Ψ := noPsi) (fuel := 0) (m := 17) (c := (Try.f18.body.getD .skip)) mix tabOkVN gam57_ok rfl (rs := [.cell 4 23]) rfl rfl [true] []
    (vc := [(((oneMul_1 s) != (0 : Int)) = true)]) (by kernel_rfl)
    (AllP_cons hb0 (AllP_nil))

set_option maxHeartbeats 1000000 in
theorem lwMul_w1_body0 (K : List Int) (s : List Int) (hv0 : List.length K = (32 : Nat)) (hv1 : List.length s = (32 : Nat)) (hb0 : ((oneMul_1 s) != (0 : Int)) = false) (w : World) : Body Try.prog (tabOf tabVN) Try.f18 ⟨w, [], 0, noEnv⟩ (toA [.g [.ints .u8 (32 : Nat) K], .g [.ints .u8 (32 : Nat) s]]) [] (fun ys _ => ys = [.g [.ints .u8 (32 : Nat) (oneMul K s)]]) :=
  Body.of_fin (Γ := gam57) (Λ := noLam) (Ψ := noPsi) (fuel := 0) (m := 17) (c := (Try.f18.body.getD .skip)) mix tabOkVN gam57_ok rfl (rs := [.cell 4 23]) rfl rfl [false] []
    (vc := [(((oneMul_1 s) != (0 : Int)) = false)]) (by kernel_rfl)
    (AllP_cons hb0 (AllP_nil))

def lwMul (K : List Int) (s : List Int) : List Int :=
  (cond ((oneMul_1 s) != (0 : Int)) ([0, 0, 0, 0, 0, 0, 0, 0, 0, 0, 0, 0, 0, 0, 0, 0, 0, 0, 0, 0, 0, 0, 0, 0, 0, 0, 0, 0, 0, 0, 0, 0] : List Int) (oneMul K s))

set_option maxHeartbeats 1000000 in
theorem lwMul_body (K : List Int) (s : List Int) (w : World) : Body Try.prog (tabOf tabVN) Try.f18 ⟨w, [], 0, noEnv⟩ (toA [.g [.ints .u8 (32 : Nat) K], .g [.ints .u8 (32 : Nat) s]]) [] (fun ys _ => ys = [.g [.ints .u8 (32 : Nat) (lwMul K s)]]) :=
  Body.lens (c := (Try.f18.body.getD .skip)) rfl fun h => by
    cases hb0 : ((oneMul_1 s) != (0 : Int))
    · exact (lwMul_w1_body0 K s (h.vals 0 _ _ _ rfl) (h.vals 1 _ _ _ rfl) hb0 w).mono fun _ _ hx => hx.trans (by rw [(show (lwMul K s) = (oneMul K s) from (cond_f hb0))])
    · exact (lwMul_w0_body0 K s (h.vals 0 _ _ _ rfl) (h.vals 1 _ _ _ rfl) hb0 w).mono fun _ _ hx => hx.trans (by rw [(show (lwMul K s) = ([0, 0, 0, 0, 0, 0, 0, 0, 0, 0, 0, 0, 0, 0, 0, 0, 0, 0, 0, 0, 0, 0, 0, 0, 0, 0, 0, 0, 0, 0, 0, 0] : List Int) from (cond_t hb0))])

theorem lwMul_pure (K : List Int) (s : List Int) : PureC Try.prog 18 [.g [.ints .u8 (32 : Nat) K], .g [.ints .u8 (32 : Nat) s]] [.g [.ints .u8 (32 : Nat) (lwMul K s)]] :=
  PureC.of_body tabOkVN Try.func18 rfl rfl fun w => lwMul_body K s w

def gam59 : Gam := gpure 18 (fun args => match args with | [.o (.g [.ints .u8 (32 : Nat) K]), .o (.g [.ints .u8 (32 : Nat) s])] => some (none, [.g [.ints .u8 (32 : Nat) (lwMul K s)]]) | _ => none) gam57
theorem gam59_ok : GamOk Try.prog gam59 := gpure_ok gam57_ok Try.call18 (by
  intro args vc xs h hv
  split at h
  · simp only [Option.some.injEq, Prod.mk.injEq] at h; obtain ⟨rfl, rfl⟩ := h; exact ⟨_, by rfl, lwMul_pure _ _⟩
  · simp at h)

set_option maxHeartbeats 1000000 in
theorem apDecE_body0 (n : Nat) (nm : Nat) (b : List Int) (cap0 : Nat) (h0 : (nm = n)) (h1 : (n ≠ (32 : Nat))) (hc0 : n ≤ cap0) (hl0_0 : List.length b = nm) (w : World) (β : Env) : Body Try.prog (tabOf tabVN) Try.f13 ⟨w, [], 1, β⟩ [.o (.a (.sl 0 (0 : Nat) n cap0))] [some ⟨false, [.ints .u8 nm b]⟩] (fun ys _ => ys = [.g [.ints .u8 (32 : Nat) ([0, 0, 0, 0, 0, 0, 0, 0, 0, 0, 0, 0, 0, 0, 0, 0, 0, 0, 0, 0, 0, 0, 0, 0, 0, 0, 0, 0, 0, 0, 0, 0] : List Int)], .a (.i .i64 (3 : Int))]) :=
  Body.of_fin (Γ := gam59) (Λ := noLam) (Ψ := noPsi) (fuel := 0) (m := 20) (c := (Try.f13.body.getD .skip)) mix tabOkVN gam59_ok rfl (rs := [.cell 2 23, .tmp 3]) rfl rfl [true] []
    (vc := [((((n : Nat) : Int) != (32 : Int)) = true)]) (by kernel_rfl)
    (AllP_cons (bne_iff_ne.2 (by omega)) (AllP_nil))

theorem apDecE_body (n : Nat) (nm : Nat) (b : List Int) (cap0 : Nat) (h0 : (nm = n)) (h1 : (n ≠ (32 : Nat))) (w : World) (β : Env) : Body Try.prog (tabOf tabVN) Try.f13 ⟨w, [], 1, β⟩ [.o (.a (.sl 0 (0 : Nat) n cap0))] [some ⟨false, [.ints .u8 nm b]⟩] (fun ys _ => ys = [.g [.ints .u8 (32 : Nat) ([0, 0, 0, 0, 0, 0, 0, 0, 0, 0, 0, 0, 0, 0, 0, 0, 0, 0, 0, 0, 0, 0, 0, 0, 0, 0, 0, 0, 0, 0, 0, 0] : List Int)], .a (.i .i64 (3 : Int))]) :=
  Body.lens (c := (Try.f13.body.getD .skip)) rfl fun h => apDecE_body0 n nm b cap0 h0 h1 (h.caps 0 _ _ _ _ rfl) (h.lens 0 _ .u8 nm b rfl (by simp)) w β

def gam61 : Gam := greadV 13 [.s 1] (fun vs args => match vs, args with | [⟨_, _, _, [.ints .u8 nm b]⟩], [a0] => some ((nm = (lenOfA a0)) ∧ ((lenOfA a0) ≠ (32 : Nat)), [.g [.ints .u8 (32 : Nat) ([0, 0, 0, 0, 0, 0, 0, 0, 0, 0, 0, 0, 0, 0, 0, 0, 0, 0, 0, 0, 0, 0, 0, 0, 0, 0, 0, 0, 0, 0, 0, 0] : List Int)], .a (.i .i64 (3 : Int))]) | _, _ => none) gam59
theorem gam61_ok : GamOk Try.prog gam61 := greadV_ok tabOkVN Try.func13 gam59_ok Try.call13 (by
  intro vs args p xs h hv
  split at h
  · simp only [Option.some.injEq, Prod.mk.injEq] at h; obtain ⟨rfl, rfl⟩ := h; exact ⟨by rfl, fun caps w β => apDecE_body _ _ _ _ hv.1 hv.2 w β⟩
  · simp at h)

def apO8 : List Int :=
  let z0 : List Int := (ptAdd (ptAdd (ptId) (ptT)) (ptT))
  let z1 : List Int := (ptAdd z0 (ptT))
  let z2 : List Int := (ptAdd z1 (ptT))
  let z3 : List Int := (ptAdd z2 (ptT))
  let z4 : List Int := (ptAdd z3 (ptT))
  ((sub ((sub ((sub ((sub ((sub ((sub ((sub (sub (ptForm (ptId)) (0 : Nat) (32 : Nat)) (0 : Nat) (32 : Nat)) ++ (sub (ptForm (ptAdd (ptId) (ptT))) (0 : Nat) (32 : Nat))) (0 : Nat) (64 : Nat)) ++ (sub (ptForm z0) (0 : Nat) (32 : Nat))) (0 : Nat) (96 : Nat)) ++ (sub (ptForm z1) (0 : Nat) (32 : Nat))) (0 : Nat) (128 : Nat)) ++ (sub (ptForm z2) (0 : Nat) (32 : Nat))) (0 : Nat) (160 : Nat)) ++ (sub (ptForm z3) (0 : Nat) (32 : Nat))) (0 : Nat) (192 : Nat)) ++ (sub (ptForm z4) (0 : Nat) (32 : Nat))) (0 : Nat) (224 : Nat)) ++ (sub (ptForm (ptAdd z4 (ptT))) (0 : Nat) (32 : Nat)))

set_option maxHeartbeats 1000000 in
theorem apO8_body0 (w : World) (rw : List Nat) (β : Env) : Body Try.prog (tabOf tabVN) Try.f25 ⟨w, rw, 0, β⟩ [] [] (fun ys K' => ys = [.a (.rs 0 (0 : Nat) (8 : Nat) 32)] ∧ K' = [some ⟨true, [.ints .u8 (256 : Nat) (apO8)]⟩]) :=
  Body.of_finK (Γ := gam61) (Λ := noLam) (Ψ := noPsi) (fuel := 9) (m := 16) (c := (Try.f25.body.getD .skip)) mix tabOkVN gam61_ok rfl (rs := [.tmp 0]) rfl rfl [true, false, true, false, true, false, true, false, true, false, true, false, true, false, true, false, false] [.swap 0 16] 1
    (vc := [(false = false), (((224 : Nat) ≤ (224 : Nat)) ∧ (((1 : Nat) ≤ (1 : Nat)) ∧ ((32 : Nat) ≤ (32 : Nat))) ∧ ((256 : Nat) ≤ (140737488355328 : Nat))), (true = true), (((192 : Nat) ≤ (192 : Nat)) ∧ (((1 : Nat) ≤ (1 : Nat)) ∧ ((32 : Nat) ≤ (32 : Nat))) ∧ ((224 : Nat) ≤ (140737488355328 : Nat))), (true = true), (((160 : Nat) ≤ (160 : Nat)) ∧ (((1 : Nat) ≤ (1 : Nat)) ∧ ((32 : Nat) ≤ (32 : Nat))) ∧ ((192 : Nat) ≤ (140737488355328 : Nat))), (true = true), (((128 : Nat) ≤ (128 : Nat)) ∧ (((1 : Nat) ≤ (1 : Nat)) ∧ ((32 : Nat) ≤ (32 : Nat))) ∧ ((160 : Nat) ≤ (140737488355328 : Nat))), (true = true), (((96 : Nat) ≤ (96 : Nat)) ∧ (((1 : Nat) ≤ (1 : Nat)) ∧ ((32 : Nat) ≤ (32 : Nat))) ∧ ((128 : Nat) ≤ (140737488355328 : Nat))), (true = true), (((64 : Nat) ≤ (64 : Nat)) ∧ (((1 : Nat) ≤ (1 : Nat)) ∧ ((32 : Nat) ≤ (32 : Nat))) ∧ ((96 : Nat) ≤ (140737488355328 : Nat))), (true = true), (((32 : Nat) ≤ (32 : Nat)) ∧ (((1 : Nat) ≤ (1 : Nat)) ∧ ((32 : Nat) ≤ (32 : Nat))) ∧ ((64 : Nat) ≤ (140737488355328 : Nat))), (true = true), ((((1 : Nat) ≤ (1 : Nat)) ∧ ((32 : Nat) ≤ (32 : Nat))) ∧ ((32 : Nat) ≤ (140737488355328 : Nat))), (true = true)]) (by kernel_rfl)
    (AllP_cons rfl (AllP_cons ⟨(by decide), ⟨(by decide), (by decide)⟩, (by decide)⟩ (AllP_cons rfl (AllP_cons ⟨(by decide), ⟨(by decide), (by decide)⟩, (by decide)⟩ (AllP_cons rfl (AllP_cons ⟨(by decide), ⟨(by decide), (by decide)⟩, (by decide)⟩ (AllP_cons rfl (AllP_cons ⟨(by decide), ⟨(by decide), (by decide)⟩, (by decide)⟩ (AllP_cons rfl (AllP_cons ⟨(by decide), ⟨(by decide), (by decide)⟩, (by decide)⟩ (AllP_cons rfl (AllP_cons ⟨(by decide), ⟨(by decide), (by decide)⟩, (by decide)⟩ (AllP_cons rfl (AllP_cons ⟨(by decide), ⟨(by decide), (by decide)⟩, (by decide)⟩ (AllP_cons rfl (AllP_cons ⟨⟨(by decide), (by decide)⟩, (by decide)⟩ (AllP_cons rfl (AllP_nil))))))))))))))))))

theorem apO8_body (w : World) (rw : List Nat) (β : Env) : Body Try.prog (tabOf tabVN) Try.f25 ⟨w, rw, 0, β⟩ [] [] (fun ys K' => ys = [.a (.rs 0 (0 : Nat) (8 : Nat) 32)] ∧ K' = [some ⟨true, [.ints .u8 (256 : Nat) (apO8)]⟩]) :=
  Body.lens (c := (Try.f25.body.getD .skip)) rfl fun h => apO8_body0  w rw β

def gam62 : Gam := gcall 25 [] [] (fun wk vs args => match wk, vs, args with | [], [], [] => some (True, [.a (.rs 0 (0 : Nat) (8 : Nat) 32)], [some ⟨true, [.ints .u8 (256 : Nat) (apO8)]⟩]) | _, _, _ => none) gam61
theorem gam62_ok : GamOk Try.prog gam62 := gcall_ok tabOkVN Try.func25 gam61_ok Try.call25 (by
  intro wk vs args p xs K1 h hv
  split at h
  · simp only [Option.some.injEq, Prod.mk.injEq] at h; obtain ⟨rfl, rfl, rfl⟩ := h; exact fun caps w rw β => apO8_body w rw β
  · simp at h)

end Go.Proofs.Ytodiojpakfjehaa.X

/- The small example that each law begins with. -/
namespace Go.Proofs.Ytodiojpakfjehaa.X
open Go Go.Proofs
set_option linter.unusedVariables false
set_option linter.unusedSimpArgs false
set_option maxRecDepth 100000

def p4 : E := ⟨(cI, 0), by decide +kernel⟩
theorem p4_enc : encE p4 = z32 := by decide +kernel
theorem p4_L : mu LN p4 ≠ E0 := fun h => absurd ((qr_zero (qr_mulN (qr_aff p4) (f := 253) (by decide +kernel))).1 h) (by decide +kernel)
theorem wk_prime : apPrime z32 = false ∧ apPrime_1 z32 = 0 := by
  rw [← p4_enc]
  have k := prime_enc p4
  exact ⟨k.1.trans (decide_eq_false p4_L), k.2⟩
def pB2 : E := ⟨(fI 24727413235106541002554574571675588834622768167397638456726423682521233608206, fI 15549675580280190176352668710449542251549572066445060580507079593062643049417), by decide +kernel⟩
theorem pB2_eq : mu 2 eB = pB2 := by
  have k := qr_mulN (qr_aff eB) (n := 2) (f := 2) (by decide)
  refine Ep.ext (rep_uniq fp_curve k ?_)
  exact ⟨by decide +kernel, by decide +kernel, by decide +kernel, by decide +kernel⟩
theorem pB2_enc : encE pB2 = [201, 163, 248, 106, 174, 70, 95, 14, 86, 81, 56, 100, 81, 15, 57, 151, 86, 31, 162, 201, 232, 94, 162, 29, 194, 41, 35, 9, 243, 205, 96, 34] := by decide +kernel
theorem wk_two : apMulB [2, 0, 0, 0, 0, 0, 0, 0, 0, 0, 0, 0, 0, 0, 0, 0, 0, 0, 0, 0, 0, 0, 0, 0, 0, 0, 0, 0, 0, 0, 0, 0] = encE pB2 := by
  rw [mulB_enc (byt_small (by decide)) rfl, ← pB2_eq]
  have : (BV [2, 0, 0, 0, 0, 0, 0, 0, 0, 0, 0, 0, 0, 0, 0, 0, 0, 0, 0, 0, 0, 0, 0, 0, 0, 0, 0, 0, 0, 0, 0, 0]).toNat = 2 := by decide +kernel
  rw [this]
theorem wk_add : apAdd apBase apBase = encE pB2 := by
  rw [base_enc, add_enc, ← pB2_eq]
  have h1 := mu_add 1 1 eB
  rw [mu_one] at h1
  rw [← h1]
theorem wk_addc : apAdd_1 apBase apBase = 0 := by rw [base_enc]; exact addc_enc _ _
theorem y2_none (x : Fp) : ¬ On cD (x, fI 2) := by
  intro h
  have h1 := on_sq h
  have h2 : x * x = fI 43446857792565604583783486763960003913525092658904367978015407342224011949000 := by
    refine fp_curve.can (den_y (fI 2)) (h1.trans ?_)
    decide +kernel
  have h3 : fpw (fI 43446857792565604583783486763960003913525092658904367978015407342224011949000) ((PP - 1) / 2) = -1 := by
    apply Fin.ext
    rw [fpw_pwm _ (f := 255) (by decide +kernel)]
    decide +kernel
  rw [← h2, ← fpw_2, ← fpw_mul] at h3
  by_cases hx : x = 0
  · rw [hx, fpw_zero (by decide +kernel)] at h3
    exact absurd h3 (by decide +kernel)
  · rw [show 2 * ((PP - 1) / 2) = PP - 1 by decide +kernel, fp_fermat hx] at h3
    exact absurd h3 (by decide +kernel)
theorem wk_chk : apCheck [2, 0, 0, 0, 0, 0, 0, 0, 0, 0, 0, 0, 0, 0, 0, 0, 0, 0, 0, 0, 0, 0, 0, 0, 0, 0, 0, 0, 0, 0, 0, 0] = 41 := by
  refine chk_none (byt_small (by decide)) rfl ?_
  have e : BV [2, 0, 0, 0, 0, 0, 0, 0, 0, 0, 0, 0, 0, 0, 0, 0, 0, 0, 0, 0, 0, 0, 0, 0, 0, 0, 0, 0, 0, 0, 0, 0] = 2 := by decide +kernel
  unfold decE
  rw [e, if_pos (by decide), show (2 : Int) % 57896044618658097711785492504343953926634992332820282019728792003956564819968 = 2 from by decide]
  cases h : decP (decide ((57896044618658097711785492504343953926634992332820282019728792003956564819968 : Int) ≤ 2)) (fI 2) with
  | none => rfl
  | some p =>
    obtain ⟨⟨x, y⟩, o⟩ := p
    have hy := (decP_y h).1
    simp only at hy
    subst hy
    exact absurd o (y2_none x)
/-! the eight -/
theorem T_ok : LP ptT eT := by
  have h : decE [38, 232, 149, 143, 194, 178, 39, 176, 69, 195, 244, 137, 242, 239, 152, 240, 213, 223, 172, 5, 211, 198, 51, 57, 177, 56, 2, 136, 109, 83, 252, 5] = some eT := by
    have e : encE eT = [38, 232, 149, 143, 194, 178, 39, 176, 69, 195, 244, 137, 242, 239, 152, 240, 213, 223, 172, 5, 211, 198, 51, 57, 177, 56, 2, 136, 109, 83, 252, 5] := by decide +kernel
    rw [← e]; exact dec_enc eT
  exact ((open_ok (byt_small (by decide)) rfl).2 eT h).2.lp
end Go.Proofs.Ytodiojpakfjehaa.X

/- The eight points; the points that bytes are made into. -/
namespace Go.Proofs.Ytodiojpakfjehaa.X
open Go Go.Proofs
set_option linter.unusedVariables false
set_option linter.unusedSimpArgs false
set_option maxRecDepth 100000

theorem and7 (x : Int) (h0 : 0 ≤ x) (h1 : x < 256) : bits2 .and .u8 x 7 = x % 8 := by
  have key : ∀ n : Nat, n < 256 → bits2 .and .u8 ((n : Nat) : Int) 7 = ((n : Nat) : Int) % 8 := by decide +kernel
  obtain ⟨n, rfl⟩ := Int.eq_ofNat_of_zero_le h0
  exact key n (by omega)
theorem and7_rng (x : Int) : 0 ≤ bits2 .and .u8 x 7 ∧ bits2 .and .u8 x 7 < 8 := by
  have e : bits2 .and .u8 x 7 = IntKind.u8.wrap (((BitVec.ofInt 8 x &&& BitVec.ofInt 8 7).toNat : Nat) : Int) := rfl
  have t2 : (BitVec.ofInt 8 7).toNat = 2 ^ 3 - 1 := by rfl
  rw [e, BitVec.toNat_and, t2, Nat.and_two_pow_sub_one_eq_mod, wrap8]
  omega
theorem sub_all (l : List Int) (n : Nat) (h : l.length ≤ n) : sub l 0 n = l := by
  unfold sub
  rw [List.drop_zero, List.take_of_length_le h]
/-- the forms of points, one behind the other -/
def encs (f : Nat → E) : Nat → List Int
  | 0 => []
  | n + 1 => encs f n ++ encE (f n)
theorem encs_len (f : Nat → E) (n : Nat) : (encs f n).length = n * 32 := by
  induction n with
  | zero => rfl
  | succ n ih => show (encs f n ++ encE (f n)).length = _; rw [List.length_append, ih, encE_len]; omega
theorem encs_sub (f : Nat → E) {n k : Nat} (h : k < n) : sub (encs f n) (k * 32) 32 = encE (f k) := by
  induction n with
  | zero => omega
  | succ n ih =>
    show sub (encs f n ++ encE (f n)) (k * 32) 32 = _
    by_cases hk : k < n
    · have := ih hk
      rw [← this]
      have l := encs_len f n
      refine List.ext_getElem? fun r => ?_
      by_cases hr : r < 32
      · rw [sub_get hr, sub_get hr, List.getElem?_append_left (by omega)]
      · rw [List.getElem?_eq_none, List.getElem?_eq_none]
        · rw [sub_len _ _ _ (by omega)]; omega
        · rw [sub_len _ _ _ (by rw [List.length_append, encE_len]; omega)]; omega
    · have : k = n := by omega
      subst this
      have l := encs_len f k
      refine List.ext_getElem? fun r => ?_
      by_cases hr : r < 32
      · rw [sub_get hr, List.getElem?_append_right (by omega)]
        congr 1; omega
      · rw [List.getElem?_eq_none, List.getElem?_eq_none]
        · rw [encE_len]; omega
        · rw [sub_len _ _ _ (by rw [List.length_append, encE_len]; omega)]; omega
theorem lp_T (k : Nat) : ∀ {l : List Int}, LP l (mu k eT) → LP (ptAdd l ptT) (mu (k + 1) eT) := fun h => lp_add h T_ok
theorem o8_eq : apO8 = encs (fun k => mu k eT) 8 := by
  have h0 : LP ptId (mu 0 eT) := lp_id
  have h1 := lp_T 0 h0
  have h2 := lp_T 1 h1
  have h3 := lp_T 2 h2
  have h4 := lp_T 3 h3
  have h5 := lp_T 4 h4
  have h6 := lp_T 5 h5
  have h7 := lp_T 6 h6
  unfold apO8
  simp only
  rw [form_ok h0, form_ok h1, form_ok h2, form_ok h3, form_ok h4, form_ok h5, form_ok h6, form_ok h7]
  simp (disch := (simp only [List.length_append, encE_len]; decide)) only [sub_all]
  rfl
/-- the point that a law makes of any 32 bytes -/
noncomputable def ptF (s : List Int) : E :=
  match decE s with
  | some p => p
  | none => ad (mu (BV s).toNat eB) (mu (List.getD s 0 0 % 8).toNat eT)
theorem lwAdd_enc (p q : E) : lwAdd (encE p) (encE q) = encE (ad p q) := by
  unfold lwAdd
  rw [addc_enc]
  exact add_enc p q
theorem lwMul_enc {K : List Int} (hK : Byt K) (l : K.length = 32) (p : E) : lwMul K (encE p) = encE (mu (BV K).toNat p) := by
  unfold lwMul
  rw [mulc_enc]
  exact mul_enc hK l p
end Go.Proofs.Ytodiojpakfjehaa.X

/- Printed by a tool of this session. -/
namespace Go.Proofs.Ytodiojpakfjehaa.X
open Go Go.Proofs
set_option linter.unusedVariables false
set_option linter.unusedSimpArgs false
set_option maxRecDepth 100000
theorem teVO_5 : TEOk Try.prog 5 ⟨.int .u8, 1, 1, [.i .u8 (0 : Int)], false⟩ :=
  TEOk.of Try.underlying5 (i := Try.t5) (by kernel_rfl) rfl rfl rfl (by kernel_rfl) (fun h => by cases h) (by kernel_rfl)
theorem teVO_23 : TEOk Try.prog 23 ⟨.array 32 5, 32, 32, [.ints .u8 (32 : Nat) ([0, 0, 0, 0, 0, 0, 0, 0, 0, 0, 0, 0, 0, 0, 0, 0, 0, 0, 0, 0, 0, 0, 0, 0, 0, 0, 0, 0, 0, 0, 0, 0] : List Int)], true⟩ :=
  TEOk.of Try.underlying23 (i := Try.t23) (by kernel_rfl) rfl rfl rfl (by kernel_rfl) (fun _ => Try.eqGuardType23) (by kernel_rfl)
theorem teVO_32 : TEOk Try.prog 32 ⟨.slice 5, 1, 24, [.raw (.slice none 0 0)], false⟩ :=
  TEOk.of Try.underlying32 (i := Try.t32) (by kernel_rfl) rfl rfl rfl (by kernel_rfl) (fun h => by cases h) (by kernel_rfl)
theorem teVO_37 : TEOk Try.prog 37 ⟨.array 32 5, 32, 32, [.ints .u8 (32 : Nat) ([0, 0, 0, 0, 0, 0, 0, 0, 0, 0, 0, 0, 0, 0, 0, 0, 0, 0, 0, 0, 0, 0, 0, 0, 0, 0, 0, 0, 0, 0, 0, 0] : List Int)], true⟩ :=
  TEOk.of Try.underlying37 (i := Try.t37) (by kernel_rfl) rfl rfl rfl (by kernel_rfl) (fun _ => Try.eqGuardType37) (by kernel_rfl)
theorem teVO_45 : TEOk Try.prog 45 ⟨.slice 23, 1, 24, [.raw (.slice none 0 0)], false⟩ :=
  TEOk.of Try.underlying45 (i := Try.t45) (by kernel_rfl) rfl rfl rfl (by kernel_rfl) (fun h => by cases h) (by kernel_rfl)
noncomputable def tabVO : List (Nat × TE) := [(5, ⟨.int .u8, 1, 1, [.i .u8 (0 : Int)], false⟩), (23, ⟨.array 32 5, 32, 32, [.ints .u8 (32 : Nat) ([0, 0, 0, 0, 0, 0, 0, 0, 0, 0, 0, 0, 0, 0, 0, 0, 0, 0, 0, 0, 0, 0, 0, 0, 0, 0, 0, 0, 0, 0, 0, 0] : List Int)], true⟩), (32, ⟨.slice 5, 1, 24, [.raw (.slice none 0 0)], false⟩), (37, ⟨.array 32 5, 32, 32, [.ints .u8 (32 : Nat) ([0, 0, 0, 0, 0, 0, 0, 0, 0, 0, 0, 0, 0, 0, 0, 0, 0, 0, 0, 0, 0, 0, 0, 0, 0, 0, 0, 0, 0, 0, 0, 0] : List Int)], true⟩), (45, ⟨.slice 23, 1, 24, [.raw (.slice none 0 0)], false⟩)]
theorem tabOkVO : TabOk Try.prog (tabOf tabVO) := (tabOf_cons teVO_5 (tabOf_cons teVO_23 (tabOf_cons teVO_32 (tabOf_cons teVO_37 (tabOf_cons teVO_45 tabOf_nil)))))

set_option maxHeartbeats 1000000 in
theorem works_body0 (w : World) : Body Try.prog (tabOf tabVO) Try.f10 ⟨w, [], 0, noEnv⟩ (toA []) [] (fun ys _ => ys = [.a (.b true)]) :=
  Body.of_fin (Γ := gam62) (Λ := noLam) (Ψ := noPsi) (fuel := 0) (m := 63) (c := (Try.f10.body.getD .skip)) mix tabOkVO gam62_ok rfl (rs := [.tmp 0]) rfl rfl [true, true, true, true, true, true, true, true, true, true, true, true, true, true, true, true, true, true, true, true, true, true, true, true, true, true, true] [.eqS 0 (.o (.a (.b true)))]
    (vc := [((.o (.a (.b ((apCheck ([2, 0, 0, 0, 0, 0, 0, 0, 0, 0, 0, 0, 0, 0, 0, 0, 0, 0, 0, 0, 0, 0, 0, 0, 0, 0, 0, 0, 0, 0, 0, 0] : List Int)) == (41 : Int)))) : AV) = .o (.a (.b true))), (true = true), (true = true), (true = true), (true = true), (((apPrime_1 ([0, 0, 0, 0, 0, 0, 0, 0, 0, 0, 0, 0, 0, 0, 0, 0, 0, 0, 0, 0, 0, 0, 0, 0, 0, 0, 0, 0, 0, 0, 0, 0] : List Int)) == (0 : Int)) = true), (((apPrime_1 ([0, 0, 0, 0, 0, 0, 0, 0, 0, 0, 0, 0, 0, 0, 0, 0, 0, 0, 0, 0, 0, 0, 0, 0, 0, 0, 0, 0, 0, 0, 0, 0] : List Int)) == (0 : Int)) = true), (((apPrime_1 ([0, 0, 0, 0, 0, 0, 0, 0, 0, 0, 0, 0, 0, 0, 0, 0, 0, 0, 0, 0, 0, 0, 0, 0, 0, 0, 0, 0, 0, 0, 0, 0] : List Int)) == (0 : Int)) = true), (((apPrime_1 ([0, 0, 0, 0, 0, 0, 0, 0, 0, 0, 0, 0, 0, 0, 0, 0, 0, 0, 0, 0, 0, 0, 0, 0, 0, 0, 0, 0, 0, 0, 0, 0] : List Int)) == (0 : Int)) = true), ((!(apPrime ([0, 0, 0, 0, 0, 0, 0, 0, 0, 0, 0, 0, 0, 0, 0, 0, 0, 0, 0, 0, 0, 0, 0, 0, 0, 0, 0, 0, 0, 0, 0, 0] : List Int))) = true), ((!(apPrime ([0, 0, 0, 0, 0, 0, 0, 0, 0, 0, 0, 0, 0, 0, 0, 0, 0, 0, 0, 0, 0, 0, 0, 0, 0, 0, 0, 0, 0, 0, 0, 0] : List Int))) = true), ((!(apPrime ([0, 0, 0, 0, 0, 0, 0, 0, 0, 0, 0, 0, 0, 0, 0, 0, 0, 0, 0, 0, 0, 0, 0, 0, 0, 0, 0, 0, 0, 0, 0, 0] : List Int))) = true), ((!(apPrime ([0, 0, 0, 0, 0, 0, 0, 0, 0, 0, 0, 0, 0, 0, 0, 0, 0, 0, 0, 0, 0, 0, 0, 0, 0, 0, 0, 0, 0, 0, 0, 0] : List Int))) = true), (((apAdd_1 (apBase) (apBase)) == (0 : Int)) = true), (((apAdd_1 (apBase) (apBase)) == (0 : Int)) = true), (((apAdd_1 (apBase) (apBase)) == (0 : Int)) = true), ((decide ((apAdd (apBase) (apBase)) = (apMulB ([2, 0, 0, 0, 0, 0, 0, 0, 0, 0, 0, 0, 0, 0, 0, 0, 0, 0, 0, 0, 0, 0, 0, 0, 0, 0, 0, 0, 0, 0, 0, 0] : List Int)))) = true), ((decide ((apAdd (apBase) (apBase)) = (apMulB ([2, 0, 0, 0, 0, 0, 0, 0, 0, 0, 0, 0, 0, 0, 0, 0, 0, 0, 0, 0, 0, 0, 0, 0, 0, 0, 0, 0, 0, 0, 0, 0] : List Int)))) = true), ((decide ((apAdd (apBase) (apBase)) = (apMulB ([2, 0, 0, 0, 0, 0, 0, 0, 0, 0, 0, 0, 0, 0, 0, 0, 0, 0, 0, 0, 0, 0, 0, 0, 0, 0, 0, 0, 0, 0, 0, 0] : List Int)))) = true), ((decide ((apAdd (apBase) (apBase)) = (apMulB ([2, 0, 0, 0, 0, 0, 0, 0, 0, 0, 0, 0, 0, 0, 0, 0, 0, 0, 0, 0, 0, 0, 0, 0, 0, 0, 0, 0, 0, 0, 0, 0] : List Int)))) = true), (((List.getD (sub (apMulB ([2, 0, 0, 0, 0, 0, 0, 0, 0, 0, 0, 0, 0, 0, 0, 0, 0, 0, 0, 0, 0, 0, 0, 0, 0, 0, 0, 0, 0, 0, 0, 0] : List Int)) (31 : Nat) (1 : Nat)) (0 : Nat) 0) == (34 : Int)) = true), (((List.getD (sub (apMulB ([2, 0, 0, 0, 0, 0, 0, 0, 0, 0, 0, 0, 0, 0, 0, 0, 0, 0, 0, 0, 0, 0, 0, 0, 0, 0, 0, 0, 0, 0, 0, 0] : List Int)) (31 : Nat) (1 : Nat)) (0 : Nat) 0) == (34 : Int)) = true), (((List.getD (sub (apMulB ([2, 0, 0, 0, 0, 0, 0, 0, 0, 0, 0, 0, 0, 0, 0, 0, 0, 0, 0, 0, 0, 0, 0, 0, 0, 0, 0, 0, 0, 0, 0, 0] : List Int)) (31 : Nat) (1 : Nat)) (0 : Nat) 0) == (34 : Int)) = true), (((List.getD (sub (apMulB ([2, 0, 0, 0, 0, 0, 0, 0, 0, 0, 0, 0, 0, 0, 0, 0, 0, 0, 0, 0, 0, 0, 0, 0, 0, 0, 0, 0, 0, 0, 0, 0] : List Int)) (31 : Nat) (1 : Nat)) (0 : Nat) 0) == (34 : Int)) = true), (((List.getD (sub (apMulB ([2, 0, 0, 0, 0, 0, 0, 0, 0, 0, 0, 0, 0, 0, 0, 0, 0, 0, 0, 0, 0, 0, 0, 0, 0, 0, 0, 0, 0, 0, 0, 0] : List Int)) (0 : Nat) (1 : Nat)) (0 : Nat) 0) == (201 : Int)) = true), (((List.getD (sub (apMulB ([2, 0, 0, 0, 0, 0, 0, 0, 0, 0, 0, 0, 0, 0, 0, 0, 0, 0, 0, 0, 0, 0, 0, 0, 0, 0, 0, 0, 0, 0, 0, 0] : List Int)) (0 : Nat) (1 : Nat)) (0 : Nat) 0) == (201 : Int)) = true), (((List.getD (sub (apMulB ([2, 0, 0, 0, 0, 0, 0, 0, 0, 0, 0, 0, 0, 0, 0, 0, 0, 0, 0, 0, 0, 0, 0, 0, 0, 0, 0, 0, 0, 0, 0, 0] : List Int)) (0 : Nat) (1 : Nat)) (0 : Nat) 0) == (201 : Int)) = true), (((List.getD (sub (apMulB ([2, 0, 0, 0, 0, 0, 0, 0, 0, 0, 0, 0, 0, 0, 0, 0, 0, 0, 0, 0, 0, 0, 0, 0, 0, 0, 0, 0, 0, 0, 0, 0] : List Int)) (0 : Nat) (1 : Nat)) (0 : Nat) 0) == (201 : Int)) = true), ((((1 : Nat) ≤ (1 : Nat)) ∧ True) ∧ (((1 : Nat) = (1 : Nat)) ∧ ((1 : Nat) ≠ (32 : Nat))))]) (by kernel_rfl)
    (AllP_cons ((congrArg (fun z => AV.o (.a (.b z))) (beq_iff_eq.2 wk_chk))) (AllP_cons rfl (AllP_cons rfl (AllP_cons rfl (AllP_cons rfl (AllP_cons (beq_iff_eq.2 wk_prime.2) (AllP_cons (beq_iff_eq.2 wk_prime.2) (AllP_cons (beq_iff_eq.2 wk_prime.2) (AllP_cons (beq_iff_eq.2 wk_prime.2) (AllP_cons (congrArg (fun z => !z) wk_prime.1) (AllP_cons (congrArg (fun z => !z) wk_prime.1) (AllP_cons (congrArg (fun z => !z) wk_prime.1) (AllP_cons (congrArg (fun z => !z) wk_prime.1) (AllP_cons (beq_iff_eq.2 wk_addc) (AllP_cons (beq_iff_eq.2 wk_addc) (AllP_cons (beq_iff_eq.2 wk_addc) (AllP_cons (decide_eq_true (wk_add.trans wk_two.symm)) (AllP_cons (decide_eq_true (wk_add.trans wk_two.symm)) (AllP_cons (decide_eq_true (wk_add.trans wk_two.symm)) (AllP_cons (decide_eq_true (wk_add.trans wk_two.symm)) (AllP_cons (beq_iff_eq.2 (by rw [getsub1, wk_two, pB2_enc]; rfl)) (AllP_cons (beq_iff_eq.2 (by rw [getsub1, wk_two, pB2_enc]; rfl)) (AllP_cons (beq_iff_eq.2 (by rw [getsub1, wk_two, pB2_enc]; rfl)) (AllP_cons (beq_iff_eq.2 (by rw [getsub1, wk_two, pB2_enc]; rfl)) (AllP_cons (beq_iff_eq.2 (by rw [getsub1, wk_two, pB2_enc]; rfl)) (AllP_cons (beq_iff_eq.2 (by rw [getsub1, wk_two, pB2_enc]; rfl)) (AllP_cons (beq_iff_eq.2 (by rw [getsub1, wk_two, pB2_enc]; rfl)) (AllP_cons (beq_iff_eq.2 (by rw [getsub1, wk_two, pB2_enc]; rfl)) (AllP_cons ⟨⟨(by decide), trivial⟩, ⟨rfl, (by decide)⟩⟩ (AllP_nil))))))))))))))))))))))))))))))

theorem works_body (w : World) : Body Try.prog (tabOf tabVO) Try.f10 ⟨w, [], 0, noEnv⟩ (toA []) [] (fun ys _ => ys = [.a (.b true)]) :=
  Body.lens (c := (Try.f10.body.getD .skip)) rfl fun h => works_body0  w

theorem works_pure : PureC Try.prog 10 [] [.a (.b true)] :=
  PureC.of_body tabOkVO Try.func10 rfl rfl fun w => works_body w

def gam63 : Gam := gpure 10 (fun args => match args with | [] => some (none, [.a (.b true)]) | _ => none) gam62
theorem gam63_ok : GamOk Try.prog gam63 := gpure_ok gam62_ok Try.call10 (by
  intro args vc xs h hv
  split at h
  · simp only [Option.some.injEq, Prod.mk.injEq] at h; obtain ⟨rfl, rfl⟩ := h; exact ⟨_, by rfl, works_pure⟩
  · simp at h)

set_option maxHeartbeats 1000000 in
theorem lwPt_w0_body0 (s : List Int) (hv0 : List.length s = (32 : Nat)) (hb0 : ((apCheck s) == (0 : Int)) = true) (w : World) : Body Try.prog (tabOf tabVO) Try.f17 ⟨w, [], 0, noEnv⟩ (toA [.g [.ints .u8 (32 : Nat) s]]) [] (fun ys _ => ys = [.g [.ints .u8 (32 : Nat) s]]) :=
  Body.of_fin (Γ := gam63) (Λ := noLam) (Ψ := noPsi) (fuel := 0) (m := 30) (c := (Try.f17.body.getD .skip)) mix tabOkVO gam63_ok rfl (rs := [.cell 2 23]) rfl rfl [true] []
    (vc := [(((apCheck s) == (0 : Int)) = true)]) (by kernel_rfl)
    (AllP_cons hb0 (AllP_nil))

def lwPt_w1 (s : List Int) : List Int :=
  (apAdd (apMulB s) (sub (apO8) ((Int.toNat (bits2 .and .u8 (List.getD (sub s (0 : Nat) (1 : Nat)) (0 : Nat) 0) (7 : Int))) * (32 : Nat)) (32 : Nat)))

set_option maxHeartbeats 1000000 in
theorem lwPt_w1_body0 (s : List Int) (hv0 : List.length s = (32 : Nat)) (hb0 : ((apCheck s) == (0 : Int)) = false) (w : World) : Body Try.prog (tabOf tabVO) Try.f17 ⟨w, [], 0, noEnv⟩ (toA [.g [.ints .u8 (32 : Nat) s]]) [] (fun ys _ => ys = [.g [.ints .u8 (32 : Nat) (lwPt_w1 s)]]) :=
  Body.of_fin (Γ := gam63) (Λ := noLam) (Ψ := noPsi) (fuel := 0) (m := 30) (c := (Try.f17.body.getD .skip)) mix tabOkVO gam63_ok rfl (rs := [.cell 2 23]) rfl rfl [false, false] []
    (vc := [((((Int.toNat (bits2 .and .u8 (List.getD (sub s (0 : Nat) (1 : Nat)) (0 : Nat) 0) (7 : Int))) * (32 : Nat)) + (32 : Nat)) ≤ (256 : Nat)), (((0 : Int) ≤ (bits2 .and .u8 (List.getD (sub s (0 : Nat) (1 : Nat)) (0 : Nat) 0) (7 : Int))) ∧ ((bits2 .and .u8 (List.getD (sub s (0 : Nat) (1 : Nat)) (0 : Nat) 0) (7 : Int)) < (8 : Int))), (false = false), (True ∧ True), (((apCheck s) == (0 : Int)) = false)]) (by kernel_rfl)
    (AllP_cons (by have q := and7_rng (List.getD (sub s 0 1) 0 0); omega) (AllP_cons ⟨(bits2_nn (k := .u8) rfl), (by have q := and7_rng (List.getD (sub s 0 1) 0 0); omega)⟩ (AllP_cons rfl (AllP_cons ⟨trivial, trivial⟩ (AllP_cons hb0 (AllP_nil))))))

def lwPt (s : List Int) : List Int :=
  (cond ((apCheck s) == (0 : Int)) s (lwPt_w1 s))

set_option maxHeartbeats 1000000 in
theorem lwPt_body (s : List Int) (w : World) : Body Try.prog (tabOf tabVO) Try.f17 ⟨w, [], 0, noEnv⟩ (toA [.g [.ints .u8 (32 : Nat) s]]) [] (fun ys _ => ys = [.g [.ints .u8 (32 : Nat) (lwPt s)]]) :=
  Body.lens (c := (Try.f17.body.getD .skip)) rfl fun h => by
    cases hb0 : ((apCheck s) == (0 : Int))
    · exact (lwPt_w1_body0 s (h.vals 0 _ _ _ rfl) hb0 w).mono fun _ _ hx => hx.trans (by rw [(show (lwPt s) = (lwPt_w1 s) from (cond_f hb0))])
    · exact (lwPt_w0_body0 s (h.vals 0 _ _ _ rfl) hb0 w).mono fun _ _ hx => hx.trans (by rw [(show (lwPt s) = s from (cond_t hb0))])

theorem lwPt_pure (s : List Int) : PureC Try.prog 17 [.g [.ints .u8 (32 : Nat) s]] [.g [.ints .u8 (32 : Nat) (lwPt s)]] :=
  PureC.of_body tabOkVO Try.func17 rfl rfl fun w => lwPt_body s w

def gam64 : Gam := gpure 17 (fun args => match args with | [.o (.g [.ints .u8 (32 : Nat) s])] => some (none, [.g [.ints .u8 (32 : Nat) (lwPt s)]]) | _ => none) gam63
theorem gam64_ok : GamOk Try.prog gam64 := gpure_ok gam63_ok Try.call17 (by
  intro args vc xs h hv
  split at h
  · simp only [Option.some.injEq, Prod.mk.injEq] at h; obtain ⟨rfl, rfl⟩ := h; exact ⟨_, by rfl, lwPt_pure _⟩
  · simp at h)

end Go.Proofs.Ytodiojpakfjehaa.X

/- What the laws compare. -/
namespace Go.Proofs.Ytodiojpakfjehaa.X
open Go Go.Proofs
set_option linter.unusedVariables false
set_option linter.unusedSimpArgs false
set_option maxRecDepth 100000

theorem pt_ok {s : List Int} (h : Byt s) (l : s.length = 32) : lwPt s = encE (ptF s) := by
  have b := byt_get h 0
  unfold lwPt ptF
  cases hd : decE s with
  | some p =>
    have c : apCheck s = 0 := by rw [← enc_dec h l hd]; exact chk_enc p
    rw [c]
    exact (enc_dec h l hd).symm
  | none =>
    rw [chk_none h l hd]
    show lwPt_w1 s = _
    unfold lwPt_w1
    rw [getsub1, and7 _ b.1 b.2, mulB_enc h l, o8_eq, encs_sub _ (by omega), add_enc]
theorem lwOrd_enc (p : E) : lwMul [237, 211, 245, 92, 26, 99, 18, 88, 214, 156, 247, 162, 222, 249, 222, 20, 0, 0, 0, 0, 0, 0, 0, 0, 0, 0, 0, 0, 0, 0, 0, 16] (encE p) = encE (mu LN p) := by
  rw [lwMul_enc ordL_byt rfl, ordL_BV]
end Go.Proofs.Ytodiojpakfjehaa.X

/- Bits of the ladder: their places. -/
namespace Go.Proofs.Ytodiojpakfjehaa.X
open Go Go.Proofs
set_option linter.unusedVariables false
set_option maxRecDepth 100000

theorem td8 {k : Nat} (h : k < 256) : IntKind.i64.wrap (Int.tdiv ((255 : Int) - (k : Nat)) 8) = (((255 - k) / 8 : Nat) : Int) := by
  rw [Int.tdiv_eq_ediv_of_nonneg (by omega), wrapI (by omega) (by omega)]; omega
theorem tm8 {k : Nat} (h : k < 256) : Int.tmod ((255 : Int) - (k : Nat)) 8 = (((255 - k) % 8 : Nat) : Int) := by
  rw [Int.tmod_eq_emod_of_nonneg (by omega)]; omega
end Go.Proofs.Ytodiojpakfjehaa.X

/- Printed by a tool of this session. -/
namespace Go.Proofs.Ytodiojpakfjehaa.X
open Go Go.Proofs
set_option linter.unusedVariables false
set_option linter.unusedSimpArgs false
set_option maxRecDepth 100000
theorem teVQ_5 : TEOk Try.prog 5 ⟨.int .u8, 1, 1, [.i .u8 (0 : Int)], false⟩ :=
  TEOk.of Try.underlying5 (i := Try.t5) (by kernel_rfl) rfl rfl rfl (by kernel_rfl) (fun h => by cases h) (by kernel_rfl)
theorem teVQ_24 : TEOk Try.prog 24 ⟨.array 32 5, 32, 32, [.ints .u8 (32 : Nat) ([0, 0, 0, 0, 0, 0, 0, 0, 0, 0, 0, 0, 0, 0, 0, 0, 0, 0, 0, 0, 0, 0, 0, 0, 0, 0, 0, 0, 0, 0, 0, 0] : List Int)], true⟩ :=
  TEOk.of Try.underlying24 (i := Try.t24) (by kernel_rfl) rfl rfl rfl (by kernel_rfl) (fun _ => Try.eqGuardType24) (by kernel_rfl)
theorem teVQ_37 : TEOk Try.prog 37 ⟨.array 32 5, 32, 32, [.ints .u8 (32 : Nat) ([0, 0, 0, 0, 0, 0, 0, 0, 0, 0, 0, 0, 0, 0, 0, 0, 0, 0, 0, 0, 0, 0, 0, 0, 0, 0, 0, 0, 0, 0, 0, 0] : List Int)], true⟩ :=
  TEOk.of Try.underlying37 (i := Try.t37) (by kernel_rfl) rfl rfl rfl (by kernel_rfl) (fun _ => Try.eqGuardType37) (by kernel_rfl)
theorem teVQ_90 : TEOk Try.prog 90 ⟨.int .u64, 1, 8, [.i .u64 (0 : Int)], false⟩ :=
  TEOk.of Try.underlying90 (i := Try.t90) (by kernel_rfl) rfl rfl rfl (by kernel_rfl) (fun h => by cases h) (by kernel_rfl)
theorem teVQ_92 : TEOk Try.prog 92 ⟨.array 5 90, 5, 40, [.ints .u64 (5 : Nat) ([0, 0, 0, 0, 0] : List Int)], true⟩ :=
  TEOk.of Try.underlying92 (i := Try.t92) (by kernel_rfl) rfl rfl rfl (by kernel_rfl) (fun _ => Try.eqGuardType92) (by kernel_rfl)
noncomputable def tabVQ : List (Nat × TE) := [(5, ⟨.int .u8, 1, 1, [.i .u8 (0 : Int)], false⟩), (24, ⟨.array 32 5, 32, 32, [.ints .u8 (32 : Nat) ([0, 0, 0, 0, 0, 0, 0, 0, 0, 0, 0, 0, 0, 0, 0, 0, 0, 0, 0, 0, 0, 0, 0, 0, 0, 0, 0, 0, 0, 0, 0, 0] : List Int)], true⟩), (37, ⟨.array 32 5, 32, 32, [.ints .u8 (32 : Nat) ([0, 0, 0, 0, 0, 0, 0, 0, 0, 0, 0, 0, 0, 0, 0, 0, 0, 0, 0, 0, 0, 0, 0, 0, 0, 0, 0, 0, 0, 0, 0, 0] : List Int)], true⟩), (90, ⟨.int .u64, 1, 8, [.i .u64 (0 : Int)], false⟩), (92, ⟨.array 5 90, 5, 40, [.ints .u64 (5 : Nat) ([0, 0, 0, 0, 0] : List Int)], true⟩)]
theorem tabOkVQ : TabOk Try.prog (tabOf tabVQ) := (tabOf_cons teVQ_5 (tabOf_cons teVQ_24 (tabOf_cons teVQ_37 (tabOf_cons teVQ_90 (tabOf_cons teVQ_92 tabOf_nil)))))

def bitV (K : List Int) (k : Nat) : Bool :=
  ((bits2 .and .u8 (shr .u8 (List.getD K (Int.toNat (IntKind.i64.wrap (Int.tdiv ((255 : Int) - ((k : Nat) : Int)) (8 : Int)))) 0) (Int.tmod ((255 : Int) - ((k : Nat) : Int)) (8 : Int))) (1 : Int)) == (1 : Int))

def ladCore (u : List Int) (s : L4 (List Int)) : L4 (List Int) :=
  let a := fePlus s.x2 s.z2
  let b := feMin s.x2 s.z2
  let aa := feMul a a
  let bb := feMul b b
  let e := feMin aa bb
  let da := feMul (feMin s.x3 s.z3) a
  let cb := feMul (fePlus s.x3 s.z3) b
  ⟨feMul aa bb, feMul e (fePlus aa (feMul (feSmall 121665) e)), feMul (fePlus da cb) (fePlus da cb), feMul u (feMul (feMin da cb) (feMin da cb))⟩
def ladS (u K : List Int) : Nat → L4 (List Int)
  | 0 => ⟨feSmall 1, [0, 0, 0, 0, 0], u, feSmall 1⟩
  | k + 1 => lsw (bitV K k) (ladCore u (lsw (bitV K k) (ladS u K k)))
theorem ladS_t {u K : List Int} {k : Nat} (h : bitV K k = true) : ladS u K (k + (1 : Nat)) = lsw true (ladCore u (lsw true (ladS u K k))) := by rw [← h]; rfl
theorem ladS_f {u K : List Int} {k : Nat} (h : bitV K k = false) : ladS u K (k + (1 : Nat)) = lsw false (ladCore u (lsw false (ladS u K k))) := by rw [← h]; rfl

def ladL_mk (K : List Int) (u : List Int) (k : Nat) (s : Unit) : St := ⟨sparse 96 [(0, .o (.g [.ints .u8 (32 : Nat) K])), (1, .o (.g [.ints .u8 (32 : Nat) u])), (2, .o (.a (.p 0 0))), (3, .o (.a (.p 1 0))), (4, .o (.a (.p 2 0))), (5, .o (.a (.p 3 0))), (6, .o (.a (.p 4 0))), (7, .o (.a (.p 5 0))), (8, .o (.a (.p 6 0))), (9, .o (.a (.p 7 0))), (10, .o (.a (.i .i64 ((255 : Int) - ((k : Nat) : Int))))), (19, .o (.g [.ints .u8 (32 : Nat) u])), (20, .o (.g [.ints .u64 (5 : Nat) (feLoad u)])), (21, .o (.g [.ints .u64 (5 : Nat) (feSmall (1 : Int))])), (22, .o (.g [.ints .u64 (5 : Nat) ([0, 0, 0, 0, 0] : List Int)])), (23, .o (.g [.ints .u64 (5 : Nat) (feLoad u)])), (24, .o (.g [.ints .u64 (5 : Nat) (feSmall (1 : Int))]))], [some ⟨true, [.ints .u8 (32 : Nat) K]⟩, some ⟨true, [.ints .u8 (32 : Nat) u]⟩, some ⟨true, [.ints .u8 (32 : Nat) ([0, 0, 0, 0, 0, 0, 0, 0, 0, 0, 0, 0, 0, 0, 0, 0, 0, 0, 0, 0, 0, 0, 0, 0, 0, 0, 0, 0, 0, 0, 0, 0] : List Int)]⟩, some ⟨true, [.ints .u64 (5 : Nat) (feLoad u)]⟩, some ⟨true, [.ints .u64 (5 : Nat) ((ladS (feLoad u) K k)).x2]⟩, some ⟨true, [.ints .u64 (5 : Nat) ((ladS (feLoad u) K k)).z2]⟩, some ⟨true, [.ints .u64 (5 : Nat) ((ladS (feLoad u) K k)).x3]⟩, some ⟨true, [.ints .u64 (5 : Nat) ((ladS (feLoad u) K k)).z3]⟩]⟩

def ladL_step (k : Nat) (s : Unit) : Unit :=
  ()

set_option maxHeartbeats 1000000 in
theorem ladL_round_0 (K : List Int) (u : List Int) (hv0 : List.length K = (32 : Nat)) (hv1 : List.length u = (32 : Nat)) (w : World) (k : Nat) (hk : k < (256 : Nat)) (s : Unit) (ha : bitV K k = true) : Run Try.prog ⟨w, [], 0, noEnv⟩ (loopB Try.f41 0) (ladL_mk K u k s) (To ⟨w, [], 0, noEnv⟩ .normal (ladL_mk K u (k + 1) (ladL_step k s))) := by
  have e0 : (feMul (feMin (feMul (fePlus ((ladS (feLoad u) K k)).x3 ((ladS (feLoad u) K k)).z3) (fePlus ((ladS (feLoad u) K k)).x3 ((ladS (feLoad u) K k)).z3)) (feMul (feMin ((ladS (feLoad u) K k)).x3 ((ladS (feLoad u) K k)).z3) (feMin ((ladS (feLoad u) K k)).x3 ((ladS (feLoad u) K k)).z3))) (fePlus (feMul (fePlus ((ladS (feLoad u) K k)).x3 ((ladS (feLoad u) K k)).z3) (fePlus ((ladS (feLoad u) K k)).x3 ((ladS (feLoad u) K k)).z3)) (feMul (feSmall (121665 : Int)) (feMin (feMul (fePlus ((ladS (feLoad u) K k)).x3 ((ladS (feLoad u) K k)).z3) (fePlus ((ladS (feLoad u) K k)).x3 ((ladS (feLoad u) K k)).z3)) (feMul (feMin ((ladS (feLoad u) K k)).x3 ((ladS (feLoad u) K k)).z3) (feMin ((ladS (feLoad u) K k)).x3 ((ladS (feLoad u) K k)).z3)))))) = ((ladS (feLoad u) K (k + (1 : Nat)))).z3 := (by first | (rw [wrapI (by omega) (by omega)]; omega) | (rw [ladS_t ha]; rfl))
  have e1 : (feMul (feLoad u) (feMul (feMin (feMul (feMin ((ladS (feLoad u) K k)).x2 ((ladS (feLoad u) K k)).z2) (fePlus ((ladS (feLoad u) K k)).x3 ((ladS (feLoad u) K k)).z3)) (feMul (fePlus ((ladS (feLoad u) K k)).x2 ((ladS (feLoad u) K k)).z2) (feMin ((ladS (feLoad u) K k)).x3 ((ladS (feLoad u) K k)).z3))) (feMin (feMul (feMin ((ladS (feLoad u) K k)).x2 ((ladS (feLoad u) K k)).z2) (fePlus ((ladS (feLoad u) K k)).x3 ((ladS (feLoad u) K k)).z3)) (feMul (fePlus ((ladS (feLoad u) K k)).x2 ((ladS (feLoad u) K k)).z2) (feMin ((ladS (feLoad u) K k)).x3 ((ladS (feLoad u) K k)).z3))))) = ((ladS (feLoad u) K (k + (1 : Nat)))).z2 := (by first | (rw [wrapI (by omega) (by omega)]; omega) | (rw [ladS_t ha]; rfl))
  have e2 : (feMul (fePlus (feMul (feMin ((ladS (feLoad u) K k)).x2 ((ladS (feLoad u) K k)).z2) (fePlus ((ladS (feLoad u) K k)).x3 ((ladS (feLoad u) K k)).z3)) (feMul (fePlus ((ladS (feLoad u) K k)).x2 ((ladS (feLoad u) K k)).z2) (feMin ((ladS (feLoad u) K k)).x3 ((ladS (feLoad u) K k)).z3))) (fePlus (feMul (feMin ((ladS (feLoad u) K k)).x2 ((ladS (feLoad u) K k)).z2) (fePlus ((ladS (feLoad u) K k)).x3 ((ladS (feLoad u) K k)).z3)) (feMul (fePlus ((ladS (feLoad u) K k)).x2 ((ladS (feLoad u) K k)).z2) (feMin ((ladS (feLoad u) K k)).x3 ((ladS (feLoad u) K k)).z3)))) = ((ladS (feLoad u) K (k + (1 : Nat)))).x2 := (by first | (rw [wrapI (by omega) (by omega)]; omega) | (rw [ladS_t ha]; rfl))
  have e3 : (feMul (feMul (fePlus ((ladS (feLoad u) K k)).x3 ((ladS (feLoad u) K k)).z3) (fePlus ((ladS (feLoad u) K k)).x3 ((ladS (feLoad u) K k)).z3)) (feMul (feMin ((ladS (feLoad u) K k)).x3 ((ladS (feLoad u) K k)).z3) (feMin ((ladS (feLoad u) K k)).x3 ((ladS (feLoad u) K k)).z3))) = ((ladS (feLoad u) K (k + (1 : Nat)))).x3 := (by first | (rw [wrapI (by omega) (by omega)]; omega) | (rw [ladS_t ha]; rfl))
  have e4 : (IntKind.i64.wrap (((255 : Int) - ((k : Nat) : Int)) - (1 : Int))) = ((255 : Int) - (((k + (1 : Nat)) : Nat) : Int)) := (by first | (rw [wrapI (by omega) (by omega)]; omega) | (rw [ladS_t ha]; rfl))
  have h := Run.of_outT (B := ⟨w, [], 0, noEnv⟩) (Λ := noLam) (Ψ := psiOf [(6, [.eqS 11 (.o (.a (.b (bitV K k))))])]) (fuel := 0) (ora := [true, true, true]) (c := (loopB Try.f41 0)) (st := (ladL_mk K u k s)) (l := [.forget [0, 1, 2, 3, 4, 5, 6, 7, 8, 9, 10, 19, 20, 21, 22, 23, 24] 8]) (s' := ⟨sparse 96 [(0, .o (.g [.ints .u8 (32 : Nat) K])), (1, .o (.g [.ints .u8 (32 : Nat) u])), (2, .o (.a (.p 0 0))), (3, .o (.a (.p 1 0))), (4, .o (.a (.p 2 0))), (5, .o (.a (.p 3 0))), (6, .o (.a (.p 4 0))), (7, .o (.a (.p 5 0))), (8, .o (.a (.p 6 0))), (9, .o (.a (.p 7 0))), (10, .o (.a (.i .i64 (IntKind.i64.wrap (((255 : Int) - ((k : Nat) : Int)) - (1 : Int)))))), (19, .o (.g [.ints .u8 (32 : Nat) u])), (20, .o (.g [.ints .u64 (5 : Nat) (feLoad u)])), (21, .o (.g [.ints .u64 (5 : Nat) (feSmall (1 : Int))])), (22, .o (.g [.ints .u64 (5 : Nat) ([0, 0, 0, 0, 0] : List Int)])), (23, .o (.g [.ints .u64 (5 : Nat) (feLoad u)])), (24, .o (.g [.ints .u64 (5 : Nat) (feSmall (1 : Int))]))], [some ⟨true, [.ints .u8 (32 : Nat) K]⟩, some ⟨true, [.ints .u8 (32 : Nat) u]⟩, some ⟨true, [.ints .u8 (32 : Nat) ([0, 0, 0, 0, 0, 0, 0, 0, 0, 0, 0, 0, 0, 0, 0, 0, 0, 0, 0, 0, 0, 0, 0, 0, 0, 0, 0, 0, 0, 0, 0, 0] : List Int)]⟩, some ⟨true, [.ints .u64 (5 : Nat) (feLoad u)]⟩, some ⟨true, [.ints .u64 (5 : Nat) (feMul (fePlus (feMul (feMin ((ladS (feLoad u) K k)).x2 ((ladS (feLoad u) K k)).z2) (fePlus ((ladS (feLoad u) K k)).x3 ((ladS (feLoad u) K k)).z3)) (feMul (fePlus ((ladS (feLoad u) K k)).x2 ((ladS (feLoad u) K k)).z2) (feMin ((ladS (feLoad u) K k)).x3 ((ladS (feLoad u) K k)).z3))) (fePlus (feMul (feMin ((ladS (feLoad u) K k)).x2 ((ladS (feLoad u) K k)).z2) (fePlus ((ladS (feLoad u) K k)).x3 ((ladS (feLoad u) K k)).z3)) (feMul (fePlus ((ladS (feLoad u) K k)).x2 ((ladS (feLoad u) K k)).z2) (feMin ((ladS (feLoad u) K k)).x3 ((ladS (feLoad u) K k)).z3))))]⟩, some ⟨true, [.ints .u64 (5 : Nat) (feMul (feLoad u) (feMul (feMin (feMul (feMin ((ladS (feLoad u) K k)).x2 ((ladS (feLoad u) K k)).z2) (fePlus ((ladS (feLoad u) K k)).x3 ((ladS (feLoad u) K k)).z3)) (feMul (fePlus ((ladS (feLoad u) K k)).x2 ((ladS (feLoad u) K k)).z2) (feMin ((ladS (feLoad u) K k)).x3 ((ladS (feLoad u) K k)).z3))) (feMin (feMul (feMin ((ladS (feLoad u) K k)).x2 ((ladS (feLoad u) K k)).z2) (fePlus ((ladS (feLoad u) K k)).x3 ((ladS (feLoad u) K k)).z3)) (feMul (fePlus ((ladS (feLoad u) K k)).x2 ((ladS (feLoad u) K k)).z2) (feMin ((ladS (feLoad u) K k)).x3 ((ladS (feLoad u) K k)).z3)))))]⟩, some ⟨true, [.ints .u64 (5 : Nat) (feMul (feMul (fePlus ((ladS (feLoad u) K k)).x3 ((ladS (feLoad u) K k)).z3) (fePlus ((ladS (feLoad u) K k)).x3 ((ladS (feLoad u) K k)).z3)) (feMul (feMin ((ladS (feLoad u) K k)).x3 ((ladS (feLoad u) K k)).z3) (feMin ((ladS (feLoad u) K k)).x3 ((ladS (feLoad u) K k)).z3)))]⟩, some ⟨true, [.ints .u64 (5 : Nat) (feMul (feMin (feMul (fePlus ((ladS (feLoad u) K k)).x3 ((ladS (feLoad u) K k)).z3) (fePlus ((ladS (feLoad u) K k)).x3 ((ladS (feLoad u) K k)).z3)) (feMul (feMin ((ladS (feLoad u) K k)).x3 ((ladS (feLoad u) K k)).z3) (feMin ((ladS (feLoad u) K k)).x3 ((ladS (feLoad u) K k)).z3))) (fePlus (feMul (fePlus ((ladS (feLoad u) K k)).x3 ((ladS (feLoad u) K k)).z3) (fePlus ((ladS (feLoad u) K k)).x3 ((ladS (feLoad u) K k)).z3)) (feMul (feSmall (121665 : Int)) (feMin (feMul (fePlus ((ladS (feLoad u) K k)).x3 ((ladS (feLoad u) K k)).z3) (fePlus ((ladS (feLoad u) K k)).x3 ((ladS (feLoad u) K k)).z3)) (feMul (feMin ((ladS (feLoad u) K k)).x3 ((ladS (feLoad u) K k)).z3) (feMin ((ladS (feLoad u) K k)).x3 ((ladS (feLoad u) K k)).z3))))))]⟩]⟩) (ex := .normal) mix tabOkVQ gam64_ok
    (vc := [((bitV K k) = true), ((bitV K k) = true), ((.o (.a (.b ((bits2 .and .u8 (shr .u8 (List.getD K (Int.toNat (IntKind.i64.wrap (Int.tdiv ((255 : Int) - ((k : Nat) : Int)) (8 : Int)))) 0) (Int.tmod ((255 : Int) - ((k : Nat) : Int)) (8 : Int))) (1 : Int)) == (1 : Int)))) : AV) = .o (.a (.b (bitV K k)))), ((0 : Int) ≤ (Int.tmod ((255 : Int) - ((k : Nat) : Int)) (8 : Int))), ((8 : Int) ≠ 0), ((Int.toNat (IntKind.i64.wrap (Int.tdiv ((255 : Int) - ((k : Nat) : Int)) (8 : Int)))) < (32 : Nat)), (((0 : Int) ≤ (IntKind.i64.wrap (Int.tdiv ((255 : Int) - ((k : Nat) : Int)) (8 : Int)))) ∧ ((IntKind.i64.wrap (Int.tdiv ((255 : Int) - ((k : Nat) : Int)) (8 : Int))) < (32 : Int))), ((8 : Int) ≠ 0), ((decide (((255 : Int) - ((k : Nat) : Int)) ≥ (0 : Int))) = true)]) (by kernel_rfl)
    (AllP_cons ha (AllP_cons ha (AllP_cons (rfl) (AllP_cons (by have q1 := td8 hk; have q2 := tm8 hk; first | omega | (rw [td8 hk]; omega) | (rw [tm8 hk]; omega)) (AllP_cons (by decide) (AllP_cons (by have q1 := td8 hk; have q2 := tm8 hk; first | omega | (rw [td8 hk]; omega) | (rw [tm8 hk]; omega)) (AllP_cons ⟨(by have q1 := td8 hk; have q2 := tm8 hk; first | omega | (rw [td8 hk]; omega) | (rw [tm8 hk]; omega)), (by have q1 := td8 hk; have q2 := tm8 hk; first | omega | (rw [td8 hk]; omega) | (rw [tm8 hk]; omega))⟩ (AllP_cons (by decide) (AllP_cons (decide_eq_true (by have q1 := td8 hk; have q2 := tm8 hk; first | omega | (rw [td8 hk]; omega) | (rw [tm8 hk]; omega))) (AllP_nil))))))))))
  rw [e0, e1, e2, e3, e4] at h
  exact h

set_option maxHeartbeats 1000000 in
theorem ladL_round_1 (K : List Int) (u : List Int) (hv0 : List.length K = (32 : Nat)) (hv1 : List.length u = (32 : Nat)) (w : World) (k : Nat) (hk : k < (256 : Nat)) (s : Unit) (ha : bitV K k = false) : Run Try.prog ⟨w, [], 0, noEnv⟩ (loopB Try.f41 0) (ladL_mk K u k s) (To ⟨w, [], 0, noEnv⟩ .normal (ladL_mk K u (k + 1) (ladL_step k s))) := by
  have e0 : (feMul (feMin (feMul (fePlus ((ladS (feLoad u) K k)).x2 ((ladS (feLoad u) K k)).z2) (fePlus ((ladS (feLoad u) K k)).x2 ((ladS (feLoad u) K k)).z2)) (feMul (feMin ((ladS (feLoad u) K k)).x2 ((ladS (feLoad u) K k)).z2) (feMin ((ladS (feLoad u) K k)).x2 ((ladS (feLoad u) K k)).z2))) (fePlus (feMul (fePlus ((ladS (feLoad u) K k)).x2 ((ladS (feLoad u) K k)).z2) (fePlus ((ladS (feLoad u) K k)).x2 ((ladS (feLoad u) K k)).z2)) (feMul (feSmall (121665 : Int)) (feMin (feMul (fePlus ((ladS (feLoad u) K k)).x2 ((ladS (feLoad u) K k)).z2) (fePlus ((ladS (feLoad u) K k)).x2 ((ladS (feLoad u) K k)).z2)) (feMul (feMin ((ladS (feLoad u) K k)).x2 ((ladS (feLoad u) K k)).z2) (feMin ((ladS (feLoad u) K k)).x2 ((ladS (feLoad u) K k)).z2)))))) = ((ladS (feLoad u) K (k + (1 : Nat)))).z2 := (by first | (rw [wrapI (by omega) (by omega)]; omega) | (rw [ladS_f ha]; rfl))
  have e1 : (feMul (feLoad u) (feMul (feMin (feMul (feMin ((ladS (feLoad u) K k)).x3 ((ladS (feLoad u) K k)).z3) (fePlus ((ladS (feLoad u) K k)).x2 ((ladS (feLoad u) K k)).z2)) (feMul (fePlus ((ladS (feLoad u) K k)).x3 ((ladS (feLoad u) K k)).z3) (feMin ((ladS (feLoad u) K k)).x2 ((ladS (feLoad u) K k)).z2))) (feMin (feMul (feMin ((ladS (feLoad u) K k)).x3 ((ladS (feLoad u) K k)).z3) (fePlus ((ladS (feLoad u) K k)).x2 ((ladS (feLoad u) K k)).z2)) (feMul (fePlus ((ladS (feLoad u) K k)).x3 ((ladS (feLoad u) K k)).z3) (feMin ((ladS (feLoad u) K k)).x2 ((ladS (feLoad u) K k)).z2))))) = ((ladS (feLoad u) K (k + (1 : Nat)))).z3 := (by first | (rw [wrapI (by omega) (by omega)]; omega) | (rw [ladS_f ha]; rfl))
  have e2 : (feMul (fePlus (feMul (feMin ((ladS (feLoad u) K k)).x3 ((ladS (feLoad u) K k)).z3) (fePlus ((ladS (feLoad u) K k)).x2 ((ladS (feLoad u) K k)).z2)) (feMul (fePlus ((ladS (feLoad u) K k)).x3 ((ladS (feLoad u) K k)).z3) (feMin ((ladS (feLoad u) K k)).x2 ((ladS (feLoad u) K k)).z2))) (fePlus (feMul (feMin ((ladS (feLoad u) K k)).x3 ((ladS (feLoad u) K k)).z3) (fePlus ((ladS (feLoad u) K k)).x2 ((ladS (feLoad u) K k)).z2)) (feMul (fePlus ((ladS (feLoad u) K k)).x3 ((ladS (feLoad u) K k)).z3) (feMin ((ladS (feLoad u) K k)).x2 ((ladS (feLoad u) K k)).z2)))) = ((ladS (feLoad u) K (k + (1 : Nat)))).x3 := (by first | (rw [wrapI (by omega) (by omega)]; omega) | (rw [ladS_f ha]; rfl))
  have e3 : (feMul (feMul (fePlus ((ladS (feLoad u) K k)).x2 ((ladS (feLoad u) K k)).z2) (fePlus ((ladS (feLoad u) K k)).x2 ((ladS (feLoad u) K k)).z2)) (feMul (feMin ((ladS (feLoad u) K k)).x2 ((ladS (feLoad u) K k)).z2) (feMin ((ladS (feLoad u) K k)).x2 ((ladS (feLoad u) K k)).z2))) = ((ladS (feLoad u) K (k + (1 : Nat)))).x2 := (by first | (rw [wrapI (by omega) (by omega)]; omega) | (rw [ladS_f ha]; rfl))
  have e4 : (IntKind.i64.wrap (((255 : Int) - ((k : Nat) : Int)) - (1 : Int))) = ((255 : Int) - (((k + (1 : Nat)) : Nat) : Int)) := (by first | (rw [wrapI (by omega) (by omega)]; omega) | (rw [ladS_f ha]; rfl))
  have h := Run.of_outT (B := ⟨w, [], 0, noEnv⟩) (Λ := noLam) (Ψ := psiOf [(6, [.eqS 11 (.o (.a (.b (bitV K k))))])]) (fuel := 0) (ora := [true, false, false]) (c := (loopB Try.f41 0)) (st := (ladL_mk K u k s)) (l := [.forget [0, 1, 2, 3, 4, 5, 6, 7, 8, 9, 10, 19, 20, 21, 22, 23, 24] 8]) (s' := ⟨sparse 96 [(0, .o (.g [.ints .u8 (32 : Nat) K])), (1, .o (.g [.ints .u8 (32 : Nat) u])), (2, .o (.a (.p 0 0))), (3, .o (.a (.p 1 0))), (4, .o (.a (.p 2 0))), (5, .o (.a (.p 3 0))), (6, .o (.a (.p 4 0))), (7, .o (.a (.p 5 0))), (8, .o (.a (.p 6 0))), (9, .o (.a (.p 7 0))), (10, .o (.a (.i .i64 (IntKind.i64.wrap (((255 : Int) - ((k : Nat) : Int)) - (1 : Int)))))), (19, .o (.g [.ints .u8 (32 : Nat) u])), (20, .o (.g [.ints .u64 (5 : Nat) (feLoad u)])), (21, .o (.g [.ints .u64 (5 : Nat) (feSmall (1 : Int))])), (22, .o (.g [.ints .u64 (5 : Nat) ([0, 0, 0, 0, 0] : List Int)])), (23, .o (.g [.ints .u64 (5 : Nat) (feLoad u)])), (24, .o (.g [.ints .u64 (5 : Nat) (feSmall (1 : Int))]))], [some ⟨true, [.ints .u8 (32 : Nat) K]⟩, some ⟨true, [.ints .u8 (32 : Nat) u]⟩, some ⟨true, [.ints .u8 (32 : Nat) ([0, 0, 0, 0, 0, 0, 0, 0, 0, 0, 0, 0, 0, 0, 0, 0, 0, 0, 0, 0, 0, 0, 0, 0, 0, 0, 0, 0, 0, 0, 0, 0] : List Int)]⟩, some ⟨true, [.ints .u64 (5 : Nat) (feLoad u)]⟩, some ⟨true, [.ints .u64 (5 : Nat) (feMul (feMul (fePlus ((ladS (feLoad u) K k)).x2 ((ladS (feLoad u) K k)).z2) (fePlus ((ladS (feLoad u) K k)).x2 ((ladS (feLoad u) K k)).z2)) (feMul (feMin ((ladS (feLoad u) K k)).x2 ((ladS (feLoad u) K k)).z2) (feMin ((ladS (feLoad u) K k)).x2 ((ladS (feLoad u) K k)).z2)))]⟩, some ⟨true, [.ints .u64 (5 : Nat) (feMul (feMin (feMul (fePlus ((ladS (feLoad u) K k)).x2 ((ladS (feLoad u) K k)).z2) (fePlus ((ladS (feLoad u) K k)).x2 ((ladS (feLoad u) K k)).z2)) (feMul (feMin ((ladS (feLoad u) K k)).x2 ((ladS (feLoad u) K k)).z2) (feMin ((ladS (feLoad u) K k)).x2 ((ladS (feLoad u) K k)).z2))) (fePlus (feMul (fePlus ((ladS (feLoad u) K k)).x2 ((ladS (feLoad u) K k)).z2) (fePlus ((ladS (feLoad u) K k)).x2 ((ladS (feLoad u) K k)).z2)) (feMul (feSmall (121665 : Int)) (feMin (feMul (fePlus ((ladS (feLoad u) K k)).x2 ((ladS (feLoad u) K k)).z2) (fePlus ((ladS (feLoad u) K k)).x2 ((ladS (feLoad u) K k)).z2)) (feMul (feMin ((ladS (feLoad u) K k)).x2 ((ladS (feLoad u) K k)).z2) (feMin ((ladS (feLoad u) K k)).x2 ((ladS (feLoad u) K k)).z2))))))]⟩, some ⟨true, [.ints .u64 (5 : Nat) (feMul (fePlus (feMul (feMin ((ladS (feLoad u) K k)).x3 ((ladS (feLoad u) K k)).z3) (fePlus ((ladS (feLoad u) K k)).x2 ((ladS (feLoad u) K k)).z2)) (feMul (fePlus ((ladS (feLoad u) K k)).x3 ((ladS (feLoad u) K k)).z3) (feMin ((ladS (feLoad u) K k)).x2 ((ladS (feLoad u) K k)).z2))) (fePlus (feMul (feMin ((ladS (feLoad u) K k)).x3 ((ladS (feLoad u) K k)).z3) (fePlus ((ladS (feLoad u) K k)).x2 ((ladS (feLoad u) K k)).z2)) (feMul (fePlus ((ladS (feLoad u) K k)).x3 ((ladS (feLoad u) K k)).z3) (feMin ((ladS (feLoad u) K k)).x2 ((ladS (feLoad u) K k)).z2))))]⟩, some ⟨true, [.ints .u64 (5 : Nat) (feMul (feLoad u) (feMul (feMin (feMul (feMin ((ladS (feLoad u) K k)).x3 ((ladS (feLoad u) K k)).z3) (fePlus ((ladS (feLoad u) K k)).x2 ((ladS (feLoad u) K k)).z2)) (feMul (fePlus ((ladS (feLoad u) K k)).x3 ((ladS (feLoad u) K k)).z3) (feMin ((ladS (feLoad u) K k)).x2 ((ladS (feLoad u) K k)).z2))) (feMin (feMul (feMin ((ladS (feLoad u) K k)).x3 ((ladS (feLoad u) K k)).z3) (fePlus ((ladS (feLoad u) K k)).x2 ((ladS (feLoad u) K k)).z2)) (feMul (fePlus ((ladS (feLoad u) K k)).x3 ((ladS (feLoad u) K k)).z3) (feMin ((ladS (feLoad u) K k)).x2 ((ladS (feLoad u) K k)).z2)))))]⟩]⟩) (ex := .normal) mix tabOkVQ gam64_ok
    (vc := [((bitV K k) = false), ((bitV K k) = false), ((.o (.a (.b ((bits2 .and .u8 (shr .u8 (List.getD K (Int.toNat (IntKind.i64.wrap (Int.tdiv ((255 : Int) - ((k : Nat) : Int)) (8 : Int)))) 0) (Int.tmod ((255 : Int) - ((k : Nat) : Int)) (8 : Int))) (1 : Int)) == (1 : Int)))) : AV) = .o (.a (.b (bitV K k)))), ((0 : Int) ≤ (Int.tmod ((255 : Int) - ((k : Nat) : Int)) (8 : Int))), ((8 : Int) ≠ 0), ((Int.toNat (IntKind.i64.wrap (Int.tdiv ((255 : Int) - ((k : Nat) : Int)) (8 : Int)))) < (32 : Nat)), (((0 : Int) ≤ (IntKind.i64.wrap (Int.tdiv ((255 : Int) - ((k : Nat) : Int)) (8 : Int)))) ∧ ((IntKind.i64.wrap (Int.tdiv ((255 : Int) - ((k : Nat) : Int)) (8 : Int))) < (32 : Int))), ((8 : Int) ≠ 0), ((decide (((255 : Int) - ((k : Nat) : Int)) ≥ (0 : Int))) = true)]) (by kernel_rfl)
    (AllP_cons ha (AllP_cons ha (AllP_cons (rfl) (AllP_cons (by have q1 := td8 hk; have q2 := tm8 hk; first | omega | (rw [td8 hk]; omega) | (rw [tm8 hk]; omega)) (AllP_cons (by decide) (AllP_cons (by have q1 := td8 hk; have q2 := tm8 hk; first | omega | (rw [td8 hk]; omega) | (rw [tm8 hk]; omega)) (AllP_cons ⟨(by have q1 := td8 hk; have q2 := tm8 hk; first | omega | (rw [td8 hk]; omega) | (rw [tm8 hk]; omega)), (by have q1 := td8 hk; have q2 := tm8 hk; first | omega | (rw [td8 hk]; omega) | (rw [tm8 hk]; omega))⟩ (AllP_cons (by decide) (AllP_cons (decide_eq_true (by have q1 := td8 hk; have q2 := tm8 hk; first | omega | (rw [td8 hk]; omega) | (rw [tm8 hk]; omega))) (AllP_nil))))))))))
  rw [e0, e1, e2, e3, e4] at h
  exact h

theorem ladL_round (K : List Int) (u : List Int) (hv0 : List.length K = (32 : Nat)) (hv1 : List.length u = (32 : Nat)) (w : World) (k : Nat) (hk : k < (256 : Nat)) (s : Unit) : Run Try.prog ⟨w, [], 0, noEnv⟩ (loopB Try.f41 0) (ladL_mk K u k s) (To ⟨w, [], 0, noEnv⟩ .normal (ladL_mk K u (k + 1) (ladL_step k s))) := by
  cases ha : bitV K k
  · exact ladL_round_1 K u hv0 hv1 w k hk s ha
  · exact ladL_round_0 K u hv0 hv1 w k hk s ha

set_option maxHeartbeats 1000000 in
theorem ladL_last (K : List Int) (u : List Int) (hv0 : List.length K = (32 : Nat)) (hv1 : List.length u = (32 : Nat)) (w : World) (s : Unit) : Run Try.prog ⟨w, [], 0, noEnv⟩ (loopB Try.f41 0) (ladL_mk K u (256 : Nat) s) (To ⟨w, [], 0, noEnv⟩ (.exit 0) (ladL_mk K u (256 : Nat) s)) :=
  Run.of_outT (B := ⟨w, [], 0, noEnv⟩) (Λ := noLam) (Ψ := noPsi) (fuel := 0) (ora := [false]) (l := [.forget [0, 1, 2, 3, 4, 5, 6, 7, 8, 9, 10, 19, 20, 21, 22, 23, 24] 8]) mix tabOkVQ gam64_ok
    (vc := [(false = false)]) (by kernel_rfl)
    (AllP_cons rfl (AllP_nil))

theorem ladL_loop (K : List Int) (u : List Int) (hv0 : List.length K = (32 : Nat)) (hv1 : List.length u = (32 : Nat)) (w : World) (s : Unit) : Run Try.prog ⟨w, [], 0, noEnv⟩ (.block 0 (.loop (loopB Try.f41 0))) (ladL_mk K u 0 s) (To ⟨w, [], 0, noEnv⟩ .normal (ladL_mk K u (256 : Nat) (iter (ladL_step) (256 : Nat) s))) :=
  Run.count (fun k => ladL_mk K u k (iter (ladL_step) k s)) (256 : Nat) (fun k hk => ladL_round K u hv0 hv1 w k hk _) (ex := (.exit 0)) (by simp) (ladL_last K u hv0 hv1 w _)

def apLad (K : List Int) (u : List Int) : List Int :=
  (feBytes (feMul ((ladS (feLoad u) K (256 : Nat))).x2 (feInv ((ladS (feLoad u) K (256 : Nat))).z2)))

set_option maxHeartbeats 1000000 in
theorem apLad_body0 (K : List Int) (u : List Int) (hv0 : List.length K = (32 : Nat)) (hv1 : List.length u = (32 : Nat)) (w : World) : Body Try.prog (tabOf tabVQ) Try.f41 ⟨w, [], 0, noEnv⟩ (toA [.g [.ints .u8 (32 : Nat) K], .g [.ints .u8 (32 : Nat) u]]) [] (fun ys _ => ys = [.g [.ints .u8 (32 : Nat) (apLad K u)]]) :=
  Body.of_fin (Γ := gam64) (Λ := lamOf [(0, ⟨[.eqB 4 (⟨true, [.ints .u64 (5 : Nat) ((ladS (feLoad u) K (0 : Nat))).x2]⟩), .eqB 5 (⟨true, [.ints .u64 (5 : Nat) ((ladS (feLoad u) K (0 : Nat))).z2]⟩), .eqB 6 (⟨true, [.ints .u64 (5 : Nat) ((ladS (feLoad u) K (0 : Nat))).x3]⟩), .eqB 7 (⟨true, [.ints .u64 (5 : Nat) ((ladS (feLoad u) K (0 : Nat))).z3]⟩), .forget [0, 1, 2, 3, 4, 5, 6, 7, 8, 9, 10, 19, 20, 21, 22, 23, 24] 8], .normal, (ladL_mk K u (256 : Nat) (iter (ladL_step) (256 : Nat) ()))⟩)]) (Ψ := noPsi) (fuel := 0) (m := 96) (c := (Try.f41.body.getD .skip)) mix tabOkVQ gam64_ok rfl (rs := [.cell 4 24]) rfl rfl [] []
    (vc := [(Run Try.prog ⟨w, [], 0, noEnv⟩ (.block 0 (.loop (loopB Try.f41 0))) (ladL_mk K u 0 ()) (To ⟨w, [], 0, noEnv⟩ .normal (ladL_mk K u (256 : Nat) (iter (ladL_step) (256 : Nat) ())))), ((some ⟨true, [.ints .u64 (5 : Nat) (feSmall (1 : Int))]⟩ : Option Blk) = some ⟨true, [.ints .u64 (5 : Nat) ((ladS (feLoad u) K (0 : Nat))).z3]⟩), ((some ⟨true, [.ints .u64 (5 : Nat) (feLoad u)]⟩ : Option Blk) = some ⟨true, [.ints .u64 (5 : Nat) ((ladS (feLoad u) K (0 : Nat))).x3]⟩), ((some ⟨true, [.ints .u64 (5 : Nat) ([0, 0, 0, 0, 0] : List Int)]⟩ : Option Blk) = some ⟨true, [.ints .u64 (5 : Nat) ((ladS (feLoad u) K (0 : Nat))).z2]⟩), ((some ⟨true, [.ints .u64 (5 : Nat) (feSmall (1 : Int))]⟩ : Option Blk) = some ⟨true, [.ints .u64 (5 : Nat) ((ladS (feLoad u) K (0 : Nat))).x2]⟩)]) (by kernel_rfl)
    (AllP_cons (ladL_loop K u hv0 hv1 w ()) (AllP_cons (rfl) (AllP_cons (rfl) (AllP_cons (rfl) (AllP_cons (rfl) (AllP_nil))))))

theorem apLad_body (K : List Int) (u : List Int) (w : World) : Body Try.prog (tabOf tabVQ) Try.f41 ⟨w, [], 0, noEnv⟩ (toA [.g [.ints .u8 (32 : Nat) K], .g [.ints .u8 (32 : Nat) u]]) [] (fun ys _ => ys = [.g [.ints .u8 (32 : Nat) (apLad K u)]]) :=
  Body.lens (c := (Try.f41.body.getD .skip)) rfl fun h => apLad_body0 K u (h.vals 0 _ _ _ rfl) (h.vals 1 _ _ _ rfl) w

theorem apLad_pure (K : List Int) (u : List Int) : PureC Try.prog 41 [.g [.ints .u8 (32 : Nat) K], .g [.ints .u8 (32 : Nat) u]] [.g [.ints .u8 (32 : Nat) (apLad K u)]] :=
  PureC.of_body tabOkVQ Try.func41 rfl rfl fun w => apLad_body K u w

def gam65 : Gam := gpure 41 (fun args => match args with | [.o (.g [.ints .u8 (32 : Nat) K]), .o (.g [.ints .u8 (32 : Nat) u])] => some (none, [.g [.ints .u8 (32 : Nat) (apLad K u)]]) | _ => none) gam64
theorem gam65_ok : GamOk Try.prog gam65 := gpure_ok gam64_ok Try.call41 (by
  intro args vc xs h hv
  split at h
  · simp only [Option.some.injEq, Prod.mk.injEq] at h; obtain ⟨rfl, rfl⟩ := h; exact ⟨_, by rfl, apLad_pure _ _⟩
  · simp at h)

end Go.Proofs.Ytodiojpakfjehaa.X

/- The ladder, as multiples. -/
namespace Go.Proofs.Ytodiojpakfjehaa.X
open Go Go.Proofs
set_option linter.unusedVariables false
set_option linter.unusedSimpArgs false
set_option maxRecDepth 100000

theorem shr8g (x : Int) (s : Nat) (hs : s < 8) : shr .u8 x ((s : Nat) : Int) = x / ((2 ^ s : Nat) : Int) := by
  have e : shr .u8 x ((s : Nat) : Int) = x.fdiv (2 ^ (min s 8)) := rfl
  rw [e, Nat.min_eq_left (by omega), Int.fdiv_eq_ediv_of_nonneg _ (Int.le_of_lt (Int.pow_pos (by omega))), Int.natCast_pow]
  rfl
theorem bitV_eq {K : List Int} (h : Byt K) (l : K.length = 32) {k : Nat} (hk : k < 256) : bitV K k = ((BV K).toNat / 2 ^ (255 - k) % 2 == 1) := by
  unfold bitV
  rw [td8 hk, tm8 hk, Int.toNat_natCast, byte_at h l (by omega), shr8g _ _ (by omega), and1_u8]
  generalize (BV K).toNat = V
  generalize 255 - k = i
  have key : V / 256 ^ (i / 8) % 256 / 2 ^ (i % 8) % 2 = V / 2 ^ i % 2 := by
    have e256 : (256 : Nat) ^ (i / 8) = 2 ^ (8 * (i / 8)) := by rw [Nat.pow_mul]
    rw [e256]
    have e : 2 ^ i = 2 ^ (8 * (i / 8)) * 2 ^ (i % 8) := by rw [← Nat.pow_add]; congr 1; omega
    rw [e, ← Nat.div_div_eq_div_mul]
    generalize V / 2 ^ (8 * (i / 8)) = W
    have hm : i % 8 < 8 := Nat.mod_lt _ (by decide)
    generalize i % 8 = s at *
    have h8 : s = 0 ∨ s = 1 ∨ s = 2 ∨ s = 3 ∨ s = 4 ∨ s = 5 ∨ s = 6 ∨ s = 7 := by omega
    rcases h8 with h | h | h | h | h | h | h | h <;> subst h <;> simp only [Nat.pow_zero, Nat.reducePow, Nat.pow_one] <;> omega
  have k2 : (((V / 256 ^ (i / 8) % 256 : Nat) : Int) / ((2 ^ (i % 8) : Nat) : Int) % 2) = ((V / 2 ^ i % 2 : Nat) : Int) := by
    rw [← key]
    simp only [Int.natCast_emod, Int.natCast_ediv]
    rfl
  rw [k2]
  generalize V / 2 ^ i % 2 = r
  by_cases hr : r = 1
  · subst hr; rfl
  · rw [beq_eq_false_iff_ne.2 hr]
    exact beq_eq_false_iff_ne.2 (by omega)
/-- the bits of a number, the highest first -/
def bl (V : Nat) : Nat → List Bool
  | 0 => []
  | k + 1 => bl V k ++ [V / 2 ^ (255 - k) % 2 == 1]
theorem bl_len (V k : Nat) : (bl V k).length = k := by
  induction k with
  | zero => rfl
  | succ k ih => show (bl V k ++ [_]).length = _; rw [List.length_append, ih]; rfl
theorem bl_val {V : Nat} (hV : V < 2 ^ 256) : ∀ k, k ≤ 256 → bval (bl V k) 0 = V / 2 ^ (256 - k) := by
  intro k
  induction k with
  | zero => intro _; rw [Nat.sub_zero, Nat.div_eq_of_lt hV]; rfl
  | succ k ih =>
    intro hk
    have ih := ih (by omega)
    show bval (bl V k ++ [_]) 0 = _
    have e1 : 256 - k = (255 - k) + 1 := by omega
    have e2 : 256 - (k + 1) = 255 - k := by omega
    rw [bval_app, ih, e1, e2, Nat.pow_succ, ← Nat.div_div_eq_div_mul]
    generalize V / 2 ^ (255 - k) = W
    by_cases hw : W % 2 = 1
    · rw [if_pos (by rw [hw]; rfl)]; omega
    · rw [if_neg (by rw [beq_eq_false_iff_ne.2 hw]; simp)]; omega
theorem lrun_app (x : Fp) (l : List Bool) (b : Bool) (s : L4 Fp) : lrun x (l ++ [b]) s = lstep x b (lrun x l s) := by
  induction l generalizing s with
  | nil => rfl
  | cons c l ih => exact ih _
/-- four lists of limbs stand for four elements -/
def LV (s : L4 (List Int)) (t : L4 Fp) : Prop := (B5 s.x2 ∧ fv s.x2 = t.x2) ∧ (B5 s.z2 ∧ fv s.z2 = t.z2) ∧ (B5 s.x3 ∧ fv s.x3 = t.x3) ∧ (B5 s.z3 ∧ fv s.z3 = t.z3)
theorem lv_sw {s : L4 (List Int)} {t : L4 Fp} (b : Bool) (h : LV s t) : LV (lsw b s) (lsw b t) := by
  cases b
  · exact h
  · exact ⟨h.2.2.1, h.2.2.2, h.1, h.2.1⟩
theorem k12_ok : B5 (feSmall 121665) ∧ fv (feSmall 121665) = (121665 : Fp) := by
  have k := small_ok (n := 121665) (by omega) (by omega)
  exact ⟨k.1, k.2.trans (by decide +kernel)⟩
theorem lv_core {u : List Int} {s : L4 (List Int)} {t : L4 Fp} (hu : B5 u) (h : LV s t) : LV (ladCore u s) (lcore (fv u) t) := by
  obtain ⟨⟨bx2, ex2⟩, ⟨bz2, ez2⟩, ⟨bx3, ex3⟩, ⟨bz3, ez3⟩⟩ := h
  have a := plus_ok bx2 bz2
  have b := min_ok bx2 bz2
  have aa := mul_ok a.1 a.1
  have bb := mul_ok b.1 b.1
  have e := min_ok aa.1 bb.1
  have d := min_ok bx3 bz3
  have c := plus_ok bx3 bz3
  have da := mul_ok d.1 a.1
  have cb := mul_ok c.1 b.1
  have s1 := plus_ok da.1 cb.1
  have s2 := min_ok da.1 cb.1
  have x3 := mul_ok s1.1 s1.1
  have m2 := mul_ok s2.1 s2.1
  have z3 := mul_ok hu m2.1
  have x2 := mul_ok aa.1 bb.1
  have ke := mul_ok k12_ok.1 e.1
  have ak := plus_ok aa.1 ke.1
  have z2 := mul_ok e.1 ak.1
  refine ⟨⟨x2.1, x2.2.trans ?_⟩, ⟨z2.1, z2.2.trans ?_⟩, ⟨x3.1, x3.2.trans ?_⟩, ⟨z3.1, z3.2.trans ?_⟩⟩
  · rw [aa.2, bb.2, a.2, b.2, ex2, ez2]; rfl
  · rw [ak.2, ke.2, k12_ok.2, e.2, aa.2, bb.2, a.2, b.2, ex2, ez2]; rfl
  · rw [s1.2, da.2, cb.2, d.2, c.2, a.2, b.2, ex2, ez2, ex3, ez3]; rfl
  · rw [m2.2, s2.2, da.2, cb.2, d.2, c.2, a.2, b.2, ex2, ez2, ex3, ez3]; rfl
theorem lv_run {u K : List Int} (hu : B5 u) (h : Byt K) (l : K.length = 32) : ∀ k, k ≤ 256 → LV (ladS u K k) (lrun (fv u) (bl (BV K).toNat k) (l0 (fv u))) := by
  intro k
  induction k with
  | zero => intro _; exact ⟨one5, zero5, ⟨hu, rfl⟩, one5⟩
  | succ k ih =>
    intro hk
    have ih := ih (by omega)
    show LV (lsw (bitV K k) (ladCore u (lsw (bitV K k) (ladS u K k)))) (lrun (fv u) (bl _ k ++ [_]) _)
    rw [lrun_app, ← bitV_eq h l (by omega)]
    exact lv_sw _ (lv_core hu (lv_sw _ ih))
theorem lad_ok {K : List Int} (h : Byt K) (l : K.length = 32) (z : Fp) : apLad K (B32 (z.val : Int)) = B32 ((lout finv (lrun z (bl (BV K).toNat 256) (l0 z))).val : Int) := by
  have b := load_ok (byt_B32 (z.val : Int))
  have ez : fI (BV (B32 (z.val : Int))) = z := by
    rw [BV_B32 (val_rng z).1 (val_256 z), fI_self]
  rw [ez] at b
  have r := lv_run b.1 h l 256 (Nat.le_refl _)
  rw [b.2] at r
  unfold apLad
  clear b ez
  generalize ladS (feLoad (B32 (z.val : Int))) K 256 = s at *
  generalize lrun z (bl (BV K).toNat 256) (l0 z) = t at *
  obtain ⟨⟨bx, ex⟩, ⟨bz, e2⟩, _, _⟩ := r
  have i := inv_ok bz
  have m := mul_ok bx i.1
  rw [bytes_ok m.1, m.2, i.2, ex, e2]
  rfl
theorem lad_enc {K : List Int} (h : Byt K) (l : K.length = 32) (p : E) : apLad K (B32 ((uY finv p.1.2).val : Int)) = B32 ((uY finv (mu (BV K).toNat p).1.2).val : Int) := by
  have hV : (BV K).toNat < 2 ^ 256 := by
    have := BV_rng h
    show (BV K).toNat < 115792089237316195423570985008687907853269984665640564039457584007913129639936
    omega
  rw [lad_ok h l]
  have k := ladder_mu fp_curve fp_d1 fp_k121665 p (bl (BV K).toNat 256) (fun e => by
    have := bl_len (BV K).toNat 256
    rw [e] at this
    cases this)
  rw [bl_val hV 256 (Nat.le_refl _), Nat.sub_self, Nat.pow_zero, Nat.div_one] at k
  rw [k]
  rfl
theorem val_inj {x y : Fp} : decide (B32 (x.val : Int) = B32 (y.val : Int)) = decide (x = y) :=
  decide_eq_decide.2 ⟨fun h => fp_ext (B32_inj ⟨(val_rng _).1, val_256 _⟩ ⟨(val_rng _).1, val_256 _⟩ h), fun h => by rw [h]⟩
theorem monV_enc (p : E) : apMont (encE p) = B32 ((uY finv p.1.2).val : Int) := (mont_enc p).1
theorem monC_enc (p : E) : apMont_1 (encE p) = 0 := (mont_enc p).2
theorem coX_enc (p : E) : apCo (encE p) = B32 (p.1.1.val : Int) := (co_enc p).1
theorem coY_enc (p : E) : apCo_1 (encE p) = B32 (p.1.2.val : Int) := (co_enc p).2.1
theorem coC_enc (p : E) : apCo_2 (encE p) = 0 := (co_enc p).2.2
theorem mon_dec (p q : E) : decide (B32 ((uY finv p.1.2).val : Int) = B32 ((uY finv q.1.2).val : Int)) = (decide (encE p = encE q) || (decide (encE (ng p) = encE q) || (decide (B32 (p.1.1.val : Int) = [0, 0, 0, 0, 0, 0, 0, 0, 0, 0, 0, 0, 0, 0, 0, 0, 0, 0, 0, 0, 0, 0, 0, 0, 0, 0, 0, 0, 0, 0, 0, 0]) && decide (B32 (q.1.1.val : Int) = [0, 0, 0, 0, 0, 0, 0, 0, 0, 0, 0, 0, 0, 0, 0, 0, 0, 0, 0, 0, 0, 0, 0, 0, 0, 0, 0, 0, 0, 0, 0, 0])))) := by
  have hz : ∀ x : Fp, decide (B32 (x.val : Int) = [0, 0, 0, 0, 0, 0, 0, 0, 0, 0, 0, 0, 0, 0, 0, 0, 0, 0, 0, 0, 0, 0, 0, 0, 0, 0, 0, 0, 0, 0, 0, 0]) = decide (x = 0) := fun x => decide_eq_decide.2 (fp_zero_bytes x)
  rw [val_inj, enc_dec2, enc_dec2, hz, hz, ← Bool.decide_and, ← Bool.decide_or, ← Bool.decide_or]
  refine decide_eq_decide.2 ((uY_eq fp_curve fp_d1 p q).trans ⟨fun h => ?_, fun h => ?_⟩)
  · rcases h with h | h | h
    · exact .inl h
    · refine .inr (.inl ?_)
      have : ng q = p := h
      rw [← this]
      exact eG.neg_neg q
    · exact .inr (.inr h)
  · rcases h with h | h | h
    · exact .inl h
    · refine .inr (.inl ?_)
      show ng q = p
      rw [← h]
      exact eG.neg_neg p
    · exact .inr (.inr h)
theorem uY_ng (p : E) : uY finv (ng p).1.2 = uY finv p.1.2 := rfl
end Go.Proofs.Ytodiojpakfjehaa.X

/- Printed by a tool of this session. -/
namespace Go.Proofs.Ytodiojpakfjehaa.X
open Go Go.Proofs
set_option linter.unusedVariables false
set_option linter.unusedSimpArgs false
set_option maxRecDepth 100000
theorem teVR_4 : TEOk Try.prog 4 ⟨.bool, 1, 1, [.b false], false⟩ :=
  TEOk.of Try.underlying4 (i := Try.t4) (by kernel_rfl) rfl rfl rfl (by kernel_rfl) (fun h => by cases h) (by kernel_rfl)
theorem teVR_5 : TEOk Try.prog 5 ⟨.int .u8, 1, 1, [.i .u8 (0 : Int)], false⟩ :=
  TEOk.of Try.underlying5 (i := Try.t5) (by kernel_rfl) rfl rfl rfl (by kernel_rfl) (fun h => by cases h) (by kernel_rfl)
theorem teVR_23 : TEOk Try.prog 23 ⟨.array 32 5, 32, 32, [.ints .u8 (32 : Nat) ([0, 0, 0, 0, 0, 0, 0, 0, 0, 0, 0, 0, 0, 0, 0, 0, 0, 0, 0, 0, 0, 0, 0, 0, 0, 0, 0, 0, 0, 0, 0, 0] : List Int)], true⟩ :=
  TEOk.of Try.underlying23 (i := Try.t23) (by kernel_rfl) rfl rfl rfl (by kernel_rfl) (fun _ => Try.eqGuardType23) (by kernel_rfl)
theorem teVR_24 : TEOk Try.prog 24 ⟨.array 32 5, 32, 32, [.ints .u8 (32 : Nat) ([0, 0, 0, 0, 0, 0, 0, 0, 0, 0, 0, 0, 0, 0, 0, 0, 0, 0, 0, 0, 0, 0, 0, 0, 0, 0, 0, 0, 0, 0, 0, 0] : List Int)], true⟩ :=
  TEOk.of Try.underlying24 (i := Try.t24) (by kernel_rfl) rfl rfl rfl (by kernel_rfl) (fun _ => Try.eqGuardType24) (by kernel_rfl)
theorem teVR_37 : TEOk Try.prog 37 ⟨.array 32 5, 32, 32, [.ints .u8 (32 : Nat) ([0, 0, 0, 0, 0, 0, 0, 0, 0, 0, 0, 0, 0, 0, 0, 0, 0, 0, 0, 0, 0, 0, 0, 0, 0, 0, 0, 0, 0, 0, 0, 0] : List Int)], true⟩ :=
  TEOk.of Try.underlying37 (i := Try.t37) (by kernel_rfl) rfl rfl rfl (by kernel_rfl) (fun _ => Try.eqGuardType37) (by kernel_rfl)
noncomputable def tabVR : List (Nat × TE) := [(4, ⟨.bool, 1, 1, [.b false], false⟩), (5, ⟨.int .u8, 1, 1, [.i .u8 (0 : Int)], false⟩), (23, ⟨.array 32 5, 32, 32, [.ints .u8 (32 : Nat) ([0, 0, 0, 0, 0, 0, 0, 0, 0, 0, 0, 0, 0, 0, 0, 0, 0, 0, 0, 0, 0, 0, 0, 0, 0, 0, 0, 0, 0, 0, 0, 0] : List Int)], true⟩), (24, ⟨.array 32 5, 32, 32, [.ints .u8 (32 : Nat) ([0, 0, 0, 0, 0, 0, 0, 0, 0, 0, 0, 0, 0, 0, 0, 0, 0, 0, 0, 0, 0, 0, 0, 0, 0, 0, 0, 0, 0, 0, 0, 0] : List Int)], true⟩), (37, ⟨.array 32 5, 32, 32, [.ints .u8 (32 : Nat) ([0, 0, 0, 0, 0, 0, 0, 0, 0, 0, 0, 0, 0, 0, 0, 0, 0, 0, 0, 0, 0, 0, 0, 0, 0, 0, 0, 0, 0, 0, 0, 0] : List Int)], true⟩)]
theorem tabOkVR : TabOk Try.prog (tabOf tabVR) := (tabOf_cons teVR_4 (tabOf_cons teVR_5 (tabOf_cons teVR_23 (tabOf_cons teVR_24 (tabOf_cons teVR_37 tabOf_nil)))))

theorem mont_v0 (a : List Int) (b : List Int) (k : List Int) (h0 : Byt a) (h1 : Byt b) (h2 : Byt k) (hv0 : List.length a = 32) (hv1 : List.length b = 32) (hv2 : List.length k = 32) : ((!(decide ((apMont (oneNeg (lwPt a))) = (apMont (lwPt a))))) = false) := (by simp only [pt_ok h0 hv0, pt_ok h1 hv1, id_enc, base_enc, lwAdd_enc, neg_enc, negc_enc, sub_enc, subc_enc, dbl_enc, dblc_enc, cof_enc, cofc_enc, lwOrd_enc, monV_enc, monC_enc, coX_enc, coY_enc, coC_enc, uY_ng, lwMul_enc h2 hv2, lad_enc h2 hv2]; rfl)
theorem mont_v1 (a : List Int) (b : List Int) (k : List Int) (h0 : Byt a) (h1 : Byt b) (h2 : Byt k) (hv0 : List.length a = 32) (hv1 : List.length b = 32) (hv2 : List.length k = 32) : ((!(decide ((apLad k (apMont (lwPt a))) = (apMont (lwMul k (lwPt a)))))) = false) := (by simp only [pt_ok h0 hv0, pt_ok h1 hv1, id_enc, base_enc, lwAdd_enc, neg_enc, negc_enc, sub_enc, subc_enc, dbl_enc, dblc_enc, cof_enc, cofc_enc, lwOrd_enc, monV_enc, monC_enc, coX_enc, coY_enc, coC_enc, uY_ng, lwMul_enc h2 hv2, lad_enc h2 hv2]; rfl)
theorem mont_v2 (a : List Int) (b : List Int) (k : List Int) (h0 : Byt a) (h1 : Byt b) (h2 : Byt k) (hv0 : List.length a = 32) (hv1 : List.length b = 32) (hv2 : List.length k = 32) : (((apMont_1 (oneNeg (lwPt a))) != (0 : Int)) = false) := (by simp only [pt_ok h0 hv0, pt_ok h1 hv1, id_enc, base_enc, lwAdd_enc, neg_enc, negc_enc, sub_enc, subc_enc, dbl_enc, dblc_enc, cof_enc, cofc_enc, lwOrd_enc, monV_enc, monC_enc, coX_enc, coY_enc, coC_enc, uY_ng, lwMul_enc h2 hv2, lad_enc h2 hv2]; rfl)
theorem mont_v3 (a : List Int) (b : List Int) (k : List Int) (h0 : Byt a) (h1 : Byt b) (h2 : Byt k) (hv0 : List.length a = 32) (hv1 : List.length b = 32) (hv2 : List.length k = 32) : (((oneNeg_1 (lwPt a)) != (0 : Int)) = false) := (by simp only [pt_ok h0 hv0, pt_ok h1 hv1, id_enc, base_enc, lwAdd_enc, neg_enc, negc_enc, sub_enc, subc_enc, dbl_enc, dblc_enc, cof_enc, cofc_enc, lwOrd_enc, monV_enc, monC_enc, coX_enc, coY_enc, coC_enc, uY_ng, lwMul_enc h2 hv2, lad_enc h2 hv2]; rfl)
theorem mont_v4 (a : List Int) (b : List Int) (k : List Int) (h0 : Byt a) (h1 : Byt b) (h2 : Byt k) (hv0 : List.length a = 32) (hv1 : List.length b = 32) (hv2 : List.length k = 32) : (((apMont_1 (lwPt b)) != (0 : Int)) = false) := (by simp only [pt_ok h0 hv0, pt_ok h1 hv1, id_enc, base_enc, lwAdd_enc, neg_enc, negc_enc, sub_enc, subc_enc, dbl_enc, dblc_enc, cof_enc, cofc_enc, lwOrd_enc, monV_enc, monC_enc, coX_enc, coY_enc, coC_enc, uY_ng, lwMul_enc h2 hv2, lad_enc h2 hv2]; rfl)
theorem mont_v5 (a : List Int) (b : List Int) (k : List Int) (h0 : Byt a) (h1 : Byt b) (h2 : Byt k) (hv0 : List.length a = 32) (hv1 : List.length b = 32) (hv2 : List.length k = 32) : (((apMont_1 (lwMul k (lwPt a))) != (0 : Int)) = false) := (by simp only [pt_ok h0 hv0, pt_ok h1 hv1, id_enc, base_enc, lwAdd_enc, neg_enc, negc_enc, sub_enc, subc_enc, dbl_enc, dblc_enc, cof_enc, cofc_enc, lwOrd_enc, monV_enc, monC_enc, coX_enc, coY_enc, coC_enc, uY_ng, lwMul_enc h2 hv2, lad_enc h2 hv2]; rfl)
theorem mont_v6 (a : List Int) (b : List Int) (k : List Int) (h0 : Byt a) (h1 : Byt b) (h2 : Byt k) (hv0 : List.length a = 32) (hv1 : List.length b = 32) (hv2 : List.length k = 32) : (((apMont_1 (lwPt a)) != (0 : Int)) = false) := (by simp only [pt_ok h0 hv0, pt_ok h1 hv1, id_enc, base_enc, lwAdd_enc, neg_enc, negc_enc, sub_enc, subc_enc, dbl_enc, dblc_enc, cof_enc, cofc_enc, lwOrd_enc, monV_enc, monC_enc, coX_enc, coY_enc, coC_enc, uY_ng, lwMul_enc h2 hv2, lad_enc h2 hv2]; rfl)
set_option maxHeartbeats 1000000 in
theorem mont_w0_body0 (a : List Int) (b : List Int) (k : List Int) (h0 : (Byt a)) (h1 : (Byt b)) (h2 : (Byt k)) (hv0 : List.length a = (32 : Nat)) (hv1 : List.length b = (32 : Nat)) (hv2 : List.length k = (32 : Nat)) (hb0 : (decide ((lwPt a) = (lwPt b))) = true) (w : World) : Body Try.prog (tabOf tabVR) Try.f9 ⟨w, [], 0, noEnv⟩ (toA [.g [.ints .u8 (32 : Nat) a], .g [.ints .u8 (32 : Nat) b], .g [.ints .u8 (32 : Nat) k]]) [] (fun ys _ => ys = [.a (.b true)]) :=
  Body.of_fin (Γ := gam65) (Λ := noLam) (Ψ := noPsi) (fuel := 0) (m := 122) (c := (Try.f9.body.getD .skip)) mix tabOkVR gam65_ok rfl (rs := [.tmp 6]) rfl rfl [false, true, true, false, true, true, false, true, true, false, true, true, false, true, true, true, true, true, false, true, true, true, false, false, false, false, false, true, false, false, false, false, false, true] [.eqS 6 (.o (.a (.b true)))]
    (vc := [((.o (.a (.b ((decide ((apMont (lwPt a)) = (apMont (lwPt b)))) == true))) : AV) = .o (.a (.b true))), (true = true), (true = true), (true = true), (true = true), (true = true), (true = true), ((decide ((lwPt a) = (lwPt b))) = true), ((decide ((lwPt a) = (lwPt b))) = true), ((decide ((lwPt a) = (lwPt b))) = true), ((decide ((lwPt a) = (lwPt b))) = true), ((!(decide ((apMont (oneNeg (lwPt a))) = (apMont (lwPt a))))) = false), ((!(decide ((apLad k (apMont (lwPt a))) = (apMont (lwMul k (lwPt a)))))) = false), ((!(decide ((apLad k (apMont (lwPt a))) = (apMont (lwMul k (lwPt a)))))) = false), ((!(decide ((apLad k (apMont (lwPt a))) = (apMont (lwMul k (lwPt a)))))) = false), ((!(decide ((apLad k (apMont (lwPt a))) = (apMont (lwMul k (lwPt a)))))) = false), (((apMont_1 (oneNeg (lwPt a))) != (0 : Int)) = false), (((apMont_1 (oneNeg (lwPt a))) != (0 : Int)) = false), (((apMont_1 (oneNeg (lwPt a))) != (0 : Int)) = false), (((apMont_1 (oneNeg (lwPt a))) != (0 : Int)) = false), (((apMont_1 (oneNeg (lwPt a))) != (0 : Int)) = false), (((apMont_1 (oneNeg (lwPt a))) != (0 : Int)) = false), (((oneNeg_1 (lwPt a)) != (0 : Int)) = false), (((oneNeg_1 (lwPt a)) != (0 : Int)) = false), (((oneNeg_1 (lwPt a)) != (0 : Int)) = false), (((apMont_1 (lwPt b)) != (0 : Int)) = false), (((apMont_1 (lwPt b)) != (0 : Int)) = false), (((apMont_1 (lwPt b)) != (0 : Int)) = false), (((apMont_1 (lwMul k (lwPt a))) != (0 : Int)) = false), (((apMont_1 (lwMul k (lwPt a))) != (0 : Int)) = false), (((apMont_1 (lwMul k (lwPt a))) != (0 : Int)) = false), (((apMont_1 (lwPt a)) != (0 : Int)) = false), (((apMont_1 (lwPt a)) != (0 : Int)) = false), (((apMont_1 (lwPt a)) != (0 : Int)) = false), (false = false)]) (by kernel_rfl)
    (AllP_cons ((congrArg (fun z => AV.o (.a (.b z))) (by have kk := mon_dec (ptF a) (ptF b); simp only [pt_ok h0 hv0, pt_ok h1 hv1, id_enc, base_enc, lwAdd_enc, neg_enc, negc_enc, sub_enc, subc_enc, dbl_enc, dblc_enc, cof_enc, cofc_enc, lwOrd_enc, monV_enc, monC_enc, coX_enc, coY_enc, coC_enc, uY_ng] at hb0 ⊢; rw [kk]; simp only [hb0]; first | rfl | exact beq_self_eq_true _))) (AllP_cons rfl (AllP_cons rfl (AllP_cons rfl (AllP_cons rfl (AllP_cons rfl (AllP_cons rfl (AllP_cons hb0 (AllP_cons hb0 (AllP_cons hb0 (AllP_cons hb0 (AllP_cons (mont_v0 a b k h0 h1 h2 hv0 hv1 hv2) (AllP_cons (mont_v1 a b k h0 h1 h2 hv0 hv1 hv2) (AllP_cons (mont_v1 a b k h0 h1 h2 hv0 hv1 hv2) (AllP_cons (mont_v1 a b k h0 h1 h2 hv0 hv1 hv2) (AllP_cons (mont_v1 a b k h0 h1 h2 hv0 hv1 hv2) (AllP_cons (mont_v2 a b k h0 h1 h2 hv0 hv1 hv2) (AllP_cons (mont_v2 a b k h0 h1 h2 hv0 hv1 hv2) (AllP_cons (mont_v2 a b k h0 h1 h2 hv0 hv1 hv2) (AllP_cons (mont_v2 a b k h0 h1 h2 hv0 hv1 hv2) (AllP_cons (mont_v2 a b k h0 h1 h2 hv0 hv1 hv2) (AllP_cons (mont_v2 a b k h0 h1 h2 hv0 hv1 hv2) (AllP_cons (mont_v3 a b k h0 h1 h2 hv0 hv1 hv2) (AllP_cons (mont_v3 a b k h0 h1 h2 hv0 hv1 hv2) (AllP_cons (mont_v3 a b k h0 h1 h2 hv0 hv1 hv2) (AllP_cons (mont_v4 a b k h0 h1 h2 hv0 hv1 hv2) (AllP_cons (mont_v4 a b k h0 h1 h2 hv0 hv1 hv2) (AllP_cons (mont_v4 a b k h0 h1 h2 hv0 hv1 hv2) (AllP_cons (mont_v5 a b k h0 h1 h2 hv0 hv1 hv2) (AllP_cons (mont_v5 a b k h0 h1 h2 hv0 hv1 hv2) (AllP_cons (mont_v5 a b k h0 h1 h2 hv0 hv1 hv2) (AllP_cons (mont_v6 a b k h0 h1 h2 hv0 hv1 hv2) (AllP_cons (mont_v6 a b k h0 h1 h2 hv0 hv1 hv2) (AllP_cons (mont_v6 a b k h0 h1 h2 hv0 hv1 hv2) (AllP_cons rfl (AllP_nil))))))))))))))))))))))))))))))))))))

set_option maxHeartbeats 1000000 in
theorem mont_w1_body0 (a : List Int) (b : List Int) (k : List Int) (h0 : (Byt a)) (h1 : (Byt b)) (h2 : (Byt k)) (hv0 : List.length a = (32 : Nat)) (hv1 : List.length b = (32 : Nat)) (hv2 : List.length k = (32 : Nat)) (hb0 : (decide ((lwPt a) = (lwPt b))) = false) (hb1 : (decide ((oneNeg (lwPt a)) = (lwPt b))) = true) (w : World) : Body Try.prog (tabOf tabVR) Try.f9 ⟨w, [], 0, noEnv⟩ (toA [.g [.ints .u8 (32 : Nat) a], .g [.ints .u8 (32 : Nat) b], .g [.ints .u8 (32 : Nat) k]]) [] (fun ys _ => ys = [.a (.b true)]) :=
  Body.of_fin (Γ := gam65) (Λ := noLam) (Ψ := noPsi) (fuel := 0) (m := 122) (c := (Try.f9.body.getD .skip)) mix tabOkVR gam65_ok rfl (rs := [.tmp 6]) rfl rfl [false, true, true, false, true, true, false, true, true, false, true, true, false, true, true, true, true, true, false, true, true, true, false, false, true, true, true, false, false, false, false, false, false, true] [.eqS 6 (.o (.a (.b true)))]
    (vc := [((.o (.a (.b ((decide ((apMont (lwPt a)) = (apMont (lwPt b)))) == true))) : AV) = .o (.a (.b true))), ((decide ((oneNeg (lwPt a)) = (lwPt b))) = true), ((decide ((oneNeg (lwPt a)) = (lwPt b))) = true), ((decide ((oneNeg (lwPt a)) = (lwPt b))) = true), ((decide ((oneNeg (lwPt a)) = (lwPt b))) = true), ((decide ((oneNeg (lwPt a)) = (lwPt b))) = true), ((decide ((oneNeg (lwPt a)) = (lwPt b))) = true), ((decide ((lwPt a) = (lwPt b))) = false), ((decide ((lwPt a) = (lwPt b))) = false), ((decide ((lwPt a) = (lwPt b))) = false), ((decide ((lwPt a) = (lwPt b))) = false), ((!(decide ((apMont (oneNeg (lwPt a))) = (apMont (lwPt a))))) = false), ((!(decide ((apLad k (apMont (lwPt a))) = (apMont (lwMul k (lwPt a)))))) = false), ((!(decide ((apLad k (apMont (lwPt a))) = (apMont (lwMul k (lwPt a)))))) = false), ((!(decide ((apLad k (apMont (lwPt a))) = (apMont (lwMul k (lwPt a)))))) = false), ((!(decide ((apLad k (apMont (lwPt a))) = (apMont (lwMul k (lwPt a)))))) = false), (((apMont_1 (oneNeg (lwPt a))) != (0 : Int)) = false), (((apMont_1 (oneNeg (lwPt a))) != (0 : Int)) = false), (((apMont_1 (oneNeg (lwPt a))) != (0 : Int)) = false), (((apMont_1 (oneNeg (lwPt a))) != (0 : Int)) = false), (((apMont_1 (oneNeg (lwPt a))) != (0 : Int)) = false), (((apMont_1 (oneNeg (lwPt a))) != (0 : Int)) = false), (((oneNeg_1 (lwPt a)) != (0 : Int)) = false), (((oneNeg_1 (lwPt a)) != (0 : Int)) = false), (((oneNeg_1 (lwPt a)) != (0 : Int)) = false), (((apMont_1 (lwPt b)) != (0 : Int)) = false), (((apMont_1 (lwPt b)) != (0 : Int)) = false), (((apMont_1 (lwPt b)) != (0 : Int)) = false), (((apMont_1 (lwMul k (lwPt a))) != (0 : Int)) = false), (((apMont_1 (lwMul k (lwPt a))) != (0 : Int)) = false), (((apMont_1 (lwMul k (lwPt a))) != (0 : Int)) = false), (((apMont_1 (lwPt a)) != (0 : Int)) = false), (((apMont_1 (lwPt a)) != (0 : Int)) = false), (((apMont_1 (lwPt a)) != (0 : Int)) = false), (false = false)]) (by kernel_rfl)
    (AllP_cons ((congrArg (fun z => AV.o (.a (.b z))) (by have kk := mon_dec (ptF a) (ptF b); simp only [pt_ok h0 hv0, pt_ok h1 hv1, id_enc, base_enc, lwAdd_enc, neg_enc, negc_enc, sub_enc, subc_enc, dbl_enc, dblc_enc, cof_enc, cofc_enc, lwOrd_enc, monV_enc, monC_enc, coX_enc, coY_enc, coC_enc, uY_ng] at hb0 hb1 ⊢; rw [kk]; simp only [hb0, hb1]; first | rfl | exact beq_self_eq_true _))) (AllP_cons hb1 (AllP_cons hb1 (AllP_cons hb1 (AllP_cons hb1 (AllP_cons hb1 (AllP_cons hb1 (AllP_cons hb0 (AllP_cons hb0 (AllP_cons hb0 (AllP_cons hb0 (AllP_cons (mont_v0 a b k h0 h1 h2 hv0 hv1 hv2) (AllP_cons (mont_v1 a b k h0 h1 h2 hv0 hv1 hv2) (AllP_cons (mont_v1 a b k h0 h1 h2 hv0 hv1 hv2) (AllP_cons (mont_v1 a b k h0 h1 h2 hv0 hv1 hv2) (AllP_cons (mont_v1 a b k h0 h1 h2 hv0 hv1 hv2) (AllP_cons (mont_v2 a b k h0 h1 h2 hv0 hv1 hv2) (AllP_cons (mont_v2 a b k h0 h1 h2 hv0 hv1 hv2) (AllP_cons (mont_v2 a b k h0 h1 h2 hv0 hv1 hv2) (AllP_cons (mont_v2 a b k h0 h1 h2 hv0 hv1 hv2) (AllP_cons (mont_v2 a b k h0 h1 h2 hv0 hv1 hv2) (AllP_cons (mont_v2 a b k h0 h1 h2 hv0 hv1 hv2) (AllP_cons (mont_v3 a b k h0 h1 h2 hv0 hv1 hv2) (AllP_cons (mont_v3 a b k h0 h1 h2 hv0 hv1 hv2) (AllP_cons (mont_v3 a b k h0 h1 h2 hv0 hv1 hv2) (AllP_cons (mont_v4 a b k h0 h1 h2 hv0 hv1 hv2) (AllP_cons (mont_v4 a b k h0 h1 h2 hv0 hv1 hv2) (AllP_cons (mont_v4 a b k h0 h1 h2 hv0 hv1 hv2) (AllP_cons (mont_v5 a b k h0 h1 h2 hv0 hv1 hv2) (AllP_cons (mont_v5 a b k h0 h1 h2 hv0 hv1 hv2) (AllP_cons (mont_v5 a b k h0 h1 h2 hv0 hv1 hv2) (AllP_cons (mont_v6 a b k h0 h1 h2 hv0 hv1 hv2) (AllP_cons (mont_v6 a b k h0 h1 h2 hv0 hv1 hv2) (AllP_cons (mont_v6 a b k h0 h1 h2 hv0 hv1 hv2) (AllP_cons rfl (AllP_nil))))))))))))))))))))))))))))))))))))

set_option maxHeartbeats 1000000 in
theorem mont_w2_body0 (a : List Int) (b : List Int) (k : List Int) (h0 : (Byt a)) (h1 : (Byt b)) (h2 : (Byt k)) (hv0 : List.length a = (32 : Nat)) (hv1 : List.length b = (32 : Nat)) (hv2 : List.length k = (32 : Nat)) (hb0 : (decide ((lwPt a) = (lwPt b))) = false) (hb1 : (decide ((oneNeg (lwPt a)) = (lwPt b))) = false) (hb2 : (decide ((apCo (lwPt a)) = ([0, 0, 0, 0, 0, 0, 0, 0, 0, 0, 0, 0, 0, 0, 0, 0, 0, 0, 0, 0, 0, 0, 0, 0, 0, 0, 0, 0, 0, 0, 0, 0] : List Int))) = true) (w : World) : Body Try.prog (tabOf tabVR) Try.f9 ⟨w, [], 0, noEnv⟩ (toA [.g [.ints .u8 (32 : Nat) a], .g [.ints .u8 (32 : Nat) b], .g [.ints .u8 (32 : Nat) k]]) [] (fun ys _ => ys = [.a (.b true)]) :=
  Body.of_fin (Γ := gam65) (Λ := noLam) (Ψ := noPsi) (fuel := 0) (m := 122) (c := (Try.f9.body.getD .skip)) mix tabOkVR gam65_ok rfl (rs := [.tmp 6]) rfl rfl [false, true, true, false, true, true, false, true, true, false, true, true, false, true, true, true, true, true, false, true, true, true, false, false, true, true, true, false, true, true, true, true, true, true, true, true, true, false] [.eqS 6 (.o (.a (.b true)))]
    (vc := [((.o (.a (.b ((decide ((apMont (lwPt a)) = (apMont (lwPt b)))) == (decide ((apCo (lwPt b)) = ([0, 0, 0, 0, 0, 0, 0, 0, 0, 0, 0, 0, 0, 0, 0, 0, 0, 0, 0, 0, 0, 0, 0, 0, 0, 0, 0, 0, 0, 0, 0, 0] : List Int)))))) : AV) = .o (.a (.b true))), ((decide ((oneNeg (lwPt a)) = (lwPt b))) = false), ((decide ((apCo (lwPt a)) = ([0, 0, 0, 0, 0, 0, 0, 0, 0, 0, 0, 0, 0, 0, 0, 0, 0, 0, 0, 0, 0, 0, 0, 0, 0, 0, 0, 0, 0, 0, 0, 0] : List Int))) = true), ((decide ((oneNeg (lwPt a)) = (lwPt b))) = false), ((decide ((apCo (lwPt a)) = ([0, 0, 0, 0, 0, 0, 0, 0, 0, 0, 0, 0, 0, 0, 0, 0, 0, 0, 0, 0, 0, 0, 0, 0, 0, 0, 0, 0, 0, 0, 0, 0] : List Int))) = true), ((decide ((apCo (lwPt a)) = ([0, 0, 0, 0, 0, 0, 0, 0, 0, 0, 0, 0, 0, 0, 0, 0, 0, 0, 0, 0, 0, 0, 0, 0, 0, 0, 0, 0, 0, 0, 0, 0] : List Int))) = true), ((decide ((apCo (lwPt a)) = ([0, 0, 0, 0, 0, 0, 0, 0, 0, 0, 0, 0, 0, 0, 0, 0, 0, 0, 0, 0, 0, 0, 0, 0, 0, 0, 0, 0, 0, 0, 0, 0] : List Int))) = true), ((decide ((oneNeg (lwPt a)) = (lwPt b))) = false), ((decide ((oneNeg (lwPt a)) = (lwPt b))) = false), ((decide ((oneNeg (lwPt a)) = (lwPt b))) = false), ((decide ((oneNeg (lwPt a)) = (lwPt b))) = false), ((decide ((lwPt a) = (lwPt b))) = false), ((decide ((lwPt a) = (lwPt b))) = false), ((decide ((lwPt a) = (lwPt b))) = false), ((decide ((lwPt a) = (lwPt b))) = false), ((!(decide ((apMont (oneNeg (lwPt a))) = (apMont (lwPt a))))) = false), ((!(decide ((apLad k (apMont (lwPt a))) = (apMont (lwMul k (lwPt a)))))) = false), ((!(decide ((apLad k (apMont (lwPt a))) = (apMont (lwMul k (lwPt a)))))) = false), ((!(decide ((apLad k (apMont (lwPt a))) = (apMont (lwMul k (lwPt a)))))) = false), ((!(decide ((apLad k (apMont (lwPt a))) = (apMont (lwMul k (lwPt a)))))) = false), (((apMont_1 (oneNeg (lwPt a))) != (0 : Int)) = false), (((apMont_1 (oneNeg (lwPt a))) != (0 : Int)) = false), (((apMont_1 (oneNeg (lwPt a))) != (0 : Int)) = false), (((apMont_1 (oneNeg (lwPt a))) != (0 : Int)) = false), (((apMont_1 (oneNeg (lwPt a))) != (0 : Int)) = false), (((apMont_1 (oneNeg (lwPt a))) != (0 : Int)) = false), (((oneNeg_1 (lwPt a)) != (0 : Int)) = false), (((oneNeg_1 (lwPt a)) != (0 : Int)) = false), (((oneNeg_1 (lwPt a)) != (0 : Int)) = false), (((apMont_1 (lwPt b)) != (0 : Int)) = false), (((apMont_1 (lwPt b)) != (0 : Int)) = false), (((apMont_1 (lwPt b)) != (0 : Int)) = false), (((apMont_1 (lwMul k (lwPt a))) != (0 : Int)) = false), (((apMont_1 (lwMul k (lwPt a))) != (0 : Int)) = false), (((apMont_1 (lwMul k (lwPt a))) != (0 : Int)) = false), (((apMont_1 (lwPt a)) != (0 : Int)) = false), (((apMont_1 (lwPt a)) != (0 : Int)) = false), (((apMont_1 (lwPt a)) != (0 : Int)) = false), (false = false)]) (by kernel_rfl)
    (AllP_cons ((congrArg (fun z => AV.o (.a (.b z))) (by have kk := mon_dec (ptF a) (ptF b); simp only [pt_ok h0 hv0, pt_ok h1 hv1, id_enc, base_enc, lwAdd_enc, neg_enc, negc_enc, sub_enc, subc_enc, dbl_enc, dblc_enc, cof_enc, cofc_enc, lwOrd_enc, monV_enc, monC_enc, coX_enc, coY_enc, coC_enc, uY_ng] at hb0 hb1 hb2 ⊢; rw [kk]; simp only [hb0, hb1, hb2]; first | rfl | exact beq_self_eq_true _))) (AllP_cons hb1 (AllP_cons hb2 (AllP_cons hb1 (AllP_cons hb2 (AllP_cons hb2 (AllP_cons hb2 (AllP_cons hb1 (AllP_cons hb1 (AllP_cons hb1 (AllP_cons hb1 (AllP_cons hb0 (AllP_cons hb0 (AllP_cons hb0 (AllP_cons hb0 (AllP_cons (mont_v0 a b k h0 h1 h2 hv0 hv1 hv2) (AllP_cons (mont_v1 a b k h0 h1 h2 hv0 hv1 hv2) (AllP_cons (mont_v1 a b k h0 h1 h2 hv0 hv1 hv2) (AllP_cons (mont_v1 a b k h0 h1 h2 hv0 hv1 hv2) (AllP_cons (mont_v1 a b k h0 h1 h2 hv0 hv1 hv2) (AllP_cons (mont_v2 a b k h0 h1 h2 hv0 hv1 hv2) (AllP_cons (mont_v2 a b k h0 h1 h2 hv0 hv1 hv2) (AllP_cons (mont_v2 a b k h0 h1 h2 hv0 hv1 hv2) (AllP_cons (mont_v2 a b k h0 h1 h2 hv0 hv1 hv2) (AllP_cons (mont_v2 a b k h0 h1 h2 hv0 hv1 hv2) (AllP_cons (mont_v2 a b k h0 h1 h2 hv0 hv1 hv2) (AllP_cons (mont_v3 a b k h0 h1 h2 hv0 hv1 hv2) (AllP_cons (mont_v3 a b k h0 h1 h2 hv0 hv1 hv2) (AllP_cons (mont_v3 a b k h0 h1 h2 hv0 hv1 hv2) (AllP_cons (mont_v4 a b k h0 h1 h2 hv0 hv1 hv2) (AllP_cons (mont_v4 a b k h0 h1 h2 hv0 hv1 hv2) (AllP_cons (mont_v4 a b k h0 h1 h2 hv0 hv1 hv2) (AllP_cons (mont_v5 a b k h0 h1 h2 hv0 hv1 hv2) (AllP_cons (mont_v5 a b k h0 h1 h2 hv0 hv1 hv2) (AllP_cons (mont_v5 a b k h0 h1 h2 hv0 hv1 hv2) (AllP_cons (mont_v6 a b k h0 h1 h2 hv0 hv1 hv2) (AllP_cons (mont_v6 a b k h0 h1 h2 hv0 hv1 hv2) (AllP_cons (mont_v6 a b k h0 h1 h2 hv0 hv1 hv2) (AllP_cons rfl (AllP_nil))))))))))))))))))))))))))))))))))))))))

set_option maxHeartbeats 1000000 in
theorem mont_w3_body0 (a : List Int) (b : List Int) (k : List Int) (h0 : (Byt a)) (h1 : (Byt b)) (h2 : (Byt k)) (hv0 : List.length a = (32 : Nat)) (hv1 : List.length b = (32 : Nat)) (hv2 : List.length k = (32 : Nat)) (hb0 : (decide ((lwPt a) = (lwPt b))) = false) (hb1 : (decide ((oneNeg (lwPt a)) = (lwPt b))) = false) (hb2 : (decide ((apCo (lwPt a)) = ([0, 0, 0, 0, 0, 0, 0, 0, 0, 0, 0, 0, 0, 0, 0, 0, 0, 0, 0, 0, 0, 0, 0, 0, 0, 0, 0, 0, 0, 0, 0, 0] : List Int))) = false) (w : World) : Body Try.prog (tabOf tabVR) Try.f9 ⟨w, [], 0, noEnv⟩ (toA [.g [.ints .u8 (32 : Nat) a], .g [.ints .u8 (32 : Nat) b], .g [.ints .u8 (32 : Nat) k]]) [] (fun ys _ => ys = [.a (.b true)]) :=
  Body.of_fin (Γ := gam65) (Λ := noLam) (Ψ := noPsi) (fuel := 0) (m := 122) (c := (Try.f9.body.getD .skip)) mix tabOkVR gam65_ok rfl (rs := [.tmp 6]) rfl rfl [false, true, true, false, true, true, false, true, true, false, true, true, false, true, true, true, true, true, false, true, true, true, false, false, true, true, true, false, true, true, true, true, false, false, false, true, false, false] [.eqS 6 (.o (.a (.b true)))]
    (vc := [((.o (.a (.b ((decide ((apMont (lwPt a)) = (apMont (lwPt b)))) == false))) : AV) = .o (.a (.b true))), ((decide ((oneNeg (lwPt a)) = (lwPt b))) = false), ((decide ((apCo (lwPt a)) = ([0, 0, 0, 0, 0, 0, 0, 0, 0, 0, 0, 0, 0, 0, 0, 0, 0, 0, 0, 0, 0, 0, 0, 0, 0, 0, 0, 0, 0, 0, 0, 0] : List Int))) = false), ((decide ((oneNeg (lwPt a)) = (lwPt b))) = false), ((decide ((apCo (lwPt a)) = ([0, 0, 0, 0, 0, 0, 0, 0, 0, 0, 0, 0, 0, 0, 0, 0, 0, 0, 0, 0, 0, 0, 0, 0, 0, 0, 0, 0, 0, 0, 0, 0] : List Int))) = false), ((decide ((apCo (lwPt a)) = ([0, 0, 0, 0, 0, 0, 0, 0, 0, 0, 0, 0, 0, 0, 0, 0, 0, 0, 0, 0, 0, 0, 0, 0, 0, 0, 0, 0, 0, 0, 0, 0] : List Int))) = false), ((decide ((apCo (lwPt a)) = ([0, 0, 0, 0, 0, 0, 0, 0, 0, 0, 0, 0, 0, 0, 0, 0, 0, 0, 0, 0, 0, 0, 0, 0, 0, 0, 0, 0, 0, 0, 0, 0] : List Int))) = false), ((decide ((oneNeg (lwPt a)) = (lwPt b))) = false), ((decide ((oneNeg (lwPt a)) = (lwPt b))) = false), ((decide ((oneNeg (lwPt a)) = (lwPt b))) = false), ((decide ((oneNeg (lwPt a)) = (lwPt b))) = false), ((decide ((lwPt a) = (lwPt b))) = false), ((decide ((lwPt a) = (lwPt b))) = false), ((decide ((lwPt a) = (lwPt b))) = false), ((decide ((lwPt a) = (lwPt b))) = false), ((!(decide ((apMont (oneNeg (lwPt a))) = (apMont (lwPt a))))) = false), ((!(decide ((apLad k (apMont (lwPt a))) = (apMont (lwMul k (lwPt a)))))) = false), ((!(decide ((apLad k (apMont (lwPt a))) = (apMont (lwMul k (lwPt a)))))) = false), ((!(decide ((apLad k (apMont (lwPt a))) = (apMont (lwMul k (lwPt a)))))) = false), ((!(decide ((apLad k (apMont (lwPt a))) = (apMont (lwMul k (lwPt a)))))) = false), (((apMont_1 (oneNeg (lwPt a))) != (0 : Int)) = false), (((apMont_1 (oneNeg (lwPt a))) != (0 : Int)) = false), (((apMont_1 (oneNeg (lwPt a))) != (0 : Int)) = false), (((apMont_1 (oneNeg (lwPt a))) != (0 : Int)) = false), (((apMont_1 (oneNeg (lwPt a))) != (0 : Int)) = false), (((apMont_1 (oneNeg (lwPt a))) != (0 : Int)) = false), (((oneNeg_1 (lwPt a)) != (0 : Int)) = false), (((oneNeg_1 (lwPt a)) != (0 : Int)) = false), (((oneNeg_1 (lwPt a)) != (0 : Int)) = false), (((apMont_1 (lwPt b)) != (0 : Int)) = false), (((apMont_1 (lwPt b)) != (0 : Int)) = false), (((apMont_1 (lwPt b)) != (0 : Int)) = false), (((apMont_1 (lwMul k (lwPt a))) != (0 : Int)) = false), (((apMont_1 (lwMul k (lwPt a))) != (0 : Int)) = false), (((apMont_1 (lwMul k (lwPt a))) != (0 : Int)) = false), (((apMont_1 (lwPt a)) != (0 : Int)) = false), (((apMont_1 (lwPt a)) != (0 : Int)) = false), (((apMont_1 (lwPt a)) != (0 : Int)) = false), (false = false)]) (by kernel_rfl)
    (AllP_cons ((congrArg (fun z => AV.o (.a (.b z))) (by have kk := mon_dec (ptF a) (ptF b); simp only [pt_ok h0 hv0, pt_ok h1 hv1, id_enc, base_enc, lwAdd_enc, neg_enc, negc_enc, sub_enc, subc_enc, dbl_enc, dblc_enc, cof_enc, cofc_enc, lwOrd_enc, monV_enc, monC_enc, coX_enc, coY_enc, coC_enc, uY_ng] at hb0 hb1 hb2 ⊢; rw [kk]; simp only [hb0, hb1, hb2]; first | rfl | exact beq_self_eq_true _))) (AllP_cons hb1 (AllP_cons hb2 (AllP_cons hb1 (AllP_cons hb2 (AllP_cons hb2 (AllP_cons hb2 (AllP_cons hb1 (AllP_cons hb1 (AllP_cons hb1 (AllP_cons hb1 (AllP_cons hb0 (AllP_cons hb0 (AllP_cons hb0 (AllP_cons hb0 (AllP_cons (mont_v0 a b k h0 h1 h2 hv0 hv1 hv2) (AllP_cons (mont_v1 a b k h0 h1 h2 hv0 hv1 hv2) (AllP_cons (mont_v1 a b k h0 h1 h2 hv0 hv1 hv2) (AllP_cons (mont_v1 a b k h0 h1 h2 hv0 hv1 hv2) (AllP_cons (mont_v1 a b k h0 h1 h2 hv0 hv1 hv2) (AllP_cons (mont_v2 a b k h0 h1 h2 hv0 hv1 hv2) (AllP_cons (mont_v2 a b k h0 h1 h2 hv0 hv1 hv2) (AllP_cons (mont_v2 a b k h0 h1 h2 hv0 hv1 hv2) (AllP_cons (mont_v2 a b k h0 h1 h2 hv0 hv1 hv2) (AllP_cons (mont_v2 a b k h0 h1 h2 hv0 hv1 hv2) (AllP_cons (mont_v2 a b k h0 h1 h2 hv0 hv1 hv2) (AllP_cons (mont_v3 a b k h0 h1 h2 hv0 hv1 hv2) (AllP_cons (mont_v3 a b k h0 h1 h2 hv0 hv1 hv2) (AllP_cons (mont_v3 a b k h0 h1 h2 hv0 hv1 hv2) (AllP_cons (mont_v4 a b k h0 h1 h2 hv0 hv1 hv2) (AllP_cons (mont_v4 a b k h0 h1 h2 hv0 hv1 hv2) (AllP_cons (mont_v4 a b k h0 h1 h2 hv0 hv1 hv2) (AllP_cons (mont_v5 a b k h0 h1 h2 hv0 hv1 hv2) (AllP_cons (mont_v5 a b k h0 h1 h2 hv0 hv1 hv2) (AllP_cons (mont_v5 a b k h0 h1 h2 hv0 hv1 hv2) (AllP_cons (mont_v6 a b k h0 h1 h2 hv0 hv1 hv2) (AllP_cons (mont_v6 a b k h0 h1 h2 hv0 hv1 hv2) (AllP_cons (mont_v6 a b k h0 h1 h2 hv0 hv1 hv2) (AllP_cons rfl (AllP_nil))))))))))))))))))))))))))))))))))))))))

set_option maxHeartbeats 1000000 in
theorem mont_body (a : List Int) (b : List Int) (k : List Int) (h0 : (Byt a)) (h1 : (Byt b)) (h2 : (Byt k)) (w : World) : Body Try.prog (tabOf tabVR) Try.f9 ⟨w, [], 0, noEnv⟩ (toA [.g [.ints .u8 (32 : Nat) a], .g [.ints .u8 (32 : Nat) b], .g [.ints .u8 (32 : Nat) k]]) [] (fun ys _ => ys = [.a (.b true)]) :=
  Body.lens (c := (Try.f9.body.getD .skip)) rfl fun h => by
    cases hb0 : (decide ((lwPt a) = (lwPt b)))
    · cases hb1 : (decide ((oneNeg (lwPt a)) = (lwPt b)))
      · cases hb2 : (decide ((apCo (lwPt a)) = ([0, 0, 0, 0, 0, 0, 0, 0, 0, 0, 0, 0, 0, 0, 0, 0, 0, 0, 0, 0, 0, 0, 0, 0, 0, 0, 0, 0, 0, 0, 0, 0] : List Int)))
        · exact (mont_w3_body0 a b k h0 h1 h2 (h.vals 0 _ _ _ rfl) (h.vals 1 _ _ _ rfl) (h.vals 2 _ _ _ rfl) hb0 hb1 hb2 w).mono fun _ _ hx => hx.trans rfl
        · exact (mont_w2_body0 a b k h0 h1 h2 (h.vals 0 _ _ _ rfl) (h.vals 1 _ _ _ rfl) (h.vals 2 _ _ _ rfl) hb0 hb1 hb2 w).mono fun _ _ hx => hx.trans rfl
      · exact (mont_w1_body0 a b k h0 h1 h2 (h.vals 0 _ _ _ rfl) (h.vals 1 _ _ _ rfl) (h.vals 2 _ _ _ rfl) hb0 hb1 w).mono fun _ _ hx => hx.trans rfl
    · exact (mont_w0_body0 a b k h0 h1 h2 (h.vals 0 _ _ _ rfl) (h.vals 1 _ _ _ rfl) (h.vals 2 _ _ _ rfl) hb0 w).mono fun _ _ hx => hx.trans rfl

end Go.Proofs.Ytodiojpakfjehaa.X

/- The core, part 5 of 5: blocks of memory known by number, and an evaluator over loaded code, shown sound. -/
/- Rows: a law that answers true and leaves what was there as it was: from its body to its post; arguments opened. -/
namespace Go.Proofs.Ytodiojpakfjehaa.R
open Go Go.Proofs Go.ChangeShapes Go.WideShapes Go.ChangeAt Go.RowKit Go.Proofs.Ytodiojpakfjehaa.X
set_option linter.unusedVariables false

theorem below {W W' : World} (g : Grow W W') : Below W.heap.size W W' := ⟨g.os, g.tape, g.output, g.size, g.old⟩

section post
variable {H : Type} {enc : TypeId × Value → H} {P : Program}

/-- types that read again -/
def Reads (P : Program) (ts : List TypeId) : Bool := laidOutB P && ts.all fun t => P.readableRec t && decide (t < P.types.size)

theorem trodAll_grow (hl : laidOutB P = true) {W W' : World} (g : Grow W W') {sp : Nat → Bool} : ∀ {ts : List TypeId} {vs : List Value} {ds : List (DataW H)} {ps : List MemPlace}, (ts.all fun t => P.readableRec t && decide (t < P.types.size)) = true →
    DataW.TrodAll enc P W 0 (fun _ => true) true ts vs ds ps → (∀ p ∈ ps, p.block < W.heap.size) → (∀ p ∈ ps, sp p.block = true) → DataW.TrodAll enc P W' 0 sp true ts vs ds ps
  | [], [], [], ps, _, h, _, _ => h
  | [], _ :: _, _, _, _, h, _, _ => h.elim
  | [], [], _ :: _, _, _, h, _, _ => h.elim
  | _ :: _, [], _, _, _, h, _, _ => h.elim
  | _ :: _, _ :: _, [], _, _, h, _, _ => h.elim
  | t :: ts, v :: vs, d :: ds, ps, ht, h, hlt, hsp => by
    obtain ⟨p, q, hd, hr, rfl⟩ := h
    simp only [List.all_cons, Bool.and_eq_true, decide_eq_true_eq] at ht
    exact ⟨p, q, WideElems.Trod_stays hl ht.1.1 ht.1.2 hd (fun x hx => (below g).same (hlt x (by simp [hx]))) (fun x hx => hsp x (by simp [hx])),
      trodAll_grow hl g ht.2 hr (fun x hx => hlt x (by simp [hx])) (fun x hx => hsp x (by simp [hx])), rfl⟩

theorem post_true {f : Func} {s : ChangeSpec} {W W' : World} {args : Array Value} {ds : List (DataW H)} {before : List MemPlace} {tb : TypeId}
    (hreads : Reads P f.params.toList = true) (hvars : s.vars = []) (hfn : s.fn H ds = { results := [.lit (.bool true)], args := ds }) (hrt : f.resultTypes = #[tb]) (htb : P.underlying tb = some .bool)
    (hW : DataW.Whole enc P f.params.toList s.vars false W args.toList ds [] before) (g : Grow W W') : s.post enc P f false true false false W args (.bool true) W' := by
  unfold Reads at hreads
  rw [Bool.and_eq_true] at hreads
  have hW0 := hW
  obtain ⟨p, q, hA, hV, rfl, hfz, hnd⟩ := hW
  rw [hvars] at hV
  obtain ⟨_, rfl⟩ := trodVars_none hV
  have hlt : ∀ x ∈ p ++ [], x.block < W.heap.size := fun x hx => by simpa using hW0.lt x hx
  have hfn' : s.fn H (ds ++ []) = { results := [.lit (.bool true)], args := ds } := by rw [List.append_nil]; exact hfn
  refine ⟨ds, [], p ++ [], [], p ++ [], [], hW0, ?_, ?_, ?_, (below g).frame _, fun h => by cases h⟩
  · rw [hfn', hrt]; exact trodAll_cons_mk (shut_bool htb _) trodAll_mk0
  · rw [hfn']
    rw [List.append_nil] at hlt ⊢
    exact trodAll_grow hreads.1 g hreads.2 hA hlt (fun x hx => by simpa using hlt x hx)
  · rw [hfn', hvars]; exact rfl
end post

/-- what a list of arguments is, abstractly, with blocks from the i-th on -/
def Opened (W : World) (i : Nat) (vs : List Value) (avs : List AV) (K : Know) : Prop :=
  ∃ ρ : List (Option Ref), ρ.length = K.length ∧ ∀ β : Env, (∀ j, j < ρ.length → β (i + j) = (ρ[j]?).join) →
    (∀ j b, K.at j = some b → b.own = false ∧ b.holds β W (i + j) ∧ ∀ r, β (i + j) = some r → r.blk < W.heap.size) ∧ allC β avs vs

theorem Opened.nil {W : World} {i : Nat} : Opened W i [] [] [] := ⟨[], rfl, fun β _ => ⟨fun j b h => by simp [Know.at] at h, rfl⟩⟩

theorem allC_app {β : Env} : ∀ {a b : List AV} {x y : List Value}, allC β a x → allC β b y → allC β (a ++ b) (x ++ y)
  | [], _, _, _, h, h' => by cases h; exact h'
  | _ :: _, _, _, _, ⟨v, r, hv, hc, hr⟩, h' => by subst hv; exact ⟨v, _, rfl, hc, allC_app hr h'⟩

theorem Opened.app {W : World} {i : Nat} {vs vs' : List Value} {avs avs' : List AV} {K K' : Know} (h : Opened W i vs avs K) (h' : Opened W (i + K.length) vs' avs' K') : Opened W i (vs ++ vs') (avs ++ avs') (K ++ K') := by
  obtain ⟨ρ, hl, hρ⟩ := h
  obtain ⟨ρ', hl', hρ'⟩ := h'
  refine ⟨ρ ++ ρ', by simp [hl, hl'], fun β hβ => ?_⟩
  obtain ⟨h1, h2⟩ := hρ β fun j hj => by rw [hβ j (by simp; omega), List.getElem?_append_left hj]
  obtain ⟨h3, h4⟩ := hρ' β fun j hj => by
    rw [Nat.add_assoc, hβ (K.length + j) (by simp; omega), List.getElem?_append_right (by omega)]
    congr 2; omega
  refine ⟨fun j b hb => ?_, allC_app h2 h4⟩
  by_cases hj : j < K.length
  · refine h1 j b ?_
    unfold Know.at at hb ⊢; rwa [List.getElem?_append_left hj] at hb
  · have := h3 (j - K.length) b (by unfold Know.at at hb ⊢; rwa [List.getElem?_append_right (by omega)] at hb)
    rw [show i + K.length + (j - K.length) = i + j from by omega] at this
    exact this

/-- a value without places -/
theorem Opened.val {W : World} {i : Nat} {v : Value} {x : V1} (h : ∀ β : Env, x.con β v) : Opened W i [v] [.o x] [] :=
  ⟨[], rfl, fun β _ => ⟨fun j b hb => by simp [Know.at] at hb, ⟨v, [], rfl, h β, rfl⟩⟩⟩

/-- a slice of integers -/
theorem Opened.sl {W : World} {i : Nat} {k : IntKind} {a0 : Option Addr} {len cap : Nat} {L : List Int} (hL : L.length = len) (hlc : len ≤ cap)
    (hc : 0 < cap → ∃ b off arr ty fr, a0 = some ⟨b, off, none⟩ ∧ W.heap[b]? = some (.cells arr ty fr) ∧ off + len ≤ arr.size ∧ ∀ i x, L[i]? = some x → arr[off + i]? = some (.int k x)) :
    Opened W i [.slice a0 len cap] [.o (.a (.sl i 0 len cap))] [some ⟨false, [.ints k len L]⟩] := by
  have hbk : ∀ j (bk : Blk), Know.at [some ⟨false, [.ints k len L]⟩] j = some bk → j = 0 ∧ bk = ⟨false, [.ints k len L]⟩ := by
    intro j bk hj
    match j, hj with
    | 0, hj => exact ⟨rfl, (Option.some.inj hj).symm⟩
    | j + 1, hj => simp [Know.at] at hj
  by_cases h0 : 0 < cap
  · obtain ⟨b, off, arr, ty, fr, rfl, hh, hs, hx⟩ := hc h0
    have hlt : b < W.heap.size := (Array.getElem?_eq_some_iff.1 hh).1
    refine ⟨[some ⟨b, off, arr.size⟩], rfl, fun β hβ => ?_⟩
    have hb := hβ 0 (by simp)
    rw [Nat.add_zero] at hb
    have hb : β i = some ⟨b, off, arr.size⟩ := hb
    refine ⟨fun j bk hj => ?_, _, [], rfl, ⟨_, rfl, hlc, fun _ => ⟨_, hb, rfl⟩⟩, rfl⟩
    obtain ⟨rfl, rfl⟩ := hbk j bk hj
    rw [Nat.add_zero]
    refine ⟨rfl, ⟨L.map (Value.int k), ⟨_, [], by simp, ⟨hL, rfl⟩, rfl⟩, .inr ⟨_, arr, ty, fr, hb, hh, rfl, by simp; omega, ?_, fun h => by cases h⟩⟩, fun r hr => by rw [hb] at hr; cases hr; exact hlt⟩
    intro i v hv
    rw [List.getElem?_map, Option.map_eq_some_iff] at hv
    obtain ⟨x, hx', rfl⟩ := hv
    exact hx i x hx'
  · have hn : L = [] := List.length_eq_zero_iff.1 (by omega)
    subst hn
    have hl0 : len = 0 := by omega
    subst hl0
    refine ⟨[none], rfl, fun β hβ => ?_⟩
    have hb : β i = none := hβ 0 (by simp)
    refine ⟨fun j bk hj => ?_, _, [], rfl, ⟨_, rfl, hlc, fun h => absurd h h0⟩, rfl⟩
    obtain ⟨rfl, rfl⟩ := hbk j bk hj
    rw [Nat.add_zero]
    exact ⟨rfl, ⟨[], ⟨[], [], rfl, ⟨rfl, rfl⟩, rfl⟩, .inl ⟨rfl, .inl rfl⟩⟩, fun r hr => by rw [hb] at hr; cases hr⟩

section args
variable {H : Type} {enc : TypeId × Value → H} {P : Program} {W : World} {base : Nat} {sp : Nat → Bool}

/-- an argument [n]int -/
theorem arr_arg {t e : TypeId} {n : Nat} {k : IntKind} {v : Value} {d : DataW H} {p : List MemPlace} (ht : P.underlying t = some (.array n e)) (he : P.underlying e = some (.int k)) (hc : P.cellsOf e = 1) (hn : P.cellsOf t = n)
    (hval : Value.okWide P W .any base t v) (h : DataW.Trod enc P W 0 (fun _ => true) true t v d p) :
    ∃ S : List Int, S.length = n ∧ (∀ x ∈ S, (Lit.int k x).wf = true) ∧ ∀ i, Opened W i [v] [.o (.g [.ints k n S])] [] := by
  have hv : ∃ cs : Array Value, v = .agg cs ∧ cs.size = n := by
    unfold Value.okWide at hval
    rw [ht] at hval
    obtain ⟨cs, rfl, hsz, _⟩ := hval
    exact ⟨cs, rfl, hsz.trans hn⟩
  obtain ⟨cs, rfl, hsz⟩ := hv
  obtain ⟨fuel, hf⟩ := h
  obtain ⟨xs, m, rfl, _, hlen, hxl, hel⟩ := DataW.trod_array ht hf
  have hcells : (Value.agg cs).cells.toList = cs.toList := rfl
  rw [hcells] at hel
  have key : ∀ j, j < n → ∃ z : Int, cs.toList[j]? = some (.int k z) ∧ (Lit.int k z).wf = true := by
    intro j hj
    have h1 := hel j hj
    rw [hc, Nat.mul_one] at h1
    have hjx : j < xs.length := by omega
    rw [List.getElem?_eq_getElem hjx] at h1
    obtain ⟨z, hz, _, hw⟩ := DataW.trod_int he h1
    refine ⟨z, ?_, hw⟩
    have := congrArg (·[0]?) hz
    simpa [List.getElem?_take, List.getElem?_drop] using this
  have hS : ∃ S : List Int, S.length = n ∧ cs.toList = S.map (Value.int k) ∧ ∀ x ∈ S, (Lit.int k x).wf = true := by
    have hl : cs.toList.length = n := by simpa using hsz
    revert key hl
    generalize cs.toList = l
    clear hel hxl hlen hsz hf hcells hval hn ht
    intro key hl
    induction l generalizing n with
    | nil => exact ⟨[], hl, rfl, by simp⟩
    | cons a l ih =>
      cases n with
      | zero => cases hl
      | succ n =>
        obtain ⟨z, hz, hw⟩ := key 0 (by omega)
        obtain ⟨S, h1, h2, h3⟩ := ih (n := n) (fun j hj => by simpa using key (j + 1) (by omega)) (by simpa using hl)
        simp only [List.getElem?_cons_zero, Option.some.injEq] at hz
        exact ⟨z :: S, by simp [h1], by simp [hz, h2], by simpa using ⟨hw, h3⟩⟩
  obtain ⟨S, h1, h2, h3⟩ := hS
  refine ⟨S, h1, h3, fun i => Opened.val fun β => ⟨cs.toList, by simp, _, [], by simp, ⟨h1, h2⟩, rfl⟩⟩
end args

end Go.Proofs.Ytodiojpakfjehaa.R

/- Arguments that are structs: opened cell by cell. -/
namespace Go.Proofs.Ytodiojpakfjehaa.R
open Go Go.Proofs Go.ChangeShapes Go.WideShapes Go.ChangeAt Go.RowKit Go.Proofs.Ytodiojpakfjehaa.X
set_option linter.unusedVariables false

/-- a row of cells, abstractly, with blocks from the i-th on -/
def OpenC (W : World) (i : Nat) (cs : List Value) (l : List Atom) (K : Know) : Prop :=
  ∃ ρ : List (Option Ref), ρ.length = K.length ∧ ∀ β : Env, (∀ j, j < ρ.length → β (i + j) = (ρ[j]?).join) →
    (∀ j b, K.at j = some b → b.own = false ∧ b.holds β W (i + j) ∧ ∀ r, β (i + j) = some r → r.blk < W.heap.size) ∧ cons β l cs

theorem OpenC.nil {W : World} {i : Nat} : OpenC W i [] [] [] := ⟨[], rfl, fun β _ => ⟨fun j b h => by simp [Know.at] at h, rfl⟩⟩

theorem cons_app {β : Env} : ∀ {a b : List Atom} {x y : List Value}, cons β a x → cons β b y → cons β (a ++ b) (x ++ y)
  | [], _, _, _, h, h' => by cases h; exact h'
  | _ :: _, _, _, _, ⟨v, r, hv, hc, hr⟩, h' => by subst hv; exact ⟨v, _, by rw [List.append_assoc], hc, cons_app hr h'⟩

theorem OpenC.app {W : World} {i : Nat} {vs vs' : List Value} {l l' : List Atom} {K K' : Know} (h : OpenC W i vs l K) (h' : OpenC W (i + K.length) vs' l' K') : OpenC W i (vs ++ vs') (l ++ l') (K ++ K') := by
  obtain ⟨ρ, hl, hρ⟩ := h
  obtain ⟨ρ', hl', hρ'⟩ := h'
  refine ⟨ρ ++ ρ', by simp [hl, hl'], fun β hβ => ?_⟩
  obtain ⟨h1, h2⟩ := hρ β fun j hj => by rw [hβ j (by simp; omega), List.getElem?_append_left hj]
  obtain ⟨h3, h4⟩ := hρ' β fun j hj => by
    rw [Nat.add_assoc, hβ (K.length + j) (by simp; omega), List.getElem?_append_right (by omega)]
    congr 2; omega
  refine ⟨fun j b hb => ?_, cons_app h2 h4⟩
  by_cases hj : j < K.length
  · refine h1 j b ?_
    unfold Know.at at hb ⊢; rwa [List.getElem?_append_left hj] at hb
  · have := h3 (j - K.length) b (by unfold Know.at at hb ⊢; rwa [List.getElem?_append_right (by omega)] at hb)
    rw [show i + K.length + (j - K.length) = i + j from by omega] at this
    exact this

theorem OpenC.agg {W : World} {i : Nat} {cs : Array Value} {l : List Atom} {K : Know} (h : OpenC W i cs.toList l K) : Opened W i [.agg cs] [.o (.g l)] K := by
  obtain ⟨ρ, hl, hρ⟩ := h
  refine ⟨ρ, hl, fun β hβ => ?_⟩
  obtain ⟨h1, h2⟩ := hρ β hβ
  exact ⟨h1, _, [], rfl, ⟨cs.toList, by simp, h2⟩, rfl⟩

theorem OpenC.one {W : World} {i : Nat} {v : Value} {x : Atom} {K : Know} (h : OpenC W i [v] [x] K) : Opened W i [v] [.o (.a x)] K := by
  obtain ⟨ρ, hl, hρ⟩ := h
  refine ⟨ρ, hl, fun β hβ => ?_⟩
  obtain ⟨h1, x, y, h2, h3, h4⟩ := hρ β hβ
  cases h4
  rw [List.append_nil] at h2
  subst h2
  exact ⟨h1, _, [], rfl, h3, rfl⟩

/-- cells without places -/
theorem OpenC.val {W : World} {i : Nat} {vs : List Value} {l : List Atom} (h : ∀ β : Env, cons β l vs) : OpenC W i vs l [] :=
  ⟨[], rfl, fun β _ => ⟨fun j b hb => by simp [Know.at] at hb, h β⟩⟩

section args
variable {H : Type} {enc : TypeId × Value → H} {P : Program} {W : World} {base : Nat} {sp : Nat → Bool}

theorem OpenC.ints {i : Nat} {k : IntKind} {n : Nat} {S : List Int} (h : S.length = n) : OpenC W i (S.map (Value.int k)) [.ints k n S] [] :=
  OpenC.val fun β => ⟨_, [], by simp, ⟨h, rfl⟩, rfl⟩

theorem OpenC.int {i : Nat} {k : IntKind} {n : Int} : OpenC W i [.int k n] [.i k n] [] := OpenC.val fun β => ⟨_, [], by simp, rfl, rfl⟩

end args
end Go.Proofs.Ytodiojpakfjehaa.R

/-
  FOR A PROOF OF AN '..UptoSaid': WHAT THE BOUND GIVES. Copy it as <Name>Bulk.lean (put your seat's Name for Ytodiojpakfjehaa, the bound of 'uptoSmall' for 1048576), name it in GOCLAIM.json's 'order' behind <Name>Rows. By an AI agent, Sun Nov 15 2026. No person has read it. No macro, syntax, notation, axiom, sorry.
-/
namespace Go.Proofs.Ytodiojpakfjehaa.bulks

theorem append {H : Type} (l r : List (DataW H)) : Rows.uptoBulkAll (l ++ r) = Rows.uptoBulkAll l + Rows.uptoBulkAll r := by
  induction l with
  | nil => simp [Rows.uptoBulkAll]
  | cons x l ih => simp only [List.cons_append, Rows.uptoBulkAll, ih]; omega

end Go.Proofs.Ytodiojpakfjehaa.bulks

