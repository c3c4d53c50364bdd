/- Texts of this session, put together (part 4), less what nothing uses. -/
import Derived.Test.YtlmdhjojinkdbaaGB3
import Derived.KernelRfl
/- Printed by a tool of this session. -/
namespace Go.Proofs.Ytlmdhjojinkdbaa.X
open Go Go.Proofs
set_option linter.unusedVariables false
set_option linter.unusedSimpArgs false
set_option maxRecDepth 100000
theorem teDJ_3 : TEOk Try.prog 3 ⟨.int .i64, 1, 8, [.i .i64 (0 : Int)], false⟩ :=
  TEOk.of Try.underlying3 (i := Try.t3) (by kernel_rfl) rfl rfl rfl (by kernel_rfl) (fun h => by cases h) (by kernel_rfl)
theorem teDJ_5 : TEOk Try.prog 5 ⟨.int .u8, 1, 1, [.i .u8 (0 : Int)], false⟩ :=
  TEOk.of Try.underlying5 (i := Try.t5) (by kernel_rfl) rfl rfl rfl (by kernel_rfl) (fun h => by cases h) (by kernel_rfl)
theorem teDJ_22 : TEOk Try.prog 22 ⟨.slice 5, 1, 24, [.raw (.slice none 0 0)], false⟩ :=
  TEOk.of Try.underlying22 (i := Try.t22) (by kernel_rfl) rfl rfl rfl (by kernel_rfl) (fun h => by cases h) (by kernel_rfl)
theorem teDJ_23 : TEOk Try.prog 23 ⟨.slice 22, 1, 24, [.raw (.slice none 0 0)], false⟩ :=
  TEOk.of Try.underlying23 (i := Try.t23) (by kernel_rfl) rfl rfl rfl (by kernel_rfl) (fun h => by cases h) (by kernel_rfl)
theorem teDJ_57 : TEOk Try.prog 57 ⟨.pointer 134, 1, 8, [.raw (.pointer none)], false⟩ :=
  TEOk.of Try.underlying57 (i := Try.t57) (by kernel_rfl) rfl rfl rfl (by kernel_rfl) (fun h => by cases h) (by kernel_rfl)
theorem teDJ_132 : TEOk Try.prog 132 ⟨Try.t131.desc, 129, 129, [.ints .u8 (64 : Nat) ([0, 0, 0, 0, 0, 0, 0, 0, 0, 0, 0, 0, 0, 0, 0, 0, 0, 0, 0, 0, 0, 0, 0, 0, 0, 0, 0, 0, 0, 0, 0, 0, 0, 0, 0, 0, 0, 0, 0, 0, 0, 0, 0, 0, 0, 0, 0, 0, 0, 0, 0, 0, 0, 0, 0, 0, 0, 0, 0, 0, 0, 0, 0, 0] : List Int), .ints .u8 (64 : Nat) ([0, 0, 0, 0, 0, 0, 0, 0, 0, 0, 0, 0, 0, 0, 0, 0, 0, 0, 0, 0, 0, 0, 0, 0, 0, 0, 0, 0, 0, 0, 0, 0, 0, 0, 0, 0, 0, 0, 0, 0, 0, 0, 0, 0, 0, 0, 0, 0, 0, 0, 0, 0, 0, 0, 0, 0, 0, 0, 0, 0, 0, 0, 0, 0] : List Int), .b false], false⟩ :=
  TEOk.of Try.underlying132 (i := Try.t132) (by kernel_rfl) rfl rfl rfl (by kernel_rfl) (fun h => by cases h) (by kernel_rfl)
theorem teDJ_134 : TEOk Try.prog 134 ⟨Try.t133.desc, 130, 144, [.ints .u8 (64 : Nat) ([0, 0, 0, 0, 0, 0, 0, 0, 0, 0, 0, 0, 0, 0, 0, 0, 0, 0, 0, 0, 0, 0, 0, 0, 0, 0, 0, 0, 0, 0, 0, 0, 0, 0, 0, 0, 0, 0, 0, 0, 0, 0, 0, 0, 0, 0, 0, 0, 0, 0, 0, 0, 0, 0, 0, 0, 0, 0, 0, 0, 0, 0, 0, 0] : List Int), .ints .u8 (64 : Nat) ([0, 0, 0, 0, 0, 0, 0, 0, 0, 0, 0, 0, 0, 0, 0, 0, 0, 0, 0, 0, 0, 0, 0, 0, 0, 0, 0, 0, 0, 0, 0, 0, 0, 0, 0, 0, 0, 0, 0, 0, 0, 0, 0, 0, 0, 0, 0, 0, 0, 0, 0, 0, 0, 0, 0, 0, 0, 0, 0, 0, 0, 0, 0, 0] : List Int), .b false, .i .i64 (0 : Int)], false⟩ :=
  TEOk.of Try.underlying134 (i := Try.t134) (by kernel_rfl) rfl rfl rfl (by kernel_rfl) (fun h => by cases h) (by kernel_rfl)
noncomputable def tabDJ : List (Nat × TE) := [(3, ⟨.int .i64, 1, 8, [.i .i64 (0 : Int)], false⟩), (5, ⟨.int .u8, 1, 1, [.i .u8 (0 : Int)], false⟩), (22, ⟨.slice 5, 1, 24, [.raw (.slice none 0 0)], false⟩), (23, ⟨.slice 22, 1, 24, [.raw (.slice none 0 0)], false⟩), (57, ⟨.pointer 134, 1, 8, [.raw (.pointer none)], false⟩), (132, ⟨Try.t131.desc, 129, 129, [.ints .u8 (64 : Nat) ([0, 0, 0, 0, 0, 0, 0, 0, 0, 0, 0, 0, 0, 0, 0, 0, 0, 0, 0, 0, 0, 0, 0, 0, 0, 0, 0, 0, 0, 0, 0, 0, 0, 0, 0, 0, 0, 0, 0, 0, 0, 0, 0, 0, 0, 0, 0, 0, 0, 0, 0, 0, 0, 0, 0, 0, 0, 0, 0, 0, 0, 0, 0, 0] : List Int), .ints .u8 (64 : Nat) ([0, 0, 0, 0, 0, 0, 0, 0, 0, 0, 0, 0, 0, 0, 0, 0, 0, 0, 0, 0, 0, 0, 0, 0, 0, 0, 0, 0, 0, 0, 0, 0, 0, 0, 0, 0, 0, 0, 0, 0, 0, 0, 0, 0, 0, 0, 0, 0, 0, 0, 0, 0, 0, 0, 0, 0, 0, 0, 0, 0, 0, 0, 0, 0] : List Int), .b false], false⟩), (134, ⟨Try.t133.desc, 130, 144, [.ints .u8 (64 : Nat) ([0, 0, 0, 0, 0, 0, 0, 0, 0, 0, 0, 0, 0, 0, 0, 0, 0, 0, 0, 0, 0, 0, 0, 0, 0, 0, 0, 0, 0, 0, 0, 0, 0, 0, 0, 0, 0, 0, 0, 0, 0, 0, 0, 0, 0, 0, 0, 0, 0, 0, 0, 0, 0, 0, 0, 0, 0, 0, 0, 0, 0, 0, 0, 0] : List Int), .ints .u8 (64 : Nat) ([0, 0, 0, 0, 0, 0, 0, 0, 0, 0, 0, 0, 0, 0, 0, 0, 0, 0, 0, 0, 0, 0, 0, 0, 0, 0, 0, 0, 0, 0, 0, 0, 0, 0, 0, 0, 0, 0, 0, 0, 0, 0, 0, 0, 0, 0, 0, 0, 0, 0, 0, 0, 0, 0, 0, 0, 0, 0, 0, 0, 0, 0, 0, 0] : List Int), .b false, .i .i64 (0 : Int)], false⟩)]
theorem tabOkDJ : TabOk Try.prog (tabOf tabDJ) := (tabOf_cons teDJ_3 (tabOf_cons teDJ_5 (tabOf_cons teDJ_22 (tabOf_cons teDJ_23 (tabOf_cons teDJ_57 (tabOf_cons teDJ_132 (tabOf_cons teDJ_134 tabOf_nil)))))))

def gam22 : Gam := gcall 56 [true, false] [.w, .w] (fun wk vs args => match wk, vs, args with | [⟨true, [.ints .u8 (64 : Nat) ky, .ints .u8 (64 : Nat) v, .b true, .i .i64 d]⟩, ⟨false, [.raw (.slice none 0 0)]⟩], [], [.o (.a (.p 0 0)), .o (.a (.sl 1 (0 : Nat) (1 : Nat) cp))] => some (True, [], [some ⟨true, [.ints .u8 (64 : Nat) (stir0 ky v), .ints .u8 (64 : Nat) (stir0_1 ky v), .b true, .i .i64 d]⟩, some ⟨false, [.raw (.slice none 0 0)]⟩]) | _, _, _ => none) gam17
theorem gam22_ok : GamOk Try.prog gam22 := gcall_ok tabOkDH Try.func56 gam17_ok Try.call56 (by
  intro wk vs args p xs K1 h hv
  split at h
  · simp only [Option.some.injEq, Prod.mk.injEq] at h; obtain ⟨rfl, rfl, rfl⟩ := h; exact fun caps w rw β => stir0_body _ _ _ _ w rw β
  · simp at h)

def gam23 : Gam := gcall 57 [true] [.w] (fun wk vs args => match wk, vs, args with | [⟨true, [.ints .u8 (64 : Nat) ky, .ints .u8 (64 : Nat) v, .b true, .i .i64 d]⟩], [], [.o (.a (.p 0 0))] => some (True, [.a (.sl 0 (64 : Nat) (64 : Nat) (64 : Nat))], [some ⟨true, [.ints .u8 (64 : Nat) ky, .ints .u8 (64 : Nat) (macD ky v), .b true, .i .i64 d]⟩]) | _, _, _ => none) gam22
theorem gam23_ok : GamOk Try.prog gam23 := gcall_ok tabOkDH Try.func57 gam22_ok Try.call57 (by
  intro wk vs args p xs K1 h hv
  split at h
  · simp only [Option.some.injEq, Prod.mk.injEq] at h; obtain ⟨rfl, rfl, rfl⟩ := h; exact fun caps w rw β => next_body _ _ _ w rw β
  · simp at h)

set_option maxHeartbeats 1000000 in
theorem drawNN_body0 (ky : List Int) (v : List Int) (d : Int) (N : Int) (hl0_0 : List.length ky = (64 : Nat)) (hl0_1 : List.length v = (64 : Nat)) (hn : N < 0) (w : World) (rw : List Nat) (β : Env) : Body Try.prog (tabOf tabDJ) Try.f22 ⟨w, rw, 1, β⟩ [.o (.a (.p 0 0)), .o (.a (.i .i64 N)), .o (.a (.raw (.slice none 0 0)))] [some ⟨true, [.ints .u8 (64 : Nat) ky, .ints .u8 (64 : Nat) v, .b true, .i .i64 d]⟩] (fun ys K' => ys = [.a (.rs 1 (0 : Nat) (drN N d) 1), .a (.i .i64 (drE N d))] ∧ K' = [some ⟨true, [.ints .u8 (64 : Nat) (drK0 N d ky v), .ints .u8 (64 : Nat) (drV0 N d ky v), .b true, .i .i64 (drD N d)]⟩, some ⟨true, [.ints .u8 (drM N d) (drO0 N d ky v)]⟩]) :=
  Body.of_finK (Γ := gam23) (Λ := noLam) (Ψ := noPsi) (fuel := 0) (m := 60) (c := (Try.f22.body.getD .skip)) mix tabOkDJ gam23_ok rfl (rs := [.tmp 6, .tmp 7]) rfl rfl [false, true] [.rowS 6 .u8 1, .eqS 6 (.o (.a (.rs 1 (0 : Nat) (drN N d) 1))), .eqS 7 (.o (.a (.i .i64 (drE N d)))), .eqB 0 (⟨true, [.ints .u8 (64 : Nat) (drK0 N d ky v), .ints .u8 (64 : Nat) (drV0 N d ky v), .b true, .i .i64 (drD N d)]⟩), .eqB 1 (⟨true, [.ints .u8 (drM N d) (drO0 N d ky v)]⟩)] 2
    (vc := [((some ⟨true, [.ints .u8 (0 : Nat) ([] : List Int)]⟩ : Option Blk) = some ⟨true, [.ints .u8 (drM N d) (drO0 N d ky v)]⟩), ((some ⟨true, [.ints .u8 (64 : Nat) ky, .ints .u8 (64 : Nat) v, .b true, .i .i64 d]⟩ : Option Blk) = some ⟨true, [.ints .u8 (64 : Nat) (drK0 N d ky v), .ints .u8 (64 : Nat) (drV0 N d ky v), .b true, .i .i64 (drD N d)]⟩), ((.o (.a (.i .i64 (1 : Int))) : AV) = .o (.a (.i .i64 (drE N d)))), ((.o (.a (.rs 1 (0 : Nat) (0 : Nat) 1)) : AV) = .o (.a (.rs 1 (0 : Nat) (drN N d) 1))), ((decide (N < (0 : Int))) = true), (false = false)]) (by kernel_rfl)
    (AllP_cons ((by unfold drO0 drM drO; rw [dr_bad (by omega)]; rfl)) (AllP_cons ((by unfold drK0 drV0 drK drV drD; rw [dr_bad (by omega)]; rfl)) (AllP_cons ((congrArg (fun z => AV.o (.a (.i .i64 z))) (by unfold drE; (repeat' split) <;> omega))) (AllP_cons ((by unfold drN; rw [dr_bad (by omega)]; rfl)) (AllP_cons (decide_eq_true (by first | omega | (simp (disch := omega) only [wrapI]; omega))) (AllP_cons rfl (AllP_nil)))))))

set_option maxHeartbeats 1000000 in
theorem drawNM_body0 (ky : List Int) (v : List Int) (d : Int) (N : Int) (hl0_0 : List.length ky = (64 : Nat)) (hl0_1 : List.length v = (64 : Nat)) (hn : 65536 < N) (w : World) (rw : List Nat) (β : Env) : Body Try.prog (tabOf tabDJ) Try.f22 ⟨w, rw, 1, β⟩ [.o (.a (.p 0 0)), .o (.a (.i .i64 N)), .o (.a (.raw (.slice none 0 0)))] [some ⟨true, [.ints .u8 (64 : Nat) ky, .ints .u8 (64 : Nat) v, .b true, .i .i64 d]⟩] (fun ys K' => ys = [.a (.rs 1 (0 : Nat) (drN N d) 1), .a (.i .i64 (drE N d))] ∧ K' = [some ⟨true, [.ints .u8 (64 : Nat) (drK0 N d ky v), .ints .u8 (64 : Nat) (drV0 N d ky v), .b true, .i .i64 (drD N d)]⟩, some ⟨true, [.ints .u8 (drM N d) (drO0 N d ky v)]⟩]) :=
  Body.of_finK (Γ := gam23) (Λ := noLam) (Ψ := noPsi) (fuel := 0) (m := 60) (c := (Try.f22.body.getD .skip)) mix tabOkDJ gam23_ok rfl (rs := [.tmp 6, .tmp 7]) rfl rfl [false, false, true] [.rowS 6 .u8 1, .eqS 6 (.o (.a (.rs 1 (0 : Nat) (drN N d) 1))), .eqS 7 (.o (.a (.i .i64 (drE N d)))), .eqB 0 (⟨true, [.ints .u8 (64 : Nat) (drK0 N d ky v), .ints .u8 (64 : Nat) (drV0 N d ky v), .b true, .i .i64 (drD N d)]⟩), .eqB 1 (⟨true, [.ints .u8 (drM N d) (drO0 N d ky v)]⟩)] 2
    (vc := [((some ⟨true, [.ints .u8 (0 : Nat) ([] : List Int)]⟩ : Option Blk) = some ⟨true, [.ints .u8 (drM N d) (drO0 N d ky v)]⟩), ((some ⟨true, [.ints .u8 (64 : Nat) ky, .ints .u8 (64 : Nat) v, .b true, .i .i64 d]⟩ : Option Blk) = some ⟨true, [.ints .u8 (64 : Nat) (drK0 N d ky v), .ints .u8 (64 : Nat) (drV0 N d ky v), .b true, .i .i64 (drD N d)]⟩), ((.o (.a (.i .i64 (113 : Int))) : AV) = .o (.a (.i .i64 (drE N d)))), ((.o (.a (.rs 1 (0 : Nat) (0 : Nat) 1)) : AV) = .o (.a (.rs 1 (0 : Nat) (drN N d) 1))), ((decide (N > (65536 : Int))) = true), ((decide (N < (0 : Int))) = false), (false = false)]) (by kernel_rfl)
    (AllP_cons ((by unfold drO0 drM drO; rw [dr_bad (by omega)]; rfl)) (AllP_cons ((by unfold drK0 drV0 drK drV drD; rw [dr_bad (by omega)]; rfl)) (AllP_cons ((congrArg (fun z => AV.o (.a (.i .i64 z))) (by unfold drE; (repeat' split) <;> omega))) (AllP_cons ((by unfold drN; rw [dr_bad (by omega)]; rfl)) (AllP_cons (decide_eq_true (by first | omega | (simp (disch := omega) only [wrapI]; omega))) (AllP_cons (decide_eq_false (by first | omega | (simp (disch := omega) only [wrapI]; omega))) (AllP_cons rfl (AllP_nil))))))))

set_option maxHeartbeats 1000000 in
theorem drawND_body0 (ky : List Int) (v : List Int) (d : Int) (N : Int) (hl0_0 : List.length ky = (64 : Nat)) (hl0_1 : List.length v = (64 : Nat)) (ha : 0 ≤ N) (hb : N ≤ 65536) (hd : 4096 ≤ d) (w : World) (rw : List Nat) (β : Env) : Body Try.prog (tabOf tabDJ) Try.f22 ⟨w, rw, 1, β⟩ [.o (.a (.p 0 0)), .o (.a (.i .i64 N)), .o (.a (.raw (.slice none 0 0)))] [some ⟨true, [.ints .u8 (64 : Nat) ky, .ints .u8 (64 : Nat) v, .b true, .i .i64 d]⟩] (fun ys K' => ys = [.a (.rs 1 (0 : Nat) (drN N d) 1), .a (.i .i64 (drE N d))] ∧ K' = [some ⟨true, [.ints .u8 (64 : Nat) (drK0 N d ky v), .ints .u8 (64 : Nat) (drV0 N d ky v), .b true, .i .i64 (drD N d)]⟩, some ⟨true, [.ints .u8 (drM N d) (drO0 N d ky v)]⟩]) :=
  Body.of_finK (Γ := gam23) (Λ := noLam) (Ψ := noPsi) (fuel := 0) (m := 60) (c := (Try.f22.body.getD .skip)) mix tabOkDJ gam23_ok rfl (rs := [.tmp 6, .tmp 7]) rfl rfl [false, false, false, true] [.rowS 6 .u8 1, .eqS 6 (.o (.a (.rs 1 (0 : Nat) (drN N d) 1))), .eqS 7 (.o (.a (.i .i64 (drE N d)))), .eqB 0 (⟨true, [.ints .u8 (64 : Nat) (drK0 N d ky v), .ints .u8 (64 : Nat) (drV0 N d ky v), .b true, .i .i64 (drD N d)]⟩), .eqB 1 (⟨true, [.ints .u8 (drM N d) (drO0 N d ky v)]⟩)] 2
    (vc := [((some ⟨true, [.ints .u8 (0 : Nat) ([] : List Int)]⟩ : Option Blk) = some ⟨true, [.ints .u8 (drM N d) (drO0 N d ky v)]⟩), ((some ⟨true, [.ints .u8 (64 : Nat) ky, .ints .u8 (64 : Nat) v, .b true, .i .i64 d]⟩ : Option Blk) = some ⟨true, [.ints .u8 (64 : Nat) (drK0 N d ky v), .ints .u8 (64 : Nat) (drV0 N d ky v), .b true, .i .i64 (drD N d)]⟩), ((.o (.a (.i .i64 (112 : Int))) : AV) = .o (.a (.i .i64 (drE N d)))), ((.o (.a (.rs 1 (0 : Nat) (0 : Nat) 1)) : AV) = .o (.a (.rs 1 (0 : Nat) (drN N d) 1))), ((decide (d ≥ (4096 : Int))) = true), ((decide (N > (65536 : Int))) = false), ((decide (N < (0 : Int))) = false), (false = false)]) (by kernel_rfl)
    (AllP_cons ((by unfold drO0 drM drO; rw [dr_bad (by omega)]; rfl)) (AllP_cons ((by unfold drK0 drV0 drK drV drD; rw [dr_bad (by omega)]; rfl)) (AllP_cons ((congrArg (fun z => AV.o (.a (.i .i64 z))) (by unfold drE; (repeat' split) <;> omega))) (AllP_cons ((by unfold drN; rw [dr_bad (by omega)]; rfl)) (AllP_cons (decide_eq_true (by first | omega | (simp (disch := omega) only [wrapI]; omega))) (AllP_cons (decide_eq_false (by first | omega | (simp (disch := omega) only [wrapI]; omega))) (AllP_cons (decide_eq_false (by first | omega | (simp (disch := omega) only [wrapI]; omega))) (AllP_cons rfl (AllP_nil)))))))))

def drawNZL_mk (ky : List Int) (v : List Int) (d : Int) (N : Int) (k : Nat) (s : Unit) : St := ⟨sparse 60 [(0, .o (.a (.p 0 0))), (1, .o (.a (.i .i64 N))), (2, .o (.a (.raw (.slice none 0 0)))), (6, .o (.a (.raw (.slice none 0 0)))), (7, .o (.a (.i .i64 (0 : Int)))), (8, .o (.a (.rs 1 (0 : Nat) ((64 : Nat) * k) 1)))], [some ⟨true, [.ints .u8 (64 : Nat) (d1K ky v ([] : List Int)), .ints .u8 (64 : Nat) (nxV (d1K ky v ([] : List Int)) (d1V ky v ([] : List Int)) k), .b true, .i .i64 d]⟩, some ⟨true, [.ints .u8 ((64 : Nat) * k) (nxO (d1K ky v ([] : List Int)) (d1V ky v ([] : List Int)) k)]⟩]⟩

def drawNZL_step (k : Nat) (s : Unit) : Unit :=
  ()

set_option maxHeartbeats 1000000 in
theorem drawNZL_round (ky : List Int) (v : List Int) (d : Int) (N : Int) (hl0_0 : List.length ky = (64 : Nat)) (hl0_1 : List.length v = (64 : Nat)) (ha : 0 ≤ N) (hb : N ≤ 65536) (hd : d < 4096) (w : World) (rw : List Nat) (β : Env) (k : Nat) (hk : k < (rnds N)) (s : Unit) : Run Try.prog ⟨w, rw, 1, β⟩ (loopB Try.f22 1) (drawNZL_mk ky v d N k s) (To ⟨w, rw, 1, β⟩ .normal (drawNZL_mk ky v d N (k + 1) (drawNZL_step k s))) := by
  have e0 : ((sub (nxO (d1K ky v ([] : List Int)) (d1V ky v ([] : List Int)) k) (0 : Nat) ((64 : Nat) * k)) ++ (macD (d1K ky v ([] : List Int)) (nxV (d1K ky v ([] : List Int)) (d1V ky v ([] : List Int)) k))) = (nxO (d1K ky v ([] : List Int)) (d1V ky v ([] : List Int)) (k + (1 : Nat))) := (by first | omega | rfl | exact nxO_step2 rfl)
  have e1 : (macD (d1K ky v ([] : List Int)) (nxV (d1K ky v ([] : List Int)) (d1V ky v ([] : List Int)) k)) = (nxV (d1K ky v ([] : List Int)) (d1V ky v ([] : List Int)) (k + (1 : Nat))) := (by first | omega | rfl | exact nxO_step2 rfl)
  have e2 : (((64 : Nat) * k) + (64 : Nat)) = ((64 : Nat) * (k + (1 : Nat))) := (by first | omega | rfl | exact nxO_step2 rfl)
  have h := Run.of_outT (B := ⟨w, rw, 1, β⟩) (Λ := noLam) (Ψ := noPsi) (fuel := 0) (ora := [true, false]) (c := (loopB Try.f22 1)) (st := (drawNZL_mk ky v d N k s)) (l := [.swap 1 2, .forget [0, 1, 2, 6, 7, 8] 2]) (s' := ⟨sparse 60 [(0, .o (.a (.p 0 0))), (1, .o (.a (.i .i64 N))), (2, .o (.a (.raw (.slice none 0 0)))), (6, .o (.a (.raw (.slice none 0 0)))), (7, .o (.a (.i .i64 (0 : Int)))), (8, .o (.a (.rs 1 (0 : Nat) (((64 : Nat) * k) + (64 : Nat)) 1)))], [some ⟨true, [.ints .u8 (64 : Nat) (d1K ky v ([] : List Int)), .ints .u8 (64 : Nat) (macD (d1K ky v ([] : List Int)) (nxV (d1K ky v ([] : List Int)) (d1V ky v ([] : List Int)) k)), .b true, .i .i64 d]⟩, some ⟨true, [.ints .u8 (((64 : Nat) * k) + (64 : Nat)) ((sub (nxO (d1K ky v ([] : List Int)) (d1V ky v ([] : List Int)) k) (0 : Nat) ((64 : Nat) * k)) ++ (macD (d1K ky v ([] : List Int)) (nxV (d1K ky v ([] : List Int)) (d1V ky v ([] : List Int)) k)))]⟩]⟩) (ex := .normal) mix tabOkDJ gam23_ok
    (vc := [((((0 : Nat) + ((64 : Nat) * k)) ≤ ((64 : Nat) * k)) ∧ (((64 : Nat) ≤ (64 : Nat)) ∧ True) ∧ (((((64 : Nat) * k) + (64 : Nat)) * (1 : Nat)) ≤ (140737488355328 : Nat))), ((True ∧ True) ∧ True), ((decide (((((64 : Nat) * k) : Nat) : Int) < N)) = true)]) (by kernel_rfl)
    (AllP_cons ⟨(by have hq := rnds_lt hk; first | omega | (simp (disch := omega) only [wrapI]; omega)), ⟨(by decide), trivial⟩, (by have hq := rnds_lt hk; first | omega | (simp (disch := omega) only [wrapI]; omega))⟩ (AllP_cons ⟨⟨trivial, trivial⟩, trivial⟩ (AllP_cons (decide_eq_true (by have hq := rnds_lt hk; omega)) (AllP_nil))))
  rw [e0, e1, e2] at h
  exact h

set_option maxHeartbeats 1000000 in
theorem drawNZL_last (ky : List Int) (v : List Int) (d : Int) (N : Int) (hl0_0 : List.length ky = (64 : Nat)) (hl0_1 : List.length v = (64 : Nat)) (ha : 0 ≤ N) (hb : N ≤ 65536) (hd : d < 4096) (w : World) (rw : List Nat) (β : Env) (s : Unit) : Run Try.prog ⟨w, rw, 1, β⟩ (loopB Try.f22 1) (drawNZL_mk ky v d N (rnds N) s) (To ⟨w, rw, 1, β⟩ (.exit 1) (drawNZL_mk ky v d N (rnds N) s)) :=
  Run.of_outT (B := ⟨w, rw, 1, β⟩) (Λ := noLam) (Ψ := noPsi) (fuel := 0) (ora := [false]) (l := [.forget [0, 1, 2, 6, 7, 8] 2]) mix tabOkDJ gam23_ok
    (vc := [((decide (((((64 : Nat) * (rnds N)) : Nat) : Int) < N)) = false)]) (by kernel_rfl)
    (AllP_cons (decide_eq_false (by have hq := rnds_ge N; omega)) (AllP_nil))

theorem drawNZL_loop (ky : List Int) (v : List Int) (d : Int) (N : Int) (hl0_0 : List.length ky = (64 : Nat)) (hl0_1 : List.length v = (64 : Nat)) (ha : 0 ≤ N) (hb : N ≤ 65536) (hd : d < 4096) (w : World) (rw : List Nat) (β : Env) (s : Unit) : Run Try.prog ⟨w, rw, 1, β⟩ (.block 1 (.loop (loopB Try.f22 1))) (drawNZL_mk ky v d N 0 s) (To ⟨w, rw, 1, β⟩ .normal (drawNZL_mk ky v d N (rnds N) (iter (drawNZL_step) (rnds N) s))) :=
  Run.count (fun k => drawNZL_mk ky v d N k (iter (drawNZL_step) k s)) (rnds N) (fun k hk => drawNZL_round ky v d N hl0_0 hl0_1 ha hb hd w rw β k hk _) (ex := (.exit 1)) (by simp) (drawNZL_last ky v d N hl0_0 hl0_1 ha hb hd w rw β _)

set_option maxHeartbeats 1000000 in
theorem drawNZ_body0 (ky : List Int) (v : List Int) (d : Int) (N : Int) (hl0_0 : List.length ky = (64 : Nat)) (hl0_1 : List.length v = (64 : Nat)) (ha : 0 ≤ N) (hb : N ≤ 65536) (hd : d < 4096) (w : World) (rw : List Nat) (β : Env) : Body Try.prog (tabOf tabDJ) Try.f22 ⟨w, rw, 1, β⟩ [.o (.a (.p 0 0)), .o (.a (.i .i64 N)), .o (.a (.raw (.slice none 0 0)))] [some ⟨true, [.ints .u8 (64 : Nat) ky, .ints .u8 (64 : Nat) v, .b true, .i .i64 d]⟩] (fun ys K' => ys = [.a (.rs 1 (0 : Nat) (drN N d) 1), .a (.i .i64 (drE N d))] ∧ K' = [some ⟨true, [.ints .u8 (64 : Nat) (drK0 N d ky v), .ints .u8 (64 : Nat) (drV0 N d ky v), .b true, .i .i64 (drD N d)]⟩, some ⟨true, [.ints .u8 (drM N d) (drO0 N d ky v)]⟩]) :=
  Body.of_finK (Γ := gam23) (Λ := lamOf [(1, ⟨[.rowS 8 .u8 1, .forget [0, 1, 2, 6, 7, 8] 2], .normal, (drawNZL_mk ky v d N (rnds N) (iter (drawNZL_step) (rnds N) ()))⟩)]) (Ψ := psiOf [(11, [.eqB 0 (⟨true, [.ints .u8 (64 : Nat) (d1K ky v ([] : List Int)), .ints .u8 (64 : Nat) (d1V ky v ([] : List Int)), .b true, .i .i64 d]⟩)])]) (fuel := 0) (m := 60) (c := (Try.f22.body.getD .skip)) mix tabOkDJ gam23_ok rfl (rs := [.tmp 6, .tmp 7]) rfl rfl [false, false, false, false, false] [.slrs 6 1, .eqS 6 (.o (.a (.rs 1 (0 : Nat) (drN N d) 1))), .eqS 7 (.o (.a (.i .i64 (drE N d)))), .eqB 0 (⟨true, [.ints .u8 (64 : Nat) (drK0 N d ky v), .ints .u8 (64 : Nat) (drV0 N d ky v), .b true, .i .i64 (drD N d)]⟩), .eqB 1 (⟨true, [.ints .u8 (drM N d) (drO0 N d ky v)]⟩)] 2
    (vc := [((some ⟨true, [.ints .u8 ((64 : Nat) * (rnds N)) (nxO (d1K ky v ([] : List Int)) (d1V ky v ([] : List Int)) (rnds N))]⟩ : Option Blk) = some ⟨true, [.ints .u8 (drM N d) (drO0 N d ky v)]⟩), ((some ⟨true, [.ints .u8 (64 : Nat) (stir0 (d1K ky v ([] : List Int)) (nxV (d1K ky v ([] : List Int)) (d1V ky v ([] : List Int)) (rnds N))), .ints .u8 (64 : Nat) (stir0_1 (d1K ky v ([] : List Int)) (nxV (d1K ky v ([] : List Int)) (d1V ky v ([] : List Int)) (rnds N))), .b true, .i .i64 (IntKind.i64.wrap (d + (1 : Int)))]⟩ : Option Blk) = some ⟨true, [.ints .u8 (64 : Nat) (drK0 N d ky v), .ints .u8 (64 : Nat) (drV0 N d ky v), .b true, .i .i64 (drD N d)]⟩), ((.o (.a (.i .i64 (0 : Int))) : AV) = .o (.a (.i .i64 (drE N d)))), ((.o (.a (.rs 1 (0 : Nat) (Int.toNat N) 1)) : AV) = .o (.a (.rs 1 (0 : Nat) (drN N d) 1))), (((0 : Nat) + (Int.toNat N)) ≤ ((64 : Nat) * (rnds N))), (((0 : Int) ≤ (0 : Int)) ∧ ((0 : Int) ≤ N) ∧ (N ≤ N) ∧ (N ≤ ((((64 : Nat) * (rnds N)) : Nat) : Int))), ((True ∧ (True ∧ True)) ∧ True), (Run Try.prog ⟨w, rw, 1, β⟩ (.block 1 (.loop (loopB Try.f22 1))) (drawNZL_mk ky v d N 0 ()) (To ⟨w, rw, 1, β⟩ .normal (drawNZL_mk ky v d N (rnds N) (iter (drawNZL_step) (rnds N) ())))), ((some ⟨true, [.ints .u8 (64 : Nat) ky, .ints .u8 (64 : Nat) v, .b true, .i .i64 d]⟩ : Option Blk) = some ⟨true, [.ints .u8 (64 : Nat) (d1K ky v ([] : List Int)), .ints .u8 (64 : Nat) (d1V ky v ([] : List Int)), .b true, .i .i64 d]⟩), (false = false), ((decide (d ≥ (4096 : Int))) = false), ((decide (N > (65536 : Int))) = false), ((decide (N < (0 : Int))) = false), (false = false)]) (by kernel_rfl)
    (AllP_cons ((by unfold drO0 drM drO; rw [dr_ok ha hb hd]; rfl)) (AllP_cons ((by unfold drK0 drV0 drK drV drD; rw [dr_ok ha hb hd]; rfl)) (AllP_cons ((congrArg (fun z => AV.o (.a (.i .i64 z))) (by unfold drE; (repeat' split) <;> omega))) (AllP_cons ((by unfold drN; rw [dr_ok ha hb hd]; rfl)) (AllP_cons (by have hq := rnds_ge N; omega) (AllP_cons ⟨(by decide), (by first | omega | (simp (disch := omega) only [wrapI]; omega)), (by first | omega | (simp (disch := omega) only [wrapI]; omega)), (by have hq := rnds_ge N; omega)⟩ (AllP_cons ⟨⟨trivial, ⟨trivial, trivial⟩⟩, trivial⟩ (AllP_cons (drawNZL_loop ky v d N hl0_0 hl0_1 ha hb hd w rw β ()) (AllP_cons (rfl) (AllP_cons rfl (AllP_cons (decide_eq_false (by first | omega | (simp (disch := omega) only [wrapI]; omega))) (AllP_cons (decide_eq_false (by first | omega | (simp (disch := omega) only [wrapI]; omega))) (AllP_cons (decide_eq_false (by first | omega | (simp (disch := omega) only [wrapI]; omega))) (AllP_cons rfl (AllP_nil)))))))))))))))

theorem drawN_body (ky : List Int) (v : List Int) (d : Int) (N : Int) (w : World) (rw : List Nat) (β : Env) : Body Try.prog (tabOf tabDJ) Try.f22 ⟨w, rw, 1, β⟩ [.o (.a (.p 0 0)), .o (.a (.i .i64 N)), .o (.a (.raw (.slice none 0 0)))] [some ⟨true, [.ints .u8 (64 : Nat) ky, .ints .u8 (64 : Nat) v, .b true, .i .i64 d]⟩] (fun ys K' => ys = [.a (.rs 1 (0 : Nat) (drN N d) 1), .a (.i .i64 (drE N d))] ∧ K' = [some ⟨true, [.ints .u8 (64 : Nat) (drK0 N d ky v), .ints .u8 (64 : Nat) (drV0 N d ky v), .b true, .i .i64 (drD N d)]⟩, some ⟨true, [.ints .u8 (drM N d) (drO0 N d ky v)]⟩]) :=
  Body.lens (c := (Try.f22.body.getD .skip)) rfl fun h => by
  by_cases hn : N < 0
  · exact drawNN_body0 ky v d N (h.lens 0 _ .u8 (64 : Nat) ky rfl (by simp)) (h.lens 0 _ .u8 (64 : Nat) v rfl (by simp)) hn w rw β
  by_cases hm : 65536 < N
  · exact drawNM_body0 ky v d N (h.lens 0 _ .u8 (64 : Nat) ky rfl (by simp)) (h.lens 0 _ .u8 (64 : Nat) v rfl (by simp)) hm w rw β
  by_cases hd : 4096 ≤ d
  · exact drawND_body0 ky v d N (h.lens 0 _ .u8 (64 : Nat) ky rfl (by simp)) (h.lens 0 _ .u8 (64 : Nat) v rfl (by simp)) (by omega) (by omega) hd w rw β
  exact drawNZ_body0 ky v d N (h.lens 0 _ .u8 (64 : Nat) ky rfl (by simp)) (h.lens 0 _ .u8 (64 : Nat) v rfl (by simp)) (by omega) (by omega) (by omega) w rw β

end Go.Proofs.Ytlmdhjojinkdbaa.X

/- Printed by a tool of this session. -/
namespace Go.Proofs.Ytlmdhjojinkdbaa.X
open Go Go.Proofs
set_option linter.unusedVariables false
set_option linter.unusedSimpArgs false
set_option maxRecDepth 100000
theorem teDK_3 : TEOk Try.prog 3 ⟨.int .i64, 1, 8, [.i .i64 (0 : Int)], false⟩ :=
  TEOk.of Try.underlying3 (i := Try.t3) (by kernel_rfl) rfl rfl rfl (by kernel_rfl) (fun h => by cases h) (by kernel_rfl)
theorem teDK_5 : TEOk Try.prog 5 ⟨.int .u8, 1, 1, [.i .u8 (0 : Int)], false⟩ :=
  TEOk.of Try.underlying5 (i := Try.t5) (by kernel_rfl) rfl rfl rfl (by kernel_rfl) (fun h => by cases h) (by kernel_rfl)
theorem teDK_22 : TEOk Try.prog 22 ⟨.slice 5, 1, 24, [.raw (.slice none 0 0)], false⟩ :=
  TEOk.of Try.underlying22 (i := Try.t22) (by kernel_rfl) rfl rfl rfl (by kernel_rfl) (fun h => by cases h) (by kernel_rfl)
theorem teDK_23 : TEOk Try.prog 23 ⟨.slice 22, 1, 24, [.raw (.slice none 0 0)], false⟩ :=
  TEOk.of Try.underlying23 (i := Try.t23) (by kernel_rfl) rfl rfl rfl (by kernel_rfl) (fun h => by cases h) (by kernel_rfl)
theorem teDK_32 : TEOk Try.prog 32 ⟨.array 64 5, 64, 64, [.ints .u8 (64 : Nat) ([0, 0, 0, 0, 0, 0, 0, 0, 0, 0, 0, 0, 0, 0, 0, 0, 0, 0, 0, 0, 0, 0, 0, 0, 0, 0, 0, 0, 0, 0, 0, 0, 0, 0, 0, 0, 0, 0, 0, 0, 0, 0, 0, 0, 0, 0, 0, 0, 0, 0, 0, 0, 0, 0, 0, 0, 0, 0, 0, 0, 0, 0, 0, 0] : List Int)], true⟩ :=
  TEOk.of Try.underlying32 (i := Try.t32) (by kernel_rfl) rfl rfl rfl (by kernel_rfl) (fun _ => Try.eqGuardType32) (by kernel_rfl)
theorem teDK_57 : TEOk Try.prog 57 ⟨.pointer 134, 1, 8, [.raw (.pointer none)], false⟩ :=
  TEOk.of Try.underlying57 (i := Try.t57) (by kernel_rfl) rfl rfl rfl (by kernel_rfl) (fun h => by cases h) (by kernel_rfl)
theorem teDK_72 : TEOk Try.prog 72 ⟨.array 32 5, 32, 32, [.ints .u8 (32 : Nat) ([0, 0, 0, 0, 0, 0, 0, 0, 0, 0, 0, 0, 0, 0, 0, 0, 0, 0, 0, 0, 0, 0, 0, 0, 0, 0, 0, 0, 0, 0, 0, 0] : List Int)], true⟩ :=
  TEOk.of Try.underlying72 (i := Try.t72) (by kernel_rfl) rfl rfl rfl (by kernel_rfl) (fun _ => Try.eqGuardType72) (by kernel_rfl)
theorem teDK_89 : TEOk Try.prog 89 ⟨.pointer 140, 1, 8, [.raw (.pointer none)], false⟩ :=
  TEOk.of Try.underlying89 (i := Try.t89) (by kernel_rfl) rfl rfl rfl (by kernel_rfl) (fun h => by cases h) (by kernel_rfl)
theorem teDK_91 : TEOk Try.prog 91 ⟨.slice 72, 1, 24, [.raw (.slice none 0 0)], false⟩ :=
  TEOk.of Try.underlying91 (i := Try.t91) (by kernel_rfl) rfl rfl rfl (by kernel_rfl) (fun h => by cases h) (by kernel_rfl)
theorem teDK_134 : TEOk Try.prog 134 ⟨Try.t133.desc, 130, 144, [.ints .u8 (64 : Nat) ([0, 0, 0, 0, 0, 0, 0, 0, 0, 0, 0, 0, 0, 0, 0, 0, 0, 0, 0, 0, 0, 0, 0, 0, 0, 0, 0, 0, 0, 0, 0, 0, 0, 0, 0, 0, 0, 0, 0, 0, 0, 0, 0, 0, 0, 0, 0, 0, 0, 0, 0, 0, 0, 0, 0, 0, 0, 0, 0, 0, 0, 0, 0, 0] : List Int), .ints .u8 (64 : Nat) ([0, 0, 0, 0, 0, 0, 0, 0, 0, 0, 0, 0, 0, 0, 0, 0, 0, 0, 0, 0, 0, 0, 0, 0, 0, 0, 0, 0, 0, 0, 0, 0, 0, 0, 0, 0, 0, 0, 0, 0, 0, 0, 0, 0, 0, 0, 0, 0, 0, 0, 0, 0, 0, 0, 0, 0, 0, 0, 0, 0, 0, 0, 0, 0] : List Int), .b false, .i .i64 (0 : Int)], false⟩ :=
  TEOk.of Try.underlying134 (i := Try.t134) (by kernel_rfl) rfl rfl rfl (by kernel_rfl) (fun h => by cases h) (by kernel_rfl)
theorem teDK_140 : TEOk Try.prog 140 ⟨Try.t139.desc, 1, 24, [.raw (.slice none 0 0)], false⟩ :=
  TEOk.of Try.underlying140 (i := Try.t140) (by kernel_rfl) rfl rfl rfl (by kernel_rfl) (fun h => by cases h) (by kernel_rfl)
noncomputable def tabDK : List (Nat × TE) := [(3, ⟨.int .i64, 1, 8, [.i .i64 (0 : Int)], false⟩), (5, ⟨.int .u8, 1, 1, [.i .u8 (0 : Int)], false⟩), (22, ⟨.slice 5, 1, 24, [.raw (.slice none 0 0)], false⟩), (23, ⟨.slice 22, 1, 24, [.raw (.slice none 0 0)], false⟩), (32, ⟨.array 64 5, 64, 64, [.ints .u8 (64 : Nat) ([0, 0, 0, 0, 0, 0, 0, 0, 0, 0, 0, 0, 0, 0, 0, 0, 0, 0, 0, 0, 0, 0, 0, 0, 0, 0, 0, 0, 0, 0, 0, 0, 0, 0, 0, 0, 0, 0, 0, 0, 0, 0, 0, 0, 0, 0, 0, 0, 0, 0, 0, 0, 0, 0, 0, 0, 0, 0, 0, 0, 0, 0, 0, 0] : List Int)], true⟩), (57, ⟨.pointer 134, 1, 8, [.raw (.pointer none)], false⟩), (72, ⟨.array 32 5, 32, 32, [.ints .u8 (32 : Nat) ([0, 0, 0, 0, 0, 0, 0, 0, 0, 0, 0, 0, 0, 0, 0, 0, 0, 0, 0, 0, 0, 0, 0, 0, 0, 0, 0, 0, 0, 0, 0, 0] : List Int)], true⟩), (89, ⟨.pointer 140, 1, 8, [.raw (.pointer none)], false⟩), (91, ⟨.slice 72, 1, 24, [.raw (.slice none 0 0)], false⟩), (134, ⟨Try.t133.desc, 130, 144, [.ints .u8 (64 : Nat) ([0, 0, 0, 0, 0, 0, 0, 0, 0, 0, 0, 0, 0, 0, 0, 0, 0, 0, 0, 0, 0, 0, 0, 0, 0, 0, 0, 0, 0, 0, 0, 0, 0, 0, 0, 0, 0, 0, 0, 0, 0, 0, 0, 0, 0, 0, 0, 0, 0, 0, 0, 0, 0, 0, 0, 0, 0, 0, 0, 0, 0, 0, 0, 0] : List Int), .ints .u8 (64 : Nat) ([0, 0, 0, 0, 0, 0, 0, 0, 0, 0, 0, 0, 0, 0, 0, 0, 0, 0, 0, 0, 0, 0, 0, 0, 0, 0, 0, 0, 0, 0, 0, 0, 0, 0, 0, 0, 0, 0, 0, 0, 0, 0, 0, 0, 0, 0, 0, 0, 0, 0, 0, 0, 0, 0, 0, 0, 0, 0, 0, 0, 0, 0, 0, 0] : List Int), .b false, .i .i64 (0 : Int)], false⟩), (140, ⟨Try.t139.desc, 1, 24, [.raw (.slice none 0 0)], false⟩)]
theorem tabOkDK : TabOk Try.prog (tabOf tabDK) := (tabOf_cons teDK_3 (tabOf_cons teDK_5 (tabOf_cons teDK_22 (tabOf_cons teDK_23 (tabOf_cons teDK_32 (tabOf_cons teDK_57 (tabOf_cons teDK_72 (tabOf_cons teDK_89 (tabOf_cons teDK_91 (tabOf_cons teDK_134 (tabOf_cons teDK_140 tabOf_nil)))))))))))

theorem not_bne_self (x : Int) : (x != x) = false := by simp
theorem al180 : ((List.getD (sub (macD ([107, 101, 121] : List Int) ([84, 104, 101, 32, 113, 117, 105, 99, 107, 32, 98, 114, 111, 119, 110, 32, 102, 111, 120, 32, 106, 117, 109, 112, 115, 32, 111, 118, 101, 114, 32, 116, 104, 101, 32, 108, 97, 122, 121, 32, 100, 111, 103] : List Int)) (0 : Nat) (1 : Nat)) (0 : Nat) 0) == (180 : Int)) = true := by kernel_rfl
theorem al42 : ((List.getD (sub (macD ([107, 101, 121] : List Int) ([84, 104, 101, 32, 113, 117, 105, 99, 107, 32, 98, 114, 111, 119, 110, 32, 102, 111, 120, 32, 106, 117, 109, 112, 115, 32, 111, 118, 101, 114, 32, 116, 104, 101, 32, 108, 97, 122, 121, 32, 100, 111, 103] : List Int)) (1 : Nat) (1 : Nat)) (0 : Nat) 0) == (42 : Int)) = true := by kernel_rfl
theorem al226 : ((List.getD (sub (macD ([107, 101, 121] : List Int) ([84, 104, 101, 32, 113, 117, 105, 99, 107, 32, 98, 114, 111, 119, 110, 32, 102, 111, 120, 32, 106, 117, 109, 112, 115, 32, 111, 118, 101, 114, 32, 116, 104, 101, 32, 108, 97, 122, 121, 32, 100, 111, 103] : List Int)) (7 : Nat) (1 : Nat)) (0 : Nat) 0) == (226 : Int)) = true := by kernel_rfl
def sameBL_mk (n : Nat) (nm : Nat) (b : List Int) (m : Nat) (mm : Nat) (c : List Int) (cap0 : Nat) (cap1 : Nat) (k : Nat) (s : Unit) : St := ⟨sparse 26 [(0, .o (.a (.sl 0 (0 : Nat) n cap0))), (1, .o (.a (.sl 1 (0 : Nat) m cap1))), (5, .o (.a (.i .i64 ((k : Nat) : Int)))), (6, .o (.a (.sl 0 (0 : Nat) n cap0))), (7, .o (.a (.i .i64 ((n : Nat) : Int)))), (8, .o (.a (.sl 1 (0 : Nat) m cap1))), (9, .o (.a (.i .i64 ((m : Nat) : Int)))), (10, .o (.a (.b (((n : Nat) : Int) != ((m : Nat) : Int)))))], [some ⟨false, [.ints .u8 nm b]⟩, some ⟨false, [.ints .u8 mm c]⟩]⟩

def sameBL_step (k : Nat) (s : Unit) : Unit :=
  ()

set_option maxHeartbeats 1000000 in
theorem sameBL_round (n : Nat) (nm : Nat) (b : List Int) (m : Nat) (mm : Nat) (c : List Int) (cap0 : Nat) (cap1 : Nat) (h0 : (nm = n)) (h1 : (mm = m)) (h2 : (m = n)) (h3 : (b = c)) (h4 : (n < (70368744177664 : Nat))) (hc0 : n ≤ cap0) (hc1 : m ≤ cap1) (hl0_0 : List.length b = nm) (hl1_0 : List.length c = mm) (w : World) (β : Env) (k : Nat) (hk : k < n) (s : Unit) : Run Try.prog ⟨w, [], 2, β⟩ (loopB Try.f12 0) (sameBL_mk n nm b m mm c cap0 cap1 k s) (To ⟨w, [], 2, β⟩ .normal (sameBL_mk n nm b m mm c cap0 cap1 (k + 1) (sameBL_step k s))) := by
  have e0 : (IntKind.i64.wrap (((k : Nat) : Int) + (1 : Int))) = (((k + (1 : Nat)) : Nat) : Int) := (by first | rfl | exact wrap_succ (by omega) | omega | (simp (disch := omega) only [wrapI]; omega))
  have h := Run.of_outT (B := ⟨w, [], 2, β⟩) (Λ := noLam) (Ψ := noPsi) (fuel := 0) (ora := [true, false]) (c := (loopB Try.f12 0)) (st := (sameBL_mk n nm b m mm c cap0 cap1 k s)) (l := [.forget [0, 1, 5, 6, 7, 8, 9, 10] 2]) (s' := ⟨sparse 26 [(0, .o (.a (.sl 0 (0 : Nat) n cap0))), (1, .o (.a (.sl 1 (0 : Nat) m cap1))), (5, .o (.a (.i .i64 (IntKind.i64.wrap (((k : Nat) : Int) + (1 : Int)))))), (6, .o (.a (.sl 0 (0 : Nat) n cap0))), (7, .o (.a (.i .i64 ((n : Nat) : Int)))), (8, .o (.a (.sl 1 (0 : Nat) m cap1))), (9, .o (.a (.i .i64 ((m : Nat) : Int)))), (10, .o (.a (.b (((n : Nat) : Int) != ((m : Nat) : Int)))))], [some ⟨false, [.ints .u8 nm b]⟩, some ⟨false, [.ints .u8 mm c]⟩]⟩) (ex := .normal) mix tabOkDK gam17_ok
    (vc := [(((List.getD b k 0) != (List.getD c k 0)) = false), (k < mm), (((0 : Int) ≤ ((k : Nat) : Int)) ∧ (((k : Nat) : Int) < ((m : Nat) : Int))), (k < nm), (((0 : Int) ≤ ((k : Nat) : Int)) ∧ (((k : Nat) : Int) < ((n : Nat) : Int))), ((decide (((k : Nat) : Int) < ((n : Nat) : Int))) = true)]) (by kernel_rfl)
    (AllP_cons (by rw [h3]; exact not_bne_self _) (AllP_cons (by first | omega | (simp (disch := omega) only [wrapI]; omega)) (AllP_cons ⟨(by first | omega | (simp (disch := omega) only [wrapI]; omega)), (by first | omega | (simp (disch := omega) only [wrapI]; omega))⟩ (AllP_cons (by first | omega | (simp (disch := omega) only [wrapI]; omega)) (AllP_cons ⟨(by first | omega | (simp (disch := omega) only [wrapI]; omega)), (by first | omega | (simp (disch := omega) only [wrapI]; omega))⟩ (AllP_cons (decide_eq_true (by first | omega | (simp (disch := omega) only [wrapI]; omega))) (AllP_nil)))))))
  rw [e0] at h
  exact h

set_option maxHeartbeats 1000000 in
theorem sameBL_last (n : Nat) (nm : Nat) (b : List Int) (m : Nat) (mm : Nat) (c : List Int) (cap0 : Nat) (cap1 : Nat) (h0 : (nm = n)) (h1 : (mm = m)) (h2 : (m = n)) (h3 : (b = c)) (h4 : (n < (70368744177664 : Nat))) (hc0 : n ≤ cap0) (hc1 : m ≤ cap1) (hl0_0 : List.length b = nm) (hl1_0 : List.length c = mm) (w : World) (β : Env) (s : Unit) : Run Try.prog ⟨w, [], 2, β⟩ (loopB Try.f12 0) (sameBL_mk n nm b m mm c cap0 cap1 n s) (To ⟨w, [], 2, β⟩ (.exit 0) (sameBL_mk n nm b m mm c cap0 cap1 n s)) :=
  Run.of_outT (B := ⟨w, [], 2, β⟩) (Λ := noLam) (Ψ := noPsi) (fuel := 0) (ora := [false]) (l := [.forget [0, 1, 5, 6, 7, 8, 9, 10] 2]) mix tabOkDK gam17_ok
    (vc := [((decide (((n : Nat) : Int) < ((n : Nat) : Int))) = false)]) (by kernel_rfl)
    (AllP_cons (decide_eq_false (by first | omega | (simp (disch := omega) only [wrapI]; omega))) (AllP_nil))

theorem sameBL_loop (n : Nat) (nm : Nat) (b : List Int) (m : Nat) (mm : Nat) (c : List Int) (cap0 : Nat) (cap1 : Nat) (h0 : (nm = n)) (h1 : (mm = m)) (h2 : (m = n)) (h3 : (b = c)) (h4 : (n < (70368744177664 : Nat))) (hc0 : n ≤ cap0) (hc1 : m ≤ cap1) (hl0_0 : List.length b = nm) (hl1_0 : List.length c = mm) (w : World) (β : Env) (s : Unit) : Run Try.prog ⟨w, [], 2, β⟩ (.block 0 (.loop (loopB Try.f12 0))) (sameBL_mk n nm b m mm c cap0 cap1 0 s) (To ⟨w, [], 2, β⟩ .normal (sameBL_mk n nm b m mm c cap0 cap1 n (iter (sameBL_step) n s))) :=
  Run.count (fun k => sameBL_mk n nm b m mm c cap0 cap1 k (iter (sameBL_step) k s)) n (fun k hk => sameBL_round n nm b m mm c cap0 cap1 h0 h1 h2 h3 h4 hc0 hc1 hl0_0 hl1_0 w β k hk _) (ex := (.exit 0)) (by simp) (sameBL_last n nm b m mm c cap0 cap1 h0 h1 h2 h3 h4 hc0 hc1 hl0_0 hl1_0 w β _)

set_option maxHeartbeats 1000000 in
theorem sameB_body0 (n : Nat) (nm : Nat) (b : List Int) (m : Nat) (mm : Nat) (c : List Int) (cap0 : Nat) (cap1 : Nat) (h0 : (nm = n)) (h1 : (mm = m)) (h2 : (m = n)) (h3 : (b = c)) (h4 : (n < (70368744177664 : Nat))) (hc0 : n ≤ cap0) (hc1 : m ≤ cap1) (hl0_0 : List.length b = nm) (hl1_0 : List.length c = mm) (w : World) (β : Env) : Body Try.prog (tabOf tabDK) Try.f12 ⟨w, [], 2, β⟩ [.o (.a (.sl 0 (0 : Nat) n cap0)), .o (.a (.sl 1 (0 : Nat) m cap1))] [some ⟨false, [.ints .u8 nm b]⟩, some ⟨false, [.ints .u8 mm c]⟩] (fun ys _ => ys = [.a (.b true)]) :=
  Body.of_fin (Γ := gam17) (Λ := lamOf [(0, ⟨[.forget [0, 1, 5, 6, 7, 8, 9, 10] 2], .normal, (sameBL_mk n nm b m mm c cap0 cap1 n (iter (sameBL_step) n ()))⟩)]) (Ψ := noPsi) (fuel := 0) (m := 26) (c := (Try.f12.body.getD .skip)) mix tabOkDK gam17_ok rfl (rs := [.tmp 4]) rfl rfl [false] []
    (vc := [(Run Try.prog ⟨w, [], 2, β⟩ (.block 0 (.loop (loopB Try.f12 0))) (sameBL_mk n nm b m mm c cap0 cap1 0 ()) (To ⟨w, [], 2, β⟩ .normal (sameBL_mk n nm b m mm c cap0 cap1 n (iter (sameBL_step) n ())))), ((((n : Nat) : Int) != ((m : Nat) : Int)) = false)]) (by kernel_rfl)
    (AllP_cons (sameBL_loop n nm b m mm c cap0 cap1 h0 h1 h2 h3 h4 hc0 hc1 hl0_0 hl1_0 w β ()) (AllP_cons (bne_eq_false_iff_eq.2 (by first | omega | (simp (disch := omega) only [wrapI]; omega))) (AllP_nil)))

theorem sameB_body (n : Nat) (nm : Nat) (b : List Int) (m : Nat) (mm : Nat) (c : List Int) (cap0 : Nat) (cap1 : Nat) (h0 : (nm = n)) (h1 : (mm = m)) (h2 : (m = n)) (h3 : (b = c)) (h4 : (n < (70368744177664 : Nat))) (w : World) (β : Env) : Body Try.prog (tabOf tabDK) Try.f12 ⟨w, [], 2, β⟩ [.o (.a (.sl 0 (0 : Nat) n cap0)), .o (.a (.sl 1 (0 : Nat) m cap1))] [some ⟨false, [.ints .u8 nm b]⟩, some ⟨false, [.ints .u8 mm c]⟩] (fun ys _ => ys = [.a (.b true)]) :=
  Body.lens (c := (Try.f12.body.getD .skip)) rfl fun h => sameB_body0 n nm b m mm c cap0 cap1 h0 h1 h2 h3 h4 (h.caps 0 _ _ _ _ rfl) (h.caps 1 _ _ _ _ rfl) (h.lens 0 _ .u8 nm b rfl (by simp)) (h.lens 1 _ .u8 mm c rfl (by simp)) w β

noncomputable def gam24 : Gam := greadV 12 [.s 1, .s 1] (fun vs args => match vs, args with | [⟨_, _, _, [.ints .u8 nm b]⟩, ⟨_, _, _, [.ints .u8 mm c]⟩], [a0, a1] => some ((nm = (lenOfA a0)) ∧ (mm = (lenOfA a1)) ∧ ((lenOfA a1) = (lenOfA a0)) ∧ (b = c) ∧ ((lenOfA a0) < (70368744177664 : Nat)), [.a (.b true)]) | _, _ => none) gam17
theorem gam24_ok : GamOk Try.prog gam24 := greadV_ok tabOkDK Try.func12 gam17_ok Try.call12 (by
  intro vs args p xs h hv
  split at h
  · simp only [Option.some.injEq, Prod.mk.injEq] at h; obtain ⟨rfl, rfl⟩ := h; exact ⟨by rfl, fun caps w β => sameB_body _ _ _ _ _ _ _ _ hv.1 hv.2.1 hv.2.2.1 hv.2.2.2.1 hv.2.2.2.2 w β⟩
  · simp at h)

def left (d : Int) : Int :=
  (IntKind.i64.wrap ((4096 : Int) - d))

set_option maxHeartbeats 1000000 in
theorem left_body0 (ky : List Int) (v : List Int) (d : Int) (hl0_0 : List.length ky = (64 : Nat)) (hl0_1 : List.length v = (64 : Nat)) (w : World) (rw : List Nat) (β : Env) : Body Try.prog (tabOf tabDK) Try.f24 ⟨w, rw, 1, β⟩ [.o (.a (.p 0 0))] [some ⟨false, [.ints .u8 (64 : Nat) ky, .ints .u8 (64 : Nat) v, .b true, .i .i64 d]⟩] (fun ys K' => ys = [.a (.i .i64 (left d))] ∧ K' = [some ⟨false, [.ints .u8 (64 : Nat) ky, .ints .u8 (64 : Nat) v, .b true, .i .i64 d]⟩]) :=
  Body.of_finK (Γ := gam24) (Λ := noLam) (Ψ := noPsi) (fuel := 0) (m := 10) (c := (Try.f24.body.getD .skip)) mix tabOkDK gam24_ok rfl (rs := [.tmp 2]) rfl rfl [false] [] 1
    (vc := [(false = false)]) (by kernel_rfl)
    (AllP_cons rfl (AllP_nil))

theorem left_body (ky : List Int) (v : List Int) (d : Int) (w : World) (rw : List Nat) (β : Env) : Body Try.prog (tabOf tabDK) Try.f24 ⟨w, rw, 1, β⟩ [.o (.a (.p 0 0))] [some ⟨false, [.ints .u8 (64 : Nat) ky, .ints .u8 (64 : Nat) v, .b true, .i .i64 d]⟩] (fun ys K' => ys = [.a (.i .i64 (left d))] ∧ K' = [some ⟨false, [.ints .u8 (64 : Nat) ky, .ints .u8 (64 : Nat) v, .b true, .i .i64 d]⟩]) :=
  Body.lens (c := (Try.f24.body.getD .skip)) rfl fun h => left_body0 ky v d (h.lens 0 _ .u8 (64 : Nat) ky rfl (by simp)) (h.lens 0 _ .u8 (64 : Nat) v rfl (by simp)) w rw β

noncomputable def gam25 : Gam := gcall 24 [false] [.w] (fun wk vs args => match wk, vs, args with | [⟨false, [.ints .u8 (64 : Nat) ky, .ints .u8 (64 : Nat) v, .b true, .i .i64 d]⟩], [], [.o (.a (.p 0 0))] => some (True, [.a (.i .i64 (left d))], [some ⟨false, [.ints .u8 (64 : Nat) ky, .ints .u8 (64 : Nat) v, .b true, .i .i64 d]⟩]) | _, _, _ => none) gam24
theorem gam25_ok : GamOk Try.prog gam25 := gcall_ok tabOkDK Try.func24 gam24_ok Try.call24 (by
  intro wk vs args p xs K1 h hv
  split at h
  · simp only [Option.some.injEq, Prod.mk.injEq] at h; obtain ⟨rfl, rfl, rfl⟩ := h; exact fun caps w rw β => left_body _ _ _ w rw β
  · simp at h)

def copyB (n : Nat) (b : List Int) : List Int :=
  (sub b (0 : Nat) n)

set_option maxHeartbeats 1000000 in
theorem copyB_body0 (n : Nat) (nm : Nat) (b : List Int) (cap0 : Nat) (h0 : (nm = n)) (h1 : (n < (35184372088832 : Nat))) (hc0 : n ≤ cap0) (hl0_0 : List.length b = nm) (w : World) (rw : List Nat) (β : Env) : Body Try.prog (tabOf tabDK) Try.f13 ⟨w, rw, 1, β⟩ [.o (.a (.sl 0 (0 : Nat) n cap0))] [some ⟨false, [.ints .u8 nm b]⟩] (fun ys K' => ys = [.a (.rs 1 (0 : Nat) n 1)] ∧ K' = [some ⟨false, [.ints .u8 nm b]⟩, some ⟨true, [.ints .u8 n (copyB n b)]⟩]) :=
  Body.of_finK (Γ := gam25) (Λ := noLam) (Ψ := noPsi) (fuel := 0) (m := 8) (c := (Try.f13.body.getD .skip)) mix tabOkDK gam25_ok rfl (rs := [.tmp 2]) rfl rfl [false] [] 2
    (vc := [(((n ≤ n) ∧ (((0 : Nat) + n) ≤ nm)) ∧ ((n * (1 : Nat)) ≤ (140737488355328 : Nat)))]) (by kernel_rfl)
    (AllP_cons ⟨⟨(by first | omega | (simp (disch := omega) only [wrapI]; omega)), (by first | omega | (simp (disch := omega) only [wrapI]; omega))⟩, (by first | omega | (simp (disch := omega) only [wrapI]; omega))⟩ (AllP_nil))

theorem copyB_body (n : Nat) (nm : Nat) (b : List Int) (cap0 : Nat) (h0 : (nm = n)) (h1 : (n < (35184372088832 : Nat))) (w : World) (rw : List Nat) (β : Env) : Body Try.prog (tabOf tabDK) Try.f13 ⟨w, rw, 1, β⟩ [.o (.a (.sl 0 (0 : Nat) n cap0))] [some ⟨false, [.ints .u8 nm b]⟩] (fun ys K' => ys = [.a (.rs 1 (0 : Nat) n 1)] ∧ K' = [some ⟨false, [.ints .u8 nm b]⟩, some ⟨true, [.ints .u8 n (copyB n b)]⟩]) :=
  Body.lens (c := (Try.f13.body.getD .skip)) rfl fun h => copyB_body0 n nm b cap0 h0 h1 (h.caps 0 _ _ _ _ rfl) (h.lens 0 _ .u8 nm b rfl (by simp)) w rw β

noncomputable def gam26 : Gam := gcall 13 [] [.s 1] (fun wk vs args => match wk, vs, args with | [], [⟨_, _, _, [.ints .u8 nm b]⟩], [.o (.a (.sl 0 0 n _))] => some ((nm = n) ∧ (n < (35184372088832 : Nat)), [.a (.rs 1 (0 : Nat) n 1)], [some ⟨false, [.ints .u8 nm b]⟩, some ⟨true, [.ints .u8 n (copyB n b)]⟩]) | _, _, _ => none) gam25
theorem gam26_ok : GamOk Try.prog gam26 := gcall_ok tabOkDK Try.func13 gam25_ok Try.call13 (by
  intro wk vs args p xs K1 h hv
  split at h
  · simp only [Option.some.injEq, Prod.mk.injEq] at h; obtain ⟨rfl, rfl, rfl⟩ := h; obtain ⟨g0, g1⟩ := hv; exact fun caps w rw β => copyB_body _ _ _ _ g0 g1 w rw β
  · simp at h)

def newTape1 (l : List Int) : List Int :=
  (sub l (0 : Nat) (32 : Nat))

set_option maxHeartbeats 1000000 in
theorem newTape1_body0 (l : List Int) (cp : Nat) (hl0_0 : List.length l = (32 : Nat)) (w : World) (rw : List Nat) (β : Env) : Body Try.prog (tabOf tabDK) Try.f35 ⟨w, rw, 1, β⟩ [.o (.a (.sl 0 (0 : Nat) (1 : Nat) cp))] [some ⟨false, [.ints .u8 (32 : Nat) l]⟩] (fun ys K' => ys = [.a (.p 1 0)] ∧ K' = [some ⟨false, [.ints .u8 (32 : Nat) l]⟩, some ⟨true, [.rs 2 (0 : Nat) (1 : Nat) 32]⟩, some ⟨true, [.ints .u8 (32 : Nat) (newTape1 l)]⟩]) :=
  Body.of_finK (Γ := gam26) (Λ := noLam) (Ψ := noPsi) (fuel := 0) (m := 7) (c := (Try.f35.body.getD .skip)) mix tabOkDK gam26_ok rfl (rs := [.tmp 2]) rfl rfl [false] [.swap 1 2] 3
    (vc := [((((1 : Nat) ≤ (1 : Nat)) ∧ ((32 : Nat) ≤ (32 : Nat))) ∧ ((32 : Nat) ≤ (140737488355328 : Nat)))]) (by kernel_rfl)
    (AllP_cons ⟨⟨(by decide), (by decide)⟩, (by decide)⟩ (AllP_nil))

theorem newTape1_body (l : List Int) (cp : Nat) (w : World) (rw : List Nat) (β : Env) : Body Try.prog (tabOf tabDK) Try.f35 ⟨w, rw, 1, β⟩ [.o (.a (.sl 0 (0 : Nat) (1 : Nat) cp))] [some ⟨false, [.ints .u8 (32 : Nat) l]⟩] (fun ys K' => ys = [.a (.p 1 0)] ∧ K' = [some ⟨false, [.ints .u8 (32 : Nat) l]⟩, some ⟨true, [.rs 2 (0 : Nat) (1 : Nat) 32]⟩, some ⟨true, [.ints .u8 (32 : Nat) (newTape1 l)]⟩]) :=
  Body.lens (c := (Try.f35.body.getD .skip)) rfl fun h => newTape1_body0 l cp (h.lens 0 _ .u8 (32 : Nat) l rfl (by simp)) w rw β

noncomputable def gam27 : Gam := gcall 35 [false] [.w] (fun wk vs args => match wk, vs, args with | [⟨false, [.ints .u8 (32 : Nat) l]⟩], [], [.o (.a (.sl 0 (0 : Nat) (1 : Nat) cp))] => some (True, [.a (.p 1 0)], [some ⟨false, [.ints .u8 (32 : Nat) l]⟩, some ⟨true, [.rs 2 (0 : Nat) (1 : Nat) 32]⟩, some ⟨true, [.ints .u8 (32 : Nat) (newTape1 l)]⟩]) | _, _, _ => none) gam26
theorem gam27_ok : GamOk Try.prog gam27 := gcall_ok tabOkDK Try.func35 gam26_ok Try.call35 (by
  intro wk vs args p xs K1 h hv
  split at h
  · simp only [Option.some.injEq, Prod.mk.injEq] at h; obtain ⟨rfl, rfl, rfl⟩ := h; exact fun caps w rw β => newTape1_body _ _ w rw β
  · simp at h)

def tapeRandom1 (l : List Int) : List Int :=
  (sub l (0 : Nat) (32 : Nat))

set_option maxHeartbeats 1000000 in
theorem tapeRandom1_body0 (l : List Int) (hl1_0 : List.length l = (32 : Nat)) (w : World) (rw : List Nat) (β : Env) : Body Try.prog (tabOf tabDK) Try.f32 ⟨w, rw, 2, β⟩ [.o (.a (.p 0 0))] [some ⟨true, [.rs 1 (0 : Nat) (1 : Nat) 32]⟩, some ⟨true, [.ints .u8 (32 : Nat) l]⟩] (fun ys K' => ys = [.g [.ints .u8 (32 : Nat) (tapeRandom1 l)], .a (.i .i64 (0 : Int))] ∧ K' = [some ⟨true, [.rs 1 (32 : Nat) (0 : Nat) 32]⟩, some ⟨true, [.ints .u8 (32 : Nat) l]⟩]) :=
  Body.of_finK (Γ := gam27) (Λ := noLam) (Ψ := noPsi) (fuel := 0) (m := 30) (c := (Try.f32.body.getD .skip)) mix tabOkDK gam27_ok rfl (rs := [.cell 2 72, .tmp 3]) rfl rfl [false, false] [] 2
    (vc := [(((0 : Int) ≤ (1 : Int)) ∧ ((1 : Int) ≤ (1 : Int))), ((32 : Nat) ≤ (32 : Nat)), (((0 : Int) ≤ (0 : Int)) ∧ ((0 : Int) < (1 : Int))), (false = false), (false = false)]) (by kernel_rfl)
    (AllP_cons ⟨(by decide), (by decide)⟩ (AllP_cons (by decide) (AllP_cons ⟨(by decide), (by decide)⟩ (AllP_cons rfl (AllP_cons rfl (AllP_nil))))))

theorem tapeRandom1_body (l : List Int) (w : World) (rw : List Nat) (β : Env) : Body Try.prog (tabOf tabDK) Try.f32 ⟨w, rw, 2, β⟩ [.o (.a (.p 0 0))] [some ⟨true, [.rs 1 (0 : Nat) (1 : Nat) 32]⟩, some ⟨true, [.ints .u8 (32 : Nat) l]⟩] (fun ys K' => ys = [.g [.ints .u8 (32 : Nat) (tapeRandom1 l)], .a (.i .i64 (0 : Int))] ∧ K' = [some ⟨true, [.rs 1 (32 : Nat) (0 : Nat) 32]⟩, some ⟨true, [.ints .u8 (32 : Nat) l]⟩]) :=
  Body.lens (c := (Try.f32.body.getD .skip)) rfl fun h => tapeRandom1_body0 l (h.lens 1 _ .u8 (32 : Nat) l rfl (by simp)) w rw β

noncomputable def gam28 : Gam := gcall 32 [true, true] [.w] (fun wk vs args => match wk, vs, args with | [⟨true, [.rs 1 (0 : Nat) (1 : Nat) 32]⟩, ⟨true, [.ints .u8 (32 : Nat) l]⟩], [], [.o (.a (.p 0 0))] => some (True, [.g [.ints .u8 (32 : Nat) (tapeRandom1 l)], .a (.i .i64 (0 : Int))], [some ⟨true, [.rs 1 (32 : Nat) (0 : Nat) 32]⟩, some ⟨true, [.ints .u8 (32 : Nat) l]⟩]) | _, _, _ => none) gam27
theorem gam28_ok : GamOk Try.prog gam28 := gcall_ok tabOkDK Try.func32 gam27_ok Try.call32 (by
  intro wk vs args p xs K1 h hv
  split at h
  · simp only [Option.some.injEq, Prod.mk.injEq] at h; obtain ⟨rfl, rfl, rfl⟩ := h; exact fun caps w rw β => tapeRandom1_body _ w rw β
  · simp at h)

set_option maxHeartbeats 1000000 in
theorem tapeLeft1_body0 (l : List Int) (hl1_0 : List.length l = (32 : Nat)) (w : World) (rw : List Nat) (β : Env) : Body Try.prog (tabOf tabDK) Try.f33 ⟨w, rw, 2, β⟩ [.o (.a (.p 0 0))] [some ⟨false, [.rs 1 (32 : Nat) (0 : Nat) 32]⟩, some ⟨false, [.ints .u8 (32 : Nat) l]⟩] (fun ys K' => ys = [.a (.i .i64 (0 : Int))] ∧ K' = [some ⟨false, [.rs 1 (32 : Nat) (0 : Nat) 32]⟩, some ⟨false, [.ints .u8 (32 : Nat) l]⟩]) :=
  Body.of_finK (Γ := gam28) (Λ := noLam) (Ψ := noPsi) (fuel := 0) (m := 10) (c := (Try.f33.body.getD .skip)) mix tabOkDK gam28_ok rfl (rs := [.tmp 2]) rfl rfl [false] [] 2
    (vc := [(false = false)]) (by kernel_rfl)
    (AllP_cons rfl (AllP_nil))

theorem tapeLeft1_body (l : List Int) (w : World) (rw : List Nat) (β : Env) : Body Try.prog (tabOf tabDK) Try.f33 ⟨w, rw, 2, β⟩ [.o (.a (.p 0 0))] [some ⟨false, [.rs 1 (32 : Nat) (0 : Nat) 32]⟩, some ⟨false, [.ints .u8 (32 : Nat) l]⟩] (fun ys K' => ys = [.a (.i .i64 (0 : Int))] ∧ K' = [some ⟨false, [.rs 1 (32 : Nat) (0 : Nat) 32]⟩, some ⟨false, [.ints .u8 (32 : Nat) l]⟩]) :=
  Body.lens (c := (Try.f33.body.getD .skip)) rfl fun h => tapeLeft1_body0 l (h.lens 1 _ .u8 (32 : Nat) l rfl (by simp)) w rw β

noncomputable def gam29 : Gam := gcall 33 [false, false] [.w] (fun wk vs args => match wk, vs, args with | [⟨false, [.rs 1 (32 : Nat) (0 : Nat) 32]⟩, ⟨false, [.ints .u8 (32 : Nat) l]⟩], [], [.o (.a (.p 0 0))] => some (True, [.a (.i .i64 (0 : Int))], [some ⟨false, [.rs 1 (32 : Nat) (0 : Nat) 32]⟩, some ⟨false, [.ints .u8 (32 : Nat) l]⟩]) | _, _, _ => none) gam28
theorem gam29_ok : GamOk Try.prog gam29 := gcall_ok tabOkDK Try.func33 gam28_ok Try.call33 (by
  intro wk vs args p xs K1 h hv
  split at h
  · simp only [Option.some.injEq, Prod.mk.injEq] at h; obtain ⟨rfl, rfl, rfl⟩ := h; exact fun caps w rw β => tapeLeft1_body _ w rw β
  · simp at h)

noncomputable def gam30 : Gam := gcall 21 [] [.s 1, .w, .w] (fun wk vs args => match wk, vs, args with | [], [⟨_, _, _, [.ints .u8 nm b]⟩], [.o (.a (.sl 0 0 n _)), .o (.a (.raw (.slice none 0 0))), .o (.a (.raw (.slice none 0 0)))] => some ((nm = n) ∧ (n < (35184372088832 : Nat)) ∧ ((32 : Nat) ≤ n), [.a (.p 1 0), .a (.i .i64 (0 : Int))], [some ⟨false, [.ints .u8 nm b]⟩, some ⟨true, [.ints .u8 (64 : Nat) (nwK b), .ints .u8 (64 : Nat) (nwV b), .b true, .i .i64 (0 : Int)]⟩]) | _, _, _ => none) gam29
theorem gam30_ok : GamOk Try.prog gam30 := gcall_ok tabOkDK Try.func21 gam29_ok Try.call21 (by
  intro wk vs args p xs K1 h hv
  split at h
  · simp only [Option.some.injEq, Prod.mk.injEq] at h; obtain ⟨rfl, rfl, rfl⟩ := h; obtain ⟨g0, g1, g2⟩ := hv; exact fun caps w rw β => newOk_body _ _ _ _ g0 g1 g2 w rw β
  · simp at h)

noncomputable def gam31 : Gam := gcall 22 [true] [.w, .w, .w] (fun wk vs args => match wk, vs, args with | [⟨true, [.ints .u8 (64 : Nat) ky, .ints .u8 (64 : Nat) v, .b true, .i .i64 d]⟩], [], [.o (.a (.p 0 0)), .o (.a (.i .i64 N)), .o (.a (.raw (.slice none 0 0)))] => some (True, [.a (.rs 1 (0 : Nat) (drN N d) 1), .a (.i .i64 (drE N d))], [some ⟨true, [.ints .u8 (64 : Nat) (drK0 N d ky v), .ints .u8 (64 : Nat) (drV0 N d ky v), .b true, .i .i64 (drD N d)]⟩, some ⟨true, [.ints .u8 (drM N d) (drO0 N d ky v)]⟩]) | _, _, _ => none) gam30
theorem gam31_ok : GamOk Try.prog gam31 := gcall_ok tabOkDK Try.func22 gam30_ok Try.call22 (by
  intro wk vs args p xs K1 h hv
  split at h
  · simp only [Option.some.injEq, Prod.mk.injEq] at h; obtain ⟨rfl, rfl, rfl⟩ := h; exact fun caps w rw β => drawN_body _ _ _ _ w rw β
  · simp at h)

set_option maxHeartbeats 1000000 in
theorem alive_body0 (w : World) (rw : List Nat) (β : Env) : Body Try.prog (tabOf tabDK) Try.f9 ⟨w, rw, 0, β⟩ [] [] (fun ys K' => ys = [.a (.b true)] ∧ K' = []) :=
  Body.of_finKAt (Γ := (gmac w rw (gjoin w rw gam31))) (Λ := noLam) (Ψ := noPsi) (fuel := 0) (m := 80) (c := (Try.f9.body.getD .skip)) mix tabOkDK (gmac_ok (gjoin_ok (gam31_ok.at _ _))) rfl (rs := [.tmp 0]) rfl rfl [true, true, false, false, true, true, true, true, true, true, true, true, true, true, true, true, true, true, true, true, true, true, true, true, true, true, true, true, true, true, true, true] [] 0
    (vc := [(true = true), (true = true), ((True ∧ True) ∧ True), (true = true), (true = true), ((decide ((tapeRandom1 (newTape1 ([7, 0, 0, 0, 0, 0, 0, 0, 0, 0, 0, 0, 0, 0, 0, 0, 0, 0, 0, 0, 0, 0, 0, 0, 0, 0, 0, 0, 0, 0, 0, 0] : List Int))) = ([7, 0, 0, 0, 0, 0, 0, 0, 0, 0, 0, 0, 0, 0, 0, 0, 0, 0, 0, 0, 0, 0, 0, 0, 0, 0, 0, 0, 0, 0, 0, 0] : List Int))) = true), ((decide ((tapeRandom1 (newTape1 ([7, 0, 0, 0, 0, 0, 0, 0, 0, 0, 0, 0, 0, 0, 0, 0, 0, 0, 0, 0, 0, 0, 0, 0, 0, 0, 0, 0, 0, 0, 0, 0] : List Int))) = ([7, 0, 0, 0, 0, 0, 0, 0, 0, 0, 0, 0, 0, 0, 0, 0, 0, 0, 0, 0, 0, 0, 0, 0, 0, 0, 0, 0, 0, 0, 0, 0] : List Int))) = true), ((decide ((tapeRandom1 (newTape1 ([7, 0, 0, 0, 0, 0, 0, 0, 0, 0, 0, 0, 0, 0, 0, 0, 0, 0, 0, 0, 0, 0, 0, 0, 0, 0, 0, 0, 0, 0, 0, 0] : List Int))) = ([7, 0, 0, 0, 0, 0, 0, 0, 0, 0, 0, 0, 0, 0, 0, 0, 0, 0, 0, 0, 0, 0, 0, 0, 0, 0, 0, 0, 0, 0, 0, 0] : List Int))) = true), ((decide ((tapeRandom1 (newTape1 ([7, 0, 0, 0, 0, 0, 0, 0, 0, 0, 0, 0, 0, 0, 0, 0, 0, 0, 0, 0, 0, 0, 0, 0, 0, 0, 0, 0, 0, 0, 0, 0] : List Int))) = ([7, 0, 0, 0, 0, 0, 0, 0, 0, 0, 0, 0, 0, 0, 0, 0, 0, 0, 0, 0, 0, 0, 0, 0, 0, 0, 0, 0, 0, 0, 0, 0] : List Int))) = true), (((drE (5 : Int) (0 : Int)) == (0 : Int)) = true), (((drE (5 : Int) (0 : Int)) == (0 : Int)) = true), (((drE (5 : Int) (0 : Int)) == (0 : Int)) = true), (((drE (5 : Int) (0 : Int)) == (0 : Int)) = true), (((((drN (5 : Int) (0 : Int)) : Nat) : Int) == (5 : Int)) = true), (((((drN (5 : Int) (0 : Int)) : Nat) : Int) == (5 : Int)) = true), (((((drN (5 : Int) (0 : Int)) : Nat) : Int) == (5 : Int)) = true), (((((drN (5 : Int) (0 : Int)) : Nat) : Int) == (5 : Int)) = true), (((List.getD (sub (macD ([107, 101, 121] : List Int) ([84, 104, 101, 32, 113, 117, 105, 99, 107, 32, 98, 114, 111, 119, 110, 32, 102, 111, 120, 32, 106, 117, 109, 112, 115, 32, 111, 118, 101, 114, 32, 116, 104, 101, 32, 108, 97, 122, 121, 32, 100, 111, 103] : List Int)) (7 : Nat) (1 : Nat)) (0 : Nat) 0) == (226 : Int)) = true), (((List.getD (sub (macD ([107, 101, 121] : List Int) ([84, 104, 101, 32, 113, 117, 105, 99, 107, 32, 98, 114, 111, 119, 110, 32, 102, 111, 120, 32, 106, 117, 109, 112, 115, 32, 111, 118, 101, 114, 32, 116, 104, 101, 32, 108, 97, 122, 121, 32, 100, 111, 103] : List Int)) (7 : Nat) (1 : Nat)) (0 : Nat) 0) == (226 : Int)) = true), (((List.getD (sub (macD ([107, 101, 121] : List Int) ([84, 104, 101, 32, 113, 117, 105, 99, 107, 32, 98, 114, 111, 119, 110, 32, 102, 111, 120, 32, 106, 117, 109, 112, 115, 32, 111, 118, 101, 114, 32, 116, 104, 101, 32, 108, 97, 122, 121, 32, 100, 111, 103] : List Int)) (7 : Nat) (1 : Nat)) (0 : Nat) 0) == (226 : Int)) = true), (((List.getD (sub (macD ([107, 101, 121] : List Int) ([84, 104, 101, 32, 113, 117, 105, 99, 107, 32, 98, 114, 111, 119, 110, 32, 102, 111, 120, 32, 106, 117, 109, 112, 115, 32, 111, 118, 101, 114, 32, 116, 104, 101, 32, 108, 97, 122, 121, 32, 100, 111, 103] : List Int)) (7 : Nat) (1 : Nat)) (0 : Nat) 0) == (226 : Int)) = true), (((List.getD (sub (macD ([107, 101, 121] : List Int) ([84, 104, 101, 32, 113, 117, 105, 99, 107, 32, 98, 114, 111, 119, 110, 32, 102, 111, 120, 32, 106, 117, 109, 112, 115, 32, 111, 118, 101, 114, 32, 116, 104, 101, 32, 108, 97, 122, 121, 32, 100, 111, 103] : List Int)) (1 : Nat) (1 : Nat)) (0 : Nat) 0) == (42 : Int)) = true), (((List.getD (sub (macD ([107, 101, 121] : List Int) ([84, 104, 101, 32, 113, 117, 105, 99, 107, 32, 98, 114, 111, 119, 110, 32, 102, 111, 120, 32, 106, 117, 109, 112, 115, 32, 111, 118, 101, 114, 32, 116, 104, 101, 32, 108, 97, 122, 121, 32, 100, 111, 103] : List Int)) (1 : Nat) (1 : Nat)) (0 : Nat) 0) == (42 : Int)) = true), (((List.getD (sub (macD ([107, 101, 121] : List Int) ([84, 104, 101, 32, 113, 117, 105, 99, 107, 32, 98, 114, 111, 119, 110, 32, 102, 111, 120, 32, 106, 117, 109, 112, 115, 32, 111, 118, 101, 114, 32, 116, 104, 101, 32, 108, 97, 122, 121, 32, 100, 111, 103] : List Int)) (1 : Nat) (1 : Nat)) (0 : Nat) 0) == (42 : Int)) = true), (((List.getD (sub (macD ([107, 101, 121] : List Int) ([84, 104, 101, 32, 113, 117, 105, 99, 107, 32, 98, 114, 111, 119, 110, 32, 102, 111, 120, 32, 106, 117, 109, 112, 115, 32, 111, 118, 101, 114, 32, 116, 104, 101, 32, 108, 97, 122, 121, 32, 100, 111, 103] : List Int)) (1 : Nat) (1 : Nat)) (0 : Nat) 0) == (42 : Int)) = true), (((List.getD (sub (macD ([107, 101, 121] : List Int) ([84, 104, 101, 32, 113, 117, 105, 99, 107, 32, 98, 114, 111, 119, 110, 32, 102, 111, 120, 32, 106, 117, 109, 112, 115, 32, 111, 118, 101, 114, 32, 116, 104, 101, 32, 108, 97, 122, 121, 32, 100, 111, 103] : List Int)) (0 : Nat) (1 : Nat)) (0 : Nat) 0) == (180 : Int)) = true), (((List.getD (sub (macD ([107, 101, 121] : List Int) ([84, 104, 101, 32, 113, 117, 105, 99, 107, 32, 98, 114, 111, 119, 110, 32, 102, 111, 120, 32, 106, 117, 109, 112, 115, 32, 111, 118, 101, 114, 32, 116, 104, 101, 32, 108, 97, 122, 121, 32, 100, 111, 103] : List Int)) (0 : Nat) (1 : Nat)) (0 : Nat) 0) == (180 : Int)) = true), (((List.getD (sub (macD ([107, 101, 121] : List Int) ([84, 104, 101, 32, 113, 117, 105, 99, 107, 32, 98, 114, 111, 119, 110, 32, 102, 111, 120, 32, 106, 117, 109, 112, 115, 32, 111, 118, 101, 114, 32, 116, 104, 101, 32, 108, 97, 122, 121, 32, 100, 111, 103] : List Int)) (0 : Nat) (1 : Nat)) (0 : Nat) 0) == (180 : Int)) = true), (((List.getD (sub (macD ([107, 101, 121] : List Int) ([84, 104, 101, 32, 113, 117, 105, 99, 107, 32, 98, 114, 111, 119, 110, 32, 102, 111, 120, 32, 106, 117, 109, 112, 115, 32, 111, 118, 101, 114, 32, 116, 104, 101, 32, 108, 97, 122, 121, 32, 100, 111, 103] : List Int)) (0 : Nat) (1 : Nat)) (0 : Nat) 0) == (180 : Int)) = true), ((True ∧ True) ∧ True), ((True ∧ True) ∧ True), ((True ∧ (True ∧ (True ∧ True))) ∧ True), (false = false), (false = false), (false = false), (false = false), ((((32 : Nat) ≤ (32 : Nat)) ∧ (True ∧ (True ∧ True))) ∧ (((32 : Nat) = (32 : Nat)) ∧ ((32 : Nat) < (35184372088832 : Nat)) ∧ ((32 : Nat) ≤ (32 : Nat)))), (((0 : Int) ≤ (32 : Int)) ∧ ((32 : Int) ≤ (32 : Int)) ∧ ((32 : Int) ≤ (281474976710656 : Int))), (((2 : Nat) = (2 : Nat)) ∧ (((31 : Nat) ≤ (31 : Nat)) ∧ (((12 : Nat) ≤ (12 : Nat)) ∧ True)) ∧ ((List.length ([84, 104, 101, 32, 113, 117, 105, 99, 107, 32, 98, 114, 111, 119, 110, 32, 102, 111, 120, 32, 106, 117, 109, 112, 115, 32, 111, 118, 101, 114, 32, 116, 104, 101, 32, 108, 97, 122, 121, 32, 100, 111, 103] : List Int)) < (70368744177664 : Nat)) ∧ (((3 : Nat) ≤ (3 : Nat)) ∧ True) ∧ (((3 : Nat) = (3 : Nat)) ∧ ((3 : Nat) < (70368744177664 : Nat)) ∧ ((3 : Nat) < (4398046511104 : Nat)) ∧ (((List.length ([84, 104, 101, 32, 113, 117, 105, 99, 107, 32, 98, 114, 111, 119, 110, 32, 102, 111, 120, 32, 106, 117, 109, 112, 115, 32, 111, 118, 101, 114, 32, 116, 104, 101, 32, 108, 97, 122, 121, 32, 100, 111, 103] : List Int)) + (128 : Nat)) < (70368744177664 : Nat)))), ((0 : Nat) < (12 : Nat)), ((0 : Nat) < (31 : Nat)), ((0 : Nat) < (3 : Nat))]) (by kernel_rfl)
    (AllP_cons rfl (AllP_cons rfl (AllP_cons ⟨⟨trivial, trivial⟩, trivial⟩ (AllP_cons rfl (AllP_cons rfl (AllP_cons (by kernel_rfl) (AllP_cons (by kernel_rfl) (AllP_cons (by kernel_rfl) (AllP_cons (by kernel_rfl) (AllP_cons (by kernel_rfl) (AllP_cons (by kernel_rfl) (AllP_cons (by kernel_rfl) (AllP_cons (by kernel_rfl) (AllP_cons (by kernel_rfl) (AllP_cons (by kernel_rfl) (AllP_cons (by kernel_rfl) (AllP_cons (by kernel_rfl) (AllP_cons al226 (AllP_cons al226 (AllP_cons al226 (AllP_cons al226 (AllP_cons al42 (AllP_cons al42 (AllP_cons al42 (AllP_cons al42 (AllP_cons al180 (AllP_cons al180 (AllP_cons al180 (AllP_cons al180 (AllP_cons ⟨⟨trivial, trivial⟩, trivial⟩ (AllP_cons ⟨⟨trivial, trivial⟩, trivial⟩ (AllP_cons ⟨⟨trivial, ⟨trivial, ⟨trivial, trivial⟩⟩⟩, trivial⟩ (AllP_cons rfl (AllP_cons rfl (AllP_cons rfl (AllP_cons rfl (AllP_cons ⟨⟨(by decide), ⟨trivial, ⟨trivial, trivial⟩⟩⟩, ⟨rfl, (by decide), (by decide)⟩⟩ (AllP_cons ⟨(by decide), (by decide), (by decide)⟩ (AllP_cons ⟨rfl, ⟨(by decide), ⟨(by decide), trivial⟩⟩, (by decide), ⟨(by decide), trivial⟩, ⟨rfl, (by decide), (by decide), (by decide)⟩⟩ (AllP_cons (by decide) (AllP_cons (by decide) (AllP_cons (by decide) (AllP_nil)))))))))))))))))))))))))))))))))))))))))))

end Go.Proofs.Ytlmdhjojinkdbaa.X

/- Keys out of keys, as functions of bytes. -/
namespace Go.Proofs.Ytlmdhjojinkdbaa.X
open Go Go.Proofs
set_option linter.unusedVariables false
set_option maxRecDepth 100000

theorem wrap8 (x : Int) : IntKind.u8.wrap x = x % 256 := by
  show (let m := x % (256 : Int); if (false && decide (m ≥ (128 : Int))) = true then m - 256 else m) = x % 256
  simp only [Bool.false_and, Bool.false_eq_true, if_false]
theorem u8_succ (k : Nat) : IntKind.u8.wrap (IntKind.u8.wrap ((k + 1 : Nat) : Int) + 1) = IntKind.u8.wrap ((k + 2 : Nat) : Int) := by
  rw [wrap8, wrap8, wrap8]; omega
def exT (key info : List Int) : Nat → List Int
  | 0 => []
  | i + 1 => macD key (exT key info i ++ (info ++ [IntKind.u8.wrap ((i + 1 : Nat) : Int)]))
def exL : Nat → Nat
  | 0 => 0
  | _ + 1 => 64
def exO (key info : List Int) : Nat → List Int
  | 0 => []
  | i + 1 => exO key info i ++ exT key info (i + 1)
theorem exT_len (key info : List Int) : ∀ i, (exT key info i).length = exL i
  | 0 => rfl
  | i + 1 => macD_len _ _
theorem exL_le : ∀ i, exL i ≤ 64
  | 0 => Nat.zero_le _
  | i + 1 => Nat.le_refl _
theorem exO_len (key info : List Int) : ∀ i, (exO key info i).length = 64 * i
  | 0 => rfl
  | i + 1 => by
    show (exO key info i ++ exT key info (i + 1)).length = _
    rw [List.length_append, exO_len key info i, exT_len]
    show _ + 64 = _
    omega
section
variable {key info : List Int} {k m kn : Nat}
theorem ex_in (hk : key.length = kn) (hi : info.length = m) :
    macD (sub key 0 kn) (sub (exT key info k) 0 (exL k) ++ (sub info 0 m ++ [IntKind.u8.wrap ((k + 1 : Nat) : Int)])) = exT key info (k + 1) := by
  rw [sub_all key kn (by omega), sub_all info m (by omega), sub_all _ (exL k) (by rw [exT_len]; omega)]; rfl
theorem ex_lt (hi : info.length = m) (h : m < 35184372088832) (x : Int) : (sub (exT key info k) 0 (exL k) ++ (sub info 0 m ++ [x])).length < 70368744177664 ∧ (sub (exT key info k) 0 (exL k) ++ (sub info 0 m ++ [x])).length + 128 < 70368744177664 := by
  have := exL_le k
  rw [sub_all info m (by omega), sub_all _ (exL k) (by rw [exT_len]; omega)]
  simp only [List.length_append, List.length_cons, List.length_nil, exT_len, hi]
  omega
theorem exO_step {n : Nat} (hn : n = 64 * k) : sub (exO key info k) 0 n ++ sub (exT key info (k + 1)) 0 64 = exO key info (k + 1) := by
  rw [sub_all _ _ (by rw [exO_len]; omega), sub_all _ _ (by rw [exT_len]; exact Nat.le_refl _)]; rfl
theorem exO_pref {i : Nat} : ∀ {j : Nat}, i ≤ j → ∃ t, exO key info j = exO key info i ++ t
  | 0, h => ⟨[], by have : i = 0 := by omega
                    subst this; exact (List.append_nil _).symm⟩
  | j + 1, h => by
    rcases Nat.lt_or_ge j i with h1 | h1
    · have : i = j + 1 := by omega
      subst this; exact ⟨[], (List.append_nil _).symm⟩
    · obtain ⟨t, ht⟩ := exO_pref (j := j) h1
      refine ⟨t ++ exT key info (j + 1), ?_⟩
      show exO key info j ++ _ = _
      rw [ht, List.append_assoc]
end
def exE (N : Int) : Int := if N < 0 then 1 else if 16320 < N then 113 else 0
def exOk (N : Int) : Bool := decide (0 ≤ N ∧ N ≤ 16320)
def exN (N : Int) : Nat := cond (exOk N) (Int.toNat N) 0
noncomputable def exM (N : Int) : Nat := cond (exOk N) (64 * rnds N) 0
noncomputable def exR (key info : List Int) (N : Int) : List Int := cond (exOk N) (exO key info (rnds N)) []
theorem ex_ok {N : Int} (h0 : 0 ≤ N) (h1 : N ≤ 16320) : exOk N = true := decide_eq_true ⟨h0, h1⟩
theorem ex_bad {N : Int} (h : ¬ (0 ≤ N ∧ N ≤ 16320)) : exOk N = false := decide_eq_false h
theorem exN_le (N : Int) : exN N ≤ exM N := by unfold exN exM; cases exOk N; exact Nat.le_refl _; exact rnds_ge N
theorem exE_ok {N : Int} (h : exE N = 0) : 0 ≤ N ∧ N ≤ 16320 := by unfold exE at h; (repeat' split at h) <;> omega
theorem exN_ok {N : Int} (h : exE N = 0) : ((exN N : Nat) : Int) = N := by
  obtain ⟨h0, h1⟩ := exE_ok h
  unfold exN; rw [ex_ok h0 h1]
  show ((Int.toNat N : Nat) : Int) = N
  omega
theorem ex_pref {key info : List Int} {N M : Int} (h : exE N = 0) (h' : exE M = 0) (hle : N ≤ M) : sub (exR key info N) 0 (exN N) = sub (exR key info M) 0 (Int.toNat N) := by
  obtain ⟨h0, h1⟩ := exE_ok h
  obtain ⟨g0, g1⟩ := exE_ok h'
  have hr : rnds N ≤ rnds M := by rw [rnds_eq, rnds_eq]; omega
  have hg := rnds_ge N
  obtain ⟨t, ht⟩ := exO_pref (key := key) (info := info) hr
  unfold exR exN
  rw [ex_ok h0 h1, ex_ok g0 g1]
  show sub (exO key info (rnds N)) 0 (Int.toNat N) = sub (exO key info (rnds M)) 0 (Int.toNat N)
  rw [ht]
  unfold sub
  rw [List.drop_zero, List.drop_zero, List.take_append_of_le_length (by rw [exO_len]; exact hg)]
end Go.Proofs.Ytlmdhjojinkdbaa.X

/- Printed by a tool of this session. -/
namespace Go.Proofs.Ytlmdhjojinkdbaa.X
open Go Go.Proofs
set_option linter.unusedVariables false
set_option linter.unusedSimpArgs false
set_option maxRecDepth 100000
theorem teDP_5 : TEOk Try.prog 5 ⟨.int .u8, 1, 1, [.i .u8 (0 : Int)], false⟩ :=
  TEOk.of Try.underlying5 (i := Try.t5) (by kernel_rfl) rfl rfl rfl (by kernel_rfl) (fun h => by cases h) (by kernel_rfl)
theorem teDP_22 : TEOk Try.prog 22 ⟨.slice 5, 1, 24, [.raw (.slice none 0 0)], false⟩ :=
  TEOk.of Try.underlying22 (i := Try.t22) (by kernel_rfl) rfl rfl rfl (by kernel_rfl) (fun h => by cases h) (by kernel_rfl)
theorem teDP_23 : TEOk Try.prog 23 ⟨.slice 22, 1, 24, [.raw (.slice none 0 0)], false⟩ :=
  TEOk.of Try.underlying23 (i := Try.t23) (by kernel_rfl) rfl rfl rfl (by kernel_rfl) (fun h => by cases h) (by kernel_rfl)
theorem teDP_32 : TEOk Try.prog 32 ⟨.array 64 5, 64, 64, [.ints .u8 (64 : Nat) ([0, 0, 0, 0, 0, 0, 0, 0, 0, 0, 0, 0, 0, 0, 0, 0, 0, 0, 0, 0, 0, 0, 0, 0, 0, 0, 0, 0, 0, 0, 0, 0, 0, 0, 0, 0, 0, 0, 0, 0, 0, 0, 0, 0, 0, 0, 0, 0, 0, 0, 0, 0, 0, 0, 0, 0, 0, 0, 0, 0, 0, 0, 0, 0] : List Int)], true⟩ :=
  TEOk.of Try.underlying32 (i := Try.t32) (by kernel_rfl) rfl rfl rfl (by kernel_rfl) (fun _ => Try.eqGuardType32) (by kernel_rfl)
noncomputable def tabDP : List (Nat × TE) := [(5, ⟨.int .u8, 1, 1, [.i .u8 (0 : Int)], false⟩), (22, ⟨.slice 5, 1, 24, [.raw (.slice none 0 0)], false⟩), (23, ⟨.slice 22, 1, 24, [.raw (.slice none 0 0)], false⟩), (32, ⟨.array 64 5, 64, 64, [.ints .u8 (64 : Nat) ([0, 0, 0, 0, 0, 0, 0, 0, 0, 0, 0, 0, 0, 0, 0, 0, 0, 0, 0, 0, 0, 0, 0, 0, 0, 0, 0, 0, 0, 0, 0, 0, 0, 0, 0, 0, 0, 0, 0, 0, 0, 0, 0, 0, 0, 0, 0, 0, 0, 0, 0, 0, 0, 0, 0, 0, 0, 0, 0, 0, 0, 0, 0, 0] : List Int)], true⟩)]
theorem tabOkDP : TabOk Try.prog (tabOf tabDP) := (tabOf_cons teDP_5 (tabOf_cons teDP_22 (tabOf_cons teDP_23 (tabOf_cons teDP_32 tabOf_nil))))

set_option maxHeartbeats 1000000 in
theorem expandN_body0 (kn : Nat) (knm : Nat) (key : List Int) (m : Nat) (mm : Nat) (info : List Int) (N : Int) (cap0 : Nat) (cap1 : Nat) (h0 : (knm = kn)) (h1 : (mm = m)) (h2 : (m < (35184372088832 : Nat))) (h3 : (kn < (35184372088832 : Nat))) (hc0 : kn ≤ cap0) (hc1 : m ≤ cap1) (hl0_0 : List.length key = knm) (hl1_0 : List.length info = mm) (hn : N < 0) (w : World) (rw : List Nat) (β : Env) : Body Try.prog (tabOf tabDP) Try.f10 ⟨w, rw, 2, β⟩ [.o (.a (.sl 0 (0 : Nat) kn cap0)), .o (.a (.sl 1 (0 : Nat) m cap1)), .o (.a (.i .i64 N))] [some ⟨false, [.ints .u8 knm key]⟩, some ⟨false, [.ints .u8 mm info]⟩] (fun ys K' => ys = [.a (.rs 2 (0 : Nat) (exN N) 1), .a (.i .i64 (exE N))] ∧ K' = [some ⟨false, [.ints .u8 knm key]⟩, some ⟨false, [.ints .u8 mm info]⟩, some ⟨true, [.ints .u8 (exM N) (exR key info N)]⟩]) :=
  Body.of_finKAt (Γ := (gmac w rw (gjoin w rw gam17))) (Λ := noLam) (Ψ := noPsi) (fuel := 0) (m := 37) (c := (Try.f10.body.getD .skip)) mix tabOkDP (gmac_ok (gjoin_ok (gam17_ok.at _ _))) rfl (rs := [.tmp 6, .tmp 7]) rfl rfl [true] [.rowS 6 .u8 1, .eqS 6 (.o (.a (.rs 2 (0 : Nat) (exN N) 1))), .eqS 7 (.o (.a (.i .i64 (exE N)))), .eqB 2 (⟨true, [.ints .u8 (exM N) (exR key info N)]⟩)] 3
    (vc := [((some ⟨true, [.ints .u8 (0 : Nat) ([] : List Int)]⟩ : Option Blk) = some ⟨true, [.ints .u8 (exM N) (exR key info N)]⟩), ((.o (.a (.i .i64 (1 : Int))) : AV) = .o (.a (.i .i64 (exE N)))), ((.o (.a (.rs 2 (0 : Nat) (0 : Nat) 1)) : AV) = .o (.a (.rs 2 (0 : Nat) (exN N) 1))), ((decide (N < (0 : Int))) = true)]) (by kernel_rfl)
    (AllP_cons ((by unfold exM exR; rw [ex_bad (by omega)]; rfl)) (AllP_cons ((congrArg (fun z => AV.o (.a (.i .i64 z))) (by unfold exE; (repeat' split) <;> omega))) (AllP_cons ((by unfold exN; rw [ex_bad (by omega)]; rfl)) (AllP_cons (decide_eq_true (by first | omega | (simp (disch := omega) only [wrapI]; omega))) (AllP_nil)))))

set_option maxHeartbeats 1000000 in
theorem expandM_body0 (kn : Nat) (knm : Nat) (key : List Int) (m : Nat) (mm : Nat) (info : List Int) (N : Int) (cap0 : Nat) (cap1 : Nat) (h0 : (knm = kn)) (h1 : (mm = m)) (h2 : (m < (35184372088832 : Nat))) (h3 : (kn < (35184372088832 : Nat))) (hc0 : kn ≤ cap0) (hc1 : m ≤ cap1) (hl0_0 : List.length key = knm) (hl1_0 : List.length info = mm) (hn : 16320 < N) (w : World) (rw : List Nat) (β : Env) : Body Try.prog (tabOf tabDP) Try.f10 ⟨w, rw, 2, β⟩ [.o (.a (.sl 0 (0 : Nat) kn cap0)), .o (.a (.sl 1 (0 : Nat) m cap1)), .o (.a (.i .i64 N))] [some ⟨false, [.ints .u8 knm key]⟩, some ⟨false, [.ints .u8 mm info]⟩] (fun ys K' => ys = [.a (.rs 2 (0 : Nat) (exN N) 1), .a (.i .i64 (exE N))] ∧ K' = [some ⟨false, [.ints .u8 knm key]⟩, some ⟨false, [.ints .u8 mm info]⟩, some ⟨true, [.ints .u8 (exM N) (exR key info N)]⟩]) :=
  Body.of_finKAt (Γ := (gmac w rw (gjoin w rw gam17))) (Λ := noLam) (Ψ := noPsi) (fuel := 0) (m := 37) (c := (Try.f10.body.getD .skip)) mix tabOkDP (gmac_ok (gjoin_ok (gam17_ok.at _ _))) rfl (rs := [.tmp 6, .tmp 7]) rfl rfl [false, true] [.rowS 6 .u8 1, .eqS 6 (.o (.a (.rs 2 (0 : Nat) (exN N) 1))), .eqS 7 (.o (.a (.i .i64 (exE N)))), .eqB 2 (⟨true, [.ints .u8 (exM N) (exR key info N)]⟩)] 3
    (vc := [((some ⟨true, [.ints .u8 (0 : Nat) ([] : List Int)]⟩ : Option Blk) = some ⟨true, [.ints .u8 (exM N) (exR key info N)]⟩), ((.o (.a (.i .i64 (113 : Int))) : AV) = .o (.a (.i .i64 (exE N)))), ((.o (.a (.rs 2 (0 : Nat) (0 : Nat) 1)) : AV) = .o (.a (.rs 2 (0 : Nat) (exN N) 1))), ((decide (N > (16320 : Int))) = true), ((decide (N < (0 : Int))) = false)]) (by kernel_rfl)
    (AllP_cons ((by unfold exM exR; rw [ex_bad (by omega)]; rfl)) (AllP_cons ((congrArg (fun z => AV.o (.a (.i .i64 z))) (by unfold exE; (repeat' split) <;> omega))) (AllP_cons ((by unfold exN; rw [ex_bad (by omega)]; rfl)) (AllP_cons (decide_eq_true (by first | omega | (simp (disch := omega) only [wrapI]; omega))) (AllP_cons (decide_eq_false (by first | omega | (simp (disch := omega) only [wrapI]; omega))) (AllP_nil))))))

noncomputable def expandZL_mk (kn : Nat) (knm : Nat) (key : List Int) (m : Nat) (mm : Nat) (info : List Int) (N : Int) (cap0 : Nat) (cap1 : Nat) (k : Nat) (s : Unit) : St := ⟨sparse 37 [(0, .o (.a (.sl 0 (0 : Nat) kn cap0))), (1, .o (.a (.sl 1 (0 : Nat) m cap1))), (2, .o (.a (.i .i64 N))), (6, .o (.a (.raw (.slice none 0 0)))), (7, .o (.a (.i .i64 (0 : Int)))), (8, .o (.a (.rs 2 (0 : Nat) ((64 : Nat) * k) 1))), (9, .o (.a (.rs 3 (0 : Nat) (exL k) 1))), (10, .o (.a (.i .u8 (IntKind.u8.wrap (((k + (1 : Nat)) : Nat) : Int)))))], [some ⟨false, [.ints .u8 knm key]⟩, some ⟨false, [.ints .u8 mm info]⟩, some ⟨true, [.ints .u8 ((64 : Nat) * k) (exO key info k)]⟩, some ⟨true, [.ints .u8 (exL k) (exT key info k)]⟩]⟩

noncomputable def expandZL_step (k : Nat) (s : Unit) : Unit :=
  ()

set_option maxHeartbeats 1000000 in
theorem expandZL_round (kn : Nat) (knm : Nat) (key : List Int) (m : Nat) (mm : Nat) (info : List Int) (N : Int) (cap0 : Nat) (cap1 : Nat) (h0 : (knm = kn)) (h1 : (mm = m)) (h2 : (m < (35184372088832 : Nat))) (h3 : (kn < (35184372088832 : Nat))) (hc0 : kn ≤ cap0) (hc1 : m ≤ cap1) (hl0_0 : List.length key = knm) (hl1_0 : List.length info = mm) (ha : 0 ≤ N) (hb : N ≤ 16320) (w : World) (rw : List Nat) (β : Env) (k : Nat) (hk : k < (rnds N)) (s : Unit) : Run Try.prog ⟨w, rw, 2, β⟩ (loopB Try.f10 0) (expandZL_mk kn knm key m mm info N cap0 cap1 k s) (To ⟨w, rw, 2, β⟩ .normal (expandZL_mk kn knm key m mm info N cap0 cap1 (k + 1) (expandZL_step k s))) := by
  have e0 : ((sub (exO key info k) (0 : Nat) ((64 : Nat) * k)) ++ (sub (exT key info (k + (1 : Nat))) (0 : Nat) (64 : Nat))) = (exO key info (k + (1 : Nat))) := (by first | rfl | omega | exact exO_step rfl | exact u8_succ _)
  have e1 : (IntKind.u8.wrap ((IntKind.u8.wrap (((k + (1 : Nat)) : Nat) : Int)) + (1 : Int))) = (IntKind.u8.wrap (((k + (2 : Nat)) : Nat) : Int)) := (by first | rfl | omega | exact exO_step rfl | exact u8_succ _)
  have e2 : (((64 : Nat) * k) + (64 : Nat)) = ((64 : Nat) * (k + (1 : Nat))) := (by first | rfl | omega | exact exO_step rfl | exact u8_succ _)
  have h := Run.of_outTAt (B := ⟨w, rw, 2, β⟩) (Λ := noLam) (Ψ := psiOf [(9, [.eqB 6 (⟨true, [.ints .u8 (64 : Nat) (exT key info (k + (1 : Nat)))]⟩)])]) (fuel := 0) (ora := [true, false]) (c := (loopB Try.f10 0)) (st := (expandZL_mk kn knm key m mm info N cap0 cap1 k s)) (l := [.slrs 9 1, .eqS 9 (.o (.a (.rs 6 (0 : Nat) (exL (k + (1 : Nat))) 1))), .eqB 6 (⟨true, [.ints .u8 (exL (k + (1 : Nat))) (exT key info (k + (1 : Nat)))]⟩), .swap 2 7, .swap 3 6, .forget [0, 1, 2, 6, 7, 8, 9, 10] 4]) (s' := ⟨sparse 37 [(0, .o (.a (.sl 0 (0 : Nat) kn cap0))), (1, .o (.a (.sl 1 (0 : Nat) m cap1))), (2, .o (.a (.i .i64 N))), (6, .o (.a (.raw (.slice none 0 0)))), (7, .o (.a (.i .i64 (0 : Int)))), (8, .o (.a (.rs 2 (0 : Nat) (((64 : Nat) * k) + (64 : Nat)) 1))), (9, .o (.a (.rs 3 (0 : Nat) (exL (k + (1 : Nat))) 1))), (10, .o (.a (.i .u8 (IntKind.u8.wrap ((IntKind.u8.wrap (((k + (1 : Nat)) : Nat) : Int)) + (1 : Int))))))], [some ⟨false, [.ints .u8 knm key]⟩, some ⟨false, [.ints .u8 mm info]⟩, some ⟨true, [.ints .u8 (((64 : Nat) * k) + (64 : Nat)) ((sub (exO key info k) (0 : Nat) ((64 : Nat) * k)) ++ (sub (exT key info (k + (1 : Nat))) (0 : Nat) (64 : Nat)))]⟩, some ⟨true, [.ints .u8 (exL (k + (1 : Nat))) (exT key info (k + (1 : Nat)))]⟩]⟩) (ex := .normal) mix tabOkDP (gmac_ok (gjoin_ok (gam17_ok.at _ _)))
    (vc := [((some ⟨true, [.ints .u8 (64 : Nat) (exT key info (k + (1 : Nat)))]⟩ : Option Blk) = some ⟨true, [.ints .u8 (exL (k + (1 : Nat))) (exT key info (k + (1 : Nat)))]⟩), ((.o (.a (.rs 6 (0 : Nat) (64 : Nat) 1)) : AV) = .o (.a (.rs 6 (0 : Nat) (exL (k + (1 : Nat))) 1))), ((64 : Nat) ≤ (64 : Nat)), ((((0 : Nat) + ((64 : Nat) * k)) ≤ ((64 : Nat) * k)) ∧ (((64 : Nat) ≤ (64 : Nat)) ∧ ((64 : Nat) ≤ (64 : Nat))) ∧ (((((64 : Nat) * k) + (64 : Nat)) * (1 : Nat)) ≤ (140737488355328 : Nat))), (((0 : Int) ≤ (0 : Int)) ∧ ((0 : Int) ≤ (64 : Int))), ((some ⟨true, [.ints .u8 (64 : Nat) (macD (sub key (0 : Nat) kn) ((sub (exT key info k) (0 : Nat) (exL k)) ++ ((sub info (0 : Nat) m) ++ ([(IntKind.u8.wrap (((k + (1 : Nat)) : Nat) : Int))] : List Int))))]⟩ : Option Blk) = some ⟨true, [.ints .u8 (64 : Nat) (exT key info (k + (1 : Nat)))]⟩), (((3 : Nat) = (3 : Nat)) ∧ ((((0 : Nat) + (exL k)) ≤ (exL k)) ∧ ((((0 : Nat) + m) ≤ mm) ∧ (((1 : Nat) ≤ (1 : Nat)) ∧ True))) ∧ ((List.length ((sub (exT key info k) (0 : Nat) (exL k)) ++ ((sub info (0 : Nat) m) ++ ([(IntKind.u8.wrap (((k + (1 : Nat)) : Nat) : Int))] : List Int)))) < (70368744177664 : Nat)) ∧ ((((0 : Nat) + kn) ≤ knm) ∧ True) ∧ ((kn = kn) ∧ (kn < (70368744177664 : Nat)) ∧ ((4 : Nat) < (4398046511104 : Nat)) ∧ (((List.length ((sub (exT key info k) (0 : Nat) (exL k)) ++ ((sub info (0 : Nat) m) ++ ([(IntKind.u8.wrap (((k + (1 : Nat)) : Nat) : Int))] : List Int)))) + (128 : Nat)) < (70368744177664 : Nat)))), ((decide (((((64 : Nat) * k) : Nat) : Int) < N)) = true)]) (by kernel_rfl)
    (AllP_cons (rfl) (AllP_cons (rfl) (AllP_cons (by decide) (AllP_cons ⟨(by have hq := rnds_lt hk; have hy := exL_le k; first | omega | (simp (disch := omega) only [wrapI]; omega)), ⟨(by decide), (by decide)⟩, (by have hq := rnds_lt hk; have hy := exL_le k; first | omega | (simp (disch := omega) only [wrapI]; omega))⟩ (AllP_cons ⟨(by decide), (by decide)⟩ (AllP_cons ((by rw [ex_in (hl0_0.trans h0) (hl1_0.trans h1)])) (AllP_cons ⟨rfl, ⟨(by have hq := rnds_lt hk; have hy := exL_le k; first | omega | (simp (disch := omega) only [wrapI]; omega)), ⟨(by have hq := rnds_lt hk; have hy := exL_le k; first | omega | (simp (disch := omega) only [wrapI]; omega)), ⟨(by decide), trivial⟩⟩⟩, (ex_lt (hl1_0.trans h1) h2 _).1, ⟨(by have hq := rnds_lt hk; have hy := exL_le k; first | omega | (simp (disch := omega) only [wrapI]; omega)), trivial⟩, ⟨rfl, (by have hq := rnds_lt hk; have hy := exL_le k; first | omega | (simp (disch := omega) only [wrapI]; omega)), (by decide), (ex_lt (hl1_0.trans h1) h2 _).2⟩⟩ (AllP_cons (decide_eq_true (by have hq := rnds_lt hk; omega)) (AllP_nil)))))))))
  rw [e0, e1, e2] at h
  exact h

set_option maxHeartbeats 1000000 in
theorem expandZL_last (kn : Nat) (knm : Nat) (key : List Int) (m : Nat) (mm : Nat) (info : List Int) (N : Int) (cap0 : Nat) (cap1 : Nat) (h0 : (knm = kn)) (h1 : (mm = m)) (h2 : (m < (35184372088832 : Nat))) (h3 : (kn < (35184372088832 : Nat))) (hc0 : kn ≤ cap0) (hc1 : m ≤ cap1) (hl0_0 : List.length key = knm) (hl1_0 : List.length info = mm) (ha : 0 ≤ N) (hb : N ≤ 16320) (w : World) (rw : List Nat) (β : Env) (s : Unit) : Run Try.prog ⟨w, rw, 2, β⟩ (loopB Try.f10 0) (expandZL_mk kn knm key m mm info N cap0 cap1 (rnds N) s) (To ⟨w, rw, 2, β⟩ (.exit 0) (expandZL_mk kn knm key m mm info N cap0 cap1 (rnds N) s)) :=
  Run.of_outTAt (B := ⟨w, rw, 2, β⟩) (Λ := noLam) (Ψ := noPsi) (fuel := 0) (ora := [false]) (l := [.forget [0, 1, 2, 6, 7, 8, 9, 10] 4]) mix tabOkDP (gmac_ok (gjoin_ok (gam17_ok.at _ _)))
    (vc := [((decide (((((64 : Nat) * (rnds N)) : Nat) : Int) < N)) = false)]) (by kernel_rfl)
    (AllP_cons (decide_eq_false (by have hq := rnds_ge N; omega)) (AllP_nil))

theorem expandZL_loop (kn : Nat) (knm : Nat) (key : List Int) (m : Nat) (mm : Nat) (info : List Int) (N : Int) (cap0 : Nat) (cap1 : Nat) (h0 : (knm = kn)) (h1 : (mm = m)) (h2 : (m < (35184372088832 : Nat))) (h3 : (kn < (35184372088832 : Nat))) (hc0 : kn ≤ cap0) (hc1 : m ≤ cap1) (hl0_0 : List.length key = knm) (hl1_0 : List.length info = mm) (ha : 0 ≤ N) (hb : N ≤ 16320) (w : World) (rw : List Nat) (β : Env) (s : Unit) : Run Try.prog ⟨w, rw, 2, β⟩ (.block 0 (.loop (loopB Try.f10 0))) (expandZL_mk kn knm key m mm info N cap0 cap1 0 s) (To ⟨w, rw, 2, β⟩ .normal (expandZL_mk kn knm key m mm info N cap0 cap1 (rnds N) (iter (expandZL_step) (rnds N) s))) :=
  Run.count (fun k => expandZL_mk kn knm key m mm info N cap0 cap1 k (iter (expandZL_step) k s)) (rnds N) (fun k hk => expandZL_round kn knm key m mm info N cap0 cap1 h0 h1 h2 h3 hc0 hc1 hl0_0 hl1_0 ha hb w rw β k hk _) (ex := (.exit 0)) (by simp) (expandZL_last kn knm key m mm info N cap0 cap1 h0 h1 h2 h3 hc0 hc1 hl0_0 hl1_0 ha hb w rw β _)

set_option maxHeartbeats 1000000 in
theorem expandZ_body0 (kn : Nat) (knm : Nat) (key : List Int) (m : Nat) (mm : Nat) (info : List Int) (N : Int) (cap0 : Nat) (cap1 : Nat) (h0 : (knm = kn)) (h1 : (mm = m)) (h2 : (m < (35184372088832 : Nat))) (h3 : (kn < (35184372088832 : Nat))) (hc0 : kn ≤ cap0) (hc1 : m ≤ cap1) (hl0_0 : List.length key = knm) (hl1_0 : List.length info = mm) (ha : 0 ≤ N) (hb : N ≤ 16320) (w : World) (rw : List Nat) (β : Env) : Body Try.prog (tabOf tabDP) Try.f10 ⟨w, rw, 2, β⟩ [.o (.a (.sl 0 (0 : Nat) kn cap0)), .o (.a (.sl 1 (0 : Nat) m cap1)), .o (.a (.i .i64 N))] [some ⟨false, [.ints .u8 knm key]⟩, some ⟨false, [.ints .u8 mm info]⟩] (fun ys K' => ys = [.a (.rs 2 (0 : Nat) (exN N) 1), .a (.i .i64 (exE N))] ∧ K' = [some ⟨false, [.ints .u8 knm key]⟩, some ⟨false, [.ints .u8 mm info]⟩, some ⟨true, [.ints .u8 (exM N) (exR key info N)]⟩]) :=
  Body.of_finKAt (Γ := (gmac w rw (gjoin w rw gam17))) (Λ := lamOf [(0, ⟨[.rowS 8 .u8 1, .rowS 9 .u8 1, .forget [0, 1, 2, 6, 7, 8, 9, 10] 4], .normal, (expandZL_mk kn knm key m mm info N cap0 cap1 (rnds N) (iter (expandZL_step) (rnds N) ()))⟩)]) (Ψ := noPsi) (fuel := 0) (m := 37) (c := (Try.f10.body.getD .skip)) mix tabOkDP (gmac_ok (gjoin_ok (gam17_ok.at _ _))) rfl (rs := [.tmp 6, .tmp 7]) rfl rfl [false, false] [.slrs 6 1, .eqS 6 (.o (.a (.rs 2 (0 : Nat) (exN N) 1))), .eqS 7 (.o (.a (.i .i64 (exE N)))), .eqB 2 (⟨true, [.ints .u8 (exM N) (exR key info N)]⟩)] 3
    (vc := [((some ⟨true, [.ints .u8 ((64 : Nat) * (rnds N)) (exO key info (rnds N))]⟩ : Option Blk) = some ⟨true, [.ints .u8 (exM N) (exR key info N)]⟩), ((.o (.a (.i .i64 (0 : Int))) : AV) = .o (.a (.i .i64 (exE N)))), ((.o (.a (.rs 2 (0 : Nat) (Int.toNat N) 1)) : AV) = .o (.a (.rs 2 (0 : Nat) (exN N) 1))), (((0 : Nat) + (Int.toNat N)) ≤ ((64 : Nat) * (rnds N))), (((0 : Int) ≤ (0 : Int)) ∧ ((0 : Int) ≤ N) ∧ (N ≤ N) ∧ (N ≤ ((((64 : Nat) * (rnds N)) : Nat) : Int))), (Run Try.prog ⟨w, rw, 2, β⟩ (.block 0 (.loop (loopB Try.f10 0))) (expandZL_mk kn knm key m mm info N cap0 cap1 0 ()) (To ⟨w, rw, 2, β⟩ .normal (expandZL_mk kn knm key m mm info N cap0 cap1 (rnds N) (iter (expandZL_step) (rnds N) ())))), ((decide (N > (16320 : Int))) = false), ((decide (N < (0 : Int))) = false)]) (by kernel_rfl)
    (AllP_cons ((by unfold exM exR; rw [ex_ok ha hb]; rfl)) (AllP_cons ((congrArg (fun z => AV.o (.a (.i .i64 z))) (by unfold exE; (repeat' split) <;> omega))) (AllP_cons ((by unfold exN; rw [ex_ok ha hb]; rfl)) (AllP_cons (by have hq := rnds_ge N; omega) (AllP_cons ⟨(by decide), (by first | omega | (simp (disch := omega) only [wrapI]; omega)), (by first | omega | (simp (disch := omega) only [wrapI]; omega)), (by have hq := rnds_ge N; omega)⟩ (AllP_cons (expandZL_loop kn knm key m mm info N cap0 cap1 h0 h1 h2 h3 hc0 hc1 hl0_0 hl1_0 ha hb w rw β ()) (AllP_cons (decide_eq_false (by first | omega | (simp (disch := omega) only [wrapI]; omega))) (AllP_cons (decide_eq_false (by first | omega | (simp (disch := omega) only [wrapI]; omega))) (AllP_nil)))))))))

theorem expand_body (kn : Nat) (knm : Nat) (key : List Int) (m : Nat) (mm : Nat) (info : List Int) (N : Int) (cap0 : Nat) (cap1 : Nat) (h0 : (knm = kn)) (h1 : (mm = m)) (h2 : (m < (35184372088832 : Nat))) (h3 : (kn < (35184372088832 : Nat))) (w : World) (rw : List Nat) (β : Env) : Body Try.prog (tabOf tabDP) Try.f10 ⟨w, rw, 2, β⟩ [.o (.a (.sl 0 (0 : Nat) kn cap0)), .o (.a (.sl 1 (0 : Nat) m cap1)), .o (.a (.i .i64 N))] [some ⟨false, [.ints .u8 knm key]⟩, some ⟨false, [.ints .u8 mm info]⟩] (fun ys K' => ys = [.a (.rs 2 (0 : Nat) (exN N) 1), .a (.i .i64 (exE N))] ∧ K' = [some ⟨false, [.ints .u8 knm key]⟩, some ⟨false, [.ints .u8 mm info]⟩, some ⟨true, [.ints .u8 (exM N) (exR key info N)]⟩]) :=
  Body.lens (c := (Try.f10.body.getD .skip)) rfl fun h => by
  by_cases hn : N < 0
  · exact expandN_body0 kn knm key m mm info N cap0 cap1 h0 h1 h2 h3 (h.caps 0 _ _ _ _ rfl) (h.caps 1 _ _ _ _ rfl) (h.lens 0 _ .u8 knm key rfl (by simp)) (h.lens 1 _ .u8 mm info rfl (by simp)) hn w rw β
  by_cases hm : 16320 < N
  · exact expandM_body0 kn knm key m mm info N cap0 cap1 h0 h1 h2 h3 (h.caps 0 _ _ _ _ rfl) (h.caps 1 _ _ _ _ rfl) (h.lens 0 _ .u8 knm key rfl (by simp)) (h.lens 1 _ .u8 mm info rfl (by simp)) hm w rw β
  exact expandZ_body0 kn knm key m mm info N cap0 cap1 h0 h1 h2 h3 (h.caps 0 _ _ _ _ rfl) (h.caps 1 _ _ _ _ rfl) (h.lens 0 _ .u8 knm key rfl (by simp)) (h.lens 1 _ .u8 mm info rfl (by simp)) (by omega) (by omega) w rw β

end Go.Proofs.Ytlmdhjojinkdbaa.X

/- What the law Begins asks of bytes. -/
namespace Go.Proofs.Ytlmdhjojinkdbaa.X
open Go Go.Proofs
set_option linter.unusedVariables false
set_option maxRecDepth 100000

def zk (key : List Int) (k : Nat) : List Int := key ++ List.replicate k 0
theorem zk_len (key : List Int) (k : Nat) : (zk key k).length = key.length + k := by unfold zk; simp
theorem zk_zero (key : List Int) : zk key 0 = key := List.append_nil _
theorem zk_step {key : List Int} {n m k : Nat} (hl : key.length = n) (hm : m = n + k) : sub (zk key k) 0 m ++ [0] = zk key (k + 1) := by
  rw [sub_all _ _ (by rw [zk_len]; omega)]
  unfold zk
  rw [List.append_assoc, ← List.replicate_succ']
theorem copy_zk {key : List Int} {n : Nat} (hl : key.length = n) : copyB n (sub key 0 n) = zk key 0 := by
  show sub (sub key 0 n) 0 n = _
  rw [sub_all key n (by omega), sub_all key n (by omega), zk_zero]
theorem padK_eq {k : List Int} (h : k.length ≤ 128) : padK k = k ++ List.replicate (128 - k.length) 0 := by
  unfold padK
  rw [Nat.min_eq_left h, sub_all _ _ (Nat.le_refl _), splice_zero, List.drop_replicate]
theorem pk_zk {key : List Int} {n k : Nat} (hl : key.length = n) (h : n + k ≤ 128) : pk (zk key k) = pk key := by
  have h1 : (zk key k).length ≤ 128 := by rw [zk_len]; omega
  unfold pk keyK
  rw [if_pos h1, if_pos (by omega : key.length ≤ 128), padK_eq h1, padK_eq (by omega), zk_len]
  unfold zk
  rw [List.append_assoc, List.replicate_append_replicate]
  congr 2; omega
theorem begin_eq {w : World} {L : List Value} {key : List Int} {n l R : Nat} (hl : key.length = n) (h : n + R ≤ 128) :
    decide (macD (sub key 0 n) (sub (catV w L l) 0 (catV w L l).length ++ []) = macD (sub (zk key R) 0 (n + R)) (sub (catV w L l) 0 (catV w L l).length ++ [])) = true := by
  refine decide_eq_true ?_
  rw [sub_all key n (by omega), sub_all _ (n + R) (by rw [zk_len]; omega)]
  unfold macD
  rw [pk_zk hl h]
theorem mac_same {w : World} {L : List Value} {key : List Int} {l : Nat} : decide (macD key (catV w L l ++ []) = macD key (sub (catV w L l) 0 (catV w L l).length ++ [])) = true := by
  refine decide_eq_true ?_
  rw [sub_all _ _ (Nat.le_refl _)]
theorem catV_app {w : World} {L : List Value} {n k : Nat} (h : PartsOk w L n) (hk : k < n) :
    (sub (catV w L k) 0 (catV w L k).length) ++ (sub (contV w (L.getD k undef)) 0 (lenV (L.getD k undef))) = catV w L (k + 1) := by
  rw [sub_all _ _ (Nat.le_refl _), sub_all _ _ (Nat.le_of_eq (h.len hk))]; rfl
theorem catV_len {w : World} {L : List Value} {n k : Nat} (h : PartsOk w L n) (hk : k < n) : (catV w L (k + 1)).length = (catV w L k).length + lenV (L.getD k undef) := by
  show (catV w L k ++ _).length = _
  rw [List.length_append, h.len hk]
end Go.Proofs.Ytlmdhjojinkdbaa.X

