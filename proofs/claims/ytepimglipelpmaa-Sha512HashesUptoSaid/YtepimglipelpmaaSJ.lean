/- Printed by a tool of this session. -/
import Derived.Test.YtepimglipelpmaaSI
import Derived.KernelRfl
namespace Go.Proofs.Ytepimglipelpmaa.X
open Go Go.Proofs
set_option linter.unusedVariables false
set_option maxRecDepth 100000
theorem teSJ_5 : TEOk Try.prog 5 ⟨.int .u8, 1, 1, [.i .u8 (0 : Int)], false⟩ :=
  TEOk.of Try.underlying5 (i := Try.t5) (by kernel_rfl) rfl rfl rfl (by kernel_rfl) (fun h => by cases h) (by kernel_rfl)
theorem teSJ_22 : TEOk Try.prog 22 ⟨.slice 5, 1, 24, [.raw (.slice none 0 0)], false⟩ :=
  TEOk.of Try.underlying22 (i := Try.t22) (by kernel_rfl) rfl rfl rfl (by kernel_rfl) (fun h => by cases h) (by kernel_rfl)
theorem teSJ_23 : TEOk Try.prog 23 ⟨.slice 22, 1, 24, [.raw (.slice none 0 0)], false⟩ :=
  TEOk.of Try.underlying23 (i := Try.t23) (by kernel_rfl) rfl rfl rfl (by kernel_rfl) (fun h => by cases h) (by kernel_rfl)
theorem teSJ_42 : TEOk Try.prog 42 ⟨.array 64 5, 64, 64, [.ints .u8 (64 : Nat) ([0, 0, 0, 0, 0, 0, 0, 0, 0, 0, 0, 0, 0, 0, 0, 0, 0, 0, 0, 0, 0, 0, 0, 0, 0, 0, 0, 0, 0, 0, 0, 0, 0, 0, 0, 0, 0, 0, 0, 0, 0, 0, 0, 0, 0, 0, 0, 0, 0, 0, 0, 0, 0, 0, 0, 0, 0, 0, 0, 0, 0, 0, 0, 0] : List Int)], true⟩ :=
  TEOk.of Try.underlying42 (i := Try.t42) (by kernel_rfl) rfl rfl rfl (by kernel_rfl) (fun _ => Try.eqGuardType42) (by kernel_rfl)
theorem teSJ_52 : TEOk Try.prog 52 ⟨.int .u64, 1, 8, [.i .u64 (0 : Int)], false⟩ :=
  TEOk.of Try.underlying52 (i := Try.t52) (by kernel_rfl) rfl rfl rfl (by kernel_rfl) (fun h => by cases h) (by kernel_rfl)
theorem teSJ_53 : TEOk Try.prog 53 ⟨.array 8 52, 8, 64, [.ints .u64 (8 : Nat) ([0, 0, 0, 0, 0, 0, 0, 0] : List Int)], true⟩ :=
  TEOk.of Try.underlying53 (i := Try.t53) (by kernel_rfl) rfl rfl rfl (by kernel_rfl) (fun _ => Try.eqGuardType53) (by kernel_rfl)
theorem teSJ_65 : TEOk Try.prog 65 ⟨.array 80 52, 80, 640, [.ints .u64 (80 : Nat) (List.replicate (80 : Nat) (0 : Int))], true⟩ :=
  TEOk.of Try.underlying65 (i := Try.t65) (by kernel_rfl) rfl rfl rfl (by kernel_rfl) (fun _ => Try.eqGuardType65) (by kernel_rfl)
theorem teSJ_69 : TEOk Try.prog 69 ⟨Try.t68.desc, 10, 96, [.ints .u64 (8 : Nat) ([0, 0, 0, 0, 0, 0, 0, 0] : List Int), .raw (.slice none 0 0), .i .u64 (0 : Int)], false⟩ :=
  TEOk.of Try.underlying69 (i := Try.t69) (by kernel_rfl) rfl rfl rfl (by kernel_rfl) (fun h => by cases h) (by kernel_rfl)
theorem teSJ_102 : TEOk Try.prog 102 ⟨Try.t101.desc, 11, 104, [.ints .u64 (8 : Nat) ([0, 0, 0, 0, 0, 0, 0, 0] : List Int), .raw (.slice none 0 0), .i .u64 (0 : Int), .raw (.pointer none)], false⟩ :=
  TEOk.of Try.underlying102 (i := Try.t102) (by kernel_rfl) rfl rfl rfl (by kernel_rfl) (fun h => by cases h) (by kernel_rfl)
noncomputable def tabSJ : List (Nat × TE) := [(5, ⟨.int .u8, 1, 1, [.i .u8 (0 : Int)], false⟩), (22, ⟨.slice 5, 1, 24, [.raw (.slice none 0 0)], false⟩), (23, ⟨.slice 22, 1, 24, [.raw (.slice none 0 0)], false⟩), (42, ⟨.array 64 5, 64, 64, [.ints .u8 (64 : Nat) ([0, 0, 0, 0, 0, 0, 0, 0, 0, 0, 0, 0, 0, 0, 0, 0, 0, 0, 0, 0, 0, 0, 0, 0, 0, 0, 0, 0, 0, 0, 0, 0, 0, 0, 0, 0, 0, 0, 0, 0, 0, 0, 0, 0, 0, 0, 0, 0, 0, 0, 0, 0, 0, 0, 0, 0, 0, 0, 0, 0, 0, 0, 0, 0] : List Int)], true⟩), (52, ⟨.int .u64, 1, 8, [.i .u64 (0 : Int)], false⟩), (53, ⟨.array 8 52, 8, 64, [.ints .u64 (8 : Nat) ([0, 0, 0, 0, 0, 0, 0, 0] : List Int)], true⟩), (65, ⟨.array 80 52, 80, 640, [.ints .u64 (80 : Nat) (List.replicate (80 : Nat) (0 : Int))], true⟩), (69, ⟨Try.t68.desc, 10, 96, [.ints .u64 (8 : Nat) ([0, 0, 0, 0, 0, 0, 0, 0] : List Int), .raw (.slice none 0 0), .i .u64 (0 : Int)], false⟩), (102, ⟨Try.t101.desc, 11, 104, [.ints .u64 (8 : Nat) ([0, 0, 0, 0, 0, 0, 0, 0] : List Int), .raw (.slice none 0 0), .i .u64 (0 : Int), .raw (.pointer none)], false⟩)]
theorem tabOkSJ : TabOk Try.prog (tabOf tabSJ) := (tabOf_cons teSJ_5 (tabOf_cons teSJ_22 (tabOf_cons teSJ_23 (tabOf_cons teSJ_42 (tabOf_cons teSJ_52 (tabOf_cons teSJ_53 (tabOf_cons teSJ_65 (tabOf_cons teSJ_69 (tabOf_cons teSJ_102 tabOf_nil)))))))))

def state (tl : Nat) (L : List Int) : List Int :=
  (sub L (0 : Nat) tl)

set_option maxHeartbeats 1000000 in
theorem state_body0 (S : List Int) (tl : Nat) (N : Int) (L : List Int) (C : List Int) (h0 : (tl < (128 : Nat))) (hl0_0 : List.length S = (8 : Nat)) (hl1_0 : List.length L = tl) (hl2_0 : List.length C = (80 : Nat)) (w : World) (rw : List Nat) (β : Env) : Body Try.prog (tabOf tabSJ) Try.f30 ⟨w, rw, 3, β⟩ [.o (.a (.p 0 0))] [some ⟨false, [.ints .u64 (8 : Nat) S, .rs 1 (0 : Nat) tl 1, .i .u64 N, .p 2 0]⟩, some ⟨false, [.ints .u8 tl L]⟩, some ⟨false, [.ints .u64 (80 : Nat) C]⟩] (fun ys K' => ys = [.g [.ints .u64 (8 : Nat) S, .rs 3 (0 : Nat) tl 1, .i .u64 N]] ∧ K' = [some ⟨false, [.ints .u64 (8 : Nat) S, .rs 1 (0 : Nat) tl 1, .i .u64 N, .p 2 0]⟩, some ⟨false, [.ints .u8 tl L]⟩, some ⟨false, [.ints .u64 (80 : Nat) C]⟩, some ⟨true, [.ints .u8 tl (state tl L)]⟩]) :=
  Body.of_finK (Γ := gam14) (Λ := noLam) (Ψ := noPsi) (fuel := 0) (m := 21) (c := (Try.f30.body.getD .skip)) mix tabOkSJ gam14_ok rfl (rs := [.cell 2 69]) rfl rfl [false, false] [.swap 3 4] 4
    (vc := [(((tl ≤ tl) ∧ (((0 : Nat) + tl) ≤ tl)) ∧ ((tl * (1 : Nat)) ≤ (140737488355328 : Nat))), (false = false), ((True ∧ True) ∧ (tl = tl))]) (by kernel_rfl)
    (AllP_cons ⟨⟨(by first | omega | (simp (disch := omega) only [wrapI]; omega)), (by first | omega | (simp (disch := omega) only [wrapI]; omega))⟩, (by first | omega | (simp (disch := omega) only [wrapI]; omega))⟩ (AllP_cons rfl (AllP_cons ⟨⟨trivial, trivial⟩, rfl⟩ (AllP_nil))))

theorem state_body (S : List Int) (tl : Nat) (N : Int) (L : List Int) (C : List Int) (h0 : (tl < (128 : Nat))) (w : World) (rw : List Nat) (β : Env) : Body Try.prog (tabOf tabSJ) Try.f30 ⟨w, rw, 3, β⟩ [.o (.a (.p 0 0))] [some ⟨false, [.ints .u64 (8 : Nat) S, .rs 1 (0 : Nat) tl 1, .i .u64 N, .p 2 0]⟩, some ⟨false, [.ints .u8 tl L]⟩, some ⟨false, [.ints .u64 (80 : Nat) C]⟩] (fun ys K' => ys = [.g [.ints .u64 (8 : Nat) S, .rs 3 (0 : Nat) tl 1, .i .u64 N]] ∧ K' = [some ⟨false, [.ints .u64 (8 : Nat) S, .rs 1 (0 : Nat) tl 1, .i .u64 N, .p 2 0]⟩, some ⟨false, [.ints .u8 tl L]⟩, some ⟨false, [.ints .u64 (80 : Nat) C]⟩, some ⟨true, [.ints .u8 tl (state tl L)]⟩]) :=
  Body.lens (c := (Try.f30.body.getD .skip)) rfl fun h => state_body0 S tl N L C h0 (h.lens 0 _ .u64 (8 : Nat) S rfl (by simp)) (h.lens 1 _ .u8 tl L rfl (by simp)) (h.lens 2 _ .u64 (80 : Nat) C rfl (by simp)) w rw β

def gam15 : Gam := gcall 30 [false, false, false] [.w] (fun wk vs args => match wk, vs, args with | [⟨false, [.ints .u64 (8 : Nat) S, .rs 1 (0 : Nat) tl 1, .i .u64 N, .p 2 0]⟩, ⟨false, [.ints .u8 tl_1 L]⟩, ⟨false, [.ints .u64 (80 : Nat) C]⟩], [], [.o (.a (.p 0 0))] => some ((tl_1 = tl) ∧ (tl < (128 : Nat)), [.g [.ints .u64 (8 : Nat) S, .rs 3 (0 : Nat) tl 1, .i .u64 N]], [some ⟨false, [.ints .u64 (8 : Nat) S, .rs 1 (0 : Nat) tl 1, .i .u64 N, .p 2 0]⟩, some ⟨false, [.ints .u8 tl L]⟩, some ⟨false, [.ints .u64 (80 : Nat) C]⟩, some ⟨true, [.ints .u8 tl (state tl L)]⟩]) | _, _, _ => none) gam14
theorem gam15_ok : GamOk Try.prog gam15 := gcall_ok tabOkSJ Try.func30 gam14_ok Try.call30 (by
  intro wk vs args p xs K1 h hv
  split at h
  · simp only [Option.some.injEq, Prod.mk.injEq] at h; obtain ⟨rfl, rfl, rfl⟩ := h; obtain ⟨g0, g1⟩ := hv; subst g0; exact fun caps w rw β => state_body _ _ _ _ _ g1 w rw β
  · simp at h)

set_option maxHeartbeats 1000000 in
theorem hlen_body0 (S : List Int) (tl : Nat) (N : Int) (L : List Int) (C : List Int) (hl0_0 : List.length S = (8 : Nat)) (hl1_0 : List.length L = tl) (hl2_0 : List.length C = (80 : Nat)) (w : World) (rw : List Nat) (β : Env) : Body Try.prog (tabOf tabSJ) Try.f36 ⟨w, rw, 3, β⟩ [.o (.a (.p 0 0))] [some ⟨false, [.ints .u64 (8 : Nat) S, .rs 1 (0 : Nat) tl 1, .i .u64 N, .p 2 0]⟩, some ⟨false, [.ints .u8 tl L]⟩, some ⟨false, [.ints .u64 (80 : Nat) C]⟩] (fun ys K' => ys = [.a (.i .u64 N)] ∧ K' = [some ⟨false, [.ints .u64 (8 : Nat) S, .rs 1 (0 : Nat) tl 1, .i .u64 N, .p 2 0]⟩, some ⟨false, [.ints .u8 tl L]⟩, some ⟨false, [.ints .u64 (80 : Nat) C]⟩]) :=
  Body.of_finK (Γ := gam15) (Λ := noLam) (Ψ := noPsi) (fuel := 0) (m := 10) (c := (Try.f36.body.getD .skip)) mix tabOkSJ gam15_ok rfl (rs := [.tmp 2]) rfl rfl [false] [] 3
    (vc := [(false = false), ((True ∧ True) ∧ (tl = tl))]) (by kernel_rfl)
    (AllP_cons rfl (AllP_cons ⟨⟨trivial, trivial⟩, rfl⟩ (AllP_nil)))

theorem hlen_body (S : List Int) (tl : Nat) (N : Int) (L : List Int) (C : List Int) (w : World) (rw : List Nat) (β : Env) : Body Try.prog (tabOf tabSJ) Try.f36 ⟨w, rw, 3, β⟩ [.o (.a (.p 0 0))] [some ⟨false, [.ints .u64 (8 : Nat) S, .rs 1 (0 : Nat) tl 1, .i .u64 N, .p 2 0]⟩, some ⟨false, [.ints .u8 tl L]⟩, some ⟨false, [.ints .u64 (80 : Nat) C]⟩] (fun ys K' => ys = [.a (.i .u64 N)] ∧ K' = [some ⟨false, [.ints .u64 (8 : Nat) S, .rs 1 (0 : Nat) tl 1, .i .u64 N, .p 2 0]⟩, some ⟨false, [.ints .u8 tl L]⟩, some ⟨false, [.ints .u64 (80 : Nat) C]⟩]) :=
  Body.lens (c := (Try.f36.body.getD .skip)) rfl fun h => hlen_body0 S tl N L C (h.lens 0 _ .u64 (8 : Nat) S rfl (by simp)) (h.lens 1 _ .u8 tl L rfl (by simp)) (h.lens 2 _ .u64 (80 : Nat) C rfl (by simp)) w rw β

def gam16 : Gam := gcall 36 [false, false, false] [.w] (fun wk vs args => match wk, vs, args with | [⟨false, [.ints .u64 (8 : Nat) S, .rs 1 (0 : Nat) tl 1, .i .u64 N, .p 2 0]⟩, ⟨false, [.ints .u8 tl_1 L]⟩, ⟨false, [.ints .u64 (80 : Nat) C]⟩], [], [.o (.a (.p 0 0))] => some ((tl_1 = tl), [.a (.i .u64 N)], [some ⟨false, [.ints .u64 (8 : Nat) S, .rs 1 (0 : Nat) tl 1, .i .u64 N, .p 2 0]⟩, some ⟨false, [.ints .u8 tl L]⟩, some ⟨false, [.ints .u64 (80 : Nat) C]⟩]) | _, _, _ => none) gam15
theorem gam16_ok : GamOk Try.prog gam16 := gcall_ok tabOkSJ Try.func36 gam15_ok Try.call36 (by
  intro wk vs args p xs K1 h hv
  split at h
  · simp only [Option.some.injEq, Prod.mk.injEq] at h; obtain ⟨rfl, rfl, rfl⟩ := h; have g0 := hv; subst g0; exact fun caps w rw β => hlen_body _ _ _ _ _ w rw β
  · simp at h)

set_option maxHeartbeats 1000000 in
theorem num_body0 (x : Int) (w : World) : Body Try.prog (tabOf tabSJ) Try.f23 ⟨w, [], 0, noEnv⟩ (toA [.a (.i .i64 x)]) [] (fun ys _ => ys = [.a (.i .i64 x)]) :=
  Body.of_fin (Γ := gam16) (Λ := noLam) (Ψ := noPsi) (fuel := 0) (m := 4) (c := (Try.f23.body.getD .skip)) mix tabOkSJ gam16_ok rfl (rs := [.tmp 2]) rfl rfl [] []
    (vc := []) (by kernel_rfl)
    (AllP_nil)

theorem num_body (x : Int) (w : World) : Body Try.prog (tabOf tabSJ) Try.f23 ⟨w, [], 0, noEnv⟩ (toA [.a (.i .i64 x)]) [] (fun ys _ => ys = [.a (.i .i64 x)]) :=
  Body.lens (c := (Try.f23.body.getD .skip)) rfl fun h => num_body0 x  w

theorem num_pure (x : Int) : PureC Try.prog 23 [.a (.i .i64 x)] [.a (.i .i64 x)] :=
  PureC.of_body tabOkSJ Try.func23 rfl rfl fun w => num_body x w

def gam17 : Gam := gpure 23 (fun args => match args with | [.o (.a (.i .i64 x))] => some (none, [.a (.i .i64 x)]) | _ => none) gam16
theorem gam17_ok : GamOk Try.prog gam17 := gpure_ok gam16_ok Try.call23 (by
  intro args vc xs h hv
  split at h
  · simp only [Option.some.injEq, Prod.mk.injEq] at h; obtain ⟨rfl, rfl⟩ := h; exact ⟨_, by rfl, num_pure _⟩
  · simp at h)

set_option maxHeartbeats 1000000 in
theorem padX_body0 (n : Int) (h0 : ((0 : Int) ≤ n)) (h1 : (n < (2305843009213693952 : Int))) (w : World) (rw : List Nat) (β : Env) : Body Try.prog (tabOf tabSJ) Try.f21 ⟨w, rw, 0, β⟩ [.o (.a (.i .u64 n))] [] (fun ys K' => ys = [.a (.sl 0 (0 : Nat) (pad n) (256 : Nat)), .a (.i .i64 (0 : Int))] ∧ K' = [some ⟨true, [.ints .u8 (256 : Nat) (pad_1 n)]⟩]) :=
  Body.of_finK (Γ := gam17) (Λ := noLam) (Ψ := noPsi) (fuel := 0) (m := 9) (c := (Try.f21.body.getD .skip)) mix tabOkSJ gam17_ok rfl (rs := [.tmp 2, .tmp 3]) rfl rfl [false] [] 1
    (vc := [((True ∧ True) ∧ True), ((decide ((shr .u64 n (61 : Int)) > (0 : Int))) = false), ((0 : Int) ≤ (61 : Int))]) (by kernel_rfl)
    (AllP_cons ⟨⟨trivial, trivial⟩, trivial⟩ (AllP_cons (decide_eq_false (by have := shr61 h0 h1; omega)) (AllP_cons (by decide) (AllP_nil))))

theorem padX_body (n : Int) (h0 : ((0 : Int) ≤ n)) (h1 : (n < (2305843009213693952 : Int))) (w : World) (rw : List Nat) (β : Env) : Body Try.prog (tabOf tabSJ) Try.f21 ⟨w, rw, 0, β⟩ [.o (.a (.i .u64 n))] [] (fun ys K' => ys = [.a (.sl 0 (0 : Nat) (pad n) (256 : Nat)), .a (.i .i64 (0 : Int))] ∧ K' = [some ⟨true, [.ints .u8 (256 : Nat) (pad_1 n)]⟩]) :=
  Body.lens (c := (Try.f21.body.getD .skip)) rfl fun h => padX_body0 n h0 h1  w rw β

def gam18 : Gam := gcall 21 [] [.w] (fun wk vs args => match wk, vs, args with | [], [], [.o (.a (.i .u64 n))] => some (((0 : Int) ≤ n) ∧ (n < (2305843009213693952 : Int)), [.a (.sl 0 (0 : Nat) (pad n) (256 : Nat)), .a (.i .i64 (0 : Int))], [some ⟨true, [.ints .u8 (256 : Nat) (pad_1 n)]⟩]) | _, _, _ => none) gam17
theorem gam18_ok : GamOk Try.prog gam18 := gcall_ok tabOkSJ Try.func21 gam17_ok Try.call21 (by
  intro wk vs args p xs K1 h hv
  split at h
  · simp only [Option.some.injEq, Prod.mk.injEq] at h; obtain ⟨rfl, rfl, rfl⟩ := h; obtain ⟨g0, g1⟩ := hv; exact fun caps w rw β => padX_body _ g0 g1 w rw β
  · simp at h)

def compress (S : List Int) (n : Nat) (b : List Int) : List Int :=
  (blk S (sub b (0 : Nat) n) (konst))

set_option maxHeartbeats 1000000 in
theorem compress_body0 (S : List Int) (n : Nat) (nm : Nat) (b : List Int) (cap0 : Nat) (h0 : (nm = n)) (h1 : (n = (128 : Nat))) (hc0 : n ≤ cap0) (hl0_0 : List.length b = nm) (hv0 : List.length S = (8 : Nat)) (w : World) (β : Env) : Body Try.prog (tabOf tabSJ) Try.f19 ⟨w, [], 1, β⟩ [.o (.g [.ints .u64 (8 : Nat) S]), .o (.a (.sl 0 (0 : Nat) n cap0))] [some ⟨false, [.ints .u8 nm b]⟩] (fun ys _ => ys = [.g [.ints .u64 (8 : Nat) (compress S n b)], .a (.i .i64 (0 : Int))]) :=
  Body.of_fin (Γ := gam18) (Λ := noLam) (Ψ := noPsi) (fuel := 0) (m := 15) (c := (Try.f19.body.getD .skip)) mix tabOkSJ gam18_ok rfl (rs := [.cell 4 53, .tmp 5]) rfl rfl [false] []
    (vc := [((True ∧ ((((0 : Nat) + n) ≤ nm) ∧ (True ∧ True))) ∧ ((n = n) ∧ (n = (128 : Nat)))), ((((n : Nat) : Int) != (128 : Int)) = false)]) (by kernel_rfl)
    (AllP_cons ⟨⟨trivial, ⟨(by first | omega | (simp (disch := omega) only [wrapI]; omega)), ⟨trivial, trivial⟩⟩⟩, ⟨rfl, h1⟩⟩ (AllP_cons (bne_eq_false_iff_eq.2 (by first | omega | (simp (disch := omega) only [wrapI]; omega))) (AllP_nil)))

theorem compress_body (S : List Int) (n : Nat) (nm : Nat) (b : List Int) (cap0 : Nat) (h0 : (nm = n)) (h1 : (n = (128 : Nat))) (w : World) (β : Env) : Body Try.prog (tabOf tabSJ) Try.f19 ⟨w, [], 1, β⟩ [.o (.g [.ints .u64 (8 : Nat) S]), .o (.a (.sl 0 (0 : Nat) n cap0))] [some ⟨false, [.ints .u8 nm b]⟩] (fun ys _ => ys = [.g [.ints .u64 (8 : Nat) (compress S n b)], .a (.i .i64 (0 : Int))]) :=
  Body.lens (c := (Try.f19.body.getD .skip)) rfl fun h => compress_body0 S n nm b cap0 h0 h1 (h.caps 1 _ _ _ _ rfl) (h.lens 0 _ .u8 nm b rfl (by simp)) (h.vals 0 _ _ _ rfl) w β

def gam19 : Gam := greadV 19 [.v, .s 1] (fun vs args => match vs, args with | [⟨_, _, _, [.ints .u8 nm b]⟩], [.o (.g [.ints .u64 (8 : Nat) S]), a0] => some ((nm = (lenOfA a0)) ∧ ((lenOfA a0) = (128 : Nat)), [.g [.ints .u64 (8 : Nat) (compress S (lenOfA a0) b)], .a (.i .i64 (0 : Int))]) | _, _ => none) gam18
theorem gam19_ok : GamOk Try.prog gam19 := greadV_ok tabOkSJ Try.func19 gam18_ok Try.call19 (by
  intro vs args p xs h hv
  split at h
  · simp only [Option.some.injEq, Prod.mk.injEq] at h; obtain ⟨rfl, rfl⟩ := h; exact ⟨by rfl, fun caps w β => compress_body _ _ _ _ _ hv.1 hv.2 w β⟩
  · simp at h)

def compressR (S : List Int) (n : Nat) (b : List Int) : List Int :=
  (blkR S (sub b (0 : Nat) n))

set_option maxHeartbeats 1000000 in
theorem compressR_body0 (S : List Int) (n : Nat) (nm : Nat) (b : List Int) (cap0 : Nat) (h0 : (nm = n)) (h1 : (n = (128 : Nat))) (hc0 : n ≤ cap0) (hl0_0 : List.length b = nm) (hv0 : List.length S = (8 : Nat)) (w : World) (β : Env) : Body Try.prog (tabOf tabSJ) Try.f20 ⟨w, [], 1, β⟩ [.o (.g [.ints .u64 (8 : Nat) S]), .o (.a (.sl 0 (0 : Nat) n cap0))] [some ⟨false, [.ints .u8 nm b]⟩] (fun ys _ => ys = [.g [.ints .u64 (8 : Nat) (compressR S n b)], .a (.i .i64 (0 : Int))]) :=
  Body.of_fin (Γ := gam19) (Λ := noLam) (Ψ := noPsi) (fuel := 0) (m := 13) (c := (Try.f20.body.getD .skip)) mix tabOkSJ gam19_ok rfl (rs := [.cell 4 53, .tmp 5]) rfl rfl [false] []
    (vc := [((True ∧ ((((0 : Nat) + n) ≤ nm) ∧ True)) ∧ ((n = n) ∧ (n = (128 : Nat)))), ((((n : Nat) : Int) != (128 : Int)) = false)]) (by kernel_rfl)
    (AllP_cons ⟨⟨trivial, ⟨(by first | omega | (simp (disch := omega) only [wrapI]; omega)), trivial⟩⟩, ⟨rfl, h1⟩⟩ (AllP_cons (bne_eq_false_iff_eq.2 (by first | omega | (simp (disch := omega) only [wrapI]; omega))) (AllP_nil)))

theorem compressR_body (S : List Int) (n : Nat) (nm : Nat) (b : List Int) (cap0 : Nat) (h0 : (nm = n)) (h1 : (n = (128 : Nat))) (w : World) (β : Env) : Body Try.prog (tabOf tabSJ) Try.f20 ⟨w, [], 1, β⟩ [.o (.g [.ints .u64 (8 : Nat) S]), .o (.a (.sl 0 (0 : Nat) n cap0))] [some ⟨false, [.ints .u8 nm b]⟩] (fun ys _ => ys = [.g [.ints .u64 (8 : Nat) (compressR S n b)], .a (.i .i64 (0 : Int))]) :=
  Body.lens (c := (Try.f20.body.getD .skip)) rfl fun h => compressR_body0 S n nm b cap0 h0 h1 (h.caps 1 _ _ _ _ rfl) (h.lens 0 _ .u8 nm b rfl (by simp)) (h.vals 0 _ _ _ rfl) w β

def gam20 : Gam := greadV 20 [.v, .s 1] (fun vs args => match vs, args with | [⟨_, _, _, [.ints .u8 nm b]⟩], [.o (.g [.ints .u64 (8 : Nat) S]), a0] => some ((nm = (lenOfA a0)) ∧ ((lenOfA a0) = (128 : Nat)), [.g [.ints .u64 (8 : Nat) (compressR S (lenOfA a0) b)], .a (.i .i64 (0 : Int))]) | _, _ => none) gam19
theorem gam20_ok : GamOk Try.prog gam20 := greadV_ok tabOkSJ Try.func20 gam19_ok Try.call20 (by
  intro vs args p xs h hv
  split at h
  · simp only [Option.some.injEq, Prod.mk.injEq] at h; obtain ⟨rfl, rfl⟩ := h; exact ⟨by rfl, fun caps w β => compressR_body _ _ _ _ _ hv.1 hv.2 w β⟩
  · simp at h)

def join1 (n : Nat) (b : List Int) : List Int :=
  (hsum (wrS (konst) ([7640891576956012808, 13503953896175478587, 4354685564936845355, 11912009170470909681, 5840696475078001361, 11170449401992604703, 2270897969802886507, 6620516959819538809] : List Int) ([] : List Int) (sub b (0 : Nat) n) (0 : Nat) n) (wrT (0 : Nat) n) (wrN (0 : Int) n) (wrL ([] : List Int) (sub b (0 : Nat) n) (0 : Nat) n) (konst))

set_option maxHeartbeats 1000000 in
theorem join1_body0 (n : Nat) (cp : Nat) (b : List Int) (h0 : (n < (140737488355328 : Nat))) (hl1_0 : List.length b = n) (w : World) (rw : List Nat) (β : Env) : Body Try.prog (tabOf tabSJ) Try.f13 ⟨w, rw, 2, β⟩ [.o (.a (.sl 0 (0 : Nat) (1 : Nat) (1 : Nat)))] [some ⟨false, [.sl 1 (0 : Nat) n cp]⟩, some ⟨false, [.ints .u8 n b]⟩] (fun ys K' => ys = [.g [.ints .u8 (64 : Nat) (join1 n b)]] ∧ K' = [some ⟨false, [.sl 1 (0 : Nat) n cp]⟩, some ⟨false, [.ints .u8 n b]⟩]) :=
  Body.of_finK (Γ := gam20) (Λ := noLam) (Ψ := noPsi) (fuel := 2) (m := 19) (c := (Try.f13.body.getD .skip)) mix tabOkSJ gam20_ok rfl (rs := [.cell 2 42]) rfl rfl [true, false] [] 2
    (vc := [((True ∧ True) ∧ (((wrT (0 : Nat) n) = (wrT (0 : Nat) n)) ∧ ((0 : Int) ≤ (wrN (0 : Int) n)) ∧ ((Int.tmod (wrN (0 : Int) n) (128 : Int)) = (((wrT (0 : Nat) n) : Nat) : Int)))), (false = false), ((True ∧ ((((0 : Nat) + n) ≤ n) ∧ True)) ∧ (((0 : Nat) = (0 : Nat)) ∧ (n = n) ∧ ((0 : Nat) < (128 : Nat)) ∧ (n < (140737488355328 : Nat)))), (((0 : Int) ≤ (0 : Int)) ∧ ((0 : Int) < (1 : Int))), (true = true), (True ∧ True)]) (by kernel_rfl)
    (AllP_cons ⟨⟨trivial, trivial⟩, ⟨rfl, (by have hj := wr_inv0 h0; first | omega | exact hj.1 | exact hj.2.1 | (simp (disch := omega) only [wrapI]; omega)), (by have hj := wr_inv0 h0; first | omega | exact hj.1 | exact hj.2.1 | (simp (disch := omega) only [wrapI]; omega))⟩⟩ (AllP_cons rfl (AllP_cons ⟨⟨trivial, ⟨(by have hj := wr_inv0 h0; first | omega | exact hj.1 | exact hj.2.1 | (simp (disch := omega) only [wrapI]; omega)), trivial⟩⟩, ⟨rfl, rfl, (by decide), h0⟩⟩ (AllP_cons ⟨(by decide), (by decide)⟩ (AllP_cons rfl (AllP_cons ⟨trivial, trivial⟩ (AllP_nil)))))))

theorem join1_body (n : Nat) (cp : Nat) (b : List Int) (h0 : (n < (140737488355328 : Nat))) (w : World) (rw : List Nat) (β : Env) : Body Try.prog (tabOf tabSJ) Try.f13 ⟨w, rw, 2, β⟩ [.o (.a (.sl 0 (0 : Nat) (1 : Nat) (1 : Nat)))] [some ⟨false, [.sl 1 (0 : Nat) n cp]⟩, some ⟨false, [.ints .u8 n b]⟩] (fun ys K' => ys = [.g [.ints .u8 (64 : Nat) (join1 n b)]] ∧ K' = [some ⟨false, [.sl 1 (0 : Nat) n cp]⟩, some ⟨false, [.ints .u8 n b]⟩]) :=
  Body.lens (c := (Try.f13.body.getD .skip)) rfl fun h => join1_body0 n cp b h0 (h.lens 1 _ .u8 n b rfl (by simp)) w rw β

def gam21 : Gam := gcall 13 [false, false] [.w] (fun wk vs args => match wk, vs, args with | [⟨false, [.sl 1 (0 : Nat) n cp]⟩, ⟨false, [.ints .u8 n_1 b]⟩], [], [.o (.a (.sl 0 (0 : Nat) (1 : Nat) (1 : Nat)))] => some ((n_1 = n) ∧ (n < (140737488355328 : Nat)), [.g [.ints .u8 (64 : Nat) (join1 n b)]], [some ⟨false, [.sl 1 (0 : Nat) n cp]⟩, some ⟨false, [.ints .u8 n b]⟩]) | _, _, _ => none) gam20
theorem gam21_ok : GamOk Try.prog gam21 := gcall_ok tabOkSJ Try.func13 gam20_ok Try.call13 (by
  intro wk vs args p xs K1 h hv
  split at h
  · simp only [Option.some.injEq, Prod.mk.injEq] at h; obtain ⟨rfl, rfl, rfl⟩ := h; obtain ⟨g0, g1⟩ := hv; subst g0; exact fun caps w rw β => join1_body _ _ _ g1 w rw β
  · simp at h)

set_option maxHeartbeats 1000000 in
theorem sum_body0 (n : Nat) (nm : Nat) (b : List Int) (cap0 : Nat) (h0 : (nm = n)) (h1 : (n < (140737488355328 : Nat))) (hc0 : n ≤ cap0) (hl0_0 : List.length b = nm) (w : World) (β : Env) : Body Try.prog (tabOf tabSJ) Try.f11 ⟨w, [], 1, β⟩ [.o (.a (.sl 0 (0 : Nat) n cap0))] [some ⟨false, [.ints .u8 nm b]⟩] (fun ys _ => ys = [.g [.ints .u8 (64 : Nat) (join1 n b)]]) :=
  Body.of_fin (Γ := gam21) (Λ := noLam) (Ψ := noPsi) (fuel := 0) (m := 6) (c := (Try.f11.body.getD .skip)) mix tabOkSJ gam21_ok rfl (rs := [.cell 2 42]) rfl rfl [] []
    (vc := [((True ∧ True) ∧ ((nm = n) ∧ (n < (140737488355328 : Nat))))]) (by kernel_rfl)
    (AllP_cons ⟨⟨trivial, trivial⟩, ⟨h0, h1⟩⟩ (AllP_nil))

theorem sum_body (n : Nat) (nm : Nat) (b : List Int) (cap0 : Nat) (h0 : (nm = n)) (h1 : (n < (140737488355328 : Nat))) (w : World) (β : Env) : Body Try.prog (tabOf tabSJ) Try.f11 ⟨w, [], 1, β⟩ [.o (.a (.sl 0 (0 : Nat) n cap0))] [some ⟨false, [.ints .u8 nm b]⟩] (fun ys _ => ys = [.g [.ints .u8 (64 : Nat) (join1 n b)]]) :=
  Body.lens (c := (Try.f11.body.getD .skip)) rfl fun h => sum_body0 n nm b cap0 h0 h1 (h.caps 0 _ _ _ _ rfl) (h.lens 0 _ .u8 nm b rfl (by simp)) w β

def gam22 : Gam := greadV 11 [.s 1] (fun vs args => match vs, args with | [⟨_, _, _, [.ints .u8 nm b]⟩], [a0] => some ((nm = (lenOfA a0)) ∧ ((lenOfA a0) < (140737488355328 : Nat)), [.g [.ints .u8 (64 : Nat) (join1 (lenOfA a0) b)]]) | _, _ => none) gam21
theorem gam22_ok : GamOk Try.prog gam22 := greadV_ok tabOkSJ Try.func11 gam21_ok Try.call11 (by
  intro vs args p xs h hv
  split at h
  · simp only [Option.some.injEq, Prod.mk.injEq] at h; obtain ⟨rfl, rfl⟩ := h; exact ⟨by rfl, fun caps w β => sum_body _ _ _ _ hv.1 hv.2 w β⟩
  · simp at h)

end Go.Proofs.Ytepimglipelpmaa.X
