/- Printed by a tool of this session. -/
import Derived.Test.YtepimglipelpmaaSN
import Derived.KernelRfl
namespace Go.Proofs.Ytepimglipelpmaa.X
open Go Go.Proofs
set_option linter.unusedVariables false
set_option maxRecDepth 100000
theorem teSQ_3 : TEOk Try.prog 3 ⟨.int .i64, 1, 8, [.i .i64 (0 : Int)], false⟩ :=
  TEOk.of Try.underlying3 (i := Try.t3) (by kernel_rfl) rfl rfl rfl (by kernel_rfl) (fun h => by cases h) (by kernel_rfl)
theorem teSQ_5 : TEOk Try.prog 5 ⟨.int .u8, 1, 1, [.i .u8 (0 : Int)], false⟩ :=
  TEOk.of Try.underlying5 (i := Try.t5) (by kernel_rfl) rfl rfl rfl (by kernel_rfl) (fun h => by cases h) (by kernel_rfl)
theorem teSQ_22 : TEOk Try.prog 22 ⟨.slice 5, 1, 24, [.raw (.slice none 0 0)], false⟩ :=
  TEOk.of Try.underlying22 (i := Try.t22) (by kernel_rfl) rfl rfl rfl (by kernel_rfl) (fun h => by cases h) (by kernel_rfl)
noncomputable def tabSQ : List (Nat × TE) := [(3, ⟨.int .i64, 1, 8, [.i .i64 (0 : Int)], false⟩), (5, ⟨.int .u8, 1, 1, [.i .u8 (0 : Int)], false⟩), (22, ⟨.slice 5, 1, 24, [.raw (.slice none 0 0)], false⟩)]
theorem tabOkSQ : TabOk Try.prog (tabOf tabSQ) := (tabOf_cons teSQ_3 (tabOf_cons teSQ_5 (tabOf_cons teSQ_22 tabOf_nil)))

def markB (i : Int) (k : Int) : Int :=
  (IntKind.u8.wrap (IntKind.i64.wrap ((IntKind.i64.wrap ((IntKind.i64.wrap (i * (31 : Int))) + (IntKind.i64.wrap (k * (7 : Int))))) + (5 : Int))))

set_option maxHeartbeats 1000000 in
theorem markB_body0 (i : Int) (k : Int) (w : World) : Body Try.prog (tabOf tabSQ) Try.f43 ⟨w, [], 0, noEnv⟩ (toA [.a (.i .i64 i), .a (.i .i64 k)]) [] (fun ys _ => ys = [.a (.i .u8 (markB i k))]) :=
  Body.of_fin (Γ := gam23) (Λ := noLam) (Ψ := noPsi) (fuel := 0) (m := 12) (c := (Try.f43.body.getD .skip)) mix tabOkSQ gam23_ok rfl (rs := [.tmp 4]) rfl rfl [] []
    (vc := []) (by kernel_rfl)
    (AllP_nil)

theorem markB_body (i : Int) (k : Int) (w : World) : Body Try.prog (tabOf tabSQ) Try.f43 ⟨w, [], 0, noEnv⟩ (toA [.a (.i .i64 i), .a (.i .i64 k)]) [] (fun ys _ => ys = [.a (.i .u8 (markB i k))]) :=
  Body.lens (c := (Try.f43.body.getD .skip)) rfl fun h => markB_body0 i k  w

theorem markB_pure (i : Int) (k : Int) : PureC Try.prog 43 [.a (.i .i64 i), .a (.i .i64 k)] [.a (.i .u8 (markB i k))] :=
  PureC.of_body tabOkSQ Try.func43 rfl rfl fun w => markB_body i k w

def gam24 : Gam := gpure 43 (fun args => match args with | [.o (.a (.i .i64 i)), .o (.a (.i .i64 k))] => some (none, [.a (.i .u8 (markB i k))]) | _ => none) gam23
theorem gam24_ok : GamOk Try.prog gam24 := gpure_ok gam23_ok Try.call43 (by
  intro args vc xs h hv
  split at h
  · simp only [Option.some.injEq, Prod.mk.injEq] at h; obtain ⟨rfl, rfl⟩ := h; exact ⟨_, by rfl, markB_pure _ _⟩
  · simp at h)

def copyB (n : Nat) (b : List Int) : List Int :=
  (sub b (0 : Nat) n)

set_option maxHeartbeats 1000000 in
theorem copyB_body0 (n : Nat) (nm : Nat) (b : List Int) (cap0 : Nat) (h0 : (nm = n)) (h1 : (n < (140737488355328 : Nat))) (hc0 : n ≤ cap0) (hl0_0 : List.length b = nm) (w : World) (rw : List Nat) (β : Env) : Body Try.prog (tabOf tabSQ) Try.f39 ⟨w, rw, 1, β⟩ [.o (.a (.sl 0 (0 : Nat) n cap0))] [some ⟨false, [.ints .u8 nm b]⟩] (fun ys K' => ys = [.a (.rs 1 (0 : Nat) n 1)] ∧ K' = [some ⟨false, [.ints .u8 nm b]⟩, some ⟨true, [.ints .u8 n (copyB n b)]⟩]) :=
  Body.of_finK (Γ := gam24) (Λ := noLam) (Ψ := noPsi) (fuel := 0) (m := 8) (c := (Try.f39.body.getD .skip)) mix tabOkSQ gam24_ok rfl (rs := [.tmp 2]) rfl rfl [false] [] 2
    (vc := [(((n ≤ n) ∧ (((0 : Nat) + n) ≤ nm)) ∧ ((n * (1 : Nat)) ≤ (140737488355328 : Nat)))]) (by kernel_rfl)
    (AllP_cons ⟨⟨(by first | omega | (simp (disch := omega) only [wrapI]; omega)), (by first | omega | (simp (disch := omega) only [wrapI]; omega))⟩, (by first | omega | (simp (disch := omega) only [wrapI]; omega))⟩ (AllP_nil))

theorem copyB_body (n : Nat) (nm : Nat) (b : List Int) (cap0 : Nat) (h0 : (nm = n)) (h1 : (n < (140737488355328 : Nat))) (w : World) (rw : List Nat) (β : Env) : Body Try.prog (tabOf tabSQ) Try.f39 ⟨w, rw, 1, β⟩ [.o (.a (.sl 0 (0 : Nat) n cap0))] [some ⟨false, [.ints .u8 nm b]⟩] (fun ys K' => ys = [.a (.rs 1 (0 : Nat) n 1)] ∧ K' = [some ⟨false, [.ints .u8 nm b]⟩, some ⟨true, [.ints .u8 n (copyB n b)]⟩]) :=
  Body.lens (c := (Try.f39.body.getD .skip)) rfl fun h => copyB_body0 n nm b cap0 h0 h1 (h.caps 0 _ _ _ _ rfl) (h.lens 0 _ .u8 nm b rfl (by simp)) w rw β

def gam25 : Gam := gcall 39 [] [.s 1] (fun wk vs args => match wk, vs, args with | [], [⟨_, _, _, [.ints .u8 nm b]⟩], [.o (.a (.sl 0 0 n _))] => some ((nm = n) ∧ (n < (140737488355328 : Nat)), [.a (.rs 1 (0 : Nat) n 1)], [some ⟨false, [.ints .u8 nm b]⟩, some ⟨true, [.ints .u8 n (copyB n b)]⟩]) | _, _, _ => none) gam24
theorem gam25_ok : GamOk Try.prog gam25 := gcall_ok tabOkSQ Try.func39 gam24_ok Try.call39 (by
  intro wk vs args p xs K1 h hv
  split at h
  · simp only [Option.some.injEq, Prod.mk.injEq] at h; obtain ⟨rfl, rfl, rfl⟩ := h; obtain ⟨g0, g1⟩ := hv; exact fun caps w rw β => copyB_body _ _ _ _ g0 g1 w rw β
  · simp at h)

def sameL_mk (n : Nat) (nm : Nat) (b : List Int) (m : Nat) (mm : Nat) (c : List Int) (cap0 : Nat) (cap1 : Nat) (k : Nat) (s : Unit) : St := ⟨sparse 26 [(0, .o (.a (.sl 0 (0 : Nat) n cap0))), (1, .o (.a (.sl 1 (0 : Nat) m cap1))), (5, .o (.a (.i .i64 ((k : Nat) : Int)))), (6, .o (.a (.sl 0 (0 : Nat) n cap0))), (7, .o (.a (.i .i64 ((n : Nat) : Int)))), (8, .o (.a (.sl 1 (0 : Nat) m cap1))), (9, .o (.a (.i .i64 ((m : Nat) : Int)))), (10, .o (.a (.b (((n : Nat) : Int) != ((m : Nat) : Int)))))], [some ⟨false, [.ints .u8 nm b]⟩, some ⟨false, [.ints .u8 mm c]⟩]⟩

def sameL_step (k : Nat) (s : Unit) : Unit :=
  ()

set_option maxHeartbeats 1000000 in
theorem sameL_round (n : Nat) (nm : Nat) (b : List Int) (m : Nat) (mm : Nat) (c : List Int) (cap0 : Nat) (cap1 : Nat) (h0 : (nm = n)) (h1 : (mm = m)) (h2 : (m = n)) (h3 : (b = c)) (h4 : (n < (4611686018427387904 : Nat))) (hc0 : n ≤ cap0) (hc1 : m ≤ cap1) (hl0_0 : List.length b = nm) (hl1_0 : List.length c = mm) (w : World) (β : Env) (k : Nat) (hk : k < n) (s : Unit) : Run Try.prog ⟨w, [], 2, β⟩ (loopB Try.f24 0) (sameL_mk n nm b m mm c cap0 cap1 k s) (To ⟨w, [], 2, β⟩ .normal (sameL_mk n nm b m mm c cap0 cap1 (k + 1) (sameL_step k s))) := by
  have e0 : (IntKind.i64.wrap (((k : Nat) : Int) + (1 : Int))) = (((k + (1 : Nat)) : Nat) : Int) := (by first | rfl | exact wrap_succ (by omega) | omega | (simp (disch := omega) only [wrapI]; omega))
  have h := Run.of_outT (B := ⟨w, [], 2, β⟩) (Λ := noLam) (Ψ := noPsi) (fuel := 0) (ora := [true, false]) (c := (loopB Try.f24 0)) (st := (sameL_mk n nm b m mm c cap0 cap1 k s)) (l := [.forget [0, 1, 5, 6, 7, 8, 9, 10] 2]) (s' := ⟨sparse 26 [(0, .o (.a (.sl 0 (0 : Nat) n cap0))), (1, .o (.a (.sl 1 (0 : Nat) m cap1))), (5, .o (.a (.i .i64 (IntKind.i64.wrap (((k : Nat) : Int) + (1 : Int)))))), (6, .o (.a (.sl 0 (0 : Nat) n cap0))), (7, .o (.a (.i .i64 ((n : Nat) : Int)))), (8, .o (.a (.sl 1 (0 : Nat) m cap1))), (9, .o (.a (.i .i64 ((m : Nat) : Int)))), (10, .o (.a (.b (((n : Nat) : Int) != ((m : Nat) : Int)))))], [some ⟨false, [.ints .u8 nm b]⟩, some ⟨false, [.ints .u8 mm c]⟩]⟩) (ex := .normal) mix tabOkSQ gam25_ok
    (vc := [(((List.getD b k 0) != (List.getD c k 0)) = false), (k < mm), (((0 : Int) ≤ ((k : Nat) : Int)) ∧ (((k : Nat) : Int) < ((m : Nat) : Int))), (k < nm), (((0 : Int) ≤ ((k : Nat) : Int)) ∧ (((k : Nat) : Int) < ((n : Nat) : Int))), ((decide (((k : Nat) : Int) < ((n : Nat) : Int))) = true)]) (by kernel_rfl)
    (AllP_cons (bne_eq_false_iff_eq.2 (by rw [h3])) (AllP_cons (by first | omega | (simp (disch := omega) only [wrapI]; omega)) (AllP_cons ⟨(by first | omega | (simp (disch := omega) only [wrapI]; omega)), (by first | omega | (simp (disch := omega) only [wrapI]; omega))⟩ (AllP_cons (by first | omega | (simp (disch := omega) only [wrapI]; omega)) (AllP_cons ⟨(by first | omega | (simp (disch := omega) only [wrapI]; omega)), (by first | omega | (simp (disch := omega) only [wrapI]; omega))⟩ (AllP_cons (decide_eq_true (by first | omega | (simp (disch := omega) only [wrapI]; omega))) (AllP_nil)))))))
  rw [e0] at h
  exact h

set_option maxHeartbeats 1000000 in
theorem sameL_last (n : Nat) (nm : Nat) (b : List Int) (m : Nat) (mm : Nat) (c : List Int) (cap0 : Nat) (cap1 : Nat) (h0 : (nm = n)) (h1 : (mm = m)) (h2 : (m = n)) (h3 : (b = c)) (h4 : (n < (4611686018427387904 : Nat))) (hc0 : n ≤ cap0) (hc1 : m ≤ cap1) (hl0_0 : List.length b = nm) (hl1_0 : List.length c = mm) (w : World) (β : Env) (s : Unit) : Run Try.prog ⟨w, [], 2, β⟩ (loopB Try.f24 0) (sameL_mk n nm b m mm c cap0 cap1 n s) (To ⟨w, [], 2, β⟩ (.exit 0) (sameL_mk n nm b m mm c cap0 cap1 n s)) :=
  Run.of_outT (B := ⟨w, [], 2, β⟩) (Λ := noLam) (Ψ := noPsi) (fuel := 0) (ora := [false]) (l := [.forget [0, 1, 5, 6, 7, 8, 9, 10] 2]) mix tabOkSQ gam25_ok
    (vc := [((decide (((n : Nat) : Int) < ((n : Nat) : Int))) = false)]) (by kernel_rfl)
    (AllP_cons (decide_eq_false (by first | omega | (simp (disch := omega) only [wrapI]; omega))) (AllP_nil))

theorem sameL_loop (n : Nat) (nm : Nat) (b : List Int) (m : Nat) (mm : Nat) (c : List Int) (cap0 : Nat) (cap1 : Nat) (h0 : (nm = n)) (h1 : (mm = m)) (h2 : (m = n)) (h3 : (b = c)) (h4 : (n < (4611686018427387904 : Nat))) (hc0 : n ≤ cap0) (hc1 : m ≤ cap1) (hl0_0 : List.length b = nm) (hl1_0 : List.length c = mm) (w : World) (β : Env) (s : Unit) : Run Try.prog ⟨w, [], 2, β⟩ (.block 0 (.loop (loopB Try.f24 0))) (sameL_mk n nm b m mm c cap0 cap1 0 s) (To ⟨w, [], 2, β⟩ .normal (sameL_mk n nm b m mm c cap0 cap1 n (iter (sameL_step) n s))) :=
  Run.count (fun k => sameL_mk n nm b m mm c cap0 cap1 k (iter (sameL_step) k s)) n (fun k hk => sameL_round n nm b m mm c cap0 cap1 h0 h1 h2 h3 h4 hc0 hc1 hl0_0 hl1_0 w β k hk _) (ex := (.exit 0)) (by simp) (sameL_last n nm b m mm c cap0 cap1 h0 h1 h2 h3 h4 hc0 hc1 hl0_0 hl1_0 w β _)

set_option maxHeartbeats 1000000 in
theorem same_body0 (n : Nat) (nm : Nat) (b : List Int) (m : Nat) (mm : Nat) (c : List Int) (cap0 : Nat) (cap1 : Nat) (h0 : (nm = n)) (h1 : (mm = m)) (h2 : (m = n)) (h3 : (b = c)) (h4 : (n < (4611686018427387904 : Nat))) (hc0 : n ≤ cap0) (hc1 : m ≤ cap1) (hl0_0 : List.length b = nm) (hl1_0 : List.length c = mm) (w : World) (β : Env) : Body Try.prog (tabOf tabSQ) Try.f24 ⟨w, [], 2, β⟩ [.o (.a (.sl 0 (0 : Nat) n cap0)), .o (.a (.sl 1 (0 : Nat) m cap1))] [some ⟨false, [.ints .u8 nm b]⟩, some ⟨false, [.ints .u8 mm c]⟩] (fun ys _ => ys = [.a (.b true)]) :=
  Body.of_fin (Γ := gam25) (Λ := lamOf [(0, ⟨[.forget [0, 1, 5, 6, 7, 8, 9, 10] 2], .normal, (sameL_mk n nm b m mm c cap0 cap1 n (iter (sameL_step) n ()))⟩)]) (Ψ := noPsi) (fuel := 0) (m := 26) (c := (Try.f24.body.getD .skip)) mix tabOkSQ gam25_ok rfl (rs := [.tmp 4]) rfl rfl [false] []
    (vc := [(Run Try.prog ⟨w, [], 2, β⟩ (.block 0 (.loop (loopB Try.f24 0))) (sameL_mk n nm b m mm c cap0 cap1 0 ()) (To ⟨w, [], 2, β⟩ .normal (sameL_mk n nm b m mm c cap0 cap1 n (iter (sameL_step) n ())))), ((((n : Nat) : Int) != ((m : Nat) : Int)) = false)]) (by kernel_rfl)
    (AllP_cons (sameL_loop n nm b m mm c cap0 cap1 h0 h1 h2 h3 h4 hc0 hc1 hl0_0 hl1_0 w β ()) (AllP_cons (bne_eq_false_iff_eq.2 (by first | omega | (simp (disch := omega) only [wrapI]; omega))) (AllP_nil)))

theorem same_body (n : Nat) (nm : Nat) (b : List Int) (m : Nat) (mm : Nat) (c : List Int) (cap0 : Nat) (cap1 : Nat) (h0 : (nm = n)) (h1 : (mm = m)) (h2 : (m = n)) (h3 : (b = c)) (h4 : (n < (4611686018427387904 : Nat))) (w : World) (β : Env) : Body Try.prog (tabOf tabSQ) Try.f24 ⟨w, [], 2, β⟩ [.o (.a (.sl 0 (0 : Nat) n cap0)), .o (.a (.sl 1 (0 : Nat) m cap1))] [some ⟨false, [.ints .u8 nm b]⟩, some ⟨false, [.ints .u8 mm c]⟩] (fun ys _ => ys = [.a (.b true)]) :=
  Body.lens (c := (Try.f24.body.getD .skip)) rfl fun h => same_body0 n nm b m mm c cap0 cap1 h0 h1 h2 h3 h4 (h.caps 0 _ _ _ _ rfl) (h.caps 1 _ _ _ _ rfl) (h.lens 0 _ .u8 nm b rfl (by simp)) (h.lens 1 _ .u8 mm c rfl (by simp)) w β

def gam26 : Gam := greadV 24 [.s 1, .s 1] (fun vs args => match vs, args with | [⟨_, _, _, [.ints .u8 nm b]⟩, ⟨_, _, _, [.ints .u8 mm c]⟩], [a0, a1] => some ((nm = (lenOfA a0)) ∧ (mm = (lenOfA a1)) ∧ ((lenOfA a1) = (lenOfA a0)) ∧ (b = c) ∧ ((lenOfA a0) < (4611686018427387904 : Nat)), [.a (.b true)]) | _, _ => none) gam25
theorem gam26_ok : GamOk Try.prog gam26 := greadV_ok tabOkSQ Try.func24 gam25_ok Try.call24 (by
  intro vs args p xs h hv
  split at h
  · simp only [Option.some.injEq, Prod.mk.injEq] at h; obtain ⟨rfl, rfl⟩ := h; exact ⟨by rfl, fun caps w β => same_body _ _ _ _ _ _ _ _ hv.1 hv.2.1 hv.2.2.1 hv.2.2.2.1 hv.2.2.2.2 w β⟩
  · simp at h)

end Go.Proofs.Ytepimglipelpmaa.X
