/- Texts of this session, put together (part 5), less what nothing uses. -/
import Derived.Test.YtlmdhjojinkdbaaGW4
import Derived.KernelRfl
/- Printed by a tool of this session. -/
namespace Go.Proofs.Ytlmdhjojinkdbaa.X
open Go Go.Proofs
set_option linter.unusedVariables false
set_option linter.unusedSimpArgs false
set_option maxRecDepth 100000
theorem teKB_5 : TEOk Try.prog 5 ⟨.int .u8, 1, 1, [.i .u8 (0 : Int)], false⟩ :=
  TEOk.of Try.underlying5 (i := Try.t5) (by kernel_rfl) rfl rfl rfl (by kernel_rfl) (fun h => by cases h) (by kernel_rfl)
theorem teKB_22 : TEOk Try.prog 22 ⟨.slice 5, 1, 24, [.raw (.slice none 0 0)], false⟩ :=
  TEOk.of Try.underlying22 (i := Try.t22) (by kernel_rfl) rfl rfl rfl (by kernel_rfl) (fun h => by cases h) (by kernel_rfl)
theorem teKB_23 : TEOk Try.prog 23 ⟨.slice 22, 1, 24, [.raw (.slice none 0 0)], false⟩ :=
  TEOk.of Try.underlying23 (i := Try.t23) (by kernel_rfl) rfl rfl rfl (by kernel_rfl) (fun h => by cases h) (by kernel_rfl)
theorem teKB_50 : TEOk Try.prog 50 ⟨Try.t49.desc, 30, 720, [nlA, nlA, nlA, nlA, nlA, nlA, nlA, nlA, nlA, nlA, nlA, nlA, nlA, nlA, nlA, nlA, nlA, nlA, nlA, nlA, nlA, nlA, nlA, nlA, nlA, nlA, nlA, nlA, nlA, nlA], false⟩ :=
  TEOk.of Try.underlying50 (i := Try.t50) (by kernel_rfl) rfl rfl rfl (by kernel_rfl) (fun h => by cases h) (by kernel_rfl)
noncomputable def tabKB : List (Nat × TE) := [(5, ⟨.int .u8, 1, 1, [.i .u8 (0 : Int)], false⟩), (22, ⟨.slice 5, 1, 24, [nlA], false⟩), (23, ⟨.slice 22, 1, 24, [nlA], false⟩), (50, ⟨Try.t49.desc, 30, 720, [nlA, nlA, nlA, nlA, nlA, nlA, nlA, nlA, nlA, nlA, nlA, nlA, nlA, nlA, nlA, nlA, nlA, nlA, nlA, nlA, nlA, nlA, nlA, nlA, nlA, nlA, nlA, nlA, nlA, nlA], false⟩)]
theorem tabOkKB : TabOk Try.prog (tabOf tabKB) := (tabOf_cons teKB_5 (tabOf_cons teKB_22 (tabOf_cons teKB_23 (tabOf_cons teKB_50 tabOf_nil))))

noncomputable def gam35 : Gam := gcall 13 [] [.s 1] (fun wk vs args => match wk, vs, args with | [], [⟨_, _, _, [.ints .u8 nm b]⟩], [.o (.a (.sl 0 0 n _))] => some ((nm = n) ∧ (n < 35184372088832), [.a (.rs 1 0 n 1)], [some ⟨false, [.ints .u8 nm b]⟩, some ⟨true, [.ints .u8 n (copyB n b)]⟩]) | _, _, _ => none) gam34
theorem gam35_ok : GamOk Try.prog gam35 := gcall_ok tabOkDK Try.func13 gam34_ok Try.call13 (by
  intro wk vs args p xs K1 h hv
  split at h
  · simp only [Option.some.injEq, Prod.mk.injEq] at h; obtain ⟨rfl, rfl, rfl⟩ := h; obtain ⟨g0, g1⟩ := hv; exact fun caps w rw β => copyB_body _ _ _ _ g0 g1 w rw β
  · simp at h)

def gv0A_mk (q k_ : Nat) (L W : List Value) (n nm : Nat) (b : List Int) (cap3 j : Nat) (sj : Unit) : St := ⟨sparse 61 [(0, .o (.a (.p 0 0))), (1, .o (.a (.sl 3 0 n cap3))), (4, .o (.a nlA)), (5, .o (.a (.sl 4 0 (n + 3) (n + 3)))), (6, .o (.a (.i .i64 ((j : Nat) : Int))))], [some ⟨true, [.rs 1 0 q 1, .rs 2 0 q 1, nlA, nlA, nlA, nlA, nlA, nlA, nlA, nlA, nlA, nlA, nlA, nlA, nlA, nlA, nlA, nlA, nlA, nlA, nlA, nlA, nlA, nlA, nlA, nlA, nlA, nlA, nlA, nlA]⟩, some ⟨true, [.vals k_ L]⟩, some ⟨true, [.vals k_ W]⟩, some ⟨false, [.ints .u8 nm b]⟩, some ⟨true, [.ints .u8 (n + 3) (mkP (List.replicate (n + 3) (0 : Int)) (987 : Int) j)]⟩]⟩

def gv0A_step (j : Nat) (sj : Unit) : Unit :=
  ()

set_option maxHeartbeats 1000000 in
theorem gv0A_round (q k_ : Nat) (L W : List Value) (n nm : Nat) (b : List Int) (cap3 : Nat) (h0 : (nm = n)) (h1 : (n < 17592186044416)) (h2 : (q < 2199023255552)) (h3 : (q = k_)) (hc3 : n ≤ cap3) (hl3_0 : List.length b = nm) (w : World) (rw : List Nat) (β : Env) (j : Nat) (hj : j < (n + 3)) (sj : Unit) : Run Try.prog ⟨w, rw, 4, β⟩ (loopB Try.f15 0) (gv0A_mk q k_ L W n nm b cap3 j sj) (To ⟨w, rw, 4, β⟩ .normal (gv0A_mk q k_ L W n nm b cap3 (j + 1) (gv0A_step j sj))) := by
  have e0 : (List.set (mkP (List.replicate (n + 3) (0 : Int)) (987 : Int) j) j (mkBy (987 : Int) ((j : Nat) : Int))) = (mkP (List.replicate (n + 3) (0 : Int)) (987 : Int) (j + 1)) := (by first | exact wrap_succ (by omega) | exact mkP_step (by rw [List.length_replicate]) (by omega))
  have e1 : (IntKind.i64.wrap (((j : Nat) : Int) + (1 : Int))) = (((j + (1 : Nat)) : Nat) : Int) := (by first | exact wrap_succ (by omega) | exact mkP_step (by rw [List.length_replicate]) (by omega))
  have h := Run.of_outT (B := ⟨w, rw, 4, β⟩) (Λ := noLam) (Ψ := noPsi) (fuel := 0) (ora := [true]) (c := (loopB Try.f15 0)) (st := (gv0A_mk q k_ L W n nm b cap3 j sj)) (l := [.forget [0, 1, 4, 5, 6] 5]) (s' := ⟨sparse 61 [(0, .o (.a (.p 0 0))), (1, .o (.a (.sl 3 0 n cap3))), (4, .o (.a nlA)), (5, .o (.a (.sl 4 0 (n + 3) (n + 3)))), (6, .o (.a (.i .i64 (IntKind.i64.wrap (((j : Nat) : Int) + (1 : Int))))))], [some ⟨true, [.rs 1 0 q 1, .rs 2 0 q 1, nlA, nlA, nlA, nlA, nlA, nlA, nlA, nlA, nlA, nlA, nlA, nlA, nlA, nlA, nlA, nlA, nlA, nlA, nlA, nlA, nlA, nlA, nlA, nlA, nlA, nlA, nlA, nlA]⟩, some ⟨true, [.vals k_ L]⟩, some ⟨true, [.vals k_ W]⟩, some ⟨false, [.ints .u8 nm b]⟩, some ⟨true, [.ints .u8 (n + 3) (List.set (mkP (List.replicate (n + 3) (0 : Int)) (987 : Int) j) j (mkBy (987 : Int) ((j : Nat) : Int)))]⟩]⟩) (ex := .normal) mix tabOkKB gam35_ok
    (vc := [(j < (n + (3 : Nat))), (((0 : Int) ≤ ((j : Nat) : Int)) ∧ (((j : Nat) : Int) < (((n + (3 : Nat)) : Nat) : Int))), ((decide (((j : Nat) : Int) < (((n + (3 : Nat)) : Nat) : Int))) = true)]) (by kernel_rfl)
    (aC (by first|omega|(simp (disch:=omega) only [wrapI];omega)) (aC ⟨(by first|omega|(simp (disch:=omega) only [wrapI];omega)), (by first|omega|(simp (disch:=omega) only [wrapI];omega))⟩ (aC (decide_eq_true (by first|omega|(simp (disch:=omega) only [wrapI];omega))) (AllP_nil))))
  rw [e0, e1] at h
  exact h

set_option maxHeartbeats 1000000 in
theorem gv0A_last (q k_ : Nat) (L W : List Value) (n nm : Nat) (b : List Int) (cap3 : Nat) (h0 : (nm = n)) (h1 : (n < 17592186044416)) (h2 : (q < 2199023255552)) (h3 : (q = k_)) (hc3 : n ≤ cap3) (hl3_0 : List.length b = nm) (w : World) (rw : List Nat) (β : Env) (sj : Unit) : Run Try.prog ⟨w, rw, 4, β⟩ (loopB Try.f15 0) (gv0A_mk q k_ L W n nm b cap3 (n + 3) sj) (To ⟨w, rw, 4, β⟩ (.exit 0) (gv0A_mk q k_ L W n nm b cap3 (n + 3) sj)) :=
  Run.of_outT (B := ⟨w, rw, 4, β⟩) (Λ := noLam) (Ψ := noPsi) (fuel := 0) (ora := [false]) (l := [.forget [0, 1, 4, 5, 6] 5]) mix tabOkKB gam35_ok
    (vc := [((decide ((((n + (3 : Nat)) : Nat) : Int) < (((n + (3 : Nat)) : Nat) : Int))) = false)]) (by kernel_rfl)
    (aC (decide_eq_false (by omega)) (AllP_nil))

theorem gv0A_loop (q k_ : Nat) (L W : List Value) (n nm : Nat) (b : List Int) (cap3 : Nat) (h0 : (nm = n)) (h1 : (n < 17592186044416)) (h2 : (q < 2199023255552)) (h3 : (q = k_)) (hc3 : n ≤ cap3) (hl3_0 : List.length b = nm) (w : World) (rw : List Nat) (β : Env) (sj : Unit) : Run Try.prog ⟨w, rw, 4, β⟩ (.block 0 (.loop (loopB Try.f15 0))) (gv0A_mk q k_ L W n nm b cap3 0 sj) (To ⟨w, rw, 4, β⟩ .normal (gv0A_mk q k_ L W n nm b cap3 (n + 3) (iter (gv0A_step) (n + 3) sj))) :=
  Run.count (fun j => gv0A_mk q k_ L W n nm b cap3 j (iter (gv0A_step) j sj)) (n + 3) (fun j hj => gv0A_round q k_ L W n nm b cap3 h0 h1 h2 h3 hc3 hl3_0 w rw β j hj _) (ex := (.exit 0)) (by simp) (gv0A_last q k_ L W n nm b cap3 h0 h1 h2 h3 hc3 hl3_0 w rw β _)

def gv0B_mk (q k_ : Nat) (L W : List Value) (n nm : Nat) (b : List Int) (cap3 j : Nat) (sj : Unit) : St := ⟨sparse 61 [(0, .o (.a (.p 0 0))), (1, .o (.a (.sl 3 0 n cap3))), (4, .o (.a nlA)), (5, .o (.a (.sl 4 0 (n + 3) (n + 3)))), (6, .o (.a (.i .i64 (((n + 3) : Nat) : Int)))), (7, .o (.a (.i .i64 ((j : Nat) : Int))))], [some ⟨true, [.rs 1 0 q 1, .rs 2 0 q 1, nlA, nlA, nlA, nlA, nlA, nlA, nlA, nlA, nlA, nlA, nlA, nlA, nlA, nlA, nlA, nlA, nlA, nlA, nlA, nlA, nlA, nlA, nlA, nlA, nlA, nlA, nlA, nlA]⟩, some ⟨true, [.vals k_ L]⟩, some ⟨true, [.vals k_ W]⟩, some ⟨false, [.ints .u8 nm b]⟩, some ⟨true, [.ints .u8 (n + 3) (cpB b (rwB (987 : Int) (n + 3)) j)]⟩]⟩

def gv0B_step (j : Nat) (sj : Unit) : Unit :=
  ()

set_option maxHeartbeats 1000000 in
theorem gv0B_round (q k_ : Nat) (L W : List Value) (n nm : Nat) (b : List Int) (cap3 : Nat) (h0 : (nm = n)) (h1 : (n < 17592186044416)) (h2 : (q < 2199023255552)) (h3 : (q = k_)) (hc3 : n ≤ cap3) (hl3_0 : List.length b = nm) (w : World) (rw : List Nat) (β : Env) (j : Nat) (hj : j < n) (sj : Unit) : Run Try.prog ⟨w, rw, 4, β⟩ (loopB Try.f15 2) (gv0B_mk q k_ L W n nm b cap3 j sj) (To ⟨w, rw, 4, β⟩ .normal (gv0B_mk q k_ L W n nm b cap3 (j + 1) (gv0B_step j sj))) := by
  have e0 : (List.set (cpB b (rwB (987 : Int) (n + (3 : Nat))) j) j (List.getD b j 0)) = (cpB b (rwB (987 : Int) (n + (3 : Nat))) (j + (1 : Nat))) := (by first | exact wrap_succ (by omega) | exact cpB_step (hl3_0.trans h0) (rwB_len _ _) (by omega) (by omega))
  have e1 : (IntKind.i64.wrap (((j : Nat) : Int) + (1 : Int))) = (((j + (1 : Nat)) : Nat) : Int) := (by first | exact wrap_succ (by omega) | exact cpB_step (hl3_0.trans h0) (rwB_len _ _) (by omega) (by omega))
  have h := Run.of_outT (B := ⟨w, rw, 4, β⟩) (Λ := noLam) (Ψ := noPsi) (fuel := 0) (ora := [true]) (c := (loopB Try.f15 2)) (st := (gv0B_mk q k_ L W n nm b cap3 j sj)) (l := [.forget [0, 1, 4, 5, 6, 7] 5]) (s' := ⟨sparse 61 [(0, .o (.a (.p 0 0))), (1, .o (.a (.sl 3 0 n cap3))), (4, .o (.a nlA)), (5, .o (.a (.sl 4 0 (n + 3) (n + 3)))), (6, .o (.a (.i .i64 (((n + 3) : Nat) : Int)))), (7, .o (.a (.i .i64 (IntKind.i64.wrap (((j : Nat) : Int) + (1 : Int))))))], [some ⟨true, [.rs 1 0 q 1, .rs 2 0 q 1, nlA, nlA, nlA, nlA, nlA, nlA, nlA, nlA, nlA, nlA, nlA, nlA, nlA, nlA, nlA, nlA, nlA, nlA, nlA, nlA, nlA, nlA, nlA, nlA, nlA, nlA, nlA, nlA]⟩, some ⟨true, [.vals k_ L]⟩, some ⟨true, [.vals k_ W]⟩, some ⟨false, [.ints .u8 nm b]⟩, some ⟨true, [.ints .u8 (n + 3) (List.set (cpB b (rwB (987 : Int) (n + 3)) j) j (List.getD b j 0))]⟩]⟩) (ex := .normal) mix tabOkKB gam35_ok
    (vc := [(j < (n + 3)), (((0 : Int) ≤ ((j : Nat) : Int)) ∧ (((j : Nat) : Int) < (((n + 3) : Nat) : Int))), (j < nm), (((0 : Int) ≤ ((j : Nat) : Int)) ∧ (((j : Nat) : Int) < ((n : Nat) : Int))), ((decide (((j : Nat) : Int) < ((n : Nat) : Int))) = true)]) (by kernel_rfl)
    (aC (by first|omega|(simp (disch:=omega) only [wrapI];omega)) (aC ⟨(by first|omega|(simp (disch:=omega) only [wrapI];omega)), (by first|omega|(simp (disch:=omega) only [wrapI];omega))⟩ (aC (by first|omega|(simp (disch:=omega) only [wrapI];omega)) (aC ⟨(by first|omega|(simp (disch:=omega) only [wrapI];omega)), (by first|omega|(simp (disch:=omega) only [wrapI];omega))⟩ (aC (decide_eq_true (by first|omega|(simp (disch:=omega) only [wrapI];omega))) (AllP_nil))))))
  rw [e0, e1] at h
  exact h

set_option maxHeartbeats 1000000 in
theorem gv0B_last (q k_ : Nat) (L W : List Value) (n nm : Nat) (b : List Int) (cap3 : Nat) (h0 : (nm = n)) (h1 : (n < 17592186044416)) (h2 : (q < 2199023255552)) (h3 : (q = k_)) (hc3 : n ≤ cap3) (hl3_0 : List.length b = nm) (w : World) (rw : List Nat) (β : Env) (sj : Unit) : Run Try.prog ⟨w, rw, 4, β⟩ (loopB Try.f15 2) (gv0B_mk q k_ L W n nm b cap3 n sj) (To ⟨w, rw, 4, β⟩ (.exit 2) (gv0B_mk q k_ L W n nm b cap3 n sj)) :=
  Run.of_outT (B := ⟨w, rw, 4, β⟩) (Λ := noLam) (Ψ := noPsi) (fuel := 0) (ora := [false]) (l := [.forget [0, 1, 4, 5, 6, 7] 5]) mix tabOkKB gam35_ok
    (vc := [((decide (((n : Nat) : Int) < ((n : Nat) : Int))) = false)]) (by kernel_rfl)
    (aC (decide_eq_false (by omega)) (AllP_nil))

theorem gv0B_loop (q k_ : Nat) (L W : List Value) (n nm : Nat) (b : List Int) (cap3 : Nat) (h0 : (nm = n)) (h1 : (n < 17592186044416)) (h2 : (q < 2199023255552)) (h3 : (q = k_)) (hc3 : n ≤ cap3) (hl3_0 : List.length b = nm) (w : World) (rw : List Nat) (β : Env) (sj : Unit) : Run Try.prog ⟨w, rw, 4, β⟩ (.block 2 (.loop (loopB Try.f15 2))) (gv0B_mk q k_ L W n nm b cap3 0 sj) (To ⟨w, rw, 4, β⟩ .normal (gv0B_mk q k_ L W n nm b cap3 n (iter (gv0B_step) n sj))) :=
  Run.count (fun j => gv0B_mk q k_ L W n nm b cap3 j (iter (gv0B_step) j sj)) n (fun j hj => gv0B_round q k_ L W n nm b cap3 h0 h1 h2 h3 hc3 hl3_0 w rw β j hj _) (ex := (.exit 2)) (by simp) (gv0B_last q k_ L W n nm b cap3 h0 h1 h2 h3 hc3 hl3_0 w rw β _)

def gv0 (n : Nat) : Nat :=
  (n + (3 : Nat))

def gv0_1 (q : Nat) : Nat :=
  (q + (1 : Nat))

set_option maxHeartbeats 1000000 in
theorem gv0_body0 (q k_ : Nat) (L W : List Value) (n nm : Nat) (b : List Int) (cap3 : Nat) (h0 : (nm = n)) (h1 : (n < 17592186044416)) (h2 : (q < 2199023255552)) (h3 : (q = k_)) (hc3 : n ≤ cap3) (hl3_0 : List.length b = nm) (w : World) (rw : List Nat) (β : Env) : Body Try.prog (tabOf tabKB) Try.f15 ⟨w, rw, 4, β⟩ [.o (.a (.p 0 0)), .o (.a (.sl 3 0 n cap3))] [some ⟨true, [.rs 1 0 q 1, .rs 2 0 q 1, nlA, nlA, nlA, nlA, nlA, nlA, nlA, nlA, nlA, nlA, nlA, nlA, nlA, nlA, nlA, nlA, nlA, nlA, nlA, nlA, nlA, nlA, nlA, nlA, nlA, nlA, nlA, nlA]⟩, some ⟨true, [.vals k_ L]⟩, some ⟨true, [.vals k_ W]⟩, some ⟨false, [.ints .u8 nm b]⟩] (fun ys K' => ys = [.a (.sl 6 0 n (gv0 n))] ∧ K' = [some ⟨true, [.rs 4 0 (gv0_1 q) 1, .rs 5 0 (gv0_1 q) 1, nlA, nlA, nlA, nlA, nlA, nlA, nlA, nlA, nlA, nlA, nlA, nlA, nlA, nlA, nlA, nlA, nlA, nlA, nlA, nlA, nlA, nlA, nlA, nlA, nlA, nlA, nlA, nlA]⟩, none, none, some ⟨false, [.ints .u8 nm b]⟩, some ⟨true, [.vals q (sub L 0 q), .sl 6 0 (gv0 n) (gv0 n)]⟩, some ⟨true, [.vals q (sub W 0 q), .rs 7 0 (gv0 n) 1]⟩, some ⟨true, [.ints .u8 (gv0 n) (gvB n b)]⟩, some ⟨true, [.ints .u8 (gv0 n) (gvB n b)]⟩]) :=
  Body.of_finK (Γ := gam35) (Λ := lamOf [(0, ⟨[.forget [0, 1, 4, 5, 6] 5], .normal, (gv0A_mk q k_ L W n nm b cap3 (n + 3) (iter (gv0A_step) (n + 3) ()))⟩), (2, ⟨[.forget [0, 1, 4, 5, 6, 7] 5], .normal, (gv0B_mk q k_ L W n nm b cap3 n (iter (gv0B_step) n ()))⟩)]) (Ψ := psiOf [(1, [.eqS 5 (.o (.a (.sl 4 0 (n + 3) (n + 3)))), .eqB 4 (⟨true, [.ints .u8 (n + 3) (List.replicate (n + 3) (0 : Int))]⟩)]), (6, [.eqB 4 (⟨true, [.ints .u8 (n + 3) (rwB (987 : Int) (n + 3))]⟩)]), (10, [.eqB 4 (⟨true, [.ints .u8 (n + 3) (gvB n b)]⟩)]), (11, [.eqB 7 (⟨true, [.ints .u8 (n + 3) (gvB n b)]⟩)])]) (fuel := 0) (m := 61) (c := (Try.f15.body.getD .skip)) mix tabOkKB gam35_ok rfl (rs := [.tmp 4]) rfl rfl [false, false] [.swap 4 6, .swap 5 9] 8
    (vc := [((cZ 0) ∧ ((0 : Int) ≤ ((n : Nat) : Int)) ∧ (((n : Nat) : Int) ≤ (((n + 3) : Nat) : Int))), ((some ⟨true, [.ints .u8 (n + 3) (copyB (n + 3) (sub (gvB n b) 0 (n + 3)))]⟩ : Option Blk) = some ⟨true, [.ints .u8 (n + 3) (gvB n b)]⟩), (((0 + q) ≤ k_) ∧ ((1 ≤ 1) ∧ True) ∧ (((q + 1) * 24) ≤ 140737488355328)), ((((0 + (n + 3)) ≤ (n + 3)) ∧ True) ∧ (((n + 3) = (n + 3)) ∧ ((n + 3) < 35184372088832))), ((some ⟨true, [.ints .u8 (n + 3) (cpB b (rwB (987 : Int) (n + 3)) n)]⟩ : Option Blk) = some ⟨true, [.ints .u8 (n + 3) (gvB n b)]⟩), (((0 + q) ≤ k_) ∧ ((1 ≤ 1) ∧ True) ∧ (((q + 1) * 24) ≤ 140737488355328)), (Run Try.prog ⟨w, rw, 4, β⟩ (.block 2 (.loop (loopB Try.f15 2))) (gv0B_mk q k_ L W n nm b cap3 0 ()) (To ⟨w, rw, 4, β⟩ .normal (gv0B_mk q k_ L W n nm b cap3 n (iter (gv0B_step) n ())))), ((some ⟨true, [.ints .u8 (n + 3) (mkP (List.replicate (n + 3) (0 : Int)) (987 : Int) (n + 3))]⟩ : Option Blk) = some ⟨true, [.ints .u8 (n + 3) (rwB (987 : Int) (n + 3))]⟩), (Run Try.prog ⟨w, rw, 4, β⟩ (.block 0 (.loop (loopB Try.f15 0))) (gv0A_mk q k_ L W n nm b cap3 0 ()) (To ⟨w, rw, 4, β⟩ .normal (gv0A_mk q k_ L W n nm b cap3 (n + 3) (iter (gv0A_step) (n + 3) ())))), ((some ⟨true, [.ints .u8 (Int.toNat (IntKind.i64.wrap (((n : Nat) : Int) + (3 : Int)))) (List.replicate (Int.toNat (IntKind.i64.wrap (((n : Nat) : Int) + (3 : Int)))) (0 : Int))]⟩ : Option Blk) = some ⟨true, [.ints .u8 (n + 3) (List.replicate (n + 3) (0 : Int))]⟩), ((.o (.a (.sl 4 0 (Int.toNat (IntKind.i64.wrap (((n : Nat) : Int) + (3 : Int)))) (Int.toNat (IntKind.i64.wrap (((n : Nat) : Int) + (3 : Int)))))) : AV) = .o (.a (.sl 4 0 (n + 3) (n + 3)))), (((0 : Int) ≤ (IntKind.i64.wrap (((n : Nat) : Int) + (3 : Int)))) ∧ ((IntKind.i64.wrap (((n : Nat) : Int) + (3 : Int))) ≤ (IntKind.i64.wrap (((n : Nat) : Int) + (3 : Int)))) ∧ (((IntKind.i64.wrap (((n : Nat) : Int) + (3 : Int))) * (1 : Int)) ≤ (281474976710656 : Int)))]) (by kernel_rfl)
    (aC ⟨(dd rfl), (by first|omega|(simp (disch:=omega) only [wrapI];omega)), (by first|omega|(simp (disch:=omega) only [wrapI];omega))⟩ (aC ((by rw [show copyB (n + 3) (sub (gvB n b) 0 (n + 3)) = gvB n b from gv_copy (hl3_0.trans h0)])) (aC ⟨(by first|omega|(simp (disch:=omega) only [wrapI];omega)), ⟨(dd rfl), trivial⟩, (by first|omega|(simp (disch:=omega) only [wrapI];omega))⟩ (aC ⟨⟨(by first|omega|(simp (disch:=omega) only [wrapI];omega)), trivial⟩, ⟨rfl, (by first|omega|(simp (disch:=omega) only [wrapI];omega))⟩⟩ (aC (rfl) (aC ⟨(by first|omega|(simp (disch:=omega) only [wrapI];omega)), ⟨(dd rfl), trivial⟩, (by first|omega|(simp (disch:=omega) only [wrapI];omega))⟩ (aC (gv0B_loop q k_ L W n nm b cap3 h0 h1 h2 h3 hc3 hl3_0 w rw β ()) (aC ((by rw [mkP_all (by rw [List.length_replicate])])) (aC (gv0A_loop q k_ L W n nm b cap3 h0 h1 h2 h3 hc3 hl3_0 w rw β ()) (aC ((by rw [wrapI (by omega) (by omega), show Int.toNat (((n : Nat) : Int) + 3) = n + 3 from by omega])) (aC ((by rw [wrapI (by omega) (by omega), show Int.toNat (((n : Nat) : Int) + 3) = n + 3 from by omega])) (aC ⟨(by first|omega|(simp (disch:=omega) only [wrapI];omega)), (by first|omega|(simp (disch:=omega) only [wrapI];omega)), (by first|omega|(simp (disch:=omega) only [wrapI];omega))⟩ (AllP_nil)))))))))))))

theorem gv0_body (q k_ : Nat) (L W : List Value) (n nm : Nat) (b : List Int) (cap3 : Nat) (h0 : (nm = n)) (h1 : (n < 17592186044416)) (h2 : (q < 2199023255552)) (h3 : (q = k_)) (w : World) (rw : List Nat) (β : Env) : Body Try.prog (tabOf tabKB) Try.f15 ⟨w, rw, 4, β⟩ [.o (.a (.p 0 0)), .o (.a (.sl 3 0 n cap3))] [some ⟨true, [.rs 1 0 q 1, .rs 2 0 q 1, nlA, nlA, nlA, nlA, nlA, nlA, nlA, nlA, nlA, nlA, nlA, nlA, nlA, nlA, nlA, nlA, nlA, nlA, nlA, nlA, nlA, nlA, nlA, nlA, nlA, nlA, nlA, nlA]⟩, some ⟨true, [.vals k_ L]⟩, some ⟨true, [.vals k_ W]⟩, some ⟨false, [.ints .u8 nm b]⟩] (fun ys K' => ys = [.a (.sl 6 0 n (gv0 n))] ∧ K' = [some ⟨true, [.rs 4 0 (gv0_1 q) 1, .rs 5 0 (gv0_1 q) 1, nlA, nlA, nlA, nlA, nlA, nlA, nlA, nlA, nlA, nlA, nlA, nlA, nlA, nlA, nlA, nlA, nlA, nlA, nlA, nlA, nlA, nlA, nlA, nlA, nlA, nlA, nlA, nlA]⟩, none, none, some ⟨false, [.ints .u8 nm b]⟩, some ⟨true, [.vals q (sub L 0 q), .sl 6 0 (gv0 n) (gv0 n)]⟩, some ⟨true, [.vals q (sub W 0 q), .rs 7 0 (gv0 n) 1]⟩, some ⟨true, [.ints .u8 (gv0 n) (gvB n b)]⟩, some ⟨true, [.ints .u8 (gv0 n) (gvB n b)]⟩]) :=
  Body.lens (c := (Try.f15.body.getD .skip)) rfl fun h => gv0_body0 q k_ L W n nm b cap3 h0 h1 h2 h3 (h.caps 1 _ _ _ _ rfl) (h.lens 3 _ .u8 nm b rfl (by simp)) w rw β

def gv1A_mk (q k_ : Nat) (L : List Value) (m0 : Nat) (B0 : List Int) (W : List Value) (D0 : List Int) (n nm : Nat) (b : List Int) (cap5 j : Nat) (sj : Unit) : St := ⟨sparse 61 [(0, .o (.a (.p 0 0))), (1, .o (.a (.sl 5 0 n cap5))), (4, .o (.a nlA)), (5, .o (.a (.sl 6 0 (n + 3) (n + 3)))), (6, .o (.a (.i .i64 ((j : Nat) : Int))))], [some ⟨true, [.rs 1 0 q 1, .rs 3 0 q 1, nlA, nlA, nlA, nlA, nlA, nlA, nlA, nlA, nlA, nlA, nlA, nlA, nlA, nlA, nlA, nlA, nlA, nlA, nlA, nlA, nlA, nlA, nlA, nlA, nlA, nlA, nlA, nlA]⟩, some ⟨true, [.vals k_ L, .sl 2 0 m0 m0]⟩, some ⟨true, [.ints .u8 m0 B0]⟩, some ⟨true, [.vals k_ W, .rs 4 0 m0 1]⟩, some ⟨true, [.ints .u8 m0 D0]⟩, some ⟨false, [.ints .u8 nm b]⟩, some ⟨true, [.ints .u8 (n + 3) (mkP (List.replicate (n + 3) (0 : Int)) (987 : Int) j)]⟩]⟩

def gv1A_step (j : Nat) (sj : Unit) : Unit :=
  ()

set_option maxHeartbeats 1000000 in
theorem gv1A_round (q k_ : Nat) (L : List Value) (m0 : Nat) (B0 : List Int) (W : List Value) (D0 : List Int) (n nm : Nat) (b : List Int) (cap5 : Nat) (h0 : (nm = n)) (h1 : (n < 17592186044416)) (h2 : (q < 2199023255552)) (h3 : (q = (k_ + 1))) (hc5 : n ≤ cap5) (hl2_0 : List.length B0 = m0) (hl4_0 : List.length D0 = m0) (hl5_0 : List.length b = nm) (w : World) (rw : List Nat) (β : Env) (j : Nat) (hj : j < (n + 3)) (sj : Unit) : Run Try.prog ⟨w, rw, 6, β⟩ (loopB Try.f15 0) (gv1A_mk q k_ L m0 B0 W D0 n nm b cap5 j sj) (To ⟨w, rw, 6, β⟩ .normal (gv1A_mk q k_ L m0 B0 W D0 n nm b cap5 (j + 1) (gv1A_step j sj))) := by
  have e0 : (List.set (mkP (List.replicate (n + 3) (0 : Int)) (987 : Int) j) j (mkBy (987 : Int) ((j : Nat) : Int))) = (mkP (List.replicate (n + 3) (0 : Int)) (987 : Int) (j + 1)) := (by first | exact wrap_succ (by omega) | exact mkP_step (by rw [List.length_replicate]) (by omega))
  have e1 : (IntKind.i64.wrap (((j : Nat) : Int) + (1 : Int))) = (((j + (1 : Nat)) : Nat) : Int) := (by first | exact wrap_succ (by omega) | exact mkP_step (by rw [List.length_replicate]) (by omega))
  have h := Run.of_outT (B := ⟨w, rw, 6, β⟩) (Λ := noLam) (Ψ := noPsi) (fuel := 0) (ora := [true]) (c := (loopB Try.f15 0)) (st := (gv1A_mk q k_ L m0 B0 W D0 n nm b cap5 j sj)) (l := [.forget [0, 1, 4, 5, 6] 7]) (s' := ⟨sparse 61 [(0, .o (.a (.p 0 0))), (1, .o (.a (.sl 5 0 n cap5))), (4, .o (.a nlA)), (5, .o (.a (.sl 6 0 (n + 3) (n + 3)))), (6, .o (.a (.i .i64 (IntKind.i64.wrap (((j : Nat) : Int) + (1 : Int))))))], [some ⟨true, [.rs 1 0 q 1, .rs 3 0 q 1, nlA, nlA, nlA, nlA, nlA, nlA, nlA, nlA, nlA, nlA, nlA, nlA, nlA, nlA, nlA, nlA, nlA, nlA, nlA, nlA, nlA, nlA, nlA, nlA, nlA, nlA, nlA, nlA]⟩, some ⟨true, [.vals k_ L, .sl 2 0 m0 m0]⟩, some ⟨true, [.ints .u8 m0 B0]⟩, some ⟨true, [.vals k_ W, .rs 4 0 m0 1]⟩, some ⟨true, [.ints .u8 m0 D0]⟩, some ⟨false, [.ints .u8 nm b]⟩, some ⟨true, [.ints .u8 (n + 3) (List.set (mkP (List.replicate (n + 3) (0 : Int)) (987 : Int) j) j (mkBy (987 : Int) ((j : Nat) : Int)))]⟩]⟩) (ex := .normal) mix tabOkKB gam35_ok
    (vc := [(j < (n + (3 : Nat))), (((0 : Int) ≤ ((j : Nat) : Int)) ∧ (((j : Nat) : Int) < (((n + (3 : Nat)) : Nat) : Int))), ((decide (((j : Nat) : Int) < (((n + (3 : Nat)) : Nat) : Int))) = true)]) (by kernel_rfl)
    (aC (by first|omega|(simp (disch:=omega) only [wrapI];omega)) (aC ⟨(by first|omega|(simp (disch:=omega) only [wrapI];omega)), (by first|omega|(simp (disch:=omega) only [wrapI];omega))⟩ (aC (decide_eq_true (by first|omega|(simp (disch:=omega) only [wrapI];omega))) (AllP_nil))))
  rw [e0, e1] at h
  exact h

set_option maxHeartbeats 1000000 in
theorem gv1A_last (q k_ : Nat) (L : List Value) (m0 : Nat) (B0 : List Int) (W : List Value) (D0 : List Int) (n nm : Nat) (b : List Int) (cap5 : Nat) (h0 : (nm = n)) (h1 : (n < 17592186044416)) (h2 : (q < 2199023255552)) (h3 : (q = (k_ + 1))) (hc5 : n ≤ cap5) (hl2_0 : List.length B0 = m0) (hl4_0 : List.length D0 = m0) (hl5_0 : List.length b = nm) (w : World) (rw : List Nat) (β : Env) (sj : Unit) : Run Try.prog ⟨w, rw, 6, β⟩ (loopB Try.f15 0) (gv1A_mk q k_ L m0 B0 W D0 n nm b cap5 (n + 3) sj) (To ⟨w, rw, 6, β⟩ (.exit 0) (gv1A_mk q k_ L m0 B0 W D0 n nm b cap5 (n + 3) sj)) :=
  Run.of_outT (B := ⟨w, rw, 6, β⟩) (Λ := noLam) (Ψ := noPsi) (fuel := 0) (ora := [false]) (l := [.forget [0, 1, 4, 5, 6] 7]) mix tabOkKB gam35_ok
    (vc := [((decide ((((n + (3 : Nat)) : Nat) : Int) < (((n + (3 : Nat)) : Nat) : Int))) = false)]) (by kernel_rfl)
    (aC (decide_eq_false (by omega)) (AllP_nil))

theorem gv1A_loop (q k_ : Nat) (L : List Value) (m0 : Nat) (B0 : List Int) (W : List Value) (D0 : List Int) (n nm : Nat) (b : List Int) (cap5 : Nat) (h0 : (nm = n)) (h1 : (n < 17592186044416)) (h2 : (q < 2199023255552)) (h3 : (q = (k_ + 1))) (hc5 : n ≤ cap5) (hl2_0 : List.length B0 = m0) (hl4_0 : List.length D0 = m0) (hl5_0 : List.length b = nm) (w : World) (rw : List Nat) (β : Env) (sj : Unit) : Run Try.prog ⟨w, rw, 6, β⟩ (.block 0 (.loop (loopB Try.f15 0))) (gv1A_mk q k_ L m0 B0 W D0 n nm b cap5 0 sj) (To ⟨w, rw, 6, β⟩ .normal (gv1A_mk q k_ L m0 B0 W D0 n nm b cap5 (n + 3) (iter (gv1A_step) (n + 3) sj))) :=
  Run.count (fun j => gv1A_mk q k_ L m0 B0 W D0 n nm b cap5 j (iter (gv1A_step) j sj)) (n + 3) (fun j hj => gv1A_round q k_ L m0 B0 W D0 n nm b cap5 h0 h1 h2 h3 hc5 hl2_0 hl4_0 hl5_0 w rw β j hj _) (ex := (.exit 0)) (by simp) (gv1A_last q k_ L m0 B0 W D0 n nm b cap5 h0 h1 h2 h3 hc5 hl2_0 hl4_0 hl5_0 w rw β _)

def gv1B_mk (q k_ : Nat) (L : List Value) (m0 : Nat) (B0 : List Int) (W : List Value) (D0 : List Int) (n nm : Nat) (b : List Int) (cap5 j : Nat) (sj : Unit) : St := ⟨sparse 61 [(0, .o (.a (.p 0 0))), (1, .o (.a (.sl 5 0 n cap5))), (4, .o (.a nlA)), (5, .o (.a (.sl 6 0 (n + 3) (n + 3)))), (6, .o (.a (.i .i64 (((n + 3) : Nat) : Int)))), (7, .o (.a (.i .i64 ((j : Nat) : Int))))], [some ⟨true, [.rs 1 0 q 1, .rs 3 0 q 1, nlA, nlA, nlA, nlA, nlA, nlA, nlA, nlA, nlA, nlA, nlA, nlA, nlA, nlA, nlA, nlA, nlA, nlA, nlA, nlA, nlA, nlA, nlA, nlA, nlA, nlA, nlA, nlA]⟩, some ⟨true, [.vals k_ L, .sl 2 0 m0 m0]⟩, some ⟨true, [.ints .u8 m0 B0]⟩, some ⟨true, [.vals k_ W, .rs 4 0 m0 1]⟩, some ⟨true, [.ints .u8 m0 D0]⟩, some ⟨false, [.ints .u8 nm b]⟩, some ⟨true, [.ints .u8 (n + 3) (cpB b (rwB (987 : Int) (n + 3)) j)]⟩]⟩

def gv1B_step (j : Nat) (sj : Unit) : Unit :=
  ()

set_option maxHeartbeats 1000000 in
theorem gv1B_round (q k_ : Nat) (L : List Value) (m0 : Nat) (B0 : List Int) (W : List Value) (D0 : List Int) (n nm : Nat) (b : List Int) (cap5 : Nat) (h0 : (nm = n)) (h1 : (n < 17592186044416)) (h2 : (q < 2199023255552)) (h3 : (q = (k_ + 1))) (hc5 : n ≤ cap5) (hl2_0 : List.length B0 = m0) (hl4_0 : List.length D0 = m0) (hl5_0 : List.length b = nm) (w : World) (rw : List Nat) (β : Env) (j : Nat) (hj : j < n) (sj : Unit) : Run Try.prog ⟨w, rw, 6, β⟩ (loopB Try.f15 2) (gv1B_mk q k_ L m0 B0 W D0 n nm b cap5 j sj) (To ⟨w, rw, 6, β⟩ .normal (gv1B_mk q k_ L m0 B0 W D0 n nm b cap5 (j + 1) (gv1B_step j sj))) := by
  have e0 : (List.set (cpB b (rwB (987 : Int) (n + (3 : Nat))) j) j (List.getD b j 0)) = (cpB b (rwB (987 : Int) (n + (3 : Nat))) (j + (1 : Nat))) := (by first | exact wrap_succ (by omega) | exact cpB_step (hl5_0.trans h0) (rwB_len _ _) (by omega) (by omega))
  have e1 : (IntKind.i64.wrap (((j : Nat) : Int) + (1 : Int))) = (((j + (1 : Nat)) : Nat) : Int) := (by first | exact wrap_succ (by omega) | exact cpB_step (hl5_0.trans h0) (rwB_len _ _) (by omega) (by omega))
  have h := Run.of_outT (B := ⟨w, rw, 6, β⟩) (Λ := noLam) (Ψ := noPsi) (fuel := 0) (ora := [true]) (c := (loopB Try.f15 2)) (st := (gv1B_mk q k_ L m0 B0 W D0 n nm b cap5 j sj)) (l := [.forget [0, 1, 4, 5, 6, 7] 7]) (s' := ⟨sparse 61 [(0, .o (.a (.p 0 0))), (1, .o (.a (.sl 5 0 n cap5))), (4, .o (.a nlA)), (5, .o (.a (.sl 6 0 (n + 3) (n + 3)))), (6, .o (.a (.i .i64 (((n + 3) : Nat) : Int)))), (7, .o (.a (.i .i64 (IntKind.i64.wrap (((j : Nat) : Int) + (1 : Int))))))], [some ⟨true, [.rs 1 0 q 1, .rs 3 0 q 1, nlA, nlA, nlA, nlA, nlA, nlA, nlA, nlA, nlA, nlA, nlA, nlA, nlA, nlA, nlA, nlA, nlA, nlA, nlA, nlA, nlA, nlA, nlA, nlA, nlA, nlA, nlA, nlA]⟩, some ⟨true, [.vals k_ L, .sl 2 0 m0 m0]⟩, some ⟨true, [.ints .u8 m0 B0]⟩, some ⟨true, [.vals k_ W, .rs 4 0 m0 1]⟩, some ⟨true, [.ints .u8 m0 D0]⟩, some ⟨false, [.ints .u8 nm b]⟩, some ⟨true, [.ints .u8 (n + 3) (List.set (cpB b (rwB (987 : Int) (n + 3)) j) j (List.getD b j 0))]⟩]⟩) (ex := .normal) mix tabOkKB gam35_ok
    (vc := [(j < (n + 3)), (((0 : Int) ≤ ((j : Nat) : Int)) ∧ (((j : Nat) : Int) < (((n + 3) : Nat) : Int))), (j < nm), (((0 : Int) ≤ ((j : Nat) : Int)) ∧ (((j : Nat) : Int) < ((n : Nat) : Int))), ((decide (((j : Nat) : Int) < ((n : Nat) : Int))) = true)]) (by kernel_rfl)
    (aC (by first|omega|(simp (disch:=omega) only [wrapI];omega)) (aC ⟨(by first|omega|(simp (disch:=omega) only [wrapI];omega)), (by first|omega|(simp (disch:=omega) only [wrapI];omega))⟩ (aC (by first|omega|(simp (disch:=omega) only [wrapI];omega)) (aC ⟨(by first|omega|(simp (disch:=omega) only [wrapI];omega)), (by first|omega|(simp (disch:=omega) only [wrapI];omega))⟩ (aC (decide_eq_true (by first|omega|(simp (disch:=omega) only [wrapI];omega))) (AllP_nil))))))
  rw [e0, e1] at h
  exact h

set_option maxHeartbeats 1000000 in
theorem gv1B_last (q k_ : Nat) (L : List Value) (m0 : Nat) (B0 : List Int) (W : List Value) (D0 : List Int) (n nm : Nat) (b : List Int) (cap5 : Nat) (h0 : (nm = n)) (h1 : (n < 17592186044416)) (h2 : (q < 2199023255552)) (h3 : (q = (k_ + 1))) (hc5 : n ≤ cap5) (hl2_0 : List.length B0 = m0) (hl4_0 : List.length D0 = m0) (hl5_0 : List.length b = nm) (w : World) (rw : List Nat) (β : Env) (sj : Unit) : Run Try.prog ⟨w, rw, 6, β⟩ (loopB Try.f15 2) (gv1B_mk q k_ L m0 B0 W D0 n nm b cap5 n sj) (To ⟨w, rw, 6, β⟩ (.exit 2) (gv1B_mk q k_ L m0 B0 W D0 n nm b cap5 n sj)) :=
  Run.of_outT (B := ⟨w, rw, 6, β⟩) (Λ := noLam) (Ψ := noPsi) (fuel := 0) (ora := [false]) (l := [.forget [0, 1, 4, 5, 6, 7] 7]) mix tabOkKB gam35_ok
    (vc := [((decide (((n : Nat) : Int) < ((n : Nat) : Int))) = false)]) (by kernel_rfl)
    (aC (decide_eq_false (by omega)) (AllP_nil))

theorem gv1B_loop (q k_ : Nat) (L : List Value) (m0 : Nat) (B0 : List Int) (W : List Value) (D0 : List Int) (n nm : Nat) (b : List Int) (cap5 : Nat) (h0 : (nm = n)) (h1 : (n < 17592186044416)) (h2 : (q < 2199023255552)) (h3 : (q = (k_ + 1))) (hc5 : n ≤ cap5) (hl2_0 : List.length B0 = m0) (hl4_0 : List.length D0 = m0) (hl5_0 : List.length b = nm) (w : World) (rw : List Nat) (β : Env) (sj : Unit) : Run Try.prog ⟨w, rw, 6, β⟩ (.block 2 (.loop (loopB Try.f15 2))) (gv1B_mk q k_ L m0 B0 W D0 n nm b cap5 0 sj) (To ⟨w, rw, 6, β⟩ .normal (gv1B_mk q k_ L m0 B0 W D0 n nm b cap5 n (iter (gv1B_step) n sj))) :=
  Run.count (fun j => gv1B_mk q k_ L m0 B0 W D0 n nm b cap5 j (iter (gv1B_step) j sj)) n (fun j hj => gv1B_round q k_ L m0 B0 W D0 n nm b cap5 h0 h1 h2 h3 hc5 hl2_0 hl4_0 hl5_0 w rw β j hj _) (ex := (.exit 2)) (by simp) (gv1B_last q k_ L m0 B0 W D0 n nm b cap5 h0 h1 h2 h3 hc5 hl2_0 hl4_0 hl5_0 w rw β _)

def gv1 (n : Nat) : Nat :=
  (n + (3 : Nat))

def gv1_1 (q : Nat) : Nat :=
  (q + (1 : Nat))

set_option maxHeartbeats 1000000 in
theorem gv1_body0 (q k_ : Nat) (L : List Value) (m0 : Nat) (B0 : List Int) (W : List Value) (D0 : List Int) (n nm : Nat) (b : List Int) (cap5 : Nat) (h0 : (nm = n)) (h1 : (n < 17592186044416)) (h2 : (q < 2199023255552)) (h3 : (q = (k_ + 1))) (hc5 : n ≤ cap5) (hl2_0 : List.length B0 = m0) (hl4_0 : List.length D0 = m0) (hl5_0 : List.length b = nm) (w : World) (rw : List Nat) (β : Env) : Body Try.prog (tabOf tabKB) Try.f15 ⟨w, rw, 6, β⟩ [.o (.a (.p 0 0)), .o (.a (.sl 5 0 n cap5))] [some ⟨true, [.rs 1 0 q 1, .rs 3 0 q 1, nlA, nlA, nlA, nlA, nlA, nlA, nlA, nlA, nlA, nlA, nlA, nlA, nlA, nlA, nlA, nlA, nlA, nlA, nlA, nlA, nlA, nlA, nlA, nlA, nlA, nlA, nlA, nlA]⟩, some ⟨true, [.vals k_ L, .sl 2 0 m0 m0]⟩, some ⟨true, [.ints .u8 m0 B0]⟩, some ⟨true, [.vals k_ W, .rs 4 0 m0 1]⟩, some ⟨true, [.ints .u8 m0 D0]⟩, some ⟨false, [.ints .u8 nm b]⟩] (fun ys K' => ys = [.a (.sl 8 0 n (gv1 n))] ∧ K' = [some ⟨true, [.rs 6 0 (gv1_1 q) 1, .rs 7 0 (gv1_1 q) 1, nlA, nlA, nlA, nlA, nlA, nlA, nlA, nlA, nlA, nlA, nlA, nlA, nlA, nlA, nlA, nlA, nlA, nlA, nlA, nlA, nlA, nlA, nlA, nlA, nlA, nlA, nlA, nlA]⟩, none, some ⟨true, [.ints .u8 m0 B0]⟩, none, some ⟨true, [.ints .u8 m0 D0]⟩, some ⟨false, [.ints .u8 nm b]⟩, some ⟨true, [.vals k_ L, .sl 2 0 m0 m0, .sl 8 0 (gv1 n) (gv1 n)]⟩, some ⟨true, [.vals k_ W, .rs 4 0 m0 1, .rs 9 0 (gv1 n) 1]⟩, some ⟨true, [.ints .u8 (gv1 n) (gvB n b)]⟩, some ⟨true, [.ints .u8 (gv1 n) (gvB n b)]⟩]) :=
  Body.of_finK (Γ := gam35) (Λ := lamOf [(0, ⟨[.forget [0, 1, 4, 5, 6] 7], .normal, (gv1A_mk q k_ L m0 B0 W D0 n nm b cap5 (n + 3) (iter (gv1A_step) (n + 3) ()))⟩), (2, ⟨[.forget [0, 1, 4, 5, 6, 7] 7], .normal, (gv1B_mk q k_ L m0 B0 W D0 n nm b cap5 n (iter (gv1B_step) n ()))⟩)]) (Ψ := psiOf [(1, [.eqS 5 (.o (.a (.sl 6 0 (n + 3) (n + 3)))), .eqB 6 (⟨true, [.ints .u8 (n + 3) (List.replicate (n + 3) (0 : Int))]⟩)]), (6, [.eqB 6 (⟨true, [.ints .u8 (n + 3) (rwB (987 : Int) (n + 3))]⟩)]), (10, [.eqB 6 (⟨true, [.ints .u8 (n + 3) (gvB n b)]⟩)]), (11, [.eqB 9 (⟨true, [.ints .u8 (n + 3) (gvB n b)]⟩)])]) (fuel := 0) (m := 61) (c := (Try.f15.body.getD .skip)) mix tabOkKB gam35_ok rfl (rs := [.tmp 4]) rfl rfl [false, false] [.swap 6 8, .swap 7 11] 10
    (vc := [((cZ 0) ∧ ((0 : Int) ≤ ((n : Nat) : Int)) ∧ (((n : Nat) : Int) ≤ (((n + 3) : Nat) : Int))), ((some ⟨true, [.ints .u8 (n + 3) (copyB (n + 3) (sub (gvB n b) 0 (n + 3)))]⟩ : Option Blk) = some ⟨true, [.ints .u8 (n + 3) (gvB n b)]⟩), (((0 = 0) ∧ (q = (k_ + 1))) ∧ ((1 ≤ 1) ∧ True) ∧ (((q + 1) * 24) ≤ 140737488355328)), ((((0 + (n + 3)) ≤ (n + 3)) ∧ True) ∧ (((n + 3) = (n + 3)) ∧ ((n + 3) < 35184372088832))), ((some ⟨true, [.ints .u8 (n + 3) (cpB b (rwB (987 : Int) (n + 3)) n)]⟩ : Option Blk) = some ⟨true, [.ints .u8 (n + 3) (gvB n b)]⟩), (((0 = 0) ∧ (q = (k_ + 1))) ∧ ((1 ≤ 1) ∧ True) ∧ (((q + 1) * 24) ≤ 140737488355328)), (Run Try.prog ⟨w, rw, 6, β⟩ (.block 2 (.loop (loopB Try.f15 2))) (gv1B_mk q k_ L m0 B0 W D0 n nm b cap5 0 ()) (To ⟨w, rw, 6, β⟩ .normal (gv1B_mk q k_ L m0 B0 W D0 n nm b cap5 n (iter (gv1B_step) n ())))), ((some ⟨true, [.ints .u8 (n + 3) (mkP (List.replicate (n + 3) (0 : Int)) (987 : Int) (n + 3))]⟩ : Option Blk) = some ⟨true, [.ints .u8 (n + 3) (rwB (987 : Int) (n + 3))]⟩), (Run Try.prog ⟨w, rw, 6, β⟩ (.block 0 (.loop (loopB Try.f15 0))) (gv1A_mk q k_ L m0 B0 W D0 n nm b cap5 0 ()) (To ⟨w, rw, 6, β⟩ .normal (gv1A_mk q k_ L m0 B0 W D0 n nm b cap5 (n + 3) (iter (gv1A_step) (n + 3) ())))), ((some ⟨true, [.ints .u8 (Int.toNat (IntKind.i64.wrap (((n : Nat) : Int) + (3 : Int)))) (List.replicate (Int.toNat (IntKind.i64.wrap (((n : Nat) : Int) + (3 : Int)))) (0 : Int))]⟩ : Option Blk) = some ⟨true, [.ints .u8 (n + 3) (List.replicate (n + 3) (0 : Int))]⟩), ((.o (.a (.sl 6 0 (Int.toNat (IntKind.i64.wrap (((n : Nat) : Int) + (3 : Int)))) (Int.toNat (IntKind.i64.wrap (((n : Nat) : Int) + (3 : Int)))))) : AV) = .o (.a (.sl 6 0 (n + 3) (n + 3)))), (((0 : Int) ≤ (IntKind.i64.wrap (((n : Nat) : Int) + (3 : Int)))) ∧ ((IntKind.i64.wrap (((n : Nat) : Int) + (3 : Int))) ≤ (IntKind.i64.wrap (((n : Nat) : Int) + (3 : Int)))) ∧ (((IntKind.i64.wrap (((n : Nat) : Int) + (3 : Int))) * (1 : Int)) ≤ (281474976710656 : Int)))]) (by kernel_rfl)
    (aC ⟨(dd rfl), (by first|omega|(simp (disch:=omega) only [wrapI];omega)), (by first|omega|(simp (disch:=omega) only [wrapI];omega))⟩ (aC ((by rw [show copyB (n + 3) (sub (gvB n b) 0 (n + 3)) = gvB n b from gv_copy (hl5_0.trans h0)])) (aC ⟨⟨rfl, h3⟩, ⟨(dd rfl), trivial⟩, (by first|omega|(simp (disch:=omega) only [wrapI];omega))⟩ (aC ⟨⟨(by first|omega|(simp (disch:=omega) only [wrapI];omega)), trivial⟩, ⟨rfl, (by first|omega|(simp (disch:=omega) only [wrapI];omega))⟩⟩ (aC (rfl) (aC ⟨⟨rfl, h3⟩, ⟨(dd rfl), trivial⟩, (by first|omega|(simp (disch:=omega) only [wrapI];omega))⟩ (aC (gv1B_loop q k_ L m0 B0 W D0 n nm b cap5 h0 h1 h2 h3 hc5 hl2_0 hl4_0 hl5_0 w rw β ()) (aC ((by rw [mkP_all (by rw [List.length_replicate])])) (aC (gv1A_loop q k_ L m0 B0 W D0 n nm b cap5 h0 h1 h2 h3 hc5 hl2_0 hl4_0 hl5_0 w rw β ()) (aC ((by rw [wrapI (by omega) (by omega), show Int.toNat (((n : Nat) : Int) + 3) = n + 3 from by omega])) (aC ((by rw [wrapI (by omega) (by omega), show Int.toNat (((n : Nat) : Int) + 3) = n + 3 from by omega])) (aC ⟨(by first|omega|(simp (disch:=omega) only [wrapI];omega)), (by first|omega|(simp (disch:=omega) only [wrapI];omega)), (by first|omega|(simp (disch:=omega) only [wrapI];omega))⟩ (AllP_nil)))))))))))))

theorem gv1_body (q k_ : Nat) (L : List Value) (m0 : Nat) (B0 : List Int) (W : List Value) (D0 : List Int) (n nm : Nat) (b : List Int) (cap5 : Nat) (h0 : (nm = n)) (h1 : (n < 17592186044416)) (h2 : (q < 2199023255552)) (h3 : (q = (k_ + 1))) (w : World) (rw : List Nat) (β : Env) : Body Try.prog (tabOf tabKB) Try.f15 ⟨w, rw, 6, β⟩ [.o (.a (.p 0 0)), .o (.a (.sl 5 0 n cap5))] [some ⟨true, [.rs 1 0 q 1, .rs 3 0 q 1, nlA, nlA, nlA, nlA, nlA, nlA, nlA, nlA, nlA, nlA, nlA, nlA, nlA, nlA, nlA, nlA, nlA, nlA, nlA, nlA, nlA, nlA, nlA, nlA, nlA, nlA, nlA, nlA]⟩, some ⟨true, [.vals k_ L, .sl 2 0 m0 m0]⟩, some ⟨true, [.ints .u8 m0 B0]⟩, some ⟨true, [.vals k_ W, .rs 4 0 m0 1]⟩, some ⟨true, [.ints .u8 m0 D0]⟩, some ⟨false, [.ints .u8 nm b]⟩] (fun ys K' => ys = [.a (.sl 8 0 n (gv1 n))] ∧ K' = [some ⟨true, [.rs 6 0 (gv1_1 q) 1, .rs 7 0 (gv1_1 q) 1, nlA, nlA, nlA, nlA, nlA, nlA, nlA, nlA, nlA, nlA, nlA, nlA, nlA, nlA, nlA, nlA, nlA, nlA, nlA, nlA, nlA, nlA, nlA, nlA, nlA, nlA, nlA, nlA]⟩, none, some ⟨true, [.ints .u8 m0 B0]⟩, none, some ⟨true, [.ints .u8 m0 D0]⟩, some ⟨false, [.ints .u8 nm b]⟩, some ⟨true, [.vals k_ L, .sl 2 0 m0 m0, .sl 8 0 (gv1 n) (gv1 n)]⟩, some ⟨true, [.vals k_ W, .rs 4 0 m0 1, .rs 9 0 (gv1 n) 1]⟩, some ⟨true, [.ints .u8 (gv1 n) (gvB n b)]⟩, some ⟨true, [.ints .u8 (gv1 n) (gvB n b)]⟩]) :=
  Body.lens (c := (Try.f15.body.getD .skip)) rfl fun h => gv1_body0 q k_ L m0 B0 W D0 n nm b cap5 h0 h1 h2 h3 (h.caps 1 _ _ _ _ rfl) (h.lens 2 _ .u8 m0 B0 rfl (by simp)) (h.lens 4 _ .u8 m0 D0 rfl (by simp)) (h.lens 5 _ .u8 nm b rfl (by simp)) w rw β

def gv2A_mk (q k_ : Nat) (L : List Value) (m0 m1 : Nat) (B0 B1 : List Int) (W : List Value) (D0 D1 : List Int) (n nm : Nat) (b : List Int) (cap7 j : Nat) (sj : Unit) : St := ⟨sparse 61 [(0, .o (.a (.p 0 0))), (1, .o (.a (.sl 7 0 n cap7))), (4, .o (.a nlA)), (5, .o (.a (.sl 8 0 (n + 3) (n + 3)))), (6, .o (.a (.i .i64 ((j : Nat) : Int))))], [some ⟨true, [.rs 1 0 q 1, .rs 4 0 q 1, nlA, nlA, nlA, nlA, nlA, nlA, nlA, nlA, nlA, nlA, nlA, nlA, nlA, nlA, nlA, nlA, nlA, nlA, nlA, nlA, nlA, nlA, nlA, nlA, nlA, nlA, nlA, nlA]⟩, some ⟨true, [.vals k_ L, .sl 2 0 m0 m0, .sl 3 0 m1 m1]⟩, some ⟨true, [.ints .u8 m0 B0]⟩, some ⟨true, [.ints .u8 m1 B1]⟩, some ⟨true, [.vals k_ W, .rs 5 0 m0 1, .rs 6 0 m1 1]⟩, some ⟨true, [.ints .u8 m0 D0]⟩, some ⟨true, [.ints .u8 m1 D1]⟩, some ⟨false, [.ints .u8 nm b]⟩, some ⟨true, [.ints .u8 (n + 3) (mkP (List.replicate (n + 3) (0 : Int)) (987 : Int) j)]⟩]⟩

def gv2A_step (j : Nat) (sj : Unit) : Unit :=
  ()

set_option maxHeartbeats 1000000 in
theorem gv2A_round (q k_ : Nat) (L : List Value) (m0 m1 : Nat) (B0 B1 : List Int) (W : List Value) (D0 D1 : List Int) (n nm : Nat) (b : List Int) (cap7 : Nat) (h0 : (nm = n)) (h1 : (n < 17592186044416)) (h2 : (q < 2199023255552)) (h3 : (q = (k_ + 2))) (hc7 : n ≤ cap7) (hl2_0 : List.length B0 = m0) (hl3_0 : List.length B1 = m1) (hl5_0 : List.length D0 = m0) (hl6_0 : List.length D1 = m1) (hl7_0 : List.length b = nm) (w : World) (rw : List Nat) (β : Env) (j : Nat) (hj : j < (n + 3)) (sj : Unit) : Run Try.prog ⟨w, rw, 8, β⟩ (loopB Try.f15 0) (gv2A_mk q k_ L m0 m1 B0 B1 W D0 D1 n nm b cap7 j sj) (To ⟨w, rw, 8, β⟩ .normal (gv2A_mk q k_ L m0 m1 B0 B1 W D0 D1 n nm b cap7 (j + 1) (gv2A_step j sj))) := by
  have e0 : (List.set (mkP (List.replicate (n + 3) (0 : Int)) (987 : Int) j) j (mkBy (987 : Int) ((j : Nat) : Int))) = (mkP (List.replicate (n + 3) (0 : Int)) (987 : Int) (j + 1)) := (by first | exact wrap_succ (by omega) | exact mkP_step (by rw [List.length_replicate]) (by omega))
  have e1 : (IntKind.i64.wrap (((j : Nat) : Int) + (1 : Int))) = (((j + (1 : Nat)) : Nat) : Int) := (by first | exact wrap_succ (by omega) | exact mkP_step (by rw [List.length_replicate]) (by omega))
  have h := Run.of_outT (B := ⟨w, rw, 8, β⟩) (Λ := noLam) (Ψ := noPsi) (fuel := 0) (ora := [true]) (c := (loopB Try.f15 0)) (st := (gv2A_mk q k_ L m0 m1 B0 B1 W D0 D1 n nm b cap7 j sj)) (l := [.forget [0, 1, 4, 5, 6] 9]) (s' := ⟨sparse 61 [(0, .o (.a (.p 0 0))), (1, .o (.a (.sl 7 0 n cap7))), (4, .o (.a nlA)), (5, .o (.a (.sl 8 0 (n + 3) (n + 3)))), (6, .o (.a (.i .i64 (IntKind.i64.wrap (((j : Nat) : Int) + (1 : Int))))))], [some ⟨true, [.rs 1 0 q 1, .rs 4 0 q 1, nlA, nlA, nlA, nlA, nlA, nlA, nlA, nlA, nlA, nlA, nlA, nlA, nlA, nlA, nlA, nlA, nlA, nlA, nlA, nlA, nlA, nlA, nlA, nlA, nlA, nlA, nlA, nlA]⟩, some ⟨true, [.vals k_ L, .sl 2 0 m0 m0, .sl 3 0 m1 m1]⟩, some ⟨true, [.ints .u8 m0 B0]⟩, some ⟨true, [.ints .u8 m1 B1]⟩, some ⟨true, [.vals k_ W, .rs 5 0 m0 1, .rs 6 0 m1 1]⟩, some ⟨true, [.ints .u8 m0 D0]⟩, some ⟨true, [.ints .u8 m1 D1]⟩, some ⟨false, [.ints .u8 nm b]⟩, some ⟨true, [.ints .u8 (n + 3) (List.set (mkP (List.replicate (n + 3) (0 : Int)) (987 : Int) j) j (mkBy (987 : Int) ((j : Nat) : Int)))]⟩]⟩) (ex := .normal) mix tabOkKB gam35_ok
    (vc := [(j < (n + (3 : Nat))), (((0 : Int) ≤ ((j : Nat) : Int)) ∧ (((j : Nat) : Int) < (((n + (3 : Nat)) : Nat) : Int))), ((decide (((j : Nat) : Int) < (((n + (3 : Nat)) : Nat) : Int))) = true)]) (by kernel_rfl)
    (aC (by first|omega|(simp (disch:=omega) only [wrapI];omega)) (aC ⟨(by first|omega|(simp (disch:=omega) only [wrapI];omega)), (by first|omega|(simp (disch:=omega) only [wrapI];omega))⟩ (aC (decide_eq_true (by first|omega|(simp (disch:=omega) only [wrapI];omega))) (AllP_nil))))
  rw [e0, e1] at h
  exact h

set_option maxHeartbeats 1000000 in
theorem gv2A_last (q k_ : Nat) (L : List Value) (m0 m1 : Nat) (B0 B1 : List Int) (W : List Value) (D0 D1 : List Int) (n nm : Nat) (b : List Int) (cap7 : Nat) (h0 : (nm = n)) (h1 : (n < 17592186044416)) (h2 : (q < 2199023255552)) (h3 : (q = (k_ + 2))) (hc7 : n ≤ cap7) (hl2_0 : List.length B0 = m0) (hl3_0 : List.length B1 = m1) (hl5_0 : List.length D0 = m0) (hl6_0 : List.length D1 = m1) (hl7_0 : List.length b = nm) (w : World) (rw : List Nat) (β : Env) (sj : Unit) : Run Try.prog ⟨w, rw, 8, β⟩ (loopB Try.f15 0) (gv2A_mk q k_ L m0 m1 B0 B1 W D0 D1 n nm b cap7 (n + 3) sj) (To ⟨w, rw, 8, β⟩ (.exit 0) (gv2A_mk q k_ L m0 m1 B0 B1 W D0 D1 n nm b cap7 (n + 3) sj)) :=
  Run.of_outT (B := ⟨w, rw, 8, β⟩) (Λ := noLam) (Ψ := noPsi) (fuel := 0) (ora := [false]) (l := [.forget [0, 1, 4, 5, 6] 9]) mix tabOkKB gam35_ok
    (vc := [((decide ((((n + (3 : Nat)) : Nat) : Int) < (((n + (3 : Nat)) : Nat) : Int))) = false)]) (by kernel_rfl)
    (aC (decide_eq_false (by omega)) (AllP_nil))

theorem gv2A_loop (q k_ : Nat) (L : List Value) (m0 m1 : Nat) (B0 B1 : List Int) (W : List Value) (D0 D1 : List Int) (n nm : Nat) (b : List Int) (cap7 : Nat) (h0 : (nm = n)) (h1 : (n < 17592186044416)) (h2 : (q < 2199023255552)) (h3 : (q = (k_ + 2))) (hc7 : n ≤ cap7) (hl2_0 : List.length B0 = m0) (hl3_0 : List.length B1 = m1) (hl5_0 : List.length D0 = m0) (hl6_0 : List.length D1 = m1) (hl7_0 : List.length b = nm) (w : World) (rw : List Nat) (β : Env) (sj : Unit) : Run Try.prog ⟨w, rw, 8, β⟩ (.block 0 (.loop (loopB Try.f15 0))) (gv2A_mk q k_ L m0 m1 B0 B1 W D0 D1 n nm b cap7 0 sj) (To ⟨w, rw, 8, β⟩ .normal (gv2A_mk q k_ L m0 m1 B0 B1 W D0 D1 n nm b cap7 (n + 3) (iter (gv2A_step) (n + 3) sj))) :=
  Run.count (fun j => gv2A_mk q k_ L m0 m1 B0 B1 W D0 D1 n nm b cap7 j (iter (gv2A_step) j sj)) (n + 3) (fun j hj => gv2A_round q k_ L m0 m1 B0 B1 W D0 D1 n nm b cap7 h0 h1 h2 h3 hc7 hl2_0 hl3_0 hl5_0 hl6_0 hl7_0 w rw β j hj _) (ex := (.exit 0)) (by simp) (gv2A_last q k_ L m0 m1 B0 B1 W D0 D1 n nm b cap7 h0 h1 h2 h3 hc7 hl2_0 hl3_0 hl5_0 hl6_0 hl7_0 w rw β _)

def gv2B_mk (q k_ : Nat) (L : List Value) (m0 m1 : Nat) (B0 B1 : List Int) (W : List Value) (D0 D1 : List Int) (n nm : Nat) (b : List Int) (cap7 j : Nat) (sj : Unit) : St := ⟨sparse 61 [(0, .o (.a (.p 0 0))), (1, .o (.a (.sl 7 0 n cap7))), (4, .o (.a nlA)), (5, .o (.a (.sl 8 0 (n + 3) (n + 3)))), (6, .o (.a (.i .i64 (((n + 3) : Nat) : Int)))), (7, .o (.a (.i .i64 ((j : Nat) : Int))))], [some ⟨true, [.rs 1 0 q 1, .rs 4 0 q 1, nlA, nlA, nlA, nlA, nlA, nlA, nlA, nlA, nlA, nlA, nlA, nlA, nlA, nlA, nlA, nlA, nlA, nlA, nlA, nlA, nlA, nlA, nlA, nlA, nlA, nlA, nlA, nlA]⟩, some ⟨true, [.vals k_ L, .sl 2 0 m0 m0, .sl 3 0 m1 m1]⟩, some ⟨true, [.ints .u8 m0 B0]⟩, some ⟨true, [.ints .u8 m1 B1]⟩, some ⟨true, [.vals k_ W, .rs 5 0 m0 1, .rs 6 0 m1 1]⟩, some ⟨true, [.ints .u8 m0 D0]⟩, some ⟨true, [.ints .u8 m1 D1]⟩, some ⟨false, [.ints .u8 nm b]⟩, some ⟨true, [.ints .u8 (n + 3) (cpB b (rwB (987 : Int) (n + 3)) j)]⟩]⟩

def gv2B_step (j : Nat) (sj : Unit) : Unit :=
  ()

set_option maxHeartbeats 1000000 in
theorem gv2B_round (q k_ : Nat) (L : List Value) (m0 m1 : Nat) (B0 B1 : List Int) (W : List Value) (D0 D1 : List Int) (n nm : Nat) (b : List Int) (cap7 : Nat) (h0 : (nm = n)) (h1 : (n < 17592186044416)) (h2 : (q < 2199023255552)) (h3 : (q = (k_ + 2))) (hc7 : n ≤ cap7) (hl2_0 : List.length B0 = m0) (hl3_0 : List.length B1 = m1) (hl5_0 : List.length D0 = m0) (hl6_0 : List.length D1 = m1) (hl7_0 : List.length b = nm) (w : World) (rw : List Nat) (β : Env) (j : Nat) (hj : j < n) (sj : Unit) : Run Try.prog ⟨w, rw, 8, β⟩ (loopB Try.f15 2) (gv2B_mk q k_ L m0 m1 B0 B1 W D0 D1 n nm b cap7 j sj) (To ⟨w, rw, 8, β⟩ .normal (gv2B_mk q k_ L m0 m1 B0 B1 W D0 D1 n nm b cap7 (j + 1) (gv2B_step j sj))) := by
  have e0 : (List.set (cpB b (rwB (987 : Int) (n + (3 : Nat))) j) j (List.getD b j 0)) = (cpB b (rwB (987 : Int) (n + (3 : Nat))) (j + (1 : Nat))) := (by first | exact wrap_succ (by omega) | exact cpB_step (hl7_0.trans h0) (rwB_len _ _) (by omega) (by omega))
  have e1 : (IntKind.i64.wrap (((j : Nat) : Int) + (1 : Int))) = (((j + (1 : Nat)) : Nat) : Int) := (by first | exact wrap_succ (by omega) | exact cpB_step (hl7_0.trans h0) (rwB_len _ _) (by omega) (by omega))
  have h := Run.of_outT (B := ⟨w, rw, 8, β⟩) (Λ := noLam) (Ψ := noPsi) (fuel := 0) (ora := [true]) (c := (loopB Try.f15 2)) (st := (gv2B_mk q k_ L m0 m1 B0 B1 W D0 D1 n nm b cap7 j sj)) (l := [.forget [0, 1, 4, 5, 6, 7] 9]) (s' := ⟨sparse 61 [(0, .o (.a (.p 0 0))), (1, .o (.a (.sl 7 0 n cap7))), (4, .o (.a nlA)), (5, .o (.a (.sl 8 0 (n + 3) (n + 3)))), (6, .o (.a (.i .i64 (((n + 3) : Nat) : Int)))), (7, .o (.a (.i .i64 (IntKind.i64.wrap (((j : Nat) : Int) + (1 : Int))))))], [some ⟨true, [.rs 1 0 q 1, .rs 4 0 q 1, nlA, nlA, nlA, nlA, nlA, nlA, nlA, nlA, nlA, nlA, nlA, nlA, nlA, nlA, nlA, nlA, nlA, nlA, nlA, nlA, nlA, nlA, nlA, nlA, nlA, nlA, nlA, nlA]⟩, some ⟨true, [.vals k_ L, .sl 2 0 m0 m0, .sl 3 0 m1 m1]⟩, some ⟨true, [.ints .u8 m0 B0]⟩, some ⟨true, [.ints .u8 m1 B1]⟩, some ⟨true, [.vals k_ W, .rs 5 0 m0 1, .rs 6 0 m1 1]⟩, some ⟨true, [.ints .u8 m0 D0]⟩, some ⟨true, [.ints .u8 m1 D1]⟩, some ⟨false, [.ints .u8 nm b]⟩, some ⟨true, [.ints .u8 (n + 3) (List.set (cpB b (rwB (987 : Int) (n + 3)) j) j (List.getD b j 0))]⟩]⟩) (ex := .normal) mix tabOkKB gam35_ok
    (vc := [(j < (n + 3)), (((0 : Int) ≤ ((j : Nat) : Int)) ∧ (((j : Nat) : Int) < (((n + 3) : Nat) : Int))), (j < nm), (((0 : Int) ≤ ((j : Nat) : Int)) ∧ (((j : Nat) : Int) < ((n : Nat) : Int))), ((decide (((j : Nat) : Int) < ((n : Nat) : Int))) = true)]) (by kernel_rfl)
    (aC (by first|omega|(simp (disch:=omega) only [wrapI];omega)) (aC ⟨(by first|omega|(simp (disch:=omega) only [wrapI];omega)), (by first|omega|(simp (disch:=omega) only [wrapI];omega))⟩ (aC (by first|omega|(simp (disch:=omega) only [wrapI];omega)) (aC ⟨(by first|omega|(simp (disch:=omega) only [wrapI];omega)), (by first|omega|(simp (disch:=omega) only [wrapI];omega))⟩ (aC (decide_eq_true (by first|omega|(simp (disch:=omega) only [wrapI];omega))) (AllP_nil))))))
  rw [e0, e1] at h
  exact h

set_option maxHeartbeats 1000000 in
theorem gv2B_last (q k_ : Nat) (L : List Value) (m0 m1 : Nat) (B0 B1 : List Int) (W : List Value) (D0 D1 : List Int) (n nm : Nat) (b : List Int) (cap7 : Nat) (h0 : (nm = n)) (h1 : (n < 17592186044416)) (h2 : (q < 2199023255552)) (h3 : (q = (k_ + 2))) (hc7 : n ≤ cap7) (hl2_0 : List.length B0 = m0) (hl3_0 : List.length B1 = m1) (hl5_0 : List.length D0 = m0) (hl6_0 : List.length D1 = m1) (hl7_0 : List.length b = nm) (w : World) (rw : List Nat) (β : Env) (sj : Unit) : Run Try.prog ⟨w, rw, 8, β⟩ (loopB Try.f15 2) (gv2B_mk q k_ L m0 m1 B0 B1 W D0 D1 n nm b cap7 n sj) (To ⟨w, rw, 8, β⟩ (.exit 2) (gv2B_mk q k_ L m0 m1 B0 B1 W D0 D1 n nm b cap7 n sj)) :=
  Run.of_outT (B := ⟨w, rw, 8, β⟩) (Λ := noLam) (Ψ := noPsi) (fuel := 0) (ora := [false]) (l := [.forget [0, 1, 4, 5, 6, 7] 9]) mix tabOkKB gam35_ok
    (vc := [((decide (((n : Nat) : Int) < ((n : Nat) : Int))) = false)]) (by kernel_rfl)
    (aC (decide_eq_false (by omega)) (AllP_nil))

theorem gv2B_loop (q k_ : Nat) (L : List Value) (m0 m1 : Nat) (B0 B1 : List Int) (W : List Value) (D0 D1 : List Int) (n nm : Nat) (b : List Int) (cap7 : Nat) (h0 : (nm = n)) (h1 : (n < 17592186044416)) (h2 : (q < 2199023255552)) (h3 : (q = (k_ + 2))) (hc7 : n ≤ cap7) (hl2_0 : List.length B0 = m0) (hl3_0 : List.length B1 = m1) (hl5_0 : List.length D0 = m0) (hl6_0 : List.length D1 = m1) (hl7_0 : List.length b = nm) (w : World) (rw : List Nat) (β : Env) (sj : Unit) : Run Try.prog ⟨w, rw, 8, β⟩ (.block 2 (.loop (loopB Try.f15 2))) (gv2B_mk q k_ L m0 m1 B0 B1 W D0 D1 n nm b cap7 0 sj) (To ⟨w, rw, 8, β⟩ .normal (gv2B_mk q k_ L m0 m1 B0 B1 W D0 D1 n nm b cap7 n (iter (gv2B_step) n sj))) :=
  Run.count (fun j => gv2B_mk q k_ L m0 m1 B0 B1 W D0 D1 n nm b cap7 j (iter (gv2B_step) j sj)) n (fun j hj => gv2B_round q k_ L m0 m1 B0 B1 W D0 D1 n nm b cap7 h0 h1 h2 h3 hc7 hl2_0 hl3_0 hl5_0 hl6_0 hl7_0 w rw β j hj _) (ex := (.exit 2)) (by simp) (gv2B_last q k_ L m0 m1 B0 B1 W D0 D1 n nm b cap7 h0 h1 h2 h3 hc7 hl2_0 hl3_0 hl5_0 hl6_0 hl7_0 w rw β _)

def gv2 (n : Nat) : Nat :=
  (n + (3 : Nat))

def gv2_1 (q : Nat) : Nat :=
  (q + (1 : Nat))

set_option maxHeartbeats 1000000 in
theorem gv2_body0 (q k_ : Nat) (L : List Value) (m0 m1 : Nat) (B0 B1 : List Int) (W : List Value) (D0 D1 : List Int) (n nm : Nat) (b : List Int) (cap7 : Nat) (h0 : (nm = n)) (h1 : (n < 17592186044416)) (h2 : (q < 2199023255552)) (h3 : (q = (k_ + 2))) (hc7 : n ≤ cap7) (hl2_0 : List.length B0 = m0) (hl3_0 : List.length B1 = m1) (hl5_0 : List.length D0 = m0) (hl6_0 : List.length D1 = m1) (hl7_0 : List.length b = nm) (w : World) (rw : List Nat) (β : Env) : Body Try.prog (tabOf tabKB) Try.f15 ⟨w, rw, 8, β⟩ [.o (.a (.p 0 0)), .o (.a (.sl 7 0 n cap7))] [some ⟨true, [.rs 1 0 q 1, .rs 4 0 q 1, nlA, nlA, nlA, nlA, nlA, nlA, nlA, nlA, nlA, nlA, nlA, nlA, nlA, nlA, nlA, nlA, nlA, nlA, nlA, nlA, nlA, nlA, nlA, nlA, nlA, nlA, nlA, nlA]⟩, some ⟨true, [.vals k_ L, .sl 2 0 m0 m0, .sl 3 0 m1 m1]⟩, some ⟨true, [.ints .u8 m0 B0]⟩, some ⟨true, [.ints .u8 m1 B1]⟩, some ⟨true, [.vals k_ W, .rs 5 0 m0 1, .rs 6 0 m1 1]⟩, some ⟨true, [.ints .u8 m0 D0]⟩, some ⟨true, [.ints .u8 m1 D1]⟩, some ⟨false, [.ints .u8 nm b]⟩] (fun ys K' => ys = [.a (.sl 10 0 n (gv2 n))] ∧ K' = [some ⟨true, [.rs 8 0 (gv2_1 q) 1, .rs 9 0 (gv2_1 q) 1, nlA, nlA, nlA, nlA, nlA, nlA, nlA, nlA, nlA, nlA, nlA, nlA, nlA, nlA, nlA, nlA, nlA, nlA, nlA, nlA, nlA, nlA, nlA, nlA, nlA, nlA, nlA, nlA]⟩, none, some ⟨true, [.ints .u8 m0 B0]⟩, some ⟨true, [.ints .u8 m1 B1]⟩, none, some ⟨true, [.ints .u8 m0 D0]⟩, some ⟨true, [.ints .u8 m1 D1]⟩, some ⟨false, [.ints .u8 nm b]⟩, some ⟨true, [.vals k_ L, .sl 2 0 m0 m0, .sl 3 0 m1 m1, .sl 10 0 (gv2 n) (gv2 n)]⟩, some ⟨true, [.vals k_ W, .rs 5 0 m0 1, .rs 6 0 m1 1, .rs 11 0 (gv2 n) 1]⟩, some ⟨true, [.ints .u8 (gv2 n) (gvB n b)]⟩, some ⟨true, [.ints .u8 (gv2 n) (gvB n b)]⟩]) :=
  Body.of_finK (Γ := gam35) (Λ := lamOf [(0, ⟨[.forget [0, 1, 4, 5, 6] 9], .normal, (gv2A_mk q k_ L m0 m1 B0 B1 W D0 D1 n nm b cap7 (n + 3) (iter (gv2A_step) (n + 3) ()))⟩), (2, ⟨[.forget [0, 1, 4, 5, 6, 7] 9], .normal, (gv2B_mk q k_ L m0 m1 B0 B1 W D0 D1 n nm b cap7 n (iter (gv2B_step) n ()))⟩)]) (Ψ := psiOf [(1, [.eqS 5 (.o (.a (.sl 8 0 (n + 3) (n + 3)))), .eqB 8 (⟨true, [.ints .u8 (n + 3) (List.replicate (n + 3) (0 : Int))]⟩)]), (6, [.eqB 8 (⟨true, [.ints .u8 (n + 3) (rwB (987 : Int) (n + 3))]⟩)]), (10, [.eqB 8 (⟨true, [.ints .u8 (n + 3) (gvB n b)]⟩)]), (11, [.eqB 11 (⟨true, [.ints .u8 (n + 3) (gvB n b)]⟩)])]) (fuel := 0) (m := 61) (c := (Try.f15.body.getD .skip)) mix tabOkKB gam35_ok rfl (rs := [.tmp 4]) rfl rfl [false, false] [.swap 8 10, .swap 9 13] 12
    (vc := [((cZ 0) ∧ ((0 : Int) ≤ ((n : Nat) : Int)) ∧ (((n : Nat) : Int) ≤ (((n + 3) : Nat) : Int))), ((some ⟨true, [.ints .u8 (n + 3) (copyB (n + 3) (sub (gvB n b) 0 (n + 3)))]⟩ : Option Blk) = some ⟨true, [.ints .u8 (n + 3) (gvB n b)]⟩), (((0 = 0) ∧ (q = (k_ + 2))) ∧ ((1 ≤ 1) ∧ True) ∧ (((q + 1) * 24) ≤ 140737488355328)), ((((0 + (n + 3)) ≤ (n + 3)) ∧ True) ∧ (((n + 3) = (n + 3)) ∧ ((n + 3) < 35184372088832))), ((some ⟨true, [.ints .u8 (n + 3) (cpB b (rwB (987 : Int) (n + 3)) n)]⟩ : Option Blk) = some ⟨true, [.ints .u8 (n + 3) (gvB n b)]⟩), (((0 = 0) ∧ (q = (k_ + 2))) ∧ ((1 ≤ 1) ∧ True) ∧ (((q + 1) * 24) ≤ 140737488355328)), (Run Try.prog ⟨w, rw, 8, β⟩ (.block 2 (.loop (loopB Try.f15 2))) (gv2B_mk q k_ L m0 m1 B0 B1 W D0 D1 n nm b cap7 0 ()) (To ⟨w, rw, 8, β⟩ .normal (gv2B_mk q k_ L m0 m1 B0 B1 W D0 D1 n nm b cap7 n (iter (gv2B_step) n ())))), ((some ⟨true, [.ints .u8 (n + 3) (mkP (List.replicate (n + 3) (0 : Int)) (987 : Int) (n + 3))]⟩ : Option Blk) = some ⟨true, [.ints .u8 (n + 3) (rwB (987 : Int) (n + 3))]⟩), (Run Try.prog ⟨w, rw, 8, β⟩ (.block 0 (.loop (loopB Try.f15 0))) (gv2A_mk q k_ L m0 m1 B0 B1 W D0 D1 n nm b cap7 0 ()) (To ⟨w, rw, 8, β⟩ .normal (gv2A_mk q k_ L m0 m1 B0 B1 W D0 D1 n nm b cap7 (n + 3) (iter (gv2A_step) (n + 3) ())))), ((some ⟨true, [.ints .u8 (Int.toNat (IntKind.i64.wrap (((n : Nat) : Int) + (3 : Int)))) (List.replicate (Int.toNat (IntKind.i64.wrap (((n : Nat) : Int) + (3 : Int)))) (0 : Int))]⟩ : Option Blk) = some ⟨true, [.ints .u8 (n + 3) (List.replicate (n + 3) (0 : Int))]⟩), ((.o (.a (.sl 8 0 (Int.toNat (IntKind.i64.wrap (((n : Nat) : Int) + (3 : Int)))) (Int.toNat (IntKind.i64.wrap (((n : Nat) : Int) + (3 : Int)))))) : AV) = .o (.a (.sl 8 0 (n + 3) (n + 3)))), (((0 : Int) ≤ (IntKind.i64.wrap (((n : Nat) : Int) + (3 : Int)))) ∧ ((IntKind.i64.wrap (((n : Nat) : Int) + (3 : Int))) ≤ (IntKind.i64.wrap (((n : Nat) : Int) + (3 : Int)))) ∧ (((IntKind.i64.wrap (((n : Nat) : Int) + (3 : Int))) * (1 : Int)) ≤ (281474976710656 : Int)))]) (by kernel_rfl)
    (aC ⟨(dd rfl), (by first|omega|(simp (disch:=omega) only [wrapI];omega)), (by first|omega|(simp (disch:=omega) only [wrapI];omega))⟩ (aC ((by rw [show copyB (n + 3) (sub (gvB n b) 0 (n + 3)) = gvB n b from gv_copy (hl7_0.trans h0)])) (aC ⟨⟨rfl, h3⟩, ⟨(dd rfl), trivial⟩, (by first|omega|(simp (disch:=omega) only [wrapI];omega))⟩ (aC ⟨⟨(by first|omega|(simp (disch:=omega) only [wrapI];omega)), trivial⟩, ⟨rfl, (by first|omega|(simp (disch:=omega) only [wrapI];omega))⟩⟩ (aC (rfl) (aC ⟨⟨rfl, h3⟩, ⟨(dd rfl), trivial⟩, (by first|omega|(simp (disch:=omega) only [wrapI];omega))⟩ (aC (gv2B_loop q k_ L m0 m1 B0 B1 W D0 D1 n nm b cap7 h0 h1 h2 h3 hc7 hl2_0 hl3_0 hl5_0 hl6_0 hl7_0 w rw β ()) (aC ((by rw [mkP_all (by rw [List.length_replicate])])) (aC (gv2A_loop q k_ L m0 m1 B0 B1 W D0 D1 n nm b cap7 h0 h1 h2 h3 hc7 hl2_0 hl3_0 hl5_0 hl6_0 hl7_0 w rw β ()) (aC ((by rw [wrapI (by omega) (by omega), show Int.toNat (((n : Nat) : Int) + 3) = n + 3 from by omega])) (aC ((by rw [wrapI (by omega) (by omega), show Int.toNat (((n : Nat) : Int) + 3) = n + 3 from by omega])) (aC ⟨(by first|omega|(simp (disch:=omega) only [wrapI];omega)), (by first|omega|(simp (disch:=omega) only [wrapI];omega)), (by first|omega|(simp (disch:=omega) only [wrapI];omega))⟩ (AllP_nil)))))))))))))

theorem gv2_body (q k_ : Nat) (L : List Value) (m0 m1 : Nat) (B0 B1 : List Int) (W : List Value) (D0 D1 : List Int) (n nm : Nat) (b : List Int) (cap7 : Nat) (h0 : (nm = n)) (h1 : (n < 17592186044416)) (h2 : (q < 2199023255552)) (h3 : (q = (k_ + 2))) (w : World) (rw : List Nat) (β : Env) : Body Try.prog (tabOf tabKB) Try.f15 ⟨w, rw, 8, β⟩ [.o (.a (.p 0 0)), .o (.a (.sl 7 0 n cap7))] [some ⟨true, [.rs 1 0 q 1, .rs 4 0 q 1, nlA, nlA, nlA, nlA, nlA, nlA, nlA, nlA, nlA, nlA, nlA, nlA, nlA, nlA, nlA, nlA, nlA, nlA, nlA, nlA, nlA, nlA, nlA, nlA, nlA, nlA, nlA, nlA]⟩, some ⟨true, [.vals k_ L, .sl 2 0 m0 m0, .sl 3 0 m1 m1]⟩, some ⟨true, [.ints .u8 m0 B0]⟩, some ⟨true, [.ints .u8 m1 B1]⟩, some ⟨true, [.vals k_ W, .rs 5 0 m0 1, .rs 6 0 m1 1]⟩, some ⟨true, [.ints .u8 m0 D0]⟩, some ⟨true, [.ints .u8 m1 D1]⟩, some ⟨false, [.ints .u8 nm b]⟩] (fun ys K' => ys = [.a (.sl 10 0 n (gv2 n))] ∧ K' = [some ⟨true, [.rs 8 0 (gv2_1 q) 1, .rs 9 0 (gv2_1 q) 1, nlA, nlA, nlA, nlA, nlA, nlA, nlA, nlA, nlA, nlA, nlA, nlA, nlA, nlA, nlA, nlA, nlA, nlA, nlA, nlA, nlA, nlA, nlA, nlA, nlA, nlA, nlA, nlA]⟩, none, some ⟨true, [.ints .u8 m0 B0]⟩, some ⟨true, [.ints .u8 m1 B1]⟩, none, some ⟨true, [.ints .u8 m0 D0]⟩, some ⟨true, [.ints .u8 m1 D1]⟩, some ⟨false, [.ints .u8 nm b]⟩, some ⟨true, [.vals k_ L, .sl 2 0 m0 m0, .sl 3 0 m1 m1, .sl 10 0 (gv2 n) (gv2 n)]⟩, some ⟨true, [.vals k_ W, .rs 5 0 m0 1, .rs 6 0 m1 1, .rs 11 0 (gv2 n) 1]⟩, some ⟨true, [.ints .u8 (gv2 n) (gvB n b)]⟩, some ⟨true, [.ints .u8 (gv2 n) (gvB n b)]⟩]) :=
  Body.lens (c := (Try.f15.body.getD .skip)) rfl fun h => gv2_body0 q k_ L m0 m1 B0 B1 W D0 D1 n nm b cap7 h0 h1 h2 h3 (h.caps 1 _ _ _ _ rfl) (h.lens 2 _ .u8 m0 B0 rfl (by simp)) (h.lens 3 _ .u8 m1 B1 rfl (by simp)) (h.lens 5 _ .u8 m0 D0 rfl (by simp)) (h.lens 6 _ .u8 m1 D1 rfl (by simp)) (h.lens 7 _ .u8 nm b rfl (by simp)) w rw β

end Go.Proofs.Ytlmdhjojinkdbaa.X

/- Printed by a tool of this session. -/
namespace Go.Proofs.Ytlmdhjojinkdbaa.X
open Go Go.Proofs
set_option linter.unusedVariables false
set_option linter.unusedSimpArgs false
set_option maxRecDepth 100000
theorem teKC_22 : TEOk Try.prog 22 ⟨.slice 5, 1, 24, [.raw (.slice none 0 0)], false⟩ :=
  TEOk.of Try.underlying22 (i := Try.t22) (by kernel_rfl) rfl rfl rfl (by kernel_rfl) (fun h => by cases h) (by kernel_rfl)
theorem teKC_23 : TEOk Try.prog 23 ⟨.slice 22, 1, 24, [.raw (.slice none 0 0)], false⟩ :=
  TEOk.of Try.underlying23 (i := Try.t23) (by kernel_rfl) rfl rfl rfl (by kernel_rfl) (fun h => by cases h) (by kernel_rfl)
theorem teKC_35 : TEOk Try.prog 35 ⟨.slice 92, 1, 24, [.raw (.slice none 0 0)], false⟩ :=
  TEOk.of Try.underlying35 (i := Try.t35) (by kernel_rfl) rfl rfl rfl (by kernel_rfl) (fun h => by cases h) (by kernel_rfl)
theorem teKC_36 : TEOk Try.prog 36 ⟨.slice 108, 1, 24, [.raw (.slice none 0 0)], false⟩ :=
  TEOk.of Try.underlying36 (i := Try.t36) (by kernel_rfl) rfl rfl rfl (by kernel_rfl) (fun h => by cases h) (by kernel_rfl)
theorem teKC_37 : TEOk Try.prog 37 ⟨.slice 110, 1, 24, [.raw (.slice none 0 0)], false⟩ :=
  TEOk.of Try.underlying37 (i := Try.t37) (by kernel_rfl) rfl rfl rfl (by kernel_rfl) (fun h => by cases h) (by kernel_rfl)
theorem teKC_38 : TEOk Try.prog 38 ⟨.slice 95, 1, 24, [.raw (.slice none 0 0)], false⟩ :=
  TEOk.of Try.underlying38 (i := Try.t38) (by kernel_rfl) rfl rfl rfl (by kernel_rfl) (fun h => by cases h) (by kernel_rfl)
theorem teKC_39 : TEOk Try.prog 39 ⟨.slice 113, 1, 24, [.raw (.slice none 0 0)], false⟩ :=
  TEOk.of Try.underlying39 (i := Try.t39) (by kernel_rfl) rfl rfl rfl (by kernel_rfl) (fun h => by cases h) (by kernel_rfl)
theorem teKC_40 : TEOk Try.prog 40 ⟨.slice 91, 1, 24, [.raw (.slice none 0 0)], false⟩ :=
  TEOk.of Try.underlying40 (i := Try.t40) (by kernel_rfl) rfl rfl rfl (by kernel_rfl) (fun h => by cases h) (by kernel_rfl)
theorem teKC_41 : TEOk Try.prog 41 ⟨.slice 116, 1, 24, [.raw (.slice none 0 0)], false⟩ :=
  TEOk.of Try.underlying41 (i := Try.t41) (by kernel_rfl) rfl rfl rfl (by kernel_rfl) (fun h => by cases h) (by kernel_rfl)
theorem teKC_42 : TEOk Try.prog 42 ⟨.slice 118, 1, 24, [.raw (.slice none 0 0)], false⟩ :=
  TEOk.of Try.underlying42 (i := Try.t42) (by kernel_rfl) rfl rfl rfl (by kernel_rfl) (fun h => by cases h) (by kernel_rfl)
theorem teKC_43 : TEOk Try.prog 43 ⟨.slice 120, 1, 24, [.raw (.slice none 0 0)], false⟩ :=
  TEOk.of Try.underlying43 (i := Try.t43) (by kernel_rfl) rfl rfl rfl (by kernel_rfl) (fun h => by cases h) (by kernel_rfl)
theorem teKC_44 : TEOk Try.prog 44 ⟨.slice 122, 1, 24, [.raw (.slice none 0 0)], false⟩ :=
  TEOk.of Try.underlying44 (i := Try.t44) (by kernel_rfl) rfl rfl rfl (by kernel_rfl) (fun h => by cases h) (by kernel_rfl)
theorem teKC_45 : TEOk Try.prog 45 ⟨.slice 124, 1, 24, [.raw (.slice none 0 0)], false⟩ :=
  TEOk.of Try.underlying45 (i := Try.t45) (by kernel_rfl) rfl rfl rfl (by kernel_rfl) (fun h => by cases h) (by kernel_rfl)
theorem teKC_46 : TEOk Try.prog 46 ⟨.slice 126, 1, 24, [.raw (.slice none 0 0)], false⟩ :=
  TEOk.of Try.underlying46 (i := Try.t46) (by kernel_rfl) rfl rfl rfl (by kernel_rfl) (fun h => by cases h) (by kernel_rfl)
theorem teKC_47 : TEOk Try.prog 47 ⟨.slice 128, 1, 24, [.raw (.slice none 0 0)], false⟩ :=
  TEOk.of Try.underlying47 (i := Try.t47) (by kernel_rfl) rfl rfl rfl (by kernel_rfl) (fun h => by cases h) (by kernel_rfl)
theorem teKC_48 : TEOk Try.prog 48 ⟨.slice 130, 1, 24, [.raw (.slice none 0 0)], false⟩ :=
  TEOk.of Try.underlying48 (i := Try.t48) (by kernel_rfl) rfl rfl rfl (by kernel_rfl) (fun h => by cases h) (by kernel_rfl)
theorem teKC_50 : TEOk Try.prog 50 ⟨Try.t49.desc, 30, 720, [nlA, nlA, nlA, nlA, nlA, nlA, nlA, nlA, nlA, nlA, nlA, nlA, nlA, nlA, nlA, nlA, nlA, nlA, nlA, nlA, nlA, nlA, nlA, nlA, nlA, nlA, nlA, nlA, nlA, nlA], false⟩ :=
  TEOk.of Try.underlying50 (i := Try.t50) (by kernel_rfl) rfl rfl rfl (by kernel_rfl) (fun h => by cases h) (by kernel_rfl)
noncomputable def tabKC : List (Nat × TE) := [(22, ⟨.slice 5, 1, 24, [nlA], false⟩), (23, ⟨.slice 22, 1, 24, [nlA], false⟩), (35, ⟨.slice 92, 1, 24, [nlA], false⟩), (36, ⟨.slice 108, 1, 24, [nlA], false⟩), (37, ⟨.slice 110, 1, 24, [nlA], false⟩), (38, ⟨.slice 95, 1, 24, [nlA], false⟩), (39, ⟨.slice 113, 1, 24, [nlA], false⟩), (40, ⟨.slice 91, 1, 24, [nlA], false⟩), (41, ⟨.slice 116, 1, 24, [nlA], false⟩), (42, ⟨.slice 118, 1, 24, [nlA], false⟩), (43, ⟨.slice 120, 1, 24, [nlA], false⟩), (44, ⟨.slice 122, 1, 24, [nlA], false⟩), (45, ⟨.slice 124, 1, 24, [nlA], false⟩), (46, ⟨.slice 126, 1, 24, [nlA], false⟩), (47, ⟨.slice 128, 1, 24, [nlA], false⟩), (48, ⟨.slice 130, 1, 24, [nlA], false⟩), (50, ⟨Try.t49.desc, 30, 720, [nlA, nlA, nlA, nlA, nlA, nlA, nlA, nlA, nlA, nlA, nlA, nlA, nlA, nlA, nlA, nlA, nlA, nlA, nlA, nlA, nlA, nlA, nlA, nlA, nlA, nlA, nlA, nlA, nlA, nlA], false⟩)]
theorem tabOkKC : TabOk Try.prog (tabOf tabKC) := (tabOf_cons teKC_22 (tabOf_cons teKC_23 (tabOf_cons teKC_35 (tabOf_cons teKC_36 (tabOf_cons teKC_37 (tabOf_cons teKC_38 (tabOf_cons teKC_39 (tabOf_cons teKC_40 (tabOf_cons teKC_41 (tabOf_cons teKC_42 (tabOf_cons teKC_43 (tabOf_cons teKC_44 (tabOf_cons teKC_45 (tabOf_cons teKC_46 (tabOf_cons teKC_47 (tabOf_cons teKC_48 (tabOf_cons teKC_50 tabOf_nil)))))))))))))))))

def itL_mk (w : World) (q capL capW : Nat) (L W : List Value) (k : Nat) (s : Unit) : St := ⟨sparse 393 [(0, .o (.a (.p 0 0))), (3, .o (.a (.i .i64 ((k : Nat) : Int))))], [some ⟨false, [.sl 1 0 q capL, .sl 2 0 q capW, nlA, nlA, nlA, nlA, nlA, nlA, nlA, nlA, nlA, nlA, nlA, nlA, nlA, nlA, nlA, nlA, nlA, nlA, nlA, nlA, nlA, nlA, nlA, nlA, nlA, nlA, nlA, nlA]⟩, some ⟨false, [.vals q L]⟩, some ⟨false, [.vals q W]⟩]⟩

def itL_step (k : Nat) (s : Unit) : Unit :=
  ()

set_option maxHeartbeats 1000000 in
theorem itL_round (w : World) (q capL capW : Nat) (L W : List Value) (h0 : (q < 70368744177664)) (β : Env) (hL : ∀ k, k < q → ∀ (t : Nat) (β : Env), ImpOk ⟨w, [], t, β⟩ (List.getD L k undef) .u8 (lenV (List.getD L k undef)) (capV (List.getD L k undef)) (contV w (List.getD L k undef))) (hW : ∀ k, k < q → ∀ (t : Nat) (β : Env), ImpOk ⟨w, [], t, β⟩ (List.getD W k undef) .u8 (lenV (List.getD W k undef)) (capV (List.getD W k undef)) (contV w (List.getD W k undef))) (heq : ∀ k, k < q → contV w (List.getD L k undef) = contV w (List.getD W k undef)) (hlen : ∀ k, k < q → lenV (List.getD L k undef) = lenV (List.getD W k undef)) (hsm : ∀ k, k < q → lenV (List.getD L k undef) < 70368744177664) (k : Nat) (hk : k < q) (s : Unit) : Run Try.prog ⟨w, [], 3, β⟩ (loopB Try.f20 0) (itL_mk w q capL capW L W k s) (To ⟨w, [], 3, β⟩ .normal (itL_mk w q capL capW L W (k + 1) (itL_step k s))) := by
  have e0 : (IntKind.i64.wrap (((k : Nat) : Int) + (1 : Int))) = (((k + (1 : Nat)) : Nat) : Int) := (by first | rfl | exact wrap_succ (by omega) | omega | (simp (disch := omega) only [wrapI]; omega))
  have h := Run.of_outTAt (B := ⟨w, [], 3, β⟩) (Λ := noLam) (Ψ := noPsi) (fuel := 0) (ora := [true, false]) (c := (loopB Try.f20 0)) (st := (itL_mk w q capL capW L W k s)) (l := [.forget [0, 3] 3]) (s' := ⟨sparse 393 [(0, .o (.a (.p 0 0))), (3, .o (.a (.i .i64 (IntKind.i64.wrap (((k : Nat) : Int) + (1 : Int))))))], [some ⟨false, [.sl 1 0 q capL, .sl 2 0 q capW, nlA, nlA, nlA, nlA, nlA, nlA, nlA, nlA, nlA, nlA, nlA, nlA, nlA, nlA, nlA, nlA, nlA, nlA, nlA, nlA, nlA, nlA, nlA, nlA, nlA, nlA, nlA, nlA]⟩, some ⟨false, [.vals q L]⟩, some ⟨false, [.vals q W]⟩]⟩) (ex := .normal) mix tabOkKC (gimp_ok (t := 22) (mk := mkS ⟨w, [], 3, β⟩ .u8) (gam26_ok.at _ _) fun v m => mkS_ok v m)
    (vc := [(false = false), ((((0 + (lenV (List.getD L k undef))) ≤ (lenV (List.getD L k undef))) ∧ (((0 + (lenV (List.getD W k undef))) ≤ (lenV (List.getD W k undef))) ∧ True)) ∧ (((lenV (List.getD L k undef)) = (lenV (List.getD L k undef))) ∧ ((lenV (List.getD W k undef)) = (lenV (List.getD W k undef))) ∧ ((lenV (List.getD W k undef)) = (lenV (List.getD L k undef))) ∧ ((sub (contV w (List.getD L k undef)) 0 (lenV (List.getD L k undef))) = (sub (contV w (List.getD W k undef)) 0 (lenV (List.getD W k undef)))) ∧ ((lenV (List.getD L k undef)) < 70368744177664))), ((k < q) ∧ (ImpOk ⟨w, [], 3, β⟩ (List.getD W k undef) .u8 (lenV (List.getD W k undef)) (capV (List.getD W k undef)) (contV w (List.getD W k undef)))), (((0 : Int) ≤ ((k : Nat) : Int)) ∧ (((k : Nat) : Int) < ((q : Nat) : Int))), ((k < q) ∧ (ImpOk ⟨w, [], 3, β⟩ (List.getD L k undef) .u8 (lenV (List.getD L k undef)) (capV (List.getD L k undef)) (contV w (List.getD L k undef)))), (((0 : Int) ≤ ((k : Nat) : Int)) ∧ (((k : Nat) : Int) < ((q : Nat) : Int))), ((decide (((k : Nat) : Int) < ((q : Nat) : Int))) = true)]) (by kernel_rfl)
    (aC rfl (aC ⟨⟨(by rw [Nat.zero_add]; exact Nat.le_refl _), ⟨(by rw [Nat.zero_add]; exact Nat.le_refl _), trivial⟩⟩, ⟨rfl, rfl, (by rw [hlen k hk]), (by rw [heq k hk, hlen k hk]), (hsm k hk)⟩⟩ (aC ⟨(by first|omega|(simp (disch:=omega) only [wrapI];omega)), ((hW k hk _ _))⟩ (aC ⟨(by first|omega|(simp (disch:=omega) only [wrapI];omega)), (by first|omega|(simp (disch:=omega) only [wrapI];omega))⟩ (aC ⟨(by first|omega|(simp (disch:=omega) only [wrapI];omega)), ((hL k hk _ _))⟩ (aC ⟨(by first|omega|(simp (disch:=omega) only [wrapI];omega)), (by first|omega|(simp (disch:=omega) only [wrapI];omega))⟩ (aC (decide_eq_true (by first|omega|(simp (disch:=omega) only [wrapI];omega))) (AllP_nil))))))))
  rw [e0] at h
  exact h

set_option maxHeartbeats 1000000 in
theorem itL_last (w : World) (q capL capW : Nat) (L W : List Value) (h0 : (q < 70368744177664)) (β : Env) (hL : ∀ k, k < q → ∀ (t : Nat) (β : Env), ImpOk ⟨w, [], t, β⟩ (List.getD L k undef) .u8 (lenV (List.getD L k undef)) (capV (List.getD L k undef)) (contV w (List.getD L k undef))) (hW : ∀ k, k < q → ∀ (t : Nat) (β : Env), ImpOk ⟨w, [], t, β⟩ (List.getD W k undef) .u8 (lenV (List.getD W k undef)) (capV (List.getD W k undef)) (contV w (List.getD W k undef))) (heq : ∀ k, k < q → contV w (List.getD L k undef) = contV w (List.getD W k undef)) (hlen : ∀ k, k < q → lenV (List.getD L k undef) = lenV (List.getD W k undef)) (hsm : ∀ k, k < q → lenV (List.getD L k undef) < 70368744177664) (s : Unit) : Run Try.prog ⟨w, [], 3, β⟩ (loopB Try.f20 0) (itL_mk w q capL capW L W q s) (To ⟨w, [], 3, β⟩ (.exit 0) (itL_mk w q capL capW L W q s)) :=
  Run.of_outTAt (B := ⟨w, [], 3, β⟩) (Λ := noLam) (Ψ := noPsi) (fuel := 0) (ora := [false]) (l := [.forget [0, 3] 3]) mix tabOkKC (gimp_ok (t := 22) (mk := mkS ⟨w, [], 3, β⟩ .u8) (gam26_ok.at _ _) fun v m => mkS_ok v m)
    (vc := [((decide (((q : Nat) : Int) < ((q : Nat) : Int))) = false)]) (by kernel_rfl)
    (aC (decide_eq_false (by omega)) (AllP_nil))

theorem itL_loop (w : World) (q capL capW : Nat) (L W : List Value) (h0 : (q < 70368744177664)) (β : Env) (hL : ∀ k, k < q → ∀ (t : Nat) (β : Env), ImpOk ⟨w, [], t, β⟩ (List.getD L k undef) .u8 (lenV (List.getD L k undef)) (capV (List.getD L k undef)) (contV w (List.getD L k undef))) (hW : ∀ k, k < q → ∀ (t : Nat) (β : Env), ImpOk ⟨w, [], t, β⟩ (List.getD W k undef) .u8 (lenV (List.getD W k undef)) (capV (List.getD W k undef)) (contV w (List.getD W k undef))) (heq : ∀ k, k < q → contV w (List.getD L k undef) = contV w (List.getD W k undef)) (hlen : ∀ k, k < q → lenV (List.getD L k undef) = lenV (List.getD W k undef)) (hsm : ∀ k, k < q → lenV (List.getD L k undef) < 70368744177664) (s : Unit) : Run Try.prog ⟨w, [], 3, β⟩ (.block 0 (.loop (loopB Try.f20 0))) (itL_mk w q capL capW L W 0 s) (To ⟨w, [], 3, β⟩ .normal (itL_mk w q capL capW L W q (iter (itL_step) q s))) :=
  Run.count (fun k => itL_mk w q capL capW L W k (iter (itL_step) k s)) q (fun k hk => itL_round w q capL capW L W h0 β hL hW heq hlen hsm k hk _) (ex := (.exit 0)) (by simp) (itL_last w q capL capW L W h0 β hL hW heq hlen hsm _)

set_option maxHeartbeats 1000000 in
theorem intact_body0 (w : World) (q capL capW : Nat) (L W : List Value) (h0 : (q < 70368744177664)) (β : Env) (hL : ∀ k, k < q → ∀ (t : Nat) (β : Env), ImpOk ⟨w, [], t, β⟩ (List.getD L k undef) .u8 (lenV (List.getD L k undef)) (capV (List.getD L k undef)) (contV w (List.getD L k undef))) (hW : ∀ k, k < q → ∀ (t : Nat) (β : Env), ImpOk ⟨w, [], t, β⟩ (List.getD W k undef) .u8 (lenV (List.getD W k undef)) (capV (List.getD W k undef)) (contV w (List.getD W k undef))) (heq : ∀ k, k < q → contV w (List.getD L k undef) = contV w (List.getD W k undef)) (hlen : ∀ k, k < q → lenV (List.getD L k undef) = lenV (List.getD W k undef)) (hsm : ∀ k, k < q → lenV (List.getD L k undef) < 70368744177664) : Body Try.prog (tabOf tabKC) Try.f20 ⟨w, [], 3, β⟩ [.o (.a (.p 0 0))] [some ⟨false, [.sl 1 0 q capL, .sl 2 0 q capW, nlA, nlA, nlA, nlA, nlA, nlA, nlA, nlA, nlA, nlA, nlA, nlA, nlA, nlA, nlA, nlA, nlA, nlA, nlA, nlA, nlA, nlA, nlA, nlA, nlA, nlA, nlA, nlA]⟩, some ⟨false, [.vals q L]⟩, some ⟨false, [.vals q W]⟩] (fun ys _ => ys = [.a (.b true)]) :=
  Body.of_finAt (Γ := (gimp 22 (mkS ⟨w, [], 3, β⟩ .u8) gam26)) (Λ := lamOf [(0, ⟨[.forget [0, 3] 3], .normal, (itL_mk w q capL capW L W q (iter (itL_step) q ()))⟩)]) (Ψ := noPsi) (fuel := 1) (m := 393) (c := (Try.f20.body.getD .skip)) mix tabOkKC (gimp_ok (t := 22) (mk := mkS ⟨w, [], 3, β⟩ .u8) (gam26_ok.at _ _) fun v m => mkS_ok v m) rfl (rs := [.tmp 2]) rfl rfl [false, false, false, false, false, false, false, false, false, false, false, false, false, false] []
    (vc := [(false = false), (false = false), (false = false), (false = false), (false = false), (false = false), (false = false), (false = false), (false = false), (false = false), (false = false), (false = false), (false = false), (false = false), (Run Try.prog ⟨w, [], 3, β⟩ (.block 0 (.loop (loopB Try.f20 0))) (itL_mk w q capL capW L W 0 ()) (To ⟨w, [], 3, β⟩ .normal (itL_mk w q capL capW L W q (iter (itL_step) q ()))))]) (by kernel_rfl)
    (aC rfl (aC rfl (aC rfl (aC rfl (aC rfl (aC rfl (aC rfl (aC rfl (aC rfl (aC rfl (aC rfl (aC rfl (aC rfl (aC rfl (aC (itL_loop w q capL capW L W h0 β hL hW heq hlen hsm ()) (AllP_nil))))))))))))))))

end Go.Proofs.Ytlmdhjojinkdbaa.X

/- A contract by hand: two lists of slices, families in them or not, are looked at and found to show the same. -/
namespace Go.Proofs.Ytlmdhjojinkdbaa.X
open Go Go.Proofs
set_option linter.unusedVariables false

def PartsI (w : World) (rw : List Nat) (L : List Value) (n : Nat) : Prop := ∀ i, i < n → ∀ (k : Nat) (β : Env), ImpOk ⟨w, rw, k, β⟩ (L.getD i undef) .u8 (lenV (L.getD i undef)) (capV (L.getD i undef)) (contV w (L.getD i undef))
def contL (w : World) (L : List Value) (n : Nat) : List (List Int) := (List.range n).map fun i => contV w (L.getD i undef)
def famL (K : Know) (w0 : World) (rw : List Nat) : List Atom → Option (Prop × List (List Int))
  | [] => some (True, [])
  | .vals n L :: r => (match famL K w0 rw r with
    | some (q, C) => some (PartsI w0 rw L n ∧ q, contL w0 L n ++ C)
    | none => none)
  | a :: r => (match famC K a with
    | some (p, l) => (match famL K w0 rw r with
      | some (q, C) => some (p ∧ q, l :: C)
      | none => none)
    | none => none)

theorem famC_mono {K K' : Know} (hk : Knows K K') {a : Atom} {r : Prop × List Int} (h : famC K a = some r) : famC K' a = some r := by
  unfold famC at *
  split at h
  · split at h
    · rename_i b hb; rw [hk _ _ hb]; exact h
    · simp at h
  · split at h
    · rename_i b hb; rw [hk _ _ hb]; exact h
    · simp at h
  · exact h
  · simp at h
theorem famL_mono {K K' : Know} {w0 : World} {rw : List Nat} (hk : Knows K K') : ∀ {l : List Atom} {r : Prop × List (List Int)}, famL K w0 rw l = some r → famL K' w0 rw l = some r
  | [], _, h => h
  | a :: l, r, h => by
    have one : (match famC K a with
        | some (p, x) => (match famL K w0 rw l with
          | some (q, C) => some (p ∧ q, x :: C)
          | none => none)
        | none => none) = some r → (match famC K' a with
        | some (p, x) => (match famL K' w0 rw l with
          | some (q, C) => some (p ∧ q, x :: C)
          | none => none)
        | none => none) = some r := by
      intro h
      split at h
      · rename_i p x h1
        rw [famC_mono hk h1]
        simp only
        split at h
        · rename_i q C h2
          rw [famL_mono hk h2]; exact h
        · simp at h
      · simp at h
    cases a with
    | vals n L =>
      simp only [famL] at h ⊢
      split at h
      · rename_i q C h2
        rw [famL_mono hk h2]; exact h
      · simp at h
    | _ => exact one h

section fam
variable {w0 w : World} {rw : List Nat} {β : Env} {K : Know}

def AllI (w : World) (L : List Value) (C : List (List Int)) : Prop := L.length = C.length ∧ PartsI w [] L C.length ∧ ∀ i, i < C.length → contV w (L.getD i undef) = C.getD i []
theorem AllI.of {L : List Value} {C : List (List Int)} (h : FamR w [] L C) : AllI w L C := ⟨h.len, h.imp, h.cont⟩
theorem AllI.to {L : List Value} {C : List (List Int)} (h : AllI w L C) : FamR w [] L C := ⟨h.1, h.2.1, h.2.2⟩

theorem contL_len (w : World) (L : List Value) (n : Nat) : (contL w L n).length = n := by simp [contL]
theorem contL_get {w : World} {L : List Value} {n i : Nat} (h : i < n) : (contL w L n).getD i [] = contV w (L.getD i undef) := by
  unfold contL
  rw [List.getD_eq_getElem?_getD, List.getElem?_map, List.getElem?_range h]; rfl

theorem famC_all (hR : RelW w0 rw β K w) {a : Atom} {p : Prop} {l : List Int} {cs : List Value} (h : famC K a = some (p, l)) (hp : p) (hc : a.con β cs) : FamR w [] cs [l] := by
  have hpc : partC K w0 rw a = some (1, p, l) := by
    unfold famC at h
    unfold partC
    split at h
    · split at h
      · rename_i b hb
        split at h
        · rename_i hs
          simp only [Option.some.injEq, Prod.mk.injEq] at h; obtain ⟨rfl, rfl⟩ := h
          simp only [hb, hs]
        · simp at h
      · simp at h
    · split at h
      · rename_i b hb
        split at h
        · rename_i hs
          simp only [Option.some.injEq, Prod.mk.injEq] at h; obtain ⟨rfl, rfl⟩ := h
          simp only [hb, hs]
        · simp at h
      · simp at h
    · simp only [Option.some.injEq, Prod.mk.injEq] at h; obtain ⟨rfl, rfl⟩ := h; rfl
    · simp at h
  obtain ⟨h1, h2, h3⟩ := partC_ok hR hpc hp hc
  refine ⟨h1, fun i hi => h2 i hi, fun i hi => ?_⟩
  have : i = 0 := by simp at hi; omega
  subst this
  have : [] ++ contV w (cs.getD 0 undef) = l := h3
  simpa using this

theorem famL_ok (hR : RelW w0 rw β K w) : ∀ {l : List Atom} {p : Prop} {C : List (List Int)} {cs : List Value}, famL K w0 rw l = some (p, C) → p → cons β l cs → FamR w [] cs C
  | [], p, C, cs, h, hp, hc => by
    simp only [famL, Option.some.injEq, Prod.mk.injEq] at h; obtain ⟨rfl, rfl⟩ := h
    have hc : cs = [] := hc
    subst hc; exact FamR.nil
  | a :: l, p, C, cs, h, hp, hc => by
    obtain ⟨x, y, rfl, ha, hr⟩ := hc
    have one : (match famC K a with
        | some (p, x) => (match famL K w0 rw l with
          | some (q, C) => some (p ∧ q, x :: C)
          | none => none)
        | none => none) = some (p, C) → FamR w [] (x ++ y) C := by
      intro h
      split at h
      · rename_i p1 l1 h1
        split at h
        · rename_i q D h2
          simp only [Option.some.injEq, Prod.mk.injEq] at h; obtain ⟨rfl, rfl⟩ := h
          exact (famC_all hR h1 hp.1 ha).app (famL_ok hR h2 hp.2 hr)
        · simp at h
      · simp at h
    cases a with
    | vals n L =>
      simp only [famL] at h
      split at h
      · rename_i q D h2
        simp only [Option.some.injEq, Prod.mk.injEq] at h; obtain ⟨rfl, rfl⟩ := h
        obtain ⟨h3, rfl, _⟩ := ha
        refine FamR.app ?_ (famL_ok hR h2 hp.2 hr)
        have hc : ∀ i, i < n → contV w (x.getD i undef) = contV w0 (x.getD i undef) := fun i hi => contV_move hR.old (hp.1 i hi 0 noEnv)
        refine ⟨by rw [contL_len, h3], fun i hi k β1 => ?_, fun i hi => ?_⟩
        · rw [contL_len] at hi
          rw [hc i hi]
          obtain ⟨base, hv, hlc, hl, hb⟩ := hp.1 i hi 0 noEnv
          refine ⟨base, hv, hlc, hl, fun h0 => ?_⟩
          obtain ⟨b, off, g1, g2, g3, g4⟩ := hb h0
          have g2 : b < w0.heap.size := g2
          refine ⟨b, off, g1, Nat.lt_of_lt_of_le g2 hR.size, by simp, fun hl0 => ?_⟩
          obtain ⟨arr, ty, fr, k1, k2⟩ := g4 hl0
          exact ⟨arr, ty, fr, (hR.old b g2 g3).trans k1, k2⟩
        · rw [contL_len] at hi
          rw [hc i hi, contL_get hi]
      · simp at h
    | _ => exact one h
end fam

def nilsB (l : List Atom) : Bool := l.all fun a => match a with
  | .raw (.slice none 0 0) => true
  | _ => false
theorem nilsB_ok : ∀ {l : List Atom}, nilsB l = true → l = List.replicate l.length (.raw (.slice none 0 0))
  | [], _ => rfl
  | a :: l, h => by
    unfold nilsB at h
    rw [List.all_cons, Bool.and_eq_true] at h
    have h2 : l = List.replicate l.length (.raw (.slice none 0 0)) := nilsB_ok (l := l) h.2
    have h1 := h.1
    split at h1
    · rw [List.length_cons, List.replicate_succ, ← h2]
    · cases h1

def gtwoE (m : Nat) (w0 : World) (rw : List Nat) (K : Know) (args : List AV) : Option Rx :=
  match args with
  | [.o (.a (.p g 0))] => (match K.at g with
    | some ⟨_, .rs jl 0 q _ :: .rs jw 0 q' _ :: nils⟩ =>
      if nilsB nils = true ∧ nils.length = m then
        (match K.at jl with
        | some bl => (match K.at jw with
          | some bw => (match famL K w0 rw bl.cells with
            | some (p, C) => (match famL K w0 rw bw.cells with
              | some (p', C') => some ⟨some (C.length = q ∧ q' = q ∧ p ∧ p' ∧ C = C' ∧ (∀ l ∈ C, l.length < 70368744177664) ∧ q < 70368744177664), .o (.a (.b true)), [], 0⟩
              | none => none)
            | none => none)
          | none => none)
        | none => none)
      else none
    | _ => none)
  | _ => none
def gtwo (f : FuncId) (m : Nat) (w0 : World) (rw : List Nat) (rest : Gam) : Gam := fun g K n args => if f = g then gtwoE m w0 rw K args else rest g K n args

theorem gtwo_ok {P : Program} {T : Tab} (hT : TabOk P T) {f : FuncId} {fn : Func} (hf : P.funcs[f]? = some fn) (he : ∀ (xas : Array Value) (w : World), (callFunc f xas).run P w = .ok (.enter f xas) w) {m : Nat} {rest : Gam} {w0 : World} {rw : List Nat} (hr : GamAt P rest w0 rw)
    (h : ∀ (q capL capW : Nat) (L W : List Value) (w : World) (β : Env), q < 70368744177664 → PartsI w [] L q → PartsI w [] W q → (∀ k, k < q → contV w (L.getD k undef) = contV w (W.getD k undef)) → (∀ k, k < q → lenV (L.getD k undef) = lenV (W.getD k undef)) → (∀ k, k < q → lenV (L.getD k undef) < 70368744177664) →
      Body P T fn ⟨w, [], 3, β⟩ [.o (.a (.p 0 0))] [some ⟨false, .sl 1 0 q capL :: .sl 2 0 q capW :: List.replicate m (.raw (.slice none 0 0))⟩, some ⟨false, [.vals q L]⟩, some ⟨false, [.vals q W]⟩] fun ys _ => ys = [.a (.b true)])
    (hlt : f < impId := by decide) : GamAt P (gtwo f m w0 rw rest) w0 rw := by
  refine ⟨?_, ?_, ?_, ?_, ?_⟩
  · intro g K n args s hg hs
    unfold gtwo at hs
    split at hs
    · rename_i e; subst e; exact he
    · exact hr.enter _ _ _ _ _ hg hs
  · intro g0 K n args s hg hs hvc β w xs hx hR hn hK
    unfold gtwo at hs
    split at hs
    rotate_left
    · exact hr.calls _ _ _ _ _ hg hs hvc β w xs hx hR hn hK
    rename_i e; subst e
    unfold gtwoE at hs
    split at hs
    rotate_left
    · simp at hs
    rename_i g
    split at hs
    rotate_left
    · simp at hs
    rename_i own jl q z jw q' z' nils hg1
    split at hs
    rotate_left
    · simp at hs
    rename_i hnl
    split at hs
    rotate_left
    · simp at hs
    rename_i bl hbl
    split at hs
    rotate_left
    · simp at hs
    rename_i bw hbw
    split at hs
    rotate_left
    · simp at hs
    rename_i p C hC
    split at hs
    rotate_left
    · simp at hs
    rename_i p' C' hC'
    simp only [Option.some.injEq] at hs; subst hs
    obtain ⟨rfl, rfl, hp, hp', rfl, hsm, hq⟩ := hvc
    obtain ⟨v, rest', rfl, hv, hrest⟩ := hx
    cases hrest
    obtain ⟨L, hL, hdL⟩ := hR.holds jl bl hbl
    obtain ⟨W, hW, hdW⟩ := hR.holds jw bw hbw
    have fL := famL_ok hR hC hp hL
    have fW := famL_ok hR hC' hp' hW
    obtain ⟨G, hG, hdG⟩ := hR.holds g _ hg1
    have hG : cons β (.rs jl 0 C.length z :: .rs jw 0 C.length z' :: nils) G := hG
    obtain ⟨g1, G1, rfl, hg2, hG1⟩ := hG
    obtain ⟨g2, G2, rfl, hg3, hG2⟩ := hG1
    obtain ⟨base1, cap1, rfl, hc1, hb1⟩ := hg2
    obtain ⟨base2, cap2, rfl, hc2, hb2⟩ := hg3
    have hnils := nilsB_ok hnl.1
    rw [hnl.2] at hnils
    rw [hnils] at hG2
    let β' : Env := fun t => if t = 0 then β g else if t = 1 then β jl else if t = 2 then β jw else none
    have hflat : (List.replicate m (Atom.raw (.slice none 0 0))).all Atom.flat = true := by
      rw [List.all_eq_true]; intro x hx; rw [List.eq_of_mem_replicate hx]; rfl
    have hrel : RelW w [] β' [some ⟨false, .sl 1 0 C.length cap1 :: .sl 2 0 C.length cap2 :: List.replicate m (.raw (.slice none 0 0))⟩, some ⟨false, [.vals C.length L]⟩, some ⟨false, [.vals C.length W]⟩] w := by
      refine RelW.ofRead fun i bk hi => ?_
      have cases3 : (i = 0 ∧ bk = ⟨false, .sl 1 0 C.length cap1 :: .sl 2 0 C.length cap2 :: List.replicate m (.raw (.slice none 0 0))⟩) ∨ (i = 1 ∧ bk = ⟨false, [.vals C.length L]⟩) ∨ (i = 2 ∧ bk = ⟨false, [.vals C.length W]⟩) := by
        match i, hi with
        | 0, hi => exact .inl ⟨rfl, (Option.some.inj hi).symm⟩
        | 1, hi => exact .inr (.inl ⟨rfl, (Option.some.inj hi).symm⟩)
        | 2, hi => exact .inr (.inr ⟨rfl, (Option.some.inj hi).symm⟩)
        | i + 3, hi => simp [Know.at] at hi
      rcases cases3 with ⟨rfl, rfl⟩ | ⟨rfl, rfl⟩ | ⟨rfl, rfl⟩
      · refine ⟨rfl, ⟨_, ⟨_, _, rfl, ⟨base1, rfl, hc1, fun h0 => ?_⟩, ⟨_, _, rfl, ⟨base2, rfl, hc2, fun h0 => ?_⟩, cons_flat hflat hG2⟩⟩, ?_⟩, fun r hr' => hR.live g _ r hg1 hr'⟩
        · obtain ⟨r, k1, k2, _⟩ := hb1 h0; exact ⟨r, k1, k2⟩
        · obtain ⟨r, k1, k2, _⟩ := hb2 h0; exact ⟨r, k1, k2⟩
        · rcases hdG with ⟨k1, _⟩ | ⟨r, arr, ty, fr, k1, k2, k3, k4, k5, _⟩
          · exact .inl ⟨k1, .inl rfl⟩
          · exact .inr ⟨r, arr, ty, fr, k1, k2, k3, k4, k5, fun h => by cases h⟩
      · refine ⟨rfl, ⟨L, cons_single.2 ⟨fL.len, rfl, cons_one hL⟩, ?_⟩, fun r hr' => hR.live jl _ r hbl hr'⟩
        rcases hdL with ⟨k1, _⟩ | ⟨r, arr, ty, fr, k1, k2, k3, k4, k5, _⟩
        · exact .inl ⟨k1, .inl rfl⟩
        · exact .inr ⟨r, arr, ty, fr, k1, k2, k3, k4, k5, fun h => by cases h⟩
      · refine ⟨rfl, ⟨W, cons_single.2 ⟨fW.len, rfl, cons_one hW⟩, ?_⟩, fun r hr' => hR.live jw _ r hbw hr'⟩
        rcases hdW with ⟨k1, _⟩ | ⟨r, arr, ty, fr, k1, k2, k3, k4, k5, _⟩
        · exact .inl ⟨k1, .inl rfl⟩
        · exact .inr ⟨r, arr, ty, fr, k1, k2, k3, k4, k5, fun h => by cases h⟩
    have hall : allC β' [.o (.a (.p 0 0))] [v] := by
      refine ⟨v, [], rfl, ?_, rfl⟩
      obtain ⟨r, h1, h2⟩ := hv
      exact ⟨r, h1, h2⟩
    have hcl : ∀ (X : List Value), FamR w [] X C → ∀ k, k < C.length → lenV (X.getD k undef) = (C.getD k []).length := by
      intro X fX k hk
      obtain ⟨_, _, _, hl, _⟩ := fX.imp k hk 0 noEnv
      rw [← hl, fX.cont k hk]
    have hbody := h C.length cap1 cap2 L W w β' hq fL.imp fW.imp (fun k hk => by rw [fL.cont k hk, fW.cont k hk]) (fun k hk => by rw [hcl L fL k hk, hcl W fW k hk]) (fun k hk => by
      rw [hcl L fL k hk, List.getD_eq_getElem?_getD, List.getElem?_eq_getElem hk]
      exact hsm _ (List.getElem_mem hk))
    refine Calls.mono (calls_of_body hT hf (rw := []) hall hrel hbody) fun e w' he => ?_
    obtain ⟨ys, K', v', β1, rfl, rfl, hv', hrel', _⟩ := he
    exact ⟨v', β, rfl, agree_refl _ _ _, hv', hR.grow hrel'.toGrow⟩
  · intro g0 K K' n args s hg hs hk
    unfold gtwo at hs ⊢
    split at hs
    rotate_left
    · rename_i e; rw [if_neg e]; exact hr.mono _ _ _ _ _ _ hg hs hk
    rename_i e
    rw [if_pos e]
    unfold gtwoE at hs ⊢
    split at hs
    rotate_left
    · simp at hs
    rename_i g
    split at hs
    rotate_left
    · simp at hs
    rename_i own jl q z jw q' z' nils hg1
    simp only [hk _ _ hg1]
    split at hs
    rotate_left
    · simp at hs
    rename_i hnl
    rw [if_pos hnl]
    split at hs
    rotate_left
    · simp at hs
    rename_i bl hbl
    simp only [hk _ _ hbl]
    split at hs
    rotate_left
    · simp at hs
    rename_i bw hbw
    simp only [hk _ _ hbw]
    split at hs
    rotate_left
    · simp at hs
    rename_i p C hC
    simp only [famL_mono hk hC]
    split at hs
    rotate_left
    · simp at hs
    rename_i p' C' hC'
    simp only [famL_mono hk hC']
    exact hs
  · intro g n args s hs
    have hne : ¬ (f = extId + g) := fun e => by
      have h1 : extId ≤ extId + g := Nat.le_add_right _ _
      rw [← e] at h1
      exact Nat.lt_irrefl _ (Nat.lt_of_lt_of_le hlt (Nat.le_trans (by decide : impId ≤ extId) h1))
    unfold gtwo at hs
    rw [if_neg hne] at hs
    exact hr.ext _ _ _ _ hs
  · intro g n v s hg hg2 hs
    have hne : ¬ (f = g) := fun e => by
      have h1 := hlt
      rw [e] at h1
      exact Nat.lt_irrefl _ (Nat.lt_of_lt_of_le h1 hg)
    unfold gtwo at hs
    rw [if_neg hne] at hs
    exact hr.imp _ _ _ _ hg hg2 hs
end Go.Proofs.Ytlmdhjojinkdbaa.X

/- The document's keyed digest: its contract, for whatever list of parts; the same as the program's. -/
namespace Go.Proofs.Ytlmdhjojinkdbaa.X
open Go Go.Proofs
set_option linter.unusedVariables false
set_option maxRecDepth 100000

theorem refM_body (w : World) (kn : Nat) (key : List Int) (n : Nat) (L : List Value) (cap0 cap1 : Nat) (h0 : kn < 70368744177664) (h1 : n + 1 < 4398046511104) (h2 : (catV w L n).length + 128 < 70368744177664) (β : Env) (hP : PartsOk w L n) (hL : L.length = n) :
    Body Try.prog (tabOf tabKF) Try.f17 ⟨w, [], 2, β⟩ [.o (.a (.sl 0 0 kn cap0)), .o (.a (.sl 1 0 n cap1))] [some ⟨false, [.ints .u8 kn key]⟩, some ⟨false, [.vals n L]⟩] (fun ys _ => ys = [.g [.ints .u8 (64 : Nat) (macD key (catV w L n))]]) := by
  refine Body.lens (c := (Try.f17.body.getD .skip)) rfl fun h => ?_
  have hl := h.lens 0 _ .u8 kn key rfl (by simp)
  by_cases hk : kn ≤ 128
  · exact refM0_body0 w kn key n L cap0 cap1 h0 h1 h2 hl hk β hP hL
  · exact refM1_body0 w kn key n L cap0 cap1 h0 h1 h2 hl (by omega) β hP hL
def grmac (w0 : World) (rw : List Nat) (rest : Gam) : Gam := gparts 17 [.s 1] w0 rw (fun vs args m D => match vs, args with
  | [⟨_, _, _, [.ints .u8 knm key]⟩], [a] => some (knm = lenOfA a ∧ lenOfA a < 70368744177664 ∧ m + 1 < 4398046511104 ∧ D.length + 128 < 70368744177664, .g [.ints .u8 64 (macD key D)])
  | _, _ => none) rest
theorem grmac_ok {rest : Gam} {w0 : World} {rw : List Nat} (hr : GamAt Try.prog rest w0 rw) : GamAt Try.prog (grmac w0 rw rest) w0 rw := gparts_ok tabOkKF Try.func17 Try.call17 hr (by
  intro vs args m D p y h hv
  split at h
  · rename_i j c q knm key a
    simp only [Option.some.injEq, Prod.mk.injEq] at h; obtain ⟨rfl, rfl⟩ := h
    refine ⟨rfl, fun caps cap L w β hL hP hD => ?_⟩
    subst hD
    obtain ⟨rfl, h2, h3, h4⟩ := hv
    exact refM_body w _ key m L _ cap h2 h3 h4 β hP hL
  · simp at h)
/-- Intact, whatever was given -/
def gintact (w0 : World) (rw : List Nat) (rest : Gam) : Gam := gtwo 20 28 w0 rw rest
theorem gintact_ok {rest : Gam} {w0 : World} {rw : List Nat} (hr : GamAt Try.prog rest w0 rw) : GamAt Try.prog (gintact w0 rw rest) w0 rw := gtwo_ok tabOkKC Try.func20 Try.call20 hr (by
  intro q capL capW L W w β hq hL hW heq hlen hsm
  exact intact_body0 w q capL capW L W hq β hL hW heq hlen hsm)
end Go.Proofs.Ytlmdhjojinkdbaa.X

/- Bytes one behind the other. -/
namespace Go.Proofs.Ytlmdhjojinkdbaa.X
open Go Go.Proofs
set_option linter.unusedVariables false
set_option maxRecDepth 100000

def jn3 (b c e : List Int) : List Int := b ++ (c ++ e)
def jn2 (b c : List Int) : List Int := b ++ c
def nwK3 (b c e : List Int) : List Int := nwK (jn3 b c e)
def nwV3 (b c e : List Int) : List Int := nwV (jn3 b c e)
def rsK2 (n : Nat) (k v b c : List Int) : List Int := rsK n k v (jn2 b c)
def rsV2 (n : Nat) (k v b c : List Int) : List Int := rsV n k v (jn2 b c)
theorem jn3_len {b c e : List Int} {n m o : Nat} (hb : b.length = n) (hc : c.length = m) (he : e.length = o) : (jn3 b c e).length = n + m + o := by
  unfold jn3; simp only [List.length_append]; omega
theorem jn2_len {b c : List Int} {n m : Nat} (hb : b.length = n) (hc : c.length = m) : (jn2 b c).length = n + m := by
  unfold jn2; rw [List.length_append]; omega
theorem jn3_eq {b c e : List Int} {n m o : Nat} (hb : b.length = n) (hc : c.length = m) (he : e.length = o) :
    sub (sub (sub b 0 n) 0 n ++ sub c 0 m) 0 (n + m) ++ sub e 0 o = jn3 b c e := by
  rw [sub_all b n (by omega), sub_all b n (by omega), sub_all c m (by omega), sub_all e o (by omega), sub_all (b ++ c) _ (by rw [List.length_append]; omega), List.append_assoc]; rfl
theorem jn2_eq {b c : List Int} {n m : Nat} (hb : b.length = n) (hc : c.length = m) : sub (sub (sub b 0 n) 0 n ++ sub c 0 m) 0 (n + m) ++ [] = jn2 b c := by
  rw [sub_all b n (by omega), sub_all b n (by omega), sub_all c m (by omega), List.append_nil, sub_all (b ++ c) _ (by rw [List.length_append]; omega)]; rfl
theorem v1_lt {v : List Int} {t : Int} (hv : v.length = 64) : (v ++ [t]).length < 70368744177664 ∧ (v ++ [t]).length + 128 < 70368744177664 := by
  simp only [List.length_append, hv, List.length_cons, List.length_nil]; omega
theorem jn3_sub {b c e : List Int} {n m o : Nat} (hb : b.length = n) (hc : c.length = m) (he : e.length = o) : sub (jn3 (sub b 0 n) (sub c 0 m) (sub e 0 o)) 0 (n + m + o) = jn3 b c e := by
  rw [sub_all b n (by omega), sub_all c m (by omega), sub_all e o (by omega)]
  exact sub_all _ _ (Nat.le_of_eq (jn3_len hb hc he))
theorem jn2_sub {b c : List Int} {n m : Nat} (hb : b.length = n) (hc : c.length = m) : sub (jn2 (sub b 0 n) (sub c 0 m)) 0 (n + m) = jn2 b c := by
  rw [sub_all b n (by omega), sub_all c m (by omega)]
  exact sub_all _ _ (Nat.le_of_eq (jn2_len hb hc))
theorem in3j {v b c e : List Int} {n m o : Nat} {t : Int} (hb : b.length = n) (hc : c.length = m) (he : e.length = o) : v ++ ([t] ++ (sub b 0 n ++ (sub c 0 m ++ (sub e 0 o ++ [])))) = v ++ ([t] ++ jn3 b c e) := by
  rw [sub_all b n (by omega), sub_all c m (by omega), sub_all e o (by omega), List.append_nil]; rfl
theorem in2j {v b c : List Int} {n m : Nat} {t : Int} (hb : b.length = n) (hc : c.length = m) : v ++ ([t] ++ (sub b 0 n ++ (sub c 0 m ++ []))) = v ++ ([t] ++ jn2 b c) := by
  rw [sub_all b n (by omega), sub_all c m (by omega), List.append_nil]; rfl
theorem in3_lt {v b c e : List Int} {n m o : Nat} {t : Int} (hv : v.length = 64) (hb : b.length = n) (hc : c.length = m) (he : e.length = o) (h1 : n < 8796093022208) (h2 : m < 8796093022208) (h3 : o < 8796093022208) :
    (v ++ ([t] ++ (sub b 0 n ++ (sub c 0 m ++ (sub e 0 o ++ []))))).length < 70368744177664 ∧ (v ++ ([t] ++ (sub b 0 n ++ (sub c 0 m ++ (sub e 0 o ++ []))))).length + 128 < 70368744177664 := by
  rw [in3j hb hc he]
  have := jn3_len hb hc he
  simp only [List.length_append, List.length_cons, List.length_nil]
  omega
theorem in2_lt {v b c : List Int} {n m : Nat} {t : Int} (hv : v.length = 64) (hb : b.length = n) (hc : c.length = m) (h1 : n < 8796093022208) (h2 : m < 8796093022208) :
    (v ++ ([t] ++ (sub b 0 n ++ (sub c 0 m ++ [])))).length < 70368744177664 ∧ (v ++ ([t] ++ (sub b 0 n ++ (sub c 0 m ++ [])))).length + 128 < 70368744177664 := by
  rw [in2j hb hc]
  have := jn2_len hb hc
  simp only [List.length_append, List.length_cons, List.length_nil]
  omega
def stK3 (k v b c e : List Int) : List Int := stK k v (jn3 b c e)
def stV3 (k v b c e : List Int) : List Int := stV k v (jn3 b c e)
def stK2 (k v b c : List Int) : List Int := stK k v (jn2 b c)
def stV2 (k v b c : List Int) : List Int := stV k v (jn2 b c)
def rdE (d : Int) : Int := drE 32 d
noncomputable def rnK (d : Int) (k v : List Int) : List Int := drK0 32 d k v
noncomputable def rnV (d : Int) (k v : List Int) : List Int := drV0 32 d k v
def rnD (d : Int) : Int := drD 32 d
/-- 32 bytes drawn, or none -/
noncomputable def rdA (d : Int) (k v : List Int) : List Int := cond (decide (d < 4096)) (sub (drO0 32 d k v) 0 32) (List.replicate 32 0)
theorem rdA_ok {d : Int} {k v : List Int} (h : d < 4096) : rdA d k v = sub (drO0 32 d k v) 0 32 := by unfold rdA; rw [decide_eq_true h]; rfl
theorem rdA_bad {d : Int} {k v : List Int} (h : ¬ d < 4096) : rdA d k v = List.replicate 32 0 := by unfold rdA; rw [decide_eq_false h]; rfl
theorem rd_splice (y : List Int) : splice [0, 0, 0, 0, 0, 0, 0, 0, 0, 0, 0, 0, 0, 0, 0, 0, 0, 0, 0, 0, 0, 0, 0, 0, 0, 0, 0, 0, 0, 0, 0, 0] 0 32 y = y := by
  unfold splice; simp
theorem drN32 {d : Int} (h : d < 4096) : drN 32 d = 32 := by unfold drN; rw [dr_ok (by omega) (by omega) h]; rfl
theorem drM32 {d : Int} (h : d < 4096) : drM 32 d = 64 := by
  have hq := rnds_eq 32
  unfold drM; rw [dr_ok (by omega) (by omega) h]
  show 64 * rnds 32 = 64
  rw [hq]; rfl
theorem drE32 {d : Int} (h : d < 4096) : drE 32 d = 0 := by unfold drE; rw [if_neg (by omega), if_neg (by omega), if_neg (by omega)]
theorem drN32b {d : Int} (h : ¬ d < 4096) : drN 32 d = 0 := by unfold drN; rw [dr_bad (by omega)]; rfl
theorem drM32b {d : Int} (h : ¬ d < 4096) : drM 32 d = 0 := by unfold drM; rw [dr_bad (by omega)]; rfl
theorem drO32b {d : Int} {k v : List Int} (h : ¬ d < 4096) : drO0 32 d k v = [] := by unfold drO0 drO; rw [dr_bad (by omega)]; rfl
theorem drE32b {d : Int} (h : ¬ d < 4096) : drE 32 d = 112 := by unfold drE; rw [if_neg (by omega), if_neg (by omega), if_pos (by omega)]
end Go.Proofs.Ytlmdhjojinkdbaa.X

/- Printed by a tool of this session. -/
namespace Go.Proofs.Ytlmdhjojinkdbaa.X
open Go Go.Proofs
set_option linter.unusedVariables false
set_option linter.unusedSimpArgs false
set_option maxRecDepth 100000
theorem teKN_5 : TEOk Try.prog 5 ⟨.int .u8, 1, 1, [.i .u8 (0 : Int)], false⟩ :=
  TEOk.of Try.underlying5 (i := Try.t5) (by kernel_rfl) rfl rfl rfl (by kernel_rfl) (fun h => by cases h) (by kernel_rfl)
theorem teKN_22 : TEOk Try.prog 22 ⟨.slice 5, 1, 24, [.raw (.slice none 0 0)], false⟩ :=
  TEOk.of Try.underlying22 (i := Try.t22) (by kernel_rfl) rfl rfl rfl (by kernel_rfl) (fun h => by cases h) (by kernel_rfl)
theorem teKN_23 : TEOk Try.prog 23 ⟨.slice 22, 1, 24, [.raw (.slice none 0 0)], false⟩ :=
  TEOk.of Try.underlying23 (i := Try.t23) (by kernel_rfl) rfl rfl rfl (by kernel_rfl) (fun h => by cases h) (by kernel_rfl)
theorem teKN_32 : TEOk Try.prog 32 ⟨.array 64 5, 64, 64, [.ints .u8 64 (List.replicate 64 0)], true⟩ :=
  TEOk.of Try.underlying32 (i := Try.t32) (by kernel_rfl) rfl rfl rfl (by kernel_rfl) (fun _ => Try.eqGuardType32) (by kernel_rfl)
theorem teKN_78 : TEOk Try.prog 78 ⟨Try.t77.desc, 129, 136, [.ints .u8 64 (List.replicate 64 0), .ints .u8 64 (List.replicate 64 0), .i .i64 (0 : Int)], false⟩ :=
  TEOk.of Try.underlying78 (i := Try.t78) (by kernel_rfl) rfl rfl rfl (by kernel_rfl) (fun h => by cases h) (by kernel_rfl)
noncomputable def tabKN : List (Nat × TE) := [(5, ⟨.int .u8, 1, 1, [.i .u8 (0 : Int)], false⟩), (22, ⟨.slice 5, 1, 24, [nlA], false⟩), (23, ⟨.slice 22, 1, 24, [nlA], false⟩), (32, ⟨.array 64 5, 64, 64, [.ints .u8 64 (List.replicate 64 0)], true⟩), (78, ⟨Try.t77.desc, 129, 136, [.ints .u8 64 (List.replicate 64 0), .ints .u8 64 (List.replicate 64 0), .i .i64 (0 : Int)], false⟩)]
theorem tabOkKN : TabOk Try.prog (tabOf tabKN) := (tabOf_cons teKN_5 (tabOf_cons teKN_22 (tabOf_cons teKN_23 (tabOf_cons teKN_32 (tabOf_cons teKN_78 tabOf_nil)))))

set_option maxHeartbeats 1000000 in
theorem rstirZ_body0 (ky v : List Int) (d : Int) (n nm : Nat) (b : List Int) (cap1 : Nat) (h0 : (nm = n)) (h1 : (n < 35184372088832)) (hc1 : n ≤ cap1) (hl0_0 : List.length ky = 64) (hl0_1 : List.length v = 64) (hl1_0 : List.length b = nm) (hz : n = 0) (w : World) (rw : List Nat) (β : Env) : Body Try.prog (tabOf tabKN) Try.f58 ⟨w, rw, 2, β⟩ [.o (.a (.p 0 0)), .o (.a (.sl 1 0 n cap1))] [some ⟨true, [.ints .u8 64 ky, .ints .u8 64 v, .i .i64 d]⟩, some ⟨false, [.ints .u8 nm b]⟩] (fun ys K' => ys = [] ∧ K' = [some ⟨true, [.ints .u8 64 (stK ky v b), .ints .u8 64 (stV ky v b), .i .i64 d]⟩, some ⟨false, [.ints .u8 nm b]⟩]) :=
  Body.of_finKAt (Γ := (grmac w rw gam306)) (Λ := noLam) (Ψ := psiOf [(0, [.eqB 0 (⟨true, [.ints .u8 64 (st1K ky v b), .ints .u8 64 v, .i .i64 d]⟩)]), (1, [.eqB 0 (⟨true, [.ints .u8 64 (st1K ky v b), .ints .u8 64 (st1V ky v b), .i .i64 d]⟩)])]) (fuel := 0) (m := 63) (c := (Try.f58.body.getD .skip)) mix tabOkKN (grmac_ok (gam306_ok.at _ _)) rfl (rs := []) rfl rfl [false] [.eqB 0 (⟨true, [.ints .u8 64 (stK ky v b), .ints .u8 64 (stV ky v b), .i .i64 d]⟩)] 2
    (vc := [((some ⟨true, [.ints .u8 64 (st1K ky v b), .ints .u8 64 (st1V ky v b), .i .i64 d]⟩ : Option Blk) = some ⟨true, [.ints .u8 64 (stK ky v b), .ints .u8 64 (stV ky v b), .i .i64 d]⟩), ((decide (((n : Nat) : Int) > (0 : Int))) = false), ((some ⟨true, [.ints .u8 64 (st1K ky v b), .ints .u8 64 (macD (st1K ky v b) (v ++ ([] : List Int))), .i .i64 d]⟩ : Option Blk) = some ⟨true, [.ints .u8 64 (st1K ky v b), .ints .u8 64 (st1V ky v b), .i .i64 d]⟩), ((1 = 1) ∧ (True ∧ True) ∧ ((List.length (v ++ ([] : List Int))) < 70368744177664) ∧ (True ∧ True) ∧ ((64 = 64) ∧ (cN 64 70368744177664) ∧ (cN 2 4398046511104) ∧ (((List.length (v ++ ([] : List Int))) + 128) < 70368744177664))), ((cZ 0) ∧ (cZ 64)), ((cZ 0) ∧ (cZ 64)), ((some ⟨true, [.ints .u8 64 (macD ky (v ++ (([0] : List Int) ++ ((sub b 0 n) ++ ([] : List Int))))), .ints .u8 64 v, .i .i64 d]⟩ : Option Blk) = some ⟨true, [.ints .u8 64 (st1K ky v b), .ints .u8 64 v, .i .i64 d]⟩), ((3 = 3) ∧ (True ∧ ((1 ≤ 1) ∧ (((0 + n) ≤ nm) ∧ True))) ∧ ((List.length (v ++ (([0] : List Int) ++ ((sub b 0 n) ++ ([] : List Int))))) < 70368744177664) ∧ (True ∧ True) ∧ ((64 = 64) ∧ (cN 64 70368744177664) ∧ (cN 4 4398046511104) ∧ (((List.length (v ++ (([0] : List Int) ++ ((sub b 0 n) ++ ([] : List Int))))) + 128) < 70368744177664))), ((cZ 0) ∧ (cZ 64)), ((cZ 0) ∧ (cZ 64))]) (by kernel_rfl)
    (aC ((by rw [stK_zero (hl1_0.trans h0) hz, stV_zero (hl1_0.trans h0) hz])) (aC (decide_eq_false (by first|omega|(simp (disch:=omega) only [wrapI];omega))) (aC ((by first | (rw [List.append_nil]; rfl) | rw [List.append_nil])) (aC ⟨rfl, ⟨trivial, trivial⟩, (v_lt hl0_1).1, ⟨trivial, trivial⟩, ⟨rfl, (dd rfl), (dd rfl), (v_lt hl0_1).2⟩⟩ (aC (dd rfl) (aC (dd rfl) (aC ((by first | (rw [in1 (hl1_0.trans h0)]; rfl) | rw [in1 (hl1_0.trans h0)])) (aC ⟨rfl, ⟨trivial, ⟨(dd rfl), ⟨(by first|omega|(simp (disch:=omega) only [wrapI];omega)), trivial⟩⟩⟩, (in_lt hl0_1 (hl1_0.trans h0) h1).1, ⟨trivial, trivial⟩, ⟨rfl, (dd rfl), (dd rfl), (in_lt hl0_1 (hl1_0.trans h0) h1).2⟩⟩ (aC (dd rfl) (aC (dd rfl) (AllP_nil)))))))))))

set_option maxHeartbeats 1000000 in
theorem rstirP_body0 (ky v : List Int) (d : Int) (n nm : Nat) (b : List Int) (cap1 : Nat) (h0 : (nm = n)) (h1 : (n < 35184372088832)) (hc1 : n ≤ cap1) (hl0_0 : List.length ky = 64) (hl0_1 : List.length v = 64) (hl1_0 : List.length b = nm) (hz : n ≠ 0) (w : World) (rw : List Nat) (β : Env) : Body Try.prog (tabOf tabKN) Try.f58 ⟨w, rw, 2, β⟩ [.o (.a (.p 0 0)), .o (.a (.sl 1 0 n cap1))] [some ⟨true, [.ints .u8 64 ky, .ints .u8 64 v, .i .i64 d]⟩, some ⟨false, [.ints .u8 nm b]⟩] (fun ys K' => ys = [] ∧ K' = [some ⟨true, [.ints .u8 64 (stK ky v b), .ints .u8 64 (stV ky v b), .i .i64 d]⟩, some ⟨false, [.ints .u8 nm b]⟩]) :=
  Body.of_finKAt (Γ := (grmac w rw gam306)) (Λ := noLam) (Ψ := psiOf [(0, [.eqB 0 (⟨true, [.ints .u8 64 (st1K ky v b), .ints .u8 64 v, .i .i64 d]⟩)]), (1, [.eqB 0 (⟨true, [.ints .u8 64 (st1K ky v b), .ints .u8 64 (st1V ky v b), .i .i64 d]⟩)]), (3, [.eqB 0 (⟨true, [.ints .u8 64 (st2K ky v b), .ints .u8 64 (st1V ky v b), .i .i64 d]⟩)]), (4, [.eqB 0 (⟨true, [.ints .u8 64 (st2K ky v b), .ints .u8 64 (st2V ky v b), .i .i64 d]⟩)])]) (fuel := 0) (m := 63) (c := (Try.f58.body.getD .skip)) mix tabOkKN (grmac_ok (gam306_ok.at _ _)) rfl (rs := []) rfl rfl [true] [.eqB 0 (⟨true, [.ints .u8 64 (stK ky v b), .ints .u8 64 (stV ky v b), .i .i64 d]⟩)] 2
    (vc := [((some ⟨true, [.ints .u8 64 (st2K ky v b), .ints .u8 64 (st2V ky v b), .i .i64 d]⟩ : Option Blk) = some ⟨true, [.ints .u8 64 (stK ky v b), .ints .u8 64 (stV ky v b), .i .i64 d]⟩), ((some ⟨true, [.ints .u8 64 (st2K ky v b), .ints .u8 64 (macD (st2K ky v b) ((st1V ky v b) ++ ([] : List Int))), .i .i64 d]⟩ : Option Blk) = some ⟨true, [.ints .u8 64 (st2K ky v b), .ints .u8 64 (st2V ky v b), .i .i64 d]⟩), ((1 = 1) ∧ (True ∧ True) ∧ ((List.length ((st1V ky v b) ++ ([] : List Int))) < 70368744177664) ∧ (True ∧ True) ∧ ((64 = 64) ∧ (cN 64 70368744177664) ∧ (cN 2 4398046511104) ∧ (((List.length ((st1V ky v b) ++ ([] : List Int))) + 128) < 70368744177664))), ((cZ 0) ∧ (cZ 64)), ((cZ 0) ∧ (cZ 64)), ((some ⟨true, [.ints .u8 64 (macD (st1K ky v b) ((st1V ky v b) ++ (([1] : List Int) ++ ((sub b 0 n) ++ ([] : List Int))))), .ints .u8 64 (st1V ky v b), .i .i64 d]⟩ : Option Blk) = some ⟨true, [.ints .u8 64 (st2K ky v b), .ints .u8 64 (st1V ky v b), .i .i64 d]⟩), ((3 = 3) ∧ (True ∧ ((1 ≤ 1) ∧ (((0 + n) ≤ nm) ∧ True))) ∧ ((List.length ((st1V ky v b) ++ (([1] : List Int) ++ ((sub b 0 n) ++ ([] : List Int))))) < 70368744177664) ∧ (True ∧ True) ∧ ((64 = 64) ∧ (cN 64 70368744177664) ∧ (cN 4 4398046511104) ∧ (((List.length ((st1V ky v b) ++ (([1] : List Int) ++ ((sub b 0 n) ++ ([] : List Int))))) + 128) < 70368744177664))), ((cZ 0) ∧ (cZ 64)), ((cZ 0) ∧ (cZ 64)), ((decide (((n : Nat) : Int) > (0 : Int))) = true), ((some ⟨true, [.ints .u8 64 (st1K ky v b), .ints .u8 64 (macD (st1K ky v b) (v ++ ([] : List Int))), .i .i64 d]⟩ : Option Blk) = some ⟨true, [.ints .u8 64 (st1K ky v b), .ints .u8 64 (st1V ky v b), .i .i64 d]⟩), ((1 = 1) ∧ (True ∧ True) ∧ ((List.length (v ++ ([] : List Int))) < 70368744177664) ∧ (True ∧ True) ∧ ((64 = 64) ∧ (cN 64 70368744177664) ∧ (cN 2 4398046511104) ∧ (((List.length (v ++ ([] : List Int))) + 128) < 70368744177664))), ((cZ 0) ∧ (cZ 64)), ((cZ 0) ∧ (cZ 64)), ((some ⟨true, [.ints .u8 64 (macD ky (v ++ (([0] : List Int) ++ ((sub b 0 n) ++ ([] : List Int))))), .ints .u8 64 v, .i .i64 d]⟩ : Option Blk) = some ⟨true, [.ints .u8 64 (st1K ky v b), .ints .u8 64 v, .i .i64 d]⟩), ((3 = 3) ∧ (True ∧ ((1 ≤ 1) ∧ (((0 + n) ≤ nm) ∧ True))) ∧ ((List.length (v ++ (([0] : List Int) ++ ((sub b 0 n) ++ ([] : List Int))))) < 70368744177664) ∧ (True ∧ True) ∧ ((64 = 64) ∧ (cN 64 70368744177664) ∧ (cN 4 4398046511104) ∧ (((List.length (v ++ (([0] : List Int) ++ ((sub b 0 n) ++ ([] : List Int))))) + 128) < 70368744177664))), ((cZ 0) ∧ (cZ 64)), ((cZ 0) ∧ (cZ 64))]) (by kernel_rfl)
    (aC ((by rw [stK_pos (hl1_0.trans h0) hz, stV_pos (hl1_0.trans h0) hz])) (aC ((by first | (rw [List.append_nil]; rfl) | rw [List.append_nil])) (aC ⟨rfl, ⟨trivial, trivial⟩, (v_lt (macD_len _ _)).1, ⟨trivial, trivial⟩, ⟨rfl, (dd rfl), (dd rfl), (v_lt (macD_len _ _)).2⟩⟩ (aC (dd rfl) (aC (dd rfl) (aC ((by first | (rw [in1 (hl1_0.trans h0)]; rfl) | rw [in1 (hl1_0.trans h0)])) (aC ⟨rfl, ⟨trivial, ⟨(dd rfl), ⟨(by first|omega|(simp (disch:=omega) only [wrapI];omega)), trivial⟩⟩⟩, (in_lt (macD_len _ _) (hl1_0.trans h0) h1).1, ⟨trivial, trivial⟩, ⟨rfl, (dd rfl), (dd rfl), (in_lt (macD_len _ _) (hl1_0.trans h0) h1).2⟩⟩ (aC (dd rfl) (aC (dd rfl) (aC (decide_eq_true (by first|omega|(simp (disch:=omega) only [wrapI];omega))) (aC ((by first | (rw [List.append_nil]; rfl) | rw [List.append_nil])) (aC ⟨rfl, ⟨trivial, trivial⟩, (v_lt hl0_1).1, ⟨trivial, trivial⟩, ⟨rfl, (dd rfl), (dd rfl), (v_lt hl0_1).2⟩⟩ (aC (dd rfl) (aC (dd rfl) (aC ((by first | (rw [in1 (hl1_0.trans h0)]; rfl) | rw [in1 (hl1_0.trans h0)])) (aC ⟨rfl, ⟨trivial, ⟨(dd rfl), ⟨(by first|omega|(simp (disch:=omega) only [wrapI];omega)), trivial⟩⟩⟩, (in_lt hl0_1 (hl1_0.trans h0) h1).1, ⟨trivial, trivial⟩, ⟨rfl, (dd rfl), (dd rfl), (in_lt hl0_1 (hl1_0.trans h0) h1).2⟩⟩ (aC (dd rfl) (aC (dd rfl) (AllP_nil)))))))))))))))))))

theorem rstir_body (ky v : List Int) (d : Int) (n nm : Nat) (b : List Int) (cap1 : Nat) (h0 : (nm = n)) (h1 : (n < 35184372088832)) (w : World) (rw : List Nat) (β : Env) : Body Try.prog (tabOf tabKN) Try.f58 ⟨w, rw, 2, β⟩ [.o (.a (.p 0 0)), .o (.a (.sl 1 0 n cap1))] [some ⟨true, [.ints .u8 64 ky, .ints .u8 64 v, .i .i64 d]⟩, some ⟨false, [.ints .u8 nm b]⟩] (fun ys K' => ys = [] ∧ K' = [some ⟨true, [.ints .u8 64 (stK ky v b), .ints .u8 64 (stV ky v b), .i .i64 d]⟩, some ⟨false, [.ints .u8 nm b]⟩]) :=
  Body.lens (c := (Try.f58.body.getD .skip)) rfl fun h => by
  by_cases hz : n = 0
  · exact rstirZ_body0 ky v d n nm b cap1 h0 h1 (h.caps 1 _ _ _ _ rfl) (h.lens 0 _ .u8 (64 : Nat) ky rfl (by simp)) (h.lens 0 _ .u8 (64 : Nat) v rfl (by simp)) (h.lens 1 _ .u8 nm b rfl (by simp)) hz w rw β
  · exact rstirP_body0 ky v d n nm b cap1 h0 h1 (h.caps 1 _ _ _ _ rfl) (h.lens 0 _ .u8 (64 : Nat) ky rfl (by simp)) (h.lens 0 _ .u8 (64 : Nat) v rfl (by simp)) (h.lens 1 _ .u8 nm b rfl (by simp)) hz w rw β

noncomputable def joined3 (n m o : Nat) : Nat :=
  ((n + m) + o)

set_option maxHeartbeats 1000000 in
theorem joined3_body0 (n nm : Nat) (b : List Int) (m mm : Nat) (c : List Int) (o om : Nat) (e : List Int) (cap0 cap1 cap2 : Nat) (h0 : (nm = n)) (h1 : (mm = m)) (h2 : (om = o)) (h3 : (n < 8796093022208)) (h4 : (m < 8796093022208)) (h5 : (o < 8796093022208)) (hc0 : n ≤ cap0) (hc1 : m ≤ cap1) (hc2 : o ≤ cap2) (hl0_0 : List.length b = nm) (hl1_0 : List.length c = mm) (hl2_0 : List.length e = om) (w : World) (rw : List Nat) (β : Env) : Body Try.prog (tabOf tabKN) Try.f59 ⟨w, rw, 3, β⟩ [.o (.a (.sl 0 0 n cap0)), .o (.a (.sl 1 0 m cap1)), .o (.a (.sl 2 0 o cap2))] [some ⟨false, [.ints .u8 nm b]⟩, some ⟨false, [.ints .u8 mm c]⟩, some ⟨false, [.ints .u8 om e]⟩] (fun ys K' => ys = [.a (.rs 3 0 (joined3 n m o) 1)] ∧ K' = [some ⟨false, [.ints .u8 nm b]⟩, some ⟨false, [.ints .u8 mm c]⟩, some ⟨false, [.ints .u8 om e]⟩, some ⟨true, [.ints .u8 (joined3 n m o) (jn3 b c e)]⟩]) :=
  Body.of_finK (Γ := gam306) (Λ := noLam) (Ψ := psiOf [(1, [.rowS 7 .u8 1])]) (fuel := 0) (m := 18) (c := (Try.f59.body.getD .skip)) mix tabOkKN gam306_ok rfl (rs := [.tmp 6]) rfl rfl [false, false, false] [.eqS 6 (.o (.a (.rs 6 0 ((n + m) + o) 1))), .eqB 6 (⟨true, [.ints .u8 ((n + m) + o) (jn3 b c e)]⟩), .swap 3 6] 4
    (vc := [((some ⟨true, [.ints .u8 (((0 + n) + m) + o) ((sub ((sub (([] : List Int) ++ (sub b 0 n)) 0 (0 + n)) ++ (sub c 0 m)) 0 ((0 + n) + m)) ++ (sub e 0 o))]⟩ : Option Blk) = some ⟨true, [.ints .u8 ((n + m) + o) (jn3 b c e)]⟩), ((.o (.a (.rs 6 0 (((0 + n) + m) + o) 1)) : AV) = .o (.a (.rs 6 0 ((n + m) + o) 1))), (((0 + ((0 + n) + m)) ≤ ((0 + n) + m)) ∧ ((o ≤ o) ∧ ((0 + o) ≤ om)) ∧ (((((0 + n) + m) + o) * 1) ≤ 140737488355328)), (((0 + (0 + n)) ≤ (0 + n)) ∧ ((m ≤ m) ∧ ((0 + m) ≤ mm)) ∧ ((((0 + n) + m) * 1) ≤ 140737488355328)), ((0 ≤ 0) ∧ ((n ≤ n) ∧ ((0 + n) ≤ nm)) ∧ (((0 + n) * 1) ≤ 140737488355328))]) (by kernel_rfl)
    (aC ((by simp only [Nat.zero_add, List.nil_append]; rw [jn3_eq (hl0_0.trans h0) (hl1_0.trans h1) (hl2_0.trans h2)])) (aC ((by first | rfl | (simp only [Nat.zero_add, Nat.add_zero]))) (aC ⟨(by first|omega|(simp (disch:=omega) only [wrapI];omega)), ⟨(by first|omega|(simp (disch:=omega) only [wrapI];omega)), (by first|omega|(simp (disch:=omega) only [wrapI];omega))⟩, (by first|omega|(simp (disch:=omega) only [wrapI];omega))⟩ (aC ⟨(by first|omega|(simp (disch:=omega) only [wrapI];omega)), ⟨(by first|omega|(simp (disch:=omega) only [wrapI];omega)), (by first|omega|(simp (disch:=omega) only [wrapI];omega))⟩, (by first|omega|(simp (disch:=omega) only [wrapI];omega))⟩ (aC ⟨(dd rfl), ⟨(by first|omega|(simp (disch:=omega) only [wrapI];omega)), (by first|omega|(simp (disch:=omega) only [wrapI];omega))⟩, (by first|omega|(simp (disch:=omega) only [wrapI];omega))⟩ (AllP_nil))))))

theorem joined3_body (n nm : Nat) (b : List Int) (m mm : Nat) (c : List Int) (o om : Nat) (e : List Int) (cap0 cap1 cap2 : Nat) (h0 : (nm = n)) (h1 : (mm = m)) (h2 : (om = o)) (h3 : (n < 8796093022208)) (h4 : (m < 8796093022208)) (h5 : (o < 8796093022208)) (w : World) (rw : List Nat) (β : Env) : Body Try.prog (tabOf tabKN) Try.f59 ⟨w, rw, 3, β⟩ [.o (.a (.sl 0 0 n cap0)), .o (.a (.sl 1 0 m cap1)), .o (.a (.sl 2 0 o cap2))] [some ⟨false, [.ints .u8 nm b]⟩, some ⟨false, [.ints .u8 mm c]⟩, some ⟨false, [.ints .u8 om e]⟩] (fun ys K' => ys = [.a (.rs 3 0 (joined3 n m o) 1)] ∧ K' = [some ⟨false, [.ints .u8 nm b]⟩, some ⟨false, [.ints .u8 mm c]⟩, some ⟨false, [.ints .u8 om e]⟩, some ⟨true, [.ints .u8 (joined3 n m o) (jn3 b c e)]⟩]) :=
  Body.lens (c := (Try.f59.body.getD .skip)) rfl fun h => joined3_body0 n nm b m mm c o om e cap0 cap1 cap2 h0 h1 h2 h3 h4 h5 (h.caps 0 _ _ _ _ rfl) (h.caps 1 _ _ _ _ rfl) (h.caps 2 _ _ _ _ rfl) (h.lens 0 _ .u8 nm b rfl (by simp)) (h.lens 1 _ .u8 mm c rfl (by simp)) (h.lens 2 _ .u8 om e rfl (by simp)) w rw β

noncomputable def joined2 (n m : Nat) : Nat :=
  (n + m)

set_option maxHeartbeats 1000000 in
theorem joined2_body0 (n nm : Nat) (b : List Int) (m mm : Nat) (c : List Int) (cap0 cap1 : Nat) (h0 : (nm = n)) (h1 : (mm = m)) (h2 : (n < 8796093022208)) (h3 : (m < 8796093022208)) (hc0 : n ≤ cap0) (hc1 : m ≤ cap1) (hl0_0 : List.length b = nm) (hl1_0 : List.length c = mm) (w : World) (rw : List Nat) (β : Env) : Body Try.prog (tabOf tabKN) Try.f59 ⟨w, rw, 2, β⟩ [.o (.a (.sl 0 0 n cap0)), .o (.a (.sl 1 0 m cap1)), .o (.a nlA)] [some ⟨false, [.ints .u8 nm b]⟩, some ⟨false, [.ints .u8 mm c]⟩] (fun ys K' => ys = [.a (.rs 2 0 (joined2 n m) 1)] ∧ K' = [some ⟨false, [.ints .u8 nm b]⟩, some ⟨false, [.ints .u8 mm c]⟩, some ⟨true, [.ints .u8 (joined2 n m) (jn2 b c)]⟩]) :=
  Body.of_finK (Γ := gam306) (Λ := noLam) (Ψ := psiOf [(1, [.rowS 7 .u8 1, .rowS 2 .u8 1])]) (fuel := 0) (m := 18) (c := (Try.f59.body.getD .skip)) mix tabOkKN gam306_ok rfl (rs := [.tmp 6]) rfl rfl [false, false, false] [.eqS 6 (.o (.a (.rs 6 0 (n + m) 1))), .eqB 6 (⟨true, [.ints .u8 (n + m) (jn2 b c)]⟩), .swap 2 6] 3
    (vc := [((some ⟨true, [.ints .u8 ((0 + n) + m) ((sub ((sub (([] : List Int) ++ (sub b 0 n)) 0 (0 + n)) ++ (sub c 0 m)) 0 ((0 + n) + m)) ++ ([] : List Int))]⟩ : Option Blk) = some ⟨true, [.ints .u8 (n + m) (jn2 b c)]⟩), ((.o (.a (.rs 6 0 ((0 + n) + m) 1)) : AV) = .o (.a (.rs 6 0 (n + m) 1))), (((0 + ((0 + n) + m)) ≤ ((0 + n) + m)) ∧ ((0 ≤ 0) ∧ (0 ≤ 0)) ∧ ((((0 + n) + m) * 1) ≤ 140737488355328)), (((0 + (0 + n)) ≤ (0 + n)) ∧ ((m ≤ m) ∧ ((0 + m) ≤ mm)) ∧ ((((0 + n) + m) * 1) ≤ 140737488355328)), ((0 ≤ 0) ∧ ((n ≤ n) ∧ ((0 + n) ≤ nm)) ∧ (((0 + n) * 1) ≤ 140737488355328))]) (by kernel_rfl)
    (aC ((by simp only [Nat.zero_add, Nat.add_zero, List.nil_append]; rw [jn2_eq (hl0_0.trans h0) (hl1_0.trans h1)])) (aC ((by first | rfl | (simp only [Nat.zero_add, Nat.add_zero]))) (aC ⟨(by first|omega|(simp (disch:=omega) only [wrapI];omega)), (dd rfl), (by first|omega|(simp (disch:=omega) only [wrapI];omega))⟩ (aC ⟨(by first|omega|(simp (disch:=omega) only [wrapI];omega)), ⟨(by first|omega|(simp (disch:=omega) only [wrapI];omega)), (by first|omega|(simp (disch:=omega) only [wrapI];omega))⟩, (by first|omega|(simp (disch:=omega) only [wrapI];omega))⟩ (aC ⟨(dd rfl), ⟨(by first|omega|(simp (disch:=omega) only [wrapI];omega)), (by first|omega|(simp (disch:=omega) only [wrapI];omega))⟩, (by first|omega|(simp (disch:=omega) only [wrapI];omega))⟩ (AllP_nil))))))

theorem joined2_body (n nm : Nat) (b : List Int) (m mm : Nat) (c : List Int) (cap0 cap1 : Nat) (h0 : (nm = n)) (h1 : (mm = m)) (h2 : (n < 8796093022208)) (h3 : (m < 8796093022208)) (w : World) (rw : List Nat) (β : Env) : Body Try.prog (tabOf tabKN) Try.f59 ⟨w, rw, 2, β⟩ [.o (.a (.sl 0 0 n cap0)), .o (.a (.sl 1 0 m cap1)), .o (.a nlA)] [some ⟨false, [.ints .u8 nm b]⟩, some ⟨false, [.ints .u8 mm c]⟩] (fun ys K' => ys = [.a (.rs 2 0 (joined2 n m) 1)] ∧ K' = [some ⟨false, [.ints .u8 nm b]⟩, some ⟨false, [.ints .u8 mm c]⟩, some ⟨true, [.ints .u8 (joined2 n m) (jn2 b c)]⟩]) :=
  Body.lens (c := (Try.f59.body.getD .skip)) rfl fun h => joined2_body0 n nm b m mm c cap0 cap1 h0 h1 h2 h3 (h.caps 0 _ _ _ _ rfl) (h.caps 1 _ _ _ _ rfl) (h.lens 0 _ .u8 nm b rfl (by simp)) (h.lens 1 _ .u8 mm c rfl (by simp)) w rw β

end Go.Proofs.Ytlmdhjojinkdbaa.X

/- Printed by a tool of this session. -/
namespace Go.Proofs.Ytlmdhjojinkdbaa.X
open Go Go.Proofs
set_option linter.unusedVariables false
set_option linter.unusedSimpArgs false
set_option maxRecDepth 100000
theorem teKO_3 : TEOk Try.prog 3 ⟨.int .i64, 1, 8, [.i .i64 (0 : Int)], false⟩ :=
  TEOk.of Try.underlying3 (i := Try.t3) (by kernel_rfl) rfl rfl rfl (by kernel_rfl) (fun h => by cases h) (by kernel_rfl)
theorem teKO_5 : TEOk Try.prog 5 ⟨.int .u8, 1, 1, [.i .u8 (0 : Int)], false⟩ :=
  TEOk.of Try.underlying5 (i := Try.t5) (by kernel_rfl) rfl rfl rfl (by kernel_rfl) (fun h => by cases h) (by kernel_rfl)
theorem teKO_22 : TEOk Try.prog 22 ⟨.slice 5, 1, 24, [.raw (.slice none 0 0)], false⟩ :=
  TEOk.of Try.underlying22 (i := Try.t22) (by kernel_rfl) rfl rfl rfl (by kernel_rfl) (fun h => by cases h) (by kernel_rfl)
theorem teKO_23 : TEOk Try.prog 23 ⟨.slice 22, 1, 24, [.raw (.slice none 0 0)], false⟩ :=
  TEOk.of Try.underlying23 (i := Try.t23) (by kernel_rfl) rfl rfl rfl (by kernel_rfl) (fun h => by cases h) (by kernel_rfl)
theorem teKO_32 : TEOk Try.prog 32 ⟨.array 64 5, 64, 64, [.ints .u8 64 (List.replicate 64 0)], true⟩ :=
  TEOk.of Try.underlying32 (i := Try.t32) (by kernel_rfl) rfl rfl rfl (by kernel_rfl) (fun _ => Try.eqGuardType32) (by kernel_rfl)
theorem teKO_78 : TEOk Try.prog 78 ⟨Try.t77.desc, 129, 136, [.ints .u8 64 (List.replicate 64 0), .ints .u8 64 (List.replicate 64 0), .i .i64 (0 : Int)], false⟩ :=
  TEOk.of Try.underlying78 (i := Try.t78) (by kernel_rfl) rfl rfl rfl (by kernel_rfl) (fun h => by cases h) (by kernel_rfl)
noncomputable def tabKO : List (Nat × TE) := [(3, ⟨.int .i64, 1, 8, [.i .i64 (0 : Int)], false⟩), (5, ⟨.int .u8, 1, 1, [.i .u8 (0 : Int)], false⟩), (22, ⟨.slice 5, 1, 24, [nlA], false⟩), (23, ⟨.slice 22, 1, 24, [nlA], false⟩), (32, ⟨.array 64 5, 64, 64, [.ints .u8 64 (List.replicate 64 0)], true⟩), (78, ⟨Try.t77.desc, 129, 136, [.ints .u8 64 (List.replicate 64 0), .ints .u8 64 (List.replicate 64 0), .i .i64 (0 : Int)], false⟩)]
theorem tabOkKO : TabOk Try.prog (tabOf tabKO) := (tabOf_cons teKO_3 (tabOf_cons teKO_5 (tabOf_cons teKO_22 (tabOf_cons teKO_23 (tabOf_cons teKO_32 (tabOf_cons teKO_78 tabOf_nil))))))

noncomputable def gam721 : Gam := gcall 58 [true] [.w, .s 1] (fun wk vs args => match wk, vs, args with | [⟨true, [.ints .u8 64 ky, .ints .u8 64 v, .i .i64 d]⟩], [⟨_, _, _, [.ints .u8 nm b]⟩], [.o (.a (.p 0 0)), .o (.a (.sl 1 0 n _))] => some ((nm = n) ∧ (n < 35184372088832), [], [some ⟨true, [.ints .u8 64 (stK ky v b), .ints .u8 64 (stV ky v b), .i .i64 d]⟩, some ⟨false, [.ints .u8 nm b]⟩]) | _, _, _ => none) gam306
theorem gam721_ok : GamOk Try.prog gam721 := gcall_ok tabOkKN Try.func58 gam306_ok Try.call58 (by
  intro wk vs args p xs K1 h hv
  split at h
  · simp only [Option.some.injEq, Prod.mk.injEq] at h; obtain ⟨rfl, rfl, rfl⟩ := h; obtain ⟨g0, g1⟩ := hv; exact fun caps w rw β => rstir_body _ _ _ _ _ _ _ g0 g1 w rw β
  · simp at h)

noncomputable def gam722 : Gam := gcall 59 [] [.s 1, .s 1, .s 1] (fun wk vs args => match wk, vs, args with | [], [⟨_, _, _, [.ints .u8 nm b]⟩, ⟨_, _, _, [.ints .u8 mm c]⟩, ⟨_, _, _, [.ints .u8 om e]⟩], [.o (.a (.sl 0 0 n _)), .o (.a (.sl 1 0 m _)), .o (.a (.sl 2 0 o _))] => some ((nm = n) ∧ (mm = m) ∧ (om = o) ∧ (n < 8796093022208) ∧ (m < 8796093022208) ∧ (o < 8796093022208), [.a (.rs 3 0 (joined3 n m o) 1)], [some ⟨false, [.ints .u8 nm b]⟩, some ⟨false, [.ints .u8 mm c]⟩, some ⟨false, [.ints .u8 om e]⟩, some ⟨true, [.ints .u8 (joined3 n m o) (jn3 b c e)]⟩]) | _, _, _ => none) gam721
theorem gam722_ok : GamOk Try.prog gam722 := gcall_ok tabOkKN Try.func59 gam721_ok Try.call59 (by
  intro wk vs args p xs K1 h hv
  split at h
  · simp only [Option.some.injEq, Prod.mk.injEq] at h; obtain ⟨rfl, rfl, rfl⟩ := h; obtain ⟨g0, g1, g2, g3, g4, g5⟩ := hv; exact fun caps w rw β => joined3_body _ _ _ _ _ _ _ _ _ _ _ _ g0 g1 g2 g3 g4 g5 w rw β
  · simp at h)

set_option maxHeartbeats 1000000 in
theorem rnewOk_body0 (n nm : Nat) (b : List Int) (m mm : Nat) (c : List Int) (o om : Nat) (e : List Int) (cap0 cap1 cap2 : Nat) (h0 : (nm = n)) (h1 : (mm = m)) (h2 : (om = o)) (h3 : (n < 8796093022208)) (h4 : (m < 8796093022208)) (h5 : (o < 8796093022208)) (h6 : (32 ≤ n)) (hc0 : n ≤ cap0) (hc1 : m ≤ cap1) (hc2 : o ≤ cap2) (hl0_0 : List.length b = nm) (hl1_0 : List.length c = mm) (hl2_0 : List.length e = om) (w : World) (rw : List Nat) (β : Env) : Body Try.prog (tabOf tabKO) Try.f25 ⟨w, rw, 3, β⟩ [.o (.a (.sl 0 0 n cap0)), .o (.a (.sl 1 0 m cap1)), .o (.a (.sl 2 0 o cap2))] [some ⟨false, [.ints .u8 nm b]⟩, some ⟨false, [.ints .u8 mm c]⟩, some ⟨false, [.ints .u8 om e]⟩] (fun ys K' => ys = [.a (.p 3 0), .a (.i .i64 (0 : Int))] ∧ K' = [some ⟨false, [.ints .u8 nm b]⟩, some ⟨false, [.ints .u8 mm c]⟩, some ⟨false, [.ints .u8 om e]⟩, some ⟨true, [.ints .u8 64 (nwK3 b c e), .ints .u8 64 (nwV3 b c e), .i .i64 (0 : Int)]⟩]) :=
  Body.of_finK (Γ := gam722) (Λ := noLam) (Ψ := noPsi) (fuel := 65) (m := 31) (c := (Try.f25.body.getD .skip)) mix tabOkKO gam722_ok rfl (rs := [.tmp 6, .tmp 7]) rfl rfl [false, true, true, true, true, true, true, true, true, true, true, true, true, true, true, true, true, true, true, true, true, true, true, true, true, true, true, true, true, true, true, true, true, true, true, true, true, true, true, true, true, true, true, true, true, true, true, true, true, true, true, true, true, true, true, true, true, true, true, true, true, true, true, true, true, false] [.eqB 3 (⟨true, [.ints .u8 64 (nwK3 b c e), .ints .u8 64 (nwV3 b c e), .i .i64 (0 : Int)]⟩)] 4
    (vc := [((some ⟨true, [.ints .u8 64 (stK (List.replicate 64 0) (List.replicate 64 1) (sub (jn3 (sub b 0 n) (sub c 0 m) (sub e 0 o)) 0 (joined3 n m o))), .ints .u8 64 (stV (List.replicate 64 0) (List.replicate 64 1) (sub (jn3 (sub b 0 n) (sub c 0 m) (sub e 0 o)) 0 (joined3 n m o))), .i .i64 (0 : Int)]⟩ : Option Blk) = some ⟨true, [.ints .u8 64 (nwK3 b c e), .ints .u8 64 (nwV3 b c e), .i .i64 (0 : Int)]⟩), ((True ∧ (((0 + (joined3 n m o)) ≤ (joined3 n m o)) ∧ True)) ∧ (((joined3 n m o) = (joined3 n m o)) ∧ ((joined3 n m o) < 35184372088832))), ((((0 + n) ≤ nm) ∧ (((0 + m) ≤ mm) ∧ (((0 + o) ≤ om) ∧ True))) ∧ ((n = n) ∧ (m = m) ∧ (o = o) ∧ (n < 8796093022208) ∧ (m < 8796093022208) ∧ (o < 8796093022208))), (false = false), (cI 63 64), cT, (cI 62 64), cT, (cI 61 64), cT, (cI 60 64), cT, (cI 59 64), cT, (cI 58 64), cT, (cI 57 64), cT, (cI 56 64), cT, (cI 55 64), cT, (cI 54 64), cT, (cI 53 64), cT, (cI 52 64), cT, (cI 51 64), cT, (cI 50 64), cT, (cI 49 64), cT, (cI 48 64), cT, (cI 47 64), cT, (cI 46 64), cT, (cI 45 64), cT, (cI 44 64), cT, (cI 43 64), cT, (cI 42 64), cT, (cI 41 64), cT, (cI 40 64), cT, (cI 39 64), cT, (cI 38 64), cT, (cI 37 64), cT, (cI 36 64), cT, (cI 35 64), cT, (cI 34 64), cT, (cI 33 64), cT, (cI 32 64), cT, (cI 31 64), cT, (cI 30 64), cT, (cI 29 64), cT, (cI 28 64), cT, (cI 27 64), cT, (cI 26 64), cT, (cI 25 64), cT, (cI 24 64), cT, (cI 23 64), cT, (cI 22 64), cT, (cI 21 64), cT, (cI 20 64), cT, (cI 19 64), cT, (cI 18 64), cT, (cI 17 64), cT, (cI 16 64), cT, (cI 15 64), cT, (cI 14 64), cT, (cI 13 64), cT, (cI 12 64), cT, (cI 11 64), cT, (cI 10 64), cT, (cI 9 64), cT, (cI 8 64), cT, (cI 7 64), cT, (cI 6 64), cT, (cI 5 64), cT, (cI 4 64), cT, (cI 3 64), cT, (cI 2 64), cT, (cI 1 64), cT, (cI 0 64), cT, ((decide (((n : Nat) : Int) < (32 : Int))) = false)]) (by kernel_rfl)
    (aC ((by rw [show sub (jn3 (sub b 0 n) (sub c 0 m) (sub e 0 o)) 0 (joined3 n m o) = jn3 b c e from jn3_sub (hl0_0.trans h0) (hl1_0.trans h1) (hl2_0.trans h2)]; rfl)) (aC ⟨⟨trivial, ⟨(by have hx : joined3 n m o = n + m + o := rfl; omega), trivial⟩⟩, ⟨rfl, (by have hx : joined3 n m o = n + m + o := rfl; omega)⟩⟩ (aC ⟨⟨(by first|omega|(simp (disch:=omega) only [wrapI];omega)), ⟨(by first|omega|(simp (disch:=omega) only [wrapI];omega)), ⟨(by first|omega|(simp (disch:=omega) only [wrapI];omega)), trivial⟩⟩⟩, ⟨rfl, rfl, rfl, h3, h4, h5⟩⟩ (aC rfl (aC (dd rfl) (aC rfl (aC (dd rfl) (aC rfl (aC (dd rfl) (aC rfl (aC (dd rfl) (aC rfl (aC (dd rfl) (aC rfl (aC (dd rfl) (aC rfl (aC (dd rfl) (aC rfl (aC (dd rfl) (aC rfl (aC (dd rfl) (aC rfl (aC (dd rfl) (aC rfl (aC (dd rfl) (aC rfl (aC (dd rfl) (aC rfl (aC (dd rfl) (aC rfl (aC (dd rfl) (aC rfl (aC (dd rfl) (aC rfl (aC (dd rfl) (aC rfl (aC (dd rfl) (aC rfl (aC (dd rfl) (aC rfl (aC (dd rfl) (aC rfl (aC (dd rfl) (aC rfl (aC (dd rfl) (aC rfl (aC (dd rfl) (aC rfl (aC (dd rfl) (aC rfl (aC (dd rfl) (aC rfl (aC (dd rfl) (aC rfl (aC (dd rfl) (aC rfl (aC (dd rfl) (aC rfl (aC (dd rfl) (aC rfl (aC (dd rfl) (aC rfl (aC (dd rfl) (aC rfl (aC (dd rfl) (aC rfl (aC (dd rfl) (aC rfl (aC (dd rfl) (aC rfl (aC (dd rfl) (aC rfl (aC (dd rfl) (aC rfl (aC (dd rfl) (aC rfl (aC (dd rfl) (aC rfl (aC (dd rfl) (aC rfl (aC (dd rfl) (aC rfl (aC (dd rfl) (aC rfl (aC (dd rfl) (aC rfl (aC (dd rfl) (aC rfl (aC (dd rfl) (aC rfl (aC (dd rfl) (aC rfl (aC (dd rfl) (aC rfl (aC (dd rfl) (aC rfl (aC (dd rfl) (aC rfl (aC (dd rfl) (aC rfl (aC (dd rfl) (aC rfl (aC (dd rfl) (aC rfl (aC (dd rfl) (aC rfl (aC (dd rfl) (aC rfl (aC (dd rfl) (aC rfl (aC (dd rfl) (aC rfl (aC (dd rfl) (aC rfl (aC (dd rfl) (aC rfl (aC (dd rfl) (aC rfl (aC (dd rfl) (aC rfl (aC (dd rfl) (aC rfl (aC (dd rfl) (aC rfl (aC (dd rfl) (aC rfl (aC (dd rfl) (aC rfl (aC (dd rfl) (aC rfl (aC (dd rfl) (aC rfl (aC (decide_eq_false (by first|omega|(simp (disch:=omega) only [wrapI];omega))) (AllP_nil))))))))))))))))))))))))))))))))))))))))))))))))))))))))))))))))))))))))))))))))))))))))))))))))))))))))))))))))))))))))))))))))))))))

theorem rnewOk_body (n nm : Nat) (b : List Int) (m mm : Nat) (c : List Int) (o om : Nat) (e : List Int) (cap0 cap1 cap2 : Nat) (h0 : (nm = n)) (h1 : (mm = m)) (h2 : (om = o)) (h3 : (n < 8796093022208)) (h4 : (m < 8796093022208)) (h5 : (o < 8796093022208)) (h6 : (32 ≤ n)) (w : World) (rw : List Nat) (β : Env) : Body Try.prog (tabOf tabKO) Try.f25 ⟨w, rw, 3, β⟩ [.o (.a (.sl 0 0 n cap0)), .o (.a (.sl 1 0 m cap1)), .o (.a (.sl 2 0 o cap2))] [some ⟨false, [.ints .u8 nm b]⟩, some ⟨false, [.ints .u8 mm c]⟩, some ⟨false, [.ints .u8 om e]⟩] (fun ys K' => ys = [.a (.p 3 0), .a (.i .i64 (0 : Int))] ∧ K' = [some ⟨false, [.ints .u8 nm b]⟩, some ⟨false, [.ints .u8 mm c]⟩, some ⟨false, [.ints .u8 om e]⟩, some ⟨true, [.ints .u8 64 (nwK3 b c e), .ints .u8 64 (nwV3 b c e), .i .i64 (0 : Int)]⟩]) :=
  Body.lens (c := (Try.f25.body.getD .skip)) rfl fun h => rnewOk_body0 n nm b m mm c o om e cap0 cap1 cap2 h0 h1 h2 h3 h4 h5 h6 (h.caps 0 _ _ _ _ rfl) (h.caps 1 _ _ _ _ rfl) (h.caps 2 _ _ _ _ rfl) (h.lens 0 _ .u8 nm b rfl (by simp)) (h.lens 1 _ .u8 mm c rfl (by simp)) (h.lens 2 _ .u8 om e rfl (by simp)) w rw β

set_option maxHeartbeats 1000000 in
theorem rnewNo_body0 (n nm : Nat) (b : List Int) (m mm : Nat) (c : List Int) (o om : Nat) (e : List Int) (cap0 cap1 cap2 : Nat) (h0 : (nm = n)) (h1 : (mm = m)) (h2 : (om = o)) (h3 : (n < 8796093022208)) (h4 : (m < 8796093022208)) (h5 : (o < 8796093022208)) (h6 : (n < 32)) (hc0 : n ≤ cap0) (hc1 : m ≤ cap1) (hc2 : o ≤ cap2) (hl0_0 : List.length b = nm) (hl1_0 : List.length c = mm) (hl2_0 : List.length e = om) (w : World) (rw : List Nat) (β : Env) : Body Try.prog (tabOf tabKO) Try.f25 ⟨w, rw, 3, β⟩ [.o (.a (.sl 0 0 n cap0)), .o (.a (.sl 1 0 m cap1)), .o (.a (.sl 2 0 o cap2))] [some ⟨false, [.ints .u8 nm b]⟩, some ⟨false, [.ints .u8 mm c]⟩, some ⟨false, [.ints .u8 om e]⟩] (fun ys K' => ys = [.a (.raw (.pointer none)), .a (.i .i64 (111 : Int))] ∧ K' = [some ⟨false, [.ints .u8 nm b]⟩, some ⟨false, [.ints .u8 mm c]⟩, some ⟨false, [.ints .u8 om e]⟩]) :=
  Body.of_finK (Γ := gam722) (Λ := noLam) (Ψ := noPsi) (fuel := 0) (m := 31) (c := (Try.f25.body.getD .skip)) mix tabOkKO gam722_ok rfl (rs := [.tmp 6, .tmp 7]) rfl rfl [true] [] 3
    (vc := [((decide (((n : Nat) : Int) < (32 : Int))) = true)]) (by kernel_rfl)
    (aC (decide_eq_true (by first | omega | (simp (disch := omega) only [wrapI]; omega))) (AllP_nil))

theorem rnewNo_body (n nm : Nat) (b : List Int) (m mm : Nat) (c : List Int) (o om : Nat) (e : List Int) (cap0 cap1 cap2 : Nat) (h0 : (nm = n)) (h1 : (mm = m)) (h2 : (om = o)) (h3 : (n < 8796093022208)) (h4 : (m < 8796093022208)) (h5 : (o < 8796093022208)) (h6 : (n < 32)) (w : World) (rw : List Nat) (β : Env) : Body Try.prog (tabOf tabKO) Try.f25 ⟨w, rw, 3, β⟩ [.o (.a (.sl 0 0 n cap0)), .o (.a (.sl 1 0 m cap1)), .o (.a (.sl 2 0 o cap2))] [some ⟨false, [.ints .u8 nm b]⟩, some ⟨false, [.ints .u8 mm c]⟩, some ⟨false, [.ints .u8 om e]⟩] (fun ys K' => ys = [.a (.raw (.pointer none)), .a (.i .i64 (111 : Int))] ∧ K' = [some ⟨false, [.ints .u8 nm b]⟩, some ⟨false, [.ints .u8 mm c]⟩, some ⟨false, [.ints .u8 om e]⟩]) :=
  Body.lens (c := (Try.f25.body.getD .skip)) rfl fun h => rnewNo_body0 n nm b m mm c o om e cap0 cap1 cap2 h0 h1 h2 h3 h4 h5 h6 (h.caps 0 _ _ _ _ rfl) (h.caps 1 _ _ _ _ rfl) (h.caps 2 _ _ _ _ rfl) (h.lens 0 _ .u8 nm b rfl (by simp)) (h.lens 1 _ .u8 mm c rfl (by simp)) (h.lens 2 _ .u8 om e rfl (by simp)) w rw β

noncomputable def gam723 : Gam := gcall 58 [true] [.w, .s 1] (fun wk vs args => match wk, vs, args with | [⟨true, [.ints .u8 64 ky, .ints .u8 64 v, .i .i64 d]⟩], [⟨_, _, _, [.ints .u8 nm b]⟩], [.o (.a (.p 0 0)), .o (.a (.sl 1 0 n _))] => some ((nm = n) ∧ (n < 35184372088832), [], [some ⟨true, [.ints .u8 64 (stK ky v b), .ints .u8 64 (stV ky v b), .i .i64 d]⟩, some ⟨false, [.ints .u8 nm b]⟩]) | _, _, _ => none) gam306
theorem gam723_ok : GamOk Try.prog gam723 := gcall_ok tabOkKN Try.func58 gam306_ok Try.call58 (by
  intro wk vs args p xs K1 h hv
  split at h
  · simp only [Option.some.injEq, Prod.mk.injEq] at h; obtain ⟨rfl, rfl, rfl⟩ := h; obtain ⟨g0, g1⟩ := hv; exact fun caps w rw β => rstir_body _ _ _ _ _ _ _ g0 g1 w rw β
  · simp at h)

noncomputable def gam724 : Gam := gcall 59 [] [.s 1, .s 1, .w] (fun wk vs args => match wk, vs, args with | [], [⟨_, _, _, [.ints .u8 nm b]⟩, ⟨_, _, _, [.ints .u8 mm c]⟩], [.o (.a (.sl 0 0 n _)), .o (.a (.sl 1 0 m _)), .o (.a (.raw (.slice none 0 0)))] => some ((nm = n) ∧ (mm = m) ∧ (n < 8796093022208) ∧ (m < 8796093022208), [.a (.rs 2 0 (joined2 n m) 1)], [some ⟨false, [.ints .u8 nm b]⟩, some ⟨false, [.ints .u8 mm c]⟩, some ⟨true, [.ints .u8 (joined2 n m) (jn2 b c)]⟩]) | _, _, _ => none) gam723
theorem gam724_ok : GamOk Try.prog gam724 := gcall_ok tabOkKN Try.func59 gam723_ok Try.call59 (by
  intro wk vs args p xs K1 h hv
  split at h
  · simp only [Option.some.injEq, Prod.mk.injEq] at h; obtain ⟨rfl, rfl, rfl⟩ := h; obtain ⟨g0, g1, g2, g3⟩ := hv; exact fun caps w rw β => joined2_body _ _ _ _ _ _ _ _ g0 g1 g2 g3 w rw β
  · simp at h)

set_option maxHeartbeats 1000000 in
theorem rreseedA_body0 (ky v : List Int) (d : Int) (n nm : Nat) (b : List Int) (m mm : Nat) (c : List Int) (cap1 cap2 : Nat) (h0 : (nm = n)) (h1 : (mm = m)) (h2 : (n < 8796093022208)) (h3 : (m < 8796093022208)) (hc1 : n ≤ cap1) (hc2 : m ≤ cap2) (hl0_0 : List.length ky = 64) (hl0_1 : List.length v = 64) (hl1_0 : List.length b = nm) (hl2_0 : List.length c = mm) (hs : n < 32) (w : World) (rw : List Nat) (β : Env) : Body Try.prog (tabOf tabKO) Try.f27 ⟨w, rw, 3, β⟩ [.o (.a (.p 0 0)), .o (.a (.sl 1 0 n cap1)), .o (.a (.sl 2 0 m cap2))] [some ⟨true, [.ints .u8 64 ky, .ints .u8 64 v, .i .i64 d]⟩, some ⟨false, [.ints .u8 nm b]⟩, some ⟨false, [.ints .u8 mm c]⟩] (fun ys K' => ys = [.a (.i .i64 (rsE n))] ∧ K' = [some ⟨true, [.ints .u8 64 (rsK2 n ky v b c), .ints .u8 64 (rsV2 n ky v b c), .i .i64 (rsD n d)]⟩, some ⟨false, [.ints .u8 nm b]⟩, some ⟨false, [.ints .u8 mm c]⟩]) :=
  Body.of_finK (Γ := gam724) (Λ := noLam) (Ψ := noPsi) (fuel := 0) (m := 18) (c := (Try.f27.body.getD .skip)) mix tabOkKO gam724_ok rfl (rs := [.tmp 6]) rfl rfl [true] [.eqB 0 (⟨true, [.ints .u8 64 (rsK2 n ky v b c), .ints .u8 64 (rsV2 n ky v b c), .i .i64 (rsD n d)]⟩), .eqS 6 (.o (.a (.i .i64 (rsE n))))] 3
    (vc := [((.o (.a (.i .i64 (111 : Int))) : AV) = .o (.a (.i .i64 (rsE n)))), ((some ⟨true, [.ints .u8 64 ky, .ints .u8 64 v, .i .i64 d]⟩ : Option Blk) = some ⟨true, [.ints .u8 64 (rsK2 n ky v b c), .ints .u8 64 (rsV2 n ky v b c), .i .i64 (rsD n d)]⟩), ((decide (((n : Nat) : Int) < (32 : Int))) = true)]) (by kernel_rfl)
    (aC ((by unfold rsE; rw [show decide (n < 32) = true from decide_eq_true (by omega)]; rfl)) (aC ((by unfold rsK2 rsV2 rsK rsV rsD; rw [show decide (n < 32) = true from decide_eq_true (by omega)]; rfl)) (aC (decide_eq_true (by first|omega|(simp (disch:=omega) only [wrapI];omega))) (AllP_nil))))

set_option maxHeartbeats 1000000 in
theorem rreseedB_body0 (ky v : List Int) (d : Int) (n nm : Nat) (b : List Int) (m mm : Nat) (c : List Int) (cap1 cap2 : Nat) (h0 : (nm = n)) (h1 : (mm = m)) (h2 : (n < 8796093022208)) (h3 : (m < 8796093022208)) (hc1 : n ≤ cap1) (hc2 : m ≤ cap2) (hl0_0 : List.length ky = 64) (hl0_1 : List.length v = 64) (hl1_0 : List.length b = nm) (hl2_0 : List.length c = mm) (hs : 32 ≤ n) (w : World) (rw : List Nat) (β : Env) : Body Try.prog (tabOf tabKO) Try.f27 ⟨w, rw, 3, β⟩ [.o (.a (.p 0 0)), .o (.a (.sl 1 0 n cap1)), .o (.a (.sl 2 0 m cap2))] [some ⟨true, [.ints .u8 64 ky, .ints .u8 64 v, .i .i64 d]⟩, some ⟨false, [.ints .u8 nm b]⟩, some ⟨false, [.ints .u8 mm c]⟩] (fun ys K' => ys = [.a (.i .i64 (rsE n))] ∧ K' = [some ⟨true, [.ints .u8 64 (rsK2 n ky v b c), .ints .u8 64 (rsV2 n ky v b c), .i .i64 (rsD n d)]⟩, some ⟨false, [.ints .u8 nm b]⟩, some ⟨false, [.ints .u8 mm c]⟩]) :=
  Body.of_finK (Γ := gam724) (Λ := noLam) (Ψ := noPsi) (fuel := 0) (m := 18) (c := (Try.f27.body.getD .skip)) mix tabOkKO gam724_ok rfl (rs := [.tmp 6]) rfl rfl [false] [.eqB 0 (⟨true, [.ints .u8 64 (rsK2 n ky v b c), .ints .u8 64 (rsV2 n ky v b c), .i .i64 (rsD n d)]⟩), .eqS 6 (.o (.a (.i .i64 (rsE n))))] 3
    (vc := [((.o (.a (.i .i64 (0 : Int))) : AV) = .o (.a (.i .i64 (rsE n)))), ((some ⟨true, [.ints .u8 64 (stK ky v (sub (jn2 (sub b 0 n) (sub c 0 m)) 0 (joined2 n m))), .ints .u8 64 (stV ky v (sub (jn2 (sub b 0 n) (sub c 0 m)) 0 (joined2 n m))), .i .i64 (0 : Int)]⟩ : Option Blk) = some ⟨true, [.ints .u8 64 (rsK2 n ky v b c), .ints .u8 64 (rsV2 n ky v b c), .i .i64 (rsD n d)]⟩), ((True ∧ (((0 + (joined2 n m)) ≤ (joined2 n m)) ∧ True)) ∧ (((joined2 n m) = (joined2 n m)) ∧ ((joined2 n m) < 35184372088832))), ((((0 + n) ≤ nm) ∧ (((0 + m) ≤ mm) ∧ (True ∧ True))) ∧ ((n = n) ∧ (m = m) ∧ (n < 8796093022208) ∧ (m < 8796093022208))), ((decide (((n : Nat) : Int) < (32 : Int))) = false)]) (by kernel_rfl)
    (aC ((by unfold rsE; rw [show decide (n < 32) = false from decide_eq_false (by omega)]; rfl)) (aC ((by rw [show sub (jn2 (sub b 0 n) (sub c 0 m)) 0 (joined2 n m) = jn2 b c from jn2_sub (hl1_0.trans h0) (hl2_0.trans h1)]; unfold rsK2 rsV2 rsK rsV rsD; rw [show decide (n < 32) = false from decide_eq_false (by omega)]; rfl)) (aC ⟨⟨trivial, ⟨(by have hx : joined2 n m = n + m := rfl; omega), trivial⟩⟩, ⟨rfl, (by have hx : joined2 n m = n + m := rfl; omega)⟩⟩ (aC ⟨⟨(by first|omega|(simp (disch:=omega) only [wrapI];omega)), ⟨(by first|omega|(simp (disch:=omega) only [wrapI];omega)), ⟨trivial, trivial⟩⟩⟩, ⟨rfl, rfl, h2, h3⟩⟩ (aC (decide_eq_false (by first|omega|(simp (disch:=omega) only [wrapI];omega))) (AllP_nil))))))

theorem rreseed_body (ky v : List Int) (d : Int) (n nm : Nat) (b : List Int) (m mm : Nat) (c : List Int) (cap1 cap2 : Nat) (h0 : (nm = n)) (h1 : (mm = m)) (h2 : (n < 8796093022208)) (h3 : (m < 8796093022208)) (w : World) (rw : List Nat) (β : Env) : Body Try.prog (tabOf tabKO) Try.f27 ⟨w, rw, 3, β⟩ [.o (.a (.p 0 0)), .o (.a (.sl 1 0 n cap1)), .o (.a (.sl 2 0 m cap2))] [some ⟨true, [.ints .u8 64 ky, .ints .u8 64 v, .i .i64 d]⟩, some ⟨false, [.ints .u8 nm b]⟩, some ⟨false, [.ints .u8 mm c]⟩] (fun ys K' => ys = [.a (.i .i64 (rsE n))] ∧ K' = [some ⟨true, [.ints .u8 64 (rsK2 n ky v b c), .ints .u8 64 (rsV2 n ky v b c), .i .i64 (rsD n d)]⟩, some ⟨false, [.ints .u8 nm b]⟩, some ⟨false, [.ints .u8 mm c]⟩]) :=
  Body.lens (c := (Try.f27.body.getD .skip)) rfl fun h => by
  by_cases hs : n < 32
  · exact rreseedA_body0 ky v d n nm b m mm c cap1 cap2 h0 h1 h2 h3 (h.caps 1 _ _ _ _ rfl) (h.caps 2 _ _ _ _ rfl) (h.lens 0 _ .u8 64 ky rfl (by simp)) (h.lens 0 _ .u8 64 v rfl (by simp)) (h.lens 1 _ .u8 nm b rfl (by simp)) (h.lens 2 _ .u8 mm c rfl (by simp)) hs w rw β
  · exact rreseedB_body0 ky v d n nm b m mm c cap1 cap2 h0 h1 h2 h3 (h.caps 1 _ _ _ _ rfl) (h.caps 2 _ _ _ _ rfl) (h.lens 0 _ .u8 64 ky rfl (by simp)) (h.lens 0 _ .u8 64 v rfl (by simp)) (h.lens 1 _ .u8 nm b rfl (by simp)) (h.lens 2 _ .u8 mm c rfl (by simp)) (by omega) w rw β

noncomputable def rstirN (ky v : List Int) : List Int :=
  (stK ky v ([] : List Int))

noncomputable def rstirN_1 (ky v : List Int) : List Int :=
  (stV ky v ([] : List Int))

set_option maxHeartbeats 1000000 in
theorem rstirN_body0 (ky v : List Int) (d : Int) (hl0_0 : List.length ky = 64) (hl0_1 : List.length v = 64) (w : World) (rw : List Nat) (β : Env) : Body Try.prog (tabOf tabKO) Try.f58 ⟨w, rw, 1, β⟩ [.o (.a (.p 0 0)), .o (.a nlA)] [some ⟨true, [.ints .u8 64 ky, .ints .u8 64 v, .i .i64 d]⟩] (fun ys K' => ys = [] ∧ K' = [some ⟨true, [.ints .u8 64 (rstirN ky v), .ints .u8 64 (rstirN_1 ky v), .i .i64 d]⟩]) :=
  Body.of_finKAt (Γ := (grmac w rw gam306)) (Λ := noLam) (Ψ := psiOf [(0, [.eqB 0 (⟨true, [.ints .u8 64 (st1K ky v ([] : List Int)), .ints .u8 64 v, .i .i64 d]⟩)]), (1, [.eqB 0 (⟨true, [.ints .u8 64 (st1K ky v ([] : List Int)), .ints .u8 64 (st1V ky v ([] : List Int)), .i .i64 d]⟩)])]) (fuel := 0) (m := 63) (c := (Try.f58.body.getD .skip)) mix tabOkKO (grmac_ok (gam306_ok.at _ _)) rfl (rs := []) rfl rfl [false] [.eqB 0 (⟨true, [.ints .u8 64 (stK ky v ([] : List Int)), .ints .u8 64 (stV ky v ([] : List Int)), .i .i64 d]⟩)] 1
    (vc := [((some ⟨true, [.ints .u8 64 (st1K ky v ([] : List Int)), .ints .u8 64 (st1V ky v ([] : List Int)), .i .i64 d]⟩ : Option Blk) = some ⟨true, [.ints .u8 64 (stK ky v ([] : List Int)), .ints .u8 64 (stV ky v ([] : List Int)), .i .i64 d]⟩), (false = false), ((some ⟨true, [.ints .u8 64 (st1K ky v ([] : List Int)), .ints .u8 64 (macD (st1K ky v ([] : List Int)) (v ++ ([] : List Int))), .i .i64 d]⟩ : Option Blk) = some ⟨true, [.ints .u8 64 (st1K ky v ([] : List Int)), .ints .u8 64 (st1V ky v ([] : List Int)), .i .i64 d]⟩), ((1 = 1) ∧ (True ∧ True) ∧ ((List.length (v ++ ([] : List Int))) < 70368744177664) ∧ (True ∧ True) ∧ ((64 = 64) ∧ (cN 64 70368744177664) ∧ (cN 2 4398046511104) ∧ (((List.length (v ++ ([] : List Int))) + 128) < 70368744177664))), ((cZ 0) ∧ (cZ 64)), ((cZ 0) ∧ (cZ 64)), ((some ⟨true, [.ints .u8 64 (macD ky (v ++ ([0] : List Int))), .ints .u8 64 v, .i .i64 d]⟩ : Option Blk) = some ⟨true, [.ints .u8 64 (st1K ky v ([] : List Int)), .ints .u8 64 v, .i .i64 d]⟩), ((3 = 3) ∧ (True ∧ ((1 ≤ 1) ∧ (True ∧ True))) ∧ ((List.length (v ++ ([0] : List Int))) < 70368744177664) ∧ (True ∧ True) ∧ ((64 = 64) ∧ (cN 64 70368744177664) ∧ (cN 4 4398046511104) ∧ (((List.length (v ++ ([0] : List Int))) + 128) < 70368744177664))), ((cZ 0) ∧ (cZ 64)), ((cZ 0) ∧ (cZ 64))]) (by kernel_rfl)
    (aC (rfl) (aC rfl (aC ((by first | (rw [List.append_nil]; rfl) | rw [List.append_nil])) (aC ⟨rfl, ⟨trivial, trivial⟩, (v_lt hl0_1).1, ⟨trivial, trivial⟩, ⟨rfl, (dd rfl), (dd rfl), (v_lt hl0_1).2⟩⟩ (aC (dd rfl) (aC (dd rfl) (aC ((by first | rfl | (simp only [List.append_nil]; rfl))) (aC ⟨rfl, ⟨trivial, ⟨(dd rfl), ⟨trivial, trivial⟩⟩⟩, (v1_lt hl0_1).1, ⟨trivial, trivial⟩, ⟨rfl, (dd rfl), (dd rfl), (v1_lt hl0_1).2⟩⟩ (aC (dd rfl) (aC (dd rfl) (AllP_nil)))))))))))

theorem rstirN_body (ky v : List Int) (d : Int) (w : World) (rw : List Nat) (β : Env) : Body Try.prog (tabOf tabKO) Try.f58 ⟨w, rw, 1, β⟩ [.o (.a (.p 0 0)), .o (.a nlA)] [some ⟨true, [.ints .u8 64 ky, .ints .u8 64 v, .i .i64 d]⟩] (fun ys K' => ys = [] ∧ K' = [some ⟨true, [.ints .u8 64 (rstirN ky v), .ints .u8 64 (rstirN_1 ky v), .i .i64 d]⟩]) :=
  Body.lens (c := (Try.f58.body.getD .skip)) rfl fun h => rstirN_body0 ky v d (h.lens 0 _ .u8 (64 : Nat) ky rfl (by simp)) (h.lens 0 _ .u8 (64 : Nat) v rfl (by simp)) w rw β

end Go.Proofs.Ytlmdhjojinkdbaa.X

/- Printed by a tool of this session. -/
namespace Go.Proofs.Ytlmdhjojinkdbaa.X
open Go Go.Proofs
set_option linter.unusedVariables false
set_option linter.unusedSimpArgs false
set_option maxRecDepth 100000
theorem teKP_3 : TEOk Try.prog 3 ⟨.int .i64, 1, 8, [.i .i64 (0 : Int)], false⟩ :=
  TEOk.of Try.underlying3 (i := Try.t3) (by kernel_rfl) rfl rfl rfl (by kernel_rfl) (fun h => by cases h) (by kernel_rfl)
theorem teKP_5 : TEOk Try.prog 5 ⟨.int .u8, 1, 1, [.i .u8 (0 : Int)], false⟩ :=
  TEOk.of Try.underlying5 (i := Try.t5) (by kernel_rfl) rfl rfl rfl (by kernel_rfl) (fun h => by cases h) (by kernel_rfl)
theorem teKP_22 : TEOk Try.prog 22 ⟨.slice 5, 1, 24, [.raw (.slice none 0 0)], false⟩ :=
  TEOk.of Try.underlying22 (i := Try.t22) (by kernel_rfl) rfl rfl rfl (by kernel_rfl) (fun h => by cases h) (by kernel_rfl)
theorem teKP_23 : TEOk Try.prog 23 ⟨.slice 22, 1, 24, [.raw (.slice none 0 0)], false⟩ :=
  TEOk.of Try.underlying23 (i := Try.t23) (by kernel_rfl) rfl rfl rfl (by kernel_rfl) (fun h => by cases h) (by kernel_rfl)
theorem teKP_32 : TEOk Try.prog 32 ⟨.array 64 5, 64, 64, [.ints .u8 64 (List.replicate 64 0)], true⟩ :=
  TEOk.of Try.underlying32 (i := Try.t32) (by kernel_rfl) rfl rfl rfl (by kernel_rfl) (fun _ => Try.eqGuardType32) (by kernel_rfl)
theorem teKP_78 : TEOk Try.prog 78 ⟨Try.t77.desc, 129, 136, [.ints .u8 64 (List.replicate 64 0), .ints .u8 64 (List.replicate 64 0), .i .i64 (0 : Int)], false⟩ :=
  TEOk.of Try.underlying78 (i := Try.t78) (by kernel_rfl) rfl rfl rfl (by kernel_rfl) (fun h => by cases h) (by kernel_rfl)
noncomputable def tabKP : List (Nat × TE) := [(3, ⟨.int .i64, 1, 8, [.i .i64 (0 : Int)], false⟩), (5, ⟨.int .u8, 1, 1, [.i .u8 (0 : Int)], false⟩), (22, ⟨.slice 5, 1, 24, [nlA], false⟩), (23, ⟨.slice 22, 1, 24, [nlA], false⟩), (32, ⟨.array 64 5, 64, 64, [.ints .u8 64 (List.replicate 64 0)], true⟩), (78, ⟨Try.t77.desc, 129, 136, [.ints .u8 64 (List.replicate 64 0), .ints .u8 64 (List.replicate 64 0), .i .i64 (0 : Int)], false⟩)]
theorem tabOkKP : TabOk Try.prog (tabOf tabKP) := (tabOf_cons teKP_3 (tabOf_cons teKP_5 (tabOf_cons teKP_22 (tabOf_cons teKP_23 (tabOf_cons teKP_32 (tabOf_cons teKP_78 tabOf_nil))))))

noncomputable def gam761 : Gam := gcall 58 [true] [.w, .s 1] (fun wk vs args => match wk, vs, args with | [⟨true, [.ints .u8 64 ky, .ints .u8 64 v, .i .i64 d]⟩], [⟨_, _, _, [.ints .u8 nm b]⟩], [.o (.a (.p 0 0)), .o (.a (.sl 1 0 n _))] => some ((nm = n) ∧ (n < 35184372088832), [], [some ⟨true, [.ints .u8 64 (stK ky v b), .ints .u8 64 (stV ky v b), .i .i64 d]⟩, some ⟨false, [.ints .u8 nm b]⟩]) | _, _, _ => none) gam306
theorem gam761_ok : GamOk Try.prog gam761 := gcall_ok tabOkKN Try.func58 gam306_ok Try.call58 (by
  intro wk vs args p xs K1 h hv
  split at h
  · simp only [Option.some.injEq, Prod.mk.injEq] at h; obtain ⟨rfl, rfl, rfl⟩ := h; obtain ⟨g0, g1⟩ := hv; exact fun caps w rw β => rstir_body _ _ _ _ _ _ _ g0 g1 w rw β
  · simp at h)

set_option maxHeartbeats 1000000 in
theorem rdrawN_body0 (ky v : List Int) (d N : Int) (n nm : Nat) (b : List Int) (cap1 : Nat) (h0 : (nm = n)) (h1 : (n < 35184372088832)) (hc1 : n ≤ cap1) (hl0_0 : List.length ky = 64) (hl0_1 : List.length v = 64) (hl1_0 : List.length b = nm) (hn : N < 0) (w : World) (rw : List Nat) (β : Env) : Body Try.prog (tabOf tabKP) Try.f26 ⟨w, rw, 2, β⟩ [.o (.a (.p 0 0)), .o (.a (.i .i64 N)), .o (.a (.sl 1 0 n cap1))] [some ⟨true, [.ints .u8 64 ky, .ints .u8 64 v, .i .i64 d]⟩, some ⟨false, [.ints .u8 nm b]⟩] (fun ys K' => ys = [.a (.rs 2 0 (drN N d) 1), .a (.i .i64 (drE N d))] ∧ K' = [some ⟨true, [.ints .u8 64 (drK N d ky v b), .ints .u8 64 (drV N d ky v b), .i .i64 (drD N d)]⟩, some ⟨false, [.ints .u8 nm b]⟩, some ⟨true, [.ints .u8 (drM N d) (drO N d ky v b)]⟩]) :=
  Body.of_finKAt (Γ := (grmac w rw gam761)) (Λ := noLam) (Ψ := noPsi) (fuel := 0) (m := 60) (c := (Try.f26.body.getD .skip)) mix tabOkKP (grmac_ok (gam761_ok.at _ _)) rfl (rs := [.tmp 6, .tmp 7]) rfl rfl [true] [.rowS 6 .u8 1, .eqS 6 (.o (.a (.rs 2 0 (drN N d) 1))), .eqS 7 (.o (.a (.i .i64 (drE N d)))), .eqB 0 (⟨true, [.ints .u8 64 (drK N d ky v b), .ints .u8 64 (drV N d ky v b), .i .i64 (drD N d)]⟩), .eqB 2 (⟨true, [.ints .u8 (drM N d) (drO N d ky v b)]⟩)] 3
    (vc := [((some ⟨true, [.ints .u8 0 ([] : List Int)]⟩ : Option Blk) = some ⟨true, [.ints .u8 (drM N d) (drO N d ky v b)]⟩), ((some ⟨true, [.ints .u8 64 ky, .ints .u8 64 v, .i .i64 d]⟩ : Option Blk) = some ⟨true, [.ints .u8 64 (drK N d ky v b), .ints .u8 64 (drV N d ky v b), .i .i64 (drD N d)]⟩), ((.o (.a (.i .i64 (1 : Int))) : AV) = .o (.a (.i .i64 (drE N d)))), ((.o (.a (.rs 2 0 0 1)) : AV) = .o (.a (.rs 2 0 (drN N d) 1))), ((decide (N < (0 : Int))) = true)]) (by kernel_rfl)
    (aC ((by unfold drM drO; rw [dr_bad (by omega)]; rfl)) (aC ((by unfold drK drV drD; rw [dr_bad (by omega)]; rfl)) (aC ((congrArg (fun z => AV.o (.a (.i .i64 z))) (by unfold drE; (repeat' split) <;> omega))) (aC ((by unfold drN; rw [dr_bad (by omega)]; rfl)) (aC (decide_eq_true (by first|omega|(simp (disch:=omega) only [wrapI];omega))) (AllP_nil))))))

set_option maxHeartbeats 1000000 in
theorem rdrawM_body0 (ky v : List Int) (d N : Int) (n nm : Nat) (b : List Int) (cap1 : Nat) (h0 : (nm = n)) (h1 : (n < 35184372088832)) (hc1 : n ≤ cap1) (hl0_0 : List.length ky = 64) (hl0_1 : List.length v = 64) (hl1_0 : List.length b = nm) (hm : 65536 < N) (w : World) (rw : List Nat) (β : Env) : Body Try.prog (tabOf tabKP) Try.f26 ⟨w, rw, 2, β⟩ [.o (.a (.p 0 0)), .o (.a (.i .i64 N)), .o (.a (.sl 1 0 n cap1))] [some ⟨true, [.ints .u8 64 ky, .ints .u8 64 v, .i .i64 d]⟩, some ⟨false, [.ints .u8 nm b]⟩] (fun ys K' => ys = [.a (.rs 2 0 (drN N d) 1), .a (.i .i64 (drE N d))] ∧ K' = [some ⟨true, [.ints .u8 64 (drK N d ky v b), .ints .u8 64 (drV N d ky v b), .i .i64 (drD N d)]⟩, some ⟨false, [.ints .u8 nm b]⟩, some ⟨true, [.ints .u8 (drM N d) (drO N d ky v b)]⟩]) :=
  Body.of_finKAt (Γ := (grmac w rw gam761)) (Λ := noLam) (Ψ := noPsi) (fuel := 0) (m := 60) (c := (Try.f26.body.getD .skip)) mix tabOkKP (grmac_ok (gam761_ok.at _ _)) rfl (rs := [.tmp 6, .tmp 7]) rfl rfl [false, true] [.rowS 6 .u8 1, .eqS 6 (.o (.a (.rs 2 0 (drN N d) 1))), .eqS 7 (.o (.a (.i .i64 (drE N d)))), .eqB 0 (⟨true, [.ints .u8 64 (drK N d ky v b), .ints .u8 64 (drV N d ky v b), .i .i64 (drD N d)]⟩), .eqB 2 (⟨true, [.ints .u8 (drM N d) (drO N d ky v b)]⟩)] 3
    (vc := [((some ⟨true, [.ints .u8 0 ([] : List Int)]⟩ : Option Blk) = some ⟨true, [.ints .u8 (drM N d) (drO N d ky v b)]⟩), ((some ⟨true, [.ints .u8 64 ky, .ints .u8 64 v, .i .i64 d]⟩ : Option Blk) = some ⟨true, [.ints .u8 64 (drK N d ky v b), .ints .u8 64 (drV N d ky v b), .i .i64 (drD N d)]⟩), ((.o (.a (.i .i64 (113 : Int))) : AV) = .o (.a (.i .i64 (drE N d)))), ((.o (.a (.rs 2 0 0 1)) : AV) = .o (.a (.rs 2 0 (drN N d) 1))), ((decide (N > (65536 : Int))) = true), ((decide (N < (0 : Int))) = false)]) (by kernel_rfl)
    (aC ((by unfold drM drO; rw [dr_bad (by omega)]; rfl)) (aC ((by unfold drK drV drD; rw [dr_bad (by omega)]; rfl)) (aC ((congrArg (fun z => AV.o (.a (.i .i64 z))) (by unfold drE; (repeat' split) <;> omega))) (aC ((by unfold drN; rw [dr_bad (by omega)]; rfl)) (aC (decide_eq_true (by first|omega|(simp (disch:=omega) only [wrapI];omega))) (aC (decide_eq_false (by first|omega|(simp (disch:=omega) only [wrapI];omega))) (AllP_nil)))))))

set_option maxHeartbeats 1000000 in
theorem rdrawD_body0 (ky v : List Int) (d N : Int) (n nm : Nat) (b : List Int) (cap1 : Nat) (h0 : (nm = n)) (h1 : (n < 35184372088832)) (hc1 : n ≤ cap1) (hl0_0 : List.length ky = 64) (hl0_1 : List.length v = 64) (hl1_0 : List.length b = nm) (ha : 0 ≤ N) (hb : N ≤ 65536) (hd : 4096 ≤ d) (w : World) (rw : List Nat) (β : Env) : Body Try.prog (tabOf tabKP) Try.f26 ⟨w, rw, 2, β⟩ [.o (.a (.p 0 0)), .o (.a (.i .i64 N)), .o (.a (.sl 1 0 n cap1))] [some ⟨true, [.ints .u8 64 ky, .ints .u8 64 v, .i .i64 d]⟩, some ⟨false, [.ints .u8 nm b]⟩] (fun ys K' => ys = [.a (.rs 2 0 (drN N d) 1), .a (.i .i64 (drE N d))] ∧ K' = [some ⟨true, [.ints .u8 64 (drK N d ky v b), .ints .u8 64 (drV N d ky v b), .i .i64 (drD N d)]⟩, some ⟨false, [.ints .u8 nm b]⟩, some ⟨true, [.ints .u8 (drM N d) (drO N d ky v b)]⟩]) :=
  Body.of_finKAt (Γ := (grmac w rw gam761)) (Λ := noLam) (Ψ := noPsi) (fuel := 0) (m := 60) (c := (Try.f26.body.getD .skip)) mix tabOkKP (grmac_ok (gam761_ok.at _ _)) rfl (rs := [.tmp 6, .tmp 7]) rfl rfl [false, false, true] [.rowS 6 .u8 1, .eqS 6 (.o (.a (.rs 2 0 (drN N d) 1))), .eqS 7 (.o (.a (.i .i64 (drE N d)))), .eqB 0 (⟨true, [.ints .u8 64 (drK N d ky v b), .ints .u8 64 (drV N d ky v b), .i .i64 (drD N d)]⟩), .eqB 2 (⟨true, [.ints .u8 (drM N d) (drO N d ky v b)]⟩)] 3
    (vc := [((some ⟨true, [.ints .u8 0 ([] : List Int)]⟩ : Option Blk) = some ⟨true, [.ints .u8 (drM N d) (drO N d ky v b)]⟩), ((some ⟨true, [.ints .u8 64 ky, .ints .u8 64 v, .i .i64 d]⟩ : Option Blk) = some ⟨true, [.ints .u8 64 (drK N d ky v b), .ints .u8 64 (drV N d ky v b), .i .i64 (drD N d)]⟩), ((.o (.a (.i .i64 (112 : Int))) : AV) = .o (.a (.i .i64 (drE N d)))), ((.o (.a (.rs 2 0 0 1)) : AV) = .o (.a (.rs 2 0 (drN N d) 1))), ((decide (d ≥ (4096 : Int))) = true), ((decide (N > (65536 : Int))) = false), ((decide (N < (0 : Int))) = false)]) (by kernel_rfl)
    (aC ((by unfold drM drO; rw [dr_bad (by omega)]; rfl)) (aC ((by unfold drK drV drD; rw [dr_bad (by omega)]; rfl)) (aC ((congrArg (fun z => AV.o (.a (.i .i64 z))) (by unfold drE; (repeat' split) <;> omega))) (aC ((by unfold drN; rw [dr_bad (by omega)]; rfl)) (aC (decide_eq_true (by first|omega|(simp (disch:=omega) only [wrapI];omega))) (aC (decide_eq_false (by first|omega|(simp (disch:=omega) only [wrapI];omega))) (aC (decide_eq_false (by first|omega|(simp (disch:=omega) only [wrapI];omega))) (AllP_nil))))))))

noncomputable def rdrawZL_mk (ky v : List Int) (d N : Int) (n nm : Nat) (b : List Int) (cap1 k : Nat) (s : Unit) : St := ⟨sparse 60 [(0, .o (.a (.p 0 0))), (1, .o (.a (.i .i64 N))), (2, .o (.a (.sl 1 0 n cap1))), (6, .o (.a nlA)), (7, .o (.a (.i .i64 (0 : Int)))), (8, .o (.a (.rs 2 0 (64 * k) 1)))], [some ⟨true, [.ints .u8 64 (d1K ky v b), .ints .u8 64 (nxV (d1K ky v b) (d1V ky v b) k), .i .i64 d]⟩, some ⟨false, [.ints .u8 nm b]⟩, some ⟨true, [.ints .u8 (64 * k) (nxO (d1K ky v b) (d1V ky v b) k)]⟩]⟩

noncomputable def rdrawZL_step (k : Nat) (s : Unit) : Unit :=
  ()

set_option maxHeartbeats 1000000 in
theorem rdrawZL_round (ky v : List Int) (d N : Int) (n nm : Nat) (b : List Int) (cap1 : Nat) (h0 : (nm = n)) (h1 : (n < 35184372088832)) (hc1 : n ≤ cap1) (hl0_0 : List.length ky = 64) (hl0_1 : List.length v = 64) (hl1_0 : List.length b = nm) (ha : 0 ≤ N) (hb : N ≤ 65536) (hd : d < 4096) (hz : n = 0) (w : World) (rw : List Nat) (β : Env) (k : Nat) (hk : k < (rnds N)) (s : Unit) : Run Try.prog ⟨w, rw, 2, β⟩ (loopB Try.f26 0) (rdrawZL_mk ky v d N n nm b cap1 k s) (To ⟨w, rw, 2, β⟩ .normal (rdrawZL_mk ky v d N n nm b cap1 (k + 1) (rdrawZL_step k s))) := by
  have e0 : ((sub (nxO (d1K ky v b) (d1V ky v b) k) 0 (64 * k)) ++ (nxV (d1K ky v b) (d1V ky v b) (k + 1))) = (nxO (d1K ky v b) (d1V ky v b) (k + 1)) := (by first | omega | rfl | exact nxO_step (Nat.zero_add _).symm | exact nxO_step rfl)
  have e1 : (((64 : Nat) * k) + (64 : Nat)) = ((64 : Nat) * (k + (1 : Nat))) := (by first | omega | rfl | exact nxO_step (Nat.zero_add _).symm | exact nxO_step rfl)
  have h := Run.of_outTAt (B := ⟨w, rw, 2, β⟩) (Λ := noLam) (Ψ := psiOf [(11, [.eqB 0 (⟨true, [.ints .u8 64 (d1K ky v b), .ints .u8 64 (nxV (d1K ky v b) (d1V ky v b) (k + 1)), .i .i64 d]⟩)])]) (fuel := 0) (ora := [true, false]) (c := (loopB Try.f26 0)) (st := (rdrawZL_mk ky v d N n nm b cap1 k s)) (l := [.swap 2 4, .forget [0, 1, 2, 6, 7, 8] 3]) (s' := ⟨sparse 60 [(0, .o (.a (.p 0 0))), (1, .o (.a (.i .i64 N))), (2, .o (.a (.sl 1 0 n cap1))), (6, .o (.a nlA)), (7, .o (.a (.i .i64 (0 : Int)))), (8, .o (.a (.rs 2 0 ((64 * k) + 64) 1)))], [some ⟨true, [.ints .u8 64 (d1K ky v b), .ints .u8 64 (nxV (d1K ky v b) (d1V ky v b) (k + 1)), .i .i64 d]⟩, some ⟨false, [.ints .u8 nm b]⟩, some ⟨true, [.ints .u8 ((64 * k) + 64) ((sub (nxO (d1K ky v b) (d1V ky v b) k) 0 (64 * k)) ++ (nxV (d1K ky v b) (d1V ky v b) (k + 1)))]⟩]⟩) (ex := .normal) mix tabOkKP (grmac_ok (gam761_ok.at _ _))
    (vc := [(((0 + (64 * k)) ≤ (64 * k)) ∧ ((64 ≤ 64) ∧ True) ∧ ((((64 * k) + 64) * 1) ≤ 140737488355328)), ((cZ 0) ∧ (cZ 64)), ((some ⟨true, [.ints .u8 64 (d1K ky v b), .ints .u8 64 (macD (d1K ky v b) ((nxV (d1K ky v b) (d1V ky v b) k) ++ ([] : List Int))), .i .i64 d]⟩ : Option Blk) = some ⟨true, [.ints .u8 64 (d1K ky v b), .ints .u8 64 (nxV (d1K ky v b) (d1V ky v b) (k + 1)), .i .i64 d]⟩), ((1 = 1) ∧ (True ∧ True) ∧ ((List.length ((nxV (d1K ky v b) (d1V ky v b) k) ++ ([] : List Int))) < 70368744177664) ∧ (True ∧ True) ∧ ((64 = 64) ∧ (cN 64 70368744177664) ∧ (cN 2 4398046511104) ∧ (((List.length ((nxV (d1K ky v b) (d1V ky v b) k) ++ ([] : List Int))) + 128) < 70368744177664))), ((cZ 0) ∧ (cZ 64)), ((cZ 0) ∧ (cZ 64)), ((decide ((((64 * k) : Nat) : Int) < N)) = true)]) (by kernel_rfl)
    (aC ⟨(by have hq := rnds_lt hk; first | omega | (simp (disch := omega) only [wrapI]; omega)), ⟨(dd rfl), trivial⟩, (by have hq := rnds_lt hk; first | omega | (simp (disch := omega) only [wrapI]; omega))⟩ (aC (dd rfl) (aC ((by first | (rw [List.append_nil]; rfl) | rw [List.append_nil])) (aC ⟨rfl, ⟨trivial, trivial⟩, (v_lt (nxV_len (d1V_len hl0_1) k)).1, ⟨trivial, trivial⟩, ⟨rfl, (dd rfl), (dd rfl), (v_lt (nxV_len (d1V_len hl0_1) k)).2⟩⟩ (aC (dd rfl) (aC (dd rfl) (aC (decide_eq_true (by have hq := rnds_lt hk; omega)) (AllP_nil))))))))
  rw [e0, e1] at h
  exact h

set_option maxHeartbeats 1000000 in
theorem rdrawZL_last (ky v : List Int) (d N : Int) (n nm : Nat) (b : List Int) (cap1 : Nat) (h0 : (nm = n)) (h1 : (n < 35184372088832)) (hc1 : n ≤ cap1) (hl0_0 : List.length ky = 64) (hl0_1 : List.length v = 64) (hl1_0 : List.length b = nm) (ha : 0 ≤ N) (hb : N ≤ 65536) (hd : d < 4096) (hz : n = 0) (w : World) (rw : List Nat) (β : Env) (s : Unit) : Run Try.prog ⟨w, rw, 2, β⟩ (loopB Try.f26 0) (rdrawZL_mk ky v d N n nm b cap1 (rnds N) s) (To ⟨w, rw, 2, β⟩ (.exit 0) (rdrawZL_mk ky v d N n nm b cap1 (rnds N) s)) :=
  Run.of_outTAt (B := ⟨w, rw, 2, β⟩) (Λ := noLam) (Ψ := noPsi) (fuel := 0) (ora := [false]) (l := [.forget [0, 1, 2, 6, 7, 8] 3]) mix tabOkKP (grmac_ok (gam761_ok.at _ _))
    (vc := [((decide (((((64 : Nat) * (rnds N)) : Nat) : Int) < N)) = false)]) (by kernel_rfl)
    (aC (decide_eq_false (by have hq := rnds_ge N; omega)) (AllP_nil))

theorem rdrawZL_loop (ky v : List Int) (d N : Int) (n nm : Nat) (b : List Int) (cap1 : Nat) (h0 : (nm = n)) (h1 : (n < 35184372088832)) (hc1 : n ≤ cap1) (hl0_0 : List.length ky = 64) (hl0_1 : List.length v = 64) (hl1_0 : List.length b = nm) (ha : 0 ≤ N) (hb : N ≤ 65536) (hd : d < 4096) (hz : n = 0) (w : World) (rw : List Nat) (β : Env) (s : Unit) : Run Try.prog ⟨w, rw, 2, β⟩ (.block 0 (.loop (loopB Try.f26 0))) (rdrawZL_mk ky v d N n nm b cap1 0 s) (To ⟨w, rw, 2, β⟩ .normal (rdrawZL_mk ky v d N n nm b cap1 (rnds N) (iter (rdrawZL_step) (rnds N) s))) :=
  Run.count (fun k => rdrawZL_mk ky v d N n nm b cap1 k (iter (rdrawZL_step) k s)) (rnds N) (fun k hk => rdrawZL_round ky v d N n nm b cap1 h0 h1 hc1 hl0_0 hl0_1 hl1_0 ha hb hd hz w rw β k hk _) (ex := (.exit 0)) (by simp) (rdrawZL_last ky v d N n nm b cap1 h0 h1 hc1 hl0_0 hl0_1 hl1_0 ha hb hd hz w rw β _)

set_option maxHeartbeats 1000000 in
theorem rdrawZ_body0 (ky v : List Int) (d N : Int) (n nm : Nat) (b : List Int) (cap1 : Nat) (h0 : (nm = n)) (h1 : (n < 35184372088832)) (hc1 : n ≤ cap1) (hl0_0 : List.length ky = 64) (hl0_1 : List.length v = 64) (hl1_0 : List.length b = nm) (ha : 0 ≤ N) (hb : N ≤ 65536) (hd : d < 4096) (hz : n = 0) (w : World) (rw : List Nat) (β : Env) : Body Try.prog (tabOf tabKP) Try.f26 ⟨w, rw, 2, β⟩ [.o (.a (.p 0 0)), .o (.a (.i .i64 N)), .o (.a (.sl 1 0 n cap1))] [some ⟨true, [.ints .u8 64 ky, .ints .u8 64 v, .i .i64 d]⟩, some ⟨false, [.ints .u8 nm b]⟩] (fun ys K' => ys = [.a (.rs 2 0 (drN N d) 1), .a (.i .i64 (drE N d))] ∧ K' = [some ⟨true, [.ints .u8 64 (drK N d ky v b), .ints .u8 64 (drV N d ky v b), .i .i64 (drD N d)]⟩, some ⟨false, [.ints .u8 nm b]⟩, some ⟨true, [.ints .u8 (drM N d) (drO N d ky v b)]⟩]) :=
  Body.of_finKAt (Γ := (grmac w rw gam761)) (Λ := lamOf [(0, ⟨[.rowS 8 .u8 1, .forget [0, 1, 2, 6, 7, 8] 3], .normal, (rdrawZL_mk ky v d N n nm b cap1 (rnds N) (iter (rdrawZL_step) (rnds N) ()))⟩)]) (Ψ := psiOf [(9, [.eqB 0 (⟨true, [.ints .u8 64 (d1K ky v b), .ints .u8 64 (d1V ky v b), .i .i64 d]⟩)]), (13, [.eqB 0 (⟨true, [.ints .u8 64 (stK (d1K ky v b) (nxV (d1K ky v b) (d1V ky v b) (rnds N)) b), .ints .u8 64 (stV (d1K ky v b) (nxV (d1K ky v b) (d1V ky v b) (rnds N)) b), .i .i64 d]⟩)])]) (fuel := 0) (m := 60) (c := (Try.f26.body.getD .skip)) mix tabOkKP (grmac_ok (gam761_ok.at _ _)) rfl (rs := [.tmp 6, .tmp 7]) rfl rfl [false, false, false, false] [.eqS 6 (.o (.a (.rs 2 0 (drN N d) 1))), .eqS 7 (.o (.a (.i .i64 (drE N d)))), .eqB 0 (⟨true, [.ints .u8 64 (drK N d ky v b), .ints .u8 64 (drV N d ky v b), .i .i64 (drD N d)]⟩), .eqB 2 (⟨true, [.ints .u8 (drM N d) (drO N d ky v b)]⟩)] 3
    (vc := [((some ⟨true, [.ints .u8 (64 * (rnds N)) (nxO (d1K ky v b) (d1V ky v b) (rnds N))]⟩ : Option Blk) = some ⟨true, [.ints .u8 (drM N d) (drO N d ky v b)]⟩), ((some ⟨true, [.ints .u8 64 (stK (d1K ky v b) (nxV (d1K ky v b) (d1V ky v b) (rnds N)) b), .ints .u8 64 (stV (d1K ky v b) (nxV (d1K ky v b) (d1V ky v b) (rnds N)) b), .i .i64 (IntKind.i64.wrap (d + (1 : Int)))]⟩ : Option Blk) = some ⟨true, [.ints .u8 64 (drK N d ky v b), .ints .u8 64 (drV N d ky v b), .i .i64 (drD N d)]⟩), ((.o (.a (.i .i64 (0 : Int))) : AV) = .o (.a (.i .i64 (drE N d)))), ((.o (.a (.rs 2 0 (Int.toNat N) 1)) : AV) = .o (.a (.rs 2 0 (drN N d) 1))), ((cZ 0) ∧ ((0 : Int) ≤ N) ∧ (N ≤ (((64 * (rnds N)) : Nat) : Int))), ((some ⟨true, [.ints .u8 64 (stK (d1K ky v b) (nxV (d1K ky v b) (d1V ky v b) (rnds N)) (sub b 0 n)), .ints .u8 64 (stV (d1K ky v b) (nxV (d1K ky v b) (d1V ky v b) (rnds N)) (sub b 0 n)), .i .i64 d]⟩ : Option Blk) = some ⟨true, [.ints .u8 64 (stK (d1K ky v b) (nxV (d1K ky v b) (d1V ky v b) (rnds N)) b), .ints .u8 64 (stV (d1K ky v b) (nxV (d1K ky v b) (d1V ky v b) (rnds N)) b), .i .i64 d]⟩), ((True ∧ (((0 + n) ≤ nm) ∧ True)) ∧ ((n = n) ∧ (n < 35184372088832))), (Run Try.prog ⟨w, rw, 2, β⟩ (.block 0 (.loop (loopB Try.f26 0))) (rdrawZL_mk ky v d N n nm b cap1 0 ()) (To ⟨w, rw, 2, β⟩ .normal (rdrawZL_mk ky v d N n nm b cap1 (rnds N) (iter (rdrawZL_step) (rnds N) ())))), ((some ⟨true, [.ints .u8 64 ky, .ints .u8 64 v, .i .i64 d]⟩ : Option Blk) = some ⟨true, [.ints .u8 64 (d1K ky v b), .ints .u8 64 (d1V ky v b), .i .i64 d]⟩), ((decide (((n : Nat) : Int) > (0 : Int))) = false), ((decide (d ≥ (4096 : Int))) = false), ((decide (N > (65536 : Int))) = false), ((decide (N < (0 : Int))) = false)]) (by kernel_rfl)
    (aC ((by unfold drM drO; rw [dr_ok ha hb hd]; rfl)) (aC ((by unfold drK drV drD; rw [dr_ok ha hb hd]; rfl)) (aC ((congrArg (fun z => AV.o (.a (.i .i64 z))) (by unfold drE; (repeat' split) <;> omega))) (aC ((by unfold drN; rw [dr_ok ha hb hd]; rfl)) (aC ⟨(dd rfl), (by first|omega|(simp (disch:=omega) only [wrapI];omega)), (by have hq := rnds_ge N; omega)⟩ (aC ((by rw [sub_all b n (Nat.le_of_eq (hl1_0.trans h0))])) (aC ⟨⟨trivial, ⟨(by first|omega|(simp (disch:=omega) only [wrapI];omega)), trivial⟩⟩, ⟨rfl, h1⟩⟩ (aC (rdrawZL_loop ky v d N n nm b cap1 h0 h1 hc1 hl0_0 hl0_1 hl1_0 ha hb hd hz w rw β ()) (aC ((by unfold d1K d1V; rw [if_pos ((hl1_0.trans h0).trans hz), if_pos ((hl1_0.trans h0).trans hz)])) (aC (decide_eq_false (by first|omega|(simp (disch:=omega) only [wrapI];omega))) (aC (decide_eq_false (by first|omega|(simp (disch:=omega) only [wrapI];omega))) (aC (decide_eq_false (by first|omega|(simp (disch:=omega) only [wrapI];omega))) (aC (decide_eq_false (by first|omega|(simp (disch:=omega) only [wrapI];omega))) (AllP_nil))))))))))))))

noncomputable def rdrawPL_mk (ky v : List Int) (d N : Int) (n nm : Nat) (b : List Int) (cap1 k : Nat) (s : Unit) : St := ⟨sparse 60 [(0, .o (.a (.p 0 0))), (1, .o (.a (.i .i64 N))), (2, .o (.a (.sl 1 0 n cap1))), (6, .o (.a nlA)), (7, .o (.a (.i .i64 (0 : Int)))), (8, .o (.a (.rs 2 0 (64 * k) 1)))], [some ⟨true, [.ints .u8 64 (d1K ky v b), .ints .u8 64 (nxV (d1K ky v b) (d1V ky v b) k), .i .i64 d]⟩, some ⟨false, [.ints .u8 nm b]⟩, some ⟨true, [.ints .u8 (64 * k) (nxO (d1K ky v b) (d1V ky v b) k)]⟩]⟩

noncomputable def rdrawPL_step (k : Nat) (s : Unit) : Unit :=
  ()

set_option maxHeartbeats 1000000 in
theorem rdrawPL_round (ky v : List Int) (d N : Int) (n nm : Nat) (b : List Int) (cap1 : Nat) (h0 : (nm = n)) (h1 : (n < 35184372088832)) (hc1 : n ≤ cap1) (hl0_0 : List.length ky = 64) (hl0_1 : List.length v = 64) (hl1_0 : List.length b = nm) (ha : 0 ≤ N) (hb : N ≤ 65536) (hd : d < 4096) (hz : 0 < n) (w : World) (rw : List Nat) (β : Env) (k : Nat) (hk : k < (rnds N)) (s : Unit) : Run Try.prog ⟨w, rw, 2, β⟩ (loopB Try.f26 0) (rdrawPL_mk ky v d N n nm b cap1 k s) (To ⟨w, rw, 2, β⟩ .normal (rdrawPL_mk ky v d N n nm b cap1 (k + 1) (rdrawPL_step k s))) := by
  have e0 : ((sub (nxO (d1K ky v b) (d1V ky v b) k) 0 (64 * k)) ++ (nxV (d1K ky v b) (d1V ky v b) (k + 1))) = (nxO (d1K ky v b) (d1V ky v b) (k + 1)) := (by first | omega | rfl | exact nxO_step (Nat.zero_add _).symm | exact nxO_step rfl)
  have e1 : (((64 : Nat) * k) + (64 : Nat)) = ((64 : Nat) * (k + (1 : Nat))) := (by first | omega | rfl | exact nxO_step (Nat.zero_add _).symm | exact nxO_step rfl)
  have h := Run.of_outTAt (B := ⟨w, rw, 2, β⟩) (Λ := noLam) (Ψ := psiOf [(11, [.eqB 0 (⟨true, [.ints .u8 64 (d1K ky v b), .ints .u8 64 (nxV (d1K ky v b) (d1V ky v b) (k + 1)), .i .i64 d]⟩)])]) (fuel := 0) (ora := [true, false]) (c := (loopB Try.f26 0)) (st := (rdrawPL_mk ky v d N n nm b cap1 k s)) (l := [.swap 2 4, .forget [0, 1, 2, 6, 7, 8] 3]) (s' := ⟨sparse 60 [(0, .o (.a (.p 0 0))), (1, .o (.a (.i .i64 N))), (2, .o (.a (.sl 1 0 n cap1))), (6, .o (.a nlA)), (7, .o (.a (.i .i64 (0 : Int)))), (8, .o (.a (.rs 2 0 ((64 * k) + 64) 1)))], [some ⟨true, [.ints .u8 64 (d1K ky v b), .ints .u8 64 (nxV (d1K ky v b) (d1V ky v b) (k + 1)), .i .i64 d]⟩, some ⟨false, [.ints .u8 nm b]⟩, some ⟨true, [.ints .u8 ((64 * k) + 64) ((sub (nxO (d1K ky v b) (d1V ky v b) k) 0 (64 * k)) ++ (nxV (d1K ky v b) (d1V ky v b) (k + 1)))]⟩]⟩) (ex := .normal) mix tabOkKP (grmac_ok (gam761_ok.at _ _))
    (vc := [(((0 + (64 * k)) ≤ (64 * k)) ∧ ((64 ≤ 64) ∧ True) ∧ ((((64 * k) + 64) * 1) ≤ 140737488355328)), ((cZ 0) ∧ (cZ 64)), ((some ⟨true, [.ints .u8 64 (d1K ky v b), .ints .u8 64 (macD (d1K ky v b) ((nxV (d1K ky v b) (d1V ky v b) k) ++ ([] : List Int))), .i .i64 d]⟩ : Option Blk) = some ⟨true, [.ints .u8 64 (d1K ky v b), .ints .u8 64 (nxV (d1K ky v b) (d1V ky v b) (k + 1)), .i .i64 d]⟩), ((1 = 1) ∧ (True ∧ True) ∧ ((List.length ((nxV (d1K ky v b) (d1V ky v b) k) ++ ([] : List Int))) < 70368744177664) ∧ (True ∧ True) ∧ ((64 = 64) ∧ (cN 64 70368744177664) ∧ (cN 2 4398046511104) ∧ (((List.length ((nxV (d1K ky v b) (d1V ky v b) k) ++ ([] : List Int))) + 128) < 70368744177664))), ((cZ 0) ∧ (cZ 64)), ((cZ 0) ∧ (cZ 64)), ((decide ((((64 * k) : Nat) : Int) < N)) = true)]) (by kernel_rfl)
    (aC ⟨(by have hq := rnds_lt hk; first | omega | (simp (disch := omega) only [wrapI]; omega)), ⟨(dd rfl), trivial⟩, (by have hq := rnds_lt hk; first | omega | (simp (disch := omega) only [wrapI]; omega))⟩ (aC (dd rfl) (aC ((by first | (rw [List.append_nil]; rfl) | rw [List.append_nil])) (aC ⟨rfl, ⟨trivial, trivial⟩, (v_lt (nxV_len (d1V_len hl0_1) k)).1, ⟨trivial, trivial⟩, ⟨rfl, (dd rfl), (dd rfl), (v_lt (nxV_len (d1V_len hl0_1) k)).2⟩⟩ (aC (dd rfl) (aC (dd rfl) (aC (decide_eq_true (by have hq := rnds_lt hk; omega)) (AllP_nil))))))))
  rw [e0, e1] at h
  exact h

set_option maxHeartbeats 1000000 in
theorem rdrawPL_last (ky v : List Int) (d N : Int) (n nm : Nat) (b : List Int) (cap1 : Nat) (h0 : (nm = n)) (h1 : (n < 35184372088832)) (hc1 : n ≤ cap1) (hl0_0 : List.length ky = 64) (hl0_1 : List.length v = 64) (hl1_0 : List.length b = nm) (ha : 0 ≤ N) (hb : N ≤ 65536) (hd : d < 4096) (hz : 0 < n) (w : World) (rw : List Nat) (β : Env) (s : Unit) : Run Try.prog ⟨w, rw, 2, β⟩ (loopB Try.f26 0) (rdrawPL_mk ky v d N n nm b cap1 (rnds N) s) (To ⟨w, rw, 2, β⟩ (.exit 0) (rdrawPL_mk ky v d N n nm b cap1 (rnds N) s)) :=
  Run.of_outTAt (B := ⟨w, rw, 2, β⟩) (Λ := noLam) (Ψ := noPsi) (fuel := 0) (ora := [false]) (l := [.forget [0, 1, 2, 6, 7, 8] 3]) mix tabOkKP (grmac_ok (gam761_ok.at _ _))
    (vc := [((decide (((((64 : Nat) * (rnds N)) : Nat) : Int) < N)) = false)]) (by kernel_rfl)
    (aC (decide_eq_false (by have hq := rnds_ge N; omega)) (AllP_nil))

theorem rdrawPL_loop (ky v : List Int) (d N : Int) (n nm : Nat) (b : List Int) (cap1 : Nat) (h0 : (nm = n)) (h1 : (n < 35184372088832)) (hc1 : n ≤ cap1) (hl0_0 : List.length ky = 64) (hl0_1 : List.length v = 64) (hl1_0 : List.length b = nm) (ha : 0 ≤ N) (hb : N ≤ 65536) (hd : d < 4096) (hz : 0 < n) (w : World) (rw : List Nat) (β : Env) (s : Unit) : Run Try.prog ⟨w, rw, 2, β⟩ (.block 0 (.loop (loopB Try.f26 0))) (rdrawPL_mk ky v d N n nm b cap1 0 s) (To ⟨w, rw, 2, β⟩ .normal (rdrawPL_mk ky v d N n nm b cap1 (rnds N) (iter (rdrawPL_step) (rnds N) s))) :=
  Run.count (fun k => rdrawPL_mk ky v d N n nm b cap1 k (iter (rdrawPL_step) k s)) (rnds N) (fun k hk => rdrawPL_round ky v d N n nm b cap1 h0 h1 hc1 hl0_0 hl0_1 hl1_0 ha hb hd hz w rw β k hk _) (ex := (.exit 0)) (by simp) (rdrawPL_last ky v d N n nm b cap1 h0 h1 hc1 hl0_0 hl0_1 hl1_0 ha hb hd hz w rw β _)

set_option maxHeartbeats 1000000 in
theorem rdrawP_body0 (ky v : List Int) (d N : Int) (n nm : Nat) (b : List Int) (cap1 : Nat) (h0 : (nm = n)) (h1 : (n < 35184372088832)) (hc1 : n ≤ cap1) (hl0_0 : List.length ky = 64) (hl0_1 : List.length v = 64) (hl1_0 : List.length b = nm) (ha : 0 ≤ N) (hb : N ≤ 65536) (hd : d < 4096) (hz : 0 < n) (w : World) (rw : List Nat) (β : Env) : Body Try.prog (tabOf tabKP) Try.f26 ⟨w, rw, 2, β⟩ [.o (.a (.p 0 0)), .o (.a (.i .i64 N)), .o (.a (.sl 1 0 n cap1))] [some ⟨true, [.ints .u8 64 ky, .ints .u8 64 v, .i .i64 d]⟩, some ⟨false, [.ints .u8 nm b]⟩] (fun ys K' => ys = [.a (.rs 2 0 (drN N d) 1), .a (.i .i64 (drE N d))] ∧ K' = [some ⟨true, [.ints .u8 64 (drK N d ky v b), .ints .u8 64 (drV N d ky v b), .i .i64 (drD N d)]⟩, some ⟨false, [.ints .u8 nm b]⟩, some ⟨true, [.ints .u8 (drM N d) (drO N d ky v b)]⟩]) :=
  Body.of_finKAt (Γ := (grmac w rw gam761)) (Λ := lamOf [(0, ⟨[.rowS 8 .u8 1, .forget [0, 1, 2, 6, 7, 8] 3], .normal, (rdrawPL_mk ky v d N n nm b cap1 (rnds N) (iter (rdrawPL_step) (rnds N) ()))⟩)]) (Ψ := psiOf [(8, [.eqB 0 (⟨true, [.ints .u8 64 (d1K ky v b), .ints .u8 64 (d1V ky v b), .i .i64 d]⟩)]), (13, [.eqB 0 (⟨true, [.ints .u8 64 (stK (d1K ky v b) (nxV (d1K ky v b) (d1V ky v b) (rnds N)) b), .ints .u8 64 (stV (d1K ky v b) (nxV (d1K ky v b) (d1V ky v b) (rnds N)) b), .i .i64 d]⟩)])]) (fuel := 0) (m := 60) (c := (Try.f26.body.getD .skip)) mix tabOkKP (grmac_ok (gam761_ok.at _ _)) rfl (rs := [.tmp 6, .tmp 7]) rfl rfl [false, false, false, true] [.eqS 6 (.o (.a (.rs 2 0 (drN N d) 1))), .eqS 7 (.o (.a (.i .i64 (drE N d)))), .eqB 0 (⟨true, [.ints .u8 64 (drK N d ky v b), .ints .u8 64 (drV N d ky v b), .i .i64 (drD N d)]⟩), .eqB 2 (⟨true, [.ints .u8 (drM N d) (drO N d ky v b)]⟩)] 3
    (vc := [((some ⟨true, [.ints .u8 (64 * (rnds N)) (nxO (d1K ky v b) (d1V ky v b) (rnds N))]⟩ : Option Blk) = some ⟨true, [.ints .u8 (drM N d) (drO N d ky v b)]⟩), ((some ⟨true, [.ints .u8 64 (stK (d1K ky v b) (nxV (d1K ky v b) (d1V ky v b) (rnds N)) b), .ints .u8 64 (stV (d1K ky v b) (nxV (d1K ky v b) (d1V ky v b) (rnds N)) b), .i .i64 (IntKind.i64.wrap (d + (1 : Int)))]⟩ : Option Blk) = some ⟨true, [.ints .u8 64 (drK N d ky v b), .ints .u8 64 (drV N d ky v b), .i .i64 (drD N d)]⟩), ((.o (.a (.i .i64 (0 : Int))) : AV) = .o (.a (.i .i64 (drE N d)))), ((.o (.a (.rs 2 0 (Int.toNat N) 1)) : AV) = .o (.a (.rs 2 0 (drN N d) 1))), ((cZ 0) ∧ ((0 : Int) ≤ N) ∧ (N ≤ (((64 * (rnds N)) : Nat) : Int))), ((some ⟨true, [.ints .u8 64 (stK (d1K ky v b) (nxV (d1K ky v b) (d1V ky v b) (rnds N)) (sub b 0 n)), .ints .u8 64 (stV (d1K ky v b) (nxV (d1K ky v b) (d1V ky v b) (rnds N)) (sub b 0 n)), .i .i64 d]⟩ : Option Blk) = some ⟨true, [.ints .u8 64 (stK (d1K ky v b) (nxV (d1K ky v b) (d1V ky v b) (rnds N)) b), .ints .u8 64 (stV (d1K ky v b) (nxV (d1K ky v b) (d1V ky v b) (rnds N)) b), .i .i64 d]⟩), ((True ∧ (((0 + n) ≤ nm) ∧ True)) ∧ ((n = n) ∧ (n < 35184372088832))), (Run Try.prog ⟨w, rw, 2, β⟩ (.block 0 (.loop (loopB Try.f26 0))) (rdrawPL_mk ky v d N n nm b cap1 0 ()) (To ⟨w, rw, 2, β⟩ .normal (rdrawPL_mk ky v d N n nm b cap1 (rnds N) (iter (rdrawPL_step) (rnds N) ())))), ((some ⟨true, [.ints .u8 64 (stK ky v (sub b 0 n)), .ints .u8 64 (stV ky v (sub b 0 n)), .i .i64 d]⟩ : Option Blk) = some ⟨true, [.ints .u8 64 (d1K ky v b), .ints .u8 64 (d1V ky v b), .i .i64 d]⟩), ((True ∧ (((0 + n) ≤ nm) ∧ True)) ∧ ((n = n) ∧ (n < 35184372088832))), ((decide (((n : Nat) : Int) > (0 : Int))) = true), ((decide (d ≥ (4096 : Int))) = false), ((decide (N > (65536 : Int))) = false), ((decide (N < (0 : Int))) = false)]) (by kernel_rfl)
    (aC ((by unfold drM drO; rw [dr_ok ha hb hd]; rfl)) (aC ((by unfold drK drV drD; rw [dr_ok ha hb hd]; rfl)) (aC ((congrArg (fun z => AV.o (.a (.i .i64 z))) (by unfold drE; (repeat' split) <;> omega))) (aC ((by unfold drN; rw [dr_ok ha hb hd]; rfl)) (aC ⟨(dd rfl), (by first|omega|(simp (disch:=omega) only [wrapI];omega)), (by have hq := rnds_ge N; omega)⟩ (aC ((by rw [sub_all b n (Nat.le_of_eq (hl1_0.trans h0))])) (aC ⟨⟨trivial, ⟨(by first|omega|(simp (disch:=omega) only [wrapI];omega)), trivial⟩⟩, ⟨rfl, h1⟩⟩ (aC (rdrawPL_loop ky v d N n nm b cap1 h0 h1 hc1 hl0_0 hl0_1 hl1_0 ha hb hd hz w rw β ()) (aC ((by rw [sub_all b n (Nat.le_of_eq (hl1_0.trans h0))]; unfold d1K d1V; rw [if_neg (by rw [hl1_0]; omega), if_neg (by rw [hl1_0]; omega)])) (aC ⟨⟨trivial, ⟨(by first|omega|(simp (disch:=omega) only [wrapI];omega)), trivial⟩⟩, ⟨rfl, h1⟩⟩ (aC (decide_eq_true (by first|omega|(simp (disch:=omega) only [wrapI];omega))) (aC (decide_eq_false (by first|omega|(simp (disch:=omega) only [wrapI];omega))) (aC (decide_eq_false (by first|omega|(simp (disch:=omega) only [wrapI];omega))) (aC (decide_eq_false (by first|omega|(simp (disch:=omega) only [wrapI];omega))) (AllP_nil)))))))))))))))

theorem rdraw_body (ky v : List Int) (d N : Int) (n nm : Nat) (b : List Int) (cap1 : Nat) (h0 : (nm = n)) (h1 : (n < 35184372088832)) (w : World) (rw : List Nat) (β : Env) : Body Try.prog (tabOf tabKP) Try.f26 ⟨w, rw, 2, β⟩ [.o (.a (.p 0 0)), .o (.a (.i .i64 N)), .o (.a (.sl 1 0 n cap1))] [some ⟨true, [.ints .u8 64 ky, .ints .u8 64 v, .i .i64 d]⟩, some ⟨false, [.ints .u8 nm b]⟩] (fun ys K' => ys = [.a (.rs 2 0 (drN N d) 1), .a (.i .i64 (drE N d))] ∧ K' = [some ⟨true, [.ints .u8 64 (drK N d ky v b), .ints .u8 64 (drV N d ky v b), .i .i64 (drD N d)]⟩, some ⟨false, [.ints .u8 nm b]⟩, some ⟨true, [.ints .u8 (drM N d) (drO N d ky v b)]⟩]) :=
  Body.lens (c := (Try.f26.body.getD .skip)) rfl fun h => by
  by_cases hn : N < 0
  · exact rdrawN_body0 ky v d N n nm b cap1 h0 h1 (h.caps 2 _ _ _ _ rfl) (h.lens 0 _ .u8 (64 : Nat) ky rfl (by simp)) (h.lens 0 _ .u8 (64 : Nat) v rfl (by simp)) (h.lens 1 _ .u8 nm b rfl (by simp)) hn w rw β
  by_cases hm : 65536 < N
  · exact rdrawM_body0 ky v d N n nm b cap1 h0 h1 (h.caps 2 _ _ _ _ rfl) (h.lens 0 _ .u8 (64 : Nat) ky rfl (by simp)) (h.lens 0 _ .u8 (64 : Nat) v rfl (by simp)) (h.lens 1 _ .u8 nm b rfl (by simp)) hm w rw β
  by_cases hd : 4096 ≤ d
  · exact rdrawD_body0 ky v d N n nm b cap1 h0 h1 (h.caps 2 _ _ _ _ rfl) (h.lens 0 _ .u8 (64 : Nat) ky rfl (by simp)) (h.lens 0 _ .u8 (64 : Nat) v rfl (by simp)) (h.lens 1 _ .u8 nm b rfl (by simp)) (by omega) (by omega) hd w rw β
  by_cases hz : n = 0
  · exact rdrawZ_body0 ky v d N n nm b cap1 h0 h1 (h.caps 2 _ _ _ _ rfl) (h.lens 0 _ .u8 (64 : Nat) ky rfl (by simp)) (h.lens 0 _ .u8 (64 : Nat) v rfl (by simp)) (h.lens 1 _ .u8 nm b rfl (by simp)) (by omega) (by omega) (by omega) hz w rw β
  · exact rdrawP_body0 ky v d N n nm b cap1 h0 h1 (h.caps 2 _ _ _ _ rfl) (h.lens 0 _ .u8 (64 : Nat) ky rfl (by simp)) (h.lens 0 _ .u8 (64 : Nat) v rfl (by simp)) (h.lens 1 _ .u8 nm b rfl (by simp)) (by omega) (by omega) (by omega) (by omega) w rw β

noncomputable def gam762 : Gam := gcall 58 [true] [.w, .w] (fun wk vs args => match wk, vs, args with | [⟨true, [.ints .u8 64 ky, .ints .u8 64 v, .i .i64 d]⟩], [], [.o (.a (.p 0 0)), .o (.a (.raw (.slice none 0 0)))] => some (True, [], [some ⟨true, [.ints .u8 64 (rstirN ky v), .ints .u8 64 (rstirN_1 ky v), .i .i64 d]⟩]) | _, _, _ => none) gam306
theorem gam762_ok : GamOk Try.prog gam762 := gcall_ok tabOkKO Try.func58 gam306_ok Try.call58 (by
  intro wk vs args p xs K1 h hv
  split at h
  · simp only [Option.some.injEq, Prod.mk.injEq] at h; obtain ⟨rfl, rfl, rfl⟩ := h; exact fun caps w rw β => rstirN_body _ _ _ w rw β
  · simp at h)

set_option maxHeartbeats 1000000 in
theorem rdrawNN_body0 (ky v : List Int) (d N : Int) (hl0_0 : List.length ky = 64) (hl0_1 : List.length v = 64) (hn : N < 0) (w : World) (rw : List Nat) (β : Env) : Body Try.prog (tabOf tabKP) Try.f26 ⟨w, rw, 1, β⟩ [.o (.a (.p 0 0)), .o (.a (.i .i64 N)), .o (.a nlA)] [some ⟨true, [.ints .u8 64 ky, .ints .u8 64 v, .i .i64 d]⟩] (fun ys K' => ys = [.a (.rs 1 0 (drN N d) 1), .a (.i .i64 (drE N d))] ∧ K' = [some ⟨true, [.ints .u8 64 (drK0 N d ky v), .ints .u8 64 (drV0 N d ky v), .i .i64 (drD N d)]⟩, some ⟨true, [.ints .u8 (drM N d) (drO0 N d ky v)]⟩]) :=
  Body.of_finKAt (Γ := (grmac w rw gam762)) (Λ := noLam) (Ψ := noPsi) (fuel := 0) (m := 60) (c := (Try.f26.body.getD .skip)) mix tabOkKP (grmac_ok (gam762_ok.at _ _)) rfl (rs := [.tmp 6, .tmp 7]) rfl rfl [true] [.rowS 6 .u8 1, .eqS 6 (.o (.a (.rs 1 0 (drN N d) 1))), .eqS 7 (.o (.a (.i .i64 (drE N d)))), .eqB 0 (⟨true, [.ints .u8 64 (drK0 N d ky v), .ints .u8 64 (drV0 N d ky v), .i .i64 (drD N d)]⟩), .eqB 1 (⟨true, [.ints .u8 (drM N d) (drO0 N d ky v)]⟩)] 2
    (vc := [((some ⟨true, [.ints .u8 0 ([] : List Int)]⟩ : Option Blk) = some ⟨true, [.ints .u8 (drM N d) (drO0 N d ky v)]⟩), ((some ⟨true, [.ints .u8 64 ky, .ints .u8 64 v, .i .i64 d]⟩ : Option Blk) = some ⟨true, [.ints .u8 64 (drK0 N d ky v), .ints .u8 64 (drV0 N d ky v), .i .i64 (drD N d)]⟩), ((.o (.a (.i .i64 (1 : Int))) : AV) = .o (.a (.i .i64 (drE N d)))), ((.o (.a (.rs 1 0 0 1)) : AV) = .o (.a (.rs 1 0 (drN N d) 1))), ((decide (N < (0 : Int))) = true)]) (by kernel_rfl)
    (aC ((by unfold drO0 drM drO; rw [dr_bad (by omega)]; rfl)) (aC ((by unfold drK0 drV0 drK drV drD; rw [dr_bad (by omega)]; rfl)) (aC ((congrArg (fun z => AV.o (.a (.i .i64 z))) (by unfold drE; (repeat' split) <;> omega))) (aC ((by unfold drN; rw [dr_bad (by omega)]; rfl)) (aC (decide_eq_true (by first|omega|(simp (disch:=omega) only [wrapI];omega))) (AllP_nil))))))

set_option maxHeartbeats 1000000 in
theorem rdrawNM_body0 (ky v : List Int) (d N : Int) (hl0_0 : List.length ky = 64) (hl0_1 : List.length v = 64) (hm : 65536 < N) (w : World) (rw : List Nat) (β : Env) : Body Try.prog (tabOf tabKP) Try.f26 ⟨w, rw, 1, β⟩ [.o (.a (.p 0 0)), .o (.a (.i .i64 N)), .o (.a nlA)] [some ⟨true, [.ints .u8 64 ky, .ints .u8 64 v, .i .i64 d]⟩] (fun ys K' => ys = [.a (.rs 1 0 (drN N d) 1), .a (.i .i64 (drE N d))] ∧ K' = [some ⟨true, [.ints .u8 64 (drK0 N d ky v), .ints .u8 64 (drV0 N d ky v), .i .i64 (drD N d)]⟩, some ⟨true, [.ints .u8 (drM N d) (drO0 N d ky v)]⟩]) :=
  Body.of_finKAt (Γ := (grmac w rw gam762)) (Λ := noLam) (Ψ := noPsi) (fuel := 0) (m := 60) (c := (Try.f26.body.getD .skip)) mix tabOkKP (grmac_ok (gam762_ok.at _ _)) rfl (rs := [.tmp 6, .tmp 7]) rfl rfl [false, true] [.rowS 6 .u8 1, .eqS 6 (.o (.a (.rs 1 0 (drN N d) 1))), .eqS 7 (.o (.a (.i .i64 (drE N d)))), .eqB 0 (⟨true, [.ints .u8 64 (drK0 N d ky v), .ints .u8 64 (drV0 N d ky v), .i .i64 (drD N d)]⟩), .eqB 1 (⟨true, [.ints .u8 (drM N d) (drO0 N d ky v)]⟩)] 2
    (vc := [((some ⟨true, [.ints .u8 0 ([] : List Int)]⟩ : Option Blk) = some ⟨true, [.ints .u8 (drM N d) (drO0 N d ky v)]⟩), ((some ⟨true, [.ints .u8 64 ky, .ints .u8 64 v, .i .i64 d]⟩ : Option Blk) = some ⟨true, [.ints .u8 64 (drK0 N d ky v), .ints .u8 64 (drV0 N d ky v), .i .i64 (drD N d)]⟩), ((.o (.a (.i .i64 (113 : Int))) : AV) = .o (.a (.i .i64 (drE N d)))), ((.o (.a (.rs 1 0 0 1)) : AV) = .o (.a (.rs 1 0 (drN N d) 1))), ((decide (N > (65536 : Int))) = true), ((decide (N < (0 : Int))) = false)]) (by kernel_rfl)
    (aC ((by unfold drO0 drM drO; rw [dr_bad (by omega)]; rfl)) (aC ((by unfold drK0 drV0 drK drV drD; rw [dr_bad (by omega)]; rfl)) (aC ((congrArg (fun z => AV.o (.a (.i .i64 z))) (by unfold drE; (repeat' split) <;> omega))) (aC ((by unfold drN; rw [dr_bad (by omega)]; rfl)) (aC (decide_eq_true (by first|omega|(simp (disch:=omega) only [wrapI];omega))) (aC (decide_eq_false (by first|omega|(simp (disch:=omega) only [wrapI];omega))) (AllP_nil)))))))

set_option maxHeartbeats 1000000 in
theorem rdrawND_body0 (ky v : List Int) (d N : Int) (hl0_0 : List.length ky = 64) (hl0_1 : List.length v = 64) (ha : 0 ≤ N) (hb : N ≤ 65536) (hd : 4096 ≤ d) (w : World) (rw : List Nat) (β : Env) : Body Try.prog (tabOf tabKP) Try.f26 ⟨w, rw, 1, β⟩ [.o (.a (.p 0 0)), .o (.a (.i .i64 N)), .o (.a nlA)] [some ⟨true, [.ints .u8 64 ky, .ints .u8 64 v, .i .i64 d]⟩] (fun ys K' => ys = [.a (.rs 1 0 (drN N d) 1), .a (.i .i64 (drE N d))] ∧ K' = [some ⟨true, [.ints .u8 64 (drK0 N d ky v), .ints .u8 64 (drV0 N d ky v), .i .i64 (drD N d)]⟩, some ⟨true, [.ints .u8 (drM N d) (drO0 N d ky v)]⟩]) :=
  Body.of_finKAt (Γ := (grmac w rw gam762)) (Λ := noLam) (Ψ := noPsi) (fuel := 0) (m := 60) (c := (Try.f26.body.getD .skip)) mix tabOkKP (grmac_ok (gam762_ok.at _ _)) rfl (rs := [.tmp 6, .tmp 7]) rfl rfl [false, false, true] [.rowS 6 .u8 1, .eqS 6 (.o (.a (.rs 1 0 (drN N d) 1))), .eqS 7 (.o (.a (.i .i64 (drE N d)))), .eqB 0 (⟨true, [.ints .u8 64 (drK0 N d ky v), .ints .u8 64 (drV0 N d ky v), .i .i64 (drD N d)]⟩), .eqB 1 (⟨true, [.ints .u8 (drM N d) (drO0 N d ky v)]⟩)] 2
    (vc := [((some ⟨true, [.ints .u8 0 ([] : List Int)]⟩ : Option Blk) = some ⟨true, [.ints .u8 (drM N d) (drO0 N d ky v)]⟩), ((some ⟨true, [.ints .u8 64 ky, .ints .u8 64 v, .i .i64 d]⟩ : Option Blk) = some ⟨true, [.ints .u8 64 (drK0 N d ky v), .ints .u8 64 (drV0 N d ky v), .i .i64 (drD N d)]⟩), ((.o (.a (.i .i64 (112 : Int))) : AV) = .o (.a (.i .i64 (drE N d)))), ((.o (.a (.rs 1 0 0 1)) : AV) = .o (.a (.rs 1 0 (drN N d) 1))), ((decide (d ≥ (4096 : Int))) = true), ((decide (N > (65536 : Int))) = false), ((decide (N < (0 : Int))) = false)]) (by kernel_rfl)
    (aC ((by unfold drO0 drM drO; rw [dr_bad (by omega)]; rfl)) (aC ((by unfold drK0 drV0 drK drV drD; rw [dr_bad (by omega)]; rfl)) (aC ((congrArg (fun z => AV.o (.a (.i .i64 z))) (by unfold drE; (repeat' split) <;> omega))) (aC ((by unfold drN; rw [dr_bad (by omega)]; rfl)) (aC (decide_eq_true (by first|omega|(simp (disch:=omega) only [wrapI];omega))) (aC (decide_eq_false (by first|omega|(simp (disch:=omega) only [wrapI];omega))) (aC (decide_eq_false (by first|omega|(simp (disch:=omega) only [wrapI];omega))) (AllP_nil))))))))

noncomputable def rdrawNZL_mk (ky v : List Int) (d N : Int) (k : Nat) (s : Unit) : St := ⟨sparse 60 [(0, .o (.a (.p 0 0))), (1, .o (.a (.i .i64 N))), (2, .o (.a nlA)), (6, .o (.a nlA)), (7, .o (.a (.i .i64 (0 : Int)))), (8, .o (.a (.rs 1 0 (64 * k) 1)))], [some ⟨true, [.ints .u8 64 (d1K ky v ([] : List Int)), .ints .u8 64 (nxV (d1K ky v ([] : List Int)) (d1V ky v ([] : List Int)) k), .i .i64 d]⟩, some ⟨true, [.ints .u8 (64 * k) (nxO (d1K ky v ([] : List Int)) (d1V ky v ([] : List Int)) k)]⟩]⟩

noncomputable def rdrawNZL_step (k : Nat) (s : Unit) : Unit :=
  ()

set_option maxHeartbeats 1000000 in
theorem rdrawNZL_round (ky v : List Int) (d N : Int) (hl0_0 : List.length ky = 64) (hl0_1 : List.length v = 64) (ha : 0 ≤ N) (hb : N ≤ 65536) (hd : d < 4096) (w : World) (rw : List Nat) (β : Env) (k : Nat) (hk : k < (rnds N)) (s : Unit) : Run Try.prog ⟨w, rw, 1, β⟩ (loopB Try.f26 0) (rdrawNZL_mk ky v d N k s) (To ⟨w, rw, 1, β⟩ .normal (rdrawNZL_mk ky v d N (k + 1) (rdrawNZL_step k s))) := by
  have e0 : ((sub (nxO (d1K ky v ([] : List Int)) (d1V ky v ([] : List Int)) k) 0 (64 * k)) ++ (nxV (d1K ky v ([] : List Int)) (d1V ky v ([] : List Int)) (k + 1))) = (nxO (d1K ky v ([] : List Int)) (d1V ky v ([] : List Int)) (k + 1)) := (by first | omega | rfl | exact nxO_step (Nat.zero_add _).symm | exact nxO_step rfl)
  have e1 : (((64 : Nat) * k) + (64 : Nat)) = ((64 : Nat) * (k + (1 : Nat))) := (by first | omega | rfl | exact nxO_step (Nat.zero_add _).symm | exact nxO_step rfl)
  have h := Run.of_outTAt (B := ⟨w, rw, 1, β⟩) (Λ := noLam) (Ψ := psiOf [(11, [.eqB 0 (⟨true, [.ints .u8 64 (d1K ky v ([] : List Int)), .ints .u8 64 (nxV (d1K ky v ([] : List Int)) (d1V ky v ([] : List Int)) (k + 1)), .i .i64 d]⟩)])]) (fuel := 0) (ora := [true, false]) (c := (loopB Try.f26 0)) (st := (rdrawNZL_mk ky v d N k s)) (l := [.swap 1 3, .forget [0, 1, 2, 6, 7, 8] 2]) (s' := ⟨sparse 60 [(0, .o (.a (.p 0 0))), (1, .o (.a (.i .i64 N))), (2, .o (.a nlA)), (6, .o (.a nlA)), (7, .o (.a (.i .i64 (0 : Int)))), (8, .o (.a (.rs 1 0 ((64 * k) + 64) 1)))], [some ⟨true, [.ints .u8 64 (d1K ky v ([] : List Int)), .ints .u8 64 (nxV (d1K ky v ([] : List Int)) (d1V ky v ([] : List Int)) (k + 1)), .i .i64 d]⟩, some ⟨true, [.ints .u8 ((64 * k) + 64) ((sub (nxO (d1K ky v ([] : List Int)) (d1V ky v ([] : List Int)) k) 0 (64 * k)) ++ (nxV (d1K ky v ([] : List Int)) (d1V ky v ([] : List Int)) (k + 1)))]⟩]⟩) (ex := .normal) mix tabOkKP (grmac_ok (gam762_ok.at _ _))
    (vc := [(((0 + (64 * k)) ≤ (64 * k)) ∧ ((64 ≤ 64) ∧ True) ∧ ((((64 * k) + 64) * 1) ≤ 140737488355328)), ((cZ 0) ∧ (cZ 64)), ((some ⟨true, [.ints .u8 64 (d1K ky v ([] : List Int)), .ints .u8 64 (macD (d1K ky v ([] : List Int)) ((nxV (d1K ky v ([] : List Int)) (d1V ky v ([] : List Int)) k) ++ ([] : List Int))), .i .i64 d]⟩ : Option Blk) = some ⟨true, [.ints .u8 64 (d1K ky v ([] : List Int)), .ints .u8 64 (nxV (d1K ky v ([] : List Int)) (d1V ky v ([] : List Int)) (k + 1)), .i .i64 d]⟩), ((1 = 1) ∧ (True ∧ True) ∧ ((List.length ((nxV (d1K ky v ([] : List Int)) (d1V ky v ([] : List Int)) k) ++ ([] : List Int))) < 70368744177664) ∧ (True ∧ True) ∧ ((64 = 64) ∧ (cN 64 70368744177664) ∧ (cN 2 4398046511104) ∧ (((List.length ((nxV (d1K ky v ([] : List Int)) (d1V ky v ([] : List Int)) k) ++ ([] : List Int))) + 128) < 70368744177664))), ((cZ 0) ∧ (cZ 64)), ((cZ 0) ∧ (cZ 64)), ((decide ((((64 * k) : Nat) : Int) < N)) = true)]) (by kernel_rfl)
    (aC ⟨(by have hq := rnds_lt hk; first | omega | (simp (disch := omega) only [wrapI]; omega)), ⟨(dd rfl), trivial⟩, (by have hq := rnds_lt hk; first | omega | (simp (disch := omega) only [wrapI]; omega))⟩ (aC (dd rfl) (aC ((by first | (rw [List.append_nil]; rfl) | rw [List.append_nil])) (aC ⟨rfl, ⟨trivial, trivial⟩, (v_lt (nxV_len (d1V_len hl0_1) k)).1, ⟨trivial, trivial⟩, ⟨rfl, (dd rfl), (dd rfl), (v_lt (nxV_len (d1V_len hl0_1) k)).2⟩⟩ (aC (dd rfl) (aC (dd rfl) (aC (decide_eq_true (by have hq := rnds_lt hk; omega)) (AllP_nil))))))))
  rw [e0, e1] at h
  exact h

set_option maxHeartbeats 1000000 in
theorem rdrawNZL_last (ky v : List Int) (d N : Int) (hl0_0 : List.length ky = 64) (hl0_1 : List.length v = 64) (ha : 0 ≤ N) (hb : N ≤ 65536) (hd : d < 4096) (w : World) (rw : List Nat) (β : Env) (s : Unit) : Run Try.prog ⟨w, rw, 1, β⟩ (loopB Try.f26 0) (rdrawNZL_mk ky v d N (rnds N) s) (To ⟨w, rw, 1, β⟩ (.exit 0) (rdrawNZL_mk ky v d N (rnds N) s)) :=
  Run.of_outTAt (B := ⟨w, rw, 1, β⟩) (Λ := noLam) (Ψ := noPsi) (fuel := 0) (ora := [false]) (l := [.forget [0, 1, 2, 6, 7, 8] 2]) mix tabOkKP (grmac_ok (gam762_ok.at _ _))
    (vc := [((decide (((((64 : Nat) * (rnds N)) : Nat) : Int) < N)) = false)]) (by kernel_rfl)
    (aC (decide_eq_false (by have hq := rnds_ge N; omega)) (AllP_nil))

theorem rdrawNZL_loop (ky v : List Int) (d N : Int) (hl0_0 : List.length ky = 64) (hl0_1 : List.length v = 64) (ha : 0 ≤ N) (hb : N ≤ 65536) (hd : d < 4096) (w : World) (rw : List Nat) (β : Env) (s : Unit) : Run Try.prog ⟨w, rw, 1, β⟩ (.block 0 (.loop (loopB Try.f26 0))) (rdrawNZL_mk ky v d N 0 s) (To ⟨w, rw, 1, β⟩ .normal (rdrawNZL_mk ky v d N (rnds N) (iter (rdrawNZL_step) (rnds N) s))) :=
  Run.count (fun k => rdrawNZL_mk ky v d N k (iter (rdrawNZL_step) k s)) (rnds N) (fun k hk => rdrawNZL_round ky v d N hl0_0 hl0_1 ha hb hd w rw β k hk _) (ex := (.exit 0)) (by simp) (rdrawNZL_last ky v d N hl0_0 hl0_1 ha hb hd w rw β _)

set_option maxHeartbeats 1000000 in
theorem rdrawNZ_body0 (ky v : List Int) (d N : Int) (hl0_0 : List.length ky = 64) (hl0_1 : List.length v = 64) (ha : 0 ≤ N) (hb : N ≤ 65536) (hd : d < 4096) (w : World) (rw : List Nat) (β : Env) : Body Try.prog (tabOf tabKP) Try.f26 ⟨w, rw, 1, β⟩ [.o (.a (.p 0 0)), .o (.a (.i .i64 N)), .o (.a nlA)] [some ⟨true, [.ints .u8 64 ky, .ints .u8 64 v, .i .i64 d]⟩] (fun ys K' => ys = [.a (.rs 1 0 (drN N d) 1), .a (.i .i64 (drE N d))] ∧ K' = [some ⟨true, [.ints .u8 64 (drK0 N d ky v), .ints .u8 64 (drV0 N d ky v), .i .i64 (drD N d)]⟩, some ⟨true, [.ints .u8 (drM N d) (drO0 N d ky v)]⟩]) :=
  Body.of_finKAt (Γ := (grmac w rw gam762)) (Λ := lamOf [(0, ⟨[.rowS 8 .u8 1, .forget [0, 1, 2, 6, 7, 8] 2], .normal, (rdrawNZL_mk ky v d N (rnds N) (iter (rdrawNZL_step) (rnds N) ()))⟩)]) (Ψ := psiOf [(9, [.eqB 0 (⟨true, [.ints .u8 64 (d1K ky v ([] : List Int)), .ints .u8 64 (d1V ky v ([] : List Int)), .i .i64 d]⟩)]), (13, [.eqB 0 (⟨true, [.ints .u8 64 (stK (d1K ky v ([] : List Int)) (nxV (d1K ky v ([] : List Int)) (d1V ky v ([] : List Int)) (rnds N)) ([] : List Int)), .ints .u8 64 (stV (d1K ky v ([] : List Int)) (nxV (d1K ky v ([] : List Int)) (d1V ky v ([] : List Int)) (rnds N)) ([] : List Int)), .i .i64 d]⟩)])]) (fuel := 0) (m := 60) (c := (Try.f26.body.getD .skip)) mix tabOkKP (grmac_ok (gam762_ok.at _ _)) rfl (rs := [.tmp 6, .tmp 7]) rfl rfl [false, false, false, false] [.eqS 6 (.o (.a (.rs 1 0 (drN N d) 1))), .eqS 7 (.o (.a (.i .i64 (drE N d)))), .eqB 0 (⟨true, [.ints .u8 64 (drK0 N d ky v), .ints .u8 64 (drV0 N d ky v), .i .i64 (drD N d)]⟩), .eqB 1 (⟨true, [.ints .u8 (drM N d) (drO0 N d ky v)]⟩)] 2
    (vc := [((some ⟨true, [.ints .u8 (64 * (rnds N)) (nxO (d1K ky v ([] : List Int)) (d1V ky v ([] : List Int)) (rnds N))]⟩ : Option Blk) = some ⟨true, [.ints .u8 (drM N d) (drO0 N d ky v)]⟩), ((some ⟨true, [.ints .u8 64 (stK (d1K ky v ([] : List Int)) (nxV (d1K ky v ([] : List Int)) (d1V ky v ([] : List Int)) (rnds N)) ([] : List Int)), .ints .u8 64 (stV (d1K ky v ([] : List Int)) (nxV (d1K ky v ([] : List Int)) (d1V ky v ([] : List Int)) (rnds N)) ([] : List Int)), .i .i64 (IntKind.i64.wrap (d + (1 : Int)))]⟩ : Option Blk) = some ⟨true, [.ints .u8 64 (drK0 N d ky v), .ints .u8 64 (drV0 N d ky v), .i .i64 (drD N d)]⟩), ((.o (.a (.i .i64 (0 : Int))) : AV) = .o (.a (.i .i64 (drE N d)))), ((.o (.a (.rs 1 0 (Int.toNat N) 1)) : AV) = .o (.a (.rs 1 0 (drN N d) 1))), ((cZ 0) ∧ ((0 : Int) ≤ N) ∧ (N ≤ (((64 * (rnds N)) : Nat) : Int))), ((some ⟨true, [.ints .u8 64 (rstirN (d1K ky v ([] : List Int)) (nxV (d1K ky v ([] : List Int)) (d1V ky v ([] : List Int)) (rnds N))), .ints .u8 64 (rstirN_1 (d1K ky v ([] : List Int)) (nxV (d1K ky v ([] : List Int)) (d1V ky v ([] : List Int)) (rnds N))), .i .i64 d]⟩ : Option Blk) = some ⟨true, [.ints .u8 64 (stK (d1K ky v ([] : List Int)) (nxV (d1K ky v ([] : List Int)) (d1V ky v ([] : List Int)) (rnds N)) ([] : List Int)), .ints .u8 64 (stV (d1K ky v ([] : List Int)) (nxV (d1K ky v ([] : List Int)) (d1V ky v ([] : List Int)) (rnds N)) ([] : List Int)), .i .i64 d]⟩), ((True ∧ (True ∧ True)) ∧ True), (Run Try.prog ⟨w, rw, 1, β⟩ (.block 0 (.loop (loopB Try.f26 0))) (rdrawNZL_mk ky v d N 0 ()) (To ⟨w, rw, 1, β⟩ .normal (rdrawNZL_mk ky v d N (rnds N) (iter (rdrawNZL_step) (rnds N) ())))), ((some ⟨true, [.ints .u8 64 ky, .ints .u8 64 v, .i .i64 d]⟩ : Option Blk) = some ⟨true, [.ints .u8 64 (d1K ky v ([] : List Int)), .ints .u8 64 (d1V ky v ([] : List Int)), .i .i64 d]⟩), (false = false), ((decide (d ≥ (4096 : Int))) = false), ((decide (N > (65536 : Int))) = false), ((decide (N < (0 : Int))) = false)]) (by kernel_rfl)
    (aC ((by unfold drO0 drM drO; rw [dr_ok ha hb hd]; rfl)) (aC ((by unfold drK0 drV0 drK drV drD; rw [dr_ok ha hb hd]; rfl)) (aC ((congrArg (fun z => AV.o (.a (.i .i64 z))) (by unfold drE; (repeat' split) <;> omega))) (aC ((by unfold drN; rw [dr_ok ha hb hd]; rfl)) (aC ⟨(dd rfl), (by first|omega|(simp (disch:=omega) only [wrapI];omega)), (by have hq := rnds_ge N; omega)⟩ (aC (rfl) (aC ⟨⟨trivial, ⟨trivial, trivial⟩⟩, trivial⟩ (aC (rdrawNZL_loop ky v d N hl0_0 hl0_1 ha hb hd w rw β ()) (aC (rfl) (aC rfl (aC (decide_eq_false (by first|omega|(simp (disch:=omega) only [wrapI];omega))) (aC (decide_eq_false (by first|omega|(simp (disch:=omega) only [wrapI];omega))) (aC (decide_eq_false (by first|omega|(simp (disch:=omega) only [wrapI];omega))) (AllP_nil))))))))))))))

theorem rdrawN_body (ky v : List Int) (d N : Int) (w : World) (rw : List Nat) (β : Env) : Body Try.prog (tabOf tabKP) Try.f26 ⟨w, rw, 1, β⟩ [.o (.a (.p 0 0)), .o (.a (.i .i64 N)), .o (.a nlA)] [some ⟨true, [.ints .u8 64 ky, .ints .u8 64 v, .i .i64 d]⟩] (fun ys K' => ys = [.a (.rs 1 0 (drN N d) 1), .a (.i .i64 (drE N d))] ∧ K' = [some ⟨true, [.ints .u8 64 (drK0 N d ky v), .ints .u8 64 (drV0 N d ky v), .i .i64 (drD N d)]⟩, some ⟨true, [.ints .u8 (drM N d) (drO0 N d ky v)]⟩]) :=
  Body.lens (c := (Try.f26.body.getD .skip)) rfl fun h => by
  by_cases hn : N < 0
  · exact rdrawNN_body0 ky v d N (h.lens 0 _ .u8 (64 : Nat) ky rfl (by simp)) (h.lens 0 _ .u8 (64 : Nat) v rfl (by simp)) hn w rw β
  by_cases hm : 65536 < N
  · exact rdrawNM_body0 ky v d N (h.lens 0 _ .u8 (64 : Nat) ky rfl (by simp)) (h.lens 0 _ .u8 (64 : Nat) v rfl (by simp)) hm w rw β
  by_cases hd : 4096 ≤ d
  · exact rdrawND_body0 ky v d N (h.lens 0 _ .u8 (64 : Nat) ky rfl (by simp)) (h.lens 0 _ .u8 (64 : Nat) v rfl (by simp)) (by omega) (by omega) hd w rw β
  exact rdrawNZ_body0 ky v d N (h.lens 0 _ .u8 (64 : Nat) ky rfl (by simp)) (h.lens 0 _ .u8 (64 : Nat) v rfl (by simp)) (by omega) (by omega) (by omega) w rw β

end Go.Proofs.Ytlmdhjojinkdbaa.X

/- Printed by a tool of this session. -/
namespace Go.Proofs.Ytlmdhjojinkdbaa.X
open Go Go.Proofs
set_option linter.unusedVariables false
set_option linter.unusedSimpArgs false
set_option maxRecDepth 100000
theorem teKQ_5 : TEOk Try.prog 5 ⟨.int .u8, 1, 1, [.i .u8 (0 : Int)], false⟩ :=
  TEOk.of Try.underlying5 (i := Try.t5) (by kernel_rfl) rfl rfl rfl (by kernel_rfl) (fun h => by cases h) (by kernel_rfl)
theorem teKQ_22 : TEOk Try.prog 22 ⟨.slice 5, 1, 24, [.raw (.slice none 0 0)], false⟩ :=
  TEOk.of Try.underlying22 (i := Try.t22) (by kernel_rfl) rfl rfl rfl (by kernel_rfl) (fun h => by cases h) (by kernel_rfl)
theorem teKQ_23 : TEOk Try.prog 23 ⟨.slice 22, 1, 24, [.raw (.slice none 0 0)], false⟩ :=
  TEOk.of Try.underlying23 (i := Try.t23) (by kernel_rfl) rfl rfl rfl (by kernel_rfl) (fun h => by cases h) (by kernel_rfl)
theorem teKQ_32 : TEOk Try.prog 32 ⟨.array 64 5, 64, 64, [.ints .u8 64 (List.replicate 64 0)], true⟩ :=
  TEOk.of Try.underlying32 (i := Try.t32) (by kernel_rfl) rfl rfl rfl (by kernel_rfl) (fun _ => Try.eqGuardType32) (by kernel_rfl)
theorem teKQ_132 : TEOk Try.prog 132 ⟨Try.t131.desc, 129, 129, [.ints .u8 64 (List.replicate 64 0), .ints .u8 64 (List.replicate 64 0), .b false], false⟩ :=
  TEOk.of Try.underlying132 (i := Try.t132) (by kernel_rfl) rfl rfl rfl (by kernel_rfl) (fun h => by cases h) (by kernel_rfl)
noncomputable def tabKQ : List (Nat × TE) := [(5, ⟨.int .u8, 1, 1, [.i .u8 (0 : Int)], false⟩), (22, ⟨.slice 5, 1, 24, [nlA], false⟩), (23, ⟨.slice 22, 1, 24, [nlA], false⟩), (32, ⟨.array 64 5, 64, 64, [.ints .u8 64 (List.replicate 64 0)], true⟩), (132, ⟨Try.t131.desc, 129, 129, [.ints .u8 64 (List.replicate 64 0), .ints .u8 64 (List.replicate 64 0), .b false], false⟩)]
theorem tabOkKQ : TabOk Try.prog (tabOf tabKQ) := (tabOf_cons teKQ_5 (tabOf_cons teKQ_22 (tabOf_cons teKQ_23 (tabOf_cons teKQ_32 (tabOf_cons teKQ_132 tabOf_nil)))))

set_option maxHeartbeats 1000000 in
theorem stirT3_body0 (ky v : List Int) (d : Int) (n cp2 m cp3 o cp4 : Nat) (b c e : List Int) (cp : Nat) (h0 : (n < 8796093022208)) (h1 : (m < 8796093022208)) (h2 : (o < 8796093022208)) (h3 : (32 ≤ n)) (hl0_0 : List.length ky = 64) (hl0_1 : List.length v = 64) (hl2_0 : List.length b = n) (hl3_0 : List.length c = m) (hl4_0 : List.length e = o) (w : World) (rw : List Nat) (β : Env) : Body Try.prog (tabOf tabKQ) Try.f56 ⟨w, rw, 5, β⟩ [.o (.a (.p 0 0)), .o (.a (.sl 1 0 3 cp))] [some ⟨true, [.ints .u8 64 ky, .ints .u8 64 v, .b true, .i .i64 d]⟩, some ⟨false, [.sl 2 0 n cp2, .sl 3 0 m cp3, .sl 4 0 o cp4]⟩, some ⟨false, [.ints .u8 n b]⟩, some ⟨false, [.ints .u8 m c]⟩, some ⟨false, [.ints .u8 o e]⟩] (fun ys K' => ys = [] ∧ K' = [some ⟨true, [.ints .u8 64 (stK3 ky v b c e), .ints .u8 64 (stV3 ky v b c e), .b true, .i .i64 d]⟩, some ⟨false, [.sl 2 0 n cp2, .sl 3 0 m cp3, .sl 4 0 o cp4]⟩, some ⟨false, [.ints .u8 n b]⟩, some ⟨false, [.ints .u8 m c]⟩, some ⟨false, [.ints .u8 o e]⟩]) :=
  Body.of_finKAt (Γ := (gmac w rw (gjoin w rw gam17))) (Λ := noLam) (Ψ := psiIf [(10, some (7, 0), [.eqB 0 (⟨true, [.ints .u8 64 (st1K ky v (jn3 b c e)), .ints .u8 64 v, .b true, .i .i64 d]⟩)]), (11, some (7, 0), [.eqB 0 (⟨true, [.ints .u8 64 (st1K ky v (jn3 b c e)), .ints .u8 64 (st1V ky v (jn3 b c e)), .b true, .i .i64 d]⟩)]), (10, some (7, 1), [.eqB 0 (⟨true, [.ints .u8 64 (st2K ky v (jn3 b c e)), .ints .u8 64 (st1V ky v (jn3 b c e)), .b true, .i .i64 d]⟩)]), (11, some (7, 1), [.eqB 0 (⟨true, [.ints .u8 64 (st2K ky v (jn3 b c e)), .ints .u8 64 (st2V ky v (jn3 b c e)), .b true, .i .i64 d]⟩)])]) (fuel := 4) (m := 59) (c := (Try.f56.body.getD .skip)) mix tabOkKQ (gmac_ok (gjoin_ok (gam17_ok.at _ _))) rfl (rs := []) rfl rfl [true, true, true, false, true, false, false, false, false, false, true, true, true, true, false, false, false] [.eqB 0 (⟨true, [.ints .u8 64 (stK3 ky v b c e), .ints .u8 64 (stV3 ky v b c e), .b true, .i .i64 d]⟩)] 5
    (vc := [((some ⟨true, [.ints .u8 64 (st2K ky v (jn3 b c e)), .ints .u8 64 (st2V ky v (jn3 b c e)), .b true, .i .i64 d]⟩ : Option Blk) = some ⟨true, [.ints .u8 64 (stK3 ky v b c e), .ints .u8 64 (stV3 ky v b c e), .b true, .i .i64 d]⟩), (false = false), ((some ⟨true, [.ints .u8 64 (st2K ky v (jn3 b c e)), .ints .u8 64 (macD (st2K ky v (jn3 b c e)) ((st1V ky v (jn3 b c e)) ++ ([] : List Int))), .b true, .i .i64 d]⟩ : Option Blk) = some ⟨true, [.ints .u8 64 (st2K ky v (jn3 b c e)), .ints .u8 64 (st2V ky v (jn3 b c e)), .b true, .i .i64 d]⟩), ((1 = 1) ∧ (True ∧ True) ∧ ((List.length ((st1V ky v (jn3 b c e)) ++ ([] : List Int))) < 70368744177664) ∧ (True ∧ True) ∧ ((64 = 64) ∧ (cN 64 70368744177664) ∧ (cN 2 4398046511104) ∧ (((List.length ((st1V ky v (jn3 b c e)) ++ ([] : List Int))) + 128) < 70368744177664))), ((cZ 0) ∧ (cZ 64)), ((cZ 0) ∧ (cZ 64)), ((some ⟨true, [.ints .u8 64 (macD (st1K ky v (jn3 b c e)) ((st1V ky v (jn3 b c e)) ++ (([1] : List Int) ++ ((sub b 0 n) ++ ((sub c 0 m) ++ ((sub e 0 o) ++ ([] : List Int))))))), .ints .u8 64 (st1V ky v (jn3 b c e)), .b true, .i .i64 d]⟩ : Option Blk) = some ⟨true, [.ints .u8 64 (st2K ky v (jn3 b c e)), .ints .u8 64 (st1V ky v (jn3 b c e)), .b true, .i .i64 d]⟩), ((5 = 5) ∧ (True ∧ ((1 ≤ 1) ∧ (((0 + n) ≤ n) ∧ (((0 + m) ≤ m) ∧ (((0 + o) ≤ o) ∧ True))))) ∧ ((List.length ((st1V ky v (jn3 b c e)) ++ (([1] : List Int) ++ ((sub b 0 n) ++ ((sub c 0 m) ++ ((sub e 0 o) ++ ([] : List Int))))))) < 70368744177664) ∧ (True ∧ True) ∧ ((64 = 64) ∧ (cN 64 70368744177664) ∧ (cN 6 4398046511104) ∧ (((List.length ((st1V ky v (jn3 b c e)) ++ (([1] : List Int) ++ ((sub b 0 n) ++ ((sub c 0 m) ++ ((sub e 0 o) ++ ([] : List Int))))))) + 128) < 70368744177664))), (True ∧ ((3 ≤ 3) ∧ True) ∧ (cN 2 5) ∧ (120 ≤ 140737488355328)), ((cZ 0) ∧ (cZ 64)), ((cZ 0) ∧ (cZ 64)), (((IntKind.i64.wrap ((IntKind.i64.wrap ((IntKind.i64.wrap ((0 : Int) + ((n : Nat) : Int))) + ((m : Nat) : Int))) + ((o : Nat) : Int))) == (0 : Int)) = false), cT, cT, cT, cT, ((some ⟨true, [.ints .u8 64 (st1K ky v (jn3 b c e)), .ints .u8 64 (macD (st1K ky v (jn3 b c e)) (v ++ ([] : List Int))), .b true, .i .i64 d]⟩ : Option Blk) = some ⟨true, [.ints .u8 64 (st1K ky v (jn3 b c e)), .ints .u8 64 (st1V ky v (jn3 b c e)), .b true, .i .i64 d]⟩), ((1 = 1) ∧ (True ∧ True) ∧ ((List.length (v ++ ([] : List Int))) < 70368744177664) ∧ (True ∧ True) ∧ ((64 = 64) ∧ (cN 64 70368744177664) ∧ (cN 2 4398046511104) ∧ (((List.length (v ++ ([] : List Int))) + 128) < 70368744177664))), ((cZ 0) ∧ (cZ 64)), ((cZ 0) ∧ (cZ 64)), ((some ⟨true, [.ints .u8 64 (macD ky (v ++ (([0] : List Int) ++ ((sub b 0 n) ++ ((sub c 0 m) ++ ((sub e 0 o) ++ ([] : List Int))))))), .ints .u8 64 v, .b true, .i .i64 d]⟩ : Option Blk) = some ⟨true, [.ints .u8 64 (st1K ky v (jn3 b c e)), .ints .u8 64 v, .b true, .i .i64 d]⟩), ((5 = 5) ∧ (True ∧ ((1 ≤ 1) ∧ (((0 + n) ≤ n) ∧ (((0 + m) ≤ m) ∧ (((0 + o) ≤ o) ∧ True))))) ∧ ((List.length (v ++ (([0] : List Int) ++ ((sub b 0 n) ++ ((sub c 0 m) ++ ((sub e 0 o) ++ ([] : List Int))))))) < 70368744177664) ∧ (True ∧ True) ∧ ((64 = 64) ∧ (cN 64 70368744177664) ∧ (cN 6 4398046511104) ∧ (((List.length (v ++ (([0] : List Int) ++ ((sub b 0 n) ++ ((sub c 0 m) ++ ((sub e 0 o) ++ ([] : List Int))))))) + 128) < 70368744177664))), (True ∧ ((3 ≤ 3) ∧ True) ∧ (cN 2 5) ∧ (120 ≤ 140737488355328)), ((cZ 0) ∧ (cZ 64)), ((cZ 0) ∧ (cZ 64)), (false = false), (false = false), (false = false), (false = false), cT, (false = false), (cI 2 3), cT, (cI 1 3), cT, (cI 0 3), cT]) (by kernel_rfl)
    (aC ((by rw [show stK3 _ _ _ _ _  = st2K _ _ _ from stK_pos (jn3_len hl2_0 hl3_0 hl4_0) (by omega), show stV3 _ _ _ _ _  = st2V _ _ _ from stV_pos (jn3_len hl2_0 hl3_0 hl4_0) (by omega)])) (aC rfl (aC ((by first | (rw [List.append_nil]; rfl) | rw [List.append_nil])) (aC ⟨rfl, ⟨trivial, trivial⟩, (v_lt (macD_len _ _)).1, ⟨trivial, trivial⟩, ⟨rfl, (dd rfl), (dd rfl), (v_lt (macD_len _ _)).2⟩⟩ (aC (dd rfl) (aC (dd rfl) (aC ((by first | (rw [in3j hl2_0 hl3_0 hl4_0]; rfl) | rw [in3j hl2_0 hl3_0 hl4_0])) (aC ⟨rfl, ⟨trivial, ⟨(dd rfl), ⟨(by first|omega|(simp (disch:=omega) only [wrapI];omega)), ⟨(by first|omega|(simp (disch:=omega) only [wrapI];omega)), ⟨(by first|omega|(simp (disch:=omega) only [wrapI];omega)), trivial⟩⟩⟩⟩⟩, (in3_lt (macD_len _ _) hl2_0 hl3_0 hl4_0 h0 h1 h2).1, ⟨trivial, trivial⟩, ⟨rfl, (dd rfl), (dd rfl), (in3_lt (macD_len _ _) hl2_0 hl3_0 hl4_0 h0 h1 h2).2⟩⟩ (aC ⟨trivial, ⟨(dd rfl), trivial⟩, (dd rfl), (dd rfl)⟩ (aC (dd rfl) (aC (dd rfl) (aC (beq_eq_false_iff_ne.2 (by first|omega|(simp (disch:=omega) only [wrapI];omega))) (aC rfl (aC rfl (aC rfl (aC rfl (aC ((by first | (rw [List.append_nil]; rfl) | rw [List.append_nil])) (aC ⟨rfl, ⟨trivial, trivial⟩, (v_lt hl0_1).1, ⟨trivial, trivial⟩, ⟨rfl, (dd rfl), (dd rfl), (v_lt hl0_1).2⟩⟩ (aC (dd rfl) (aC (dd rfl) (aC ((by first | (rw [in3j hl2_0 hl3_0 hl4_0]; rfl) | rw [in3j hl2_0 hl3_0 hl4_0])) (aC ⟨rfl, ⟨trivial, ⟨(dd rfl), ⟨(by first|omega|(simp (disch:=omega) only [wrapI];omega)), ⟨(by first|omega|(simp (disch:=omega) only [wrapI];omega)), ⟨(by first|omega|(simp (disch:=omega) only [wrapI];omega)), trivial⟩⟩⟩⟩⟩, (in3_lt hl0_1 hl2_0 hl3_0 hl4_0 h0 h1 h2).1, ⟨trivial, trivial⟩, ⟨rfl, (dd rfl), (dd rfl), (in3_lt hl0_1 hl2_0 hl3_0 hl4_0 h0 h1 h2).2⟩⟩ (aC ⟨trivial, ⟨(dd rfl), trivial⟩, (dd rfl), (dd rfl)⟩ (aC (dd rfl) (aC (dd rfl) (aC rfl (aC rfl (aC rfl (aC rfl (aC rfl (aC rfl (aC (dd rfl) (aC rfl (aC (dd rfl) (aC rfl (aC (dd rfl) (aC rfl (AllP_nil))))))))))))))))))))))))))))))))))))))

theorem stirT3_body (ky v : List Int) (d : Int) (n cp2 m cp3 o cp4 : Nat) (b c e : List Int) (cp : Nat) (h0 : (n < 8796093022208)) (h1 : (m < 8796093022208)) (h2 : (o < 8796093022208)) (h3 : (32 ≤ n)) (w : World) (rw : List Nat) (β : Env) : Body Try.prog (tabOf tabKQ) Try.f56 ⟨w, rw, 5, β⟩ [.o (.a (.p 0 0)), .o (.a (.sl 1 0 3 cp))] [some ⟨true, [.ints .u8 64 ky, .ints .u8 64 v, .b true, .i .i64 d]⟩, some ⟨false, [.sl 2 0 n cp2, .sl 3 0 m cp3, .sl 4 0 o cp4]⟩, some ⟨false, [.ints .u8 n b]⟩, some ⟨false, [.ints .u8 m c]⟩, some ⟨false, [.ints .u8 o e]⟩] (fun ys K' => ys = [] ∧ K' = [some ⟨true, [.ints .u8 64 (stK3 ky v b c e), .ints .u8 64 (stV3 ky v b c e), .b true, .i .i64 d]⟩, some ⟨false, [.sl 2 0 n cp2, .sl 3 0 m cp3, .sl 4 0 o cp4]⟩, some ⟨false, [.ints .u8 n b]⟩, some ⟨false, [.ints .u8 m c]⟩, some ⟨false, [.ints .u8 o e]⟩]) :=
  Body.lens (c := (Try.f56.body.getD .skip)) rfl fun h => stirT3_body0 ky v d n cp2 m cp3 o cp4 b c e cp h0 h1 h2 h3 (h.lens 0 _ .u8 64 ky rfl (by simp)) (h.lens 0 _ .u8 64 v rfl (by simp)) (h.lens 2 _ .u8 n b rfl (by simp)) (h.lens 3 _ .u8 m c rfl (by simp)) (h.lens 4 _ .u8 o e rfl (by simp)) w rw β

set_option maxHeartbeats 1000000 in
theorem stirT2_body0 (ky v : List Int) (d : Int) (n cp2 m cp3 : Nat) (b c : List Int) (cp : Nat) (h0 : (n < 8796093022208)) (h1 : (m < 8796093022208)) (h2 : (32 ≤ n)) (hl0_0 : List.length ky = 64) (hl0_1 : List.length v = 64) (hl2_0 : List.length b = n) (hl3_0 : List.length c = m) (w : World) (rw : List Nat) (β : Env) : Body Try.prog (tabOf tabKQ) Try.f56 ⟨w, rw, 4, β⟩ [.o (.a (.p 0 0)), .o (.a (.sl 1 0 2 cp))] [some ⟨true, [.ints .u8 64 ky, .ints .u8 64 v, .b true, .i .i64 d]⟩, some ⟨false, [.sl 2 0 n cp2, .sl 3 0 m cp3]⟩, some ⟨false, [.ints .u8 n b]⟩, some ⟨false, [.ints .u8 m c]⟩] (fun ys K' => ys = [] ∧ K' = [some ⟨true, [.ints .u8 64 (stK2 ky v b c), .ints .u8 64 (stV2 ky v b c), .b true, .i .i64 d]⟩, some ⟨false, [.sl 2 0 n cp2, .sl 3 0 m cp3]⟩, some ⟨false, [.ints .u8 n b]⟩, some ⟨false, [.ints .u8 m c]⟩]) :=
  Body.of_finKAt (Γ := (gmac w rw (gjoin w rw gam17))) (Λ := noLam) (Ψ := psiIf [(10, some (7, 0), [.eqB 0 (⟨true, [.ints .u8 64 (st1K ky v (jn2 b c)), .ints .u8 64 v, .b true, .i .i64 d]⟩)]), (11, some (7, 0), [.eqB 0 (⟨true, [.ints .u8 64 (st1K ky v (jn2 b c)), .ints .u8 64 (st1V ky v (jn2 b c)), .b true, .i .i64 d]⟩)]), (10, some (7, 1), [.eqB 0 (⟨true, [.ints .u8 64 (st2K ky v (jn2 b c)), .ints .u8 64 (st1V ky v (jn2 b c)), .b true, .i .i64 d]⟩)]), (11, some (7, 1), [.eqB 0 (⟨true, [.ints .u8 64 (st2K ky v (jn2 b c)), .ints .u8 64 (st2V ky v (jn2 b c)), .b true, .i .i64 d]⟩)])]) (fuel := 3) (m := 59) (c := (Try.f56.body.getD .skip)) mix tabOkKQ (gmac_ok (gjoin_ok (gam17_ok.at _ _))) rfl (rs := []) rfl rfl [true, true, false, true, false, false, false, false, false, true, true, true, true, false, false, false] [.eqB 0 (⟨true, [.ints .u8 64 (stK2 ky v b c), .ints .u8 64 (stV2 ky v b c), .b true, .i .i64 d]⟩)] 4
    (vc := [((some ⟨true, [.ints .u8 64 (st2K ky v (jn2 b c)), .ints .u8 64 (st2V ky v (jn2 b c)), .b true, .i .i64 d]⟩ : Option Blk) = some ⟨true, [.ints .u8 64 (stK2 ky v b c), .ints .u8 64 (stV2 ky v b c), .b true, .i .i64 d]⟩), (false = false), ((some ⟨true, [.ints .u8 64 (st2K ky v (jn2 b c)), .ints .u8 64 (macD (st2K ky v (jn2 b c)) ((st1V ky v (jn2 b c)) ++ ([] : List Int))), .b true, .i .i64 d]⟩ : Option Blk) = some ⟨true, [.ints .u8 64 (st2K ky v (jn2 b c)), .ints .u8 64 (st2V ky v (jn2 b c)), .b true, .i .i64 d]⟩), ((1 = 1) ∧ (True ∧ True) ∧ ((List.length ((st1V ky v (jn2 b c)) ++ ([] : List Int))) < 70368744177664) ∧ (True ∧ True) ∧ ((64 = 64) ∧ (cN 64 70368744177664) ∧ (cN 2 4398046511104) ∧ (((List.length ((st1V ky v (jn2 b c)) ++ ([] : List Int))) + 128) < 70368744177664))), ((cZ 0) ∧ (cZ 64)), ((cZ 0) ∧ (cZ 64)), ((some ⟨true, [.ints .u8 64 (macD (st1K ky v (jn2 b c)) ((st1V ky v (jn2 b c)) ++ (([1] : List Int) ++ ((sub b 0 n) ++ ((sub c 0 m) ++ ([] : List Int)))))), .ints .u8 64 (st1V ky v (jn2 b c)), .b true, .i .i64 d]⟩ : Option Blk) = some ⟨true, [.ints .u8 64 (st2K ky v (jn2 b c)), .ints .u8 64 (st1V ky v (jn2 b c)), .b true, .i .i64 d]⟩), ((4 = 4) ∧ (True ∧ ((1 ≤ 1) ∧ (((0 + n) ≤ n) ∧ (((0 + m) ≤ m) ∧ True)))) ∧ ((List.length ((st1V ky v (jn2 b c)) ++ (([1] : List Int) ++ ((sub b 0 n) ++ ((sub c 0 m) ++ ([] : List Int)))))) < 70368744177664) ∧ (True ∧ True) ∧ ((64 = 64) ∧ (cN 64 70368744177664) ∧ (cN 5 4398046511104) ∧ (((List.length ((st1V ky v (jn2 b c)) ++ (([1] : List Int) ++ ((sub b 0 n) ++ ((sub c 0 m) ++ ([] : List Int)))))) + 128) < 70368744177664))), (True ∧ ((2 ≤ 2) ∧ True) ∧ (cN 2 4) ∧ (96 ≤ 140737488355328)), ((cZ 0) ∧ (cZ 64)), ((cZ 0) ∧ (cZ 64)), (((IntKind.i64.wrap ((IntKind.i64.wrap ((0 : Int) + ((n : Nat) : Int))) + ((m : Nat) : Int))) == (0 : Int)) = false), cT, cT, cT, cT, ((some ⟨true, [.ints .u8 64 (st1K ky v (jn2 b c)), .ints .u8 64 (macD (st1K ky v (jn2 b c)) (v ++ ([] : List Int))), .b true, .i .i64 d]⟩ : Option Blk) = some ⟨true, [.ints .u8 64 (st1K ky v (jn2 b c)), .ints .u8 64 (st1V ky v (jn2 b c)), .b true, .i .i64 d]⟩), ((1 = 1) ∧ (True ∧ True) ∧ ((List.length (v ++ ([] : List Int))) < 70368744177664) ∧ (True ∧ True) ∧ ((64 = 64) ∧ (cN 64 70368744177664) ∧ (cN 2 4398046511104) ∧ (((List.length (v ++ ([] : List Int))) + 128) < 70368744177664))), ((cZ 0) ∧ (cZ 64)), ((cZ 0) ∧ (cZ 64)), ((some ⟨true, [.ints .u8 64 (macD ky (v ++ (([0] : List Int) ++ ((sub b 0 n) ++ ((sub c 0 m) ++ ([] : List Int)))))), .ints .u8 64 v, .b true, .i .i64 d]⟩ : Option Blk) = some ⟨true, [.ints .u8 64 (st1K ky v (jn2 b c)), .ints .u8 64 v, .b true, .i .i64 d]⟩), ((4 = 4) ∧ (True ∧ ((1 ≤ 1) ∧ (((0 + n) ≤ n) ∧ (((0 + m) ≤ m) ∧ True)))) ∧ ((List.length (v ++ (([0] : List Int) ++ ((sub b 0 n) ++ ((sub c 0 m) ++ ([] : List Int)))))) < 70368744177664) ∧ (True ∧ True) ∧ ((64 = 64) ∧ (cN 64 70368744177664) ∧ (cN 5 4398046511104) ∧ (((List.length (v ++ (([0] : List Int) ++ ((sub b 0 n) ++ ((sub c 0 m) ++ ([] : List Int)))))) + 128) < 70368744177664))), (True ∧ ((2 ≤ 2) ∧ True) ∧ (cN 2 4) ∧ (96 ≤ 140737488355328)), ((cZ 0) ∧ (cZ 64)), ((cZ 0) ∧ (cZ 64)), (false = false), (false = false), (false = false), (false = false), cT, (false = false), (cI 1 2), cT, (cI 0 2), cT]) (by kernel_rfl)
    (aC ((by rw [show stK2 _ _ _ _  = st2K _ _ _ from stK_pos (jn2_len hl2_0 hl3_0) (by omega), show stV2 _ _ _ _  = st2V _ _ _ from stV_pos (jn2_len hl2_0 hl3_0) (by omega)])) (aC rfl (aC ((by first | (rw [List.append_nil]; rfl) | rw [List.append_nil])) (aC ⟨rfl, ⟨trivial, trivial⟩, (v_lt (macD_len _ _)).1, ⟨trivial, trivial⟩, ⟨rfl, (dd rfl), (dd rfl), (v_lt (macD_len _ _)).2⟩⟩ (aC (dd rfl) (aC (dd rfl) (aC ((by first | (rw [in2j hl2_0 hl3_0]; rfl) | rw [in2j hl2_0 hl3_0])) (aC ⟨rfl, ⟨trivial, ⟨(dd rfl), ⟨(by first|omega|(simp (disch:=omega) only [wrapI];omega)), ⟨(by first|omega|(simp (disch:=omega) only [wrapI];omega)), trivial⟩⟩⟩⟩, (in2_lt (macD_len _ _) hl2_0 hl3_0 h0 h1).1, ⟨trivial, trivial⟩, ⟨rfl, (dd rfl), (dd rfl), (in2_lt (macD_len _ _) hl2_0 hl3_0 h0 h1).2⟩⟩ (aC ⟨trivial, ⟨(dd rfl), trivial⟩, (dd rfl), (dd rfl)⟩ (aC (dd rfl) (aC (dd rfl) (aC (beq_eq_false_iff_ne.2 (by first|omega|(simp (disch:=omega) only [wrapI];omega))) (aC rfl (aC rfl (aC rfl (aC rfl (aC ((by first | (rw [List.append_nil]; rfl) | rw [List.append_nil])) (aC ⟨rfl, ⟨trivial, trivial⟩, (v_lt hl0_1).1, ⟨trivial, trivial⟩, ⟨rfl, (dd rfl), (dd rfl), (v_lt hl0_1).2⟩⟩ (aC (dd rfl) (aC (dd rfl) (aC ((by first | (rw [in2j hl2_0 hl3_0]; rfl) | rw [in2j hl2_0 hl3_0])) (aC ⟨rfl, ⟨trivial, ⟨(dd rfl), ⟨(by first|omega|(simp (disch:=omega) only [wrapI];omega)), ⟨(by first|omega|(simp (disch:=omega) only [wrapI];omega)), trivial⟩⟩⟩⟩, (in2_lt hl0_1 hl2_0 hl3_0 h0 h1).1, ⟨trivial, trivial⟩, ⟨rfl, (dd rfl), (dd rfl), (in2_lt hl0_1 hl2_0 hl3_0 h0 h1).2⟩⟩ (aC ⟨trivial, ⟨(dd rfl), trivial⟩, (dd rfl), (dd rfl)⟩ (aC (dd rfl) (aC (dd rfl) (aC rfl (aC rfl (aC rfl (aC rfl (aC rfl (aC rfl (aC (dd rfl) (aC rfl (aC (dd rfl) (aC rfl (AllP_nil))))))))))))))))))))))))))))))))))))

theorem stirT2_body (ky v : List Int) (d : Int) (n cp2 m cp3 : Nat) (b c : List Int) (cp : Nat) (h0 : (n < 8796093022208)) (h1 : (m < 8796093022208)) (h2 : (32 ≤ n)) (w : World) (rw : List Nat) (β : Env) : Body Try.prog (tabOf tabKQ) Try.f56 ⟨w, rw, 4, β⟩ [.o (.a (.p 0 0)), .o (.a (.sl 1 0 2 cp))] [some ⟨true, [.ints .u8 64 ky, .ints .u8 64 v, .b true, .i .i64 d]⟩, some ⟨false, [.sl 2 0 n cp2, .sl 3 0 m cp3]⟩, some ⟨false, [.ints .u8 n b]⟩, some ⟨false, [.ints .u8 m c]⟩] (fun ys K' => ys = [] ∧ K' = [some ⟨true, [.ints .u8 64 (stK2 ky v b c), .ints .u8 64 (stV2 ky v b c), .b true, .i .i64 d]⟩, some ⟨false, [.sl 2 0 n cp2, .sl 3 0 m cp3]⟩, some ⟨false, [.ints .u8 n b]⟩, some ⟨false, [.ints .u8 m c]⟩]) :=
  Body.lens (c := (Try.f56.body.getD .skip)) rfl fun h => stirT2_body0 ky v d n cp2 m cp3 b c cp h0 h1 h2 (h.lens 0 _ .u8 64 ky rfl (by simp)) (h.lens 0 _ .u8 64 v rfl (by simp)) (h.lens 2 _ .u8 n b rfl (by simp)) (h.lens 3 _ .u8 m c rfl (by simp)) w rw β

end Go.Proofs.Ytlmdhjojinkdbaa.X

/- Printed by a tool of this session. -/
namespace Go.Proofs.Ytlmdhjojinkdbaa.X
open Go Go.Proofs
set_option linter.unusedVariables false
set_option linter.unusedSimpArgs false
set_option maxRecDepth 100000
theorem teKR_3 : TEOk Try.prog 3 ⟨.int .i64, 1, 8, [.i .i64 (0 : Int)], false⟩ :=
  TEOk.of Try.underlying3 (i := Try.t3) (by kernel_rfl) rfl rfl rfl (by kernel_rfl) (fun h => by cases h) (by kernel_rfl)
theorem teKR_4 : TEOk Try.prog 4 ⟨.bool, 1, 1, [.b false], false⟩ :=
  TEOk.of Try.underlying4 (i := Try.t4) (by kernel_rfl) rfl rfl rfl (by kernel_rfl) (fun h => by cases h) (by kernel_rfl)
theorem teKR_5 : TEOk Try.prog 5 ⟨.int .u8, 1, 1, [.i .u8 (0 : Int)], false⟩ :=
  TEOk.of Try.underlying5 (i := Try.t5) (by kernel_rfl) rfl rfl rfl (by kernel_rfl) (fun h => by cases h) (by kernel_rfl)
theorem teKR_22 : TEOk Try.prog 22 ⟨.slice 5, 1, 24, [.raw (.slice none 0 0)], false⟩ :=
  TEOk.of Try.underlying22 (i := Try.t22) (by kernel_rfl) rfl rfl rfl (by kernel_rfl) (fun h => by cases h) (by kernel_rfl)
theorem teKR_23 : TEOk Try.prog 23 ⟨.slice 22, 1, 24, [.raw (.slice none 0 0)], false⟩ :=
  TEOk.of Try.underlying23 (i := Try.t23) (by kernel_rfl) rfl rfl rfl (by kernel_rfl) (fun h => by cases h) (by kernel_rfl)
theorem teKR_32 : TEOk Try.prog 32 ⟨.array 64 5, 64, 64, [.ints .u8 64 (List.replicate 64 0)], true⟩ :=
  TEOk.of Try.underlying32 (i := Try.t32) (by kernel_rfl) rfl rfl rfl (by kernel_rfl) (fun _ => Try.eqGuardType32) (by kernel_rfl)
theorem teKR_57 : TEOk Try.prog 57 ⟨.pointer 134, 1, 8, [.raw (.pointer none)], false⟩ :=
  TEOk.of Try.underlying57 (i := Try.t57) (by kernel_rfl) rfl rfl rfl (by kernel_rfl) (fun h => by cases h) (by kernel_rfl)
theorem teKR_72 : TEOk Try.prog 72 ⟨.array 32 5, 32, 32, [.ints .u8 (32 : Nat) ([0, 0, 0, 0, 0, 0, 0, 0, 0, 0, 0, 0, 0, 0, 0, 0, 0, 0, 0, 0, 0, 0, 0, 0, 0, 0, 0, 0, 0, 0, 0, 0] : List Int)], true⟩ :=
  TEOk.of Try.underlying72 (i := Try.t72) (by kernel_rfl) rfl rfl rfl (by kernel_rfl) (fun _ => Try.eqGuardType72) (by kernel_rfl)
theorem teKR_132 : TEOk Try.prog 132 ⟨Try.t131.desc, 129, 129, [.ints .u8 64 (List.replicate 64 0), .ints .u8 64 (List.replicate 64 0), .b false], false⟩ :=
  TEOk.of Try.underlying132 (i := Try.t132) (by kernel_rfl) rfl rfl rfl (by kernel_rfl) (fun h => by cases h) (by kernel_rfl)
theorem teKR_134 : TEOk Try.prog 134 ⟨Try.t133.desc, 130, 144, [.ints .u8 64 (List.replicate 64 0), .ints .u8 64 (List.replicate 64 0), .b false, .i .i64 (0 : Int)], false⟩ :=
  TEOk.of Try.underlying134 (i := Try.t134) (by kernel_rfl) rfl rfl rfl (by kernel_rfl) (fun h => by cases h) (by kernel_rfl)
noncomputable def tabKR : List (Nat × TE) := [(3, ⟨.int .i64, 1, 8, [.i .i64 (0 : Int)], false⟩), (4, ⟨.bool, 1, 1, [.b false], false⟩), (5, ⟨.int .u8, 1, 1, [.i .u8 (0 : Int)], false⟩), (22, ⟨.slice 5, 1, 24, [nlA], false⟩), (23, ⟨.slice 22, 1, 24, [nlA], false⟩), (32, ⟨.array 64 5, 64, 64, [.ints .u8 64 (List.replicate 64 0)], true⟩), (57, ⟨.pointer 134, 1, 8, [.raw (.pointer none)], false⟩), (72, ⟨.array 32 5, 32, 32, [.ints .u8 32 ([0, 0, 0, 0, 0, 0, 0, 0, 0, 0, 0, 0, 0, 0, 0, 0, 0, 0, 0, 0, 0, 0, 0, 0, 0, 0, 0, 0, 0, 0, 0, 0] : List Int)], true⟩), (132, ⟨Try.t131.desc, 129, 129, [.ints .u8 64 (List.replicate 64 0), .ints .u8 64 (List.replicate 64 0), .b false], false⟩), (134, ⟨Try.t133.desc, 130, 144, [.ints .u8 64 (List.replicate 64 0), .ints .u8 64 (List.replicate 64 0), .b false, .i .i64 (0 : Int)], false⟩)]
theorem tabOkKR : TabOk Try.prog (tabOf tabKR) := (tabOf_cons teKR_3 (tabOf_cons teKR_4 (tabOf_cons teKR_5 (tabOf_cons teKR_22 (tabOf_cons teKR_23 (tabOf_cons teKR_32 (tabOf_cons teKR_57 (tabOf_cons teKR_72 (tabOf_cons teKR_132 (tabOf_cons teKR_134 tabOf_nil))))))))))

noncomputable def gam801 : Gam := gcall 56 [true, false, false, false, false] [.w, .w] (fun wk vs args => match wk, vs, args with | [⟨true, [.ints .u8 64 ky, .ints .u8 64 v, .b true, .i .i64 d]⟩, ⟨false, [.sl 2 0 n cp2, .sl 3 0 m cp3, .sl 4 0 o cp4]⟩, ⟨false, [.ints .u8 n_1 b]⟩, ⟨false, [.ints .u8 m_1 c]⟩, ⟨false, [.ints .u8 o_1 e]⟩], [], [.o (.a (.p 0 0)), .o (.a (.sl 1 0 3 cp))] => some ((n_1 = n) ∧ (m_1 = m) ∧ (o_1 = o) ∧ (n < 8796093022208) ∧ (m < 8796093022208) ∧ (o < 8796093022208) ∧ (32 ≤ n), [], [some ⟨true, [.ints .u8 64 (stK3 ky v b c e), .ints .u8 64 (stV3 ky v b c e), .b true, .i .i64 d]⟩, some ⟨false, [.sl 2 0 n cp2, .sl 3 0 m cp3, .sl 4 0 o cp4]⟩, some ⟨false, [.ints .u8 n b]⟩, some ⟨false, [.ints .u8 m c]⟩, some ⟨false, [.ints .u8 o e]⟩]) | _, _, _ => none) gam17
theorem gam801_ok : GamOk Try.prog gam801 := gcall_ok tabOkKQ Try.func56 gam17_ok Try.call56 (by
  intro wk vs args p xs K1 h hv
  split at h
  · simp only [Option.some.injEq, Prod.mk.injEq] at h; obtain ⟨rfl, rfl, rfl⟩ := h; obtain ⟨g0, g1, g2, g3, g4, g5, g6⟩ := hv; subst g0; subst g1; subst g2; exact fun caps w rw β => stirT3_body _ _ _ _ _ _ _ _ _ _ _ _ _ g3 g4 g5 g6 w rw β
  · simp at h)

set_option maxHeartbeats 1000000 in
theorem newT3_body0 (n nm : Nat) (b : List Int) (m mm : Nat) (c : List Int) (o om : Nat) (e : List Int) (cap0 cap1 cap2 : Nat) (h0 : (nm = n)) (h1 : (mm = m)) (h2 : (om = o)) (h3 : (n < 8796093022208)) (h4 : (m < 8796093022208)) (h5 : (o < 8796093022208)) (h6 : (32 ≤ n)) (hc0 : n ≤ cap0) (hc1 : m ≤ cap1) (hc2 : o ≤ cap2) (hl0_0 : List.length b = nm) (hl1_0 : List.length c = mm) (hl2_0 : List.length e = om) (w : World) (rw : List Nat) (β : Env) : Body Try.prog (tabOf tabKR) Try.f21 ⟨w, rw, 3, β⟩ [.o (.a (.sl 0 0 n cap0)), .o (.a (.sl 1 0 m cap1)), .o (.a (.sl 2 0 o cap2))] [some ⟨false, [.ints .u8 nm b]⟩, some ⟨false, [.ints .u8 mm c]⟩, some ⟨false, [.ints .u8 om e]⟩] (fun ys K' => ys = [.a (.p 3 0), .a (.i .i64 (0 : Int))] ∧ K' = [some ⟨false, [.ints .u8 nm b]⟩, some ⟨false, [.ints .u8 mm c]⟩, some ⟨false, [.ints .u8 om e]⟩, some ⟨true, [.ints .u8 64 (nwK3 b c e), .ints .u8 64 (nwV3 b c e), .b true, .i .i64 (0 : Int)]⟩]) :=
  Body.of_finK (Γ := gam801) (Λ := noLam) (Ψ := noPsi) (fuel := 65) (m := 35) (c := (Try.f21.body.getD .skip)) mix tabOkKR gam801_ok rfl (rs := [.tmp 6, .tmp 7]) rfl rfl [false, true, true, true, true, true, true, true, true, true, true, true, true, true, true, true, true, true, true, true, true, true, true, true, true, true, true, true, true, true, true, true, true, true, true, true, true, true, true, true, true, true, true, true, true, true, true, true, true, true, true, true, true, true, true, true, true, true, true, true, true, true, true, true, true, false] [.eqB 3 (⟨true, [.ints .u8 64 (nwK3 b c e), .ints .u8 64 (nwV3 b c e), .b true, .i .i64 (0 : Int)]⟩)] 4
    (vc := [((some ⟨true, [.ints .u8 64 (stK3 (List.replicate 64 0) (List.replicate 64 1) b c e), .ints .u8 64 (stV3 (List.replicate 64 0) (List.replicate 64 1) b c e), .b true, .i .i64 (0 : Int)]⟩ : Option Blk) = some ⟨true, [.ints .u8 64 (nwK3 b c e), .ints .u8 64 (nwV3 b c e), .b true, .i .i64 (0 : Int)]⟩), ((True ∧ (True ∧ True)) ∧ ((nm = n) ∧ (mm = m) ∧ (om = o) ∧ (n < 8796093022208) ∧ (m < 8796093022208) ∧ (o < 8796093022208) ∧ (32 ≤ n))), (false = false), (cI 63 64), cT, (cI 62 64), cT, (cI 61 64), cT, (cI 60 64), cT, (cI 59 64), cT, (cI 58 64), cT, (cI 57 64), cT, (cI 56 64), cT, (cI 55 64), cT, (cI 54 64), cT, (cI 53 64), cT, (cI 52 64), cT, (cI 51 64), cT, (cI 50 64), cT, (cI 49 64), cT, (cI 48 64), cT, (cI 47 64), cT, (cI 46 64), cT, (cI 45 64), cT, (cI 44 64), cT, (cI 43 64), cT, (cI 42 64), cT, (cI 41 64), cT, (cI 40 64), cT, (cI 39 64), cT, (cI 38 64), cT, (cI 37 64), cT, (cI 36 64), cT, (cI 35 64), cT, (cI 34 64), cT, (cI 33 64), cT, (cI 32 64), cT, (cI 31 64), cT, (cI 30 64), cT, (cI 29 64), cT, (cI 28 64), cT, (cI 27 64), cT, (cI 26 64), cT, (cI 25 64), cT, (cI 24 64), cT, (cI 23 64), cT, (cI 22 64), cT, (cI 21 64), cT, (cI 20 64), cT, (cI 19 64), cT, (cI 18 64), cT, (cI 17 64), cT, (cI 16 64), cT, (cI 15 64), cT, (cI 14 64), cT, (cI 13 64), cT, (cI 12 64), cT, (cI 11 64), cT, (cI 10 64), cT, (cI 9 64), cT, (cI 8 64), cT, (cI 7 64), cT, (cI 6 64), cT, (cI 5 64), cT, (cI 4 64), cT, (cI 3 64), cT, (cI 2 64), cT, (cI 1 64), cT, (cI 0 64), cT, ((decide (((n : Nat) : Int) < (32 : Int))) = false)]) (by kernel_rfl)
    (aC (rfl) (aC ⟨⟨trivial, ⟨trivial, trivial⟩⟩, ⟨h0, h1, h2, h3, h4, h5, h6⟩⟩ (aC rfl (aC (dd rfl) (aC rfl (aC (dd rfl) (aC rfl (aC (dd rfl) (aC rfl (aC (dd rfl) (aC rfl (aC (dd rfl) (aC rfl (aC (dd rfl) (aC rfl (aC (dd rfl) (aC rfl (aC (dd rfl) (aC rfl (aC (dd rfl) (aC rfl (aC (dd rfl) (aC rfl (aC (dd rfl) (aC rfl (aC (dd rfl) (aC rfl (aC (dd rfl) (aC rfl (aC (dd rfl) (aC rfl (aC (dd rfl) (aC rfl (aC (dd rfl) (aC rfl (aC (dd rfl) (aC rfl (aC (dd rfl) (aC rfl (aC (dd rfl) (aC rfl (aC (dd rfl) (aC rfl (aC (dd rfl) (aC rfl (aC (dd rfl) (aC rfl (aC (dd rfl) (aC rfl (aC (dd rfl) (aC rfl (aC (dd rfl) (aC rfl (aC (dd rfl) (aC rfl (aC (dd rfl) (aC rfl (aC (dd rfl) (aC rfl (aC (dd rfl) (aC rfl (aC (dd rfl) (aC rfl (aC (dd rfl) (aC rfl (aC (dd rfl) (aC rfl (aC (dd rfl) (aC rfl (aC (dd rfl) (aC rfl (aC (dd rfl) (aC rfl (aC (dd rfl) (aC rfl (aC (dd rfl) (aC rfl (aC (dd rfl) (aC rfl (aC (dd rfl) (aC rfl (aC (dd rfl) (aC rfl (aC (dd rfl) (aC rfl (aC (dd rfl) (aC rfl (aC (dd rfl) (aC rfl (aC (dd rfl) (aC rfl (aC (dd rfl) (aC rfl (aC (dd rfl) (aC rfl (aC (dd rfl) (aC rfl (aC (dd rfl) (aC rfl (aC (dd rfl) (aC rfl (aC (dd rfl) (aC rfl (aC (dd rfl) (aC rfl (aC (dd rfl) (aC rfl (aC (dd rfl) (aC rfl (aC (dd rfl) (aC rfl (aC (dd rfl) (aC rfl (aC (dd rfl) (aC rfl (aC (dd rfl) (aC rfl (aC (dd rfl) (aC rfl (aC (dd rfl) (aC rfl (aC (dd rfl) (aC rfl (aC (dd rfl) (aC rfl (aC (dd rfl) (aC rfl (aC (dd rfl) (aC rfl (aC (dd rfl) (aC rfl (aC (decide_eq_false (by first|omega|(simp (disch:=omega) only [wrapI];omega))) (AllP_nil)))))))))))))))))))))))))))))))))))))))))))))))))))))))))))))))))))))))))))))))))))))))))))))))))))))))))))))))))))))))))))))))))))))

theorem newT3_body (n nm : Nat) (b : List Int) (m mm : Nat) (c : List Int) (o om : Nat) (e : List Int) (cap0 cap1 cap2 : Nat) (h0 : (nm = n)) (h1 : (mm = m)) (h2 : (om = o)) (h3 : (n < 8796093022208)) (h4 : (m < 8796093022208)) (h5 : (o < 8796093022208)) (h6 : (32 ≤ n)) (w : World) (rw : List Nat) (β : Env) : Body Try.prog (tabOf tabKR) Try.f21 ⟨w, rw, 3, β⟩ [.o (.a (.sl 0 0 n cap0)), .o (.a (.sl 1 0 m cap1)), .o (.a (.sl 2 0 o cap2))] [some ⟨false, [.ints .u8 nm b]⟩, some ⟨false, [.ints .u8 mm c]⟩, some ⟨false, [.ints .u8 om e]⟩] (fun ys K' => ys = [.a (.p 3 0), .a (.i .i64 (0 : Int))] ∧ K' = [some ⟨false, [.ints .u8 nm b]⟩, some ⟨false, [.ints .u8 mm c]⟩, some ⟨false, [.ints .u8 om e]⟩, some ⟨true, [.ints .u8 64 (nwK3 b c e), .ints .u8 64 (nwV3 b c e), .b true, .i .i64 (0 : Int)]⟩]) :=
  Body.lens (c := (Try.f21.body.getD .skip)) rfl fun h => newT3_body0 n nm b m mm c o om e cap0 cap1 cap2 h0 h1 h2 h3 h4 h5 h6 (h.caps 0 _ _ _ _ rfl) (h.caps 1 _ _ _ _ rfl) (h.caps 2 _ _ _ _ rfl) (h.lens 0 _ .u8 nm b rfl (by simp)) (h.lens 1 _ .u8 mm c rfl (by simp)) (h.lens 2 _ .u8 om e rfl (by simp)) w rw β

set_option maxHeartbeats 1000000 in
theorem newN3_body0 (n nm : Nat) (b : List Int) (m mm : Nat) (c : List Int) (o om : Nat) (e : List Int) (cap0 cap1 cap2 : Nat) (h0 : (nm = n)) (h1 : (mm = m)) (h2 : (om = o)) (h3 : (n < 8796093022208)) (h4 : (m < 8796093022208)) (h5 : (o < 8796093022208)) (h6 : (n < 32)) (hc0 : n ≤ cap0) (hc1 : m ≤ cap1) (hc2 : o ≤ cap2) (hl0_0 : List.length b = nm) (hl1_0 : List.length c = mm) (hl2_0 : List.length e = om) (w : World) (rw : List Nat) (β : Env) : Body Try.prog (tabOf tabKR) Try.f21 ⟨w, rw, 3, β⟩ [.o (.a (.sl 0 0 n cap0)), .o (.a (.sl 1 0 m cap1)), .o (.a (.sl 2 0 o cap2))] [some ⟨false, [.ints .u8 nm b]⟩, some ⟨false, [.ints .u8 mm c]⟩, some ⟨false, [.ints .u8 om e]⟩] (fun ys K' => ys = [.a (.raw (.pointer none)), .a (.i .i64 (111 : Int))] ∧ K' = [some ⟨false, [.ints .u8 nm b]⟩, some ⟨false, [.ints .u8 mm c]⟩, some ⟨false, [.ints .u8 om e]⟩]) :=
  Body.of_finK (Γ := gam801) (Λ := noLam) (Ψ := noPsi) (fuel := 0) (m := 35) (c := (Try.f21.body.getD .skip)) mix tabOkKR gam801_ok rfl (rs := [.tmp 6, .tmp 7]) rfl rfl [true] [] 3
    (vc := [((decide (((n : Nat) : Int) < (32 : Int))) = true)]) (by kernel_rfl)
    (aC (decide_eq_true (by first | omega | (simp (disch := omega) only [wrapI]; omega))) (AllP_nil))

theorem newN3_body (n nm : Nat) (b : List Int) (m mm : Nat) (c : List Int) (o om : Nat) (e : List Int) (cap0 cap1 cap2 : Nat) (h0 : (nm = n)) (h1 : (mm = m)) (h2 : (om = o)) (h3 : (n < 8796093022208)) (h4 : (m < 8796093022208)) (h5 : (o < 8796093022208)) (h6 : (n < 32)) (w : World) (rw : List Nat) (β : Env) : Body Try.prog (tabOf tabKR) Try.f21 ⟨w, rw, 3, β⟩ [.o (.a (.sl 0 0 n cap0)), .o (.a (.sl 1 0 m cap1)), .o (.a (.sl 2 0 o cap2))] [some ⟨false, [.ints .u8 nm b]⟩, some ⟨false, [.ints .u8 mm c]⟩, some ⟨false, [.ints .u8 om e]⟩] (fun ys K' => ys = [.a (.raw (.pointer none)), .a (.i .i64 (111 : Int))] ∧ K' = [some ⟨false, [.ints .u8 nm b]⟩, some ⟨false, [.ints .u8 mm c]⟩, some ⟨false, [.ints .u8 om e]⟩]) :=
  Body.lens (c := (Try.f21.body.getD .skip)) rfl fun h => newN3_body0 n nm b m mm c o om e cap0 cap1 cap2 h0 h1 h2 h3 h4 h5 h6 (h.caps 0 _ _ _ _ rfl) (h.caps 1 _ _ _ _ rfl) (h.caps 2 _ _ _ _ rfl) (h.lens 0 _ .u8 nm b rfl (by simp)) (h.lens 1 _ .u8 mm c rfl (by simp)) (h.lens 2 _ .u8 om e rfl (by simp)) w rw β

noncomputable def gam802 : Gam := gcall 56 [true, false, false, false] [.w, .w] (fun wk vs args => match wk, vs, args with | [⟨true, [.ints .u8 64 ky, .ints .u8 64 v, .b true, .i .i64 d]⟩, ⟨false, [.sl 2 0 n cp2, .sl 3 0 m cp3]⟩, ⟨false, [.ints .u8 n_1 b]⟩, ⟨false, [.ints .u8 m_1 c]⟩], [], [.o (.a (.p 0 0)), .o (.a (.sl 1 0 2 cp))] => some ((n_1 = n) ∧ (m_1 = m) ∧ (n < 8796093022208) ∧ (m < 8796093022208) ∧ (32 ≤ n), [], [some ⟨true, [.ints .u8 64 (stK2 ky v b c), .ints .u8 64 (stV2 ky v b c), .b true, .i .i64 d]⟩, some ⟨false, [.sl 2 0 n cp2, .sl 3 0 m cp3]⟩, some ⟨false, [.ints .u8 n b]⟩, some ⟨false, [.ints .u8 m c]⟩]) | _, _, _ => none) gam17
theorem gam802_ok : GamOk Try.prog gam802 := gcall_ok tabOkKQ Try.func56 gam17_ok Try.call56 (by
  intro wk vs args p xs K1 h hv
  split at h
  · simp only [Option.some.injEq, Prod.mk.injEq] at h; obtain ⟨rfl, rfl, rfl⟩ := h; obtain ⟨g0, g1, g2, g3, g4⟩ := hv; subst g0; subst g1; exact fun caps w rw β => stirT2_body _ _ _ _ _ _ _ _ _ _ g2 g3 g4 w rw β
  · simp at h)

set_option maxHeartbeats 1000000 in
theorem reseedTA_body0 (ky v : List Int) (d : Int) (n nm : Nat) (b : List Int) (m mm : Nat) (c : List Int) (cap1 cap2 : Nat) (h0 : (nm = n)) (h1 : (mm = m)) (h2 : (n < 8796093022208)) (h3 : (m < 8796093022208)) (hc1 : n ≤ cap1) (hc2 : m ≤ cap2) (hl0_0 : List.length ky = 64) (hl0_1 : List.length v = 64) (hl1_0 : List.length b = nm) (hl2_0 : List.length c = mm) (hs : n < 32) (w : World) (rw : List Nat) (β : Env) : Body Try.prog (tabOf tabKR) Try.f23 ⟨w, rw, 3, β⟩ [.o (.a (.p 0 0)), .o (.a (.sl 1 0 n cap1)), .o (.a (.sl 2 0 m cap2))] [some ⟨true, [.ints .u8 64 ky, .ints .u8 64 v, .b true, .i .i64 d]⟩, some ⟨false, [.ints .u8 nm b]⟩, some ⟨false, [.ints .u8 mm c]⟩] (fun ys K' => ys = [.a (.i .i64 (rsE n))] ∧ K' = [some ⟨true, [.ints .u8 64 (rsK2 n ky v b c), .ints .u8 64 (rsV2 n ky v b c), .b true, .i .i64 (rsD n d)]⟩, some ⟨false, [.ints .u8 nm b]⟩, some ⟨false, [.ints .u8 mm c]⟩]) :=
  Body.of_finK (Γ := gam802) (Λ := noLam) (Ψ := noPsi) (fuel := 0) (m := 22) (c := (Try.f23.body.getD .skip)) mix tabOkKR gam802_ok rfl (rs := [.tmp 6]) rfl rfl [false, true] [.eqB 0 (⟨true, [.ints .u8 64 (rsK2 n ky v b c), .ints .u8 64 (rsV2 n ky v b c), .b true, .i .i64 (rsD n d)]⟩), .eqS 6 (.o (.a (.i .i64 (rsE n))))] 3
    (vc := [((.o (.a (.i .i64 (111 : Int))) : AV) = .o (.a (.i .i64 (rsE n)))), ((some ⟨true, [.ints .u8 64 ky, .ints .u8 64 v, .b true, .i .i64 d]⟩ : Option Blk) = some ⟨true, [.ints .u8 64 (rsK2 n ky v b c), .ints .u8 64 (rsV2 n ky v b c), .b true, .i .i64 (rsD n d)]⟩), ((decide (((n : Nat) : Int) < (32 : Int))) = true), (false = false)]) (by kernel_rfl)
    (aC ((by unfold rsE; rw [show decide (n < 32) = true from decide_eq_true (by omega)]; rfl)) (aC ((by unfold rsK2 rsV2 rsK rsV rsD; rw [show decide (n < 32) = true from decide_eq_true (by omega)]; rfl)) (aC (decide_eq_true (by first|omega|(simp (disch:=omega) only [wrapI];omega))) (aC rfl (AllP_nil)))))

set_option maxHeartbeats 1000000 in
theorem reseedTB_body0 (ky v : List Int) (d : Int) (n nm : Nat) (b : List Int) (m mm : Nat) (c : List Int) (cap1 cap2 : Nat) (h0 : (nm = n)) (h1 : (mm = m)) (h2 : (n < 8796093022208)) (h3 : (m < 8796093022208)) (hc1 : n ≤ cap1) (hc2 : m ≤ cap2) (hl0_0 : List.length ky = 64) (hl0_1 : List.length v = 64) (hl1_0 : List.length b = nm) (hl2_0 : List.length c = mm) (hs : 32 ≤ n) (w : World) (rw : List Nat) (β : Env) : Body Try.prog (tabOf tabKR) Try.f23 ⟨w, rw, 3, β⟩ [.o (.a (.p 0 0)), .o (.a (.sl 1 0 n cap1)), .o (.a (.sl 2 0 m cap2))] [some ⟨true, [.ints .u8 64 ky, .ints .u8 64 v, .b true, .i .i64 d]⟩, some ⟨false, [.ints .u8 nm b]⟩, some ⟨false, [.ints .u8 mm c]⟩] (fun ys K' => ys = [.a (.i .i64 (rsE n))] ∧ K' = [some ⟨true, [.ints .u8 64 (rsK2 n ky v b c), .ints .u8 64 (rsV2 n ky v b c), .b true, .i .i64 (rsD n d)]⟩, some ⟨false, [.ints .u8 nm b]⟩, some ⟨false, [.ints .u8 mm c]⟩]) :=
  Body.of_finK (Γ := gam802) (Λ := noLam) (Ψ := noPsi) (fuel := 0) (m := 22) (c := (Try.f23.body.getD .skip)) mix tabOkKR gam802_ok rfl (rs := [.tmp 6]) rfl rfl [false, false] [.eqB 0 (⟨true, [.ints .u8 64 (rsK2 n ky v b c), .ints .u8 64 (rsV2 n ky v b c), .b true, .i .i64 (rsD n d)]⟩), .eqS 6 (.o (.a (.i .i64 (rsE n))))] 3
    (vc := [((.o (.a (.i .i64 (0 : Int))) : AV) = .o (.a (.i .i64 (rsE n)))), ((some ⟨true, [.ints .u8 64 (stK2 ky v b c), .ints .u8 64 (stV2 ky v b c), .b true, .i .i64 (0 : Int)]⟩ : Option Blk) = some ⟨true, [.ints .u8 64 (rsK2 n ky v b c), .ints .u8 64 (rsV2 n ky v b c), .b true, .i .i64 (rsD n d)]⟩), ((True ∧ (True ∧ True)) ∧ ((nm = n) ∧ (mm = m) ∧ (n < 8796093022208) ∧ (m < 8796093022208) ∧ (32 ≤ n))), ((decide (((n : Nat) : Int) < (32 : Int))) = false), (false = false)]) (by kernel_rfl)
    (aC ((by unfold rsE; rw [show decide (n < 32) = false from decide_eq_false (by omega)]; rfl)) (aC ((by unfold rsK2 rsV2 rsK rsV rsD; rw [show decide (n < 32) = false from decide_eq_false (by omega)]; rfl)) (aC ⟨⟨trivial, ⟨trivial, trivial⟩⟩, ⟨h0, h1, h2, h3, (by first|omega|(simp (disch:=omega) only [wrapI];omega))⟩⟩ (aC (decide_eq_false (by first|omega|(simp (disch:=omega) only [wrapI];omega))) (aC rfl (AllP_nil))))))

theorem reseedT_body (ky v : List Int) (d : Int) (n nm : Nat) (b : List Int) (m mm : Nat) (c : List Int) (cap1 cap2 : Nat) (h0 : (nm = n)) (h1 : (mm = m)) (h2 : (n < 8796093022208)) (h3 : (m < 8796093022208)) (w : World) (rw : List Nat) (β : Env) : Body Try.prog (tabOf tabKR) Try.f23 ⟨w, rw, 3, β⟩ [.o (.a (.p 0 0)), .o (.a (.sl 1 0 n cap1)), .o (.a (.sl 2 0 m cap2))] [some ⟨true, [.ints .u8 64 ky, .ints .u8 64 v, .b true, .i .i64 d]⟩, some ⟨false, [.ints .u8 nm b]⟩, some ⟨false, [.ints .u8 mm c]⟩] (fun ys K' => ys = [.a (.i .i64 (rsE n))] ∧ K' = [some ⟨true, [.ints .u8 64 (rsK2 n ky v b c), .ints .u8 64 (rsV2 n ky v b c), .b true, .i .i64 (rsD n d)]⟩, some ⟨false, [.ints .u8 nm b]⟩, some ⟨false, [.ints .u8 mm c]⟩]) :=
  Body.lens (c := (Try.f23.body.getD .skip)) rfl fun h => by
  by_cases hs : n < 32
  · exact reseedTA_body0 ky v d n nm b m mm c cap1 cap2 h0 h1 h2 h3 (h.caps 1 _ _ _ _ rfl) (h.caps 2 _ _ _ _ rfl) (h.lens 0 _ .u8 64 ky rfl (by simp)) (h.lens 0 _ .u8 64 v rfl (by simp)) (h.lens 1 _ .u8 nm b rfl (by simp)) (h.lens 2 _ .u8 mm c rfl (by simp)) hs w rw β
  · exact reseedTB_body0 ky v d n nm b m mm c cap1 cap2 h0 h1 h2 h3 (h.caps 1 _ _ _ _ rfl) (h.caps 2 _ _ _ _ rfl) (h.lens 0 _ .u8 64 ky rfl (by simp)) (h.lens 0 _ .u8 64 v rfl (by simp)) (h.lens 1 _ .u8 nm b rfl (by simp)) (h.lens 2 _ .u8 mm c rfl (by simp)) (by omega) w rw β

noncomputable def gam803 : Gam := gcall 22 [true] [.w, .w, .w] (fun wk vs args => match wk, vs, args with | [⟨true, [.ints .u8 64 ky, .ints .u8 64 v, .b true, .i .i64 d]⟩], [], [.o (.a (.p 0 0)), .o (.a (.i .i64 N)), .o (.a (.raw (.slice none 0 0)))] => some (True, [.a (.rs 1 0 (drN N d) 1), .a (.i .i64 (drE N d))], [some ⟨true, [.ints .u8 64 (drK0 N d ky v), .ints .u8 64 (drV0 N d ky v), .b true, .i .i64 (drD N d)]⟩, some ⟨true, [.ints .u8 (drM N d) (drO0 N d ky v)]⟩]) | _, _, _ => none) gam17
theorem gam803_ok : GamOk Try.prog gam803 := gcall_ok tabOkDJ Try.func22 gam17_ok Try.call22 (by
  intro wk vs args p xs K1 h hv
  split at h
  · simp only [Option.some.injEq, Prod.mk.injEq] at h; obtain ⟨rfl, rfl, rfl⟩ := h; exact fun caps w rw β => drawN_body _ _ _ _ w rw β
  · simp at h)

set_option maxHeartbeats 1000000 in
theorem randomA_body0 (ky v : List Int) (d : Int) (hl0_0 : List.length ky = 64) (hl0_1 : List.length v = 64) (hd : d < 4096) (w : World) (rw : List Nat) (β : Env) : Body Try.prog (tabOf tabKR) Try.f28 ⟨w, rw, 1, β⟩ [.o (.a (.p 0 0))] [some ⟨true, [.ints .u8 64 ky, .ints .u8 64 v, .b true, .i .i64 d]⟩] (fun ys K' => ys = [.g [.ints .u8 32 (rdA d ky v)], .a (.i .i64 (rdE d))] ∧ K' = [some ⟨true, [.ints .u8 64 (rnK d ky v), .ints .u8 64 (rnV d ky v), .b true, .i .i64 (rnD d)]⟩]) :=
  Body.of_finK (Γ := gam803) (Λ := noLam) (Ψ := psiOf [(1, [.eqS 4 (.o (.a (.rs 2 0 32 1))), .eqS 5 (.o (.a (.i .i64 (0 : Int)))), .eqB 2 (⟨true, [.ints .u8 64 (drO0 (32 : Int) d ky v)]⟩), .eqB 0 (⟨true, [.ints .u8 64 (rnK d ky v), .ints .u8 64 (rnV d ky v), .b true, .i .i64 (rnD d)]⟩)])]) (fuel := 0) (m := 18) (c := (Try.f28.body.getD .skip)) mix tabOkKR gam803_ok rfl (rs := [.cell 2 72, .tmp 3]) rfl rfl [false] [.eqB 1 (⟨true, [.ints .u8 32 (rdA d ky v)]⟩), .eqS 3 (.o (.a (.i .i64 (rdE d))))] 1
    (vc := [((.o (.a (.i .i64 (0 : Int))) : AV) = .o (.a (.i .i64 (rdE d)))), ((some ⟨true, [.ints .u8 32 (sub (drO0 (32 : Int) d ky v) 0 32)]⟩ : Option Blk) = some ⟨true, [.ints .u8 32 (rdA d ky v)]⟩), (32 ≤ 64), (32 ≤ 32), (false = false), ((some ⟨true, [.ints .u8 64 (drK0 (32 : Int) d ky v), .ints .u8 64 (drV0 (32 : Int) d ky v), .b true, .i .i64 (drD (32 : Int) d)]⟩ : Option Blk) = some ⟨true, [.ints .u8 64 (rnK d ky v), .ints .u8 64 (rnV d ky v), .b true, .i .i64 (rnD d)]⟩), ((some ⟨true, [.ints .u8 (drM (32 : Int) d) (drO0 (32 : Int) d ky v)]⟩ : Option Blk) = some ⟨true, [.ints .u8 64 (drO0 (32 : Int) d ky v)]⟩), ((.o (.a (.i .i64 (drE (32 : Int) d))) : AV) = .o (.a (.i .i64 (0 : Int)))), ((.o (.a (.rs 2 0 (drN (32 : Int) d) 1)) : AV) = .o (.a (.rs 2 0 32 1))), ((True ∧ (True ∧ (True ∧ True))) ∧ True)]) (by kernel_rfl)
    (aC ((congrArg (fun z => AV.o (.a (.i .i64 z))) (by unfold rdE; rw [drE32 hd]))) (aC ((by first | (rw [rdA_ok hd]; rfl) | rw [rdA_ok hd])) (aC (dd rfl) (aC (dd rfl) (aC rfl (aC (rfl) (aC ((by rw [drM32 hd])) (aC ((by rw [drE32 hd])) (aC ((by rw [drN32 hd])) (aC ⟨⟨trivial, ⟨trivial, ⟨trivial, trivial⟩⟩⟩, trivial⟩ (AllP_nil)))))))))))

noncomputable def gam804 : Gam := gcall 22 [true] [.w, .w, .w] (fun wk vs args => match wk, vs, args with | [⟨true, [.ints .u8 64 ky, .ints .u8 64 v, .b true, .i .i64 d]⟩], [], [.o (.a (.p 0 0)), .o (.a (.i .i64 N)), .o (.a (.raw (.slice none 0 0)))] => some (True, [.a (.rs 1 0 (drN N d) 1), .a (.i .i64 (drE N d))], [some ⟨true, [.ints .u8 64 (drK0 N d ky v), .ints .u8 64 (drV0 N d ky v), .b true, .i .i64 (drD N d)]⟩, some ⟨true, [.ints .u8 (drM N d) (drO0 N d ky v)]⟩]) | _, _, _ => none) gam17
theorem gam804_ok : GamOk Try.prog gam804 := gcall_ok tabOkDJ Try.func22 gam17_ok Try.call22 (by
  intro wk vs args p xs K1 h hv
  split at h
  · simp only [Option.some.injEq, Prod.mk.injEq] at h; obtain ⟨rfl, rfl, rfl⟩ := h; exact fun caps w rw β => drawN_body _ _ _ _ w rw β
  · simp at h)

set_option maxHeartbeats 1000000 in
theorem randomB_body0 (ky v : List Int) (d : Int) (hl0_0 : List.length ky = 64) (hl0_1 : List.length v = 64) (hd : ¬ d < 4096) (w : World) (rw : List Nat) (β : Env) : Body Try.prog (tabOf tabKR) Try.f28 ⟨w, rw, 1, β⟩ [.o (.a (.p 0 0))] [some ⟨true, [.ints .u8 64 ky, .ints .u8 64 v, .b true, .i .i64 d]⟩] (fun ys K' => ys = [.g [.ints .u8 32 (rdA d ky v)], .a (.i .i64 (rdE d))] ∧ K' = [some ⟨true, [.ints .u8 64 (rnK d ky v), .ints .u8 64 (rnV d ky v), .b true, .i .i64 (rnD d)]⟩]) :=
  Body.of_finK (Γ := gam804) (Λ := noLam) (Ψ := psiOf [(1, [.eqS 4 (.o (.a (.rs 2 0 0 1))), .eqS 5 (.o (.a (.i .i64 (112 : Int)))), .eqB 2 (⟨true, [.ints .u8 0 ([] : List Int)]⟩), .eqB 0 (⟨true, [.ints .u8 64 (rnK d ky v), .ints .u8 64 (rnV d ky v), .b true, .i .i64 (rnD d)]⟩)])]) (fuel := 0) (m := 18) (c := (Try.f28.body.getD .skip)) mix tabOkKR gam804_ok rfl (rs := [.cell 2 72, .tmp 3]) rfl rfl [true] [.eqB 1 (⟨true, [.ints .u8 32 (rdA d ky v)]⟩), .eqS 3 (.o (.a (.i .i64 (rdE d))))] 1
    (vc := [((.o (.a (.i .i64 (112 : Int))) : AV) = .o (.a (.i .i64 (rdE d)))), ((some ⟨true, [.ints .u8 32 ([0, 0, 0, 0, 0, 0, 0, 0, 0, 0, 0, 0, 0, 0, 0, 0, 0, 0, 0, 0, 0, 0, 0, 0, 0, 0, 0, 0, 0, 0, 0, 0] : List Int)]⟩ : Option Blk) = some ⟨true, [.ints .u8 32 (rdA d ky v)]⟩), cT, ((some ⟨true, [.ints .u8 64 (drK0 (32 : Int) d ky v), .ints .u8 64 (drV0 (32 : Int) d ky v), .b true, .i .i64 (drD (32 : Int) d)]⟩ : Option Blk) = some ⟨true, [.ints .u8 64 (rnK d ky v), .ints .u8 64 (rnV d ky v), .b true, .i .i64 (rnD d)]⟩), ((some ⟨true, [.ints .u8 (drM (32 : Int) d) (drO0 (32 : Int) d ky v)]⟩ : Option Blk) = some ⟨true, [.ints .u8 0 ([] : List Int)]⟩), ((.o (.a (.i .i64 (drE (32 : Int) d))) : AV) = .o (.a (.i .i64 (112 : Int)))), ((.o (.a (.rs 2 0 (drN (32 : Int) d) 1)) : AV) = .o (.a (.rs 2 0 0 1))), ((True ∧ (True ∧ (True ∧ True))) ∧ True)]) (by kernel_rfl)
    (aC ((congrArg (fun z => AV.o (.a (.i .i64 z))) (by unfold rdE; rw [drE32b hd]))) (aC ((by first | (rw [rdA_bad hd]; rfl) | rw [rdA_bad hd])) (aC rfl (aC (rfl) (aC ((by rw [drM32b hd, drO32b hd])) (aC ((by rw [drE32b hd])) (aC ((by rw [drN32b hd])) (aC ⟨⟨trivial, ⟨trivial, ⟨trivial, trivial⟩⟩⟩, trivial⟩ (AllP_nil)))))))))

theorem random_body (ky v : List Int) (d : Int) (w : World) (rw : List Nat) (β : Env) : Body Try.prog (tabOf tabKR) Try.f28 ⟨w, rw, 1, β⟩ [.o (.a (.p 0 0))] [some ⟨true, [.ints .u8 64 ky, .ints .u8 64 v, .b true, .i .i64 d]⟩] (fun ys K' => ys = [.g [.ints .u8 32 (rdA d ky v)], .a (.i .i64 (rdE d))] ∧ K' = [some ⟨true, [.ints .u8 64 (rnK d ky v), .ints .u8 64 (rnV d ky v), .b true, .i .i64 (rnD d)]⟩]) :=
  Body.lens (c := (Try.f28.body.getD .skip)) rfl fun h => by
  by_cases hd : d < 4096
  · exact randomA_body0 ky v d (h.lens 0 _ .u8 (64 : Nat) ky rfl (by simp)) (h.lens 0 _ .u8 (64 : Nat) v rfl (by simp)) hd w rw β
  · exact randomB_body0 ky v d (h.lens 0 _ .u8 (64 : Nat) ky rfl (by simp)) (h.lens 0 _ .u8 (64 : Nat) v rfl (by simp)) hd w rw β

noncomputable def gam805 : Gam := gcall 26 [true] [.w, .w, .w] (fun wk vs args => match wk, vs, args with | [⟨true, [.ints .u8 64 ky, .ints .u8 64 v, .i .i64 d]⟩], [], [.o (.a (.p 0 0)), .o (.a (.i .i64 N)), .o (.a (.raw (.slice none 0 0)))] => some (True, [.a (.rs 1 0 (drN N d) 1), .a (.i .i64 (drE N d))], [some ⟨true, [.ints .u8 64 (drK0 N d ky v), .ints .u8 64 (drV0 N d ky v), .i .i64 (drD N d)]⟩, some ⟨true, [.ints .u8 (drM N d) (drO0 N d ky v)]⟩]) | _, _, _ => none) gam306
theorem gam805_ok : GamOk Try.prog gam805 := gcall_ok tabOkKP Try.func26 gam306_ok Try.call26 (by
  intro wk vs args p xs K1 h hv
  split at h
  · simp only [Option.some.injEq, Prod.mk.injEq] at h; obtain ⟨rfl, rfl, rfl⟩ := h; exact fun caps w rw β => rdrawN_body _ _ _ _ w rw β
  · simp at h)

set_option maxHeartbeats 1000000 in
theorem rrandomA_body0 (ky v : List Int) (d : Int) (hl0_0 : List.length ky = 64) (hl0_1 : List.length v = 64) (hd : d < 4096) (w : World) (rw : List Nat) (β : Env) : Body Try.prog (tabOf tabKR) Try.f29 ⟨w, rw, 1, β⟩ [.o (.a (.p 0 0))] [some ⟨true, [.ints .u8 64 ky, .ints .u8 64 v, .i .i64 d]⟩] (fun ys K' => ys = [.g [.ints .u8 32 (rdA d ky v)], .a (.i .i64 (rdE d))] ∧ K' = [some ⟨true, [.ints .u8 64 (rnK d ky v), .ints .u8 64 (rnV d ky v), .i .i64 (rnD d)]⟩]) :=
  Body.of_finK (Γ := gam805) (Λ := noLam) (Ψ := psiOf [(1, [.eqS 4 (.o (.a (.rs 2 0 32 1))), .eqS 5 (.o (.a (.i .i64 (0 : Int)))), .eqB 2 (⟨true, [.ints .u8 64 (drO0 (32 : Int) d ky v)]⟩), .eqB 0 (⟨true, [.ints .u8 64 (rnK d ky v), .ints .u8 64 (rnV d ky v), .i .i64 (rnD d)]⟩)])]) (fuel := 0) (m := 17) (c := (Try.f29.body.getD .skip)) mix tabOkKR gam805_ok rfl (rs := [.cell 2 72, .tmp 3]) rfl rfl [] [.eqB 1 (⟨true, [.ints .u8 32 (rdA d ky v)]⟩), .eqS 3 (.o (.a (.i .i64 (rdE d))))] 1
    (vc := [((.o (.a (.i .i64 (0 : Int))) : AV) = .o (.a (.i .i64 (rdE d)))), ((some ⟨true, [.ints .u8 32 (splice ([0, 0, 0, 0, 0, 0, 0, 0, 0, 0, 0, 0, 0, 0, 0, 0, 0, 0, 0, 0, 0, 0, 0, 0, 0, 0, 0, 0, 0, 0, 0, 0] : List Int) 0 32 (sub (drO0 (32 : Int) d ky v) 0 32))]⟩ : Option Blk) = some ⟨true, [.ints .u8 32 (rdA d ky v)]⟩), (((32 ≤ 32) ∧ (32 ≤ 64)) ∧ (okP (some (32 ≤ 32)))), ((cZ 0) ∧ (cZ 32)), ((some ⟨true, [.ints .u8 64 (drK0 (32 : Int) d ky v), .ints .u8 64 (drV0 (32 : Int) d ky v), .i .i64 (drD (32 : Int) d)]⟩ : Option Blk) = some ⟨true, [.ints .u8 64 (rnK d ky v), .ints .u8 64 (rnV d ky v), .i .i64 (rnD d)]⟩), ((some ⟨true, [.ints .u8 (drM (32 : Int) d) (drO0 (32 : Int) d ky v)]⟩ : Option Blk) = some ⟨true, [.ints .u8 64 (drO0 (32 : Int) d ky v)]⟩), ((.o (.a (.i .i64 (drE (32 : Int) d))) : AV) = .o (.a (.i .i64 (0 : Int)))), ((.o (.a (.rs 2 0 (drN (32 : Int) d) 1)) : AV) = .o (.a (.rs 2 0 32 1))), ((True ∧ (True ∧ (True ∧ True))) ∧ True)]) (by kernel_rfl)
    (aC ((congrArg (fun z => AV.o (.a (.i .i64 z))) (by unfold rdE; rw [drE32 hd]))) (aC ((by rw [rdA_ok hd, rd_splice])) (aC ⟨(dd rfl), (show (32 ≤ 32) from (dd rfl))⟩ (aC (dd rfl) (aC (rfl) (aC ((by rw [drM32 hd])) (aC ((by rw [drE32 hd])) (aC ((by rw [drN32 hd])) (aC ⟨⟨trivial, ⟨trivial, ⟨trivial, trivial⟩⟩⟩, trivial⟩ (AllP_nil))))))))))

noncomputable def gam806 : Gam := gcall 26 [true] [.w, .w, .w] (fun wk vs args => match wk, vs, args with | [⟨true, [.ints .u8 64 ky, .ints .u8 64 v, .i .i64 d]⟩], [], [.o (.a (.p 0 0)), .o (.a (.i .i64 N)), .o (.a (.raw (.slice none 0 0)))] => some (True, [.a (.rs 1 0 (drN N d) 1), .a (.i .i64 (drE N d))], [some ⟨true, [.ints .u8 64 (drK0 N d ky v), .ints .u8 64 (drV0 N d ky v), .i .i64 (drD N d)]⟩, some ⟨true, [.ints .u8 (drM N d) (drO0 N d ky v)]⟩]) | _, _, _ => none) gam306
theorem gam806_ok : GamOk Try.prog gam806 := gcall_ok tabOkKP Try.func26 gam306_ok Try.call26 (by
  intro wk vs args p xs K1 h hv
  split at h
  · simp only [Option.some.injEq, Prod.mk.injEq] at h; obtain ⟨rfl, rfl, rfl⟩ := h; exact fun caps w rw β => rdrawN_body _ _ _ _ w rw β
  · simp at h)

set_option maxHeartbeats 1000000 in
theorem rrandomB_body0 (ky v : List Int) (d : Int) (hl0_0 : List.length ky = 64) (hl0_1 : List.length v = 64) (hd : ¬ d < 4096) (w : World) (rw : List Nat) (β : Env) : Body Try.prog (tabOf tabKR) Try.f29 ⟨w, rw, 1, β⟩ [.o (.a (.p 0 0))] [some ⟨true, [.ints .u8 64 ky, .ints .u8 64 v, .i .i64 d]⟩] (fun ys K' => ys = [.g [.ints .u8 32 (rdA d ky v)], .a (.i .i64 (rdE d))] ∧ K' = [some ⟨true, [.ints .u8 64 (rnK d ky v), .ints .u8 64 (rnV d ky v), .i .i64 (rnD d)]⟩]) :=
  Body.of_finK (Γ := gam806) (Λ := noLam) (Ψ := psiOf [(1, [.eqS 4 (.o (.a (.rs 2 0 0 1))), .eqS 5 (.o (.a (.i .i64 (112 : Int)))), .eqB 2 (⟨true, [.ints .u8 0 ([] : List Int)]⟩), .eqB 0 (⟨true, [.ints .u8 64 (rnK d ky v), .ints .u8 64 (rnV d ky v), .i .i64 (rnD d)]⟩)])]) (fuel := 0) (m := 17) (c := (Try.f29.body.getD .skip)) mix tabOkKR gam806_ok rfl (rs := [.cell 2 72, .tmp 3]) rfl rfl [] [.eqB 1 (⟨true, [.ints .u8 32 (rdA d ky v)]⟩), .eqS 3 (.o (.a (.i .i64 (rdE d))))] 1
    (vc := [((.o (.a (.i .i64 (112 : Int))) : AV) = .o (.a (.i .i64 (rdE d)))), ((some ⟨true, [.ints .u8 32 ([0, 0, 0, 0, 0, 0, 0, 0, 0, 0, 0, 0, 0, 0, 0, 0, 0, 0, 0, 0, 0, 0, 0, 0, 0, 0, 0, 0, 0, 0, 0, 0] : List Int)]⟩ : Option Blk) = some ⟨true, [.ints .u8 32 (rdA d ky v)]⟩), (((0 ≤ 0) ∧ (0 ≤ 0)) ∧ (okP (some (0 ≤ 32)))), ((cZ 0) ∧ (cZ 32)), ((some ⟨true, [.ints .u8 64 (drK0 (32 : Int) d ky v), .ints .u8 64 (drV0 (32 : Int) d ky v), .i .i64 (drD (32 : Int) d)]⟩ : Option Blk) = some ⟨true, [.ints .u8 64 (rnK d ky v), .ints .u8 64 (rnV d ky v), .i .i64 (rnD d)]⟩), ((some ⟨true, [.ints .u8 (drM (32 : Int) d) (drO0 (32 : Int) d ky v)]⟩ : Option Blk) = some ⟨true, [.ints .u8 0 ([] : List Int)]⟩), ((.o (.a (.i .i64 (drE (32 : Int) d))) : AV) = .o (.a (.i .i64 (112 : Int)))), ((.o (.a (.rs 2 0 (drN (32 : Int) d) 1)) : AV) = .o (.a (.rs 2 0 0 1))), ((True ∧ (True ∧ (True ∧ True))) ∧ True)]) (by kernel_rfl)
    (aC ((congrArg (fun z => AV.o (.a (.i .i64 z))) (by unfold rdE; rw [drE32b hd]))) (aC ((by first | (rw [rdA_bad hd]; rfl) | rw [rdA_bad hd])) (aC ⟨(dd rfl), (show (0 ≤ 32) from (dd rfl))⟩ (aC (dd rfl) (aC (rfl) (aC ((by rw [drM32b hd, drO32b hd])) (aC ((by rw [drE32b hd])) (aC ((by rw [drN32b hd])) (aC ⟨⟨trivial, ⟨trivial, ⟨trivial, trivial⟩⟩⟩, trivial⟩ (AllP_nil))))))))))

theorem rrandom_body (ky v : List Int) (d : Int) (w : World) (rw : List Nat) (β : Env) : Body Try.prog (tabOf tabKR) Try.f29 ⟨w, rw, 1, β⟩ [.o (.a (.p 0 0))] [some ⟨true, [.ints .u8 64 ky, .ints .u8 64 v, .i .i64 d]⟩] (fun ys K' => ys = [.g [.ints .u8 32 (rdA d ky v)], .a (.i .i64 (rdE d))] ∧ K' = [some ⟨true, [.ints .u8 64 (rnK d ky v), .ints .u8 64 (rnV d ky v), .i .i64 (rnD d)]⟩]) :=
  Body.lens (c := (Try.f29.body.getD .skip)) rfl fun h => by
  by_cases hd : d < 4096
  · exact rrandomA_body0 ky v d (h.lens 0 _ .u8 (64 : Nat) ky rfl (by simp)) (h.lens 0 _ .u8 (64 : Nat) v rfl (by simp)) hd w rw β
  · exact rrandomB_body0 ky v d (h.lens 0 _ .u8 (64 : Nat) ky rfl (by simp)) (h.lens 0 _ .u8 (64 : Nat) v rfl (by simp)) hd w rw β

end Go.Proofs.Ytlmdhjojinkdbaa.X

/- Families that a loop makes, told for the loop's block alone; what a family says to those that read it. -/
namespace Go.Proofs.Ytlmdhjojinkdbaa.X
open Go Go.Proofs
set_option linter.unusedVariables false

def fstC : Code → Code
  | .seq a _ => a
  | c => c
def sndC : Code → Code
  | .seq _ b => b
  | c => c

theorem Run.famQ {P : Program} {σ : Type} {c : Code} {id : Nat} (mk : Nat → σ → St) (Inv : World → List Nat → Nat → σ → Prop) (n kk : Nat)
    (hround : ∀ w rw β0 k s, k < n → Inv w rw k s → Run P ⟨w, rw, kk, β0⟩ c (mk k s) (fun e md => e = .normal ∧
      ∀ β a' w', Rel ⟨w, rw, kk, β0⟩ β md a' w' → ∃ β' s', Rel ⟨w, rw, kk, β0⟩ β' (mk (k + 1) s') a' w' ∧ Inv w' (ownBlks β' (mk (k + 1) s').K) (k + 1) s'))
    (hlast : ∀ w rw β0 s, Inv w rw n s → Run P ⟨w, rw, kk, β0⟩ c (mk n s) (To ⟨w, rw, kk, β0⟩ (.exit id) (mk n s)))
    {w0 : World} {rw0 : List Nat} {β0 : Env} {s0 : σ} (h0 : Inv w0 rw0 0 s0) {β : Env} {a : Act} {w : World} (hR : Rel ⟨w0, rw0, kk, β0⟩ β (mk 0 s0) a w) {Q : Exit → Act → World → Prop}
    (hQ : ∀ w1 rw1 β1 s β a w, Inv w1 rw1 n s → Rel ⟨w1, rw1, kk, β1⟩ β (mk n s) a w →
        (∀ β' st' a' w', Rel ⟨w1, rw1, kk, β1⟩ β' st' a' w' → Rel ⟨w0, rw0, kk, β0⟩ β' st' a' w') → Q .normal a w) : (Code.block id (.loop c)).wp P Q a w := by
  have key : ∀ Q1 : Exit → Act → World → Prop, (∀ w1 rw1 β1 s β a w, Inv w1 rw1 n s → Rel ⟨w1, rw1, kk, β1⟩ β (mk n s) a w →
        (∀ β' st' a' w', Rel ⟨w1, rw1, kk, β1⟩ β' st' a' w' → Rel ⟨w0, rw0, kk, β0⟩ β' st' a' w') → Q1 (.exit id) a w) → ∀ m k, k + m = n → ∀ w1 rw1 β1 s β a w, Inv w1 rw1 k s → Rel ⟨w1, rw1, kk, β1⟩ β (mk k s) a w →
      (∀ β' st' a' w', Rel ⟨w1, rw1, kk, β1⟩ β' st' a' w' → Rel ⟨w0, rw0, kk, β0⟩ β' st' a' w') → Code.rounds P c Q1 (m + 1) a w := by
    intro Q1 hQ1 m
    induction m with
    | zero =>
      intro k hk w1 rw1 β1 s β a w hi hR hback
      have : k = n := by omega
      subst this
      rw [rounds_succ]
      refine hlast w1 rw1 β1 s hi β a w hR _ fun e st' β' a' w' hp hR' => ?_
      obtain ⟨rfl, hw⟩ := hp
      obtain ⟨β2, hR2⟩ := hw β' a' w' hR'
      exact hQ1 w1 rw1 β1 s β2 a' w' hi hR2 hback
    | succ m ih =>
      intro k hk w1 rw1 β1 s β a w hi hR hback
      rw [rounds_succ]
      refine hround w1 rw1 β1 k s (by omega) hi β a w hR _ fun e st' β' a' w' hp hR' => ?_
      obtain ⟨rfl, hconv⟩ := hp
      obtain ⟨β3, s', hR3, hi'⟩ := hconv β' a' w' hR'
      exact ih (k + 1) (by omega) w' (ownBlks β3 (mk (k + 1) s').K) β3 s' β3 a' w' hi' hR3.anew fun β' st' a'' w'' h => hback _ _ _ _ (hR3.back h)
  refine wp_block (wp_loop_rounds (n + 1) (key _ ?_ n 0 (by omega) w0 rw0 β0 s0 β a w h0 hR fun _ _ _ _ h => h))
  intro w1 rw1 β1 s β2 a' w' hi hR2 hback
  show (if id = id then _ else _)
  rw [if_pos rfl]
  exact hQ w1 rw1 β1 s β2 a' w' hi hR2 hback

/-- what stands ahead of the loop, the loop, the rest -/
theorem Run.famPre {P : Program} {σ : Type} {pre c rest : Code} {id : Nat} {post : Ex → St → Prop} (mk : Nat → σ → St) (Inv : World → List Nat → Nat → σ → Prop) (n kk : Nat)
    (hround : ∀ w rw β0 k s, k < n → Inv w rw k s → Run P ⟨w, rw, kk, β0⟩ c (mk k s) (fun e md => e = .normal ∧
      ∀ β a' w', Rel ⟨w, rw, kk, β0⟩ β md a' w' → ∃ β' s', Rel ⟨w, rw, kk, β0⟩ β' (mk (k + 1) s') a' w' ∧ Inv w' (ownBlks β' (mk (k + 1) s').K) (k + 1) s'))
    (hlast : ∀ w rw β0 s, Inv w rw n s → Run P ⟨w, rw, kk, β0⟩ c (mk n s) (To ⟨w, rw, kk, β0⟩ (.exit id) (mk n s)))
    (hrest : ∀ w rw β0 s, Inv w rw n s → Run P ⟨w, rw, kk, β0⟩ rest (mk n s) post)
    {B : Bs} (hkk : B.k = kk) {st : St} (hpre : Run P B pre st (fun e md => e = .normal ∧ ∀ β a' w', Rel B β md a' w' → ∃ β' s', Rel B β' (mk 0 s') a' w' ∧ Inv w' (ownBlks β' (mk 0 s').K) 0 s')) :
    Run P B (.seq (.seq pre (.block id (.loop c))) rest) st post := by
  intro β a w hR Q hq
  refine wp_seq (wp_seq (hpre β a w hR _ fun e st' β' a' w' hp hR' => ?_))
  obtain ⟨rfl, hconv⟩ := hp
  obtain ⟨β2, s', hR2, hi⟩ := hconv β' a' w' hR'
  have hR3 := hR2.anew
  rw [hkk] at hR3
  refine Run.famQ mk Inv n kk hround hlast hi hR3 (fun w1 rw1 β1 s β3 a1 w1' hi1 hR4 hback => ?_)
  exact hrest w1 rw1 β1 s hi1 β3 a1 w1' hR4 Q fun e st5 β5 a5 w5 hp5 hR5 => hq e st5 β5 a5 w5 hp5 (hR2.back (by have := hback _ _ _ _ hR5; rw [hkk]; exact this))

theorem Rel.emptied {B : Bs} {β : Env} {slots : List AV} {K : Know} {a : Act} {w : World} (h : Rel B β ⟨slots, K⟩ a w) {j : Nat} {own : Bool} {k : IntKind} (hb : K.at j = some ⟨own, [.ints k 0 []]⟩) :
    Rel B β ⟨slots, K.set1 j (some ⟨own, [.vals 0 []]⟩)⟩ a w := by
  obtain ⟨L, hL, h1⟩ := h.valued hb (n := 0) rfl
  have : L = [] := List.length_eq_zero_iff.1 (cons_len hL)
  subst this
  exact h1

theorem FamR.contLeq {w : World} {rw : List Nat} {L : List Value} {C : List (List Int)} (h : FamR w rw L C) {n : Nat} (hn : n = C.length) : contL w L n = C := by
  subst hn
  refine List.ext_getElem? fun i => ?_
  by_cases hi : i < C.length
  · unfold contL
    rw [List.getElem?_map, List.getElem?_range hi, List.getElem?_eq_getElem hi]
    show some (contV w (L.getD i undef)) = _
    rw [h.cont i hi, List.getD_eq_getElem?_getD, List.getElem?_eq_getElem hi]; rfl
  · rw [List.getElem?_eq_none (by rw [contL_len]; omega), List.getElem?_eq_none (by omega)]
theorem FamR.of {w : World} {rw : List Nat} {L : List Value} {n : Nat} (hl : L.length = n) (h : PartsI w rw L n) : FamR w rw L (contL w L n) :=
  ⟨by rw [contL_len, hl], fun i hi => h i (by rwa [contL_len] at hi), fun i hi => (contL_get (by rwa [contL_len] at hi)).symm⟩
end Go.Proofs.Ytlmdhjojinkdbaa.X

/- Families of copies: what Given keeps, and what Intact asks behind some more. -/
namespace Go.Proofs.Ytlmdhjojinkdbaa.X
open Go Go.Proofs
set_option linter.unusedVariables false
set_option maxRecDepth 100000

theorem sub_len_all {α : Type} (L : List α) {n : Nat} (h : L.length = n) : sub L 0 n = L := by
  unfold sub; rw [List.drop_zero, ← h, List.take_length]

theorem sub_lt {l : List Int} {a b B : Nat} (h : b < B) : (sub l a b).length < B := by
  unfold sub; rw [List.length_take]; omega
end Go.Proofs.Ytlmdhjojinkdbaa.X

/- Steps that lie in a world; families that grow by some at once. -/
namespace Go.Proofs.Ytlmdhjojinkdbaa.X
open Go Go.Proofs
set_option linter.unusedVariables false
set_option maxRecDepth 100000

structure DwR (w : World) (rw : List Nat) (L : List Value) (n : Nat) : Prop where
  what : ∀ i, i < n → L.getD (i * 4) undef = .int .i64 (intV (L.getD (i * 4) undef))
  num : ∀ i, i < n → L.getD (i * 4 + 1) undef = .int .i64 (intV (L.getD (i * 4 + 1) undef))
  impB : ∀ i, i < n → ∀ (k : Nat) (β : Env), ImpOk ⟨w, rw, k, β⟩ (L.getD (i * 4 + 2) undef) .u8 (lenV (L.getD (i * 4 + 2) undef)) (capV (L.getD (i * 4 + 2) undef)) (contV w (L.getD (i * 4 + 2) undef))
  impE : ∀ i, i < n → ∀ (k : Nat) (β : Env), ImpOk ⟨w, rw, k, β⟩ (L.getD (i * 4 + 3) undef) .u8 (lenV (L.getD (i * 4 + 3) undef)) (capV (L.getD (i * 4 + 3) undef)) (contV w (L.getD (i * 4 + 3) undef))
  smallB : ∀ i, i < n → lenV (L.getD (i * 4 + 2) undef) < 8796093022208
  smallE : ∀ i, i < n → lenV (L.getD (i * 4 + 3) undef) < 8796093022208
abbrev DwOk (w : World) (L : List Value) (n : Nat) : Prop := DwR w [] L n
theorem DwR.lenB {w : World} {rw : List Nat} {L : List Value} {n : Nat} (h : DwR w rw L n) {i : Nat} (hi : i < n) : (contV w (L.getD (i * 4 + 2) undef)).length = lenV (L.getD (i * 4 + 2) undef) := by
  obtain ⟨_, _, _, hl, _⟩ := h.impB i hi 0 noEnv
  exact hl
theorem DwR.lenE {w : World} {rw : List Nat} {L : List Value} {n : Nat} (h : DwR w rw L n) {i : Nat} (hi : i < n) : (contV w (L.getD (i * 4 + 3) undef)).length = lenV (L.getD (i * 4 + 3) undef) := by
  obtain ⟨_, _, _, hl, _⟩ := h.impE i hi 0 noEnv
  exact hl

section move
variable {w0 w : World} {rw : List Nat} {β : Env} {K K' : Know} {kb : Nat}
theorem imp_move (hR : RelW w0 rw β K w) (hL : Less K K' kb) {v : Value} (h : ∀ (k : Nat) (β1 : Env), ImpOk ⟨w0, rw, k, β1⟩ v .u8 (lenV v) (capV v) (contV w0 v)) (k : Nat) (β1 : Env) : ImpOk ⟨w, ownBlks β K', k, β1⟩ v .u8 (lenV v) (capV v) (contV w v) := by
  rw [contV_move hR.old (h 0 noEnv)]
  obtain ⟨base, hv, hlc, hl, hb⟩ := h 0 noEnv
  refine ⟨base, hv, hlc, hl, fun h0 => ?_⟩
  obtain ⟨b, off, g1, g2, g3, g4⟩ := hb h0
  have g2 : b < w0.heap.size := g2
  refine ⟨b, off, g1, Nat.lt_of_lt_of_le g2 hR.size, hL.old hR g2 g3, fun hl0 => ?_⟩
  obtain ⟨arr, ty, fr, k1, k2⟩ := g4 hl0
  exact ⟨arr, ty, fr, (hR.old b g2 g3).trans k1, k2⟩
theorem DwR.move (hR : RelW w0 rw β K w) (hL : Less K K' kb) {L : List Value} {n : Nat} (h : DwR w0 rw L n) : DwR w (ownBlks β K') L n :=
  ⟨h.what, h.num, fun i hi k β1 => imp_move hR hL (h.impB i hi) k β1, fun i hi k β1 => imp_move hR hL (h.impE i hi) k β1, h.smallB, h.smallE⟩

def famX (K : Know) : List Atom → Option (Prop × List (List Int))
  | [] => some (True, [])
  | a :: r => (match famC K a with
    | some (p, l) => (match famX K r with
      | some (q, C) => some (p ∧ q, l :: C)
      | none => none)
    | none => none)
theorem famX_ok (hR : RelW w0 rw β K w) (hL : Less K K' kb) : ∀ {l : List Atom} {p : Prop} {C : List (List Int)} {cs : List Value}, famX K l = some (p, C) → l.all (farC K kb) = true → p → cons β l cs → FamR w (ownBlks β K') cs C
  | [], p, C, cs, h, _, hp, hc => by
    simp only [famX, Option.some.injEq, Prod.mk.injEq] at h; obtain ⟨rfl, rfl⟩ := h
    have hc : cs = [] := hc
    subst hc; exact FamR.nil
  | a :: l, p, C, cs, h, hf, hp, hc => by
    obtain ⟨x, y, rfl, ha, hr⟩ := hc
    rw [List.all_cons, Bool.and_eq_true] at hf
    simp only [famX] at h
    split at h
    · rename_i p1 l1 h1
      split at h
      · rename_i q D h2
        simp only [Option.some.injEq, Prod.mk.injEq] at h; obtain ⟨rfl, rfl⟩ := h
        exact (famC_ok hR hL h1 hf.1 hp.1 ha).app (famX_ok hR hL h2 hf.2 hp.2 hr)
      · simp at h
    · simp at h
/-- some more join a family -/
theorem fam_many (hR : RelW w0 rw β K w) (hL : Less K K' kb) {L0 L : List Value} {C : List (List Int)} {k : Nat} (hF : FamR w0 rw L0 C) {xs : List Atom} {p : Prop} {ls : List (List Int)} (hx : famX K xs = some (p, ls)) (hf : xs.all (farC K kb) = true) (hp : p)
    (hc : cons β (.vals k L0 :: xs) L) : FamR w (ownBlks β K') L (C ++ ls) := by
  obtain ⟨u, v, rfl, ⟨_, rfl, _⟩, hv⟩ := hc
  exact (hF.move hR hL).app (famX_ok hR hL hx hf hp hv)
end move

theorem fam_intact0 {w : World} {rw : List Nat} {G W : List Value} {D : List (List Int)} {q : Nat} (hG : FamR w rw G D) (hW : FamR w rw W D) (hn : D.length = q) (hs : ∀ x ∈ D, x.length < 70368744177664) (hq : q < 70368744177664) :
    List.length (contL w G q ++ []) = q ∧ q = q ∧ (PartsI w rw G q ∧ True) ∧ (PartsI w rw W q ∧ True) ∧ contL w G q ++ [] = contL w W q ++ [] ∧ (∀ x ∈ contL w G q ++ [], x.length < 70368744177664) ∧ q < 70368744177664 := by
  rw [List.append_nil, List.append_nil, hG.contLeq hn.symm, hW.contLeq hn.symm]
  exact ⟨hn, rfl, ⟨by rw [← hn]; exact hG.imp, trivial⟩, ⟨by rw [← hn]; exact hW.imp, trivial⟩, rfl, hs, hq⟩
/-- small rounds -/
theorem dwM_ex (N : Int) : ∃ m : Nat, m = min (Int.toNat N) 5000 := ⟨_, rfl⟩
noncomputable def dwM (N : Int) : Nat := Classical.choose (dwM_ex N)
theorem dwM_eq (N : Int) : dwM N = min (Int.toNat N) 5000 := Classical.choose_spec (dwM_ex N)
theorem drN_lt3 (N d : Int) : drN N d < 70368744177664 := by
  unfold drN drOk
  by_cases h : 0 ≤ N ∧ N ≤ 65536 ∧ d < 4096
  · rw [show decide (0 ≤ N ∧ N ≤ 65536 ∧ d < 4096) = true from decide_eq_true h]; show Int.toNat N < _; omega
  · rw [show decide (0 ≤ N ∧ N ≤ 65536 ∧ d < 4096) = false from decide_eq_false h]; show 0 < _; omega
theorem drN0 (d : Int) : drN 0 d = 0 := by unfold drN; cases drOk 0 d <;> rfl
theorem cp_in {c : List Int} {n : Nat} (h : c.length = n) : sub (gvB n (sub c 0 n)) 0 n = c := by
  rw [sub_all c n (by omega)]; exact gvB_take h
end Go.Proofs.Ytlmdhjojinkdbaa.X

/- Printed by a tool of this session. -/
namespace Go.Proofs.Ytlmdhjojinkdbaa.X
open Go Go.Proofs
set_option linter.unusedVariables false
set_option linter.unusedSimpArgs false
set_option maxRecDepth 100000
set_option maxHeartbeats 8000000
noncomputable def ent594 : Know → Nat → List AV → Option Rx := gcallE [true, true, true] [.w, .s 1] (fun wk vs args => match wk, vs, args with | [⟨true, [.rs 1 0 q 1, .rs 2 0 q_1 1, .raw (.slice none 0 0), .raw (.slice none 0 0), .raw (.slice none 0 0), .raw (.slice none 0 0), .raw (.slice none 0 0), .raw (.slice none 0 0), .raw (.slice none 0 0), .raw (.slice none 0 0), .raw (.slice none 0 0), .raw (.slice none 0 0), .raw (.slice none 0 0), .raw (.slice none 0 0), .raw (.slice none 0 0), .raw (.slice none 0 0), .raw (.slice none 0 0), .raw (.slice none 0 0), .raw (.slice none 0 0), .raw (.slice none 0 0), .raw (.slice none 0 0), .raw (.slice none 0 0), .raw (.slice none 0 0), .raw (.slice none 0 0), .raw (.slice none 0 0), .raw (.slice none 0 0), .raw (.slice none 0 0), .raw (.slice none 0 0), .raw (.slice none 0 0), .raw (.slice none 0 0)]⟩, ⟨true, [.vals k_ L]⟩, ⟨true, [.vals k__1 W]⟩], [⟨_, _, _, [.ints .u8 nm b]⟩], [.o (.a (.p 0 0)), .o (.a (.sl 3 0 n _))] => some ((q_1 = q) ∧ (k__1 = k_) ∧ (nm = n) ∧ (n < 17592186044416) ∧ (q < 2199023255552) ∧ (q = k_), [.a (.sl 6 0 n (gv0 n))], [some ⟨true, [.rs 4 0 (gv0_1 q) 1, .rs 5 0 (gv0_1 q) 1, .raw (.slice none 0 0), .raw (.slice none 0 0), .raw (.slice none 0 0), .raw (.slice none 0 0), .raw (.slice none 0 0), .raw (.slice none 0 0), .raw (.slice none 0 0), .raw (.slice none 0 0), .raw (.slice none 0 0), .raw (.slice none 0 0), .raw (.slice none 0 0), .raw (.slice none 0 0), .raw (.slice none 0 0), .raw (.slice none 0 0), .raw (.slice none 0 0), .raw (.slice none 0 0), .raw (.slice none 0 0), .raw (.slice none 0 0), .raw (.slice none 0 0), .raw (.slice none 0 0), .raw (.slice none 0 0), .raw (.slice none 0 0), .raw (.slice none 0 0), .raw (.slice none 0 0), .raw (.slice none 0 0), .raw (.slice none 0 0), .raw (.slice none 0 0), .raw (.slice none 0 0)]⟩, none, none, some ⟨false, [.ints .u8 nm b]⟩, some ⟨true, [.vals q (sub L 0 q), .sl 6 0 (gv0 n) (gv0 n)]⟩, some ⟨true, [.vals q (sub W 0 q), .rs 7 0 (gv0 n) 1]⟩, some ⟨true, [.ints .u8 (gv0 n) (gvB n b)]⟩, some ⟨true, [.ints .u8 (gv0 n) (gvB n b)]⟩]) | _, _, _ => none)

theorem ent594_ok : EntOk Try.prog 15 ent594 := gcallE_ent tabOkKB Try.func15 (by
  intro wk vs args p xs K1 h hv
  split at h
  · simp only [Option.some.injEq, Prod.mk.injEq] at h; obtain ⟨rfl, rfl, rfl⟩ := h; obtain ⟨g0, g1, g2, g3, g4, g5⟩ := hv; subst g0; subst g1; exact fun caps w rw β => gv0_body _ _ _ _ _ _ _ _ g2 g3 g4 g5 w rw β
  · simp at h)

noncomputable def ent595 : Know → Nat → List AV → Option Rx := gcallE [true, true, true, true, true] [.w, .s 1] (fun wk vs args => match wk, vs, args with | [⟨true, [.rs 1 0 q 1, .rs 3 0 q_1 1, .raw (.slice none 0 0), .raw (.slice none 0 0), .raw (.slice none 0 0), .raw (.slice none 0 0), .raw (.slice none 0 0), .raw (.slice none 0 0), .raw (.slice none 0 0), .raw (.slice none 0 0), .raw (.slice none 0 0), .raw (.slice none 0 0), .raw (.slice none 0 0), .raw (.slice none 0 0), .raw (.slice none 0 0), .raw (.slice none 0 0), .raw (.slice none 0 0), .raw (.slice none 0 0), .raw (.slice none 0 0), .raw (.slice none 0 0), .raw (.slice none 0 0), .raw (.slice none 0 0), .raw (.slice none 0 0), .raw (.slice none 0 0), .raw (.slice none 0 0), .raw (.slice none 0 0), .raw (.slice none 0 0), .raw (.slice none 0 0), .raw (.slice none 0 0), .raw (.slice none 0 0)]⟩, ⟨true, [.vals k_ L, .sl 2 0 m0 m0_1]⟩, ⟨true, [.ints .u8 m0_2 B0]⟩, ⟨true, [.vals k__1 W, .rs 4 0 m0_3 1]⟩, ⟨true, [.ints .u8 m0_4 D0]⟩], [⟨_, _, _, [.ints .u8 nm b]⟩], [.o (.a (.p 0 0)), .o (.a (.sl 5 0 n _))] => some ((q_1 = q) ∧ (m0_1 = m0) ∧ (m0_2 = m0) ∧ (k__1 = k_) ∧ (m0_3 = m0) ∧ (m0_4 = m0) ∧ (nm = n) ∧ (n < 17592186044416) ∧ (q < 2199023255552) ∧ (q = (k_ + 1)), [.a (.sl 8 0 n (gv1 n))], [some ⟨true, [.rs 6 0 (gv1_1 q) 1, .rs 7 0 (gv1_1 q) 1, .raw (.slice none 0 0), .raw (.slice none 0 0), .raw (.slice none 0 0), .raw (.slice none 0 0), .raw (.slice none 0 0), .raw (.slice none 0 0), .raw (.slice none 0 0), .raw (.slice none 0 0), .raw (.slice none 0 0), .raw (.slice none 0 0), .raw (.slice none 0 0), .raw (.slice none 0 0), .raw (.slice none 0 0), .raw (.slice none 0 0), .raw (.slice none 0 0), .raw (.slice none 0 0), .raw (.slice none 0 0), .raw (.slice none 0 0), .raw (.slice none 0 0), .raw (.slice none 0 0), .raw (.slice none 0 0), .raw (.slice none 0 0), .raw (.slice none 0 0), .raw (.slice none 0 0), .raw (.slice none 0 0), .raw (.slice none 0 0), .raw (.slice none 0 0), .raw (.slice none 0 0)]⟩, none, some ⟨true, [.ints .u8 m0 B0]⟩, none, some ⟨true, [.ints .u8 m0 D0]⟩, some ⟨false, [.ints .u8 nm b]⟩, some ⟨true, [.vals k_ L, .sl 2 0 m0 m0, .sl 8 0 (gv1 n) (gv1 n)]⟩, some ⟨true, [.vals k_ W, .rs 4 0 m0 1, .rs 9 0 (gv1 n) 1]⟩, some ⟨true, [.ints .u8 (gv1 n) (gvB n b)]⟩, some ⟨true, [.ints .u8 (gv1 n) (gvB n b)]⟩]) | _, _, _ => none)

theorem ent595_ok : EntOk Try.prog 15 ent595 := gcallE_ent tabOkKB Try.func15 (by
  intro wk vs args p xs K1 h hv
  split at h
  · simp only [Option.some.injEq, Prod.mk.injEq] at h; obtain ⟨rfl, rfl, rfl⟩ := h; obtain ⟨g0, g1, g2, g3, g4, g5, g6, g7, g8, g9⟩ := hv; subst g0; subst g1; subst g2; subst g3; subst g4; subst g5; exact fun caps w rw β => gv1_body _ _ _ _ _ _ _ _ _ _ _ g6 g7 g8 g9 w rw β
  · simp at h)

noncomputable def ent596 : Know → Nat → List AV → Option Rx := gcallE [true, true, true, true, true, true, true] [.w, .s 1] (fun wk vs args => match wk, vs, args with | [⟨true, [.rs 1 0 q 1, .rs 4 0 q_1 1, .raw (.slice none 0 0), .raw (.slice none 0 0), .raw (.slice none 0 0), .raw (.slice none 0 0), .raw (.slice none 0 0), .raw (.slice none 0 0), .raw (.slice none 0 0), .raw (.slice none 0 0), .raw (.slice none 0 0), .raw (.slice none 0 0), .raw (.slice none 0 0), .raw (.slice none 0 0), .raw (.slice none 0 0), .raw (.slice none 0 0), .raw (.slice none 0 0), .raw (.slice none 0 0), .raw (.slice none 0 0), .raw (.slice none 0 0), .raw (.slice none 0 0), .raw (.slice none 0 0), .raw (.slice none 0 0), .raw (.slice none 0 0), .raw (.slice none 0 0), .raw (.slice none 0 0), .raw (.slice none 0 0), .raw (.slice none 0 0), .raw (.slice none 0 0), .raw (.slice none 0 0)]⟩, ⟨true, [.vals k_ L, .sl 2 0 m0 m0_1, .sl 3 0 m1 m1_1]⟩, ⟨true, [.ints .u8 m0_2 B0]⟩, ⟨true, [.ints .u8 m1_2 B1]⟩, ⟨true, [.vals k__1 W, .rs 5 0 m0_3 1, .rs 6 0 m1_3 1]⟩, ⟨true, [.ints .u8 m0_4 D0]⟩, ⟨true, [.ints .u8 m1_4 D1]⟩], [⟨_, _, _, [.ints .u8 nm b]⟩], [.o (.a (.p 0 0)), .o (.a (.sl 7 0 n _))] => some ((q_1 = q) ∧ (m0_1 = m0) ∧ (m1_1 = m1) ∧ (m0_2 = m0) ∧ (m1_2 = m1) ∧ (k__1 = k_) ∧ (m0_3 = m0) ∧ (m1_3 = m1) ∧ (m0_4 = m0) ∧ (m1_4 = m1) ∧ (nm = n) ∧ (n < 17592186044416) ∧ (q < 2199023255552) ∧ (q = (k_ + 2)), [.a (.sl 10 0 n (gv2 n))], [some ⟨true, [.rs 8 0 (gv2_1 q) 1, .rs 9 0 (gv2_1 q) 1, .raw (.slice none 0 0), .raw (.slice none 0 0), .raw (.slice none 0 0), .raw (.slice none 0 0), .raw (.slice none 0 0), .raw (.slice none 0 0), .raw (.slice none 0 0), .raw (.slice none 0 0), .raw (.slice none 0 0), .raw (.slice none 0 0), .raw (.slice none 0 0), .raw (.slice none 0 0), .raw (.slice none 0 0), .raw (.slice none 0 0), .raw (.slice none 0 0), .raw (.slice none 0 0), .raw (.slice none 0 0), .raw (.slice none 0 0), .raw (.slice none 0 0), .raw (.slice none 0 0), .raw (.slice none 0 0), .raw (.slice none 0 0), .raw (.slice none 0 0), .raw (.slice none 0 0), .raw (.slice none 0 0), .raw (.slice none 0 0), .raw (.slice none 0 0), .raw (.slice none 0 0)]⟩, none, some ⟨true, [.ints .u8 m0 B0]⟩, some ⟨true, [.ints .u8 m1 B1]⟩, none, some ⟨true, [.ints .u8 m0 D0]⟩, some ⟨true, [.ints .u8 m1 D1]⟩, some ⟨false, [.ints .u8 nm b]⟩, some ⟨true, [.vals k_ L, .sl 2 0 m0 m0, .sl 3 0 m1 m1, .sl 10 0 (gv2 n) (gv2 n)]⟩, some ⟨true, [.vals k_ W, .rs 5 0 m0 1, .rs 6 0 m1 1, .rs 11 0 (gv2 n) 1]⟩, some ⟨true, [.ints .u8 (gv2 n) (gvB n b)]⟩, some ⟨true, [.ints .u8 (gv2 n) (gvB n b)]⟩]) | _, _, _ => none)

theorem ent596_ok : EntOk Try.prog 15 ent596 := gcallE_ent tabOkKB Try.func15 (by
  intro wk vs args p xs K1 h hv
  split at h
  · simp only [Option.some.injEq, Prod.mk.injEq] at h; obtain ⟨rfl, rfl, rfl⟩ := h; obtain ⟨g0, g1, g2, g3, g4, g5, g6, g7, g8, g9, g10, g11, g12, g13⟩ := hv; subst g0; subst g1; subst g2; subst g3; subst g4; subst g5; subst g6; subst g7; subst g8; subst g9; exact fun caps w rw β => gv2_body _ _ _ _ _ _ _ _ _ _ _ _ _ _ g10 g11 g12 g13 w rw β
  · simp at h)

noncomputable def gam597 : Gam := gfull 15 (selE [.w, .s 1] 3 (ent594) (selE [.w, .s 1] 5 (ent595) (ent596))) gam26
theorem gam597_ok : GamOk Try.prog gam597 := gent_ok gam26_ok Try.call15 (selE_ent (ent594_ok) (selE_ent (ent595_ok) (ent596_ok)))

noncomputable def gam823 : Gam := gfull 22 (selA (fun args => match args with | _ :: _ :: .o (.a (.raw _)) :: _ => true | _ => false) (gcallE [true] [.w, .w, .w] (fun wk vs args => match wk, vs, args with | [⟨true, [.ints .u8 64 ky, .ints .u8 64 v, .b true, .i .i64 d]⟩], [], [.o (.a (.p 0 0)), .o (.a (.i .i64 N)), .o (.a (.raw (.slice none 0 0)))] => some (True, [.a (.rs 1 0 (drN N d) 1), .a (.i .i64 (drE N d))], [some ⟨true, [.ints .u8 64 (drK0 N d ky v), .ints .u8 64 (drV0 N d ky v), .b true, .i .i64 (drD N d)]⟩, some ⟨true, [.ints .u8 (drM N d) (drO0 N d ky v)]⟩]) | _, _, _ => none)) (gcallE [true] [.w, .w, .s 1] (fun wk vs args => match wk, vs, args with | [⟨true, [.ints .u8 64 ky, .ints .u8 64 v, .b true, .i .i64 d]⟩], [⟨_, _, _, [.ints .u8 nm b]⟩], [.o (.a (.p 0 0)), .o (.a (.i .i64 N)), .o (.a (.sl 1 0 n _))] => some ((nm = n) ∧ (n < 35184372088832), [.a (.rs 2 0 (drN N d) 1), .a (.i .i64 (drE N d))], [some ⟨true, [.ints .u8 64 (drK N d ky v b), .ints .u8 64 (drV N d ky v b), .b true, .i .i64 (drD N d)]⟩, some ⟨false, [.ints .u8 nm b]⟩, some ⟨true, [.ints .u8 (drM N d) (drO N d ky v b)]⟩]) | _, _, _ => none))) gam597
theorem gam823_ok : GamOk Try.prog gam823 := gent_ok gam597_ok Try.call22 (selA_ent (gcallE_ent tabOkDJ Try.func22 (by
  intro wk vs args p xs K1 h hv
  split at h
  · simp only [Option.some.injEq, Prod.mk.injEq] at h; obtain ⟨rfl, rfl, rfl⟩ := h; exact fun caps w rw β => drawN_body _ _ _ _ w rw β
  · simp at h)) (gcallE_ent tabOkDJ Try.func22 (by
  intro wk vs args p xs K1 h hv
  split at h
  · simp only [Option.some.injEq, Prod.mk.injEq] at h; obtain ⟨rfl, rfl, rfl⟩ := h; obtain ⟨g0, g1⟩ := hv; exact fun caps w rw β => draw_body _ _ _ _ _ _ _ _ g0 g1 w rw β
  · simp at h)))

noncomputable def gam826 : Gam := gfull 26 (selA (fun args => match args with | _ :: _ :: .o (.a (.raw _)) :: _ => true | _ => false) (gcallE [true] [.w, .w, .w] (fun wk vs args => match wk, vs, args with | [⟨true, [.ints .u8 64 ky, .ints .u8 64 v, .i .i64 d]⟩], [], [.o (.a (.p 0 0)), .o (.a (.i .i64 N)), .o (.a (.raw (.slice none 0 0)))] => some (True, [.a (.rs 1 0 (drN N d) 1), .a (.i .i64 (drE N d))], [some ⟨true, [.ints .u8 64 (drK0 N d ky v), .ints .u8 64 (drV0 N d ky v), .i .i64 (drD N d)]⟩, some ⟨true, [.ints .u8 (drM N d) (drO0 N d ky v)]⟩]) | _, _, _ => none)) (gcallE [true] [.w, .w, .s 1] (fun wk vs args => match wk, vs, args with | [⟨true, [.ints .u8 64 ky, .ints .u8 64 v, .i .i64 d]⟩], [⟨_, _, _, [.ints .u8 nm b]⟩], [.o (.a (.p 0 0)), .o (.a (.i .i64 N)), .o (.a (.sl 1 0 n _))] => some ((nm = n) ∧ (n < 35184372088832), [.a (.rs 2 0 (drN N d) 1), .a (.i .i64 (drE N d))], [some ⟨true, [.ints .u8 64 (drK N d ky v b), .ints .u8 64 (drV N d ky v b), .i .i64 (drD N d)]⟩, some ⟨false, [.ints .u8 nm b]⟩, some ⟨true, [.ints .u8 (drM N d) (drO N d ky v b)]⟩]) | _, _, _ => none))) gam823
theorem gam826_ok : GamOk Try.prog gam826 := gent_ok gam823_ok Try.call26 (selA_ent (gcallE_ent tabOkKP Try.func26 (by
  intro wk vs args p xs K1 h hv
  split at h
  · simp only [Option.some.injEq, Prod.mk.injEq] at h; obtain ⟨rfl, rfl, rfl⟩ := h; exact fun caps w rw β => rdrawN_body _ _ _ _ w rw β
  · simp at h)) (gcallE_ent tabOkKP Try.func26 (by
  intro wk vs args p xs K1 h hv
  split at h
  · simp only [Option.some.injEq, Prod.mk.injEq] at h; obtain ⟨rfl, rfl, rfl⟩ := h; obtain ⟨g0, g1⟩ := hv; exact fun caps w rw β => rdraw_body _ _ _ _ _ _ _ _ g0 g1 w rw β
  · simp at h)))

noncomputable def gam827 : Gam := gcall 23 [true] [.w, .s 1, .s 1] (fun wk vs args => match wk, vs, args with | [⟨true, [.ints .u8 64 ky, .ints .u8 64 v, .b true, .i .i64 d]⟩], [⟨_, _, _, [.ints .u8 nm b]⟩, ⟨_, _, _, [.ints .u8 mm c]⟩], [.o (.a (.p 0 0)), .o (.a (.sl 1 0 n _)), .o (.a (.sl 2 0 m _))] => some ((nm = n) ∧ (mm = m) ∧ (n < 8796093022208) ∧ (m < 8796093022208), [.a (.i .i64 (rsE n))], [some ⟨true, [.ints .u8 64 (rsK2 n ky v b c), .ints .u8 64 (rsV2 n ky v b c), .b true, .i .i64 (rsD n d)]⟩, some ⟨false, [.ints .u8 nm b]⟩, some ⟨false, [.ints .u8 mm c]⟩]) | _, _, _ => none) gam826
theorem gam827_ok : GamOk Try.prog gam827 := gcall_ok tabOkKR Try.func23 gam826_ok Try.call23 (by
  intro wk vs args p xs K1 h hv
  split at h
  · simp only [Option.some.injEq, Prod.mk.injEq] at h; obtain ⟨rfl, rfl, rfl⟩ := h; obtain ⟨g0, g1, g2, g3⟩ := hv; exact fun caps w rw β => reseedT_body _ _ _ _ _ _ _ _ _ _ _ g0 g1 g2 g3 w rw β
  · simp at h)

noncomputable def gam828 : Gam := gcall 27 [true] [.w, .s 1, .s 1] (fun wk vs args => match wk, vs, args with | [⟨true, [.ints .u8 64 ky, .ints .u8 64 v, .i .i64 d]⟩], [⟨_, _, _, [.ints .u8 nm b]⟩, ⟨_, _, _, [.ints .u8 mm c]⟩], [.o (.a (.p 0 0)), .o (.a (.sl 1 0 n _)), .o (.a (.sl 2 0 m _))] => some ((nm = n) ∧ (mm = m) ∧ (n < 8796093022208) ∧ (m < 8796093022208), [.a (.i .i64 (rsE n))], [some ⟨true, [.ints .u8 64 (rsK2 n ky v b c), .ints .u8 64 (rsV2 n ky v b c), .i .i64 (rsD n d)]⟩, some ⟨false, [.ints .u8 nm b]⟩, some ⟨false, [.ints .u8 mm c]⟩]) | _, _, _ => none) gam827
theorem gam828_ok : GamOk Try.prog gam828 := gcall_ok tabOkKO Try.func27 gam827_ok Try.call27 (by
  intro wk vs args p xs K1 h hv
  split at h
  · simp only [Option.some.injEq, Prod.mk.injEq] at h; obtain ⟨rfl, rfl, rfl⟩ := h; obtain ⟨g0, g1, g2, g3⟩ := hv; exact fun caps w rw β => rreseed_body _ _ _ _ _ _ _ _ _ _ _ g0 g1 g2 g3 w rw β
  · simp at h)

noncomputable def gam829 : Gam := gcall 28 [true] [.w] (fun wk vs args => match wk, vs, args with | [⟨true, [.ints .u8 64 ky, .ints .u8 64 v, .b true, .i .i64 d]⟩], [], [.o (.a (.p 0 0))] => some (True, [.g [.ints .u8 32 (rdA d ky v)], .a (.i .i64 (rdE d))], [some ⟨true, [.ints .u8 64 (rnK d ky v), .ints .u8 64 (rnV d ky v), .b true, .i .i64 (rnD d)]⟩]) | _, _, _ => none) gam828
theorem gam829_ok : GamOk Try.prog gam829 := gcall_ok tabOkKR Try.func28 gam828_ok Try.call28 (by
  intro wk vs args p xs K1 h hv
  split at h
  · simp only [Option.some.injEq, Prod.mk.injEq] at h; obtain ⟨rfl, rfl, rfl⟩ := h; exact fun caps w rw β => random_body _ _ _ w rw β
  · simp at h)

noncomputable def gam830 : Gam := gcall 29 [true] [.w] (fun wk vs args => match wk, vs, args with | [⟨true, [.ints .u8 64 ky, .ints .u8 64 v, .i .i64 d]⟩], [], [.o (.a (.p 0 0))] => some (True, [.g [.ints .u8 32 (rdA d ky v)], .a (.i .i64 (rdE d))], [some ⟨true, [.ints .u8 64 (rnK d ky v), .ints .u8 64 (rnV d ky v), .i .i64 (rnD d)]⟩]) | _, _, _ => none) gam829
theorem gam830_ok : GamOk Try.prog gam830 := gcall_ok tabOkKR Try.func29 gam829_ok Try.call29 (by
  intro wk vs args p xs K1 h hv
  split at h
  · simp only [Option.some.injEq, Prod.mk.injEq] at h; obtain ⟨rfl, rfl, rfl⟩ := h; exact fun caps w rw β => rrandom_body _ _ _ w rw β
  · simp at h)

noncomputable def gam831 : Gam := gcall 24 [false] [.w] (fun wk vs args => match wk, vs, args with | [⟨false, [.ints .u8 64 ky, .ints .u8 64 v, .b true, .i .i64 d]⟩], [], [.o (.a (.p 0 0))] => some (True, [.a (.i .i64 (left d))], [some ⟨false, [.ints .u8 64 ky, .ints .u8 64 v, .b true, .i .i64 d]⟩]) | _, _, _ => none) gam830
theorem gam831_ok : GamOk Try.prog gam831 := gcall_ok tabOkDK Try.func24 gam830_ok Try.call24 (by
  intro wk vs args p xs K1 h hv
  split at h
  · simp only [Option.some.injEq, Prod.mk.injEq] at h; obtain ⟨rfl, rfl, rfl⟩ := h; exact fun caps w rw β => left_body _ _ _ w rw β
  · simp at h)

noncomputable def gam832 : Gam := gcall 9 [] [] (fun wk vs args => match wk, vs, args with | [], [], [] => some (True, [.a (.b true)], []) | _, _, _ => none) gam831
theorem gam832_ok : GamOk Try.prog gam832 := gcall_ok tabOkDK Try.func9 gam831_ok Try.call9 (by
  intro wk vs args p xs K1 h hv
  split at h
  · simp only [Option.some.injEq, Prod.mk.injEq] at h; obtain ⟨rfl, rfl, rfl⟩ := h; exact fun caps w rw β => alive_body0 w rw β
  · simp at h)

noncomputable def gam833 : Gam := greadV 12 [.s 1, .s 1] (fun vs args => match vs, args with | [⟨_, _, _, [.ints .u8 nm b]⟩, ⟨_, _, _, [.ints .u8 mm c]⟩], [a0, a1] => some ((nm = (lenOfA a0)) ∧ (mm = (lenOfA a1)) ∧ ((lenOfA a1) = (lenOfA a0)) ∧ (b = c) ∧ ((lenOfA a0) < 70368744177664), [.a (.b true)]) | _, _ => none) gam832
theorem gam833_ok : GamOk Try.prog gam833 := greadV_ok tabOkDK Try.func12 gam832_ok Try.call12 (by
  intro vs args p xs h hv
  split at h
  · simp only [Option.some.injEq, Prod.mk.injEq] at h; obtain ⟨rfl, rfl⟩ := h; exact ⟨by rfl, fun caps w β => sameB_body _ _ _ _ _ _ _ _ hv.1 hv.2.1 hv.2.2.1 hv.2.2.2.1 hv.2.2.2.2 w β⟩
  · simp at h)

noncomputable def gam834 : Gam := gcall 21 [] [.s 1, .s 1, .s 1] (fun wk vs args => match wk, vs, args with | [], [⟨_, _, _, [.ints .u8 nm b]⟩, ⟨_, _, _, [.ints .u8 mm c]⟩, ⟨_, _, _, [.ints .u8 om e]⟩], [.o (.a (.sl 0 0 n _)), .o (.a (.sl 1 0 m _)), .o (.a (.sl 2 0 o _))] => some ((nm = n) ∧ (mm = m) ∧ (om = o) ∧ (n < 8796093022208) ∧ (m < 8796093022208) ∧ (o < 8796093022208) ∧ (32 ≤ n), [.a (.p 3 0), .a (.i .i64 (0 : Int))], [some ⟨false, [.ints .u8 nm b]⟩, some ⟨false, [.ints .u8 mm c]⟩, some ⟨false, [.ints .u8 om e]⟩, some ⟨true, [.ints .u8 64 (nwK3 b c e), .ints .u8 64 (nwV3 b c e), .b true, .i .i64 (0 : Int)]⟩]) | _, _, _ => none) gam833
theorem gam834_ok : GamOk Try.prog gam834 := gcall_ok tabOkKR Try.func21 gam833_ok Try.call21 (by
  intro wk vs args p xs K1 h hv
  split at h
  · simp only [Option.some.injEq, Prod.mk.injEq] at h; obtain ⟨rfl, rfl, rfl⟩ := h; obtain ⟨g0, g1, g2, g3, g4, g5, g6⟩ := hv; exact fun caps w rw β => newT3_body _ _ _ _ _ _ _ _ _ _ _ _ g0 g1 g2 g3 g4 g5 g6 w rw β
  · simp at h)

noncomputable def gam835 : Gam := gcall 25 [] [.s 1, .s 1, .s 1] (fun wk vs args => match wk, vs, args with | [], [⟨_, _, _, [.ints .u8 nm b]⟩, ⟨_, _, _, [.ints .u8 mm c]⟩, ⟨_, _, _, [.ints .u8 om e]⟩], [.o (.a (.sl 0 0 n _)), .o (.a (.sl 1 0 m _)), .o (.a (.sl 2 0 o _))] => some ((nm = n) ∧ (mm = m) ∧ (om = o) ∧ (n < 8796093022208) ∧ (m < 8796093022208) ∧ (o < 8796093022208) ∧ (32 ≤ n), [.a (.p 3 0), .a (.i .i64 (0 : Int))], [some ⟨false, [.ints .u8 nm b]⟩, some ⟨false, [.ints .u8 mm c]⟩, some ⟨false, [.ints .u8 om e]⟩, some ⟨true, [.ints .u8 64 (nwK3 b c e), .ints .u8 64 (nwV3 b c e), .i .i64 (0 : Int)]⟩]) | _, _, _ => none) gam834
theorem gam835_ok : GamOk Try.prog gam835 := gcall_ok tabOkKO Try.func25 gam834_ok Try.call25 (by
  intro wk vs args p xs K1 h hv
  split at h
  · simp only [Option.some.injEq, Prod.mk.injEq] at h; obtain ⟨rfl, rfl, rfl⟩ := h; obtain ⟨g0, g1, g2, g3, g4, g5, g6⟩ := hv; exact fun caps w rw β => rnewOk_body _ _ _ _ _ _ _ _ _ _ _ _ g0 g1 g2 g3 g4 g5 g6 w rw β
  · simp at h)

noncomputable def gam836 : Gam := gcall 21 [] [.s 1, .s 1, .s 1] (fun wk vs args => match wk, vs, args with | [], [⟨_, _, _, [.ints .u8 nm b]⟩, ⟨_, _, _, [.ints .u8 mm c]⟩, ⟨_, _, _, [.ints .u8 om e]⟩], [.o (.a (.sl 0 0 n _)), .o (.a (.sl 1 0 m _)), .o (.a (.sl 2 0 o _))] => some ((nm = n) ∧ (mm = m) ∧ (om = o) ∧ (n < 8796093022208) ∧ (m < 8796093022208) ∧ (o < 8796093022208) ∧ (n < 32), [.a (.raw (.pointer none)), .a (.i .i64 (111 : Int))], [some ⟨false, [.ints .u8 nm b]⟩, some ⟨false, [.ints .u8 mm c]⟩, some ⟨false, [.ints .u8 om e]⟩]) | _, _, _ => none) gam833
theorem gam836_ok : GamOk Try.prog gam836 := gcall_ok tabOkKR Try.func21 gam833_ok Try.call21 (by
  intro wk vs args p xs K1 h hv
  split at h
  · simp only [Option.some.injEq, Prod.mk.injEq] at h; obtain ⟨rfl, rfl, rfl⟩ := h; obtain ⟨g0, g1, g2, g3, g4, g5, g6⟩ := hv; exact fun caps w rw β => newN3_body _ _ _ _ _ _ _ _ _ _ _ _ g0 g1 g2 g3 g4 g5 g6 w rw β
  · simp at h)

noncomputable def gam837 : Gam := gcall 25 [] [.s 1, .s 1, .s 1] (fun wk vs args => match wk, vs, args with | [], [⟨_, _, _, [.ints .u8 nm b]⟩, ⟨_, _, _, [.ints .u8 mm c]⟩, ⟨_, _, _, [.ints .u8 om e]⟩], [.o (.a (.sl 0 0 n _)), .o (.a (.sl 1 0 m _)), .o (.a (.sl 2 0 o _))] => some ((nm = n) ∧ (mm = m) ∧ (om = o) ∧ (n < 8796093022208) ∧ (m < 8796093022208) ∧ (o < 8796093022208) ∧ (n < 32), [.a (.raw (.pointer none)), .a (.i .i64 (111 : Int))], [some ⟨false, [.ints .u8 nm b]⟩, some ⟨false, [.ints .u8 mm c]⟩, some ⟨false, [.ints .u8 om e]⟩]) | _, _, _ => none) gam836
theorem gam837_ok : GamOk Try.prog gam837 := gcall_ok tabOkKO Try.func25 gam836_ok Try.call25 (by
  intro wk vs args p xs K1 h hv
  split at h
  · simp only [Option.some.injEq, Prod.mk.injEq] at h; obtain ⟨rfl, rfl, rfl⟩ := h; obtain ⟨g0, g1, g2, g3, g4, g5, g6⟩ := hv; exact fun caps w rw β => rnewNo_body _ _ _ _ _ _ _ _ _ _ _ _ g0 g1 g2 g3 g4 g5 g6 w rw β
  · simp at h)

end Go.Proofs.Ytlmdhjojinkdbaa.X

