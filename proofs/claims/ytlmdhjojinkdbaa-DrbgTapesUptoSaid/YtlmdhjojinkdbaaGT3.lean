/- Texts of this session, put together (part 3), less what nothing uses. -/
import Derived.Test.YtlmdhjojinkdbaaGT2
import Derived.KernelRfl
/- Printed by a tool of this session. -/
namespace Go.Proofs.Ytlmdhjojinkdbaa.X
open Go Go.Proofs
set_option linter.unusedVariables false
set_option linter.unusedSimpArgs false
set_option maxRecDepth 100000
theorem teSD_3 : TEOk Try.prog 3 ⟨.int .i64, 1, 8, [.i .i64 (0 : Int)], false⟩ :=
  TEOk.of Try.underlying3 (i := Try.t3) (by kernel_rfl) rfl rfl rfl (by kernel_rfl) (fun h => by cases h) (by kernel_rfl)
theorem teSD_5 : TEOk Try.prog 5 ⟨.int .u8, 1, 1, [.i .u8 (0 : Int)], false⟩ :=
  TEOk.of Try.underlying5 (i := Try.t5) (by kernel_rfl) rfl rfl rfl (by kernel_rfl) (fun h => by cases h) (by kernel_rfl)
theorem teSD_22 : TEOk Try.prog 22 ⟨.slice 5, 1, 24, [.raw (.slice none 0 0)], false⟩ :=
  TEOk.of Try.underlying22 (i := Try.t22) (by kernel_rfl) rfl rfl rfl (by kernel_rfl) (fun h => by cases h) (by kernel_rfl)
theorem teSD_147 : TEOk Try.prog 147 ⟨.int .u64, 1, 8, [.i .u64 (0 : Int)], false⟩ :=
  TEOk.of Try.underlying147 (i := Try.t147) (by kernel_rfl) rfl rfl rfl (by kernel_rfl) (fun h => by cases h) (by kernel_rfl)
theorem teSD_148 : TEOk Try.prog 148 ⟨.array 8 147, 8, 64, [.ints .u64 (8 : Nat) ([0, 0, 0, 0, 0, 0, 0, 0] : List Int)], true⟩ :=
  TEOk.of Try.underlying148 (i := Try.t148) (by kernel_rfl) rfl rfl rfl (by kernel_rfl) (fun _ => Try.eqGuardType148) (by kernel_rfl)
theorem teSD_224 : TEOk Try.prog 224 ⟨.pointer 222, 1, 8, [.raw (.pointer none)], false⟩ :=
  TEOk.of Try.underlying224 (i := Try.t224) (by kernel_rfl) rfl rfl rfl (by kernel_rfl) (fun h => by cases h) (by kernel_rfl)
theorem teSD_226 : TEOk Try.prog 226 ⟨Try.t225.desc, 11, 104, [.ints .u64 (8 : Nat) ([0, 0, 0, 0, 0, 0, 0, 0] : List Int), .raw (.slice none 0 0), .i .u64 (0 : Int), .raw (.pointer none)], false⟩ :=
  TEOk.of Try.underlying226 (i := Try.t226) (by kernel_rfl) rfl rfl rfl (by kernel_rfl) (fun h => by cases h) (by kernel_rfl)
noncomputable def tabSD : List (Nat × TE) := [(3, ⟨.int .i64, 1, 8, [.i .i64 (0 : Int)], false⟩), (5, ⟨.int .u8, 1, 1, [.i .u8 (0 : Int)], false⟩), (22, ⟨.slice 5, 1, 24, [.raw (.slice none 0 0)], false⟩), (147, ⟨.int .u64, 1, 8, [.i .u64 (0 : Int)], false⟩), (148, ⟨.array 8 147, 8, 64, [.ints .u64 (8 : Nat) ([0, 0, 0, 0, 0, 0, 0, 0] : List Int)], true⟩), (224, ⟨.pointer 222, 1, 8, [.raw (.pointer none)], false⟩), (226, ⟨Try.t225.desc, 11, 104, [.ints .u64 (8 : Nat) ([0, 0, 0, 0, 0, 0, 0, 0] : List Int), .raw (.slice none 0 0), .i .u64 (0 : Int), .raw (.pointer none)], false⟩)]
theorem tabOkSD : TabOk Try.prog (tabOf tabSD) := (tabOf_cons teSD_3 (tabOf_cons teSD_5 (tabOf_cons teSD_22 (tabOf_cons teSD_147 (tabOf_cons teSD_148 (tabOf_cons teSD_224 (tabOf_cons teSD_226 tabOf_nil)))))))

def wAL_mk (S : List Int) (tl : Nat) (N : Int) (L C : List Int) (n nm : Nat) (b : List Int) (cap3 k : Nat) (s : (List Int)) : St := ⟨sparse 105 [(0, .o (.a (.p 0 0))), (1, .o (.a (.sl 3 ((128 : Nat) * k) (n - ((128 : Nat) * k)) (cap3 - ((128 : Nat) * k))))), (5, .o (.a (.p 0 0))), (6, .o (.a (.b true))), (7, .o (.a (.b false))), (8, .o (.a (.p 0 0))), (9, .o (.a (.p 0 0))), (10, .o (.a (.p 0 9))), (11, .o (.a (.i .u64 N))), (12, .o (.a (.sl 3 0 n cap3))), (13, .o (.a (.i .i64 ((n : Nat) : Int)))), (14, .o (.a (.i .u64 (IntKind.u64.wrap ((n : Nat) : Int))))), (15, .o (.a (.i .u64 (IntKind.u64.wrap (N + (IntKind.u64.wrap ((n : Nat) : Int))))))), (16, .o (.a (.p 0 0))), (17, .o (.a (.p 0 9))), (18, .o (.a (.p 0 0))), (19, .o (.a (.p 0 0))), (20, .o (.a (.p 0 8))), (21, .o (.a (.rs 1 0 tl 1))), (22, .o (.a (.i .i64 ((tl : Nat) : Int)))), (23, .o (.a (.b (decide (((tl : Nat) : Int) > (0 : Int))))))], [some ⟨true, [.ints .u64 (8 : Nat) s, .rs 1 0 tl 1, .i .u64 (IntKind.u64.wrap (N + (IntKind.u64.wrap ((n : Nat) : Int)))), .p 2 0]⟩, some ⟨true, [.ints .u8 tl L]⟩, some ⟨false, [.ints .u64 (80 : Nat) C]⟩, some ⟨false, [.ints .u8 nm b]⟩]⟩

def wAL_step (C b : List Int) (k : Nat) (s : (List Int)) : (List Int) :=
  ((blk s (sub b ((128 : Nat) * k) (128 : Nat)) C))

set_option maxHeartbeats 1000000 in
theorem wAL_round (S : List Int) (tl : Nat) (N : Int) (L C : List Int) (n nm : Nat) (b : List Int) (cap3 : Nat) (h0 : (nm = n)) (h1 : (tl < (128 : Nat))) (h2 : (n < (140737488355328 : Nat))) (hc3 : n ≤ cap3) (hl0_0 : List.length S = (8 : Nat)) (hl1_0 : List.length L = tl) (hl2_0 : List.length C = (80 : Nat)) (hl3_0 : List.length b = nm) (hp : tl = 0) (w : World) (rw : List Nat) (β : Env) (k : Nat) (hk : k < (n / (128 : Nat))) (s : (List Int)) : Run Try.prog ⟨w, rw, 4, β⟩ (loopB Try.f84 0) (wAL_mk S tl N L C n nm b cap3 k s) (To ⟨w, rw, 4, β⟩ .normal (wAL_mk S tl N L C n nm b cap3 (k + 1) (wAL_step C b k s))) := by
  have e0 : ((cap3 - ((128 : Nat) * k)) - (128 : Nat)) = (cap3 - ((128 : Nat) * (k + (1 : Nat)))) := (by first | rfl | exact wrap_succ (by omega) | omega | (simp (disch := omega) only [wrapI]; omega))
  have e1 : ((n - ((128 : Nat) * k)) - (128 : Nat)) = (n - ((128 : Nat) * (k + (1 : Nat)))) := (by first | rfl | exact wrap_succ (by omega) | omega | (simp (disch := omega) only [wrapI]; omega))
  have e2 : (((128 : Nat) * k) + (128 : Nat)) = ((128 : Nat) * (k + (1 : Nat))) := (by first | rfl | exact wrap_succ (by omega) | omega | (simp (disch := omega) only [wrapI]; omega))
  have h := Run.of_outT (B := ⟨w, rw, 4, β⟩) (Λ := noLam) (Ψ := noPsi) (fuel := 0) (ora := [true]) (c := (loopB Try.f84 0)) (st := (wAL_mk S tl N L C n nm b cap3 k s)) (l := [.forget [0, 1, 5, 6, 7, 8, 9, 10, 11, 12, 13, 14, 15, 16, 17, 18, 19, 20, 21, 22, 23] 4]) (s' := ⟨sparse 105 [(0, .o (.a (.p 0 0))), (1, .o (.a (.sl 3 (((128 : Nat) * k) + (128 : Nat)) ((n - ((128 : Nat) * k)) - (128 : Nat)) ((cap3 - ((128 : Nat) * k)) - (128 : Nat))))), (5, .o (.a (.p 0 0))), (6, .o (.a (.b true))), (7, .o (.a (.b false))), (8, .o (.a (.p 0 0))), (9, .o (.a (.p 0 0))), (10, .o (.a (.p 0 9))), (11, .o (.a (.i .u64 N))), (12, .o (.a (.sl 3 0 n cap3))), (13, .o (.a (.i .i64 ((n : Nat) : Int)))), (14, .o (.a (.i .u64 (IntKind.u64.wrap ((n : Nat) : Int))))), (15, .o (.a (.i .u64 (IntKind.u64.wrap (N + (IntKind.u64.wrap ((n : Nat) : Int))))))), (16, .o (.a (.p 0 0))), (17, .o (.a (.p 0 9))), (18, .o (.a (.p 0 0))), (19, .o (.a (.p 0 0))), (20, .o (.a (.p 0 8))), (21, .o (.a (.rs 1 0 tl 1))), (22, .o (.a (.i .i64 ((tl : Nat) : Int)))), (23, .o (.a (.b (decide (((tl : Nat) : Int) > (0 : Int))))))], [some ⟨true, [.ints .u64 (8 : Nat) (wAL_step C b k s), .rs 1 0 tl 1, .i .u64 (IntKind.u64.wrap (N + (IntKind.u64.wrap ((n : Nat) : Int)))), .p 2 0]⟩, some ⟨true, [.ints .u8 tl L]⟩, some ⟨false, [.ints .u64 (80 : Nat) C]⟩, some ⟨false, [.ints .u8 nm b]⟩]⟩) (ex := .normal) mix tabOkSD gam12_ok
    (vc := [(((0 : Int) ≤ (128 : Int)) ∧ ((128 : Int) ≤ (((n - ((128 : Nat) * k)) : Nat) : Int))), ((True ∧ (((((128 : Nat) * k) + (128 : Nat)) ≤ nm) ∧ (True ∧ True))) ∧ (((128 : Nat) = (128 : Nat)) ∧ ((128 : Nat) = (128 : Nat)))), (((0 : Int) ≤ (0 : Int)) ∧ ((0 : Int) ≤ (128 : Int)) ∧ ((128 : Int) ≤ (((cap3 - ((128 : Nat) * k)) : Nat) : Int))), ((decide ((((n - ((128 : Nat) * k)) : Nat) : Int) ≥ (128 : Int))) = true)]) (by kernel_rfl)
    (aC ⟨(by decide), (by first | omega | (simp (disch := omega) only [wrapI]; omega))⟩ (aC ⟨⟨trivial, ⟨(by first | omega | (simp (disch := omega) only [wrapI]; omega)), ⟨trivial, trivial⟩⟩⟩, ⟨rfl, rfl⟩⟩ (aC ⟨(by decide), (by decide), (by first | omega | (simp (disch := omega) only [wrapI]; omega))⟩ (aC (decide_eq_true (by first | omega | (simp (disch := omega) only [wrapI]; omega))) (AllP_nil)))))
  rw [e0, e1, e2] at h
  exact h

set_option maxHeartbeats 1000000 in
theorem wAL_last (S : List Int) (tl : Nat) (N : Int) (L C : List Int) (n nm : Nat) (b : List Int) (cap3 : Nat) (h0 : (nm = n)) (h1 : (tl < (128 : Nat))) (h2 : (n < (140737488355328 : Nat))) (hc3 : n ≤ cap3) (hl0_0 : List.length S = (8 : Nat)) (hl1_0 : List.length L = tl) (hl2_0 : List.length C = (80 : Nat)) (hl3_0 : List.length b = nm) (hp : tl = 0) (w : World) (rw : List Nat) (β : Env) (s : (List Int)) : Run Try.prog ⟨w, rw, 4, β⟩ (loopB Try.f84 0) (wAL_mk S tl N L C n nm b cap3 (n / (128 : Nat)) s) (To ⟨w, rw, 4, β⟩ (.exit 0) (wAL_mk S tl N L C n nm b cap3 (n / (128 : Nat)) s)) :=
  Run.of_outT (B := ⟨w, rw, 4, β⟩) (Λ := noLam) (Ψ := noPsi) (fuel := 0) (ora := [false]) (l := [.forget [0, 1, 5, 6, 7, 8, 9, 10, 11, 12, 13, 14, 15, 16, 17, 18, 19, 20, 21, 22, 23] 4]) mix tabOkSD gam12_ok
    (vc := [((decide ((((n - ((128 : Nat) * (n / (128 : Nat)))) : Nat) : Int) ≥ (128 : Int))) = false)]) (by kernel_rfl)
    (aC (decide_eq_false (by first | omega | (simp (disch := omega) only [wrapI]; omega))) (AllP_nil))

theorem wAL_loop (S : List Int) (tl : Nat) (N : Int) (L C : List Int) (n nm : Nat) (b : List Int) (cap3 : Nat) (h0 : (nm = n)) (h1 : (tl < (128 : Nat))) (h2 : (n < (140737488355328 : Nat))) (hc3 : n ≤ cap3) (hl0_0 : List.length S = (8 : Nat)) (hl1_0 : List.length L = tl) (hl2_0 : List.length C = (80 : Nat)) (hl3_0 : List.length b = nm) (hp : tl = 0) (w : World) (rw : List Nat) (β : Env) (s : (List Int)) : Run Try.prog ⟨w, rw, 4, β⟩ (.block 0 (.loop (loopB Try.f84 0))) (wAL_mk S tl N L C n nm b cap3 0 s) (To ⟨w, rw, 4, β⟩ .normal (wAL_mk S tl N L C n nm b cap3 (n / (128 : Nat)) (iter (wAL_step C b) (n / (128 : Nat)) s))) :=
  Run.count (fun k => wAL_mk S tl N L C n nm b cap3 k (iter (wAL_step C b) k s)) (n / (128 : Nat)) (fun k hk => wAL_round S tl N L C n nm b cap3 h0 h1 h2 hc3 hl0_0 hl1_0 hl2_0 hl3_0 hp w rw β k hk _) (ex := (.exit 0)) (by simp) (wAL_last S tl N L C n nm b cap3 h0 h1 h2 hc3 hl0_0 hl1_0 hl2_0 hl3_0 hp w rw β _)

def wAL_out0 (C b : List Int) (n : Nat) (i0 : List Int) : List Int := (iter (wAL_step C b) (n / (128 : Nat)) (i0))

def wA (tl n : Nat) : Nat :=
  (tl + (n - ((128 : Nat) * (n / (128 : Nat)))))

def wA_1 (N : Int) (n : Nat) : Int :=
  (IntKind.u64.wrap (N + (IntKind.u64.wrap ((n : Nat) : Int))))

def wA_2 (tl : Nat) (L : List Int) (n : Nat) (b : List Int) : List Int :=
  ((sub L 0 tl) ++ (sub b ((128 : Nat) * (n / (128 : Nat))) (n - ((128 : Nat) * (n / (128 : Nat))))))

set_option maxHeartbeats 1000000 in
theorem wA_body0 (S : List Int) (tl : Nat) (N : Int) (L C : List Int) (n nm : Nat) (b : List Int) (cap3 : Nat) (h0 : (nm = n)) (h1 : (tl < (128 : Nat))) (h2 : (n < (140737488355328 : Nat))) (hc3 : n ≤ cap3) (hl0_0 : List.length S = (8 : Nat)) (hl1_0 : List.length L = tl) (hl2_0 : List.length C = (80 : Nat)) (hl3_0 : List.length b = nm) (hp : tl = 0) (w : World) (rw : List Nat) (β : Env) : Body Try.prog (tabOf tabSD) Try.f84 ⟨w, rw, 4, β⟩ [.o (.a (.p 0 0)), .o (.a (.sl 3 0 n cap3))] [some ⟨true, [.ints .u64 (8 : Nat) S, .rs 1 0 tl 1, .i .u64 N, .p 2 0]⟩, some ⟨true, [.ints .u8 tl L]⟩, some ⟨false, [.ints .u64 (80 : Nat) C]⟩, some ⟨false, [.ints .u8 nm b]⟩] (fun ys K' => ys = [] ∧ K' = [some ⟨true, [.ints .u64 (8 : Nat) (wAL_out0 C b n S), .rs 4 0 (wA tl n) 1, .i .u64 (wA_1 N n), .p 2 0]⟩, none, some ⟨false, [.ints .u64 (80 : Nat) C]⟩, some ⟨false, [.ints .u8 nm b]⟩, some ⟨true, [.ints .u8 (wA tl n) (wA_2 tl L n b)]⟩]) :=
  Body.of_finK (Γ := gam12) (Λ := lamOf [(0, ⟨[.forget [0, 1, 5, 6, 7, 8, 9, 10, 11, 12, 13, 14, 15, 16, 17, 18, 19, 20, 21, 22, 23] 4], .normal, (wAL_mk S tl N L C n nm b cap3 (n / (128 : Nat)) (iter (wAL_step C b) (n / (128 : Nat)) (S)))⟩)]) (Ψ := noPsi) (fuel := 0) (m := 105) (c := (Try.f84.body.getD .skip)) mix tabOkSD gam12_ok rfl (rs := []) rfl rfl [false, false, false] [] 5
    (vc := [((((0 : Nat) + tl) ≤ tl) ∧ (((n - ((128 : Nat) * (n / (128 : Nat)))) ≤ (n - ((128 : Nat) * (n / (128 : Nat))))) ∧ ((((128 : Nat) * (n / (128 : Nat))) + (n - ((128 : Nat) * (n / (128 : Nat))))) ≤ nm)) ∧ (((tl + (n - ((128 : Nat) * (n / (128 : Nat))))) * (1 : Nat)) ≤ (140737488355328 : Nat))), (Run Try.prog ⟨w, rw, 4, β⟩ (.block 0 (.loop (loopB Try.f84 0))) (wAL_mk S tl N L C n nm b cap3 0 (S)) (To ⟨w, rw, 4, β⟩ .normal (wAL_mk S tl N L C n nm b cap3 (n / (128 : Nat)) (iter (wAL_step C b) (n / (128 : Nat)) (S))))), ((decide (((tl : Nat) : Int) > (0 : Int))) = false), (false = false), ((True ∧ True) ∧ (tl = tl))]) (by kernel_rfl)
    (aC ⟨(by first | omega | (simp (disch := omega) only [wrapI]; omega)), ⟨(by first | omega | (simp (disch := omega) only [wrapI]; omega)), (by first | omega | (simp (disch := omega) only [wrapI]; omega))⟩, (by first | omega | (simp (disch := omega) only [wrapI]; omega))⟩ (aC (wAL_loop S tl N L C n nm b cap3 h0 h1 h2 hc3 hl0_0 hl1_0 hl2_0 hl3_0 hp w rw β (S)) (aC (decide_eq_false (by first | omega | (simp (disch := omega) only [wrapI]; omega))) (aC rfl (aC ⟨⟨trivial, trivial⟩, rfl⟩ (AllP_nil))))))

def wB (tl n : Nat) : Nat :=
  (tl + n)

def wB_1 (N : Int) (n : Nat) : Int :=
  (IntKind.u64.wrap (N + (IntKind.u64.wrap ((n : Nat) : Int))))

def wB_2 (tl : Nat) (L : List Int) (n : Nat) (b : List Int) : List Int :=
  ((sub L 0 tl) ++ (sub b 0 n))

set_option maxHeartbeats 1000000 in
theorem wB_body0 (S : List Int) (tl : Nat) (N : Int) (L C : List Int) (n nm : Nat) (b : List Int) (cap3 : Nat) (h0 : (nm = n)) (h1 : (tl < (128 : Nat))) (h2 : (n < (140737488355328 : Nat))) (hc3 : n ≤ cap3) (hl0_0 : List.length S = (8 : Nat)) (hl1_0 : List.length L = tl) (hl2_0 : List.length C = (80 : Nat)) (hl3_0 : List.length b = nm) (hp : 0 < tl) (hp2 : tl + n < 128) (w : World) (rw : List Nat) (β : Env) : Body Try.prog (tabOf tabSD) Try.f84 ⟨w, rw, 4, β⟩ [.o (.a (.p 0 0)), .o (.a (.sl 3 0 n cap3))] [some ⟨true, [.ints .u64 (8 : Nat) S, .rs 1 0 tl 1, .i .u64 N, .p 2 0]⟩, some ⟨true, [.ints .u8 tl L]⟩, some ⟨false, [.ints .u64 (80 : Nat) C]⟩, some ⟨false, [.ints .u8 nm b]⟩] (fun ys K' => ys = [] ∧ K' = [some ⟨true, [.ints .u64 (8 : Nat) S, .rs 4 0 (wB tl n) 1, .i .u64 (wB_1 N n), .p 2 0]⟩, none, some ⟨false, [.ints .u64 (80 : Nat) C]⟩, some ⟨false, [.ints .u8 nm b]⟩, some ⟨true, [.ints .u8 (wB tl n) (wB_2 tl L n b)]⟩]) :=
  Body.of_finK (Γ := gam12) (Λ := noLam) (Ψ := psiOf [(3, [.eqS 4 (.o (.a (.i .i64 ((n : Nat) : Int))))])]) (fuel := 0) (m := 105) (c := (Try.f84.body.getD .skip)) mix tabOkSD gam12_ok rfl (rs := []) rfl rfl [false, true, false, true] [] 5
    (vc := [((decide ((((tl + n) : Nat) : Int) < (128 : Int))) = true), (((0 : Int) ≤ ((n : Nat) : Int)) ∧ (((n : Nat) : Int) ≤ ((n : Nat) : Int))), ((((0 : Nat) + tl) ≤ tl) ∧ ((n ≤ n) ∧ (((0 : Nat) + n) ≤ nm)) ∧ (((tl + n) * (1 : Nat)) ≤ (140737488355328 : Nat))), (((0 : Int) ≤ (0 : Int)) ∧ ((0 : Int) ≤ ((n : Nat) : Int)) ∧ (((n : Nat) : Int) ≤ ((cap3 : Nat) : Int))), ((.o (.a (.i .i64 (if ((n : Nat) : Int) < (IntKind.i64.wrap ((128 : Int) - ((tl : Nat) : Int))) then ((n : Nat) : Int) else (IntKind.i64.wrap ((128 : Int) - ((tl : Nat) : Int)))))) : AV) = .o (.a (.i .i64 ((n : Nat) : Int)))), ((decide (((tl : Nat) : Int) > (0 : Int))) = true), (false = false), ((True ∧ True) ∧ (tl = tl))]) (by kernel_rfl)
    (aC (decide_eq_true (by first | omega | (simp (disch := omega) only [wrapI]; omega))) (aC ⟨(by first | omega | (simp (disch := omega) only [wrapI]; omega)), (by first | omega | (simp (disch := omega) only [wrapI]; omega))⟩ (aC ⟨(by first | omega | (simp (disch := omega) only [wrapI]; omega)), ⟨(by first | omega | (simp (disch := omega) only [wrapI]; omega)), (by first | omega | (simp (disch := omega) only [wrapI]; omega))⟩, (by first | omega | (simp (disch := omega) only [wrapI]; omega))⟩ (aC ⟨(by decide), (by first | omega | (simp (disch := omega) only [wrapI]; omega)), (by first | omega | (simp (disch := omega) only [wrapI]; omega))⟩ (aC ((congrArg (fun z => AV.o (.a (.i .i64 z))) (wmin_small hp2))) (aC (decide_eq_true (by first | omega | (simp (disch := omega) only [wrapI]; omega))) (aC rfl (aC ⟨⟨trivial, trivial⟩, rfl⟩ (AllP_nil)))))))))

def wCL_mk (S : List Int) (tl : Nat) (N : Int) (L C : List Int) (n nm : Nat) (b : List Int) (cap3 k : Nat) (s : (List Int)) : St := ⟨sparse 105 [(0, .o (.a (.p 0 0))), (1, .o (.a (.sl 3 (((0 : Nat) + ((128 : Nat) - tl)) + ((128 : Nat) * k)) ((n - ((128 : Nat) - tl)) - ((128 : Nat) * k)) ((cap3 - ((128 : Nat) - tl)) - ((128 : Nat) * k))))), (4, .o (.a (.i .i64 ((((128 : Nat) - tl) : Nat) : Int)))), (5, .o (.a (.p 0 0))), (6, .o (.a (.b true))), (7, .o (.a (.b false))), (8, .o (.a (.p 0 0))), (9, .o (.a (.p 0 0))), (10, .o (.a (.p 0 9))), (11, .o (.a (.i .u64 N))), (12, .o (.a (.sl 3 0 n cap3))), (13, .o (.a (.i .i64 ((n : Nat) : Int)))), (14, .o (.a (.i .u64 (IntKind.u64.wrap ((n : Nat) : Int))))), (15, .o (.a (.i .u64 (IntKind.u64.wrap (N + (IntKind.u64.wrap ((n : Nat) : Int))))))), (16, .o (.a (.p 0 0))), (17, .o (.a (.p 0 9))), (18, .o (.a (.p 0 0))), (19, .o (.a (.p 0 0))), (20, .o (.a (.p 0 8))), (21, .o (.a (.rs 1 0 tl 1))), (22, .o (.a (.i .i64 ((tl : Nat) : Int)))), (23, .o (.a (.b (decide (((tl : Nat) : Int) > (0 : Int)))))), (24, .o (.a (.p 0 0))), (25, .o (.a (.p 0 0))), (26, .o (.a (.p 0 8))), (27, .o (.a (.rs 1 0 tl 1))), (28, .o (.a (.i .i64 ((tl : Nat) : Int)))), (29, .o (.a (.i .i64 (IntKind.i64.wrap ((128 : Int) - ((tl : Nat) : Int)))))), (30, .o (.a (.sl 3 0 n cap3))), (31, .o (.a (.i .i64 ((n : Nat) : Int)))), (32, .o (.a (.i .i64 (if ((n : Nat) : Int) < (IntKind.i64.wrap ((128 : Int) - ((tl : Nat) : Int))) then ((n : Nat) : Int) else (IntKind.i64.wrap ((128 : Int) - ((tl : Nat) : Int))))))), (33, .o (.a (.p 0 0))), (34, .o (.a (.p 0 0))), (35, .o (.a (.p 0 0))), (36, .o (.a (.p 0 8))), (37, .o (.a (.rs 1 0 tl 1))), (38, .o (.a (.sl 3 0 n cap3))), (39, .o (.a (.i .i64 ((((128 : Nat) - tl) : Nat) : Int)))), (40, .o (.a (.sl 3 0 ((128 : Nat) - tl) cap3))), (41, .o (.a (.rs 4 0 (tl + ((128 : Nat) - tl)) 1))), (42, .o (.a (.sl 3 0 n cap3))), (43, .o (.a (.i .i64 ((((128 : Nat) - tl) : Nat) : Int)))), (44, .o (.a (.sl 3 ((0 : Nat) + ((128 : Nat) - tl)) (n - ((128 : Nat) - tl)) (cap3 - ((128 : Nat) - tl))))), (45, .o (.a (.p 0 0))), (46, .o (.a (.p 0 8))), (47, .o (.a (.p 0 0))), (48, .o (.a (.p 0 0))), (49, .o (.a (.p 0 8))), (50, .o (.a (.rs 4 0 (tl + ((128 : Nat) - tl)) 1))), (51, .o (.a (.i .i64 (((tl + ((128 : Nat) - tl)) : Nat) : Int)))), (52, .o (.a (.b (decide ((((tl + ((128 : Nat) - tl)) : Nat) : Int) < (128 : Int)))))), (53, .o (.a (.p 0 0))), (54, .o (.a (.p 0 0))), (55, .o (.a (.p 0 0))), (56, .o (.a (.p 0 0))), (57, .o (.g [.ints .u64 (8 : Nat) S])), (58, .o (.a (.p 0 0))), (59, .o (.a (.p 0 0))), (60, .o (.a (.p 0 8))), (61, .o (.a (.rs 4 0 (tl + ((128 : Nat) - tl)) 1))), (62, .o (.a (.p 0 0))), (63, .o (.a (.p 0 0))), (64, .o (.a (.p 0 10))), (65, .o (.a (.p 2 0))), (66, .o (.g [.ints .u64 (8 : Nat) (blk S (sub ((sub L 0 tl) ++ (sub b 0 ((128 : Nat) - tl))) (0 : Nat) (tl + ((128 : Nat) - tl))) C)])), (67, .o (.a (.p 0 0))), (68, .o (.a (.p 0 0))), (69, .o (.a (.p 0 0))), (70, .o (.a (.p 0 0))), (71, .o (.a (.p 0 0))), (72, .o (.a (.p 0 8))), (73, .o (.a (.rs 4 0 (tl + ((128 : Nat) - tl)) 1))), (74, .o (.a (.rs 4 0 (0 : Nat) 1))), (75, .o (.a (.p 0 0))), (76, .o (.a (.p 0 8)))], [some ⟨true, [.ints .u64 (8 : Nat) s, .rs 4 0 (0 : Nat) 1, .i .u64 (IntKind.u64.wrap (N + (IntKind.u64.wrap ((n : Nat) : Int)))), .p 2 0]⟩, none, some ⟨false, [.ints .u64 (80 : Nat) C]⟩, some ⟨false, [.ints .u8 nm b]⟩, some ⟨true, [.ints .u8 (tl + ((128 : Nat) - tl)) ((sub L 0 tl) ++ (sub b 0 ((128 : Nat) - tl)))]⟩]⟩

def wCL_step (tl : Nat) (C b : List Int) (k : Nat) (s : (List Int)) : (List Int) :=
  ((blk s (sub b (((0 : Nat) + ((128 : Nat) - tl)) + ((128 : Nat) * k)) (128 : Nat)) C))

set_option maxHeartbeats 1000000 in
theorem wCL_round (S : List Int) (tl : Nat) (N : Int) (L C : List Int) (n nm : Nat) (b : List Int) (cap3 : Nat) (h0 : (nm = n)) (h1 : (tl < (128 : Nat))) (h2 : (n < (140737488355328 : Nat))) (hc3 : n ≤ cap3) (hl0_0 : List.length S = (8 : Nat)) (hl1_0 : List.length L = tl) (hl2_0 : List.length C = (80 : Nat)) (hl3_0 : List.length b = nm) (hp : 0 < tl) (hp2 : 128 ≤ tl + n) (w : World) (rw : List Nat) (β : Env) (k : Nat) (hk : k < ((n - ((128 : Nat) - tl)) / (128 : Nat))) (s : (List Int)) : Run Try.prog ⟨w, rw, 4, β⟩ (loopB Try.f84 0) (wCL_mk S tl N L C n nm b cap3 k s) (To ⟨w, rw, 4, β⟩ .normal (wCL_mk S tl N L C n nm b cap3 (k + 1) (wCL_step tl C b k s))) := by
  have e0 : ((((0 : Nat) + ((128 : Nat) - tl)) + ((128 : Nat) * k)) + (128 : Nat)) = (((0 : Nat) + ((128 : Nat) - tl)) + ((128 : Nat) * (k + (1 : Nat)))) := (by first | rfl | exact wrap_succ (by omega) | omega | (simp (disch := omega) only [wrapI]; omega))
  have e1 : (((cap3 - ((128 : Nat) - tl)) - ((128 : Nat) * k)) - (128 : Nat)) = ((cap3 - ((128 : Nat) - tl)) - ((128 : Nat) * (k + (1 : Nat)))) := (by first | rfl | exact wrap_succ (by omega) | omega | (simp (disch := omega) only [wrapI]; omega))
  have e2 : (((n - ((128 : Nat) - tl)) - ((128 : Nat) * k)) - (128 : Nat)) = ((n - ((128 : Nat) - tl)) - ((128 : Nat) * (k + (1 : Nat)))) := (by first | rfl | exact wrap_succ (by omega) | omega | (simp (disch := omega) only [wrapI]; omega))
  have h := Run.of_outT (B := ⟨w, rw, 4, β⟩) (Λ := noLam) (Ψ := noPsi) (fuel := 0) (ora := [true]) (c := (loopB Try.f84 0)) (st := (wCL_mk S tl N L C n nm b cap3 k s)) (l := [.forget [0, 1, 4, 5, 6, 7, 8, 9, 10, 11, 12, 13, 14, 15, 16, 17, 18, 19, 20, 21, 22, 23, 24, 25, 26, 27, 28, 29, 30, 31, 32, 33, 34, 35, 36, 37, 38, 39, 40, 41, 42, 43, 44, 45, 46, 47, 48, 49, 50, 51, 52, 53, 54, 55, 56, 57, 58, 59, 60, 61, 62, 63, 64, 65, 66, 67, 68, 69, 70, 71, 72, 73, 74, 75, 76] 5]) (s' := ⟨sparse 105 [(0, .o (.a (.p 0 0))), (1, .o (.a (.sl 3 ((((0 : Nat) + ((128 : Nat) - tl)) + ((128 : Nat) * k)) + (128 : Nat)) (((n - ((128 : Nat) - tl)) - ((128 : Nat) * k)) - (128 : Nat)) (((cap3 - ((128 : Nat) - tl)) - ((128 : Nat) * k)) - (128 : Nat))))), (4, .o (.a (.i .i64 ((((128 : Nat) - tl) : Nat) : Int)))), (5, .o (.a (.p 0 0))), (6, .o (.a (.b true))), (7, .o (.a (.b false))), (8, .o (.a (.p 0 0))), (9, .o (.a (.p 0 0))), (10, .o (.a (.p 0 9))), (11, .o (.a (.i .u64 N))), (12, .o (.a (.sl 3 0 n cap3))), (13, .o (.a (.i .i64 ((n : Nat) : Int)))), (14, .o (.a (.i .u64 (IntKind.u64.wrap ((n : Nat) : Int))))), (15, .o (.a (.i .u64 (IntKind.u64.wrap (N + (IntKind.u64.wrap ((n : Nat) : Int))))))), (16, .o (.a (.p 0 0))), (17, .o (.a (.p 0 9))), (18, .o (.a (.p 0 0))), (19, .o (.a (.p 0 0))), (20, .o (.a (.p 0 8))), (21, .o (.a (.rs 1 0 tl 1))), (22, .o (.a (.i .i64 ((tl : Nat) : Int)))), (23, .o (.a (.b (decide (((tl : Nat) : Int) > (0 : Int)))))), (24, .o (.a (.p 0 0))), (25, .o (.a (.p 0 0))), (26, .o (.a (.p 0 8))), (27, .o (.a (.rs 1 0 tl 1))), (28, .o (.a (.i .i64 ((tl : Nat) : Int)))), (29, .o (.a (.i .i64 (IntKind.i64.wrap ((128 : Int) - ((tl : Nat) : Int)))))), (30, .o (.a (.sl 3 0 n cap3))), (31, .o (.a (.i .i64 ((n : Nat) : Int)))), (32, .o (.a (.i .i64 (if ((n : Nat) : Int) < (IntKind.i64.wrap ((128 : Int) - ((tl : Nat) : Int))) then ((n : Nat) : Int) else (IntKind.i64.wrap ((128 : Int) - ((tl : Nat) : Int))))))), (33, .o (.a (.p 0 0))), (34, .o (.a (.p 0 0))), (35, .o (.a (.p 0 0))), (36, .o (.a (.p 0 8))), (37, .o (.a (.rs 1 0 tl 1))), (38, .o (.a (.sl 3 0 n cap3))), (39, .o (.a (.i .i64 ((((128 : Nat) - tl) : Nat) : Int)))), (40, .o (.a (.sl 3 0 ((128 : Nat) - tl) cap3))), (41, .o (.a (.rs 4 0 (tl + ((128 : Nat) - tl)) 1))), (42, .o (.a (.sl 3 0 n cap3))), (43, .o (.a (.i .i64 ((((128 : Nat) - tl) : Nat) : Int)))), (44, .o (.a (.sl 3 ((0 : Nat) + ((128 : Nat) - tl)) (n - ((128 : Nat) - tl)) (cap3 - ((128 : Nat) - tl))))), (45, .o (.a (.p 0 0))), (46, .o (.a (.p 0 8))), (47, .o (.a (.p 0 0))), (48, .o (.a (.p 0 0))), (49, .o (.a (.p 0 8))), (50, .o (.a (.rs 4 0 (tl + ((128 : Nat) - tl)) 1))), (51, .o (.a (.i .i64 (((tl + ((128 : Nat) - tl)) : Nat) : Int)))), (52, .o (.a (.b (decide ((((tl + ((128 : Nat) - tl)) : Nat) : Int) < (128 : Int)))))), (53, .o (.a (.p 0 0))), (54, .o (.a (.p 0 0))), (55, .o (.a (.p 0 0))), (56, .o (.a (.p 0 0))), (57, .o (.g [.ints .u64 (8 : Nat) S])), (58, .o (.a (.p 0 0))), (59, .o (.a (.p 0 0))), (60, .o (.a (.p 0 8))), (61, .o (.a (.rs 4 0 (tl + ((128 : Nat) - tl)) 1))), (62, .o (.a (.p 0 0))), (63, .o (.a (.p 0 0))), (64, .o (.a (.p 0 10))), (65, .o (.a (.p 2 0))), (66, .o (.g [.ints .u64 (8 : Nat) (blk S (sub ((sub L 0 tl) ++ (sub b 0 ((128 : Nat) - tl))) (0 : Nat) (tl + ((128 : Nat) - tl))) C)])), (67, .o (.a (.p 0 0))), (68, .o (.a (.p 0 0))), (69, .o (.a (.p 0 0))), (70, .o (.a (.p 0 0))), (71, .o (.a (.p 0 0))), (72, .o (.a (.p 0 8))), (73, .o (.a (.rs 4 0 (tl + ((128 : Nat) - tl)) 1))), (74, .o (.a (.rs 4 0 (0 : Nat) 1))), (75, .o (.a (.p 0 0))), (76, .o (.a (.p 0 8)))], [some ⟨true, [.ints .u64 (8 : Nat) (wCL_step tl C b k s), .rs 4 0 (0 : Nat) 1, .i .u64 (IntKind.u64.wrap (N + (IntKind.u64.wrap ((n : Nat) : Int)))), .p 2 0]⟩, none, some ⟨false, [.ints .u64 (80 : Nat) C]⟩, some ⟨false, [.ints .u8 nm b]⟩, some ⟨true, [.ints .u8 (tl + ((128 : Nat) - tl)) ((sub L 0 tl) ++ (sub b 0 ((128 : Nat) - tl)))]⟩]⟩) (ex := .normal) mix tabOkSD gam12_ok
    (vc := [(((0 : Int) ≤ (128 : Int)) ∧ ((128 : Int) ≤ ((((n - ((128 : Nat) - tl)) - ((128 : Nat) * k)) : Nat) : Int))), ((True ∧ ((((((0 : Nat) + ((128 : Nat) - tl)) + ((128 : Nat) * k)) + (128 : Nat)) ≤ nm) ∧ (True ∧ True))) ∧ (((128 : Nat) = (128 : Nat)) ∧ ((128 : Nat) = (128 : Nat)))), (((0 : Int) ≤ (0 : Int)) ∧ ((0 : Int) ≤ (128 : Int)) ∧ ((128 : Int) ≤ ((((cap3 - ((128 : Nat) - tl)) - ((128 : Nat) * k)) : Nat) : Int))), ((decide (((((n - ((128 : Nat) - tl)) - ((128 : Nat) * k)) : Nat) : Int) ≥ (128 : Int))) = true)]) (by kernel_rfl)
    (aC ⟨(by decide), (by first | omega | (simp (disch := omega) only [wrapI]; omega))⟩ (aC ⟨⟨trivial, ⟨(by first | omega | (simp (disch := omega) only [wrapI]; omega)), ⟨trivial, trivial⟩⟩⟩, ⟨rfl, rfl⟩⟩ (aC ⟨(by decide), (by decide), (by first | omega | (simp (disch := omega) only [wrapI]; omega))⟩ (aC (decide_eq_true (by first | omega | (simp (disch := omega) only [wrapI]; omega))) (AllP_nil)))))
  rw [e0, e1, e2] at h
  exact h

set_option maxHeartbeats 1000000 in
theorem wCL_last (S : List Int) (tl : Nat) (N : Int) (L C : List Int) (n nm : Nat) (b : List Int) (cap3 : Nat) (h0 : (nm = n)) (h1 : (tl < (128 : Nat))) (h2 : (n < (140737488355328 : Nat))) (hc3 : n ≤ cap3) (hl0_0 : List.length S = (8 : Nat)) (hl1_0 : List.length L = tl) (hl2_0 : List.length C = (80 : Nat)) (hl3_0 : List.length b = nm) (hp : 0 < tl) (hp2 : 128 ≤ tl + n) (w : World) (rw : List Nat) (β : Env) (s : (List Int)) : Run Try.prog ⟨w, rw, 4, β⟩ (loopB Try.f84 0) (wCL_mk S tl N L C n nm b cap3 ((n - ((128 : Nat) - tl)) / (128 : Nat)) s) (To ⟨w, rw, 4, β⟩ (.exit 0) (wCL_mk S tl N L C n nm b cap3 ((n - ((128 : Nat) - tl)) / (128 : Nat)) s)) :=
  Run.of_outT (B := ⟨w, rw, 4, β⟩) (Λ := noLam) (Ψ := noPsi) (fuel := 0) (ora := [false]) (l := [.forget [0, 1, 4, 5, 6, 7, 8, 9, 10, 11, 12, 13, 14, 15, 16, 17, 18, 19, 20, 21, 22, 23, 24, 25, 26, 27, 28, 29, 30, 31, 32, 33, 34, 35, 36, 37, 38, 39, 40, 41, 42, 43, 44, 45, 46, 47, 48, 49, 50, 51, 52, 53, 54, 55, 56, 57, 58, 59, 60, 61, 62, 63, 64, 65, 66, 67, 68, 69, 70, 71, 72, 73, 74, 75, 76] 5]) mix tabOkSD gam12_ok
    (vc := [((decide (((((n - ((128 : Nat) - tl)) - ((128 : Nat) * ((n - ((128 : Nat) - tl)) / (128 : Nat)))) : Nat) : Int) ≥ (128 : Int))) = false)]) (by kernel_rfl)
    (aC (decide_eq_false (by first | omega | (simp (disch := omega) only [wrapI]; omega))) (AllP_nil))

theorem wCL_loop (S : List Int) (tl : Nat) (N : Int) (L C : List Int) (n nm : Nat) (b : List Int) (cap3 : Nat) (h0 : (nm = n)) (h1 : (tl < (128 : Nat))) (h2 : (n < (140737488355328 : Nat))) (hc3 : n ≤ cap3) (hl0_0 : List.length S = (8 : Nat)) (hl1_0 : List.length L = tl) (hl2_0 : List.length C = (80 : Nat)) (hl3_0 : List.length b = nm) (hp : 0 < tl) (hp2 : 128 ≤ tl + n) (w : World) (rw : List Nat) (β : Env) (s : (List Int)) : Run Try.prog ⟨w, rw, 4, β⟩ (.block 0 (.loop (loopB Try.f84 0))) (wCL_mk S tl N L C n nm b cap3 0 s) (To ⟨w, rw, 4, β⟩ .normal (wCL_mk S tl N L C n nm b cap3 ((n - ((128 : Nat) - tl)) / (128 : Nat)) (iter (wCL_step tl C b) ((n - ((128 : Nat) - tl)) / (128 : Nat)) s))) :=
  Run.count (fun k => wCL_mk S tl N L C n nm b cap3 k (iter (wCL_step tl C b) k s)) ((n - ((128 : Nat) - tl)) / (128 : Nat)) (fun k hk => wCL_round S tl N L C n nm b cap3 h0 h1 h2 hc3 hl0_0 hl1_0 hl2_0 hl3_0 hp hp2 w rw β k hk _) (ex := (.exit 0)) (by simp) (wCL_last S tl N L C n nm b cap3 h0 h1 h2 hc3 hl0_0 hl1_0 hl2_0 hl3_0 hp hp2 w rw β _)

def wCL_out0 (tl : Nat) (C b : List Int) (n : Nat) (i0 : List Int) : List Int := (iter (wCL_step tl C b) ((n - ((128 : Nat) - tl)) / (128 : Nat)) (i0))

def wC (S : List Int) (tl : Nat) (L C : List Int) (n : Nat) (b : List Int) : List Int :=
  (wCL_out0 tl C b n (blk S (sub ((sub L 0 tl) ++ (sub b 0 ((128 : Nat) - tl))) (0 : Nat) (tl + ((128 : Nat) - tl))) C))

def wC_1 (tl n : Nat) : Nat :=
  let z0 : Nat := (n - ((128 : Nat) - tl))
  ((0 : Nat) + (z0 - ((128 : Nat) * (z0 / (128 : Nat)))))

def wC_2 (N : Int) (n : Nat) : Int :=
  (IntKind.u64.wrap (N + (IntKind.u64.wrap ((n : Nat) : Int))))

def wC_3 (tl : Nat) (L : List Int) (n : Nat) (b : List Int) : List Int :=
  let z0 : Nat := (n - ((128 : Nat) - tl))
  let z1 : Nat := ((128 : Nat) * (z0 / (128 : Nat)))
  ((sub ((sub L 0 tl) ++ (sub b 0 ((128 : Nat) - tl))) (0 : Nat) (0 : Nat)) ++ (sub b (((0 : Nat) + ((128 : Nat) - tl)) + z1) (z0 - z1)))

set_option maxHeartbeats 1000000 in
theorem wC_body0 (S : List Int) (tl : Nat) (N : Int) (L C : List Int) (n nm : Nat) (b : List Int) (cap3 : Nat) (h0 : (nm = n)) (h1 : (tl < (128 : Nat))) (h2 : (n < (140737488355328 : Nat))) (hc3 : n ≤ cap3) (hl0_0 : List.length S = (8 : Nat)) (hl1_0 : List.length L = tl) (hl2_0 : List.length C = (80 : Nat)) (hl3_0 : List.length b = nm) (hp : 0 < tl) (hp2 : 128 ≤ tl + n) (w : World) (rw : List Nat) (β : Env) : Body Try.prog (tabOf tabSD) Try.f84 ⟨w, rw, 4, β⟩ [.o (.a (.p 0 0)), .o (.a (.sl 3 0 n cap3))] [some ⟨true, [.ints .u64 (8 : Nat) S, .rs 1 0 tl 1, .i .u64 N, .p 2 0]⟩, some ⟨true, [.ints .u8 tl L]⟩, some ⟨false, [.ints .u64 (80 : Nat) C]⟩, some ⟨false, [.ints .u8 nm b]⟩] (fun ys K' => ys = [] ∧ K' = [some ⟨true, [.ints .u64 (8 : Nat) (wC S tl L C n b), .rs 4 0 (wC_1 tl n) 1, .i .u64 (wC_2 N n), .p 2 0]⟩, none, some ⟨false, [.ints .u64 (80 : Nat) C]⟩, some ⟨false, [.ints .u8 nm b]⟩, some ⟨true, [.ints .u8 (wC_1 tl n) (wC_3 tl L n b)]⟩]) :=
  Body.of_finK (Γ := gam12) (Λ := lamOf [(0, ⟨[.forget [0, 1, 4, 5, 6, 7, 8, 9, 10, 11, 12, 13, 14, 15, 16, 17, 18, 19, 20, 21, 22, 23, 24, 25, 26, 27, 28, 29, 30, 31, 32, 33, 34, 35, 36, 37, 38, 39, 40, 41, 42, 43, 44, 45, 46, 47, 48, 49, 50, 51, 52, 53, 54, 55, 56, 57, 58, 59, 60, 61, 62, 63, 64, 65, 66, 67, 68, 69, 70, 71, 72, 73, 74, 75, 76] 5], .normal, (wCL_mk S tl N L C n nm b cap3 ((n - ((128 : Nat) - tl)) / (128 : Nat)) (iter (wCL_step tl C b) ((n - ((128 : Nat) - tl)) / (128 : Nat)) ((blk S (sub ((sub L 0 tl) ++ (sub b 0 ((128 : Nat) - tl))) (0 : Nat) (tl + ((128 : Nat) - tl))) C))))⟩)]) (Ψ := psiOf [(3, [.eqS 4 (.o (.a (.i .i64 ((((128 : Nat) - tl) : Nat) : Int))))])]) (fuel := 0) (m := 105) (c := (Try.f84.body.getD .skip)) mix tabOkSD gam12_ok rfl (rs := []) rfl rfl [false, true, false, false, false] [.swap 4 5, .forget [] 5] 5
    (vc := [(((0 : Nat) ≤ (tl + ((128 : Nat) - tl))) ∧ ((((n - ((128 : Nat) - tl)) - ((128 : Nat) * ((n - ((128 : Nat) - tl)) / (128 : Nat)))) ≤ ((n - ((128 : Nat) - tl)) - ((128 : Nat) * ((n - ((128 : Nat) - tl)) / (128 : Nat))))) ∧ (((((0 : Nat) + ((128 : Nat) - tl)) + ((128 : Nat) * ((n - ((128 : Nat) - tl)) / (128 : Nat)))) + ((n - ((128 : Nat) - tl)) - ((128 : Nat) * ((n - ((128 : Nat) - tl)) / (128 : Nat))))) ≤ nm)) ∧ ((((0 : Nat) + ((n - ((128 : Nat) - tl)) - ((128 : Nat) * ((n - ((128 : Nat) - tl)) / (128 : Nat))))) * (1 : Nat)) ≤ (140737488355328 : Nat))), (Run Try.prog ⟨w, rw, 4, β⟩ (.block 0 (.loop (loopB Try.f84 0))) (wCL_mk S tl N L C n nm b cap3 0 ((blk S (sub ((sub L 0 tl) ++ (sub b 0 ((128 : Nat) - tl))) (0 : Nat) (tl + ((128 : Nat) - tl))) C))) (To ⟨w, rw, 4, β⟩ .normal (wCL_mk S tl N L C n nm b cap3 ((n - ((128 : Nat) - tl)) / (128 : Nat)) (iter (wCL_step tl C b) ((n - ((128 : Nat) - tl)) / (128 : Nat)) ((blk S (sub ((sub L 0 tl) ++ (sub b 0 ((128 : Nat) - tl))) (0 : Nat) (tl + ((128 : Nat) - tl))) C)))))), (((0 : Int) ≤ (0 : Int)) ∧ ((0 : Int) ≤ (0 : Int)) ∧ ((0 : Int) ≤ (((tl + ((128 : Nat) - tl)) : Nat) : Int))), ((True ∧ ((((0 : Nat) + (tl + ((128 : Nat) - tl))) ≤ (tl + ((128 : Nat) - tl))) ∧ (True ∧ True))) ∧ (((tl + ((128 : Nat) - tl)) = (tl + ((128 : Nat) - tl))) ∧ ((tl + ((128 : Nat) - tl)) = (128 : Nat)))), ((decide ((((tl + ((128 : Nat) - tl)) : Nat) : Int) < (128 : Int))) = false), (((0 : Int) ≤ ((((128 : Nat) - tl) : Nat) : Int)) ∧ (((((128 : Nat) - tl) : Nat) : Int) ≤ ((n : Nat) : Int))), ((((0 : Nat) + tl) ≤ tl) ∧ ((((128 : Nat) - tl) ≤ ((128 : Nat) - tl)) ∧ (((0 : Nat) + ((128 : Nat) - tl)) ≤ nm)) ∧ (((tl + ((128 : Nat) - tl)) * (1 : Nat)) ≤ (140737488355328 : Nat))), (((0 : Int) ≤ (0 : Int)) ∧ ((0 : Int) ≤ ((((128 : Nat) - tl) : Nat) : Int)) ∧ (((((128 : Nat) - tl) : Nat) : Int) ≤ ((cap3 : Nat) : Int))), ((.o (.a (.i .i64 (if ((n : Nat) : Int) < (IntKind.i64.wrap ((128 : Int) - ((tl : Nat) : Int))) then ((n : Nat) : Int) else (IntKind.i64.wrap ((128 : Int) - ((tl : Nat) : Int)))))) : AV) = .o (.a (.i .i64 ((((128 : Nat) - tl) : Nat) : Int)))), ((decide (((tl : Nat) : Int) > (0 : Int))) = true), (false = false), ((True ∧ True) ∧ (tl = tl))]) (by kernel_rfl)
    (aC ⟨(by first | omega | (simp (disch := omega) only [wrapI]; omega)), ⟨(by first | omega | (simp (disch := omega) only [wrapI]; omega)), (by first | omega | (simp (disch := omega) only [wrapI]; omega))⟩, (by first | omega | (simp (disch := omega) only [wrapI]; omega))⟩ (aC (wCL_loop S tl N L C n nm b cap3 h0 h1 h2 hc3 hl0_0 hl1_0 hl2_0 hl3_0 hp hp2 w rw β ((blk S (sub ((sub L 0 tl) ++ (sub b 0 ((128 : Nat) - tl))) (0 : Nat) (tl + ((128 : Nat) - tl))) C))) (aC ⟨(by decide), (by decide), (by first | omega | (simp (disch := omega) only [wrapI]; omega))⟩ (aC ⟨⟨trivial, ⟨(by first | omega | (simp (disch := omega) only [wrapI]; omega)), ⟨trivial, trivial⟩⟩⟩, ⟨rfl, (by first | omega | (simp (disch := omega) only [wrapI]; omega))⟩⟩ (aC (decide_eq_false (by first | omega | (simp (disch := omega) only [wrapI]; omega))) (aC ⟨(by first | omega | (simp (disch := omega) only [wrapI]; omega)), (by first | omega | (simp (disch := omega) only [wrapI]; omega))⟩ (aC ⟨(by first | omega | (simp (disch := omega) only [wrapI]; omega)), ⟨(by first | omega | (simp (disch := omega) only [wrapI]; omega)), (by first | omega | (simp (disch := omega) only [wrapI]; omega))⟩, (by first | omega | (simp (disch := omega) only [wrapI]; omega))⟩ (aC ⟨(by decide), (by first | omega | (simp (disch := omega) only [wrapI]; omega)), (by first | omega | (simp (disch := omega) only [wrapI]; omega))⟩ (aC ((congrArg (fun z => AV.o (.a (.i .i64 z))) (wmin_big hp2 h1))) (aC (decide_eq_true (by first | omega | (simp (disch := omega) only [wrapI]; omega))) (aC rfl (aC ⟨⟨trivial, trivial⟩, rfl⟩ (AllP_nil)))))))))))))

end Go.Proofs.Ytlmdhjojinkdbaa.X

/- A Hasher that takes some more bytes: what it holds then, in one form. -/
namespace Go.Proofs.Ytlmdhjojinkdbaa.X
open Go Go.Proofs
set_option linter.unusedVariables false

theorem iter_congr {α : Type} {f g : Nat → α → α} : ∀ {k : Nat} {s : α}, (∀ i s, i < k → f i s = g i s) → iter f k s = iter g k s
  | 0, _, _ => rfl
  | k + 1, s, h => by
    show f k (iter f k s) = g k (iter g k s)
    rw [iter_congr fun i s hi => h i s (by omega), h k _ (by omega)]

theorem iter_head {α : Type} {f : Nat → α → α} : ∀ {k : Nat} {s : α}, iter f (k + 1) s = iter (fun i => f (i + 1)) k (f 0 s)
  | 0, _ => rfl
  | k + 1, s => by
    show f (k + 1) (iter f (k + 1) s) = f (k + 1) (iter (fun i => f (i + 1)) k (f 0 s))
    rw [iter_head]

/-- the state behind k blocks -/
def absN (C D : List Int) (k : Nat) (S : List Int) : List Int := iter (fun i s => blk s (sub D (128 * i) 128) C) k S

theorem sub_all {α : Type} (l : List α) (m : Nat) (h : l.length ≤ m) : sub l 0 m = l := by
  simp [sub, List.take_of_length_le h]
theorem sub_drop {α : Type} (l : List α) (c m : Nat) (h : l.length ≤ c + m) : sub l c m = l.drop c := by
  unfold sub; rw [List.take_of_length_le (by simp; omega)]
theorem sub_zero {α : Type} (l : List α) (c : Nat) : sub l c 0 = [] := by simp [sub]

def wrS (C S L b : List Int) (tl n : Nat) : List Int := absN C (L ++ b) ((tl + n) / 128) S
def wrT (tl n : Nat) : Nat := (tl + n) % 128
def wrN (N : Int) (n : Nat) : Int := IntKind.u64.wrap (N + IntKind.u64.wrap ((n : Nat) : Int))
def wrL (L b : List Int) (tl n : Nat) : List Int := (L ++ b).drop (128 * ((tl + n) / 128))

theorem wr_body (S : List Int) (tl : Nat) (N : Int) (L C : List Int) (n nm : Nat) (b : List Int) (cap3 : Nat) (h0 : (nm = n)) (h1 : (tl < (128 : Nat))) (h2 : (n < (140737488355328 : Nat))) (w : World) (rw : List Nat) (β : Env) :
    Body Try.prog (tabOf tabSD) Try.f84 ⟨w, rw, 4, β⟩ [.o (.a (.p 0 0)), .o (.a (.sl 3 0 n cap3))] [some ⟨true, [.ints .u64 (8 : Nat) S, .rs 1 0 tl 1, .i .u64 N, .p 2 0]⟩, some ⟨true, [.ints .u8 tl L]⟩, some ⟨false, [.ints .u64 (80 : Nat) C]⟩, some ⟨false, [.ints .u8 nm b]⟩]
      (fun ys K' => ys = [] ∧ K' = [some ⟨true, [.ints .u64 (8 : Nat) (wrS C S L b tl n), .rs 4 0 (wrT tl n) 1, .i .u64 (wrN N n), .p 2 0]⟩, none, some ⟨false, [.ints .u64 (80 : Nat) C]⟩, some ⟨false, [.ints .u8 nm b]⟩, some ⟨true, [.ints .u8 (wrT tl n) (wrL L b tl n)]⟩]) := by
  refine Body.lens (c := (Try.f84.body.getD .skip)) rfl fun h => ?_
  have hc3 : n ≤ cap3 := h.caps 1 _ _ _ _ rfl
  have hS : S.length = 8 := h.lens 0 _ .u64 8 S rfl (by simp)
  have hL : L.length = tl := h.lens 1 _ .u8 tl L rfl (by simp)
  have hC : C.length = 80 := h.lens 2 _ .u64 80 C rfl (by simp)
  have hb : b.length = nm := h.lens 3 _ .u8 nm b rfl (by simp)
  subst h0
  by_cases hp : tl = 0
  · refine (wA_body0 S tl N L C nm nm b cap3 rfl h1 h2 hc3 hS hL hC hb hp w rw β).mono fun xs K hx => ?_
    obtain ⟨rfl, rfl⟩ := hx
    have hnil : L = [] := List.length_eq_zero_iff.1 (by omega)
    have e1 : wAL_out0 C b nm S = wrS C S L b tl nm := by
      unfold wAL_out0 wrS absN
      rw [hp, hnil, Nat.zero_add]
      exact iter_congr fun i s hi => rfl
    have e2 : wA tl nm = wrT tl nm := by unfold wA wrT; omega
    have e3 : wA_2 tl L nm b = wrL L b tl nm := by
      unfold wA_2 wrL
      rw [hnil, hp, sub_zero, List.nil_append, List.nil_append, sub_drop _ _ _ (by omega), Nat.zero_add]
    have e4 : wA_1 N nm = wrN N nm := rfl
    rw [e1, e2, e3, e4]; exact ⟨rfl, rfl⟩
  · by_cases hq : tl + nm < 128
    · refine (wB_body0 S tl N L C nm nm b cap3 rfl h1 h2 hc3 hS hL hC hb (by omega) hq w rw β).mono fun xs K hx => ?_
      obtain ⟨rfl, rfl⟩ := hx
      have hd : (tl + nm) / 128 = 0 := by omega
      have e1 : S = wrS C S L b tl nm := by unfold wrS absN; rw [hd]; rfl
      have e2 : wB tl nm = wrT tl nm := by unfold wB wrT; omega
      have e3 : wB_2 tl L nm b = wrL L b tl nm := by
        unfold wB_2 wrL
        rw [hd, sub_all _ _ (by omega), sub_all _ _ (by omega)]; rfl
      have e4 : wB_1 N nm = wrN N nm := rfl
      rw [e2, e3, e4, ← e1]; exact ⟨rfl, rfl⟩
    · refine (wC_body0 S tl N L C nm nm b cap3 rfl h1 h2 hc3 hS hL hC hb (by omega) (by omega) w rw β).mono fun xs K hx => ?_
      obtain ⟨rfl, rfl⟩ := hx
      have hd : (tl + nm) / 128 = (nm - (128 - tl)) / 128 + 1 := by omega
      have hfirst : sub ((sub L 0 tl) ++ (sub b 0 ((128 : Nat) - tl))) (0 : Nat) (tl + ((128 : Nat) - tl)) = sub (L ++ b) 0 128 := by
        rw [sub_all L _ (by omega), sub_all _ _ (by simp [sub]; omega)]
        unfold sub
        simp only [List.drop_zero]
        rw [List.take_append, List.take_of_length_le (l := L) (by omega), hL]
      have e1 : wC S tl L C nm b = wrS C S L b tl nm := by
        unfold wC wCL_out0 wrS absN
        rw [hfirst, hd, iter_head]
        refine iter_congr fun i s hi => ?_
        show blk s _ C = blk s _ C
        congr 1
        unfold sub
        rw [List.drop_append, List.drop_of_length_le (l := L) (by omega), List.nil_append, hL]
        congr 2; omega
      have e2 : wC_1 tl nm = wrT tl nm := by unfold wC_1 wrT; simp only; omega
      have e3 : wC_3 tl L nm b = wrL L b tl nm := by
        unfold wC_3 wrL
        simp only
        rw [sub_zero, List.nil_append, hd, List.drop_append, List.drop_of_length_le (l := L) (by omega), List.nil_append, hL, sub_drop _ _ _ (by omega)]
        congr 1; omega
      have e4 : wC_2 N nm = wrN N nm := rfl
      rw [e1, e2, e3, e4]; exact ⟨rfl, rfl⟩
end Go.Proofs.Ytlmdhjojinkdbaa.X

/- Plain lemmas on the bytes behind a message, for the walk of a Hasher's Sum. -/
namespace Go.Proofs.Ytlmdhjojinkdbaa.X
open Go Go.Proofs

theorem pad_eq (N : Int) : pad N = (padE N).toNat + 16 := rfl

theorem pad_le (N : Int) : 17 ≤ pad N ∧ pad N ≤ 144 := by
  have := padE_ok N
  rw [pad_eq]; omega

theorem pad_mod {N : Int} {tl : Nat} (h0 : 0 ≤ N) (h : Int.tmod N 128 = ((tl : Nat) : Int)) : (tl + pad N) % 128 = 0 ∧ tl < 128 := by
  have h1 : Int.tmod N 128 = N % 128 := Int.tmod_eq_emod_of_nonneg h0
  have h2 : padE N = 1 + (239 - (tl : Int)) % 128 := by
    unfold padE
    rw [h]
    have : (tl : Int) < 128 := by omega
    rw [wrapU (x := 239 - (tl : Int)) (by omega) (by omega), Int.tmod_eq_emod_of_nonneg (by omega), wrapU (by omega) (by omega)]
  rw [pad_eq, h2]
  omega
end Go.Proofs.Ytlmdhjojinkdbaa.X

/- Printed by a tool of this session. -/
namespace Go.Proofs.Ytlmdhjojinkdbaa.X
open Go Go.Proofs
set_option linter.unusedVariables false
set_option linter.unusedSimpArgs false
set_option maxRecDepth 100000
theorem teSG_3 : TEOk Try.prog 3 ⟨.int .i64, 1, 8, [.i .i64 (0 : Int)], false⟩ :=
  TEOk.of Try.underlying3 (i := Try.t3) (by kernel_rfl) rfl rfl rfl (by kernel_rfl) (fun h => by cases h) (by kernel_rfl)
theorem teSG_5 : TEOk Try.prog 5 ⟨.int .u8, 1, 1, [.i .u8 (0 : Int)], false⟩ :=
  TEOk.of Try.underlying5 (i := Try.t5) (by kernel_rfl) rfl rfl rfl (by kernel_rfl) (fun h => by cases h) (by kernel_rfl)
theorem teSG_22 : TEOk Try.prog 22 ⟨.slice 5, 1, 24, [.raw (.slice none 0 0)], false⟩ :=
  TEOk.of Try.underlying22 (i := Try.t22) (by kernel_rfl) rfl rfl rfl (by kernel_rfl) (fun h => by cases h) (by kernel_rfl)
theorem teSG_32 : TEOk Try.prog 32 ⟨.array 64 5, 64, 64, [.ints .u8 (64 : Nat) ([0, 0, 0, 0, 0, 0, 0, 0, 0, 0, 0, 0, 0, 0, 0, 0, 0, 0, 0, 0, 0, 0, 0, 0, 0, 0, 0, 0, 0, 0, 0, 0, 0, 0, 0, 0, 0, 0, 0, 0, 0, 0, 0, 0, 0, 0, 0, 0, 0, 0, 0, 0, 0, 0, 0, 0, 0, 0, 0, 0, 0, 0, 0, 0] : List Int)], true⟩ :=
  TEOk.of Try.underlying32 (i := Try.t32) (by kernel_rfl) rfl rfl rfl (by kernel_rfl) (fun _ => Try.eqGuardType32) (by kernel_rfl)
theorem teSG_147 : TEOk Try.prog 147 ⟨.int .u64, 1, 8, [.i .u64 (0 : Int)], false⟩ :=
  TEOk.of Try.underlying147 (i := Try.t147) (by kernel_rfl) rfl rfl rfl (by kernel_rfl) (fun h => by cases h) (by kernel_rfl)
theorem teSG_148 : TEOk Try.prog 148 ⟨.array 8 147, 8, 64, [.ints .u64 (8 : Nat) ([0, 0, 0, 0, 0, 0, 0, 0] : List Int)], true⟩ :=
  TEOk.of Try.underlying148 (i := Try.t148) (by kernel_rfl) rfl rfl rfl (by kernel_rfl) (fun _ => Try.eqGuardType148) (by kernel_rfl)
theorem teSG_224 : TEOk Try.prog 224 ⟨.pointer 222, 1, 8, [.raw (.pointer none)], false⟩ :=
  TEOk.of Try.underlying224 (i := Try.t224) (by kernel_rfl) rfl rfl rfl (by kernel_rfl) (fun h => by cases h) (by kernel_rfl)
theorem teSG_226 : TEOk Try.prog 226 ⟨Try.t225.desc, 11, 104, [.ints .u64 (8 : Nat) ([0, 0, 0, 0, 0, 0, 0, 0] : List Int), .raw (.slice none 0 0), .i .u64 (0 : Int), .raw (.pointer none)], false⟩ :=
  TEOk.of Try.underlying226 (i := Try.t226) (by kernel_rfl) rfl rfl rfl (by kernel_rfl) (fun h => by cases h) (by kernel_rfl)
noncomputable def tabSG : List (Nat × TE) := [(3, ⟨.int .i64, 1, 8, [.i .i64 (0 : Int)], false⟩), (5, ⟨.int .u8, 1, 1, [.i .u8 (0 : Int)], false⟩), (22, ⟨.slice 5, 1, 24, [.raw (.slice none 0 0)], false⟩), (32, ⟨.array 64 5, 64, 64, [.ints .u8 (64 : Nat) ([0, 0, 0, 0, 0, 0, 0, 0, 0, 0, 0, 0, 0, 0, 0, 0, 0, 0, 0, 0, 0, 0, 0, 0, 0, 0, 0, 0, 0, 0, 0, 0, 0, 0, 0, 0, 0, 0, 0, 0, 0, 0, 0, 0, 0, 0, 0, 0, 0, 0, 0, 0, 0, 0, 0, 0, 0, 0, 0, 0, 0, 0, 0, 0] : List Int)], true⟩), (147, ⟨.int .u64, 1, 8, [.i .u64 (0 : Int)], false⟩), (148, ⟨.array 8 147, 8, 64, [.ints .u64 (8 : Nat) ([0, 0, 0, 0, 0, 0, 0, 0] : List Int)], true⟩), (224, ⟨.pointer 222, 1, 8, [.raw (.pointer none)], false⟩), (226, ⟨Try.t225.desc, 11, 104, [.ints .u64 (8 : Nat) ([0, 0, 0, 0, 0, 0, 0, 0] : List Int), .raw (.slice none 0 0), .i .u64 (0 : Int), .raw (.pointer none)], false⟩)]
theorem tabOkSG : TabOk Try.prog (tabOf tabSG) := (tabOf_cons teSG_3 (tabOf_cons teSG_5 (tabOf_cons teSG_22 (tabOf_cons teSG_32 (tabOf_cons teSG_147 (tabOf_cons teSG_148 (tabOf_cons teSG_224 (tabOf_cons teSG_226 tabOf_nil))))))))

def gam13 : Gam := gcall 84 [true, true, false] [.w, .s 1] (fun wk vs args => match wk, vs, args with | [⟨true, [.ints .u64 (8 : Nat) S, .rs 1 0 tl 1, .i .u64 N, .p 2 0]⟩, ⟨true, [.ints .u8 tl_1 L]⟩, ⟨false, [.ints .u64 (80 : Nat) C]⟩], [⟨_, _, _, [.ints .u8 nm b]⟩], [.o (.a (.p 0 0)), .o (.a (.sl 3 0 n _))] => some ((tl_1 = tl) ∧ (nm = n) ∧ (tl < (128 : Nat)) ∧ (n < (140737488355328 : Nat)), [], [some ⟨true, [.ints .u64 (8 : Nat) (wrS C S L b tl n), .rs 4 0 (wrT tl n) 1, .i .u64 (wrN N n), .p 2 0]⟩, none, some ⟨false, [.ints .u64 (80 : Nat) C]⟩, some ⟨false, [.ints .u8 nm b]⟩, some ⟨true, [.ints .u8 (wrT tl n) (wrL L b tl n)]⟩]) | _, _, _ => none) gam12
theorem gam13_ok : GamOk Try.prog gam13 := gcall_ok tabOkSG Try.func84 gam12_ok Try.call84 (by
  intro wk vs args p xs K1 h hv
  split at h
  · simp only [Option.some.injEq, Prod.mk.injEq] at h; obtain ⟨rfl, rfl, rfl⟩ := h; obtain ⟨g0, g1, g2, g3⟩ := hv; subst g0; exact fun caps w rw β => wr_body _ _ _ _ _ _ _ _ _ g1 g2 g3 w rw β
  · simp at h)

def sumL_mk (S : List Int) (tl : Nat) (N : Int) (L C : List Int) (k : Nat) (s : (List Int)) : St := ⟨sparse 64 [(0, .o (.a (.p 0 0))), (2, .o (.a (.p 3 0))), (3, .o (.a (.p 4 0))), (4, .o (.a (.p 5 0))), (5, .o (.a (.sl 6 ((128 : Nat) * k) ((tl + (pad N)) - ((128 : Nat) * k)) ((512 : Nat) - ((128 : Nat) * k))))), (7, .o (.a (.p 0 0))), (8, .o (.a (.b true))), (9, .o (.a (.b false))), (11, .o (.a (.p 0 0))), (12, .o (.a (.p 0 0))), (13, .o (.a (.p 0 0))), (14, .o (.g [.ints .u64 (8 : Nat) S])), (15, .o (.a (.p 0 0))), (16, .o (.a (.p 0 0))), (17, .o (.a (.p 0 8))), (18, .o (.a (.rs 1 0 tl 1))), (19, .o (.a (.i .i64 ((tl : Nat) : Int)))), (20, .o (.a (.sl 6 0 tl (512 : Nat)))), (21, .o (.a (.sl 6 0 tl (512 : Nat)))), (22, .o (.a (.p 0 0))), (23, .o (.a (.p 0 0))), (24, .o (.a (.p 0 8))), (25, .o (.a (.rs 1 0 tl 1))), (27, .o (.a (.sl 6 0 tl (512 : Nat)))), (28, .o (.a (.p 0 0))), (29, .o (.a (.p 0 0))), (30, .o (.a (.p 0 9))), (31, .o (.a (.i .u64 N))), (32, .o (.a (.sl 7 0 (pad N) (256 : Nat)))), (33, .o (.a (.sl 6 0 (tl + (pad N)) (512 : Nat))))], [some ⟨false, [.ints .u64 (8 : Nat) S, .rs 1 0 tl 1, .i .u64 N, .p 2 0]⟩, some ⟨false, [.ints .u8 tl L]⟩, some ⟨false, [.ints .u64 (80 : Nat) C]⟩, some ⟨true, [.ints .u8 (64 : Nat) ([0, 0, 0, 0, 0, 0, 0, 0, 0, 0, 0, 0, 0, 0, 0, 0, 0, 0, 0, 0, 0, 0, 0, 0, 0, 0, 0, 0, 0, 0, 0, 0, 0, 0, 0, 0, 0, 0, 0, 0, 0, 0, 0, 0, 0, 0, 0, 0, 0, 0, 0, 0, 0, 0, 0, 0, 0, 0, 0, 0, 0, 0, 0, 0] : List Int)]⟩, some ⟨true, [.ints .u8 (64 : Nat) ([0, 0, 0, 0, 0, 0, 0, 0, 0, 0, 0, 0, 0, 0, 0, 0, 0, 0, 0, 0, 0, 0, 0, 0, 0, 0, 0, 0, 0, 0, 0, 0, 0, 0, 0, 0, 0, 0, 0, 0, 0, 0, 0, 0, 0, 0, 0, 0, 0, 0, 0, 0, 0, 0, 0, 0, 0, 0, 0, 0, 0, 0, 0, 0] : List Int)]⟩, some ⟨true, [.ints .u64 (8 : Nat) s]⟩, some ⟨true, [.ints .u8 (512 : Nat) (splice (splice (List.replicate (512 : Nat) (0 : Int)) (0 : Nat) (min tl tl) (sub L 0 (min tl tl))) ((0 : Nat) + tl) (pad N) (sub (pad_1 N) (0 : Nat) (pad N)))]⟩, some ⟨true, [.ints .u8 (256 : Nat) (pad_1 N)]⟩]⟩

def sumL_step (tl : Nat) (N : Int) (L C : List Int) (k : Nat) (s : (List Int)) : (List Int) :=
  ((blk s (sub (splice (splice (List.replicate (512 : Nat) (0 : Int)) (0 : Nat) (min tl tl) (sub L 0 (min tl tl))) ((0 : Nat) + tl) (pad N) (sub (pad_1 N) (0 : Nat) (pad N))) ((128 : Nat) * k) (128 : Nat)) C))

set_option maxHeartbeats 1000000 in
theorem sumL_round (S : List Int) (tl : Nat) (N : Int) (L C : List Int) (h0 : ((0 : Int) ≤ N)) (h1 : ((Int.tmod N (128 : Int)) = ((tl : Nat) : Int))) (hl0_0 : List.length S = (8 : Nat)) (hl1_0 : List.length L = tl) (hl2_0 : List.length C = (80 : Nat)) (w : World) (rw : List Nat) (β : Env) (k : Nat) (hk : k < ((tl + (pad N)) / (128 : Nat))) (s : (List Int)) : Run Try.prog ⟨w, rw, 3, β⟩ (loopB Try.f85 0) (sumL_mk S tl N L C k s) (To ⟨w, rw, 3, β⟩ .normal (sumL_mk S tl N L C (k + 1) (sumL_step tl N L C k s))) := by
  have e0 : (((tl + (pad N)) - ((128 : Nat) * k)) - (128 : Nat)) = ((tl + (pad N)) - ((128 : Nat) * (k + (1 : Nat)))) := (by first | rfl | exact wrap_succ (by omega) | omega | (simp (disch := omega) only [wrapI]; omega))
  have e1 : (((512 : Nat) - ((128 : Nat) * k)) - (128 : Nat)) = ((512 : Nat) - ((128 : Nat) * (k + (1 : Nat)))) := (by first | rfl | exact wrap_succ (by omega) | omega | (simp (disch := omega) only [wrapI]; omega))
  have e2 : (((128 : Nat) * k) + (128 : Nat)) = ((128 : Nat) * (k + (1 : Nat))) := (by first | rfl | exact wrap_succ (by omega) | omega | (simp (disch := omega) only [wrapI]; omega))
  have h := Run.of_outT (B := ⟨w, rw, 3, β⟩) (Λ := noLam) (Ψ := noPsi) (fuel := 0) (ora := [true]) (c := (loopB Try.f85 0)) (st := (sumL_mk S tl N L C k s)) (l := [.forget [0, 2, 3, 4, 5, 7, 8, 9, 11, 12, 13, 14, 15, 16, 17, 18, 19, 20, 21, 22, 23, 24, 25, 27, 28, 29, 30, 31, 32, 33] 8]) (s' := ⟨sparse 64 [(0, .o (.a (.p 0 0))), (2, .o (.a (.p 3 0))), (3, .o (.a (.p 4 0))), (4, .o (.a (.p 5 0))), (5, .o (.a (.sl 6 (((128 : Nat) * k) + (128 : Nat)) (((tl + (pad N)) - ((128 : Nat) * k)) - (128 : Nat)) (((512 : Nat) - ((128 : Nat) * k)) - (128 : Nat))))), (7, .o (.a (.p 0 0))), (8, .o (.a (.b true))), (9, .o (.a (.b false))), (11, .o (.a (.p 0 0))), (12, .o (.a (.p 0 0))), (13, .o (.a (.p 0 0))), (14, .o (.g [.ints .u64 (8 : Nat) S])), (15, .o (.a (.p 0 0))), (16, .o (.a (.p 0 0))), (17, .o (.a (.p 0 8))), (18, .o (.a (.rs 1 0 tl 1))), (19, .o (.a (.i .i64 ((tl : Nat) : Int)))), (20, .o (.a (.sl 6 0 tl (512 : Nat)))), (21, .o (.a (.sl 6 0 tl (512 : Nat)))), (22, .o (.a (.p 0 0))), (23, .o (.a (.p 0 0))), (24, .o (.a (.p 0 8))), (25, .o (.a (.rs 1 0 tl 1))), (27, .o (.a (.sl 6 0 tl (512 : Nat)))), (28, .o (.a (.p 0 0))), (29, .o (.a (.p 0 0))), (30, .o (.a (.p 0 9))), (31, .o (.a (.i .u64 N))), (32, .o (.a (.sl 7 0 (pad N) (256 : Nat)))), (33, .o (.a (.sl 6 0 (tl + (pad N)) (512 : Nat))))], [some ⟨false, [.ints .u64 (8 : Nat) S, .rs 1 0 tl 1, .i .u64 N, .p 2 0]⟩, some ⟨false, [.ints .u8 tl L]⟩, some ⟨false, [.ints .u64 (80 : Nat) C]⟩, some ⟨true, [.ints .u8 (64 : Nat) ([0, 0, 0, 0, 0, 0, 0, 0, 0, 0, 0, 0, 0, 0, 0, 0, 0, 0, 0, 0, 0, 0, 0, 0, 0, 0, 0, 0, 0, 0, 0, 0, 0, 0, 0, 0, 0, 0, 0, 0, 0, 0, 0, 0, 0, 0, 0, 0, 0, 0, 0, 0, 0, 0, 0, 0, 0, 0, 0, 0, 0, 0, 0, 0] : List Int)]⟩, some ⟨true, [.ints .u8 (64 : Nat) ([0, 0, 0, 0, 0, 0, 0, 0, 0, 0, 0, 0, 0, 0, 0, 0, 0, 0, 0, 0, 0, 0, 0, 0, 0, 0, 0, 0, 0, 0, 0, 0, 0, 0, 0, 0, 0, 0, 0, 0, 0, 0, 0, 0, 0, 0, 0, 0, 0, 0, 0, 0, 0, 0, 0, 0, 0, 0, 0, 0, 0, 0, 0, 0] : List Int)]⟩, some ⟨true, [.ints .u64 (8 : Nat) (sumL_step tl N L C k s)]⟩, some ⟨true, [.ints .u8 (512 : Nat) (splice (splice (List.replicate (512 : Nat) (0 : Int)) (0 : Nat) (min tl tl) (sub L 0 (min tl tl))) ((0 : Nat) + tl) (pad N) (sub (pad_1 N) (0 : Nat) (pad N)))]⟩, some ⟨true, [.ints .u8 (256 : Nat) (pad_1 N)]⟩]⟩) (ex := .normal) mix tabOkSG gam13_ok
    (vc := [(((0 : Int) ≤ (128 : Int)) ∧ ((128 : Int) ≤ ((((tl + (pad N)) - ((128 : Nat) * k)) : Nat) : Int))), ((True ∧ (((((128 : Nat) * k) + (128 : Nat)) ≤ (512 : Nat)) ∧ (True ∧ True))) ∧ (((128 : Nat) = (128 : Nat)) ∧ ((128 : Nat) = (128 : Nat)))), (((0 : Int) ≤ (0 : Int)) ∧ ((0 : Int) ≤ (128 : Int)) ∧ ((128 : Int) ≤ ((((512 : Nat) - ((128 : Nat) * k)) : Nat) : Int))), ((decide (((((tl + (pad N)) - ((128 : Nat) * k)) : Nat) : Int) > (0 : Int))) = true)]) (by kernel_rfl)
    (aC ⟨(by decide), (by have hp1 := pad_le N; have hp2 := pad_mod h0 h1; first | omega | (simp (disch := omega) only [wrapI]; omega))⟩ (aC ⟨⟨trivial, ⟨(by have hp1 := pad_le N; have hp2 := pad_mod h0 h1; first | omega | (simp (disch := omega) only [wrapI]; omega)), ⟨trivial, trivial⟩⟩⟩, ⟨rfl, rfl⟩⟩ (aC ⟨(by decide), (by decide), (by have hp1 := pad_le N; have hp2 := pad_mod h0 h1; first | omega | (simp (disch := omega) only [wrapI]; omega))⟩ (aC (decide_eq_true (by have hp1 := pad_le N; have hp2 := pad_mod h0 h1; first | omega | (simp (disch := omega) only [wrapI]; omega))) (AllP_nil)))))
  rw [e0, e1, e2] at h
  exact h

set_option maxHeartbeats 1000000 in
theorem sumL_last (S : List Int) (tl : Nat) (N : Int) (L C : List Int) (h0 : ((0 : Int) ≤ N)) (h1 : ((Int.tmod N (128 : Int)) = ((tl : Nat) : Int))) (hl0_0 : List.length S = (8 : Nat)) (hl1_0 : List.length L = tl) (hl2_0 : List.length C = (80 : Nat)) (w : World) (rw : List Nat) (β : Env) (s : (List Int)) : Run Try.prog ⟨w, rw, 3, β⟩ (loopB Try.f85 0) (sumL_mk S tl N L C ((tl + (pad N)) / (128 : Nat)) s) (To ⟨w, rw, 3, β⟩ (.exit 0) (sumL_mk S tl N L C ((tl + (pad N)) / (128 : Nat)) s)) :=
  Run.of_outT (B := ⟨w, rw, 3, β⟩) (Λ := noLam) (Ψ := noPsi) (fuel := 0) (ora := [false]) (l := [.forget [0, 2, 3, 4, 5, 7, 8, 9, 11, 12, 13, 14, 15, 16, 17, 18, 19, 20, 21, 22, 23, 24, 25, 27, 28, 29, 30, 31, 32, 33] 8]) mix tabOkSG gam13_ok
    (vc := [((decide (((((tl + (pad N)) - ((128 : Nat) * ((tl + (pad N)) / (128 : Nat)))) : Nat) : Int) > (0 : Int))) = false)]) (by kernel_rfl)
    (aC (decide_eq_false (by have hp1 := pad_le N; have hp2 := pad_mod h0 h1; first | omega | (simp (disch := omega) only [wrapI]; omega))) (AllP_nil))

theorem sumL_loop (S : List Int) (tl : Nat) (N : Int) (L C : List Int) (h0 : ((0 : Int) ≤ N)) (h1 : ((Int.tmod N (128 : Int)) = ((tl : Nat) : Int))) (hl0_0 : List.length S = (8 : Nat)) (hl1_0 : List.length L = tl) (hl2_0 : List.length C = (80 : Nat)) (w : World) (rw : List Nat) (β : Env) (s : (List Int)) : Run Try.prog ⟨w, rw, 3, β⟩ (.block 0 (.loop (loopB Try.f85 0))) (sumL_mk S tl N L C 0 s) (To ⟨w, rw, 3, β⟩ .normal (sumL_mk S tl N L C ((tl + (pad N)) / (128 : Nat)) (iter (sumL_step tl N L C) ((tl + (pad N)) / (128 : Nat)) s))) :=
  Run.count (fun k => sumL_mk S tl N L C k (iter (sumL_step tl N L C) k s)) ((tl + (pad N)) / (128 : Nat)) (fun k hk => sumL_round S tl N L C h0 h1 hl0_0 hl1_0 hl2_0 w rw β k hk _) (ex := (.exit 0)) (by simp) (sumL_last S tl N L C h0 h1 hl0_0 hl1_0 hl2_0 w rw β _)

def sumL_out0 (tl : Nat) (N : Int) (L C i0 : List Int) : List Int := (iter (sumL_step tl N L C) ((tl + (pad N)) / (128 : Nat)) (i0))

def hsum (S : List Int) (tl : Nat) (N : Int) (L C : List Int) : List Int :=
  let z0 : List Int := (sumL_out0 tl N L C S)
  let z1 : Int := (List.getD z0 (7 : Nat) 0)
  let z2 : Int := (List.getD z0 (6 : Nat) 0)
  let z3 : Int := (List.getD z0 (5 : Nat) 0)
  let z4 : Int := (List.getD z0 (4 : Nat) 0)
  let z5 : Int := (List.getD z0 (3 : Nat) 0)
  let z6 : Int := (List.getD z0 (2 : Nat) 0)
  let z7 : Int := (List.getD z0 (1 : Nat) 0)
  let z8 : Int := (List.getD z0 (0 : Nat) 0)
  ([(IntKind.u8.wrap (shr .u64 z8 (56 : Int))), (IntKind.u8.wrap (shr .u64 z8 (48 : Int))), (IntKind.u8.wrap (shr .u64 z8 (40 : Int))), (IntKind.u8.wrap (shr .u64 z8 (32 : Int))), (IntKind.u8.wrap (shr .u64 z8 (24 : Int))), (IntKind.u8.wrap (shr .u64 z8 (16 : Int))), (IntKind.u8.wrap (shr .u64 z8 (8 : Int))), (IntKind.u8.wrap (shr .u64 z8 (0 : Int))), (IntKind.u8.wrap (shr .u64 z7 (56 : Int))), (IntKind.u8.wrap (shr .u64 z7 (48 : Int))), (IntKind.u8.wrap (shr .u64 z7 (40 : Int))), (IntKind.u8.wrap (shr .u64 z7 (32 : Int))), (IntKind.u8.wrap (shr .u64 z7 (24 : Int))), (IntKind.u8.wrap (shr .u64 z7 (16 : Int))), (IntKind.u8.wrap (shr .u64 z7 (8 : Int))), (IntKind.u8.wrap (shr .u64 z7 (0 : Int))), (IntKind.u8.wrap (shr .u64 z6 (56 : Int))), (IntKind.u8.wrap (shr .u64 z6 (48 : Int))), (IntKind.u8.wrap (shr .u64 z6 (40 : Int))), (IntKind.u8.wrap (shr .u64 z6 (32 : Int))), (IntKind.u8.wrap (shr .u64 z6 (24 : Int))), (IntKind.u8.wrap (shr .u64 z6 (16 : Int))), (IntKind.u8.wrap (shr .u64 z6 (8 : Int))), (IntKind.u8.wrap (shr .u64 z6 (0 : Int))), (IntKind.u8.wrap (shr .u64 z5 (56 : Int))), (IntKind.u8.wrap (shr .u64 z5 (48 : Int))), (IntKind.u8.wrap (shr .u64 z5 (40 : Int))), (IntKind.u8.wrap (shr .u64 z5 (32 : Int))), (IntKind.u8.wrap (shr .u64 z5 (24 : Int))), (IntKind.u8.wrap (shr .u64 z5 (16 : Int))), (IntKind.u8.wrap (shr .u64 z5 (8 : Int))), (IntKind.u8.wrap (shr .u64 z5 (0 : Int))), (IntKind.u8.wrap (shr .u64 z4 (56 : Int))), (IntKind.u8.wrap (shr .u64 z4 (48 : Int))), (IntKind.u8.wrap (shr .u64 z4 (40 : Int))), (IntKind.u8.wrap (shr .u64 z4 (32 : Int))), (IntKind.u8.wrap (shr .u64 z4 (24 : Int))), (IntKind.u8.wrap (shr .u64 z4 (16 : Int))), (IntKind.u8.wrap (shr .u64 z4 (8 : Int))), (IntKind.u8.wrap (shr .u64 z4 (0 : Int))), (IntKind.u8.wrap (shr .u64 z3 (56 : Int))), (IntKind.u8.wrap (shr .u64 z3 (48 : Int))), (IntKind.u8.wrap (shr .u64 z3 (40 : Int))), (IntKind.u8.wrap (shr .u64 z3 (32 : Int))), (IntKind.u8.wrap (shr .u64 z3 (24 : Int))), (IntKind.u8.wrap (shr .u64 z3 (16 : Int))), (IntKind.u8.wrap (shr .u64 z3 (8 : Int))), (IntKind.u8.wrap (shr .u64 z3 (0 : Int))), (IntKind.u8.wrap (shr .u64 z2 (56 : Int))), (IntKind.u8.wrap (shr .u64 z2 (48 : Int))), (IntKind.u8.wrap (shr .u64 z2 (40 : Int))), (IntKind.u8.wrap (shr .u64 z2 (32 : Int))), (IntKind.u8.wrap (shr .u64 z2 (24 : Int))), (IntKind.u8.wrap (shr .u64 z2 (16 : Int))), (IntKind.u8.wrap (shr .u64 z2 (8 : Int))), (IntKind.u8.wrap (shr .u64 z2 (0 : Int))), (IntKind.u8.wrap (shr .u64 z1 (56 : Int))), (IntKind.u8.wrap (shr .u64 z1 (48 : Int))), (IntKind.u8.wrap (shr .u64 z1 (40 : Int))), (IntKind.u8.wrap (shr .u64 z1 (32 : Int))), (IntKind.u8.wrap (shr .u64 z1 (24 : Int))), (IntKind.u8.wrap (shr .u64 z1 (16 : Int))), (IntKind.u8.wrap (shr .u64 z1 (8 : Int))), (IntKind.u8.wrap (shr .u64 z1 (0 : Int)))] : List Int)

set_option maxHeartbeats 1000000 in
theorem hsum_body0 (S : List Int) (tl : Nat) (N : Int) (L C : List Int) (h0 : ((0 : Int) ≤ N)) (h1 : ((Int.tmod N (128 : Int)) = ((tl : Nat) : Int))) (hl0_0 : List.length S = (8 : Nat)) (hl1_0 : List.length L = tl) (hl2_0 : List.length C = (80 : Nat)) (w : World) (rw : List Nat) (β : Env) : Body Try.prog (tabOf tabSG) Try.f85 ⟨w, rw, 3, β⟩ [.o (.a (.p 0 0))] [some ⟨false, [.ints .u64 (8 : Nat) S, .rs 1 0 tl 1, .i .u64 N, .p 2 0]⟩, some ⟨false, [.ints .u8 tl L]⟩, some ⟨false, [.ints .u64 (80 : Nat) C]⟩] (fun ys K' => ys = [.g [.ints .u8 (64 : Nat) (hsum S tl N L C)]] ∧ K' = [some ⟨false, [.ints .u64 (8 : Nat) S, .rs 1 0 tl 1, .i .u64 N, .p 2 0]⟩, some ⟨false, [.ints .u8 tl L]⟩, some ⟨false, [.ints .u64 (80 : Nat) C]⟩]) :=
  Body.of_finK (Γ := gam13) (Λ := lamOf [(0, ⟨[.forget [0, 2, 3, 4, 5, 7, 8, 9, 11, 12, 13, 14, 15, 16, 17, 18, 19, 20, 21, 22, 23, 24, 25, 27, 28, 29, 30, 31, 32, 33] 8], .normal, (sumL_mk S tl N L C ((tl + (pad N)) / (128 : Nat)) (iter (sumL_step tl N L C) ((tl + (pad N)) / (128 : Nat)) (S)))⟩)]) (Ψ := noPsi) (fuel := 65) (m := 64) (c := (Try.f85.body.getD .skip)) mix tabOkSG gam13_ok rfl (rs := [.cell 2 32]) rfl rfl [false, true, true, true, true, true, true, true, true, true, true, true, true, true, true, true, true, true, true, true, true, true, true, true, true, true, true, true, true, true, true, true, true, true, true, true, true, true, true, true, true, true, true, true, true, true, true, true, true, true, true, true, true, true, true, true, true, true, true, true, true, true, true, true, true, true, false] [] 3
    (vc := [(false = false), ((63 : Nat) < (64 : Nat)), (((0 : Int) ≤ (63 : Int)) ∧ ((63 : Int) < (64 : Int))), ((0 : Int) ≤ (0 : Int)), ((8 : Int) ≠ 0), ((7 : Nat) < (8 : Nat)), (((0 : Int) ≤ (7 : Int)) ∧ ((7 : Int) < (8 : Int))), ((8 : Int) ≠ 0), (true = true), ((62 : Nat) < (64 : Nat)), (((0 : Int) ≤ (62 : Int)) ∧ ((62 : Int) < (64 : Int))), ((0 : Int) ≤ (8 : Int)), ((8 : Int) ≠ 0), ((7 : Nat) < (8 : Nat)), (((0 : Int) ≤ (7 : Int)) ∧ ((7 : Int) < (8 : Int))), ((8 : Int) ≠ 0), (true = true), ((61 : Nat) < (64 : Nat)), (((0 : Int) ≤ (61 : Int)) ∧ ((61 : Int) < (64 : Int))), ((0 : Int) ≤ (16 : Int)), ((8 : Int) ≠ 0), ((7 : Nat) < (8 : Nat)), (((0 : Int) ≤ (7 : Int)) ∧ ((7 : Int) < (8 : Int))), ((8 : Int) ≠ 0), (true = true), ((60 : Nat) < (64 : Nat)), (((0 : Int) ≤ (60 : Int)) ∧ ((60 : Int) < (64 : Int))), ((0 : Int) ≤ (24 : Int)), ((8 : Int) ≠ 0), ((7 : Nat) < (8 : Nat)), (((0 : Int) ≤ (7 : Int)) ∧ ((7 : Int) < (8 : Int))), ((8 : Int) ≠ 0), (true = true), ((59 : Nat) < (64 : Nat)), (((0 : Int) ≤ (59 : Int)) ∧ ((59 : Int) < (64 : Int))), ((0 : Int) ≤ (32 : Int)), ((8 : Int) ≠ 0), ((7 : Nat) < (8 : Nat)), (((0 : Int) ≤ (7 : Int)) ∧ ((7 : Int) < (8 : Int))), ((8 : Int) ≠ 0), (true = true), ((58 : Nat) < (64 : Nat)), (((0 : Int) ≤ (58 : Int)) ∧ ((58 : Int) < (64 : Int))), ((0 : Int) ≤ (40 : Int)), ((8 : Int) ≠ 0), ((7 : Nat) < (8 : Nat)), (((0 : Int) ≤ (7 : Int)) ∧ ((7 : Int) < (8 : Int))), ((8 : Int) ≠ 0), (true = true), ((57 : Nat) < (64 : Nat)), (((0 : Int) ≤ (57 : Int)) ∧ ((57 : Int) < (64 : Int))), ((0 : Int) ≤ (48 : Int)), ((8 : Int) ≠ 0), ((7 : Nat) < (8 : Nat)), (((0 : Int) ≤ (7 : Int)) ∧ ((7 : Int) < (8 : Int))), ((8 : Int) ≠ 0), (true = true), ((56 : Nat) < (64 : Nat)), (((0 : Int) ≤ (56 : Int)) ∧ ((56 : Int) < (64 : Int))), ((0 : Int) ≤ (56 : Int)), ((8 : Int) ≠ 0), ((7 : Nat) < (8 : Nat)), (((0 : Int) ≤ (7 : Int)) ∧ ((7 : Int) < (8 : Int))), ((8 : Int) ≠ 0), (true = true), ((55 : Nat) < (64 : Nat)), (((0 : Int) ≤ (55 : Int)) ∧ ((55 : Int) < (64 : Int))), ((0 : Int) ≤ (0 : Int)), ((8 : Int) ≠ 0), ((6 : Nat) < (8 : Nat)), (((0 : Int) ≤ (6 : Int)) ∧ ((6 : Int) < (8 : Int))), ((8 : Int) ≠ 0), (true = true), ((54 : Nat) < (64 : Nat)), (((0 : Int) ≤ (54 : Int)) ∧ ((54 : Int) < (64 : Int))), ((0 : Int) ≤ (8 : Int)), ((8 : Int) ≠ 0), ((6 : Nat) < (8 : Nat)), (((0 : Int) ≤ (6 : Int)) ∧ ((6 : Int) < (8 : Int))), ((8 : Int) ≠ 0), (true = true), ((53 : Nat) < (64 : Nat)), (((0 : Int) ≤ (53 : Int)) ∧ ((53 : Int) < (64 : Int))), ((0 : Int) ≤ (16 : Int)), ((8 : Int) ≠ 0), ((6 : Nat) < (8 : Nat)), (((0 : Int) ≤ (6 : Int)) ∧ ((6 : Int) < (8 : Int))), ((8 : Int) ≠ 0), (true = true), ((52 : Nat) < (64 : Nat)), (((0 : Int) ≤ (52 : Int)) ∧ ((52 : Int) < (64 : Int))), ((0 : Int) ≤ (24 : Int)), ((8 : Int) ≠ 0), ((6 : Nat) < (8 : Nat)), (((0 : Int) ≤ (6 : Int)) ∧ ((6 : Int) < (8 : Int))), ((8 : Int) ≠ 0), (true = true), ((51 : Nat) < (64 : Nat)), (((0 : Int) ≤ (51 : Int)) ∧ ((51 : Int) < (64 : Int))), ((0 : Int) ≤ (32 : Int)), ((8 : Int) ≠ 0), ((6 : Nat) < (8 : Nat)), (((0 : Int) ≤ (6 : Int)) ∧ ((6 : Int) < (8 : Int))), ((8 : Int) ≠ 0), (true = true), ((50 : Nat) < (64 : Nat)), (((0 : Int) ≤ (50 : Int)) ∧ ((50 : Int) < (64 : Int))), ((0 : Int) ≤ (40 : Int)), ((8 : Int) ≠ 0), ((6 : Nat) < (8 : Nat)), (((0 : Int) ≤ (6 : Int)) ∧ ((6 : Int) < (8 : Int))), ((8 : Int) ≠ 0), (true = true), ((49 : Nat) < (64 : Nat)), (((0 : Int) ≤ (49 : Int)) ∧ ((49 : Int) < (64 : Int))), ((0 : Int) ≤ (48 : Int)), ((8 : Int) ≠ 0), ((6 : Nat) < (8 : Nat)), (((0 : Int) ≤ (6 : Int)) ∧ ((6 : Int) < (8 : Int))), ((8 : Int) ≠ 0), (true = true), ((48 : Nat) < (64 : Nat)), (((0 : Int) ≤ (48 : Int)) ∧ ((48 : Int) < (64 : Int))), ((0 : Int) ≤ (56 : Int)), ((8 : Int) ≠ 0), ((6 : Nat) < (8 : Nat)), (((0 : Int) ≤ (6 : Int)) ∧ ((6 : Int) < (8 : Int))), ((8 : Int) ≠ 0), (true = true), ((47 : Nat) < (64 : Nat)), (((0 : Int) ≤ (47 : Int)) ∧ ((47 : Int) < (64 : Int))), ((0 : Int) ≤ (0 : Int)), ((8 : Int) ≠ 0), ((5 : Nat) < (8 : Nat)), (((0 : Int) ≤ (5 : Int)) ∧ ((5 : Int) < (8 : Int))), ((8 : Int) ≠ 0), (true = true), ((46 : Nat) < (64 : Nat)), (((0 : Int) ≤ (46 : Int)) ∧ ((46 : Int) < (64 : Int))), ((0 : Int) ≤ (8 : Int)), ((8 : Int) ≠ 0), ((5 : Nat) < (8 : Nat)), (((0 : Int) ≤ (5 : Int)) ∧ ((5 : Int) < (8 : Int))), ((8 : Int) ≠ 0), (true = true), ((45 : Nat) < (64 : Nat)), (((0 : Int) ≤ (45 : Int)) ∧ ((45 : Int) < (64 : Int))), ((0 : Int) ≤ (16 : Int)), ((8 : Int) ≠ 0), ((5 : Nat) < (8 : Nat)), (((0 : Int) ≤ (5 : Int)) ∧ ((5 : Int) < (8 : Int))), ((8 : Int) ≠ 0), (true = true), ((44 : Nat) < (64 : Nat)), (((0 : Int) ≤ (44 : Int)) ∧ ((44 : Int) < (64 : Int))), ((0 : Int) ≤ (24 : Int)), ((8 : Int) ≠ 0), ((5 : Nat) < (8 : Nat)), (((0 : Int) ≤ (5 : Int)) ∧ ((5 : Int) < (8 : Int))), ((8 : Int) ≠ 0), (true = true), ((43 : Nat) < (64 : Nat)), (((0 : Int) ≤ (43 : Int)) ∧ ((43 : Int) < (64 : Int))), ((0 : Int) ≤ (32 : Int)), ((8 : Int) ≠ 0), ((5 : Nat) < (8 : Nat)), (((0 : Int) ≤ (5 : Int)) ∧ ((5 : Int) < (8 : Int))), ((8 : Int) ≠ 0), (true = true), ((42 : Nat) < (64 : Nat)), (((0 : Int) ≤ (42 : Int)) ∧ ((42 : Int) < (64 : Int))), ((0 : Int) ≤ (40 : Int)), ((8 : Int) ≠ 0), ((5 : Nat) < (8 : Nat)), (((0 : Int) ≤ (5 : Int)) ∧ ((5 : Int) < (8 : Int))), ((8 : Int) ≠ 0), (true = true), ((41 : Nat) < (64 : Nat)), (((0 : Int) ≤ (41 : Int)) ∧ ((41 : Int) < (64 : Int))), ((0 : Int) ≤ (48 : Int)), ((8 : Int) ≠ 0), ((5 : Nat) < (8 : Nat)), (((0 : Int) ≤ (5 : Int)) ∧ ((5 : Int) < (8 : Int))), ((8 : Int) ≠ 0), (true = true), ((40 : Nat) < (64 : Nat)), (((0 : Int) ≤ (40 : Int)) ∧ ((40 : Int) < (64 : Int))), ((0 : Int) ≤ (56 : Int)), ((8 : Int) ≠ 0), ((5 : Nat) < (8 : Nat)), (((0 : Int) ≤ (5 : Int)) ∧ ((5 : Int) < (8 : Int))), ((8 : Int) ≠ 0), (true = true), ((39 : Nat) < (64 : Nat)), (((0 : Int) ≤ (39 : Int)) ∧ ((39 : Int) < (64 : Int))), ((0 : Int) ≤ (0 : Int)), ((8 : Int) ≠ 0), ((4 : Nat) < (8 : Nat)), (((0 : Int) ≤ (4 : Int)) ∧ ((4 : Int) < (8 : Int))), ((8 : Int) ≠ 0), (true = true), ((38 : Nat) < (64 : Nat)), (((0 : Int) ≤ (38 : Int)) ∧ ((38 : Int) < (64 : Int))), ((0 : Int) ≤ (8 : Int)), ((8 : Int) ≠ 0), ((4 : Nat) < (8 : Nat)), (((0 : Int) ≤ (4 : Int)) ∧ ((4 : Int) < (8 : Int))), ((8 : Int) ≠ 0), (true = true), ((37 : Nat) < (64 : Nat)), (((0 : Int) ≤ (37 : Int)) ∧ ((37 : Int) < (64 : Int))), ((0 : Int) ≤ (16 : Int)), ((8 : Int) ≠ 0), ((4 : Nat) < (8 : Nat)), (((0 : Int) ≤ (4 : Int)) ∧ ((4 : Int) < (8 : Int))), ((8 : Int) ≠ 0), (true = true), ((36 : Nat) < (64 : Nat)), (((0 : Int) ≤ (36 : Int)) ∧ ((36 : Int) < (64 : Int))), ((0 : Int) ≤ (24 : Int)), ((8 : Int) ≠ 0), ((4 : Nat) < (8 : Nat)), (((0 : Int) ≤ (4 : Int)) ∧ ((4 : Int) < (8 : Int))), ((8 : Int) ≠ 0), (true = true), ((35 : Nat) < (64 : Nat)), (((0 : Int) ≤ (35 : Int)) ∧ ((35 : Int) < (64 : Int))), ((0 : Int) ≤ (32 : Int)), ((8 : Int) ≠ 0), ((4 : Nat) < (8 : Nat)), (((0 : Int) ≤ (4 : Int)) ∧ ((4 : Int) < (8 : Int))), ((8 : Int) ≠ 0), (true = true), ((34 : Nat) < (64 : Nat)), (((0 : Int) ≤ (34 : Int)) ∧ ((34 : Int) < (64 : Int))), ((0 : Int) ≤ (40 : Int)), ((8 : Int) ≠ 0), ((4 : Nat) < (8 : Nat)), (((0 : Int) ≤ (4 : Int)) ∧ ((4 : Int) < (8 : Int))), ((8 : Int) ≠ 0), (true = true), ((33 : Nat) < (64 : Nat)), (((0 : Int) ≤ (33 : Int)) ∧ ((33 : Int) < (64 : Int))), ((0 : Int) ≤ (48 : Int)), ((8 : Int) ≠ 0), ((4 : Nat) < (8 : Nat)), (((0 : Int) ≤ (4 : Int)) ∧ ((4 : Int) < (8 : Int))), ((8 : Int) ≠ 0), (true = true), ((32 : Nat) < (64 : Nat)), (((0 : Int) ≤ (32 : Int)) ∧ ((32 : Int) < (64 : Int))), ((0 : Int) ≤ (56 : Int)), ((8 : Int) ≠ 0), ((4 : Nat) < (8 : Nat)), (((0 : Int) ≤ (4 : Int)) ∧ ((4 : Int) < (8 : Int))), ((8 : Int) ≠ 0), (true = true), ((31 : Nat) < (64 : Nat)), (((0 : Int) ≤ (31 : Int)) ∧ ((31 : Int) < (64 : Int))), ((0 : Int) ≤ (0 : Int)), ((8 : Int) ≠ 0), ((3 : Nat) < (8 : Nat)), (((0 : Int) ≤ (3 : Int)) ∧ ((3 : Int) < (8 : Int))), ((8 : Int) ≠ 0), (true = true), ((30 : Nat) < (64 : Nat)), (((0 : Int) ≤ (30 : Int)) ∧ ((30 : Int) < (64 : Int))), ((0 : Int) ≤ (8 : Int)), ((8 : Int) ≠ 0), ((3 : Nat) < (8 : Nat)), (((0 : Int) ≤ (3 : Int)) ∧ ((3 : Int) < (8 : Int))), ((8 : Int) ≠ 0), (true = true), ((29 : Nat) < (64 : Nat)), (((0 : Int) ≤ (29 : Int)) ∧ ((29 : Int) < (64 : Int))), ((0 : Int) ≤ (16 : Int)), ((8 : Int) ≠ 0), ((3 : Nat) < (8 : Nat)), (((0 : Int) ≤ (3 : Int)) ∧ ((3 : Int) < (8 : Int))), ((8 : Int) ≠ 0), (true = true), ((28 : Nat) < (64 : Nat)), (((0 : Int) ≤ (28 : Int)) ∧ ((28 : Int) < (64 : Int))), ((0 : Int) ≤ (24 : Int)), ((8 : Int) ≠ 0), ((3 : Nat) < (8 : Nat)), (((0 : Int) ≤ (3 : Int)) ∧ ((3 : Int) < (8 : Int))), ((8 : Int) ≠ 0), (true = true), ((27 : Nat) < (64 : Nat)), (((0 : Int) ≤ (27 : Int)) ∧ ((27 : Int) < (64 : Int))), ((0 : Int) ≤ (32 : Int)), ((8 : Int) ≠ 0), ((3 : Nat) < (8 : Nat)), (((0 : Int) ≤ (3 : Int)) ∧ ((3 : Int) < (8 : Int))), ((8 : Int) ≠ 0), (true = true), ((26 : Nat) < (64 : Nat)), (((0 : Int) ≤ (26 : Int)) ∧ ((26 : Int) < (64 : Int))), ((0 : Int) ≤ (40 : Int)), ((8 : Int) ≠ 0), ((3 : Nat) < (8 : Nat)), (((0 : Int) ≤ (3 : Int)) ∧ ((3 : Int) < (8 : Int))), ((8 : Int) ≠ 0), (true = true), ((25 : Nat) < (64 : Nat)), (((0 : Int) ≤ (25 : Int)) ∧ ((25 : Int) < (64 : Int))), ((0 : Int) ≤ (48 : Int)), ((8 : Int) ≠ 0), ((3 : Nat) < (8 : Nat)), (((0 : Int) ≤ (3 : Int)) ∧ ((3 : Int) < (8 : Int))), ((8 : Int) ≠ 0), (true = true), ((24 : Nat) < (64 : Nat)), (((0 : Int) ≤ (24 : Int)) ∧ ((24 : Int) < (64 : Int))), ((0 : Int) ≤ (56 : Int)), ((8 : Int) ≠ 0), ((3 : Nat) < (8 : Nat)), (((0 : Int) ≤ (3 : Int)) ∧ ((3 : Int) < (8 : Int))), ((8 : Int) ≠ 0), (true = true), ((23 : Nat) < (64 : Nat)), (((0 : Int) ≤ (23 : Int)) ∧ ((23 : Int) < (64 : Int))), ((0 : Int) ≤ (0 : Int)), ((8 : Int) ≠ 0), ((2 : Nat) < (8 : Nat)), (((0 : Int) ≤ (2 : Int)) ∧ ((2 : Int) < (8 : Int))), ((8 : Int) ≠ 0), (true = true), ((22 : Nat) < (64 : Nat)), (((0 : Int) ≤ (22 : Int)) ∧ ((22 : Int) < (64 : Int))), ((0 : Int) ≤ (8 : Int)), ((8 : Int) ≠ 0), ((2 : Nat) < (8 : Nat)), (((0 : Int) ≤ (2 : Int)) ∧ ((2 : Int) < (8 : Int))), ((8 : Int) ≠ 0), (true = true), ((21 : Nat) < (64 : Nat)), (((0 : Int) ≤ (21 : Int)) ∧ ((21 : Int) < (64 : Int))), ((0 : Int) ≤ (16 : Int)), ((8 : Int) ≠ 0), ((2 : Nat) < (8 : Nat)), (((0 : Int) ≤ (2 : Int)) ∧ ((2 : Int) < (8 : Int))), ((8 : Int) ≠ 0), (true = true), ((20 : Nat) < (64 : Nat)), (((0 : Int) ≤ (20 : Int)) ∧ ((20 : Int) < (64 : Int))), ((0 : Int) ≤ (24 : Int)), ((8 : Int) ≠ 0), ((2 : Nat) < (8 : Nat)), (((0 : Int) ≤ (2 : Int)) ∧ ((2 : Int) < (8 : Int))), ((8 : Int) ≠ 0), (true = true), ((19 : Nat) < (64 : Nat)), (((0 : Int) ≤ (19 : Int)) ∧ ((19 : Int) < (64 : Int))), ((0 : Int) ≤ (32 : Int)), ((8 : Int) ≠ 0), ((2 : Nat) < (8 : Nat)), (((0 : Int) ≤ (2 : Int)) ∧ ((2 : Int) < (8 : Int))), ((8 : Int) ≠ 0), (true = true), ((18 : Nat) < (64 : Nat)), (((0 : Int) ≤ (18 : Int)) ∧ ((18 : Int) < (64 : Int))), ((0 : Int) ≤ (40 : Int)), ((8 : Int) ≠ 0), ((2 : Nat) < (8 : Nat)), (((0 : Int) ≤ (2 : Int)) ∧ ((2 : Int) < (8 : Int))), ((8 : Int) ≠ 0), (true = true), ((17 : Nat) < (64 : Nat)), (((0 : Int) ≤ (17 : Int)) ∧ ((17 : Int) < (64 : Int))), ((0 : Int) ≤ (48 : Int)), ((8 : Int) ≠ 0), ((2 : Nat) < (8 : Nat)), (((0 : Int) ≤ (2 : Int)) ∧ ((2 : Int) < (8 : Int))), ((8 : Int) ≠ 0), (true = true), ((16 : Nat) < (64 : Nat)), (((0 : Int) ≤ (16 : Int)) ∧ ((16 : Int) < (64 : Int))), ((0 : Int) ≤ (56 : Int)), ((8 : Int) ≠ 0), ((2 : Nat) < (8 : Nat)), (((0 : Int) ≤ (2 : Int)) ∧ ((2 : Int) < (8 : Int))), ((8 : Int) ≠ 0), (true = true), ((15 : Nat) < (64 : Nat)), (((0 : Int) ≤ (15 : Int)) ∧ ((15 : Int) < (64 : Int))), ((0 : Int) ≤ (0 : Int)), ((8 : Int) ≠ 0), ((1 : Nat) < (8 : Nat)), (((0 : Int) ≤ (1 : Int)) ∧ ((1 : Int) < (8 : Int))), ((8 : Int) ≠ 0), (true = true), ((14 : Nat) < (64 : Nat)), (((0 : Int) ≤ (14 : Int)) ∧ ((14 : Int) < (64 : Int))), ((0 : Int) ≤ (8 : Int)), ((8 : Int) ≠ 0), ((1 : Nat) < (8 : Nat)), (((0 : Int) ≤ (1 : Int)) ∧ ((1 : Int) < (8 : Int))), ((8 : Int) ≠ 0), (true = true), ((13 : Nat) < (64 : Nat)), (((0 : Int) ≤ (13 : Int)) ∧ ((13 : Int) < (64 : Int))), ((0 : Int) ≤ (16 : Int)), ((8 : Int) ≠ 0), ((1 : Nat) < (8 : Nat)), (((0 : Int) ≤ (1 : Int)) ∧ ((1 : Int) < (8 : Int))), ((8 : Int) ≠ 0), (true = true), ((12 : Nat) < (64 : Nat)), (((0 : Int) ≤ (12 : Int)) ∧ ((12 : Int) < (64 : Int))), ((0 : Int) ≤ (24 : Int)), ((8 : Int) ≠ 0), ((1 : Nat) < (8 : Nat)), (((0 : Int) ≤ (1 : Int)) ∧ ((1 : Int) < (8 : Int))), ((8 : Int) ≠ 0), (true = true), ((11 : Nat) < (64 : Nat)), (((0 : Int) ≤ (11 : Int)) ∧ ((11 : Int) < (64 : Int))), ((0 : Int) ≤ (32 : Int)), ((8 : Int) ≠ 0), ((1 : Nat) < (8 : Nat)), (((0 : Int) ≤ (1 : Int)) ∧ ((1 : Int) < (8 : Int))), ((8 : Int) ≠ 0), (true = true), ((10 : Nat) < (64 : Nat)), (((0 : Int) ≤ (10 : Int)) ∧ ((10 : Int) < (64 : Int))), ((0 : Int) ≤ (40 : Int)), ((8 : Int) ≠ 0), ((1 : Nat) < (8 : Nat)), (((0 : Int) ≤ (1 : Int)) ∧ ((1 : Int) < (8 : Int))), ((8 : Int) ≠ 0), (true = true), ((9 : Nat) < (64 : Nat)), (((0 : Int) ≤ (9 : Int)) ∧ ((9 : Int) < (64 : Int))), ((0 : Int) ≤ (48 : Int)), ((8 : Int) ≠ 0), ((1 : Nat) < (8 : Nat)), (((0 : Int) ≤ (1 : Int)) ∧ ((1 : Int) < (8 : Int))), ((8 : Int) ≠ 0), (true = true), ((8 : Nat) < (64 : Nat)), (((0 : Int) ≤ (8 : Int)) ∧ ((8 : Int) < (64 : Int))), ((0 : Int) ≤ (56 : Int)), ((8 : Int) ≠ 0), ((1 : Nat) < (8 : Nat)), (((0 : Int) ≤ (1 : Int)) ∧ ((1 : Int) < (8 : Int))), ((8 : Int) ≠ 0), (true = true), ((7 : Nat) < (64 : Nat)), (((0 : Int) ≤ (7 : Int)) ∧ ((7 : Int) < (64 : Int))), ((0 : Int) ≤ (0 : Int)), ((8 : Int) ≠ 0), ((0 : Nat) < (8 : Nat)), (((0 : Int) ≤ (0 : Int)) ∧ ((0 : Int) < (8 : Int))), ((8 : Int) ≠ 0), (true = true), ((6 : Nat) < (64 : Nat)), (((0 : Int) ≤ (6 : Int)) ∧ ((6 : Int) < (64 : Int))), ((0 : Int) ≤ (8 : Int)), ((8 : Int) ≠ 0), ((0 : Nat) < (8 : Nat)), (((0 : Int) ≤ (0 : Int)) ∧ ((0 : Int) < (8 : Int))), ((8 : Int) ≠ 0), (true = true), ((5 : Nat) < (64 : Nat)), (((0 : Int) ≤ (5 : Int)) ∧ ((5 : Int) < (64 : Int))), ((0 : Int) ≤ (16 : Int)), ((8 : Int) ≠ 0), ((0 : Nat) < (8 : Nat)), (((0 : Int) ≤ (0 : Int)) ∧ ((0 : Int) < (8 : Int))), ((8 : Int) ≠ 0), (true = true), ((4 : Nat) < (64 : Nat)), (((0 : Int) ≤ (4 : Int)) ∧ ((4 : Int) < (64 : Int))), ((0 : Int) ≤ (24 : Int)), ((8 : Int) ≠ 0), ((0 : Nat) < (8 : Nat)), (((0 : Int) ≤ (0 : Int)) ∧ ((0 : Int) < (8 : Int))), ((8 : Int) ≠ 0), (true = true), ((3 : Nat) < (64 : Nat)), (((0 : Int) ≤ (3 : Int)) ∧ ((3 : Int) < (64 : Int))), ((0 : Int) ≤ (32 : Int)), ((8 : Int) ≠ 0), ((0 : Nat) < (8 : Nat)), (((0 : Int) ≤ (0 : Int)) ∧ ((0 : Int) < (8 : Int))), ((8 : Int) ≠ 0), (true = true), ((2 : Nat) < (64 : Nat)), (((0 : Int) ≤ (2 : Int)) ∧ ((2 : Int) < (64 : Int))), ((0 : Int) ≤ (40 : Int)), ((8 : Int) ≠ 0), ((0 : Nat) < (8 : Nat)), (((0 : Int) ≤ (0 : Int)) ∧ ((0 : Int) < (8 : Int))), ((8 : Int) ≠ 0), (true = true), ((1 : Nat) < (64 : Nat)), (((0 : Int) ≤ (1 : Int)) ∧ ((1 : Int) < (64 : Int))), ((0 : Int) ≤ (48 : Int)), ((8 : Int) ≠ 0), ((0 : Nat) < (8 : Nat)), (((0 : Int) ≤ (0 : Int)) ∧ ((0 : Int) < (8 : Int))), ((8 : Int) ≠ 0), (true = true), ((0 : Nat) < (64 : Nat)), (((0 : Int) ≤ (0 : Int)) ∧ ((0 : Int) < (64 : Int))), ((0 : Int) ≤ (56 : Int)), ((8 : Int) ≠ 0), ((0 : Nat) < (8 : Nat)), (((0 : Int) ≤ (0 : Int)) ∧ ((0 : Int) < (8 : Int))), ((8 : Int) ≠ 0), (true = true), (Run Try.prog ⟨w, rw, 3, β⟩ (.block 0 (.loop (loopB Try.f85 0))) (sumL_mk S tl N L C 0 (S)) (To ⟨w, rw, 3, β⟩ .normal (sumL_mk S tl N L C ((tl + (pad N)) / (128 : Nat)) (iter (sumL_step tl N L C) ((tl + (pad N)) / (128 : Nat)) (S))))), ((((pad N) ≤ (pad N)) ∧ (((0 : Nat) + (pad N)) ≤ (256 : Nat))) ∧ (okP (some ((((0 : Nat) + tl) + (pad N)) ≤ (512 : Nat)))) ∧ ((tl + (pad N)) ≤ (512 : Nat))), ((True ∧ True) ∧ True), ((((min tl tl) ≤ tl) ∧ (((0 : Nat) + (min tl tl)) ≤ tl)) ∧ (okP (some (((0 : Nat) + (min tl tl)) ≤ (512 : Nat))))), (((0 : Int) ≤ ((tl : Nat) : Int)) ∧ (((tl : Nat) : Int) ≤ (512 : Int)) ∧ ((512 : Int) ≤ (281474976710656 : Int))), (false = false), ((True ∧ True) ∧ (tl = tl))]) (by kernel_rfl)
    (aC rfl (aC (by decide) (aC ⟨(by decide), (by decide)⟩ (aC (by decide) (aC (by decide) (aC (by decide) (aC ⟨(by decide), (by decide)⟩ (aC (by decide) (aC rfl (aC (by decide) (aC ⟨(by decide), (by decide)⟩ (aC (by decide) (aC (by decide) (aC (by decide) (aC ⟨(by decide), (by decide)⟩ (aC (by decide) (aC rfl (aC (by decide) (aC ⟨(by decide), (by decide)⟩ (aC (by decide) (aC (by decide) (aC (by decide) (aC ⟨(by decide), (by decide)⟩ (aC (by decide) (aC rfl (aC (by decide) (aC ⟨(by decide), (by decide)⟩ (aC (by decide) (aC (by decide) (aC (by decide) (aC ⟨(by decide), (by decide)⟩ (aC (by decide) (aC rfl (aC (by decide) (aC ⟨(by decide), (by decide)⟩ (aC (by decide) (aC (by decide) (aC (by decide) (aC ⟨(by decide), (by decide)⟩ (aC (by decide) (aC rfl (aC (by decide) (aC ⟨(by decide), (by decide)⟩ (aC (by decide) (aC (by decide) (aC (by decide) (aC ⟨(by decide), (by decide)⟩ (aC (by decide) (aC rfl (aC (by decide) (aC ⟨(by decide), (by decide)⟩ (aC (by decide) (aC (by decide) (aC (by decide) (aC ⟨(by decide), (by decide)⟩ (aC (by decide) (aC rfl (aC (by decide) (aC ⟨(by decide), (by decide)⟩ (aC (by decide) (aC (by decide) (aC (by decide) (aC ⟨(by decide), (by decide)⟩ (aC (by decide) (aC rfl (aC (by decide) (aC ⟨(by decide), (by decide)⟩ (aC (by decide) (aC (by decide) (aC (by decide) (aC ⟨(by decide), (by decide)⟩ (aC (by decide) (aC rfl (aC (by decide) (aC ⟨(by decide), (by decide)⟩ (aC (by decide) (aC (by decide) (aC (by decide) (aC ⟨(by decide), (by decide)⟩ (aC (by decide) (aC rfl (aC (by decide) (aC ⟨(by decide), (by decide)⟩ (aC (by decide) (aC (by decide) (aC (by decide) (aC ⟨(by decide), (by decide)⟩ (aC (by decide) (aC rfl (aC (by decide) (aC ⟨(by decide), (by decide)⟩ (aC (by decide) (aC (by decide) (aC (by decide) (aC ⟨(by decide), (by decide)⟩ (aC (by decide) (aC rfl (aC (by decide) (aC ⟨(by decide), (by decide)⟩ (aC (by decide) (aC (by decide) (aC (by decide) (aC ⟨(by decide), (by decide)⟩ (aC (by decide) (aC rfl (aC (by decide) (aC ⟨(by decide), (by decide)⟩ (aC (by decide) (aC (by decide) (aC (by decide) (aC ⟨(by decide), (by decide)⟩ (aC (by decide) (aC rfl (aC (by decide) (aC ⟨(by decide), (by decide)⟩ (aC (by decide) (aC (by decide) (aC (by decide) (aC ⟨(by decide), (by decide)⟩ (aC (by decide) (aC rfl (aC (by decide) (aC ⟨(by decide), (by decide)⟩ (aC (by decide) (aC (by decide) (aC (by decide) (aC ⟨(by decide), (by decide)⟩ (aC (by decide) (aC rfl (aC (by decide) (aC ⟨(by decide), (by decide)⟩ (aC (by decide) (aC (by decide) (aC (by decide) (aC ⟨(by decide), (by decide)⟩ (aC (by decide) (aC rfl (aC (by decide) (aC ⟨(by decide), (by decide)⟩ (aC (by decide) (aC (by decide) (aC (by decide) (aC ⟨(by decide), (by decide)⟩ (aC (by decide) (aC rfl (aC (by decide) (aC ⟨(by decide), (by decide)⟩ (aC (by decide) (aC (by decide) (aC (by decide) (aC ⟨(by decide), (by decide)⟩ (aC (by decide) (aC rfl (aC (by decide) (aC ⟨(by decide), (by decide)⟩ (aC (by decide) (aC (by decide) (aC (by decide) (aC ⟨(by decide), (by decide)⟩ (aC (by decide) (aC rfl (aC (by decide) (aC ⟨(by decide), (by decide)⟩ (aC (by decide) (aC (by decide) (aC (by decide) (aC ⟨(by decide), (by decide)⟩ (aC (by decide) (aC rfl (aC (by decide) (aC ⟨(by decide), (by decide)⟩ (aC (by decide) (aC (by decide) (aC (by decide) (aC ⟨(by decide), (by decide)⟩ (aC (by decide) (aC rfl (aC (by decide) (aC ⟨(by decide), (by decide)⟩ (aC (by decide) (aC (by decide) (aC (by decide) (aC ⟨(by decide), (by decide)⟩ (aC (by decide) (aC rfl (aC (by decide) (aC ⟨(by decide), (by decide)⟩ (aC (by decide) (aC (by decide) (aC (by decide) (aC ⟨(by decide), (by decide)⟩ (aC (by decide) (aC rfl (aC (by decide) (aC ⟨(by decide), (by decide)⟩ (aC (by decide) (aC (by decide) (aC (by decide) (aC ⟨(by decide), (by decide)⟩ (aC (by decide) (aC rfl (aC (by decide) (aC ⟨(by decide), (by decide)⟩ (aC (by decide) (aC (by decide) (aC (by decide) (aC ⟨(by decide), (by decide)⟩ (aC (by decide) (aC rfl (aC (by decide) (aC ⟨(by decide), (by decide)⟩ (aC (by decide) (aC (by decide) (aC (by decide) (aC ⟨(by decide), (by decide)⟩ (aC (by decide) (aC rfl (aC (by decide) (aC ⟨(by decide), (by decide)⟩ (aC (by decide) (aC (by decide) (aC (by decide) (aC ⟨(by decide), (by decide)⟩ (aC (by decide) (aC rfl (aC (by decide) (aC ⟨(by decide), (by decide)⟩ (aC (by decide) (aC (by decide) (aC (by decide) (aC ⟨(by decide), (by decide)⟩ (aC (by decide) (aC rfl (aC (by decide) (aC ⟨(by decide), (by decide)⟩ (aC (by decide) (aC (by decide) (aC (by decide) (aC ⟨(by decide), (by decide)⟩ (aC (by decide) (aC rfl (aC (by decide) (aC ⟨(by decide), (by decide)⟩ (aC (by decide) (aC (by decide) (aC (by decide) (aC ⟨(by decide), (by decide)⟩ (aC (by decide) (aC rfl (aC (by decide) (aC ⟨(by decide), (by decide)⟩ (aC (by decide) (aC (by decide) (aC (by decide) (aC ⟨(by decide), (by decide)⟩ (aC (by decide) (aC rfl (aC (by decide) (aC ⟨(by decide), (by decide)⟩ (aC (by decide) (aC (by decide) (aC (by decide) (aC ⟨(by decide), (by decide)⟩ (aC (by decide) (aC rfl (aC (by decide) (aC ⟨(by decide), (by decide)⟩ (aC (by decide) (aC (by decide) (aC (by decide) (aC ⟨(by decide), (by decide)⟩ (aC (by decide) (aC rfl (aC (by decide) (aC ⟨(by decide), (by decide)⟩ (aC (by decide) (aC (by decide) (aC (by decide) (aC ⟨(by decide), (by decide)⟩ (aC (by decide) (aC rfl (aC (by decide) (aC ⟨(by decide), (by decide)⟩ (aC (by decide) (aC (by decide) (aC (by decide) (aC ⟨(by decide), (by decide)⟩ (aC (by decide) (aC rfl (aC (by decide) (aC ⟨(by decide), (by decide)⟩ (aC (by decide) (aC (by decide) (aC (by decide) (aC ⟨(by decide), (by decide)⟩ (aC (by decide) (aC rfl (aC (by decide) (aC ⟨(by decide), (by decide)⟩ (aC (by decide) (aC (by decide) (aC (by decide) (aC ⟨(by decide), (by decide)⟩ (aC (by decide) (aC rfl (aC (by decide) (aC ⟨(by decide), (by decide)⟩ (aC (by decide) (aC (by decide) (aC (by decide) (aC ⟨(by decide), (by decide)⟩ (aC (by decide) (aC rfl (aC (by decide) (aC ⟨(by decide), (by decide)⟩ (aC (by decide) (aC (by decide) (aC (by decide) (aC ⟨(by decide), (by decide)⟩ (aC (by decide) (aC rfl (aC (by decide) (aC ⟨(by decide), (by decide)⟩ (aC (by decide) (aC (by decide) (aC (by decide) (aC ⟨(by decide), (by decide)⟩ (aC (by decide) (aC rfl (aC (by decide) (aC ⟨(by decide), (by decide)⟩ (aC (by decide) (aC (by decide) (aC (by decide) (aC ⟨(by decide), (by decide)⟩ (aC (by decide) (aC rfl (aC (by decide) (aC ⟨(by decide), (by decide)⟩ (aC (by decide) (aC (by decide) (aC (by decide) (aC ⟨(by decide), (by decide)⟩ (aC (by decide) (aC rfl (aC (by decide) (aC ⟨(by decide), (by decide)⟩ (aC (by decide) (aC (by decide) (aC (by decide) (aC ⟨(by decide), (by decide)⟩ (aC (by decide) (aC rfl (aC (by decide) (aC ⟨(by decide), (by decide)⟩ (aC (by decide) (aC (by decide) (aC (by decide) (aC ⟨(by decide), (by decide)⟩ (aC (by decide) (aC rfl (aC (by decide) (aC ⟨(by decide), (by decide)⟩ (aC (by decide) (aC (by decide) (aC (by decide) (aC ⟨(by decide), (by decide)⟩ (aC (by decide) (aC rfl (aC (by decide) (aC ⟨(by decide), (by decide)⟩ (aC (by decide) (aC (by decide) (aC (by decide) (aC ⟨(by decide), (by decide)⟩ (aC (by decide) (aC rfl (aC (by decide) (aC ⟨(by decide), (by decide)⟩ (aC (by decide) (aC (by decide) (aC (by decide) (aC ⟨(by decide), (by decide)⟩ (aC (by decide) (aC rfl (aC (by decide) (aC ⟨(by decide), (by decide)⟩ (aC (by decide) (aC (by decide) (aC (by decide) (aC ⟨(by decide), (by decide)⟩ (aC (by decide) (aC rfl (aC (by decide) (aC ⟨(by decide), (by decide)⟩ (aC (by decide) (aC (by decide) (aC (by decide) (aC ⟨(by decide), (by decide)⟩ (aC (by decide) (aC rfl (aC (by decide) (aC ⟨(by decide), (by decide)⟩ (aC (by decide) (aC (by decide) (aC (by decide) (aC ⟨(by decide), (by decide)⟩ (aC (by decide) (aC rfl (aC (by decide) (aC ⟨(by decide), (by decide)⟩ (aC (by decide) (aC (by decide) (aC (by decide) (aC ⟨(by decide), (by decide)⟩ (aC (by decide) (aC rfl (aC (by decide) (aC ⟨(by decide), (by decide)⟩ (aC (by decide) (aC (by decide) (aC (by decide) (aC ⟨(by decide), (by decide)⟩ (aC (by decide) (aC rfl (aC (by decide) (aC ⟨(by decide), (by decide)⟩ (aC (by decide) (aC (by decide) (aC (by decide) (aC ⟨(by decide), (by decide)⟩ (aC (by decide) (aC rfl (aC (by decide) (aC ⟨(by decide), (by decide)⟩ (aC (by decide) (aC (by decide) (aC (by decide) (aC ⟨(by decide), (by decide)⟩ (aC (by decide) (aC rfl (aC (by decide) (aC ⟨(by decide), (by decide)⟩ (aC (by decide) (aC (by decide) (aC (by decide) (aC ⟨(by decide), (by decide)⟩ (aC (by decide) (aC rfl (aC (by decide) (aC ⟨(by decide), (by decide)⟩ (aC (by decide) (aC (by decide) (aC (by decide) (aC ⟨(by decide), (by decide)⟩ (aC (by decide) (aC rfl (aC (by decide) (aC ⟨(by decide), (by decide)⟩ (aC (by decide) (aC (by decide) (aC (by decide) (aC ⟨(by decide), (by decide)⟩ (aC (by decide) (aC rfl (aC (by decide) (aC ⟨(by decide), (by decide)⟩ (aC (by decide) (aC (by decide) (aC (by decide) (aC ⟨(by decide), (by decide)⟩ (aC (by decide) (aC rfl (aC (by decide) (aC ⟨(by decide), (by decide)⟩ (aC (by decide) (aC (by decide) (aC (by decide) (aC ⟨(by decide), (by decide)⟩ (aC (by decide) (aC rfl (aC (by decide) (aC ⟨(by decide), (by decide)⟩ (aC (by decide) (aC (by decide) (aC (by decide) (aC ⟨(by decide), (by decide)⟩ (aC (by decide) (aC rfl (aC (by decide) (aC ⟨(by decide), (by decide)⟩ (aC (by decide) (aC (by decide) (aC (by decide) (aC ⟨(by decide), (by decide)⟩ (aC (by decide) (aC rfl (aC (by decide) (aC ⟨(by decide), (by decide)⟩ (aC (by decide) (aC (by decide) (aC (by decide) (aC ⟨(by decide), (by decide)⟩ (aC (by decide) (aC rfl (aC (by decide) (aC ⟨(by decide), (by decide)⟩ (aC (by decide) (aC (by decide) (aC (by decide) (aC ⟨(by decide), (by decide)⟩ (aC (by decide) (aC rfl (aC (sumL_loop S tl N L C h0 h1 hl0_0 hl1_0 hl2_0 w rw β (S)) (aC ⟨⟨(by have hp1 := pad_le N; have hp2 := pad_mod h0 h1; first | omega | (simp (disch := omega) only [wrapI]; omega)), (by have hp1 := pad_le N; have hp2 := pad_mod h0 h1; first | omega | (simp (disch := omega) only [wrapI]; omega))⟩, (show ((((0 : Nat) + tl) + (pad N)) ≤ (512 : Nat)) from (by have hp1 := pad_le N; have hp2 := pad_mod h0 h1; first | omega | (simp (disch := omega) only [wrapI]; omega))), (by have hp1 := pad_le N; have hp2 := pad_mod h0 h1; first | omega | (simp (disch := omega) only [wrapI]; omega))⟩ (aC ⟨⟨trivial, trivial⟩, trivial⟩ (aC ⟨⟨(by have hp1 := pad_le N; have hp2 := pad_mod h0 h1; first | omega | (simp (disch := omega) only [wrapI]; omega)), (by have hp1 := pad_le N; have hp2 := pad_mod h0 h1; first | omega | (simp (disch := omega) only [wrapI]; omega))⟩, (show (((0 : Nat) + (min tl tl)) ≤ (512 : Nat)) from (by have hp1 := pad_le N; have hp2 := pad_mod h0 h1; first | omega | (simp (disch := omega) only [wrapI]; omega)))⟩ (aC ⟨(by have hp1 := pad_le N; have hp2 := pad_mod h0 h1; first | omega | (simp (disch := omega) only [wrapI]; omega)), (by have hp1 := pad_le N; have hp2 := pad_mod h0 h1; first | omega | (simp (disch := omega) only [wrapI]; omega)), (by decide)⟩ (aC rfl (aC ⟨⟨trivial, trivial⟩, rfl⟩ (AllP_nil)))))))))))))))))))))))))))))))))))))))))))))))))))))))))))))))))))))))))))))))))))))))))))))))))))))))))))))))))))))))))))))))))))))))))))))))))))))))))))))))))))))))))))))))))))))))))))))))))))))))))))))))))))))))))))))))))))))))))))))))))))))))))))))))))))))))))))))))))))))))))))))))))))))))))))))))))))))))))))))))))))))))))))))))))))))))))))))))))))))))))))))))))))))))))))))))))))))))))))))))))))))))))))))))))))))))))))))))))))))))))))))))))))))))))))))))))))))))))))))))))))))))))))))))))))))))))))))))))))))))))

theorem hsum_body (S : List Int) (tl : Nat) (N : Int) (L C : List Int) (h0 : ((0 : Int) ≤ N)) (h1 : ((Int.tmod N (128 : Int)) = ((tl : Nat) : Int))) (w : World) (rw : List Nat) (β : Env) : Body Try.prog (tabOf tabSG) Try.f85 ⟨w, rw, 3, β⟩ [.o (.a (.p 0 0))] [some ⟨false, [.ints .u64 (8 : Nat) S, .rs 1 0 tl 1, .i .u64 N, .p 2 0]⟩, some ⟨false, [.ints .u8 tl L]⟩, some ⟨false, [.ints .u64 (80 : Nat) C]⟩] (fun ys K' => ys = [.g [.ints .u8 (64 : Nat) (hsum S tl N L C)]] ∧ K' = [some ⟨false, [.ints .u64 (8 : Nat) S, .rs 1 0 tl 1, .i .u64 N, .p 2 0]⟩, some ⟨false, [.ints .u8 tl L]⟩, some ⟨false, [.ints .u64 (80 : Nat) C]⟩]) :=
  Body.lens (c := (Try.f85.body.getD .skip)) rfl fun h => hsum_body0 S tl N L C h0 h1 (h.lens 0 _ .u64 (8 : Nat) S rfl (by simp)) (h.lens 1 _ .u8 tl L rfl (by simp)) (h.lens 2 _ .u64 (80 : Nat) C rfl (by simp)) w rw β

def gam14 : Gam := gcall 85 [false, false, false] [.w] (fun wk vs args => match wk, vs, args with | [⟨false, [.ints .u64 (8 : Nat) S, .rs 1 0 tl 1, .i .u64 N, .p 2 0]⟩, ⟨false, [.ints .u8 tl_1 L]⟩, ⟨false, [.ints .u64 (80 : Nat) C]⟩], [], [.o (.a (.p 0 0))] => some ((tl_1 = tl) ∧ ((0 : Int) ≤ N) ∧ ((Int.tmod N (128 : Int)) = ((tl : Nat) : Int)), [.g [.ints .u8 (64 : Nat) (hsum S tl N L C)]], [some ⟨false, [.ints .u64 (8 : Nat) S, .rs 1 0 tl 1, .i .u64 N, .p 2 0]⟩, some ⟨false, [.ints .u8 tl L]⟩, some ⟨false, [.ints .u64 (80 : Nat) C]⟩]) | _, _, _ => none) gam13
theorem gam14_ok : GamOk Try.prog gam14 := gcall_ok tabOkSG Try.func85 gam13_ok Try.call85 (by
  intro wk vs args p xs K1 h hv
  split at h
  · simp only [Option.some.injEq, Prod.mk.injEq] at h; obtain ⟨rfl, rfl, rfl⟩ := h; obtain ⟨g0, g1, g2⟩ := hv; subst g0; exact fun caps w rw β => hsum_body _ _ _ _ _ g1 g2 w rw β
  · simp at h)

end Go.Proofs.Ytlmdhjojinkdbaa.X

/- Plain lemmas for the walks of State, Pad, Join. -/
namespace Go.Proofs.Ytlmdhjojinkdbaa.X
open Go Go.Proofs

theorem wr_inv {N : Int} {tl n : Nat} (h0 : 0 ≤ N) (h : Int.tmod N 128 = ((tl : Nat) : Int)) (hn : n < 140737488355328) : 0 ≤ wrN N n ∧ Int.tmod (wrN N n) 128 = ((wrT tl n : Nat) : Int) ∧ wrT tl n < 128 := by
  have h1 : (0 : Int) ≤ wrN N n := wrap_nn rfl
  refine ⟨h1, ?_, by unfold wrT; omega⟩
  rw [Int.tmod_eq_emod_of_nonneg h1]
  rw [Int.tmod_eq_emod_of_nonneg h0] at h
  unfold wrN wrT
  rw [wrapU (x := (n : Int)) (by omega) (by omega)]
  show (let m := (N + (n : Int)) % (18446744073709551616 : Int); if (false && decide (m ≥ (9223372036854775808 : Int))) = true then m - 18446744073709551616 else m) % 128 = _
  simp only [Bool.false_and, Bool.false_eq_true, if_false]
  omega

theorem wr_inv0 {n : Nat} (hn : n < 140737488355328) : 0 ≤ wrN 0 n ∧ Int.tmod (wrN 0 n) 128 = ((wrT 0 n : Nat) : Int) ∧ wrT 0 n < 128 := wr_inv (Int.le_refl 0) rfl hn

end Go.Proofs.Ytlmdhjojinkdbaa.X

/- Printed by a tool of this session. -/
namespace Go.Proofs.Ytlmdhjojinkdbaa.X
open Go Go.Proofs
set_option linter.unusedVariables false
set_option linter.unusedSimpArgs false
set_option maxRecDepth 100000
theorem teSJ_22 : TEOk Try.prog 22 ⟨.slice 5, 1, 24, [.raw (.slice none 0 0)], false⟩ :=
  TEOk.of Try.underlying22 (i := Try.t22) (by kernel_rfl) rfl rfl rfl (by kernel_rfl) (fun h => by cases h) (by kernel_rfl)
theorem teSJ_23 : TEOk Try.prog 23 ⟨.slice 22, 1, 24, [.raw (.slice none 0 0)], false⟩ :=
  TEOk.of Try.underlying23 (i := Try.t23) (by kernel_rfl) rfl rfl rfl (by kernel_rfl) (fun h => by cases h) (by kernel_rfl)
theorem teSJ_32 : TEOk Try.prog 32 ⟨.array 64 5, 64, 64, [.ints .u8 (64 : Nat) ([0, 0, 0, 0, 0, 0, 0, 0, 0, 0, 0, 0, 0, 0, 0, 0, 0, 0, 0, 0, 0, 0, 0, 0, 0, 0, 0, 0, 0, 0, 0, 0, 0, 0, 0, 0, 0, 0, 0, 0, 0, 0, 0, 0, 0, 0, 0, 0, 0, 0, 0, 0, 0, 0, 0, 0, 0, 0, 0, 0, 0, 0, 0, 0] : List Int)], true⟩ :=
  TEOk.of Try.underlying32 (i := Try.t32) (by kernel_rfl) rfl rfl rfl (by kernel_rfl) (fun _ => Try.eqGuardType32) (by kernel_rfl)
noncomputable def tabSJ : List (Nat × TE) := [(22, ⟨.slice 5, 1, 24, [.raw (.slice none 0 0)], false⟩), (23, ⟨.slice 22, 1, 24, [.raw (.slice none 0 0)], false⟩), (32, ⟨.array 64 5, 64, 64, [.ints .u8 (64 : Nat) ([0, 0, 0, 0, 0, 0, 0, 0, 0, 0, 0, 0, 0, 0, 0, 0, 0, 0, 0, 0, 0, 0, 0, 0, 0, 0, 0, 0, 0, 0, 0, 0, 0, 0, 0, 0, 0, 0, 0, 0, 0, 0, 0, 0, 0, 0, 0, 0, 0, 0, 0, 0, 0, 0, 0, 0, 0, 0, 0, 0, 0, 0, 0, 0] : List Int)], true⟩)]
theorem tabOkSJ : TabOk Try.prog (tabOf tabSJ) := (tabOf_cons teSJ_22 (tabOf_cons teSJ_23 (tabOf_cons teSJ_32 tabOf_nil)))

set_option maxHeartbeats 1000000 in
theorem num_body0 (x : Int) (w : World) : Body Try.prog (tabOf tabSJ) Try.f11 ⟨w, [], 0, noEnv⟩ (toA [.a (.i .i64 x)]) [] (fun ys _ => ys = [.a (.i .i64 x)]) :=
  Body.of_fin (Γ := gam14) (Λ := noLam) (Ψ := noPsi) (fuel := 0) (m := 4) (c := (Try.f11.body.getD .skip)) mix tabOkSJ gam14_ok rfl (rs := [.tmp 2]) rfl rfl [] []
    (vc := []) (by kernel_rfl)
    (AllP_nil)

theorem num_body (x : Int) (w : World) : Body Try.prog (tabOf tabSJ) Try.f11 ⟨w, [], 0, noEnv⟩ (toA [.a (.i .i64 x)]) [] (fun ys _ => ys = [.a (.i .i64 x)]) :=
  Body.lens (c := (Try.f11.body.getD .skip)) rfl fun h => num_body0 x  w

theorem num_pure (x : Int) : PureC Try.prog 11 [.a (.i .i64 x)] [.a (.i .i64 x)] :=
  PureC.of_body tabOkSJ Try.func11 rfl rfl fun w => num_body x w

def gam15 : Gam := gpure 11 (fun args => match args with | [.o (.a (.i .i64 x))] => some (none, [.a (.i .i64 x)]) | _ => none) gam14
theorem gam15_ok : GamOk Try.prog gam15 := gpure_ok gam14_ok Try.call11 (by
  intro args vc xs h hv
  split at h
  · simp only [Option.some.injEq, Prod.mk.injEq] at h; obtain ⟨rfl, rfl⟩ := h; exact ⟨_, by rfl, num_pure _⟩
  · simp at h)

def join1 (n : Nat) (b : List Int) : List Int :=
  (hsum (wrS (konst) ([7640891576956012808, 13503953896175478587, 4354685564936845355, 11912009170470909681, 5840696475078001361, 11170449401992604703, 2270897969802886507, 6620516959819538809] : List Int) ([] : List Int) (sub b 0 n) (0 : Nat) n) (wrT (0 : Nat) n) (wrN (0 : Int) n) (wrL ([] : List Int) (sub b 0 n) (0 : Nat) n) (konst))

set_option maxHeartbeats 1000000 in
theorem join1_body0 (n cp : Nat) (b : List Int) (h0 : (n < (140737488355328 : Nat))) (hl1_0 : List.length b = n) (w : World) (rw : List Nat) (β : Env) : Body Try.prog (tabOf tabSJ) Try.f39 ⟨w, rw, 2, β⟩ [.o (.a (.sl 0 0 (1 : Nat) (1 : Nat)))] [some ⟨false, [.sl 1 0 n cp]⟩, some ⟨false, [.ints .u8 n b]⟩] (fun ys K' => ys = [.g [.ints .u8 (64 : Nat) (join1 n b)]] ∧ K' = [some ⟨false, [.sl 1 0 n cp]⟩, some ⟨false, [.ints .u8 n b]⟩]) :=
  Body.of_finK (Γ := gam15) (Λ := noLam) (Ψ := noPsi) (fuel := 2) (m := 19) (c := (Try.f39.body.getD .skip)) mix tabOkSJ gam15_ok rfl (rs := [.cell 2 32]) rfl rfl [true, false] [] 2
    (vc := [((True ∧ True) ∧ (((wrT (0 : Nat) n) = (wrT (0 : Nat) n)) ∧ ((0 : Int) ≤ (wrN (0 : Int) n)) ∧ ((Int.tmod (wrN (0 : Int) n) (128 : Int)) = (((wrT (0 : Nat) n) : Nat) : Int)))), (false = false), ((True ∧ ((((0 : Nat) + n) ≤ n) ∧ True)) ∧ (((0 : Nat) = (0 : Nat)) ∧ (n = n) ∧ ((0 : Nat) < (128 : Nat)) ∧ (n < (140737488355328 : Nat)))), (((0 : Int) ≤ (0 : Int)) ∧ ((0 : Int) < (1 : Int))), (true = true), (True ∧ True)]) (by kernel_rfl)
    (aC ⟨⟨trivial, trivial⟩, ⟨rfl, (by have hj := wr_inv0 h0; first | omega | exact hj.1 | exact hj.2.1 | (simp (disch := omega) only [wrapI]; omega)), (by have hj := wr_inv0 h0; first | omega | exact hj.1 | exact hj.2.1 | (simp (disch := omega) only [wrapI]; omega))⟩⟩ (aC rfl (aC ⟨⟨trivial, ⟨(by have hj := wr_inv0 h0; first | omega | exact hj.1 | exact hj.2.1 | (simp (disch := omega) only [wrapI]; omega)), trivial⟩⟩, ⟨rfl, rfl, (by decide), h0⟩⟩ (aC ⟨(by decide), (by decide)⟩ (aC rfl (aC ⟨trivial, trivial⟩ (AllP_nil)))))))

theorem join1_body (n cp : Nat) (b : List Int) (h0 : (n < (140737488355328 : Nat))) (w : World) (rw : List Nat) (β : Env) : Body Try.prog (tabOf tabSJ) Try.f39 ⟨w, rw, 2, β⟩ [.o (.a (.sl 0 0 (1 : Nat) (1 : Nat)))] [some ⟨false, [.sl 1 0 n cp]⟩, some ⟨false, [.ints .u8 n b]⟩] (fun ys K' => ys = [.g [.ints .u8 (64 : Nat) (join1 n b)]] ∧ K' = [some ⟨false, [.sl 1 0 n cp]⟩, some ⟨false, [.ints .u8 n b]⟩]) :=
  Body.lens (c := (Try.f39.body.getD .skip)) rfl fun h => join1_body0 n cp b h0 (h.lens 1 _ .u8 n b rfl (by simp)) w rw β

def gam16 : Gam := gcall 39 [false, false] [.w] (fun wk vs args => match wk, vs, args with | [⟨false, [.sl 1 0 n cp]⟩, ⟨false, [.ints .u8 n_1 b]⟩], [], [.o (.a (.sl 0 0 (1 : Nat) (1 : Nat)))] => some ((n_1 = n) ∧ (n < (140737488355328 : Nat)), [.g [.ints .u8 (64 : Nat) (join1 n b)]], [some ⟨false, [.sl 1 0 n cp]⟩, some ⟨false, [.ints .u8 n b]⟩]) | _, _, _ => none) gam15
theorem gam16_ok : GamOk Try.prog gam16 := gcall_ok tabOkSJ Try.func39 gam15_ok Try.call39 (by
  intro wk vs args p xs K1 h hv
  split at h
  · simp only [Option.some.injEq, Prod.mk.injEq] at h; obtain ⟨rfl, rfl, rfl⟩ := h; obtain ⟨g0, g1⟩ := hv; subst g0; exact fun caps w rw β => join1_body _ _ _ g1 w rw β
  · simp at h)

set_option maxHeartbeats 1000000 in
theorem sum_body0 (n nm : Nat) (b : List Int) (cap0 : Nat) (h0 : (nm = n)) (h1 : (n < (140737488355328 : Nat))) (hc0 : n ≤ cap0) (hl0_0 : List.length b = nm) (w : World) (β : Env) : Body Try.prog (tabOf tabSJ) Try.f38 ⟨w, [], 1, β⟩ [.o (.a (.sl 0 0 n cap0))] [some ⟨false, [.ints .u8 nm b]⟩] (fun ys _ => ys = [.g [.ints .u8 (64 : Nat) (join1 n b)]]) :=
  Body.of_fin (Γ := gam16) (Λ := noLam) (Ψ := noPsi) (fuel := 0) (m := 6) (c := (Try.f38.body.getD .skip)) mix tabOkSJ gam16_ok rfl (rs := [.cell 2 32]) rfl rfl [] []
    (vc := [((True ∧ True) ∧ ((nm = n) ∧ (n < (140737488355328 : Nat))))]) (by kernel_rfl)
    (aC ⟨⟨trivial, trivial⟩, ⟨h0, h1⟩⟩ (AllP_nil))

theorem sum_body (n nm : Nat) (b : List Int) (cap0 : Nat) (h0 : (nm = n)) (h1 : (n < (140737488355328 : Nat))) (w : World) (β : Env) : Body Try.prog (tabOf tabSJ) Try.f38 ⟨w, [], 1, β⟩ [.o (.a (.sl 0 0 n cap0))] [some ⟨false, [.ints .u8 nm b]⟩] (fun ys _ => ys = [.g [.ints .u8 (64 : Nat) (join1 n b)]]) :=
  Body.lens (c := (Try.f38.body.getD .skip)) rfl fun h => sum_body0 n nm b cap0 h0 h1 (h.caps 0 _ _ _ _ rfl) (h.lens 0 _ .u8 nm b rfl (by simp)) w β

def gam17 : Gam := greadV 38 [.s 1] (fun vs args => match vs, args with | [⟨_, _, _, [.ints .u8 nm b]⟩], [a0] => some ((nm = (lenOfA a0)) ∧ ((lenOfA a0) < (140737488355328 : Nat)), [.g [.ints .u8 (64 : Nat) (join1 (lenOfA a0) b)]]) | _, _ => none) gam16
theorem gam17_ok : GamOk Try.prog gam17 := greadV_ok tabOkSJ Try.func38 gam16_ok Try.call38 (by
  intro vs args p xs h hv
  split at h
  · simp only [Option.some.injEq, Prod.mk.injEq] at h; obtain ⟨rfl, rfl⟩ := h; exact ⟨by rfl, fun caps w β => sum_body _ _ _ _ hv.1 hv.2 w β⟩
  · simp at h)

end Go.Proofs.Ytlmdhjojinkdbaa.X

/- Values that lie outside of the known blocks, taken in where they are loaded; a function whose arguments lie there. -/
namespace Go.Proofs.Ytlmdhjojinkdbaa.X
open Go Go.Proofs
set_option linter.unusedVariables false

/-- what a value says -/
def intV : Value → Int
  | .int _ n => n
  | _ => 0
def lenV : Value → Nat
  | .slice _ len _ => len
  | _ => 0
def capV : Value → Nat
  | .slice _ _ cap => cap
  | _ => 0
/-- the integers that a slice shows in a world -/
def contV (w : World) : Value → List Int
  | .slice (some a) len _ => (match w.heap[a.block]? with
    | some (.cells arr _ _) => (List.range len).map fun i => intV (arr.getD (a.off + i) (.int .i64 0))
    | _ => [])
  | _ => []

/-- how values of a type are taken in -/
def gimp (t : TypeId) (mk : Value → Nat → Rx) (rest : Gam) : Gam := fun g K n args =>
  if impId + t = g then (match args with | [.o (.a (.raw v))] => some (mk v n) | _ => none) else rest g K n args

theorem gimp_ok {P : Program} {t : TypeId} {mk : Value → Nat → Rx} {rest : Gam} {w0 : World} {rw : List Nat} (hr : GamAt P rest w0 rw)
    (h : ∀ v n, okP (mk v n).vc → ∀ β K w, RelW w0 rw β K w → (∀ i, i < (mk v n).fr → K.at (n + i) = none) → K.nom n (n + (mk v n).fr) = true → ∃ β', Agree n (n + (mk v n).fr) β β' ∧ (mk v n).val.con β' v ∧ RelW w0 rw β' (app K (mk v n).ch) w) (ht : t < impId := by decide) :
    GamAt P (gimp t mk rest) w0 rw := by
  have ne2 : ∀ f : Nat, ¬ (impId + t = extId + f) := fun f e => by
    have h1 : impId + t < impId + impId := Nat.add_lt_add_left ht _
    have h2 : impId + impId = extId := rfl
    have h3 : extId ≤ extId + f := Nat.le_add_right _ _
    rw [e, h2] at h1
    exact Nat.lt_irrefl _ (Nat.lt_of_lt_of_le h1 h3)
  have ne : ∀ f : Nat, f < impId → ¬ (impId + t = f) := fun f hf e => by
    have : impId ≤ f := e ▸ Nat.le_add_right _ _
    omega
  refine ⟨?_, ?_, ?_, ?_, ?_, ?_⟩
  · intro t' n nm s ht' hs
    unfold gimp at hs
    split at hs
    · cases hs
    · exact hr.meth _ _ _ _ ht' hs
  · intro f K n args s hf hs
    unfold gimp at hs; rw [if_neg (ne f hf)] at hs
    exact hr.enter _ _ _ _ _ hf hs
  · intro f K n args s hf hs
    unfold gimp at hs; rw [if_neg (ne f hf)] at hs
    exact hr.calls _ _ _ _ _ hf hs
  · intro f K K' n args s hf hs hk
    unfold gimp at hs ⊢; rw [if_neg (ne f hf)] at hs ⊢
    exact hr.mono _ _ _ _ _ _ hf hs hk
  · intro f n args s hs
    unfold gimp at hs; rw [if_neg (ne2 f)] at hs
    exact hr.ext _ _ _ _ hs
  · intro f n v s hf hf2 hs hvc β K w hR hn hK
    unfold gimp at hs
    split at hs
    · simp only [Option.some.injEq] at hs; subst hs
      exact h v n hvc β K w hR hn hK
    · exact hr.imp _ _ _ _ hf hf2 hs hvc β K w hR hn hK

/-- a slice of integers -/
def mkS (B : Bs) (k : IntKind) (v : Value) (n : Nat) : Rx :=
  ⟨some (ImpOk B v k (lenV v) (capV v) (contV B.w0 v)), .o (.a (.sl n 0 (lenV v) (capV v))), [(n, some ⟨false, [.ints k (lenV v) (contV B.w0 v)]⟩)], 1⟩

theorem mkS_ok {B : Bs} {k : IntKind} (v : Value) (n : Nat) (hv : okP (mkS B k v n).vc) (β : Env) (K : Know) (w : World) (hR : RelW B.w0 B.rw β K w) (hn : ∀ i, i < (mkS B k v n).fr → K.at (n + i) = none) (hK : K.nom n (n + (mkS B k v n).fr) = true) :
    ∃ β', Agree n (n + (mkS B k v n).fr) β β' ∧ (mkS B k v n).val.con β' v ∧ RelW B.w0 B.rw β' (app K (mkS B k v n).ch) w := by
  obtain ⟨base, hvb, hlc, hL, hb⟩ := hv
  have hn0 : K.at n = none := hn 0 (by show 0 < 1; omega)
  have hK : K.nom n (n + 1) = true := hK
  have gen : ∀ rr : Option Ref, (∀ r, rr = some r → r.blk < B.w0.heap.size ∧ r.blk ∉ B.rw) →
      ((∃ r arr ty fr, rr = some r ∧ w.heap[r.blk]? = some (.cells arr ty fr) ∧ arr.size = r.size ∧ r.off + lenV v ≤ r.size ∧ ∀ i x, (contV B.w0 v)[i]? = some x → arr[r.off + i]? = some (.int k x)) ∨ lenV v = 0) →
      RelW B.w0 B.rw (β.upd n rr) (app K [(n, some ⟨false, [.ints k (lenV v) (contV B.w0 v)]⟩)]) w := by
    intro rr hrr hold
    have hag := Env.agree_upd β n rr
    have hself : (β.upd n rr) n = rr := by unfold Env.upd; rw [if_pos rfl]
    have hoth : ∀ t, t ≠ n → (β.upd n rr) t = β t := fun t ht => by unfold Env.upd; rw [if_neg ht]
    have hat : ∀ j, Know.at (app K [(n, some ⟨false, [.ints k (lenV v) (contV B.w0 v)]⟩)]) j = if j = n then some ⟨false, [.ints k (lenV v) (contV B.w0 v)]⟩ else K.at j := by
      intro j
      rw [app_at]
      unfold lkCh lkCh
      by_cases h : j = n
      · subst h; simp
      · simp [h]
    refine ⟨?_, ?_, ?_, ?_, hR.old, hR.size, hR.os, hR.tape, hR.output⟩
    · intro t b hb
      rw [hat] at hb
      split at hb
      · rename_i ht
        subst ht
        simp only [Option.some.injEq] at hb; subst hb
        refine ⟨(contV B.w0 v).map (Value.int k), ⟨_, [], by simp, ⟨hL, rfl⟩, rfl⟩, ?_⟩
        rcases hold with ⟨r, arr, ty, fr, hr, hh, hsz, hl, ha⟩ | h0
        · refine .inr ⟨r, arr, ty, fr, by rw [hself]; exact hr, hh, hsz, by simp; omega, ?_, fun h => by cases h⟩
          intro i x hx
          rw [List.getElem?_map, Option.map_eq_some_iff] at hx
          obtain ⟨y, hy, rfl⟩ := hx
          exact ha i y hy
        · have hnil : contV B.w0 v = [] := List.length_eq_zero_iff.1 (by omega)
          exact .inl ⟨by rw [hnil]; rfl, .inl rfl⟩
      · rename_i ht
        obtain ⟨cs, h1, h2⟩ := hR.holds t b hb
        refine ⟨cs, cons_agree hag (Know.nom_at hK hb) h1, ?_⟩
        rw [hoth t ht]; exact h2
    · intro i j b c r s hi hj ho hne hri hsj
      rw [hat] at hi hj
      split at hi
      · simp only [Option.some.injEq] at hi; subst hi; cases ho
      · rename_i hin
        rw [hoth i hin] at hri
        split at hj
        · rename_i hjn
          subst hjn
          rw [hself] at hsj
          obtain ⟨g1, g2⟩ := hrr s hsj
          rcases hR.mine i b r hi ho hri with h | h
          · omega
          · intro e; rw [e] at h; exact g2 h
        · rename_i hjn
          rw [hoth j hjn] at hsj
          exact hR.apart i j b c r s hi hj ho hne hri hsj
    · intro i b r hi ho hri
      rw [hat] at hi
      split at hi
      · simp only [Option.some.injEq] at hi; subst hi; cases ho
      · rename_i hin
        rw [hoth i hin] at hri
        exact hR.mine i b r hi ho hri
    · intro i b r hi hri
      rw [hat] at hi
      split at hi
      · rename_i hin
        subst hin
        rw [hself] at hri
        exact Nat.lt_of_lt_of_le (hrr r hri).1 hR.size
      · rename_i hin
        rw [hoth i hin] at hri
        exact hR.live i b r hi hri
  by_cases hc : 0 < capV v
  · obtain ⟨b, off, rfl, h1, h2, h6⟩ := hb hc
    by_cases hl0 : 0 < lenV v
    · obtain ⟨arr, ty, fr, h3, h4, h5⟩ := h6 hl0
      refine ⟨_, Env.agree_upd β n (some ⟨b, off, arr.size⟩), ⟨some ⟨b, off, none⟩, by rw [← hvb], hlc, fun _ => ⟨⟨b, off, arr.size⟩, ?_, rfl⟩⟩, gen (some ⟨b, off, arr.size⟩) (fun r hr => by cases hr; exact ⟨h1, h2⟩) (.inl ⟨_, arr, ty, fr, rfl, ?_, rfl, h4, h5⟩)⟩
      · show (β.upd n _) n = _
        unfold Env.upd; rw [if_pos rfl]
      · show w.heap[b]? = _
        rw [hR.old b h1 h2]; exact h3
    · refine ⟨_, Env.agree_upd β n (some ⟨b, off, 0⟩), ⟨some ⟨b, off, none⟩, by rw [← hvb], hlc, fun _ => ⟨⟨b, off, 0⟩, ?_, rfl⟩⟩, gen (some ⟨b, off, 0⟩) (fun r hr => by cases hr; exact ⟨h1, h2⟩) (.inr (by omega))⟩
      show (β.upd n _) n = _
      unfold Env.upd; rw [if_pos rfl]
  · exact ⟨_, Env.agree_upd β n none, ⟨base, by rw [← hvb], hlc, fun h => absurd h hc⟩, gen none (fun r hr => by cases hr) (.inr (by omega))⟩
end Go.Proofs.Ytlmdhjojinkdbaa.X

/- Slices of bytes in a list, one behind the other: what they show together; contracts of functions that read such a list. -/
namespace Go.Proofs.Ytlmdhjojinkdbaa.X
open Go Go.Proofs
set_option linter.unusedVariables false

/-- parts that lie in a world, one behind the other -/
def catV (w : World) (L : List Value) : Nat → List Int
  | 0 => []
  | k + 1 => catV w L k ++ contV w (L.getD k undef)

structure PartsR (w : World) (rw : List Nat) (L : List Value) (n : Nat) : Prop where
  imp : ∀ i, i < n → ∀ (k : Nat) (β : Env), ImpOk ⟨w, rw, k, β⟩ (L.getD i undef) .u8 (lenV (L.getD i undef)) (capV (L.getD i undef)) (contV w (L.getD i undef))
  small : (catV w L n).length < 70368744177664
abbrev PartsOk (w : World) (L : List Value) (n : Nat) : Prop := PartsR w [] L n

theorem PartsR.len {w : World} {rw : List Nat} {L : List Value} {n : Nat} (h : PartsR w rw L n) {i : Nat} (hi : i < n) : (contV w (L.getD i undef)).length = lenV (L.getD i undef) := by
  obtain ⟨_, _, _, h3, _⟩ := h.imp i hi 0 noEnv
  exact h3

theorem catV_mono (w : World) (L : List Value) {i : Nat} : ∀ {n : Nat}, i ≤ n → (catV w L i).length ≤ (catV w L n).length
  | 0, h => by have : i = 0 := by omega
               subst this; exact Nat.le_refl _
  | n + 1, h => by
    rcases Nat.lt_or_ge n i with h1 | h1
    · have : i = n + 1 := by omega
      subst this; exact Nat.le_refl _
    · refine Nat.le_trans (catV_mono w L h1) ?_
      show _ ≤ (catV w L n ++ _).length
      rw [List.length_append]; omega

theorem PartsR.lt {w : World} {rw : List Nat} {L : List Value} {n : Nat} (h : PartsR w rw L n) {i : Nat} (hi : i ≤ n) : (catV w L i).length < 70368744177664 := Nat.lt_of_le_of_lt (catV_mono w L hi) h.small
theorem PartsR.llt {w : World} {rw : List Nat} {L : List Value} {n : Nat} (h : PartsR w rw L n) {i : Nat} (hi : i < n) : lenV (L.getD i undef) < 70368744177664 := by
  have h1 := h.lt (i := i + 1) hi
  have h2 : (catV w L i ++ contV w (L.getD i undef)).length < 70368744177664 := h1
  rw [List.length_append, h.len hi] at h2; omega

theorem getD_left {L M : List Value} {i : Nat} (h : i < L.length) : (L ++ M).getD i undef = L.getD i undef := by
  rw [List.getD_eq_getElem?_getD, List.getD_eq_getElem?_getD, List.getElem?_append_left h]
theorem getD_right {L M : List Value} {i : Nat} : (L ++ M).getD (L.length + i) undef = M.getD i undef := by
  rw [List.getD_eq_getElem?_getD, List.getD_eq_getElem?_getD, List.getElem?_append_right (by omega)]
  congr 2; omega
theorem catV_left (w : World) (L M : List Value) : ∀ k, k ≤ L.length → catV w (L ++ M) k = catV w L k
  | 0, _ => rfl
  | k + 1, h => by
    show catV w (L ++ M) k ++ _ = catV w L k ++ _
    rw [catV_left w L M k (by omega), getD_left (by omega)]
theorem catV_two (w : World) (L M : List Value) : ∀ k, catV w (L ++ M) (L.length + k) = catV w L L.length ++ catV w M k
  | 0 => by rw [Nat.add_zero, catV_left _ _ _ _ (Nat.le_refl _)]; exact (List.append_nil _).symm
  | k + 1 => by
    show catV w (L ++ M) (L.length + k) ++ contV w ((L ++ M).getD (L.length + k) undef) = _ ++ (catV w M k ++ _)
    rw [catV_two w L M k, getD_right, List.append_assoc]

theorem contV_move {w0 w : World} {rw : List Nat} (h : ∀ b, b < w0.heap.size → b ∉ rw → w.heap[b]? = w0.heap[b]?) {v : Value} {k : Nat} {β : Env} (hi : ImpOk ⟨w0, rw, k, β⟩ v .u8 (lenV v) (capV v) (contV w0 v)) : contV w v = contV w0 v := by
  obtain ⟨base, hv, hlc, hL, hb⟩ := hi
  by_cases hc : 0 < capV v
  · obtain ⟨b, off, rfl, h1, h2, _⟩ := hb hc
    rw [hv]
    unfold contV
    simp only
    rw [h b h1 h2]
  · have h0 : lenV v = 0 := by omega
    rw [hv]
    unfold contV
    rw [h0]
    cases base with
    | none => rfl
    | some a =>
      simp only [List.range_zero, List.map_nil]
      split <;> split <;> rfl

theorem PartsR.move {w0 w : World} {rw : List Nat} (h : ∀ b, b < w0.heap.size → b ∉ rw → w.heap[b]? = w0.heap[b]?) (hs : w0.heap.size ≤ w.heap.size) {L : List Value} {n : Nat} (hp : PartsR w0 rw L n) : PartsOk w L n ∧ catV w L n = catV w0 L n := by
  have hc : ∀ k, k ≤ n → catV w L k = catV w0 L k := by
    intro k
    induction k with
    | zero => intro _; rfl
    | succ k ih =>
      intro hk
      show catV w L k ++ _ = catV w0 L k ++ _
      rw [ih (by omega), contV_move h (hp.imp k (by omega) 0 noEnv)]
  refine ⟨⟨fun i hi k β => ?_, by rw [hc n (Nat.le_refl _)]; exact hp.small⟩, hc n (Nat.le_refl _)⟩
  rw [contV_move h (hp.imp i hi 0 noEnv)]
  obtain ⟨base, hv, hlc, hL, hb⟩ := hp.imp i hi 0 noEnv
  refine ⟨base, hv, hlc, hL, fun h0 => ?_⟩
  obtain ⟨b, off, g1, g2, g3, g4⟩ := hb h0
  have g2 : b < w0.heap.size := g2
  refine ⟨b, off, g1, Nat.lt_of_lt_of_le g2 hs, by simp, fun hl => ?_⟩
  obtain ⟨arr, ty, fr, k1, k2⟩ := g4 hl
  exact ⟨arr, ty, fr, (h b g2 g3).trans k1, k2⟩

/-- one cell of a list of parts: how many, on what condition, which bytes -/
def partC (K : Know) (w0 : World) (rw : List Nat) (a : Atom) : Option (Nat × Prop × List Int) :=
  match a with
  | .sl j c n _ => (match K.at j with
    | some b => (match segR b.cells c n with
      | some (p, [.ints .u8 _ l]) => some (1, p, l)
      | _ => none)
    | none => none)
  | .rs j c n _ => (match K.at j with
    | some b => (match segR b.cells c n with
      | some (p, [.ints .u8 _ l]) => some (1, p, l)
      | _ => none)
    | none => none)
  | .raw (.slice none 0 0) => some (1, True, [])
  | .vals n L => some (n, PartsR w0 rw L n, catV w0 L n)
  | _ => none

def partsC (K : Know) (w0 : World) (rw : List Nat) : List Atom → Option (Nat × Prop × List Int)
  | [] => some (0, True, [])
  | a :: r => (match partC K w0 rw a with
    | some (n, p, D) => (match partsC K w0 rw r with
      | some (m, q, E) => some (n + m, p ∧ q, D ++ E)
      | none => none)
    | none => none)

theorem partC_mono {K K' : Know} {w0 : World} {rw : List Nat} (hk : Knows K K') {a : Atom} {r : Nat × Prop × List Int} (h : partC K w0 rw a = some r) : partC K' w0 rw a = some r := by
  unfold partC at *
  split at h
  · split at h
    · rename_i b hb; rw [hk _ _ hb]; exact h
    · simp at h
  · split at h
    · rename_i b hb; rw [hk _ _ hb]; exact h
    · simp at h
  · exact h
  · exact h
  · simp at h
theorem partsC_mono {K K' : Know} {w0 : World} {rw : List Nat} (hk : Knows K K') : ∀ {l : List Atom} {r : Nat × Prop × List Int}, partsC K w0 rw l = some r → partsC K' w0 rw l = some r
  | [], _, h => h
  | a :: l, r, h => by
    simp only [partsC] at h ⊢
    split at h
    · rename_i n p D h1
      rw [partC_mono hk h1]
      simp only
      split at h
      · rename_i m q E h2
        rw [partsC_mono hk h2]
        exact h
      · simp at h
    · simp at h

section sound
variable {w0 w : World} {rw : List Nat} {β : Env} {K : Know}

theorem sl_part (hR : RelW w0 rw β K w) {j c n m cap : Nat} {b : Blk} {p : Prop} {l : List Int} (hb : K.at j = some b) (hs : segR b.cells c n = some (p, [.ints .u8 m l])) (hp : p) {base : Option Addr} (hnc : n ≤ cap)
    (hbase : 0 < cap → ∃ r, β j = some r ∧ base = some ⟨r.blk, r.off + c, none⟩) : (∀ k β', ImpOk ⟨w, [], k, β'⟩ (.slice base n cap) .u8 n cap l) ∧ contV w (.slice base n cap) = l := by
  obtain ⟨cs, hc, hd⟩ := hR.holds j b hb
  obtain ⟨h1, h2⟩ := segR_con hs hp hc
  rw [cons_single] at h1
  obtain ⟨hl, hsub⟩ := h1
  have hln : l.length = n := by
    have e := congrArg List.length hsub
    rw [List.length_map] at e
    by_cases h0 : n = 0
    · subst h0; rw [← e]; simp [sub]
    · rw [← e, sub_len _ _ _ (h2 (by omega))]
  by_cases h0 : n = 0
  · subst h0
    have : l = [] := List.length_eq_zero_iff.1 hln
    subst this
    refine ⟨fun k β' => ⟨base, rfl, hnc, rfl, fun hc0 => ?_⟩, ?_⟩
    · obtain ⟨r, hr, rfl⟩ := hbase hc0
      exact ⟨r.blk, r.off + c, rfl, hR.live j b r hb hr, by simp, fun h => absurd h (by omega)⟩
    · cases base with
      | none => rfl
      | some a => simp only [contV, List.range_zero, List.map_nil]; split <;> rfl
  · have h2 := h2 (by omega)
    obtain ⟨r, hr, rfl⟩ := hbase (by omega)
    rcases hd with ⟨rfl, _⟩ | ⟨r', arr, ty, fr, hr', hh, hsz, hlen, ha, _⟩
    · simp at h2; omega
    · rw [hr] at hr'; cases hr'
      have hget : ∀ i x, l[i]? = some x → arr[r.off + c + i]? = some (.int .u8 x) := by
        intro i x hx
        have h3 : (sub cs c n)[i]? = some (.int .u8 x) := by rw [hsub, List.getElem?_map, hx]; rfl
        have h4 := ha _ _ (getElem?_sub _ _ _ _ _ h3)
        rw [Nat.add_assoc]; exact h4
      refine ⟨fun k β' => ⟨_, rfl, hnc, hln, fun _ => ⟨r.blk, r.off + c, rfl, hR.live j b r hb hr, by simp, fun _ => ⟨arr, ty, fr, hh, by omega, hget⟩⟩⟩, ?_⟩
      unfold contV
      simp only [hh]
      refine List.ext_getElem? fun i => ?_
      by_cases hi : i < n
      · rw [List.getElem?_map, List.getElem?_range hi]
        have hx := hget i l[i] (List.getElem?_eq_getElem (by omega))
        simp only [Option.map_some, Array.getD_eq_getD_getElem?, hx, Option.getD_some, intV]
        rw [List.getElem?_eq_getElem (by omega)]
      · rw [List.getElem?_eq_none (by simp; omega), List.getElem?_eq_none (by omega)]

theorem partC_ok (hR : RelW w0 rw β K w) {a : Atom} {m : Nat} {p : Prop} {D : List Int} {cs : List Value} (h : partC K w0 rw a = some (m, p, D)) (hp : p) (hc : a.con β cs) :
    cs.length = m ∧ (∀ i, i < m → ∀ k β', ImpOk ⟨w, [], k, β'⟩ (cs.getD i undef) .u8 (lenV (cs.getD i undef)) (capV (cs.getD i undef)) (contV w (cs.getD i undef))) ∧ catV w cs m = D := by
  have one : ∀ {base : Option Addr} {n cap : Nat} {l : List Int}, ((∀ k β', ImpOk ⟨w, [], k, β'⟩ (.slice base n cap) .u8 n cap l) ∧ contV w (.slice base n cap) = l) →
      ([Value.slice base n cap].length = 1 ∧ (∀ i, i < 1 → ∀ k β', ImpOk ⟨w, [], k, β'⟩ ([Value.slice base n cap].getD i undef) .u8 (lenV ([Value.slice base n cap].getD i undef)) (capV ([Value.slice base n cap].getD i undef)) (contV w ([Value.slice base n cap].getD i undef))) ∧ catV w [Value.slice base n cap] 1 = l) := by
    intro base n cap l h
    refine ⟨rfl, fun i hi k β' => ?_, ?_⟩
    · have : i = 0 := by omega
      subst this
      show ImpOk ⟨w, [], k, β'⟩ (.slice base n cap) .u8 n cap (contV w (.slice base n cap))
      rw [h.2]; exact h.1 k β'
    · show [] ++ contV w (.slice base n cap) = l
      rw [h.2]; rfl
  unfold partC at h
  split at h
  · split at h
    · rename_i j c n cap b hb
      split at h
      · rename_i p' m' l hs
        simp only [Option.some.injEq, Prod.mk.injEq] at h; obtain ⟨rfl, rfl, rfl⟩ := h
        obtain ⟨base, rfl, hnc, hbase⟩ := hc
        exact one (sl_part hR hb hs hp hnc hbase)
      · simp at h
    · simp at h
  · split at h
    · rename_i j c n z b hb
      split at h
      · rename_i p' m' l hs
        simp only [Option.some.injEq, Prod.mk.injEq] at h; obtain ⟨rfl, rfl, rfl⟩ := h
        obtain ⟨base, cap, rfl, hnc, hbase⟩ := hc
        exact one (sl_part hR hb hs hp hnc fun h0 => by obtain ⟨r, h1, h2, _⟩ := hbase h0; exact ⟨r, h1, h2⟩)
      · simp at h
    · simp at h
  · simp only [Option.some.injEq, Prod.mk.injEq] at h; obtain ⟨rfl, rfl, rfl⟩ := h
    obtain ⟨rfl, _⟩ := hc
    exact one ⟨fun k β' => ⟨none, rfl, Nat.le_refl _, rfl, fun h => absurd h (by omega)⟩, rfl⟩
  · rename_i n L
    simp only [Option.some.injEq, Prod.mk.injEq] at h; obtain ⟨rfl, rfl, rfl⟩ := h
    obtain ⟨h1, rfl, _⟩ := hc
    obtain ⟨h3, h4⟩ := PartsR.move hR.old hR.size hp
    exact ⟨h1, h3.imp, h4⟩
  · simp at h

theorem partsC_ok (hR : RelW w0 rw β K w) : ∀ {l : List Atom} {m : Nat} {p : Prop} {D : List Int} {cs : List Value}, partsC K w0 rw l = some (m, p, D) → p → cons β l cs →
    cs.length = m ∧ (∀ i, i < m → ∀ k β', ImpOk ⟨w, [], k, β'⟩ (cs.getD i undef) .u8 (lenV (cs.getD i undef)) (capV (cs.getD i undef)) (contV w (cs.getD i undef))) ∧ catV w cs m = D
  | [], m, p, D, cs, h, hp, hc => by
    simp only [partsC, Option.some.injEq, Prod.mk.injEq] at h; obtain ⟨rfl, rfl, rfl⟩ := h
    have hc : cs = [] := hc
    subst hc
    exact ⟨rfl, fun i hi => absurd hi (by omega), rfl⟩
  | a :: l, m, p, D, cs, h, hp, hc => by
    simp only [partsC] at h
    split at h
    · rename_i n p1 D1 h1
      split at h
      · rename_i m2 q E h2
        simp only [Option.some.injEq, Prod.mk.injEq] at h; obtain ⟨rfl, rfl, rfl⟩ := h
        obtain ⟨x, y, rfl, ha, hr⟩ := hc
        obtain ⟨g1, g2, g3⟩ := partC_ok hR h1 hp.1 ha
        obtain ⟨k1, k2, k3⟩ := partsC_ok hR h2 hp.2 hr
        subst g1
        refine ⟨by rw [List.length_append, k1], fun i hi k β' => ?_, by rw [catV_two, g3, k3]⟩
        by_cases hx : i < x.length
        · rw [getD_left hx]; exact g2 i hx k β'
        · obtain ⟨t, rfl⟩ : ∃ t, i = x.length + t := ⟨i - x.length, by omega⟩
          rw [getD_right]; exact k2 t (by omega) k β'
      · simp at h
    · simp at h
end sound

def unsnoc : List AV → Option (List AV × AV)
  | [] => none
  | a :: r => (match unsnoc r with
    | some (l, x) => some (a :: l, x)
    | none => some ([], a))
theorem unsnoc_nil : ∀ {l : List AV}, unsnoc l = none → l = []
  | [], _ => rfl
  | a :: r, h => by simp only [unsnoc] at h; split at h <;> simp at h
theorem unsnoc_ok : ∀ {args l : List AV} {x : AV}, unsnoc args = some (l, x) → args = l ++ [x]
  | [], _, _, h => by simp [unsnoc] at h
  | a :: r, l, x, h => by
    simp only [unsnoc] at h
    split at h
    · rename_i l' x' h1
      simp only [Option.some.injEq, Prod.mk.injEq] at h; obtain ⟨rfl, rfl⟩ := h
      rw [unsnoc_ok h1]; rfl
    · rename_i h1
      simp only [Option.some.injEq, Prod.mk.injEq] at h; obtain ⟨rfl, rfl⟩ := h
      rw [unsnoc_nil h1]; rfl
theorem allC_snoc {β : Env} {x : AV} : ∀ {l : List AV} {xs : List Value}, allC β (l ++ [x]) xs → ∃ xl v, xs = xl ++ [v] ∧ allC β l xl ∧ x.con β v
  | [], xs, h => by
    obtain ⟨v, rest, rfl, hv, hr⟩ := h
    have hr : rest = [] := hr
    subst hr
    exact ⟨[], v, rfl, rfl, hv⟩
  | a :: l, xs, h => by
    obtain ⟨v, rest, rfl, hv, hr⟩ := h
    obtain ⟨xl, u, rfl, h1, h2⟩ := allC_snoc hr
    exact ⟨v :: xl, u, rfl, ⟨v, xl, rfl, hv, h1⟩, h2⟩
theorem allC_put {β : Env} {x : AV} {v : Value} : ∀ {l : List AV} {xl : List Value}, allC β l xl → x.con β v → allC β (l ++ [x]) (xl ++ [v])
  | [], xl, h, hv => by
    have h : xl = [] := h
    subst h
    exact ⟨v, [], rfl, hv, rfl⟩
  | a :: l, xl, h, hv => by
    obtain ⟨u, rest, rfl, h1, h2⟩ := h
    exact ⟨u, rest ++ [v], rfl, h1, allC_put h2 hv⟩

def slC : AV → Option (Nat × Nat)
  | .o (.a (.sl j 0 m _)) => some (j, m)
  | .o (.a (.rs j 0 m _)) => some (j, m)
  | _ => none
theorem slC_ok {x : AV} {j m : Nat} (h : slC x = some (j, m)) {β : Env} {v : Value} (hv : x.con β v) : ∃ base cap, v = .slice base m cap ∧ m ≤ cap ∧ (0 < cap → ∃ r, β j = some r ∧ base = some ⟨r.blk, r.off + 0, none⟩) := by
  unfold slC at h
  split at h
  · simp only [Option.some.injEq, Prod.mk.injEq] at h; obtain ⟨rfl, rfl⟩ := h
    obtain ⟨base, hv, h1, h2⟩ := hv
    simp only [List.cons.injEq, and_true] at hv
    exact ⟨base, _, hv, h1, h2⟩
  · simp only [Option.some.injEq, Prod.mk.injEq] at h; obtain ⟨rfl, rfl⟩ := h
    obtain ⟨base, cap, hv, h1, h2⟩ := hv
    simp only [List.cons.injEq, and_true] at hv
    exact ⟨base, cap, hv, h1, fun h0 => by obtain ⟨r, g1, g2, _⟩ := h2 h0; exact ⟨r, g1, g2⟩⟩
  · simp at h

/-- a function that reads views and, last, a list of parts; what it answers speaks of the parts' bytes together -/
def gpartsE (ss : List AS) (w0 : World) (rw : List Nat) (entry : List Vw → List AV → Nat → List Int → Option (Prop × V1)) (K : Know) (args : List AV) : Option Rx :=
  match unsnoc args with
  | some (l, x) => (match slC x with
    | some (j, m) => (match K.at j with
      | some b => (match partsC K w0 rw b.cells with
        | some (m', q, D) => (match mkV K ss l 0 [] with
          | some (ps, vs, _) => (match entry vs l m D with
            | some (p, y) => some ⟨some (m' = m ∧ q ∧ D.length < 70368744177664 ∧ conjP ps ∧ p), .o y, [], 0⟩
            | none => none)
          | none => none)
        | none => none)
      | none => none)
    | none => none)
  | none => none
def gparts (f : FuncId) (ss : List AS) (w0 : World) (rw : List Nat) (entry : List Vw → List AV → Nat → List Int → Option (Prop × V1)) (rest : Gam) : Gam := fun g K n args =>
  if f = g then gpartsE ss w0 rw entry K args else rest g K n args

theorem gparts_ok {P : Program} {T : Tab} (hT : TabOk P T) {f : FuncId} {fn : Func} (hf : P.funcs[f]? = some fn) (he : ∀ (xas : Array Value) (w : World), (callFunc f xas).run P w = .ok (.enter f xas) w) {ss : List AS} {entry : List Vw → List AV → Nat → List Int → Option (Prop × V1)} {rest : Gam} {w0 : World} {rw : List Nat} (hr : GamAt P rest w0 rw)
    (h : ∀ vs args m D p y, entry vs args m D = some (p, y) → p → y.flat = true ∧ ∀ (caps : List Nat) (cap : Nat) (L : List Value) (w : World) (β : Env), L.length = m → PartsOk w L m → catV w L m = D →
      Body P T fn ⟨w, [], vs.length + 1, β⟩ (calleeArgs ss args 0 caps ++ [.o (.a (.sl vs.length 0 m cap))]) (knowV vs ++ [some ⟨false, [.vals m L]⟩]) fun ys _ => ys = [y])
    (hlt : f < impId := by decide) : GamAt P (gparts f ss w0 rw entry rest) w0 rw := by
  refine ⟨?_, ?_, ?_, ?_, ?_, ?_⟩
  · intro t' n nm s ht' hs
    have hne : ¬ (f = mthId + t') := fun e => by
      have h1 : mthId ≤ mthId + t' := Nat.le_add_right _ _
      rw [← e] at h1
      exact Nat.lt_irrefl _ (Nat.lt_of_lt_of_le hlt (Nat.le_trans (by decide : impId ≤ mthId) h1))
    unfold gparts at hs
    rw [if_neg hne] at hs
    exact hr.meth _ _ _ _ ht' hs
  · intro g K n args s hg hs
    unfold gparts at hs
    split at hs
    · rename_i e; subst e; exact he
    · exact hr.enter _ _ _ _ _ hg hs
  · intro g K n args s hg hs hvc β w xs hx hR hn hK
    unfold gparts at hs
    split at hs
    · rename_i e; subst e
      unfold gpartsE at hs
      split at hs
      · rename_i l x hun
        split at hs
        · rename_i j m hsl
          split at hs
          · rename_i b hb
            split at hs
            · rename_i m' q D hpc
              split at hs
              · rename_i ps vs as0 hmk
                split at hs
                · rename_i p y hen
                  simp only [Option.some.injEq] at hs; subst hs
                  obtain ⟨rfl, hq, hD, hps, hp⟩ := hvc
                  rw [unsnoc_ok hun] at hx
                  obtain ⟨xl, v, rfl, hxl, hxv⟩ := allC_snoc hx
                  obtain ⟨base, cap, rfl, hmc, hbase⟩ := slC_ok hsl hxv
                  obtain ⟨h1, caps, xas, h2, h3⟩ := mkV_ok ss l [] [] ps vs as0 xl hmk hps hxl
                  have hvw := views_rel hR h1
                  have hb0 := hR.holds j b hb
                  obtain ⟨L, hL, hd⟩ := hb0
                  obtain ⟨g1, g2, g3⟩ := partsC_ok hR hpc hq hL
                  have hparts : PartsOk w L m' := ⟨g2, by rw [g3]; exact hD⟩
                  have hone := cons_one hL
                  have hel : envV β (vs ++ [⟨j, 0, 0, []⟩]) vs.length = β j := by
                    have := envV_mid β vs ⟨j, 0, 0, []⟩ []
                    rw [this]
                    show shiftR 0 (β j) = β j
                    cases β j with
                    | none => rfl
                    | some r => rfl
                  have hlow : ∀ i, i < vs.length → envV β (vs ++ [⟨j, 0, 0, []⟩]) i = envV β vs i := by
                    intro i hi
                    unfold envV
                    rw [List.getElem?_append_left hi]
                  have hkl : (knowV vs).length = vs.length := by simp [knowV]
                  have hrel : RelW w [] (envV β (vs ++ [⟨j, 0, 0, []⟩])) (knowV vs ++ [some ⟨false, [.vals m' L]⟩]) w := by
                    refine RelW.ofRead fun i bk hi => ?_
                    by_cases hiv : i < vs.length
                    · rw [know_append_left (by omega)] at hi
                      have hfl : bk.own = false ∧ bk.cells.all Atom.flat = true := by
                        unfold knowV Know.at at hi
                        rw [List.getElem?_map] at hi
                        cases hv : vs[i]? with
                        | none => rw [hv] at hi; simp at hi
                        | some v => rw [hv] at hi; simp at hi; subst hi; exact ⟨rfl, (h1 v (List.mem_of_getElem? hv)).1⟩
                      refine ⟨hfl.1, ?_, ?_⟩
                      · obtain ⟨cs, hc1, hc2⟩ := hvw.holds i bk hi
                        refine ⟨cs, cons_flat hfl.2 hc1, ?_⟩
                        rw [hlow i hiv]; exact hc2
                      · intro r hr'
                        rw [hlow i hiv] at hr'
                        exact hvw.live i bk r hi hr'
                    · rw [know_append_right (by omega)] at hi
                      have hi0 : i = vs.length ∧ bk = ⟨false, [.vals m' L]⟩ := by
                        have : i - (knowV vs).length = 0 := by
                          rcases hq0 : i - (knowV vs).length with _ | t
                          · rfl
                          · rw [hq0] at hi; simp [Know.at] at hi
                        rw [this] at hi
                        exact ⟨by omega, (Option.some.inj hi).symm⟩
                      obtain ⟨rfl, rfl⟩ := hi0
                      refine ⟨rfl, ⟨L, ⟨L, [], by simp, ⟨g1, rfl, hone⟩, rfl⟩, ?_⟩, ?_⟩
                      · rw [hel]
                        rcases hd with ⟨k1, _⟩ | ⟨r, arr, ty, fr, k1, k2, k3, k4, k5, _⟩
                        · exact .inl ⟨k1, .inl rfl⟩
                        · exact .inr ⟨r, arr, ty, fr, k1, k2, k3, k4, k5, fun h => by cases h⟩
                      · intro r hr'
                        rw [hel] at hr'
                        exact hR.live j b r hb hr'
                  have hall : allC (envV β (vs ++ [⟨j, 0, 0, []⟩])) (calleeArgs ss l 0 caps ++ [.o (.a (.sl vs.length 0 m' cap))]) (xl ++ [.slice base m' cap]) := by
                    refine allC_put ?_ ⟨base, rfl, hmc, fun hc0 => ?_⟩
                    · have := h3 [⟨j, 0, 0, []⟩]
                      rw [mkV_args h2] at this
                      simpa using this
                    · obtain ⟨r, k1, k2⟩ := hbase hc0
                      exact ⟨r, by rw [hel]; exact k1, k2⟩
                  obtain ⟨hfy, hbody⟩ := h vs l m' D p y hen hp
                  have hbd := hbody caps cap L w (envV β (vs ++ [⟨j, 0, 0, []⟩])) g1 hparts g3
                  rw [show vs.length + 1 = (knowV vs ++ [some ⟨false, [.vals m' L]⟩] : Know).length by simp [knowV]] at hbd
                  refine Calls.mono (calls_of_body hT hf (rw := []) hall hrel hbd) fun e w' he => ?_
                  obtain ⟨ys, K', v, β', rfl, rfl, hv, hrel', _⟩ := he
                  exact ⟨v, β, rfl, agree_refl _ _ _, V1.flat_con hfy hv, hR.grow hrel'.toGrow⟩
                · simp at hs
              · simp at hs
            · simp at hs
          · simp at hs
        · simp at hs
      · simp at hs
    · exact hr.calls _ _ _ _ _ hg hs hvc β w xs hx hR hn hK
  · intro g K K' n args s hg hs hk
    unfold gparts at hs ⊢
    split at hs
    · rename_i e
      rw [if_pos e]
      unfold gpartsE at hs ⊢
      split at hs
      · rename_i hun
        split at hs
        · rename_i hsl
          split at hs
          · rename_i b hb
            simp only [hk _ _ hb]
            split at hs
            · rename_i hpc
              simp only [partsC_mono hk hpc]
              split at hs
              · rename_i hmk
                simp only [mkV_mono hk hmk]
                exact hs
              · simp at hs
            · simp at hs
          · simp at hs
        · simp at hs
      · simp at hs
    · rename_i e; rw [if_neg e]; exact hr.mono _ _ _ _ _ _ hg hs hk
  · intro g n args s hs
    have hne : ¬ (f = extId + g) := fun e => by
      have h1 : extId ≤ extId + g := Nat.le_add_right _ _
      rw [← e] at h1
      exact Nat.lt_irrefl _ (Nat.lt_of_lt_of_le hlt (Nat.le_trans (by decide : impId ≤ extId) h1))
    unfold gparts at hs
    rw [if_neg hne] at hs
    exact hr.ext _ _ _ _ hs
  · intro g n v s hg hg2 hs
    have hne : ¬ (f = g) := fun e => by
      have h1 := hlt
      rw [e] at h1
      exact Nat.lt_irrefl _ (Nat.lt_of_lt_of_le h1 hg)
    unfold gparts at hs
    rw [if_neg hne] at hs
    exact hr.imp _ _ _ _ hg hg2 hs
end Go.Proofs.Ytlmdhjojinkdbaa.X

/- Plain lemmas for the walk of the law of the chain. -/
namespace Go.Proofs.Ytlmdhjojinkdbaa.X
open Go Go.Proofs
set_option linter.unusedVariables false

theorem sub_left {α : Type} (x y : List α) (c m : Nat) (h : c + m ≤ x.length) : sub (x ++ y) c m = sub x c m := by
  unfold sub
  rw [List.drop_append_of_le_length (by omega), List.take_append_of_le_length (by simp; omega)]

theorem sub_of_drop {α : Type} (l : List α) (a c m : Nat) : sub (l.drop a) c m = sub l (a + c) m := by
  unfold sub; rw [List.drop_drop]

theorem absN_zero (C D S : List Int) : absN C D 0 S = S := rfl
theorem absN_succ (C D : List Int) (k : Nat) (S : List Int) : absN C D (k + 1) S = blk (absN C D k S) (sub D (128 * k) 128) C := rfl

theorem absN_add (C D : List Int) (k1 : Nat) : ∀ (k2 : Nat) (S : List Int), absN C D (k1 + k2) S = absN C (D.drop (128 * k1)) k2 (absN C D k1 S)
  | 0, S => by rw [Nat.add_zero, absN_zero]
  | k2 + 1, S => by
    rw [← Nat.add_assoc, absN_succ, absN_succ, absN_add C D k1 k2 S, sub_of_drop, show 128 * k1 + 128 * k2 = 128 * (k1 + k2) by omega]

theorem absN_left (C D E : List Int) (k : Nat) (S : List Int) (h : 128 * k ≤ D.length) : absN C (D ++ E) k S = absN C D k S :=
  iter_congr fun i s hi => by rw [sub_left _ _ _ _ (by omega)]

def digL (W : List Int) : List Int := [IntKind.u8.wrap (shr .u64 (List.getD W 0 0) 56), IntKind.u8.wrap (shr .u64 (List.getD W 0 0) 48), IntKind.u8.wrap (shr .u64 (List.getD W 0 0) 40), IntKind.u8.wrap (shr .u64 (List.getD W 0 0) 32), IntKind.u8.wrap (shr .u64 (List.getD W 0 0) 24), IntKind.u8.wrap (shr .u64 (List.getD W 0 0) 16), IntKind.u8.wrap (shr .u64 (List.getD W 0 0) 8), IntKind.u8.wrap (shr .u64 (List.getD W 0 0) 0), IntKind.u8.wrap (shr .u64 (List.getD W 1 0) 56), IntKind.u8.wrap (shr .u64 (List.getD W 1 0) 48), IntKind.u8.wrap (shr .u64 (List.getD W 1 0) 40), IntKind.u8.wrap (shr .u64 (List.getD W 1 0) 32), IntKind.u8.wrap (shr .u64 (List.getD W 1 0) 24), IntKind.u8.wrap (shr .u64 (List.getD W 1 0) 16), IntKind.u8.wrap (shr .u64 (List.getD W 1 0) 8), IntKind.u8.wrap (shr .u64 (List.getD W 1 0) 0), IntKind.u8.wrap (shr .u64 (List.getD W 2 0) 56), IntKind.u8.wrap (shr .u64 (List.getD W 2 0) 48), IntKind.u8.wrap (shr .u64 (List.getD W 2 0) 40), IntKind.u8.wrap (shr .u64 (List.getD W 2 0) 32), IntKind.u8.wrap (shr .u64 (List.getD W 2 0) 24), IntKind.u8.wrap (shr .u64 (List.getD W 2 0) 16), IntKind.u8.wrap (shr .u64 (List.getD W 2 0) 8), IntKind.u8.wrap (shr .u64 (List.getD W 2 0) 0), IntKind.u8.wrap (shr .u64 (List.getD W 3 0) 56), IntKind.u8.wrap (shr .u64 (List.getD W 3 0) 48), IntKind.u8.wrap (shr .u64 (List.getD W 3 0) 40), IntKind.u8.wrap (shr .u64 (List.getD W 3 0) 32), IntKind.u8.wrap (shr .u64 (List.getD W 3 0) 24), IntKind.u8.wrap (shr .u64 (List.getD W 3 0) 16), IntKind.u8.wrap (shr .u64 (List.getD W 3 0) 8), IntKind.u8.wrap (shr .u64 (List.getD W 3 0) 0), IntKind.u8.wrap (shr .u64 (List.getD W 4 0) 56), IntKind.u8.wrap (shr .u64 (List.getD W 4 0) 48), IntKind.u8.wrap (shr .u64 (List.getD W 4 0) 40), IntKind.u8.wrap (shr .u64 (List.getD W 4 0) 32), IntKind.u8.wrap (shr .u64 (List.getD W 4 0) 24), IntKind.u8.wrap (shr .u64 (List.getD W 4 0) 16), IntKind.u8.wrap (shr .u64 (List.getD W 4 0) 8), IntKind.u8.wrap (shr .u64 (List.getD W 4 0) 0), IntKind.u8.wrap (shr .u64 (List.getD W 5 0) 56), IntKind.u8.wrap (shr .u64 (List.getD W 5 0) 48), IntKind.u8.wrap (shr .u64 (List.getD W 5 0) 40), IntKind.u8.wrap (shr .u64 (List.getD W 5 0) 32), IntKind.u8.wrap (shr .u64 (List.getD W 5 0) 24), IntKind.u8.wrap (shr .u64 (List.getD W 5 0) 16), IntKind.u8.wrap (shr .u64 (List.getD W 5 0) 8), IntKind.u8.wrap (shr .u64 (List.getD W 5 0) 0), IntKind.u8.wrap (shr .u64 (List.getD W 6 0) 56), IntKind.u8.wrap (shr .u64 (List.getD W 6 0) 48), IntKind.u8.wrap (shr .u64 (List.getD W 6 0) 40), IntKind.u8.wrap (shr .u64 (List.getD W 6 0) 32), IntKind.u8.wrap (shr .u64 (List.getD W 6 0) 24), IntKind.u8.wrap (shr .u64 (List.getD W 6 0) 16), IntKind.u8.wrap (shr .u64 (List.getD W 6 0) 8), IntKind.u8.wrap (shr .u64 (List.getD W 6 0) 0), IntKind.u8.wrap (shr .u64 (List.getD W 7 0) 56), IntKind.u8.wrap (shr .u64 (List.getD W 7 0) 48), IntKind.u8.wrap (shr .u64 (List.getD W 7 0) 40), IntKind.u8.wrap (shr .u64 (List.getD W 7 0) 32), IntKind.u8.wrap (shr .u64 (List.getD W 7 0) 24), IntKind.u8.wrap (shr .u64 (List.getD W 7 0) 16), IntKind.u8.wrap (shr .u64 (List.getD W 7 0) 8), IntKind.u8.wrap (shr .u64 (List.getD W 7 0) 0)]

theorem hsum_dig (S : List Int) (tl : Nat) (N : Int) (L C : List Int) : hsum S tl N L C = digL (sumL_out0 tl N L C S) := by kernel_rfl
theorem digL_len (W : List Int) : (digL W).length = 64 := rfl
end Go.Proofs.Ytlmdhjojinkdbaa.X

/- What a digest of bytes is, as a function of the bytes; the document's is the program's. (drbg seat) -/
namespace Go.Proofs.Ytlmdhjojinkdbaa.X
open Go Go.Proofs
set_option linter.unusedVariables false

theorem wrN_eq {N : Int} {n : Nat} (h0 : 0 ≤ N) (h : N + ((n : Nat) : Int) < 2305843009213693952) : wrN N n = N + ((n : Nat) : Int) := by
  unfold wrN
  rw [wrapU (x := ((n : Nat) : Int)) (by omega) (by omega), wrapU (by omega) (by omega)]
def H0 : List Int := [7640891576956012808, 13503953896175478587, 4354685564936845355, 11912009170470909681, 5840696475078001361, 11170449401992604703, 2270897969802886507, 6620516959819538809]
def hS (D : List Int) : List Int := absN konst D (D.length / 128) H0
def hT (D : List Int) : Nat := D.length % 128
def hN (D : List Int) : Int := ((D.length : Nat) : Int)
def hL (D : List Int) : List Int := D.drop (128 * (D.length / 128))
/-- the digest -/
def shaD (D : List Int) : List Int := hsum (hS D) (hT D) (hN D) (hL D) konst

theorem hT_lt (D : List Int) : hT D < 128 := by unfold hT; omega
theorem hN_nn (D : List Int) : 0 ≤ hN D := by unfold hN; omega
theorem hN_mod (D : List Int) : Int.tmod (hN D) 128 = ((hT D : Nat) : Int) := by
  unfold hN hT
  rw [Int.tmod_eq_emod_of_nonneg (by omega)]; omega
theorem hS_step {D c : List Int} {n : Nat} (hc : c.length = n) : wrS konst (hS D) (hL D) (sub c 0 n) (hT D) n = hS (D ++ c) := by
  rw [sub_all c n (by omega)]
  unfold wrS hS
  have e1 : hL D ++ c = (D ++ c).drop (128 * (D.length / 128)) := by
    unfold hL; rw [List.drop_append_of_le_length (by omega)]
  have e2 : (D ++ c).length / 128 = D.length / 128 + (hT D + n) / 128 := by
    rw [List.length_append, hc]; unfold hT; omega
  rw [e1, e2, absN_add, absN_left _ _ _ _ _ (by omega)]

theorem hT_step {D c : List Int} {n : Nat} (hc : c.length = n) : wrT (hT D) n = hT (D ++ c) := by
  unfold wrT hT; rw [List.length_append, hc]; omega
theorem hN_step {D c : List Int} {n : Nat} (hc : c.length = n) (h : (D ++ c).length < 1152921504606846976) : wrN (hN D) n = hN (D ++ c) := by
  rw [List.length_append] at h
  unfold hN
  rw [wrN_eq (by omega) (by omega), List.length_append, hc]
  omega
theorem hL_step {D c : List Int} {n : Nat} (hc : c.length = n) : wrL (hL D) (sub c 0 n) (hT D) n = hL (D ++ c) := by
  rw [sub_all c n (by omega)]
  unfold wrL
  have e1 : hL D ++ c = (D ++ c).drop (128 * (D.length / 128)) := by
    unfold hL; rw [List.drop_append_of_le_length (by omega)]
  rw [e1, List.drop_drop]
  unfold hL
  congr 1
  rw [List.length_append, hc]; unfold hT; omega

/-- a part more -/
theorem PartsOk.step {w : World} {L : List Value} {n : Nat} (h : PartsOk w L n) {k : Nat} (hk : k < n) {c : List Int} (hc : c = contV w (L.getD k undef)) :
    wrS konst (hS (catV w L k)) (hL (catV w L k)) (sub c 0 (lenV (L.getD k undef))) (hT (catV w L k)) (lenV (L.getD k undef)) = hS (catV w L (k + 1)) ∧
      wrT (hT (catV w L k)) (lenV (L.getD k undef)) = hT (catV w L (k + 1)) ∧ wrN (hN (catV w L k)) (lenV (L.getD k undef)) = hN (catV w L (k + 1)) ∧
      wrL (hL (catV w L k)) (sub c 0 (lenV (L.getD k undef))) (hT (catV w L k)) (lenV (L.getD k undef)) = hL (catV w L (k + 1)) := by
  subst hc
  have h1 := h.len hk
  refine ⟨hS_step h1, hT_step h1, hN_step h1 ?_, hL_step h1⟩
  have := h.lt (i := k + 1) hk
  have h2 : (catV w L k ++ contV w (L.getD k undef)).length < 70368744177664 := this
  omega

/-- the sum of bytes -/
theorem join1_sha {n : Nat} {b : List Int} (hb : b.length = n) (h : n < 70368744177664) : join1 n b = shaD b := by
  have h0 : hS [] = H0 := rfl
  have e1 : wrS konst H0 [] (sub b 0 n) 0 n = hS b := by
    have := hS_step (D := []) hb
    exact this
  have e2 : wrT 0 n = hT b := hT_step (D := []) hb
  have e3 : wrN 0 n = hN b := hN_step (D := []) hb (by simp; omega)
  have e4 : wrL [] (sub b 0 n) 0 n = hL b := hL_step (D := []) hb
  show hsum _ _ _ _ konst = _
  unfold shaD
  rw [← e1, ← e2, ← e3, ← e4]; rfl
end Go.Proofs.Ytlmdhjojinkdbaa.X

/- Printed by a tool of this session. -/
namespace Go.Proofs.Ytlmdhjojinkdbaa.X
open Go Go.Proofs
set_option linter.unusedVariables false
set_option linter.unusedSimpArgs false
set_option maxRecDepth 100000
theorem teDB_22 : TEOk Try.prog 22 ⟨.slice 5, 1, 24, [.raw (.slice none 0 0)], false⟩ :=
  TEOk.of Try.underlying22 (i := Try.t22) (by kernel_rfl) rfl rfl rfl (by kernel_rfl) (fun h => by cases h) (by kernel_rfl)
theorem teDB_23 : TEOk Try.prog 23 ⟨.slice 22, 1, 24, [.raw (.slice none 0 0)], false⟩ :=
  TEOk.of Try.underlying23 (i := Try.t23) (by kernel_rfl) rfl rfl rfl (by kernel_rfl) (fun h => by cases h) (by kernel_rfl)
theorem teDB_32 : TEOk Try.prog 32 ⟨.array 64 5, 64, 64, [.ints .u8 (64 : Nat) ([0, 0, 0, 0, 0, 0, 0, 0, 0, 0, 0, 0, 0, 0, 0, 0, 0, 0, 0, 0, 0, 0, 0, 0, 0, 0, 0, 0, 0, 0, 0, 0, 0, 0, 0, 0, 0, 0, 0, 0, 0, 0, 0, 0, 0, 0, 0, 0, 0, 0, 0, 0, 0, 0, 0, 0, 0, 0, 0, 0, 0, 0, 0, 0] : List Int)], true⟩ :=
  TEOk.of Try.underlying32 (i := Try.t32) (by kernel_rfl) rfl rfl rfl (by kernel_rfl) (fun _ => Try.eqGuardType32) (by kernel_rfl)
noncomputable def tabDB : List (Nat × TE) := [(22, ⟨.slice 5, 1, 24, [.raw (.slice none 0 0)], false⟩), (23, ⟨.slice 22, 1, 24, [.raw (.slice none 0 0)], false⟩), (32, ⟨.array 64 5, 64, 64, [.ints .u8 (64 : Nat) ([0, 0, 0, 0, 0, 0, 0, 0, 0, 0, 0, 0, 0, 0, 0, 0, 0, 0, 0, 0, 0, 0, 0, 0, 0, 0, 0, 0, 0, 0, 0, 0, 0, 0, 0, 0, 0, 0, 0, 0, 0, 0, 0, 0, 0, 0, 0, 0, 0, 0, 0, 0, 0, 0, 0, 0, 0, 0, 0, 0, 0, 0, 0, 0] : List Int)], true⟩)]
theorem tabOkDB : TabOk Try.prog (tabOf tabDB) := (tabOf_cons teDB_22 (tabOf_cons teDB_23 (tabOf_cons teDB_32 tabOf_nil)))

def joL_mk (w : World) (n : Nat) (L : List Value) (cap0 k : Nat) (s : Unit) : St := ⟨sparse 19 [(0, .o (.a (.sl 0 0 n cap0))), (2, .o (.a (.p 1 0))), (3, .o (.a (.p 3 0))), (6, .o (.a (.p 3 0))), (7, .o (.a (.sl 0 0 n cap0))), (8, .o (.a (.i .i64 ((n : Nat) : Int)))), (9, .o (.a (.i .i64 ((k : Nat) : Int))))], [some ⟨false, [.vals n L]⟩, some ⟨true, [.ints .u8 (64 : Nat) ([0, 0, 0, 0, 0, 0, 0, 0, 0, 0, 0, 0, 0, 0, 0, 0, 0, 0, 0, 0, 0, 0, 0, 0, 0, 0, 0, 0, 0, 0, 0, 0, 0, 0, 0, 0, 0, 0, 0, 0, 0, 0, 0, 0, 0, 0, 0, 0, 0, 0, 0, 0, 0, 0, 0, 0, 0, 0, 0, 0, 0, 0, 0, 0] : List Int)]⟩, some ⟨true, [.ints .u64 (80 : Nat) (konst)]⟩, some ⟨true, [.ints .u64 (8 : Nat) (hS (catV w L k)), .rs 4 0 (hT (catV w L k)) 1, .i .u64 (hN (catV w L k)), .p 2 0]⟩, some ⟨true, [.ints .u8 (hT (catV w L k)) (hL (catV w L k))]⟩]⟩

def joL_step (k : Nat) (s : Unit) : Unit :=
  ()

set_option maxHeartbeats 1000000 in
theorem joL_round (w : World) (n : Nat) (L : List Value) (cap0 : Nat) (h0 : (n < (70368744177664 : Nat))) (β : Env) (hP : PartsOk w L n) (k : Nat) (hk : k < n) (s : Unit) : Run Try.prog ⟨w, [], 1, β⟩ (loopB Try.f39 0) (joL_mk w n L cap0 k s) (To ⟨w, [], 1, β⟩ .normal (joL_mk w n L cap0 (k + 1) (joL_step k s))) := by
  have e0 : (wrS (konst) (hS (catV w L k)) (hL (catV w L k)) (sub (contV w (List.getD L k undef)) (0 : Nat) (lenV (List.getD L k undef))) (hT (catV w L k)) (lenV (List.getD L k undef))) = (hS (catV w L (k + (1 : Nat)))) := (by first | exact wrap_succ (by omega) | exact (PartsOk.step hP hk rfl).1 | exact (PartsOk.step hP hk rfl).2.1 | exact (PartsOk.step hP hk rfl).2.2.1 | exact (PartsOk.step hP hk rfl).2.2.2)
  have e1 : (wrL (hL (catV w L k)) (sub (contV w (List.getD L k undef)) (0 : Nat) (lenV (List.getD L k undef))) (hT (catV w L k)) (lenV (List.getD L k undef))) = (hL (catV w L (k + (1 : Nat)))) := (by first | exact wrap_succ (by omega) | exact (PartsOk.step hP hk rfl).1 | exact (PartsOk.step hP hk rfl).2.1 | exact (PartsOk.step hP hk rfl).2.2.1 | exact (PartsOk.step hP hk rfl).2.2.2)
  have e2 : (wrT (hT (catV w L k)) (lenV (List.getD L k undef))) = (hT (catV w L (k + (1 : Nat)))) := (by first | exact wrap_succ (by omega) | exact (PartsOk.step hP hk rfl).1 | exact (PartsOk.step hP hk rfl).2.1 | exact (PartsOk.step hP hk rfl).2.2.1 | exact (PartsOk.step hP hk rfl).2.2.2)
  have e3 : (wrN (hN (catV w L k)) (lenV (List.getD L k undef))) = (hN (catV w L (k + (1 : Nat)))) := (by first | exact wrap_succ (by omega) | exact (PartsOk.step hP hk rfl).1 | exact (PartsOk.step hP hk rfl).2.1 | exact (PartsOk.step hP hk rfl).2.2.1 | exact (PartsOk.step hP hk rfl).2.2.2)
  have e4 : (IntKind.i64.wrap (((k : Nat) : Int) + (1 : Int))) = (((k + (1 : Nat)) : Nat) : Int) := (by first | exact wrap_succ (by omega) | exact (PartsOk.step hP hk rfl).1 | exact (PartsOk.step hP hk rfl).2.1 | exact (PartsOk.step hP hk rfl).2.2.1 | exact (PartsOk.step hP hk rfl).2.2.2)
  have h := Run.of_outTAt (B := ⟨w, [], 1, β⟩) (Λ := noLam) (Ψ := noPsi) (fuel := 0) (ora := [true]) (c := (loopB Try.f39 0)) (st := (joL_mk w n L cap0 k s)) (l := [.swap 4 6, .forget [0, 2, 3, 6, 7, 8, 9] 5]) (s' := ⟨sparse 19 [(0, .o (.a (.sl 0 0 n cap0))), (2, .o (.a (.p 1 0))), (3, .o (.a (.p 3 0))), (6, .o (.a (.p 3 0))), (7, .o (.a (.sl 0 0 n cap0))), (8, .o (.a (.i .i64 ((n : Nat) : Int)))), (9, .o (.a (.i .i64 (IntKind.i64.wrap (((k : Nat) : Int) + (1 : Int))))))], [some ⟨false, [.vals n L]⟩, some ⟨true, [.ints .u8 (64 : Nat) ([0, 0, 0, 0, 0, 0, 0, 0, 0, 0, 0, 0, 0, 0, 0, 0, 0, 0, 0, 0, 0, 0, 0, 0, 0, 0, 0, 0, 0, 0, 0, 0, 0, 0, 0, 0, 0, 0, 0, 0, 0, 0, 0, 0, 0, 0, 0, 0, 0, 0, 0, 0, 0, 0, 0, 0, 0, 0, 0, 0, 0, 0, 0, 0] : List Int)]⟩, some ⟨true, [.ints .u64 (80 : Nat) (konst)]⟩, some ⟨true, [.ints .u64 (8 : Nat) (wrS (konst) (hS (catV w L k)) (hL (catV w L k)) (sub (contV w (List.getD L k undef)) (0 : Nat) (lenV (List.getD L k undef))) (hT (catV w L k)) (lenV (List.getD L k undef))), .rs 4 0 (wrT (hT (catV w L k)) (lenV (List.getD L k undef))) 1, .i .u64 (wrN (hN (catV w L k)) (lenV (List.getD L k undef))), .p 2 0]⟩, some ⟨true, [.ints .u8 (wrT (hT (catV w L k)) (lenV (List.getD L k undef))) (wrL (hL (catV w L k)) (sub (contV w (List.getD L k undef)) (0 : Nat) (lenV (List.getD L k undef))) (hT (catV w L k)) (lenV (List.getD L k undef)))]⟩]⟩) (ex := .normal) mix tabOkDB (gimp_ok (t := 22) (mk := mkS ⟨w, [], 1, β⟩ .u8) (gam17_ok.at _ _) fun v m => mkS_ok v m)
    (vc := [((True ∧ ((((0 : Nat) + (lenV (List.getD L k undef))) ≤ (lenV (List.getD L k undef))) ∧ True)) ∧ (((hT (catV w L k)) = (hT (catV w L k))) ∧ ((lenV (List.getD L k undef)) = (lenV (List.getD L k undef))) ∧ ((hT (catV w L k)) < (128 : Nat)) ∧ ((lenV (List.getD L k undef)) < (140737488355328 : Nat)))), ((k < n) ∧ (ImpOk ⟨w, [], 1, β⟩ (List.getD L k undef) .u8 (lenV (List.getD L k undef)) (capV (List.getD L k undef)) (contV w (List.getD L k undef)))), (((0 : Int) ≤ ((k : Nat) : Int)) ∧ (((k : Nat) : Int) < ((n : Nat) : Int))), ((decide (((k : Nat) : Int) < ((n : Nat) : Int))) = true)]) (by kernel_rfl)
    (aC ⟨⟨trivial, ⟨(by have hh := hN_nn (catV w L n); have hm := hN_mod (catV w L n); have hq := hT_lt (catV w L k); have hl := hP.llt hk; first | omega | exact hm | (simp (disch := omega) only [wrapI]; omega)), trivial⟩⟩, ⟨rfl, rfl, (by have hh := hN_nn (catV w L n); have hm := hN_mod (catV w L n); have hq := hT_lt (catV w L k); have hl := hP.llt hk; first | omega | exact hm | (simp (disch := omega) only [wrapI]; omega)), (by have hh := hN_nn (catV w L n); have hm := hN_mod (catV w L n); have hq := hT_lt (catV w L k); have hl := hP.llt hk; first | omega | exact hm | (simp (disch := omega) only [wrapI]; omega))⟩⟩ (aC ⟨(by have hh := hN_nn (catV w L n); have hm := hN_mod (catV w L n); have hq := hT_lt (catV w L k); have hl := hP.llt hk; first | omega | exact hm | (simp (disch := omega) only [wrapI]; omega)), ((hP.imp k hk _ _))⟩ (aC ⟨(by have hh := hN_nn (catV w L n); have hm := hN_mod (catV w L n); have hq := hT_lt (catV w L k); have hl := hP.llt hk; first | omega | exact hm | (simp (disch := omega) only [wrapI]; omega)), (by have hh := hN_nn (catV w L n); have hm := hN_mod (catV w L n); have hq := hT_lt (catV w L k); have hl := hP.llt hk; first | omega | exact hm | (simp (disch := omega) only [wrapI]; omega))⟩ (aC (decide_eq_true (by have hh := hN_nn (catV w L n); have hm := hN_mod (catV w L n); have hq := hT_lt (catV w L k); have hl := hP.llt hk; first | omega | exact hm | (simp (disch := omega) only [wrapI]; omega))) (AllP_nil)))))
  rw [e0, e1, e2, e3, e4] at h
  exact h

set_option maxHeartbeats 1000000 in
theorem joL_last (w : World) (n : Nat) (L : List Value) (cap0 : Nat) (h0 : (n < (70368744177664 : Nat))) (β : Env) (hP : PartsOk w L n) (s : Unit) : Run Try.prog ⟨w, [], 1, β⟩ (loopB Try.f39 0) (joL_mk w n L cap0 n s) (To ⟨w, [], 1, β⟩ (.exit 0) (joL_mk w n L cap0 n s)) :=
  Run.of_outTAt (B := ⟨w, [], 1, β⟩) (Λ := noLam) (Ψ := noPsi) (fuel := 0) (ora := [false]) (l := [.forget [0, 2, 3, 6, 7, 8, 9] 5]) mix tabOkDB (gimp_ok (t := 22) (mk := mkS ⟨w, [], 1, β⟩ .u8) (gam17_ok.at _ _) fun v m => mkS_ok v m)
    (vc := [((decide (((n : Nat) : Int) < ((n : Nat) : Int))) = false)]) (by kernel_rfl)
    (aC (decide_eq_false (by omega)) (AllP_nil))

theorem joL_loop (w : World) (n : Nat) (L : List Value) (cap0 : Nat) (h0 : (n < (70368744177664 : Nat))) (β : Env) (hP : PartsOk w L n) (s : Unit) : Run Try.prog ⟨w, [], 1, β⟩ (.block 0 (.loop (loopB Try.f39 0))) (joL_mk w n L cap0 0 s) (To ⟨w, [], 1, β⟩ .normal (joL_mk w n L cap0 n (iter (joL_step) n s))) :=
  Run.count (fun k => joL_mk w n L cap0 k (iter (joL_step) k s)) n (fun k hk => joL_round w n L cap0 h0 β hP k hk _) (ex := (.exit 0)) (by simp) (joL_last w n L cap0 h0 β hP _)

def joinP (w : World) (n : Nat) (L : List Value) : List Int :=
  let z0 : List Int := (catV w L n)
  (hsum (hS z0) (hT z0) (hN z0) (hL z0) (konst))

set_option maxHeartbeats 1000000 in
theorem joinP_body0 (w : World) (n : Nat) (L : List Value) (cap0 : Nat) (h0 : (n < (70368744177664 : Nat))) (β : Env) (hP : PartsOk w L n) : Body Try.prog (tabOf tabDB) Try.f39 ⟨w, [], 1, β⟩ [.o (.a (.sl 0 0 n cap0))] [some ⟨false, [.vals n L]⟩] (fun ys _ => ys = [.g [.ints .u8 (64 : Nat) (joinP w n L)]]) :=
  Body.of_finAt (Γ := (gimp 22 (mkS ⟨w, [], 1, β⟩ .u8) gam17)) (Λ := lamOf [(0, ⟨[.forget [0, 2, 3, 6, 7, 8, 9] 5], .normal, (joL_mk w n L cap0 n (iter (joL_step) n ()))⟩)]) (Ψ := noPsi) (fuel := 0) (m := 19) (c := (Try.f39.body.getD .skip)) mix tabOkDB (gimp_ok (t := 22) (mk := mkS ⟨w, [], 1, β⟩ .u8) (gam17_ok.at _ _) fun v m => mkS_ok v m) rfl (rs := [.cell 2 32]) rfl rfl [] []
    (vc := [((True ∧ True) ∧ (((hT (catV w L n)) = (hT (catV w L n))) ∧ ((0 : Int) ≤ (hN (catV w L n))) ∧ ((Int.tmod (hN (catV w L n)) (128 : Int)) = (((hT (catV w L n)) : Nat) : Int)))), (Run Try.prog ⟨w, [], 1, β⟩ (.block 0 (.loop (loopB Try.f39 0))) (joL_mk w n L cap0 0 ()) (To ⟨w, [], 1, β⟩ .normal (joL_mk w n L cap0 n (iter (joL_step) n ())))), (True ∧ True)]) (by kernel_rfl)
    (aC ⟨⟨trivial, trivial⟩, ⟨rfl, (by have hh := hN_nn (catV w L n); have hm := hN_mod (catV w L n); have hq := hT_lt (catV w L n); first | omega | exact hm | (simp (disch := omega) only [wrapI]; omega)), (by have hh := hN_nn (catV w L n); have hm := hN_mod (catV w L n); have hq := hT_lt (catV w L n); first | omega | exact hm | (simp (disch := omega) only [wrapI]; omega))⟩⟩ (aC (joL_loop w n L cap0 h0 β hP ()) (aC ⟨trivial, trivial⟩ (AllP_nil))))

theorem joinP_body (w : World) (n : Nat) (L : List Value) (cap0 : Nat) (h0 : (n < (70368744177664 : Nat))) (β : Env) (hP : PartsOk w L n) : Body Try.prog (tabOf tabDB) Try.f39 ⟨w, [], 1, β⟩ [.o (.a (.sl 0 0 n cap0))] [some ⟨false, [.vals n L]⟩] (fun ys _ => ys = [.g [.ints .u8 (64 : Nat) (joinP w n L)]]) :=
  Body.lens (c := (Try.f39.body.getD .skip)) rfl fun h => joinP_body0 w n L cap0 h0  β hP

end Go.Proofs.Ytlmdhjojinkdbaa.X

/- Printed by a tool of this session. -/
namespace Go.Proofs.Ytlmdhjojinkdbaa.X
open Go Go.Proofs
set_option linter.unusedVariables false
set_option linter.unusedSimpArgs false
set_option maxRecDepth 100000
def gjoin (w0 : World) (rw : List Nat) (rest : Gam) : Gam := gparts 39 [] w0 rw (fun vs args m D => match vs, args with | [], [] => some (m < 70368744177664, .g [.ints .u8 64 (shaD D)]) | _, _ => none) rest
theorem gjoin_ok {rest : Gam} {w0 : World} {rw : List Nat} (hr : GamAt Try.prog rest w0 rw) : GamAt Try.prog (gjoin w0 rw rest) w0 rw := gparts_ok tabOkDB Try.func39 Try.call39 hr (by
  intro vs args m D p y h hv
  split at h
  · simp only [Option.some.injEq, Prod.mk.injEq] at h; obtain ⟨rfl, rfl⟩ := h
    refine ⟨rfl, fun caps cap L w β _ hP hD => ?_⟩
    subst hD
    exact joinP_body w m L cap hv β hP
  · simp at h)

end Go.Proofs.Ytlmdhjojinkdbaa.X

/- The keyed digest, as a function of bytes. -/
namespace Go.Proofs.Ytlmdhjojinkdbaa.X
open Go Go.Proofs
set_option linter.unusedVariables false
set_option maxRecDepth 100000

theorem shaD_len (D : List Int) : (shaD D).length = 64 := by
  unfold shaD; rw [hsum_dig]; exact digL_len _
def padK (k : List Int) : List Int := splice (List.replicate 128 (0 : Int)) 0 (min k.length 128) (sub k 0 (min k.length 128))
def keyK (k : List Int) : List Int := if k.length ≤ 128 then k else shaD k
def pk (k : List Int) : List Int := padK (keyK k)
theorem padK_len (k : List Int) : (padK k).length = 128 := by
  unfold padK
  rw [splice_len] <;> simp [sub] <;> omega
theorem pk_len (k : List Int) : (pk k).length = 128 := padK_len _
/-- the first k bytes turned -/
def xk (c : Int) (l : List Int) (k : Nat) : List Int := (l.take k).map (fun x => bits2 .xor .u8 x c) ++ l.drop k
theorem xk_len (c : Int) (l : List Int) (k : Nat) : (xk c l k).length = l.length := by
  unfold xk; simp; omega
theorem xk_step {c : Int} {l : List Int} {k : Nat} (h : k < l.length) : List.set (xk c l k) k (bits2 .xor .u8 (List.getD (xk c l k) k 0) c) = xk c l (k + 1) := by
  have hm : ((l.take k).map (fun x => bits2 .xor .u8 x c)).length = k := by simp; omega
  have e : l.drop k = l[k] :: l.drop (k + 1) := List.drop_eq_getElem_cons h
  unfold xk
  rw [e, List.getD_eq_getElem?_getD, List.getElem?_append_right (by omega), hm, Nat.sub_self, List.set_append_right _ _ (by omega), hm, Nat.sub_self]
  simp only [List.getElem?_cons_zero, Option.getD_some, List.set_cons_zero]
  rw [List.take_add_one, List.getElem?_eq_getElem h, List.map_append, List.append_assoc]
  rfl
/-- the keyed digest of bytes -/
def macD (k m : List Int) : List Int := shaD (xk 92 (pk k) 128 ++ shaD (xk 54 (pk k) 128 ++ m))
theorem macD_len (k m : List Int) : (macD k m).length = 64 := shaD_len _
theorem xk_sub (c : Int) (k : List Int) : sub (xk c (pk k) 128) 0 128 = xk c (pk k) 128 := sub_all _ _ (by rw [xk_len, pk_len]; omega)
theorem mac_out {w : World} {key : List Int} {L : List Value} {n : Nat} (hL : L.length = n) :
    shaD (sub (xk 92 (pk key) 128) 0 128 ++ (sub (shaD (sub (xk 54 (pk key) 128) 0 128 ++ (catV w (sub L 0 n) n ++ []))) 0 64 ++ [])) = macD key (catV w L n) := by
  rw [xk_sub, xk_sub, sub_all L n (by omega), sub_all _ 64 (by rw [shaD_len]; omega), List.append_nil, List.append_nil]; rfl
theorem mac_lt1 {w : World} {key : List Int} {L : List Value} {n : Nat} (hL : L.length = n) (h : (catV w L n).length + 128 < 70368744177664) : (sub (xk 54 (pk key) 128) 0 128 ++ (catV w (sub L 0 n) n ++ [])).length < 70368744177664 := by
  rw [xk_sub, sub_all L n (by omega), List.append_nil, List.length_append, xk_len, pk_len]; omega
theorem mac_lt2 {key m : List Int} : (sub (xk 92 (pk key) 128) 0 128 ++ (sub (shaD m) 0 64 ++ [])).length < 70368744177664 := by
  rw [xk_sub, sub_all _ 64 (by rw [shaD_len]; omega), List.append_nil, List.length_append, xk_len, pk_len, shaD_len]; omega
theorem mac_parts {w : World} {L : List Value} {n : Nat} (hL : L.length = n) (hP : PartsOk w L n) : PartsR w [] (sub L 0 n) n := by
  rw [sub_all L n (by omega)]; exact hP
theorem pk_short {key : List Int} {n : Nat} (hl : key.length = n) (h : n ≤ 128) : splice (List.replicate 128 (0 : Int)) 0 (min n 128) (sub key 0 (min n 128)) = pk key := by
  subst hl; unfold pk keyK; rw [if_pos h]; rfl
theorem pk_long {key : List Int} {n : Nat} (hl : key.length = n) (h : 128 < n) : splice (List.replicate 128 (0 : Int)) 0 64 (sub (shaD key) 0 64) = pk key := by
  subst hl; unfold pk keyK; rw [if_neg (by omega)]; unfold padK; rw [shaD_len]; rfl
theorem sum_key {key : List Int} {n : Nat} (hl : key.length = n) (h : n < 70368744177664) : join1 n (sub key 0 n) = shaD key := by
  rw [sub_all key n (by omega)]
  exact join1_sha hl h
end Go.Proofs.Ytlmdhjojinkdbaa.X

/- Printed by a tool of this session. -/
namespace Go.Proofs.Ytlmdhjojinkdbaa.X
open Go Go.Proofs
set_option linter.unusedVariables false
set_option linter.unusedSimpArgs false
set_option maxRecDepth 100000
theorem teDE_5 : TEOk Try.prog 5 ⟨.int .u8, 1, 1, [.i .u8 (0 : Int)], false⟩ :=
  TEOk.of Try.underlying5 (i := Try.t5) (by kernel_rfl) rfl rfl rfl (by kernel_rfl) (fun h => by cases h) (by kernel_rfl)
theorem teDE_22 : TEOk Try.prog 22 ⟨.slice 5, 1, 24, [.raw (.slice none 0 0)], false⟩ :=
  TEOk.of Try.underlying22 (i := Try.t22) (by kernel_rfl) rfl rfl rfl (by kernel_rfl) (fun h => by cases h) (by kernel_rfl)
theorem teDE_23 : TEOk Try.prog 23 ⟨.slice 22, 1, 24, [.raw (.slice none 0 0)], false⟩ :=
  TEOk.of Try.underlying23 (i := Try.t23) (by kernel_rfl) rfl rfl rfl (by kernel_rfl) (fun h => by cases h) (by kernel_rfl)
theorem teDE_32 : TEOk Try.prog 32 ⟨.array 64 5, 64, 64, [.ints .u8 (64 : Nat) ([0, 0, 0, 0, 0, 0, 0, 0, 0, 0, 0, 0, 0, 0, 0, 0, 0, 0, 0, 0, 0, 0, 0, 0, 0, 0, 0, 0, 0, 0, 0, 0, 0, 0, 0, 0, 0, 0, 0, 0, 0, 0, 0, 0, 0, 0, 0, 0, 0, 0, 0, 0, 0, 0, 0, 0, 0, 0, 0, 0, 0, 0, 0, 0] : List Int)], true⟩ :=
  TEOk.of Try.underlying32 (i := Try.t32) (by kernel_rfl) rfl rfl rfl (by kernel_rfl) (fun _ => Try.eqGuardType32) (by kernel_rfl)
theorem teDE_101 : TEOk Try.prog 101 ⟨.array 128 5, 128, 128, [.ints .u8 (128 : Nat) (List.replicate (128 : Nat) (0 : Int))], true⟩ :=
  TEOk.of Try.underlying101 (i := Try.t101) (by kernel_rfl) rfl rfl rfl (by kernel_rfl) (fun _ => Try.eqGuardType101) (by kernel_rfl)
noncomputable def tabDE : List (Nat × TE) := [(5, ⟨.int .u8, 1, 1, [.i .u8 (0 : Int)], false⟩), (22, ⟨.slice 5, 1, 24, [.raw (.slice none 0 0)], false⟩), (23, ⟨.slice 22, 1, 24, [.raw (.slice none 0 0)], false⟩), (32, ⟨.array 64 5, 64, 64, [.ints .u8 (64 : Nat) ([0, 0, 0, 0, 0, 0, 0, 0, 0, 0, 0, 0, 0, 0, 0, 0, 0, 0, 0, 0, 0, 0, 0, 0, 0, 0, 0, 0, 0, 0, 0, 0, 0, 0, 0, 0, 0, 0, 0, 0, 0, 0, 0, 0, 0, 0, 0, 0, 0, 0, 0, 0, 0, 0, 0, 0, 0, 0, 0, 0, 0, 0, 0, 0] : List Int)], true⟩), (101, ⟨.array 128 5, 128, 128, [.ints .u8 (128 : Nat) (List.replicate (128 : Nat) (0 : Int))], true⟩)]
theorem tabOkDE : TabOk Try.prog (tabOf tabDE) := (tabOf_cons teDE_5 (tabOf_cons teDE_22 (tabOf_cons teDE_23 (tabOf_cons teDE_32 (tabOf_cons teDE_101 tabOf_nil)))))

def mac01L_mk (w : World) (kn : Nat) (key : List Int) (L : List Value) (cap0 cap1 k : Nat) (s : Unit) : St := ⟨sparse 45 [(0, .o (.a (.sl 0 0 kn cap0))), (1, .o (.a (.sl 1 0 (0 : Nat) cap1))), (4, .o (.a (.p 2 0))), (5, .o (.a (.p 3 0))), (6, .o (.a (.p 4 0))), (10, .o (.a (.sl 0 0 kn cap0))), (11, .o (.a (.i .i64 ((kn : Nat) : Int)))), (12, .o (.a (.b (decide (((kn : Nat) : Int) > (128 : Int)))))), (16, .o (.a (.sl 3 0 (128 : Nat) (128 : Nat)))), (17, .o (.a (.sl 0 0 kn cap0))), (19, .o (.a (.sl 4 0 (128 : Nat) (128 : Nat)))), (20, .o (.a (.sl 0 0 kn cap0))), (22, .o (.a (.i .i64 ((k : Nat) : Int))))], [some ⟨false, [.ints .u8 kn key]⟩, some ⟨false, [.vals (0 : Nat) L]⟩, some ⟨true, [.ints .u8 (64 : Nat) ([0, 0, 0, 0, 0, 0, 0, 0, 0, 0, 0, 0, 0, 0, 0, 0, 0, 0, 0, 0, 0, 0, 0, 0, 0, 0, 0, 0, 0, 0, 0, 0, 0, 0, 0, 0, 0, 0, 0, 0, 0, 0, 0, 0, 0, 0, 0, 0, 0, 0, 0, 0, 0, 0, 0, 0, 0, 0, 0, 0, 0, 0, 0, 0] : List Int)]⟩, some ⟨true, [.ints .u8 (128 : Nat) (xk (54 : Int) (pk key) k)]⟩, some ⟨true, [.ints .u8 (128 : Nat) (xk (92 : Int) (pk key) k)]⟩]⟩

def mac01L_step (k : Nat) (s : Unit) : Unit :=
  ()

set_option maxHeartbeats 1000000 in
theorem mac01L_round (w : World) (kn : Nat) (key : List Int) (L : List Value) (cap0 cap1 : Nat) (h0 : (kn < (70368744177664 : Nat))) (h1 : ((1 : Nat) < (4398046511104 : Nat))) (h2 : (((List.length (catV w L (0 : Nat))) + (128 : Nat)) < (70368744177664 : Nat))) (hl0_0 : List.length key = kn) (hkn : kn ≤ 128) (β : Env) (hP : PartsOk w L (0 : Nat)) (hL : L.length = (0 : Nat)) (k : Nat) (hk : k < (128 : Nat)) (s : Unit) : Run Try.prog ⟨w, [], 2, β⟩ (loopB Try.f14 0) (mac01L_mk w kn key L cap0 cap1 k s) (To ⟨w, [], 2, β⟩ .normal (mac01L_mk w kn key L cap0 cap1 (k + 1) (mac01L_step k s))) := by
  have e0 : (List.set (xk (54 : Int) (pk key) k) k (bits2 .xor .u8 (List.getD (xk (54 : Int) (pk key) k) k 0) (54 : Int))) = (xk (54 : Int) (pk key) (k + (1 : Nat))) := (by first | exact wrap_succ (by omega) | exact xk_step (by rw [pk_len]; omega))
  have e1 : (List.set (xk (92 : Int) (pk key) k) k (bits2 .xor .u8 (List.getD (xk (92 : Int) (pk key) k) k 0) (92 : Int))) = (xk (92 : Int) (pk key) (k + (1 : Nat))) := (by first | exact wrap_succ (by omega) | exact xk_step (by rw [pk_len]; omega))
  have e2 : (IntKind.i64.wrap (((k : Nat) : Int) + (1 : Int))) = (((k + (1 : Nat)) : Nat) : Int) := (by first | exact wrap_succ (by omega) | exact xk_step (by rw [pk_len]; omega))
  have h := Run.of_outTAt (B := ⟨w, [], 2, β⟩) (Λ := noLam) (Ψ := noPsi) (fuel := 0) (ora := [true]) (c := (loopB Try.f14 0)) (st := (mac01L_mk w kn key L cap0 cap1 k s)) (l := [.forget [0, 1, 4, 5, 6, 10, 11, 12, 16, 17, 19, 20, 22] 5]) (s' := ⟨sparse 45 [(0, .o (.a (.sl 0 0 kn cap0))), (1, .o (.a (.sl 1 0 (0 : Nat) cap1))), (4, .o (.a (.p 2 0))), (5, .o (.a (.p 3 0))), (6, .o (.a (.p 4 0))), (10, .o (.a (.sl 0 0 kn cap0))), (11, .o (.a (.i .i64 ((kn : Nat) : Int)))), (12, .o (.a (.b (decide (((kn : Nat) : Int) > (128 : Int)))))), (16, .o (.a (.sl 3 0 (128 : Nat) (128 : Nat)))), (17, .o (.a (.sl 0 0 kn cap0))), (19, .o (.a (.sl 4 0 (128 : Nat) (128 : Nat)))), (20, .o (.a (.sl 0 0 kn cap0))), (22, .o (.a (.i .i64 (IntKind.i64.wrap (((k : Nat) : Int) + (1 : Int))))))], [some ⟨false, [.ints .u8 kn key]⟩, some ⟨false, [.vals (0 : Nat) L]⟩, some ⟨true, [.ints .u8 (64 : Nat) ([0, 0, 0, 0, 0, 0, 0, 0, 0, 0, 0, 0, 0, 0, 0, 0, 0, 0, 0, 0, 0, 0, 0, 0, 0, 0, 0, 0, 0, 0, 0, 0, 0, 0, 0, 0, 0, 0, 0, 0, 0, 0, 0, 0, 0, 0, 0, 0, 0, 0, 0, 0, 0, 0, 0, 0, 0, 0, 0, 0, 0, 0, 0, 0] : List Int)]⟩, some ⟨true, [.ints .u8 (128 : Nat) (List.set (xk (54 : Int) (pk key) k) k (bits2 .xor .u8 (List.getD (xk (54 : Int) (pk key) k) k 0) (54 : Int)))]⟩, some ⟨true, [.ints .u8 (128 : Nat) (List.set (xk (92 : Int) (pk key) k) k (bits2 .xor .u8 (List.getD (xk (92 : Int) (pk key) k) k 0) (92 : Int)))]⟩]⟩) (ex := .normal) mix tabOkDE (gjoin_ok (gam17_ok.at _ _))
    (vc := [(k < (128 : Nat)), (((0 : Int) ≤ ((k : Nat) : Int)) ∧ (((k : Nat) : Int) < (128 : Int))), (k < (128 : Nat)), (((0 : Int) ≤ ((k : Nat) : Int)) ∧ (((k : Nat) : Int) < (128 : Int))), (k < (128 : Nat)), (((0 : Int) ≤ ((k : Nat) : Int)) ∧ (((k : Nat) : Int) < (128 : Int))), (k < (128 : Nat)), (((0 : Int) ≤ ((k : Nat) : Int)) ∧ (((k : Nat) : Int) < (128 : Int))), ((decide (((k : Nat) : Int) < (128 : Int))) = true)]) (by kernel_rfl)
    (aC (by first | omega | (simp (disch := omega) only [wrapI]; omega)) (aC ⟨(by first | omega | (simp (disch := omega) only [wrapI]; omega)), (by first | omega | (simp (disch := omega) only [wrapI]; omega))⟩ (aC (by first | omega | (simp (disch := omega) only [wrapI]; omega)) (aC ⟨(by first | omega | (simp (disch := omega) only [wrapI]; omega)), (by first | omega | (simp (disch := omega) only [wrapI]; omega))⟩ (aC (by first | omega | (simp (disch := omega) only [wrapI]; omega)) (aC ⟨(by first | omega | (simp (disch := omega) only [wrapI]; omega)), (by first | omega | (simp (disch := omega) only [wrapI]; omega))⟩ (aC (by first | omega | (simp (disch := omega) only [wrapI]; omega)) (aC ⟨(by first | omega | (simp (disch := omega) only [wrapI]; omega)), (by first | omega | (simp (disch := omega) only [wrapI]; omega))⟩ (aC (decide_eq_true (by first | omega | (simp (disch := omega) only [wrapI]; omega))) (AllP_nil))))))))))
  rw [e0, e1, e2] at h
  exact h

set_option maxHeartbeats 1000000 in
theorem mac01L_last (w : World) (kn : Nat) (key : List Int) (L : List Value) (cap0 cap1 : Nat) (h0 : (kn < (70368744177664 : Nat))) (h1 : ((1 : Nat) < (4398046511104 : Nat))) (h2 : (((List.length (catV w L (0 : Nat))) + (128 : Nat)) < (70368744177664 : Nat))) (hl0_0 : List.length key = kn) (hkn : kn ≤ 128) (β : Env) (hP : PartsOk w L (0 : Nat)) (hL : L.length = (0 : Nat)) (s : Unit) : Run Try.prog ⟨w, [], 2, β⟩ (loopB Try.f14 0) (mac01L_mk w kn key L cap0 cap1 (128 : Nat) s) (To ⟨w, [], 2, β⟩ (.exit 0) (mac01L_mk w kn key L cap0 cap1 (128 : Nat) s)) :=
  Run.of_outTAt (B := ⟨w, [], 2, β⟩) (Λ := noLam) (Ψ := noPsi) (fuel := 0) (ora := [false]) (l := [.forget [0, 1, 4, 5, 6, 10, 11, 12, 16, 17, 19, 20, 22] 5]) mix tabOkDE (gjoin_ok (gam17_ok.at _ _))
    (vc := [(false = false)]) (by kernel_rfl)
    (aC rfl (AllP_nil))

theorem mac01L_loop (w : World) (kn : Nat) (key : List Int) (L : List Value) (cap0 cap1 : Nat) (h0 : (kn < (70368744177664 : Nat))) (h1 : ((1 : Nat) < (4398046511104 : Nat))) (h2 : (((List.length (catV w L (0 : Nat))) + (128 : Nat)) < (70368744177664 : Nat))) (hl0_0 : List.length key = kn) (hkn : kn ≤ 128) (β : Env) (hP : PartsOk w L (0 : Nat)) (hL : L.length = (0 : Nat)) (s : Unit) : Run Try.prog ⟨w, [], 2, β⟩ (.block 0 (.loop (loopB Try.f14 0))) (mac01L_mk w kn key L cap0 cap1 0 s) (To ⟨w, [], 2, β⟩ .normal (mac01L_mk w kn key L cap0 cap1 (128 : Nat) (iter (mac01L_step) (128 : Nat) s))) :=
  Run.count (fun k => mac01L_mk w kn key L cap0 cap1 k (iter (mac01L_step) k s)) (128 : Nat) (fun k hk => mac01L_round w kn key L cap0 cap1 h0 h1 h2 hl0_0 hkn β hP hL k hk _) (ex := (.exit 0)) (by simp) (mac01L_last w kn key L cap0 cap1 h0 h1 h2 hl0_0 hkn β hP hL _)

def mac01 (w : World) (key : List Int) (L : List Value) : List Int :=
  (macD key (catV w L (0 : Nat)))

set_option maxHeartbeats 1000000 in
theorem mac01_body0 (w : World) (kn : Nat) (key : List Int) (L : List Value) (cap0 cap1 : Nat) (h0 : (kn < (70368744177664 : Nat))) (h1 : ((1 : Nat) < (4398046511104 : Nat))) (h2 : (((List.length (catV w L (0 : Nat))) + (128 : Nat)) < (70368744177664 : Nat))) (hl0_0 : List.length key = kn) (hkn : kn ≤ 128) (β : Env) (hP : PartsOk w L (0 : Nat)) (hL : L.length = (0 : Nat)) : Body Try.prog (tabOf tabDE) Try.f14 ⟨w, [], 2, β⟩ [.o (.a (.sl 0 0 kn cap0)), .o (.a (.sl 1 0 (0 : Nat) cap1))] [some ⟨false, [.ints .u8 kn key]⟩, some ⟨false, [.vals (0 : Nat) L]⟩] (fun ys _ => ys = [.g [.ints .u8 (64 : Nat) (mac01 w key L)]]) :=
  Body.of_finAt (Γ := (gjoin w [] gam17)) (Λ := lamOf [(0, ⟨[.forget [0, 1, 4, 5, 6, 10, 11, 12, 16, 17, 19, 20, 22] 5], .normal, (mac01L_mk w kn key L cap0 cap1 (128 : Nat) (iter (mac01L_step) (128 : Nat) ()))⟩)]) (Ψ := psiOf [(5, [.eqB 3 (⟨true, [.ints .u8 (128 : Nat) (pk key)]⟩)]), (6, [.eqB 4 (⟨true, [.ints .u8 (128 : Nat) (pk key)]⟩)])]) (fuel := 0) (m := 45) (c := (Try.f14.body.getD .skip)) mix tabOkDE (gjoin_ok (gam17_ok.at _ _)) rfl (rs := [.cell 4 32]) rfl rfl [false, true] [.eqB 2 (⟨true, [.ints .u8 (64 : Nat) (macD key (catV w L (0 : Nat)))]⟩)]
    (vc := [((some ⟨true, [.ints .u8 (64 : Nat) (shaD ((sub (xk (92 : Int) (pk key) (128 : Nat)) (0 : Nat) (128 : Nat)) ++ ((sub (shaD ((sub (xk (54 : Int) (pk key) (128 : Nat)) (0 : Nat) (128 : Nat)) ++ ((catV w (sub L 0 (0 : Nat)) (0 : Nat)) ++ ([] : List Int)))) (0 : Nat) (64 : Nat)) ++ ([] : List Int))))]⟩ : Option Blk) = some ⟨true, [.ints .u8 (64 : Nat) (macD key (catV w L (0 : Nat)))]⟩), (((2 : Nat) = (2 : Nat)) ∧ (((128 : Nat) ≤ (128 : Nat)) ∧ (((64 : Nat) ≤ (64 : Nat)) ∧ True)) ∧ ((List.length ((sub (xk (92 : Int) (pk key) (128 : Nat)) (0 : Nat) (128 : Nat)) ++ ((sub (shaD ((sub (xk (54 : Int) (pk key) (128 : Nat)) (0 : Nat) (128 : Nat)) ++ ((catV w (sub L 0 (0 : Nat)) (0 : Nat)) ++ ([] : List Int)))) (0 : Nat) (64 : Nat)) ++ ([] : List Int)))) < (70368744177664 : Nat)) ∧ True ∧ ((2 : Nat) < (70368744177664 : Nat))), (((0 : Int) ≤ (0 : Int)) ∧ ((0 : Int) ≤ (64 : Int))), (((0 : Int) ≤ (0 : Int)) ∧ ((0 : Int) ≤ (128 : Int))), (((1 : Nat) = (1 : Nat)) ∧ (((128 : Nat) ≤ (128 : Nat)) ∧ ((PartsR w [] (sub L 0 (0 : Nat)) (0 : Nat)) ∧ True)) ∧ ((List.length ((sub (xk (54 : Int) (pk key) (128 : Nat)) (0 : Nat) (128 : Nat)) ++ ((catV w (sub L 0 (0 : Nat)) (0 : Nat)) ++ ([] : List Int)))) < (70368744177664 : Nat)) ∧ True ∧ ((1 : Nat) < (70368744177664 : Nat))), ((((0 : Nat) ≤ (0 : Nat)) ∧ ((0 : Nat) ≤ (0 : Nat))) ∧ (okP none) ∧ ((1 : Nat) ≤ (1 : Nat))), (((0 : Int) ≤ (0 : Int)) ∧ ((0 : Int) ≤ (128 : Int))), (Run Try.prog ⟨w, [], 2, β⟩ (.block 0 (.loop (loopB Try.f14 0))) (mac01L_mk w kn key L cap0 cap1 0 ()) (To ⟨w, [], 2, β⟩ .normal (mac01L_mk w kn key L cap0 cap1 (128 : Nat) (iter (mac01L_step) (128 : Nat) ())))), ((some ⟨true, [.ints .u8 (128 : Nat) (splice (List.replicate (128 : Nat) (0 : Int)) (0 : Nat) (min kn (128 : Nat)) (sub key 0 (min kn (128 : Nat))))]⟩ : Option Blk) = some ⟨true, [.ints .u8 (128 : Nat) (pk key)]⟩), ((((min kn (128 : Nat)) ≤ kn) ∧ (((0 : Nat) + (min kn (128 : Nat))) ≤ kn)) ∧ (okP (some (((0 : Nat) + (min kn (128 : Nat))) ≤ (128 : Nat))))), (((0 : Int) ≤ (0 : Int)) ∧ ((0 : Int) ≤ (128 : Int))), ((some ⟨true, [.ints .u8 (128 : Nat) (splice (List.replicate (128 : Nat) (0 : Int)) (0 : Nat) (min kn (128 : Nat)) (sub key 0 (min kn (128 : Nat))))]⟩ : Option Blk) = some ⟨true, [.ints .u8 (128 : Nat) (pk key)]⟩), ((((min kn (128 : Nat)) ≤ kn) ∧ (((0 : Nat) + (min kn (128 : Nat))) ≤ kn)) ∧ (okP (some (((0 : Nat) + (min kn (128 : Nat))) ≤ (128 : Nat))))), (((0 : Int) ≤ (0 : Int)) ∧ ((0 : Int) ≤ (128 : Int))), ((decide (((kn : Nat) : Int) > (128 : Int))) = false)]) (by kernel_rfl)
    (aC ((by rw [mac_out hL])) (aC ⟨rfl, ⟨(by decide), ⟨(by decide), trivial⟩⟩, (mac_lt2), trivial, (by decide)⟩ (aC ⟨(by decide), (by decide)⟩ (aC ⟨(by decide), (by decide)⟩ (aC ⟨rfl, ⟨(by decide), ⟨((mac_parts hL hP)), trivial⟩⟩, (mac_lt1 hL h2), trivial, (by decide)⟩ (aC ⟨⟨(by decide), (by decide)⟩, trivial, (by decide)⟩ (aC ⟨(by decide), (by decide)⟩ (aC (mac01L_loop w kn key L cap0 cap1 h0 h1 h2 hl0_0 hkn β hP hL ()) (aC ((by rw [pk_short hl0_0 hkn])) (aC ⟨⟨(by first | omega | (simp (disch := omega) only [wrapI]; omega)), (by first | omega | (simp (disch := omega) only [wrapI]; omega))⟩, (show (((0 : Nat) + (min kn (128 : Nat))) ≤ (128 : Nat)) from (by first | omega | (simp (disch := omega) only [wrapI]; omega)))⟩ (aC ⟨(by decide), (by decide)⟩ (aC ((by rw [pk_short hl0_0 hkn])) (aC ⟨⟨(by first | omega | (simp (disch := omega) only [wrapI]; omega)), (by first | omega | (simp (disch := omega) only [wrapI]; omega))⟩, (show (((0 : Nat) + (min kn (128 : Nat))) ≤ (128 : Nat)) from (by first | omega | (simp (disch := omega) only [wrapI]; omega)))⟩ (aC ⟨(by decide), (by decide)⟩ (aC (decide_eq_false (by first | omega | (simp (disch := omega) only [wrapI]; omega))) (AllP_nil))))))))))))))))

def mac00L_mk (w : World) (kn : Nat) (key : List Int) (n : Nat) (L : List Value) (cap0 cap1 k : Nat) (s : Unit) : St := ⟨sparse 45 [(0, .o (.a (.sl 0 0 kn cap0))), (1, .o (.a (.sl 1 0 n cap1))), (4, .o (.a (.p 2 0))), (5, .o (.a (.p 3 0))), (6, .o (.a (.p 4 0))), (10, .o (.a (.sl 0 0 kn cap0))), (11, .o (.a (.i .i64 ((kn : Nat) : Int)))), (12, .o (.a (.b (decide (((kn : Nat) : Int) > (128 : Int)))))), (16, .o (.a (.sl 3 0 (128 : Nat) (128 : Nat)))), (17, .o (.a (.sl 0 0 kn cap0))), (19, .o (.a (.sl 4 0 (128 : Nat) (128 : Nat)))), (20, .o (.a (.sl 0 0 kn cap0))), (22, .o (.a (.i .i64 ((k : Nat) : Int))))], [some ⟨false, [.ints .u8 kn key]⟩, some ⟨false, [.vals n L]⟩, some ⟨true, [.ints .u8 (64 : Nat) ([0, 0, 0, 0, 0, 0, 0, 0, 0, 0, 0, 0, 0, 0, 0, 0, 0, 0, 0, 0, 0, 0, 0, 0, 0, 0, 0, 0, 0, 0, 0, 0, 0, 0, 0, 0, 0, 0, 0, 0, 0, 0, 0, 0, 0, 0, 0, 0, 0, 0, 0, 0, 0, 0, 0, 0, 0, 0, 0, 0, 0, 0, 0, 0] : List Int)]⟩, some ⟨true, [.ints .u8 (128 : Nat) (xk (54 : Int) (pk key) k)]⟩, some ⟨true, [.ints .u8 (128 : Nat) (xk (92 : Int) (pk key) k)]⟩]⟩

def mac00L_step (k : Nat) (s : Unit) : Unit :=
  ()

set_option maxHeartbeats 1000000 in
theorem mac00L_round (w : World) (kn : Nat) (key : List Int) (n : Nat) (L : List Value) (cap0 cap1 : Nat) (h0 : (kn < (70368744177664 : Nat))) (h1 : ((n + (1 : Nat)) < (4398046511104 : Nat))) (h2 : (((List.length (catV w L n)) + (128 : Nat)) < (70368744177664 : Nat))) (hl0_0 : List.length key = kn) (hkn : kn ≤ 128) (hn : 0 < n) (β : Env) (hP : PartsOk w L n) (hL : L.length = n) (k : Nat) (hk : k < (128 : Nat)) (s : Unit) : Run Try.prog ⟨w, [], 2, β⟩ (loopB Try.f14 0) (mac00L_mk w kn key n L cap0 cap1 k s) (To ⟨w, [], 2, β⟩ .normal (mac00L_mk w kn key n L cap0 cap1 (k + 1) (mac00L_step k s))) := by
  have e0 : (List.set (xk (54 : Int) (pk key) k) k (bits2 .xor .u8 (List.getD (xk (54 : Int) (pk key) k) k 0) (54 : Int))) = (xk (54 : Int) (pk key) (k + (1 : Nat))) := (by first | exact wrap_succ (by omega) | exact xk_step (by rw [pk_len]; omega))
  have e1 : (List.set (xk (92 : Int) (pk key) k) k (bits2 .xor .u8 (List.getD (xk (92 : Int) (pk key) k) k 0) (92 : Int))) = (xk (92 : Int) (pk key) (k + (1 : Nat))) := (by first | exact wrap_succ (by omega) | exact xk_step (by rw [pk_len]; omega))
  have e2 : (IntKind.i64.wrap (((k : Nat) : Int) + (1 : Int))) = (((k + (1 : Nat)) : Nat) : Int) := (by first | exact wrap_succ (by omega) | exact xk_step (by rw [pk_len]; omega))
  have h := Run.of_outTAt (B := ⟨w, [], 2, β⟩) (Λ := noLam) (Ψ := noPsi) (fuel := 0) (ora := [true]) (c := (loopB Try.f14 0)) (st := (mac00L_mk w kn key n L cap0 cap1 k s)) (l := [.forget [0, 1, 4, 5, 6, 10, 11, 12, 16, 17, 19, 20, 22] 5]) (s' := ⟨sparse 45 [(0, .o (.a (.sl 0 0 kn cap0))), (1, .o (.a (.sl 1 0 n cap1))), (4, .o (.a (.p 2 0))), (5, .o (.a (.p 3 0))), (6, .o (.a (.p 4 0))), (10, .o (.a (.sl 0 0 kn cap0))), (11, .o (.a (.i .i64 ((kn : Nat) : Int)))), (12, .o (.a (.b (decide (((kn : Nat) : Int) > (128 : Int)))))), (16, .o (.a (.sl 3 0 (128 : Nat) (128 : Nat)))), (17, .o (.a (.sl 0 0 kn cap0))), (19, .o (.a (.sl 4 0 (128 : Nat) (128 : Nat)))), (20, .o (.a (.sl 0 0 kn cap0))), (22, .o (.a (.i .i64 (IntKind.i64.wrap (((k : Nat) : Int) + (1 : Int))))))], [some ⟨false, [.ints .u8 kn key]⟩, some ⟨false, [.vals n L]⟩, some ⟨true, [.ints .u8 (64 : Nat) ([0, 0, 0, 0, 0, 0, 0, 0, 0, 0, 0, 0, 0, 0, 0, 0, 0, 0, 0, 0, 0, 0, 0, 0, 0, 0, 0, 0, 0, 0, 0, 0, 0, 0, 0, 0, 0, 0, 0, 0, 0, 0, 0, 0, 0, 0, 0, 0, 0, 0, 0, 0, 0, 0, 0, 0, 0, 0, 0, 0, 0, 0, 0, 0] : List Int)]⟩, some ⟨true, [.ints .u8 (128 : Nat) (List.set (xk (54 : Int) (pk key) k) k (bits2 .xor .u8 (List.getD (xk (54 : Int) (pk key) k) k 0) (54 : Int)))]⟩, some ⟨true, [.ints .u8 (128 : Nat) (List.set (xk (92 : Int) (pk key) k) k (bits2 .xor .u8 (List.getD (xk (92 : Int) (pk key) k) k 0) (92 : Int)))]⟩]⟩) (ex := .normal) mix tabOkDE (gjoin_ok (gam17_ok.at _ _))
    (vc := [(k < (128 : Nat)), (((0 : Int) ≤ ((k : Nat) : Int)) ∧ (((k : Nat) : Int) < (128 : Int))), (k < (128 : Nat)), (((0 : Int) ≤ ((k : Nat) : Int)) ∧ (((k : Nat) : Int) < (128 : Int))), (k < (128 : Nat)), (((0 : Int) ≤ ((k : Nat) : Int)) ∧ (((k : Nat) : Int) < (128 : Int))), (k < (128 : Nat)), (((0 : Int) ≤ ((k : Nat) : Int)) ∧ (((k : Nat) : Int) < (128 : Int))), ((decide (((k : Nat) : Int) < (128 : Int))) = true)]) (by kernel_rfl)
    (aC (by first | omega | (simp (disch := omega) only [wrapI]; omega)) (aC ⟨(by first | omega | (simp (disch := omega) only [wrapI]; omega)), (by first | omega | (simp (disch := omega) only [wrapI]; omega))⟩ (aC (by first | omega | (simp (disch := omega) only [wrapI]; omega)) (aC ⟨(by first | omega | (simp (disch := omega) only [wrapI]; omega)), (by first | omega | (simp (disch := omega) only [wrapI]; omega))⟩ (aC (by first | omega | (simp (disch := omega) only [wrapI]; omega)) (aC ⟨(by first | omega | (simp (disch := omega) only [wrapI]; omega)), (by first | omega | (simp (disch := omega) only [wrapI]; omega))⟩ (aC (by first | omega | (simp (disch := omega) only [wrapI]; omega)) (aC ⟨(by first | omega | (simp (disch := omega) only [wrapI]; omega)), (by first | omega | (simp (disch := omega) only [wrapI]; omega))⟩ (aC (decide_eq_true (by first | omega | (simp (disch := omega) only [wrapI]; omega))) (AllP_nil))))))))))
  rw [e0, e1, e2] at h
  exact h

set_option maxHeartbeats 1000000 in
theorem mac00L_last (w : World) (kn : Nat) (key : List Int) (n : Nat) (L : List Value) (cap0 cap1 : Nat) (h0 : (kn < (70368744177664 : Nat))) (h1 : ((n + (1 : Nat)) < (4398046511104 : Nat))) (h2 : (((List.length (catV w L n)) + (128 : Nat)) < (70368744177664 : Nat))) (hl0_0 : List.length key = kn) (hkn : kn ≤ 128) (hn : 0 < n) (β : Env) (hP : PartsOk w L n) (hL : L.length = n) (s : Unit) : Run Try.prog ⟨w, [], 2, β⟩ (loopB Try.f14 0) (mac00L_mk w kn key n L cap0 cap1 (128 : Nat) s) (To ⟨w, [], 2, β⟩ (.exit 0) (mac00L_mk w kn key n L cap0 cap1 (128 : Nat) s)) :=
  Run.of_outTAt (B := ⟨w, [], 2, β⟩) (Λ := noLam) (Ψ := noPsi) (fuel := 0) (ora := [false]) (l := [.forget [0, 1, 4, 5, 6, 10, 11, 12, 16, 17, 19, 20, 22] 5]) mix tabOkDE (gjoin_ok (gam17_ok.at _ _))
    (vc := [(false = false)]) (by kernel_rfl)
    (aC rfl (AllP_nil))

theorem mac00L_loop (w : World) (kn : Nat) (key : List Int) (n : Nat) (L : List Value) (cap0 cap1 : Nat) (h0 : (kn < (70368744177664 : Nat))) (h1 : ((n + (1 : Nat)) < (4398046511104 : Nat))) (h2 : (((List.length (catV w L n)) + (128 : Nat)) < (70368744177664 : Nat))) (hl0_0 : List.length key = kn) (hkn : kn ≤ 128) (hn : 0 < n) (β : Env) (hP : PartsOk w L n) (hL : L.length = n) (s : Unit) : Run Try.prog ⟨w, [], 2, β⟩ (.block 0 (.loop (loopB Try.f14 0))) (mac00L_mk w kn key n L cap0 cap1 0 s) (To ⟨w, [], 2, β⟩ .normal (mac00L_mk w kn key n L cap0 cap1 (128 : Nat) (iter (mac00L_step) (128 : Nat) s))) :=
  Run.count (fun k => mac00L_mk w kn key n L cap0 cap1 k (iter (mac00L_step) k s)) (128 : Nat) (fun k hk => mac00L_round w kn key n L cap0 cap1 h0 h1 h2 hl0_0 hkn hn β hP hL k hk _) (ex := (.exit 0)) (by simp) (mac00L_last w kn key n L cap0 cap1 h0 h1 h2 hl0_0 hkn hn β hP hL _)

def mac00 (w : World) (key : List Int) (n : Nat) (L : List Value) : List Int :=
  (macD key (catV w L n))

set_option maxHeartbeats 1000000 in
theorem mac00_body0 (w : World) (kn : Nat) (key : List Int) (n : Nat) (L : List Value) (cap0 cap1 : Nat) (h0 : (kn < (70368744177664 : Nat))) (h1 : ((n + (1 : Nat)) < (4398046511104 : Nat))) (h2 : (((List.length (catV w L n)) + (128 : Nat)) < (70368744177664 : Nat))) (hl0_0 : List.length key = kn) (hkn : kn ≤ 128) (hn : 0 < n) (β : Env) (hP : PartsOk w L n) (hL : L.length = n) : Body Try.prog (tabOf tabDE) Try.f14 ⟨w, [], 2, β⟩ [.o (.a (.sl 0 0 kn cap0)), .o (.a (.sl 1 0 n cap1))] [some ⟨false, [.ints .u8 kn key]⟩, some ⟨false, [.vals n L]⟩] (fun ys _ => ys = [.g [.ints .u8 (64 : Nat) (mac00 w key n L)]]) :=
  Body.of_finAt (Γ := (gjoin w [] gam17)) (Λ := lamOf [(0, ⟨[.forget [0, 1, 4, 5, 6, 10, 11, 12, 16, 17, 19, 20, 22] 5], .normal, (mac00L_mk w kn key n L cap0 cap1 (128 : Nat) (iter (mac00L_step) (128 : Nat) ()))⟩)]) (Ψ := psiOf [(5, [.eqB 3 (⟨true, [.ints .u8 (128 : Nat) (pk key)]⟩)]), (6, [.eqB 4 (⟨true, [.ints .u8 (128 : Nat) (pk key)]⟩)])]) (fuel := 0) (m := 45) (c := (Try.f14.body.getD .skip)) mix tabOkDE (gjoin_ok (gam17_ok.at _ _)) rfl (rs := [.cell 4 32]) rfl rfl [false, false] [.eqB 2 (⟨true, [.ints .u8 (64 : Nat) (macD key (catV w L n))]⟩)]
    (vc := [((some ⟨true, [.ints .u8 (64 : Nat) (shaD ((sub (xk (92 : Int) (pk key) (128 : Nat)) (0 : Nat) (128 : Nat)) ++ ((sub (shaD ((sub (xk (54 : Int) (pk key) (128 : Nat)) (0 : Nat) (128 : Nat)) ++ ((catV w (sub L 0 n) n) ++ ([] : List Int)))) (0 : Nat) (64 : Nat)) ++ ([] : List Int))))]⟩ : Option Blk) = some ⟨true, [.ints .u8 (64 : Nat) (macD key (catV w L n))]⟩), (((2 : Nat) = (2 : Nat)) ∧ (((128 : Nat) ≤ (128 : Nat)) ∧ (((64 : Nat) ≤ (64 : Nat)) ∧ True)) ∧ ((List.length ((sub (xk (92 : Int) (pk key) (128 : Nat)) (0 : Nat) (128 : Nat)) ++ ((sub (shaD ((sub (xk (54 : Int) (pk key) (128 : Nat)) (0 : Nat) (128 : Nat)) ++ ((catV w (sub L 0 n) n) ++ ([] : List Int)))) (0 : Nat) (64 : Nat)) ++ ([] : List Int)))) < (70368744177664 : Nat)) ∧ True ∧ ((2 : Nat) < (70368744177664 : Nat))), (((0 : Int) ≤ (0 : Int)) ∧ ((0 : Int) ≤ (64 : Int))), (((0 : Int) ≤ (0 : Int)) ∧ ((0 : Int) ≤ (128 : Int))), ((((1 : Nat) + n) = ((1 : Nat) + n)) ∧ (((128 : Nat) ≤ (128 : Nat)) ∧ ((PartsR w [] (sub L 0 n) n) ∧ True)) ∧ ((List.length ((sub (xk (54 : Int) (pk key) (128 : Nat)) (0 : Nat) (128 : Nat)) ++ ((catV w (sub L 0 n) n) ++ ([] : List Int)))) < (70368744177664 : Nat)) ∧ True ∧ (((1 : Nat) + n) < (70368744177664 : Nat))), (True ∧ ((n ≤ n) ∧ (((0 : Nat) + n) ≤ n)) ∧ ((1 : Nat) < ((1 : Nat) + n)) ∧ ((((1 : Nat) + n) * (24 : Nat)) ≤ (140737488355328 : Nat))), (((0 : Int) ≤ (0 : Int)) ∧ ((0 : Int) ≤ (128 : Int))), (Run Try.prog ⟨w, [], 2, β⟩ (.block 0 (.loop (loopB Try.f14 0))) (mac00L_mk w kn key n L cap0 cap1 0 ()) (To ⟨w, [], 2, β⟩ .normal (mac00L_mk w kn key n L cap0 cap1 (128 : Nat) (iter (mac00L_step) (128 : Nat) ())))), ((some ⟨true, [.ints .u8 (128 : Nat) (splice (List.replicate (128 : Nat) (0 : Int)) (0 : Nat) (min kn (128 : Nat)) (sub key 0 (min kn (128 : Nat))))]⟩ : Option Blk) = some ⟨true, [.ints .u8 (128 : Nat) (pk key)]⟩), ((((min kn (128 : Nat)) ≤ kn) ∧ (((0 : Nat) + (min kn (128 : Nat))) ≤ kn)) ∧ (okP (some (((0 : Nat) + (min kn (128 : Nat))) ≤ (128 : Nat))))), (((0 : Int) ≤ (0 : Int)) ∧ ((0 : Int) ≤ (128 : Int))), ((some ⟨true, [.ints .u8 (128 : Nat) (splice (List.replicate (128 : Nat) (0 : Int)) (0 : Nat) (min kn (128 : Nat)) (sub key 0 (min kn (128 : Nat))))]⟩ : Option Blk) = some ⟨true, [.ints .u8 (128 : Nat) (pk key)]⟩), ((((min kn (128 : Nat)) ≤ kn) ∧ (((0 : Nat) + (min kn (128 : Nat))) ≤ kn)) ∧ (okP (some (((0 : Nat) + (min kn (128 : Nat))) ≤ (128 : Nat))))), (((0 : Int) ≤ (0 : Int)) ∧ ((0 : Int) ≤ (128 : Int))), ((decide (((kn : Nat) : Int) > (128 : Int))) = false)]) (by kernel_rfl)
    (aC ((by rw [mac_out hL])) (aC ⟨rfl, ⟨(by decide), ⟨(by decide), trivial⟩⟩, (mac_lt2), trivial, (by decide)⟩ (aC ⟨(by decide), (by decide)⟩ (aC ⟨(by decide), (by decide)⟩ (aC ⟨rfl, ⟨(by decide), ⟨((mac_parts hL hP)), trivial⟩⟩, (mac_lt1 hL h2), trivial, (by first | omega | (simp (disch := omega) only [wrapI]; omega))⟩ (aC ⟨trivial, ⟨(by first | omega | (simp (disch := omega) only [wrapI]; omega)), (by first | omega | (simp (disch := omega) only [wrapI]; omega))⟩, (by first | omega | (simp (disch := omega) only [wrapI]; omega)), (by first | omega | (simp (disch := omega) only [wrapI]; omega))⟩ (aC ⟨(by decide), (by decide)⟩ (aC (mac00L_loop w kn key n L cap0 cap1 h0 h1 h2 hl0_0 hkn hn β hP hL ()) (aC ((by rw [pk_short hl0_0 hkn])) (aC ⟨⟨(by first | omega | (simp (disch := omega) only [wrapI]; omega)), (by first | omega | (simp (disch := omega) only [wrapI]; omega))⟩, (show (((0 : Nat) + (min kn (128 : Nat))) ≤ (128 : Nat)) from (by first | omega | (simp (disch := omega) only [wrapI]; omega)))⟩ (aC ⟨(by decide), (by decide)⟩ (aC ((by rw [pk_short hl0_0 hkn])) (aC ⟨⟨(by first | omega | (simp (disch := omega) only [wrapI]; omega)), (by first | omega | (simp (disch := omega) only [wrapI]; omega))⟩, (show (((0 : Nat) + (min kn (128 : Nat))) ≤ (128 : Nat)) from (by first | omega | (simp (disch := omega) only [wrapI]; omega)))⟩ (aC ⟨(by decide), (by decide)⟩ (aC (decide_eq_false (by first | omega | (simp (disch := omega) only [wrapI]; omega))) (AllP_nil))))))))))))))))

def mac11L_mk (w : World) (kn : Nat) (key : List Int) (L : List Value) (cap0 cap1 k : Nat) (s : Unit) : St := ⟨sparse 45 [(0, .o (.a (.sl 5 0 (64 : Nat) (64 : Nat)))), (1, .o (.a (.sl 1 0 (0 : Nat) cap1))), (4, .o (.a (.p 2 0))), (5, .o (.a (.p 3 0))), (6, .o (.a (.p 4 0))), (7, .o (.a (.p 5 0))), (10, .o (.a (.sl 0 0 kn cap0))), (11, .o (.a (.i .i64 ((kn : Nat) : Int)))), (12, .o (.a (.b (decide (((kn : Nat) : Int) > (128 : Int)))))), (13, .o (.a (.sl 0 0 kn cap0))), (14, .o (.g [.ints .u8 (64 : Nat) (join1 kn (sub key 0 kn))])), (15, .o (.a (.sl 5 0 (64 : Nat) (64 : Nat)))), (16, .o (.a (.sl 3 0 (128 : Nat) (128 : Nat)))), (17, .o (.a (.sl 5 0 (64 : Nat) (64 : Nat)))), (19, .o (.a (.sl 4 0 (128 : Nat) (128 : Nat)))), (20, .o (.a (.sl 5 0 (64 : Nat) (64 : Nat)))), (22, .o (.a (.i .i64 ((k : Nat) : Int))))], [some ⟨false, [.ints .u8 kn key]⟩, some ⟨false, [.vals (0 : Nat) L]⟩, some ⟨true, [.ints .u8 (64 : Nat) ([0, 0, 0, 0, 0, 0, 0, 0, 0, 0, 0, 0, 0, 0, 0, 0, 0, 0, 0, 0, 0, 0, 0, 0, 0, 0, 0, 0, 0, 0, 0, 0, 0, 0, 0, 0, 0, 0, 0, 0, 0, 0, 0, 0, 0, 0, 0, 0, 0, 0, 0, 0, 0, 0, 0, 0, 0, 0, 0, 0, 0, 0, 0, 0] : List Int)]⟩, some ⟨true, [.ints .u8 (128 : Nat) (xk (54 : Int) (pk key) k)]⟩, some ⟨true, [.ints .u8 (128 : Nat) (xk (92 : Int) (pk key) k)]⟩, some ⟨true, [.ints .u8 (64 : Nat) (shaD key)]⟩]⟩

def mac11L_step (k : Nat) (s : Unit) : Unit :=
  ()

set_option maxHeartbeats 1000000 in
theorem mac11L_round (w : World) (kn : Nat) (key : List Int) (L : List Value) (cap0 cap1 : Nat) (h0 : (kn < (70368744177664 : Nat))) (h1 : ((1 : Nat) < (4398046511104 : Nat))) (h2 : (((List.length (catV w L (0 : Nat))) + (128 : Nat)) < (70368744177664 : Nat))) (hl0_0 : List.length key = kn) (hkn : 128 < kn) (β : Env) (hP : PartsOk w L (0 : Nat)) (hL : L.length = (0 : Nat)) (k : Nat) (hk : k < (128 : Nat)) (s : Unit) : Run Try.prog ⟨w, [], 2, β⟩ (loopB Try.f14 0) (mac11L_mk w kn key L cap0 cap1 k s) (To ⟨w, [], 2, β⟩ .normal (mac11L_mk w kn key L cap0 cap1 (k + 1) (mac11L_step k s))) := by
  have e0 : (List.set (xk (54 : Int) (pk key) k) k (bits2 .xor .u8 (List.getD (xk (54 : Int) (pk key) k) k 0) (54 : Int))) = (xk (54 : Int) (pk key) (k + (1 : Nat))) := (by first | exact wrap_succ (by omega) | exact xk_step (by rw [pk_len]; omega))
  have e1 : (List.set (xk (92 : Int) (pk key) k) k (bits2 .xor .u8 (List.getD (xk (92 : Int) (pk key) k) k 0) (92 : Int))) = (xk (92 : Int) (pk key) (k + (1 : Nat))) := (by first | exact wrap_succ (by omega) | exact xk_step (by rw [pk_len]; omega))
  have e2 : (IntKind.i64.wrap (((k : Nat) : Int) + (1 : Int))) = (((k + (1 : Nat)) : Nat) : Int) := (by first | exact wrap_succ (by omega) | exact xk_step (by rw [pk_len]; omega))
  have h := Run.of_outTAt (B := ⟨w, [], 2, β⟩) (Λ := noLam) (Ψ := noPsi) (fuel := 0) (ora := [true]) (c := (loopB Try.f14 0)) (st := (mac11L_mk w kn key L cap0 cap1 k s)) (l := [.forget [0, 1, 4, 5, 6, 7, 10, 11, 12, 13, 14, 15, 16, 17, 19, 20, 22] 6]) (s' := ⟨sparse 45 [(0, .o (.a (.sl 5 0 (64 : Nat) (64 : Nat)))), (1, .o (.a (.sl 1 0 (0 : Nat) cap1))), (4, .o (.a (.p 2 0))), (5, .o (.a (.p 3 0))), (6, .o (.a (.p 4 0))), (7, .o (.a (.p 5 0))), (10, .o (.a (.sl 0 0 kn cap0))), (11, .o (.a (.i .i64 ((kn : Nat) : Int)))), (12, .o (.a (.b (decide (((kn : Nat) : Int) > (128 : Int)))))), (13, .o (.a (.sl 0 0 kn cap0))), (14, .o (.g [.ints .u8 (64 : Nat) (join1 kn (sub key 0 kn))])), (15, .o (.a (.sl 5 0 (64 : Nat) (64 : Nat)))), (16, .o (.a (.sl 3 0 (128 : Nat) (128 : Nat)))), (17, .o (.a (.sl 5 0 (64 : Nat) (64 : Nat)))), (19, .o (.a (.sl 4 0 (128 : Nat) (128 : Nat)))), (20, .o (.a (.sl 5 0 (64 : Nat) (64 : Nat)))), (22, .o (.a (.i .i64 (IntKind.i64.wrap (((k : Nat) : Int) + (1 : Int))))))], [some ⟨false, [.ints .u8 kn key]⟩, some ⟨false, [.vals (0 : Nat) L]⟩, some ⟨true, [.ints .u8 (64 : Nat) ([0, 0, 0, 0, 0, 0, 0, 0, 0, 0, 0, 0, 0, 0, 0, 0, 0, 0, 0, 0, 0, 0, 0, 0, 0, 0, 0, 0, 0, 0, 0, 0, 0, 0, 0, 0, 0, 0, 0, 0, 0, 0, 0, 0, 0, 0, 0, 0, 0, 0, 0, 0, 0, 0, 0, 0, 0, 0, 0, 0, 0, 0, 0, 0] : List Int)]⟩, some ⟨true, [.ints .u8 (128 : Nat) (List.set (xk (54 : Int) (pk key) k) k (bits2 .xor .u8 (List.getD (xk (54 : Int) (pk key) k) k 0) (54 : Int)))]⟩, some ⟨true, [.ints .u8 (128 : Nat) (List.set (xk (92 : Int) (pk key) k) k (bits2 .xor .u8 (List.getD (xk (92 : Int) (pk key) k) k 0) (92 : Int)))]⟩, some ⟨true, [.ints .u8 (64 : Nat) (shaD key)]⟩]⟩) (ex := .normal) mix tabOkDE (gjoin_ok (gam17_ok.at _ _))
    (vc := [(k < (128 : Nat)), (((0 : Int) ≤ ((k : Nat) : Int)) ∧ (((k : Nat) : Int) < (128 : Int))), (k < (128 : Nat)), (((0 : Int) ≤ ((k : Nat) : Int)) ∧ (((k : Nat) : Int) < (128 : Int))), (k < (128 : Nat)), (((0 : Int) ≤ ((k : Nat) : Int)) ∧ (((k : Nat) : Int) < (128 : Int))), (k < (128 : Nat)), (((0 : Int) ≤ ((k : Nat) : Int)) ∧ (((k : Nat) : Int) < (128 : Int))), ((decide (((k : Nat) : Int) < (128 : Int))) = true)]) (by kernel_rfl)
    (aC (by first | omega | (simp (disch := omega) only [wrapI]; omega)) (aC ⟨(by first | omega | (simp (disch := omega) only [wrapI]; omega)), (by first | omega | (simp (disch := omega) only [wrapI]; omega))⟩ (aC (by first | omega | (simp (disch := omega) only [wrapI]; omega)) (aC ⟨(by first | omega | (simp (disch := omega) only [wrapI]; omega)), (by first | omega | (simp (disch := omega) only [wrapI]; omega))⟩ (aC (by first | omega | (simp (disch := omega) only [wrapI]; omega)) (aC ⟨(by first | omega | (simp (disch := omega) only [wrapI]; omega)), (by first | omega | (simp (disch := omega) only [wrapI]; omega))⟩ (aC (by first | omega | (simp (disch := omega) only [wrapI]; omega)) (aC ⟨(by first | omega | (simp (disch := omega) only [wrapI]; omega)), (by first | omega | (simp (disch := omega) only [wrapI]; omega))⟩ (aC (decide_eq_true (by first | omega | (simp (disch := omega) only [wrapI]; omega))) (AllP_nil))))))))))
  rw [e0, e1, e2] at h
  exact h

set_option maxHeartbeats 1000000 in
theorem mac11L_last (w : World) (kn : Nat) (key : List Int) (L : List Value) (cap0 cap1 : Nat) (h0 : (kn < (70368744177664 : Nat))) (h1 : ((1 : Nat) < (4398046511104 : Nat))) (h2 : (((List.length (catV w L (0 : Nat))) + (128 : Nat)) < (70368744177664 : Nat))) (hl0_0 : List.length key = kn) (hkn : 128 < kn) (β : Env) (hP : PartsOk w L (0 : Nat)) (hL : L.length = (0 : Nat)) (s : Unit) : Run Try.prog ⟨w, [], 2, β⟩ (loopB Try.f14 0) (mac11L_mk w kn key L cap0 cap1 (128 : Nat) s) (To ⟨w, [], 2, β⟩ (.exit 0) (mac11L_mk w kn key L cap0 cap1 (128 : Nat) s)) :=
  Run.of_outTAt (B := ⟨w, [], 2, β⟩) (Λ := noLam) (Ψ := noPsi) (fuel := 0) (ora := [false]) (l := [.forget [0, 1, 4, 5, 6, 7, 10, 11, 12, 13, 14, 15, 16, 17, 19, 20, 22] 6]) mix tabOkDE (gjoin_ok (gam17_ok.at _ _))
    (vc := [(false = false)]) (by kernel_rfl)
    (aC rfl (AllP_nil))

theorem mac11L_loop (w : World) (kn : Nat) (key : List Int) (L : List Value) (cap0 cap1 : Nat) (h0 : (kn < (70368744177664 : Nat))) (h1 : ((1 : Nat) < (4398046511104 : Nat))) (h2 : (((List.length (catV w L (0 : Nat))) + (128 : Nat)) < (70368744177664 : Nat))) (hl0_0 : List.length key = kn) (hkn : 128 < kn) (β : Env) (hP : PartsOk w L (0 : Nat)) (hL : L.length = (0 : Nat)) (s : Unit) : Run Try.prog ⟨w, [], 2, β⟩ (.block 0 (.loop (loopB Try.f14 0))) (mac11L_mk w kn key L cap0 cap1 0 s) (To ⟨w, [], 2, β⟩ .normal (mac11L_mk w kn key L cap0 cap1 (128 : Nat) (iter (mac11L_step) (128 : Nat) s))) :=
  Run.count (fun k => mac11L_mk w kn key L cap0 cap1 k (iter (mac11L_step) k s)) (128 : Nat) (fun k hk => mac11L_round w kn key L cap0 cap1 h0 h1 h2 hl0_0 hkn β hP hL k hk _) (ex := (.exit 0)) (by simp) (mac11L_last w kn key L cap0 cap1 h0 h1 h2 hl0_0 hkn β hP hL _)

def mac11 (w : World) (key : List Int) (L : List Value) : List Int :=
  (macD key (catV w L (0 : Nat)))

set_option maxHeartbeats 1000000 in
theorem mac11_body0 (w : World) (kn : Nat) (key : List Int) (L : List Value) (cap0 cap1 : Nat) (h0 : (kn < (70368744177664 : Nat))) (h1 : ((1 : Nat) < (4398046511104 : Nat))) (h2 : (((List.length (catV w L (0 : Nat))) + (128 : Nat)) < (70368744177664 : Nat))) (hl0_0 : List.length key = kn) (hkn : 128 < kn) (β : Env) (hP : PartsOk w L (0 : Nat)) (hL : L.length = (0 : Nat)) : Body Try.prog (tabOf tabDE) Try.f14 ⟨w, [], 2, β⟩ [.o (.a (.sl 0 0 kn cap0)), .o (.a (.sl 1 0 (0 : Nat) cap1))] [some ⟨false, [.ints .u8 kn key]⟩, some ⟨false, [.vals (0 : Nat) L]⟩] (fun ys _ => ys = [.g [.ints .u8 (64 : Nat) (mac11 w key L)]]) :=
  Body.of_finAt (Γ := (gjoin w [] gam17)) (Λ := lamOf [(0, ⟨[.forget [0, 1, 4, 5, 6, 7, 10, 11, 12, 13, 14, 15, 16, 17, 19, 20, 22] 6], .normal, (mac11L_mk w kn key L cap0 cap1 (128 : Nat) (iter (mac11L_step) (128 : Nat) ()))⟩)]) (Ψ := psiOf [(3, [.eqB 5 (⟨true, [.ints .u8 (64 : Nat) (shaD key)]⟩)]), (5, [.eqB 3 (⟨true, [.ints .u8 (128 : Nat) (pk key)]⟩)]), (6, [.eqB 4 (⟨true, [.ints .u8 (128 : Nat) (pk key)]⟩)])]) (fuel := 0) (m := 45) (c := (Try.f14.body.getD .skip)) mix tabOkDE (gjoin_ok (gam17_ok.at _ _)) rfl (rs := [.cell 4 32]) rfl rfl [true, true] [.eqB 2 (⟨true, [.ints .u8 (64 : Nat) (macD key (catV w L (0 : Nat)))]⟩)]
    (vc := [((some ⟨true, [.ints .u8 (64 : Nat) (shaD ((sub (xk (92 : Int) (pk key) (128 : Nat)) (0 : Nat) (128 : Nat)) ++ ((sub (shaD ((sub (xk (54 : Int) (pk key) (128 : Nat)) (0 : Nat) (128 : Nat)) ++ ((catV w (sub L 0 (0 : Nat)) (0 : Nat)) ++ ([] : List Int)))) (0 : Nat) (64 : Nat)) ++ ([] : List Int))))]⟩ : Option Blk) = some ⟨true, [.ints .u8 (64 : Nat) (macD key (catV w L (0 : Nat)))]⟩), (((2 : Nat) = (2 : Nat)) ∧ (((128 : Nat) ≤ (128 : Nat)) ∧ (((64 : Nat) ≤ (64 : Nat)) ∧ True)) ∧ ((List.length ((sub (xk (92 : Int) (pk key) (128 : Nat)) (0 : Nat) (128 : Nat)) ++ ((sub (shaD ((sub (xk (54 : Int) (pk key) (128 : Nat)) (0 : Nat) (128 : Nat)) ++ ((catV w (sub L 0 (0 : Nat)) (0 : Nat)) ++ ([] : List Int)))) (0 : Nat) (64 : Nat)) ++ ([] : List Int)))) < (70368744177664 : Nat)) ∧ True ∧ ((2 : Nat) < (70368744177664 : Nat))), (((0 : Int) ≤ (0 : Int)) ∧ ((0 : Int) ≤ (64 : Int))), (((0 : Int) ≤ (0 : Int)) ∧ ((0 : Int) ≤ (128 : Int))), (((1 : Nat) = (1 : Nat)) ∧ (((128 : Nat) ≤ (128 : Nat)) ∧ ((PartsR w [] (sub L 0 (0 : Nat)) (0 : Nat)) ∧ True)) ∧ ((List.length ((sub (xk (54 : Int) (pk key) (128 : Nat)) (0 : Nat) (128 : Nat)) ++ ((catV w (sub L 0 (0 : Nat)) (0 : Nat)) ++ ([] : List Int)))) < (70368744177664 : Nat)) ∧ True ∧ ((1 : Nat) < (70368744177664 : Nat))), ((((0 : Nat) ≤ (0 : Nat)) ∧ ((0 : Nat) ≤ (0 : Nat))) ∧ (okP none) ∧ ((1 : Nat) ≤ (1 : Nat))), (((0 : Int) ≤ (0 : Int)) ∧ ((0 : Int) ≤ (128 : Int))), (Run Try.prog ⟨w, [], 2, β⟩ (.block 0 (.loop (loopB Try.f14 0))) (mac11L_mk w kn key L cap0 cap1 0 ()) (To ⟨w, [], 2, β⟩ .normal (mac11L_mk w kn key L cap0 cap1 (128 : Nat) (iter (mac11L_step) (128 : Nat) ())))), ((some ⟨true, [.ints .u8 (128 : Nat) (splice (List.replicate (128 : Nat) (0 : Int)) (0 : Nat) (64 : Nat) (sub (shaD key) (0 : Nat) (64 : Nat)))]⟩ : Option Blk) = some ⟨true, [.ints .u8 (128 : Nat) (pk key)]⟩), ((((64 : Nat) ≤ (64 : Nat)) ∧ ((64 : Nat) ≤ (64 : Nat))) ∧ (okP (some ((64 : Nat) ≤ (128 : Nat))))), (((0 : Int) ≤ (0 : Int)) ∧ ((0 : Int) ≤ (128 : Int))), ((some ⟨true, [.ints .u8 (128 : Nat) (splice (List.replicate (128 : Nat) (0 : Int)) (0 : Nat) (64 : Nat) (sub (shaD key) (0 : Nat) (64 : Nat)))]⟩ : Option Blk) = some ⟨true, [.ints .u8 (128 : Nat) (pk key)]⟩), ((((64 : Nat) ≤ (64 : Nat)) ∧ ((64 : Nat) ≤ (64 : Nat))) ∧ (okP (some ((64 : Nat) ≤ (128 : Nat))))), (((0 : Int) ≤ (0 : Int)) ∧ ((0 : Int) ≤ (128 : Int))), (((0 : Int) ≤ (0 : Int)) ∧ ((0 : Int) ≤ (64 : Int))), ((some ⟨true, [.ints .u8 (64 : Nat) (join1 kn (sub key 0 kn))]⟩ : Option Blk) = some ⟨true, [.ints .u8 (64 : Nat) (shaD key)]⟩), (((((0 : Nat) + kn) ≤ kn) ∧ True) ∧ ((kn = kn) ∧ (kn < (140737488355328 : Nat)))), ((decide (((kn : Nat) : Int) > (128 : Int))) = true)]) (by kernel_rfl)
    (aC ((by rw [mac_out hL])) (aC ⟨rfl, ⟨(by decide), ⟨(by decide), trivial⟩⟩, (mac_lt2), trivial, (by decide)⟩ (aC ⟨(by decide), (by decide)⟩ (aC ⟨(by decide), (by decide)⟩ (aC ⟨rfl, ⟨(by decide), ⟨((mac_parts hL hP)), trivial⟩⟩, (mac_lt1 hL h2), trivial, (by decide)⟩ (aC ⟨⟨(by decide), (by decide)⟩, trivial, (by decide)⟩ (aC ⟨(by decide), (by decide)⟩ (aC (mac11L_loop w kn key L cap0 cap1 h0 h1 h2 hl0_0 hkn β hP hL ()) (aC ((by rw [pk_long hl0_0 hkn])) (aC ⟨⟨(by decide), (by decide)⟩, (show ((64 : Nat) ≤ (128 : Nat)) from (by decide))⟩ (aC ⟨(by decide), (by decide)⟩ (aC ((by rw [pk_long hl0_0 hkn])) (aC ⟨⟨(by decide), (by decide)⟩, (show ((64 : Nat) ≤ (128 : Nat)) from (by decide))⟩ (aC ⟨(by decide), (by decide)⟩ (aC ⟨(by decide), (by decide)⟩ (aC ((by first | rw [sum_key hl0_0 h0] | exact congrArg (fun z => (some (⟨true, [.ints .u8 64 z]⟩ : Blk) : Option Blk)) (sum_key hl0_0 h0))) (aC ⟨⟨(by first | omega | (simp (disch := omega) only [wrapI]; omega)), trivial⟩, ⟨rfl, (by first | omega | (simp (disch := omega) only [wrapI]; omega))⟩⟩ (aC (decide_eq_true (by first | omega | (simp (disch := omega) only [wrapI]; omega))) (AllP_nil)))))))))))))))))))

def mac10L_mk (w : World) (kn : Nat) (key : List Int) (n : Nat) (L : List Value) (cap0 cap1 k : Nat) (s : Unit) : St := ⟨sparse 45 [(0, .o (.a (.sl 5 0 (64 : Nat) (64 : Nat)))), (1, .o (.a (.sl 1 0 n cap1))), (4, .o (.a (.p 2 0))), (5, .o (.a (.p 3 0))), (6, .o (.a (.p 4 0))), (7, .o (.a (.p 5 0))), (10, .o (.a (.sl 0 0 kn cap0))), (11, .o (.a (.i .i64 ((kn : Nat) : Int)))), (12, .o (.a (.b (decide (((kn : Nat) : Int) > (128 : Int)))))), (13, .o (.a (.sl 0 0 kn cap0))), (14, .o (.g [.ints .u8 (64 : Nat) (join1 kn (sub key 0 kn))])), (15, .o (.a (.sl 5 0 (64 : Nat) (64 : Nat)))), (16, .o (.a (.sl 3 0 (128 : Nat) (128 : Nat)))), (17, .o (.a (.sl 5 0 (64 : Nat) (64 : Nat)))), (19, .o (.a (.sl 4 0 (128 : Nat) (128 : Nat)))), (20, .o (.a (.sl 5 0 (64 : Nat) (64 : Nat)))), (22, .o (.a (.i .i64 ((k : Nat) : Int))))], [some ⟨false, [.ints .u8 kn key]⟩, some ⟨false, [.vals n L]⟩, some ⟨true, [.ints .u8 (64 : Nat) ([0, 0, 0, 0, 0, 0, 0, 0, 0, 0, 0, 0, 0, 0, 0, 0, 0, 0, 0, 0, 0, 0, 0, 0, 0, 0, 0, 0, 0, 0, 0, 0, 0, 0, 0, 0, 0, 0, 0, 0, 0, 0, 0, 0, 0, 0, 0, 0, 0, 0, 0, 0, 0, 0, 0, 0, 0, 0, 0, 0, 0, 0, 0, 0] : List Int)]⟩, some ⟨true, [.ints .u8 (128 : Nat) (xk (54 : Int) (pk key) k)]⟩, some ⟨true, [.ints .u8 (128 : Nat) (xk (92 : Int) (pk key) k)]⟩, some ⟨true, [.ints .u8 (64 : Nat) (shaD key)]⟩]⟩

def mac10L_step (k : Nat) (s : Unit) : Unit :=
  ()

set_option maxHeartbeats 1000000 in
theorem mac10L_round (w : World) (kn : Nat) (key : List Int) (n : Nat) (L : List Value) (cap0 cap1 : Nat) (h0 : (kn < (70368744177664 : Nat))) (h1 : ((n + (1 : Nat)) < (4398046511104 : Nat))) (h2 : (((List.length (catV w L n)) + (128 : Nat)) < (70368744177664 : Nat))) (hl0_0 : List.length key = kn) (hkn : 128 < kn) (hn : 0 < n) (β : Env) (hP : PartsOk w L n) (hL : L.length = n) (k : Nat) (hk : k < (128 : Nat)) (s : Unit) : Run Try.prog ⟨w, [], 2, β⟩ (loopB Try.f14 0) (mac10L_mk w kn key n L cap0 cap1 k s) (To ⟨w, [], 2, β⟩ .normal (mac10L_mk w kn key n L cap0 cap1 (k + 1) (mac10L_step k s))) := by
  have e0 : (List.set (xk (54 : Int) (pk key) k) k (bits2 .xor .u8 (List.getD (xk (54 : Int) (pk key) k) k 0) (54 : Int))) = (xk (54 : Int) (pk key) (k + (1 : Nat))) := (by first | exact wrap_succ (by omega) | exact xk_step (by rw [pk_len]; omega))
  have e1 : (List.set (xk (92 : Int) (pk key) k) k (bits2 .xor .u8 (List.getD (xk (92 : Int) (pk key) k) k 0) (92 : Int))) = (xk (92 : Int) (pk key) (k + (1 : Nat))) := (by first | exact wrap_succ (by omega) | exact xk_step (by rw [pk_len]; omega))
  have e2 : (IntKind.i64.wrap (((k : Nat) : Int) + (1 : Int))) = (((k + (1 : Nat)) : Nat) : Int) := (by first | exact wrap_succ (by omega) | exact xk_step (by rw [pk_len]; omega))
  have h := Run.of_outTAt (B := ⟨w, [], 2, β⟩) (Λ := noLam) (Ψ := noPsi) (fuel := 0) (ora := [true]) (c := (loopB Try.f14 0)) (st := (mac10L_mk w kn key n L cap0 cap1 k s)) (l := [.forget [0, 1, 4, 5, 6, 7, 10, 11, 12, 13, 14, 15, 16, 17, 19, 20, 22] 6]) (s' := ⟨sparse 45 [(0, .o (.a (.sl 5 0 (64 : Nat) (64 : Nat)))), (1, .o (.a (.sl 1 0 n cap1))), (4, .o (.a (.p 2 0))), (5, .o (.a (.p 3 0))), (6, .o (.a (.p 4 0))), (7, .o (.a (.p 5 0))), (10, .o (.a (.sl 0 0 kn cap0))), (11, .o (.a (.i .i64 ((kn : Nat) : Int)))), (12, .o (.a (.b (decide (((kn : Nat) : Int) > (128 : Int)))))), (13, .o (.a (.sl 0 0 kn cap0))), (14, .o (.g [.ints .u8 (64 : Nat) (join1 kn (sub key 0 kn))])), (15, .o (.a (.sl 5 0 (64 : Nat) (64 : Nat)))), (16, .o (.a (.sl 3 0 (128 : Nat) (128 : Nat)))), (17, .o (.a (.sl 5 0 (64 : Nat) (64 : Nat)))), (19, .o (.a (.sl 4 0 (128 : Nat) (128 : Nat)))), (20, .o (.a (.sl 5 0 (64 : Nat) (64 : Nat)))), (22, .o (.a (.i .i64 (IntKind.i64.wrap (((k : Nat) : Int) + (1 : Int))))))], [some ⟨false, [.ints .u8 kn key]⟩, some ⟨false, [.vals n L]⟩, some ⟨true, [.ints .u8 (64 : Nat) ([0, 0, 0, 0, 0, 0, 0, 0, 0, 0, 0, 0, 0, 0, 0, 0, 0, 0, 0, 0, 0, 0, 0, 0, 0, 0, 0, 0, 0, 0, 0, 0, 0, 0, 0, 0, 0, 0, 0, 0, 0, 0, 0, 0, 0, 0, 0, 0, 0, 0, 0, 0, 0, 0, 0, 0, 0, 0, 0, 0, 0, 0, 0, 0] : List Int)]⟩, some ⟨true, [.ints .u8 (128 : Nat) (List.set (xk (54 : Int) (pk key) k) k (bits2 .xor .u8 (List.getD (xk (54 : Int) (pk key) k) k 0) (54 : Int)))]⟩, some ⟨true, [.ints .u8 (128 : Nat) (List.set (xk (92 : Int) (pk key) k) k (bits2 .xor .u8 (List.getD (xk (92 : Int) (pk key) k) k 0) (92 : Int)))]⟩, some ⟨true, [.ints .u8 (64 : Nat) (shaD key)]⟩]⟩) (ex := .normal) mix tabOkDE (gjoin_ok (gam17_ok.at _ _))
    (vc := [(k < (128 : Nat)), (((0 : Int) ≤ ((k : Nat) : Int)) ∧ (((k : Nat) : Int) < (128 : Int))), (k < (128 : Nat)), (((0 : Int) ≤ ((k : Nat) : Int)) ∧ (((k : Nat) : Int) < (128 : Int))), (k < (128 : Nat)), (((0 : Int) ≤ ((k : Nat) : Int)) ∧ (((k : Nat) : Int) < (128 : Int))), (k < (128 : Nat)), (((0 : Int) ≤ ((k : Nat) : Int)) ∧ (((k : Nat) : Int) < (128 : Int))), ((decide (((k : Nat) : Int) < (128 : Int))) = true)]) (by kernel_rfl)
    (aC (by first | omega | (simp (disch := omega) only [wrapI]; omega)) (aC ⟨(by first | omega | (simp (disch := omega) only [wrapI]; omega)), (by first | omega | (simp (disch := omega) only [wrapI]; omega))⟩ (aC (by first | omega | (simp (disch := omega) only [wrapI]; omega)) (aC ⟨(by first | omega | (simp (disch := omega) only [wrapI]; omega)), (by first | omega | (simp (disch := omega) only [wrapI]; omega))⟩ (aC (by first | omega | (simp (disch := omega) only [wrapI]; omega)) (aC ⟨(by first | omega | (simp (disch := omega) only [wrapI]; omega)), (by first | omega | (simp (disch := omega) only [wrapI]; omega))⟩ (aC (by first | omega | (simp (disch := omega) only [wrapI]; omega)) (aC ⟨(by first | omega | (simp (disch := omega) only [wrapI]; omega)), (by first | omega | (simp (disch := omega) only [wrapI]; omega))⟩ (aC (decide_eq_true (by first | omega | (simp (disch := omega) only [wrapI]; omega))) (AllP_nil))))))))))
  rw [e0, e1, e2] at h
  exact h

set_option maxHeartbeats 1000000 in
theorem mac10L_last (w : World) (kn : Nat) (key : List Int) (n : Nat) (L : List Value) (cap0 cap1 : Nat) (h0 : (kn < (70368744177664 : Nat))) (h1 : ((n + (1 : Nat)) < (4398046511104 : Nat))) (h2 : (((List.length (catV w L n)) + (128 : Nat)) < (70368744177664 : Nat))) (hl0_0 : List.length key = kn) (hkn : 128 < kn) (hn : 0 < n) (β : Env) (hP : PartsOk w L n) (hL : L.length = n) (s : Unit) : Run Try.prog ⟨w, [], 2, β⟩ (loopB Try.f14 0) (mac10L_mk w kn key n L cap0 cap1 (128 : Nat) s) (To ⟨w, [], 2, β⟩ (.exit 0) (mac10L_mk w kn key n L cap0 cap1 (128 : Nat) s)) :=
  Run.of_outTAt (B := ⟨w, [], 2, β⟩) (Λ := noLam) (Ψ := noPsi) (fuel := 0) (ora := [false]) (l := [.forget [0, 1, 4, 5, 6, 7, 10, 11, 12, 13, 14, 15, 16, 17, 19, 20, 22] 6]) mix tabOkDE (gjoin_ok (gam17_ok.at _ _))
    (vc := [(false = false)]) (by kernel_rfl)
    (aC rfl (AllP_nil))

theorem mac10L_loop (w : World) (kn : Nat) (key : List Int) (n : Nat) (L : List Value) (cap0 cap1 : Nat) (h0 : (kn < (70368744177664 : Nat))) (h1 : ((n + (1 : Nat)) < (4398046511104 : Nat))) (h2 : (((List.length (catV w L n)) + (128 : Nat)) < (70368744177664 : Nat))) (hl0_0 : List.length key = kn) (hkn : 128 < kn) (hn : 0 < n) (β : Env) (hP : PartsOk w L n) (hL : L.length = n) (s : Unit) : Run Try.prog ⟨w, [], 2, β⟩ (.block 0 (.loop (loopB Try.f14 0))) (mac10L_mk w kn key n L cap0 cap1 0 s) (To ⟨w, [], 2, β⟩ .normal (mac10L_mk w kn key n L cap0 cap1 (128 : Nat) (iter (mac10L_step) (128 : Nat) s))) :=
  Run.count (fun k => mac10L_mk w kn key n L cap0 cap1 k (iter (mac10L_step) k s)) (128 : Nat) (fun k hk => mac10L_round w kn key n L cap0 cap1 h0 h1 h2 hl0_0 hkn hn β hP hL k hk _) (ex := (.exit 0)) (by simp) (mac10L_last w kn key n L cap0 cap1 h0 h1 h2 hl0_0 hkn hn β hP hL _)

def mac10 (w : World) (key : List Int) (n : Nat) (L : List Value) : List Int :=
  (macD key (catV w L n))

set_option maxHeartbeats 1000000 in
theorem mac10_body0 (w : World) (kn : Nat) (key : List Int) (n : Nat) (L : List Value) (cap0 cap1 : Nat) (h0 : (kn < (70368744177664 : Nat))) (h1 : ((n + (1 : Nat)) < (4398046511104 : Nat))) (h2 : (((List.length (catV w L n)) + (128 : Nat)) < (70368744177664 : Nat))) (hl0_0 : List.length key = kn) (hkn : 128 < kn) (hn : 0 < n) (β : Env) (hP : PartsOk w L n) (hL : L.length = n) : Body Try.prog (tabOf tabDE) Try.f14 ⟨w, [], 2, β⟩ [.o (.a (.sl 0 0 kn cap0)), .o (.a (.sl 1 0 n cap1))] [some ⟨false, [.ints .u8 kn key]⟩, some ⟨false, [.vals n L]⟩] (fun ys _ => ys = [.g [.ints .u8 (64 : Nat) (mac10 w key n L)]]) :=
  Body.of_finAt (Γ := (gjoin w [] gam17)) (Λ := lamOf [(0, ⟨[.forget [0, 1, 4, 5, 6, 7, 10, 11, 12, 13, 14, 15, 16, 17, 19, 20, 22] 6], .normal, (mac10L_mk w kn key n L cap0 cap1 (128 : Nat) (iter (mac10L_step) (128 : Nat) ()))⟩)]) (Ψ := psiOf [(3, [.eqB 5 (⟨true, [.ints .u8 (64 : Nat) (shaD key)]⟩)]), (5, [.eqB 3 (⟨true, [.ints .u8 (128 : Nat) (pk key)]⟩)]), (6, [.eqB 4 (⟨true, [.ints .u8 (128 : Nat) (pk key)]⟩)])]) (fuel := 0) (m := 45) (c := (Try.f14.body.getD .skip)) mix tabOkDE (gjoin_ok (gam17_ok.at _ _)) rfl (rs := [.cell 4 32]) rfl rfl [true, false] [.eqB 2 (⟨true, [.ints .u8 (64 : Nat) (macD key (catV w L n))]⟩)]
    (vc := [((some ⟨true, [.ints .u8 (64 : Nat) (shaD ((sub (xk (92 : Int) (pk key) (128 : Nat)) (0 : Nat) (128 : Nat)) ++ ((sub (shaD ((sub (xk (54 : Int) (pk key) (128 : Nat)) (0 : Nat) (128 : Nat)) ++ ((catV w (sub L 0 n) n) ++ ([] : List Int)))) (0 : Nat) (64 : Nat)) ++ ([] : List Int))))]⟩ : Option Blk) = some ⟨true, [.ints .u8 (64 : Nat) (macD key (catV w L n))]⟩), (((2 : Nat) = (2 : Nat)) ∧ (((128 : Nat) ≤ (128 : Nat)) ∧ (((64 : Nat) ≤ (64 : Nat)) ∧ True)) ∧ ((List.length ((sub (xk (92 : Int) (pk key) (128 : Nat)) (0 : Nat) (128 : Nat)) ++ ((sub (shaD ((sub (xk (54 : Int) (pk key) (128 : Nat)) (0 : Nat) (128 : Nat)) ++ ((catV w (sub L 0 n) n) ++ ([] : List Int)))) (0 : Nat) (64 : Nat)) ++ ([] : List Int)))) < (70368744177664 : Nat)) ∧ True ∧ ((2 : Nat) < (70368744177664 : Nat))), (((0 : Int) ≤ (0 : Int)) ∧ ((0 : Int) ≤ (64 : Int))), (((0 : Int) ≤ (0 : Int)) ∧ ((0 : Int) ≤ (128 : Int))), ((((1 : Nat) + n) = ((1 : Nat) + n)) ∧ (((128 : Nat) ≤ (128 : Nat)) ∧ ((PartsR w [] (sub L 0 n) n) ∧ True)) ∧ ((List.length ((sub (xk (54 : Int) (pk key) (128 : Nat)) (0 : Nat) (128 : Nat)) ++ ((catV w (sub L 0 n) n) ++ ([] : List Int)))) < (70368744177664 : Nat)) ∧ True ∧ (((1 : Nat) + n) < (70368744177664 : Nat))), (True ∧ ((n ≤ n) ∧ (((0 : Nat) + n) ≤ n)) ∧ ((1 : Nat) < ((1 : Nat) + n)) ∧ ((((1 : Nat) + n) * (24 : Nat)) ≤ (140737488355328 : Nat))), (((0 : Int) ≤ (0 : Int)) ∧ ((0 : Int) ≤ (128 : Int))), (Run Try.prog ⟨w, [], 2, β⟩ (.block 0 (.loop (loopB Try.f14 0))) (mac10L_mk w kn key n L cap0 cap1 0 ()) (To ⟨w, [], 2, β⟩ .normal (mac10L_mk w kn key n L cap0 cap1 (128 : Nat) (iter (mac10L_step) (128 : Nat) ())))), ((some ⟨true, [.ints .u8 (128 : Nat) (splice (List.replicate (128 : Nat) (0 : Int)) (0 : Nat) (64 : Nat) (sub (shaD key) (0 : Nat) (64 : Nat)))]⟩ : Option Blk) = some ⟨true, [.ints .u8 (128 : Nat) (pk key)]⟩), ((((64 : Nat) ≤ (64 : Nat)) ∧ ((64 : Nat) ≤ (64 : Nat))) ∧ (okP (some ((64 : Nat) ≤ (128 : Nat))))), (((0 : Int) ≤ (0 : Int)) ∧ ((0 : Int) ≤ (128 : Int))), ((some ⟨true, [.ints .u8 (128 : Nat) (splice (List.replicate (128 : Nat) (0 : Int)) (0 : Nat) (64 : Nat) (sub (shaD key) (0 : Nat) (64 : Nat)))]⟩ : Option Blk) = some ⟨true, [.ints .u8 (128 : Nat) (pk key)]⟩), ((((64 : Nat) ≤ (64 : Nat)) ∧ ((64 : Nat) ≤ (64 : Nat))) ∧ (okP (some ((64 : Nat) ≤ (128 : Nat))))), (((0 : Int) ≤ (0 : Int)) ∧ ((0 : Int) ≤ (128 : Int))), (((0 : Int) ≤ (0 : Int)) ∧ ((0 : Int) ≤ (64 : Int))), ((some ⟨true, [.ints .u8 (64 : Nat) (join1 kn (sub key 0 kn))]⟩ : Option Blk) = some ⟨true, [.ints .u8 (64 : Nat) (shaD key)]⟩), (((((0 : Nat) + kn) ≤ kn) ∧ True) ∧ ((kn = kn) ∧ (kn < (140737488355328 : Nat)))), ((decide (((kn : Nat) : Int) > (128 : Int))) = true)]) (by kernel_rfl)
    (aC ((by rw [mac_out hL])) (aC ⟨rfl, ⟨(by decide), ⟨(by decide), trivial⟩⟩, (mac_lt2), trivial, (by decide)⟩ (aC ⟨(by decide), (by decide)⟩ (aC ⟨(by decide), (by decide)⟩ (aC ⟨rfl, ⟨(by decide), ⟨((mac_parts hL hP)), trivial⟩⟩, (mac_lt1 hL h2), trivial, (by first | omega | (simp (disch := omega) only [wrapI]; omega))⟩ (aC ⟨trivial, ⟨(by first | omega | (simp (disch := omega) only [wrapI]; omega)), (by first | omega | (simp (disch := omega) only [wrapI]; omega))⟩, (by first | omega | (simp (disch := omega) only [wrapI]; omega)), (by first | omega | (simp (disch := omega) only [wrapI]; omega))⟩ (aC ⟨(by decide), (by decide)⟩ (aC (mac10L_loop w kn key n L cap0 cap1 h0 h1 h2 hl0_0 hkn hn β hP hL ()) (aC ((by rw [pk_long hl0_0 hkn])) (aC ⟨⟨(by decide), (by decide)⟩, (show ((64 : Nat) ≤ (128 : Nat)) from (by decide))⟩ (aC ⟨(by decide), (by decide)⟩ (aC ((by rw [pk_long hl0_0 hkn])) (aC ⟨⟨(by decide), (by decide)⟩, (show ((64 : Nat) ≤ (128 : Nat)) from (by decide))⟩ (aC ⟨(by decide), (by decide)⟩ (aC ⟨(by decide), (by decide)⟩ (aC ((by first | rw [sum_key hl0_0 h0] | exact congrArg (fun z => (some (⟨true, [.ints .u8 64 z]⟩ : Blk) : Option Blk)) (sum_key hl0_0 h0))) (aC ⟨⟨(by first | omega | (simp (disch := omega) only [wrapI]; omega)), trivial⟩, ⟨rfl, (by first | omega | (simp (disch := omega) only [wrapI]; omega))⟩⟩ (aC (decide_eq_true (by first | omega | (simp (disch := omega) only [wrapI]; omega))) (AllP_nil)))))))))))))))))))

end Go.Proofs.Ytlmdhjojinkdbaa.X

/- The keyed digest's contract, for whatever list of parts. -/
namespace Go.Proofs.Ytlmdhjojinkdbaa.X
open Go Go.Proofs
set_option linter.unusedVariables false
set_option maxRecDepth 100000

theorem mac_body (w : World) (kn : Nat) (key : List Int) (n : Nat) (L : List Value) (cap0 cap1 : Nat) (h0 : kn < 70368744177664) (h1 : n + 1 < 4398046511104) (h2 : (catV w L n).length + 128 < 70368744177664) (β : Env) (hP : PartsOk w L n) (hL : L.length = n) :
    Body Try.prog (tabOf tabDE) Try.f14 ⟨w, [], 2, β⟩ [.o (.a (.sl 0 0 kn cap0)), .o (.a (.sl 1 0 n cap1))] [some ⟨false, [.ints .u8 kn key]⟩, some ⟨false, [.vals n L]⟩] (fun ys _ => ys = [.g [.ints .u8 (64 : Nat) (macD key (catV w L n))]]) := by
  refine Body.lens (c := (Try.f14.body.getD .skip)) rfl fun h => ?_
  have hl := h.lens 0 _ .u8 kn key rfl (by simp)
  by_cases hk : kn ≤ 128
  · rcases Nat.eq_zero_or_pos n with rfl | hn
    · exact mac01_body0 w kn key L cap0 cap1 h0 (by omega) h2 hl hk β hP hL
    · exact mac00_body0 w kn key n L cap0 cap1 h0 h1 h2 hl hk hn β hP hL
  · rcases Nat.eq_zero_or_pos n with rfl | hn
    · exact mac11_body0 w kn key L cap0 cap1 h0 (by omega) h2 hl (by omega) β hP hL
    · exact mac10_body0 w kn key n L cap0 cap1 h0 h1 h2 hl (by omega) hn β hP hL
def gmac (w0 : World) (rw : List Nat) (rest : Gam) : Gam := gparts 14 [.s 1] w0 rw (fun vs args m D => match vs, args with
  | [⟨_, _, _, [.ints .u8 knm key]⟩], [a] => some (knm = lenOfA a ∧ lenOfA a < 70368744177664 ∧ m + 1 < 4398046511104 ∧ D.length + 128 < 70368744177664, .g [.ints .u8 64 (macD key D)])
  | _, _ => none) rest
theorem gmac_ok {rest : Gam} {w0 : World} {rw : List Nat} (hr : GamAt Try.prog rest w0 rw) : GamAt Try.prog (gmac w0 rw rest) w0 rw := gparts_ok tabOkDE Try.func14 Try.call14 hr (by
  intro vs args m D p y h hv
  split at h
  · rename_i j c q knm key a
    simp only [Option.some.injEq, Prod.mk.injEq] at h; obtain ⟨rfl, rfl⟩ := h
    refine ⟨rfl, fun caps cap L w β hL hP hD => ?_⟩
    subst hD
    obtain ⟨rfl, h2, h3, h4⟩ := hv
    exact mac_body w _ key m L _ cap h2 h3 h4 β hP hL
  · simp at h)
end Go.Proofs.Ytlmdhjojinkdbaa.X

/- A generator's state and what it draws, as functions of bytes. -/
namespace Go.Proofs.Ytlmdhjojinkdbaa.X
open Go Go.Proofs
set_option linter.unusedVariables false
set_option maxRecDepth 100000

def st1K (k v D : List Int) : List Int := macD k (v ++ ([0] ++ D))
def st1V (k v D : List Int) : List Int := macD (st1K k v D) v
def st2K (k v D : List Int) : List Int := macD (st1K k v D) (st1V k v D ++ ([1] ++ D))
def st2V (k v D : List Int) : List Int := macD (st2K k v D) (st1V k v D)
def stK (k v D : List Int) : List Int := if D.length = 0 then st1K k v D else st2K k v D
def stV (k v D : List Int) : List Int := if D.length = 0 then st1V k v D else st2V k v D
theorem stK_pos {k v D : List Int} {n : Nat} (hl : D.length = n) (h : n ≠ 0) : stK k v D = st2K k v D := if_neg (by rw [hl]; exact h)
theorem stV_pos {k v D : List Int} {n : Nat} (hl : D.length = n) (h : n ≠ 0) : stV k v D = st2V k v D := if_neg (by rw [hl]; exact h)
theorem in1 {v b : List Int} {n : Nat} {t : Int} (hl : b.length = n) : v ++ ([t] ++ (sub b 0 n ++ [])) = v ++ ([t] ++ b) := by
  rw [sub_all b n (by omega), List.append_nil]
theorem in_lt {v b : List Int} {n : Nat} {t : Int} (hv : v.length = 64) (hl : b.length = n) (h : n < 35184372088832) : (v ++ ([t] ++ (sub b 0 n ++ []))).length < 70368744177664 ∧ (v ++ ([t] ++ (sub b 0 n ++ []))).length + 128 < 70368744177664 := by
  rw [in1 hl]
  simp only [List.length_append, List.length_cons, List.length_nil]
  omega
theorem v_lt {v : List Int} (hv : v.length = 64) : (v ++ []).length < 70368744177664 ∧ (v ++ []).length + 128 < 70368744177664 := by
  rw [List.append_nil]; omega
theorem v0_lt {v : List Int} {t : Int} (hv : v.length = 64) : (v ++ ([t] ++ ([] ++ []))).length < 70368744177664 ∧ (v ++ ([t] ++ ([] ++ []))).length + 128 < 70368744177664 := by
  simp only [List.length_append, List.length_cons, List.length_nil]; omega
/-- the values after so many steps, and all of them behind one another -/
def nxV (k v : List Int) : Nat → List Int
  | 0 => v
  | i + 1 => macD k (nxV k v i)
def nxO (k v : List Int) : Nat → List Int
  | 0 => []
  | i + 1 => nxO k v i ++ nxV k v (i + 1)
theorem nxO_len {k v : List Int} : ∀ i, (nxO k v i).length = 64 * i
  | 0 => rfl
  | i + 1 => by
    show (nxO k v i ++ nxV k v (i + 1)).length = _
    rw [List.length_append, nxO_len i]
    have : (nxV k v (i + 1)).length = 64 := macD_len _ _
    omega
theorem nxO_step2 {k v : List Int} {i m : Nat} (hm : m = 64 * i) : sub (nxO k v i) 0 m ++ macD k (nxV k v i) = nxO k v (i + 1) := by
  rw [sub_all _ _ (by rw [nxO_len]; omega)]; rfl
/-- how many steps n bytes take -/
theorem rnds_ex (N : Int) : ∃ m : Nat, m = (Int.toNat N + 63) / 64 := ⟨_, rfl⟩
noncomputable def rnds (N : Int) : Nat := Classical.choose (rnds_ex N)
theorem rnds_eq (N : Int) : rnds N = (Int.toNat N + 63) / 64 := Classical.choose_spec (rnds_ex N)
theorem rnds_lt {N : Int} {k : Nat} (h : k < rnds N) : 64 * k < Int.toNat N := by rw [rnds_eq] at h; omega
theorem rnds_ge (N : Int) : Int.toNat N ≤ 64 * rnds N := by rw [rnds_eq]; omega

def drE (N d : Int) : Int := if N < 0 then 1 else if 65536 < N then 113 else if 4096 ≤ d then 112 else 0
def drOk (N d : Int) : Bool := decide (0 ≤ N ∧ N ≤ 65536 ∧ d < 4096)
def d1K (k v b : List Int) : List Int := if b.length = 0 then k else stK k v b
def d1V (k v b : List Int) : List Int := if b.length = 0 then v else stV k v b
noncomputable def d2V (N : Int) (k v b : List Int) : List Int := nxV (d1K k v b) (d1V k v b) (rnds N)
noncomputable def drK (N d : Int) (k v b : List Int) : List Int := cond (drOk N d) (stK (d1K k v b) (d2V N k v b) b) k
noncomputable def drV (N d : Int) (k v b : List Int) : List Int := cond (drOk N d) (stV (d1K k v b) (d2V N k v b) b) v
def drD (N d : Int) : Int := cond (drOk N d) (IntKind.i64.wrap (d + 1)) d
def drN (N d : Int) : Nat := cond (drOk N d) (Int.toNat N) 0
noncomputable def drM (N d : Int) : Nat := cond (drOk N d) (64 * rnds N) 0
noncomputable def drO (N d : Int) (k v b : List Int) : List Int := cond (drOk N d) (nxO (d1K k v b) (d1V k v b) (rnds N)) []
noncomputable def drK0 (N d : Int) (k v : List Int) : List Int := drK N d k v []
noncomputable def drV0 (N d : Int) (k v : List Int) : List Int := drV N d k v []
noncomputable def drO0 (N d : Int) (k v : List Int) : List Int := drO N d k v []
theorem dr_ok {N d : Int} (h0 : 0 ≤ N) (h1 : N ≤ 65536) (h2 : d < 4096) : drOk N d = true := decide_eq_true ⟨h0, h1, h2⟩
theorem dr_bad {N d : Int} (h : ¬ (0 ≤ N ∧ N ≤ 65536 ∧ d < 4096)) : drOk N d = false := decide_eq_false h
/-- a new generator's -/
def z64 : List Int := List.replicate 64 0
def o64 : List Int := List.replicate 64 1
def nwK (b : List Int) : List Int := stK z64 o64 b
def nwV (b : List Int) : List Int := stV z64 o64 b
end Go.Proofs.Ytlmdhjojinkdbaa.X

/- Printed by a tool of this session. -/
namespace Go.Proofs.Ytlmdhjojinkdbaa.X
open Go Go.Proofs
set_option linter.unusedVariables false
set_option linter.unusedSimpArgs false
set_option maxRecDepth 100000
theorem teDH_5 : TEOk Try.prog 5 ⟨.int .u8, 1, 1, [.i .u8 (0 : Int)], false⟩ :=
  TEOk.of Try.underlying5 (i := Try.t5) (by kernel_rfl) rfl rfl rfl (by kernel_rfl) (fun h => by cases h) (by kernel_rfl)
theorem teDH_22 : TEOk Try.prog 22 ⟨.slice 5, 1, 24, [.raw (.slice none 0 0)], false⟩ :=
  TEOk.of Try.underlying22 (i := Try.t22) (by kernel_rfl) rfl rfl rfl (by kernel_rfl) (fun h => by cases h) (by kernel_rfl)
theorem teDH_23 : TEOk Try.prog 23 ⟨.slice 22, 1, 24, [.raw (.slice none 0 0)], false⟩ :=
  TEOk.of Try.underlying23 (i := Try.t23) (by kernel_rfl) rfl rfl rfl (by kernel_rfl) (fun h => by cases h) (by kernel_rfl)
theorem teDH_32 : TEOk Try.prog 32 ⟨.array 64 5, 64, 64, [.ints .u8 (64 : Nat) ([0, 0, 0, 0, 0, 0, 0, 0, 0, 0, 0, 0, 0, 0, 0, 0, 0, 0, 0, 0, 0, 0, 0, 0, 0, 0, 0, 0, 0, 0, 0, 0, 0, 0, 0, 0, 0, 0, 0, 0, 0, 0, 0, 0, 0, 0, 0, 0, 0, 0, 0, 0, 0, 0, 0, 0, 0, 0, 0, 0, 0, 0, 0, 0] : List Int)], true⟩ :=
  TEOk.of Try.underlying32 (i := Try.t32) (by kernel_rfl) rfl rfl rfl (by kernel_rfl) (fun _ => Try.eqGuardType32) (by kernel_rfl)
theorem teDH_132 : TEOk Try.prog 132 ⟨Try.t131.desc, 129, 129, [.ints .u8 (64 : Nat) ([0, 0, 0, 0, 0, 0, 0, 0, 0, 0, 0, 0, 0, 0, 0, 0, 0, 0, 0, 0, 0, 0, 0, 0, 0, 0, 0, 0, 0, 0, 0, 0, 0, 0, 0, 0, 0, 0, 0, 0, 0, 0, 0, 0, 0, 0, 0, 0, 0, 0, 0, 0, 0, 0, 0, 0, 0, 0, 0, 0, 0, 0, 0, 0] : List Int), .ints .u8 (64 : Nat) ([0, 0, 0, 0, 0, 0, 0, 0, 0, 0, 0, 0, 0, 0, 0, 0, 0, 0, 0, 0, 0, 0, 0, 0, 0, 0, 0, 0, 0, 0, 0, 0, 0, 0, 0, 0, 0, 0, 0, 0, 0, 0, 0, 0, 0, 0, 0, 0, 0, 0, 0, 0, 0, 0, 0, 0, 0, 0, 0, 0, 0, 0, 0, 0] : List Int), .b false], false⟩ :=
  TEOk.of Try.underlying132 (i := Try.t132) (by kernel_rfl) rfl rfl rfl (by kernel_rfl) (fun h => by cases h) (by kernel_rfl)
noncomputable def tabDH : List (Nat × TE) := [(5, ⟨.int .u8, 1, 1, [.i .u8 (0 : Int)], false⟩), (22, ⟨.slice 5, 1, 24, [.raw (.slice none 0 0)], false⟩), (23, ⟨.slice 22, 1, 24, [.raw (.slice none 0 0)], false⟩), (32, ⟨.array 64 5, 64, 64, [.ints .u8 (64 : Nat) ([0, 0, 0, 0, 0, 0, 0, 0, 0, 0, 0, 0, 0, 0, 0, 0, 0, 0, 0, 0, 0, 0, 0, 0, 0, 0, 0, 0, 0, 0, 0, 0, 0, 0, 0, 0, 0, 0, 0, 0, 0, 0, 0, 0, 0, 0, 0, 0, 0, 0, 0, 0, 0, 0, 0, 0, 0, 0, 0, 0, 0, 0, 0, 0] : List Int)], true⟩), (132, ⟨Try.t131.desc, 129, 129, [.ints .u8 (64 : Nat) ([0, 0, 0, 0, 0, 0, 0, 0, 0, 0, 0, 0, 0, 0, 0, 0, 0, 0, 0, 0, 0, 0, 0, 0, 0, 0, 0, 0, 0, 0, 0, 0, 0, 0, 0, 0, 0, 0, 0, 0, 0, 0, 0, 0, 0, 0, 0, 0, 0, 0, 0, 0, 0, 0, 0, 0, 0, 0, 0, 0, 0, 0, 0, 0] : List Int), .ints .u8 (64 : Nat) ([0, 0, 0, 0, 0, 0, 0, 0, 0, 0, 0, 0, 0, 0, 0, 0, 0, 0, 0, 0, 0, 0, 0, 0, 0, 0, 0, 0, 0, 0, 0, 0, 0, 0, 0, 0, 0, 0, 0, 0, 0, 0, 0, 0, 0, 0, 0, 0, 0, 0, 0, 0, 0, 0, 0, 0, 0, 0, 0, 0, 0, 0, 0, 0] : List Int), .b false], false⟩)]
theorem tabOkDH : TabOk Try.prog (tabOf tabDH) := (tabOf_cons teDH_5 (tabOf_cons teDH_22 (tabOf_cons teDH_23 (tabOf_cons teDH_32 (tabOf_cons teDH_132 tabOf_nil)))))

set_option maxHeartbeats 1000000 in
theorem stir3_body0 (ky v : List Int) (d : Int) (n cp2 : Nat) (b : List Int) (cp : Nat) (h0 : (n < (35184372088832 : Nat))) (h1 : ((32 : Nat) ≤ n)) (hl0_0 : List.length ky = (64 : Nat)) (hl0_1 : List.length v = (64 : Nat)) (hl2_0 : List.length b = n) (w : World) (rw : List Nat) (β : Env) : Body Try.prog (tabOf tabDH) Try.f56 ⟨w, rw, 3, β⟩ [.o (.a (.p 0 0)), .o (.a (.sl 1 0 (3 : Nat) cp))] [some ⟨true, [.ints .u8 (64 : Nat) ky, .ints .u8 (64 : Nat) v, .b true, .i .i64 d]⟩, some ⟨false, [.sl 2 0 n cp2, .raw (.slice none 0 0), .raw (.slice none 0 0)]⟩, some ⟨false, [.ints .u8 n b]⟩] (fun ys K' => ys = [] ∧ K' = [some ⟨true, [.ints .u8 (64 : Nat) (stK ky v b), .ints .u8 (64 : Nat) (stV ky v b), .b true, .i .i64 d]⟩, some ⟨false, [.sl 2 0 n cp2, .raw (.slice none 0 0), .raw (.slice none 0 0)]⟩, some ⟨false, [.ints .u8 n b]⟩]) :=
  Body.of_finKAt (Γ := (gmac w rw (gjoin w rw gam17))) (Λ := noLam) (Ψ := psiIf [(10, some (7, 0), [.eqB 0 (⟨true, [.ints .u8 (64 : Nat) (st1K ky v b), .ints .u8 (64 : Nat) v, .b true, .i .i64 d]⟩)]), (11, some (7, 0), [.eqB 0 (⟨true, [.ints .u8 (64 : Nat) (st1K ky v b), .ints .u8 (64 : Nat) (st1V ky v b), .b true, .i .i64 d]⟩)]), (10, some (7, 1), [.eqB 0 (⟨true, [.ints .u8 (64 : Nat) (st2K ky v b), .ints .u8 (64 : Nat) (st1V ky v b), .b true, .i .i64 d]⟩)]), (11, some (7, 1), [.eqB 0 (⟨true, [.ints .u8 (64 : Nat) (st2K ky v b), .ints .u8 (64 : Nat) (st2V ky v b), .b true, .i .i64 d]⟩)])]) (fuel := 4) (m := 59) (c := (Try.f56.body.getD .skip)) mix tabOkDH (gmac_ok (gjoin_ok (gam17_ok.at _ _))) rfl (rs := []) rfl rfl [true, true, true, false, true, false, false, false, false, false, true, true, true, true, false, false, false] [.eqB 0 (⟨true, [.ints .u8 (64 : Nat) (stK ky v b), .ints .u8 (64 : Nat) (stV ky v b), .b true, .i .i64 d]⟩)] 3
    (vc := [((some ⟨true, [.ints .u8 (64 : Nat) (st2K ky v b), .ints .u8 (64 : Nat) (st2V ky v b), .b true, .i .i64 d]⟩ : Option Blk) = some ⟨true, [.ints .u8 (64 : Nat) (stK ky v b), .ints .u8 (64 : Nat) (stV ky v b), .b true, .i .i64 d]⟩), (false = false), ((some ⟨true, [.ints .u8 (64 : Nat) (st2K ky v b), .ints .u8 (64 : Nat) (macD (st2K ky v b) ((st1V ky v b) ++ ([] : List Int))), .b true, .i .i64 d]⟩ : Option Blk) = some ⟨true, [.ints .u8 (64 : Nat) (st2K ky v b), .ints .u8 (64 : Nat) (st2V ky v b), .b true, .i .i64 d]⟩), (((1 : Nat) = (1 : Nat)) ∧ (True ∧ True) ∧ ((List.length ((st1V ky v b) ++ ([] : List Int))) < (70368744177664 : Nat)) ∧ (True ∧ True) ∧ (((64 : Nat) = (64 : Nat)) ∧ ((64 : Nat) < (70368744177664 : Nat)) ∧ ((2 : Nat) < (4398046511104 : Nat)) ∧ (((List.length ((st1V ky v b) ++ ([] : List Int))) + (128 : Nat)) < (70368744177664 : Nat)))), (((0 : Int) ≤ (0 : Int)) ∧ ((0 : Int) ≤ (64 : Int))), (((0 : Int) ≤ (0 : Int)) ∧ ((0 : Int) ≤ (64 : Int))), ((some ⟨true, [.ints .u8 (64 : Nat) (macD (st1K ky v b) ((st1V ky v b) ++ (([1] : List Int) ++ ((sub b 0 n) ++ ([] : List Int))))), .ints .u8 (64 : Nat) (st1V ky v b), .b true, .i .i64 d]⟩ : Option Blk) = some ⟨true, [.ints .u8 (64 : Nat) (st2K ky v b), .ints .u8 (64 : Nat) (st1V ky v b), .b true, .i .i64 d]⟩), (((5 : Nat) = (5 : Nat)) ∧ (True ∧ (((1 : Nat) ≤ (1 : Nat)) ∧ ((((0 : Nat) + n) ≤ n) ∧ (True ∧ (True ∧ True))))) ∧ ((List.length ((st1V ky v b) ++ (([1] : List Int) ++ ((sub b 0 n) ++ ([] : List Int))))) < (70368744177664 : Nat)) ∧ (True ∧ True) ∧ (((64 : Nat) = (64 : Nat)) ∧ ((64 : Nat) < (70368744177664 : Nat)) ∧ ((6 : Nat) < (4398046511104 : Nat)) ∧ (((List.length ((st1V ky v b) ++ (([1] : List Int) ++ ((sub b 0 n) ++ ([] : List Int))))) + (128 : Nat)) < (70368744177664 : Nat)))), (True ∧ (((3 : Nat) ≤ (3 : Nat)) ∧ True) ∧ ((2 : Nat) < (5 : Nat)) ∧ ((120 : Nat) ≤ (140737488355328 : Nat))), (((0 : Int) ≤ (0 : Int)) ∧ ((0 : Int) ≤ (64 : Int))), (((0 : Int) ≤ (0 : Int)) ∧ ((0 : Int) ≤ (64 : Int))), (((IntKind.i64.wrap ((IntKind.i64.wrap ((IntKind.i64.wrap ((0 : Int) + ((n : Nat) : Int))) + (0 : Int))) + (0 : Int))) == (0 : Int)) = false), (true = true), (true = true), (true = true), (true = true), ((some ⟨true, [.ints .u8 (64 : Nat) (st1K ky v b), .ints .u8 (64 : Nat) (macD (st1K ky v b) (v ++ ([] : List Int))), .b true, .i .i64 d]⟩ : Option Blk) = some ⟨true, [.ints .u8 (64 : Nat) (st1K ky v b), .ints .u8 (64 : Nat) (st1V ky v b), .b true, .i .i64 d]⟩), (((1 : Nat) = (1 : Nat)) ∧ (True ∧ True) ∧ ((List.length (v ++ ([] : List Int))) < (70368744177664 : Nat)) ∧ (True ∧ True) ∧ (((64 : Nat) = (64 : Nat)) ∧ ((64 : Nat) < (70368744177664 : Nat)) ∧ ((2 : Nat) < (4398046511104 : Nat)) ∧ (((List.length (v ++ ([] : List Int))) + (128 : Nat)) < (70368744177664 : Nat)))), (((0 : Int) ≤ (0 : Int)) ∧ ((0 : Int) ≤ (64 : Int))), (((0 : Int) ≤ (0 : Int)) ∧ ((0 : Int) ≤ (64 : Int))), ((some ⟨true, [.ints .u8 (64 : Nat) (macD ky (v ++ (([0] : List Int) ++ ((sub b 0 n) ++ ([] : List Int))))), .ints .u8 (64 : Nat) v, .b true, .i .i64 d]⟩ : Option Blk) = some ⟨true, [.ints .u8 (64 : Nat) (st1K ky v b), .ints .u8 (64 : Nat) v, .b true, .i .i64 d]⟩), (((5 : Nat) = (5 : Nat)) ∧ (True ∧ (((1 : Nat) ≤ (1 : Nat)) ∧ ((((0 : Nat) + n) ≤ n) ∧ (True ∧ (True ∧ True))))) ∧ ((List.length (v ++ (([0] : List Int) ++ ((sub b 0 n) ++ ([] : List Int))))) < (70368744177664 : Nat)) ∧ (True ∧ True) ∧ (((64 : Nat) = (64 : Nat)) ∧ ((64 : Nat) < (70368744177664 : Nat)) ∧ ((6 : Nat) < (4398046511104 : Nat)) ∧ (((List.length (v ++ (([0] : List Int) ++ ((sub b 0 n) ++ ([] : List Int))))) + (128 : Nat)) < (70368744177664 : Nat)))), (True ∧ (((3 : Nat) ≤ (3 : Nat)) ∧ True) ∧ ((2 : Nat) < (5 : Nat)) ∧ ((120 : Nat) ≤ (140737488355328 : Nat))), (((0 : Int) ≤ (0 : Int)) ∧ ((0 : Int) ≤ (64 : Int))), (((0 : Int) ≤ (0 : Int)) ∧ ((0 : Int) ≤ (64 : Int))), (false = false), (false = false), (false = false), (false = false), (true = true), (false = false), (((0 : Int) ≤ (2 : Int)) ∧ ((2 : Int) < (3 : Int))), (true = true), (((0 : Int) ≤ (1 : Int)) ∧ ((1 : Int) < (3 : Int))), (true = true), (((0 : Int) ≤ (0 : Int)) ∧ ((0 : Int) < (3 : Int))), (true = true)]) (by kernel_rfl)
    (aC ((by rw [stK_pos hl2_0 (by omega), stV_pos hl2_0 (by omega)])) (aC rfl (aC ((by rw [List.append_nil]; rfl)) (aC ⟨rfl, ⟨trivial, trivial⟩, (v_lt (macD_len _ _)).1, ⟨trivial, trivial⟩, ⟨rfl, (by decide), (by decide), (v_lt (macD_len _ _)).2⟩⟩ (aC ⟨(by decide), (by decide)⟩ (aC ⟨(by decide), (by decide)⟩ (aC ((by rw [in1 hl2_0]; rfl)) (aC ⟨rfl, ⟨trivial, ⟨(by decide), ⟨(by first | omega | (simp (disch := omega) only [wrapI]; omega)), ⟨trivial, ⟨trivial, trivial⟩⟩⟩⟩⟩, (in_lt (macD_len _ _) hl2_0 (by omega)).1, ⟨trivial, trivial⟩, ⟨rfl, (by decide), (by decide), (in_lt (macD_len _ _) hl2_0 (by omega)).2⟩⟩ (aC ⟨trivial, ⟨(by decide), trivial⟩, (by decide), (by decide)⟩ (aC ⟨(by decide), (by decide)⟩ (aC ⟨(by decide), (by decide)⟩ (aC (beq_eq_false_iff_ne.2 (by first | omega | (simp (disch := omega) only [wrapI]; omega))) (aC rfl (aC rfl (aC rfl (aC rfl (aC ((by rw [List.append_nil]; rfl)) (aC ⟨rfl, ⟨trivial, trivial⟩, (v_lt hl0_1).1, ⟨trivial, trivial⟩, ⟨rfl, (by decide), (by decide), (v_lt hl0_1).2⟩⟩ (aC ⟨(by decide), (by decide)⟩ (aC ⟨(by decide), (by decide)⟩ (aC ((by rw [in1 hl2_0]; rfl)) (aC ⟨rfl, ⟨trivial, ⟨(by decide), ⟨(by first | omega | (simp (disch := omega) only [wrapI]; omega)), ⟨trivial, ⟨trivial, trivial⟩⟩⟩⟩⟩, (in_lt hl0_1 hl2_0 (by omega)).1, ⟨trivial, trivial⟩, ⟨rfl, (by decide), (by decide), (in_lt hl0_1 hl2_0 (by omega)).2⟩⟩ (aC ⟨trivial, ⟨(by decide), trivial⟩, (by decide), (by decide)⟩ (aC ⟨(by decide), (by decide)⟩ (aC ⟨(by decide), (by decide)⟩ (aC rfl (aC rfl (aC rfl (aC rfl (aC rfl (aC rfl (aC ⟨(by decide), (by decide)⟩ (aC rfl (aC ⟨(by decide), (by decide)⟩ (aC rfl (aC ⟨(by decide), (by decide)⟩ (aC rfl (AllP_nil))))))))))))))))))))))))))))))))))))))

theorem stir3_body (ky v : List Int) (d : Int) (n cp2 : Nat) (b : List Int) (cp : Nat) (h0 : (n < (35184372088832 : Nat))) (h1 : ((32 : Nat) ≤ n)) (w : World) (rw : List Nat) (β : Env) : Body Try.prog (tabOf tabDH) Try.f56 ⟨w, rw, 3, β⟩ [.o (.a (.p 0 0)), .o (.a (.sl 1 0 (3 : Nat) cp))] [some ⟨true, [.ints .u8 (64 : Nat) ky, .ints .u8 (64 : Nat) v, .b true, .i .i64 d]⟩, some ⟨false, [.sl 2 0 n cp2, .raw (.slice none 0 0), .raw (.slice none 0 0)]⟩, some ⟨false, [.ints .u8 n b]⟩] (fun ys K' => ys = [] ∧ K' = [some ⟨true, [.ints .u8 (64 : Nat) (stK ky v b), .ints .u8 (64 : Nat) (stV ky v b), .b true, .i .i64 d]⟩, some ⟨false, [.sl 2 0 n cp2, .raw (.slice none 0 0), .raw (.slice none 0 0)]⟩, some ⟨false, [.ints .u8 n b]⟩]) :=
  Body.lens (c := (Try.f56.body.getD .skip)) rfl fun h => stir3_body0 ky v d n cp2 b cp h0 h1 (h.lens 0 _ .u8 (64 : Nat) ky rfl (by simp)) (h.lens 0 _ .u8 (64 : Nat) v rfl (by simp)) (h.lens 2 _ .u8 n b rfl (by simp)) w rw β

def stir0 (ky v : List Int) : List Int :=
  (stK ky v ([] : List Int))

def stir0_1 (ky v : List Int) : List Int :=
  (stV ky v ([] : List Int))

set_option maxHeartbeats 1000000 in
theorem stir0_body0 (ky v : List Int) (d : Int) (cp : Nat) (hl0_0 : List.length ky = (64 : Nat)) (hl0_1 : List.length v = (64 : Nat)) (w : World) (rw : List Nat) (β : Env) : Body Try.prog (tabOf tabDH) Try.f56 ⟨w, rw, 2, β⟩ [.o (.a (.p 0 0)), .o (.a (.sl 1 0 (1 : Nat) cp))] [some ⟨true, [.ints .u8 (64 : Nat) ky, .ints .u8 (64 : Nat) v, .b true, .i .i64 d]⟩, some ⟨false, [.raw (.slice none 0 0)]⟩] (fun ys K' => ys = [] ∧ K' = [some ⟨true, [.ints .u8 (64 : Nat) (stir0 ky v), .ints .u8 (64 : Nat) (stir0_1 ky v), .b true, .i .i64 d]⟩, some ⟨false, [.raw (.slice none 0 0)]⟩]) :=
  Body.of_finKAt (Γ := (gmac w rw (gjoin w rw gam17))) (Λ := noLam) (Ψ := psiIf [(10, some (7, 0), [.eqB 0 (⟨true, [.ints .u8 (64 : Nat) (st1K ky v ([] : List Int)), .ints .u8 (64 : Nat) v, .b true, .i .i64 d]⟩)]), (11, some (7, 0), [.eqB 0 (⟨true, [.ints .u8 (64 : Nat) (st1K ky v ([] : List Int)), .ints .u8 (64 : Nat) (st1V ky v ([] : List Int)), .b true, .i .i64 d]⟩)])]) (fuel := 2) (m := 59) (c := (Try.f56.body.getD .skip)) mix tabOkDH (gmac_ok (gjoin_ok (gam17_ok.at _ _))) rfl (rs := []) rfl rfl [true, false, true, false, false, false, false, false, true, true, true, true, true] [.eqB 0 (⟨true, [.ints .u8 (64 : Nat) (stK ky v ([] : List Int)), .ints .u8 (64 : Nat) (stV ky v ([] : List Int)), .b true, .i .i64 d]⟩)] 2
    (vc := [((some ⟨true, [.ints .u8 (64 : Nat) (st1K ky v ([] : List Int)), .ints .u8 (64 : Nat) (st1V ky v ([] : List Int)), .b true, .i .i64 d]⟩ : Option Blk) = some ⟨true, [.ints .u8 (64 : Nat) (stK ky v ([] : List Int)), .ints .u8 (64 : Nat) (stV ky v ([] : List Int)), .b true, .i .i64 d]⟩), (true = true), (true = true), (true = true), (true = true), (true = true), ((some ⟨true, [.ints .u8 (64 : Nat) (st1K ky v ([] : List Int)), .ints .u8 (64 : Nat) (macD (st1K ky v ([] : List Int)) (v ++ ([] : List Int))), .b true, .i .i64 d]⟩ : Option Blk) = some ⟨true, [.ints .u8 (64 : Nat) (st1K ky v ([] : List Int)), .ints .u8 (64 : Nat) (st1V ky v ([] : List Int)), .b true, .i .i64 d]⟩), (((1 : Nat) = (1 : Nat)) ∧ (True ∧ True) ∧ ((List.length (v ++ ([] : List Int))) < (70368744177664 : Nat)) ∧ (True ∧ True) ∧ (((64 : Nat) = (64 : Nat)) ∧ ((64 : Nat) < (70368744177664 : Nat)) ∧ ((2 : Nat) < (4398046511104 : Nat)) ∧ (((List.length (v ++ ([] : List Int))) + (128 : Nat)) < (70368744177664 : Nat)))), (((0 : Int) ≤ (0 : Int)) ∧ ((0 : Int) ≤ (64 : Int))), (((0 : Int) ≤ (0 : Int)) ∧ ((0 : Int) ≤ (64 : Int))), ((some ⟨true, [.ints .u8 (64 : Nat) (macD ky (v ++ ([0] : List Int))), .ints .u8 (64 : Nat) v, .b true, .i .i64 d]⟩ : Option Blk) = some ⟨true, [.ints .u8 (64 : Nat) (st1K ky v ([] : List Int)), .ints .u8 (64 : Nat) v, .b true, .i .i64 d]⟩), (((3 : Nat) = (3 : Nat)) ∧ (True ∧ (((1 : Nat) ≤ (1 : Nat)) ∧ (True ∧ True))) ∧ ((List.length (v ++ ([0] : List Int))) < (70368744177664 : Nat)) ∧ (True ∧ True) ∧ (((64 : Nat) = (64 : Nat)) ∧ ((64 : Nat) < (70368744177664 : Nat)) ∧ ((4 : Nat) < (4398046511104 : Nat)) ∧ (((List.length (v ++ ([0] : List Int))) + (128 : Nat)) < (70368744177664 : Nat)))), (True ∧ (((1 : Nat) ≤ (1 : Nat)) ∧ True) ∧ ((2 : Nat) < (3 : Nat)) ∧ ((72 : Nat) ≤ (140737488355328 : Nat))), (((0 : Int) ≤ (0 : Int)) ∧ ((0 : Int) ≤ (64 : Int))), (((0 : Int) ≤ (0 : Int)) ∧ ((0 : Int) ≤ (64 : Int))), (false = false), (false = false), (false = false), (false = false), (true = true), (false = false), (((0 : Int) ≤ (0 : Int)) ∧ ((0 : Int) < (1 : Int))), (true = true)]) (by kernel_rfl)
    (aC (rfl) (aC rfl (aC rfl (aC rfl (aC rfl (aC rfl (aC ((by rw [List.append_nil]; rfl)) (aC ⟨rfl, ⟨trivial, trivial⟩, (v_lt hl0_1).1, ⟨trivial, trivial⟩, ⟨rfl, (by decide), (by decide), (v_lt hl0_1).2⟩⟩ (aC ⟨(by decide), (by decide)⟩ (aC ⟨(by decide), (by decide)⟩ (aC (rfl) (aC ⟨rfl, ⟨trivial, ⟨(by decide), ⟨trivial, trivial⟩⟩⟩, (v0_lt hl0_1).1, ⟨trivial, trivial⟩, ⟨rfl, (by decide), (by decide), (v0_lt hl0_1).2⟩⟩ (aC ⟨trivial, ⟨(by decide), trivial⟩, (by decide), (by decide)⟩ (aC ⟨(by decide), (by decide)⟩ (aC ⟨(by decide), (by decide)⟩ (aC rfl (aC rfl (aC rfl (aC rfl (aC rfl (aC rfl (aC ⟨(by decide), (by decide)⟩ (aC rfl (AllP_nil))))))))))))))))))))))))

theorem stir0_body (ky v : List Int) (d : Int) (cp : Nat) (w : World) (rw : List Nat) (β : Env) : Body Try.prog (tabOf tabDH) Try.f56 ⟨w, rw, 2, β⟩ [.o (.a (.p 0 0)), .o (.a (.sl 1 0 (1 : Nat) cp))] [some ⟨true, [.ints .u8 (64 : Nat) ky, .ints .u8 (64 : Nat) v, .b true, .i .i64 d]⟩, some ⟨false, [.raw (.slice none 0 0)]⟩] (fun ys K' => ys = [] ∧ K' = [some ⟨true, [.ints .u8 (64 : Nat) (stir0 ky v), .ints .u8 (64 : Nat) (stir0_1 ky v), .b true, .i .i64 d]⟩, some ⟨false, [.raw (.slice none 0 0)]⟩]) :=
  Body.lens (c := (Try.f56.body.getD .skip)) rfl fun h => stir0_body0 ky v d cp (h.lens 0 _ .u8 (64 : Nat) ky rfl (by simp)) (h.lens 0 _ .u8 (64 : Nat) v rfl (by simp)) w rw β

set_option maxHeartbeats 1000000 in
theorem next_body0 (ky v : List Int) (d : Int) (hl0_0 : List.length ky = (64 : Nat)) (hl0_1 : List.length v = (64 : Nat)) (w : World) (rw : List Nat) (β : Env) : Body Try.prog (tabOf tabDH) Try.f57 ⟨w, rw, 1, β⟩ [.o (.a (.p 0 0))] [some ⟨true, [.ints .u8 (64 : Nat) ky, .ints .u8 (64 : Nat) v, .b true, .i .i64 d]⟩] (fun ys K' => ys = [.a (.sl 0 (64 : Nat) (64 : Nat) (64 : Nat))] ∧ K' = [some ⟨true, [.ints .u8 (64 : Nat) ky, .ints .u8 (64 : Nat) (macD ky v), .b true, .i .i64 d]⟩]) :=
  Body.of_finKAt (Γ := (gmac w rw (gjoin w rw gam17))) (Λ := noLam) (Ψ := noPsi) (fuel := 0) (m := 20) (c := (Try.f57.body.getD .skip)) mix tabOkDH (gmac_ok (gjoin_ok (gam17_ok.at _ _))) rfl (rs := [.tmp 2]) rfl rfl [] [.eqB 0 (⟨true, [.ints .u8 (64 : Nat) ky, .ints .u8 (64 : Nat) (macD ky v), .b true, .i .i64 d]⟩)] 1
    (vc := [((some ⟨true, [.ints .u8 (64 : Nat) ky, .ints .u8 (64 : Nat) (macD ky (v ++ ([] : List Int))), .b true, .i .i64 d]⟩ : Option Blk) = some ⟨true, [.ints .u8 (64 : Nat) ky, .ints .u8 (64 : Nat) (macD ky v), .b true, .i .i64 d]⟩), (((0 : Int) ≤ (0 : Int)) ∧ ((0 : Int) ≤ (64 : Int))), (((1 : Nat) = (1 : Nat)) ∧ (True ∧ True) ∧ ((List.length (v ++ ([] : List Int))) < (70368744177664 : Nat)) ∧ (True ∧ True) ∧ (((64 : Nat) = (64 : Nat)) ∧ ((64 : Nat) < (70368744177664 : Nat)) ∧ ((2 : Nat) < (4398046511104 : Nat)) ∧ (((List.length (v ++ ([] : List Int))) + (128 : Nat)) < (70368744177664 : Nat)))), (((0 : Int) ≤ (0 : Int)) ∧ ((0 : Int) ≤ (64 : Int))), (((0 : Int) ≤ (0 : Int)) ∧ ((0 : Int) ≤ (64 : Int)))]) (by kernel_rfl)
    (aC ((by rw [List.append_nil])) (aC ⟨(by decide), (by decide)⟩ (aC ⟨rfl, ⟨trivial, trivial⟩, (v_lt hl0_1).1, ⟨trivial, trivial⟩, ⟨rfl, (by decide), (by decide), (v_lt hl0_1).2⟩⟩ (aC ⟨(by decide), (by decide)⟩ (aC ⟨(by decide), (by decide)⟩ (AllP_nil))))))

theorem next_body (ky v : List Int) (d : Int) (w : World) (rw : List Nat) (β : Env) : Body Try.prog (tabOf tabDH) Try.f57 ⟨w, rw, 1, β⟩ [.o (.a (.p 0 0))] [some ⟨true, [.ints .u8 (64 : Nat) ky, .ints .u8 (64 : Nat) v, .b true, .i .i64 d]⟩] (fun ys K' => ys = [.a (.sl 0 (64 : Nat) (64 : Nat) (64 : Nat))] ∧ K' = [some ⟨true, [.ints .u8 (64 : Nat) ky, .ints .u8 (64 : Nat) (macD ky v), .b true, .i .i64 d]⟩]) :=
  Body.lens (c := (Try.f57.body.getD .skip)) rfl fun h => next_body0 ky v d (h.lens 0 _ .u8 (64 : Nat) ky rfl (by simp)) (h.lens 0 _ .u8 (64 : Nat) v rfl (by simp)) w rw β

end Go.Proofs.Ytlmdhjojinkdbaa.X

/- Printed by a tool of this session. -/
namespace Go.Proofs.Ytlmdhjojinkdbaa.X
open Go Go.Proofs
set_option linter.unusedVariables false
set_option linter.unusedSimpArgs false
set_option maxRecDepth 100000
theorem teDI_3 : TEOk Try.prog 3 ⟨.int .i64, 1, 8, [.i .i64 (0 : Int)], false⟩ :=
  TEOk.of Try.underlying3 (i := Try.t3) (by kernel_rfl) rfl rfl rfl (by kernel_rfl) (fun h => by cases h) (by kernel_rfl)
theorem teDI_4 : TEOk Try.prog 4 ⟨.bool, 1, 1, [.b false], false⟩ :=
  TEOk.of Try.underlying4 (i := Try.t4) (by kernel_rfl) rfl rfl rfl (by kernel_rfl) (fun h => by cases h) (by kernel_rfl)
theorem teDI_5 : TEOk Try.prog 5 ⟨.int .u8, 1, 1, [.i .u8 (0 : Int)], false⟩ :=
  TEOk.of Try.underlying5 (i := Try.t5) (by kernel_rfl) rfl rfl rfl (by kernel_rfl) (fun h => by cases h) (by kernel_rfl)
theorem teDI_22 : TEOk Try.prog 22 ⟨.slice 5, 1, 24, [.raw (.slice none 0 0)], false⟩ :=
  TEOk.of Try.underlying22 (i := Try.t22) (by kernel_rfl) rfl rfl rfl (by kernel_rfl) (fun h => by cases h) (by kernel_rfl)
theorem teDI_23 : TEOk Try.prog 23 ⟨.slice 22, 1, 24, [.raw (.slice none 0 0)], false⟩ :=
  TEOk.of Try.underlying23 (i := Try.t23) (by kernel_rfl) rfl rfl rfl (by kernel_rfl) (fun h => by cases h) (by kernel_rfl)
theorem teDI_32 : TEOk Try.prog 32 ⟨.array 64 5, 64, 64, [.ints .u8 (64 : Nat) ([0, 0, 0, 0, 0, 0, 0, 0, 0, 0, 0, 0, 0, 0, 0, 0, 0, 0, 0, 0, 0, 0, 0, 0, 0, 0, 0, 0, 0, 0, 0, 0, 0, 0, 0, 0, 0, 0, 0, 0, 0, 0, 0, 0, 0, 0, 0, 0, 0, 0, 0, 0, 0, 0, 0, 0, 0, 0, 0, 0, 0, 0, 0, 0] : List Int)], true⟩ :=
  TEOk.of Try.underlying32 (i := Try.t32) (by kernel_rfl) rfl rfl rfl (by kernel_rfl) (fun _ => Try.eqGuardType32) (by kernel_rfl)
theorem teDI_57 : TEOk Try.prog 57 ⟨.pointer 134, 1, 8, [.raw (.pointer none)], false⟩ :=
  TEOk.of Try.underlying57 (i := Try.t57) (by kernel_rfl) rfl rfl rfl (by kernel_rfl) (fun h => by cases h) (by kernel_rfl)
theorem teDI_132 : TEOk Try.prog 132 ⟨Try.t131.desc, 129, 129, [.ints .u8 (64 : Nat) ([0, 0, 0, 0, 0, 0, 0, 0, 0, 0, 0, 0, 0, 0, 0, 0, 0, 0, 0, 0, 0, 0, 0, 0, 0, 0, 0, 0, 0, 0, 0, 0, 0, 0, 0, 0, 0, 0, 0, 0, 0, 0, 0, 0, 0, 0, 0, 0, 0, 0, 0, 0, 0, 0, 0, 0, 0, 0, 0, 0, 0, 0, 0, 0] : List Int), .ints .u8 (64 : Nat) ([0, 0, 0, 0, 0, 0, 0, 0, 0, 0, 0, 0, 0, 0, 0, 0, 0, 0, 0, 0, 0, 0, 0, 0, 0, 0, 0, 0, 0, 0, 0, 0, 0, 0, 0, 0, 0, 0, 0, 0, 0, 0, 0, 0, 0, 0, 0, 0, 0, 0, 0, 0, 0, 0, 0, 0, 0, 0, 0, 0, 0, 0, 0, 0] : List Int), .b false], false⟩ :=
  TEOk.of Try.underlying132 (i := Try.t132) (by kernel_rfl) rfl rfl rfl (by kernel_rfl) (fun h => by cases h) (by kernel_rfl)
theorem teDI_134 : TEOk Try.prog 134 ⟨Try.t133.desc, 130, 144, [.ints .u8 (64 : Nat) ([0, 0, 0, 0, 0, 0, 0, 0, 0, 0, 0, 0, 0, 0, 0, 0, 0, 0, 0, 0, 0, 0, 0, 0, 0, 0, 0, 0, 0, 0, 0, 0, 0, 0, 0, 0, 0, 0, 0, 0, 0, 0, 0, 0, 0, 0, 0, 0, 0, 0, 0, 0, 0, 0, 0, 0, 0, 0, 0, 0, 0, 0, 0, 0] : List Int), .ints .u8 (64 : Nat) ([0, 0, 0, 0, 0, 0, 0, 0, 0, 0, 0, 0, 0, 0, 0, 0, 0, 0, 0, 0, 0, 0, 0, 0, 0, 0, 0, 0, 0, 0, 0, 0, 0, 0, 0, 0, 0, 0, 0, 0, 0, 0, 0, 0, 0, 0, 0, 0, 0, 0, 0, 0, 0, 0, 0, 0, 0, 0, 0, 0, 0, 0, 0, 0] : List Int), .b false, .i .i64 (0 : Int)], false⟩ :=
  TEOk.of Try.underlying134 (i := Try.t134) (by kernel_rfl) rfl rfl rfl (by kernel_rfl) (fun h => by cases h) (by kernel_rfl)
noncomputable def tabDI : List (Nat × TE) := [(3, ⟨.int .i64, 1, 8, [.i .i64 (0 : Int)], false⟩), (4, ⟨.bool, 1, 1, [.b false], false⟩), (5, ⟨.int .u8, 1, 1, [.i .u8 (0 : Int)], false⟩), (22, ⟨.slice 5, 1, 24, [.raw (.slice none 0 0)], false⟩), (23, ⟨.slice 22, 1, 24, [.raw (.slice none 0 0)], false⟩), (32, ⟨.array 64 5, 64, 64, [.ints .u8 (64 : Nat) ([0, 0, 0, 0, 0, 0, 0, 0, 0, 0, 0, 0, 0, 0, 0, 0, 0, 0, 0, 0, 0, 0, 0, 0, 0, 0, 0, 0, 0, 0, 0, 0, 0, 0, 0, 0, 0, 0, 0, 0, 0, 0, 0, 0, 0, 0, 0, 0, 0, 0, 0, 0, 0, 0, 0, 0, 0, 0, 0, 0, 0, 0, 0, 0] : List Int)], true⟩), (57, ⟨.pointer 134, 1, 8, [.raw (.pointer none)], false⟩), (132, ⟨Try.t131.desc, 129, 129, [.ints .u8 (64 : Nat) ([0, 0, 0, 0, 0, 0, 0, 0, 0, 0, 0, 0, 0, 0, 0, 0, 0, 0, 0, 0, 0, 0, 0, 0, 0, 0, 0, 0, 0, 0, 0, 0, 0, 0, 0, 0, 0, 0, 0, 0, 0, 0, 0, 0, 0, 0, 0, 0, 0, 0, 0, 0, 0, 0, 0, 0, 0, 0, 0, 0, 0, 0, 0, 0] : List Int), .ints .u8 (64 : Nat) ([0, 0, 0, 0, 0, 0, 0, 0, 0, 0, 0, 0, 0, 0, 0, 0, 0, 0, 0, 0, 0, 0, 0, 0, 0, 0, 0, 0, 0, 0, 0, 0, 0, 0, 0, 0, 0, 0, 0, 0, 0, 0, 0, 0, 0, 0, 0, 0, 0, 0, 0, 0, 0, 0, 0, 0, 0, 0, 0, 0, 0, 0, 0, 0] : List Int), .b false], false⟩), (134, ⟨Try.t133.desc, 130, 144, [.ints .u8 (64 : Nat) ([0, 0, 0, 0, 0, 0, 0, 0, 0, 0, 0, 0, 0, 0, 0, 0, 0, 0, 0, 0, 0, 0, 0, 0, 0, 0, 0, 0, 0, 0, 0, 0, 0, 0, 0, 0, 0, 0, 0, 0, 0, 0, 0, 0, 0, 0, 0, 0, 0, 0, 0, 0, 0, 0, 0, 0, 0, 0, 0, 0, 0, 0, 0, 0] : List Int), .ints .u8 (64 : Nat) ([0, 0, 0, 0, 0, 0, 0, 0, 0, 0, 0, 0, 0, 0, 0, 0, 0, 0, 0, 0, 0, 0, 0, 0, 0, 0, 0, 0, 0, 0, 0, 0, 0, 0, 0, 0, 0, 0, 0, 0, 0, 0, 0, 0, 0, 0, 0, 0, 0, 0, 0, 0, 0, 0, 0, 0, 0, 0, 0, 0, 0, 0, 0, 0] : List Int), .b false, .i .i64 (0 : Int)], false⟩)]
theorem tabOkDI : TabOk Try.prog (tabOf tabDI) := (tabOf_cons teDI_3 (tabOf_cons teDI_4 (tabOf_cons teDI_5 (tabOf_cons teDI_22 (tabOf_cons teDI_23 (tabOf_cons teDI_32 (tabOf_cons teDI_57 (tabOf_cons teDI_132 (tabOf_cons teDI_134 tabOf_nil)))))))))

def gam18 : Gam := gcall 56 [true, false, false] [.w, .w] (fun wk vs args => match wk, vs, args with | [⟨true, [.ints .u8 (64 : Nat) ky, .ints .u8 (64 : Nat) v, .b true, .i .i64 d]⟩, ⟨false, [.sl 2 0 n cp2, .raw (.slice none 0 0), .raw (.slice none 0 0)]⟩, ⟨false, [.ints .u8 n_1 b]⟩], [], [.o (.a (.p 0 0)), .o (.a (.sl 1 0 (3 : Nat) cp))] => some ((n_1 = n) ∧ (n < (35184372088832 : Nat)) ∧ ((32 : Nat) ≤ n), [], [some ⟨true, [.ints .u8 (64 : Nat) (stK ky v b), .ints .u8 (64 : Nat) (stV ky v b), .b true, .i .i64 d]⟩, some ⟨false, [.sl 2 0 n cp2, .raw (.slice none 0 0), .raw (.slice none 0 0)]⟩, some ⟨false, [.ints .u8 n b]⟩]) | _, _, _ => none) gam17
theorem gam18_ok : GamOk Try.prog gam18 := gcall_ok tabOkDH Try.func56 gam17_ok Try.call56 (by
  intro wk vs args p xs K1 h hv
  split at h
  · simp only [Option.some.injEq, Prod.mk.injEq] at h; obtain ⟨rfl, rfl, rfl⟩ := h; obtain ⟨g0, g1, g2⟩ := hv; subst g0; exact fun caps w rw β => stir3_body _ _ _ _ _ _ _ g1 g2 w rw β
  · simp at h)

set_option maxHeartbeats 1000000 in
theorem newOk_body0 (n nm : Nat) (b : List Int) (cap0 : Nat) (h0 : (nm = n)) (h1 : (n < (35184372088832 : Nat))) (h2 : ((32 : Nat) ≤ n)) (hc0 : n ≤ cap0) (hl0_0 : List.length b = nm) (w : World) (rw : List Nat) (β : Env) : Body Try.prog (tabOf tabDI) Try.f21 ⟨w, rw, 1, β⟩ [.o (.a (.sl 0 0 n cap0)), .o (.a (.raw (.slice none 0 0))), .o (.a (.raw (.slice none 0 0)))] [some ⟨false, [.ints .u8 nm b]⟩] (fun ys K' => ys = [.a (.p 1 0), .a (.i .i64 (0 : Int))] ∧ K' = [some ⟨false, [.ints .u8 nm b]⟩, some ⟨true, [.ints .u8 (64 : Nat) (nwK b), .ints .u8 (64 : Nat) (nwV b), .b true, .i .i64 (0 : Int)]⟩]) :=
  Body.of_finK (Γ := gam18) (Λ := noLam) (Ψ := noPsi) (fuel := 65) (m := 35) (c := (Try.f21.body.getD .skip)) mix tabOkDI gam18_ok rfl (rs := [.tmp 6, .tmp 7]) rfl rfl [false, true, true, true, true, true, true, true, true, true, true, true, true, true, true, true, true, true, true, true, true, true, true, true, true, true, true, true, true, true, true, true, true, true, true, true, true, true, true, true, true, true, true, true, true, true, true, true, true, true, true, true, true, true, true, true, true, true, true, true, true, true, true, true, true, false] [.eqB 1 (⟨true, [.ints .u8 (64 : Nat) (nwK b), .ints .u8 (64 : Nat) (nwV b), .b true, .i .i64 (0 : Int)]⟩)] 2
    (vc := [((some ⟨true, [.ints .u8 (64 : Nat) (stK ([0, 0, 0, 0, 0, 0, 0, 0, 0, 0, 0, 0, 0, 0, 0, 0, 0, 0, 0, 0, 0, 0, 0, 0, 0, 0, 0, 0, 0, 0, 0, 0, 0, 0, 0, 0, 0, 0, 0, 0, 0, 0, 0, 0, 0, 0, 0, 0, 0, 0, 0, 0, 0, 0, 0, 0, 0, 0, 0, 0, 0, 0, 0, 0] : List Int) ([1, 1, 1, 1, 1, 1, 1, 1, 1, 1, 1, 1, 1, 1, 1, 1, 1, 1, 1, 1, 1, 1, 1, 1, 1, 1, 1, 1, 1, 1, 1, 1, 1, 1, 1, 1, 1, 1, 1, 1, 1, 1, 1, 1, 1, 1, 1, 1, 1, 1, 1, 1, 1, 1, 1, 1, 1, 1, 1, 1, 1, 1, 1, 1] : List Int) b), .ints .u8 (64 : Nat) (stV ([0, 0, 0, 0, 0, 0, 0, 0, 0, 0, 0, 0, 0, 0, 0, 0, 0, 0, 0, 0, 0, 0, 0, 0, 0, 0, 0, 0, 0, 0, 0, 0, 0, 0, 0, 0, 0, 0, 0, 0, 0, 0, 0, 0, 0, 0, 0, 0, 0, 0, 0, 0, 0, 0, 0, 0, 0, 0, 0, 0, 0, 0, 0, 0] : List Int) ([1, 1, 1, 1, 1, 1, 1, 1, 1, 1, 1, 1, 1, 1, 1, 1, 1, 1, 1, 1, 1, 1, 1, 1, 1, 1, 1, 1, 1, 1, 1, 1, 1, 1, 1, 1, 1, 1, 1, 1, 1, 1, 1, 1, 1, 1, 1, 1, 1, 1, 1, 1, 1, 1, 1, 1, 1, 1, 1, 1, 1, 1, 1, 1] : List Int) b), .b true, .i .i64 (0 : Int)]⟩ : Option Blk) = some ⟨true, [.ints .u8 (64 : Nat) (nwK b), .ints .u8 (64 : Nat) (nwV b), .b true, .i .i64 (0 : Int)]⟩), ((True ∧ (True ∧ True)) ∧ ((nm = n) ∧ (n < (35184372088832 : Nat)) ∧ ((32 : Nat) ≤ n))), (false = false), (((0 : Int) ≤ (63 : Int)) ∧ ((63 : Int) < (64 : Int))), (true = true), (((0 : Int) ≤ (62 : Int)) ∧ ((62 : Int) < (64 : Int))), (true = true), (((0 : Int) ≤ (61 : Int)) ∧ ((61 : Int) < (64 : Int))), (true = true), (((0 : Int) ≤ (60 : Int)) ∧ ((60 : Int) < (64 : Int))), (true = true), (((0 : Int) ≤ (59 : Int)) ∧ ((59 : Int) < (64 : Int))), (true = true), (((0 : Int) ≤ (58 : Int)) ∧ ((58 : Int) < (64 : Int))), (true = true), (((0 : Int) ≤ (57 : Int)) ∧ ((57 : Int) < (64 : Int))), (true = true), (((0 : Int) ≤ (56 : Int)) ∧ ((56 : Int) < (64 : Int))), (true = true), (((0 : Int) ≤ (55 : Int)) ∧ ((55 : Int) < (64 : Int))), (true = true), (((0 : Int) ≤ (54 : Int)) ∧ ((54 : Int) < (64 : Int))), (true = true), (((0 : Int) ≤ (53 : Int)) ∧ ((53 : Int) < (64 : Int))), (true = true), (((0 : Int) ≤ (52 : Int)) ∧ ((52 : Int) < (64 : Int))), (true = true), (((0 : Int) ≤ (51 : Int)) ∧ ((51 : Int) < (64 : Int))), (true = true), (((0 : Int) ≤ (50 : Int)) ∧ ((50 : Int) < (64 : Int))), (true = true), (((0 : Int) ≤ (49 : Int)) ∧ ((49 : Int) < (64 : Int))), (true = true), (((0 : Int) ≤ (48 : Int)) ∧ ((48 : Int) < (64 : Int))), (true = true), (((0 : Int) ≤ (47 : Int)) ∧ ((47 : Int) < (64 : Int))), (true = true), (((0 : Int) ≤ (46 : Int)) ∧ ((46 : Int) < (64 : Int))), (true = true), (((0 : Int) ≤ (45 : Int)) ∧ ((45 : Int) < (64 : Int))), (true = true), (((0 : Int) ≤ (44 : Int)) ∧ ((44 : Int) < (64 : Int))), (true = true), (((0 : Int) ≤ (43 : Int)) ∧ ((43 : Int) < (64 : Int))), (true = true), (((0 : Int) ≤ (42 : Int)) ∧ ((42 : Int) < (64 : Int))), (true = true), (((0 : Int) ≤ (41 : Int)) ∧ ((41 : Int) < (64 : Int))), (true = true), (((0 : Int) ≤ (40 : Int)) ∧ ((40 : Int) < (64 : Int))), (true = true), (((0 : Int) ≤ (39 : Int)) ∧ ((39 : Int) < (64 : Int))), (true = true), (((0 : Int) ≤ (38 : Int)) ∧ ((38 : Int) < (64 : Int))), (true = true), (((0 : Int) ≤ (37 : Int)) ∧ ((37 : Int) < (64 : Int))), (true = true), (((0 : Int) ≤ (36 : Int)) ∧ ((36 : Int) < (64 : Int))), (true = true), (((0 : Int) ≤ (35 : Int)) ∧ ((35 : Int) < (64 : Int))), (true = true), (((0 : Int) ≤ (34 : Int)) ∧ ((34 : Int) < (64 : Int))), (true = true), (((0 : Int) ≤ (33 : Int)) ∧ ((33 : Int) < (64 : Int))), (true = true), (((0 : Int) ≤ (32 : Int)) ∧ ((32 : Int) < (64 : Int))), (true = true), (((0 : Int) ≤ (31 : Int)) ∧ ((31 : Int) < (64 : Int))), (true = true), (((0 : Int) ≤ (30 : Int)) ∧ ((30 : Int) < (64 : Int))), (true = true), (((0 : Int) ≤ (29 : Int)) ∧ ((29 : Int) < (64 : Int))), (true = true), (((0 : Int) ≤ (28 : Int)) ∧ ((28 : Int) < (64 : Int))), (true = true), (((0 : Int) ≤ (27 : Int)) ∧ ((27 : Int) < (64 : Int))), (true = true), (((0 : Int) ≤ (26 : Int)) ∧ ((26 : Int) < (64 : Int))), (true = true), (((0 : Int) ≤ (25 : Int)) ∧ ((25 : Int) < (64 : Int))), (true = true), (((0 : Int) ≤ (24 : Int)) ∧ ((24 : Int) < (64 : Int))), (true = true), (((0 : Int) ≤ (23 : Int)) ∧ ((23 : Int) < (64 : Int))), (true = true), (((0 : Int) ≤ (22 : Int)) ∧ ((22 : Int) < (64 : Int))), (true = true), (((0 : Int) ≤ (21 : Int)) ∧ ((21 : Int) < (64 : Int))), (true = true), (((0 : Int) ≤ (20 : Int)) ∧ ((20 : Int) < (64 : Int))), (true = true), (((0 : Int) ≤ (19 : Int)) ∧ ((19 : Int) < (64 : Int))), (true = true), (((0 : Int) ≤ (18 : Int)) ∧ ((18 : Int) < (64 : Int))), (true = true), (((0 : Int) ≤ (17 : Int)) ∧ ((17 : Int) < (64 : Int))), (true = true), (((0 : Int) ≤ (16 : Int)) ∧ ((16 : Int) < (64 : Int))), (true = true), (((0 : Int) ≤ (15 : Int)) ∧ ((15 : Int) < (64 : Int))), (true = true), (((0 : Int) ≤ (14 : Int)) ∧ ((14 : Int) < (64 : Int))), (true = true), (((0 : Int) ≤ (13 : Int)) ∧ ((13 : Int) < (64 : Int))), (true = true), (((0 : Int) ≤ (12 : Int)) ∧ ((12 : Int) < (64 : Int))), (true = true), (((0 : Int) ≤ (11 : Int)) ∧ ((11 : Int) < (64 : Int))), (true = true), (((0 : Int) ≤ (10 : Int)) ∧ ((10 : Int) < (64 : Int))), (true = true), (((0 : Int) ≤ (9 : Int)) ∧ ((9 : Int) < (64 : Int))), (true = true), (((0 : Int) ≤ (8 : Int)) ∧ ((8 : Int) < (64 : Int))), (true = true), (((0 : Int) ≤ (7 : Int)) ∧ ((7 : Int) < (64 : Int))), (true = true), (((0 : Int) ≤ (6 : Int)) ∧ ((6 : Int) < (64 : Int))), (true = true), (((0 : Int) ≤ (5 : Int)) ∧ ((5 : Int) < (64 : Int))), (true = true), (((0 : Int) ≤ (4 : Int)) ∧ ((4 : Int) < (64 : Int))), (true = true), (((0 : Int) ≤ (3 : Int)) ∧ ((3 : Int) < (64 : Int))), (true = true), (((0 : Int) ≤ (2 : Int)) ∧ ((2 : Int) < (64 : Int))), (true = true), (((0 : Int) ≤ (1 : Int)) ∧ ((1 : Int) < (64 : Int))), (true = true), (((0 : Int) ≤ (0 : Int)) ∧ ((0 : Int) < (64 : Int))), (true = true), ((decide (((n : Nat) : Int) < (32 : Int))) = false)]) (by kernel_rfl)
    (aC (rfl) (aC ⟨⟨trivial, ⟨trivial, trivial⟩⟩, ⟨h0, h1, h2⟩⟩ (aC rfl (aC ⟨(by decide), (by decide)⟩ (aC rfl (aC ⟨(by decide), (by decide)⟩ (aC rfl (aC ⟨(by decide), (by decide)⟩ (aC rfl (aC ⟨(by decide), (by decide)⟩ (aC rfl (aC ⟨(by decide), (by decide)⟩ (aC rfl (aC ⟨(by decide), (by decide)⟩ (aC rfl (aC ⟨(by decide), (by decide)⟩ (aC rfl (aC ⟨(by decide), (by decide)⟩ (aC rfl (aC ⟨(by decide), (by decide)⟩ (aC rfl (aC ⟨(by decide), (by decide)⟩ (aC rfl (aC ⟨(by decide), (by decide)⟩ (aC rfl (aC ⟨(by decide), (by decide)⟩ (aC rfl (aC ⟨(by decide), (by decide)⟩ (aC rfl (aC ⟨(by decide), (by decide)⟩ (aC rfl (aC ⟨(by decide), (by decide)⟩ (aC rfl (aC ⟨(by decide), (by decide)⟩ (aC rfl (aC ⟨(by decide), (by decide)⟩ (aC rfl (aC ⟨(by decide), (by decide)⟩ (aC rfl (aC ⟨(by decide), (by decide)⟩ (aC rfl (aC ⟨(by decide), (by decide)⟩ (aC rfl (aC ⟨(by decide), (by decide)⟩ (aC rfl (aC ⟨(by decide), (by decide)⟩ (aC rfl (aC ⟨(by decide), (by decide)⟩ (aC rfl (aC ⟨(by decide), (by decide)⟩ (aC rfl (aC ⟨(by decide), (by decide)⟩ (aC rfl (aC ⟨(by decide), (by decide)⟩ (aC rfl (aC ⟨(by decide), (by decide)⟩ (aC rfl (aC ⟨(by decide), (by decide)⟩ (aC rfl (aC ⟨(by decide), (by decide)⟩ (aC rfl (aC ⟨(by decide), (by decide)⟩ (aC rfl (aC ⟨(by decide), (by decide)⟩ (aC rfl (aC ⟨(by decide), (by decide)⟩ (aC rfl (aC ⟨(by decide), (by decide)⟩ (aC rfl (aC ⟨(by decide), (by decide)⟩ (aC rfl (aC ⟨(by decide), (by decide)⟩ (aC rfl (aC ⟨(by decide), (by decide)⟩ (aC rfl (aC ⟨(by decide), (by decide)⟩ (aC rfl (aC ⟨(by decide), (by decide)⟩ (aC rfl (aC ⟨(by decide), (by decide)⟩ (aC rfl (aC ⟨(by decide), (by decide)⟩ (aC rfl (aC ⟨(by decide), (by decide)⟩ (aC rfl (aC ⟨(by decide), (by decide)⟩ (aC rfl (aC ⟨(by decide), (by decide)⟩ (aC rfl (aC ⟨(by decide), (by decide)⟩ (aC rfl (aC ⟨(by decide), (by decide)⟩ (aC rfl (aC ⟨(by decide), (by decide)⟩ (aC rfl (aC ⟨(by decide), (by decide)⟩ (aC rfl (aC ⟨(by decide), (by decide)⟩ (aC rfl (aC ⟨(by decide), (by decide)⟩ (aC rfl (aC ⟨(by decide), (by decide)⟩ (aC rfl (aC ⟨(by decide), (by decide)⟩ (aC rfl (aC ⟨(by decide), (by decide)⟩ (aC rfl (aC ⟨(by decide), (by decide)⟩ (aC rfl (aC ⟨(by decide), (by decide)⟩ (aC rfl (aC ⟨(by decide), (by decide)⟩ (aC rfl (aC ⟨(by decide), (by decide)⟩ (aC rfl (aC ⟨(by decide), (by decide)⟩ (aC rfl (aC ⟨(by decide), (by decide)⟩ (aC rfl (aC ⟨(by decide), (by decide)⟩ (aC rfl (aC ⟨(by decide), (by decide)⟩ (aC rfl (aC ⟨(by decide), (by decide)⟩ (aC rfl (aC ⟨(by decide), (by decide)⟩ (aC rfl (aC ⟨(by decide), (by decide)⟩ (aC rfl (aC ⟨(by decide), (by decide)⟩ (aC rfl (aC (decide_eq_false (by first | omega | (simp (disch := omega) only [wrapI]; omega))) (AllP_nil)))))))))))))))))))))))))))))))))))))))))))))))))))))))))))))))))))))))))))))))))))))))))))))))))))))))))))))))))))))))))))))))))))))

theorem newOk_body (n nm : Nat) (b : List Int) (cap0 : Nat) (h0 : (nm = n)) (h1 : (n < (35184372088832 : Nat))) (h2 : ((32 : Nat) ≤ n)) (w : World) (rw : List Nat) (β : Env) : Body Try.prog (tabOf tabDI) Try.f21 ⟨w, rw, 1, β⟩ [.o (.a (.sl 0 0 n cap0)), .o (.a (.raw (.slice none 0 0))), .o (.a (.raw (.slice none 0 0)))] [some ⟨false, [.ints .u8 nm b]⟩] (fun ys K' => ys = [.a (.p 1 0), .a (.i .i64 (0 : Int))] ∧ K' = [some ⟨false, [.ints .u8 nm b]⟩, some ⟨true, [.ints .u8 (64 : Nat) (nwK b), .ints .u8 (64 : Nat) (nwV b), .b true, .i .i64 (0 : Int)]⟩]) :=
  Body.lens (c := (Try.f21.body.getD .skip)) rfl fun h => newOk_body0 n nm b cap0 h0 h1 h2 (h.caps 0 _ _ _ _ rfl) (h.lens 0 _ .u8 nm b rfl (by simp)) w rw β

end Go.Proofs.Ytlmdhjojinkdbaa.X

/- Printed by a tool of this session. -/
namespace Go.Proofs.Ytlmdhjojinkdbaa.X
open Go Go.Proofs
set_option linter.unusedVariables false
set_option linter.unusedSimpArgs false
set_option maxRecDepth 100000
theorem teDJ_3 : TEOk Try.prog 3 ⟨.int .i64, 1, 8, [.i .i64 (0 : Int)], false⟩ :=
  TEOk.of Try.underlying3 (i := Try.t3) (by kernel_rfl) rfl rfl rfl (by kernel_rfl) (fun h => by cases h) (by kernel_rfl)
theorem teDJ_5 : TEOk Try.prog 5 ⟨.int .u8, 1, 1, [.i .u8 (0 : Int)], false⟩ :=
  TEOk.of Try.underlying5 (i := Try.t5) (by kernel_rfl) rfl rfl rfl (by kernel_rfl) (fun h => by cases h) (by kernel_rfl)
theorem teDJ_22 : TEOk Try.prog 22 ⟨.slice 5, 1, 24, [.raw (.slice none 0 0)], false⟩ :=
  TEOk.of Try.underlying22 (i := Try.t22) (by kernel_rfl) rfl rfl rfl (by kernel_rfl) (fun h => by cases h) (by kernel_rfl)
theorem teDJ_23 : TEOk Try.prog 23 ⟨.slice 22, 1, 24, [.raw (.slice none 0 0)], false⟩ :=
  TEOk.of Try.underlying23 (i := Try.t23) (by kernel_rfl) rfl rfl rfl (by kernel_rfl) (fun h => by cases h) (by kernel_rfl)
theorem teDJ_57 : TEOk Try.prog 57 ⟨.pointer 134, 1, 8, [.raw (.pointer none)], false⟩ :=
  TEOk.of Try.underlying57 (i := Try.t57) (by kernel_rfl) rfl rfl rfl (by kernel_rfl) (fun h => by cases h) (by kernel_rfl)
theorem teDJ_132 : TEOk Try.prog 132 ⟨Try.t131.desc, 129, 129, [.ints .u8 (64 : Nat) ([0, 0, 0, 0, 0, 0, 0, 0, 0, 0, 0, 0, 0, 0, 0, 0, 0, 0, 0, 0, 0, 0, 0, 0, 0, 0, 0, 0, 0, 0, 0, 0, 0, 0, 0, 0, 0, 0, 0, 0, 0, 0, 0, 0, 0, 0, 0, 0, 0, 0, 0, 0, 0, 0, 0, 0, 0, 0, 0, 0, 0, 0, 0, 0] : List Int), .ints .u8 (64 : Nat) ([0, 0, 0, 0, 0, 0, 0, 0, 0, 0, 0, 0, 0, 0, 0, 0, 0, 0, 0, 0, 0, 0, 0, 0, 0, 0, 0, 0, 0, 0, 0, 0, 0, 0, 0, 0, 0, 0, 0, 0, 0, 0, 0, 0, 0, 0, 0, 0, 0, 0, 0, 0, 0, 0, 0, 0, 0, 0, 0, 0, 0, 0, 0, 0] : List Int), .b false], false⟩ :=
  TEOk.of Try.underlying132 (i := Try.t132) (by kernel_rfl) rfl rfl rfl (by kernel_rfl) (fun h => by cases h) (by kernel_rfl)
theorem teDJ_134 : TEOk Try.prog 134 ⟨Try.t133.desc, 130, 144, [.ints .u8 (64 : Nat) ([0, 0, 0, 0, 0, 0, 0, 0, 0, 0, 0, 0, 0, 0, 0, 0, 0, 0, 0, 0, 0, 0, 0, 0, 0, 0, 0, 0, 0, 0, 0, 0, 0, 0, 0, 0, 0, 0, 0, 0, 0, 0, 0, 0, 0, 0, 0, 0, 0, 0, 0, 0, 0, 0, 0, 0, 0, 0, 0, 0, 0, 0, 0, 0] : List Int), .ints .u8 (64 : Nat) ([0, 0, 0, 0, 0, 0, 0, 0, 0, 0, 0, 0, 0, 0, 0, 0, 0, 0, 0, 0, 0, 0, 0, 0, 0, 0, 0, 0, 0, 0, 0, 0, 0, 0, 0, 0, 0, 0, 0, 0, 0, 0, 0, 0, 0, 0, 0, 0, 0, 0, 0, 0, 0, 0, 0, 0, 0, 0, 0, 0, 0, 0, 0, 0] : List Int), .b false, .i .i64 (0 : Int)], false⟩ :=
  TEOk.of Try.underlying134 (i := Try.t134) (by kernel_rfl) rfl rfl rfl (by kernel_rfl) (fun h => by cases h) (by kernel_rfl)
noncomputable def tabDJ : List (Nat × TE) := [(3, ⟨.int .i64, 1, 8, [.i .i64 (0 : Int)], false⟩), (5, ⟨.int .u8, 1, 1, [.i .u8 (0 : Int)], false⟩), (22, ⟨.slice 5, 1, 24, [.raw (.slice none 0 0)], false⟩), (23, ⟨.slice 22, 1, 24, [.raw (.slice none 0 0)], false⟩), (57, ⟨.pointer 134, 1, 8, [.raw (.pointer none)], false⟩), (132, ⟨Try.t131.desc, 129, 129, [.ints .u8 (64 : Nat) ([0, 0, 0, 0, 0, 0, 0, 0, 0, 0, 0, 0, 0, 0, 0, 0, 0, 0, 0, 0, 0, 0, 0, 0, 0, 0, 0, 0, 0, 0, 0, 0, 0, 0, 0, 0, 0, 0, 0, 0, 0, 0, 0, 0, 0, 0, 0, 0, 0, 0, 0, 0, 0, 0, 0, 0, 0, 0, 0, 0, 0, 0, 0, 0] : List Int), .ints .u8 (64 : Nat) ([0, 0, 0, 0, 0, 0, 0, 0, 0, 0, 0, 0, 0, 0, 0, 0, 0, 0, 0, 0, 0, 0, 0, 0, 0, 0, 0, 0, 0, 0, 0, 0, 0, 0, 0, 0, 0, 0, 0, 0, 0, 0, 0, 0, 0, 0, 0, 0, 0, 0, 0, 0, 0, 0, 0, 0, 0, 0, 0, 0, 0, 0, 0, 0] : List Int), .b false], false⟩), (134, ⟨Try.t133.desc, 130, 144, [.ints .u8 (64 : Nat) ([0, 0, 0, 0, 0, 0, 0, 0, 0, 0, 0, 0, 0, 0, 0, 0, 0, 0, 0, 0, 0, 0, 0, 0, 0, 0, 0, 0, 0, 0, 0, 0, 0, 0, 0, 0, 0, 0, 0, 0, 0, 0, 0, 0, 0, 0, 0, 0, 0, 0, 0, 0, 0, 0, 0, 0, 0, 0, 0, 0, 0, 0, 0, 0] : List Int), .ints .u8 (64 : Nat) ([0, 0, 0, 0, 0, 0, 0, 0, 0, 0, 0, 0, 0, 0, 0, 0, 0, 0, 0, 0, 0, 0, 0, 0, 0, 0, 0, 0, 0, 0, 0, 0, 0, 0, 0, 0, 0, 0, 0, 0, 0, 0, 0, 0, 0, 0, 0, 0, 0, 0, 0, 0, 0, 0, 0, 0, 0, 0, 0, 0, 0, 0, 0, 0] : List Int), .b false, .i .i64 (0 : Int)], false⟩)]
theorem tabOkDJ : TabOk Try.prog (tabOf tabDJ) := (tabOf_cons teDJ_3 (tabOf_cons teDJ_5 (tabOf_cons teDJ_22 (tabOf_cons teDJ_23 (tabOf_cons teDJ_57 (tabOf_cons teDJ_132 (tabOf_cons teDJ_134 tabOf_nil)))))))

def gam22 : Gam := gcall 56 [true, false] [.w, .w] (fun wk vs args => match wk, vs, args with | [⟨true, [.ints .u8 (64 : Nat) ky, .ints .u8 (64 : Nat) v, .b true, .i .i64 d]⟩, ⟨false, [.raw (.slice none 0 0)]⟩], [], [.o (.a (.p 0 0)), .o (.a (.sl 1 0 (1 : Nat) cp))] => some (True, [], [some ⟨true, [.ints .u8 (64 : Nat) (stir0 ky v), .ints .u8 (64 : Nat) (stir0_1 ky v), .b true, .i .i64 d]⟩, some ⟨false, [.raw (.slice none 0 0)]⟩]) | _, _, _ => none) gam17
theorem gam22_ok : GamOk Try.prog gam22 := gcall_ok tabOkDH Try.func56 gam17_ok Try.call56 (by
  intro wk vs args p xs K1 h hv
  split at h
  · simp only [Option.some.injEq, Prod.mk.injEq] at h; obtain ⟨rfl, rfl, rfl⟩ := h; exact fun caps w rw β => stir0_body _ _ _ _ w rw β
  · simp at h)

def gam23 : Gam := gcall 57 [true] [.w] (fun wk vs args => match wk, vs, args with | [⟨true, [.ints .u8 (64 : Nat) ky, .ints .u8 (64 : Nat) v, .b true, .i .i64 d]⟩], [], [.o (.a (.p 0 0))] => some (True, [.a (.sl 0 (64 : Nat) (64 : Nat) (64 : Nat))], [some ⟨true, [.ints .u8 (64 : Nat) ky, .ints .u8 (64 : Nat) (macD ky v), .b true, .i .i64 d]⟩]) | _, _, _ => none) gam22
theorem gam23_ok : GamOk Try.prog gam23 := gcall_ok tabOkDH Try.func57 gam22_ok Try.call57 (by
  intro wk vs args p xs K1 h hv
  split at h
  · simp only [Option.some.injEq, Prod.mk.injEq] at h; obtain ⟨rfl, rfl, rfl⟩ := h; exact fun caps w rw β => next_body _ _ _ w rw β
  · simp at h)

set_option maxHeartbeats 1000000 in
theorem drawNN_body0 (ky v : List Int) (d N : Int) (hl0_0 : List.length ky = (64 : Nat)) (hl0_1 : List.length v = (64 : Nat)) (hn : N < 0) (w : World) (rw : List Nat) (β : Env) : Body Try.prog (tabOf tabDJ) Try.f22 ⟨w, rw, 1, β⟩ [.o (.a (.p 0 0)), .o (.a (.i .i64 N)), .o (.a (.raw (.slice none 0 0)))] [some ⟨true, [.ints .u8 (64 : Nat) ky, .ints .u8 (64 : Nat) v, .b true, .i .i64 d]⟩] (fun ys K' => ys = [.a (.rs 1 0 (drN N d) 1), .a (.i .i64 (drE N d))] ∧ K' = [some ⟨true, [.ints .u8 (64 : Nat) (drK0 N d ky v), .ints .u8 (64 : Nat) (drV0 N d ky v), .b true, .i .i64 (drD N d)]⟩, some ⟨true, [.ints .u8 (drM N d) (drO0 N d ky v)]⟩]) :=
  Body.of_finK (Γ := gam23) (Λ := noLam) (Ψ := noPsi) (fuel := 0) (m := 60) (c := (Try.f22.body.getD .skip)) mix tabOkDJ gam23_ok rfl (rs := [.tmp 6, .tmp 7]) rfl rfl [false, true] [.rowS 6 .u8 1, .eqS 6 (.o (.a (.rs 1 0 (drN N d) 1))), .eqS 7 (.o (.a (.i .i64 (drE N d)))), .eqB 0 (⟨true, [.ints .u8 (64 : Nat) (drK0 N d ky v), .ints .u8 (64 : Nat) (drV0 N d ky v), .b true, .i .i64 (drD N d)]⟩), .eqB 1 (⟨true, [.ints .u8 (drM N d) (drO0 N d ky v)]⟩)] 2
    (vc := [((some ⟨true, [.ints .u8 (0 : Nat) ([] : List Int)]⟩ : Option Blk) = some ⟨true, [.ints .u8 (drM N d) (drO0 N d ky v)]⟩), ((some ⟨true, [.ints .u8 (64 : Nat) ky, .ints .u8 (64 : Nat) v, .b true, .i .i64 d]⟩ : Option Blk) = some ⟨true, [.ints .u8 (64 : Nat) (drK0 N d ky v), .ints .u8 (64 : Nat) (drV0 N d ky v), .b true, .i .i64 (drD N d)]⟩), ((.o (.a (.i .i64 (1 : Int))) : AV) = .o (.a (.i .i64 (drE N d)))), ((.o (.a (.rs 1 0 (0 : Nat) 1)) : AV) = .o (.a (.rs 1 0 (drN N d) 1))), ((decide (N < (0 : Int))) = true), (false = false)]) (by kernel_rfl)
    (aC ((by unfold drO0 drM drO; rw [dr_bad (by omega)]; rfl)) (aC ((by unfold drK0 drV0 drK drV drD; rw [dr_bad (by omega)]; rfl)) (aC ((congrArg (fun z => AV.o (.a (.i .i64 z))) (by unfold drE; (repeat' split) <;> omega))) (aC ((by unfold drN; rw [dr_bad (by omega)]; rfl)) (aC (decide_eq_true (by first | omega | (simp (disch := omega) only [wrapI]; omega))) (aC rfl (AllP_nil)))))))

set_option maxHeartbeats 1000000 in
theorem drawNM_body0 (ky v : List Int) (d N : Int) (hl0_0 : List.length ky = (64 : Nat)) (hl0_1 : List.length v = (64 : Nat)) (hn : 65536 < N) (w : World) (rw : List Nat) (β : Env) : Body Try.prog (tabOf tabDJ) Try.f22 ⟨w, rw, 1, β⟩ [.o (.a (.p 0 0)), .o (.a (.i .i64 N)), .o (.a (.raw (.slice none 0 0)))] [some ⟨true, [.ints .u8 (64 : Nat) ky, .ints .u8 (64 : Nat) v, .b true, .i .i64 d]⟩] (fun ys K' => ys = [.a (.rs 1 0 (drN N d) 1), .a (.i .i64 (drE N d))] ∧ K' = [some ⟨true, [.ints .u8 (64 : Nat) (drK0 N d ky v), .ints .u8 (64 : Nat) (drV0 N d ky v), .b true, .i .i64 (drD N d)]⟩, some ⟨true, [.ints .u8 (drM N d) (drO0 N d ky v)]⟩]) :=
  Body.of_finK (Γ := gam23) (Λ := noLam) (Ψ := noPsi) (fuel := 0) (m := 60) (c := (Try.f22.body.getD .skip)) mix tabOkDJ gam23_ok rfl (rs := [.tmp 6, .tmp 7]) rfl rfl [false, false, true] [.rowS 6 .u8 1, .eqS 6 (.o (.a (.rs 1 0 (drN N d) 1))), .eqS 7 (.o (.a (.i .i64 (drE N d)))), .eqB 0 (⟨true, [.ints .u8 (64 : Nat) (drK0 N d ky v), .ints .u8 (64 : Nat) (drV0 N d ky v), .b true, .i .i64 (drD N d)]⟩), .eqB 1 (⟨true, [.ints .u8 (drM N d) (drO0 N d ky v)]⟩)] 2
    (vc := [((some ⟨true, [.ints .u8 (0 : Nat) ([] : List Int)]⟩ : Option Blk) = some ⟨true, [.ints .u8 (drM N d) (drO0 N d ky v)]⟩), ((some ⟨true, [.ints .u8 (64 : Nat) ky, .ints .u8 (64 : Nat) v, .b true, .i .i64 d]⟩ : Option Blk) = some ⟨true, [.ints .u8 (64 : Nat) (drK0 N d ky v), .ints .u8 (64 : Nat) (drV0 N d ky v), .b true, .i .i64 (drD N d)]⟩), ((.o (.a (.i .i64 (113 : Int))) : AV) = .o (.a (.i .i64 (drE N d)))), ((.o (.a (.rs 1 0 (0 : Nat) 1)) : AV) = .o (.a (.rs 1 0 (drN N d) 1))), ((decide (N > (65536 : Int))) = true), ((decide (N < (0 : Int))) = false), (false = false)]) (by kernel_rfl)
    (aC ((by unfold drO0 drM drO; rw [dr_bad (by omega)]; rfl)) (aC ((by unfold drK0 drV0 drK drV drD; rw [dr_bad (by omega)]; rfl)) (aC ((congrArg (fun z => AV.o (.a (.i .i64 z))) (by unfold drE; (repeat' split) <;> omega))) (aC ((by unfold drN; rw [dr_bad (by omega)]; rfl)) (aC (decide_eq_true (by first | omega | (simp (disch := omega) only [wrapI]; omega))) (aC (decide_eq_false (by first | omega | (simp (disch := omega) only [wrapI]; omega))) (aC rfl (AllP_nil))))))))

set_option maxHeartbeats 1000000 in
theorem drawND_body0 (ky v : List Int) (d N : Int) (hl0_0 : List.length ky = (64 : Nat)) (hl0_1 : List.length v = (64 : Nat)) (ha : 0 ≤ N) (hb : N ≤ 65536) (hd : 4096 ≤ d) (w : World) (rw : List Nat) (β : Env) : Body Try.prog (tabOf tabDJ) Try.f22 ⟨w, rw, 1, β⟩ [.o (.a (.p 0 0)), .o (.a (.i .i64 N)), .o (.a (.raw (.slice none 0 0)))] [some ⟨true, [.ints .u8 (64 : Nat) ky, .ints .u8 (64 : Nat) v, .b true, .i .i64 d]⟩] (fun ys K' => ys = [.a (.rs 1 0 (drN N d) 1), .a (.i .i64 (drE N d))] ∧ K' = [some ⟨true, [.ints .u8 (64 : Nat) (drK0 N d ky v), .ints .u8 (64 : Nat) (drV0 N d ky v), .b true, .i .i64 (drD N d)]⟩, some ⟨true, [.ints .u8 (drM N d) (drO0 N d ky v)]⟩]) :=
  Body.of_finK (Γ := gam23) (Λ := noLam) (Ψ := noPsi) (fuel := 0) (m := 60) (c := (Try.f22.body.getD .skip)) mix tabOkDJ gam23_ok rfl (rs := [.tmp 6, .tmp 7]) rfl rfl [false, false, false, true] [.rowS 6 .u8 1, .eqS 6 (.o (.a (.rs 1 0 (drN N d) 1))), .eqS 7 (.o (.a (.i .i64 (drE N d)))), .eqB 0 (⟨true, [.ints .u8 (64 : Nat) (drK0 N d ky v), .ints .u8 (64 : Nat) (drV0 N d ky v), .b true, .i .i64 (drD N d)]⟩), .eqB 1 (⟨true, [.ints .u8 (drM N d) (drO0 N d ky v)]⟩)] 2
    (vc := [((some ⟨true, [.ints .u8 (0 : Nat) ([] : List Int)]⟩ : Option Blk) = some ⟨true, [.ints .u8 (drM N d) (drO0 N d ky v)]⟩), ((some ⟨true, [.ints .u8 (64 : Nat) ky, .ints .u8 (64 : Nat) v, .b true, .i .i64 d]⟩ : Option Blk) = some ⟨true, [.ints .u8 (64 : Nat) (drK0 N d ky v), .ints .u8 (64 : Nat) (drV0 N d ky v), .b true, .i .i64 (drD N d)]⟩), ((.o (.a (.i .i64 (112 : Int))) : AV) = .o (.a (.i .i64 (drE N d)))), ((.o (.a (.rs 1 0 (0 : Nat) 1)) : AV) = .o (.a (.rs 1 0 (drN N d) 1))), ((decide (d ≥ (4096 : Int))) = true), ((decide (N > (65536 : Int))) = false), ((decide (N < (0 : Int))) = false), (false = false)]) (by kernel_rfl)
    (aC ((by unfold drO0 drM drO; rw [dr_bad (by omega)]; rfl)) (aC ((by unfold drK0 drV0 drK drV drD; rw [dr_bad (by omega)]; rfl)) (aC ((congrArg (fun z => AV.o (.a (.i .i64 z))) (by unfold drE; (repeat' split) <;> omega))) (aC ((by unfold drN; rw [dr_bad (by omega)]; rfl)) (aC (decide_eq_true (by first | omega | (simp (disch := omega) only [wrapI]; omega))) (aC (decide_eq_false (by first | omega | (simp (disch := omega) only [wrapI]; omega))) (aC (decide_eq_false (by first | omega | (simp (disch := omega) only [wrapI]; omega))) (aC rfl (AllP_nil)))))))))

def drawNZL_mk (ky v : List Int) (d N : Int) (k : Nat) (s : Unit) : St := ⟨sparse 60 [(0, .o (.a (.p 0 0))), (1, .o (.a (.i .i64 N))), (2, .o (.a (.raw (.slice none 0 0)))), (6, .o (.a (.raw (.slice none 0 0)))), (7, .o (.a (.i .i64 (0 : Int)))), (8, .o (.a (.rs 1 0 ((64 : Nat) * k) 1)))], [some ⟨true, [.ints .u8 (64 : Nat) (d1K ky v ([] : List Int)), .ints .u8 (64 : Nat) (nxV (d1K ky v ([] : List Int)) (d1V ky v ([] : List Int)) k), .b true, .i .i64 d]⟩, some ⟨true, [.ints .u8 ((64 : Nat) * k) (nxO (d1K ky v ([] : List Int)) (d1V ky v ([] : List Int)) k)]⟩]⟩

def drawNZL_step (k : Nat) (s : Unit) : Unit :=
  ()

set_option maxHeartbeats 1000000 in
theorem drawNZL_round (ky v : List Int) (d N : Int) (hl0_0 : List.length ky = (64 : Nat)) (hl0_1 : List.length v = (64 : Nat)) (ha : 0 ≤ N) (hb : N ≤ 65536) (hd : d < 4096) (w : World) (rw : List Nat) (β : Env) (k : Nat) (hk : k < (rnds N)) (s : Unit) : Run Try.prog ⟨w, rw, 1, β⟩ (loopB Try.f22 1) (drawNZL_mk ky v d N k s) (To ⟨w, rw, 1, β⟩ .normal (drawNZL_mk ky v d N (k + 1) (drawNZL_step k s))) := by
  have e0 : ((sub (nxO (d1K ky v ([] : List Int)) (d1V ky v ([] : List Int)) k) (0 : Nat) ((64 : Nat) * k)) ++ (macD (d1K ky v ([] : List Int)) (nxV (d1K ky v ([] : List Int)) (d1V ky v ([] : List Int)) k))) = (nxO (d1K ky v ([] : List Int)) (d1V ky v ([] : List Int)) (k + (1 : Nat))) := (by first | omega | rfl | exact nxO_step2 rfl)
  have e1 : (macD (d1K ky v ([] : List Int)) (nxV (d1K ky v ([] : List Int)) (d1V ky v ([] : List Int)) k)) = (nxV (d1K ky v ([] : List Int)) (d1V ky v ([] : List Int)) (k + (1 : Nat))) := (by first | omega | rfl | exact nxO_step2 rfl)
  have e2 : (((64 : Nat) * k) + (64 : Nat)) = ((64 : Nat) * (k + (1 : Nat))) := (by first | omega | rfl | exact nxO_step2 rfl)
  have h := Run.of_outT (B := ⟨w, rw, 1, β⟩) (Λ := noLam) (Ψ := noPsi) (fuel := 0) (ora := [true, false]) (c := (loopB Try.f22 1)) (st := (drawNZL_mk ky v d N k s)) (l := [.swap 1 2, .forget [0, 1, 2, 6, 7, 8] 2]) (s' := ⟨sparse 60 [(0, .o (.a (.p 0 0))), (1, .o (.a (.i .i64 N))), (2, .o (.a (.raw (.slice none 0 0)))), (6, .o (.a (.raw (.slice none 0 0)))), (7, .o (.a (.i .i64 (0 : Int)))), (8, .o (.a (.rs 1 0 (((64 : Nat) * k) + (64 : Nat)) 1)))], [some ⟨true, [.ints .u8 (64 : Nat) (d1K ky v ([] : List Int)), .ints .u8 (64 : Nat) (macD (d1K ky v ([] : List Int)) (nxV (d1K ky v ([] : List Int)) (d1V ky v ([] : List Int)) k)), .b true, .i .i64 d]⟩, some ⟨true, [.ints .u8 (((64 : Nat) * k) + (64 : Nat)) ((sub (nxO (d1K ky v ([] : List Int)) (d1V ky v ([] : List Int)) k) (0 : Nat) ((64 : Nat) * k)) ++ (macD (d1K ky v ([] : List Int)) (nxV (d1K ky v ([] : List Int)) (d1V ky v ([] : List Int)) k)))]⟩]⟩) (ex := .normal) mix tabOkDJ gam23_ok
    (vc := [((((0 : Nat) + ((64 : Nat) * k)) ≤ ((64 : Nat) * k)) ∧ (((64 : Nat) ≤ (64 : Nat)) ∧ True) ∧ (((((64 : Nat) * k) + (64 : Nat)) * (1 : Nat)) ≤ (140737488355328 : Nat))), ((True ∧ True) ∧ True), ((decide (((((64 : Nat) * k) : Nat) : Int) < N)) = true)]) (by kernel_rfl)
    (aC ⟨(by have hq := rnds_lt hk; first | omega | (simp (disch := omega) only [wrapI]; omega)), ⟨(by decide), trivial⟩, (by have hq := rnds_lt hk; first | omega | (simp (disch := omega) only [wrapI]; omega))⟩ (aC ⟨⟨trivial, trivial⟩, trivial⟩ (aC (decide_eq_true (by have hq := rnds_lt hk; omega)) (AllP_nil))))
  rw [e0, e1, e2] at h
  exact h

set_option maxHeartbeats 1000000 in
theorem drawNZL_last (ky v : List Int) (d N : Int) (hl0_0 : List.length ky = (64 : Nat)) (hl0_1 : List.length v = (64 : Nat)) (ha : 0 ≤ N) (hb : N ≤ 65536) (hd : d < 4096) (w : World) (rw : List Nat) (β : Env) (s : Unit) : Run Try.prog ⟨w, rw, 1, β⟩ (loopB Try.f22 1) (drawNZL_mk ky v d N (rnds N) s) (To ⟨w, rw, 1, β⟩ (.exit 1) (drawNZL_mk ky v d N (rnds N) s)) :=
  Run.of_outT (B := ⟨w, rw, 1, β⟩) (Λ := noLam) (Ψ := noPsi) (fuel := 0) (ora := [false]) (l := [.forget [0, 1, 2, 6, 7, 8] 2]) mix tabOkDJ gam23_ok
    (vc := [((decide (((((64 : Nat) * (rnds N)) : Nat) : Int) < N)) = false)]) (by kernel_rfl)
    (aC (decide_eq_false (by have hq := rnds_ge N; omega)) (AllP_nil))

theorem drawNZL_loop (ky v : List Int) (d N : Int) (hl0_0 : List.length ky = (64 : Nat)) (hl0_1 : List.length v = (64 : Nat)) (ha : 0 ≤ N) (hb : N ≤ 65536) (hd : d < 4096) (w : World) (rw : List Nat) (β : Env) (s : Unit) : Run Try.prog ⟨w, rw, 1, β⟩ (.block 1 (.loop (loopB Try.f22 1))) (drawNZL_mk ky v d N 0 s) (To ⟨w, rw, 1, β⟩ .normal (drawNZL_mk ky v d N (rnds N) (iter (drawNZL_step) (rnds N) s))) :=
  Run.count (fun k => drawNZL_mk ky v d N k (iter (drawNZL_step) k s)) (rnds N) (fun k hk => drawNZL_round ky v d N hl0_0 hl0_1 ha hb hd w rw β k hk _) (ex := (.exit 1)) (by simp) (drawNZL_last ky v d N hl0_0 hl0_1 ha hb hd w rw β _)

set_option maxHeartbeats 1000000 in
theorem drawNZ_body0 (ky v : List Int) (d N : Int) (hl0_0 : List.length ky = (64 : Nat)) (hl0_1 : List.length v = (64 : Nat)) (ha : 0 ≤ N) (hb : N ≤ 65536) (hd : d < 4096) (w : World) (rw : List Nat) (β : Env) : Body Try.prog (tabOf tabDJ) Try.f22 ⟨w, rw, 1, β⟩ [.o (.a (.p 0 0)), .o (.a (.i .i64 N)), .o (.a (.raw (.slice none 0 0)))] [some ⟨true, [.ints .u8 (64 : Nat) ky, .ints .u8 (64 : Nat) v, .b true, .i .i64 d]⟩] (fun ys K' => ys = [.a (.rs 1 0 (drN N d) 1), .a (.i .i64 (drE N d))] ∧ K' = [some ⟨true, [.ints .u8 (64 : Nat) (drK0 N d ky v), .ints .u8 (64 : Nat) (drV0 N d ky v), .b true, .i .i64 (drD N d)]⟩, some ⟨true, [.ints .u8 (drM N d) (drO0 N d ky v)]⟩]) :=
  Body.of_finK (Γ := gam23) (Λ := lamOf [(1, ⟨[.rowS 8 .u8 1, .forget [0, 1, 2, 6, 7, 8] 2], .normal, (drawNZL_mk ky v d N (rnds N) (iter (drawNZL_step) (rnds N) ()))⟩)]) (Ψ := psiOf [(11, [.eqB 0 (⟨true, [.ints .u8 (64 : Nat) (d1K ky v ([] : List Int)), .ints .u8 (64 : Nat) (d1V ky v ([] : List Int)), .b true, .i .i64 d]⟩)])]) (fuel := 0) (m := 60) (c := (Try.f22.body.getD .skip)) mix tabOkDJ gam23_ok rfl (rs := [.tmp 6, .tmp 7]) rfl rfl [false, false, false, false, false] [.slrs 6 1, .eqS 6 (.o (.a (.rs 1 0 (drN N d) 1))), .eqS 7 (.o (.a (.i .i64 (drE N d)))), .eqB 0 (⟨true, [.ints .u8 (64 : Nat) (drK0 N d ky v), .ints .u8 (64 : Nat) (drV0 N d ky v), .b true, .i .i64 (drD N d)]⟩), .eqB 1 (⟨true, [.ints .u8 (drM N d) (drO0 N d ky v)]⟩)] 2
    (vc := [((some ⟨true, [.ints .u8 ((64 : Nat) * (rnds N)) (nxO (d1K ky v ([] : List Int)) (d1V ky v ([] : List Int)) (rnds N))]⟩ : Option Blk) = some ⟨true, [.ints .u8 (drM N d) (drO0 N d ky v)]⟩), ((some ⟨true, [.ints .u8 (64 : Nat) (stir0 (d1K ky v ([] : List Int)) (nxV (d1K ky v ([] : List Int)) (d1V ky v ([] : List Int)) (rnds N))), .ints .u8 (64 : Nat) (stir0_1 (d1K ky v ([] : List Int)) (nxV (d1K ky v ([] : List Int)) (d1V ky v ([] : List Int)) (rnds N))), .b true, .i .i64 (IntKind.i64.wrap (d + (1 : Int)))]⟩ : Option Blk) = some ⟨true, [.ints .u8 (64 : Nat) (drK0 N d ky v), .ints .u8 (64 : Nat) (drV0 N d ky v), .b true, .i .i64 (drD N d)]⟩), ((.o (.a (.i .i64 (0 : Int))) : AV) = .o (.a (.i .i64 (drE N d)))), ((.o (.a (.rs 1 0 (Int.toNat N) 1)) : AV) = .o (.a (.rs 1 0 (drN N d) 1))), (((0 : Nat) + (Int.toNat N)) ≤ ((64 : Nat) * (rnds N))), (((0 : Int) ≤ (0 : Int)) ∧ ((0 : Int) ≤ N) ∧ (N ≤ N) ∧ (N ≤ ((((64 : Nat) * (rnds N)) : Nat) : Int))), ((True ∧ (True ∧ True)) ∧ True), (Run Try.prog ⟨w, rw, 1, β⟩ (.block 1 (.loop (loopB Try.f22 1))) (drawNZL_mk ky v d N 0 ()) (To ⟨w, rw, 1, β⟩ .normal (drawNZL_mk ky v d N (rnds N) (iter (drawNZL_step) (rnds N) ())))), ((some ⟨true, [.ints .u8 (64 : Nat) ky, .ints .u8 (64 : Nat) v, .b true, .i .i64 d]⟩ : Option Blk) = some ⟨true, [.ints .u8 (64 : Nat) (d1K ky v ([] : List Int)), .ints .u8 (64 : Nat) (d1V ky v ([] : List Int)), .b true, .i .i64 d]⟩), (false = false), ((decide (d ≥ (4096 : Int))) = false), ((decide (N > (65536 : Int))) = false), ((decide (N < (0 : Int))) = false), (false = false)]) (by kernel_rfl)
    (aC ((by unfold drO0 drM drO; rw [dr_ok ha hb hd]; rfl)) (aC ((by unfold drK0 drV0 drK drV drD; rw [dr_ok ha hb hd]; rfl)) (aC ((congrArg (fun z => AV.o (.a (.i .i64 z))) (by unfold drE; (repeat' split) <;> omega))) (aC ((by unfold drN; rw [dr_ok ha hb hd]; rfl)) (aC (by have hq := rnds_ge N; omega) (aC ⟨(by decide), (by first | omega | (simp (disch := omega) only [wrapI]; omega)), (by first | omega | (simp (disch := omega) only [wrapI]; omega)), (by have hq := rnds_ge N; omega)⟩ (aC ⟨⟨trivial, ⟨trivial, trivial⟩⟩, trivial⟩ (aC (drawNZL_loop ky v d N hl0_0 hl0_1 ha hb hd w rw β ()) (aC (rfl) (aC rfl (aC (decide_eq_false (by first | omega | (simp (disch := omega) only [wrapI]; omega))) (aC (decide_eq_false (by first | omega | (simp (disch := omega) only [wrapI]; omega))) (aC (decide_eq_false (by first | omega | (simp (disch := omega) only [wrapI]; omega))) (aC rfl (AllP_nil)))))))))))))))

theorem drawN_body (ky v : List Int) (d N : Int) (w : World) (rw : List Nat) (β : Env) : Body Try.prog (tabOf tabDJ) Try.f22 ⟨w, rw, 1, β⟩ [.o (.a (.p 0 0)), .o (.a (.i .i64 N)), .o (.a (.raw (.slice none 0 0)))] [some ⟨true, [.ints .u8 (64 : Nat) ky, .ints .u8 (64 : Nat) v, .b true, .i .i64 d]⟩] (fun ys K' => ys = [.a (.rs 1 0 (drN N d) 1), .a (.i .i64 (drE N d))] ∧ K' = [some ⟨true, [.ints .u8 (64 : Nat) (drK0 N d ky v), .ints .u8 (64 : Nat) (drV0 N d ky v), .b true, .i .i64 (drD N d)]⟩, some ⟨true, [.ints .u8 (drM N d) (drO0 N d ky v)]⟩]) :=
  Body.lens (c := (Try.f22.body.getD .skip)) rfl fun h => by
  by_cases hn : N < 0
  · exact drawNN_body0 ky v d N (h.lens 0 _ .u8 (64 : Nat) ky rfl (by simp)) (h.lens 0 _ .u8 (64 : Nat) v rfl (by simp)) hn w rw β
  by_cases hm : 65536 < N
  · exact drawNM_body0 ky v d N (h.lens 0 _ .u8 (64 : Nat) ky rfl (by simp)) (h.lens 0 _ .u8 (64 : Nat) v rfl (by simp)) hm w rw β
  by_cases hd : 4096 ≤ d
  · exact drawND_body0 ky v d N (h.lens 0 _ .u8 (64 : Nat) ky rfl (by simp)) (h.lens 0 _ .u8 (64 : Nat) v rfl (by simp)) (by omega) (by omega) hd w rw β
  exact drawNZ_body0 ky v d N (h.lens 0 _ .u8 (64 : Nat) ky rfl (by simp)) (h.lens 0 _ .u8 (64 : Nat) v rfl (by simp)) (by omega) (by omega) (by omega) w rw β

end Go.Proofs.Ytlmdhjojinkdbaa.X

