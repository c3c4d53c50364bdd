/- Texts of this session, put together (part 3), less what nothing uses. -/
import Derived.Test.YtepimglipelpmaaGO2
import Derived.KernelRfl
import Derived.WalkKit
import Derived.ProofKit
import Derived.OpenShut
import Derived.JoinedCond
import Derived.Carry
/- Printed by a tool of this session. -/
namespace Go.Proofs.Ytepimglipelpmaa.X
open Go Go.Proofs
set_option linter.unusedVariables false
set_option linter.unusedSimpArgs false
set_option maxRecDepth 100000
theorem teSD_3 : TEOk Try.prog 3 ⟨.int .i64, 1, 8, [.i .i64 (0 : Int)], false⟩ :=
  TEOk.of Try.underlying3 (i := Try.t3) (by kernel_rfl) rfl rfl rfl (by kernel_rfl) (fun h => by cases h) (by kernel_rfl)
theorem teSD_5 : TEOk Try.prog 5 ⟨.int .u8, 1, 1, [.i .u8 (0 : Int)], false⟩ :=
  TEOk.of Try.underlying5 (i := Try.t5) (by kernel_rfl) rfl rfl rfl (by kernel_rfl) (fun h => by cases h) (by kernel_rfl)
theorem teSD_22 : TEOk Try.prog 22 ⟨.slice 5, 1, 24, [.raw (.slice none 0 0)], false⟩ :=
  TEOk.of Try.underlying22 (i := Try.t22) (by kernel_rfl) rfl rfl rfl (by kernel_rfl) (fun h => by cases h) (by kernel_rfl)
theorem teSD_52 : TEOk Try.prog 52 ⟨.int .u64, 1, 8, [.i .u64 (0 : Int)], false⟩ :=
  TEOk.of Try.underlying52 (i := Try.t52) (by kernel_rfl) rfl rfl rfl (by kernel_rfl) (fun h => by cases h) (by kernel_rfl)
theorem teSD_53 : TEOk Try.prog 53 ⟨.array 8 52, 8, 64, [.ints .u64 (8 : Nat) ([0, 0, 0, 0, 0, 0, 0, 0] : List Int)], true⟩ :=
  TEOk.of Try.underlying53 (i := Try.t53) (by kernel_rfl) rfl rfl rfl (by kernel_rfl) (fun _ => Try.eqGuardType53) (by kernel_rfl)
theorem teSD_100 : TEOk Try.prog 100 ⟨.pointer 65, 1, 8, [.raw (.pointer none)], false⟩ :=
  TEOk.of Try.underlying100 (i := Try.t100) (by kernel_rfl) rfl rfl rfl (by kernel_rfl) (fun h => by cases h) (by kernel_rfl)
theorem teSD_102 : TEOk Try.prog 102 ⟨Try.t101.desc, 11, 104, [.ints .u64 (8 : Nat) ([0, 0, 0, 0, 0, 0, 0, 0] : List Int), .raw (.slice none 0 0), .i .u64 (0 : Int), .raw (.pointer none)], false⟩ :=
  TEOk.of Try.underlying102 (i := Try.t102) (by kernel_rfl) rfl rfl rfl (by kernel_rfl) (fun h => by cases h) (by kernel_rfl)
noncomputable def tabSD : List (Nat × TE) := [(3, ⟨.int .i64, 1, 8, [.i .i64 (0 : Int)], false⟩), (5, ⟨.int .u8, 1, 1, [.i .u8 (0 : Int)], false⟩), (22, ⟨.slice 5, 1, 24, [.raw (.slice none 0 0)], false⟩), (52, ⟨.int .u64, 1, 8, [.i .u64 (0 : Int)], false⟩), (53, ⟨.array 8 52, 8, 64, [.ints .u64 (8 : Nat) ([0, 0, 0, 0, 0, 0, 0, 0] : List Int)], true⟩), (100, ⟨.pointer 65, 1, 8, [.raw (.pointer none)], false⟩), (102, ⟨Try.t101.desc, 11, 104, [.ints .u64 (8 : Nat) ([0, 0, 0, 0, 0, 0, 0, 0] : List Int), .raw (.slice none 0 0), .i .u64 (0 : Int), .raw (.pointer none)], false⟩)]
theorem tabOkSD : TabOk Try.prog (tabOf tabSD) := (tabOf_cons teSD_3 (tabOf_cons teSD_5 (tabOf_cons teSD_22 (tabOf_cons teSD_52 (tabOf_cons teSD_53 (tabOf_cons teSD_100 (tabOf_cons teSD_102 tabOf_nil)))))))

def wAL_mk (S : List Int) (tl : Nat) (N : Int) (L C : List Int) (n nm : Nat) (b : List Int) (cap3 k : Nat) (s : (List Int)) : St := ⟨sparse 105 [(0, .o (.a (.p 0 0))), (1, .o (.a (.sl 3 ((128 : Nat) * k) (n - ((128 : Nat) * k)) (cap3 - ((128 : Nat) * k))))), (5, .o (.a (.p 0 0))), (6, .o (.a (.b true))), (7, .o (.a (.b false))), (8, .o (.a (.p 0 0))), (9, .o (.a (.p 0 0))), (10, .o (.a (.p 0 9))), (11, .o (.a (.i .u64 N))), (12, .o (.a (.sl 3 0 n cap3))), (13, .o (.a (.i .i64 ((n : Nat) : Int)))), (14, .o (.a (.i .u64 (IntKind.u64.wrap ((n : Nat) : Int))))), (15, .o (.a (.i .u64 (IntKind.u64.wrap (N + (IntKind.u64.wrap ((n : Nat) : Int))))))), (16, .o (.a (.p 0 0))), (17, .o (.a (.p 0 9))), (18, .o (.a (.p 0 0))), (19, .o (.a (.p 0 0))), (20, .o (.a (.p 0 8))), (21, .o (.a (.rs 1 0 tl 1))), (22, .o (.a (.i .i64 ((tl : Nat) : Int)))), (23, .o (.a (.b (decide (((tl : Nat) : Int) > (0 : Int))))))], [some ⟨true, [.ints .u64 (8 : Nat) s, .rs 1 0 tl 1, .i .u64 (IntKind.u64.wrap (N + (IntKind.u64.wrap ((n : Nat) : Int)))), .p 2 0]⟩, some ⟨true, [.ints .u8 tl L]⟩, some ⟨false, [.ints .u64 (80 : Nat) C]⟩, some ⟨false, [.ints .u8 nm b]⟩]⟩

def wAL_step (C b : List Int) (k : Nat) (s : (List Int)) : (List Int) :=
  ((blk s (sub b ((128 : Nat) * k) (128 : Nat)) C))

set_option maxHeartbeats 1000000 in
theorem wAL_round (S : List Int) (tl : Nat) (N : Int) (L C : List Int) (n nm : Nat) (b : List Int) (cap3 : Nat) (h0 : (nm = n)) (h1 : (tl < (128 : Nat))) (h2 : (n < (140737488355328 : Nat))) (hc3 : n ≤ cap3) (hl0_0 : List.length S = (8 : Nat)) (hl1_0 : List.length L = tl) (hl2_0 : List.length C = (80 : Nat)) (hl3_0 : List.length b = nm) (hp : tl = 0) (w : World) (rw : List Nat) (β : Env) (k : Nat) (hk : k < (n / (128 : Nat))) (s : (List Int)) : Run Try.prog ⟨w, rw, 4, β⟩ (loopB Try.f31 0) (wAL_mk S tl N L C n nm b cap3 k s) (To ⟨w, rw, 4, β⟩ .normal (wAL_mk S tl N L C n nm b cap3 (k + 1) (wAL_step C b k s))) := by
  have e0 : ((cap3 - ((128 : Nat) * k)) - (128 : Nat)) = (cap3 - ((128 : Nat) * (k + (1 : Nat)))) := (by first | rfl | exact wrap_succ (by omega) | omega | (simp (disch := omega) only [wrapI]; omega))
  have e1 : ((n - ((128 : Nat) * k)) - (128 : Nat)) = (n - ((128 : Nat) * (k + (1 : Nat)))) := (by first | rfl | exact wrap_succ (by omega) | omega | (simp (disch := omega) only [wrapI]; omega))
  have e2 : (((128 : Nat) * k) + (128 : Nat)) = ((128 : Nat) * (k + (1 : Nat))) := (by first | rfl | exact wrap_succ (by omega) | omega | (simp (disch := omega) only [wrapI]; omega))
  have h := Run.of_outT (B := ⟨w, rw, 4, β⟩) (Λ := noLam) (Ψ := noPsi) (fuel := 0) (ora := [true]) (c := (loopB Try.f31 0)) (st := (wAL_mk S tl N L C n nm b cap3 k s)) (l := [.forget [0, 1, 5, 6, 7, 8, 9, 10, 11, 12, 13, 14, 15, 16, 17, 18, 19, 20, 21, 22, 23] 4]) (s' := ⟨sparse 105 [(0, .o (.a (.p 0 0))), (1, .o (.a (.sl 3 (((128 : Nat) * k) + (128 : Nat)) ((n - ((128 : Nat) * k)) - (128 : Nat)) ((cap3 - ((128 : Nat) * k)) - (128 : Nat))))), (5, .o (.a (.p 0 0))), (6, .o (.a (.b true))), (7, .o (.a (.b false))), (8, .o (.a (.p 0 0))), (9, .o (.a (.p 0 0))), (10, .o (.a (.p 0 9))), (11, .o (.a (.i .u64 N))), (12, .o (.a (.sl 3 0 n cap3))), (13, .o (.a (.i .i64 ((n : Nat) : Int)))), (14, .o (.a (.i .u64 (IntKind.u64.wrap ((n : Nat) : Int))))), (15, .o (.a (.i .u64 (IntKind.u64.wrap (N + (IntKind.u64.wrap ((n : Nat) : Int))))))), (16, .o (.a (.p 0 0))), (17, .o (.a (.p 0 9))), (18, .o (.a (.p 0 0))), (19, .o (.a (.p 0 0))), (20, .o (.a (.p 0 8))), (21, .o (.a (.rs 1 0 tl 1))), (22, .o (.a (.i .i64 ((tl : Nat) : Int)))), (23, .o (.a (.b (decide (((tl : Nat) : Int) > (0 : Int))))))], [some ⟨true, [.ints .u64 (8 : Nat) (wAL_step C b k s), .rs 1 0 tl 1, .i .u64 (IntKind.u64.wrap (N + (IntKind.u64.wrap ((n : Nat) : Int)))), .p 2 0]⟩, some ⟨true, [.ints .u8 tl L]⟩, some ⟨false, [.ints .u64 (80 : Nat) C]⟩, some ⟨false, [.ints .u8 nm b]⟩]⟩) (ex := .normal) mix tabOkSD gam12_ok
    (vc := [(((0 : Int) ≤ (128 : Int)) ∧ ((128 : Int) ≤ (((n - ((128 : Nat) * k)) : Nat) : Int))), ((True ∧ (((((128 : Nat) * k) + (128 : Nat)) ≤ nm) ∧ (True ∧ True))) ∧ (((128 : Nat) = (128 : Nat)) ∧ ((128 : Nat) = (128 : Nat)))), (((0 : Int) ≤ (0 : Int)) ∧ ((0 : Int) ≤ (128 : Int)) ∧ ((128 : Int) ≤ (((cap3 - ((128 : Nat) * k)) : Nat) : Int))), ((decide ((((n - ((128 : Nat) * k)) : Nat) : Int) ≥ (128 : Int))) = true)]) (by kernel_rfl)
    (aC ⟨(by decide), (by first | omega | (simp (disch := omega) only [wrapI]; omega))⟩ (aC ⟨⟨trivial, ⟨(by first | omega | (simp (disch := omega) only [wrapI]; omega)), ⟨trivial, trivial⟩⟩⟩, ⟨rfl, rfl⟩⟩ (aC ⟨(by decide), (by decide), (by first | omega | (simp (disch := omega) only [wrapI]; omega))⟩ (aC (decide_eq_true (by first | omega | (simp (disch := omega) only [wrapI]; omega))) (AllP_nil)))))
  rw [e0, e1, e2] at h
  exact h

set_option maxHeartbeats 1000000 in
theorem wAL_last (S : List Int) (tl : Nat) (N : Int) (L C : List Int) (n nm : Nat) (b : List Int) (cap3 : Nat) (h0 : (nm = n)) (h1 : (tl < (128 : Nat))) (h2 : (n < (140737488355328 : Nat))) (hc3 : n ≤ cap3) (hl0_0 : List.length S = (8 : Nat)) (hl1_0 : List.length L = tl) (hl2_0 : List.length C = (80 : Nat)) (hl3_0 : List.length b = nm) (hp : tl = 0) (w : World) (rw : List Nat) (β : Env) (s : (List Int)) : Run Try.prog ⟨w, rw, 4, β⟩ (loopB Try.f31 0) (wAL_mk S tl N L C n nm b cap3 (n / (128 : Nat)) s) (To ⟨w, rw, 4, β⟩ (.exit 0) (wAL_mk S tl N L C n nm b cap3 (n / (128 : Nat)) s)) :=
  Run.of_outT (B := ⟨w, rw, 4, β⟩) (Λ := noLam) (Ψ := noPsi) (fuel := 0) (ora := [false]) (l := [.forget [0, 1, 5, 6, 7, 8, 9, 10, 11, 12, 13, 14, 15, 16, 17, 18, 19, 20, 21, 22, 23] 4]) mix tabOkSD gam12_ok
    (vc := [((decide ((((n - ((128 : Nat) * (n / (128 : Nat)))) : Nat) : Int) ≥ (128 : Int))) = false)]) (by kernel_rfl)
    (aC (decide_eq_false (by first | omega | (simp (disch := omega) only [wrapI]; omega))) (AllP_nil))

theorem wAL_loop (S : List Int) (tl : Nat) (N : Int) (L C : List Int) (n nm : Nat) (b : List Int) (cap3 : Nat) (h0 : (nm = n)) (h1 : (tl < (128 : Nat))) (h2 : (n < (140737488355328 : Nat))) (hc3 : n ≤ cap3) (hl0_0 : List.length S = (8 : Nat)) (hl1_0 : List.length L = tl) (hl2_0 : List.length C = (80 : Nat)) (hl3_0 : List.length b = nm) (hp : tl = 0) (w : World) (rw : List Nat) (β : Env) (s : (List Int)) : Run Try.prog ⟨w, rw, 4, β⟩ (.block 0 (.loop (loopB Try.f31 0))) (wAL_mk S tl N L C n nm b cap3 0 s) (To ⟨w, rw, 4, β⟩ .normal (wAL_mk S tl N L C n nm b cap3 (n / (128 : Nat)) (iter (wAL_step C b) (n / (128 : Nat)) s))) :=
  Run.count (fun k => wAL_mk S tl N L C n nm b cap3 k (iter (wAL_step C b) k s)) (n / (128 : Nat)) (fun k hk => wAL_round S tl N L C n nm b cap3 h0 h1 h2 hc3 hl0_0 hl1_0 hl2_0 hl3_0 hp w rw β k hk _) (ex := (.exit 0)) (by simp) (wAL_last S tl N L C n nm b cap3 h0 h1 h2 hc3 hl0_0 hl1_0 hl2_0 hl3_0 hp w rw β _)

def wAL_out0 (C b : List Int) (n : Nat) (i0 : List Int) : List Int := (iter (wAL_step C b) (n / (128 : Nat)) (i0))

def wA (tl n : Nat) : Nat :=
  (tl + (n - ((128 : Nat) * (n / (128 : Nat)))))

def wA_1 (N : Int) (n : Nat) : Int :=
  (IntKind.u64.wrap (N + (IntKind.u64.wrap ((n : Nat) : Int))))

def wA_2 (tl : Nat) (L : List Int) (n : Nat) (b : List Int) : List Int :=
  ((sub L 0 tl) ++ (sub b ((128 : Nat) * (n / (128 : Nat))) (n - ((128 : Nat) * (n / (128 : Nat))))))

set_option maxHeartbeats 1000000 in
theorem wA_body0 (S : List Int) (tl : Nat) (N : Int) (L C : List Int) (n nm : Nat) (b : List Int) (cap3 : Nat) (h0 : (nm = n)) (h1 : (tl < (128 : Nat))) (h2 : (n < (140737488355328 : Nat))) (hc3 : n ≤ cap3) (hl0_0 : List.length S = (8 : Nat)) (hl1_0 : List.length L = tl) (hl2_0 : List.length C = (80 : Nat)) (hl3_0 : List.length b = nm) (hp : tl = 0) (w : World) (rw : List Nat) (β : Env) : Body Try.prog (tabOf tabSD) Try.f31 ⟨w, rw, 4, β⟩ [.o (.a (.p 0 0)), .o (.a (.sl 3 0 n cap3))] [some ⟨true, [.ints .u64 (8 : Nat) S, .rs 1 0 tl 1, .i .u64 N, .p 2 0]⟩, some ⟨true, [.ints .u8 tl L]⟩, some ⟨false, [.ints .u64 (80 : Nat) C]⟩, some ⟨false, [.ints .u8 nm b]⟩] (fun ys K' => ys = [] ∧ K' = [some ⟨true, [.ints .u64 (8 : Nat) (wAL_out0 C b n S), .rs 4 0 (wA tl n) 1, .i .u64 (wA_1 N n), .p 2 0]⟩, none, some ⟨false, [.ints .u64 (80 : Nat) C]⟩, some ⟨false, [.ints .u8 nm b]⟩, some ⟨true, [.ints .u8 (wA tl n) (wA_2 tl L n b)]⟩]) :=
  Body.of_finK (Γ := gam12) (Λ := lamOf [(0, ⟨[.forget [0, 1, 5, 6, 7, 8, 9, 10, 11, 12, 13, 14, 15, 16, 17, 18, 19, 20, 21, 22, 23] 4], .normal, (wAL_mk S tl N L C n nm b cap3 (n / (128 : Nat)) (iter (wAL_step C b) (n / (128 : Nat)) (S)))⟩)]) (Ψ := noPsi) (fuel := 0) (m := 105) (c := (Try.f31.body.getD .skip)) mix tabOkSD gam12_ok rfl (rs := []) rfl rfl [false, false, false] [] 5
    (vc := [((((0 : Nat) + tl) ≤ tl) ∧ (((n - ((128 : Nat) * (n / (128 : Nat)))) ≤ (n - ((128 : Nat) * (n / (128 : Nat))))) ∧ ((((128 : Nat) * (n / (128 : Nat))) + (n - ((128 : Nat) * (n / (128 : Nat))))) ≤ nm)) ∧ (((tl + (n - ((128 : Nat) * (n / (128 : Nat))))) * (1 : Nat)) ≤ (140737488355328 : Nat))), (Run Try.prog ⟨w, rw, 4, β⟩ (.block 0 (.loop (loopB Try.f31 0))) (wAL_mk S tl N L C n nm b cap3 0 (S)) (To ⟨w, rw, 4, β⟩ .normal (wAL_mk S tl N L C n nm b cap3 (n / (128 : Nat)) (iter (wAL_step C b) (n / (128 : Nat)) (S))))), ((decide (((tl : Nat) : Int) > (0 : Int))) = false), (false = false), ((True ∧ True) ∧ (tl = tl))]) (by kernel_rfl)
    (aC ⟨(by first | omega | (simp (disch := omega) only [wrapI]; omega)), ⟨(by first | omega | (simp (disch := omega) only [wrapI]; omega)), (by first | omega | (simp (disch := omega) only [wrapI]; omega))⟩, (by first | omega | (simp (disch := omega) only [wrapI]; omega))⟩ (aC (wAL_loop S tl N L C n nm b cap3 h0 h1 h2 hc3 hl0_0 hl1_0 hl2_0 hl3_0 hp w rw β (S)) (aC (decide_eq_false (by first | omega | (simp (disch := omega) only [wrapI]; omega))) (aC rfl (aC ⟨⟨trivial, trivial⟩, rfl⟩ (AllP_nil))))))

def wB (tl n : Nat) : Nat :=
  (tl + n)

def wB_1 (N : Int) (n : Nat) : Int :=
  (IntKind.u64.wrap (N + (IntKind.u64.wrap ((n : Nat) : Int))))

def wB_2 (tl : Nat) (L : List Int) (n : Nat) (b : List Int) : List Int :=
  ((sub L 0 tl) ++ (sub b 0 n))

set_option maxHeartbeats 1000000 in
theorem wB_body0 (S : List Int) (tl : Nat) (N : Int) (L C : List Int) (n nm : Nat) (b : List Int) (cap3 : Nat) (h0 : (nm = n)) (h1 : (tl < (128 : Nat))) (h2 : (n < (140737488355328 : Nat))) (hc3 : n ≤ cap3) (hl0_0 : List.length S = (8 : Nat)) (hl1_0 : List.length L = tl) (hl2_0 : List.length C = (80 : Nat)) (hl3_0 : List.length b = nm) (hp : 0 < tl) (hp2 : tl + n < 128) (w : World) (rw : List Nat) (β : Env) : Body Try.prog (tabOf tabSD) Try.f31 ⟨w, rw, 4, β⟩ [.o (.a (.p 0 0)), .o (.a (.sl 3 0 n cap3))] [some ⟨true, [.ints .u64 (8 : Nat) S, .rs 1 0 tl 1, .i .u64 N, .p 2 0]⟩, some ⟨true, [.ints .u8 tl L]⟩, some ⟨false, [.ints .u64 (80 : Nat) C]⟩, some ⟨false, [.ints .u8 nm b]⟩] (fun ys K' => ys = [] ∧ K' = [some ⟨true, [.ints .u64 (8 : Nat) S, .rs 4 0 (wB tl n) 1, .i .u64 (wB_1 N n), .p 2 0]⟩, none, some ⟨false, [.ints .u64 (80 : Nat) C]⟩, some ⟨false, [.ints .u8 nm b]⟩, some ⟨true, [.ints .u8 (wB tl n) (wB_2 tl L n b)]⟩]) :=
  Body.of_finK (Γ := gam12) (Λ := noLam) (Ψ := psiOf [(3, [.eqS 4 (.o (.a (.i .i64 ((n : Nat) : Int))))])]) (fuel := 0) (m := 105) (c := (Try.f31.body.getD .skip)) mix tabOkSD gam12_ok rfl (rs := []) rfl rfl [false, true, false, true] [] 5
    (vc := [((decide ((((tl + n) : Nat) : Int) < (128 : Int))) = true), (((0 : Int) ≤ ((n : Nat) : Int)) ∧ (((n : Nat) : Int) ≤ ((n : Nat) : Int))), ((((0 : Nat) + tl) ≤ tl) ∧ ((n ≤ n) ∧ (((0 : Nat) + n) ≤ nm)) ∧ (((tl + n) * (1 : Nat)) ≤ (140737488355328 : Nat))), (((0 : Int) ≤ (0 : Int)) ∧ ((0 : Int) ≤ ((n : Nat) : Int)) ∧ (((n : Nat) : Int) ≤ ((cap3 : Nat) : Int))), ((.o (.a (.i .i64 (if ((n : Nat) : Int) < (IntKind.i64.wrap ((128 : Int) - ((tl : Nat) : Int))) then ((n : Nat) : Int) else (IntKind.i64.wrap ((128 : Int) - ((tl : Nat) : Int)))))) : AV) = .o (.a (.i .i64 ((n : Nat) : Int)))), ((decide (((tl : Nat) : Int) > (0 : Int))) = true), (false = false), ((True ∧ True) ∧ (tl = tl))]) (by kernel_rfl)
    (aC (decide_eq_true (by first | omega | (simp (disch := omega) only [wrapI]; omega))) (aC ⟨(by first | omega | (simp (disch := omega) only [wrapI]; omega)), (by first | omega | (simp (disch := omega) only [wrapI]; omega))⟩ (aC ⟨(by first | omega | (simp (disch := omega) only [wrapI]; omega)), ⟨(by first | omega | (simp (disch := omega) only [wrapI]; omega)), (by first | omega | (simp (disch := omega) only [wrapI]; omega))⟩, (by first | omega | (simp (disch := omega) only [wrapI]; omega))⟩ (aC ⟨(by decide), (by first | omega | (simp (disch := omega) only [wrapI]; omega)), (by first | omega | (simp (disch := omega) only [wrapI]; omega))⟩ (aC ((congrArg (fun z => AV.o (.a (.i .i64 z))) (wmin_small hp2))) (aC (decide_eq_true (by first | omega | (simp (disch := omega) only [wrapI]; omega))) (aC rfl (aC ⟨⟨trivial, trivial⟩, rfl⟩ (AllP_nil)))))))))

def wCL_mk (S : List Int) (tl : Nat) (N : Int) (L C : List Int) (n nm : Nat) (b : List Int) (cap3 k : Nat) (s : (List Int)) : St := ⟨sparse 105 [(0, .o (.a (.p 0 0))), (1, .o (.a (.sl 3 (((0 : Nat) + ((128 : Nat) - tl)) + ((128 : Nat) * k)) ((n - ((128 : Nat) - tl)) - ((128 : Nat) * k)) ((cap3 - ((128 : Nat) - tl)) - ((128 : Nat) * k))))), (4, .o (.a (.i .i64 ((((128 : Nat) - tl) : Nat) : Int)))), (5, .o (.a (.p 0 0))), (6, .o (.a (.b true))), (7, .o (.a (.b false))), (8, .o (.a (.p 0 0))), (9, .o (.a (.p 0 0))), (10, .o (.a (.p 0 9))), (11, .o (.a (.i .u64 N))), (12, .o (.a (.sl 3 0 n cap3))), (13, .o (.a (.i .i64 ((n : Nat) : Int)))), (14, .o (.a (.i .u64 (IntKind.u64.wrap ((n : Nat) : Int))))), (15, .o (.a (.i .u64 (IntKind.u64.wrap (N + (IntKind.u64.wrap ((n : Nat) : Int))))))), (16, .o (.a (.p 0 0))), (17, .o (.a (.p 0 9))), (18, .o (.a (.p 0 0))), (19, .o (.a (.p 0 0))), (20, .o (.a (.p 0 8))), (21, .o (.a (.rs 1 0 tl 1))), (22, .o (.a (.i .i64 ((tl : Nat) : Int)))), (23, .o (.a (.b (decide (((tl : Nat) : Int) > (0 : Int)))))), (24, .o (.a (.p 0 0))), (25, .o (.a (.p 0 0))), (26, .o (.a (.p 0 8))), (27, .o (.a (.rs 1 0 tl 1))), (28, .o (.a (.i .i64 ((tl : Nat) : Int)))), (29, .o (.a (.i .i64 (IntKind.i64.wrap ((128 : Int) - ((tl : Nat) : Int)))))), (30, .o (.a (.sl 3 0 n cap3))), (31, .o (.a (.i .i64 ((n : Nat) : Int)))), (32, .o (.a (.i .i64 (if ((n : Nat) : Int) < (IntKind.i64.wrap ((128 : Int) - ((tl : Nat) : Int))) then ((n : Nat) : Int) else (IntKind.i64.wrap ((128 : Int) - ((tl : Nat) : Int))))))), (33, .o (.a (.p 0 0))), (34, .o (.a (.p 0 0))), (35, .o (.a (.p 0 0))), (36, .o (.a (.p 0 8))), (37, .o (.a (.rs 1 0 tl 1))), (38, .o (.a (.sl 3 0 n cap3))), (39, .o (.a (.i .i64 ((((128 : Nat) - tl) : Nat) : Int)))), (40, .o (.a (.sl 3 0 ((128 : Nat) - tl) cap3))), (41, .o (.a (.rs 4 0 (tl + ((128 : Nat) - tl)) 1))), (42, .o (.a (.sl 3 0 n cap3))), (43, .o (.a (.i .i64 ((((128 : Nat) - tl) : Nat) : Int)))), (44, .o (.a (.sl 3 ((0 : Nat) + ((128 : Nat) - tl)) (n - ((128 : Nat) - tl)) (cap3 - ((128 : Nat) - tl))))), (45, .o (.a (.p 0 0))), (46, .o (.a (.p 0 8))), (47, .o (.a (.p 0 0))), (48, .o (.a (.p 0 0))), (49, .o (.a (.p 0 8))), (50, .o (.a (.rs 4 0 (tl + ((128 : Nat) - tl)) 1))), (51, .o (.a (.i .i64 (((tl + ((128 : Nat) - tl)) : Nat) : Int)))), (52, .o (.a (.b (decide ((((tl + ((128 : Nat) - tl)) : Nat) : Int) < (128 : Int)))))), (53, .o (.a (.p 0 0))), (54, .o (.a (.p 0 0))), (55, .o (.a (.p 0 0))), (56, .o (.a (.p 0 0))), (57, .o (.g [.ints .u64 (8 : Nat) S])), (58, .o (.a (.p 0 0))), (59, .o (.a (.p 0 0))), (60, .o (.a (.p 0 8))), (61, .o (.a (.rs 4 0 (tl + ((128 : Nat) - tl)) 1))), (62, .o (.a (.p 0 0))), (63, .o (.a (.p 0 0))), (64, .o (.a (.p 0 10))), (65, .o (.a (.p 2 0))), (66, .o (.g [.ints .u64 (8 : Nat) (blk S (sub ((sub L 0 tl) ++ (sub b 0 ((128 : Nat) - tl))) (0 : Nat) (tl + ((128 : Nat) - tl))) C)])), (67, .o (.a (.p 0 0))), (68, .o (.a (.p 0 0))), (69, .o (.a (.p 0 0))), (70, .o (.a (.p 0 0))), (71, .o (.a (.p 0 0))), (72, .o (.a (.p 0 8))), (73, .o (.a (.rs 4 0 (tl + ((128 : Nat) - tl)) 1))), (74, .o (.a (.rs 4 0 (0 : Nat) 1))), (75, .o (.a (.p 0 0))), (76, .o (.a (.p 0 8)))], [some ⟨true, [.ints .u64 (8 : Nat) s, .rs 4 0 (0 : Nat) 1, .i .u64 (IntKind.u64.wrap (N + (IntKind.u64.wrap ((n : Nat) : Int)))), .p 2 0]⟩, none, some ⟨false, [.ints .u64 (80 : Nat) C]⟩, some ⟨false, [.ints .u8 nm b]⟩, some ⟨true, [.ints .u8 (tl + ((128 : Nat) - tl)) ((sub L 0 tl) ++ (sub b 0 ((128 : Nat) - tl)))]⟩]⟩

def wCL_step (tl : Nat) (C b : List Int) (k : Nat) (s : (List Int)) : (List Int) :=
  ((blk s (sub b (((0 : Nat) + ((128 : Nat) - tl)) + ((128 : Nat) * k)) (128 : Nat)) C))

set_option maxHeartbeats 1000000 in
theorem wCL_round (S : List Int) (tl : Nat) (N : Int) (L C : List Int) (n nm : Nat) (b : List Int) (cap3 : Nat) (h0 : (nm = n)) (h1 : (tl < (128 : Nat))) (h2 : (n < (140737488355328 : Nat))) (hc3 : n ≤ cap3) (hl0_0 : List.length S = (8 : Nat)) (hl1_0 : List.length L = tl) (hl2_0 : List.length C = (80 : Nat)) (hl3_0 : List.length b = nm) (hp : 0 < tl) (hp2 : 128 ≤ tl + n) (w : World) (rw : List Nat) (β : Env) (k : Nat) (hk : k < ((n - ((128 : Nat) - tl)) / (128 : Nat))) (s : (List Int)) : Run Try.prog ⟨w, rw, 4, β⟩ (loopB Try.f31 0) (wCL_mk S tl N L C n nm b cap3 k s) (To ⟨w, rw, 4, β⟩ .normal (wCL_mk S tl N L C n nm b cap3 (k + 1) (wCL_step tl C b k s))) := by
  have e0 : ((((0 : Nat) + ((128 : Nat) - tl)) + ((128 : Nat) * k)) + (128 : Nat)) = (((0 : Nat) + ((128 : Nat) - tl)) + ((128 : Nat) * (k + (1 : Nat)))) := (by first | rfl | exact wrap_succ (by omega) | omega | (simp (disch := omega) only [wrapI]; omega))
  have e1 : (((cap3 - ((128 : Nat) - tl)) - ((128 : Nat) * k)) - (128 : Nat)) = ((cap3 - ((128 : Nat) - tl)) - ((128 : Nat) * (k + (1 : Nat)))) := (by first | rfl | exact wrap_succ (by omega) | omega | (simp (disch := omega) only [wrapI]; omega))
  have e2 : (((n - ((128 : Nat) - tl)) - ((128 : Nat) * k)) - (128 : Nat)) = ((n - ((128 : Nat) - tl)) - ((128 : Nat) * (k + (1 : Nat)))) := (by first | rfl | exact wrap_succ (by omega) | omega | (simp (disch := omega) only [wrapI]; omega))
  have h := Run.of_outT (B := ⟨w, rw, 4, β⟩) (Λ := noLam) (Ψ := noPsi) (fuel := 0) (ora := [true]) (c := (loopB Try.f31 0)) (st := (wCL_mk S tl N L C n nm b cap3 k s)) (l := [.forget [0, 1, 4, 5, 6, 7, 8, 9, 10, 11, 12, 13, 14, 15, 16, 17, 18, 19, 20, 21, 22, 23, 24, 25, 26, 27, 28, 29, 30, 31, 32, 33, 34, 35, 36, 37, 38, 39, 40, 41, 42, 43, 44, 45, 46, 47, 48, 49, 50, 51, 52, 53, 54, 55, 56, 57, 58, 59, 60, 61, 62, 63, 64, 65, 66, 67, 68, 69, 70, 71, 72, 73, 74, 75, 76] 5]) (s' := ⟨sparse 105 [(0, .o (.a (.p 0 0))), (1, .o (.a (.sl 3 ((((0 : Nat) + ((128 : Nat) - tl)) + ((128 : Nat) * k)) + (128 : Nat)) (((n - ((128 : Nat) - tl)) - ((128 : Nat) * k)) - (128 : Nat)) (((cap3 - ((128 : Nat) - tl)) - ((128 : Nat) * k)) - (128 : Nat))))), (4, .o (.a (.i .i64 ((((128 : Nat) - tl) : Nat) : Int)))), (5, .o (.a (.p 0 0))), (6, .o (.a (.b true))), (7, .o (.a (.b false))), (8, .o (.a (.p 0 0))), (9, .o (.a (.p 0 0))), (10, .o (.a (.p 0 9))), (11, .o (.a (.i .u64 N))), (12, .o (.a (.sl 3 0 n cap3))), (13, .o (.a (.i .i64 ((n : Nat) : Int)))), (14, .o (.a (.i .u64 (IntKind.u64.wrap ((n : Nat) : Int))))), (15, .o (.a (.i .u64 (IntKind.u64.wrap (N + (IntKind.u64.wrap ((n : Nat) : Int))))))), (16, .o (.a (.p 0 0))), (17, .o (.a (.p 0 9))), (18, .o (.a (.p 0 0))), (19, .o (.a (.p 0 0))), (20, .o (.a (.p 0 8))), (21, .o (.a (.rs 1 0 tl 1))), (22, .o (.a (.i .i64 ((tl : Nat) : Int)))), (23, .o (.a (.b (decide (((tl : Nat) : Int) > (0 : Int)))))), (24, .o (.a (.p 0 0))), (25, .o (.a (.p 0 0))), (26, .o (.a (.p 0 8))), (27, .o (.a (.rs 1 0 tl 1))), (28, .o (.a (.i .i64 ((tl : Nat) : Int)))), (29, .o (.a (.i .i64 (IntKind.i64.wrap ((128 : Int) - ((tl : Nat) : Int)))))), (30, .o (.a (.sl 3 0 n cap3))), (31, .o (.a (.i .i64 ((n : Nat) : Int)))), (32, .o (.a (.i .i64 (if ((n : Nat) : Int) < (IntKind.i64.wrap ((128 : Int) - ((tl : Nat) : Int))) then ((n : Nat) : Int) else (IntKind.i64.wrap ((128 : Int) - ((tl : Nat) : Int))))))), (33, .o (.a (.p 0 0))), (34, .o (.a (.p 0 0))), (35, .o (.a (.p 0 0))), (36, .o (.a (.p 0 8))), (37, .o (.a (.rs 1 0 tl 1))), (38, .o (.a (.sl 3 0 n cap3))), (39, .o (.a (.i .i64 ((((128 : Nat) - tl) : Nat) : Int)))), (40, .o (.a (.sl 3 0 ((128 : Nat) - tl) cap3))), (41, .o (.a (.rs 4 0 (tl + ((128 : Nat) - tl)) 1))), (42, .o (.a (.sl 3 0 n cap3))), (43, .o (.a (.i .i64 ((((128 : Nat) - tl) : Nat) : Int)))), (44, .o (.a (.sl 3 ((0 : Nat) + ((128 : Nat) - tl)) (n - ((128 : Nat) - tl)) (cap3 - ((128 : Nat) - tl))))), (45, .o (.a (.p 0 0))), (46, .o (.a (.p 0 8))), (47, .o (.a (.p 0 0))), (48, .o (.a (.p 0 0))), (49, .o (.a (.p 0 8))), (50, .o (.a (.rs 4 0 (tl + ((128 : Nat) - tl)) 1))), (51, .o (.a (.i .i64 (((tl + ((128 : Nat) - tl)) : Nat) : Int)))), (52, .o (.a (.b (decide ((((tl + ((128 : Nat) - tl)) : Nat) : Int) < (128 : Int)))))), (53, .o (.a (.p 0 0))), (54, .o (.a (.p 0 0))), (55, .o (.a (.p 0 0))), (56, .o (.a (.p 0 0))), (57, .o (.g [.ints .u64 (8 : Nat) S])), (58, .o (.a (.p 0 0))), (59, .o (.a (.p 0 0))), (60, .o (.a (.p 0 8))), (61, .o (.a (.rs 4 0 (tl + ((128 : Nat) - tl)) 1))), (62, .o (.a (.p 0 0))), (63, .o (.a (.p 0 0))), (64, .o (.a (.p 0 10))), (65, .o (.a (.p 2 0))), (66, .o (.g [.ints .u64 (8 : Nat) (blk S (sub ((sub L 0 tl) ++ (sub b 0 ((128 : Nat) - tl))) (0 : Nat) (tl + ((128 : Nat) - tl))) C)])), (67, .o (.a (.p 0 0))), (68, .o (.a (.p 0 0))), (69, .o (.a (.p 0 0))), (70, .o (.a (.p 0 0))), (71, .o (.a (.p 0 0))), (72, .o (.a (.p 0 8))), (73, .o (.a (.rs 4 0 (tl + ((128 : Nat) - tl)) 1))), (74, .o (.a (.rs 4 0 (0 : Nat) 1))), (75, .o (.a (.p 0 0))), (76, .o (.a (.p 0 8)))], [some ⟨true, [.ints .u64 (8 : Nat) (wCL_step tl C b k s), .rs 4 0 (0 : Nat) 1, .i .u64 (IntKind.u64.wrap (N + (IntKind.u64.wrap ((n : Nat) : Int)))), .p 2 0]⟩, none, some ⟨false, [.ints .u64 (80 : Nat) C]⟩, some ⟨false, [.ints .u8 nm b]⟩, some ⟨true, [.ints .u8 (tl + ((128 : Nat) - tl)) ((sub L 0 tl) ++ (sub b 0 ((128 : Nat) - tl)))]⟩]⟩) (ex := .normal) mix tabOkSD gam12_ok
    (vc := [(((0 : Int) ≤ (128 : Int)) ∧ ((128 : Int) ≤ ((((n - ((128 : Nat) - tl)) - ((128 : Nat) * k)) : Nat) : Int))), ((True ∧ ((((((0 : Nat) + ((128 : Nat) - tl)) + ((128 : Nat) * k)) + (128 : Nat)) ≤ nm) ∧ (True ∧ True))) ∧ (((128 : Nat) = (128 : Nat)) ∧ ((128 : Nat) = (128 : Nat)))), (((0 : Int) ≤ (0 : Int)) ∧ ((0 : Int) ≤ (128 : Int)) ∧ ((128 : Int) ≤ ((((cap3 - ((128 : Nat) - tl)) - ((128 : Nat) * k)) : Nat) : Int))), ((decide (((((n - ((128 : Nat) - tl)) - ((128 : Nat) * k)) : Nat) : Int) ≥ (128 : Int))) = true)]) (by kernel_rfl)
    (aC ⟨(by decide), (by first | omega | (simp (disch := omega) only [wrapI]; omega))⟩ (aC ⟨⟨trivial, ⟨(by first | omega | (simp (disch := omega) only [wrapI]; omega)), ⟨trivial, trivial⟩⟩⟩, ⟨rfl, rfl⟩⟩ (aC ⟨(by decide), (by decide), (by first | omega | (simp (disch := omega) only [wrapI]; omega))⟩ (aC (decide_eq_true (by first | omega | (simp (disch := omega) only [wrapI]; omega))) (AllP_nil)))))
  rw [e0, e1, e2] at h
  exact h

set_option maxHeartbeats 1000000 in
theorem wCL_last (S : List Int) (tl : Nat) (N : Int) (L C : List Int) (n nm : Nat) (b : List Int) (cap3 : Nat) (h0 : (nm = n)) (h1 : (tl < (128 : Nat))) (h2 : (n < (140737488355328 : Nat))) (hc3 : n ≤ cap3) (hl0_0 : List.length S = (8 : Nat)) (hl1_0 : List.length L = tl) (hl2_0 : List.length C = (80 : Nat)) (hl3_0 : List.length b = nm) (hp : 0 < tl) (hp2 : 128 ≤ tl + n) (w : World) (rw : List Nat) (β : Env) (s : (List Int)) : Run Try.prog ⟨w, rw, 4, β⟩ (loopB Try.f31 0) (wCL_mk S tl N L C n nm b cap3 ((n - ((128 : Nat) - tl)) / (128 : Nat)) s) (To ⟨w, rw, 4, β⟩ (.exit 0) (wCL_mk S tl N L C n nm b cap3 ((n - ((128 : Nat) - tl)) / (128 : Nat)) s)) :=
  Run.of_outT (B := ⟨w, rw, 4, β⟩) (Λ := noLam) (Ψ := noPsi) (fuel := 0) (ora := [false]) (l := [.forget [0, 1, 4, 5, 6, 7, 8, 9, 10, 11, 12, 13, 14, 15, 16, 17, 18, 19, 20, 21, 22, 23, 24, 25, 26, 27, 28, 29, 30, 31, 32, 33, 34, 35, 36, 37, 38, 39, 40, 41, 42, 43, 44, 45, 46, 47, 48, 49, 50, 51, 52, 53, 54, 55, 56, 57, 58, 59, 60, 61, 62, 63, 64, 65, 66, 67, 68, 69, 70, 71, 72, 73, 74, 75, 76] 5]) mix tabOkSD gam12_ok
    (vc := [((decide (((((n - ((128 : Nat) - tl)) - ((128 : Nat) * ((n - ((128 : Nat) - tl)) / (128 : Nat)))) : Nat) : Int) ≥ (128 : Int))) = false)]) (by kernel_rfl)
    (aC (decide_eq_false (by first | omega | (simp (disch := omega) only [wrapI]; omega))) (AllP_nil))

theorem wCL_loop (S : List Int) (tl : Nat) (N : Int) (L C : List Int) (n nm : Nat) (b : List Int) (cap3 : Nat) (h0 : (nm = n)) (h1 : (tl < (128 : Nat))) (h2 : (n < (140737488355328 : Nat))) (hc3 : n ≤ cap3) (hl0_0 : List.length S = (8 : Nat)) (hl1_0 : List.length L = tl) (hl2_0 : List.length C = (80 : Nat)) (hl3_0 : List.length b = nm) (hp : 0 < tl) (hp2 : 128 ≤ tl + n) (w : World) (rw : List Nat) (β : Env) (s : (List Int)) : Run Try.prog ⟨w, rw, 4, β⟩ (.block 0 (.loop (loopB Try.f31 0))) (wCL_mk S tl N L C n nm b cap3 0 s) (To ⟨w, rw, 4, β⟩ .normal (wCL_mk S tl N L C n nm b cap3 ((n - ((128 : Nat) - tl)) / (128 : Nat)) (iter (wCL_step tl C b) ((n - ((128 : Nat) - tl)) / (128 : Nat)) s))) :=
  Run.count (fun k => wCL_mk S tl N L C n nm b cap3 k (iter (wCL_step tl C b) k s)) ((n - ((128 : Nat) - tl)) / (128 : Nat)) (fun k hk => wCL_round S tl N L C n nm b cap3 h0 h1 h2 hc3 hl0_0 hl1_0 hl2_0 hl3_0 hp hp2 w rw β k hk _) (ex := (.exit 0)) (by simp) (wCL_last S tl N L C n nm b cap3 h0 h1 h2 hc3 hl0_0 hl1_0 hl2_0 hl3_0 hp hp2 w rw β _)

def wCL_out0 (tl : Nat) (C b : List Int) (n : Nat) (i0 : List Int) : List Int := (iter (wCL_step tl C b) ((n - ((128 : Nat) - tl)) / (128 : Nat)) (i0))

def wC (S : List Int) (tl : Nat) (L C : List Int) (n : Nat) (b : List Int) : List Int :=
  (wCL_out0 tl C b n (blk S (sub ((sub L 0 tl) ++ (sub b 0 ((128 : Nat) - tl))) (0 : Nat) (tl + ((128 : Nat) - tl))) C))

def wC_1 (tl n : Nat) : Nat :=
  let z0 : Nat := (n - ((128 : Nat) - tl))
  ((0 : Nat) + (z0 - ((128 : Nat) * (z0 / (128 : Nat)))))

def wC_2 (N : Int) (n : Nat) : Int :=
  (IntKind.u64.wrap (N + (IntKind.u64.wrap ((n : Nat) : Int))))

def wC_3 (tl : Nat) (L : List Int) (n : Nat) (b : List Int) : List Int :=
  let z0 : Nat := (n - ((128 : Nat) - tl))
  let z1 : Nat := ((128 : Nat) * (z0 / (128 : Nat)))
  ((sub ((sub L 0 tl) ++ (sub b 0 ((128 : Nat) - tl))) (0 : Nat) (0 : Nat)) ++ (sub b (((0 : Nat) + ((128 : Nat) - tl)) + z1) (z0 - z1)))

set_option maxHeartbeats 1000000 in
theorem wC_body0 (S : List Int) (tl : Nat) (N : Int) (L C : List Int) (n nm : Nat) (b : List Int) (cap3 : Nat) (h0 : (nm = n)) (h1 : (tl < (128 : Nat))) (h2 : (n < (140737488355328 : Nat))) (hc3 : n ≤ cap3) (hl0_0 : List.length S = (8 : Nat)) (hl1_0 : List.length L = tl) (hl2_0 : List.length C = (80 : Nat)) (hl3_0 : List.length b = nm) (hp : 0 < tl) (hp2 : 128 ≤ tl + n) (w : World) (rw : List Nat) (β : Env) : Body Try.prog (tabOf tabSD) Try.f31 ⟨w, rw, 4, β⟩ [.o (.a (.p 0 0)), .o (.a (.sl 3 0 n cap3))] [some ⟨true, [.ints .u64 (8 : Nat) S, .rs 1 0 tl 1, .i .u64 N, .p 2 0]⟩, some ⟨true, [.ints .u8 tl L]⟩, some ⟨false, [.ints .u64 (80 : Nat) C]⟩, some ⟨false, [.ints .u8 nm b]⟩] (fun ys K' => ys = [] ∧ K' = [some ⟨true, [.ints .u64 (8 : Nat) (wC S tl L C n b), .rs 4 0 (wC_1 tl n) 1, .i .u64 (wC_2 N n), .p 2 0]⟩, none, some ⟨false, [.ints .u64 (80 : Nat) C]⟩, some ⟨false, [.ints .u8 nm b]⟩, some ⟨true, [.ints .u8 (wC_1 tl n) (wC_3 tl L n b)]⟩]) :=
  Body.of_finK (Γ := gam12) (Λ := lamOf [(0, ⟨[.forget [0, 1, 4, 5, 6, 7, 8, 9, 10, 11, 12, 13, 14, 15, 16, 17, 18, 19, 20, 21, 22, 23, 24, 25, 26, 27, 28, 29, 30, 31, 32, 33, 34, 35, 36, 37, 38, 39, 40, 41, 42, 43, 44, 45, 46, 47, 48, 49, 50, 51, 52, 53, 54, 55, 56, 57, 58, 59, 60, 61, 62, 63, 64, 65, 66, 67, 68, 69, 70, 71, 72, 73, 74, 75, 76] 5], .normal, (wCL_mk S tl N L C n nm b cap3 ((n - ((128 : Nat) - tl)) / (128 : Nat)) (iter (wCL_step tl C b) ((n - ((128 : Nat) - tl)) / (128 : Nat)) ((blk S (sub ((sub L 0 tl) ++ (sub b 0 ((128 : Nat) - tl))) (0 : Nat) (tl + ((128 : Nat) - tl))) C))))⟩)]) (Ψ := psiOf [(3, [.eqS 4 (.o (.a (.i .i64 ((((128 : Nat) - tl) : Nat) : Int))))])]) (fuel := 0) (m := 105) (c := (Try.f31.body.getD .skip)) mix tabOkSD gam12_ok rfl (rs := []) rfl rfl [false, true, false, false, false] [.swap 4 5, .forget [] 5] 5
    (vc := [(((0 : Nat) ≤ (tl + ((128 : Nat) - tl))) ∧ ((((n - ((128 : Nat) - tl)) - ((128 : Nat) * ((n - ((128 : Nat) - tl)) / (128 : Nat)))) ≤ ((n - ((128 : Nat) - tl)) - ((128 : Nat) * ((n - ((128 : Nat) - tl)) / (128 : Nat))))) ∧ (((((0 : Nat) + ((128 : Nat) - tl)) + ((128 : Nat) * ((n - ((128 : Nat) - tl)) / (128 : Nat)))) + ((n - ((128 : Nat) - tl)) - ((128 : Nat) * ((n - ((128 : Nat) - tl)) / (128 : Nat))))) ≤ nm)) ∧ ((((0 : Nat) + ((n - ((128 : Nat) - tl)) - ((128 : Nat) * ((n - ((128 : Nat) - tl)) / (128 : Nat))))) * (1 : Nat)) ≤ (140737488355328 : Nat))), (Run Try.prog ⟨w, rw, 4, β⟩ (.block 0 (.loop (loopB Try.f31 0))) (wCL_mk S tl N L C n nm b cap3 0 ((blk S (sub ((sub L 0 tl) ++ (sub b 0 ((128 : Nat) - tl))) (0 : Nat) (tl + ((128 : Nat) - tl))) C))) (To ⟨w, rw, 4, β⟩ .normal (wCL_mk S tl N L C n nm b cap3 ((n - ((128 : Nat) - tl)) / (128 : Nat)) (iter (wCL_step tl C b) ((n - ((128 : Nat) - tl)) / (128 : Nat)) ((blk S (sub ((sub L 0 tl) ++ (sub b 0 ((128 : Nat) - tl))) (0 : Nat) (tl + ((128 : Nat) - tl))) C)))))), (((0 : Int) ≤ (0 : Int)) ∧ ((0 : Int) ≤ (0 : Int)) ∧ ((0 : Int) ≤ (((tl + ((128 : Nat) - tl)) : Nat) : Int))), ((True ∧ ((((0 : Nat) + (tl + ((128 : Nat) - tl))) ≤ (tl + ((128 : Nat) - tl))) ∧ (True ∧ True))) ∧ (((tl + ((128 : Nat) - tl)) = (tl + ((128 : Nat) - tl))) ∧ ((tl + ((128 : Nat) - tl)) = (128 : Nat)))), ((decide ((((tl + ((128 : Nat) - tl)) : Nat) : Int) < (128 : Int))) = false), (((0 : Int) ≤ ((((128 : Nat) - tl) : Nat) : Int)) ∧ (((((128 : Nat) - tl) : Nat) : Int) ≤ ((n : Nat) : Int))), ((((0 : Nat) + tl) ≤ tl) ∧ ((((128 : Nat) - tl) ≤ ((128 : Nat) - tl)) ∧ (((0 : Nat) + ((128 : Nat) - tl)) ≤ nm)) ∧ (((tl + ((128 : Nat) - tl)) * (1 : Nat)) ≤ (140737488355328 : Nat))), (((0 : Int) ≤ (0 : Int)) ∧ ((0 : Int) ≤ ((((128 : Nat) - tl) : Nat) : Int)) ∧ (((((128 : Nat) - tl) : Nat) : Int) ≤ ((cap3 : Nat) : Int))), ((.o (.a (.i .i64 (if ((n : Nat) : Int) < (IntKind.i64.wrap ((128 : Int) - ((tl : Nat) : Int))) then ((n : Nat) : Int) else (IntKind.i64.wrap ((128 : Int) - ((tl : Nat) : Int)))))) : AV) = .o (.a (.i .i64 ((((128 : Nat) - tl) : Nat) : Int)))), ((decide (((tl : Nat) : Int) > (0 : Int))) = true), (false = false), ((True ∧ True) ∧ (tl = tl))]) (by kernel_rfl)
    (aC ⟨(by first | omega | (simp (disch := omega) only [wrapI]; omega)), ⟨(by first | omega | (simp (disch := omega) only [wrapI]; omega)), (by first | omega | (simp (disch := omega) only [wrapI]; omega))⟩, (by first | omega | (simp (disch := omega) only [wrapI]; omega))⟩ (aC (wCL_loop S tl N L C n nm b cap3 h0 h1 h2 hc3 hl0_0 hl1_0 hl2_0 hl3_0 hp hp2 w rw β ((blk S (sub ((sub L 0 tl) ++ (sub b 0 ((128 : Nat) - tl))) (0 : Nat) (tl + ((128 : Nat) - tl))) C))) (aC ⟨(by decide), (by decide), (by first | omega | (simp (disch := omega) only [wrapI]; omega))⟩ (aC ⟨⟨trivial, ⟨(by first | omega | (simp (disch := omega) only [wrapI]; omega)), ⟨trivial, trivial⟩⟩⟩, ⟨rfl, (by first | omega | (simp (disch := omega) only [wrapI]; omega))⟩⟩ (aC (decide_eq_false (by first | omega | (simp (disch := omega) only [wrapI]; omega))) (aC ⟨(by first | omega | (simp (disch := omega) only [wrapI]; omega)), (by first | omega | (simp (disch := omega) only [wrapI]; omega))⟩ (aC ⟨(by first | omega | (simp (disch := omega) only [wrapI]; omega)), ⟨(by first | omega | (simp (disch := omega) only [wrapI]; omega)), (by first | omega | (simp (disch := omega) only [wrapI]; omega))⟩, (by first | omega | (simp (disch := omega) only [wrapI]; omega))⟩ (aC ⟨(by decide), (by first | omega | (simp (disch := omega) only [wrapI]; omega)), (by first | omega | (simp (disch := omega) only [wrapI]; omega))⟩ (aC ((congrArg (fun z => AV.o (.a (.i .i64 z))) (wmin_big hp2 h1))) (aC (decide_eq_true (by first | omega | (simp (disch := omega) only [wrapI]; omega))) (aC rfl (aC ⟨⟨trivial, trivial⟩, rfl⟩ (AllP_nil)))))))))))))

end Go.Proofs.Ytepimglipelpmaa.X

/- A Hasher that takes some more bytes: what it holds then, in one form. -/
namespace Go.Proofs.Ytepimglipelpmaa.X
open Go Go.Proofs
set_option linter.unusedVariables false

theorem iter_congr {α : Type} {f g : Nat → α → α} : ∀ {k : Nat} {s : α}, (∀ i s, i < k → f i s = g i s) → iter f k s = iter g k s
  | 0, _, _ => rfl
  | k + 1, s, h => by
    show f k (iter f k s) = g k (iter g k s)
    rw [iter_congr fun i s hi => h i s (by omega), h k _ (by omega)]

theorem iter_head {α : Type} {f : Nat → α → α} : ∀ {k : Nat} {s : α}, iter f (k + 1) s = iter (fun i => f (i + 1)) k (f 0 s)
  | 0, _ => rfl
  | k + 1, s => by
    show f (k + 1) (iter f (k + 1) s) = f (k + 1) (iter (fun i => f (i + 1)) k (f 0 s))
    rw [iter_head]

/-- the state behind k blocks -/
def absN (C D : List Int) (k : Nat) (S : List Int) : List Int := iter (fun i s => blk s (sub D (128 * i) 128) C) k S

theorem sub_all {α : Type} (l : List α) (m : Nat) (h : l.length ≤ m) : sub l 0 m = l := by
  simp [sub, List.take_of_length_le h]
theorem sub_drop {α : Type} (l : List α) (c m : Nat) (h : l.length ≤ c + m) : sub l c m = l.drop c := by
  unfold sub; rw [List.take_of_length_le (by simp; omega)]
theorem sub_zero {α : Type} (l : List α) (c : Nat) : sub l c 0 = [] := by simp [sub]

def wrS (C S L b : List Int) (tl n : Nat) : List Int := absN C (L ++ b) ((tl + n) / 128) S
def wrT (tl n : Nat) : Nat := (tl + n) % 128
def wrN (N : Int) (n : Nat) : Int := IntKind.u64.wrap (N + IntKind.u64.wrap ((n : Nat) : Int))
def wrL (L b : List Int) (tl n : Nat) : List Int := (L ++ b).drop (128 * ((tl + n) / 128))

theorem wr_body (S : List Int) (tl : Nat) (N : Int) (L C : List Int) (n nm : Nat) (b : List Int) (cap3 : Nat) (h0 : (nm = n)) (h1 : (tl < (128 : Nat))) (h2 : (n < (140737488355328 : Nat))) (w : World) (rw : List Nat) (β : Env) :
    Body Try.prog (tabOf tabSD) Try.f31 ⟨w, rw, 4, β⟩ [.o (.a (.p 0 0)), .o (.a (.sl 3 0 n cap3))] [some ⟨true, [.ints .u64 (8 : Nat) S, .rs 1 0 tl 1, .i .u64 N, .p 2 0]⟩, some ⟨true, [.ints .u8 tl L]⟩, some ⟨false, [.ints .u64 (80 : Nat) C]⟩, some ⟨false, [.ints .u8 nm b]⟩]
      (fun ys K' => ys = [] ∧ K' = [some ⟨true, [.ints .u64 (8 : Nat) (wrS C S L b tl n), .rs 4 0 (wrT tl n) 1, .i .u64 (wrN N n), .p 2 0]⟩, none, some ⟨false, [.ints .u64 (80 : Nat) C]⟩, some ⟨false, [.ints .u8 nm b]⟩, some ⟨true, [.ints .u8 (wrT tl n) (wrL L b tl n)]⟩]) := by
  refine Body.lens (c := (Try.f31.body.getD .skip)) rfl fun h => ?_
  have hc3 : n ≤ cap3 := h.caps 1 _ _ _ _ rfl
  have hS : S.length = 8 := h.lens 0 _ .u64 8 S rfl (by simp)
  have hL : L.length = tl := h.lens 1 _ .u8 tl L rfl (by simp)
  have hC : C.length = 80 := h.lens 2 _ .u64 80 C rfl (by simp)
  have hb : b.length = nm := h.lens 3 _ .u8 nm b rfl (by simp)
  subst h0
  by_cases hp : tl = 0
  · refine (wA_body0 S tl N L C nm nm b cap3 rfl h1 h2 hc3 hS hL hC hb hp w rw β).mono fun xs K hx => ?_
    obtain ⟨rfl, rfl⟩ := hx
    have hnil : L = [] := List.length_eq_zero_iff.1 (by omega)
    have e1 : wAL_out0 C b nm S = wrS C S L b tl nm := by
      unfold wAL_out0 wrS absN
      rw [hp, hnil, Nat.zero_add]
      exact iter_congr fun i s hi => rfl
    have e2 : wA tl nm = wrT tl nm := by unfold wA wrT; omega
    have e3 : wA_2 tl L nm b = wrL L b tl nm := by
      unfold wA_2 wrL
      rw [hnil, hp, sub_zero, List.nil_append, List.nil_append, sub_drop _ _ _ (by omega), Nat.zero_add]
    have e4 : wA_1 N nm = wrN N nm := rfl
    rw [e1, e2, e3, e4]; exact ⟨rfl, rfl⟩
  · by_cases hq : tl + nm < 128
    · refine (wB_body0 S tl N L C nm nm b cap3 rfl h1 h2 hc3 hS hL hC hb (by omega) hq w rw β).mono fun xs K hx => ?_
      obtain ⟨rfl, rfl⟩ := hx
      have hd : (tl + nm) / 128 = 0 := by omega
      have e1 : S = wrS C S L b tl nm := by unfold wrS absN; rw [hd]; rfl
      have e2 : wB tl nm = wrT tl nm := by unfold wB wrT; omega
      have e3 : wB_2 tl L nm b = wrL L b tl nm := by
        unfold wB_2 wrL
        rw [hd, sub_all _ _ (by omega), sub_all _ _ (by omega)]; rfl
      have e4 : wB_1 N nm = wrN N nm := rfl
      rw [e2, e3, e4, ← e1]; exact ⟨rfl, rfl⟩
    · refine (wC_body0 S tl N L C nm nm b cap3 rfl h1 h2 hc3 hS hL hC hb (by omega) (by omega) w rw β).mono fun xs K hx => ?_
      obtain ⟨rfl, rfl⟩ := hx
      have hd : (tl + nm) / 128 = (nm - (128 - tl)) / 128 + 1 := by omega
      have hfirst : sub ((sub L 0 tl) ++ (sub b 0 ((128 : Nat) - tl))) (0 : Nat) (tl + ((128 : Nat) - tl)) = sub (L ++ b) 0 128 := by
        rw [sub_all L _ (by omega), sub_all _ _ (by simp [sub]; omega)]
        unfold sub
        simp only [List.drop_zero]
        rw [List.take_append, List.take_of_length_le (l := L) (by omega), hL]
      have e1 : wC S tl L C nm b = wrS C S L b tl nm := by
        unfold wC wCL_out0 wrS absN
        rw [hfirst, hd, iter_head]
        refine iter_congr fun i s hi => ?_
        show blk s _ C = blk s _ C
        congr 1
        unfold sub
        rw [List.drop_append, List.drop_of_length_le (l := L) (by omega), List.nil_append, hL]
        congr 2; omega
      have e2 : wC_1 tl nm = wrT tl nm := by unfold wC_1 wrT; simp only; omega
      have e3 : wC_3 tl L nm b = wrL L b tl nm := by
        unfold wC_3 wrL
        simp only
        rw [sub_zero, List.nil_append, hd, List.drop_append, List.drop_of_length_le (l := L) (by omega), List.nil_append, hL, sub_drop _ _ _ (by omega)]
        congr 1; omega
      have e4 : wC_2 N nm = wrN N nm := rfl
      rw [e1, e2, e3, e4]; exact ⟨rfl, rfl⟩
end Go.Proofs.Ytepimglipelpmaa.X

/- Plain lemmas on the bytes behind a message, for the walk of a Hasher's Sum. -/
namespace Go.Proofs.Ytepimglipelpmaa.X
open Go Go.Proofs

theorem pad_eq (N : Int) : pad N = (padE N).toNat + 16 := rfl

theorem pad_le (N : Int) : 17 ≤ pad N ∧ pad N ≤ 144 := by
  have := padE_ok N
  rw [pad_eq]; omega

theorem pad_mod {N : Int} {tl : Nat} (h0 : 0 ≤ N) (h : Int.tmod N 128 = ((tl : Nat) : Int)) : (tl + pad N) % 128 = 0 ∧ tl < 128 := by
  have h1 : Int.tmod N 128 = N % 128 := Int.tmod_eq_emod_of_nonneg h0
  have h2 : padE N = 1 + (239 - (tl : Int)) % 128 := by
    unfold padE
    rw [h]
    have : (tl : Int) < 128 := by omega
    rw [wrapU (x := 239 - (tl : Int)) (by omega) (by omega), Int.tmod_eq_emod_of_nonneg (by omega), wrapU (by omega) (by omega)]
  rw [pad_eq, h2]
  omega
end Go.Proofs.Ytepimglipelpmaa.X

/- Printed by a tool of this session. -/
namespace Go.Proofs.Ytepimglipelpmaa.X
open Go Go.Proofs
set_option linter.unusedVariables false
set_option linter.unusedSimpArgs false
set_option maxRecDepth 100000
theorem teSG_3 : TEOk Try.prog 3 ⟨.int .i64, 1, 8, [.i .i64 (0 : Int)], false⟩ :=
  TEOk.of Try.underlying3 (i := Try.t3) (by kernel_rfl) rfl rfl rfl (by kernel_rfl) (fun h => by cases h) (by kernel_rfl)
theorem teSG_5 : TEOk Try.prog 5 ⟨.int .u8, 1, 1, [.i .u8 (0 : Int)], false⟩ :=
  TEOk.of Try.underlying5 (i := Try.t5) (by kernel_rfl) rfl rfl rfl (by kernel_rfl) (fun h => by cases h) (by kernel_rfl)
theorem teSG_22 : TEOk Try.prog 22 ⟨.slice 5, 1, 24, [.raw (.slice none 0 0)], false⟩ :=
  TEOk.of Try.underlying22 (i := Try.t22) (by kernel_rfl) rfl rfl rfl (by kernel_rfl) (fun h => by cases h) (by kernel_rfl)
theorem teSG_42 : TEOk Try.prog 42 ⟨.array 64 5, 64, 64, [.ints .u8 (64 : Nat) ([0, 0, 0, 0, 0, 0, 0, 0, 0, 0, 0, 0, 0, 0, 0, 0, 0, 0, 0, 0, 0, 0, 0, 0, 0, 0, 0, 0, 0, 0, 0, 0, 0, 0, 0, 0, 0, 0, 0, 0, 0, 0, 0, 0, 0, 0, 0, 0, 0, 0, 0, 0, 0, 0, 0, 0, 0, 0, 0, 0, 0, 0, 0, 0] : List Int)], true⟩ :=
  TEOk.of Try.underlying42 (i := Try.t42) (by kernel_rfl) rfl rfl rfl (by kernel_rfl) (fun _ => Try.eqGuardType42) (by kernel_rfl)
theorem teSG_52 : TEOk Try.prog 52 ⟨.int .u64, 1, 8, [.i .u64 (0 : Int)], false⟩ :=
  TEOk.of Try.underlying52 (i := Try.t52) (by kernel_rfl) rfl rfl rfl (by kernel_rfl) (fun h => by cases h) (by kernel_rfl)
theorem teSG_53 : TEOk Try.prog 53 ⟨.array 8 52, 8, 64, [.ints .u64 (8 : Nat) ([0, 0, 0, 0, 0, 0, 0, 0] : List Int)], true⟩ :=
  TEOk.of Try.underlying53 (i := Try.t53) (by kernel_rfl) rfl rfl rfl (by kernel_rfl) (fun _ => Try.eqGuardType53) (by kernel_rfl)
theorem teSG_100 : TEOk Try.prog 100 ⟨.pointer 65, 1, 8, [.raw (.pointer none)], false⟩ :=
  TEOk.of Try.underlying100 (i := Try.t100) (by kernel_rfl) rfl rfl rfl (by kernel_rfl) (fun h => by cases h) (by kernel_rfl)
theorem teSG_102 : TEOk Try.prog 102 ⟨Try.t101.desc, 11, 104, [.ints .u64 (8 : Nat) ([0, 0, 0, 0, 0, 0, 0, 0] : List Int), .raw (.slice none 0 0), .i .u64 (0 : Int), .raw (.pointer none)], false⟩ :=
  TEOk.of Try.underlying102 (i := Try.t102) (by kernel_rfl) rfl rfl rfl (by kernel_rfl) (fun h => by cases h) (by kernel_rfl)
noncomputable def tabSG : List (Nat × TE) := [(3, ⟨.int .i64, 1, 8, [.i .i64 (0 : Int)], false⟩), (5, ⟨.int .u8, 1, 1, [.i .u8 (0 : Int)], false⟩), (22, ⟨.slice 5, 1, 24, [.raw (.slice none 0 0)], false⟩), (42, ⟨.array 64 5, 64, 64, [.ints .u8 (64 : Nat) ([0, 0, 0, 0, 0, 0, 0, 0, 0, 0, 0, 0, 0, 0, 0, 0, 0, 0, 0, 0, 0, 0, 0, 0, 0, 0, 0, 0, 0, 0, 0, 0, 0, 0, 0, 0, 0, 0, 0, 0, 0, 0, 0, 0, 0, 0, 0, 0, 0, 0, 0, 0, 0, 0, 0, 0, 0, 0, 0, 0, 0, 0, 0, 0] : List Int)], true⟩), (52, ⟨.int .u64, 1, 8, [.i .u64 (0 : Int)], false⟩), (53, ⟨.array 8 52, 8, 64, [.ints .u64 (8 : Nat) ([0, 0, 0, 0, 0, 0, 0, 0] : List Int)], true⟩), (100, ⟨.pointer 65, 1, 8, [.raw (.pointer none)], false⟩), (102, ⟨Try.t101.desc, 11, 104, [.ints .u64 (8 : Nat) ([0, 0, 0, 0, 0, 0, 0, 0] : List Int), .raw (.slice none 0 0), .i .u64 (0 : Int), .raw (.pointer none)], false⟩)]
theorem tabOkSG : TabOk Try.prog (tabOf tabSG) := (tabOf_cons teSG_3 (tabOf_cons teSG_5 (tabOf_cons teSG_22 (tabOf_cons teSG_42 (tabOf_cons teSG_52 (tabOf_cons teSG_53 (tabOf_cons teSG_100 (tabOf_cons teSG_102 tabOf_nil))))))))

def gam13 : Gam := gcall 31 [true, true, false] [.w, .s 1] (fun wk vs args => match wk, vs, args with | [⟨true, [.ints .u64 (8 : Nat) S, .rs 1 0 tl 1, .i .u64 N, .p 2 0]⟩, ⟨true, [.ints .u8 tl_1 L]⟩, ⟨false, [.ints .u64 (80 : Nat) C]⟩], [⟨_, _, _, [.ints .u8 nm b]⟩], [.o (.a (.p 0 0)), .o (.a (.sl 3 0 n _))] => some ((tl_1 = tl) ∧ (nm = n) ∧ (tl < (128 : Nat)) ∧ (n < (140737488355328 : Nat)), [], [some ⟨true, [.ints .u64 (8 : Nat) (wrS C S L b tl n), .rs 4 0 (wrT tl n) 1, .i .u64 (wrN N n), .p 2 0]⟩, none, some ⟨false, [.ints .u64 (80 : Nat) C]⟩, some ⟨false, [.ints .u8 nm b]⟩, some ⟨true, [.ints .u8 (wrT tl n) (wrL L b tl n)]⟩]) | _, _, _ => none) gam12
theorem gam13_ok : GamOk Try.prog gam13 := gcall_ok tabOkSG Try.func31 gam12_ok Try.call31 (by
  intro wk vs args p xs K1 h hv
  split at h
  · simp only [Option.some.injEq, Prod.mk.injEq] at h; obtain ⟨rfl, rfl, rfl⟩ := h; obtain ⟨g0, g1, g2, g3⟩ := hv; subst g0; exact fun caps w rw β => wr_body _ _ _ _ _ _ _ _ _ g1 g2 g3 w rw β
  · simp at h)

def sumL_mk (S : List Int) (tl : Nat) (N : Int) (L C : List Int) (k : Nat) (s : (List Int)) : St := ⟨sparse 64 [(0, .o (.a (.p 0 0))), (2, .o (.a (.p 3 0))), (3, .o (.a (.p 4 0))), (4, .o (.a (.p 5 0))), (5, .o (.a (.sl 6 ((128 : Nat) * k) ((tl + (pad N)) - ((128 : Nat) * k)) ((512 : Nat) - ((128 : Nat) * k))))), (7, .o (.a (.p 0 0))), (8, .o (.a (.b true))), (9, .o (.a (.b false))), (11, .o (.a (.p 0 0))), (12, .o (.a (.p 0 0))), (13, .o (.a (.p 0 0))), (14, .o (.g [.ints .u64 (8 : Nat) S])), (15, .o (.a (.p 0 0))), (16, .o (.a (.p 0 0))), (17, .o (.a (.p 0 8))), (18, .o (.a (.rs 1 0 tl 1))), (19, .o (.a (.i .i64 ((tl : Nat) : Int)))), (20, .o (.a (.sl 6 0 tl (512 : Nat)))), (21, .o (.a (.sl 6 0 tl (512 : Nat)))), (22, .o (.a (.p 0 0))), (23, .o (.a (.p 0 0))), (24, .o (.a (.p 0 8))), (25, .o (.a (.rs 1 0 tl 1))), (27, .o (.a (.sl 6 0 tl (512 : Nat)))), (28, .o (.a (.p 0 0))), (29, .o (.a (.p 0 0))), (30, .o (.a (.p 0 9))), (31, .o (.a (.i .u64 N))), (32, .o (.a (.sl 7 0 (pad N) (256 : Nat)))), (33, .o (.a (.sl 6 0 (tl + (pad N)) (512 : Nat))))], [some ⟨false, [.ints .u64 (8 : Nat) S, .rs 1 0 tl 1, .i .u64 N, .p 2 0]⟩, some ⟨false, [.ints .u8 tl L]⟩, some ⟨false, [.ints .u64 (80 : Nat) C]⟩, some ⟨true, [.ints .u8 (64 : Nat) ([0, 0, 0, 0, 0, 0, 0, 0, 0, 0, 0, 0, 0, 0, 0, 0, 0, 0, 0, 0, 0, 0, 0, 0, 0, 0, 0, 0, 0, 0, 0, 0, 0, 0, 0, 0, 0, 0, 0, 0, 0, 0, 0, 0, 0, 0, 0, 0, 0, 0, 0, 0, 0, 0, 0, 0, 0, 0, 0, 0, 0, 0, 0, 0] : List Int)]⟩, some ⟨true, [.ints .u8 (64 : Nat) ([0, 0, 0, 0, 0, 0, 0, 0, 0, 0, 0, 0, 0, 0, 0, 0, 0, 0, 0, 0, 0, 0, 0, 0, 0, 0, 0, 0, 0, 0, 0, 0, 0, 0, 0, 0, 0, 0, 0, 0, 0, 0, 0, 0, 0, 0, 0, 0, 0, 0, 0, 0, 0, 0, 0, 0, 0, 0, 0, 0, 0, 0, 0, 0] : List Int)]⟩, some ⟨true, [.ints .u64 (8 : Nat) s]⟩, some ⟨true, [.ints .u8 (512 : Nat) (splice (splice (List.replicate (512 : Nat) (0 : Int)) (0 : Nat) (min tl tl) (sub L 0 (min tl tl))) ((0 : Nat) + tl) (pad N) (sub (pad_1 N) (0 : Nat) (pad N)))]⟩, some ⟨true, [.ints .u8 (256 : Nat) (pad_1 N)]⟩]⟩

def sumL_step (tl : Nat) (N : Int) (L C : List Int) (k : Nat) (s : (List Int)) : (List Int) :=
  ((blk s (sub (splice (splice (List.replicate (512 : Nat) (0 : Int)) (0 : Nat) (min tl tl) (sub L 0 (min tl tl))) ((0 : Nat) + tl) (pad N) (sub (pad_1 N) (0 : Nat) (pad N))) ((128 : Nat) * k) (128 : Nat)) C))

set_option maxHeartbeats 1000000 in
theorem sumL_round (S : List Int) (tl : Nat) (N : Int) (L C : List Int) (h0 : ((0 : Int) ≤ N)) (h1 : ((Int.tmod N (128 : Int)) = ((tl : Nat) : Int))) (hl0_0 : List.length S = (8 : Nat)) (hl1_0 : List.length L = tl) (hl2_0 : List.length C = (80 : Nat)) (w : World) (rw : List Nat) (β : Env) (k : Nat) (hk : k < ((tl + (pad N)) / (128 : Nat))) (s : (List Int)) : Run Try.prog ⟨w, rw, 3, β⟩ (loopB Try.f33 0) (sumL_mk S tl N L C k s) (To ⟨w, rw, 3, β⟩ .normal (sumL_mk S tl N L C (k + 1) (sumL_step tl N L C k s))) := by
  have e0 : (((tl + (pad N)) - ((128 : Nat) * k)) - (128 : Nat)) = ((tl + (pad N)) - ((128 : Nat) * (k + (1 : Nat)))) := (by first | rfl | exact wrap_succ (by omega) | omega | (simp (disch := omega) only [wrapI]; omega))
  have e1 : (((512 : Nat) - ((128 : Nat) * k)) - (128 : Nat)) = ((512 : Nat) - ((128 : Nat) * (k + (1 : Nat)))) := (by first | rfl | exact wrap_succ (by omega) | omega | (simp (disch := omega) only [wrapI]; omega))
  have e2 : (((128 : Nat) * k) + (128 : Nat)) = ((128 : Nat) * (k + (1 : Nat))) := (by first | rfl | exact wrap_succ (by omega) | omega | (simp (disch := omega) only [wrapI]; omega))
  have h := Run.of_outT (B := ⟨w, rw, 3, β⟩) (Λ := noLam) (Ψ := noPsi) (fuel := 0) (ora := [true]) (c := (loopB Try.f33 0)) (st := (sumL_mk S tl N L C k s)) (l := [.forget [0, 2, 3, 4, 5, 7, 8, 9, 11, 12, 13, 14, 15, 16, 17, 18, 19, 20, 21, 22, 23, 24, 25, 27, 28, 29, 30, 31, 32, 33] 8]) (s' := ⟨sparse 64 [(0, .o (.a (.p 0 0))), (2, .o (.a (.p 3 0))), (3, .o (.a (.p 4 0))), (4, .o (.a (.p 5 0))), (5, .o (.a (.sl 6 (((128 : Nat) * k) + (128 : Nat)) (((tl + (pad N)) - ((128 : Nat) * k)) - (128 : Nat)) (((512 : Nat) - ((128 : Nat) * k)) - (128 : Nat))))), (7, .o (.a (.p 0 0))), (8, .o (.a (.b true))), (9, .o (.a (.b false))), (11, .o (.a (.p 0 0))), (12, .o (.a (.p 0 0))), (13, .o (.a (.p 0 0))), (14, .o (.g [.ints .u64 (8 : Nat) S])), (15, .o (.a (.p 0 0))), (16, .o (.a (.p 0 0))), (17, .o (.a (.p 0 8))), (18, .o (.a (.rs 1 0 tl 1))), (19, .o (.a (.i .i64 ((tl : Nat) : Int)))), (20, .o (.a (.sl 6 0 tl (512 : Nat)))), (21, .o (.a (.sl 6 0 tl (512 : Nat)))), (22, .o (.a (.p 0 0))), (23, .o (.a (.p 0 0))), (24, .o (.a (.p 0 8))), (25, .o (.a (.rs 1 0 tl 1))), (27, .o (.a (.sl 6 0 tl (512 : Nat)))), (28, .o (.a (.p 0 0))), (29, .o (.a (.p 0 0))), (30, .o (.a (.p 0 9))), (31, .o (.a (.i .u64 N))), (32, .o (.a (.sl 7 0 (pad N) (256 : Nat)))), (33, .o (.a (.sl 6 0 (tl + (pad N)) (512 : Nat))))], [some ⟨false, [.ints .u64 (8 : Nat) S, .rs 1 0 tl 1, .i .u64 N, .p 2 0]⟩, some ⟨false, [.ints .u8 tl L]⟩, some ⟨false, [.ints .u64 (80 : Nat) C]⟩, some ⟨true, [.ints .u8 (64 : Nat) ([0, 0, 0, 0, 0, 0, 0, 0, 0, 0, 0, 0, 0, 0, 0, 0, 0, 0, 0, 0, 0, 0, 0, 0, 0, 0, 0, 0, 0, 0, 0, 0, 0, 0, 0, 0, 0, 0, 0, 0, 0, 0, 0, 0, 0, 0, 0, 0, 0, 0, 0, 0, 0, 0, 0, 0, 0, 0, 0, 0, 0, 0, 0, 0] : List Int)]⟩, some ⟨true, [.ints .u8 (64 : Nat) ([0, 0, 0, 0, 0, 0, 0, 0, 0, 0, 0, 0, 0, 0, 0, 0, 0, 0, 0, 0, 0, 0, 0, 0, 0, 0, 0, 0, 0, 0, 0, 0, 0, 0, 0, 0, 0, 0, 0, 0, 0, 0, 0, 0, 0, 0, 0, 0, 0, 0, 0, 0, 0, 0, 0, 0, 0, 0, 0, 0, 0, 0, 0, 0] : List Int)]⟩, some ⟨true, [.ints .u64 (8 : Nat) (sumL_step tl N L C k s)]⟩, some ⟨true, [.ints .u8 (512 : Nat) (splice (splice (List.replicate (512 : Nat) (0 : Int)) (0 : Nat) (min tl tl) (sub L 0 (min tl tl))) ((0 : Nat) + tl) (pad N) (sub (pad_1 N) (0 : Nat) (pad N)))]⟩, some ⟨true, [.ints .u8 (256 : Nat) (pad_1 N)]⟩]⟩) (ex := .normal) mix tabOkSG gam13_ok
    (vc := [(((0 : Int) ≤ (128 : Int)) ∧ ((128 : Int) ≤ ((((tl + (pad N)) - ((128 : Nat) * k)) : Nat) : Int))), ((True ∧ (((((128 : Nat) * k) + (128 : Nat)) ≤ (512 : Nat)) ∧ (True ∧ True))) ∧ (((128 : Nat) = (128 : Nat)) ∧ ((128 : Nat) = (128 : Nat)))), (((0 : Int) ≤ (0 : Int)) ∧ ((0 : Int) ≤ (128 : Int)) ∧ ((128 : Int) ≤ ((((512 : Nat) - ((128 : Nat) * k)) : Nat) : Int))), ((decide (((((tl + (pad N)) - ((128 : Nat) * k)) : Nat) : Int) > (0 : Int))) = true)]) (by kernel_rfl)
    (aC ⟨(by decide), (by have hp1 := pad_le N; have hp2 := pad_mod h0 h1; first | omega | (simp (disch := omega) only [wrapI]; omega))⟩ (aC ⟨⟨trivial, ⟨(by have hp1 := pad_le N; have hp2 := pad_mod h0 h1; first | omega | (simp (disch := omega) only [wrapI]; omega)), ⟨trivial, trivial⟩⟩⟩, ⟨rfl, rfl⟩⟩ (aC ⟨(by decide), (by decide), (by have hp1 := pad_le N; have hp2 := pad_mod h0 h1; first | omega | (simp (disch := omega) only [wrapI]; omega))⟩ (aC (decide_eq_true (by have hp1 := pad_le N; have hp2 := pad_mod h0 h1; first | omega | (simp (disch := omega) only [wrapI]; omega))) (AllP_nil)))))
  rw [e0, e1, e2] at h
  exact h

set_option maxHeartbeats 1000000 in
theorem sumL_last (S : List Int) (tl : Nat) (N : Int) (L C : List Int) (h0 : ((0 : Int) ≤ N)) (h1 : ((Int.tmod N (128 : Int)) = ((tl : Nat) : Int))) (hl0_0 : List.length S = (8 : Nat)) (hl1_0 : List.length L = tl) (hl2_0 : List.length C = (80 : Nat)) (w : World) (rw : List Nat) (β : Env) (s : (List Int)) : Run Try.prog ⟨w, rw, 3, β⟩ (loopB Try.f33 0) (sumL_mk S tl N L C ((tl + (pad N)) / (128 : Nat)) s) (To ⟨w, rw, 3, β⟩ (.exit 0) (sumL_mk S tl N L C ((tl + (pad N)) / (128 : Nat)) s)) :=
  Run.of_outT (B := ⟨w, rw, 3, β⟩) (Λ := noLam) (Ψ := noPsi) (fuel := 0) (ora := [false]) (l := [.forget [0, 2, 3, 4, 5, 7, 8, 9, 11, 12, 13, 14, 15, 16, 17, 18, 19, 20, 21, 22, 23, 24, 25, 27, 28, 29, 30, 31, 32, 33] 8]) mix tabOkSG gam13_ok
    (vc := [((decide (((((tl + (pad N)) - ((128 : Nat) * ((tl + (pad N)) / (128 : Nat)))) : Nat) : Int) > (0 : Int))) = false)]) (by kernel_rfl)
    (aC (decide_eq_false (by have hp1 := pad_le N; have hp2 := pad_mod h0 h1; first | omega | (simp (disch := omega) only [wrapI]; omega))) (AllP_nil))

theorem sumL_loop (S : List Int) (tl : Nat) (N : Int) (L C : List Int) (h0 : ((0 : Int) ≤ N)) (h1 : ((Int.tmod N (128 : Int)) = ((tl : Nat) : Int))) (hl0_0 : List.length S = (8 : Nat)) (hl1_0 : List.length L = tl) (hl2_0 : List.length C = (80 : Nat)) (w : World) (rw : List Nat) (β : Env) (s : (List Int)) : Run Try.prog ⟨w, rw, 3, β⟩ (.block 0 (.loop (loopB Try.f33 0))) (sumL_mk S tl N L C 0 s) (To ⟨w, rw, 3, β⟩ .normal (sumL_mk S tl N L C ((tl + (pad N)) / (128 : Nat)) (iter (sumL_step tl N L C) ((tl + (pad N)) / (128 : Nat)) s))) :=
  Run.count (fun k => sumL_mk S tl N L C k (iter (sumL_step tl N L C) k s)) ((tl + (pad N)) / (128 : Nat)) (fun k hk => sumL_round S tl N L C h0 h1 hl0_0 hl1_0 hl2_0 w rw β k hk _) (ex := (.exit 0)) (by simp) (sumL_last S tl N L C h0 h1 hl0_0 hl1_0 hl2_0 w rw β _)

def sumL_out0 (tl : Nat) (N : Int) (L C i0 : List Int) : List Int := (iter (sumL_step tl N L C) ((tl + (pad N)) / (128 : Nat)) (i0))

def hsum (S : List Int) (tl : Nat) (N : Int) (L C : List Int) : List Int :=
  let z0 : List Int := (sumL_out0 tl N L C S)
  let z1 : Int := (List.getD z0 (7 : Nat) 0)
  let z2 : Int := (List.getD z0 (6 : Nat) 0)
  let z3 : Int := (List.getD z0 (5 : Nat) 0)
  let z4 : Int := (List.getD z0 (4 : Nat) 0)
  let z5 : Int := (List.getD z0 (3 : Nat) 0)
  let z6 : Int := (List.getD z0 (2 : Nat) 0)
  let z7 : Int := (List.getD z0 (1 : Nat) 0)
  let z8 : Int := (List.getD z0 (0 : Nat) 0)
  ([(IntKind.u8.wrap (shr .u64 z8 (56 : Int))), (IntKind.u8.wrap (shr .u64 z8 (48 : Int))), (IntKind.u8.wrap (shr .u64 z8 (40 : Int))), (IntKind.u8.wrap (shr .u64 z8 (32 : Int))), (IntKind.u8.wrap (shr .u64 z8 (24 : Int))), (IntKind.u8.wrap (shr .u64 z8 (16 : Int))), (IntKind.u8.wrap (shr .u64 z8 (8 : Int))), (IntKind.u8.wrap (shr .u64 z8 (0 : Int))), (IntKind.u8.wrap (shr .u64 z7 (56 : Int))), (IntKind.u8.wrap (shr .u64 z7 (48 : Int))), (IntKind.u8.wrap (shr .u64 z7 (40 : Int))), (IntKind.u8.wrap (shr .u64 z7 (32 : Int))), (IntKind.u8.wrap (shr .u64 z7 (24 : Int))), (IntKind.u8.wrap (shr .u64 z7 (16 : Int))), (IntKind.u8.wrap (shr .u64 z7 (8 : Int))), (IntKind.u8.wrap (shr .u64 z7 (0 : Int))), (IntKind.u8.wrap (shr .u64 z6 (56 : Int))), (IntKind.u8.wrap (shr .u64 z6 (48 : Int))), (IntKind.u8.wrap (shr .u64 z6 (40 : Int))), (IntKind.u8.wrap (shr .u64 z6 (32 : Int))), (IntKind.u8.wrap (shr .u64 z6 (24 : Int))), (IntKind.u8.wrap (shr .u64 z6 (16 : Int))), (IntKind.u8.wrap (shr .u64 z6 (8 : Int))), (IntKind.u8.wrap (shr .u64 z6 (0 : Int))), (IntKind.u8.wrap (shr .u64 z5 (56 : Int))), (IntKind.u8.wrap (shr .u64 z5 (48 : Int))), (IntKind.u8.wrap (shr .u64 z5 (40 : Int))), (IntKind.u8.wrap (shr .u64 z5 (32 : Int))), (IntKind.u8.wrap (shr .u64 z5 (24 : Int))), (IntKind.u8.wrap (shr .u64 z5 (16 : Int))), (IntKind.u8.wrap (shr .u64 z5 (8 : Int))), (IntKind.u8.wrap (shr .u64 z5 (0 : Int))), (IntKind.u8.wrap (shr .u64 z4 (56 : Int))), (IntKind.u8.wrap (shr .u64 z4 (48 : Int))), (IntKind.u8.wrap (shr .u64 z4 (40 : Int))), (IntKind.u8.wrap (shr .u64 z4 (32 : Int))), (IntKind.u8.wrap (shr .u64 z4 (24 : Int))), (IntKind.u8.wrap (shr .u64 z4 (16 : Int))), (IntKind.u8.wrap (shr .u64 z4 (8 : Int))), (IntKind.u8.wrap (shr .u64 z4 (0 : Int))), (IntKind.u8.wrap (shr .u64 z3 (56 : Int))), (IntKind.u8.wrap (shr .u64 z3 (48 : Int))), (IntKind.u8.wrap (shr .u64 z3 (40 : Int))), (IntKind.u8.wrap (shr .u64 z3 (32 : Int))), (IntKind.u8.wrap (shr .u64 z3 (24 : Int))), (IntKind.u8.wrap (shr .u64 z3 (16 : Int))), (IntKind.u8.wrap (shr .u64 z3 (8 : Int))), (IntKind.u8.wrap (shr .u64 z3 (0 : Int))), (IntKind.u8.wrap (shr .u64 z2 (56 : Int))), (IntKind.u8.wrap (shr .u64 z2 (48 : Int))), (IntKind.u8.wrap (shr .u64 z2 (40 : Int))), (IntKind.u8.wrap (shr .u64 z2 (32 : Int))), (IntKind.u8.wrap (shr .u64 z2 (24 : Int))), (IntKind.u8.wrap (shr .u64 z2 (16 : Int))), (IntKind.u8.wrap (shr .u64 z2 (8 : Int))), (IntKind.u8.wrap (shr .u64 z2 (0 : Int))), (IntKind.u8.wrap (shr .u64 z1 (56 : Int))), (IntKind.u8.wrap (shr .u64 z1 (48 : Int))), (IntKind.u8.wrap (shr .u64 z1 (40 : Int))), (IntKind.u8.wrap (shr .u64 z1 (32 : Int))), (IntKind.u8.wrap (shr .u64 z1 (24 : Int))), (IntKind.u8.wrap (shr .u64 z1 (16 : Int))), (IntKind.u8.wrap (shr .u64 z1 (8 : Int))), (IntKind.u8.wrap (shr .u64 z1 (0 : Int)))] : List Int)

set_option maxHeartbeats 1000000 in
theorem hsum_body0 (S : List Int) (tl : Nat) (N : Int) (L C : List Int) (h0 : ((0 : Int) ≤ N)) (h1 : ((Int.tmod N (128 : Int)) = ((tl : Nat) : Int))) (hl0_0 : List.length S = (8 : Nat)) (hl1_0 : List.length L = tl) (hl2_0 : List.length C = (80 : Nat)) (w : World) (rw : List Nat) (β : Env) : Body Try.prog (tabOf tabSG) Try.f33 ⟨w, rw, 3, β⟩ [.o (.a (.p 0 0))] [some ⟨false, [.ints .u64 (8 : Nat) S, .rs 1 0 tl 1, .i .u64 N, .p 2 0]⟩, some ⟨false, [.ints .u8 tl L]⟩, some ⟨false, [.ints .u64 (80 : Nat) C]⟩] (fun ys K' => ys = [.g [.ints .u8 (64 : Nat) (hsum S tl N L C)]] ∧ K' = [some ⟨false, [.ints .u64 (8 : Nat) S, .rs 1 0 tl 1, .i .u64 N, .p 2 0]⟩, some ⟨false, [.ints .u8 tl L]⟩, some ⟨false, [.ints .u64 (80 : Nat) C]⟩]) :=
  Body.of_finK (Γ := gam13) (Λ := lamOf [(0, ⟨[.forget [0, 2, 3, 4, 5, 7, 8, 9, 11, 12, 13, 14, 15, 16, 17, 18, 19, 20, 21, 22, 23, 24, 25, 27, 28, 29, 30, 31, 32, 33] 8], .normal, (sumL_mk S tl N L C ((tl + (pad N)) / (128 : Nat)) (iter (sumL_step tl N L C) ((tl + (pad N)) / (128 : Nat)) (S)))⟩)]) (Ψ := noPsi) (fuel := 65) (m := 64) (c := (Try.f33.body.getD .skip)) mix tabOkSG gam13_ok rfl (rs := [.cell 2 42]) rfl rfl [false, true, true, true, true, true, true, true, true, true, true, true, true, true, true, true, true, true, true, true, true, true, true, true, true, true, true, true, true, true, true, true, true, true, true, true, true, true, true, true, true, true, true, true, true, true, true, true, true, true, true, true, true, true, true, true, true, true, true, true, true, true, true, true, true, true, false] [] 3
    (vc := [(false = false), ((63 : Nat) < (64 : Nat)), (((0 : Int) ≤ (63 : Int)) ∧ ((63 : Int) < (64 : Int))), ((0 : Int) ≤ (0 : Int)), ((8 : Int) ≠ 0), ((7 : Nat) < (8 : Nat)), (((0 : Int) ≤ (7 : Int)) ∧ ((7 : Int) < (8 : Int))), ((8 : Int) ≠ 0), (true = true), ((62 : Nat) < (64 : Nat)), (((0 : Int) ≤ (62 : Int)) ∧ ((62 : Int) < (64 : Int))), ((0 : Int) ≤ (8 : Int)), ((8 : Int) ≠ 0), ((7 : Nat) < (8 : Nat)), (((0 : Int) ≤ (7 : Int)) ∧ ((7 : Int) < (8 : Int))), ((8 : Int) ≠ 0), (true = true), ((61 : Nat) < (64 : Nat)), (((0 : Int) ≤ (61 : Int)) ∧ ((61 : Int) < (64 : Int))), ((0 : Int) ≤ (16 : Int)), ((8 : Int) ≠ 0), ((7 : Nat) < (8 : Nat)), (((0 : Int) ≤ (7 : Int)) ∧ ((7 : Int) < (8 : Int))), ((8 : Int) ≠ 0), (true = true), ((60 : Nat) < (64 : Nat)), (((0 : Int) ≤ (60 : Int)) ∧ ((60 : Int) < (64 : Int))), ((0 : Int) ≤ (24 : Int)), ((8 : Int) ≠ 0), ((7 : Nat) < (8 : Nat)), (((0 : Int) ≤ (7 : Int)) ∧ ((7 : Int) < (8 : Int))), ((8 : Int) ≠ 0), (true = true), ((59 : Nat) < (64 : Nat)), (((0 : Int) ≤ (59 : Int)) ∧ ((59 : Int) < (64 : Int))), ((0 : Int) ≤ (32 : Int)), ((8 : Int) ≠ 0), ((7 : Nat) < (8 : Nat)), (((0 : Int) ≤ (7 : Int)) ∧ ((7 : Int) < (8 : Int))), ((8 : Int) ≠ 0), (true = true), ((58 : Nat) < (64 : Nat)), (((0 : Int) ≤ (58 : Int)) ∧ ((58 : Int) < (64 : Int))), ((0 : Int) ≤ (40 : Int)), ((8 : Int) ≠ 0), ((7 : Nat) < (8 : Nat)), (((0 : Int) ≤ (7 : Int)) ∧ ((7 : Int) < (8 : Int))), ((8 : Int) ≠ 0), (true = true), ((57 : Nat) < (64 : Nat)), (((0 : Int) ≤ (57 : Int)) ∧ ((57 : Int) < (64 : Int))), ((0 : Int) ≤ (48 : Int)), ((8 : Int) ≠ 0), ((7 : Nat) < (8 : Nat)), (((0 : Int) ≤ (7 : Int)) ∧ ((7 : Int) < (8 : Int))), ((8 : Int) ≠ 0), (true = true), ((56 : Nat) < (64 : Nat)), (((0 : Int) ≤ (56 : Int)) ∧ ((56 : Int) < (64 : Int))), ((0 : Int) ≤ (56 : Int)), ((8 : Int) ≠ 0), ((7 : Nat) < (8 : Nat)), (((0 : Int) ≤ (7 : Int)) ∧ ((7 : Int) < (8 : Int))), ((8 : Int) ≠ 0), (true = true), ((55 : Nat) < (64 : Nat)), (((0 : Int) ≤ (55 : Int)) ∧ ((55 : Int) < (64 : Int))), ((0 : Int) ≤ (0 : Int)), ((8 : Int) ≠ 0), ((6 : Nat) < (8 : Nat)), (((0 : Int) ≤ (6 : Int)) ∧ ((6 : Int) < (8 : Int))), ((8 : Int) ≠ 0), (true = true), ((54 : Nat) < (64 : Nat)), (((0 : Int) ≤ (54 : Int)) ∧ ((54 : Int) < (64 : Int))), ((0 : Int) ≤ (8 : Int)), ((8 : Int) ≠ 0), ((6 : Nat) < (8 : Nat)), (((0 : Int) ≤ (6 : Int)) ∧ ((6 : Int) < (8 : Int))), ((8 : Int) ≠ 0), (true = true), ((53 : Nat) < (64 : Nat)), (((0 : Int) ≤ (53 : Int)) ∧ ((53 : Int) < (64 : Int))), ((0 : Int) ≤ (16 : Int)), ((8 : Int) ≠ 0), ((6 : Nat) < (8 : Nat)), (((0 : Int) ≤ (6 : Int)) ∧ ((6 : Int) < (8 : Int))), ((8 : Int) ≠ 0), (true = true), ((52 : Nat) < (64 : Nat)), (((0 : Int) ≤ (52 : Int)) ∧ ((52 : Int) < (64 : Int))), ((0 : Int) ≤ (24 : Int)), ((8 : Int) ≠ 0), ((6 : Nat) < (8 : Nat)), (((0 : Int) ≤ (6 : Int)) ∧ ((6 : Int) < (8 : Int))), ((8 : Int) ≠ 0), (true = true), ((51 : Nat) < (64 : Nat)), (((0 : Int) ≤ (51 : Int)) ∧ ((51 : Int) < (64 : Int))), ((0 : Int) ≤ (32 : Int)), ((8 : Int) ≠ 0), ((6 : Nat) < (8 : Nat)), (((0 : Int) ≤ (6 : Int)) ∧ ((6 : Int) < (8 : Int))), ((8 : Int) ≠ 0), (true = true), ((50 : Nat) < (64 : Nat)), (((0 : Int) ≤ (50 : Int)) ∧ ((50 : Int) < (64 : Int))), ((0 : Int) ≤ (40 : Int)), ((8 : Int) ≠ 0), ((6 : Nat) < (8 : Nat)), (((0 : Int) ≤ (6 : Int)) ∧ ((6 : Int) < (8 : Int))), ((8 : Int) ≠ 0), (true = true), ((49 : Nat) < (64 : Nat)), (((0 : Int) ≤ (49 : Int)) ∧ ((49 : Int) < (64 : Int))), ((0 : Int) ≤ (48 : Int)), ((8 : Int) ≠ 0), ((6 : Nat) < (8 : Nat)), (((0 : Int) ≤ (6 : Int)) ∧ ((6 : Int) < (8 : Int))), ((8 : Int) ≠ 0), (true = true), ((48 : Nat) < (64 : Nat)), (((0 : Int) ≤ (48 : Int)) ∧ ((48 : Int) < (64 : Int))), ((0 : Int) ≤ (56 : Int)), ((8 : Int) ≠ 0), ((6 : Nat) < (8 : Nat)), (((0 : Int) ≤ (6 : Int)) ∧ ((6 : Int) < (8 : Int))), ((8 : Int) ≠ 0), (true = true), ((47 : Nat) < (64 : Nat)), (((0 : Int) ≤ (47 : Int)) ∧ ((47 : Int) < (64 : Int))), ((0 : Int) ≤ (0 : Int)), ((8 : Int) ≠ 0), ((5 : Nat) < (8 : Nat)), (((0 : Int) ≤ (5 : Int)) ∧ ((5 : Int) < (8 : Int))), ((8 : Int) ≠ 0), (true = true), ((46 : Nat) < (64 : Nat)), (((0 : Int) ≤ (46 : Int)) ∧ ((46 : Int) < (64 : Int))), ((0 : Int) ≤ (8 : Int)), ((8 : Int) ≠ 0), ((5 : Nat) < (8 : Nat)), (((0 : Int) ≤ (5 : Int)) ∧ ((5 : Int) < (8 : Int))), ((8 : Int) ≠ 0), (true = true), ((45 : Nat) < (64 : Nat)), (((0 : Int) ≤ (45 : Int)) ∧ ((45 : Int) < (64 : Int))), ((0 : Int) ≤ (16 : Int)), ((8 : Int) ≠ 0), ((5 : Nat) < (8 : Nat)), (((0 : Int) ≤ (5 : Int)) ∧ ((5 : Int) < (8 : Int))), ((8 : Int) ≠ 0), (true = true), ((44 : Nat) < (64 : Nat)), (((0 : Int) ≤ (44 : Int)) ∧ ((44 : Int) < (64 : Int))), ((0 : Int) ≤ (24 : Int)), ((8 : Int) ≠ 0), ((5 : Nat) < (8 : Nat)), (((0 : Int) ≤ (5 : Int)) ∧ ((5 : Int) < (8 : Int))), ((8 : Int) ≠ 0), (true = true), ((43 : Nat) < (64 : Nat)), (((0 : Int) ≤ (43 : Int)) ∧ ((43 : Int) < (64 : Int))), ((0 : Int) ≤ (32 : Int)), ((8 : Int) ≠ 0), ((5 : Nat) < (8 : Nat)), (((0 : Int) ≤ (5 : Int)) ∧ ((5 : Int) < (8 : Int))), ((8 : Int) ≠ 0), (true = true), ((42 : Nat) < (64 : Nat)), (((0 : Int) ≤ (42 : Int)) ∧ ((42 : Int) < (64 : Int))), ((0 : Int) ≤ (40 : Int)), ((8 : Int) ≠ 0), ((5 : Nat) < (8 : Nat)), (((0 : Int) ≤ (5 : Int)) ∧ ((5 : Int) < (8 : Int))), ((8 : Int) ≠ 0), (true = true), ((41 : Nat) < (64 : Nat)), (((0 : Int) ≤ (41 : Int)) ∧ ((41 : Int) < (64 : Int))), ((0 : Int) ≤ (48 : Int)), ((8 : Int) ≠ 0), ((5 : Nat) < (8 : Nat)), (((0 : Int) ≤ (5 : Int)) ∧ ((5 : Int) < (8 : Int))), ((8 : Int) ≠ 0), (true = true), ((40 : Nat) < (64 : Nat)), (((0 : Int) ≤ (40 : Int)) ∧ ((40 : Int) < (64 : Int))), ((0 : Int) ≤ (56 : Int)), ((8 : Int) ≠ 0), ((5 : Nat) < (8 : Nat)), (((0 : Int) ≤ (5 : Int)) ∧ ((5 : Int) < (8 : Int))), ((8 : Int) ≠ 0), (true = true), ((39 : Nat) < (64 : Nat)), (((0 : Int) ≤ (39 : Int)) ∧ ((39 : Int) < (64 : Int))), ((0 : Int) ≤ (0 : Int)), ((8 : Int) ≠ 0), ((4 : Nat) < (8 : Nat)), (((0 : Int) ≤ (4 : Int)) ∧ ((4 : Int) < (8 : Int))), ((8 : Int) ≠ 0), (true = true), ((38 : Nat) < (64 : Nat)), (((0 : Int) ≤ (38 : Int)) ∧ ((38 : Int) < (64 : Int))), ((0 : Int) ≤ (8 : Int)), ((8 : Int) ≠ 0), ((4 : Nat) < (8 : Nat)), (((0 : Int) ≤ (4 : Int)) ∧ ((4 : Int) < (8 : Int))), ((8 : Int) ≠ 0), (true = true), ((37 : Nat) < (64 : Nat)), (((0 : Int) ≤ (37 : Int)) ∧ ((37 : Int) < (64 : Int))), ((0 : Int) ≤ (16 : Int)), ((8 : Int) ≠ 0), ((4 : Nat) < (8 : Nat)), (((0 : Int) ≤ (4 : Int)) ∧ ((4 : Int) < (8 : Int))), ((8 : Int) ≠ 0), (true = true), ((36 : Nat) < (64 : Nat)), (((0 : Int) ≤ (36 : Int)) ∧ ((36 : Int) < (64 : Int))), ((0 : Int) ≤ (24 : Int)), ((8 : Int) ≠ 0), ((4 : Nat) < (8 : Nat)), (((0 : Int) ≤ (4 : Int)) ∧ ((4 : Int) < (8 : Int))), ((8 : Int) ≠ 0), (true = true), ((35 : Nat) < (64 : Nat)), (((0 : Int) ≤ (35 : Int)) ∧ ((35 : Int) < (64 : Int))), ((0 : Int) ≤ (32 : Int)), ((8 : Int) ≠ 0), ((4 : Nat) < (8 : Nat)), (((0 : Int) ≤ (4 : Int)) ∧ ((4 : Int) < (8 : Int))), ((8 : Int) ≠ 0), (true = true), ((34 : Nat) < (64 : Nat)), (((0 : Int) ≤ (34 : Int)) ∧ ((34 : Int) < (64 : Int))), ((0 : Int) ≤ (40 : Int)), ((8 : Int) ≠ 0), ((4 : Nat) < (8 : Nat)), (((0 : Int) ≤ (4 : Int)) ∧ ((4 : Int) < (8 : Int))), ((8 : Int) ≠ 0), (true = true), ((33 : Nat) < (64 : Nat)), (((0 : Int) ≤ (33 : Int)) ∧ ((33 : Int) < (64 : Int))), ((0 : Int) ≤ (48 : Int)), ((8 : Int) ≠ 0), ((4 : Nat) < (8 : Nat)), (((0 : Int) ≤ (4 : Int)) ∧ ((4 : Int) < (8 : Int))), ((8 : Int) ≠ 0), (true = true), ((32 : Nat) < (64 : Nat)), (((0 : Int) ≤ (32 : Int)) ∧ ((32 : Int) < (64 : Int))), ((0 : Int) ≤ (56 : Int)), ((8 : Int) ≠ 0), ((4 : Nat) < (8 : Nat)), (((0 : Int) ≤ (4 : Int)) ∧ ((4 : Int) < (8 : Int))), ((8 : Int) ≠ 0), (true = true), ((31 : Nat) < (64 : Nat)), (((0 : Int) ≤ (31 : Int)) ∧ ((31 : Int) < (64 : Int))), ((0 : Int) ≤ (0 : Int)), ((8 : Int) ≠ 0), ((3 : Nat) < (8 : Nat)), (((0 : Int) ≤ (3 : Int)) ∧ ((3 : Int) < (8 : Int))), ((8 : Int) ≠ 0), (true = true), ((30 : Nat) < (64 : Nat)), (((0 : Int) ≤ (30 : Int)) ∧ ((30 : Int) < (64 : Int))), ((0 : Int) ≤ (8 : Int)), ((8 : Int) ≠ 0), ((3 : Nat) < (8 : Nat)), (((0 : Int) ≤ (3 : Int)) ∧ ((3 : Int) < (8 : Int))), ((8 : Int) ≠ 0), (true = true), ((29 : Nat) < (64 : Nat)), (((0 : Int) ≤ (29 : Int)) ∧ ((29 : Int) < (64 : Int))), ((0 : Int) ≤ (16 : Int)), ((8 : Int) ≠ 0), ((3 : Nat) < (8 : Nat)), (((0 : Int) ≤ (3 : Int)) ∧ ((3 : Int) < (8 : Int))), ((8 : Int) ≠ 0), (true = true), ((28 : Nat) < (64 : Nat)), (((0 : Int) ≤ (28 : Int)) ∧ ((28 : Int) < (64 : Int))), ((0 : Int) ≤ (24 : Int)), ((8 : Int) ≠ 0), ((3 : Nat) < (8 : Nat)), (((0 : Int) ≤ (3 : Int)) ∧ ((3 : Int) < (8 : Int))), ((8 : Int) ≠ 0), (true = true), ((27 : Nat) < (64 : Nat)), (((0 : Int) ≤ (27 : Int)) ∧ ((27 : Int) < (64 : Int))), ((0 : Int) ≤ (32 : Int)), ((8 : Int) ≠ 0), ((3 : Nat) < (8 : Nat)), (((0 : Int) ≤ (3 : Int)) ∧ ((3 : Int) < (8 : Int))), ((8 : Int) ≠ 0), (true = true), ((26 : Nat) < (64 : Nat)), (((0 : Int) ≤ (26 : Int)) ∧ ((26 : Int) < (64 : Int))), ((0 : Int) ≤ (40 : Int)), ((8 : Int) ≠ 0), ((3 : Nat) < (8 : Nat)), (((0 : Int) ≤ (3 : Int)) ∧ ((3 : Int) < (8 : Int))), ((8 : Int) ≠ 0), (true = true), ((25 : Nat) < (64 : Nat)), (((0 : Int) ≤ (25 : Int)) ∧ ((25 : Int) < (64 : Int))), ((0 : Int) ≤ (48 : Int)), ((8 : Int) ≠ 0), ((3 : Nat) < (8 : Nat)), (((0 : Int) ≤ (3 : Int)) ∧ ((3 : Int) < (8 : Int))), ((8 : Int) ≠ 0), (true = true), ((24 : Nat) < (64 : Nat)), (((0 : Int) ≤ (24 : Int)) ∧ ((24 : Int) < (64 : Int))), ((0 : Int) ≤ (56 : Int)), ((8 : Int) ≠ 0), ((3 : Nat) < (8 : Nat)), (((0 : Int) ≤ (3 : Int)) ∧ ((3 : Int) < (8 : Int))), ((8 : Int) ≠ 0), (true = true), ((23 : Nat) < (64 : Nat)), (((0 : Int) ≤ (23 : Int)) ∧ ((23 : Int) < (64 : Int))), ((0 : Int) ≤ (0 : Int)), ((8 : Int) ≠ 0), ((2 : Nat) < (8 : Nat)), (((0 : Int) ≤ (2 : Int)) ∧ ((2 : Int) < (8 : Int))), ((8 : Int) ≠ 0), (true = true), ((22 : Nat) < (64 : Nat)), (((0 : Int) ≤ (22 : Int)) ∧ ((22 : Int) < (64 : Int))), ((0 : Int) ≤ (8 : Int)), ((8 : Int) ≠ 0), ((2 : Nat) < (8 : Nat)), (((0 : Int) ≤ (2 : Int)) ∧ ((2 : Int) < (8 : Int))), ((8 : Int) ≠ 0), (true = true), ((21 : Nat) < (64 : Nat)), (((0 : Int) ≤ (21 : Int)) ∧ ((21 : Int) < (64 : Int))), ((0 : Int) ≤ (16 : Int)), ((8 : Int) ≠ 0), ((2 : Nat) < (8 : Nat)), (((0 : Int) ≤ (2 : Int)) ∧ ((2 : Int) < (8 : Int))), ((8 : Int) ≠ 0), (true = true), ((20 : Nat) < (64 : Nat)), (((0 : Int) ≤ (20 : Int)) ∧ ((20 : Int) < (64 : Int))), ((0 : Int) ≤ (24 : Int)), ((8 : Int) ≠ 0), ((2 : Nat) < (8 : Nat)), (((0 : Int) ≤ (2 : Int)) ∧ ((2 : Int) < (8 : Int))), ((8 : Int) ≠ 0), (true = true), ((19 : Nat) < (64 : Nat)), (((0 : Int) ≤ (19 : Int)) ∧ ((19 : Int) < (64 : Int))), ((0 : Int) ≤ (32 : Int)), ((8 : Int) ≠ 0), ((2 : Nat) < (8 : Nat)), (((0 : Int) ≤ (2 : Int)) ∧ ((2 : Int) < (8 : Int))), ((8 : Int) ≠ 0), (true = true), ((18 : Nat) < (64 : Nat)), (((0 : Int) ≤ (18 : Int)) ∧ ((18 : Int) < (64 : Int))), ((0 : Int) ≤ (40 : Int)), ((8 : Int) ≠ 0), ((2 : Nat) < (8 : Nat)), (((0 : Int) ≤ (2 : Int)) ∧ ((2 : Int) < (8 : Int))), ((8 : Int) ≠ 0), (true = true), ((17 : Nat) < (64 : Nat)), (((0 : Int) ≤ (17 : Int)) ∧ ((17 : Int) < (64 : Int))), ((0 : Int) ≤ (48 : Int)), ((8 : Int) ≠ 0), ((2 : Nat) < (8 : Nat)), (((0 : Int) ≤ (2 : Int)) ∧ ((2 : Int) < (8 : Int))), ((8 : Int) ≠ 0), (true = true), ((16 : Nat) < (64 : Nat)), (((0 : Int) ≤ (16 : Int)) ∧ ((16 : Int) < (64 : Int))), ((0 : Int) ≤ (56 : Int)), ((8 : Int) ≠ 0), ((2 : Nat) < (8 : Nat)), (((0 : Int) ≤ (2 : Int)) ∧ ((2 : Int) < (8 : Int))), ((8 : Int) ≠ 0), (true = true), ((15 : Nat) < (64 : Nat)), (((0 : Int) ≤ (15 : Int)) ∧ ((15 : Int) < (64 : Int))), ((0 : Int) ≤ (0 : Int)), ((8 : Int) ≠ 0), ((1 : Nat) < (8 : Nat)), (((0 : Int) ≤ (1 : Int)) ∧ ((1 : Int) < (8 : Int))), ((8 : Int) ≠ 0), (true = true), ((14 : Nat) < (64 : Nat)), (((0 : Int) ≤ (14 : Int)) ∧ ((14 : Int) < (64 : Int))), ((0 : Int) ≤ (8 : Int)), ((8 : Int) ≠ 0), ((1 : Nat) < (8 : Nat)), (((0 : Int) ≤ (1 : Int)) ∧ ((1 : Int) < (8 : Int))), ((8 : Int) ≠ 0), (true = true), ((13 : Nat) < (64 : Nat)), (((0 : Int) ≤ (13 : Int)) ∧ ((13 : Int) < (64 : Int))), ((0 : Int) ≤ (16 : Int)), ((8 : Int) ≠ 0), ((1 : Nat) < (8 : Nat)), (((0 : Int) ≤ (1 : Int)) ∧ ((1 : Int) < (8 : Int))), ((8 : Int) ≠ 0), (true = true), ((12 : Nat) < (64 : Nat)), (((0 : Int) ≤ (12 : Int)) ∧ ((12 : Int) < (64 : Int))), ((0 : Int) ≤ (24 : Int)), ((8 : Int) ≠ 0), ((1 : Nat) < (8 : Nat)), (((0 : Int) ≤ (1 : Int)) ∧ ((1 : Int) < (8 : Int))), ((8 : Int) ≠ 0), (true = true), ((11 : Nat) < (64 : Nat)), (((0 : Int) ≤ (11 : Int)) ∧ ((11 : Int) < (64 : Int))), ((0 : Int) ≤ (32 : Int)), ((8 : Int) ≠ 0), ((1 : Nat) < (8 : Nat)), (((0 : Int) ≤ (1 : Int)) ∧ ((1 : Int) < (8 : Int))), ((8 : Int) ≠ 0), (true = true), ((10 : Nat) < (64 : Nat)), (((0 : Int) ≤ (10 : Int)) ∧ ((10 : Int) < (64 : Int))), ((0 : Int) ≤ (40 : Int)), ((8 : Int) ≠ 0), ((1 : Nat) < (8 : Nat)), (((0 : Int) ≤ (1 : Int)) ∧ ((1 : Int) < (8 : Int))), ((8 : Int) ≠ 0), (true = true), ((9 : Nat) < (64 : Nat)), (((0 : Int) ≤ (9 : Int)) ∧ ((9 : Int) < (64 : Int))), ((0 : Int) ≤ (48 : Int)), ((8 : Int) ≠ 0), ((1 : Nat) < (8 : Nat)), (((0 : Int) ≤ (1 : Int)) ∧ ((1 : Int) < (8 : Int))), ((8 : Int) ≠ 0), (true = true), ((8 : Nat) < (64 : Nat)), (((0 : Int) ≤ (8 : Int)) ∧ ((8 : Int) < (64 : Int))), ((0 : Int) ≤ (56 : Int)), ((8 : Int) ≠ 0), ((1 : Nat) < (8 : Nat)), (((0 : Int) ≤ (1 : Int)) ∧ ((1 : Int) < (8 : Int))), ((8 : Int) ≠ 0), (true = true), ((7 : Nat) < (64 : Nat)), (((0 : Int) ≤ (7 : Int)) ∧ ((7 : Int) < (64 : Int))), ((0 : Int) ≤ (0 : Int)), ((8 : Int) ≠ 0), ((0 : Nat) < (8 : Nat)), (((0 : Int) ≤ (0 : Int)) ∧ ((0 : Int) < (8 : Int))), ((8 : Int) ≠ 0), (true = true), ((6 : Nat) < (64 : Nat)), (((0 : Int) ≤ (6 : Int)) ∧ ((6 : Int) < (64 : Int))), ((0 : Int) ≤ (8 : Int)), ((8 : Int) ≠ 0), ((0 : Nat) < (8 : Nat)), (((0 : Int) ≤ (0 : Int)) ∧ ((0 : Int) < (8 : Int))), ((8 : Int) ≠ 0), (true = true), ((5 : Nat) < (64 : Nat)), (((0 : Int) ≤ (5 : Int)) ∧ ((5 : Int) < (64 : Int))), ((0 : Int) ≤ (16 : Int)), ((8 : Int) ≠ 0), ((0 : Nat) < (8 : Nat)), (((0 : Int) ≤ (0 : Int)) ∧ ((0 : Int) < (8 : Int))), ((8 : Int) ≠ 0), (true = true), ((4 : Nat) < (64 : Nat)), (((0 : Int) ≤ (4 : Int)) ∧ ((4 : Int) < (64 : Int))), ((0 : Int) ≤ (24 : Int)), ((8 : Int) ≠ 0), ((0 : Nat) < (8 : Nat)), (((0 : Int) ≤ (0 : Int)) ∧ ((0 : Int) < (8 : Int))), ((8 : Int) ≠ 0), (true = true), ((3 : Nat) < (64 : Nat)), (((0 : Int) ≤ (3 : Int)) ∧ ((3 : Int) < (64 : Int))), ((0 : Int) ≤ (32 : Int)), ((8 : Int) ≠ 0), ((0 : Nat) < (8 : Nat)), (((0 : Int) ≤ (0 : Int)) ∧ ((0 : Int) < (8 : Int))), ((8 : Int) ≠ 0), (true = true), ((2 : Nat) < (64 : Nat)), (((0 : Int) ≤ (2 : Int)) ∧ ((2 : Int) < (64 : Int))), ((0 : Int) ≤ (40 : Int)), ((8 : Int) ≠ 0), ((0 : Nat) < (8 : Nat)), (((0 : Int) ≤ (0 : Int)) ∧ ((0 : Int) < (8 : Int))), ((8 : Int) ≠ 0), (true = true), ((1 : Nat) < (64 : Nat)), (((0 : Int) ≤ (1 : Int)) ∧ ((1 : Int) < (64 : Int))), ((0 : Int) ≤ (48 : Int)), ((8 : Int) ≠ 0), ((0 : Nat) < (8 : Nat)), (((0 : Int) ≤ (0 : Int)) ∧ ((0 : Int) < (8 : Int))), ((8 : Int) ≠ 0), (true = true), ((0 : Nat) < (64 : Nat)), (((0 : Int) ≤ (0 : Int)) ∧ ((0 : Int) < (64 : Int))), ((0 : Int) ≤ (56 : Int)), ((8 : Int) ≠ 0), ((0 : Nat) < (8 : Nat)), (((0 : Int) ≤ (0 : Int)) ∧ ((0 : Int) < (8 : Int))), ((8 : Int) ≠ 0), (true = true), (Run Try.prog ⟨w, rw, 3, β⟩ (.block 0 (.loop (loopB Try.f33 0))) (sumL_mk S tl N L C 0 (S)) (To ⟨w, rw, 3, β⟩ .normal (sumL_mk S tl N L C ((tl + (pad N)) / (128 : Nat)) (iter (sumL_step tl N L C) ((tl + (pad N)) / (128 : Nat)) (S))))), ((((pad N) ≤ (pad N)) ∧ (((0 : Nat) + (pad N)) ≤ (256 : Nat))) ∧ (okP (some ((((0 : Nat) + tl) + (pad N)) ≤ (512 : Nat)))) ∧ ((tl + (pad N)) ≤ (512 : Nat))), ((True ∧ True) ∧ True), ((((min tl tl) ≤ tl) ∧ (((0 : Nat) + (min tl tl)) ≤ tl)) ∧ (okP (some (((0 : Nat) + (min tl tl)) ≤ (512 : Nat))))), (((0 : Int) ≤ ((tl : Nat) : Int)) ∧ (((tl : Nat) : Int) ≤ (512 : Int)) ∧ ((512 : Int) ≤ (281474976710656 : Int))), (false = false), ((True ∧ True) ∧ (tl = tl))]) (by kernel_rfl)
    (aC rfl (aC (by decide) (aC ⟨(by decide), (by decide)⟩ (aC (by decide) (aC (by decide) (aC (by decide) (aC ⟨(by decide), (by decide)⟩ (aC (by decide) (aC rfl (aC (by decide) (aC ⟨(by decide), (by decide)⟩ (aC (by decide) (aC (by decide) (aC (by decide) (aC ⟨(by decide), (by decide)⟩ (aC (by decide) (aC rfl (aC (by decide) (aC ⟨(by decide), (by decide)⟩ (aC (by decide) (aC (by decide) (aC (by decide) (aC ⟨(by decide), (by decide)⟩ (aC (by decide) (aC rfl (aC (by decide) (aC ⟨(by decide), (by decide)⟩ (aC (by decide) (aC (by decide) (aC (by decide) (aC ⟨(by decide), (by decide)⟩ (aC (by decide) (aC rfl (aC (by decide) (aC ⟨(by decide), (by decide)⟩ (aC (by decide) (aC (by decide) (aC (by decide) (aC ⟨(by decide), (by decide)⟩ (aC (by decide) (aC rfl (aC (by decide) (aC ⟨(by decide), (by decide)⟩ (aC (by decide) (aC (by decide) (aC (by decide) (aC ⟨(by decide), (by decide)⟩ (aC (by decide) (aC rfl (aC (by decide) (aC ⟨(by decide), (by decide)⟩ (aC (by decide) (aC (by decide) (aC (by decide) (aC ⟨(by decide), (by decide)⟩ (aC (by decide) (aC rfl (aC (by decide) (aC ⟨(by decide), (by decide)⟩ (aC (by decide) (aC (by decide) (aC (by decide) (aC ⟨(by decide), (by decide)⟩ (aC (by decide) (aC rfl (aC (by decide) (aC ⟨(by decide), (by decide)⟩ (aC (by decide) (aC (by decide) (aC (by decide) (aC ⟨(by decide), (by decide)⟩ (aC (by decide) (aC rfl (aC (by decide) (aC ⟨(by decide), (by decide)⟩ (aC (by decide) (aC (by decide) (aC (by decide) (aC ⟨(by decide), (by decide)⟩ (aC (by decide) (aC rfl (aC (by decide) (aC ⟨(by decide), (by decide)⟩ (aC (by decide) (aC (by decide) (aC (by decide) (aC ⟨(by decide), (by decide)⟩ (aC (by decide) (aC rfl (aC (by decide) (aC ⟨(by decide), (by decide)⟩ (aC (by decide) (aC (by decide) (aC (by decide) (aC ⟨(by decide), (by decide)⟩ (aC (by decide) (aC rfl (aC (by decide) (aC ⟨(by decide), (by decide)⟩ (aC (by decide) (aC (by decide) (aC (by decide) (aC ⟨(by decide), (by decide)⟩ (aC (by decide) (aC rfl (aC (by decide) (aC ⟨(by decide), (by decide)⟩ (aC (by decide) (aC (by decide) (aC (by decide) (aC ⟨(by decide), (by decide)⟩ (aC (by decide) (aC rfl (aC (by decide) (aC ⟨(by decide), (by decide)⟩ (aC (by decide) (aC (by decide) (aC (by decide) (aC ⟨(by decide), (by decide)⟩ (aC (by decide) (aC rfl (aC (by decide) (aC ⟨(by decide), (by decide)⟩ (aC (by decide) (aC (by decide) (aC (by decide) (aC ⟨(by decide), (by decide)⟩ (aC (by decide) (aC rfl (aC (by decide) (aC ⟨(by decide), (by decide)⟩ (aC (by decide) (aC (by decide) (aC (by decide) (aC ⟨(by decide), (by decide)⟩ (aC (by decide) (aC rfl (aC (by decide) (aC ⟨(by decide), (by decide)⟩ (aC (by decide) (aC (by decide) (aC (by decide) (aC ⟨(by decide), (by decide)⟩ (aC (by decide) (aC rfl (aC (by decide) (aC ⟨(by decide), (by decide)⟩ (aC (by decide) (aC (by decide) (aC (by decide) (aC ⟨(by decide), (by decide)⟩ (aC (by decide) (aC rfl (aC (by decide) (aC ⟨(by decide), (by decide)⟩ (aC (by decide) (aC (by decide) (aC (by decide) (aC ⟨(by decide), (by decide)⟩ (aC (by decide) (aC rfl (aC (by decide) (aC ⟨(by decide), (by decide)⟩ (aC (by decide) (aC (by decide) (aC (by decide) (aC ⟨(by decide), (by decide)⟩ (aC (by decide) (aC rfl (aC (by decide) (aC ⟨(by decide), (by decide)⟩ (aC (by decide) (aC (by decide) (aC (by decide) (aC ⟨(by decide), (by decide)⟩ (aC (by decide) (aC rfl (aC (by decide) (aC ⟨(by decide), (by decide)⟩ (aC (by decide) (aC (by decide) (aC (by decide) (aC ⟨(by decide), (by decide)⟩ (aC (by decide) (aC rfl (aC (by decide) (aC ⟨(by decide), (by decide)⟩ (aC (by decide) (aC (by decide) (aC (by decide) (aC ⟨(by decide), (by decide)⟩ (aC (by decide) (aC rfl (aC (by decide) (aC ⟨(by decide), (by decide)⟩ (aC (by decide) (aC (by decide) (aC (by decide) (aC ⟨(by decide), (by decide)⟩ (aC (by decide) (aC rfl (aC (by decide) (aC ⟨(by decide), (by decide)⟩ (aC (by decide) (aC (by decide) (aC (by decide) (aC ⟨(by decide), (by decide)⟩ (aC (by decide) (aC rfl (aC (by decide) (aC ⟨(by decide), (by decide)⟩ (aC (by decide) (aC (by decide) (aC (by decide) (aC ⟨(by decide), (by decide)⟩ (aC (by decide) (aC rfl (aC (by decide) (aC ⟨(by decide), (by decide)⟩ (aC (by decide) (aC (by decide) (aC (by decide) (aC ⟨(by decide), (by decide)⟩ (aC (by decide) (aC rfl (aC (by decide) (aC ⟨(by decide), (by decide)⟩ (aC (by decide) (aC (by decide) (aC (by decide) (aC ⟨(by decide), (by decide)⟩ (aC (by decide) (aC rfl (aC (by decide) (aC ⟨(by decide), (by decide)⟩ (aC (by decide) (aC (by decide) (aC (by decide) (aC ⟨(by decide), (by decide)⟩ (aC (by decide) (aC rfl (aC (by decide) (aC ⟨(by decide), (by decide)⟩ (aC (by decide) (aC (by decide) (aC (by decide) (aC ⟨(by decide), (by decide)⟩ (aC (by decide) (aC rfl (aC (by decide) (aC ⟨(by decide), (by decide)⟩ (aC (by decide) (aC (by decide) (aC (by decide) (aC ⟨(by decide), (by decide)⟩ (aC (by decide) (aC rfl (aC (by decide) (aC ⟨(by decide), (by decide)⟩ (aC (by decide) (aC (by decide) (aC (by decide) (aC ⟨(by decide), (by decide)⟩ (aC (by decide) (aC rfl (aC (by decide) (aC ⟨(by decide), (by decide)⟩ (aC (by decide) (aC (by decide) (aC (by decide) (aC ⟨(by decide), (by decide)⟩ (aC (by decide) (aC rfl (aC (by decide) (aC ⟨(by decide), (by decide)⟩ (aC (by decide) (aC (by decide) (aC (by decide) (aC ⟨(by decide), (by decide)⟩ (aC (by decide) (aC rfl (aC (by decide) (aC ⟨(by decide), (by decide)⟩ (aC (by decide) (aC (by decide) (aC (by decide) (aC ⟨(by decide), (by decide)⟩ (aC (by decide) (aC rfl (aC (by decide) (aC ⟨(by decide), (by decide)⟩ (aC (by decide) (aC (by decide) (aC (by decide) (aC ⟨(by decide), (by decide)⟩ (aC (by decide) (aC rfl (aC (by decide) (aC ⟨(by decide), (by decide)⟩ (aC (by decide) (aC (by decide) (aC (by decide) (aC ⟨(by decide), (by decide)⟩ (aC (by decide) (aC rfl (aC (by decide) (aC ⟨(by decide), (by decide)⟩ (aC (by decide) (aC (by decide) (aC (by decide) (aC ⟨(by decide), (by decide)⟩ (aC (by decide) (aC rfl (aC (by decide) (aC ⟨(by decide), (by decide)⟩ (aC (by decide) (aC (by decide) (aC (by decide) (aC ⟨(by decide), (by decide)⟩ (aC (by decide) (aC rfl (aC (by decide) (aC ⟨(by decide), (by decide)⟩ (aC (by decide) (aC (by decide) (aC (by decide) (aC ⟨(by decide), (by decide)⟩ (aC (by decide) (aC rfl (aC (by decide) (aC ⟨(by decide), (by decide)⟩ (aC (by decide) (aC (by decide) (aC (by decide) (aC ⟨(by decide), (by decide)⟩ (aC (by decide) (aC rfl (aC (by decide) (aC ⟨(by decide), (by decide)⟩ (aC (by decide) (aC (by decide) (aC (by decide) (aC ⟨(by decide), (by decide)⟩ (aC (by decide) (aC rfl (aC (by decide) (aC ⟨(by decide), (by decide)⟩ (aC (by decide) (aC (by decide) (aC (by decide) (aC ⟨(by decide), (by decide)⟩ (aC (by decide) (aC rfl (aC (by decide) (aC ⟨(by decide), (by decide)⟩ (aC (by decide) (aC (by decide) (aC (by decide) (aC ⟨(by decide), (by decide)⟩ (aC (by decide) (aC rfl (aC (by decide) (aC ⟨(by decide), (by decide)⟩ (aC (by decide) (aC (by decide) (aC (by decide) (aC ⟨(by decide), (by decide)⟩ (aC (by decide) (aC rfl (aC (by decide) (aC ⟨(by decide), (by decide)⟩ (aC (by decide) (aC (by decide) (aC (by decide) (aC ⟨(by decide), (by decide)⟩ (aC (by decide) (aC rfl (aC (by decide) (aC ⟨(by decide), (by decide)⟩ (aC (by decide) (aC (by decide) (aC (by decide) (aC ⟨(by decide), (by decide)⟩ (aC (by decide) (aC rfl (aC (by decide) (aC ⟨(by decide), (by decide)⟩ (aC (by decide) (aC (by decide) (aC (by decide) (aC ⟨(by decide), (by decide)⟩ (aC (by decide) (aC rfl (aC (by decide) (aC ⟨(by decide), (by decide)⟩ (aC (by decide) (aC (by decide) (aC (by decide) (aC ⟨(by decide), (by decide)⟩ (aC (by decide) (aC rfl (aC (by decide) (aC ⟨(by decide), (by decide)⟩ (aC (by decide) (aC (by decide) (aC (by decide) (aC ⟨(by decide), (by decide)⟩ (aC (by decide) (aC rfl (aC (by decide) (aC ⟨(by decide), (by decide)⟩ (aC (by decide) (aC (by decide) (aC (by decide) (aC ⟨(by decide), (by decide)⟩ (aC (by decide) (aC rfl (aC (by decide) (aC ⟨(by decide), (by decide)⟩ (aC (by decide) (aC (by decide) (aC (by decide) (aC ⟨(by decide), (by decide)⟩ (aC (by decide) (aC rfl (aC (by decide) (aC ⟨(by decide), (by decide)⟩ (aC (by decide) (aC (by decide) (aC (by decide) (aC ⟨(by decide), (by decide)⟩ (aC (by decide) (aC rfl (aC (by decide) (aC ⟨(by decide), (by decide)⟩ (aC (by decide) (aC (by decide) (aC (by decide) (aC ⟨(by decide), (by decide)⟩ (aC (by decide) (aC rfl (aC (by decide) (aC ⟨(by decide), (by decide)⟩ (aC (by decide) (aC (by decide) (aC (by decide) (aC ⟨(by decide), (by decide)⟩ (aC (by decide) (aC rfl (aC (by decide) (aC ⟨(by decide), (by decide)⟩ (aC (by decide) (aC (by decide) (aC (by decide) (aC ⟨(by decide), (by decide)⟩ (aC (by decide) (aC rfl (aC (by decide) (aC ⟨(by decide), (by decide)⟩ (aC (by decide) (aC (by decide) (aC (by decide) (aC ⟨(by decide), (by decide)⟩ (aC (by decide) (aC rfl (aC (by decide) (aC ⟨(by decide), (by decide)⟩ (aC (by decide) (aC (by decide) (aC (by decide) (aC ⟨(by decide), (by decide)⟩ (aC (by decide) (aC rfl (aC (by decide) (aC ⟨(by decide), (by decide)⟩ (aC (by decide) (aC (by decide) (aC (by decide) (aC ⟨(by decide), (by decide)⟩ (aC (by decide) (aC rfl (aC (by decide) (aC ⟨(by decide), (by decide)⟩ (aC (by decide) (aC (by decide) (aC (by decide) (aC ⟨(by decide), (by decide)⟩ (aC (by decide) (aC rfl (aC (by decide) (aC ⟨(by decide), (by decide)⟩ (aC (by decide) (aC (by decide) (aC (by decide) (aC ⟨(by decide), (by decide)⟩ (aC (by decide) (aC rfl (aC (by decide) (aC ⟨(by decide), (by decide)⟩ (aC (by decide) (aC (by decide) (aC (by decide) (aC ⟨(by decide), (by decide)⟩ (aC (by decide) (aC rfl (aC (by decide) (aC ⟨(by decide), (by decide)⟩ (aC (by decide) (aC (by decide) (aC (by decide) (aC ⟨(by decide), (by decide)⟩ (aC (by decide) (aC rfl (aC (sumL_loop S tl N L C h0 h1 hl0_0 hl1_0 hl2_0 w rw β (S)) (aC ⟨⟨(by have hp1 := pad_le N; have hp2 := pad_mod h0 h1; first | omega | (simp (disch := omega) only [wrapI]; omega)), (by have hp1 := pad_le N; have hp2 := pad_mod h0 h1; first | omega | (simp (disch := omega) only [wrapI]; omega))⟩, (show ((((0 : Nat) + tl) + (pad N)) ≤ (512 : Nat)) from (by have hp1 := pad_le N; have hp2 := pad_mod h0 h1; first | omega | (simp (disch := omega) only [wrapI]; omega))), (by have hp1 := pad_le N; have hp2 := pad_mod h0 h1; first | omega | (simp (disch := omega) only [wrapI]; omega))⟩ (aC ⟨⟨trivial, trivial⟩, trivial⟩ (aC ⟨⟨(by have hp1 := pad_le N; have hp2 := pad_mod h0 h1; first | omega | (simp (disch := omega) only [wrapI]; omega)), (by have hp1 := pad_le N; have hp2 := pad_mod h0 h1; first | omega | (simp (disch := omega) only [wrapI]; omega))⟩, (show (((0 : Nat) + (min tl tl)) ≤ (512 : Nat)) from (by have hp1 := pad_le N; have hp2 := pad_mod h0 h1; first | omega | (simp (disch := omega) only [wrapI]; omega)))⟩ (aC ⟨(by have hp1 := pad_le N; have hp2 := pad_mod h0 h1; first | omega | (simp (disch := omega) only [wrapI]; omega)), (by have hp1 := pad_le N; have hp2 := pad_mod h0 h1; first | omega | (simp (disch := omega) only [wrapI]; omega)), (by decide)⟩ (aC rfl (aC ⟨⟨trivial, trivial⟩, rfl⟩ (AllP_nil)))))))))))))))))))))))))))))))))))))))))))))))))))))))))))))))))))))))))))))))))))))))))))))))))))))))))))))))))))))))))))))))))))))))))))))))))))))))))))))))))))))))))))))))))))))))))))))))))))))))))))))))))))))))))))))))))))))))))))))))))))))))))))))))))))))))))))))))))))))))))))))))))))))))))))))))))))))))))))))))))))))))))))))))))))))))))))))))))))))))))))))))))))))))))))))))))))))))))))))))))))))))))))))))))))))))))))))))))))))))))))))))))))))))))))))))))))))))))))))))))))))))))))))))))))))))))))))))))))))))))

theorem hsum_body (S : List Int) (tl : Nat) (N : Int) (L C : List Int) (h0 : ((0 : Int) ≤ N)) (h1 : ((Int.tmod N (128 : Int)) = ((tl : Nat) : Int))) (w : World) (rw : List Nat) (β : Env) : Body Try.prog (tabOf tabSG) Try.f33 ⟨w, rw, 3, β⟩ [.o (.a (.p 0 0))] [some ⟨false, [.ints .u64 (8 : Nat) S, .rs 1 0 tl 1, .i .u64 N, .p 2 0]⟩, some ⟨false, [.ints .u8 tl L]⟩, some ⟨false, [.ints .u64 (80 : Nat) C]⟩] (fun ys K' => ys = [.g [.ints .u8 (64 : Nat) (hsum S tl N L C)]] ∧ K' = [some ⟨false, [.ints .u64 (8 : Nat) S, .rs 1 0 tl 1, .i .u64 N, .p 2 0]⟩, some ⟨false, [.ints .u8 tl L]⟩, some ⟨false, [.ints .u64 (80 : Nat) C]⟩]) :=
  Body.lens (c := (Try.f33.body.getD .skip)) rfl fun h => hsum_body0 S tl N L C h0 h1 (h.lens 0 _ .u64 (8 : Nat) S rfl (by simp)) (h.lens 1 _ .u8 tl L rfl (by simp)) (h.lens 2 _ .u64 (80 : Nat) C rfl (by simp)) w rw β

def gam14 : Gam := gcall 33 [false, false, false] [.w] (fun wk vs args => match wk, vs, args with | [⟨false, [.ints .u64 (8 : Nat) S, .rs 1 0 tl 1, .i .u64 N, .p 2 0]⟩, ⟨false, [.ints .u8 tl_1 L]⟩, ⟨false, [.ints .u64 (80 : Nat) C]⟩], [], [.o (.a (.p 0 0))] => some ((tl_1 = tl) ∧ ((0 : Int) ≤ N) ∧ ((Int.tmod N (128 : Int)) = ((tl : Nat) : Int)), [.g [.ints .u8 (64 : Nat) (hsum S tl N L C)]], [some ⟨false, [.ints .u64 (8 : Nat) S, .rs 1 0 tl 1, .i .u64 N, .p 2 0]⟩, some ⟨false, [.ints .u8 tl L]⟩, some ⟨false, [.ints .u64 (80 : Nat) C]⟩]) | _, _, _ => none) gam13
theorem gam14_ok : GamOk Try.prog gam14 := gcall_ok tabOkSG Try.func33 gam13_ok Try.call33 (by
  intro wk vs args p xs K1 h hv
  split at h
  · simp only [Option.some.injEq, Prod.mk.injEq] at h; obtain ⟨rfl, rfl, rfl⟩ := h; obtain ⟨g0, g1, g2⟩ := hv; subst g0; exact fun caps w rw β => hsum_body _ _ _ _ _ g1 g2 w rw β
  · simp at h)

end Go.Proofs.Ytepimglipelpmaa.X

/- Plain lemmas for the walks of State, Pad, Join. -/
namespace Go.Proofs.Ytepimglipelpmaa.X
open Go Go.Proofs

theorem wr_inv {N : Int} {tl n : Nat} (h0 : 0 ≤ N) (h : Int.tmod N 128 = ((tl : Nat) : Int)) (hn : n < 140737488355328) : 0 ≤ wrN N n ∧ Int.tmod (wrN N n) 128 = ((wrT tl n : Nat) : Int) ∧ wrT tl n < 128 := by
  have h1 : (0 : Int) ≤ wrN N n := wrap_nn rfl
  refine ⟨h1, ?_, by unfold wrT; omega⟩
  rw [Int.tmod_eq_emod_of_nonneg h1]
  rw [Int.tmod_eq_emod_of_nonneg h0] at h
  unfold wrN wrT
  rw [wrapU (x := (n : Int)) (by omega) (by omega)]
  show (let m := (N + (n : Int)) % (18446744073709551616 : Int); if (false && decide (m ≥ (9223372036854775808 : Int))) = true then m - 18446744073709551616 else m) % 128 = _
  simp only [Bool.false_and, Bool.false_eq_true, if_false]
  omega

theorem wr_inv0 {n : Nat} (hn : n < 140737488355328) : 0 ≤ wrN 0 n ∧ Int.tmod (wrN 0 n) 128 = ((wrT 0 n : Nat) : Int) ∧ wrT 0 n < 128 := wr_inv (Int.le_refl 0) rfl hn

theorem shr61 {n : Int} (h0 : 0 ≤ n) (h : n < 2305843009213693952) : shr .u64 n 61 = 0 := by
  have e : shr .u64 n 61 = n.fdiv 2305843009213693952 := rfl
  rw [e, Int.fdiv_eq_ediv_of_nonneg _ (by omega)]
  omega
end Go.Proofs.Ytepimglipelpmaa.X

/- Printed by a tool of this session. -/
namespace Go.Proofs.Ytepimglipelpmaa.X
open Go Go.Proofs
set_option linter.unusedVariables false
set_option linter.unusedSimpArgs false
set_option maxRecDepth 100000
theorem teSJ_22 : TEOk Try.prog 22 ⟨.slice 5, 1, 24, [.raw (.slice none 0 0)], false⟩ :=
  TEOk.of Try.underlying22 (i := Try.t22) (by kernel_rfl) rfl rfl rfl (by kernel_rfl) (fun h => by cases h) (by kernel_rfl)
theorem teSJ_23 : TEOk Try.prog 23 ⟨.slice 22, 1, 24, [.raw (.slice none 0 0)], false⟩ :=
  TEOk.of Try.underlying23 (i := Try.t23) (by kernel_rfl) rfl rfl rfl (by kernel_rfl) (fun h => by cases h) (by kernel_rfl)
theorem teSJ_42 : TEOk Try.prog 42 ⟨.array 64 5, 64, 64, [.ints .u8 (64 : Nat) ([0, 0, 0, 0, 0, 0, 0, 0, 0, 0, 0, 0, 0, 0, 0, 0, 0, 0, 0, 0, 0, 0, 0, 0, 0, 0, 0, 0, 0, 0, 0, 0, 0, 0, 0, 0, 0, 0, 0, 0, 0, 0, 0, 0, 0, 0, 0, 0, 0, 0, 0, 0, 0, 0, 0, 0, 0, 0, 0, 0, 0, 0, 0, 0] : List Int)], true⟩ :=
  TEOk.of Try.underlying42 (i := Try.t42) (by kernel_rfl) rfl rfl rfl (by kernel_rfl) (fun _ => Try.eqGuardType42) (by kernel_rfl)
noncomputable def tabSJ : List (Nat × TE) := [(22, ⟨.slice 5, 1, 24, [.raw (.slice none 0 0)], false⟩), (23, ⟨.slice 22, 1, 24, [.raw (.slice none 0 0)], false⟩), (42, ⟨.array 64 5, 64, 64, [.ints .u8 (64 : Nat) ([0, 0, 0, 0, 0, 0, 0, 0, 0, 0, 0, 0, 0, 0, 0, 0, 0, 0, 0, 0, 0, 0, 0, 0, 0, 0, 0, 0, 0, 0, 0, 0, 0, 0, 0, 0, 0, 0, 0, 0, 0, 0, 0, 0, 0, 0, 0, 0, 0, 0, 0, 0, 0, 0, 0, 0, 0, 0, 0, 0, 0, 0, 0, 0] : List Int)], true⟩)]
theorem tabOkSJ : TabOk Try.prog (tabOf tabSJ) := (tabOf_cons teSJ_22 (tabOf_cons teSJ_23 (tabOf_cons teSJ_42 tabOf_nil)))

def join1 (n : Nat) (b : List Int) : List Int :=
  (hsum (wrS (konst) ([7640891576956012808, 13503953896175478587, 4354685564936845355, 11912009170470909681, 5840696475078001361, 11170449401992604703, 2270897969802886507, 6620516959819538809] : List Int) ([] : List Int) (sub b 0 n) (0 : Nat) n) (wrT (0 : Nat) n) (wrN (0 : Int) n) (wrL ([] : List Int) (sub b 0 n) (0 : Nat) n) (konst))

set_option maxHeartbeats 1000000 in
theorem join1_body0 (n cp : Nat) (b : List Int) (h0 : (n < (140737488355328 : Nat))) (hl1_0 : List.length b = n) (w : World) (rw : List Nat) (β : Env) : Body Try.prog (tabOf tabSJ) Try.f13 ⟨w, rw, 2, β⟩ [.o (.a (.sl 0 0 (1 : Nat) (1 : Nat)))] [some ⟨false, [.sl 1 0 n cp]⟩, some ⟨false, [.ints .u8 n b]⟩] (fun ys K' => ys = [.g [.ints .u8 (64 : Nat) (join1 n b)]] ∧ K' = [some ⟨false, [.sl 1 0 n cp]⟩, some ⟨false, [.ints .u8 n b]⟩]) :=
  Body.of_finK (Γ := gam14) (Λ := noLam) (Ψ := noPsi) (fuel := 2) (m := 19) (c := (Try.f13.body.getD .skip)) mix tabOkSJ gam14_ok rfl (rs := [.cell 2 42]) rfl rfl [true, false] [] 2
    (vc := [((True ∧ True) ∧ (((wrT (0 : Nat) n) = (wrT (0 : Nat) n)) ∧ ((0 : Int) ≤ (wrN (0 : Int) n)) ∧ ((Int.tmod (wrN (0 : Int) n) (128 : Int)) = (((wrT (0 : Nat) n) : Nat) : Int)))), (false = false), ((True ∧ ((((0 : Nat) + n) ≤ n) ∧ True)) ∧ (((0 : Nat) = (0 : Nat)) ∧ (n = n) ∧ ((0 : Nat) < (128 : Nat)) ∧ (n < (140737488355328 : Nat)))), (((0 : Int) ≤ (0 : Int)) ∧ ((0 : Int) < (1 : Int))), (true = true), (True ∧ True)]) (by kernel_rfl)
    (aC ⟨⟨trivial, trivial⟩, ⟨rfl, (by have hj := wr_inv0 h0; first | omega | exact hj.1 | exact hj.2.1 | (simp (disch := omega) only [wrapI]; omega)), (by have hj := wr_inv0 h0; first | omega | exact hj.1 | exact hj.2.1 | (simp (disch := omega) only [wrapI]; omega))⟩⟩ (aC rfl (aC ⟨⟨trivial, ⟨(by have hj := wr_inv0 h0; first | omega | exact hj.1 | exact hj.2.1 | (simp (disch := omega) only [wrapI]; omega)), trivial⟩⟩, ⟨rfl, rfl, (by decide), h0⟩⟩ (aC ⟨(by decide), (by decide)⟩ (aC rfl (aC ⟨trivial, trivial⟩ (AllP_nil)))))))

theorem join1_body (n cp : Nat) (b : List Int) (h0 : (n < (140737488355328 : Nat))) (w : World) (rw : List Nat) (β : Env) : Body Try.prog (tabOf tabSJ) Try.f13 ⟨w, rw, 2, β⟩ [.o (.a (.sl 0 0 (1 : Nat) (1 : Nat)))] [some ⟨false, [.sl 1 0 n cp]⟩, some ⟨false, [.ints .u8 n b]⟩] (fun ys K' => ys = [.g [.ints .u8 (64 : Nat) (join1 n b)]] ∧ K' = [some ⟨false, [.sl 1 0 n cp]⟩, some ⟨false, [.ints .u8 n b]⟩]) :=
  Body.lens (c := (Try.f13.body.getD .skip)) rfl fun h => join1_body0 n cp b h0 (h.lens 1 _ .u8 n b rfl (by simp)) w rw β

def gam16 : Gam := gcall 13 [false, false] [.w] (fun wk vs args => match wk, vs, args with | [⟨false, [.sl 1 0 n cp]⟩, ⟨false, [.ints .u8 n_1 b]⟩], [], [.o (.a (.sl 0 0 (1 : Nat) (1 : Nat)))] => some ((n_1 = n) ∧ (n < (140737488355328 : Nat)), [.g [.ints .u8 (64 : Nat) (join1 n b)]], [some ⟨false, [.sl 1 0 n cp]⟩, some ⟨false, [.ints .u8 n b]⟩]) | _, _, _ => none) gam14
theorem gam16_ok : GamOk Try.prog gam16 := gcall_ok tabOkSJ Try.func13 gam14_ok Try.call13 (by
  intro wk vs args p xs K1 h hv
  split at h
  · simp only [Option.some.injEq, Prod.mk.injEq] at h; obtain ⟨rfl, rfl, rfl⟩ := h; obtain ⟨g0, g1⟩ := hv; subst g0; exact fun caps w rw β => join1_body _ _ _ g1 w rw β
  · simp at h)

set_option maxHeartbeats 1000000 in
theorem sum_body0 (n nm : Nat) (b : List Int) (cap0 : Nat) (h0 : (nm = n)) (h1 : (n < (140737488355328 : Nat))) (hc0 : n ≤ cap0) (hl0_0 : List.length b = nm) (w : World) (β : Env) : Body Try.prog (tabOf tabSJ) Try.f11 ⟨w, [], 1, β⟩ [.o (.a (.sl 0 0 n cap0))] [some ⟨false, [.ints .u8 nm b]⟩] (fun ys _ => ys = [.g [.ints .u8 (64 : Nat) (join1 n b)]]) :=
  Body.of_fin (Γ := gam16) (Λ := noLam) (Ψ := noPsi) (fuel := 0) (m := 6) (c := (Try.f11.body.getD .skip)) mix tabOkSJ gam16_ok rfl (rs := [.cell 2 42]) rfl rfl [] []
    (vc := [((True ∧ True) ∧ ((nm = n) ∧ (n < (140737488355328 : Nat))))]) (by kernel_rfl)
    (aC ⟨⟨trivial, trivial⟩, ⟨h0, h1⟩⟩ (AllP_nil))

theorem sum_body (n nm : Nat) (b : List Int) (cap0 : Nat) (h0 : (nm = n)) (h1 : (n < (140737488355328 : Nat))) (w : World) (β : Env) : Body Try.prog (tabOf tabSJ) Try.f11 ⟨w, [], 1, β⟩ [.o (.a (.sl 0 0 n cap0))] [some ⟨false, [.ints .u8 nm b]⟩] (fun ys _ => ys = [.g [.ints .u8 (64 : Nat) (join1 n b)]]) :=
  Body.lens (c := (Try.f11.body.getD .skip)) rfl fun h => sum_body0 n nm b cap0 h0 h1 (h.caps 0 _ _ _ _ rfl) (h.lens 0 _ .u8 nm b rfl (by simp)) w β

def gam17 : Gam := greadV 11 [.s 1] (fun vs args => match vs, args with | [⟨_, _, _, [.ints .u8 nm b]⟩], [a0] => some ((nm = (lenOfA a0)) ∧ ((lenOfA a0) < (140737488355328 : Nat)), [.g [.ints .u8 (64 : Nat) (join1 (lenOfA a0) b)]]) | _, _ => none) gam16
theorem gam17_ok : GamOk Try.prog gam17 := greadV_ok tabOkSJ Try.func11 gam16_ok Try.call11 (by
  intro vs args p xs h hv
  split at h
  · simp only [Option.some.injEq, Prod.mk.injEq] at h; obtain ⟨rfl, rfl⟩ := h; exact ⟨by rfl, fun caps w β => sum_body _ _ _ _ hv.1 hv.2 w β⟩
  · simp at h)

end Go.Proofs.Ytepimglipelpmaa.X

/- Plain lemmas for the walk of the law of the chain. -/
namespace Go.Proofs.Ytepimglipelpmaa.X
open Go Go.Proofs
set_option linter.unusedVariables false

theorem sub_left {α : Type} (x y : List α) (c m : Nat) (h : c + m ≤ x.length) : sub (x ++ y) c m = sub x c m := by
  unfold sub
  rw [List.drop_append_of_le_length (by omega), List.take_append_of_le_length (by simp; omega)]

theorem sub_of_drop {α : Type} (l : List α) (a c m : Nat) : sub (l.drop a) c m = sub l (a + c) m := by
  unfold sub; rw [List.drop_drop]

theorem absN_zero (C D S : List Int) : absN C D 0 S = S := rfl
theorem absN_succ (C D : List Int) (k : Nat) (S : List Int) : absN C D (k + 1) S = blk (absN C D k S) (sub D (128 * k) 128) C := rfl

theorem absN_add (C D : List Int) (k1 : Nat) : ∀ (k2 : Nat) (S : List Int), absN C D (k1 + k2) S = absN C (D.drop (128 * k1)) k2 (absN C D k1 S)
  | 0, S => by rw [Nat.add_zero, absN_zero]
  | k2 + 1, S => by
    rw [← Nat.add_assoc, absN_succ, absN_succ, absN_add C D k1 k2 S, sub_of_drop, show 128 * k1 + 128 * k2 = 128 * (k1 + k2) by omega]

theorem absN_left (C D E : List Int) (k : Nat) (S : List Int) (h : 128 * k ≤ D.length) : absN C (D ++ E) k S = absN C D k S :=
  iter_congr fun i s hi => by rw [sub_left _ _ _ _ (by omega)]

end Go.Proofs.Ytepimglipelpmaa.X

/- Values that lie outside of the known blocks, taken in where they are loaded; a function whose arguments lie there. -/
namespace Go.Proofs.Ytepimglipelpmaa.X
open Go Go.Proofs
set_option linter.unusedVariables false

/-- what a value says -/
def intV : Value → Int
  | .int _ n => n
  | _ => 0
def lenV : Value → Nat
  | .slice _ len _ => len
  | _ => 0
def capV : Value → Nat
  | .slice _ _ cap => cap
  | _ => 0
/-- the integers that a slice shows in a world -/
def contV (w : World) : Value → List Int
  | .slice (some a) len _ => (match w.heap[a.block]? with
    | some (.cells arr _ _) => (List.range len).map fun i => intV (arr.getD (a.off + i) (.int .i64 0))
    | _ => [])
  | _ => []

end Go.Proofs.Ytepimglipelpmaa.X

/- Slices of bytes in a list, one behind the other: what they show together; contracts of functions that read such a list. -/
namespace Go.Proofs.Ytepimglipelpmaa.X
open Go Go.Proofs
set_option linter.unusedVariables false

/-- parts that lie in a world, one behind the other -/
def catV (w : World) (L : List Value) : Nat → List Int
  | 0 => []
  | k + 1 => catV w L k ++ contV w (L.getD k undef)

structure PartsR (w : World) (rw : List Nat) (L : List Value) (n : Nat) : Prop where
  imp : ∀ i, i < n → ∀ (k : Nat) (β : Env), ImpOk ⟨w, rw, k, β⟩ (L.getD i undef) .u8 (lenV (L.getD i undef)) (capV (L.getD i undef)) (contV w (L.getD i undef))
  small : (catV w L n).length < 70368744177664
abbrev PartsOk (w : World) (L : List Value) (n : Nat) : Prop := PartsR w [] L n

theorem PartsR.len {w : World} {rw : List Nat} {L : List Value} {n : Nat} (h : PartsR w rw L n) {i : Nat} (hi : i < n) : (contV w (L.getD i undef)).length = lenV (L.getD i undef) := by
  obtain ⟨_, _, _, h3, _⟩ := h.imp i hi 0 noEnv
  exact h3

theorem catV_mono (w : World) (L : List Value) {i : Nat} : ∀ {n : Nat}, i ≤ n → (catV w L i).length ≤ (catV w L n).length
  | 0, h => by have : i = 0 := by omega
               subst this; exact Nat.le_refl _
  | n + 1, h => by
    rcases Nat.lt_or_ge n i with h1 | h1
    · have : i = n + 1 := by omega
      subst this; exact Nat.le_refl _
    · refine Nat.le_trans (catV_mono w L h1) ?_
      show _ ≤ (catV w L n ++ _).length
      rw [List.length_append]; omega

theorem PartsR.lt {w : World} {rw : List Nat} {L : List Value} {n : Nat} (h : PartsR w rw L n) {i : Nat} (hi : i ≤ n) : (catV w L i).length < 70368744177664 := Nat.lt_of_le_of_lt (catV_mono w L hi) h.small
theorem getD_left {L M : List Value} {i : Nat} (h : i < L.length) : (L ++ M).getD i undef = L.getD i undef := by
  rw [List.getD_eq_getElem?_getD, List.getD_eq_getElem?_getD, List.getElem?_append_left h]
theorem getD_right {L M : List Value} {i : Nat} : (L ++ M).getD (L.length + i) undef = M.getD i undef := by
  rw [List.getD_eq_getElem?_getD, List.getD_eq_getElem?_getD, List.getElem?_append_right (by omega)]
  congr 2; omega
theorem contV_move {w0 w : World} {rw : List Nat} (h : ∀ b, b < w0.heap.size → b ∉ rw → w.heap[b]? = w0.heap[b]?) {v : Value} {k : Nat} {β : Env} (hi : ImpOk ⟨w0, rw, k, β⟩ v .u8 (lenV v) (capV v) (contV w0 v)) : contV w v = contV w0 v := by
  obtain ⟨base, hv, hlc, hL, hb⟩ := hi
  by_cases hc : 0 < capV v
  · obtain ⟨b, off, rfl, h1, h2, _⟩ := hb hc
    rw [hv]
    unfold contV
    simp only
    rw [h b h1 h2]
  · have h0 : lenV v = 0 := by omega
    rw [hv]
    unfold contV
    rw [h0]
    cases base with
    | none => rfl
    | some a =>
      simp only [List.range_zero, List.map_nil]
      split <;> split <;> rfl

theorem PartsR.move {w0 w : World} {rw : List Nat} (h : ∀ b, b < w0.heap.size → b ∉ rw → w.heap[b]? = w0.heap[b]?) (hs : w0.heap.size ≤ w.heap.size) {L : List Value} {n : Nat} (hp : PartsR w0 rw L n) : PartsOk w L n ∧ catV w L n = catV w0 L n := by
  have hc : ∀ k, k ≤ n → catV w L k = catV w0 L k := by
    intro k
    induction k with
    | zero => intro _; rfl
    | succ k ih =>
      intro hk
      show catV w L k ++ _ = catV w0 L k ++ _
      rw [ih (by omega), contV_move h (hp.imp k (by omega) 0 noEnv)]
  refine ⟨⟨fun i hi k β => ?_, by rw [hc n (Nat.le_refl _)]; exact hp.small⟩, hc n (Nat.le_refl _)⟩
  rw [contV_move h (hp.imp i hi 0 noEnv)]
  obtain ⟨base, hv, hlc, hL, hb⟩ := hp.imp i hi 0 noEnv
  refine ⟨base, hv, hlc, hL, fun h0 => ?_⟩
  obtain ⟨b, off, g1, g2, g3, g4⟩ := hb h0
  have g2 : b < w0.heap.size := g2
  refine ⟨b, off, g1, Nat.lt_of_lt_of_le g2 hs, by simp, fun hl => ?_⟩
  obtain ⟨arr, ty, fr, k1, k2⟩ := g4 hl
  exact ⟨arr, ty, fr, (h b g2 g3).trans k1, k2⟩

section sound
variable {w0 w : World} {rw : List Nat} {β : Env} {K : Know}

end sound

end Go.Proofs.Ytepimglipelpmaa.X

/- What a digest of bytes is, as a function of the bytes; the document's is the program's. (drbg seat) -/
namespace Go.Proofs.Ytepimglipelpmaa.X
open Go Go.Proofs
set_option linter.unusedVariables false

theorem wrN_eq {N : Int} {n : Nat} (h0 : 0 ≤ N) (h : N + ((n : Nat) : Int) < 2305843009213693952) : wrN N n = N + ((n : Nat) : Int) := by
  unfold wrN
  rw [wrapU (x := ((n : Nat) : Int)) (by omega) (by omega), wrapU (by omega) (by omega)]
def H0 : List Int := [7640891576956012808, 13503953896175478587, 4354685564936845355, 11912009170470909681, 5840696475078001361, 11170449401992604703, 2270897969802886507, 6620516959819538809]
def hS (D : List Int) : List Int := absN konst D (D.length / 128) H0
def hT (D : List Int) : Nat := D.length % 128
def hN (D : List Int) : Int := ((D.length : Nat) : Int)
def hL (D : List Int) : List Int := D.drop (128 * (D.length / 128))
/-- the digest -/
def shaD (D : List Int) : List Int := hsum (hS D) (hT D) (hN D) (hL D) konst

theorem hT_lt (D : List Int) : hT D < 128 := by unfold hT; omega
theorem hL_len (D : List Int) : (hL D).length = hT D := by unfold hL hT; simp; omega
theorem hN_nn (D : List Int) : 0 ≤ hN D := by unfold hN; omega
theorem hN_mod (D : List Int) : Int.tmod (hN D) 128 = ((hT D : Nat) : Int) := by
  unfold hN hT
  rw [Int.tmod_eq_emod_of_nonneg (by omega)]; omega
theorem hS_step {D c : List Int} {n : Nat} (hc : c.length = n) : wrS konst (hS D) (hL D) (sub c 0 n) (hT D) n = hS (D ++ c) := by
  rw [sub_all c n (by omega)]
  unfold wrS hS
  have e1 : hL D ++ c = (D ++ c).drop (128 * (D.length / 128)) := by
    unfold hL; rw [List.drop_append_of_le_length (by omega)]
  have e2 : (D ++ c).length / 128 = D.length / 128 + (hT D + n) / 128 := by
    rw [List.length_append, hc]; unfold hT; omega
  rw [e1, e2, absN_add, absN_left _ _ _ _ _ (by omega)]

theorem hT_step {D c : List Int} {n : Nat} (hc : c.length = n) : wrT (hT D) n = hT (D ++ c) := by
  unfold wrT hT; rw [List.length_append, hc]; omega
theorem hN_step {D c : List Int} {n : Nat} (hc : c.length = n) (h : (D ++ c).length < 1152921504606846976) : wrN (hN D) n = hN (D ++ c) := by
  rw [List.length_append] at h
  unfold hN
  rw [wrN_eq (by omega) (by omega), List.length_append, hc]
  omega
theorem hL_step {D c : List Int} {n : Nat} (hc : c.length = n) : wrL (hL D) (sub c 0 n) (hT D) n = hL (D ++ c) := by
  rw [sub_all c n (by omega)]
  unfold wrL
  have e1 : hL D ++ c = (D ++ c).drop (128 * (D.length / 128)) := by
    unfold hL; rw [List.drop_append_of_le_length (by omega)]
  rw [e1, List.drop_drop]
  unfold hL
  congr 1
  rw [List.length_append, hc]; unfold hT; omega

/-- a part more -/
theorem PartsOk.step {w : World} {L : List Value} {n : Nat} (h : PartsOk w L n) {k : Nat} (hk : k < n) {c : List Int} (hc : c = contV w (L.getD k undef)) :
    wrS konst (hS (catV w L k)) (hL (catV w L k)) (sub c 0 (lenV (L.getD k undef))) (hT (catV w L k)) (lenV (L.getD k undef)) = hS (catV w L (k + 1)) ∧
      wrT (hT (catV w L k)) (lenV (L.getD k undef)) = hT (catV w L (k + 1)) ∧ wrN (hN (catV w L k)) (lenV (L.getD k undef)) = hN (catV w L (k + 1)) ∧
      wrL (hL (catV w L k)) (sub c 0 (lenV (L.getD k undef))) (hT (catV w L k)) (lenV (L.getD k undef)) = hL (catV w L (k + 1)) := by
  subst hc
  have h1 := h.len hk
  refine ⟨hS_step h1, hT_step h1, hN_step h1 ?_, hL_step h1⟩
  have := h.lt (i := k + 1) hk
  have h2 : (catV w L k ++ contV w (L.getD k undef)).length < 70368744177664 := this
  omega

/-- the sum of bytes -/
theorem join1_sha {n : Nat} {b : List Int} (hb : b.length = n) (h : n < 70368744177664) : join1 n b = shaD b := by
  have h0 : hS [] = H0 := rfl
  have e1 : wrS konst H0 [] (sub b 0 n) 0 n = hS b := by
    have := hS_step (D := []) hb
    exact this
  have e2 : wrT 0 n = hT b := hT_step (D := []) hb
  have e3 : wrN 0 n = hN b := hN_step (D := []) hb (by simp; omega)
  have e4 : wrL [] (sub b 0 n) 0 n = hL b := hL_step (D := []) hb
  show hsum _ _ _ _ konst = _
  unfold shaD
  rw [← e1, ← e2, ← e3, ← e4]; rfl
end Go.Proofs.Ytepimglipelpmaa.X

/- Printed by a tool of this session. -/
namespace Go.Proofs.Ytepimglipelpmaa.X
open Go Go.Proofs
set_option linter.unusedVariables false
set_option linter.unusedSimpArgs false
set_option maxRecDepth 100000
theorem teUB_3 : TEOk Try.prog 3 ⟨.int .i64, 1, 8, [.i .i64 (0 : Int)], false⟩ :=
  TEOk.of Try.underlying3 (i := Try.t3) (by kernel_rfl) rfl rfl rfl (by kernel_rfl) (fun h => by cases h) (by kernel_rfl)
theorem teUB_5 : TEOk Try.prog 5 ⟨.int .u8, 1, 1, [.i .u8 (0 : Int)], false⟩ :=
  TEOk.of Try.underlying5 (i := Try.t5) (by kernel_rfl) rfl rfl rfl (by kernel_rfl) (fun h => by cases h) (by kernel_rfl)
theorem teUB_22 : TEOk Try.prog 22 ⟨.slice 5, 1, 24, [.raw (.slice none 0 0)], false⟩ :=
  TEOk.of Try.underlying22 (i := Try.t22) (by kernel_rfl) rfl rfl rfl (by kernel_rfl) (fun h => by cases h) (by kernel_rfl)
noncomputable def tabUB : List (Nat × TE) := [(3, ⟨.int .i64, 1, 8, [.i .i64 (0 : Int)], false⟩), (5, ⟨.int .u8, 1, 1, [.i .u8 (0 : Int)], false⟩), (22, ⟨.slice 5, 1, 24, [.raw (.slice none 0 0)], false⟩)]
theorem tabOkUB : TabOk Try.prog (tabOf tabUB) := (tabOf_cons teUB_3 (tabOf_cons teUB_5 (tabOf_cons teUB_22 tabOf_nil)))

theorem not_bne_self (x : Int) : (x != x) = false := by simp
def mkBy (i k : Int) : Int :=
  (IntKind.u8.wrap (IntKind.i64.wrap ((IntKind.i64.wrap ((IntKind.i64.wrap (i * (31 : Int))) + (IntKind.i64.wrap (k * (7 : Int))))) + (5 : Int))))

set_option maxHeartbeats 1000000 in
theorem mkBy_body0 (i k : Int) (w : World) : Body Try.prog (tabOf tabUB) Try.f43 ⟨w, [], 0, noEnv⟩ (toA [.a (.i .i64 i), .a (.i .i64 k)]) [] (fun ys _ => ys = [.a (.i .u8 (mkBy i k))]) :=
  Body.of_fin (Γ := gam17) (Λ := noLam) (Ψ := noPsi) (fuel := 0) (m := 12) (c := (Try.f43.body.getD .skip)) mix tabOkUB gam17_ok rfl (rs := [.tmp 4]) rfl rfl [] []
    (vc := []) (by kernel_rfl)
    (AllP_nil)

theorem mkBy_body (i k : Int) (w : World) : Body Try.prog (tabOf tabUB) Try.f43 ⟨w, [], 0, noEnv⟩ (toA [.a (.i .i64 i), .a (.i .i64 k)]) [] (fun ys _ => ys = [.a (.i .u8 (mkBy i k))]) :=
  Body.lens (c := (Try.f43.body.getD .skip)) rfl fun h => mkBy_body0 i k  w

theorem mkBy_pure (i k : Int) : PureC Try.prog 43 [.a (.i .i64 i), .a (.i .i64 k)] [.a (.i .u8 (mkBy i k))] :=
  PureC.of_body tabOkUB Try.func43 rfl rfl fun w => mkBy_body i k w

noncomputable def gam18 : Gam := gpure 43 (fun args => match args with | [.o (.a (.i .i64 i)), .o (.a (.i .i64 k))] => some (none, [.a (.i .u8 (mkBy i k))]) | _ => none) gam17
theorem gam18_ok : GamOk Try.prog gam18 := gpure_ok gam17_ok Try.call43 (by
  intro args vc xs h hv
  split at h
  · simp only [Option.some.injEq, Prod.mk.injEq] at h; obtain ⟨rfl, rfl⟩ := h; exact ⟨_, by rfl, mkBy_pure _ _⟩
  · simp at h)

noncomputable def copyB (n : Nat) (b : List Int) : List Int :=
  (sub b 0 n)

set_option maxHeartbeats 1000000 in
theorem copyB_body0 (n nm : Nat) (b : List Int) (cap0 : Nat) (h0 : (nm = n)) (h1 : (n < (35184372088832 : Nat))) (hc0 : n ≤ cap0) (hl0_0 : List.length b = nm) (w : World) (rw : List Nat) (β : Env) : Body Try.prog (tabOf tabUB) Try.f39 ⟨w, rw, 1, β⟩ [.o (.a (.sl 0 0 n cap0))] [some ⟨false, [.ints .u8 nm b]⟩] (fun ys K' => ys = [.a (.rs 1 0 n 1)] ∧ K' = [some ⟨false, [.ints .u8 nm b]⟩, some ⟨true, [.ints .u8 n (copyB n b)]⟩]) :=
  Body.of_finK (Γ := gam18) (Λ := noLam) (Ψ := noPsi) (fuel := 0) (m := 8) (c := (Try.f39.body.getD .skip)) mix tabOkUB gam18_ok rfl (rs := [.tmp 2]) rfl rfl [false] [] 2
    (vc := [(((n ≤ n) ∧ (((0 : Nat) + n) ≤ nm)) ∧ ((n * (1 : Nat)) ≤ (140737488355328 : Nat)))]) (by kernel_rfl)
    (aC ⟨⟨(by first | omega | (simp (disch := omega) only [wrapI]; omega)), (by first | omega | (simp (disch := omega) only [wrapI]; omega))⟩, (by first | omega | (simp (disch := omega) only [wrapI]; omega))⟩ (AllP_nil))

theorem copyB_body (n nm : Nat) (b : List Int) (cap0 : Nat) (h0 : (nm = n)) (h1 : (n < (35184372088832 : Nat))) (w : World) (rw : List Nat) (β : Env) : Body Try.prog (tabOf tabUB) Try.f39 ⟨w, rw, 1, β⟩ [.o (.a (.sl 0 0 n cap0))] [some ⟨false, [.ints .u8 nm b]⟩] (fun ys K' => ys = [.a (.rs 1 0 n 1)] ∧ K' = [some ⟨false, [.ints .u8 nm b]⟩, some ⟨true, [.ints .u8 n (copyB n b)]⟩]) :=
  Body.lens (c := (Try.f39.body.getD .skip)) rfl fun h => copyB_body0 n nm b cap0 h0 h1 (h.caps 0 _ _ _ _ rfl) (h.lens 0 _ .u8 nm b rfl (by simp)) w rw β

noncomputable def sameBL_mk (n nm : Nat) (b : List Int) (m mm : Nat) (c : List Int) (cap0 cap1 k : Nat) (s : Unit) : St := ⟨sparse 26 [(0, .o (.a (.sl 0 0 n cap0))), (1, .o (.a (.sl 1 0 m cap1))), (5, .o (.a (.i .i64 ((k : Nat) : Int)))), (6, .o (.a (.sl 0 0 n cap0))), (7, .o (.a (.i .i64 ((n : Nat) : Int)))), (8, .o (.a (.sl 1 0 m cap1))), (9, .o (.a (.i .i64 ((m : Nat) : Int)))), (10, .o (.a (.b (((n : Nat) : Int) != ((m : Nat) : Int)))))], [some ⟨false, [.ints .u8 nm b]⟩, some ⟨false, [.ints .u8 mm c]⟩]⟩

noncomputable def sameBL_step (k : Nat) (s : Unit) : Unit :=
  ()

set_option maxHeartbeats 1000000 in
theorem sameBL_round (n nm : Nat) (b : List Int) (m mm : Nat) (c : List Int) (cap0 cap1 : Nat) (h0 : (nm = n)) (h1 : (mm = m)) (h2 : (m = n)) (h3 : (b = c)) (h4 : (n < (70368744177664 : Nat))) (hc0 : n ≤ cap0) (hc1 : m ≤ cap1) (hl0_0 : List.length b = nm) (hl1_0 : List.length c = mm) (w : World) (β : Env) (k : Nat) (hk : k < n) (s : Unit) : Run Try.prog ⟨w, [], 2, β⟩ (loopB Try.f24 0) (sameBL_mk n nm b m mm c cap0 cap1 k s) (To ⟨w, [], 2, β⟩ .normal (sameBL_mk n nm b m mm c cap0 cap1 (k + 1) (sameBL_step k s))) := by
  have e0 : (IntKind.i64.wrap (((k : Nat) : Int) + (1 : Int))) = (((k + (1 : Nat)) : Nat) : Int) := (by first | rfl | exact wrap_succ (by omega) | omega | (simp (disch := omega) only [wrapI]; omega))
  have h := Run.of_outT (B := ⟨w, [], 2, β⟩) (Λ := noLam) (Ψ := noPsi) (fuel := 0) (ora := [true, false]) (c := (loopB Try.f24 0)) (st := (sameBL_mk n nm b m mm c cap0 cap1 k s)) (l := [.forget [0, 1, 5, 6, 7, 8, 9, 10] 2]) (s' := ⟨sparse 26 [(0, .o (.a (.sl 0 0 n cap0))), (1, .o (.a (.sl 1 0 m cap1))), (5, .o (.a (.i .i64 (IntKind.i64.wrap (((k : Nat) : Int) + (1 : Int)))))), (6, .o (.a (.sl 0 0 n cap0))), (7, .o (.a (.i .i64 ((n : Nat) : Int)))), (8, .o (.a (.sl 1 0 m cap1))), (9, .o (.a (.i .i64 ((m : Nat) : Int)))), (10, .o (.a (.b (((n : Nat) : Int) != ((m : Nat) : Int)))))], [some ⟨false, [.ints .u8 nm b]⟩, some ⟨false, [.ints .u8 mm c]⟩]⟩) (ex := .normal) mix tabOkUB gam18_ok
    (vc := [(((List.getD b k 0) != (List.getD c k 0)) = false), (k < mm), (((0 : Int) ≤ ((k : Nat) : Int)) ∧ (((k : Nat) : Int) < ((m : Nat) : Int))), (k < nm), (((0 : Int) ≤ ((k : Nat) : Int)) ∧ (((k : Nat) : Int) < ((n : Nat) : Int))), ((decide (((k : Nat) : Int) < ((n : Nat) : Int))) = true)]) (by kernel_rfl)
    (aC (by rw [h3]; exact not_bne_self _) (aC (by first | omega | (simp (disch := omega) only [wrapI]; omega)) (aC ⟨(by first | omega | (simp (disch := omega) only [wrapI]; omega)), (by first | omega | (simp (disch := omega) only [wrapI]; omega))⟩ (aC (by first | omega | (simp (disch := omega) only [wrapI]; omega)) (aC ⟨(by first | omega | (simp (disch := omega) only [wrapI]; omega)), (by first | omega | (simp (disch := omega) only [wrapI]; omega))⟩ (aC (decide_eq_true (by first | omega | (simp (disch := omega) only [wrapI]; omega))) (AllP_nil)))))))
  rw [e0] at h
  exact h

set_option maxHeartbeats 1000000 in
theorem sameBL_last (n nm : Nat) (b : List Int) (m mm : Nat) (c : List Int) (cap0 cap1 : Nat) (h0 : (nm = n)) (h1 : (mm = m)) (h2 : (m = n)) (h3 : (b = c)) (h4 : (n < (70368744177664 : Nat))) (hc0 : n ≤ cap0) (hc1 : m ≤ cap1) (hl0_0 : List.length b = nm) (hl1_0 : List.length c = mm) (w : World) (β : Env) (s : Unit) : Run Try.prog ⟨w, [], 2, β⟩ (loopB Try.f24 0) (sameBL_mk n nm b m mm c cap0 cap1 n s) (To ⟨w, [], 2, β⟩ (.exit 0) (sameBL_mk n nm b m mm c cap0 cap1 n s)) :=
  Run.of_outT (B := ⟨w, [], 2, β⟩) (Λ := noLam) (Ψ := noPsi) (fuel := 0) (ora := [false]) (l := [.forget [0, 1, 5, 6, 7, 8, 9, 10] 2]) mix tabOkUB gam18_ok
    (vc := [((decide (((n : Nat) : Int) < ((n : Nat) : Int))) = false)]) (by kernel_rfl)
    (aC (decide_eq_false (by first | omega | (simp (disch := omega) only [wrapI]; omega))) (AllP_nil))

theorem sameBL_loop (n nm : Nat) (b : List Int) (m mm : Nat) (c : List Int) (cap0 cap1 : Nat) (h0 : (nm = n)) (h1 : (mm = m)) (h2 : (m = n)) (h3 : (b = c)) (h4 : (n < (70368744177664 : Nat))) (hc0 : n ≤ cap0) (hc1 : m ≤ cap1) (hl0_0 : List.length b = nm) (hl1_0 : List.length c = mm) (w : World) (β : Env) (s : Unit) : Run Try.prog ⟨w, [], 2, β⟩ (.block 0 (.loop (loopB Try.f24 0))) (sameBL_mk n nm b m mm c cap0 cap1 0 s) (To ⟨w, [], 2, β⟩ .normal (sameBL_mk n nm b m mm c cap0 cap1 n (iter (sameBL_step) n s))) :=
  Run.count (fun k => sameBL_mk n nm b m mm c cap0 cap1 k (iter (sameBL_step) k s)) n (fun k hk => sameBL_round n nm b m mm c cap0 cap1 h0 h1 h2 h3 h4 hc0 hc1 hl0_0 hl1_0 w β k hk _) (ex := (.exit 0)) (by simp) (sameBL_last n nm b m mm c cap0 cap1 h0 h1 h2 h3 h4 hc0 hc1 hl0_0 hl1_0 w β _)

set_option maxHeartbeats 1000000 in
theorem sameB_body0 (n nm : Nat) (b : List Int) (m mm : Nat) (c : List Int) (cap0 cap1 : Nat) (h0 : (nm = n)) (h1 : (mm = m)) (h2 : (m = n)) (h3 : (b = c)) (h4 : (n < (70368744177664 : Nat))) (hc0 : n ≤ cap0) (hc1 : m ≤ cap1) (hl0_0 : List.length b = nm) (hl1_0 : List.length c = mm) (w : World) (β : Env) : Body Try.prog (tabOf tabUB) Try.f24 ⟨w, [], 2, β⟩ [.o (.a (.sl 0 0 n cap0)), .o (.a (.sl 1 0 m cap1))] [some ⟨false, [.ints .u8 nm b]⟩, some ⟨false, [.ints .u8 mm c]⟩] (fun ys _ => ys = [.a (.b true)]) :=
  Body.of_fin (Γ := gam18) (Λ := lamOf [(0, ⟨[.forget [0, 1, 5, 6, 7, 8, 9, 10] 2], .normal, (sameBL_mk n nm b m mm c cap0 cap1 n (iter (sameBL_step) n ()))⟩)]) (Ψ := noPsi) (fuel := 0) (m := 26) (c := (Try.f24.body.getD .skip)) mix tabOkUB gam18_ok rfl (rs := [.tmp 4]) rfl rfl [false] []
    (vc := [(Run Try.prog ⟨w, [], 2, β⟩ (.block 0 (.loop (loopB Try.f24 0))) (sameBL_mk n nm b m mm c cap0 cap1 0 ()) (To ⟨w, [], 2, β⟩ .normal (sameBL_mk n nm b m mm c cap0 cap1 n (iter (sameBL_step) n ())))), ((((n : Nat) : Int) != ((m : Nat) : Int)) = false)]) (by kernel_rfl)
    (aC (sameBL_loop n nm b m mm c cap0 cap1 h0 h1 h2 h3 h4 hc0 hc1 hl0_0 hl1_0 w β ()) (aC (bne_eq_false_iff_eq.2 (by first | omega | (simp (disch := omega) only [wrapI]; omega))) (AllP_nil)))

theorem sameB_body (n nm : Nat) (b : List Int) (m mm : Nat) (c : List Int) (cap0 cap1 : Nat) (h0 : (nm = n)) (h1 : (mm = m)) (h2 : (m = n)) (h3 : (b = c)) (h4 : (n < (70368744177664 : Nat))) (w : World) (β : Env) : Body Try.prog (tabOf tabUB) Try.f24 ⟨w, [], 2, β⟩ [.o (.a (.sl 0 0 n cap0)), .o (.a (.sl 1 0 m cap1))] [some ⟨false, [.ints .u8 nm b]⟩, some ⟨false, [.ints .u8 mm c]⟩] (fun ys _ => ys = [.a (.b true)]) :=
  Body.lens (c := (Try.f24.body.getD .skip)) rfl fun h => sameB_body0 n nm b m mm c cap0 cap1 h0 h1 h2 h3 h4 (h.caps 0 _ _ _ _ rfl) (h.caps 1 _ _ _ _ rfl) (h.lens 0 _ .u8 nm b rfl (by simp)) (h.lens 1 _ .u8 mm c rfl (by simp)) w β

noncomputable def gam19 : Gam := greadV 24 [.s 1, .s 1] (fun vs args => match vs, args with | [⟨_, _, _, [.ints .u8 nm b]⟩, ⟨_, _, _, [.ints .u8 mm c]⟩], [a0, a1] => some ((nm = (lenOfA a0)) ∧ (mm = (lenOfA a1)) ∧ ((lenOfA a1) = (lenOfA a0)) ∧ (b = c) ∧ ((lenOfA a0) < (70368744177664 : Nat)), [.a (.b true)]) | _, _ => none) gam18
theorem gam19_ok : GamOk Try.prog gam19 := greadV_ok tabOkUB Try.func24 gam18_ok Try.call24 (by
  intro vs args p xs h hv
  split at h
  · simp only [Option.some.injEq, Prod.mk.injEq] at h; obtain ⟨rfl, rfl⟩ := h; exact ⟨by rfl, fun caps w β => sameB_body _ _ _ _ _ _ _ _ hv.1 hv.2.1 hv.2.2.1 hv.2.2.2.1 hv.2.2.2.2 w β⟩
  · simp at h)

end Go.Proofs.Ytepimglipelpmaa.X

/- The core, part 5 of 5: blocks of memory known by number, and an evaluator over loaded code, shown sound. -/
/- Rows: a law that answers true and leaves what was there as it was: from its body to its post; arguments opened. -/
namespace Go.Proofs.Ytepimglipelpmaa.R
open Go Go.Proofs Go.ChangeShapes Go.WideShapes Go.ChangeAt Go.RowKit Go.Proofs.Ytepimglipelpmaa.X
set_option linter.unusedVariables false

theorem below {W W' : World} (g : Grow W W') : Below W.heap.size W W' := ⟨g.os, g.tape, g.output, g.size, g.old⟩

section post
variable {H : Type} {enc : TypeId × Value → H} {P : Program}

/-- types that read again -/
def Reads (P : Program) (ts : List TypeId) : Bool := laidOutB P && ts.all fun t => P.readableRec t && decide (t < P.types.size)

theorem trodAll_grow (hl : laidOutB P = true) {W W' : World} (g : Grow W W') {sp : Nat → Bool} : ∀ {ts : List TypeId} {vs : List Value} {ds : List (DataW H)} {ps : List MemPlace}, (ts.all fun t => P.readableRec t && decide (t < P.types.size)) = true →
    DataW.TrodAll enc P W 0 (fun _ => true) true ts vs ds ps → (∀ p ∈ ps, p.block < W.heap.size) → (∀ p ∈ ps, sp p.block = true) → DataW.TrodAll enc P W' 0 sp true ts vs ds ps
  | [], [], [], ps, _, h, _, _ => h
  | [], _ :: _, _, _, _, h, _, _ => h.elim
  | [], [], _ :: _, _, _, h, _, _ => h.elim
  | _ :: _, [], _, _, _, h, _, _ => h.elim
  | _ :: _, _ :: _, [], _, _, h, _, _ => h.elim
  | t :: ts, v :: vs, d :: ds, ps, ht, h, hlt, hsp => by
    obtain ⟨p, q, hd, hr, rfl⟩ := h
    simp only [List.all_cons, Bool.and_eq_true, decide_eq_true_eq] at ht
    exact ⟨p, q, WideElems.Trod_stays hl ht.1.1 ht.1.2 hd (fun x hx => (below g).same (hlt x (by simp [hx]))) (fun x hx => hsp x (by simp [hx])),
      trodAll_grow hl g ht.2 hr (fun x hx => hlt x (by simp [hx])) (fun x hx => hsp x (by simp [hx])), rfl⟩

theorem post_true {f : Func} {s : ChangeSpec} {W W' : World} {args : Array Value} {ds : List (DataW H)} {before : List MemPlace} {tb : TypeId}
    (hreads : Reads P f.params.toList = true) (hvars : s.vars = []) (hfn : s.fn H ds = { results := [.lit (.bool true)], args := ds }) (hrt : f.resultTypes = #[tb]) (htb : P.underlying tb = some .bool)
    (hW : DataW.Whole enc P f.params.toList s.vars false W args.toList ds [] before) (g : Grow W W') : s.post enc P f false true false false W args (.bool true) W' := by
  unfold Reads at hreads
  rw [Bool.and_eq_true] at hreads
  have hW0 := hW
  obtain ⟨p, q, hA, hV, rfl, hfz, hnd⟩ := hW
  rw [hvars] at hV
  obtain ⟨_, rfl⟩ := trodVars_none hV
  have hlt : ∀ x ∈ p ++ [], x.block < W.heap.size := fun x hx => by simpa using hW0.lt x hx
  have hfn' : s.fn H (ds ++ []) = { results := [.lit (.bool true)], args := ds } := by rw [List.append_nil]; exact hfn
  refine ⟨ds, [], p ++ [], [], p ++ [], [], hW0, ?_, ?_, ?_, (below g).frame _, fun h => by cases h⟩
  · rw [hfn', hrt]; exact trodAll_cons_mk (shut_bool htb _) trodAll_mk0
  · rw [hfn']
    rw [List.append_nil] at hlt ⊢
    exact trodAll_grow hreads.1 g hreads.2 hA hlt (fun x hx => by simpa using hlt x hx)
  · rw [hfn', hvars]; exact rfl
end post

/-- what a list of arguments is, abstractly, with blocks from the i-th on -/
def Opened (W : World) (i : Nat) (vs : List Value) (avs : List AV) (K : Know) : Prop :=
  ∃ ρ : List (Option Ref), ρ.length = K.length ∧ ∀ β : Env, (∀ j, j < ρ.length → β (i + j) = (ρ[j]?).join) →
    (∀ j b, K.at j = some b → b.own = false ∧ b.holds β W (i + j) ∧ ∀ r, β (i + j) = some r → r.blk < W.heap.size) ∧ allC β avs vs

theorem Opened.nil {W : World} {i : Nat} : Opened W i [] [] [] := ⟨[], rfl, fun β _ => ⟨fun j b h => by simp [Know.at] at h, rfl⟩⟩

theorem allC_app {β : Env} : ∀ {a b : List AV} {x y : List Value}, allC β a x → allC β b y → allC β (a ++ b) (x ++ y)
  | [], _, _, _, h, h' => by cases h; exact h'
  | _ :: _, _, _, _, ⟨v, r, hv, hc, hr⟩, h' => by subst hv; exact ⟨v, _, rfl, hc, allC_app hr h'⟩

theorem Opened.app {W : World} {i : Nat} {vs vs' : List Value} {avs avs' : List AV} {K K' : Know} (h : Opened W i vs avs K) (h' : Opened W (i + K.length) vs' avs' K') : Opened W i (vs ++ vs') (avs ++ avs') (K ++ K') := by
  obtain ⟨ρ, hl, hρ⟩ := h
  obtain ⟨ρ', hl', hρ'⟩ := h'
  refine ⟨ρ ++ ρ', by simp [hl, hl'], fun β hβ => ?_⟩
  obtain ⟨h1, h2⟩ := hρ β fun j hj => by rw [hβ j (by simp; omega), List.getElem?_append_left hj]
  obtain ⟨h3, h4⟩ := hρ' β fun j hj => by
    rw [Nat.add_assoc, hβ (K.length + j) (by simp; omega), List.getElem?_append_right (by omega)]
    congr 2; omega
  refine ⟨fun j b hb => ?_, allC_app h2 h4⟩
  by_cases hj : j < K.length
  · refine h1 j b ?_
    unfold Know.at at hb ⊢; rwa [List.getElem?_append_left hj] at hb
  · have := h3 (j - K.length) b (by unfold Know.at at hb ⊢; rwa [List.getElem?_append_right (by omega)] at hb)
    rw [show i + K.length + (j - K.length) = i + j from by omega] at this
    exact this

theorem Opened.rel {W : World} {vs : List Value} {avs : List AV} {K : Know} (h : Opened W 0 vs avs K) : ∃ β : Env, RelW W [] β K W ∧ allC β avs vs := by
  obtain ⟨ρ, hl, hρ⟩ := h
  obtain ⟨h1, h2⟩ := hρ (fun j => (ρ[j]?).join) fun j hj => by rw [Nat.zero_add]
  refine ⟨_, RelW.ofRead fun j b hj => ?_, h2⟩
  have := h1 j b hj
  rw [Nat.zero_add] at this; exact this

/-- a value without places -/
theorem Opened.val {W : World} {i : Nat} {v : Value} {x : V1} (h : ∀ β : Env, x.con β v) : Opened W i [v] [.o x] [] :=
  ⟨[], rfl, fun β _ => ⟨fun j b hb => by simp [Know.at] at hb, ⟨v, [], rfl, h β, rfl⟩⟩⟩

/-- a slice of integers -/
theorem Opened.sl {W : World} {i : Nat} {k : IntKind} {a0 : Option Addr} {len cap : Nat} {L : List Int} (hL : L.length = len) (hlc : len ≤ cap)
    (hc : 0 < cap → ∃ b off arr ty fr, a0 = some ⟨b, off, none⟩ ∧ W.heap[b]? = some (.cells arr ty fr) ∧ off + len ≤ arr.size ∧ ∀ i x, L[i]? = some x → arr[off + i]? = some (.int k x)) :
    Opened W i [.slice a0 len cap] [.o (.a (.sl i 0 len cap))] [some ⟨false, [.ints k len L]⟩] := by
  have hbk : ∀ j (bk : Blk), Know.at [some ⟨false, [.ints k len L]⟩] j = some bk → j = 0 ∧ bk = ⟨false, [.ints k len L]⟩ := by
    intro j bk hj
    match j, hj with
    | 0, hj => exact ⟨rfl, (Option.some.inj hj).symm⟩
    | j + 1, hj => simp [Know.at] at hj
  by_cases h0 : 0 < cap
  · obtain ⟨b, off, arr, ty, fr, rfl, hh, hs, hx⟩ := hc h0
    have hlt : b < W.heap.size := (Array.getElem?_eq_some_iff.1 hh).1
    refine ⟨[some ⟨b, off, arr.size⟩], rfl, fun β hβ => ?_⟩
    have hb := hβ 0 (by simp)
    rw [Nat.add_zero] at hb
    have hb : β i = some ⟨b, off, arr.size⟩ := hb
    refine ⟨fun j bk hj => ?_, _, [], rfl, ⟨_, rfl, hlc, fun _ => ⟨_, hb, rfl⟩⟩, rfl⟩
    obtain ⟨rfl, rfl⟩ := hbk j bk hj
    rw [Nat.add_zero]
    refine ⟨rfl, ⟨L.map (Value.int k), ⟨_, [], by simp, ⟨hL, rfl⟩, rfl⟩, .inr ⟨_, arr, ty, fr, hb, hh, rfl, by simp; omega, ?_, fun h => by cases h⟩⟩, fun r hr => by rw [hb] at hr; cases hr; exact hlt⟩
    intro i v hv
    rw [List.getElem?_map, Option.map_eq_some_iff] at hv
    obtain ⟨x, hx', rfl⟩ := hv
    exact hx i x hx'
  · have hn : L = [] := List.length_eq_zero_iff.1 (by omega)
    subst hn
    have hl0 : len = 0 := by omega
    subst hl0
    refine ⟨[none], rfl, fun β hβ => ?_⟩
    have hb : β i = none := hβ 0 (by simp)
    refine ⟨fun j bk hj => ?_, _, [], rfl, ⟨_, rfl, hlc, fun h => absurd h h0⟩, rfl⟩
    obtain ⟨rfl, rfl⟩ := hbk j bk hj
    rw [Nat.add_zero]
    exact ⟨rfl, ⟨[], ⟨[], [], rfl, ⟨rfl, rfl⟩, rfl⟩, .inl ⟨rfl, .inl rfl⟩⟩, fun r hr => by rw [hb] at hr; cases hr⟩

section args
variable {H : Type} {enc : TypeId × Value → H} {P : Program} {W : World} {base : Nat} {sp : Nat → Bool}

/-- an argument []int, opened -/
theorem ints_arg {t e : TypeId} {k : IntKind} {v : Value} {d : DataW H} {p : List MemPlace} (ht : P.underlying t = some (.slice e)) (he : P.underlying e = some (.int k)) (hc : P.cellsOf e = 1)
    (hval : Value.okWide P W .any base t v) (h : DataW.Trod enc P W 0 (fun _ => true) true t v d p) :
    ∃ (len cap : Nat) (L : List Int), L.length = len ∧ len ≤ cap ∧ (∀ n ∈ L, (Lit.int k n).wf = true) ∧ (∀ i, Opened W i [v] [.o (.a (.sl i 0 len cap))] [some ⟨false, [.ints k len L]⟩]) ∧
      ((d = .nil ∧ len = 0) ∨ ∃ s, d = .slice (lits k L) s) := by
  obtain ⟨a0, len, cap, rfl⟩ := okWide_slice ht hval
  obtain ⟨fuel, hf⟩ := h
  rcases open_ints ht he hc hf with ⟨hcs, hx⟩ | ⟨a, len', cap', zs, hcs, _, hl, hm, hz, hx, hcell, hwz⟩
  · simp [Value.cells] at hcs
    obtain ⟨rfl, rfl, rfl⟩ := hcs
    simp only [Prod.mk.injEq] at hx
    exact ⟨0, 0, [], rfl, Nat.le_refl _, by simp, fun i => Opened.sl rfl (Nat.le_refl _) (fun h => absurd h (by omega)), .inl ⟨hx.1, rfl⟩⟩
  · simp [Value.cells] at hcs
    obtain ⟨rfl, rfl, rfl⟩ := hcs
    simp only [Prod.mk.injEq] at hx
    simp only [if_true] at hz
    refine ⟨len, cap, zs.take len, by simp; omega, hl, fun n hn => hwz n (List.mem_of_mem_take hn), fun i => Opened.sl (by simp; omega) hl fun hpos => ?_, .inr ⟨_, hx.1⟩⟩
    obtain ⟨b, off, rfl, hcell2⟩ := ints_at hcell (by omega)
    have h00 := hcell2 0 (by omega)
    unfold World.cell? at h00
    split at h00
    · rename_i arr ty fr hh
      have hget : ∀ j, j < zs.length → arr[off + j]? = some (.int k (zs.getD j 0)) := by
        intro j hj
        have h1 := hcell2 j hj
        unfold World.cell? at h1
        rw [hh] at h1
        simpa using h1
      refine ⟨b, off, arr, ty, fr, rfl, hh, ?_, ?_⟩
      · have := (Array.getElem?_eq_some_iff.1 (hget (zs.length - 1) (by omega))).1
        omega
      · intro i x hix
        rw [List.getElem?_take] at hix
        split at hix
        · have hlt := (List.getElem?_eq_some_iff.1 hix).1
          rw [hget i hlt, List.getD_eq_getElem?_getD, hix]; rfl
        · cases hix
    · cases h00

end args

/-- a law whose body answers true -/
theorem calls_true {P : Program} {T : Tab} (hT : TabOk P T) {f : FuncId} {fn : Func} (hf : P.funcs[f]? = some fn) {W : World} {vs : List Value} {avs : List AV} {K : Know} (ho : Opened W 0 vs avs K)
    (h : ∀ β : Env, Body P T fn ⟨W, [], K.length, β⟩ avs K fun ys _ => ys = [.a (.b true)]) :
    Calls P f vs.toArray W fun e W' => e = .returned (.bool true) ∧ Grow W W' := by
  obtain ⟨β, hrel, hall⟩ := ho.rel
  refine Calls.mono (calls_of_body hT hf hall hrel (h β)) fun e W' h => ?_
  obtain ⟨xs, K, v, β', hx, rfl, hv, hr, _⟩ := h
  subst hx
  have hv : [v] = [Value.bool true] := hv
  simp only [List.cons.injEq, and_true] at hv
  subst hv
  exact ⟨rfl, hr.toGrow⟩
end Go.Proofs.Ytepimglipelpmaa.R

/- Arguments that are structs: opened cell by cell. -/
namespace Go.Proofs.Ytepimglipelpmaa.R
open Go Go.Proofs Go.ChangeShapes Go.WideShapes Go.ChangeAt Go.RowKit Go.Proofs.Ytepimglipelpmaa.X
set_option linter.unusedVariables false

/-- a row of cells, abstractly, with blocks from the i-th on -/
def OpenC (W : World) (i : Nat) (cs : List Value) (l : List Atom) (K : Know) : Prop :=
  ∃ ρ : List (Option Ref), ρ.length = K.length ∧ ∀ β : Env, (∀ j, j < ρ.length → β (i + j) = (ρ[j]?).join) →
    (∀ j b, K.at j = some b → b.own = false ∧ b.holds β W (i + j) ∧ ∀ r, β (i + j) = some r → r.blk < W.heap.size) ∧ cons β l cs

theorem OpenC.nil {W : World} {i : Nat} : OpenC W i [] [] [] := ⟨[], rfl, fun β _ => ⟨fun j b h => by simp [Know.at] at h, rfl⟩⟩

theorem cons_app {β : Env} : ∀ {a b : List Atom} {x y : List Value}, cons β a x → cons β b y → cons β (a ++ b) (x ++ y)
  | [], _, _, _, h, h' => by cases h; exact h'
  | _ :: _, _, _, _, ⟨v, r, hv, hc, hr⟩, h' => by subst hv; exact ⟨v, _, by rw [List.append_assoc], hc, cons_app hr h'⟩

theorem OpenC.app {W : World} {i : Nat} {vs vs' : List Value} {l l' : List Atom} {K K' : Know} (h : OpenC W i vs l K) (h' : OpenC W (i + K.length) vs' l' K') : OpenC W i (vs ++ vs') (l ++ l') (K ++ K') := by
  obtain ⟨ρ, hl, hρ⟩ := h
  obtain ⟨ρ', hl', hρ'⟩ := h'
  refine ⟨ρ ++ ρ', by simp [hl, hl'], fun β hβ => ?_⟩
  obtain ⟨h1, h2⟩ := hρ β fun j hj => by rw [hβ j (by simp; omega), List.getElem?_append_left hj]
  obtain ⟨h3, h4⟩ := hρ' β fun j hj => by
    rw [Nat.add_assoc, hβ (K.length + j) (by simp; omega), List.getElem?_append_right (by omega)]
    congr 2; omega
  refine ⟨fun j b hb => ?_, cons_app h2 h4⟩
  by_cases hj : j < K.length
  · refine h1 j b ?_
    unfold Know.at at hb ⊢; rwa [List.getElem?_append_left hj] at hb
  · have := h3 (j - K.length) b (by unfold Know.at at hb ⊢; rwa [List.getElem?_append_right (by omega)] at hb)
    rw [show i + K.length + (j - K.length) = i + j from by omega] at this
    exact this

theorem OpenC.agg {W : World} {i : Nat} {cs : Array Value} {l : List Atom} {K : Know} (h : OpenC W i cs.toList l K) : Opened W i [.agg cs] [.o (.g l)] K := by
  obtain ⟨ρ, hl, hρ⟩ := h
  refine ⟨ρ, hl, fun β hβ => ?_⟩
  obtain ⟨h1, h2⟩ := hρ β hβ
  exact ⟨h1, _, [], rfl, ⟨cs.toList, by simp, h2⟩, rfl⟩

theorem OpenC.one {W : World} {i : Nat} {v : Value} {x : Atom} {K : Know} (h : OpenC W i [v] [x] K) : Opened W i [v] [.o (.a x)] K := by
  obtain ⟨ρ, hl, hρ⟩ := h
  refine ⟨ρ, hl, fun β hβ => ?_⟩
  obtain ⟨h1, x, y, h2, h3, h4⟩ := hρ β hβ
  cases h4
  rw [List.append_nil] at h2
  subst h2
  exact ⟨h1, _, [], rfl, h3, rfl⟩

/-- cells without places -/
theorem OpenC.val {W : World} {i : Nat} {vs : List Value} {l : List Atom} (h : ∀ β : Env, cons β l vs) : OpenC W i vs l [] :=
  ⟨[], rfl, fun β _ => ⟨fun j b hb => by simp [Know.at] at hb, h β⟩⟩

section args
variable {H : Type} {enc : TypeId × Value → H} {P : Program} {W : World} {base : Nat} {sp : Nat → Bool}

theorem OpenC.ints {i : Nat} {k : IntKind} {n : Nat} {S : List Int} (h : S.length = n) : OpenC W i (S.map (Value.int k)) [.ints k n S] [] :=
  OpenC.val fun β => ⟨_, [], by simp, ⟨h, rfl⟩, rfl⟩

theorem OpenC.int {i : Nat} {k : IntKind} {n : Int} : OpenC W i [.int k n] [.i k n] [] := OpenC.val fun β => ⟨_, [], by simp, rfl, rfl⟩

end args
end Go.Proofs.Ytepimglipelpmaa.R

/- A row that grows while its older view is read on: its room laid open; laid still. -/
namespace Go.Proofs.Ytepimglipelpmaa.X
open Go
set_option linter.unusedVariables false

/-- a row's room: so many more cells, whatever lies there -/
theorem Rel.opened {B : Bs} {β : Env} {slots : List AV} {K : Know} {a : Act} {w : World} (h : Rel B β ⟨slots, K⟩ a w) {t j c len z : Nat} (hs : slots.getD t .u = .o (.a (.rs j c len z))) {cells : List Atom} (hj : K.at j = some ⟨true, cells⟩)
    (hz : sizes cells = c + len * z) :
    ∃ cap J, len ≤ cap ∧ J.length = (cap - len) * z ∧ Rel B β ⟨slots.set t (.o (.a (.sl j c len cap))), K.set1 j (some ⟨true, cells ++ [.vals ((cap - len) * z) J]⟩)⟩ a w := by
  have hx := h.slot t
  simp only at hx
  rw [hs] at hx
  obtain ⟨base, cap, hv, hlc, hbase⟩ := hx
  simp only [List.cons.injEq, and_true] at hv
  obtain ⟨cs, hc, hd⟩ := h.relw.holds j _ hj
  change cons β cells cs at hc
  have hlen := cons_len hc
  rw [hz] at hlen
  have key : ∃ J : List Value, J.length = (cap - len) * z ∧ Blk.holds β w j ⟨true, cells ++ [.vals ((cap - len) * z) J]⟩ := by
    by_cases h0 : cap = 0
    · refine ⟨[], by subst h0; simp, cs, ?_, hd⟩
      have := cons_append (m := [.vals ((cap - len) * z) []]) (ds := []) hc ⟨[], [], rfl, ⟨by subst h0; simp, rfl, fun _ h => by cases h⟩, rfl⟩
      simpa using this
    · obtain ⟨r, hr, _, hroom⟩ := hbase (by omega)
      rcases hd with ⟨_, h2⟩ | ⟨r', arr, ty, fr, hr', hh, hsz, hl, ha, hf⟩
      · rcases h2 with h2 | h2
        · cases h2
        · rw [hr] at h2; cases h2
      · rw [hr] at hr'; cases hr'
        have hm : len * z + (cap - len) * z = cap * z := by rw [← Nat.add_mul]; congr 1; omega
        have hJl : ((arr.toList.drop (r.off + (c + len * z))).take ((cap - len) * z)).length = (cap - len) * z := by
          simp only [List.length_take, List.length_drop, Array.length_toList]; omega
        refine ⟨_, hJl, cs ++ _, cons_append hc (cons_single.2 ⟨hJl, rfl, fun v hv => (hf rfl).2 v (List.mem_of_mem_drop (List.mem_of_mem_take hv))⟩), .inr ⟨r, arr, ty, fr, hr, hh, hsz, ?_, ?_, hf⟩⟩
        · rw [List.length_append, hJl]; omega
        · intro i v hv
          by_cases hi : i < cs.length
          · rw [List.getElem?_append_left hi] at hv; exact ha i v hv
          · rw [List.getElem?_append_right (by omega), List.getElem?_take] at hv
            split at hv
            · rw [List.getElem?_drop, hlen] at hv
              rw [← hv, Array.getElem?_toList]
              congr 1; omega
            · cases hv
  obtain ⟨J, hJ, hhold⟩ := key
  refine ⟨cap, J, hlc, hJ, ?_⟩
  have h1 : Rel B β ⟨slots, K.set1 j (some ⟨true, cells ++ [.vals ((cap - len) * z) J]⟩)⟩ a w := ⟨h.relw.rehold hj (fun _ => rfl) hhold, h.defers, h.size, h.slot, h.fix, Nat.le_trans h.len (set1_length _ _ _)⟩
  exact h1.setSlot (t := t) (x := .o (.a (.sl j c len cap))) ⟨base, by rw [hv], hlc, fun hp => by obtain ⟨r, h1, h2, _⟩ := hbase hp; exact ⟨r, h1, h2⟩⟩

theorem Rel.opened1 {B : Bs} {β : Env} {slots : List AV} {K : Know} {a : Act} {w : World} (h : Rel B β ⟨slots, K⟩ a w) {t j c len : Nat} (hs : slots.getD t .u = .o (.a (.rs j c len 1))) {cells : List Atom} (hj : K.at j = some ⟨true, cells⟩)
    (hz : sizes cells = c + len) :
    ∃ cap J, len ≤ cap ∧ J.length = cap - len ∧ Rel B β ⟨slots.set t (.o (.a (.sl j c len cap))), K.set1 j (some ⟨true, cells ++ [.vals (cap - len) J]⟩)⟩ a w := by
  obtain ⟨cap, J, h1, h2, h3⟩ := h.opened hs hj (by rw [Nat.mul_one]; exact hz)
  rw [Nat.mul_one] at h2 h3
  exact ⟨cap, J, h1, h2, h3⟩

/-- cells of which the first ones are told -/
def Pre (β : Env) (cells c1 : List Atom) : Prop := ∀ cs, cons β cells cs → ∃ x y, cs = x ++ y ∧ cons β c1 x
theorem Pre.ints {β : Env} {k : IntKind} {n m : Nat} {L : List Int} (h : m ≤ n) (r : List Atom) : Pre β (.ints k n L :: r) [.ints k m (L.take m)] := by
  rintro cs ⟨x, y, rfl, ⟨hl, rfl⟩, _⟩
  refine ⟨(L.take m).map (Value.int k), (L.drop m).map (Value.int k) ++ y, ?_, cons_single.2 ⟨by simp; omega, rfl⟩⟩
  rw [← List.append_assoc, ← List.map_append, List.take_append_drop]
theorem Pre.all {β : Env} {k : IntKind} {n : Nat} {L : List Int} (r : List Atom) : Pre β (.ints k n L :: r) [.ints k n L] := by
  rintro cs ⟨x, y, rfl, h, _⟩
  exact ⟨x, y, rfl, cons_single.2 h⟩
theorem Pre.pref {β : Env} {k : IntKind} {n m : Nat} {L L' : List Int} (h : ∃ t, L' = L ++ t) (hl : L.length = m) (r : List Atom) : Pre β (.ints k n L' :: r) [.ints k m L] := by
  obtain ⟨t, rfl⟩ := h
  rintro cs ⟨x, y, rfl, ⟨_, rfl⟩, _⟩
  exact ⟨L.map (Value.int k), t.map (Value.int k) ++ y, by simp, cons_single.2 ⟨hl, rfl⟩⟩
theorem Rel.cast {B : Bs} {β : Env} {s s' : St} {a : Act} {w : World} (h : Rel B β s a w) (e : s = s') : Rel B β s' a w := e ▸ h
theorem Pre.holds {β : Env} {w : World} {j : Nat} {own : Bool} {cells c1 : List Atom} (hp : Pre β cells c1) (h : Blk.holds β w j ⟨own, cells⟩) : Blk.holds β w j ⟨false, c1⟩ := by
  obtain ⟨cs, hc, hd⟩ := h
  obtain ⟨x, y, rfl, hx⟩ := hp cs hc
  refine ⟨x, hx, ?_⟩
  rcases hd with ⟨h1, _⟩ | ⟨r, arr, ty, fr, hr, hh, hsz, hl, ha, _⟩
  · exact .inl ⟨(List.append_eq_nil_iff.1 h1).1, .inl rfl⟩
  · refine .inr ⟨r, arr, ty, fr, hr, hh, hsz, ?_, ?_, fun h => by cases h⟩
    · rw [List.length_append] at hl; omega
    · intro i v hv
      exact ha i v (by rw [List.getElem?_append_left (List.getElem?_eq_some_iff.1 hv).1]; exact hv)

/-- a block is read only from now on -/
theorem Rel.stilled {B : Bs} {β : Env} {slots : List AV} {K : Know} {a : Act} {w : World} (h : Rel B β ⟨slots, K⟩ a w) {j : Nat} {b : Blk} (hj : K.at j = some b) {c1 : List Atom} (hp : Pre β b.cells c1) :
    Rel B β ⟨slots, K.set1 j (some ⟨false, c1⟩)⟩ a w :=
  ⟨h.relw.rehold hj (fun h => by cases h) (hp.holds (own := b.own) (h.relw.holds j b hj)), h.defers, h.size, h.slot, h.fix, Nat.le_trans h.len (set1_length _ _ _)⟩

/-- a slice gets a block of its own to read from, which may be the same memory -/
theorem Rel.twin {B : Bs} {β : Env} {slots : List AV} {K : Know} {a : Act} {w : World} (h : Rel B β ⟨slots, K⟩ a w) (hn : K.nom K.length (K.length + 1) = true) (hsn : slots.all (AV.nom K.length (K.length + 1)) = true)
    {t j c len cap z : Nat} (hs : slots.getD t .u = .o (.a (.sl j c len cap))) {cells : List Atom} (hj : K.at j = some ⟨true, cells⟩) (hz : c + cap * z ≤ sizes cells) {c1 c2 : List Atom} (hp1 : Pre β cells c1) (hp2 : Pre β cells c2) (hn1 : nomL K.length (K.length + 1) c1 = true) (hn2 : nomL K.length (K.length + 1) c2 = true) :
    Rel B (β.upd K.length (β j)) ⟨slots.set t (.o (.a (.rs K.length c len z))), K.set1 j (some ⟨false, c1⟩) ++ [some ⟨false, c2⟩]⟩ a w := by
  have hjl : j < K.length := by
    unfold Know.at at hj
    rcases Nat.lt_or_ge j K.length with h | h
    · exact h
    · rw [List.getElem?_eq_none h] at hj; cases hj
  have hset : (K.set1 j (some ⟨false, c1⟩)).length = K.length := by unfold Know.set1; rw [if_pos hjl, List.length_set]
  have hag := Env.agree_upd β K.length (β j)
  have hself : (β.upd K.length (β j)) K.length = β j := by unfold Env.upd; rw [if_pos rfl]
  have hoth : ∀ t, t < K.length → (β.upd K.length (β j)) t = β t := fun t ht => by unfold Env.upd; rw [if_neg (by omega)]
  have hold := h.relw.holds j _ hj
  have h1 := h.stilled hj hp1
  have hK1 : (K.set1 j (some ⟨false, c1⟩)).nom K.length (K.length + 1) = true := Know.set1_nom hn j _ hn1
  have hat : ∀ x b, Know.at (K.set1 j (some ⟨false, c1⟩) ++ [some ⟨false, c2⟩]) x = some b → (x < K.length ∧ (K.set1 j (some ⟨false, c1⟩)).at x = some b) ∨ (x = K.length ∧ b = ⟨false, c2⟩) := by
    intro x b hb
    rcases at_append1 hb with ⟨h1, h2⟩ | ⟨h1, h2⟩
    · exact .inl ⟨by omega, h2⟩
    · exact .inr ⟨by omega, (Option.some.inj h2).symm⟩
  have hlive : ∀ r, β j = some r → r.blk < w.heap.size := fun r hr => h.relw.live j _ r hj hr
  have hR : Rel B (β.upd K.length (β j)) ⟨slots, K.set1 j (some ⟨false, c1⟩) ++ [some ⟨false, c2⟩]⟩ a w := by
    refine ⟨⟨?_, ?_, ?_, ?_, h.relw.old, h.relw.size, h.relw.os, h.relw.tape, h.relw.output⟩, h.defers, h.size, ?_, ?_, ?_⟩
    · intro x b hb
      rcases hat x b hb with ⟨hx, hb⟩ | ⟨rfl, rfl⟩
      · obtain ⟨cs, k1, k2⟩ := h1.relw.holds x b hb
        refine ⟨cs, cons_agree hag (Know.nom_at hK1 hb) k1, ?_⟩
        rw [hoth x hx]; exact k2
      · obtain ⟨cs, k1, k2⟩ := hp2.holds (own := true) hold
        refine ⟨cs, cons_agree hag hn2 k1, ?_⟩
        rcases k2 with ⟨k2, _⟩ | ⟨r, arr, ty, fr, hr, rest⟩
        · exact .inl ⟨k2, .inl rfl⟩
        · exact .inr ⟨r, arr, ty, fr, by rw [hself]; exact hr, rest⟩
    · intro x y b d r s hx hy ho hne e1 e2
      rcases hat x b hx with ⟨hx', hb⟩ | ⟨rfl, rfl⟩
      · rw [hoth _ hx'] at e1
        rcases hat y d hy with ⟨hy', hd⟩ | ⟨rfl, rfl⟩
        · rw [hoth _ hy'] at e2
          exact h1.relw.apart x y b d r s hb hd ho hne e1 e2
        · rw [hself] at e2
          have hxj : x ≠ j := fun e => by subst e; rw [Know.at_set1, if_pos rfl] at hb; cases hb; cases ho
          refine h1.relw.apart x j b ⟨false, c1⟩ r s hb ?_ ho hxj e1 e2
          rw [Know.at_set1, if_pos rfl]
      · cases ho
    · intro x b r hx ho e1
      rcases hat x b hx with ⟨hx', hb⟩ | ⟨rfl, rfl⟩
      · rw [hoth _ hx'] at e1; exact h1.relw.mine x b r hb ho e1
      · cases ho
    · intro x b r hx e1
      rcases hat x b hx with ⟨hx', hb⟩ | ⟨rfl, rfl⟩
      · rw [hoth _ hx'] at e1; exact h1.relw.live x b r hb e1
      · rw [hself] at e1; exact hlive r e1
    · intro s
      exact AV.con_agree hag (slots_nom (st := ⟨slots, K⟩) hsn s) (h.slot s)
    · intro s hs
      rw [hoth s (Nat.lt_of_lt_of_le hs h.len)]; exact h.fix s hs
    · have := h.len; simp only [List.length_append, hset] at *; simp; omega
  refine hR.setSlot (t := t) (x := .o (.a (.rs K.length c len z))) ?_
  have hx := h.slot t
  simp only at hx
  rw [hs] at hx
  obtain ⟨base, hv, hlc, hbase⟩ := hx
  refine ⟨base, cap, hv, hlc, fun hp => ?_⟩
  obtain ⟨r, hr, hb⟩ := hbase hp
  refine ⟨r, by rw [hself]; exact hr, hb, ?_⟩
  obtain ⟨cs, hc, hd⟩ := hold
  change cons β cells cs at hc
  have hlen := cons_len hc
  rcases hd with ⟨_, h2⟩ | ⟨r', arr, ty, fr, hr', hh, hsz, hl, ha, hf⟩
  · rcases h2 with h2 | h2
    · cases h2
    · rw [hr] at h2; cases h2
  · rw [hr] at hr'; cases hr'
    omega
end Go.Proofs.Ytepimglipelpmaa.X

/- Rows of marks; drawn again and again. -/
namespace Go.Proofs.Ytepimglipelpmaa.X
open Go Go.Proofs
set_option linter.unusedVariables false
set_option maxRecDepth 100000

def rwB (i : Int) : Nat → List Int
  | 0 => []
  | n + 1 => rwB i n ++ [mkBy i ((n : Nat) : Int)]
theorem rwB_len (i : Int) : ∀ n, (rwB i n).length = n
  | 0 => rfl
  | n + 1 => by show (rwB i n ++ _).length = _; rw [List.length_append, rwB_len i n]; rfl
theorem rwB_get {i : Int} {k : Nat} : ∀ {n : Nat}, k < n → List.getD (rwB i n) k 0 = mkBy i ((k : Nat) : Int)
  | 0, h => absurd h (Nat.not_lt_zero k)
  | n + 1, h => by
    show List.getD (rwB i n ++ [mkBy i ((n : Nat) : Int)]) k 0 = _
    rw [List.getD_eq_getElem?_getD]
    by_cases hk : k < n
    · rw [List.getElem?_append_left (by rw [rwB_len]; exact hk), ← List.getD_eq_getElem?_getD]; exact rwB_get hk
    · have : k = n := by omega
      subst this
      rw [List.getElem?_append_right (by rw [rwB_len]; omega), rwB_len, Nat.sub_self]; rfl
theorem rwB_pref (i : Int) (n : Nat) : ∀ k : Nat, ∃ t, rwB i (n + k) = rwB i n ++ t
  | 0 => ⟨[], (List.append_nil _).symm⟩
  | k + 1 => by
    obtain ⟨t, h⟩ := rwB_pref i n k
    refine ⟨t ++ [mkBy i ((n + k : Nat) : Int)], ?_⟩
    show rwB i (n + k) ++ [mkBy i ((n + k : Nat) : Int)] = _
    rw [h, List.append_assoc]
theorem rwB_grow (i : Int) (n : Nat) : sub (rwB i n) 0 n ++ [mkBy i ((n : Nat) : Int)] = rwB i (n + 1) := by
  rw [sub_all _ _ (Nat.le_of_eq (rwB_len i n))]; rfl
theorem rwB_more (i : Int) (n : Nat) : rwB i n ++ [mkBy i ((n : Nat) : Int)] = rwB i (n + 1) := rfl
/-- a row of which the first k are marked -/
def mkP (L : List Int) (i : Int) (k : Nat) : List Int := rwB i k ++ L.drop k
theorem mkP_step {L : List Int} {i : Int} {n k : Nat} (l : L.length = n) (h : k < n) : List.set (mkP L i k) k (mkBy i ((k : Nat) : Int)) = mkP L i (k + 1) := by
  have a := rwB_len i k
  have e : L.drop k = L[k] :: L.drop (k + 1) := List.drop_eq_getElem_cons (by omega)
  show List.set (rwB i k ++ L.drop k) k _ = (rwB i k ++ [mkBy i ((k : Nat) : Int)]) ++ L.drop (k + 1)
  rw [e, List.set_append_right _ _ (by omega), a, Nat.sub_self, List.set_cons_zero, List.append_assoc]
  rfl
theorem mkP_all {L : List Int} {i : Int} {n : Nat} (l : L.length = n) : mkP L i n = rwB i n := by
  unfold mkP
  rw [List.drop_of_length_le (by omega), List.append_nil]
end Go.Proofs.Ytepimglipelpmaa.X

/- A walk begun anew where it stands; families of slices that the walk itself made. -/
namespace Go.Proofs.Ytepimglipelpmaa.X
open Go Go.Proofs
set_option linter.unusedVariables false

/-- the blocks that are known as own -/
def ownBlks (β : Env) (K : Know) : List Nat := (List.range K.length).filterMap fun j => match K.at j with
  | some b => if b.own = true then (β j).map Ref.blk else none
  | none => none
theorem mem_ownBlks {β : Env} {K : Know} {x : Nat} : x ∈ ownBlks β K ↔ ∃ j b r, K.at j = some b ∧ b.own = true ∧ β j = some r ∧ r.blk = x := by
  unfold ownBlks
  rw [List.mem_filterMap]
  constructor
  · rintro ⟨j, _, h⟩
    split at h
    · rename_i b hb
      split at h
      · rename_i ho
        rw [Option.map_eq_some_iff] at h
        obtain ⟨r, hr, hx⟩ := h
        exact ⟨j, b, r, hb, ho, hr, hx⟩
      · cases h
    · cases h
  · rintro ⟨j, b, r, hb, ho, hr, hx⟩
    have hj : j < K.length := by
      rcases Nat.lt_or_ge j K.length with h | h
      · exact h
      · unfold Know.at at hb; rw [List.getElem?_eq_none h] at hb; cases hb
    refine ⟨j, List.mem_range.2 hj, ?_⟩
    rw [hb]
    simp only
    rw [if_pos ho, hr]
    exact congrArg some hx

section anew
variable {P : Program} {B : Bs} {β β' : Env} {st st' : St} {a a' : Act} {w w' : World}

theorem Rel.anew (h : Rel B β st a w) : Rel ⟨w, ownBlks β st.K, B.k, β⟩ β st a w :=
  ⟨⟨h.relw.holds, h.relw.apart, fun j b r hj ho hr => .inr (mem_ownBlks.2 ⟨j, b, r, hj, ho, hr, rfl⟩), h.relw.live, fun _ _ _ => rfl, Nat.le_refl _, rfl, rfl, rfl⟩, h.defers, h.size, h.slot, fun _ _ => rfl, h.len⟩

theorem Rel.back (h : Rel B β st a w) (h' : Rel ⟨w, ownBlks β st.K, B.k, β⟩ β' st' a' w') : Rel B β' st' a' w' := by
  have hown : ∀ x, x ∈ ownBlks β st.K → B.w0.heap.size ≤ x ∨ x ∈ B.rw := by
    intro x hx
    obtain ⟨j, b, r, hj, ho, hr, rfl⟩ := mem_ownBlks.1 hx
    exact h.relw.mine j b r hj ho hr
  refine ⟨⟨h'.relw.holds, h'.relw.apart, ?_, h'.relw.live, ?_, Nat.le_trans h.relw.size h'.relw.size, h'.relw.os.trans h.relw.os, h'.relw.tape.trans h.relw.tape, h'.relw.output.trans h.relw.output⟩, h'.defers, h'.size, h'.slot, fun j hj => (h'.fix j hj).trans (h.fix j hj), h'.len⟩
  · intro j b r hj ho hr
    rcases h'.relw.mine j b r hj ho hr with h1 | h1
    · exact .inl (Nat.le_trans h.relw.size h1)
    · exact hown _ h1
  · intro b hb hn
    have h1 : b ∉ ownBlks β st.K := fun hx => by
      rcases hown b hx with h2 | h2
      · omega
      · exact hn h2
    exact (h'.relw.old b (Nat.lt_of_lt_of_le hb h.relw.size) h1).trans (h.relw.old b hb hn)

theorem Run.anew {c : Code} {post : Ex → St → Prop} (h : ∀ β a w, Rel B β st a w → Run P ⟨w, ownBlks β st.K, B.k, β⟩ c st post) : Run P B c st post :=
  fun β a w hR Q hq => h β a w hR β a w hR.anew Q fun e st' β' a' w' hp hR' => hq e st' β' a' w' hp (hR.back hR')
end anew

/-- a loop that makes a family: what it has made so far lies in the world, told by Inv -/
theorem Run.fam {P : Program} {σ : Type} {c rest : Code} {id : Nat} {post : Ex → St → Prop} (mk : Nat → σ → St) (Inv : World → List Nat → Nat → σ → Prop) (n kk : Nat)
    (hround : ∀ w rw β0 k s, k < n → Inv w rw k s → ∃ md, Run P ⟨w, rw, kk, β0⟩ c (mk k s) (To ⟨w, rw, kk, β0⟩ .normal md) ∧
      ∀ β a' w', Rel ⟨w, rw, kk, β0⟩ β md a' w' → ∃ β' s', Rel ⟨w, rw, kk, β0⟩ β' (mk (k + 1) s') a' w' ∧ Inv w' (ownBlks β' (mk (k + 1) s').K) (k + 1) s')
    (hlast : ∀ w rw β0 s, Inv w rw n s → Run P ⟨w, rw, kk, β0⟩ c (mk n s) (To ⟨w, rw, kk, β0⟩ (.exit id) (mk n s)))
    (hrest : ∀ w rw β0 s, Inv w rw n s → Run P ⟨w, rw, kk, β0⟩ rest (mk n s) post)
    {w0 : World} {rw0 : List Nat} {β0 : Env} {s0 : σ} (h0 : Inv w0 rw0 0 s0) : Run P ⟨w0, rw0, kk, β0⟩ (.seq (.block id (.loop c)) rest) (mk 0 s0) post := by
  have key : ∀ Q1 : Exit → Act → World → Prop, (∀ w1 rw1 β1 s β a w, Inv w1 rw1 n s → Rel ⟨w1, rw1, kk, β1⟩ β (mk n s) a w →
        (∀ β' st' a' w', Rel ⟨w1, rw1, kk, β1⟩ β' st' a' w' → Rel ⟨w0, rw0, kk, β0⟩ β' st' a' w') → Q1 (.exit id) a w) → ∀ m k, k + m = n → ∀ w1 rw1 β1 s β a w, Inv w1 rw1 k s → Rel ⟨w1, rw1, kk, β1⟩ β (mk k s) a w →
      (∀ β' st' a' w', Rel ⟨w1, rw1, kk, β1⟩ β' st' a' w' → Rel ⟨w0, rw0, kk, β0⟩ β' st' a' w') → Code.rounds P c Q1 (m + 1) a w := by
    intro Q1 hQ1 m
    induction m with
    | zero =>
      intro k hk w1 rw1 β1 s β a w hi hR hback
      have : k = n := by omega
      subst this
      rw [rounds_succ]
      refine hlast w1 rw1 β1 s hi β a w hR _ fun e st' β' a' w' hp hR' => ?_
      obtain ⟨rfl, hw⟩ := hp
      obtain ⟨β2, hR2⟩ := hw β' a' w' hR'
      exact hQ1 w1 rw1 β1 s β2 a' w' hi hR2 hback
    | succ m ih =>
      intro k hk w1 rw1 β1 s β a w hi hR hback
      rw [rounds_succ]
      obtain ⟨md, hrun, hconv⟩ := hround w1 rw1 β1 k s (by omega) hi
      refine hrun β a w hR _ fun e st' β' a' w' hp hR' => ?_
      obtain ⟨rfl, hw⟩ := hp
      obtain ⟨β2, hR2⟩ := hw β' a' w' hR'
      obtain ⟨β3, s', hR3, hi'⟩ := hconv β2 a' w' hR2
      exact ih (k + 1) (by omega) w' (ownBlks β3 (mk (k + 1) s').K) β3 s' β3 a' w' hi' hR3.anew fun β' st' a'' w'' h => hback _ _ _ _ (hR3.back h)
  intro β a w hR Q hq
  refine wp_seq (wp_block (wp_loop_rounds (n + 1) (key _ ?_ n 0 (by omega) w0 rw0 β0 s0 β a w h0 hR fun _ _ _ _ h => h)))
  intro w1 rw1 β1 s β2 a' w' hi hR2 hback
  show (if id = id then _ else _)
  rw [if_pos rfl]
  exact hrest w1 rw1 β1 s hi β2 a' w' hR2 Q fun e st' β' a' w' hp hR' => hq e st' β' a' w' hp (hback _ _ _ _ hR')

/-- slices that lie in a world, outside of the own blocks -/
structure FamR (w : World) (rw : List Nat) (L : List Value) (C : List (List Int)) : Prop where
  len : L.length = C.length
  imp : ∀ i, i < C.length → ∀ (k : Nat) (β : Env), ImpOk ⟨w, rw, k, β⟩ (L.getD i undef) .u8 (lenV (L.getD i undef)) (capV (L.getD i undef)) (contV w (L.getD i undef))
  cont : ∀ i, i < C.length → contV w (L.getD i undef) = C.getD i []

theorem FamR.nil {w : World} {rw : List Nat} : FamR w rw [] [] := ⟨rfl, fun i hi => absurd hi (Nat.not_lt_zero i), fun i hi => absurd hi (Nat.not_lt_zero i)⟩

/-- the own blocks below kb, as they are known later -/
def Less (K K' : Know) (kb : Nat) : Prop := ∀ j b, K'.at j = some b → b.own = true → j < kb ∧ ∃ c, K.at j = some c ∧ c.own = true

section fam
variable {w0 w : World} {rw : List Nat} {β : Env} {K K' : Know} {kb : Nat}

theorem Less.old (hR : RelW w0 rw β K w) (hL : Less K K' kb) {b : Nat} (h1 : b < w0.heap.size) (h2 : b ∉ rw) : b ∉ ownBlks β K' := fun hx => by
  obtain ⟨x, b', s, hx1, ho, hs, he⟩ := mem_ownBlks.1 hx
  obtain ⟨hlt, c, hc, hco⟩ := hL x b' hx1 ho
  rcases hR.mine x c s hc hco hs with h | h
  · omega
  · rw [he] at h; exact h2 h

theorem FamR.move (hR : RelW w0 rw β K w) (hL : Less K K' kb) {L : List Value} {C : List (List Int)} (h : FamR w0 rw L C) : FamR w (ownBlks β K') L C := by
  have hc : ∀ i, i < C.length → contV w (L.getD i undef) = contV w0 (L.getD i undef) := fun i hi => contV_move hR.old (h.imp i hi 0 noEnv)
  refine ⟨h.len, fun i hi k β1 => ?_, fun i hi => (hc i hi).trans (h.cont i hi)⟩
  rw [hc i hi]
  obtain ⟨base, hv, hlc, hl, hb⟩ := h.imp i hi 0 noEnv
  refine ⟨base, hv, hlc, hl, fun h0 => ?_⟩
  obtain ⟨b, off, g1, g2, g3, g4⟩ := hb h0
  have g2 : b < w0.heap.size := g2
  refine ⟨b, off, g1, Nat.lt_of_lt_of_le g2 hR.size, hL.old hR g2 g3, fun hl0 => ?_⟩
  obtain ⟨arr, ty, fr, k1, k2⟩ := g4 hl0
  exact ⟨arr, ty, fr, (hR.old b g2 g3).trans k1, k2⟩

theorem FamR.app {rw' : List Nat} {L M : List Value} {C D : List (List Int)} (h : FamR w rw' L C) (h' : FamR w rw' M D) : FamR w rw' (L ++ M) (C ++ D) := by
  have hl := h.len
  refine ⟨by rw [List.length_append, List.length_append, h.len, h'.len], fun i hi k β => ?_, fun i hi => ?_⟩
  · by_cases h1 : i < C.length
    · rw [getD_left (by omega)]; exact h.imp i h1 k β
    · obtain ⟨t, rfl⟩ : ∃ t, i = L.length + t := ⟨i - L.length, by omega⟩
      rw [getD_right]
      rw [List.length_append] at hi
      exact h'.imp t (by omega) k β
  · rw [List.length_append] at hi
    by_cases h1 : i < C.length
    · rw [getD_left (by omega), h.cont i h1, List.getD_eq_getElem?_getD, List.getD_eq_getElem?_getD, List.getElem?_append_left h1]
    · obtain ⟨t, rfl⟩ : ∃ t, i = L.length + t := ⟨i - L.length, by omega⟩
      rw [getD_right, h'.cont t (by omega), List.getD_eq_getElem?_getD, List.getD_eq_getElem?_getD, List.getElem?_append_right (by omega)]
      congr 2; omega

theorem FamR.parts {rw' : List Nat} {L : List Value} {C : List (List Int)} (h : FamR w rw' L C) : ∀ n, n ≤ C.length → catV w L n = (C.take n).flatten
  | 0, _ => rfl
  | n + 1, hn => by
    show catV w L n ++ contV w (L.getD n undef) = _
    rw [FamR.parts h n (by omega), h.cont n (by omega), List.take_add_one, List.getElem?_eq_getElem (by omega), List.flatten_append, List.getD_eq_getElem?_getD, List.getElem?_eq_getElem (by omega)]
    simp
end fam

def lessB (K K' : Know) (kb : Nat) : Bool := (List.range K'.length).all fun j => match K'.at j with
  | some b => !b.own || (decide (j < kb) && (match K.at j with | some c => c.own | none => false))
  | none => true
theorem Less.of {K K' : Know} {kb : Nat} (h : lessB K K' kb = true) : Less K K' kb := by
  intro j b hj ho
  have hlt : j < K'.length := by
    rcases Nat.lt_or_ge j K'.length with h | h
    · exact h
    · unfold Know.at at hj; rw [List.getElem?_eq_none h] at hj; cases hj
  have h1 := List.all_eq_true.1 h j (List.mem_range.2 hlt)
  rw [hj] at h1
  simp only [ho, Bool.not_true, Bool.false_or, Bool.and_eq_true, decide_eq_true_eq] at h1
  refine ⟨h1.1, ?_⟩
  have h2 := h1.2
  split at h2
  · rename_i c hc; exact ⟨c, hc, h2⟩
  · cases h2

theorem Run.absorb {P : Program} {B : Bs} {c : Code} {st : St} {R : Ex → St → Prop} (h : Run P B c st fun e s => ∃ s', Weak B s s' ∧ R e s') : Run P B c st R :=
  fun β a w hR Q hq => h β a w hR Q fun e st' β' a' w' hp hR' => by
    obtain ⟨s', hw, hr⟩ := hp
    obtain ⟨β2, hR2⟩ := hw β' a' w' hR'
    exact hq e s' β2 a' w' hr hR2
/-- the end of a body -/
def finP (T : Tab) (fn : Func) (Fin : List V1 → Know → Prop) : Ex → St → Prop := fun e s => (e = .normal ∨ e = .ret) ∧ ∃ xs m, resL T s fn.results.toList = some xs ∧ Fin xs (s.K.take m)
theorem Run.of_finAt {P : Program} {T : Tab} {Γ : Gam} {B : Bs} {Λ : Lam} {Ψ : Psi} {fuel : Nat} (hmix : P.follows .mixedOrders = true) (hT : TabOk P T) (hΓ : GamAt P Γ B.w0 B.rw) {fn : Func} {c : Code} {rs : List ResultVar} (hrs : fn.results = rs.toArray) (ora : List Bool) (l : List Tr) {st : St}
    {vc : List Prop} {xs : List V1} (h : fin B T rs l (execC P B T Γ Λ Ψ fuel c ora st []) = some ⟨true, vc, xs⟩) (hvc : AllP vc) : Run P B c st (finP T fn fun ys _ => ys = xs) := by
  unfold fin at h
  split at h
  · rename_i o ho
    split at h
    · rename_i vc1 st1 ht
      split at h
      · rename_i ys hys
        simp only [Option.some.injEq, FOut.mk.injEq] at h
        obtain ⟨h1, rfl, rfl⟩ := h
        obtain ⟨h2, h3⟩ := trs_weak ht hvc
        exact Run.absorb (Run.exec hmix hT hΓ Λ Ψ fuel ora ho h2 ⟨_, h3, exRet_ok h1, _, 0, by rw [hrs]; exact hys, rfl⟩)
      · simp at h
    · simp at h
  · simp at h
end Go.Proofs.Ytepimglipelpmaa.X

/- A contract by hand: two lists of slices, families in them or not, are looked at and found to show the same. -/
namespace Go.Proofs.Ytepimglipelpmaa.X
open Go Go.Proofs
set_option linter.unusedVariables false

def PartsI (w : World) (rw : List Nat) (L : List Value) (n : Nat) : Prop := ∀ i, i < n → ∀ (k : Nat) (β : Env), ImpOk ⟨w, rw, k, β⟩ (L.getD i undef) .u8 (lenV (L.getD i undef)) (capV (L.getD i undef)) (contV w (L.getD i undef))
def contL (w : World) (L : List Value) (n : Nat) : List (List Int) := (List.range n).map fun i => contV w (L.getD i undef)
section fam
variable {w0 w : World} {rw : List Nat} {β : Env} {K : Know}

def AllI (w : World) (L : List Value) (C : List (List Int)) : Prop := L.length = C.length ∧ PartsI w [] L C.length ∧ ∀ i, i < C.length → contV w (L.getD i undef) = C.getD i []
theorem AllI.of {L : List Value} {C : List (List Int)} (h : FamR w [] L C) : AllI w L C := ⟨h.len, h.imp, h.cont⟩
theorem AllI.to {L : List Value} {C : List (List Int)} (h : AllI w L C) : FamR w [] L C := ⟨h.1, h.2.1, h.2.2⟩

theorem contL_len (w : World) (L : List Value) (n : Nat) : (contL w L n).length = n := by simp [contL]
theorem contL_get {w : World} {L : List Value} {n i : Nat} (h : i < n) : (contL w L n).getD i [] = contV w (L.getD i undef) := by
  unfold contL
  rw [List.getD_eq_getElem?_getD, List.getElem?_map, List.getElem?_range h]; rfl

end fam

end Go.Proofs.Ytepimglipelpmaa.X

/- Families that a loop makes, told for the loop's block alone; what a family says to those that read it. -/
namespace Go.Proofs.Ytepimglipelpmaa.X
open Go Go.Proofs
set_option linter.unusedVariables false

theorem FamR.of {w : World} {rw : List Nat} {L : List Value} {n : Nat} (hl : L.length = n) (h : PartsI w rw L n) : FamR w rw L (contL w L n) :=
  ⟨by rw [contL_len, hl], fun i hi => h i (by rwa [contL_len] at hi), fun i hi => (contL_get (by rwa [contL_len] at hi)).symm⟩
end Go.Proofs.Ytepimglipelpmaa.X

/- What Own asks: a Hasher that takes more. -/
namespace Go.Proofs.Ytepimglipelpmaa.X
open Go Go.Proofs
set_option linter.unusedVariables false
set_option maxRecDepth 100000

theorem h_step {D c : List Int} {n : Nat} (hc : c.length = n) (h : (D ++ c).length < 1152921504606846976) :
    wrS konst (hS D) (hL D) (sub c 0 n) (hT D) n = hS (D ++ c) ∧ wrT (hT D) n = hT (D ++ c) ∧ wrN (hN D) n = hN (D ++ c) ∧ wrL (hL D) (sub c 0 n) (hT D) n = hL (D ++ c) :=
  ⟨hS_step hc, hT_step hc, hN_step hc h, hL_step hc⟩
theorem h_step0 {c : List Int} {n : Nat} (hc : c.length = n) (h : n < 1152921504606846976) :
    wrS konst (hS []) (hL []) (sub c 0 n) (hT []) n = hS c ∧ wrT (hT []) n = hT c ∧ wrN (hN []) n = hN c ∧ wrL (hL []) (sub c 0 n) (hT []) n = hL c :=
  h_step (D := []) hc (by rw [List.nil_append, hc]; exact h)
theorem copyB_eq {b : List Int} {n : Nat} (h : b.length = n) : copyB n (sub b 0 n) = b := by
  show sub (sub b 0 n) 0 n = b
  rw [sub_all b n (by omega)]; exact sub_all b n (by omega)
theorem ab_eq {a b : List Int} {n m : Nat} (ha : a.length = n) (hb : b.length = m) : sub (sub a 0 n) 0 n ++ sub b 0 m = a ++ b := by
  rw [sub_all a n (by omega), sub_all a n (by omega), sub_all b m (by omega)]
theorem sum_ab {a b : List Int} {n m : Nat} (ha : a.length = n) (hb : b.length = m) (h1 : n < 17592186044416) (h2 : m < 17592186044416) : join1 (n + m) (sub (a ++ b) 0 (n + m)) = shaD (a ++ b) := by
  have hl : (a ++ b).length = n + m := by rw [List.length_append, ha, hb]
  rw [sub_all _ _ (by omega)]
  exact join1_sha hl (by omega)
theorem sum_b {b : List Int} {m : Nat} (hb : b.length = m) (h2 : m < 17592186044416) : join1 m (sub b 0 m) = shaD b := by
  rw [sub_all b m (by omega)]
  exact join1_sha hb (by omega)
end Go.Proofs.Ytepimglipelpmaa.X

/- Printed by a tool of this session. -/
namespace Go.Proofs.Ytepimglipelpmaa.X
open Go Go.Proofs
set_option linter.unusedVariables false
set_option linter.unusedSimpArgs false
set_option maxRecDepth 100000
theorem teUI_5 : TEOk Try.prog 5 ⟨.int .u8, 1, 1, [.i .u8 (0 : Int)], false⟩ :=
  TEOk.of Try.underlying5 (i := Try.t5) (by kernel_rfl) rfl rfl rfl (by kernel_rfl) (fun h => by cases h) (by kernel_rfl)
theorem teUI_22 : TEOk Try.prog 22 ⟨.slice 5, 1, 24, [.raw (.slice none 0 0)], false⟩ :=
  TEOk.of Try.underlying22 (i := Try.t22) (by kernel_rfl) rfl rfl rfl (by kernel_rfl) (fun h => by cases h) (by kernel_rfl)
theorem teUI_42 : TEOk Try.prog 42 ⟨.array 64 5, 64, 64, [.ints .u8 (64 : Nat) ([0, 0, 0, 0, 0, 0, 0, 0, 0, 0, 0, 0, 0, 0, 0, 0, 0, 0, 0, 0, 0, 0, 0, 0, 0, 0, 0, 0, 0, 0, 0, 0, 0, 0, 0, 0, 0, 0, 0, 0, 0, 0, 0, 0, 0, 0, 0, 0, 0, 0, 0, 0, 0, 0, 0, 0, 0, 0, 0, 0, 0, 0, 0, 0] : List Int)], true⟩ :=
  TEOk.of Try.underlying42 (i := Try.t42) (by kernel_rfl) rfl rfl rfl (by kernel_rfl) (fun _ => Try.eqGuardType42) (by kernel_rfl)
theorem teUI_52 : TEOk Try.prog 52 ⟨.int .u64, 1, 8, [.i .u64 (0 : Int)], false⟩ :=
  TEOk.of Try.underlying52 (i := Try.t52) (by kernel_rfl) rfl rfl rfl (by kernel_rfl) (fun h => by cases h) (by kernel_rfl)
theorem teUI_53 : TEOk Try.prog 53 ⟨.array 8 52, 8, 64, [.ints .u64 (8 : Nat) ([0, 0, 0, 0, 0, 0, 0, 0] : List Int)], true⟩ :=
  TEOk.of Try.underlying53 (i := Try.t53) (by kernel_rfl) rfl rfl rfl (by kernel_rfl) (fun _ => Try.eqGuardType53) (by kernel_rfl)
theorem teUI_69 : TEOk Try.prog 69 ⟨Try.t68.desc, 10, 96, [.ints .u64 (8 : Nat) ([0, 0, 0, 0, 0, 0, 0, 0] : List Int), .raw (.slice none 0 0), .i .u64 (0 : Int)], false⟩ :=
  TEOk.of Try.underlying69 (i := Try.t69) (by kernel_rfl) rfl rfl rfl (by kernel_rfl) (fun h => by cases h) (by kernel_rfl)
theorem teUI_70 : TEOk Try.prog 70 ⟨.pointer 102, 1, 8, [.raw (.pointer none)], false⟩ :=
  TEOk.of Try.underlying70 (i := Try.t70) (by kernel_rfl) rfl rfl rfl (by kernel_rfl) (fun h => by cases h) (by kernel_rfl)
theorem teUI_100 : TEOk Try.prog 100 ⟨.pointer 65, 1, 8, [.raw (.pointer none)], false⟩ :=
  TEOk.of Try.underlying100 (i := Try.t100) (by kernel_rfl) rfl rfl rfl (by kernel_rfl) (fun h => by cases h) (by kernel_rfl)
theorem teUI_102 : TEOk Try.prog 102 ⟨Try.t101.desc, 11, 104, [.ints .u64 (8 : Nat) ([0, 0, 0, 0, 0, 0, 0, 0] : List Int), .raw (.slice none 0 0), .i .u64 (0 : Int), .raw (.pointer none)], false⟩ :=
  TEOk.of Try.underlying102 (i := Try.t102) (by kernel_rfl) rfl rfl rfl (by kernel_rfl) (fun h => by cases h) (by kernel_rfl)
noncomputable def tabUI : List (Nat × TE) := [(5, ⟨.int .u8, 1, 1, [.i .u8 (0 : Int)], false⟩), (22, ⟨.slice 5, 1, 24, [.raw (.slice none 0 0)], false⟩), (42, ⟨.array 64 5, 64, 64, [.ints .u8 (64 : Nat) ([0, 0, 0, 0, 0, 0, 0, 0, 0, 0, 0, 0, 0, 0, 0, 0, 0, 0, 0, 0, 0, 0, 0, 0, 0, 0, 0, 0, 0, 0, 0, 0, 0, 0, 0, 0, 0, 0, 0, 0, 0, 0, 0, 0, 0, 0, 0, 0, 0, 0, 0, 0, 0, 0, 0, 0, 0, 0, 0, 0, 0, 0, 0, 0] : List Int)], true⟩), (52, ⟨.int .u64, 1, 8, [.i .u64 (0 : Int)], false⟩), (53, ⟨.array 8 52, 8, 64, [.ints .u64 (8 : Nat) ([0, 0, 0, 0, 0, 0, 0, 0] : List Int)], true⟩), (69, ⟨Try.t68.desc, 10, 96, [.ints .u64 (8 : Nat) ([0, 0, 0, 0, 0, 0, 0, 0] : List Int), .raw (.slice none 0 0), .i .u64 (0 : Int)], false⟩), (70, ⟨.pointer 102, 1, 8, [.raw (.pointer none)], false⟩), (100, ⟨.pointer 65, 1, 8, [.raw (.pointer none)], false⟩), (102, ⟨Try.t101.desc, 11, 104, [.ints .u64 (8 : Nat) ([0, 0, 0, 0, 0, 0, 0, 0] : List Int), .raw (.slice none 0 0), .i .u64 (0 : Int), .raw (.pointer none)], false⟩)]
theorem tabOkUI : TabOk Try.prog (tabOf tabUI) := (tabOf_cons teUI_5 (tabOf_cons teUI_22 (tabOf_cons teUI_42 (tabOf_cons teUI_52 (tabOf_cons teUI_53 (tabOf_cons teUI_69 (tabOf_cons teUI_70 (tabOf_cons teUI_100 (tabOf_cons teUI_102 tabOf_nil)))))))))

set_option maxHeartbeats 1000000 in
theorem nlSame_body0 (w : World) (rw : List Nat) (β : Env) : Body Try.prog (tabOf tabUI) Try.f24 ⟨w, rw, 0, β⟩ [.o (.a (.raw (.slice none 0 0))), .o (.a (.raw (.slice none 0 0)))] [] (fun ys K' => ys = [.a (.b true)] ∧ K' = []) :=
  Body.of_finK (Γ := gam19) (Λ := noLam) (Ψ := noPsi) (fuel := 1) (m := 26) (c := (Try.f24.body.getD .skip)) mix tabOkUI gam19_ok rfl (rs := [.tmp 4]) rfl rfl [false, false] [] 0
    (vc := [(false = false), (false = false)]) (by kernel_rfl)
    (aC rfl (aC rfl (AllP_nil)))

theorem nlSame_body (w : World) (rw : List Nat) (β : Env) : Body Try.prog (tabOf tabUI) Try.f24 ⟨w, rw, 0, β⟩ [.o (.a (.raw (.slice none 0 0))), .o (.a (.raw (.slice none 0 0)))] [] (fun ys K' => ys = [.a (.b true)] ∧ K' = []) :=
  Body.lens (c := (Try.f24.body.getD .skip)) rfl fun h => nlSame_body0  w rw β

noncomputable def gam701 : Gam := gcall 24 [] [.w, .w] (fun wk vs args => match wk, vs, args with | [], [], [.o (.a (.raw (.slice none 0 0))), .o (.a (.raw (.slice none 0 0)))] => some (True, [.a (.b true)], []) | _, _, _ => none) gam19
theorem gam701_ok : GamOk Try.prog gam701 := gcall_ok tabOkUI Try.func24 gam19_ok Try.call24 (by
  intro wk vs args p xs K1 h hv
  split at h
  · simp only [Option.some.injEq, Prod.mk.injEq] at h; obtain ⟨rfl, rfl, rfl⟩ := h; exact fun caps w rw β => nlSame_body w rw β
  · simp at h)

set_option maxHeartbeats 1000000 in
theorem nlMid_body0 (w : World) (rw : List Nat) (β : Env) : Body Try.prog (tabOf tabUI) Try.f29 ⟨w, rw, 0, β⟩ [.o (.g [.ints .u64 (8 : Nat) ([0, 0, 0, 0, 0, 0, 0, 0] : List Int), .raw (.slice none 0 0), .i .u64 (0 : Int)]), .o (.g [.ints .u64 (8 : Nat) ([0, 0, 0, 0, 0, 0, 0, 0] : List Int), .raw (.slice none 0 0), .i .u64 (0 : Int)])] [] (fun ys K' => ys = [.a (.b true)] ∧ K' = []) :=
  Body.of_finK (Γ := gam701) (Λ := noLam) (Ψ := noPsi) (fuel := 0) (m := 24) (c := (Try.f29.body.getD .skip)) mix tabOkUI gam701_ok rfl (rs := [.tmp 4]) rfl rfl [true, true, true, true, true, true, true, true, true, true, true, true] [] 0
    (vc := [(true = true), ((True ∧ (True ∧ True)) ∧ True), (true = true), (true = true), (true = true), (true = true), (true = true), (true = true), (true = true), (true = true), (true = true), (true = true), (true = true)]) (by kernel_rfl)
    (aC rfl (aC ⟨⟨trivial, ⟨trivial, trivial⟩⟩, trivial⟩ (aC rfl (aC rfl (aC rfl (aC rfl (aC rfl (aC rfl (aC rfl (aC rfl (aC rfl (aC rfl (aC rfl (AllP_nil))))))))))))))

theorem nlMid_body (w : World) (rw : List Nat) (β : Env) : Body Try.prog (tabOf tabUI) Try.f29 ⟨w, rw, 0, β⟩ [.o (.g [.ints .u64 (8 : Nat) ([0, 0, 0, 0, 0, 0, 0, 0] : List Int), .raw (.slice none 0 0), .i .u64 (0 : Int)]), .o (.g [.ints .u64 (8 : Nat) ([0, 0, 0, 0, 0, 0, 0, 0] : List Int), .raw (.slice none 0 0), .i .u64 (0 : Int)])] [] (fun ys K' => ys = [.a (.b true)] ∧ K' = []) :=
  Body.lens (c := (Try.f29.body.getD .skip)) rfl fun h => nlMid_body0  w rw β

noncomputable def gam702 : Gam := gcall 29 [] [.w, .w] (fun wk vs args => match wk, vs, args with | [], [], [.o (.g [.ints .u64 (8 : Nat) ([0, 0, 0, 0, 0, 0, 0, 0] : List Int), .raw (.slice none 0 0), .i .u64 (0 : Int)]), .o (.g [.ints .u64 (8 : Nat) ([0, 0, 0, 0, 0, 0, 0, 0] : List Int), .raw (.slice none 0 0), .i .u64 (0 : Int)])] => some (True, [.a (.b true)], []) | _, _, _ => none) gam701
theorem gam702_ok : GamOk Try.prog gam702 := gcall_ok tabOkUI Try.func29 gam701_ok Try.call29 (by
  intro wk vs args p xs K1 h hv
  split at h
  · simp only [Option.some.injEq, Prod.mk.injEq] at h; obtain ⟨rfl, rfl, rfl⟩ := h; exact fun caps w rw β => nlMid_body w rw β
  · simp at h)

set_option maxHeartbeats 1000000 in
theorem nlMade_body0 (w : World) (rw : List Nat) (β : Env) : Body Try.prog (tabOf tabUI) Try.f61 ⟨w, rw, 0, β⟩ [.o (.a (.raw (.pointer none)))] [] (fun ys K' => ys = [.a (.b false)] ∧ K' = []) :=
  Body.of_finK (Γ := gam702) (Λ := noLam) (Ψ := noPsi) (fuel := 0) (m := 12) (c := (Try.f61.body.getD .skip)) mix tabOkUI gam702_ok rfl (rs := [.tmp 2]) rfl rfl [false, false, false, false, false, false] [] 0
    (vc := [(false = false), (false = false), (false = false), (false = false), (false = false), (false = false)]) (by kernel_rfl)
    (aC rfl (aC rfl (aC rfl (aC rfl (aC rfl (aC rfl (AllP_nil)))))))

theorem nlMade_body (w : World) (rw : List Nat) (β : Env) : Body Try.prog (tabOf tabUI) Try.f61 ⟨w, rw, 0, β⟩ [.o (.a (.raw (.pointer none)))] [] (fun ys K' => ys = [.a (.b false)] ∧ K' = []) :=
  Body.lens (c := (Try.f61.body.getD .skip)) rfl fun h => nlMade_body0  w rw β

noncomputable def gam703 : Gam := gcall 61 [] [.w] (fun wk vs args => match wk, vs, args with | [], [], [.o (.a (.raw (.pointer none)))] => some (True, [.a (.b false)], []) | _, _, _ => none) gam702
theorem gam703_ok : GamOk Try.prog gam703 := gcall_ok tabOkUI Try.func61 gam702_ok Try.call61 (by
  intro wk vs args p xs K1 h hv
  split at h
  · simp only [Option.some.injEq, Prod.mk.injEq] at h; obtain ⟨rfl, rfl, rfl⟩ := h; exact fun caps w rw β => nlMade_body w rw β
  · simp at h)

set_option maxHeartbeats 1000000 in
theorem nlWrite_body0 (n nm : Nat) (b : List Int) (cap0 : Nat) (h0 : (nm = n)) (hc0 : n ≤ cap0) (hl0_0 : List.length b = nm) (w : World) (rw : List Nat) (β : Env) : Body Try.prog (tabOf tabUI) Try.f31 ⟨w, rw, 1, β⟩ [.o (.a (.raw (.pointer none))), .o (.a (.sl 0 0 n cap0))] [some ⟨false, [.ints .u8 nm b]⟩] (fun ys K' => ys = [] ∧ K' = [some ⟨false, [.ints .u8 nm b]⟩]) :=
  Body.of_finK (Γ := gam703) (Λ := noLam) (Ψ := noPsi) (fuel := 0) (m := 105) (c := (Try.f31.body.getD .skip)) mix tabOkUI gam703_ok rfl (rs := []) rfl rfl [true] [] 1
    (vc := [(true = true), ((True ∧ True) ∧ True)]) (by kernel_rfl)
    (aC rfl (aC ⟨⟨trivial, trivial⟩, trivial⟩ (AllP_nil)))

theorem nlWrite_body (n nm : Nat) (b : List Int) (cap0 : Nat) (h0 : (nm = n)) (w : World) (rw : List Nat) (β : Env) : Body Try.prog (tabOf tabUI) Try.f31 ⟨w, rw, 1, β⟩ [.o (.a (.raw (.pointer none))), .o (.a (.sl 0 0 n cap0))] [some ⟨false, [.ints .u8 nm b]⟩] (fun ys K' => ys = [] ∧ K' = [some ⟨false, [.ints .u8 nm b]⟩]) :=
  Body.lens (c := (Try.f31.body.getD .skip)) rfl fun h => nlWrite_body0 n nm b cap0 h0 (h.caps 1 _ _ _ _ rfl) (h.lens 0 _ .u8 nm b rfl (by simp)) w rw β

noncomputable def gam704 : Gam := gcall 31 [] [.w, .s 1] (fun wk vs args => match wk, vs, args with | [], [⟨_, _, _, [.ints .u8 nm b]⟩], [.o (.a (.raw (.pointer none))), .o (.a (.sl 0 0 n _))] => some ((nm = n), [], [some ⟨false, [.ints .u8 nm b]⟩]) | _, _, _ => none) gam703
theorem gam704_ok : GamOk Try.prog gam704 := gcall_ok tabOkUI Try.func31 gam703_ok Try.call31 (by
  intro wk vs args p xs K1 h hv
  split at h
  · simp only [Option.some.injEq, Prod.mk.injEq] at h; obtain ⟨rfl, rfl, rfl⟩ := h; have g0 := hv; exact fun caps w rw β => nlWrite_body _ _ _ _ g0 w rw β
  · simp at h)

set_option maxHeartbeats 1000000 in
theorem nlReset_body0 (w : World) (rw : List Nat) (β : Env) : Body Try.prog (tabOf tabUI) Try.f38 ⟨w, rw, 0, β⟩ [.o (.a (.raw (.pointer none)))] [] (fun ys K' => ys = [] ∧ K' = []) :=
  Body.of_finK (Γ := gam704) (Λ := noLam) (Ψ := noPsi) (fuel := 0) (m := 9) (c := (Try.f38.body.getD .skip)) mix tabOkUI gam704_ok rfl (rs := []) rfl rfl [false] [] 0
    (vc := [(false = false), ((True ∧ True) ∧ True)]) (by kernel_rfl)
    (aC rfl (aC ⟨⟨trivial, trivial⟩, trivial⟩ (AllP_nil)))

theorem nlReset_body (w : World) (rw : List Nat) (β : Env) : Body Try.prog (tabOf tabUI) Try.f38 ⟨w, rw, 0, β⟩ [.o (.a (.raw (.pointer none)))] [] (fun ys K' => ys = [] ∧ K' = []) :=
  Body.lens (c := (Try.f38.body.getD .skip)) rfl fun h => nlReset_body0  w rw β

noncomputable def gam705 : Gam := gcall 38 [] [.w] (fun wk vs args => match wk, vs, args with | [], [], [.o (.a (.raw (.pointer none)))] => some (True, [], []) | _, _, _ => none) gam704
theorem gam705_ok : GamOk Try.prog gam705 := gcall_ok tabOkUI Try.func38 gam704_ok Try.call38 (by
  intro wk vs args p xs K1 h hv
  split at h
  · simp only [Option.some.injEq, Prod.mk.injEq] at h; obtain ⟨rfl, rfl, rfl⟩ := h; exact fun caps w rw β => nlReset_body w rw β
  · simp at h)

set_option maxHeartbeats 1000000 in
theorem nlSum_body0 (w : World) (rw : List Nat) (β : Env) : Body Try.prog (tabOf tabUI) Try.f33 ⟨w, rw, 0, β⟩ [.o (.a (.raw (.pointer none)))] [] (fun ys K' => ys = [.g [.ints .u8 (64 : Nat) ([0, 0, 0, 0, 0, 0, 0, 0, 0, 0, 0, 0, 0, 0, 0, 0, 0, 0, 0, 0, 0, 0, 0, 0, 0, 0, 0, 0, 0, 0, 0, 0, 0, 0, 0, 0, 0, 0, 0, 0, 0, 0, 0, 0, 0, 0, 0, 0, 0, 0, 0, 0, 0, 0, 0, 0, 0, 0, 0, 0, 0, 0, 0, 0] : List Int)]] ∧ K' = []) :=
  Body.of_finK (Γ := gam705) (Λ := noLam) (Ψ := noPsi) (fuel := 0) (m := 64) (c := (Try.f33.body.getD .skip)) mix tabOkUI gam705_ok rfl (rs := [.cell 2 42]) rfl rfl [true] [] 0
    (vc := [(true = true), ((True ∧ True) ∧ True)]) (by kernel_rfl)
    (aC rfl (aC ⟨⟨trivial, trivial⟩, trivial⟩ (AllP_nil)))

theorem nlSum_body (w : World) (rw : List Nat) (β : Env) : Body Try.prog (tabOf tabUI) Try.f33 ⟨w, rw, 0, β⟩ [.o (.a (.raw (.pointer none)))] [] (fun ys K' => ys = [.g [.ints .u8 (64 : Nat) ([0, 0, 0, 0, 0, 0, 0, 0, 0, 0, 0, 0, 0, 0, 0, 0, 0, 0, 0, 0, 0, 0, 0, 0, 0, 0, 0, 0, 0, 0, 0, 0, 0, 0, 0, 0, 0, 0, 0, 0, 0, 0, 0, 0, 0, 0, 0, 0, 0, 0, 0, 0, 0, 0, 0, 0, 0, 0, 0, 0, 0, 0, 0, 0] : List Int)]] ∧ K' = []) :=
  Body.lens (c := (Try.f33.body.getD .skip)) rfl fun h => nlSum_body0  w rw β

noncomputable def gam706 : Gam := gcall 33 [] [.w] (fun wk vs args => match wk, vs, args with | [], [], [.o (.a (.raw (.pointer none)))] => some (True, [.g [.ints .u8 (64 : Nat) ([0, 0, 0, 0, 0, 0, 0, 0, 0, 0, 0, 0, 0, 0, 0, 0, 0, 0, 0, 0, 0, 0, 0, 0, 0, 0, 0, 0, 0, 0, 0, 0, 0, 0, 0, 0, 0, 0, 0, 0, 0, 0, 0, 0, 0, 0, 0, 0, 0, 0, 0, 0, 0, 0, 0, 0, 0, 0, 0, 0, 0, 0, 0, 0] : List Int)]], []) | _, _, _ => none) gam705
theorem gam706_ok : GamOk Try.prog gam706 := gcall_ok tabOkUI Try.func33 gam705_ok Try.call33 (by
  intro wk vs args p xs K1 h hv
  split at h
  · simp only [Option.some.injEq, Prod.mk.injEq] at h; obtain ⟨rfl, rfl, rfl⟩ := h; exact fun caps w rw β => nlSum_body w rw β
  · simp at h)

set_option maxHeartbeats 1000000 in
theorem nlLen_body0 (w : World) (rw : List Nat) (β : Env) : Body Try.prog (tabOf tabUI) Try.f36 ⟨w, rw, 0, β⟩ [.o (.a (.raw (.pointer none)))] [] (fun ys K' => ys = [.a (.i .u64 (0 : Int))] ∧ K' = []) :=
  Body.of_finK (Γ := gam706) (Λ := noLam) (Ψ := noPsi) (fuel := 0) (m := 10) (c := (Try.f36.body.getD .skip)) mix tabOkUI gam706_ok rfl (rs := [.tmp 2]) rfl rfl [true] [] 0
    (vc := [(true = true), ((True ∧ True) ∧ True)]) (by kernel_rfl)
    (aC rfl (aC ⟨⟨trivial, trivial⟩, trivial⟩ (AllP_nil)))

theorem nlLen_body (w : World) (rw : List Nat) (β : Env) : Body Try.prog (tabOf tabUI) Try.f36 ⟨w, rw, 0, β⟩ [.o (.a (.raw (.pointer none)))] [] (fun ys K' => ys = [.a (.i .u64 (0 : Int))] ∧ K' = []) :=
  Body.lens (c := (Try.f36.body.getD .skip)) rfl fun h => nlLen_body0  w rw β

noncomputable def gam707 : Gam := gcall 36 [] [.w] (fun wk vs args => match wk, vs, args with | [], [], [.o (.a (.raw (.pointer none)))] => some (True, [.a (.i .u64 (0 : Int))], []) | _, _, _ => none) gam706
theorem gam707_ok : GamOk Try.prog gam707 := gcall_ok tabOkUI Try.func36 gam706_ok Try.call36 (by
  intro wk vs args p xs K1 h hv
  split at h
  · simp only [Option.some.injEq, Prod.mk.injEq] at h; obtain ⟨rfl, rfl, rfl⟩ := h; exact fun caps w rw β => nlLen_body w rw β
  · simp at h)

set_option maxHeartbeats 1000000 in
theorem nlState_body0 (w : World) (rw : List Nat) (β : Env) : Body Try.prog (tabOf tabUI) Try.f30 ⟨w, rw, 0, β⟩ [.o (.a (.raw (.pointer none)))] [] (fun ys K' => ys = [.g [.ints .u64 (8 : Nat) ([0, 0, 0, 0, 0, 0, 0, 0] : List Int), .raw (.slice none 0 0), .i .u64 (0 : Int)]] ∧ K' = []) :=
  Body.of_finK (Γ := gam707) (Λ := noLam) (Ψ := noPsi) (fuel := 0) (m := 21) (c := (Try.f30.body.getD .skip)) mix tabOkUI gam707_ok rfl (rs := [.cell 2 69]) rfl rfl [true] [] 0
    (vc := [(true = true), ((True ∧ True) ∧ True)]) (by kernel_rfl)
    (aC rfl (aC ⟨⟨trivial, trivial⟩, trivial⟩ (AllP_nil)))

theorem nlState_body (w : World) (rw : List Nat) (β : Env) : Body Try.prog (tabOf tabUI) Try.f30 ⟨w, rw, 0, β⟩ [.o (.a (.raw (.pointer none)))] [] (fun ys K' => ys = [.g [.ints .u64 (8 : Nat) ([0, 0, 0, 0, 0, 0, 0, 0] : List Int), .raw (.slice none 0 0), .i .u64 (0 : Int)]] ∧ K' = []) :=
  Body.lens (c := (Try.f30.body.getD .skip)) rfl fun h => nlState_body0  w rw β

noncomputable def gam708 : Gam := gcall 30 [] [.w] (fun wk vs args => match wk, vs, args with | [], [], [.o (.a (.raw (.pointer none)))] => some (True, [.g [.ints .u64 (8 : Nat) ([0, 0, 0, 0, 0, 0, 0, 0] : List Int), .raw (.slice none 0 0), .i .u64 (0 : Int)]], []) | _, _, _ => none) gam707
theorem gam708_ok : GamOk Try.prog gam708 := gcall_ok tabOkUI Try.func30 gam707_ok Try.call30 (by
  intro wk vs args p xs K1 h hv
  split at h
  · simp only [Option.some.injEq, Prod.mk.injEq] at h; obtain ⟨rfl, rfl, rfl⟩ := h; exact fun caps w rw β => nlState_body w rw β
  · simp at h)

set_option maxHeartbeats 1000000 in
theorem nlNothing_body0 (n nm : Nat) (b : List Int) (cap0 : Nat) (h0 : (nm = n)) (hc0 : n ≤ cap0) (hl0_0 : List.length b = nm) (w : World) (rw : List Nat) (β : Env) : Body Try.prog (tabOf tabUI) Try.f42 ⟨w, rw, 1, β⟩ [.o (.a (.raw (.pointer none))), .o (.a (.sl 0 0 n cap0))] [some ⟨false, [.ints .u8 nm b]⟩] (fun ys K' => ys = [.a (.b true)] ∧ K' = [some ⟨false, [.ints .u8 nm b]⟩]) :=
  Body.of_finK (Γ := gam708) (Λ := noLam) (Ψ := noPsi) (fuel := 0) (m := 28) (c := (Try.f42.body.getD .skip)) mix tabOkUI gam708_ok rfl (rs := [.tmp 4]) rfl rfl [true, true, true, true, true, true, true, true, true] [] 1
    (vc := [(true = true), ((True ∧ (True ∧ True)) ∧ True), (true = true), (true = true), ((True ∧ True) ∧ True), (true = true), (true = true), (true = true), (true = true), ((True ∧ True) ∧ True), (true = true), (true = true), ((True ∧ True) ∧ True), ((True ∧ ((((0 : Nat) + n) ≤ nm) ∧ True)) ∧ (n = n)), ((True ∧ True) ∧ True), ((True ∧ ((((0 : Nat) + n) ≤ nm) ∧ True)) ∧ (n = n))]) (by kernel_rfl)
    (aC rfl (aC ⟨⟨trivial, ⟨trivial, trivial⟩⟩, trivial⟩ (aC rfl (aC rfl (aC ⟨⟨trivial, trivial⟩, trivial⟩ (aC rfl (aC rfl (aC rfl (aC rfl (aC ⟨⟨trivial, trivial⟩, trivial⟩ (aC rfl (aC rfl (aC ⟨⟨trivial, trivial⟩, trivial⟩ (aC ⟨⟨trivial, ⟨(by first | omega | (simp (disch := omega) only [wrapI]; omega)), trivial⟩⟩, rfl⟩ (aC ⟨⟨trivial, trivial⟩, trivial⟩ (aC ⟨⟨trivial, ⟨(by first | omega | (simp (disch := omega) only [wrapI]; omega)), trivial⟩⟩, rfl⟩ (AllP_nil)))))))))))))))))

theorem nlNothing_body (n nm : Nat) (b : List Int) (cap0 : Nat) (h0 : (nm = n)) (w : World) (rw : List Nat) (β : Env) : Body Try.prog (tabOf tabUI) Try.f42 ⟨w, rw, 1, β⟩ [.o (.a (.raw (.pointer none))), .o (.a (.sl 0 0 n cap0))] [some ⟨false, [.ints .u8 nm b]⟩] (fun ys K' => ys = [.a (.b true)] ∧ K' = [some ⟨false, [.ints .u8 nm b]⟩]) :=
  Body.lens (c := (Try.f42.body.getD .skip)) rfl fun h => nlNothing_body0 n nm b cap0 h0 (h.caps 1 _ _ _ _ rfl) (h.lens 0 _ .u8 nm b rfl (by simp)) w rw β

set_option maxHeartbeats 1000000 in
theorem zzSame_body0 (w : World) (rw : List Nat) (β : Env) : Body Try.prog (tabOf tabUI) Try.f24 ⟨w, rw, 0, β⟩ [.o (.a (.raw (.slice none 0 0))), .o (.a (.raw (.slice none 0 0)))] [] (fun ys K' => ys = [.a (.b true)] ∧ K' = []) :=
  Body.of_finK (Γ := gam19) (Λ := noLam) (Ψ := noPsi) (fuel := 1) (m := 26) (c := (Try.f24.body.getD .skip)) mix tabOkUI gam19_ok rfl (rs := [.tmp 4]) rfl rfl [false, false] [] 0
    (vc := [(false = false), (false = false)]) (by kernel_rfl)
    (aC rfl (aC rfl (AllP_nil)))

theorem zzSame_body (w : World) (rw : List Nat) (β : Env) : Body Try.prog (tabOf tabUI) Try.f24 ⟨w, rw, 0, β⟩ [.o (.a (.raw (.slice none 0 0))), .o (.a (.raw (.slice none 0 0)))] [] (fun ys K' => ys = [.a (.b true)] ∧ K' = []) :=
  Body.lens (c := (Try.f24.body.getD .skip)) rfl fun h => zzSame_body0  w rw β

noncomputable def gam710 : Gam := gcall 24 [] [.w, .w] (fun wk vs args => match wk, vs, args with | [], [], [.o (.a (.raw (.slice none 0 0))), .o (.a (.raw (.slice none 0 0)))] => some (True, [.a (.b true)], []) | _, _, _ => none) gam19
theorem gam710_ok : GamOk Try.prog gam710 := gcall_ok tabOkUI Try.func24 gam19_ok Try.call24 (by
  intro wk vs args p xs K1 h hv
  split at h
  · simp only [Option.some.injEq, Prod.mk.injEq] at h; obtain ⟨rfl, rfl, rfl⟩ := h; exact fun caps w rw β => zzSame_body w rw β
  · simp at h)

set_option maxHeartbeats 1000000 in
theorem zzMid_body0 (w : World) (rw : List Nat) (β : Env) : Body Try.prog (tabOf tabUI) Try.f29 ⟨w, rw, 0, β⟩ [.o (.g [.ints .u64 (8 : Nat) ([0, 0, 0, 0, 0, 0, 0, 0] : List Int), .raw (.slice none 0 0), .i .u64 (0 : Int)]), .o (.g [.ints .u64 (8 : Nat) ([0, 0, 0, 0, 0, 0, 0, 0] : List Int), .raw (.slice none 0 0), .i .u64 (0 : Int)])] [] (fun ys K' => ys = [.a (.b true)] ∧ K' = []) :=
  Body.of_finK (Γ := gam710) (Λ := noLam) (Ψ := noPsi) (fuel := 0) (m := 24) (c := (Try.f29.body.getD .skip)) mix tabOkUI gam710_ok rfl (rs := [.tmp 4]) rfl rfl [true, true, true, true, true, true, true, true, true, true, true, true] [] 0
    (vc := [(true = true), ((True ∧ (True ∧ True)) ∧ True), (true = true), (true = true), (true = true), (true = true), (true = true), (true = true), (true = true), (true = true), (true = true), (true = true), (true = true)]) (by kernel_rfl)
    (aC rfl (aC ⟨⟨trivial, ⟨trivial, trivial⟩⟩, trivial⟩ (aC rfl (aC rfl (aC rfl (aC rfl (aC rfl (aC rfl (aC rfl (aC rfl (aC rfl (aC rfl (aC rfl (AllP_nil))))))))))))))

theorem zzMid_body (w : World) (rw : List Nat) (β : Env) : Body Try.prog (tabOf tabUI) Try.f29 ⟨w, rw, 0, β⟩ [.o (.g [.ints .u64 (8 : Nat) ([0, 0, 0, 0, 0, 0, 0, 0] : List Int), .raw (.slice none 0 0), .i .u64 (0 : Int)]), .o (.g [.ints .u64 (8 : Nat) ([0, 0, 0, 0, 0, 0, 0, 0] : List Int), .raw (.slice none 0 0), .i .u64 (0 : Int)])] [] (fun ys K' => ys = [.a (.b true)] ∧ K' = []) :=
  Body.lens (c := (Try.f29.body.getD .skip)) rfl fun h => zzMid_body0  w rw β

noncomputable def gam711 : Gam := gcall 29 [] [.w, .w] (fun wk vs args => match wk, vs, args with | [], [], [.o (.g [.ints .u64 (8 : Nat) ([0, 0, 0, 0, 0, 0, 0, 0] : List Int), .raw (.slice none 0 0), .i .u64 (0 : Int)]), .o (.g [.ints .u64 (8 : Nat) ([0, 0, 0, 0, 0, 0, 0, 0] : List Int), .raw (.slice none 0 0), .i .u64 (0 : Int)])] => some (True, [.a (.b true)], []) | _, _, _ => none) gam710
theorem gam711_ok : GamOk Try.prog gam711 := gcall_ok tabOkUI Try.func29 gam710_ok Try.call29 (by
  intro wk vs args p xs K1 h hv
  split at h
  · simp only [Option.some.injEq, Prod.mk.injEq] at h; obtain ⟨rfl, rfl, rfl⟩ := h; exact fun caps w rw β => zzMid_body w rw β
  · simp at h)

set_option maxHeartbeats 1000000 in
theorem zzMade_body0 (hl0_0 : List.length ([0, 0, 0, 0, 0, 0, 0, 0] : List Int) = (8 : Nat)) (w : World) (rw : List Nat) (β : Env) : Body Try.prog (tabOf tabUI) Try.f61 ⟨w, rw, 1, β⟩ [.o (.a (.p 0 0))] [some ⟨true, [.ints .u64 (8 : Nat) ([0, 0, 0, 0, 0, 0, 0, 0] : List Int), .raw (.slice none 0 0), .i .u64 (0 : Int), .raw (.pointer none)]⟩] (fun ys K' => ys = [.a (.b false)] ∧ K' = [some ⟨true, [.ints .u64 (8 : Nat) ([0, 0, 0, 0, 0, 0, 0, 0] : List Int), .raw (.slice none 0 0), .i .u64 (0 : Int), .raw (.pointer none)]⟩]) :=
  Body.of_finK (Γ := gam711) (Λ := noLam) (Ψ := noPsi) (fuel := 0) (m := 12) (c := (Try.f61.body.getD .skip)) mix tabOkUI gam711_ok rfl (rs := [.tmp 2]) rfl rfl [true, true, true, true, true, true] [] 1
    (vc := [(true = true), (true = true), (true = true), (true = true), (true = true), (true = true)]) (by kernel_rfl)
    (aC rfl (aC rfl (aC rfl (aC rfl (aC rfl (aC rfl (AllP_nil)))))))

theorem zzMade_body (w : World) (rw : List Nat) (β : Env) : Body Try.prog (tabOf tabUI) Try.f61 ⟨w, rw, 1, β⟩ [.o (.a (.p 0 0))] [some ⟨true, [.ints .u64 (8 : Nat) ([0, 0, 0, 0, 0, 0, 0, 0] : List Int), .raw (.slice none 0 0), .i .u64 (0 : Int), .raw (.pointer none)]⟩] (fun ys K' => ys = [.a (.b false)] ∧ K' = [some ⟨true, [.ints .u64 (8 : Nat) ([0, 0, 0, 0, 0, 0, 0, 0] : List Int), .raw (.slice none 0 0), .i .u64 (0 : Int), .raw (.pointer none)]⟩]) :=
  Body.lens (c := (Try.f61.body.getD .skip)) rfl fun h => zzMade_body0 (h.lens 0 _ .u64 (8 : Nat) ([0, 0, 0, 0, 0, 0, 0, 0] : List Int) rfl (by simp)) w rw β

noncomputable def gam712 : Gam := gcall 61 [true] [.w] (fun wk vs args => match wk, vs, args with | [⟨true, [.ints .u64 (8 : Nat) ([0, 0, 0, 0, 0, 0, 0, 0] : List Int), .raw (.slice none 0 0), .i .u64 (0 : Int), .raw (.pointer none)]⟩], [], [.o (.a (.p 0 0))] => some (True, [.a (.b false)], [some ⟨true, [.ints .u64 (8 : Nat) ([0, 0, 0, 0, 0, 0, 0, 0] : List Int), .raw (.slice none 0 0), .i .u64 (0 : Int), .raw (.pointer none)]⟩]) | _, _, _ => none) gam711
theorem gam712_ok : GamOk Try.prog gam712 := gcall_ok tabOkUI Try.func61 gam711_ok Try.call61 (by
  intro wk vs args p xs K1 h hv
  split at h
  · simp only [Option.some.injEq, Prod.mk.injEq] at h; obtain ⟨rfl, rfl, rfl⟩ := h; exact fun caps w rw β => zzMade_body w rw β
  · simp at h)

set_option maxHeartbeats 1000000 in
theorem zzWrite_body0 (n nm : Nat) (b : List Int) (cap1 : Nat) (h0 : (nm = n)) (hc1 : n ≤ cap1) (hl0_0 : List.length ([0, 0, 0, 0, 0, 0, 0, 0] : List Int) = (8 : Nat)) (hl1_0 : List.length b = nm) (w : World) (rw : List Nat) (β : Env) : Body Try.prog (tabOf tabUI) Try.f31 ⟨w, rw, 2, β⟩ [.o (.a (.p 0 0)), .o (.a (.sl 1 0 n cap1))] [some ⟨true, [.ints .u64 (8 : Nat) ([0, 0, 0, 0, 0, 0, 0, 0] : List Int), .raw (.slice none 0 0), .i .u64 (0 : Int), .raw (.pointer none)]⟩, some ⟨false, [.ints .u8 nm b]⟩] (fun ys K' => ys = [] ∧ K' = [some ⟨true, [.ints .u64 (8 : Nat) ([0, 0, 0, 0, 0, 0, 0, 0] : List Int), .raw (.slice none 0 0), .i .u64 (0 : Int), .raw (.pointer none)]⟩, some ⟨false, [.ints .u8 nm b]⟩]) :=
  Body.of_finK (Γ := gam712) (Λ := noLam) (Ψ := noPsi) (fuel := 0) (m := 105) (c := (Try.f31.body.getD .skip)) mix tabOkUI gam712_ok rfl (rs := []) rfl rfl [true] [] 2
    (vc := [(true = true), ((True ∧ True) ∧ True)]) (by kernel_rfl)
    (aC rfl (aC ⟨⟨trivial, trivial⟩, trivial⟩ (AllP_nil)))

theorem zzWrite_body (n nm : Nat) (b : List Int) (cap1 : Nat) (h0 : (nm = n)) (w : World) (rw : List Nat) (β : Env) : Body Try.prog (tabOf tabUI) Try.f31 ⟨w, rw, 2, β⟩ [.o (.a (.p 0 0)), .o (.a (.sl 1 0 n cap1))] [some ⟨true, [.ints .u64 (8 : Nat) ([0, 0, 0, 0, 0, 0, 0, 0] : List Int), .raw (.slice none 0 0), .i .u64 (0 : Int), .raw (.pointer none)]⟩, some ⟨false, [.ints .u8 nm b]⟩] (fun ys K' => ys = [] ∧ K' = [some ⟨true, [.ints .u64 (8 : Nat) ([0, 0, 0, 0, 0, 0, 0, 0] : List Int), .raw (.slice none 0 0), .i .u64 (0 : Int), .raw (.pointer none)]⟩, some ⟨false, [.ints .u8 nm b]⟩]) :=
  Body.lens (c := (Try.f31.body.getD .skip)) rfl fun h => zzWrite_body0 n nm b cap1 h0 (h.caps 1 _ _ _ _ rfl) (h.lens 0 _ .u64 (8 : Nat) ([0, 0, 0, 0, 0, 0, 0, 0] : List Int) rfl (by simp)) (h.lens 1 _ .u8 nm b rfl (by simp)) w rw β

noncomputable def gam713 : Gam := gcall 31 [true] [.w, .s 1] (fun wk vs args => match wk, vs, args with | [⟨true, [.ints .u64 (8 : Nat) ([0, 0, 0, 0, 0, 0, 0, 0] : List Int), .raw (.slice none 0 0), .i .u64 (0 : Int), .raw (.pointer none)]⟩], [⟨_, _, _, [.ints .u8 nm b]⟩], [.o (.a (.p 0 0)), .o (.a (.sl 1 0 n _))] => some ((nm = n), [], [some ⟨true, [.ints .u64 (8 : Nat) ([0, 0, 0, 0, 0, 0, 0, 0] : List Int), .raw (.slice none 0 0), .i .u64 (0 : Int), .raw (.pointer none)]⟩, some ⟨false, [.ints .u8 nm b]⟩]) | _, _, _ => none) gam712
theorem gam713_ok : GamOk Try.prog gam713 := gcall_ok tabOkUI Try.func31 gam712_ok Try.call31 (by
  intro wk vs args p xs K1 h hv
  split at h
  · simp only [Option.some.injEq, Prod.mk.injEq] at h; obtain ⟨rfl, rfl, rfl⟩ := h; have g0 := hv; exact fun caps w rw β => zzWrite_body _ _ _ _ g0 w rw β
  · simp at h)

set_option maxHeartbeats 1000000 in
theorem zzReset_body0 (hl0_0 : List.length ([0, 0, 0, 0, 0, 0, 0, 0] : List Int) = (8 : Nat)) (w : World) (rw : List Nat) (β : Env) : Body Try.prog (tabOf tabUI) Try.f38 ⟨w, rw, 1, β⟩ [.o (.a (.p 0 0))] [some ⟨true, [.ints .u64 (8 : Nat) ([0, 0, 0, 0, 0, 0, 0, 0] : List Int), .raw (.slice none 0 0), .i .u64 (0 : Int), .raw (.pointer none)]⟩] (fun ys K' => ys = [] ∧ K' = [some ⟨true, [.ints .u64 (8 : Nat) ([0, 0, 0, 0, 0, 0, 0, 0] : List Int), .raw (.slice none 0 0), .i .u64 (0 : Int), .raw (.pointer none)]⟩]) :=
  Body.of_finK (Γ := gam713) (Λ := noLam) (Ψ := noPsi) (fuel := 0) (m := 9) (c := (Try.f38.body.getD .skip)) mix tabOkUI gam713_ok rfl (rs := []) rfl rfl [false] [] 1
    (vc := [(false = false), ((True ∧ True) ∧ True)]) (by kernel_rfl)
    (aC rfl (aC ⟨⟨trivial, trivial⟩, trivial⟩ (AllP_nil)))

theorem zzReset_body (w : World) (rw : List Nat) (β : Env) : Body Try.prog (tabOf tabUI) Try.f38 ⟨w, rw, 1, β⟩ [.o (.a (.p 0 0))] [some ⟨true, [.ints .u64 (8 : Nat) ([0, 0, 0, 0, 0, 0, 0, 0] : List Int), .raw (.slice none 0 0), .i .u64 (0 : Int), .raw (.pointer none)]⟩] (fun ys K' => ys = [] ∧ K' = [some ⟨true, [.ints .u64 (8 : Nat) ([0, 0, 0, 0, 0, 0, 0, 0] : List Int), .raw (.slice none 0 0), .i .u64 (0 : Int), .raw (.pointer none)]⟩]) :=
  Body.lens (c := (Try.f38.body.getD .skip)) rfl fun h => zzReset_body0 (h.lens 0 _ .u64 (8 : Nat) ([0, 0, 0, 0, 0, 0, 0, 0] : List Int) rfl (by simp)) w rw β

noncomputable def gam714 : Gam := gcall 38 [true] [.w] (fun wk vs args => match wk, vs, args with | [⟨true, [.ints .u64 (8 : Nat) ([0, 0, 0, 0, 0, 0, 0, 0] : List Int), .raw (.slice none 0 0), .i .u64 (0 : Int), .raw (.pointer none)]⟩], [], [.o (.a (.p 0 0))] => some (True, [], [some ⟨true, [.ints .u64 (8 : Nat) ([0, 0, 0, 0, 0, 0, 0, 0] : List Int), .raw (.slice none 0 0), .i .u64 (0 : Int), .raw (.pointer none)]⟩]) | _, _, _ => none) gam713
theorem gam714_ok : GamOk Try.prog gam714 := gcall_ok tabOkUI Try.func38 gam713_ok Try.call38 (by
  intro wk vs args p xs K1 h hv
  split at h
  · simp only [Option.some.injEq, Prod.mk.injEq] at h; obtain ⟨rfl, rfl, rfl⟩ := h; exact fun caps w rw β => zzReset_body w rw β
  · simp at h)

set_option maxHeartbeats 1000000 in
theorem zzSum_body0 (hl0_0 : List.length ([0, 0, 0, 0, 0, 0, 0, 0] : List Int) = (8 : Nat)) (w : World) (rw : List Nat) (β : Env) : Body Try.prog (tabOf tabUI) Try.f33 ⟨w, rw, 1, β⟩ [.o (.a (.p 0 0))] [some ⟨true, [.ints .u64 (8 : Nat) ([0, 0, 0, 0, 0, 0, 0, 0] : List Int), .raw (.slice none 0 0), .i .u64 (0 : Int), .raw (.pointer none)]⟩] (fun ys K' => ys = [.g [.ints .u8 (64 : Nat) ([0, 0, 0, 0, 0, 0, 0, 0, 0, 0, 0, 0, 0, 0, 0, 0, 0, 0, 0, 0, 0, 0, 0, 0, 0, 0, 0, 0, 0, 0, 0, 0, 0, 0, 0, 0, 0, 0, 0, 0, 0, 0, 0, 0, 0, 0, 0, 0, 0, 0, 0, 0, 0, 0, 0, 0, 0, 0, 0, 0, 0, 0, 0, 0] : List Int)]] ∧ K' = [some ⟨true, [.ints .u64 (8 : Nat) ([0, 0, 0, 0, 0, 0, 0, 0] : List Int), .raw (.slice none 0 0), .i .u64 (0 : Int), .raw (.pointer none)]⟩]) :=
  Body.of_finK (Γ := gam714) (Λ := noLam) (Ψ := noPsi) (fuel := 0) (m := 64) (c := (Try.f33.body.getD .skip)) mix tabOkUI gam714_ok rfl (rs := [.cell 2 42]) rfl rfl [true] [] 1
    (vc := [(true = true), ((True ∧ True) ∧ True)]) (by kernel_rfl)
    (aC rfl (aC ⟨⟨trivial, trivial⟩, trivial⟩ (AllP_nil)))

theorem zzSum_body (w : World) (rw : List Nat) (β : Env) : Body Try.prog (tabOf tabUI) Try.f33 ⟨w, rw, 1, β⟩ [.o (.a (.p 0 0))] [some ⟨true, [.ints .u64 (8 : Nat) ([0, 0, 0, 0, 0, 0, 0, 0] : List Int), .raw (.slice none 0 0), .i .u64 (0 : Int), .raw (.pointer none)]⟩] (fun ys K' => ys = [.g [.ints .u8 (64 : Nat) ([0, 0, 0, 0, 0, 0, 0, 0, 0, 0, 0, 0, 0, 0, 0, 0, 0, 0, 0, 0, 0, 0, 0, 0, 0, 0, 0, 0, 0, 0, 0, 0, 0, 0, 0, 0, 0, 0, 0, 0, 0, 0, 0, 0, 0, 0, 0, 0, 0, 0, 0, 0, 0, 0, 0, 0, 0, 0, 0, 0, 0, 0, 0, 0] : List Int)]] ∧ K' = [some ⟨true, [.ints .u64 (8 : Nat) ([0, 0, 0, 0, 0, 0, 0, 0] : List Int), .raw (.slice none 0 0), .i .u64 (0 : Int), .raw (.pointer none)]⟩]) :=
  Body.lens (c := (Try.f33.body.getD .skip)) rfl fun h => zzSum_body0 (h.lens 0 _ .u64 (8 : Nat) ([0, 0, 0, 0, 0, 0, 0, 0] : List Int) rfl (by simp)) w rw β

noncomputable def gam715 : Gam := gcall 33 [true] [.w] (fun wk vs args => match wk, vs, args with | [⟨true, [.ints .u64 (8 : Nat) ([0, 0, 0, 0, 0, 0, 0, 0] : List Int), .raw (.slice none 0 0), .i .u64 (0 : Int), .raw (.pointer none)]⟩], [], [.o (.a (.p 0 0))] => some (True, [.g [.ints .u8 (64 : Nat) ([0, 0, 0, 0, 0, 0, 0, 0, 0, 0, 0, 0, 0, 0, 0, 0, 0, 0, 0, 0, 0, 0, 0, 0, 0, 0, 0, 0, 0, 0, 0, 0, 0, 0, 0, 0, 0, 0, 0, 0, 0, 0, 0, 0, 0, 0, 0, 0, 0, 0, 0, 0, 0, 0, 0, 0, 0, 0, 0, 0, 0, 0, 0, 0] : List Int)]], [some ⟨true, [.ints .u64 (8 : Nat) ([0, 0, 0, 0, 0, 0, 0, 0] : List Int), .raw (.slice none 0 0), .i .u64 (0 : Int), .raw (.pointer none)]⟩]) | _, _, _ => none) gam714
theorem gam715_ok : GamOk Try.prog gam715 := gcall_ok tabOkUI Try.func33 gam714_ok Try.call33 (by
  intro wk vs args p xs K1 h hv
  split at h
  · simp only [Option.some.injEq, Prod.mk.injEq] at h; obtain ⟨rfl, rfl, rfl⟩ := h; exact fun caps w rw β => zzSum_body w rw β
  · simp at h)

set_option maxHeartbeats 1000000 in
theorem zzLen_body0 (hl0_0 : List.length ([0, 0, 0, 0, 0, 0, 0, 0] : List Int) = (8 : Nat)) (w : World) (rw : List Nat) (β : Env) : Body Try.prog (tabOf tabUI) Try.f36 ⟨w, rw, 1, β⟩ [.o (.a (.p 0 0))] [some ⟨true, [.ints .u64 (8 : Nat) ([0, 0, 0, 0, 0, 0, 0, 0] : List Int), .raw (.slice none 0 0), .i .u64 (0 : Int), .raw (.pointer none)]⟩] (fun ys K' => ys = [.a (.i .u64 (0 : Int))] ∧ K' = [some ⟨true, [.ints .u64 (8 : Nat) ([0, 0, 0, 0, 0, 0, 0, 0] : List Int), .raw (.slice none 0 0), .i .u64 (0 : Int), .raw (.pointer none)]⟩]) :=
  Body.of_finK (Γ := gam715) (Λ := noLam) (Ψ := noPsi) (fuel := 0) (m := 10) (c := (Try.f36.body.getD .skip)) mix tabOkUI gam715_ok rfl (rs := [.tmp 2]) rfl rfl [true] [] 1
    (vc := [(true = true), ((True ∧ True) ∧ True)]) (by kernel_rfl)
    (aC rfl (aC ⟨⟨trivial, trivial⟩, trivial⟩ (AllP_nil)))

theorem zzLen_body (w : World) (rw : List Nat) (β : Env) : Body Try.prog (tabOf tabUI) Try.f36 ⟨w, rw, 1, β⟩ [.o (.a (.p 0 0))] [some ⟨true, [.ints .u64 (8 : Nat) ([0, 0, 0, 0, 0, 0, 0, 0] : List Int), .raw (.slice none 0 0), .i .u64 (0 : Int), .raw (.pointer none)]⟩] (fun ys K' => ys = [.a (.i .u64 (0 : Int))] ∧ K' = [some ⟨true, [.ints .u64 (8 : Nat) ([0, 0, 0, 0, 0, 0, 0, 0] : List Int), .raw (.slice none 0 0), .i .u64 (0 : Int), .raw (.pointer none)]⟩]) :=
  Body.lens (c := (Try.f36.body.getD .skip)) rfl fun h => zzLen_body0 (h.lens 0 _ .u64 (8 : Nat) ([0, 0, 0, 0, 0, 0, 0, 0] : List Int) rfl (by simp)) w rw β

noncomputable def gam716 : Gam := gcall 36 [true] [.w] (fun wk vs args => match wk, vs, args with | [⟨true, [.ints .u64 (8 : Nat) ([0, 0, 0, 0, 0, 0, 0, 0] : List Int), .raw (.slice none 0 0), .i .u64 (0 : Int), .raw (.pointer none)]⟩], [], [.o (.a (.p 0 0))] => some (True, [.a (.i .u64 (0 : Int))], [some ⟨true, [.ints .u64 (8 : Nat) ([0, 0, 0, 0, 0, 0, 0, 0] : List Int), .raw (.slice none 0 0), .i .u64 (0 : Int), .raw (.pointer none)]⟩]) | _, _, _ => none) gam715
theorem gam716_ok : GamOk Try.prog gam716 := gcall_ok tabOkUI Try.func36 gam715_ok Try.call36 (by
  intro wk vs args p xs K1 h hv
  split at h
  · simp only [Option.some.injEq, Prod.mk.injEq] at h; obtain ⟨rfl, rfl, rfl⟩ := h; exact fun caps w rw β => zzLen_body w rw β
  · simp at h)

set_option maxHeartbeats 1000000 in
theorem zzState_body0 (hl0_0 : List.length ([0, 0, 0, 0, 0, 0, 0, 0] : List Int) = (8 : Nat)) (w : World) (rw : List Nat) (β : Env) : Body Try.prog (tabOf tabUI) Try.f30 ⟨w, rw, 1, β⟩ [.o (.a (.p 0 0))] [some ⟨true, [.ints .u64 (8 : Nat) ([0, 0, 0, 0, 0, 0, 0, 0] : List Int), .raw (.slice none 0 0), .i .u64 (0 : Int), .raw (.pointer none)]⟩] (fun ys K' => ys = [.g [.ints .u64 (8 : Nat) ([0, 0, 0, 0, 0, 0, 0, 0] : List Int), .raw (.slice none 0 0), .i .u64 (0 : Int)]] ∧ K' = [some ⟨true, [.ints .u64 (8 : Nat) ([0, 0, 0, 0, 0, 0, 0, 0] : List Int), .raw (.slice none 0 0), .i .u64 (0 : Int), .raw (.pointer none)]⟩]) :=
  Body.of_finK (Γ := gam716) (Λ := noLam) (Ψ := noPsi) (fuel := 0) (m := 21) (c := (Try.f30.body.getD .skip)) mix tabOkUI gam716_ok rfl (rs := [.cell 2 69]) rfl rfl [true] [] 1
    (vc := [(true = true), ((True ∧ True) ∧ True)]) (by kernel_rfl)
    (aC rfl (aC ⟨⟨trivial, trivial⟩, trivial⟩ (AllP_nil)))

theorem zzState_body (w : World) (rw : List Nat) (β : Env) : Body Try.prog (tabOf tabUI) Try.f30 ⟨w, rw, 1, β⟩ [.o (.a (.p 0 0))] [some ⟨true, [.ints .u64 (8 : Nat) ([0, 0, 0, 0, 0, 0, 0, 0] : List Int), .raw (.slice none 0 0), .i .u64 (0 : Int), .raw (.pointer none)]⟩] (fun ys K' => ys = [.g [.ints .u64 (8 : Nat) ([0, 0, 0, 0, 0, 0, 0, 0] : List Int), .raw (.slice none 0 0), .i .u64 (0 : Int)]] ∧ K' = [some ⟨true, [.ints .u64 (8 : Nat) ([0, 0, 0, 0, 0, 0, 0, 0] : List Int), .raw (.slice none 0 0), .i .u64 (0 : Int), .raw (.pointer none)]⟩]) :=
  Body.lens (c := (Try.f30.body.getD .skip)) rfl fun h => zzState_body0 (h.lens 0 _ .u64 (8 : Nat) ([0, 0, 0, 0, 0, 0, 0, 0] : List Int) rfl (by simp)) w rw β

noncomputable def gam717 : Gam := gcall 30 [true] [.w] (fun wk vs args => match wk, vs, args with | [⟨true, [.ints .u64 (8 : Nat) ([0, 0, 0, 0, 0, 0, 0, 0] : List Int), .raw (.slice none 0 0), .i .u64 (0 : Int), .raw (.pointer none)]⟩], [], [.o (.a (.p 0 0))] => some (True, [.g [.ints .u64 (8 : Nat) ([0, 0, 0, 0, 0, 0, 0, 0] : List Int), .raw (.slice none 0 0), .i .u64 (0 : Int)]], [some ⟨true, [.ints .u64 (8 : Nat) ([0, 0, 0, 0, 0, 0, 0, 0] : List Int), .raw (.slice none 0 0), .i .u64 (0 : Int), .raw (.pointer none)]⟩]) | _, _, _ => none) gam716
theorem gam717_ok : GamOk Try.prog gam717 := gcall_ok tabOkUI Try.func30 gam716_ok Try.call30 (by
  intro wk vs args p xs K1 h hv
  split at h
  · simp only [Option.some.injEq, Prod.mk.injEq] at h; obtain ⟨rfl, rfl, rfl⟩ := h; exact fun caps w rw β => zzState_body w rw β
  · simp at h)

set_option maxHeartbeats 1000000 in
theorem zzNothing_body0 (n nm : Nat) (b : List Int) (cap1 : Nat) (h0 : (nm = n)) (hc1 : n ≤ cap1) (hl0_0 : List.length ([0, 0, 0, 0, 0, 0, 0, 0] : List Int) = (8 : Nat)) (hl1_0 : List.length b = nm) (w : World) (rw : List Nat) (β : Env) : Body Try.prog (tabOf tabUI) Try.f42 ⟨w, rw, 2, β⟩ [.o (.a (.p 0 0)), .o (.a (.sl 1 0 n cap1))] [some ⟨true, [.ints .u64 (8 : Nat) ([0, 0, 0, 0, 0, 0, 0, 0] : List Int), .raw (.slice none 0 0), .i .u64 (0 : Int), .raw (.pointer none)]⟩, some ⟨false, [.ints .u8 nm b]⟩] (fun ys K' => ys = [.a (.b true)] ∧ K' = [some ⟨true, [.ints .u64 (8 : Nat) ([0, 0, 0, 0, 0, 0, 0, 0] : List Int), .raw (.slice none 0 0), .i .u64 (0 : Int), .raw (.pointer none)]⟩, some ⟨false, [.ints .u8 nm b]⟩]) :=
  Body.of_finK (Γ := gam717) (Λ := noLam) (Ψ := noPsi) (fuel := 0) (m := 28) (c := (Try.f42.body.getD .skip)) mix tabOkUI gam717_ok rfl (rs := [.tmp 4]) rfl rfl [true, true, true, true, true, true, true, true, true] [] 2
    (vc := [(true = true), ((True ∧ (True ∧ True)) ∧ True), (true = true), (true = true), ((True ∧ True) ∧ True), (true = true), (true = true), (true = true), (true = true), ((True ∧ True) ∧ True), (true = true), (true = true), ((True ∧ True) ∧ True), ((True ∧ ((((0 : Nat) + n) ≤ nm) ∧ True)) ∧ (n = n)), ((True ∧ True) ∧ True), ((True ∧ ((((0 : Nat) + n) ≤ nm) ∧ True)) ∧ (n = n))]) (by kernel_rfl)
    (aC rfl (aC ⟨⟨trivial, ⟨trivial, trivial⟩⟩, trivial⟩ (aC rfl (aC rfl (aC ⟨⟨trivial, trivial⟩, trivial⟩ (aC rfl (aC rfl (aC rfl (aC rfl (aC ⟨⟨trivial, trivial⟩, trivial⟩ (aC rfl (aC rfl (aC ⟨⟨trivial, trivial⟩, trivial⟩ (aC ⟨⟨trivial, ⟨(by first | omega | (simp (disch := omega) only [wrapI]; omega)), trivial⟩⟩, rfl⟩ (aC ⟨⟨trivial, trivial⟩, trivial⟩ (aC ⟨⟨trivial, ⟨(by first | omega | (simp (disch := omega) only [wrapI]; omega)), trivial⟩⟩, rfl⟩ (AllP_nil)))))))))))))))))

theorem zzNothing_body (n nm : Nat) (b : List Int) (cap1 : Nat) (h0 : (nm = n)) (w : World) (rw : List Nat) (β : Env) : Body Try.prog (tabOf tabUI) Try.f42 ⟨w, rw, 2, β⟩ [.o (.a (.p 0 0)), .o (.a (.sl 1 0 n cap1))] [some ⟨true, [.ints .u64 (8 : Nat) ([0, 0, 0, 0, 0, 0, 0, 0] : List Int), .raw (.slice none 0 0), .i .u64 (0 : Int), .raw (.pointer none)]⟩, some ⟨false, [.ints .u8 nm b]⟩] (fun ys K' => ys = [.a (.b true)] ∧ K' = [some ⟨true, [.ints .u64 (8 : Nat) ([0, 0, 0, 0, 0, 0, 0, 0] : List Int), .raw (.slice none 0 0), .i .u64 (0 : Int), .raw (.pointer none)]⟩, some ⟨false, [.ints .u8 nm b]⟩]) :=
  Body.lens (c := (Try.f42.body.getD .skip)) rfl fun h => zzNothing_body0 n nm b cap1 h0 (h.caps 1 _ _ _ _ rfl) (h.lens 0 _ .u64 (8 : Nat) ([0, 0, 0, 0, 0, 0, 0, 0] : List Int) rfl (by simp)) (h.lens 1 _ .u8 nm b rfl (by simp)) w rw β

end Go.Proofs.Ytepimglipelpmaa.X

/- Printed by a tool of this session. -/
namespace Go.Proofs.Ytepimglipelpmaa.X
open Go Go.Proofs
set_option linter.unusedVariables false
set_option linter.unusedSimpArgs false
set_option maxRecDepth 100000
theorem teUF_5 : TEOk Try.prog 5 ⟨.int .u8, 1, 1, [.i .u8 (0 : Int)], false⟩ :=
  TEOk.of Try.underlying5 (i := Try.t5) (by kernel_rfl) rfl rfl rfl (by kernel_rfl) (fun h => by cases h) (by kernel_rfl)
theorem teUF_22 : TEOk Try.prog 22 ⟨.slice 5, 1, 24, [.raw (.slice none 0 0)], false⟩ :=
  TEOk.of Try.underlying22 (i := Try.t22) (by kernel_rfl) rfl rfl rfl (by kernel_rfl) (fun h => by cases h) (by kernel_rfl)
theorem teUF_42 : TEOk Try.prog 42 ⟨.array 64 5, 64, 64, [.ints .u8 (64 : Nat) ([0, 0, 0, 0, 0, 0, 0, 0, 0, 0, 0, 0, 0, 0, 0, 0, 0, 0, 0, 0, 0, 0, 0, 0, 0, 0, 0, 0, 0, 0, 0, 0, 0, 0, 0, 0, 0, 0, 0, 0, 0, 0, 0, 0, 0, 0, 0, 0, 0, 0, 0, 0, 0, 0, 0, 0, 0, 0, 0, 0, 0, 0, 0, 0] : List Int)], true⟩ :=
  TEOk.of Try.underlying42 (i := Try.t42) (by kernel_rfl) rfl rfl rfl (by kernel_rfl) (fun _ => Try.eqGuardType42) (by kernel_rfl)
noncomputable def tabUF : List (Nat × TE) := [(5, ⟨.int .u8, 1, 1, [.i .u8 (0 : Int)], false⟩), (22, ⟨.slice 5, 1, 24, [.raw (.slice none 0 0)], false⟩), (42, ⟨.array 64 5, 64, 64, [.ints .u8 (64 : Nat) ([0, 0, 0, 0, 0, 0, 0, 0, 0, 0, 0, 0, 0, 0, 0, 0, 0, 0, 0, 0, 0, 0, 0, 0, 0, 0, 0, 0, 0, 0, 0, 0, 0, 0, 0, 0, 0, 0, 0, 0, 0, 0, 0, 0, 0, 0, 0, 0, 0, 0, 0, 0, 0, 0, 0, 0, 0, 0, 0, 0, 0, 0, 0, 0] : List Int)], true⟩)]
theorem tabOkUF : TabOk Try.prog (tabOf tabUF) := (tabOf_cons teUF_5 (tabOf_cons teUF_22 (tabOf_cons teUF_42 tabOf_nil)))

set_option maxHeartbeats 1000000 in
theorem alive_body0 (w : World) (rw : List Nat) (β : Env) : Body Try.prog (tabOf tabUF) Try.f18 ⟨w, rw, 0, β⟩ [] [] (fun ys K' => ys = [.a (.b true)] ∧ K' = []) :=
  Body.of_finK (Γ := gam17) (Λ := noLam) (Ψ := noPsi) (fuel := 0) (m := 28) (c := (Try.f18.body.getD .skip)) mix tabOkUF gam17_ok rfl (rs := [.tmp 0]) rfl rfl [true, true, true, true, true, true, true, true, true, true, true, true, true, true, true, true] [.eqS 0 (.o (.a (.b true)))] 0
    (vc := [((.o (.a (.b ((List.getD (sub (join1 (3 : Nat) ([97, 98, 99] : List Int)) (63 : Nat) (1 : Nat)) (0 : Nat) 0) == (159 : Int)))) : AV) = .o (.a (.b true))), (((List.getD (sub (join1 (3 : Nat) ([97, 98, 99] : List Int)) (7 : Nat) (1 : Nat)) (0 : Nat) 0) == (186 : Int)) = true), (((List.getD (sub (join1 (3 : Nat) ([97, 98, 99] : List Int)) (7 : Nat) (1 : Nat)) (0 : Nat) 0) == (186 : Int)) = true), (((List.getD (sub (join1 (3 : Nat) ([97, 98, 99] : List Int)) (7 : Nat) (1 : Nat)) (0 : Nat) 0) == (186 : Int)) = true), (((List.getD (sub (join1 (3 : Nat) ([97, 98, 99] : List Int)) (7 : Nat) (1 : Nat)) (0 : Nat) 0) == (186 : Int)) = true), (((List.getD (sub (join1 (3 : Nat) ([97, 98, 99] : List Int)) (2 : Nat) (1 : Nat)) (0 : Nat) 0) == (53 : Int)) = true), (((List.getD (sub (join1 (3 : Nat) ([97, 98, 99] : List Int)) (2 : Nat) (1 : Nat)) (0 : Nat) 0) == (53 : Int)) = true), (((List.getD (sub (join1 (3 : Nat) ([97, 98, 99] : List Int)) (2 : Nat) (1 : Nat)) (0 : Nat) 0) == (53 : Int)) = true), (((List.getD (sub (join1 (3 : Nat) ([97, 98, 99] : List Int)) (2 : Nat) (1 : Nat)) (0 : Nat) 0) == (53 : Int)) = true), (((List.getD (sub (join1 (3 : Nat) ([97, 98, 99] : List Int)) (1 : Nat) (1 : Nat)) (0 : Nat) 0) == (175 : Int)) = true), (((List.getD (sub (join1 (3 : Nat) ([97, 98, 99] : List Int)) (1 : Nat) (1 : Nat)) (0 : Nat) 0) == (175 : Int)) = true), (((List.getD (sub (join1 (3 : Nat) ([97, 98, 99] : List Int)) (1 : Nat) (1 : Nat)) (0 : Nat) 0) == (175 : Int)) = true), (((List.getD (sub (join1 (3 : Nat) ([97, 98, 99] : List Int)) (1 : Nat) (1 : Nat)) (0 : Nat) 0) == (175 : Int)) = true), (((List.getD (sub (join1 (3 : Nat) ([97, 98, 99] : List Int)) (0 : Nat) (1 : Nat)) (0 : Nat) 0) == (221 : Int)) = true), (((List.getD (sub (join1 (3 : Nat) ([97, 98, 99] : List Int)) (0 : Nat) (1 : Nat)) (0 : Nat) 0) == (221 : Int)) = true), (((List.getD (sub (join1 (3 : Nat) ([97, 98, 99] : List Int)) (0 : Nat) (1 : Nat)) (0 : Nat) 0) == (221 : Int)) = true), (((List.getD (sub (join1 (3 : Nat) ([97, 98, 99] : List Int)) (0 : Nat) (1 : Nat)) (0 : Nat) 0) == (221 : Int)) = true), ((((3 : Nat) ≤ (3 : Nat)) ∧ True) ∧ (((3 : Nat) = (3 : Nat)) ∧ ((3 : Nat) < (140737488355328 : Nat)))), ((0 : Nat) < (3 : Nat))]) (by kernel_rfl)
    (aC ((by kernel_rfl)) (aC (by kernel_rfl) (aC (by kernel_rfl) (aC (by kernel_rfl) (aC (by kernel_rfl) (aC (by kernel_rfl) (aC (by kernel_rfl) (aC (by kernel_rfl) (aC (by kernel_rfl) (aC (by kernel_rfl) (aC (by kernel_rfl) (aC (by kernel_rfl) (aC (by kernel_rfl) (aC (by kernel_rfl) (aC (by kernel_rfl) (aC (by kernel_rfl) (aC (by kernel_rfl) (aC ⟨⟨(by decide), trivial⟩, ⟨rfl, (by decide)⟩⟩ (aC (by decide) (AllP_nil))))))))))))))))))))

end Go.Proofs.Ytepimglipelpmaa.X

/- Printed by a tool of this session. -/
namespace Go.Proofs.Ytepimglipelpmaa.X
open Go Go.Proofs
set_option linter.unusedVariables false
set_option linter.unusedSimpArgs false
set_option maxRecDepth 100000
theorem teUJ_3 : TEOk Try.prog 3 ⟨.int .i64, 1, 8, [.i .i64 (0 : Int)], false⟩ :=
  TEOk.of Try.underlying3 (i := Try.t3) (by kernel_rfl) rfl rfl rfl (by kernel_rfl) (fun h => by cases h) (by kernel_rfl)
theorem teUJ_5 : TEOk Try.prog 5 ⟨.int .u8, 1, 1, [.i .u8 (0 : Int)], false⟩ :=
  TEOk.of Try.underlying5 (i := Try.t5) (by kernel_rfl) rfl rfl rfl (by kernel_rfl) (fun h => by cases h) (by kernel_rfl)
theorem teUJ_22 : TEOk Try.prog 22 ⟨.slice 5, 1, 24, [.raw (.slice none 0 0)], false⟩ :=
  TEOk.of Try.underlying22 (i := Try.t22) (by kernel_rfl) rfl rfl rfl (by kernel_rfl) (fun h => by cases h) (by kernel_rfl)
theorem teUJ_52 : TEOk Try.prog 52 ⟨.int .u64, 1, 8, [.i .u64 (0 : Int)], false⟩ :=
  TEOk.of Try.underlying52 (i := Try.t52) (by kernel_rfl) rfl rfl rfl (by kernel_rfl) (fun h => by cases h) (by kernel_rfl)
theorem teUJ_53 : TEOk Try.prog 53 ⟨.array 8 52, 8, 64, [.ints .u64 (8 : Nat) ([0, 0, 0, 0, 0, 0, 0, 0] : List Int)], true⟩ :=
  TEOk.of Try.underlying53 (i := Try.t53) (by kernel_rfl) rfl rfl rfl (by kernel_rfl) (fun _ => Try.eqGuardType53) (by kernel_rfl)
theorem teUJ_69 : TEOk Try.prog 69 ⟨Try.t68.desc, 10, 96, [.ints .u64 (8 : Nat) ([0, 0, 0, 0, 0, 0, 0, 0] : List Int), .raw (.slice none 0 0), .i .u64 (0 : Int)], false⟩ :=
  TEOk.of Try.underlying69 (i := Try.t69) (by kernel_rfl) rfl rfl rfl (by kernel_rfl) (fun h => by cases h) (by kernel_rfl)
theorem teUJ_102 : TEOk Try.prog 102 ⟨Try.t101.desc, 11, 104, [.ints .u64 (8 : Nat) ([0, 0, 0, 0, 0, 0, 0, 0] : List Int), .raw (.slice none 0 0), .i .u64 (0 : Int), .raw (.pointer none)], false⟩ :=
  TEOk.of Try.underlying102 (i := Try.t102) (by kernel_rfl) rfl rfl rfl (by kernel_rfl) (fun h => by cases h) (by kernel_rfl)
noncomputable def tabUJ : List (Nat × TE) := [(3, ⟨.int .i64, 1, 8, [.i .i64 (0 : Int)], false⟩), (5, ⟨.int .u8, 1, 1, [.i .u8 (0 : Int)], false⟩), (22, ⟨.slice 5, 1, 24, [.raw (.slice none 0 0)], false⟩), (52, ⟨.int .u64, 1, 8, [.i .u64 (0 : Int)], false⟩), (53, ⟨.array 8 52, 8, 64, [.ints .u64 (8 : Nat) ([0, 0, 0, 0, 0, 0, 0, 0] : List Int)], true⟩), (69, ⟨Try.t68.desc, 10, 96, [.ints .u64 (8 : Nat) ([0, 0, 0, 0, 0, 0, 0, 0] : List Int), .raw (.slice none 0 0), .i .u64 (0 : Int)], false⟩), (102, ⟨Try.t101.desc, 11, 104, [.ints .u64 (8 : Nat) ([0, 0, 0, 0, 0, 0, 0, 0] : List Int), .raw (.slice none 0 0), .i .u64 (0 : Int), .raw (.pointer none)], false⟩)]
theorem tabOkUJ : TabOk Try.prog (tabOf tabUJ) := (tabOf_cons teUJ_3 (tabOf_cons teUJ_5 (tabOf_cons teUJ_22 (tabOf_cons teUJ_52 (tabOf_cons teUJ_53 (tabOf_cons teUJ_69 (tabOf_cons teUJ_102 tabOf_nil)))))))

def state (tl : Nat) (L : List Int) : List Int :=
  (sub L 0 tl)

set_option maxHeartbeats 1000000 in
theorem state_body0 (S : List Int) (tl : Nat) (N : Int) (L C : List Int) (h0 : (tl < (128 : Nat))) (hl0_0 : List.length S = (8 : Nat)) (hl1_0 : List.length L = tl) (hl2_0 : List.length C = (80 : Nat)) (w : World) (rw : List Nat) (β : Env) : Body Try.prog (tabOf tabUJ) Try.f30 ⟨w, rw, 3, β⟩ [.o (.a (.p 0 0))] [some ⟨false, [.ints .u64 (8 : Nat) S, .rs 1 0 tl 1, .i .u64 N, .p 2 0]⟩, some ⟨false, [.ints .u8 tl L]⟩, some ⟨false, [.ints .u64 (80 : Nat) C]⟩] (fun ys K' => ys = [.g [.ints .u64 (8 : Nat) S, .rs 3 0 tl 1, .i .u64 N]] ∧ K' = [some ⟨false, [.ints .u64 (8 : Nat) S, .rs 1 0 tl 1, .i .u64 N, .p 2 0]⟩, some ⟨false, [.ints .u8 tl L]⟩, some ⟨false, [.ints .u64 (80 : Nat) C]⟩, some ⟨true, [.ints .u8 tl (state tl L)]⟩]) :=
  Body.of_finK (Γ := gam19) (Λ := noLam) (Ψ := noPsi) (fuel := 0) (m := 21) (c := (Try.f30.body.getD .skip)) mix tabOkUJ gam19_ok rfl (rs := [.cell 2 69]) rfl rfl [false, false] [.swap 3 4] 4
    (vc := [(((tl ≤ tl) ∧ (((0 : Nat) + tl) ≤ tl)) ∧ ((tl * (1 : Nat)) ≤ (140737488355328 : Nat))), (false = false), ((True ∧ True) ∧ (tl = tl))]) (by kernel_rfl)
    (aC ⟨⟨(by first | omega | (simp (disch := omega) only [wrapI]; omega)), (by first | omega | (simp (disch := omega) only [wrapI]; omega))⟩, (by first | omega | (simp (disch := omega) only [wrapI]; omega))⟩ (aC rfl (aC ⟨⟨trivial, trivial⟩, rfl⟩ (AllP_nil))))

theorem state_body (S : List Int) (tl : Nat) (N : Int) (L C : List Int) (h0 : (tl < (128 : Nat))) (w : World) (rw : List Nat) (β : Env) : Body Try.prog (tabOf tabUJ) Try.f30 ⟨w, rw, 3, β⟩ [.o (.a (.p 0 0))] [some ⟨false, [.ints .u64 (8 : Nat) S, .rs 1 0 tl 1, .i .u64 N, .p 2 0]⟩, some ⟨false, [.ints .u8 tl L]⟩, some ⟨false, [.ints .u64 (80 : Nat) C]⟩] (fun ys K' => ys = [.g [.ints .u64 (8 : Nat) S, .rs 3 0 tl 1, .i .u64 N]] ∧ K' = [some ⟨false, [.ints .u64 (8 : Nat) S, .rs 1 0 tl 1, .i .u64 N, .p 2 0]⟩, some ⟨false, [.ints .u8 tl L]⟩, some ⟨false, [.ints .u64 (80 : Nat) C]⟩, some ⟨true, [.ints .u8 tl (state tl L)]⟩]) :=
  Body.lens (c := (Try.f30.body.getD .skip)) rfl fun h => state_body0 S tl N L C h0 (h.lens 0 _ .u64 (8 : Nat) S rfl (by simp)) (h.lens 1 _ .u8 tl L rfl (by simp)) (h.lens 2 _ .u64 (80 : Nat) C rfl (by simp)) w rw β

theorem state_h (D : List Int) : state (hT D) (hL D) = hL D := sub_all _ _ (Nat.le_of_eq (hL_len D))

set_option maxHeartbeats 1000000 in
theorem padX_body0 (n : Int) (h0 : ((0 : Int) ≤ n)) (h1 : (n < (2305843009213693952 : Int))) (w : World) (rw : List Nat) (β : Env) : Body Try.prog (tabOf tabUJ) Try.f21 ⟨w, rw, 0, β⟩ [.o (.a (.i .u64 n))] [] (fun ys K' => ys = [.a (.sl 0 0 (pad n) (256 : Nat)), .a (.i .i64 (0 : Int))] ∧ K' = [some ⟨true, [.ints .u8 (256 : Nat) (pad_1 n)]⟩]) :=
  Body.of_finK (Γ := gam19) (Λ := noLam) (Ψ := noPsi) (fuel := 0) (m := 9) (c := (Try.f21.body.getD .skip)) mix tabOkUJ gam19_ok rfl (rs := [.tmp 2, .tmp 3]) rfl rfl [false] [] 1
    (vc := [((True ∧ True) ∧ True), ((decide ((shr .u64 n (61 : Int)) > (0 : Int))) = false), ((0 : Int) ≤ (61 : Int))]) (by kernel_rfl)
    (aC ⟨⟨trivial, trivial⟩, trivial⟩ (aC (decide_eq_false (by have := shr61 h0 h1; omega)) (aC (by decide) (AllP_nil))))

theorem padX_body (n : Int) (h0 : ((0 : Int) ≤ n)) (h1 : (n < (2305843009213693952 : Int))) (w : World) (rw : List Nat) (β : Env) : Body Try.prog (tabOf tabUJ) Try.f21 ⟨w, rw, 0, β⟩ [.o (.a (.i .u64 n))] [] (fun ys K' => ys = [.a (.sl 0 0 (pad n) (256 : Nat)), .a (.i .i64 (0 : Int))] ∧ K' = [some ⟨true, [.ints .u8 (256 : Nat) (pad_1 n)]⟩]) :=
  Body.lens (c := (Try.f21.body.getD .skip)) rfl fun h => padX_body0 n h0 h1  w rw β

set_option maxHeartbeats 1000000 in
theorem resR_body0 (n : Nat) (b S : List Int) (N : Int) (h0 : ((0 : Int) ≤ N)) (h1 : (N < (2305843009213693952 : Int))) (h2 : (n < (70368744177664 : Nat))) (h3 : ((Int.tmod N (128 : Int)) = ((n : Nat) : Int))) (hl0_0 : List.length b = n) (w : World) (rw : List Nat) (β : Env) : Body Try.prog (tabOf tabUJ) Try.f27 ⟨w, rw, 1, β⟩ [.o (.g [.ints .u64 (8 : Nat) S, .rs 0 0 n 1, .i .u64 N])] [some ⟨false, [.ints .u8 n b]⟩] (fun ys K' => ys = [.a (.p 1 0), .a (.i .i64 (0 : Int))] ∧ K' = [some ⟨false, [.ints .u8 n b]⟩, some ⟨true, [.ints .u64 (8 : Nat) S, .rs 2 0 n 1, .i .u64 N, .p 3 0]⟩, some ⟨true, [.ints .u8 n b]⟩, some ⟨true, [.ints .u64 (80 : Nat) (konst)]⟩]) :=
  Body.of_finK (Γ := gam19) (Λ := noLam) (Ψ := noPsi) (fuel := 0) (m := 41) (c := (Try.f27.body.getD .skip)) mix tabOkUJ gam19_ok rfl (rs := [.tmp 2, .tmp 3]) rfl rfl [true, true, true, true, true, true, true, true, false, false, false] [.swap 1 3, .swap 2 5, .swap 3 5, .eqB 1 (⟨true, [.ints .u64 (8 : Nat) S, .rs 2 0 n 1, .i .u64 N, .p 3 0]⟩), .eqB 2 (⟨true, [.ints .u8 n b]⟩)] 4
    (vc := [((some ⟨true, [.ints .u8 ((0 : Nat) + n) (([] : List Int) ++ (sub b 0 n))]⟩ : Option Blk) = some ⟨true, [.ints .u8 n b]⟩), ((some ⟨true, [.ints .u64 (8 : Nat) S, .rs 2 0 ((0 : Nat) + n) 1, .i .u64 N, .p 3 0]⟩ : Option Blk) = some ⟨true, [.ints .u64 (8 : Nat) S, .rs 2 0 n 1, .i .u64 N, .p 3 0]⟩), (((0 : Nat) ≤ (0 : Nat)) ∧ ((n ≤ n) ∧ (((0 : Nat) + n) ≤ n)) ∧ ((((0 : Nat) + n) * (1 : Nat)) ≤ (140737488355328 : Nat))), (True ∧ True), (((IntKind.u64.wrap ((n : Nat) : Int)) != (Int.tmod N (128 : Int))) = false), ((decide ((shr .u64 N (61 : Int)) > (0 : Int))) = false), ((decide ((shr .u64 N (61 : Int)) > (0 : Int))) = false), ((128 : Int) ≠ 0), ((decide ((shr .u64 N (61 : Int)) > (0 : Int))) = false), ((decide ((shr .u64 N (61 : Int)) > (0 : Int))) = false), ((decide ((shr .u64 N (61 : Int)) > (0 : Int))) = false), ((decide ((shr .u64 N (61 : Int)) > (0 : Int))) = false), ((decide ((shr .u64 N (61 : Int)) > (0 : Int))) = false), ((decide ((shr .u64 N (61 : Int)) > (0 : Int))) = false), ((decide ((shr .u64 N (61 : Int)) > (0 : Int))) = false), ((0 : Int) ≤ (61 : Int))]) (by kernel_rfl)
    (aC ((by rw [sub_all b n (Nat.le_of_eq hl0_0)]; simp)) (aC ((by simp)) (aC ⟨(by decide), ⟨(by first | omega | (have := shr61 h0 h1; omega) | (simp (disch := omega) only [wrapU]; omega) | (have := shr61_pos h0; omega)), (by first | omega | (have := shr61 h0 h1; omega) | (simp (disch := omega) only [wrapU]; omega) | (have := shr61_pos h0; omega))⟩, (by first | omega | (have := shr61 h0 h1; omega) | (simp (disch := omega) only [wrapU]; omega) | (have := shr61_pos h0; omega))⟩ (aC ⟨trivial, trivial⟩ (aC (bne_eq_false_iff_eq.2 (by first | omega | (have := shr61 h0 h1; omega) | (simp (disch := omega) only [wrapU]; omega) | (have := shr61_pos h0; omega))) (aC (decide_eq_false (by first | omega | (have := shr61 h0 h1; omega) | (simp (disch := omega) only [wrapU]; omega) | (have := shr61_pos h0; omega))) (aC (decide_eq_false (by first | omega | (have := shr61 h0 h1; omega) | (simp (disch := omega) only [wrapU]; omega) | (have := shr61_pos h0; omega))) (aC (by decide) (aC (decide_eq_false (by first | omega | (have := shr61 h0 h1; omega) | (simp (disch := omega) only [wrapU]; omega) | (have := shr61_pos h0; omega))) (aC (decide_eq_false (by first | omega | (have := shr61 h0 h1; omega) | (simp (disch := omega) only [wrapU]; omega) | (have := shr61_pos h0; omega))) (aC (decide_eq_false (by first | omega | (have := shr61 h0 h1; omega) | (simp (disch := omega) only [wrapU]; omega) | (have := shr61_pos h0; omega))) (aC (decide_eq_false (by first | omega | (have := shr61 h0 h1; omega) | (simp (disch := omega) only [wrapU]; omega) | (have := shr61_pos h0; omega))) (aC (decide_eq_false (by first | omega | (have := shr61 h0 h1; omega) | (simp (disch := omega) only [wrapU]; omega) | (have := shr61_pos h0; omega))) (aC (decide_eq_false (by first | omega | (have := shr61 h0 h1; omega) | (simp (disch := omega) only [wrapU]; omega) | (have := shr61_pos h0; omega))) (aC (decide_eq_false (by first | omega | (have := shr61 h0 h1; omega) | (simp (disch := omega) only [wrapU]; omega) | (have := shr61_pos h0; omega))) (aC (by decide) (AllP_nil)))))))))))))))))

theorem resR_body (n : Nat) (b S : List Int) (N : Int) (h0 : ((0 : Int) ≤ N)) (h1 : (N < (2305843009213693952 : Int))) (h2 : (n < (70368744177664 : Nat))) (h3 : ((Int.tmod N (128 : Int)) = ((n : Nat) : Int))) (w : World) (rw : List Nat) (β : Env) : Body Try.prog (tabOf tabUJ) Try.f27 ⟨w, rw, 1, β⟩ [.o (.g [.ints .u64 (8 : Nat) S, .rs 0 0 n 1, .i .u64 N])] [some ⟨false, [.ints .u8 n b]⟩] (fun ys K' => ys = [.a (.p 1 0), .a (.i .i64 (0 : Int))] ∧ K' = [some ⟨false, [.ints .u8 n b]⟩, some ⟨true, [.ints .u64 (8 : Nat) S, .rs 2 0 n 1, .i .u64 N, .p 3 0]⟩, some ⟨true, [.ints .u8 n b]⟩, some ⟨true, [.ints .u64 (80 : Nat) (konst)]⟩]) :=
  Body.lens (c := (Try.f27.body.getD .skip)) rfl fun h => resR_body0 n b S N h0 h1 h2 h3 (h.lens 0 _ .u8 n b rfl (by simp)) w rw β

end Go.Proofs.Ytepimglipelpmaa.X

