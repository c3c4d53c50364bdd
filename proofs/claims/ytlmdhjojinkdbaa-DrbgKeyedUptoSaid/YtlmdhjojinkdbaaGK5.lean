/- Texts of this session, put together (part 5), less what nothing uses. -/
import Derived.Test.YtlmdhjojinkdbaaGK4
import Derived.KernelRfl
import Derived.WalkKit
import Derived.ProofKit
import Derived.OpenShut
import Derived.JoinedCond
import Derived.Carry
/- Printed by a tool of this session. -/
namespace Go.Proofs.Ytlmdhjojinkdbaa.X
open Go Go.Proofs
set_option linter.unusedVariables false
set_option linter.unusedSimpArgs false
set_option maxRecDepth 100000
theorem teDP_5 : TEOk Try.prog 5 ⟨.int .u8, 1, 1, [.i .u8 (0 : Int)], false⟩ :=
  TEOk.of Try.underlying5 (i := Try.t5) (by kernel_rfl) rfl rfl rfl (by kernel_rfl) (fun h => by cases h) (by kernel_rfl)
theorem teDP_22 : TEOk Try.prog 22 ⟨.slice 5, 1, 24, [.raw (.slice none 0 0)], false⟩ :=
  TEOk.of Try.underlying22 (i := Try.t22) (by kernel_rfl) rfl rfl rfl (by kernel_rfl) (fun h => by cases h) (by kernel_rfl)
theorem teDP_23 : TEOk Try.prog 23 ⟨.slice 22, 1, 24, [.raw (.slice none 0 0)], false⟩ :=
  TEOk.of Try.underlying23 (i := Try.t23) (by kernel_rfl) rfl rfl rfl (by kernel_rfl) (fun h => by cases h) (by kernel_rfl)
theorem teDP_32 : TEOk Try.prog 32 ⟨.array 64 5, 64, 64, [.ints .u8 (64 : Nat) ([0, 0, 0, 0, 0, 0, 0, 0, 0, 0, 0, 0, 0, 0, 0, 0, 0, 0, 0, 0, 0, 0, 0, 0, 0, 0, 0, 0, 0, 0, 0, 0, 0, 0, 0, 0, 0, 0, 0, 0, 0, 0, 0, 0, 0, 0, 0, 0, 0, 0, 0, 0, 0, 0, 0, 0, 0, 0, 0, 0, 0, 0, 0, 0] : List Int)], true⟩ :=
  TEOk.of Try.underlying32 (i := Try.t32) (by kernel_rfl) rfl rfl rfl (by kernel_rfl) (fun _ => Try.eqGuardType32) (by kernel_rfl)
noncomputable def tabDP : List (Nat × TE) := [(5, ⟨.int .u8, 1, 1, [.i .u8 (0 : Int)], false⟩), (22, ⟨.slice 5, 1, 24, [.raw (.slice none 0 0)], false⟩), (23, ⟨.slice 22, 1, 24, [.raw (.slice none 0 0)], false⟩), (32, ⟨.array 64 5, 64, 64, [.ints .u8 (64 : Nat) ([0, 0, 0, 0, 0, 0, 0, 0, 0, 0, 0, 0, 0, 0, 0, 0, 0, 0, 0, 0, 0, 0, 0, 0, 0, 0, 0, 0, 0, 0, 0, 0, 0, 0, 0, 0, 0, 0, 0, 0, 0, 0, 0, 0, 0, 0, 0, 0, 0, 0, 0, 0, 0, 0, 0, 0, 0, 0, 0, 0, 0, 0, 0, 0] : List Int)], true⟩)]
theorem tabOkDP : TabOk Try.prog (tabOf tabDP) := (tabOf_cons teDP_5 (tabOf_cons teDP_22 (tabOf_cons teDP_23 (tabOf_cons teDP_32 tabOf_nil))))

set_option maxHeartbeats 1000000 in
theorem expandN_body0 (kn knm : Nat) (key : List Int) (m mm : Nat) (info : List Int) (N : Int) (cap0 cap1 : Nat) (h0 : (knm = kn)) (h1 : (mm = m)) (h2 : (m < (35184372088832 : Nat))) (h3 : (kn < (35184372088832 : Nat))) (hc0 : kn ≤ cap0) (hc1 : m ≤ cap1) (hl0_0 : List.length key = knm) (hl1_0 : List.length info = mm) (hn : N < 0) (w : World) (rw : List Nat) (β : Env) : Body Try.prog (tabOf tabDP) Try.f10 ⟨w, rw, 2, β⟩ [.o (.a (.sl 0 0 kn cap0)), .o (.a (.sl 1 0 m cap1)), .o (.a (.i .i64 N))] [some ⟨false, [.ints .u8 knm key]⟩, some ⟨false, [.ints .u8 mm info]⟩] (fun ys K' => ys = [.a (.rs 2 0 (exN N) 1), .a (.i .i64 (exE N))] ∧ K' = [some ⟨false, [.ints .u8 knm key]⟩, some ⟨false, [.ints .u8 mm info]⟩, some ⟨true, [.ints .u8 (exM N) (exR key info N)]⟩]) :=
  Body.of_finKAt (Γ := (gmac w rw (gjoin w rw gam17))) (Λ := noLam) (Ψ := noPsi) (fuel := 0) (m := 37) (c := (Try.f10.body.getD .skip)) mix tabOkDP (gmac_ok (gjoin_ok (gam17_ok.at _ _))) rfl (rs := [.tmp 6, .tmp 7]) rfl rfl [true] [.rowS 6 .u8 1, .eqS 6 (.o (.a (.rs 2 0 (exN N) 1))), .eqS 7 (.o (.a (.i .i64 (exE N)))), .eqB 2 (⟨true, [.ints .u8 (exM N) (exR key info N)]⟩)] 3
    (vc := [((some ⟨true, [.ints .u8 (0 : Nat) ([] : List Int)]⟩ : Option Blk) = some ⟨true, [.ints .u8 (exM N) (exR key info N)]⟩), ((.o (.a (.i .i64 (1 : Int))) : AV) = .o (.a (.i .i64 (exE N)))), ((.o (.a (.rs 2 0 (0 : Nat) 1)) : AV) = .o (.a (.rs 2 0 (exN N) 1))), ((decide (N < (0 : Int))) = true)]) (by kernel_rfl)
    (aC ((by unfold exM exR; rw [ex_bad (by omega)]; rfl)) (aC ((congrArg (fun z => AV.o (.a (.i .i64 z))) (by unfold exE; (repeat' split) <;> omega))) (aC ((by unfold exN; rw [ex_bad (by omega)]; rfl)) (aC (decide_eq_true (by first | omega | (simp (disch := omega) only [wrapI]; omega))) (AllP_nil)))))

set_option maxHeartbeats 1000000 in
theorem expandM_body0 (kn knm : Nat) (key : List Int) (m mm : Nat) (info : List Int) (N : Int) (cap0 cap1 : Nat) (h0 : (knm = kn)) (h1 : (mm = m)) (h2 : (m < (35184372088832 : Nat))) (h3 : (kn < (35184372088832 : Nat))) (hc0 : kn ≤ cap0) (hc1 : m ≤ cap1) (hl0_0 : List.length key = knm) (hl1_0 : List.length info = mm) (hn : 16320 < N) (w : World) (rw : List Nat) (β : Env) : Body Try.prog (tabOf tabDP) Try.f10 ⟨w, rw, 2, β⟩ [.o (.a (.sl 0 0 kn cap0)), .o (.a (.sl 1 0 m cap1)), .o (.a (.i .i64 N))] [some ⟨false, [.ints .u8 knm key]⟩, some ⟨false, [.ints .u8 mm info]⟩] (fun ys K' => ys = [.a (.rs 2 0 (exN N) 1), .a (.i .i64 (exE N))] ∧ K' = [some ⟨false, [.ints .u8 knm key]⟩, some ⟨false, [.ints .u8 mm info]⟩, some ⟨true, [.ints .u8 (exM N) (exR key info N)]⟩]) :=
  Body.of_finKAt (Γ := (gmac w rw (gjoin w rw gam17))) (Λ := noLam) (Ψ := noPsi) (fuel := 0) (m := 37) (c := (Try.f10.body.getD .skip)) mix tabOkDP (gmac_ok (gjoin_ok (gam17_ok.at _ _))) rfl (rs := [.tmp 6, .tmp 7]) rfl rfl [false, true] [.rowS 6 .u8 1, .eqS 6 (.o (.a (.rs 2 0 (exN N) 1))), .eqS 7 (.o (.a (.i .i64 (exE N)))), .eqB 2 (⟨true, [.ints .u8 (exM N) (exR key info N)]⟩)] 3
    (vc := [((some ⟨true, [.ints .u8 (0 : Nat) ([] : List Int)]⟩ : Option Blk) = some ⟨true, [.ints .u8 (exM N) (exR key info N)]⟩), ((.o (.a (.i .i64 (113 : Int))) : AV) = .o (.a (.i .i64 (exE N)))), ((.o (.a (.rs 2 0 (0 : Nat) 1)) : AV) = .o (.a (.rs 2 0 (exN N) 1))), ((decide (N > (16320 : Int))) = true), ((decide (N < (0 : Int))) = false)]) (by kernel_rfl)
    (aC ((by unfold exM exR; rw [ex_bad (by omega)]; rfl)) (aC ((congrArg (fun z => AV.o (.a (.i .i64 z))) (by unfold exE; (repeat' split) <;> omega))) (aC ((by unfold exN; rw [ex_bad (by omega)]; rfl)) (aC (decide_eq_true (by first | omega | (simp (disch := omega) only [wrapI]; omega))) (aC (decide_eq_false (by first | omega | (simp (disch := omega) only [wrapI]; omega))) (AllP_nil))))))

noncomputable def expandZL_mk (kn knm : Nat) (key : List Int) (m mm : Nat) (info : List Int) (N : Int) (cap0 cap1 k : Nat) (s : Unit) : St := ⟨sparse 37 [(0, .o (.a (.sl 0 0 kn cap0))), (1, .o (.a (.sl 1 0 m cap1))), (2, .o (.a (.i .i64 N))), (6, .o (.a (.raw (.slice none 0 0)))), (7, .o (.a (.i .i64 (0 : Int)))), (8, .o (.a (.rs 2 0 ((64 : Nat) * k) 1))), (9, .o (.a (.rs 3 0 (exL k) 1))), (10, .o (.a (.i .u8 (IntKind.u8.wrap (((k + (1 : Nat)) : Nat) : Int)))))], [some ⟨false, [.ints .u8 knm key]⟩, some ⟨false, [.ints .u8 mm info]⟩, some ⟨true, [.ints .u8 ((64 : Nat) * k) (exO key info k)]⟩, some ⟨true, [.ints .u8 (exL k) (exT key info k)]⟩]⟩

noncomputable def expandZL_step (k : Nat) (s : Unit) : Unit :=
  ()

set_option maxHeartbeats 1000000 in
theorem expandZL_round (kn knm : Nat) (key : List Int) (m mm : Nat) (info : List Int) (N : Int) (cap0 cap1 : Nat) (h0 : (knm = kn)) (h1 : (mm = m)) (h2 : (m < (35184372088832 : Nat))) (h3 : (kn < (35184372088832 : Nat))) (hc0 : kn ≤ cap0) (hc1 : m ≤ cap1) (hl0_0 : List.length key = knm) (hl1_0 : List.length info = mm) (ha : 0 ≤ N) (hb : N ≤ 16320) (w : World) (rw : List Nat) (β : Env) (k : Nat) (hk : k < (rnds N)) (s : Unit) : Run Try.prog ⟨w, rw, 2, β⟩ (loopB Try.f10 0) (expandZL_mk kn knm key m mm info N cap0 cap1 k s) (To ⟨w, rw, 2, β⟩ .normal (expandZL_mk kn knm key m mm info N cap0 cap1 (k + 1) (expandZL_step k s))) := by
  have e0 : ((sub (exO key info k) (0 : Nat) ((64 : Nat) * k)) ++ (sub (exT key info (k + (1 : Nat))) (0 : Nat) (64 : Nat))) = (exO key info (k + (1 : Nat))) := (by first | rfl | omega | exact exO_step rfl | exact u8_succ _)
  have e1 : (IntKind.u8.wrap ((IntKind.u8.wrap (((k + (1 : Nat)) : Nat) : Int)) + (1 : Int))) = (IntKind.u8.wrap (((k + (2 : Nat)) : Nat) : Int)) := (by first | rfl | omega | exact exO_step rfl | exact u8_succ _)
  have e2 : (((64 : Nat) * k) + (64 : Nat)) = ((64 : Nat) * (k + (1 : Nat))) := (by first | rfl | omega | exact exO_step rfl | exact u8_succ _)
  have h := Run.of_outTAt (B := ⟨w, rw, 2, β⟩) (Λ := noLam) (Ψ := psiOf [(9, [.eqB 6 (⟨true, [.ints .u8 (64 : Nat) (exT key info (k + (1 : Nat)))]⟩)])]) (fuel := 0) (ora := [true, false]) (c := (loopB Try.f10 0)) (st := (expandZL_mk kn knm key m mm info N cap0 cap1 k s)) (l := [.slrs 9 1, .eqS 9 (.o (.a (.rs 6 0 (exL (k + (1 : Nat))) 1))), .eqB 6 (⟨true, [.ints .u8 (exL (k + (1 : Nat))) (exT key info (k + (1 : Nat)))]⟩), .swap 2 7, .swap 3 6, .forget [0, 1, 2, 6, 7, 8, 9, 10] 4]) (s' := ⟨sparse 37 [(0, .o (.a (.sl 0 0 kn cap0))), (1, .o (.a (.sl 1 0 m cap1))), (2, .o (.a (.i .i64 N))), (6, .o (.a (.raw (.slice none 0 0)))), (7, .o (.a (.i .i64 (0 : Int)))), (8, .o (.a (.rs 2 0 (((64 : Nat) * k) + (64 : Nat)) 1))), (9, .o (.a (.rs 3 0 (exL (k + (1 : Nat))) 1))), (10, .o (.a (.i .u8 (IntKind.u8.wrap ((IntKind.u8.wrap (((k + (1 : Nat)) : Nat) : Int)) + (1 : Int))))))], [some ⟨false, [.ints .u8 knm key]⟩, some ⟨false, [.ints .u8 mm info]⟩, some ⟨true, [.ints .u8 (((64 : Nat) * k) + (64 : Nat)) ((sub (exO key info k) (0 : Nat) ((64 : Nat) * k)) ++ (sub (exT key info (k + (1 : Nat))) (0 : Nat) (64 : Nat)))]⟩, some ⟨true, [.ints .u8 (exL (k + (1 : Nat))) (exT key info (k + (1 : Nat)))]⟩]⟩) (ex := .normal) mix tabOkDP (gmac_ok (gjoin_ok (gam17_ok.at _ _)))
    (vc := [((some ⟨true, [.ints .u8 (64 : Nat) (exT key info (k + (1 : Nat)))]⟩ : Option Blk) = some ⟨true, [.ints .u8 (exL (k + (1 : Nat))) (exT key info (k + (1 : Nat)))]⟩), ((.o (.a (.rs 6 0 (64 : Nat) 1)) : AV) = .o (.a (.rs 6 0 (exL (k + (1 : Nat))) 1))), ((64 : Nat) ≤ (64 : Nat)), ((((0 : Nat) + ((64 : Nat) * k)) ≤ ((64 : Nat) * k)) ∧ (((64 : Nat) ≤ (64 : Nat)) ∧ ((64 : Nat) ≤ (64 : Nat))) ∧ (((((64 : Nat) * k) + (64 : Nat)) * (1 : Nat)) ≤ (140737488355328 : Nat))), (((0 : Int) ≤ (0 : Int)) ∧ ((0 : Int) ≤ (64 : Int))), ((some ⟨true, [.ints .u8 (64 : Nat) (macD (sub key 0 kn) ((sub (exT key info k) (0 : Nat) (exL k)) ++ ((sub info 0 m) ++ ([(IntKind.u8.wrap (((k + (1 : Nat)) : Nat) : Int))] : List Int))))]⟩ : Option Blk) = some ⟨true, [.ints .u8 (64 : Nat) (exT key info (k + (1 : Nat)))]⟩), (((3 : Nat) = (3 : Nat)) ∧ ((((0 : Nat) + (exL k)) ≤ (exL k)) ∧ ((((0 : Nat) + m) ≤ mm) ∧ (((1 : Nat) ≤ (1 : Nat)) ∧ True))) ∧ ((List.length ((sub (exT key info k) (0 : Nat) (exL k)) ++ ((sub info 0 m) ++ ([(IntKind.u8.wrap (((k + (1 : Nat)) : Nat) : Int))] : List Int)))) < (70368744177664 : Nat)) ∧ ((((0 : Nat) + kn) ≤ knm) ∧ True) ∧ ((kn = kn) ∧ (kn < (70368744177664 : Nat)) ∧ ((4 : Nat) < (4398046511104 : Nat)) ∧ (((List.length ((sub (exT key info k) (0 : Nat) (exL k)) ++ ((sub info 0 m) ++ ([(IntKind.u8.wrap (((k + (1 : Nat)) : Nat) : Int))] : List Int)))) + (128 : Nat)) < (70368744177664 : Nat)))), ((decide (((((64 : Nat) * k) : Nat) : Int) < N)) = true)]) (by kernel_rfl)
    (aC (rfl) (aC (rfl) (aC (by decide) (aC ⟨(by have hq := rnds_lt hk; have hy := exL_le k; first | omega | (simp (disch := omega) only [wrapI]; omega)), ⟨(by decide), (by decide)⟩, (by have hq := rnds_lt hk; have hy := exL_le k; first | omega | (simp (disch := omega) only [wrapI]; omega))⟩ (aC ⟨(by decide), (by decide)⟩ (aC ((by rw [ex_in (hl0_0.trans h0) (hl1_0.trans h1)])) (aC ⟨rfl, ⟨(by have hq := rnds_lt hk; have hy := exL_le k; first | omega | (simp (disch := omega) only [wrapI]; omega)), ⟨(by have hq := rnds_lt hk; have hy := exL_le k; first | omega | (simp (disch := omega) only [wrapI]; omega)), ⟨(by decide), trivial⟩⟩⟩, (ex_lt (hl1_0.trans h1) h2 _).1, ⟨(by have hq := rnds_lt hk; have hy := exL_le k; first | omega | (simp (disch := omega) only [wrapI]; omega)), trivial⟩, ⟨rfl, (by have hq := rnds_lt hk; have hy := exL_le k; first | omega | (simp (disch := omega) only [wrapI]; omega)), (by decide), (ex_lt (hl1_0.trans h1) h2 _).2⟩⟩ (aC (decide_eq_true (by have hq := rnds_lt hk; omega)) (AllP_nil)))))))))
  rw [e0, e1, e2] at h
  exact h

set_option maxHeartbeats 1000000 in
theorem expandZL_last (kn knm : Nat) (key : List Int) (m mm : Nat) (info : List Int) (N : Int) (cap0 cap1 : Nat) (h0 : (knm = kn)) (h1 : (mm = m)) (h2 : (m < (35184372088832 : Nat))) (h3 : (kn < (35184372088832 : Nat))) (hc0 : kn ≤ cap0) (hc1 : m ≤ cap1) (hl0_0 : List.length key = knm) (hl1_0 : List.length info = mm) (ha : 0 ≤ N) (hb : N ≤ 16320) (w : World) (rw : List Nat) (β : Env) (s : Unit) : Run Try.prog ⟨w, rw, 2, β⟩ (loopB Try.f10 0) (expandZL_mk kn knm key m mm info N cap0 cap1 (rnds N) s) (To ⟨w, rw, 2, β⟩ (.exit 0) (expandZL_mk kn knm key m mm info N cap0 cap1 (rnds N) s)) :=
  Run.of_outTAt (B := ⟨w, rw, 2, β⟩) (Λ := noLam) (Ψ := noPsi) (fuel := 0) (ora := [false]) (l := [.forget [0, 1, 2, 6, 7, 8, 9, 10] 4]) mix tabOkDP (gmac_ok (gjoin_ok (gam17_ok.at _ _)))
    (vc := [((decide (((((64 : Nat) * (rnds N)) : Nat) : Int) < N)) = false)]) (by kernel_rfl)
    (aC (decide_eq_false (by have hq := rnds_ge N; omega)) (AllP_nil))

theorem expandZL_loop (kn knm : Nat) (key : List Int) (m mm : Nat) (info : List Int) (N : Int) (cap0 cap1 : Nat) (h0 : (knm = kn)) (h1 : (mm = m)) (h2 : (m < (35184372088832 : Nat))) (h3 : (kn < (35184372088832 : Nat))) (hc0 : kn ≤ cap0) (hc1 : m ≤ cap1) (hl0_0 : List.length key = knm) (hl1_0 : List.length info = mm) (ha : 0 ≤ N) (hb : N ≤ 16320) (w : World) (rw : List Nat) (β : Env) (s : Unit) : Run Try.prog ⟨w, rw, 2, β⟩ (.block 0 (.loop (loopB Try.f10 0))) (expandZL_mk kn knm key m mm info N cap0 cap1 0 s) (To ⟨w, rw, 2, β⟩ .normal (expandZL_mk kn knm key m mm info N cap0 cap1 (rnds N) (iter (expandZL_step) (rnds N) s))) :=
  Run.count (fun k => expandZL_mk kn knm key m mm info N cap0 cap1 k (iter (expandZL_step) k s)) (rnds N) (fun k hk => expandZL_round kn knm key m mm info N cap0 cap1 h0 h1 h2 h3 hc0 hc1 hl0_0 hl1_0 ha hb w rw β k hk _) (ex := (.exit 0)) (by simp) (expandZL_last kn knm key m mm info N cap0 cap1 h0 h1 h2 h3 hc0 hc1 hl0_0 hl1_0 ha hb w rw β _)

set_option maxHeartbeats 1000000 in
theorem expandZ_body0 (kn knm : Nat) (key : List Int) (m mm : Nat) (info : List Int) (N : Int) (cap0 cap1 : Nat) (h0 : (knm = kn)) (h1 : (mm = m)) (h2 : (m < (35184372088832 : Nat))) (h3 : (kn < (35184372088832 : Nat))) (hc0 : kn ≤ cap0) (hc1 : m ≤ cap1) (hl0_0 : List.length key = knm) (hl1_0 : List.length info = mm) (ha : 0 ≤ N) (hb : N ≤ 16320) (w : World) (rw : List Nat) (β : Env) : Body Try.prog (tabOf tabDP) Try.f10 ⟨w, rw, 2, β⟩ [.o (.a (.sl 0 0 kn cap0)), .o (.a (.sl 1 0 m cap1)), .o (.a (.i .i64 N))] [some ⟨false, [.ints .u8 knm key]⟩, some ⟨false, [.ints .u8 mm info]⟩] (fun ys K' => ys = [.a (.rs 2 0 (exN N) 1), .a (.i .i64 (exE N))] ∧ K' = [some ⟨false, [.ints .u8 knm key]⟩, some ⟨false, [.ints .u8 mm info]⟩, some ⟨true, [.ints .u8 (exM N) (exR key info N)]⟩]) :=
  Body.of_finKAt (Γ := (gmac w rw (gjoin w rw gam17))) (Λ := lamOf [(0, ⟨[.rowS 8 .u8 1, .rowS 9 .u8 1, .forget [0, 1, 2, 6, 7, 8, 9, 10] 4], .normal, (expandZL_mk kn knm key m mm info N cap0 cap1 (rnds N) (iter (expandZL_step) (rnds N) ()))⟩)]) (Ψ := noPsi) (fuel := 0) (m := 37) (c := (Try.f10.body.getD .skip)) mix tabOkDP (gmac_ok (gjoin_ok (gam17_ok.at _ _))) rfl (rs := [.tmp 6, .tmp 7]) rfl rfl [false, false] [.slrs 6 1, .eqS 6 (.o (.a (.rs 2 0 (exN N) 1))), .eqS 7 (.o (.a (.i .i64 (exE N)))), .eqB 2 (⟨true, [.ints .u8 (exM N) (exR key info N)]⟩)] 3
    (vc := [((some ⟨true, [.ints .u8 ((64 : Nat) * (rnds N)) (exO key info (rnds N))]⟩ : Option Blk) = some ⟨true, [.ints .u8 (exM N) (exR key info N)]⟩), ((.o (.a (.i .i64 (0 : Int))) : AV) = .o (.a (.i .i64 (exE N)))), ((.o (.a (.rs 2 0 (Int.toNat N) 1)) : AV) = .o (.a (.rs 2 0 (exN N) 1))), (((0 : Nat) + (Int.toNat N)) ≤ ((64 : Nat) * (rnds N))), (((0 : Int) ≤ (0 : Int)) ∧ ((0 : Int) ≤ N) ∧ (N ≤ N) ∧ (N ≤ ((((64 : Nat) * (rnds N)) : Nat) : Int))), (Run Try.prog ⟨w, rw, 2, β⟩ (.block 0 (.loop (loopB Try.f10 0))) (expandZL_mk kn knm key m mm info N cap0 cap1 0 ()) (To ⟨w, rw, 2, β⟩ .normal (expandZL_mk kn knm key m mm info N cap0 cap1 (rnds N) (iter (expandZL_step) (rnds N) ())))), ((decide (N > (16320 : Int))) = false), ((decide (N < (0 : Int))) = false)]) (by kernel_rfl)
    (aC ((by unfold exM exR; rw [ex_ok ha hb]; rfl)) (aC ((congrArg (fun z => AV.o (.a (.i .i64 z))) (by unfold exE; (repeat' split) <;> omega))) (aC ((by unfold exN; rw [ex_ok ha hb]; rfl)) (aC (by have hq := rnds_ge N; omega) (aC ⟨(by decide), (by first | omega | (simp (disch := omega) only [wrapI]; omega)), (by first | omega | (simp (disch := omega) only [wrapI]; omega)), (by have hq := rnds_ge N; omega)⟩ (aC (expandZL_loop kn knm key m mm info N cap0 cap1 h0 h1 h2 h3 hc0 hc1 hl0_0 hl1_0 ha hb w rw β ()) (aC (decide_eq_false (by first | omega | (simp (disch := omega) only [wrapI]; omega))) (aC (decide_eq_false (by first | omega | (simp (disch := omega) only [wrapI]; omega))) (AllP_nil)))))))))

theorem expand_body (kn knm : Nat) (key : List Int) (m mm : Nat) (info : List Int) (N : Int) (cap0 cap1 : Nat) (h0 : (knm = kn)) (h1 : (mm = m)) (h2 : (m < (35184372088832 : Nat))) (h3 : (kn < (35184372088832 : Nat))) (w : World) (rw : List Nat) (β : Env) : Body Try.prog (tabOf tabDP) Try.f10 ⟨w, rw, 2, β⟩ [.o (.a (.sl 0 0 kn cap0)), .o (.a (.sl 1 0 m cap1)), .o (.a (.i .i64 N))] [some ⟨false, [.ints .u8 knm key]⟩, some ⟨false, [.ints .u8 mm info]⟩] (fun ys K' => ys = [.a (.rs 2 0 (exN N) 1), .a (.i .i64 (exE N))] ∧ K' = [some ⟨false, [.ints .u8 knm key]⟩, some ⟨false, [.ints .u8 mm info]⟩, some ⟨true, [.ints .u8 (exM N) (exR key info N)]⟩]) :=
  Body.lens (c := (Try.f10.body.getD .skip)) rfl fun h => by
  by_cases hn : N < 0
  · exact expandN_body0 kn knm key m mm info N cap0 cap1 h0 h1 h2 h3 (h.caps 0 _ _ _ _ rfl) (h.caps 1 _ _ _ _ rfl) (h.lens 0 _ .u8 knm key rfl (by simp)) (h.lens 1 _ .u8 mm info rfl (by simp)) hn w rw β
  by_cases hm : 16320 < N
  · exact expandM_body0 kn knm key m mm info N cap0 cap1 h0 h1 h2 h3 (h.caps 0 _ _ _ _ rfl) (h.caps 1 _ _ _ _ rfl) (h.lens 0 _ .u8 knm key rfl (by simp)) (h.lens 1 _ .u8 mm info rfl (by simp)) hm w rw β
  exact expandZ_body0 kn knm key m mm info N cap0 cap1 h0 h1 h2 h3 (h.caps 0 _ _ _ _ rfl) (h.caps 1 _ _ _ _ rfl) (h.lens 0 _ .u8 knm key rfl (by simp)) (h.lens 1 _ .u8 mm info rfl (by simp)) (by omega) (by omega) w rw β

end Go.Proofs.Ytlmdhjojinkdbaa.X

/- What the law Begins asks of bytes. -/
namespace Go.Proofs.Ytlmdhjojinkdbaa.X
open Go Go.Proofs
set_option linter.unusedVariables false
set_option maxRecDepth 100000

theorem catV_len {w : World} {L : List Value} {n k : Nat} (h : PartsOk w L n) (hk : k < n) : (catV w L (k + 1)).length = (catV w L k).length + lenV (L.getD k undef) := by
  show (catV w L k ++ _).length = _
  rw [List.length_append, h.len hk]
end Go.Proofs.Ytlmdhjojinkdbaa.X

/- Plain lemmas for the document's keyed digest. -/
namespace Go.Proofs.Ytlmdhjojinkdbaa.X
open Go Go.Proofs
set_option linter.unusedVariables false
set_option maxRecDepth 100000

def xo (c : Int) (l : List Int) (k : Nat) : List Int := (l.take k).map (fun x => bits2 .xor .u8 x c)
theorem xo_len {c : Int} {l : List Int} {k : Nat} (h : k ≤ l.length) : (xo c l k).length = k := by unfold xo; simp; omega
theorem xo_step {c : Int} {l : List Int} {k : Nat} (h : k < l.length) : sub (xo c l k) 0 k ++ [bits2 .xor .u8 (List.getD l k 0) c] = xo c l (k + 1) := by
  rw [sub_all _ _ (by rw [xo_len (by omega)]; omega)]
  unfold xo
  rw [List.take_add_one, List.getElem?_eq_getElem h, List.map_append, List.getD_eq_getElem?_getD, List.getElem?_eq_getElem h]
  rfl
theorem xo_all {c : Int} {l : List Int} (h : l.length = 128) : xo c l 128 = xk c l 128 := by
  unfold xo xk
  rw [List.drop_of_length_le (by omega), List.append_nil]
def innR (w : World) (key : List Int) (L : List Value) (k : Nat) : List Int := xk 54 (pk key) 128 ++ catV w L k
def innN (w : World) (L : List Value) (k : Nat) : Nat := 128 + (catV w L k).length
theorem innR_len (w : World) (key : List Int) (L : List Value) (k : Nat) : (innR w key L k).length = innN w L k := by
  unfold innR innN; rw [List.length_append, xk_len, pk_len]
theorem innR_step {w : World} {key : List Int} {L : List Value} {n k : Nat} (h : PartsOk w L n) (hk : k < n) :
    sub (innR w key L k) 0 (innN w L k) ++ sub (contV w (L.getD k undef)) 0 (lenV (L.getD k undef)) = innR w key L (k + 1) := by
  rw [sub_all _ _ (by rw [innR_len]; omega), sub_all _ _ (Nat.le_of_eq (h.len hk))]
  unfold innR
  rw [List.append_assoc]; rfl
theorem innN_step {w : World} {L : List Value} {n k : Nat} (h : PartsOk w L n) (hk : k < n) : innN w L k + lenV (L.getD k undef) = innN w L (k + 1) := by
  unfold innN; rw [catV_len h hk]; omega
theorem sumR_key {key : List Int} {n : Nat} (hl : key.length = n) (h : n < 70368744177664) : sumR n (sub key 0 n) = shaD key := by
  rw [sub_all key n (by omega)]; exact sumR_sha hl h
theorem outR_eq {w : World} {key : List Int} {L : List Value} {n : Nat} :
    sumR 192 (sub (sub (xo 92 (pk key) 128) 0 128 ++ sub (shaD (innR w key L n)) 0 64) 0 192) = macD key (catV w L n) := by
  have e1 : sub (xo 92 (pk key) 128) 0 128 = xk 92 (pk key) 128 := by
    rw [xo_all (pk_len _)]; exact sub_all _ _ (by rw [xk_len, pk_len]; omega)
  have e2 : sub (shaD (innR w key L n)) 0 64 = shaD (innR w key L n) := sub_all _ _ (by rw [shaD_len]; omega)
  have hl : (xk 92 (pk key) 128 ++ shaD (innR w key L n)).length = 192 := by rw [List.length_append, xk_len, pk_len, shaD_len]
  rw [e1, e2, sumR_key hl (by omega)]; rfl
end Go.Proofs.Ytlmdhjojinkdbaa.X

/- Printed by a tool of this session. -/
namespace Go.Proofs.Ytlmdhjojinkdbaa.X
open Go Go.Proofs
set_option linter.unusedVariables false
set_option linter.unusedSimpArgs false
set_option maxRecDepth 100000
theorem teKF_5 : TEOk Try.prog 5 ⟨.int .u8, 1, 1, [.i .u8 (0 : Int)], false⟩ :=
  TEOk.of Try.underlying5 (i := Try.t5) (by kernel_rfl) rfl rfl rfl (by kernel_rfl) (fun h => by cases h) (by kernel_rfl)
theorem teKF_22 : TEOk Try.prog 22 ⟨.slice 5, 1, 24, [.raw (.slice none 0 0)], false⟩ :=
  TEOk.of Try.underlying22 (i := Try.t22) (by kernel_rfl) rfl rfl rfl (by kernel_rfl) (fun h => by cases h) (by kernel_rfl)
theorem teKF_23 : TEOk Try.prog 23 ⟨.slice 22, 1, 24, [.raw (.slice none 0 0)], false⟩ :=
  TEOk.of Try.underlying23 (i := Try.t23) (by kernel_rfl) rfl rfl rfl (by kernel_rfl) (fun h => by cases h) (by kernel_rfl)
theorem teKF_32 : TEOk Try.prog 32 ⟨.array 64 5, 64, 64, [.ints .u8 (64 : Nat) ([0, 0, 0, 0, 0, 0, 0, 0, 0, 0, 0, 0, 0, 0, 0, 0, 0, 0, 0, 0, 0, 0, 0, 0, 0, 0, 0, 0, 0, 0, 0, 0, 0, 0, 0, 0, 0, 0, 0, 0, 0, 0, 0, 0, 0, 0, 0, 0, 0, 0, 0, 0, 0, 0, 0, 0, 0, 0, 0, 0, 0, 0, 0, 0] : List Int)], true⟩ :=
  TEOk.of Try.underlying32 (i := Try.t32) (by kernel_rfl) rfl rfl rfl (by kernel_rfl) (fun _ => Try.eqGuardType32) (by kernel_rfl)
noncomputable def tabKF : List (Nat × TE) := [(5, ⟨.int .u8, 1, 1, [.i .u8 (0 : Int)], false⟩), (22, ⟨.slice 5, 1, 24, [.raw (.slice none 0 0)], false⟩), (23, ⟨.slice 22, 1, 24, [.raw (.slice none 0 0)], false⟩), (32, ⟨.array 64 5, 64, 64, [.ints .u8 (64 : Nat) ([0, 0, 0, 0, 0, 0, 0, 0, 0, 0, 0, 0, 0, 0, 0, 0, 0, 0, 0, 0, 0, 0, 0, 0, 0, 0, 0, 0, 0, 0, 0, 0, 0, 0, 0, 0, 0, 0, 0, 0, 0, 0, 0, 0, 0, 0, 0, 0, 0, 0, 0, 0, 0, 0, 0, 0, 0, 0, 0, 0, 0, 0, 0, 0] : List Int)], true⟩)]
theorem tabOkKF : TabOk Try.prog (tabOf tabKF) := (tabOf_cons teKF_5 (tabOf_cons teKF_22 (tabOf_cons teKF_23 (tabOf_cons teKF_32 tabOf_nil))))

def gam306 : Gam := greadV 41 [.s 1] (fun vs args => match vs, args with | [⟨_, _, _, [.ints .u8 nm b]⟩], [a0] => some ((nm = (lenOfA a0)) ∧ ((lenOfA a0) < (70368744177664 : Nat)), [.g [.ints .u8 (64 : Nat) (sumR (lenOfA a0) b)]]) | _, _ => none) gam305
theorem gam306_ok : GamOk Try.prog gam306 := greadV_ok tabOkKD Try.func41 gam305_ok Try.call41 (by
  intro vs args p xs h hv
  split at h
  · simp only [Option.some.injEq, Prod.mk.injEq] at h; obtain ⟨rfl, rfl⟩ := h; exact ⟨by rfl, fun caps w β => sumR_body _ _ _ _ hv.1 hv.2 w β⟩
  · simp at h)

def refM0A_mk (w : World) (kn : Nat) (key : List Int) (n : Nat) (L : List Value) (cap0 cap1 k : Nat) (s : Unit) : St := ⟨sparse 63 [(0, .o (.a (.sl 0 0 kn cap0))), (1, .o (.a (.sl 1 0 n cap1))), (4, .o (.a (.p 2 0))), (5, .o (.a (.sl 3 0 (128 : Nat) (128 : Nat)))), (7, .o (.a (.rs 4 0 k 1))), (8, .o (.a (.rs 5 0 k 1))), (9, .o (.a (.i .i64 ((k : Nat) : Int))))], [some ⟨false, [.ints .u8 kn key]⟩, some ⟨false, [.vals n L]⟩, some ⟨true, [.ints .u8 (64 : Nat) ([0, 0, 0, 0, 0, 0, 0, 0, 0, 0, 0, 0, 0, 0, 0, 0, 0, 0, 0, 0, 0, 0, 0, 0, 0, 0, 0, 0, 0, 0, 0, 0, 0, 0, 0, 0, 0, 0, 0, 0, 0, 0, 0, 0, 0, 0, 0, 0, 0, 0, 0, 0, 0, 0, 0, 0, 0, 0, 0, 0, 0, 0, 0, 0] : List Int)]⟩, some ⟨true, [.ints .u8 (128 : Nat) (pk key)]⟩, some ⟨true, [.ints .u8 k (xo (54 : Int) (pk key) k)]⟩, some ⟨true, [.ints .u8 k (xo (92 : Int) (pk key) k)]⟩]⟩

def refM0A_step (k : Nat) (s : Unit) : Unit :=
  ()

set_option maxHeartbeats 1000000 in
theorem refM0A_round (w : World) (kn : Nat) (key : List Int) (n : Nat) (L : List Value) (cap0 cap1 : Nat) (h0 : (kn < (70368744177664 : Nat))) (h1 : ((n + (1 : Nat)) < (4398046511104 : Nat))) (h2 : (((List.length (catV w L n)) + (128 : Nat)) < (70368744177664 : Nat))) (hl0_0 : List.length key = kn) (hkn : kn ≤ 128) (β : Env) (hP : PartsOk w L n) (hL : L.length = n) (k : Nat) (hk : k < (128 : Nat)) (s : Unit) : Run Try.prog ⟨w, [], 2, β⟩ (loopB Try.f17 0) (refM0A_mk w kn key n L cap0 cap1 k s) (To ⟨w, [], 2, β⟩ .normal (refM0A_mk w kn key n L cap0 cap1 (k + 1) (refM0A_step k s))) := by
  have e0 : ((sub (xo (54 : Int) (pk key) k) (0 : Nat) k) ++ ([(bits2 .xor .u8 (List.getD (pk key) k 0) (54 : Int))] : List Int)) = (xo (54 : Int) (pk key) (k + (1 : Nat))) := (by first | exact wrap_succ (by omega) | rfl | exact xo_step (by rw [pk_len]; omega))
  have e1 : ((sub (xo (92 : Int) (pk key) k) (0 : Nat) k) ++ ([(bits2 .xor .u8 (List.getD (pk key) k 0) (92 : Int))] : List Int)) = (xo (92 : Int) (pk key) (k + (1 : Nat))) := (by first | exact wrap_succ (by omega) | rfl | exact xo_step (by rw [pk_len]; omega))
  have e2 : (IntKind.i64.wrap (((k : Nat) : Int) + (1 : Int))) = (((k + (1 : Nat)) : Nat) : Int) := (by first | exact wrap_succ (by omega) | rfl | exact xo_step (by rw [pk_len]; omega))
  have h := Run.of_outTAt (B := ⟨w, [], 2, β⟩) (Λ := noLam) (Ψ := noPsi) (fuel := 0) (ora := [true, false, false]) (c := (loopB Try.f17 0)) (st := (refM0A_mk w kn key n L cap0 cap1 k s)) (l := [.swap 4 7, .swap 5 9, .forget [0, 1, 4, 5, 7, 8, 9] 6]) (s' := ⟨sparse 63 [(0, .o (.a (.sl 0 0 kn cap0))), (1, .o (.a (.sl 1 0 n cap1))), (4, .o (.a (.p 2 0))), (5, .o (.a (.sl 3 0 (128 : Nat) (128 : Nat)))), (7, .o (.a (.rs 4 0 (k + (1 : Nat)) 1))), (8, .o (.a (.rs 5 0 (k + (1 : Nat)) 1))), (9, .o (.a (.i .i64 (IntKind.i64.wrap (((k : Nat) : Int) + (1 : Int))))))], [some ⟨false, [.ints .u8 kn key]⟩, some ⟨false, [.vals n L]⟩, some ⟨true, [.ints .u8 (64 : Nat) ([0, 0, 0, 0, 0, 0, 0, 0, 0, 0, 0, 0, 0, 0, 0, 0, 0, 0, 0, 0, 0, 0, 0, 0, 0, 0, 0, 0, 0, 0, 0, 0, 0, 0, 0, 0, 0, 0, 0, 0, 0, 0, 0, 0, 0, 0, 0, 0, 0, 0, 0, 0, 0, 0, 0, 0, 0, 0, 0, 0, 0, 0, 0, 0] : List Int)]⟩, some ⟨true, [.ints .u8 (128 : Nat) (pk key)]⟩, some ⟨true, [.ints .u8 (k + (1 : Nat)) ((sub (xo (54 : Int) (pk key) k) (0 : Nat) k) ++ ([(bits2 .xor .u8 (List.getD (pk key) k 0) (54 : Int))] : List Int))]⟩, some ⟨true, [.ints .u8 (k + (1 : Nat)) ((sub (xo (92 : Int) (pk key) k) (0 : Nat) k) ++ ([(bits2 .xor .u8 (List.getD (pk key) k 0) (92 : Int))] : List Int))]⟩]⟩) (ex := .normal) mix tabOkKF (gimp_ok (t := 22) (mk := mkS ⟨w, [], 2, β⟩ .u8) (gam306_ok.at _ _) fun v m => mkS_ok v m)
    (vc := [((((0 : Nat) + k) ≤ k) ∧ (((1 : Nat) ≤ (1 : Nat)) ∧ ((1 : Nat) ≤ (1 : Nat))) ∧ (((k + (1 : Nat)) * (1 : Nat)) ≤ (140737488355328 : Nat))), (k < (128 : Nat)), (((0 : Int) ≤ ((k : Nat) : Int)) ∧ (((k : Nat) : Int) < (128 : Int))), ((((0 : Nat) + k) ≤ k) ∧ (((1 : Nat) ≤ (1 : Nat)) ∧ ((1 : Nat) ≤ (1 : Nat))) ∧ (((k + (1 : Nat)) * (1 : Nat)) ≤ (140737488355328 : Nat))), (k < (128 : Nat)), (((0 : Int) ≤ ((k : Nat) : Int)) ∧ (((k : Nat) : Int) < (128 : Int))), ((decide (((k : Nat) : Int) < (128 : Int))) = true)]) (by kernel_rfl)
    (aC ⟨(by first | omega | (simp (disch := omega) only [wrapI]; omega)), ⟨(by decide), (by decide)⟩, (by first | omega | (simp (disch := omega) only [wrapI]; omega))⟩ (aC (by first | omega | (simp (disch := omega) only [wrapI]; omega)) (aC ⟨(by first | omega | (simp (disch := omega) only [wrapI]; omega)), (by first | omega | (simp (disch := omega) only [wrapI]; omega))⟩ (aC ⟨(by first | omega | (simp (disch := omega) only [wrapI]; omega)), ⟨(by decide), (by decide)⟩, (by first | omega | (simp (disch := omega) only [wrapI]; omega))⟩ (aC (by first | omega | (simp (disch := omega) only [wrapI]; omega)) (aC ⟨(by first | omega | (simp (disch := omega) only [wrapI]; omega)), (by first | omega | (simp (disch := omega) only [wrapI]; omega))⟩ (aC (decide_eq_true (by first | omega | (simp (disch := omega) only [wrapI]; omega))) (AllP_nil))))))))
  rw [e0, e1, e2] at h
  exact h

set_option maxHeartbeats 1000000 in
theorem refM0A_last (w : World) (kn : Nat) (key : List Int) (n : Nat) (L : List Value) (cap0 cap1 : Nat) (h0 : (kn < (70368744177664 : Nat))) (h1 : ((n + (1 : Nat)) < (4398046511104 : Nat))) (h2 : (((List.length (catV w L n)) + (128 : Nat)) < (70368744177664 : Nat))) (hl0_0 : List.length key = kn) (hkn : kn ≤ 128) (β : Env) (hP : PartsOk w L n) (hL : L.length = n) (s : Unit) : Run Try.prog ⟨w, [], 2, β⟩ (loopB Try.f17 0) (refM0A_mk w kn key n L cap0 cap1 (128 : Nat) s) (To ⟨w, [], 2, β⟩ (.exit 0) (refM0A_mk w kn key n L cap0 cap1 (128 : Nat) s)) :=
  Run.of_outTAt (B := ⟨w, [], 2, β⟩) (Λ := noLam) (Ψ := noPsi) (fuel := 0) (ora := [false]) (l := [.forget [0, 1, 4, 5, 7, 8, 9] 6]) mix tabOkKF (gimp_ok (t := 22) (mk := mkS ⟨w, [], 2, β⟩ .u8) (gam306_ok.at _ _) fun v m => mkS_ok v m)
    (vc := [(false = false)]) (by kernel_rfl)
    (aC rfl (AllP_nil))

theorem refM0A_loop (w : World) (kn : Nat) (key : List Int) (n : Nat) (L : List Value) (cap0 cap1 : Nat) (h0 : (kn < (70368744177664 : Nat))) (h1 : ((n + (1 : Nat)) < (4398046511104 : Nat))) (h2 : (((List.length (catV w L n)) + (128 : Nat)) < (70368744177664 : Nat))) (hl0_0 : List.length key = kn) (hkn : kn ≤ 128) (β : Env) (hP : PartsOk w L n) (hL : L.length = n) (s : Unit) : Run Try.prog ⟨w, [], 2, β⟩ (.block 0 (.loop (loopB Try.f17 0))) (refM0A_mk w kn key n L cap0 cap1 0 s) (To ⟨w, [], 2, β⟩ .normal (refM0A_mk w kn key n L cap0 cap1 (128 : Nat) (iter (refM0A_step) (128 : Nat) s))) :=
  Run.count (fun k => refM0A_mk w kn key n L cap0 cap1 k (iter (refM0A_step) k s)) (128 : Nat) (fun k hk => refM0A_round w kn key n L cap0 cap1 h0 h1 h2 hl0_0 hkn β hP hL k hk _) (ex := (.exit 0)) (by simp) (refM0A_last w kn key n L cap0 cap1 h0 h1 h2 hl0_0 hkn β hP hL _)

def refM0B_mk (w : World) (kn : Nat) (key : List Int) (n : Nat) (L : List Value) (cap0 cap1 k : Nat) (s : Unit) : St := ⟨sparse 63 [(0, .o (.a (.sl 0 0 kn cap0))), (1, .o (.a (.sl 1 0 n cap1))), (4, .o (.a (.p 2 0))), (5, .o (.a (.sl 3 0 (128 : Nat) (128 : Nat)))), (7, .o (.a (.rs 4 0 (innN w L k) 1))), (8, .o (.a (.rs 5 0 (128 : Nat) 1))), (9, .o (.a (.i .i64 (128 : Int)))), (10, .o (.a (.i .i64 ((k : Nat) : Int))))], [some ⟨false, [.ints .u8 kn key]⟩, some ⟨false, [.vals n L]⟩, some ⟨true, [.ints .u8 (64 : Nat) ([0, 0, 0, 0, 0, 0, 0, 0, 0, 0, 0, 0, 0, 0, 0, 0, 0, 0, 0, 0, 0, 0, 0, 0, 0, 0, 0, 0, 0, 0, 0, 0, 0, 0, 0, 0, 0, 0, 0, 0, 0, 0, 0, 0, 0, 0, 0, 0, 0, 0, 0, 0, 0, 0, 0, 0, 0, 0, 0, 0, 0, 0, 0, 0] : List Int)]⟩, some ⟨true, [.ints .u8 (128 : Nat) (pk key)]⟩, some ⟨true, [.ints .u8 (innN w L k) (innR w key L k)]⟩, some ⟨true, [.ints .u8 (128 : Nat) (xo (92 : Int) (pk key) (128 : Nat))]⟩]⟩

def refM0B_step (k : Nat) (s : Unit) : Unit :=
  ()

set_option maxHeartbeats 1000000 in
theorem refM0B_round (w : World) (kn : Nat) (key : List Int) (n : Nat) (L : List Value) (cap0 cap1 : Nat) (h0 : (kn < (70368744177664 : Nat))) (h1 : ((n + (1 : Nat)) < (4398046511104 : Nat))) (h2 : (((List.length (catV w L n)) + (128 : Nat)) < (70368744177664 : Nat))) (hl0_0 : List.length key = kn) (hkn : kn ≤ 128) (β : Env) (hP : PartsOk w L n) (hL : L.length = n) (k : Nat) (hk : k < n) (s : Unit) : Run Try.prog ⟨w, [], 2, β⟩ (loopB Try.f17 2) (refM0B_mk w kn key n L cap0 cap1 k s) (To ⟨w, [], 2, β⟩ .normal (refM0B_mk w kn key n L cap0 cap1 (k + 1) (refM0B_step k s))) := by
  have e0 : (IntKind.i64.wrap (((k : Nat) : Int) + (1 : Int))) = (((k + (1 : Nat)) : Nat) : Int) := (by first | exact wrap_succ (by omega) | rfl)
  have h := Run.of_outTAt (B := ⟨w, [], 2, β⟩) (Λ := noLam) (Ψ := psiOf [(16, [.eqS 7 (.o (.a (.rs 7 0 (innN w L (k + (1 : Nat))) 1))), .eqB 7 (⟨true, [.ints .u8 (innN w L (k + (1 : Nat))) (innR w key L (k + (1 : Nat)))]⟩)])]) (fuel := 0) (ora := [true, false]) (c := (loopB Try.f17 2)) (st := (refM0B_mk w kn key n L cap0 cap1 k s)) (l := [.swap 4 7, .forget [0, 1, 4, 5, 7, 8, 9, 10] 6]) (s' := ⟨sparse 63 [(0, .o (.a (.sl 0 0 kn cap0))), (1, .o (.a (.sl 1 0 n cap1))), (4, .o (.a (.p 2 0))), (5, .o (.a (.sl 3 0 (128 : Nat) (128 : Nat)))), (7, .o (.a (.rs 4 0 (innN w L (k + (1 : Nat))) 1))), (8, .o (.a (.rs 5 0 (128 : Nat) 1))), (9, .o (.a (.i .i64 (128 : Int)))), (10, .o (.a (.i .i64 (IntKind.i64.wrap (((k : Nat) : Int) + (1 : Int))))))], [some ⟨false, [.ints .u8 kn key]⟩, some ⟨false, [.vals n L]⟩, some ⟨true, [.ints .u8 (64 : Nat) ([0, 0, 0, 0, 0, 0, 0, 0, 0, 0, 0, 0, 0, 0, 0, 0, 0, 0, 0, 0, 0, 0, 0, 0, 0, 0, 0, 0, 0, 0, 0, 0, 0, 0, 0, 0, 0, 0, 0, 0, 0, 0, 0, 0, 0, 0, 0, 0, 0, 0, 0, 0, 0, 0, 0, 0, 0, 0, 0, 0, 0, 0, 0, 0] : List Int)]⟩, some ⟨true, [.ints .u8 (128 : Nat) (pk key)]⟩, some ⟨true, [.ints .u8 (innN w L (k + (1 : Nat))) (innR w key L (k + (1 : Nat)))]⟩, some ⟨true, [.ints .u8 (128 : Nat) (xo (92 : Int) (pk key) (128 : Nat))]⟩]⟩) (ex := .normal) mix tabOkKF (gimp_ok (t := 22) (mk := mkS ⟨w, [], 2, β⟩ .u8) (gam306_ok.at _ _) fun v m => mkS_ok v m)
    (vc := [((some ⟨true, [.ints .u8 ((innN w L k) + (lenV (List.getD L k undef))) ((sub (innR w key L k) (0 : Nat) (innN w L k)) ++ (sub (contV w (List.getD L k undef)) (0 : Nat) (lenV (List.getD L k undef))))]⟩ : Option Blk) = some ⟨true, [.ints .u8 (innN w L (k + (1 : Nat))) (innR w key L (k + (1 : Nat)))]⟩), ((.o (.a (.rs 7 0 ((innN w L k) + (lenV (List.getD L k undef))) 1)) : AV) = .o (.a (.rs 7 0 (innN w L (k + (1 : Nat))) 1))), ((((0 : Nat) + (innN w L k)) ≤ (innN w L k)) ∧ (((lenV (List.getD L k undef)) ≤ (lenV (List.getD L k undef))) ∧ (((0 : Nat) + (lenV (List.getD L k undef))) ≤ (lenV (List.getD L k undef)))) ∧ ((((innN w L k) + (lenV (List.getD L k undef))) * (1 : Nat)) ≤ (140737488355328 : Nat))), ((k < n) ∧ (ImpOk ⟨w, [], 2, β⟩ (List.getD L k undef) .u8 (lenV (List.getD L k undef)) (capV (List.getD L k undef)) (contV w (List.getD L k undef)))), (((0 : Int) ≤ ((k : Nat) : Int)) ∧ (((k : Nat) : Int) < ((n : Nat) : Int))), ((decide (((k : Nat) : Int) < ((n : Nat) : Int))) = true)]) (by kernel_rfl)
    (aC ((by rw [innR_step hP hk, innN_step hP hk])) (aC ((by rw [innN_step hP hk])) (aC ⟨(by have hs1 := hP.lt (i := k + 1) hk; have hl := hP.llt hk; have hz := innN_step hP hk; have hs : innN w L (k + 1) = 128 + (catV w L (k + 1)).length := rfl; first | omega | (simp (disch := omega) only [wrapI]; omega)), ⟨(by have hs1 := hP.lt (i := k + 1) hk; have hl := hP.llt hk; have hz := innN_step hP hk; have hs : innN w L (k + 1) = 128 + (catV w L (k + 1)).length := rfl; first | omega | (simp (disch := omega) only [wrapI]; omega)), (by have hs1 := hP.lt (i := k + 1) hk; have hl := hP.llt hk; have hz := innN_step hP hk; have hs : innN w L (k + 1) = 128 + (catV w L (k + 1)).length := rfl; first | omega | (simp (disch := omega) only [wrapI]; omega))⟩, (by have hs1 := hP.lt (i := k + 1) hk; have hl := hP.llt hk; have hz := innN_step hP hk; have hs : innN w L (k + 1) = 128 + (catV w L (k + 1)).length := rfl; first | omega | (simp (disch := omega) only [wrapI]; omega))⟩ (aC ⟨(by have hs1 := hP.lt (i := k + 1) hk; have hl := hP.llt hk; have hz := innN_step hP hk; have hs : innN w L (k + 1) = 128 + (catV w L (k + 1)).length := rfl; first | omega | (simp (disch := omega) only [wrapI]; omega)), ((hP.imp k hk _ _))⟩ (aC ⟨(by have hs1 := hP.lt (i := k + 1) hk; have hl := hP.llt hk; have hz := innN_step hP hk; have hs : innN w L (k + 1) = 128 + (catV w L (k + 1)).length := rfl; first | omega | (simp (disch := omega) only [wrapI]; omega)), (by have hs1 := hP.lt (i := k + 1) hk; have hl := hP.llt hk; have hz := innN_step hP hk; have hs : innN w L (k + 1) = 128 + (catV w L (k + 1)).length := rfl; first | omega | (simp (disch := omega) only [wrapI]; omega))⟩ (aC (decide_eq_true (by have hs1 := hP.lt (i := k + 1) hk; have hl := hP.llt hk; have hz := innN_step hP hk; have hs : innN w L (k + 1) = 128 + (catV w L (k + 1)).length := rfl; first | omega | (simp (disch := omega) only [wrapI]; omega))) (AllP_nil)))))))
  rw [e0] at h
  exact h

set_option maxHeartbeats 1000000 in
theorem refM0B_last (w : World) (kn : Nat) (key : List Int) (n : Nat) (L : List Value) (cap0 cap1 : Nat) (h0 : (kn < (70368744177664 : Nat))) (h1 : ((n + (1 : Nat)) < (4398046511104 : Nat))) (h2 : (((List.length (catV w L n)) + (128 : Nat)) < (70368744177664 : Nat))) (hl0_0 : List.length key = kn) (hkn : kn ≤ 128) (β : Env) (hP : PartsOk w L n) (hL : L.length = n) (s : Unit) : Run Try.prog ⟨w, [], 2, β⟩ (loopB Try.f17 2) (refM0B_mk w kn key n L cap0 cap1 n s) (To ⟨w, [], 2, β⟩ (.exit 2) (refM0B_mk w kn key n L cap0 cap1 n s)) :=
  Run.of_outTAt (B := ⟨w, [], 2, β⟩) (Λ := noLam) (Ψ := noPsi) (fuel := 0) (ora := [false]) (l := [.forget [0, 1, 4, 5, 7, 8, 9, 10] 6]) mix tabOkKF (gimp_ok (t := 22) (mk := mkS ⟨w, [], 2, β⟩ .u8) (gam306_ok.at _ _) fun v m => mkS_ok v m)
    (vc := [((decide (((n : Nat) : Int) < ((n : Nat) : Int))) = false)]) (by kernel_rfl)
    (aC (decide_eq_false (by omega)) (AllP_nil))

theorem refM0B_loop (w : World) (kn : Nat) (key : List Int) (n : Nat) (L : List Value) (cap0 cap1 : Nat) (h0 : (kn < (70368744177664 : Nat))) (h1 : ((n + (1 : Nat)) < (4398046511104 : Nat))) (h2 : (((List.length (catV w L n)) + (128 : Nat)) < (70368744177664 : Nat))) (hl0_0 : List.length key = kn) (hkn : kn ≤ 128) (β : Env) (hP : PartsOk w L n) (hL : L.length = n) (s : Unit) : Run Try.prog ⟨w, [], 2, β⟩ (.block 2 (.loop (loopB Try.f17 2))) (refM0B_mk w kn key n L cap0 cap1 0 s) (To ⟨w, [], 2, β⟩ .normal (refM0B_mk w kn key n L cap0 cap1 n (iter (refM0B_step) n s))) :=
  Run.count (fun k => refM0B_mk w kn key n L cap0 cap1 k (iter (refM0B_step) k s)) n (fun k hk => refM0B_round w kn key n L cap0 cap1 h0 h1 h2 hl0_0 hkn β hP hL k hk _) (ex := (.exit 2)) (by simp) (refM0B_last w kn key n L cap0 cap1 h0 h1 h2 hl0_0 hkn β hP hL _)

def refM0 (w : World) (key : List Int) (n : Nat) (L : List Value) : List Int :=
  (macD key (catV w L n))

set_option maxHeartbeats 1000000 in
theorem refM0_body0 (w : World) (kn : Nat) (key : List Int) (n : Nat) (L : List Value) (cap0 cap1 : Nat) (h0 : (kn < (70368744177664 : Nat))) (h1 : ((n + (1 : Nat)) < (4398046511104 : Nat))) (h2 : (((List.length (catV w L n)) + (128 : Nat)) < (70368744177664 : Nat))) (hl0_0 : List.length key = kn) (hkn : kn ≤ 128) (β : Env) (hP : PartsOk w L n) (hL : L.length = n) : Body Try.prog (tabOf tabKF) Try.f17 ⟨w, [], 2, β⟩ [.o (.a (.sl 0 0 kn cap0)), .o (.a (.sl 1 0 n cap1))] [some ⟨false, [.ints .u8 kn key]⟩, some ⟨false, [.vals n L]⟩] (fun ys _ => ys = [.g [.ints .u8 (64 : Nat) (refM0 w key n L)]]) :=
  Body.of_finAt (Γ := (gimp 22 (mkS ⟨w, [], 2, β⟩ .u8) gam306)) (Λ := lamOf [(0, ⟨[.rowS 7 .u8 1, .rowS 8 .u8 1, .forget [0, 1, 4, 5, 7, 8, 9] 6], .normal, (refM0A_mk w kn key n L cap0 cap1 (128 : Nat) (iter (refM0A_step) (128 : Nat) ()))⟩), (2, ⟨[.eqS 7 (.o (.a (.rs 4 0 (innN w L (0 : Nat)) 1))), .eqB 4 (⟨true, [.ints .u8 (innN w L (0 : Nat)) (innR w key L (0 : Nat))]⟩), .forget [0, 1, 4, 5, 7, 8, 9, 10] 6], .normal, (refM0B_mk w kn key n L cap0 cap1 n (iter (refM0B_step) n ()))⟩)]) (Ψ := psiOf [(5, [.eqB 3 (⟨true, [.ints .u8 (128 : Nat) (pk key)]⟩)]), (17, [.eqB 6 (⟨true, [.ints .u8 (64 : Nat) (shaD (innR w key L n))]⟩)])]) (fuel := 0) (m := 63) (c := (Try.f17.body.getD .skip)) mix tabOkKF (gimp_ok (t := 22) (mk := mkS ⟨w, [], 2, β⟩ .u8) (gam306_ok.at _ _) fun v m => mkS_ok v m) rfl (rs := [.cell 4 32]) rfl rfl [false, false] [.eqB 2 (⟨true, [.ints .u8 (64 : Nat) (macD key (catV w L n))]⟩)]
    (vc := [((some ⟨true, [.ints .u8 (64 : Nat) (sumR (192 : Nat) (sub ((sub (xo (92 : Int) (pk key) (128 : Nat)) (0 : Nat) (128 : Nat)) ++ (sub (shaD (innR w key L n)) (0 : Nat) (64 : Nat))) (0 : Nat) (192 : Nat)))]⟩ : Option Blk) = some ⟨true, [.ints .u8 (64 : Nat) (macD key (catV w L n))]⟩), ((((192 : Nat) ≤ (192 : Nat)) ∧ True) ∧ (((192 : Nat) = (192 : Nat)) ∧ ((192 : Nat) < (70368744177664 : Nat)))), (((128 : Nat) ≤ (128 : Nat)) ∧ (((64 : Nat) ≤ (64 : Nat)) ∧ ((64 : Nat) ≤ (64 : Nat))) ∧ ((192 : Nat) ≤ (140737488355328 : Nat))), (((0 : Int) ≤ (0 : Int)) ∧ ((0 : Int) ≤ (64 : Int))), ((some ⟨true, [.ints .u8 (64 : Nat) (sumR (innN w L n) (sub (innR w key L n) (0 : Nat) (innN w L n)))]⟩ : Option Blk) = some ⟨true, [.ints .u8 (64 : Nat) (shaD (innR w key L n))]⟩), (((((0 : Nat) + (innN w L n)) ≤ (innN w L n)) ∧ True) ∧ (((innN w L n) = (innN w L n)) ∧ ((innN w L n) < (70368744177664 : Nat)))), (Run Try.prog ⟨w, [], 2, β⟩ (.block 2 (.loop (loopB Try.f17 2))) (refM0B_mk w kn key n L cap0 cap1 0 ()) (To ⟨w, [], 2, β⟩ .normal (refM0B_mk w kn key n L cap0 cap1 n (iter (refM0B_step) n ())))), ((some ⟨true, [.ints .u8 (128 : Nat) (xo (54 : Int) (pk key) (128 : Nat))]⟩ : Option Blk) = some ⟨true, [.ints .u8 (innN w L (0 : Nat)) (innR w key L (0 : Nat))]⟩), ((.o (.a (.rs 4 0 (128 : Nat) 1)) : AV) = .o (.a (.rs 4 0 (innN w L (0 : Nat)) 1))), (Run Try.prog ⟨w, [], 2, β⟩ (.block 0 (.loop (loopB Try.f17 0))) (refM0A_mk w kn key n L cap0 cap1 0 ()) (To ⟨w, [], 2, β⟩ .normal (refM0A_mk w kn key n L cap0 cap1 (128 : Nat) (iter (refM0A_step) (128 : Nat) ())))), ((some ⟨true, [.ints .u8 (128 : Nat) (splice (List.replicate (128 : Nat) (0 : Int)) (0 : Nat) (min kn (128 : Nat)) (sub key 0 (min kn (128 : Nat))))]⟩ : Option Blk) = some ⟨true, [.ints .u8 (128 : Nat) (pk key)]⟩), ((((min kn (128 : Nat)) ≤ kn) ∧ (((0 : Nat) + (min kn (128 : Nat))) ≤ kn)) ∧ (okP (some (((0 : Nat) + (min kn (128 : Nat))) ≤ (128 : Nat))))), ((decide (((kn : Nat) : Int) > (128 : Int))) = false), (((0 : Int) ≤ (128 : Int)) ∧ ((128 : Int) ≤ (128 : Int)) ∧ ((128 : Int) ≤ (281474976710656 : Int)))]) (by kernel_rfl)
    (aC ((by rw [outR_eq])) (aC ⟨⟨(by decide), trivial⟩, ⟨rfl, (by decide)⟩⟩ (aC ⟨(by decide), ⟨(by decide), (by decide)⟩, (by decide)⟩ (aC ⟨(by decide), (by decide)⟩ (aC ((by rw [sumR_key (innR_len _ _ _ _) (by have hq : innN w L n = 128 + (catV w L n).length := rfl; omega)])) (aC ⟨⟨(by have hq : innN w L n = 128 + (catV w L n).length := rfl; omega), trivial⟩, ⟨rfl, (by have hq : innN w L n = 128 + (catV w L n).length := rfl; omega)⟩⟩ (aC (refM0B_loop w kn key n L cap0 cap1 h0 h1 h2 hl0_0 hkn β hP hL ()) (aC ((by rw [xo_all (pk_len _)]; exact congrArg (fun z => (some (⟨true, [.ints .u8 128 z]⟩ : Blk) : Option Blk)) (List.append_nil _).symm)) (aC (rfl) (aC (refM0A_loop w kn key n L cap0 cap1 h0 h1 h2 hl0_0 hkn β hP hL ()) (aC ((by rw [pk_short hl0_0 hkn])) (aC ⟨⟨(by first | omega | (simp (disch := omega) only [wrapI]; omega)), (by first | omega | (simp (disch := omega) only [wrapI]; omega))⟩, (show (((0 : Nat) + (min kn (128 : Nat))) ≤ (128 : Nat)) from (by first | omega | (simp (disch := omega) only [wrapI]; omega)))⟩ (aC (decide_eq_false (by first | omega | (simp (disch := omega) only [wrapI]; omega))) (aC ⟨(by decide), (by decide), (by decide)⟩ (AllP_nil)))))))))))))))

def refM1A_mk (w : World) (kn : Nat) (key : List Int) (n : Nat) (L : List Value) (cap0 cap1 k : Nat) (s : Unit) : St := ⟨sparse 63 [(0, .o (.a (.sl 0 0 kn cap0))), (1, .o (.a (.sl 1 0 n cap1))), (4, .o (.a (.p 2 0))), (5, .o (.a (.sl 3 0 (128 : Nat) (128 : Nat)))), (6, .o (.a (.p 4 0))), (7, .o (.a (.rs 5 0 k 1))), (8, .o (.a (.rs 6 0 k 1))), (9, .o (.a (.i .i64 ((k : Nat) : Int))))], [some ⟨false, [.ints .u8 kn key]⟩, some ⟨false, [.vals n L]⟩, some ⟨true, [.ints .u8 (64 : Nat) ([0, 0, 0, 0, 0, 0, 0, 0, 0, 0, 0, 0, 0, 0, 0, 0, 0, 0, 0, 0, 0, 0, 0, 0, 0, 0, 0, 0, 0, 0, 0, 0, 0, 0, 0, 0, 0, 0, 0, 0, 0, 0, 0, 0, 0, 0, 0, 0, 0, 0, 0, 0, 0, 0, 0, 0, 0, 0, 0, 0, 0, 0, 0, 0] : List Int)]⟩, some ⟨true, [.ints .u8 (128 : Nat) (pk key)]⟩, some ⟨true, [.ints .u8 (64 : Nat) (shaD key)]⟩, some ⟨true, [.ints .u8 k (xo (54 : Int) (pk key) k)]⟩, some ⟨true, [.ints .u8 k (xo (92 : Int) (pk key) k)]⟩]⟩

def refM1A_step (k : Nat) (s : Unit) : Unit :=
  ()

set_option maxHeartbeats 1000000 in
theorem refM1A_round (w : World) (kn : Nat) (key : List Int) (n : Nat) (L : List Value) (cap0 cap1 : Nat) (h0 : (kn < (70368744177664 : Nat))) (h1 : ((n + (1 : Nat)) < (4398046511104 : Nat))) (h2 : (((List.length (catV w L n)) + (128 : Nat)) < (70368744177664 : Nat))) (hl0_0 : List.length key = kn) (hkn : 128 < kn) (β : Env) (hP : PartsOk w L n) (hL : L.length = n) (k : Nat) (hk : k < (128 : Nat)) (s : Unit) : Run Try.prog ⟨w, [], 2, β⟩ (loopB Try.f17 0) (refM1A_mk w kn key n L cap0 cap1 k s) (To ⟨w, [], 2, β⟩ .normal (refM1A_mk w kn key n L cap0 cap1 (k + 1) (refM1A_step k s))) := by
  have e0 : ((sub (xo (54 : Int) (pk key) k) (0 : Nat) k) ++ ([(bits2 .xor .u8 (List.getD (pk key) k 0) (54 : Int))] : List Int)) = (xo (54 : Int) (pk key) (k + (1 : Nat))) := (by first | exact wrap_succ (by omega) | rfl | exact xo_step (by rw [pk_len]; omega))
  have e1 : ((sub (xo (92 : Int) (pk key) k) (0 : Nat) k) ++ ([(bits2 .xor .u8 (List.getD (pk key) k 0) (92 : Int))] : List Int)) = (xo (92 : Int) (pk key) (k + (1 : Nat))) := (by first | exact wrap_succ (by omega) | rfl | exact xo_step (by rw [pk_len]; omega))
  have e2 : (IntKind.i64.wrap (((k : Nat) : Int) + (1 : Int))) = (((k + (1 : Nat)) : Nat) : Int) := (by first | exact wrap_succ (by omega) | rfl | exact xo_step (by rw [pk_len]; omega))
  have h := Run.of_outTAt (B := ⟨w, [], 2, β⟩) (Λ := noLam) (Ψ := noPsi) (fuel := 0) (ora := [true, false, false]) (c := (loopB Try.f17 0)) (st := (refM1A_mk w kn key n L cap0 cap1 k s)) (l := [.swap 5 8, .swap 6 10, .forget [0, 1, 4, 5, 6, 7, 8, 9] 7]) (s' := ⟨sparse 63 [(0, .o (.a (.sl 0 0 kn cap0))), (1, .o (.a (.sl 1 0 n cap1))), (4, .o (.a (.p 2 0))), (5, .o (.a (.sl 3 0 (128 : Nat) (128 : Nat)))), (6, .o (.a (.p 4 0))), (7, .o (.a (.rs 5 0 (k + (1 : Nat)) 1))), (8, .o (.a (.rs 6 0 (k + (1 : Nat)) 1))), (9, .o (.a (.i .i64 (IntKind.i64.wrap (((k : Nat) : Int) + (1 : Int))))))], [some ⟨false, [.ints .u8 kn key]⟩, some ⟨false, [.vals n L]⟩, some ⟨true, [.ints .u8 (64 : Nat) ([0, 0, 0, 0, 0, 0, 0, 0, 0, 0, 0, 0, 0, 0, 0, 0, 0, 0, 0, 0, 0, 0, 0, 0, 0, 0, 0, 0, 0, 0, 0, 0, 0, 0, 0, 0, 0, 0, 0, 0, 0, 0, 0, 0, 0, 0, 0, 0, 0, 0, 0, 0, 0, 0, 0, 0, 0, 0, 0, 0, 0, 0, 0, 0] : List Int)]⟩, some ⟨true, [.ints .u8 (128 : Nat) (pk key)]⟩, some ⟨true, [.ints .u8 (64 : Nat) (shaD key)]⟩, some ⟨true, [.ints .u8 (k + (1 : Nat)) ((sub (xo (54 : Int) (pk key) k) (0 : Nat) k) ++ ([(bits2 .xor .u8 (List.getD (pk key) k 0) (54 : Int))] : List Int))]⟩, some ⟨true, [.ints .u8 (k + (1 : Nat)) ((sub (xo (92 : Int) (pk key) k) (0 : Nat) k) ++ ([(bits2 .xor .u8 (List.getD (pk key) k 0) (92 : Int))] : List Int))]⟩]⟩) (ex := .normal) mix tabOkKF (gimp_ok (t := 22) (mk := mkS ⟨w, [], 2, β⟩ .u8) (gam306_ok.at _ _) fun v m => mkS_ok v m)
    (vc := [((((0 : Nat) + k) ≤ k) ∧ (((1 : Nat) ≤ (1 : Nat)) ∧ ((1 : Nat) ≤ (1 : Nat))) ∧ (((k + (1 : Nat)) * (1 : Nat)) ≤ (140737488355328 : Nat))), (k < (128 : Nat)), (((0 : Int) ≤ ((k : Nat) : Int)) ∧ (((k : Nat) : Int) < (128 : Int))), ((((0 : Nat) + k) ≤ k) ∧ (((1 : Nat) ≤ (1 : Nat)) ∧ ((1 : Nat) ≤ (1 : Nat))) ∧ (((k + (1 : Nat)) * (1 : Nat)) ≤ (140737488355328 : Nat))), (k < (128 : Nat)), (((0 : Int) ≤ ((k : Nat) : Int)) ∧ (((k : Nat) : Int) < (128 : Int))), ((decide (((k : Nat) : Int) < (128 : Int))) = true)]) (by kernel_rfl)
    (aC ⟨(by first | omega | (simp (disch := omega) only [wrapI]; omega)), ⟨(by decide), (by decide)⟩, (by first | omega | (simp (disch := omega) only [wrapI]; omega))⟩ (aC (by first | omega | (simp (disch := omega) only [wrapI]; omega)) (aC ⟨(by first | omega | (simp (disch := omega) only [wrapI]; omega)), (by first | omega | (simp (disch := omega) only [wrapI]; omega))⟩ (aC ⟨(by first | omega | (simp (disch := omega) only [wrapI]; omega)), ⟨(by decide), (by decide)⟩, (by first | omega | (simp (disch := omega) only [wrapI]; omega))⟩ (aC (by first | omega | (simp (disch := omega) only [wrapI]; omega)) (aC ⟨(by first | omega | (simp (disch := omega) only [wrapI]; omega)), (by first | omega | (simp (disch := omega) only [wrapI]; omega))⟩ (aC (decide_eq_true (by first | omega | (simp (disch := omega) only [wrapI]; omega))) (AllP_nil))))))))
  rw [e0, e1, e2] at h
  exact h

set_option maxHeartbeats 1000000 in
theorem refM1A_last (w : World) (kn : Nat) (key : List Int) (n : Nat) (L : List Value) (cap0 cap1 : Nat) (h0 : (kn < (70368744177664 : Nat))) (h1 : ((n + (1 : Nat)) < (4398046511104 : Nat))) (h2 : (((List.length (catV w L n)) + (128 : Nat)) < (70368744177664 : Nat))) (hl0_0 : List.length key = kn) (hkn : 128 < kn) (β : Env) (hP : PartsOk w L n) (hL : L.length = n) (s : Unit) : Run Try.prog ⟨w, [], 2, β⟩ (loopB Try.f17 0) (refM1A_mk w kn key n L cap0 cap1 (128 : Nat) s) (To ⟨w, [], 2, β⟩ (.exit 0) (refM1A_mk w kn key n L cap0 cap1 (128 : Nat) s)) :=
  Run.of_outTAt (B := ⟨w, [], 2, β⟩) (Λ := noLam) (Ψ := noPsi) (fuel := 0) (ora := [false]) (l := [.forget [0, 1, 4, 5, 6, 7, 8, 9] 7]) mix tabOkKF (gimp_ok (t := 22) (mk := mkS ⟨w, [], 2, β⟩ .u8) (gam306_ok.at _ _) fun v m => mkS_ok v m)
    (vc := [(false = false)]) (by kernel_rfl)
    (aC rfl (AllP_nil))

theorem refM1A_loop (w : World) (kn : Nat) (key : List Int) (n : Nat) (L : List Value) (cap0 cap1 : Nat) (h0 : (kn < (70368744177664 : Nat))) (h1 : ((n + (1 : Nat)) < (4398046511104 : Nat))) (h2 : (((List.length (catV w L n)) + (128 : Nat)) < (70368744177664 : Nat))) (hl0_0 : List.length key = kn) (hkn : 128 < kn) (β : Env) (hP : PartsOk w L n) (hL : L.length = n) (s : Unit) : Run Try.prog ⟨w, [], 2, β⟩ (.block 0 (.loop (loopB Try.f17 0))) (refM1A_mk w kn key n L cap0 cap1 0 s) (To ⟨w, [], 2, β⟩ .normal (refM1A_mk w kn key n L cap0 cap1 (128 : Nat) (iter (refM1A_step) (128 : Nat) s))) :=
  Run.count (fun k => refM1A_mk w kn key n L cap0 cap1 k (iter (refM1A_step) k s)) (128 : Nat) (fun k hk => refM1A_round w kn key n L cap0 cap1 h0 h1 h2 hl0_0 hkn β hP hL k hk _) (ex := (.exit 0)) (by simp) (refM1A_last w kn key n L cap0 cap1 h0 h1 h2 hl0_0 hkn β hP hL _)

def refM1B_mk (w : World) (kn : Nat) (key : List Int) (n : Nat) (L : List Value) (cap0 cap1 k : Nat) (s : Unit) : St := ⟨sparse 63 [(0, .o (.a (.sl 0 0 kn cap0))), (1, .o (.a (.sl 1 0 n cap1))), (4, .o (.a (.p 2 0))), (5, .o (.a (.sl 3 0 (128 : Nat) (128 : Nat)))), (6, .o (.a (.p 4 0))), (7, .o (.a (.rs 5 0 (innN w L k) 1))), (8, .o (.a (.rs 6 0 (128 : Nat) 1))), (9, .o (.a (.i .i64 (128 : Int)))), (10, .o (.a (.i .i64 ((k : Nat) : Int))))], [some ⟨false, [.ints .u8 kn key]⟩, some ⟨false, [.vals n L]⟩, some ⟨true, [.ints .u8 (64 : Nat) ([0, 0, 0, 0, 0, 0, 0, 0, 0, 0, 0, 0, 0, 0, 0, 0, 0, 0, 0, 0, 0, 0, 0, 0, 0, 0, 0, 0, 0, 0, 0, 0, 0, 0, 0, 0, 0, 0, 0, 0, 0, 0, 0, 0, 0, 0, 0, 0, 0, 0, 0, 0, 0, 0, 0, 0, 0, 0, 0, 0, 0, 0, 0, 0] : List Int)]⟩, some ⟨true, [.ints .u8 (128 : Nat) (pk key)]⟩, some ⟨true, [.ints .u8 (64 : Nat) (shaD key)]⟩, some ⟨true, [.ints .u8 (innN w L k) (innR w key L k)]⟩, some ⟨true, [.ints .u8 (128 : Nat) (xo (92 : Int) (pk key) (128 : Nat))]⟩]⟩

def refM1B_step (k : Nat) (s : Unit) : Unit :=
  ()

set_option maxHeartbeats 1000000 in
theorem refM1B_round (w : World) (kn : Nat) (key : List Int) (n : Nat) (L : List Value) (cap0 cap1 : Nat) (h0 : (kn < (70368744177664 : Nat))) (h1 : ((n + (1 : Nat)) < (4398046511104 : Nat))) (h2 : (((List.length (catV w L n)) + (128 : Nat)) < (70368744177664 : Nat))) (hl0_0 : List.length key = kn) (hkn : 128 < kn) (β : Env) (hP : PartsOk w L n) (hL : L.length = n) (k : Nat) (hk : k < n) (s : Unit) : Run Try.prog ⟨w, [], 2, β⟩ (loopB Try.f17 2) (refM1B_mk w kn key n L cap0 cap1 k s) (To ⟨w, [], 2, β⟩ .normal (refM1B_mk w kn key n L cap0 cap1 (k + 1) (refM1B_step k s))) := by
  have e0 : (IntKind.i64.wrap (((k : Nat) : Int) + (1 : Int))) = (((k + (1 : Nat)) : Nat) : Int) := (by first | exact wrap_succ (by omega) | rfl)
  have h := Run.of_outTAt (B := ⟨w, [], 2, β⟩) (Λ := noLam) (Ψ := psiOf [(16, [.eqS 7 (.o (.a (.rs 8 0 (innN w L (k + (1 : Nat))) 1))), .eqB 8 (⟨true, [.ints .u8 (innN w L (k + (1 : Nat))) (innR w key L (k + (1 : Nat)))]⟩)])]) (fuel := 0) (ora := [true, false]) (c := (loopB Try.f17 2)) (st := (refM1B_mk w kn key n L cap0 cap1 k s)) (l := [.swap 5 8, .forget [0, 1, 4, 5, 6, 7, 8, 9, 10] 7]) (s' := ⟨sparse 63 [(0, .o (.a (.sl 0 0 kn cap0))), (1, .o (.a (.sl 1 0 n cap1))), (4, .o (.a (.p 2 0))), (5, .o (.a (.sl 3 0 (128 : Nat) (128 : Nat)))), (6, .o (.a (.p 4 0))), (7, .o (.a (.rs 5 0 (innN w L (k + (1 : Nat))) 1))), (8, .o (.a (.rs 6 0 (128 : Nat) 1))), (9, .o (.a (.i .i64 (128 : Int)))), (10, .o (.a (.i .i64 (IntKind.i64.wrap (((k : Nat) : Int) + (1 : Int))))))], [some ⟨false, [.ints .u8 kn key]⟩, some ⟨false, [.vals n L]⟩, some ⟨true, [.ints .u8 (64 : Nat) ([0, 0, 0, 0, 0, 0, 0, 0, 0, 0, 0, 0, 0, 0, 0, 0, 0, 0, 0, 0, 0, 0, 0, 0, 0, 0, 0, 0, 0, 0, 0, 0, 0, 0, 0, 0, 0, 0, 0, 0, 0, 0, 0, 0, 0, 0, 0, 0, 0, 0, 0, 0, 0, 0, 0, 0, 0, 0, 0, 0, 0, 0, 0, 0] : List Int)]⟩, some ⟨true, [.ints .u8 (128 : Nat) (pk key)]⟩, some ⟨true, [.ints .u8 (64 : Nat) (shaD key)]⟩, some ⟨true, [.ints .u8 (innN w L (k + (1 : Nat))) (innR w key L (k + (1 : Nat)))]⟩, some ⟨true, [.ints .u8 (128 : Nat) (xo (92 : Int) (pk key) (128 : Nat))]⟩]⟩) (ex := .normal) mix tabOkKF (gimp_ok (t := 22) (mk := mkS ⟨w, [], 2, β⟩ .u8) (gam306_ok.at _ _) fun v m => mkS_ok v m)
    (vc := [((some ⟨true, [.ints .u8 ((innN w L k) + (lenV (List.getD L k undef))) ((sub (innR w key L k) (0 : Nat) (innN w L k)) ++ (sub (contV w (List.getD L k undef)) (0 : Nat) (lenV (List.getD L k undef))))]⟩ : Option Blk) = some ⟨true, [.ints .u8 (innN w L (k + (1 : Nat))) (innR w key L (k + (1 : Nat)))]⟩), ((.o (.a (.rs 8 0 ((innN w L k) + (lenV (List.getD L k undef))) 1)) : AV) = .o (.a (.rs 8 0 (innN w L (k + (1 : Nat))) 1))), ((((0 : Nat) + (innN w L k)) ≤ (innN w L k)) ∧ (((lenV (List.getD L k undef)) ≤ (lenV (List.getD L k undef))) ∧ (((0 : Nat) + (lenV (List.getD L k undef))) ≤ (lenV (List.getD L k undef)))) ∧ ((((innN w L k) + (lenV (List.getD L k undef))) * (1 : Nat)) ≤ (140737488355328 : Nat))), ((k < n) ∧ (ImpOk ⟨w, [], 2, β⟩ (List.getD L k undef) .u8 (lenV (List.getD L k undef)) (capV (List.getD L k undef)) (contV w (List.getD L k undef)))), (((0 : Int) ≤ ((k : Nat) : Int)) ∧ (((k : Nat) : Int) < ((n : Nat) : Int))), ((decide (((k : Nat) : Int) < ((n : Nat) : Int))) = true)]) (by kernel_rfl)
    (aC ((by rw [innR_step hP hk, innN_step hP hk])) (aC ((by rw [innN_step hP hk])) (aC ⟨(by have hs1 := hP.lt (i := k + 1) hk; have hl := hP.llt hk; have hz := innN_step hP hk; have hs : innN w L (k + 1) = 128 + (catV w L (k + 1)).length := rfl; first | omega | (simp (disch := omega) only [wrapI]; omega)), ⟨(by have hs1 := hP.lt (i := k + 1) hk; have hl := hP.llt hk; have hz := innN_step hP hk; have hs : innN w L (k + 1) = 128 + (catV w L (k + 1)).length := rfl; first | omega | (simp (disch := omega) only [wrapI]; omega)), (by have hs1 := hP.lt (i := k + 1) hk; have hl := hP.llt hk; have hz := innN_step hP hk; have hs : innN w L (k + 1) = 128 + (catV w L (k + 1)).length := rfl; first | omega | (simp (disch := omega) only [wrapI]; omega))⟩, (by have hs1 := hP.lt (i := k + 1) hk; have hl := hP.llt hk; have hz := innN_step hP hk; have hs : innN w L (k + 1) = 128 + (catV w L (k + 1)).length := rfl; first | omega | (simp (disch := omega) only [wrapI]; omega))⟩ (aC ⟨(by have hs1 := hP.lt (i := k + 1) hk; have hl := hP.llt hk; have hz := innN_step hP hk; have hs : innN w L (k + 1) = 128 + (catV w L (k + 1)).length := rfl; first | omega | (simp (disch := omega) only [wrapI]; omega)), ((hP.imp k hk _ _))⟩ (aC ⟨(by have hs1 := hP.lt (i := k + 1) hk; have hl := hP.llt hk; have hz := innN_step hP hk; have hs : innN w L (k + 1) = 128 + (catV w L (k + 1)).length := rfl; first | omega | (simp (disch := omega) only [wrapI]; omega)), (by have hs1 := hP.lt (i := k + 1) hk; have hl := hP.llt hk; have hz := innN_step hP hk; have hs : innN w L (k + 1) = 128 + (catV w L (k + 1)).length := rfl; first | omega | (simp (disch := omega) only [wrapI]; omega))⟩ (aC (decide_eq_true (by have hs1 := hP.lt (i := k + 1) hk; have hl := hP.llt hk; have hz := innN_step hP hk; have hs : innN w L (k + 1) = 128 + (catV w L (k + 1)).length := rfl; first | omega | (simp (disch := omega) only [wrapI]; omega))) (AllP_nil)))))))
  rw [e0] at h
  exact h

set_option maxHeartbeats 1000000 in
theorem refM1B_last (w : World) (kn : Nat) (key : List Int) (n : Nat) (L : List Value) (cap0 cap1 : Nat) (h0 : (kn < (70368744177664 : Nat))) (h1 : ((n + (1 : Nat)) < (4398046511104 : Nat))) (h2 : (((List.length (catV w L n)) + (128 : Nat)) < (70368744177664 : Nat))) (hl0_0 : List.length key = kn) (hkn : 128 < kn) (β : Env) (hP : PartsOk w L n) (hL : L.length = n) (s : Unit) : Run Try.prog ⟨w, [], 2, β⟩ (loopB Try.f17 2) (refM1B_mk w kn key n L cap0 cap1 n s) (To ⟨w, [], 2, β⟩ (.exit 2) (refM1B_mk w kn key n L cap0 cap1 n s)) :=
  Run.of_outTAt (B := ⟨w, [], 2, β⟩) (Λ := noLam) (Ψ := noPsi) (fuel := 0) (ora := [false]) (l := [.forget [0, 1, 4, 5, 6, 7, 8, 9, 10] 7]) mix tabOkKF (gimp_ok (t := 22) (mk := mkS ⟨w, [], 2, β⟩ .u8) (gam306_ok.at _ _) fun v m => mkS_ok v m)
    (vc := [((decide (((n : Nat) : Int) < ((n : Nat) : Int))) = false)]) (by kernel_rfl)
    (aC (decide_eq_false (by omega)) (AllP_nil))

theorem refM1B_loop (w : World) (kn : Nat) (key : List Int) (n : Nat) (L : List Value) (cap0 cap1 : Nat) (h0 : (kn < (70368744177664 : Nat))) (h1 : ((n + (1 : Nat)) < (4398046511104 : Nat))) (h2 : (((List.length (catV w L n)) + (128 : Nat)) < (70368744177664 : Nat))) (hl0_0 : List.length key = kn) (hkn : 128 < kn) (β : Env) (hP : PartsOk w L n) (hL : L.length = n) (s : Unit) : Run Try.prog ⟨w, [], 2, β⟩ (.block 2 (.loop (loopB Try.f17 2))) (refM1B_mk w kn key n L cap0 cap1 0 s) (To ⟨w, [], 2, β⟩ .normal (refM1B_mk w kn key n L cap0 cap1 n (iter (refM1B_step) n s))) :=
  Run.count (fun k => refM1B_mk w kn key n L cap0 cap1 k (iter (refM1B_step) k s)) n (fun k hk => refM1B_round w kn key n L cap0 cap1 h0 h1 h2 hl0_0 hkn β hP hL k hk _) (ex := (.exit 2)) (by simp) (refM1B_last w kn key n L cap0 cap1 h0 h1 h2 hl0_0 hkn β hP hL _)

def refM1 (w : World) (key : List Int) (n : Nat) (L : List Value) : List Int :=
  (macD key (catV w L n))

set_option maxHeartbeats 1000000 in
theorem refM1_body0 (w : World) (kn : Nat) (key : List Int) (n : Nat) (L : List Value) (cap0 cap1 : Nat) (h0 : (kn < (70368744177664 : Nat))) (h1 : ((n + (1 : Nat)) < (4398046511104 : Nat))) (h2 : (((List.length (catV w L n)) + (128 : Nat)) < (70368744177664 : Nat))) (hl0_0 : List.length key = kn) (hkn : 128 < kn) (β : Env) (hP : PartsOk w L n) (hL : L.length = n) : Body Try.prog (tabOf tabKF) Try.f17 ⟨w, [], 2, β⟩ [.o (.a (.sl 0 0 kn cap0)), .o (.a (.sl 1 0 n cap1))] [some ⟨false, [.ints .u8 kn key]⟩, some ⟨false, [.vals n L]⟩] (fun ys _ => ys = [.g [.ints .u8 (64 : Nat) (refM1 w key n L)]]) :=
  Body.of_finAt (Γ := (gimp 22 (mkS ⟨w, [], 2, β⟩ .u8) gam306)) (Λ := lamOf [(0, ⟨[.rowS 7 .u8 1, .rowS 8 .u8 1, .forget [0, 1, 4, 5, 6, 7, 8, 9] 7], .normal, (refM1A_mk w kn key n L cap0 cap1 (128 : Nat) (iter (refM1A_step) (128 : Nat) ()))⟩), (2, ⟨[.eqS 7 (.o (.a (.rs 5 0 (innN w L (0 : Nat)) 1))), .eqB 5 (⟨true, [.ints .u8 (innN w L (0 : Nat)) (innR w key L (0 : Nat))]⟩), .forget [0, 1, 4, 5, 6, 7, 8, 9, 10] 7], .normal, (refM1B_mk w kn key n L cap0 cap1 n (iter (refM1B_step) n ()))⟩)]) (Ψ := psiOf [(3, [.eqB 4 (⟨true, [.ints .u8 (64 : Nat) (shaD key)]⟩)]), (4, [.eqB 3 (⟨true, [.ints .u8 (128 : Nat) (pk key)]⟩)]), (17, [.eqB 7 (⟨true, [.ints .u8 (64 : Nat) (shaD (innR w key L n))]⟩)])]) (fuel := 0) (m := 63) (c := (Try.f17.body.getD .skip)) mix tabOkKF (gimp_ok (t := 22) (mk := mkS ⟨w, [], 2, β⟩ .u8) (gam306_ok.at _ _) fun v m => mkS_ok v m) rfl (rs := [.cell 4 32]) rfl rfl [true, false] [.eqB 2 (⟨true, [.ints .u8 (64 : Nat) (macD key (catV w L n))]⟩)]
    (vc := [((some ⟨true, [.ints .u8 (64 : Nat) (sumR (192 : Nat) (sub ((sub (xo (92 : Int) (pk key) (128 : Nat)) (0 : Nat) (128 : Nat)) ++ (sub (shaD (innR w key L n)) (0 : Nat) (64 : Nat))) (0 : Nat) (192 : Nat)))]⟩ : Option Blk) = some ⟨true, [.ints .u8 (64 : Nat) (macD key (catV w L n))]⟩), ((((192 : Nat) ≤ (192 : Nat)) ∧ True) ∧ (((192 : Nat) = (192 : Nat)) ∧ ((192 : Nat) < (70368744177664 : Nat)))), (((128 : Nat) ≤ (128 : Nat)) ∧ (((64 : Nat) ≤ (64 : Nat)) ∧ ((64 : Nat) ≤ (64 : Nat))) ∧ ((192 : Nat) ≤ (140737488355328 : Nat))), (((0 : Int) ≤ (0 : Int)) ∧ ((0 : Int) ≤ (64 : Int))), ((some ⟨true, [.ints .u8 (64 : Nat) (sumR (innN w L n) (sub (innR w key L n) (0 : Nat) (innN w L n)))]⟩ : Option Blk) = some ⟨true, [.ints .u8 (64 : Nat) (shaD (innR w key L n))]⟩), (((((0 : Nat) + (innN w L n)) ≤ (innN w L n)) ∧ True) ∧ (((innN w L n) = (innN w L n)) ∧ ((innN w L n) < (70368744177664 : Nat)))), (Run Try.prog ⟨w, [], 2, β⟩ (.block 2 (.loop (loopB Try.f17 2))) (refM1B_mk w kn key n L cap0 cap1 0 ()) (To ⟨w, [], 2, β⟩ .normal (refM1B_mk w kn key n L cap0 cap1 n (iter (refM1B_step) n ())))), ((some ⟨true, [.ints .u8 (128 : Nat) (xo (54 : Int) (pk key) (128 : Nat))]⟩ : Option Blk) = some ⟨true, [.ints .u8 (innN w L (0 : Nat)) (innR w key L (0 : Nat))]⟩), ((.o (.a (.rs 5 0 (128 : Nat) 1)) : AV) = .o (.a (.rs 5 0 (innN w L (0 : Nat)) 1))), (Run Try.prog ⟨w, [], 2, β⟩ (.block 0 (.loop (loopB Try.f17 0))) (refM1A_mk w kn key n L cap0 cap1 0 ()) (To ⟨w, [], 2, β⟩ .normal (refM1A_mk w kn key n L cap0 cap1 (128 : Nat) (iter (refM1A_step) (128 : Nat) ())))), ((some ⟨true, [.ints .u8 (128 : Nat) (splice (List.replicate (128 : Nat) (0 : Int)) (0 : Nat) (64 : Nat) (sub (shaD key) (0 : Nat) (64 : Nat)))]⟩ : Option Blk) = some ⟨true, [.ints .u8 (128 : Nat) (pk key)]⟩), ((((64 : Nat) ≤ (64 : Nat)) ∧ ((64 : Nat) ≤ (64 : Nat))) ∧ (okP (some ((64 : Nat) ≤ (128 : Nat))))), (((0 : Int) ≤ (0 : Int)) ∧ ((0 : Int) ≤ (64 : Int))), ((some ⟨true, [.ints .u8 (64 : Nat) (sumR kn (sub key 0 kn))]⟩ : Option Blk) = some ⟨true, [.ints .u8 (64 : Nat) (shaD key)]⟩), (((((0 : Nat) + kn) ≤ kn) ∧ True) ∧ ((kn = kn) ∧ (kn < (70368744177664 : Nat)))), ((decide (((kn : Nat) : Int) > (128 : Int))) = true), (((0 : Int) ≤ (128 : Int)) ∧ ((128 : Int) ≤ (128 : Int)) ∧ ((128 : Int) ≤ (281474976710656 : Int)))]) (by kernel_rfl)
    (aC ((by rw [outR_eq])) (aC ⟨⟨(by decide), trivial⟩, ⟨rfl, (by decide)⟩⟩ (aC ⟨(by decide), ⟨(by decide), (by decide)⟩, (by decide)⟩ (aC ⟨(by decide), (by decide)⟩ (aC ((by rw [sumR_key (innR_len _ _ _ _) (by have hq : innN w L n = 128 + (catV w L n).length := rfl; omega)])) (aC ⟨⟨(by have hq : innN w L n = 128 + (catV w L n).length := rfl; omega), trivial⟩, ⟨rfl, (by have hq : innN w L n = 128 + (catV w L n).length := rfl; omega)⟩⟩ (aC (refM1B_loop w kn key n L cap0 cap1 h0 h1 h2 hl0_0 hkn β hP hL ()) (aC ((by rw [xo_all (pk_len _)]; exact congrArg (fun z => (some (⟨true, [.ints .u8 128 z]⟩ : Blk) : Option Blk)) (List.append_nil _).symm)) (aC (rfl) (aC (refM1A_loop w kn key n L cap0 cap1 h0 h1 h2 hl0_0 hkn β hP hL ()) (aC ((by rw [pk_long hl0_0 hkn])) (aC ⟨⟨(by decide), (by decide)⟩, (show ((64 : Nat) ≤ (128 : Nat)) from (by decide))⟩ (aC ⟨(by decide), (by decide)⟩ (aC ((by rw [sumR_key hl0_0 h0])) (aC ⟨⟨(by first | omega | (simp (disch := omega) only [wrapI]; omega)), trivial⟩, ⟨rfl, h0⟩⟩ (aC (decide_eq_true (by first | omega | (simp (disch := omega) only [wrapI]; omega))) (aC ⟨(by decide), (by decide), (by decide)⟩ (AllP_nil))))))))))))))))))

end Go.Proofs.Ytlmdhjojinkdbaa.X

/- The core, part 5 of 5: blocks of memory known by number, and an evaluator over loaded code, shown sound. -/
/- Rows: a law that answers true and leaves what was there as it was: from its body to its post; arguments opened. -/
namespace Go.Proofs.Ytlmdhjojinkdbaa.R
open Go Go.Proofs Go.ChangeShapes Go.WideShapes Go.ChangeAt Go.RowKit Go.Proofs.Ytlmdhjojinkdbaa.X
set_option linter.unusedVariables false

theorem below {W W' : World} (g : Grow W W') : Below W.heap.size W W' := ⟨g.os, g.tape, g.output, g.size, g.old⟩

section post
variable {H : Type} {enc : TypeId × Value → H} {P : Program}

/-- types that read again -/
def Reads (P : Program) (ts : List TypeId) : Bool := laidOutB P && ts.all fun t => P.readableRec t && decide (t < P.types.size)

theorem trodAll_grow (hl : laidOutB P = true) {W W' : World} (g : Grow W W') {sp : Nat → Bool} : ∀ {ts : List TypeId} {vs : List Value} {ds : List (DataW H)} {ps : List MemPlace}, (ts.all fun t => P.readableRec t && decide (t < P.types.size)) = true →
    DataW.TrodAll enc P W 0 (fun _ => true) true ts vs ds ps → (∀ p ∈ ps, p.block < W.heap.size) → (∀ p ∈ ps, sp p.block = true) → DataW.TrodAll enc P W' 0 sp true ts vs ds ps
  | [], [], [], ps, _, h, _, _ => h
  | [], _ :: _, _, _, _, h, _, _ => h.elim
  | [], [], _ :: _, _, _, h, _, _ => h.elim
  | _ :: _, [], _, _, _, h, _, _ => h.elim
  | _ :: _, _ :: _, [], _, _, h, _, _ => h.elim
  | t :: ts, v :: vs, d :: ds, ps, ht, h, hlt, hsp => by
    obtain ⟨p, q, hd, hr, rfl⟩ := h
    simp only [List.all_cons, Bool.and_eq_true, decide_eq_true_eq] at ht
    exact ⟨p, q, WideElems.Trod_stays hl ht.1.1 ht.1.2 hd (fun x hx => (below g).same (hlt x (by simp [hx]))) (fun x hx => hsp x (by simp [hx])),
      trodAll_grow hl g ht.2 hr (fun x hx => hlt x (by simp [hx])) (fun x hx => hsp x (by simp [hx])), rfl⟩

theorem post_true {f : Func} {s : ChangeSpec} {W W' : World} {args : Array Value} {ds : List (DataW H)} {before : List MemPlace} {tb : TypeId}
    (hreads : Reads P f.params.toList = true) (hvars : s.vars = []) (hfn : s.fn H ds = { results := [.lit (.bool true)], args := ds }) (hrt : f.resultTypes = #[tb]) (htb : P.underlying tb = some .bool)
    (hW : DataW.Whole enc P f.params.toList s.vars false W args.toList ds [] before) (g : Grow W W') : s.post enc P f false true false false W args (.bool true) W' := by
  unfold Reads at hreads
  rw [Bool.and_eq_true] at hreads
  have hW0 := hW
  obtain ⟨p, q, hA, hV, rfl, hfz, hnd⟩ := hW
  rw [hvars] at hV
  obtain ⟨_, rfl⟩ := trodVars_none hV
  have hlt : ∀ x ∈ p ++ [], x.block < W.heap.size := fun x hx => by simpa using hW0.lt x hx
  have hfn' : s.fn H (ds ++ []) = { results := [.lit (.bool true)], args := ds } := by rw [List.append_nil]; exact hfn
  refine ⟨ds, [], p ++ [], [], p ++ [], [], hW0, ?_, ?_, ?_, (below g).frame _, fun h => by cases h⟩
  · rw [hfn', hrt]; exact trodAll_cons_mk (shut_bool htb _) trodAll_mk0
  · rw [hfn']
    rw [List.append_nil] at hlt ⊢
    exact trodAll_grow hreads.1 g hreads.2 hA hlt (fun x hx => by simpa using hlt x hx)
  · rw [hfn', hvars]; exact rfl
end post

/-- what a list of arguments is, abstractly, with blocks from the i-th on -/
def Opened (W : World) (i : Nat) (vs : List Value) (avs : List AV) (K : Know) : Prop :=
  ∃ ρ : List (Option Ref), ρ.length = K.length ∧ ∀ β : Env, (∀ j, j < ρ.length → β (i + j) = (ρ[j]?).join) →
    (∀ j b, K.at j = some b → b.own = false ∧ b.holds β W (i + j) ∧ ∀ r, β (i + j) = some r → r.blk < W.heap.size) ∧ allC β avs vs

theorem Opened.nil {W : World} {i : Nat} : Opened W i [] [] [] := ⟨[], rfl, fun β _ => ⟨fun j b h => by simp [Know.at] at h, rfl⟩⟩

theorem allC_app {β : Env} : ∀ {a b : List AV} {x y : List Value}, allC β a x → allC β b y → allC β (a ++ b) (x ++ y)
  | [], _, _, _, h, h' => by cases h; exact h'
  | _ :: _, _, _, _, ⟨v, r, hv, hc, hr⟩, h' => by subst hv; exact ⟨v, _, rfl, hc, allC_app hr h'⟩

theorem Opened.app {W : World} {i : Nat} {vs vs' : List Value} {avs avs' : List AV} {K K' : Know} (h : Opened W i vs avs K) (h' : Opened W (i + K.length) vs' avs' K') : Opened W i (vs ++ vs') (avs ++ avs') (K ++ K') := by
  obtain ⟨ρ, hl, hρ⟩ := h
  obtain ⟨ρ', hl', hρ'⟩ := h'
  refine ⟨ρ ++ ρ', by simp [hl, hl'], fun β hβ => ?_⟩
  obtain ⟨h1, h2⟩ := hρ β fun j hj => by rw [hβ j (by simp; omega), List.getElem?_append_left hj]
  obtain ⟨h3, h4⟩ := hρ' β fun j hj => by
    rw [Nat.add_assoc, hβ (K.length + j) (by simp; omega), List.getElem?_append_right (by omega)]
    congr 2; omega
  refine ⟨fun j b hb => ?_, allC_app h2 h4⟩
  by_cases hj : j < K.length
  · refine h1 j b ?_
    unfold Know.at at hb ⊢; rwa [List.getElem?_append_left hj] at hb
  · have := h3 (j - K.length) b (by unfold Know.at at hb ⊢; rwa [List.getElem?_append_right (by omega)] at hb)
    rw [show i + K.length + (j - K.length) = i + j from by omega] at this
    exact this

theorem Opened.rel {W : World} {vs : List Value} {avs : List AV} {K : Know} (h : Opened W 0 vs avs K) : ∃ β : Env, RelW W [] β K W ∧ allC β avs vs := by
  obtain ⟨ρ, hl, hρ⟩ := h
  obtain ⟨h1, h2⟩ := hρ (fun j => (ρ[j]?).join) fun j hj => by rw [Nat.zero_add]
  refine ⟨_, RelW.ofRead fun j b hj => ?_, h2⟩
  have := h1 j b hj
  rw [Nat.zero_add] at this; exact this

/-- a value without places -/
theorem Opened.val {W : World} {i : Nat} {v : Value} {x : V1} (h : ∀ β : Env, x.con β v) : Opened W i [v] [.o x] [] :=
  ⟨[], rfl, fun β _ => ⟨fun j b hb => by simp [Know.at] at hb, ⟨v, [], rfl, h β, rfl⟩⟩⟩

/-- a slice of integers -/
theorem Opened.sl {W : World} {i : Nat} {k : IntKind} {a0 : Option Addr} {len cap : Nat} {L : List Int} (hL : L.length = len) (hlc : len ≤ cap)
    (hc : 0 < cap → ∃ b off arr ty fr, a0 = some ⟨b, off, none⟩ ∧ W.heap[b]? = some (.cells arr ty fr) ∧ off + len ≤ arr.size ∧ ∀ i x, L[i]? = some x → arr[off + i]? = some (.int k x)) :
    Opened W i [.slice a0 len cap] [.o (.a (.sl i 0 len cap))] [some ⟨false, [.ints k len L]⟩] := by
  have hbk : ∀ j (bk : Blk), Know.at [some ⟨false, [.ints k len L]⟩] j = some bk → j = 0 ∧ bk = ⟨false, [.ints k len L]⟩ := by
    intro j bk hj
    match j, hj with
    | 0, hj => exact ⟨rfl, (Option.some.inj hj).symm⟩
    | j + 1, hj => simp [Know.at] at hj
  by_cases h0 : 0 < cap
  · obtain ⟨b, off, arr, ty, fr, rfl, hh, hs, hx⟩ := hc h0
    have hlt : b < W.heap.size := (Array.getElem?_eq_some_iff.1 hh).1
    refine ⟨[some ⟨b, off, arr.size⟩], rfl, fun β hβ => ?_⟩
    have hb := hβ 0 (by simp)
    rw [Nat.add_zero] at hb
    have hb : β i = some ⟨b, off, arr.size⟩ := hb
    refine ⟨fun j bk hj => ?_, _, [], rfl, ⟨_, rfl, hlc, fun _ => ⟨_, hb, rfl⟩⟩, rfl⟩
    obtain ⟨rfl, rfl⟩ := hbk j bk hj
    rw [Nat.add_zero]
    refine ⟨rfl, ⟨L.map (Value.int k), ⟨_, [], by simp, ⟨hL, rfl⟩, rfl⟩, .inr ⟨_, arr, ty, fr, hb, hh, rfl, by simp; omega, ?_, fun h => by cases h⟩⟩, fun r hr => by rw [hb] at hr; cases hr; exact hlt⟩
    intro i v hv
    rw [List.getElem?_map, Option.map_eq_some_iff] at hv
    obtain ⟨x, hx', rfl⟩ := hv
    exact hx i x hx'
  · have hn : L = [] := List.length_eq_zero_iff.1 (by omega)
    subst hn
    have hl0 : len = 0 := by omega
    subst hl0
    refine ⟨[none], rfl, fun β hβ => ?_⟩
    have hb : β i = none := hβ 0 (by simp)
    refine ⟨fun j bk hj => ?_, _, [], rfl, ⟨_, rfl, hlc, fun h => absurd h h0⟩, rfl⟩
    obtain ⟨rfl, rfl⟩ := hbk j bk hj
    rw [Nat.add_zero]
    exact ⟨rfl, ⟨[], ⟨[], [], rfl, ⟨rfl, rfl⟩, rfl⟩, .inl ⟨rfl, .inl rfl⟩⟩, fun r hr => by rw [hb] at hr; cases hr⟩

section args
variable {H : Type} {enc : TypeId × Value → H} {P : Program} {W : World} {base : Nat} {sp : Nat → Bool}

/-- an argument []int, opened -/
theorem ints_arg {t e : TypeId} {k : IntKind} {v : Value} {d : DataW H} {p : List MemPlace} (ht : P.underlying t = some (.slice e)) (he : P.underlying e = some (.int k)) (hc : P.cellsOf e = 1)
    (hval : Value.okWide P W .any base t v) (h : DataW.Trod enc P W 0 (fun _ => true) true t v d p) :
    ∃ (len cap : Nat) (L : List Int), L.length = len ∧ len ≤ cap ∧ (∀ n ∈ L, (Lit.int k n).wf = true) ∧ (∀ i, Opened W i [v] [.o (.a (.sl i 0 len cap))] [some ⟨false, [.ints k len L]⟩]) ∧
      ((d = .nil ∧ len = 0) ∨ ∃ s, d = .slice (lits k L) s) := by
  obtain ⟨a0, len, cap, rfl⟩ := okWide_slice ht hval
  obtain ⟨fuel, hf⟩ := h
  rcases open_ints ht he hc hf with ⟨hcs, hx⟩ | ⟨a, len', cap', zs, hcs, _, hl, hm, hz, hx, hcell, hwz⟩
  · simp [Value.cells] at hcs
    obtain ⟨rfl, rfl, rfl⟩ := hcs
    simp only [Prod.mk.injEq] at hx
    exact ⟨0, 0, [], rfl, Nat.le_refl _, by simp, fun i => Opened.sl rfl (Nat.le_refl _) (fun h => absurd h (by omega)), .inl ⟨hx.1, rfl⟩⟩
  · simp [Value.cells] at hcs
    obtain ⟨rfl, rfl, rfl⟩ := hcs
    simp only [Prod.mk.injEq] at hx
    simp only [if_true] at hz
    refine ⟨len, cap, zs.take len, by simp; omega, hl, fun n hn => hwz n (List.mem_of_mem_take hn), fun i => Opened.sl (by simp; omega) hl fun hpos => ?_, .inr ⟨_, hx.1⟩⟩
    obtain ⟨b, off, rfl, hcell2⟩ := ints_at hcell (by omega)
    have h00 := hcell2 0 (by omega)
    unfold World.cell? at h00
    split at h00
    · rename_i arr ty fr hh
      have hget : ∀ j, j < zs.length → arr[off + j]? = some (.int k (zs.getD j 0)) := by
        intro j hj
        have h1 := hcell2 j hj
        unfold World.cell? at h1
        rw [hh] at h1
        simpa using h1
      refine ⟨b, off, arr, ty, fr, rfl, hh, ?_, ?_⟩
      · have := (Array.getElem?_eq_some_iff.1 (hget (zs.length - 1) (by omega))).1
        omega
      · intro i x hix
        rw [List.getElem?_take] at hix
        split at hix
        · have hlt := (List.getElem?_eq_some_iff.1 hix).1
          rw [hget i hlt, List.getD_eq_getElem?_getD, hix]; rfl
        · cases hix
    · cases h00

/-- an argument int -/
theorem int_arg {t : TypeId} {k : IntKind} {v : Value} {d : DataW H} {p : List MemPlace} (ht : P.underlying t = some (.int k)) (hval : Value.okWide P W .any base t v) (h : DataW.Trod enc P W 0 (fun _ => true) true t v d p) :
    ∃ n : Int, (Lit.int k n).wf = true ∧ ∀ i, Opened W i [v] [.o (.a (.i k n))] [] := by
  obtain ⟨n, rfl, _, _, hw⟩ := open_int ht hval h
  exact ⟨n, hw, fun i => Opened.val fun β => rfl⟩

end args

/-- a law whose body answers true -/
theorem calls_true {P : Program} {T : Tab} (hT : TabOk P T) {f : FuncId} {fn : Func} (hf : P.funcs[f]? = some fn) {W : World} {vs : List Value} {avs : List AV} {K : Know} (ho : Opened W 0 vs avs K)
    (h : ∀ β : Env, Body P T fn ⟨W, [], K.length, β⟩ avs K fun ys _ => ys = [.a (.b true)]) :
    Calls P f vs.toArray W fun e W' => e = .returned (.bool true) ∧ Grow W W' := by
  obtain ⟨β, hrel, hall⟩ := ho.rel
  refine Calls.mono (calls_of_body hT hf hall hrel (h β)) fun e W' h => ?_
  obtain ⟨xs, K, v, β', hx, rfl, hv, hr, _⟩ := h
  subst hx
  have hv : [v] = [Value.bool true] := hv
  simp only [List.cons.injEq, and_true] at hv
  subst hv
  exact ⟨rfl, hr.toGrow⟩
end Go.Proofs.Ytlmdhjojinkdbaa.R

/- Arguments that are structs: opened cell by cell. -/
namespace Go.Proofs.Ytlmdhjojinkdbaa.R
open Go Go.Proofs Go.ChangeShapes Go.WideShapes Go.ChangeAt Go.RowKit Go.Proofs.Ytlmdhjojinkdbaa.X
set_option linter.unusedVariables false

/-- a row of cells, abstractly, with blocks from the i-th on -/
def OpenC (W : World) (i : Nat) (cs : List Value) (l : List Atom) (K : Know) : Prop :=
  ∃ ρ : List (Option Ref), ρ.length = K.length ∧ ∀ β : Env, (∀ j, j < ρ.length → β (i + j) = (ρ[j]?).join) →
    (∀ j b, K.at j = some b → b.own = false ∧ b.holds β W (i + j) ∧ ∀ r, β (i + j) = some r → r.blk < W.heap.size) ∧ cons β l cs

theorem OpenC.nil {W : World} {i : Nat} : OpenC W i [] [] [] := ⟨[], rfl, fun β _ => ⟨fun j b h => by simp [Know.at] at h, rfl⟩⟩

theorem cons_app {β : Env} : ∀ {a b : List Atom} {x y : List Value}, cons β a x → cons β b y → cons β (a ++ b) (x ++ y)
  | [], _, _, _, h, h' => by cases h; exact h'
  | _ :: _, _, _, _, ⟨v, r, hv, hc, hr⟩, h' => by subst hv; exact ⟨v, _, by rw [List.append_assoc], hc, cons_app hr h'⟩

theorem OpenC.app {W : World} {i : Nat} {vs vs' : List Value} {l l' : List Atom} {K K' : Know} (h : OpenC W i vs l K) (h' : OpenC W (i + K.length) vs' l' K') : OpenC W i (vs ++ vs') (l ++ l') (K ++ K') := by
  obtain ⟨ρ, hl, hρ⟩ := h
  obtain ⟨ρ', hl', hρ'⟩ := h'
  refine ⟨ρ ++ ρ', by simp [hl, hl'], fun β hβ => ?_⟩
  obtain ⟨h1, h2⟩ := hρ β fun j hj => by rw [hβ j (by simp; omega), List.getElem?_append_left hj]
  obtain ⟨h3, h4⟩ := hρ' β fun j hj => by
    rw [Nat.add_assoc, hβ (K.length + j) (by simp; omega), List.getElem?_append_right (by omega)]
    congr 2; omega
  refine ⟨fun j b hb => ?_, cons_app h2 h4⟩
  by_cases hj : j < K.length
  · refine h1 j b ?_
    unfold Know.at at hb ⊢; rwa [List.getElem?_append_left hj] at hb
  · have := h3 (j - K.length) b (by unfold Know.at at hb ⊢; rwa [List.getElem?_append_right (by omega)] at hb)
    rw [show i + K.length + (j - K.length) = i + j from by omega] at this
    exact this

theorem OpenC.agg {W : World} {i : Nat} {cs : Array Value} {l : List Atom} {K : Know} (h : OpenC W i cs.toList l K) : Opened W i [.agg cs] [.o (.g l)] K := by
  obtain ⟨ρ, hl, hρ⟩ := h
  refine ⟨ρ, hl, fun β hβ => ?_⟩
  obtain ⟨h1, h2⟩ := hρ β hβ
  exact ⟨h1, _, [], rfl, ⟨cs.toList, by simp, h2⟩, rfl⟩

theorem OpenC.one {W : World} {i : Nat} {v : Value} {x : Atom} {K : Know} (h : OpenC W i [v] [x] K) : Opened W i [v] [.o (.a x)] K := by
  obtain ⟨ρ, hl, hρ⟩ := h
  refine ⟨ρ, hl, fun β hβ => ?_⟩
  obtain ⟨h1, x, y, h2, h3, h4⟩ := hρ β hβ
  cases h4
  rw [List.append_nil] at h2
  subst h2
  exact ⟨h1, _, [], rfl, h3, rfl⟩

/-- cells without places -/
theorem OpenC.val {W : World} {i : Nat} {vs : List Value} {l : List Atom} (h : ∀ β : Env, cons β l vs) : OpenC W i vs l [] :=
  ⟨[], rfl, fun β _ => ⟨fun j b hb => by simp [Know.at] at hb, h β⟩⟩

section args
variable {H : Type} {enc : TypeId × Value → H} {P : Program} {W : World} {base : Nat} {sp : Nat → Bool}

theorem OpenC.ints {i : Nat} {k : IntKind} {n : Nat} {S : List Int} (h : S.length = n) : OpenC W i (S.map (Value.int k)) [.ints k n S] [] :=
  OpenC.val fun β => ⟨_, [], by simp, ⟨h, rfl⟩, rfl⟩

theorem OpenC.int {i : Nat} {k : IntKind} {n : Int} : OpenC W i [.int k n] [.i k n] [] := OpenC.val fun β => ⟨_, [], by simp, rfl, rfl⟩

end args
end Go.Proofs.Ytlmdhjojinkdbaa.R

/- Arguments that are slices of whatever: their cells as values. -/
namespace Go.Proofs.Ytlmdhjojinkdbaa.R
open Go Go.Proofs Go.ChangeShapes Go.WideShapes Go.ChangeAt Go.RowKit Go.Proofs.Ytlmdhjojinkdbaa.X
set_option linter.unusedVariables false

theorem vals_open {W : World} {i : Nat} {a0 : Option Addr} {len cap N : Nat} {L : List Value} (hL : L.length = N) (hlc : len ≤ cap) (hone : ∀ v ∈ L, v.oneCell' = true) (h0 : cap = 0 → N = 0)
    (hc : 0 < cap → ∃ b off arr ty fr, a0 = some ⟨b, off, none⟩ ∧ W.heap[b]? = some (.cells arr ty fr) ∧ off + N ≤ arr.size ∧ ∀ i x, L[i]? = some x → arr[off + i]? = some x) :
    Opened W i [.slice a0 len cap] [.o (.a (.sl i 0 len cap))] [some ⟨false, [.vals N L]⟩] := by
  have hbk : ∀ j (bk : Blk), Know.at [some ⟨false, [.vals N L]⟩] j = some bk → j = 0 ∧ bk = ⟨false, [.vals N L]⟩ := by
    intro j bk hj
    match j, hj with
    | 0, hj => exact ⟨rfl, (Option.some.inj hj).symm⟩
    | j + 1, hj => simp [Know.at] at hj
  by_cases hcap : 0 < cap
  · obtain ⟨b, off, arr, ty, fr, rfl, hh, hs, hx⟩ := hc hcap
    have hlt : b < W.heap.size := (Array.getElem?_eq_some_iff.1 hh).1
    refine ⟨[some ⟨b, off, arr.size⟩], rfl, fun β hβ => ?_⟩
    have hb := hβ 0 (by simp)
    rw [Nat.add_zero] at hb
    have hb : β i = some ⟨b, off, arr.size⟩ := hb
    refine ⟨fun j bk hj => ?_, _, [], rfl, ⟨_, rfl, hlc, fun _ => ⟨_, hb, rfl⟩⟩, rfl⟩
    obtain ⟨rfl, rfl⟩ := hbk j bk hj
    rw [Nat.add_zero]
    exact ⟨rfl, ⟨L, ⟨_, [], by simp, ⟨hL, rfl, hone⟩, rfl⟩, .inr ⟨_, arr, ty, fr, hb, hh, rfl, by simp; omega, hx, fun h => by cases h⟩⟩, fun r hr => by rw [hb] at hr; cases hr; exact hlt⟩
  · have hN : N = 0 := h0 (by omega)
    have hn : L = [] := List.length_eq_zero_iff.1 (by omega)
    subst hn
    refine ⟨[none], rfl, fun β hβ => ?_⟩
    have hb : β i = none := hβ 0 (by simp)
    refine ⟨fun j bk hj => ?_, _, [], rfl, ⟨_, rfl, hlc, fun h => absurd h hcap⟩, rfl⟩
    obtain ⟨rfl, rfl⟩ := hbk j bk hj
    rw [Nat.add_zero]
    exact ⟨rfl, ⟨[], ⟨[], [], rfl, ⟨hL, rfl, by simp⟩, rfl⟩, .inl ⟨rfl, .inl rfl⟩⟩, fun r hr => by rw [hb] at hr; cases hr⟩

section args
variable {H : Type} {enc : TypeId × Value → H} {P : Program} {W : World} {base : Nat}

/-- a slice's cells, all its room -/
theorem slice_cells {t e : TypeId} {fuel : Nat} {cs : List Value} {x : DataW H × List MemPlace} (ht : P.underlying t = some (.slice e)) (hpos : 0 < P.cellsOf e) (h : DataW.trod enc P W 0 (fun _ => true) true fuel t cs = some x) :
    (cs = [.slice none 0 0] ∧ x.1 = .nil) ∨
    ∃ (a : Addr) (len cap n : Nat) (xs rest : List (DataW H × List MemPlace)) (A : List Value), cs = [.slice (some a) len cap] ∧ x.1 = .slice (xs.map (·.1)) (rest.map (·.1)) ∧ len ≤ cap ∧ cap ≤ maxLen ∧ xs.length = len ∧ A.length = cap * P.cellsOf e ∧
      (∀ i, i < cap * P.cellsOf e → W.cell? (a.add i) = A[i]?) ∧ ∀ i, i < cap → ∃ y, DataW.trod enc P W 0 (fun _ => true) true n e ((A.drop (i * P.cellsOf e)).take (P.cellsOf e)) = some y ∧ (i < len → xs[i]? = some y) := by
  rcases DataW.trod_slice ht h with ⟨h1, rfl⟩ | ⟨a, len, cap, elems, rest, n, _, rfl, rfl, _, hl, hm, hlen, hel, hsp, _⟩
  · exact .inl ⟨h1, rfl⟩
  obtain ⟨hrl, hr⟩ := hsp rfl
  have each : ∀ i, i < cap → ∃ y, (W.cells? 0 (a.add (i * P.cellsOf e)) (P.cellsOf e)).bind (DataW.trod enc P W 0 (fun _ => true) true n e) = some y ∧ (i < len → elems[i]? = some y) := by
    intro i hi
    by_cases h1 : i < len
    · have h2 : i < elems.length := by omega
      exact ⟨elems[i], by rw [hel i h1, List.getElem?_eq_getElem h2], fun _ => List.getElem?_eq_getElem h2⟩
    · have h2 : i - len < rest.length := by omega
      have := hr (i - len) (by omega)
      rw [show len + (i - len) = i by omega] at this
      exact ⟨rest[i - len], by rw [this, List.getElem?_eq_getElem h2], fun h => absurd h h1⟩
  have some_ : ∀ i, i < cap * P.cellsOf e → ∃ v, W.cell? (a.add i) = some v := by
    intro i hi
    have hq : i / P.cellsOf e < cap := (Nat.div_lt_iff_lt_mul hpos).2 hi
    obtain ⟨y, hy, _⟩ := each _ hq
    rw [Option.bind_eq_some_iff] at hy
    obtain ⟨ds, hds, _⟩ := hy
    obtain ⟨_, h2, h3⟩ := World.cells?_some hds
    have h4 := h3 (i % P.cellsOf e) (Nat.mod_lt _ hpos)
    rw [Addr.add_add, show i / P.cellsOf e * P.cellsOf e + i % P.cellsOf e = i from Nat.div_add_mod' _ _] at h4
    have h5 : i % P.cellsOf e < ds.length := by rw [h2]; exact Nat.mod_lt _ hpos
    exact ⟨ds[i % P.cellsOf e], by rw [h4, List.getElem?_eq_getElem h5]⟩
  refine .inr ⟨a, len, cap, n, elems, rest, (List.range (cap * P.cellsOf e)).map fun i => (W.cell? (a.add i)).getD undef, rfl, rfl, hl, hm, hlen, by simp, ?_, ?_⟩
  · intro i hi
    obtain ⟨v, hv⟩ := some_ i hi
    rw [List.getElem?_map, List.getElem?_range hi, hv]
    simp [hv]
  · intro i hi
    obtain ⟨y, hy, hy2⟩ := each i hi
    refine ⟨y, ?_, hy2⟩
    rw [Option.bind_eq_some_iff] at hy
    obtain ⟨ds, hds, hy3⟩ := hy
    obtain ⟨_, h2, h3⟩ := World.cells?_some hds
    have hle : i * P.cellsOf e + P.cellsOf e ≤ cap * P.cellsOf e := by
      have := Nat.mul_le_mul_right (P.cellsOf e) (Nat.succ_le_of_lt hi)
      rw [Nat.succ_mul] at this; exact this
    have : ((((List.range (cap * P.cellsOf e)).map fun i => (W.cell? (a.add i)).getD undef).drop (i * P.cellsOf e)).take (P.cellsOf e)) = ds := by
      refine List.ext_getElem? fun j => ?_
      by_cases hj : j < P.cellsOf e
      · rw [List.getElem?_take_of_lt hj, List.getElem?_drop, List.getElem?_map, List.getElem?_range (by omega)]
        have h4 := h3 j hj
        rw [Addr.add_add] at h4
        have h5 : j < ds.length := by omega
        simp only [Option.map_some]
        rw [h4, List.getElem?_eq_getElem h5]; rfl
      · rw [List.getElem?_eq_none (by simp; omega), List.getElem?_eq_none (by omega)]
    rw [this]; exact hy3

/-- a slice whose elements have c cells, opened -/
theorem vals_arg {t e : TypeId} {c : Nat} {v : Value} {d : DataW H} {p : List MemPlace} (ht : P.underlying t = some (.slice e)) (hcc : P.cellsOf e = c) (hpos : 0 < c)
    (hone : ∀ (n : Nat) (cs : List Value) (y : DataW H × List MemPlace), DataW.trod enc P W 0 (fun _ => true) true n e cs = some y → ∀ v ∈ cs, v.oneCell' = true)
    (hval : Value.okWide P W .any base t v) (h : DataW.Trod enc P W 0 (fun _ => true) true t v d p) :
    ∃ (len cap : Nat) (L : List Value), L.length = len * c ∧ len ≤ cap ∧ (∀ i, Opened W i [v] [.o (.a (.sl i 0 len cap))] [some ⟨false, [.vals (len * c) L]⟩]) ∧
      ((d = .nil ∧ len = 0) ∨ ∃ (n : Nat) (xs : List (DataW H × List MemPlace)) (s : List (DataW H)), d = .slice (xs.map (·.1)) s ∧ xs.length = len ∧
        ∀ i, i < len → ∃ y, DataW.trod enc P W 0 (fun _ => true) true n e ((L.drop (i * c)).take c) = some y ∧ xs[i]? = some y) := by
  subst hcc
  obtain ⟨a0, len, cap, rfl⟩ := okWide_slice ht hval
  obtain ⟨fuel, hf⟩ := h
  rcases slice_cells ht hpos hf with ⟨hcs, hx⟩ | ⟨a, len', cap', n, xs, rest, A, hcs, hx, hl, hm, hxl, hAl, hcell, hel⟩
  · simp [Value.cells] at hcs
    obtain ⟨rfl, rfl, rfl⟩ := hcs
    exact ⟨0, 0, [], by simp, Nat.le_refl _, fun i => vals_open (by simp) (Nat.le_refl _) (by simp) (fun _ => by simp) (fun h => absurd h (by omega)), .inl ⟨hx, rfl⟩⟩
  · simp [Value.cells] at hcs
    obtain ⟨rfl, rfl, rfl⟩ := hcs
    have hle : len * P.cellsOf e ≤ cap * P.cellsOf e := Nat.mul_le_mul_right _ hl
    refine ⟨len, cap, A.take (len * P.cellsOf e), by simp; omega, hl, fun i => vals_open (by simp; omega) hl ?_ ?_ fun hcap => ?_, .inr ⟨n, xs, _, hx, hxl, ?_⟩⟩
    · intro v hv
      obtain ⟨j, hj⟩ := List.getElem?_of_mem hv
      rw [List.getElem?_take] at hj
      split at hj
      · rename_i hjl
        have hq : j / P.cellsOf e < cap := (Nat.div_lt_iff_lt_mul hpos).2 (by omega)
        obtain ⟨y, hy, _⟩ := hel _ hq
        refine hone _ _ _ hy v (List.mem_of_getElem? (i := j % P.cellsOf e) ?_)
        rw [List.getElem?_take_of_lt (Nat.mod_lt _ hpos), List.getElem?_drop, Nat.div_add_mod']; exact hj
      · cases hj
    · intro hc0; have : len = 0 := by omega
      rw [this, Nat.zero_mul]
    · have hp : 0 < cap * P.cellsOf e := Nat.mul_pos hcap hpos
      have h0 := hcell 0 hp
      obtain ⟨v0, hv0⟩ : ∃ v0, A[0]? = some v0 := ⟨A[0], List.getElem?_eq_getElem (by omega)⟩
      rw [hv0] at h0
      obtain ⟨b, off, spot⟩ := a
      have hspot : spot = none := by simpa [Addr.add] using World.cell?_spot h0
      subst hspot
      have hc2 : ∀ j, j < cap * P.cellsOf e → W.cell? ⟨b, off + j, none⟩ = A[j]? := fun j hj => by rw [← Go.WideShapes.add_plain]; exact hcell j hj
      have h00 := hc2 0 hp
      rw [hv0] at h00
      unfold World.cell? at h00
      split at h00
      · rename_i arr ty fr hh
        have hget : ∀ j, j < cap * P.cellsOf e → arr[off + j]? = A[j]? := by
          intro j hj
          have h1 := hc2 j hj
          unfold World.cell? at h1
          rw [hh] at h1
          simpa using h1
        refine ⟨b, off, arr, ty, fr, rfl, hh, ?_, ?_⟩
        · by_cases hz : len * P.cellsOf e = 0
          · have := (Array.getElem?_eq_some_iff.1 ((hget 0 hp).trans hv0)).1
            omega
          · have h1 := hget (len * P.cellsOf e - 1) (by omega)
            rw [List.getElem?_eq_getElem (by omega)] at h1
            have := (Array.getElem?_eq_some_iff.1 h1).1
            omega
        · intro i x hix
          rw [List.getElem?_take] at hix
          split at hix
          · rw [hget i (by omega), hix]
          · cases hix
      · cases h00
    · intro i hi
      obtain ⟨y, hy, hy2⟩ := hel i (by omega)
      refine ⟨y, ?_, hy2 hi⟩
      rw [← hy]
      congr 1
      refine List.ext_getElem? fun j => ?_
      by_cases hj : j < P.cellsOf e
      · rw [List.getElem?_take_of_lt hj, List.getElem?_take_of_lt hj, List.getElem?_drop, List.getElem?_drop, List.getElem?_take_of_lt]
        have := Nat.mul_le_mul_right (P.cellsOf e) (Nat.succ_le_of_lt hi)
        rw [Nat.succ_mul] at this; omega
      · rw [List.getElem?_eq_none (by simp; omega), List.getElem?_eq_none (by simp; omega)]

/-- a slice of integers that lies in the world, as it is taken in -/
theorem imp_of {t e : TypeId} {k : IntKind} {n : Nat} {v : Value} {y : DataW H × List MemPlace} (ht : P.underlying t = some (.slice e)) (he : P.underlying e = some (.int k)) (hc : P.cellsOf e = 1)
    (h : DataW.trod enc P W 0 (fun _ => true) true n t [v] = some y) :
    (∀ (m : Nat) (β : Env), ImpOk ⟨W, [], m, β⟩ v k (lenV v) (capV v) (contV W v)) ∧ ((y.1 = .nil ∧ lenV v = 0) ∨ ∃ (L : List Int) (s : List (DataW H)), y.1 = .slice (lits k L) s ∧ L.length = lenV v) := by
  rcases open_ints ht he hc h with ⟨hcs, rfl⟩ | ⟨a, len, cap, zs, hcs, _, hl, hm, hz, rfl, hcell, hwz⟩
  · simp only [List.cons.injEq, and_true] at hcs
    subst hcs
    exact ⟨fun m β => ⟨none, rfl, Nat.le_refl _, rfl, fun h => absurd h (by simp [capV])⟩, .inl ⟨rfl, rfl⟩⟩
  · simp only [List.cons.injEq, and_true] at hcs
    subst hcs
    simp only [if_true] at hz
    refine ⟨fun m β => ?_, .inr ⟨_, _, rfl, by simp [lenV]; omega⟩⟩
    by_cases hcap : 0 < cap
    · obtain ⟨b, off, rfl, hcell2⟩ := ints_at hcell (by omega)
      have h00 := hcell2 0 (by omega)
      unfold World.cell? at h00
      split at h00
      · rename_i arr ty fr hh
        have hget : ∀ j, j < zs.length → arr[off + j]? = some (.int k (zs.getD j 0)) := by
          intro j hj
          have h1 := hcell2 j hj
          unfold World.cell? at h1
          rw [hh] at h1
          simpa using h1
        have hcont : contV W (.slice (some ⟨b, off, none⟩) len cap) = zs.take len := by
          unfold contV
          simp only [hh]
          refine List.ext_getElem? fun j => ?_
          by_cases hj : j < len
          · rw [List.getElem?_map, List.getElem?_range hj, List.getElem?_take_of_lt hj]
            have h1 := hget j (by omega)
            simp only [Option.map_some, Array.getD_eq_getD_getElem?, h1, Option.getD_some, intV]
            rw [List.getD_eq_getElem?_getD, List.getElem?_eq_getElem (by omega)]; rfl
          · rw [List.getElem?_eq_none (by simp; omega), List.getElem?_eq_none (by simp; omega)]
        refine ⟨_, rfl, hl, by rw [hcont]; simp [lenV]; omega, fun _ => ⟨b, off, rfl, (Array.getElem?_eq_some_iff.1 hh).1, by simp, fun _ => ⟨arr, ty, fr, hh, ?_, ?_⟩⟩⟩
        · have := (Array.getElem?_eq_some_iff.1 (hget (zs.length - 1) (by omega))).1
          simp only [lenV]; omega
        · intro i x hix
          rw [hcont, List.getElem?_take] at hix
          split at hix
          · have hlt := (List.getElem?_eq_some_iff.1 hix).1
            rw [hget i hlt, List.getD_eq_getElem?_getD, hix]; rfl
          · cases hix
      · cases h00
    · have h0 : len = 0 := by omega
      subst h0
      refine ⟨_, rfl, hl, ?_, fun h => absurd h hcap⟩
      unfold contV
      simp only [List.range_zero, List.map_nil, lenV]
      split <;> rfl
end args
end Go.Proofs.Ytlmdhjojinkdbaa.R

/- A row that grows while its older view is read on: its room laid open; laid still. -/
namespace Go.Proofs.Ytlmdhjojinkdbaa.X
open Go
set_option linter.unusedVariables false

/-- cells of which the first ones are told -/
def Pre (β : Env) (cells c1 : List Atom) : Prop := ∀ cs, cons β cells cs → ∃ x y, cs = x ++ y ∧ cons β c1 x
theorem Pre.ints {β : Env} {k : IntKind} {n m : Nat} {L : List Int} (h : m ≤ n) (r : List Atom) : Pre β (.ints k n L :: r) [.ints k m (L.take m)] := by
  rintro cs ⟨x, y, rfl, ⟨hl, rfl⟩, _⟩
  refine ⟨(L.take m).map (Value.int k), (L.drop m).map (Value.int k) ++ y, ?_, cons_single.2 ⟨by simp; omega, rfl⟩⟩
  rw [← List.append_assoc, ← List.map_append, List.take_append_drop]
theorem Pre.all {β : Env} {k : IntKind} {n : Nat} {L : List Int} (r : List Atom) : Pre β (.ints k n L :: r) [.ints k n L] := by
  rintro cs ⟨x, y, rfl, h, _⟩
  exact ⟨x, y, rfl, cons_single.2 h⟩
theorem Rel.cast {B : Bs} {β : Env} {s s' : St} {a : Act} {w : World} (h : Rel B β s a w) (e : s = s') : Rel B β s' a w := e ▸ h
theorem Pre.holds {β : Env} {w : World} {j : Nat} {own : Bool} {cells c1 : List Atom} (hp : Pre β cells c1) (h : Blk.holds β w j ⟨own, cells⟩) : Blk.holds β w j ⟨false, c1⟩ := by
  obtain ⟨cs, hc, hd⟩ := h
  obtain ⟨x, y, rfl, hx⟩ := hp cs hc
  refine ⟨x, hx, ?_⟩
  rcases hd with ⟨h1, _⟩ | ⟨r, arr, ty, fr, hr, hh, hsz, hl, ha, _⟩
  · exact .inl ⟨(List.append_eq_nil_iff.1 h1).1, .inl rfl⟩
  · refine .inr ⟨r, arr, ty, fr, hr, hh, hsz, ?_, ?_, fun h => by cases h⟩
    · rw [List.length_append] at hl; omega
    · intro i v hv
      exact ha i v (by rw [List.getElem?_append_left (List.getElem?_eq_some_iff.1 hv).1]; exact hv)

end Go.Proofs.Ytlmdhjojinkdbaa.X

/- Printed by a tool of this session. -/
namespace Go.Proofs.Ytlmdhjojinkdbaa.X
open Go Go.Proofs
set_option linter.unusedVariables false
set_option linter.unusedSimpArgs false
set_option maxRecDepth 100000
theorem teOB_3 : TEOk Try.prog 3 ⟨.int .i64, 1, 8, [.i .i64 (0 : Int)], false⟩ :=
  TEOk.of Try.underlying3 (i := Try.t3) (by kernel_rfl) rfl rfl rfl (by kernel_rfl) (fun h => by cases h) (by kernel_rfl)
theorem teOB_5 : TEOk Try.prog 5 ⟨.int .u8, 1, 1, [.i .u8 (0 : Int)], false⟩ :=
  TEOk.of Try.underlying5 (i := Try.t5) (by kernel_rfl) rfl rfl rfl (by kernel_rfl) (fun h => by cases h) (by kernel_rfl)
theorem teOB_22 : TEOk Try.prog 22 ⟨.slice 5, 1, 24, [.raw (.slice none 0 0)], false⟩ :=
  TEOk.of Try.underlying22 (i := Try.t22) (by kernel_rfl) rfl rfl rfl (by kernel_rfl) (fun h => by cases h) (by kernel_rfl)
theorem teOB_23 : TEOk Try.prog 23 ⟨.slice 22, 1, 24, [.raw (.slice none 0 0)], false⟩ :=
  TEOk.of Try.underlying23 (i := Try.t23) (by kernel_rfl) rfl rfl rfl (by kernel_rfl) (fun h => by cases h) (by kernel_rfl)
theorem teOB_32 : TEOk Try.prog 32 ⟨.array 64 5, 64, 64, [.ints .u8 (64 : Nat) ([0, 0, 0, 0, 0, 0, 0, 0, 0, 0, 0, 0, 0, 0, 0, 0, 0, 0, 0, 0, 0, 0, 0, 0, 0, 0, 0, 0, 0, 0, 0, 0, 0, 0, 0, 0, 0, 0, 0, 0, 0, 0, 0, 0, 0, 0, 0, 0, 0, 0, 0, 0, 0, 0, 0, 0, 0, 0, 0, 0, 0, 0, 0, 0] : List Int)], true⟩ :=
  TEOk.of Try.underlying32 (i := Try.t32) (by kernel_rfl) rfl rfl rfl (by kernel_rfl) (fun _ => Try.eqGuardType32) (by kernel_rfl)
theorem teOB_57 : TEOk Try.prog 57 ⟨.pointer 134, 1, 8, [.raw (.pointer none)], false⟩ :=
  TEOk.of Try.underlying57 (i := Try.t57) (by kernel_rfl) rfl rfl rfl (by kernel_rfl) (fun h => by cases h) (by kernel_rfl)
theorem teOB_132 : TEOk Try.prog 132 ⟨Try.t131.desc, 129, 129, [.ints .u8 (64 : Nat) ([0, 0, 0, 0, 0, 0, 0, 0, 0, 0, 0, 0, 0, 0, 0, 0, 0, 0, 0, 0, 0, 0, 0, 0, 0, 0, 0, 0, 0, 0, 0, 0, 0, 0, 0, 0, 0, 0, 0, 0, 0, 0, 0, 0, 0, 0, 0, 0, 0, 0, 0, 0, 0, 0, 0, 0, 0, 0, 0, 0, 0, 0, 0, 0] : List Int), .ints .u8 (64 : Nat) ([0, 0, 0, 0, 0, 0, 0, 0, 0, 0, 0, 0, 0, 0, 0, 0, 0, 0, 0, 0, 0, 0, 0, 0, 0, 0, 0, 0, 0, 0, 0, 0, 0, 0, 0, 0, 0, 0, 0, 0, 0, 0, 0, 0, 0, 0, 0, 0, 0, 0, 0, 0, 0, 0, 0, 0, 0, 0, 0, 0, 0, 0, 0, 0] : List Int), .b false], false⟩ :=
  TEOk.of Try.underlying132 (i := Try.t132) (by kernel_rfl) rfl rfl rfl (by kernel_rfl) (fun h => by cases h) (by kernel_rfl)
theorem teOB_134 : TEOk Try.prog 134 ⟨Try.t133.desc, 130, 144, [.ints .u8 (64 : Nat) ([0, 0, 0, 0, 0, 0, 0, 0, 0, 0, 0, 0, 0, 0, 0, 0, 0, 0, 0, 0, 0, 0, 0, 0, 0, 0, 0, 0, 0, 0, 0, 0, 0, 0, 0, 0, 0, 0, 0, 0, 0, 0, 0, 0, 0, 0, 0, 0, 0, 0, 0, 0, 0, 0, 0, 0, 0, 0, 0, 0, 0, 0, 0, 0] : List Int), .ints .u8 (64 : Nat) ([0, 0, 0, 0, 0, 0, 0, 0, 0, 0, 0, 0, 0, 0, 0, 0, 0, 0, 0, 0, 0, 0, 0, 0, 0, 0, 0, 0, 0, 0, 0, 0, 0, 0, 0, 0, 0, 0, 0, 0, 0, 0, 0, 0, 0, 0, 0, 0, 0, 0, 0, 0, 0, 0, 0, 0, 0, 0, 0, 0, 0, 0, 0, 0] : List Int), .b false, .i .i64 (0 : Int)], false⟩ :=
  TEOk.of Try.underlying134 (i := Try.t134) (by kernel_rfl) rfl rfl rfl (by kernel_rfl) (fun h => by cases h) (by kernel_rfl)
noncomputable def tabOB : List (Nat × TE) := [(3, ⟨.int .i64, 1, 8, [.i .i64 (0 : Int)], false⟩), (5, ⟨.int .u8, 1, 1, [.i .u8 (0 : Int)], false⟩), (22, ⟨.slice 5, 1, 24, [.raw (.slice none 0 0)], false⟩), (23, ⟨.slice 22, 1, 24, [.raw (.slice none 0 0)], false⟩), (32, ⟨.array 64 5, 64, 64, [.ints .u8 (64 : Nat) ([0, 0, 0, 0, 0, 0, 0, 0, 0, 0, 0, 0, 0, 0, 0, 0, 0, 0, 0, 0, 0, 0, 0, 0, 0, 0, 0, 0, 0, 0, 0, 0, 0, 0, 0, 0, 0, 0, 0, 0, 0, 0, 0, 0, 0, 0, 0, 0, 0, 0, 0, 0, 0, 0, 0, 0, 0, 0, 0, 0, 0, 0, 0, 0] : List Int)], true⟩), (57, ⟨.pointer 134, 1, 8, [.raw (.pointer none)], false⟩), (132, ⟨Try.t131.desc, 129, 129, [.ints .u8 (64 : Nat) ([0, 0, 0, 0, 0, 0, 0, 0, 0, 0, 0, 0, 0, 0, 0, 0, 0, 0, 0, 0, 0, 0, 0, 0, 0, 0, 0, 0, 0, 0, 0, 0, 0, 0, 0, 0, 0, 0, 0, 0, 0, 0, 0, 0, 0, 0, 0, 0, 0, 0, 0, 0, 0, 0, 0, 0, 0, 0, 0, 0, 0, 0, 0, 0] : List Int), .ints .u8 (64 : Nat) ([0, 0, 0, 0, 0, 0, 0, 0, 0, 0, 0, 0, 0, 0, 0, 0, 0, 0, 0, 0, 0, 0, 0, 0, 0, 0, 0, 0, 0, 0, 0, 0, 0, 0, 0, 0, 0, 0, 0, 0, 0, 0, 0, 0, 0, 0, 0, 0, 0, 0, 0, 0, 0, 0, 0, 0, 0, 0, 0, 0, 0, 0, 0, 0] : List Int), .b false], false⟩), (134, ⟨Try.t133.desc, 130, 144, [.ints .u8 (64 : Nat) ([0, 0, 0, 0, 0, 0, 0, 0, 0, 0, 0, 0, 0, 0, 0, 0, 0, 0, 0, 0, 0, 0, 0, 0, 0, 0, 0, 0, 0, 0, 0, 0, 0, 0, 0, 0, 0, 0, 0, 0, 0, 0, 0, 0, 0, 0, 0, 0, 0, 0, 0, 0, 0, 0, 0, 0, 0, 0, 0, 0, 0, 0, 0, 0] : List Int), .ints .u8 (64 : Nat) ([0, 0, 0, 0, 0, 0, 0, 0, 0, 0, 0, 0, 0, 0, 0, 0, 0, 0, 0, 0, 0, 0, 0, 0, 0, 0, 0, 0, 0, 0, 0, 0, 0, 0, 0, 0, 0, 0, 0, 0, 0, 0, 0, 0, 0, 0, 0, 0, 0, 0, 0, 0, 0, 0, 0, 0, 0, 0, 0, 0, 0, 0, 0, 0] : List Int), .b false, .i .i64 (0 : Int)], false⟩)]
theorem tabOkOB : TabOk Try.prog (tabOf tabOB) := (tabOf_cons teOB_3 (tabOf_cons teOB_5 (tabOf_cons teOB_22 (tabOf_cons teOB_23 (tabOf_cons teOB_32 (tabOf_cons teOB_57 (tabOf_cons teOB_132 (tabOf_cons teOB_134 tabOf_nil))))))))

def mkBy (i k : Int) : Int :=
  (IntKind.u8.wrap (IntKind.i64.wrap ((IntKind.i64.wrap ((IntKind.i64.wrap (i * (31 : Int))) + (IntKind.i64.wrap (k * (7 : Int))))) + (5 : Int))))

set_option maxHeartbeats 1000000 in
theorem mkBy_body0 (i k : Int) (w : World) : Body Try.prog (tabOf tabOB) Try.f40 ⟨w, [], 0, noEnv⟩ (toA [.a (.i .i64 i), .a (.i .i64 k)]) [] (fun ys _ => ys = [.a (.i .u8 (mkBy i k))]) :=
  Body.of_fin (Γ := gam17) (Λ := noLam) (Ψ := noPsi) (fuel := 0) (m := 12) (c := (Try.f40.body.getD .skip)) mix tabOkOB gam17_ok rfl (rs := [.tmp 4]) rfl rfl [] []
    (vc := []) (by kernel_rfl)
    (AllP_nil)

theorem mkBy_body (i k : Int) (w : World) : Body Try.prog (tabOf tabOB) Try.f40 ⟨w, [], 0, noEnv⟩ (toA [.a (.i .i64 i), .a (.i .i64 k)]) [] (fun ys _ => ys = [.a (.i .u8 (mkBy i k))]) :=
  Body.lens (c := (Try.f40.body.getD .skip)) rfl fun h => mkBy_body0 i k  w

theorem mkBy_pure (i k : Int) : PureC Try.prog 40 [.a (.i .i64 i), .a (.i .i64 k)] [.a (.i .u8 (mkBy i k))] :=
  PureC.of_body tabOkOB Try.func40 rfl rfl fun w => mkBy_body i k w

noncomputable def gam34 : Gam := gpure 40 (fun args => match args with | [.o (.a (.i .i64 i)), .o (.a (.i .i64 k))] => some (none, [.a (.i .u8 (mkBy i k))]) | _ => none) gam17
theorem gam34_ok : GamOk Try.prog gam34 := gpure_ok gam17_ok Try.call40 (by
  intro args vc xs h hv
  split at h
  · simp only [Option.some.injEq, Prod.mk.injEq] at h; obtain ⟨rfl, rfl⟩ := h; exact ⟨_, by rfl, mkBy_pure _ _⟩
  · simp at h)

end Go.Proofs.Ytlmdhjojinkdbaa.X

/- Rows of marks; drawn again and again. -/
namespace Go.Proofs.Ytlmdhjojinkdbaa.X
open Go Go.Proofs
set_option linter.unusedVariables false
set_option maxRecDepth 100000

def rwB (i : Int) : Nat → List Int
  | 0 => []
  | n + 1 => rwB i n ++ [mkBy i ((n : Nat) : Int)]
theorem rwB_len (i : Int) : ∀ n, (rwB i n).length = n
  | 0 => rfl
  | n + 1 => by show (rwB i n ++ _).length = _; rw [List.length_append, rwB_len i n]; rfl
/-- a row of which the first k are marked -/
def mkP (L : List Int) (i : Int) (k : Nat) : List Int := rwB i k ++ L.drop k
theorem mkP_step {L : List Int} {i : Int} {n k : Nat} (l : L.length = n) (h : k < n) : List.set (mkP L i k) k (mkBy i ((k : Nat) : Int)) = mkP L i (k + 1) := by
  have a := rwB_len i k
  have e : L.drop k = L[k] :: L.drop (k + 1) := List.drop_eq_getElem_cons (by omega)
  show List.set (rwB i k ++ L.drop k) k _ = (rwB i k ++ [mkBy i ((k : Nat) : Int)]) ++ L.drop (k + 1)
  rw [e, List.set_append_right _ _ (by omega), a, Nat.sub_self, List.set_cons_zero, List.append_assoc]
  rfl
theorem mkP_all {L : List Int} {i : Int} {n : Nat} (l : L.length = n) : mkP L i n = rwB i n := by
  unfold mkP
  rw [List.drop_of_length_le (by omega), List.append_nil]
end Go.Proofs.Ytlmdhjojinkdbaa.X

/- A walk begun anew where it stands; families of slices that the walk itself made. -/
namespace Go.Proofs.Ytlmdhjojinkdbaa.X
open Go Go.Proofs
set_option linter.unusedVariables false

/-- the blocks that are known as own -/
def ownBlks (β : Env) (K : Know) : List Nat := (List.range K.length).filterMap fun j => match K.at j with
  | some b => if b.own = true then (β j).map Ref.blk else none
  | none => none
theorem mem_ownBlks {β : Env} {K : Know} {x : Nat} : x ∈ ownBlks β K ↔ ∃ j b r, K.at j = some b ∧ b.own = true ∧ β j = some r ∧ r.blk = x := by
  unfold ownBlks
  rw [List.mem_filterMap]
  constructor
  · rintro ⟨j, _, h⟩
    split at h
    · rename_i b hb
      split at h
      · rename_i ho
        rw [Option.map_eq_some_iff] at h
        obtain ⟨r, hr, hx⟩ := h
        exact ⟨j, b, r, hb, ho, hr, hx⟩
      · cases h
    · cases h
  · rintro ⟨j, b, r, hb, ho, hr, hx⟩
    have hj : j < K.length := by
      rcases Nat.lt_or_ge j K.length with h | h
      · exact h
      · unfold Know.at at hb; rw [List.getElem?_eq_none h] at hb; cases hb
    refine ⟨j, List.mem_range.2 hj, ?_⟩
    rw [hb]
    simp only
    rw [if_pos ho, hr]
    exact congrArg some hx

section anew
variable {P : Program} {B : Bs} {β β' : Env} {st st' : St} {a a' : Act} {w w' : World}

theorem Rel.anew (h : Rel B β st a w) : Rel ⟨w, ownBlks β st.K, B.k, β⟩ β st a w :=
  ⟨⟨h.relw.holds, h.relw.apart, fun j b r hj ho hr => .inr (mem_ownBlks.2 ⟨j, b, r, hj, ho, hr, rfl⟩), h.relw.live, fun _ _ _ => rfl, Nat.le_refl _, rfl, rfl, rfl⟩, h.defers, h.size, h.slot, fun _ _ => rfl, h.len⟩

theorem Rel.back (h : Rel B β st a w) (h' : Rel ⟨w, ownBlks β st.K, B.k, β⟩ β' st' a' w') : Rel B β' st' a' w' := by
  have hown : ∀ x, x ∈ ownBlks β st.K → B.w0.heap.size ≤ x ∨ x ∈ B.rw := by
    intro x hx
    obtain ⟨j, b, r, hj, ho, hr, rfl⟩ := mem_ownBlks.1 hx
    exact h.relw.mine j b r hj ho hr
  refine ⟨⟨h'.relw.holds, h'.relw.apart, ?_, h'.relw.live, ?_, Nat.le_trans h.relw.size h'.relw.size, h'.relw.os.trans h.relw.os, h'.relw.tape.trans h.relw.tape, h'.relw.output.trans h.relw.output⟩, h'.defers, h'.size, h'.slot, fun j hj => (h'.fix j hj).trans (h.fix j hj), h'.len⟩
  · intro j b r hj ho hr
    rcases h'.relw.mine j b r hj ho hr with h1 | h1
    · exact .inl (Nat.le_trans h.relw.size h1)
    · exact hown _ h1
  · intro b hb hn
    have h1 : b ∉ ownBlks β st.K := fun hx => by
      rcases hown b hx with h2 | h2
      · omega
      · exact hn h2
    exact (h'.relw.old b (Nat.lt_of_lt_of_le hb h.relw.size) h1).trans (h.relw.old b hb hn)

theorem Run.anew {c : Code} {post : Ex → St → Prop} (h : ∀ β a w, Rel B β st a w → Run P ⟨w, ownBlks β st.K, B.k, β⟩ c st post) : Run P B c st post :=
  fun β a w hR Q hq => h β a w hR β a w hR.anew Q fun e st' β' a' w' hp hR' => hq e st' β' a' w' hp (hR.back hR')
end anew

/-- a loop that makes a family: what it has made so far lies in the world, told by Inv -/
theorem Run.fam {P : Program} {σ : Type} {c rest : Code} {id : Nat} {post : Ex → St → Prop} (mk : Nat → σ → St) (Inv : World → List Nat → Nat → σ → Prop) (n kk : Nat)
    (hround : ∀ w rw β0 k s, k < n → Inv w rw k s → ∃ md, Run P ⟨w, rw, kk, β0⟩ c (mk k s) (To ⟨w, rw, kk, β0⟩ .normal md) ∧
      ∀ β a' w', Rel ⟨w, rw, kk, β0⟩ β md a' w' → ∃ β' s', Rel ⟨w, rw, kk, β0⟩ β' (mk (k + 1) s') a' w' ∧ Inv w' (ownBlks β' (mk (k + 1) s').K) (k + 1) s')
    (hlast : ∀ w rw β0 s, Inv w rw n s → Run P ⟨w, rw, kk, β0⟩ c (mk n s) (To ⟨w, rw, kk, β0⟩ (.exit id) (mk n s)))
    (hrest : ∀ w rw β0 s, Inv w rw n s → Run P ⟨w, rw, kk, β0⟩ rest (mk n s) post)
    {w0 : World} {rw0 : List Nat} {β0 : Env} {s0 : σ} (h0 : Inv w0 rw0 0 s0) : Run P ⟨w0, rw0, kk, β0⟩ (.seq (.block id (.loop c)) rest) (mk 0 s0) post := by
  have key : ∀ Q1 : Exit → Act → World → Prop, (∀ w1 rw1 β1 s β a w, Inv w1 rw1 n s → Rel ⟨w1, rw1, kk, β1⟩ β (mk n s) a w →
        (∀ β' st' a' w', Rel ⟨w1, rw1, kk, β1⟩ β' st' a' w' → Rel ⟨w0, rw0, kk, β0⟩ β' st' a' w') → Q1 (.exit id) a w) → ∀ m k, k + m = n → ∀ w1 rw1 β1 s β a w, Inv w1 rw1 k s → Rel ⟨w1, rw1, kk, β1⟩ β (mk k s) a w →
      (∀ β' st' a' w', Rel ⟨w1, rw1, kk, β1⟩ β' st' a' w' → Rel ⟨w0, rw0, kk, β0⟩ β' st' a' w') → Code.rounds P c Q1 (m + 1) a w := by
    intro Q1 hQ1 m
    induction m with
    | zero =>
      intro k hk w1 rw1 β1 s β a w hi hR hback
      have : k = n := by omega
      subst this
      rw [rounds_succ]
      refine hlast w1 rw1 β1 s hi β a w hR _ fun e st' β' a' w' hp hR' => ?_
      obtain ⟨rfl, hw⟩ := hp
      obtain ⟨β2, hR2⟩ := hw β' a' w' hR'
      exact hQ1 w1 rw1 β1 s β2 a' w' hi hR2 hback
    | succ m ih =>
      intro k hk w1 rw1 β1 s β a w hi hR hback
      rw [rounds_succ]
      obtain ⟨md, hrun, hconv⟩ := hround w1 rw1 β1 k s (by omega) hi
      refine hrun β a w hR _ fun e st' β' a' w' hp hR' => ?_
      obtain ⟨rfl, hw⟩ := hp
      obtain ⟨β2, hR2⟩ := hw β' a' w' hR'
      obtain ⟨β3, s', hR3, hi'⟩ := hconv β2 a' w' hR2
      exact ih (k + 1) (by omega) w' (ownBlks β3 (mk (k + 1) s').K) β3 s' β3 a' w' hi' hR3.anew fun β' st' a'' w'' h => hback _ _ _ _ (hR3.back h)
  intro β a w hR Q hq
  refine wp_seq (wp_block (wp_loop_rounds (n + 1) (key _ ?_ n 0 (by omega) w0 rw0 β0 s0 β a w h0 hR fun _ _ _ _ h => h)))
  intro w1 rw1 β1 s β2 a' w' hi hR2 hback
  show (if id = id then _ else _)
  rw [if_pos rfl]
  exact hrest w1 rw1 β1 s hi β2 a' w' hR2 Q fun e st' β' a' w' hp hR' => hq e st' β' a' w' hp (hback _ _ _ _ hR')

/-- slices that lie in a world, outside of the own blocks -/
structure FamR (w : World) (rw : List Nat) (L : List Value) (C : List (List Int)) : Prop where
  len : L.length = C.length
  imp : ∀ i, i < C.length → ∀ (k : Nat) (β : Env), ImpOk ⟨w, rw, k, β⟩ (L.getD i undef) .u8 (lenV (L.getD i undef)) (capV (L.getD i undef)) (contV w (L.getD i undef))
  cont : ∀ i, i < C.length → contV w (L.getD i undef) = C.getD i []

theorem FamR.nil {w : World} {rw : List Nat} : FamR w rw [] [] := ⟨rfl, fun i hi => absurd hi (Nat.not_lt_zero i), fun i hi => absurd hi (Nat.not_lt_zero i)⟩

/-- what single cells of a list of slices show -/
def famC (K : Know) (a : Atom) : Option (Prop × List Int) :=
  match a with
  | .sl j c n _ => (match K.at j with
    | some b => (match segR b.cells c n with
      | some (p, [.ints .u8 _ l]) => some (p, l)
      | _ => none)
    | none => none)
  | .rs j c n _ => (match K.at j with
    | some b => (match segR b.cells c n with
      | some (p, [.ints .u8 _ l]) => some (p, l)
      | _ => none)
    | none => none)
  | .raw (.slice none 0 0) => some (True, [])
  | _ => none
/-- a cell names no block below kb that is own -/
def farC (K : Know) (kb : Nat) (a : Atom) : Bool :=
  match a with
  | .sl j _ _ _ => decide (kb ≤ j)
  | .rs j _ _ _ => decide (kb ≤ j)
  | .raw (.slice none 0 0) => true
  | _ => false

/-- the own blocks below kb, as they are known later -/
def Less (K K' : Know) (kb : Nat) : Prop := ∀ j b, K'.at j = some b → b.own = true → j < kb ∧ ∃ c, K.at j = some c ∧ c.own = true

section fam
variable {w0 w : World} {rw : List Nat} {β : Env} {K K' : Know} {kb : Nat}

theorem Less.notin (hR : RelW w0 rw β K w) (hL : Less K K' kb) {j : Nat} {b : Blk} {r : Ref} (hj : K.at j = some b) (hk : kb ≤ j) (hr : β j = some r) : r.blk ∉ ownBlks β K' := fun hx => by
  obtain ⟨x, b', s, hx1, ho, hs, he⟩ := mem_ownBlks.1 hx
  obtain ⟨hlt, c, hc, hco⟩ := hL x b' hx1 ho
  exact hR.apart x j c b s r hc hj hco (by omega) hs hr he
theorem Less.old (hR : RelW w0 rw β K w) (hL : Less K K' kb) {b : Nat} (h1 : b < w0.heap.size) (h2 : b ∉ rw) : b ∉ ownBlks β K' := fun hx => by
  obtain ⟨x, b', s, hx1, ho, hs, he⟩ := mem_ownBlks.1 hx
  obtain ⟨hlt, c, hc, hco⟩ := hL x b' hx1 ho
  rcases hR.mine x c s hc hco hs with h | h
  · omega
  · rw [he] at h; exact h2 h

theorem FamR.move (hR : RelW w0 rw β K w) (hL : Less K K' kb) {L : List Value} {C : List (List Int)} (h : FamR w0 rw L C) : FamR w (ownBlks β K') L C := by
  have hc : ∀ i, i < C.length → contV w (L.getD i undef) = contV w0 (L.getD i undef) := fun i hi => contV_move hR.old (h.imp i hi 0 noEnv)
  refine ⟨h.len, fun i hi k β1 => ?_, fun i hi => (hc i hi).trans (h.cont i hi)⟩
  rw [hc i hi]
  obtain ⟨base, hv, hlc, hl, hb⟩ := h.imp i hi 0 noEnv
  refine ⟨base, hv, hlc, hl, fun h0 => ?_⟩
  obtain ⟨b, off, g1, g2, g3, g4⟩ := hb h0
  have g2 : b < w0.heap.size := g2
  refine ⟨b, off, g1, Nat.lt_of_lt_of_le g2 hR.size, hL.old hR g2 g3, fun hl0 => ?_⟩
  obtain ⟨arr, ty, fr, k1, k2⟩ := g4 hl0
  exact ⟨arr, ty, fr, (hR.old b g2 g3).trans k1, k2⟩

theorem sl_fam (hR : RelW w0 rw β K w) (hL : Less K K' kb) {j c n m cap : Nat} {b : Blk} {p : Prop} {l : List Int} (hb : K.at j = some b) (hk : kb ≤ j) (hs : segR b.cells c n = some (p, [.ints .u8 m l])) (hp : p) {base : Option Addr} (hnc : n ≤ cap)
    (hbase : 0 < cap → ∃ r, β j = some r ∧ base = some ⟨r.blk, r.off + c, none⟩) : (∀ k β', ImpOk ⟨w, ownBlks β K', k, β'⟩ (.slice base n cap) .u8 n cap (contV w (.slice base n cap))) ∧ contV w (.slice base n cap) = l := by
  obtain ⟨h1, h2⟩ := sl_part hR hb hs hp hnc hbase
  refine ⟨fun k β' => ?_, h2⟩
  rw [h2]
  obtain ⟨base', hv, hlc, hl, hx⟩ := h1 k β'
  refine ⟨base', hv, hlc, hl, fun h0 => ?_⟩
  obtain ⟨b', off, g1, g2, g3, g4⟩ := hx h0
  obtain ⟨r, hr, hb2⟩ := hbase h0
  have he : base' = base := by
    have := hv
    simp only [Value.slice.injEq] at this
    exact this.1.symm
  have hbb : b' = r.blk := by
    rw [he, hb2] at g1
    simp only [Option.some.injEq, Addr.mk.injEq] at g1
    exact g1.1.symm
  subst hbb
  exact ⟨r.blk, off, g1, g2, hL.notin hR hb hk hr, g4⟩

theorem famC_ok (hR : RelW w0 rw β K w) (hL : Less K K' kb) {a : Atom} {p : Prop} {l : List Int} {cs : List Value} (h : famC K a = some (p, l)) (hf : farC K kb a = true) (hp : p) (hc : a.con β cs) : FamR w (ownBlks β K') cs [l] := by
  have one : ∀ {v : Value}, ((∀ k β', ImpOk ⟨w, ownBlks β K', k, β'⟩ v .u8 (lenV v) (capV v) (contV w v)) ∧ contV w v = l) → FamR w (ownBlks β K') [v] [l] := by
    intro v h
    refine ⟨rfl, fun i hi k β' => ?_, fun i hi => ?_⟩
    · have : i = 0 := by simp at hi; omega
      subst this; exact h.1 k β'
    · have : i = 0 := by simp at hi; omega
      subst this; exact h.2
  unfold famC at h
  unfold farC at hf
  split at h
  · split at h
    · rename_i j c n cap b hb
      split at h
      · rename_i p' m' l' hs
        simp only [Option.some.injEq, Prod.mk.injEq] at h; obtain ⟨rfl, rfl⟩ := h
        obtain ⟨base, rfl, hnc, hbase⟩ := hc
        exact one (sl_fam hR hL hb (of_decide_eq_true hf) hs hp hnc hbase)
      · simp at h
    · simp at h
  · split at h
    · rename_i j c n z b hb
      split at h
      · rename_i p' m' l' hs
        simp only [Option.some.injEq, Prod.mk.injEq] at h; obtain ⟨rfl, rfl⟩ := h
        obtain ⟨base, cap, rfl, hnc, hbase⟩ := hc
        exact one (sl_fam hR hL hb (of_decide_eq_true hf) hs hp hnc fun h0 => by obtain ⟨r, h1, h2, _⟩ := hbase h0; exact ⟨r, h1, h2⟩)
      · simp at h
    · simp at h
  · simp only [Option.some.injEq, Prod.mk.injEq] at h; obtain ⟨rfl, rfl⟩ := h
    obtain ⟨rfl, _⟩ := hc
    exact one ⟨fun k β' => ⟨none, rfl, Nat.le_refl _, rfl, fun h => absurd h (by simp [capV])⟩, rfl⟩
  · simp at h

theorem FamR.app {rw' : List Nat} {L M : List Value} {C D : List (List Int)} (h : FamR w rw' L C) (h' : FamR w rw' M D) : FamR w rw' (L ++ M) (C ++ D) := by
  have hl := h.len
  refine ⟨by rw [List.length_append, List.length_append, h.len, h'.len], fun i hi k β => ?_, fun i hi => ?_⟩
  · by_cases h1 : i < C.length
    · rw [getD_left (by omega)]; exact h.imp i h1 k β
    · obtain ⟨t, rfl⟩ : ∃ t, i = L.length + t := ⟨i - L.length, by omega⟩
      rw [getD_right]
      rw [List.length_append] at hi
      exact h'.imp t (by omega) k β
  · rw [List.length_append] at hi
    by_cases h1 : i < C.length
    · rw [getD_left (by omega), h.cont i h1, List.getD_eq_getElem?_getD, List.getD_eq_getElem?_getD, List.getElem?_append_left h1]
    · obtain ⟨t, rfl⟩ : ∃ t, i = L.length + t := ⟨i - L.length, by omega⟩
      rw [getD_right, h'.cont t (by omega), List.getD_eq_getElem?_getD, List.getD_eq_getElem?_getD, List.getElem?_append_right (by omega)]
      congr 2; omega

theorem FamR.parts {rw' : List Nat} {L : List Value} {C : List (List Int)} (h : FamR w rw' L C) : ∀ n, n ≤ C.length → catV w L n = (C.take n).flatten
  | 0, _ => rfl
  | n + 1, hn => by
    show catV w L n ++ contV w (L.getD n undef) = _
    rw [FamR.parts h n (by omega), h.cont n (by omega), List.take_add_one, List.getElem?_eq_getElem (by omega), List.flatten_append, List.getD_eq_getElem?_getD, List.getElem?_eq_getElem (by omega)]
    simp
end fam

theorem Rel.forgot {B : Bs} {β : Env} {st : St} {a : Act} {w : World} (h : Rel B β st a w) (keep : List Nat) (m : Nat) (hk : B.k ≤ (st.K.take m).length) : Rel B β (forget keep m st) a w := by
  refine ⟨h.relw.less fun j b hj => Know.at_take _ _ _ _ hj, h.defers, by rw [forget, keepL_length]; exact h.size, fun t => ?_, h.fix, hk⟩
  rw [forget, keepL_getD]
  split
  · simpa using h.slot t
  · trivial

/-- a block said by its values, whatever they are -/
theorem Rel.valued {B : Bs} {β : Env} {slots : List AV} {K : Know} {a : Act} {w : World} (h : Rel B β ⟨slots, K⟩ a w) {j : Nat} {own : Bool} {cells : List Atom} (hb : K.at j = some ⟨own, cells⟩) {n : Nat} (hn : sizes cells = n) :
    ∃ L, cons β cells L ∧ Rel B β ⟨slots, K.set1 j (some ⟨own, [.vals n L]⟩)⟩ a w := by
  obtain ⟨cs, hc, hd⟩ := h.relw.holds j _ hb
  have hc : cons β cells cs := hc
  exact ⟨cs, hc, h.relw.rehold hb (fun h => h) ⟨cs, cons_single.2 ⟨(cons_len hc).trans hn, rfl, cons_one hc⟩, hd⟩, h.defers, h.size, h.slot, h.fix, Nat.le_trans h.len (set1_length _ _ _)⟩

/-- one more joins a family -/
theorem fam_two {w0 w : World} {rw : List Nat} {β : Env} {K K' : Know} {kb k : Nat} (hR : RelW w0 rw β K w) (hL : Less K K' kb) {L0 L : List Value} {C : List (List Int)} (hF : FamR w0 rw L0 C) {x : Atom} {p : Prop} {l : List Int} (hx : famC K x = some (p, l)) (hf : farC K kb x = true) (hp : p)
    (hc : cons β [.vals k L0, x] L) : FamR w (ownBlks β K') L (C ++ [l]) := by
  obtain ⟨u, v, rfl, ⟨_, rfl, _⟩, hv⟩ := hc
  exact (hF.move hR hL).app (famC_ok hR hL hx hf hp (cons_single.1 hv))

def lessB (K K' : Know) (kb : Nat) : Bool := (List.range K'.length).all fun j => match K'.at j with
  | some b => !b.own || (decide (j < kb) && (match K.at j with | some c => c.own | none => false))
  | none => true
theorem Less.of {K K' : Know} {kb : Nat} (h : lessB K K' kb = true) : Less K K' kb := by
  intro j b hj ho
  have hlt : j < K'.length := by
    rcases Nat.lt_or_ge j K'.length with h | h
    · exact h
    · unfold Know.at at hj; rw [List.getElem?_eq_none h] at hj; cases hj
  have h1 := List.all_eq_true.1 h j (List.mem_range.2 hlt)
  rw [hj] at h1
  simp only [ho, Bool.not_true, Bool.false_or, Bool.and_eq_true, decide_eq_true_eq] at h1
  refine ⟨h1.1, ?_⟩
  have h2 := h1.2
  split at h2
  · rename_i c hc; exact ⟨c, hc, h2⟩
  · cases h2

/-- pieces of a body, one behind the other -/
theorem Run.seqTo {P : Program} {B : Bs} {a b : Code} {st st1 : St} {post : Ex → St → Prop} (h : Run P B a st (To B .normal st1)) (h2 : Run P B b st1 post) : Run P B (.seq a b) st post :=
  fun β ac w hR Q hq => wp_seq (h β ac w hR _ fun e st' β' a' w' hp hR' => by
    obtain ⟨rfl, hw⟩ := hp
    obtain ⟨β2, hR2⟩ := hw β' a' w' hR'
    exact h2 β2 a' w' hR2 Q hq)
theorem Run.absorb {P : Program} {B : Bs} {c : Code} {st : St} {R : Ex → St → Prop} (h : Run P B c st fun e s => ∃ s', Weak B s s' ∧ R e s') : Run P B c st R :=
  fun β a w hR Q hq => h β a w hR Q fun e st' β' a' w' hp hR' => by
    obtain ⟨s', hw, hr⟩ := hp
    obtain ⟨β2, hR2⟩ := hw β' a' w' hR'
    exact hq e s' β2 a' w' hr hR2
/-- the end of a body -/
def finP (T : Tab) (fn : Func) (Fin : List V1 → Know → Prop) : Ex → St → Prop := fun e s => (e = .normal ∨ e = .ret) ∧ ∃ xs m, resL T s fn.results.toList = some xs ∧ Fin xs (s.K.take m)
theorem Run.of_finAt {P : Program} {T : Tab} {Γ : Gam} {B : Bs} {Λ : Lam} {Ψ : Psi} {fuel : Nat} (hmix : P.follows .mixedOrders = true) (hT : TabOk P T) (hΓ : GamAt P Γ B.w0 B.rw) {fn : Func} {c : Code} {rs : List ResultVar} (hrs : fn.results = rs.toArray) (ora : List Bool) (l : List Tr) {st : St}
    {vc : List Prop} {xs : List V1} (h : fin B T rs l (execC P B T Γ Λ Ψ fuel c ora st []) = some ⟨true, vc, xs⟩) (hvc : AllP vc) : Run P B c st (finP T fn fun ys _ => ys = xs) := by
  unfold fin at h
  split at h
  · rename_i o ho
    split at h
    · rename_i vc1 st1 ht
      split at h
      · rename_i ys hys
        simp only [Option.some.injEq, FOut.mk.injEq] at h
        obtain ⟨h1, rfl, rfl⟩ := h
        obtain ⟨h2, h3⟩ := trs_weak ht hvc
        exact Run.absorb (Run.exec hmix hT hΓ Λ Ψ fuel ora ho h2 ⟨_, h3, exRet_ok h1, _, 0, by rw [hrs]; exact hys, rfl⟩)
      · simp at h
    · simp at h
  · simp at h
theorem Body.of_run {P : Program} {T : Tab} {B : Bs} {fn : Func} {c : Code} (hb : fn.body = some c) {avs : List AV} {K0 : Know} {Fin : List V1 → Know → Prop} (h : Run P B c ⟨avs ++ List.replicate (fn.ntmps - avs.length) .u, K0⟩ (finP T fn Fin)) : Body P T fn B avs K0 Fin :=
  ⟨c, hb, h.mono fun e s hp => ⟨hp.1, s, Weak.refl, hp.2⟩⟩
end Go.Proofs.Ytlmdhjojinkdbaa.X

/- What Given lays: a copy with three marks behind it. -/
namespace Go.Proofs.Ytlmdhjojinkdbaa.X
open Go Go.Proofs
set_option linter.unusedVariables false
set_option maxRecDepth 100000

def cpB (b R : List Int) (k : Nat) : List Int := sub b 0 k ++ R.drop k
def gvB (n : Nat) (b : List Int) : List Int := cpB b (rwB 987 (n + 3)) n
theorem cpB_step {b R : List Int} {n m k : Nat} (hb : b.length = n) (hR : R.length = m) (h : k < n) (h' : k < m) : List.set (cpB b R k) k (List.getD b k 0) = cpB b R (k + 1) := by
  have hs : (sub b 0 k).length = k := sub_len _ _ _ (by omega)
  have e : R.drop k = R[k] :: R.drop (k + 1) := List.drop_eq_getElem_cons (by omega)
  unfold cpB
  rw [e, List.set_append_right _ _ (by omega), hs, Nat.sub_self, List.set_cons_zero]
  unfold sub
  rw [List.drop_zero, List.take_add_one, List.getElem?_eq_getElem (by omega), List.getD_eq_getElem?_getD, List.getElem?_eq_getElem (by omega), List.append_assoc]
  rfl
theorem cpB_len {b R : List Int} {n m k : Nat} (hb : b.length = n) (hR : R.length = m) (h : k ≤ n) (h' : k ≤ m) : (cpB b R k).length = m := by
  unfold cpB
  rw [List.length_append, sub_len _ _ _ (by omega), List.length_drop]; omega
theorem gvB_len {b : List Int} {n : Nat} (hb : b.length = n) : (gvB n b).length = n + 3 := cpB_len hb (rwB_len _ _) (Nat.le_refl _) (by omega)
theorem gvB_take {b : List Int} {n : Nat} (hb : b.length = n) : sub (gvB n b) 0 n = b := by
  have hs : (sub b 0 n).length = n := sub_len _ _ _ (by omega)
  unfold gvB cpB
  rw [show sub (sub b 0 n ++ (rwB 987 (n + 3)).drop n) 0 n = sub b 0 n from by
    rw [sub_append_left _ _ _ (by omega), hs, Nat.sub_self]
    simp [sub]]
  exact sub_all b n (by omega)
theorem gv_copy {b : List Int} {n : Nat} (hb : b.length = n) : copyB (n + 3) (sub (gvB n b) 0 (n + 3)) = gvB n b := by
  show sub (sub (gvB n b) 0 (n + 3)) 0 (n + 3) = _
  have e : sub (gvB n b) 0 (n + 3) = gvB n b := sub_all _ _ (by rw [gvB_len hb]; omega)
  rw [e, e]
end Go.Proofs.Ytlmdhjojinkdbaa.X

/- Printed by a tool of this session. -/
namespace Go.Proofs.Ytlmdhjojinkdbaa.X
open Go Go.Proofs
set_option linter.unusedVariables false
set_option linter.unusedSimpArgs false
set_option maxRecDepth 100000
theorem teKB_5 : TEOk Try.prog 5 ⟨.int .u8, 1, 1, [.i .u8 (0 : Int)], false⟩ :=
  TEOk.of Try.underlying5 (i := Try.t5) (by kernel_rfl) rfl rfl rfl (by kernel_rfl) (fun h => by cases h) (by kernel_rfl)
theorem teKB_22 : TEOk Try.prog 22 ⟨.slice 5, 1, 24, [.raw (.slice none 0 0)], false⟩ :=
  TEOk.of Try.underlying22 (i := Try.t22) (by kernel_rfl) rfl rfl rfl (by kernel_rfl) (fun h => by cases h) (by kernel_rfl)
theorem teKB_23 : TEOk Try.prog 23 ⟨.slice 22, 1, 24, [.raw (.slice none 0 0)], false⟩ :=
  TEOk.of Try.underlying23 (i := Try.t23) (by kernel_rfl) rfl rfl rfl (by kernel_rfl) (fun h => by cases h) (by kernel_rfl)
theorem teKB_50 : TEOk Try.prog 50 ⟨Try.t49.desc, 30, 720, [.raw (.slice none 0 0), .raw (.slice none 0 0), .raw (.slice none 0 0), .raw (.slice none 0 0), .raw (.slice none 0 0), .raw (.slice none 0 0), .raw (.slice none 0 0), .raw (.slice none 0 0), .raw (.slice none 0 0), .raw (.slice none 0 0), .raw (.slice none 0 0), .raw (.slice none 0 0), .raw (.slice none 0 0), .raw (.slice none 0 0), .raw (.slice none 0 0), .raw (.slice none 0 0), .raw (.slice none 0 0), .raw (.slice none 0 0), .raw (.slice none 0 0), .raw (.slice none 0 0), .raw (.slice none 0 0), .raw (.slice none 0 0), .raw (.slice none 0 0), .raw (.slice none 0 0), .raw (.slice none 0 0), .raw (.slice none 0 0), .raw (.slice none 0 0), .raw (.slice none 0 0), .raw (.slice none 0 0), .raw (.slice none 0 0)], false⟩ :=
  TEOk.of Try.underlying50 (i := Try.t50) (by kernel_rfl) rfl rfl rfl (by kernel_rfl) (fun h => by cases h) (by kernel_rfl)
noncomputable def tabKB : List (Nat × TE) := [(5, ⟨.int .u8, 1, 1, [.i .u8 (0 : Int)], false⟩), (22, ⟨.slice 5, 1, 24, [.raw (.slice none 0 0)], false⟩), (23, ⟨.slice 22, 1, 24, [.raw (.slice none 0 0)], false⟩), (50, ⟨Try.t49.desc, 30, 720, [.raw (.slice none 0 0), .raw (.slice none 0 0), .raw (.slice none 0 0), .raw (.slice none 0 0), .raw (.slice none 0 0), .raw (.slice none 0 0), .raw (.slice none 0 0), .raw (.slice none 0 0), .raw (.slice none 0 0), .raw (.slice none 0 0), .raw (.slice none 0 0), .raw (.slice none 0 0), .raw (.slice none 0 0), .raw (.slice none 0 0), .raw (.slice none 0 0), .raw (.slice none 0 0), .raw (.slice none 0 0), .raw (.slice none 0 0), .raw (.slice none 0 0), .raw (.slice none 0 0), .raw (.slice none 0 0), .raw (.slice none 0 0), .raw (.slice none 0 0), .raw (.slice none 0 0), .raw (.slice none 0 0), .raw (.slice none 0 0), .raw (.slice none 0 0), .raw (.slice none 0 0), .raw (.slice none 0 0), .raw (.slice none 0 0)], false⟩)]
theorem tabOkKB : TabOk Try.prog (tabOf tabKB) := (tabOf_cons teKB_5 (tabOf_cons teKB_22 (tabOf_cons teKB_23 (tabOf_cons teKB_50 tabOf_nil))))

noncomputable def gam35 : Gam := gcall 13 [] [.s 1] (fun wk vs args => match wk, vs, args with | [], [⟨_, _, _, [.ints .u8 nm b]⟩], [.o (.a (.sl 0 0 n _))] => some ((nm = n) ∧ (n < (35184372088832 : Nat)), [.a (.rs 1 0 n 1)], [some ⟨false, [.ints .u8 nm b]⟩, some ⟨true, [.ints .u8 n (copyB n b)]⟩]) | _, _, _ => none) gam34
theorem gam35_ok : GamOk Try.prog gam35 := gcall_ok tabOkDK Try.func13 gam34_ok Try.call13 (by
  intro wk vs args p xs K1 h hv
  split at h
  · simp only [Option.some.injEq, Prod.mk.injEq] at h; obtain ⟨rfl, rfl, rfl⟩ := h; obtain ⟨g0, g1⟩ := hv; exact fun caps w rw β => copyB_body _ _ _ _ g0 g1 w rw β
  · simp at h)

def gv0A_mk (q k_ : Nat) (L W : List Value) (n nm : Nat) (b : List Int) (cap3 j : Nat) (sj : Unit) : St := ⟨sparse 61 [(0, .o (.a (.p 0 0))), (1, .o (.a (.sl 3 0 n cap3))), (4, .o (.a (.raw (.slice none 0 0)))), (5, .o (.a (.sl 4 0 (n + (3 : Nat)) (n + (3 : Nat))))), (6, .o (.a (.i .i64 ((j : Nat) : Int))))], [some ⟨true, [.rs 1 0 q 1, .rs 2 0 q 1, .raw (.slice none 0 0), .raw (.slice none 0 0), .raw (.slice none 0 0), .raw (.slice none 0 0), .raw (.slice none 0 0), .raw (.slice none 0 0), .raw (.slice none 0 0), .raw (.slice none 0 0), .raw (.slice none 0 0), .raw (.slice none 0 0), .raw (.slice none 0 0), .raw (.slice none 0 0), .raw (.slice none 0 0), .raw (.slice none 0 0), .raw (.slice none 0 0), .raw (.slice none 0 0), .raw (.slice none 0 0), .raw (.slice none 0 0), .raw (.slice none 0 0), .raw (.slice none 0 0), .raw (.slice none 0 0), .raw (.slice none 0 0), .raw (.slice none 0 0), .raw (.slice none 0 0), .raw (.slice none 0 0), .raw (.slice none 0 0), .raw (.slice none 0 0), .raw (.slice none 0 0)]⟩, some ⟨true, [.vals k_ L]⟩, some ⟨true, [.vals k_ W]⟩, some ⟨false, [.ints .u8 nm b]⟩, some ⟨true, [.ints .u8 (n + (3 : Nat)) (mkP (List.replicate (n + (3 : Nat)) (0 : Int)) (987 : Int) j)]⟩]⟩

def gv0A_step (j : Nat) (sj : Unit) : Unit :=
  ()

set_option maxHeartbeats 1000000 in
theorem gv0A_round (q k_ : Nat) (L W : List Value) (n nm : Nat) (b : List Int) (cap3 : Nat) (h0 : (nm = n)) (h1 : (n < (17592186044416 : Nat))) (h2 : (q < (2199023255552 : Nat))) (h3 : (q = k_)) (hc3 : n ≤ cap3) (hl3_0 : List.length b = nm) (w : World) (rw : List Nat) (β : Env) (j : Nat) (hj : j < (n + (3 : Nat))) (sj : Unit) : Run Try.prog ⟨w, rw, 4, β⟩ (loopB Try.f15 0) (gv0A_mk q k_ L W n nm b cap3 j sj) (To ⟨w, rw, 4, β⟩ .normal (gv0A_mk q k_ L W n nm b cap3 (j + 1) (gv0A_step j sj))) := by
  have e0 : (List.set (mkP (List.replicate (n + (3 : Nat)) (0 : Int)) (987 : Int) j) j (mkBy (987 : Int) ((j : Nat) : Int))) = (mkP (List.replicate (n + (3 : Nat)) (0 : Int)) (987 : Int) (j + (1 : Nat))) := (by first | exact wrap_succ (by omega) | exact mkP_step (by rw [List.length_replicate]) (by omega))
  have e1 : (IntKind.i64.wrap (((j : Nat) : Int) + (1 : Int))) = (((j + (1 : Nat)) : Nat) : Int) := (by first | exact wrap_succ (by omega) | exact mkP_step (by rw [List.length_replicate]) (by omega))
  have h := Run.of_outT (B := ⟨w, rw, 4, β⟩) (Λ := noLam) (Ψ := noPsi) (fuel := 0) (ora := [true]) (c := (loopB Try.f15 0)) (st := (gv0A_mk q k_ L W n nm b cap3 j sj)) (l := [.forget [0, 1, 4, 5, 6] 5]) (s' := ⟨sparse 61 [(0, .o (.a (.p 0 0))), (1, .o (.a (.sl 3 0 n cap3))), (4, .o (.a (.raw (.slice none 0 0)))), (5, .o (.a (.sl 4 0 (n + (3 : Nat)) (n + (3 : Nat))))), (6, .o (.a (.i .i64 (IntKind.i64.wrap (((j : Nat) : Int) + (1 : Int))))))], [some ⟨true, [.rs 1 0 q 1, .rs 2 0 q 1, .raw (.slice none 0 0), .raw (.slice none 0 0), .raw (.slice none 0 0), .raw (.slice none 0 0), .raw (.slice none 0 0), .raw (.slice none 0 0), .raw (.slice none 0 0), .raw (.slice none 0 0), .raw (.slice none 0 0), .raw (.slice none 0 0), .raw (.slice none 0 0), .raw (.slice none 0 0), .raw (.slice none 0 0), .raw (.slice none 0 0), .raw (.slice none 0 0), .raw (.slice none 0 0), .raw (.slice none 0 0), .raw (.slice none 0 0), .raw (.slice none 0 0), .raw (.slice none 0 0), .raw (.slice none 0 0), .raw (.slice none 0 0), .raw (.slice none 0 0), .raw (.slice none 0 0), .raw (.slice none 0 0), .raw (.slice none 0 0), .raw (.slice none 0 0), .raw (.slice none 0 0)]⟩, some ⟨true, [.vals k_ L]⟩, some ⟨true, [.vals k_ W]⟩, some ⟨false, [.ints .u8 nm b]⟩, some ⟨true, [.ints .u8 (n + (3 : Nat)) (List.set (mkP (List.replicate (n + (3 : Nat)) (0 : Int)) (987 : Int) j) j (mkBy (987 : Int) ((j : Nat) : Int)))]⟩]⟩) (ex := .normal) mix tabOkKB gam35_ok
    (vc := [(j < (n + (3 : Nat))), (((0 : Int) ≤ ((j : Nat) : Int)) ∧ (((j : Nat) : Int) < (((n + (3 : Nat)) : Nat) : Int))), ((decide (((j : Nat) : Int) < (((n + (3 : Nat)) : Nat) : Int))) = true)]) (by kernel_rfl)
    (aC (by first | omega | (simp (disch := omega) only [wrapI]; omega)) (aC ⟨(by first | omega | (simp (disch := omega) only [wrapI]; omega)), (by first | omega | (simp (disch := omega) only [wrapI]; omega))⟩ (aC (decide_eq_true (by first | omega | (simp (disch := omega) only [wrapI]; omega))) (AllP_nil))))
  rw [e0, e1] at h
  exact h

set_option maxHeartbeats 1000000 in
theorem gv0A_last (q k_ : Nat) (L W : List Value) (n nm : Nat) (b : List Int) (cap3 : Nat) (h0 : (nm = n)) (h1 : (n < (17592186044416 : Nat))) (h2 : (q < (2199023255552 : Nat))) (h3 : (q = k_)) (hc3 : n ≤ cap3) (hl3_0 : List.length b = nm) (w : World) (rw : List Nat) (β : Env) (sj : Unit) : Run Try.prog ⟨w, rw, 4, β⟩ (loopB Try.f15 0) (gv0A_mk q k_ L W n nm b cap3 (n + (3 : Nat)) sj) (To ⟨w, rw, 4, β⟩ (.exit 0) (gv0A_mk q k_ L W n nm b cap3 (n + (3 : Nat)) sj)) :=
  Run.of_outT (B := ⟨w, rw, 4, β⟩) (Λ := noLam) (Ψ := noPsi) (fuel := 0) (ora := [false]) (l := [.forget [0, 1, 4, 5, 6] 5]) mix tabOkKB gam35_ok
    (vc := [((decide ((((n + (3 : Nat)) : Nat) : Int) < (((n + (3 : Nat)) : Nat) : Int))) = false)]) (by kernel_rfl)
    (aC (decide_eq_false (by omega)) (AllP_nil))

theorem gv0A_loop (q k_ : Nat) (L W : List Value) (n nm : Nat) (b : List Int) (cap3 : Nat) (h0 : (nm = n)) (h1 : (n < (17592186044416 : Nat))) (h2 : (q < (2199023255552 : Nat))) (h3 : (q = k_)) (hc3 : n ≤ cap3) (hl3_0 : List.length b = nm) (w : World) (rw : List Nat) (β : Env) (sj : Unit) : Run Try.prog ⟨w, rw, 4, β⟩ (.block 0 (.loop (loopB Try.f15 0))) (gv0A_mk q k_ L W n nm b cap3 0 sj) (To ⟨w, rw, 4, β⟩ .normal (gv0A_mk q k_ L W n nm b cap3 (n + (3 : Nat)) (iter (gv0A_step) (n + (3 : Nat)) sj))) :=
  Run.count (fun j => gv0A_mk q k_ L W n nm b cap3 j (iter (gv0A_step) j sj)) (n + (3 : Nat)) (fun j hj => gv0A_round q k_ L W n nm b cap3 h0 h1 h2 h3 hc3 hl3_0 w rw β j hj _) (ex := (.exit 0)) (by simp) (gv0A_last q k_ L W n nm b cap3 h0 h1 h2 h3 hc3 hl3_0 w rw β _)

def gv0B_mk (q k_ : Nat) (L W : List Value) (n nm : Nat) (b : List Int) (cap3 j : Nat) (sj : Unit) : St := ⟨sparse 61 [(0, .o (.a (.p 0 0))), (1, .o (.a (.sl 3 0 n cap3))), (4, .o (.a (.raw (.slice none 0 0)))), (5, .o (.a (.sl 4 0 (n + (3 : Nat)) (n + (3 : Nat))))), (6, .o (.a (.i .i64 (((n + (3 : Nat)) : Nat) : Int)))), (7, .o (.a (.i .i64 ((j : Nat) : Int))))], [some ⟨true, [.rs 1 0 q 1, .rs 2 0 q 1, .raw (.slice none 0 0), .raw (.slice none 0 0), .raw (.slice none 0 0), .raw (.slice none 0 0), .raw (.slice none 0 0), .raw (.slice none 0 0), .raw (.slice none 0 0), .raw (.slice none 0 0), .raw (.slice none 0 0), .raw (.slice none 0 0), .raw (.slice none 0 0), .raw (.slice none 0 0), .raw (.slice none 0 0), .raw (.slice none 0 0), .raw (.slice none 0 0), .raw (.slice none 0 0), .raw (.slice none 0 0), .raw (.slice none 0 0), .raw (.slice none 0 0), .raw (.slice none 0 0), .raw (.slice none 0 0), .raw (.slice none 0 0), .raw (.slice none 0 0), .raw (.slice none 0 0), .raw (.slice none 0 0), .raw (.slice none 0 0), .raw (.slice none 0 0), .raw (.slice none 0 0)]⟩, some ⟨true, [.vals k_ L]⟩, some ⟨true, [.vals k_ W]⟩, some ⟨false, [.ints .u8 nm b]⟩, some ⟨true, [.ints .u8 (n + (3 : Nat)) (cpB b (rwB (987 : Int) (n + (3 : Nat))) j)]⟩]⟩

def gv0B_step (j : Nat) (sj : Unit) : Unit :=
  ()

set_option maxHeartbeats 1000000 in
theorem gv0B_round (q k_ : Nat) (L W : List Value) (n nm : Nat) (b : List Int) (cap3 : Nat) (h0 : (nm = n)) (h1 : (n < (17592186044416 : Nat))) (h2 : (q < (2199023255552 : Nat))) (h3 : (q = k_)) (hc3 : n ≤ cap3) (hl3_0 : List.length b = nm) (w : World) (rw : List Nat) (β : Env) (j : Nat) (hj : j < n) (sj : Unit) : Run Try.prog ⟨w, rw, 4, β⟩ (loopB Try.f15 2) (gv0B_mk q k_ L W n nm b cap3 j sj) (To ⟨w, rw, 4, β⟩ .normal (gv0B_mk q k_ L W n nm b cap3 (j + 1) (gv0B_step j sj))) := by
  have e0 : (List.set (cpB b (rwB (987 : Int) (n + (3 : Nat))) j) j (List.getD b j 0)) = (cpB b (rwB (987 : Int) (n + (3 : Nat))) (j + (1 : Nat))) := (by first | exact wrap_succ (by omega) | exact cpB_step (hl3_0.trans h0) (rwB_len _ _) (by omega) (by omega))
  have e1 : (IntKind.i64.wrap (((j : Nat) : Int) + (1 : Int))) = (((j + (1 : Nat)) : Nat) : Int) := (by first | exact wrap_succ (by omega) | exact cpB_step (hl3_0.trans h0) (rwB_len _ _) (by omega) (by omega))
  have h := Run.of_outT (B := ⟨w, rw, 4, β⟩) (Λ := noLam) (Ψ := noPsi) (fuel := 0) (ora := [true]) (c := (loopB Try.f15 2)) (st := (gv0B_mk q k_ L W n nm b cap3 j sj)) (l := [.forget [0, 1, 4, 5, 6, 7] 5]) (s' := ⟨sparse 61 [(0, .o (.a (.p 0 0))), (1, .o (.a (.sl 3 0 n cap3))), (4, .o (.a (.raw (.slice none 0 0)))), (5, .o (.a (.sl 4 0 (n + (3 : Nat)) (n + (3 : Nat))))), (6, .o (.a (.i .i64 (((n + (3 : Nat)) : Nat) : Int)))), (7, .o (.a (.i .i64 (IntKind.i64.wrap (((j : Nat) : Int) + (1 : Int))))))], [some ⟨true, [.rs 1 0 q 1, .rs 2 0 q 1, .raw (.slice none 0 0), .raw (.slice none 0 0), .raw (.slice none 0 0), .raw (.slice none 0 0), .raw (.slice none 0 0), .raw (.slice none 0 0), .raw (.slice none 0 0), .raw (.slice none 0 0), .raw (.slice none 0 0), .raw (.slice none 0 0), .raw (.slice none 0 0), .raw (.slice none 0 0), .raw (.slice none 0 0), .raw (.slice none 0 0), .raw (.slice none 0 0), .raw (.slice none 0 0), .raw (.slice none 0 0), .raw (.slice none 0 0), .raw (.slice none 0 0), .raw (.slice none 0 0), .raw (.slice none 0 0), .raw (.slice none 0 0), .raw (.slice none 0 0), .raw (.slice none 0 0), .raw (.slice none 0 0), .raw (.slice none 0 0), .raw (.slice none 0 0), .raw (.slice none 0 0)]⟩, some ⟨true, [.vals k_ L]⟩, some ⟨true, [.vals k_ W]⟩, some ⟨false, [.ints .u8 nm b]⟩, some ⟨true, [.ints .u8 (n + (3 : Nat)) (List.set (cpB b (rwB (987 : Int) (n + (3 : Nat))) j) j (List.getD b j 0))]⟩]⟩) (ex := .normal) mix tabOkKB gam35_ok
    (vc := [(j < (n + (3 : Nat))), (((0 : Int) ≤ ((j : Nat) : Int)) ∧ (((j : Nat) : Int) < (((n + (3 : Nat)) : Nat) : Int))), (j < nm), (((0 : Int) ≤ ((j : Nat) : Int)) ∧ (((j : Nat) : Int) < ((n : Nat) : Int))), ((decide (((j : Nat) : Int) < ((n : Nat) : Int))) = true)]) (by kernel_rfl)
    (aC (by first | omega | (simp (disch := omega) only [wrapI]; omega)) (aC ⟨(by first | omega | (simp (disch := omega) only [wrapI]; omega)), (by first | omega | (simp (disch := omega) only [wrapI]; omega))⟩ (aC (by first | omega | (simp (disch := omega) only [wrapI]; omega)) (aC ⟨(by first | omega | (simp (disch := omega) only [wrapI]; omega)), (by first | omega | (simp (disch := omega) only [wrapI]; omega))⟩ (aC (decide_eq_true (by first | omega | (simp (disch := omega) only [wrapI]; omega))) (AllP_nil))))))
  rw [e0, e1] at h
  exact h

set_option maxHeartbeats 1000000 in
theorem gv0B_last (q k_ : Nat) (L W : List Value) (n nm : Nat) (b : List Int) (cap3 : Nat) (h0 : (nm = n)) (h1 : (n < (17592186044416 : Nat))) (h2 : (q < (2199023255552 : Nat))) (h3 : (q = k_)) (hc3 : n ≤ cap3) (hl3_0 : List.length b = nm) (w : World) (rw : List Nat) (β : Env) (sj : Unit) : Run Try.prog ⟨w, rw, 4, β⟩ (loopB Try.f15 2) (gv0B_mk q k_ L W n nm b cap3 n sj) (To ⟨w, rw, 4, β⟩ (.exit 2) (gv0B_mk q k_ L W n nm b cap3 n sj)) :=
  Run.of_outT (B := ⟨w, rw, 4, β⟩) (Λ := noLam) (Ψ := noPsi) (fuel := 0) (ora := [false]) (l := [.forget [0, 1, 4, 5, 6, 7] 5]) mix tabOkKB gam35_ok
    (vc := [((decide (((n : Nat) : Int) < ((n : Nat) : Int))) = false)]) (by kernel_rfl)
    (aC (decide_eq_false (by omega)) (AllP_nil))

theorem gv0B_loop (q k_ : Nat) (L W : List Value) (n nm : Nat) (b : List Int) (cap3 : Nat) (h0 : (nm = n)) (h1 : (n < (17592186044416 : Nat))) (h2 : (q < (2199023255552 : Nat))) (h3 : (q = k_)) (hc3 : n ≤ cap3) (hl3_0 : List.length b = nm) (w : World) (rw : List Nat) (β : Env) (sj : Unit) : Run Try.prog ⟨w, rw, 4, β⟩ (.block 2 (.loop (loopB Try.f15 2))) (gv0B_mk q k_ L W n nm b cap3 0 sj) (To ⟨w, rw, 4, β⟩ .normal (gv0B_mk q k_ L W n nm b cap3 n (iter (gv0B_step) n sj))) :=
  Run.count (fun j => gv0B_mk q k_ L W n nm b cap3 j (iter (gv0B_step) j sj)) n (fun j hj => gv0B_round q k_ L W n nm b cap3 h0 h1 h2 h3 hc3 hl3_0 w rw β j hj _) (ex := (.exit 2)) (by simp) (gv0B_last q k_ L W n nm b cap3 h0 h1 h2 h3 hc3 hl3_0 w rw β _)

def gv0 (n : Nat) : Nat :=
  (n + (3 : Nat))

def gv0_1 (q : Nat) : Nat :=
  (q + (1 : Nat))

set_option maxHeartbeats 1000000 in
theorem gv0_body0 (q k_ : Nat) (L W : List Value) (n nm : Nat) (b : List Int) (cap3 : Nat) (h0 : (nm = n)) (h1 : (n < (17592186044416 : Nat))) (h2 : (q < (2199023255552 : Nat))) (h3 : (q = k_)) (hc3 : n ≤ cap3) (hl3_0 : List.length b = nm) (w : World) (rw : List Nat) (β : Env) : Body Try.prog (tabOf tabKB) Try.f15 ⟨w, rw, 4, β⟩ [.o (.a (.p 0 0)), .o (.a (.sl 3 0 n cap3))] [some ⟨true, [.rs 1 0 q 1, .rs 2 0 q 1, .raw (.slice none 0 0), .raw (.slice none 0 0), .raw (.slice none 0 0), .raw (.slice none 0 0), .raw (.slice none 0 0), .raw (.slice none 0 0), .raw (.slice none 0 0), .raw (.slice none 0 0), .raw (.slice none 0 0), .raw (.slice none 0 0), .raw (.slice none 0 0), .raw (.slice none 0 0), .raw (.slice none 0 0), .raw (.slice none 0 0), .raw (.slice none 0 0), .raw (.slice none 0 0), .raw (.slice none 0 0), .raw (.slice none 0 0), .raw (.slice none 0 0), .raw (.slice none 0 0), .raw (.slice none 0 0), .raw (.slice none 0 0), .raw (.slice none 0 0), .raw (.slice none 0 0), .raw (.slice none 0 0), .raw (.slice none 0 0), .raw (.slice none 0 0), .raw (.slice none 0 0)]⟩, some ⟨true, [.vals k_ L]⟩, some ⟨true, [.vals k_ W]⟩, some ⟨false, [.ints .u8 nm b]⟩] (fun ys K' => ys = [.a (.sl 6 0 n (gv0 n))] ∧ K' = [some ⟨true, [.rs 4 0 (gv0_1 q) 1, .rs 5 0 (gv0_1 q) 1, .raw (.slice none 0 0), .raw (.slice none 0 0), .raw (.slice none 0 0), .raw (.slice none 0 0), .raw (.slice none 0 0), .raw (.slice none 0 0), .raw (.slice none 0 0), .raw (.slice none 0 0), .raw (.slice none 0 0), .raw (.slice none 0 0), .raw (.slice none 0 0), .raw (.slice none 0 0), .raw (.slice none 0 0), .raw (.slice none 0 0), .raw (.slice none 0 0), .raw (.slice none 0 0), .raw (.slice none 0 0), .raw (.slice none 0 0), .raw (.slice none 0 0), .raw (.slice none 0 0), .raw (.slice none 0 0), .raw (.slice none 0 0), .raw (.slice none 0 0), .raw (.slice none 0 0), .raw (.slice none 0 0), .raw (.slice none 0 0), .raw (.slice none 0 0), .raw (.slice none 0 0)]⟩, none, none, some ⟨false, [.ints .u8 nm b]⟩, some ⟨true, [.vals q (sub L 0 q), .sl 6 0 (gv0 n) (gv0 n)]⟩, some ⟨true, [.vals q (sub W 0 q), .rs 7 0 (gv0 n) 1]⟩, some ⟨true, [.ints .u8 (gv0 n) (gvB n b)]⟩, some ⟨true, [.ints .u8 (gv0 n) (gvB n b)]⟩]) :=
  Body.of_finK (Γ := gam35) (Λ := lamOf [(0, ⟨[.forget [0, 1, 4, 5, 6] 5], .normal, (gv0A_mk q k_ L W n nm b cap3 (n + (3 : Nat)) (iter (gv0A_step) (n + (3 : Nat)) ()))⟩), (2, ⟨[.forget [0, 1, 4, 5, 6, 7] 5], .normal, (gv0B_mk q k_ L W n nm b cap3 n (iter (gv0B_step) n ()))⟩)]) (Ψ := psiOf [(1, [.eqS 5 (.o (.a (.sl 4 0 (n + (3 : Nat)) (n + (3 : Nat))))), .eqB 4 (⟨true, [.ints .u8 (n + (3 : Nat)) (List.replicate (n + (3 : Nat)) (0 : Int))]⟩)]), (6, [.eqB 4 (⟨true, [.ints .u8 (n + (3 : Nat)) (rwB (987 : Int) (n + (3 : Nat)))]⟩)]), (10, [.eqB 4 (⟨true, [.ints .u8 (n + (3 : Nat)) (gvB n b)]⟩)]), (11, [.eqB 7 (⟨true, [.ints .u8 (n + (3 : Nat)) (gvB n b)]⟩)])]) (fuel := 0) (m := 61) (c := (Try.f15.body.getD .skip)) mix tabOkKB gam35_ok rfl (rs := [.tmp 4]) rfl rfl [false, false] [.swap 4 6, .swap 5 9] 8
    (vc := [(((0 : Int) ≤ (0 : Int)) ∧ ((0 : Int) ≤ ((n : Nat) : Int)) ∧ (((n : Nat) : Int) ≤ (((n + (3 : Nat)) : Nat) : Int))), ((some ⟨true, [.ints .u8 (n + (3 : Nat)) (copyB (n + (3 : Nat)) (sub (gvB n b) (0 : Nat) (n + (3 : Nat))))]⟩ : Option Blk) = some ⟨true, [.ints .u8 (n + (3 : Nat)) (gvB n b)]⟩), ((((0 : Nat) + q) ≤ k_) ∧ (((1 : Nat) ≤ (1 : Nat)) ∧ True) ∧ (((q + (1 : Nat)) * (24 : Nat)) ≤ (140737488355328 : Nat))), (((((0 : Nat) + (n + (3 : Nat))) ≤ (n + (3 : Nat))) ∧ True) ∧ (((n + (3 : Nat)) = (n + (3 : Nat))) ∧ ((n + (3 : Nat)) < (35184372088832 : Nat)))), ((some ⟨true, [.ints .u8 (n + (3 : Nat)) (cpB b (rwB (987 : Int) (n + (3 : Nat))) n)]⟩ : Option Blk) = some ⟨true, [.ints .u8 (n + (3 : Nat)) (gvB n b)]⟩), ((((0 : Nat) + q) ≤ k_) ∧ (((1 : Nat) ≤ (1 : Nat)) ∧ True) ∧ (((q + (1 : Nat)) * (24 : Nat)) ≤ (140737488355328 : Nat))), (Run Try.prog ⟨w, rw, 4, β⟩ (.block 2 (.loop (loopB Try.f15 2))) (gv0B_mk q k_ L W n nm b cap3 0 ()) (To ⟨w, rw, 4, β⟩ .normal (gv0B_mk q k_ L W n nm b cap3 n (iter (gv0B_step) n ())))), ((some ⟨true, [.ints .u8 (n + (3 : Nat)) (mkP (List.replicate (n + (3 : Nat)) (0 : Int)) (987 : Int) (n + (3 : Nat)))]⟩ : Option Blk) = some ⟨true, [.ints .u8 (n + (3 : Nat)) (rwB (987 : Int) (n + (3 : Nat)))]⟩), (Run Try.prog ⟨w, rw, 4, β⟩ (.block 0 (.loop (loopB Try.f15 0))) (gv0A_mk q k_ L W n nm b cap3 0 ()) (To ⟨w, rw, 4, β⟩ .normal (gv0A_mk q k_ L W n nm b cap3 (n + (3 : Nat)) (iter (gv0A_step) (n + (3 : Nat)) ())))), ((some ⟨true, [.ints .u8 (Int.toNat (IntKind.i64.wrap (((n : Nat) : Int) + (3 : Int)))) (List.replicate (Int.toNat (IntKind.i64.wrap (((n : Nat) : Int) + (3 : Int)))) (0 : Int))]⟩ : Option Blk) = some ⟨true, [.ints .u8 (n + (3 : Nat)) (List.replicate (n + (3 : Nat)) (0 : Int))]⟩), ((.o (.a (.sl 4 0 (Int.toNat (IntKind.i64.wrap (((n : Nat) : Int) + (3 : Int)))) (Int.toNat (IntKind.i64.wrap (((n : Nat) : Int) + (3 : Int)))))) : AV) = .o (.a (.sl 4 0 (n + (3 : Nat)) (n + (3 : Nat))))), (((0 : Int) ≤ (IntKind.i64.wrap (((n : Nat) : Int) + (3 : Int)))) ∧ ((IntKind.i64.wrap (((n : Nat) : Int) + (3 : Int))) ≤ (IntKind.i64.wrap (((n : Nat) : Int) + (3 : Int)))) ∧ (((IntKind.i64.wrap (((n : Nat) : Int) + (3 : Int))) * (1 : Int)) ≤ (281474976710656 : Int)))]) (by kernel_rfl)
    (aC ⟨(by decide), (by first | omega | (simp (disch := omega) only [wrapI]; omega)), (by first | omega | (simp (disch := omega) only [wrapI]; omega))⟩ (aC ((by rw [show copyB (n + 3) (sub (gvB n b) 0 (n + 3)) = gvB n b from gv_copy (hl3_0.trans h0)])) (aC ⟨(by first | omega | (simp (disch := omega) only [wrapI]; omega)), ⟨(by decide), trivial⟩, (by first | omega | (simp (disch := omega) only [wrapI]; omega))⟩ (aC ⟨⟨(by first | omega | (simp (disch := omega) only [wrapI]; omega)), trivial⟩, ⟨rfl, (by first | omega | (simp (disch := omega) only [wrapI]; omega))⟩⟩ (aC (rfl) (aC ⟨(by first | omega | (simp (disch := omega) only [wrapI]; omega)), ⟨(by decide), trivial⟩, (by first | omega | (simp (disch := omega) only [wrapI]; omega))⟩ (aC (gv0B_loop q k_ L W n nm b cap3 h0 h1 h2 h3 hc3 hl3_0 w rw β ()) (aC ((by rw [mkP_all (by rw [List.length_replicate])])) (aC (gv0A_loop q k_ L W n nm b cap3 h0 h1 h2 h3 hc3 hl3_0 w rw β ()) (aC ((by rw [wrapI (by omega) (by omega), show Int.toNat (((n : Nat) : Int) + 3) = n + 3 from by omega])) (aC ((by rw [wrapI (by omega) (by omega), show Int.toNat (((n : Nat) : Int) + 3) = n + 3 from by omega])) (aC ⟨(by first | omega | (simp (disch := omega) only [wrapI]; omega)), (by first | omega | (simp (disch := omega) only [wrapI]; omega)), (by first | omega | (simp (disch := omega) only [wrapI]; omega))⟩ (AllP_nil)))))))))))))

theorem gv0_body (q k_ : Nat) (L W : List Value) (n nm : Nat) (b : List Int) (cap3 : Nat) (h0 : (nm = n)) (h1 : (n < (17592186044416 : Nat))) (h2 : (q < (2199023255552 : Nat))) (h3 : (q = k_)) (w : World) (rw : List Nat) (β : Env) : Body Try.prog (tabOf tabKB) Try.f15 ⟨w, rw, 4, β⟩ [.o (.a (.p 0 0)), .o (.a (.sl 3 0 n cap3))] [some ⟨true, [.rs 1 0 q 1, .rs 2 0 q 1, .raw (.slice none 0 0), .raw (.slice none 0 0), .raw (.slice none 0 0), .raw (.slice none 0 0), .raw (.slice none 0 0), .raw (.slice none 0 0), .raw (.slice none 0 0), .raw (.slice none 0 0), .raw (.slice none 0 0), .raw (.slice none 0 0), .raw (.slice none 0 0), .raw (.slice none 0 0), .raw (.slice none 0 0), .raw (.slice none 0 0), .raw (.slice none 0 0), .raw (.slice none 0 0), .raw (.slice none 0 0), .raw (.slice none 0 0), .raw (.slice none 0 0), .raw (.slice none 0 0), .raw (.slice none 0 0), .raw (.slice none 0 0), .raw (.slice none 0 0), .raw (.slice none 0 0), .raw (.slice none 0 0), .raw (.slice none 0 0), .raw (.slice none 0 0), .raw (.slice none 0 0)]⟩, some ⟨true, [.vals k_ L]⟩, some ⟨true, [.vals k_ W]⟩, some ⟨false, [.ints .u8 nm b]⟩] (fun ys K' => ys = [.a (.sl 6 0 n (gv0 n))] ∧ K' = [some ⟨true, [.rs 4 0 (gv0_1 q) 1, .rs 5 0 (gv0_1 q) 1, .raw (.slice none 0 0), .raw (.slice none 0 0), .raw (.slice none 0 0), .raw (.slice none 0 0), .raw (.slice none 0 0), .raw (.slice none 0 0), .raw (.slice none 0 0), .raw (.slice none 0 0), .raw (.slice none 0 0), .raw (.slice none 0 0), .raw (.slice none 0 0), .raw (.slice none 0 0), .raw (.slice none 0 0), .raw (.slice none 0 0), .raw (.slice none 0 0), .raw (.slice none 0 0), .raw (.slice none 0 0), .raw (.slice none 0 0), .raw (.slice none 0 0), .raw (.slice none 0 0), .raw (.slice none 0 0), .raw (.slice none 0 0), .raw (.slice none 0 0), .raw (.slice none 0 0), .raw (.slice none 0 0), .raw (.slice none 0 0), .raw (.slice none 0 0), .raw (.slice none 0 0)]⟩, none, none, some ⟨false, [.ints .u8 nm b]⟩, some ⟨true, [.vals q (sub L 0 q), .sl 6 0 (gv0 n) (gv0 n)]⟩, some ⟨true, [.vals q (sub W 0 q), .rs 7 0 (gv0 n) 1]⟩, some ⟨true, [.ints .u8 (gv0 n) (gvB n b)]⟩, some ⟨true, [.ints .u8 (gv0 n) (gvB n b)]⟩]) :=
  Body.lens (c := (Try.f15.body.getD .skip)) rfl fun h => gv0_body0 q k_ L W n nm b cap3 h0 h1 h2 h3 (h.caps 1 _ _ _ _ rfl) (h.lens 3 _ .u8 nm b rfl (by simp)) w rw β

def gv1A_mk (q k_ : Nat) (L : List Value) (m0 : Nat) (B0 : List Int) (W : List Value) (D0 : List Int) (n nm : Nat) (b : List Int) (cap5 j : Nat) (sj : Unit) : St := ⟨sparse 61 [(0, .o (.a (.p 0 0))), (1, .o (.a (.sl 5 0 n cap5))), (4, .o (.a (.raw (.slice none 0 0)))), (5, .o (.a (.sl 6 0 (n + (3 : Nat)) (n + (3 : Nat))))), (6, .o (.a (.i .i64 ((j : Nat) : Int))))], [some ⟨true, [.rs 1 0 q 1, .rs 3 0 q 1, .raw (.slice none 0 0), .raw (.slice none 0 0), .raw (.slice none 0 0), .raw (.slice none 0 0), .raw (.slice none 0 0), .raw (.slice none 0 0), .raw (.slice none 0 0), .raw (.slice none 0 0), .raw (.slice none 0 0), .raw (.slice none 0 0), .raw (.slice none 0 0), .raw (.slice none 0 0), .raw (.slice none 0 0), .raw (.slice none 0 0), .raw (.slice none 0 0), .raw (.slice none 0 0), .raw (.slice none 0 0), .raw (.slice none 0 0), .raw (.slice none 0 0), .raw (.slice none 0 0), .raw (.slice none 0 0), .raw (.slice none 0 0), .raw (.slice none 0 0), .raw (.slice none 0 0), .raw (.slice none 0 0), .raw (.slice none 0 0), .raw (.slice none 0 0), .raw (.slice none 0 0)]⟩, some ⟨true, [.vals k_ L, .sl 2 0 m0 m0]⟩, some ⟨true, [.ints .u8 m0 B0]⟩, some ⟨true, [.vals k_ W, .rs 4 0 m0 1]⟩, some ⟨true, [.ints .u8 m0 D0]⟩, some ⟨false, [.ints .u8 nm b]⟩, some ⟨true, [.ints .u8 (n + (3 : Nat)) (mkP (List.replicate (n + (3 : Nat)) (0 : Int)) (987 : Int) j)]⟩]⟩

def gv1A_step (j : Nat) (sj : Unit) : Unit :=
  ()

set_option maxHeartbeats 1000000 in
theorem gv1A_round (q k_ : Nat) (L : List Value) (m0 : Nat) (B0 : List Int) (W : List Value) (D0 : List Int) (n nm : Nat) (b : List Int) (cap5 : Nat) (h0 : (nm = n)) (h1 : (n < (17592186044416 : Nat))) (h2 : (q < (2199023255552 : Nat))) (h3 : (q = (k_ + (1 : Nat)))) (hc5 : n ≤ cap5) (hl2_0 : List.length B0 = m0) (hl4_0 : List.length D0 = m0) (hl5_0 : List.length b = nm) (w : World) (rw : List Nat) (β : Env) (j : Nat) (hj : j < (n + (3 : Nat))) (sj : Unit) : Run Try.prog ⟨w, rw, 6, β⟩ (loopB Try.f15 0) (gv1A_mk q k_ L m0 B0 W D0 n nm b cap5 j sj) (To ⟨w, rw, 6, β⟩ .normal (gv1A_mk q k_ L m0 B0 W D0 n nm b cap5 (j + 1) (gv1A_step j sj))) := by
  have e0 : (List.set (mkP (List.replicate (n + (3 : Nat)) (0 : Int)) (987 : Int) j) j (mkBy (987 : Int) ((j : Nat) : Int))) = (mkP (List.replicate (n + (3 : Nat)) (0 : Int)) (987 : Int) (j + (1 : Nat))) := (by first | exact wrap_succ (by omega) | exact mkP_step (by rw [List.length_replicate]) (by omega))
  have e1 : (IntKind.i64.wrap (((j : Nat) : Int) + (1 : Int))) = (((j + (1 : Nat)) : Nat) : Int) := (by first | exact wrap_succ (by omega) | exact mkP_step (by rw [List.length_replicate]) (by omega))
  have h := Run.of_outT (B := ⟨w, rw, 6, β⟩) (Λ := noLam) (Ψ := noPsi) (fuel := 0) (ora := [true]) (c := (loopB Try.f15 0)) (st := (gv1A_mk q k_ L m0 B0 W D0 n nm b cap5 j sj)) (l := [.forget [0, 1, 4, 5, 6] 7]) (s' := ⟨sparse 61 [(0, .o (.a (.p 0 0))), (1, .o (.a (.sl 5 0 n cap5))), (4, .o (.a (.raw (.slice none 0 0)))), (5, .o (.a (.sl 6 0 (n + (3 : Nat)) (n + (3 : Nat))))), (6, .o (.a (.i .i64 (IntKind.i64.wrap (((j : Nat) : Int) + (1 : Int))))))], [some ⟨true, [.rs 1 0 q 1, .rs 3 0 q 1, .raw (.slice none 0 0), .raw (.slice none 0 0), .raw (.slice none 0 0), .raw (.slice none 0 0), .raw (.slice none 0 0), .raw (.slice none 0 0), .raw (.slice none 0 0), .raw (.slice none 0 0), .raw (.slice none 0 0), .raw (.slice none 0 0), .raw (.slice none 0 0), .raw (.slice none 0 0), .raw (.slice none 0 0), .raw (.slice none 0 0), .raw (.slice none 0 0), .raw (.slice none 0 0), .raw (.slice none 0 0), .raw (.slice none 0 0), .raw (.slice none 0 0), .raw (.slice none 0 0), .raw (.slice none 0 0), .raw (.slice none 0 0), .raw (.slice none 0 0), .raw (.slice none 0 0), .raw (.slice none 0 0), .raw (.slice none 0 0), .raw (.slice none 0 0), .raw (.slice none 0 0)]⟩, some ⟨true, [.vals k_ L, .sl 2 0 m0 m0]⟩, some ⟨true, [.ints .u8 m0 B0]⟩, some ⟨true, [.vals k_ W, .rs 4 0 m0 1]⟩, some ⟨true, [.ints .u8 m0 D0]⟩, some ⟨false, [.ints .u8 nm b]⟩, some ⟨true, [.ints .u8 (n + (3 : Nat)) (List.set (mkP (List.replicate (n + (3 : Nat)) (0 : Int)) (987 : Int) j) j (mkBy (987 : Int) ((j : Nat) : Int)))]⟩]⟩) (ex := .normal) mix tabOkKB gam35_ok
    (vc := [(j < (n + (3 : Nat))), (((0 : Int) ≤ ((j : Nat) : Int)) ∧ (((j : Nat) : Int) < (((n + (3 : Nat)) : Nat) : Int))), ((decide (((j : Nat) : Int) < (((n + (3 : Nat)) : Nat) : Int))) = true)]) (by kernel_rfl)
    (aC (by first | omega | (simp (disch := omega) only [wrapI]; omega)) (aC ⟨(by first | omega | (simp (disch := omega) only [wrapI]; omega)), (by first | omega | (simp (disch := omega) only [wrapI]; omega))⟩ (aC (decide_eq_true (by first | omega | (simp (disch := omega) only [wrapI]; omega))) (AllP_nil))))
  rw [e0, e1] at h
  exact h

set_option maxHeartbeats 1000000 in
theorem gv1A_last (q k_ : Nat) (L : List Value) (m0 : Nat) (B0 : List Int) (W : List Value) (D0 : List Int) (n nm : Nat) (b : List Int) (cap5 : Nat) (h0 : (nm = n)) (h1 : (n < (17592186044416 : Nat))) (h2 : (q < (2199023255552 : Nat))) (h3 : (q = (k_ + (1 : Nat)))) (hc5 : n ≤ cap5) (hl2_0 : List.length B0 = m0) (hl4_0 : List.length D0 = m0) (hl5_0 : List.length b = nm) (w : World) (rw : List Nat) (β : Env) (sj : Unit) : Run Try.prog ⟨w, rw, 6, β⟩ (loopB Try.f15 0) (gv1A_mk q k_ L m0 B0 W D0 n nm b cap5 (n + (3 : Nat)) sj) (To ⟨w, rw, 6, β⟩ (.exit 0) (gv1A_mk q k_ L m0 B0 W D0 n nm b cap5 (n + (3 : Nat)) sj)) :=
  Run.of_outT (B := ⟨w, rw, 6, β⟩) (Λ := noLam) (Ψ := noPsi) (fuel := 0) (ora := [false]) (l := [.forget [0, 1, 4, 5, 6] 7]) mix tabOkKB gam35_ok
    (vc := [((decide ((((n + (3 : Nat)) : Nat) : Int) < (((n + (3 : Nat)) : Nat) : Int))) = false)]) (by kernel_rfl)
    (aC (decide_eq_false (by omega)) (AllP_nil))

theorem gv1A_loop (q k_ : Nat) (L : List Value) (m0 : Nat) (B0 : List Int) (W : List Value) (D0 : List Int) (n nm : Nat) (b : List Int) (cap5 : Nat) (h0 : (nm = n)) (h1 : (n < (17592186044416 : Nat))) (h2 : (q < (2199023255552 : Nat))) (h3 : (q = (k_ + (1 : Nat)))) (hc5 : n ≤ cap5) (hl2_0 : List.length B0 = m0) (hl4_0 : List.length D0 = m0) (hl5_0 : List.length b = nm) (w : World) (rw : List Nat) (β : Env) (sj : Unit) : Run Try.prog ⟨w, rw, 6, β⟩ (.block 0 (.loop (loopB Try.f15 0))) (gv1A_mk q k_ L m0 B0 W D0 n nm b cap5 0 sj) (To ⟨w, rw, 6, β⟩ .normal (gv1A_mk q k_ L m0 B0 W D0 n nm b cap5 (n + (3 : Nat)) (iter (gv1A_step) (n + (3 : Nat)) sj))) :=
  Run.count (fun j => gv1A_mk q k_ L m0 B0 W D0 n nm b cap5 j (iter (gv1A_step) j sj)) (n + (3 : Nat)) (fun j hj => gv1A_round q k_ L m0 B0 W D0 n nm b cap5 h0 h1 h2 h3 hc5 hl2_0 hl4_0 hl5_0 w rw β j hj _) (ex := (.exit 0)) (by simp) (gv1A_last q k_ L m0 B0 W D0 n nm b cap5 h0 h1 h2 h3 hc5 hl2_0 hl4_0 hl5_0 w rw β _)

def gv1B_mk (q k_ : Nat) (L : List Value) (m0 : Nat) (B0 : List Int) (W : List Value) (D0 : List Int) (n nm : Nat) (b : List Int) (cap5 j : Nat) (sj : Unit) : St := ⟨sparse 61 [(0, .o (.a (.p 0 0))), (1, .o (.a (.sl 5 0 n cap5))), (4, .o (.a (.raw (.slice none 0 0)))), (5, .o (.a (.sl 6 0 (n + (3 : Nat)) (n + (3 : Nat))))), (6, .o (.a (.i .i64 (((n + (3 : Nat)) : Nat) : Int)))), (7, .o (.a (.i .i64 ((j : Nat) : Int))))], [some ⟨true, [.rs 1 0 q 1, .rs 3 0 q 1, .raw (.slice none 0 0), .raw (.slice none 0 0), .raw (.slice none 0 0), .raw (.slice none 0 0), .raw (.slice none 0 0), .raw (.slice none 0 0), .raw (.slice none 0 0), .raw (.slice none 0 0), .raw (.slice none 0 0), .raw (.slice none 0 0), .raw (.slice none 0 0), .raw (.slice none 0 0), .raw (.slice none 0 0), .raw (.slice none 0 0), .raw (.slice none 0 0), .raw (.slice none 0 0), .raw (.slice none 0 0), .raw (.slice none 0 0), .raw (.slice none 0 0), .raw (.slice none 0 0), .raw (.slice none 0 0), .raw (.slice none 0 0), .raw (.slice none 0 0), .raw (.slice none 0 0), .raw (.slice none 0 0), .raw (.slice none 0 0), .raw (.slice none 0 0), .raw (.slice none 0 0)]⟩, some ⟨true, [.vals k_ L, .sl 2 0 m0 m0]⟩, some ⟨true, [.ints .u8 m0 B0]⟩, some ⟨true, [.vals k_ W, .rs 4 0 m0 1]⟩, some ⟨true, [.ints .u8 m0 D0]⟩, some ⟨false, [.ints .u8 nm b]⟩, some ⟨true, [.ints .u8 (n + (3 : Nat)) (cpB b (rwB (987 : Int) (n + (3 : Nat))) j)]⟩]⟩

def gv1B_step (j : Nat) (sj : Unit) : Unit :=
  ()

set_option maxHeartbeats 1000000 in
theorem gv1B_round (q k_ : Nat) (L : List Value) (m0 : Nat) (B0 : List Int) (W : List Value) (D0 : List Int) (n nm : Nat) (b : List Int) (cap5 : Nat) (h0 : (nm = n)) (h1 : (n < (17592186044416 : Nat))) (h2 : (q < (2199023255552 : Nat))) (h3 : (q = (k_ + (1 : Nat)))) (hc5 : n ≤ cap5) (hl2_0 : List.length B0 = m0) (hl4_0 : List.length D0 = m0) (hl5_0 : List.length b = nm) (w : World) (rw : List Nat) (β : Env) (j : Nat) (hj : j < n) (sj : Unit) : Run Try.prog ⟨w, rw, 6, β⟩ (loopB Try.f15 2) (gv1B_mk q k_ L m0 B0 W D0 n nm b cap5 j sj) (To ⟨w, rw, 6, β⟩ .normal (gv1B_mk q k_ L m0 B0 W D0 n nm b cap5 (j + 1) (gv1B_step j sj))) := by
  have e0 : (List.set (cpB b (rwB (987 : Int) (n + (3 : Nat))) j) j (List.getD b j 0)) = (cpB b (rwB (987 : Int) (n + (3 : Nat))) (j + (1 : Nat))) := (by first | exact wrap_succ (by omega) | exact cpB_step (hl5_0.trans h0) (rwB_len _ _) (by omega) (by omega))
  have e1 : (IntKind.i64.wrap (((j : Nat) : Int) + (1 : Int))) = (((j + (1 : Nat)) : Nat) : Int) := (by first | exact wrap_succ (by omega) | exact cpB_step (hl5_0.trans h0) (rwB_len _ _) (by omega) (by omega))
  have h := Run.of_outT (B := ⟨w, rw, 6, β⟩) (Λ := noLam) (Ψ := noPsi) (fuel := 0) (ora := [true]) (c := (loopB Try.f15 2)) (st := (gv1B_mk q k_ L m0 B0 W D0 n nm b cap5 j sj)) (l := [.forget [0, 1, 4, 5, 6, 7] 7]) (s' := ⟨sparse 61 [(0, .o (.a (.p 0 0))), (1, .o (.a (.sl 5 0 n cap5))), (4, .o (.a (.raw (.slice none 0 0)))), (5, .o (.a (.sl 6 0 (n + (3 : Nat)) (n + (3 : Nat))))), (6, .o (.a (.i .i64 (((n + (3 : Nat)) : Nat) : Int)))), (7, .o (.a (.i .i64 (IntKind.i64.wrap (((j : Nat) : Int) + (1 : Int))))))], [some ⟨true, [.rs 1 0 q 1, .rs 3 0 q 1, .raw (.slice none 0 0), .raw (.slice none 0 0), .raw (.slice none 0 0), .raw (.slice none 0 0), .raw (.slice none 0 0), .raw (.slice none 0 0), .raw (.slice none 0 0), .raw (.slice none 0 0), .raw (.slice none 0 0), .raw (.slice none 0 0), .raw (.slice none 0 0), .raw (.slice none 0 0), .raw (.slice none 0 0), .raw (.slice none 0 0), .raw (.slice none 0 0), .raw (.slice none 0 0), .raw (.slice none 0 0), .raw (.slice none 0 0), .raw (.slice none 0 0), .raw (.slice none 0 0), .raw (.slice none 0 0), .raw (.slice none 0 0), .raw (.slice none 0 0), .raw (.slice none 0 0), .raw (.slice none 0 0), .raw (.slice none 0 0), .raw (.slice none 0 0), .raw (.slice none 0 0)]⟩, some ⟨true, [.vals k_ L, .sl 2 0 m0 m0]⟩, some ⟨true, [.ints .u8 m0 B0]⟩, some ⟨true, [.vals k_ W, .rs 4 0 m0 1]⟩, some ⟨true, [.ints .u8 m0 D0]⟩, some ⟨false, [.ints .u8 nm b]⟩, some ⟨true, [.ints .u8 (n + (3 : Nat)) (List.set (cpB b (rwB (987 : Int) (n + (3 : Nat))) j) j (List.getD b j 0))]⟩]⟩) (ex := .normal) mix tabOkKB gam35_ok
    (vc := [(j < (n + (3 : Nat))), (((0 : Int) ≤ ((j : Nat) : Int)) ∧ (((j : Nat) : Int) < (((n + (3 : Nat)) : Nat) : Int))), (j < nm), (((0 : Int) ≤ ((j : Nat) : Int)) ∧ (((j : Nat) : Int) < ((n : Nat) : Int))), ((decide (((j : Nat) : Int) < ((n : Nat) : Int))) = true)]) (by kernel_rfl)
    (aC (by first | omega | (simp (disch := omega) only [wrapI]; omega)) (aC ⟨(by first | omega | (simp (disch := omega) only [wrapI]; omega)), (by first | omega | (simp (disch := omega) only [wrapI]; omega))⟩ (aC (by first | omega | (simp (disch := omega) only [wrapI]; omega)) (aC ⟨(by first | omega | (simp (disch := omega) only [wrapI]; omega)), (by first | omega | (simp (disch := omega) only [wrapI]; omega))⟩ (aC (decide_eq_true (by first | omega | (simp (disch := omega) only [wrapI]; omega))) (AllP_nil))))))
  rw [e0, e1] at h
  exact h

set_option maxHeartbeats 1000000 in
theorem gv1B_last (q k_ : Nat) (L : List Value) (m0 : Nat) (B0 : List Int) (W : List Value) (D0 : List Int) (n nm : Nat) (b : List Int) (cap5 : Nat) (h0 : (nm = n)) (h1 : (n < (17592186044416 : Nat))) (h2 : (q < (2199023255552 : Nat))) (h3 : (q = (k_ + (1 : Nat)))) (hc5 : n ≤ cap5) (hl2_0 : List.length B0 = m0) (hl4_0 : List.length D0 = m0) (hl5_0 : List.length b = nm) (w : World) (rw : List Nat) (β : Env) (sj : Unit) : Run Try.prog ⟨w, rw, 6, β⟩ (loopB Try.f15 2) (gv1B_mk q k_ L m0 B0 W D0 n nm b cap5 n sj) (To ⟨w, rw, 6, β⟩ (.exit 2) (gv1B_mk q k_ L m0 B0 W D0 n nm b cap5 n sj)) :=
  Run.of_outT (B := ⟨w, rw, 6, β⟩) (Λ := noLam) (Ψ := noPsi) (fuel := 0) (ora := [false]) (l := [.forget [0, 1, 4, 5, 6, 7] 7]) mix tabOkKB gam35_ok
    (vc := [((decide (((n : Nat) : Int) < ((n : Nat) : Int))) = false)]) (by kernel_rfl)
    (aC (decide_eq_false (by omega)) (AllP_nil))

theorem gv1B_loop (q k_ : Nat) (L : List Value) (m0 : Nat) (B0 : List Int) (W : List Value) (D0 : List Int) (n nm : Nat) (b : List Int) (cap5 : Nat) (h0 : (nm = n)) (h1 : (n < (17592186044416 : Nat))) (h2 : (q < (2199023255552 : Nat))) (h3 : (q = (k_ + (1 : Nat)))) (hc5 : n ≤ cap5) (hl2_0 : List.length B0 = m0) (hl4_0 : List.length D0 = m0) (hl5_0 : List.length b = nm) (w : World) (rw : List Nat) (β : Env) (sj : Unit) : Run Try.prog ⟨w, rw, 6, β⟩ (.block 2 (.loop (loopB Try.f15 2))) (gv1B_mk q k_ L m0 B0 W D0 n nm b cap5 0 sj) (To ⟨w, rw, 6, β⟩ .normal (gv1B_mk q k_ L m0 B0 W D0 n nm b cap5 n (iter (gv1B_step) n sj))) :=
  Run.count (fun j => gv1B_mk q k_ L m0 B0 W D0 n nm b cap5 j (iter (gv1B_step) j sj)) n (fun j hj => gv1B_round q k_ L m0 B0 W D0 n nm b cap5 h0 h1 h2 h3 hc5 hl2_0 hl4_0 hl5_0 w rw β j hj _) (ex := (.exit 2)) (by simp) (gv1B_last q k_ L m0 B0 W D0 n nm b cap5 h0 h1 h2 h3 hc5 hl2_0 hl4_0 hl5_0 w rw β _)

def gv1 (n : Nat) : Nat :=
  (n + (3 : Nat))

def gv1_1 (q : Nat) : Nat :=
  (q + (1 : Nat))

set_option maxHeartbeats 1000000 in
theorem gv1_body0 (q k_ : Nat) (L : List Value) (m0 : Nat) (B0 : List Int) (W : List Value) (D0 : List Int) (n nm : Nat) (b : List Int) (cap5 : Nat) (h0 : (nm = n)) (h1 : (n < (17592186044416 : Nat))) (h2 : (q < (2199023255552 : Nat))) (h3 : (q = (k_ + (1 : Nat)))) (hc5 : n ≤ cap5) (hl2_0 : List.length B0 = m0) (hl4_0 : List.length D0 = m0) (hl5_0 : List.length b = nm) (w : World) (rw : List Nat) (β : Env) : Body Try.prog (tabOf tabKB) Try.f15 ⟨w, rw, 6, β⟩ [.o (.a (.p 0 0)), .o (.a (.sl 5 0 n cap5))] [some ⟨true, [.rs 1 0 q 1, .rs 3 0 q 1, .raw (.slice none 0 0), .raw (.slice none 0 0), .raw (.slice none 0 0), .raw (.slice none 0 0), .raw (.slice none 0 0), .raw (.slice none 0 0), .raw (.slice none 0 0), .raw (.slice none 0 0), .raw (.slice none 0 0), .raw (.slice none 0 0), .raw (.slice none 0 0), .raw (.slice none 0 0), .raw (.slice none 0 0), .raw (.slice none 0 0), .raw (.slice none 0 0), .raw (.slice none 0 0), .raw (.slice none 0 0), .raw (.slice none 0 0), .raw (.slice none 0 0), .raw (.slice none 0 0), .raw (.slice none 0 0), .raw (.slice none 0 0), .raw (.slice none 0 0), .raw (.slice none 0 0), .raw (.slice none 0 0), .raw (.slice none 0 0), .raw (.slice none 0 0), .raw (.slice none 0 0)]⟩, some ⟨true, [.vals k_ L, .sl 2 0 m0 m0]⟩, some ⟨true, [.ints .u8 m0 B0]⟩, some ⟨true, [.vals k_ W, .rs 4 0 m0 1]⟩, some ⟨true, [.ints .u8 m0 D0]⟩, some ⟨false, [.ints .u8 nm b]⟩] (fun ys K' => ys = [.a (.sl 8 0 n (gv1 n))] ∧ K' = [some ⟨true, [.rs 6 0 (gv1_1 q) 1, .rs 7 0 (gv1_1 q) 1, .raw (.slice none 0 0), .raw (.slice none 0 0), .raw (.slice none 0 0), .raw (.slice none 0 0), .raw (.slice none 0 0), .raw (.slice none 0 0), .raw (.slice none 0 0), .raw (.slice none 0 0), .raw (.slice none 0 0), .raw (.slice none 0 0), .raw (.slice none 0 0), .raw (.slice none 0 0), .raw (.slice none 0 0), .raw (.slice none 0 0), .raw (.slice none 0 0), .raw (.slice none 0 0), .raw (.slice none 0 0), .raw (.slice none 0 0), .raw (.slice none 0 0), .raw (.slice none 0 0), .raw (.slice none 0 0), .raw (.slice none 0 0), .raw (.slice none 0 0), .raw (.slice none 0 0), .raw (.slice none 0 0), .raw (.slice none 0 0), .raw (.slice none 0 0), .raw (.slice none 0 0)]⟩, none, some ⟨true, [.ints .u8 m0 B0]⟩, none, some ⟨true, [.ints .u8 m0 D0]⟩, some ⟨false, [.ints .u8 nm b]⟩, some ⟨true, [.vals k_ L, .sl 2 0 m0 m0, .sl 8 0 (gv1 n) (gv1 n)]⟩, some ⟨true, [.vals k_ W, .rs 4 0 m0 1, .rs 9 0 (gv1 n) 1]⟩, some ⟨true, [.ints .u8 (gv1 n) (gvB n b)]⟩, some ⟨true, [.ints .u8 (gv1 n) (gvB n b)]⟩]) :=
  Body.of_finK (Γ := gam35) (Λ := lamOf [(0, ⟨[.forget [0, 1, 4, 5, 6] 7], .normal, (gv1A_mk q k_ L m0 B0 W D0 n nm b cap5 (n + (3 : Nat)) (iter (gv1A_step) (n + (3 : Nat)) ()))⟩), (2, ⟨[.forget [0, 1, 4, 5, 6, 7] 7], .normal, (gv1B_mk q k_ L m0 B0 W D0 n nm b cap5 n (iter (gv1B_step) n ()))⟩)]) (Ψ := psiOf [(1, [.eqS 5 (.o (.a (.sl 6 0 (n + (3 : Nat)) (n + (3 : Nat))))), .eqB 6 (⟨true, [.ints .u8 (n + (3 : Nat)) (List.replicate (n + (3 : Nat)) (0 : Int))]⟩)]), (6, [.eqB 6 (⟨true, [.ints .u8 (n + (3 : Nat)) (rwB (987 : Int) (n + (3 : Nat)))]⟩)]), (10, [.eqB 6 (⟨true, [.ints .u8 (n + (3 : Nat)) (gvB n b)]⟩)]), (11, [.eqB 9 (⟨true, [.ints .u8 (n + (3 : Nat)) (gvB n b)]⟩)])]) (fuel := 0) (m := 61) (c := (Try.f15.body.getD .skip)) mix tabOkKB gam35_ok rfl (rs := [.tmp 4]) rfl rfl [false, false] [.swap 6 8, .swap 7 11] 10
    (vc := [(((0 : Int) ≤ (0 : Int)) ∧ ((0 : Int) ≤ ((n : Nat) : Int)) ∧ (((n : Nat) : Int) ≤ (((n + (3 : Nat)) : Nat) : Int))), ((some ⟨true, [.ints .u8 (n + (3 : Nat)) (copyB (n + (3 : Nat)) (sub (gvB n b) (0 : Nat) (n + (3 : Nat))))]⟩ : Option Blk) = some ⟨true, [.ints .u8 (n + (3 : Nat)) (gvB n b)]⟩), ((((0 : Nat) = (0 : Nat)) ∧ (q = (k_ + (1 : Nat)))) ∧ (((1 : Nat) ≤ (1 : Nat)) ∧ True) ∧ (((q + (1 : Nat)) * (24 : Nat)) ≤ (140737488355328 : Nat))), (((((0 : Nat) + (n + (3 : Nat))) ≤ (n + (3 : Nat))) ∧ True) ∧ (((n + (3 : Nat)) = (n + (3 : Nat))) ∧ ((n + (3 : Nat)) < (35184372088832 : Nat)))), ((some ⟨true, [.ints .u8 (n + (3 : Nat)) (cpB b (rwB (987 : Int) (n + (3 : Nat))) n)]⟩ : Option Blk) = some ⟨true, [.ints .u8 (n + (3 : Nat)) (gvB n b)]⟩), ((((0 : Nat) = (0 : Nat)) ∧ (q = (k_ + (1 : Nat)))) ∧ (((1 : Nat) ≤ (1 : Nat)) ∧ True) ∧ (((q + (1 : Nat)) * (24 : Nat)) ≤ (140737488355328 : Nat))), (Run Try.prog ⟨w, rw, 6, β⟩ (.block 2 (.loop (loopB Try.f15 2))) (gv1B_mk q k_ L m0 B0 W D0 n nm b cap5 0 ()) (To ⟨w, rw, 6, β⟩ .normal (gv1B_mk q k_ L m0 B0 W D0 n nm b cap5 n (iter (gv1B_step) n ())))), ((some ⟨true, [.ints .u8 (n + (3 : Nat)) (mkP (List.replicate (n + (3 : Nat)) (0 : Int)) (987 : Int) (n + (3 : Nat)))]⟩ : Option Blk) = some ⟨true, [.ints .u8 (n + (3 : Nat)) (rwB (987 : Int) (n + (3 : Nat)))]⟩), (Run Try.prog ⟨w, rw, 6, β⟩ (.block 0 (.loop (loopB Try.f15 0))) (gv1A_mk q k_ L m0 B0 W D0 n nm b cap5 0 ()) (To ⟨w, rw, 6, β⟩ .normal (gv1A_mk q k_ L m0 B0 W D0 n nm b cap5 (n + (3 : Nat)) (iter (gv1A_step) (n + (3 : Nat)) ())))), ((some ⟨true, [.ints .u8 (Int.toNat (IntKind.i64.wrap (((n : Nat) : Int) + (3 : Int)))) (List.replicate (Int.toNat (IntKind.i64.wrap (((n : Nat) : Int) + (3 : Int)))) (0 : Int))]⟩ : Option Blk) = some ⟨true, [.ints .u8 (n + (3 : Nat)) (List.replicate (n + (3 : Nat)) (0 : Int))]⟩), ((.o (.a (.sl 6 0 (Int.toNat (IntKind.i64.wrap (((n : Nat) : Int) + (3 : Int)))) (Int.toNat (IntKind.i64.wrap (((n : Nat) : Int) + (3 : Int)))))) : AV) = .o (.a (.sl 6 0 (n + (3 : Nat)) (n + (3 : Nat))))), (((0 : Int) ≤ (IntKind.i64.wrap (((n : Nat) : Int) + (3 : Int)))) ∧ ((IntKind.i64.wrap (((n : Nat) : Int) + (3 : Int))) ≤ (IntKind.i64.wrap (((n : Nat) : Int) + (3 : Int)))) ∧ (((IntKind.i64.wrap (((n : Nat) : Int) + (3 : Int))) * (1 : Int)) ≤ (281474976710656 : Int)))]) (by kernel_rfl)
    (aC ⟨(by decide), (by first | omega | (simp (disch := omega) only [wrapI]; omega)), (by first | omega | (simp (disch := omega) only [wrapI]; omega))⟩ (aC ((by rw [show copyB (n + 3) (sub (gvB n b) 0 (n + 3)) = gvB n b from gv_copy (hl5_0.trans h0)])) (aC ⟨⟨rfl, h3⟩, ⟨(by decide), trivial⟩, (by first | omega | (simp (disch := omega) only [wrapI]; omega))⟩ (aC ⟨⟨(by first | omega | (simp (disch := omega) only [wrapI]; omega)), trivial⟩, ⟨rfl, (by first | omega | (simp (disch := omega) only [wrapI]; omega))⟩⟩ (aC (rfl) (aC ⟨⟨rfl, h3⟩, ⟨(by decide), trivial⟩, (by first | omega | (simp (disch := omega) only [wrapI]; omega))⟩ (aC (gv1B_loop q k_ L m0 B0 W D0 n nm b cap5 h0 h1 h2 h3 hc5 hl2_0 hl4_0 hl5_0 w rw β ()) (aC ((by rw [mkP_all (by rw [List.length_replicate])])) (aC (gv1A_loop q k_ L m0 B0 W D0 n nm b cap5 h0 h1 h2 h3 hc5 hl2_0 hl4_0 hl5_0 w rw β ()) (aC ((by rw [wrapI (by omega) (by omega), show Int.toNat (((n : Nat) : Int) + 3) = n + 3 from by omega])) (aC ((by rw [wrapI (by omega) (by omega), show Int.toNat (((n : Nat) : Int) + 3) = n + 3 from by omega])) (aC ⟨(by first | omega | (simp (disch := omega) only [wrapI]; omega)), (by first | omega | (simp (disch := omega) only [wrapI]; omega)), (by first | omega | (simp (disch := omega) only [wrapI]; omega))⟩ (AllP_nil)))))))))))))

theorem gv1_body (q k_ : Nat) (L : List Value) (m0 : Nat) (B0 : List Int) (W : List Value) (D0 : List Int) (n nm : Nat) (b : List Int) (cap5 : Nat) (h0 : (nm = n)) (h1 : (n < (17592186044416 : Nat))) (h2 : (q < (2199023255552 : Nat))) (h3 : (q = (k_ + (1 : Nat)))) (w : World) (rw : List Nat) (β : Env) : Body Try.prog (tabOf tabKB) Try.f15 ⟨w, rw, 6, β⟩ [.o (.a (.p 0 0)), .o (.a (.sl 5 0 n cap5))] [some ⟨true, [.rs 1 0 q 1, .rs 3 0 q 1, .raw (.slice none 0 0), .raw (.slice none 0 0), .raw (.slice none 0 0), .raw (.slice none 0 0), .raw (.slice none 0 0), .raw (.slice none 0 0), .raw (.slice none 0 0), .raw (.slice none 0 0), .raw (.slice none 0 0), .raw (.slice none 0 0), .raw (.slice none 0 0), .raw (.slice none 0 0), .raw (.slice none 0 0), .raw (.slice none 0 0), .raw (.slice none 0 0), .raw (.slice none 0 0), .raw (.slice none 0 0), .raw (.slice none 0 0), .raw (.slice none 0 0), .raw (.slice none 0 0), .raw (.slice none 0 0), .raw (.slice none 0 0), .raw (.slice none 0 0), .raw (.slice none 0 0), .raw (.slice none 0 0), .raw (.slice none 0 0), .raw (.slice none 0 0), .raw (.slice none 0 0)]⟩, some ⟨true, [.vals k_ L, .sl 2 0 m0 m0]⟩, some ⟨true, [.ints .u8 m0 B0]⟩, some ⟨true, [.vals k_ W, .rs 4 0 m0 1]⟩, some ⟨true, [.ints .u8 m0 D0]⟩, some ⟨false, [.ints .u8 nm b]⟩] (fun ys K' => ys = [.a (.sl 8 0 n (gv1 n))] ∧ K' = [some ⟨true, [.rs 6 0 (gv1_1 q) 1, .rs 7 0 (gv1_1 q) 1, .raw (.slice none 0 0), .raw (.slice none 0 0), .raw (.slice none 0 0), .raw (.slice none 0 0), .raw (.slice none 0 0), .raw (.slice none 0 0), .raw (.slice none 0 0), .raw (.slice none 0 0), .raw (.slice none 0 0), .raw (.slice none 0 0), .raw (.slice none 0 0), .raw (.slice none 0 0), .raw (.slice none 0 0), .raw (.slice none 0 0), .raw (.slice none 0 0), .raw (.slice none 0 0), .raw (.slice none 0 0), .raw (.slice none 0 0), .raw (.slice none 0 0), .raw (.slice none 0 0), .raw (.slice none 0 0), .raw (.slice none 0 0), .raw (.slice none 0 0), .raw (.slice none 0 0), .raw (.slice none 0 0), .raw (.slice none 0 0), .raw (.slice none 0 0), .raw (.slice none 0 0)]⟩, none, some ⟨true, [.ints .u8 m0 B0]⟩, none, some ⟨true, [.ints .u8 m0 D0]⟩, some ⟨false, [.ints .u8 nm b]⟩, some ⟨true, [.vals k_ L, .sl 2 0 m0 m0, .sl 8 0 (gv1 n) (gv1 n)]⟩, some ⟨true, [.vals k_ W, .rs 4 0 m0 1, .rs 9 0 (gv1 n) 1]⟩, some ⟨true, [.ints .u8 (gv1 n) (gvB n b)]⟩, some ⟨true, [.ints .u8 (gv1 n) (gvB n b)]⟩]) :=
  Body.lens (c := (Try.f15.body.getD .skip)) rfl fun h => gv1_body0 q k_ L m0 B0 W D0 n nm b cap5 h0 h1 h2 h3 (h.caps 1 _ _ _ _ rfl) (h.lens 2 _ .u8 m0 B0 rfl (by simp)) (h.lens 4 _ .u8 m0 D0 rfl (by simp)) (h.lens 5 _ .u8 nm b rfl (by simp)) w rw β

def gv2A_mk (q k_ : Nat) (L : List Value) (m0 m1 : Nat) (B0 B1 : List Int) (W : List Value) (D0 D1 : List Int) (n nm : Nat) (b : List Int) (cap7 j : Nat) (sj : Unit) : St := ⟨sparse 61 [(0, .o (.a (.p 0 0))), (1, .o (.a (.sl 7 0 n cap7))), (4, .o (.a (.raw (.slice none 0 0)))), (5, .o (.a (.sl 8 0 (n + (3 : Nat)) (n + (3 : Nat))))), (6, .o (.a (.i .i64 ((j : Nat) : Int))))], [some ⟨true, [.rs 1 0 q 1, .rs 4 0 q 1, .raw (.slice none 0 0), .raw (.slice none 0 0), .raw (.slice none 0 0), .raw (.slice none 0 0), .raw (.slice none 0 0), .raw (.slice none 0 0), .raw (.slice none 0 0), .raw (.slice none 0 0), .raw (.slice none 0 0), .raw (.slice none 0 0), .raw (.slice none 0 0), .raw (.slice none 0 0), .raw (.slice none 0 0), .raw (.slice none 0 0), .raw (.slice none 0 0), .raw (.slice none 0 0), .raw (.slice none 0 0), .raw (.slice none 0 0), .raw (.slice none 0 0), .raw (.slice none 0 0), .raw (.slice none 0 0), .raw (.slice none 0 0), .raw (.slice none 0 0), .raw (.slice none 0 0), .raw (.slice none 0 0), .raw (.slice none 0 0), .raw (.slice none 0 0), .raw (.slice none 0 0)]⟩, some ⟨true, [.vals k_ L, .sl 2 0 m0 m0, .sl 3 0 m1 m1]⟩, some ⟨true, [.ints .u8 m0 B0]⟩, some ⟨true, [.ints .u8 m1 B1]⟩, some ⟨true, [.vals k_ W, .rs 5 0 m0 1, .rs 6 0 m1 1]⟩, some ⟨true, [.ints .u8 m0 D0]⟩, some ⟨true, [.ints .u8 m1 D1]⟩, some ⟨false, [.ints .u8 nm b]⟩, some ⟨true, [.ints .u8 (n + (3 : Nat)) (mkP (List.replicate (n + (3 : Nat)) (0 : Int)) (987 : Int) j)]⟩]⟩

def gv2A_step (j : Nat) (sj : Unit) : Unit :=
  ()

set_option maxHeartbeats 1000000 in
theorem gv2A_round (q k_ : Nat) (L : List Value) (m0 m1 : Nat) (B0 B1 : List Int) (W : List Value) (D0 D1 : List Int) (n nm : Nat) (b : List Int) (cap7 : Nat) (h0 : (nm = n)) (h1 : (n < (17592186044416 : Nat))) (h2 : (q < (2199023255552 : Nat))) (h3 : (q = (k_ + (2 : Nat)))) (hc7 : n ≤ cap7) (hl2_0 : List.length B0 = m0) (hl3_0 : List.length B1 = m1) (hl5_0 : List.length D0 = m0) (hl6_0 : List.length D1 = m1) (hl7_0 : List.length b = nm) (w : World) (rw : List Nat) (β : Env) (j : Nat) (hj : j < (n + (3 : Nat))) (sj : Unit) : Run Try.prog ⟨w, rw, 8, β⟩ (loopB Try.f15 0) (gv2A_mk q k_ L m0 m1 B0 B1 W D0 D1 n nm b cap7 j sj) (To ⟨w, rw, 8, β⟩ .normal (gv2A_mk q k_ L m0 m1 B0 B1 W D0 D1 n nm b cap7 (j + 1) (gv2A_step j sj))) := by
  have e0 : (List.set (mkP (List.replicate (n + (3 : Nat)) (0 : Int)) (987 : Int) j) j (mkBy (987 : Int) ((j : Nat) : Int))) = (mkP (List.replicate (n + (3 : Nat)) (0 : Int)) (987 : Int) (j + (1 : Nat))) := (by first | exact wrap_succ (by omega) | exact mkP_step (by rw [List.length_replicate]) (by omega))
  have e1 : (IntKind.i64.wrap (((j : Nat) : Int) + (1 : Int))) = (((j + (1 : Nat)) : Nat) : Int) := (by first | exact wrap_succ (by omega) | exact mkP_step (by rw [List.length_replicate]) (by omega))
  have h := Run.of_outT (B := ⟨w, rw, 8, β⟩) (Λ := noLam) (Ψ := noPsi) (fuel := 0) (ora := [true]) (c := (loopB Try.f15 0)) (st := (gv2A_mk q k_ L m0 m1 B0 B1 W D0 D1 n nm b cap7 j sj)) (l := [.forget [0, 1, 4, 5, 6] 9]) (s' := ⟨sparse 61 [(0, .o (.a (.p 0 0))), (1, .o (.a (.sl 7 0 n cap7))), (4, .o (.a (.raw (.slice none 0 0)))), (5, .o (.a (.sl 8 0 (n + (3 : Nat)) (n + (3 : Nat))))), (6, .o (.a (.i .i64 (IntKind.i64.wrap (((j : Nat) : Int) + (1 : Int))))))], [some ⟨true, [.rs 1 0 q 1, .rs 4 0 q 1, .raw (.slice none 0 0), .raw (.slice none 0 0), .raw (.slice none 0 0), .raw (.slice none 0 0), .raw (.slice none 0 0), .raw (.slice none 0 0), .raw (.slice none 0 0), .raw (.slice none 0 0), .raw (.slice none 0 0), .raw (.slice none 0 0), .raw (.slice none 0 0), .raw (.slice none 0 0), .raw (.slice none 0 0), .raw (.slice none 0 0), .raw (.slice none 0 0), .raw (.slice none 0 0), .raw (.slice none 0 0), .raw (.slice none 0 0), .raw (.slice none 0 0), .raw (.slice none 0 0), .raw (.slice none 0 0), .raw (.slice none 0 0), .raw (.slice none 0 0), .raw (.slice none 0 0), .raw (.slice none 0 0), .raw (.slice none 0 0), .raw (.slice none 0 0), .raw (.slice none 0 0)]⟩, some ⟨true, [.vals k_ L, .sl 2 0 m0 m0, .sl 3 0 m1 m1]⟩, some ⟨true, [.ints .u8 m0 B0]⟩, some ⟨true, [.ints .u8 m1 B1]⟩, some ⟨true, [.vals k_ W, .rs 5 0 m0 1, .rs 6 0 m1 1]⟩, some ⟨true, [.ints .u8 m0 D0]⟩, some ⟨true, [.ints .u8 m1 D1]⟩, some ⟨false, [.ints .u8 nm b]⟩, some ⟨true, [.ints .u8 (n + (3 : Nat)) (List.set (mkP (List.replicate (n + (3 : Nat)) (0 : Int)) (987 : Int) j) j (mkBy (987 : Int) ((j : Nat) : Int)))]⟩]⟩) (ex := .normal) mix tabOkKB gam35_ok
    (vc := [(j < (n + (3 : Nat))), (((0 : Int) ≤ ((j : Nat) : Int)) ∧ (((j : Nat) : Int) < (((n + (3 : Nat)) : Nat) : Int))), ((decide (((j : Nat) : Int) < (((n + (3 : Nat)) : Nat) : Int))) = true)]) (by kernel_rfl)
    (aC (by first | omega | (simp (disch := omega) only [wrapI]; omega)) (aC ⟨(by first | omega | (simp (disch := omega) only [wrapI]; omega)), (by first | omega | (simp (disch := omega) only [wrapI]; omega))⟩ (aC (decide_eq_true (by first | omega | (simp (disch := omega) only [wrapI]; omega))) (AllP_nil))))
  rw [e0, e1] at h
  exact h

set_option maxHeartbeats 1000000 in
theorem gv2A_last (q k_ : Nat) (L : List Value) (m0 m1 : Nat) (B0 B1 : List Int) (W : List Value) (D0 D1 : List Int) (n nm : Nat) (b : List Int) (cap7 : Nat) (h0 : (nm = n)) (h1 : (n < (17592186044416 : Nat))) (h2 : (q < (2199023255552 : Nat))) (h3 : (q = (k_ + (2 : Nat)))) (hc7 : n ≤ cap7) (hl2_0 : List.length B0 = m0) (hl3_0 : List.length B1 = m1) (hl5_0 : List.length D0 = m0) (hl6_0 : List.length D1 = m1) (hl7_0 : List.length b = nm) (w : World) (rw : List Nat) (β : Env) (sj : Unit) : Run Try.prog ⟨w, rw, 8, β⟩ (loopB Try.f15 0) (gv2A_mk q k_ L m0 m1 B0 B1 W D0 D1 n nm b cap7 (n + (3 : Nat)) sj) (To ⟨w, rw, 8, β⟩ (.exit 0) (gv2A_mk q k_ L m0 m1 B0 B1 W D0 D1 n nm b cap7 (n + (3 : Nat)) sj)) :=
  Run.of_outT (B := ⟨w, rw, 8, β⟩) (Λ := noLam) (Ψ := noPsi) (fuel := 0) (ora := [false]) (l := [.forget [0, 1, 4, 5, 6] 9]) mix tabOkKB gam35_ok
    (vc := [((decide ((((n + (3 : Nat)) : Nat) : Int) < (((n + (3 : Nat)) : Nat) : Int))) = false)]) (by kernel_rfl)
    (aC (decide_eq_false (by omega)) (AllP_nil))

theorem gv2A_loop (q k_ : Nat) (L : List Value) (m0 m1 : Nat) (B0 B1 : List Int) (W : List Value) (D0 D1 : List Int) (n nm : Nat) (b : List Int) (cap7 : Nat) (h0 : (nm = n)) (h1 : (n < (17592186044416 : Nat))) (h2 : (q < (2199023255552 : Nat))) (h3 : (q = (k_ + (2 : Nat)))) (hc7 : n ≤ cap7) (hl2_0 : List.length B0 = m0) (hl3_0 : List.length B1 = m1) (hl5_0 : List.length D0 = m0) (hl6_0 : List.length D1 = m1) (hl7_0 : List.length b = nm) (w : World) (rw : List Nat) (β : Env) (sj : Unit) : Run Try.prog ⟨w, rw, 8, β⟩ (.block 0 (.loop (loopB Try.f15 0))) (gv2A_mk q k_ L m0 m1 B0 B1 W D0 D1 n nm b cap7 0 sj) (To ⟨w, rw, 8, β⟩ .normal (gv2A_mk q k_ L m0 m1 B0 B1 W D0 D1 n nm b cap7 (n + (3 : Nat)) (iter (gv2A_step) (n + (3 : Nat)) sj))) :=
  Run.count (fun j => gv2A_mk q k_ L m0 m1 B0 B1 W D0 D1 n nm b cap7 j (iter (gv2A_step) j sj)) (n + (3 : Nat)) (fun j hj => gv2A_round q k_ L m0 m1 B0 B1 W D0 D1 n nm b cap7 h0 h1 h2 h3 hc7 hl2_0 hl3_0 hl5_0 hl6_0 hl7_0 w rw β j hj _) (ex := (.exit 0)) (by simp) (gv2A_last q k_ L m0 m1 B0 B1 W D0 D1 n nm b cap7 h0 h1 h2 h3 hc7 hl2_0 hl3_0 hl5_0 hl6_0 hl7_0 w rw β _)

def gv2B_mk (q k_ : Nat) (L : List Value) (m0 m1 : Nat) (B0 B1 : List Int) (W : List Value) (D0 D1 : List Int) (n nm : Nat) (b : List Int) (cap7 j : Nat) (sj : Unit) : St := ⟨sparse 61 [(0, .o (.a (.p 0 0))), (1, .o (.a (.sl 7 0 n cap7))), (4, .o (.a (.raw (.slice none 0 0)))), (5, .o (.a (.sl 8 0 (n + (3 : Nat)) (n + (3 : Nat))))), (6, .o (.a (.i .i64 (((n + (3 : Nat)) : Nat) : Int)))), (7, .o (.a (.i .i64 ((j : Nat) : Int))))], [some ⟨true, [.rs 1 0 q 1, .rs 4 0 q 1, .raw (.slice none 0 0), .raw (.slice none 0 0), .raw (.slice none 0 0), .raw (.slice none 0 0), .raw (.slice none 0 0), .raw (.slice none 0 0), .raw (.slice none 0 0), .raw (.slice none 0 0), .raw (.slice none 0 0), .raw (.slice none 0 0), .raw (.slice none 0 0), .raw (.slice none 0 0), .raw (.slice none 0 0), .raw (.slice none 0 0), .raw (.slice none 0 0), .raw (.slice none 0 0), .raw (.slice none 0 0), .raw (.slice none 0 0), .raw (.slice none 0 0), .raw (.slice none 0 0), .raw (.slice none 0 0), .raw (.slice none 0 0), .raw (.slice none 0 0), .raw (.slice none 0 0), .raw (.slice none 0 0), .raw (.slice none 0 0), .raw (.slice none 0 0), .raw (.slice none 0 0)]⟩, some ⟨true, [.vals k_ L, .sl 2 0 m0 m0, .sl 3 0 m1 m1]⟩, some ⟨true, [.ints .u8 m0 B0]⟩, some ⟨true, [.ints .u8 m1 B1]⟩, some ⟨true, [.vals k_ W, .rs 5 0 m0 1, .rs 6 0 m1 1]⟩, some ⟨true, [.ints .u8 m0 D0]⟩, some ⟨true, [.ints .u8 m1 D1]⟩, some ⟨false, [.ints .u8 nm b]⟩, some ⟨true, [.ints .u8 (n + (3 : Nat)) (cpB b (rwB (987 : Int) (n + (3 : Nat))) j)]⟩]⟩

def gv2B_step (j : Nat) (sj : Unit) : Unit :=
  ()

set_option maxHeartbeats 1000000 in
theorem gv2B_round (q k_ : Nat) (L : List Value) (m0 m1 : Nat) (B0 B1 : List Int) (W : List Value) (D0 D1 : List Int) (n nm : Nat) (b : List Int) (cap7 : Nat) (h0 : (nm = n)) (h1 : (n < (17592186044416 : Nat))) (h2 : (q < (2199023255552 : Nat))) (h3 : (q = (k_ + (2 : Nat)))) (hc7 : n ≤ cap7) (hl2_0 : List.length B0 = m0) (hl3_0 : List.length B1 = m1) (hl5_0 : List.length D0 = m0) (hl6_0 : List.length D1 = m1) (hl7_0 : List.length b = nm) (w : World) (rw : List Nat) (β : Env) (j : Nat) (hj : j < n) (sj : Unit) : Run Try.prog ⟨w, rw, 8, β⟩ (loopB Try.f15 2) (gv2B_mk q k_ L m0 m1 B0 B1 W D0 D1 n nm b cap7 j sj) (To ⟨w, rw, 8, β⟩ .normal (gv2B_mk q k_ L m0 m1 B0 B1 W D0 D1 n nm b cap7 (j + 1) (gv2B_step j sj))) := by
  have e0 : (List.set (cpB b (rwB (987 : Int) (n + (3 : Nat))) j) j (List.getD b j 0)) = (cpB b (rwB (987 : Int) (n + (3 : Nat))) (j + (1 : Nat))) := (by first | exact wrap_succ (by omega) | exact cpB_step (hl7_0.trans h0) (rwB_len _ _) (by omega) (by omega))
  have e1 : (IntKind.i64.wrap (((j : Nat) : Int) + (1 : Int))) = (((j + (1 : Nat)) : Nat) : Int) := (by first | exact wrap_succ (by omega) | exact cpB_step (hl7_0.trans h0) (rwB_len _ _) (by omega) (by omega))
  have h := Run.of_outT (B := ⟨w, rw, 8, β⟩) (Λ := noLam) (Ψ := noPsi) (fuel := 0) (ora := [true]) (c := (loopB Try.f15 2)) (st := (gv2B_mk q k_ L m0 m1 B0 B1 W D0 D1 n nm b cap7 j sj)) (l := [.forget [0, 1, 4, 5, 6, 7] 9]) (s' := ⟨sparse 61 [(0, .o (.a (.p 0 0))), (1, .o (.a (.sl 7 0 n cap7))), (4, .o (.a (.raw (.slice none 0 0)))), (5, .o (.a (.sl 8 0 (n + (3 : Nat)) (n + (3 : Nat))))), (6, .o (.a (.i .i64 (((n + (3 : Nat)) : Nat) : Int)))), (7, .o (.a (.i .i64 (IntKind.i64.wrap (((j : Nat) : Int) + (1 : Int))))))], [some ⟨true, [.rs 1 0 q 1, .rs 4 0 q 1, .raw (.slice none 0 0), .raw (.slice none 0 0), .raw (.slice none 0 0), .raw (.slice none 0 0), .raw (.slice none 0 0), .raw (.slice none 0 0), .raw (.slice none 0 0), .raw (.slice none 0 0), .raw (.slice none 0 0), .raw (.slice none 0 0), .raw (.slice none 0 0), .raw (.slice none 0 0), .raw (.slice none 0 0), .raw (.slice none 0 0), .raw (.slice none 0 0), .raw (.slice none 0 0), .raw (.slice none 0 0), .raw (.slice none 0 0), .raw (.slice none 0 0), .raw (.slice none 0 0), .raw (.slice none 0 0), .raw (.slice none 0 0), .raw (.slice none 0 0), .raw (.slice none 0 0), .raw (.slice none 0 0), .raw (.slice none 0 0), .raw (.slice none 0 0), .raw (.slice none 0 0)]⟩, some ⟨true, [.vals k_ L, .sl 2 0 m0 m0, .sl 3 0 m1 m1]⟩, some ⟨true, [.ints .u8 m0 B0]⟩, some ⟨true, [.ints .u8 m1 B1]⟩, some ⟨true, [.vals k_ W, .rs 5 0 m0 1, .rs 6 0 m1 1]⟩, some ⟨true, [.ints .u8 m0 D0]⟩, some ⟨true, [.ints .u8 m1 D1]⟩, some ⟨false, [.ints .u8 nm b]⟩, some ⟨true, [.ints .u8 (n + (3 : Nat)) (List.set (cpB b (rwB (987 : Int) (n + (3 : Nat))) j) j (List.getD b j 0))]⟩]⟩) (ex := .normal) mix tabOkKB gam35_ok
    (vc := [(j < (n + (3 : Nat))), (((0 : Int) ≤ ((j : Nat) : Int)) ∧ (((j : Nat) : Int) < (((n + (3 : Nat)) : Nat) : Int))), (j < nm), (((0 : Int) ≤ ((j : Nat) : Int)) ∧ (((j : Nat) : Int) < ((n : Nat) : Int))), ((decide (((j : Nat) : Int) < ((n : Nat) : Int))) = true)]) (by kernel_rfl)
    (aC (by first | omega | (simp (disch := omega) only [wrapI]; omega)) (aC ⟨(by first | omega | (simp (disch := omega) only [wrapI]; omega)), (by first | omega | (simp (disch := omega) only [wrapI]; omega))⟩ (aC (by first | omega | (simp (disch := omega) only [wrapI]; omega)) (aC ⟨(by first | omega | (simp (disch := omega) only [wrapI]; omega)), (by first | omega | (simp (disch := omega) only [wrapI]; omega))⟩ (aC (decide_eq_true (by first | omega | (simp (disch := omega) only [wrapI]; omega))) (AllP_nil))))))
  rw [e0, e1] at h
  exact h

set_option maxHeartbeats 1000000 in
theorem gv2B_last (q k_ : Nat) (L : List Value) (m0 m1 : Nat) (B0 B1 : List Int) (W : List Value) (D0 D1 : List Int) (n nm : Nat) (b : List Int) (cap7 : Nat) (h0 : (nm = n)) (h1 : (n < (17592186044416 : Nat))) (h2 : (q < (2199023255552 : Nat))) (h3 : (q = (k_ + (2 : Nat)))) (hc7 : n ≤ cap7) (hl2_0 : List.length B0 = m0) (hl3_0 : List.length B1 = m1) (hl5_0 : List.length D0 = m0) (hl6_0 : List.length D1 = m1) (hl7_0 : List.length b = nm) (w : World) (rw : List Nat) (β : Env) (sj : Unit) : Run Try.prog ⟨w, rw, 8, β⟩ (loopB Try.f15 2) (gv2B_mk q k_ L m0 m1 B0 B1 W D0 D1 n nm b cap7 n sj) (To ⟨w, rw, 8, β⟩ (.exit 2) (gv2B_mk q k_ L m0 m1 B0 B1 W D0 D1 n nm b cap7 n sj)) :=
  Run.of_outT (B := ⟨w, rw, 8, β⟩) (Λ := noLam) (Ψ := noPsi) (fuel := 0) (ora := [false]) (l := [.forget [0, 1, 4, 5, 6, 7] 9]) mix tabOkKB gam35_ok
    (vc := [((decide (((n : Nat) : Int) < ((n : Nat) : Int))) = false)]) (by kernel_rfl)
    (aC (decide_eq_false (by omega)) (AllP_nil))

theorem gv2B_loop (q k_ : Nat) (L : List Value) (m0 m1 : Nat) (B0 B1 : List Int) (W : List Value) (D0 D1 : List Int) (n nm : Nat) (b : List Int) (cap7 : Nat) (h0 : (nm = n)) (h1 : (n < (17592186044416 : Nat))) (h2 : (q < (2199023255552 : Nat))) (h3 : (q = (k_ + (2 : Nat)))) (hc7 : n ≤ cap7) (hl2_0 : List.length B0 = m0) (hl3_0 : List.length B1 = m1) (hl5_0 : List.length D0 = m0) (hl6_0 : List.length D1 = m1) (hl7_0 : List.length b = nm) (w : World) (rw : List Nat) (β : Env) (sj : Unit) : Run Try.prog ⟨w, rw, 8, β⟩ (.block 2 (.loop (loopB Try.f15 2))) (gv2B_mk q k_ L m0 m1 B0 B1 W D0 D1 n nm b cap7 0 sj) (To ⟨w, rw, 8, β⟩ .normal (gv2B_mk q k_ L m0 m1 B0 B1 W D0 D1 n nm b cap7 n (iter (gv2B_step) n sj))) :=
  Run.count (fun j => gv2B_mk q k_ L m0 m1 B0 B1 W D0 D1 n nm b cap7 j (iter (gv2B_step) j sj)) n (fun j hj => gv2B_round q k_ L m0 m1 B0 B1 W D0 D1 n nm b cap7 h0 h1 h2 h3 hc7 hl2_0 hl3_0 hl5_0 hl6_0 hl7_0 w rw β j hj _) (ex := (.exit 2)) (by simp) (gv2B_last q k_ L m0 m1 B0 B1 W D0 D1 n nm b cap7 h0 h1 h2 h3 hc7 hl2_0 hl3_0 hl5_0 hl6_0 hl7_0 w rw β _)

def gv2 (n : Nat) : Nat :=
  (n + (3 : Nat))

def gv2_1 (q : Nat) : Nat :=
  (q + (1 : Nat))

set_option maxHeartbeats 1000000 in
theorem gv2_body0 (q k_ : Nat) (L : List Value) (m0 m1 : Nat) (B0 B1 : List Int) (W : List Value) (D0 D1 : List Int) (n nm : Nat) (b : List Int) (cap7 : Nat) (h0 : (nm = n)) (h1 : (n < (17592186044416 : Nat))) (h2 : (q < (2199023255552 : Nat))) (h3 : (q = (k_ + (2 : Nat)))) (hc7 : n ≤ cap7) (hl2_0 : List.length B0 = m0) (hl3_0 : List.length B1 = m1) (hl5_0 : List.length D0 = m0) (hl6_0 : List.length D1 = m1) (hl7_0 : List.length b = nm) (w : World) (rw : List Nat) (β : Env) : Body Try.prog (tabOf tabKB) Try.f15 ⟨w, rw, 8, β⟩ [.o (.a (.p 0 0)), .o (.a (.sl 7 0 n cap7))] [some ⟨true, [.rs 1 0 q 1, .rs 4 0 q 1, .raw (.slice none 0 0), .raw (.slice none 0 0), .raw (.slice none 0 0), .raw (.slice none 0 0), .raw (.slice none 0 0), .raw (.slice none 0 0), .raw (.slice none 0 0), .raw (.slice none 0 0), .raw (.slice none 0 0), .raw (.slice none 0 0), .raw (.slice none 0 0), .raw (.slice none 0 0), .raw (.slice none 0 0), .raw (.slice none 0 0), .raw (.slice none 0 0), .raw (.slice none 0 0), .raw (.slice none 0 0), .raw (.slice none 0 0), .raw (.slice none 0 0), .raw (.slice none 0 0), .raw (.slice none 0 0), .raw (.slice none 0 0), .raw (.slice none 0 0), .raw (.slice none 0 0), .raw (.slice none 0 0), .raw (.slice none 0 0), .raw (.slice none 0 0), .raw (.slice none 0 0)]⟩, some ⟨true, [.vals k_ L, .sl 2 0 m0 m0, .sl 3 0 m1 m1]⟩, some ⟨true, [.ints .u8 m0 B0]⟩, some ⟨true, [.ints .u8 m1 B1]⟩, some ⟨true, [.vals k_ W, .rs 5 0 m0 1, .rs 6 0 m1 1]⟩, some ⟨true, [.ints .u8 m0 D0]⟩, some ⟨true, [.ints .u8 m1 D1]⟩, some ⟨false, [.ints .u8 nm b]⟩] (fun ys K' => ys = [.a (.sl 10 0 n (gv2 n))] ∧ K' = [some ⟨true, [.rs 8 0 (gv2_1 q) 1, .rs 9 0 (gv2_1 q) 1, .raw (.slice none 0 0), .raw (.slice none 0 0), .raw (.slice none 0 0), .raw (.slice none 0 0), .raw (.slice none 0 0), .raw (.slice none 0 0), .raw (.slice none 0 0), .raw (.slice none 0 0), .raw (.slice none 0 0), .raw (.slice none 0 0), .raw (.slice none 0 0), .raw (.slice none 0 0), .raw (.slice none 0 0), .raw (.slice none 0 0), .raw (.slice none 0 0), .raw (.slice none 0 0), .raw (.slice none 0 0), .raw (.slice none 0 0), .raw (.slice none 0 0), .raw (.slice none 0 0), .raw (.slice none 0 0), .raw (.slice none 0 0), .raw (.slice none 0 0), .raw (.slice none 0 0), .raw (.slice none 0 0), .raw (.slice none 0 0), .raw (.slice none 0 0), .raw (.slice none 0 0)]⟩, none, some ⟨true, [.ints .u8 m0 B0]⟩, some ⟨true, [.ints .u8 m1 B1]⟩, none, some ⟨true, [.ints .u8 m0 D0]⟩, some ⟨true, [.ints .u8 m1 D1]⟩, some ⟨false, [.ints .u8 nm b]⟩, some ⟨true, [.vals k_ L, .sl 2 0 m0 m0, .sl 3 0 m1 m1, .sl 10 0 (gv2 n) (gv2 n)]⟩, some ⟨true, [.vals k_ W, .rs 5 0 m0 1, .rs 6 0 m1 1, .rs 11 0 (gv2 n) 1]⟩, some ⟨true, [.ints .u8 (gv2 n) (gvB n b)]⟩, some ⟨true, [.ints .u8 (gv2 n) (gvB n b)]⟩]) :=
  Body.of_finK (Γ := gam35) (Λ := lamOf [(0, ⟨[.forget [0, 1, 4, 5, 6] 9], .normal, (gv2A_mk q k_ L m0 m1 B0 B1 W D0 D1 n nm b cap7 (n + (3 : Nat)) (iter (gv2A_step) (n + (3 : Nat)) ()))⟩), (2, ⟨[.forget [0, 1, 4, 5, 6, 7] 9], .normal, (gv2B_mk q k_ L m0 m1 B0 B1 W D0 D1 n nm b cap7 n (iter (gv2B_step) n ()))⟩)]) (Ψ := psiOf [(1, [.eqS 5 (.o (.a (.sl 8 0 (n + (3 : Nat)) (n + (3 : Nat))))), .eqB 8 (⟨true, [.ints .u8 (n + (3 : Nat)) (List.replicate (n + (3 : Nat)) (0 : Int))]⟩)]), (6, [.eqB 8 (⟨true, [.ints .u8 (n + (3 : Nat)) (rwB (987 : Int) (n + (3 : Nat)))]⟩)]), (10, [.eqB 8 (⟨true, [.ints .u8 (n + (3 : Nat)) (gvB n b)]⟩)]), (11, [.eqB 11 (⟨true, [.ints .u8 (n + (3 : Nat)) (gvB n b)]⟩)])]) (fuel := 0) (m := 61) (c := (Try.f15.body.getD .skip)) mix tabOkKB gam35_ok rfl (rs := [.tmp 4]) rfl rfl [false, false] [.swap 8 10, .swap 9 13] 12
    (vc := [(((0 : Int) ≤ (0 : Int)) ∧ ((0 : Int) ≤ ((n : Nat) : Int)) ∧ (((n : Nat) : Int) ≤ (((n + (3 : Nat)) : Nat) : Int))), ((some ⟨true, [.ints .u8 (n + (3 : Nat)) (copyB (n + (3 : Nat)) (sub (gvB n b) (0 : Nat) (n + (3 : Nat))))]⟩ : Option Blk) = some ⟨true, [.ints .u8 (n + (3 : Nat)) (gvB n b)]⟩), ((((0 : Nat) = (0 : Nat)) ∧ (q = (k_ + (2 : Nat)))) ∧ (((1 : Nat) ≤ (1 : Nat)) ∧ True) ∧ (((q + (1 : Nat)) * (24 : Nat)) ≤ (140737488355328 : Nat))), (((((0 : Nat) + (n + (3 : Nat))) ≤ (n + (3 : Nat))) ∧ True) ∧ (((n + (3 : Nat)) = (n + (3 : Nat))) ∧ ((n + (3 : Nat)) < (35184372088832 : Nat)))), ((some ⟨true, [.ints .u8 (n + (3 : Nat)) (cpB b (rwB (987 : Int) (n + (3 : Nat))) n)]⟩ : Option Blk) = some ⟨true, [.ints .u8 (n + (3 : Nat)) (gvB n b)]⟩), ((((0 : Nat) = (0 : Nat)) ∧ (q = (k_ + (2 : Nat)))) ∧ (((1 : Nat) ≤ (1 : Nat)) ∧ True) ∧ (((q + (1 : Nat)) * (24 : Nat)) ≤ (140737488355328 : Nat))), (Run Try.prog ⟨w, rw, 8, β⟩ (.block 2 (.loop (loopB Try.f15 2))) (gv2B_mk q k_ L m0 m1 B0 B1 W D0 D1 n nm b cap7 0 ()) (To ⟨w, rw, 8, β⟩ .normal (gv2B_mk q k_ L m0 m1 B0 B1 W D0 D1 n nm b cap7 n (iter (gv2B_step) n ())))), ((some ⟨true, [.ints .u8 (n + (3 : Nat)) (mkP (List.replicate (n + (3 : Nat)) (0 : Int)) (987 : Int) (n + (3 : Nat)))]⟩ : Option Blk) = some ⟨true, [.ints .u8 (n + (3 : Nat)) (rwB (987 : Int) (n + (3 : Nat)))]⟩), (Run Try.prog ⟨w, rw, 8, β⟩ (.block 0 (.loop (loopB Try.f15 0))) (gv2A_mk q k_ L m0 m1 B0 B1 W D0 D1 n nm b cap7 0 ()) (To ⟨w, rw, 8, β⟩ .normal (gv2A_mk q k_ L m0 m1 B0 B1 W D0 D1 n nm b cap7 (n + (3 : Nat)) (iter (gv2A_step) (n + (3 : Nat)) ())))), ((some ⟨true, [.ints .u8 (Int.toNat (IntKind.i64.wrap (((n : Nat) : Int) + (3 : Int)))) (List.replicate (Int.toNat (IntKind.i64.wrap (((n : Nat) : Int) + (3 : Int)))) (0 : Int))]⟩ : Option Blk) = some ⟨true, [.ints .u8 (n + (3 : Nat)) (List.replicate (n + (3 : Nat)) (0 : Int))]⟩), ((.o (.a (.sl 8 0 (Int.toNat (IntKind.i64.wrap (((n : Nat) : Int) + (3 : Int)))) (Int.toNat (IntKind.i64.wrap (((n : Nat) : Int) + (3 : Int)))))) : AV) = .o (.a (.sl 8 0 (n + (3 : Nat)) (n + (3 : Nat))))), (((0 : Int) ≤ (IntKind.i64.wrap (((n : Nat) : Int) + (3 : Int)))) ∧ ((IntKind.i64.wrap (((n : Nat) : Int) + (3 : Int))) ≤ (IntKind.i64.wrap (((n : Nat) : Int) + (3 : Int)))) ∧ (((IntKind.i64.wrap (((n : Nat) : Int) + (3 : Int))) * (1 : Int)) ≤ (281474976710656 : Int)))]) (by kernel_rfl)
    (aC ⟨(by decide), (by first | omega | (simp (disch := omega) only [wrapI]; omega)), (by first | omega | (simp (disch := omega) only [wrapI]; omega))⟩ (aC ((by rw [show copyB (n + 3) (sub (gvB n b) 0 (n + 3)) = gvB n b from gv_copy (hl7_0.trans h0)])) (aC ⟨⟨rfl, h3⟩, ⟨(by decide), trivial⟩, (by first | omega | (simp (disch := omega) only [wrapI]; omega))⟩ (aC ⟨⟨(by first | omega | (simp (disch := omega) only [wrapI]; omega)), trivial⟩, ⟨rfl, (by first | omega | (simp (disch := omega) only [wrapI]; omega))⟩⟩ (aC (rfl) (aC ⟨⟨rfl, h3⟩, ⟨(by decide), trivial⟩, (by first | omega | (simp (disch := omega) only [wrapI]; omega))⟩ (aC (gv2B_loop q k_ L m0 m1 B0 B1 W D0 D1 n nm b cap7 h0 h1 h2 h3 hc7 hl2_0 hl3_0 hl5_0 hl6_0 hl7_0 w rw β ()) (aC ((by rw [mkP_all (by rw [List.length_replicate])])) (aC (gv2A_loop q k_ L m0 m1 B0 B1 W D0 D1 n nm b cap7 h0 h1 h2 h3 hc7 hl2_0 hl3_0 hl5_0 hl6_0 hl7_0 w rw β ()) (aC ((by rw [wrapI (by omega) (by omega), show Int.toNat (((n : Nat) : Int) + 3) = n + 3 from by omega])) (aC ((by rw [wrapI (by omega) (by omega), show Int.toNat (((n : Nat) : Int) + 3) = n + 3 from by omega])) (aC ⟨(by first | omega | (simp (disch := omega) only [wrapI]; omega)), (by first | omega | (simp (disch := omega) only [wrapI]; omega)), (by first | omega | (simp (disch := omega) only [wrapI]; omega))⟩ (AllP_nil)))))))))))))

theorem gv2_body (q k_ : Nat) (L : List Value) (m0 m1 : Nat) (B0 B1 : List Int) (W : List Value) (D0 D1 : List Int) (n nm : Nat) (b : List Int) (cap7 : Nat) (h0 : (nm = n)) (h1 : (n < (17592186044416 : Nat))) (h2 : (q < (2199023255552 : Nat))) (h3 : (q = (k_ + (2 : Nat)))) (w : World) (rw : List Nat) (β : Env) : Body Try.prog (tabOf tabKB) Try.f15 ⟨w, rw, 8, β⟩ [.o (.a (.p 0 0)), .o (.a (.sl 7 0 n cap7))] [some ⟨true, [.rs 1 0 q 1, .rs 4 0 q 1, .raw (.slice none 0 0), .raw (.slice none 0 0), .raw (.slice none 0 0), .raw (.slice none 0 0), .raw (.slice none 0 0), .raw (.slice none 0 0), .raw (.slice none 0 0), .raw (.slice none 0 0), .raw (.slice none 0 0), .raw (.slice none 0 0), .raw (.slice none 0 0), .raw (.slice none 0 0), .raw (.slice none 0 0), .raw (.slice none 0 0), .raw (.slice none 0 0), .raw (.slice none 0 0), .raw (.slice none 0 0), .raw (.slice none 0 0), .raw (.slice none 0 0), .raw (.slice none 0 0), .raw (.slice none 0 0), .raw (.slice none 0 0), .raw (.slice none 0 0), .raw (.slice none 0 0), .raw (.slice none 0 0), .raw (.slice none 0 0), .raw (.slice none 0 0), .raw (.slice none 0 0)]⟩, some ⟨true, [.vals k_ L, .sl 2 0 m0 m0, .sl 3 0 m1 m1]⟩, some ⟨true, [.ints .u8 m0 B0]⟩, some ⟨true, [.ints .u8 m1 B1]⟩, some ⟨true, [.vals k_ W, .rs 5 0 m0 1, .rs 6 0 m1 1]⟩, some ⟨true, [.ints .u8 m0 D0]⟩, some ⟨true, [.ints .u8 m1 D1]⟩, some ⟨false, [.ints .u8 nm b]⟩] (fun ys K' => ys = [.a (.sl 10 0 n (gv2 n))] ∧ K' = [some ⟨true, [.rs 8 0 (gv2_1 q) 1, .rs 9 0 (gv2_1 q) 1, .raw (.slice none 0 0), .raw (.slice none 0 0), .raw (.slice none 0 0), .raw (.slice none 0 0), .raw (.slice none 0 0), .raw (.slice none 0 0), .raw (.slice none 0 0), .raw (.slice none 0 0), .raw (.slice none 0 0), .raw (.slice none 0 0), .raw (.slice none 0 0), .raw (.slice none 0 0), .raw (.slice none 0 0), .raw (.slice none 0 0), .raw (.slice none 0 0), .raw (.slice none 0 0), .raw (.slice none 0 0), .raw (.slice none 0 0), .raw (.slice none 0 0), .raw (.slice none 0 0), .raw (.slice none 0 0), .raw (.slice none 0 0), .raw (.slice none 0 0), .raw (.slice none 0 0), .raw (.slice none 0 0), .raw (.slice none 0 0), .raw (.slice none 0 0), .raw (.slice none 0 0)]⟩, none, some ⟨true, [.ints .u8 m0 B0]⟩, some ⟨true, [.ints .u8 m1 B1]⟩, none, some ⟨true, [.ints .u8 m0 D0]⟩, some ⟨true, [.ints .u8 m1 D1]⟩, some ⟨false, [.ints .u8 nm b]⟩, some ⟨true, [.vals k_ L, .sl 2 0 m0 m0, .sl 3 0 m1 m1, .sl 10 0 (gv2 n) (gv2 n)]⟩, some ⟨true, [.vals k_ W, .rs 5 0 m0 1, .rs 6 0 m1 1, .rs 11 0 (gv2 n) 1]⟩, some ⟨true, [.ints .u8 (gv2 n) (gvB n b)]⟩, some ⟨true, [.ints .u8 (gv2 n) (gvB n b)]⟩]) :=
  Body.lens (c := (Try.f15.body.getD .skip)) rfl fun h => gv2_body0 q k_ L m0 m1 B0 B1 W D0 D1 n nm b cap7 h0 h1 h2 h3 (h.caps 1 _ _ _ _ rfl) (h.lens 2 _ .u8 m0 B0 rfl (by simp)) (h.lens 3 _ .u8 m1 B1 rfl (by simp)) (h.lens 5 _ .u8 m0 D0 rfl (by simp)) (h.lens 6 _ .u8 m1 D1 rfl (by simp)) (h.lens 7 _ .u8 nm b rfl (by simp)) w rw β

def gv3A_mk (q k_ : Nat) (L : List Value) (m0 m1 m2 : Nat) (B0 B1 B2 : List Int) (W : List Value) (D0 D1 D2 : List Int) (n nm : Nat) (b : List Int) (cap9 j : Nat) (sj : Unit) : St := ⟨sparse 61 [(0, .o (.a (.p 0 0))), (1, .o (.a (.sl 9 0 n cap9))), (4, .o (.a (.raw (.slice none 0 0)))), (5, .o (.a (.sl 10 0 (n + (3 : Nat)) (n + (3 : Nat))))), (6, .o (.a (.i .i64 ((j : Nat) : Int))))], [some ⟨true, [.rs 1 0 q 1, .rs 5 0 q 1, .raw (.slice none 0 0), .raw (.slice none 0 0), .raw (.slice none 0 0), .raw (.slice none 0 0), .raw (.slice none 0 0), .raw (.slice none 0 0), .raw (.slice none 0 0), .raw (.slice none 0 0), .raw (.slice none 0 0), .raw (.slice none 0 0), .raw (.slice none 0 0), .raw (.slice none 0 0), .raw (.slice none 0 0), .raw (.slice none 0 0), .raw (.slice none 0 0), .raw (.slice none 0 0), .raw (.slice none 0 0), .raw (.slice none 0 0), .raw (.slice none 0 0), .raw (.slice none 0 0), .raw (.slice none 0 0), .raw (.slice none 0 0), .raw (.slice none 0 0), .raw (.slice none 0 0), .raw (.slice none 0 0), .raw (.slice none 0 0), .raw (.slice none 0 0), .raw (.slice none 0 0)]⟩, some ⟨true, [.vals k_ L, .sl 2 0 m0 m0, .sl 3 0 m1 m1, .sl 4 0 m2 m2]⟩, some ⟨true, [.ints .u8 m0 B0]⟩, some ⟨true, [.ints .u8 m1 B1]⟩, some ⟨true, [.ints .u8 m2 B2]⟩, some ⟨true, [.vals k_ W, .rs 6 0 m0 1, .rs 7 0 m1 1, .rs 8 0 m2 1]⟩, some ⟨true, [.ints .u8 m0 D0]⟩, some ⟨true, [.ints .u8 m1 D1]⟩, some ⟨true, [.ints .u8 m2 D2]⟩, some ⟨false, [.ints .u8 nm b]⟩, some ⟨true, [.ints .u8 (n + (3 : Nat)) (mkP (List.replicate (n + (3 : Nat)) (0 : Int)) (987 : Int) j)]⟩]⟩

def gv3A_step (j : Nat) (sj : Unit) : Unit :=
  ()

set_option maxHeartbeats 1000000 in
theorem gv3A_round (q k_ : Nat) (L : List Value) (m0 m1 m2 : Nat) (B0 B1 B2 : List Int) (W : List Value) (D0 D1 D2 : List Int) (n nm : Nat) (b : List Int) (cap9 : Nat) (h0 : (nm = n)) (h1 : (n < (17592186044416 : Nat))) (h2 : (q < (2199023255552 : Nat))) (h3 : (q = (k_ + (3 : Nat)))) (hc9 : n ≤ cap9) (hl2_0 : List.length B0 = m0) (hl3_0 : List.length B1 = m1) (hl4_0 : List.length B2 = m2) (hl6_0 : List.length D0 = m0) (hl7_0 : List.length D1 = m1) (hl8_0 : List.length D2 = m2) (hl9_0 : List.length b = nm) (w : World) (rw : List Nat) (β : Env) (j : Nat) (hj : j < (n + (3 : Nat))) (sj : Unit) : Run Try.prog ⟨w, rw, 10, β⟩ (loopB Try.f15 0) (gv3A_mk q k_ L m0 m1 m2 B0 B1 B2 W D0 D1 D2 n nm b cap9 j sj) (To ⟨w, rw, 10, β⟩ .normal (gv3A_mk q k_ L m0 m1 m2 B0 B1 B2 W D0 D1 D2 n nm b cap9 (j + 1) (gv3A_step j sj))) := by
  have e0 : (List.set (mkP (List.replicate (n + (3 : Nat)) (0 : Int)) (987 : Int) j) j (mkBy (987 : Int) ((j : Nat) : Int))) = (mkP (List.replicate (n + (3 : Nat)) (0 : Int)) (987 : Int) (j + (1 : Nat))) := (by first | exact wrap_succ (by omega) | exact mkP_step (by rw [List.length_replicate]) (by omega))
  have e1 : (IntKind.i64.wrap (((j : Nat) : Int) + (1 : Int))) = (((j + (1 : Nat)) : Nat) : Int) := (by first | exact wrap_succ (by omega) | exact mkP_step (by rw [List.length_replicate]) (by omega))
  have h := Run.of_outT (B := ⟨w, rw, 10, β⟩) (Λ := noLam) (Ψ := noPsi) (fuel := 0) (ora := [true]) (c := (loopB Try.f15 0)) (st := (gv3A_mk q k_ L m0 m1 m2 B0 B1 B2 W D0 D1 D2 n nm b cap9 j sj)) (l := [.forget [0, 1, 4, 5, 6] 11]) (s' := ⟨sparse 61 [(0, .o (.a (.p 0 0))), (1, .o (.a (.sl 9 0 n cap9))), (4, .o (.a (.raw (.slice none 0 0)))), (5, .o (.a (.sl 10 0 (n + (3 : Nat)) (n + (3 : Nat))))), (6, .o (.a (.i .i64 (IntKind.i64.wrap (((j : Nat) : Int) + (1 : Int))))))], [some ⟨true, [.rs 1 0 q 1, .rs 5 0 q 1, .raw (.slice none 0 0), .raw (.slice none 0 0), .raw (.slice none 0 0), .raw (.slice none 0 0), .raw (.slice none 0 0), .raw (.slice none 0 0), .raw (.slice none 0 0), .raw (.slice none 0 0), .raw (.slice none 0 0), .raw (.slice none 0 0), .raw (.slice none 0 0), .raw (.slice none 0 0), .raw (.slice none 0 0), .raw (.slice none 0 0), .raw (.slice none 0 0), .raw (.slice none 0 0), .raw (.slice none 0 0), .raw (.slice none 0 0), .raw (.slice none 0 0), .raw (.slice none 0 0), .raw (.slice none 0 0), .raw (.slice none 0 0), .raw (.slice none 0 0), .raw (.slice none 0 0), .raw (.slice none 0 0), .raw (.slice none 0 0), .raw (.slice none 0 0), .raw (.slice none 0 0)]⟩, some ⟨true, [.vals k_ L, .sl 2 0 m0 m0, .sl 3 0 m1 m1, .sl 4 0 m2 m2]⟩, some ⟨true, [.ints .u8 m0 B0]⟩, some ⟨true, [.ints .u8 m1 B1]⟩, some ⟨true, [.ints .u8 m2 B2]⟩, some ⟨true, [.vals k_ W, .rs 6 0 m0 1, .rs 7 0 m1 1, .rs 8 0 m2 1]⟩, some ⟨true, [.ints .u8 m0 D0]⟩, some ⟨true, [.ints .u8 m1 D1]⟩, some ⟨true, [.ints .u8 m2 D2]⟩, some ⟨false, [.ints .u8 nm b]⟩, some ⟨true, [.ints .u8 (n + (3 : Nat)) (List.set (mkP (List.replicate (n + (3 : Nat)) (0 : Int)) (987 : Int) j) j (mkBy (987 : Int) ((j : Nat) : Int)))]⟩]⟩) (ex := .normal) mix tabOkKB gam35_ok
    (vc := [(j < (n + (3 : Nat))), (((0 : Int) ≤ ((j : Nat) : Int)) ∧ (((j : Nat) : Int) < (((n + (3 : Nat)) : Nat) : Int))), ((decide (((j : Nat) : Int) < (((n + (3 : Nat)) : Nat) : Int))) = true)]) (by kernel_rfl)
    (aC (by first | omega | (simp (disch := omega) only [wrapI]; omega)) (aC ⟨(by first | omega | (simp (disch := omega) only [wrapI]; omega)), (by first | omega | (simp (disch := omega) only [wrapI]; omega))⟩ (aC (decide_eq_true (by first | omega | (simp (disch := omega) only [wrapI]; omega))) (AllP_nil))))
  rw [e0, e1] at h
  exact h

set_option maxHeartbeats 1000000 in
theorem gv3A_last (q k_ : Nat) (L : List Value) (m0 m1 m2 : Nat) (B0 B1 B2 : List Int) (W : List Value) (D0 D1 D2 : List Int) (n nm : Nat) (b : List Int) (cap9 : Nat) (h0 : (nm = n)) (h1 : (n < (17592186044416 : Nat))) (h2 : (q < (2199023255552 : Nat))) (h3 : (q = (k_ + (3 : Nat)))) (hc9 : n ≤ cap9) (hl2_0 : List.length B0 = m0) (hl3_0 : List.length B1 = m1) (hl4_0 : List.length B2 = m2) (hl6_0 : List.length D0 = m0) (hl7_0 : List.length D1 = m1) (hl8_0 : List.length D2 = m2) (hl9_0 : List.length b = nm) (w : World) (rw : List Nat) (β : Env) (sj : Unit) : Run Try.prog ⟨w, rw, 10, β⟩ (loopB Try.f15 0) (gv3A_mk q k_ L m0 m1 m2 B0 B1 B2 W D0 D1 D2 n nm b cap9 (n + (3 : Nat)) sj) (To ⟨w, rw, 10, β⟩ (.exit 0) (gv3A_mk q k_ L m0 m1 m2 B0 B1 B2 W D0 D1 D2 n nm b cap9 (n + (3 : Nat)) sj)) :=
  Run.of_outT (B := ⟨w, rw, 10, β⟩) (Λ := noLam) (Ψ := noPsi) (fuel := 0) (ora := [false]) (l := [.forget [0, 1, 4, 5, 6] 11]) mix tabOkKB gam35_ok
    (vc := [((decide ((((n + (3 : Nat)) : Nat) : Int) < (((n + (3 : Nat)) : Nat) : Int))) = false)]) (by kernel_rfl)
    (aC (decide_eq_false (by omega)) (AllP_nil))

theorem gv3A_loop (q k_ : Nat) (L : List Value) (m0 m1 m2 : Nat) (B0 B1 B2 : List Int) (W : List Value) (D0 D1 D2 : List Int) (n nm : Nat) (b : List Int) (cap9 : Nat) (h0 : (nm = n)) (h1 : (n < (17592186044416 : Nat))) (h2 : (q < (2199023255552 : Nat))) (h3 : (q = (k_ + (3 : Nat)))) (hc9 : n ≤ cap9) (hl2_0 : List.length B0 = m0) (hl3_0 : List.length B1 = m1) (hl4_0 : List.length B2 = m2) (hl6_0 : List.length D0 = m0) (hl7_0 : List.length D1 = m1) (hl8_0 : List.length D2 = m2) (hl9_0 : List.length b = nm) (w : World) (rw : List Nat) (β : Env) (sj : Unit) : Run Try.prog ⟨w, rw, 10, β⟩ (.block 0 (.loop (loopB Try.f15 0))) (gv3A_mk q k_ L m0 m1 m2 B0 B1 B2 W D0 D1 D2 n nm b cap9 0 sj) (To ⟨w, rw, 10, β⟩ .normal (gv3A_mk q k_ L m0 m1 m2 B0 B1 B2 W D0 D1 D2 n nm b cap9 (n + (3 : Nat)) (iter (gv3A_step) (n + (3 : Nat)) sj))) :=
  Run.count (fun j => gv3A_mk q k_ L m0 m1 m2 B0 B1 B2 W D0 D1 D2 n nm b cap9 j (iter (gv3A_step) j sj)) (n + (3 : Nat)) (fun j hj => gv3A_round q k_ L m0 m1 m2 B0 B1 B2 W D0 D1 D2 n nm b cap9 h0 h1 h2 h3 hc9 hl2_0 hl3_0 hl4_0 hl6_0 hl7_0 hl8_0 hl9_0 w rw β j hj _) (ex := (.exit 0)) (by simp) (gv3A_last q k_ L m0 m1 m2 B0 B1 B2 W D0 D1 D2 n nm b cap9 h0 h1 h2 h3 hc9 hl2_0 hl3_0 hl4_0 hl6_0 hl7_0 hl8_0 hl9_0 w rw β _)

def gv3B_mk (q k_ : Nat) (L : List Value) (m0 m1 m2 : Nat) (B0 B1 B2 : List Int) (W : List Value) (D0 D1 D2 : List Int) (n nm : Nat) (b : List Int) (cap9 j : Nat) (sj : Unit) : St := ⟨sparse 61 [(0, .o (.a (.p 0 0))), (1, .o (.a (.sl 9 0 n cap9))), (4, .o (.a (.raw (.slice none 0 0)))), (5, .o (.a (.sl 10 0 (n + (3 : Nat)) (n + (3 : Nat))))), (6, .o (.a (.i .i64 (((n + (3 : Nat)) : Nat) : Int)))), (7, .o (.a (.i .i64 ((j : Nat) : Int))))], [some ⟨true, [.rs 1 0 q 1, .rs 5 0 q 1, .raw (.slice none 0 0), .raw (.slice none 0 0), .raw (.slice none 0 0), .raw (.slice none 0 0), .raw (.slice none 0 0), .raw (.slice none 0 0), .raw (.slice none 0 0), .raw (.slice none 0 0), .raw (.slice none 0 0), .raw (.slice none 0 0), .raw (.slice none 0 0), .raw (.slice none 0 0), .raw (.slice none 0 0), .raw (.slice none 0 0), .raw (.slice none 0 0), .raw (.slice none 0 0), .raw (.slice none 0 0), .raw (.slice none 0 0), .raw (.slice none 0 0), .raw (.slice none 0 0), .raw (.slice none 0 0), .raw (.slice none 0 0), .raw (.slice none 0 0), .raw (.slice none 0 0), .raw (.slice none 0 0), .raw (.slice none 0 0), .raw (.slice none 0 0), .raw (.slice none 0 0)]⟩, some ⟨true, [.vals k_ L, .sl 2 0 m0 m0, .sl 3 0 m1 m1, .sl 4 0 m2 m2]⟩, some ⟨true, [.ints .u8 m0 B0]⟩, some ⟨true, [.ints .u8 m1 B1]⟩, some ⟨true, [.ints .u8 m2 B2]⟩, some ⟨true, [.vals k_ W, .rs 6 0 m0 1, .rs 7 0 m1 1, .rs 8 0 m2 1]⟩, some ⟨true, [.ints .u8 m0 D0]⟩, some ⟨true, [.ints .u8 m1 D1]⟩, some ⟨true, [.ints .u8 m2 D2]⟩, some ⟨false, [.ints .u8 nm b]⟩, some ⟨true, [.ints .u8 (n + (3 : Nat)) (cpB b (rwB (987 : Int) (n + (3 : Nat))) j)]⟩]⟩

def gv3B_step (j : Nat) (sj : Unit) : Unit :=
  ()

set_option maxHeartbeats 1000000 in
theorem gv3B_round (q k_ : Nat) (L : List Value) (m0 m1 m2 : Nat) (B0 B1 B2 : List Int) (W : List Value) (D0 D1 D2 : List Int) (n nm : Nat) (b : List Int) (cap9 : Nat) (h0 : (nm = n)) (h1 : (n < (17592186044416 : Nat))) (h2 : (q < (2199023255552 : Nat))) (h3 : (q = (k_ + (3 : Nat)))) (hc9 : n ≤ cap9) (hl2_0 : List.length B0 = m0) (hl3_0 : List.length B1 = m1) (hl4_0 : List.length B2 = m2) (hl6_0 : List.length D0 = m0) (hl7_0 : List.length D1 = m1) (hl8_0 : List.length D2 = m2) (hl9_0 : List.length b = nm) (w : World) (rw : List Nat) (β : Env) (j : Nat) (hj : j < n) (sj : Unit) : Run Try.prog ⟨w, rw, 10, β⟩ (loopB Try.f15 2) (gv3B_mk q k_ L m0 m1 m2 B0 B1 B2 W D0 D1 D2 n nm b cap9 j sj) (To ⟨w, rw, 10, β⟩ .normal (gv3B_mk q k_ L m0 m1 m2 B0 B1 B2 W D0 D1 D2 n nm b cap9 (j + 1) (gv3B_step j sj))) := by
  have e0 : (List.set (cpB b (rwB (987 : Int) (n + (3 : Nat))) j) j (List.getD b j 0)) = (cpB b (rwB (987 : Int) (n + (3 : Nat))) (j + (1 : Nat))) := (by first | exact wrap_succ (by omega) | exact cpB_step (hl9_0.trans h0) (rwB_len _ _) (by omega) (by omega))
  have e1 : (IntKind.i64.wrap (((j : Nat) : Int) + (1 : Int))) = (((j + (1 : Nat)) : Nat) : Int) := (by first | exact wrap_succ (by omega) | exact cpB_step (hl9_0.trans h0) (rwB_len _ _) (by omega) (by omega))
  have h := Run.of_outT (B := ⟨w, rw, 10, β⟩) (Λ := noLam) (Ψ := noPsi) (fuel := 0) (ora := [true]) (c := (loopB Try.f15 2)) (st := (gv3B_mk q k_ L m0 m1 m2 B0 B1 B2 W D0 D1 D2 n nm b cap9 j sj)) (l := [.forget [0, 1, 4, 5, 6, 7] 11]) (s' := ⟨sparse 61 [(0, .o (.a (.p 0 0))), (1, .o (.a (.sl 9 0 n cap9))), (4, .o (.a (.raw (.slice none 0 0)))), (5, .o (.a (.sl 10 0 (n + (3 : Nat)) (n + (3 : Nat))))), (6, .o (.a (.i .i64 (((n + (3 : Nat)) : Nat) : Int)))), (7, .o (.a (.i .i64 (IntKind.i64.wrap (((j : Nat) : Int) + (1 : Int))))))], [some ⟨true, [.rs 1 0 q 1, .rs 5 0 q 1, .raw (.slice none 0 0), .raw (.slice none 0 0), .raw (.slice none 0 0), .raw (.slice none 0 0), .raw (.slice none 0 0), .raw (.slice none 0 0), .raw (.slice none 0 0), .raw (.slice none 0 0), .raw (.slice none 0 0), .raw (.slice none 0 0), .raw (.slice none 0 0), .raw (.slice none 0 0), .raw (.slice none 0 0), .raw (.slice none 0 0), .raw (.slice none 0 0), .raw (.slice none 0 0), .raw (.slice none 0 0), .raw (.slice none 0 0), .raw (.slice none 0 0), .raw (.slice none 0 0), .raw (.slice none 0 0), .raw (.slice none 0 0), .raw (.slice none 0 0), .raw (.slice none 0 0), .raw (.slice none 0 0), .raw (.slice none 0 0), .raw (.slice none 0 0), .raw (.slice none 0 0)]⟩, some ⟨true, [.vals k_ L, .sl 2 0 m0 m0, .sl 3 0 m1 m1, .sl 4 0 m2 m2]⟩, some ⟨true, [.ints .u8 m0 B0]⟩, some ⟨true, [.ints .u8 m1 B1]⟩, some ⟨true, [.ints .u8 m2 B2]⟩, some ⟨true, [.vals k_ W, .rs 6 0 m0 1, .rs 7 0 m1 1, .rs 8 0 m2 1]⟩, some ⟨true, [.ints .u8 m0 D0]⟩, some ⟨true, [.ints .u8 m1 D1]⟩, some ⟨true, [.ints .u8 m2 D2]⟩, some ⟨false, [.ints .u8 nm b]⟩, some ⟨true, [.ints .u8 (n + (3 : Nat)) (List.set (cpB b (rwB (987 : Int) (n + (3 : Nat))) j) j (List.getD b j 0))]⟩]⟩) (ex := .normal) mix tabOkKB gam35_ok
    (vc := [(j < (n + (3 : Nat))), (((0 : Int) ≤ ((j : Nat) : Int)) ∧ (((j : Nat) : Int) < (((n + (3 : Nat)) : Nat) : Int))), (j < nm), (((0 : Int) ≤ ((j : Nat) : Int)) ∧ (((j : Nat) : Int) < ((n : Nat) : Int))), ((decide (((j : Nat) : Int) < ((n : Nat) : Int))) = true)]) (by kernel_rfl)
    (aC (by first | omega | (simp (disch := omega) only [wrapI]; omega)) (aC ⟨(by first | omega | (simp (disch := omega) only [wrapI]; omega)), (by first | omega | (simp (disch := omega) only [wrapI]; omega))⟩ (aC (by first | omega | (simp (disch := omega) only [wrapI]; omega)) (aC ⟨(by first | omega | (simp (disch := omega) only [wrapI]; omega)), (by first | omega | (simp (disch := omega) only [wrapI]; omega))⟩ (aC (decide_eq_true (by first | omega | (simp (disch := omega) only [wrapI]; omega))) (AllP_nil))))))
  rw [e0, e1] at h
  exact h

set_option maxHeartbeats 1000000 in
theorem gv3B_last (q k_ : Nat) (L : List Value) (m0 m1 m2 : Nat) (B0 B1 B2 : List Int) (W : List Value) (D0 D1 D2 : List Int) (n nm : Nat) (b : List Int) (cap9 : Nat) (h0 : (nm = n)) (h1 : (n < (17592186044416 : Nat))) (h2 : (q < (2199023255552 : Nat))) (h3 : (q = (k_ + (3 : Nat)))) (hc9 : n ≤ cap9) (hl2_0 : List.length B0 = m0) (hl3_0 : List.length B1 = m1) (hl4_0 : List.length B2 = m2) (hl6_0 : List.length D0 = m0) (hl7_0 : List.length D1 = m1) (hl8_0 : List.length D2 = m2) (hl9_0 : List.length b = nm) (w : World) (rw : List Nat) (β : Env) (sj : Unit) : Run Try.prog ⟨w, rw, 10, β⟩ (loopB Try.f15 2) (gv3B_mk q k_ L m0 m1 m2 B0 B1 B2 W D0 D1 D2 n nm b cap9 n sj) (To ⟨w, rw, 10, β⟩ (.exit 2) (gv3B_mk q k_ L m0 m1 m2 B0 B1 B2 W D0 D1 D2 n nm b cap9 n sj)) :=
  Run.of_outT (B := ⟨w, rw, 10, β⟩) (Λ := noLam) (Ψ := noPsi) (fuel := 0) (ora := [false]) (l := [.forget [0, 1, 4, 5, 6, 7] 11]) mix tabOkKB gam35_ok
    (vc := [((decide (((n : Nat) : Int) < ((n : Nat) : Int))) = false)]) (by kernel_rfl)
    (aC (decide_eq_false (by omega)) (AllP_nil))

theorem gv3B_loop (q k_ : Nat) (L : List Value) (m0 m1 m2 : Nat) (B0 B1 B2 : List Int) (W : List Value) (D0 D1 D2 : List Int) (n nm : Nat) (b : List Int) (cap9 : Nat) (h0 : (nm = n)) (h1 : (n < (17592186044416 : Nat))) (h2 : (q < (2199023255552 : Nat))) (h3 : (q = (k_ + (3 : Nat)))) (hc9 : n ≤ cap9) (hl2_0 : List.length B0 = m0) (hl3_0 : List.length B1 = m1) (hl4_0 : List.length B2 = m2) (hl6_0 : List.length D0 = m0) (hl7_0 : List.length D1 = m1) (hl8_0 : List.length D2 = m2) (hl9_0 : List.length b = nm) (w : World) (rw : List Nat) (β : Env) (sj : Unit) : Run Try.prog ⟨w, rw, 10, β⟩ (.block 2 (.loop (loopB Try.f15 2))) (gv3B_mk q k_ L m0 m1 m2 B0 B1 B2 W D0 D1 D2 n nm b cap9 0 sj) (To ⟨w, rw, 10, β⟩ .normal (gv3B_mk q k_ L m0 m1 m2 B0 B1 B2 W D0 D1 D2 n nm b cap9 n (iter (gv3B_step) n sj))) :=
  Run.count (fun j => gv3B_mk q k_ L m0 m1 m2 B0 B1 B2 W D0 D1 D2 n nm b cap9 j (iter (gv3B_step) j sj)) n (fun j hj => gv3B_round q k_ L m0 m1 m2 B0 B1 B2 W D0 D1 D2 n nm b cap9 h0 h1 h2 h3 hc9 hl2_0 hl3_0 hl4_0 hl6_0 hl7_0 hl8_0 hl9_0 w rw β j hj _) (ex := (.exit 2)) (by simp) (gv3B_last q k_ L m0 m1 m2 B0 B1 B2 W D0 D1 D2 n nm b cap9 h0 h1 h2 h3 hc9 hl2_0 hl3_0 hl4_0 hl6_0 hl7_0 hl8_0 hl9_0 w rw β _)

def gv3 (n : Nat) : Nat :=
  (n + (3 : Nat))

def gv3_1 (q : Nat) : Nat :=
  (q + (1 : Nat))

set_option maxHeartbeats 1000000 in
theorem gv3_body0 (q k_ : Nat) (L : List Value) (m0 m1 m2 : Nat) (B0 B1 B2 : List Int) (W : List Value) (D0 D1 D2 : List Int) (n nm : Nat) (b : List Int) (cap9 : Nat) (h0 : (nm = n)) (h1 : (n < (17592186044416 : Nat))) (h2 : (q < (2199023255552 : Nat))) (h3 : (q = (k_ + (3 : Nat)))) (hc9 : n ≤ cap9) (hl2_0 : List.length B0 = m0) (hl3_0 : List.length B1 = m1) (hl4_0 : List.length B2 = m2) (hl6_0 : List.length D0 = m0) (hl7_0 : List.length D1 = m1) (hl8_0 : List.length D2 = m2) (hl9_0 : List.length b = nm) (w : World) (rw : List Nat) (β : Env) : Body Try.prog (tabOf tabKB) Try.f15 ⟨w, rw, 10, β⟩ [.o (.a (.p 0 0)), .o (.a (.sl 9 0 n cap9))] [some ⟨true, [.rs 1 0 q 1, .rs 5 0 q 1, .raw (.slice none 0 0), .raw (.slice none 0 0), .raw (.slice none 0 0), .raw (.slice none 0 0), .raw (.slice none 0 0), .raw (.slice none 0 0), .raw (.slice none 0 0), .raw (.slice none 0 0), .raw (.slice none 0 0), .raw (.slice none 0 0), .raw (.slice none 0 0), .raw (.slice none 0 0), .raw (.slice none 0 0), .raw (.slice none 0 0), .raw (.slice none 0 0), .raw (.slice none 0 0), .raw (.slice none 0 0), .raw (.slice none 0 0), .raw (.slice none 0 0), .raw (.slice none 0 0), .raw (.slice none 0 0), .raw (.slice none 0 0), .raw (.slice none 0 0), .raw (.slice none 0 0), .raw (.slice none 0 0), .raw (.slice none 0 0), .raw (.slice none 0 0), .raw (.slice none 0 0)]⟩, some ⟨true, [.vals k_ L, .sl 2 0 m0 m0, .sl 3 0 m1 m1, .sl 4 0 m2 m2]⟩, some ⟨true, [.ints .u8 m0 B0]⟩, some ⟨true, [.ints .u8 m1 B1]⟩, some ⟨true, [.ints .u8 m2 B2]⟩, some ⟨true, [.vals k_ W, .rs 6 0 m0 1, .rs 7 0 m1 1, .rs 8 0 m2 1]⟩, some ⟨true, [.ints .u8 m0 D0]⟩, some ⟨true, [.ints .u8 m1 D1]⟩, some ⟨true, [.ints .u8 m2 D2]⟩, some ⟨false, [.ints .u8 nm b]⟩] (fun ys K' => ys = [.a (.sl 12 0 n (gv3 n))] ∧ K' = [some ⟨true, [.rs 10 0 (gv3_1 q) 1, .rs 11 0 (gv3_1 q) 1, .raw (.slice none 0 0), .raw (.slice none 0 0), .raw (.slice none 0 0), .raw (.slice none 0 0), .raw (.slice none 0 0), .raw (.slice none 0 0), .raw (.slice none 0 0), .raw (.slice none 0 0), .raw (.slice none 0 0), .raw (.slice none 0 0), .raw (.slice none 0 0), .raw (.slice none 0 0), .raw (.slice none 0 0), .raw (.slice none 0 0), .raw (.slice none 0 0), .raw (.slice none 0 0), .raw (.slice none 0 0), .raw (.slice none 0 0), .raw (.slice none 0 0), .raw (.slice none 0 0), .raw (.slice none 0 0), .raw (.slice none 0 0), .raw (.slice none 0 0), .raw (.slice none 0 0), .raw (.slice none 0 0), .raw (.slice none 0 0), .raw (.slice none 0 0), .raw (.slice none 0 0)]⟩, none, some ⟨true, [.ints .u8 m0 B0]⟩, some ⟨true, [.ints .u8 m1 B1]⟩, some ⟨true, [.ints .u8 m2 B2]⟩, none, some ⟨true, [.ints .u8 m0 D0]⟩, some ⟨true, [.ints .u8 m1 D1]⟩, some ⟨true, [.ints .u8 m2 D2]⟩, some ⟨false, [.ints .u8 nm b]⟩, some ⟨true, [.vals k_ L, .sl 2 0 m0 m0, .sl 3 0 m1 m1, .sl 4 0 m2 m2, .sl 12 0 (gv3 n) (gv3 n)]⟩, some ⟨true, [.vals k_ W, .rs 6 0 m0 1, .rs 7 0 m1 1, .rs 8 0 m2 1, .rs 13 0 (gv3 n) 1]⟩, some ⟨true, [.ints .u8 (gv3 n) (gvB n b)]⟩, some ⟨true, [.ints .u8 (gv3 n) (gvB n b)]⟩]) :=
  Body.of_finK (Γ := gam35) (Λ := lamOf [(0, ⟨[.forget [0, 1, 4, 5, 6] 11], .normal, (gv3A_mk q k_ L m0 m1 m2 B0 B1 B2 W D0 D1 D2 n nm b cap9 (n + (3 : Nat)) (iter (gv3A_step) (n + (3 : Nat)) ()))⟩), (2, ⟨[.forget [0, 1, 4, 5, 6, 7] 11], .normal, (gv3B_mk q k_ L m0 m1 m2 B0 B1 B2 W D0 D1 D2 n nm b cap9 n (iter (gv3B_step) n ()))⟩)]) (Ψ := psiOf [(1, [.eqS 5 (.o (.a (.sl 10 0 (n + (3 : Nat)) (n + (3 : Nat))))), .eqB 10 (⟨true, [.ints .u8 (n + (3 : Nat)) (List.replicate (n + (3 : Nat)) (0 : Int))]⟩)]), (6, [.eqB 10 (⟨true, [.ints .u8 (n + (3 : Nat)) (rwB (987 : Int) (n + (3 : Nat)))]⟩)]), (10, [.eqB 10 (⟨true, [.ints .u8 (n + (3 : Nat)) (gvB n b)]⟩)]), (11, [.eqB 13 (⟨true, [.ints .u8 (n + (3 : Nat)) (gvB n b)]⟩)])]) (fuel := 0) (m := 61) (c := (Try.f15.body.getD .skip)) mix tabOkKB gam35_ok rfl (rs := [.tmp 4]) rfl rfl [false, false] [.swap 10 12, .swap 11 15] 14
    (vc := [(((0 : Int) ≤ (0 : Int)) ∧ ((0 : Int) ≤ ((n : Nat) : Int)) ∧ (((n : Nat) : Int) ≤ (((n + (3 : Nat)) : Nat) : Int))), ((some ⟨true, [.ints .u8 (n + (3 : Nat)) (copyB (n + (3 : Nat)) (sub (gvB n b) (0 : Nat) (n + (3 : Nat))))]⟩ : Option Blk) = some ⟨true, [.ints .u8 (n + (3 : Nat)) (gvB n b)]⟩), ((((0 : Nat) = (0 : Nat)) ∧ (q = (k_ + (3 : Nat)))) ∧ (((1 : Nat) ≤ (1 : Nat)) ∧ True) ∧ (((q + (1 : Nat)) * (24 : Nat)) ≤ (140737488355328 : Nat))), (((((0 : Nat) + (n + (3 : Nat))) ≤ (n + (3 : Nat))) ∧ True) ∧ (((n + (3 : Nat)) = (n + (3 : Nat))) ∧ ((n + (3 : Nat)) < (35184372088832 : Nat)))), ((some ⟨true, [.ints .u8 (n + (3 : Nat)) (cpB b (rwB (987 : Int) (n + (3 : Nat))) n)]⟩ : Option Blk) = some ⟨true, [.ints .u8 (n + (3 : Nat)) (gvB n b)]⟩), ((((0 : Nat) = (0 : Nat)) ∧ (q = (k_ + (3 : Nat)))) ∧ (((1 : Nat) ≤ (1 : Nat)) ∧ True) ∧ (((q + (1 : Nat)) * (24 : Nat)) ≤ (140737488355328 : Nat))), (Run Try.prog ⟨w, rw, 10, β⟩ (.block 2 (.loop (loopB Try.f15 2))) (gv3B_mk q k_ L m0 m1 m2 B0 B1 B2 W D0 D1 D2 n nm b cap9 0 ()) (To ⟨w, rw, 10, β⟩ .normal (gv3B_mk q k_ L m0 m1 m2 B0 B1 B2 W D0 D1 D2 n nm b cap9 n (iter (gv3B_step) n ())))), ((some ⟨true, [.ints .u8 (n + (3 : Nat)) (mkP (List.replicate (n + (3 : Nat)) (0 : Int)) (987 : Int) (n + (3 : Nat)))]⟩ : Option Blk) = some ⟨true, [.ints .u8 (n + (3 : Nat)) (rwB (987 : Int) (n + (3 : Nat)))]⟩), (Run Try.prog ⟨w, rw, 10, β⟩ (.block 0 (.loop (loopB Try.f15 0))) (gv3A_mk q k_ L m0 m1 m2 B0 B1 B2 W D0 D1 D2 n nm b cap9 0 ()) (To ⟨w, rw, 10, β⟩ .normal (gv3A_mk q k_ L m0 m1 m2 B0 B1 B2 W D0 D1 D2 n nm b cap9 (n + (3 : Nat)) (iter (gv3A_step) (n + (3 : Nat)) ())))), ((some ⟨true, [.ints .u8 (Int.toNat (IntKind.i64.wrap (((n : Nat) : Int) + (3 : Int)))) (List.replicate (Int.toNat (IntKind.i64.wrap (((n : Nat) : Int) + (3 : Int)))) (0 : Int))]⟩ : Option Blk) = some ⟨true, [.ints .u8 (n + (3 : Nat)) (List.replicate (n + (3 : Nat)) (0 : Int))]⟩), ((.o (.a (.sl 10 0 (Int.toNat (IntKind.i64.wrap (((n : Nat) : Int) + (3 : Int)))) (Int.toNat (IntKind.i64.wrap (((n : Nat) : Int) + (3 : Int)))))) : AV) = .o (.a (.sl 10 0 (n + (3 : Nat)) (n + (3 : Nat))))), (((0 : Int) ≤ (IntKind.i64.wrap (((n : Nat) : Int) + (3 : Int)))) ∧ ((IntKind.i64.wrap (((n : Nat) : Int) + (3 : Int))) ≤ (IntKind.i64.wrap (((n : Nat) : Int) + (3 : Int)))) ∧ (((IntKind.i64.wrap (((n : Nat) : Int) + (3 : Int))) * (1 : Int)) ≤ (281474976710656 : Int)))]) (by kernel_rfl)
    (aC ⟨(by decide), (by first | omega | (simp (disch := omega) only [wrapI]; omega)), (by first | omega | (simp (disch := omega) only [wrapI]; omega))⟩ (aC ((by rw [show copyB (n + 3) (sub (gvB n b) 0 (n + 3)) = gvB n b from gv_copy (hl9_0.trans h0)])) (aC ⟨⟨rfl, h3⟩, ⟨(by decide), trivial⟩, (by first | omega | (simp (disch := omega) only [wrapI]; omega))⟩ (aC ⟨⟨(by first | omega | (simp (disch := omega) only [wrapI]; omega)), trivial⟩, ⟨rfl, (by first | omega | (simp (disch := omega) only [wrapI]; omega))⟩⟩ (aC (rfl) (aC ⟨⟨rfl, h3⟩, ⟨(by decide), trivial⟩, (by first | omega | (simp (disch := omega) only [wrapI]; omega))⟩ (aC (gv3B_loop q k_ L m0 m1 m2 B0 B1 B2 W D0 D1 D2 n nm b cap9 h0 h1 h2 h3 hc9 hl2_0 hl3_0 hl4_0 hl6_0 hl7_0 hl8_0 hl9_0 w rw β ()) (aC ((by rw [mkP_all (by rw [List.length_replicate])])) (aC (gv3A_loop q k_ L m0 m1 m2 B0 B1 B2 W D0 D1 D2 n nm b cap9 h0 h1 h2 h3 hc9 hl2_0 hl3_0 hl4_0 hl6_0 hl7_0 hl8_0 hl9_0 w rw β ()) (aC ((by rw [wrapI (by omega) (by omega), show Int.toNat (((n : Nat) : Int) + 3) = n + 3 from by omega])) (aC ((by rw [wrapI (by omega) (by omega), show Int.toNat (((n : Nat) : Int) + 3) = n + 3 from by omega])) (aC ⟨(by first | omega | (simp (disch := omega) only [wrapI]; omega)), (by first | omega | (simp (disch := omega) only [wrapI]; omega)), (by first | omega | (simp (disch := omega) only [wrapI]; omega))⟩ (AllP_nil)))))))))))))

theorem gv3_body (q k_ : Nat) (L : List Value) (m0 m1 m2 : Nat) (B0 B1 B2 : List Int) (W : List Value) (D0 D1 D2 : List Int) (n nm : Nat) (b : List Int) (cap9 : Nat) (h0 : (nm = n)) (h1 : (n < (17592186044416 : Nat))) (h2 : (q < (2199023255552 : Nat))) (h3 : (q = (k_ + (3 : Nat)))) (w : World) (rw : List Nat) (β : Env) : Body Try.prog (tabOf tabKB) Try.f15 ⟨w, rw, 10, β⟩ [.o (.a (.p 0 0)), .o (.a (.sl 9 0 n cap9))] [some ⟨true, [.rs 1 0 q 1, .rs 5 0 q 1, .raw (.slice none 0 0), .raw (.slice none 0 0), .raw (.slice none 0 0), .raw (.slice none 0 0), .raw (.slice none 0 0), .raw (.slice none 0 0), .raw (.slice none 0 0), .raw (.slice none 0 0), .raw (.slice none 0 0), .raw (.slice none 0 0), .raw (.slice none 0 0), .raw (.slice none 0 0), .raw (.slice none 0 0), .raw (.slice none 0 0), .raw (.slice none 0 0), .raw (.slice none 0 0), .raw (.slice none 0 0), .raw (.slice none 0 0), .raw (.slice none 0 0), .raw (.slice none 0 0), .raw (.slice none 0 0), .raw (.slice none 0 0), .raw (.slice none 0 0), .raw (.slice none 0 0), .raw (.slice none 0 0), .raw (.slice none 0 0), .raw (.slice none 0 0), .raw (.slice none 0 0)]⟩, some ⟨true, [.vals k_ L, .sl 2 0 m0 m0, .sl 3 0 m1 m1, .sl 4 0 m2 m2]⟩, some ⟨true, [.ints .u8 m0 B0]⟩, some ⟨true, [.ints .u8 m1 B1]⟩, some ⟨true, [.ints .u8 m2 B2]⟩, some ⟨true, [.vals k_ W, .rs 6 0 m0 1, .rs 7 0 m1 1, .rs 8 0 m2 1]⟩, some ⟨true, [.ints .u8 m0 D0]⟩, some ⟨true, [.ints .u8 m1 D1]⟩, some ⟨true, [.ints .u8 m2 D2]⟩, some ⟨false, [.ints .u8 nm b]⟩] (fun ys K' => ys = [.a (.sl 12 0 n (gv3 n))] ∧ K' = [some ⟨true, [.rs 10 0 (gv3_1 q) 1, .rs 11 0 (gv3_1 q) 1, .raw (.slice none 0 0), .raw (.slice none 0 0), .raw (.slice none 0 0), .raw (.slice none 0 0), .raw (.slice none 0 0), .raw (.slice none 0 0), .raw (.slice none 0 0), .raw (.slice none 0 0), .raw (.slice none 0 0), .raw (.slice none 0 0), .raw (.slice none 0 0), .raw (.slice none 0 0), .raw (.slice none 0 0), .raw (.slice none 0 0), .raw (.slice none 0 0), .raw (.slice none 0 0), .raw (.slice none 0 0), .raw (.slice none 0 0), .raw (.slice none 0 0), .raw (.slice none 0 0), .raw (.slice none 0 0), .raw (.slice none 0 0), .raw (.slice none 0 0), .raw (.slice none 0 0), .raw (.slice none 0 0), .raw (.slice none 0 0), .raw (.slice none 0 0), .raw (.slice none 0 0)]⟩, none, some ⟨true, [.ints .u8 m0 B0]⟩, some ⟨true, [.ints .u8 m1 B1]⟩, some ⟨true, [.ints .u8 m2 B2]⟩, none, some ⟨true, [.ints .u8 m0 D0]⟩, some ⟨true, [.ints .u8 m1 D1]⟩, some ⟨true, [.ints .u8 m2 D2]⟩, some ⟨false, [.ints .u8 nm b]⟩, some ⟨true, [.vals k_ L, .sl 2 0 m0 m0, .sl 3 0 m1 m1, .sl 4 0 m2 m2, .sl 12 0 (gv3 n) (gv3 n)]⟩, some ⟨true, [.vals k_ W, .rs 6 0 m0 1, .rs 7 0 m1 1, .rs 8 0 m2 1, .rs 13 0 (gv3 n) 1]⟩, some ⟨true, [.ints .u8 (gv3 n) (gvB n b)]⟩, some ⟨true, [.ints .u8 (gv3 n) (gvB n b)]⟩]) :=
  Body.lens (c := (Try.f15.body.getD .skip)) rfl fun h => gv3_body0 q k_ L m0 m1 m2 B0 B1 B2 W D0 D1 D2 n nm b cap9 h0 h1 h2 h3 (h.caps 1 _ _ _ _ rfl) (h.lens 2 _ .u8 m0 B0 rfl (by simp)) (h.lens 3 _ .u8 m1 B1 rfl (by simp)) (h.lens 4 _ .u8 m2 B2 rfl (by simp)) (h.lens 6 _ .u8 m0 D0 rfl (by simp)) (h.lens 7 _ .u8 m1 D1 rfl (by simp)) (h.lens 8 _ .u8 m2 D2 rfl (by simp)) (h.lens 9 _ .u8 nm b rfl (by simp)) w rw β

def gv4A_mk (q k_ : Nat) (L : List Value) (m0 m1 m2 m3 : Nat) (B0 B1 B2 B3 : List Int) (W : List Value) (D0 D1 D2 D3 : List Int) (n nm : Nat) (b : List Int) (cap11 j : Nat) (sj : Unit) : St := ⟨sparse 61 [(0, .o (.a (.p 0 0))), (1, .o (.a (.sl 11 0 n cap11))), (4, .o (.a (.raw (.slice none 0 0)))), (5, .o (.a (.sl 12 0 (n + (3 : Nat)) (n + (3 : Nat))))), (6, .o (.a (.i .i64 ((j : Nat) : Int))))], [some ⟨true, [.rs 1 0 q 1, .rs 6 0 q 1, .raw (.slice none 0 0), .raw (.slice none 0 0), .raw (.slice none 0 0), .raw (.slice none 0 0), .raw (.slice none 0 0), .raw (.slice none 0 0), .raw (.slice none 0 0), .raw (.slice none 0 0), .raw (.slice none 0 0), .raw (.slice none 0 0), .raw (.slice none 0 0), .raw (.slice none 0 0), .raw (.slice none 0 0), .raw (.slice none 0 0), .raw (.slice none 0 0), .raw (.slice none 0 0), .raw (.slice none 0 0), .raw (.slice none 0 0), .raw (.slice none 0 0), .raw (.slice none 0 0), .raw (.slice none 0 0), .raw (.slice none 0 0), .raw (.slice none 0 0), .raw (.slice none 0 0), .raw (.slice none 0 0), .raw (.slice none 0 0), .raw (.slice none 0 0), .raw (.slice none 0 0)]⟩, some ⟨true, [.vals k_ L, .sl 2 0 m0 m0, .sl 3 0 m1 m1, .sl 4 0 m2 m2, .sl 5 0 m3 m3]⟩, some ⟨true, [.ints .u8 m0 B0]⟩, some ⟨true, [.ints .u8 m1 B1]⟩, some ⟨true, [.ints .u8 m2 B2]⟩, some ⟨true, [.ints .u8 m3 B3]⟩, some ⟨true, [.vals k_ W, .rs 7 0 m0 1, .rs 8 0 m1 1, .rs 9 0 m2 1, .rs 10 0 m3 1]⟩, some ⟨true, [.ints .u8 m0 D0]⟩, some ⟨true, [.ints .u8 m1 D1]⟩, some ⟨true, [.ints .u8 m2 D2]⟩, some ⟨true, [.ints .u8 m3 D3]⟩, some ⟨false, [.ints .u8 nm b]⟩, some ⟨true, [.ints .u8 (n + (3 : Nat)) (mkP (List.replicate (n + (3 : Nat)) (0 : Int)) (987 : Int) j)]⟩]⟩

def gv4A_step (j : Nat) (sj : Unit) : Unit :=
  ()

set_option maxHeartbeats 1000000 in
theorem gv4A_round (q k_ : Nat) (L : List Value) (m0 m1 m2 m3 : Nat) (B0 B1 B2 B3 : List Int) (W : List Value) (D0 D1 D2 D3 : List Int) (n nm : Nat) (b : List Int) (cap11 : Nat) (h0 : (nm = n)) (h1 : (n < (17592186044416 : Nat))) (h2 : (q < (2199023255552 : Nat))) (h3 : (q = (k_ + (4 : Nat)))) (hc11 : n ≤ cap11) (hl2_0 : List.length B0 = m0) (hl3_0 : List.length B1 = m1) (hl4_0 : List.length B2 = m2) (hl5_0 : List.length B3 = m3) (hl7_0 : List.length D0 = m0) (hl8_0 : List.length D1 = m1) (hl9_0 : List.length D2 = m2) (hl10_0 : List.length D3 = m3) (hl11_0 : List.length b = nm) (w : World) (rw : List Nat) (β : Env) (j : Nat) (hj : j < (n + (3 : Nat))) (sj : Unit) : Run Try.prog ⟨w, rw, 12, β⟩ (loopB Try.f15 0) (gv4A_mk q k_ L m0 m1 m2 m3 B0 B1 B2 B3 W D0 D1 D2 D3 n nm b cap11 j sj) (To ⟨w, rw, 12, β⟩ .normal (gv4A_mk q k_ L m0 m1 m2 m3 B0 B1 B2 B3 W D0 D1 D2 D3 n nm b cap11 (j + 1) (gv4A_step j sj))) := by
  have e0 : (List.set (mkP (List.replicate (n + (3 : Nat)) (0 : Int)) (987 : Int) j) j (mkBy (987 : Int) ((j : Nat) : Int))) = (mkP (List.replicate (n + (3 : Nat)) (0 : Int)) (987 : Int) (j + (1 : Nat))) := (by first | exact wrap_succ (by omega) | exact mkP_step (by rw [List.length_replicate]) (by omega))
  have e1 : (IntKind.i64.wrap (((j : Nat) : Int) + (1 : Int))) = (((j + (1 : Nat)) : Nat) : Int) := (by first | exact wrap_succ (by omega) | exact mkP_step (by rw [List.length_replicate]) (by omega))
  have h := Run.of_outT (B := ⟨w, rw, 12, β⟩) (Λ := noLam) (Ψ := noPsi) (fuel := 0) (ora := [true]) (c := (loopB Try.f15 0)) (st := (gv4A_mk q k_ L m0 m1 m2 m3 B0 B1 B2 B3 W D0 D1 D2 D3 n nm b cap11 j sj)) (l := [.forget [0, 1, 4, 5, 6] 13]) (s' := ⟨sparse 61 [(0, .o (.a (.p 0 0))), (1, .o (.a (.sl 11 0 n cap11))), (4, .o (.a (.raw (.slice none 0 0)))), (5, .o (.a (.sl 12 0 (n + (3 : Nat)) (n + (3 : Nat))))), (6, .o (.a (.i .i64 (IntKind.i64.wrap (((j : Nat) : Int) + (1 : Int))))))], [some ⟨true, [.rs 1 0 q 1, .rs 6 0 q 1, .raw (.slice none 0 0), .raw (.slice none 0 0), .raw (.slice none 0 0), .raw (.slice none 0 0), .raw (.slice none 0 0), .raw (.slice none 0 0), .raw (.slice none 0 0), .raw (.slice none 0 0), .raw (.slice none 0 0), .raw (.slice none 0 0), .raw (.slice none 0 0), .raw (.slice none 0 0), .raw (.slice none 0 0), .raw (.slice none 0 0), .raw (.slice none 0 0), .raw (.slice none 0 0), .raw (.slice none 0 0), .raw (.slice none 0 0), .raw (.slice none 0 0), .raw (.slice none 0 0), .raw (.slice none 0 0), .raw (.slice none 0 0), .raw (.slice none 0 0), .raw (.slice none 0 0), .raw (.slice none 0 0), .raw (.slice none 0 0), .raw (.slice none 0 0), .raw (.slice none 0 0)]⟩, some ⟨true, [.vals k_ L, .sl 2 0 m0 m0, .sl 3 0 m1 m1, .sl 4 0 m2 m2, .sl 5 0 m3 m3]⟩, some ⟨true, [.ints .u8 m0 B0]⟩, some ⟨true, [.ints .u8 m1 B1]⟩, some ⟨true, [.ints .u8 m2 B2]⟩, some ⟨true, [.ints .u8 m3 B3]⟩, some ⟨true, [.vals k_ W, .rs 7 0 m0 1, .rs 8 0 m1 1, .rs 9 0 m2 1, .rs 10 0 m3 1]⟩, some ⟨true, [.ints .u8 m0 D0]⟩, some ⟨true, [.ints .u8 m1 D1]⟩, some ⟨true, [.ints .u8 m2 D2]⟩, some ⟨true, [.ints .u8 m3 D3]⟩, some ⟨false, [.ints .u8 nm b]⟩, some ⟨true, [.ints .u8 (n + (3 : Nat)) (List.set (mkP (List.replicate (n + (3 : Nat)) (0 : Int)) (987 : Int) j) j (mkBy (987 : Int) ((j : Nat) : Int)))]⟩]⟩) (ex := .normal) mix tabOkKB gam35_ok
    (vc := [(j < (n + (3 : Nat))), (((0 : Int) ≤ ((j : Nat) : Int)) ∧ (((j : Nat) : Int) < (((n + (3 : Nat)) : Nat) : Int))), ((decide (((j : Nat) : Int) < (((n + (3 : Nat)) : Nat) : Int))) = true)]) (by kernel_rfl)
    (aC (by first | omega | (simp (disch := omega) only [wrapI]; omega)) (aC ⟨(by first | omega | (simp (disch := omega) only [wrapI]; omega)), (by first | omega | (simp (disch := omega) only [wrapI]; omega))⟩ (aC (decide_eq_true (by first | omega | (simp (disch := omega) only [wrapI]; omega))) (AllP_nil))))
  rw [e0, e1] at h
  exact h

set_option maxHeartbeats 1000000 in
theorem gv4A_last (q k_ : Nat) (L : List Value) (m0 m1 m2 m3 : Nat) (B0 B1 B2 B3 : List Int) (W : List Value) (D0 D1 D2 D3 : List Int) (n nm : Nat) (b : List Int) (cap11 : Nat) (h0 : (nm = n)) (h1 : (n < (17592186044416 : Nat))) (h2 : (q < (2199023255552 : Nat))) (h3 : (q = (k_ + (4 : Nat)))) (hc11 : n ≤ cap11) (hl2_0 : List.length B0 = m0) (hl3_0 : List.length B1 = m1) (hl4_0 : List.length B2 = m2) (hl5_0 : List.length B3 = m3) (hl7_0 : List.length D0 = m0) (hl8_0 : List.length D1 = m1) (hl9_0 : List.length D2 = m2) (hl10_0 : List.length D3 = m3) (hl11_0 : List.length b = nm) (w : World) (rw : List Nat) (β : Env) (sj : Unit) : Run Try.prog ⟨w, rw, 12, β⟩ (loopB Try.f15 0) (gv4A_mk q k_ L m0 m1 m2 m3 B0 B1 B2 B3 W D0 D1 D2 D3 n nm b cap11 (n + (3 : Nat)) sj) (To ⟨w, rw, 12, β⟩ (.exit 0) (gv4A_mk q k_ L m0 m1 m2 m3 B0 B1 B2 B3 W D0 D1 D2 D3 n nm b cap11 (n + (3 : Nat)) sj)) :=
  Run.of_outT (B := ⟨w, rw, 12, β⟩) (Λ := noLam) (Ψ := noPsi) (fuel := 0) (ora := [false]) (l := [.forget [0, 1, 4, 5, 6] 13]) mix tabOkKB gam35_ok
    (vc := [((decide ((((n + (3 : Nat)) : Nat) : Int) < (((n + (3 : Nat)) : Nat) : Int))) = false)]) (by kernel_rfl)
    (aC (decide_eq_false (by omega)) (AllP_nil))

theorem gv4A_loop (q k_ : Nat) (L : List Value) (m0 m1 m2 m3 : Nat) (B0 B1 B2 B3 : List Int) (W : List Value) (D0 D1 D2 D3 : List Int) (n nm : Nat) (b : List Int) (cap11 : Nat) (h0 : (nm = n)) (h1 : (n < (17592186044416 : Nat))) (h2 : (q < (2199023255552 : Nat))) (h3 : (q = (k_ + (4 : Nat)))) (hc11 : n ≤ cap11) (hl2_0 : List.length B0 = m0) (hl3_0 : List.length B1 = m1) (hl4_0 : List.length B2 = m2) (hl5_0 : List.length B3 = m3) (hl7_0 : List.length D0 = m0) (hl8_0 : List.length D1 = m1) (hl9_0 : List.length D2 = m2) (hl10_0 : List.length D3 = m3) (hl11_0 : List.length b = nm) (w : World) (rw : List Nat) (β : Env) (sj : Unit) : Run Try.prog ⟨w, rw, 12, β⟩ (.block 0 (.loop (loopB Try.f15 0))) (gv4A_mk q k_ L m0 m1 m2 m3 B0 B1 B2 B3 W D0 D1 D2 D3 n nm b cap11 0 sj) (To ⟨w, rw, 12, β⟩ .normal (gv4A_mk q k_ L m0 m1 m2 m3 B0 B1 B2 B3 W D0 D1 D2 D3 n nm b cap11 (n + (3 : Nat)) (iter (gv4A_step) (n + (3 : Nat)) sj))) :=
  Run.count (fun j => gv4A_mk q k_ L m0 m1 m2 m3 B0 B1 B2 B3 W D0 D1 D2 D3 n nm b cap11 j (iter (gv4A_step) j sj)) (n + (3 : Nat)) (fun j hj => gv4A_round q k_ L m0 m1 m2 m3 B0 B1 B2 B3 W D0 D1 D2 D3 n nm b cap11 h0 h1 h2 h3 hc11 hl2_0 hl3_0 hl4_0 hl5_0 hl7_0 hl8_0 hl9_0 hl10_0 hl11_0 w rw β j hj _) (ex := (.exit 0)) (by simp) (gv4A_last q k_ L m0 m1 m2 m3 B0 B1 B2 B3 W D0 D1 D2 D3 n nm b cap11 h0 h1 h2 h3 hc11 hl2_0 hl3_0 hl4_0 hl5_0 hl7_0 hl8_0 hl9_0 hl10_0 hl11_0 w rw β _)

def gv4B_mk (q k_ : Nat) (L : List Value) (m0 m1 m2 m3 : Nat) (B0 B1 B2 B3 : List Int) (W : List Value) (D0 D1 D2 D3 : List Int) (n nm : Nat) (b : List Int) (cap11 j : Nat) (sj : Unit) : St := ⟨sparse 61 [(0, .o (.a (.p 0 0))), (1, .o (.a (.sl 11 0 n cap11))), (4, .o (.a (.raw (.slice none 0 0)))), (5, .o (.a (.sl 12 0 (n + (3 : Nat)) (n + (3 : Nat))))), (6, .o (.a (.i .i64 (((n + (3 : Nat)) : Nat) : Int)))), (7, .o (.a (.i .i64 ((j : Nat) : Int))))], [some ⟨true, [.rs 1 0 q 1, .rs 6 0 q 1, .raw (.slice none 0 0), .raw (.slice none 0 0), .raw (.slice none 0 0), .raw (.slice none 0 0), .raw (.slice none 0 0), .raw (.slice none 0 0), .raw (.slice none 0 0), .raw (.slice none 0 0), .raw (.slice none 0 0), .raw (.slice none 0 0), .raw (.slice none 0 0), .raw (.slice none 0 0), .raw (.slice none 0 0), .raw (.slice none 0 0), .raw (.slice none 0 0), .raw (.slice none 0 0), .raw (.slice none 0 0), .raw (.slice none 0 0), .raw (.slice none 0 0), .raw (.slice none 0 0), .raw (.slice none 0 0), .raw (.slice none 0 0), .raw (.slice none 0 0), .raw (.slice none 0 0), .raw (.slice none 0 0), .raw (.slice none 0 0), .raw (.slice none 0 0), .raw (.slice none 0 0)]⟩, some ⟨true, [.vals k_ L, .sl 2 0 m0 m0, .sl 3 0 m1 m1, .sl 4 0 m2 m2, .sl 5 0 m3 m3]⟩, some ⟨true, [.ints .u8 m0 B0]⟩, some ⟨true, [.ints .u8 m1 B1]⟩, some ⟨true, [.ints .u8 m2 B2]⟩, some ⟨true, [.ints .u8 m3 B3]⟩, some ⟨true, [.vals k_ W, .rs 7 0 m0 1, .rs 8 0 m1 1, .rs 9 0 m2 1, .rs 10 0 m3 1]⟩, some ⟨true, [.ints .u8 m0 D0]⟩, some ⟨true, [.ints .u8 m1 D1]⟩, some ⟨true, [.ints .u8 m2 D2]⟩, some ⟨true, [.ints .u8 m3 D3]⟩, some ⟨false, [.ints .u8 nm b]⟩, some ⟨true, [.ints .u8 (n + (3 : Nat)) (cpB b (rwB (987 : Int) (n + (3 : Nat))) j)]⟩]⟩

def gv4B_step (j : Nat) (sj : Unit) : Unit :=
  ()

set_option maxHeartbeats 1000000 in
theorem gv4B_round (q k_ : Nat) (L : List Value) (m0 m1 m2 m3 : Nat) (B0 B1 B2 B3 : List Int) (W : List Value) (D0 D1 D2 D3 : List Int) (n nm : Nat) (b : List Int) (cap11 : Nat) (h0 : (nm = n)) (h1 : (n < (17592186044416 : Nat))) (h2 : (q < (2199023255552 : Nat))) (h3 : (q = (k_ + (4 : Nat)))) (hc11 : n ≤ cap11) (hl2_0 : List.length B0 = m0) (hl3_0 : List.length B1 = m1) (hl4_0 : List.length B2 = m2) (hl5_0 : List.length B3 = m3) (hl7_0 : List.length D0 = m0) (hl8_0 : List.length D1 = m1) (hl9_0 : List.length D2 = m2) (hl10_0 : List.length D3 = m3) (hl11_0 : List.length b = nm) (w : World) (rw : List Nat) (β : Env) (j : Nat) (hj : j < n) (sj : Unit) : Run Try.prog ⟨w, rw, 12, β⟩ (loopB Try.f15 2) (gv4B_mk q k_ L m0 m1 m2 m3 B0 B1 B2 B3 W D0 D1 D2 D3 n nm b cap11 j sj) (To ⟨w, rw, 12, β⟩ .normal (gv4B_mk q k_ L m0 m1 m2 m3 B0 B1 B2 B3 W D0 D1 D2 D3 n nm b cap11 (j + 1) (gv4B_step j sj))) := by
  have e0 : (List.set (cpB b (rwB (987 : Int) (n + (3 : Nat))) j) j (List.getD b j 0)) = (cpB b (rwB (987 : Int) (n + (3 : Nat))) (j + (1 : Nat))) := (by first | exact wrap_succ (by omega) | exact cpB_step (hl11_0.trans h0) (rwB_len _ _) (by omega) (by omega))
  have e1 : (IntKind.i64.wrap (((j : Nat) : Int) + (1 : Int))) = (((j + (1 : Nat)) : Nat) : Int) := (by first | exact wrap_succ (by omega) | exact cpB_step (hl11_0.trans h0) (rwB_len _ _) (by omega) (by omega))
  have h := Run.of_outT (B := ⟨w, rw, 12, β⟩) (Λ := noLam) (Ψ := noPsi) (fuel := 0) (ora := [true]) (c := (loopB Try.f15 2)) (st := (gv4B_mk q k_ L m0 m1 m2 m3 B0 B1 B2 B3 W D0 D1 D2 D3 n nm b cap11 j sj)) (l := [.forget [0, 1, 4, 5, 6, 7] 13]) (s' := ⟨sparse 61 [(0, .o (.a (.p 0 0))), (1, .o (.a (.sl 11 0 n cap11))), (4, .o (.a (.raw (.slice none 0 0)))), (5, .o (.a (.sl 12 0 (n + (3 : Nat)) (n + (3 : Nat))))), (6, .o (.a (.i .i64 (((n + (3 : Nat)) : Nat) : Int)))), (7, .o (.a (.i .i64 (IntKind.i64.wrap (((j : Nat) : Int) + (1 : Int))))))], [some ⟨true, [.rs 1 0 q 1, .rs 6 0 q 1, .raw (.slice none 0 0), .raw (.slice none 0 0), .raw (.slice none 0 0), .raw (.slice none 0 0), .raw (.slice none 0 0), .raw (.slice none 0 0), .raw (.slice none 0 0), .raw (.slice none 0 0), .raw (.slice none 0 0), .raw (.slice none 0 0), .raw (.slice none 0 0), .raw (.slice none 0 0), .raw (.slice none 0 0), .raw (.slice none 0 0), .raw (.slice none 0 0), .raw (.slice none 0 0), .raw (.slice none 0 0), .raw (.slice none 0 0), .raw (.slice none 0 0), .raw (.slice none 0 0), .raw (.slice none 0 0), .raw (.slice none 0 0), .raw (.slice none 0 0), .raw (.slice none 0 0), .raw (.slice none 0 0), .raw (.slice none 0 0), .raw (.slice none 0 0), .raw (.slice none 0 0)]⟩, some ⟨true, [.vals k_ L, .sl 2 0 m0 m0, .sl 3 0 m1 m1, .sl 4 0 m2 m2, .sl 5 0 m3 m3]⟩, some ⟨true, [.ints .u8 m0 B0]⟩, some ⟨true, [.ints .u8 m1 B1]⟩, some ⟨true, [.ints .u8 m2 B2]⟩, some ⟨true, [.ints .u8 m3 B3]⟩, some ⟨true, [.vals k_ W, .rs 7 0 m0 1, .rs 8 0 m1 1, .rs 9 0 m2 1, .rs 10 0 m3 1]⟩, some ⟨true, [.ints .u8 m0 D0]⟩, some ⟨true, [.ints .u8 m1 D1]⟩, some ⟨true, [.ints .u8 m2 D2]⟩, some ⟨true, [.ints .u8 m3 D3]⟩, some ⟨false, [.ints .u8 nm b]⟩, some ⟨true, [.ints .u8 (n + (3 : Nat)) (List.set (cpB b (rwB (987 : Int) (n + (3 : Nat))) j) j (List.getD b j 0))]⟩]⟩) (ex := .normal) mix tabOkKB gam35_ok
    (vc := [(j < (n + (3 : Nat))), (((0 : Int) ≤ ((j : Nat) : Int)) ∧ (((j : Nat) : Int) < (((n + (3 : Nat)) : Nat) : Int))), (j < nm), (((0 : Int) ≤ ((j : Nat) : Int)) ∧ (((j : Nat) : Int) < ((n : Nat) : Int))), ((decide (((j : Nat) : Int) < ((n : Nat) : Int))) = true)]) (by kernel_rfl)
    (aC (by first | omega | (simp (disch := omega) only [wrapI]; omega)) (aC ⟨(by first | omega | (simp (disch := omega) only [wrapI]; omega)), (by first | omega | (simp (disch := omega) only [wrapI]; omega))⟩ (aC (by first | omega | (simp (disch := omega) only [wrapI]; omega)) (aC ⟨(by first | omega | (simp (disch := omega) only [wrapI]; omega)), (by first | omega | (simp (disch := omega) only [wrapI]; omega))⟩ (aC (decide_eq_true (by first | omega | (simp (disch := omega) only [wrapI]; omega))) (AllP_nil))))))
  rw [e0, e1] at h
  exact h

set_option maxHeartbeats 1000000 in
theorem gv4B_last (q k_ : Nat) (L : List Value) (m0 m1 m2 m3 : Nat) (B0 B1 B2 B3 : List Int) (W : List Value) (D0 D1 D2 D3 : List Int) (n nm : Nat) (b : List Int) (cap11 : Nat) (h0 : (nm = n)) (h1 : (n < (17592186044416 : Nat))) (h2 : (q < (2199023255552 : Nat))) (h3 : (q = (k_ + (4 : Nat)))) (hc11 : n ≤ cap11) (hl2_0 : List.length B0 = m0) (hl3_0 : List.length B1 = m1) (hl4_0 : List.length B2 = m2) (hl5_0 : List.length B3 = m3) (hl7_0 : List.length D0 = m0) (hl8_0 : List.length D1 = m1) (hl9_0 : List.length D2 = m2) (hl10_0 : List.length D3 = m3) (hl11_0 : List.length b = nm) (w : World) (rw : List Nat) (β : Env) (sj : Unit) : Run Try.prog ⟨w, rw, 12, β⟩ (loopB Try.f15 2) (gv4B_mk q k_ L m0 m1 m2 m3 B0 B1 B2 B3 W D0 D1 D2 D3 n nm b cap11 n sj) (To ⟨w, rw, 12, β⟩ (.exit 2) (gv4B_mk q k_ L m0 m1 m2 m3 B0 B1 B2 B3 W D0 D1 D2 D3 n nm b cap11 n sj)) :=
  Run.of_outT (B := ⟨w, rw, 12, β⟩) (Λ := noLam) (Ψ := noPsi) (fuel := 0) (ora := [false]) (l := [.forget [0, 1, 4, 5, 6, 7] 13]) mix tabOkKB gam35_ok
    (vc := [((decide (((n : Nat) : Int) < ((n : Nat) : Int))) = false)]) (by kernel_rfl)
    (aC (decide_eq_false (by omega)) (AllP_nil))

theorem gv4B_loop (q k_ : Nat) (L : List Value) (m0 m1 m2 m3 : Nat) (B0 B1 B2 B3 : List Int) (W : List Value) (D0 D1 D2 D3 : List Int) (n nm : Nat) (b : List Int) (cap11 : Nat) (h0 : (nm = n)) (h1 : (n < (17592186044416 : Nat))) (h2 : (q < (2199023255552 : Nat))) (h3 : (q = (k_ + (4 : Nat)))) (hc11 : n ≤ cap11) (hl2_0 : List.length B0 = m0) (hl3_0 : List.length B1 = m1) (hl4_0 : List.length B2 = m2) (hl5_0 : List.length B3 = m3) (hl7_0 : List.length D0 = m0) (hl8_0 : List.length D1 = m1) (hl9_0 : List.length D2 = m2) (hl10_0 : List.length D3 = m3) (hl11_0 : List.length b = nm) (w : World) (rw : List Nat) (β : Env) (sj : Unit) : Run Try.prog ⟨w, rw, 12, β⟩ (.block 2 (.loop (loopB Try.f15 2))) (gv4B_mk q k_ L m0 m1 m2 m3 B0 B1 B2 B3 W D0 D1 D2 D3 n nm b cap11 0 sj) (To ⟨w, rw, 12, β⟩ .normal (gv4B_mk q k_ L m0 m1 m2 m3 B0 B1 B2 B3 W D0 D1 D2 D3 n nm b cap11 n (iter (gv4B_step) n sj))) :=
  Run.count (fun j => gv4B_mk q k_ L m0 m1 m2 m3 B0 B1 B2 B3 W D0 D1 D2 D3 n nm b cap11 j (iter (gv4B_step) j sj)) n (fun j hj => gv4B_round q k_ L m0 m1 m2 m3 B0 B1 B2 B3 W D0 D1 D2 D3 n nm b cap11 h0 h1 h2 h3 hc11 hl2_0 hl3_0 hl4_0 hl5_0 hl7_0 hl8_0 hl9_0 hl10_0 hl11_0 w rw β j hj _) (ex := (.exit 2)) (by simp) (gv4B_last q k_ L m0 m1 m2 m3 B0 B1 B2 B3 W D0 D1 D2 D3 n nm b cap11 h0 h1 h2 h3 hc11 hl2_0 hl3_0 hl4_0 hl5_0 hl7_0 hl8_0 hl9_0 hl10_0 hl11_0 w rw β _)

def gv4 (n : Nat) : Nat :=
  (n + (3 : Nat))

def gv4_1 (q : Nat) : Nat :=
  (q + (1 : Nat))

set_option maxHeartbeats 1000000 in
theorem gv4_body0 (q k_ : Nat) (L : List Value) (m0 m1 m2 m3 : Nat) (B0 B1 B2 B3 : List Int) (W : List Value) (D0 D1 D2 D3 : List Int) (n nm : Nat) (b : List Int) (cap11 : Nat) (h0 : (nm = n)) (h1 : (n < (17592186044416 : Nat))) (h2 : (q < (2199023255552 : Nat))) (h3 : (q = (k_ + (4 : Nat)))) (hc11 : n ≤ cap11) (hl2_0 : List.length B0 = m0) (hl3_0 : List.length B1 = m1) (hl4_0 : List.length B2 = m2) (hl5_0 : List.length B3 = m3) (hl7_0 : List.length D0 = m0) (hl8_0 : List.length D1 = m1) (hl9_0 : List.length D2 = m2) (hl10_0 : List.length D3 = m3) (hl11_0 : List.length b = nm) (w : World) (rw : List Nat) (β : Env) : Body Try.prog (tabOf tabKB) Try.f15 ⟨w, rw, 12, β⟩ [.o (.a (.p 0 0)), .o (.a (.sl 11 0 n cap11))] [some ⟨true, [.rs 1 0 q 1, .rs 6 0 q 1, .raw (.slice none 0 0), .raw (.slice none 0 0), .raw (.slice none 0 0), .raw (.slice none 0 0), .raw (.slice none 0 0), .raw (.slice none 0 0), .raw (.slice none 0 0), .raw (.slice none 0 0), .raw (.slice none 0 0), .raw (.slice none 0 0), .raw (.slice none 0 0), .raw (.slice none 0 0), .raw (.slice none 0 0), .raw (.slice none 0 0), .raw (.slice none 0 0), .raw (.slice none 0 0), .raw (.slice none 0 0), .raw (.slice none 0 0), .raw (.slice none 0 0), .raw (.slice none 0 0), .raw (.slice none 0 0), .raw (.slice none 0 0), .raw (.slice none 0 0), .raw (.slice none 0 0), .raw (.slice none 0 0), .raw (.slice none 0 0), .raw (.slice none 0 0), .raw (.slice none 0 0)]⟩, some ⟨true, [.vals k_ L, .sl 2 0 m0 m0, .sl 3 0 m1 m1, .sl 4 0 m2 m2, .sl 5 0 m3 m3]⟩, some ⟨true, [.ints .u8 m0 B0]⟩, some ⟨true, [.ints .u8 m1 B1]⟩, some ⟨true, [.ints .u8 m2 B2]⟩, some ⟨true, [.ints .u8 m3 B3]⟩, some ⟨true, [.vals k_ W, .rs 7 0 m0 1, .rs 8 0 m1 1, .rs 9 0 m2 1, .rs 10 0 m3 1]⟩, some ⟨true, [.ints .u8 m0 D0]⟩, some ⟨true, [.ints .u8 m1 D1]⟩, some ⟨true, [.ints .u8 m2 D2]⟩, some ⟨true, [.ints .u8 m3 D3]⟩, some ⟨false, [.ints .u8 nm b]⟩] (fun ys K' => ys = [.a (.sl 14 0 n (gv4 n))] ∧ K' = [some ⟨true, [.rs 12 0 (gv4_1 q) 1, .rs 13 0 (gv4_1 q) 1, .raw (.slice none 0 0), .raw (.slice none 0 0), .raw (.slice none 0 0), .raw (.slice none 0 0), .raw (.slice none 0 0), .raw (.slice none 0 0), .raw (.slice none 0 0), .raw (.slice none 0 0), .raw (.slice none 0 0), .raw (.slice none 0 0), .raw (.slice none 0 0), .raw (.slice none 0 0), .raw (.slice none 0 0), .raw (.slice none 0 0), .raw (.slice none 0 0), .raw (.slice none 0 0), .raw (.slice none 0 0), .raw (.slice none 0 0), .raw (.slice none 0 0), .raw (.slice none 0 0), .raw (.slice none 0 0), .raw (.slice none 0 0), .raw (.slice none 0 0), .raw (.slice none 0 0), .raw (.slice none 0 0), .raw (.slice none 0 0), .raw (.slice none 0 0), .raw (.slice none 0 0)]⟩, none, some ⟨true, [.ints .u8 m0 B0]⟩, some ⟨true, [.ints .u8 m1 B1]⟩, some ⟨true, [.ints .u8 m2 B2]⟩, some ⟨true, [.ints .u8 m3 B3]⟩, none, some ⟨true, [.ints .u8 m0 D0]⟩, some ⟨true, [.ints .u8 m1 D1]⟩, some ⟨true, [.ints .u8 m2 D2]⟩, some ⟨true, [.ints .u8 m3 D3]⟩, some ⟨false, [.ints .u8 nm b]⟩, some ⟨true, [.vals k_ L, .sl 2 0 m0 m0, .sl 3 0 m1 m1, .sl 4 0 m2 m2, .sl 5 0 m3 m3, .sl 14 0 (gv4 n) (gv4 n)]⟩, some ⟨true, [.vals k_ W, .rs 7 0 m0 1, .rs 8 0 m1 1, .rs 9 0 m2 1, .rs 10 0 m3 1, .rs 15 0 (gv4 n) 1]⟩, some ⟨true, [.ints .u8 (gv4 n) (gvB n b)]⟩, some ⟨true, [.ints .u8 (gv4 n) (gvB n b)]⟩]) :=
  Body.of_finK (Γ := gam35) (Λ := lamOf [(0, ⟨[.forget [0, 1, 4, 5, 6] 13], .normal, (gv4A_mk q k_ L m0 m1 m2 m3 B0 B1 B2 B3 W D0 D1 D2 D3 n nm b cap11 (n + (3 : Nat)) (iter (gv4A_step) (n + (3 : Nat)) ()))⟩), (2, ⟨[.forget [0, 1, 4, 5, 6, 7] 13], .normal, (gv4B_mk q k_ L m0 m1 m2 m3 B0 B1 B2 B3 W D0 D1 D2 D3 n nm b cap11 n (iter (gv4B_step) n ()))⟩)]) (Ψ := psiOf [(1, [.eqS 5 (.o (.a (.sl 12 0 (n + (3 : Nat)) (n + (3 : Nat))))), .eqB 12 (⟨true, [.ints .u8 (n + (3 : Nat)) (List.replicate (n + (3 : Nat)) (0 : Int))]⟩)]), (6, [.eqB 12 (⟨true, [.ints .u8 (n + (3 : Nat)) (rwB (987 : Int) (n + (3 : Nat)))]⟩)]), (10, [.eqB 12 (⟨true, [.ints .u8 (n + (3 : Nat)) (gvB n b)]⟩)]), (11, [.eqB 15 (⟨true, [.ints .u8 (n + (3 : Nat)) (gvB n b)]⟩)])]) (fuel := 0) (m := 61) (c := (Try.f15.body.getD .skip)) mix tabOkKB gam35_ok rfl (rs := [.tmp 4]) rfl rfl [false, false] [.swap 12 14, .swap 13 17] 16
    (vc := [(((0 : Int) ≤ (0 : Int)) ∧ ((0 : Int) ≤ ((n : Nat) : Int)) ∧ (((n : Nat) : Int) ≤ (((n + (3 : Nat)) : Nat) : Int))), ((some ⟨true, [.ints .u8 (n + (3 : Nat)) (copyB (n + (3 : Nat)) (sub (gvB n b) (0 : Nat) (n + (3 : Nat))))]⟩ : Option Blk) = some ⟨true, [.ints .u8 (n + (3 : Nat)) (gvB n b)]⟩), ((((0 : Nat) = (0 : Nat)) ∧ (q = (k_ + (4 : Nat)))) ∧ (((1 : Nat) ≤ (1 : Nat)) ∧ True) ∧ (((q + (1 : Nat)) * (24 : Nat)) ≤ (140737488355328 : Nat))), (((((0 : Nat) + (n + (3 : Nat))) ≤ (n + (3 : Nat))) ∧ True) ∧ (((n + (3 : Nat)) = (n + (3 : Nat))) ∧ ((n + (3 : Nat)) < (35184372088832 : Nat)))), ((some ⟨true, [.ints .u8 (n + (3 : Nat)) (cpB b (rwB (987 : Int) (n + (3 : Nat))) n)]⟩ : Option Blk) = some ⟨true, [.ints .u8 (n + (3 : Nat)) (gvB n b)]⟩), ((((0 : Nat) = (0 : Nat)) ∧ (q = (k_ + (4 : Nat)))) ∧ (((1 : Nat) ≤ (1 : Nat)) ∧ True) ∧ (((q + (1 : Nat)) * (24 : Nat)) ≤ (140737488355328 : Nat))), (Run Try.prog ⟨w, rw, 12, β⟩ (.block 2 (.loop (loopB Try.f15 2))) (gv4B_mk q k_ L m0 m1 m2 m3 B0 B1 B2 B3 W D0 D1 D2 D3 n nm b cap11 0 ()) (To ⟨w, rw, 12, β⟩ .normal (gv4B_mk q k_ L m0 m1 m2 m3 B0 B1 B2 B3 W D0 D1 D2 D3 n nm b cap11 n (iter (gv4B_step) n ())))), ((some ⟨true, [.ints .u8 (n + (3 : Nat)) (mkP (List.replicate (n + (3 : Nat)) (0 : Int)) (987 : Int) (n + (3 : Nat)))]⟩ : Option Blk) = some ⟨true, [.ints .u8 (n + (3 : Nat)) (rwB (987 : Int) (n + (3 : Nat)))]⟩), (Run Try.prog ⟨w, rw, 12, β⟩ (.block 0 (.loop (loopB Try.f15 0))) (gv4A_mk q k_ L m0 m1 m2 m3 B0 B1 B2 B3 W D0 D1 D2 D3 n nm b cap11 0 ()) (To ⟨w, rw, 12, β⟩ .normal (gv4A_mk q k_ L m0 m1 m2 m3 B0 B1 B2 B3 W D0 D1 D2 D3 n nm b cap11 (n + (3 : Nat)) (iter (gv4A_step) (n + (3 : Nat)) ())))), ((some ⟨true, [.ints .u8 (Int.toNat (IntKind.i64.wrap (((n : Nat) : Int) + (3 : Int)))) (List.replicate (Int.toNat (IntKind.i64.wrap (((n : Nat) : Int) + (3 : Int)))) (0 : Int))]⟩ : Option Blk) = some ⟨true, [.ints .u8 (n + (3 : Nat)) (List.replicate (n + (3 : Nat)) (0 : Int))]⟩), ((.o (.a (.sl 12 0 (Int.toNat (IntKind.i64.wrap (((n : Nat) : Int) + (3 : Int)))) (Int.toNat (IntKind.i64.wrap (((n : Nat) : Int) + (3 : Int)))))) : AV) = .o (.a (.sl 12 0 (n + (3 : Nat)) (n + (3 : Nat))))), (((0 : Int) ≤ (IntKind.i64.wrap (((n : Nat) : Int) + (3 : Int)))) ∧ ((IntKind.i64.wrap (((n : Nat) : Int) + (3 : Int))) ≤ (IntKind.i64.wrap (((n : Nat) : Int) + (3 : Int)))) ∧ (((IntKind.i64.wrap (((n : Nat) : Int) + (3 : Int))) * (1 : Int)) ≤ (281474976710656 : Int)))]) (by kernel_rfl)
    (aC ⟨(by decide), (by first | omega | (simp (disch := omega) only [wrapI]; omega)), (by first | omega | (simp (disch := omega) only [wrapI]; omega))⟩ (aC ((by rw [show copyB (n + 3) (sub (gvB n b) 0 (n + 3)) = gvB n b from gv_copy (hl11_0.trans h0)])) (aC ⟨⟨rfl, h3⟩, ⟨(by decide), trivial⟩, (by first | omega | (simp (disch := omega) only [wrapI]; omega))⟩ (aC ⟨⟨(by first | omega | (simp (disch := omega) only [wrapI]; omega)), trivial⟩, ⟨rfl, (by first | omega | (simp (disch := omega) only [wrapI]; omega))⟩⟩ (aC (rfl) (aC ⟨⟨rfl, h3⟩, ⟨(by decide), trivial⟩, (by first | omega | (simp (disch := omega) only [wrapI]; omega))⟩ (aC (gv4B_loop q k_ L m0 m1 m2 m3 B0 B1 B2 B3 W D0 D1 D2 D3 n nm b cap11 h0 h1 h2 h3 hc11 hl2_0 hl3_0 hl4_0 hl5_0 hl7_0 hl8_0 hl9_0 hl10_0 hl11_0 w rw β ()) (aC ((by rw [mkP_all (by rw [List.length_replicate])])) (aC (gv4A_loop q k_ L m0 m1 m2 m3 B0 B1 B2 B3 W D0 D1 D2 D3 n nm b cap11 h0 h1 h2 h3 hc11 hl2_0 hl3_0 hl4_0 hl5_0 hl7_0 hl8_0 hl9_0 hl10_0 hl11_0 w rw β ()) (aC ((by rw [wrapI (by omega) (by omega), show Int.toNat (((n : Nat) : Int) + 3) = n + 3 from by omega])) (aC ((by rw [wrapI (by omega) (by omega), show Int.toNat (((n : Nat) : Int) + 3) = n + 3 from by omega])) (aC ⟨(by first | omega | (simp (disch := omega) only [wrapI]; omega)), (by first | omega | (simp (disch := omega) only [wrapI]; omega)), (by first | omega | (simp (disch := omega) only [wrapI]; omega))⟩ (AllP_nil)))))))))))))

theorem gv4_body (q k_ : Nat) (L : List Value) (m0 m1 m2 m3 : Nat) (B0 B1 B2 B3 : List Int) (W : List Value) (D0 D1 D2 D3 : List Int) (n nm : Nat) (b : List Int) (cap11 : Nat) (h0 : (nm = n)) (h1 : (n < (17592186044416 : Nat))) (h2 : (q < (2199023255552 : Nat))) (h3 : (q = (k_ + (4 : Nat)))) (w : World) (rw : List Nat) (β : Env) : Body Try.prog (tabOf tabKB) Try.f15 ⟨w, rw, 12, β⟩ [.o (.a (.p 0 0)), .o (.a (.sl 11 0 n cap11))] [some ⟨true, [.rs 1 0 q 1, .rs 6 0 q 1, .raw (.slice none 0 0), .raw (.slice none 0 0), .raw (.slice none 0 0), .raw (.slice none 0 0), .raw (.slice none 0 0), .raw (.slice none 0 0), .raw (.slice none 0 0), .raw (.slice none 0 0), .raw (.slice none 0 0), .raw (.slice none 0 0), .raw (.slice none 0 0), .raw (.slice none 0 0), .raw (.slice none 0 0), .raw (.slice none 0 0), .raw (.slice none 0 0), .raw (.slice none 0 0), .raw (.slice none 0 0), .raw (.slice none 0 0), .raw (.slice none 0 0), .raw (.slice none 0 0), .raw (.slice none 0 0), .raw (.slice none 0 0), .raw (.slice none 0 0), .raw (.slice none 0 0), .raw (.slice none 0 0), .raw (.slice none 0 0), .raw (.slice none 0 0), .raw (.slice none 0 0)]⟩, some ⟨true, [.vals k_ L, .sl 2 0 m0 m0, .sl 3 0 m1 m1, .sl 4 0 m2 m2, .sl 5 0 m3 m3]⟩, some ⟨true, [.ints .u8 m0 B0]⟩, some ⟨true, [.ints .u8 m1 B1]⟩, some ⟨true, [.ints .u8 m2 B2]⟩, some ⟨true, [.ints .u8 m3 B3]⟩, some ⟨true, [.vals k_ W, .rs 7 0 m0 1, .rs 8 0 m1 1, .rs 9 0 m2 1, .rs 10 0 m3 1]⟩, some ⟨true, [.ints .u8 m0 D0]⟩, some ⟨true, [.ints .u8 m1 D1]⟩, some ⟨true, [.ints .u8 m2 D2]⟩, some ⟨true, [.ints .u8 m3 D3]⟩, some ⟨false, [.ints .u8 nm b]⟩] (fun ys K' => ys = [.a (.sl 14 0 n (gv4 n))] ∧ K' = [some ⟨true, [.rs 12 0 (gv4_1 q) 1, .rs 13 0 (gv4_1 q) 1, .raw (.slice none 0 0), .raw (.slice none 0 0), .raw (.slice none 0 0), .raw (.slice none 0 0), .raw (.slice none 0 0), .raw (.slice none 0 0), .raw (.slice none 0 0), .raw (.slice none 0 0), .raw (.slice none 0 0), .raw (.slice none 0 0), .raw (.slice none 0 0), .raw (.slice none 0 0), .raw (.slice none 0 0), .raw (.slice none 0 0), .raw (.slice none 0 0), .raw (.slice none 0 0), .raw (.slice none 0 0), .raw (.slice none 0 0), .raw (.slice none 0 0), .raw (.slice none 0 0), .raw (.slice none 0 0), .raw (.slice none 0 0), .raw (.slice none 0 0), .raw (.slice none 0 0), .raw (.slice none 0 0), .raw (.slice none 0 0), .raw (.slice none 0 0), .raw (.slice none 0 0)]⟩, none, some ⟨true, [.ints .u8 m0 B0]⟩, some ⟨true, [.ints .u8 m1 B1]⟩, some ⟨true, [.ints .u8 m2 B2]⟩, some ⟨true, [.ints .u8 m3 B3]⟩, none, some ⟨true, [.ints .u8 m0 D0]⟩, some ⟨true, [.ints .u8 m1 D1]⟩, some ⟨true, [.ints .u8 m2 D2]⟩, some ⟨true, [.ints .u8 m3 D3]⟩, some ⟨false, [.ints .u8 nm b]⟩, some ⟨true, [.vals k_ L, .sl 2 0 m0 m0, .sl 3 0 m1 m1, .sl 4 0 m2 m2, .sl 5 0 m3 m3, .sl 14 0 (gv4 n) (gv4 n)]⟩, some ⟨true, [.vals k_ W, .rs 7 0 m0 1, .rs 8 0 m1 1, .rs 9 0 m2 1, .rs 10 0 m3 1, .rs 15 0 (gv4 n) 1]⟩, some ⟨true, [.ints .u8 (gv4 n) (gvB n b)]⟩, some ⟨true, [.ints .u8 (gv4 n) (gvB n b)]⟩]) :=
  Body.lens (c := (Try.f15.body.getD .skip)) rfl fun h => gv4_body0 q k_ L m0 m1 m2 m3 B0 B1 B2 B3 W D0 D1 D2 D3 n nm b cap11 h0 h1 h2 h3 (h.caps 1 _ _ _ _ rfl) (h.lens 2 _ .u8 m0 B0 rfl (by simp)) (h.lens 3 _ .u8 m1 B1 rfl (by simp)) (h.lens 4 _ .u8 m2 B2 rfl (by simp)) (h.lens 5 _ .u8 m3 B3 rfl (by simp)) (h.lens 7 _ .u8 m0 D0 rfl (by simp)) (h.lens 8 _ .u8 m1 D1 rfl (by simp)) (h.lens 9 _ .u8 m2 D2 rfl (by simp)) (h.lens 10 _ .u8 m3 D3 rfl (by simp)) (h.lens 11 _ .u8 nm b rfl (by simp)) w rw β

end Go.Proofs.Ytlmdhjojinkdbaa.X

/- Printed by a tool of this session. -/
namespace Go.Proofs.Ytlmdhjojinkdbaa.X
open Go Go.Proofs
set_option linter.unusedVariables false
set_option linter.unusedSimpArgs false
set_option maxRecDepth 100000
theorem teKC_22 : TEOk Try.prog 22 ⟨.slice 5, 1, 24, [.raw (.slice none 0 0)], false⟩ :=
  TEOk.of Try.underlying22 (i := Try.t22) (by kernel_rfl) rfl rfl rfl (by kernel_rfl) (fun h => by cases h) (by kernel_rfl)
theorem teKC_23 : TEOk Try.prog 23 ⟨.slice 22, 1, 24, [.raw (.slice none 0 0)], false⟩ :=
  TEOk.of Try.underlying23 (i := Try.t23) (by kernel_rfl) rfl rfl rfl (by kernel_rfl) (fun h => by cases h) (by kernel_rfl)
theorem teKC_35 : TEOk Try.prog 35 ⟨.slice 92, 1, 24, [.raw (.slice none 0 0)], false⟩ :=
  TEOk.of Try.underlying35 (i := Try.t35) (by kernel_rfl) rfl rfl rfl (by kernel_rfl) (fun h => by cases h) (by kernel_rfl)
theorem teKC_36 : TEOk Try.prog 36 ⟨.slice 108, 1, 24, [.raw (.slice none 0 0)], false⟩ :=
  TEOk.of Try.underlying36 (i := Try.t36) (by kernel_rfl) rfl rfl rfl (by kernel_rfl) (fun h => by cases h) (by kernel_rfl)
theorem teKC_37 : TEOk Try.prog 37 ⟨.slice 110, 1, 24, [.raw (.slice none 0 0)], false⟩ :=
  TEOk.of Try.underlying37 (i := Try.t37) (by kernel_rfl) rfl rfl rfl (by kernel_rfl) (fun h => by cases h) (by kernel_rfl)
theorem teKC_38 : TEOk Try.prog 38 ⟨.slice 95, 1, 24, [.raw (.slice none 0 0)], false⟩ :=
  TEOk.of Try.underlying38 (i := Try.t38) (by kernel_rfl) rfl rfl rfl (by kernel_rfl) (fun h => by cases h) (by kernel_rfl)
theorem teKC_39 : TEOk Try.prog 39 ⟨.slice 113, 1, 24, [.raw (.slice none 0 0)], false⟩ :=
  TEOk.of Try.underlying39 (i := Try.t39) (by kernel_rfl) rfl rfl rfl (by kernel_rfl) (fun h => by cases h) (by kernel_rfl)
theorem teKC_40 : TEOk Try.prog 40 ⟨.slice 91, 1, 24, [.raw (.slice none 0 0)], false⟩ :=
  TEOk.of Try.underlying40 (i := Try.t40) (by kernel_rfl) rfl rfl rfl (by kernel_rfl) (fun h => by cases h) (by kernel_rfl)
theorem teKC_41 : TEOk Try.prog 41 ⟨.slice 116, 1, 24, [.raw (.slice none 0 0)], false⟩ :=
  TEOk.of Try.underlying41 (i := Try.t41) (by kernel_rfl) rfl rfl rfl (by kernel_rfl) (fun h => by cases h) (by kernel_rfl)
theorem teKC_42 : TEOk Try.prog 42 ⟨.slice 118, 1, 24, [.raw (.slice none 0 0)], false⟩ :=
  TEOk.of Try.underlying42 (i := Try.t42) (by kernel_rfl) rfl rfl rfl (by kernel_rfl) (fun h => by cases h) (by kernel_rfl)
theorem teKC_43 : TEOk Try.prog 43 ⟨.slice 120, 1, 24, [.raw (.slice none 0 0)], false⟩ :=
  TEOk.of Try.underlying43 (i := Try.t43) (by kernel_rfl) rfl rfl rfl (by kernel_rfl) (fun h => by cases h) (by kernel_rfl)
theorem teKC_44 : TEOk Try.prog 44 ⟨.slice 122, 1, 24, [.raw (.slice none 0 0)], false⟩ :=
  TEOk.of Try.underlying44 (i := Try.t44) (by kernel_rfl) rfl rfl rfl (by kernel_rfl) (fun h => by cases h) (by kernel_rfl)
theorem teKC_45 : TEOk Try.prog 45 ⟨.slice 124, 1, 24, [.raw (.slice none 0 0)], false⟩ :=
  TEOk.of Try.underlying45 (i := Try.t45) (by kernel_rfl) rfl rfl rfl (by kernel_rfl) (fun h => by cases h) (by kernel_rfl)
theorem teKC_46 : TEOk Try.prog 46 ⟨.slice 126, 1, 24, [.raw (.slice none 0 0)], false⟩ :=
  TEOk.of Try.underlying46 (i := Try.t46) (by kernel_rfl) rfl rfl rfl (by kernel_rfl) (fun h => by cases h) (by kernel_rfl)
theorem teKC_47 : TEOk Try.prog 47 ⟨.slice 128, 1, 24, [.raw (.slice none 0 0)], false⟩ :=
  TEOk.of Try.underlying47 (i := Try.t47) (by kernel_rfl) rfl rfl rfl (by kernel_rfl) (fun h => by cases h) (by kernel_rfl)
theorem teKC_48 : TEOk Try.prog 48 ⟨.slice 130, 1, 24, [.raw (.slice none 0 0)], false⟩ :=
  TEOk.of Try.underlying48 (i := Try.t48) (by kernel_rfl) rfl rfl rfl (by kernel_rfl) (fun h => by cases h) (by kernel_rfl)
theorem teKC_50 : TEOk Try.prog 50 ⟨Try.t49.desc, 30, 720, [.raw (.slice none 0 0), .raw (.slice none 0 0), .raw (.slice none 0 0), .raw (.slice none 0 0), .raw (.slice none 0 0), .raw (.slice none 0 0), .raw (.slice none 0 0), .raw (.slice none 0 0), .raw (.slice none 0 0), .raw (.slice none 0 0), .raw (.slice none 0 0), .raw (.slice none 0 0), .raw (.slice none 0 0), .raw (.slice none 0 0), .raw (.slice none 0 0), .raw (.slice none 0 0), .raw (.slice none 0 0), .raw (.slice none 0 0), .raw (.slice none 0 0), .raw (.slice none 0 0), .raw (.slice none 0 0), .raw (.slice none 0 0), .raw (.slice none 0 0), .raw (.slice none 0 0), .raw (.slice none 0 0), .raw (.slice none 0 0), .raw (.slice none 0 0), .raw (.slice none 0 0), .raw (.slice none 0 0), .raw (.slice none 0 0)], false⟩ :=
  TEOk.of Try.underlying50 (i := Try.t50) (by kernel_rfl) rfl rfl rfl (by kernel_rfl) (fun h => by cases h) (by kernel_rfl)
noncomputable def tabKC : List (Nat × TE) := [(22, ⟨.slice 5, 1, 24, [.raw (.slice none 0 0)], false⟩), (23, ⟨.slice 22, 1, 24, [.raw (.slice none 0 0)], false⟩), (35, ⟨.slice 92, 1, 24, [.raw (.slice none 0 0)], false⟩), (36, ⟨.slice 108, 1, 24, [.raw (.slice none 0 0)], false⟩), (37, ⟨.slice 110, 1, 24, [.raw (.slice none 0 0)], false⟩), (38, ⟨.slice 95, 1, 24, [.raw (.slice none 0 0)], false⟩), (39, ⟨.slice 113, 1, 24, [.raw (.slice none 0 0)], false⟩), (40, ⟨.slice 91, 1, 24, [.raw (.slice none 0 0)], false⟩), (41, ⟨.slice 116, 1, 24, [.raw (.slice none 0 0)], false⟩), (42, ⟨.slice 118, 1, 24, [.raw (.slice none 0 0)], false⟩), (43, ⟨.slice 120, 1, 24, [.raw (.slice none 0 0)], false⟩), (44, ⟨.slice 122, 1, 24, [.raw (.slice none 0 0)], false⟩), (45, ⟨.slice 124, 1, 24, [.raw (.slice none 0 0)], false⟩), (46, ⟨.slice 126, 1, 24, [.raw (.slice none 0 0)], false⟩), (47, ⟨.slice 128, 1, 24, [.raw (.slice none 0 0)], false⟩), (48, ⟨.slice 130, 1, 24, [.raw (.slice none 0 0)], false⟩), (50, ⟨Try.t49.desc, 30, 720, [.raw (.slice none 0 0), .raw (.slice none 0 0), .raw (.slice none 0 0), .raw (.slice none 0 0), .raw (.slice none 0 0), .raw (.slice none 0 0), .raw (.slice none 0 0), .raw (.slice none 0 0), .raw (.slice none 0 0), .raw (.slice none 0 0), .raw (.slice none 0 0), .raw (.slice none 0 0), .raw (.slice none 0 0), .raw (.slice none 0 0), .raw (.slice none 0 0), .raw (.slice none 0 0), .raw (.slice none 0 0), .raw (.slice none 0 0), .raw (.slice none 0 0), .raw (.slice none 0 0), .raw (.slice none 0 0), .raw (.slice none 0 0), .raw (.slice none 0 0), .raw (.slice none 0 0), .raw (.slice none 0 0), .raw (.slice none 0 0), .raw (.slice none 0 0), .raw (.slice none 0 0), .raw (.slice none 0 0), .raw (.slice none 0 0)], false⟩)]
theorem tabOkKC : TabOk Try.prog (tabOf tabKC) := (tabOf_cons teKC_22 (tabOf_cons teKC_23 (tabOf_cons teKC_35 (tabOf_cons teKC_36 (tabOf_cons teKC_37 (tabOf_cons teKC_38 (tabOf_cons teKC_39 (tabOf_cons teKC_40 (tabOf_cons teKC_41 (tabOf_cons teKC_42 (tabOf_cons teKC_43 (tabOf_cons teKC_44 (tabOf_cons teKC_45 (tabOf_cons teKC_46 (tabOf_cons teKC_47 (tabOf_cons teKC_48 (tabOf_cons teKC_50 tabOf_nil)))))))))))))))))

def itL_mk (w : World) (q capL capW : Nat) (L W : List Value) (k : Nat) (s : Unit) : St := ⟨sparse 393 [(0, .o (.a (.p 0 0))), (3, .o (.a (.i .i64 ((k : Nat) : Int))))], [some ⟨false, [.sl 1 0 q capL, .sl 2 0 q capW, .raw (.slice none 0 0), .raw (.slice none 0 0), .raw (.slice none 0 0), .raw (.slice none 0 0), .raw (.slice none 0 0), .raw (.slice none 0 0), .raw (.slice none 0 0), .raw (.slice none 0 0), .raw (.slice none 0 0), .raw (.slice none 0 0), .raw (.slice none 0 0), .raw (.slice none 0 0), .raw (.slice none 0 0), .raw (.slice none 0 0), .raw (.slice none 0 0), .raw (.slice none 0 0), .raw (.slice none 0 0), .raw (.slice none 0 0), .raw (.slice none 0 0), .raw (.slice none 0 0), .raw (.slice none 0 0), .raw (.slice none 0 0), .raw (.slice none 0 0), .raw (.slice none 0 0), .raw (.slice none 0 0), .raw (.slice none 0 0), .raw (.slice none 0 0), .raw (.slice none 0 0)]⟩, some ⟨false, [.vals q L]⟩, some ⟨false, [.vals q W]⟩]⟩

def itL_step (k : Nat) (s : Unit) : Unit :=
  ()

set_option maxHeartbeats 1000000 in
theorem itL_round (w : World) (q capL capW : Nat) (L W : List Value) (h0 : (q < (70368744177664 : Nat))) (β : Env) (hL : ∀ k, k < q → ∀ (t : Nat) (β : Env), ImpOk ⟨w, [], t, β⟩ (List.getD L k undef) .u8 (lenV (List.getD L k undef)) (capV (List.getD L k undef)) (contV w (List.getD L k undef))) (hW : ∀ k, k < q → ∀ (t : Nat) (β : Env), ImpOk ⟨w, [], t, β⟩ (List.getD W k undef) .u8 (lenV (List.getD W k undef)) (capV (List.getD W k undef)) (contV w (List.getD W k undef))) (heq : ∀ k, k < q → contV w (List.getD L k undef) = contV w (List.getD W k undef)) (hlen : ∀ k, k < q → lenV (List.getD L k undef) = lenV (List.getD W k undef)) (hsm : ∀ k, k < q → lenV (List.getD L k undef) < 70368744177664) (k : Nat) (hk : k < q) (s : Unit) : Run Try.prog ⟨w, [], 3, β⟩ (loopB Try.f20 0) (itL_mk w q capL capW L W k s) (To ⟨w, [], 3, β⟩ .normal (itL_mk w q capL capW L W (k + 1) (itL_step k s))) := by
  have e0 : (IntKind.i64.wrap (((k : Nat) : Int) + (1 : Int))) = (((k + (1 : Nat)) : Nat) : Int) := (by first | rfl | exact wrap_succ (by omega) | omega | (simp (disch := omega) only [wrapI]; omega))
  have h := Run.of_outTAt (B := ⟨w, [], 3, β⟩) (Λ := noLam) (Ψ := noPsi) (fuel := 0) (ora := [true, false]) (c := (loopB Try.f20 0)) (st := (itL_mk w q capL capW L W k s)) (l := [.forget [0, 3] 3]) (s' := ⟨sparse 393 [(0, .o (.a (.p 0 0))), (3, .o (.a (.i .i64 (IntKind.i64.wrap (((k : Nat) : Int) + (1 : Int))))))], [some ⟨false, [.sl 1 0 q capL, .sl 2 0 q capW, .raw (.slice none 0 0), .raw (.slice none 0 0), .raw (.slice none 0 0), .raw (.slice none 0 0), .raw (.slice none 0 0), .raw (.slice none 0 0), .raw (.slice none 0 0), .raw (.slice none 0 0), .raw (.slice none 0 0), .raw (.slice none 0 0), .raw (.slice none 0 0), .raw (.slice none 0 0), .raw (.slice none 0 0), .raw (.slice none 0 0), .raw (.slice none 0 0), .raw (.slice none 0 0), .raw (.slice none 0 0), .raw (.slice none 0 0), .raw (.slice none 0 0), .raw (.slice none 0 0), .raw (.slice none 0 0), .raw (.slice none 0 0), .raw (.slice none 0 0), .raw (.slice none 0 0), .raw (.slice none 0 0), .raw (.slice none 0 0), .raw (.slice none 0 0), .raw (.slice none 0 0)]⟩, some ⟨false, [.vals q L]⟩, some ⟨false, [.vals q W]⟩]⟩) (ex := .normal) mix tabOkKC (gimp_ok (t := 22) (mk := mkS ⟨w, [], 3, β⟩ .u8) (gam26_ok.at _ _) fun v m => mkS_ok v m)
    (vc := [(false = false), (((((0 : Nat) + (lenV (List.getD L k undef))) ≤ (lenV (List.getD L k undef))) ∧ ((((0 : Nat) + (lenV (List.getD W k undef))) ≤ (lenV (List.getD W k undef))) ∧ True)) ∧ (((lenV (List.getD L k undef)) = (lenV (List.getD L k undef))) ∧ ((lenV (List.getD W k undef)) = (lenV (List.getD W k undef))) ∧ ((lenV (List.getD W k undef)) = (lenV (List.getD L k undef))) ∧ ((sub (contV w (List.getD L k undef)) (0 : Nat) (lenV (List.getD L k undef))) = (sub (contV w (List.getD W k undef)) (0 : Nat) (lenV (List.getD W k undef)))) ∧ ((lenV (List.getD L k undef)) < (70368744177664 : Nat)))), ((k < q) ∧ (ImpOk ⟨w, [], 3, β⟩ (List.getD W k undef) .u8 (lenV (List.getD W k undef)) (capV (List.getD W k undef)) (contV w (List.getD W k undef)))), (((0 : Int) ≤ ((k : Nat) : Int)) ∧ (((k : Nat) : Int) < ((q : Nat) : Int))), ((k < q) ∧ (ImpOk ⟨w, [], 3, β⟩ (List.getD L k undef) .u8 (lenV (List.getD L k undef)) (capV (List.getD L k undef)) (contV w (List.getD L k undef)))), (((0 : Int) ≤ ((k : Nat) : Int)) ∧ (((k : Nat) : Int) < ((q : Nat) : Int))), ((decide (((k : Nat) : Int) < ((q : Nat) : Int))) = true)]) (by kernel_rfl)
    (aC rfl (aC ⟨⟨(by rw [Nat.zero_add]; exact Nat.le_refl _), ⟨(by rw [Nat.zero_add]; exact Nat.le_refl _), trivial⟩⟩, ⟨rfl, rfl, (by rw [hlen k hk]), (by rw [heq k hk, hlen k hk]), (hsm k hk)⟩⟩ (aC ⟨(by first | omega | (simp (disch := omega) only [wrapI]; omega)), ((hW k hk _ _))⟩ (aC ⟨(by first | omega | (simp (disch := omega) only [wrapI]; omega)), (by first | omega | (simp (disch := omega) only [wrapI]; omega))⟩ (aC ⟨(by first | omega | (simp (disch := omega) only [wrapI]; omega)), ((hL k hk _ _))⟩ (aC ⟨(by first | omega | (simp (disch := omega) only [wrapI]; omega)), (by first | omega | (simp (disch := omega) only [wrapI]; omega))⟩ (aC (decide_eq_true (by first | omega | (simp (disch := omega) only [wrapI]; omega))) (AllP_nil))))))))
  rw [e0] at h
  exact h

set_option maxHeartbeats 1000000 in
theorem itL_last (w : World) (q capL capW : Nat) (L W : List Value) (h0 : (q < (70368744177664 : Nat))) (β : Env) (hL : ∀ k, k < q → ∀ (t : Nat) (β : Env), ImpOk ⟨w, [], t, β⟩ (List.getD L k undef) .u8 (lenV (List.getD L k undef)) (capV (List.getD L k undef)) (contV w (List.getD L k undef))) (hW : ∀ k, k < q → ∀ (t : Nat) (β : Env), ImpOk ⟨w, [], t, β⟩ (List.getD W k undef) .u8 (lenV (List.getD W k undef)) (capV (List.getD W k undef)) (contV w (List.getD W k undef))) (heq : ∀ k, k < q → contV w (List.getD L k undef) = contV w (List.getD W k undef)) (hlen : ∀ k, k < q → lenV (List.getD L k undef) = lenV (List.getD W k undef)) (hsm : ∀ k, k < q → lenV (List.getD L k undef) < 70368744177664) (s : Unit) : Run Try.prog ⟨w, [], 3, β⟩ (loopB Try.f20 0) (itL_mk w q capL capW L W q s) (To ⟨w, [], 3, β⟩ (.exit 0) (itL_mk w q capL capW L W q s)) :=
  Run.of_outTAt (B := ⟨w, [], 3, β⟩) (Λ := noLam) (Ψ := noPsi) (fuel := 0) (ora := [false]) (l := [.forget [0, 3] 3]) mix tabOkKC (gimp_ok (t := 22) (mk := mkS ⟨w, [], 3, β⟩ .u8) (gam26_ok.at _ _) fun v m => mkS_ok v m)
    (vc := [((decide (((q : Nat) : Int) < ((q : Nat) : Int))) = false)]) (by kernel_rfl)
    (aC (decide_eq_false (by omega)) (AllP_nil))

theorem itL_loop (w : World) (q capL capW : Nat) (L W : List Value) (h0 : (q < (70368744177664 : Nat))) (β : Env) (hL : ∀ k, k < q → ∀ (t : Nat) (β : Env), ImpOk ⟨w, [], t, β⟩ (List.getD L k undef) .u8 (lenV (List.getD L k undef)) (capV (List.getD L k undef)) (contV w (List.getD L k undef))) (hW : ∀ k, k < q → ∀ (t : Nat) (β : Env), ImpOk ⟨w, [], t, β⟩ (List.getD W k undef) .u8 (lenV (List.getD W k undef)) (capV (List.getD W k undef)) (contV w (List.getD W k undef))) (heq : ∀ k, k < q → contV w (List.getD L k undef) = contV w (List.getD W k undef)) (hlen : ∀ k, k < q → lenV (List.getD L k undef) = lenV (List.getD W k undef)) (hsm : ∀ k, k < q → lenV (List.getD L k undef) < 70368744177664) (s : Unit) : Run Try.prog ⟨w, [], 3, β⟩ (.block 0 (.loop (loopB Try.f20 0))) (itL_mk w q capL capW L W 0 s) (To ⟨w, [], 3, β⟩ .normal (itL_mk w q capL capW L W q (iter (itL_step) q s))) :=
  Run.count (fun k => itL_mk w q capL capW L W k (iter (itL_step) k s)) q (fun k hk => itL_round w q capL capW L W h0 β hL hW heq hlen hsm k hk _) (ex := (.exit 0)) (by simp) (itL_last w q capL capW L W h0 β hL hW heq hlen hsm _)

set_option maxHeartbeats 1000000 in
theorem intact_body0 (w : World) (q capL capW : Nat) (L W : List Value) (h0 : (q < (70368744177664 : Nat))) (β : Env) (hL : ∀ k, k < q → ∀ (t : Nat) (β : Env), ImpOk ⟨w, [], t, β⟩ (List.getD L k undef) .u8 (lenV (List.getD L k undef)) (capV (List.getD L k undef)) (contV w (List.getD L k undef))) (hW : ∀ k, k < q → ∀ (t : Nat) (β : Env), ImpOk ⟨w, [], t, β⟩ (List.getD W k undef) .u8 (lenV (List.getD W k undef)) (capV (List.getD W k undef)) (contV w (List.getD W k undef))) (heq : ∀ k, k < q → contV w (List.getD L k undef) = contV w (List.getD W k undef)) (hlen : ∀ k, k < q → lenV (List.getD L k undef) = lenV (List.getD W k undef)) (hsm : ∀ k, k < q → lenV (List.getD L k undef) < 70368744177664) : Body Try.prog (tabOf tabKC) Try.f20 ⟨w, [], 3, β⟩ [.o (.a (.p 0 0))] [some ⟨false, [.sl 1 0 q capL, .sl 2 0 q capW, .raw (.slice none 0 0), .raw (.slice none 0 0), .raw (.slice none 0 0), .raw (.slice none 0 0), .raw (.slice none 0 0), .raw (.slice none 0 0), .raw (.slice none 0 0), .raw (.slice none 0 0), .raw (.slice none 0 0), .raw (.slice none 0 0), .raw (.slice none 0 0), .raw (.slice none 0 0), .raw (.slice none 0 0), .raw (.slice none 0 0), .raw (.slice none 0 0), .raw (.slice none 0 0), .raw (.slice none 0 0), .raw (.slice none 0 0), .raw (.slice none 0 0), .raw (.slice none 0 0), .raw (.slice none 0 0), .raw (.slice none 0 0), .raw (.slice none 0 0), .raw (.slice none 0 0), .raw (.slice none 0 0), .raw (.slice none 0 0), .raw (.slice none 0 0), .raw (.slice none 0 0)]⟩, some ⟨false, [.vals q L]⟩, some ⟨false, [.vals q W]⟩] (fun ys _ => ys = [.a (.b true)]) :=
  Body.of_finAt (Γ := (gimp 22 (mkS ⟨w, [], 3, β⟩ .u8) gam26)) (Λ := lamOf [(0, ⟨[.forget [0, 3] 3], .normal, (itL_mk w q capL capW L W q (iter (itL_step) q ()))⟩)]) (Ψ := noPsi) (fuel := 1) (m := 393) (c := (Try.f20.body.getD .skip)) mix tabOkKC (gimp_ok (t := 22) (mk := mkS ⟨w, [], 3, β⟩ .u8) (gam26_ok.at _ _) fun v m => mkS_ok v m) rfl (rs := [.tmp 2]) rfl rfl [false, false, false, false, false, false, false, false, false, false, false, false, false, false] []
    (vc := [(false = false), (false = false), (false = false), (false = false), (false = false), (false = false), (false = false), (false = false), (false = false), (false = false), (false = false), (false = false), (false = false), (false = false), (Run Try.prog ⟨w, [], 3, β⟩ (.block 0 (.loop (loopB Try.f20 0))) (itL_mk w q capL capW L W 0 ()) (To ⟨w, [], 3, β⟩ .normal (itL_mk w q capL capW L W q (iter (itL_step) q ()))))]) (by kernel_rfl)
    (aC rfl (aC rfl (aC rfl (aC rfl (aC rfl (aC rfl (aC rfl (aC rfl (aC rfl (aC rfl (aC rfl (aC rfl (aC rfl (aC rfl (aC (itL_loop w q capL capW L W h0 β hL hW heq hlen hsm ()) (AllP_nil))))))))))))))))

end Go.Proofs.Ytlmdhjojinkdbaa.X

