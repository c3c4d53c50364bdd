/- Texts of this session, put together (part 5), less what nothing uses. -/
import Derived.Test.YtcpoldghkiiggaaZinv4
import Derived.KernelRfl
import Derived.WalkKit
import Derived.ProofKit
import Derived.OpenShut
import Derived.JoinedCond
import Derived.Carry
import Derived.Test.YtcpoldghkiiggaaRows
/- Printed by a tool of this session. -/
namespace Go.Proofs.Ytcpoldghkiiggaa.X
open Go Go.Proofs
set_option linter.unusedVariables false
set_option linter.unusedSimpArgs false
set_option maxRecDepth 100000
theorem teQN_3 : TEOk Try.prog 3 ⟨.int .i64, 1, 8, [.i .i64 (0 : Int)], false⟩ :=
  TEOk.of Try.underlying3 (i := Try.t3) (by kernel_rfl) rfl rfl rfl (by kernel_rfl) (fun h => by cases h) (by kernel_rfl)
theorem teQN_5 : TEOk Try.prog 5 ⟨.int .u8, 1, 1, [.i .u8 (0 : Int)], false⟩ :=
  TEOk.of Try.underlying5 (i := Try.t5) (by kernel_rfl) rfl rfl rfl (by kernel_rfl) (fun h => by cases h) (by kernel_rfl)
theorem teQN_22 : TEOk Try.prog 22 ⟨.slice 5, 1, 24, [.raw (.slice none 0 0)], false⟩ :=
  TEOk.of Try.underlying22 (i := Try.t22) (by kernel_rfl) rfl rfl rfl (by kernel_rfl) (fun h => by cases h) (by kernel_rfl)
theorem teQN_24 : TEOk Try.prog 24 ⟨.array 32 5, 32, 32, [.ints .u8 (32 : Nat) ([0, 0, 0, 0, 0, 0, 0, 0, 0, 0, 0, 0, 0, 0, 0, 0, 0, 0, 0, 0, 0, 0, 0, 0, 0, 0, 0, 0, 0, 0, 0, 0] : List Int)], true⟩ :=
  TEOk.of Try.underlying24 (i := Try.t24) (by kernel_rfl) rfl rfl rfl (by kernel_rfl) (fun _ => Try.eqGuardType24) (by kernel_rfl)
theorem teQN_25 : TEOk Try.prog 25 ⟨.int .u64, 1, 8, [.i .u64 (0 : Int)], false⟩ :=
  TEOk.of Try.underlying25 (i := Try.t25) (by kernel_rfl) rfl rfl rfl (by kernel_rfl) (fun h => by cases h) (by kernel_rfl)
theorem teQN_62 : TEOk Try.prog 62 ⟨.int .u64, 1, 8, [.i .u64 (0 : Int)], false⟩ :=
  TEOk.of Try.underlying62 (i := Try.t62) (by kernel_rfl) rfl rfl rfl (by kernel_rfl) (fun h => by cases h) (by kernel_rfl)
theorem teQN_104 : TEOk Try.prog 104 ⟨.array 4 25, 4, 32, [.ints .u64 (4 : Nat) ([0, 0, 0, 0] : List Int)], true⟩ :=
  TEOk.of Try.underlying104 (i := Try.t104) (by kernel_rfl) rfl rfl rfl (by kernel_rfl) (fun _ => Try.eqGuardType104) (by kernel_rfl)
theorem teQN_109 : TEOk Try.prog 109 ⟨.int .u32, 1, 4, [.i .u32 (0 : Int)], false⟩ :=
  TEOk.of Try.underlying109 (i := Try.t109) (by kernel_rfl) rfl rfl rfl (by kernel_rfl) (fun h => by cases h) (by kernel_rfl)
theorem teQN_113 : TEOk Try.prog 113 ⟨.slice 109, 1, 24, [.raw (.slice none 0 0)], false⟩ :=
  TEOk.of Try.underlying113 (i := Try.t113) (by kernel_rfl) rfl rfl rfl (by kernel_rfl) (fun h => by cases h) (by kernel_rfl)
noncomputable def tabQN : List (Nat × TE) := [(3, ⟨.int .i64, 1, 8, [.i .i64 (0 : Int)], false⟩), (5, ⟨.int .u8, 1, 1, [.i .u8 (0 : Int)], false⟩), (22, ⟨.slice 5, 1, 24, [.raw (.slice none 0 0)], false⟩), (24, ⟨.array 32 5, 32, 32, [.ints .u8 (32 : Nat) ([0, 0, 0, 0, 0, 0, 0, 0, 0, 0, 0, 0, 0, 0, 0, 0, 0, 0, 0, 0, 0, 0, 0, 0, 0, 0, 0, 0, 0, 0, 0, 0] : List Int)], true⟩), (25, ⟨.int .u64, 1, 8, [.i .u64 (0 : Int)], false⟩), (62, ⟨.int .u64, 1, 8, [.i .u64 (0 : Int)], false⟩), (104, ⟨.array 4 25, 4, 32, [.ints .u64 (4 : Nat) ([0, 0, 0, 0] : List Int)], true⟩), (109, ⟨.int .u32, 1, 4, [.i .u32 (0 : Int)], false⟩), (113, ⟨.slice 109, 1, 24, [.raw (.slice none 0 0)], false⟩)]
theorem tabOkQN : TabOk Try.prog (tabOf tabQN) := (tabOf_cons teQN_3 (tabOf_cons teQN_5 (tabOf_cons teQN_22 (tabOf_cons teQN_24 (tabOf_cons teQN_25 (tabOf_cons teQN_62 (tabOf_cons teQN_104 (tabOf_cons teQN_109 (tabOf_cons teQN_113 tabOf_nil)))))))))

theorem tim_num_pure (S : List Int) (T : List Int) (h0 : (Wds S)) (h1 : (Wds T)) (h2 : (LtL T)) : PureC Try.prog 73 [.g [.ints .u64 (4 : Nat) S], .g [.ints .u64 (4 : Nat) T]] [.g [.ints .u64 (4 : Nat) (W4 (modL ((V4 S) * (V4 T))))]] :=
  PureC.of_body tabOkNT Try.func73 rfl rfl fun w => tim_num S T h0 h1 h2 w

def gam66 : Gam := gpure 73 (fun args => match args with | [.o (.g [.ints .u64 (4 : Nat) S]), .o (.g [.ints .u64 (4 : Nat) T])] => some (some ((Wds S) ∧ (Wds T) ∧ (LtL T)), [.g [.ints .u64 (4 : Nat) (W4 (modL ((V4 S) * (V4 T))))]]) | _ => none) gam65
theorem gam66_ok : GamOk Try.prog gam66 := gpure_ok gam65_ok Try.call73 (by
  intro args vc xs h hv
  split at h
  · simp only [Option.some.injEq, Prod.mk.injEq] at h; obtain ⟨rfl, rfl⟩ := h; exact ⟨_, by rfl, tim_num_pure _ _ hv.1 hv.2.1 hv.2.2⟩
  · simp at h)

def dgL_mk (n : Nat) (nm : Nat) (b : List Int) (cap0 : Nat) (k : Nat) (s : (List Int)) : St := ⟨sparse 37 [(0, .o (.a (.sl 0 (0 : Nat) n cap0))), (2, .o (.a (.raw (.slice none 0 0)))), (3, .o (.a (.sl 1 (0 : Nat) ((n + (3 : Nat)) / (4 : Nat)) ((n + (3 : Nat)) / (4 : Nat))))), (4, .o (.a (.i .i64 ((k : Nat) : Int)))), (5, .o (.a (.sl 0 (0 : Nat) n cap0))), (6, .o (.a (.i .i64 ((n : Nat) : Int)))), (7, .o (.a (.i .i64 (IntKind.i64.wrap (((n : Nat) : Int) + (3 : Int)))))), (8, .o (.a (.i .i64 (IntKind.i64.wrap (Int.tdiv (IntKind.i64.wrap (((n : Nat) : Int) + (3 : Int))) (4 : Int)))))), (9, .o (.a (.sl 1 (0 : Nat) (Int.toNat (IntKind.i64.wrap (Int.tdiv (IntKind.i64.wrap (((n : Nat) : Int) + (3 : Int))) (4 : Int)))) (Int.toNat (IntKind.i64.wrap (Int.tdiv (IntKind.i64.wrap (((n : Nat) : Int) + (3 : Int))) (4 : Int)))))))], [some ⟨false, [.ints .u8 nm b]⟩, some ⟨true, [.ints .u32 ((n + (3 : Nat)) / (4 : Nat)) s]⟩]⟩

def dgL_step (b : List Int) (k : Nat) (s : (List Int)) : (List Int) :=
  let z0 : Nat := (Int.toNat (IntKind.i64.wrap (Int.tdiv ((k : Nat) : Int) (4 : Int))))
  ((List.set s z0 (bits2 .or .u32 (List.getD s z0 0) (shl .u32 (IntKind.u32.wrap (List.getD b k 0)) (IntKind.u64.wrap (IntKind.i64.wrap ((8 : Int) * (Int.tmod ((k : Nat) : Int) (4 : Int)))))))))

set_option maxHeartbeats 1000000 in
theorem dgL_round (n : Nat) (nm : Nat) (b : List Int) (cap0 : Nat) (h0 : (nm = n)) (h1 : (n ≤ (140737488355328 : Nat))) (hc0 : n ≤ cap0) (hl0_0 : List.length b = nm) (w : World) (rw : List Nat) (β : Env) (k : Nat) (hk : k < n) (s : (List Int)) : Run Try.prog ⟨w, rw, 1, β⟩ (loopB Try.f78 0) (dgL_mk n nm b cap0 k s) (To ⟨w, rw, 1, β⟩ .normal (dgL_mk n nm b cap0 (k + 1) (dgL_step b k s))) := by
  have e0 : (IntKind.i64.wrap (((k : Nat) : Int) + (1 : Int))) = (((k + (1 : Nat)) : Nat) : Int) := (by first | rfl | exact wrap_succ (by omega) | omega | (simp (disch := omega) only [wrapI]; omega))
  have h := Run.of_outT (B := ⟨w, rw, 1, β⟩) (Λ := noLam) (Ψ := noPsi) (fuel := 0) (ora := [true]) (c := (loopB Try.f78 0)) (st := (dgL_mk n nm b cap0 k s)) (l := [.forget [0, 2, 3, 4, 5, 6, 7, 8, 9] 2]) (s' := ⟨sparse 37 [(0, .o (.a (.sl 0 (0 : Nat) n cap0))), (2, .o (.a (.raw (.slice none 0 0)))), (3, .o (.a (.sl 1 (0 : Nat) ((n + (3 : Nat)) / (4 : Nat)) ((n + (3 : Nat)) / (4 : Nat))))), (4, .o (.a (.i .i64 (IntKind.i64.wrap (((k : Nat) : Int) + (1 : Int)))))), (5, .o (.a (.sl 0 (0 : Nat) n cap0))), (6, .o (.a (.i .i64 ((n : Nat) : Int)))), (7, .o (.a (.i .i64 (IntKind.i64.wrap (((n : Nat) : Int) + (3 : Int)))))), (8, .o (.a (.i .i64 (IntKind.i64.wrap (Int.tdiv (IntKind.i64.wrap (((n : Nat) : Int) + (3 : Int))) (4 : Int)))))), (9, .o (.a (.sl 1 (0 : Nat) (Int.toNat (IntKind.i64.wrap (Int.tdiv (IntKind.i64.wrap (((n : Nat) : Int) + (3 : Int))) (4 : Int)))) (Int.toNat (IntKind.i64.wrap (Int.tdiv (IntKind.i64.wrap (((n : Nat) : Int) + (3 : Int))) (4 : Int)))))))], [some ⟨false, [.ints .u8 nm b]⟩, some ⟨true, [.ints .u32 ((n + (3 : Nat)) / (4 : Nat)) (dgL_step b k s)]⟩]⟩) (ex := .normal) mix tabOkQN gam66_ok
    (vc := [((Int.toNat (IntKind.i64.wrap (Int.tdiv ((k : Nat) : Int) (4 : Int)))) < ((n + (3 : Nat)) / (4 : Nat))), (((0 : Int) ≤ (IntKind.i64.wrap (Int.tdiv ((k : Nat) : Int) (4 : Int)))) ∧ ((IntKind.i64.wrap (Int.tdiv ((k : Nat) : Int) (4 : Int))) < ((((n + (3 : Nat)) / (4 : Nat)) : Nat) : Int))), ((0 : Int) ≤ (IntKind.u64.wrap (IntKind.i64.wrap ((8 : Int) * (Int.tmod ((k : Nat) : Int) (4 : Int)))))), ((4 : Int) ≠ 0), (k < nm), (((0 : Int) ≤ ((k : Nat) : Int)) ∧ (((k : Nat) : Int) < ((n : Nat) : Int))), ((Int.toNat (IntKind.i64.wrap (Int.tdiv ((k : Nat) : Int) (4 : Int)))) < ((n + (3 : Nat)) / (4 : Nat))), (((0 : Int) ≤ (IntKind.i64.wrap (Int.tdiv ((k : Nat) : Int) (4 : Int)))) ∧ ((IntKind.i64.wrap (Int.tdiv ((k : Nat) : Int) (4 : Int))) < ((((n + (3 : Nat)) / (4 : Nat)) : Nat) : Int))), ((4 : Int) ≠ 0), ((4 : Int) ≠ 0), ((decide (((k : Nat) : Int) < ((n : Nat) : Int))) = true)]) (by kernel_rfl)
    (AllP_cons (by first | omega | exact wrap_nn rfl | (have q := dg_i2 (k := k) (by omega); omega) | (simp (disch := omega) only [wrapI]; omega)) (AllP_cons ⟨(by first | omega | exact wrap_nn rfl | (have q := dg_i2 (k := k) (by omega); omega) | (simp (disch := omega) only [wrapI]; omega)), (by first | omega | exact wrap_nn rfl | (have q := dg_i2 (k := k) (by omega); omega) | (simp (disch := omega) only [wrapI]; omega))⟩ (AllP_cons (wrap_nn rfl) (AllP_cons (by decide) (AllP_cons (by first | omega | exact wrap_nn rfl | (have q := dg_i2 (k := k) (by omega); omega) | (simp (disch := omega) only [wrapI]; omega)) (AllP_cons ⟨(by first | omega | exact wrap_nn rfl | (have q := dg_i2 (k := k) (by omega); omega) | (simp (disch := omega) only [wrapI]; omega)), (by first | omega | exact wrap_nn rfl | (have q := dg_i2 (k := k) (by omega); omega) | (simp (disch := omega) only [wrapI]; omega))⟩ (AllP_cons (by first | omega | exact wrap_nn rfl | (have q := dg_i2 (k := k) (by omega); omega) | (simp (disch := omega) only [wrapI]; omega)) (AllP_cons ⟨(by first | omega | exact wrap_nn rfl | (have q := dg_i2 (k := k) (by omega); omega) | (simp (disch := omega) only [wrapI]; omega)), (by first | omega | exact wrap_nn rfl | (have q := dg_i2 (k := k) (by omega); omega) | (simp (disch := omega) only [wrapI]; omega))⟩ (AllP_cons (by decide) (AllP_cons (by decide) (AllP_cons (decide_eq_true (by first | omega | exact wrap_nn rfl | (have q := dg_i2 (k := k) (by omega); omega) | (simp (disch := omega) only [wrapI]; omega))) (AllP_nil))))))))))))
  rw [e0] at h
  exact h

set_option maxHeartbeats 1000000 in
theorem dgL_last (n : Nat) (nm : Nat) (b : List Int) (cap0 : Nat) (h0 : (nm = n)) (h1 : (n ≤ (140737488355328 : Nat))) (hc0 : n ≤ cap0) (hl0_0 : List.length b = nm) (w : World) (rw : List Nat) (β : Env) (s : (List Int)) : Run Try.prog ⟨w, rw, 1, β⟩ (loopB Try.f78 0) (dgL_mk n nm b cap0 n s) (To ⟨w, rw, 1, β⟩ (.exit 0) (dgL_mk n nm b cap0 n s)) :=
  Run.of_outT (B := ⟨w, rw, 1, β⟩) (Λ := noLam) (Ψ := noPsi) (fuel := 0) (ora := [false]) (l := [.forget [0, 2, 3, 4, 5, 6, 7, 8, 9] 2]) mix tabOkQN gam66_ok
    (vc := [((decide (((n : Nat) : Int) < ((n : Nat) : Int))) = false)]) (by kernel_rfl)
    (AllP_cons (decide_eq_false (by omega)) (AllP_nil))

theorem dgL_loop (n : Nat) (nm : Nat) (b : List Int) (cap0 : Nat) (h0 : (nm = n)) (h1 : (n ≤ (140737488355328 : Nat))) (hc0 : n ≤ cap0) (hl0_0 : List.length b = nm) (w : World) (rw : List Nat) (β : Env) (s : (List Int)) : Run Try.prog ⟨w, rw, 1, β⟩ (.block 0 (.loop (loopB Try.f78 0))) (dgL_mk n nm b cap0 0 s) (To ⟨w, rw, 1, β⟩ .normal (dgL_mk n nm b cap0 n (iter (dgL_step b) n s))) :=
  Run.count (fun k => dgL_mk n nm b cap0 k (iter (dgL_step b) k s)) n (fun k hk => dgL_round n nm b cap0 h0 h1 hc0 hl0_0 w rw β k hk _) (ex := (.exit 0)) (by simp) (dgL_last n nm b cap0 h0 h1 hc0 hl0_0 w rw β _)

def dgL_out0 (b : List Int) (n : Nat) (i0 : List Int) : List Int := (iter (dgL_step b) n (i0))

def dgN (n : Nat) : Nat :=
  ((n + (3 : Nat)) / (4 : Nat))

def dgN_1 (n : Nat) (b : List Int) : List Int :=
  (dgL_out0 b n (List.replicate ((n + (3 : Nat)) / (4 : Nat)) (0 : Int)))

set_option maxHeartbeats 1000000 in
theorem dgN_body0 (n : Nat) (nm : Nat) (b : List Int) (cap0 : Nat) (h0 : (nm = n)) (h1 : (n ≤ (140737488355328 : Nat))) (hc0 : n ≤ cap0) (hl0_0 : List.length b = nm) (w : World) (rw : List Nat) (β : Env) : Body Try.prog (tabOf tabQN) Try.f78 ⟨w, rw, 1, β⟩ [.o (.a (.sl 0 (0 : Nat) n cap0))] [some ⟨false, [.ints .u8 nm b]⟩] (fun ys K' => ys = [.a (.sl 1 (0 : Nat) (dgN n) (dgN n))] ∧ K' = [some ⟨false, [.ints .u8 nm b]⟩, some ⟨true, [.ints .u32 (dgN n) (dgN_1 n b)]⟩]) :=
  Body.of_finK (Γ := gam66) (Λ := lamOf [(0, ⟨[.forget [0, 2, 3, 4, 5, 6, 7, 8, 9] 2], .normal, (dgL_mk n nm b cap0 n (iter (dgL_step b) n ((List.replicate ((n + (3 : Nat)) / (4 : Nat)) (0 : Int)))))⟩)]) (Ψ := psiOf [(1, [.eqS 3 (.o (.a (.sl 1 (0 : Nat) ((n + (3 : Nat)) / (4 : Nat)) ((n + (3 : Nat)) / (4 : Nat))))), .eqB 1 (⟨true, [.ints .u32 ((n + (3 : Nat)) / (4 : Nat)) (List.replicate ((n + (3 : Nat)) / (4 : Nat)) (0 : Int))]⟩)])]) (fuel := 0) (m := 37) (c := (Try.f78.body.getD .skip)) mix tabOkQN gam66_ok rfl (rs := [.tmp 2]) rfl rfl [] [] 2
    (vc := [(Run Try.prog ⟨w, rw, 1, β⟩ (.block 0 (.loop (loopB Try.f78 0))) (dgL_mk n nm b cap0 0 ((List.replicate ((n + (3 : Nat)) / (4 : Nat)) (0 : Int)))) (To ⟨w, rw, 1, β⟩ .normal (dgL_mk n nm b cap0 n (iter (dgL_step b) n ((List.replicate ((n + (3 : Nat)) / (4 : Nat)) (0 : Int))))))), ((some ⟨true, [.ints .u32 (Int.toNat (IntKind.i64.wrap (Int.tdiv (IntKind.i64.wrap (((n : Nat) : Int) + (3 : Int))) (4 : Int)))) (List.replicate (Int.toNat (IntKind.i64.wrap (Int.tdiv (IntKind.i64.wrap (((n : Nat) : Int) + (3 : Int))) (4 : Int)))) (0 : Int))]⟩ : Option Blk) = some ⟨true, [.ints .u32 ((n + (3 : Nat)) / (4 : Nat)) (List.replicate ((n + (3 : Nat)) / (4 : Nat)) (0 : Int))]⟩), ((.o (.a (.sl 1 (0 : Nat) (Int.toNat (IntKind.i64.wrap (Int.tdiv (IntKind.i64.wrap (((n : Nat) : Int) + (3 : Int))) (4 : Int)))) (Int.toNat (IntKind.i64.wrap (Int.tdiv (IntKind.i64.wrap (((n : Nat) : Int) + (3 : Int))) (4 : Int)))))) : AV) = .o (.a (.sl 1 (0 : Nat) ((n + (3 : Nat)) / (4 : Nat)) ((n + (3 : Nat)) / (4 : Nat))))), (((0 : Int) ≤ (IntKind.i64.wrap (Int.tdiv (IntKind.i64.wrap (((n : Nat) : Int) + (3 : Int))) (4 : Int)))) ∧ ((IntKind.i64.wrap (Int.tdiv (IntKind.i64.wrap (((n : Nat) : Int) + (3 : Int))) (4 : Int))) ≤ (IntKind.i64.wrap (Int.tdiv (IntKind.i64.wrap (((n : Nat) : Int) + (3 : Int))) (4 : Int)))) ∧ (((IntKind.i64.wrap (Int.tdiv (IntKind.i64.wrap (((n : Nat) : Int) + (3 : Int))) (4 : Int))) * (4 : Int)) ≤ (281474976710656 : Int))), ((4 : Int) ≠ 0)]) (by kernel_rfl)
    (AllP_cons (dgL_loop n nm b cap0 h0 h1 hc0 hl0_0 w rw β ((List.replicate ((n + (3 : Nat)) / (4 : Nat)) (0 : Int)))) (AllP_cons ((by rw [show Int.toNat (IntKind.i64.wrap (Int.tdiv (IntKind.i64.wrap (((n : Nat) : Int) + (3 : Int))) (4 : Int))) = (n + 3) / 4 from dg_n h1])) (AllP_cons ((by rw [show Int.toNat (IntKind.i64.wrap (Int.tdiv (IntKind.i64.wrap (((n : Nat) : Int) + (3 : Int))) (4 : Int))) = (n + 3) / 4 from dg_n h1])) (AllP_cons ⟨(by first | decide | omega | (have q := dg_n2 h1; omega) | (simp (disch := omega) only [wrapI]; omega)), (by first | decide | omega | (have q := dg_n2 h1; omega) | (simp (disch := omega) only [wrapI]; omega)), (by first | decide | omega | (have q := dg_n2 h1; omega) | (simp (disch := omega) only [wrapI]; omega))⟩ (AllP_cons (by decide) (AllP_nil))))))

theorem dgN_body (n : Nat) (nm : Nat) (b : List Int) (cap0 : Nat) (h0 : (nm = n)) (h1 : (n ≤ (140737488355328 : Nat))) (w : World) (rw : List Nat) (β : Env) : Body Try.prog (tabOf tabQN) Try.f78 ⟨w, rw, 1, β⟩ [.o (.a (.sl 0 (0 : Nat) n cap0))] [some ⟨false, [.ints .u8 nm b]⟩] (fun ys K' => ys = [.a (.sl 1 (0 : Nat) (dgN n) (dgN n))] ∧ K' = [some ⟨false, [.ints .u8 nm b]⟩, some ⟨true, [.ints .u32 (dgN n) (dgN_1 n b)]⟩]) :=
  Body.lens (c := (Try.f78.body.getD .skip)) rfl fun h => dgN_body0 n nm b cap0 h0 h1 (h.caps 0 _ _ _ _ rfl) (h.lens 0 _ .u8 nm b rfl (by simp)) w rw β

end Go.Proofs.Ytcpoldghkiiggaa.X

/- Printed by a tool of this session. -/
namespace Go.Proofs.Ytcpoldghkiiggaa.X
open Go Go.Proofs
set_option linter.unusedVariables false
set_option linter.unusedSimpArgs false
set_option maxRecDepth 100000
def gam68 : Gam := gcall 78 [] [.s 1] (fun wk vs args => match wk, vs, args with | [], [⟨_, _, _, [.ints .u8 nm b]⟩], [.o (.a (.sl 0 0 n _))] => some ((nm = n) ∧ (n ≤ (140737488355328 : Nat)), [.a (.sl 1 (0 : Nat) (dgN n) (dgN n))], [some ⟨false, [.ints .u8 nm b]⟩, some ⟨true, [.ints .u32 (dgN n) (dgN_1 n b)]⟩]) | _, _, _ => none) gam66
theorem gam68_ok : GamOk Try.prog gam68 := gcall_ok tabOkQN Try.func78 gam66_ok Try.call78 (by
  intro wk vs args p xs K1 h hv
  split at h
  · simp only [Option.some.injEq, Prod.mk.injEq] at h; obtain ⟨rfl, rfl, rfl⟩ := h; obtain ⟨g0, g1⟩ := hv; exact fun caps w rw β => dgN_body _ _ _ _ g0 g1 w rw β
  · simp at h)

end Go.Proofs.Ytcpoldghkiiggaa.X

/- Printed by a tool of this session. -/
namespace Go.Proofs.Ytcpoldghkiiggaa.X
open Go Go.Proofs
set_option linter.unusedVariables false
set_option linter.unusedSimpArgs false
set_option maxRecDepth 100000
theorem teQP_5 : TEOk Try.prog 5 ⟨.int .u8, 1, 1, [.i .u8 (0 : Int)], false⟩ :=
  TEOk.of Try.underlying5 (i := Try.t5) (by kernel_rfl) rfl rfl rfl (by kernel_rfl) (fun h => by cases h) (by kernel_rfl)
theorem teQP_22 : TEOk Try.prog 22 ⟨.slice 5, 1, 24, [.raw (.slice none 0 0)], false⟩ :=
  TEOk.of Try.underlying22 (i := Try.t22) (by kernel_rfl) rfl rfl rfl (by kernel_rfl) (fun h => by cases h) (by kernel_rfl)
theorem teQP_24 : TEOk Try.prog 24 ⟨.array 32 5, 32, 32, [.ints .u8 (32 : Nat) ([0, 0, 0, 0, 0, 0, 0, 0, 0, 0, 0, 0, 0, 0, 0, 0, 0, 0, 0, 0, 0, 0, 0, 0, 0, 0, 0, 0, 0, 0, 0, 0] : List Int)], true⟩ :=
  TEOk.of Try.underlying24 (i := Try.t24) (by kernel_rfl) rfl rfl rfl (by kernel_rfl) (fun _ => Try.eqGuardType24) (by kernel_rfl)
noncomputable def tabQP : List (Nat × TE) := [(5, ⟨.int .u8, 1, 1, [.i .u8 (0 : Int)], false⟩), (22, ⟨.slice 5, 1, 24, [.raw (.slice none 0 0)], false⟩), (24, ⟨.array 32 5, 32, 32, [.ints .u8 (32 : Nat) ([0, 0, 0, 0, 0, 0, 0, 0, 0, 0, 0, 0, 0, 0, 0, 0, 0, 0, 0, 0, 0, 0, 0, 0, 0, 0, 0, 0, 0, 0, 0, 0] : List Int)], true⟩)]
theorem tabOkQP : TabOk Try.prog (tabOf tabQP) := (tabOf_cons teQP_5 (tabOf_cons teQP_22 (tabOf_cons teQP_24 tabOf_nil)))

set_option maxHeartbeats 1000000 in
theorem deA_body0 (n : Nat) (nm : Nat) (b : List Int) (cap0 : Nat) (h0 : (nm = n)) (h1 : (n ≤ (140737488355328 : Nat))) (h2 : (Byt b)) (hc0 : n ≤ cap0) (hl0_0 : List.length b = nm) (hn : n ≠ 32) (w : World) (β : Env) : Body Try.prog (tabOf tabQP) Try.f15 ⟨w, [], 1, β⟩ [.o (.a (.sl 0 (0 : Nat) n cap0))] [some ⟨false, [.ints .u8 nm b]⟩] (fun ys _ => ys = [.g [.ints .u8 (32 : Nat) ([0, 0, 0, 0, 0, 0, 0, 0, 0, 0, 0, 0, 0, 0, 0, 0, 0, 0, 0, 0, 0, 0, 0, 0, 0, 0, 0, 0, 0, 0, 0, 0] : List Int)], .a (.i .i64 (3 : Int))]) :=
  Body.of_fin (Γ := gam68) (Λ := noLam) (Ψ := noPsi) (fuel := 0) (m := 17) (c := (Try.f15.body.getD .skip)) mix tabOkQP gam68_ok rfl (rs := [.cell 2 24, .tmp 3]) rfl rfl [true] []
    (vc := [((((n : Nat) : Int) != (32 : Int)) = true)]) (by kernel_rfl)
    (AllP_cons (bne_iff_ne.2 (by first | omega | decide)) (AllP_nil))

set_option maxHeartbeats 1000000 in
theorem deB_body0 (n : Nat) (nm : Nat) (b : List Int) (cap0 : Nat) (h0 : (nm = n)) (h1 : (n ≤ (140737488355328 : Nat))) (h2 : (Byt b)) (hc0 : n ≤ cap0) (hl0_0 : List.length b = nm) (hn : n = 32) (hd : ¬ BV b < LL) (w : World) (β : Env) : Body Try.prog (tabOf tabQP) Try.f15 ⟨w, [], 1, β⟩ [.o (.a (.sl 0 (0 : Nat) n cap0))] [some ⟨false, [.ints .u8 nm b]⟩] (fun ys _ => ys = [.g [.ints .u8 (32 : Nat) ([0, 0, 0, 0, 0, 0, 0, 0, 0, 0, 0, 0, 0, 0, 0, 0, 0, 0, 0, 0, 0, 0, 0, 0, 0, 0, 0, 0, 0, 0, 0, 0] : List Int)], .a (.i .i64 (21 : Int))]) :=
  Body.of_fin (Γ := gam68) (Λ := noLam) (Ψ := noPsi) (fuel := 0) (m := 17) (c := (Try.f15.body.getD .skip)) mix tabOkQP gam68_ok rfl (rs := [.cell 2 24, .tmp 3]) rfl rfl [false, true] []
    (vc := [((!(decide ((BV (sub b (0 : Nat) (32 : Nat))) < (LL)))) = true), (Byt (sub b (0 : Nat) (32 : Nat))), ((32 : Nat) ≤ nm), ((32 : Nat) ≤ n), ((((n : Nat) : Int) != (32 : Int)) = false)]) (by kernel_rfl)
    (AllP_cons (by rw [sub_all b 32 (by omega), decide_eq_false hd]; rfl) (AllP_cons (by first | exact byt_sub h2 _ _ | exact h2) (AllP_cons (by first | omega | decide) (AllP_cons (by first | omega | decide) (AllP_cons (bne_eq_false_iff_eq.2 (by first | omega | decide)) (AllP_nil))))))

def deC (b : List Int) : List Int :=
  (sub b (0 : Nat) (32 : Nat))

set_option maxHeartbeats 1000000 in
theorem deC_body0 (n : Nat) (nm : Nat) (b : List Int) (cap0 : Nat) (h0 : (nm = n)) (h1 : (n ≤ (140737488355328 : Nat))) (h2 : (Byt b)) (hc0 : n ≤ cap0) (hl0_0 : List.length b = nm) (hn : n = 32) (hd : BV b < LL) (w : World) (β : Env) : Body Try.prog (tabOf tabQP) Try.f15 ⟨w, [], 1, β⟩ [.o (.a (.sl 0 (0 : Nat) n cap0))] [some ⟨false, [.ints .u8 nm b]⟩] (fun ys _ => ys = [.g [.ints .u8 (32 : Nat) (deC b)], .a (.i .i64 (0 : Int))]) :=
  Body.of_fin (Γ := gam68) (Λ := noLam) (Ψ := noPsi) (fuel := 0) (m := 17) (c := (Try.f15.body.getD .skip)) mix tabOkQP gam68_ok rfl (rs := [.cell 2 24, .tmp 3]) rfl rfl [false, false] []
    (vc := [((!(decide ((BV (sub b (0 : Nat) (32 : Nat))) < (LL)))) = false), (Byt (sub b (0 : Nat) (32 : Nat))), ((32 : Nat) ≤ nm), ((32 : Nat) ≤ n), ((((n : Nat) : Int) != (32 : Int)) = false)]) (by kernel_rfl)
    (AllP_cons (by rw [sub_all b 32 (by omega), decide_eq_true hd]; rfl) (AllP_cons (by first | exact byt_sub h2 _ _ | exact h2) (AllP_cons (by first | omega | decide) (AllP_cons (by first | omega | decide) (AllP_cons (bne_eq_false_iff_eq.2 (by first | omega | decide)) (AllP_nil))))))

end Go.Proofs.Ytcpoldghkiiggaa.X

/- Decode in one form. -/
namespace Go.Proofs.Ytcpoldghkiiggaa.X
open Go Go.Proofs
set_option linter.unusedVariables false
set_option maxRecDepth 100000

def decL (n : Nat) (b : List Int) : List Int := if n = 32 then (if BV b < LL then sub b 0 32 else [0, 0, 0, 0, 0, 0, 0, 0, 0, 0, 0, 0, 0, 0, 0, 0, 0, 0, 0, 0, 0, 0, 0, 0, 0, 0, 0, 0, 0, 0, 0, 0]) else [0, 0, 0, 0, 0, 0, 0, 0, 0, 0, 0, 0, 0, 0, 0, 0, 0, 0, 0, 0, 0, 0, 0, 0, 0, 0, 0, 0, 0, 0, 0, 0]
def decE (n : Nat) (b : List Int) : Int := if n = 32 then (if BV b < LL then 0 else 21) else 3
theorem dec_num (n nm : Nat) (b : List Int) (cap0 : Nat) (h0 : nm = n) (h1 : n ≤ 140737488355328) (h2 : Byt b) (w : World) (β : Env) : Body Try.prog (tabOf tabQP) Try.f15 ⟨w, [], 1, β⟩ [.o (.a (.sl 0 (0 : Nat) n cap0))] [some ⟨false, [.ints .u8 nm b]⟩] (fun ys _ => ys = [.g [.ints .u8 (32 : Nat) (decL n b)], .a (.i .i64 (decE n b))]) :=
  Body.lens (c := (Try.f15.body.getD .skip)) rfl fun h => by
    have hc := h.caps 0 _ _ _ _ rfl
    have hl := h.lens 0 _ .u8 nm b rfl (by simp)
    unfold decL decE
    by_cases hn : n = 32
    · rw [if_pos hn, if_pos hn]
      by_cases hd : BV b < LL
      · rw [if_pos hd, if_pos hd]; exact deC_body0 n nm b cap0 h0 h1 h2 hc hl hn hd w β
      · rw [if_neg hd, if_neg hd]; exact deB_body0 n nm b cap0 h0 h1 h2 hc hl hn hd w β
    · rw [if_neg hn, if_neg hn]; exact deA_body0 n nm b cap0 h0 h1 h2 hc hl hn w β
end Go.Proofs.Ytcpoldghkiiggaa.X

/- Printed by a tool of this session. -/
namespace Go.Proofs.Ytcpoldghkiiggaa.X
open Go Go.Proofs
set_option linter.unusedVariables false
set_option linter.unusedSimpArgs false
set_option maxRecDepth 100000
def gam72 : Gam := greadV 15 [.s 1] (fun vs args => match vs, args with | [⟨_, _, _, [.ints .u8 nm b]⟩], [a0] => some ((nm = (lenOfA a0)) ∧ ((lenOfA a0) ≤ (140737488355328 : Nat)) ∧ (Byt b), [.g [.ints .u8 (32 : Nat) (decL (lenOfA a0) b)], .a (.i .i64 (decE (lenOfA a0) b))]) | _, _ => none) gam68
theorem gam72_ok : GamOk Try.prog gam72 := greadV_ok tabOkQP Try.func15 gam68_ok Try.call15 (by
  intro vs args p xs h hv
  split at h
  · simp only [Option.some.injEq, Prod.mk.injEq] at h; obtain ⟨rfl, rfl⟩ := h; exact ⟨by rfl, fun caps w β => dec_num _ _ _ _ hv.1 hv.2.1 hv.2.2 w β⟩
  · simp at h)

end Go.Proofs.Ytcpoldghkiiggaa.X

/- What the law of Reduce comes down to. -/
namespace Go.Proofs.Ytcpoldghkiiggaa.X
open Go Go.Proofs
set_option linter.unusedVariables false
set_option linter.unusedSimpArgs false
set_option maxRecDepth 100000

theorem byt_rep (n : Nat) : Byt (List.replicate n 0) := fun z hz => by rw [(List.mem_replicate.1 hz).2]; decide
end Go.Proofs.Ytcpoldghkiiggaa.X

/- Sums, products of lists of scalars. -/
namespace Go.Proofs.Ytcpoldghkiiggaa.X
open Go Go.Proofs
set_option linter.unusedVariables false
set_option linter.unusedSimpArgs false
set_option maxRecDepth 100000

def prS (l : List Int) : Nat → Int
  | 0 => 1
  | k + 1 => modL (prS l k * BV (sub l (k * 32) 32))
theorem prS_rng (l : List Int) : ∀ k, 0 ≤ prS l k ∧ prS l k < LL
  | 0 => by show (0 : Int) ≤ 1 ∧ (1 : Int) < LL; decide +kernel
  | _ + 1 => modL_b _
theorem LL_256 : LL < 115792089237316195423570985008687907853269984665640564039457584007913129639936 := by decide +kernel
theorem BV_lt {v : Int} (h : 0 ≤ v ∧ v < LL) : BV (B32 v) = v := BV_B32 h.1 (Int.lt_trans h.2 LL_256)
theorem pr_r (l : List Int) (k : Nat) : modL (BV (B32 (prS l k)) * BV (sub l (k * 32) 32)) = prS l (k + 1) := by
  rw [BV_lt (prS_rng l k)]; rfl
end Go.Proofs.Ytcpoldghkiiggaa.X

/- Printed by a tool of this session. -/
namespace Go.Proofs.Ytcpoldghkiiggaa.X
open Go Go.Proofs
set_option linter.unusedVariables false
set_option linter.unusedSimpArgs false
set_option maxRecDepth 100000
theorem teRB_3 : TEOk Try.prog 3 ⟨.int .i64, 1, 8, [.i .i64 (0 : Int)], false⟩ :=
  TEOk.of Try.underlying3 (i := Try.t3) (by kernel_rfl) rfl rfl rfl (by kernel_rfl) (fun h => by cases h) (by kernel_rfl)
theorem teRB_5 : TEOk Try.prog 5 ⟨.int .u8, 1, 1, [.i .u8 (0 : Int)], false⟩ :=
  TEOk.of Try.underlying5 (i := Try.t5) (by kernel_rfl) rfl rfl rfl (by kernel_rfl) (fun h => by cases h) (by kernel_rfl)
theorem teRB_24 : TEOk Try.prog 24 ⟨.array 32 5, 32, 32, [.ints .u8 (32 : Nat) ([0, 0, 0, 0, 0, 0, 0, 0, 0, 0, 0, 0, 0, 0, 0, 0, 0, 0, 0, 0, 0, 0, 0, 0, 0, 0, 0, 0, 0, 0, 0, 0] : List Int)], true⟩ :=
  TEOk.of Try.underlying24 (i := Try.t24) (by kernel_rfl) rfl rfl rfl (by kernel_rfl) (fun _ => Try.eqGuardType24) (by kernel_rfl)
theorem teRB_30 : TEOk Try.prog 30 ⟨.slice 64, 1, 24, [.raw (.slice none 0 0)], false⟩ :=
  TEOk.of Try.underlying30 (i := Try.t30) (by kernel_rfl) rfl rfl rfl (by kernel_rfl) (fun h => by cases h) (by kernel_rfl)
theorem teRB_42 : TEOk Try.prog 42 ⟨Try.t41.desc, 30, 720, [.raw (.slice none 0 0), .raw (.slice none 0 0), .raw (.slice none 0 0), .raw (.slice none 0 0), .raw (.slice none 0 0), .raw (.slice none 0 0), .raw (.slice none 0 0), .raw (.slice none 0 0), .raw (.slice none 0 0), .raw (.slice none 0 0), .raw (.slice none 0 0), .raw (.slice none 0 0), .raw (.slice none 0 0), .raw (.slice none 0 0), .raw (.slice none 0 0), .raw (.slice none 0 0), .raw (.slice none 0 0), .raw (.slice none 0 0), .raw (.slice none 0 0), .raw (.slice none 0 0), .raw (.slice none 0 0), .raw (.slice none 0 0), .raw (.slice none 0 0), .raw (.slice none 0 0), .raw (.slice none 0 0), .raw (.slice none 0 0), .raw (.slice none 0 0), .raw (.slice none 0 0), .raw (.slice none 0 0), .raw (.slice none 0 0)], false⟩ :=
  TEOk.of Try.underlying42 (i := Try.t42) (by kernel_rfl) rfl rfl rfl (by kernel_rfl) (fun h => by cases h) (by kernel_rfl)
theorem teRB_64 : TEOk Try.prog 64 ⟨.slice 24, 1, 24, [.raw (.slice none 0 0)], false⟩ :=
  TEOk.of Try.underlying64 (i := Try.t64) (by kernel_rfl) rfl rfl rfl (by kernel_rfl) (fun h => by cases h) (by kernel_rfl)
noncomputable def tabRB : List (Nat × TE) := [(3, ⟨.int .i64, 1, 8, [.i .i64 (0 : Int)], false⟩), (5, ⟨.int .u8, 1, 1, [.i .u8 (0 : Int)], false⟩), (24, ⟨.array 32 5, 32, 32, [.ints .u8 (32 : Nat) ([0, 0, 0, 0, 0, 0, 0, 0, 0, 0, 0, 0, 0, 0, 0, 0, 0, 0, 0, 0, 0, 0, 0, 0, 0, 0, 0, 0, 0, 0, 0, 0] : List Int)], true⟩), (30, ⟨.slice 64, 1, 24, [.raw (.slice none 0 0)], false⟩), (42, ⟨Try.t41.desc, 30, 720, [.raw (.slice none 0 0), .raw (.slice none 0 0), .raw (.slice none 0 0), .raw (.slice none 0 0), .raw (.slice none 0 0), .raw (.slice none 0 0), .raw (.slice none 0 0), .raw (.slice none 0 0), .raw (.slice none 0 0), .raw (.slice none 0 0), .raw (.slice none 0 0), .raw (.slice none 0 0), .raw (.slice none 0 0), .raw (.slice none 0 0), .raw (.slice none 0 0), .raw (.slice none 0 0), .raw (.slice none 0 0), .raw (.slice none 0 0), .raw (.slice none 0 0), .raw (.slice none 0 0), .raw (.slice none 0 0), .raw (.slice none 0 0), .raw (.slice none 0 0), .raw (.slice none 0 0), .raw (.slice none 0 0), .raw (.slice none 0 0), .raw (.slice none 0 0), .raw (.slice none 0 0), .raw (.slice none 0 0), .raw (.slice none 0 0)], false⟩), (64, ⟨.slice 24, 1, 24, [.raw (.slice none 0 0)], false⟩)]
theorem tabOkRB : TabOk Try.prog (tabOf tabRB) := (tabOf_cons teRB_3 (tabOf_cons teRB_5 (tabOf_cons teRB_24 (tabOf_cons teRB_30 (tabOf_cons teRB_42 (tabOf_cons teRB_64 tabOf_nil))))))

def markS (i : Int) (k : Int) : List Int :=
  ([(IntKind.u8.wrap i), (IntKind.u8.wrap (shr .i64 i (8 : Int))), (IntKind.u8.wrap k), (IntKind.u8.wrap (shr .i64 k (8 : Int))), 77, 0, 0, 0, 0, 0, 0, 0, 0, 0, 0, 0, 0, 0, 0, 0, 0, 0, 0, 0, 0, 0, 0, 0, 0, 0, 0, 0] : List Int)

set_option maxHeartbeats 1000000 in
theorem markS_body0 (i : Int) (k : Int) (w : World) : Body Try.prog (tabOf tabRB) Try.f102 ⟨w, [], 0, noEnv⟩ (toA [.a (.i .i64 i), .a (.i .i64 k)]) [] (fun ys _ => ys = [.g [.ints .u8 (32 : Nat) (markS i k)]]) :=
  Body.of_fin (Γ := gam72) (Λ := noLam) (Ψ := noPsi) (fuel := 0) (m := 16) (c := (Try.f102.body.getD .skip)) mix tabOkRB gam72_ok rfl (rs := [.cell 4 24]) rfl rfl [] []
    (vc := [((0 : Int) ≤ (8 : Int)), ((0 : Int) ≤ (8 : Int))]) (by kernel_rfl)
    (AllP_cons (by decide) (AllP_cons (by decide) (AllP_nil)))

theorem markS_body (i : Int) (k : Int) (w : World) : Body Try.prog (tabOf tabRB) Try.f102 ⟨w, [], 0, noEnv⟩ (toA [.a (.i .i64 i), .a (.i .i64 k)]) [] (fun ys _ => ys = [.g [.ints .u8 (32 : Nat) (markS i k)]]) :=
  Body.lens (c := (Try.f102.body.getD .skip)) rfl fun h => markS_body0 i k  w

theorem markS_pure (i : Int) (k : Int) : PureC Try.prog 102 [.a (.i .i64 i), .a (.i .i64 k)] [.g [.ints .u8 (32 : Nat) (markS i k)]] :=
  PureC.of_body tabOkRB Try.func102 rfl rfl fun w => markS_body i k w

def gam83 : Gam := gpure 102 (fun args => match args with | [.o (.a (.i .i64 i)), .o (.a (.i .i64 k))] => some (none, [.g [.ints .u8 (32 : Nat) (markS i k)]]) | _ => none) gam72
theorem gam83_ok : GamOk Try.prog gam83 := gpure_ok gam72_ok Try.call102 (by
  intro args vc xs h hv
  split at h
  · simp only [Option.some.injEq, Prod.mk.injEq] at h; obtain ⟨rfl, rfl⟩ := h; exact ⟨_, by rfl, markS_pure _ _⟩
  · simp at h)

def copyS (n : Nat) : Nat :=
  (n * (32 : Nat))

def copyS_1 (n : Nat) (l : List Int) : List Int :=
  (sub l (0 : Nat) (n * (32 : Nat)))

set_option maxHeartbeats 1000000 in
theorem copyS_body0 (n : Nat) (nm : Nat) (l : List Int) (cap0 : Nat) (h0 : (nm = (n * (32 : Nat)))) (h1 : (n ≤ (4398046511104 : Nat))) (hc0 : n ≤ cap0) (hl0_0 : List.length l = nm) (w : World) (rw : List Nat) (β : Env) : Body Try.prog (tabOf tabRB) Try.f65 ⟨w, rw, 1, β⟩ [.o (.a (.sl 0 (0 : Nat) n cap0))] [some ⟨false, [.ints .u8 nm l]⟩] (fun ys K' => ys = [.a (.rs 1 (0 : Nat) n 32)] ∧ K' = [some ⟨false, [.ints .u8 nm l]⟩, some ⟨true, [.ints .u8 (copyS n) (copyS_1 n l)]⟩]) :=
  Body.of_finK (Γ := gam83) (Λ := noLam) (Ψ := noPsi) (fuel := 0) (m := 8) (c := (Try.f65.body.getD .skip)) mix tabOkRB gam83_ok rfl (rs := [.tmp 2]) rfl rfl [false] [] 2
    (vc := [(((n ≤ n) ∧ (((0 : Nat) + (n * (32 : Nat))) ≤ nm)) ∧ ((n * (32 : Nat)) ≤ (140737488355328 : Nat)))]) (by kernel_rfl)
    (AllP_cons ⟨⟨(by first | omega | (simp (disch := omega) only [wrapI]; omega)), (by first | omega | (simp (disch := omega) only [wrapI]; omega))⟩, (by first | omega | (simp (disch := omega) only [wrapI]; omega))⟩ (AllP_nil))

theorem copyS_body (n : Nat) (nm : Nat) (l : List Int) (cap0 : Nat) (h0 : (nm = (n * (32 : Nat)))) (h1 : (n ≤ (4398046511104 : Nat))) (w : World) (rw : List Nat) (β : Env) : Body Try.prog (tabOf tabRB) Try.f65 ⟨w, rw, 1, β⟩ [.o (.a (.sl 0 (0 : Nat) n cap0))] [some ⟨false, [.ints .u8 nm l]⟩] (fun ys K' => ys = [.a (.rs 1 (0 : Nat) n 32)] ∧ K' = [some ⟨false, [.ints .u8 nm l]⟩, some ⟨true, [.ints .u8 (copyS n) (copyS_1 n l)]⟩]) :=
  Body.lens (c := (Try.f65.body.getD .skip)) rfl fun h => copyS_body0 n nm l cap0 h0 h1 (h.caps 0 _ _ _ _ rfl) (h.lens 0 _ .u8 nm l rfl (by simp)) w rw β

def gam84 : Gam := gcall 65 [] [.s 32] (fun wk vs args => match wk, vs, args with | [], [⟨_, _, _, [.ints .u8 nm l]⟩], [.o (.a (.sl 0 0 n _))] => some ((nm = (n * (32 : Nat))) ∧ (n ≤ (4398046511104 : Nat)), [.a (.rs 1 (0 : Nat) n 32)], [some ⟨false, [.ints .u8 nm l]⟩, some ⟨true, [.ints .u8 (copyS n) (copyS_1 n l)]⟩]) | _, _, _ => none) gam83
theorem gam84_ok : GamOk Try.prog gam84 := gcall_ok tabOkRB Try.func65 gam83_ok Try.call65 (by
  intro wk vs args p xs K1 h hv
  split at h
  · simp only [Option.some.injEq, Prod.mk.injEq] at h; obtain ⟨rfl, rfl, rfl⟩ := h; obtain ⟨g0, g1⟩ := hv; exact fun caps w rw β => copyS_body _ _ _ _ g0 g1 w rw β
  · simp at h)

def gs0L0_mk (n : Nat) (nm : Nat) (l : List Int) (cap1 : Nat) (k : Nat) (s : (List Int)) : St := ⟨sparse 61 [(0, .o (.a (.p 0 0))), (1, .o (.a (.sl 1 (0 : Nat) n cap1))), (4, .o (.a (.raw (.slice none 0 0)))), (5, .o (.a (.sl 2 (0 : Nat) (n + (3 : Nat)) (n + (3 : Nat))))), (6, .o (.a (.i .i64 ((k : Nat) : Int)))), (8, .o (.a (.sl 1 (0 : Nat) n cap1))), (9, .o (.a (.i .i64 ((n : Nat) : Int)))), (10, .o (.a (.i .i64 (IntKind.i64.wrap (((n : Nat) : Int) + (3 : Int)))))), (11, .o (.a (.sl 2 (0 : Nat) (Int.toNat (IntKind.i64.wrap (((n : Nat) : Int) + (3 : Int)))) (Int.toNat (IntKind.i64.wrap (((n : Nat) : Int) + (3 : Int)))))))], [some ⟨true, [.raw (.slice none 0 0), .raw (.slice none 0 0), .raw (.slice none 0 0), .raw (.slice none 0 0), .raw (.slice none 0 0), .raw (.slice none 0 0), .raw (.slice none 0 0), .raw (.slice none 0 0), .raw (.slice none 0 0), .raw (.slice none 0 0), .raw (.slice none 0 0), .raw (.slice none 0 0), .raw (.slice none 0 0), .raw (.slice none 0 0), .raw (.slice none 0 0), .raw (.slice none 0 0), .raw (.slice none 0 0), .raw (.slice none 0 0), .raw (.slice none 0 0), .raw (.slice none 0 0), .raw (.slice none 0 0), .raw (.slice none 0 0), .raw (.slice none 0 0), .raw (.slice none 0 0), .raw (.slice none 0 0), .raw (.slice none 0 0), .raw (.slice none 0 0), .raw (.slice none 0 0), .raw (.slice none 0 0), .raw (.slice none 0 0)]⟩, some ⟨false, [.ints .u8 nm l]⟩, some ⟨true, [.ints .u8 ((n + (3 : Nat)) * (32 : Nat)) s]⟩]⟩

def gs0L0_step (k : Nat) (s : (List Int)) : (List Int) :=
  ((splice s (k * (32 : Nat)) (32 : Nat) (markS (987 : Int) ((k : Nat) : Int))))

set_option maxHeartbeats 1000000 in
theorem gs0L0_round (n : Nat) (nm : Nat) (l : List Int) (cap1 : Nat) (h0 : (nm = (n * (32 : Nat)))) (h1 : (n ≤ (4398046510976 : Nat))) (hc1 : n ≤ cap1) (hl1_0 : List.length l = nm) (w : World) (rw : List Nat) (β : Env) (k : Nat) (hk : k < (n + (3 : Nat))) (s : (List Int)) : Run Try.prog ⟨w, rw, 2, β⟩ (loopB Try.f45 0) (gs0L0_mk n nm l cap1 k s) (To ⟨w, rw, 2, β⟩ .normal (gs0L0_mk n nm l cap1 (k + 1) (gs0L0_step k s))) := by
  have e0 : (IntKind.i64.wrap (((k : Nat) : Int) + (1 : Int))) = (((k + (1 : Nat)) : Nat) : Int) := (by first | rfl | exact wrap_succ (by omega) | omega | (simp (disch := omega) only [wrapI]; omega))
  have h := Run.of_outT (B := ⟨w, rw, 2, β⟩) (Λ := noLam) (Ψ := noPsi) (fuel := 0) (ora := [true]) (c := (loopB Try.f45 0)) (st := (gs0L0_mk n nm l cap1 k s)) (l := [.forget [0, 1, 4, 5, 6, 8, 9, 10, 11] 3]) (s' := ⟨sparse 61 [(0, .o (.a (.p 0 0))), (1, .o (.a (.sl 1 (0 : Nat) n cap1))), (4, .o (.a (.raw (.slice none 0 0)))), (5, .o (.a (.sl 2 (0 : Nat) (n + (3 : Nat)) (n + (3 : Nat))))), (6, .o (.a (.i .i64 (IntKind.i64.wrap (((k : Nat) : Int) + (1 : Int)))))), (8, .o (.a (.sl 1 (0 : Nat) n cap1))), (9, .o (.a (.i .i64 ((n : Nat) : Int)))), (10, .o (.a (.i .i64 (IntKind.i64.wrap (((n : Nat) : Int) + (3 : Int)))))), (11, .o (.a (.sl 2 (0 : Nat) (Int.toNat (IntKind.i64.wrap (((n : Nat) : Int) + (3 : Int)))) (Int.toNat (IntKind.i64.wrap (((n : Nat) : Int) + (3 : Int)))))))], [some ⟨true, [.raw (.slice none 0 0), .raw (.slice none 0 0), .raw (.slice none 0 0), .raw (.slice none 0 0), .raw (.slice none 0 0), .raw (.slice none 0 0), .raw (.slice none 0 0), .raw (.slice none 0 0), .raw (.slice none 0 0), .raw (.slice none 0 0), .raw (.slice none 0 0), .raw (.slice none 0 0), .raw (.slice none 0 0), .raw (.slice none 0 0), .raw (.slice none 0 0), .raw (.slice none 0 0), .raw (.slice none 0 0), .raw (.slice none 0 0), .raw (.slice none 0 0), .raw (.slice none 0 0), .raw (.slice none 0 0), .raw (.slice none 0 0), .raw (.slice none 0 0), .raw (.slice none 0 0), .raw (.slice none 0 0), .raw (.slice none 0 0), .raw (.slice none 0 0), .raw (.slice none 0 0), .raw (.slice none 0 0), .raw (.slice none 0 0)]⟩, some ⟨false, [.ints .u8 nm l]⟩, some ⟨true, [.ints .u8 ((n + (3 : Nat)) * (32 : Nat)) (gs0L0_step k s)]⟩]⟩) (ex := .normal) mix tabOkRB gam84_ok
    (vc := [(((k * (32 : Nat)) + (32 : Nat)) ≤ ((n + (3 : Nat)) * (32 : Nat))), (((0 : Int) ≤ ((k : Nat) : Int)) ∧ (((k : Nat) : Int) < (((n + (3 : Nat)) : Nat) : Int))), ((decide (((k : Nat) : Int) < (((n + (3 : Nat)) : Nat) : Int))) = true)]) (by kernel_rfl)
    (AllP_cons (by first | omega | (simp (disch := omega) only [wrapI]; omega)) (AllP_cons ⟨(by first | omega | (simp (disch := omega) only [wrapI]; omega)), (by first | omega | (simp (disch := omega) only [wrapI]; omega))⟩ (AllP_cons (decide_eq_true (by first | omega | (simp (disch := omega) only [wrapI]; omega))) (AllP_nil))))
  rw [e0] at h
  exact h

set_option maxHeartbeats 1000000 in
theorem gs0L0_last (n : Nat) (nm : Nat) (l : List Int) (cap1 : Nat) (h0 : (nm = (n * (32 : Nat)))) (h1 : (n ≤ (4398046510976 : Nat))) (hc1 : n ≤ cap1) (hl1_0 : List.length l = nm) (w : World) (rw : List Nat) (β : Env) (s : (List Int)) : Run Try.prog ⟨w, rw, 2, β⟩ (loopB Try.f45 0) (gs0L0_mk n nm l cap1 (n + (3 : Nat)) s) (To ⟨w, rw, 2, β⟩ (.exit 0) (gs0L0_mk n nm l cap1 (n + (3 : Nat)) s)) :=
  Run.of_outT (B := ⟨w, rw, 2, β⟩) (Λ := noLam) (Ψ := noPsi) (fuel := 0) (ora := [false]) (l := [.forget [0, 1, 4, 5, 6, 8, 9, 10, 11] 3]) mix tabOkRB gam84_ok
    (vc := [((decide ((((n + (3 : Nat)) : Nat) : Int) < (((n + (3 : Nat)) : Nat) : Int))) = false)]) (by kernel_rfl)
    (AllP_cons (decide_eq_false (by first | omega | (simp (disch := omega) only [wrapI]; omega))) (AllP_nil))

theorem gs0L0_loop (n : Nat) (nm : Nat) (l : List Int) (cap1 : Nat) (h0 : (nm = (n * (32 : Nat)))) (h1 : (n ≤ (4398046510976 : Nat))) (hc1 : n ≤ cap1) (hl1_0 : List.length l = nm) (w : World) (rw : List Nat) (β : Env) (s : (List Int)) : Run Try.prog ⟨w, rw, 2, β⟩ (.block 0 (.loop (loopB Try.f45 0))) (gs0L0_mk n nm l cap1 0 s) (To ⟨w, rw, 2, β⟩ .normal (gs0L0_mk n nm l cap1 (n + (3 : Nat)) (iter (gs0L0_step) (n + (3 : Nat)) s))) :=
  Run.count (fun k => gs0L0_mk n nm l cap1 k (iter (gs0L0_step) k s)) (n + (3 : Nat)) (fun k hk => gs0L0_round n nm l cap1 h0 h1 hc1 hl1_0 w rw β k hk _) (ex := (.exit 0)) (by simp) (gs0L0_last n nm l cap1 h0 h1 hc1 hl1_0 w rw β _)

def gs0L0_out0 (n : Nat) (i0 : List Int) : List Int := (iter (gs0L0_step) (n + (3 : Nat)) (i0))

def gs0L2_mk (n : Nat) (nm : Nat) (l : List Int) (cap1 : Nat) (k : Nat) (s : (List Int)) : St := ⟨sparse 61 [(0, .o (.a (.p 0 0))), (1, .o (.a (.sl 1 (0 : Nat) n cap1))), (4, .o (.a (.raw (.slice none 0 0)))), (5, .o (.a (.sl 2 (0 : Nat) (n + (3 : Nat)) (n + (3 : Nat))))), (6, .o (.a (.i .i64 (((n + (3 : Nat)) : Nat) : Int)))), (7, .o (.a (.i .i64 ((k : Nat) : Int)))), (8, .o (.a (.sl 1 (0 : Nat) n cap1))), (9, .o (.a (.i .i64 ((n : Nat) : Int)))), (10, .o (.a (.i .i64 (IntKind.i64.wrap (((n : Nat) : Int) + (3 : Int)))))), (11, .o (.a (.sl 2 (0 : Nat) (Int.toNat (IntKind.i64.wrap (((n : Nat) : Int) + (3 : Int)))) (Int.toNat (IntKind.i64.wrap (((n : Nat) : Int) + (3 : Int)))))))], [some ⟨true, [.raw (.slice none 0 0), .raw (.slice none 0 0), .raw (.slice none 0 0), .raw (.slice none 0 0), .raw (.slice none 0 0), .raw (.slice none 0 0), .raw (.slice none 0 0), .raw (.slice none 0 0), .raw (.slice none 0 0), .raw (.slice none 0 0), .raw (.slice none 0 0), .raw (.slice none 0 0), .raw (.slice none 0 0), .raw (.slice none 0 0), .raw (.slice none 0 0), .raw (.slice none 0 0), .raw (.slice none 0 0), .raw (.slice none 0 0), .raw (.slice none 0 0), .raw (.slice none 0 0), .raw (.slice none 0 0), .raw (.slice none 0 0), .raw (.slice none 0 0), .raw (.slice none 0 0), .raw (.slice none 0 0), .raw (.slice none 0 0), .raw (.slice none 0 0), .raw (.slice none 0 0), .raw (.slice none 0 0), .raw (.slice none 0 0)]⟩, some ⟨false, [.ints .u8 nm l]⟩, some ⟨true, [.ints .u8 ((n + (3 : Nat)) * (32 : Nat)) s]⟩]⟩

def gs0L2_step (l : List Int) (k : Nat) (s : (List Int)) : (List Int) :=
  ((splice s (k * (32 : Nat)) (32 : Nat) (sub l (k * (32 : Nat)) (32 : Nat))))

set_option maxHeartbeats 1000000 in
theorem gs0L2_round (n : Nat) (nm : Nat) (l : List Int) (cap1 : Nat) (h0 : (nm = (n * (32 : Nat)))) (h1 : (n ≤ (4398046510976 : Nat))) (hc1 : n ≤ cap1) (hl1_0 : List.length l = nm) (w : World) (rw : List Nat) (β : Env) (k : Nat) (hk : k < n) (s : (List Int)) : Run Try.prog ⟨w, rw, 2, β⟩ (loopB Try.f45 2) (gs0L2_mk n nm l cap1 k s) (To ⟨w, rw, 2, β⟩ .normal (gs0L2_mk n nm l cap1 (k + 1) (gs0L2_step l k s))) := by
  have e0 : (IntKind.i64.wrap (((k : Nat) : Int) + (1 : Int))) = (((k + (1 : Nat)) : Nat) : Int) := (by first | rfl | exact wrap_succ (by omega) | omega | (simp (disch := omega) only [wrapI]; omega))
  have h := Run.of_outT (B := ⟨w, rw, 2, β⟩) (Λ := noLam) (Ψ := noPsi) (fuel := 0) (ora := [true]) (c := (loopB Try.f45 2)) (st := (gs0L2_mk n nm l cap1 k s)) (l := [.forget [0, 1, 4, 5, 6, 7, 8, 9, 10, 11] 3]) (s' := ⟨sparse 61 [(0, .o (.a (.p 0 0))), (1, .o (.a (.sl 1 (0 : Nat) n cap1))), (4, .o (.a (.raw (.slice none 0 0)))), (5, .o (.a (.sl 2 (0 : Nat) (n + (3 : Nat)) (n + (3 : Nat))))), (6, .o (.a (.i .i64 (((n + (3 : Nat)) : Nat) : Int)))), (7, .o (.a (.i .i64 (IntKind.i64.wrap (((k : Nat) : Int) + (1 : Int)))))), (8, .o (.a (.sl 1 (0 : Nat) n cap1))), (9, .o (.a (.i .i64 ((n : Nat) : Int)))), (10, .o (.a (.i .i64 (IntKind.i64.wrap (((n : Nat) : Int) + (3 : Int)))))), (11, .o (.a (.sl 2 (0 : Nat) (Int.toNat (IntKind.i64.wrap (((n : Nat) : Int) + (3 : Int)))) (Int.toNat (IntKind.i64.wrap (((n : Nat) : Int) + (3 : Int)))))))], [some ⟨true, [.raw (.slice none 0 0), .raw (.slice none 0 0), .raw (.slice none 0 0), .raw (.slice none 0 0), .raw (.slice none 0 0), .raw (.slice none 0 0), .raw (.slice none 0 0), .raw (.slice none 0 0), .raw (.slice none 0 0), .raw (.slice none 0 0), .raw (.slice none 0 0), .raw (.slice none 0 0), .raw (.slice none 0 0), .raw (.slice none 0 0), .raw (.slice none 0 0), .raw (.slice none 0 0), .raw (.slice none 0 0), .raw (.slice none 0 0), .raw (.slice none 0 0), .raw (.slice none 0 0), .raw (.slice none 0 0), .raw (.slice none 0 0), .raw (.slice none 0 0), .raw (.slice none 0 0), .raw (.slice none 0 0), .raw (.slice none 0 0), .raw (.slice none 0 0), .raw (.slice none 0 0), .raw (.slice none 0 0), .raw (.slice none 0 0)]⟩, some ⟨false, [.ints .u8 nm l]⟩, some ⟨true, [.ints .u8 ((n + (3 : Nat)) * (32 : Nat)) (gs0L2_step l k s)]⟩]⟩) (ex := .normal) mix tabOkRB gam84_ok
    (vc := [(((k * (32 : Nat)) + (32 : Nat)) ≤ ((n + (3 : Nat)) * (32 : Nat))), (((0 : Int) ≤ ((k : Nat) : Int)) ∧ (((k : Nat) : Int) < (((n + (3 : Nat)) : Nat) : Int))), (((k * (32 : Nat)) + (32 : Nat)) ≤ nm), (((0 : Int) ≤ ((k : Nat) : Int)) ∧ (((k : Nat) : Int) < ((n : Nat) : Int))), ((decide (((k : Nat) : Int) < ((n : Nat) : Int))) = true)]) (by kernel_rfl)
    (AllP_cons (by first | omega | (simp (disch := omega) only [wrapI]; omega)) (AllP_cons ⟨(by first | omega | (simp (disch := omega) only [wrapI]; omega)), (by first | omega | (simp (disch := omega) only [wrapI]; omega))⟩ (AllP_cons (by first | omega | (simp (disch := omega) only [wrapI]; omega)) (AllP_cons ⟨(by first | omega | (simp (disch := omega) only [wrapI]; omega)), (by first | omega | (simp (disch := omega) only [wrapI]; omega))⟩ (AllP_cons (decide_eq_true (by first | omega | (simp (disch := omega) only [wrapI]; omega))) (AllP_nil))))))
  rw [e0] at h
  exact h

set_option maxHeartbeats 1000000 in
theorem gs0L2_last (n : Nat) (nm : Nat) (l : List Int) (cap1 : Nat) (h0 : (nm = (n * (32 : Nat)))) (h1 : (n ≤ (4398046510976 : Nat))) (hc1 : n ≤ cap1) (hl1_0 : List.length l = nm) (w : World) (rw : List Nat) (β : Env) (s : (List Int)) : Run Try.prog ⟨w, rw, 2, β⟩ (loopB Try.f45 2) (gs0L2_mk n nm l cap1 n s) (To ⟨w, rw, 2, β⟩ (.exit 2) (gs0L2_mk n nm l cap1 n s)) :=
  Run.of_outT (B := ⟨w, rw, 2, β⟩) (Λ := noLam) (Ψ := noPsi) (fuel := 0) (ora := [false]) (l := [.forget [0, 1, 4, 5, 6, 7, 8, 9, 10, 11] 3]) mix tabOkRB gam84_ok
    (vc := [((decide (((n : Nat) : Int) < ((n : Nat) : Int))) = false)]) (by kernel_rfl)
    (AllP_cons (decide_eq_false (by first | omega | (simp (disch := omega) only [wrapI]; omega))) (AllP_nil))

theorem gs0L2_loop (n : Nat) (nm : Nat) (l : List Int) (cap1 : Nat) (h0 : (nm = (n * (32 : Nat)))) (h1 : (n ≤ (4398046510976 : Nat))) (hc1 : n ≤ cap1) (hl1_0 : List.length l = nm) (w : World) (rw : List Nat) (β : Env) (s : (List Int)) : Run Try.prog ⟨w, rw, 2, β⟩ (.block 2 (.loop (loopB Try.f45 2))) (gs0L2_mk n nm l cap1 0 s) (To ⟨w, rw, 2, β⟩ .normal (gs0L2_mk n nm l cap1 n (iter (gs0L2_step l) n s))) :=
  Run.count (fun k => gs0L2_mk n nm l cap1 k (iter (gs0L2_step l) k s)) n (fun k hk => gs0L2_round n nm l cap1 h0 h1 hc1 hl1_0 w rw β k hk _) (ex := (.exit 2)) (by simp) (gs0L2_last n nm l cap1 h0 h1 hc1 hl1_0 w rw β _)

def gs0L2_out0 (l : List Int) (n : Nat) (i0 : List Int) : List Int := (iter (gs0L2_step l) n (i0))

def gs0 (n : Nat) : Nat :=
  (n + (3 : Nat))

def gs0_1 (n : Nat) : Nat :=
  ((n + (3 : Nat)) * (32 : Nat))

def gs0_2 (n : Nat) (l : List Int) : List Int :=
  (gs0L2_out0 l n (gs0L0_out0 n (List.replicate ((n + (3 : Nat)) * (32 : Nat)) (0 : Int))))

def gs0_3 (n : Nat) : Nat :=
  (copyS (n + (3 : Nat)))

def gs0_4 (n : Nat) (l : List Int) : List Int :=
  (copyS_1 (n + (3 : Nat)) (sub (gs0L2_out0 l n (gs0L0_out0 n (List.replicate ((n + (3 : Nat)) * (32 : Nat)) (0 : Int)))) (0 : Nat) ((n + (3 : Nat)) * (32 : Nat))))

set_option maxHeartbeats 1000000 in
theorem gs0_body0 (n : Nat) (nm : Nat) (l : List Int) (cap1 : Nat) (h0 : (nm = (n * (32 : Nat)))) (h1 : (n ≤ (4398046510976 : Nat))) (hc1 : n ≤ cap1) (hl1_0 : List.length l = nm) (w : World) (rw : List Nat) (β : Env) : Body Try.prog (tabOf tabRB) Try.f45 ⟨w, rw, 2, β⟩ [.o (.a (.p 0 0)), .o (.a (.sl 1 (0 : Nat) n cap1))] [some ⟨true, [.raw (.slice none 0 0), .raw (.slice none 0 0), .raw (.slice none 0 0), .raw (.slice none 0 0), .raw (.slice none 0 0), .raw (.slice none 0 0), .raw (.slice none 0 0), .raw (.slice none 0 0), .raw (.slice none 0 0), .raw (.slice none 0 0), .raw (.slice none 0 0), .raw (.slice none 0 0), .raw (.slice none 0 0), .raw (.slice none 0 0), .raw (.slice none 0 0), .raw (.slice none 0 0), .raw (.slice none 0 0), .raw (.slice none 0 0), .raw (.slice none 0 0), .raw (.slice none 0 0), .raw (.slice none 0 0), .raw (.slice none 0 0), .raw (.slice none 0 0), .raw (.slice none 0 0), .raw (.slice none 0 0), .raw (.slice none 0 0), .raw (.slice none 0 0), .raw (.slice none 0 0), .raw (.slice none 0 0), .raw (.slice none 0 0)]⟩, some ⟨false, [.ints .u8 nm l]⟩] (fun ys K' => ys = [.a (.sl 2 (0 : Nat) n (gs0 n))] ∧ K' = [some ⟨true, [.raw (.slice none 0 0), .raw (.slice none 0 0), .raw (.slice none 0 0), .raw (.slice none 0 0), .raw (.slice none 0 0), .raw (.slice none 0 0), .raw (.slice none 0 0), .raw (.slice none 0 0), .rs 3 (0 : Nat) (1 : Nat) 1, .rs 5 (0 : Nat) (1 : Nat) 1, .raw (.slice none 0 0), .raw (.slice none 0 0), .raw (.slice none 0 0), .raw (.slice none 0 0), .raw (.slice none 0 0), .raw (.slice none 0 0), .raw (.slice none 0 0), .raw (.slice none 0 0), .raw (.slice none 0 0), .raw (.slice none 0 0), .raw (.slice none 0 0), .raw (.slice none 0 0), .raw (.slice none 0 0), .raw (.slice none 0 0), .raw (.slice none 0 0), .raw (.slice none 0 0), .raw (.slice none 0 0), .raw (.slice none 0 0), .raw (.slice none 0 0), .raw (.slice none 0 0)]⟩, some ⟨false, [.ints .u8 nm l]⟩, some ⟨true, [.ints .u8 (gs0_1 n) (gs0_2 n l)]⟩, some ⟨true, [.sl 2 (0 : Nat) (gs0 n) (gs0 n)]⟩, some ⟨true, [.ints .u8 (gs0_3 n) (gs0_4 n l)]⟩, some ⟨true, [.rs 4 (0 : Nat) (gs0 n) 32]⟩]) :=
  Body.of_finK (Γ := gam84) (Λ := lamOf [(0, ⟨[.forget [0, 1, 4, 5, 6, 8, 9, 10, 11] 3], .normal, (gs0L0_mk n nm l cap1 (n + (3 : Nat)) (iter (gs0L0_step) (n + (3 : Nat)) ((List.replicate ((n + (3 : Nat)) * (32 : Nat)) (0 : Int)))))⟩), (2, ⟨[.forget [0, 1, 4, 5, 6, 7, 8, 9, 10, 11] 3], .normal, (gs0L2_mk n nm l cap1 n (iter (gs0L2_step l) n ((gs0L0_out0 n (List.replicate ((n + (3 : Nat)) * (32 : Nat)) (0 : Int))))))⟩)]) (Ψ := psiOf [(1, [.eqS 5 (.o (.a (.sl 2 (0 : Nat) (n + (3 : Nat)) (n + (3 : Nat))))), .eqB 2 (⟨true, [.ints .u8 ((n + (3 : Nat)) * (32 : Nat)) (List.replicate ((n + (3 : Nat)) * (32 : Nat)) (0 : Int))]⟩)])]) (fuel := 0) (m := 61) (c := (Try.f45.body.getD .skip)) mix tabOkRB gam84_ok rfl (rs := [.tmp 4]) rfl rfl [false, false] [.swap 3 4, .swap 4 5, .swap 5 7] 6
    (vc := [(((0 : Int) ≤ (0 : Int)) ∧ ((0 : Int) ≤ ((n : Nat) : Int)) ∧ (((n : Nat) : Int) ≤ (((n + (3 : Nat)) : Nat) : Int))), ((((1 : Nat) ≤ (1 : Nat)) ∧ True) ∧ ((24 : Nat) ≤ (140737488355328 : Nat))), (((((0 : Nat) + ((n + (3 : Nat)) * (32 : Nat))) ≤ ((n + (3 : Nat)) * (32 : Nat))) ∧ True) ∧ ((((n + (3 : Nat)) * (32 : Nat)) = ((n + (3 : Nat)) * (32 : Nat))) ∧ ((n + (3 : Nat)) ≤ (4398046511104 : Nat)))), ((((1 : Nat) ≤ (1 : Nat)) ∧ True) ∧ ((24 : Nat) ≤ (140737488355328 : Nat))), (Run Try.prog ⟨w, rw, 2, β⟩ (.block 2 (.loop (loopB Try.f45 2))) (gs0L2_mk n nm l cap1 0 ((gs0L0_out0 n (List.replicate ((n + (3 : Nat)) * (32 : Nat)) (0 : Int))))) (To ⟨w, rw, 2, β⟩ .normal (gs0L2_mk n nm l cap1 n (iter (gs0L2_step l) n ((gs0L0_out0 n (List.replicate ((n + (3 : Nat)) * (32 : Nat)) (0 : Int)))))))), (Run Try.prog ⟨w, rw, 2, β⟩ (.block 0 (.loop (loopB Try.f45 0))) (gs0L0_mk n nm l cap1 0 ((List.replicate ((n + (3 : Nat)) * (32 : Nat)) (0 : Int)))) (To ⟨w, rw, 2, β⟩ .normal (gs0L0_mk n nm l cap1 (n + (3 : Nat)) (iter (gs0L0_step) (n + (3 : Nat)) ((List.replicate ((n + (3 : Nat)) * (32 : Nat)) (0 : Int))))))), ((some ⟨true, [.ints .u8 ((Int.toNat (IntKind.i64.wrap (((n : Nat) : Int) + (3 : Int)))) * (32 : Nat)) (List.replicate ((Int.toNat (IntKind.i64.wrap (((n : Nat) : Int) + (3 : Int)))) * (32 : Nat)) (0 : Int))]⟩ : Option Blk) = some ⟨true, [.ints .u8 ((n + (3 : Nat)) * (32 : Nat)) (List.replicate ((n + (3 : Nat)) * (32 : Nat)) (0 : Int))]⟩), ((.o (.a (.sl 2 (0 : Nat) (Int.toNat (IntKind.i64.wrap (((n : Nat) : Int) + (3 : Int)))) (Int.toNat (IntKind.i64.wrap (((n : Nat) : Int) + (3 : Int)))))) : AV) = .o (.a (.sl 2 (0 : Nat) (n + (3 : Nat)) (n + (3 : Nat))))), (((0 : Int) ≤ (IntKind.i64.wrap (((n : Nat) : Int) + (3 : Int)))) ∧ ((IntKind.i64.wrap (((n : Nat) : Int) + (3 : Int))) ≤ (IntKind.i64.wrap (((n : Nat) : Int) + (3 : Int)))) ∧ (((IntKind.i64.wrap (((n : Nat) : Int) + (3 : Int))) * (32 : Int)) ≤ (281474976710656 : Int)))]) (by kernel_rfl)
    (AllP_cons ⟨(by decide), (by first | omega | (simp (disch := omega) only [wrapI]; omega)), (by first | omega | (simp (disch := omega) only [wrapI]; omega))⟩ (AllP_cons ⟨⟨(by decide), trivial⟩, (by decide)⟩ (AllP_cons ⟨⟨(by first | omega | (simp (disch := omega) only [wrapI]; omega)), trivial⟩, ⟨rfl, (by first | omega | (simp (disch := omega) only [wrapI]; omega))⟩⟩ (AllP_cons ⟨⟨(by decide), trivial⟩, (by decide)⟩ (AllP_cons (gs0L2_loop n nm l cap1 h0 h1 hc1 hl1_0 w rw β ((gs0L0_out0 n (List.replicate ((n + (3 : Nat)) * (32 : Nat)) (0 : Int))))) (AllP_cons (gs0L0_loop n nm l cap1 h0 h1 hc1 hl1_0 w rw β ((List.replicate ((n + (3 : Nat)) * (32 : Nat)) (0 : Int)))) (AllP_cons ((by rw [show Int.toNat (IntKind.i64.wrap (((n : Nat) : Int) + (3 : Int))) = n + 3 from by rw [wrapI (by omega) (by omega)]; rfl])) (AllP_cons ((by rw [show Int.toNat (IntKind.i64.wrap (((n : Nat) : Int) + (3 : Int))) = n + 3 from by rw [wrapI (by omega) (by omega)]; rfl])) (AllP_cons ⟨(by first | omega | (simp (disch := omega) only [wrapI]; omega)), (by first | omega | (simp (disch := omega) only [wrapI]; omega)), (by first | omega | (simp (disch := omega) only [wrapI]; omega))⟩ (AllP_nil))))))))))

theorem gs0_body (n : Nat) (nm : Nat) (l : List Int) (cap1 : Nat) (h0 : (nm = (n * (32 : Nat)))) (h1 : (n ≤ (4398046510976 : Nat))) (w : World) (rw : List Nat) (β : Env) : Body Try.prog (tabOf tabRB) Try.f45 ⟨w, rw, 2, β⟩ [.o (.a (.p 0 0)), .o (.a (.sl 1 (0 : Nat) n cap1))] [some ⟨true, [.raw (.slice none 0 0), .raw (.slice none 0 0), .raw (.slice none 0 0), .raw (.slice none 0 0), .raw (.slice none 0 0), .raw (.slice none 0 0), .raw (.slice none 0 0), .raw (.slice none 0 0), .raw (.slice none 0 0), .raw (.slice none 0 0), .raw (.slice none 0 0), .raw (.slice none 0 0), .raw (.slice none 0 0), .raw (.slice none 0 0), .raw (.slice none 0 0), .raw (.slice none 0 0), .raw (.slice none 0 0), .raw (.slice none 0 0), .raw (.slice none 0 0), .raw (.slice none 0 0), .raw (.slice none 0 0), .raw (.slice none 0 0), .raw (.slice none 0 0), .raw (.slice none 0 0), .raw (.slice none 0 0), .raw (.slice none 0 0), .raw (.slice none 0 0), .raw (.slice none 0 0), .raw (.slice none 0 0), .raw (.slice none 0 0)]⟩, some ⟨false, [.ints .u8 nm l]⟩] (fun ys K' => ys = [.a (.sl 2 (0 : Nat) n (gs0 n))] ∧ K' = [some ⟨true, [.raw (.slice none 0 0), .raw (.slice none 0 0), .raw (.slice none 0 0), .raw (.slice none 0 0), .raw (.slice none 0 0), .raw (.slice none 0 0), .raw (.slice none 0 0), .raw (.slice none 0 0), .rs 3 (0 : Nat) (1 : Nat) 1, .rs 5 (0 : Nat) (1 : Nat) 1, .raw (.slice none 0 0), .raw (.slice none 0 0), .raw (.slice none 0 0), .raw (.slice none 0 0), .raw (.slice none 0 0), .raw (.slice none 0 0), .raw (.slice none 0 0), .raw (.slice none 0 0), .raw (.slice none 0 0), .raw (.slice none 0 0), .raw (.slice none 0 0), .raw (.slice none 0 0), .raw (.slice none 0 0), .raw (.slice none 0 0), .raw (.slice none 0 0), .raw (.slice none 0 0), .raw (.slice none 0 0), .raw (.slice none 0 0), .raw (.slice none 0 0), .raw (.slice none 0 0)]⟩, some ⟨false, [.ints .u8 nm l]⟩, some ⟨true, [.ints .u8 (gs0_1 n) (gs0_2 n l)]⟩, some ⟨true, [.sl 2 (0 : Nat) (gs0 n) (gs0 n)]⟩, some ⟨true, [.ints .u8 (gs0_3 n) (gs0_4 n l)]⟩, some ⟨true, [.rs 4 (0 : Nat) (gs0 n) 32]⟩]) :=
  Body.lens (c := (Try.f45.body.getD .skip)) rfl fun h => gs0_body0 n nm l cap1 h0 h1 (h.caps 1 _ _ _ _ rfl) (h.lens 1 _ .u8 nm l rfl (by simp)) w rw β

def gs1L0_mk (m : Nat) (mc : Nat) (mz : Nat) (O : List Int) (m2 : Nat) (m2z : Nat) (O2 : List Int) (n : Nat) (nm : Nat) (l : List Int) (cap5 : Nat) (k : Nat) (s : (List Int)) : St := ⟨sparse 61 [(0, .o (.a (.p 0 0))), (1, .o (.a (.sl 5 (0 : Nat) n cap5))), (4, .o (.a (.raw (.slice none 0 0)))), (5, .o (.a (.sl 6 (0 : Nat) (n + (3 : Nat)) (n + (3 : Nat))))), (6, .o (.a (.i .i64 ((k : Nat) : Int)))), (8, .o (.a (.sl 5 (0 : Nat) n cap5))), (9, .o (.a (.i .i64 ((n : Nat) : Int)))), (10, .o (.a (.i .i64 (IntKind.i64.wrap (((n : Nat) : Int) + (3 : Int)))))), (11, .o (.a (.sl 6 (0 : Nat) (Int.toNat (IntKind.i64.wrap (((n : Nat) : Int) + (3 : Int)))) (Int.toNat (IntKind.i64.wrap (((n : Nat) : Int) + (3 : Int)))))))], [some ⟨true, [.raw (.slice none 0 0), .raw (.slice none 0 0), .raw (.slice none 0 0), .raw (.slice none 0 0), .raw (.slice none 0 0), .raw (.slice none 0 0), .raw (.slice none 0 0), .raw (.slice none 0 0), .rs 1 (0 : Nat) (1 : Nat) 1, .rs 3 (0 : Nat) (1 : Nat) 1, .raw (.slice none 0 0), .raw (.slice none 0 0), .raw (.slice none 0 0), .raw (.slice none 0 0), .raw (.slice none 0 0), .raw (.slice none 0 0), .raw (.slice none 0 0), .raw (.slice none 0 0), .raw (.slice none 0 0), .raw (.slice none 0 0), .raw (.slice none 0 0), .raw (.slice none 0 0), .raw (.slice none 0 0), .raw (.slice none 0 0), .raw (.slice none 0 0), .raw (.slice none 0 0), .raw (.slice none 0 0), .raw (.slice none 0 0), .raw (.slice none 0 0), .raw (.slice none 0 0)]⟩, some ⟨true, [.sl 2 (0 : Nat) m mc]⟩, some ⟨true, [.ints .u8 mz O]⟩, some ⟨true, [.rs 4 (0 : Nat) m2 32]⟩, some ⟨true, [.ints .u8 m2z O2]⟩, some ⟨false, [.ints .u8 nm l]⟩, some ⟨true, [.ints .u8 ((n + (3 : Nat)) * (32 : Nat)) s]⟩]⟩

def gs1L0_step (k : Nat) (s : (List Int)) : (List Int) :=
  ((splice s (k * (32 : Nat)) (32 : Nat) (markS (987 : Int) ((k : Nat) : Int))))

set_option maxHeartbeats 1000000 in
theorem gs1L0_round (m : Nat) (mc : Nat) (mz : Nat) (O : List Int) (m2 : Nat) (m2z : Nat) (O2 : List Int) (n : Nat) (nm : Nat) (l : List Int) (cap5 : Nat) (h0 : (nm = (n * (32 : Nat)))) (h1 : (n ≤ (4398046510976 : Nat))) (hc5 : n ≤ cap5) (hl2_0 : List.length O = mz) (hl4_0 : List.length O2 = m2z) (hl5_0 : List.length l = nm) (w : World) (rw : List Nat) (β : Env) (k : Nat) (hk : k < (n + (3 : Nat))) (s : (List Int)) : Run Try.prog ⟨w, rw, 6, β⟩ (loopB Try.f45 0) (gs1L0_mk m mc mz O m2 m2z O2 n nm l cap5 k s) (To ⟨w, rw, 6, β⟩ .normal (gs1L0_mk m mc mz O m2 m2z O2 n nm l cap5 (k + 1) (gs1L0_step k s))) := by
  have e0 : (IntKind.i64.wrap (((k : Nat) : Int) + (1 : Int))) = (((k + (1 : Nat)) : Nat) : Int) := (by first | rfl | exact wrap_succ (by omega) | omega | (simp (disch := omega) only [wrapI]; omega))
  have h := Run.of_outT (B := ⟨w, rw, 6, β⟩) (Λ := noLam) (Ψ := noPsi) (fuel := 0) (ora := [true]) (c := (loopB Try.f45 0)) (st := (gs1L0_mk m mc mz O m2 m2z O2 n nm l cap5 k s)) (l := [.forget [0, 1, 4, 5, 6, 8, 9, 10, 11] 7]) (s' := ⟨sparse 61 [(0, .o (.a (.p 0 0))), (1, .o (.a (.sl 5 (0 : Nat) n cap5))), (4, .o (.a (.raw (.slice none 0 0)))), (5, .o (.a (.sl 6 (0 : Nat) (n + (3 : Nat)) (n + (3 : Nat))))), (6, .o (.a (.i .i64 (IntKind.i64.wrap (((k : Nat) : Int) + (1 : Int)))))), (8, .o (.a (.sl 5 (0 : Nat) n cap5))), (9, .o (.a (.i .i64 ((n : Nat) : Int)))), (10, .o (.a (.i .i64 (IntKind.i64.wrap (((n : Nat) : Int) + (3 : Int)))))), (11, .o (.a (.sl 6 (0 : Nat) (Int.toNat (IntKind.i64.wrap (((n : Nat) : Int) + (3 : Int)))) (Int.toNat (IntKind.i64.wrap (((n : Nat) : Int) + (3 : Int)))))))], [some ⟨true, [.raw (.slice none 0 0), .raw (.slice none 0 0), .raw (.slice none 0 0), .raw (.slice none 0 0), .raw (.slice none 0 0), .raw (.slice none 0 0), .raw (.slice none 0 0), .raw (.slice none 0 0), .rs 1 (0 : Nat) (1 : Nat) 1, .rs 3 (0 : Nat) (1 : Nat) 1, .raw (.slice none 0 0), .raw (.slice none 0 0), .raw (.slice none 0 0), .raw (.slice none 0 0), .raw (.slice none 0 0), .raw (.slice none 0 0), .raw (.slice none 0 0), .raw (.slice none 0 0), .raw (.slice none 0 0), .raw (.slice none 0 0), .raw (.slice none 0 0), .raw (.slice none 0 0), .raw (.slice none 0 0), .raw (.slice none 0 0), .raw (.slice none 0 0), .raw (.slice none 0 0), .raw (.slice none 0 0), .raw (.slice none 0 0), .raw (.slice none 0 0), .raw (.slice none 0 0)]⟩, some ⟨true, [.sl 2 (0 : Nat) m mc]⟩, some ⟨true, [.ints .u8 mz O]⟩, some ⟨true, [.rs 4 (0 : Nat) m2 32]⟩, some ⟨true, [.ints .u8 m2z O2]⟩, some ⟨false, [.ints .u8 nm l]⟩, some ⟨true, [.ints .u8 ((n + (3 : Nat)) * (32 : Nat)) (gs1L0_step k s)]⟩]⟩) (ex := .normal) mix tabOkRB gam84_ok
    (vc := [(((k * (32 : Nat)) + (32 : Nat)) ≤ ((n + (3 : Nat)) * (32 : Nat))), (((0 : Int) ≤ ((k : Nat) : Int)) ∧ (((k : Nat) : Int) < (((n + (3 : Nat)) : Nat) : Int))), ((decide (((k : Nat) : Int) < (((n + (3 : Nat)) : Nat) : Int))) = true)]) (by kernel_rfl)
    (AllP_cons (by first | omega | (simp (disch := omega) only [wrapI]; omega)) (AllP_cons ⟨(by first | omega | (simp (disch := omega) only [wrapI]; omega)), (by first | omega | (simp (disch := omega) only [wrapI]; omega))⟩ (AllP_cons (decide_eq_true (by first | omega | (simp (disch := omega) only [wrapI]; omega))) (AllP_nil))))
  rw [e0] at h
  exact h

set_option maxHeartbeats 1000000 in
theorem gs1L0_last (m : Nat) (mc : Nat) (mz : Nat) (O : List Int) (m2 : Nat) (m2z : Nat) (O2 : List Int) (n : Nat) (nm : Nat) (l : List Int) (cap5 : Nat) (h0 : (nm = (n * (32 : Nat)))) (h1 : (n ≤ (4398046510976 : Nat))) (hc5 : n ≤ cap5) (hl2_0 : List.length O = mz) (hl4_0 : List.length O2 = m2z) (hl5_0 : List.length l = nm) (w : World) (rw : List Nat) (β : Env) (s : (List Int)) : Run Try.prog ⟨w, rw, 6, β⟩ (loopB Try.f45 0) (gs1L0_mk m mc mz O m2 m2z O2 n nm l cap5 (n + (3 : Nat)) s) (To ⟨w, rw, 6, β⟩ (.exit 0) (gs1L0_mk m mc mz O m2 m2z O2 n nm l cap5 (n + (3 : Nat)) s)) :=
  Run.of_outT (B := ⟨w, rw, 6, β⟩) (Λ := noLam) (Ψ := noPsi) (fuel := 0) (ora := [false]) (l := [.forget [0, 1, 4, 5, 6, 8, 9, 10, 11] 7]) mix tabOkRB gam84_ok
    (vc := [((decide ((((n + (3 : Nat)) : Nat) : Int) < (((n + (3 : Nat)) : Nat) : Int))) = false)]) (by kernel_rfl)
    (AllP_cons (decide_eq_false (by first | omega | (simp (disch := omega) only [wrapI]; omega))) (AllP_nil))

theorem gs1L0_loop (m : Nat) (mc : Nat) (mz : Nat) (O : List Int) (m2 : Nat) (m2z : Nat) (O2 : List Int) (n : Nat) (nm : Nat) (l : List Int) (cap5 : Nat) (h0 : (nm = (n * (32 : Nat)))) (h1 : (n ≤ (4398046510976 : Nat))) (hc5 : n ≤ cap5) (hl2_0 : List.length O = mz) (hl4_0 : List.length O2 = m2z) (hl5_0 : List.length l = nm) (w : World) (rw : List Nat) (β : Env) (s : (List Int)) : Run Try.prog ⟨w, rw, 6, β⟩ (.block 0 (.loop (loopB Try.f45 0))) (gs1L0_mk m mc mz O m2 m2z O2 n nm l cap5 0 s) (To ⟨w, rw, 6, β⟩ .normal (gs1L0_mk m mc mz O m2 m2z O2 n nm l cap5 (n + (3 : Nat)) (iter (gs1L0_step) (n + (3 : Nat)) s))) :=
  Run.count (fun k => gs1L0_mk m mc mz O m2 m2z O2 n nm l cap5 k (iter (gs1L0_step) k s)) (n + (3 : Nat)) (fun k hk => gs1L0_round m mc mz O m2 m2z O2 n nm l cap5 h0 h1 hc5 hl2_0 hl4_0 hl5_0 w rw β k hk _) (ex := (.exit 0)) (by simp) (gs1L0_last m mc mz O m2 m2z O2 n nm l cap5 h0 h1 hc5 hl2_0 hl4_0 hl5_0 w rw β _)

def gs1L0_out0 (n : Nat) (i0 : List Int) : List Int := (iter (gs1L0_step) (n + (3 : Nat)) (i0))

def gs1L2_mk (m : Nat) (mc : Nat) (mz : Nat) (O : List Int) (m2 : Nat) (m2z : Nat) (O2 : List Int) (n : Nat) (nm : Nat) (l : List Int) (cap5 : Nat) (k : Nat) (s : (List Int)) : St := ⟨sparse 61 [(0, .o (.a (.p 0 0))), (1, .o (.a (.sl 5 (0 : Nat) n cap5))), (4, .o (.a (.raw (.slice none 0 0)))), (5, .o (.a (.sl 6 (0 : Nat) (n + (3 : Nat)) (n + (3 : Nat))))), (6, .o (.a (.i .i64 (((n + (3 : Nat)) : Nat) : Int)))), (7, .o (.a (.i .i64 ((k : Nat) : Int)))), (8, .o (.a (.sl 5 (0 : Nat) n cap5))), (9, .o (.a (.i .i64 ((n : Nat) : Int)))), (10, .o (.a (.i .i64 (IntKind.i64.wrap (((n : Nat) : Int) + (3 : Int)))))), (11, .o (.a (.sl 6 (0 : Nat) (Int.toNat (IntKind.i64.wrap (((n : Nat) : Int) + (3 : Int)))) (Int.toNat (IntKind.i64.wrap (((n : Nat) : Int) + (3 : Int)))))))], [some ⟨true, [.raw (.slice none 0 0), .raw (.slice none 0 0), .raw (.slice none 0 0), .raw (.slice none 0 0), .raw (.slice none 0 0), .raw (.slice none 0 0), .raw (.slice none 0 0), .raw (.slice none 0 0), .rs 1 (0 : Nat) (1 : Nat) 1, .rs 3 (0 : Nat) (1 : Nat) 1, .raw (.slice none 0 0), .raw (.slice none 0 0), .raw (.slice none 0 0), .raw (.slice none 0 0), .raw (.slice none 0 0), .raw (.slice none 0 0), .raw (.slice none 0 0), .raw (.slice none 0 0), .raw (.slice none 0 0), .raw (.slice none 0 0), .raw (.slice none 0 0), .raw (.slice none 0 0), .raw (.slice none 0 0), .raw (.slice none 0 0), .raw (.slice none 0 0), .raw (.slice none 0 0), .raw (.slice none 0 0), .raw (.slice none 0 0), .raw (.slice none 0 0), .raw (.slice none 0 0)]⟩, some ⟨true, [.sl 2 (0 : Nat) m mc]⟩, some ⟨true, [.ints .u8 mz O]⟩, some ⟨true, [.rs 4 (0 : Nat) m2 32]⟩, some ⟨true, [.ints .u8 m2z O2]⟩, some ⟨false, [.ints .u8 nm l]⟩, some ⟨true, [.ints .u8 ((n + (3 : Nat)) * (32 : Nat)) s]⟩]⟩

def gs1L2_step (l : List Int) (k : Nat) (s : (List Int)) : (List Int) :=
  ((splice s (k * (32 : Nat)) (32 : Nat) (sub l (k * (32 : Nat)) (32 : Nat))))

set_option maxHeartbeats 1000000 in
theorem gs1L2_round (m : Nat) (mc : Nat) (mz : Nat) (O : List Int) (m2 : Nat) (m2z : Nat) (O2 : List Int) (n : Nat) (nm : Nat) (l : List Int) (cap5 : Nat) (h0 : (nm = (n * (32 : Nat)))) (h1 : (n ≤ (4398046510976 : Nat))) (hc5 : n ≤ cap5) (hl2_0 : List.length O = mz) (hl4_0 : List.length O2 = m2z) (hl5_0 : List.length l = nm) (w : World) (rw : List Nat) (β : Env) (k : Nat) (hk : k < n) (s : (List Int)) : Run Try.prog ⟨w, rw, 6, β⟩ (loopB Try.f45 2) (gs1L2_mk m mc mz O m2 m2z O2 n nm l cap5 k s) (To ⟨w, rw, 6, β⟩ .normal (gs1L2_mk m mc mz O m2 m2z O2 n nm l cap5 (k + 1) (gs1L2_step l k s))) := by
  have e0 : (IntKind.i64.wrap (((k : Nat) : Int) + (1 : Int))) = (((k + (1 : Nat)) : Nat) : Int) := (by first | rfl | exact wrap_succ (by omega) | omega | (simp (disch := omega) only [wrapI]; omega))
  have h := Run.of_outT (B := ⟨w, rw, 6, β⟩) (Λ := noLam) (Ψ := noPsi) (fuel := 0) (ora := [true]) (c := (loopB Try.f45 2)) (st := (gs1L2_mk m mc mz O m2 m2z O2 n nm l cap5 k s)) (l := [.forget [0, 1, 4, 5, 6, 7, 8, 9, 10, 11] 7]) (s' := ⟨sparse 61 [(0, .o (.a (.p 0 0))), (1, .o (.a (.sl 5 (0 : Nat) n cap5))), (4, .o (.a (.raw (.slice none 0 0)))), (5, .o (.a (.sl 6 (0 : Nat) (n + (3 : Nat)) (n + (3 : Nat))))), (6, .o (.a (.i .i64 (((n + (3 : Nat)) : Nat) : Int)))), (7, .o (.a (.i .i64 (IntKind.i64.wrap (((k : Nat) : Int) + (1 : Int)))))), (8, .o (.a (.sl 5 (0 : Nat) n cap5))), (9, .o (.a (.i .i64 ((n : Nat) : Int)))), (10, .o (.a (.i .i64 (IntKind.i64.wrap (((n : Nat) : Int) + (3 : Int)))))), (11, .o (.a (.sl 6 (0 : Nat) (Int.toNat (IntKind.i64.wrap (((n : Nat) : Int) + (3 : Int)))) (Int.toNat (IntKind.i64.wrap (((n : Nat) : Int) + (3 : Int)))))))], [some ⟨true, [.raw (.slice none 0 0), .raw (.slice none 0 0), .raw (.slice none 0 0), .raw (.slice none 0 0), .raw (.slice none 0 0), .raw (.slice none 0 0), .raw (.slice none 0 0), .raw (.slice none 0 0), .rs 1 (0 : Nat) (1 : Nat) 1, .rs 3 (0 : Nat) (1 : Nat) 1, .raw (.slice none 0 0), .raw (.slice none 0 0), .raw (.slice none 0 0), .raw (.slice none 0 0), .raw (.slice none 0 0), .raw (.slice none 0 0), .raw (.slice none 0 0), .raw (.slice none 0 0), .raw (.slice none 0 0), .raw (.slice none 0 0), .raw (.slice none 0 0), .raw (.slice none 0 0), .raw (.slice none 0 0), .raw (.slice none 0 0), .raw (.slice none 0 0), .raw (.slice none 0 0), .raw (.slice none 0 0), .raw (.slice none 0 0), .raw (.slice none 0 0), .raw (.slice none 0 0)]⟩, some ⟨true, [.sl 2 (0 : Nat) m mc]⟩, some ⟨true, [.ints .u8 mz O]⟩, some ⟨true, [.rs 4 (0 : Nat) m2 32]⟩, some ⟨true, [.ints .u8 m2z O2]⟩, some ⟨false, [.ints .u8 nm l]⟩, some ⟨true, [.ints .u8 ((n + (3 : Nat)) * (32 : Nat)) (gs1L2_step l k s)]⟩]⟩) (ex := .normal) mix tabOkRB gam84_ok
    (vc := [(((k * (32 : Nat)) + (32 : Nat)) ≤ ((n + (3 : Nat)) * (32 : Nat))), (((0 : Int) ≤ ((k : Nat) : Int)) ∧ (((k : Nat) : Int) < (((n + (3 : Nat)) : Nat) : Int))), (((k * (32 : Nat)) + (32 : Nat)) ≤ nm), (((0 : Int) ≤ ((k : Nat) : Int)) ∧ (((k : Nat) : Int) < ((n : Nat) : Int))), ((decide (((k : Nat) : Int) < ((n : Nat) : Int))) = true)]) (by kernel_rfl)
    (AllP_cons (by first | omega | (simp (disch := omega) only [wrapI]; omega)) (AllP_cons ⟨(by first | omega | (simp (disch := omega) only [wrapI]; omega)), (by first | omega | (simp (disch := omega) only [wrapI]; omega))⟩ (AllP_cons (by first | omega | (simp (disch := omega) only [wrapI]; omega)) (AllP_cons ⟨(by first | omega | (simp (disch := omega) only [wrapI]; omega)), (by first | omega | (simp (disch := omega) only [wrapI]; omega))⟩ (AllP_cons (decide_eq_true (by first | omega | (simp (disch := omega) only [wrapI]; omega))) (AllP_nil))))))
  rw [e0] at h
  exact h

set_option maxHeartbeats 1000000 in
theorem gs1L2_last (m : Nat) (mc : Nat) (mz : Nat) (O : List Int) (m2 : Nat) (m2z : Nat) (O2 : List Int) (n : Nat) (nm : Nat) (l : List Int) (cap5 : Nat) (h0 : (nm = (n * (32 : Nat)))) (h1 : (n ≤ (4398046510976 : Nat))) (hc5 : n ≤ cap5) (hl2_0 : List.length O = mz) (hl4_0 : List.length O2 = m2z) (hl5_0 : List.length l = nm) (w : World) (rw : List Nat) (β : Env) (s : (List Int)) : Run Try.prog ⟨w, rw, 6, β⟩ (loopB Try.f45 2) (gs1L2_mk m mc mz O m2 m2z O2 n nm l cap5 n s) (To ⟨w, rw, 6, β⟩ (.exit 2) (gs1L2_mk m mc mz O m2 m2z O2 n nm l cap5 n s)) :=
  Run.of_outT (B := ⟨w, rw, 6, β⟩) (Λ := noLam) (Ψ := noPsi) (fuel := 0) (ora := [false]) (l := [.forget [0, 1, 4, 5, 6, 7, 8, 9, 10, 11] 7]) mix tabOkRB gam84_ok
    (vc := [((decide (((n : Nat) : Int) < ((n : Nat) : Int))) = false)]) (by kernel_rfl)
    (AllP_cons (decide_eq_false (by first | omega | (simp (disch := omega) only [wrapI]; omega))) (AllP_nil))

theorem gs1L2_loop (m : Nat) (mc : Nat) (mz : Nat) (O : List Int) (m2 : Nat) (m2z : Nat) (O2 : List Int) (n : Nat) (nm : Nat) (l : List Int) (cap5 : Nat) (h0 : (nm = (n * (32 : Nat)))) (h1 : (n ≤ (4398046510976 : Nat))) (hc5 : n ≤ cap5) (hl2_0 : List.length O = mz) (hl4_0 : List.length O2 = m2z) (hl5_0 : List.length l = nm) (w : World) (rw : List Nat) (β : Env) (s : (List Int)) : Run Try.prog ⟨w, rw, 6, β⟩ (.block 2 (.loop (loopB Try.f45 2))) (gs1L2_mk m mc mz O m2 m2z O2 n nm l cap5 0 s) (To ⟨w, rw, 6, β⟩ .normal (gs1L2_mk m mc mz O m2 m2z O2 n nm l cap5 n (iter (gs1L2_step l) n s))) :=
  Run.count (fun k => gs1L2_mk m mc mz O m2 m2z O2 n nm l cap5 k (iter (gs1L2_step l) k s)) n (fun k hk => gs1L2_round m mc mz O m2 m2z O2 n nm l cap5 h0 h1 hc5 hl2_0 hl4_0 hl5_0 w rw β k hk _) (ex := (.exit 2)) (by simp) (gs1L2_last m mc mz O m2 m2z O2 n nm l cap5 h0 h1 hc5 hl2_0 hl4_0 hl5_0 w rw β _)

def gs1L2_out0 (l : List Int) (n : Nat) (i0 : List Int) : List Int := (iter (gs1L2_step l) n (i0))

def gs1 (n : Nat) : Nat :=
  (n + (3 : Nat))

def gs1_1 (n : Nat) : Nat :=
  ((n + (3 : Nat)) * (32 : Nat))

def gs1_2 (n : Nat) (l : List Int) : List Int :=
  (gs1L2_out0 l n (gs1L0_out0 n (List.replicate ((n + (3 : Nat)) * (32 : Nat)) (0 : Int))))

def gs1_3 (n : Nat) : Nat :=
  (copyS (n + (3 : Nat)))

def gs1_4 (n : Nat) (l : List Int) : List Int :=
  (copyS_1 (n + (3 : Nat)) (sub (gs1L2_out0 l n (gs1L0_out0 n (List.replicate ((n + (3 : Nat)) * (32 : Nat)) (0 : Int)))) (0 : Nat) ((n + (3 : Nat)) * (32 : Nat))))

set_option maxHeartbeats 1000000 in
theorem gs1_body0 (m : Nat) (mc : Nat) (mz : Nat) (O : List Int) (m2 : Nat) (m2z : Nat) (O2 : List Int) (n : Nat) (nm : Nat) (l : List Int) (cap5 : Nat) (h0 : (nm = (n * (32 : Nat)))) (h1 : (n ≤ (4398046510976 : Nat))) (hc5 : n ≤ cap5) (hl2_0 : List.length O = mz) (hl4_0 : List.length O2 = m2z) (hl5_0 : List.length l = nm) (w : World) (rw : List Nat) (β : Env) : Body Try.prog (tabOf tabRB) Try.f45 ⟨w, rw, 6, β⟩ [.o (.a (.p 0 0)), .o (.a (.sl 5 (0 : Nat) n cap5))] [some ⟨true, [.raw (.slice none 0 0), .raw (.slice none 0 0), .raw (.slice none 0 0), .raw (.slice none 0 0), .raw (.slice none 0 0), .raw (.slice none 0 0), .raw (.slice none 0 0), .raw (.slice none 0 0), .rs 1 (0 : Nat) (1 : Nat) 1, .rs 3 (0 : Nat) (1 : Nat) 1, .raw (.slice none 0 0), .raw (.slice none 0 0), .raw (.slice none 0 0), .raw (.slice none 0 0), .raw (.slice none 0 0), .raw (.slice none 0 0), .raw (.slice none 0 0), .raw (.slice none 0 0), .raw (.slice none 0 0), .raw (.slice none 0 0), .raw (.slice none 0 0), .raw (.slice none 0 0), .raw (.slice none 0 0), .raw (.slice none 0 0), .raw (.slice none 0 0), .raw (.slice none 0 0), .raw (.slice none 0 0), .raw (.slice none 0 0), .raw (.slice none 0 0), .raw (.slice none 0 0)]⟩, some ⟨true, [.sl 2 (0 : Nat) m mc]⟩, some ⟨true, [.ints .u8 mz O]⟩, some ⟨true, [.rs 4 (0 : Nat) m2 32]⟩, some ⟨true, [.ints .u8 m2z O2]⟩, some ⟨false, [.ints .u8 nm l]⟩] (fun ys K' => ys = [.a (.sl 6 (0 : Nat) n (gs1 n))] ∧ K' = [some ⟨true, [.raw (.slice none 0 0), .raw (.slice none 0 0), .raw (.slice none 0 0), .raw (.slice none 0 0), .raw (.slice none 0 0), .raw (.slice none 0 0), .raw (.slice none 0 0), .raw (.slice none 0 0), .rs 8 (0 : Nat) (2 : Nat) 1, .rs 11 (0 : Nat) (2 : Nat) 1, .raw (.slice none 0 0), .raw (.slice none 0 0), .raw (.slice none 0 0), .raw (.slice none 0 0), .raw (.slice none 0 0), .raw (.slice none 0 0), .raw (.slice none 0 0), .raw (.slice none 0 0), .raw (.slice none 0 0), .raw (.slice none 0 0), .raw (.slice none 0 0), .raw (.slice none 0 0), .raw (.slice none 0 0), .raw (.slice none 0 0), .raw (.slice none 0 0), .raw (.slice none 0 0), .raw (.slice none 0 0), .raw (.slice none 0 0), .raw (.slice none 0 0), .raw (.slice none 0 0)]⟩, none, some ⟨true, [.ints .u8 mz O]⟩, none, some ⟨true, [.ints .u8 m2z O2]⟩, some ⟨false, [.ints .u8 nm l]⟩, some ⟨true, [.ints .u8 (gs1_1 n) (gs1_2 n l)]⟩, some ⟨true, [.sl 6 (0 : Nat) (gs1 n) (gs1 n)]⟩, some ⟨true, [.sl 2 (0 : Nat) m mc, .sl 6 (0 : Nat) (gs1 n) (gs1 n)]⟩, some ⟨true, [.ints .u8 (gs1_3 n) (gs1_4 n l)]⟩, some ⟨true, [.rs 9 (0 : Nat) (gs1 n) 32]⟩, some ⟨true, [.rs 4 (0 : Nat) m2 32, .rs 9 (0 : Nat) (gs1 n) 32]⟩]) :=
  Body.of_finK (Γ := gam84) (Λ := lamOf [(0, ⟨[.forget [0, 1, 4, 5, 6, 8, 9, 10, 11] 7], .normal, (gs1L0_mk m mc mz O m2 m2z O2 n nm l cap5 (n + (3 : Nat)) (iter (gs1L0_step) (n + (3 : Nat)) ((List.replicate ((n + (3 : Nat)) * (32 : Nat)) (0 : Int)))))⟩), (2, ⟨[.forget [0, 1, 4, 5, 6, 7, 8, 9, 10, 11] 7], .normal, (gs1L2_mk m mc mz O m2 m2z O2 n nm l cap5 n (iter (gs1L2_step l) n ((gs1L0_out0 n (List.replicate ((n + (3 : Nat)) * (32 : Nat)) (0 : Int))))))⟩)]) (Ψ := psiOf [(1, [.eqS 5 (.o (.a (.sl 6 (0 : Nat) (n + (3 : Nat)) (n + (3 : Nat))))), .eqB 6 (⟨true, [.ints .u8 ((n + (3 : Nat)) * (32 : Nat)) (List.replicate ((n + (3 : Nat)) * (32 : Nat)) (0 : Int))]⟩)])]) (fuel := 0) (m := 61) (c := (Try.f45.body.getD .skip)) mix tabOkRB gam84_ok rfl (rs := [.tmp 4]) rfl rfl [false, false] [] 12
    (vc := [(((0 : Int) ≤ (0 : Int)) ∧ ((0 : Int) ≤ ((n : Nat) : Int)) ∧ (((n : Nat) : Int) ≤ (((n + (3 : Nat)) : Nat) : Int))), (True ∧ (((1 : Nat) ≤ (1 : Nat)) ∧ True) ∧ ((48 : Nat) ≤ (140737488355328 : Nat))), (((((0 : Nat) + ((n + (3 : Nat)) * (32 : Nat))) ≤ ((n + (3 : Nat)) * (32 : Nat))) ∧ True) ∧ ((((n + (3 : Nat)) * (32 : Nat)) = ((n + (3 : Nat)) * (32 : Nat))) ∧ ((n + (3 : Nat)) ≤ (4398046511104 : Nat)))), (True ∧ (((1 : Nat) ≤ (1 : Nat)) ∧ True) ∧ ((48 : Nat) ≤ (140737488355328 : Nat))), (Run Try.prog ⟨w, rw, 6, β⟩ (.block 2 (.loop (loopB Try.f45 2))) (gs1L2_mk m mc mz O m2 m2z O2 n nm l cap5 0 ((gs1L0_out0 n (List.replicate ((n + (3 : Nat)) * (32 : Nat)) (0 : Int))))) (To ⟨w, rw, 6, β⟩ .normal (gs1L2_mk m mc mz O m2 m2z O2 n nm l cap5 n (iter (gs1L2_step l) n ((gs1L0_out0 n (List.replicate ((n + (3 : Nat)) * (32 : Nat)) (0 : Int)))))))), (Run Try.prog ⟨w, rw, 6, β⟩ (.block 0 (.loop (loopB Try.f45 0))) (gs1L0_mk m mc mz O m2 m2z O2 n nm l cap5 0 ((List.replicate ((n + (3 : Nat)) * (32 : Nat)) (0 : Int)))) (To ⟨w, rw, 6, β⟩ .normal (gs1L0_mk m mc mz O m2 m2z O2 n nm l cap5 (n + (3 : Nat)) (iter (gs1L0_step) (n + (3 : Nat)) ((List.replicate ((n + (3 : Nat)) * (32 : Nat)) (0 : Int))))))), ((some ⟨true, [.ints .u8 ((Int.toNat (IntKind.i64.wrap (((n : Nat) : Int) + (3 : Int)))) * (32 : Nat)) (List.replicate ((Int.toNat (IntKind.i64.wrap (((n : Nat) : Int) + (3 : Int)))) * (32 : Nat)) (0 : Int))]⟩ : Option Blk) = some ⟨true, [.ints .u8 ((n + (3 : Nat)) * (32 : Nat)) (List.replicate ((n + (3 : Nat)) * (32 : Nat)) (0 : Int))]⟩), ((.o (.a (.sl 6 (0 : Nat) (Int.toNat (IntKind.i64.wrap (((n : Nat) : Int) + (3 : Int)))) (Int.toNat (IntKind.i64.wrap (((n : Nat) : Int) + (3 : Int)))))) : AV) = .o (.a (.sl 6 (0 : Nat) (n + (3 : Nat)) (n + (3 : Nat))))), (((0 : Int) ≤ (IntKind.i64.wrap (((n : Nat) : Int) + (3 : Int)))) ∧ ((IntKind.i64.wrap (((n : Nat) : Int) + (3 : Int))) ≤ (IntKind.i64.wrap (((n : Nat) : Int) + (3 : Int)))) ∧ (((IntKind.i64.wrap (((n : Nat) : Int) + (3 : Int))) * (32 : Int)) ≤ (281474976710656 : Int)))]) (by kernel_rfl)
    (AllP_cons ⟨(by decide), (by first | omega | (simp (disch := omega) only [wrapI]; omega)), (by first | omega | (simp (disch := omega) only [wrapI]; omega))⟩ (AllP_cons ⟨trivial, ⟨(by decide), trivial⟩, (by decide)⟩ (AllP_cons ⟨⟨(by first | omega | (simp (disch := omega) only [wrapI]; omega)), trivial⟩, ⟨rfl, (by first | omega | (simp (disch := omega) only [wrapI]; omega))⟩⟩ (AllP_cons ⟨trivial, ⟨(by decide), trivial⟩, (by decide)⟩ (AllP_cons (gs1L2_loop m mc mz O m2 m2z O2 n nm l cap5 h0 h1 hc5 hl2_0 hl4_0 hl5_0 w rw β ((gs1L0_out0 n (List.replicate ((n + (3 : Nat)) * (32 : Nat)) (0 : Int))))) (AllP_cons (gs1L0_loop m mc mz O m2 m2z O2 n nm l cap5 h0 h1 hc5 hl2_0 hl4_0 hl5_0 w rw β ((List.replicate ((n + (3 : Nat)) * (32 : Nat)) (0 : Int)))) (AllP_cons ((by rw [show Int.toNat (IntKind.i64.wrap (((n : Nat) : Int) + (3 : Int))) = n + 3 from by rw [wrapI (by omega) (by omega)]; rfl])) (AllP_cons ((by rw [show Int.toNat (IntKind.i64.wrap (((n : Nat) : Int) + (3 : Int))) = n + 3 from by rw [wrapI (by omega) (by omega)]; rfl])) (AllP_cons ⟨(by first | omega | (simp (disch := omega) only [wrapI]; omega)), (by first | omega | (simp (disch := omega) only [wrapI]; omega)), (by first | omega | (simp (disch := omega) only [wrapI]; omega))⟩ (AllP_nil))))))))))

theorem gs1_body (m : Nat) (mc : Nat) (mz : Nat) (O : List Int) (m2 : Nat) (m2z : Nat) (O2 : List Int) (n : Nat) (nm : Nat) (l : List Int) (cap5 : Nat) (h0 : (nm = (n * (32 : Nat)))) (h1 : (n ≤ (4398046510976 : Nat))) (w : World) (rw : List Nat) (β : Env) : Body Try.prog (tabOf tabRB) Try.f45 ⟨w, rw, 6, β⟩ [.o (.a (.p 0 0)), .o (.a (.sl 5 (0 : Nat) n cap5))] [some ⟨true, [.raw (.slice none 0 0), .raw (.slice none 0 0), .raw (.slice none 0 0), .raw (.slice none 0 0), .raw (.slice none 0 0), .raw (.slice none 0 0), .raw (.slice none 0 0), .raw (.slice none 0 0), .rs 1 (0 : Nat) (1 : Nat) 1, .rs 3 (0 : Nat) (1 : Nat) 1, .raw (.slice none 0 0), .raw (.slice none 0 0), .raw (.slice none 0 0), .raw (.slice none 0 0), .raw (.slice none 0 0), .raw (.slice none 0 0), .raw (.slice none 0 0), .raw (.slice none 0 0), .raw (.slice none 0 0), .raw (.slice none 0 0), .raw (.slice none 0 0), .raw (.slice none 0 0), .raw (.slice none 0 0), .raw (.slice none 0 0), .raw (.slice none 0 0), .raw (.slice none 0 0), .raw (.slice none 0 0), .raw (.slice none 0 0), .raw (.slice none 0 0), .raw (.slice none 0 0)]⟩, some ⟨true, [.sl 2 (0 : Nat) m mc]⟩, some ⟨true, [.ints .u8 mz O]⟩, some ⟨true, [.rs 4 (0 : Nat) m2 32]⟩, some ⟨true, [.ints .u8 m2z O2]⟩, some ⟨false, [.ints .u8 nm l]⟩] (fun ys K' => ys = [.a (.sl 6 (0 : Nat) n (gs1 n))] ∧ K' = [some ⟨true, [.raw (.slice none 0 0), .raw (.slice none 0 0), .raw (.slice none 0 0), .raw (.slice none 0 0), .raw (.slice none 0 0), .raw (.slice none 0 0), .raw (.slice none 0 0), .raw (.slice none 0 0), .rs 8 (0 : Nat) (2 : Nat) 1, .rs 11 (0 : Nat) (2 : Nat) 1, .raw (.slice none 0 0), .raw (.slice none 0 0), .raw (.slice none 0 0), .raw (.slice none 0 0), .raw (.slice none 0 0), .raw (.slice none 0 0), .raw (.slice none 0 0), .raw (.slice none 0 0), .raw (.slice none 0 0), .raw (.slice none 0 0), .raw (.slice none 0 0), .raw (.slice none 0 0), .raw (.slice none 0 0), .raw (.slice none 0 0), .raw (.slice none 0 0), .raw (.slice none 0 0), .raw (.slice none 0 0), .raw (.slice none 0 0), .raw (.slice none 0 0), .raw (.slice none 0 0)]⟩, none, some ⟨true, [.ints .u8 mz O]⟩, none, some ⟨true, [.ints .u8 m2z O2]⟩, some ⟨false, [.ints .u8 nm l]⟩, some ⟨true, [.ints .u8 (gs1_1 n) (gs1_2 n l)]⟩, some ⟨true, [.sl 6 (0 : Nat) (gs1 n) (gs1 n)]⟩, some ⟨true, [.sl 2 (0 : Nat) m mc, .sl 6 (0 : Nat) (gs1 n) (gs1 n)]⟩, some ⟨true, [.ints .u8 (gs1_3 n) (gs1_4 n l)]⟩, some ⟨true, [.rs 9 (0 : Nat) (gs1 n) 32]⟩, some ⟨true, [.rs 4 (0 : Nat) m2 32, .rs 9 (0 : Nat) (gs1 n) 32]⟩]) :=
  Body.lens (c := (Try.f45.body.getD .skip)) rfl fun h => gs1_body0 m mc mz O m2 m2z O2 n nm l cap5 h0 h1 (h.caps 1 _ _ _ _ rfl) (h.lens 2 _ .u8 mz O rfl (by simp)) (h.lens 4 _ .u8 m2z O2 rfl (by simp)) (h.lens 5 _ .u8 nm l rfl (by simp)) w rw β

def gam87 : Gam := gfull 45 (selE [.w, .s 32] 1 (gcallE [true] [.w, .s 32] (fun wk vs args => match wk, vs, args with | [⟨true, [.raw (.slice none 0 0), .raw (.slice none 0 0), .raw (.slice none 0 0), .raw (.slice none 0 0), .raw (.slice none 0 0), .raw (.slice none 0 0), .raw (.slice none 0 0), .raw (.slice none 0 0), .raw (.slice none 0 0), .raw (.slice none 0 0), .raw (.slice none 0 0), .raw (.slice none 0 0), .raw (.slice none 0 0), .raw (.slice none 0 0), .raw (.slice none 0 0), .raw (.slice none 0 0), .raw (.slice none 0 0), .raw (.slice none 0 0), .raw (.slice none 0 0), .raw (.slice none 0 0), .raw (.slice none 0 0), .raw (.slice none 0 0), .raw (.slice none 0 0), .raw (.slice none 0 0), .raw (.slice none 0 0), .raw (.slice none 0 0), .raw (.slice none 0 0), .raw (.slice none 0 0), .raw (.slice none 0 0), .raw (.slice none 0 0)]⟩], [⟨_, _, _, [.ints .u8 nm l]⟩], [.o (.a (.p 0 0)), .o (.a (.sl 1 0 n _))] => some ((nm = (n * (32 : Nat))) ∧ (n ≤ (4398046510976 : Nat)), [.a (.sl 2 (0 : Nat) n (gs0 n))], [some ⟨true, [.raw (.slice none 0 0), .raw (.slice none 0 0), .raw (.slice none 0 0), .raw (.slice none 0 0), .raw (.slice none 0 0), .raw (.slice none 0 0), .raw (.slice none 0 0), .raw (.slice none 0 0), .rs 3 (0 : Nat) (1 : Nat) 1, .rs 5 (0 : Nat) (1 : Nat) 1, .raw (.slice none 0 0), .raw (.slice none 0 0), .raw (.slice none 0 0), .raw (.slice none 0 0), .raw (.slice none 0 0), .raw (.slice none 0 0), .raw (.slice none 0 0), .raw (.slice none 0 0), .raw (.slice none 0 0), .raw (.slice none 0 0), .raw (.slice none 0 0), .raw (.slice none 0 0), .raw (.slice none 0 0), .raw (.slice none 0 0), .raw (.slice none 0 0), .raw (.slice none 0 0), .raw (.slice none 0 0), .raw (.slice none 0 0), .raw (.slice none 0 0), .raw (.slice none 0 0)]⟩, some ⟨false, [.ints .u8 nm l]⟩, some ⟨true, [.ints .u8 (gs0_1 n) (gs0_2 n l)]⟩, some ⟨true, [.sl 2 (0 : Nat) (gs0 n) (gs0 n)]⟩, some ⟨true, [.ints .u8 (gs0_3 n) (gs0_4 n l)]⟩, some ⟨true, [.rs 4 (0 : Nat) (gs0 n) 32]⟩]) | _, _, _ => none)) (gcallE [true, true, true, true, true] [.w, .s 32] (fun wk vs args => match wk, vs, args with | [⟨true, [.raw (.slice none 0 0), .raw (.slice none 0 0), .raw (.slice none 0 0), .raw (.slice none 0 0), .raw (.slice none 0 0), .raw (.slice none 0 0), .raw (.slice none 0 0), .raw (.slice none 0 0), .rs 1 (0 : Nat) (1 : Nat) 1, .rs 3 (0 : Nat) (1 : Nat) 1, .raw (.slice none 0 0), .raw (.slice none 0 0), .raw (.slice none 0 0), .raw (.slice none 0 0), .raw (.slice none 0 0), .raw (.slice none 0 0), .raw (.slice none 0 0), .raw (.slice none 0 0), .raw (.slice none 0 0), .raw (.slice none 0 0), .raw (.slice none 0 0), .raw (.slice none 0 0), .raw (.slice none 0 0), .raw (.slice none 0 0), .raw (.slice none 0 0), .raw (.slice none 0 0), .raw (.slice none 0 0), .raw (.slice none 0 0), .raw (.slice none 0 0), .raw (.slice none 0 0)]⟩, ⟨true, [.sl 2 (0 : Nat) m mc]⟩, ⟨true, [.ints .u8 mz O]⟩, ⟨true, [.rs 4 (0 : Nat) m2 32]⟩, ⟨true, [.ints .u8 m2z O2]⟩], [⟨_, _, _, [.ints .u8 nm l]⟩], [.o (.a (.p 0 0)), .o (.a (.sl 5 0 n _))] => some ((nm = (n * (32 : Nat))) ∧ (n ≤ (4398046510976 : Nat)), [.a (.sl 6 (0 : Nat) n (gs1 n))], [some ⟨true, [.raw (.slice none 0 0), .raw (.slice none 0 0), .raw (.slice none 0 0), .raw (.slice none 0 0), .raw (.slice none 0 0), .raw (.slice none 0 0), .raw (.slice none 0 0), .raw (.slice none 0 0), .rs 8 (0 : Nat) (2 : Nat) 1, .rs 11 (0 : Nat) (2 : Nat) 1, .raw (.slice none 0 0), .raw (.slice none 0 0), .raw (.slice none 0 0), .raw (.slice none 0 0), .raw (.slice none 0 0), .raw (.slice none 0 0), .raw (.slice none 0 0), .raw (.slice none 0 0), .raw (.slice none 0 0), .raw (.slice none 0 0), .raw (.slice none 0 0), .raw (.slice none 0 0), .raw (.slice none 0 0), .raw (.slice none 0 0), .raw (.slice none 0 0), .raw (.slice none 0 0), .raw (.slice none 0 0), .raw (.slice none 0 0), .raw (.slice none 0 0), .raw (.slice none 0 0)]⟩, none, some ⟨true, [.ints .u8 mz O]⟩, none, some ⟨true, [.ints .u8 m2z O2]⟩, some ⟨false, [.ints .u8 nm l]⟩, some ⟨true, [.ints .u8 (gs1_1 n) (gs1_2 n l)]⟩, some ⟨true, [.sl 6 (0 : Nat) (gs1 n) (gs1 n)]⟩, some ⟨true, [.sl 2 (0 : Nat) m mc, .sl 6 (0 : Nat) (gs1 n) (gs1 n)]⟩, some ⟨true, [.ints .u8 (gs1_3 n) (gs1_4 n l)]⟩, some ⟨true, [.rs 9 (0 : Nat) (gs1 n) 32]⟩, some ⟨true, [.rs 4 (0 : Nat) m2 32, .rs 9 (0 : Nat) (gs1 n) 32]⟩]) | _, _, _ => none))) gam84
theorem gam87_ok : GamOk Try.prog gam87 := gent_ok gam84_ok Try.call45 (selE_ent (gcallE_ent tabOkRB Try.func45 (by
  intro wk vs args p xs K1 h hv
  split at h
  · simp only [Option.some.injEq, Prod.mk.injEq] at h; obtain ⟨rfl, rfl, rfl⟩ := h; obtain ⟨g0, g1⟩ := hv; exact fun caps w rw β => gs0_body _ _ _ _ g0 g1 w rw β
  · simp at h)) (gcallE_ent tabOkRB Try.func45 (by
  intro wk vs args p xs K1 h hv
  split at h
  · simp only [Option.some.injEq, Prod.mk.injEq] at h; obtain ⟨rfl, rfl, rfl⟩ := h; obtain ⟨g0, g1⟩ := hv; exact fun caps w rw β => gs1_body _ _ _ _ _ _ _ _ _ _ _ g0 g1 w rw β
  · simp at h)))

def sameSL_mk (n : Nat) (nm : Nat) (b : List Int) (m : Nat) (mm : Nat) (c : List Int) (cap0 : Nat) (cap1 : Nat) (k : Nat) (s : Unit) : St := ⟨sparse 26 [(0, .o (.a (.sl 0 (0 : Nat) n cap0))), (1, .o (.a (.sl 1 (0 : Nat) m cap1))), (5, .o (.a (.i .i64 ((k : Nat) : Int)))), (6, .o (.a (.sl 0 (0 : Nat) n cap0))), (7, .o (.a (.i .i64 ((n : Nat) : Int)))), (8, .o (.a (.sl 1 (0 : Nat) m cap1))), (9, .o (.a (.i .i64 ((m : Nat) : Int)))), (10, .o (.a (.b (((n : Nat) : Int) != ((m : Nat) : Int)))))], [some ⟨false, [.ints .u8 nm b]⟩, some ⟨false, [.ints .u8 mm c]⟩]⟩

def sameSL_step (k : Nat) (s : Unit) : Unit :=
  ()

set_option maxHeartbeats 1000000 in
theorem sameSL_round (n : Nat) (nm : Nat) (b : List Int) (m : Nat) (mm : Nat) (c : List Int) (cap0 : Nat) (cap1 : Nat) (h0 : (nm = (n * (32 : Nat)))) (h1 : (mm = (m * (32 : Nat)))) (h2 : (m = n)) (h3 : (b = c)) (h4 : (n ≤ (4398046511104 : Nat))) (hc0 : n ≤ cap0) (hc1 : m ≤ cap1) (hl0_0 : List.length b = nm) (hl1_0 : List.length c = mm) (w : World) (β : Env) (k : Nat) (hk : k < n) (s : Unit) : Run Try.prog ⟨w, [], 2, β⟩ (loopB Try.f47 0) (sameSL_mk n nm b m mm c cap0 cap1 k s) (To ⟨w, [], 2, β⟩ .normal (sameSL_mk n nm b m mm c cap0 cap1 (k + 1) (sameSL_step k s))) := by
  have e0 : (IntKind.i64.wrap (((k : Nat) : Int) + (1 : Int))) = (((k + (1 : Nat)) : Nat) : Int) := (by first | rfl | exact wrap_succ (by omega) | omega | (simp (disch := omega) only [wrapI]; omega))
  have h := Run.of_outT (B := ⟨w, [], 2, β⟩) (Λ := noLam) (Ψ := noPsi) (fuel := 0) (ora := [true, false]) (c := (loopB Try.f47 0)) (st := (sameSL_mk n nm b m mm c cap0 cap1 k s)) (l := [.forget [0, 1, 5, 6, 7, 8, 9, 10] 2]) (s' := ⟨sparse 26 [(0, .o (.a (.sl 0 (0 : Nat) n cap0))), (1, .o (.a (.sl 1 (0 : Nat) m cap1))), (5, .o (.a (.i .i64 (IntKind.i64.wrap (((k : Nat) : Int) + (1 : Int)))))), (6, .o (.a (.sl 0 (0 : Nat) n cap0))), (7, .o (.a (.i .i64 ((n : Nat) : Int)))), (8, .o (.a (.sl 1 (0 : Nat) m cap1))), (9, .o (.a (.i .i64 ((m : Nat) : Int)))), (10, .o (.a (.b (((n : Nat) : Int) != ((m : Nat) : Int)))))], [some ⟨false, [.ints .u8 nm b]⟩, some ⟨false, [.ints .u8 mm c]⟩]⟩) (ex := .normal) mix tabOkRB gam87_ok
    (vc := [((!(decide ((sub b (k * (32 : Nat)) (32 : Nat)) = (sub c (k * (32 : Nat)) (32 : Nat))))) = false), (((k * (32 : Nat)) + (32 : Nat)) ≤ mm), (((0 : Int) ≤ ((k : Nat) : Int)) ∧ (((k : Nat) : Int) < ((m : Nat) : Int))), (((k * (32 : Nat)) + (32 : Nat)) ≤ nm), (((0 : Int) ≤ ((k : Nat) : Int)) ∧ (((k : Nat) : Int) < ((n : Nat) : Int))), ((decide (((k : Nat) : Int) < ((n : Nat) : Int))) = true)]) (by kernel_rfl)
    (AllP_cons (by rw [h3]; exact not_dec rfl) (AllP_cons (by first | omega | (simp (disch := omega) only [wrapI]; omega)) (AllP_cons ⟨(by first | omega | (simp (disch := omega) only [wrapI]; omega)), (by first | omega | (simp (disch := omega) only [wrapI]; omega))⟩ (AllP_cons (by first | omega | (simp (disch := omega) only [wrapI]; omega)) (AllP_cons ⟨(by first | omega | (simp (disch := omega) only [wrapI]; omega)), (by first | omega | (simp (disch := omega) only [wrapI]; omega))⟩ (AllP_cons (decide_eq_true (by first | omega | (simp (disch := omega) only [wrapI]; omega))) (AllP_nil)))))))
  rw [e0] at h
  exact h

set_option maxHeartbeats 1000000 in
theorem sameSL_last (n : Nat) (nm : Nat) (b : List Int) (m : Nat) (mm : Nat) (c : List Int) (cap0 : Nat) (cap1 : Nat) (h0 : (nm = (n * (32 : Nat)))) (h1 : (mm = (m * (32 : Nat)))) (h2 : (m = n)) (h3 : (b = c)) (h4 : (n ≤ (4398046511104 : Nat))) (hc0 : n ≤ cap0) (hc1 : m ≤ cap1) (hl0_0 : List.length b = nm) (hl1_0 : List.length c = mm) (w : World) (β : Env) (s : Unit) : Run Try.prog ⟨w, [], 2, β⟩ (loopB Try.f47 0) (sameSL_mk n nm b m mm c cap0 cap1 n s) (To ⟨w, [], 2, β⟩ (.exit 0) (sameSL_mk n nm b m mm c cap0 cap1 n s)) :=
  Run.of_outT (B := ⟨w, [], 2, β⟩) (Λ := noLam) (Ψ := noPsi) (fuel := 0) (ora := [false]) (l := [.forget [0, 1, 5, 6, 7, 8, 9, 10] 2]) mix tabOkRB gam87_ok
    (vc := [((decide (((n : Nat) : Int) < ((n : Nat) : Int))) = false)]) (by kernel_rfl)
    (AllP_cons (decide_eq_false (by first | omega | (simp (disch := omega) only [wrapI]; omega))) (AllP_nil))

theorem sameSL_loop (n : Nat) (nm : Nat) (b : List Int) (m : Nat) (mm : Nat) (c : List Int) (cap0 : Nat) (cap1 : Nat) (h0 : (nm = (n * (32 : Nat)))) (h1 : (mm = (m * (32 : Nat)))) (h2 : (m = n)) (h3 : (b = c)) (h4 : (n ≤ (4398046511104 : Nat))) (hc0 : n ≤ cap0) (hc1 : m ≤ cap1) (hl0_0 : List.length b = nm) (hl1_0 : List.length c = mm) (w : World) (β : Env) (s : Unit) : Run Try.prog ⟨w, [], 2, β⟩ (.block 0 (.loop (loopB Try.f47 0))) (sameSL_mk n nm b m mm c cap0 cap1 0 s) (To ⟨w, [], 2, β⟩ .normal (sameSL_mk n nm b m mm c cap0 cap1 n (iter (sameSL_step) n s))) :=
  Run.count (fun k => sameSL_mk n nm b m mm c cap0 cap1 k (iter (sameSL_step) k s)) n (fun k hk => sameSL_round n nm b m mm c cap0 cap1 h0 h1 h2 h3 h4 hc0 hc1 hl0_0 hl1_0 w β k hk _) (ex := (.exit 0)) (by simp) (sameSL_last n nm b m mm c cap0 cap1 h0 h1 h2 h3 h4 hc0 hc1 hl0_0 hl1_0 w β _)

set_option maxHeartbeats 1000000 in
theorem sameS_body0 (n : Nat) (nm : Nat) (b : List Int) (m : Nat) (mm : Nat) (c : List Int) (cap0 : Nat) (cap1 : Nat) (h0 : (nm = (n * (32 : Nat)))) (h1 : (mm = (m * (32 : Nat)))) (h2 : (m = n)) (h3 : (b = c)) (h4 : (n ≤ (4398046511104 : Nat))) (hc0 : n ≤ cap0) (hc1 : m ≤ cap1) (hl0_0 : List.length b = nm) (hl1_0 : List.length c = mm) (w : World) (β : Env) : Body Try.prog (tabOf tabRB) Try.f47 ⟨w, [], 2, β⟩ [.o (.a (.sl 0 (0 : Nat) n cap0)), .o (.a (.sl 1 (0 : Nat) m cap1))] [some ⟨false, [.ints .u8 nm b]⟩, some ⟨false, [.ints .u8 mm c]⟩] (fun ys _ => ys = [.a (.b true)]) :=
  Body.of_fin (Γ := gam87) (Λ := lamOf [(0, ⟨[.forget [0, 1, 5, 6, 7, 8, 9, 10] 2], .normal, (sameSL_mk n nm b m mm c cap0 cap1 n (iter (sameSL_step) n ()))⟩)]) (Ψ := noPsi) (fuel := 0) (m := 26) (c := (Try.f47.body.getD .skip)) mix tabOkRB gam87_ok rfl (rs := [.tmp 4]) rfl rfl [false] []
    (vc := [(Run Try.prog ⟨w, [], 2, β⟩ (.block 0 (.loop (loopB Try.f47 0))) (sameSL_mk n nm b m mm c cap0 cap1 0 ()) (To ⟨w, [], 2, β⟩ .normal (sameSL_mk n nm b m mm c cap0 cap1 n (iter (sameSL_step) n ())))), ((((n : Nat) : Int) != ((m : Nat) : Int)) = false)]) (by kernel_rfl)
    (AllP_cons (sameSL_loop n nm b m mm c cap0 cap1 h0 h1 h2 h3 h4 hc0 hc1 hl0_0 hl1_0 w β ()) (AllP_cons (bne_eq_false_iff_eq.2 (by first | omega | (simp (disch := omega) only [wrapI]; omega))) (AllP_nil)))

theorem sameS_body (n : Nat) (nm : Nat) (b : List Int) (m : Nat) (mm : Nat) (c : List Int) (cap0 : Nat) (cap1 : Nat) (h0 : (nm = (n * (32 : Nat)))) (h1 : (mm = (m * (32 : Nat)))) (h2 : (m = n)) (h3 : (b = c)) (h4 : (n ≤ (4398046511104 : Nat))) (w : World) (β : Env) : Body Try.prog (tabOf tabRB) Try.f47 ⟨w, [], 2, β⟩ [.o (.a (.sl 0 (0 : Nat) n cap0)), .o (.a (.sl 1 (0 : Nat) m cap1))] [some ⟨false, [.ints .u8 nm b]⟩, some ⟨false, [.ints .u8 mm c]⟩] (fun ys _ => ys = [.a (.b true)]) :=
  Body.lens (c := (Try.f47.body.getD .skip)) rfl fun h => sameS_body0 n nm b m mm c cap0 cap1 h0 h1 h2 h3 h4 (h.caps 0 _ _ _ _ rfl) (h.caps 1 _ _ _ _ rfl) (h.lens 0 _ .u8 nm b rfl (by simp)) (h.lens 1 _ .u8 mm c rfl (by simp)) w β

def gam88 : Gam := greadV 47 [.s 32, .s 32] (fun vs args => match vs, args with | [⟨_, _, _, [.ints .u8 nm b]⟩, ⟨_, _, _, [.ints .u8 mm c]⟩], [a0, a1] => some ((nm = ((lenOfA a0) * (32 : Nat))) ∧ (mm = ((lenOfA a1) * (32 : Nat))) ∧ ((lenOfA a1) = (lenOfA a0)) ∧ (b = c) ∧ ((lenOfA a0) ≤ (4398046511104 : Nat)), [.a (.b true)]) | _, _ => none) gam87
theorem gam88_ok : GamOk Try.prog gam88 := greadV_ok tabOkRB Try.func47 gam87_ok Try.call47 (by
  intro vs args p xs h hv
  split at h
  · simp only [Option.some.injEq, Prod.mk.injEq] at h; obtain ⟨rfl, rfl⟩ := h; exact ⟨by rfl, fun caps w β => sameS_body _ _ _ _ _ _ _ _ hv.1 hv.2.1 hv.2.2.1 hv.2.2.2.1 hv.2.2.2.2 w β⟩
  · simp at h)

end Go.Proofs.Ytcpoldghkiiggaa.X

/- Printed by a tool of this session. -/
namespace Go.Proofs.Ytcpoldghkiiggaa.X
open Go Go.Proofs
set_option linter.unusedVariables false
set_option linter.unusedSimpArgs false
set_option maxRecDepth 100000
theorem teRC_26 : TEOk Try.prog 26 ⟨.slice 22, 1, 24, [.raw (.slice none 0 0)], false⟩ :=
  TEOk.of Try.underlying26 (i := Try.t26) (by kernel_rfl) rfl rfl rfl (by kernel_rfl) (fun h => by cases h) (by kernel_rfl)
theorem teRC_27 : TEOk Try.prog 27 ⟨.slice 81, 1, 24, [.raw (.slice none 0 0)], false⟩ :=
  TEOk.of Try.underlying27 (i := Try.t27) (by kernel_rfl) rfl rfl rfl (by kernel_rfl) (fun h => by cases h) (by kernel_rfl)
theorem teRC_28 : TEOk Try.prog 28 ⟨.slice 113, 1, 24, [.raw (.slice none 0 0)], false⟩ :=
  TEOk.of Try.underlying28 (i := Try.t28) (by kernel_rfl) rfl rfl rfl (by kernel_rfl) (fun h => by cases h) (by kernel_rfl)
theorem teRC_29 : TEOk Try.prog 29 ⟨.slice 122, 1, 24, [.raw (.slice none 0 0)], false⟩ :=
  TEOk.of Try.underlying29 (i := Try.t29) (by kernel_rfl) rfl rfl rfl (by kernel_rfl) (fun h => by cases h) (by kernel_rfl)
theorem teRC_30 : TEOk Try.prog 30 ⟨.slice 64, 1, 24, [.raw (.slice none 0 0)], false⟩ :=
  TEOk.of Try.underlying30 (i := Try.t30) (by kernel_rfl) rfl rfl rfl (by kernel_rfl) (fun h => by cases h) (by kernel_rfl)
theorem teRC_31 : TEOk Try.prog 31 ⟨.slice 124, 1, 24, [.raw (.slice none 0 0)], false⟩ :=
  TEOk.of Try.underlying31 (i := Try.t31) (by kernel_rfl) rfl rfl rfl (by kernel_rfl) (fun h => by cases h) (by kernel_rfl)
theorem teRC_32 : TEOk Try.prog 32 ⟨.slice 126, 1, 24, [.raw (.slice none 0 0)], false⟩ :=
  TEOk.of Try.underlying32 (i := Try.t32) (by kernel_rfl) rfl rfl rfl (by kernel_rfl) (fun h => by cases h) (by kernel_rfl)
theorem teRC_33 : TEOk Try.prog 33 ⟨.slice 128, 1, 24, [.raw (.slice none 0 0)], false⟩ :=
  TEOk.of Try.underlying33 (i := Try.t33) (by kernel_rfl) rfl rfl rfl (by kernel_rfl) (fun h => by cases h) (by kernel_rfl)
theorem teRC_34 : TEOk Try.prog 34 ⟨.slice 130, 1, 24, [.raw (.slice none 0 0)], false⟩ :=
  TEOk.of Try.underlying34 (i := Try.t34) (by kernel_rfl) rfl rfl rfl (by kernel_rfl) (fun h => by cases h) (by kernel_rfl)
theorem teRC_35 : TEOk Try.prog 35 ⟨.slice 132, 1, 24, [.raw (.slice none 0 0)], false⟩ :=
  TEOk.of Try.underlying35 (i := Try.t35) (by kernel_rfl) rfl rfl rfl (by kernel_rfl) (fun h => by cases h) (by kernel_rfl)
theorem teRC_36 : TEOk Try.prog 36 ⟨.slice 134, 1, 24, [.raw (.slice none 0 0)], false⟩ :=
  TEOk.of Try.underlying36 (i := Try.t36) (by kernel_rfl) rfl rfl rfl (by kernel_rfl) (fun h => by cases h) (by kernel_rfl)
theorem teRC_37 : TEOk Try.prog 37 ⟨.slice 136, 1, 24, [.raw (.slice none 0 0)], false⟩ :=
  TEOk.of Try.underlying37 (i := Try.t37) (by kernel_rfl) rfl rfl rfl (by kernel_rfl) (fun h => by cases h) (by kernel_rfl)
theorem teRC_38 : TEOk Try.prog 38 ⟨.slice 138, 1, 24, [.raw (.slice none 0 0)], false⟩ :=
  TEOk.of Try.underlying38 (i := Try.t38) (by kernel_rfl) rfl rfl rfl (by kernel_rfl) (fun h => by cases h) (by kernel_rfl)
theorem teRC_39 : TEOk Try.prog 39 ⟨.slice 140, 1, 24, [.raw (.slice none 0 0)], false⟩ :=
  TEOk.of Try.underlying39 (i := Try.t39) (by kernel_rfl) rfl rfl rfl (by kernel_rfl) (fun h => by cases h) (by kernel_rfl)
theorem teRC_40 : TEOk Try.prog 40 ⟨.slice 142, 1, 24, [.raw (.slice none 0 0)], false⟩ :=
  TEOk.of Try.underlying40 (i := Try.t40) (by kernel_rfl) rfl rfl rfl (by kernel_rfl) (fun h => by cases h) (by kernel_rfl)
theorem teRC_42 : TEOk Try.prog 42 ⟨Try.t41.desc, 30, 720, [.raw (.slice none 0 0), .raw (.slice none 0 0), .raw (.slice none 0 0), .raw (.slice none 0 0), .raw (.slice none 0 0), .raw (.slice none 0 0), .raw (.slice none 0 0), .raw (.slice none 0 0), .raw (.slice none 0 0), .raw (.slice none 0 0), .raw (.slice none 0 0), .raw (.slice none 0 0), .raw (.slice none 0 0), .raw (.slice none 0 0), .raw (.slice none 0 0), .raw (.slice none 0 0), .raw (.slice none 0 0), .raw (.slice none 0 0), .raw (.slice none 0 0), .raw (.slice none 0 0), .raw (.slice none 0 0), .raw (.slice none 0 0), .raw (.slice none 0 0), .raw (.slice none 0 0), .raw (.slice none 0 0), .raw (.slice none 0 0), .raw (.slice none 0 0), .raw (.slice none 0 0), .raw (.slice none 0 0), .raw (.slice none 0 0)], false⟩ :=
  TEOk.of Try.underlying42 (i := Try.t42) (by kernel_rfl) rfl rfl rfl (by kernel_rfl) (fun h => by cases h) (by kernel_rfl)
theorem teRC_64 : TEOk Try.prog 64 ⟨.slice 24, 1, 24, [.raw (.slice none 0 0)], false⟩ :=
  TEOk.of Try.underlying64 (i := Try.t64) (by kernel_rfl) rfl rfl rfl (by kernel_rfl) (fun h => by cases h) (by kernel_rfl)
noncomputable def tabRC : List (Nat × TE) := [(26, ⟨.slice 22, 1, 24, [.raw (.slice none 0 0)], false⟩), (27, ⟨.slice 81, 1, 24, [.raw (.slice none 0 0)], false⟩), (28, ⟨.slice 113, 1, 24, [.raw (.slice none 0 0)], false⟩), (29, ⟨.slice 122, 1, 24, [.raw (.slice none 0 0)], false⟩), (30, ⟨.slice 64, 1, 24, [.raw (.slice none 0 0)], false⟩), (31, ⟨.slice 124, 1, 24, [.raw (.slice none 0 0)], false⟩), (32, ⟨.slice 126, 1, 24, [.raw (.slice none 0 0)], false⟩), (33, ⟨.slice 128, 1, 24, [.raw (.slice none 0 0)], false⟩), (34, ⟨.slice 130, 1, 24, [.raw (.slice none 0 0)], false⟩), (35, ⟨.slice 132, 1, 24, [.raw (.slice none 0 0)], false⟩), (36, ⟨.slice 134, 1, 24, [.raw (.slice none 0 0)], false⟩), (37, ⟨.slice 136, 1, 24, [.raw (.slice none 0 0)], false⟩), (38, ⟨.slice 138, 1, 24, [.raw (.slice none 0 0)], false⟩), (39, ⟨.slice 140, 1, 24, [.raw (.slice none 0 0)], false⟩), (40, ⟨.slice 142, 1, 24, [.raw (.slice none 0 0)], false⟩), (42, ⟨Try.t41.desc, 30, 720, [.raw (.slice none 0 0), .raw (.slice none 0 0), .raw (.slice none 0 0), .raw (.slice none 0 0), .raw (.slice none 0 0), .raw (.slice none 0 0), .raw (.slice none 0 0), .raw (.slice none 0 0), .raw (.slice none 0 0), .raw (.slice none 0 0), .raw (.slice none 0 0), .raw (.slice none 0 0), .raw (.slice none 0 0), .raw (.slice none 0 0), .raw (.slice none 0 0), .raw (.slice none 0 0), .raw (.slice none 0 0), .raw (.slice none 0 0), .raw (.slice none 0 0), .raw (.slice none 0 0), .raw (.slice none 0 0), .raw (.slice none 0 0), .raw (.slice none 0 0), .raw (.slice none 0 0), .raw (.slice none 0 0), .raw (.slice none 0 0), .raw (.slice none 0 0), .raw (.slice none 0 0), .raw (.slice none 0 0), .raw (.slice none 0 0)], false⟩), (64, ⟨.slice 24, 1, 24, [.raw (.slice none 0 0)], false⟩)]
theorem tabOkRC : TabOk Try.prog (tabOf tabRC) := (tabOf_cons teRC_26 (tabOf_cons teRC_27 (tabOf_cons teRC_28 (tabOf_cons teRC_29 (tabOf_cons teRC_30 (tabOf_cons teRC_31 (tabOf_cons teRC_32 (tabOf_cons teRC_33 (tabOf_cons teRC_34 (tabOf_cons teRC_35 (tabOf_cons teRC_36 (tabOf_cons teRC_37 (tabOf_cons teRC_38 (tabOf_cons teRC_39 (tabOf_cons teRC_40 (tabOf_cons teRC_42 (tabOf_cons teRC_64 tabOf_nil)))))))))))))))))

set_option maxHeartbeats 1000000 in
theorem intS1_body0 (m : Nat) (mc : Nat) (mz : Nat) (O : List Int) (m2 : Nat) (m2z : Nat) (O2 : List Int) (h0 : (m2 = m)) (h1 : (mz = (m * (32 : Nat)))) (h2 : (m2z = (m * (32 : Nat)))) (h3 : (O2 = O)) (h4 : (m ≤ (4398046511104 : Nat))) (hl2_0 : List.length O = mz) (hl4_0 : List.length O2 = m2z) (w : World) (rw : List Nat) (β : Env) : Body Try.prog (tabOf tabRC) Try.f24 ⟨w, rw, 5, β⟩ [.o (.a (.p 0 0))] [some ⟨false, [.raw (.slice none 0 0), .raw (.slice none 0 0), .raw (.slice none 0 0), .raw (.slice none 0 0), .raw (.slice none 0 0), .raw (.slice none 0 0), .raw (.slice none 0 0), .raw (.slice none 0 0), .rs 1 (0 : Nat) (1 : Nat) 1, .rs 3 (0 : Nat) (1 : Nat) 1, .raw (.slice none 0 0), .raw (.slice none 0 0), .raw (.slice none 0 0), .raw (.slice none 0 0), .raw (.slice none 0 0), .raw (.slice none 0 0), .raw (.slice none 0 0), .raw (.slice none 0 0), .raw (.slice none 0 0), .raw (.slice none 0 0), .raw (.slice none 0 0), .raw (.slice none 0 0), .raw (.slice none 0 0), .raw (.slice none 0 0), .raw (.slice none 0 0), .raw (.slice none 0 0), .raw (.slice none 0 0), .raw (.slice none 0 0), .raw (.slice none 0 0), .raw (.slice none 0 0)]⟩, some ⟨false, [.sl 2 (0 : Nat) m mc]⟩, some ⟨false, [.ints .u8 mz O]⟩, some ⟨false, [.rs 4 (0 : Nat) m2 32]⟩, some ⟨false, [.ints .u8 m2z O2]⟩] (fun ys K' => ys = [.a (.b true)] ∧ K' = [some ⟨false, [.raw (.slice none 0 0), .raw (.slice none 0 0), .raw (.slice none 0 0), .raw (.slice none 0 0), .raw (.slice none 0 0), .raw (.slice none 0 0), .raw (.slice none 0 0), .raw (.slice none 0 0), .rs 1 (0 : Nat) (1 : Nat) 1, .rs 3 (0 : Nat) (1 : Nat) 1, .raw (.slice none 0 0), .raw (.slice none 0 0), .raw (.slice none 0 0), .raw (.slice none 0 0), .raw (.slice none 0 0), .raw (.slice none 0 0), .raw (.slice none 0 0), .raw (.slice none 0 0), .raw (.slice none 0 0), .raw (.slice none 0 0), .raw (.slice none 0 0), .raw (.slice none 0 0), .raw (.slice none 0 0), .raw (.slice none 0 0), .raw (.slice none 0 0), .raw (.slice none 0 0), .raw (.slice none 0 0), .raw (.slice none 0 0), .raw (.slice none 0 0), .raw (.slice none 0 0)]⟩, some ⟨false, [.sl 2 (0 : Nat) m mc]⟩, some ⟨false, [.ints .u8 mz O]⟩, some ⟨false, [.rs 4 (0 : Nat) m2 32]⟩, some ⟨false, [.ints .u8 m2z O2]⟩]) :=
  Body.of_finK (Γ := gam88) (Λ := noLam) (Ψ := noPsi) (fuel := 2) (m := 393) (c := (Try.f24.body.getD .skip)) mix tabOkRC gam88_ok rfl (rs := [.tmp 2]) rfl rfl [false, false, false, false, true, false, false, false, false, false, false, false, false, false, false, false, false] [] 5
    (vc := [(false = false), (false = false), (false = false), (false = false), (false = false), (false = false), (false = false), (false = false), (false = false), (false = false), (false = false), (false = false), (((((0 : Nat) + (m * (32 : Nat))) ≤ mz) ∧ ((((0 : Nat) + (m2 * (32 : Nat))) ≤ m2z) ∧ True)) ∧ (((m * (32 : Nat)) = (m * (32 : Nat))) ∧ ((m2 * (32 : Nat)) = (m2 * (32 : Nat))) ∧ (m2 = m) ∧ ((sub O (0 : Nat) (m * (32 : Nat))) = (sub O2 (0 : Nat) (m2 * (32 : Nat)))) ∧ (m ≤ (4398046511104 : Nat)))), (((0 : Int) ≤ (0 : Int)) ∧ ((0 : Int) < (1 : Int))), (((0 : Int) ≤ (0 : Int)) ∧ ((0 : Int) < (1 : Int))), (true = true), (false = false), (false = false), (false = false), (false = false)]) (by kernel_rfl)
    (AllP_cons rfl (AllP_cons rfl (AllP_cons rfl (AllP_cons rfl (AllP_cons rfl (AllP_cons rfl (AllP_cons rfl (AllP_cons rfl (AllP_cons rfl (AllP_cons rfl (AllP_cons rfl (AllP_cons rfl (AllP_cons ⟨⟨(by omega), ⟨(by omega), trivial⟩⟩, ⟨rfl, rfl, h0, (by rw [h0, h3]), h4⟩⟩ (AllP_cons ⟨(by decide), (by decide)⟩ (AllP_cons ⟨(by decide), (by decide)⟩ (AllP_cons rfl (AllP_cons rfl (AllP_cons rfl (AllP_cons rfl (AllP_cons rfl (AllP_nil)))))))))))))))))))))

theorem intS1_body (m : Nat) (mc : Nat) (mz : Nat) (O : List Int) (m2 : Nat) (m2z : Nat) (O2 : List Int) (h0 : (m2 = m)) (h1 : (mz = (m * (32 : Nat)))) (h2 : (m2z = (m * (32 : Nat)))) (h3 : (O2 = O)) (h4 : (m ≤ (4398046511104 : Nat))) (w : World) (rw : List Nat) (β : Env) : Body Try.prog (tabOf tabRC) Try.f24 ⟨w, rw, 5, β⟩ [.o (.a (.p 0 0))] [some ⟨false, [.raw (.slice none 0 0), .raw (.slice none 0 0), .raw (.slice none 0 0), .raw (.slice none 0 0), .raw (.slice none 0 0), .raw (.slice none 0 0), .raw (.slice none 0 0), .raw (.slice none 0 0), .rs 1 (0 : Nat) (1 : Nat) 1, .rs 3 (0 : Nat) (1 : Nat) 1, .raw (.slice none 0 0), .raw (.slice none 0 0), .raw (.slice none 0 0), .raw (.slice none 0 0), .raw (.slice none 0 0), .raw (.slice none 0 0), .raw (.slice none 0 0), .raw (.slice none 0 0), .raw (.slice none 0 0), .raw (.slice none 0 0), .raw (.slice none 0 0), .raw (.slice none 0 0), .raw (.slice none 0 0), .raw (.slice none 0 0), .raw (.slice none 0 0), .raw (.slice none 0 0), .raw (.slice none 0 0), .raw (.slice none 0 0), .raw (.slice none 0 0), .raw (.slice none 0 0)]⟩, some ⟨false, [.sl 2 (0 : Nat) m mc]⟩, some ⟨false, [.ints .u8 mz O]⟩, some ⟨false, [.rs 4 (0 : Nat) m2 32]⟩, some ⟨false, [.ints .u8 m2z O2]⟩] (fun ys K' => ys = [.a (.b true)] ∧ K' = [some ⟨false, [.raw (.slice none 0 0), .raw (.slice none 0 0), .raw (.slice none 0 0), .raw (.slice none 0 0), .raw (.slice none 0 0), .raw (.slice none 0 0), .raw (.slice none 0 0), .raw (.slice none 0 0), .rs 1 (0 : Nat) (1 : Nat) 1, .rs 3 (0 : Nat) (1 : Nat) 1, .raw (.slice none 0 0), .raw (.slice none 0 0), .raw (.slice none 0 0), .raw (.slice none 0 0), .raw (.slice none 0 0), .raw (.slice none 0 0), .raw (.slice none 0 0), .raw (.slice none 0 0), .raw (.slice none 0 0), .raw (.slice none 0 0), .raw (.slice none 0 0), .raw (.slice none 0 0), .raw (.slice none 0 0), .raw (.slice none 0 0), .raw (.slice none 0 0), .raw (.slice none 0 0), .raw (.slice none 0 0), .raw (.slice none 0 0), .raw (.slice none 0 0), .raw (.slice none 0 0)]⟩, some ⟨false, [.sl 2 (0 : Nat) m mc]⟩, some ⟨false, [.ints .u8 mz O]⟩, some ⟨false, [.rs 4 (0 : Nat) m2 32]⟩, some ⟨false, [.ints .u8 m2z O2]⟩]) :=
  Body.lens (c := (Try.f24.body.getD .skip)) rfl fun h => intS1_body0 m mc mz O m2 m2z O2 h0 h1 h2 h3 h4 (h.lens 2 _ .u8 mz O rfl (by simp)) (h.lens 4 _ .u8 m2z O2 rfl (by simp)) w rw β

set_option maxHeartbeats 1000000 in
theorem intS2_body0 (m : Nat) (mc : Nat) (q : Nat) (qc : Nat) (mz : Nat) (O : List Int) (qz : Nat) (Q : List Int) (m2 : Nat) (q2 : Nat) (m2z : Nat) (O2 : List Int) (q2z : Nat) (Q2 : List Int) (h0 : (m2 = m)) (h1 : (mz = (m * (32 : Nat)))) (h2 : (m2z = (m * (32 : Nat)))) (h3 : (O2 = O)) (h4 : (m ≤ (4398046511104 : Nat))) (h5 : (q2 = q)) (h6 : (qz = (q * (32 : Nat)))) (h7 : (q2z = (q * (32 : Nat)))) (h8 : (Q2 = Q)) (h9 : (q ≤ (4398046511104 : Nat))) (hl2_0 : List.length O = mz) (hl3_0 : List.length Q = qz) (hl5_0 : List.length O2 = m2z) (hl6_0 : List.length Q2 = q2z) (w : World) (rw : List Nat) (β : Env) : Body Try.prog (tabOf tabRC) Try.f24 ⟨w, rw, 7, β⟩ [.o (.a (.p 0 0))] [some ⟨false, [.raw (.slice none 0 0), .raw (.slice none 0 0), .raw (.slice none 0 0), .raw (.slice none 0 0), .raw (.slice none 0 0), .raw (.slice none 0 0), .raw (.slice none 0 0), .raw (.slice none 0 0), .rs 1 (0 : Nat) (2 : Nat) 1, .rs 4 (0 : Nat) (2 : Nat) 1, .raw (.slice none 0 0), .raw (.slice none 0 0), .raw (.slice none 0 0), .raw (.slice none 0 0), .raw (.slice none 0 0), .raw (.slice none 0 0), .raw (.slice none 0 0), .raw (.slice none 0 0), .raw (.slice none 0 0), .raw (.slice none 0 0), .raw (.slice none 0 0), .raw (.slice none 0 0), .raw (.slice none 0 0), .raw (.slice none 0 0), .raw (.slice none 0 0), .raw (.slice none 0 0), .raw (.slice none 0 0), .raw (.slice none 0 0), .raw (.slice none 0 0), .raw (.slice none 0 0)]⟩, some ⟨false, [.sl 2 (0 : Nat) m mc, .sl 3 (0 : Nat) q qc]⟩, some ⟨false, [.ints .u8 mz O]⟩, some ⟨false, [.ints .u8 qz Q]⟩, some ⟨false, [.rs 5 (0 : Nat) m2 32, .rs 6 (0 : Nat) q2 32]⟩, some ⟨false, [.ints .u8 m2z O2]⟩, some ⟨false, [.ints .u8 q2z Q2]⟩] (fun ys K' => ys = [.a (.b true)] ∧ K' = [some ⟨false, [.raw (.slice none 0 0), .raw (.slice none 0 0), .raw (.slice none 0 0), .raw (.slice none 0 0), .raw (.slice none 0 0), .raw (.slice none 0 0), .raw (.slice none 0 0), .raw (.slice none 0 0), .rs 1 (0 : Nat) (2 : Nat) 1, .rs 4 (0 : Nat) (2 : Nat) 1, .raw (.slice none 0 0), .raw (.slice none 0 0), .raw (.slice none 0 0), .raw (.slice none 0 0), .raw (.slice none 0 0), .raw (.slice none 0 0), .raw (.slice none 0 0), .raw (.slice none 0 0), .raw (.slice none 0 0), .raw (.slice none 0 0), .raw (.slice none 0 0), .raw (.slice none 0 0), .raw (.slice none 0 0), .raw (.slice none 0 0), .raw (.slice none 0 0), .raw (.slice none 0 0), .raw (.slice none 0 0), .raw (.slice none 0 0), .raw (.slice none 0 0), .raw (.slice none 0 0)]⟩, some ⟨false, [.sl 2 (0 : Nat) m mc, .sl 3 (0 : Nat) q qc]⟩, some ⟨false, [.ints .u8 mz O]⟩, some ⟨false, [.ints .u8 qz Q]⟩, some ⟨false, [.rs 5 (0 : Nat) m2 32, .rs 6 (0 : Nat) q2 32]⟩, some ⟨false, [.ints .u8 m2z O2]⟩, some ⟨false, [.ints .u8 q2z Q2]⟩]) :=
  Body.of_finK (Γ := gam88) (Λ := noLam) (Ψ := noPsi) (fuel := 3) (m := 393) (c := (Try.f24.body.getD .skip)) mix tabOkRC gam88_ok rfl (rs := [.tmp 2]) rfl rfl [false, false, false, false, true, false, true, false, false, false, false, false, false, false, false, false, false, false, false] [] 7
    (vc := [(false = false), (false = false), (false = false), (false = false), (false = false), (false = false), (false = false), (false = false), (false = false), (false = false), (false = false), (false = false), (((((0 : Nat) + (q * (32 : Nat))) ≤ qz) ∧ ((((0 : Nat) + (q2 * (32 : Nat))) ≤ q2z) ∧ True)) ∧ (((q * (32 : Nat)) = (q * (32 : Nat))) ∧ ((q2 * (32 : Nat)) = (q2 * (32 : Nat))) ∧ (q2 = q) ∧ ((sub Q (0 : Nat) (q * (32 : Nat))) = (sub Q2 (0 : Nat) (q2 * (32 : Nat)))) ∧ (q ≤ (4398046511104 : Nat)))), (((0 : Int) ≤ (1 : Int)) ∧ ((1 : Int) < (2 : Int))), (((0 : Int) ≤ (1 : Int)) ∧ ((1 : Int) < (2 : Int))), (true = true), (false = false), (((((0 : Nat) + (m * (32 : Nat))) ≤ mz) ∧ ((((0 : Nat) + (m2 * (32 : Nat))) ≤ m2z) ∧ True)) ∧ (((m * (32 : Nat)) = (m * (32 : Nat))) ∧ ((m2 * (32 : Nat)) = (m2 * (32 : Nat))) ∧ (m2 = m) ∧ ((sub O (0 : Nat) (m * (32 : Nat))) = (sub O2 (0 : Nat) (m2 * (32 : Nat)))) ∧ (m ≤ (4398046511104 : Nat)))), (((0 : Int) ≤ (0 : Int)) ∧ ((0 : Int) < (2 : Int))), (((0 : Int) ≤ (0 : Int)) ∧ ((0 : Int) < (2 : Int))), (true = true), (false = false), (false = false), (false = false), (false = false)]) (by kernel_rfl)
    (AllP_cons rfl (AllP_cons rfl (AllP_cons rfl (AllP_cons rfl (AllP_cons rfl (AllP_cons rfl (AllP_cons rfl (AllP_cons rfl (AllP_cons rfl (AllP_cons rfl (AllP_cons rfl (AllP_cons rfl (AllP_cons ⟨⟨(by omega), ⟨(by omega), trivial⟩⟩, ⟨rfl, rfl, h5, (by first | rw [h0, h3] | rw [h5, h8]), h9⟩⟩ (AllP_cons ⟨(by decide), (by decide)⟩ (AllP_cons ⟨(by decide), (by decide)⟩ (AllP_cons rfl (AllP_cons rfl (AllP_cons ⟨⟨(by omega), ⟨(by omega), trivial⟩⟩, ⟨rfl, rfl, h0, (by first | rw [h0, h3] | rw [h5, h8]), h4⟩⟩ (AllP_cons ⟨(by decide), (by decide)⟩ (AllP_cons ⟨(by decide), (by decide)⟩ (AllP_cons rfl (AllP_cons rfl (AllP_cons rfl (AllP_cons rfl (AllP_cons rfl (AllP_nil))))))))))))))))))))))))))

theorem intS2_body (m : Nat) (mc : Nat) (q : Nat) (qc : Nat) (mz : Nat) (O : List Int) (qz : Nat) (Q : List Int) (m2 : Nat) (q2 : Nat) (m2z : Nat) (O2 : List Int) (q2z : Nat) (Q2 : List Int) (h0 : (m2 = m)) (h1 : (mz = (m * (32 : Nat)))) (h2 : (m2z = (m * (32 : Nat)))) (h3 : (O2 = O)) (h4 : (m ≤ (4398046511104 : Nat))) (h5 : (q2 = q)) (h6 : (qz = (q * (32 : Nat)))) (h7 : (q2z = (q * (32 : Nat)))) (h8 : (Q2 = Q)) (h9 : (q ≤ (4398046511104 : Nat))) (w : World) (rw : List Nat) (β : Env) : Body Try.prog (tabOf tabRC) Try.f24 ⟨w, rw, 7, β⟩ [.o (.a (.p 0 0))] [some ⟨false, [.raw (.slice none 0 0), .raw (.slice none 0 0), .raw (.slice none 0 0), .raw (.slice none 0 0), .raw (.slice none 0 0), .raw (.slice none 0 0), .raw (.slice none 0 0), .raw (.slice none 0 0), .rs 1 (0 : Nat) (2 : Nat) 1, .rs 4 (0 : Nat) (2 : Nat) 1, .raw (.slice none 0 0), .raw (.slice none 0 0), .raw (.slice none 0 0), .raw (.slice none 0 0), .raw (.slice none 0 0), .raw (.slice none 0 0), .raw (.slice none 0 0), .raw (.slice none 0 0), .raw (.slice none 0 0), .raw (.slice none 0 0), .raw (.slice none 0 0), .raw (.slice none 0 0), .raw (.slice none 0 0), .raw (.slice none 0 0), .raw (.slice none 0 0), .raw (.slice none 0 0), .raw (.slice none 0 0), .raw (.slice none 0 0), .raw (.slice none 0 0), .raw (.slice none 0 0)]⟩, some ⟨false, [.sl 2 (0 : Nat) m mc, .sl 3 (0 : Nat) q qc]⟩, some ⟨false, [.ints .u8 mz O]⟩, some ⟨false, [.ints .u8 qz Q]⟩, some ⟨false, [.rs 5 (0 : Nat) m2 32, .rs 6 (0 : Nat) q2 32]⟩, some ⟨false, [.ints .u8 m2z O2]⟩, some ⟨false, [.ints .u8 q2z Q2]⟩] (fun ys K' => ys = [.a (.b true)] ∧ K' = [some ⟨false, [.raw (.slice none 0 0), .raw (.slice none 0 0), .raw (.slice none 0 0), .raw (.slice none 0 0), .raw (.slice none 0 0), .raw (.slice none 0 0), .raw (.slice none 0 0), .raw (.slice none 0 0), .rs 1 (0 : Nat) (2 : Nat) 1, .rs 4 (0 : Nat) (2 : Nat) 1, .raw (.slice none 0 0), .raw (.slice none 0 0), .raw (.slice none 0 0), .raw (.slice none 0 0), .raw (.slice none 0 0), .raw (.slice none 0 0), .raw (.slice none 0 0), .raw (.slice none 0 0), .raw (.slice none 0 0), .raw (.slice none 0 0), .raw (.slice none 0 0), .raw (.slice none 0 0), .raw (.slice none 0 0), .raw (.slice none 0 0), .raw (.slice none 0 0), .raw (.slice none 0 0), .raw (.slice none 0 0), .raw (.slice none 0 0), .raw (.slice none 0 0), .raw (.slice none 0 0)]⟩, some ⟨false, [.sl 2 (0 : Nat) m mc, .sl 3 (0 : Nat) q qc]⟩, some ⟨false, [.ints .u8 mz O]⟩, some ⟨false, [.ints .u8 qz Q]⟩, some ⟨false, [.rs 5 (0 : Nat) m2 32, .rs 6 (0 : Nat) q2 32]⟩, some ⟨false, [.ints .u8 m2z O2]⟩, some ⟨false, [.ints .u8 q2z Q2]⟩]) :=
  Body.lens (c := (Try.f24.body.getD .skip)) rfl fun h => intS2_body0 m mc q qc mz O qz Q m2 q2 m2z O2 q2z Q2 h0 h1 h2 h3 h4 h5 h6 h7 h8 h9 (h.lens 2 _ .u8 mz O rfl (by simp)) (h.lens 3 _ .u8 qz Q rfl (by simp)) (h.lens 5 _ .u8 m2z O2 rfl (by simp)) (h.lens 6 _ .u8 q2z Q2 rfl (by simp)) w rw β

def gam91 : Gam := gfull 24 (selE [.w] 5 (gcallE [false, false, false, false, false] [.w] (fun wk vs args => match wk, vs, args with | [⟨false, [.raw (.slice none 0 0), .raw (.slice none 0 0), .raw (.slice none 0 0), .raw (.slice none 0 0), .raw (.slice none 0 0), .raw (.slice none 0 0), .raw (.slice none 0 0), .raw (.slice none 0 0), .rs 1 (0 : Nat) (1 : Nat) 1, .rs 3 (0 : Nat) (1 : Nat) 1, .raw (.slice none 0 0), .raw (.slice none 0 0), .raw (.slice none 0 0), .raw (.slice none 0 0), .raw (.slice none 0 0), .raw (.slice none 0 0), .raw (.slice none 0 0), .raw (.slice none 0 0), .raw (.slice none 0 0), .raw (.slice none 0 0), .raw (.slice none 0 0), .raw (.slice none 0 0), .raw (.slice none 0 0), .raw (.slice none 0 0), .raw (.slice none 0 0), .raw (.slice none 0 0), .raw (.slice none 0 0), .raw (.slice none 0 0), .raw (.slice none 0 0), .raw (.slice none 0 0)]⟩, ⟨false, [.sl 2 (0 : Nat) m mc]⟩, ⟨false, [.ints .u8 mz O]⟩, ⟨false, [.rs 4 (0 : Nat) m2 32]⟩, ⟨false, [.ints .u8 m2z O2]⟩], [], [.o (.a (.p 0 0))] => some ((m2 = m) ∧ (mz = (m * (32 : Nat))) ∧ (m2z = (m * (32 : Nat))) ∧ (O2 = O) ∧ (m ≤ (4398046511104 : Nat)), [.a (.b true)], [some ⟨false, [.raw (.slice none 0 0), .raw (.slice none 0 0), .raw (.slice none 0 0), .raw (.slice none 0 0), .raw (.slice none 0 0), .raw (.slice none 0 0), .raw (.slice none 0 0), .raw (.slice none 0 0), .rs 1 (0 : Nat) (1 : Nat) 1, .rs 3 (0 : Nat) (1 : Nat) 1, .raw (.slice none 0 0), .raw (.slice none 0 0), .raw (.slice none 0 0), .raw (.slice none 0 0), .raw (.slice none 0 0), .raw (.slice none 0 0), .raw (.slice none 0 0), .raw (.slice none 0 0), .raw (.slice none 0 0), .raw (.slice none 0 0), .raw (.slice none 0 0), .raw (.slice none 0 0), .raw (.slice none 0 0), .raw (.slice none 0 0), .raw (.slice none 0 0), .raw (.slice none 0 0), .raw (.slice none 0 0), .raw (.slice none 0 0), .raw (.slice none 0 0), .raw (.slice none 0 0)]⟩, some ⟨false, [.sl 2 (0 : Nat) m mc]⟩, some ⟨false, [.ints .u8 mz O]⟩, some ⟨false, [.rs 4 (0 : Nat) m2 32]⟩, some ⟨false, [.ints .u8 m2z O2]⟩]) | _, _, _ => none)) (gcallE [false, false, false, false, false, false, false] [.w] (fun wk vs args => match wk, vs, args with | [⟨false, [.raw (.slice none 0 0), .raw (.slice none 0 0), .raw (.slice none 0 0), .raw (.slice none 0 0), .raw (.slice none 0 0), .raw (.slice none 0 0), .raw (.slice none 0 0), .raw (.slice none 0 0), .rs 1 (0 : Nat) (2 : Nat) 1, .rs 4 (0 : Nat) (2 : Nat) 1, .raw (.slice none 0 0), .raw (.slice none 0 0), .raw (.slice none 0 0), .raw (.slice none 0 0), .raw (.slice none 0 0), .raw (.slice none 0 0), .raw (.slice none 0 0), .raw (.slice none 0 0), .raw (.slice none 0 0), .raw (.slice none 0 0), .raw (.slice none 0 0), .raw (.slice none 0 0), .raw (.slice none 0 0), .raw (.slice none 0 0), .raw (.slice none 0 0), .raw (.slice none 0 0), .raw (.slice none 0 0), .raw (.slice none 0 0), .raw (.slice none 0 0), .raw (.slice none 0 0)]⟩, ⟨false, [.sl 2 (0 : Nat) m mc, .sl 3 (0 : Nat) q qc]⟩, ⟨false, [.ints .u8 mz O]⟩, ⟨false, [.ints .u8 qz Q]⟩, ⟨false, [.rs 5 (0 : Nat) m2 32, .rs 6 (0 : Nat) q2 32]⟩, ⟨false, [.ints .u8 m2z O2]⟩, ⟨false, [.ints .u8 q2z Q2]⟩], [], [.o (.a (.p 0 0))] => some ((m2 = m) ∧ (mz = (m * (32 : Nat))) ∧ (m2z = (m * (32 : Nat))) ∧ (O2 = O) ∧ (m ≤ (4398046511104 : Nat)) ∧ (q2 = q) ∧ (qz = (q * (32 : Nat))) ∧ (q2z = (q * (32 : Nat))) ∧ (Q2 = Q) ∧ (q ≤ (4398046511104 : Nat)), [.a (.b true)], [some ⟨false, [.raw (.slice none 0 0), .raw (.slice none 0 0), .raw (.slice none 0 0), .raw (.slice none 0 0), .raw (.slice none 0 0), .raw (.slice none 0 0), .raw (.slice none 0 0), .raw (.slice none 0 0), .rs 1 (0 : Nat) (2 : Nat) 1, .rs 4 (0 : Nat) (2 : Nat) 1, .raw (.slice none 0 0), .raw (.slice none 0 0), .raw (.slice none 0 0), .raw (.slice none 0 0), .raw (.slice none 0 0), .raw (.slice none 0 0), .raw (.slice none 0 0), .raw (.slice none 0 0), .raw (.slice none 0 0), .raw (.slice none 0 0), .raw (.slice none 0 0), .raw (.slice none 0 0), .raw (.slice none 0 0), .raw (.slice none 0 0), .raw (.slice none 0 0), .raw (.slice none 0 0), .raw (.slice none 0 0), .raw (.slice none 0 0), .raw (.slice none 0 0), .raw (.slice none 0 0)]⟩, some ⟨false, [.sl 2 (0 : Nat) m mc, .sl 3 (0 : Nat) q qc]⟩, some ⟨false, [.ints .u8 mz O]⟩, some ⟨false, [.ints .u8 qz Q]⟩, some ⟨false, [.rs 5 (0 : Nat) m2 32, .rs 6 (0 : Nat) q2 32]⟩, some ⟨false, [.ints .u8 m2z O2]⟩, some ⟨false, [.ints .u8 q2z Q2]⟩]) | _, _, _ => none))) gam88
theorem gam91_ok : GamOk Try.prog gam91 := gent_ok gam88_ok Try.call24 (selE_ent (gcallE_ent tabOkRC Try.func24 (by
  intro wk vs args p xs K1 h hv
  split at h
  · simp only [Option.some.injEq, Prod.mk.injEq] at h; obtain ⟨rfl, rfl, rfl⟩ := h; obtain ⟨g0, g1, g2, g3, g4⟩ := hv; exact fun caps w rw β => intS1_body _ _ _ _ _ _ _ g0 g1 g2 g3 g4 w rw β
  · simp at h)) (gcallE_ent tabOkRC Try.func24 (by
  intro wk vs args p xs K1 h hv
  split at h
  · simp only [Option.some.injEq, Prod.mk.injEq] at h; obtain ⟨rfl, rfl, rfl⟩ := h; obtain ⟨g0, g1, g2, g3, g4, g5, g6, g7, g8, g9⟩ := hv; exact fun caps w rw β => intS2_body _ _ _ _ _ _ _ _ _ _ _ _ _ _ g0 g1 g2 g3 g4 g5 g6 g7 g8 g9 w rw β
  · simp at h)))

end Go.Proofs.Ytcpoldghkiiggaa.X

/- What Given lays down of scalars. -/
namespace Go.Proofs.Ytcpoldghkiiggaa.X
open Go Go.Proofs
set_option linter.unusedVariables false
set_option linter.unusedSimpArgs false
set_option maxRecDepth 100000

theorem splice_lenS {s y : List Int} {c m : Nat} (h : c + m ≤ s.length) (hy : y.length = m) : (splice s c m y).length = s.length := by
  unfold splice
  simp only [List.length_append, List.length_take, List.length_drop]; omega
theorem fillS_len {l : List Int} {n : Nat} (hl : l.length = n * 32) : ∀ (k : Nat) (s : List Int), k ≤ n → n * 32 ≤ s.length → (iter (gs0L2_step l) k s).length = s.length
  | 0, _, _, _ => rfl
  | k + 1, s, hk, hs => by
    have ih := fillS_len hl k s (by omega) hs
    show (splice _ (k * 32) 32 (sub l (k * 32) 32)).length = _
    rw [splice_lenS (by rw [ih]; omega) (sub_len _ _ _ (by omega)), ih]
theorem fillS {l : List Int} {n : Nat} (hl : l.length = n * 32) : ∀ (k : Nat) (s : List Int), k ≤ n → n * 32 ≤ s.length → (iter (gs0L2_step l) k s).take (k * 32) = l.take (k * 32)
  | 0, _, _, _ => by simp
  | k + 1, s, hk, hs => by
    have ih := fillS hl k s (by omega) hs
    have hlen := fillS_len hl k s (by omega) hs
    show (splice _ (k * 32) 32 (sub l (k * 32) 32)).take ((k + 1) * 32) = _
    have hsub : (sub l (k * 32) 32).length = 32 := sub_len _ _ _ (by omega)
    unfold splice
    rw [List.take_append_of_le_length (by rw [List.length_append, List.length_take, hsub]; omega), List.take_of_length_le (by rw [List.length_append, List.length_take, hsub]; omega), ih]
    rw [show (k + 1) * 32 = k * 32 + 32 by omega, List.take_add]; rfl
theorem markS_len (i k : Int) : (markS i k).length = 32 := rfl
theorem markL_len : ∀ (k : Nat) (s : List Int), k * 32 ≤ s.length → (iter gs0L0_step k s).length = s.length
  | 0, _, _ => rfl
  | k + 1, s, hs => by
    have ih := markL_len k s (by omega)
    show (splice _ (k * 32) 32 (markS 987 _)).length = _
    rw [splice_lenS (by rw [ih]; omega) (markS_len _ _), ih]
theorem gs0_len {n : Nat} {l : List Int} (hl : l.length = n * 32) : (gs0_2 n l).length = (n + 3) * 32 := by
  unfold gs0_2 gs0L2_out0 gs0L0_out0
  have h0 : (iter gs0L0_step (n + 3) (List.replicate ((n + 3) * 32) 0)).length = (n + 3) * 32 := by
    rw [markL_len _ _ (by rw [List.length_replicate]; omega), List.length_replicate]
  rw [fillS_len hl n _ (Nat.le_refl _) (by omega), h0]
theorem gs0_take {n : Nat} {l : List Int} (hl : l.length = n * 32) : sub (gs0_2 n l) 0 (n * 32) = l := by
  unfold sub
  rw [List.drop_zero]
  unfold gs0_2 gs0L2_out0 gs0L0_out0
  have h0 : (iter gs0L0_step (n + 3) (List.replicate ((n + 3) * 32) 0)).length = (n + 3) * 32 := by
    rw [markL_len _ _ (by rw [List.length_replicate]; omega), List.length_replicate]
  rw [fillS hl n _ (Nat.le_refl _) (by omega), List.take_of_length_le (by omega)]
theorem gs0_same {n : Nat} {l : List Int} (hl : l.length = n * 32) : gs0_4 n l = gs0_2 n l := by
  have h := gs0_len hl
  show sub (sub (gs0_2 n l) 0 ((n + 3) * 32)) 0 ((n + 3) * 32) = gs0_2 n l
  rw [sub_all _ _ (Nat.le_of_eq h), sub_all _ _ (Nat.le_of_eq h)]
theorem gs_same {n : Nat} {l : List Int} (hl : l.length = n * 32) : gs0_4 n (sub l 0 (n * 32)) = gs0_2 n (sub l 0 (n * 32)) := by
  rw [sub_all l _ (by omega), gs0_same hl]
end Go.Proofs.Ytcpoldghkiiggaa.X

/- Fermat and Euler, for the law of powers. -/
namespace Go.Proofs.Ytcpoldghkiiggaa.X
open Go Go.Proofs
set_option linter.unusedVariables false
set_option linter.unusedSimpArgs false
set_option maxRecDepth 100000

theorem LL_nat : ((LL.toNat : Nat) : Int) = LL := by decide +kernel
theorem dvd_mulL {x y : Int} (h : LL ∣ x * y) : LL ∣ x ∨ LL ∣ y := by
  rw [← LL_nat] at *
  have h1 := Int.natAbs_dvd_natAbs.2 h
  rw [Int.natAbs_mul, Int.natAbs_natCast] at h1
  rcases prm_mul prm_L h1 with h2 | h2
  · left; apply Int.natAbs_dvd_natAbs.1; rwa [Int.natAbs_natCast]
  · right; apply Int.natAbs_dvd_natAbs.1; rwa [Int.natAbs_natCast]
theorem modL_dvd {x : Int} : modL x = 0 ↔ LL ∣ x := ⟨Int.dvd_of_emod_eq_zero, Int.emod_eq_zero_of_dvd⟩
theorem modL_mul0 {x y : Int} (h : modL (x * y) = 0) : modL x = 0 ∨ modL y = 0 := by
  rcases dvd_mulL (modL_dvd.1 h) with h | h
  · exact .inl (modL_dvd.2 h)
  · exact .inr (modL_dvd.2 h)
end Go.Proofs.Ytcpoldghkiiggaa.X

/- Inverses of lists. -/
namespace Go.Proofs.Ytcpoldghkiiggaa.X
open Go Go.Proofs
set_option linter.unusedVariables false
set_option linter.unusedSimpArgs false
set_option maxRecDepth 100000

/-- the first that is 0 (n: none) -/
def fz (l : List Int) (n : Nat) : Nat := (List.range n).findIdx (fun i => decide (modL (BV (sub l (i * 32) 32)) = 0))
theorem fz_le (l : List Int) (n : Nat) : fz l n ≤ n := by
  have := List.findIdx_le_length (xs := List.range n) (p := fun i => decide (modL (BV (sub l (i * 32) 32)) = 0))
  rwa [List.length_range] at this
theorem fz_at {l : List Int} {n : Nat} (h : fz l n < n) : modL (BV (sub l (fz l n * 32) 32)) = 0 := by
  have hl : (List.range n).findIdx (fun i => decide (modL (BV (sub l (i * 32) 32)) = 0)) < (List.range n).length := by rw [List.length_range]; exact h
  have := List.findIdx_getElem (w := hl)
  rw [List.getElem_range] at this
  exact of_decide_eq_true this
theorem fz_before {l : List Int} {n i : Nat} (h : i < fz l n) : modL (BV (sub l (i * 32) 32)) ≠ 0 := by
  have := List.not_of_lt_findIdx (p := fun i => decide (modL (BV (sub l (i * 32) 32)) = 0)) (xs := List.range n) h
  rw [List.getElem_range] at this
  simpa using this
theorem inv_uniq {x y : Int} (hx : modL x ≠ 0) (h : modL (x * y) = 1) (h0 : 0 ≤ y ∧ y < LL) : y = invN x := by
  have e1 : modL (y * modL (x * invN x)) = y := by rw [invN_mul hx, Int.mul_one, modL_small h0.1 h0.2]
  rw [modL_mulr, ← Int.mul_assoc, Int.mul_comm y x, ← modL_mull, h, Int.one_mul, modL_small (invN_rng x).1 (invN_rng x).2.1] at e1
  exact e1.symm

theorem prS_nz {l : List Int} {n : Nat} (h : ∀ i, i < n → modL (BV (sub l (i * 32) 32)) ≠ 0) : ∀ k, k ≤ n → prS l k ≠ 0
  | 0, _ => by show (1 : Int) ≠ 0; decide
  | k + 1, hk => by
    intro h0
    have ih := prS_nz h k (by omega)
    have h0 : modL (prS l k * BV (sub l (k * 32) 32)) = 0 := h0
    rcases modL_mul0 h0 with h1 | h1
    · rw [modL_small (prS_rng l k).1 (prS_rng l k).2] at h1; exact ih h1
    · exact h k (by omega) h1
def alS (l : List Int) (n : Nat) : Nat → Int
  | 0 => invN (prS l n)
  | k + 1 => modL (alS l n k * BV (sub l ((n - 1 - k) * 32) 32))
theorem alS_rng (l : List Int) (n : Nat) : ∀ k, 0 ≤ alS l n k ∧ alS l n k < LL
  | 0 => ⟨(invN_rng _).1, (invN_rng _).2.1⟩
  | _ + 1 => modL_b _
theorem alS_inv {l : List Int} {n : Nat} (h : ∀ i, i < n → modL (BV (sub l (i * 32) 32)) ≠ 0) : ∀ k, k ≤ n → modL (alS l n k * prS l (n - k)) = 1
  | 0, _ => by
    show modL (invN (prS l n) * prS l n) = 1
    rw [Int.mul_comm]
    exact invN_mul (by rw [modL_small (prS_rng l n).1 (prS_rng l n).2]; exact prS_nz h n (Nat.le_refl _))
  | k + 1, hk => by
    have ih := alS_inv h k (by omega)
    show modL (modL (alS l n k * BV (sub l ((n - 1 - k) * 32) 32)) * prS l (n - (k + 1))) = 1
    rw [show n - k = (n - 1 - k) + 1 by omega] at ih
    have ih : modL (alS l n k * modL (prS l (n - 1 - k) * BV (sub l ((n - 1 - k) * 32) 32))) = 1 := ih
    rw [modL_mulr] at ih
    rw [modL_mull, show n - (k + 1) = n - 1 - k by omega, Int.mul_assoc, Int.mul_comm (BV _)]
    exact ih
theorem entry_inv {l : List Int} {n : Nat} (h : ∀ i, i < n → modL (BV (sub l (i * 32) 32)) ≠ 0) {k : Nat} (hk : k < n) : modL (prS l (n - 1 - k) * alS l n k) = invN (BV (sub l ((n - 1 - k) * 32) 32)) := by
  refine inv_uniq (h _ (by omega)) ?_ (modL_b _)
  have ih := alS_inv h k (by omega)
  rw [show n - k = (n - 1 - k) + 1 by omega] at ih
  have ih : modL (alS l n k * modL (prS l (n - 1 - k) * BV (sub l ((n - 1 - k) * 32) 32))) = 1 := ih
  rw [modL_mulr] at ih ⊢
  rw [← ih]
  congr 1
  rw [← Int.mul_assoc, Int.mul_comm]
  congr 1
  exact Int.mul_comm _ _

def outS (l : List Int) (n : Nat) : Nat → List Int
  | 0 => List.replicate (n * 32) 0
  | k + 1 => splice (outS l n k) (k * 32) 32 (B32 (prS l k))
def out2 (l : List Int) (n : Nat) : Nat → List Int
  | 0 => outS l n n
  | k + 1 => splice (out2 l n k) ((n - 1 - k) * 32) 32 (B32 (modL (BV (sub (out2 l n k) ((n - 1 - k) * 32) 32) * alS l n k)))
def rfS (l : List Int) : Nat → List Int
  | 0 => []
  | k + 1 => rfS l k ++ B32 (invN (BV (sub l (k * 32) 32)))
theorem B32_len (v : Int) : (B32 v).length = 32 := rfl
theorem outS_len (l : List Int) (n : Nat) : ∀ k, k ≤ n → (outS l n k).length = n * 32
  | 0, _ => List.length_replicate
  | k + 1, hk => by
    have ih := outS_len l n k (by omega)
    show (splice _ _ _ _).length = _
    rw [splice_lenS (by omega) (B32_len _), ih]
theorem out2_len (l : List Int) (n : Nat) : ∀ k, k ≤ n → (out2 l n k).length = n * 32
  | 0, _ => outS_len l n n (Nat.le_refl _)
  | k + 1, hk => by
    have ih := out2_len l n k (by omega)
    show (splice _ _ _ _).length = _
    rw [splice_lenS (by omega) (B32_len _), ih]
theorem rfS_len (l : List Int) : ∀ k, (rfS l k).length = k * 32
  | 0 => rfl
  | k + 1 => by
    show (rfS l k ++ _).length = _
    rw [List.length_append, rfS_len l k, B32_len]; omega
theorem sub_get {s : List Int} {c m r : Nat} (h : r < m) : (sub s c m)[r]? = s[c + r]? := by
  unfold sub
  rw [List.getElem?_take_of_lt h, List.getElem?_drop]
theorem splice_get {s y : List Int} {c m j : Nat} (hc : c + m ≤ s.length) (hy : y.length = m) : (splice s c m y)[j]? = if j < c then s[j]? else if j < c + m then y[j - c]? else s[j]? := by
  unfold splice
  have h1 : (s.take c).length = c := by rw [List.length_take]; omega
  by_cases hj : j < c
  · rw [if_pos hj, List.append_assoc, List.getElem?_append_left (by omega), List.getElem?_take_of_lt hj]
  · rw [if_neg hj, List.append_assoc, List.getElem?_append_right (by omega), h1]
    by_cases hj2 : j < c + m
    · rw [if_pos hj2, List.getElem?_append_left (by omega)]
    · rw [if_neg hj2, List.getElem?_append_right (by omega), hy, List.getElem?_drop]
      congr 1; omega
theorem sub_splice {s y : List Int} {n c i : Nat} (hs : s.length = n * 32) (hc : c < n) (hi : i < n) (hy : y.length = 32) : sub (splice s (c * 32) 32 y) (i * 32) 32 = if i = c then y else sub s (i * 32) 32 := by
  apply List.ext_getElem?
  intro r
  by_cases hr : r < 32
  · rw [sub_get hr, splice_get (by omega) hy]
    by_cases hic : i = c
    · subst hic
      rw [if_pos rfl, if_neg (by omega), if_pos (by omega)]
      congr 1; omega
    · rw [if_neg hic, sub_get hr]
      rcases Nat.lt_or_gt_of_ne hic with h | h
      · rw [if_pos (by omega)]
      · rw [if_neg (by omega), if_neg (by omega)]
  · have e1 : (sub (splice s (c * 32) 32 y) (i * 32) 32).length = 32 := sub_len _ _ _ (by rw [splice_lenS (by omega) hy]; omega)
    have e2 : (sub s (i * 32) 32).length = 32 := sub_len _ _ _ (by omega)
    rw [List.getElem?_eq_none (by omega)]
    split
    · rw [List.getElem?_eq_none (by omega)]
    · rw [List.getElem?_eq_none (by omega)]
theorem chunk_ext {a b : List Int} {n : Nat} (ha : a.length = n * 32) (hb : b.length = n * 32) (h : ∀ i, i < n → sub a (i * 32) 32 = sub b (i * 32) 32) : a = b := by
  apply List.ext_getElem?
  intro j
  by_cases hj : j < n * 32
  · have := congrArg (fun l => l[j % 32]?) (h (j / 32) (by omega))
    rw [sub_get (Nat.mod_lt _ (by decide)), sub_get (Nat.mod_lt _ (by decide)), show j / 32 * 32 + j % 32 = j by omega] at this
    exact this
  · rw [List.getElem?_eq_none (by omega), List.getElem?_eq_none (by omega)]
theorem outS_at (l : List Int) (n : Nat) : ∀ k, k ≤ n → ∀ i, i < k → sub (outS l n k) (i * 32) 32 = B32 (prS l i)
  | k + 1, hk, i, hi => by
    show sub (splice _ _ _ _) _ _ = _
    rw [sub_splice (outS_len l n k (by omega)) (by omega) (by omega) (B32_len _)]
    split
    · rename_i h; rw [h]
    · exact outS_at l n k (by omega) i (by omega)
theorem out2_at {l : List Int} {n : Nat} (h : ∀ i, i < n → modL (BV (sub l (i * 32) 32)) ≠ 0) : ∀ k, k ≤ n → ∀ i, i < n → sub (out2 l n k) (i * 32) 32 = if i < n - k then B32 (prS l i) else B32 (invN (BV (sub l (i * 32) 32)))
  | 0, _, i, hi => by
    rw [if_pos (by omega)]
    exact outS_at l n n (Nat.le_refl _) i hi
  | k + 1, hk, i, hi => by
    have ih := out2_at h k (by omega)
    show sub (splice _ _ _ _) _ _ = _
    rw [sub_splice (out2_len l n k (by omega)) (by omega) hi (B32_len _)]
    by_cases hc : i = n - 1 - k
    · rw [if_pos hc, if_neg (by omega), ih _ (show n - 1 - k < n by omega), if_pos (by omega), BV_lt (prS_rng l _), entry_inv h (by omega), hc]
    · rw [if_neg hc, ih i hi]
      by_cases h2 : i < n - k
      · rw [if_pos h2, if_pos (by omega)]
      · rw [if_neg h2, if_neg (by omega)]
theorem rfS_at (l : List Int) : ∀ k i, i < k → sub (rfS l k) (i * 32) 32 = B32 (invN (BV (sub l (i * 32) 32)))
  | k + 1, i, hi => by
    show sub (rfS l k ++ _) _ _ = _
    apply List.ext_getElem?
    intro r
    by_cases hr : r < 32
    · rw [sub_get hr]
      by_cases hik : i < k
      · rw [List.getElem?_append_left (by rw [rfS_len]; omega), ← rfS_at l k i hik, sub_get hr]
      · have : i = k := by omega
        subst this
        rw [List.getElem?_append_right (by rw [rfS_len]; omega), rfS_len, show i * 32 + r - i * 32 = r by omega]
    · rw [List.getElem?_eq_none (by rw [sub_len _ _ _ (by rw [List.length_append, rfS_len, B32_len]; omega)]; omega), List.getElem?_eq_none (by rw [B32_len]; omega)]
theorem inv_all {l : List Int} {n : Nat} (h : fz l n = n) : out2 l n n = rfS l n := by
  refine chunk_ext (out2_len l n n (Nat.le_refl _)) (rfS_len l n) fun i hi => ?_
  rw [out2_at (fun i hi => fz_before (h ▸ hi)) n (Nat.le_refl _) i hi, if_neg (by omega), rfS_at l n i hi]
theorem out2_step (l : List Int) (n k : Nat) : splice (out2 l n k) ((n - 1 - k) * 32) 32 (B32 (modL (BV (sub (out2 l n k) ((n - 1 - k) * 32) 32) * BV (B32 (alS l n k))))) = out2 l n (k + 1) := by
  rw [BV_lt (alS_rng l n k)]; rfl
theorem alS_step (l : List Int) (n k : Nat) : modL (BV (B32 (alS l n k)) * BV (sub l ((n - 1 - k) * 32) 32)) = alS l n (k + 1) := by
  rw [BV_lt (alS_rng l n k)]; rfl
theorem inv_prS (l : List Int) (n : Nat) : invN (BV (B32 (prS l n))) = alS l n 0 := by
  rw [BV_lt (prS_rng l n)]; rfl
theorem byt_spl {s y : List Int} {c m : Nat} (hs : Byt s) (hy : Byt y) : Byt (splice s c m y) := by
  intro x hx
  unfold splice at hx
  rw [List.mem_append, List.mem_append] at hx
  rcases hx with (hx | hx) | hx
  · exact hs x (List.mem_of_mem_take hx)
  · exact hy x hx
  · exact hs x (List.mem_of_mem_drop hx)
theorem wd8_x {x : Int} (h0 : 0 ≤ x) (h1 : x < 4294967296) : Wd8 [x, 0, 0, 0, 0, 0, 0, 0] := by
  intro y hy
  simp only [List.mem_cons, List.not_mem_nil, or_false] at hy
  rcases hy with rfl | rfl | rfl | rfl | rfl | rfl | rfl | rfl <;> omega
theorem outS_byt (l : List Int) (n : Nat) : ∀ k, Byt (outS l n k)
  | 0 => byt_rep _
  | k + 1 => byt_spl (outS_byt l n k) (byt_B32 _)
theorem out2_byt (l : List Int) (n : Nat) : ∀ k, Byt (out2 l n k)
  | 0 => outS_byt l n n
  | k + 1 => byt_spl (out2_byt l n k) (byt_B32 _)
end Go.Proofs.Ytcpoldghkiiggaa.X

/- Printed by a tool of this session. -/
namespace Go.Proofs.Ytcpoldghkiiggaa.X
open Go Go.Proofs
set_option linter.unusedVariables false
set_option linter.unusedSimpArgs false
set_option maxRecDepth 100000
theorem teRF_5 : TEOk Try.prog 5 ⟨.int .u8, 1, 1, [.i .u8 (0 : Int)], false⟩ :=
  TEOk.of Try.underlying5 (i := Try.t5) (by kernel_rfl) rfl rfl rfl (by kernel_rfl) (fun h => by cases h) (by kernel_rfl)
theorem teRF_24 : TEOk Try.prog 24 ⟨.array 32 5, 32, 32, [.ints .u8 (32 : Nat) ([0, 0, 0, 0, 0, 0, 0, 0, 0, 0, 0, 0, 0, 0, 0, 0, 0, 0, 0, 0, 0, 0, 0, 0, 0, 0, 0, 0, 0, 0, 0, 0] : List Int)], true⟩ :=
  TEOk.of Try.underlying24 (i := Try.t24) (by kernel_rfl) rfl rfl rfl (by kernel_rfl) (fun _ => Try.eqGuardType24) (by kernel_rfl)
theorem teRF_109 : TEOk Try.prog 109 ⟨.int .u32, 1, 4, [.i .u32 (0 : Int)], false⟩ :=
  TEOk.of Try.underlying109 (i := Try.t109) (by kernel_rfl) rfl rfl rfl (by kernel_rfl) (fun h => by cases h) (by kernel_rfl)
theorem teRF_111 : TEOk Try.prog 111 ⟨.array 8 109, 8, 32, [.ints .u32 (8 : Nat) ([0, 0, 0, 0, 0, 0, 0, 0] : List Int)], true⟩ :=
  TEOk.of Try.underlying111 (i := Try.t111) (by kernel_rfl) rfl rfl rfl (by kernel_rfl) (fun _ => Try.eqGuardType111) (by kernel_rfl)
noncomputable def tabRF : List (Nat × TE) := [(5, ⟨.int .u8, 1, 1, [.i .u8 (0 : Int)], false⟩), (24, ⟨.array 32 5, 32, 32, [.ints .u8 (32 : Nat) ([0, 0, 0, 0, 0, 0, 0, 0, 0, 0, 0, 0, 0, 0, 0, 0, 0, 0, 0, 0, 0, 0, 0, 0, 0, 0, 0, 0, 0, 0, 0, 0] : List Int)], true⟩), (109, ⟨.int .u32, 1, 4, [.i .u32 (0 : Int)], false⟩), (111, ⟨.array 8 109, 8, 32, [.ints .u32 (8 : Nat) ([0, 0, 0, 0, 0, 0, 0, 0] : List Int)], true⟩)]
theorem tabOkRF : TabOk Try.prog (tabOf tabRF) := (tabOf_cons teRF_5 (tabOf_cons teRF_24 (tabOf_cons teRF_109 (tabOf_cons teRF_111 tabOf_nil))))

def lessB (x : Int) : List Int :=
  (B32 (V8 (W8 (difR (V8 ([1559614445, 1477600026, 2734136534, 350157278, 0, 0, 0, 268435456] : List Int)) (V8 ([x, 0, 0, 0, 0, 0, 0, 0] : List Int))))))

set_option maxHeartbeats 1000000 in
theorem lessB_body0 (x : Int) (h0 : ((0 : Int) ≤ x)) (h1 : (x < (4294967296 : Int))) (w : World) (rw : List Nat) (β : Env) : Body Try.prog (tabOf tabRF) Try.f101 ⟨w, rw, 0, β⟩ [.o (.a (.i .u32 x))] [] (fun ys K' => ys = [.a (.sl 0 (0 : Nat) (32 : Nat) (32 : Nat))] ∧ K' = [some ⟨true, [.ints .u8 (32 : Nat) (lessB x)]⟩]) :=
  Body.of_finK (Γ := gam91) (Λ := noLam) (Ψ := noPsi) (fuel := 0) (m := 10) (c := (Try.f101.body.getD .skip)) mix tabOkRF gam91_ok rfl (rs := [.tmp 2]) rfl rfl [] [] 1
    (vc := [(((0 : Int) ≤ (0 : Int)) ∧ ((0 : Int) ≤ (32 : Int))), (Wd8 (W8 (difR (V8 ([1559614445, 1477600026, 2734136534, 350157278, 0, 0, 0, 268435456] : List Int)) (V8 ([x, 0, 0, 0, 0, 0, 0, 0] : List Int))))), ((Wd8 ([1559614445, 1477600026, 2734136534, 350157278, 0, 0, 0, 268435456] : List Int)) ∧ (Wd8 ([x, 0, 0, 0, 0, 0, 0, 0] : List Int)))]) (by kernel_rfl)
    (AllP_cons ⟨(by decide), (by decide)⟩ (AllP_cons (wd8_W8 _) (AllP_cons ⟨(wd8_small (by decide +kernel)), (wd8_x h0 h1)⟩ (AllP_nil))))

theorem lessB_body (x : Int) (h0 : ((0 : Int) ≤ x)) (h1 : (x < (4294967296 : Int))) (w : World) (rw : List Nat) (β : Env) : Body Try.prog (tabOf tabRF) Try.f101 ⟨w, rw, 0, β⟩ [.o (.a (.i .u32 x))] [] (fun ys K' => ys = [.a (.sl 0 (0 : Nat) (32 : Nat) (32 : Nat))] ∧ K' = [some ⟨true, [.ints .u8 (32 : Nat) (lessB x)]⟩]) :=
  Body.lens (c := (Try.f101.body.getD .skip)) rfl fun h => lessB_body0 x h0 h1  w rw β

def gam92 : Gam := gcall 101 [] [.w] (fun wk vs args => match wk, vs, args with | [], [], [.o (.a (.i .u32 x))] => some (((0 : Int) ≤ x) ∧ (x < (4294967296 : Int)), [.a (.sl 0 (0 : Nat) (32 : Nat) (32 : Nat))], [some ⟨true, [.ints .u8 (32 : Nat) (lessB x)]⟩]) | _, _, _ => none) gam91
theorem gam92_ok : GamOk Try.prog gam92 := gcall_ok tabOkRF Try.func101 gam91_ok Try.call101 (by
  intro wk vs args p xs K1 h hv
  split at h
  · simp only [Option.some.injEq, Prod.mk.injEq] at h; obtain ⟨rfl, rfl, rfl⟩ := h; obtain ⟨g0, g1⟩ := hv; exact fun caps w rw β => lessB_body _ g0 g1 w rw β
  · simp at h)

set_option maxHeartbeats 1000000 in
theorem riA_body0 (a : List Int) (h0 : (Byt a)) (hv0 : List.length a = (32 : Nat)) (hc : modL (BV a) = 0) (w : World) : Body Try.prog (tabOf tabRF) Try.f43 ⟨w, [], 0, noEnv⟩ (toA [.g [.ints .u8 (32 : Nat) a]]) [] (fun ys _ => ys = [.g [.ints .u8 (32 : Nat) ([0, 0, 0, 0, 0, 0, 0, 0, 0, 0, 0, 0, 0, 0, 0, 0, 0, 0, 0, 0, 0, 0, 0, 0, 0, 0, 0, 0, 0, 0, 0, 0] : List Int)], .a (.i .i64 (9 : Int))]) :=
  Body.of_fin (Γ := gam92) (Λ := noLam) (Ψ := noPsi) (fuel := 0) (m := 10) (c := (Try.f43.body.getD .skip)) mix tabOkRF gam92_ok rfl (rs := [.cell 2 24, .tmp 3]) rfl rfl [true] []
    (vc := [(((modL (BV a)) == (0 : Int)) = true), (Byt a)]) (by kernel_rfl)
    (AllP_cons (beq_iff_eq.2 hc) (AllP_cons (by assumption) (AllP_nil)))

def riB (a : List Int) : List Int :=
  (B32 (powV a (sub (lessB (2 : Int)) (0 : Nat) (32 : Nat))))

set_option maxHeartbeats 1000000 in
theorem riB_body0 (a : List Int) (h0 : (Byt a)) (hv0 : List.length a = (32 : Nat)) (hc : ¬ modL (BV a) = 0) (w : World) : Body Try.prog (tabOf tabRF) Try.f43 ⟨w, [], 0, noEnv⟩ (toA [.g [.ints .u8 (32 : Nat) a]]) [] (fun ys _ => ys = [.g [.ints .u8 (32 : Nat) (riB a)], .a (.i .i64 (0 : Int))]) :=
  Body.of_fin (Γ := gam92) (Λ := noLam) (Ψ := noPsi) (fuel := 0) (m := 10) (c := (Try.f43.body.getD .skip)) mix tabOkRF gam92_ok rfl (rs := [.cell 2 24, .tmp 3]) rfl rfl [false] []
    (vc := [((True ∧ (((32 : Nat) ≤ (32 : Nat)) ∧ True)) ∧ (((32 : Nat) = (32 : Nat)) ∧ ((32 : Nat) ≤ (140737488351232 : Nat)) ∧ (Byt (sub (lessB (2 : Int)) (0 : Nat) (32 : Nat))) ∧ (Byt a))), ((True ∧ True) ∧ (((0 : Int) ≤ (2 : Int)) ∧ ((2 : Int) < (4294967296 : Int)))), (((modL (BV a)) == (0 : Int)) = false), (Byt a)]) (by kernel_rfl)
    (AllP_cons ⟨⟨trivial, ⟨(by decide), trivial⟩⟩, ⟨rfl, (by decide), (byt_small (by decide +kernel)), (by assumption)⟩⟩ (AllP_cons ⟨⟨trivial, trivial⟩, ⟨(by decide), (by decide)⟩⟩ (AllP_cons (beq_eq_false_iff_ne.2 hc) (AllP_cons (by assumption) (AllP_nil)))))

end Go.Proofs.Ytcpoldghkiiggaa.X

/- The reference's Invert, in short. -/
namespace Go.Proofs.Ytcpoldghkiiggaa.X
open Go Go.Proofs
set_option linter.unusedVariables false
set_option maxRecDepth 100000

theorem nb_less2 : nb (sub (lessB 2) 0 32) = eInv := by decide +kernel
theorem ri_num (a : List Int) (h0 : Byt a) (w : World) : Body Try.prog (tabOf tabRF) Try.f43 ⟨w, [], 0, noEnv⟩ (toA [.g [.ints .u8 (32 : Nat) a]]) [] (fun ys _ => ys = [.g [.ints .u8 (32 : Nat) (B32 (invN (BV a)))], .a (.i .i64 (invE1 (BV a)))]) :=
  Body.lens (c := (Try.f43.body.getD .skip)) rfl fun h => by
    have hl := h.vals 0 _ _ _ rfl
    unfold invN invE1
    by_cases hc : modL (BV a) = 0
    · rw [if_pos hc, if_pos hc, B32_0]; exact riA_body0 a h0 hl hc w
    · rw [if_neg hc, if_neg hc]
      have e : riB a = B32 (modL (BV a ^ eInv)) := by
        unfold riB powV
        rw [nb_less2]
      exact e ▸ riB_body0 a h0 hl hc w
end Go.Proofs.Ytcpoldghkiiggaa.X

/- Printed by a tool of this session. -/
namespace Go.Proofs.Ytcpoldghkiiggaa.X
open Go Go.Proofs
set_option linter.unusedVariables false
set_option linter.unusedSimpArgs false
set_option maxRecDepth 100000
theorem teRG_24 : TEOk Try.prog 24 ⟨.array 32 5, 32, 32, [.ints .u8 (32 : Nat) ([0, 0, 0, 0, 0, 0, 0, 0, 0, 0, 0, 0, 0, 0, 0, 0, 0, 0, 0, 0, 0, 0, 0, 0, 0, 0, 0, 0, 0, 0, 0, 0] : List Int)], true⟩ :=
  TEOk.of Try.underlying24 (i := Try.t24) (by kernel_rfl) rfl rfl rfl (by kernel_rfl) (fun _ => Try.eqGuardType24) (by kernel_rfl)
theorem teRG_64 : TEOk Try.prog 64 ⟨.slice 24, 1, 24, [.raw (.slice none 0 0)], false⟩ :=
  TEOk.of Try.underlying64 (i := Try.t64) (by kernel_rfl) rfl rfl rfl (by kernel_rfl) (fun h => by cases h) (by kernel_rfl)
noncomputable def tabRG : List (Nat × TE) := [(24, ⟨.array 32 5, 32, 32, [.ints .u8 (32 : Nat) ([0, 0, 0, 0, 0, 0, 0, 0, 0, 0, 0, 0, 0, 0, 0, 0, 0, 0, 0, 0, 0, 0, 0, 0, 0, 0, 0, 0, 0, 0, 0, 0] : List Int)], true⟩), (64, ⟨.slice 24, 1, 24, [.raw (.slice none 0 0)], false⟩)]
theorem tabOkRG : TabOk Try.prog (tabOf tabRG) := (tabOf_cons teRG_24 (tabOf_cons teRG_64 tabOf_nil))

theorem ri_num_pure (a : List Int) (h0 : (Byt a)) : PureC Try.prog 43 [.g [.ints .u8 (32 : Nat) a]] [.g [.ints .u8 (32 : Nat) (B32 (invN (BV a)))], .a (.i .i64 (invE1 (BV a)))] :=
  PureC.of_body tabOkRF Try.func43 rfl rfl fun w => ri_num a h0 w

def gam93 : Gam := gpure 43 (fun args => match args with | [.o (.g [.ints .u8 (32 : Nat) a])] => some (some ((Byt a)), [.g [.ints .u8 (32 : Nat) (B32 (invN (BV a)))], .a (.i .i64 (invE1 (BV a)))]) | _ => none) gam92
theorem gam93_ok : GamOk Try.prog gam93 := gpure_ok gam92_ok Try.call43 (by
  intro args vc xs h hv
  split at h
  · simp only [Option.some.injEq, Prod.mk.injEq] at h; obtain ⟨rfl, rfl⟩ := h; exact ⟨_, by rfl, ri_num_pure _ hv⟩
  · simp at h)

def ialZ0_mk (n : Nat) (nm : Nat) (l : List Int) (cap0 : Nat) (k : Nat) (s : Unit) : St := ⟨sparse 65 [(0, .o (.a (.sl 0 (0 : Nat) n cap0))), (5, .o (.a (.sl 1 (0 : Nat) n n))), (6, .o (.a (.p 2 0))), (11, .o (.a (.sl 0 (0 : Nat) n cap0))), (12, .o (.a (.i .i64 ((n : Nat) : Int)))), (13, .o (.a (.sl 1 (0 : Nat) n n))), (14, .o (.g [.ints .u8 (32 : Nat) (B32 (1 : Int))])), (15, .o (.a (.sl 0 (0 : Nat) n cap0))), (16, .o (.a (.i .i64 ((n : Nat) : Int)))), (17, .o (.a (.i .i64 ((k : Nat) : Int))))], [some ⟨false, [.ints .u8 nm l]⟩, some ⟨true, [.ints .u8 (n * (32 : Nat)) (outS l n k)]⟩, some ⟨true, [.ints .u8 (32 : Nat) (B32 (prS l k))]⟩]⟩

def ialZ0_step (k : Nat) (s : Unit) : Unit :=
  ()

set_option maxHeartbeats 1000000 in
theorem ialZ0_round (n : Nat) (nm : Nat) (l : List Int) (cap0 : Nat) (h0 : (nm = (n * (32 : Nat)))) (h1 : (n ≤ (4398046510976 : Nat))) (h2 : (Byt l)) (h3 : ((fz l n) < n)) (hc0 : n ≤ cap0) (hl0_0 : List.length l = nm) (w : World) (rw : List Nat) (β : Env) (k : Nat) (hk : k < (fz l n)) (s : Unit) : Run Try.prog ⟨w, rw, 1, β⟩ (loopB Try.f44 0) (ialZ0_mk n nm l cap0 k s) (To ⟨w, rw, 1, β⟩ .normal (ialZ0_mk n nm l cap0 (k + 1) (ialZ0_step k s))) := by
  have e0 : (B32 (modL ((BV (B32 (prS l k))) * (BV (sub l (k * (32 : Nat)) (32 : Nat)))))) = (B32 (prS l (k + (1 : Nat)))) := (by first | exact wrap_succ (by have hq := fz_le l n; omega) | (rw [pr_r]) | rfl)
  have e1 : (splice (outS l n k) (k * (32 : Nat)) (32 : Nat) (B32 (prS l k))) = (outS l n (k + (1 : Nat))) := (by first | exact wrap_succ (by have hq := fz_le l n; omega) | (rw [pr_r]) | rfl)
  have e2 : (IntKind.i64.wrap (((k : Nat) : Int) + (1 : Int))) = (((k + (1 : Nat)) : Nat) : Int) := (by first | exact wrap_succ (by have hq := fz_le l n; omega) | (rw [pr_r]) | rfl)
  have h := Run.of_outT (B := ⟨w, rw, 1, β⟩) (Λ := noLam) (Ψ := noPsi) (fuel := 0) (ora := [true, false]) (c := (loopB Try.f44 0)) (st := (ialZ0_mk n nm l cap0 k s)) (l := [.forget [0, 5, 6, 11, 12, 13, 14, 15, 16, 17] 3]) (s' := ⟨sparse 65 [(0, .o (.a (.sl 0 (0 : Nat) n cap0))), (5, .o (.a (.sl 1 (0 : Nat) n n))), (6, .o (.a (.p 2 0))), (11, .o (.a (.sl 0 (0 : Nat) n cap0))), (12, .o (.a (.i .i64 ((n : Nat) : Int)))), (13, .o (.a (.sl 1 (0 : Nat) n n))), (14, .o (.g [.ints .u8 (32 : Nat) (B32 (1 : Int))])), (15, .o (.a (.sl 0 (0 : Nat) n cap0))), (16, .o (.a (.i .i64 ((n : Nat) : Int)))), (17, .o (.a (.i .i64 (IntKind.i64.wrap (((k : Nat) : Int) + (1 : Int))))))], [some ⟨false, [.ints .u8 nm l]⟩, some ⟨true, [.ints .u8 (n * (32 : Nat)) (splice (outS l n k) (k * (32 : Nat)) (32 : Nat) (B32 (prS l k)))]⟩, some ⟨true, [.ints .u8 (32 : Nat) (B32 (modL ((BV (B32 (prS l k))) * (BV (sub l (k * (32 : Nat)) (32 : Nat))))))]⟩]⟩) (ex := .normal) mix tabOkRG gam93_ok
    (vc := [((Byt (B32 (prS l k))) ∧ (Byt (sub l (k * (32 : Nat)) (32 : Nat)))), (((k * (32 : Nat)) + (32 : Nat)) ≤ (n * (32 : Nat))), (((0 : Int) ≤ ((k : Nat) : Int)) ∧ (((k : Nat) : Int) < ((n : Nat) : Int))), (((modL (BV (sub l (k * (32 : Nat)) (32 : Nat)))) == (0 : Int)) = false), (Byt (sub l (k * (32 : Nat)) (32 : Nat))), (((k * (32 : Nat)) + (32 : Nat)) ≤ nm), (((0 : Int) ≤ ((k : Nat) : Int)) ∧ (((k : Nat) : Int) < ((n : Nat) : Int))), ((decide (((k : Nat) : Int) < ((n : Nat) : Int))) = true)]) (by kernel_rfl)
    (AllP_cons ⟨(byt_B32 _), (byt_sub (by assumption) _ _)⟩ (AllP_cons (by have hq := fz_le l n; first | omega | (simp (disch := omega) only [wrapI]; omega)) (AllP_cons ⟨(by have hq := fz_le l n; first | omega | (simp (disch := omega) only [wrapI]; omega)), (by have hq := fz_le l n; first | omega | (simp (disch := omega) only [wrapI]; omega))⟩ (AllP_cons (beq_eq_false_iff_ne.2 (fz_before (l := l) (n := n) (by omega))) (AllP_cons (byt_sub (by assumption) _ _) (AllP_cons (by have hq := fz_le l n; first | omega | (simp (disch := omega) only [wrapI]; omega)) (AllP_cons ⟨(by have hq := fz_le l n; first | omega | (simp (disch := omega) only [wrapI]; omega)), (by have hq := fz_le l n; first | omega | (simp (disch := omega) only [wrapI]; omega))⟩ (AllP_cons (decide_eq_true (by have hq := fz_le l n; first | omega | (simp (disch := omega) only [wrapI]; omega))) (AllP_nil)))))))))
  rw [e0, e1, e2] at h
  exact h

def ialZ0_end (n : Nat) (nm : Nat) (l : List Int) (cap0 : Nat) (s : Unit) : St := ⟨sparse 65 [(0, .o (.a (.sl 0 (0 : Nat) n cap0))), (2, .o (.a (.raw (.slice none 0 0)))), (3, .o (.a (.i .i64 (9 : Int)))), (4, .o (.a (.i .i64 (((fz l n) : Nat) : Int)))), (5, .o (.a (.sl 1 (0 : Nat) n n))), (6, .o (.a (.p 2 0))), (11, .o (.a (.sl 0 (0 : Nat) n cap0))), (12, .o (.a (.i .i64 ((n : Nat) : Int)))), (13, .o (.a (.sl 1 (0 : Nat) n n))), (14, .o (.g [.ints .u8 (32 : Nat) (B32 (1 : Int))])), (15, .o (.a (.sl 0 (0 : Nat) n cap0))), (16, .o (.a (.i .i64 ((n : Nat) : Int)))), (17, .o (.a (.i .i64 (((fz l n) : Nat) : Int))))], [some ⟨false, [.ints .u8 nm l]⟩, some ⟨true, [.ints .u8 (n * (32 : Nat)) (outS l n (fz l n))]⟩, some ⟨true, [.ints .u8 (32 : Nat) (B32 (prS l (fz l n)))]⟩]⟩

set_option maxHeartbeats 1000000 in
theorem ialZ0_last (n : Nat) (nm : Nat) (l : List Int) (cap0 : Nat) (h0 : (nm = (n * (32 : Nat)))) (h1 : (n ≤ (4398046510976 : Nat))) (h2 : (Byt l)) (h3 : ((fz l n) < n)) (hc0 : n ≤ cap0) (hl0_0 : List.length l = nm) (w : World) (rw : List Nat) (β : Env) (s : Unit) : Run Try.prog ⟨w, rw, 1, β⟩ (loopB Try.f44 0) (ialZ0_mk n nm l cap0 (fz l n) s) (To ⟨w, rw, 1, β⟩ .ret (ialZ0_end n nm l cap0 s)) :=
  Run.of_outT (B := ⟨w, rw, 1, β⟩) (Λ := noLam) (Ψ := noPsi) (fuel := 0) (ora := [true, true]) (l := [.forget [0, 2, 3, 4, 5, 6, 11, 12, 13, 14, 15, 16, 17] 3]) mix tabOkRG gam93_ok
    (vc := [(((modL (BV (sub l ((fz l n) * (32 : Nat)) (32 : Nat)))) == (0 : Int)) = true), (Byt (sub l ((fz l n) * (32 : Nat)) (32 : Nat))), ((((fz l n) * (32 : Nat)) + (32 : Nat)) ≤ nm), (((0 : Int) ≤ (((fz l n) : Nat) : Int)) ∧ ((((fz l n) : Nat) : Int) < ((n : Nat) : Int))), ((decide ((((fz l n) : Nat) : Int) < ((n : Nat) : Int))) = true)]) (by kernel_rfl)
    (AllP_cons (beq_iff_eq.2 (fz_at h3)) (AllP_cons (byt_sub (by assumption) _ _) (AllP_cons (by have hq := fz_le l n; first | omega | (simp (disch := omega) only [wrapI]; omega)) (AllP_cons ⟨(by have hq := fz_le l n; first | omega | (simp (disch := omega) only [wrapI]; omega)), (by have hq := fz_le l n; first | omega | (simp (disch := omega) only [wrapI]; omega))⟩ (AllP_cons (decide_eq_true (by have hq := fz_le l n; first | omega | (simp (disch := omega) only [wrapI]; omega))) (AllP_nil))))))

theorem ialZ0_loop (n : Nat) (nm : Nat) (l : List Int) (cap0 : Nat) (h0 : (nm = (n * (32 : Nat)))) (h1 : (n ≤ (4398046510976 : Nat))) (h2 : (Byt l)) (h3 : ((fz l n) < n)) (hc0 : n ≤ cap0) (hl0_0 : List.length l = nm) (w : World) (rw : List Nat) (β : Env) (s : Unit) : Run Try.prog ⟨w, rw, 1, β⟩ (.block 0 (.loop (loopB Try.f44 0))) (ialZ0_mk n nm l cap0 0 s) (To ⟨w, rw, 1, β⟩ .ret (ialZ0_end n nm l cap0 (iter (ialZ0_step) (fz l n) s))) :=
  Run.count (fun k => ialZ0_mk n nm l cap0 k (iter (ialZ0_step) k s)) (fz l n) (fun k hk => ialZ0_round n nm l cap0 h0 h1 h2 h3 hc0 hl0_0 w rw β k hk _) (ex := .ret) (by simp) (ialZ0_last n nm l cap0 h0 h1 h2 h3 hc0 hl0_0 w rw β _)

def ialZ (n : Nat) (l : List Int) : Int :=
  (((fz l n) : Nat) : Int)

set_option maxHeartbeats 1000000 in
theorem ialZ_body0 (n : Nat) (nm : Nat) (l : List Int) (cap0 : Nat) (h0 : (nm = (n * (32 : Nat)))) (h1 : (n ≤ (4398046510976 : Nat))) (h2 : (Byt l)) (h3 : ((fz l n) < n)) (hc0 : n ≤ cap0) (hl0_0 : List.length l = nm) (w : World) (rw : List Nat) (β : Env) : Body Try.prog (tabOf tabRG) Try.f44 ⟨w, rw, 1, β⟩ [.o (.a (.sl 0 (0 : Nat) n cap0))] [some ⟨false, [.ints .u8 nm l]⟩] (fun ys K' => ys = [.a (.raw (.slice none 0 0)), .a (.i .i64 (9 : Int)), .a (.i .i64 (ialZ n l))] ∧ K' = [some ⟨false, [.ints .u8 nm l]⟩]) :=
  Body.of_finK (Γ := gam93) (Λ := lamOf [(0, ⟨[.eqB 1 (⟨true, [.ints .u8 (n * (32 : Nat)) (outS l n (0 : Nat))]⟩), .eqB 2 (⟨true, [.ints .u8 (32 : Nat) (B32 (prS l (0 : Nat)))]⟩), .forget [0, 5, 6, 11, 12, 13, 14, 15, 16, 17] 3], .ret, (ialZ0_end n nm l cap0 (iter (ialZ0_step) (fz l n) ()))⟩)]) (Ψ := noPsi) (fuel := 0) (m := 65) (c := (Try.f44.body.getD .skip)) mix tabOkRG gam93_ok rfl (rs := [.tmp 2, .tmp 3, .tmp 4]) rfl rfl [] [] 1
    (vc := [(Run Try.prog ⟨w, rw, 1, β⟩ (.block 0 (.loop (loopB Try.f44 0))) (ialZ0_mk n nm l cap0 0 ()) (To ⟨w, rw, 1, β⟩ .ret (ialZ0_end n nm l cap0 (iter (ialZ0_step) (fz l n) ())))), ((some ⟨true, [.ints .u8 (32 : Nat) (B32 (1 : Int))]⟩ : Option Blk) = some ⟨true, [.ints .u8 (32 : Nat) (B32 (prS l (0 : Nat)))]⟩), ((some ⟨true, [.ints .u8 (n * (32 : Nat)) (List.replicate (n * (32 : Nat)) (0 : Int))]⟩ : Option Blk) = some ⟨true, [.ints .u8 (n * (32 : Nat)) (outS l n (0 : Nat))]⟩), (((0 : Int) ≤ (1 : Int)) ∧ ((1 : Int) < (18446744073709551616 : Int))), (((0 : Int) ≤ ((n : Nat) : Int)) ∧ (((n : Nat) : Int) ≤ ((n : Nat) : Int)) ∧ ((((n : Nat) : Int) * (32 : Int)) ≤ (281474976710656 : Int)))]) (by kernel_rfl)
    (AllP_cons (ialZ0_loop n nm l cap0 h0 h1 h2 h3 hc0 hl0_0 w rw β ()) (AllP_cons ((by kernel_rfl)) (AllP_cons ((by rfl)) (AllP_cons ⟨(by decide), (by decide)⟩ (AllP_cons ⟨(by have hq := fz_le l n; first | omega | (simp (disch := omega) only [wrapI]; omega)), (by have hq := fz_le l n; first | omega | (simp (disch := omega) only [wrapI]; omega)), (by have hq := fz_le l n; first | omega | (simp (disch := omega) only [wrapI]; omega))⟩ (AllP_nil))))))

theorem ialZ_body (n : Nat) (nm : Nat) (l : List Int) (cap0 : Nat) (h0 : (nm = (n * (32 : Nat)))) (h1 : (n ≤ (4398046510976 : Nat))) (h2 : (Byt l)) (h3 : ((fz l n) < n)) (w : World) (rw : List Nat) (β : Env) : Body Try.prog (tabOf tabRG) Try.f44 ⟨w, rw, 1, β⟩ [.o (.a (.sl 0 (0 : Nat) n cap0))] [some ⟨false, [.ints .u8 nm l]⟩] (fun ys K' => ys = [.a (.raw (.slice none 0 0)), .a (.i .i64 (9 : Int)), .a (.i .i64 (ialZ n l))] ∧ K' = [some ⟨false, [.ints .u8 nm l]⟩]) :=
  Body.lens (c := (Try.f44.body.getD .skip)) rfl fun h => ialZ_body0 n nm l cap0 h0 h1 h2 h3 (h.caps 0 _ _ _ _ rfl) (h.lens 0 _ .u8 nm l rfl (by simp)) w rw β

def ialN0_mk (n : Nat) (nm : Nat) (l : List Int) (cap0 : Nat) (k : Nat) (s : Unit) : St := ⟨sparse 65 [(0, .o (.a (.sl 0 (0 : Nat) n cap0))), (5, .o (.a (.sl 1 (0 : Nat) n n))), (6, .o (.a (.p 2 0))), (11, .o (.a (.sl 0 (0 : Nat) n cap0))), (12, .o (.a (.i .i64 ((n : Nat) : Int)))), (13, .o (.a (.sl 1 (0 : Nat) n n))), (14, .o (.g [.ints .u8 (32 : Nat) (B32 (1 : Int))])), (15, .o (.a (.sl 0 (0 : Nat) n cap0))), (16, .o (.a (.i .i64 ((n : Nat) : Int)))), (17, .o (.a (.i .i64 ((k : Nat) : Int))))], [some ⟨false, [.ints .u8 nm l]⟩, some ⟨true, [.ints .u8 (n * (32 : Nat)) (outS l n k)]⟩, some ⟨true, [.ints .u8 (32 : Nat) (B32 (prS l k))]⟩]⟩

def ialN0_step (k : Nat) (s : Unit) : Unit :=
  ()

set_option maxHeartbeats 1000000 in
theorem ialN0_round (n : Nat) (nm : Nat) (l : List Int) (cap0 : Nat) (h0 : (nm = (n * (32 : Nat)))) (h1 : (n ≤ (4398046510976 : Nat))) (h2 : (Byt l)) (h3 : ((fz l n) = n)) (hc0 : n ≤ cap0) (hl0_0 : List.length l = nm) (w : World) (rw : List Nat) (β : Env) (k : Nat) (hk : k < n) (s : Unit) : Run Try.prog ⟨w, rw, 1, β⟩ (loopB Try.f44 0) (ialN0_mk n nm l cap0 k s) (To ⟨w, rw, 1, β⟩ .normal (ialN0_mk n nm l cap0 (k + 1) (ialN0_step k s))) := by
  have e0 : (B32 (modL ((BV (B32 (prS l k))) * (BV (sub l (k * (32 : Nat)) (32 : Nat)))))) = (B32 (prS l (k + (1 : Nat)))) := (by first | exact wrap_succ (by have hq := fz_le l n; omega) | (rw [pr_r]) | rfl)
  have e1 : (splice (outS l n k) (k * (32 : Nat)) (32 : Nat) (B32 (prS l k))) = (outS l n (k + (1 : Nat))) := (by first | exact wrap_succ (by have hq := fz_le l n; omega) | (rw [pr_r]) | rfl)
  have e2 : (IntKind.i64.wrap (((k : Nat) : Int) + (1 : Int))) = (((k + (1 : Nat)) : Nat) : Int) := (by first | exact wrap_succ (by have hq := fz_le l n; omega) | (rw [pr_r]) | rfl)
  have h := Run.of_outT (B := ⟨w, rw, 1, β⟩) (Λ := noLam) (Ψ := noPsi) (fuel := 0) (ora := [true, false]) (c := (loopB Try.f44 0)) (st := (ialN0_mk n nm l cap0 k s)) (l := [.forget [0, 5, 6, 11, 12, 13, 14, 15, 16, 17] 3]) (s' := ⟨sparse 65 [(0, .o (.a (.sl 0 (0 : Nat) n cap0))), (5, .o (.a (.sl 1 (0 : Nat) n n))), (6, .o (.a (.p 2 0))), (11, .o (.a (.sl 0 (0 : Nat) n cap0))), (12, .o (.a (.i .i64 ((n : Nat) : Int)))), (13, .o (.a (.sl 1 (0 : Nat) n n))), (14, .o (.g [.ints .u8 (32 : Nat) (B32 (1 : Int))])), (15, .o (.a (.sl 0 (0 : Nat) n cap0))), (16, .o (.a (.i .i64 ((n : Nat) : Int)))), (17, .o (.a (.i .i64 (IntKind.i64.wrap (((k : Nat) : Int) + (1 : Int))))))], [some ⟨false, [.ints .u8 nm l]⟩, some ⟨true, [.ints .u8 (n * (32 : Nat)) (splice (outS l n k) (k * (32 : Nat)) (32 : Nat) (B32 (prS l k)))]⟩, some ⟨true, [.ints .u8 (32 : Nat) (B32 (modL ((BV (B32 (prS l k))) * (BV (sub l (k * (32 : Nat)) (32 : Nat))))))]⟩]⟩) (ex := .normal) mix tabOkRG gam93_ok
    (vc := [((Byt (B32 (prS l k))) ∧ (Byt (sub l (k * (32 : Nat)) (32 : Nat)))), (((k * (32 : Nat)) + (32 : Nat)) ≤ (n * (32 : Nat))), (((0 : Int) ≤ ((k : Nat) : Int)) ∧ (((k : Nat) : Int) < ((n : Nat) : Int))), (((modL (BV (sub l (k * (32 : Nat)) (32 : Nat)))) == (0 : Int)) = false), (Byt (sub l (k * (32 : Nat)) (32 : Nat))), (((k * (32 : Nat)) + (32 : Nat)) ≤ nm), (((0 : Int) ≤ ((k : Nat) : Int)) ∧ (((k : Nat) : Int) < ((n : Nat) : Int))), ((decide (((k : Nat) : Int) < ((n : Nat) : Int))) = true)]) (by kernel_rfl)
    (AllP_cons ⟨(byt_B32 _), (byt_sub (by assumption) _ _)⟩ (AllP_cons (by have hq := fz_le l n; first | omega | (simp (disch := omega) only [wrapI]; omega)) (AllP_cons ⟨(by have hq := fz_le l n; first | omega | (simp (disch := omega) only [wrapI]; omega)), (by have hq := fz_le l n; first | omega | (simp (disch := omega) only [wrapI]; omega))⟩ (AllP_cons (beq_eq_false_iff_ne.2 (fz_before (l := l) (n := n) (by omega))) (AllP_cons (byt_sub (by assumption) _ _) (AllP_cons (by have hq := fz_le l n; first | omega | (simp (disch := omega) only [wrapI]; omega)) (AllP_cons ⟨(by have hq := fz_le l n; first | omega | (simp (disch := omega) only [wrapI]; omega)), (by have hq := fz_le l n; first | omega | (simp (disch := omega) only [wrapI]; omega))⟩ (AllP_cons (decide_eq_true (by have hq := fz_le l n; first | omega | (simp (disch := omega) only [wrapI]; omega))) (AllP_nil)))))))))
  rw [e0, e1, e2] at h
  exact h

set_option maxHeartbeats 1000000 in
theorem ialN0_last (n : Nat) (nm : Nat) (l : List Int) (cap0 : Nat) (h0 : (nm = (n * (32 : Nat)))) (h1 : (n ≤ (4398046510976 : Nat))) (h2 : (Byt l)) (h3 : ((fz l n) = n)) (hc0 : n ≤ cap0) (hl0_0 : List.length l = nm) (w : World) (rw : List Nat) (β : Env) (s : Unit) : Run Try.prog ⟨w, rw, 1, β⟩ (loopB Try.f44 0) (ialN0_mk n nm l cap0 n s) (To ⟨w, rw, 1, β⟩ (.exit 0) (ialN0_mk n nm l cap0 n s)) :=
  Run.of_outT (B := ⟨w, rw, 1, β⟩) (Λ := noLam) (Ψ := noPsi) (fuel := 0) (ora := [false]) (l := [.forget [0, 5, 6, 11, 12, 13, 14, 15, 16, 17] 3]) mix tabOkRG gam93_ok
    (vc := [((decide (((n : Nat) : Int) < ((n : Nat) : Int))) = false)]) (by kernel_rfl)
    (AllP_cons (decide_eq_false (by have hq := fz_le l n; first | omega | (simp (disch := omega) only [wrapI]; omega))) (AllP_nil))

theorem ialN0_loop (n : Nat) (nm : Nat) (l : List Int) (cap0 : Nat) (h0 : (nm = (n * (32 : Nat)))) (h1 : (n ≤ (4398046510976 : Nat))) (h2 : (Byt l)) (h3 : ((fz l n) = n)) (hc0 : n ≤ cap0) (hl0_0 : List.length l = nm) (w : World) (rw : List Nat) (β : Env) (s : Unit) : Run Try.prog ⟨w, rw, 1, β⟩ (.block 0 (.loop (loopB Try.f44 0))) (ialN0_mk n nm l cap0 0 s) (To ⟨w, rw, 1, β⟩ .normal (ialN0_mk n nm l cap0 n (iter (ialN0_step) n s))) :=
  Run.count (fun k => ialN0_mk n nm l cap0 k (iter (ialN0_step) k s)) n (fun k hk => ialN0_round n nm l cap0 h0 h1 h2 h3 hc0 hl0_0 w rw β k hk _) (ex := (.exit 0)) (by simp) (ialN0_last n nm l cap0 h0 h1 h2 h3 hc0 hl0_0 w rw β _)

def ialN2_mk (n : Nat) (nm : Nat) (l : List Int) (cap0 : Nat) (k : Nat) (s : Unit) : St := ⟨sparse 65 [(0, .o (.a (.sl 0 (0 : Nat) n cap0))), (5, .o (.a (.sl 1 (0 : Nat) n n))), (6, .o (.a (.p 2 0))), (11, .o (.a (.sl 0 (0 : Nat) n cap0))), (12, .o (.a (.i .i64 ((n : Nat) : Int)))), (13, .o (.a (.sl 1 (0 : Nat) n n))), (14, .o (.g [.ints .u8 (32 : Nat) (B32 (1 : Int))])), (15, .o (.a (.sl 0 (0 : Nat) n cap0))), (16, .o (.a (.i .i64 ((n : Nat) : Int)))), (17, .o (.a (.i .i64 ((n : Nat) : Int)))), (33, .t [.g [.ints .u8 (32 : Nat) (B32 (invN (BV (B32 (prS l n)))))], .a (.i .i64 (invE1 (BV (B32 (prS l n)))))]), (34, .o (.g [.ints .u8 (32 : Nat) (B32 (prS l n))])), (35, .t [.g [.ints .u8 (32 : Nat) (B32 (invN (BV (B32 (prS l n)))))], .a (.i .i64 (invE1 (BV (B32 (prS l n)))))]), (36, .o (.g [.ints .u8 (32 : Nat) (B32 (invN (BV (B32 (prS l n)))))])), (38, .o (.a (.sl 0 (0 : Nat) n cap0))), (39, .o (.a (.i .i64 ((n : Nat) : Int)))), (40, .o (.a (.i .i64 ((k : Nat) : Int))))], [some ⟨false, [.ints .u8 nm l]⟩, some ⟨true, [.ints .u8 (n * (32 : Nat)) (out2 l n k)]⟩, some ⟨true, [.ints .u8 (32 : Nat) (B32 (alS l n k))]⟩]⟩

def ialN2_step (k : Nat) (s : Unit) : Unit :=
  ()

set_option maxHeartbeats 1000000 in
theorem ialN2_round (n : Nat) (nm : Nat) (l : List Int) (cap0 : Nat) (h0 : (nm = (n * (32 : Nat)))) (h1 : (n ≤ (4398046510976 : Nat))) (h2 : (Byt l)) (h3 : ((fz l n) = n)) (hc0 : n ≤ cap0) (hl0_0 : List.length l = nm) (w : World) (rw : List Nat) (β : Env) (k : Nat) (hk : k < n) (s : Unit) : Run Try.prog ⟨w, rw, 1, β⟩ (loopB Try.f44 2) (ialN2_mk n nm l cap0 k s) (To ⟨w, rw, 1, β⟩ .normal (ialN2_mk n nm l cap0 (k + 1) (ialN2_step k s))) := by
  have e0 : (splice (out2 l n k) (((n - (1 : Nat)) - k) * (32 : Nat)) (32 : Nat) (B32 (modL ((BV (sub (out2 l n k) (((n - (1 : Nat)) - k) * (32 : Nat)) (32 : Nat))) * (BV (B32 (alS l n k))))))) = (out2 l n (k + (1 : Nat))) := (by first | exact wrap_succ (by omega) | (rw [out2_step]) | (rw [alS_step]) | rfl)
  have e1 : (B32 (modL ((BV (B32 (alS l n k))) * (BV (sub l (((n - (1 : Nat)) - k) * (32 : Nat)) (32 : Nat)))))) = (B32 (alS l n (k + (1 : Nat)))) := (by first | exact wrap_succ (by omega) | (rw [out2_step]) | (rw [alS_step]) | rfl)
  have e2 : (IntKind.i64.wrap (((k : Nat) : Int) + (1 : Int))) = (((k + (1 : Nat)) : Nat) : Int) := (by first | exact wrap_succ (by omega) | (rw [out2_step]) | (rw [alS_step]) | rfl)
  have h := Run.of_outT (B := ⟨w, rw, 1, β⟩) (Λ := noLam) (Ψ := psiOf [(15, [.eqS 10 (.o (.a (.i .i64 ((((n - (1 : Nat)) - k) : Nat) : Int))))])]) (fuel := 0) (ora := [true]) (c := (loopB Try.f44 2)) (st := (ialN2_mk n nm l cap0 k s)) (l := [.forget [0, 5, 6, 11, 12, 13, 14, 15, 16, 17, 33, 34, 35, 36, 38, 39, 40] 3]) (s' := ⟨sparse 65 [(0, .o (.a (.sl 0 (0 : Nat) n cap0))), (5, .o (.a (.sl 1 (0 : Nat) n n))), (6, .o (.a (.p 2 0))), (11, .o (.a (.sl 0 (0 : Nat) n cap0))), (12, .o (.a (.i .i64 ((n : Nat) : Int)))), (13, .o (.a (.sl 1 (0 : Nat) n n))), (14, .o (.g [.ints .u8 (32 : Nat) (B32 (1 : Int))])), (15, .o (.a (.sl 0 (0 : Nat) n cap0))), (16, .o (.a (.i .i64 ((n : Nat) : Int)))), (17, .o (.a (.i .i64 ((n : Nat) : Int)))), (33, .t [.g [.ints .u8 (32 : Nat) (B32 (invN (BV (B32 (prS l n)))))], .a (.i .i64 (invE1 (BV (B32 (prS l n)))))]), (34, .o (.g [.ints .u8 (32 : Nat) (B32 (prS l n))])), (35, .t [.g [.ints .u8 (32 : Nat) (B32 (invN (BV (B32 (prS l n)))))], .a (.i .i64 (invE1 (BV (B32 (prS l n)))))]), (36, .o (.g [.ints .u8 (32 : Nat) (B32 (invN (BV (B32 (prS l n)))))])), (38, .o (.a (.sl 0 (0 : Nat) n cap0))), (39, .o (.a (.i .i64 ((n : Nat) : Int)))), (40, .o (.a (.i .i64 (IntKind.i64.wrap (((k : Nat) : Int) + (1 : Int))))))], [some ⟨false, [.ints .u8 nm l]⟩, some ⟨true, [.ints .u8 (n * (32 : Nat)) (splice (out2 l n k) (((n - (1 : Nat)) - k) * (32 : Nat)) (32 : Nat) (B32 (modL ((BV (sub (out2 l n k) (((n - (1 : Nat)) - k) * (32 : Nat)) (32 : Nat))) * (BV (B32 (alS l n k)))))))]⟩, some ⟨true, [.ints .u8 (32 : Nat) (B32 (modL ((BV (B32 (alS l n k))) * (BV (sub l (((n - (1 : Nat)) - k) * (32 : Nat)) (32 : Nat))))))]⟩]⟩) (ex := .normal) mix tabOkRG gam93_ok
    (vc := [((Byt (B32 (alS l n k))) ∧ (Byt (sub l (((n - (1 : Nat)) - k) * (32 : Nat)) (32 : Nat)))), (((((n - (1 : Nat)) - k) * (32 : Nat)) + (32 : Nat)) ≤ nm), (((0 : Int) ≤ ((((n - (1 : Nat)) - k) : Nat) : Int)) ∧ (((((n - (1 : Nat)) - k) : Nat) : Int) < ((n : Nat) : Int))), (((((n - (1 : Nat)) - k) * (32 : Nat)) + (32 : Nat)) ≤ (n * (32 : Nat))), (((0 : Int) ≤ ((((n - (1 : Nat)) - k) : Nat) : Int)) ∧ (((((n - (1 : Nat)) - k) : Nat) : Int) < ((n : Nat) : Int))), ((Byt (sub (out2 l n k) (((n - (1 : Nat)) - k) * (32 : Nat)) (32 : Nat))) ∧ (Byt (B32 (alS l n k)))), (((((n - (1 : Nat)) - k) * (32 : Nat)) + (32 : Nat)) ≤ (n * (32 : Nat))), (((0 : Int) ≤ ((((n - (1 : Nat)) - k) : Nat) : Int)) ∧ (((((n - (1 : Nat)) - k) : Nat) : Int) < ((n : Nat) : Int))), ((.o (.a (.i .i64 (IntKind.i64.wrap ((IntKind.i64.wrap (((n : Nat) : Int) - (1 : Int))) - ((k : Nat) : Int))))) : AV) = .o (.a (.i .i64 ((((n - (1 : Nat)) - k) : Nat) : Int)))), ((decide (((k : Nat) : Int) < ((n : Nat) : Int))) = true)]) (by kernel_rfl)
    (AllP_cons ⟨(byt_B32 _), (byt_sub (by assumption) _ _)⟩ (AllP_cons (by have hq := fz_le l n; first | omega | (simp (disch := omega) only [wrapI]; omega)) (AllP_cons ⟨(by have hq := fz_le l n; first | omega | (simp (disch := omega) only [wrapI]; omega)), (by have hq := fz_le l n; first | omega | (simp (disch := omega) only [wrapI]; omega))⟩ (AllP_cons (by have hq := fz_le l n; first | omega | (simp (disch := omega) only [wrapI]; omega)) (AllP_cons ⟨(by have hq := fz_le l n; first | omega | (simp (disch := omega) only [wrapI]; omega)), (by have hq := fz_le l n; first | omega | (simp (disch := omega) only [wrapI]; omega))⟩ (AllP_cons ⟨(byt_sub (out2_byt l n _) _ _), (byt_B32 _)⟩ (AllP_cons (by have hq := fz_le l n; first | omega | (simp (disch := omega) only [wrapI]; omega)) (AllP_cons ⟨(by have hq := fz_le l n; first | omega | (simp (disch := omega) only [wrapI]; omega)), (by have hq := fz_le l n; first | omega | (simp (disch := omega) only [wrapI]; omega))⟩ (AllP_cons ((congrArg (fun z => AV.o (.a (.i .i64 z))) (by simp (disch := omega) only [wrapI]; omega))) (AllP_cons (decide_eq_true (by have hq := fz_le l n; first | omega | (simp (disch := omega) only [wrapI]; omega))) (AllP_nil)))))))))))
  rw [e0, e1, e2] at h
  exact h

set_option maxHeartbeats 1000000 in
theorem ialN2_last (n : Nat) (nm : Nat) (l : List Int) (cap0 : Nat) (h0 : (nm = (n * (32 : Nat)))) (h1 : (n ≤ (4398046510976 : Nat))) (h2 : (Byt l)) (h3 : ((fz l n) = n)) (hc0 : n ≤ cap0) (hl0_0 : List.length l = nm) (w : World) (rw : List Nat) (β : Env) (s : Unit) : Run Try.prog ⟨w, rw, 1, β⟩ (loopB Try.f44 2) (ialN2_mk n nm l cap0 n s) (To ⟨w, rw, 1, β⟩ (.exit 2) (ialN2_mk n nm l cap0 n s)) :=
  Run.of_outT (B := ⟨w, rw, 1, β⟩) (Λ := noLam) (Ψ := noPsi) (fuel := 0) (ora := [false]) (l := [.forget [0, 5, 6, 11, 12, 13, 14, 15, 16, 17, 33, 34, 35, 36, 38, 39, 40] 3]) mix tabOkRG gam93_ok
    (vc := [((decide (((n : Nat) : Int) < ((n : Nat) : Int))) = false)]) (by kernel_rfl)
    (AllP_cons (decide_eq_false (by have hq := fz_le l n; first | omega | (simp (disch := omega) only [wrapI]; omega))) (AllP_nil))

theorem ialN2_loop (n : Nat) (nm : Nat) (l : List Int) (cap0 : Nat) (h0 : (nm = (n * (32 : Nat)))) (h1 : (n ≤ (4398046510976 : Nat))) (h2 : (Byt l)) (h3 : ((fz l n) = n)) (hc0 : n ≤ cap0) (hl0_0 : List.length l = nm) (w : World) (rw : List Nat) (β : Env) (s : Unit) : Run Try.prog ⟨w, rw, 1, β⟩ (.block 2 (.loop (loopB Try.f44 2))) (ialN2_mk n nm l cap0 0 s) (To ⟨w, rw, 1, β⟩ .normal (ialN2_mk n nm l cap0 n (iter (ialN2_step) n s))) :=
  Run.count (fun k => ialN2_mk n nm l cap0 k (iter (ialN2_step) k s)) n (fun k hk => ialN2_round n nm l cap0 h0 h1 h2 h3 hc0 hl0_0 w rw β k hk _) (ex := (.exit 2)) (by simp) (ialN2_last n nm l cap0 h0 h1 h2 h3 hc0 hl0_0 w rw β _)

def ialN (n : Nat) : Nat :=
  (n * (32 : Nat))

set_option maxHeartbeats 1000000 in
theorem ialN_body0 (n : Nat) (nm : Nat) (l : List Int) (cap0 : Nat) (h0 : (nm = (n * (32 : Nat)))) (h1 : (n ≤ (4398046510976 : Nat))) (h2 : (Byt l)) (h3 : ((fz l n) = n)) (hc0 : n ≤ cap0) (hl0_0 : List.length l = nm) (w : World) (rw : List Nat) (β : Env) : Body Try.prog (tabOf tabRG) Try.f44 ⟨w, rw, 1, β⟩ [.o (.a (.sl 0 (0 : Nat) n cap0))] [some ⟨false, [.ints .u8 nm l]⟩] (fun ys K' => ys = [.a (.sl 1 (0 : Nat) n n), .a (.i .i64 (0 : Int)), .a (.i .i64 (0 : Int))] ∧ K' = [some ⟨false, [.ints .u8 nm l]⟩, some ⟨true, [.ints .u8 (ialN n) (out2 l n n)]⟩]) :=
  Body.of_finK (Γ := gam93) (Λ := lamOf [(0, ⟨[.eqB 1 (⟨true, [.ints .u8 (n * (32 : Nat)) (outS l n (0 : Nat))]⟩), .eqB 2 (⟨true, [.ints .u8 (32 : Nat) (B32 (prS l (0 : Nat)))]⟩), .forget [0, 5, 6, 11, 12, 13, 14, 15, 16, 17] 3], .normal, (ialN0_mk n nm l cap0 n (iter (ialN0_step) n ()))⟩), (2, ⟨[.eqB 1 (⟨true, [.ints .u8 (n * (32 : Nat)) (out2 l n (0 : Nat))]⟩), .eqB 2 (⟨true, [.ints .u8 (32 : Nat) (B32 (alS l n (0 : Nat)))]⟩), .forget [0, 5, 6, 11, 12, 13, 14, 15, 16, 17, 33, 34, 35, 36, 38, 39, 40] 3], .normal, (ialN2_mk n nm l cap0 n (iter (ialN2_step) n ()))⟩)]) (Ψ := noPsi) (fuel := 0) (m := 65) (c := (Try.f44.body.getD .skip)) mix tabOkRG gam93_ok rfl (rs := [.tmp 2, .tmp 3, .tmp 4]) rfl rfl [] [] 2
    (vc := [(Run Try.prog ⟨w, rw, 1, β⟩ (.block 2 (.loop (loopB Try.f44 2))) (ialN2_mk n nm l cap0 0 ()) (To ⟨w, rw, 1, β⟩ .normal (ialN2_mk n nm l cap0 n (iter (ialN2_step) n ())))), ((some ⟨true, [.ints .u8 (32 : Nat) (B32 (invN (BV (B32 (prS l n)))))]⟩ : Option Blk) = some ⟨true, [.ints .u8 (32 : Nat) (B32 (alS l n (0 : Nat)))]⟩), ((some ⟨true, [.ints .u8 (n * (32 : Nat)) (outS l n n)]⟩ : Option Blk) = some ⟨true, [.ints .u8 (n * (32 : Nat)) (out2 l n (0 : Nat))]⟩), (Byt (B32 (prS l n))), (Run Try.prog ⟨w, rw, 1, β⟩ (.block 0 (.loop (loopB Try.f44 0))) (ialN0_mk n nm l cap0 0 ()) (To ⟨w, rw, 1, β⟩ .normal (ialN0_mk n nm l cap0 n (iter (ialN0_step) n ())))), ((some ⟨true, [.ints .u8 (32 : Nat) (B32 (1 : Int))]⟩ : Option Blk) = some ⟨true, [.ints .u8 (32 : Nat) (B32 (prS l (0 : Nat)))]⟩), ((some ⟨true, [.ints .u8 (n * (32 : Nat)) (List.replicate (n * (32 : Nat)) (0 : Int))]⟩ : Option Blk) = some ⟨true, [.ints .u8 (n * (32 : Nat)) (outS l n (0 : Nat))]⟩), (((0 : Int) ≤ (1 : Int)) ∧ ((1 : Int) < (18446744073709551616 : Int))), (((0 : Int) ≤ ((n : Nat) : Int)) ∧ (((n : Nat) : Int) ≤ ((n : Nat) : Int)) ∧ ((((n : Nat) : Int) * (32 : Int)) ≤ (281474976710656 : Int)))]) (by kernel_rfl)
    (AllP_cons (ialN2_loop n nm l cap0 h0 h1 h2 h3 hc0 hl0_0 w rw β ()) (AllP_cons ((by rw [inv_prS])) (AllP_cons ((by rfl)) (AllP_cons (byt_B32 _) (AllP_cons (ialN0_loop n nm l cap0 h0 h1 h2 h3 hc0 hl0_0 w rw β ()) (AllP_cons ((by kernel_rfl)) (AllP_cons ((by rfl)) (AllP_cons ⟨(by decide), (by decide)⟩ (AllP_cons ⟨(by have hq := fz_le l n; first | omega | (simp (disch := omega) only [wrapI]; omega)), (by have hq := fz_le l n; first | omega | (simp (disch := omega) only [wrapI]; omega)), (by have hq := fz_le l n; first | omega | (simp (disch := omega) only [wrapI]; omega))⟩ (AllP_nil))))))))))

theorem ialN_body (n : Nat) (nm : Nat) (l : List Int) (cap0 : Nat) (h0 : (nm = (n * (32 : Nat)))) (h1 : (n ≤ (4398046510976 : Nat))) (h2 : (Byt l)) (h3 : ((fz l n) = n)) (w : World) (rw : List Nat) (β : Env) : Body Try.prog (tabOf tabRG) Try.f44 ⟨w, rw, 1, β⟩ [.o (.a (.sl 0 (0 : Nat) n cap0))] [some ⟨false, [.ints .u8 nm l]⟩] (fun ys K' => ys = [.a (.sl 1 (0 : Nat) n n), .a (.i .i64 (0 : Int)), .a (.i .i64 (0 : Int))] ∧ K' = [some ⟨false, [.ints .u8 nm l]⟩, some ⟨true, [.ints .u8 (ialN n) (out2 l n n)]⟩]) :=
  Body.lens (c := (Try.f44.body.getD .skip)) rfl fun h => ialN_body0 n nm l cap0 h0 h1 h2 h3 (h.caps 0 _ _ _ _ rfl) (h.lens 0 _ .u8 nm l rfl (by simp)) w rw β

def riaZ0_mk (n : Nat) (nm : Nat) (l : List Int) (cap0 : Nat) (k : Nat) (s : Unit) : St := ⟨sparse 41 [(0, .o (.a (.sl 0 (0 : Nat) n cap0))), (5, .o (.a (.raw (.slice none 0 0)))), (6, .o (.a (.i .i64 ((k : Nat) : Int))))], [some ⟨false, [.ints .u8 nm l]⟩]⟩

def riaZ0_step (k : Nat) (s : Unit) : Unit :=
  ()

set_option maxHeartbeats 1000000 in
theorem riaZ0_round (n : Nat) (nm : Nat) (l : List Int) (cap0 : Nat) (h0 : (nm = (n * (32 : Nat)))) (h1 : (n ≤ (4398046510976 : Nat))) (h2 : (Byt l)) (h3 : ((fz l n) < n)) (hc0 : n ≤ cap0) (hl0_0 : List.length l = nm) (w : World) (rw : List Nat) (β : Env) (k : Nat) (hk : k < (fz l n)) (s : Unit) : Run Try.prog ⟨w, rw, 1, β⟩ (loopB Try.f46 0) (riaZ0_mk n nm l cap0 k s) (To ⟨w, rw, 1, β⟩ .normal (riaZ0_mk n nm l cap0 (k + 1) (riaZ0_step k s))) := by
  have e0 : (IntKind.i64.wrap (((k : Nat) : Int) + (1 : Int))) = (((k + (1 : Nat)) : Nat) : Int) := (by first | exact wrap_succ (by have hq := fz_le l n; omega) | rfl)
  have h := Run.of_outT (B := ⟨w, rw, 1, β⟩) (Λ := noLam) (Ψ := noPsi) (fuel := 0) (ora := [true, false]) (c := (loopB Try.f46 0)) (st := (riaZ0_mk n nm l cap0 k s)) (l := [.forget [0, 5, 6] 1]) (s' := ⟨sparse 41 [(0, .o (.a (.sl 0 (0 : Nat) n cap0))), (5, .o (.a (.raw (.slice none 0 0)))), (6, .o (.a (.i .i64 (IntKind.i64.wrap (((k : Nat) : Int) + (1 : Int))))))], [some ⟨false, [.ints .u8 nm l]⟩]⟩) (ex := .normal) mix tabOkRG gam93_ok
    (vc := [(((modL (BV (sub l (k * (32 : Nat)) (32 : Nat)))) == (0 : Int)) = false), (Byt (sub l (k * (32 : Nat)) (32 : Nat))), (((k * (32 : Nat)) + (32 : Nat)) ≤ nm), (((0 : Int) ≤ ((k : Nat) : Int)) ∧ (((k : Nat) : Int) < ((n : Nat) : Int))), ((decide (((k : Nat) : Int) < ((n : Nat) : Int))) = true)]) (by kernel_rfl)
    (AllP_cons (beq_eq_false_iff_ne.2 (fz_before (l := l) (n := n) (by omega))) (AllP_cons (byt_sub (by assumption) _ _) (AllP_cons (by have hq := fz_le l n; first | omega | (simp (disch := omega) only [wrapI]; omega)) (AllP_cons ⟨(by have hq := fz_le l n; first | omega | (simp (disch := omega) only [wrapI]; omega)), (by have hq := fz_le l n; first | omega | (simp (disch := omega) only [wrapI]; omega))⟩ (AllP_cons (decide_eq_true (by have hq := fz_le l n; first | omega | (simp (disch := omega) only [wrapI]; omega))) (AllP_nil))))))
  rw [e0] at h
  exact h

def riaZ0_end (n : Nat) (nm : Nat) (l : List Int) (cap0 : Nat) (s : Unit) : St := ⟨sparse 41 [(0, .o (.a (.sl 0 (0 : Nat) n cap0))), (2, .o (.a (.raw (.slice none 0 0)))), (3, .o (.a (.i .i64 (9 : Int)))), (4, .o (.a (.i .i64 (((fz l n) : Nat) : Int)))), (5, .o (.a (.raw (.slice none 0 0)))), (6, .o (.a (.i .i64 (((fz l n) : Nat) : Int))))], [some ⟨false, [.ints .u8 nm l]⟩]⟩

set_option maxHeartbeats 1000000 in
theorem riaZ0_last (n : Nat) (nm : Nat) (l : List Int) (cap0 : Nat) (h0 : (nm = (n * (32 : Nat)))) (h1 : (n ≤ (4398046510976 : Nat))) (h2 : (Byt l)) (h3 : ((fz l n) < n)) (hc0 : n ≤ cap0) (hl0_0 : List.length l = nm) (w : World) (rw : List Nat) (β : Env) (s : Unit) : Run Try.prog ⟨w, rw, 1, β⟩ (loopB Try.f46 0) (riaZ0_mk n nm l cap0 (fz l n) s) (To ⟨w, rw, 1, β⟩ .ret (riaZ0_end n nm l cap0 s)) :=
  Run.of_outT (B := ⟨w, rw, 1, β⟩) (Λ := noLam) (Ψ := noPsi) (fuel := 0) (ora := [true, true]) (l := [.forget [0, 2, 3, 4, 5, 6] 1]) mix tabOkRG gam93_ok
    (vc := [(((modL (BV (sub l ((fz l n) * (32 : Nat)) (32 : Nat)))) == (0 : Int)) = true), (Byt (sub l ((fz l n) * (32 : Nat)) (32 : Nat))), ((((fz l n) * (32 : Nat)) + (32 : Nat)) ≤ nm), (((0 : Int) ≤ (((fz l n) : Nat) : Int)) ∧ ((((fz l n) : Nat) : Int) < ((n : Nat) : Int))), ((decide ((((fz l n) : Nat) : Int) < ((n : Nat) : Int))) = true)]) (by kernel_rfl)
    (AllP_cons (beq_iff_eq.2 (fz_at h3)) (AllP_cons (byt_sub (by assumption) _ _) (AllP_cons (by have hq := fz_le l n; first | omega | (simp (disch := omega) only [wrapI]; omega)) (AllP_cons ⟨(by have hq := fz_le l n; first | omega | (simp (disch := omega) only [wrapI]; omega)), (by have hq := fz_le l n; first | omega | (simp (disch := omega) only [wrapI]; omega))⟩ (AllP_cons (decide_eq_true (by have hq := fz_le l n; first | omega | (simp (disch := omega) only [wrapI]; omega))) (AllP_nil))))))

theorem riaZ0_loop (n : Nat) (nm : Nat) (l : List Int) (cap0 : Nat) (h0 : (nm = (n * (32 : Nat)))) (h1 : (n ≤ (4398046510976 : Nat))) (h2 : (Byt l)) (h3 : ((fz l n) < n)) (hc0 : n ≤ cap0) (hl0_0 : List.length l = nm) (w : World) (rw : List Nat) (β : Env) (s : Unit) : Run Try.prog ⟨w, rw, 1, β⟩ (.block 0 (.loop (loopB Try.f46 0))) (riaZ0_mk n nm l cap0 0 s) (To ⟨w, rw, 1, β⟩ .ret (riaZ0_end n nm l cap0 (iter (riaZ0_step) (fz l n) s))) :=
  Run.count (fun k => riaZ0_mk n nm l cap0 k (iter (riaZ0_step) k s)) (fz l n) (fun k hk => riaZ0_round n nm l cap0 h0 h1 h2 h3 hc0 hl0_0 w rw β k hk _) (ex := .ret) (by simp) (riaZ0_last n nm l cap0 h0 h1 h2 h3 hc0 hl0_0 w rw β _)

def riaZ (n : Nat) (l : List Int) : Int :=
  (((fz l n) : Nat) : Int)

set_option maxHeartbeats 1000000 in
theorem riaZ_body0 (n : Nat) (nm : Nat) (l : List Int) (cap0 : Nat) (h0 : (nm = (n * (32 : Nat)))) (h1 : (n ≤ (4398046510976 : Nat))) (h2 : (Byt l)) (h3 : ((fz l n) < n)) (hc0 : n ≤ cap0) (hl0_0 : List.length l = nm) (w : World) (rw : List Nat) (β : Env) : Body Try.prog (tabOf tabRG) Try.f46 ⟨w, rw, 1, β⟩ [.o (.a (.sl 0 (0 : Nat) n cap0))] [some ⟨false, [.ints .u8 nm l]⟩] (fun ys K' => ys = [.a (.raw (.slice none 0 0)), .a (.i .i64 (9 : Int)), .a (.i .i64 (riaZ n l))] ∧ K' = [some ⟨false, [.ints .u8 nm l]⟩]) :=
  Body.of_finK (Γ := gam93) (Λ := lamOf [(0, ⟨[.forget [0, 5, 6] 1], .ret, (riaZ0_end n nm l cap0 (iter (riaZ0_step) (fz l n) ()))⟩)]) (Ψ := noPsi) (fuel := 0) (m := 41) (c := (Try.f46.body.getD .skip)) mix tabOkRG gam93_ok rfl (rs := [.tmp 2, .tmp 3, .tmp 4]) rfl rfl [] [] 1
    (vc := [(Run Try.prog ⟨w, rw, 1, β⟩ (.block 0 (.loop (loopB Try.f46 0))) (riaZ0_mk n nm l cap0 0 ()) (To ⟨w, rw, 1, β⟩ .ret (riaZ0_end n nm l cap0 (iter (riaZ0_step) (fz l n) ()))))]) (by kernel_rfl)
    (AllP_cons (riaZ0_loop n nm l cap0 h0 h1 h2 h3 hc0 hl0_0 w rw β ()) (AllP_nil))

theorem riaZ_body (n : Nat) (nm : Nat) (l : List Int) (cap0 : Nat) (h0 : (nm = (n * (32 : Nat)))) (h1 : (n ≤ (4398046510976 : Nat))) (h2 : (Byt l)) (h3 : ((fz l n) < n)) (w : World) (rw : List Nat) (β : Env) : Body Try.prog (tabOf tabRG) Try.f46 ⟨w, rw, 1, β⟩ [.o (.a (.sl 0 (0 : Nat) n cap0))] [some ⟨false, [.ints .u8 nm l]⟩] (fun ys K' => ys = [.a (.raw (.slice none 0 0)), .a (.i .i64 (9 : Int)), .a (.i .i64 (riaZ n l))] ∧ K' = [some ⟨false, [.ints .u8 nm l]⟩]) :=
  Body.lens (c := (Try.f46.body.getD .skip)) rfl fun h => riaZ_body0 n nm l cap0 h0 h1 h2 h3 (h.caps 0 _ _ _ _ rfl) (h.lens 0 _ .u8 nm l rfl (by simp)) w rw β

def riaN0_mk (n : Nat) (nm : Nat) (l : List Int) (cap0 : Nat) (k : Nat) (s : Unit) : St := ⟨sparse 41 [(0, .o (.a (.sl 0 (0 : Nat) n cap0))), (5, .o (.a (.raw (.slice none 0 0)))), (6, .o (.a (.i .i64 ((k : Nat) : Int))))], [some ⟨false, [.ints .u8 nm l]⟩]⟩

def riaN0_step (k : Nat) (s : Unit) : Unit :=
  ()

set_option maxHeartbeats 1000000 in
theorem riaN0_round (n : Nat) (nm : Nat) (l : List Int) (cap0 : Nat) (h0 : (nm = (n * (32 : Nat)))) (h1 : (n ≤ (4398046510976 : Nat))) (h2 : (Byt l)) (h3 : ((fz l n) = n)) (hc0 : n ≤ cap0) (hl0_0 : List.length l = nm) (w : World) (rw : List Nat) (β : Env) (k : Nat) (hk : k < n) (s : Unit) : Run Try.prog ⟨w, rw, 1, β⟩ (loopB Try.f46 0) (riaN0_mk n nm l cap0 k s) (To ⟨w, rw, 1, β⟩ .normal (riaN0_mk n nm l cap0 (k + 1) (riaN0_step k s))) := by
  have e0 : (IntKind.i64.wrap (((k : Nat) : Int) + (1 : Int))) = (((k + (1 : Nat)) : Nat) : Int) := (by first | exact wrap_succ (by have hq := fz_le l n; omega) | rfl)
  have h := Run.of_outT (B := ⟨w, rw, 1, β⟩) (Λ := noLam) (Ψ := noPsi) (fuel := 0) (ora := [true, false]) (c := (loopB Try.f46 0)) (st := (riaN0_mk n nm l cap0 k s)) (l := [.forget [0, 5, 6] 1]) (s' := ⟨sparse 41 [(0, .o (.a (.sl 0 (0 : Nat) n cap0))), (5, .o (.a (.raw (.slice none 0 0)))), (6, .o (.a (.i .i64 (IntKind.i64.wrap (((k : Nat) : Int) + (1 : Int))))))], [some ⟨false, [.ints .u8 nm l]⟩]⟩) (ex := .normal) mix tabOkRG gam93_ok
    (vc := [(((modL (BV (sub l (k * (32 : Nat)) (32 : Nat)))) == (0 : Int)) = false), (Byt (sub l (k * (32 : Nat)) (32 : Nat))), (((k * (32 : Nat)) + (32 : Nat)) ≤ nm), (((0 : Int) ≤ ((k : Nat) : Int)) ∧ (((k : Nat) : Int) < ((n : Nat) : Int))), ((decide (((k : Nat) : Int) < ((n : Nat) : Int))) = true)]) (by kernel_rfl)
    (AllP_cons (beq_eq_false_iff_ne.2 (fz_before (l := l) (n := n) (by omega))) (AllP_cons (byt_sub (by assumption) _ _) (AllP_cons (by have hq := fz_le l n; first | omega | (simp (disch := omega) only [wrapI]; omega)) (AllP_cons ⟨(by have hq := fz_le l n; first | omega | (simp (disch := omega) only [wrapI]; omega)), (by have hq := fz_le l n; first | omega | (simp (disch := omega) only [wrapI]; omega))⟩ (AllP_cons (decide_eq_true (by have hq := fz_le l n; first | omega | (simp (disch := omega) only [wrapI]; omega))) (AllP_nil))))))
  rw [e0] at h
  exact h

set_option maxHeartbeats 1000000 in
theorem riaN0_last (n : Nat) (nm : Nat) (l : List Int) (cap0 : Nat) (h0 : (nm = (n * (32 : Nat)))) (h1 : (n ≤ (4398046510976 : Nat))) (h2 : (Byt l)) (h3 : ((fz l n) = n)) (hc0 : n ≤ cap0) (hl0_0 : List.length l = nm) (w : World) (rw : List Nat) (β : Env) (s : Unit) : Run Try.prog ⟨w, rw, 1, β⟩ (loopB Try.f46 0) (riaN0_mk n nm l cap0 n s) (To ⟨w, rw, 1, β⟩ (.exit 0) (riaN0_mk n nm l cap0 n s)) :=
  Run.of_outT (B := ⟨w, rw, 1, β⟩) (Λ := noLam) (Ψ := noPsi) (fuel := 0) (ora := [false]) (l := [.forget [0, 5, 6] 1]) mix tabOkRG gam93_ok
    (vc := [((decide (((n : Nat) : Int) < ((n : Nat) : Int))) = false)]) (by kernel_rfl)
    (AllP_cons (decide_eq_false (by have hq := fz_le l n; first | omega | (simp (disch := omega) only [wrapI]; omega))) (AllP_nil))

theorem riaN0_loop (n : Nat) (nm : Nat) (l : List Int) (cap0 : Nat) (h0 : (nm = (n * (32 : Nat)))) (h1 : (n ≤ (4398046510976 : Nat))) (h2 : (Byt l)) (h3 : ((fz l n) = n)) (hc0 : n ≤ cap0) (hl0_0 : List.length l = nm) (w : World) (rw : List Nat) (β : Env) (s : Unit) : Run Try.prog ⟨w, rw, 1, β⟩ (.block 0 (.loop (loopB Try.f46 0))) (riaN0_mk n nm l cap0 0 s) (To ⟨w, rw, 1, β⟩ .normal (riaN0_mk n nm l cap0 n (iter (riaN0_step) n s))) :=
  Run.count (fun k => riaN0_mk n nm l cap0 k (iter (riaN0_step) k s)) n (fun k hk => riaN0_round n nm l cap0 h0 h1 h2 h3 hc0 hl0_0 w rw β k hk _) (ex := (.exit 0)) (by simp) (riaN0_last n nm l cap0 h0 h1 h2 h3 hc0 hl0_0 w rw β _)

def riaN2_mk (n : Nat) (nm : Nat) (l : List Int) (cap0 : Nat) (k : Nat) (s : Unit) : St := ⟨sparse 41 [(0, .o (.a (.sl 0 (0 : Nat) n cap0))), (5, .o (.a (.rs 1 (0 : Nat) k 32))), (6, .o (.a (.i .i64 ((n : Nat) : Int)))), (7, .o (.a (.i .i64 ((k : Nat) : Int))))], [some ⟨false, [.ints .u8 nm l]⟩, some ⟨true, [.ints .u8 (k * (32 : Nat)) (rfS l k)]⟩]⟩

def riaN2_step (k : Nat) (s : Unit) : Unit :=
  ()

set_option maxHeartbeats 1000000 in
theorem riaN2_round (n : Nat) (nm : Nat) (l : List Int) (cap0 : Nat) (h0 : (nm = (n * (32 : Nat)))) (h1 : (n ≤ (4398046510976 : Nat))) (h2 : (Byt l)) (h3 : ((fz l n) = n)) (hc0 : n ≤ cap0) (hl0_0 : List.length l = nm) (w : World) (rw : List Nat) (β : Env) (k : Nat) (hk : k < n) (s : Unit) : Run Try.prog ⟨w, rw, 1, β⟩ (loopB Try.f46 2) (riaN2_mk n nm l cap0 k s) (To ⟨w, rw, 1, β⟩ .normal (riaN2_mk n nm l cap0 (k + 1) (riaN2_step k s))) := by
  have e0 : ((sub (rfS l k) (0 : Nat) (k * (32 : Nat))) ++ (sub (B32 (invN (BV (sub l (k * (32 : Nat)) (32 : Nat))))) (0 : Nat) (32 : Nat))) = (rfS l (k + (1 : Nat))) := (by first | exact wrap_succ (by omega) | omega | (rw [sub_all _ _ (Nat.le_of_eq (rfS_len _ _))]; rfl))
  have e1 : (IntKind.i64.wrap (((k : Nat) : Int) + (1 : Int))) = (((k + (1 : Nat)) : Nat) : Int) := (by first | exact wrap_succ (by omega) | omega | (rw [sub_all _ _ (Nat.le_of_eq (rfS_len _ _))]; rfl))
  have e2 : ((k * (32 : Nat)) + (32 : Nat)) = ((k + (1 : Nat)) * (32 : Nat)) := (by first | exact wrap_succ (by omega) | omega | (rw [sub_all _ _ (Nat.le_of_eq (rfS_len _ _))]; rfl))
  have h := Run.of_outT (B := ⟨w, rw, 1, β⟩) (Λ := noLam) (Ψ := noPsi) (fuel := 0) (ora := [true, false]) (c := (loopB Try.f46 2)) (st := (riaN2_mk n nm l cap0 k s)) (l := [.swap 1 4, .forget [0, 5, 6, 7] 2]) (s' := ⟨sparse 41 [(0, .o (.a (.sl 0 (0 : Nat) n cap0))), (5, .o (.a (.rs 1 (0 : Nat) (k + (1 : Nat)) 32))), (6, .o (.a (.i .i64 ((n : Nat) : Int)))), (7, .o (.a (.i .i64 (IntKind.i64.wrap (((k : Nat) : Int) + (1 : Int))))))], [some ⟨false, [.ints .u8 nm l]⟩, some ⟨true, [.ints .u8 ((k * (32 : Nat)) + (32 : Nat)) ((sub (rfS l k) (0 : Nat) (k * (32 : Nat))) ++ (sub (B32 (invN (BV (sub l (k * (32 : Nat)) (32 : Nat))))) (0 : Nat) (32 : Nat)))]⟩]⟩) (ex := .normal) mix tabOkRG gam93_ok
    (vc := [((((0 : Nat) + (k * (32 : Nat))) ≤ (k * (32 : Nat))) ∧ (((1 : Nat) ≤ (1 : Nat)) ∧ ((32 : Nat) ≤ (32 : Nat))) ∧ (((k + (1 : Nat)) * (32 : Nat)) ≤ (140737488355328 : Nat))), (Byt (sub l (k * (32 : Nat)) (32 : Nat))), (((k * (32 : Nat)) + (32 : Nat)) ≤ nm), (((0 : Int) ≤ ((k : Nat) : Int)) ∧ (((k : Nat) : Int) < ((n : Nat) : Int))), ((decide (((k : Nat) : Int) < ((n : Nat) : Int))) = true)]) (by kernel_rfl)
    (AllP_cons ⟨(by have hq := fz_le l n; first | omega | (simp (disch := omega) only [wrapI]; omega)), ⟨(by decide), (by decide)⟩, (by have hq := fz_le l n; first | omega | (simp (disch := omega) only [wrapI]; omega))⟩ (AllP_cons (byt_sub (by assumption) _ _) (AllP_cons (by have hq := fz_le l n; first | omega | (simp (disch := omega) only [wrapI]; omega)) (AllP_cons ⟨(by have hq := fz_le l n; first | omega | (simp (disch := omega) only [wrapI]; omega)), (by have hq := fz_le l n; first | omega | (simp (disch := omega) only [wrapI]; omega))⟩ (AllP_cons (decide_eq_true (by have hq := fz_le l n; first | omega | (simp (disch := omega) only [wrapI]; omega))) (AllP_nil))))))
  rw [e0, e1, e2] at h
  exact h

set_option maxHeartbeats 1000000 in
theorem riaN2_last (n : Nat) (nm : Nat) (l : List Int) (cap0 : Nat) (h0 : (nm = (n * (32 : Nat)))) (h1 : (n ≤ (4398046510976 : Nat))) (h2 : (Byt l)) (h3 : ((fz l n) = n)) (hc0 : n ≤ cap0) (hl0_0 : List.length l = nm) (w : World) (rw : List Nat) (β : Env) (s : Unit) : Run Try.prog ⟨w, rw, 1, β⟩ (loopB Try.f46 2) (riaN2_mk n nm l cap0 n s) (To ⟨w, rw, 1, β⟩ (.exit 2) (riaN2_mk n nm l cap0 n s)) :=
  Run.of_outT (B := ⟨w, rw, 1, β⟩) (Λ := noLam) (Ψ := noPsi) (fuel := 0) (ora := [false]) (l := [.forget [0, 5, 6, 7] 2]) mix tabOkRG gam93_ok
    (vc := [((decide (((n : Nat) : Int) < ((n : Nat) : Int))) = false)]) (by kernel_rfl)
    (AllP_cons (decide_eq_false (by have hq := fz_le l n; first | omega | (simp (disch := omega) only [wrapI]; omega))) (AllP_nil))

theorem riaN2_loop (n : Nat) (nm : Nat) (l : List Int) (cap0 : Nat) (h0 : (nm = (n * (32 : Nat)))) (h1 : (n ≤ (4398046510976 : Nat))) (h2 : (Byt l)) (h3 : ((fz l n) = n)) (hc0 : n ≤ cap0) (hl0_0 : List.length l = nm) (w : World) (rw : List Nat) (β : Env) (s : Unit) : Run Try.prog ⟨w, rw, 1, β⟩ (.block 2 (.loop (loopB Try.f46 2))) (riaN2_mk n nm l cap0 0 s) (To ⟨w, rw, 1, β⟩ .normal (riaN2_mk n nm l cap0 n (iter (riaN2_step) n s))) :=
  Run.count (fun k => riaN2_mk n nm l cap0 k (iter (riaN2_step) k s)) n (fun k hk => riaN2_round n nm l cap0 h0 h1 h2 h3 hc0 hl0_0 w rw β k hk _) (ex := (.exit 2)) (by simp) (riaN2_last n nm l cap0 h0 h1 h2 h3 hc0 hl0_0 w rw β _)

def riaN (n : Nat) : Nat :=
  (n * (32 : Nat))

set_option maxHeartbeats 1000000 in
theorem riaN_body0 (n : Nat) (nm : Nat) (l : List Int) (cap0 : Nat) (h0 : (nm = (n * (32 : Nat)))) (h1 : (n ≤ (4398046510976 : Nat))) (h2 : (Byt l)) (h3 : ((fz l n) = n)) (hc0 : n ≤ cap0) (hl0_0 : List.length l = nm) (w : World) (rw : List Nat) (β : Env) : Body Try.prog (tabOf tabRG) Try.f46 ⟨w, rw, 1, β⟩ [.o (.a (.sl 0 (0 : Nat) n cap0))] [some ⟨false, [.ints .u8 nm l]⟩] (fun ys K' => ys = [.a (.rs 1 (0 : Nat) n 32), .a (.i .i64 (0 : Int)), .a (.i .i64 (0 : Int))] ∧ K' = [some ⟨false, [.ints .u8 nm l]⟩, some ⟨true, [.ints .u8 (riaN n) (rfS l n)]⟩]) :=
  Body.of_finK (Γ := gam93) (Λ := lamOf [(0, ⟨[.forget [0, 5, 6] 1], .normal, (riaN0_mk n nm l cap0 n (iter (riaN0_step) n ()))⟩), (2, ⟨[.rowS 5 .u8 32, .forget [0, 5, 6, 7] 2], .normal, (riaN2_mk n nm l cap0 n (iter (riaN2_step) n ()))⟩)]) (Ψ := noPsi) (fuel := 0) (m := 41) (c := (Try.f46.body.getD .skip)) mix tabOkRG gam93_ok rfl (rs := [.tmp 2, .tmp 3, .tmp 4]) rfl rfl [] [] 2
    (vc := [(Run Try.prog ⟨w, rw, 1, β⟩ (.block 2 (.loop (loopB Try.f46 2))) (riaN2_mk n nm l cap0 0 ()) (To ⟨w, rw, 1, β⟩ .normal (riaN2_mk n nm l cap0 n (iter (riaN2_step) n ())))), (Run Try.prog ⟨w, rw, 1, β⟩ (.block 0 (.loop (loopB Try.f46 0))) (riaN0_mk n nm l cap0 0 ()) (To ⟨w, rw, 1, β⟩ .normal (riaN0_mk n nm l cap0 n (iter (riaN0_step) n ()))))]) (by kernel_rfl)
    (AllP_cons (riaN2_loop n nm l cap0 h0 h1 h2 h3 hc0 hl0_0 w rw β ()) (AllP_cons (riaN0_loop n nm l cap0 h0 h1 h2 h3 hc0 hl0_0 w rw β ()) (AllP_nil)))

theorem riaN_body (n : Nat) (nm : Nat) (l : List Int) (cap0 : Nat) (h0 : (nm = (n * (32 : Nat)))) (h1 : (n ≤ (4398046510976 : Nat))) (h2 : (Byt l)) (h3 : ((fz l n) = n)) (w : World) (rw : List Nat) (β : Env) : Body Try.prog (tabOf tabRG) Try.f46 ⟨w, rw, 1, β⟩ [.o (.a (.sl 0 (0 : Nat) n cap0))] [some ⟨false, [.ints .u8 nm l]⟩] (fun ys K' => ys = [.a (.rs 1 (0 : Nat) n 32), .a (.i .i64 (0 : Int)), .a (.i .i64 (0 : Int))] ∧ K' = [some ⟨false, [.ints .u8 nm l]⟩, some ⟨true, [.ints .u8 (riaN n) (rfS l n)]⟩]) :=
  Body.lens (c := (Try.f46.body.getD .skip)) rfl fun h => riaN_body0 n nm l cap0 h0 h1 h2 h3 (h.caps 0 _ _ _ _ rfl) (h.lens 0 _ .u8 nm l rfl (by simp)) w rw β

end Go.Proofs.Ytcpoldghkiiggaa.X

/- Printed by a tool of this session. -/
namespace Go.Proofs.Ytcpoldghkiiggaa.X
open Go Go.Proofs
set_option linter.unusedVariables false
set_option linter.unusedSimpArgs false
set_option maxRecDepth 100000
theorem teRH_5 : TEOk Try.prog 5 ⟨.int .u8, 1, 1, [.i .u8 (0 : Int)], false⟩ :=
  TEOk.of Try.underlying5 (i := Try.t5) (by kernel_rfl) rfl rfl rfl (by kernel_rfl) (fun h => by cases h) (by kernel_rfl)
theorem teRH_24 : TEOk Try.prog 24 ⟨.array 32 5, 32, 32, [.ints .u8 (32 : Nat) ([0, 0, 0, 0, 0, 0, 0, 0, 0, 0, 0, 0, 0, 0, 0, 0, 0, 0, 0, 0, 0, 0, 0, 0, 0, 0, 0, 0, 0, 0, 0, 0] : List Int)], true⟩ :=
  TEOk.of Try.underlying24 (i := Try.t24) (by kernel_rfl) rfl rfl rfl (by kernel_rfl) (fun _ => Try.eqGuardType24) (by kernel_rfl)
theorem teRH_42 : TEOk Try.prog 42 ⟨Try.t41.desc, 30, 720, [.raw (.slice none 0 0), .raw (.slice none 0 0), .raw (.slice none 0 0), .raw (.slice none 0 0), .raw (.slice none 0 0), .raw (.slice none 0 0), .raw (.slice none 0 0), .raw (.slice none 0 0), .raw (.slice none 0 0), .raw (.slice none 0 0), .raw (.slice none 0 0), .raw (.slice none 0 0), .raw (.slice none 0 0), .raw (.slice none 0 0), .raw (.slice none 0 0), .raw (.slice none 0 0), .raw (.slice none 0 0), .raw (.slice none 0 0), .raw (.slice none 0 0), .raw (.slice none 0 0), .raw (.slice none 0 0), .raw (.slice none 0 0), .raw (.slice none 0 0), .raw (.slice none 0 0), .raw (.slice none 0 0), .raw (.slice none 0 0), .raw (.slice none 0 0), .raw (.slice none 0 0), .raw (.slice none 0 0), .raw (.slice none 0 0)], false⟩ :=
  TEOk.of Try.underlying42 (i := Try.t42) (by kernel_rfl) rfl rfl rfl (by kernel_rfl) (fun h => by cases h) (by kernel_rfl)
noncomputable def tabRH : List (Nat × TE) := [(5, ⟨.int .u8, 1, 1, [.i .u8 (0 : Int)], false⟩), (24, ⟨.array 32 5, 32, 32, [.ints .u8 (32 : Nat) ([0, 0, 0, 0, 0, 0, 0, 0, 0, 0, 0, 0, 0, 0, 0, 0, 0, 0, 0, 0, 0, 0, 0, 0, 0, 0, 0, 0, 0, 0, 0, 0] : List Int)], true⟩), (42, ⟨Try.t41.desc, 30, 720, [.raw (.slice none 0 0), .raw (.slice none 0 0), .raw (.slice none 0 0), .raw (.slice none 0 0), .raw (.slice none 0 0), .raw (.slice none 0 0), .raw (.slice none 0 0), .raw (.slice none 0 0), .raw (.slice none 0 0), .raw (.slice none 0 0), .raw (.slice none 0 0), .raw (.slice none 0 0), .raw (.slice none 0 0), .raw (.slice none 0 0), .raw (.slice none 0 0), .raw (.slice none 0 0), .raw (.slice none 0 0), .raw (.slice none 0 0), .raw (.slice none 0 0), .raw (.slice none 0 0), .raw (.slice none 0 0), .raw (.slice none 0 0), .raw (.slice none 0 0), .raw (.slice none 0 0), .raw (.slice none 0 0), .raw (.slice none 0 0), .raw (.slice none 0 0), .raw (.slice none 0 0), .raw (.slice none 0 0), .raw (.slice none 0 0)], false⟩)]
theorem tabOkRH : TabOk Try.prog (tabOf tabRH) := (tabOf_cons teRH_5 (tabOf_cons teRH_24 (tabOf_cons teRH_42 tabOf_nil)))

def gam94 : Gam := gcall 44 [] [.s 32] (fun wk vs args => match wk, vs, args with | [], [⟨_, _, _, [.ints .u8 nm l]⟩], [.o (.a (.sl 0 0 n _))] => some ((nm = (n * (32 : Nat))) ∧ (n ≤ (4398046510976 : Nat)) ∧ (Byt l) ∧ ((fz l n) < n), [.a (.raw (.slice none 0 0)), .a (.i .i64 (9 : Int)), .a (.i .i64 (ialZ n l))], [some ⟨false, [.ints .u8 nm l]⟩]) | _, _, _ => none) gam93
theorem gam94_ok : GamOk Try.prog gam94 := gcall_ok tabOkRH Try.func44 gam93_ok Try.call44 (by
  intro wk vs args p xs K1 h hv
  split at h
  · simp only [Option.some.injEq, Prod.mk.injEq] at h; obtain ⟨rfl, rfl, rfl⟩ := h; obtain ⟨g0, g1, g2, g3⟩ := hv; exact fun caps w rw β => ialZ_body _ _ _ _ g0 g1 g2 g3 w rw β
  · simp at h)

def gam95 : Gam := gcall 46 [] [.s 32] (fun wk vs args => match wk, vs, args with | [], [⟨_, _, _, [.ints .u8 nm l]⟩], [.o (.a (.sl 0 0 n _))] => some ((nm = (n * (32 : Nat))) ∧ (n ≤ (4398046510976 : Nat)) ∧ (Byt l) ∧ ((fz l n) < n), [.a (.raw (.slice none 0 0)), .a (.i .i64 (9 : Int)), .a (.i .i64 (riaZ n l))], [some ⟨false, [.ints .u8 nm l]⟩]) | _, _, _ => none) gam94
theorem gam95_ok : GamOk Try.prog gam95 := gcall_ok tabOkRH Try.func46 gam94_ok Try.call46 (by
  intro wk vs args p xs K1 h hv
  split at h
  · simp only [Option.some.injEq, Prod.mk.injEq] at h; obtain ⟨rfl, rfl, rfl⟩ := h; obtain ⟨g0, g1, g2, g3⟩ := hv; exact fun caps w rw β => riaZ_body _ _ _ _ g0 g1 g2 g3 w rw β
  · simp at h)

theorem ivLZ_v0 (a : List Int) (n nm : Nat) (l : List Int) (h1 : nm = n * 32) (hl0_0 : l.length = nm) : (((ialZ n (sub (gs0_2 n (sub l (0 : Nat) (n * (32 : Nat)))) (0 : Nat) (n * (32 : Nat)))) == (riaZ n (sub l (0 : Nat) (n * (32 : Nat))))) = true) := (beq_iff_eq.2 (by simp only [gs0_take (hl0_0.trans h1), sub_all l _ (Nat.le_of_eq (hl0_0.trans h1))]; rfl))
theorem ivLZ_v1 (a : List Int) (n nm : Nat) (l : List Int) (h1 : nm = n * 32) (hl0_0 : l.length = nm) : (((invE1 (BV a)) == (invE1 (BV a))) = true) := (beq_self_eq_true _)
theorem ivLZ_v2 (a : List Int) (n nm : Nat) (l : List Int) (h1 : nm = n * 32) (hl0_0 : l.length = nm) : ((decide ((B32 (invN (BV a))) = (B32 (invN (BV a))))) = true) := (decide_eq_true rfl)
set_option maxHeartbeats 1000000 in
theorem ivLZ_body0 (a : List Int) (n : Nat) (nm : Nat) (l : List Int) (cap0 : Nat) (h0 : (Byt a)) (h1 : (nm = (n * (32 : Nat)))) (h2 : (n ≤ (4398046510976 : Nat))) (h3 : (Byt l)) (hc0 : n ≤ cap0) (hl0_0 : List.length l = nm) (hv0 : List.length a = (32 : Nat)) (hz : fz l n < n) (w : World) (β : Env) : Body Try.prog (tabOf tabRH) Try.f7 ⟨w, [], 1, β⟩ [.o (.g [.ints .u8 (32 : Nat) a]), .o (.a (.sl 0 (0 : Nat) n cap0))] [some ⟨false, [.ints .u8 nm l]⟩] (fun ys _ => ys = [.a (.b true)]) :=
  Body.of_fin (Γ := gam95) (Λ := noLam) (Ψ := psiOf [(4, [.rowS 10 .u8 32]), (5, [.rowS 13 .u8 32])]) (fuel := 0) (m := 70) (c := (Try.f7.body.getD .skip)) mix tabOkRH gam95_ok rfl (rs := [.tmp 4]) rfl rfl [true, true, true, true, true, true, true, true, true, true, true, true, true, true, true, true, true, true, true, true, true, true] []
    (vc := [(true = true), (true = true), (((ialZ n (sub (gs0_2 n (sub l (0 : Nat) (n * (32 : Nat)))) (0 : Nat) (n * (32 : Nat)))) == (riaZ n (sub l (0 : Nat) (n * (32 : Nat))))) = true), ((True ∧ True) ∧ (((gs0 n) = (gs0 n)) ∧ ((gs0_1 n) = ((gs0 n) * (32 : Nat))) ∧ ((gs0_3 n) = ((gs0 n) * (32 : Nat))) ∧ ((gs0_4 n (sub l (0 : Nat) (n * (32 : Nat)))) = (gs0_2 n (sub l (0 : Nat) (n * (32 : Nat))))) ∧ ((gs0 n) ≤ (4398046511104 : Nat)))), (((ialZ n (sub (gs0_2 n (sub l (0 : Nat) (n * (32 : Nat)))) (0 : Nat) (n * (32 : Nat)))) == (riaZ n (sub l (0 : Nat) (n * (32 : Nat))))) = true), (true = true), (true = true), (true = true), (true = true), (true = true), (true = true), (true = true), (true = true), (true = true), (((invE1 (BV a)) == (invE1 (BV a))) = true), ((((0 : Nat) ≤ (0 : Nat)) ∧ (((0 : Nat) ≤ (0 : Nat)) ∧ True)) ∧ (((0 : Nat) = ((0 : Nat) * (32 : Nat))) ∧ ((0 : Nat) = ((0 : Nat) * (32 : Nat))) ∧ ((0 : Nat) = (0 : Nat)) ∧ (([] : List Int) = ([] : List Int)) ∧ ((0 : Nat) ≤ (4398046511104 : Nat)))), (((invE1 (BV a)) == (invE1 (BV a))) = true), (((invE1 (BV a)) == (invE1 (BV a))) = true), (((invE1 (BV a)) == (invE1 (BV a))) = true), ((decide ((B32 (invN (BV a))) = (B32 (invN (BV a))))) = true), ((decide ((B32 (invN (BV a))) = (B32 (invN (BV a))))) = true), ((decide ((B32 (invN (BV a))) = (B32 (invN (BV a))))) = true), ((decide ((B32 (invN (BV a))) = (B32 (invN (BV a))))) = true), ((decide ((B32 (invN (BV a))) = (B32 (invN (BV a))))) = true), (((((0 : Nat) + (n * (32 : Nat))) ≤ nm) ∧ True) ∧ (((n * (32 : Nat)) = (n * (32 : Nat))) ∧ (n ≤ (4398046510976 : Nat)) ∧ (Byt (sub l (0 : Nat) (n * (32 : Nat)))) ∧ ((fz (sub l (0 : Nat) (n * (32 : Nat))) n) < n))), (((((0 : Nat) + (n * (32 : Nat))) ≤ (gs0_1 n)) ∧ True) ∧ (((n * (32 : Nat)) = (n * (32 : Nat))) ∧ (n ≤ (4398046510976 : Nat)) ∧ (Byt (sub (gs0_2 n (sub l (0 : Nat) (n * (32 : Nat)))) (0 : Nat) (n * (32 : Nat)))) ∧ ((fz (sub (gs0_2 n (sub l (0 : Nat) (n * (32 : Nat)))) (0 : Nat) (n * (32 : Nat))) n) < n))), ((True ∧ ((((0 : Nat) + (n * (32 : Nat))) ≤ nm) ∧ True)) ∧ (((n * (32 : Nat)) = (n * (32 : Nat))) ∧ (n ≤ (4398046510976 : Nat)))), (Byt a), (Byt a)]) (by kernel_rfl)
    (AllP_cons rfl (AllP_cons rfl (AllP_cons (ivLZ_v0 a n nm l h1 hl0_0) (AllP_cons ⟨⟨trivial, trivial⟩, ⟨rfl, (by first | rfl | omega | (unfold gs0; omega) | (unfold gs0_1; omega) | (unfold gs0_3 copyS; omega) | (unfold ialN; omega) | (unfold riaN; omega)), (by first | rfl | omega | (unfold gs0; omega) | (unfold gs0_1; omega) | (unfold gs0_3 copyS; omega) | (unfold ialN; omega) | (unfold riaN; omega)), (by first | exact gs_same (hl0_0.trans h1) | (simp only [gs0_take (hl0_0.trans h1), sub_all l _ (Nat.le_of_eq (hl0_0.trans h1))]; rw [sub_all _ _ (Nat.le_of_eq (out2_len l n n (Nat.le_refl _))), sub_all _ _ (Nat.le_of_eq (rfS_len l n)), inv_all hz])), (by first | rfl | omega | (unfold gs0; omega) | (unfold gs0_1; omega) | (unfold gs0_3 copyS; omega) | (unfold ialN; omega) | (unfold riaN; omega))⟩⟩ (AllP_cons (ivLZ_v0 a n nm l h1 hl0_0) (AllP_cons rfl (AllP_cons rfl (AllP_cons rfl (AllP_cons rfl (AllP_cons rfl (AllP_cons rfl (AllP_cons rfl (AllP_cons rfl (AllP_cons rfl (AllP_cons (ivLZ_v1 a n nm l h1 hl0_0) (AllP_cons ⟨⟨(by decide), ⟨(by decide), trivial⟩⟩, ⟨(by first | rfl | omega | (unfold gs0; omega) | (unfold gs0_1; omega) | (unfold gs0_3 copyS; omega) | (unfold ialN; omega) | (unfold riaN; omega)), (by first | rfl | omega | (unfold gs0; omega) | (unfold gs0_1; omega) | (unfold gs0_3 copyS; omega) | (unfold ialN; omega) | (unfold riaN; omega)), rfl, rfl, (by decide)⟩⟩ (AllP_cons (ivLZ_v1 a n nm l h1 hl0_0) (AllP_cons (ivLZ_v1 a n nm l h1 hl0_0) (AllP_cons (ivLZ_v1 a n nm l h1 hl0_0) (AllP_cons (ivLZ_v2 a n nm l h1 hl0_0) (AllP_cons (ivLZ_v2 a n nm l h1 hl0_0) (AllP_cons (ivLZ_v2 a n nm l h1 hl0_0) (AllP_cons (ivLZ_v2 a n nm l h1 hl0_0) (AllP_cons (ivLZ_v2 a n nm l h1 hl0_0) (AllP_cons ⟨⟨(by first | rfl | omega | (unfold gs0; omega) | (unfold gs0_1; omega) | (unfold gs0_3 copyS; omega) | (unfold ialN; omega) | (unfold riaN; omega)), trivial⟩, ⟨rfl, h2, (byt_sub (by assumption) _ _), (by simp only [gs0_take (hl0_0.trans h1), sub_all l _ (Nat.le_of_eq (hl0_0.trans h1))]; exact hz)⟩⟩ (AllP_cons ⟨⟨(by first | rfl | omega | (unfold gs0; omega) | (unfold gs0_1; omega) | (unfold gs0_3 copyS; omega) | (unfold ialN; omega) | (unfold riaN; omega)), trivial⟩, ⟨rfl, h2, (by simp only [gs0_take (hl0_0.trans h1), sub_all l _ (Nat.le_of_eq (hl0_0.trans h1))]; assumption), (by simp only [gs0_take (hl0_0.trans h1), sub_all l _ (Nat.le_of_eq (hl0_0.trans h1))]; exact hz)⟩⟩ (AllP_cons ⟨⟨trivial, ⟨(by first | rfl | omega | (unfold gs0; omega) | (unfold gs0_1; omega) | (unfold gs0_3 copyS; omega) | (unfold ialN; omega) | (unfold riaN; omega)), trivial⟩⟩, ⟨rfl, h2⟩⟩ (AllP_cons (by assumption) (AllP_cons (by assumption) (AllP_nil))))))))))))))))))))))))))))))

def gam96 : Gam := gcall 44 [] [.s 32] (fun wk vs args => match wk, vs, args with | [], [⟨_, _, _, [.ints .u8 nm l]⟩], [.o (.a (.sl 0 0 n _))] => some ((nm = (n * (32 : Nat))) ∧ (n ≤ (4398046510976 : Nat)) ∧ (Byt l) ∧ ((fz l n) = n), [.a (.sl 1 (0 : Nat) n n), .a (.i .i64 (0 : Int)), .a (.i .i64 (0 : Int))], [some ⟨false, [.ints .u8 nm l]⟩, some ⟨true, [.ints .u8 (ialN n) (out2 l n n)]⟩]) | _, _, _ => none) gam93
theorem gam96_ok : GamOk Try.prog gam96 := gcall_ok tabOkRH Try.func44 gam93_ok Try.call44 (by
  intro wk vs args p xs K1 h hv
  split at h
  · simp only [Option.some.injEq, Prod.mk.injEq] at h; obtain ⟨rfl, rfl, rfl⟩ := h; obtain ⟨g0, g1, g2, g3⟩ := hv; exact fun caps w rw β => ialN_body _ _ _ _ g0 g1 g2 g3 w rw β
  · simp at h)

def gam97 : Gam := gcall 46 [] [.s 32] (fun wk vs args => match wk, vs, args with | [], [⟨_, _, _, [.ints .u8 nm l]⟩], [.o (.a (.sl 0 0 n _))] => some ((nm = (n * (32 : Nat))) ∧ (n ≤ (4398046510976 : Nat)) ∧ (Byt l) ∧ ((fz l n) = n), [.a (.rs 1 (0 : Nat) n 32), .a (.i .i64 (0 : Int)), .a (.i .i64 (0 : Int))], [some ⟨false, [.ints .u8 nm l]⟩, some ⟨true, [.ints .u8 (riaN n) (rfS l n)]⟩]) | _, _, _ => none) gam96
theorem gam97_ok : GamOk Try.prog gam97 := gcall_ok tabOkRH Try.func46 gam96_ok Try.call46 (by
  intro wk vs args p xs K1 h hv
  split at h
  · simp only [Option.some.injEq, Prod.mk.injEq] at h; obtain ⟨rfl, rfl, rfl⟩ := h; obtain ⟨g0, g1, g2, g3⟩ := hv; exact fun caps w rw β => riaN_body _ _ _ _ g0 g1 g2 g3 w rw β
  · simp at h)

theorem ivLN_v0 (a : List Int) (n nm : Nat) (l : List Int) (h1 : nm = n * 32) (hl0_0 : l.length = nm) : (((invE1 (BV a)) == (invE1 (BV a))) = true) := (beq_self_eq_true _)
theorem ivLN_v1 (a : List Int) (n nm : Nat) (l : List Int) (h1 : nm = n * 32) (hl0_0 : l.length = nm) : ((decide ((B32 (invN (BV a))) = (B32 (invN (BV a))))) = true) := (decide_eq_true rfl)
set_option maxHeartbeats 1000000 in
theorem ivLN_body0 (a : List Int) (n : Nat) (nm : Nat) (l : List Int) (cap0 : Nat) (h0 : (Byt a)) (h1 : (nm = (n * (32 : Nat)))) (h2 : (n ≤ (4398046510976 : Nat))) (h3 : (Byt l)) (hc0 : n ≤ cap0) (hl0_0 : List.length l = nm) (hv0 : List.length a = (32 : Nat)) (hz : fz l n = n) (w : World) (β : Env) : Body Try.prog (tabOf tabRH) Try.f7 ⟨w, [], 1, β⟩ [.o (.g [.ints .u8 (32 : Nat) a]), .o (.a (.sl 0 (0 : Nat) n cap0))] [some ⟨false, [.ints .u8 nm l]⟩] (fun ys _ => ys = [.a (.b true)]) :=
  Body.of_fin (Γ := gam97) (Λ := noLam) (Ψ := noPsi) (fuel := 0) (m := 70) (c := (Try.f7.body.getD .skip)) mix tabOkRH gam97_ok rfl (rs := [.tmp 4]) rfl rfl [true, true, true, true, true, true, true, true, true, true, true, true, true, true, true, true, true, true, true, true, true, true] []
    (vc := [(true = true), (true = true), (true = true), ((True ∧ True) ∧ (((gs0 n) = (gs0 n)) ∧ ((gs0_1 n) = ((gs0 n) * (32 : Nat))) ∧ ((gs0_3 n) = ((gs0 n) * (32 : Nat))) ∧ ((gs0_4 n (sub l (0 : Nat) (n * (32 : Nat)))) = (gs0_2 n (sub l (0 : Nat) (n * (32 : Nat))))) ∧ ((gs0 n) ≤ (4398046511104 : Nat)))), (true = true), (true = true), (true = true), (true = true), (true = true), (true = true), (true = true), (true = true), (true = true), (true = true), (((invE1 (BV a)) == (invE1 (BV a))) = true), (((((0 : Nat) + (n * (32 : Nat))) ≤ (ialN n)) ∧ ((((0 : Nat) + (n * (32 : Nat))) ≤ (riaN n)) ∧ True)) ∧ (((n * (32 : Nat)) = (n * (32 : Nat))) ∧ ((n * (32 : Nat)) = (n * (32 : Nat))) ∧ (n = n) ∧ ((sub (out2 (sub (gs0_2 n (sub l (0 : Nat) (n * (32 : Nat)))) (0 : Nat) (n * (32 : Nat))) n n) (0 : Nat) (n * (32 : Nat))) = (sub (rfS (sub l (0 : Nat) (n * (32 : Nat))) n) (0 : Nat) (n * (32 : Nat)))) ∧ (n ≤ (4398046511104 : Nat)))), (((invE1 (BV a)) == (invE1 (BV a))) = true), (((invE1 (BV a)) == (invE1 (BV a))) = true), (((invE1 (BV a)) == (invE1 (BV a))) = true), ((decide ((B32 (invN (BV a))) = (B32 (invN (BV a))))) = true), ((decide ((B32 (invN (BV a))) = (B32 (invN (BV a))))) = true), ((decide ((B32 (invN (BV a))) = (B32 (invN (BV a))))) = true), ((decide ((B32 (invN (BV a))) = (B32 (invN (BV a))))) = true), ((decide ((B32 (invN (BV a))) = (B32 (invN (BV a))))) = true), (((((0 : Nat) + (n * (32 : Nat))) ≤ nm) ∧ True) ∧ (((n * (32 : Nat)) = (n * (32 : Nat))) ∧ (n ≤ (4398046510976 : Nat)) ∧ (Byt (sub l (0 : Nat) (n * (32 : Nat)))) ∧ ((fz (sub l (0 : Nat) (n * (32 : Nat))) n) = n))), (((((0 : Nat) + (n * (32 : Nat))) ≤ (gs0_1 n)) ∧ True) ∧ (((n * (32 : Nat)) = (n * (32 : Nat))) ∧ (n ≤ (4398046510976 : Nat)) ∧ (Byt (sub (gs0_2 n (sub l (0 : Nat) (n * (32 : Nat)))) (0 : Nat) (n * (32 : Nat)))) ∧ ((fz (sub (gs0_2 n (sub l (0 : Nat) (n * (32 : Nat)))) (0 : Nat) (n * (32 : Nat))) n) = n))), ((True ∧ ((((0 : Nat) + (n * (32 : Nat))) ≤ nm) ∧ True)) ∧ (((n * (32 : Nat)) = (n * (32 : Nat))) ∧ (n ≤ (4398046510976 : Nat)))), (Byt a), (Byt a)]) (by kernel_rfl)
    (AllP_cons rfl (AllP_cons rfl (AllP_cons rfl (AllP_cons ⟨⟨trivial, trivial⟩, ⟨rfl, (by first | rfl | omega | (unfold gs0; omega) | (unfold gs0_1; omega) | (unfold gs0_3 copyS; omega) | (unfold ialN; omega) | (unfold riaN; omega)), (by first | rfl | omega | (unfold gs0; omega) | (unfold gs0_1; omega) | (unfold gs0_3 copyS; omega) | (unfold ialN; omega) | (unfold riaN; omega)), (by first | exact gs_same (hl0_0.trans h1) | (simp only [gs0_take (hl0_0.trans h1), sub_all l _ (Nat.le_of_eq (hl0_0.trans h1))]; rw [sub_all _ _ (Nat.le_of_eq (out2_len l n n (Nat.le_refl _))), sub_all _ _ (Nat.le_of_eq (rfS_len l n)), inv_all hz])), (by first | rfl | omega | (unfold gs0; omega) | (unfold gs0_1; omega) | (unfold gs0_3 copyS; omega) | (unfold ialN; omega) | (unfold riaN; omega))⟩⟩ (AllP_cons rfl (AllP_cons rfl (AllP_cons rfl (AllP_cons rfl (AllP_cons rfl (AllP_cons rfl (AllP_cons rfl (AllP_cons rfl (AllP_cons rfl (AllP_cons rfl (AllP_cons (ivLN_v0 a n nm l h1 hl0_0) (AllP_cons ⟨⟨(by first | rfl | omega | (unfold gs0; omega) | (unfold gs0_1; omega) | (unfold gs0_3 copyS; omega) | (unfold ialN; omega) | (unfold riaN; omega)), ⟨(by first | rfl | omega | (unfold gs0; omega) | (unfold gs0_1; omega) | (unfold gs0_3 copyS; omega) | (unfold ialN; omega) | (unfold riaN; omega)), trivial⟩⟩, ⟨rfl, rfl, rfl, (by first | exact gs_same (hl0_0.trans h1) | (simp only [gs0_take (hl0_0.trans h1), sub_all l _ (Nat.le_of_eq (hl0_0.trans h1))]; rw [sub_all _ _ (Nat.le_of_eq (out2_len l n n (Nat.le_refl _))), sub_all _ _ (Nat.le_of_eq (rfS_len l n)), inv_all hz])), (by first | rfl | omega | (unfold gs0; omega) | (unfold gs0_1; omega) | (unfold gs0_3 copyS; omega) | (unfold ialN; omega) | (unfold riaN; omega))⟩⟩ (AllP_cons (ivLN_v0 a n nm l h1 hl0_0) (AllP_cons (ivLN_v0 a n nm l h1 hl0_0) (AllP_cons (ivLN_v0 a n nm l h1 hl0_0) (AllP_cons (ivLN_v1 a n nm l h1 hl0_0) (AllP_cons (ivLN_v1 a n nm l h1 hl0_0) (AllP_cons (ivLN_v1 a n nm l h1 hl0_0) (AllP_cons (ivLN_v1 a n nm l h1 hl0_0) (AllP_cons (ivLN_v1 a n nm l h1 hl0_0) (AllP_cons ⟨⟨(by first | rfl | omega | (unfold gs0; omega) | (unfold gs0_1; omega) | (unfold gs0_3 copyS; omega) | (unfold ialN; omega) | (unfold riaN; omega)), trivial⟩, ⟨rfl, h2, (byt_sub (by assumption) _ _), (by simp only [gs0_take (hl0_0.trans h1), sub_all l _ (Nat.le_of_eq (hl0_0.trans h1))]; exact hz)⟩⟩ (AllP_cons ⟨⟨(by first | rfl | omega | (unfold gs0; omega) | (unfold gs0_1; omega) | (unfold gs0_3 copyS; omega) | (unfold ialN; omega) | (unfold riaN; omega)), trivial⟩, ⟨rfl, h2, (by simp only [gs0_take (hl0_0.trans h1), sub_all l _ (Nat.le_of_eq (hl0_0.trans h1))]; assumption), (by simp only [gs0_take (hl0_0.trans h1), sub_all l _ (Nat.le_of_eq (hl0_0.trans h1))]; exact hz)⟩⟩ (AllP_cons ⟨⟨trivial, ⟨(by first | rfl | omega | (unfold gs0; omega) | (unfold gs0_1; omega) | (unfold gs0_3 copyS; omega) | (unfold ialN; omega) | (unfold riaN; omega)), trivial⟩⟩, ⟨rfl, h2⟩⟩ (AllP_cons (by assumption) (AllP_cons (by assumption) (AllP_nil))))))))))))))))))))))))))))))

end Go.Proofs.Ytcpoldghkiiggaa.X

/- The core, part 5 of 5: blocks of memory known by number, and an evaluator over loaded code, shown sound. -/
/- Rows: a law that answers true and leaves what was there as it was: from its body to its post; arguments opened. -/
namespace Go.Proofs.Ytcpoldghkiiggaa.R
open Go Go.Proofs Go.ChangeShapes Go.WideShapes Go.ChangeAt Go.RowKit Go.Proofs.Ytcpoldghkiiggaa.X
set_option linter.unusedVariables false

theorem below {W W' : World} (g : Grow W W') : Below W.heap.size W W' := ⟨g.os, g.tape, g.output, g.size, g.old⟩

section post
variable {H : Type} {enc : TypeId × Value → H} {P : Program}

/-- types that read again -/
def Reads (P : Program) (ts : List TypeId) : Bool := laidOutB P && ts.all fun t => P.readableRec t && decide (t < P.types.size)

theorem trodAll_grow (hl : laidOutB P = true) {W W' : World} (g : Grow W W') {sp : Nat → Bool} : ∀ {ts : List TypeId} {vs : List Value} {ds : List (DataW H)} {ps : List MemPlace}, (ts.all fun t => P.readableRec t && decide (t < P.types.size)) = true →
    DataW.TrodAll enc P W 0 (fun _ => true) true ts vs ds ps → (∀ p ∈ ps, p.block < W.heap.size) → (∀ p ∈ ps, sp p.block = true) → DataW.TrodAll enc P W' 0 sp true ts vs ds ps
  | [], [], [], ps, _, h, _, _ => h
  | [], _ :: _, _, _, _, h, _, _ => h.elim
  | [], [], _ :: _, _, _, h, _, _ => h.elim
  | _ :: _, [], _, _, _, h, _, _ => h.elim
  | _ :: _, _ :: _, [], _, _, h, _, _ => h.elim
  | t :: ts, v :: vs, d :: ds, ps, ht, h, hlt, hsp => by
    obtain ⟨p, q, hd, hr, rfl⟩ := h
    simp only [List.all_cons, Bool.and_eq_true, decide_eq_true_eq] at ht
    exact ⟨p, q, WideElems.Trod_stays hl ht.1.1 ht.1.2 hd (fun x hx => (below g).same (hlt x (by simp [hx]))) (fun x hx => hsp x (by simp [hx])),
      trodAll_grow hl g ht.2 hr (fun x hx => hlt x (by simp [hx])) (fun x hx => hsp x (by simp [hx])), rfl⟩

theorem post_true {f : Func} {s : ChangeSpec} {W W' : World} {args : Array Value} {ds : List (DataW H)} {before : List MemPlace} {tb : TypeId}
    (hreads : Reads P f.params.toList = true) (hvars : s.vars = []) (hfn : s.fn H ds = { results := [.lit (.bool true)], args := ds }) (hrt : f.resultTypes = #[tb]) (htb : P.underlying tb = some .bool)
    (hW : DataW.Whole enc P f.params.toList s.vars false W args.toList ds [] before) (g : Grow W W') : s.post enc P f false true false false W args (.bool true) W' := by
  unfold Reads at hreads
  rw [Bool.and_eq_true] at hreads
  have hW0 := hW
  obtain ⟨p, q, hA, hV, rfl, hfz, hnd⟩ := hW
  rw [hvars] at hV
  obtain ⟨_, rfl⟩ := trodVars_none hV
  have hlt : ∀ x ∈ p ++ [], x.block < W.heap.size := fun x hx => by simpa using hW0.lt x hx
  have hfn' : s.fn H (ds ++ []) = { results := [.lit (.bool true)], args := ds } := by rw [List.append_nil]; exact hfn
  refine ⟨ds, [], p ++ [], [], p ++ [], [], hW0, ?_, ?_, ?_, (below g).frame _, fun h => by cases h⟩
  · rw [hfn', hrt]; exact trodAll_cons_mk (shut_bool htb _) trodAll_mk0
  · rw [hfn']
    rw [List.append_nil] at hlt ⊢
    exact trodAll_grow hreads.1 g hreads.2 hA hlt (fun x hx => by simpa using hlt x hx)
  · rw [hfn', hvars]; exact rfl
end post

/-- what a list of arguments is, abstractly, with blocks from the i-th on -/
def Opened (W : World) (i : Nat) (vs : List Value) (avs : List AV) (K : Know) : Prop :=
  ∃ ρ : List (Option Ref), ρ.length = K.length ∧ ∀ β : Env, (∀ j, j < ρ.length → β (i + j) = (ρ[j]?).join) →
    (∀ j b, K.at j = some b → b.own = false ∧ b.holds β W (i + j) ∧ ∀ r, β (i + j) = some r → r.blk < W.heap.size) ∧ allC β avs vs

theorem Opened.nil {W : World} {i : Nat} : Opened W i [] [] [] := ⟨[], rfl, fun β _ => ⟨fun j b h => by simp [Know.at] at h, rfl⟩⟩

theorem allC_app {β : Env} : ∀ {a b : List AV} {x y : List Value}, allC β a x → allC β b y → allC β (a ++ b) (x ++ y)
  | [], _, _, _, h, h' => by cases h; exact h'
  | _ :: _, _, _, _, ⟨v, r, hv, hc, hr⟩, h' => by subst hv; exact ⟨v, _, rfl, hc, allC_app hr h'⟩

theorem Opened.app {W : World} {i : Nat} {vs vs' : List Value} {avs avs' : List AV} {K K' : Know} (h : Opened W i vs avs K) (h' : Opened W (i + K.length) vs' avs' K') : Opened W i (vs ++ vs') (avs ++ avs') (K ++ K') := by
  obtain ⟨ρ, hl, hρ⟩ := h
  obtain ⟨ρ', hl', hρ'⟩ := h'
  refine ⟨ρ ++ ρ', by simp [hl, hl'], fun β hβ => ?_⟩
  obtain ⟨h1, h2⟩ := hρ β fun j hj => by rw [hβ j (by simp; omega), List.getElem?_append_left hj]
  obtain ⟨h3, h4⟩ := hρ' β fun j hj => by
    rw [Nat.add_assoc, hβ (K.length + j) (by simp; omega), List.getElem?_append_right (by omega)]
    congr 2; omega
  refine ⟨fun j b hb => ?_, allC_app h2 h4⟩
  by_cases hj : j < K.length
  · refine h1 j b ?_
    unfold Know.at at hb ⊢; rwa [List.getElem?_append_left hj] at hb
  · have := h3 (j - K.length) b (by unfold Know.at at hb ⊢; rwa [List.getElem?_append_right (by omega)] at hb)
    rw [show i + K.length + (j - K.length) = i + j from by omega] at this
    exact this

theorem Opened.rel {W : World} {vs : List Value} {avs : List AV} {K : Know} (h : Opened W 0 vs avs K) : ∃ β : Env, RelW W [] β K W ∧ allC β avs vs := by
  obtain ⟨ρ, hl, hρ⟩ := h
  obtain ⟨h1, h2⟩ := hρ (fun j => (ρ[j]?).join) fun j hj => by rw [Nat.zero_add]
  refine ⟨_, RelW.ofRead fun j b hj => ?_, h2⟩
  have := h1 j b hj
  rw [Nat.zero_add] at this; exact this

/-- a value without places -/
theorem Opened.val {W : World} {i : Nat} {v : Value} {x : V1} (h : ∀ β : Env, x.con β v) : Opened W i [v] [.o x] [] :=
  ⟨[], rfl, fun β _ => ⟨fun j b hb => by simp [Know.at] at hb, ⟨v, [], rfl, h β, rfl⟩⟩⟩

/-- a slice of integers -/
theorem Opened.sl {W : World} {i : Nat} {k : IntKind} {a0 : Option Addr} {len cap : Nat} {L : List Int} (hL : L.length = len) (hlc : len ≤ cap)
    (hc : 0 < cap → ∃ b off arr ty fr, a0 = some ⟨b, off, none⟩ ∧ W.heap[b]? = some (.cells arr ty fr) ∧ off + len ≤ arr.size ∧ ∀ i x, L[i]? = some x → arr[off + i]? = some (.int k x)) :
    Opened W i [.slice a0 len cap] [.o (.a (.sl i 0 len cap))] [some ⟨false, [.ints k len L]⟩] := by
  have hbk : ∀ j (bk : Blk), Know.at [some ⟨false, [.ints k len L]⟩] j = some bk → j = 0 ∧ bk = ⟨false, [.ints k len L]⟩ := by
    intro j bk hj
    match j, hj with
    | 0, hj => exact ⟨rfl, (Option.some.inj hj).symm⟩
    | j + 1, hj => simp [Know.at] at hj
  by_cases h0 : 0 < cap
  · obtain ⟨b, off, arr, ty, fr, rfl, hh, hs, hx⟩ := hc h0
    have hlt : b < W.heap.size := (Array.getElem?_eq_some_iff.1 hh).1
    refine ⟨[some ⟨b, off, arr.size⟩], rfl, fun β hβ => ?_⟩
    have hb := hβ 0 (by simp)
    rw [Nat.add_zero] at hb
    have hb : β i = some ⟨b, off, arr.size⟩ := hb
    refine ⟨fun j bk hj => ?_, _, [], rfl, ⟨_, rfl, hlc, fun _ => ⟨_, hb, rfl⟩⟩, rfl⟩
    obtain ⟨rfl, rfl⟩ := hbk j bk hj
    rw [Nat.add_zero]
    refine ⟨rfl, ⟨L.map (Value.int k), ⟨_, [], by simp, ⟨hL, rfl⟩, rfl⟩, .inr ⟨_, arr, ty, fr, hb, hh, rfl, by simp; omega, ?_, fun h => by cases h⟩⟩, fun r hr => by rw [hb] at hr; cases hr; exact hlt⟩
    intro i v hv
    rw [List.getElem?_map, Option.map_eq_some_iff] at hv
    obtain ⟨x, hx', rfl⟩ := hv
    exact hx i x hx'
  · have hn : L = [] := List.length_eq_zero_iff.1 (by omega)
    subst hn
    have hl0 : len = 0 := by omega
    subst hl0
    refine ⟨[none], rfl, fun β hβ => ?_⟩
    have hb : β i = none := hβ 0 (by simp)
    refine ⟨fun j bk hj => ?_, _, [], rfl, ⟨_, rfl, hlc, fun h => absurd h h0⟩, rfl⟩
    obtain ⟨rfl, rfl⟩ := hbk j bk hj
    rw [Nat.add_zero]
    exact ⟨rfl, ⟨[], ⟨[], [], rfl, ⟨rfl, rfl⟩, rfl⟩, .inl ⟨rfl, .inl rfl⟩⟩, fun r hr => by rw [hb] at hr; cases hr⟩

section args
variable {H : Type} {enc : TypeId × Value → H} {P : Program} {W : World} {base : Nat} {sp : Nat → Bool}

/-- an argument [n]int -/
theorem arr_arg {t e : TypeId} {n : Nat} {k : IntKind} {v : Value} {d : DataW H} {p : List MemPlace} (ht : P.underlying t = some (.array n e)) (he : P.underlying e = some (.int k)) (hc : P.cellsOf e = 1) (hn : P.cellsOf t = n)
    (hval : Value.okWide P W .any base t v) (h : DataW.Trod enc P W 0 (fun _ => true) true t v d p) :
    ∃ S : List Int, S.length = n ∧ (∀ x ∈ S, (Lit.int k x).wf = true) ∧ ∀ i, Opened W i [v] [.o (.g [.ints k n S])] [] := by
  have hv : ∃ cs : Array Value, v = .agg cs ∧ cs.size = n := by
    unfold Value.okWide at hval
    rw [ht] at hval
    obtain ⟨cs, rfl, hsz, _⟩ := hval
    exact ⟨cs, rfl, hsz.trans hn⟩
  obtain ⟨cs, rfl, hsz⟩ := hv
  obtain ⟨fuel, hf⟩ := h
  obtain ⟨xs, m, rfl, _, hlen, hxl, hel⟩ := DataW.trod_array ht hf
  have hcells : (Value.agg cs).cells.toList = cs.toList := rfl
  rw [hcells] at hel
  have key : ∀ j, j < n → ∃ z : Int, cs.toList[j]? = some (.int k z) ∧ (Lit.int k z).wf = true := by
    intro j hj
    have h1 := hel j hj
    rw [hc, Nat.mul_one] at h1
    have hjx : j < xs.length := by omega
    rw [List.getElem?_eq_getElem hjx] at h1
    obtain ⟨z, hz, _, hw⟩ := DataW.trod_int he h1
    refine ⟨z, ?_, hw⟩
    have := congrArg (·[0]?) hz
    simpa [List.getElem?_take, List.getElem?_drop] using this
  have hS : ∃ S : List Int, S.length = n ∧ cs.toList = S.map (Value.int k) ∧ ∀ x ∈ S, (Lit.int k x).wf = true := by
    have hl : cs.toList.length = n := by simpa using hsz
    revert key hl
    generalize cs.toList = l
    clear hel hxl hlen hsz hf hcells hval hn ht
    intro key hl
    induction l generalizing n with
    | nil => exact ⟨[], hl, rfl, by simp⟩
    | cons a l ih =>
      cases n with
      | zero => cases hl
      | succ n =>
        obtain ⟨z, hz, hw⟩ := key 0 (by omega)
        obtain ⟨S, h1, h2, h3⟩ := ih (n := n) (fun j hj => by simpa using key (j + 1) (by omega)) (by simpa using hl)
        simp only [List.getElem?_cons_zero, Option.some.injEq] at hz
        exact ⟨z :: S, by simp [h1], by simp [hz, h2], by simpa using ⟨hw, h3⟩⟩
  obtain ⟨S, h1, h2, h3⟩ := hS
  refine ⟨S, h1, h3, fun i => Opened.val fun β => ⟨cs.toList, by simp, _, [], by simp, ⟨h1, h2⟩, rfl⟩⟩
end args

/-- a law whose body answers true -/
theorem calls_true {P : Program} {T : Tab} (hT : TabOk P T) {f : FuncId} {fn : Func} (hf : P.funcs[f]? = some fn) {W : World} {vs : List Value} {avs : List AV} {K : Know} (ho : Opened W 0 vs avs K)
    (h : ∀ β : Env, Body P T fn ⟨W, [], K.length, β⟩ avs K fun ys _ => ys = [.a (.b true)]) :
    Calls P f vs.toArray W fun e W' => e = .returned (.bool true) ∧ Grow W W' := by
  obtain ⟨β, hrel, hall⟩ := ho.rel
  refine Calls.mono (calls_of_body hT hf hall hrel (h β)) fun e W' h => ?_
  obtain ⟨xs, K, v, β', hx, rfl, hv, hr, _⟩ := h
  subst hx
  have hv : [v] = [Value.bool true] := hv
  simp only [List.cons.injEq, and_true] at hv
  subst hv
  exact ⟨rfl, hr.toGrow⟩
end Go.Proofs.Ytcpoldghkiiggaa.R

/- Arguments that are structs: opened cell by cell. -/
namespace Go.Proofs.Ytcpoldghkiiggaa.R
open Go Go.Proofs Go.ChangeShapes Go.WideShapes Go.ChangeAt Go.RowKit Go.Proofs.Ytcpoldghkiiggaa.X
set_option linter.unusedVariables false

/-- a row of cells, abstractly, with blocks from the i-th on -/
def OpenC (W : World) (i : Nat) (cs : List Value) (l : List Atom) (K : Know) : Prop :=
  ∃ ρ : List (Option Ref), ρ.length = K.length ∧ ∀ β : Env, (∀ j, j < ρ.length → β (i + j) = (ρ[j]?).join) →
    (∀ j b, K.at j = some b → b.own = false ∧ b.holds β W (i + j) ∧ ∀ r, β (i + j) = some r → r.blk < W.heap.size) ∧ cons β l cs

theorem OpenC.nil {W : World} {i : Nat} : OpenC W i [] [] [] := ⟨[], rfl, fun β _ => ⟨fun j b h => by simp [Know.at] at h, rfl⟩⟩

theorem cons_app {β : Env} : ∀ {a b : List Atom} {x y : List Value}, cons β a x → cons β b y → cons β (a ++ b) (x ++ y)
  | [], _, _, _, h, h' => by cases h; exact h'
  | _ :: _, _, _, _, ⟨v, r, hv, hc, hr⟩, h' => by subst hv; exact ⟨v, _, by rw [List.append_assoc], hc, cons_app hr h'⟩

theorem OpenC.app {W : World} {i : Nat} {vs vs' : List Value} {l l' : List Atom} {K K' : Know} (h : OpenC W i vs l K) (h' : OpenC W (i + K.length) vs' l' K') : OpenC W i (vs ++ vs') (l ++ l') (K ++ K') := by
  obtain ⟨ρ, hl, hρ⟩ := h
  obtain ⟨ρ', hl', hρ'⟩ := h'
  refine ⟨ρ ++ ρ', by simp [hl, hl'], fun β hβ => ?_⟩
  obtain ⟨h1, h2⟩ := hρ β fun j hj => by rw [hβ j (by simp; omega), List.getElem?_append_left hj]
  obtain ⟨h3, h4⟩ := hρ' β fun j hj => by
    rw [Nat.add_assoc, hβ (K.length + j) (by simp; omega), List.getElem?_append_right (by omega)]
    congr 2; omega
  refine ⟨fun j b hb => ?_, cons_app h2 h4⟩
  by_cases hj : j < K.length
  · refine h1 j b ?_
    unfold Know.at at hb ⊢; rwa [List.getElem?_append_left hj] at hb
  · have := h3 (j - K.length) b (by unfold Know.at at hb ⊢; rwa [List.getElem?_append_right (by omega)] at hb)
    rw [show i + K.length + (j - K.length) = i + j from by omega] at this
    exact this

theorem OpenC.agg {W : World} {i : Nat} {cs : Array Value} {l : List Atom} {K : Know} (h : OpenC W i cs.toList l K) : Opened W i [.agg cs] [.o (.g l)] K := by
  obtain ⟨ρ, hl, hρ⟩ := h
  refine ⟨ρ, hl, fun β hβ => ?_⟩
  obtain ⟨h1, h2⟩ := hρ β hβ
  exact ⟨h1, _, [], rfl, ⟨cs.toList, by simp, h2⟩, rfl⟩

theorem OpenC.one {W : World} {i : Nat} {v : Value} {x : Atom} {K : Know} (h : OpenC W i [v] [x] K) : Opened W i [v] [.o (.a x)] K := by
  obtain ⟨ρ, hl, hρ⟩ := h
  refine ⟨ρ, hl, fun β hβ => ?_⟩
  obtain ⟨h1, x, y, h2, h3, h4⟩ := hρ β hβ
  cases h4
  rw [List.append_nil] at h2
  subst h2
  exact ⟨h1, _, [], rfl, h3, rfl⟩

/-- cells without places -/
theorem OpenC.val {W : World} {i : Nat} {vs : List Value} {l : List Atom} (h : ∀ β : Env, cons β l vs) : OpenC W i vs l [] :=
  ⟨[], rfl, fun β _ => ⟨fun j b hb => by simp [Know.at] at hb, h β⟩⟩

section args
variable {H : Type} {enc : TypeId × Value → H} {P : Program} {W : World} {base : Nat} {sp : Nat → Bool}

theorem OpenC.ints {i : Nat} {k : IntKind} {n : Nat} {S : List Int} (h : S.length = n) : OpenC W i (S.map (Value.int k)) [.ints k n S] [] :=
  OpenC.val fun β => ⟨_, [], by simp, ⟨h, rfl⟩, rfl⟩

theorem OpenC.int {i : Nat} {k : IntKind} {n : Int} : OpenC W i [.int k n] [.i k n] [] := OpenC.val fun β => ⟨_, [], by simp, rfl, rfl⟩

end args
end Go.Proofs.Ytcpoldghkiiggaa.R

/- Arguments that are slices of whatever: their cells as values. -/
namespace Go.Proofs.Ytcpoldghkiiggaa.R
open Go Go.Proofs Go.ChangeShapes Go.WideShapes Go.ChangeAt Go.RowKit Go.Proofs.Ytcpoldghkiiggaa.X
set_option linter.unusedVariables false

theorem vals_open {W : World} {i : Nat} {a0 : Option Addr} {len cap N : Nat} {L : List Value} (hL : L.length = N) (hlc : len ≤ cap) (hone : ∀ v ∈ L, v.oneCell' = true) (h0 : cap = 0 → N = 0)
    (hc : 0 < cap → ∃ b off arr ty fr, a0 = some ⟨b, off, none⟩ ∧ W.heap[b]? = some (.cells arr ty fr) ∧ off + N ≤ arr.size ∧ ∀ i x, L[i]? = some x → arr[off + i]? = some x) :
    Opened W i [.slice a0 len cap] [.o (.a (.sl i 0 len cap))] [some ⟨false, [.vals N L]⟩] := by
  have hbk : ∀ j (bk : Blk), Know.at [some ⟨false, [.vals N L]⟩] j = some bk → j = 0 ∧ bk = ⟨false, [.vals N L]⟩ := by
    intro j bk hj
    match j, hj with
    | 0, hj => exact ⟨rfl, (Option.some.inj hj).symm⟩
    | j + 1, hj => simp [Know.at] at hj
  by_cases hcap : 0 < cap
  · obtain ⟨b, off, arr, ty, fr, rfl, hh, hs, hx⟩ := hc hcap
    have hlt : b < W.heap.size := (Array.getElem?_eq_some_iff.1 hh).1
    refine ⟨[some ⟨b, off, arr.size⟩], rfl, fun β hβ => ?_⟩
    have hb := hβ 0 (by simp)
    rw [Nat.add_zero] at hb
    have hb : β i = some ⟨b, off, arr.size⟩ := hb
    refine ⟨fun j bk hj => ?_, _, [], rfl, ⟨_, rfl, hlc, fun _ => ⟨_, hb, rfl⟩⟩, rfl⟩
    obtain ⟨rfl, rfl⟩ := hbk j bk hj
    rw [Nat.add_zero]
    exact ⟨rfl, ⟨L, ⟨_, [], by simp, ⟨hL, rfl, hone⟩, rfl⟩, .inr ⟨_, arr, ty, fr, hb, hh, rfl, by simp; omega, hx, fun h => by cases h⟩⟩, fun r hr => by rw [hb] at hr; cases hr; exact hlt⟩
  · have hN : N = 0 := h0 (by omega)
    have hn : L = [] := List.length_eq_zero_iff.1 (by omega)
    subst hn
    refine ⟨[none], rfl, fun β hβ => ?_⟩
    have hb : β i = none := hβ 0 (by simp)
    refine ⟨fun j bk hj => ?_, _, [], rfl, ⟨_, rfl, hlc, fun h => absurd h hcap⟩, rfl⟩
    obtain ⟨rfl, rfl⟩ := hbk j bk hj
    rw [Nat.add_zero]
    exact ⟨rfl, ⟨[], ⟨[], [], rfl, ⟨hL, rfl, by simp⟩, rfl⟩, .inl ⟨rfl, .inl rfl⟩⟩, fun r hr => by rw [hb] at hr; cases hr⟩

section args
variable {H : Type} {enc : TypeId × Value → H} {P : Program} {W : World} {base : Nat}

/-- a slice's cells, all its room -/
theorem slice_cells {t e : TypeId} {fuel : Nat} {cs : List Value} {x : DataW H × List MemPlace} (ht : P.underlying t = some (.slice e)) (hpos : 0 < P.cellsOf e) (h : DataW.trod enc P W 0 (fun _ => true) true fuel t cs = some x) :
    (cs = [.slice none 0 0] ∧ x.1 = .nil) ∨
    ∃ (a : Addr) (len cap n : Nat) (xs rest : List (DataW H × List MemPlace)) (A : List Value), cs = [.slice (some a) len cap] ∧ x.1 = .slice (xs.map (·.1)) (rest.map (·.1)) ∧ len ≤ cap ∧ cap ≤ maxLen ∧ xs.length = len ∧ A.length = cap * P.cellsOf e ∧
      (∀ i, i < cap * P.cellsOf e → W.cell? (a.add i) = A[i]?) ∧ ∀ i, i < cap → ∃ y, DataW.trod enc P W 0 (fun _ => true) true n e ((A.drop (i * P.cellsOf e)).take (P.cellsOf e)) = some y ∧ (i < len → xs[i]? = some y) := by
  rcases DataW.trod_slice ht h with ⟨h1, rfl⟩ | ⟨a, len, cap, elems, rest, n, _, rfl, rfl, _, hl, hm, hlen, hel, hsp, _⟩
  · exact .inl ⟨h1, rfl⟩
  obtain ⟨hrl, hr⟩ := hsp rfl
  have each : ∀ i, i < cap → ∃ y, (W.cells? 0 (a.add (i * P.cellsOf e)) (P.cellsOf e)).bind (DataW.trod enc P W 0 (fun _ => true) true n e) = some y ∧ (i < len → elems[i]? = some y) := by
    intro i hi
    by_cases h1 : i < len
    · have h2 : i < elems.length := by omega
      exact ⟨elems[i], by rw [hel i h1, List.getElem?_eq_getElem h2], fun _ => List.getElem?_eq_getElem h2⟩
    · have h2 : i - len < rest.length := by omega
      have := hr (i - len) (by omega)
      rw [show len + (i - len) = i by omega] at this
      exact ⟨rest[i - len], by rw [this, List.getElem?_eq_getElem h2], fun h => absurd h h1⟩
  have some_ : ∀ i, i < cap * P.cellsOf e → ∃ v, W.cell? (a.add i) = some v := by
    intro i hi
    have hq : i / P.cellsOf e < cap := (Nat.div_lt_iff_lt_mul hpos).2 hi
    obtain ⟨y, hy, _⟩ := each _ hq
    rw [Option.bind_eq_some_iff] at hy
    obtain ⟨ds, hds, _⟩ := hy
    obtain ⟨_, h2, h3⟩ := World.cells?_some hds
    have h4 := h3 (i % P.cellsOf e) (Nat.mod_lt _ hpos)
    rw [Addr.add_add, show i / P.cellsOf e * P.cellsOf e + i % P.cellsOf e = i from Nat.div_add_mod' _ _] at h4
    have h5 : i % P.cellsOf e < ds.length := by rw [h2]; exact Nat.mod_lt _ hpos
    exact ⟨ds[i % P.cellsOf e], by rw [h4, List.getElem?_eq_getElem h5]⟩
  refine .inr ⟨a, len, cap, n, elems, rest, (List.range (cap * P.cellsOf e)).map fun i => (W.cell? (a.add i)).getD undef, rfl, rfl, hl, hm, hlen, by simp, ?_, ?_⟩
  · intro i hi
    obtain ⟨v, hv⟩ := some_ i hi
    rw [List.getElem?_map, List.getElem?_range hi, hv]
    simp [hv]
  · intro i hi
    obtain ⟨y, hy, hy2⟩ := each i hi
    refine ⟨y, ?_, hy2⟩
    rw [Option.bind_eq_some_iff] at hy
    obtain ⟨ds, hds, hy3⟩ := hy
    obtain ⟨_, h2, h3⟩ := World.cells?_some hds
    have hle : i * P.cellsOf e + P.cellsOf e ≤ cap * P.cellsOf e := by
      have := Nat.mul_le_mul_right (P.cellsOf e) (Nat.succ_le_of_lt hi)
      rw [Nat.succ_mul] at this; exact this
    have : ((((List.range (cap * P.cellsOf e)).map fun i => (W.cell? (a.add i)).getD undef).drop (i * P.cellsOf e)).take (P.cellsOf e)) = ds := by
      refine List.ext_getElem? fun j => ?_
      by_cases hj : j < P.cellsOf e
      · rw [List.getElem?_take_of_lt hj, List.getElem?_drop, List.getElem?_map, List.getElem?_range (by omega)]
        have h4 := h3 j hj
        rw [Addr.add_add] at h4
        have h5 : j < ds.length := by omega
        simp only [Option.map_some]
        rw [h4, List.getElem?_eq_getElem h5]; rfl
      · rw [List.getElem?_eq_none (by simp; omega), List.getElem?_eq_none (by omega)]
    rw [this]; exact hy3

/-- a slice whose elements have c cells, opened -/
theorem vals_arg {t e : TypeId} {c : Nat} {v : Value} {d : DataW H} {p : List MemPlace} (ht : P.underlying t = some (.slice e)) (hcc : P.cellsOf e = c) (hpos : 0 < c)
    (hone : ∀ (n : Nat) (cs : List Value) (y : DataW H × List MemPlace), DataW.trod enc P W 0 (fun _ => true) true n e cs = some y → ∀ v ∈ cs, v.oneCell' = true)
    (hval : Value.okWide P W .any base t v) (h : DataW.Trod enc P W 0 (fun _ => true) true t v d p) :
    ∃ (len cap : Nat) (L : List Value), L.length = len * c ∧ len ≤ cap ∧ (∀ i, Opened W i [v] [.o (.a (.sl i 0 len cap))] [some ⟨false, [.vals (len * c) L]⟩]) ∧
      ((d = .nil ∧ len = 0) ∨ ∃ (n : Nat) (xs : List (DataW H × List MemPlace)) (s : List (DataW H)), d = .slice (xs.map (·.1)) s ∧ xs.length = len ∧
        ∀ i, i < len → ∃ y, DataW.trod enc P W 0 (fun _ => true) true n e ((L.drop (i * c)).take c) = some y ∧ xs[i]? = some y) := by
  subst hcc
  obtain ⟨a0, len, cap, rfl⟩ := okWide_slice ht hval
  obtain ⟨fuel, hf⟩ := h
  rcases slice_cells ht hpos hf with ⟨hcs, hx⟩ | ⟨a, len', cap', n, xs, rest, A, hcs, hx, hl, hm, hxl, hAl, hcell, hel⟩
  · simp [Value.cells] at hcs
    obtain ⟨rfl, rfl, rfl⟩ := hcs
    exact ⟨0, 0, [], by simp, Nat.le_refl _, fun i => vals_open (by simp) (Nat.le_refl _) (by simp) (fun _ => by simp) (fun h => absurd h (by omega)), .inl ⟨hx, rfl⟩⟩
  · simp [Value.cells] at hcs
    obtain ⟨rfl, rfl, rfl⟩ := hcs
    have hle : len * P.cellsOf e ≤ cap * P.cellsOf e := Nat.mul_le_mul_right _ hl
    refine ⟨len, cap, A.take (len * P.cellsOf e), by simp; omega, hl, fun i => vals_open (by simp; omega) hl ?_ ?_ fun hcap => ?_, .inr ⟨n, xs, _, hx, hxl, ?_⟩⟩
    · intro v hv
      obtain ⟨j, hj⟩ := List.getElem?_of_mem hv
      rw [List.getElem?_take] at hj
      split at hj
      · rename_i hjl
        have hq : j / P.cellsOf e < cap := (Nat.div_lt_iff_lt_mul hpos).2 (by omega)
        obtain ⟨y, hy, _⟩ := hel _ hq
        refine hone _ _ _ hy v (List.mem_of_getElem? (i := j % P.cellsOf e) ?_)
        rw [List.getElem?_take_of_lt (Nat.mod_lt _ hpos), List.getElem?_drop, Nat.div_add_mod']; exact hj
      · cases hj
    · intro hc0; have : len = 0 := by omega
      rw [this, Nat.zero_mul]
    · have hp : 0 < cap * P.cellsOf e := Nat.mul_pos hcap hpos
      have h0 := hcell 0 hp
      obtain ⟨v0, hv0⟩ : ∃ v0, A[0]? = some v0 := ⟨A[0], List.getElem?_eq_getElem (by omega)⟩
      rw [hv0] at h0
      obtain ⟨b, off, spot⟩ := a
      have hspot : spot = none := by simpa [Addr.add] using World.cell?_spot h0
      subst hspot
      have hc2 : ∀ j, j < cap * P.cellsOf e → W.cell? ⟨b, off + j, none⟩ = A[j]? := fun j hj => by rw [← Go.WideShapes.add_plain]; exact hcell j hj
      have h00 := hc2 0 hp
      rw [hv0] at h00
      unfold World.cell? at h00
      split at h00
      · rename_i arr ty fr hh
        have hget : ∀ j, j < cap * P.cellsOf e → arr[off + j]? = A[j]? := by
          intro j hj
          have h1 := hc2 j hj
          unfold World.cell? at h1
          rw [hh] at h1
          simpa using h1
        refine ⟨b, off, arr, ty, fr, rfl, hh, ?_, ?_⟩
        · by_cases hz : len * P.cellsOf e = 0
          · have := (Array.getElem?_eq_some_iff.1 ((hget 0 hp).trans hv0)).1
            omega
          · have h1 := hget (len * P.cellsOf e - 1) (by omega)
            rw [List.getElem?_eq_getElem (by omega)] at h1
            have := (Array.getElem?_eq_some_iff.1 h1).1
            omega
        · intro i x hix
          rw [List.getElem?_take] at hix
          split at hix
          · rw [hget i (by omega), hix]
          · cases hix
      · cases h00
    · intro i hi
      obtain ⟨y, hy, hy2⟩ := hel i (by omega)
      refine ⟨y, ?_, hy2 hi⟩
      rw [← hy]
      congr 1
      refine List.ext_getElem? fun j => ?_
      by_cases hj : j < P.cellsOf e
      · rw [List.getElem?_take_of_lt hj, List.getElem?_take_of_lt hj, List.getElem?_drop, List.getElem?_drop, List.getElem?_take_of_lt]
        have := Nat.mul_le_mul_right (P.cellsOf e) (Nat.succ_le_of_lt hi)
        rw [Nat.succ_mul] at this; omega
      · rw [List.getElem?_eq_none (by simp; omega), List.getElem?_eq_none (by simp; omega)]

end args
end Go.Proofs.Ytcpoldghkiiggaa.R

/- Arguments that are slices of arrays of whole numbers. -/
namespace Go.Proofs.Ytcpoldghkiiggaa.R
open Go Go.Proofs Go.ChangeShapes Go.WideShapes Go.ChangeAt Go.RowKit Go.Proofs.Ytcpoldghkiiggaa.X
set_option linter.unusedVariables false

theorem vals_ints {W : World} {i m : Nat} {v : Value} {x : AV} {k : IntKind} {L : List Value} {l : List Int} (hL : L = l.map (Value.int k)) (h : Opened W i [v] [x] [some ⟨false, [.vals m L]⟩]) : Opened W i [v] [x] [some ⟨false, [.ints k m l]⟩] := by
  obtain ⟨ρ, hl, hρ⟩ := h
  refine ⟨ρ, hl, fun β hβ => ?_⟩
  obtain ⟨hb, ha⟩ := hρ β hβ
  refine ⟨fun j b hj => ?_, ha⟩
  have hj0 : j = 0 ∧ b = ⟨false, [.ints k m l]⟩ := by
    match j, hj with
    | 0, hj => exact ⟨rfl, (Option.some.inj hj).symm⟩
    | j + 1, hj => simp [Know.at] at hj
  obtain ⟨rfl, rfl⟩ := hj0
  obtain ⟨_, hh, hlt⟩ := hb 0 ⟨false, [.vals m L]⟩ rfl
  refine ⟨rfl, ?_, hlt⟩
  obtain ⟨cs, hc, hr⟩ := hh
  refine ⟨cs, ?_, hr⟩
  obtain ⟨a, b, rfl, hx, hy⟩ := hc
  refine ⟨a, b, rfl, ?_, hy⟩
  obtain ⟨h1, h2, _⟩ := hx
  exact ⟨by rw [← h1, hL, List.length_map], by rw [h2, hL]⟩

variable {H : Type} {enc : TypeId × Value → H} {P : Program} {W : World} {base : Nat}

theorem arr_ints {e b : TypeId} {k : IntKind} {z : Nat} (he : P.underlying e = some (.array z b)) (hb : P.underlying b = some (.int k)) (hcb : P.cellsOf b = 1) (hce : P.cellsOf e = z)
    {n : Nat} {cs : List Value} {y : DataW H × List MemPlace} (h : DataW.trod enc P W 0 (fun _ => true) true n e cs = some y) : ∀ v ∈ cs, ∃ x, v = .int k x ∧ (Lit.int k x).wf = true := by
  obtain ⟨xs, m, rfl, _, hlen, hxl, hel⟩ := DataW.trod_array he h
  intro v hv
  obtain ⟨j, hj⟩ := List.getElem?_of_mem hv
  have hjl : j < z := by
    have := (List.getElem?_eq_some_iff.1 hj).1
    omega
  have h1 := hel j hjl
  rw [hcb, Nat.mul_one] at h1
  have hjx : j < xs.length := by omega
  rw [List.getElem?_eq_getElem hjx] at h1
  obtain ⟨x, hx, _, hw⟩ := DataW.trod_int hb h1
  refine ⟨x, ?_, hw⟩
  have := congrArg (·[0]?) hx
  have e : cs[j]? = some (.int k x) := by simpa [List.getElem?_take, List.getElem?_drop] using this
  rw [hj] at e
  exact Option.some.inj e

def toI : Value → Int
  | .int _ x => x
  | _ => 0

/-- a slice of arrays of whole numbers, opened -/
theorem arrs_arg {t e b : TypeId} {k : IntKind} {z : Nat} {v : Value} {d : DataW H} {p : List MemPlace} (ht : P.underlying t = some (.slice e)) (he : P.underlying e = some (.array z b)) (hb : P.underlying b = some (.int k)) (hcb : P.cellsOf b = 1) (hce : P.cellsOf e = z) (hz : 0 < z)
    (hval : Value.okWide P W .any base t v) (h : DataW.Trod enc P W 0 (fun _ => true) true t v d p) :
    ∃ (len cap : Nat) (L : List Int), L.length = len * z ∧ len ≤ cap ∧ (∀ x ∈ L, (Lit.int k x).wf = true) ∧ (∀ i, Opened W i [v] [.o (.a (.sl i 0 len cap))] [some ⟨false, [.ints k (len * z) L]⟩]) ∧
      ((d = .nil ∧ len = 0) ∨ ∃ (xs s : List (DataW H)), d = .slice xs s ∧ xs.length = len) := by
  obtain ⟨len, cap, L, hl, hlc, ho, hd⟩ := vals_arg (c := z) ht hce hz (fun n cs y h v hv => by obtain ⟨x, rfl, _⟩ := arr_ints he hb hcb hce h v hv; rfl) hval h
  have key : ∀ v ∈ L, ∃ x, v = .int k x ∧ (Lit.int k x).wf = true := by
    intro v hv
    rcases hd with ⟨_, h0⟩ | ⟨n, xs, s, _, _, hx⟩
    · subst h0
      rw [Nat.zero_mul] at hl
      rw [List.length_eq_zero_iff.1 hl] at hv
      cases hv
    · obtain ⟨j, hj⟩ := List.getElem?_of_mem hv
      have hjl := (List.getElem?_eq_some_iff.1 hj).1
      have hq : j / z < len := (Nat.div_lt_iff_lt_mul hz).2 (by omega)
      obtain ⟨y, hy, _⟩ := hx _ hq
      refine arr_ints he hb hcb hce hy v (List.mem_of_getElem? (i := j % z) ?_)
      rw [List.getElem?_take_of_lt (Nat.mod_lt _ hz), List.getElem?_drop, Nat.div_add_mod']; exact hj
  have hmap : L = (L.map toI).map (Value.int k) := by
    rw [List.map_map]
    conv => lhs; rw [← List.map_id L]
    refine List.map_congr_left fun v hv => ?_
    obtain ⟨x, rfl, _⟩ := key v hv
    rfl
  refine ⟨len, cap, L.map toI, by rw [List.length_map]; exact hl, hlc, ?_, fun i => vals_ints hmap (ho i), ?_⟩
  · intro x hx
    obtain ⟨v, hv, rfl⟩ := List.mem_map.1 hx
    obtain ⟨y, rfl, hw⟩ := key v hv
    exact hw
  · rcases hd with h | ⟨n, xs, s, h1, h2, _⟩
    · exact .inl h
    · exact .inr ⟨xs.map (·.1), s, h1, by rw [List.length_map]; exact h2⟩
end Go.Proofs.Ytcpoldghkiiggaa.R

/-
  FOR A PROOF OF AN '..UptoSaid': WHAT THE BOUND GIVES. Copy it as <Name>Bulk.lean (put your seat's Name for Ytcpoldghkiiggaa, the bound of 'uptoSmall' for 1048576), name it in GOCLAIM.json's 'order' behind <Name>Rows. By an AI agent, Sun Nov 15 2026. No person has read it. No macro, syntax, notation, axiom, sorry.
-/
namespace Go.Proofs.Ytcpoldghkiiggaa.bulks

theorem append {H : Type} (l r : List (DataW H)) : Rows.uptoBulkAll (l ++ r) = Rows.uptoBulkAll l + Rows.uptoBulkAll r := by
  induction l with
  | nil => simp [Rows.uptoBulkAll]
  | cons x l ih => simp only [List.cons_append, Rows.uptoBulkAll, ih]; omega

end Go.Proofs.Ytcpoldghkiiggaa.bulks

