/- Texts of this session, put together (part 4), less what nothing uses. -/
import Derived.Test.YtepimglipelpmaaGS3
import Derived.KernelRfl
import Derived.WalkKit
import Derived.ProofKit
import Derived.OpenShut
import Derived.JoinedCond
import Derived.Carry
/- Printed by a tool of this session. -/
namespace Go.Proofs.Ytepimglipelpmaa.X
open Go Go.Proofs
set_option linter.unusedVariables false
set_option linter.unusedSimpArgs false
set_option maxRecDepth 100000
theorem teTE_3 : TEOk Try.prog 3 ⟨.int .i64, 1, 8, [.i .i64 (0 : Int)], false⟩ :=
  TEOk.of Try.underlying3 (i := Try.t3) (by kernel_rfl) rfl rfl rfl (by kernel_rfl) (fun h => by cases h) (by kernel_rfl)
theorem teTE_5 : TEOk Try.prog 5 ⟨.int .u8, 1, 1, [.i .u8 (0 : Int)], false⟩ :=
  TEOk.of Try.underlying5 (i := Try.t5) (by kernel_rfl) rfl rfl rfl (by kernel_rfl) (fun h => by cases h) (by kernel_rfl)
theorem teTE_22 : TEOk Try.prog 22 ⟨.slice 5, 1, 24, [.raw (.slice none 0 0)], false⟩ :=
  TEOk.of Try.underlying22 (i := Try.t22) (by kernel_rfl) rfl rfl rfl (by kernel_rfl) (fun h => by cases h) (by kernel_rfl)
theorem teTE_42 : TEOk Try.prog 42 ⟨.array 64 5, 64, 64, [.ints .u8 (64 : Nat) ([0, 0, 0, 0, 0, 0, 0, 0, 0, 0, 0, 0, 0, 0, 0, 0, 0, 0, 0, 0, 0, 0, 0, 0, 0, 0, 0, 0, 0, 0, 0, 0, 0, 0, 0, 0, 0, 0, 0, 0, 0, 0, 0, 0, 0, 0, 0, 0, 0, 0, 0, 0, 0, 0, 0, 0, 0, 0, 0, 0, 0, 0, 0, 0] : List Int)], true⟩ :=
  TEOk.of Try.underlying42 (i := Try.t42) (by kernel_rfl) rfl rfl rfl (by kernel_rfl) (fun _ => Try.eqGuardType42) (by kernel_rfl)
theorem teTE_52 : TEOk Try.prog 52 ⟨.int .u64, 1, 8, [.i .u64 (0 : Int)], false⟩ :=
  TEOk.of Try.underlying52 (i := Try.t52) (by kernel_rfl) rfl rfl rfl (by kernel_rfl) (fun h => by cases h) (by kernel_rfl)
theorem teTE_53 : TEOk Try.prog 53 ⟨.array 8 52, 8, 64, [.ints .u64 (8 : Nat) ([0, 0, 0, 0, 0, 0, 0, 0] : List Int)], true⟩ :=
  TEOk.of Try.underlying53 (i := Try.t53) (by kernel_rfl) rfl rfl rfl (by kernel_rfl) (fun _ => Try.eqGuardType53) (by kernel_rfl)
theorem teTE_82 : TEOk Try.prog 82 ⟨.int .u64, 1, 8, [.i .u64 (0 : Int)], false⟩ :=
  TEOk.of Try.underlying82 (i := Try.t82) (by kernel_rfl) rfl rfl rfl (by kernel_rfl) (fun h => by cases h) (by kernel_rfl)
noncomputable def tabTE : List (Nat × TE) := [(3, ⟨.int .i64, 1, 8, [.i .i64 (0 : Int)], false⟩), (5, ⟨.int .u8, 1, 1, [.i .u8 (0 : Int)], false⟩), (22, ⟨.slice 5, 1, 24, [.raw (.slice none 0 0)], false⟩), (42, ⟨.array 64 5, 64, 64, [.ints .u8 (64 : Nat) ([0, 0, 0, 0, 0, 0, 0, 0, 0, 0, 0, 0, 0, 0, 0, 0, 0, 0, 0, 0, 0, 0, 0, 0, 0, 0, 0, 0, 0, 0, 0, 0, 0, 0, 0, 0, 0, 0, 0, 0, 0, 0, 0, 0, 0, 0, 0, 0, 0, 0, 0, 0, 0, 0, 0, 0, 0, 0, 0, 0, 0, 0, 0, 0] : List Int)], true⟩), (52, ⟨.int .u64, 1, 8, [.i .u64 (0 : Int)], false⟩), (53, ⟨.array 8 52, 8, 64, [.ints .u64 (8 : Nat) ([0, 0, 0, 0, 0, 0, 0, 0] : List Int)], true⟩), (82, ⟨.int .u64, 1, 8, [.i .u64 (0 : Int)], false⟩)]
theorem tabOkTE : TabOk Try.prog (tabOf tabTE) := (tabOf_cons teTE_3 (tabOf_cons teTE_5 (tabOf_cons teTE_22 (tabOf_cons teTE_42 (tabOf_cons teTE_52 (tabOf_cons teTE_53 (tabOf_cons teTE_82 tabOf_nil)))))))

def finL_mk (S : List Int) (n nm : Nat) (b : List Int) (N : Int) (cap0 k : Nat) (s : (List Int)) : St := ⟨sparse 56 [(0, .o (.g [.ints .u64 (8 : Nat) S])), (1, .o (.a (.sl 0 0 n cap0))), (2, .o (.a (.i .u64 N))), (3, .o (.a (.p 1 0))), (6, .o (.a (.p 2 0))), (7, .o (.a (.rs 3 0 (padR N) 1))), (9, .o (.a (.rs 5 0 (n + (padR N)) 1))), (10, .o (.a (.i .i64 ((((128 : Nat) * k) : Nat) : Int)))), (13, .t [.a (.rs 3 0 (padR N) 1), .a (.i .i64 (0 : Int))]), (14, .o (.a (.i .u64 N))), (15, .t [.a (.rs 3 0 (padR N) 1), .a (.i .i64 (0 : Int))]), (16, .o (.a (.rs 3 0 (padR N) 1))), (17, .o (.a (.i .i64 (0 : Int)))), (18, .o (.a (.raw (.slice none 0 0)))), (19, .o (.a (.sl 0 0 n cap0))), (20, .o (.a (.rs 4 0 n 1))), (21, .o (.a (.rs 4 0 n 1))), (22, .o (.a (.rs 3 0 (padR N) 1))), (23, .o (.a (.rs 5 0 (n + (padR N)) 1)))], [some ⟨false, [.ints .u8 nm b]⟩, some ⟨true, [.ints .u64 (8 : Nat) s]⟩, some ⟨true, [.ints .u8 (64 : Nat) ([0, 0, 0, 0, 0, 0, 0, 0, 0, 0, 0, 0, 0, 0, 0, 0, 0, 0, 0, 0, 0, 0, 0, 0, 0, 0, 0, 0, 0, 0, 0, 0, 0, 0, 0, 0, 0, 0, 0, 0, 0, 0, 0, 0, 0, 0, 0, 0, 0, 0, 0, 0, 0, 0, 0, 0, 0, 0, 0, 0, 0, 0, 0, 0] : List Int)]⟩, some ⟨true, [.ints .u8 (padR N) (padR_1 N)]⟩, none, some ⟨true, [.ints .u8 (n + (padR N)) ((sub (sub b 0 n) (0 : Nat) n) ++ (sub (padR_1 N) (0 : Nat) (padR N)))]⟩]⟩

def finL_step (n : Nat) (b : List Int) (N : Int) (k : Nat) (s : (List Int)) : (List Int) :=
  ((blkR s (sub ((sub (sub b 0 n) (0 : Nat) n) ++ (sub (padR_1 N) (0 : Nat) (padR N))) ((0 : Nat) + ((128 : Nat) * k)) ((Int.toNat (IntKind.i64.wrap (((((128 : Nat) * k) : Nat) : Int) + (128 : Int)))) - ((128 : Nat) * k)))))

set_option maxHeartbeats 1000000 in
theorem finL_round (S : List Int) (n nm : Nat) (b : List Int) (N : Int) (cap0 : Nat) (h0 : (nm = n)) (h1 : ((0 : Int) ≤ N)) (h2 : (N < (2305843009213693952 : Int))) (h3 : (n < (70368744177664 : Nat))) (hc0 : n ≤ cap0) (hl0_0 : List.length b = nm) (hv0 : List.length S = (8 : Nat)) (w : World) (β : Env) (k : Nat) (hk : k < ((n + (padR N)) / (128 : Nat))) (s : (List Int)) : Run Try.prog ⟨w, [], 1, β⟩ (loopB Try.f34 0) (finL_mk S n nm b N cap0 k s) (To ⟨w, [], 1, β⟩ .normal (finL_mk S n nm b N cap0 (k + 1) (finL_step n b N k s))) := by
  have e0 : (IntKind.i64.wrap (((((128 : Nat) * k) : Nat) : Int) + (128 : Int))) = ((((128 : Nat) * (k + (1 : Nat))) : Nat) : Int) := (by have hq2 := padR_len N; have hp1 := pad_le N; first | rfl | omega | (simp (disch := omega) only [wrapI]; omega))
  have h := Run.of_outT (B := ⟨w, [], 1, β⟩) (Λ := noLam) (Ψ := noPsi) (fuel := 0) (ora := [true]) (c := (loopB Try.f34 0)) (st := (finL_mk S n nm b N cap0 k s)) (l := [.forget [0, 1, 2, 3, 6, 7, 9, 10, 13, 14, 15, 16, 17, 18, 19, 20, 21, 22, 23] 6]) (s' := ⟨sparse 56 [(0, .o (.g [.ints .u64 (8 : Nat) S])), (1, .o (.a (.sl 0 0 n cap0))), (2, .o (.a (.i .u64 N))), (3, .o (.a (.p 1 0))), (6, .o (.a (.p 2 0))), (7, .o (.a (.rs 3 0 (padR N) 1))), (9, .o (.a (.rs 5 0 (n + (padR N)) 1))), (10, .o (.a (.i .i64 (IntKind.i64.wrap (((((128 : Nat) * k) : Nat) : Int) + (128 : Int)))))), (13, .t [.a (.rs 3 0 (padR N) 1), .a (.i .i64 (0 : Int))]), (14, .o (.a (.i .u64 N))), (15, .t [.a (.rs 3 0 (padR N) 1), .a (.i .i64 (0 : Int))]), (16, .o (.a (.rs 3 0 (padR N) 1))), (17, .o (.a (.i .i64 (0 : Int)))), (18, .o (.a (.raw (.slice none 0 0)))), (19, .o (.a (.sl 0 0 n cap0))), (20, .o (.a (.rs 4 0 n 1))), (21, .o (.a (.rs 4 0 n 1))), (22, .o (.a (.rs 3 0 (padR N) 1))), (23, .o (.a (.rs 5 0 (n + (padR N)) 1)))], [some ⟨false, [.ints .u8 nm b]⟩, some ⟨true, [.ints .u64 (8 : Nat) (finL_step n b N k s)]⟩, some ⟨true, [.ints .u8 (64 : Nat) ([0, 0, 0, 0, 0, 0, 0, 0, 0, 0, 0, 0, 0, 0, 0, 0, 0, 0, 0, 0, 0, 0, 0, 0, 0, 0, 0, 0, 0, 0, 0, 0, 0, 0, 0, 0, 0, 0, 0, 0, 0, 0, 0, 0, 0, 0, 0, 0, 0, 0, 0, 0, 0, 0, 0, 0, 0, 0, 0, 0, 0, 0, 0, 0] : List Int)]⟩, some ⟨true, [.ints .u8 (padR N) (padR_1 N)]⟩, none, some ⟨true, [.ints .u8 (n + (padR N)) ((sub (sub b 0 n) (0 : Nat) n) ++ (sub (padR_1 N) (0 : Nat) (padR N)))]⟩]⟩) (ex := .normal) mix tabOkTE gam304_ok
    (vc := [((True ∧ (((((0 : Nat) + ((128 : Nat) * k)) + ((Int.toNat (IntKind.i64.wrap (((((128 : Nat) * k) : Nat) : Int) + (128 : Int)))) - ((128 : Nat) * k))) ≤ (n + (padR N))) ∧ True)) ∧ ((((Int.toNat (IntKind.i64.wrap (((((128 : Nat) * k) : Nat) : Int) + (128 : Int)))) - ((128 : Nat) * k)) = ((Int.toNat (IntKind.i64.wrap (((((128 : Nat) * k) : Nat) : Int) + (128 : Int)))) - ((128 : Nat) * k))) ∧ (((Int.toNat (IntKind.i64.wrap (((((128 : Nat) * k) : Nat) : Int) + (128 : Int)))) - ((128 : Nat) * k)) = (128 : Nat)))), (((0 : Int) ≤ ((((128 : Nat) * k) : Nat) : Int)) ∧ (((((128 : Nat) * k) : Nat) : Int) ≤ (IntKind.i64.wrap (((((128 : Nat) * k) : Nat) : Int) + (128 : Int)))) ∧ ((IntKind.i64.wrap (((((128 : Nat) * k) : Nat) : Int) + (128 : Int))) ≤ (((n + (padR N)) : Nat) : Int))), ((decide ((IntKind.i64.wrap (((((128 : Nat) * k) : Nat) : Int) + (128 : Int))) ≤ (((n + (padR N)) : Nat) : Int))) = true)]) (by kernel_rfl)
    (aC ⟨⟨trivial, ⟨(by have hq2 := padR_len N; have hp1 := pad_le N; first | omega | (simp (disch := omega) only [wrapI]; omega)), trivial⟩⟩, ⟨rfl, (by have hq2 := padR_len N; have hp1 := pad_le N; first | omega | (simp (disch := omega) only [wrapI]; omega))⟩⟩ (aC ⟨(by have hq2 := padR_len N; have hp1 := pad_le N; first | omega | (simp (disch := omega) only [wrapI]; omega)), (by have hq2 := padR_len N; have hp1 := pad_le N; first | omega | (simp (disch := omega) only [wrapI]; omega)), (by have hq2 := padR_len N; have hp1 := pad_le N; first | omega | (simp (disch := omega) only [wrapI]; omega))⟩ (aC (decide_eq_true (by have hq2 := padR_len N; have hp1 := pad_le N; first | omega | (simp (disch := omega) only [wrapI]; omega))) (AllP_nil))))
  rw [e0] at h
  exact h

set_option maxHeartbeats 1000000 in
theorem finL_last (S : List Int) (n nm : Nat) (b : List Int) (N : Int) (cap0 : Nat) (h0 : (nm = n)) (h1 : ((0 : Int) ≤ N)) (h2 : (N < (2305843009213693952 : Int))) (h3 : (n < (70368744177664 : Nat))) (hc0 : n ≤ cap0) (hl0_0 : List.length b = nm) (hv0 : List.length S = (8 : Nat)) (w : World) (β : Env) (s : (List Int)) : Run Try.prog ⟨w, [], 1, β⟩ (loopB Try.f34 0) (finL_mk S n nm b N cap0 ((n + (padR N)) / (128 : Nat)) s) (To ⟨w, [], 1, β⟩ (.exit 0) (finL_mk S n nm b N cap0 ((n + (padR N)) / (128 : Nat)) s)) :=
  Run.of_outT (B := ⟨w, [], 1, β⟩) (Λ := noLam) (Ψ := noPsi) (fuel := 0) (ora := [false]) (l := [.forget [0, 1, 2, 3, 6, 7, 9, 10, 13, 14, 15, 16, 17, 18, 19, 20, 21, 22, 23] 6]) mix tabOkTE gam304_ok
    (vc := [((decide ((IntKind.i64.wrap (((((128 : Nat) * ((n + (padR N)) / (128 : Nat))) : Nat) : Int) + (128 : Int))) ≤ (((n + (padR N)) : Nat) : Int))) = false)]) (by kernel_rfl)
    (aC (decide_eq_false (by have hq2 := padR_len N; have hp1 := pad_le N; first | omega | (simp (disch := omega) only [wrapI]; omega))) (AllP_nil))

theorem finL_loop (S : List Int) (n nm : Nat) (b : List Int) (N : Int) (cap0 : Nat) (h0 : (nm = n)) (h1 : ((0 : Int) ≤ N)) (h2 : (N < (2305843009213693952 : Int))) (h3 : (n < (70368744177664 : Nat))) (hc0 : n ≤ cap0) (hl0_0 : List.length b = nm) (hv0 : List.length S = (8 : Nat)) (w : World) (β : Env) (s : (List Int)) : Run Try.prog ⟨w, [], 1, β⟩ (.block 0 (.loop (loopB Try.f34 0))) (finL_mk S n nm b N cap0 0 s) (To ⟨w, [], 1, β⟩ .normal (finL_mk S n nm b N cap0 ((n + (padR N)) / (128 : Nat)) (iter (finL_step n b N) ((n + (padR N)) / (128 : Nat)) s))) :=
  Run.count (fun k => finL_mk S n nm b N cap0 k (iter (finL_step n b N) k s)) ((n + (padR N)) / (128 : Nat)) (fun k hk => finL_round S n nm b N cap0 h0 h1 h2 h3 hc0 hl0_0 hv0 w β k hk _) (ex := (.exit 0)) (by simp) (finL_last S n nm b N cap0 h0 h1 h2 h3 hc0 hl0_0 hv0 w β _)

def finL_out0 (n : Nat) (b : List Int) (N : Int) (i0 : List Int) : List Int := (iter (finL_step n b N) ((n + (padR N)) / (128 : Nat)) (i0))

def finR (S : List Int) (n : Nat) (b : List Int) (N : Int) : List Int :=
  let z0 : List Int := (finL_out0 n b N S)
  let z1 : Int := (List.getD z0 (7 : Nat) 0)
  let z2 : Int := (List.getD z0 (6 : Nat) 0)
  let z3 : Int := (List.getD z0 (5 : Nat) 0)
  let z4 : Int := (List.getD z0 (4 : Nat) 0)
  let z5 : Int := (List.getD z0 (3 : Nat) 0)
  let z6 : Int := (List.getD z0 (2 : Nat) 0)
  let z7 : Int := (List.getD z0 (1 : Nat) 0)
  let z8 : Int := (List.getD z0 (0 : Nat) 0)
  ([(IntKind.u8.wrap (shr .u64 z8 (56 : Int))), (IntKind.u8.wrap (shr .u64 z8 (48 : Int))), (IntKind.u8.wrap (shr .u64 z8 (40 : Int))), (IntKind.u8.wrap (shr .u64 z8 (32 : Int))), (IntKind.u8.wrap (shr .u64 z8 (24 : Int))), (IntKind.u8.wrap (shr .u64 z8 (16 : Int))), (IntKind.u8.wrap (shr .u64 z8 (8 : Int))), (IntKind.u8.wrap (shr .u64 z8 (0 : Int))), (IntKind.u8.wrap (shr .u64 z7 (56 : Int))), (IntKind.u8.wrap (shr .u64 z7 (48 : Int))), (IntKind.u8.wrap (shr .u64 z7 (40 : Int))), (IntKind.u8.wrap (shr .u64 z7 (32 : Int))), (IntKind.u8.wrap (shr .u64 z7 (24 : Int))), (IntKind.u8.wrap (shr .u64 z7 (16 : Int))), (IntKind.u8.wrap (shr .u64 z7 (8 : Int))), (IntKind.u8.wrap (shr .u64 z7 (0 : Int))), (IntKind.u8.wrap (shr .u64 z6 (56 : Int))), (IntKind.u8.wrap (shr .u64 z6 (48 : Int))), (IntKind.u8.wrap (shr .u64 z6 (40 : Int))), (IntKind.u8.wrap (shr .u64 z6 (32 : Int))), (IntKind.u8.wrap (shr .u64 z6 (24 : Int))), (IntKind.u8.wrap (shr .u64 z6 (16 : Int))), (IntKind.u8.wrap (shr .u64 z6 (8 : Int))), (IntKind.u8.wrap (shr .u64 z6 (0 : Int))), (IntKind.u8.wrap (shr .u64 z5 (56 : Int))), (IntKind.u8.wrap (shr .u64 z5 (48 : Int))), (IntKind.u8.wrap (shr .u64 z5 (40 : Int))), (IntKind.u8.wrap (shr .u64 z5 (32 : Int))), (IntKind.u8.wrap (shr .u64 z5 (24 : Int))), (IntKind.u8.wrap (shr .u64 z5 (16 : Int))), (IntKind.u8.wrap (shr .u64 z5 (8 : Int))), (IntKind.u8.wrap (shr .u64 z5 (0 : Int))), (IntKind.u8.wrap (shr .u64 z4 (56 : Int))), (IntKind.u8.wrap (shr .u64 z4 (48 : Int))), (IntKind.u8.wrap (shr .u64 z4 (40 : Int))), (IntKind.u8.wrap (shr .u64 z4 (32 : Int))), (IntKind.u8.wrap (shr .u64 z4 (24 : Int))), (IntKind.u8.wrap (shr .u64 z4 (16 : Int))), (IntKind.u8.wrap (shr .u64 z4 (8 : Int))), (IntKind.u8.wrap (shr .u64 z4 (0 : Int))), (IntKind.u8.wrap (shr .u64 z3 (56 : Int))), (IntKind.u8.wrap (shr .u64 z3 (48 : Int))), (IntKind.u8.wrap (shr .u64 z3 (40 : Int))), (IntKind.u8.wrap (shr .u64 z3 (32 : Int))), (IntKind.u8.wrap (shr .u64 z3 (24 : Int))), (IntKind.u8.wrap (shr .u64 z3 (16 : Int))), (IntKind.u8.wrap (shr .u64 z3 (8 : Int))), (IntKind.u8.wrap (shr .u64 z3 (0 : Int))), (IntKind.u8.wrap (shr .u64 z2 (56 : Int))), (IntKind.u8.wrap (shr .u64 z2 (48 : Int))), (IntKind.u8.wrap (shr .u64 z2 (40 : Int))), (IntKind.u8.wrap (shr .u64 z2 (32 : Int))), (IntKind.u8.wrap (shr .u64 z2 (24 : Int))), (IntKind.u8.wrap (shr .u64 z2 (16 : Int))), (IntKind.u8.wrap (shr .u64 z2 (8 : Int))), (IntKind.u8.wrap (shr .u64 z2 (0 : Int))), (IntKind.u8.wrap (shr .u64 z1 (56 : Int))), (IntKind.u8.wrap (shr .u64 z1 (48 : Int))), (IntKind.u8.wrap (shr .u64 z1 (40 : Int))), (IntKind.u8.wrap (shr .u64 z1 (32 : Int))), (IntKind.u8.wrap (shr .u64 z1 (24 : Int))), (IntKind.u8.wrap (shr .u64 z1 (16 : Int))), (IntKind.u8.wrap (shr .u64 z1 (8 : Int))), (IntKind.u8.wrap (shr .u64 z1 (0 : Int)))] : List Int)

set_option maxHeartbeats 1000000 in
theorem finR_body0 (S : List Int) (n nm : Nat) (b : List Int) (N : Int) (cap0 : Nat) (h0 : (nm = n)) (h1 : ((0 : Int) ≤ N)) (h2 : (N < (2305843009213693952 : Int))) (h3 : (n < (70368744177664 : Nat))) (hc0 : n ≤ cap0) (hl0_0 : List.length b = nm) (hv0 : List.length S = (8 : Nat)) (w : World) (β : Env) : Body Try.prog (tabOf tabTE) Try.f34 ⟨w, [], 1, β⟩ [.o (.g [.ints .u64 (8 : Nat) S]), .o (.a (.sl 0 0 n cap0)), .o (.a (.i .u64 N))] [some ⟨false, [.ints .u8 nm b]⟩] (fun ys _ => ys = [.g [.ints .u8 (64 : Nat) (finR S n b N)]]) :=
  Body.of_fin (Γ := gam304) (Λ := lamOf [(0, ⟨[.forget [0, 1, 2, 3, 6, 7, 9, 10, 13, 14, 15, 16, 17, 18, 19, 20, 21, 22, 23] 6], .normal, (finL_mk S n nm b N cap0 ((n + (padR N)) / (128 : Nat)) (iter (finL_step n b N) ((n + (padR N)) / (128 : Nat)) (S)))⟩)]) (Ψ := noPsi) (fuel := 65) (m := 56) (c := (Try.f34.body.getD .skip)) mix tabOkTE gam304_ok rfl (rs := [.cell 6 42]) rfl rfl [false, false, true, true, true, true, true, true, true, true, true, true, true, true, true, true, true, true, true, true, true, true, true, true, true, true, true, true, true, true, true, true, true, true, true, true, true, true, true, true, true, true, true, true, true, true, true, true, true, true, true, true, true, true, true, true, true, true, true, true, true, true, true, true, true, true, false] []
    (vc := [(false = false), ((63 : Nat) < (64 : Nat)), (((0 : Int) ≤ (63 : Int)) ∧ ((63 : Int) < (64 : Int))), ((0 : Int) ≤ (0 : Int)), ((8 : Int) ≠ 0), ((7 : Nat) < (8 : Nat)), (((0 : Int) ≤ (7 : Int)) ∧ ((7 : Int) < (8 : Int))), ((8 : Int) ≠ 0), (true = true), ((62 : Nat) < (64 : Nat)), (((0 : Int) ≤ (62 : Int)) ∧ ((62 : Int) < (64 : Int))), ((0 : Int) ≤ (8 : Int)), ((8 : Int) ≠ 0), ((7 : Nat) < (8 : Nat)), (((0 : Int) ≤ (7 : Int)) ∧ ((7 : Int) < (8 : Int))), ((8 : Int) ≠ 0), (true = true), ((61 : Nat) < (64 : Nat)), (((0 : Int) ≤ (61 : Int)) ∧ ((61 : Int) < (64 : Int))), ((0 : Int) ≤ (16 : Int)), ((8 : Int) ≠ 0), ((7 : Nat) < (8 : Nat)), (((0 : Int) ≤ (7 : Int)) ∧ ((7 : Int) < (8 : Int))), ((8 : Int) ≠ 0), (true = true), ((60 : Nat) < (64 : Nat)), (((0 : Int) ≤ (60 : Int)) ∧ ((60 : Int) < (64 : Int))), ((0 : Int) ≤ (24 : Int)), ((8 : Int) ≠ 0), ((7 : Nat) < (8 : Nat)), (((0 : Int) ≤ (7 : Int)) ∧ ((7 : Int) < (8 : Int))), ((8 : Int) ≠ 0), (true = true), ((59 : Nat) < (64 : Nat)), (((0 : Int) ≤ (59 : Int)) ∧ ((59 : Int) < (64 : Int))), ((0 : Int) ≤ (32 : Int)), ((8 : Int) ≠ 0), ((7 : Nat) < (8 : Nat)), (((0 : Int) ≤ (7 : Int)) ∧ ((7 : Int) < (8 : Int))), ((8 : Int) ≠ 0), (true = true), ((58 : Nat) < (64 : Nat)), (((0 : Int) ≤ (58 : Int)) ∧ ((58 : Int) < (64 : Int))), ((0 : Int) ≤ (40 : Int)), ((8 : Int) ≠ 0), ((7 : Nat) < (8 : Nat)), (((0 : Int) ≤ (7 : Int)) ∧ ((7 : Int) < (8 : Int))), ((8 : Int) ≠ 0), (true = true), ((57 : Nat) < (64 : Nat)), (((0 : Int) ≤ (57 : Int)) ∧ ((57 : Int) < (64 : Int))), ((0 : Int) ≤ (48 : Int)), ((8 : Int) ≠ 0), ((7 : Nat) < (8 : Nat)), (((0 : Int) ≤ (7 : Int)) ∧ ((7 : Int) < (8 : Int))), ((8 : Int) ≠ 0), (true = true), ((56 : Nat) < (64 : Nat)), (((0 : Int) ≤ (56 : Int)) ∧ ((56 : Int) < (64 : Int))), ((0 : Int) ≤ (56 : Int)), ((8 : Int) ≠ 0), ((7 : Nat) < (8 : Nat)), (((0 : Int) ≤ (7 : Int)) ∧ ((7 : Int) < (8 : Int))), ((8 : Int) ≠ 0), (true = true), ((55 : Nat) < (64 : Nat)), (((0 : Int) ≤ (55 : Int)) ∧ ((55 : Int) < (64 : Int))), ((0 : Int) ≤ (0 : Int)), ((8 : Int) ≠ 0), ((6 : Nat) < (8 : Nat)), (((0 : Int) ≤ (6 : Int)) ∧ ((6 : Int) < (8 : Int))), ((8 : Int) ≠ 0), (true = true), ((54 : Nat) < (64 : Nat)), (((0 : Int) ≤ (54 : Int)) ∧ ((54 : Int) < (64 : Int))), ((0 : Int) ≤ (8 : Int)), ((8 : Int) ≠ 0), ((6 : Nat) < (8 : Nat)), (((0 : Int) ≤ (6 : Int)) ∧ ((6 : Int) < (8 : Int))), ((8 : Int) ≠ 0), (true = true), ((53 : Nat) < (64 : Nat)), (((0 : Int) ≤ (53 : Int)) ∧ ((53 : Int) < (64 : Int))), ((0 : Int) ≤ (16 : Int)), ((8 : Int) ≠ 0), ((6 : Nat) < (8 : Nat)), (((0 : Int) ≤ (6 : Int)) ∧ ((6 : Int) < (8 : Int))), ((8 : Int) ≠ 0), (true = true), ((52 : Nat) < (64 : Nat)), (((0 : Int) ≤ (52 : Int)) ∧ ((52 : Int) < (64 : Int))), ((0 : Int) ≤ (24 : Int)), ((8 : Int) ≠ 0), ((6 : Nat) < (8 : Nat)), (((0 : Int) ≤ (6 : Int)) ∧ ((6 : Int) < (8 : Int))), ((8 : Int) ≠ 0), (true = true), ((51 : Nat) < (64 : Nat)), (((0 : Int) ≤ (51 : Int)) ∧ ((51 : Int) < (64 : Int))), ((0 : Int) ≤ (32 : Int)), ((8 : Int) ≠ 0), ((6 : Nat) < (8 : Nat)), (((0 : Int) ≤ (6 : Int)) ∧ ((6 : Int) < (8 : Int))), ((8 : Int) ≠ 0), (true = true), ((50 : Nat) < (64 : Nat)), (((0 : Int) ≤ (50 : Int)) ∧ ((50 : Int) < (64 : Int))), ((0 : Int) ≤ (40 : Int)), ((8 : Int) ≠ 0), ((6 : Nat) < (8 : Nat)), (((0 : Int) ≤ (6 : Int)) ∧ ((6 : Int) < (8 : Int))), ((8 : Int) ≠ 0), (true = true), ((49 : Nat) < (64 : Nat)), (((0 : Int) ≤ (49 : Int)) ∧ ((49 : Int) < (64 : Int))), ((0 : Int) ≤ (48 : Int)), ((8 : Int) ≠ 0), ((6 : Nat) < (8 : Nat)), (((0 : Int) ≤ (6 : Int)) ∧ ((6 : Int) < (8 : Int))), ((8 : Int) ≠ 0), (true = true), ((48 : Nat) < (64 : Nat)), (((0 : Int) ≤ (48 : Int)) ∧ ((48 : Int) < (64 : Int))), ((0 : Int) ≤ (56 : Int)), ((8 : Int) ≠ 0), ((6 : Nat) < (8 : Nat)), (((0 : Int) ≤ (6 : Int)) ∧ ((6 : Int) < (8 : Int))), ((8 : Int) ≠ 0), (true = true), ((47 : Nat) < (64 : Nat)), (((0 : Int) ≤ (47 : Int)) ∧ ((47 : Int) < (64 : Int))), ((0 : Int) ≤ (0 : Int)), ((8 : Int) ≠ 0), ((5 : Nat) < (8 : Nat)), (((0 : Int) ≤ (5 : Int)) ∧ ((5 : Int) < (8 : Int))), ((8 : Int) ≠ 0), (true = true), ((46 : Nat) < (64 : Nat)), (((0 : Int) ≤ (46 : Int)) ∧ ((46 : Int) < (64 : Int))), ((0 : Int) ≤ (8 : Int)), ((8 : Int) ≠ 0), ((5 : Nat) < (8 : Nat)), (((0 : Int) ≤ (5 : Int)) ∧ ((5 : Int) < (8 : Int))), ((8 : Int) ≠ 0), (true = true), ((45 : Nat) < (64 : Nat)), (((0 : Int) ≤ (45 : Int)) ∧ ((45 : Int) < (64 : Int))), ((0 : Int) ≤ (16 : Int)), ((8 : Int) ≠ 0), ((5 : Nat) < (8 : Nat)), (((0 : Int) ≤ (5 : Int)) ∧ ((5 : Int) < (8 : Int))), ((8 : Int) ≠ 0), (true = true), ((44 : Nat) < (64 : Nat)), (((0 : Int) ≤ (44 : Int)) ∧ ((44 : Int) < (64 : Int))), ((0 : Int) ≤ (24 : Int)), ((8 : Int) ≠ 0), ((5 : Nat) < (8 : Nat)), (((0 : Int) ≤ (5 : Int)) ∧ ((5 : Int) < (8 : Int))), ((8 : Int) ≠ 0), (true = true), ((43 : Nat) < (64 : Nat)), (((0 : Int) ≤ (43 : Int)) ∧ ((43 : Int) < (64 : Int))), ((0 : Int) ≤ (32 : Int)), ((8 : Int) ≠ 0), ((5 : Nat) < (8 : Nat)), (((0 : Int) ≤ (5 : Int)) ∧ ((5 : Int) < (8 : Int))), ((8 : Int) ≠ 0), (true = true), ((42 : Nat) < (64 : Nat)), (((0 : Int) ≤ (42 : Int)) ∧ ((42 : Int) < (64 : Int))), ((0 : Int) ≤ (40 : Int)), ((8 : Int) ≠ 0), ((5 : Nat) < (8 : Nat)), (((0 : Int) ≤ (5 : Int)) ∧ ((5 : Int) < (8 : Int))), ((8 : Int) ≠ 0), (true = true), ((41 : Nat) < (64 : Nat)), (((0 : Int) ≤ (41 : Int)) ∧ ((41 : Int) < (64 : Int))), ((0 : Int) ≤ (48 : Int)), ((8 : Int) ≠ 0), ((5 : Nat) < (8 : Nat)), (((0 : Int) ≤ (5 : Int)) ∧ ((5 : Int) < (8 : Int))), ((8 : Int) ≠ 0), (true = true), ((40 : Nat) < (64 : Nat)), (((0 : Int) ≤ (40 : Int)) ∧ ((40 : Int) < (64 : Int))), ((0 : Int) ≤ (56 : Int)), ((8 : Int) ≠ 0), ((5 : Nat) < (8 : Nat)), (((0 : Int) ≤ (5 : Int)) ∧ ((5 : Int) < (8 : Int))), ((8 : Int) ≠ 0), (true = true), ((39 : Nat) < (64 : Nat)), (((0 : Int) ≤ (39 : Int)) ∧ ((39 : Int) < (64 : Int))), ((0 : Int) ≤ (0 : Int)), ((8 : Int) ≠ 0), ((4 : Nat) < (8 : Nat)), (((0 : Int) ≤ (4 : Int)) ∧ ((4 : Int) < (8 : Int))), ((8 : Int) ≠ 0), (true = true), ((38 : Nat) < (64 : Nat)), (((0 : Int) ≤ (38 : Int)) ∧ ((38 : Int) < (64 : Int))), ((0 : Int) ≤ (8 : Int)), ((8 : Int) ≠ 0), ((4 : Nat) < (8 : Nat)), (((0 : Int) ≤ (4 : Int)) ∧ ((4 : Int) < (8 : Int))), ((8 : Int) ≠ 0), (true = true), ((37 : Nat) < (64 : Nat)), (((0 : Int) ≤ (37 : Int)) ∧ ((37 : Int) < (64 : Int))), ((0 : Int) ≤ (16 : Int)), ((8 : Int) ≠ 0), ((4 : Nat) < (8 : Nat)), (((0 : Int) ≤ (4 : Int)) ∧ ((4 : Int) < (8 : Int))), ((8 : Int) ≠ 0), (true = true), ((36 : Nat) < (64 : Nat)), (((0 : Int) ≤ (36 : Int)) ∧ ((36 : Int) < (64 : Int))), ((0 : Int) ≤ (24 : Int)), ((8 : Int) ≠ 0), ((4 : Nat) < (8 : Nat)), (((0 : Int) ≤ (4 : Int)) ∧ ((4 : Int) < (8 : Int))), ((8 : Int) ≠ 0), (true = true), ((35 : Nat) < (64 : Nat)), (((0 : Int) ≤ (35 : Int)) ∧ ((35 : Int) < (64 : Int))), ((0 : Int) ≤ (32 : Int)), ((8 : Int) ≠ 0), ((4 : Nat) < (8 : Nat)), (((0 : Int) ≤ (4 : Int)) ∧ ((4 : Int) < (8 : Int))), ((8 : Int) ≠ 0), (true = true), ((34 : Nat) < (64 : Nat)), (((0 : Int) ≤ (34 : Int)) ∧ ((34 : Int) < (64 : Int))), ((0 : Int) ≤ (40 : Int)), ((8 : Int) ≠ 0), ((4 : Nat) < (8 : Nat)), (((0 : Int) ≤ (4 : Int)) ∧ ((4 : Int) < (8 : Int))), ((8 : Int) ≠ 0), (true = true), ((33 : Nat) < (64 : Nat)), (((0 : Int) ≤ (33 : Int)) ∧ ((33 : Int) < (64 : Int))), ((0 : Int) ≤ (48 : Int)), ((8 : Int) ≠ 0), ((4 : Nat) < (8 : Nat)), (((0 : Int) ≤ (4 : Int)) ∧ ((4 : Int) < (8 : Int))), ((8 : Int) ≠ 0), (true = true), ((32 : Nat) < (64 : Nat)), (((0 : Int) ≤ (32 : Int)) ∧ ((32 : Int) < (64 : Int))), ((0 : Int) ≤ (56 : Int)), ((8 : Int) ≠ 0), ((4 : Nat) < (8 : Nat)), (((0 : Int) ≤ (4 : Int)) ∧ ((4 : Int) < (8 : Int))), ((8 : Int) ≠ 0), (true = true), ((31 : Nat) < (64 : Nat)), (((0 : Int) ≤ (31 : Int)) ∧ ((31 : Int) < (64 : Int))), ((0 : Int) ≤ (0 : Int)), ((8 : Int) ≠ 0), ((3 : Nat) < (8 : Nat)), (((0 : Int) ≤ (3 : Int)) ∧ ((3 : Int) < (8 : Int))), ((8 : Int) ≠ 0), (true = true), ((30 : Nat) < (64 : Nat)), (((0 : Int) ≤ (30 : Int)) ∧ ((30 : Int) < (64 : Int))), ((0 : Int) ≤ (8 : Int)), ((8 : Int) ≠ 0), ((3 : Nat) < (8 : Nat)), (((0 : Int) ≤ (3 : Int)) ∧ ((3 : Int) < (8 : Int))), ((8 : Int) ≠ 0), (true = true), ((29 : Nat) < (64 : Nat)), (((0 : Int) ≤ (29 : Int)) ∧ ((29 : Int) < (64 : Int))), ((0 : Int) ≤ (16 : Int)), ((8 : Int) ≠ 0), ((3 : Nat) < (8 : Nat)), (((0 : Int) ≤ (3 : Int)) ∧ ((3 : Int) < (8 : Int))), ((8 : Int) ≠ 0), (true = true), ((28 : Nat) < (64 : Nat)), (((0 : Int) ≤ (28 : Int)) ∧ ((28 : Int) < (64 : Int))), ((0 : Int) ≤ (24 : Int)), ((8 : Int) ≠ 0), ((3 : Nat) < (8 : Nat)), (((0 : Int) ≤ (3 : Int)) ∧ ((3 : Int) < (8 : Int))), ((8 : Int) ≠ 0), (true = true), ((27 : Nat) < (64 : Nat)), (((0 : Int) ≤ (27 : Int)) ∧ ((27 : Int) < (64 : Int))), ((0 : Int) ≤ (32 : Int)), ((8 : Int) ≠ 0), ((3 : Nat) < (8 : Nat)), (((0 : Int) ≤ (3 : Int)) ∧ ((3 : Int) < (8 : Int))), ((8 : Int) ≠ 0), (true = true), ((26 : Nat) < (64 : Nat)), (((0 : Int) ≤ (26 : Int)) ∧ ((26 : Int) < (64 : Int))), ((0 : Int) ≤ (40 : Int)), ((8 : Int) ≠ 0), ((3 : Nat) < (8 : Nat)), (((0 : Int) ≤ (3 : Int)) ∧ ((3 : Int) < (8 : Int))), ((8 : Int) ≠ 0), (true = true), ((25 : Nat) < (64 : Nat)), (((0 : Int) ≤ (25 : Int)) ∧ ((25 : Int) < (64 : Int))), ((0 : Int) ≤ (48 : Int)), ((8 : Int) ≠ 0), ((3 : Nat) < (8 : Nat)), (((0 : Int) ≤ (3 : Int)) ∧ ((3 : Int) < (8 : Int))), ((8 : Int) ≠ 0), (true = true), ((24 : Nat) < (64 : Nat)), (((0 : Int) ≤ (24 : Int)) ∧ ((24 : Int) < (64 : Int))), ((0 : Int) ≤ (56 : Int)), ((8 : Int) ≠ 0), ((3 : Nat) < (8 : Nat)), (((0 : Int) ≤ (3 : Int)) ∧ ((3 : Int) < (8 : Int))), ((8 : Int) ≠ 0), (true = true), ((23 : Nat) < (64 : Nat)), (((0 : Int) ≤ (23 : Int)) ∧ ((23 : Int) < (64 : Int))), ((0 : Int) ≤ (0 : Int)), ((8 : Int) ≠ 0), ((2 : Nat) < (8 : Nat)), (((0 : Int) ≤ (2 : Int)) ∧ ((2 : Int) < (8 : Int))), ((8 : Int) ≠ 0), (true = true), ((22 : Nat) < (64 : Nat)), (((0 : Int) ≤ (22 : Int)) ∧ ((22 : Int) < (64 : Int))), ((0 : Int) ≤ (8 : Int)), ((8 : Int) ≠ 0), ((2 : Nat) < (8 : Nat)), (((0 : Int) ≤ (2 : Int)) ∧ ((2 : Int) < (8 : Int))), ((8 : Int) ≠ 0), (true = true), ((21 : Nat) < (64 : Nat)), (((0 : Int) ≤ (21 : Int)) ∧ ((21 : Int) < (64 : Int))), ((0 : Int) ≤ (16 : Int)), ((8 : Int) ≠ 0), ((2 : Nat) < (8 : Nat)), (((0 : Int) ≤ (2 : Int)) ∧ ((2 : Int) < (8 : Int))), ((8 : Int) ≠ 0), (true = true), ((20 : Nat) < (64 : Nat)), (((0 : Int) ≤ (20 : Int)) ∧ ((20 : Int) < (64 : Int))), ((0 : Int) ≤ (24 : Int)), ((8 : Int) ≠ 0), ((2 : Nat) < (8 : Nat)), (((0 : Int) ≤ (2 : Int)) ∧ ((2 : Int) < (8 : Int))), ((8 : Int) ≠ 0), (true = true), ((19 : Nat) < (64 : Nat)), (((0 : Int) ≤ (19 : Int)) ∧ ((19 : Int) < (64 : Int))), ((0 : Int) ≤ (32 : Int)), ((8 : Int) ≠ 0), ((2 : Nat) < (8 : Nat)), (((0 : Int) ≤ (2 : Int)) ∧ ((2 : Int) < (8 : Int))), ((8 : Int) ≠ 0), (true = true), ((18 : Nat) < (64 : Nat)), (((0 : Int) ≤ (18 : Int)) ∧ ((18 : Int) < (64 : Int))), ((0 : Int) ≤ (40 : Int)), ((8 : Int) ≠ 0), ((2 : Nat) < (8 : Nat)), (((0 : Int) ≤ (2 : Int)) ∧ ((2 : Int) < (8 : Int))), ((8 : Int) ≠ 0), (true = true), ((17 : Nat) < (64 : Nat)), (((0 : Int) ≤ (17 : Int)) ∧ ((17 : Int) < (64 : Int))), ((0 : Int) ≤ (48 : Int)), ((8 : Int) ≠ 0), ((2 : Nat) < (8 : Nat)), (((0 : Int) ≤ (2 : Int)) ∧ ((2 : Int) < (8 : Int))), ((8 : Int) ≠ 0), (true = true), ((16 : Nat) < (64 : Nat)), (((0 : Int) ≤ (16 : Int)) ∧ ((16 : Int) < (64 : Int))), ((0 : Int) ≤ (56 : Int)), ((8 : Int) ≠ 0), ((2 : Nat) < (8 : Nat)), (((0 : Int) ≤ (2 : Int)) ∧ ((2 : Int) < (8 : Int))), ((8 : Int) ≠ 0), (true = true), ((15 : Nat) < (64 : Nat)), (((0 : Int) ≤ (15 : Int)) ∧ ((15 : Int) < (64 : Int))), ((0 : Int) ≤ (0 : Int)), ((8 : Int) ≠ 0), ((1 : Nat) < (8 : Nat)), (((0 : Int) ≤ (1 : Int)) ∧ ((1 : Int) < (8 : Int))), ((8 : Int) ≠ 0), (true = true), ((14 : Nat) < (64 : Nat)), (((0 : Int) ≤ (14 : Int)) ∧ ((14 : Int) < (64 : Int))), ((0 : Int) ≤ (8 : Int)), ((8 : Int) ≠ 0), ((1 : Nat) < (8 : Nat)), (((0 : Int) ≤ (1 : Int)) ∧ ((1 : Int) < (8 : Int))), ((8 : Int) ≠ 0), (true = true), ((13 : Nat) < (64 : Nat)), (((0 : Int) ≤ (13 : Int)) ∧ ((13 : Int) < (64 : Int))), ((0 : Int) ≤ (16 : Int)), ((8 : Int) ≠ 0), ((1 : Nat) < (8 : Nat)), (((0 : Int) ≤ (1 : Int)) ∧ ((1 : Int) < (8 : Int))), ((8 : Int) ≠ 0), (true = true), ((12 : Nat) < (64 : Nat)), (((0 : Int) ≤ (12 : Int)) ∧ ((12 : Int) < (64 : Int))), ((0 : Int) ≤ (24 : Int)), ((8 : Int) ≠ 0), ((1 : Nat) < (8 : Nat)), (((0 : Int) ≤ (1 : Int)) ∧ ((1 : Int) < (8 : Int))), ((8 : Int) ≠ 0), (true = true), ((11 : Nat) < (64 : Nat)), (((0 : Int) ≤ (11 : Int)) ∧ ((11 : Int) < (64 : Int))), ((0 : Int) ≤ (32 : Int)), ((8 : Int) ≠ 0), ((1 : Nat) < (8 : Nat)), (((0 : Int) ≤ (1 : Int)) ∧ ((1 : Int) < (8 : Int))), ((8 : Int) ≠ 0), (true = true), ((10 : Nat) < (64 : Nat)), (((0 : Int) ≤ (10 : Int)) ∧ ((10 : Int) < (64 : Int))), ((0 : Int) ≤ (40 : Int)), ((8 : Int) ≠ 0), ((1 : Nat) < (8 : Nat)), (((0 : Int) ≤ (1 : Int)) ∧ ((1 : Int) < (8 : Int))), ((8 : Int) ≠ 0), (true = true), ((9 : Nat) < (64 : Nat)), (((0 : Int) ≤ (9 : Int)) ∧ ((9 : Int) < (64 : Int))), ((0 : Int) ≤ (48 : Int)), ((8 : Int) ≠ 0), ((1 : Nat) < (8 : Nat)), (((0 : Int) ≤ (1 : Int)) ∧ ((1 : Int) < (8 : Int))), ((8 : Int) ≠ 0), (true = true), ((8 : Nat) < (64 : Nat)), (((0 : Int) ≤ (8 : Int)) ∧ ((8 : Int) < (64 : Int))), ((0 : Int) ≤ (56 : Int)), ((8 : Int) ≠ 0), ((1 : Nat) < (8 : Nat)), (((0 : Int) ≤ (1 : Int)) ∧ ((1 : Int) < (8 : Int))), ((8 : Int) ≠ 0), (true = true), ((7 : Nat) < (64 : Nat)), (((0 : Int) ≤ (7 : Int)) ∧ ((7 : Int) < (64 : Int))), ((0 : Int) ≤ (0 : Int)), ((8 : Int) ≠ 0), ((0 : Nat) < (8 : Nat)), (((0 : Int) ≤ (0 : Int)) ∧ ((0 : Int) < (8 : Int))), ((8 : Int) ≠ 0), (true = true), ((6 : Nat) < (64 : Nat)), (((0 : Int) ≤ (6 : Int)) ∧ ((6 : Int) < (64 : Int))), ((0 : Int) ≤ (8 : Int)), ((8 : Int) ≠ 0), ((0 : Nat) < (8 : Nat)), (((0 : Int) ≤ (0 : Int)) ∧ ((0 : Int) < (8 : Int))), ((8 : Int) ≠ 0), (true = true), ((5 : Nat) < (64 : Nat)), (((0 : Int) ≤ (5 : Int)) ∧ ((5 : Int) < (64 : Int))), ((0 : Int) ≤ (16 : Int)), ((8 : Int) ≠ 0), ((0 : Nat) < (8 : Nat)), (((0 : Int) ≤ (0 : Int)) ∧ ((0 : Int) < (8 : Int))), ((8 : Int) ≠ 0), (true = true), ((4 : Nat) < (64 : Nat)), (((0 : Int) ≤ (4 : Int)) ∧ ((4 : Int) < (64 : Int))), ((0 : Int) ≤ (24 : Int)), ((8 : Int) ≠ 0), ((0 : Nat) < (8 : Nat)), (((0 : Int) ≤ (0 : Int)) ∧ ((0 : Int) < (8 : Int))), ((8 : Int) ≠ 0), (true = true), ((3 : Nat) < (64 : Nat)), (((0 : Int) ≤ (3 : Int)) ∧ ((3 : Int) < (64 : Int))), ((0 : Int) ≤ (32 : Int)), ((8 : Int) ≠ 0), ((0 : Nat) < (8 : Nat)), (((0 : Int) ≤ (0 : Int)) ∧ ((0 : Int) < (8 : Int))), ((8 : Int) ≠ 0), (true = true), ((2 : Nat) < (64 : Nat)), (((0 : Int) ≤ (2 : Int)) ∧ ((2 : Int) < (64 : Int))), ((0 : Int) ≤ (40 : Int)), ((8 : Int) ≠ 0), ((0 : Nat) < (8 : Nat)), (((0 : Int) ≤ (0 : Int)) ∧ ((0 : Int) < (8 : Int))), ((8 : Int) ≠ 0), (true = true), ((1 : Nat) < (64 : Nat)), (((0 : Int) ≤ (1 : Int)) ∧ ((1 : Int) < (64 : Int))), ((0 : Int) ≤ (48 : Int)), ((8 : Int) ≠ 0), ((0 : Nat) < (8 : Nat)), (((0 : Int) ≤ (0 : Int)) ∧ ((0 : Int) < (8 : Int))), ((8 : Int) ≠ 0), (true = true), ((0 : Nat) < (64 : Nat)), (((0 : Int) ≤ (0 : Int)) ∧ ((0 : Int) < (64 : Int))), ((0 : Int) ≤ (56 : Int)), ((8 : Int) ≠ 0), ((0 : Nat) < (8 : Nat)), (((0 : Int) ≤ (0 : Int)) ∧ ((0 : Int) < (8 : Int))), ((8 : Int) ≠ 0), (true = true), (Run Try.prog ⟨w, [], 1, β⟩ (.block 0 (.loop (loopB Try.f34 0))) (finL_mk S n nm b N cap0 0 (S)) (To ⟨w, [], 1, β⟩ .normal (finL_mk S n nm b N cap0 ((n + (padR N)) / (128 : Nat)) (iter (finL_step n b N) ((n + (padR N)) / (128 : Nat)) (S))))), ((((0 : Nat) + n) ≤ n) ∧ (((padR N) ≤ (padR N)) ∧ (((0 : Nat) + (padR N)) ≤ (padR N))) ∧ (((n + (padR N)) * (1 : Nat)) ≤ (140737488355328 : Nat))), (((n ≤ n) ∧ (((0 : Nat) + n) ≤ nm)) ∧ ((n * (1 : Nat)) ≤ (140737488355328 : Nat))), ((True ∧ True) ∧ (((0 : Int) ≤ N) ∧ (N < (2305843009213693952 : Int))))]) (by kernel_rfl)
    (aC rfl (aC (by decide) (aC ⟨(by decide), (by decide)⟩ (aC (by decide) (aC (by decide) (aC (by decide) (aC ⟨(by decide), (by decide)⟩ (aC (by decide) (aC rfl (aC (by decide) (aC ⟨(by decide), (by decide)⟩ (aC (by decide) (aC (by decide) (aC (by decide) (aC ⟨(by decide), (by decide)⟩ (aC (by decide) (aC rfl (aC (by decide) (aC ⟨(by decide), (by decide)⟩ (aC (by decide) (aC (by decide) (aC (by decide) (aC ⟨(by decide), (by decide)⟩ (aC (by decide) (aC rfl (aC (by decide) (aC ⟨(by decide), (by decide)⟩ (aC (by decide) (aC (by decide) (aC (by decide) (aC ⟨(by decide), (by decide)⟩ (aC (by decide) (aC rfl (aC (by decide) (aC ⟨(by decide), (by decide)⟩ (aC (by decide) (aC (by decide) (aC (by decide) (aC ⟨(by decide), (by decide)⟩ (aC (by decide) (aC rfl (aC (by decide) (aC ⟨(by decide), (by decide)⟩ (aC (by decide) (aC (by decide) (aC (by decide) (aC ⟨(by decide), (by decide)⟩ (aC (by decide) (aC rfl (aC (by decide) (aC ⟨(by decide), (by decide)⟩ (aC (by decide) (aC (by decide) (aC (by decide) (aC ⟨(by decide), (by decide)⟩ (aC (by decide) (aC rfl (aC (by decide) (aC ⟨(by decide), (by decide)⟩ (aC (by decide) (aC (by decide) (aC (by decide) (aC ⟨(by decide), (by decide)⟩ (aC (by decide) (aC rfl (aC (by decide) (aC ⟨(by decide), (by decide)⟩ (aC (by decide) (aC (by decide) (aC (by decide) (aC ⟨(by decide), (by decide)⟩ (aC (by decide) (aC rfl (aC (by decide) (aC ⟨(by decide), (by decide)⟩ (aC (by decide) (aC (by decide) (aC (by decide) (aC ⟨(by decide), (by decide)⟩ (aC (by decide) (aC rfl (aC (by decide) (aC ⟨(by decide), (by decide)⟩ (aC (by decide) (aC (by decide) (aC (by decide) (aC ⟨(by decide), (by decide)⟩ (aC (by decide) (aC rfl (aC (by decide) (aC ⟨(by decide), (by decide)⟩ (aC (by decide) (aC (by decide) (aC (by decide) (aC ⟨(by decide), (by decide)⟩ (aC (by decide) (aC rfl (aC (by decide) (aC ⟨(by decide), (by decide)⟩ (aC (by decide) (aC (by decide) (aC (by decide) (aC ⟨(by decide), (by decide)⟩ (aC (by decide) (aC rfl (aC (by decide) (aC ⟨(by decide), (by decide)⟩ (aC (by decide) (aC (by decide) (aC (by decide) (aC ⟨(by decide), (by decide)⟩ (aC (by decide) (aC rfl (aC (by decide) (aC ⟨(by decide), (by decide)⟩ (aC (by decide) (aC (by decide) (aC (by decide) (aC ⟨(by decide), (by decide)⟩ (aC (by decide) (aC rfl (aC (by decide) (aC ⟨(by decide), (by decide)⟩ (aC (by decide) (aC (by decide) (aC (by decide) (aC ⟨(by decide), (by decide)⟩ (aC (by decide) (aC rfl (aC (by decide) (aC ⟨(by decide), (by decide)⟩ (aC (by decide) (aC (by decide) (aC (by decide) (aC ⟨(by decide), (by decide)⟩ (aC (by decide) (aC rfl (aC (by decide) (aC ⟨(by decide), (by decide)⟩ (aC (by decide) (aC (by decide) (aC (by decide) (aC ⟨(by decide), (by decide)⟩ (aC (by decide) (aC rfl (aC (by decide) (aC ⟨(by decide), (by decide)⟩ (aC (by decide) (aC (by decide) (aC (by decide) (aC ⟨(by decide), (by decide)⟩ (aC (by decide) (aC rfl (aC (by decide) (aC ⟨(by decide), (by decide)⟩ (aC (by decide) (aC (by decide) (aC (by decide) (aC ⟨(by decide), (by decide)⟩ (aC (by decide) (aC rfl (aC (by decide) (aC ⟨(by decide), (by decide)⟩ (aC (by decide) (aC (by decide) (aC (by decide) (aC ⟨(by decide), (by decide)⟩ (aC (by decide) (aC rfl (aC (by decide) (aC ⟨(by decide), (by decide)⟩ (aC (by decide) (aC (by decide) (aC (by decide) (aC ⟨(by decide), (by decide)⟩ (aC (by decide) (aC rfl (aC (by decide) (aC ⟨(by decide), (by decide)⟩ (aC (by decide) (aC (by decide) (aC (by decide) (aC ⟨(by decide), (by decide)⟩ (aC (by decide) (aC rfl (aC (by decide) (aC ⟨(by decide), (by decide)⟩ (aC (by decide) (aC (by decide) (aC (by decide) (aC ⟨(by decide), (by decide)⟩ (aC (by decide) (aC rfl (aC (by decide) (aC ⟨(by decide), (by decide)⟩ (aC (by decide) (aC (by decide) (aC (by decide) (aC ⟨(by decide), (by decide)⟩ (aC (by decide) (aC rfl (aC (by decide) (aC ⟨(by decide), (by decide)⟩ (aC (by decide) (aC (by decide) (aC (by decide) (aC ⟨(by decide), (by decide)⟩ (aC (by decide) (aC rfl (aC (by decide) (aC ⟨(by decide), (by decide)⟩ (aC (by decide) (aC (by decide) (aC (by decide) (aC ⟨(by decide), (by decide)⟩ (aC (by decide) (aC rfl (aC (by decide) (aC ⟨(by decide), (by decide)⟩ (aC (by decide) (aC (by decide) (aC (by decide) (aC ⟨(by decide), (by decide)⟩ (aC (by decide) (aC rfl (aC (by decide) (aC ⟨(by decide), (by decide)⟩ (aC (by decide) (aC (by decide) (aC (by decide) (aC ⟨(by decide), (by decide)⟩ (aC (by decide) (aC rfl (aC (by decide) (aC ⟨(by decide), (by decide)⟩ (aC (by decide) (aC (by decide) (aC (by decide) (aC ⟨(by decide), (by decide)⟩ (aC (by decide) (aC rfl (aC (by decide) (aC ⟨(by decide), (by decide)⟩ (aC (by decide) (aC (by decide) (aC (by decide) (aC ⟨(by decide), (by decide)⟩ (aC (by decide) (aC rfl (aC (by decide) (aC ⟨(by decide), (by decide)⟩ (aC (by decide) (aC (by decide) (aC (by decide) (aC ⟨(by decide), (by decide)⟩ (aC (by decide) (aC rfl (aC (by decide) (aC ⟨(by decide), (by decide)⟩ (aC (by decide) (aC (by decide) (aC (by decide) (aC ⟨(by decide), (by decide)⟩ (aC (by decide) (aC rfl (aC (by decide) (aC ⟨(by decide), (by decide)⟩ (aC (by decide) (aC (by decide) (aC (by decide) (aC ⟨(by decide), (by decide)⟩ (aC (by decide) (aC rfl (aC (by decide) (aC ⟨(by decide), (by decide)⟩ (aC (by decide) (aC (by decide) (aC (by decide) (aC ⟨(by decide), (by decide)⟩ (aC (by decide) (aC rfl (aC (by decide) (aC ⟨(by decide), (by decide)⟩ (aC (by decide) (aC (by decide) (aC (by decide) (aC ⟨(by decide), (by decide)⟩ (aC (by decide) (aC rfl (aC (by decide) (aC ⟨(by decide), (by decide)⟩ (aC (by decide) (aC (by decide) (aC (by decide) (aC ⟨(by decide), (by decide)⟩ (aC (by decide) (aC rfl (aC (by decide) (aC ⟨(by decide), (by decide)⟩ (aC (by decide) (aC (by decide) (aC (by decide) (aC ⟨(by decide), (by decide)⟩ (aC (by decide) (aC rfl (aC (by decide) (aC ⟨(by decide), (by decide)⟩ (aC (by decide) (aC (by decide) (aC (by decide) (aC ⟨(by decide), (by decide)⟩ (aC (by decide) (aC rfl (aC (by decide) (aC ⟨(by decide), (by decide)⟩ (aC (by decide) (aC (by decide) (aC (by decide) (aC ⟨(by decide), (by decide)⟩ (aC (by decide) (aC rfl (aC (by decide) (aC ⟨(by decide), (by decide)⟩ (aC (by decide) (aC (by decide) (aC (by decide) (aC ⟨(by decide), (by decide)⟩ (aC (by decide) (aC rfl (aC (by decide) (aC ⟨(by decide), (by decide)⟩ (aC (by decide) (aC (by decide) (aC (by decide) (aC ⟨(by decide), (by decide)⟩ (aC (by decide) (aC rfl (aC (by decide) (aC ⟨(by decide), (by decide)⟩ (aC (by decide) (aC (by decide) (aC (by decide) (aC ⟨(by decide), (by decide)⟩ (aC (by decide) (aC rfl (aC (by decide) (aC ⟨(by decide), (by decide)⟩ (aC (by decide) (aC (by decide) (aC (by decide) (aC ⟨(by decide), (by decide)⟩ (aC (by decide) (aC rfl (aC (by decide) (aC ⟨(by decide), (by decide)⟩ (aC (by decide) (aC (by decide) (aC (by decide) (aC ⟨(by decide), (by decide)⟩ (aC (by decide) (aC rfl (aC (by decide) (aC ⟨(by decide), (by decide)⟩ (aC (by decide) (aC (by decide) (aC (by decide) (aC ⟨(by decide), (by decide)⟩ (aC (by decide) (aC rfl (aC (by decide) (aC ⟨(by decide), (by decide)⟩ (aC (by decide) (aC (by decide) (aC (by decide) (aC ⟨(by decide), (by decide)⟩ (aC (by decide) (aC rfl (aC (by decide) (aC ⟨(by decide), (by decide)⟩ (aC (by decide) (aC (by decide) (aC (by decide) (aC ⟨(by decide), (by decide)⟩ (aC (by decide) (aC rfl (aC (by decide) (aC ⟨(by decide), (by decide)⟩ (aC (by decide) (aC (by decide) (aC (by decide) (aC ⟨(by decide), (by decide)⟩ (aC (by decide) (aC rfl (aC (by decide) (aC ⟨(by decide), (by decide)⟩ (aC (by decide) (aC (by decide) (aC (by decide) (aC ⟨(by decide), (by decide)⟩ (aC (by decide) (aC rfl (aC (by decide) (aC ⟨(by decide), (by decide)⟩ (aC (by decide) (aC (by decide) (aC (by decide) (aC ⟨(by decide), (by decide)⟩ (aC (by decide) (aC rfl (aC (by decide) (aC ⟨(by decide), (by decide)⟩ (aC (by decide) (aC (by decide) (aC (by decide) (aC ⟨(by decide), (by decide)⟩ (aC (by decide) (aC rfl (aC (by decide) (aC ⟨(by decide), (by decide)⟩ (aC (by decide) (aC (by decide) (aC (by decide) (aC ⟨(by decide), (by decide)⟩ (aC (by decide) (aC rfl (aC (by decide) (aC ⟨(by decide), (by decide)⟩ (aC (by decide) (aC (by decide) (aC (by decide) (aC ⟨(by decide), (by decide)⟩ (aC (by decide) (aC rfl (aC (by decide) (aC ⟨(by decide), (by decide)⟩ (aC (by decide) (aC (by decide) (aC (by decide) (aC ⟨(by decide), (by decide)⟩ (aC (by decide) (aC rfl (aC (by decide) (aC ⟨(by decide), (by decide)⟩ (aC (by decide) (aC (by decide) (aC (by decide) (aC ⟨(by decide), (by decide)⟩ (aC (by decide) (aC rfl (aC (by decide) (aC ⟨(by decide), (by decide)⟩ (aC (by decide) (aC (by decide) (aC (by decide) (aC ⟨(by decide), (by decide)⟩ (aC (by decide) (aC rfl (aC (by decide) (aC ⟨(by decide), (by decide)⟩ (aC (by decide) (aC (by decide) (aC (by decide) (aC ⟨(by decide), (by decide)⟩ (aC (by decide) (aC rfl (aC (by decide) (aC ⟨(by decide), (by decide)⟩ (aC (by decide) (aC (by decide) (aC (by decide) (aC ⟨(by decide), (by decide)⟩ (aC (by decide) (aC rfl (aC (by decide) (aC ⟨(by decide), (by decide)⟩ (aC (by decide) (aC (by decide) (aC (by decide) (aC ⟨(by decide), (by decide)⟩ (aC (by decide) (aC rfl (aC (by decide) (aC ⟨(by decide), (by decide)⟩ (aC (by decide) (aC (by decide) (aC (by decide) (aC ⟨(by decide), (by decide)⟩ (aC (by decide) (aC rfl (aC (by decide) (aC ⟨(by decide), (by decide)⟩ (aC (by decide) (aC (by decide) (aC (by decide) (aC ⟨(by decide), (by decide)⟩ (aC (by decide) (aC rfl (aC (by decide) (aC ⟨(by decide), (by decide)⟩ (aC (by decide) (aC (by decide) (aC (by decide) (aC ⟨(by decide), (by decide)⟩ (aC (by decide) (aC rfl (aC (by decide) (aC ⟨(by decide), (by decide)⟩ (aC (by decide) (aC (by decide) (aC (by decide) (aC ⟨(by decide), (by decide)⟩ (aC (by decide) (aC rfl (aC (finL_loop S n nm b N cap0 h0 h1 h2 h3 hc0 hl0_0 hv0 w β (S)) (aC ⟨(by have hq2 := padR_len N; have hp1 := pad_le N; first | omega | (simp (disch := omega) only [wrapI]; omega)), ⟨(by have hq2 := padR_len N; have hp1 := pad_le N; first | omega | (simp (disch := omega) only [wrapI]; omega)), (by have hq2 := padR_len N; have hp1 := pad_le N; first | omega | (simp (disch := omega) only [wrapI]; omega))⟩, (by have hq2 := padR_len N; have hp1 := pad_le N; first | omega | (simp (disch := omega) only [wrapI]; omega))⟩ (aC ⟨⟨(by have hq2 := padR_len N; have hp1 := pad_le N; first | omega | (simp (disch := omega) only [wrapI]; omega)), (by have hq2 := padR_len N; have hp1 := pad_le N; first | omega | (simp (disch := omega) only [wrapI]; omega))⟩, (by have hq2 := padR_len N; have hp1 := pad_le N; first | omega | (simp (disch := omega) only [wrapI]; omega))⟩ (aC ⟨⟨trivial, trivial⟩, ⟨h1, h2⟩⟩ (AllP_nil))))))))))))))))))))))))))))))))))))))))))))))))))))))))))))))))))))))))))))))))))))))))))))))))))))))))))))))))))))))))))))))))))))))))))))))))))))))))))))))))))))))))))))))))))))))))))))))))))))))))))))))))))))))))))))))))))))))))))))))))))))))))))))))))))))))))))))))))))))))))))))))))))))))))))))))))))))))))))))))))))))))))))))))))))))))))))))))))))))))))))))))))))))))))))))))))))))))))))))))))))))))))))))))))))))))))))))))))))))))))))))))))))))))))))))))))))))))))))))))))))))))))))))))))))))))))))))))))))))))

theorem finR_body (S : List Int) (n nm : Nat) (b : List Int) (N : Int) (cap0 : Nat) (h0 : (nm = n)) (h1 : ((0 : Int) ≤ N)) (h2 : (N < (2305843009213693952 : Int))) (h3 : (n < (70368744177664 : Nat))) (w : World) (β : Env) : Body Try.prog (tabOf tabTE) Try.f34 ⟨w, [], 1, β⟩ [.o (.g [.ints .u64 (8 : Nat) S]), .o (.a (.sl 0 0 n cap0)), .o (.a (.i .u64 N))] [some ⟨false, [.ints .u8 nm b]⟩] (fun ys _ => ys = [.g [.ints .u8 (64 : Nat) (finR S n b N)]]) :=
  Body.lens (c := (Try.f34.body.getD .skip)) rfl fun h => finR_body0 S n nm b N cap0 h0 h1 h2 h3 (h.caps 1 _ _ _ _ rfl) (h.lens 0 _ .u8 nm b rfl (by simp)) (h.vals 0 _ _ _ rfl) w β

def gam305 : Gam := greadV 34 [.v, .s 1, .v] (fun vs args => match vs, args with | [⟨_, _, _, [.ints .u8 nm b]⟩], [.o (.g [.ints .u64 (8 : Nat) S]), a0, .o (.a (.i .u64 N))] => some ((nm = (lenOfA a0)) ∧ ((0 : Int) ≤ N) ∧ (N < (2305843009213693952 : Int)) ∧ ((lenOfA a0) < (70368744177664 : Nat)), [.g [.ints .u8 (64 : Nat) (finR S (lenOfA a0) b N)]]) | _, _ => none) gam304
theorem gam305_ok : GamOk Try.prog gam305 := greadV_ok tabOkTE Try.func34 gam304_ok Try.call34 (by
  intro vs args p xs h hv
  split at h
  · simp only [Option.some.injEq, Prod.mk.injEq] at h; obtain ⟨rfl, rfl⟩ := h; exact ⟨by rfl, fun caps w β => finR_body _ _ _ _ _ _ hv.1 hv.2.1 hv.2.2.1 hv.2.2.2 w β⟩
  · simp at h)

end Go.Proofs.Ytepimglipelpmaa.X

/- Printed by a tool of this session. -/
namespace Go.Proofs.Ytepimglipelpmaa.X
open Go Go.Proofs
set_option linter.unusedVariables false
set_option linter.unusedSimpArgs false
set_option maxRecDepth 100000
theorem teKD_3 : TEOk Try.prog 3 ⟨.int .i64, 1, 8, [.i .i64 (0 : Int)], false⟩ :=
  TEOk.of Try.underlying3 (i := Try.t3) (by kernel_rfl) rfl rfl rfl (by kernel_rfl) (fun h => by cases h) (by kernel_rfl)
theorem teKD_5 : TEOk Try.prog 5 ⟨.int .u8, 1, 1, [.i .u8 (0 : Int)], false⟩ :=
  TEOk.of Try.underlying5 (i := Try.t5) (by kernel_rfl) rfl rfl rfl (by kernel_rfl) (fun h => by cases h) (by kernel_rfl)
theorem teKD_22 : TEOk Try.prog 22 ⟨.slice 5, 1, 24, [.raw (.slice none 0 0)], false⟩ :=
  TEOk.of Try.underlying22 (i := Try.t22) (by kernel_rfl) rfl rfl rfl (by kernel_rfl) (fun h => by cases h) (by kernel_rfl)
theorem teKD_42 : TEOk Try.prog 42 ⟨.array 64 5, 64, 64, [.ints .u8 (64 : Nat) ([0, 0, 0, 0, 0, 0, 0, 0, 0, 0, 0, 0, 0, 0, 0, 0, 0, 0, 0, 0, 0, 0, 0, 0, 0, 0, 0, 0, 0, 0, 0, 0, 0, 0, 0, 0, 0, 0, 0, 0, 0, 0, 0, 0, 0, 0, 0, 0, 0, 0, 0, 0, 0, 0, 0, 0, 0, 0, 0, 0, 0, 0, 0, 0] : List Int)], true⟩ :=
  TEOk.of Try.underlying42 (i := Try.t42) (by kernel_rfl) rfl rfl rfl (by kernel_rfl) (fun _ => Try.eqGuardType42) (by kernel_rfl)
theorem teKD_52 : TEOk Try.prog 52 ⟨.int .u64, 1, 8, [.i .u64 (0 : Int)], false⟩ :=
  TEOk.of Try.underlying52 (i := Try.t52) (by kernel_rfl) rfl rfl rfl (by kernel_rfl) (fun h => by cases h) (by kernel_rfl)
theorem teKD_53 : TEOk Try.prog 53 ⟨.array 8 52, 8, 64, [.ints .u64 (8 : Nat) ([0, 0, 0, 0, 0, 0, 0, 0] : List Int)], true⟩ :=
  TEOk.of Try.underlying53 (i := Try.t53) (by kernel_rfl) rfl rfl rfl (by kernel_rfl) (fun _ => Try.eqGuardType53) (by kernel_rfl)
noncomputable def tabKD : List (Nat × TE) := [(3, ⟨.int .i64, 1, 8, [.i .i64 (0 : Int)], false⟩), (5, ⟨.int .u8, 1, 1, [.i .u8 (0 : Int)], false⟩), (22, ⟨.slice 5, 1, 24, [.raw (.slice none 0 0)], false⟩), (42, ⟨.array 64 5, 64, 64, [.ints .u8 (64 : Nat) ([0, 0, 0, 0, 0, 0, 0, 0, 0, 0, 0, 0, 0, 0, 0, 0, 0, 0, 0, 0, 0, 0, 0, 0, 0, 0, 0, 0, 0, 0, 0, 0, 0, 0, 0, 0, 0, 0, 0, 0, 0, 0, 0, 0, 0, 0, 0, 0, 0, 0, 0, 0, 0, 0, 0, 0, 0, 0, 0, 0, 0, 0, 0, 0] : List Int)], true⟩), (52, ⟨.int .u64, 1, 8, [.i .u64 (0 : Int)], false⟩), (53, ⟨.array 8 52, 8, 64, [.ints .u64 (8 : Nat) ([0, 0, 0, 0, 0, 0, 0, 0] : List Int)], true⟩)]
theorem tabOkKD : TabOk Try.prog (tabOf tabKD) := (tabOf_cons teKD_3 (tabOf_cons teKD_5 (tabOf_cons teKD_22 (tabOf_cons teKD_42 (tabOf_cons teKD_52 (tabOf_cons teKD_53 tabOf_nil))))))

def sumRL_mk (n nm : Nat) (b : List Int) (cap0 k : Nat) (s : (List Int)) : St := ⟨sparse 28 [(0, .o (.a (.sl 0 0 n cap0))), (2, .o (.a (.p 1 0))), (3, .o (.a (.p 2 0))), (4, .o (.a (.i .i64 ((((128 : Nat) * k) : Nat) : Int)))), (5, .o (.g [.ints .u64 (8 : Nat) ([7640891576956012808, 13503953896175478587, 4354685564936845355, 11912009170470909681, 5840696475078001361, 11170449401992604703, 2270897969802886507, 6620516959819538809] : List Int)]))], [some ⟨false, [.ints .u8 nm b]⟩, some ⟨true, [.ints .u8 (64 : Nat) ([0, 0, 0, 0, 0, 0, 0, 0, 0, 0, 0, 0, 0, 0, 0, 0, 0, 0, 0, 0, 0, 0, 0, 0, 0, 0, 0, 0, 0, 0, 0, 0, 0, 0, 0, 0, 0, 0, 0, 0, 0, 0, 0, 0, 0, 0, 0, 0, 0, 0, 0, 0, 0, 0, 0, 0, 0, 0, 0, 0, 0, 0, 0, 0] : List Int)]⟩, some ⟨true, [.ints .u64 (8 : Nat) s]⟩]⟩

def sumRL_step (b : List Int) (k : Nat) (s : (List Int)) : (List Int) :=
  ((blkR s (sub b ((0 : Nat) + ((128 : Nat) * k)) ((Int.toNat (IntKind.i64.wrap (((((128 : Nat) * k) : Nat) : Int) + (128 : Int)))) - ((128 : Nat) * k)))))

set_option maxHeartbeats 1000000 in
theorem sumRL_round (n nm : Nat) (b : List Int) (cap0 : Nat) (h0 : (nm = n)) (h1 : (n < (70368744177664 : Nat))) (hc0 : n ≤ cap0) (hl0_0 : List.length b = nm) (w : World) (β : Env) (k : Nat) (hk : k < (n / (128 : Nat))) (s : (List Int)) : Run Try.prog ⟨w, [], 1, β⟩ (loopB Try.f12 0) (sumRL_mk n nm b cap0 k s) (To ⟨w, [], 1, β⟩ .normal (sumRL_mk n nm b cap0 (k + 1) (sumRL_step b k s))) := by
  have e0 : (IntKind.i64.wrap (((((128 : Nat) * k) : Nat) : Int) + (128 : Int))) = ((((128 : Nat) * (k + (1 : Nat))) : Nat) : Int) := (by first | rfl | omega | (simp (disch := omega) only [wrapI]; omega))
  have h := Run.of_outT (B := ⟨w, [], 1, β⟩) (Λ := noLam) (Ψ := noPsi) (fuel := 0) (ora := [true]) (c := (loopB Try.f12 0)) (st := (sumRL_mk n nm b cap0 k s)) (l := [.forget [0, 2, 3, 4, 5] 3]) (s' := ⟨sparse 28 [(0, .o (.a (.sl 0 0 n cap0))), (2, .o (.a (.p 1 0))), (3, .o (.a (.p 2 0))), (4, .o (.a (.i .i64 (IntKind.i64.wrap (((((128 : Nat) * k) : Nat) : Int) + (128 : Int)))))), (5, .o (.g [.ints .u64 (8 : Nat) ([7640891576956012808, 13503953896175478587, 4354685564936845355, 11912009170470909681, 5840696475078001361, 11170449401992604703, 2270897969802886507, 6620516959819538809] : List Int)]))], [some ⟨false, [.ints .u8 nm b]⟩, some ⟨true, [.ints .u8 (64 : Nat) ([0, 0, 0, 0, 0, 0, 0, 0, 0, 0, 0, 0, 0, 0, 0, 0, 0, 0, 0, 0, 0, 0, 0, 0, 0, 0, 0, 0, 0, 0, 0, 0, 0, 0, 0, 0, 0, 0, 0, 0, 0, 0, 0, 0, 0, 0, 0, 0, 0, 0, 0, 0, 0, 0, 0, 0, 0, 0, 0, 0, 0, 0, 0, 0] : List Int)]⟩, some ⟨true, [.ints .u64 (8 : Nat) (sumRL_step b k s)]⟩]⟩) (ex := .normal) mix tabOkKD gam305_ok
    (vc := [((True ∧ (((((0 : Nat) + ((128 : Nat) * k)) + ((Int.toNat (IntKind.i64.wrap (((((128 : Nat) * k) : Nat) : Int) + (128 : Int)))) - ((128 : Nat) * k))) ≤ nm) ∧ True)) ∧ ((((Int.toNat (IntKind.i64.wrap (((((128 : Nat) * k) : Nat) : Int) + (128 : Int)))) - ((128 : Nat) * k)) = ((Int.toNat (IntKind.i64.wrap (((((128 : Nat) * k) : Nat) : Int) + (128 : Int)))) - ((128 : Nat) * k))) ∧ (((Int.toNat (IntKind.i64.wrap (((((128 : Nat) * k) : Nat) : Int) + (128 : Int)))) - ((128 : Nat) * k)) = (128 : Nat)))), (((0 : Int) ≤ ((((128 : Nat) * k) : Nat) : Int)) ∧ (((((128 : Nat) * k) : Nat) : Int) ≤ (IntKind.i64.wrap (((((128 : Nat) * k) : Nat) : Int) + (128 : Int)))) ∧ ((IntKind.i64.wrap (((((128 : Nat) * k) : Nat) : Int) + (128 : Int))) ≤ ((cap0 : Nat) : Int))), ((decide ((IntKind.i64.wrap (((((128 : Nat) * k) : Nat) : Int) + (128 : Int))) ≤ ((n : Nat) : Int))) = true)]) (by kernel_rfl)
    (aC ⟨⟨trivial, ⟨(by first | omega | (simp (disch := omega) only [wrapI]; omega)), trivial⟩⟩, ⟨rfl, (by first | omega | (simp (disch := omega) only [wrapI]; omega))⟩⟩ (aC ⟨(by first | omega | (simp (disch := omega) only [wrapI]; omega)), (by first | omega | (simp (disch := omega) only [wrapI]; omega)), (by first | omega | (simp (disch := omega) only [wrapI]; omega))⟩ (aC (decide_eq_true (by first | omega | (simp (disch := omega) only [wrapI]; omega))) (AllP_nil))))
  rw [e0] at h
  exact h

set_option maxHeartbeats 1000000 in
theorem sumRL_last (n nm : Nat) (b : List Int) (cap0 : Nat) (h0 : (nm = n)) (h1 : (n < (70368744177664 : Nat))) (hc0 : n ≤ cap0) (hl0_0 : List.length b = nm) (w : World) (β : Env) (s : (List Int)) : Run Try.prog ⟨w, [], 1, β⟩ (loopB Try.f12 0) (sumRL_mk n nm b cap0 (n / (128 : Nat)) s) (To ⟨w, [], 1, β⟩ (.exit 0) (sumRL_mk n nm b cap0 (n / (128 : Nat)) s)) :=
  Run.of_outT (B := ⟨w, [], 1, β⟩) (Λ := noLam) (Ψ := noPsi) (fuel := 0) (ora := [false]) (l := [.forget [0, 2, 3, 4, 5] 3]) mix tabOkKD gam305_ok
    (vc := [((decide ((IntKind.i64.wrap (((((128 : Nat) * (n / (128 : Nat))) : Nat) : Int) + (128 : Int))) ≤ ((n : Nat) : Int))) = false)]) (by kernel_rfl)
    (aC (decide_eq_false (by first | omega | (simp (disch := omega) only [wrapI]; omega))) (AllP_nil))

theorem sumRL_loop (n nm : Nat) (b : List Int) (cap0 : Nat) (h0 : (nm = n)) (h1 : (n < (70368744177664 : Nat))) (hc0 : n ≤ cap0) (hl0_0 : List.length b = nm) (w : World) (β : Env) (s : (List Int)) : Run Try.prog ⟨w, [], 1, β⟩ (.block 0 (.loop (loopB Try.f12 0))) (sumRL_mk n nm b cap0 0 s) (To ⟨w, [], 1, β⟩ .normal (sumRL_mk n nm b cap0 (n / (128 : Nat)) (iter (sumRL_step b) (n / (128 : Nat)) s))) :=
  Run.count (fun k => sumRL_mk n nm b cap0 k (iter (sumRL_step b) k s)) (n / (128 : Nat)) (fun k hk => sumRL_round n nm b cap0 h0 h1 hc0 hl0_0 w β k hk _) (ex := (.exit 0)) (by simp) (sumRL_last n nm b cap0 h0 h1 hc0 hl0_0 w β _)

def sumRL_out0 (b : List Int) (n : Nat) (i0 : List Int) : List Int := (iter (sumRL_step b) (n / (128 : Nat)) (i0))

def sumR (n : Nat) (b : List Int) : List Int :=
  let z0 : Nat := (n - ((128 : Nat) * (n / (128 : Nat))))
  (finR (sumRL_out0 b n ([7640891576956012808, 13503953896175478587, 4354685564936845355, 11912009170470909681, 5840696475078001361, 11170449401992604703, 2270897969802886507, 6620516959819538809] : List Int)) z0 (sub b ((0 : Nat) + ((128 : Nat) * (n / (128 : Nat)))) z0) (IntKind.u64.wrap ((n : Nat) : Int)))

set_option maxHeartbeats 1000000 in
theorem sumR_body0 (n nm : Nat) (b : List Int) (cap0 : Nat) (h0 : (nm = n)) (h1 : (n < (70368744177664 : Nat))) (hc0 : n ≤ cap0) (hl0_0 : List.length b = nm) (w : World) (β : Env) : Body Try.prog (tabOf tabKD) Try.f12 ⟨w, [], 1, β⟩ [.o (.a (.sl 0 0 n cap0))] [some ⟨false, [.ints .u8 nm b]⟩] (fun ys _ => ys = [.g [.ints .u8 (64 : Nat) (sumR n b)]]) :=
  Body.of_fin (Γ := gam305) (Λ := lamOf [(0, ⟨[.forget [0, 2, 3, 4, 5] 3], .normal, (sumRL_mk n nm b cap0 (n / (128 : Nat)) (iter (sumRL_step b) (n / (128 : Nat)) (([7640891576956012808, 13503953896175478587, 4354685564936845355, 11912009170470909681, 5840696475078001361, 11170449401992604703, 2270897969802886507, 6620516959819538809] : List Int))))⟩)]) (Ψ := noPsi) (fuel := 0) (m := 28) (c := (Try.f12.body.getD .skip)) mix tabOkKD gam305_ok rfl (rs := [.cell 2 42]) rfl rfl [] []
    (vc := [((True ∧ (((((0 : Nat) + ((128 : Nat) * (n / (128 : Nat)))) + (n - ((128 : Nat) * (n / (128 : Nat))))) ≤ nm) ∧ (True ∧ True))) ∧ (((n - ((128 : Nat) * (n / (128 : Nat)))) = (n - ((128 : Nat) * (n / (128 : Nat))))) ∧ ((0 : Int) ≤ (IntKind.u64.wrap ((n : Nat) : Int))) ∧ ((IntKind.u64.wrap ((n : Nat) : Int)) < (2305843009213693952 : Int)) ∧ ((n - ((128 : Nat) * (n / (128 : Nat)))) < (70368744177664 : Nat)))), (((0 : Int) ≤ ((((128 : Nat) * (n / (128 : Nat))) : Nat) : Int)) ∧ (((((128 : Nat) * (n / (128 : Nat))) : Nat) : Int) ≤ ((n : Nat) : Int))), (Run Try.prog ⟨w, [], 1, β⟩ (.block 0 (.loop (loopB Try.f12 0))) (sumRL_mk n nm b cap0 0 (([7640891576956012808, 13503953896175478587, 4354685564936845355, 11912009170470909681, 5840696475078001361, 11170449401992604703, 2270897969802886507, 6620516959819538809] : List Int))) (To ⟨w, [], 1, β⟩ .normal (sumRL_mk n nm b cap0 (n / (128 : Nat)) (iter (sumRL_step b) (n / (128 : Nat)) (([7640891576956012808, 13503953896175478587, 4354685564936845355, 11912009170470909681, 5840696475078001361, 11170449401992604703, 2270897969802886507, 6620516959819538809] : List Int))))))]) (by kernel_rfl)
    (aC ⟨⟨trivial, ⟨(by first | omega | (simp (disch := omega) only [wrapU]; omega) | (simp (disch := omega) only [wrapI]; omega)), ⟨trivial, trivial⟩⟩⟩, ⟨rfl, (wrap_nn (k := .u64) rfl), (by first | omega | (simp (disch := omega) only [wrapU]; omega) | (simp (disch := omega) only [wrapI]; omega)), (by first | omega | (simp (disch := omega) only [wrapU]; omega) | (simp (disch := omega) only [wrapI]; omega))⟩⟩ (aC ⟨(by first | omega | (simp (disch := omega) only [wrapU]; omega) | (simp (disch := omega) only [wrapI]; omega)), (by first | omega | (simp (disch := omega) only [wrapU]; omega) | (simp (disch := omega) only [wrapI]; omega))⟩ (aC (sumRL_loop n nm b cap0 h0 h1 hc0 hl0_0 w β (([7640891576956012808, 13503953896175478587, 4354685564936845355, 11912009170470909681, 5840696475078001361, 11170449401992604703, 2270897969802886507, 6620516959819538809] : List Int))) (AllP_nil))))

theorem sumR_body (n nm : Nat) (b : List Int) (cap0 : Nat) (h0 : (nm = n)) (h1 : (n < (70368744177664 : Nat))) (w : World) (β : Env) : Body Try.prog (tabOf tabKD) Try.f12 ⟨w, [], 1, β⟩ [.o (.a (.sl 0 0 n cap0))] [some ⟨false, [.ints .u8 nm b]⟩] (fun ys _ => ys = [.g [.ints .u8 (64 : Nat) (sumR n b)]]) :=
  Body.lens (c := (Try.f12.body.getD .skip)) rfl fun h => sumR_body0 n nm b cap0 h0 h1 (h.caps 0 _ _ _ _ rfl) (h.lens 0 _ .u8 nm b rfl (by simp)) w β

end Go.Proofs.Ytepimglipelpmaa.X

/- Values that lie outside of the known blocks, taken in where they are loaded; a function whose arguments lie there. -/
namespace Go.Proofs.Ytepimglipelpmaa.X
open Go Go.Proofs
set_option linter.unusedVariables false

/-- what a value says -/
def intV : Value → Int
  | .int _ n => n
  | _ => 0
def lenV : Value → Nat
  | .slice _ len _ => len
  | _ => 0
def capV : Value → Nat
  | .slice _ _ cap => cap
  | _ => 0
/-- the integers that a slice shows in a world -/
def contV (w : World) : Value → List Int
  | .slice (some a) len _ => (match w.heap[a.block]? with
    | some (.cells arr _ _) => (List.range len).map fun i => intV (arr.getD (a.off + i) (.int .i64 0))
    | _ => [])
  | _ => []

/-- how values of a type are taken in -/
def gimp (t : TypeId) (mk : Value → Nat → Rx) (rest : Gam) : Gam := fun g K n args =>
  if impId + t = g then (match args with | [.o (.a (.raw v))] => some (mk v n) | _ => none) else rest g K n args

theorem gimp_ok {P : Program} {t : TypeId} {mk : Value → Nat → Rx} {rest : Gam} {w0 : World} {rw : List Nat} (hr : GamAt P rest w0 rw)
    (h : ∀ v n, okP (mk v n).vc → ∀ β K w, RelW w0 rw β K w → (∀ i, i < (mk v n).fr → K.at (n + i) = none) → K.nom n (n + (mk v n).fr) = true → ∃ β', Agree n (n + (mk v n).fr) β β' ∧ (mk v n).val.con β' v ∧ RelW w0 rw β' (app K (mk v n).ch) w) (ht : t < impId := by decide) :
    GamAt P (gimp t mk rest) w0 rw := by
  have ne2 : ∀ f : Nat, ¬ (impId + t = extId + f) := fun f e => by
    have h1 : impId + t < impId + impId := Nat.add_lt_add_left ht _
    have h2 : impId + impId = extId := rfl
    have h3 : extId ≤ extId + f := Nat.le_add_right _ _
    rw [e, h2] at h1
    exact Nat.lt_irrefl _ (Nat.lt_of_lt_of_le h1 h3)
  have ne : ∀ f : Nat, f < impId → ¬ (impId + t = f) := fun f hf e => by
    have : impId ≤ f := e ▸ Nat.le_add_right _ _
    omega
  refine ⟨?_, ?_, ?_, ?_, ?_⟩
  · intro f K n args s hf hs
    unfold gimp at hs; rw [if_neg (ne f hf)] at hs
    exact hr.enter _ _ _ _ _ hf hs
  · intro f K n args s hf hs
    unfold gimp at hs; rw [if_neg (ne f hf)] at hs
    exact hr.calls _ _ _ _ _ hf hs
  · intro f K K' n args s hf hs hk
    unfold gimp at hs ⊢; rw [if_neg (ne f hf)] at hs ⊢
    exact hr.mono _ _ _ _ _ _ hf hs hk
  · intro f n args s hs
    unfold gimp at hs; rw [if_neg (ne2 f)] at hs
    exact hr.ext _ _ _ _ hs
  · intro f n v s hf hf2 hs hvc β K w hR hn hK
    unfold gimp at hs
    split at hs
    · simp only [Option.some.injEq] at hs; subst hs
      exact h v n hvc β K w hR hn hK
    · exact hr.imp _ _ _ _ hf hf2 hs hvc β K w hR hn hK

/-- a slice of integers -/
def mkS (B : Bs) (k : IntKind) (v : Value) (n : Nat) : Rx :=
  ⟨some (ImpOk B v k (lenV v) (capV v) (contV B.w0 v)), .o (.a (.sl n 0 (lenV v) (capV v))), [(n, some ⟨false, [.ints k (lenV v) (contV B.w0 v)]⟩)], 1⟩

theorem mkS_ok {B : Bs} {k : IntKind} (v : Value) (n : Nat) (hv : okP (mkS B k v n).vc) (β : Env) (K : Know) (w : World) (hR : RelW B.w0 B.rw β K w) (hn : ∀ i, i < (mkS B k v n).fr → K.at (n + i) = none) (hK : K.nom n (n + (mkS B k v n).fr) = true) :
    ∃ β', Agree n (n + (mkS B k v n).fr) β β' ∧ (mkS B k v n).val.con β' v ∧ RelW B.w0 B.rw β' (app K (mkS B k v n).ch) w := by
  obtain ⟨base, hvb, hlc, hL, hb⟩ := hv
  have hn0 : K.at n = none := hn 0 (by show 0 < 1; omega)
  have hK : K.nom n (n + 1) = true := hK
  have gen : ∀ rr : Option Ref, (∀ r, rr = some r → r.blk < B.w0.heap.size ∧ r.blk ∉ B.rw) →
      ((∃ r arr ty fr, rr = some r ∧ w.heap[r.blk]? = some (.cells arr ty fr) ∧ arr.size = r.size ∧ r.off + lenV v ≤ r.size ∧ ∀ i x, (contV B.w0 v)[i]? = some x → arr[r.off + i]? = some (.int k x)) ∨ lenV v = 0) →
      RelW B.w0 B.rw (β.upd n rr) (app K [(n, some ⟨false, [.ints k (lenV v) (contV B.w0 v)]⟩)]) w := by
    intro rr hrr hold
    have hag := Env.agree_upd β n rr
    have hself : (β.upd n rr) n = rr := by unfold Env.upd; rw [if_pos rfl]
    have hoth : ∀ t, t ≠ n → (β.upd n rr) t = β t := fun t ht => by unfold Env.upd; rw [if_neg ht]
    have hat : ∀ j, Know.at (app K [(n, some ⟨false, [.ints k (lenV v) (contV B.w0 v)]⟩)]) j = if j = n then some ⟨false, [.ints k (lenV v) (contV B.w0 v)]⟩ else K.at j := by
      intro j
      rw [app_at]
      unfold lkCh lkCh
      by_cases h : j = n
      · subst h; simp
      · simp [h]
    refine ⟨?_, ?_, ?_, ?_, hR.old, hR.size, hR.os, hR.tape, hR.output⟩
    · intro t b hb
      rw [hat] at hb
      split at hb
      · rename_i ht
        subst ht
        simp only [Option.some.injEq] at hb; subst hb
        refine ⟨(contV B.w0 v).map (Value.int k), ⟨_, [], by simp, ⟨hL, rfl⟩, rfl⟩, ?_⟩
        rcases hold with ⟨r, arr, ty, fr, hr, hh, hsz, hl, ha⟩ | h0
        · refine .inr ⟨r, arr, ty, fr, by rw [hself]; exact hr, hh, hsz, by simp; omega, ?_, fun h => by cases h⟩
          intro i x hx
          rw [List.getElem?_map, Option.map_eq_some_iff] at hx
          obtain ⟨y, hy, rfl⟩ := hx
          exact ha i y hy
        · have hnil : contV B.w0 v = [] := List.length_eq_zero_iff.1 (by omega)
          exact .inl ⟨by rw [hnil]; rfl, .inl rfl⟩
      · rename_i ht
        obtain ⟨cs, h1, h2⟩ := hR.holds t b hb
        refine ⟨cs, cons_agree hag (Know.nom_at hK hb) h1, ?_⟩
        rw [hoth t ht]; exact h2
    · intro i j b c r s hi hj ho hne hri hsj
      rw [hat] at hi hj
      split at hi
      · simp only [Option.some.injEq] at hi; subst hi; cases ho
      · rename_i hin
        rw [hoth i hin] at hri
        split at hj
        · rename_i hjn
          subst hjn
          rw [hself] at hsj
          obtain ⟨g1, g2⟩ := hrr s hsj
          rcases hR.mine i b r hi ho hri with h | h
          · omega
          · intro e; rw [e] at h; exact g2 h
        · rename_i hjn
          rw [hoth j hjn] at hsj
          exact hR.apart i j b c r s hi hj ho hne hri hsj
    · intro i b r hi ho hri
      rw [hat] at hi
      split at hi
      · simp only [Option.some.injEq] at hi; subst hi; cases ho
      · rename_i hin
        rw [hoth i hin] at hri
        exact hR.mine i b r hi ho hri
    · intro i b r hi hri
      rw [hat] at hi
      split at hi
      · rename_i hin
        subst hin
        rw [hself] at hri
        exact Nat.lt_of_lt_of_le (hrr r hri).1 hR.size
      · rename_i hin
        rw [hoth i hin] at hri
        exact hR.live i b r hi hri
  by_cases hc : 0 < capV v
  · obtain ⟨b, off, rfl, h1, h2, h6⟩ := hb hc
    by_cases hl0 : 0 < lenV v
    · obtain ⟨arr, ty, fr, h3, h4, h5⟩ := h6 hl0
      refine ⟨_, Env.agree_upd β n (some ⟨b, off, arr.size⟩), ⟨some ⟨b, off, none⟩, by rw [← hvb], hlc, fun _ => ⟨⟨b, off, arr.size⟩, ?_, rfl⟩⟩, gen (some ⟨b, off, arr.size⟩) (fun r hr => by cases hr; exact ⟨h1, h2⟩) (.inl ⟨_, arr, ty, fr, rfl, ?_, rfl, h4, h5⟩)⟩
      · show (β.upd n _) n = _
        unfold Env.upd; rw [if_pos rfl]
      · show w.heap[b]? = _
        rw [hR.old b h1 h2]; exact h3
    · refine ⟨_, Env.agree_upd β n (some ⟨b, off, 0⟩), ⟨some ⟨b, off, none⟩, by rw [← hvb], hlc, fun _ => ⟨⟨b, off, 0⟩, ?_, rfl⟩⟩, gen (some ⟨b, off, 0⟩) (fun r hr => by cases hr; exact ⟨h1, h2⟩) (.inr (by omega))⟩
      show (β.upd n _) n = _
      unfold Env.upd; rw [if_pos rfl]
  · exact ⟨_, Env.agree_upd β n none, ⟨base, by rw [← hvb], hlc, fun h => absurd h hc⟩, gen none (fun r hr => by cases hr) (.inr (by omega))⟩
end Go.Proofs.Ytepimglipelpmaa.X

/- Slices of bytes in a list, one behind the other: what they show together; contracts of functions that read such a list. -/
namespace Go.Proofs.Ytepimglipelpmaa.X
open Go Go.Proofs
set_option linter.unusedVariables false

/-- parts that lie in a world, one behind the other -/
def catV (w : World) (L : List Value) : Nat → List Int
  | 0 => []
  | k + 1 => catV w L k ++ contV w (L.getD k undef)

structure PartsR (w : World) (rw : List Nat) (L : List Value) (n : Nat) : Prop where
  imp : ∀ i, i < n → ∀ (k : Nat) (β : Env), ImpOk ⟨w, rw, k, β⟩ (L.getD i undef) .u8 (lenV (L.getD i undef)) (capV (L.getD i undef)) (contV w (L.getD i undef))
  small : (catV w L n).length < 70368744177664
abbrev PartsOk (w : World) (L : List Value) (n : Nat) : Prop := PartsR w [] L n

theorem PartsR.len {w : World} {rw : List Nat} {L : List Value} {n : Nat} (h : PartsR w rw L n) {i : Nat} (hi : i < n) : (contV w (L.getD i undef)).length = lenV (L.getD i undef) := by
  obtain ⟨_, _, _, h3, _⟩ := h.imp i hi 0 noEnv
  exact h3

theorem catV_mono (w : World) (L : List Value) {i : Nat} : ∀ {n : Nat}, i ≤ n → (catV w L i).length ≤ (catV w L n).length
  | 0, h => by have : i = 0 := by omega
               subst this; exact Nat.le_refl _
  | n + 1, h => by
    rcases Nat.lt_or_ge n i with h1 | h1
    · have : i = n + 1 := by omega
      subst this; exact Nat.le_refl _
    · refine Nat.le_trans (catV_mono w L h1) ?_
      show _ ≤ (catV w L n ++ _).length
      rw [List.length_append]; omega

theorem PartsR.lt {w : World} {rw : List Nat} {L : List Value} {n : Nat} (h : PartsR w rw L n) {i : Nat} (hi : i ≤ n) : (catV w L i).length < 70368744177664 := Nat.lt_of_le_of_lt (catV_mono w L hi) h.small
theorem PartsR.llt {w : World} {rw : List Nat} {L : List Value} {n : Nat} (h : PartsR w rw L n) {i : Nat} (hi : i < n) : lenV (L.getD i undef) < 70368744177664 := by
  have h1 := h.lt (i := i + 1) hi
  have h2 : (catV w L i ++ contV w (L.getD i undef)).length < 70368744177664 := h1
  rw [List.length_append, h.len hi] at h2; omega

theorem getD_left {L M : List Value} {i : Nat} (h : i < L.length) : (L ++ M).getD i undef = L.getD i undef := by
  rw [List.getD_eq_getElem?_getD, List.getD_eq_getElem?_getD, List.getElem?_append_left h]
theorem getD_right {L M : List Value} {i : Nat} : (L ++ M).getD (L.length + i) undef = M.getD i undef := by
  rw [List.getD_eq_getElem?_getD, List.getD_eq_getElem?_getD, List.getElem?_append_right (by omega)]
  congr 2; omega
theorem catV_left (w : World) (L M : List Value) : ∀ k, k ≤ L.length → catV w (L ++ M) k = catV w L k
  | 0, _ => rfl
  | k + 1, h => by
    show catV w (L ++ M) k ++ _ = catV w L k ++ _
    rw [catV_left w L M k (by omega), getD_left (by omega)]
theorem catV_two (w : World) (L M : List Value) : ∀ k, catV w (L ++ M) (L.length + k) = catV w L L.length ++ catV w M k
  | 0 => by rw [Nat.add_zero, catV_left _ _ _ _ (Nat.le_refl _)]; exact (List.append_nil _).symm
  | k + 1 => by
    show catV w (L ++ M) (L.length + k) ++ contV w ((L ++ M).getD (L.length + k) undef) = _ ++ (catV w M k ++ _)
    rw [catV_two w L M k, getD_right, List.append_assoc]

theorem contV_move {w0 w : World} {rw : List Nat} (h : ∀ b, b < w0.heap.size → b ∉ rw → w.heap[b]? = w0.heap[b]?) {v : Value} {k : Nat} {β : Env} (hi : ImpOk ⟨w0, rw, k, β⟩ v .u8 (lenV v) (capV v) (contV w0 v)) : contV w v = contV w0 v := by
  obtain ⟨base, hv, hlc, hL, hb⟩ := hi
  by_cases hc : 0 < capV v
  · obtain ⟨b, off, rfl, h1, h2, _⟩ := hb hc
    rw [hv]
    unfold contV
    simp only
    rw [h b h1 h2]
  · have h0 : lenV v = 0 := by omega
    rw [hv]
    unfold contV
    rw [h0]
    cases base with
    | none => rfl
    | some a =>
      simp only [List.range_zero, List.map_nil]
      split <;> split <;> rfl

theorem PartsR.move {w0 w : World} {rw : List Nat} (h : ∀ b, b < w0.heap.size → b ∉ rw → w.heap[b]? = w0.heap[b]?) (hs : w0.heap.size ≤ w.heap.size) {L : List Value} {n : Nat} (hp : PartsR w0 rw L n) : PartsOk w L n ∧ catV w L n = catV w0 L n := by
  have hc : ∀ k, k ≤ n → catV w L k = catV w0 L k := by
    intro k
    induction k with
    | zero => intro _; rfl
    | succ k ih =>
      intro hk
      show catV w L k ++ _ = catV w0 L k ++ _
      rw [ih (by omega), contV_move h (hp.imp k (by omega) 0 noEnv)]
  refine ⟨⟨fun i hi k β => ?_, by rw [hc n (Nat.le_refl _)]; exact hp.small⟩, hc n (Nat.le_refl _)⟩
  rw [contV_move h (hp.imp i hi 0 noEnv)]
  obtain ⟨base, hv, hlc, hL, hb⟩ := hp.imp i hi 0 noEnv
  refine ⟨base, hv, hlc, hL, fun h0 => ?_⟩
  obtain ⟨b, off, g1, g2, g3, g4⟩ := hb h0
  have g2 : b < w0.heap.size := g2
  refine ⟨b, off, g1, Nat.lt_of_lt_of_le g2 hs, by simp, fun hl => ?_⟩
  obtain ⟨arr, ty, fr, k1, k2⟩ := g4 hl
  exact ⟨arr, ty, fr, (h b g2 g3).trans k1, k2⟩

/-- one cell of a list of parts: how many, on what condition, which bytes -/
def partC (K : Know) (w0 : World) (rw : List Nat) (a : Atom) : Option (Nat × Prop × List Int) :=
  match a with
  | .sl j c n _ => (match K.at j with
    | some b => (match segR b.cells c n with
      | some (p, [.ints .u8 _ l]) => some (1, p, l)
      | _ => none)
    | none => none)
  | .rs j c n _ => (match K.at j with
    | some b => (match segR b.cells c n with
      | some (p, [.ints .u8 _ l]) => some (1, p, l)
      | _ => none)
    | none => none)
  | .raw (.slice none 0 0) => some (1, True, [])
  | .vals n L => some (n, PartsR w0 rw L n, catV w0 L n)
  | _ => none

def partsC (K : Know) (w0 : World) (rw : List Nat) : List Atom → Option (Nat × Prop × List Int)
  | [] => some (0, True, [])
  | a :: r => (match partC K w0 rw a with
    | some (n, p, D) => (match partsC K w0 rw r with
      | some (m, q, E) => some (n + m, p ∧ q, D ++ E)
      | none => none)
    | none => none)

theorem partC_mono {K K' : Know} {w0 : World} {rw : List Nat} (hk : Knows K K') {a : Atom} {r : Nat × Prop × List Int} (h : partC K w0 rw a = some r) : partC K' w0 rw a = some r := by
  unfold partC at *
  split at h
  · split at h
    · rename_i b hb; rw [hk _ _ hb]; exact h
    · simp at h
  · split at h
    · rename_i b hb; rw [hk _ _ hb]; exact h
    · simp at h
  · exact h
  · exact h
  · simp at h
theorem partsC_mono {K K' : Know} {w0 : World} {rw : List Nat} (hk : Knows K K') : ∀ {l : List Atom} {r : Nat × Prop × List Int}, partsC K w0 rw l = some r → partsC K' w0 rw l = some r
  | [], _, h => h
  | a :: l, r, h => by
    simp only [partsC] at h ⊢
    split at h
    · rename_i n p D h1
      rw [partC_mono hk h1]
      simp only
      split at h
      · rename_i m q E h2
        rw [partsC_mono hk h2]
        exact h
      · simp at h
    · simp at h

section sound
variable {w0 w : World} {rw : List Nat} {β : Env} {K : Know}

theorem sl_part (hR : RelW w0 rw β K w) {j c n m cap : Nat} {b : Blk} {p : Prop} {l : List Int} (hb : K.at j = some b) (hs : segR b.cells c n = some (p, [.ints .u8 m l])) (hp : p) {base : Option Addr} (hnc : n ≤ cap)
    (hbase : 0 < cap → ∃ r, β j = some r ∧ base = some ⟨r.blk, r.off + c, none⟩) : (∀ k β', ImpOk ⟨w, [], k, β'⟩ (.slice base n cap) .u8 n cap l) ∧ contV w (.slice base n cap) = l := by
  obtain ⟨cs, hc, hd⟩ := hR.holds j b hb
  obtain ⟨h1, h2⟩ := segR_con hs hp hc
  rw [cons_single] at h1
  obtain ⟨hl, hsub⟩ := h1
  have hln : l.length = n := by
    have e := congrArg List.length hsub
    rw [List.length_map] at e
    by_cases h0 : n = 0
    · subst h0; rw [← e]; simp [sub]
    · rw [← e, sub_len _ _ _ (h2 (by omega))]
  by_cases h0 : n = 0
  · subst h0
    have : l = [] := List.length_eq_zero_iff.1 hln
    subst this
    refine ⟨fun k β' => ⟨base, rfl, hnc, rfl, fun hc0 => ?_⟩, ?_⟩
    · obtain ⟨r, hr, rfl⟩ := hbase hc0
      exact ⟨r.blk, r.off + c, rfl, hR.live j b r hb hr, by simp, fun h => absurd h (by omega)⟩
    · cases base with
      | none => rfl
      | some a => simp only [contV, List.range_zero, List.map_nil]; split <;> rfl
  · have h2 := h2 (by omega)
    obtain ⟨r, hr, rfl⟩ := hbase (by omega)
    rcases hd with ⟨rfl, _⟩ | ⟨r', arr, ty, fr, hr', hh, hsz, hlen, ha, _⟩
    · simp at h2; omega
    · rw [hr] at hr'; cases hr'
      have hget : ∀ i x, l[i]? = some x → arr[r.off + c + i]? = some (.int .u8 x) := by
        intro i x hx
        have h3 : (sub cs c n)[i]? = some (.int .u8 x) := by rw [hsub, List.getElem?_map, hx]; rfl
        have h4 := ha _ _ (getElem?_sub _ _ _ _ _ h3)
        rw [Nat.add_assoc]; exact h4
      refine ⟨fun k β' => ⟨_, rfl, hnc, hln, fun _ => ⟨r.blk, r.off + c, rfl, hR.live j b r hb hr, by simp, fun _ => ⟨arr, ty, fr, hh, by omega, hget⟩⟩⟩, ?_⟩
      unfold contV
      simp only [hh]
      refine List.ext_getElem? fun i => ?_
      by_cases hi : i < n
      · rw [List.getElem?_map, List.getElem?_range hi]
        have hx := hget i l[i] (List.getElem?_eq_getElem (by omega))
        simp only [Option.map_some, Array.getD_eq_getD_getElem?, hx, Option.getD_some, intV]
        rw [List.getElem?_eq_getElem (by omega)]
      · rw [List.getElem?_eq_none (by simp; omega), List.getElem?_eq_none (by omega)]

theorem partC_ok (hR : RelW w0 rw β K w) {a : Atom} {m : Nat} {p : Prop} {D : List Int} {cs : List Value} (h : partC K w0 rw a = some (m, p, D)) (hp : p) (hc : a.con β cs) :
    cs.length = m ∧ (∀ i, i < m → ∀ k β', ImpOk ⟨w, [], k, β'⟩ (cs.getD i undef) .u8 (lenV (cs.getD i undef)) (capV (cs.getD i undef)) (contV w (cs.getD i undef))) ∧ catV w cs m = D := by
  have one : ∀ {base : Option Addr} {n cap : Nat} {l : List Int}, ((∀ k β', ImpOk ⟨w, [], k, β'⟩ (.slice base n cap) .u8 n cap l) ∧ contV w (.slice base n cap) = l) →
      ([Value.slice base n cap].length = 1 ∧ (∀ i, i < 1 → ∀ k β', ImpOk ⟨w, [], k, β'⟩ ([Value.slice base n cap].getD i undef) .u8 (lenV ([Value.slice base n cap].getD i undef)) (capV ([Value.slice base n cap].getD i undef)) (contV w ([Value.slice base n cap].getD i undef))) ∧ catV w [Value.slice base n cap] 1 = l) := by
    intro base n cap l h
    refine ⟨rfl, fun i hi k β' => ?_, ?_⟩
    · have : i = 0 := by omega
      subst this
      show ImpOk ⟨w, [], k, β'⟩ (.slice base n cap) .u8 n cap (contV w (.slice base n cap))
      rw [h.2]; exact h.1 k β'
    · show [] ++ contV w (.slice base n cap) = l
      rw [h.2]; rfl
  unfold partC at h
  split at h
  · split at h
    · rename_i j c n cap b hb
      split at h
      · rename_i p' m' l hs
        simp only [Option.some.injEq, Prod.mk.injEq] at h; obtain ⟨rfl, rfl, rfl⟩ := h
        obtain ⟨base, rfl, hnc, hbase⟩ := hc
        exact one (sl_part hR hb hs hp hnc hbase)
      · simp at h
    · simp at h
  · split at h
    · rename_i j c n z b hb
      split at h
      · rename_i p' m' l hs
        simp only [Option.some.injEq, Prod.mk.injEq] at h; obtain ⟨rfl, rfl, rfl⟩ := h
        obtain ⟨base, cap, rfl, hnc, hbase⟩ := hc
        exact one (sl_part hR hb hs hp hnc fun h0 => by obtain ⟨r, h1, h2, _⟩ := hbase h0; exact ⟨r, h1, h2⟩)
      · simp at h
    · simp at h
  · simp only [Option.some.injEq, Prod.mk.injEq] at h; obtain ⟨rfl, rfl, rfl⟩ := h
    obtain ⟨rfl, _⟩ := hc
    exact one ⟨fun k β' => ⟨none, rfl, Nat.le_refl _, rfl, fun h => absurd h (by omega)⟩, rfl⟩
  · rename_i n L
    simp only [Option.some.injEq, Prod.mk.injEq] at h; obtain ⟨rfl, rfl, rfl⟩ := h
    obtain ⟨h1, rfl, _⟩ := hc
    obtain ⟨h3, h4⟩ := PartsR.move hR.old hR.size hp
    exact ⟨h1, h3.imp, h4⟩
  · simp at h

theorem partsC_ok (hR : RelW w0 rw β K w) : ∀ {l : List Atom} {m : Nat} {p : Prop} {D : List Int} {cs : List Value}, partsC K w0 rw l = some (m, p, D) → p → cons β l cs →
    cs.length = m ∧ (∀ i, i < m → ∀ k β', ImpOk ⟨w, [], k, β'⟩ (cs.getD i undef) .u8 (lenV (cs.getD i undef)) (capV (cs.getD i undef)) (contV w (cs.getD i undef))) ∧ catV w cs m = D
  | [], m, p, D, cs, h, hp, hc => by
    simp only [partsC, Option.some.injEq, Prod.mk.injEq] at h; obtain ⟨rfl, rfl, rfl⟩ := h
    have hc : cs = [] := hc
    subst hc
    exact ⟨rfl, fun i hi => absurd hi (by omega), rfl⟩
  | a :: l, m, p, D, cs, h, hp, hc => by
    simp only [partsC] at h
    split at h
    · rename_i n p1 D1 h1
      split at h
      · rename_i m2 q E h2
        simp only [Option.some.injEq, Prod.mk.injEq] at h; obtain ⟨rfl, rfl, rfl⟩ := h
        obtain ⟨x, y, rfl, ha, hr⟩ := hc
        obtain ⟨g1, g2, g3⟩ := partC_ok hR h1 hp.1 ha
        obtain ⟨k1, k2, k3⟩ := partsC_ok hR h2 hp.2 hr
        subst g1
        refine ⟨by rw [List.length_append, k1], fun i hi k β' => ?_, by rw [catV_two, g3, k3]⟩
        by_cases hx : i < x.length
        · rw [getD_left hx]; exact g2 i hx k β'
        · obtain ⟨t, rfl⟩ : ∃ t, i = x.length + t := ⟨i - x.length, by omega⟩
          rw [getD_right]; exact k2 t (by omega) k β'
      · simp at h
    · simp at h
end sound

def unsnoc : List AV → Option (List AV × AV)
  | [] => none
  | a :: r => (match unsnoc r with
    | some (l, x) => some (a :: l, x)
    | none => some ([], a))
theorem unsnoc_nil : ∀ {l : List AV}, unsnoc l = none → l = []
  | [], _ => rfl
  | a :: r, h => by simp only [unsnoc] at h; split at h <;> simp at h
theorem unsnoc_ok : ∀ {args l : List AV} {x : AV}, unsnoc args = some (l, x) → args = l ++ [x]
  | [], _, _, h => by simp [unsnoc] at h
  | a :: r, l, x, h => by
    simp only [unsnoc] at h
    split at h
    · rename_i l' x' h1
      simp only [Option.some.injEq, Prod.mk.injEq] at h; obtain ⟨rfl, rfl⟩ := h
      rw [unsnoc_ok h1]; rfl
    · rename_i h1
      simp only [Option.some.injEq, Prod.mk.injEq] at h; obtain ⟨rfl, rfl⟩ := h
      rw [unsnoc_nil h1]; rfl
theorem allC_snoc {β : Env} {x : AV} : ∀ {l : List AV} {xs : List Value}, allC β (l ++ [x]) xs → ∃ xl v, xs = xl ++ [v] ∧ allC β l xl ∧ x.con β v
  | [], xs, h => by
    obtain ⟨v, rest, rfl, hv, hr⟩ := h
    have hr : rest = [] := hr
    subst hr
    exact ⟨[], v, rfl, rfl, hv⟩
  | a :: l, xs, h => by
    obtain ⟨v, rest, rfl, hv, hr⟩ := h
    obtain ⟨xl, u, rfl, h1, h2⟩ := allC_snoc hr
    exact ⟨v :: xl, u, rfl, ⟨v, xl, rfl, hv, h1⟩, h2⟩
theorem allC_put {β : Env} {x : AV} {v : Value} : ∀ {l : List AV} {xl : List Value}, allC β l xl → x.con β v → allC β (l ++ [x]) (xl ++ [v])
  | [], xl, h, hv => by
    have h : xl = [] := h
    subst h
    exact ⟨v, [], rfl, hv, rfl⟩
  | a :: l, xl, h, hv => by
    obtain ⟨u, rest, rfl, h1, h2⟩ := h
    exact ⟨u, rest ++ [v], rfl, h1, allC_put h2 hv⟩

def slC : AV → Option (Nat × Nat)
  | .o (.a (.sl j 0 m _)) => some (j, m)
  | .o (.a (.rs j 0 m _)) => some (j, m)
  | _ => none
theorem slC_ok {x : AV} {j m : Nat} (h : slC x = some (j, m)) {β : Env} {v : Value} (hv : x.con β v) : ∃ base cap, v = .slice base m cap ∧ m ≤ cap ∧ (0 < cap → ∃ r, β j = some r ∧ base = some ⟨r.blk, r.off + 0, none⟩) := by
  unfold slC at h
  split at h
  · simp only [Option.some.injEq, Prod.mk.injEq] at h; obtain ⟨rfl, rfl⟩ := h
    obtain ⟨base, hv, h1, h2⟩ := hv
    simp only [List.cons.injEq, and_true] at hv
    exact ⟨base, _, hv, h1, h2⟩
  · simp only [Option.some.injEq, Prod.mk.injEq] at h; obtain ⟨rfl, rfl⟩ := h
    obtain ⟨base, cap, hv, h1, h2⟩ := hv
    simp only [List.cons.injEq, and_true] at hv
    exact ⟨base, cap, hv, h1, fun h0 => by obtain ⟨r, g1, g2, _⟩ := h2 h0; exact ⟨r, g1, g2⟩⟩
  · simp at h

/-- a function that reads views and, last, a list of parts; what it answers speaks of the parts' bytes together -/
def gpartsE (ss : List AS) (w0 : World) (rw : List Nat) (entry : List Vw → List AV → Nat → List Int → Option (Prop × V1)) (K : Know) (args : List AV) : Option Rx :=
  match unsnoc args with
  | some (l, x) => (match slC x with
    | some (j, m) => (match K.at j with
      | some b => (match partsC K w0 rw b.cells with
        | some (m', q, D) => (match mkV K ss l 0 [] with
          | some (ps, vs, _) => (match entry vs l m D with
            | some (p, y) => some ⟨some (m' = m ∧ q ∧ D.length < 70368744177664 ∧ conjP ps ∧ p), .o y, [], 0⟩
            | none => none)
          | none => none)
        | none => none)
      | none => none)
    | none => none)
  | none => none
def gparts (f : FuncId) (ss : List AS) (w0 : World) (rw : List Nat) (entry : List Vw → List AV → Nat → List Int → Option (Prop × V1)) (rest : Gam) : Gam := fun g K n args =>
  if f = g then gpartsE ss w0 rw entry K args else rest g K n args

theorem gparts_ok {P : Program} {T : Tab} (hT : TabOk P T) {f : FuncId} {fn : Func} (hf : P.funcs[f]? = some fn) (he : ∀ (xas : Array Value) (w : World), (callFunc f xas).run P w = .ok (.enter f xas) w) {ss : List AS} {entry : List Vw → List AV → Nat → List Int → Option (Prop × V1)} {rest : Gam} {w0 : World} {rw : List Nat} (hr : GamAt P rest w0 rw)
    (h : ∀ vs args m D p y, entry vs args m D = some (p, y) → p → y.flat = true ∧ ∀ (caps : List Nat) (cap : Nat) (L : List Value) (w : World) (β : Env), L.length = m → PartsOk w L m → catV w L m = D →
      Body P T fn ⟨w, [], vs.length + 1, β⟩ (calleeArgs ss args 0 caps ++ [.o (.a (.sl vs.length 0 m cap))]) (knowV vs ++ [some ⟨false, [.vals m L]⟩]) fun ys _ => ys = [y])
    (hlt : f < impId := by decide) : GamAt P (gparts f ss w0 rw entry rest) w0 rw := by
  refine ⟨?_, ?_, ?_, ?_, ?_⟩
  · intro g K n args s hg hs
    unfold gparts at hs
    split at hs
    · rename_i e; subst e; exact he
    · exact hr.enter _ _ _ _ _ hg hs
  · intro g K n args s hg hs hvc β w xs hx hR hn hK
    unfold gparts at hs
    split at hs
    · rename_i e; subst e
      unfold gpartsE at hs
      split at hs
      · rename_i l x hun
        split at hs
        · rename_i j m hsl
          split at hs
          · rename_i b hb
            split at hs
            · rename_i m' q D hpc
              split at hs
              · rename_i ps vs as0 hmk
                split at hs
                · rename_i p y hen
                  simp only [Option.some.injEq] at hs; subst hs
                  obtain ⟨rfl, hq, hD, hps, hp⟩ := hvc
                  rw [unsnoc_ok hun] at hx
                  obtain ⟨xl, v, rfl, hxl, hxv⟩ := allC_snoc hx
                  obtain ⟨base, cap, rfl, hmc, hbase⟩ := slC_ok hsl hxv
                  obtain ⟨h1, caps, xas, h2, h3⟩ := mkV_ok ss l [] [] ps vs as0 xl hmk hps hxl
                  have hvw := views_rel hR h1
                  have hb0 := hR.holds j b hb
                  obtain ⟨L, hL, hd⟩ := hb0
                  obtain ⟨g1, g2, g3⟩ := partsC_ok hR hpc hq hL
                  have hparts : PartsOk w L m' := ⟨g2, by rw [g3]; exact hD⟩
                  have hone := cons_one hL
                  have hel : envV β (vs ++ [⟨j, 0, 0, []⟩]) vs.length = β j := by
                    have := envV_mid β vs ⟨j, 0, 0, []⟩ []
                    rw [this]
                    show shiftR 0 (β j) = β j
                    cases β j with
                    | none => rfl
                    | some r => rfl
                  have hlow : ∀ i, i < vs.length → envV β (vs ++ [⟨j, 0, 0, []⟩]) i = envV β vs i := by
                    intro i hi
                    unfold envV
                    rw [List.getElem?_append_left hi]
                  have hkl : (knowV vs).length = vs.length := by simp [knowV]
                  have hrel : RelW w [] (envV β (vs ++ [⟨j, 0, 0, []⟩])) (knowV vs ++ [some ⟨false, [.vals m' L]⟩]) w := by
                    refine RelW.ofRead fun i bk hi => ?_
                    by_cases hiv : i < vs.length
                    · rw [know_append_left (by omega)] at hi
                      have hfl : bk.own = false ∧ bk.cells.all Atom.flat = true := by
                        unfold knowV Know.at at hi
                        rw [List.getElem?_map] at hi
                        cases hv : vs[i]? with
                        | none => rw [hv] at hi; simp at hi
                        | some v => rw [hv] at hi; simp at hi; subst hi; exact ⟨rfl, (h1 v (List.mem_of_getElem? hv)).1⟩
                      refine ⟨hfl.1, ?_, ?_⟩
                      · obtain ⟨cs, hc1, hc2⟩ := hvw.holds i bk hi
                        refine ⟨cs, cons_flat hfl.2 hc1, ?_⟩
                        rw [hlow i hiv]; exact hc2
                      · intro r hr'
                        rw [hlow i hiv] at hr'
                        exact hvw.live i bk r hi hr'
                    · rw [know_append_right (by omega)] at hi
                      have hi0 : i = vs.length ∧ bk = ⟨false, [.vals m' L]⟩ := by
                        have : i - (knowV vs).length = 0 := by
                          rcases hq0 : i - (knowV vs).length with _ | t
                          · rfl
                          · rw [hq0] at hi; simp [Know.at] at hi
                        rw [this] at hi
                        exact ⟨by omega, (Option.some.inj hi).symm⟩
                      obtain ⟨rfl, rfl⟩ := hi0
                      refine ⟨rfl, ⟨L, ⟨L, [], by simp, ⟨g1, rfl, hone⟩, rfl⟩, ?_⟩, ?_⟩
                      · rw [hel]
                        rcases hd with ⟨k1, _⟩ | ⟨r, arr, ty, fr, k1, k2, k3, k4, k5, _⟩
                        · exact .inl ⟨k1, .inl rfl⟩
                        · exact .inr ⟨r, arr, ty, fr, k1, k2, k3, k4, k5, fun h => by cases h⟩
                      · intro r hr'
                        rw [hel] at hr'
                        exact hR.live j b r hb hr'
                  have hall : allC (envV β (vs ++ [⟨j, 0, 0, []⟩])) (calleeArgs ss l 0 caps ++ [.o (.a (.sl vs.length 0 m' cap))]) (xl ++ [.slice base m' cap]) := by
                    refine allC_put ?_ ⟨base, rfl, hmc, fun hc0 => ?_⟩
                    · have := h3 [⟨j, 0, 0, []⟩]
                      rw [mkV_args h2] at this
                      simpa using this
                    · obtain ⟨r, k1, k2⟩ := hbase hc0
                      exact ⟨r, by rw [hel]; exact k1, k2⟩
                  obtain ⟨hfy, hbody⟩ := h vs l m' D p y hen hp
                  have hbd := hbody caps cap L w (envV β (vs ++ [⟨j, 0, 0, []⟩])) g1 hparts g3
                  rw [show vs.length + 1 = (knowV vs ++ [some ⟨false, [.vals m' L]⟩] : Know).length by simp [knowV]] at hbd
                  refine Calls.mono (calls_of_body hT hf (rw := []) hall hrel hbd) fun e w' he => ?_
                  obtain ⟨ys, K', v, β', rfl, rfl, hv, hrel', _⟩ := he
                  exact ⟨v, β, rfl, agree_refl _ _ _, V1.flat_con hfy hv, hR.grow hrel'.toGrow⟩
                · simp at hs
              · simp at hs
            · simp at hs
          · simp at hs
        · simp at hs
      · simp at hs
    · exact hr.calls _ _ _ _ _ hg hs hvc β w xs hx hR hn hK
  · intro g K K' n args s hg hs hk
    unfold gparts at hs ⊢
    split at hs
    · rename_i e
      rw [if_pos e]
      unfold gpartsE at hs ⊢
      split at hs
      · rename_i hun
        split at hs
        · rename_i hsl
          split at hs
          · rename_i b hb
            simp only [hk _ _ hb]
            split at hs
            · rename_i hpc
              simp only [partsC_mono hk hpc]
              split at hs
              · rename_i hmk
                simp only [mkV_mono hk hmk]
                exact hs
              · simp at hs
            · simp at hs
          · simp at hs
        · simp at hs
      · simp at hs
    · rename_i e; rw [if_neg e]; exact hr.mono _ _ _ _ _ _ hg hs hk
  · intro g n args s hs
    have hne : ¬ (f = extId + g) := fun e => by
      have h1 : extId ≤ extId + g := Nat.le_add_right _ _
      rw [← e] at h1
      exact Nat.lt_irrefl _ (Nat.lt_of_lt_of_le hlt (Nat.le_trans (by decide : impId ≤ extId) h1))
    unfold gparts at hs
    rw [if_neg hne] at hs
    exact hr.ext _ _ _ _ hs
  · intro g n v s hg hg2 hs
    have hne : ¬ (f = g) := fun e => by
      have h1 := hlt
      rw [e] at h1
      exact Nat.lt_irrefl _ (Nat.lt_of_lt_of_le h1 hg)
    unfold gparts at hs
    rw [if_neg hne] at hs
    exact hr.imp _ _ _ _ hg hg2 hs
end Go.Proofs.Ytepimglipelpmaa.X

/- What a digest of bytes is, as a function of the bytes; the document's is the program's. (drbg seat) -/
namespace Go.Proofs.Ytepimglipelpmaa.X
open Go Go.Proofs
set_option linter.unusedVariables false

theorem blk_len (S b : List Int) (h : S.length = 8) (C : List Int) : (blk S b C).length = 8 := by
  unfold blk
  simp only [List.length_set]
  exact h
theorem absN_len (C D : List Int) : ∀ (k : Nat) {S : List Int}, S.length = 8 → (absN C D k S).length = 8
  | 0, S, h => h
  | k + 1, S, h => by rw [absN_succ]; exact blk_len _ _ (absN_len C D k h) _
theorem wrN_eq {N : Int} {n : Nat} (h0 : 0 ≤ N) (h : N + ((n : Nat) : Int) < 2305843009213693952) : wrN N n = N + ((n : Nat) : Int) := by
  unfold wrN
  rw [wrapU (x := ((n : Nat) : Int)) (by omega) (by omega), wrapU (by omega) (by omega)]
def H0 : List Int := [7640891576956012808, 13503953896175478587, 4354685564936845355, 11912009170470909681, 5840696475078001361, 11170449401992604703, 2270897969802886507, 6620516959819538809]
def hS (D : List Int) : List Int := absN konst D (D.length / 128) H0
def hT (D : List Int) : Nat := D.length % 128
def hN (D : List Int) : Int := ((D.length : Nat) : Int)
def hL (D : List Int) : List Int := D.drop (128 * (D.length / 128))
/-- the digest -/
def shaD (D : List Int) : List Int := hsum (hS D) (hT D) (hN D) (hL D) konst

theorem hT_lt (D : List Int) : hT D < 128 := by unfold hT; omega
theorem hL_len (D : List Int) : (hL D).length = hT D := by unfold hL hT; simp; omega
theorem hN_nn (D : List Int) : 0 ≤ hN D := by unfold hN; omega
theorem hN_mod (D : List Int) : Int.tmod (hN D) 128 = ((hT D : Nat) : Int) := by
  unfold hN hT
  rw [Int.tmod_eq_emod_of_nonneg (by omega)]; omega
theorem hS_len (D : List Int) : (hS D).length = 8 := absN_len _ _ _ rfl

theorem hS_step {D c : List Int} {n : Nat} (hc : c.length = n) : wrS konst (hS D) (hL D) (sub c 0 n) (hT D) n = hS (D ++ c) := by
  rw [sub_all c n (by omega)]
  unfold wrS hS
  have e1 : hL D ++ c = (D ++ c).drop (128 * (D.length / 128)) := by
    unfold hL; rw [List.drop_append_of_le_length (by omega)]
  have e2 : (D ++ c).length / 128 = D.length / 128 + (hT D + n) / 128 := by
    rw [List.length_append, hc]; unfold hT; omega
  rw [e1, e2, absN_add, absN_left _ _ _ _ _ (by omega)]

theorem hT_step {D c : List Int} {n : Nat} (hc : c.length = n) : wrT (hT D) n = hT (D ++ c) := by
  unfold wrT hT; rw [List.length_append, hc]; omega
theorem hN_step {D c : List Int} {n : Nat} (hc : c.length = n) (h : (D ++ c).length < 1152921504606846976) : wrN (hN D) n = hN (D ++ c) := by
  rw [List.length_append] at h
  unfold hN
  rw [wrN_eq (by omega) (by omega), List.length_append, hc]
  omega
theorem hL_step {D c : List Int} {n : Nat} (hc : c.length = n) : wrL (hL D) (sub c 0 n) (hT D) n = hL (D ++ c) := by
  rw [sub_all c n (by omega)]
  unfold wrL
  have e1 : hL D ++ c = (D ++ c).drop (128 * (D.length / 128)) := by
    unfold hL; rw [List.drop_append_of_le_length (by omega)]
  rw [e1, List.drop_drop]
  unfold hL
  congr 1
  rw [List.length_append, hc]; unfold hT; omega

/-- a part more -/
theorem PartsOk.step {w : World} {L : List Value} {n : Nat} (h : PartsOk w L n) {k : Nat} (hk : k < n) {c : List Int} (hc : c = contV w (L.getD k undef)) :
    wrS konst (hS (catV w L k)) (hL (catV w L k)) (sub c 0 (lenV (L.getD k undef))) (hT (catV w L k)) (lenV (L.getD k undef)) = hS (catV w L (k + 1)) ∧
      wrT (hT (catV w L k)) (lenV (L.getD k undef)) = hT (catV w L (k + 1)) ∧ wrN (hN (catV w L k)) (lenV (L.getD k undef)) = hN (catV w L (k + 1)) ∧
      wrL (hL (catV w L k)) (sub c 0 (lenV (L.getD k undef))) (hT (catV w L k)) (lenV (L.getD k undef)) = hL (catV w L (k + 1)) := by
  subst hc
  have h1 := h.len hk
  refine ⟨hS_step h1, hT_step h1, hN_step h1 ?_, hL_step h1⟩
  have := h.lt (i := k + 1) hk
  have h2 : (catV w L k ++ contV w (L.getD k undef)).length < 70368744177664 := this
  omega

/-- the sum of bytes -/
theorem join1_sha {n : Nat} {b : List Int} (hb : b.length = n) (h : n < 70368744177664) : join1 n b = shaD b := by
  have h0 : hS [] = H0 := rfl
  have e1 : wrS konst H0 [] (sub b 0 n) 0 n = hS b := by
    have := hS_step (D := []) hb
    exact this
  have e2 : wrT 0 n = hT b := hT_step (D := []) hb
  have e3 : wrN 0 n = hN b := hN_step (D := []) hb (by simp; omega)
  have e4 : wrL [] (sub b 0 n) 0 n = hL b := hL_step (D := []) hb
  show hsum _ _ _ _ konst = _
  unfold shaD
  rw [← e1, ← e2, ← e3, ← e4]; rfl
end Go.Proofs.Ytepimglipelpmaa.X

/- The document's digest is the program's. (drbg seat) -/
namespace Go.Proofs.Ytepimglipelpmaa.X
open Go Go.Proofs
set_option linter.unusedVariables false

theorem absN_R {f : Nat → List Int → List Int} {D : List Int} {S : List Int} (hS : S.length = 8) : ∀ {k : Nat}, (∀ i s, i < k → s.length = 8 → f i s = blkR s (sub D (128 * i) 128)) → iter f k S = absN konst D k S
  | 0, _ => rfl
  | k + 1, h => by
    show f k (iter f k S) = _
    rw [absN_R hS fun i s hi hs => h i s (by omega) hs, absN_succ, h k _ (by omega) (absN_len _ _ _ hS), blk_eq _ (absN_len _ _ _ hS)]
theorem i64_128 {k : Nat} (h : 128 * k < 4611686018427387904) : Int.toNat (IntKind.i64.wrap (((((128 : Nat) * k) : Nat) : Int) + (128 : Int))) - 128 * k = 128 := by
  rw [wrapI (by omega) (by omega)]; omega
theorem finR_dig (S : List Int) (n : Nat) (b : List Int) (N : Int) : finR S n b N = digL (finL_out0 n b N S) := by kernel_rfl
theorem fin_eq {S L : List Int} {tl : Nat} {N : Int} (hS : S.length = 8) (hL : L.length = tl) (h0 : 0 ≤ N) (h1 : Int.tmod N 128 = ((tl : Nat) : Int)) : finR S tl L N = hsum S tl N L konst := by
  rw [finR_dig, hsum_dig]
  congr 1
  obtain ⟨p1, p2⟩ := pad_mod h0 h1
  have p3 := pad_le N
  unfold finL_out0 sumL_out0
  rw [padR_len]
  have hP : (sub (pad_1 N) 0 (pad N)).length = pad N := by rw [sub_len]; rw [pad_1_len]; omega
  rw [absN_R (D := L ++ sub (pad_1 N) 0 (pad N)) hS fun i s hi hs => ?_]
  · refine (iter_congr fun i s hi => ?_).symm
    unfold sumL_step
    rw [rest_sub hL hP (by omega) (by omega)]
  · unfold finL_step
    rw [i64_128 (by omega), sub_all L tl (by omega), sub_all L tl (by omega), pad_same, Nat.zero_add]
theorem sumR_sha {n : Nat} {b : List Int} (hb : b.length = n) (h : n < 70368744177664) : sumR n b = shaD b := by
  have e0 : sumRL_out0 b n H0 = hS b := by
    unfold sumRL_out0 hS
    rw [hb]
    refine absN_R rfl fun i s hi hs => ?_
    unfold sumRL_step
    rw [i64_128 (by omega), Nat.zero_add]
  have e1 : n - 128 * (n / 128) = hT b := by unfold hT; omega
  have e2 : sub b (0 + 128 * (n / 128)) (hT b) = hL b := by
    have hl := hL_len b
    unfold sub
    rw [Nat.zero_add, ← hb]
    show (hL b).take (hT b) = hL b
    exact List.take_of_length_le (by omega)
  have e3 : IntKind.u64.wrap ((n : Nat) : Int) = hN b := by unfold hN; rw [wrapU (by omega) (by omega), hb]
  show finR (sumRL_out0 b n H0) (n - 128 * (n / 128)) (sub b (0 + 128 * (n / 128)) (n - 128 * (n / 128))) (IntKind.u64.wrap ((n : Nat) : Int)) = _
  rw [e0, e1, e2, e3]
  exact fin_eq (hS_len b) (hL_len b) (hN_nn b) (hN_mod b)
end Go.Proofs.Ytepimglipelpmaa.X

/- Printed by a tool of this session. -/
namespace Go.Proofs.Ytepimglipelpmaa.X
open Go Go.Proofs
set_option linter.unusedVariables false
set_option linter.unusedSimpArgs false
set_option maxRecDepth 100000
theorem teDB_22 : TEOk Try.prog 22 ⟨.slice 5, 1, 24, [.raw (.slice none 0 0)], false⟩ :=
  TEOk.of Try.underlying22 (i := Try.t22) (by kernel_rfl) rfl rfl rfl (by kernel_rfl) (fun h => by cases h) (by kernel_rfl)
theorem teDB_23 : TEOk Try.prog 23 ⟨.slice 22, 1, 24, [.raw (.slice none 0 0)], false⟩ :=
  TEOk.of Try.underlying23 (i := Try.t23) (by kernel_rfl) rfl rfl rfl (by kernel_rfl) (fun h => by cases h) (by kernel_rfl)
theorem teDB_42 : TEOk Try.prog 42 ⟨.array 64 5, 64, 64, [.ints .u8 (64 : Nat) ([0, 0, 0, 0, 0, 0, 0, 0, 0, 0, 0, 0, 0, 0, 0, 0, 0, 0, 0, 0, 0, 0, 0, 0, 0, 0, 0, 0, 0, 0, 0, 0, 0, 0, 0, 0, 0, 0, 0, 0, 0, 0, 0, 0, 0, 0, 0, 0, 0, 0, 0, 0, 0, 0, 0, 0, 0, 0, 0, 0, 0, 0, 0, 0] : List Int)], true⟩ :=
  TEOk.of Try.underlying42 (i := Try.t42) (by kernel_rfl) rfl rfl rfl (by kernel_rfl) (fun _ => Try.eqGuardType42) (by kernel_rfl)
noncomputable def tabDB : List (Nat × TE) := [(22, ⟨.slice 5, 1, 24, [.raw (.slice none 0 0)], false⟩), (23, ⟨.slice 22, 1, 24, [.raw (.slice none 0 0)], false⟩), (42, ⟨.array 64 5, 64, 64, [.ints .u8 (64 : Nat) ([0, 0, 0, 0, 0, 0, 0, 0, 0, 0, 0, 0, 0, 0, 0, 0, 0, 0, 0, 0, 0, 0, 0, 0, 0, 0, 0, 0, 0, 0, 0, 0, 0, 0, 0, 0, 0, 0, 0, 0, 0, 0, 0, 0, 0, 0, 0, 0, 0, 0, 0, 0, 0, 0, 0, 0, 0, 0, 0, 0, 0, 0, 0, 0] : List Int)], true⟩)]
theorem tabOkDB : TabOk Try.prog (tabOf tabDB) := (tabOf_cons teDB_22 (tabOf_cons teDB_23 (tabOf_cons teDB_42 tabOf_nil)))

def joL_mk (w : World) (n : Nat) (L : List Value) (cap0 k : Nat) (s : Unit) : St := ⟨sparse 19 [(0, .o (.a (.sl 0 0 n cap0))), (2, .o (.a (.p 1 0))), (3, .o (.a (.p 3 0))), (6, .o (.a (.p 3 0))), (7, .o (.a (.sl 0 0 n cap0))), (8, .o (.a (.i .i64 ((n : Nat) : Int)))), (9, .o (.a (.i .i64 ((k : Nat) : Int))))], [some ⟨false, [.vals n L]⟩, some ⟨true, [.ints .u8 (64 : Nat) ([0, 0, 0, 0, 0, 0, 0, 0, 0, 0, 0, 0, 0, 0, 0, 0, 0, 0, 0, 0, 0, 0, 0, 0, 0, 0, 0, 0, 0, 0, 0, 0, 0, 0, 0, 0, 0, 0, 0, 0, 0, 0, 0, 0, 0, 0, 0, 0, 0, 0, 0, 0, 0, 0, 0, 0, 0, 0, 0, 0, 0, 0, 0, 0] : List Int)]⟩, some ⟨true, [.ints .u64 (80 : Nat) (konst)]⟩, some ⟨true, [.ints .u64 (8 : Nat) (hS (catV w L k)), .rs 4 0 (hT (catV w L k)) 1, .i .u64 (hN (catV w L k)), .p 2 0]⟩, some ⟨true, [.ints .u8 (hT (catV w L k)) (hL (catV w L k))]⟩]⟩

def joL_step (k : Nat) (s : Unit) : Unit :=
  ()

set_option maxHeartbeats 1000000 in
theorem joL_round (w : World) (n : Nat) (L : List Value) (cap0 : Nat) (h0 : (n < (70368744177664 : Nat))) (β : Env) (hP : PartsOk w L n) (k : Nat) (hk : k < n) (s : Unit) : Run Try.prog ⟨w, [], 1, β⟩ (loopB Try.f13 0) (joL_mk w n L cap0 k s) (To ⟨w, [], 1, β⟩ .normal (joL_mk w n L cap0 (k + 1) (joL_step k s))) := by
  have e0 : (wrS (konst) (hS (catV w L k)) (hL (catV w L k)) (sub (contV w (List.getD L k undef)) (0 : Nat) (lenV (List.getD L k undef))) (hT (catV w L k)) (lenV (List.getD L k undef))) = (hS (catV w L (k + (1 : Nat)))) := (by first | exact wrap_succ (by omega) | exact (PartsOk.step hP hk rfl).1 | exact (PartsOk.step hP hk rfl).2.1 | exact (PartsOk.step hP hk rfl).2.2.1 | exact (PartsOk.step hP hk rfl).2.2.2)
  have e1 : (wrL (hL (catV w L k)) (sub (contV w (List.getD L k undef)) (0 : Nat) (lenV (List.getD L k undef))) (hT (catV w L k)) (lenV (List.getD L k undef))) = (hL (catV w L (k + (1 : Nat)))) := (by first | exact wrap_succ (by omega) | exact (PartsOk.step hP hk rfl).1 | exact (PartsOk.step hP hk rfl).2.1 | exact (PartsOk.step hP hk rfl).2.2.1 | exact (PartsOk.step hP hk rfl).2.2.2)
  have e2 : (wrT (hT (catV w L k)) (lenV (List.getD L k undef))) = (hT (catV w L (k + (1 : Nat)))) := (by first | exact wrap_succ (by omega) | exact (PartsOk.step hP hk rfl).1 | exact (PartsOk.step hP hk rfl).2.1 | exact (PartsOk.step hP hk rfl).2.2.1 | exact (PartsOk.step hP hk rfl).2.2.2)
  have e3 : (wrN (hN (catV w L k)) (lenV (List.getD L k undef))) = (hN (catV w L (k + (1 : Nat)))) := (by first | exact wrap_succ (by omega) | exact (PartsOk.step hP hk rfl).1 | exact (PartsOk.step hP hk rfl).2.1 | exact (PartsOk.step hP hk rfl).2.2.1 | exact (PartsOk.step hP hk rfl).2.2.2)
  have e4 : (IntKind.i64.wrap (((k : Nat) : Int) + (1 : Int))) = (((k + (1 : Nat)) : Nat) : Int) := (by first | exact wrap_succ (by omega) | exact (PartsOk.step hP hk rfl).1 | exact (PartsOk.step hP hk rfl).2.1 | exact (PartsOk.step hP hk rfl).2.2.1 | exact (PartsOk.step hP hk rfl).2.2.2)
  have h := Run.of_outTAt (B := ⟨w, [], 1, β⟩) (Λ := noLam) (Ψ := noPsi) (fuel := 0) (ora := [true]) (c := (loopB Try.f13 0)) (st := (joL_mk w n L cap0 k s)) (l := [.swap 4 6, .forget [0, 2, 3, 6, 7, 8, 9] 5]) (s' := ⟨sparse 19 [(0, .o (.a (.sl 0 0 n cap0))), (2, .o (.a (.p 1 0))), (3, .o (.a (.p 3 0))), (6, .o (.a (.p 3 0))), (7, .o (.a (.sl 0 0 n cap0))), (8, .o (.a (.i .i64 ((n : Nat) : Int)))), (9, .o (.a (.i .i64 (IntKind.i64.wrap (((k : Nat) : Int) + (1 : Int))))))], [some ⟨false, [.vals n L]⟩, some ⟨true, [.ints .u8 (64 : Nat) ([0, 0, 0, 0, 0, 0, 0, 0, 0, 0, 0, 0, 0, 0, 0, 0, 0, 0, 0, 0, 0, 0, 0, 0, 0, 0, 0, 0, 0, 0, 0, 0, 0, 0, 0, 0, 0, 0, 0, 0, 0, 0, 0, 0, 0, 0, 0, 0, 0, 0, 0, 0, 0, 0, 0, 0, 0, 0, 0, 0, 0, 0, 0, 0] : List Int)]⟩, some ⟨true, [.ints .u64 (80 : Nat) (konst)]⟩, some ⟨true, [.ints .u64 (8 : Nat) (wrS (konst) (hS (catV w L k)) (hL (catV w L k)) (sub (contV w (List.getD L k undef)) (0 : Nat) (lenV (List.getD L k undef))) (hT (catV w L k)) (lenV (List.getD L k undef))), .rs 4 0 (wrT (hT (catV w L k)) (lenV (List.getD L k undef))) 1, .i .u64 (wrN (hN (catV w L k)) (lenV (List.getD L k undef))), .p 2 0]⟩, some ⟨true, [.ints .u8 (wrT (hT (catV w L k)) (lenV (List.getD L k undef))) (wrL (hL (catV w L k)) (sub (contV w (List.getD L k undef)) (0 : Nat) (lenV (List.getD L k undef))) (hT (catV w L k)) (lenV (List.getD L k undef)))]⟩]⟩) (ex := .normal) mix tabOkDB (gimp_ok (t := 22) (mk := mkS ⟨w, [], 1, β⟩ .u8) (gam17_ok.at _ _) fun v m => mkS_ok v m)
    (vc := [((True ∧ ((((0 : Nat) + (lenV (List.getD L k undef))) ≤ (lenV (List.getD L k undef))) ∧ True)) ∧ (((hT (catV w L k)) = (hT (catV w L k))) ∧ ((lenV (List.getD L k undef)) = (lenV (List.getD L k undef))) ∧ ((hT (catV w L k)) < (128 : Nat)) ∧ ((lenV (List.getD L k undef)) < (140737488355328 : Nat)))), ((k < n) ∧ (ImpOk ⟨w, [], 1, β⟩ (List.getD L k undef) .u8 (lenV (List.getD L k undef)) (capV (List.getD L k undef)) (contV w (List.getD L k undef)))), (((0 : Int) ≤ ((k : Nat) : Int)) ∧ (((k : Nat) : Int) < ((n : Nat) : Int))), ((decide (((k : Nat) : Int) < ((n : Nat) : Int))) = true)]) (by kernel_rfl)
    (aC ⟨⟨trivial, ⟨(by have hh := hN_nn (catV w L n); have hm := hN_mod (catV w L n); have hq := hT_lt (catV w L k); have hl := hP.llt hk; first | omega | exact hm | (simp (disch := omega) only [wrapI]; omega)), trivial⟩⟩, ⟨rfl, rfl, (by have hh := hN_nn (catV w L n); have hm := hN_mod (catV w L n); have hq := hT_lt (catV w L k); have hl := hP.llt hk; first | omega | exact hm | (simp (disch := omega) only [wrapI]; omega)), (by have hh := hN_nn (catV w L n); have hm := hN_mod (catV w L n); have hq := hT_lt (catV w L k); have hl := hP.llt hk; first | omega | exact hm | (simp (disch := omega) only [wrapI]; omega))⟩⟩ (aC ⟨(by have hh := hN_nn (catV w L n); have hm := hN_mod (catV w L n); have hq := hT_lt (catV w L k); have hl := hP.llt hk; first | omega | exact hm | (simp (disch := omega) only [wrapI]; omega)), ((hP.imp k hk _ _))⟩ (aC ⟨(by have hh := hN_nn (catV w L n); have hm := hN_mod (catV w L n); have hq := hT_lt (catV w L k); have hl := hP.llt hk; first | omega | exact hm | (simp (disch := omega) only [wrapI]; omega)), (by have hh := hN_nn (catV w L n); have hm := hN_mod (catV w L n); have hq := hT_lt (catV w L k); have hl := hP.llt hk; first | omega | exact hm | (simp (disch := omega) only [wrapI]; omega))⟩ (aC (decide_eq_true (by have hh := hN_nn (catV w L n); have hm := hN_mod (catV w L n); have hq := hT_lt (catV w L k); have hl := hP.llt hk; first | omega | exact hm | (simp (disch := omega) only [wrapI]; omega))) (AllP_nil)))))
  rw [e0, e1, e2, e3, e4] at h
  exact h

set_option maxHeartbeats 1000000 in
theorem joL_last (w : World) (n : Nat) (L : List Value) (cap0 : Nat) (h0 : (n < (70368744177664 : Nat))) (β : Env) (hP : PartsOk w L n) (s : Unit) : Run Try.prog ⟨w, [], 1, β⟩ (loopB Try.f13 0) (joL_mk w n L cap0 n s) (To ⟨w, [], 1, β⟩ (.exit 0) (joL_mk w n L cap0 n s)) :=
  Run.of_outTAt (B := ⟨w, [], 1, β⟩) (Λ := noLam) (Ψ := noPsi) (fuel := 0) (ora := [false]) (l := [.forget [0, 2, 3, 6, 7, 8, 9] 5]) mix tabOkDB (gimp_ok (t := 22) (mk := mkS ⟨w, [], 1, β⟩ .u8) (gam17_ok.at _ _) fun v m => mkS_ok v m)
    (vc := [((decide (((n : Nat) : Int) < ((n : Nat) : Int))) = false)]) (by kernel_rfl)
    (aC (decide_eq_false (by omega)) (AllP_nil))

theorem joL_loop (w : World) (n : Nat) (L : List Value) (cap0 : Nat) (h0 : (n < (70368744177664 : Nat))) (β : Env) (hP : PartsOk w L n) (s : Unit) : Run Try.prog ⟨w, [], 1, β⟩ (.block 0 (.loop (loopB Try.f13 0))) (joL_mk w n L cap0 0 s) (To ⟨w, [], 1, β⟩ .normal (joL_mk w n L cap0 n (iter (joL_step) n s))) :=
  Run.count (fun k => joL_mk w n L cap0 k (iter (joL_step) k s)) n (fun k hk => joL_round w n L cap0 h0 β hP k hk _) (ex := (.exit 0)) (by simp) (joL_last w n L cap0 h0 β hP _)

def joinP (w : World) (n : Nat) (L : List Value) : List Int :=
  let z0 : List Int := (catV w L n)
  (hsum (hS z0) (hT z0) (hN z0) (hL z0) (konst))

set_option maxHeartbeats 1000000 in
theorem joinP_body0 (w : World) (n : Nat) (L : List Value) (cap0 : Nat) (h0 : (n < (70368744177664 : Nat))) (β : Env) (hP : PartsOk w L n) : Body Try.prog (tabOf tabDB) Try.f13 ⟨w, [], 1, β⟩ [.o (.a (.sl 0 0 n cap0))] [some ⟨false, [.vals n L]⟩] (fun ys _ => ys = [.g [.ints .u8 (64 : Nat) (joinP w n L)]]) :=
  Body.of_finAt (Γ := (gimp 22 (mkS ⟨w, [], 1, β⟩ .u8) gam17)) (Λ := lamOf [(0, ⟨[.forget [0, 2, 3, 6, 7, 8, 9] 5], .normal, (joL_mk w n L cap0 n (iter (joL_step) n ()))⟩)]) (Ψ := noPsi) (fuel := 0) (m := 19) (c := (Try.f13.body.getD .skip)) mix tabOkDB (gimp_ok (t := 22) (mk := mkS ⟨w, [], 1, β⟩ .u8) (gam17_ok.at _ _) fun v m => mkS_ok v m) rfl (rs := [.cell 2 42]) rfl rfl [] []
    (vc := [((True ∧ True) ∧ (((hT (catV w L n)) = (hT (catV w L n))) ∧ ((0 : Int) ≤ (hN (catV w L n))) ∧ ((Int.tmod (hN (catV w L n)) (128 : Int)) = (((hT (catV w L n)) : Nat) : Int)))), (Run Try.prog ⟨w, [], 1, β⟩ (.block 0 (.loop (loopB Try.f13 0))) (joL_mk w n L cap0 0 ()) (To ⟨w, [], 1, β⟩ .normal (joL_mk w n L cap0 n (iter (joL_step) n ())))), (True ∧ True)]) (by kernel_rfl)
    (aC ⟨⟨trivial, trivial⟩, ⟨rfl, (by have hh := hN_nn (catV w L n); have hm := hN_mod (catV w L n); have hq := hT_lt (catV w L n); first | omega | exact hm | (simp (disch := omega) only [wrapI]; omega)), (by have hh := hN_nn (catV w L n); have hm := hN_mod (catV w L n); have hq := hT_lt (catV w L n); first | omega | exact hm | (simp (disch := omega) only [wrapI]; omega))⟩⟩ (aC (joL_loop w n L cap0 h0 β hP ()) (aC ⟨trivial, trivial⟩ (AllP_nil))))

theorem joinP_body (w : World) (n : Nat) (L : List Value) (cap0 : Nat) (h0 : (n < (70368744177664 : Nat))) (β : Env) (hP : PartsOk w L n) : Body Try.prog (tabOf tabDB) Try.f13 ⟨w, [], 1, β⟩ [.o (.a (.sl 0 0 n cap0))] [some ⟨false, [.vals n L]⟩] (fun ys _ => ys = [.g [.ints .u8 (64 : Nat) (joinP w n L)]]) :=
  Body.lens (c := (Try.f13.body.getD .skip)) rfl fun h => joinP_body0 w n L cap0 h0  β hP

end Go.Proofs.Ytepimglipelpmaa.X

/- Printed by a tool of this session. -/
namespace Go.Proofs.Ytepimglipelpmaa.X
open Go Go.Proofs
set_option linter.unusedVariables false
set_option linter.unusedSimpArgs false
set_option maxRecDepth 100000
def gjoin (w0 : World) (rw : List Nat) (rest : Gam) : Gam := gparts 13 [] w0 rw (fun vs args m D => match vs, args with | [], [] => some (m < 70368744177664, .g [.ints .u8 64 (shaD D)]) | _, _ => none) rest
theorem gjoin_ok {rest : Gam} {w0 : World} {rw : List Nat} (hr : GamAt Try.prog rest w0 rw) : GamAt Try.prog (gjoin w0 rw rest) w0 rw := gparts_ok tabOkDB Try.func13 Try.call13 hr (by
  intro vs args m D p y h hv
  split at h
  · simp only [Option.some.injEq, Prod.mk.injEq] at h; obtain ⟨rfl, rfl⟩ := h
    refine ⟨rfl, fun caps cap L w β _ hP hD => ?_⟩
    subst hD
    exact joinP_body w m L cap hv β hP
  · simp at h)

end Go.Proofs.Ytepimglipelpmaa.X

/- Printed by a tool of this session. -/
namespace Go.Proofs.Ytepimglipelpmaa.X
open Go Go.Proofs
set_option linter.unusedVariables false
set_option linter.unusedSimpArgs false
set_option maxRecDepth 100000
theorem teUB_3 : TEOk Try.prog 3 ⟨.int .i64, 1, 8, [.i .i64 (0 : Int)], false⟩ :=
  TEOk.of Try.underlying3 (i := Try.t3) (by kernel_rfl) rfl rfl rfl (by kernel_rfl) (fun h => by cases h) (by kernel_rfl)
theorem teUB_5 : TEOk Try.prog 5 ⟨.int .u8, 1, 1, [.i .u8 (0 : Int)], false⟩ :=
  TEOk.of Try.underlying5 (i := Try.t5) (by kernel_rfl) rfl rfl rfl (by kernel_rfl) (fun h => by cases h) (by kernel_rfl)
theorem teUB_22 : TEOk Try.prog 22 ⟨.slice 5, 1, 24, [.raw (.slice none 0 0)], false⟩ :=
  TEOk.of Try.underlying22 (i := Try.t22) (by kernel_rfl) rfl rfl rfl (by kernel_rfl) (fun h => by cases h) (by kernel_rfl)
noncomputable def tabUB : List (Nat × TE) := [(3, ⟨.int .i64, 1, 8, [.i .i64 (0 : Int)], false⟩), (5, ⟨.int .u8, 1, 1, [.i .u8 (0 : Int)], false⟩), (22, ⟨.slice 5, 1, 24, [.raw (.slice none 0 0)], false⟩)]
theorem tabOkUB : TabOk Try.prog (tabOf tabUB) := (tabOf_cons teUB_3 (tabOf_cons teUB_5 (tabOf_cons teUB_22 tabOf_nil)))

theorem not_bne_self (x : Int) : (x != x) = false := by simp
def mkBy (i k : Int) : Int :=
  (IntKind.u8.wrap (IntKind.i64.wrap ((IntKind.i64.wrap ((IntKind.i64.wrap (i * (31 : Int))) + (IntKind.i64.wrap (k * (7 : Int))))) + (5 : Int))))

set_option maxHeartbeats 1000000 in
theorem mkBy_body0 (i k : Int) (w : World) : Body Try.prog (tabOf tabUB) Try.f43 ⟨w, [], 0, noEnv⟩ (toA [.a (.i .i64 i), .a (.i .i64 k)]) [] (fun ys _ => ys = [.a (.i .u8 (mkBy i k))]) :=
  Body.of_fin (Γ := gam17) (Λ := noLam) (Ψ := noPsi) (fuel := 0) (m := 12) (c := (Try.f43.body.getD .skip)) mix tabOkUB gam17_ok rfl (rs := [.tmp 4]) rfl rfl [] []
    (vc := []) (by kernel_rfl)
    (AllP_nil)

theorem mkBy_body (i k : Int) (w : World) : Body Try.prog (tabOf tabUB) Try.f43 ⟨w, [], 0, noEnv⟩ (toA [.a (.i .i64 i), .a (.i .i64 k)]) [] (fun ys _ => ys = [.a (.i .u8 (mkBy i k))]) :=
  Body.lens (c := (Try.f43.body.getD .skip)) rfl fun h => mkBy_body0 i k  w

theorem mkBy_pure (i k : Int) : PureC Try.prog 43 [.a (.i .i64 i), .a (.i .i64 k)] [.a (.i .u8 (mkBy i k))] :=
  PureC.of_body tabOkUB Try.func43 rfl rfl fun w => mkBy_body i k w

noncomputable def gam18 : Gam := gpure 43 (fun args => match args with | [.o (.a (.i .i64 i)), .o (.a (.i .i64 k))] => some (none, [.a (.i .u8 (mkBy i k))]) | _ => none) gam17
theorem gam18_ok : GamOk Try.prog gam18 := gpure_ok gam17_ok Try.call43 (by
  intro args vc xs h hv
  split at h
  · simp only [Option.some.injEq, Prod.mk.injEq] at h; obtain ⟨rfl, rfl⟩ := h; exact ⟨_, by rfl, mkBy_pure _ _⟩
  · simp at h)

noncomputable def copyB (n : Nat) (b : List Int) : List Int :=
  (sub b 0 n)

set_option maxHeartbeats 1000000 in
theorem copyB_body0 (n nm : Nat) (b : List Int) (cap0 : Nat) (h0 : (nm = n)) (h1 : (n < (35184372088832 : Nat))) (hc0 : n ≤ cap0) (hl0_0 : List.length b = nm) (w : World) (rw : List Nat) (β : Env) : Body Try.prog (tabOf tabUB) Try.f39 ⟨w, rw, 1, β⟩ [.o (.a (.sl 0 0 n cap0))] [some ⟨false, [.ints .u8 nm b]⟩] (fun ys K' => ys = [.a (.rs 1 0 n 1)] ∧ K' = [some ⟨false, [.ints .u8 nm b]⟩, some ⟨true, [.ints .u8 n (copyB n b)]⟩]) :=
  Body.of_finK (Γ := gam18) (Λ := noLam) (Ψ := noPsi) (fuel := 0) (m := 8) (c := (Try.f39.body.getD .skip)) mix tabOkUB gam18_ok rfl (rs := [.tmp 2]) rfl rfl [false] [] 2
    (vc := [(((n ≤ n) ∧ (((0 : Nat) + n) ≤ nm)) ∧ ((n * (1 : Nat)) ≤ (140737488355328 : Nat)))]) (by kernel_rfl)
    (aC ⟨⟨(by first | omega | (simp (disch := omega) only [wrapI]; omega)), (by first | omega | (simp (disch := omega) only [wrapI]; omega))⟩, (by first | omega | (simp (disch := omega) only [wrapI]; omega))⟩ (AllP_nil))

theorem copyB_body (n nm : Nat) (b : List Int) (cap0 : Nat) (h0 : (nm = n)) (h1 : (n < (35184372088832 : Nat))) (w : World) (rw : List Nat) (β : Env) : Body Try.prog (tabOf tabUB) Try.f39 ⟨w, rw, 1, β⟩ [.o (.a (.sl 0 0 n cap0))] [some ⟨false, [.ints .u8 nm b]⟩] (fun ys K' => ys = [.a (.rs 1 0 n 1)] ∧ K' = [some ⟨false, [.ints .u8 nm b]⟩, some ⟨true, [.ints .u8 n (copyB n b)]⟩]) :=
  Body.lens (c := (Try.f39.body.getD .skip)) rfl fun h => copyB_body0 n nm b cap0 h0 h1 (h.caps 0 _ _ _ _ rfl) (h.lens 0 _ .u8 nm b rfl (by simp)) w rw β

noncomputable def sameBL_mk (n nm : Nat) (b : List Int) (m mm : Nat) (c : List Int) (cap0 cap1 k : Nat) (s : Unit) : St := ⟨sparse 26 [(0, .o (.a (.sl 0 0 n cap0))), (1, .o (.a (.sl 1 0 m cap1))), (5, .o (.a (.i .i64 ((k : Nat) : Int)))), (6, .o (.a (.sl 0 0 n cap0))), (7, .o (.a (.i .i64 ((n : Nat) : Int)))), (8, .o (.a (.sl 1 0 m cap1))), (9, .o (.a (.i .i64 ((m : Nat) : Int)))), (10, .o (.a (.b (((n : Nat) : Int) != ((m : Nat) : Int)))))], [some ⟨false, [.ints .u8 nm b]⟩, some ⟨false, [.ints .u8 mm c]⟩]⟩

noncomputable def sameBL_step (k : Nat) (s : Unit) : Unit :=
  ()

set_option maxHeartbeats 1000000 in
theorem sameBL_round (n nm : Nat) (b : List Int) (m mm : Nat) (c : List Int) (cap0 cap1 : Nat) (h0 : (nm = n)) (h1 : (mm = m)) (h2 : (m = n)) (h3 : (b = c)) (h4 : (n < (70368744177664 : Nat))) (hc0 : n ≤ cap0) (hc1 : m ≤ cap1) (hl0_0 : List.length b = nm) (hl1_0 : List.length c = mm) (w : World) (β : Env) (k : Nat) (hk : k < n) (s : Unit) : Run Try.prog ⟨w, [], 2, β⟩ (loopB Try.f24 0) (sameBL_mk n nm b m mm c cap0 cap1 k s) (To ⟨w, [], 2, β⟩ .normal (sameBL_mk n nm b m mm c cap0 cap1 (k + 1) (sameBL_step k s))) := by
  have e0 : (IntKind.i64.wrap (((k : Nat) : Int) + (1 : Int))) = (((k + (1 : Nat)) : Nat) : Int) := (by first | rfl | exact wrap_succ (by omega) | omega | (simp (disch := omega) only [wrapI]; omega))
  have h := Run.of_outT (B := ⟨w, [], 2, β⟩) (Λ := noLam) (Ψ := noPsi) (fuel := 0) (ora := [true, false]) (c := (loopB Try.f24 0)) (st := (sameBL_mk n nm b m mm c cap0 cap1 k s)) (l := [.forget [0, 1, 5, 6, 7, 8, 9, 10] 2]) (s' := ⟨sparse 26 [(0, .o (.a (.sl 0 0 n cap0))), (1, .o (.a (.sl 1 0 m cap1))), (5, .o (.a (.i .i64 (IntKind.i64.wrap (((k : Nat) : Int) + (1 : Int)))))), (6, .o (.a (.sl 0 0 n cap0))), (7, .o (.a (.i .i64 ((n : Nat) : Int)))), (8, .o (.a (.sl 1 0 m cap1))), (9, .o (.a (.i .i64 ((m : Nat) : Int)))), (10, .o (.a (.b (((n : Nat) : Int) != ((m : Nat) : Int)))))], [some ⟨false, [.ints .u8 nm b]⟩, some ⟨false, [.ints .u8 mm c]⟩]⟩) (ex := .normal) mix tabOkUB gam18_ok
    (vc := [(((List.getD b k 0) != (List.getD c k 0)) = false), (k < mm), (((0 : Int) ≤ ((k : Nat) : Int)) ∧ (((k : Nat) : Int) < ((m : Nat) : Int))), (k < nm), (((0 : Int) ≤ ((k : Nat) : Int)) ∧ (((k : Nat) : Int) < ((n : Nat) : Int))), ((decide (((k : Nat) : Int) < ((n : Nat) : Int))) = true)]) (by kernel_rfl)
    (aC (by rw [h3]; exact not_bne_self _) (aC (by first | omega | (simp (disch := omega) only [wrapI]; omega)) (aC ⟨(by first | omega | (simp (disch := omega) only [wrapI]; omega)), (by first | omega | (simp (disch := omega) only [wrapI]; omega))⟩ (aC (by first | omega | (simp (disch := omega) only [wrapI]; omega)) (aC ⟨(by first | omega | (simp (disch := omega) only [wrapI]; omega)), (by first | omega | (simp (disch := omega) only [wrapI]; omega))⟩ (aC (decide_eq_true (by first | omega | (simp (disch := omega) only [wrapI]; omega))) (AllP_nil)))))))
  rw [e0] at h
  exact h

set_option maxHeartbeats 1000000 in
theorem sameBL_last (n nm : Nat) (b : List Int) (m mm : Nat) (c : List Int) (cap0 cap1 : Nat) (h0 : (nm = n)) (h1 : (mm = m)) (h2 : (m = n)) (h3 : (b = c)) (h4 : (n < (70368744177664 : Nat))) (hc0 : n ≤ cap0) (hc1 : m ≤ cap1) (hl0_0 : List.length b = nm) (hl1_0 : List.length c = mm) (w : World) (β : Env) (s : Unit) : Run Try.prog ⟨w, [], 2, β⟩ (loopB Try.f24 0) (sameBL_mk n nm b m mm c cap0 cap1 n s) (To ⟨w, [], 2, β⟩ (.exit 0) (sameBL_mk n nm b m mm c cap0 cap1 n s)) :=
  Run.of_outT (B := ⟨w, [], 2, β⟩) (Λ := noLam) (Ψ := noPsi) (fuel := 0) (ora := [false]) (l := [.forget [0, 1, 5, 6, 7, 8, 9, 10] 2]) mix tabOkUB gam18_ok
    (vc := [((decide (((n : Nat) : Int) < ((n : Nat) : Int))) = false)]) (by kernel_rfl)
    (aC (decide_eq_false (by first | omega | (simp (disch := omega) only [wrapI]; omega))) (AllP_nil))

theorem sameBL_loop (n nm : Nat) (b : List Int) (m mm : Nat) (c : List Int) (cap0 cap1 : Nat) (h0 : (nm = n)) (h1 : (mm = m)) (h2 : (m = n)) (h3 : (b = c)) (h4 : (n < (70368744177664 : Nat))) (hc0 : n ≤ cap0) (hc1 : m ≤ cap1) (hl0_0 : List.length b = nm) (hl1_0 : List.length c = mm) (w : World) (β : Env) (s : Unit) : Run Try.prog ⟨w, [], 2, β⟩ (.block 0 (.loop (loopB Try.f24 0))) (sameBL_mk n nm b m mm c cap0 cap1 0 s) (To ⟨w, [], 2, β⟩ .normal (sameBL_mk n nm b m mm c cap0 cap1 n (iter (sameBL_step) n s))) :=
  Run.count (fun k => sameBL_mk n nm b m mm c cap0 cap1 k (iter (sameBL_step) k s)) n (fun k hk => sameBL_round n nm b m mm c cap0 cap1 h0 h1 h2 h3 h4 hc0 hc1 hl0_0 hl1_0 w β k hk _) (ex := (.exit 0)) (by simp) (sameBL_last n nm b m mm c cap0 cap1 h0 h1 h2 h3 h4 hc0 hc1 hl0_0 hl1_0 w β _)

set_option maxHeartbeats 1000000 in
theorem sameB_body0 (n nm : Nat) (b : List Int) (m mm : Nat) (c : List Int) (cap0 cap1 : Nat) (h0 : (nm = n)) (h1 : (mm = m)) (h2 : (m = n)) (h3 : (b = c)) (h4 : (n < (70368744177664 : Nat))) (hc0 : n ≤ cap0) (hc1 : m ≤ cap1) (hl0_0 : List.length b = nm) (hl1_0 : List.length c = mm) (w : World) (β : Env) : Body Try.prog (tabOf tabUB) Try.f24 ⟨w, [], 2, β⟩ [.o (.a (.sl 0 0 n cap0)), .o (.a (.sl 1 0 m cap1))] [some ⟨false, [.ints .u8 nm b]⟩, some ⟨false, [.ints .u8 mm c]⟩] (fun ys _ => ys = [.a (.b true)]) :=
  Body.of_fin (Γ := gam18) (Λ := lamOf [(0, ⟨[.forget [0, 1, 5, 6, 7, 8, 9, 10] 2], .normal, (sameBL_mk n nm b m mm c cap0 cap1 n (iter (sameBL_step) n ()))⟩)]) (Ψ := noPsi) (fuel := 0) (m := 26) (c := (Try.f24.body.getD .skip)) mix tabOkUB gam18_ok rfl (rs := [.tmp 4]) rfl rfl [false] []
    (vc := [(Run Try.prog ⟨w, [], 2, β⟩ (.block 0 (.loop (loopB Try.f24 0))) (sameBL_mk n nm b m mm c cap0 cap1 0 ()) (To ⟨w, [], 2, β⟩ .normal (sameBL_mk n nm b m mm c cap0 cap1 n (iter (sameBL_step) n ())))), ((((n : Nat) : Int) != ((m : Nat) : Int)) = false)]) (by kernel_rfl)
    (aC (sameBL_loop n nm b m mm c cap0 cap1 h0 h1 h2 h3 h4 hc0 hc1 hl0_0 hl1_0 w β ()) (aC (bne_eq_false_iff_eq.2 (by first | omega | (simp (disch := omega) only [wrapI]; omega))) (AllP_nil)))

theorem sameB_body (n nm : Nat) (b : List Int) (m mm : Nat) (c : List Int) (cap0 cap1 : Nat) (h0 : (nm = n)) (h1 : (mm = m)) (h2 : (m = n)) (h3 : (b = c)) (h4 : (n < (70368744177664 : Nat))) (w : World) (β : Env) : Body Try.prog (tabOf tabUB) Try.f24 ⟨w, [], 2, β⟩ [.o (.a (.sl 0 0 n cap0)), .o (.a (.sl 1 0 m cap1))] [some ⟨false, [.ints .u8 nm b]⟩, some ⟨false, [.ints .u8 mm c]⟩] (fun ys _ => ys = [.a (.b true)]) :=
  Body.lens (c := (Try.f24.body.getD .skip)) rfl fun h => sameB_body0 n nm b m mm c cap0 cap1 h0 h1 h2 h3 h4 (h.caps 0 _ _ _ _ rfl) (h.caps 1 _ _ _ _ rfl) (h.lens 0 _ .u8 nm b rfl (by simp)) (h.lens 1 _ .u8 mm c rfl (by simp)) w β

noncomputable def gam19 : Gam := greadV 24 [.s 1, .s 1] (fun vs args => match vs, args with | [⟨_, _, _, [.ints .u8 nm b]⟩, ⟨_, _, _, [.ints .u8 mm c]⟩], [a0, a1] => some ((nm = (lenOfA a0)) ∧ (mm = (lenOfA a1)) ∧ ((lenOfA a1) = (lenOfA a0)) ∧ (b = c) ∧ ((lenOfA a0) < (70368744177664 : Nat)), [.a (.b true)]) | _, _ => none) gam18
theorem gam19_ok : GamOk Try.prog gam19 := greadV_ok tabOkUB Try.func24 gam18_ok Try.call24 (by
  intro vs args p xs h hv
  split at h
  · simp only [Option.some.injEq, Prod.mk.injEq] at h; obtain ⟨rfl, rfl⟩ := h; exact ⟨by rfl, fun caps w β => sameB_body _ _ _ _ _ _ _ _ hv.1 hv.2.1 hv.2.2.1 hv.2.2.2.1 hv.2.2.2.2 w β⟩
  · simp at h)

end Go.Proofs.Ytepimglipelpmaa.X

/- The core, part 5 of 5: blocks of memory known by number, and an evaluator over loaded code, shown sound. -/
/- Rows: a law that answers true and leaves what was there as it was: from its body to its post; arguments opened. -/
namespace Go.Proofs.Ytepimglipelpmaa.R
open Go Go.Proofs Go.ChangeShapes Go.WideShapes Go.ChangeAt Go.RowKit Go.Proofs.Ytepimglipelpmaa.X
set_option linter.unusedVariables false

theorem below {W W' : World} (g : Grow W W') : Below W.heap.size W W' := ⟨g.os, g.tape, g.output, g.size, g.old⟩

section post
variable {H : Type} {enc : TypeId × Value → H} {P : Program}

/-- types that read again -/
def Reads (P : Program) (ts : List TypeId) : Bool := laidOutB P && ts.all fun t => P.readableRec t && decide (t < P.types.size)

theorem trodAll_grow (hl : laidOutB P = true) {W W' : World} (g : Grow W W') {sp : Nat → Bool} : ∀ {ts : List TypeId} {vs : List Value} {ds : List (DataW H)} {ps : List MemPlace}, (ts.all fun t => P.readableRec t && decide (t < P.types.size)) = true →
    DataW.TrodAll enc P W 0 (fun _ => true) true ts vs ds ps → (∀ p ∈ ps, p.block < W.heap.size) → (∀ p ∈ ps, sp p.block = true) → DataW.TrodAll enc P W' 0 sp true ts vs ds ps
  | [], [], [], ps, _, h, _, _ => h
  | [], _ :: _, _, _, _, h, _, _ => h.elim
  | [], [], _ :: _, _, _, h, _, _ => h.elim
  | _ :: _, [], _, _, _, h, _, _ => h.elim
  | _ :: _, _ :: _, [], _, _, h, _, _ => h.elim
  | t :: ts, v :: vs, d :: ds, ps, ht, h, hlt, hsp => by
    obtain ⟨p, q, hd, hr, rfl⟩ := h
    simp only [List.all_cons, Bool.and_eq_true, decide_eq_true_eq] at ht
    exact ⟨p, q, WideElems.Trod_stays hl ht.1.1 ht.1.2 hd (fun x hx => (below g).same (hlt x (by simp [hx]))) (fun x hx => hsp x (by simp [hx])),
      trodAll_grow hl g ht.2 hr (fun x hx => hlt x (by simp [hx])) (fun x hx => hsp x (by simp [hx])), rfl⟩

theorem post_true {f : Func} {s : ChangeSpec} {W W' : World} {args : Array Value} {ds : List (DataW H)} {before : List MemPlace} {tb : TypeId}
    (hreads : Reads P f.params.toList = true) (hvars : s.vars = []) (hfn : s.fn H ds = { results := [.lit (.bool true)], args := ds }) (hrt : f.resultTypes = #[tb]) (htb : P.underlying tb = some .bool)
    (hW : DataW.Whole enc P f.params.toList s.vars false W args.toList ds [] before) (g : Grow W W') : s.post enc P f false true false false W args (.bool true) W' := by
  unfold Reads at hreads
  rw [Bool.and_eq_true] at hreads
  have hW0 := hW
  obtain ⟨p, q, hA, hV, rfl, hfz, hnd⟩ := hW
  rw [hvars] at hV
  obtain ⟨_, rfl⟩ := trodVars_none hV
  have hlt : ∀ x ∈ p ++ [], x.block < W.heap.size := fun x hx => by simpa using hW0.lt x hx
  have hfn' : s.fn H (ds ++ []) = { results := [.lit (.bool true)], args := ds } := by rw [List.append_nil]; exact hfn
  refine ⟨ds, [], p ++ [], [], p ++ [], [], hW0, ?_, ?_, ?_, (below g).frame _, fun h => by cases h⟩
  · rw [hfn', hrt]; exact trodAll_cons_mk (shut_bool htb _) trodAll_mk0
  · rw [hfn']
    rw [List.append_nil] at hlt ⊢
    exact trodAll_grow hreads.1 g hreads.2 hA hlt (fun x hx => by simpa using hlt x hx)
  · rw [hfn', hvars]; exact rfl
end post

/-- what a list of arguments is, abstractly, with blocks from the i-th on -/
def Opened (W : World) (i : Nat) (vs : List Value) (avs : List AV) (K : Know) : Prop :=
  ∃ ρ : List (Option Ref), ρ.length = K.length ∧ ∀ β : Env, (∀ j, j < ρ.length → β (i + j) = (ρ[j]?).join) →
    (∀ j b, K.at j = some b → b.own = false ∧ b.holds β W (i + j) ∧ ∀ r, β (i + j) = some r → r.blk < W.heap.size) ∧ allC β avs vs

theorem Opened.nil {W : World} {i : Nat} : Opened W i [] [] [] := ⟨[], rfl, fun β _ => ⟨fun j b h => by simp [Know.at] at h, rfl⟩⟩

theorem allC_app {β : Env} : ∀ {a b : List AV} {x y : List Value}, allC β a x → allC β b y → allC β (a ++ b) (x ++ y)
  | [], _, _, _, h, h' => by cases h; exact h'
  | _ :: _, _, _, _, ⟨v, r, hv, hc, hr⟩, h' => by subst hv; exact ⟨v, _, rfl, hc, allC_app hr h'⟩

theorem Opened.app {W : World} {i : Nat} {vs vs' : List Value} {avs avs' : List AV} {K K' : Know} (h : Opened W i vs avs K) (h' : Opened W (i + K.length) vs' avs' K') : Opened W i (vs ++ vs') (avs ++ avs') (K ++ K') := by
  obtain ⟨ρ, hl, hρ⟩ := h
  obtain ⟨ρ', hl', hρ'⟩ := h'
  refine ⟨ρ ++ ρ', by simp [hl, hl'], fun β hβ => ?_⟩
  obtain ⟨h1, h2⟩ := hρ β fun j hj => by rw [hβ j (by simp; omega), List.getElem?_append_left hj]
  obtain ⟨h3, h4⟩ := hρ' β fun j hj => by
    rw [Nat.add_assoc, hβ (K.length + j) (by simp; omega), List.getElem?_append_right (by omega)]
    congr 2; omega
  refine ⟨fun j b hb => ?_, allC_app h2 h4⟩
  by_cases hj : j < K.length
  · refine h1 j b ?_
    unfold Know.at at hb ⊢; rwa [List.getElem?_append_left hj] at hb
  · have := h3 (j - K.length) b (by unfold Know.at at hb ⊢; rwa [List.getElem?_append_right (by omega)] at hb)
    rw [show i + K.length + (j - K.length) = i + j from by omega] at this
    exact this

theorem Opened.rel {W : World} {vs : List Value} {avs : List AV} {K : Know} (h : Opened W 0 vs avs K) : ∃ β : Env, RelW W [] β K W ∧ allC β avs vs := by
  obtain ⟨ρ, hl, hρ⟩ := h
  obtain ⟨h1, h2⟩ := hρ (fun j => (ρ[j]?).join) fun j hj => by rw [Nat.zero_add]
  refine ⟨_, RelW.ofRead fun j b hj => ?_, h2⟩
  have := h1 j b hj
  rw [Nat.zero_add] at this; exact this

/-- a value without places -/
theorem Opened.val {W : World} {i : Nat} {v : Value} {x : V1} (h : ∀ β : Env, x.con β v) : Opened W i [v] [.o x] [] :=
  ⟨[], rfl, fun β _ => ⟨fun j b hb => by simp [Know.at] at hb, ⟨v, [], rfl, h β, rfl⟩⟩⟩

/-- a slice of integers -/
theorem Opened.sl {W : World} {i : Nat} {k : IntKind} {a0 : Option Addr} {len cap : Nat} {L : List Int} (hL : L.length = len) (hlc : len ≤ cap)
    (hc : 0 < cap → ∃ b off arr ty fr, a0 = some ⟨b, off, none⟩ ∧ W.heap[b]? = some (.cells arr ty fr) ∧ off + len ≤ arr.size ∧ ∀ i x, L[i]? = some x → arr[off + i]? = some (.int k x)) :
    Opened W i [.slice a0 len cap] [.o (.a (.sl i 0 len cap))] [some ⟨false, [.ints k len L]⟩] := by
  have hbk : ∀ j (bk : Blk), Know.at [some ⟨false, [.ints k len L]⟩] j = some bk → j = 0 ∧ bk = ⟨false, [.ints k len L]⟩ := by
    intro j bk hj
    match j, hj with
    | 0, hj => exact ⟨rfl, (Option.some.inj hj).symm⟩
    | j + 1, hj => simp [Know.at] at hj
  by_cases h0 : 0 < cap
  · obtain ⟨b, off, arr, ty, fr, rfl, hh, hs, hx⟩ := hc h0
    have hlt : b < W.heap.size := (Array.getElem?_eq_some_iff.1 hh).1
    refine ⟨[some ⟨b, off, arr.size⟩], rfl, fun β hβ => ?_⟩
    have hb := hβ 0 (by simp)
    rw [Nat.add_zero] at hb
    have hb : β i = some ⟨b, off, arr.size⟩ := hb
    refine ⟨fun j bk hj => ?_, _, [], rfl, ⟨_, rfl, hlc, fun _ => ⟨_, hb, rfl⟩⟩, rfl⟩
    obtain ⟨rfl, rfl⟩ := hbk j bk hj
    rw [Nat.add_zero]
    refine ⟨rfl, ⟨L.map (Value.int k), ⟨_, [], by simp, ⟨hL, rfl⟩, rfl⟩, .inr ⟨_, arr, ty, fr, hb, hh, rfl, by simp; omega, ?_, fun h => by cases h⟩⟩, fun r hr => by rw [hb] at hr; cases hr; exact hlt⟩
    intro i v hv
    rw [List.getElem?_map, Option.map_eq_some_iff] at hv
    obtain ⟨x, hx', rfl⟩ := hv
    exact hx i x hx'
  · have hn : L = [] := List.length_eq_zero_iff.1 (by omega)
    subst hn
    have hl0 : len = 0 := by omega
    subst hl0
    refine ⟨[none], rfl, fun β hβ => ?_⟩
    have hb : β i = none := hβ 0 (by simp)
    refine ⟨fun j bk hj => ?_, _, [], rfl, ⟨_, rfl, hlc, fun h => absurd h h0⟩, rfl⟩
    obtain ⟨rfl, rfl⟩ := hbk j bk hj
    rw [Nat.add_zero]
    exact ⟨rfl, ⟨[], ⟨[], [], rfl, ⟨rfl, rfl⟩, rfl⟩, .inl ⟨rfl, .inl rfl⟩⟩, fun r hr => by rw [hb] at hr; cases hr⟩

section args
variable {H : Type} {enc : TypeId × Value → H} {P : Program} {W : World} {base : Nat} {sp : Nat → Bool}

/-- an argument []int, opened -/
theorem ints_arg {t e : TypeId} {k : IntKind} {v : Value} {d : DataW H} {p : List MemPlace} (ht : P.underlying t = some (.slice e)) (he : P.underlying e = some (.int k)) (hc : P.cellsOf e = 1)
    (hval : Value.okWide P W .any base t v) (h : DataW.Trod enc P W 0 (fun _ => true) true t v d p) :
    ∃ (len cap : Nat) (L : List Int), L.length = len ∧ len ≤ cap ∧ (∀ n ∈ L, (Lit.int k n).wf = true) ∧ (∀ i, Opened W i [v] [.o (.a (.sl i 0 len cap))] [some ⟨false, [.ints k len L]⟩]) ∧
      ((d = .nil ∧ len = 0) ∨ ∃ s, d = .slice (lits k L) s) := by
  obtain ⟨a0, len, cap, rfl⟩ := okWide_slice ht hval
  obtain ⟨fuel, hf⟩ := h
  rcases open_ints ht he hc hf with ⟨hcs, hx⟩ | ⟨a, len', cap', zs, hcs, _, hl, hm, hz, hx, hcell, hwz⟩
  · simp [Value.cells] at hcs
    obtain ⟨rfl, rfl, rfl⟩ := hcs
    simp only [Prod.mk.injEq] at hx
    exact ⟨0, 0, [], rfl, Nat.le_refl _, by simp, fun i => Opened.sl rfl (Nat.le_refl _) (fun h => absurd h (by omega)), .inl ⟨hx.1, rfl⟩⟩
  · simp [Value.cells] at hcs
    obtain ⟨rfl, rfl, rfl⟩ := hcs
    simp only [Prod.mk.injEq] at hx
    simp only [if_true] at hz
    refine ⟨len, cap, zs.take len, by simp; omega, hl, fun n hn => hwz n (List.mem_of_mem_take hn), fun i => Opened.sl (by simp; omega) hl fun hpos => ?_, .inr ⟨_, hx.1⟩⟩
    obtain ⟨b, off, rfl, hcell2⟩ := ints_at hcell (by omega)
    have h00 := hcell2 0 (by omega)
    unfold World.cell? at h00
    split at h00
    · rename_i arr ty fr hh
      have hget : ∀ j, j < zs.length → arr[off + j]? = some (.int k (zs.getD j 0)) := by
        intro j hj
        have h1 := hcell2 j hj
        unfold World.cell? at h1
        rw [hh] at h1
        simpa using h1
      refine ⟨b, off, arr, ty, fr, rfl, hh, ?_, ?_⟩
      · have := (Array.getElem?_eq_some_iff.1 (hget (zs.length - 1) (by omega))).1
        omega
      · intro i x hix
        rw [List.getElem?_take] at hix
        split at hix
        · have hlt := (List.getElem?_eq_some_iff.1 hix).1
          rw [hget i hlt, List.getD_eq_getElem?_getD, hix]; rfl
        · cases hix
    · cases h00

end args

/-- a law whose body answers true -/
theorem calls_true {P : Program} {T : Tab} (hT : TabOk P T) {f : FuncId} {fn : Func} (hf : P.funcs[f]? = some fn) {W : World} {vs : List Value} {avs : List AV} {K : Know} (ho : Opened W 0 vs avs K)
    (h : ∀ β : Env, Body P T fn ⟨W, [], K.length, β⟩ avs K fun ys _ => ys = [.a (.b true)]) :
    Calls P f vs.toArray W fun e W' => e = .returned (.bool true) ∧ Grow W W' := by
  obtain ⟨β, hrel, hall⟩ := ho.rel
  refine Calls.mono (calls_of_body hT hf hall hrel (h β)) fun e W' h => ?_
  obtain ⟨xs, K, v, β', hx, rfl, hv, hr, _⟩ := h
  subst hx
  have hv : [v] = [Value.bool true] := hv
  simp only [List.cons.injEq, and_true] at hv
  subst hv
  exact ⟨rfl, hr.toGrow⟩
end Go.Proofs.Ytepimglipelpmaa.R

/- Arguments that are structs: opened cell by cell. -/
namespace Go.Proofs.Ytepimglipelpmaa.R
open Go Go.Proofs Go.ChangeShapes Go.WideShapes Go.ChangeAt Go.RowKit Go.Proofs.Ytepimglipelpmaa.X
set_option linter.unusedVariables false

/-- a row of cells, abstractly, with blocks from the i-th on -/
def OpenC (W : World) (i : Nat) (cs : List Value) (l : List Atom) (K : Know) : Prop :=
  ∃ ρ : List (Option Ref), ρ.length = K.length ∧ ∀ β : Env, (∀ j, j < ρ.length → β (i + j) = (ρ[j]?).join) →
    (∀ j b, K.at j = some b → b.own = false ∧ b.holds β W (i + j) ∧ ∀ r, β (i + j) = some r → r.blk < W.heap.size) ∧ cons β l cs

theorem OpenC.nil {W : World} {i : Nat} : OpenC W i [] [] [] := ⟨[], rfl, fun β _ => ⟨fun j b h => by simp [Know.at] at h, rfl⟩⟩

theorem cons_app {β : Env} : ∀ {a b : List Atom} {x y : List Value}, cons β a x → cons β b y → cons β (a ++ b) (x ++ y)
  | [], _, _, _, h, h' => by cases h; exact h'
  | _ :: _, _, _, _, ⟨v, r, hv, hc, hr⟩, h' => by subst hv; exact ⟨v, _, by rw [List.append_assoc], hc, cons_app hr h'⟩

theorem OpenC.app {W : World} {i : Nat} {vs vs' : List Value} {l l' : List Atom} {K K' : Know} (h : OpenC W i vs l K) (h' : OpenC W (i + K.length) vs' l' K') : OpenC W i (vs ++ vs') (l ++ l') (K ++ K') := by
  obtain ⟨ρ, hl, hρ⟩ := h
  obtain ⟨ρ', hl', hρ'⟩ := h'
  refine ⟨ρ ++ ρ', by simp [hl, hl'], fun β hβ => ?_⟩
  obtain ⟨h1, h2⟩ := hρ β fun j hj => by rw [hβ j (by simp; omega), List.getElem?_append_left hj]
  obtain ⟨h3, h4⟩ := hρ' β fun j hj => by
    rw [Nat.add_assoc, hβ (K.length + j) (by simp; omega), List.getElem?_append_right (by omega)]
    congr 2; omega
  refine ⟨fun j b hb => ?_, cons_app h2 h4⟩
  by_cases hj : j < K.length
  · refine h1 j b ?_
    unfold Know.at at hb ⊢; rwa [List.getElem?_append_left hj] at hb
  · have := h3 (j - K.length) b (by unfold Know.at at hb ⊢; rwa [List.getElem?_append_right (by omega)] at hb)
    rw [show i + K.length + (j - K.length) = i + j from by omega] at this
    exact this

theorem OpenC.agg {W : World} {i : Nat} {cs : Array Value} {l : List Atom} {K : Know} (h : OpenC W i cs.toList l K) : Opened W i [.agg cs] [.o (.g l)] K := by
  obtain ⟨ρ, hl, hρ⟩ := h
  refine ⟨ρ, hl, fun β hβ => ?_⟩
  obtain ⟨h1, h2⟩ := hρ β hβ
  exact ⟨h1, _, [], rfl, ⟨cs.toList, by simp, h2⟩, rfl⟩

theorem OpenC.one {W : World} {i : Nat} {v : Value} {x : Atom} {K : Know} (h : OpenC W i [v] [x] K) : Opened W i [v] [.o (.a x)] K := by
  obtain ⟨ρ, hl, hρ⟩ := h
  refine ⟨ρ, hl, fun β hβ => ?_⟩
  obtain ⟨h1, x, y, h2, h3, h4⟩ := hρ β hβ
  cases h4
  rw [List.append_nil] at h2
  subst h2
  exact ⟨h1, _, [], rfl, h3, rfl⟩

/-- cells without places -/
theorem OpenC.val {W : World} {i : Nat} {vs : List Value} {l : List Atom} (h : ∀ β : Env, cons β l vs) : OpenC W i vs l [] :=
  ⟨[], rfl, fun β _ => ⟨fun j b hb => by simp [Know.at] at hb, h β⟩⟩

section args
variable {H : Type} {enc : TypeId × Value → H} {P : Program} {W : World} {base : Nat} {sp : Nat → Bool}

theorem OpenC.ints {i : Nat} {k : IntKind} {n : Nat} {S : List Int} (h : S.length = n) : OpenC W i (S.map (Value.int k)) [.ints k n S] [] :=
  OpenC.val fun β => ⟨_, [], by simp, ⟨h, rfl⟩, rfl⟩

theorem OpenC.int {i : Nat} {k : IntKind} {n : Int} : OpenC W i [.int k n] [.i k n] [] := OpenC.val fun β => ⟨_, [], by simp, rfl, rfl⟩

end args
end Go.Proofs.Ytepimglipelpmaa.R

/- Arguments that are slices of whatever: their cells as values. -/
namespace Go.Proofs.Ytepimglipelpmaa.R
open Go Go.Proofs Go.ChangeShapes Go.WideShapes Go.ChangeAt Go.RowKit Go.Proofs.Ytepimglipelpmaa.X
set_option linter.unusedVariables false

theorem vals_open {W : World} {i : Nat} {a0 : Option Addr} {len cap N : Nat} {L : List Value} (hL : L.length = N) (hlc : len ≤ cap) (hone : ∀ v ∈ L, v.oneCell' = true) (h0 : cap = 0 → N = 0)
    (hc : 0 < cap → ∃ b off arr ty fr, a0 = some ⟨b, off, none⟩ ∧ W.heap[b]? = some (.cells arr ty fr) ∧ off + N ≤ arr.size ∧ ∀ i x, L[i]? = some x → arr[off + i]? = some x) :
    Opened W i [.slice a0 len cap] [.o (.a (.sl i 0 len cap))] [some ⟨false, [.vals N L]⟩] := by
  have hbk : ∀ j (bk : Blk), Know.at [some ⟨false, [.vals N L]⟩] j = some bk → j = 0 ∧ bk = ⟨false, [.vals N L]⟩ := by
    intro j bk hj
    match j, hj with
    | 0, hj => exact ⟨rfl, (Option.some.inj hj).symm⟩
    | j + 1, hj => simp [Know.at] at hj
  by_cases hcap : 0 < cap
  · obtain ⟨b, off, arr, ty, fr, rfl, hh, hs, hx⟩ := hc hcap
    have hlt : b < W.heap.size := (Array.getElem?_eq_some_iff.1 hh).1
    refine ⟨[some ⟨b, off, arr.size⟩], rfl, fun β hβ => ?_⟩
    have hb := hβ 0 (by simp)
    rw [Nat.add_zero] at hb
    have hb : β i = some ⟨b, off, arr.size⟩ := hb
    refine ⟨fun j bk hj => ?_, _, [], rfl, ⟨_, rfl, hlc, fun _ => ⟨_, hb, rfl⟩⟩, rfl⟩
    obtain ⟨rfl, rfl⟩ := hbk j bk hj
    rw [Nat.add_zero]
    exact ⟨rfl, ⟨L, ⟨_, [], by simp, ⟨hL, rfl, hone⟩, rfl⟩, .inr ⟨_, arr, ty, fr, hb, hh, rfl, by simp; omega, hx, fun h => by cases h⟩⟩, fun r hr => by rw [hb] at hr; cases hr; exact hlt⟩
  · have hN : N = 0 := h0 (by omega)
    have hn : L = [] := List.length_eq_zero_iff.1 (by omega)
    subst hn
    refine ⟨[none], rfl, fun β hβ => ?_⟩
    have hb : β i = none := hβ 0 (by simp)
    refine ⟨fun j bk hj => ?_, _, [], rfl, ⟨_, rfl, hlc, fun h => absurd h hcap⟩, rfl⟩
    obtain ⟨rfl, rfl⟩ := hbk j bk hj
    rw [Nat.add_zero]
    exact ⟨rfl, ⟨[], ⟨[], [], rfl, ⟨hL, rfl, by simp⟩, rfl⟩, .inl ⟨rfl, .inl rfl⟩⟩, fun r hr => by rw [hb] at hr; cases hr⟩

section args
variable {H : Type} {enc : TypeId × Value → H} {P : Program} {W : World} {base : Nat}

/-- a slice's cells, all its room -/
theorem slice_cells {t e : TypeId} {fuel : Nat} {cs : List Value} {x : DataW H × List MemPlace} (ht : P.underlying t = some (.slice e)) (hpos : 0 < P.cellsOf e) (h : DataW.trod enc P W 0 (fun _ => true) true fuel t cs = some x) :
    (cs = [.slice none 0 0] ∧ x.1 = .nil) ∨
    ∃ (a : Addr) (len cap n : Nat) (xs rest : List (DataW H × List MemPlace)) (A : List Value), cs = [.slice (some a) len cap] ∧ x.1 = .slice (xs.map (·.1)) (rest.map (·.1)) ∧ len ≤ cap ∧ cap ≤ maxLen ∧ xs.length = len ∧ A.length = cap * P.cellsOf e ∧
      (∀ i, i < cap * P.cellsOf e → W.cell? (a.add i) = A[i]?) ∧ ∀ i, i < cap → ∃ y, DataW.trod enc P W 0 (fun _ => true) true n e ((A.drop (i * P.cellsOf e)).take (P.cellsOf e)) = some y ∧ (i < len → xs[i]? = some y) := by
  rcases DataW.trod_slice ht h with ⟨h1, rfl⟩ | ⟨a, len, cap, elems, rest, n, _, rfl, rfl, _, hl, hm, hlen, hel, hsp, _⟩
  · exact .inl ⟨h1, rfl⟩
  obtain ⟨hrl, hr⟩ := hsp rfl
  have each : ∀ i, i < cap → ∃ y, (W.cells? 0 (a.add (i * P.cellsOf e)) (P.cellsOf e)).bind (DataW.trod enc P W 0 (fun _ => true) true n e) = some y ∧ (i < len → elems[i]? = some y) := by
    intro i hi
    by_cases h1 : i < len
    · have h2 : i < elems.length := by omega
      exact ⟨elems[i], by rw [hel i h1, List.getElem?_eq_getElem h2], fun _ => List.getElem?_eq_getElem h2⟩
    · have h2 : i - len < rest.length := by omega
      have := hr (i - len) (by omega)
      rw [show len + (i - len) = i by omega] at this
      exact ⟨rest[i - len], by rw [this, List.getElem?_eq_getElem h2], fun h => absurd h h1⟩
  have some_ : ∀ i, i < cap * P.cellsOf e → ∃ v, W.cell? (a.add i) = some v := by
    intro i hi
    have hq : i / P.cellsOf e < cap := (Nat.div_lt_iff_lt_mul hpos).2 hi
    obtain ⟨y, hy, _⟩ := each _ hq
    rw [Option.bind_eq_some_iff] at hy
    obtain ⟨ds, hds, _⟩ := hy
    obtain ⟨_, h2, h3⟩ := World.cells?_some hds
    have h4 := h3 (i % P.cellsOf e) (Nat.mod_lt _ hpos)
    rw [Addr.add_add, show i / P.cellsOf e * P.cellsOf e + i % P.cellsOf e = i from Nat.div_add_mod' _ _] at h4
    have h5 : i % P.cellsOf e < ds.length := by rw [h2]; exact Nat.mod_lt _ hpos
    exact ⟨ds[i % P.cellsOf e], by rw [h4, List.getElem?_eq_getElem h5]⟩
  refine .inr ⟨a, len, cap, n, elems, rest, (List.range (cap * P.cellsOf e)).map fun i => (W.cell? (a.add i)).getD undef, rfl, rfl, hl, hm, hlen, by simp, ?_, ?_⟩
  · intro i hi
    obtain ⟨v, hv⟩ := some_ i hi
    rw [List.getElem?_map, List.getElem?_range hi, hv]
    simp [hv]
  · intro i hi
    obtain ⟨y, hy, hy2⟩ := each i hi
    refine ⟨y, ?_, hy2⟩
    rw [Option.bind_eq_some_iff] at hy
    obtain ⟨ds, hds, hy3⟩ := hy
    obtain ⟨_, h2, h3⟩ := World.cells?_some hds
    have hle : i * P.cellsOf e + P.cellsOf e ≤ cap * P.cellsOf e := by
      have := Nat.mul_le_mul_right (P.cellsOf e) (Nat.succ_le_of_lt hi)
      rw [Nat.succ_mul] at this; exact this
    have : ((((List.range (cap * P.cellsOf e)).map fun i => (W.cell? (a.add i)).getD undef).drop (i * P.cellsOf e)).take (P.cellsOf e)) = ds := by
      refine List.ext_getElem? fun j => ?_
      by_cases hj : j < P.cellsOf e
      · rw [List.getElem?_take_of_lt hj, List.getElem?_drop, List.getElem?_map, List.getElem?_range (by omega)]
        have h4 := h3 j hj
        rw [Addr.add_add] at h4
        have h5 : j < ds.length := by omega
        simp only [Option.map_some]
        rw [h4, List.getElem?_eq_getElem h5]; rfl
      · rw [List.getElem?_eq_none (by simp; omega), List.getElem?_eq_none (by omega)]
    rw [this]; exact hy3

/-- a slice whose elements have c cells, opened -/
theorem vals_arg {t e : TypeId} {c : Nat} {v : Value} {d : DataW H} {p : List MemPlace} (ht : P.underlying t = some (.slice e)) (hcc : P.cellsOf e = c) (hpos : 0 < c)
    (hone : ∀ (n : Nat) (cs : List Value) (y : DataW H × List MemPlace), DataW.trod enc P W 0 (fun _ => true) true n e cs = some y → ∀ v ∈ cs, v.oneCell' = true)
    (hval : Value.okWide P W .any base t v) (h : DataW.Trod enc P W 0 (fun _ => true) true t v d p) :
    ∃ (len cap : Nat) (L : List Value), L.length = len * c ∧ len ≤ cap ∧ (∀ i, Opened W i [v] [.o (.a (.sl i 0 len cap))] [some ⟨false, [.vals (len * c) L]⟩]) ∧
      ((d = .nil ∧ len = 0) ∨ ∃ (n : Nat) (xs : List (DataW H × List MemPlace)) (s : List (DataW H)), d = .slice (xs.map (·.1)) s ∧ xs.length = len ∧
        ∀ i, i < len → ∃ y, DataW.trod enc P W 0 (fun _ => true) true n e ((L.drop (i * c)).take c) = some y ∧ xs[i]? = some y) := by
  subst hcc
  obtain ⟨a0, len, cap, rfl⟩ := okWide_slice ht hval
  obtain ⟨fuel, hf⟩ := h
  rcases slice_cells ht hpos hf with ⟨hcs, hx⟩ | ⟨a, len', cap', n, xs, rest, A, hcs, hx, hl, hm, hxl, hAl, hcell, hel⟩
  · simp [Value.cells] at hcs
    obtain ⟨rfl, rfl, rfl⟩ := hcs
    exact ⟨0, 0, [], by simp, Nat.le_refl _, fun i => vals_open (by simp) (Nat.le_refl _) (by simp) (fun _ => by simp) (fun h => absurd h (by omega)), .inl ⟨hx, rfl⟩⟩
  · simp [Value.cells] at hcs
    obtain ⟨rfl, rfl, rfl⟩ := hcs
    have hle : len * P.cellsOf e ≤ cap * P.cellsOf e := Nat.mul_le_mul_right _ hl
    refine ⟨len, cap, A.take (len * P.cellsOf e), by simp; omega, hl, fun i => vals_open (by simp; omega) hl ?_ ?_ fun hcap => ?_, .inr ⟨n, xs, _, hx, hxl, ?_⟩⟩
    · intro v hv
      obtain ⟨j, hj⟩ := List.getElem?_of_mem hv
      rw [List.getElem?_take] at hj
      split at hj
      · rename_i hjl
        have hq : j / P.cellsOf e < cap := (Nat.div_lt_iff_lt_mul hpos).2 (by omega)
        obtain ⟨y, hy, _⟩ := hel _ hq
        refine hone _ _ _ hy v (List.mem_of_getElem? (i := j % P.cellsOf e) ?_)
        rw [List.getElem?_take_of_lt (Nat.mod_lt _ hpos), List.getElem?_drop, Nat.div_add_mod']; exact hj
      · cases hj
    · intro hc0; have : len = 0 := by omega
      rw [this, Nat.zero_mul]
    · have hp : 0 < cap * P.cellsOf e := Nat.mul_pos hcap hpos
      have h0 := hcell 0 hp
      obtain ⟨v0, hv0⟩ : ∃ v0, A[0]? = some v0 := ⟨A[0], List.getElem?_eq_getElem (by omega)⟩
      rw [hv0] at h0
      obtain ⟨b, off, spot⟩ := a
      have hspot : spot = none := by simpa [Addr.add] using World.cell?_spot h0
      subst hspot
      have hc2 : ∀ j, j < cap * P.cellsOf e → W.cell? ⟨b, off + j, none⟩ = A[j]? := fun j hj => by rw [← Go.WideShapes.add_plain]; exact hcell j hj
      have h00 := hc2 0 hp
      rw [hv0] at h00
      unfold World.cell? at h00
      split at h00
      · rename_i arr ty fr hh
        have hget : ∀ j, j < cap * P.cellsOf e → arr[off + j]? = A[j]? := by
          intro j hj
          have h1 := hc2 j hj
          unfold World.cell? at h1
          rw [hh] at h1
          simpa using h1
        refine ⟨b, off, arr, ty, fr, rfl, hh, ?_, ?_⟩
        · by_cases hz : len * P.cellsOf e = 0
          · have := (Array.getElem?_eq_some_iff.1 ((hget 0 hp).trans hv0)).1
            omega
          · have h1 := hget (len * P.cellsOf e - 1) (by omega)
            rw [List.getElem?_eq_getElem (by omega)] at h1
            have := (Array.getElem?_eq_some_iff.1 h1).1
            omega
        · intro i x hix
          rw [List.getElem?_take] at hix
          split at hix
          · rw [hget i (by omega), hix]
          · cases hix
      · cases h00
    · intro i hi
      obtain ⟨y, hy, hy2⟩ := hel i (by omega)
      refine ⟨y, ?_, hy2 hi⟩
      rw [← hy]
      congr 1
      refine List.ext_getElem? fun j => ?_
      by_cases hj : j < P.cellsOf e
      · rw [List.getElem?_take_of_lt hj, List.getElem?_take_of_lt hj, List.getElem?_drop, List.getElem?_drop, List.getElem?_take_of_lt]
        have := Nat.mul_le_mul_right (P.cellsOf e) (Nat.succ_le_of_lt hi)
        rw [Nat.succ_mul] at this; omega
      · rw [List.getElem?_eq_none (by simp; omega), List.getElem?_eq_none (by simp; omega)]

/-- a slice of integers that lies in the world, as it is taken in -/
theorem imp_of {t e : TypeId} {k : IntKind} {n : Nat} {v : Value} {y : DataW H × List MemPlace} (ht : P.underlying t = some (.slice e)) (he : P.underlying e = some (.int k)) (hc : P.cellsOf e = 1)
    (h : DataW.trod enc P W 0 (fun _ => true) true n t [v] = some y) :
    (∀ (m : Nat) (β : Env), ImpOk ⟨W, [], m, β⟩ v k (lenV v) (capV v) (contV W v)) ∧ ((y.1 = .nil ∧ lenV v = 0) ∨ ∃ (L : List Int) (s : List (DataW H)), y.1 = .slice (lits k L) s ∧ L.length = lenV v) := by
  rcases open_ints ht he hc h with ⟨hcs, rfl⟩ | ⟨a, len, cap, zs, hcs, _, hl, hm, hz, rfl, hcell, hwz⟩
  · simp only [List.cons.injEq, and_true] at hcs
    subst hcs
    exact ⟨fun m β => ⟨none, rfl, Nat.le_refl _, rfl, fun h => absurd h (by simp [capV])⟩, .inl ⟨rfl, rfl⟩⟩
  · simp only [List.cons.injEq, and_true] at hcs
    subst hcs
    simp only [if_true] at hz
    refine ⟨fun m β => ?_, .inr ⟨_, _, rfl, by simp [lenV]; omega⟩⟩
    by_cases hcap : 0 < cap
    · obtain ⟨b, off, rfl, hcell2⟩ := ints_at hcell (by omega)
      have h00 := hcell2 0 (by omega)
      unfold World.cell? at h00
      split at h00
      · rename_i arr ty fr hh
        have hget : ∀ j, j < zs.length → arr[off + j]? = some (.int k (zs.getD j 0)) := by
          intro j hj
          have h1 := hcell2 j hj
          unfold World.cell? at h1
          rw [hh] at h1
          simpa using h1
        have hcont : contV W (.slice (some ⟨b, off, none⟩) len cap) = zs.take len := by
          unfold contV
          simp only [hh]
          refine List.ext_getElem? fun j => ?_
          by_cases hj : j < len
          · rw [List.getElem?_map, List.getElem?_range hj, List.getElem?_take_of_lt hj]
            have h1 := hget j (by omega)
            simp only [Option.map_some, Array.getD_eq_getD_getElem?, h1, Option.getD_some, intV]
            rw [List.getD_eq_getElem?_getD, List.getElem?_eq_getElem (by omega)]; rfl
          · rw [List.getElem?_eq_none (by simp; omega), List.getElem?_eq_none (by simp; omega)]
        refine ⟨_, rfl, hl, by rw [hcont]; simp [lenV]; omega, fun _ => ⟨b, off, rfl, (Array.getElem?_eq_some_iff.1 hh).1, by simp, fun _ => ⟨arr, ty, fr, hh, ?_, ?_⟩⟩⟩
        · have := (Array.getElem?_eq_some_iff.1 (hget (zs.length - 1) (by omega))).1
          simp only [lenV]; omega
        · intro i x hix
          rw [hcont, List.getElem?_take] at hix
          split at hix
          · have hlt := (List.getElem?_eq_some_iff.1 hix).1
            rw [hget i hlt, List.getD_eq_getElem?_getD, hix]; rfl
          · cases hix
      · cases h00
    · have h0 : len = 0 := by omega
      subst h0
      refine ⟨_, rfl, hl, ?_, fun h => absurd h hcap⟩
      unfold contV
      simp only [List.range_zero, List.map_nil, lenV]
      split <;> rfl
end args
end Go.Proofs.Ytepimglipelpmaa.R

/- A row that grows while its older view is read on: its room laid open; laid still. -/
namespace Go.Proofs.Ytepimglipelpmaa.X
open Go
set_option linter.unusedVariables false

/-- cells of which the first ones are told -/
def Pre (β : Env) (cells c1 : List Atom) : Prop := ∀ cs, cons β cells cs → ∃ x y, cs = x ++ y ∧ cons β c1 x
theorem Pre.ints {β : Env} {k : IntKind} {n m : Nat} {L : List Int} (h : m ≤ n) (r : List Atom) : Pre β (.ints k n L :: r) [.ints k m (L.take m)] := by
  rintro cs ⟨x, y, rfl, ⟨hl, rfl⟩, _⟩
  refine ⟨(L.take m).map (Value.int k), (L.drop m).map (Value.int k) ++ y, ?_, cons_single.2 ⟨by simp; omega, rfl⟩⟩
  rw [← List.append_assoc, ← List.map_append, List.take_append_drop]
theorem Pre.all {β : Env} {k : IntKind} {n : Nat} {L : List Int} (r : List Atom) : Pre β (.ints k n L :: r) [.ints k n L] := by
  rintro cs ⟨x, y, rfl, h, _⟩
  exact ⟨x, y, rfl, cons_single.2 h⟩
theorem Rel.cast {B : Bs} {β : Env} {s s' : St} {a : Act} {w : World} (h : Rel B β s a w) (e : s = s') : Rel B β s' a w := e ▸ h
theorem Pre.holds {β : Env} {w : World} {j : Nat} {own : Bool} {cells c1 : List Atom} (hp : Pre β cells c1) (h : Blk.holds β w j ⟨own, cells⟩) : Blk.holds β w j ⟨false, c1⟩ := by
  obtain ⟨cs, hc, hd⟩ := h
  obtain ⟨x, y, rfl, hx⟩ := hp cs hc
  refine ⟨x, hx, ?_⟩
  rcases hd with ⟨h1, _⟩ | ⟨r, arr, ty, fr, hr, hh, hsz, hl, ha, _⟩
  · exact .inl ⟨(List.append_eq_nil_iff.1 h1).1, .inl rfl⟩
  · refine .inr ⟨r, arr, ty, fr, hr, hh, hsz, ?_, ?_, fun h => by cases h⟩
    · rw [List.length_append] at hl; omega
    · intro i v hv
      exact ha i v (by rw [List.getElem?_append_left (List.getElem?_eq_some_iff.1 hv).1]; exact hv)

end Go.Proofs.Ytepimglipelpmaa.X

/- Rows of marks; drawn again and again. -/
namespace Go.Proofs.Ytepimglipelpmaa.X
open Go Go.Proofs
set_option linter.unusedVariables false
set_option maxRecDepth 100000

def rwB (i : Int) : Nat → List Int
  | 0 => []
  | n + 1 => rwB i n ++ [mkBy i ((n : Nat) : Int)]
theorem rwB_len (i : Int) : ∀ n, (rwB i n).length = n
  | 0 => rfl
  | n + 1 => by show (rwB i n ++ _).length = _; rw [List.length_append, rwB_len i n]; rfl
/-- a row of which the first k are marked -/
def mkP (L : List Int) (i : Int) (k : Nat) : List Int := rwB i k ++ L.drop k
theorem mkP_step {L : List Int} {i : Int} {n k : Nat} (l : L.length = n) (h : k < n) : List.set (mkP L i k) k (mkBy i ((k : Nat) : Int)) = mkP L i (k + 1) := by
  have a := rwB_len i k
  have e : L.drop k = L[k] :: L.drop (k + 1) := List.drop_eq_getElem_cons (by omega)
  show List.set (rwB i k ++ L.drop k) k _ = (rwB i k ++ [mkBy i ((k : Nat) : Int)]) ++ L.drop (k + 1)
  rw [e, List.set_append_right _ _ (by omega), a, Nat.sub_self, List.set_cons_zero, List.append_assoc]
  rfl
theorem mkP_all {L : List Int} {i : Int} {n : Nat} (l : L.length = n) : mkP L i n = rwB i n := by
  unfold mkP
  rw [List.drop_of_length_le (by omega), List.append_nil]
end Go.Proofs.Ytepimglipelpmaa.X

/- A walk begun anew where it stands; families of slices that the walk itself made. -/
namespace Go.Proofs.Ytepimglipelpmaa.X
open Go Go.Proofs
set_option linter.unusedVariables false

/-- the blocks that are known as own -/
def ownBlks (β : Env) (K : Know) : List Nat := (List.range K.length).filterMap fun j => match K.at j with
  | some b => if b.own = true then (β j).map Ref.blk else none
  | none => none
theorem mem_ownBlks {β : Env} {K : Know} {x : Nat} : x ∈ ownBlks β K ↔ ∃ j b r, K.at j = some b ∧ b.own = true ∧ β j = some r ∧ r.blk = x := by
  unfold ownBlks
  rw [List.mem_filterMap]
  constructor
  · rintro ⟨j, _, h⟩
    split at h
    · rename_i b hb
      split at h
      · rename_i ho
        rw [Option.map_eq_some_iff] at h
        obtain ⟨r, hr, hx⟩ := h
        exact ⟨j, b, r, hb, ho, hr, hx⟩
      · cases h
    · cases h
  · rintro ⟨j, b, r, hb, ho, hr, hx⟩
    have hj : j < K.length := by
      rcases Nat.lt_or_ge j K.length with h | h
      · exact h
      · unfold Know.at at hb; rw [List.getElem?_eq_none h] at hb; cases hb
    refine ⟨j, List.mem_range.2 hj, ?_⟩
    rw [hb]
    simp only
    rw [if_pos ho, hr]
    exact congrArg some hx

section anew
variable {P : Program} {B : Bs} {β β' : Env} {st st' : St} {a a' : Act} {w w' : World}

theorem Rel.anew (h : Rel B β st a w) : Rel ⟨w, ownBlks β st.K, B.k, β⟩ β st a w :=
  ⟨⟨h.relw.holds, h.relw.apart, fun j b r hj ho hr => .inr (mem_ownBlks.2 ⟨j, b, r, hj, ho, hr, rfl⟩), h.relw.live, fun _ _ _ => rfl, Nat.le_refl _, rfl, rfl, rfl⟩, h.defers, h.size, h.slot, fun _ _ => rfl, h.len⟩

theorem Rel.back (h : Rel B β st a w) (h' : Rel ⟨w, ownBlks β st.K, B.k, β⟩ β' st' a' w') : Rel B β' st' a' w' := by
  have hown : ∀ x, x ∈ ownBlks β st.K → B.w0.heap.size ≤ x ∨ x ∈ B.rw := by
    intro x hx
    obtain ⟨j, b, r, hj, ho, hr, rfl⟩ := mem_ownBlks.1 hx
    exact h.relw.mine j b r hj ho hr
  refine ⟨⟨h'.relw.holds, h'.relw.apart, ?_, h'.relw.live, ?_, Nat.le_trans h.relw.size h'.relw.size, h'.relw.os.trans h.relw.os, h'.relw.tape.trans h.relw.tape, h'.relw.output.trans h.relw.output⟩, h'.defers, h'.size, h'.slot, fun j hj => (h'.fix j hj).trans (h.fix j hj), h'.len⟩
  · intro j b r hj ho hr
    rcases h'.relw.mine j b r hj ho hr with h1 | h1
    · exact .inl (Nat.le_trans h.relw.size h1)
    · exact hown _ h1
  · intro b hb hn
    have h1 : b ∉ ownBlks β st.K := fun hx => by
      rcases hown b hx with h2 | h2
      · omega
      · exact hn h2
    exact (h'.relw.old b (Nat.lt_of_lt_of_le hb h.relw.size) h1).trans (h.relw.old b hb hn)

theorem Run.anew {c : Code} {post : Ex → St → Prop} (h : ∀ β a w, Rel B β st a w → Run P ⟨w, ownBlks β st.K, B.k, β⟩ c st post) : Run P B c st post :=
  fun β a w hR Q hq => h β a w hR β a w hR.anew Q fun e st' β' a' w' hp hR' => hq e st' β' a' w' hp (hR.back hR')
end anew

/-- a loop that makes a family: what it has made so far lies in the world, told by Inv -/
theorem Run.fam {P : Program} {σ : Type} {c rest : Code} {id : Nat} {post : Ex → St → Prop} (mk : Nat → σ → St) (Inv : World → List Nat → Nat → σ → Prop) (n kk : Nat)
    (hround : ∀ w rw β0 k s, k < n → Inv w rw k s → ∃ md, Run P ⟨w, rw, kk, β0⟩ c (mk k s) (To ⟨w, rw, kk, β0⟩ .normal md) ∧
      ∀ β a' w', Rel ⟨w, rw, kk, β0⟩ β md a' w' → ∃ β' s', Rel ⟨w, rw, kk, β0⟩ β' (mk (k + 1) s') a' w' ∧ Inv w' (ownBlks β' (mk (k + 1) s').K) (k + 1) s')
    (hlast : ∀ w rw β0 s, Inv w rw n s → Run P ⟨w, rw, kk, β0⟩ c (mk n s) (To ⟨w, rw, kk, β0⟩ (.exit id) (mk n s)))
    (hrest : ∀ w rw β0 s, Inv w rw n s → Run P ⟨w, rw, kk, β0⟩ rest (mk n s) post)
    {w0 : World} {rw0 : List Nat} {β0 : Env} {s0 : σ} (h0 : Inv w0 rw0 0 s0) : Run P ⟨w0, rw0, kk, β0⟩ (.seq (.block id (.loop c)) rest) (mk 0 s0) post := by
  have key : ∀ Q1 : Exit → Act → World → Prop, (∀ w1 rw1 β1 s β a w, Inv w1 rw1 n s → Rel ⟨w1, rw1, kk, β1⟩ β (mk n s) a w →
        (∀ β' st' a' w', Rel ⟨w1, rw1, kk, β1⟩ β' st' a' w' → Rel ⟨w0, rw0, kk, β0⟩ β' st' a' w') → Q1 (.exit id) a w) → ∀ m k, k + m = n → ∀ w1 rw1 β1 s β a w, Inv w1 rw1 k s → Rel ⟨w1, rw1, kk, β1⟩ β (mk k s) a w →
      (∀ β' st' a' w', Rel ⟨w1, rw1, kk, β1⟩ β' st' a' w' → Rel ⟨w0, rw0, kk, β0⟩ β' st' a' w') → Code.rounds P c Q1 (m + 1) a w := by
    intro Q1 hQ1 m
    induction m with
    | zero =>
      intro k hk w1 rw1 β1 s β a w hi hR hback
      have : k = n := by omega
      subst this
      rw [rounds_succ]
      refine hlast w1 rw1 β1 s hi β a w hR _ fun e st' β' a' w' hp hR' => ?_
      obtain ⟨rfl, hw⟩ := hp
      obtain ⟨β2, hR2⟩ := hw β' a' w' hR'
      exact hQ1 w1 rw1 β1 s β2 a' w' hi hR2 hback
    | succ m ih =>
      intro k hk w1 rw1 β1 s β a w hi hR hback
      rw [rounds_succ]
      obtain ⟨md, hrun, hconv⟩ := hround w1 rw1 β1 k s (by omega) hi
      refine hrun β a w hR _ fun e st' β' a' w' hp hR' => ?_
      obtain ⟨rfl, hw⟩ := hp
      obtain ⟨β2, hR2⟩ := hw β' a' w' hR'
      obtain ⟨β3, s', hR3, hi'⟩ := hconv β2 a' w' hR2
      exact ih (k + 1) (by omega) w' (ownBlks β3 (mk (k + 1) s').K) β3 s' β3 a' w' hi' hR3.anew fun β' st' a'' w'' h => hback _ _ _ _ (hR3.back h)
  intro β a w hR Q hq
  refine wp_seq (wp_block (wp_loop_rounds (n + 1) (key _ ?_ n 0 (by omega) w0 rw0 β0 s0 β a w h0 hR fun _ _ _ _ h => h)))
  intro w1 rw1 β1 s β2 a' w' hi hR2 hback
  show (if id = id then _ else _)
  rw [if_pos rfl]
  exact hrest w1 rw1 β1 s hi β2 a' w' hR2 Q fun e st' β' a' w' hp hR' => hq e st' β' a' w' hp (hback _ _ _ _ hR')

/-- slices that lie in a world, outside of the own blocks -/
structure FamR (w : World) (rw : List Nat) (L : List Value) (C : List (List Int)) : Prop where
  len : L.length = C.length
  imp : ∀ i, i < C.length → ∀ (k : Nat) (β : Env), ImpOk ⟨w, rw, k, β⟩ (L.getD i undef) .u8 (lenV (L.getD i undef)) (capV (L.getD i undef)) (contV w (L.getD i undef))
  cont : ∀ i, i < C.length → contV w (L.getD i undef) = C.getD i []

theorem FamR.nil {w : World} {rw : List Nat} : FamR w rw [] [] := ⟨rfl, fun i hi => absurd hi (Nat.not_lt_zero i), fun i hi => absurd hi (Nat.not_lt_zero i)⟩

/-- what single cells of a list of slices show -/
def famC (K : Know) (a : Atom) : Option (Prop × List Int) :=
  match a with
  | .sl j c n _ => (match K.at j with
    | some b => (match segR b.cells c n with
      | some (p, [.ints .u8 _ l]) => some (p, l)
      | _ => none)
    | none => none)
  | .rs j c n _ => (match K.at j with
    | some b => (match segR b.cells c n with
      | some (p, [.ints .u8 _ l]) => some (p, l)
      | _ => none)
    | none => none)
  | .raw (.slice none 0 0) => some (True, [])
  | _ => none
/-- a cell names no block below kb that is own -/
def farC (K : Know) (kb : Nat) (a : Atom) : Bool :=
  match a with
  | .sl j _ _ _ => decide (kb ≤ j)
  | .rs j _ _ _ => decide (kb ≤ j)
  | .raw (.slice none 0 0) => true
  | _ => false

/-- the own blocks below kb, as they are known later -/
def Less (K K' : Know) (kb : Nat) : Prop := ∀ j b, K'.at j = some b → b.own = true → j < kb ∧ ∃ c, K.at j = some c ∧ c.own = true

section fam
variable {w0 w : World} {rw : List Nat} {β : Env} {K K' : Know} {kb : Nat}

theorem Less.notin (hR : RelW w0 rw β K w) (hL : Less K K' kb) {j : Nat} {b : Blk} {r : Ref} (hj : K.at j = some b) (hk : kb ≤ j) (hr : β j = some r) : r.blk ∉ ownBlks β K' := fun hx => by
  obtain ⟨x, b', s, hx1, ho, hs, he⟩ := mem_ownBlks.1 hx
  obtain ⟨hlt, c, hc, hco⟩ := hL x b' hx1 ho
  exact hR.apart x j c b s r hc hj hco (by omega) hs hr he
theorem Less.old (hR : RelW w0 rw β K w) (hL : Less K K' kb) {b : Nat} (h1 : b < w0.heap.size) (h2 : b ∉ rw) : b ∉ ownBlks β K' := fun hx => by
  obtain ⟨x, b', s, hx1, ho, hs, he⟩ := mem_ownBlks.1 hx
  obtain ⟨hlt, c, hc, hco⟩ := hL x b' hx1 ho
  rcases hR.mine x c s hc hco hs with h | h
  · omega
  · rw [he] at h; exact h2 h

theorem FamR.move (hR : RelW w0 rw β K w) (hL : Less K K' kb) {L : List Value} {C : List (List Int)} (h : FamR w0 rw L C) : FamR w (ownBlks β K') L C := by
  have hc : ∀ i, i < C.length → contV w (L.getD i undef) = contV w0 (L.getD i undef) := fun i hi => contV_move hR.old (h.imp i hi 0 noEnv)
  refine ⟨h.len, fun i hi k β1 => ?_, fun i hi => (hc i hi).trans (h.cont i hi)⟩
  rw [hc i hi]
  obtain ⟨base, hv, hlc, hl, hb⟩ := h.imp i hi 0 noEnv
  refine ⟨base, hv, hlc, hl, fun h0 => ?_⟩
  obtain ⟨b, off, g1, g2, g3, g4⟩ := hb h0
  have g2 : b < w0.heap.size := g2
  refine ⟨b, off, g1, Nat.lt_of_lt_of_le g2 hR.size, hL.old hR g2 g3, fun hl0 => ?_⟩
  obtain ⟨arr, ty, fr, k1, k2⟩ := g4 hl0
  exact ⟨arr, ty, fr, (hR.old b g2 g3).trans k1, k2⟩

theorem sl_fam (hR : RelW w0 rw β K w) (hL : Less K K' kb) {j c n m cap : Nat} {b : Blk} {p : Prop} {l : List Int} (hb : K.at j = some b) (hk : kb ≤ j) (hs : segR b.cells c n = some (p, [.ints .u8 m l])) (hp : p) {base : Option Addr} (hnc : n ≤ cap)
    (hbase : 0 < cap → ∃ r, β j = some r ∧ base = some ⟨r.blk, r.off + c, none⟩) : (∀ k β', ImpOk ⟨w, ownBlks β K', k, β'⟩ (.slice base n cap) .u8 n cap (contV w (.slice base n cap))) ∧ contV w (.slice base n cap) = l := by
  obtain ⟨h1, h2⟩ := sl_part hR hb hs hp hnc hbase
  refine ⟨fun k β' => ?_, h2⟩
  rw [h2]
  obtain ⟨base', hv, hlc, hl, hx⟩ := h1 k β'
  refine ⟨base', hv, hlc, hl, fun h0 => ?_⟩
  obtain ⟨b', off, g1, g2, g3, g4⟩ := hx h0
  obtain ⟨r, hr, hb2⟩ := hbase h0
  have he : base' = base := by
    have := hv
    simp only [Value.slice.injEq] at this
    exact this.1.symm
  have hbb : b' = r.blk := by
    rw [he, hb2] at g1
    simp only [Option.some.injEq, Addr.mk.injEq] at g1
    exact g1.1.symm
  subst hbb
  exact ⟨r.blk, off, g1, g2, hL.notin hR hb hk hr, g4⟩

theorem famC_ok (hR : RelW w0 rw β K w) (hL : Less K K' kb) {a : Atom} {p : Prop} {l : List Int} {cs : List Value} (h : famC K a = some (p, l)) (hf : farC K kb a = true) (hp : p) (hc : a.con β cs) : FamR w (ownBlks β K') cs [l] := by
  have one : ∀ {v : Value}, ((∀ k β', ImpOk ⟨w, ownBlks β K', k, β'⟩ v .u8 (lenV v) (capV v) (contV w v)) ∧ contV w v = l) → FamR w (ownBlks β K') [v] [l] := by
    intro v h
    refine ⟨rfl, fun i hi k β' => ?_, fun i hi => ?_⟩
    · have : i = 0 := by simp at hi; omega
      subst this; exact h.1 k β'
    · have : i = 0 := by simp at hi; omega
      subst this; exact h.2
  unfold famC at h
  unfold farC at hf
  split at h
  · split at h
    · rename_i j c n cap b hb
      split at h
      · rename_i p' m' l' hs
        simp only [Option.some.injEq, Prod.mk.injEq] at h; obtain ⟨rfl, rfl⟩ := h
        obtain ⟨base, rfl, hnc, hbase⟩ := hc
        exact one (sl_fam hR hL hb (of_decide_eq_true hf) hs hp hnc hbase)
      · simp at h
    · simp at h
  · split at h
    · rename_i j c n z b hb
      split at h
      · rename_i p' m' l' hs
        simp only [Option.some.injEq, Prod.mk.injEq] at h; obtain ⟨rfl, rfl⟩ := h
        obtain ⟨base, cap, rfl, hnc, hbase⟩ := hc
        exact one (sl_fam hR hL hb (of_decide_eq_true hf) hs hp hnc fun h0 => by obtain ⟨r, h1, h2, _⟩ := hbase h0; exact ⟨r, h1, h2⟩)
      · simp at h
    · simp at h
  · simp only [Option.some.injEq, Prod.mk.injEq] at h; obtain ⟨rfl, rfl⟩ := h
    obtain ⟨rfl, _⟩ := hc
    exact one ⟨fun k β' => ⟨none, rfl, Nat.le_refl _, rfl, fun h => absurd h (by simp [capV])⟩, rfl⟩
  · simp at h

theorem FamR.app {rw' : List Nat} {L M : List Value} {C D : List (List Int)} (h : FamR w rw' L C) (h' : FamR w rw' M D) : FamR w rw' (L ++ M) (C ++ D) := by
  have hl := h.len
  refine ⟨by rw [List.length_append, List.length_append, h.len, h'.len], fun i hi k β => ?_, fun i hi => ?_⟩
  · by_cases h1 : i < C.length
    · rw [getD_left (by omega)]; exact h.imp i h1 k β
    · obtain ⟨t, rfl⟩ : ∃ t, i = L.length + t := ⟨i - L.length, by omega⟩
      rw [getD_right]
      rw [List.length_append] at hi
      exact h'.imp t (by omega) k β
  · rw [List.length_append] at hi
    by_cases h1 : i < C.length
    · rw [getD_left (by omega), h.cont i h1, List.getD_eq_getElem?_getD, List.getD_eq_getElem?_getD, List.getElem?_append_left h1]
    · obtain ⟨t, rfl⟩ : ∃ t, i = L.length + t := ⟨i - L.length, by omega⟩
      rw [getD_right, h'.cont t (by omega), List.getD_eq_getElem?_getD, List.getD_eq_getElem?_getD, List.getElem?_append_right (by omega)]
      congr 2; omega

theorem FamR.parts {rw' : List Nat} {L : List Value} {C : List (List Int)} (h : FamR w rw' L C) : ∀ n, n ≤ C.length → catV w L n = (C.take n).flatten
  | 0, _ => rfl
  | n + 1, hn => by
    show catV w L n ++ contV w (L.getD n undef) = _
    rw [FamR.parts h n (by omega), h.cont n (by omega), List.take_add_one, List.getElem?_eq_getElem (by omega), List.flatten_append, List.getD_eq_getElem?_getD, List.getElem?_eq_getElem (by omega)]
    simp
end fam

theorem Rel.forgot {B : Bs} {β : Env} {st : St} {a : Act} {w : World} (h : Rel B β st a w) (keep : List Nat) (m : Nat) (hk : B.k ≤ (st.K.take m).length) : Rel B β (forget keep m st) a w := by
  refine ⟨h.relw.less fun j b hj => Know.at_take _ _ _ _ hj, h.defers, by rw [forget, keepL_length]; exact h.size, fun t => ?_, h.fix, hk⟩
  rw [forget, keepL_getD]
  split
  · simpa using h.slot t
  · trivial

/-- a block said by its values, whatever they are -/
theorem Rel.valued {B : Bs} {β : Env} {slots : List AV} {K : Know} {a : Act} {w : World} (h : Rel B β ⟨slots, K⟩ a w) {j : Nat} {own : Bool} {cells : List Atom} (hb : K.at j = some ⟨own, cells⟩) {n : Nat} (hn : sizes cells = n) :
    ∃ L, cons β cells L ∧ Rel B β ⟨slots, K.set1 j (some ⟨own, [.vals n L]⟩)⟩ a w := by
  obtain ⟨cs, hc, hd⟩ := h.relw.holds j _ hb
  have hc : cons β cells cs := hc
  exact ⟨cs, hc, h.relw.rehold hb (fun h => h) ⟨cs, cons_single.2 ⟨(cons_len hc).trans hn, rfl, cons_one hc⟩, hd⟩, h.defers, h.size, h.slot, h.fix, Nat.le_trans h.len (set1_length _ _ _)⟩

/-- one more joins a family -/
theorem fam_two {w0 w : World} {rw : List Nat} {β : Env} {K K' : Know} {kb k : Nat} (hR : RelW w0 rw β K w) (hL : Less K K' kb) {L0 L : List Value} {C : List (List Int)} (hF : FamR w0 rw L0 C) {x : Atom} {p : Prop} {l : List Int} (hx : famC K x = some (p, l)) (hf : farC K kb x = true) (hp : p)
    (hc : cons β [.vals k L0, x] L) : FamR w (ownBlks β K') L (C ++ [l]) := by
  obtain ⟨u, v, rfl, ⟨_, rfl, _⟩, hv⟩ := hc
  exact (hF.move hR hL).app (famC_ok hR hL hx hf hp (cons_single.1 hv))

def lessB (K K' : Know) (kb : Nat) : Bool := (List.range K'.length).all fun j => match K'.at j with
  | some b => !b.own || (decide (j < kb) && (match K.at j with | some c => c.own | none => false))
  | none => true
theorem Less.of {K K' : Know} {kb : Nat} (h : lessB K K' kb = true) : Less K K' kb := by
  intro j b hj ho
  have hlt : j < K'.length := by
    rcases Nat.lt_or_ge j K'.length with h | h
    · exact h
    · unfold Know.at at hj; rw [List.getElem?_eq_none h] at hj; cases hj
  have h1 := List.all_eq_true.1 h j (List.mem_range.2 hlt)
  rw [hj] at h1
  simp only [ho, Bool.not_true, Bool.false_or, Bool.and_eq_true, decide_eq_true_eq] at h1
  refine ⟨h1.1, ?_⟩
  have h2 := h1.2
  split at h2
  · rename_i c hc; exact ⟨c, hc, h2⟩
  · cases h2

/-- pieces of a body, one behind the other -/
theorem Run.seqTo {P : Program} {B : Bs} {a b : Code} {st st1 : St} {post : Ex → St → Prop} (h : Run P B a st (To B .normal st1)) (h2 : Run P B b st1 post) : Run P B (.seq a b) st post :=
  fun β ac w hR Q hq => wp_seq (h β ac w hR _ fun e st' β' a' w' hp hR' => by
    obtain ⟨rfl, hw⟩ := hp
    obtain ⟨β2, hR2⟩ := hw β' a' w' hR'
    exact h2 β2 a' w' hR2 Q hq)
theorem Run.absorb {P : Program} {B : Bs} {c : Code} {st : St} {R : Ex → St → Prop} (h : Run P B c st fun e s => ∃ s', Weak B s s' ∧ R e s') : Run P B c st R :=
  fun β a w hR Q hq => h β a w hR Q fun e st' β' a' w' hp hR' => by
    obtain ⟨s', hw, hr⟩ := hp
    obtain ⟨β2, hR2⟩ := hw β' a' w' hR'
    exact hq e s' β2 a' w' hr hR2
/-- the end of a body -/
def finP (T : Tab) (fn : Func) (Fin : List V1 → Know → Prop) : Ex → St → Prop := fun e s => (e = .normal ∨ e = .ret) ∧ ∃ xs m, resL T s fn.results.toList = some xs ∧ Fin xs (s.K.take m)
theorem Run.of_finAt {P : Program} {T : Tab} {Γ : Gam} {B : Bs} {Λ : Lam} {Ψ : Psi} {fuel : Nat} (hmix : P.follows .mixedOrders = true) (hT : TabOk P T) (hΓ : GamAt P Γ B.w0 B.rw) {fn : Func} {c : Code} {rs : List ResultVar} (hrs : fn.results = rs.toArray) (ora : List Bool) (l : List Tr) {st : St}
    {vc : List Prop} {xs : List V1} (h : fin B T rs l (execC P B T Γ Λ Ψ fuel c ora st []) = some ⟨true, vc, xs⟩) (hvc : AllP vc) : Run P B c st (finP T fn fun ys _ => ys = xs) := by
  unfold fin at h
  split at h
  · rename_i o ho
    split at h
    · rename_i vc1 st1 ht
      split at h
      · rename_i ys hys
        simp only [Option.some.injEq, FOut.mk.injEq] at h
        obtain ⟨h1, rfl, rfl⟩ := h
        obtain ⟨h2, h3⟩ := trs_weak ht hvc
        exact Run.absorb (Run.exec hmix hT hΓ Λ Ψ fuel ora ho h2 ⟨_, h3, exRet_ok h1, _, 0, by rw [hrs]; exact hys, rfl⟩)
      · simp at h
    · simp at h
  · simp at h
theorem Body.of_run {P : Program} {T : Tab} {B : Bs} {fn : Func} {c : Code} (hb : fn.body = some c) {avs : List AV} {K0 : Know} {Fin : List V1 → Know → Prop} (h : Run P B c ⟨avs ++ List.replicate (fn.ntmps - avs.length) .u, K0⟩ (finP T fn Fin)) : Body P T fn B avs K0 Fin :=
  ⟨c, hb, h.mono fun e s hp => ⟨hp.1, s, Weak.refl, hp.2⟩⟩
end Go.Proofs.Ytepimglipelpmaa.X

/- What Given lays: a copy with three marks behind it. -/
namespace Go.Proofs.Ytepimglipelpmaa.X
open Go Go.Proofs
set_option linter.unusedVariables false
set_option maxRecDepth 100000

def cpB (b R : List Int) (k : Nat) : List Int := sub b 0 k ++ R.drop k
def gvB (n : Nat) (b : List Int) : List Int := cpB b (rwB 987 (n + 3)) n
theorem cpB_step {b R : List Int} {n m k : Nat} (hb : b.length = n) (hR : R.length = m) (h : k < n) (h' : k < m) : List.set (cpB b R k) k (List.getD b k 0) = cpB b R (k + 1) := by
  have hs : (sub b 0 k).length = k := sub_len _ _ _ (by omega)
  have e : R.drop k = R[k] :: R.drop (k + 1) := List.drop_eq_getElem_cons (by omega)
  unfold cpB
  rw [e, List.set_append_right _ _ (by omega), hs, Nat.sub_self, List.set_cons_zero]
  unfold sub
  rw [List.drop_zero, List.take_add_one, List.getElem?_eq_getElem (by omega), List.getD_eq_getElem?_getD, List.getElem?_eq_getElem (by omega), List.append_assoc]
  rfl
theorem cpB_len {b R : List Int} {n m k : Nat} (hb : b.length = n) (hR : R.length = m) (h : k ≤ n) (h' : k ≤ m) : (cpB b R k).length = m := by
  unfold cpB
  rw [List.length_append, sub_len _ _ _ (by omega), List.length_drop]; omega
theorem gvB_len {b : List Int} {n : Nat} (hb : b.length = n) : (gvB n b).length = n + 3 := cpB_len hb (rwB_len _ _) (Nat.le_refl _) (by omega)
theorem gvB_take {b : List Int} {n : Nat} (hb : b.length = n) : sub (gvB n b) 0 n = b := by
  have hs : (sub b 0 n).length = n := sub_len _ _ _ (by omega)
  unfold gvB cpB
  rw [show sub (sub b 0 n ++ (rwB 987 (n + 3)).drop n) 0 n = sub b 0 n from by
    rw [sub_append_left _ _ _ (by omega), hs, Nat.sub_self]
    simp [sub]]
  exact sub_all b n (by omega)
theorem gv_copy {b : List Int} {n : Nat} (hb : b.length = n) : copyB (n + 3) (sub (gvB n b) 0 (n + 3)) = gvB n b := by
  show sub (sub (gvB n b) 0 (n + 3)) 0 (n + 3) = _
  have e : sub (gvB n b) 0 (n + 3) = gvB n b := sub_all _ _ (by rw [gvB_len hb]; omega)
  rw [e, e]
end Go.Proofs.Ytepimglipelpmaa.X

/- Printed by a tool of this session. -/
namespace Go.Proofs.Ytepimglipelpmaa.X
open Go Go.Proofs
set_option linter.unusedVariables false
set_option linter.unusedSimpArgs false
set_option maxRecDepth 100000
theorem teKB_5 : TEOk Try.prog 5 ⟨.int .u8, 1, 1, [.i .u8 (0 : Int)], false⟩ :=
  TEOk.of Try.underlying5 (i := Try.t5) (by kernel_rfl) rfl rfl rfl (by kernel_rfl) (fun h => by cases h) (by kernel_rfl)
theorem teKB_22 : TEOk Try.prog 22 ⟨.slice 5, 1, 24, [.raw (.slice none 0 0)], false⟩ :=
  TEOk.of Try.underlying22 (i := Try.t22) (by kernel_rfl) rfl rfl rfl (by kernel_rfl) (fun h => by cases h) (by kernel_rfl)
theorem teKB_23 : TEOk Try.prog 23 ⟨.slice 22, 1, 24, [.raw (.slice none 0 0)], false⟩ :=
  TEOk.of Try.underlying23 (i := Try.t23) (by kernel_rfl) rfl rfl rfl (by kernel_rfl) (fun h => by cases h) (by kernel_rfl)
theorem teKB_39 : TEOk Try.prog 39 ⟨Try.t38.desc, 30, 720, [.raw (.slice none 0 0), .raw (.slice none 0 0), .raw (.slice none 0 0), .raw (.slice none 0 0), .raw (.slice none 0 0), .raw (.slice none 0 0), .raw (.slice none 0 0), .raw (.slice none 0 0), .raw (.slice none 0 0), .raw (.slice none 0 0), .raw (.slice none 0 0), .raw (.slice none 0 0), .raw (.slice none 0 0), .raw (.slice none 0 0), .raw (.slice none 0 0), .raw (.slice none 0 0), .raw (.slice none 0 0), .raw (.slice none 0 0), .raw (.slice none 0 0), .raw (.slice none 0 0), .raw (.slice none 0 0), .raw (.slice none 0 0), .raw (.slice none 0 0), .raw (.slice none 0 0), .raw (.slice none 0 0), .raw (.slice none 0 0), .raw (.slice none 0 0), .raw (.slice none 0 0), .raw (.slice none 0 0), .raw (.slice none 0 0)], false⟩ :=
  TEOk.of Try.underlying39 (i := Try.t39) (by kernel_rfl) rfl rfl rfl (by kernel_rfl) (fun h => by cases h) (by kernel_rfl)
noncomputable def tabKB : List (Nat × TE) := [(5, ⟨.int .u8, 1, 1, [.i .u8 (0 : Int)], false⟩), (22, ⟨.slice 5, 1, 24, [.raw (.slice none 0 0)], false⟩), (23, ⟨.slice 22, 1, 24, [.raw (.slice none 0 0)], false⟩), (39, ⟨Try.t38.desc, 30, 720, [.raw (.slice none 0 0), .raw (.slice none 0 0), .raw (.slice none 0 0), .raw (.slice none 0 0), .raw (.slice none 0 0), .raw (.slice none 0 0), .raw (.slice none 0 0), .raw (.slice none 0 0), .raw (.slice none 0 0), .raw (.slice none 0 0), .raw (.slice none 0 0), .raw (.slice none 0 0), .raw (.slice none 0 0), .raw (.slice none 0 0), .raw (.slice none 0 0), .raw (.slice none 0 0), .raw (.slice none 0 0), .raw (.slice none 0 0), .raw (.slice none 0 0), .raw (.slice none 0 0), .raw (.slice none 0 0), .raw (.slice none 0 0), .raw (.slice none 0 0), .raw (.slice none 0 0), .raw (.slice none 0 0), .raw (.slice none 0 0), .raw (.slice none 0 0), .raw (.slice none 0 0), .raw (.slice none 0 0), .raw (.slice none 0 0)], false⟩)]
theorem tabOkKB : TabOk Try.prog (tabOf tabKB) := (tabOf_cons teKB_5 (tabOf_cons teKB_22 (tabOf_cons teKB_23 (tabOf_cons teKB_39 tabOf_nil))))

noncomputable def gam20 : Gam := gcall 39 [] [.s 1] (fun wk vs args => match wk, vs, args with | [], [⟨_, _, _, [.ints .u8 nm b]⟩], [.o (.a (.sl 0 0 n _))] => some ((nm = n) ∧ (n < (35184372088832 : Nat)), [.a (.rs 1 0 n 1)], [some ⟨false, [.ints .u8 nm b]⟩, some ⟨true, [.ints .u8 n (copyB n b)]⟩]) | _, _, _ => none) gam18
theorem gam20_ok : GamOk Try.prog gam20 := gcall_ok tabOkUB Try.func39 gam18_ok Try.call39 (by
  intro wk vs args p xs K1 h hv
  split at h
  · simp only [Option.some.injEq, Prod.mk.injEq] at h; obtain ⟨rfl, rfl, rfl⟩ := h; obtain ⟨g0, g1⟩ := hv; exact fun caps w rw β => copyB_body _ _ _ _ g0 g1 w rw β
  · simp at h)

def gv0A_mk (q k_ : Nat) (L W : List Value) (n nm : Nat) (b : List Int) (cap3 j : Nat) (sj : Unit) : St := ⟨sparse 61 [(0, .o (.a (.p 0 0))), (1, .o (.a (.sl 3 0 n cap3))), (4, .o (.a (.raw (.slice none 0 0)))), (5, .o (.a (.sl 4 0 (n + (3 : Nat)) (n + (3 : Nat))))), (6, .o (.a (.i .i64 ((j : Nat) : Int))))], [some ⟨true, [.rs 1 0 q 1, .rs 2 0 q 1, .raw (.slice none 0 0), .raw (.slice none 0 0), .raw (.slice none 0 0), .raw (.slice none 0 0), .raw (.slice none 0 0), .raw (.slice none 0 0), .raw (.slice none 0 0), .raw (.slice none 0 0), .raw (.slice none 0 0), .raw (.slice none 0 0), .raw (.slice none 0 0), .raw (.slice none 0 0), .raw (.slice none 0 0), .raw (.slice none 0 0), .raw (.slice none 0 0), .raw (.slice none 0 0), .raw (.slice none 0 0), .raw (.slice none 0 0), .raw (.slice none 0 0), .raw (.slice none 0 0), .raw (.slice none 0 0), .raw (.slice none 0 0), .raw (.slice none 0 0), .raw (.slice none 0 0), .raw (.slice none 0 0), .raw (.slice none 0 0), .raw (.slice none 0 0), .raw (.slice none 0 0)]⟩, some ⟨true, [.vals k_ L]⟩, some ⟨true, [.vals k_ W]⟩, some ⟨false, [.ints .u8 nm b]⟩, some ⟨true, [.ints .u8 (n + (3 : Nat)) (mkP (List.replicate (n + (3 : Nat)) (0 : Int)) (987 : Int) j)]⟩]⟩

def gv0A_step (j : Nat) (sj : Unit) : Unit :=
  ()

set_option maxHeartbeats 1000000 in
theorem gv0A_round (q k_ : Nat) (L W : List Value) (n nm : Nat) (b : List Int) (cap3 : Nat) (h0 : (nm = n)) (h1 : (n < (17592186044416 : Nat))) (h2 : (q < (2199023255552 : Nat))) (h3 : (q = k_)) (hc3 : n ≤ cap3) (hl3_0 : List.length b = nm) (w : World) (rw : List Nat) (β : Env) (j : Nat) (hj : j < (n + (3 : Nat))) (sj : Unit) : Run Try.prog ⟨w, rw, 4, β⟩ (loopB Try.f10 0) (gv0A_mk q k_ L W n nm b cap3 j sj) (To ⟨w, rw, 4, β⟩ .normal (gv0A_mk q k_ L W n nm b cap3 (j + 1) (gv0A_step j sj))) := by
  have e0 : (List.set (mkP (List.replicate (n + (3 : Nat)) (0 : Int)) (987 : Int) j) j (mkBy (987 : Int) ((j : Nat) : Int))) = (mkP (List.replicate (n + (3 : Nat)) (0 : Int)) (987 : Int) (j + (1 : Nat))) := (by first | exact wrap_succ (by omega) | exact mkP_step (by rw [List.length_replicate]) (by omega))
  have e1 : (IntKind.i64.wrap (((j : Nat) : Int) + (1 : Int))) = (((j + (1 : Nat)) : Nat) : Int) := (by first | exact wrap_succ (by omega) | exact mkP_step (by rw [List.length_replicate]) (by omega))
  have h := Run.of_outT (B := ⟨w, rw, 4, β⟩) (Λ := noLam) (Ψ := noPsi) (fuel := 0) (ora := [true]) (c := (loopB Try.f10 0)) (st := (gv0A_mk q k_ L W n nm b cap3 j sj)) (l := [.forget [0, 1, 4, 5, 6] 5]) (s' := ⟨sparse 61 [(0, .o (.a (.p 0 0))), (1, .o (.a (.sl 3 0 n cap3))), (4, .o (.a (.raw (.slice none 0 0)))), (5, .o (.a (.sl 4 0 (n + (3 : Nat)) (n + (3 : Nat))))), (6, .o (.a (.i .i64 (IntKind.i64.wrap (((j : Nat) : Int) + (1 : Int))))))], [some ⟨true, [.rs 1 0 q 1, .rs 2 0 q 1, .raw (.slice none 0 0), .raw (.slice none 0 0), .raw (.slice none 0 0), .raw (.slice none 0 0), .raw (.slice none 0 0), .raw (.slice none 0 0), .raw (.slice none 0 0), .raw (.slice none 0 0), .raw (.slice none 0 0), .raw (.slice none 0 0), .raw (.slice none 0 0), .raw (.slice none 0 0), .raw (.slice none 0 0), .raw (.slice none 0 0), .raw (.slice none 0 0), .raw (.slice none 0 0), .raw (.slice none 0 0), .raw (.slice none 0 0), .raw (.slice none 0 0), .raw (.slice none 0 0), .raw (.slice none 0 0), .raw (.slice none 0 0), .raw (.slice none 0 0), .raw (.slice none 0 0), .raw (.slice none 0 0), .raw (.slice none 0 0), .raw (.slice none 0 0), .raw (.slice none 0 0)]⟩, some ⟨true, [.vals k_ L]⟩, some ⟨true, [.vals k_ W]⟩, some ⟨false, [.ints .u8 nm b]⟩, some ⟨true, [.ints .u8 (n + (3 : Nat)) (List.set (mkP (List.replicate (n + (3 : Nat)) (0 : Int)) (987 : Int) j) j (mkBy (987 : Int) ((j : Nat) : Int)))]⟩]⟩) (ex := .normal) mix tabOkKB gam20_ok
    (vc := [(j < (n + (3 : Nat))), (((0 : Int) ≤ ((j : Nat) : Int)) ∧ (((j : Nat) : Int) < (((n + (3 : Nat)) : Nat) : Int))), ((decide (((j : Nat) : Int) < (((n + (3 : Nat)) : Nat) : Int))) = true)]) (by kernel_rfl)
    (aC (by first | omega | (simp (disch := omega) only [wrapI]; omega)) (aC ⟨(by first | omega | (simp (disch := omega) only [wrapI]; omega)), (by first | omega | (simp (disch := omega) only [wrapI]; omega))⟩ (aC (decide_eq_true (by first | omega | (simp (disch := omega) only [wrapI]; omega))) (AllP_nil))))
  rw [e0, e1] at h
  exact h

set_option maxHeartbeats 1000000 in
theorem gv0A_last (q k_ : Nat) (L W : List Value) (n nm : Nat) (b : List Int) (cap3 : Nat) (h0 : (nm = n)) (h1 : (n < (17592186044416 : Nat))) (h2 : (q < (2199023255552 : Nat))) (h3 : (q = k_)) (hc3 : n ≤ cap3) (hl3_0 : List.length b = nm) (w : World) (rw : List Nat) (β : Env) (sj : Unit) : Run Try.prog ⟨w, rw, 4, β⟩ (loopB Try.f10 0) (gv0A_mk q k_ L W n nm b cap3 (n + (3 : Nat)) sj) (To ⟨w, rw, 4, β⟩ (.exit 0) (gv0A_mk q k_ L W n nm b cap3 (n + (3 : Nat)) sj)) :=
  Run.of_outT (B := ⟨w, rw, 4, β⟩) (Λ := noLam) (Ψ := noPsi) (fuel := 0) (ora := [false]) (l := [.forget [0, 1, 4, 5, 6] 5]) mix tabOkKB gam20_ok
    (vc := [((decide ((((n + (3 : Nat)) : Nat) : Int) < (((n + (3 : Nat)) : Nat) : Int))) = false)]) (by kernel_rfl)
    (aC (decide_eq_false (by omega)) (AllP_nil))

theorem gv0A_loop (q k_ : Nat) (L W : List Value) (n nm : Nat) (b : List Int) (cap3 : Nat) (h0 : (nm = n)) (h1 : (n < (17592186044416 : Nat))) (h2 : (q < (2199023255552 : Nat))) (h3 : (q = k_)) (hc3 : n ≤ cap3) (hl3_0 : List.length b = nm) (w : World) (rw : List Nat) (β : Env) (sj : Unit) : Run Try.prog ⟨w, rw, 4, β⟩ (.block 0 (.loop (loopB Try.f10 0))) (gv0A_mk q k_ L W n nm b cap3 0 sj) (To ⟨w, rw, 4, β⟩ .normal (gv0A_mk q k_ L W n nm b cap3 (n + (3 : Nat)) (iter (gv0A_step) (n + (3 : Nat)) sj))) :=
  Run.count (fun j => gv0A_mk q k_ L W n nm b cap3 j (iter (gv0A_step) j sj)) (n + (3 : Nat)) (fun j hj => gv0A_round q k_ L W n nm b cap3 h0 h1 h2 h3 hc3 hl3_0 w rw β j hj _) (ex := (.exit 0)) (by simp) (gv0A_last q k_ L W n nm b cap3 h0 h1 h2 h3 hc3 hl3_0 w rw β _)

def gv0B_mk (q k_ : Nat) (L W : List Value) (n nm : Nat) (b : List Int) (cap3 j : Nat) (sj : Unit) : St := ⟨sparse 61 [(0, .o (.a (.p 0 0))), (1, .o (.a (.sl 3 0 n cap3))), (4, .o (.a (.raw (.slice none 0 0)))), (5, .o (.a (.sl 4 0 (n + (3 : Nat)) (n + (3 : Nat))))), (6, .o (.a (.i .i64 (((n + (3 : Nat)) : Nat) : Int)))), (7, .o (.a (.i .i64 ((j : Nat) : Int))))], [some ⟨true, [.rs 1 0 q 1, .rs 2 0 q 1, .raw (.slice none 0 0), .raw (.slice none 0 0), .raw (.slice none 0 0), .raw (.slice none 0 0), .raw (.slice none 0 0), .raw (.slice none 0 0), .raw (.slice none 0 0), .raw (.slice none 0 0), .raw (.slice none 0 0), .raw (.slice none 0 0), .raw (.slice none 0 0), .raw (.slice none 0 0), .raw (.slice none 0 0), .raw (.slice none 0 0), .raw (.slice none 0 0), .raw (.slice none 0 0), .raw (.slice none 0 0), .raw (.slice none 0 0), .raw (.slice none 0 0), .raw (.slice none 0 0), .raw (.slice none 0 0), .raw (.slice none 0 0), .raw (.slice none 0 0), .raw (.slice none 0 0), .raw (.slice none 0 0), .raw (.slice none 0 0), .raw (.slice none 0 0), .raw (.slice none 0 0)]⟩, some ⟨true, [.vals k_ L]⟩, some ⟨true, [.vals k_ W]⟩, some ⟨false, [.ints .u8 nm b]⟩, some ⟨true, [.ints .u8 (n + (3 : Nat)) (cpB b (rwB (987 : Int) (n + (3 : Nat))) j)]⟩]⟩

def gv0B_step (j : Nat) (sj : Unit) : Unit :=
  ()

set_option maxHeartbeats 1000000 in
theorem gv0B_round (q k_ : Nat) (L W : List Value) (n nm : Nat) (b : List Int) (cap3 : Nat) (h0 : (nm = n)) (h1 : (n < (17592186044416 : Nat))) (h2 : (q < (2199023255552 : Nat))) (h3 : (q = k_)) (hc3 : n ≤ cap3) (hl3_0 : List.length b = nm) (w : World) (rw : List Nat) (β : Env) (j : Nat) (hj : j < n) (sj : Unit) : Run Try.prog ⟨w, rw, 4, β⟩ (loopB Try.f10 2) (gv0B_mk q k_ L W n nm b cap3 j sj) (To ⟨w, rw, 4, β⟩ .normal (gv0B_mk q k_ L W n nm b cap3 (j + 1) (gv0B_step j sj))) := by
  have e0 : (List.set (cpB b (rwB (987 : Int) (n + (3 : Nat))) j) j (List.getD b j 0)) = (cpB b (rwB (987 : Int) (n + (3 : Nat))) (j + (1 : Nat))) := (by first | exact wrap_succ (by omega) | exact cpB_step (hl3_0.trans h0) (rwB_len _ _) (by omega) (by omega))
  have e1 : (IntKind.i64.wrap (((j : Nat) : Int) + (1 : Int))) = (((j + (1 : Nat)) : Nat) : Int) := (by first | exact wrap_succ (by omega) | exact cpB_step (hl3_0.trans h0) (rwB_len _ _) (by omega) (by omega))
  have h := Run.of_outT (B := ⟨w, rw, 4, β⟩) (Λ := noLam) (Ψ := noPsi) (fuel := 0) (ora := [true]) (c := (loopB Try.f10 2)) (st := (gv0B_mk q k_ L W n nm b cap3 j sj)) (l := [.forget [0, 1, 4, 5, 6, 7] 5]) (s' := ⟨sparse 61 [(0, .o (.a (.p 0 0))), (1, .o (.a (.sl 3 0 n cap3))), (4, .o (.a (.raw (.slice none 0 0)))), (5, .o (.a (.sl 4 0 (n + (3 : Nat)) (n + (3 : Nat))))), (6, .o (.a (.i .i64 (((n + (3 : Nat)) : Nat) : Int)))), (7, .o (.a (.i .i64 (IntKind.i64.wrap (((j : Nat) : Int) + (1 : Int))))))], [some ⟨true, [.rs 1 0 q 1, .rs 2 0 q 1, .raw (.slice none 0 0), .raw (.slice none 0 0), .raw (.slice none 0 0), .raw (.slice none 0 0), .raw (.slice none 0 0), .raw (.slice none 0 0), .raw (.slice none 0 0), .raw (.slice none 0 0), .raw (.slice none 0 0), .raw (.slice none 0 0), .raw (.slice none 0 0), .raw (.slice none 0 0), .raw (.slice none 0 0), .raw (.slice none 0 0), .raw (.slice none 0 0), .raw (.slice none 0 0), .raw (.slice none 0 0), .raw (.slice none 0 0), .raw (.slice none 0 0), .raw (.slice none 0 0), .raw (.slice none 0 0), .raw (.slice none 0 0), .raw (.slice none 0 0), .raw (.slice none 0 0), .raw (.slice none 0 0), .raw (.slice none 0 0), .raw (.slice none 0 0), .raw (.slice none 0 0)]⟩, some ⟨true, [.vals k_ L]⟩, some ⟨true, [.vals k_ W]⟩, some ⟨false, [.ints .u8 nm b]⟩, some ⟨true, [.ints .u8 (n + (3 : Nat)) (List.set (cpB b (rwB (987 : Int) (n + (3 : Nat))) j) j (List.getD b j 0))]⟩]⟩) (ex := .normal) mix tabOkKB gam20_ok
    (vc := [(j < (n + (3 : Nat))), (((0 : Int) ≤ ((j : Nat) : Int)) ∧ (((j : Nat) : Int) < (((n + (3 : Nat)) : Nat) : Int))), (j < nm), (((0 : Int) ≤ ((j : Nat) : Int)) ∧ (((j : Nat) : Int) < ((n : Nat) : Int))), ((decide (((j : Nat) : Int) < ((n : Nat) : Int))) = true)]) (by kernel_rfl)
    (aC (by first | omega | (simp (disch := omega) only [wrapI]; omega)) (aC ⟨(by first | omega | (simp (disch := omega) only [wrapI]; omega)), (by first | omega | (simp (disch := omega) only [wrapI]; omega))⟩ (aC (by first | omega | (simp (disch := omega) only [wrapI]; omega)) (aC ⟨(by first | omega | (simp (disch := omega) only [wrapI]; omega)), (by first | omega | (simp (disch := omega) only [wrapI]; omega))⟩ (aC (decide_eq_true (by first | omega | (simp (disch := omega) only [wrapI]; omega))) (AllP_nil))))))
  rw [e0, e1] at h
  exact h

set_option maxHeartbeats 1000000 in
theorem gv0B_last (q k_ : Nat) (L W : List Value) (n nm : Nat) (b : List Int) (cap3 : Nat) (h0 : (nm = n)) (h1 : (n < (17592186044416 : Nat))) (h2 : (q < (2199023255552 : Nat))) (h3 : (q = k_)) (hc3 : n ≤ cap3) (hl3_0 : List.length b = nm) (w : World) (rw : List Nat) (β : Env) (sj : Unit) : Run Try.prog ⟨w, rw, 4, β⟩ (loopB Try.f10 2) (gv0B_mk q k_ L W n nm b cap3 n sj) (To ⟨w, rw, 4, β⟩ (.exit 2) (gv0B_mk q k_ L W n nm b cap3 n sj)) :=
  Run.of_outT (B := ⟨w, rw, 4, β⟩) (Λ := noLam) (Ψ := noPsi) (fuel := 0) (ora := [false]) (l := [.forget [0, 1, 4, 5, 6, 7] 5]) mix tabOkKB gam20_ok
    (vc := [((decide (((n : Nat) : Int) < ((n : Nat) : Int))) = false)]) (by kernel_rfl)
    (aC (decide_eq_false (by omega)) (AllP_nil))

theorem gv0B_loop (q k_ : Nat) (L W : List Value) (n nm : Nat) (b : List Int) (cap3 : Nat) (h0 : (nm = n)) (h1 : (n < (17592186044416 : Nat))) (h2 : (q < (2199023255552 : Nat))) (h3 : (q = k_)) (hc3 : n ≤ cap3) (hl3_0 : List.length b = nm) (w : World) (rw : List Nat) (β : Env) (sj : Unit) : Run Try.prog ⟨w, rw, 4, β⟩ (.block 2 (.loop (loopB Try.f10 2))) (gv0B_mk q k_ L W n nm b cap3 0 sj) (To ⟨w, rw, 4, β⟩ .normal (gv0B_mk q k_ L W n nm b cap3 n (iter (gv0B_step) n sj))) :=
  Run.count (fun j => gv0B_mk q k_ L W n nm b cap3 j (iter (gv0B_step) j sj)) n (fun j hj => gv0B_round q k_ L W n nm b cap3 h0 h1 h2 h3 hc3 hl3_0 w rw β j hj _) (ex := (.exit 2)) (by simp) (gv0B_last q k_ L W n nm b cap3 h0 h1 h2 h3 hc3 hl3_0 w rw β _)

def gv0 (n : Nat) : Nat :=
  (n + (3 : Nat))

def gv0_1 (q : Nat) : Nat :=
  (q + (1 : Nat))

set_option maxHeartbeats 1000000 in
theorem gv0_body0 (q k_ : Nat) (L W : List Value) (n nm : Nat) (b : List Int) (cap3 : Nat) (h0 : (nm = n)) (h1 : (n < (17592186044416 : Nat))) (h2 : (q < (2199023255552 : Nat))) (h3 : (q = k_)) (hc3 : n ≤ cap3) (hl3_0 : List.length b = nm) (w : World) (rw : List Nat) (β : Env) : Body Try.prog (tabOf tabKB) Try.f10 ⟨w, rw, 4, β⟩ [.o (.a (.p 0 0)), .o (.a (.sl 3 0 n cap3))] [some ⟨true, [.rs 1 0 q 1, .rs 2 0 q 1, .raw (.slice none 0 0), .raw (.slice none 0 0), .raw (.slice none 0 0), .raw (.slice none 0 0), .raw (.slice none 0 0), .raw (.slice none 0 0), .raw (.slice none 0 0), .raw (.slice none 0 0), .raw (.slice none 0 0), .raw (.slice none 0 0), .raw (.slice none 0 0), .raw (.slice none 0 0), .raw (.slice none 0 0), .raw (.slice none 0 0), .raw (.slice none 0 0), .raw (.slice none 0 0), .raw (.slice none 0 0), .raw (.slice none 0 0), .raw (.slice none 0 0), .raw (.slice none 0 0), .raw (.slice none 0 0), .raw (.slice none 0 0), .raw (.slice none 0 0), .raw (.slice none 0 0), .raw (.slice none 0 0), .raw (.slice none 0 0), .raw (.slice none 0 0), .raw (.slice none 0 0)]⟩, some ⟨true, [.vals k_ L]⟩, some ⟨true, [.vals k_ W]⟩, some ⟨false, [.ints .u8 nm b]⟩] (fun ys K' => ys = [.a (.sl 6 0 n (gv0 n))] ∧ K' = [some ⟨true, [.rs 4 0 (gv0_1 q) 1, .rs 5 0 (gv0_1 q) 1, .raw (.slice none 0 0), .raw (.slice none 0 0), .raw (.slice none 0 0), .raw (.slice none 0 0), .raw (.slice none 0 0), .raw (.slice none 0 0), .raw (.slice none 0 0), .raw (.slice none 0 0), .raw (.slice none 0 0), .raw (.slice none 0 0), .raw (.slice none 0 0), .raw (.slice none 0 0), .raw (.slice none 0 0), .raw (.slice none 0 0), .raw (.slice none 0 0), .raw (.slice none 0 0), .raw (.slice none 0 0), .raw (.slice none 0 0), .raw (.slice none 0 0), .raw (.slice none 0 0), .raw (.slice none 0 0), .raw (.slice none 0 0), .raw (.slice none 0 0), .raw (.slice none 0 0), .raw (.slice none 0 0), .raw (.slice none 0 0), .raw (.slice none 0 0), .raw (.slice none 0 0)]⟩, none, none, some ⟨false, [.ints .u8 nm b]⟩, some ⟨true, [.vals q (sub L 0 q), .sl 6 0 (gv0 n) (gv0 n)]⟩, some ⟨true, [.vals q (sub W 0 q), .rs 7 0 (gv0 n) 1]⟩, some ⟨true, [.ints .u8 (gv0 n) (gvB n b)]⟩, some ⟨true, [.ints .u8 (gv0 n) (gvB n b)]⟩]) :=
  Body.of_finK (Γ := gam20) (Λ := lamOf [(0, ⟨[.forget [0, 1, 4, 5, 6] 5], .normal, (gv0A_mk q k_ L W n nm b cap3 (n + (3 : Nat)) (iter (gv0A_step) (n + (3 : Nat)) ()))⟩), (2, ⟨[.forget [0, 1, 4, 5, 6, 7] 5], .normal, (gv0B_mk q k_ L W n nm b cap3 n (iter (gv0B_step) n ()))⟩)]) (Ψ := psiOf [(1, [.eqS 5 (.o (.a (.sl 4 0 (n + (3 : Nat)) (n + (3 : Nat))))), .eqB 4 (⟨true, [.ints .u8 (n + (3 : Nat)) (List.replicate (n + (3 : Nat)) (0 : Int))]⟩)]), (6, [.eqB 4 (⟨true, [.ints .u8 (n + (3 : Nat)) (rwB (987 : Int) (n + (3 : Nat)))]⟩)]), (10, [.eqB 4 (⟨true, [.ints .u8 (n + (3 : Nat)) (gvB n b)]⟩)]), (11, [.eqB 7 (⟨true, [.ints .u8 (n + (3 : Nat)) (gvB n b)]⟩)])]) (fuel := 0) (m := 61) (c := (Try.f10.body.getD .skip)) mix tabOkKB gam20_ok rfl (rs := [.tmp 4]) rfl rfl [false, false] [.swap 4 6, .swap 5 9] 8
    (vc := [(((0 : Int) ≤ (0 : Int)) ∧ ((0 : Int) ≤ ((n : Nat) : Int)) ∧ (((n : Nat) : Int) ≤ (((n + (3 : Nat)) : Nat) : Int))), ((some ⟨true, [.ints .u8 (n + (3 : Nat)) (copyB (n + (3 : Nat)) (sub (gvB n b) (0 : Nat) (n + (3 : Nat))))]⟩ : Option Blk) = some ⟨true, [.ints .u8 (n + (3 : Nat)) (gvB n b)]⟩), ((((0 : Nat) + q) ≤ k_) ∧ (((1 : Nat) ≤ (1 : Nat)) ∧ True) ∧ (((q + (1 : Nat)) * (24 : Nat)) ≤ (140737488355328 : Nat))), (((((0 : Nat) + (n + (3 : Nat))) ≤ (n + (3 : Nat))) ∧ True) ∧ (((n + (3 : Nat)) = (n + (3 : Nat))) ∧ ((n + (3 : Nat)) < (35184372088832 : Nat)))), ((some ⟨true, [.ints .u8 (n + (3 : Nat)) (cpB b (rwB (987 : Int) (n + (3 : Nat))) n)]⟩ : Option Blk) = some ⟨true, [.ints .u8 (n + (3 : Nat)) (gvB n b)]⟩), ((((0 : Nat) + q) ≤ k_) ∧ (((1 : Nat) ≤ (1 : Nat)) ∧ True) ∧ (((q + (1 : Nat)) * (24 : Nat)) ≤ (140737488355328 : Nat))), (Run Try.prog ⟨w, rw, 4, β⟩ (.block 2 (.loop (loopB Try.f10 2))) (gv0B_mk q k_ L W n nm b cap3 0 ()) (To ⟨w, rw, 4, β⟩ .normal (gv0B_mk q k_ L W n nm b cap3 n (iter (gv0B_step) n ())))), ((some ⟨true, [.ints .u8 (n + (3 : Nat)) (mkP (List.replicate (n + (3 : Nat)) (0 : Int)) (987 : Int) (n + (3 : Nat)))]⟩ : Option Blk) = some ⟨true, [.ints .u8 (n + (3 : Nat)) (rwB (987 : Int) (n + (3 : Nat)))]⟩), (Run Try.prog ⟨w, rw, 4, β⟩ (.block 0 (.loop (loopB Try.f10 0))) (gv0A_mk q k_ L W n nm b cap3 0 ()) (To ⟨w, rw, 4, β⟩ .normal (gv0A_mk q k_ L W n nm b cap3 (n + (3 : Nat)) (iter (gv0A_step) (n + (3 : Nat)) ())))), ((some ⟨true, [.ints .u8 (Int.toNat (IntKind.i64.wrap (((n : Nat) : Int) + (3 : Int)))) (List.replicate (Int.toNat (IntKind.i64.wrap (((n : Nat) : Int) + (3 : Int)))) (0 : Int))]⟩ : Option Blk) = some ⟨true, [.ints .u8 (n + (3 : Nat)) (List.replicate (n + (3 : Nat)) (0 : Int))]⟩), ((.o (.a (.sl 4 0 (Int.toNat (IntKind.i64.wrap (((n : Nat) : Int) + (3 : Int)))) (Int.toNat (IntKind.i64.wrap (((n : Nat) : Int) + (3 : Int)))))) : AV) = .o (.a (.sl 4 0 (n + (3 : Nat)) (n + (3 : Nat))))), (((0 : Int) ≤ (IntKind.i64.wrap (((n : Nat) : Int) + (3 : Int)))) ∧ ((IntKind.i64.wrap (((n : Nat) : Int) + (3 : Int))) ≤ (IntKind.i64.wrap (((n : Nat) : Int) + (3 : Int)))) ∧ (((IntKind.i64.wrap (((n : Nat) : Int) + (3 : Int))) * (1 : Int)) ≤ (281474976710656 : Int)))]) (by kernel_rfl)
    (aC ⟨(by decide), (by first | omega | (simp (disch := omega) only [wrapI]; omega)), (by first | omega | (simp (disch := omega) only [wrapI]; omega))⟩ (aC ((by rw [show copyB (n + 3) (sub (gvB n b) 0 (n + 3)) = gvB n b from gv_copy (hl3_0.trans h0)])) (aC ⟨(by first | omega | (simp (disch := omega) only [wrapI]; omega)), ⟨(by decide), trivial⟩, (by first | omega | (simp (disch := omega) only [wrapI]; omega))⟩ (aC ⟨⟨(by first | omega | (simp (disch := omega) only [wrapI]; omega)), trivial⟩, ⟨rfl, (by first | omega | (simp (disch := omega) only [wrapI]; omega))⟩⟩ (aC (rfl) (aC ⟨(by first | omega | (simp (disch := omega) only [wrapI]; omega)), ⟨(by decide), trivial⟩, (by first | omega | (simp (disch := omega) only [wrapI]; omega))⟩ (aC (gv0B_loop q k_ L W n nm b cap3 h0 h1 h2 h3 hc3 hl3_0 w rw β ()) (aC ((by rw [mkP_all (by rw [List.length_replicate])])) (aC (gv0A_loop q k_ L W n nm b cap3 h0 h1 h2 h3 hc3 hl3_0 w rw β ()) (aC ((by rw [wrapI (by omega) (by omega), show Int.toNat (((n : Nat) : Int) + 3) = n + 3 from by omega])) (aC ((by rw [wrapI (by omega) (by omega), show Int.toNat (((n : Nat) : Int) + 3) = n + 3 from by omega])) (aC ⟨(by first | omega | (simp (disch := omega) only [wrapI]; omega)), (by first | omega | (simp (disch := omega) only [wrapI]; omega)), (by first | omega | (simp (disch := omega) only [wrapI]; omega))⟩ (AllP_nil)))))))))))))

theorem gv0_body (q k_ : Nat) (L W : List Value) (n nm : Nat) (b : List Int) (cap3 : Nat) (h0 : (nm = n)) (h1 : (n < (17592186044416 : Nat))) (h2 : (q < (2199023255552 : Nat))) (h3 : (q = k_)) (w : World) (rw : List Nat) (β : Env) : Body Try.prog (tabOf tabKB) Try.f10 ⟨w, rw, 4, β⟩ [.o (.a (.p 0 0)), .o (.a (.sl 3 0 n cap3))] [some ⟨true, [.rs 1 0 q 1, .rs 2 0 q 1, .raw (.slice none 0 0), .raw (.slice none 0 0), .raw (.slice none 0 0), .raw (.slice none 0 0), .raw (.slice none 0 0), .raw (.slice none 0 0), .raw (.slice none 0 0), .raw (.slice none 0 0), .raw (.slice none 0 0), .raw (.slice none 0 0), .raw (.slice none 0 0), .raw (.slice none 0 0), .raw (.slice none 0 0), .raw (.slice none 0 0), .raw (.slice none 0 0), .raw (.slice none 0 0), .raw (.slice none 0 0), .raw (.slice none 0 0), .raw (.slice none 0 0), .raw (.slice none 0 0), .raw (.slice none 0 0), .raw (.slice none 0 0), .raw (.slice none 0 0), .raw (.slice none 0 0), .raw (.slice none 0 0), .raw (.slice none 0 0), .raw (.slice none 0 0), .raw (.slice none 0 0)]⟩, some ⟨true, [.vals k_ L]⟩, some ⟨true, [.vals k_ W]⟩, some ⟨false, [.ints .u8 nm b]⟩] (fun ys K' => ys = [.a (.sl 6 0 n (gv0 n))] ∧ K' = [some ⟨true, [.rs 4 0 (gv0_1 q) 1, .rs 5 0 (gv0_1 q) 1, .raw (.slice none 0 0), .raw (.slice none 0 0), .raw (.slice none 0 0), .raw (.slice none 0 0), .raw (.slice none 0 0), .raw (.slice none 0 0), .raw (.slice none 0 0), .raw (.slice none 0 0), .raw (.slice none 0 0), .raw (.slice none 0 0), .raw (.slice none 0 0), .raw (.slice none 0 0), .raw (.slice none 0 0), .raw (.slice none 0 0), .raw (.slice none 0 0), .raw (.slice none 0 0), .raw (.slice none 0 0), .raw (.slice none 0 0), .raw (.slice none 0 0), .raw (.slice none 0 0), .raw (.slice none 0 0), .raw (.slice none 0 0), .raw (.slice none 0 0), .raw (.slice none 0 0), .raw (.slice none 0 0), .raw (.slice none 0 0), .raw (.slice none 0 0), .raw (.slice none 0 0)]⟩, none, none, some ⟨false, [.ints .u8 nm b]⟩, some ⟨true, [.vals q (sub L 0 q), .sl 6 0 (gv0 n) (gv0 n)]⟩, some ⟨true, [.vals q (sub W 0 q), .rs 7 0 (gv0 n) 1]⟩, some ⟨true, [.ints .u8 (gv0 n) (gvB n b)]⟩, some ⟨true, [.ints .u8 (gv0 n) (gvB n b)]⟩]) :=
  Body.lens (c := (Try.f10.body.getD .skip)) rfl fun h => gv0_body0 q k_ L W n nm b cap3 h0 h1 h2 h3 (h.caps 1 _ _ _ _ rfl) (h.lens 3 _ .u8 nm b rfl (by simp)) w rw β

def gv1A_mk (q k_ : Nat) (L : List Value) (m0 : Nat) (B0 : List Int) (W : List Value) (D0 : List Int) (n nm : Nat) (b : List Int) (cap5 j : Nat) (sj : Unit) : St := ⟨sparse 61 [(0, .o (.a (.p 0 0))), (1, .o (.a (.sl 5 0 n cap5))), (4, .o (.a (.raw (.slice none 0 0)))), (5, .o (.a (.sl 6 0 (n + (3 : Nat)) (n + (3 : Nat))))), (6, .o (.a (.i .i64 ((j : Nat) : Int))))], [some ⟨true, [.rs 1 0 q 1, .rs 3 0 q 1, .raw (.slice none 0 0), .raw (.slice none 0 0), .raw (.slice none 0 0), .raw (.slice none 0 0), .raw (.slice none 0 0), .raw (.slice none 0 0), .raw (.slice none 0 0), .raw (.slice none 0 0), .raw (.slice none 0 0), .raw (.slice none 0 0), .raw (.slice none 0 0), .raw (.slice none 0 0), .raw (.slice none 0 0), .raw (.slice none 0 0), .raw (.slice none 0 0), .raw (.slice none 0 0), .raw (.slice none 0 0), .raw (.slice none 0 0), .raw (.slice none 0 0), .raw (.slice none 0 0), .raw (.slice none 0 0), .raw (.slice none 0 0), .raw (.slice none 0 0), .raw (.slice none 0 0), .raw (.slice none 0 0), .raw (.slice none 0 0), .raw (.slice none 0 0), .raw (.slice none 0 0)]⟩, some ⟨true, [.vals k_ L, .sl 2 0 m0 m0]⟩, some ⟨true, [.ints .u8 m0 B0]⟩, some ⟨true, [.vals k_ W, .rs 4 0 m0 1]⟩, some ⟨true, [.ints .u8 m0 D0]⟩, some ⟨false, [.ints .u8 nm b]⟩, some ⟨true, [.ints .u8 (n + (3 : Nat)) (mkP (List.replicate (n + (3 : Nat)) (0 : Int)) (987 : Int) j)]⟩]⟩

def gv1A_step (j : Nat) (sj : Unit) : Unit :=
  ()

set_option maxHeartbeats 1000000 in
theorem gv1A_round (q k_ : Nat) (L : List Value) (m0 : Nat) (B0 : List Int) (W : List Value) (D0 : List Int) (n nm : Nat) (b : List Int) (cap5 : Nat) (h0 : (nm = n)) (h1 : (n < (17592186044416 : Nat))) (h2 : (q < (2199023255552 : Nat))) (h3 : (q = (k_ + (1 : Nat)))) (hc5 : n ≤ cap5) (hl2_0 : List.length B0 = m0) (hl4_0 : List.length D0 = m0) (hl5_0 : List.length b = nm) (w : World) (rw : List Nat) (β : Env) (j : Nat) (hj : j < (n + (3 : Nat))) (sj : Unit) : Run Try.prog ⟨w, rw, 6, β⟩ (loopB Try.f10 0) (gv1A_mk q k_ L m0 B0 W D0 n nm b cap5 j sj) (To ⟨w, rw, 6, β⟩ .normal (gv1A_mk q k_ L m0 B0 W D0 n nm b cap5 (j + 1) (gv1A_step j sj))) := by
  have e0 : (List.set (mkP (List.replicate (n + (3 : Nat)) (0 : Int)) (987 : Int) j) j (mkBy (987 : Int) ((j : Nat) : Int))) = (mkP (List.replicate (n + (3 : Nat)) (0 : Int)) (987 : Int) (j + (1 : Nat))) := (by first | exact wrap_succ (by omega) | exact mkP_step (by rw [List.length_replicate]) (by omega))
  have e1 : (IntKind.i64.wrap (((j : Nat) : Int) + (1 : Int))) = (((j + (1 : Nat)) : Nat) : Int) := (by first | exact wrap_succ (by omega) | exact mkP_step (by rw [List.length_replicate]) (by omega))
  have h := Run.of_outT (B := ⟨w, rw, 6, β⟩) (Λ := noLam) (Ψ := noPsi) (fuel := 0) (ora := [true]) (c := (loopB Try.f10 0)) (st := (gv1A_mk q k_ L m0 B0 W D0 n nm b cap5 j sj)) (l := [.forget [0, 1, 4, 5, 6] 7]) (s' := ⟨sparse 61 [(0, .o (.a (.p 0 0))), (1, .o (.a (.sl 5 0 n cap5))), (4, .o (.a (.raw (.slice none 0 0)))), (5, .o (.a (.sl 6 0 (n + (3 : Nat)) (n + (3 : Nat))))), (6, .o (.a (.i .i64 (IntKind.i64.wrap (((j : Nat) : Int) + (1 : Int))))))], [some ⟨true, [.rs 1 0 q 1, .rs 3 0 q 1, .raw (.slice none 0 0), .raw (.slice none 0 0), .raw (.slice none 0 0), .raw (.slice none 0 0), .raw (.slice none 0 0), .raw (.slice none 0 0), .raw (.slice none 0 0), .raw (.slice none 0 0), .raw (.slice none 0 0), .raw (.slice none 0 0), .raw (.slice none 0 0), .raw (.slice none 0 0), .raw (.slice none 0 0), .raw (.slice none 0 0), .raw (.slice none 0 0), .raw (.slice none 0 0), .raw (.slice none 0 0), .raw (.slice none 0 0), .raw (.slice none 0 0), .raw (.slice none 0 0), .raw (.slice none 0 0), .raw (.slice none 0 0), .raw (.slice none 0 0), .raw (.slice none 0 0), .raw (.slice none 0 0), .raw (.slice none 0 0), .raw (.slice none 0 0), .raw (.slice none 0 0)]⟩, some ⟨true, [.vals k_ L, .sl 2 0 m0 m0]⟩, some ⟨true, [.ints .u8 m0 B0]⟩, some ⟨true, [.vals k_ W, .rs 4 0 m0 1]⟩, some ⟨true, [.ints .u8 m0 D0]⟩, some ⟨false, [.ints .u8 nm b]⟩, some ⟨true, [.ints .u8 (n + (3 : Nat)) (List.set (mkP (List.replicate (n + (3 : Nat)) (0 : Int)) (987 : Int) j) j (mkBy (987 : Int) ((j : Nat) : Int)))]⟩]⟩) (ex := .normal) mix tabOkKB gam20_ok
    (vc := [(j < (n + (3 : Nat))), (((0 : Int) ≤ ((j : Nat) : Int)) ∧ (((j : Nat) : Int) < (((n + (3 : Nat)) : Nat) : Int))), ((decide (((j : Nat) : Int) < (((n + (3 : Nat)) : Nat) : Int))) = true)]) (by kernel_rfl)
    (aC (by first | omega | (simp (disch := omega) only [wrapI]; omega)) (aC ⟨(by first | omega | (simp (disch := omega) only [wrapI]; omega)), (by first | omega | (simp (disch := omega) only [wrapI]; omega))⟩ (aC (decide_eq_true (by first | omega | (simp (disch := omega) only [wrapI]; omega))) (AllP_nil))))
  rw [e0, e1] at h
  exact h

set_option maxHeartbeats 1000000 in
theorem gv1A_last (q k_ : Nat) (L : List Value) (m0 : Nat) (B0 : List Int) (W : List Value) (D0 : List Int) (n nm : Nat) (b : List Int) (cap5 : Nat) (h0 : (nm = n)) (h1 : (n < (17592186044416 : Nat))) (h2 : (q < (2199023255552 : Nat))) (h3 : (q = (k_ + (1 : Nat)))) (hc5 : n ≤ cap5) (hl2_0 : List.length B0 = m0) (hl4_0 : List.length D0 = m0) (hl5_0 : List.length b = nm) (w : World) (rw : List Nat) (β : Env) (sj : Unit) : Run Try.prog ⟨w, rw, 6, β⟩ (loopB Try.f10 0) (gv1A_mk q k_ L m0 B0 W D0 n nm b cap5 (n + (3 : Nat)) sj) (To ⟨w, rw, 6, β⟩ (.exit 0) (gv1A_mk q k_ L m0 B0 W D0 n nm b cap5 (n + (3 : Nat)) sj)) :=
  Run.of_outT (B := ⟨w, rw, 6, β⟩) (Λ := noLam) (Ψ := noPsi) (fuel := 0) (ora := [false]) (l := [.forget [0, 1, 4, 5, 6] 7]) mix tabOkKB gam20_ok
    (vc := [((decide ((((n + (3 : Nat)) : Nat) : Int) < (((n + (3 : Nat)) : Nat) : Int))) = false)]) (by kernel_rfl)
    (aC (decide_eq_false (by omega)) (AllP_nil))

theorem gv1A_loop (q k_ : Nat) (L : List Value) (m0 : Nat) (B0 : List Int) (W : List Value) (D0 : List Int) (n nm : Nat) (b : List Int) (cap5 : Nat) (h0 : (nm = n)) (h1 : (n < (17592186044416 : Nat))) (h2 : (q < (2199023255552 : Nat))) (h3 : (q = (k_ + (1 : Nat)))) (hc5 : n ≤ cap5) (hl2_0 : List.length B0 = m0) (hl4_0 : List.length D0 = m0) (hl5_0 : List.length b = nm) (w : World) (rw : List Nat) (β : Env) (sj : Unit) : Run Try.prog ⟨w, rw, 6, β⟩ (.block 0 (.loop (loopB Try.f10 0))) (gv1A_mk q k_ L m0 B0 W D0 n nm b cap5 0 sj) (To ⟨w, rw, 6, β⟩ .normal (gv1A_mk q k_ L m0 B0 W D0 n nm b cap5 (n + (3 : Nat)) (iter (gv1A_step) (n + (3 : Nat)) sj))) :=
  Run.count (fun j => gv1A_mk q k_ L m0 B0 W D0 n nm b cap5 j (iter (gv1A_step) j sj)) (n + (3 : Nat)) (fun j hj => gv1A_round q k_ L m0 B0 W D0 n nm b cap5 h0 h1 h2 h3 hc5 hl2_0 hl4_0 hl5_0 w rw β j hj _) (ex := (.exit 0)) (by simp) (gv1A_last q k_ L m0 B0 W D0 n nm b cap5 h0 h1 h2 h3 hc5 hl2_0 hl4_0 hl5_0 w rw β _)

def gv1B_mk (q k_ : Nat) (L : List Value) (m0 : Nat) (B0 : List Int) (W : List Value) (D0 : List Int) (n nm : Nat) (b : List Int) (cap5 j : Nat) (sj : Unit) : St := ⟨sparse 61 [(0, .o (.a (.p 0 0))), (1, .o (.a (.sl 5 0 n cap5))), (4, .o (.a (.raw (.slice none 0 0)))), (5, .o (.a (.sl 6 0 (n + (3 : Nat)) (n + (3 : Nat))))), (6, .o (.a (.i .i64 (((n + (3 : Nat)) : Nat) : Int)))), (7, .o (.a (.i .i64 ((j : Nat) : Int))))], [some ⟨true, [.rs 1 0 q 1, .rs 3 0 q 1, .raw (.slice none 0 0), .raw (.slice none 0 0), .raw (.slice none 0 0), .raw (.slice none 0 0), .raw (.slice none 0 0), .raw (.slice none 0 0), .raw (.slice none 0 0), .raw (.slice none 0 0), .raw (.slice none 0 0), .raw (.slice none 0 0), .raw (.slice none 0 0), .raw (.slice none 0 0), .raw (.slice none 0 0), .raw (.slice none 0 0), .raw (.slice none 0 0), .raw (.slice none 0 0), .raw (.slice none 0 0), .raw (.slice none 0 0), .raw (.slice none 0 0), .raw (.slice none 0 0), .raw (.slice none 0 0), .raw (.slice none 0 0), .raw (.slice none 0 0), .raw (.slice none 0 0), .raw (.slice none 0 0), .raw (.slice none 0 0), .raw (.slice none 0 0), .raw (.slice none 0 0)]⟩, some ⟨true, [.vals k_ L, .sl 2 0 m0 m0]⟩, some ⟨true, [.ints .u8 m0 B0]⟩, some ⟨true, [.vals k_ W, .rs 4 0 m0 1]⟩, some ⟨true, [.ints .u8 m0 D0]⟩, some ⟨false, [.ints .u8 nm b]⟩, some ⟨true, [.ints .u8 (n + (3 : Nat)) (cpB b (rwB (987 : Int) (n + (3 : Nat))) j)]⟩]⟩

def gv1B_step (j : Nat) (sj : Unit) : Unit :=
  ()

set_option maxHeartbeats 1000000 in
theorem gv1B_round (q k_ : Nat) (L : List Value) (m0 : Nat) (B0 : List Int) (W : List Value) (D0 : List Int) (n nm : Nat) (b : List Int) (cap5 : Nat) (h0 : (nm = n)) (h1 : (n < (17592186044416 : Nat))) (h2 : (q < (2199023255552 : Nat))) (h3 : (q = (k_ + (1 : Nat)))) (hc5 : n ≤ cap5) (hl2_0 : List.length B0 = m0) (hl4_0 : List.length D0 = m0) (hl5_0 : List.length b = nm) (w : World) (rw : List Nat) (β : Env) (j : Nat) (hj : j < n) (sj : Unit) : Run Try.prog ⟨w, rw, 6, β⟩ (loopB Try.f10 2) (gv1B_mk q k_ L m0 B0 W D0 n nm b cap5 j sj) (To ⟨w, rw, 6, β⟩ .normal (gv1B_mk q k_ L m0 B0 W D0 n nm b cap5 (j + 1) (gv1B_step j sj))) := by
  have e0 : (List.set (cpB b (rwB (987 : Int) (n + (3 : Nat))) j) j (List.getD b j 0)) = (cpB b (rwB (987 : Int) (n + (3 : Nat))) (j + (1 : Nat))) := (by first | exact wrap_succ (by omega) | exact cpB_step (hl5_0.trans h0) (rwB_len _ _) (by omega) (by omega))
  have e1 : (IntKind.i64.wrap (((j : Nat) : Int) + (1 : Int))) = (((j + (1 : Nat)) : Nat) : Int) := (by first | exact wrap_succ (by omega) | exact cpB_step (hl5_0.trans h0) (rwB_len _ _) (by omega) (by omega))
  have h := Run.of_outT (B := ⟨w, rw, 6, β⟩) (Λ := noLam) (Ψ := noPsi) (fuel := 0) (ora := [true]) (c := (loopB Try.f10 2)) (st := (gv1B_mk q k_ L m0 B0 W D0 n nm b cap5 j sj)) (l := [.forget [0, 1, 4, 5, 6, 7] 7]) (s' := ⟨sparse 61 [(0, .o (.a (.p 0 0))), (1, .o (.a (.sl 5 0 n cap5))), (4, .o (.a (.raw (.slice none 0 0)))), (5, .o (.a (.sl 6 0 (n + (3 : Nat)) (n + (3 : Nat))))), (6, .o (.a (.i .i64 (((n + (3 : Nat)) : Nat) : Int)))), (7, .o (.a (.i .i64 (IntKind.i64.wrap (((j : Nat) : Int) + (1 : Int))))))], [some ⟨true, [.rs 1 0 q 1, .rs 3 0 q 1, .raw (.slice none 0 0), .raw (.slice none 0 0), .raw (.slice none 0 0), .raw (.slice none 0 0), .raw (.slice none 0 0), .raw (.slice none 0 0), .raw (.slice none 0 0), .raw (.slice none 0 0), .raw (.slice none 0 0), .raw (.slice none 0 0), .raw (.slice none 0 0), .raw (.slice none 0 0), .raw (.slice none 0 0), .raw (.slice none 0 0), .raw (.slice none 0 0), .raw (.slice none 0 0), .raw (.slice none 0 0), .raw (.slice none 0 0), .raw (.slice none 0 0), .raw (.slice none 0 0), .raw (.slice none 0 0), .raw (.slice none 0 0), .raw (.slice none 0 0), .raw (.slice none 0 0), .raw (.slice none 0 0), .raw (.slice none 0 0), .raw (.slice none 0 0), .raw (.slice none 0 0)]⟩, some ⟨true, [.vals k_ L, .sl 2 0 m0 m0]⟩, some ⟨true, [.ints .u8 m0 B0]⟩, some ⟨true, [.vals k_ W, .rs 4 0 m0 1]⟩, some ⟨true, [.ints .u8 m0 D0]⟩, some ⟨false, [.ints .u8 nm b]⟩, some ⟨true, [.ints .u8 (n + (3 : Nat)) (List.set (cpB b (rwB (987 : Int) (n + (3 : Nat))) j) j (List.getD b j 0))]⟩]⟩) (ex := .normal) mix tabOkKB gam20_ok
    (vc := [(j < (n + (3 : Nat))), (((0 : Int) ≤ ((j : Nat) : Int)) ∧ (((j : Nat) : Int) < (((n + (3 : Nat)) : Nat) : Int))), (j < nm), (((0 : Int) ≤ ((j : Nat) : Int)) ∧ (((j : Nat) : Int) < ((n : Nat) : Int))), ((decide (((j : Nat) : Int) < ((n : Nat) : Int))) = true)]) (by kernel_rfl)
    (aC (by first | omega | (simp (disch := omega) only [wrapI]; omega)) (aC ⟨(by first | omega | (simp (disch := omega) only [wrapI]; omega)), (by first | omega | (simp (disch := omega) only [wrapI]; omega))⟩ (aC (by first | omega | (simp (disch := omega) only [wrapI]; omega)) (aC ⟨(by first | omega | (simp (disch := omega) only [wrapI]; omega)), (by first | omega | (simp (disch := omega) only [wrapI]; omega))⟩ (aC (decide_eq_true (by first | omega | (simp (disch := omega) only [wrapI]; omega))) (AllP_nil))))))
  rw [e0, e1] at h
  exact h

set_option maxHeartbeats 1000000 in
theorem gv1B_last (q k_ : Nat) (L : List Value) (m0 : Nat) (B0 : List Int) (W : List Value) (D0 : List Int) (n nm : Nat) (b : List Int) (cap5 : Nat) (h0 : (nm = n)) (h1 : (n < (17592186044416 : Nat))) (h2 : (q < (2199023255552 : Nat))) (h3 : (q = (k_ + (1 : Nat)))) (hc5 : n ≤ cap5) (hl2_0 : List.length B0 = m0) (hl4_0 : List.length D0 = m0) (hl5_0 : List.length b = nm) (w : World) (rw : List Nat) (β : Env) (sj : Unit) : Run Try.prog ⟨w, rw, 6, β⟩ (loopB Try.f10 2) (gv1B_mk q k_ L m0 B0 W D0 n nm b cap5 n sj) (To ⟨w, rw, 6, β⟩ (.exit 2) (gv1B_mk q k_ L m0 B0 W D0 n nm b cap5 n sj)) :=
  Run.of_outT (B := ⟨w, rw, 6, β⟩) (Λ := noLam) (Ψ := noPsi) (fuel := 0) (ora := [false]) (l := [.forget [0, 1, 4, 5, 6, 7] 7]) mix tabOkKB gam20_ok
    (vc := [((decide (((n : Nat) : Int) < ((n : Nat) : Int))) = false)]) (by kernel_rfl)
    (aC (decide_eq_false (by omega)) (AllP_nil))

theorem gv1B_loop (q k_ : Nat) (L : List Value) (m0 : Nat) (B0 : List Int) (W : List Value) (D0 : List Int) (n nm : Nat) (b : List Int) (cap5 : Nat) (h0 : (nm = n)) (h1 : (n < (17592186044416 : Nat))) (h2 : (q < (2199023255552 : Nat))) (h3 : (q = (k_ + (1 : Nat)))) (hc5 : n ≤ cap5) (hl2_0 : List.length B0 = m0) (hl4_0 : List.length D0 = m0) (hl5_0 : List.length b = nm) (w : World) (rw : List Nat) (β : Env) (sj : Unit) : Run Try.prog ⟨w, rw, 6, β⟩ (.block 2 (.loop (loopB Try.f10 2))) (gv1B_mk q k_ L m0 B0 W D0 n nm b cap5 0 sj) (To ⟨w, rw, 6, β⟩ .normal (gv1B_mk q k_ L m0 B0 W D0 n nm b cap5 n (iter (gv1B_step) n sj))) :=
  Run.count (fun j => gv1B_mk q k_ L m0 B0 W D0 n nm b cap5 j (iter (gv1B_step) j sj)) n (fun j hj => gv1B_round q k_ L m0 B0 W D0 n nm b cap5 h0 h1 h2 h3 hc5 hl2_0 hl4_0 hl5_0 w rw β j hj _) (ex := (.exit 2)) (by simp) (gv1B_last q k_ L m0 B0 W D0 n nm b cap5 h0 h1 h2 h3 hc5 hl2_0 hl4_0 hl5_0 w rw β _)

def gv1 (n : Nat) : Nat :=
  (n + (3 : Nat))

def gv1_1 (q : Nat) : Nat :=
  (q + (1 : Nat))

set_option maxHeartbeats 1000000 in
theorem gv1_body0 (q k_ : Nat) (L : List Value) (m0 : Nat) (B0 : List Int) (W : List Value) (D0 : List Int) (n nm : Nat) (b : List Int) (cap5 : Nat) (h0 : (nm = n)) (h1 : (n < (17592186044416 : Nat))) (h2 : (q < (2199023255552 : Nat))) (h3 : (q = (k_ + (1 : Nat)))) (hc5 : n ≤ cap5) (hl2_0 : List.length B0 = m0) (hl4_0 : List.length D0 = m0) (hl5_0 : List.length b = nm) (w : World) (rw : List Nat) (β : Env) : Body Try.prog (tabOf tabKB) Try.f10 ⟨w, rw, 6, β⟩ [.o (.a (.p 0 0)), .o (.a (.sl 5 0 n cap5))] [some ⟨true, [.rs 1 0 q 1, .rs 3 0 q 1, .raw (.slice none 0 0), .raw (.slice none 0 0), .raw (.slice none 0 0), .raw (.slice none 0 0), .raw (.slice none 0 0), .raw (.slice none 0 0), .raw (.slice none 0 0), .raw (.slice none 0 0), .raw (.slice none 0 0), .raw (.slice none 0 0), .raw (.slice none 0 0), .raw (.slice none 0 0), .raw (.slice none 0 0), .raw (.slice none 0 0), .raw (.slice none 0 0), .raw (.slice none 0 0), .raw (.slice none 0 0), .raw (.slice none 0 0), .raw (.slice none 0 0), .raw (.slice none 0 0), .raw (.slice none 0 0), .raw (.slice none 0 0), .raw (.slice none 0 0), .raw (.slice none 0 0), .raw (.slice none 0 0), .raw (.slice none 0 0), .raw (.slice none 0 0), .raw (.slice none 0 0)]⟩, some ⟨true, [.vals k_ L, .sl 2 0 m0 m0]⟩, some ⟨true, [.ints .u8 m0 B0]⟩, some ⟨true, [.vals k_ W, .rs 4 0 m0 1]⟩, some ⟨true, [.ints .u8 m0 D0]⟩, some ⟨false, [.ints .u8 nm b]⟩] (fun ys K' => ys = [.a (.sl 8 0 n (gv1 n))] ∧ K' = [some ⟨true, [.rs 6 0 (gv1_1 q) 1, .rs 7 0 (gv1_1 q) 1, .raw (.slice none 0 0), .raw (.slice none 0 0), .raw (.slice none 0 0), .raw (.slice none 0 0), .raw (.slice none 0 0), .raw (.slice none 0 0), .raw (.slice none 0 0), .raw (.slice none 0 0), .raw (.slice none 0 0), .raw (.slice none 0 0), .raw (.slice none 0 0), .raw (.slice none 0 0), .raw (.slice none 0 0), .raw (.slice none 0 0), .raw (.slice none 0 0), .raw (.slice none 0 0), .raw (.slice none 0 0), .raw (.slice none 0 0), .raw (.slice none 0 0), .raw (.slice none 0 0), .raw (.slice none 0 0), .raw (.slice none 0 0), .raw (.slice none 0 0), .raw (.slice none 0 0), .raw (.slice none 0 0), .raw (.slice none 0 0), .raw (.slice none 0 0), .raw (.slice none 0 0)]⟩, none, some ⟨true, [.ints .u8 m0 B0]⟩, none, some ⟨true, [.ints .u8 m0 D0]⟩, some ⟨false, [.ints .u8 nm b]⟩, some ⟨true, [.vals k_ L, .sl 2 0 m0 m0, .sl 8 0 (gv1 n) (gv1 n)]⟩, some ⟨true, [.vals k_ W, .rs 4 0 m0 1, .rs 9 0 (gv1 n) 1]⟩, some ⟨true, [.ints .u8 (gv1 n) (gvB n b)]⟩, some ⟨true, [.ints .u8 (gv1 n) (gvB n b)]⟩]) :=
  Body.of_finK (Γ := gam20) (Λ := lamOf [(0, ⟨[.forget [0, 1, 4, 5, 6] 7], .normal, (gv1A_mk q k_ L m0 B0 W D0 n nm b cap5 (n + (3 : Nat)) (iter (gv1A_step) (n + (3 : Nat)) ()))⟩), (2, ⟨[.forget [0, 1, 4, 5, 6, 7] 7], .normal, (gv1B_mk q k_ L m0 B0 W D0 n nm b cap5 n (iter (gv1B_step) n ()))⟩)]) (Ψ := psiOf [(1, [.eqS 5 (.o (.a (.sl 6 0 (n + (3 : Nat)) (n + (3 : Nat))))), .eqB 6 (⟨true, [.ints .u8 (n + (3 : Nat)) (List.replicate (n + (3 : Nat)) (0 : Int))]⟩)]), (6, [.eqB 6 (⟨true, [.ints .u8 (n + (3 : Nat)) (rwB (987 : Int) (n + (3 : Nat)))]⟩)]), (10, [.eqB 6 (⟨true, [.ints .u8 (n + (3 : Nat)) (gvB n b)]⟩)]), (11, [.eqB 9 (⟨true, [.ints .u8 (n + (3 : Nat)) (gvB n b)]⟩)])]) (fuel := 0) (m := 61) (c := (Try.f10.body.getD .skip)) mix tabOkKB gam20_ok rfl (rs := [.tmp 4]) rfl rfl [false, false] [.swap 6 8, .swap 7 11] 10
    (vc := [(((0 : Int) ≤ (0 : Int)) ∧ ((0 : Int) ≤ ((n : Nat) : Int)) ∧ (((n : Nat) : Int) ≤ (((n + (3 : Nat)) : Nat) : Int))), ((some ⟨true, [.ints .u8 (n + (3 : Nat)) (copyB (n + (3 : Nat)) (sub (gvB n b) (0 : Nat) (n + (3 : Nat))))]⟩ : Option Blk) = some ⟨true, [.ints .u8 (n + (3 : Nat)) (gvB n b)]⟩), ((((0 : Nat) = (0 : Nat)) ∧ (q = (k_ + (1 : Nat)))) ∧ (((1 : Nat) ≤ (1 : Nat)) ∧ True) ∧ (((q + (1 : Nat)) * (24 : Nat)) ≤ (140737488355328 : Nat))), (((((0 : Nat) + (n + (3 : Nat))) ≤ (n + (3 : Nat))) ∧ True) ∧ (((n + (3 : Nat)) = (n + (3 : Nat))) ∧ ((n + (3 : Nat)) < (35184372088832 : Nat)))), ((some ⟨true, [.ints .u8 (n + (3 : Nat)) (cpB b (rwB (987 : Int) (n + (3 : Nat))) n)]⟩ : Option Blk) = some ⟨true, [.ints .u8 (n + (3 : Nat)) (gvB n b)]⟩), ((((0 : Nat) = (0 : Nat)) ∧ (q = (k_ + (1 : Nat)))) ∧ (((1 : Nat) ≤ (1 : Nat)) ∧ True) ∧ (((q + (1 : Nat)) * (24 : Nat)) ≤ (140737488355328 : Nat))), (Run Try.prog ⟨w, rw, 6, β⟩ (.block 2 (.loop (loopB Try.f10 2))) (gv1B_mk q k_ L m0 B0 W D0 n nm b cap5 0 ()) (To ⟨w, rw, 6, β⟩ .normal (gv1B_mk q k_ L m0 B0 W D0 n nm b cap5 n (iter (gv1B_step) n ())))), ((some ⟨true, [.ints .u8 (n + (3 : Nat)) (mkP (List.replicate (n + (3 : Nat)) (0 : Int)) (987 : Int) (n + (3 : Nat)))]⟩ : Option Blk) = some ⟨true, [.ints .u8 (n + (3 : Nat)) (rwB (987 : Int) (n + (3 : Nat)))]⟩), (Run Try.prog ⟨w, rw, 6, β⟩ (.block 0 (.loop (loopB Try.f10 0))) (gv1A_mk q k_ L m0 B0 W D0 n nm b cap5 0 ()) (To ⟨w, rw, 6, β⟩ .normal (gv1A_mk q k_ L m0 B0 W D0 n nm b cap5 (n + (3 : Nat)) (iter (gv1A_step) (n + (3 : Nat)) ())))), ((some ⟨true, [.ints .u8 (Int.toNat (IntKind.i64.wrap (((n : Nat) : Int) + (3 : Int)))) (List.replicate (Int.toNat (IntKind.i64.wrap (((n : Nat) : Int) + (3 : Int)))) (0 : Int))]⟩ : Option Blk) = some ⟨true, [.ints .u8 (n + (3 : Nat)) (List.replicate (n + (3 : Nat)) (0 : Int))]⟩), ((.o (.a (.sl 6 0 (Int.toNat (IntKind.i64.wrap (((n : Nat) : Int) + (3 : Int)))) (Int.toNat (IntKind.i64.wrap (((n : Nat) : Int) + (3 : Int)))))) : AV) = .o (.a (.sl 6 0 (n + (3 : Nat)) (n + (3 : Nat))))), (((0 : Int) ≤ (IntKind.i64.wrap (((n : Nat) : Int) + (3 : Int)))) ∧ ((IntKind.i64.wrap (((n : Nat) : Int) + (3 : Int))) ≤ (IntKind.i64.wrap (((n : Nat) : Int) + (3 : Int)))) ∧ (((IntKind.i64.wrap (((n : Nat) : Int) + (3 : Int))) * (1 : Int)) ≤ (281474976710656 : Int)))]) (by kernel_rfl)
    (aC ⟨(by decide), (by first | omega | (simp (disch := omega) only [wrapI]; omega)), (by first | omega | (simp (disch := omega) only [wrapI]; omega))⟩ (aC ((by rw [show copyB (n + 3) (sub (gvB n b) 0 (n + 3)) = gvB n b from gv_copy (hl5_0.trans h0)])) (aC ⟨⟨rfl, h3⟩, ⟨(by decide), trivial⟩, (by first | omega | (simp (disch := omega) only [wrapI]; omega))⟩ (aC ⟨⟨(by first | omega | (simp (disch := omega) only [wrapI]; omega)), trivial⟩, ⟨rfl, (by first | omega | (simp (disch := omega) only [wrapI]; omega))⟩⟩ (aC (rfl) (aC ⟨⟨rfl, h3⟩, ⟨(by decide), trivial⟩, (by first | omega | (simp (disch := omega) only [wrapI]; omega))⟩ (aC (gv1B_loop q k_ L m0 B0 W D0 n nm b cap5 h0 h1 h2 h3 hc5 hl2_0 hl4_0 hl5_0 w rw β ()) (aC ((by rw [mkP_all (by rw [List.length_replicate])])) (aC (gv1A_loop q k_ L m0 B0 W D0 n nm b cap5 h0 h1 h2 h3 hc5 hl2_0 hl4_0 hl5_0 w rw β ()) (aC ((by rw [wrapI (by omega) (by omega), show Int.toNat (((n : Nat) : Int) + 3) = n + 3 from by omega])) (aC ((by rw [wrapI (by omega) (by omega), show Int.toNat (((n : Nat) : Int) + 3) = n + 3 from by omega])) (aC ⟨(by first | omega | (simp (disch := omega) only [wrapI]; omega)), (by first | omega | (simp (disch := omega) only [wrapI]; omega)), (by first | omega | (simp (disch := omega) only [wrapI]; omega))⟩ (AllP_nil)))))))))))))

theorem gv1_body (q k_ : Nat) (L : List Value) (m0 : Nat) (B0 : List Int) (W : List Value) (D0 : List Int) (n nm : Nat) (b : List Int) (cap5 : Nat) (h0 : (nm = n)) (h1 : (n < (17592186044416 : Nat))) (h2 : (q < (2199023255552 : Nat))) (h3 : (q = (k_ + (1 : Nat)))) (w : World) (rw : List Nat) (β : Env) : Body Try.prog (tabOf tabKB) Try.f10 ⟨w, rw, 6, β⟩ [.o (.a (.p 0 0)), .o (.a (.sl 5 0 n cap5))] [some ⟨true, [.rs 1 0 q 1, .rs 3 0 q 1, .raw (.slice none 0 0), .raw (.slice none 0 0), .raw (.slice none 0 0), .raw (.slice none 0 0), .raw (.slice none 0 0), .raw (.slice none 0 0), .raw (.slice none 0 0), .raw (.slice none 0 0), .raw (.slice none 0 0), .raw (.slice none 0 0), .raw (.slice none 0 0), .raw (.slice none 0 0), .raw (.slice none 0 0), .raw (.slice none 0 0), .raw (.slice none 0 0), .raw (.slice none 0 0), .raw (.slice none 0 0), .raw (.slice none 0 0), .raw (.slice none 0 0), .raw (.slice none 0 0), .raw (.slice none 0 0), .raw (.slice none 0 0), .raw (.slice none 0 0), .raw (.slice none 0 0), .raw (.slice none 0 0), .raw (.slice none 0 0), .raw (.slice none 0 0), .raw (.slice none 0 0)]⟩, some ⟨true, [.vals k_ L, .sl 2 0 m0 m0]⟩, some ⟨true, [.ints .u8 m0 B0]⟩, some ⟨true, [.vals k_ W, .rs 4 0 m0 1]⟩, some ⟨true, [.ints .u8 m0 D0]⟩, some ⟨false, [.ints .u8 nm b]⟩] (fun ys K' => ys = [.a (.sl 8 0 n (gv1 n))] ∧ K' = [some ⟨true, [.rs 6 0 (gv1_1 q) 1, .rs 7 0 (gv1_1 q) 1, .raw (.slice none 0 0), .raw (.slice none 0 0), .raw (.slice none 0 0), .raw (.slice none 0 0), .raw (.slice none 0 0), .raw (.slice none 0 0), .raw (.slice none 0 0), .raw (.slice none 0 0), .raw (.slice none 0 0), .raw (.slice none 0 0), .raw (.slice none 0 0), .raw (.slice none 0 0), .raw (.slice none 0 0), .raw (.slice none 0 0), .raw (.slice none 0 0), .raw (.slice none 0 0), .raw (.slice none 0 0), .raw (.slice none 0 0), .raw (.slice none 0 0), .raw (.slice none 0 0), .raw (.slice none 0 0), .raw (.slice none 0 0), .raw (.slice none 0 0), .raw (.slice none 0 0), .raw (.slice none 0 0), .raw (.slice none 0 0), .raw (.slice none 0 0), .raw (.slice none 0 0)]⟩, none, some ⟨true, [.ints .u8 m0 B0]⟩, none, some ⟨true, [.ints .u8 m0 D0]⟩, some ⟨false, [.ints .u8 nm b]⟩, some ⟨true, [.vals k_ L, .sl 2 0 m0 m0, .sl 8 0 (gv1 n) (gv1 n)]⟩, some ⟨true, [.vals k_ W, .rs 4 0 m0 1, .rs 9 0 (gv1 n) 1]⟩, some ⟨true, [.ints .u8 (gv1 n) (gvB n b)]⟩, some ⟨true, [.ints .u8 (gv1 n) (gvB n b)]⟩]) :=
  Body.lens (c := (Try.f10.body.getD .skip)) rfl fun h => gv1_body0 q k_ L m0 B0 W D0 n nm b cap5 h0 h1 h2 h3 (h.caps 1 _ _ _ _ rfl) (h.lens 2 _ .u8 m0 B0 rfl (by simp)) (h.lens 4 _ .u8 m0 D0 rfl (by simp)) (h.lens 5 _ .u8 nm b rfl (by simp)) w rw β

end Go.Proofs.Ytepimglipelpmaa.X

/- Printed by a tool of this session. -/
namespace Go.Proofs.Ytepimglipelpmaa.X
open Go Go.Proofs
set_option linter.unusedVariables false
set_option linter.unusedSimpArgs false
set_option maxRecDepth 100000
theorem teKC_22 : TEOk Try.prog 22 ⟨.slice 5, 1, 24, [.raw (.slice none 0 0)], false⟩ :=
  TEOk.of Try.underlying22 (i := Try.t22) (by kernel_rfl) rfl rfl rfl (by kernel_rfl) (fun h => by cases h) (by kernel_rfl)
theorem teKC_23 : TEOk Try.prog 23 ⟨.slice 22, 1, 24, [.raw (.slice none 0 0)], false⟩ :=
  TEOk.of Try.underlying23 (i := Try.t23) (by kernel_rfl) rfl rfl rfl (by kernel_rfl) (fun h => by cases h) (by kernel_rfl)
theorem teKC_24 : TEOk Try.prog 24 ⟨.slice 108, 1, 24, [.raw (.slice none 0 0)], false⟩ :=
  TEOk.of Try.underlying24 (i := Try.t24) (by kernel_rfl) rfl rfl rfl (by kernel_rfl) (fun h => by cases h) (by kernel_rfl)
theorem teKC_25 : TEOk Try.prog 25 ⟨.slice 110, 1, 24, [.raw (.slice none 0 0)], false⟩ :=
  TEOk.of Try.underlying25 (i := Try.t25) (by kernel_rfl) rfl rfl rfl (by kernel_rfl) (fun h => by cases h) (by kernel_rfl)
theorem teKC_26 : TEOk Try.prog 26 ⟨.slice 112, 1, 24, [.raw (.slice none 0 0)], false⟩ :=
  TEOk.of Try.underlying26 (i := Try.t26) (by kernel_rfl) rfl rfl rfl (by kernel_rfl) (fun h => by cases h) (by kernel_rfl)
theorem teKC_27 : TEOk Try.prog 27 ⟨.slice 114, 1, 24, [.raw (.slice none 0 0)], false⟩ :=
  TEOk.of Try.underlying27 (i := Try.t27) (by kernel_rfl) rfl rfl rfl (by kernel_rfl) (fun h => by cases h) (by kernel_rfl)
theorem teKC_28 : TEOk Try.prog 28 ⟨.slice 116, 1, 24, [.raw (.slice none 0 0)], false⟩ :=
  TEOk.of Try.underlying28 (i := Try.t28) (by kernel_rfl) rfl rfl rfl (by kernel_rfl) (fun h => by cases h) (by kernel_rfl)
theorem teKC_29 : TEOk Try.prog 29 ⟨.slice 118, 1, 24, [.raw (.slice none 0 0)], false⟩ :=
  TEOk.of Try.underlying29 (i := Try.t29) (by kernel_rfl) rfl rfl rfl (by kernel_rfl) (fun h => by cases h) (by kernel_rfl)
theorem teKC_30 : TEOk Try.prog 30 ⟨.slice 120, 1, 24, [.raw (.slice none 0 0)], false⟩ :=
  TEOk.of Try.underlying30 (i := Try.t30) (by kernel_rfl) rfl rfl rfl (by kernel_rfl) (fun h => by cases h) (by kernel_rfl)
theorem teKC_31 : TEOk Try.prog 31 ⟨.slice 122, 1, 24, [.raw (.slice none 0 0)], false⟩ :=
  TEOk.of Try.underlying31 (i := Try.t31) (by kernel_rfl) rfl rfl rfl (by kernel_rfl) (fun h => by cases h) (by kernel_rfl)
theorem teKC_32 : TEOk Try.prog 32 ⟨.slice 124, 1, 24, [.raw (.slice none 0 0)], false⟩ :=
  TEOk.of Try.underlying32 (i := Try.t32) (by kernel_rfl) rfl rfl rfl (by kernel_rfl) (fun h => by cases h) (by kernel_rfl)
theorem teKC_33 : TEOk Try.prog 33 ⟨.slice 126, 1, 24, [.raw (.slice none 0 0)], false⟩ :=
  TEOk.of Try.underlying33 (i := Try.t33) (by kernel_rfl) rfl rfl rfl (by kernel_rfl) (fun h => by cases h) (by kernel_rfl)
theorem teKC_34 : TEOk Try.prog 34 ⟨.slice 128, 1, 24, [.raw (.slice none 0 0)], false⟩ :=
  TEOk.of Try.underlying34 (i := Try.t34) (by kernel_rfl) rfl rfl rfl (by kernel_rfl) (fun h => by cases h) (by kernel_rfl)
theorem teKC_35 : TEOk Try.prog 35 ⟨.slice 130, 1, 24, [.raw (.slice none 0 0)], false⟩ :=
  TEOk.of Try.underlying35 (i := Try.t35) (by kernel_rfl) rfl rfl rfl (by kernel_rfl) (fun h => by cases h) (by kernel_rfl)
theorem teKC_36 : TEOk Try.prog 36 ⟨.slice 132, 1, 24, [.raw (.slice none 0 0)], false⟩ :=
  TEOk.of Try.underlying36 (i := Try.t36) (by kernel_rfl) rfl rfl rfl (by kernel_rfl) (fun h => by cases h) (by kernel_rfl)
theorem teKC_37 : TEOk Try.prog 37 ⟨.slice 134, 1, 24, [.raw (.slice none 0 0)], false⟩ :=
  TEOk.of Try.underlying37 (i := Try.t37) (by kernel_rfl) rfl rfl rfl (by kernel_rfl) (fun h => by cases h) (by kernel_rfl)
theorem teKC_39 : TEOk Try.prog 39 ⟨Try.t38.desc, 30, 720, [.raw (.slice none 0 0), .raw (.slice none 0 0), .raw (.slice none 0 0), .raw (.slice none 0 0), .raw (.slice none 0 0), .raw (.slice none 0 0), .raw (.slice none 0 0), .raw (.slice none 0 0), .raw (.slice none 0 0), .raw (.slice none 0 0), .raw (.slice none 0 0), .raw (.slice none 0 0), .raw (.slice none 0 0), .raw (.slice none 0 0), .raw (.slice none 0 0), .raw (.slice none 0 0), .raw (.slice none 0 0), .raw (.slice none 0 0), .raw (.slice none 0 0), .raw (.slice none 0 0), .raw (.slice none 0 0), .raw (.slice none 0 0), .raw (.slice none 0 0), .raw (.slice none 0 0), .raw (.slice none 0 0), .raw (.slice none 0 0), .raw (.slice none 0 0), .raw (.slice none 0 0), .raw (.slice none 0 0), .raw (.slice none 0 0)], false⟩ :=
  TEOk.of Try.underlying39 (i := Try.t39) (by kernel_rfl) rfl rfl rfl (by kernel_rfl) (fun h => by cases h) (by kernel_rfl)
noncomputable def tabKC : List (Nat × TE) := [(22, ⟨.slice 5, 1, 24, [.raw (.slice none 0 0)], false⟩), (23, ⟨.slice 22, 1, 24, [.raw (.slice none 0 0)], false⟩), (24, ⟨.slice 108, 1, 24, [.raw (.slice none 0 0)], false⟩), (25, ⟨.slice 110, 1, 24, [.raw (.slice none 0 0)], false⟩), (26, ⟨.slice 112, 1, 24, [.raw (.slice none 0 0)], false⟩), (27, ⟨.slice 114, 1, 24, [.raw (.slice none 0 0)], false⟩), (28, ⟨.slice 116, 1, 24, [.raw (.slice none 0 0)], false⟩), (29, ⟨.slice 118, 1, 24, [.raw (.slice none 0 0)], false⟩), (30, ⟨.slice 120, 1, 24, [.raw (.slice none 0 0)], false⟩), (31, ⟨.slice 122, 1, 24, [.raw (.slice none 0 0)], false⟩), (32, ⟨.slice 124, 1, 24, [.raw (.slice none 0 0)], false⟩), (33, ⟨.slice 126, 1, 24, [.raw (.slice none 0 0)], false⟩), (34, ⟨.slice 128, 1, 24, [.raw (.slice none 0 0)], false⟩), (35, ⟨.slice 130, 1, 24, [.raw (.slice none 0 0)], false⟩), (36, ⟨.slice 132, 1, 24, [.raw (.slice none 0 0)], false⟩), (37, ⟨.slice 134, 1, 24, [.raw (.slice none 0 0)], false⟩), (39, ⟨Try.t38.desc, 30, 720, [.raw (.slice none 0 0), .raw (.slice none 0 0), .raw (.slice none 0 0), .raw (.slice none 0 0), .raw (.slice none 0 0), .raw (.slice none 0 0), .raw (.slice none 0 0), .raw (.slice none 0 0), .raw (.slice none 0 0), .raw (.slice none 0 0), .raw (.slice none 0 0), .raw (.slice none 0 0), .raw (.slice none 0 0), .raw (.slice none 0 0), .raw (.slice none 0 0), .raw (.slice none 0 0), .raw (.slice none 0 0), .raw (.slice none 0 0), .raw (.slice none 0 0), .raw (.slice none 0 0), .raw (.slice none 0 0), .raw (.slice none 0 0), .raw (.slice none 0 0), .raw (.slice none 0 0), .raw (.slice none 0 0), .raw (.slice none 0 0), .raw (.slice none 0 0), .raw (.slice none 0 0), .raw (.slice none 0 0), .raw (.slice none 0 0)], false⟩)]
theorem tabOkKC : TabOk Try.prog (tabOf tabKC) := (tabOf_cons teKC_22 (tabOf_cons teKC_23 (tabOf_cons teKC_24 (tabOf_cons teKC_25 (tabOf_cons teKC_26 (tabOf_cons teKC_27 (tabOf_cons teKC_28 (tabOf_cons teKC_29 (tabOf_cons teKC_30 (tabOf_cons teKC_31 (tabOf_cons teKC_32 (tabOf_cons teKC_33 (tabOf_cons teKC_34 (tabOf_cons teKC_35 (tabOf_cons teKC_36 (tabOf_cons teKC_37 (tabOf_cons teKC_39 tabOf_nil)))))))))))))))))

def itL_mk (w : World) (q capL capW : Nat) (L W : List Value) (k : Nat) (s : Unit) : St := ⟨sparse 393 [(0, .o (.a (.p 0 0))), (3, .o (.a (.i .i64 ((k : Nat) : Int))))], [some ⟨false, [.sl 1 0 q capL, .sl 2 0 q capW, .raw (.slice none 0 0), .raw (.slice none 0 0), .raw (.slice none 0 0), .raw (.slice none 0 0), .raw (.slice none 0 0), .raw (.slice none 0 0), .raw (.slice none 0 0), .raw (.slice none 0 0), .raw (.slice none 0 0), .raw (.slice none 0 0), .raw (.slice none 0 0), .raw (.slice none 0 0), .raw (.slice none 0 0), .raw (.slice none 0 0), .raw (.slice none 0 0), .raw (.slice none 0 0), .raw (.slice none 0 0), .raw (.slice none 0 0), .raw (.slice none 0 0), .raw (.slice none 0 0), .raw (.slice none 0 0), .raw (.slice none 0 0), .raw (.slice none 0 0), .raw (.slice none 0 0), .raw (.slice none 0 0), .raw (.slice none 0 0), .raw (.slice none 0 0), .raw (.slice none 0 0)]⟩, some ⟨false, [.vals q L]⟩, some ⟨false, [.vals q W]⟩]⟩

def itL_step (k : Nat) (s : Unit) : Unit :=
  ()

set_option maxHeartbeats 1000000 in
theorem itL_round (w : World) (q capL capW : Nat) (L W : List Value) (h0 : (q < (70368744177664 : Nat))) (β : Env) (hL : ∀ k, k < q → ∀ (t : Nat) (β : Env), ImpOk ⟨w, [], t, β⟩ (List.getD L k undef) .u8 (lenV (List.getD L k undef)) (capV (List.getD L k undef)) (contV w (List.getD L k undef))) (hW : ∀ k, k < q → ∀ (t : Nat) (β : Env), ImpOk ⟨w, [], t, β⟩ (List.getD W k undef) .u8 (lenV (List.getD W k undef)) (capV (List.getD W k undef)) (contV w (List.getD W k undef))) (heq : ∀ k, k < q → contV w (List.getD L k undef) = contV w (List.getD W k undef)) (hlen : ∀ k, k < q → lenV (List.getD L k undef) = lenV (List.getD W k undef)) (hsm : ∀ k, k < q → lenV (List.getD L k undef) < 70368744177664) (k : Nat) (hk : k < q) (s : Unit) : Run Try.prog ⟨w, [], 3, β⟩ (loopB Try.f17 0) (itL_mk w q capL capW L W k s) (To ⟨w, [], 3, β⟩ .normal (itL_mk w q capL capW L W (k + 1) (itL_step k s))) := by
  have e0 : (IntKind.i64.wrap (((k : Nat) : Int) + (1 : Int))) = (((k + (1 : Nat)) : Nat) : Int) := (by first | rfl | exact wrap_succ (by omega) | omega | (simp (disch := omega) only [wrapI]; omega))
  have h := Run.of_outTAt (B := ⟨w, [], 3, β⟩) (Λ := noLam) (Ψ := noPsi) (fuel := 0) (ora := [true, false]) (c := (loopB Try.f17 0)) (st := (itL_mk w q capL capW L W k s)) (l := [.forget [0, 3] 3]) (s' := ⟨sparse 393 [(0, .o (.a (.p 0 0))), (3, .o (.a (.i .i64 (IntKind.i64.wrap (((k : Nat) : Int) + (1 : Int))))))], [some ⟨false, [.sl 1 0 q capL, .sl 2 0 q capW, .raw (.slice none 0 0), .raw (.slice none 0 0), .raw (.slice none 0 0), .raw (.slice none 0 0), .raw (.slice none 0 0), .raw (.slice none 0 0), .raw (.slice none 0 0), .raw (.slice none 0 0), .raw (.slice none 0 0), .raw (.slice none 0 0), .raw (.slice none 0 0), .raw (.slice none 0 0), .raw (.slice none 0 0), .raw (.slice none 0 0), .raw (.slice none 0 0), .raw (.slice none 0 0), .raw (.slice none 0 0), .raw (.slice none 0 0), .raw (.slice none 0 0), .raw (.slice none 0 0), .raw (.slice none 0 0), .raw (.slice none 0 0), .raw (.slice none 0 0), .raw (.slice none 0 0), .raw (.slice none 0 0), .raw (.slice none 0 0), .raw (.slice none 0 0), .raw (.slice none 0 0)]⟩, some ⟨false, [.vals q L]⟩, some ⟨false, [.vals q W]⟩]⟩) (ex := .normal) mix tabOkKC (gimp_ok (t := 22) (mk := mkS ⟨w, [], 3, β⟩ .u8) (gam19_ok.at _ _) fun v m => mkS_ok v m)
    (vc := [(false = false), (((((0 : Nat) + (lenV (List.getD L k undef))) ≤ (lenV (List.getD L k undef))) ∧ ((((0 : Nat) + (lenV (List.getD W k undef))) ≤ (lenV (List.getD W k undef))) ∧ True)) ∧ (((lenV (List.getD L k undef)) = (lenV (List.getD L k undef))) ∧ ((lenV (List.getD W k undef)) = (lenV (List.getD W k undef))) ∧ ((lenV (List.getD W k undef)) = (lenV (List.getD L k undef))) ∧ ((sub (contV w (List.getD L k undef)) (0 : Nat) (lenV (List.getD L k undef))) = (sub (contV w (List.getD W k undef)) (0 : Nat) (lenV (List.getD W k undef)))) ∧ ((lenV (List.getD L k undef)) < (70368744177664 : Nat)))), ((k < q) ∧ (ImpOk ⟨w, [], 3, β⟩ (List.getD W k undef) .u8 (lenV (List.getD W k undef)) (capV (List.getD W k undef)) (contV w (List.getD W k undef)))), (((0 : Int) ≤ ((k : Nat) : Int)) ∧ (((k : Nat) : Int) < ((q : Nat) : Int))), ((k < q) ∧ (ImpOk ⟨w, [], 3, β⟩ (List.getD L k undef) .u8 (lenV (List.getD L k undef)) (capV (List.getD L k undef)) (contV w (List.getD L k undef)))), (((0 : Int) ≤ ((k : Nat) : Int)) ∧ (((k : Nat) : Int) < ((q : Nat) : Int))), ((decide (((k : Nat) : Int) < ((q : Nat) : Int))) = true)]) (by kernel_rfl)
    (aC rfl (aC ⟨⟨(by rw [Nat.zero_add]; exact Nat.le_refl _), ⟨(by rw [Nat.zero_add]; exact Nat.le_refl _), trivial⟩⟩, ⟨rfl, rfl, (by rw [hlen k hk]), (by rw [heq k hk, hlen k hk]), (hsm k hk)⟩⟩ (aC ⟨(by first | omega | (simp (disch := omega) only [wrapI]; omega)), ((hW k hk _ _))⟩ (aC ⟨(by first | omega | (simp (disch := omega) only [wrapI]; omega)), (by first | omega | (simp (disch := omega) only [wrapI]; omega))⟩ (aC ⟨(by first | omega | (simp (disch := omega) only [wrapI]; omega)), ((hL k hk _ _))⟩ (aC ⟨(by first | omega | (simp (disch := omega) only [wrapI]; omega)), (by first | omega | (simp (disch := omega) only [wrapI]; omega))⟩ (aC (decide_eq_true (by first | omega | (simp (disch := omega) only [wrapI]; omega))) (AllP_nil))))))))
  rw [e0] at h
  exact h

set_option maxHeartbeats 1000000 in
theorem itL_last (w : World) (q capL capW : Nat) (L W : List Value) (h0 : (q < (70368744177664 : Nat))) (β : Env) (hL : ∀ k, k < q → ∀ (t : Nat) (β : Env), ImpOk ⟨w, [], t, β⟩ (List.getD L k undef) .u8 (lenV (List.getD L k undef)) (capV (List.getD L k undef)) (contV w (List.getD L k undef))) (hW : ∀ k, k < q → ∀ (t : Nat) (β : Env), ImpOk ⟨w, [], t, β⟩ (List.getD W k undef) .u8 (lenV (List.getD W k undef)) (capV (List.getD W k undef)) (contV w (List.getD W k undef))) (heq : ∀ k, k < q → contV w (List.getD L k undef) = contV w (List.getD W k undef)) (hlen : ∀ k, k < q → lenV (List.getD L k undef) = lenV (List.getD W k undef)) (hsm : ∀ k, k < q → lenV (List.getD L k undef) < 70368744177664) (s : Unit) : Run Try.prog ⟨w, [], 3, β⟩ (loopB Try.f17 0) (itL_mk w q capL capW L W q s) (To ⟨w, [], 3, β⟩ (.exit 0) (itL_mk w q capL capW L W q s)) :=
  Run.of_outTAt (B := ⟨w, [], 3, β⟩) (Λ := noLam) (Ψ := noPsi) (fuel := 0) (ora := [false]) (l := [.forget [0, 3] 3]) mix tabOkKC (gimp_ok (t := 22) (mk := mkS ⟨w, [], 3, β⟩ .u8) (gam19_ok.at _ _) fun v m => mkS_ok v m)
    (vc := [((decide (((q : Nat) : Int) < ((q : Nat) : Int))) = false)]) (by kernel_rfl)
    (aC (decide_eq_false (by omega)) (AllP_nil))

theorem itL_loop (w : World) (q capL capW : Nat) (L W : List Value) (h0 : (q < (70368744177664 : Nat))) (β : Env) (hL : ∀ k, k < q → ∀ (t : Nat) (β : Env), ImpOk ⟨w, [], t, β⟩ (List.getD L k undef) .u8 (lenV (List.getD L k undef)) (capV (List.getD L k undef)) (contV w (List.getD L k undef))) (hW : ∀ k, k < q → ∀ (t : Nat) (β : Env), ImpOk ⟨w, [], t, β⟩ (List.getD W k undef) .u8 (lenV (List.getD W k undef)) (capV (List.getD W k undef)) (contV w (List.getD W k undef))) (heq : ∀ k, k < q → contV w (List.getD L k undef) = contV w (List.getD W k undef)) (hlen : ∀ k, k < q → lenV (List.getD L k undef) = lenV (List.getD W k undef)) (hsm : ∀ k, k < q → lenV (List.getD L k undef) < 70368744177664) (s : Unit) : Run Try.prog ⟨w, [], 3, β⟩ (.block 0 (.loop (loopB Try.f17 0))) (itL_mk w q capL capW L W 0 s) (To ⟨w, [], 3, β⟩ .normal (itL_mk w q capL capW L W q (iter (itL_step) q s))) :=
  Run.count (fun k => itL_mk w q capL capW L W k (iter (itL_step) k s)) q (fun k hk => itL_round w q capL capW L W h0 β hL hW heq hlen hsm k hk _) (ex := (.exit 0)) (by simp) (itL_last w q capL capW L W h0 β hL hW heq hlen hsm _)

set_option maxHeartbeats 1000000 in
theorem intact_body0 (w : World) (q capL capW : Nat) (L W : List Value) (h0 : (q < (70368744177664 : Nat))) (β : Env) (hL : ∀ k, k < q → ∀ (t : Nat) (β : Env), ImpOk ⟨w, [], t, β⟩ (List.getD L k undef) .u8 (lenV (List.getD L k undef)) (capV (List.getD L k undef)) (contV w (List.getD L k undef))) (hW : ∀ k, k < q → ∀ (t : Nat) (β : Env), ImpOk ⟨w, [], t, β⟩ (List.getD W k undef) .u8 (lenV (List.getD W k undef)) (capV (List.getD W k undef)) (contV w (List.getD W k undef))) (heq : ∀ k, k < q → contV w (List.getD L k undef) = contV w (List.getD W k undef)) (hlen : ∀ k, k < q → lenV (List.getD L k undef) = lenV (List.getD W k undef)) (hsm : ∀ k, k < q → lenV (List.getD L k undef) < 70368744177664) : Body Try.prog (tabOf tabKC) Try.f17 ⟨w, [], 3, β⟩ [.o (.a (.p 0 0))] [some ⟨false, [.sl 1 0 q capL, .sl 2 0 q capW, .raw (.slice none 0 0), .raw (.slice none 0 0), .raw (.slice none 0 0), .raw (.slice none 0 0), .raw (.slice none 0 0), .raw (.slice none 0 0), .raw (.slice none 0 0), .raw (.slice none 0 0), .raw (.slice none 0 0), .raw (.slice none 0 0), .raw (.slice none 0 0), .raw (.slice none 0 0), .raw (.slice none 0 0), .raw (.slice none 0 0), .raw (.slice none 0 0), .raw (.slice none 0 0), .raw (.slice none 0 0), .raw (.slice none 0 0), .raw (.slice none 0 0), .raw (.slice none 0 0), .raw (.slice none 0 0), .raw (.slice none 0 0), .raw (.slice none 0 0), .raw (.slice none 0 0), .raw (.slice none 0 0), .raw (.slice none 0 0), .raw (.slice none 0 0), .raw (.slice none 0 0)]⟩, some ⟨false, [.vals q L]⟩, some ⟨false, [.vals q W]⟩] (fun ys _ => ys = [.a (.b true)]) :=
  Body.of_finAt (Γ := (gimp 22 (mkS ⟨w, [], 3, β⟩ .u8) gam19)) (Λ := lamOf [(0, ⟨[.forget [0, 3] 3], .normal, (itL_mk w q capL capW L W q (iter (itL_step) q ()))⟩)]) (Ψ := noPsi) (fuel := 1) (m := 393) (c := (Try.f17.body.getD .skip)) mix tabOkKC (gimp_ok (t := 22) (mk := mkS ⟨w, [], 3, β⟩ .u8) (gam19_ok.at _ _) fun v m => mkS_ok v m) rfl (rs := [.tmp 2]) rfl rfl [false, false, false, false, false, false, false, false, false, false, false, false, false, false] []
    (vc := [(false = false), (false = false), (false = false), (false = false), (false = false), (false = false), (false = false), (false = false), (false = false), (false = false), (false = false), (false = false), (false = false), (false = false), (Run Try.prog ⟨w, [], 3, β⟩ (.block 0 (.loop (loopB Try.f17 0))) (itL_mk w q capL capW L W 0 ()) (To ⟨w, [], 3, β⟩ .normal (itL_mk w q capL capW L W q (iter (itL_step) q ()))))]) (by kernel_rfl)
    (aC rfl (aC rfl (aC rfl (aC rfl (aC rfl (aC rfl (aC rfl (aC rfl (aC rfl (aC rfl (aC rfl (aC rfl (aC rfl (aC rfl (aC (itL_loop w q capL capW L W h0 β hL hW heq hlen hsm ()) (AllP_nil))))))))))))))))

end Go.Proofs.Ytepimglipelpmaa.X

/- A contract by hand: two lists of slices, families in them or not, are looked at and found to show the same. -/
namespace Go.Proofs.Ytepimglipelpmaa.X
open Go Go.Proofs
set_option linter.unusedVariables false

def PartsI (w : World) (rw : List Nat) (L : List Value) (n : Nat) : Prop := ∀ i, i < n → ∀ (k : Nat) (β : Env), ImpOk ⟨w, rw, k, β⟩ (L.getD i undef) .u8 (lenV (L.getD i undef)) (capV (L.getD i undef)) (contV w (L.getD i undef))
def contL (w : World) (L : List Value) (n : Nat) : List (List Int) := (List.range n).map fun i => contV w (L.getD i undef)
def famL (K : Know) (w0 : World) (rw : List Nat) : List Atom → Option (Prop × List (List Int))
  | [] => some (True, [])
  | .vals n L :: r => (match famL K w0 rw r with
    | some (q, C) => some (PartsI w0 rw L n ∧ q, contL w0 L n ++ C)
    | none => none)
  | a :: r => (match famC K a with
    | some (p, l) => (match famL K w0 rw r with
      | some (q, C) => some (p ∧ q, l :: C)
      | none => none)
    | none => none)

theorem famC_mono {K K' : Know} (hk : Knows K K') {a : Atom} {r : Prop × List Int} (h : famC K a = some r) : famC K' a = some r := by
  unfold famC at *
  split at h
  · split at h
    · rename_i b hb; rw [hk _ _ hb]; exact h
    · simp at h
  · split at h
    · rename_i b hb; rw [hk _ _ hb]; exact h
    · simp at h
  · exact h
  · simp at h
theorem famL_mono {K K' : Know} {w0 : World} {rw : List Nat} (hk : Knows K K') : ∀ {l : List Atom} {r : Prop × List (List Int)}, famL K w0 rw l = some r → famL K' w0 rw l = some r
  | [], _, h => h
  | a :: l, r, h => by
    have one : (match famC K a with
        | some (p, x) => (match famL K w0 rw l with
          | some (q, C) => some (p ∧ q, x :: C)
          | none => none)
        | none => none) = some r → (match famC K' a with
        | some (p, x) => (match famL K' w0 rw l with
          | some (q, C) => some (p ∧ q, x :: C)
          | none => none)
        | none => none) = some r := by
      intro h
      split at h
      · rename_i p x h1
        rw [famC_mono hk h1]
        simp only
        split at h
        · rename_i q C h2
          rw [famL_mono hk h2]; exact h
        · simp at h
      · simp at h
    cases a with
    | vals n L =>
      simp only [famL] at h ⊢
      split at h
      · rename_i q C h2
        rw [famL_mono hk h2]; exact h
      · simp at h
    | _ => exact one h

section fam
variable {w0 w : World} {rw : List Nat} {β : Env} {K : Know}

def AllI (w : World) (L : List Value) (C : List (List Int)) : Prop := L.length = C.length ∧ PartsI w [] L C.length ∧ ∀ i, i < C.length → contV w (L.getD i undef) = C.getD i []
theorem AllI.of {L : List Value} {C : List (List Int)} (h : FamR w [] L C) : AllI w L C := ⟨h.len, h.imp, h.cont⟩
theorem AllI.to {L : List Value} {C : List (List Int)} (h : AllI w L C) : FamR w [] L C := ⟨h.1, h.2.1, h.2.2⟩

theorem contL_len (w : World) (L : List Value) (n : Nat) : (contL w L n).length = n := by simp [contL]
theorem contL_get {w : World} {L : List Value} {n i : Nat} (h : i < n) : (contL w L n).getD i [] = contV w (L.getD i undef) := by
  unfold contL
  rw [List.getD_eq_getElem?_getD, List.getElem?_map, List.getElem?_range h]; rfl

theorem famC_all (hR : RelW w0 rw β K w) {a : Atom} {p : Prop} {l : List Int} {cs : List Value} (h : famC K a = some (p, l)) (hp : p) (hc : a.con β cs) : FamR w [] cs [l] := by
  have hpc : partC K w0 rw a = some (1, p, l) := by
    unfold famC at h
    unfold partC
    split at h
    · split at h
      · rename_i b hb
        split at h
        · rename_i hs
          simp only [Option.some.injEq, Prod.mk.injEq] at h; obtain ⟨rfl, rfl⟩ := h
          simp only [hb, hs]
        · simp at h
      · simp at h
    · split at h
      · rename_i b hb
        split at h
        · rename_i hs
          simp only [Option.some.injEq, Prod.mk.injEq] at h; obtain ⟨rfl, rfl⟩ := h
          simp only [hb, hs]
        · simp at h
      · simp at h
    · simp only [Option.some.injEq, Prod.mk.injEq] at h; obtain ⟨rfl, rfl⟩ := h; rfl
    · simp at h
  obtain ⟨h1, h2, h3⟩ := partC_ok hR hpc hp hc
  refine ⟨h1, fun i hi => h2 i hi, fun i hi => ?_⟩
  have : i = 0 := by simp at hi; omega
  subst this
  have : [] ++ contV w (cs.getD 0 undef) = l := h3
  simpa using this

theorem famL_ok (hR : RelW w0 rw β K w) : ∀ {l : List Atom} {p : Prop} {C : List (List Int)} {cs : List Value}, famL K w0 rw l = some (p, C) → p → cons β l cs → FamR w [] cs C
  | [], p, C, cs, h, hp, hc => by
    simp only [famL, Option.some.injEq, Prod.mk.injEq] at h; obtain ⟨rfl, rfl⟩ := h
    have hc : cs = [] := hc
    subst hc; exact FamR.nil
  | a :: l, p, C, cs, h, hp, hc => by
    obtain ⟨x, y, rfl, ha, hr⟩ := hc
    have one : (match famC K a with
        | some (p, x) => (match famL K w0 rw l with
          | some (q, C) => some (p ∧ q, x :: C)
          | none => none)
        | none => none) = some (p, C) → FamR w [] (x ++ y) C := by
      intro h
      split at h
      · rename_i p1 l1 h1
        split at h
        · rename_i q D h2
          simp only [Option.some.injEq, Prod.mk.injEq] at h; obtain ⟨rfl, rfl⟩ := h
          exact (famC_all hR h1 hp.1 ha).app (famL_ok hR h2 hp.2 hr)
        · simp at h
      · simp at h
    cases a with
    | vals n L =>
      simp only [famL] at h
      split at h
      · rename_i q D h2
        simp only [Option.some.injEq, Prod.mk.injEq] at h; obtain ⟨rfl, rfl⟩ := h
        obtain ⟨h3, rfl, _⟩ := ha
        refine FamR.app ?_ (famL_ok hR h2 hp.2 hr)
        have hc : ∀ i, i < n → contV w (x.getD i undef) = contV w0 (x.getD i undef) := fun i hi => contV_move hR.old (hp.1 i hi 0 noEnv)
        refine ⟨by rw [contL_len, h3], fun i hi k β1 => ?_, fun i hi => ?_⟩
        · rw [contL_len] at hi
          rw [hc i hi]
          obtain ⟨base, hv, hlc, hl, hb⟩ := hp.1 i hi 0 noEnv
          refine ⟨base, hv, hlc, hl, fun h0 => ?_⟩
          obtain ⟨b, off, g1, g2, g3, g4⟩ := hb h0
          have g2 : b < w0.heap.size := g2
          refine ⟨b, off, g1, Nat.lt_of_lt_of_le g2 hR.size, by simp, fun hl0 => ?_⟩
          obtain ⟨arr, ty, fr, k1, k2⟩ := g4 hl0
          exact ⟨arr, ty, fr, (hR.old b g2 g3).trans k1, k2⟩
        · rw [contL_len] at hi
          rw [hc i hi, contL_get hi]
      · simp at h
    | _ => exact one h
end fam

def nilsB (l : List Atom) : Bool := l.all fun a => match a with
  | .raw (.slice none 0 0) => true
  | _ => false
theorem nilsB_ok : ∀ {l : List Atom}, nilsB l = true → l = List.replicate l.length (.raw (.slice none 0 0))
  | [], _ => rfl
  | a :: l, h => by
    unfold nilsB at h
    rw [List.all_cons, Bool.and_eq_true] at h
    have h2 : l = List.replicate l.length (.raw (.slice none 0 0)) := nilsB_ok (l := l) h.2
    have h1 := h.1
    split at h1
    · rw [List.length_cons, List.replicate_succ, ← h2]
    · cases h1

def gtwoE (m : Nat) (w0 : World) (rw : List Nat) (K : Know) (args : List AV) : Option Rx :=
  match args with
  | [.o (.a (.p g 0))] => (match K.at g with
    | some ⟨_, .rs jl 0 q _ :: .rs jw 0 q' _ :: nils⟩ =>
      if nilsB nils = true ∧ nils.length = m then
        (match K.at jl with
        | some bl => (match K.at jw with
          | some bw => (match famL K w0 rw bl.cells with
            | some (p, C) => (match famL K w0 rw bw.cells with
              | some (p', C') => some ⟨some (C.length = q ∧ q' = q ∧ p ∧ p' ∧ C = C' ∧ (∀ l ∈ C, l.length < 70368744177664) ∧ q < 70368744177664), .o (.a (.b true)), [], 0⟩
              | none => none)
            | none => none)
          | none => none)
        | none => none)
      else none
    | _ => none)
  | _ => none
def gtwo (f : FuncId) (m : Nat) (w0 : World) (rw : List Nat) (rest : Gam) : Gam := fun g K n args => if f = g then gtwoE m w0 rw K args else rest g K n args

theorem gtwo_ok {P : Program} {T : Tab} (hT : TabOk P T) {f : FuncId} {fn : Func} (hf : P.funcs[f]? = some fn) (he : ∀ (xas : Array Value) (w : World), (callFunc f xas).run P w = .ok (.enter f xas) w) {m : Nat} {rest : Gam} {w0 : World} {rw : List Nat} (hr : GamAt P rest w0 rw)
    (h : ∀ (q capL capW : Nat) (L W : List Value) (w : World) (β : Env), q < 70368744177664 → PartsI w [] L q → PartsI w [] W q → (∀ k, k < q → contV w (L.getD k undef) = contV w (W.getD k undef)) → (∀ k, k < q → lenV (L.getD k undef) = lenV (W.getD k undef)) → (∀ k, k < q → lenV (L.getD k undef) < 70368744177664) →
      Body P T fn ⟨w, [], 3, β⟩ [.o (.a (.p 0 0))] [some ⟨false, .sl 1 0 q capL :: .sl 2 0 q capW :: List.replicate m (.raw (.slice none 0 0))⟩, some ⟨false, [.vals q L]⟩, some ⟨false, [.vals q W]⟩] fun ys _ => ys = [.a (.b true)])
    (hlt : f < impId := by decide) : GamAt P (gtwo f m w0 rw rest) w0 rw := by
  refine ⟨?_, ?_, ?_, ?_, ?_⟩
  · intro g K n args s hg hs
    unfold gtwo at hs
    split at hs
    · rename_i e; subst e; exact he
    · exact hr.enter _ _ _ _ _ hg hs
  · intro g0 K n args s hg hs hvc β w xs hx hR hn hK
    unfold gtwo at hs
    split at hs
    rotate_left
    · exact hr.calls _ _ _ _ _ hg hs hvc β w xs hx hR hn hK
    rename_i e; subst e
    unfold gtwoE at hs
    split at hs
    rotate_left
    · simp at hs
    rename_i g
    split at hs
    rotate_left
    · simp at hs
    rename_i own jl q z jw q' z' nils hg1
    split at hs
    rotate_left
    · simp at hs
    rename_i hnl
    split at hs
    rotate_left
    · simp at hs
    rename_i bl hbl
    split at hs
    rotate_left
    · simp at hs
    rename_i bw hbw
    split at hs
    rotate_left
    · simp at hs
    rename_i p C hC
    split at hs
    rotate_left
    · simp at hs
    rename_i p' C' hC'
    simp only [Option.some.injEq] at hs; subst hs
    obtain ⟨rfl, rfl, hp, hp', rfl, hsm, hq⟩ := hvc
    obtain ⟨v, rest', rfl, hv, hrest⟩ := hx
    cases hrest
    obtain ⟨L, hL, hdL⟩ := hR.holds jl bl hbl
    obtain ⟨W, hW, hdW⟩ := hR.holds jw bw hbw
    have fL := famL_ok hR hC hp hL
    have fW := famL_ok hR hC' hp' hW
    obtain ⟨G, hG, hdG⟩ := hR.holds g _ hg1
    have hG : cons β (.rs jl 0 C.length z :: .rs jw 0 C.length z' :: nils) G := hG
    obtain ⟨g1, G1, rfl, hg2, hG1⟩ := hG
    obtain ⟨g2, G2, rfl, hg3, hG2⟩ := hG1
    obtain ⟨base1, cap1, rfl, hc1, hb1⟩ := hg2
    obtain ⟨base2, cap2, rfl, hc2, hb2⟩ := hg3
    have hnils := nilsB_ok hnl.1
    rw [hnl.2] at hnils
    rw [hnils] at hG2
    let β' : Env := fun t => if t = 0 then β g else if t = 1 then β jl else if t = 2 then β jw else none
    have hflat : (List.replicate m (Atom.raw (.slice none 0 0))).all Atom.flat = true := by
      rw [List.all_eq_true]; intro x hx; rw [List.eq_of_mem_replicate hx]; rfl
    have hrel : RelW w [] β' [some ⟨false, .sl 1 0 C.length cap1 :: .sl 2 0 C.length cap2 :: List.replicate m (.raw (.slice none 0 0))⟩, some ⟨false, [.vals C.length L]⟩, some ⟨false, [.vals C.length W]⟩] w := by
      refine RelW.ofRead fun i bk hi => ?_
      have cases3 : (i = 0 ∧ bk = ⟨false, .sl 1 0 C.length cap1 :: .sl 2 0 C.length cap2 :: List.replicate m (.raw (.slice none 0 0))⟩) ∨ (i = 1 ∧ bk = ⟨false, [.vals C.length L]⟩) ∨ (i = 2 ∧ bk = ⟨false, [.vals C.length W]⟩) := by
        match i, hi with
        | 0, hi => exact .inl ⟨rfl, (Option.some.inj hi).symm⟩
        | 1, hi => exact .inr (.inl ⟨rfl, (Option.some.inj hi).symm⟩)
        | 2, hi => exact .inr (.inr ⟨rfl, (Option.some.inj hi).symm⟩)
        | i + 3, hi => simp [Know.at] at hi
      rcases cases3 with ⟨rfl, rfl⟩ | ⟨rfl, rfl⟩ | ⟨rfl, rfl⟩
      · refine ⟨rfl, ⟨_, ⟨_, _, rfl, ⟨base1, rfl, hc1, fun h0 => ?_⟩, ⟨_, _, rfl, ⟨base2, rfl, hc2, fun h0 => ?_⟩, cons_flat hflat hG2⟩⟩, ?_⟩, fun r hr' => hR.live g _ r hg1 hr'⟩
        · obtain ⟨r, k1, k2, _⟩ := hb1 h0; exact ⟨r, k1, k2⟩
        · obtain ⟨r, k1, k2, _⟩ := hb2 h0; exact ⟨r, k1, k2⟩
        · rcases hdG with ⟨k1, _⟩ | ⟨r, arr, ty, fr, k1, k2, k3, k4, k5, _⟩
          · exact .inl ⟨k1, .inl rfl⟩
          · exact .inr ⟨r, arr, ty, fr, k1, k2, k3, k4, k5, fun h => by cases h⟩
      · refine ⟨rfl, ⟨L, cons_single.2 ⟨fL.len, rfl, cons_one hL⟩, ?_⟩, fun r hr' => hR.live jl _ r hbl hr'⟩
        rcases hdL with ⟨k1, _⟩ | ⟨r, arr, ty, fr, k1, k2, k3, k4, k5, _⟩
        · exact .inl ⟨k1, .inl rfl⟩
        · exact .inr ⟨r, arr, ty, fr, k1, k2, k3, k4, k5, fun h => by cases h⟩
      · refine ⟨rfl, ⟨W, cons_single.2 ⟨fW.len, rfl, cons_one hW⟩, ?_⟩, fun r hr' => hR.live jw _ r hbw hr'⟩
        rcases hdW with ⟨k1, _⟩ | ⟨r, arr, ty, fr, k1, k2, k3, k4, k5, _⟩
        · exact .inl ⟨k1, .inl rfl⟩
        · exact .inr ⟨r, arr, ty, fr, k1, k2, k3, k4, k5, fun h => by cases h⟩
    have hall : allC β' [.o (.a (.p 0 0))] [v] := by
      refine ⟨v, [], rfl, ?_, rfl⟩
      obtain ⟨r, h1, h2⟩ := hv
      exact ⟨r, h1, h2⟩
    have hcl : ∀ (X : List Value), FamR w [] X C → ∀ k, k < C.length → lenV (X.getD k undef) = (C.getD k []).length := by
      intro X fX k hk
      obtain ⟨_, _, _, hl, _⟩ := fX.imp k hk 0 noEnv
      rw [← hl, fX.cont k hk]
    have hbody := h C.length cap1 cap2 L W w β' hq fL.imp fW.imp (fun k hk => by rw [fL.cont k hk, fW.cont k hk]) (fun k hk => by rw [hcl L fL k hk, hcl W fW k hk]) (fun k hk => by
      rw [hcl L fL k hk, List.getD_eq_getElem?_getD, List.getElem?_eq_getElem hk]
      exact hsm _ (List.getElem_mem hk))
    refine Calls.mono (calls_of_body hT hf (rw := []) hall hrel hbody) fun e w' he => ?_
    obtain ⟨ys, K', v', β1, rfl, rfl, hv', hrel', _⟩ := he
    exact ⟨v', β, rfl, agree_refl _ _ _, hv', hR.grow hrel'.toGrow⟩
  · intro g0 K K' n args s hg hs hk
    unfold gtwo at hs ⊢
    split at hs
    rotate_left
    · rename_i e; rw [if_neg e]; exact hr.mono _ _ _ _ _ _ hg hs hk
    rename_i e
    rw [if_pos e]
    unfold gtwoE at hs ⊢
    split at hs
    rotate_left
    · simp at hs
    rename_i g
    split at hs
    rotate_left
    · simp at hs
    rename_i own jl q z jw q' z' nils hg1
    simp only [hk _ _ hg1]
    split at hs
    rotate_left
    · simp at hs
    rename_i hnl
    rw [if_pos hnl]
    split at hs
    rotate_left
    · simp at hs
    rename_i bl hbl
    simp only [hk _ _ hbl]
    split at hs
    rotate_left
    · simp at hs
    rename_i bw hbw
    simp only [hk _ _ hbw]
    split at hs
    rotate_left
    · simp at hs
    rename_i p C hC
    simp only [famL_mono hk hC]
    split at hs
    rotate_left
    · simp at hs
    rename_i p' C' hC'
    simp only [famL_mono hk hC']
    exact hs
  · intro g n args s hs
    have hne : ¬ (f = extId + g) := fun e => by
      have h1 : extId ≤ extId + g := Nat.le_add_right _ _
      rw [← e] at h1
      exact Nat.lt_irrefl _ (Nat.lt_of_lt_of_le hlt (Nat.le_trans (by decide : impId ≤ extId) h1))
    unfold gtwo at hs
    rw [if_neg hne] at hs
    exact hr.ext _ _ _ _ hs
  · intro g n v s hg hg2 hs
    have hne : ¬ (f = g) := fun e => by
      have h1 := hlt
      rw [e] at h1
      exact Nat.lt_irrefl _ (Nat.lt_of_lt_of_le h1 hg)
    unfold gtwo at hs
    rw [if_neg hne] at hs
    exact hr.imp _ _ _ _ hg hg2 hs
end Go.Proofs.Ytepimglipelpmaa.X

/- Families that a loop makes, told for the loop's block alone; what a family says to those that read it. -/
namespace Go.Proofs.Ytepimglipelpmaa.X
open Go Go.Proofs
set_option linter.unusedVariables false

def fstC : Code → Code
  | .seq a _ => a
  | c => c
def sndC : Code → Code
  | .seq _ b => b
  | c => c

theorem Run.famQ {P : Program} {σ : Type} {c : Code} {id : Nat} (mk : Nat → σ → St) (Inv : World → List Nat → Nat → σ → Prop) (n kk : Nat)
    (hround : ∀ w rw β0 k s, k < n → Inv w rw k s → Run P ⟨w, rw, kk, β0⟩ c (mk k s) (fun e md => e = .normal ∧
      ∀ β a' w', Rel ⟨w, rw, kk, β0⟩ β md a' w' → ∃ β' s', Rel ⟨w, rw, kk, β0⟩ β' (mk (k + 1) s') a' w' ∧ Inv w' (ownBlks β' (mk (k + 1) s').K) (k + 1) s'))
    (hlast : ∀ w rw β0 s, Inv w rw n s → Run P ⟨w, rw, kk, β0⟩ c (mk n s) (To ⟨w, rw, kk, β0⟩ (.exit id) (mk n s)))
    {w0 : World} {rw0 : List Nat} {β0 : Env} {s0 : σ} (h0 : Inv w0 rw0 0 s0) {β : Env} {a : Act} {w : World} (hR : Rel ⟨w0, rw0, kk, β0⟩ β (mk 0 s0) a w) {Q : Exit → Act → World → Prop}
    (hQ : ∀ w1 rw1 β1 s β a w, Inv w1 rw1 n s → Rel ⟨w1, rw1, kk, β1⟩ β (mk n s) a w →
        (∀ β' st' a' w', Rel ⟨w1, rw1, kk, β1⟩ β' st' a' w' → Rel ⟨w0, rw0, kk, β0⟩ β' st' a' w') → Q .normal a w) : (Code.block id (.loop c)).wp P Q a w := by
  have key : ∀ Q1 : Exit → Act → World → Prop, (∀ w1 rw1 β1 s β a w, Inv w1 rw1 n s → Rel ⟨w1, rw1, kk, β1⟩ β (mk n s) a w →
        (∀ β' st' a' w', Rel ⟨w1, rw1, kk, β1⟩ β' st' a' w' → Rel ⟨w0, rw0, kk, β0⟩ β' st' a' w') → Q1 (.exit id) a w) → ∀ m k, k + m = n → ∀ w1 rw1 β1 s β a w, Inv w1 rw1 k s → Rel ⟨w1, rw1, kk, β1⟩ β (mk k s) a w →
      (∀ β' st' a' w', Rel ⟨w1, rw1, kk, β1⟩ β' st' a' w' → Rel ⟨w0, rw0, kk, β0⟩ β' st' a' w') → Code.rounds P c Q1 (m + 1) a w := by
    intro Q1 hQ1 m
    induction m with
    | zero =>
      intro k hk w1 rw1 β1 s β a w hi hR hback
      have : k = n := by omega
      subst this
      rw [rounds_succ]
      refine hlast w1 rw1 β1 s hi β a w hR _ fun e st' β' a' w' hp hR' => ?_
      obtain ⟨rfl, hw⟩ := hp
      obtain ⟨β2, hR2⟩ := hw β' a' w' hR'
      exact hQ1 w1 rw1 β1 s β2 a' w' hi hR2 hback
    | succ m ih =>
      intro k hk w1 rw1 β1 s β a w hi hR hback
      rw [rounds_succ]
      refine hround w1 rw1 β1 k s (by omega) hi β a w hR _ fun e st' β' a' w' hp hR' => ?_
      obtain ⟨rfl, hconv⟩ := hp
      obtain ⟨β3, s', hR3, hi'⟩ := hconv β' a' w' hR'
      exact ih (k + 1) (by omega) w' (ownBlks β3 (mk (k + 1) s').K) β3 s' β3 a' w' hi' hR3.anew fun β' st' a'' w'' h => hback _ _ _ _ (hR3.back h)
  refine wp_block (wp_loop_rounds (n + 1) (key _ ?_ n 0 (by omega) w0 rw0 β0 s0 β a w h0 hR fun _ _ _ _ h => h))
  intro w1 rw1 β1 s β2 a' w' hi hR2 hback
  show (if id = id then _ else _)
  rw [if_pos rfl]
  exact hQ w1 rw1 β1 s β2 a' w' hi hR2 hback

/-- what stands ahead of the loop, the loop, the rest -/
theorem Run.famPre {P : Program} {σ : Type} {pre c rest : Code} {id : Nat} {post : Ex → St → Prop} (mk : Nat → σ → St) (Inv : World → List Nat → Nat → σ → Prop) (n kk : Nat)
    (hround : ∀ w rw β0 k s, k < n → Inv w rw k s → Run P ⟨w, rw, kk, β0⟩ c (mk k s) (fun e md => e = .normal ∧
      ∀ β a' w', Rel ⟨w, rw, kk, β0⟩ β md a' w' → ∃ β' s', Rel ⟨w, rw, kk, β0⟩ β' (mk (k + 1) s') a' w' ∧ Inv w' (ownBlks β' (mk (k + 1) s').K) (k + 1) s'))
    (hlast : ∀ w rw β0 s, Inv w rw n s → Run P ⟨w, rw, kk, β0⟩ c (mk n s) (To ⟨w, rw, kk, β0⟩ (.exit id) (mk n s)))
    (hrest : ∀ w rw β0 s, Inv w rw n s → Run P ⟨w, rw, kk, β0⟩ rest (mk n s) post)
    {B : Bs} (hkk : B.k = kk) {st : St} (hpre : Run P B pre st (fun e md => e = .normal ∧ ∀ β a' w', Rel B β md a' w' → ∃ β' s', Rel B β' (mk 0 s') a' w' ∧ Inv w' (ownBlks β' (mk 0 s').K) 0 s')) :
    Run P B (.seq (.seq pre (.block id (.loop c))) rest) st post := by
  intro β a w hR Q hq
  refine wp_seq (wp_seq (hpre β a w hR _ fun e st' β' a' w' hp hR' => ?_))
  obtain ⟨rfl, hconv⟩ := hp
  obtain ⟨β2, s', hR2, hi⟩ := hconv β' a' w' hR'
  have hR3 := hR2.anew
  rw [hkk] at hR3
  refine Run.famQ mk Inv n kk hround hlast hi hR3 (fun w1 rw1 β1 s β3 a1 w1' hi1 hR4 hback => ?_)
  exact hrest w1 rw1 β1 s hi1 β3 a1 w1' hR4 Q fun e st5 β5 a5 w5 hp5 hR5 => hq e st5 β5 a5 w5 hp5 (hR2.back (by have := hback _ _ _ _ hR5; rw [hkk]; exact this))

theorem Rel.emptied {B : Bs} {β : Env} {slots : List AV} {K : Know} {a : Act} {w : World} (h : Rel B β ⟨slots, K⟩ a w) {j : Nat} {own : Bool} {k : IntKind} (hb : K.at j = some ⟨own, [.ints k 0 []]⟩) :
    Rel B β ⟨slots, K.set1 j (some ⟨own, [.vals 0 []]⟩)⟩ a w := by
  obtain ⟨L, hL, h1⟩ := h.valued hb (n := 0) rfl
  have : L = [] := List.length_eq_zero_iff.1 (cons_len hL)
  subst this
  exact h1

theorem FamR.contLeq {w : World} {rw : List Nat} {L : List Value} {C : List (List Int)} (h : FamR w rw L C) {n : Nat} (hn : n = C.length) : contL w L n = C := by
  subst hn
  refine List.ext_getElem? fun i => ?_
  by_cases hi : i < C.length
  · unfold contL
    rw [List.getElem?_map, List.getElem?_range hi, List.getElem?_eq_getElem hi]
    show some (contV w (L.getD i undef)) = _
    rw [h.cont i hi, List.getD_eq_getElem?_getD, List.getElem?_eq_getElem hi]; rfl
  · rw [List.getElem?_eq_none (by rw [contL_len]; omega), List.getElem?_eq_none (by omega)]
theorem FamR.catEq {w : World} {rw : List Nat} {L : List Value} {C : List (List Int)} (h : FamR w rw L C) {n : Nat} (hn : n = C.length) : catV w L n = C.flatten := by
  rw [h.parts n (by omega), hn, List.take_length]
theorem FamR.toParts {w : World} {rw : List Nat} {L : List Value} {C : List (List Int)} (h : FamR w rw L C) {n : Nat} (hn : n = C.length) (hs : C.flatten.length < 70368744177664) : PartsR w rw L n := by
  subst hn
  exact ⟨h.imp, by rw [h.catEq rfl]; exact hs⟩
theorem FamR.of {w : World} {rw : List Nat} {L : List Value} {n : Nat} (hl : L.length = n) (h : PartsI w rw L n) : FamR w rw L (contL w L n) :=
  ⟨by rw [contL_len, hl], fun i hi => h i (by rwa [contL_len] at hi), fun i hi => (contL_get (by rwa [contL_len] at hi)).symm⟩
end Go.Proofs.Ytepimglipelpmaa.X

/- The document's digest and the program's; half a digest. -/
namespace Go.Proofs.Ytepimglipelpmaa.X
open Go Go.Proofs
set_option linter.unusedVariables false
set_option maxRecDepth 100000

theorem sumR_key {key : List Int} {n : Nat} (hl : key.length = n) (h : n < 70368744177664) : sumR n (sub key 0 n) = shaD key := by
  rw [sub_all key n (by omega)]; exact sumR_sha hl h
def shaH (D : List Int) : List Int := sub (shaD D) 0 32
theorem catV_app {w : World} {L : List Value} {n k : Nat} (h : PartsOk w L n) (hk : k < n) :
    (sub (catV w L k) 0 (catV w L k).length) ++ (sub (contV w (L.getD k undef)) 0 (lenV (L.getD k undef))) = catV w L (k + 1) := by
  rw [sub_all _ _ (Nat.le_refl _), sub_all _ _ (Nat.le_of_eq (h.len hk))]; rfl
theorem catV_len {w : World} {L : List Value} {n k : Nat} (h : PartsOk w L n) (hk : k < n) : (catV w L (k + 1)).length = (catV w L k).length + lenV (L.getD k undef) := by
  show (catV w L k ++ _).length = _
  rw [List.length_append, h.len hk]
end Go.Proofs.Ytepimglipelpmaa.X

/- Printed by a tool of this session. -/
namespace Go.Proofs.Ytepimglipelpmaa.X
open Go Go.Proofs
set_option linter.unusedVariables false
set_option linter.unusedSimpArgs false
set_option maxRecDepth 100000
theorem teUC_5 : TEOk Try.prog 5 ⟨.int .u8, 1, 1, [.i .u8 (0 : Int)], false⟩ :=
  TEOk.of Try.underlying5 (i := Try.t5) (by kernel_rfl) rfl rfl rfl (by kernel_rfl) (fun h => by cases h) (by kernel_rfl)
theorem teUC_22 : TEOk Try.prog 22 ⟨.slice 5, 1, 24, [.raw (.slice none 0 0)], false⟩ :=
  TEOk.of Try.underlying22 (i := Try.t22) (by kernel_rfl) rfl rfl rfl (by kernel_rfl) (fun h => by cases h) (by kernel_rfl)
theorem teUC_23 : TEOk Try.prog 23 ⟨.slice 22, 1, 24, [.raw (.slice none 0 0)], false⟩ :=
  TEOk.of Try.underlying23 (i := Try.t23) (by kernel_rfl) rfl rfl rfl (by kernel_rfl) (fun h => by cases h) (by kernel_rfl)
theorem teUC_42 : TEOk Try.prog 42 ⟨.array 64 5, 64, 64, [.ints .u8 (64 : Nat) ([0, 0, 0, 0, 0, 0, 0, 0, 0, 0, 0, 0, 0, 0, 0, 0, 0, 0, 0, 0, 0, 0, 0, 0, 0, 0, 0, 0, 0, 0, 0, 0, 0, 0, 0, 0, 0, 0, 0, 0, 0, 0, 0, 0, 0, 0, 0, 0, 0, 0, 0, 0, 0, 0, 0, 0, 0, 0, 0, 0, 0, 0, 0, 0] : List Int)], true⟩ :=
  TEOk.of Try.underlying42 (i := Try.t42) (by kernel_rfl) rfl rfl rfl (by kernel_rfl) (fun _ => Try.eqGuardType42) (by kernel_rfl)
noncomputable def tabUC : List (Nat × TE) := [(5, ⟨.int .u8, 1, 1, [.i .u8 (0 : Int)], false⟩), (22, ⟨.slice 5, 1, 24, [.raw (.slice none 0 0)], false⟩), (23, ⟨.slice 22, 1, 24, [.raw (.slice none 0 0)], false⟩), (42, ⟨.array 64 5, 64, 64, [.ints .u8 (64 : Nat) ([0, 0, 0, 0, 0, 0, 0, 0, 0, 0, 0, 0, 0, 0, 0, 0, 0, 0, 0, 0, 0, 0, 0, 0, 0, 0, 0, 0, 0, 0, 0, 0, 0, 0, 0, 0, 0, 0, 0, 0, 0, 0, 0, 0, 0, 0, 0, 0, 0, 0, 0, 0, 0, 0, 0, 0, 0, 0, 0, 0, 0, 0, 0, 0] : List Int)], true⟩)]
theorem tabOkUC : TabOk Try.prog (tabOf tabUC) := (tabOf_cons teUC_5 (tabOf_cons teUC_22 (tabOf_cons teUC_23 (tabOf_cons teUC_42 tabOf_nil))))

def gam601 : Gam := greadV 12 [.s 1] (fun vs args => match vs, args with | [⟨_, _, _, [.ints .u8 nm b]⟩], [a0] => some ((nm = (lenOfA a0)) ∧ ((lenOfA a0) < (70368744177664 : Nat)), [.g [.ints .u8 (64 : Nat) (sumR (lenOfA a0) b)]]) | _, _ => none) gam17
theorem gam601_ok : GamOk Try.prog gam601 := greadV_ok tabOkKD Try.func12 gam17_ok Try.call12 (by
  intro vs args p xs h hv
  split at h
  · simp only [Option.some.injEq, Prod.mk.injEq] at h; obtain ⟨rfl, rfl⟩ := h; exact ⟨by rfl, fun caps w β => sumR_body _ _ _ _ hv.1 hv.2 w β⟩
  · simp at h)

def rjL_mk (w : World) (n : Nat) (L : List Value) (cap0 k : Nat) (s : Unit) : St := ⟨sparse 19 [(0, .o (.a (.sl 0 0 n cap0))), (2, .o (.a (.p 1 0))), (3, .o (.a (.rs 2 0 (List.length (catV w L k)) 1))), (4, .o (.a (.i .i64 ((k : Nat) : Int))))], [some ⟨false, [.vals n L]⟩, some ⟨true, [.ints .u8 (64 : Nat) ([0, 0, 0, 0, 0, 0, 0, 0, 0, 0, 0, 0, 0, 0, 0, 0, 0, 0, 0, 0, 0, 0, 0, 0, 0, 0, 0, 0, 0, 0, 0, 0, 0, 0, 0, 0, 0, 0, 0, 0, 0, 0, 0, 0, 0, 0, 0, 0, 0, 0, 0, 0, 0, 0, 0, 0, 0, 0, 0, 0, 0, 0, 0, 0] : List Int)]⟩, some ⟨true, [.ints .u8 (List.length (catV w L k)) (catV w L k)]⟩]⟩

def rjL_step (k : Nat) (s : Unit) : Unit :=
  ()

set_option maxHeartbeats 1000000 in
theorem rjL_round (w : World) (n : Nat) (L : List Value) (cap0 : Nat) (h0 : (n < (70368744177664 : Nat))) (β : Env) (hP : PartsOk w L n) (k : Nat) (hk : k < n) (s : Unit) : Run Try.prog ⟨w, [], 1, β⟩ (loopB Try.f14 0) (rjL_mk w n L cap0 k s) (To ⟨w, [], 1, β⟩ .normal (rjL_mk w n L cap0 (k + 1) (rjL_step k s))) := by
  have e0 : (IntKind.i64.wrap (((k : Nat) : Int) + (1 : Int))) = (((k + (1 : Nat)) : Nat) : Int) := (by first | rfl | exact wrap_succ (by omega) | omega | (simp (disch := omega) only [wrapI]; omega))
  have h := Run.of_outTAt (B := ⟨w, [], 1, β⟩) (Λ := noLam) (Ψ := psiOf [(5, [.eqS 3 (.o (.a (.rs 4 0 (List.length (catV w L (k + (1 : Nat)))) 1))), .eqB 4 (⟨true, [.ints .u8 (List.length (catV w L (k + (1 : Nat)))) (catV w L (k + (1 : Nat)))]⟩)])]) (fuel := 0) (ora := [true, false]) (c := (loopB Try.f14 0)) (st := (rjL_mk w n L cap0 k s)) (l := [.swap 2 4, .forget [0, 2, 3, 4] 3]) (s' := ⟨sparse 19 [(0, .o (.a (.sl 0 0 n cap0))), (2, .o (.a (.p 1 0))), (3, .o (.a (.rs 2 0 (List.length (catV w L (k + (1 : Nat)))) 1))), (4, .o (.a (.i .i64 (IntKind.i64.wrap (((k : Nat) : Int) + (1 : Int))))))], [some ⟨false, [.vals n L]⟩, some ⟨true, [.ints .u8 (64 : Nat) ([0, 0, 0, 0, 0, 0, 0, 0, 0, 0, 0, 0, 0, 0, 0, 0, 0, 0, 0, 0, 0, 0, 0, 0, 0, 0, 0, 0, 0, 0, 0, 0, 0, 0, 0, 0, 0, 0, 0, 0, 0, 0, 0, 0, 0, 0, 0, 0, 0, 0, 0, 0, 0, 0, 0, 0, 0, 0, 0, 0, 0, 0, 0, 0] : List Int)]⟩, some ⟨true, [.ints .u8 (List.length (catV w L (k + (1 : Nat)))) (catV w L (k + (1 : Nat)))]⟩]⟩) (ex := .normal) mix tabOkUC (gimp_ok (t := 22) (mk := mkS ⟨w, [], 1, β⟩ .u8) (gam601_ok.at _ _) fun v m => mkS_ok v m)
    (vc := [((some ⟨true, [.ints .u8 ((List.length (catV w L k)) + (lenV (List.getD L k undef))) ((sub (catV w L k) (0 : Nat) (List.length (catV w L k))) ++ (sub (contV w (List.getD L k undef)) (0 : Nat) (lenV (List.getD L k undef))))]⟩ : Option Blk) = some ⟨true, [.ints .u8 (List.length (catV w L (k + (1 : Nat)))) (catV w L (k + (1 : Nat)))]⟩), ((.o (.a (.rs 4 0 ((List.length (catV w L k)) + (lenV (List.getD L k undef))) 1)) : AV) = .o (.a (.rs 4 0 (List.length (catV w L (k + (1 : Nat)))) 1))), ((((0 : Nat) + (List.length (catV w L k))) ≤ (List.length (catV w L k))) ∧ (((lenV (List.getD L k undef)) ≤ (lenV (List.getD L k undef))) ∧ (((0 : Nat) + (lenV (List.getD L k undef))) ≤ (lenV (List.getD L k undef)))) ∧ ((((List.length (catV w L k)) + (lenV (List.getD L k undef))) * (1 : Nat)) ≤ (140737488355328 : Nat))), ((k < n) ∧ (ImpOk ⟨w, [], 1, β⟩ (List.getD L k undef) .u8 (lenV (List.getD L k undef)) (capV (List.getD L k undef)) (contV w (List.getD L k undef)))), (((0 : Int) ≤ ((k : Nat) : Int)) ∧ (((k : Nat) : Int) < ((n : Nat) : Int))), ((decide (((k : Nat) : Int) < ((n : Nat) : Int))) = true)]) (by kernel_rfl)
    (aC ((by rw [catV_app hP hk, catV_len hP hk])) (aC ((by rw [catV_len hP hk])) (aC ⟨(by have hs1 := hP.lt (i := k + 1) hk; have hl := hP.llt hk; have hz := catV_len hP hk; have hs := hP.lt (i := k) (by omega); first | omega | (simp (disch := omega) only [wrapI]; omega)), ⟨(by have hs1 := hP.lt (i := k + 1) hk; have hl := hP.llt hk; have hz := catV_len hP hk; have hs := hP.lt (i := k) (by omega); first | omega | (simp (disch := omega) only [wrapI]; omega)), (by have hs1 := hP.lt (i := k + 1) hk; have hl := hP.llt hk; have hz := catV_len hP hk; have hs := hP.lt (i := k) (by omega); first | omega | (simp (disch := omega) only [wrapI]; omega))⟩, (by have hs1 := hP.lt (i := k + 1) hk; have hl := hP.llt hk; have hz := catV_len hP hk; have hs := hP.lt (i := k) (by omega); first | omega | (simp (disch := omega) only [wrapI]; omega))⟩ (aC ⟨(by have hs1 := hP.lt (i := k + 1) hk; have hl := hP.llt hk; have hz := catV_len hP hk; have hs := hP.lt (i := k) (by omega); first | omega | (simp (disch := omega) only [wrapI]; omega)), ((hP.imp k hk _ _))⟩ (aC ⟨(by have hs1 := hP.lt (i := k + 1) hk; have hl := hP.llt hk; have hz := catV_len hP hk; have hs := hP.lt (i := k) (by omega); first | omega | (simp (disch := omega) only [wrapI]; omega)), (by have hs1 := hP.lt (i := k + 1) hk; have hl := hP.llt hk; have hz := catV_len hP hk; have hs := hP.lt (i := k) (by omega); first | omega | (simp (disch := omega) only [wrapI]; omega))⟩ (aC (decide_eq_true (by have hs1 := hP.lt (i := k + 1) hk; have hl := hP.llt hk; have hz := catV_len hP hk; have hs := hP.lt (i := k) (by omega); first | omega | (simp (disch := omega) only [wrapI]; omega))) (AllP_nil)))))))
  rw [e0] at h
  exact h

set_option maxHeartbeats 1000000 in
theorem rjL_last (w : World) (n : Nat) (L : List Value) (cap0 : Nat) (h0 : (n < (70368744177664 : Nat))) (β : Env) (hP : PartsOk w L n) (s : Unit) : Run Try.prog ⟨w, [], 1, β⟩ (loopB Try.f14 0) (rjL_mk w n L cap0 n s) (To ⟨w, [], 1, β⟩ (.exit 0) (rjL_mk w n L cap0 n s)) :=
  Run.of_outTAt (B := ⟨w, [], 1, β⟩) (Λ := noLam) (Ψ := noPsi) (fuel := 0) (ora := [false]) (l := [.forget [0, 2, 3, 4] 3]) mix tabOkUC (gimp_ok (t := 22) (mk := mkS ⟨w, [], 1, β⟩ .u8) (gam601_ok.at _ _) fun v m => mkS_ok v m)
    (vc := [((decide (((n : Nat) : Int) < ((n : Nat) : Int))) = false)]) (by kernel_rfl)
    (aC (decide_eq_false (by omega)) (AllP_nil))

theorem rjL_loop (w : World) (n : Nat) (L : List Value) (cap0 : Nat) (h0 : (n < (70368744177664 : Nat))) (β : Env) (hP : PartsOk w L n) (s : Unit) : Run Try.prog ⟨w, [], 1, β⟩ (.block 0 (.loop (loopB Try.f14 0))) (rjL_mk w n L cap0 0 s) (To ⟨w, [], 1, β⟩ .normal (rjL_mk w n L cap0 n (iter (rjL_step) n s))) :=
  Run.count (fun k => rjL_mk w n L cap0 k (iter (rjL_step) k s)) n (fun k hk => rjL_round w n L cap0 h0 β hP k hk _) (ex := (.exit 0)) (by simp) (rjL_last w n L cap0 h0 β hP _)

def rjoinP (w : World) (n : Nat) (L : List Value) : List Int :=
  (shaD (catV w L n))

set_option maxHeartbeats 1000000 in
theorem rjoinP_body0 (w : World) (n : Nat) (L : List Value) (cap0 : Nat) (h0 : (n < (70368744177664 : Nat))) (β : Env) (hP : PartsOk w L n) : Body Try.prog (tabOf tabUC) Try.f14 ⟨w, [], 1, β⟩ [.o (.a (.sl 0 0 n cap0))] [some ⟨false, [.vals n L]⟩] (fun ys _ => ys = [.g [.ints .u8 (64 : Nat) (rjoinP w n L)]]) :=
  Body.of_finAt (Γ := (gimp 22 (mkS ⟨w, [], 1, β⟩ .u8) gam601)) (Λ := lamOf [(0, ⟨[.rowS 3 .u8 1, .forget [0, 2, 3, 4] 3], .normal, (rjL_mk w n L cap0 n (iter (rjL_step) n ()))⟩)]) (Ψ := noPsi) (fuel := 0) (m := 19) (c := (Try.f14.body.getD .skip)) mix tabOkUC (gimp_ok (t := 22) (mk := mkS ⟨w, [], 1, β⟩ .u8) (gam601_ok.at _ _) fun v m => mkS_ok v m) rfl (rs := [.cell 2 42]) rfl rfl [] [.eqB 1 (⟨true, [.ints .u8 (64 : Nat) (shaD (catV w L n))]⟩)]
    (vc := [((some ⟨true, [.ints .u8 (64 : Nat) (sumR (List.length (catV w L n)) (sub (catV w L n) (0 : Nat) (List.length (catV w L n))))]⟩ : Option Blk) = some ⟨true, [.ints .u8 (64 : Nat) (shaD (catV w L n))]⟩), (((((0 : Nat) + (List.length (catV w L n))) ≤ (List.length (catV w L n))) ∧ True) ∧ (((List.length (catV w L n)) = (List.length (catV w L n))) ∧ ((List.length (catV w L n)) < (70368744177664 : Nat)))), (Run Try.prog ⟨w, [], 1, β⟩ (.block 0 (.loop (loopB Try.f14 0))) (rjL_mk w n L cap0 0 ()) (To ⟨w, [], 1, β⟩ .normal (rjL_mk w n L cap0 n (iter (rjL_step) n ()))))]) (by kernel_rfl)
    (aC ((by rw [sumR_key rfl hP.small])) (aC ⟨⟨(by have hs := hP.small; first | omega | (simp (disch := omega) only [wrapI]; omega)), trivial⟩, ⟨rfl, (by have hs := hP.small; first | omega | (simp (disch := omega) only [wrapI]; omega))⟩⟩ (aC (rjL_loop w n L cap0 h0 β hP ()) (AllP_nil))))

theorem rjoinP_body (w : World) (n : Nat) (L : List Value) (cap0 : Nat) (h0 : (n < (70368744177664 : Nat))) (β : Env) (hP : PartsOk w L n) : Body Try.prog (tabOf tabUC) Try.f14 ⟨w, [], 1, β⟩ [.o (.a (.sl 0 0 n cap0))] [some ⟨false, [.vals n L]⟩] (fun ys _ => ys = [.g [.ints .u8 (64 : Nat) (rjoinP w n L)]]) :=
  Body.lens (c := (Try.f14.body.getD .skip)) rfl fun h => rjoinP_body0 w n L cap0 h0  β hP

def grjoin (w0 : World) (rw : List Nat) (rest : Gam) : Gam := gparts 14 [] w0 rw (fun vs args m D => match vs, args with | [], [] => some (m < 70368744177664, .g [.ints .u8 64 (shaD D)]) | _, _ => none) rest
theorem grjoin_ok {rest : Gam} {w0 : World} {rw : List Nat} (hr : GamAt Try.prog rest w0 rw) : GamAt Try.prog (grjoin w0 rw rest) w0 rw := gparts_ok tabOkUC Try.func14 Try.call14 hr (by
  intro vs args m D p y h hv
  split at h
  · simp only [Option.some.injEq, Prod.mk.injEq] at h; obtain ⟨rfl, rfl⟩ := h
    refine ⟨rfl, fun caps cap L w β _ hP hD => ?_⟩
    subst hD
    exact rjoinP_body w m L cap hv β hP
  · simp at h)

end Go.Proofs.Ytepimglipelpmaa.X

/- Printed by a tool of this session. -/
namespace Go.Proofs.Ytepimglipelpmaa.X
open Go Go.Proofs
set_option linter.unusedVariables false
set_option linter.unusedSimpArgs false
set_option maxRecDepth 100000
theorem teUE_5 : TEOk Try.prog 5 ⟨.int .u8, 1, 1, [.i .u8 (0 : Int)], false⟩ :=
  TEOk.of Try.underlying5 (i := Try.t5) (by kernel_rfl) rfl rfl rfl (by kernel_rfl) (fun h => by cases h) (by kernel_rfl)
theorem teUE_22 : TEOk Try.prog 22 ⟨.slice 5, 1, 24, [.raw (.slice none 0 0)], false⟩ :=
  TEOk.of Try.underlying22 (i := Try.t22) (by kernel_rfl) rfl rfl rfl (by kernel_rfl) (fun h => by cases h) (by kernel_rfl)
theorem teUE_42 : TEOk Try.prog 42 ⟨.array 64 5, 64, 64, [.ints .u8 (64 : Nat) ([0, 0, 0, 0, 0, 0, 0, 0, 0, 0, 0, 0, 0, 0, 0, 0, 0, 0, 0, 0, 0, 0, 0, 0, 0, 0, 0, 0, 0, 0, 0, 0, 0, 0, 0, 0, 0, 0, 0, 0, 0, 0, 0, 0, 0, 0, 0, 0, 0, 0, 0, 0, 0, 0, 0, 0, 0, 0, 0, 0, 0, 0, 0, 0] : List Int)], true⟩ :=
  TEOk.of Try.underlying42 (i := Try.t42) (by kernel_rfl) rfl rfl rfl (by kernel_rfl) (fun _ => Try.eqGuardType42) (by kernel_rfl)
theorem teUE_47 : TEOk Try.prog 47 ⟨.array 32 5, 32, 32, [.ints .u8 (32 : Nat) ([0, 0, 0, 0, 0, 0, 0, 0, 0, 0, 0, 0, 0, 0, 0, 0, 0, 0, 0, 0, 0, 0, 0, 0, 0, 0, 0, 0, 0, 0, 0, 0] : List Int)], true⟩ :=
  TEOk.of Try.underlying47 (i := Try.t47) (by kernel_rfl) rfl rfl rfl (by kernel_rfl) (fun _ => Try.eqGuardType47) (by kernel_rfl)
noncomputable def tabUE : List (Nat × TE) := [(5, ⟨.int .u8, 1, 1, [.i .u8 (0 : Int)], false⟩), (22, ⟨.slice 5, 1, 24, [.raw (.slice none 0 0)], false⟩), (42, ⟨.array 64 5, 64, 64, [.ints .u8 (64 : Nat) ([0, 0, 0, 0, 0, 0, 0, 0, 0, 0, 0, 0, 0, 0, 0, 0, 0, 0, 0, 0, 0, 0, 0, 0, 0, 0, 0, 0, 0, 0, 0, 0, 0, 0, 0, 0, 0, 0, 0, 0, 0, 0, 0, 0, 0, 0, 0, 0, 0, 0, 0, 0, 0, 0, 0, 0, 0, 0, 0, 0, 0, 0, 0, 0] : List Int)], true⟩), (47, ⟨.array 32 5, 32, 32, [.ints .u8 (32 : Nat) ([0, 0, 0, 0, 0, 0, 0, 0, 0, 0, 0, 0, 0, 0, 0, 0, 0, 0, 0, 0, 0, 0, 0, 0, 0, 0, 0, 0, 0, 0, 0, 0] : List Int)], true⟩)]
theorem tabOkUE : TabOk Try.prog (tabOf tabUE) := (tabOf_cons teUE_5 (tabOf_cons teUE_22 (tabOf_cons teUE_42 (tabOf_cons teUE_47 tabOf_nil))))

def shortP (w : World) (n : Nat) (L : List Value) : List Int :=
  (shaH (catV w L n))

set_option maxHeartbeats 1000000 in
theorem shortP_body0 (w : World) (n : Nat) (L : List Value) (cap0 : Nat) (h0 : (n < (70368744177664 : Nat))) (β : Env) (hP : PartsOk w L n) : Body Try.prog (tabOf tabUE) Try.f15 ⟨w, [], 1, β⟩ [.o (.a (.sl 0 0 n cap0))] [some ⟨false, [.vals n L]⟩] (fun ys _ => ys = [.g [.ints .u8 (32 : Nat) (shortP w n L)]]) :=
  Body.of_finAt (Γ := (gjoin w [] gam17)) (Λ := noLam) (Ψ := noPsi) (fuel := 0) (m := 9) (c := (Try.f15.body.getD .skip)) mix tabOkUE (gjoin_ok (gam17_ok.at _ _)) rfl (rs := [.cell 2 47]) rfl rfl [] [.eqB 1 (⟨true, [.ints .u8 (32 : Nat) (shaH (catV w L n))]⟩)]
    (vc := [((some ⟨true, [.ints .u8 (32 : Nat) (sub (shaD ((catV w L n) ++ ([] : List Int))) (0 : Nat) (32 : Nat))]⟩ : Option Blk) = some ⟨true, [.ints .u8 (32 : Nat) (shaH (catV w L n))]⟩), ((32 : Nat) ≤ (64 : Nat)), ((32 : Nat) ≤ (32 : Nat)), (((0 : Int) ≤ (0 : Int)) ∧ ((0 : Int) ≤ (32 : Int)) ∧ ((32 : Int) ≤ (64 : Int))), ((n = n) ∧ ((PartsR w [] L n) ∧ True) ∧ ((List.length ((catV w L n) ++ ([] : List Int))) < (70368744177664 : Nat)) ∧ True ∧ (n < (70368744177664 : Nat)))]) (by kernel_rfl)
    (aC ((by first | rw [List.append_nil, shaH_a] | rw [List.append_nil, shaH_b] | (rw [List.append_nil]; rfl))) (aC (by decide) (aC (by decide) (aC ⟨(by decide), (by decide), (by decide)⟩ (aC ⟨rfl, ⟨(hP), trivial⟩, (by have hs := hP.small; first | omega | (rw [List.append_nil]; omega)), trivial, h0⟩ (AllP_nil))))))

theorem shortP_body (w : World) (n : Nat) (L : List Value) (cap0 : Nat) (h0 : (n < (70368744177664 : Nat))) (β : Env) (hP : PartsOk w L n) : Body Try.prog (tabOf tabUE) Try.f15 ⟨w, [], 1, β⟩ [.o (.a (.sl 0 0 n cap0))] [some ⟨false, [.vals n L]⟩] (fun ys _ => ys = [.g [.ints .u8 (32 : Nat) (shortP w n L)]]) :=
  Body.lens (c := (Try.f15.body.getD .skip)) rfl fun h => shortP_body0 w n L cap0 h0  β hP

def gshort (w0 : World) (rw : List Nat) (rest : Gam) : Gam := gparts 15 [] w0 rw (fun vs args m D => match vs, args with | [], [] => some (m < 70368744177664, .g [.ints .u8 32 (shaH D)]) | _, _ => none) rest
theorem gshort_ok {rest : Gam} {w0 : World} {rw : List Nat} (hr : GamAt Try.prog rest w0 rw) : GamAt Try.prog (gshort w0 rw rest) w0 rw := gparts_ok tabOkUE Try.func15 Try.call15 hr (by
  intro vs args m D p y h hv
  split at h
  · simp only [Option.some.injEq, Prod.mk.injEq] at h; obtain ⟨rfl, rfl⟩ := h
    refine ⟨rfl, fun caps cap L w β _ hP hD => ?_⟩
    subst hD
    exact shortP_body w m L cap hv β hP
  · simp at h)

def rshortP (w : World) (n : Nat) (L : List Value) : List Int :=
  (shaH (catV w L n))

set_option maxHeartbeats 1000000 in
theorem rshortP_body0 (w : World) (n : Nat) (L : List Value) (cap0 : Nat) (h0 : (n < (70368744177664 : Nat))) (β : Env) (hP : PartsOk w L n) : Body Try.prog (tabOf tabUE) Try.f16 ⟨w, [], 1, β⟩ [.o (.a (.sl 0 0 n cap0))] [some ⟨false, [.vals n L]⟩] (fun ys _ => ys = [.g [.ints .u8 (32 : Nat) (rshortP w n L)]]) :=
  Body.of_finAt (Γ := (grjoin w [] gam17)) (Λ := noLam) (Ψ := noPsi) (fuel := 0) (m := 11) (c := (Try.f16.body.getD .skip)) mix tabOkUE (grjoin_ok (gam17_ok.at _ _)) rfl (rs := [.cell 2 47]) rfl rfl [] [.eqB 1 (⟨true, [.ints .u8 (32 : Nat) (shaH (catV w L n))]⟩)]
    (vc := [((some ⟨true, [.ints .u8 (32 : Nat) (splice ([0, 0, 0, 0, 0, 0, 0, 0, 0, 0, 0, 0, 0, 0, 0, 0, 0, 0, 0, 0, 0, 0, 0, 0, 0, 0, 0, 0, 0, 0, 0, 0] : List Int) (0 : Nat) (32 : Nat) (sub (shaD ((catV w L n) ++ ([] : List Int))) (0 : Nat) (32 : Nat)))]⟩ : Option Blk) = some ⟨true, [.ints .u8 (32 : Nat) (shaH (catV w L n))]⟩), ((((32 : Nat) ≤ (32 : Nat)) ∧ ((32 : Nat) ≤ (64 : Nat))) ∧ (okP (some ((32 : Nat) ≤ (32 : Nat))))), (((0 : Int) ≤ (0 : Int)) ∧ ((0 : Int) ≤ (32 : Int)) ∧ ((32 : Int) ≤ (64 : Int))), (((0 : Int) ≤ (0 : Int)) ∧ ((0 : Int) ≤ (32 : Int))), ((n = n) ∧ ((PartsR w [] L n) ∧ True) ∧ ((List.length ((catV w L n) ++ ([] : List Int))) < (70368744177664 : Nat)) ∧ True ∧ (n < (70368744177664 : Nat)))]) (by kernel_rfl)
    (aC ((by first | rw [List.append_nil, shaH_a] | rw [List.append_nil, shaH_b] | (rw [List.append_nil]; rfl))) (aC ⟨⟨(by decide), (by decide)⟩, (show ((32 : Nat) ≤ (32 : Nat)) from (by decide))⟩ (aC ⟨(by decide), (by decide), (by decide)⟩ (aC ⟨(by decide), (by decide)⟩ (aC ⟨rfl, ⟨(hP), trivial⟩, (by have hs := hP.small; first | omega | (rw [List.append_nil]; omega)), trivial, h0⟩ (AllP_nil))))))

theorem rshortP_body (w : World) (n : Nat) (L : List Value) (cap0 : Nat) (h0 : (n < (70368744177664 : Nat))) (β : Env) (hP : PartsOk w L n) : Body Try.prog (tabOf tabUE) Try.f16 ⟨w, [], 1, β⟩ [.o (.a (.sl 0 0 n cap0))] [some ⟨false, [.vals n L]⟩] (fun ys _ => ys = [.g [.ints .u8 (32 : Nat) (rshortP w n L)]]) :=
  Body.lens (c := (Try.f16.body.getD .skip)) rfl fun h => rshortP_body0 w n L cap0 h0  β hP

def grshort (w0 : World) (rw : List Nat) (rest : Gam) : Gam := gparts 16 [] w0 rw (fun vs args m D => match vs, args with | [], [] => some (m < 70368744177664, .g [.ints .u8 32 (shaH D)]) | _, _ => none) rest
theorem grshort_ok {rest : Gam} {w0 : World} {rw : List Nat} (hr : GamAt Try.prog rest w0 rw) : GamAt Try.prog (grshort w0 rw rest) w0 rw := gparts_ok tabOkUE Try.func16 Try.call16 hr (by
  intro vs args m D p y h hv
  split at h
  · simp only [Option.some.injEq, Prod.mk.injEq] at h; obtain ⟨rfl, rfl⟩ := h
    refine ⟨rfl, fun caps cap L w β _ hP hD => ?_⟩
    subst hD
    exact rshortP_body w m L cap hv β hP
  · simp at h)

end Go.Proofs.Ytepimglipelpmaa.X

/- Printed by a tool of this session. -/
namespace Go.Proofs.Ytepimglipelpmaa.X
open Go Go.Proofs
set_option linter.unusedVariables false
set_option linter.unusedSimpArgs false
set_option maxRecDepth 100000
theorem teUF_5 : TEOk Try.prog 5 ⟨.int .u8, 1, 1, [.i .u8 (0 : Int)], false⟩ :=
  TEOk.of Try.underlying5 (i := Try.t5) (by kernel_rfl) rfl rfl rfl (by kernel_rfl) (fun h => by cases h) (by kernel_rfl)
theorem teUF_22 : TEOk Try.prog 22 ⟨.slice 5, 1, 24, [.raw (.slice none 0 0)], false⟩ :=
  TEOk.of Try.underlying22 (i := Try.t22) (by kernel_rfl) rfl rfl rfl (by kernel_rfl) (fun h => by cases h) (by kernel_rfl)
theorem teUF_42 : TEOk Try.prog 42 ⟨.array 64 5, 64, 64, [.ints .u8 (64 : Nat) ([0, 0, 0, 0, 0, 0, 0, 0, 0, 0, 0, 0, 0, 0, 0, 0, 0, 0, 0, 0, 0, 0, 0, 0, 0, 0, 0, 0, 0, 0, 0, 0, 0, 0, 0, 0, 0, 0, 0, 0, 0, 0, 0, 0, 0, 0, 0, 0, 0, 0, 0, 0, 0, 0, 0, 0, 0, 0, 0, 0, 0, 0, 0, 0] : List Int)], true⟩ :=
  TEOk.of Try.underlying42 (i := Try.t42) (by kernel_rfl) rfl rfl rfl (by kernel_rfl) (fun _ => Try.eqGuardType42) (by kernel_rfl)
noncomputable def tabUF : List (Nat × TE) := [(5, ⟨.int .u8, 1, 1, [.i .u8 (0 : Int)], false⟩), (22, ⟨.slice 5, 1, 24, [.raw (.slice none 0 0)], false⟩), (42, ⟨.array 64 5, 64, 64, [.ints .u8 (64 : Nat) ([0, 0, 0, 0, 0, 0, 0, 0, 0, 0, 0, 0, 0, 0, 0, 0, 0, 0, 0, 0, 0, 0, 0, 0, 0, 0, 0, 0, 0, 0, 0, 0, 0, 0, 0, 0, 0, 0, 0, 0, 0, 0, 0, 0, 0, 0, 0, 0, 0, 0, 0, 0, 0, 0, 0, 0, 0, 0, 0, 0, 0, 0, 0, 0] : List Int)], true⟩)]
theorem tabOkUF : TabOk Try.prog (tabOf tabUF) := (tabOf_cons teUF_5 (tabOf_cons teUF_22 (tabOf_cons teUF_42 tabOf_nil)))

set_option maxHeartbeats 1000000 in
theorem alive_body0 (w : World) (rw : List Nat) (β : Env) : Body Try.prog (tabOf tabUF) Try.f18 ⟨w, rw, 0, β⟩ [] [] (fun ys K' => ys = [.a (.b true)] ∧ K' = []) :=
  Body.of_finK (Γ := gam17) (Λ := noLam) (Ψ := noPsi) (fuel := 0) (m := 28) (c := (Try.f18.body.getD .skip)) mix tabOkUF gam17_ok rfl (rs := [.tmp 0]) rfl rfl [true, true, true, true, true, true, true, true, true, true, true, true, true, true, true, true] [.eqS 0 (.o (.a (.b true)))] 0
    (vc := [((.o (.a (.b ((List.getD (sub (join1 (3 : Nat) ([97, 98, 99] : List Int)) (63 : Nat) (1 : Nat)) (0 : Nat) 0) == (159 : Int)))) : AV) = .o (.a (.b true))), (((List.getD (sub (join1 (3 : Nat) ([97, 98, 99] : List Int)) (7 : Nat) (1 : Nat)) (0 : Nat) 0) == (186 : Int)) = true), (((List.getD (sub (join1 (3 : Nat) ([97, 98, 99] : List Int)) (7 : Nat) (1 : Nat)) (0 : Nat) 0) == (186 : Int)) = true), (((List.getD (sub (join1 (3 : Nat) ([97, 98, 99] : List Int)) (7 : Nat) (1 : Nat)) (0 : Nat) 0) == (186 : Int)) = true), (((List.getD (sub (join1 (3 : Nat) ([97, 98, 99] : List Int)) (7 : Nat) (1 : Nat)) (0 : Nat) 0) == (186 : Int)) = true), (((List.getD (sub (join1 (3 : Nat) ([97, 98, 99] : List Int)) (2 : Nat) (1 : Nat)) (0 : Nat) 0) == (53 : Int)) = true), (((List.getD (sub (join1 (3 : Nat) ([97, 98, 99] : List Int)) (2 : Nat) (1 : Nat)) (0 : Nat) 0) == (53 : Int)) = true), (((List.getD (sub (join1 (3 : Nat) ([97, 98, 99] : List Int)) (2 : Nat) (1 : Nat)) (0 : Nat) 0) == (53 : Int)) = true), (((List.getD (sub (join1 (3 : Nat) ([97, 98, 99] : List Int)) (2 : Nat) (1 : Nat)) (0 : Nat) 0) == (53 : Int)) = true), (((List.getD (sub (join1 (3 : Nat) ([97, 98, 99] : List Int)) (1 : Nat) (1 : Nat)) (0 : Nat) 0) == (175 : Int)) = true), (((List.getD (sub (join1 (3 : Nat) ([97, 98, 99] : List Int)) (1 : Nat) (1 : Nat)) (0 : Nat) 0) == (175 : Int)) = true), (((List.getD (sub (join1 (3 : Nat) ([97, 98, 99] : List Int)) (1 : Nat) (1 : Nat)) (0 : Nat) 0) == (175 : Int)) = true), (((List.getD (sub (join1 (3 : Nat) ([97, 98, 99] : List Int)) (1 : Nat) (1 : Nat)) (0 : Nat) 0) == (175 : Int)) = true), (((List.getD (sub (join1 (3 : Nat) ([97, 98, 99] : List Int)) (0 : Nat) (1 : Nat)) (0 : Nat) 0) == (221 : Int)) = true), (((List.getD (sub (join1 (3 : Nat) ([97, 98, 99] : List Int)) (0 : Nat) (1 : Nat)) (0 : Nat) 0) == (221 : Int)) = true), (((List.getD (sub (join1 (3 : Nat) ([97, 98, 99] : List Int)) (0 : Nat) (1 : Nat)) (0 : Nat) 0) == (221 : Int)) = true), (((List.getD (sub (join1 (3 : Nat) ([97, 98, 99] : List Int)) (0 : Nat) (1 : Nat)) (0 : Nat) 0) == (221 : Int)) = true), ((((3 : Nat) ≤ (3 : Nat)) ∧ True) ∧ (((3 : Nat) = (3 : Nat)) ∧ ((3 : Nat) < (140737488355328 : Nat)))), ((0 : Nat) < (3 : Nat))]) (by kernel_rfl)
    (aC ((by kernel_rfl)) (aC (by kernel_rfl) (aC (by kernel_rfl) (aC (by kernel_rfl) (aC (by kernel_rfl) (aC (by kernel_rfl) (aC (by kernel_rfl) (aC (by kernel_rfl) (aC (by kernel_rfl) (aC (by kernel_rfl) (aC (by kernel_rfl) (aC (by kernel_rfl) (aC (by kernel_rfl) (aC (by kernel_rfl) (aC (by kernel_rfl) (aC (by kernel_rfl) (aC (by kernel_rfl) (aC ⟨⟨(by decide), trivial⟩, ⟨rfl, (by decide)⟩⟩ (aC (by decide) (AllP_nil))))))))))))))))))))

end Go.Proofs.Ytepimglipelpmaa.X

