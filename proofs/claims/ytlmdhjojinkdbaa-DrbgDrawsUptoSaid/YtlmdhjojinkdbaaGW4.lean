/- Texts of this session, put together (part 4), less what nothing uses. -/
import Derived.Test.YtlmdhjojinkdbaaGW3
import Derived.KernelRfl
import Derived.WalkKit
import Derived.ProofKit
import Derived.OpenShut
import Derived.JoinedCond
import Derived.Carry
/- Printed by a tool of this session. -/
namespace Go.Proofs.Ytlmdhjojinkdbaa.X
open Go Go.Proofs
set_option linter.unusedVariables false
set_option linter.unusedSimpArgs false
set_option maxRecDepth 100000
theorem teDE_5 : TEOk Try.prog 5 ⟨.int .u8, 1, 1, [.i .u8 (0 : Int)], false⟩ :=
  TEOk.of Try.underlying5 (i := Try.t5) (by kernel_rfl) rfl rfl rfl (by kernel_rfl) (fun h => by cases h) (by kernel_rfl)
theorem teDE_22 : TEOk Try.prog 22 ⟨.slice 5, 1, 24, [.raw (.slice none 0 0)], false⟩ :=
  TEOk.of Try.underlying22 (i := Try.t22) (by kernel_rfl) rfl rfl rfl (by kernel_rfl) (fun h => by cases h) (by kernel_rfl)
theorem teDE_23 : TEOk Try.prog 23 ⟨.slice 22, 1, 24, [.raw (.slice none 0 0)], false⟩ :=
  TEOk.of Try.underlying23 (i := Try.t23) (by kernel_rfl) rfl rfl rfl (by kernel_rfl) (fun h => by cases h) (by kernel_rfl)
theorem teDE_32 : TEOk Try.prog 32 ⟨.array 64 5, 64, 64, [.ints .u8 64 (List.replicate 64 0)], true⟩ :=
  TEOk.of Try.underlying32 (i := Try.t32) (by kernel_rfl) rfl rfl rfl (by kernel_rfl) (fun _ => Try.eqGuardType32) (by kernel_rfl)
theorem teDE_101 : TEOk Try.prog 101 ⟨.array 128 5, 128, 128, [.ints .u8 (128 : Nat) (List.replicate (128 : Nat) (0 : Int))], true⟩ :=
  TEOk.of Try.underlying101 (i := Try.t101) (by kernel_rfl) rfl rfl rfl (by kernel_rfl) (fun _ => Try.eqGuardType101) (by kernel_rfl)
noncomputable def tabDE : List (Nat × TE) := [(5, ⟨.int .u8, 1, 1, [.i .u8 (0 : Int)], false⟩), (22, ⟨.slice 5, 1, 24, [nlA], false⟩), (23, ⟨.slice 22, 1, 24, [nlA], false⟩), (32, ⟨.array 64 5, 64, 64, [.ints .u8 64 (List.replicate 64 0)], true⟩), (101, ⟨.array 128 5, 128, 128, [.ints .u8 128 (List.replicate 128 (0 : Int))], true⟩)]
theorem tabOkDE : TabOk Try.prog (tabOf tabDE) := (tabOf_cons teDE_5 (tabOf_cons teDE_22 (tabOf_cons teDE_23 (tabOf_cons teDE_32 (tabOf_cons teDE_101 tabOf_nil)))))

def mac01L_mk (w : World) (kn : Nat) (key : List Int) (L : List Value) (cap0 cap1 k : Nat) (s : Unit) : St := ⟨sparse 45 [(0, .o (.a (.sl 0 0 kn cap0))), (1, .o (.a (.sl 1 0 0 cap1))), (4, .o (.a (.p 2 0))), (5, .o (.a (.p 3 0))), (6, .o (.a (.p 4 0))), (10, .o (.a (.sl 0 0 kn cap0))), (11, .o (.a (.i .i64 ((kn : Nat) : Int)))), (12, .o (.a (.b (decide (((kn : Nat) : Int) > (128 : Int)))))), (16, .o (.a (.sl 3 0 128 128))), (17, .o (.a (.sl 0 0 kn cap0))), (19, .o (.a (.sl 4 0 128 128))), (20, .o (.a (.sl 0 0 kn cap0))), (22, .o (.a (.i .i64 ((k : Nat) : Int))))], [some ⟨false, [.ints .u8 kn key]⟩, some ⟨false, [.vals 0 L]⟩, some ⟨true, [.ints .u8 64 (List.replicate 64 0)]⟩, some ⟨true, [.ints .u8 128 (xk (54 : Int) (pk key) k)]⟩, some ⟨true, [.ints .u8 128 (xk (92 : Int) (pk key) k)]⟩]⟩

def mac01L_step (k : Nat) (s : Unit) : Unit :=
  ()

set_option maxHeartbeats 1000000 in
theorem mac01L_round (w : World) (kn : Nat) (key : List Int) (L : List Value) (cap0 cap1 : Nat) (h0 : (kn < 70368744177664)) (h1 : (cN 1 4398046511104)) (h2 : (((List.length (catV w L 0)) + 128) < 70368744177664)) (hl0_0 : List.length key = kn) (hkn : kn ≤ 128) (β : Env) (hP : PartsOk w L 0) (hL : L.length = 0) (k : Nat) (hk : k < 128) (s : Unit) : Run Try.prog ⟨w, [], 2, β⟩ (loopB Try.f14 0) (mac01L_mk w kn key L cap0 cap1 k s) (To ⟨w, [], 2, β⟩ .normal (mac01L_mk w kn key L cap0 cap1 (k + 1) (mac01L_step k s))) := by
  have e0 : (List.set (xk (54 : Int) (pk key) k) k (bits2 .xor .u8 (List.getD (xk (54 : Int) (pk key) k) k 0) (54 : Int))) = (xk (54 : Int) (pk key) (k + (1 : Nat))) := (by first | exact wrap_succ (by omega) | exact xk_step (by rw [pk_len]; omega))
  have e1 : (List.set (xk (92 : Int) (pk key) k) k (bits2 .xor .u8 (List.getD (xk (92 : Int) (pk key) k) k 0) (92 : Int))) = (xk (92 : Int) (pk key) (k + (1 : Nat))) := (by first | exact wrap_succ (by omega) | exact xk_step (by rw [pk_len]; omega))
  have e2 : (IntKind.i64.wrap (((k : Nat) : Int) + (1 : Int))) = (((k + (1 : Nat)) : Nat) : Int) := (by first | exact wrap_succ (by omega) | exact xk_step (by rw [pk_len]; omega))
  have h := Run.of_outTAt (B := ⟨w, [], 2, β⟩) (Λ := noLam) (Ψ := noPsi) (fuel := 0) (ora := [true]) (c := (loopB Try.f14 0)) (st := (mac01L_mk w kn key L cap0 cap1 k s)) (l := [.forget [0, 1, 4, 5, 6, 10, 11, 12, 16, 17, 19, 20, 22] 5]) (s' := ⟨sparse 45 [(0, .o (.a (.sl 0 0 kn cap0))), (1, .o (.a (.sl 1 0 0 cap1))), (4, .o (.a (.p 2 0))), (5, .o (.a (.p 3 0))), (6, .o (.a (.p 4 0))), (10, .o (.a (.sl 0 0 kn cap0))), (11, .o (.a (.i .i64 ((kn : Nat) : Int)))), (12, .o (.a (.b (decide (((kn : Nat) : Int) > (128 : Int)))))), (16, .o (.a (.sl 3 0 128 128))), (17, .o (.a (.sl 0 0 kn cap0))), (19, .o (.a (.sl 4 0 128 128))), (20, .o (.a (.sl 0 0 kn cap0))), (22, .o (.a (.i .i64 (IntKind.i64.wrap (((k : Nat) : Int) + (1 : Int))))))], [some ⟨false, [.ints .u8 kn key]⟩, some ⟨false, [.vals 0 L]⟩, some ⟨true, [.ints .u8 64 (List.replicate 64 0)]⟩, some ⟨true, [.ints .u8 128 (List.set (xk (54 : Int) (pk key) k) k (bits2 .xor .u8 (List.getD (xk (54 : Int) (pk key) k) k 0) (54 : Int)))]⟩, some ⟨true, [.ints .u8 128 (List.set (xk (92 : Int) (pk key) k) k (bits2 .xor .u8 (List.getD (xk (92 : Int) (pk key) k) k 0) (92 : Int)))]⟩]⟩) (ex := .normal) mix tabOkDE (gjoin_ok (gam17_ok.at _ _))
    (vc := [(k < 128), (((0 : Int) ≤ ((k : Nat) : Int)) ∧ (((k : Nat) : Int) < (128 : Int))), (k < 128), (((0 : Int) ≤ ((k : Nat) : Int)) ∧ (((k : Nat) : Int) < (128 : Int))), (k < 128), (((0 : Int) ≤ ((k : Nat) : Int)) ∧ (((k : Nat) : Int) < (128 : Int))), (k < 128), (((0 : Int) ≤ ((k : Nat) : Int)) ∧ (((k : Nat) : Int) < (128 : Int))), ((decide (((k : Nat) : Int) < (128 : Int))) = true)]) (by kernel_rfl)
    (aC (by first|omega|(simp (disch:=omega) only [wrapI];omega)) (aC ⟨(by first|omega|(simp (disch:=omega) only [wrapI];omega)), (by first|omega|(simp (disch:=omega) only [wrapI];omega))⟩ (aC (by first|omega|(simp (disch:=omega) only [wrapI];omega)) (aC ⟨(by first|omega|(simp (disch:=omega) only [wrapI];omega)), (by first|omega|(simp (disch:=omega) only [wrapI];omega))⟩ (aC (by first|omega|(simp (disch:=omega) only [wrapI];omega)) (aC ⟨(by first|omega|(simp (disch:=omega) only [wrapI];omega)), (by first|omega|(simp (disch:=omega) only [wrapI];omega))⟩ (aC (by first|omega|(simp (disch:=omega) only [wrapI];omega)) (aC ⟨(by first|omega|(simp (disch:=omega) only [wrapI];omega)), (by first|omega|(simp (disch:=omega) only [wrapI];omega))⟩ (aC (decide_eq_true (by first|omega|(simp (disch:=omega) only [wrapI];omega))) (AllP_nil))))))))))
  rw [e0, e1, e2] at h
  exact h

set_option maxHeartbeats 1000000 in
theorem mac01L_last (w : World) (kn : Nat) (key : List Int) (L : List Value) (cap0 cap1 : Nat) (h0 : (kn < 70368744177664)) (h1 : (cN 1 4398046511104)) (h2 : (((List.length (catV w L 0)) + 128) < 70368744177664)) (hl0_0 : List.length key = kn) (hkn : kn ≤ 128) (β : Env) (hP : PartsOk w L 0) (hL : L.length = 0) (s : Unit) : Run Try.prog ⟨w, [], 2, β⟩ (loopB Try.f14 0) (mac01L_mk w kn key L cap0 cap1 128 s) (To ⟨w, [], 2, β⟩ (.exit 0) (mac01L_mk w kn key L cap0 cap1 128 s)) :=
  Run.of_outTAt (B := ⟨w, [], 2, β⟩) (Λ := noLam) (Ψ := noPsi) (fuel := 0) (ora := [false]) (l := [.forget [0, 1, 4, 5, 6, 10, 11, 12, 16, 17, 19, 20, 22] 5]) mix tabOkDE (gjoin_ok (gam17_ok.at _ _))
    (vc := [(false = false)]) (by kernel_rfl)
    (aC rfl (AllP_nil))

theorem mac01L_loop (w : World) (kn : Nat) (key : List Int) (L : List Value) (cap0 cap1 : Nat) (h0 : (kn < 70368744177664)) (h1 : (cN 1 4398046511104)) (h2 : (((List.length (catV w L 0)) + 128) < 70368744177664)) (hl0_0 : List.length key = kn) (hkn : kn ≤ 128) (β : Env) (hP : PartsOk w L 0) (hL : L.length = 0) (s : Unit) : Run Try.prog ⟨w, [], 2, β⟩ (.block 0 (.loop (loopB Try.f14 0))) (mac01L_mk w kn key L cap0 cap1 0 s) (To ⟨w, [], 2, β⟩ .normal (mac01L_mk w kn key L cap0 cap1 128 (iter (mac01L_step) 128 s))) :=
  Run.count (fun k => mac01L_mk w kn key L cap0 cap1 k (iter (mac01L_step) k s)) 128 (fun k hk => mac01L_round w kn key L cap0 cap1 h0 h1 h2 hl0_0 hkn β hP hL k hk _) (ex := (.exit 0)) (by simp) (mac01L_last w kn key L cap0 cap1 h0 h1 h2 hl0_0 hkn β hP hL _)

def mac01 (w : World) (key : List Int) (L : List Value) : List Int :=
  (macD key (catV w L (0 : Nat)))

set_option maxHeartbeats 1000000 in
theorem mac01_body0 (w : World) (kn : Nat) (key : List Int) (L : List Value) (cap0 cap1 : Nat) (h0 : (kn < 70368744177664)) (h1 : (cN 1 4398046511104)) (h2 : (((List.length (catV w L 0)) + 128) < 70368744177664)) (hl0_0 : List.length key = kn) (hkn : kn ≤ 128) (β : Env) (hP : PartsOk w L 0) (hL : L.length = 0) : Body Try.prog (tabOf tabDE) Try.f14 ⟨w, [], 2, β⟩ [.o (.a (.sl 0 0 kn cap0)), .o (.a (.sl 1 0 0 cap1))] [some ⟨false, [.ints .u8 kn key]⟩, some ⟨false, [.vals 0 L]⟩] (fun ys _ => ys = [.g [.ints .u8 64 (mac01 w key L)]]) :=
  Body.of_finAt (Γ := (gjoin w [] gam17)) (Λ := lamOf [(0, ⟨[.forget [0, 1, 4, 5, 6, 10, 11, 12, 16, 17, 19, 20, 22] 5], .normal, (mac01L_mk w kn key L cap0 cap1 128 (iter (mac01L_step) 128 ()))⟩)]) (Ψ := psiOf [(5, [.eqB 3 (⟨true, [.ints .u8 128 (pk key)]⟩)]), (6, [.eqB 4 (⟨true, [.ints .u8 128 (pk key)]⟩)])]) (fuel := 0) (m := 45) (c := (Try.f14.body.getD .skip)) mix tabOkDE (gjoin_ok (gam17_ok.at _ _)) rfl (rs := [.cell 4 32]) rfl rfl [false, true] [.eqB 2 (⟨true, [.ints .u8 64 (macD key (catV w L 0))]⟩)]
    (vc := [((some ⟨true, [.ints .u8 64 (shaD ((sub (xk (92 : Int) (pk key) 128) 0 128) ++ ((sub (shaD ((sub (xk (54 : Int) (pk key) 128) 0 128) ++ ((catV w (sub L 0 0) 0) ++ ([] : List Int)))) 0 64) ++ ([] : List Int))))]⟩ : Option Blk) = some ⟨true, [.ints .u8 64 (macD key (catV w L 0))]⟩), ((2 = 2) ∧ ((128 ≤ 128) ∧ ((64 ≤ 64) ∧ True)) ∧ ((List.length ((sub (xk (92 : Int) (pk key) 128) 0 128) ++ ((sub (shaD ((sub (xk (54 : Int) (pk key) 128) 0 128) ++ ((catV w (sub L 0 0) 0) ++ ([] : List Int)))) 0 64) ++ ([] : List Int)))) < 70368744177664) ∧ True ∧ (cN 2 70368744177664)), ((cZ 0) ∧ (cZ 64)), ((cZ 0) ∧ (cZ 128)), ((1 = 1) ∧ ((128 ≤ 128) ∧ ((PartsR w [] (sub L 0 0) 0) ∧ True)) ∧ ((List.length ((sub (xk (54 : Int) (pk key) 128) 0 128) ++ ((catV w (sub L 0 0) 0) ++ ([] : List Int)))) < 70368744177664) ∧ True ∧ (cN 1 70368744177664)), (((0 ≤ 0) ∧ (0 ≤ 0)) ∧ (okP none) ∧ (1 ≤ 1)), ((cZ 0) ∧ (cZ 128)), (Run Try.prog ⟨w, [], 2, β⟩ (.block 0 (.loop (loopB Try.f14 0))) (mac01L_mk w kn key L cap0 cap1 0 ()) (To ⟨w, [], 2, β⟩ .normal (mac01L_mk w kn key L cap0 cap1 128 (iter (mac01L_step) 128 ())))), ((some ⟨true, [.ints .u8 128 (splice (List.replicate 128 (0 : Int)) 0 (min kn 128) (sub key 0 (min kn 128)))]⟩ : Option Blk) = some ⟨true, [.ints .u8 128 (pk key)]⟩), ((((min kn 128) ≤ kn) ∧ ((0 + (min kn 128)) ≤ kn)) ∧ (okP (some ((0 + (min kn 128)) ≤ 128)))), ((cZ 0) ∧ (cZ 128)), ((some ⟨true, [.ints .u8 128 (splice (List.replicate 128 (0 : Int)) 0 (min kn 128) (sub key 0 (min kn 128)))]⟩ : Option Blk) = some ⟨true, [.ints .u8 128 (pk key)]⟩), ((((min kn 128) ≤ kn) ∧ ((0 + (min kn 128)) ≤ kn)) ∧ (okP (some ((0 + (min kn 128)) ≤ 128)))), ((cZ 0) ∧ (cZ 128)), ((decide (((kn : Nat) : Int) > (128 : Int))) = false)]) (by kernel_rfl)
    (aC ((by rw [mac_out hL])) (aC ⟨rfl, ⟨(dd rfl), ⟨(dd rfl), trivial⟩⟩, (mac_lt2), trivial, (dd rfl)⟩ (aC (dd rfl) (aC (dd rfl) (aC ⟨rfl, ⟨(dd rfl), ⟨((mac_parts hL hP)), trivial⟩⟩, (mac_lt1 hL h2), trivial, (dd rfl)⟩ (aC ⟨(dd rfl), trivial, (dd rfl)⟩ (aC (dd rfl) (aC (mac01L_loop w kn key L cap0 cap1 h0 h1 h2 hl0_0 hkn β hP hL ()) (aC ((by rw [pk_short hl0_0 hkn])) (aC ⟨⟨(by first|omega|(simp (disch:=omega) only [wrapI];omega)), (by first|omega|(simp (disch:=omega) only [wrapI];omega))⟩, (show ((0 + (min kn 128)) ≤ 128) from (by first|omega|(simp (disch:=omega) only [wrapI];omega)))⟩ (aC (dd rfl) (aC ((by rw [pk_short hl0_0 hkn])) (aC ⟨⟨(by first|omega|(simp (disch:=omega) only [wrapI];omega)), (by first|omega|(simp (disch:=omega) only [wrapI];omega))⟩, (show ((0 + (min kn 128)) ≤ 128) from (by first|omega|(simp (disch:=omega) only [wrapI];omega)))⟩ (aC (dd rfl) (aC (decide_eq_false (by first|omega|(simp (disch:=omega) only [wrapI];omega))) (AllP_nil))))))))))))))))

def mac00L_mk (w : World) (kn : Nat) (key : List Int) (n : Nat) (L : List Value) (cap0 cap1 k : Nat) (s : Unit) : St := ⟨sparse 45 [(0, .o (.a (.sl 0 0 kn cap0))), (1, .o (.a (.sl 1 0 n cap1))), (4, .o (.a (.p 2 0))), (5, .o (.a (.p 3 0))), (6, .o (.a (.p 4 0))), (10, .o (.a (.sl 0 0 kn cap0))), (11, .o (.a (.i .i64 ((kn : Nat) : Int)))), (12, .o (.a (.b (decide (((kn : Nat) : Int) > (128 : Int)))))), (16, .o (.a (.sl 3 0 128 128))), (17, .o (.a (.sl 0 0 kn cap0))), (19, .o (.a (.sl 4 0 128 128))), (20, .o (.a (.sl 0 0 kn cap0))), (22, .o (.a (.i .i64 ((k : Nat) : Int))))], [some ⟨false, [.ints .u8 kn key]⟩, some ⟨false, [.vals n L]⟩, some ⟨true, [.ints .u8 64 (List.replicate 64 0)]⟩, some ⟨true, [.ints .u8 128 (xk (54 : Int) (pk key) k)]⟩, some ⟨true, [.ints .u8 128 (xk (92 : Int) (pk key) k)]⟩]⟩

def mac00L_step (k : Nat) (s : Unit) : Unit :=
  ()

set_option maxHeartbeats 1000000 in
theorem mac00L_round (w : World) (kn : Nat) (key : List Int) (n : Nat) (L : List Value) (cap0 cap1 : Nat) (h0 : (kn < 70368744177664)) (h1 : ((n + 1) < 4398046511104)) (h2 : (((List.length (catV w L n)) + 128) < 70368744177664)) (hl0_0 : List.length key = kn) (hkn : kn ≤ 128) (hn : 0 < n) (β : Env) (hP : PartsOk w L n) (hL : L.length = n) (k : Nat) (hk : k < 128) (s : Unit) : Run Try.prog ⟨w, [], 2, β⟩ (loopB Try.f14 0) (mac00L_mk w kn key n L cap0 cap1 k s) (To ⟨w, [], 2, β⟩ .normal (mac00L_mk w kn key n L cap0 cap1 (k + 1) (mac00L_step k s))) := by
  have e0 : (List.set (xk (54 : Int) (pk key) k) k (bits2 .xor .u8 (List.getD (xk (54 : Int) (pk key) k) k 0) (54 : Int))) = (xk (54 : Int) (pk key) (k + (1 : Nat))) := (by first | exact wrap_succ (by omega) | exact xk_step (by rw [pk_len]; omega))
  have e1 : (List.set (xk (92 : Int) (pk key) k) k (bits2 .xor .u8 (List.getD (xk (92 : Int) (pk key) k) k 0) (92 : Int))) = (xk (92 : Int) (pk key) (k + (1 : Nat))) := (by first | exact wrap_succ (by omega) | exact xk_step (by rw [pk_len]; omega))
  have e2 : (IntKind.i64.wrap (((k : Nat) : Int) + (1 : Int))) = (((k + (1 : Nat)) : Nat) : Int) := (by first | exact wrap_succ (by omega) | exact xk_step (by rw [pk_len]; omega))
  have h := Run.of_outTAt (B := ⟨w, [], 2, β⟩) (Λ := noLam) (Ψ := noPsi) (fuel := 0) (ora := [true]) (c := (loopB Try.f14 0)) (st := (mac00L_mk w kn key n L cap0 cap1 k s)) (l := [.forget [0, 1, 4, 5, 6, 10, 11, 12, 16, 17, 19, 20, 22] 5]) (s' := ⟨sparse 45 [(0, .o (.a (.sl 0 0 kn cap0))), (1, .o (.a (.sl 1 0 n cap1))), (4, .o (.a (.p 2 0))), (5, .o (.a (.p 3 0))), (6, .o (.a (.p 4 0))), (10, .o (.a (.sl 0 0 kn cap0))), (11, .o (.a (.i .i64 ((kn : Nat) : Int)))), (12, .o (.a (.b (decide (((kn : Nat) : Int) > (128 : Int)))))), (16, .o (.a (.sl 3 0 128 128))), (17, .o (.a (.sl 0 0 kn cap0))), (19, .o (.a (.sl 4 0 128 128))), (20, .o (.a (.sl 0 0 kn cap0))), (22, .o (.a (.i .i64 (IntKind.i64.wrap (((k : Nat) : Int) + (1 : Int))))))], [some ⟨false, [.ints .u8 kn key]⟩, some ⟨false, [.vals n L]⟩, some ⟨true, [.ints .u8 64 (List.replicate 64 0)]⟩, some ⟨true, [.ints .u8 128 (List.set (xk (54 : Int) (pk key) k) k (bits2 .xor .u8 (List.getD (xk (54 : Int) (pk key) k) k 0) (54 : Int)))]⟩, some ⟨true, [.ints .u8 128 (List.set (xk (92 : Int) (pk key) k) k (bits2 .xor .u8 (List.getD (xk (92 : Int) (pk key) k) k 0) (92 : Int)))]⟩]⟩) (ex := .normal) mix tabOkDE (gjoin_ok (gam17_ok.at _ _))
    (vc := [(k < 128), (((0 : Int) ≤ ((k : Nat) : Int)) ∧ (((k : Nat) : Int) < (128 : Int))), (k < 128), (((0 : Int) ≤ ((k : Nat) : Int)) ∧ (((k : Nat) : Int) < (128 : Int))), (k < 128), (((0 : Int) ≤ ((k : Nat) : Int)) ∧ (((k : Nat) : Int) < (128 : Int))), (k < 128), (((0 : Int) ≤ ((k : Nat) : Int)) ∧ (((k : Nat) : Int) < (128 : Int))), ((decide (((k : Nat) : Int) < (128 : Int))) = true)]) (by kernel_rfl)
    (aC (by first|omega|(simp (disch:=omega) only [wrapI];omega)) (aC ⟨(by first|omega|(simp (disch:=omega) only [wrapI];omega)), (by first|omega|(simp (disch:=omega) only [wrapI];omega))⟩ (aC (by first|omega|(simp (disch:=omega) only [wrapI];omega)) (aC ⟨(by first|omega|(simp (disch:=omega) only [wrapI];omega)), (by first|omega|(simp (disch:=omega) only [wrapI];omega))⟩ (aC (by first|omega|(simp (disch:=omega) only [wrapI];omega)) (aC ⟨(by first|omega|(simp (disch:=omega) only [wrapI];omega)), (by first|omega|(simp (disch:=omega) only [wrapI];omega))⟩ (aC (by first|omega|(simp (disch:=omega) only [wrapI];omega)) (aC ⟨(by first|omega|(simp (disch:=omega) only [wrapI];omega)), (by first|omega|(simp (disch:=omega) only [wrapI];omega))⟩ (aC (decide_eq_true (by first|omega|(simp (disch:=omega) only [wrapI];omega))) (AllP_nil))))))))))
  rw [e0, e1, e2] at h
  exact h

set_option maxHeartbeats 1000000 in
theorem mac00L_last (w : World) (kn : Nat) (key : List Int) (n : Nat) (L : List Value) (cap0 cap1 : Nat) (h0 : (kn < 70368744177664)) (h1 : ((n + 1) < 4398046511104)) (h2 : (((List.length (catV w L n)) + 128) < 70368744177664)) (hl0_0 : List.length key = kn) (hkn : kn ≤ 128) (hn : 0 < n) (β : Env) (hP : PartsOk w L n) (hL : L.length = n) (s : Unit) : Run Try.prog ⟨w, [], 2, β⟩ (loopB Try.f14 0) (mac00L_mk w kn key n L cap0 cap1 128 s) (To ⟨w, [], 2, β⟩ (.exit 0) (mac00L_mk w kn key n L cap0 cap1 128 s)) :=
  Run.of_outTAt (B := ⟨w, [], 2, β⟩) (Λ := noLam) (Ψ := noPsi) (fuel := 0) (ora := [false]) (l := [.forget [0, 1, 4, 5, 6, 10, 11, 12, 16, 17, 19, 20, 22] 5]) mix tabOkDE (gjoin_ok (gam17_ok.at _ _))
    (vc := [(false = false)]) (by kernel_rfl)
    (aC rfl (AllP_nil))

theorem mac00L_loop (w : World) (kn : Nat) (key : List Int) (n : Nat) (L : List Value) (cap0 cap1 : Nat) (h0 : (kn < 70368744177664)) (h1 : ((n + 1) < 4398046511104)) (h2 : (((List.length (catV w L n)) + 128) < 70368744177664)) (hl0_0 : List.length key = kn) (hkn : kn ≤ 128) (hn : 0 < n) (β : Env) (hP : PartsOk w L n) (hL : L.length = n) (s : Unit) : Run Try.prog ⟨w, [], 2, β⟩ (.block 0 (.loop (loopB Try.f14 0))) (mac00L_mk w kn key n L cap0 cap1 0 s) (To ⟨w, [], 2, β⟩ .normal (mac00L_mk w kn key n L cap0 cap1 128 (iter (mac00L_step) 128 s))) :=
  Run.count (fun k => mac00L_mk w kn key n L cap0 cap1 k (iter (mac00L_step) k s)) 128 (fun k hk => mac00L_round w kn key n L cap0 cap1 h0 h1 h2 hl0_0 hkn hn β hP hL k hk _) (ex := (.exit 0)) (by simp) (mac00L_last w kn key n L cap0 cap1 h0 h1 h2 hl0_0 hkn hn β hP hL _)

def mac00 (w : World) (key : List Int) (n : Nat) (L : List Value) : List Int :=
  (macD key (catV w L n))

set_option maxHeartbeats 1000000 in
theorem mac00_body0 (w : World) (kn : Nat) (key : List Int) (n : Nat) (L : List Value) (cap0 cap1 : Nat) (h0 : (kn < 70368744177664)) (h1 : ((n + 1) < 4398046511104)) (h2 : (((List.length (catV w L n)) + 128) < 70368744177664)) (hl0_0 : List.length key = kn) (hkn : kn ≤ 128) (hn : 0 < n) (β : Env) (hP : PartsOk w L n) (hL : L.length = n) : Body Try.prog (tabOf tabDE) Try.f14 ⟨w, [], 2, β⟩ [.o (.a (.sl 0 0 kn cap0)), .o (.a (.sl 1 0 n cap1))] [some ⟨false, [.ints .u8 kn key]⟩, some ⟨false, [.vals n L]⟩] (fun ys _ => ys = [.g [.ints .u8 64 (mac00 w key n L)]]) :=
  Body.of_finAt (Γ := (gjoin w [] gam17)) (Λ := lamOf [(0, ⟨[.forget [0, 1, 4, 5, 6, 10, 11, 12, 16, 17, 19, 20, 22] 5], .normal, (mac00L_mk w kn key n L cap0 cap1 128 (iter (mac00L_step) 128 ()))⟩)]) (Ψ := psiOf [(5, [.eqB 3 (⟨true, [.ints .u8 128 (pk key)]⟩)]), (6, [.eqB 4 (⟨true, [.ints .u8 128 (pk key)]⟩)])]) (fuel := 0) (m := 45) (c := (Try.f14.body.getD .skip)) mix tabOkDE (gjoin_ok (gam17_ok.at _ _)) rfl (rs := [.cell 4 32]) rfl rfl [false, false] [.eqB 2 (⟨true, [.ints .u8 64 (macD key (catV w L n))]⟩)]
    (vc := [((some ⟨true, [.ints .u8 64 (shaD ((sub (xk (92 : Int) (pk key) 128) 0 128) ++ ((sub (shaD ((sub (xk (54 : Int) (pk key) 128) 0 128) ++ ((catV w (sub L 0 n) n) ++ ([] : List Int)))) 0 64) ++ ([] : List Int))))]⟩ : Option Blk) = some ⟨true, [.ints .u8 64 (macD key (catV w L n))]⟩), ((2 = 2) ∧ ((128 ≤ 128) ∧ ((64 ≤ 64) ∧ True)) ∧ ((List.length ((sub (xk (92 : Int) (pk key) 128) 0 128) ++ ((sub (shaD ((sub (xk (54 : Int) (pk key) 128) 0 128) ++ ((catV w (sub L 0 n) n) ++ ([] : List Int)))) 0 64) ++ ([] : List Int)))) < 70368744177664) ∧ True ∧ (cN 2 70368744177664)), ((cZ 0) ∧ (cZ 64)), ((cZ 0) ∧ (cZ 128)), (((1 + n) = (1 + n)) ∧ ((128 ≤ 128) ∧ ((PartsR w [] (sub L 0 n) n) ∧ True)) ∧ ((List.length ((sub (xk (54 : Int) (pk key) 128) 0 128) ++ ((catV w (sub L 0 n) n) ++ ([] : List Int)))) < 70368744177664) ∧ True ∧ ((1 + n) < 70368744177664)), (True ∧ ((n ≤ n) ∧ ((0 + n) ≤ n)) ∧ (1 < (1 + n)) ∧ (((1 + n) * 24) ≤ 140737488355328)), ((cZ 0) ∧ (cZ 128)), (Run Try.prog ⟨w, [], 2, β⟩ (.block 0 (.loop (loopB Try.f14 0))) (mac00L_mk w kn key n L cap0 cap1 0 ()) (To ⟨w, [], 2, β⟩ .normal (mac00L_mk w kn key n L cap0 cap1 128 (iter (mac00L_step) 128 ())))), ((some ⟨true, [.ints .u8 128 (splice (List.replicate 128 (0 : Int)) 0 (min kn 128) (sub key 0 (min kn 128)))]⟩ : Option Blk) = some ⟨true, [.ints .u8 128 (pk key)]⟩), ((((min kn 128) ≤ kn) ∧ ((0 + (min kn 128)) ≤ kn)) ∧ (okP (some ((0 + (min kn 128)) ≤ 128)))), ((cZ 0) ∧ (cZ 128)), ((some ⟨true, [.ints .u8 128 (splice (List.replicate 128 (0 : Int)) 0 (min kn 128) (sub key 0 (min kn 128)))]⟩ : Option Blk) = some ⟨true, [.ints .u8 128 (pk key)]⟩), ((((min kn 128) ≤ kn) ∧ ((0 + (min kn 128)) ≤ kn)) ∧ (okP (some ((0 + (min kn 128)) ≤ 128)))), ((cZ 0) ∧ (cZ 128)), ((decide (((kn : Nat) : Int) > (128 : Int))) = false)]) (by kernel_rfl)
    (aC ((by rw [mac_out hL])) (aC ⟨rfl, ⟨(dd rfl), ⟨(dd rfl), trivial⟩⟩, (mac_lt2), trivial, (dd rfl)⟩ (aC (dd rfl) (aC (dd rfl) (aC ⟨rfl, ⟨(dd rfl), ⟨((mac_parts hL hP)), trivial⟩⟩, (mac_lt1 hL h2), trivial, (by first|omega|(simp (disch:=omega) only [wrapI];omega))⟩ (aC ⟨trivial, ⟨(by first|omega|(simp (disch:=omega) only [wrapI];omega)), (by first|omega|(simp (disch:=omega) only [wrapI];omega))⟩, (by first|omega|(simp (disch:=omega) only [wrapI];omega)), (by first|omega|(simp (disch:=omega) only [wrapI];omega))⟩ (aC (dd rfl) (aC (mac00L_loop w kn key n L cap0 cap1 h0 h1 h2 hl0_0 hkn hn β hP hL ()) (aC ((by rw [pk_short hl0_0 hkn])) (aC ⟨⟨(by first|omega|(simp (disch:=omega) only [wrapI];omega)), (by first|omega|(simp (disch:=omega) only [wrapI];omega))⟩, (show ((0 + (min kn 128)) ≤ 128) from (by first|omega|(simp (disch:=omega) only [wrapI];omega)))⟩ (aC (dd rfl) (aC ((by rw [pk_short hl0_0 hkn])) (aC ⟨⟨(by first|omega|(simp (disch:=omega) only [wrapI];omega)), (by first|omega|(simp (disch:=omega) only [wrapI];omega))⟩, (show ((0 + (min kn 128)) ≤ 128) from (by first|omega|(simp (disch:=omega) only [wrapI];omega)))⟩ (aC (dd rfl) (aC (decide_eq_false (by first|omega|(simp (disch:=omega) only [wrapI];omega))) (AllP_nil))))))))))))))))

def mac11L_mk (w : World) (kn : Nat) (key : List Int) (L : List Value) (cap0 cap1 k : Nat) (s : Unit) : St := ⟨sparse 45 [(0, .o (.a (.sl 5 0 64 64))), (1, .o (.a (.sl 1 0 0 cap1))), (4, .o (.a (.p 2 0))), (5, .o (.a (.p 3 0))), (6, .o (.a (.p 4 0))), (7, .o (.a (.p 5 0))), (10, .o (.a (.sl 0 0 kn cap0))), (11, .o (.a (.i .i64 ((kn : Nat) : Int)))), (12, .o (.a (.b (decide (((kn : Nat) : Int) > (128 : Int)))))), (13, .o (.a (.sl 0 0 kn cap0))), (14, .o (.g [.ints .u8 64 (join1 kn (sub key 0 kn))])), (15, .o (.a (.sl 5 0 64 64))), (16, .o (.a (.sl 3 0 128 128))), (17, .o (.a (.sl 5 0 64 64))), (19, .o (.a (.sl 4 0 128 128))), (20, .o (.a (.sl 5 0 64 64))), (22, .o (.a (.i .i64 ((k : Nat) : Int))))], [some ⟨false, [.ints .u8 kn key]⟩, some ⟨false, [.vals 0 L]⟩, some ⟨true, [.ints .u8 64 (List.replicate 64 0)]⟩, some ⟨true, [.ints .u8 128 (xk (54 : Int) (pk key) k)]⟩, some ⟨true, [.ints .u8 128 (xk (92 : Int) (pk key) k)]⟩, some ⟨true, [.ints .u8 64 (shaD key)]⟩]⟩

def mac11L_step (k : Nat) (s : Unit) : Unit :=
  ()

set_option maxHeartbeats 1000000 in
theorem mac11L_round (w : World) (kn : Nat) (key : List Int) (L : List Value) (cap0 cap1 : Nat) (h0 : (kn < 70368744177664)) (h1 : (cN 1 4398046511104)) (h2 : (((List.length (catV w L 0)) + 128) < 70368744177664)) (hl0_0 : List.length key = kn) (hkn : 128 < kn) (β : Env) (hP : PartsOk w L 0) (hL : L.length = 0) (k : Nat) (hk : k < 128) (s : Unit) : Run Try.prog ⟨w, [], 2, β⟩ (loopB Try.f14 0) (mac11L_mk w kn key L cap0 cap1 k s) (To ⟨w, [], 2, β⟩ .normal (mac11L_mk w kn key L cap0 cap1 (k + 1) (mac11L_step k s))) := by
  have e0 : (List.set (xk (54 : Int) (pk key) k) k (bits2 .xor .u8 (List.getD (xk (54 : Int) (pk key) k) k 0) (54 : Int))) = (xk (54 : Int) (pk key) (k + (1 : Nat))) := (by first | exact wrap_succ (by omega) | exact xk_step (by rw [pk_len]; omega))
  have e1 : (List.set (xk (92 : Int) (pk key) k) k (bits2 .xor .u8 (List.getD (xk (92 : Int) (pk key) k) k 0) (92 : Int))) = (xk (92 : Int) (pk key) (k + (1 : Nat))) := (by first | exact wrap_succ (by omega) | exact xk_step (by rw [pk_len]; omega))
  have e2 : (IntKind.i64.wrap (((k : Nat) : Int) + (1 : Int))) = (((k + (1 : Nat)) : Nat) : Int) := (by first | exact wrap_succ (by omega) | exact xk_step (by rw [pk_len]; omega))
  have h := Run.of_outTAt (B := ⟨w, [], 2, β⟩) (Λ := noLam) (Ψ := noPsi) (fuel := 0) (ora := [true]) (c := (loopB Try.f14 0)) (st := (mac11L_mk w kn key L cap0 cap1 k s)) (l := [.forget [0, 1, 4, 5, 6, 7, 10, 11, 12, 13, 14, 15, 16, 17, 19, 20, 22] 6]) (s' := ⟨sparse 45 [(0, .o (.a (.sl 5 0 64 64))), (1, .o (.a (.sl 1 0 0 cap1))), (4, .o (.a (.p 2 0))), (5, .o (.a (.p 3 0))), (6, .o (.a (.p 4 0))), (7, .o (.a (.p 5 0))), (10, .o (.a (.sl 0 0 kn cap0))), (11, .o (.a (.i .i64 ((kn : Nat) : Int)))), (12, .o (.a (.b (decide (((kn : Nat) : Int) > (128 : Int)))))), (13, .o (.a (.sl 0 0 kn cap0))), (14, .o (.g [.ints .u8 64 (join1 kn (sub key 0 kn))])), (15, .o (.a (.sl 5 0 64 64))), (16, .o (.a (.sl 3 0 128 128))), (17, .o (.a (.sl 5 0 64 64))), (19, .o (.a (.sl 4 0 128 128))), (20, .o (.a (.sl 5 0 64 64))), (22, .o (.a (.i .i64 (IntKind.i64.wrap (((k : Nat) : Int) + (1 : Int))))))], [some ⟨false, [.ints .u8 kn key]⟩, some ⟨false, [.vals 0 L]⟩, some ⟨true, [.ints .u8 64 (List.replicate 64 0)]⟩, some ⟨true, [.ints .u8 128 (List.set (xk (54 : Int) (pk key) k) k (bits2 .xor .u8 (List.getD (xk (54 : Int) (pk key) k) k 0) (54 : Int)))]⟩, some ⟨true, [.ints .u8 128 (List.set (xk (92 : Int) (pk key) k) k (bits2 .xor .u8 (List.getD (xk (92 : Int) (pk key) k) k 0) (92 : Int)))]⟩, some ⟨true, [.ints .u8 64 (shaD key)]⟩]⟩) (ex := .normal) mix tabOkDE (gjoin_ok (gam17_ok.at _ _))
    (vc := [(k < 128), (((0 : Int) ≤ ((k : Nat) : Int)) ∧ (((k : Nat) : Int) < (128 : Int))), (k < 128), (((0 : Int) ≤ ((k : Nat) : Int)) ∧ (((k : Nat) : Int) < (128 : Int))), (k < 128), (((0 : Int) ≤ ((k : Nat) : Int)) ∧ (((k : Nat) : Int) < (128 : Int))), (k < 128), (((0 : Int) ≤ ((k : Nat) : Int)) ∧ (((k : Nat) : Int) < (128 : Int))), ((decide (((k : Nat) : Int) < (128 : Int))) = true)]) (by kernel_rfl)
    (aC (by first|omega|(simp (disch:=omega) only [wrapI];omega)) (aC ⟨(by first|omega|(simp (disch:=omega) only [wrapI];omega)), (by first|omega|(simp (disch:=omega) only [wrapI];omega))⟩ (aC (by first|omega|(simp (disch:=omega) only [wrapI];omega)) (aC ⟨(by first|omega|(simp (disch:=omega) only [wrapI];omega)), (by first|omega|(simp (disch:=omega) only [wrapI];omega))⟩ (aC (by first|omega|(simp (disch:=omega) only [wrapI];omega)) (aC ⟨(by first|omega|(simp (disch:=omega) only [wrapI];omega)), (by first|omega|(simp (disch:=omega) only [wrapI];omega))⟩ (aC (by first|omega|(simp (disch:=omega) only [wrapI];omega)) (aC ⟨(by first|omega|(simp (disch:=omega) only [wrapI];omega)), (by first|omega|(simp (disch:=omega) only [wrapI];omega))⟩ (aC (decide_eq_true (by first|omega|(simp (disch:=omega) only [wrapI];omega))) (AllP_nil))))))))))
  rw [e0, e1, e2] at h
  exact h

set_option maxHeartbeats 1000000 in
theorem mac11L_last (w : World) (kn : Nat) (key : List Int) (L : List Value) (cap0 cap1 : Nat) (h0 : (kn < 70368744177664)) (h1 : (cN 1 4398046511104)) (h2 : (((List.length (catV w L 0)) + 128) < 70368744177664)) (hl0_0 : List.length key = kn) (hkn : 128 < kn) (β : Env) (hP : PartsOk w L 0) (hL : L.length = 0) (s : Unit) : Run Try.prog ⟨w, [], 2, β⟩ (loopB Try.f14 0) (mac11L_mk w kn key L cap0 cap1 128 s) (To ⟨w, [], 2, β⟩ (.exit 0) (mac11L_mk w kn key L cap0 cap1 128 s)) :=
  Run.of_outTAt (B := ⟨w, [], 2, β⟩) (Λ := noLam) (Ψ := noPsi) (fuel := 0) (ora := [false]) (l := [.forget [0, 1, 4, 5, 6, 7, 10, 11, 12, 13, 14, 15, 16, 17, 19, 20, 22] 6]) mix tabOkDE (gjoin_ok (gam17_ok.at _ _))
    (vc := [(false = false)]) (by kernel_rfl)
    (aC rfl (AllP_nil))

theorem mac11L_loop (w : World) (kn : Nat) (key : List Int) (L : List Value) (cap0 cap1 : Nat) (h0 : (kn < 70368744177664)) (h1 : (cN 1 4398046511104)) (h2 : (((List.length (catV w L 0)) + 128) < 70368744177664)) (hl0_0 : List.length key = kn) (hkn : 128 < kn) (β : Env) (hP : PartsOk w L 0) (hL : L.length = 0) (s : Unit) : Run Try.prog ⟨w, [], 2, β⟩ (.block 0 (.loop (loopB Try.f14 0))) (mac11L_mk w kn key L cap0 cap1 0 s) (To ⟨w, [], 2, β⟩ .normal (mac11L_mk w kn key L cap0 cap1 128 (iter (mac11L_step) 128 s))) :=
  Run.count (fun k => mac11L_mk w kn key L cap0 cap1 k (iter (mac11L_step) k s)) 128 (fun k hk => mac11L_round w kn key L cap0 cap1 h0 h1 h2 hl0_0 hkn β hP hL k hk _) (ex := (.exit 0)) (by simp) (mac11L_last w kn key L cap0 cap1 h0 h1 h2 hl0_0 hkn β hP hL _)

def mac11 (w : World) (key : List Int) (L : List Value) : List Int :=
  (macD key (catV w L (0 : Nat)))

set_option maxHeartbeats 1000000 in
theorem mac11_body0 (w : World) (kn : Nat) (key : List Int) (L : List Value) (cap0 cap1 : Nat) (h0 : (kn < 70368744177664)) (h1 : (cN 1 4398046511104)) (h2 : (((List.length (catV w L 0)) + 128) < 70368744177664)) (hl0_0 : List.length key = kn) (hkn : 128 < kn) (β : Env) (hP : PartsOk w L 0) (hL : L.length = 0) : Body Try.prog (tabOf tabDE) Try.f14 ⟨w, [], 2, β⟩ [.o (.a (.sl 0 0 kn cap0)), .o (.a (.sl 1 0 0 cap1))] [some ⟨false, [.ints .u8 kn key]⟩, some ⟨false, [.vals 0 L]⟩] (fun ys _ => ys = [.g [.ints .u8 64 (mac11 w key L)]]) :=
  Body.of_finAt (Γ := (gjoin w [] gam17)) (Λ := lamOf [(0, ⟨[.forget [0, 1, 4, 5, 6, 7, 10, 11, 12, 13, 14, 15, 16, 17, 19, 20, 22] 6], .normal, (mac11L_mk w kn key L cap0 cap1 128 (iter (mac11L_step) 128 ()))⟩)]) (Ψ := psiOf [(3, [.eqB 5 (⟨true, [.ints .u8 64 (shaD key)]⟩)]), (5, [.eqB 3 (⟨true, [.ints .u8 128 (pk key)]⟩)]), (6, [.eqB 4 (⟨true, [.ints .u8 128 (pk key)]⟩)])]) (fuel := 0) (m := 45) (c := (Try.f14.body.getD .skip)) mix tabOkDE (gjoin_ok (gam17_ok.at _ _)) rfl (rs := [.cell 4 32]) rfl rfl [true, true] [.eqB 2 (⟨true, [.ints .u8 64 (macD key (catV w L 0))]⟩)]
    (vc := [((some ⟨true, [.ints .u8 64 (shaD ((sub (xk (92 : Int) (pk key) 128) 0 128) ++ ((sub (shaD ((sub (xk (54 : Int) (pk key) 128) 0 128) ++ ((catV w (sub L 0 0) 0) ++ ([] : List Int)))) 0 64) ++ ([] : List Int))))]⟩ : Option Blk) = some ⟨true, [.ints .u8 64 (macD key (catV w L 0))]⟩), ((2 = 2) ∧ ((128 ≤ 128) ∧ ((64 ≤ 64) ∧ True)) ∧ ((List.length ((sub (xk (92 : Int) (pk key) 128) 0 128) ++ ((sub (shaD ((sub (xk (54 : Int) (pk key) 128) 0 128) ++ ((catV w (sub L 0 0) 0) ++ ([] : List Int)))) 0 64) ++ ([] : List Int)))) < 70368744177664) ∧ True ∧ (cN 2 70368744177664)), ((cZ 0) ∧ (cZ 64)), ((cZ 0) ∧ (cZ 128)), ((1 = 1) ∧ ((128 ≤ 128) ∧ ((PartsR w [] (sub L 0 0) 0) ∧ True)) ∧ ((List.length ((sub (xk (54 : Int) (pk key) 128) 0 128) ++ ((catV w (sub L 0 0) 0) ++ ([] : List Int)))) < 70368744177664) ∧ True ∧ (cN 1 70368744177664)), (((0 ≤ 0) ∧ (0 ≤ 0)) ∧ (okP none) ∧ (1 ≤ 1)), ((cZ 0) ∧ (cZ 128)), (Run Try.prog ⟨w, [], 2, β⟩ (.block 0 (.loop (loopB Try.f14 0))) (mac11L_mk w kn key L cap0 cap1 0 ()) (To ⟨w, [], 2, β⟩ .normal (mac11L_mk w kn key L cap0 cap1 128 (iter (mac11L_step) 128 ())))), ((some ⟨true, [.ints .u8 128 (splice (List.replicate 128 (0 : Int)) 0 64 (sub (shaD key) 0 64))]⟩ : Option Blk) = some ⟨true, [.ints .u8 128 (pk key)]⟩), (((64 ≤ 64) ∧ (64 ≤ 64)) ∧ (okP (some (64 ≤ 128)))), ((cZ 0) ∧ (cZ 128)), ((some ⟨true, [.ints .u8 128 (splice (List.replicate 128 (0 : Int)) 0 64 (sub (shaD key) 0 64))]⟩ : Option Blk) = some ⟨true, [.ints .u8 128 (pk key)]⟩), (((64 ≤ 64) ∧ (64 ≤ 64)) ∧ (okP (some (64 ≤ 128)))), ((cZ 0) ∧ (cZ 128)), ((cZ 0) ∧ (cZ 64)), ((some ⟨true, [.ints .u8 64 (join1 kn (sub key 0 kn))]⟩ : Option Blk) = some ⟨true, [.ints .u8 64 (shaD key)]⟩), ((((0 + kn) ≤ kn) ∧ True) ∧ ((kn = kn) ∧ (kn < 140737488355328))), ((decide (((kn : Nat) : Int) > (128 : Int))) = true)]) (by kernel_rfl)
    (aC ((by rw [mac_out hL])) (aC ⟨rfl, ⟨(dd rfl), ⟨(dd rfl), trivial⟩⟩, (mac_lt2), trivial, (dd rfl)⟩ (aC (dd rfl) (aC (dd rfl) (aC ⟨rfl, ⟨(dd rfl), ⟨((mac_parts hL hP)), trivial⟩⟩, (mac_lt1 hL h2), trivial, (dd rfl)⟩ (aC ⟨(dd rfl), trivial, (dd rfl)⟩ (aC (dd rfl) (aC (mac11L_loop w kn key L cap0 cap1 h0 h1 h2 hl0_0 hkn β hP hL ()) (aC ((by rw [pk_long hl0_0 hkn])) (aC ⟨(dd rfl), (show (64 ≤ 128) from (dd rfl))⟩ (aC (dd rfl) (aC ((by rw [pk_long hl0_0 hkn])) (aC ⟨(dd rfl), (show (64 ≤ 128) from (dd rfl))⟩ (aC (dd rfl) (aC (dd rfl) (aC ((by first | rw [sum_key hl0_0 h0] | exact congrArg (fun z => (some (⟨true, [.ints .u8 64 z]⟩ : Blk) : Option Blk)) (sum_key hl0_0 h0))) (aC ⟨⟨(by first|omega|(simp (disch:=omega) only [wrapI];omega)), trivial⟩, ⟨rfl, (by first|omega|(simp (disch:=omega) only [wrapI];omega))⟩⟩ (aC (decide_eq_true (by first|omega|(simp (disch:=omega) only [wrapI];omega))) (AllP_nil)))))))))))))))))))

def mac10L_mk (w : World) (kn : Nat) (key : List Int) (n : Nat) (L : List Value) (cap0 cap1 k : Nat) (s : Unit) : St := ⟨sparse 45 [(0, .o (.a (.sl 5 0 64 64))), (1, .o (.a (.sl 1 0 n cap1))), (4, .o (.a (.p 2 0))), (5, .o (.a (.p 3 0))), (6, .o (.a (.p 4 0))), (7, .o (.a (.p 5 0))), (10, .o (.a (.sl 0 0 kn cap0))), (11, .o (.a (.i .i64 ((kn : Nat) : Int)))), (12, .o (.a (.b (decide (((kn : Nat) : Int) > (128 : Int)))))), (13, .o (.a (.sl 0 0 kn cap0))), (14, .o (.g [.ints .u8 64 (join1 kn (sub key 0 kn))])), (15, .o (.a (.sl 5 0 64 64))), (16, .o (.a (.sl 3 0 128 128))), (17, .o (.a (.sl 5 0 64 64))), (19, .o (.a (.sl 4 0 128 128))), (20, .o (.a (.sl 5 0 64 64))), (22, .o (.a (.i .i64 ((k : Nat) : Int))))], [some ⟨false, [.ints .u8 kn key]⟩, some ⟨false, [.vals n L]⟩, some ⟨true, [.ints .u8 64 (List.replicate 64 0)]⟩, some ⟨true, [.ints .u8 128 (xk (54 : Int) (pk key) k)]⟩, some ⟨true, [.ints .u8 128 (xk (92 : Int) (pk key) k)]⟩, some ⟨true, [.ints .u8 64 (shaD key)]⟩]⟩

def mac10L_step (k : Nat) (s : Unit) : Unit :=
  ()

set_option maxHeartbeats 1000000 in
theorem mac10L_round (w : World) (kn : Nat) (key : List Int) (n : Nat) (L : List Value) (cap0 cap1 : Nat) (h0 : (kn < 70368744177664)) (h1 : ((n + 1) < 4398046511104)) (h2 : (((List.length (catV w L n)) + 128) < 70368744177664)) (hl0_0 : List.length key = kn) (hkn : 128 < kn) (hn : 0 < n) (β : Env) (hP : PartsOk w L n) (hL : L.length = n) (k : Nat) (hk : k < 128) (s : Unit) : Run Try.prog ⟨w, [], 2, β⟩ (loopB Try.f14 0) (mac10L_mk w kn key n L cap0 cap1 k s) (To ⟨w, [], 2, β⟩ .normal (mac10L_mk w kn key n L cap0 cap1 (k + 1) (mac10L_step k s))) := by
  have e0 : (List.set (xk (54 : Int) (pk key) k) k (bits2 .xor .u8 (List.getD (xk (54 : Int) (pk key) k) k 0) (54 : Int))) = (xk (54 : Int) (pk key) (k + (1 : Nat))) := (by first | exact wrap_succ (by omega) | exact xk_step (by rw [pk_len]; omega))
  have e1 : (List.set (xk (92 : Int) (pk key) k) k (bits2 .xor .u8 (List.getD (xk (92 : Int) (pk key) k) k 0) (92 : Int))) = (xk (92 : Int) (pk key) (k + (1 : Nat))) := (by first | exact wrap_succ (by omega) | exact xk_step (by rw [pk_len]; omega))
  have e2 : (IntKind.i64.wrap (((k : Nat) : Int) + (1 : Int))) = (((k + (1 : Nat)) : Nat) : Int) := (by first | exact wrap_succ (by omega) | exact xk_step (by rw [pk_len]; omega))
  have h := Run.of_outTAt (B := ⟨w, [], 2, β⟩) (Λ := noLam) (Ψ := noPsi) (fuel := 0) (ora := [true]) (c := (loopB Try.f14 0)) (st := (mac10L_mk w kn key n L cap0 cap1 k s)) (l := [.forget [0, 1, 4, 5, 6, 7, 10, 11, 12, 13, 14, 15, 16, 17, 19, 20, 22] 6]) (s' := ⟨sparse 45 [(0, .o (.a (.sl 5 0 64 64))), (1, .o (.a (.sl 1 0 n cap1))), (4, .o (.a (.p 2 0))), (5, .o (.a (.p 3 0))), (6, .o (.a (.p 4 0))), (7, .o (.a (.p 5 0))), (10, .o (.a (.sl 0 0 kn cap0))), (11, .o (.a (.i .i64 ((kn : Nat) : Int)))), (12, .o (.a (.b (decide (((kn : Nat) : Int) > (128 : Int)))))), (13, .o (.a (.sl 0 0 kn cap0))), (14, .o (.g [.ints .u8 64 (join1 kn (sub key 0 kn))])), (15, .o (.a (.sl 5 0 64 64))), (16, .o (.a (.sl 3 0 128 128))), (17, .o (.a (.sl 5 0 64 64))), (19, .o (.a (.sl 4 0 128 128))), (20, .o (.a (.sl 5 0 64 64))), (22, .o (.a (.i .i64 (IntKind.i64.wrap (((k : Nat) : Int) + (1 : Int))))))], [some ⟨false, [.ints .u8 kn key]⟩, some ⟨false, [.vals n L]⟩, some ⟨true, [.ints .u8 64 (List.replicate 64 0)]⟩, some ⟨true, [.ints .u8 128 (List.set (xk (54 : Int) (pk key) k) k (bits2 .xor .u8 (List.getD (xk (54 : Int) (pk key) k) k 0) (54 : Int)))]⟩, some ⟨true, [.ints .u8 128 (List.set (xk (92 : Int) (pk key) k) k (bits2 .xor .u8 (List.getD (xk (92 : Int) (pk key) k) k 0) (92 : Int)))]⟩, some ⟨true, [.ints .u8 64 (shaD key)]⟩]⟩) (ex := .normal) mix tabOkDE (gjoin_ok (gam17_ok.at _ _))
    (vc := [(k < 128), (((0 : Int) ≤ ((k : Nat) : Int)) ∧ (((k : Nat) : Int) < (128 : Int))), (k < 128), (((0 : Int) ≤ ((k : Nat) : Int)) ∧ (((k : Nat) : Int) < (128 : Int))), (k < 128), (((0 : Int) ≤ ((k : Nat) : Int)) ∧ (((k : Nat) : Int) < (128 : Int))), (k < 128), (((0 : Int) ≤ ((k : Nat) : Int)) ∧ (((k : Nat) : Int) < (128 : Int))), ((decide (((k : Nat) : Int) < (128 : Int))) = true)]) (by kernel_rfl)
    (aC (by first|omega|(simp (disch:=omega) only [wrapI];omega)) (aC ⟨(by first|omega|(simp (disch:=omega) only [wrapI];omega)), (by first|omega|(simp (disch:=omega) only [wrapI];omega))⟩ (aC (by first|omega|(simp (disch:=omega) only [wrapI];omega)) (aC ⟨(by first|omega|(simp (disch:=omega) only [wrapI];omega)), (by first|omega|(simp (disch:=omega) only [wrapI];omega))⟩ (aC (by first|omega|(simp (disch:=omega) only [wrapI];omega)) (aC ⟨(by first|omega|(simp (disch:=omega) only [wrapI];omega)), (by first|omega|(simp (disch:=omega) only [wrapI];omega))⟩ (aC (by first|omega|(simp (disch:=omega) only [wrapI];omega)) (aC ⟨(by first|omega|(simp (disch:=omega) only [wrapI];omega)), (by first|omega|(simp (disch:=omega) only [wrapI];omega))⟩ (aC (decide_eq_true (by first|omega|(simp (disch:=omega) only [wrapI];omega))) (AllP_nil))))))))))
  rw [e0, e1, e2] at h
  exact h

set_option maxHeartbeats 1000000 in
theorem mac10L_last (w : World) (kn : Nat) (key : List Int) (n : Nat) (L : List Value) (cap0 cap1 : Nat) (h0 : (kn < 70368744177664)) (h1 : ((n + 1) < 4398046511104)) (h2 : (((List.length (catV w L n)) + 128) < 70368744177664)) (hl0_0 : List.length key = kn) (hkn : 128 < kn) (hn : 0 < n) (β : Env) (hP : PartsOk w L n) (hL : L.length = n) (s : Unit) : Run Try.prog ⟨w, [], 2, β⟩ (loopB Try.f14 0) (mac10L_mk w kn key n L cap0 cap1 128 s) (To ⟨w, [], 2, β⟩ (.exit 0) (mac10L_mk w kn key n L cap0 cap1 128 s)) :=
  Run.of_outTAt (B := ⟨w, [], 2, β⟩) (Λ := noLam) (Ψ := noPsi) (fuel := 0) (ora := [false]) (l := [.forget [0, 1, 4, 5, 6, 7, 10, 11, 12, 13, 14, 15, 16, 17, 19, 20, 22] 6]) mix tabOkDE (gjoin_ok (gam17_ok.at _ _))
    (vc := [(false = false)]) (by kernel_rfl)
    (aC rfl (AllP_nil))

theorem mac10L_loop (w : World) (kn : Nat) (key : List Int) (n : Nat) (L : List Value) (cap0 cap1 : Nat) (h0 : (kn < 70368744177664)) (h1 : ((n + 1) < 4398046511104)) (h2 : (((List.length (catV w L n)) + 128) < 70368744177664)) (hl0_0 : List.length key = kn) (hkn : 128 < kn) (hn : 0 < n) (β : Env) (hP : PartsOk w L n) (hL : L.length = n) (s : Unit) : Run Try.prog ⟨w, [], 2, β⟩ (.block 0 (.loop (loopB Try.f14 0))) (mac10L_mk w kn key n L cap0 cap1 0 s) (To ⟨w, [], 2, β⟩ .normal (mac10L_mk w kn key n L cap0 cap1 128 (iter (mac10L_step) 128 s))) :=
  Run.count (fun k => mac10L_mk w kn key n L cap0 cap1 k (iter (mac10L_step) k s)) 128 (fun k hk => mac10L_round w kn key n L cap0 cap1 h0 h1 h2 hl0_0 hkn hn β hP hL k hk _) (ex := (.exit 0)) (by simp) (mac10L_last w kn key n L cap0 cap1 h0 h1 h2 hl0_0 hkn hn β hP hL _)

def mac10 (w : World) (key : List Int) (n : Nat) (L : List Value) : List Int :=
  (macD key (catV w L n))

set_option maxHeartbeats 1000000 in
theorem mac10_body0 (w : World) (kn : Nat) (key : List Int) (n : Nat) (L : List Value) (cap0 cap1 : Nat) (h0 : (kn < 70368744177664)) (h1 : ((n + 1) < 4398046511104)) (h2 : (((List.length (catV w L n)) + 128) < 70368744177664)) (hl0_0 : List.length key = kn) (hkn : 128 < kn) (hn : 0 < n) (β : Env) (hP : PartsOk w L n) (hL : L.length = n) : Body Try.prog (tabOf tabDE) Try.f14 ⟨w, [], 2, β⟩ [.o (.a (.sl 0 0 kn cap0)), .o (.a (.sl 1 0 n cap1))] [some ⟨false, [.ints .u8 kn key]⟩, some ⟨false, [.vals n L]⟩] (fun ys _ => ys = [.g [.ints .u8 64 (mac10 w key n L)]]) :=
  Body.of_finAt (Γ := (gjoin w [] gam17)) (Λ := lamOf [(0, ⟨[.forget [0, 1, 4, 5, 6, 7, 10, 11, 12, 13, 14, 15, 16, 17, 19, 20, 22] 6], .normal, (mac10L_mk w kn key n L cap0 cap1 128 (iter (mac10L_step) 128 ()))⟩)]) (Ψ := psiOf [(3, [.eqB 5 (⟨true, [.ints .u8 64 (shaD key)]⟩)]), (5, [.eqB 3 (⟨true, [.ints .u8 128 (pk key)]⟩)]), (6, [.eqB 4 (⟨true, [.ints .u8 128 (pk key)]⟩)])]) (fuel := 0) (m := 45) (c := (Try.f14.body.getD .skip)) mix tabOkDE (gjoin_ok (gam17_ok.at _ _)) rfl (rs := [.cell 4 32]) rfl rfl [true, false] [.eqB 2 (⟨true, [.ints .u8 64 (macD key (catV w L n))]⟩)]
    (vc := [((some ⟨true, [.ints .u8 64 (shaD ((sub (xk (92 : Int) (pk key) 128) 0 128) ++ ((sub (shaD ((sub (xk (54 : Int) (pk key) 128) 0 128) ++ ((catV w (sub L 0 n) n) ++ ([] : List Int)))) 0 64) ++ ([] : List Int))))]⟩ : Option Blk) = some ⟨true, [.ints .u8 64 (macD key (catV w L n))]⟩), ((2 = 2) ∧ ((128 ≤ 128) ∧ ((64 ≤ 64) ∧ True)) ∧ ((List.length ((sub (xk (92 : Int) (pk key) 128) 0 128) ++ ((sub (shaD ((sub (xk (54 : Int) (pk key) 128) 0 128) ++ ((catV w (sub L 0 n) n) ++ ([] : List Int)))) 0 64) ++ ([] : List Int)))) < 70368744177664) ∧ True ∧ (cN 2 70368744177664)), ((cZ 0) ∧ (cZ 64)), ((cZ 0) ∧ (cZ 128)), (((1 + n) = (1 + n)) ∧ ((128 ≤ 128) ∧ ((PartsR w [] (sub L 0 n) n) ∧ True)) ∧ ((List.length ((sub (xk (54 : Int) (pk key) 128) 0 128) ++ ((catV w (sub L 0 n) n) ++ ([] : List Int)))) < 70368744177664) ∧ True ∧ ((1 + n) < 70368744177664)), (True ∧ ((n ≤ n) ∧ ((0 + n) ≤ n)) ∧ (1 < (1 + n)) ∧ (((1 + n) * 24) ≤ 140737488355328)), ((cZ 0) ∧ (cZ 128)), (Run Try.prog ⟨w, [], 2, β⟩ (.block 0 (.loop (loopB Try.f14 0))) (mac10L_mk w kn key n L cap0 cap1 0 ()) (To ⟨w, [], 2, β⟩ .normal (mac10L_mk w kn key n L cap0 cap1 128 (iter (mac10L_step) 128 ())))), ((some ⟨true, [.ints .u8 128 (splice (List.replicate 128 (0 : Int)) 0 64 (sub (shaD key) 0 64))]⟩ : Option Blk) = some ⟨true, [.ints .u8 128 (pk key)]⟩), (((64 ≤ 64) ∧ (64 ≤ 64)) ∧ (okP (some (64 ≤ 128)))), ((cZ 0) ∧ (cZ 128)), ((some ⟨true, [.ints .u8 128 (splice (List.replicate 128 (0 : Int)) 0 64 (sub (shaD key) 0 64))]⟩ : Option Blk) = some ⟨true, [.ints .u8 128 (pk key)]⟩), (((64 ≤ 64) ∧ (64 ≤ 64)) ∧ (okP (some (64 ≤ 128)))), ((cZ 0) ∧ (cZ 128)), ((cZ 0) ∧ (cZ 64)), ((some ⟨true, [.ints .u8 64 (join1 kn (sub key 0 kn))]⟩ : Option Blk) = some ⟨true, [.ints .u8 64 (shaD key)]⟩), ((((0 + kn) ≤ kn) ∧ True) ∧ ((kn = kn) ∧ (kn < 140737488355328))), ((decide (((kn : Nat) : Int) > (128 : Int))) = true)]) (by kernel_rfl)
    (aC ((by rw [mac_out hL])) (aC ⟨rfl, ⟨(dd rfl), ⟨(dd rfl), trivial⟩⟩, (mac_lt2), trivial, (dd rfl)⟩ (aC (dd rfl) (aC (dd rfl) (aC ⟨rfl, ⟨(dd rfl), ⟨((mac_parts hL hP)), trivial⟩⟩, (mac_lt1 hL h2), trivial, (by first|omega|(simp (disch:=omega) only [wrapI];omega))⟩ (aC ⟨trivial, ⟨(by first|omega|(simp (disch:=omega) only [wrapI];omega)), (by first|omega|(simp (disch:=omega) only [wrapI];omega))⟩, (by first|omega|(simp (disch:=omega) only [wrapI];omega)), (by first|omega|(simp (disch:=omega) only [wrapI];omega))⟩ (aC (dd rfl) (aC (mac10L_loop w kn key n L cap0 cap1 h0 h1 h2 hl0_0 hkn hn β hP hL ()) (aC ((by rw [pk_long hl0_0 hkn])) (aC ⟨(dd rfl), (show (64 ≤ 128) from (dd rfl))⟩ (aC (dd rfl) (aC ((by rw [pk_long hl0_0 hkn])) (aC ⟨(dd rfl), (show (64 ≤ 128) from (dd rfl))⟩ (aC (dd rfl) (aC (dd rfl) (aC ((by first | rw [sum_key hl0_0 h0] | exact congrArg (fun z => (some (⟨true, [.ints .u8 64 z]⟩ : Blk) : Option Blk)) (sum_key hl0_0 h0))) (aC ⟨⟨(by first|omega|(simp (disch:=omega) only [wrapI];omega)), trivial⟩, ⟨rfl, (by first|omega|(simp (disch:=omega) only [wrapI];omega))⟩⟩ (aC (decide_eq_true (by first|omega|(simp (disch:=omega) only [wrapI];omega))) (AllP_nil)))))))))))))))))))

end Go.Proofs.Ytlmdhjojinkdbaa.X

/- The keyed digest's contract, for whatever list of parts. -/
namespace Go.Proofs.Ytlmdhjojinkdbaa.X
open Go Go.Proofs
set_option linter.unusedVariables false
set_option maxRecDepth 100000

theorem mac_body (w : World) (kn : Nat) (key : List Int) (n : Nat) (L : List Value) (cap0 cap1 : Nat) (h0 : kn < 70368744177664) (h1 : n + 1 < 4398046511104) (h2 : (catV w L n).length + 128 < 70368744177664) (β : Env) (hP : PartsOk w L n) (hL : L.length = n) :
    Body Try.prog (tabOf tabDE) Try.f14 ⟨w, [], 2, β⟩ [.o (.a (.sl 0 0 kn cap0)), .o (.a (.sl 1 0 n cap1))] [some ⟨false, [.ints .u8 kn key]⟩, some ⟨false, [.vals n L]⟩] (fun ys _ => ys = [.g [.ints .u8 (64 : Nat) (macD key (catV w L n))]]) := by
  refine Body.lens (c := (Try.f14.body.getD .skip)) rfl fun h => ?_
  have hl := h.lens 0 _ .u8 kn key rfl (by simp)
  by_cases hk : kn ≤ 128
  · rcases Nat.eq_zero_or_pos n with rfl | hn
    · exact mac01_body0 w kn key L cap0 cap1 h0 (by omega) h2 hl hk β hP hL
    · exact mac00_body0 w kn key n L cap0 cap1 h0 h1 h2 hl hk hn β hP hL
  · rcases Nat.eq_zero_or_pos n with rfl | hn
    · exact mac11_body0 w kn key L cap0 cap1 h0 (by omega) h2 hl (by omega) β hP hL
    · exact mac10_body0 w kn key n L cap0 cap1 h0 h1 h2 hl (by omega) hn β hP hL
def gmac (w0 : World) (rw : List Nat) (rest : Gam) : Gam := gparts 14 [.s 1] w0 rw (fun vs args m D => match vs, args with
  | [⟨_, _, _, [.ints .u8 knm key]⟩], [a] => some (knm = lenOfA a ∧ lenOfA a < 70368744177664 ∧ m + 1 < 4398046511104 ∧ D.length + 128 < 70368744177664, .g [.ints .u8 64 (macD key D)])
  | _, _ => none) rest
theorem gmac_ok {rest : Gam} {w0 : World} {rw : List Nat} (hr : GamAt Try.prog rest w0 rw) : GamAt Try.prog (gmac w0 rw rest) w0 rw := gparts_ok tabOkDE Try.func14 Try.call14 hr (by
  intro vs args m D p y h hv
  split at h
  · rename_i j c q knm key a
    simp only [Option.some.injEq, Prod.mk.injEq] at h; obtain ⟨rfl, rfl⟩ := h
    refine ⟨rfl, fun caps cap L w β hL hP hD => ?_⟩
    subst hD
    obtain ⟨rfl, h2, h3, h4⟩ := hv
    exact mac_body w _ key m L _ cap h2 h3 h4 β hP hL
  · simp at h)
end Go.Proofs.Ytlmdhjojinkdbaa.X

/- A generator's state and what it draws, as functions of bytes. -/
namespace Go.Proofs.Ytlmdhjojinkdbaa.X
open Go Go.Proofs
set_option linter.unusedVariables false
set_option maxRecDepth 100000

def st1K (k v D : List Int) : List Int := macD k (v ++ ([0] ++ D))
def st1V (k v D : List Int) : List Int := macD (st1K k v D) v
def st2K (k v D : List Int) : List Int := macD (st1K k v D) (st1V k v D ++ ([1] ++ D))
def st2V (k v D : List Int) : List Int := macD (st2K k v D) (st1V k v D)
def stK (k v D : List Int) : List Int := if D.length = 0 then st1K k v D else st2K k v D
def stV (k v D : List Int) : List Int := if D.length = 0 then st1V k v D else st2V k v D
theorem stK_zero {k v D : List Int} {n : Nat} (hl : D.length = n) (h : n = 0) : stK k v D = st1K k v D := if_pos (hl.trans h)
theorem stV_zero {k v D : List Int} {n : Nat} (hl : D.length = n) (h : n = 0) : stV k v D = st1V k v D := if_pos (hl.trans h)
theorem stK_pos {k v D : List Int} {n : Nat} (hl : D.length = n) (h : n ≠ 0) : stK k v D = st2K k v D := if_neg (by rw [hl]; exact h)
theorem stV_pos {k v D : List Int} {n : Nat} (hl : D.length = n) (h : n ≠ 0) : stV k v D = st2V k v D := if_neg (by rw [hl]; exact h)
theorem stV_len (k v D : List Int) : (stV k v D).length = 64 := by unfold stV; split <;> exact macD_len _ _
theorem in1 {v b : List Int} {n : Nat} {t : Int} (hl : b.length = n) : v ++ ([t] ++ (sub b 0 n ++ [])) = v ++ ([t] ++ b) := by
  rw [sub_all b n (by omega), List.append_nil]
theorem in_lt {v b : List Int} {n : Nat} {t : Int} (hv : v.length = 64) (hl : b.length = n) (h : n < 35184372088832) : (v ++ ([t] ++ (sub b 0 n ++ []))).length < 70368744177664 ∧ (v ++ ([t] ++ (sub b 0 n ++ []))).length + 128 < 70368744177664 := by
  rw [in1 hl]
  simp only [List.length_append, List.length_cons, List.length_nil]
  omega
theorem v_lt {v : List Int} (hv : v.length = 64) : (v ++ []).length < 70368744177664 ∧ (v ++ []).length + 128 < 70368744177664 := by
  rw [List.append_nil]; omega
theorem v0_lt {v : List Int} {t : Int} (hv : v.length = 64) : (v ++ ([t] ++ ([] ++ []))).length < 70368744177664 ∧ (v ++ ([t] ++ ([] ++ []))).length + 128 < 70368744177664 := by
  simp only [List.length_append, List.length_cons, List.length_nil]; omega
theorem st_n {n : Nat} (h : n < 35184372088832) : IntKind.i64.wrap (0 + ((n : Nat) : Int)) = ((n : Nat) : Int) := by rw [wrapI (by omega) (by omega)]; omega
theorem st_zero {n : Nat} (h : n < 35184372088832) (hb : (IntKind.i64.wrap (0 + ((n : Nat) : Int)) == 0) = true) : n = 0 := by
  rw [st_n h] at hb; have := beq_iff_eq.1 hb; omega
theorem st_pos {n : Nat} (h : n < 35184372088832) (hb : (IntKind.i64.wrap (0 + ((n : Nat) : Int)) == 0) = false) : n ≠ 0 := by
  rw [st_n h] at hb; have := beq_eq_false_iff_ne.1 hb; omega

/-- the values after so many steps, and all of them behind one another -/
def nxV (k v : List Int) : Nat → List Int
  | 0 => v
  | i + 1 => macD k (nxV k v i)
def nxO (k v : List Int) : Nat → List Int
  | 0 => []
  | i + 1 => nxO k v i ++ nxV k v (i + 1)
theorem nxV_len {k v : List Int} (h : v.length = 64) : ∀ i, (nxV k v i).length = 64
  | 0 => h
  | i + 1 => macD_len _ _
theorem nxO_len {k v : List Int} : ∀ i, (nxO k v i).length = 64 * i
  | 0 => rfl
  | i + 1 => by
    show (nxO k v i ++ nxV k v (i + 1)).length = _
    rw [List.length_append, nxO_len i]
    have : (nxV k v (i + 1)).length = 64 := macD_len _ _
    omega
theorem nxO_step {k v : List Int} {i m : Nat} (hm : m = 64 * i) : sub (nxO k v i) 0 m ++ sub (nxV k v (i + 1)) 0 64 = nxO k v (i + 1) := by
  have : (nxV k v (i + 1)).length = 64 := macD_len _ _
  rw [sub_all _ _ (by rw [nxO_len]; omega), sub_all _ _ (by omega)]; rfl
theorem nxO_step2 {k v : List Int} {i m : Nat} (hm : m = 64 * i) : sub (nxO k v i) 0 m ++ macD k (nxV k v i) = nxO k v (i + 1) := by
  rw [sub_all _ _ (by rw [nxO_len]; omega)]; rfl
/-- how many steps n bytes take -/
theorem rnds_ex (N : Int) : ∃ m : Nat, m = (Int.toNat N + 63) / 64 := ⟨_, rfl⟩
noncomputable def rnds (N : Int) : Nat := Classical.choose (rnds_ex N)
theorem rnds_eq (N : Int) : rnds N = (Int.toNat N + 63) / 64 := Classical.choose_spec (rnds_ex N)
theorem rnds_lt {N : Int} {k : Nat} (h : k < rnds N) : 64 * k < Int.toNat N := by rw [rnds_eq] at h; omega
theorem rnds_ge (N : Int) : Int.toNat N ≤ 64 * rnds N := by rw [rnds_eq]; omega

def drE (N d : Int) : Int := if N < 0 then 1 else if 65536 < N then 113 else if 4096 ≤ d then 112 else 0
def drOk (N d : Int) : Bool := decide (0 ≤ N ∧ N ≤ 65536 ∧ d < 4096)
def d1K (k v b : List Int) : List Int := if b.length = 0 then k else stK k v b
def d1V (k v b : List Int) : List Int := if b.length = 0 then v else stV k v b
noncomputable def d2V (N : Int) (k v b : List Int) : List Int := nxV (d1K k v b) (d1V k v b) (rnds N)
noncomputable def drK (N d : Int) (k v b : List Int) : List Int := cond (drOk N d) (stK (d1K k v b) (d2V N k v b) b) k
noncomputable def drV (N d : Int) (k v b : List Int) : List Int := cond (drOk N d) (stV (d1K k v b) (d2V N k v b) b) v
def drD (N d : Int) : Int := cond (drOk N d) (IntKind.i64.wrap (d + 1)) d
def drN (N d : Int) : Nat := cond (drOk N d) (Int.toNat N) 0
noncomputable def drM (N d : Int) : Nat := cond (drOk N d) (64 * rnds N) 0
noncomputable def drO (N d : Int) (k v b : List Int) : List Int := cond (drOk N d) (nxO (d1K k v b) (d1V k v b) (rnds N)) []
noncomputable def drK0 (N d : Int) (k v : List Int) : List Int := drK N d k v []
noncomputable def drV0 (N d : Int) (k v : List Int) : List Int := drV N d k v []
noncomputable def drO0 (N d : Int) (k v : List Int) : List Int := drO N d k v []
theorem dr_ok {N d : Int} (h0 : 0 ≤ N) (h1 : N ≤ 65536) (h2 : d < 4096) : drOk N d = true := decide_eq_true ⟨h0, h1, h2⟩
theorem dr_bad {N d : Int} (h : ¬ (0 ≤ N ∧ N ≤ 65536 ∧ d < 4096)) : drOk N d = false := decide_eq_false h
theorem d1V_len {k v b : List Int} (h : v.length = 64) : (d1V k v b).length = 64 := by unfold d1V; split; exact h; exact stV_len _ _ _
theorem drN_le (N d : Int) : drN N d ≤ drM N d := by unfold drN drM; cases drOk N d; exact Nat.le_refl _; exact rnds_ge N

/-- Reseed -/
def rsE (n : Nat) : Int := cond (decide (n < 32)) 111 0
def rsK (n : Nat) (k v b : List Int) : List Int := cond (decide (n < 32)) k (stK k v b)
def rsV (n : Nat) (k v b : List Int) : List Int := cond (decide (n < 32)) v (stV k v b)
def rsD (n : Nat) (d : Int) : Int := cond (decide (n < 32)) d 0
/-- a new generator's -/
def z64 : List Int := List.replicate 64 0
def o64 : List Int := List.replicate 64 1
def nwK (b : List Int) : List Int := stK z64 o64 b
def nwV (b : List Int) : List Int := stV z64 o64 b
end Go.Proofs.Ytlmdhjojinkdbaa.X

/- Printed by a tool of this session. -/
namespace Go.Proofs.Ytlmdhjojinkdbaa.X
open Go Go.Proofs
set_option linter.unusedVariables false
set_option linter.unusedSimpArgs false
set_option maxRecDepth 100000
theorem teDH_5 : TEOk Try.prog 5 ⟨.int .u8, 1, 1, [.i .u8 (0 : Int)], false⟩ :=
  TEOk.of Try.underlying5 (i := Try.t5) (by kernel_rfl) rfl rfl rfl (by kernel_rfl) (fun h => by cases h) (by kernel_rfl)
theorem teDH_22 : TEOk Try.prog 22 ⟨.slice 5, 1, 24, [.raw (.slice none 0 0)], false⟩ :=
  TEOk.of Try.underlying22 (i := Try.t22) (by kernel_rfl) rfl rfl rfl (by kernel_rfl) (fun h => by cases h) (by kernel_rfl)
theorem teDH_23 : TEOk Try.prog 23 ⟨.slice 22, 1, 24, [.raw (.slice none 0 0)], false⟩ :=
  TEOk.of Try.underlying23 (i := Try.t23) (by kernel_rfl) rfl rfl rfl (by kernel_rfl) (fun h => by cases h) (by kernel_rfl)
theorem teDH_32 : TEOk Try.prog 32 ⟨.array 64 5, 64, 64, [.ints .u8 64 (List.replicate 64 0)], true⟩ :=
  TEOk.of Try.underlying32 (i := Try.t32) (by kernel_rfl) rfl rfl rfl (by kernel_rfl) (fun _ => Try.eqGuardType32) (by kernel_rfl)
theorem teDH_132 : TEOk Try.prog 132 ⟨Try.t131.desc, 129, 129, [.ints .u8 64 (List.replicate 64 0), .ints .u8 64 (List.replicate 64 0), .b false], false⟩ :=
  TEOk.of Try.underlying132 (i := Try.t132) (by kernel_rfl) rfl rfl rfl (by kernel_rfl) (fun h => by cases h) (by kernel_rfl)
noncomputable def tabDH : List (Nat × TE) := [(5, ⟨.int .u8, 1, 1, [.i .u8 (0 : Int)], false⟩), (22, ⟨.slice 5, 1, 24, [nlA], false⟩), (23, ⟨.slice 22, 1, 24, [nlA], false⟩), (32, ⟨.array 64 5, 64, 64, [.ints .u8 64 (List.replicate 64 0)], true⟩), (132, ⟨Try.t131.desc, 129, 129, [.ints .u8 64 (List.replicate 64 0), .ints .u8 64 (List.replicate 64 0), .b false], false⟩)]
theorem tabOkDH : TabOk Try.prog (tabOf tabDH) := (tabOf_cons teDH_5 (tabOf_cons teDH_22 (tabOf_cons teDH_23 (tabOf_cons teDH_32 (tabOf_cons teDH_132 tabOf_nil)))))

set_option maxHeartbeats 1000000 in
theorem stir1_w0_body0 (ky v : List Int) (d : Int) (n cp2 : Nat) (b : List Int) (cp : Nat) (h0 : (n < 35184372088832)) (hl0_0 : List.length ky = 64) (hl0_1 : List.length v = 64) (hl2_0 : List.length b = n) (hb0 : ((IntKind.i64.wrap ((0 : Int) + ((n : Nat) : Int))) == (0 : Int)) = true) (w : World) (rw : List Nat) (β : Env) : Body Try.prog (tabOf tabDH) Try.f56 ⟨w, rw, 3, β⟩ [.o (.a (.p 0 0)), .o (.a (.sl 1 0 1 cp))] [some ⟨true, [.ints .u8 64 ky, .ints .u8 64 v, .b true, .i .i64 d]⟩, some ⟨false, [.sl 2 0 n cp2]⟩, some ⟨false, [.ints .u8 n b]⟩] (fun ys K' => ys = [] ∧ K' = [some ⟨true, [.ints .u8 64 (stK ky v b), .ints .u8 64 (stV ky v b), .b true, .i .i64 d]⟩, some ⟨false, [.sl 2 0 n cp2]⟩, some ⟨false, [.ints .u8 n b]⟩]) :=
  Body.of_finKAt (Γ := (gmac w rw (gjoin w rw gam17))) (Λ := noLam) (Ψ := psiIf [(10, some (7, 0), [.eqB 0 (⟨true, [.ints .u8 64 (st1K ky v b), .ints .u8 64 v, .b true, .i .i64 d]⟩)]), (11, some (7, 0), [.eqB 0 (⟨true, [.ints .u8 64 (st1K ky v b), .ints .u8 64 (st1V ky v b), .b true, .i .i64 d]⟩)])]) (fuel := 2) (m := 59) (c := (Try.f56.body.getD .skip)) mix tabOkDH (gmac_ok (gjoin_ok (gam17_ok.at _ _))) rfl (rs := []) rfl rfl [true, false, true, false, false, false, false, false, true, true, true, true, true] [.eqB 0 (⟨true, [.ints .u8 64 (stK ky v b), .ints .u8 64 (stV ky v b), .b true, .i .i64 d]⟩)] 3
    (vc := [((some ⟨true, [.ints .u8 64 (st1K ky v b), .ints .u8 64 (st1V ky v b), .b true, .i .i64 d]⟩ : Option Blk) = some ⟨true, [.ints .u8 64 (stK ky v b), .ints .u8 64 (stV ky v b), .b true, .i .i64 d]⟩), (((IntKind.i64.wrap ((0 : Int) + ((n : Nat) : Int))) == (0 : Int)) = true), cT, cT, cT, cT, ((some ⟨true, [.ints .u8 64 (st1K ky v b), .ints .u8 64 (macD (st1K ky v b) (v ++ ([] : List Int))), .b true, .i .i64 d]⟩ : Option Blk) = some ⟨true, [.ints .u8 64 (st1K ky v b), .ints .u8 64 (st1V ky v b), .b true, .i .i64 d]⟩), ((1 = 1) ∧ (True ∧ True) ∧ ((List.length (v ++ ([] : List Int))) < 70368744177664) ∧ (True ∧ True) ∧ ((64 = 64) ∧ (cN 64 70368744177664) ∧ (cN 2 4398046511104) ∧ (((List.length (v ++ ([] : List Int))) + 128) < 70368744177664))), ((cZ 0) ∧ (cZ 64)), ((cZ 0) ∧ (cZ 64)), ((some ⟨true, [.ints .u8 64 (macD ky (v ++ (([0] : List Int) ++ ((sub b 0 n) ++ ([] : List Int))))), .ints .u8 64 v, .b true, .i .i64 d]⟩ : Option Blk) = some ⟨true, [.ints .u8 64 (st1K ky v b), .ints .u8 64 v, .b true, .i .i64 d]⟩), ((3 = 3) ∧ (True ∧ ((1 ≤ 1) ∧ (((0 + n) ≤ n) ∧ True))) ∧ ((List.length (v ++ (([0] : List Int) ++ ((sub b 0 n) ++ ([] : List Int))))) < 70368744177664) ∧ (True ∧ True) ∧ ((64 = 64) ∧ (cN 64 70368744177664) ∧ (cN 4 4398046511104) ∧ (((List.length (v ++ (([0] : List Int) ++ ((sub b 0 n) ++ ([] : List Int))))) + 128) < 70368744177664))), (True ∧ ((1 ≤ 1) ∧ True) ∧ (cN 2 3) ∧ (72 ≤ 140737488355328)), ((cZ 0) ∧ (cZ 64)), ((cZ 0) ∧ (cZ 64)), (false = false), (false = false), (false = false), (false = false), cT, (false = false), (cI 0 1), cT]) (by kernel_rfl)
    (aC ((by rw [stK_zero hl2_0 (st_zero h0 hb0), stV_zero hl2_0 (st_zero h0 hb0)])) (aC hb0 (aC rfl (aC rfl (aC rfl (aC rfl (aC ((by rw [List.append_nil]; rfl)) (aC ⟨rfl, ⟨trivial, trivial⟩, (v_lt hl0_1).1, ⟨trivial, trivial⟩, ⟨rfl, (dd rfl), (dd rfl), (v_lt hl0_1).2⟩⟩ (aC (dd rfl) (aC (dd rfl) (aC ((by rw [in1 hl2_0]; rfl)) (aC ⟨rfl, ⟨trivial, ⟨(dd rfl), ⟨(by first|omega|(simp (disch:=omega) only [wrapI];omega)), trivial⟩⟩⟩, (in_lt hl0_1 hl2_0 (by omega)).1, ⟨trivial, trivial⟩, ⟨rfl, (dd rfl), (dd rfl), (in_lt hl0_1 hl2_0 (by omega)).2⟩⟩ (aC ⟨trivial, ⟨(dd rfl), trivial⟩, (dd rfl), (dd rfl)⟩ (aC (dd rfl) (aC (dd rfl) (aC rfl (aC rfl (aC rfl (aC rfl (aC rfl (aC rfl (aC (dd rfl) (aC rfl (AllP_nil))))))))))))))))))))))))

set_option maxHeartbeats 1000000 in
theorem stir1_w1_body0 (ky v : List Int) (d : Int) (n cp2 : Nat) (b : List Int) (cp : Nat) (h0 : (n < 35184372088832)) (hl0_0 : List.length ky = 64) (hl0_1 : List.length v = 64) (hl2_0 : List.length b = n) (hb0 : ((IntKind.i64.wrap ((0 : Int) + ((n : Nat) : Int))) == (0 : Int)) = false) (w : World) (rw : List Nat) (β : Env) : Body Try.prog (tabOf tabDH) Try.f56 ⟨w, rw, 3, β⟩ [.o (.a (.p 0 0)), .o (.a (.sl 1 0 1 cp))] [some ⟨true, [.ints .u8 64 ky, .ints .u8 64 v, .b true, .i .i64 d]⟩, some ⟨false, [.sl 2 0 n cp2]⟩, some ⟨false, [.ints .u8 n b]⟩] (fun ys K' => ys = [] ∧ K' = [some ⟨true, [.ints .u8 64 (stK ky v b), .ints .u8 64 (stV ky v b), .b true, .i .i64 d]⟩, some ⟨false, [.sl 2 0 n cp2]⟩, some ⟨false, [.ints .u8 n b]⟩]) :=
  Body.of_finKAt (Γ := (gmac w rw (gjoin w rw gam17))) (Λ := noLam) (Ψ := psiIf [(10, some (7, 0), [.eqB 0 (⟨true, [.ints .u8 64 (st1K ky v b), .ints .u8 64 v, .b true, .i .i64 d]⟩)]), (11, some (7, 0), [.eqB 0 (⟨true, [.ints .u8 64 (st1K ky v b), .ints .u8 64 (st1V ky v b), .b true, .i .i64 d]⟩)]), (10, some (7, 1), [.eqB 0 (⟨true, [.ints .u8 64 (st2K ky v b), .ints .u8 64 (st1V ky v b), .b true, .i .i64 d]⟩)]), (11, some (7, 1), [.eqB 0 (⟨true, [.ints .u8 64 (st2K ky v b), .ints .u8 64 (st2V ky v b), .b true, .i .i64 d]⟩)])]) (fuel := 3) (m := 59) (c := (Try.f56.body.getD .skip)) mix tabOkDH (gmac_ok (gjoin_ok (gam17_ok.at _ _))) rfl (rs := []) rfl rfl [true, false, true, false, false, false, false, false, true, true, true, true, false, false, false] [.eqB 0 (⟨true, [.ints .u8 64 (stK ky v b), .ints .u8 64 (stV ky v b), .b true, .i .i64 d]⟩)] 3
    (vc := [((some ⟨true, [.ints .u8 64 (st2K ky v b), .ints .u8 64 (st2V ky v b), .b true, .i .i64 d]⟩ : Option Blk) = some ⟨true, [.ints .u8 64 (stK ky v b), .ints .u8 64 (stV ky v b), .b true, .i .i64 d]⟩), (false = false), ((some ⟨true, [.ints .u8 64 (st2K ky v b), .ints .u8 64 (macD (st2K ky v b) ((st1V ky v b) ++ ([] : List Int))), .b true, .i .i64 d]⟩ : Option Blk) = some ⟨true, [.ints .u8 64 (st2K ky v b), .ints .u8 64 (st2V ky v b), .b true, .i .i64 d]⟩), ((1 = 1) ∧ (True ∧ True) ∧ ((List.length ((st1V ky v b) ++ ([] : List Int))) < 70368744177664) ∧ (True ∧ True) ∧ ((64 = 64) ∧ (cN 64 70368744177664) ∧ (cN 2 4398046511104) ∧ (((List.length ((st1V ky v b) ++ ([] : List Int))) + 128) < 70368744177664))), ((cZ 0) ∧ (cZ 64)), ((cZ 0) ∧ (cZ 64)), ((some ⟨true, [.ints .u8 64 (macD (st1K ky v b) ((st1V ky v b) ++ (([1] : List Int) ++ ((sub b 0 n) ++ ([] : List Int))))), .ints .u8 64 (st1V ky v b), .b true, .i .i64 d]⟩ : Option Blk) = some ⟨true, [.ints .u8 64 (st2K ky v b), .ints .u8 64 (st1V ky v b), .b true, .i .i64 d]⟩), ((3 = 3) ∧ (True ∧ ((1 ≤ 1) ∧ (((0 + n) ≤ n) ∧ True))) ∧ ((List.length ((st1V ky v b) ++ (([1] : List Int) ++ ((sub b 0 n) ++ ([] : List Int))))) < 70368744177664) ∧ (True ∧ True) ∧ ((64 = 64) ∧ (cN 64 70368744177664) ∧ (cN 4 4398046511104) ∧ (((List.length ((st1V ky v b) ++ (([1] : List Int) ++ ((sub b 0 n) ++ ([] : List Int))))) + 128) < 70368744177664))), (True ∧ ((1 ≤ 1) ∧ True) ∧ (cN 2 3) ∧ (72 ≤ 140737488355328)), ((cZ 0) ∧ (cZ 64)), ((cZ 0) ∧ (cZ 64)), (((IntKind.i64.wrap ((0 : Int) + ((n : Nat) : Int))) == (0 : Int)) = false), cT, cT, cT, cT, ((some ⟨true, [.ints .u8 64 (st1K ky v b), .ints .u8 64 (macD (st1K ky v b) (v ++ ([] : List Int))), .b true, .i .i64 d]⟩ : Option Blk) = some ⟨true, [.ints .u8 64 (st1K ky v b), .ints .u8 64 (st1V ky v b), .b true, .i .i64 d]⟩), ((1 = 1) ∧ (True ∧ True) ∧ ((List.length (v ++ ([] : List Int))) < 70368744177664) ∧ (True ∧ True) ∧ ((64 = 64) ∧ (cN 64 70368744177664) ∧ (cN 2 4398046511104) ∧ (((List.length (v ++ ([] : List Int))) + 128) < 70368744177664))), ((cZ 0) ∧ (cZ 64)), ((cZ 0) ∧ (cZ 64)), ((some ⟨true, [.ints .u8 64 (macD ky (v ++ (([0] : List Int) ++ ((sub b 0 n) ++ ([] : List Int))))), .ints .u8 64 v, .b true, .i .i64 d]⟩ : Option Blk) = some ⟨true, [.ints .u8 64 (st1K ky v b), .ints .u8 64 v, .b true, .i .i64 d]⟩), ((3 = 3) ∧ (True ∧ ((1 ≤ 1) ∧ (((0 + n) ≤ n) ∧ True))) ∧ ((List.length (v ++ (([0] : List Int) ++ ((sub b 0 n) ++ ([] : List Int))))) < 70368744177664) ∧ (True ∧ True) ∧ ((64 = 64) ∧ (cN 64 70368744177664) ∧ (cN 4 4398046511104) ∧ (((List.length (v ++ (([0] : List Int) ++ ((sub b 0 n) ++ ([] : List Int))))) + 128) < 70368744177664))), (True ∧ ((1 ≤ 1) ∧ True) ∧ (cN 2 3) ∧ (72 ≤ 140737488355328)), ((cZ 0) ∧ (cZ 64)), ((cZ 0) ∧ (cZ 64)), (false = false), (false = false), (false = false), (false = false), cT, (false = false), (cI 0 1), cT]) (by kernel_rfl)
    (aC ((by rw [stK_pos hl2_0 (st_pos h0 hb0), stV_pos hl2_0 (st_pos h0 hb0)])) (aC rfl (aC ((by rw [List.append_nil]; rfl)) (aC ⟨rfl, ⟨trivial, trivial⟩, (v_lt (macD_len _ _)).1, ⟨trivial, trivial⟩, ⟨rfl, (dd rfl), (dd rfl), (v_lt (macD_len _ _)).2⟩⟩ (aC (dd rfl) (aC (dd rfl) (aC ((by rw [in1 hl2_0]; rfl)) (aC ⟨rfl, ⟨trivial, ⟨(dd rfl), ⟨(by first|omega|(simp (disch:=omega) only [wrapI];omega)), trivial⟩⟩⟩, (in_lt (macD_len _ _) hl2_0 (by omega)).1, ⟨trivial, trivial⟩, ⟨rfl, (dd rfl), (dd rfl), (in_lt (macD_len _ _) hl2_0 (by omega)).2⟩⟩ (aC ⟨trivial, ⟨(dd rfl), trivial⟩, (dd rfl), (dd rfl)⟩ (aC (dd rfl) (aC (dd rfl) (aC hb0 (aC rfl (aC rfl (aC rfl (aC rfl (aC ((by rw [List.append_nil]; rfl)) (aC ⟨rfl, ⟨trivial, trivial⟩, (v_lt hl0_1).1, ⟨trivial, trivial⟩, ⟨rfl, (dd rfl), (dd rfl), (v_lt hl0_1).2⟩⟩ (aC (dd rfl) (aC (dd rfl) (aC ((by rw [in1 hl2_0]; rfl)) (aC ⟨rfl, ⟨trivial, ⟨(dd rfl), ⟨(by first|omega|(simp (disch:=omega) only [wrapI];omega)), trivial⟩⟩⟩, (in_lt hl0_1 hl2_0 (by omega)).1, ⟨trivial, trivial⟩, ⟨rfl, (dd rfl), (dd rfl), (in_lt hl0_1 hl2_0 (by omega)).2⟩⟩ (aC ⟨trivial, ⟨(dd rfl), trivial⟩, (dd rfl), (dd rfl)⟩ (aC (dd rfl) (aC (dd rfl) (aC rfl (aC rfl (aC rfl (aC rfl (aC rfl (aC rfl (aC (dd rfl) (aC rfl (AllP_nil))))))))))))))))))))))))))))))))))

set_option maxHeartbeats 1000000 in
theorem stir1_body (ky v : List Int) (d : Int) (n cp2 : Nat) (b : List Int) (cp : Nat) (h0 : (n < 35184372088832)) (w : World) (rw : List Nat) (β : Env) : Body Try.prog (tabOf tabDH) Try.f56 ⟨w, rw, 3, β⟩ [.o (.a (.p 0 0)), .o (.a (.sl 1 0 1 cp))] [some ⟨true, [.ints .u8 64 ky, .ints .u8 64 v, .b true, .i .i64 d]⟩, some ⟨false, [.sl 2 0 n cp2]⟩, some ⟨false, [.ints .u8 n b]⟩] (fun ys K' => ys = [] ∧ K' = [some ⟨true, [.ints .u8 64 (stK ky v b), .ints .u8 64 (stV ky v b), .b true, .i .i64 d]⟩, some ⟨false, [.sl 2 0 n cp2]⟩, some ⟨false, [.ints .u8 n b]⟩]) :=
  Body.lens (c := (Try.f56.body.getD .skip)) rfl fun h => by
    cases hb0 : ((IntKind.i64.wrap ((0 : Int) + ((n : Nat) : Int))) == (0 : Int))
    · exact (stir1_w1_body0 ky v d n cp2 b cp h0 (h.lens 0 _ .u8 (64 : Nat) ky rfl (by simp)) (h.lens 0 _ .u8 (64 : Nat) v rfl (by simp)) (h.lens 2 _ .u8 n b rfl (by simp)) hb0 w rw β).mono fun _ _ hx => ⟨hx.1.trans rfl, hx.2⟩
    · exact (stir1_w0_body0 ky v d n cp2 b cp h0 (h.lens 0 _ .u8 (64 : Nat) ky rfl (by simp)) (h.lens 0 _ .u8 (64 : Nat) v rfl (by simp)) (h.lens 2 _ .u8 n b rfl (by simp)) hb0 w rw β).mono fun _ _ hx => ⟨hx.1.trans rfl, hx.2⟩

set_option maxHeartbeats 1000000 in
theorem stir3_body0 (ky v : List Int) (d : Int) (n cp2 : Nat) (b : List Int) (cp : Nat) (h0 : (n < 35184372088832)) (h1 : (32 ≤ n)) (hl0_0 : List.length ky = 64) (hl0_1 : List.length v = 64) (hl2_0 : List.length b = n) (w : World) (rw : List Nat) (β : Env) : Body Try.prog (tabOf tabDH) Try.f56 ⟨w, rw, 3, β⟩ [.o (.a (.p 0 0)), .o (.a (.sl 1 0 3 cp))] [some ⟨true, [.ints .u8 64 ky, .ints .u8 64 v, .b true, .i .i64 d]⟩, some ⟨false, [.sl 2 0 n cp2, nlA, nlA]⟩, some ⟨false, [.ints .u8 n b]⟩] (fun ys K' => ys = [] ∧ K' = [some ⟨true, [.ints .u8 64 (stK ky v b), .ints .u8 64 (stV ky v b), .b true, .i .i64 d]⟩, some ⟨false, [.sl 2 0 n cp2, nlA, nlA]⟩, some ⟨false, [.ints .u8 n b]⟩]) :=
  Body.of_finKAt (Γ := (gmac w rw (gjoin w rw gam17))) (Λ := noLam) (Ψ := psiIf [(10, some (7, 0), [.eqB 0 (⟨true, [.ints .u8 64 (st1K ky v b), .ints .u8 64 v, .b true, .i .i64 d]⟩)]), (11, some (7, 0), [.eqB 0 (⟨true, [.ints .u8 64 (st1K ky v b), .ints .u8 64 (st1V ky v b), .b true, .i .i64 d]⟩)]), (10, some (7, 1), [.eqB 0 (⟨true, [.ints .u8 64 (st2K ky v b), .ints .u8 64 (st1V ky v b), .b true, .i .i64 d]⟩)]), (11, some (7, 1), [.eqB 0 (⟨true, [.ints .u8 64 (st2K ky v b), .ints .u8 64 (st2V ky v b), .b true, .i .i64 d]⟩)])]) (fuel := 4) (m := 59) (c := (Try.f56.body.getD .skip)) mix tabOkDH (gmac_ok (gjoin_ok (gam17_ok.at _ _))) rfl (rs := []) rfl rfl [true, true, true, false, true, false, false, false, false, false, true, true, true, true, false, false, false] [.eqB 0 (⟨true, [.ints .u8 64 (stK ky v b), .ints .u8 64 (stV ky v b), .b true, .i .i64 d]⟩)] 3
    (vc := [((some ⟨true, [.ints .u8 64 (st2K ky v b), .ints .u8 64 (st2V ky v b), .b true, .i .i64 d]⟩ : Option Blk) = some ⟨true, [.ints .u8 64 (stK ky v b), .ints .u8 64 (stV ky v b), .b true, .i .i64 d]⟩), (false = false), ((some ⟨true, [.ints .u8 64 (st2K ky v b), .ints .u8 64 (macD (st2K ky v b) ((st1V ky v b) ++ ([] : List Int))), .b true, .i .i64 d]⟩ : Option Blk) = some ⟨true, [.ints .u8 64 (st2K ky v b), .ints .u8 64 (st2V ky v b), .b true, .i .i64 d]⟩), ((1 = 1) ∧ (True ∧ True) ∧ ((List.length ((st1V ky v b) ++ ([] : List Int))) < 70368744177664) ∧ (True ∧ True) ∧ ((64 = 64) ∧ (cN 64 70368744177664) ∧ (cN 2 4398046511104) ∧ (((List.length ((st1V ky v b) ++ ([] : List Int))) + 128) < 70368744177664))), ((cZ 0) ∧ (cZ 64)), ((cZ 0) ∧ (cZ 64)), ((some ⟨true, [.ints .u8 64 (macD (st1K ky v b) ((st1V ky v b) ++ (([1] : List Int) ++ ((sub b 0 n) ++ ([] : List Int))))), .ints .u8 64 (st1V ky v b), .b true, .i .i64 d]⟩ : Option Blk) = some ⟨true, [.ints .u8 64 (st2K ky v b), .ints .u8 64 (st1V ky v b), .b true, .i .i64 d]⟩), ((5 = 5) ∧ (True ∧ ((1 ≤ 1) ∧ (((0 + n) ≤ n) ∧ (True ∧ (True ∧ True))))) ∧ ((List.length ((st1V ky v b) ++ (([1] : List Int) ++ ((sub b 0 n) ++ ([] : List Int))))) < 70368744177664) ∧ (True ∧ True) ∧ ((64 = 64) ∧ (cN 64 70368744177664) ∧ (cN 6 4398046511104) ∧ (((List.length ((st1V ky v b) ++ (([1] : List Int) ++ ((sub b 0 n) ++ ([] : List Int))))) + 128) < 70368744177664))), (True ∧ ((3 ≤ 3) ∧ True) ∧ (cN 2 5) ∧ (120 ≤ 140737488355328)), ((cZ 0) ∧ (cZ 64)), ((cZ 0) ∧ (cZ 64)), (((IntKind.i64.wrap ((IntKind.i64.wrap ((IntKind.i64.wrap ((0 : Int) + ((n : Nat) : Int))) + (0 : Int))) + (0 : Int))) == (0 : Int)) = false), cT, cT, cT, cT, ((some ⟨true, [.ints .u8 64 (st1K ky v b), .ints .u8 64 (macD (st1K ky v b) (v ++ ([] : List Int))), .b true, .i .i64 d]⟩ : Option Blk) = some ⟨true, [.ints .u8 64 (st1K ky v b), .ints .u8 64 (st1V ky v b), .b true, .i .i64 d]⟩), ((1 = 1) ∧ (True ∧ True) ∧ ((List.length (v ++ ([] : List Int))) < 70368744177664) ∧ (True ∧ True) ∧ ((64 = 64) ∧ (cN 64 70368744177664) ∧ (cN 2 4398046511104) ∧ (((List.length (v ++ ([] : List Int))) + 128) < 70368744177664))), ((cZ 0) ∧ (cZ 64)), ((cZ 0) ∧ (cZ 64)), ((some ⟨true, [.ints .u8 64 (macD ky (v ++ (([0] : List Int) ++ ((sub b 0 n) ++ ([] : List Int))))), .ints .u8 64 v, .b true, .i .i64 d]⟩ : Option Blk) = some ⟨true, [.ints .u8 64 (st1K ky v b), .ints .u8 64 v, .b true, .i .i64 d]⟩), ((5 = 5) ∧ (True ∧ ((1 ≤ 1) ∧ (((0 + n) ≤ n) ∧ (True ∧ (True ∧ True))))) ∧ ((List.length (v ++ (([0] : List Int) ++ ((sub b 0 n) ++ ([] : List Int))))) < 70368744177664) ∧ (True ∧ True) ∧ ((64 = 64) ∧ (cN 64 70368744177664) ∧ (cN 6 4398046511104) ∧ (((List.length (v ++ (([0] : List Int) ++ ((sub b 0 n) ++ ([] : List Int))))) + 128) < 70368744177664))), (True ∧ ((3 ≤ 3) ∧ True) ∧ (cN 2 5) ∧ (120 ≤ 140737488355328)), ((cZ 0) ∧ (cZ 64)), ((cZ 0) ∧ (cZ 64)), (false = false), (false = false), (false = false), (false = false), cT, (false = false), (cI 2 3), cT, (cI 1 3), cT, (cI 0 3), cT]) (by kernel_rfl)
    (aC ((by rw [stK_pos hl2_0 (by omega), stV_pos hl2_0 (by omega)])) (aC rfl (aC ((by rw [List.append_nil]; rfl)) (aC ⟨rfl, ⟨trivial, trivial⟩, (v_lt (macD_len _ _)).1, ⟨trivial, trivial⟩, ⟨rfl, (dd rfl), (dd rfl), (v_lt (macD_len _ _)).2⟩⟩ (aC (dd rfl) (aC (dd rfl) (aC ((by rw [in1 hl2_0]; rfl)) (aC ⟨rfl, ⟨trivial, ⟨(dd rfl), ⟨(by first|omega|(simp (disch:=omega) only [wrapI];omega)), ⟨trivial, ⟨trivial, trivial⟩⟩⟩⟩⟩, (in_lt (macD_len _ _) hl2_0 (by omega)).1, ⟨trivial, trivial⟩, ⟨rfl, (dd rfl), (dd rfl), (in_lt (macD_len _ _) hl2_0 (by omega)).2⟩⟩ (aC ⟨trivial, ⟨(dd rfl), trivial⟩, (dd rfl), (dd rfl)⟩ (aC (dd rfl) (aC (dd rfl) (aC (beq_eq_false_iff_ne.2 (by first|omega|(simp (disch:=omega) only [wrapI];omega))) (aC rfl (aC rfl (aC rfl (aC rfl (aC ((by rw [List.append_nil]; rfl)) (aC ⟨rfl, ⟨trivial, trivial⟩, (v_lt hl0_1).1, ⟨trivial, trivial⟩, ⟨rfl, (dd rfl), (dd rfl), (v_lt hl0_1).2⟩⟩ (aC (dd rfl) (aC (dd rfl) (aC ((by rw [in1 hl2_0]; rfl)) (aC ⟨rfl, ⟨trivial, ⟨(dd rfl), ⟨(by first|omega|(simp (disch:=omega) only [wrapI];omega)), ⟨trivial, ⟨trivial, trivial⟩⟩⟩⟩⟩, (in_lt hl0_1 hl2_0 (by omega)).1, ⟨trivial, trivial⟩, ⟨rfl, (dd rfl), (dd rfl), (in_lt hl0_1 hl2_0 (by omega)).2⟩⟩ (aC ⟨trivial, ⟨(dd rfl), trivial⟩, (dd rfl), (dd rfl)⟩ (aC (dd rfl) (aC (dd rfl) (aC rfl (aC rfl (aC rfl (aC rfl (aC rfl (aC rfl (aC (dd rfl) (aC rfl (aC (dd rfl) (aC rfl (aC (dd rfl) (aC rfl (AllP_nil))))))))))))))))))))))))))))))))))))))

theorem stir3_body (ky v : List Int) (d : Int) (n cp2 : Nat) (b : List Int) (cp : Nat) (h0 : (n < 35184372088832)) (h1 : (32 ≤ n)) (w : World) (rw : List Nat) (β : Env) : Body Try.prog (tabOf tabDH) Try.f56 ⟨w, rw, 3, β⟩ [.o (.a (.p 0 0)), .o (.a (.sl 1 0 3 cp))] [some ⟨true, [.ints .u8 64 ky, .ints .u8 64 v, .b true, .i .i64 d]⟩, some ⟨false, [.sl 2 0 n cp2, nlA, nlA]⟩, some ⟨false, [.ints .u8 n b]⟩] (fun ys K' => ys = [] ∧ K' = [some ⟨true, [.ints .u8 64 (stK ky v b), .ints .u8 64 (stV ky v b), .b true, .i .i64 d]⟩, some ⟨false, [.sl 2 0 n cp2, nlA, nlA]⟩, some ⟨false, [.ints .u8 n b]⟩]) :=
  Body.lens (c := (Try.f56.body.getD .skip)) rfl fun h => stir3_body0 ky v d n cp2 b cp h0 h1 (h.lens 0 _ .u8 (64 : Nat) ky rfl (by simp)) (h.lens 0 _ .u8 (64 : Nat) v rfl (by simp)) (h.lens 2 _ .u8 n b rfl (by simp)) w rw β

def stir0 (ky v : List Int) : List Int :=
  (stK ky v ([] : List Int))

def stir0_1 (ky v : List Int) : List Int :=
  (stV ky v ([] : List Int))

set_option maxHeartbeats 1000000 in
theorem stir0_body0 (ky v : List Int) (d : Int) (cp : Nat) (hl0_0 : List.length ky = 64) (hl0_1 : List.length v = 64) (w : World) (rw : List Nat) (β : Env) : Body Try.prog (tabOf tabDH) Try.f56 ⟨w, rw, 2, β⟩ [.o (.a (.p 0 0)), .o (.a (.sl 1 0 1 cp))] [some ⟨true, [.ints .u8 64 ky, .ints .u8 64 v, .b true, .i .i64 d]⟩, some ⟨false, [nlA]⟩] (fun ys K' => ys = [] ∧ K' = [some ⟨true, [.ints .u8 64 (stir0 ky v), .ints .u8 64 (stir0_1 ky v), .b true, .i .i64 d]⟩, some ⟨false, [nlA]⟩]) :=
  Body.of_finKAt (Γ := (gmac w rw (gjoin w rw gam17))) (Λ := noLam) (Ψ := psiIf [(10, some (7, 0), [.eqB 0 (⟨true, [.ints .u8 64 (st1K ky v ([] : List Int)), .ints .u8 64 v, .b true, .i .i64 d]⟩)]), (11, some (7, 0), [.eqB 0 (⟨true, [.ints .u8 64 (st1K ky v ([] : List Int)), .ints .u8 64 (st1V ky v ([] : List Int)), .b true, .i .i64 d]⟩)])]) (fuel := 2) (m := 59) (c := (Try.f56.body.getD .skip)) mix tabOkDH (gmac_ok (gjoin_ok (gam17_ok.at _ _))) rfl (rs := []) rfl rfl [true, false, true, false, false, false, false, false, true, true, true, true, true] [.eqB 0 (⟨true, [.ints .u8 64 (stK ky v ([] : List Int)), .ints .u8 64 (stV ky v ([] : List Int)), .b true, .i .i64 d]⟩)] 2
    (vc := [((some ⟨true, [.ints .u8 64 (st1K ky v ([] : List Int)), .ints .u8 64 (st1V ky v ([] : List Int)), .b true, .i .i64 d]⟩ : Option Blk) = some ⟨true, [.ints .u8 64 (stK ky v ([] : List Int)), .ints .u8 64 (stV ky v ([] : List Int)), .b true, .i .i64 d]⟩), cT, cT, cT, cT, cT, ((some ⟨true, [.ints .u8 64 (st1K ky v ([] : List Int)), .ints .u8 64 (macD (st1K ky v ([] : List Int)) (v ++ ([] : List Int))), .b true, .i .i64 d]⟩ : Option Blk) = some ⟨true, [.ints .u8 64 (st1K ky v ([] : List Int)), .ints .u8 64 (st1V ky v ([] : List Int)), .b true, .i .i64 d]⟩), ((1 = 1) ∧ (True ∧ True) ∧ ((List.length (v ++ ([] : List Int))) < 70368744177664) ∧ (True ∧ True) ∧ ((64 = 64) ∧ (cN 64 70368744177664) ∧ (cN 2 4398046511104) ∧ (((List.length (v ++ ([] : List Int))) + 128) < 70368744177664))), ((cZ 0) ∧ (cZ 64)), ((cZ 0) ∧ (cZ 64)), ((some ⟨true, [.ints .u8 64 (macD ky (v ++ ([0] : List Int))), .ints .u8 64 v, .b true, .i .i64 d]⟩ : Option Blk) = some ⟨true, [.ints .u8 64 (st1K ky v ([] : List Int)), .ints .u8 64 v, .b true, .i .i64 d]⟩), ((3 = 3) ∧ (True ∧ ((1 ≤ 1) ∧ (True ∧ True))) ∧ ((List.length (v ++ ([0] : List Int))) < 70368744177664) ∧ (True ∧ True) ∧ ((64 = 64) ∧ (cN 64 70368744177664) ∧ (cN 4 4398046511104) ∧ (((List.length (v ++ ([0] : List Int))) + 128) < 70368744177664))), (True ∧ ((1 ≤ 1) ∧ True) ∧ (cN 2 3) ∧ (72 ≤ 140737488355328)), ((cZ 0) ∧ (cZ 64)), ((cZ 0) ∧ (cZ 64)), (false = false), (false = false), (false = false), (false = false), cT, (false = false), (cI 0 1), cT]) (by kernel_rfl)
    (aC (rfl) (aC rfl (aC rfl (aC rfl (aC rfl (aC rfl (aC ((by rw [List.append_nil]; rfl)) (aC ⟨rfl, ⟨trivial, trivial⟩, (v_lt hl0_1).1, ⟨trivial, trivial⟩, ⟨rfl, (dd rfl), (dd rfl), (v_lt hl0_1).2⟩⟩ (aC (dd rfl) (aC (dd rfl) (aC (rfl) (aC ⟨rfl, ⟨trivial, ⟨(dd rfl), ⟨trivial, trivial⟩⟩⟩, (v0_lt hl0_1).1, ⟨trivial, trivial⟩, ⟨rfl, (dd rfl), (dd rfl), (v0_lt hl0_1).2⟩⟩ (aC ⟨trivial, ⟨(dd rfl), trivial⟩, (dd rfl), (dd rfl)⟩ (aC (dd rfl) (aC (dd rfl) (aC rfl (aC rfl (aC rfl (aC rfl (aC rfl (aC rfl (aC (dd rfl) (aC rfl (AllP_nil))))))))))))))))))))))))

theorem stir0_body (ky v : List Int) (d : Int) (cp : Nat) (w : World) (rw : List Nat) (β : Env) : Body Try.prog (tabOf tabDH) Try.f56 ⟨w, rw, 2, β⟩ [.o (.a (.p 0 0)), .o (.a (.sl 1 0 1 cp))] [some ⟨true, [.ints .u8 64 ky, .ints .u8 64 v, .b true, .i .i64 d]⟩, some ⟨false, [nlA]⟩] (fun ys K' => ys = [] ∧ K' = [some ⟨true, [.ints .u8 64 (stir0 ky v), .ints .u8 64 (stir0_1 ky v), .b true, .i .i64 d]⟩, some ⟨false, [nlA]⟩]) :=
  Body.lens (c := (Try.f56.body.getD .skip)) rfl fun h => stir0_body0 ky v d cp (h.lens 0 _ .u8 (64 : Nat) ky rfl (by simp)) (h.lens 0 _ .u8 (64 : Nat) v rfl (by simp)) w rw β

set_option maxHeartbeats 1000000 in
theorem next_body0 (ky v : List Int) (d : Int) (hl0_0 : List.length ky = 64) (hl0_1 : List.length v = 64) (w : World) (rw : List Nat) (β : Env) : Body Try.prog (tabOf tabDH) Try.f57 ⟨w, rw, 1, β⟩ [.o (.a (.p 0 0))] [some ⟨true, [.ints .u8 64 ky, .ints .u8 64 v, .b true, .i .i64 d]⟩] (fun ys K' => ys = [.a (.sl 0 64 64 64)] ∧ K' = [some ⟨true, [.ints .u8 64 ky, .ints .u8 64 (macD ky v), .b true, .i .i64 d]⟩]) :=
  Body.of_finKAt (Γ := (gmac w rw (gjoin w rw gam17))) (Λ := noLam) (Ψ := noPsi) (fuel := 0) (m := 20) (c := (Try.f57.body.getD .skip)) mix tabOkDH (gmac_ok (gjoin_ok (gam17_ok.at _ _))) rfl (rs := [.tmp 2]) rfl rfl [] [.eqB 0 (⟨true, [.ints .u8 64 ky, .ints .u8 64 (macD ky v), .b true, .i .i64 d]⟩)] 1
    (vc := [((some ⟨true, [.ints .u8 64 ky, .ints .u8 64 (macD ky (v ++ ([] : List Int))), .b true, .i .i64 d]⟩ : Option Blk) = some ⟨true, [.ints .u8 64 ky, .ints .u8 64 (macD ky v), .b true, .i .i64 d]⟩), ((cZ 0) ∧ (cZ 64)), ((1 = 1) ∧ (True ∧ True) ∧ ((List.length (v ++ ([] : List Int))) < 70368744177664) ∧ (True ∧ True) ∧ ((64 = 64) ∧ (cN 64 70368744177664) ∧ (cN 2 4398046511104) ∧ (((List.length (v ++ ([] : List Int))) + 128) < 70368744177664))), ((cZ 0) ∧ (cZ 64)), ((cZ 0) ∧ (cZ 64))]) (by kernel_rfl)
    (aC ((by rw [List.append_nil])) (aC ⟨(by decide), (by decide)⟩ (aC ⟨rfl, ⟨trivial, trivial⟩, (v_lt hl0_1).1, ⟨trivial, trivial⟩, ⟨rfl, (by decide), (by decide), (v_lt hl0_1).2⟩⟩ (aC ⟨(by decide), (by decide)⟩ (aC ⟨(by decide), (by decide)⟩ (AllP_nil))))))

theorem next_body (ky v : List Int) (d : Int) (w : World) (rw : List Nat) (β : Env) : Body Try.prog (tabOf tabDH) Try.f57 ⟨w, rw, 1, β⟩ [.o (.a (.p 0 0))] [some ⟨true, [.ints .u8 64 ky, .ints .u8 64 v, .b true, .i .i64 d]⟩] (fun ys K' => ys = [.a (.sl 0 64 64 64)] ∧ K' = [some ⟨true, [.ints .u8 64 ky, .ints .u8 64 (macD ky v), .b true, .i .i64 d]⟩]) :=
  Body.lens (c := (Try.f57.body.getD .skip)) rfl fun h => next_body0 ky v d (h.lens 0 _ .u8 (64 : Nat) ky rfl (by simp)) (h.lens 0 _ .u8 (64 : Nat) v rfl (by simp)) w rw β

end Go.Proofs.Ytlmdhjojinkdbaa.X

/- Printed by a tool of this session. -/
namespace Go.Proofs.Ytlmdhjojinkdbaa.X
open Go Go.Proofs
set_option linter.unusedVariables false
set_option linter.unusedSimpArgs false
set_option maxRecDepth 100000
theorem teDI_3 : TEOk Try.prog 3 ⟨.int .i64, 1, 8, [.i .i64 (0 : Int)], false⟩ :=
  TEOk.of Try.underlying3 (i := Try.t3) (by kernel_rfl) rfl rfl rfl (by kernel_rfl) (fun h => by cases h) (by kernel_rfl)
theorem teDI_4 : TEOk Try.prog 4 ⟨.bool, 1, 1, [.b false], false⟩ :=
  TEOk.of Try.underlying4 (i := Try.t4) (by kernel_rfl) rfl rfl rfl (by kernel_rfl) (fun h => by cases h) (by kernel_rfl)
theorem teDI_5 : TEOk Try.prog 5 ⟨.int .u8, 1, 1, [.i .u8 (0 : Int)], false⟩ :=
  TEOk.of Try.underlying5 (i := Try.t5) (by kernel_rfl) rfl rfl rfl (by kernel_rfl) (fun h => by cases h) (by kernel_rfl)
theorem teDI_22 : TEOk Try.prog 22 ⟨.slice 5, 1, 24, [.raw (.slice none 0 0)], false⟩ :=
  TEOk.of Try.underlying22 (i := Try.t22) (by kernel_rfl) rfl rfl rfl (by kernel_rfl) (fun h => by cases h) (by kernel_rfl)
theorem teDI_23 : TEOk Try.prog 23 ⟨.slice 22, 1, 24, [.raw (.slice none 0 0)], false⟩ :=
  TEOk.of Try.underlying23 (i := Try.t23) (by kernel_rfl) rfl rfl rfl (by kernel_rfl) (fun h => by cases h) (by kernel_rfl)
theorem teDI_32 : TEOk Try.prog 32 ⟨.array 64 5, 64, 64, [.ints .u8 64 (List.replicate 64 0)], true⟩ :=
  TEOk.of Try.underlying32 (i := Try.t32) (by kernel_rfl) rfl rfl rfl (by kernel_rfl) (fun _ => Try.eqGuardType32) (by kernel_rfl)
theorem teDI_57 : TEOk Try.prog 57 ⟨.pointer 134, 1, 8, [.raw (.pointer none)], false⟩ :=
  TEOk.of Try.underlying57 (i := Try.t57) (by kernel_rfl) rfl rfl rfl (by kernel_rfl) (fun h => by cases h) (by kernel_rfl)
theorem teDI_132 : TEOk Try.prog 132 ⟨Try.t131.desc, 129, 129, [.ints .u8 64 (List.replicate 64 0), .ints .u8 64 (List.replicate 64 0), .b false], false⟩ :=
  TEOk.of Try.underlying132 (i := Try.t132) (by kernel_rfl) rfl rfl rfl (by kernel_rfl) (fun h => by cases h) (by kernel_rfl)
theorem teDI_134 : TEOk Try.prog 134 ⟨Try.t133.desc, 130, 144, [.ints .u8 64 (List.replicate 64 0), .ints .u8 64 (List.replicate 64 0), .b false, .i .i64 (0 : Int)], false⟩ :=
  TEOk.of Try.underlying134 (i := Try.t134) (by kernel_rfl) rfl rfl rfl (by kernel_rfl) (fun h => by cases h) (by kernel_rfl)
noncomputable def tabDI : List (Nat × TE) := [(3, ⟨.int .i64, 1, 8, [.i .i64 (0 : Int)], false⟩), (4, ⟨.bool, 1, 1, [.b false], false⟩), (5, ⟨.int .u8, 1, 1, [.i .u8 (0 : Int)], false⟩), (22, ⟨.slice 5, 1, 24, [nlA], false⟩), (23, ⟨.slice 22, 1, 24, [nlA], false⟩), (32, ⟨.array 64 5, 64, 64, [.ints .u8 64 (List.replicate 64 0)], true⟩), (57, ⟨.pointer 134, 1, 8, [.raw (.pointer none)], false⟩), (132, ⟨Try.t131.desc, 129, 129, [.ints .u8 64 (List.replicate 64 0), .ints .u8 64 (List.replicate 64 0), .b false], false⟩), (134, ⟨Try.t133.desc, 130, 144, [.ints .u8 64 (List.replicate 64 0), .ints .u8 64 (List.replicate 64 0), .b false, .i .i64 (0 : Int)], false⟩)]
theorem tabOkDI : TabOk Try.prog (tabOf tabDI) := (tabOf_cons teDI_3 (tabOf_cons teDI_4 (tabOf_cons teDI_5 (tabOf_cons teDI_22 (tabOf_cons teDI_23 (tabOf_cons teDI_32 (tabOf_cons teDI_57 (tabOf_cons teDI_132 (tabOf_cons teDI_134 tabOf_nil)))))))))

def gam18 : Gam := gcall 56 [true, false, false] [.w, .w] (fun wk vs args => match wk, vs, args with | [⟨true, [.ints .u8 64 ky, .ints .u8 64 v, .b true, .i .i64 d]⟩, ⟨false, [.sl 2 0 n cp2, .raw (.slice none 0 0), .raw (.slice none 0 0)]⟩, ⟨false, [.ints .u8 n_1 b]⟩], [], [.o (.a (.p 0 0)), .o (.a (.sl 1 0 3 cp))] => some ((n_1 = n) ∧ (n < 35184372088832) ∧ (32 ≤ n), [], [some ⟨true, [.ints .u8 64 (stK ky v b), .ints .u8 64 (stV ky v b), .b true, .i .i64 d]⟩, some ⟨false, [.sl 2 0 n cp2, .raw (.slice none 0 0), .raw (.slice none 0 0)]⟩, some ⟨false, [.ints .u8 n b]⟩]) | _, _, _ => none) gam17
theorem gam18_ok : GamOk Try.prog gam18 := gcall_ok tabOkDH Try.func56 gam17_ok Try.call56 (by
  intro wk vs args p xs K1 h hv
  split at h
  · simp only [Option.some.injEq, Prod.mk.injEq] at h; obtain ⟨rfl, rfl, rfl⟩ := h; obtain ⟨g0, g1, g2⟩ := hv; subst g0; exact fun caps w rw β => stir3_body _ _ _ _ _ _ _ g1 g2 w rw β
  · simp at h)

set_option maxHeartbeats 1000000 in
theorem newOk_body0 (n nm : Nat) (b : List Int) (cap0 : Nat) (h0 : (nm = n)) (h1 : (n < 35184372088832)) (h2 : (32 ≤ n)) (hc0 : n ≤ cap0) (hl0_0 : List.length b = nm) (w : World) (rw : List Nat) (β : Env) : Body Try.prog (tabOf tabDI) Try.f21 ⟨w, rw, 1, β⟩ [.o (.a (.sl 0 0 n cap0)), .o (.a nlA), .o (.a nlA)] [some ⟨false, [.ints .u8 nm b]⟩] (fun ys K' => ys = [.a (.p 1 0), .a (.i .i64 (0 : Int))] ∧ K' = [some ⟨false, [.ints .u8 nm b]⟩, some ⟨true, [.ints .u8 64 (nwK b), .ints .u8 64 (nwV b), .b true, .i .i64 (0 : Int)]⟩]) :=
  Body.of_finK (Γ := gam18) (Λ := noLam) (Ψ := noPsi) (fuel := 65) (m := 35) (c := (Try.f21.body.getD .skip)) mix tabOkDI gam18_ok rfl (rs := [.tmp 6, .tmp 7]) rfl rfl [false, true, true, true, true, true, true, true, true, true, true, true, true, true, true, true, true, true, true, true, true, true, true, true, true, true, true, true, true, true, true, true, true, true, true, true, true, true, true, true, true, true, true, true, true, true, true, true, true, true, true, true, true, true, true, true, true, true, true, true, true, true, true, true, true, false] [.eqB 1 (⟨true, [.ints .u8 64 (nwK b), .ints .u8 64 (nwV b), .b true, .i .i64 (0 : Int)]⟩)] 2
    (vc := [((some ⟨true, [.ints .u8 64 (stK (List.replicate 64 0) (List.replicate 64 1) b), .ints .u8 64 (stV (List.replicate 64 0) (List.replicate 64 1) b), .b true, .i .i64 (0 : Int)]⟩ : Option Blk) = some ⟨true, [.ints .u8 64 (nwK b), .ints .u8 64 (nwV b), .b true, .i .i64 (0 : Int)]⟩), ((True ∧ (True ∧ True)) ∧ ((nm = n) ∧ (n < 35184372088832) ∧ (32 ≤ n))), (false = false), (cI 63 64), cT, (cI 62 64), cT, (cI 61 64), cT, (cI 60 64), cT, (cI 59 64), cT, (cI 58 64), cT, (cI 57 64), cT, (cI 56 64), cT, (cI 55 64), cT, (cI 54 64), cT, (cI 53 64), cT, (cI 52 64), cT, (cI 51 64), cT, (cI 50 64), cT, (cI 49 64), cT, (cI 48 64), cT, (cI 47 64), cT, (cI 46 64), cT, (cI 45 64), cT, (cI 44 64), cT, (cI 43 64), cT, (cI 42 64), cT, (cI 41 64), cT, (cI 40 64), cT, (cI 39 64), cT, (cI 38 64), cT, (cI 37 64), cT, (cI 36 64), cT, (cI 35 64), cT, (cI 34 64), cT, (cI 33 64), cT, (cI 32 64), cT, (cI 31 64), cT, (cI 30 64), cT, (cI 29 64), cT, (cI 28 64), cT, (cI 27 64), cT, (cI 26 64), cT, (cI 25 64), cT, (cI 24 64), cT, (cI 23 64), cT, (cI 22 64), cT, (cI 21 64), cT, (cI 20 64), cT, (cI 19 64), cT, (cI 18 64), cT, (cI 17 64), cT, (cI 16 64), cT, (cI 15 64), cT, (cI 14 64), cT, (cI 13 64), cT, (cI 12 64), cT, (cI 11 64), cT, (cI 10 64), cT, (cI 9 64), cT, (cI 8 64), cT, (cI 7 64), cT, (cI 6 64), cT, (cI 5 64), cT, (cI 4 64), cT, (cI 3 64), cT, (cI 2 64), cT, (cI 1 64), cT, (cI 0 64), cT, ((decide (((n : Nat) : Int) < (32 : Int))) = false)]) (by kernel_rfl)
    (aC (rfl) (aC ⟨⟨trivial, ⟨trivial, trivial⟩⟩, ⟨h0, h1, h2⟩⟩ (aC rfl (aC (dd rfl) (aC rfl (aC (dd rfl) (aC rfl (aC (dd rfl) (aC rfl (aC (dd rfl) (aC rfl (aC (dd rfl) (aC rfl (aC (dd rfl) (aC rfl (aC (dd rfl) (aC rfl (aC (dd rfl) (aC rfl (aC (dd rfl) (aC rfl (aC (dd rfl) (aC rfl (aC (dd rfl) (aC rfl (aC (dd rfl) (aC rfl (aC (dd rfl) (aC rfl (aC (dd rfl) (aC rfl (aC (dd rfl) (aC rfl (aC (dd rfl) (aC rfl (aC (dd rfl) (aC rfl (aC (dd rfl) (aC rfl (aC (dd rfl) (aC rfl (aC (dd rfl) (aC rfl (aC (dd rfl) (aC rfl (aC (dd rfl) (aC rfl (aC (dd rfl) (aC rfl (aC (dd rfl) (aC rfl (aC (dd rfl) (aC rfl (aC (dd rfl) (aC rfl (aC (dd rfl) (aC rfl (aC (dd rfl) (aC rfl (aC (dd rfl) (aC rfl (aC (dd rfl) (aC rfl (aC (dd rfl) (aC rfl (aC (dd rfl) (aC rfl (aC (dd rfl) (aC rfl (aC (dd rfl) (aC rfl (aC (dd rfl) (aC rfl (aC (dd rfl) (aC rfl (aC (dd rfl) (aC rfl (aC (dd rfl) (aC rfl (aC (dd rfl) (aC rfl (aC (dd rfl) (aC rfl (aC (dd rfl) (aC rfl (aC (dd rfl) (aC rfl (aC (dd rfl) (aC rfl (aC (dd rfl) (aC rfl (aC (dd rfl) (aC rfl (aC (dd rfl) (aC rfl (aC (dd rfl) (aC rfl (aC (dd rfl) (aC rfl (aC (dd rfl) (aC rfl (aC (dd rfl) (aC rfl (aC (dd rfl) (aC rfl (aC (dd rfl) (aC rfl (aC (dd rfl) (aC rfl (aC (dd rfl) (aC rfl (aC (dd rfl) (aC rfl (aC (dd rfl) (aC rfl (aC (dd rfl) (aC rfl (aC (dd rfl) (aC rfl (aC (dd rfl) (aC rfl (aC (dd rfl) (aC rfl (aC (dd rfl) (aC rfl (aC (dd rfl) (aC rfl (aC (dd rfl) (aC rfl (aC (dd rfl) (aC rfl (aC (decide_eq_false (by first|omega|(simp (disch:=omega) only [wrapI];omega))) (AllP_nil)))))))))))))))))))))))))))))))))))))))))))))))))))))))))))))))))))))))))))))))))))))))))))))))))))))))))))))))))))))))))))))))))))))

theorem newOk_body (n nm : Nat) (b : List Int) (cap0 : Nat) (h0 : (nm = n)) (h1 : (n < 35184372088832)) (h2 : (32 ≤ n)) (w : World) (rw : List Nat) (β : Env) : Body Try.prog (tabOf tabDI) Try.f21 ⟨w, rw, 1, β⟩ [.o (.a (.sl 0 0 n cap0)), .o (.a nlA), .o (.a nlA)] [some ⟨false, [.ints .u8 nm b]⟩] (fun ys K' => ys = [.a (.p 1 0), .a (.i .i64 (0 : Int))] ∧ K' = [some ⟨false, [.ints .u8 nm b]⟩, some ⟨true, [.ints .u8 64 (nwK b), .ints .u8 64 (nwV b), .b true, .i .i64 (0 : Int)]⟩]) :=
  Body.lens (c := (Try.f21.body.getD .skip)) rfl fun h => newOk_body0 n nm b cap0 h0 h1 h2 (h.caps 0 _ _ _ _ rfl) (h.lens 0 _ .u8 nm b rfl (by simp)) w rw β

end Go.Proofs.Ytlmdhjojinkdbaa.X

/- Printed by a tool of this session. -/
namespace Go.Proofs.Ytlmdhjojinkdbaa.X
open Go Go.Proofs
set_option linter.unusedVariables false
set_option linter.unusedSimpArgs false
set_option maxRecDepth 100000
theorem teDJ_3 : TEOk Try.prog 3 ⟨.int .i64, 1, 8, [.i .i64 (0 : Int)], false⟩ :=
  TEOk.of Try.underlying3 (i := Try.t3) (by kernel_rfl) rfl rfl rfl (by kernel_rfl) (fun h => by cases h) (by kernel_rfl)
theorem teDJ_5 : TEOk Try.prog 5 ⟨.int .u8, 1, 1, [.i .u8 (0 : Int)], false⟩ :=
  TEOk.of Try.underlying5 (i := Try.t5) (by kernel_rfl) rfl rfl rfl (by kernel_rfl) (fun h => by cases h) (by kernel_rfl)
theorem teDJ_22 : TEOk Try.prog 22 ⟨.slice 5, 1, 24, [.raw (.slice none 0 0)], false⟩ :=
  TEOk.of Try.underlying22 (i := Try.t22) (by kernel_rfl) rfl rfl rfl (by kernel_rfl) (fun h => by cases h) (by kernel_rfl)
theorem teDJ_23 : TEOk Try.prog 23 ⟨.slice 22, 1, 24, [.raw (.slice none 0 0)], false⟩ :=
  TEOk.of Try.underlying23 (i := Try.t23) (by kernel_rfl) rfl rfl rfl (by kernel_rfl) (fun h => by cases h) (by kernel_rfl)
theorem teDJ_57 : TEOk Try.prog 57 ⟨.pointer 134, 1, 8, [.raw (.pointer none)], false⟩ :=
  TEOk.of Try.underlying57 (i := Try.t57) (by kernel_rfl) rfl rfl rfl (by kernel_rfl) (fun h => by cases h) (by kernel_rfl)
theorem teDJ_132 : TEOk Try.prog 132 ⟨Try.t131.desc, 129, 129, [.ints .u8 64 (List.replicate 64 0), .ints .u8 64 (List.replicate 64 0), .b false], false⟩ :=
  TEOk.of Try.underlying132 (i := Try.t132) (by kernel_rfl) rfl rfl rfl (by kernel_rfl) (fun h => by cases h) (by kernel_rfl)
theorem teDJ_134 : TEOk Try.prog 134 ⟨Try.t133.desc, 130, 144, [.ints .u8 64 (List.replicate 64 0), .ints .u8 64 (List.replicate 64 0), .b false, .i .i64 (0 : Int)], false⟩ :=
  TEOk.of Try.underlying134 (i := Try.t134) (by kernel_rfl) rfl rfl rfl (by kernel_rfl) (fun h => by cases h) (by kernel_rfl)
noncomputable def tabDJ : List (Nat × TE) := [(3, ⟨.int .i64, 1, 8, [.i .i64 (0 : Int)], false⟩), (5, ⟨.int .u8, 1, 1, [.i .u8 (0 : Int)], false⟩), (22, ⟨.slice 5, 1, 24, [nlA], false⟩), (23, ⟨.slice 22, 1, 24, [nlA], false⟩), (57, ⟨.pointer 134, 1, 8, [.raw (.pointer none)], false⟩), (132, ⟨Try.t131.desc, 129, 129, [.ints .u8 64 (List.replicate 64 0), .ints .u8 64 (List.replicate 64 0), .b false], false⟩), (134, ⟨Try.t133.desc, 130, 144, [.ints .u8 64 (List.replicate 64 0), .ints .u8 64 (List.replicate 64 0), .b false, .i .i64 (0 : Int)], false⟩)]
theorem tabOkDJ : TabOk Try.prog (tabOf tabDJ) := (tabOf_cons teDJ_3 (tabOf_cons teDJ_5 (tabOf_cons teDJ_22 (tabOf_cons teDJ_23 (tabOf_cons teDJ_57 (tabOf_cons teDJ_132 (tabOf_cons teDJ_134 tabOf_nil)))))))

def gam20 : Gam := gcall 56 [true, false, false] [.w, .w] (fun wk vs args => match wk, vs, args with | [⟨true, [.ints .u8 64 ky, .ints .u8 64 v, .b true, .i .i64 d]⟩, ⟨false, [.sl 2 0 n cp2]⟩, ⟨false, [.ints .u8 n_1 b]⟩], [], [.o (.a (.p 0 0)), .o (.a (.sl 1 0 1 cp))] => some ((n_1 = n) ∧ (n < 35184372088832), [], [some ⟨true, [.ints .u8 64 (stK ky v b), .ints .u8 64 (stV ky v b), .b true, .i .i64 d]⟩, some ⟨false, [.sl 2 0 n cp2]⟩, some ⟨false, [.ints .u8 n b]⟩]) | _, _, _ => none) gam17
theorem gam20_ok : GamOk Try.prog gam20 := gcall_ok tabOkDH Try.func56 gam17_ok Try.call56 (by
  intro wk vs args p xs K1 h hv
  split at h
  · simp only [Option.some.injEq, Prod.mk.injEq] at h; obtain ⟨rfl, rfl, rfl⟩ := h; obtain ⟨g0, g1⟩ := hv; subst g0; exact fun caps w rw β => stir1_body _ _ _ _ _ _ _ g1 w rw β
  · simp at h)

def gam21 : Gam := gcall 57 [true] [.w] (fun wk vs args => match wk, vs, args with | [⟨true, [.ints .u8 64 ky, .ints .u8 64 v, .b true, .i .i64 d]⟩], [], [.o (.a (.p 0 0))] => some (True, [.a (.sl 0 64 64 64)], [some ⟨true, [.ints .u8 64 ky, .ints .u8 64 (macD ky v), .b true, .i .i64 d]⟩]) | _, _, _ => none) gam20
theorem gam21_ok : GamOk Try.prog gam21 := gcall_ok tabOkDH Try.func57 gam20_ok Try.call57 (by
  intro wk vs args p xs K1 h hv
  split at h
  · simp only [Option.some.injEq, Prod.mk.injEq] at h; obtain ⟨rfl, rfl, rfl⟩ := h; exact fun caps w rw β => next_body _ _ _ w rw β
  · simp at h)

set_option maxHeartbeats 1000000 in
theorem drawN_body0 (ky v : List Int) (d N : Int) (n nm : Nat) (b : List Int) (cap1 : Nat) (h0 : (nm = n)) (h1 : (n < 35184372088832)) (hc1 : n ≤ cap1) (hl0_0 : List.length ky = 64) (hl0_1 : List.length v = 64) (hl1_0 : List.length b = nm) (hn : N < 0) (w : World) (rw : List Nat) (β : Env) : Body Try.prog (tabOf tabDJ) Try.f22 ⟨w, rw, 2, β⟩ [.o (.a (.p 0 0)), .o (.a (.i .i64 N)), .o (.a (.sl 1 0 n cap1))] [some ⟨true, [.ints .u8 64 ky, .ints .u8 64 v, .b true, .i .i64 d]⟩, some ⟨false, [.ints .u8 nm b]⟩] (fun ys K' => ys = [.a (.rs 2 0 (drN N d) 1), .a (.i .i64 (drE N d))] ∧ K' = [some ⟨true, [.ints .u8 64 (drK N d ky v b), .ints .u8 64 (drV N d ky v b), .b true, .i .i64 (drD N d)]⟩, some ⟨false, [.ints .u8 nm b]⟩, some ⟨true, [.ints .u8 (drM N d) (drO N d ky v b)]⟩]) :=
  Body.of_finK (Γ := gam21) (Λ := noLam) (Ψ := noPsi) (fuel := 0) (m := 60) (c := (Try.f22.body.getD .skip)) mix tabOkDJ gam21_ok rfl (rs := [.tmp 6, .tmp 7]) rfl rfl [false, true] [.rowS 6 .u8 1, .eqS 6 (.o (.a (.rs 2 0 (drN N d) 1))), .eqS 7 (.o (.a (.i .i64 (drE N d)))), .eqB 0 (⟨true, [.ints .u8 64 (drK N d ky v b), .ints .u8 64 (drV N d ky v b), .b true, .i .i64 (drD N d)]⟩), .eqB 2 (⟨true, [.ints .u8 (drM N d) (drO N d ky v b)]⟩)] 3
    (vc := [((some ⟨true, [.ints .u8 0 ([] : List Int)]⟩ : Option Blk) = some ⟨true, [.ints .u8 (drM N d) (drO N d ky v b)]⟩), ((some ⟨true, [.ints .u8 64 ky, .ints .u8 64 v, .b true, .i .i64 d]⟩ : Option Blk) = some ⟨true, [.ints .u8 64 (drK N d ky v b), .ints .u8 64 (drV N d ky v b), .b true, .i .i64 (drD N d)]⟩), ((.o (.a (.i .i64 (1 : Int))) : AV) = .o (.a (.i .i64 (drE N d)))), ((.o (.a (.rs 2 0 0 1)) : AV) = .o (.a (.rs 2 0 (drN N d) 1))), ((decide (N < (0 : Int))) = true), (false = false)]) (by kernel_rfl)
    (aC ((by unfold drM drO; rw [dr_bad (by omega)]; rfl)) (aC ((by unfold drK drV drD; rw [dr_bad (by omega)]; rfl)) (aC ((congrArg (fun z => AV.o (.a (.i .i64 z))) (by unfold drE; (repeat' split) <;> omega))) (aC ((by unfold drN; rw [dr_bad (by omega)]; rfl)) (aC (decide_eq_true (by first|omega|(simp (disch:=omega) only [wrapI];omega))) (aC rfl (AllP_nil)))))))

set_option maxHeartbeats 1000000 in
theorem drawM_body0 (ky v : List Int) (d N : Int) (n nm : Nat) (b : List Int) (cap1 : Nat) (h0 : (nm = n)) (h1 : (n < 35184372088832)) (hc1 : n ≤ cap1) (hl0_0 : List.length ky = 64) (hl0_1 : List.length v = 64) (hl1_0 : List.length b = nm) (hn : 65536 < N) (w : World) (rw : List Nat) (β : Env) : Body Try.prog (tabOf tabDJ) Try.f22 ⟨w, rw, 2, β⟩ [.o (.a (.p 0 0)), .o (.a (.i .i64 N)), .o (.a (.sl 1 0 n cap1))] [some ⟨true, [.ints .u8 64 ky, .ints .u8 64 v, .b true, .i .i64 d]⟩, some ⟨false, [.ints .u8 nm b]⟩] (fun ys K' => ys = [.a (.rs 2 0 (drN N d) 1), .a (.i .i64 (drE N d))] ∧ K' = [some ⟨true, [.ints .u8 64 (drK N d ky v b), .ints .u8 64 (drV N d ky v b), .b true, .i .i64 (drD N d)]⟩, some ⟨false, [.ints .u8 nm b]⟩, some ⟨true, [.ints .u8 (drM N d) (drO N d ky v b)]⟩]) :=
  Body.of_finK (Γ := gam21) (Λ := noLam) (Ψ := noPsi) (fuel := 0) (m := 60) (c := (Try.f22.body.getD .skip)) mix tabOkDJ gam21_ok rfl (rs := [.tmp 6, .tmp 7]) rfl rfl [false, false, true] [.rowS 6 .u8 1, .eqS 6 (.o (.a (.rs 2 0 (drN N d) 1))), .eqS 7 (.o (.a (.i .i64 (drE N d)))), .eqB 0 (⟨true, [.ints .u8 64 (drK N d ky v b), .ints .u8 64 (drV N d ky v b), .b true, .i .i64 (drD N d)]⟩), .eqB 2 (⟨true, [.ints .u8 (drM N d) (drO N d ky v b)]⟩)] 3
    (vc := [((some ⟨true, [.ints .u8 0 ([] : List Int)]⟩ : Option Blk) = some ⟨true, [.ints .u8 (drM N d) (drO N d ky v b)]⟩), ((some ⟨true, [.ints .u8 64 ky, .ints .u8 64 v, .b true, .i .i64 d]⟩ : Option Blk) = some ⟨true, [.ints .u8 64 (drK N d ky v b), .ints .u8 64 (drV N d ky v b), .b true, .i .i64 (drD N d)]⟩), ((.o (.a (.i .i64 (113 : Int))) : AV) = .o (.a (.i .i64 (drE N d)))), ((.o (.a (.rs 2 0 0 1)) : AV) = .o (.a (.rs 2 0 (drN N d) 1))), ((decide (N > (65536 : Int))) = true), ((decide (N < (0 : Int))) = false), (false = false)]) (by kernel_rfl)
    (aC ((by unfold drM drO; rw [dr_bad (by omega)]; rfl)) (aC ((by unfold drK drV drD; rw [dr_bad (by omega)]; rfl)) (aC ((congrArg (fun z => AV.o (.a (.i .i64 z))) (by unfold drE; (repeat' split) <;> omega))) (aC ((by unfold drN; rw [dr_bad (by omega)]; rfl)) (aC (decide_eq_true (by first|omega|(simp (disch:=omega) only [wrapI];omega))) (aC (decide_eq_false (by first|omega|(simp (disch:=omega) only [wrapI];omega))) (aC rfl (AllP_nil))))))))

set_option maxHeartbeats 1000000 in
theorem drawD_body0 (ky v : List Int) (d N : Int) (n nm : Nat) (b : List Int) (cap1 : Nat) (h0 : (nm = n)) (h1 : (n < 35184372088832)) (hc1 : n ≤ cap1) (hl0_0 : List.length ky = 64) (hl0_1 : List.length v = 64) (hl1_0 : List.length b = nm) (ha : 0 ≤ N) (hb : N ≤ 65536) (hd : 4096 ≤ d) (w : World) (rw : List Nat) (β : Env) : Body Try.prog (tabOf tabDJ) Try.f22 ⟨w, rw, 2, β⟩ [.o (.a (.p 0 0)), .o (.a (.i .i64 N)), .o (.a (.sl 1 0 n cap1))] [some ⟨true, [.ints .u8 64 ky, .ints .u8 64 v, .b true, .i .i64 d]⟩, some ⟨false, [.ints .u8 nm b]⟩] (fun ys K' => ys = [.a (.rs 2 0 (drN N d) 1), .a (.i .i64 (drE N d))] ∧ K' = [some ⟨true, [.ints .u8 64 (drK N d ky v b), .ints .u8 64 (drV N d ky v b), .b true, .i .i64 (drD N d)]⟩, some ⟨false, [.ints .u8 nm b]⟩, some ⟨true, [.ints .u8 (drM N d) (drO N d ky v b)]⟩]) :=
  Body.of_finK (Γ := gam21) (Λ := noLam) (Ψ := noPsi) (fuel := 0) (m := 60) (c := (Try.f22.body.getD .skip)) mix tabOkDJ gam21_ok rfl (rs := [.tmp 6, .tmp 7]) rfl rfl [false, false, false, true] [.rowS 6 .u8 1, .eqS 6 (.o (.a (.rs 2 0 (drN N d) 1))), .eqS 7 (.o (.a (.i .i64 (drE N d)))), .eqB 0 (⟨true, [.ints .u8 64 (drK N d ky v b), .ints .u8 64 (drV N d ky v b), .b true, .i .i64 (drD N d)]⟩), .eqB 2 (⟨true, [.ints .u8 (drM N d) (drO N d ky v b)]⟩)] 3
    (vc := [((some ⟨true, [.ints .u8 0 ([] : List Int)]⟩ : Option Blk) = some ⟨true, [.ints .u8 (drM N d) (drO N d ky v b)]⟩), ((some ⟨true, [.ints .u8 64 ky, .ints .u8 64 v, .b true, .i .i64 d]⟩ : Option Blk) = some ⟨true, [.ints .u8 64 (drK N d ky v b), .ints .u8 64 (drV N d ky v b), .b true, .i .i64 (drD N d)]⟩), ((.o (.a (.i .i64 (112 : Int))) : AV) = .o (.a (.i .i64 (drE N d)))), ((.o (.a (.rs 2 0 0 1)) : AV) = .o (.a (.rs 2 0 (drN N d) 1))), ((decide (d ≥ (4096 : Int))) = true), ((decide (N > (65536 : Int))) = false), ((decide (N < (0 : Int))) = false), (false = false)]) (by kernel_rfl)
    (aC ((by unfold drM drO; rw [dr_bad (by omega)]; rfl)) (aC ((by unfold drK drV drD; rw [dr_bad (by omega)]; rfl)) (aC ((congrArg (fun z => AV.o (.a (.i .i64 z))) (by unfold drE; (repeat' split) <;> omega))) (aC ((by unfold drN; rw [dr_bad (by omega)]; rfl)) (aC (decide_eq_true (by first|omega|(simp (disch:=omega) only [wrapI];omega))) (aC (decide_eq_false (by first|omega|(simp (disch:=omega) only [wrapI];omega))) (aC (decide_eq_false (by first|omega|(simp (disch:=omega) only [wrapI];omega))) (aC rfl (AllP_nil)))))))))

def drawZL_mk (ky v : List Int) (d N : Int) (n nm : Nat) (b : List Int) (cap1 k : Nat) (s : Unit) : St := ⟨sparse 60 [(0, .o (.a (.p 0 0))), (1, .o (.a (.i .i64 N))), (2, .o (.a (.sl 1 0 n cap1))), (6, .o (.a nlA)), (7, .o (.a (.i .i64 (0 : Int)))), (8, .o (.a (.rs 2 0 (64 * k) 1)))], [some ⟨true, [.ints .u8 64 (d1K ky v b), .ints .u8 64 (nxV (d1K ky v b) (d1V ky v b) k), .b true, .i .i64 d]⟩, some ⟨false, [.ints .u8 nm b]⟩, some ⟨true, [.ints .u8 (64 * k) (nxO (d1K ky v b) (d1V ky v b) k)]⟩]⟩

def drawZL_step (k : Nat) (s : Unit) : Unit :=
  ()

set_option maxHeartbeats 1000000 in
theorem drawZL_round (ky v : List Int) (d N : Int) (n nm : Nat) (b : List Int) (cap1 : Nat) (h0 : (nm = n)) (h1 : (n < 35184372088832)) (hc1 : n ≤ cap1) (hl0_0 : List.length ky = 64) (hl0_1 : List.length v = 64) (hl1_0 : List.length b = nm) (ha : 0 ≤ N) (hb : N ≤ 65536) (hd : d < 4096) (hz : n = 0) (w : World) (rw : List Nat) (β : Env) (k : Nat) (hk : k < (rnds N)) (s : Unit) : Run Try.prog ⟨w, rw, 2, β⟩ (loopB Try.f22 1) (drawZL_mk ky v d N n nm b cap1 k s) (To ⟨w, rw, 2, β⟩ .normal (drawZL_mk ky v d N n nm b cap1 (k + 1) (drawZL_step k s))) := by
  have e0 : ((sub (nxO (d1K ky v b) (d1V ky v b) k) (0 : Nat) ((64 : Nat) * k)) ++ (macD (d1K ky v b) (nxV (d1K ky v b) (d1V ky v b) k))) = (nxO (d1K ky v b) (d1V ky v b) (k + (1 : Nat))) := (by first | omega | rfl | exact nxO_step2 rfl)
  have e1 : (macD (d1K ky v b) (nxV (d1K ky v b) (d1V ky v b) k)) = (nxV (d1K ky v b) (d1V ky v b) (k + (1 : Nat))) := (by first | omega | rfl | exact nxO_step2 rfl)
  have e2 : (((64 : Nat) * k) + (64 : Nat)) = ((64 : Nat) * (k + (1 : Nat))) := (by first | omega | rfl | exact nxO_step2 rfl)
  have h := Run.of_outT (B := ⟨w, rw, 2, β⟩) (Λ := noLam) (Ψ := noPsi) (fuel := 0) (ora := [true, false]) (c := (loopB Try.f22 1)) (st := (drawZL_mk ky v d N n nm b cap1 k s)) (l := [.swap 2 3, .forget [0, 1, 2, 6, 7, 8] 3]) (s' := ⟨sparse 60 [(0, .o (.a (.p 0 0))), (1, .o (.a (.i .i64 N))), (2, .o (.a (.sl 1 0 n cap1))), (6, .o (.a nlA)), (7, .o (.a (.i .i64 (0 : Int)))), (8, .o (.a (.rs 2 0 ((64 * k) + 64) 1)))], [some ⟨true, [.ints .u8 64 (d1K ky v b), .ints .u8 64 (macD (d1K ky v b) (nxV (d1K ky v b) (d1V ky v b) k)), .b true, .i .i64 d]⟩, some ⟨false, [.ints .u8 nm b]⟩, some ⟨true, [.ints .u8 ((64 * k) + 64) ((sub (nxO (d1K ky v b) (d1V ky v b) k) 0 (64 * k)) ++ (macD (d1K ky v b) (nxV (d1K ky v b) (d1V ky v b) k)))]⟩]⟩) (ex := .normal) mix tabOkDJ gam21_ok
    (vc := [(((0 + (64 * k)) ≤ (64 * k)) ∧ ((64 ≤ 64) ∧ True) ∧ ((((64 * k) + 64) * 1) ≤ 140737488355328)), ((True ∧ True) ∧ True), ((decide ((((64 * k) : Nat) : Int) < N)) = true)]) (by kernel_rfl)
    (aC ⟨(by have hq := rnds_lt hk; first | omega | (simp (disch := omega) only [wrapI]; omega)), ⟨(dd rfl), trivial⟩, (by have hq := rnds_lt hk; first | omega | (simp (disch := omega) only [wrapI]; omega))⟩ (aC ⟨⟨trivial, trivial⟩, trivial⟩ (aC (decide_eq_true (by have hq := rnds_lt hk; omega)) (AllP_nil))))
  rw [e0, e1, e2] at h
  exact h

set_option maxHeartbeats 1000000 in
theorem drawZL_last (ky v : List Int) (d N : Int) (n nm : Nat) (b : List Int) (cap1 : Nat) (h0 : (nm = n)) (h1 : (n < 35184372088832)) (hc1 : n ≤ cap1) (hl0_0 : List.length ky = 64) (hl0_1 : List.length v = 64) (hl1_0 : List.length b = nm) (ha : 0 ≤ N) (hb : N ≤ 65536) (hd : d < 4096) (hz : n = 0) (w : World) (rw : List Nat) (β : Env) (s : Unit) : Run Try.prog ⟨w, rw, 2, β⟩ (loopB Try.f22 1) (drawZL_mk ky v d N n nm b cap1 (rnds N) s) (To ⟨w, rw, 2, β⟩ (.exit 1) (drawZL_mk ky v d N n nm b cap1 (rnds N) s)) :=
  Run.of_outT (B := ⟨w, rw, 2, β⟩) (Λ := noLam) (Ψ := noPsi) (fuel := 0) (ora := [false]) (l := [.forget [0, 1, 2, 6, 7, 8] 3]) mix tabOkDJ gam21_ok
    (vc := [((decide (((((64 : Nat) * (rnds N)) : Nat) : Int) < N)) = false)]) (by kernel_rfl)
    (aC (decide_eq_false (by have hq := rnds_ge N; omega)) (AllP_nil))

theorem drawZL_loop (ky v : List Int) (d N : Int) (n nm : Nat) (b : List Int) (cap1 : Nat) (h0 : (nm = n)) (h1 : (n < 35184372088832)) (hc1 : n ≤ cap1) (hl0_0 : List.length ky = 64) (hl0_1 : List.length v = 64) (hl1_0 : List.length b = nm) (ha : 0 ≤ N) (hb : N ≤ 65536) (hd : d < 4096) (hz : n = 0) (w : World) (rw : List Nat) (β : Env) (s : Unit) : Run Try.prog ⟨w, rw, 2, β⟩ (.block 1 (.loop (loopB Try.f22 1))) (drawZL_mk ky v d N n nm b cap1 0 s) (To ⟨w, rw, 2, β⟩ .normal (drawZL_mk ky v d N n nm b cap1 (rnds N) (iter (drawZL_step) (rnds N) s))) :=
  Run.count (fun k => drawZL_mk ky v d N n nm b cap1 k (iter (drawZL_step) k s)) (rnds N) (fun k hk => drawZL_round ky v d N n nm b cap1 h0 h1 hc1 hl0_0 hl0_1 hl1_0 ha hb hd hz w rw β k hk _) (ex := (.exit 1)) (by simp) (drawZL_last ky v d N n nm b cap1 h0 h1 hc1 hl0_0 hl0_1 hl1_0 ha hb hd hz w rw β _)

set_option maxHeartbeats 1000000 in
theorem drawZ_body0 (ky v : List Int) (d N : Int) (n nm : Nat) (b : List Int) (cap1 : Nat) (h0 : (nm = n)) (h1 : (n < 35184372088832)) (hc1 : n ≤ cap1) (hl0_0 : List.length ky = 64) (hl0_1 : List.length v = 64) (hl1_0 : List.length b = nm) (ha : 0 ≤ N) (hb : N ≤ 65536) (hd : d < 4096) (hz : n = 0) (w : World) (rw : List Nat) (β : Env) : Body Try.prog (tabOf tabDJ) Try.f22 ⟨w, rw, 2, β⟩ [.o (.a (.p 0 0)), .o (.a (.i .i64 N)), .o (.a (.sl 1 0 n cap1))] [some ⟨true, [.ints .u8 64 ky, .ints .u8 64 v, .b true, .i .i64 d]⟩, some ⟨false, [.ints .u8 nm b]⟩] (fun ys K' => ys = [.a (.rs 2 0 (drN N d) 1), .a (.i .i64 (drE N d))] ∧ K' = [some ⟨true, [.ints .u8 64 (drK N d ky v b), .ints .u8 64 (drV N d ky v b), .b true, .i .i64 (drD N d)]⟩, some ⟨false, [.ints .u8 nm b]⟩, some ⟨true, [.ints .u8 (drM N d) (drO N d ky v b)]⟩]) :=
  Body.of_finK (Γ := gam21) (Λ := lamOf [(1, ⟨[.rowS 8 .u8 1, .forget [0, 1, 2, 6, 7, 8] 3], .normal, (drawZL_mk ky v d N n nm b cap1 (rnds N) (iter (drawZL_step) (rnds N) ()))⟩)]) (Ψ := psiOf [(11, [.eqB 0 (⟨true, [.ints .u8 64 (d1K ky v b), .ints .u8 64 (d1V ky v b), .b true, .i .i64 d]⟩)])]) (fuel := 0) (m := 60) (c := (Try.f22.body.getD .skip)) mix tabOkDJ gam21_ok rfl (rs := [.tmp 6, .tmp 7]) rfl rfl [false, false, false, false, false] [.slrs 6 1, .eqS 6 (.o (.a (.rs 2 0 (drN N d) 1))), .eqS 7 (.o (.a (.i .i64 (drE N d)))), .eqB 0 (⟨true, [.ints .u8 64 (drK N d ky v b), .ints .u8 64 (drV N d ky v b), .b true, .i .i64 (drD N d)]⟩), .eqB 2 (⟨true, [.ints .u8 (drM N d) (drO N d ky v b)]⟩)] 3
    (vc := [((some ⟨true, [.ints .u8 (64 * (rnds N)) (nxO (d1K ky v b) (d1V ky v b) (rnds N))]⟩ : Option Blk) = some ⟨true, [.ints .u8 (drM N d) (drO N d ky v b)]⟩), ((some ⟨true, [.ints .u8 64 (stK (d1K ky v b) (nxV (d1K ky v b) (d1V ky v b) (rnds N)) b), .ints .u8 64 (stV (d1K ky v b) (nxV (d1K ky v b) (d1V ky v b) (rnds N)) b), .b true, .i .i64 (IntKind.i64.wrap (d + (1 : Int)))]⟩ : Option Blk) = some ⟨true, [.ints .u8 64 (drK N d ky v b), .ints .u8 64 (drV N d ky v b), .b true, .i .i64 (drD N d)]⟩), ((.o (.a (.i .i64 (0 : Int))) : AV) = .o (.a (.i .i64 (drE N d)))), ((.o (.a (.rs 2 0 (Int.toNat N) 1)) : AV) = .o (.a (.rs 2 0 (drN N d) 1))), ((0 + (Int.toNat N)) ≤ (64 * (rnds N))), ((cZ 0) ∧ ((0 : Int) ≤ N) ∧ (N ≤ N) ∧ (N ≤ (((64 * (rnds N)) : Nat) : Int))), ((True ∧ (True ∧ True)) ∧ ((nm = n) ∧ (n < 35184372088832))), (Run Try.prog ⟨w, rw, 2, β⟩ (.block 1 (.loop (loopB Try.f22 1))) (drawZL_mk ky v d N n nm b cap1 0 ()) (To ⟨w, rw, 2, β⟩ .normal (drawZL_mk ky v d N n nm b cap1 (rnds N) (iter (drawZL_step) (rnds N) ())))), ((some ⟨true, [.ints .u8 64 ky, .ints .u8 64 v, .b true, .i .i64 d]⟩ : Option Blk) = some ⟨true, [.ints .u8 64 (d1K ky v b), .ints .u8 64 (d1V ky v b), .b true, .i .i64 d]⟩), ((decide (((n : Nat) : Int) > (0 : Int))) = false), ((decide (d ≥ (4096 : Int))) = false), ((decide (N > (65536 : Int))) = false), ((decide (N < (0 : Int))) = false), (false = false)]) (by kernel_rfl)
    (aC ((by unfold drM drO; rw [dr_ok ha hb hd]; rfl)) (aC ((by unfold drK drV drD; rw [dr_ok ha hb hd]; rfl)) (aC ((congrArg (fun z => AV.o (.a (.i .i64 z))) (by unfold drE; (repeat' split) <;> omega))) (aC ((by unfold drN; rw [dr_ok ha hb hd]; rfl)) (aC (by have hq := rnds_ge N; omega) (aC ⟨(dd rfl), (by first|omega|(simp (disch:=omega) only [wrapI];omega)), (by first|omega|(simp (disch:=omega) only [wrapI];omega)), (by have hq := rnds_ge N; omega)⟩ (aC ⟨⟨trivial, ⟨trivial, trivial⟩⟩, ⟨h0, h1⟩⟩ (aC (drawZL_loop ky v d N n nm b cap1 h0 h1 hc1 hl0_0 hl0_1 hl1_0 ha hb hd hz w rw β ()) (aC ((by unfold d1K d1V; rw [if_pos (hl1_0.trans (h0.trans hz)), if_pos (hl1_0.trans (h0.trans hz))])) (aC (decide_eq_false (by first|omega|(simp (disch:=omega) only [wrapI];omega))) (aC (decide_eq_false (by first|omega|(simp (disch:=omega) only [wrapI];omega))) (aC (decide_eq_false (by first|omega|(simp (disch:=omega) only [wrapI];omega))) (aC (decide_eq_false (by first|omega|(simp (disch:=omega) only [wrapI];omega))) (aC rfl (AllP_nil)))))))))))))))

def drawPL_mk (ky v : List Int) (d N : Int) (n nm : Nat) (b : List Int) (cap1 k : Nat) (s : Unit) : St := ⟨sparse 60 [(0, .o (.a (.p 0 0))), (1, .o (.a (.i .i64 N))), (2, .o (.a (.sl 1 0 n cap1))), (6, .o (.a nlA)), (7, .o (.a (.i .i64 (0 : Int)))), (8, .o (.a (.rs 3 0 (64 * k) 1)))], [some ⟨true, [.ints .u8 64 (d1K ky v b), .ints .u8 64 (nxV (d1K ky v b) (d1V ky v b) k), .b true, .i .i64 d]⟩, some ⟨false, [.ints .u8 nm b]⟩, some ⟨true, [.sl 1 0 n cap1]⟩, some ⟨true, [.ints .u8 (64 * k) (nxO (d1K ky v b) (d1V ky v b) k)]⟩]⟩

def drawPL_step (k : Nat) (s : Unit) : Unit :=
  ()

set_option maxHeartbeats 1000000 in
theorem drawPL_round (ky v : List Int) (d N : Int) (n nm : Nat) (b : List Int) (cap1 : Nat) (h0 : (nm = n)) (h1 : (n < 35184372088832)) (hc1 : n ≤ cap1) (hl0_0 : List.length ky = 64) (hl0_1 : List.length v = 64) (hl1_0 : List.length b = nm) (ha : 0 ≤ N) (hb : N ≤ 65536) (hd : d < 4096) (hz : 0 < n) (w : World) (rw : List Nat) (β : Env) (k : Nat) (hk : k < (rnds N)) (s : Unit) : Run Try.prog ⟨w, rw, 2, β⟩ (loopB Try.f22 1) (drawPL_mk ky v d N n nm b cap1 k s) (To ⟨w, rw, 2, β⟩ .normal (drawPL_mk ky v d N n nm b cap1 (k + 1) (drawPL_step k s))) := by
  have e0 : ((sub (nxO (d1K ky v b) (d1V ky v b) k) (0 : Nat) ((64 : Nat) * k)) ++ (macD (d1K ky v b) (nxV (d1K ky v b) (d1V ky v b) k))) = (nxO (d1K ky v b) (d1V ky v b) (k + (1 : Nat))) := (by first | omega | rfl | exact nxO_step2 rfl)
  have e1 : (macD (d1K ky v b) (nxV (d1K ky v b) (d1V ky v b) k)) = (nxV (d1K ky v b) (d1V ky v b) (k + (1 : Nat))) := (by first | omega | rfl | exact nxO_step2 rfl)
  have e2 : (((64 : Nat) * k) + (64 : Nat)) = ((64 : Nat) * (k + (1 : Nat))) := (by first | omega | rfl | exact nxO_step2 rfl)
  have h := Run.of_outT (B := ⟨w, rw, 2, β⟩) (Λ := noLam) (Ψ := noPsi) (fuel := 0) (ora := [true, false]) (c := (loopB Try.f22 1)) (st := (drawPL_mk ky v d N n nm b cap1 k s)) (l := [.swap 3 4, .forget [0, 1, 2, 6, 7, 8] 4]) (s' := ⟨sparse 60 [(0, .o (.a (.p 0 0))), (1, .o (.a (.i .i64 N))), (2, .o (.a (.sl 1 0 n cap1))), (6, .o (.a nlA)), (7, .o (.a (.i .i64 (0 : Int)))), (8, .o (.a (.rs 3 0 ((64 * k) + 64) 1)))], [some ⟨true, [.ints .u8 64 (d1K ky v b), .ints .u8 64 (macD (d1K ky v b) (nxV (d1K ky v b) (d1V ky v b) k)), .b true, .i .i64 d]⟩, some ⟨false, [.ints .u8 nm b]⟩, some ⟨true, [.sl 1 0 n cap1]⟩, some ⟨true, [.ints .u8 ((64 * k) + 64) ((sub (nxO (d1K ky v b) (d1V ky v b) k) 0 (64 * k)) ++ (macD (d1K ky v b) (nxV (d1K ky v b) (d1V ky v b) k)))]⟩]⟩) (ex := .normal) mix tabOkDJ gam21_ok
    (vc := [(((0 + (64 * k)) ≤ (64 * k)) ∧ ((64 ≤ 64) ∧ True) ∧ ((((64 * k) + 64) * 1) ≤ 140737488355328)), ((True ∧ True) ∧ True), ((decide ((((64 * k) : Nat) : Int) < N)) = true)]) (by kernel_rfl)
    (aC ⟨(by have hq := rnds_lt hk; first | omega | (simp (disch := omega) only [wrapI]; omega)), ⟨(dd rfl), trivial⟩, (by have hq := rnds_lt hk; first | omega | (simp (disch := omega) only [wrapI]; omega))⟩ (aC ⟨⟨trivial, trivial⟩, trivial⟩ (aC (decide_eq_true (by have hq := rnds_lt hk; omega)) (AllP_nil))))
  rw [e0, e1, e2] at h
  exact h

set_option maxHeartbeats 1000000 in
theorem drawPL_last (ky v : List Int) (d N : Int) (n nm : Nat) (b : List Int) (cap1 : Nat) (h0 : (nm = n)) (h1 : (n < 35184372088832)) (hc1 : n ≤ cap1) (hl0_0 : List.length ky = 64) (hl0_1 : List.length v = 64) (hl1_0 : List.length b = nm) (ha : 0 ≤ N) (hb : N ≤ 65536) (hd : d < 4096) (hz : 0 < n) (w : World) (rw : List Nat) (β : Env) (s : Unit) : Run Try.prog ⟨w, rw, 2, β⟩ (loopB Try.f22 1) (drawPL_mk ky v d N n nm b cap1 (rnds N) s) (To ⟨w, rw, 2, β⟩ (.exit 1) (drawPL_mk ky v d N n nm b cap1 (rnds N) s)) :=
  Run.of_outT (B := ⟨w, rw, 2, β⟩) (Λ := noLam) (Ψ := noPsi) (fuel := 0) (ora := [false]) (l := [.forget [0, 1, 2, 6, 7, 8] 4]) mix tabOkDJ gam21_ok
    (vc := [((decide (((((64 : Nat) * (rnds N)) : Nat) : Int) < N)) = false)]) (by kernel_rfl)
    (aC (decide_eq_false (by have hq := rnds_ge N; omega)) (AllP_nil))

theorem drawPL_loop (ky v : List Int) (d N : Int) (n nm : Nat) (b : List Int) (cap1 : Nat) (h0 : (nm = n)) (h1 : (n < 35184372088832)) (hc1 : n ≤ cap1) (hl0_0 : List.length ky = 64) (hl0_1 : List.length v = 64) (hl1_0 : List.length b = nm) (ha : 0 ≤ N) (hb : N ≤ 65536) (hd : d < 4096) (hz : 0 < n) (w : World) (rw : List Nat) (β : Env) (s : Unit) : Run Try.prog ⟨w, rw, 2, β⟩ (.block 1 (.loop (loopB Try.f22 1))) (drawPL_mk ky v d N n nm b cap1 0 s) (To ⟨w, rw, 2, β⟩ .normal (drawPL_mk ky v d N n nm b cap1 (rnds N) (iter (drawPL_step) (rnds N) s))) :=
  Run.count (fun k => drawPL_mk ky v d N n nm b cap1 k (iter (drawPL_step) k s)) (rnds N) (fun k hk => drawPL_round ky v d N n nm b cap1 h0 h1 hc1 hl0_0 hl0_1 hl1_0 ha hb hd hz w rw β k hk _) (ex := (.exit 1)) (by simp) (drawPL_last ky v d N n nm b cap1 h0 h1 hc1 hl0_0 hl0_1 hl1_0 ha hb hd hz w rw β _)

set_option maxHeartbeats 1000000 in
theorem drawP_body0 (ky v : List Int) (d N : Int) (n nm : Nat) (b : List Int) (cap1 : Nat) (h0 : (nm = n)) (h1 : (n < 35184372088832)) (hc1 : n ≤ cap1) (hl0_0 : List.length ky = 64) (hl0_1 : List.length v = 64) (hl1_0 : List.length b = nm) (ha : 0 ≤ N) (hb : N ≤ 65536) (hd : d < 4096) (hz : 0 < n) (w : World) (rw : List Nat) (β : Env) : Body Try.prog (tabOf tabDJ) Try.f22 ⟨w, rw, 2, β⟩ [.o (.a (.p 0 0)), .o (.a (.i .i64 N)), .o (.a (.sl 1 0 n cap1))] [some ⟨true, [.ints .u8 64 ky, .ints .u8 64 v, .b true, .i .i64 d]⟩, some ⟨false, [.ints .u8 nm b]⟩] (fun ys K' => ys = [.a (.rs 2 0 (drN N d) 1), .a (.i .i64 (drE N d))] ∧ K' = [some ⟨true, [.ints .u8 64 (drK N d ky v b), .ints .u8 64 (drV N d ky v b), .b true, .i .i64 (drD N d)]⟩, some ⟨false, [.ints .u8 nm b]⟩, some ⟨true, [.ints .u8 (drM N d) (drO N d ky v b)]⟩]) :=
  Body.of_finK (Γ := gam21) (Λ := lamOf [(1, ⟨[.rowS 8 .u8 1, .forget [0, 1, 2, 6, 7, 8] 4], .normal, (drawPL_mk ky v d N n nm b cap1 (rnds N) (iter (drawPL_step) (rnds N) ()))⟩)]) (Ψ := psiOf [(10, [.eqB 0 (⟨true, [.ints .u8 64 (d1K ky v b), .ints .u8 64 (d1V ky v b), .b true, .i .i64 d]⟩)])]) (fuel := 0) (m := 60) (c := (Try.f22.body.getD .skip)) mix tabOkDJ gam21_ok rfl (rs := [.tmp 6, .tmp 7]) rfl rfl [false, false, false, false, true] [.slrs 6 1, .eqS 6 (.o (.a (.rs 3 0 (drN N d) 1))), .eqS 7 (.o (.a (.i .i64 (drE N d)))), .eqB 0 (⟨true, [.ints .u8 64 (drK N d ky v b), .ints .u8 64 (drV N d ky v b), .b true, .i .i64 (drD N d)]⟩), .eqB 3 (⟨true, [.ints .u8 (drM N d) (drO N d ky v b)]⟩), .swap 2 3] 3
    (vc := [((some ⟨true, [.ints .u8 (64 * (rnds N)) (nxO (d1K ky v b) (d1V ky v b) (rnds N))]⟩ : Option Blk) = some ⟨true, [.ints .u8 (drM N d) (drO N d ky v b)]⟩), ((some ⟨true, [.ints .u8 64 (stK (d1K ky v b) (nxV (d1K ky v b) (d1V ky v b) (rnds N)) b), .ints .u8 64 (stV (d1K ky v b) (nxV (d1K ky v b) (d1V ky v b) (rnds N)) b), .b true, .i .i64 (IntKind.i64.wrap (d + (1 : Int)))]⟩ : Option Blk) = some ⟨true, [.ints .u8 64 (drK N d ky v b), .ints .u8 64 (drV N d ky v b), .b true, .i .i64 (drD N d)]⟩), ((.o (.a (.i .i64 (0 : Int))) : AV) = .o (.a (.i .i64 (drE N d)))), ((.o (.a (.rs 3 0 (Int.toNat N) 1)) : AV) = .o (.a (.rs 3 0 (drN N d) 1))), ((0 + (Int.toNat N)) ≤ (64 * (rnds N))), ((cZ 0) ∧ ((0 : Int) ≤ N) ∧ (N ≤ N) ∧ (N ≤ (((64 * (rnds N)) : Nat) : Int))), ((True ∧ (True ∧ True)) ∧ ((nm = n) ∧ (n < 35184372088832))), (Run Try.prog ⟨w, rw, 2, β⟩ (.block 1 (.loop (loopB Try.f22 1))) (drawPL_mk ky v d N n nm b cap1 0 ()) (To ⟨w, rw, 2, β⟩ .normal (drawPL_mk ky v d N n nm b cap1 (rnds N) (iter (drawPL_step) (rnds N) ())))), ((some ⟨true, [.ints .u8 64 (stK ky v b), .ints .u8 64 (stV ky v b), .b true, .i .i64 d]⟩ : Option Blk) = some ⟨true, [.ints .u8 64 (d1K ky v b), .ints .u8 64 (d1V ky v b), .b true, .i .i64 d]⟩), ((True ∧ (True ∧ True)) ∧ ((nm = n) ∧ (n < 35184372088832))), ((decide (((n : Nat) : Int) > (0 : Int))) = true), ((decide (d ≥ (4096 : Int))) = false), ((decide (N > (65536 : Int))) = false), ((decide (N < (0 : Int))) = false), (false = false)]) (by kernel_rfl)
    (aC ((by unfold drM drO; rw [dr_ok ha hb hd]; rfl)) (aC ((by unfold drK drV drD; rw [dr_ok ha hb hd]; rfl)) (aC ((congrArg (fun z => AV.o (.a (.i .i64 z))) (by unfold drE; (repeat' split) <;> omega))) (aC ((by unfold drN; rw [dr_ok ha hb hd]; rfl)) (aC (by have hq := rnds_ge N; omega) (aC ⟨(dd rfl), (by first|omega|(simp (disch:=omega) only [wrapI];omega)), (by first|omega|(simp (disch:=omega) only [wrapI];omega)), (by have hq := rnds_ge N; omega)⟩ (aC ⟨⟨trivial, ⟨trivial, trivial⟩⟩, ⟨h0, h1⟩⟩ (aC (drawPL_loop ky v d N n nm b cap1 h0 h1 hc1 hl0_0 hl0_1 hl1_0 ha hb hd hz w rw β ()) (aC ((by unfold d1K d1V; rw [if_neg (by rw [hl1_0]; omega), if_neg (by rw [hl1_0]; omega)])) (aC ⟨⟨trivial, ⟨trivial, trivial⟩⟩, ⟨h0, h1⟩⟩ (aC (decide_eq_true (by first|omega|(simp (disch:=omega) only [wrapI];omega))) (aC (decide_eq_false (by first|omega|(simp (disch:=omega) only [wrapI];omega))) (aC (decide_eq_false (by first|omega|(simp (disch:=omega) only [wrapI];omega))) (aC (decide_eq_false (by first|omega|(simp (disch:=omega) only [wrapI];omega))) (aC rfl (AllP_nil))))))))))))))))

theorem draw_body (ky v : List Int) (d N : Int) (n nm : Nat) (b : List Int) (cap1 : Nat) (h0 : (nm = n)) (h1 : (n < 35184372088832)) (w : World) (rw : List Nat) (β : Env) : Body Try.prog (tabOf tabDJ) Try.f22 ⟨w, rw, 2, β⟩ [.o (.a (.p 0 0)), .o (.a (.i .i64 N)), .o (.a (.sl 1 0 n cap1))] [some ⟨true, [.ints .u8 64 ky, .ints .u8 64 v, .b true, .i .i64 d]⟩, some ⟨false, [.ints .u8 nm b]⟩] (fun ys K' => ys = [.a (.rs 2 0 (drN N d) 1), .a (.i .i64 (drE N d))] ∧ K' = [some ⟨true, [.ints .u8 64 (drK N d ky v b), .ints .u8 64 (drV N d ky v b), .b true, .i .i64 (drD N d)]⟩, some ⟨false, [.ints .u8 nm b]⟩, some ⟨true, [.ints .u8 (drM N d) (drO N d ky v b)]⟩]) :=
  Body.lens (c := (Try.f22.body.getD .skip)) rfl fun h => by
  by_cases hn : N < 0
  · exact drawN_body0 ky v d N n nm b cap1 h0 h1 (h.caps 2 _ _ _ _ rfl) (h.lens 0 _ .u8 (64 : Nat) ky rfl (by simp)) (h.lens 0 _ .u8 (64 : Nat) v rfl (by simp)) (h.lens 1 _ .u8 nm b rfl (by simp)) hn w rw β
  by_cases hm : 65536 < N
  · exact drawM_body0 ky v d N n nm b cap1 h0 h1 (h.caps 2 _ _ _ _ rfl) (h.lens 0 _ .u8 (64 : Nat) ky rfl (by simp)) (h.lens 0 _ .u8 (64 : Nat) v rfl (by simp)) (h.lens 1 _ .u8 nm b rfl (by simp)) hm w rw β
  by_cases hd : 4096 ≤ d
  · exact drawD_body0 ky v d N n nm b cap1 h0 h1 (h.caps 2 _ _ _ _ rfl) (h.lens 0 _ .u8 (64 : Nat) ky rfl (by simp)) (h.lens 0 _ .u8 (64 : Nat) v rfl (by simp)) (h.lens 1 _ .u8 nm b rfl (by simp)) (by omega) (by omega) hd w rw β
  by_cases hz : n = 0
  · exact drawZ_body0 ky v d N n nm b cap1 h0 h1 (h.caps 2 _ _ _ _ rfl) (h.lens 0 _ .u8 (64 : Nat) ky rfl (by simp)) (h.lens 0 _ .u8 (64 : Nat) v rfl (by simp)) (h.lens 1 _ .u8 nm b rfl (by simp)) (by omega) (by omega) (by omega) hz w rw β
  · exact drawP_body0 ky v d N n nm b cap1 h0 h1 (h.caps 2 _ _ _ _ rfl) (h.lens 0 _ .u8 (64 : Nat) ky rfl (by simp)) (h.lens 0 _ .u8 (64 : Nat) v rfl (by simp)) (h.lens 1 _ .u8 nm b rfl (by simp)) (by omega) (by omega) (by omega) (by omega) w rw β

def gam22 : Gam := gcall 56 [true, false] [.w, .w] (fun wk vs args => match wk, vs, args with | [⟨true, [.ints .u8 64 ky, .ints .u8 64 v, .b true, .i .i64 d]⟩, ⟨false, [.raw (.slice none 0 0)]⟩], [], [.o (.a (.p 0 0)), .o (.a (.sl 1 0 1 cp))] => some (True, [], [some ⟨true, [.ints .u8 64 (stir0 ky v), .ints .u8 64 (stir0_1 ky v), .b true, .i .i64 d]⟩, some ⟨false, [.raw (.slice none 0 0)]⟩]) | _, _, _ => none) gam17
theorem gam22_ok : GamOk Try.prog gam22 := gcall_ok tabOkDH Try.func56 gam17_ok Try.call56 (by
  intro wk vs args p xs K1 h hv
  split at h
  · simp only [Option.some.injEq, Prod.mk.injEq] at h; obtain ⟨rfl, rfl, rfl⟩ := h; exact fun caps w rw β => stir0_body _ _ _ _ w rw β
  · simp at h)

def gam23 : Gam := gcall 57 [true] [.w] (fun wk vs args => match wk, vs, args with | [⟨true, [.ints .u8 64 ky, .ints .u8 64 v, .b true, .i .i64 d]⟩], [], [.o (.a (.p 0 0))] => some (True, [.a (.sl 0 64 64 64)], [some ⟨true, [.ints .u8 64 ky, .ints .u8 64 (macD ky v), .b true, .i .i64 d]⟩]) | _, _, _ => none) gam22
theorem gam23_ok : GamOk Try.prog gam23 := gcall_ok tabOkDH Try.func57 gam22_ok Try.call57 (by
  intro wk vs args p xs K1 h hv
  split at h
  · simp only [Option.some.injEq, Prod.mk.injEq] at h; obtain ⟨rfl, rfl, rfl⟩ := h; exact fun caps w rw β => next_body _ _ _ w rw β
  · simp at h)

set_option maxHeartbeats 1000000 in
theorem drawNN_body0 (ky v : List Int) (d N : Int) (hl0_0 : List.length ky = 64) (hl0_1 : List.length v = 64) (hn : N < 0) (w : World) (rw : List Nat) (β : Env) : Body Try.prog (tabOf tabDJ) Try.f22 ⟨w, rw, 1, β⟩ [.o (.a (.p 0 0)), .o (.a (.i .i64 N)), .o (.a nlA)] [some ⟨true, [.ints .u8 64 ky, .ints .u8 64 v, .b true, .i .i64 d]⟩] (fun ys K' => ys = [.a (.rs 1 0 (drN N d) 1), .a (.i .i64 (drE N d))] ∧ K' = [some ⟨true, [.ints .u8 64 (drK0 N d ky v), .ints .u8 64 (drV0 N d ky v), .b true, .i .i64 (drD N d)]⟩, some ⟨true, [.ints .u8 (drM N d) (drO0 N d ky v)]⟩]) :=
  Body.of_finK (Γ := gam23) (Λ := noLam) (Ψ := noPsi) (fuel := 0) (m := 60) (c := (Try.f22.body.getD .skip)) mix tabOkDJ gam23_ok rfl (rs := [.tmp 6, .tmp 7]) rfl rfl [false, true] [.rowS 6 .u8 1, .eqS 6 (.o (.a (.rs 1 0 (drN N d) 1))), .eqS 7 (.o (.a (.i .i64 (drE N d)))), .eqB 0 (⟨true, [.ints .u8 64 (drK0 N d ky v), .ints .u8 64 (drV0 N d ky v), .b true, .i .i64 (drD N d)]⟩), .eqB 1 (⟨true, [.ints .u8 (drM N d) (drO0 N d ky v)]⟩)] 2
    (vc := [((some ⟨true, [.ints .u8 0 ([] : List Int)]⟩ : Option Blk) = some ⟨true, [.ints .u8 (drM N d) (drO0 N d ky v)]⟩), ((some ⟨true, [.ints .u8 64 ky, .ints .u8 64 v, .b true, .i .i64 d]⟩ : Option Blk) = some ⟨true, [.ints .u8 64 (drK0 N d ky v), .ints .u8 64 (drV0 N d ky v), .b true, .i .i64 (drD N d)]⟩), ((.o (.a (.i .i64 (1 : Int))) : AV) = .o (.a (.i .i64 (drE N d)))), ((.o (.a (.rs 1 0 0 1)) : AV) = .o (.a (.rs 1 0 (drN N d) 1))), ((decide (N < (0 : Int))) = true), (false = false)]) (by kernel_rfl)
    (aC ((by unfold drO0 drM drO; rw [dr_bad (by omega)]; rfl)) (aC ((by unfold drK0 drV0 drK drV drD; rw [dr_bad (by omega)]; rfl)) (aC ((congrArg (fun z => AV.o (.a (.i .i64 z))) (by unfold drE; (repeat' split) <;> omega))) (aC ((by unfold drN; rw [dr_bad (by omega)]; rfl)) (aC (decide_eq_true (by first|omega|(simp (disch:=omega) only [wrapI];omega))) (aC rfl (AllP_nil)))))))

set_option maxHeartbeats 1000000 in
theorem drawNM_body0 (ky v : List Int) (d N : Int) (hl0_0 : List.length ky = 64) (hl0_1 : List.length v = 64) (hn : 65536 < N) (w : World) (rw : List Nat) (β : Env) : Body Try.prog (tabOf tabDJ) Try.f22 ⟨w, rw, 1, β⟩ [.o (.a (.p 0 0)), .o (.a (.i .i64 N)), .o (.a nlA)] [some ⟨true, [.ints .u8 64 ky, .ints .u8 64 v, .b true, .i .i64 d]⟩] (fun ys K' => ys = [.a (.rs 1 0 (drN N d) 1), .a (.i .i64 (drE N d))] ∧ K' = [some ⟨true, [.ints .u8 64 (drK0 N d ky v), .ints .u8 64 (drV0 N d ky v), .b true, .i .i64 (drD N d)]⟩, some ⟨true, [.ints .u8 (drM N d) (drO0 N d ky v)]⟩]) :=
  Body.of_finK (Γ := gam23) (Λ := noLam) (Ψ := noPsi) (fuel := 0) (m := 60) (c := (Try.f22.body.getD .skip)) mix tabOkDJ gam23_ok rfl (rs := [.tmp 6, .tmp 7]) rfl rfl [false, false, true] [.rowS 6 .u8 1, .eqS 6 (.o (.a (.rs 1 0 (drN N d) 1))), .eqS 7 (.o (.a (.i .i64 (drE N d)))), .eqB 0 (⟨true, [.ints .u8 64 (drK0 N d ky v), .ints .u8 64 (drV0 N d ky v), .b true, .i .i64 (drD N d)]⟩), .eqB 1 (⟨true, [.ints .u8 (drM N d) (drO0 N d ky v)]⟩)] 2
    (vc := [((some ⟨true, [.ints .u8 0 ([] : List Int)]⟩ : Option Blk) = some ⟨true, [.ints .u8 (drM N d) (drO0 N d ky v)]⟩), ((some ⟨true, [.ints .u8 64 ky, .ints .u8 64 v, .b true, .i .i64 d]⟩ : Option Blk) = some ⟨true, [.ints .u8 64 (drK0 N d ky v), .ints .u8 64 (drV0 N d ky v), .b true, .i .i64 (drD N d)]⟩), ((.o (.a (.i .i64 (113 : Int))) : AV) = .o (.a (.i .i64 (drE N d)))), ((.o (.a (.rs 1 0 0 1)) : AV) = .o (.a (.rs 1 0 (drN N d) 1))), ((decide (N > (65536 : Int))) = true), ((decide (N < (0 : Int))) = false), (false = false)]) (by kernel_rfl)
    (aC ((by unfold drO0 drM drO; rw [dr_bad (by omega)]; rfl)) (aC ((by unfold drK0 drV0 drK drV drD; rw [dr_bad (by omega)]; rfl)) (aC ((congrArg (fun z => AV.o (.a (.i .i64 z))) (by unfold drE; (repeat' split) <;> omega))) (aC ((by unfold drN; rw [dr_bad (by omega)]; rfl)) (aC (decide_eq_true (by first|omega|(simp (disch:=omega) only [wrapI];omega))) (aC (decide_eq_false (by first|omega|(simp (disch:=omega) only [wrapI];omega))) (aC rfl (AllP_nil))))))))

set_option maxHeartbeats 1000000 in
theorem drawND_body0 (ky v : List Int) (d N : Int) (hl0_0 : List.length ky = 64) (hl0_1 : List.length v = 64) (ha : 0 ≤ N) (hb : N ≤ 65536) (hd : 4096 ≤ d) (w : World) (rw : List Nat) (β : Env) : Body Try.prog (tabOf tabDJ) Try.f22 ⟨w, rw, 1, β⟩ [.o (.a (.p 0 0)), .o (.a (.i .i64 N)), .o (.a nlA)] [some ⟨true, [.ints .u8 64 ky, .ints .u8 64 v, .b true, .i .i64 d]⟩] (fun ys K' => ys = [.a (.rs 1 0 (drN N d) 1), .a (.i .i64 (drE N d))] ∧ K' = [some ⟨true, [.ints .u8 64 (drK0 N d ky v), .ints .u8 64 (drV0 N d ky v), .b true, .i .i64 (drD N d)]⟩, some ⟨true, [.ints .u8 (drM N d) (drO0 N d ky v)]⟩]) :=
  Body.of_finK (Γ := gam23) (Λ := noLam) (Ψ := noPsi) (fuel := 0) (m := 60) (c := (Try.f22.body.getD .skip)) mix tabOkDJ gam23_ok rfl (rs := [.tmp 6, .tmp 7]) rfl rfl [false, false, false, true] [.rowS 6 .u8 1, .eqS 6 (.o (.a (.rs 1 0 (drN N d) 1))), .eqS 7 (.o (.a (.i .i64 (drE N d)))), .eqB 0 (⟨true, [.ints .u8 64 (drK0 N d ky v), .ints .u8 64 (drV0 N d ky v), .b true, .i .i64 (drD N d)]⟩), .eqB 1 (⟨true, [.ints .u8 (drM N d) (drO0 N d ky v)]⟩)] 2
    (vc := [((some ⟨true, [.ints .u8 0 ([] : List Int)]⟩ : Option Blk) = some ⟨true, [.ints .u8 (drM N d) (drO0 N d ky v)]⟩), ((some ⟨true, [.ints .u8 64 ky, .ints .u8 64 v, .b true, .i .i64 d]⟩ : Option Blk) = some ⟨true, [.ints .u8 64 (drK0 N d ky v), .ints .u8 64 (drV0 N d ky v), .b true, .i .i64 (drD N d)]⟩), ((.o (.a (.i .i64 (112 : Int))) : AV) = .o (.a (.i .i64 (drE N d)))), ((.o (.a (.rs 1 0 0 1)) : AV) = .o (.a (.rs 1 0 (drN N d) 1))), ((decide (d ≥ (4096 : Int))) = true), ((decide (N > (65536 : Int))) = false), ((decide (N < (0 : Int))) = false), (false = false)]) (by kernel_rfl)
    (aC ((by unfold drO0 drM drO; rw [dr_bad (by omega)]; rfl)) (aC ((by unfold drK0 drV0 drK drV drD; rw [dr_bad (by omega)]; rfl)) (aC ((congrArg (fun z => AV.o (.a (.i .i64 z))) (by unfold drE; (repeat' split) <;> omega))) (aC ((by unfold drN; rw [dr_bad (by omega)]; rfl)) (aC (decide_eq_true (by first|omega|(simp (disch:=omega) only [wrapI];omega))) (aC (decide_eq_false (by first|omega|(simp (disch:=omega) only [wrapI];omega))) (aC (decide_eq_false (by first|omega|(simp (disch:=omega) only [wrapI];omega))) (aC rfl (AllP_nil)))))))))

def drawNZL_mk (ky v : List Int) (d N : Int) (k : Nat) (s : Unit) : St := ⟨sparse 60 [(0, .o (.a (.p 0 0))), (1, .o (.a (.i .i64 N))), (2, .o (.a nlA)), (6, .o (.a nlA)), (7, .o (.a (.i .i64 (0 : Int)))), (8, .o (.a (.rs 1 0 (64 * k) 1)))], [some ⟨true, [.ints .u8 64 (d1K ky v ([] : List Int)), .ints .u8 64 (nxV (d1K ky v ([] : List Int)) (d1V ky v ([] : List Int)) k), .b true, .i .i64 d]⟩, some ⟨true, [.ints .u8 (64 * k) (nxO (d1K ky v ([] : List Int)) (d1V ky v ([] : List Int)) k)]⟩]⟩

def drawNZL_step (k : Nat) (s : Unit) : Unit :=
  ()

set_option maxHeartbeats 1000000 in
theorem drawNZL_round (ky v : List Int) (d N : Int) (hl0_0 : List.length ky = 64) (hl0_1 : List.length v = 64) (ha : 0 ≤ N) (hb : N ≤ 65536) (hd : d < 4096) (w : World) (rw : List Nat) (β : Env) (k : Nat) (hk : k < (rnds N)) (s : Unit) : Run Try.prog ⟨w, rw, 1, β⟩ (loopB Try.f22 1) (drawNZL_mk ky v d N k s) (To ⟨w, rw, 1, β⟩ .normal (drawNZL_mk ky v d N (k + 1) (drawNZL_step k s))) := by
  have e0 : ((sub (nxO (d1K ky v ([] : List Int)) (d1V ky v ([] : List Int)) k) 0 (64 * k)) ++ (macD (d1K ky v ([] : List Int)) (nxV (d1K ky v ([] : List Int)) (d1V ky v ([] : List Int)) k))) = (nxO (d1K ky v ([] : List Int)) (d1V ky v ([] : List Int)) (k + 1)) := (by first | omega | rfl | exact nxO_step2 rfl)
  have e1 : (macD (d1K ky v ([] : List Int)) (nxV (d1K ky v ([] : List Int)) (d1V ky v ([] : List Int)) k)) = (nxV (d1K ky v ([] : List Int)) (d1V ky v ([] : List Int)) (k + (1 : Nat))) := (by first | omega | rfl | exact nxO_step2 rfl)
  have e2 : (((64 : Nat) * k) + (64 : Nat)) = ((64 : Nat) * (k + (1 : Nat))) := (by first | omega | rfl | exact nxO_step2 rfl)
  have h := Run.of_outT (B := ⟨w, rw, 1, β⟩) (Λ := noLam) (Ψ := noPsi) (fuel := 0) (ora := [true, false]) (c := (loopB Try.f22 1)) (st := (drawNZL_mk ky v d N k s)) (l := [.swap 1 2, .forget [0, 1, 2, 6, 7, 8] 2]) (s' := ⟨sparse 60 [(0, .o (.a (.p 0 0))), (1, .o (.a (.i .i64 N))), (2, .o (.a nlA)), (6, .o (.a nlA)), (7, .o (.a (.i .i64 (0 : Int)))), (8, .o (.a (.rs 1 0 ((64 * k) + 64) 1)))], [some ⟨true, [.ints .u8 64 (d1K ky v ([] : List Int)), .ints .u8 64 (macD (d1K ky v ([] : List Int)) (nxV (d1K ky v ([] : List Int)) (d1V ky v ([] : List Int)) k)), .b true, .i .i64 d]⟩, some ⟨true, [.ints .u8 ((64 * k) + 64) ((sub (nxO (d1K ky v ([] : List Int)) (d1V ky v ([] : List Int)) k) 0 (64 * k)) ++ (macD (d1K ky v ([] : List Int)) (nxV (d1K ky v ([] : List Int)) (d1V ky v ([] : List Int)) k)))]⟩]⟩) (ex := .normal) mix tabOkDJ gam23_ok
    (vc := [(((0 + (64 * k)) ≤ (64 * k)) ∧ ((64 ≤ 64) ∧ True) ∧ ((((64 * k) + 64) * 1) ≤ 140737488355328)), ((True ∧ True) ∧ True), ((decide ((((64 * k) : Nat) : Int) < N)) = true)]) (by kernel_rfl)
    (aC ⟨(by have hq := rnds_lt hk; first | omega | (simp (disch := omega) only [wrapI]; omega)), ⟨(dd rfl), trivial⟩, (by have hq := rnds_lt hk; first | omega | (simp (disch := omega) only [wrapI]; omega))⟩ (aC ⟨⟨trivial, trivial⟩, trivial⟩ (aC (decide_eq_true (by have hq := rnds_lt hk; omega)) (AllP_nil))))
  rw [e0, e1, e2] at h
  exact h

set_option maxHeartbeats 1000000 in
theorem drawNZL_last (ky v : List Int) (d N : Int) (hl0_0 : List.length ky = 64) (hl0_1 : List.length v = 64) (ha : 0 ≤ N) (hb : N ≤ 65536) (hd : d < 4096) (w : World) (rw : List Nat) (β : Env) (s : Unit) : Run Try.prog ⟨w, rw, 1, β⟩ (loopB Try.f22 1) (drawNZL_mk ky v d N (rnds N) s) (To ⟨w, rw, 1, β⟩ (.exit 1) (drawNZL_mk ky v d N (rnds N) s)) :=
  Run.of_outT (B := ⟨w, rw, 1, β⟩) (Λ := noLam) (Ψ := noPsi) (fuel := 0) (ora := [false]) (l := [.forget [0, 1, 2, 6, 7, 8] 2]) mix tabOkDJ gam23_ok
    (vc := [((decide (((((64 : Nat) * (rnds N)) : Nat) : Int) < N)) = false)]) (by kernel_rfl)
    (aC (decide_eq_false (by have hq := rnds_ge N; omega)) (AllP_nil))

theorem drawNZL_loop (ky v : List Int) (d N : Int) (hl0_0 : List.length ky = 64) (hl0_1 : List.length v = 64) (ha : 0 ≤ N) (hb : N ≤ 65536) (hd : d < 4096) (w : World) (rw : List Nat) (β : Env) (s : Unit) : Run Try.prog ⟨w, rw, 1, β⟩ (.block 1 (.loop (loopB Try.f22 1))) (drawNZL_mk ky v d N 0 s) (To ⟨w, rw, 1, β⟩ .normal (drawNZL_mk ky v d N (rnds N) (iter (drawNZL_step) (rnds N) s))) :=
  Run.count (fun k => drawNZL_mk ky v d N k (iter (drawNZL_step) k s)) (rnds N) (fun k hk => drawNZL_round ky v d N hl0_0 hl0_1 ha hb hd w rw β k hk _) (ex := (.exit 1)) (by simp) (drawNZL_last ky v d N hl0_0 hl0_1 ha hb hd w rw β _)

set_option maxHeartbeats 1000000 in
theorem drawNZ_body0 (ky v : List Int) (d N : Int) (hl0_0 : List.length ky = 64) (hl0_1 : List.length v = 64) (ha : 0 ≤ N) (hb : N ≤ 65536) (hd : d < 4096) (w : World) (rw : List Nat) (β : Env) : Body Try.prog (tabOf tabDJ) Try.f22 ⟨w, rw, 1, β⟩ [.o (.a (.p 0 0)), .o (.a (.i .i64 N)), .o (.a nlA)] [some ⟨true, [.ints .u8 64 ky, .ints .u8 64 v, .b true, .i .i64 d]⟩] (fun ys K' => ys = [.a (.rs 1 0 (drN N d) 1), .a (.i .i64 (drE N d))] ∧ K' = [some ⟨true, [.ints .u8 64 (drK0 N d ky v), .ints .u8 64 (drV0 N d ky v), .b true, .i .i64 (drD N d)]⟩, some ⟨true, [.ints .u8 (drM N d) (drO0 N d ky v)]⟩]) :=
  Body.of_finK (Γ := gam23) (Λ := lamOf [(1, ⟨[.rowS 8 .u8 1, .forget [0, 1, 2, 6, 7, 8] 2], .normal, (drawNZL_mk ky v d N (rnds N) (iter (drawNZL_step) (rnds N) ()))⟩)]) (Ψ := psiOf [(11, [.eqB 0 (⟨true, [.ints .u8 64 (d1K ky v ([] : List Int)), .ints .u8 64 (d1V ky v ([] : List Int)), .b true, .i .i64 d]⟩)])]) (fuel := 0) (m := 60) (c := (Try.f22.body.getD .skip)) mix tabOkDJ gam23_ok rfl (rs := [.tmp 6, .tmp 7]) rfl rfl [false, false, false, false, false] [.slrs 6 1, .eqS 6 (.o (.a (.rs 1 0 (drN N d) 1))), .eqS 7 (.o (.a (.i .i64 (drE N d)))), .eqB 0 (⟨true, [.ints .u8 64 (drK0 N d ky v), .ints .u8 64 (drV0 N d ky v), .b true, .i .i64 (drD N d)]⟩), .eqB 1 (⟨true, [.ints .u8 (drM N d) (drO0 N d ky v)]⟩)] 2
    (vc := [((some ⟨true, [.ints .u8 (64 * (rnds N)) (nxO (d1K ky v ([] : List Int)) (d1V ky v ([] : List Int)) (rnds N))]⟩ : Option Blk) = some ⟨true, [.ints .u8 (drM N d) (drO0 N d ky v)]⟩), ((some ⟨true, [.ints .u8 64 (stir0 (d1K ky v ([] : List Int)) (nxV (d1K ky v ([] : List Int)) (d1V ky v ([] : List Int)) (rnds N))), .ints .u8 64 (stir0_1 (d1K ky v ([] : List Int)) (nxV (d1K ky v ([] : List Int)) (d1V ky v ([] : List Int)) (rnds N))), .b true, .i .i64 (IntKind.i64.wrap (d + (1 : Int)))]⟩ : Option Blk) = some ⟨true, [.ints .u8 64 (drK0 N d ky v), .ints .u8 64 (drV0 N d ky v), .b true, .i .i64 (drD N d)]⟩), ((.o (.a (.i .i64 (0 : Int))) : AV) = .o (.a (.i .i64 (drE N d)))), ((.o (.a (.rs 1 0 (Int.toNat N) 1)) : AV) = .o (.a (.rs 1 0 (drN N d) 1))), ((0 + (Int.toNat N)) ≤ (64 * (rnds N))), ((cZ 0) ∧ ((0 : Int) ≤ N) ∧ (N ≤ N) ∧ (N ≤ (((64 * (rnds N)) : Nat) : Int))), ((True ∧ (True ∧ True)) ∧ True), (Run Try.prog ⟨w, rw, 1, β⟩ (.block 1 (.loop (loopB Try.f22 1))) (drawNZL_mk ky v d N 0 ()) (To ⟨w, rw, 1, β⟩ .normal (drawNZL_mk ky v d N (rnds N) (iter (drawNZL_step) (rnds N) ())))), ((some ⟨true, [.ints .u8 64 ky, .ints .u8 64 v, .b true, .i .i64 d]⟩ : Option Blk) = some ⟨true, [.ints .u8 64 (d1K ky v ([] : List Int)), .ints .u8 64 (d1V ky v ([] : List Int)), .b true, .i .i64 d]⟩), (false = false), ((decide (d ≥ (4096 : Int))) = false), ((decide (N > (65536 : Int))) = false), ((decide (N < (0 : Int))) = false), (false = false)]) (by kernel_rfl)
    (aC ((by unfold drO0 drM drO; rw [dr_ok ha hb hd]; rfl)) (aC ((by unfold drK0 drV0 drK drV drD; rw [dr_ok ha hb hd]; rfl)) (aC ((congrArg (fun z => AV.o (.a (.i .i64 z))) (by unfold drE; (repeat' split) <;> omega))) (aC ((by unfold drN; rw [dr_ok ha hb hd]; rfl)) (aC (by have hq := rnds_ge N; omega) (aC ⟨(dd rfl), (by first|omega|(simp (disch:=omega) only [wrapI];omega)), (by first|omega|(simp (disch:=omega) only [wrapI];omega)), (by have hq := rnds_ge N; omega)⟩ (aC ⟨⟨trivial, ⟨trivial, trivial⟩⟩, trivial⟩ (aC (drawNZL_loop ky v d N hl0_0 hl0_1 ha hb hd w rw β ()) (aC (rfl) (aC rfl (aC (decide_eq_false (by first|omega|(simp (disch:=omega) only [wrapI];omega))) (aC (decide_eq_false (by first|omega|(simp (disch:=omega) only [wrapI];omega))) (aC (decide_eq_false (by first|omega|(simp (disch:=omega) only [wrapI];omega))) (aC rfl (AllP_nil)))))))))))))))

theorem drawN_body (ky v : List Int) (d N : Int) (w : World) (rw : List Nat) (β : Env) : Body Try.prog (tabOf tabDJ) Try.f22 ⟨w, rw, 1, β⟩ [.o (.a (.p 0 0)), .o (.a (.i .i64 N)), .o (.a nlA)] [some ⟨true, [.ints .u8 64 ky, .ints .u8 64 v, .b true, .i .i64 d]⟩] (fun ys K' => ys = [.a (.rs 1 0 (drN N d) 1), .a (.i .i64 (drE N d))] ∧ K' = [some ⟨true, [.ints .u8 64 (drK0 N d ky v), .ints .u8 64 (drV0 N d ky v), .b true, .i .i64 (drD N d)]⟩, some ⟨true, [.ints .u8 (drM N d) (drO0 N d ky v)]⟩]) :=
  Body.lens (c := (Try.f22.body.getD .skip)) rfl fun h => by
  by_cases hn : N < 0
  · exact drawNN_body0 ky v d N (h.lens 0 _ .u8 (64 : Nat) ky rfl (by simp)) (h.lens 0 _ .u8 (64 : Nat) v rfl (by simp)) hn w rw β
  by_cases hm : 65536 < N
  · exact drawNM_body0 ky v d N (h.lens 0 _ .u8 (64 : Nat) ky rfl (by simp)) (h.lens 0 _ .u8 (64 : Nat) v rfl (by simp)) hm w rw β
  by_cases hd : 4096 ≤ d
  · exact drawND_body0 ky v d N (h.lens 0 _ .u8 (64 : Nat) ky rfl (by simp)) (h.lens 0 _ .u8 (64 : Nat) v rfl (by simp)) (by omega) (by omega) hd w rw β
  exact drawNZ_body0 ky v d N (h.lens 0 _ .u8 (64 : Nat) ky rfl (by simp)) (h.lens 0 _ .u8 (64 : Nat) v rfl (by simp)) (by omega) (by omega) (by omega) w rw β

end Go.Proofs.Ytlmdhjojinkdbaa.X

/- Printed by a tool of this session. -/
namespace Go.Proofs.Ytlmdhjojinkdbaa.X
open Go Go.Proofs
set_option linter.unusedVariables false
set_option linter.unusedSimpArgs false
set_option maxRecDepth 100000
theorem teDK_3 : TEOk Try.prog 3 ⟨.int .i64, 1, 8, [.i .i64 (0 : Int)], false⟩ :=
  TEOk.of Try.underlying3 (i := Try.t3) (by kernel_rfl) rfl rfl rfl (by kernel_rfl) (fun h => by cases h) (by kernel_rfl)
theorem teDK_5 : TEOk Try.prog 5 ⟨.int .u8, 1, 1, [.i .u8 (0 : Int)], false⟩ :=
  TEOk.of Try.underlying5 (i := Try.t5) (by kernel_rfl) rfl rfl rfl (by kernel_rfl) (fun h => by cases h) (by kernel_rfl)
theorem teDK_22 : TEOk Try.prog 22 ⟨.slice 5, 1, 24, [.raw (.slice none 0 0)], false⟩ :=
  TEOk.of Try.underlying22 (i := Try.t22) (by kernel_rfl) rfl rfl rfl (by kernel_rfl) (fun h => by cases h) (by kernel_rfl)
theorem teDK_23 : TEOk Try.prog 23 ⟨.slice 22, 1, 24, [.raw (.slice none 0 0)], false⟩ :=
  TEOk.of Try.underlying23 (i := Try.t23) (by kernel_rfl) rfl rfl rfl (by kernel_rfl) (fun h => by cases h) (by kernel_rfl)
theorem teDK_32 : TEOk Try.prog 32 ⟨.array 64 5, 64, 64, [.ints .u8 64 (List.replicate 64 0)], true⟩ :=
  TEOk.of Try.underlying32 (i := Try.t32) (by kernel_rfl) rfl rfl rfl (by kernel_rfl) (fun _ => Try.eqGuardType32) (by kernel_rfl)
theorem teDK_57 : TEOk Try.prog 57 ⟨.pointer 134, 1, 8, [.raw (.pointer none)], false⟩ :=
  TEOk.of Try.underlying57 (i := Try.t57) (by kernel_rfl) rfl rfl rfl (by kernel_rfl) (fun h => by cases h) (by kernel_rfl)
theorem teDK_72 : TEOk Try.prog 72 ⟨.array 32 5, 32, 32, [.ints .u8 (32 : Nat) ([0, 0, 0, 0, 0, 0, 0, 0, 0, 0, 0, 0, 0, 0, 0, 0, 0, 0, 0, 0, 0, 0, 0, 0, 0, 0, 0, 0, 0, 0, 0, 0] : List Int)], true⟩ :=
  TEOk.of Try.underlying72 (i := Try.t72) (by kernel_rfl) rfl rfl rfl (by kernel_rfl) (fun _ => Try.eqGuardType72) (by kernel_rfl)
theorem teDK_89 : TEOk Try.prog 89 ⟨.pointer 140, 1, 8, [.raw (.pointer none)], false⟩ :=
  TEOk.of Try.underlying89 (i := Try.t89) (by kernel_rfl) rfl rfl rfl (by kernel_rfl) (fun h => by cases h) (by kernel_rfl)
theorem teDK_91 : TEOk Try.prog 91 ⟨.slice 72, 1, 24, [.raw (.slice none 0 0)], false⟩ :=
  TEOk.of Try.underlying91 (i := Try.t91) (by kernel_rfl) rfl rfl rfl (by kernel_rfl) (fun h => by cases h) (by kernel_rfl)
theorem teDK_134 : TEOk Try.prog 134 ⟨Try.t133.desc, 130, 144, [.ints .u8 64 (List.replicate 64 0), .ints .u8 64 (List.replicate 64 0), .b false, .i .i64 (0 : Int)], false⟩ :=
  TEOk.of Try.underlying134 (i := Try.t134) (by kernel_rfl) rfl rfl rfl (by kernel_rfl) (fun h => by cases h) (by kernel_rfl)
theorem teDK_140 : TEOk Try.prog 140 ⟨Try.t139.desc, 1, 24, [.raw (.slice none 0 0)], false⟩ :=
  TEOk.of Try.underlying140 (i := Try.t140) (by kernel_rfl) rfl rfl rfl (by kernel_rfl) (fun h => by cases h) (by kernel_rfl)
noncomputable def tabDK : List (Nat × TE) := [(3, ⟨.int .i64, 1, 8, [.i .i64 (0 : Int)], false⟩), (5, ⟨.int .u8, 1, 1, [.i .u8 (0 : Int)], false⟩), (22, ⟨.slice 5, 1, 24, [nlA], false⟩), (23, ⟨.slice 22, 1, 24, [nlA], false⟩), (32, ⟨.array 64 5, 64, 64, [.ints .u8 64 (List.replicate 64 0)], true⟩), (57, ⟨.pointer 134, 1, 8, [.raw (.pointer none)], false⟩), (72, ⟨.array 32 5, 32, 32, [.ints .u8 32 ([0, 0, 0, 0, 0, 0, 0, 0, 0, 0, 0, 0, 0, 0, 0, 0, 0, 0, 0, 0, 0, 0, 0, 0, 0, 0, 0, 0, 0, 0, 0, 0] : List Int)], true⟩), (89, ⟨.pointer 140, 1, 8, [.raw (.pointer none)], false⟩), (91, ⟨.slice 72, 1, 24, [nlA], false⟩), (134, ⟨Try.t133.desc, 130, 144, [.ints .u8 64 (List.replicate 64 0), .ints .u8 64 (List.replicate 64 0), .b false, .i .i64 (0 : Int)], false⟩), (140, ⟨Try.t139.desc, 1, 24, [nlA], false⟩)]
theorem tabOkDK : TabOk Try.prog (tabOf tabDK) := (tabOf_cons teDK_3 (tabOf_cons teDK_5 (tabOf_cons teDK_22 (tabOf_cons teDK_23 (tabOf_cons teDK_32 (tabOf_cons teDK_57 (tabOf_cons teDK_72 (tabOf_cons teDK_89 (tabOf_cons teDK_91 (tabOf_cons teDK_134 (tabOf_cons teDK_140 tabOf_nil)))))))))))

theorem not_bne_self (x : Int) : (x != x) = false := by simp
theorem al180 : ((List.getD (sub (macD ([107, 101, 121] : List Int) ([84, 104, 101, 32, 113, 117, 105, 99, 107, 32, 98, 114, 111, 119, 110, 32, 102, 111, 120, 32, 106, 117, 109, 112, 115, 32, 111, 118, 101, 114, 32, 116, 104, 101, 32, 108, 97, 122, 121, 32, 100, 111, 103] : List Int)) 0 1) 0 0) == (180 : Int)) = true := by kernel_rfl
theorem al42 : ((List.getD (sub (macD ([107, 101, 121] : List Int) ([84, 104, 101, 32, 113, 117, 105, 99, 107, 32, 98, 114, 111, 119, 110, 32, 102, 111, 120, 32, 106, 117, 109, 112, 115, 32, 111, 118, 101, 114, 32, 116, 104, 101, 32, 108, 97, 122, 121, 32, 100, 111, 103] : List Int)) 1 1) 0 0) == (42 : Int)) = true := by kernel_rfl
theorem al226 : ((List.getD (sub (macD ([107, 101, 121] : List Int) ([84, 104, 101, 32, 113, 117, 105, 99, 107, 32, 98, 114, 111, 119, 110, 32, 102, 111, 120, 32, 106, 117, 109, 112, 115, 32, 111, 118, 101, 114, 32, 116, 104, 101, 32, 108, 97, 122, 121, 32, 100, 111, 103] : List Int)) 7 1) 0 0) == (226 : Int)) = true := by kernel_rfl
def sameBL_mk (n nm : Nat) (b : List Int) (m mm : Nat) (c : List Int) (cap0 cap1 k : Nat) (s : Unit) : St := ⟨sparse 26 [(0, .o (.a (.sl 0 0 n cap0))), (1, .o (.a (.sl 1 0 m cap1))), (5, .o (.a (.i .i64 ((k : Nat) : Int)))), (6, .o (.a (.sl 0 0 n cap0))), (7, .o (.a (.i .i64 ((n : Nat) : Int)))), (8, .o (.a (.sl 1 0 m cap1))), (9, .o (.a (.i .i64 ((m : Nat) : Int)))), (10, .o (.a (.b (((n : Nat) : Int) != ((m : Nat) : Int)))))], [some ⟨false, [.ints .u8 nm b]⟩, some ⟨false, [.ints .u8 mm c]⟩]⟩

def sameBL_step (k : Nat) (s : Unit) : Unit :=
  ()

set_option maxHeartbeats 1000000 in
theorem sameBL_round (n nm : Nat) (b : List Int) (m mm : Nat) (c : List Int) (cap0 cap1 : Nat) (h0 : (nm = n)) (h1 : (mm = m)) (h2 : (m = n)) (h3 : (b = c)) (h4 : (n < 70368744177664)) (hc0 : n ≤ cap0) (hc1 : m ≤ cap1) (hl0_0 : List.length b = nm) (hl1_0 : List.length c = mm) (w : World) (β : Env) (k : Nat) (hk : k < n) (s : Unit) : Run Try.prog ⟨w, [], 2, β⟩ (loopB Try.f12 0) (sameBL_mk n nm b m mm c cap0 cap1 k s) (To ⟨w, [], 2, β⟩ .normal (sameBL_mk n nm b m mm c cap0 cap1 (k + 1) (sameBL_step k s))) := by
  have e0 : (IntKind.i64.wrap (((k : Nat) : Int) + (1 : Int))) = (((k + (1 : Nat)) : Nat) : Int) := (by first | rfl | exact wrap_succ (by omega) | omega | (simp (disch := omega) only [wrapI]; omega))
  have h := Run.of_outT (B := ⟨w, [], 2, β⟩) (Λ := noLam) (Ψ := noPsi) (fuel := 0) (ora := [true, false]) (c := (loopB Try.f12 0)) (st := (sameBL_mk n nm b m mm c cap0 cap1 k s)) (l := [.forget [0, 1, 5, 6, 7, 8, 9, 10] 2]) (s' := ⟨sparse 26 [(0, .o (.a (.sl 0 0 n cap0))), (1, .o (.a (.sl 1 0 m cap1))), (5, .o (.a (.i .i64 (IntKind.i64.wrap (((k : Nat) : Int) + (1 : Int)))))), (6, .o (.a (.sl 0 0 n cap0))), (7, .o (.a (.i .i64 ((n : Nat) : Int)))), (8, .o (.a (.sl 1 0 m cap1))), (9, .o (.a (.i .i64 ((m : Nat) : Int)))), (10, .o (.a (.b (((n : Nat) : Int) != ((m : Nat) : Int)))))], [some ⟨false, [.ints .u8 nm b]⟩, some ⟨false, [.ints .u8 mm c]⟩]⟩) (ex := .normal) mix tabOkDK gam17_ok
    (vc := [(((List.getD b k 0) != (List.getD c k 0)) = false), (k < mm), (((0 : Int) ≤ ((k : Nat) : Int)) ∧ (((k : Nat) : Int) < ((m : Nat) : Int))), (k < nm), (((0 : Int) ≤ ((k : Nat) : Int)) ∧ (((k : Nat) : Int) < ((n : Nat) : Int))), ((decide (((k : Nat) : Int) < ((n : Nat) : Int))) = true)]) (by kernel_rfl)
    (aC (by rw [h3]; exact not_bne_self _) (aC (by first|omega|(simp (disch:=omega) only [wrapI];omega)) (aC ⟨(by first|omega|(simp (disch:=omega) only [wrapI];omega)), (by first|omega|(simp (disch:=omega) only [wrapI];omega))⟩ (aC (by first|omega|(simp (disch:=omega) only [wrapI];omega)) (aC ⟨(by first|omega|(simp (disch:=omega) only [wrapI];omega)), (by first|omega|(simp (disch:=omega) only [wrapI];omega))⟩ (aC (decide_eq_true (by first|omega|(simp (disch:=omega) only [wrapI];omega))) (AllP_nil)))))))
  rw [e0] at h
  exact h

set_option maxHeartbeats 1000000 in
theorem sameBL_last (n nm : Nat) (b : List Int) (m mm : Nat) (c : List Int) (cap0 cap1 : Nat) (h0 : (nm = n)) (h1 : (mm = m)) (h2 : (m = n)) (h3 : (b = c)) (h4 : (n < 70368744177664)) (hc0 : n ≤ cap0) (hc1 : m ≤ cap1) (hl0_0 : List.length b = nm) (hl1_0 : List.length c = mm) (w : World) (β : Env) (s : Unit) : Run Try.prog ⟨w, [], 2, β⟩ (loopB Try.f12 0) (sameBL_mk n nm b m mm c cap0 cap1 n s) (To ⟨w, [], 2, β⟩ (.exit 0) (sameBL_mk n nm b m mm c cap0 cap1 n s)) :=
  Run.of_outT (B := ⟨w, [], 2, β⟩) (Λ := noLam) (Ψ := noPsi) (fuel := 0) (ora := [false]) (l := [.forget [0, 1, 5, 6, 7, 8, 9, 10] 2]) mix tabOkDK gam17_ok
    (vc := [((decide (((n : Nat) : Int) < ((n : Nat) : Int))) = false)]) (by kernel_rfl)
    (aC (decide_eq_false (by first | omega | (simp (disch := omega) only [wrapI]; omega))) (AllP_nil))

theorem sameBL_loop (n nm : Nat) (b : List Int) (m mm : Nat) (c : List Int) (cap0 cap1 : Nat) (h0 : (nm = n)) (h1 : (mm = m)) (h2 : (m = n)) (h3 : (b = c)) (h4 : (n < 70368744177664)) (hc0 : n ≤ cap0) (hc1 : m ≤ cap1) (hl0_0 : List.length b = nm) (hl1_0 : List.length c = mm) (w : World) (β : Env) (s : Unit) : Run Try.prog ⟨w, [], 2, β⟩ (.block 0 (.loop (loopB Try.f12 0))) (sameBL_mk n nm b m mm c cap0 cap1 0 s) (To ⟨w, [], 2, β⟩ .normal (sameBL_mk n nm b m mm c cap0 cap1 n (iter (sameBL_step) n s))) :=
  Run.count (fun k => sameBL_mk n nm b m mm c cap0 cap1 k (iter (sameBL_step) k s)) n (fun k hk => sameBL_round n nm b m mm c cap0 cap1 h0 h1 h2 h3 h4 hc0 hc1 hl0_0 hl1_0 w β k hk _) (ex := (.exit 0)) (by simp) (sameBL_last n nm b m mm c cap0 cap1 h0 h1 h2 h3 h4 hc0 hc1 hl0_0 hl1_0 w β _)

set_option maxHeartbeats 1000000 in
theorem sameB_body0 (n nm : Nat) (b : List Int) (m mm : Nat) (c : List Int) (cap0 cap1 : Nat) (h0 : (nm = n)) (h1 : (mm = m)) (h2 : (m = n)) (h3 : (b = c)) (h4 : (n < 70368744177664)) (hc0 : n ≤ cap0) (hc1 : m ≤ cap1) (hl0_0 : List.length b = nm) (hl1_0 : List.length c = mm) (w : World) (β : Env) : Body Try.prog (tabOf tabDK) Try.f12 ⟨w, [], 2, β⟩ [.o (.a (.sl 0 0 n cap0)), .o (.a (.sl 1 0 m cap1))] [some ⟨false, [.ints .u8 nm b]⟩, some ⟨false, [.ints .u8 mm c]⟩] (fun ys _ => ys = [.a (.b true)]) :=
  Body.of_fin (Γ := gam17) (Λ := lamOf [(0, ⟨[.forget [0, 1, 5, 6, 7, 8, 9, 10] 2], .normal, (sameBL_mk n nm b m mm c cap0 cap1 n (iter (sameBL_step) n ()))⟩)]) (Ψ := noPsi) (fuel := 0) (m := 26) (c := (Try.f12.body.getD .skip)) mix tabOkDK gam17_ok rfl (rs := [.tmp 4]) rfl rfl [false] []
    (vc := [(Run Try.prog ⟨w, [], 2, β⟩ (.block 0 (.loop (loopB Try.f12 0))) (sameBL_mk n nm b m mm c cap0 cap1 0 ()) (To ⟨w, [], 2, β⟩ .normal (sameBL_mk n nm b m mm c cap0 cap1 n (iter (sameBL_step) n ())))), ((((n : Nat) : Int) != ((m : Nat) : Int)) = false)]) (by kernel_rfl)
    (aC (sameBL_loop n nm b m mm c cap0 cap1 h0 h1 h2 h3 h4 hc0 hc1 hl0_0 hl1_0 w β ()) (aC (bne_eq_false_iff_eq.2 (by first | omega | (simp (disch := omega) only [wrapI]; omega))) (AllP_nil)))

theorem sameB_body (n nm : Nat) (b : List Int) (m mm : Nat) (c : List Int) (cap0 cap1 : Nat) (h0 : (nm = n)) (h1 : (mm = m)) (h2 : (m = n)) (h3 : (b = c)) (h4 : (n < 70368744177664)) (w : World) (β : Env) : Body Try.prog (tabOf tabDK) Try.f12 ⟨w, [], 2, β⟩ [.o (.a (.sl 0 0 n cap0)), .o (.a (.sl 1 0 m cap1))] [some ⟨false, [.ints .u8 nm b]⟩, some ⟨false, [.ints .u8 mm c]⟩] (fun ys _ => ys = [.a (.b true)]) :=
  Body.lens (c := (Try.f12.body.getD .skip)) rfl fun h => sameB_body0 n nm b m mm c cap0 cap1 h0 h1 h2 h3 h4 (h.caps 0 _ _ _ _ rfl) (h.caps 1 _ _ _ _ rfl) (h.lens 0 _ .u8 nm b rfl (by simp)) (h.lens 1 _ .u8 mm c rfl (by simp)) w β

noncomputable def gam24 : Gam := greadV 12 [.s 1, .s 1] (fun vs args => match vs, args with | [⟨_, _, _, [.ints .u8 nm b]⟩, ⟨_, _, _, [.ints .u8 mm c]⟩], [a0, a1] => some ((nm = (lenOfA a0)) ∧ (mm = (lenOfA a1)) ∧ ((lenOfA a1) = (lenOfA a0)) ∧ (b = c) ∧ ((lenOfA a0) < 70368744177664), [.a (.b true)]) | _, _ => none) gam17
theorem gam24_ok : GamOk Try.prog gam24 := greadV_ok tabOkDK Try.func12 gam17_ok Try.call12 (by
  intro vs args p xs h hv
  split at h
  · simp only [Option.some.injEq, Prod.mk.injEq] at h; obtain ⟨rfl, rfl⟩ := h; exact ⟨by rfl, fun caps w β => sameB_body _ _ _ _ _ _ _ _ hv.1 hv.2.1 hv.2.2.1 hv.2.2.2.1 hv.2.2.2.2 w β⟩
  · simp at h)

def left (d : Int) : Int :=
  (IntKind.i64.wrap ((4096 : Int) - d))

set_option maxHeartbeats 1000000 in
theorem left_body0 (ky v : List Int) (d : Int) (hl0_0 : List.length ky = 64) (hl0_1 : List.length v = 64) (w : World) (rw : List Nat) (β : Env) : Body Try.prog (tabOf tabDK) Try.f24 ⟨w, rw, 1, β⟩ [.o (.a (.p 0 0))] [some ⟨false, [.ints .u8 64 ky, .ints .u8 64 v, .b true, .i .i64 d]⟩] (fun ys K' => ys = [.a (.i .i64 (left d))] ∧ K' = [some ⟨false, [.ints .u8 64 ky, .ints .u8 64 v, .b true, .i .i64 d]⟩]) :=
  Body.of_finK (Γ := gam24) (Λ := noLam) (Ψ := noPsi) (fuel := 0) (m := 10) (c := (Try.f24.body.getD .skip)) mix tabOkDK gam24_ok rfl (rs := [.tmp 2]) rfl rfl [false] [] 1
    (vc := [(false = false)]) (by kernel_rfl)
    (aC rfl (AllP_nil))

theorem left_body (ky v : List Int) (d : Int) (w : World) (rw : List Nat) (β : Env) : Body Try.prog (tabOf tabDK) Try.f24 ⟨w, rw, 1, β⟩ [.o (.a (.p 0 0))] [some ⟨false, [.ints .u8 64 ky, .ints .u8 64 v, .b true, .i .i64 d]⟩] (fun ys K' => ys = [.a (.i .i64 (left d))] ∧ K' = [some ⟨false, [.ints .u8 64 ky, .ints .u8 64 v, .b true, .i .i64 d]⟩]) :=
  Body.lens (c := (Try.f24.body.getD .skip)) rfl fun h => left_body0 ky v d (h.lens 0 _ .u8 (64 : Nat) ky rfl (by simp)) (h.lens 0 _ .u8 (64 : Nat) v rfl (by simp)) w rw β

noncomputable def gam25 : Gam := gcall 24 [false] [.w] (fun wk vs args => match wk, vs, args with | [⟨false, [.ints .u8 64 ky, .ints .u8 64 v, .b true, .i .i64 d]⟩], [], [.o (.a (.p 0 0))] => some (True, [.a (.i .i64 (left d))], [some ⟨false, [.ints .u8 64 ky, .ints .u8 64 v, .b true, .i .i64 d]⟩]) | _, _, _ => none) gam24
theorem gam25_ok : GamOk Try.prog gam25 := gcall_ok tabOkDK Try.func24 gam24_ok Try.call24 (by
  intro wk vs args p xs K1 h hv
  split at h
  · simp only [Option.some.injEq, Prod.mk.injEq] at h; obtain ⟨rfl, rfl, rfl⟩ := h; exact fun caps w rw β => left_body _ _ _ w rw β
  · simp at h)

def copyB (n : Nat) (b : List Int) : List Int :=
  (sub b 0 n)

set_option maxHeartbeats 1000000 in
theorem copyB_body0 (n nm : Nat) (b : List Int) (cap0 : Nat) (h0 : (nm = n)) (h1 : (n < 35184372088832)) (hc0 : n ≤ cap0) (hl0_0 : List.length b = nm) (w : World) (rw : List Nat) (β : Env) : Body Try.prog (tabOf tabDK) Try.f13 ⟨w, rw, 1, β⟩ [.o (.a (.sl 0 0 n cap0))] [some ⟨false, [.ints .u8 nm b]⟩] (fun ys K' => ys = [.a (.rs 1 0 n 1)] ∧ K' = [some ⟨false, [.ints .u8 nm b]⟩, some ⟨true, [.ints .u8 n (copyB n b)]⟩]) :=
  Body.of_finK (Γ := gam25) (Λ := noLam) (Ψ := noPsi) (fuel := 0) (m := 8) (c := (Try.f13.body.getD .skip)) mix tabOkDK gam25_ok rfl (rs := [.tmp 2]) rfl rfl [false] [] 2
    (vc := [(((n ≤ n) ∧ (((0 : Nat) + n) ≤ nm)) ∧ ((n * (1 : Nat)) ≤ (140737488355328 : Nat)))]) (by kernel_rfl)
    (aC ⟨⟨(by first | omega | (simp (disch := omega) only [wrapI]; omega)), (by first | omega | (simp (disch := omega) only [wrapI]; omega))⟩, (by first | omega | (simp (disch := omega) only [wrapI]; omega))⟩ (AllP_nil))

theorem copyB_body (n nm : Nat) (b : List Int) (cap0 : Nat) (h0 : (nm = n)) (h1 : (n < 35184372088832)) (w : World) (rw : List Nat) (β : Env) : Body Try.prog (tabOf tabDK) Try.f13 ⟨w, rw, 1, β⟩ [.o (.a (.sl 0 0 n cap0))] [some ⟨false, [.ints .u8 nm b]⟩] (fun ys K' => ys = [.a (.rs 1 0 n 1)] ∧ K' = [some ⟨false, [.ints .u8 nm b]⟩, some ⟨true, [.ints .u8 n (copyB n b)]⟩]) :=
  Body.lens (c := (Try.f13.body.getD .skip)) rfl fun h => copyB_body0 n nm b cap0 h0 h1 (h.caps 0 _ _ _ _ rfl) (h.lens 0 _ .u8 nm b rfl (by simp)) w rw β

noncomputable def gam26 : Gam := gcall 13 [] [.s 1] (fun wk vs args => match wk, vs, args with | [], [⟨_, _, _, [.ints .u8 nm b]⟩], [.o (.a (.sl 0 0 n _))] => some ((nm = n) ∧ (n < 35184372088832), [.a (.rs 1 0 n 1)], [some ⟨false, [.ints .u8 nm b]⟩, some ⟨true, [.ints .u8 n (copyB n b)]⟩]) | _, _, _ => none) gam25
theorem gam26_ok : GamOk Try.prog gam26 := gcall_ok tabOkDK Try.func13 gam25_ok Try.call13 (by
  intro wk vs args p xs K1 h hv
  split at h
  · simp only [Option.some.injEq, Prod.mk.injEq] at h; obtain ⟨rfl, rfl, rfl⟩ := h; obtain ⟨g0, g1⟩ := hv; exact fun caps w rw β => copyB_body _ _ _ _ g0 g1 w rw β
  · simp at h)

def newTape1 (l : List Int) : List Int :=
  (sub l 0 (32 : Nat))

set_option maxHeartbeats 1000000 in
theorem newTape1_body0 (l : List Int) (cp : Nat) (hl0_0 : List.length l = 32) (w : World) (rw : List Nat) (β : Env) : Body Try.prog (tabOf tabDK) Try.f35 ⟨w, rw, 1, β⟩ [.o (.a (.sl 0 0 1 cp))] [some ⟨false, [.ints .u8 32 l]⟩] (fun ys K' => ys = [.a (.p 1 0)] ∧ K' = [some ⟨false, [.ints .u8 32 l]⟩, some ⟨true, [.rs 2 0 1 32]⟩, some ⟨true, [.ints .u8 32 (newTape1 l)]⟩]) :=
  Body.of_finK (Γ := gam26) (Λ := noLam) (Ψ := noPsi) (fuel := 0) (m := 7) (c := (Try.f35.body.getD .skip)) mix tabOkDK gam26_ok rfl (rs := [.tmp 2]) rfl rfl [false] [.swap 1 2] 3
    (vc := [((((1 : Nat) ≤ (1 : Nat)) ∧ ((32 : Nat) ≤ (32 : Nat))) ∧ ((32 : Nat) ≤ (140737488355328 : Nat)))]) (by kernel_rfl)
    (aC ⟨⟨(by decide), (by decide)⟩, (by decide)⟩ (AllP_nil))

theorem newTape1_body (l : List Int) (cp : Nat) (w : World) (rw : List Nat) (β : Env) : Body Try.prog (tabOf tabDK) Try.f35 ⟨w, rw, 1, β⟩ [.o (.a (.sl 0 0 1 cp))] [some ⟨false, [.ints .u8 32 l]⟩] (fun ys K' => ys = [.a (.p 1 0)] ∧ K' = [some ⟨false, [.ints .u8 32 l]⟩, some ⟨true, [.rs 2 0 1 32]⟩, some ⟨true, [.ints .u8 32 (newTape1 l)]⟩]) :=
  Body.lens (c := (Try.f35.body.getD .skip)) rfl fun h => newTape1_body0 l cp (h.lens 0 _ .u8 (32 : Nat) l rfl (by simp)) w rw β

noncomputable def gam27 : Gam := gcall 35 [false] [.w] (fun wk vs args => match wk, vs, args with | [⟨false, [.ints .u8 32 l]⟩], [], [.o (.a (.sl 0 0 1 cp))] => some (True, [.a (.p 1 0)], [some ⟨false, [.ints .u8 32 l]⟩, some ⟨true, [.rs 2 0 1 32]⟩, some ⟨true, [.ints .u8 32 (newTape1 l)]⟩]) | _, _, _ => none) gam26
theorem gam27_ok : GamOk Try.prog gam27 := gcall_ok tabOkDK Try.func35 gam26_ok Try.call35 (by
  intro wk vs args p xs K1 h hv
  split at h
  · simp only [Option.some.injEq, Prod.mk.injEq] at h; obtain ⟨rfl, rfl, rfl⟩ := h; exact fun caps w rw β => newTape1_body _ _ w rw β
  · simp at h)

def tapeRandom1 (l : List Int) : List Int :=
  (sub l 0 (32 : Nat))

set_option maxHeartbeats 1000000 in
theorem tapeRandom1_body0 (l : List Int) (hl1_0 : List.length l = 32) (w : World) (rw : List Nat) (β : Env) : Body Try.prog (tabOf tabDK) Try.f32 ⟨w, rw, 2, β⟩ [.o (.a (.p 0 0))] [some ⟨true, [.rs 1 0 1 32]⟩, some ⟨true, [.ints .u8 32 l]⟩] (fun ys K' => ys = [.g [.ints .u8 32 (tapeRandom1 l)], .a (.i .i64 (0 : Int))] ∧ K' = [some ⟨true, [.rs 1 32 0 32]⟩, some ⟨true, [.ints .u8 32 l]⟩]) :=
  Body.of_finK (Γ := gam27) (Λ := noLam) (Ψ := noPsi) (fuel := 0) (m := 30) (c := (Try.f32.body.getD .skip)) mix tabOkDK gam27_ok rfl (rs := [.cell 2 72, .tmp 3]) rfl rfl [false, false] [] 2
    (vc := [(((0 : Int) ≤ (1 : Int)) ∧ ((1 : Int) ≤ (1 : Int))), ((32 : Nat) ≤ (32 : Nat)), (((0 : Int) ≤ (0 : Int)) ∧ ((0 : Int) < (1 : Int))), (false = false), (false = false)]) (by kernel_rfl)
    (aC ⟨(by decide), (by decide)⟩ (aC (by decide) (aC ⟨(by decide), (by decide)⟩ (aC rfl (aC rfl (AllP_nil))))))

theorem tapeRandom1_body (l : List Int) (w : World) (rw : List Nat) (β : Env) : Body Try.prog (tabOf tabDK) Try.f32 ⟨w, rw, 2, β⟩ [.o (.a (.p 0 0))] [some ⟨true, [.rs 1 0 1 32]⟩, some ⟨true, [.ints .u8 32 l]⟩] (fun ys K' => ys = [.g [.ints .u8 32 (tapeRandom1 l)], .a (.i .i64 (0 : Int))] ∧ K' = [some ⟨true, [.rs 1 32 0 32]⟩, some ⟨true, [.ints .u8 32 l]⟩]) :=
  Body.lens (c := (Try.f32.body.getD .skip)) rfl fun h => tapeRandom1_body0 l (h.lens 1 _ .u8 (32 : Nat) l rfl (by simp)) w rw β

noncomputable def gam28 : Gam := gcall 32 [true, true] [.w] (fun wk vs args => match wk, vs, args with | [⟨true, [.rs 1 0 1 32]⟩, ⟨true, [.ints .u8 32 l]⟩], [], [.o (.a (.p 0 0))] => some (True, [.g [.ints .u8 32 (tapeRandom1 l)], .a (.i .i64 (0 : Int))], [some ⟨true, [.rs 1 32 0 32]⟩, some ⟨true, [.ints .u8 32 l]⟩]) | _, _, _ => none) gam27
theorem gam28_ok : GamOk Try.prog gam28 := gcall_ok tabOkDK Try.func32 gam27_ok Try.call32 (by
  intro wk vs args p xs K1 h hv
  split at h
  · simp only [Option.some.injEq, Prod.mk.injEq] at h; obtain ⟨rfl, rfl, rfl⟩ := h; exact fun caps w rw β => tapeRandom1_body _ w rw β
  · simp at h)

set_option maxHeartbeats 1000000 in
theorem tapeLeft1_body0 (l : List Int) (hl1_0 : List.length l = 32) (w : World) (rw : List Nat) (β : Env) : Body Try.prog (tabOf tabDK) Try.f33 ⟨w, rw, 2, β⟩ [.o (.a (.p 0 0))] [some ⟨false, [.rs 1 32 0 32]⟩, some ⟨false, [.ints .u8 32 l]⟩] (fun ys K' => ys = [.a (.i .i64 (0 : Int))] ∧ K' = [some ⟨false, [.rs 1 32 0 32]⟩, some ⟨false, [.ints .u8 32 l]⟩]) :=
  Body.of_finK (Γ := gam28) (Λ := noLam) (Ψ := noPsi) (fuel := 0) (m := 10) (c := (Try.f33.body.getD .skip)) mix tabOkDK gam28_ok rfl (rs := [.tmp 2]) rfl rfl [false] [] 2
    (vc := [(false = false)]) (by kernel_rfl)
    (aC rfl (AllP_nil))

theorem tapeLeft1_body (l : List Int) (w : World) (rw : List Nat) (β : Env) : Body Try.prog (tabOf tabDK) Try.f33 ⟨w, rw, 2, β⟩ [.o (.a (.p 0 0))] [some ⟨false, [.rs 1 32 0 32]⟩, some ⟨false, [.ints .u8 32 l]⟩] (fun ys K' => ys = [.a (.i .i64 (0 : Int))] ∧ K' = [some ⟨false, [.rs 1 32 0 32]⟩, some ⟨false, [.ints .u8 32 l]⟩]) :=
  Body.lens (c := (Try.f33.body.getD .skip)) rfl fun h => tapeLeft1_body0 l (h.lens 1 _ .u8 (32 : Nat) l rfl (by simp)) w rw β

noncomputable def gam29 : Gam := gcall 33 [false, false] [.w] (fun wk vs args => match wk, vs, args with | [⟨false, [.rs 1 32 0 32]⟩, ⟨false, [.ints .u8 32 l]⟩], [], [.o (.a (.p 0 0))] => some (True, [.a (.i .i64 (0 : Int))], [some ⟨false, [.rs 1 32 0 32]⟩, some ⟨false, [.ints .u8 32 l]⟩]) | _, _, _ => none) gam28
theorem gam29_ok : GamOk Try.prog gam29 := gcall_ok tabOkDK Try.func33 gam28_ok Try.call33 (by
  intro wk vs args p xs K1 h hv
  split at h
  · simp only [Option.some.injEq, Prod.mk.injEq] at h; obtain ⟨rfl, rfl, rfl⟩ := h; exact fun caps w rw β => tapeLeft1_body _ w rw β
  · simp at h)

noncomputable def gam30 : Gam := gcall 21 [] [.s 1, .w, .w] (fun wk vs args => match wk, vs, args with | [], [⟨_, _, _, [.ints .u8 nm b]⟩], [.o (.a (.sl 0 0 n _)), .o (.a (.raw (.slice none 0 0))), .o (.a (.raw (.slice none 0 0)))] => some ((nm = n) ∧ (n < 35184372088832) ∧ (32 ≤ n), [.a (.p 1 0), .a (.i .i64 (0 : Int))], [some ⟨false, [.ints .u8 nm b]⟩, some ⟨true, [.ints .u8 64 (nwK b), .ints .u8 64 (nwV b), .b true, .i .i64 (0 : Int)]⟩]) | _, _, _ => none) gam29
theorem gam30_ok : GamOk Try.prog gam30 := gcall_ok tabOkDK Try.func21 gam29_ok Try.call21 (by
  intro wk vs args p xs K1 h hv
  split at h
  · simp only [Option.some.injEq, Prod.mk.injEq] at h; obtain ⟨rfl, rfl, rfl⟩ := h; obtain ⟨g0, g1, g2⟩ := hv; exact fun caps w rw β => newOk_body _ _ _ _ g0 g1 g2 w rw β
  · simp at h)

noncomputable def gam31 : Gam := gcall 22 [true] [.w, .w, .w] (fun wk vs args => match wk, vs, args with | [⟨true, [.ints .u8 64 ky, .ints .u8 64 v, .b true, .i .i64 d]⟩], [], [.o (.a (.p 0 0)), .o (.a (.i .i64 N)), .o (.a (.raw (.slice none 0 0)))] => some (True, [.a (.rs 1 0 (drN N d) 1), .a (.i .i64 (drE N d))], [some ⟨true, [.ints .u8 64 (drK0 N d ky v), .ints .u8 64 (drV0 N d ky v), .b true, .i .i64 (drD N d)]⟩, some ⟨true, [.ints .u8 (drM N d) (drO0 N d ky v)]⟩]) | _, _, _ => none) gam30
theorem gam31_ok : GamOk Try.prog gam31 := gcall_ok tabOkDK Try.func22 gam30_ok Try.call22 (by
  intro wk vs args p xs K1 h hv
  split at h
  · simp only [Option.some.injEq, Prod.mk.injEq] at h; obtain ⟨rfl, rfl, rfl⟩ := h; exact fun caps w rw β => drawN_body _ _ _ _ w rw β
  · simp at h)

set_option maxHeartbeats 1000000 in
theorem alive_body0 (w : World) (rw : List Nat) (β : Env) : Body Try.prog (tabOf tabDK) Try.f9 ⟨w, rw, 0, β⟩ [] [] (fun ys K' => ys = [.a (.b true)] ∧ K' = []) :=
  Body.of_finKAt (Γ := (gmac w rw (gjoin w rw gam31))) (Λ := noLam) (Ψ := noPsi) (fuel := 0) (m := 80) (c := (Try.f9.body.getD .skip)) mix tabOkDK (gmac_ok (gjoin_ok (gam31_ok.at _ _))) rfl (rs := [.tmp 0]) rfl rfl [true, true, false, false, true, true, true, true, true, true, true, true, true, true, true, true, true, true, true, true, true, true, true, true, true, true, true, true, true, true, true, true] [] 0
    (vc := [cT, cT, ((True ∧ True) ∧ True), cT, cT, ((decide ((tapeRandom1 (newTape1 ([7, 0, 0, 0, 0, 0, 0, 0, 0, 0, 0, 0, 0, 0, 0, 0, 0, 0, 0, 0, 0, 0, 0, 0, 0, 0, 0, 0, 0, 0, 0, 0] : List Int))) = ([7, 0, 0, 0, 0, 0, 0, 0, 0, 0, 0, 0, 0, 0, 0, 0, 0, 0, 0, 0, 0, 0, 0, 0, 0, 0, 0, 0, 0, 0, 0, 0] : List Int))) = true), ((decide ((tapeRandom1 (newTape1 ([7, 0, 0, 0, 0, 0, 0, 0, 0, 0, 0, 0, 0, 0, 0, 0, 0, 0, 0, 0, 0, 0, 0, 0, 0, 0, 0, 0, 0, 0, 0, 0] : List Int))) = ([7, 0, 0, 0, 0, 0, 0, 0, 0, 0, 0, 0, 0, 0, 0, 0, 0, 0, 0, 0, 0, 0, 0, 0, 0, 0, 0, 0, 0, 0, 0, 0] : List Int))) = true), ((decide ((tapeRandom1 (newTape1 ([7, 0, 0, 0, 0, 0, 0, 0, 0, 0, 0, 0, 0, 0, 0, 0, 0, 0, 0, 0, 0, 0, 0, 0, 0, 0, 0, 0, 0, 0, 0, 0] : List Int))) = ([7, 0, 0, 0, 0, 0, 0, 0, 0, 0, 0, 0, 0, 0, 0, 0, 0, 0, 0, 0, 0, 0, 0, 0, 0, 0, 0, 0, 0, 0, 0, 0] : List Int))) = true), ((decide ((tapeRandom1 (newTape1 ([7, 0, 0, 0, 0, 0, 0, 0, 0, 0, 0, 0, 0, 0, 0, 0, 0, 0, 0, 0, 0, 0, 0, 0, 0, 0, 0, 0, 0, 0, 0, 0] : List Int))) = ([7, 0, 0, 0, 0, 0, 0, 0, 0, 0, 0, 0, 0, 0, 0, 0, 0, 0, 0, 0, 0, 0, 0, 0, 0, 0, 0, 0, 0, 0, 0, 0] : List Int))) = true), (((drE (5 : Int) (0 : Int)) == (0 : Int)) = true), (((drE (5 : Int) (0 : Int)) == (0 : Int)) = true), (((drE (5 : Int) (0 : Int)) == (0 : Int)) = true), (((drE (5 : Int) (0 : Int)) == (0 : Int)) = true), (((((drN (5 : Int) (0 : Int)) : Nat) : Int) == (5 : Int)) = true), (((((drN (5 : Int) (0 : Int)) : Nat) : Int) == (5 : Int)) = true), (((((drN (5 : Int) (0 : Int)) : Nat) : Int) == (5 : Int)) = true), (((((drN (5 : Int) (0 : Int)) : Nat) : Int) == (5 : Int)) = true), (((List.getD (sub (macD ([107, 101, 121] : List Int) ([84, 104, 101, 32, 113, 117, 105, 99, 107, 32, 98, 114, 111, 119, 110, 32, 102, 111, 120, 32, 106, 117, 109, 112, 115, 32, 111, 118, 101, 114, 32, 116, 104, 101, 32, 108, 97, 122, 121, 32, 100, 111, 103] : List Int)) 7 1) 0 0) == (226 : Int)) = true), (((List.getD (sub (macD ([107, 101, 121] : List Int) ([84, 104, 101, 32, 113, 117, 105, 99, 107, 32, 98, 114, 111, 119, 110, 32, 102, 111, 120, 32, 106, 117, 109, 112, 115, 32, 111, 118, 101, 114, 32, 116, 104, 101, 32, 108, 97, 122, 121, 32, 100, 111, 103] : List Int)) 7 1) 0 0) == (226 : Int)) = true), (((List.getD (sub (macD ([107, 101, 121] : List Int) ([84, 104, 101, 32, 113, 117, 105, 99, 107, 32, 98, 114, 111, 119, 110, 32, 102, 111, 120, 32, 106, 117, 109, 112, 115, 32, 111, 118, 101, 114, 32, 116, 104, 101, 32, 108, 97, 122, 121, 32, 100, 111, 103] : List Int)) 7 1) 0 0) == (226 : Int)) = true), (((List.getD (sub (macD ([107, 101, 121] : List Int) ([84, 104, 101, 32, 113, 117, 105, 99, 107, 32, 98, 114, 111, 119, 110, 32, 102, 111, 120, 32, 106, 117, 109, 112, 115, 32, 111, 118, 101, 114, 32, 116, 104, 101, 32, 108, 97, 122, 121, 32, 100, 111, 103] : List Int)) 7 1) 0 0) == (226 : Int)) = true), (((List.getD (sub (macD ([107, 101, 121] : List Int) ([84, 104, 101, 32, 113, 117, 105, 99, 107, 32, 98, 114, 111, 119, 110, 32, 102, 111, 120, 32, 106, 117, 109, 112, 115, 32, 111, 118, 101, 114, 32, 116, 104, 101, 32, 108, 97, 122, 121, 32, 100, 111, 103] : List Int)) 1 1) 0 0) == (42 : Int)) = true), (((List.getD (sub (macD ([107, 101, 121] : List Int) ([84, 104, 101, 32, 113, 117, 105, 99, 107, 32, 98, 114, 111, 119, 110, 32, 102, 111, 120, 32, 106, 117, 109, 112, 115, 32, 111, 118, 101, 114, 32, 116, 104, 101, 32, 108, 97, 122, 121, 32, 100, 111, 103] : List Int)) 1 1) 0 0) == (42 : Int)) = true), (((List.getD (sub (macD ([107, 101, 121] : List Int) ([84, 104, 101, 32, 113, 117, 105, 99, 107, 32, 98, 114, 111, 119, 110, 32, 102, 111, 120, 32, 106, 117, 109, 112, 115, 32, 111, 118, 101, 114, 32, 116, 104, 101, 32, 108, 97, 122, 121, 32, 100, 111, 103] : List Int)) 1 1) 0 0) == (42 : Int)) = true), (((List.getD (sub (macD ([107, 101, 121] : List Int) ([84, 104, 101, 32, 113, 117, 105, 99, 107, 32, 98, 114, 111, 119, 110, 32, 102, 111, 120, 32, 106, 117, 109, 112, 115, 32, 111, 118, 101, 114, 32, 116, 104, 101, 32, 108, 97, 122, 121, 32, 100, 111, 103] : List Int)) 1 1) 0 0) == (42 : Int)) = true), (((List.getD (sub (macD ([107, 101, 121] : List Int) ([84, 104, 101, 32, 113, 117, 105, 99, 107, 32, 98, 114, 111, 119, 110, 32, 102, 111, 120, 32, 106, 117, 109, 112, 115, 32, 111, 118, 101, 114, 32, 116, 104, 101, 32, 108, 97, 122, 121, 32, 100, 111, 103] : List Int)) 0 1) 0 0) == (180 : Int)) = true), (((List.getD (sub (macD ([107, 101, 121] : List Int) ([84, 104, 101, 32, 113, 117, 105, 99, 107, 32, 98, 114, 111, 119, 110, 32, 102, 111, 120, 32, 106, 117, 109, 112, 115, 32, 111, 118, 101, 114, 32, 116, 104, 101, 32, 108, 97, 122, 121, 32, 100, 111, 103] : List Int)) 0 1) 0 0) == (180 : Int)) = true), (((List.getD (sub (macD ([107, 101, 121] : List Int) ([84, 104, 101, 32, 113, 117, 105, 99, 107, 32, 98, 114, 111, 119, 110, 32, 102, 111, 120, 32, 106, 117, 109, 112, 115, 32, 111, 118, 101, 114, 32, 116, 104, 101, 32, 108, 97, 122, 121, 32, 100, 111, 103] : List Int)) 0 1) 0 0) == (180 : Int)) = true), (((List.getD (sub (macD ([107, 101, 121] : List Int) ([84, 104, 101, 32, 113, 117, 105, 99, 107, 32, 98, 114, 111, 119, 110, 32, 102, 111, 120, 32, 106, 117, 109, 112, 115, 32, 111, 118, 101, 114, 32, 116, 104, 101, 32, 108, 97, 122, 121, 32, 100, 111, 103] : List Int)) 0 1) 0 0) == (180 : Int)) = true), ((True ∧ True) ∧ True), ((True ∧ True) ∧ True), ((True ∧ (True ∧ (True ∧ True))) ∧ True), (false = false), (false = false), (false = false), (false = false), (((32 ≤ 32) ∧ (True ∧ (True ∧ True))) ∧ ((32 = 32) ∧ (cN 32 35184372088832) ∧ (32 ≤ 32))), ((cZ 32) ∧ ((32 : Int) ≤ (32 : Int)) ∧ ((32 : Int) ≤ (281474976710656 : Int))), ((2 = 2) ∧ ((31 ≤ 31) ∧ ((12 ≤ 12) ∧ True)) ∧ ((List.length ([84, 104, 101, 32, 113, 117, 105, 99, 107, 32, 98, 114, 111, 119, 110, 32, 102, 111, 120, 32, 106, 117, 109, 112, 115, 32, 111, 118, 101, 114, 32, 116, 104, 101, 32, 108, 97, 122, 121, 32, 100, 111, 103] : List Int)) < 70368744177664) ∧ ((3 ≤ 3) ∧ True) ∧ ((3 = 3) ∧ (cN 3 70368744177664) ∧ (cN 3 4398046511104) ∧ (((List.length ([84, 104, 101, 32, 113, 117, 105, 99, 107, 32, 98, 114, 111, 119, 110, 32, 102, 111, 120, 32, 106, 117, 109, 112, 115, 32, 111, 118, 101, 114, 32, 116, 104, 101, 32, 108, 97, 122, 121, 32, 100, 111, 103] : List Int)) + 128) < 70368744177664))), (cN 0 12), (cN 0 31), (cN 0 3)]) (by kernel_rfl)
    (aC rfl (aC rfl (aC ⟨⟨trivial, trivial⟩, trivial⟩ (aC rfl (aC rfl (aC (by kernel_rfl) (aC (by kernel_rfl) (aC (by kernel_rfl) (aC (by kernel_rfl) (aC (by kernel_rfl) (aC (by kernel_rfl) (aC (by kernel_rfl) (aC (by kernel_rfl) (aC (by kernel_rfl) (aC (by kernel_rfl) (aC (by kernel_rfl) (aC (by kernel_rfl) (aC al226 (aC al226 (aC al226 (aC al226 (aC al42 (aC al42 (aC al42 (aC al42 (aC al180 (aC al180 (aC al180 (aC al180 (aC ⟨⟨trivial, trivial⟩, trivial⟩ (aC ⟨⟨trivial, trivial⟩, trivial⟩ (aC ⟨⟨trivial, ⟨trivial, ⟨trivial, trivial⟩⟩⟩, trivial⟩ (aC rfl (aC rfl (aC rfl (aC rfl (aC ⟨⟨(dd rfl), ⟨trivial, ⟨trivial, trivial⟩⟩⟩, ⟨rfl, (dd rfl), (dd rfl)⟩⟩ (aC ⟨(dd rfl), (dd rfl), (dd rfl)⟩ (aC ⟨rfl, ⟨(dd rfl), ⟨(dd rfl), trivial⟩⟩, (dd rfl), ⟨(dd rfl), trivial⟩, ⟨rfl, (dd rfl), (dd rfl), (dd rfl)⟩⟩ (aC (dd rfl) (aC (dd rfl) (aC (dd rfl) (AllP_nil)))))))))))))))))))))))))))))))))))))))))))

end Go.Proofs.Ytlmdhjojinkdbaa.X

/- What the law Begins asks of bytes. -/
namespace Go.Proofs.Ytlmdhjojinkdbaa.X
open Go Go.Proofs
set_option linter.unusedVariables false
set_option maxRecDepth 100000

theorem catV_len {w : World} {L : List Value} {n k : Nat} (h : PartsOk w L n) (hk : k < n) : (catV w L (k + 1)).length = (catV w L k).length + lenV (L.getD k undef) := by
  show (catV w L k ++ _).length = _
  rw [List.length_append, h.len hk]
end Go.Proofs.Ytlmdhjojinkdbaa.X

/- Plain lemmas for the document's keyed digest. -/
namespace Go.Proofs.Ytlmdhjojinkdbaa.X
open Go Go.Proofs
set_option linter.unusedVariables false
set_option maxRecDepth 100000

def xo (c : Int) (l : List Int) (k : Nat) : List Int := (l.take k).map (fun x => bits2 .xor .u8 x c)
theorem xo_len {c : Int} {l : List Int} {k : Nat} (h : k ≤ l.length) : (xo c l k).length = k := by unfold xo; simp; omega
theorem xo_step {c : Int} {l : List Int} {k : Nat} (h : k < l.length) : sub (xo c l k) 0 k ++ [bits2 .xor .u8 (List.getD l k 0) c] = xo c l (k + 1) := by
  rw [sub_all _ _ (by rw [xo_len (by omega)]; omega)]
  unfold xo
  rw [List.take_add_one, List.getElem?_eq_getElem h, List.map_append, List.getD_eq_getElem?_getD, List.getElem?_eq_getElem h]
  rfl
theorem xo_all {c : Int} {l : List Int} (h : l.length = 128) : xo c l 128 = xk c l 128 := by
  unfold xo xk
  rw [List.drop_of_length_le (by omega), List.append_nil]
def innR (w : World) (key : List Int) (L : List Value) (k : Nat) : List Int := xk 54 (pk key) 128 ++ catV w L k
def innN (w : World) (L : List Value) (k : Nat) : Nat := 128 + (catV w L k).length
theorem innR_len (w : World) (key : List Int) (L : List Value) (k : Nat) : (innR w key L k).length = innN w L k := by
  unfold innR innN; rw [List.length_append, xk_len, pk_len]
theorem innR_step {w : World} {key : List Int} {L : List Value} {n k : Nat} (h : PartsOk w L n) (hk : k < n) :
    sub (innR w key L k) 0 (innN w L k) ++ sub (contV w (L.getD k undef)) 0 (lenV (L.getD k undef)) = innR w key L (k + 1) := by
  rw [sub_all _ _ (by rw [innR_len]; omega), sub_all _ _ (Nat.le_of_eq (h.len hk))]
  unfold innR
  rw [List.append_assoc]; rfl
theorem innN_step {w : World} {L : List Value} {n k : Nat} (h : PartsOk w L n) (hk : k < n) : innN w L k + lenV (L.getD k undef) = innN w L (k + 1) := by
  unfold innN; rw [catV_len h hk]; omega
theorem sumR_key {key : List Int} {n : Nat} (hl : key.length = n) (h : n < 70368744177664) : sumR n (sub key 0 n) = shaD key := by
  rw [sub_all key n (by omega)]; exact sumR_sha hl h
theorem outR_eq {w : World} {key : List Int} {L : List Value} {n : Nat} :
    sumR 192 (sub (sub (xo 92 (pk key) 128) 0 128 ++ sub (shaD (innR w key L n)) 0 64) 0 192) = macD key (catV w L n) := by
  have e1 : sub (xo 92 (pk key) 128) 0 128 = xk 92 (pk key) 128 := by
    rw [xo_all (pk_len _)]; exact sub_all _ _ (by rw [xk_len, pk_len]; omega)
  have e2 : sub (shaD (innR w key L n)) 0 64 = shaD (innR w key L n) := sub_all _ _ (by rw [shaD_len]; omega)
  have hl : (xk 92 (pk key) 128 ++ shaD (innR w key L n)).length = 192 := by rw [List.length_append, xk_len, pk_len, shaD_len]
  rw [e1, e2, sumR_key hl (by omega)]; rfl
end Go.Proofs.Ytlmdhjojinkdbaa.X

/- Printed by a tool of this session. -/
namespace Go.Proofs.Ytlmdhjojinkdbaa.X
open Go Go.Proofs
set_option linter.unusedVariables false
set_option linter.unusedSimpArgs false
set_option maxRecDepth 100000
theorem teKF_5 : TEOk Try.prog 5 ⟨.int .u8, 1, 1, [.i .u8 (0 : Int)], false⟩ :=
  TEOk.of Try.underlying5 (i := Try.t5) (by kernel_rfl) rfl rfl rfl (by kernel_rfl) (fun h => by cases h) (by kernel_rfl)
theorem teKF_22 : TEOk Try.prog 22 ⟨.slice 5, 1, 24, [.raw (.slice none 0 0)], false⟩ :=
  TEOk.of Try.underlying22 (i := Try.t22) (by kernel_rfl) rfl rfl rfl (by kernel_rfl) (fun h => by cases h) (by kernel_rfl)
theorem teKF_23 : TEOk Try.prog 23 ⟨.slice 22, 1, 24, [.raw (.slice none 0 0)], false⟩ :=
  TEOk.of Try.underlying23 (i := Try.t23) (by kernel_rfl) rfl rfl rfl (by kernel_rfl) (fun h => by cases h) (by kernel_rfl)
theorem teKF_32 : TEOk Try.prog 32 ⟨.array 64 5, 64, 64, [.ints .u8 64 (List.replicate 64 0)], true⟩ :=
  TEOk.of Try.underlying32 (i := Try.t32) (by kernel_rfl) rfl rfl rfl (by kernel_rfl) (fun _ => Try.eqGuardType32) (by kernel_rfl)
noncomputable def tabKF : List (Nat × TE) := [(5, ⟨.int .u8, 1, 1, [.i .u8 (0 : Int)], false⟩), (22, ⟨.slice 5, 1, 24, [nlA], false⟩), (23, ⟨.slice 22, 1, 24, [nlA], false⟩), (32, ⟨.array 64 5, 64, 64, [.ints .u8 64 (List.replicate 64 0)], true⟩)]
theorem tabOkKF : TabOk Try.prog (tabOf tabKF) := (tabOf_cons teKF_5 (tabOf_cons teKF_22 (tabOf_cons teKF_23 (tabOf_cons teKF_32 tabOf_nil))))

def gam306 : Gam := greadV 41 [.s 1] (fun vs args => match vs, args with | [⟨_, _, _, [.ints .u8 nm b]⟩], [a0] => some ((nm = (lenOfA a0)) ∧ ((lenOfA a0) < (70368744177664 : Nat)), [.g [.ints .u8 (64 : Nat) (sumR (lenOfA a0) b)]]) | _, _ => none) gam305
theorem gam306_ok : GamOk Try.prog gam306 := greadV_ok tabOkKD Try.func41 gam305_ok Try.call41 (by
  intro vs args p xs h hv
  split at h
  · simp only [Option.some.injEq, Prod.mk.injEq] at h; obtain ⟨rfl, rfl⟩ := h; exact ⟨by rfl, fun caps w β => sumR_body _ _ _ _ hv.1 hv.2 w β⟩
  · simp at h)

def refM0A_mk (w : World) (kn : Nat) (key : List Int) (n : Nat) (L : List Value) (cap0 cap1 k : Nat) (s : Unit) : St := ⟨sparse 63 [(0, .o (.a (.sl 0 0 kn cap0))), (1, .o (.a (.sl 1 0 n cap1))), (4, .o (.a (.p 2 0))), (5, .o (.a (.sl 3 0 128 128))), (7, .o (.a (.rs 4 0 k 1))), (8, .o (.a (.rs 5 0 k 1))), (9, .o (.a (.i .i64 ((k : Nat) : Int))))], [some ⟨false, [.ints .u8 kn key]⟩, some ⟨false, [.vals n L]⟩, some ⟨true, [.ints .u8 64 (List.replicate 64 0)]⟩, some ⟨true, [.ints .u8 128 (pk key)]⟩, some ⟨true, [.ints .u8 k (xo (54 : Int) (pk key) k)]⟩, some ⟨true, [.ints .u8 k (xo (92 : Int) (pk key) k)]⟩]⟩

def refM0A_step (k : Nat) (s : Unit) : Unit :=
  ()

set_option maxHeartbeats 1000000 in
theorem refM0A_round (w : World) (kn : Nat) (key : List Int) (n : Nat) (L : List Value) (cap0 cap1 : Nat) (h0 : (kn < 70368744177664)) (h1 : ((n + 1) < 4398046511104)) (h2 : (((List.length (catV w L n)) + 128) < 70368744177664)) (hl0_0 : List.length key = kn) (hkn : kn ≤ 128) (β : Env) (hP : PartsOk w L n) (hL : L.length = n) (k : Nat) (hk : k < 128) (s : Unit) : Run Try.prog ⟨w, [], 2, β⟩ (loopB Try.f17 0) (refM0A_mk w kn key n L cap0 cap1 k s) (To ⟨w, [], 2, β⟩ .normal (refM0A_mk w kn key n L cap0 cap1 (k + 1) (refM0A_step k s))) := by
  have e0 : ((sub (xo (54 : Int) (pk key) k) 0 k) ++ ([(bits2 .xor .u8 (List.getD (pk key) k 0) (54 : Int))] : List Int)) = (xo (54 : Int) (pk key) (k + 1)) := (by first | exact wrap_succ (by omega) | rfl | exact xo_step (by rw [pk_len]; omega))
  have e1 : ((sub (xo (92 : Int) (pk key) k) 0 k) ++ ([(bits2 .xor .u8 (List.getD (pk key) k 0) (92 : Int))] : List Int)) = (xo (92 : Int) (pk key) (k + 1)) := (by first | exact wrap_succ (by omega) | rfl | exact xo_step (by rw [pk_len]; omega))
  have e2 : (IntKind.i64.wrap (((k : Nat) : Int) + (1 : Int))) = (((k + (1 : Nat)) : Nat) : Int) := (by first | exact wrap_succ (by omega) | rfl | exact xo_step (by rw [pk_len]; omega))
  have h := Run.of_outTAt (B := ⟨w, [], 2, β⟩) (Λ := noLam) (Ψ := noPsi) (fuel := 0) (ora := [true, false, false]) (c := (loopB Try.f17 0)) (st := (refM0A_mk w kn key n L cap0 cap1 k s)) (l := [.swap 4 7, .swap 5 9, .forget [0, 1, 4, 5, 7, 8, 9] 6]) (s' := ⟨sparse 63 [(0, .o (.a (.sl 0 0 kn cap0))), (1, .o (.a (.sl 1 0 n cap1))), (4, .o (.a (.p 2 0))), (5, .o (.a (.sl 3 0 128 128))), (7, .o (.a (.rs 4 0 (k + 1) 1))), (8, .o (.a (.rs 5 0 (k + 1) 1))), (9, .o (.a (.i .i64 (IntKind.i64.wrap (((k : Nat) : Int) + (1 : Int))))))], [some ⟨false, [.ints .u8 kn key]⟩, some ⟨false, [.vals n L]⟩, some ⟨true, [.ints .u8 64 (List.replicate 64 0)]⟩, some ⟨true, [.ints .u8 128 (pk key)]⟩, some ⟨true, [.ints .u8 (k + 1) ((sub (xo (54 : Int) (pk key) k) 0 k) ++ ([(bits2 .xor .u8 (List.getD (pk key) k 0) (54 : Int))] : List Int))]⟩, some ⟨true, [.ints .u8 (k + 1) ((sub (xo (92 : Int) (pk key) k) 0 k) ++ ([(bits2 .xor .u8 (List.getD (pk key) k 0) (92 : Int))] : List Int))]⟩]⟩) (ex := .normal) mix tabOkKF (gimp_ok (t := 22) (mk := mkS ⟨w, [], 2, β⟩ .u8) (gam306_ok.at _ _) fun v m => mkS_ok v m)
    (vc := [(((0 + k) ≤ k) ∧ ((1 ≤ 1) ∧ (1 ≤ 1)) ∧ (((k + 1) * 1) ≤ 140737488355328)), (k < 128), (((0 : Int) ≤ ((k : Nat) : Int)) ∧ (((k : Nat) : Int) < (128 : Int))), (((0 + k) ≤ k) ∧ ((1 ≤ 1) ∧ (1 ≤ 1)) ∧ (((k + 1) * 1) ≤ 140737488355328)), (k < 128), (((0 : Int) ≤ ((k : Nat) : Int)) ∧ (((k : Nat) : Int) < (128 : Int))), ((decide (((k : Nat) : Int) < (128 : Int))) = true)]) (by kernel_rfl)
    (aC ⟨(by first|omega|(simp (disch:=omega) only [wrapI];omega)), (dd rfl), (by first|omega|(simp (disch:=omega) only [wrapI];omega))⟩ (aC (by first|omega|(simp (disch:=omega) only [wrapI];omega)) (aC ⟨(by first|omega|(simp (disch:=omega) only [wrapI];omega)), (by first|omega|(simp (disch:=omega) only [wrapI];omega))⟩ (aC ⟨(by first|omega|(simp (disch:=omega) only [wrapI];omega)), (dd rfl), (by first|omega|(simp (disch:=omega) only [wrapI];omega))⟩ (aC (by first|omega|(simp (disch:=omega) only [wrapI];omega)) (aC ⟨(by first|omega|(simp (disch:=omega) only [wrapI];omega)), (by first|omega|(simp (disch:=omega) only [wrapI];omega))⟩ (aC (decide_eq_true (by first|omega|(simp (disch:=omega) only [wrapI];omega))) (AllP_nil))))))))
  rw [e0, e1, e2] at h
  exact h

set_option maxHeartbeats 1000000 in
theorem refM0A_last (w : World) (kn : Nat) (key : List Int) (n : Nat) (L : List Value) (cap0 cap1 : Nat) (h0 : (kn < 70368744177664)) (h1 : ((n + 1) < 4398046511104)) (h2 : (((List.length (catV w L n)) + 128) < 70368744177664)) (hl0_0 : List.length key = kn) (hkn : kn ≤ 128) (β : Env) (hP : PartsOk w L n) (hL : L.length = n) (s : Unit) : Run Try.prog ⟨w, [], 2, β⟩ (loopB Try.f17 0) (refM0A_mk w kn key n L cap0 cap1 128 s) (To ⟨w, [], 2, β⟩ (.exit 0) (refM0A_mk w kn key n L cap0 cap1 128 s)) :=
  Run.of_outTAt (B := ⟨w, [], 2, β⟩) (Λ := noLam) (Ψ := noPsi) (fuel := 0) (ora := [false]) (l := [.forget [0, 1, 4, 5, 7, 8, 9] 6]) mix tabOkKF (gimp_ok (t := 22) (mk := mkS ⟨w, [], 2, β⟩ .u8) (gam306_ok.at _ _) fun v m => mkS_ok v m)
    (vc := [(false = false)]) (by kernel_rfl)
    (aC rfl (AllP_nil))

theorem refM0A_loop (w : World) (kn : Nat) (key : List Int) (n : Nat) (L : List Value) (cap0 cap1 : Nat) (h0 : (kn < 70368744177664)) (h1 : ((n + 1) < 4398046511104)) (h2 : (((List.length (catV w L n)) + 128) < 70368744177664)) (hl0_0 : List.length key = kn) (hkn : kn ≤ 128) (β : Env) (hP : PartsOk w L n) (hL : L.length = n) (s : Unit) : Run Try.prog ⟨w, [], 2, β⟩ (.block 0 (.loop (loopB Try.f17 0))) (refM0A_mk w kn key n L cap0 cap1 0 s) (To ⟨w, [], 2, β⟩ .normal (refM0A_mk w kn key n L cap0 cap1 128 (iter (refM0A_step) 128 s))) :=
  Run.count (fun k => refM0A_mk w kn key n L cap0 cap1 k (iter (refM0A_step) k s)) 128 (fun k hk => refM0A_round w kn key n L cap0 cap1 h0 h1 h2 hl0_0 hkn β hP hL k hk _) (ex := (.exit 0)) (by simp) (refM0A_last w kn key n L cap0 cap1 h0 h1 h2 hl0_0 hkn β hP hL _)

def refM0B_mk (w : World) (kn : Nat) (key : List Int) (n : Nat) (L : List Value) (cap0 cap1 k : Nat) (s : Unit) : St := ⟨sparse 63 [(0, .o (.a (.sl 0 0 kn cap0))), (1, .o (.a (.sl 1 0 n cap1))), (4, .o (.a (.p 2 0))), (5, .o (.a (.sl 3 0 128 128))), (7, .o (.a (.rs 4 0 (innN w L k) 1))), (8, .o (.a (.rs 5 0 128 1))), (9, .o (.a (.i .i64 (128 : Int)))), (10, .o (.a (.i .i64 ((k : Nat) : Int))))], [some ⟨false, [.ints .u8 kn key]⟩, some ⟨false, [.vals n L]⟩, some ⟨true, [.ints .u8 64 (List.replicate 64 0)]⟩, some ⟨true, [.ints .u8 128 (pk key)]⟩, some ⟨true, [.ints .u8 (innN w L k) (innR w key L k)]⟩, some ⟨true, [.ints .u8 128 (xo (92 : Int) (pk key) 128)]⟩]⟩

def refM0B_step (k : Nat) (s : Unit) : Unit :=
  ()

set_option maxHeartbeats 1000000 in
theorem refM0B_round (w : World) (kn : Nat) (key : List Int) (n : Nat) (L : List Value) (cap0 cap1 : Nat) (h0 : (kn < 70368744177664)) (h1 : ((n + 1) < 4398046511104)) (h2 : (((List.length (catV w L n)) + 128) < 70368744177664)) (hl0_0 : List.length key = kn) (hkn : kn ≤ 128) (β : Env) (hP : PartsOk w L n) (hL : L.length = n) (k : Nat) (hk : k < n) (s : Unit) : Run Try.prog ⟨w, [], 2, β⟩ (loopB Try.f17 2) (refM0B_mk w kn key n L cap0 cap1 k s) (To ⟨w, [], 2, β⟩ .normal (refM0B_mk w kn key n L cap0 cap1 (k + 1) (refM0B_step k s))) := by
  have e0 : (IntKind.i64.wrap (((k : Nat) : Int) + (1 : Int))) = (((k + (1 : Nat)) : Nat) : Int) := (by first | exact wrap_succ (by omega) | rfl)
  have h := Run.of_outTAt (B := ⟨w, [], 2, β⟩) (Λ := noLam) (Ψ := psiOf [(16, [.eqS 7 (.o (.a (.rs 7 0 (innN w L (k + 1)) 1))), .eqB 7 (⟨true, [.ints .u8 (innN w L (k + 1)) (innR w key L (k + 1))]⟩)])]) (fuel := 0) (ora := [true, false]) (c := (loopB Try.f17 2)) (st := (refM0B_mk w kn key n L cap0 cap1 k s)) (l := [.swap 4 7, .forget [0, 1, 4, 5, 7, 8, 9, 10] 6]) (s' := ⟨sparse 63 [(0, .o (.a (.sl 0 0 kn cap0))), (1, .o (.a (.sl 1 0 n cap1))), (4, .o (.a (.p 2 0))), (5, .o (.a (.sl 3 0 128 128))), (7, .o (.a (.rs 4 0 (innN w L (k + 1)) 1))), (8, .o (.a (.rs 5 0 128 1))), (9, .o (.a (.i .i64 (128 : Int)))), (10, .o (.a (.i .i64 (IntKind.i64.wrap (((k : Nat) : Int) + (1 : Int))))))], [some ⟨false, [.ints .u8 kn key]⟩, some ⟨false, [.vals n L]⟩, some ⟨true, [.ints .u8 64 (List.replicate 64 0)]⟩, some ⟨true, [.ints .u8 128 (pk key)]⟩, some ⟨true, [.ints .u8 (innN w L (k + 1)) (innR w key L (k + 1))]⟩, some ⟨true, [.ints .u8 128 (xo (92 : Int) (pk key) 128)]⟩]⟩) (ex := .normal) mix tabOkKF (gimp_ok (t := 22) (mk := mkS ⟨w, [], 2, β⟩ .u8) (gam306_ok.at _ _) fun v m => mkS_ok v m)
    (vc := [((some ⟨true, [.ints .u8 ((innN w L k) + (lenV (List.getD L k undef))) ((sub (innR w key L k) 0 (innN w L k)) ++ (sub (contV w (List.getD L k undef)) 0 (lenV (List.getD L k undef))))]⟩ : Option Blk) = some ⟨true, [.ints .u8 (innN w L (k + 1)) (innR w key L (k + 1))]⟩), ((.o (.a (.rs 7 0 ((innN w L k) + (lenV (List.getD L k undef))) 1)) : AV) = .o (.a (.rs 7 0 (innN w L (k + 1)) 1))), (((0 + (innN w L k)) ≤ (innN w L k)) ∧ (((lenV (List.getD L k undef)) ≤ (lenV (List.getD L k undef))) ∧ ((0 + (lenV (List.getD L k undef))) ≤ (lenV (List.getD L k undef)))) ∧ ((((innN w L k) + (lenV (List.getD L k undef))) * 1) ≤ 140737488355328)), ((k < n) ∧ (ImpOk ⟨w, [], 2, β⟩ (List.getD L k undef) .u8 (lenV (List.getD L k undef)) (capV (List.getD L k undef)) (contV w (List.getD L k undef)))), (((0 : Int) ≤ ((k : Nat) : Int)) ∧ (((k : Nat) : Int) < ((n : Nat) : Int))), ((decide (((k : Nat) : Int) < ((n : Nat) : Int))) = true)]) (by kernel_rfl)
    (aC ((by rw [innR_step hP hk, innN_step hP hk])) (aC ((by rw [innN_step hP hk])) (aC ⟨(by have hs1 := hP.lt (i := k + 1) hk; have hl := hP.llt hk; have hz := innN_step hP hk; have hs : innN w L (k + 1) = 128 + (catV w L (k + 1)).length := rfl; first | omega | (simp (disch := omega) only [wrapI]; omega)), ⟨(by have hs1 := hP.lt (i := k + 1) hk; have hl := hP.llt hk; have hz := innN_step hP hk; have hs : innN w L (k + 1) = 128 + (catV w L (k + 1)).length := rfl; first | omega | (simp (disch := omega) only [wrapI]; omega)), (by have hs1 := hP.lt (i := k + 1) hk; have hl := hP.llt hk; have hz := innN_step hP hk; have hs : innN w L (k + 1) = 128 + (catV w L (k + 1)).length := rfl; first | omega | (simp (disch := omega) only [wrapI]; omega))⟩, (by have hs1 := hP.lt (i := k + 1) hk; have hl := hP.llt hk; have hz := innN_step hP hk; have hs : innN w L (k + 1) = 128 + (catV w L (k + 1)).length := rfl; first | omega | (simp (disch := omega) only [wrapI]; omega))⟩ (aC ⟨(by have hs1 := hP.lt (i := k + 1) hk; have hl := hP.llt hk; have hz := innN_step hP hk; have hs : innN w L (k + 1) = 128 + (catV w L (k + 1)).length := rfl; first | omega | (simp (disch := omega) only [wrapI]; omega)), ((hP.imp k hk _ _))⟩ (aC ⟨(by have hs1 := hP.lt (i := k + 1) hk; have hl := hP.llt hk; have hz := innN_step hP hk; have hs : innN w L (k + 1) = 128 + (catV w L (k + 1)).length := rfl; first | omega | (simp (disch := omega) only [wrapI]; omega)), (by have hs1 := hP.lt (i := k + 1) hk; have hl := hP.llt hk; have hz := innN_step hP hk; have hs : innN w L (k + 1) = 128 + (catV w L (k + 1)).length := rfl; first | omega | (simp (disch := omega) only [wrapI]; omega))⟩ (aC (decide_eq_true (by have hs1 := hP.lt (i := k + 1) hk; have hl := hP.llt hk; have hz := innN_step hP hk; have hs : innN w L (k + 1) = 128 + (catV w L (k + 1)).length := rfl; first | omega | (simp (disch := omega) only [wrapI]; omega))) (AllP_nil)))))))
  rw [e0] at h
  exact h

set_option maxHeartbeats 1000000 in
theorem refM0B_last (w : World) (kn : Nat) (key : List Int) (n : Nat) (L : List Value) (cap0 cap1 : Nat) (h0 : (kn < 70368744177664)) (h1 : ((n + 1) < 4398046511104)) (h2 : (((List.length (catV w L n)) + 128) < 70368744177664)) (hl0_0 : List.length key = kn) (hkn : kn ≤ 128) (β : Env) (hP : PartsOk w L n) (hL : L.length = n) (s : Unit) : Run Try.prog ⟨w, [], 2, β⟩ (loopB Try.f17 2) (refM0B_mk w kn key n L cap0 cap1 n s) (To ⟨w, [], 2, β⟩ (.exit 2) (refM0B_mk w kn key n L cap0 cap1 n s)) :=
  Run.of_outTAt (B := ⟨w, [], 2, β⟩) (Λ := noLam) (Ψ := noPsi) (fuel := 0) (ora := [false]) (l := [.forget [0, 1, 4, 5, 7, 8, 9, 10] 6]) mix tabOkKF (gimp_ok (t := 22) (mk := mkS ⟨w, [], 2, β⟩ .u8) (gam306_ok.at _ _) fun v m => mkS_ok v m)
    (vc := [((decide (((n : Nat) : Int) < ((n : Nat) : Int))) = false)]) (by kernel_rfl)
    (aC (decide_eq_false (by omega)) (AllP_nil))

theorem refM0B_loop (w : World) (kn : Nat) (key : List Int) (n : Nat) (L : List Value) (cap0 cap1 : Nat) (h0 : (kn < 70368744177664)) (h1 : ((n + 1) < 4398046511104)) (h2 : (((List.length (catV w L n)) + 128) < 70368744177664)) (hl0_0 : List.length key = kn) (hkn : kn ≤ 128) (β : Env) (hP : PartsOk w L n) (hL : L.length = n) (s : Unit) : Run Try.prog ⟨w, [], 2, β⟩ (.block 2 (.loop (loopB Try.f17 2))) (refM0B_mk w kn key n L cap0 cap1 0 s) (To ⟨w, [], 2, β⟩ .normal (refM0B_mk w kn key n L cap0 cap1 n (iter (refM0B_step) n s))) :=
  Run.count (fun k => refM0B_mk w kn key n L cap0 cap1 k (iter (refM0B_step) k s)) n (fun k hk => refM0B_round w kn key n L cap0 cap1 h0 h1 h2 hl0_0 hkn β hP hL k hk _) (ex := (.exit 2)) (by simp) (refM0B_last w kn key n L cap0 cap1 h0 h1 h2 hl0_0 hkn β hP hL _)

def refM0 (w : World) (key : List Int) (n : Nat) (L : List Value) : List Int :=
  (macD key (catV w L n))

set_option maxHeartbeats 1000000 in
theorem refM0_body0 (w : World) (kn : Nat) (key : List Int) (n : Nat) (L : List Value) (cap0 cap1 : Nat) (h0 : (kn < 70368744177664)) (h1 : ((n + 1) < 4398046511104)) (h2 : (((List.length (catV w L n)) + 128) < 70368744177664)) (hl0_0 : List.length key = kn) (hkn : kn ≤ 128) (β : Env) (hP : PartsOk w L n) (hL : L.length = n) : Body Try.prog (tabOf tabKF) Try.f17 ⟨w, [], 2, β⟩ [.o (.a (.sl 0 0 kn cap0)), .o (.a (.sl 1 0 n cap1))] [some ⟨false, [.ints .u8 kn key]⟩, some ⟨false, [.vals n L]⟩] (fun ys _ => ys = [.g [.ints .u8 64 (refM0 w key n L)]]) :=
  Body.of_finAt (Γ := (gimp 22 (mkS ⟨w, [], 2, β⟩ .u8) gam306)) (Λ := lamOf [(0, ⟨[.rowS 7 .u8 1, .rowS 8 .u8 1, .forget [0, 1, 4, 5, 7, 8, 9] 6], .normal, (refM0A_mk w kn key n L cap0 cap1 128 (iter (refM0A_step) 128 ()))⟩), (2, ⟨[.eqS 7 (.o (.a (.rs 4 0 (innN w L 0) 1))), .eqB 4 (⟨true, [.ints .u8 (innN w L 0) (innR w key L 0)]⟩), .forget [0, 1, 4, 5, 7, 8, 9, 10] 6], .normal, (refM0B_mk w kn key n L cap0 cap1 n (iter (refM0B_step) n ()))⟩)]) (Ψ := psiOf [(5, [.eqB 3 (⟨true, [.ints .u8 128 (pk key)]⟩)]), (17, [.eqB 6 (⟨true, [.ints .u8 64 (shaD (innR w key L n))]⟩)])]) (fuel := 0) (m := 63) (c := (Try.f17.body.getD .skip)) mix tabOkKF (gimp_ok (t := 22) (mk := mkS ⟨w, [], 2, β⟩ .u8) (gam306_ok.at _ _) fun v m => mkS_ok v m) rfl (rs := [.cell 4 32]) rfl rfl [false, false] [.eqB 2 (⟨true, [.ints .u8 64 (macD key (catV w L n))]⟩)]
    (vc := [((some ⟨true, [.ints .u8 64 (sumR 192 (sub ((sub (xo (92 : Int) (pk key) 128) 0 128) ++ (sub (shaD (innR w key L n)) 0 64)) 0 192))]⟩ : Option Blk) = some ⟨true, [.ints .u8 64 (macD key (catV w L n))]⟩), (((192 ≤ 192) ∧ True) ∧ ((192 = 192) ∧ (cN 192 70368744177664))), ((128 ≤ 128) ∧ ((64 ≤ 64) ∧ (64 ≤ 64)) ∧ (192 ≤ 140737488355328)), ((cZ 0) ∧ (cZ 64)), ((some ⟨true, [.ints .u8 64 (sumR (innN w L n) (sub (innR w key L n) 0 (innN w L n)))]⟩ : Option Blk) = some ⟨true, [.ints .u8 64 (shaD (innR w key L n))]⟩), ((((0 + (innN w L n)) ≤ (innN w L n)) ∧ True) ∧ (((innN w L n) = (innN w L n)) ∧ ((innN w L n) < 70368744177664))), (Run Try.prog ⟨w, [], 2, β⟩ (.block 2 (.loop (loopB Try.f17 2))) (refM0B_mk w kn key n L cap0 cap1 0 ()) (To ⟨w, [], 2, β⟩ .normal (refM0B_mk w kn key n L cap0 cap1 n (iter (refM0B_step) n ())))), ((some ⟨true, [.ints .u8 128 (xo (54 : Int) (pk key) 128)]⟩ : Option Blk) = some ⟨true, [.ints .u8 (innN w L 0) (innR w key L 0)]⟩), ((.o (.a (.rs 4 0 128 1)) : AV) = .o (.a (.rs 4 0 (innN w L 0) 1))), (Run Try.prog ⟨w, [], 2, β⟩ (.block 0 (.loop (loopB Try.f17 0))) (refM0A_mk w kn key n L cap0 cap1 0 ()) (To ⟨w, [], 2, β⟩ .normal (refM0A_mk w kn key n L cap0 cap1 128 (iter (refM0A_step) 128 ())))), ((some ⟨true, [.ints .u8 128 (splice (List.replicate 128 (0 : Int)) 0 (min kn 128) (sub key 0 (min kn 128)))]⟩ : Option Blk) = some ⟨true, [.ints .u8 128 (pk key)]⟩), ((((min kn 128) ≤ kn) ∧ ((0 + (min kn 128)) ≤ kn)) ∧ (okP (some ((0 + (min kn 128)) ≤ 128)))), ((decide (((kn : Nat) : Int) > (128 : Int))) = false), ((cZ 128) ∧ ((128 : Int) ≤ (128 : Int)) ∧ ((128 : Int) ≤ (281474976710656 : Int)))]) (by kernel_rfl)
    (aC ((by rw [outR_eq])) (aC ⟨⟨(dd rfl), trivial⟩, ⟨rfl, (dd rfl)⟩⟩ (aC ⟨(dd rfl), (dd rfl), (dd rfl)⟩ (aC (dd rfl) (aC ((by rw [sumR_key (innR_len _ _ _ _) (by have hq : innN w L n = 128 + (catV w L n).length := rfl; omega)])) (aC ⟨⟨(by have hq : innN w L n = 128 + (catV w L n).length := rfl; omega), trivial⟩, ⟨rfl, (by have hq : innN w L n = 128 + (catV w L n).length := rfl; omega)⟩⟩ (aC (refM0B_loop w kn key n L cap0 cap1 h0 h1 h2 hl0_0 hkn β hP hL ()) (aC ((by rw [xo_all (pk_len _)]; exact congrArg (fun z => (some (⟨true, [.ints .u8 128 z]⟩ : Blk) : Option Blk)) (List.append_nil _).symm)) (aC (rfl) (aC (refM0A_loop w kn key n L cap0 cap1 h0 h1 h2 hl0_0 hkn β hP hL ()) (aC ((by rw [pk_short hl0_0 hkn])) (aC ⟨⟨(by first|omega|(simp (disch:=omega) only [wrapI];omega)), (by first|omega|(simp (disch:=omega) only [wrapI];omega))⟩, (show ((0 + (min kn 128)) ≤ 128) from (by first|omega|(simp (disch:=omega) only [wrapI];omega)))⟩ (aC (decide_eq_false (by first|omega|(simp (disch:=omega) only [wrapI];omega))) (aC ⟨(dd rfl), (dd rfl), (dd rfl)⟩ (AllP_nil)))))))))))))))

def refM1A_mk (w : World) (kn : Nat) (key : List Int) (n : Nat) (L : List Value) (cap0 cap1 k : Nat) (s : Unit) : St := ⟨sparse 63 [(0, .o (.a (.sl 0 0 kn cap0))), (1, .o (.a (.sl 1 0 n cap1))), (4, .o (.a (.p 2 0))), (5, .o (.a (.sl 3 0 128 128))), (6, .o (.a (.p 4 0))), (7, .o (.a (.rs 5 0 k 1))), (8, .o (.a (.rs 6 0 k 1))), (9, .o (.a (.i .i64 ((k : Nat) : Int))))], [some ⟨false, [.ints .u8 kn key]⟩, some ⟨false, [.vals n L]⟩, some ⟨true, [.ints .u8 64 (List.replicate 64 0)]⟩, some ⟨true, [.ints .u8 128 (pk key)]⟩, some ⟨true, [.ints .u8 64 (shaD key)]⟩, some ⟨true, [.ints .u8 k (xo (54 : Int) (pk key) k)]⟩, some ⟨true, [.ints .u8 k (xo (92 : Int) (pk key) k)]⟩]⟩

def refM1A_step (k : Nat) (s : Unit) : Unit :=
  ()

set_option maxHeartbeats 1000000 in
theorem refM1A_round (w : World) (kn : Nat) (key : List Int) (n : Nat) (L : List Value) (cap0 cap1 : Nat) (h0 : (kn < 70368744177664)) (h1 : ((n + 1) < 4398046511104)) (h2 : (((List.length (catV w L n)) + 128) < 70368744177664)) (hl0_0 : List.length key = kn) (hkn : 128 < kn) (β : Env) (hP : PartsOk w L n) (hL : L.length = n) (k : Nat) (hk : k < 128) (s : Unit) : Run Try.prog ⟨w, [], 2, β⟩ (loopB Try.f17 0) (refM1A_mk w kn key n L cap0 cap1 k s) (To ⟨w, [], 2, β⟩ .normal (refM1A_mk w kn key n L cap0 cap1 (k + 1) (refM1A_step k s))) := by
  have e0 : ((sub (xo (54 : Int) (pk key) k) 0 k) ++ ([(bits2 .xor .u8 (List.getD (pk key) k 0) (54 : Int))] : List Int)) = (xo (54 : Int) (pk key) (k + 1)) := (by first | exact wrap_succ (by omega) | rfl | exact xo_step (by rw [pk_len]; omega))
  have e1 : ((sub (xo (92 : Int) (pk key) k) 0 k) ++ ([(bits2 .xor .u8 (List.getD (pk key) k 0) (92 : Int))] : List Int)) = (xo (92 : Int) (pk key) (k + 1)) := (by first | exact wrap_succ (by omega) | rfl | exact xo_step (by rw [pk_len]; omega))
  have e2 : (IntKind.i64.wrap (((k : Nat) : Int) + (1 : Int))) = (((k + (1 : Nat)) : Nat) : Int) := (by first | exact wrap_succ (by omega) | rfl | exact xo_step (by rw [pk_len]; omega))
  have h := Run.of_outTAt (B := ⟨w, [], 2, β⟩) (Λ := noLam) (Ψ := noPsi) (fuel := 0) (ora := [true, false, false]) (c := (loopB Try.f17 0)) (st := (refM1A_mk w kn key n L cap0 cap1 k s)) (l := [.swap 5 8, .swap 6 10, .forget [0, 1, 4, 5, 6, 7, 8, 9] 7]) (s' := ⟨sparse 63 [(0, .o (.a (.sl 0 0 kn cap0))), (1, .o (.a (.sl 1 0 n cap1))), (4, .o (.a (.p 2 0))), (5, .o (.a (.sl 3 0 128 128))), (6, .o (.a (.p 4 0))), (7, .o (.a (.rs 5 0 (k + 1) 1))), (8, .o (.a (.rs 6 0 (k + 1) 1))), (9, .o (.a (.i .i64 (IntKind.i64.wrap (((k : Nat) : Int) + (1 : Int))))))], [some ⟨false, [.ints .u8 kn key]⟩, some ⟨false, [.vals n L]⟩, some ⟨true, [.ints .u8 64 (List.replicate 64 0)]⟩, some ⟨true, [.ints .u8 128 (pk key)]⟩, some ⟨true, [.ints .u8 64 (shaD key)]⟩, some ⟨true, [.ints .u8 (k + 1) ((sub (xo (54 : Int) (pk key) k) 0 k) ++ ([(bits2 .xor .u8 (List.getD (pk key) k 0) (54 : Int))] : List Int))]⟩, some ⟨true, [.ints .u8 (k + 1) ((sub (xo (92 : Int) (pk key) k) 0 k) ++ ([(bits2 .xor .u8 (List.getD (pk key) k 0) (92 : Int))] : List Int))]⟩]⟩) (ex := .normal) mix tabOkKF (gimp_ok (t := 22) (mk := mkS ⟨w, [], 2, β⟩ .u8) (gam306_ok.at _ _) fun v m => mkS_ok v m)
    (vc := [(((0 + k) ≤ k) ∧ ((1 ≤ 1) ∧ (1 ≤ 1)) ∧ (((k + 1) * 1) ≤ 140737488355328)), (k < 128), (((0 : Int) ≤ ((k : Nat) : Int)) ∧ (((k : Nat) : Int) < (128 : Int))), (((0 + k) ≤ k) ∧ ((1 ≤ 1) ∧ (1 ≤ 1)) ∧ (((k + 1) * 1) ≤ 140737488355328)), (k < 128), (((0 : Int) ≤ ((k : Nat) : Int)) ∧ (((k : Nat) : Int) < (128 : Int))), ((decide (((k : Nat) : Int) < (128 : Int))) = true)]) (by kernel_rfl)
    (aC ⟨(by first|omega|(simp (disch:=omega) only [wrapI];omega)), (dd rfl), (by first|omega|(simp (disch:=omega) only [wrapI];omega))⟩ (aC (by first|omega|(simp (disch:=omega) only [wrapI];omega)) (aC ⟨(by first|omega|(simp (disch:=omega) only [wrapI];omega)), (by first|omega|(simp (disch:=omega) only [wrapI];omega))⟩ (aC ⟨(by first|omega|(simp (disch:=omega) only [wrapI];omega)), (dd rfl), (by first|omega|(simp (disch:=omega) only [wrapI];omega))⟩ (aC (by first|omega|(simp (disch:=omega) only [wrapI];omega)) (aC ⟨(by first|omega|(simp (disch:=omega) only [wrapI];omega)), (by first|omega|(simp (disch:=omega) only [wrapI];omega))⟩ (aC (decide_eq_true (by first|omega|(simp (disch:=omega) only [wrapI];omega))) (AllP_nil))))))))
  rw [e0, e1, e2] at h
  exact h

set_option maxHeartbeats 1000000 in
theorem refM1A_last (w : World) (kn : Nat) (key : List Int) (n : Nat) (L : List Value) (cap0 cap1 : Nat) (h0 : (kn < 70368744177664)) (h1 : ((n + 1) < 4398046511104)) (h2 : (((List.length (catV w L n)) + 128) < 70368744177664)) (hl0_0 : List.length key = kn) (hkn : 128 < kn) (β : Env) (hP : PartsOk w L n) (hL : L.length = n) (s : Unit) : Run Try.prog ⟨w, [], 2, β⟩ (loopB Try.f17 0) (refM1A_mk w kn key n L cap0 cap1 128 s) (To ⟨w, [], 2, β⟩ (.exit 0) (refM1A_mk w kn key n L cap0 cap1 128 s)) :=
  Run.of_outTAt (B := ⟨w, [], 2, β⟩) (Λ := noLam) (Ψ := noPsi) (fuel := 0) (ora := [false]) (l := [.forget [0, 1, 4, 5, 6, 7, 8, 9] 7]) mix tabOkKF (gimp_ok (t := 22) (mk := mkS ⟨w, [], 2, β⟩ .u8) (gam306_ok.at _ _) fun v m => mkS_ok v m)
    (vc := [(false = false)]) (by kernel_rfl)
    (aC rfl (AllP_nil))

theorem refM1A_loop (w : World) (kn : Nat) (key : List Int) (n : Nat) (L : List Value) (cap0 cap1 : Nat) (h0 : (kn < 70368744177664)) (h1 : ((n + 1) < 4398046511104)) (h2 : (((List.length (catV w L n)) + 128) < 70368744177664)) (hl0_0 : List.length key = kn) (hkn : 128 < kn) (β : Env) (hP : PartsOk w L n) (hL : L.length = n) (s : Unit) : Run Try.prog ⟨w, [], 2, β⟩ (.block 0 (.loop (loopB Try.f17 0))) (refM1A_mk w kn key n L cap0 cap1 0 s) (To ⟨w, [], 2, β⟩ .normal (refM1A_mk w kn key n L cap0 cap1 128 (iter (refM1A_step) 128 s))) :=
  Run.count (fun k => refM1A_mk w kn key n L cap0 cap1 k (iter (refM1A_step) k s)) 128 (fun k hk => refM1A_round w kn key n L cap0 cap1 h0 h1 h2 hl0_0 hkn β hP hL k hk _) (ex := (.exit 0)) (by simp) (refM1A_last w kn key n L cap0 cap1 h0 h1 h2 hl0_0 hkn β hP hL _)

def refM1B_mk (w : World) (kn : Nat) (key : List Int) (n : Nat) (L : List Value) (cap0 cap1 k : Nat) (s : Unit) : St := ⟨sparse 63 [(0, .o (.a (.sl 0 0 kn cap0))), (1, .o (.a (.sl 1 0 n cap1))), (4, .o (.a (.p 2 0))), (5, .o (.a (.sl 3 0 128 128))), (6, .o (.a (.p 4 0))), (7, .o (.a (.rs 5 0 (innN w L k) 1))), (8, .o (.a (.rs 6 0 128 1))), (9, .o (.a (.i .i64 (128 : Int)))), (10, .o (.a (.i .i64 ((k : Nat) : Int))))], [some ⟨false, [.ints .u8 kn key]⟩, some ⟨false, [.vals n L]⟩, some ⟨true, [.ints .u8 64 (List.replicate 64 0)]⟩, some ⟨true, [.ints .u8 128 (pk key)]⟩, some ⟨true, [.ints .u8 64 (shaD key)]⟩, some ⟨true, [.ints .u8 (innN w L k) (innR w key L k)]⟩, some ⟨true, [.ints .u8 128 (xo (92 : Int) (pk key) 128)]⟩]⟩

def refM1B_step (k : Nat) (s : Unit) : Unit :=
  ()

set_option maxHeartbeats 1000000 in
theorem refM1B_round (w : World) (kn : Nat) (key : List Int) (n : Nat) (L : List Value) (cap0 cap1 : Nat) (h0 : (kn < 70368744177664)) (h1 : ((n + 1) < 4398046511104)) (h2 : (((List.length (catV w L n)) + 128) < 70368744177664)) (hl0_0 : List.length key = kn) (hkn : 128 < kn) (β : Env) (hP : PartsOk w L n) (hL : L.length = n) (k : Nat) (hk : k < n) (s : Unit) : Run Try.prog ⟨w, [], 2, β⟩ (loopB Try.f17 2) (refM1B_mk w kn key n L cap0 cap1 k s) (To ⟨w, [], 2, β⟩ .normal (refM1B_mk w kn key n L cap0 cap1 (k + 1) (refM1B_step k s))) := by
  have e0 : (IntKind.i64.wrap (((k : Nat) : Int) + (1 : Int))) = (((k + (1 : Nat)) : Nat) : Int) := (by first | exact wrap_succ (by omega) | rfl)
  have h := Run.of_outTAt (B := ⟨w, [], 2, β⟩) (Λ := noLam) (Ψ := psiOf [(16, [.eqS 7 (.o (.a (.rs 8 0 (innN w L (k + 1)) 1))), .eqB 8 (⟨true, [.ints .u8 (innN w L (k + 1)) (innR w key L (k + 1))]⟩)])]) (fuel := 0) (ora := [true, false]) (c := (loopB Try.f17 2)) (st := (refM1B_mk w kn key n L cap0 cap1 k s)) (l := [.swap 5 8, .forget [0, 1, 4, 5, 6, 7, 8, 9, 10] 7]) (s' := ⟨sparse 63 [(0, .o (.a (.sl 0 0 kn cap0))), (1, .o (.a (.sl 1 0 n cap1))), (4, .o (.a (.p 2 0))), (5, .o (.a (.sl 3 0 128 128))), (6, .o (.a (.p 4 0))), (7, .o (.a (.rs 5 0 (innN w L (k + 1)) 1))), (8, .o (.a (.rs 6 0 128 1))), (9, .o (.a (.i .i64 (128 : Int)))), (10, .o (.a (.i .i64 (IntKind.i64.wrap (((k : Nat) : Int) + (1 : Int))))))], [some ⟨false, [.ints .u8 kn key]⟩, some ⟨false, [.vals n L]⟩, some ⟨true, [.ints .u8 64 (List.replicate 64 0)]⟩, some ⟨true, [.ints .u8 128 (pk key)]⟩, some ⟨true, [.ints .u8 64 (shaD key)]⟩, some ⟨true, [.ints .u8 (innN w L (k + 1)) (innR w key L (k + 1))]⟩, some ⟨true, [.ints .u8 128 (xo (92 : Int) (pk key) 128)]⟩]⟩) (ex := .normal) mix tabOkKF (gimp_ok (t := 22) (mk := mkS ⟨w, [], 2, β⟩ .u8) (gam306_ok.at _ _) fun v m => mkS_ok v m)
    (vc := [((some ⟨true, [.ints .u8 ((innN w L k) + (lenV (List.getD L k undef))) ((sub (innR w key L k) 0 (innN w L k)) ++ (sub (contV w (List.getD L k undef)) 0 (lenV (List.getD L k undef))))]⟩ : Option Blk) = some ⟨true, [.ints .u8 (innN w L (k + 1)) (innR w key L (k + 1))]⟩), ((.o (.a (.rs 8 0 ((innN w L k) + (lenV (List.getD L k undef))) 1)) : AV) = .o (.a (.rs 8 0 (innN w L (k + 1)) 1))), (((0 + (innN w L k)) ≤ (innN w L k)) ∧ (((lenV (List.getD L k undef)) ≤ (lenV (List.getD L k undef))) ∧ ((0 + (lenV (List.getD L k undef))) ≤ (lenV (List.getD L k undef)))) ∧ ((((innN w L k) + (lenV (List.getD L k undef))) * 1) ≤ 140737488355328)), ((k < n) ∧ (ImpOk ⟨w, [], 2, β⟩ (List.getD L k undef) .u8 (lenV (List.getD L k undef)) (capV (List.getD L k undef)) (contV w (List.getD L k undef)))), (((0 : Int) ≤ ((k : Nat) : Int)) ∧ (((k : Nat) : Int) < ((n : Nat) : Int))), ((decide (((k : Nat) : Int) < ((n : Nat) : Int))) = true)]) (by kernel_rfl)
    (aC ((by rw [innR_step hP hk, innN_step hP hk])) (aC ((by rw [innN_step hP hk])) (aC ⟨(by have hs1 := hP.lt (i := k + 1) hk; have hl := hP.llt hk; have hz := innN_step hP hk; have hs : innN w L (k + 1) = 128 + (catV w L (k + 1)).length := rfl; first | omega | (simp (disch := omega) only [wrapI]; omega)), ⟨(by have hs1 := hP.lt (i := k + 1) hk; have hl := hP.llt hk; have hz := innN_step hP hk; have hs : innN w L (k + 1) = 128 + (catV w L (k + 1)).length := rfl; first | omega | (simp (disch := omega) only [wrapI]; omega)), (by have hs1 := hP.lt (i := k + 1) hk; have hl := hP.llt hk; have hz := innN_step hP hk; have hs : innN w L (k + 1) = 128 + (catV w L (k + 1)).length := rfl; first | omega | (simp (disch := omega) only [wrapI]; omega))⟩, (by have hs1 := hP.lt (i := k + 1) hk; have hl := hP.llt hk; have hz := innN_step hP hk; have hs : innN w L (k + 1) = 128 + (catV w L (k + 1)).length := rfl; first | omega | (simp (disch := omega) only [wrapI]; omega))⟩ (aC ⟨(by have hs1 := hP.lt (i := k + 1) hk; have hl := hP.llt hk; have hz := innN_step hP hk; have hs : innN w L (k + 1) = 128 + (catV w L (k + 1)).length := rfl; first | omega | (simp (disch := omega) only [wrapI]; omega)), ((hP.imp k hk _ _))⟩ (aC ⟨(by have hs1 := hP.lt (i := k + 1) hk; have hl := hP.llt hk; have hz := innN_step hP hk; have hs : innN w L (k + 1) = 128 + (catV w L (k + 1)).length := rfl; first | omega | (simp (disch := omega) only [wrapI]; omega)), (by have hs1 := hP.lt (i := k + 1) hk; have hl := hP.llt hk; have hz := innN_step hP hk; have hs : innN w L (k + 1) = 128 + (catV w L (k + 1)).length := rfl; first | omega | (simp (disch := omega) only [wrapI]; omega))⟩ (aC (decide_eq_true (by have hs1 := hP.lt (i := k + 1) hk; have hl := hP.llt hk; have hz := innN_step hP hk; have hs : innN w L (k + 1) = 128 + (catV w L (k + 1)).length := rfl; first | omega | (simp (disch := omega) only [wrapI]; omega))) (AllP_nil)))))))
  rw [e0] at h
  exact h

set_option maxHeartbeats 1000000 in
theorem refM1B_last (w : World) (kn : Nat) (key : List Int) (n : Nat) (L : List Value) (cap0 cap1 : Nat) (h0 : (kn < 70368744177664)) (h1 : ((n + 1) < 4398046511104)) (h2 : (((List.length (catV w L n)) + 128) < 70368744177664)) (hl0_0 : List.length key = kn) (hkn : 128 < kn) (β : Env) (hP : PartsOk w L n) (hL : L.length = n) (s : Unit) : Run Try.prog ⟨w, [], 2, β⟩ (loopB Try.f17 2) (refM1B_mk w kn key n L cap0 cap1 n s) (To ⟨w, [], 2, β⟩ (.exit 2) (refM1B_mk w kn key n L cap0 cap1 n s)) :=
  Run.of_outTAt (B := ⟨w, [], 2, β⟩) (Λ := noLam) (Ψ := noPsi) (fuel := 0) (ora := [false]) (l := [.forget [0, 1, 4, 5, 6, 7, 8, 9, 10] 7]) mix tabOkKF (gimp_ok (t := 22) (mk := mkS ⟨w, [], 2, β⟩ .u8) (gam306_ok.at _ _) fun v m => mkS_ok v m)
    (vc := [((decide (((n : Nat) : Int) < ((n : Nat) : Int))) = false)]) (by kernel_rfl)
    (aC (decide_eq_false (by omega)) (AllP_nil))

theorem refM1B_loop (w : World) (kn : Nat) (key : List Int) (n : Nat) (L : List Value) (cap0 cap1 : Nat) (h0 : (kn < 70368744177664)) (h1 : ((n + 1) < 4398046511104)) (h2 : (((List.length (catV w L n)) + 128) < 70368744177664)) (hl0_0 : List.length key = kn) (hkn : 128 < kn) (β : Env) (hP : PartsOk w L n) (hL : L.length = n) (s : Unit) : Run Try.prog ⟨w, [], 2, β⟩ (.block 2 (.loop (loopB Try.f17 2))) (refM1B_mk w kn key n L cap0 cap1 0 s) (To ⟨w, [], 2, β⟩ .normal (refM1B_mk w kn key n L cap0 cap1 n (iter (refM1B_step) n s))) :=
  Run.count (fun k => refM1B_mk w kn key n L cap0 cap1 k (iter (refM1B_step) k s)) n (fun k hk => refM1B_round w kn key n L cap0 cap1 h0 h1 h2 hl0_0 hkn β hP hL k hk _) (ex := (.exit 2)) (by simp) (refM1B_last w kn key n L cap0 cap1 h0 h1 h2 hl0_0 hkn β hP hL _)

def refM1 (w : World) (key : List Int) (n : Nat) (L : List Value) : List Int :=
  (macD key (catV w L n))

set_option maxHeartbeats 1000000 in
theorem refM1_body0 (w : World) (kn : Nat) (key : List Int) (n : Nat) (L : List Value) (cap0 cap1 : Nat) (h0 : (kn < 70368744177664)) (h1 : ((n + 1) < 4398046511104)) (h2 : (((List.length (catV w L n)) + 128) < 70368744177664)) (hl0_0 : List.length key = kn) (hkn : 128 < kn) (β : Env) (hP : PartsOk w L n) (hL : L.length = n) : Body Try.prog (tabOf tabKF) Try.f17 ⟨w, [], 2, β⟩ [.o (.a (.sl 0 0 kn cap0)), .o (.a (.sl 1 0 n cap1))] [some ⟨false, [.ints .u8 kn key]⟩, some ⟨false, [.vals n L]⟩] (fun ys _ => ys = [.g [.ints .u8 64 (refM1 w key n L)]]) :=
  Body.of_finAt (Γ := (gimp 22 (mkS ⟨w, [], 2, β⟩ .u8) gam306)) (Λ := lamOf [(0, ⟨[.rowS 7 .u8 1, .rowS 8 .u8 1, .forget [0, 1, 4, 5, 6, 7, 8, 9] 7], .normal, (refM1A_mk w kn key n L cap0 cap1 128 (iter (refM1A_step) 128 ()))⟩), (2, ⟨[.eqS 7 (.o (.a (.rs 5 0 (innN w L 0) 1))), .eqB 5 (⟨true, [.ints .u8 (innN w L 0) (innR w key L 0)]⟩), .forget [0, 1, 4, 5, 6, 7, 8, 9, 10] 7], .normal, (refM1B_mk w kn key n L cap0 cap1 n (iter (refM1B_step) n ()))⟩)]) (Ψ := psiOf [(3, [.eqB 4 (⟨true, [.ints .u8 64 (shaD key)]⟩)]), (4, [.eqB 3 (⟨true, [.ints .u8 128 (pk key)]⟩)]), (17, [.eqB 7 (⟨true, [.ints .u8 64 (shaD (innR w key L n))]⟩)])]) (fuel := 0) (m := 63) (c := (Try.f17.body.getD .skip)) mix tabOkKF (gimp_ok (t := 22) (mk := mkS ⟨w, [], 2, β⟩ .u8) (gam306_ok.at _ _) fun v m => mkS_ok v m) rfl (rs := [.cell 4 32]) rfl rfl [true, false] [.eqB 2 (⟨true, [.ints .u8 64 (macD key (catV w L n))]⟩)]
    (vc := [((some ⟨true, [.ints .u8 64 (sumR 192 (sub ((sub (xo (92 : Int) (pk key) 128) 0 128) ++ (sub (shaD (innR w key L n)) 0 64)) 0 192))]⟩ : Option Blk) = some ⟨true, [.ints .u8 64 (macD key (catV w L n))]⟩), (((192 ≤ 192) ∧ True) ∧ ((192 = 192) ∧ (cN 192 70368744177664))), ((128 ≤ 128) ∧ ((64 ≤ 64) ∧ (64 ≤ 64)) ∧ (192 ≤ 140737488355328)), ((cZ 0) ∧ (cZ 64)), ((some ⟨true, [.ints .u8 64 (sumR (innN w L n) (sub (innR w key L n) 0 (innN w L n)))]⟩ : Option Blk) = some ⟨true, [.ints .u8 64 (shaD (innR w key L n))]⟩), ((((0 + (innN w L n)) ≤ (innN w L n)) ∧ True) ∧ (((innN w L n) = (innN w L n)) ∧ ((innN w L n) < 70368744177664))), (Run Try.prog ⟨w, [], 2, β⟩ (.block 2 (.loop (loopB Try.f17 2))) (refM1B_mk w kn key n L cap0 cap1 0 ()) (To ⟨w, [], 2, β⟩ .normal (refM1B_mk w kn key n L cap0 cap1 n (iter (refM1B_step) n ())))), ((some ⟨true, [.ints .u8 128 (xo (54 : Int) (pk key) 128)]⟩ : Option Blk) = some ⟨true, [.ints .u8 (innN w L 0) (innR w key L 0)]⟩), ((.o (.a (.rs 5 0 128 1)) : AV) = .o (.a (.rs 5 0 (innN w L 0) 1))), (Run Try.prog ⟨w, [], 2, β⟩ (.block 0 (.loop (loopB Try.f17 0))) (refM1A_mk w kn key n L cap0 cap1 0 ()) (To ⟨w, [], 2, β⟩ .normal (refM1A_mk w kn key n L cap0 cap1 128 (iter (refM1A_step) 128 ())))), ((some ⟨true, [.ints .u8 128 (splice (List.replicate 128 (0 : Int)) 0 64 (sub (shaD key) 0 64))]⟩ : Option Blk) = some ⟨true, [.ints .u8 128 (pk key)]⟩), (((64 ≤ 64) ∧ (64 ≤ 64)) ∧ (okP (some (64 ≤ 128)))), ((cZ 0) ∧ (cZ 64)), ((some ⟨true, [.ints .u8 64 (sumR kn (sub key 0 kn))]⟩ : Option Blk) = some ⟨true, [.ints .u8 64 (shaD key)]⟩), ((((0 + kn) ≤ kn) ∧ True) ∧ ((kn = kn) ∧ (kn < 70368744177664))), ((decide (((kn : Nat) : Int) > (128 : Int))) = true), ((cZ 128) ∧ ((128 : Int) ≤ (128 : Int)) ∧ ((128 : Int) ≤ (281474976710656 : Int)))]) (by kernel_rfl)
    (aC ((by rw [outR_eq])) (aC ⟨⟨(dd rfl), trivial⟩, ⟨rfl, (dd rfl)⟩⟩ (aC ⟨(dd rfl), (dd rfl), (dd rfl)⟩ (aC (dd rfl) (aC ((by rw [sumR_key (innR_len _ _ _ _) (by have hq : innN w L n = 128 + (catV w L n).length := rfl; omega)])) (aC ⟨⟨(by have hq : innN w L n = 128 + (catV w L n).length := rfl; omega), trivial⟩, ⟨rfl, (by have hq : innN w L n = 128 + (catV w L n).length := rfl; omega)⟩⟩ (aC (refM1B_loop w kn key n L cap0 cap1 h0 h1 h2 hl0_0 hkn β hP hL ()) (aC ((by rw [xo_all (pk_len _)]; exact congrArg (fun z => (some (⟨true, [.ints .u8 128 z]⟩ : Blk) : Option Blk)) (List.append_nil _).symm)) (aC (rfl) (aC (refM1A_loop w kn key n L cap0 cap1 h0 h1 h2 hl0_0 hkn β hP hL ()) (aC ((by rw [pk_long hl0_0 hkn])) (aC ⟨(dd rfl), (show (64 ≤ 128) from (dd rfl))⟩ (aC (dd rfl) (aC ((by rw [sumR_key hl0_0 h0])) (aC ⟨⟨(by first|omega|(simp (disch:=omega) only [wrapI];omega)), trivial⟩, ⟨rfl, h0⟩⟩ (aC (decide_eq_true (by first|omega|(simp (disch:=omega) only [wrapI];omega))) (aC ⟨(dd rfl), (dd rfl), (dd rfl)⟩ (AllP_nil))))))))))))))))))

end Go.Proofs.Ytlmdhjojinkdbaa.X

/- The core, part 5 of 5: blocks of memory known by number, and an evaluator over loaded code, shown sound. -/
/- Rows: a law that answers true and leaves what was there as it was: from its body to its post; arguments opened. -/
namespace Go.Proofs.Ytlmdhjojinkdbaa.R
open Go Go.Proofs Go.ChangeShapes Go.WideShapes Go.ChangeAt Go.RowKit Go.Proofs.Ytlmdhjojinkdbaa.X
set_option linter.unusedVariables false

theorem below {W W' : World} (g : Grow W W') : Below W.heap.size W W' := ⟨g.os, g.tape, g.output, g.size, g.old⟩

section post
variable {H : Type} {enc : TypeId × Value → H} {P : Program}

/-- types that read again -/
def Reads (P : Program) (ts : List TypeId) : Bool := laidOutB P && ts.all fun t => P.readableRec t && decide (t < P.types.size)

theorem trodAll_grow (hl : laidOutB P = true) {W W' : World} (g : Grow W W') {sp : Nat → Bool} : ∀ {ts : List TypeId} {vs : List Value} {ds : List (DataW H)} {ps : List MemPlace}, (ts.all fun t => P.readableRec t && decide (t < P.types.size)) = true →
    DataW.TrodAll enc P W 0 (fun _ => true) true ts vs ds ps → (∀ p ∈ ps, p.block < W.heap.size) → (∀ p ∈ ps, sp p.block = true) → DataW.TrodAll enc P W' 0 sp true ts vs ds ps
  | [], [], [], ps, _, h, _, _ => h
  | [], _ :: _, _, _, _, h, _, _ => h.elim
  | [], [], _ :: _, _, _, h, _, _ => h.elim
  | _ :: _, [], _, _, _, h, _, _ => h.elim
  | _ :: _, _ :: _, [], _, _, h, _, _ => h.elim
  | t :: ts, v :: vs, d :: ds, ps, ht, h, hlt, hsp => by
    obtain ⟨p, q, hd, hr, rfl⟩ := h
    simp only [List.all_cons, Bool.and_eq_true, decide_eq_true_eq] at ht
    exact ⟨p, q, WideElems.Trod_stays hl ht.1.1 ht.1.2 hd (fun x hx => (below g).same (hlt x (by simp [hx]))) (fun x hx => hsp x (by simp [hx])),
      trodAll_grow hl g ht.2 hr (fun x hx => hlt x (by simp [hx])) (fun x hx => hsp x (by simp [hx])), rfl⟩

theorem post_true {f : Func} {s : ChangeSpec} {W W' : World} {args : Array Value} {ds : List (DataW H)} {before : List MemPlace} {tb : TypeId}
    (hreads : Reads P f.params.toList = true) (hvars : s.vars = []) (hfn : s.fn H ds = { results := [.lit (.bool true)], args := ds }) (hrt : f.resultTypes = #[tb]) (htb : P.underlying tb = some .bool)
    (hW : DataW.Whole enc P f.params.toList s.vars false W args.toList ds [] before) (g : Grow W W') : s.post enc P f false true false false W args (.bool true) W' := by
  unfold Reads at hreads
  rw [Bool.and_eq_true] at hreads
  have hW0 := hW
  obtain ⟨p, q, hA, hV, rfl, hfz, hnd⟩ := hW
  rw [hvars] at hV
  obtain ⟨_, rfl⟩ := trodVars_none hV
  have hlt : ∀ x ∈ p ++ [], x.block < W.heap.size := fun x hx => by simpa using hW0.lt x hx
  have hfn' : s.fn H (ds ++ []) = { results := [.lit (.bool true)], args := ds } := by rw [List.append_nil]; exact hfn
  refine ⟨ds, [], p ++ [], [], p ++ [], [], hW0, ?_, ?_, ?_, (below g).frame _, fun h => by cases h⟩
  · rw [hfn', hrt]; exact trodAll_cons_mk (shut_bool htb _) trodAll_mk0
  · rw [hfn']
    rw [List.append_nil] at hlt ⊢
    exact trodAll_grow hreads.1 g hreads.2 hA hlt (fun x hx => by simpa using hlt x hx)
  · rw [hfn', hvars]; exact rfl
end post

/-- what a list of arguments is, abstractly, with blocks from the i-th on -/
def Opened (W : World) (i : Nat) (vs : List Value) (avs : List AV) (K : Know) : Prop :=
  ∃ ρ : List (Option Ref), ρ.length = K.length ∧ ∀ β : Env, (∀ j, j < ρ.length → β (i + j) = (ρ[j]?).join) →
    (∀ j b, K.at j = some b → b.own = false ∧ b.holds β W (i + j) ∧ ∀ r, β (i + j) = some r → r.blk < W.heap.size) ∧ allC β avs vs

theorem Opened.nil {W : World} {i : Nat} : Opened W i [] [] [] := ⟨[], rfl, fun β _ => ⟨fun j b h => by simp [Know.at] at h, rfl⟩⟩

theorem allC_app {β : Env} : ∀ {a b : List AV} {x y : List Value}, allC β a x → allC β b y → allC β (a ++ b) (x ++ y)
  | [], _, _, _, h, h' => by cases h; exact h'
  | _ :: _, _, _, _, ⟨v, r, hv, hc, hr⟩, h' => by subst hv; exact ⟨v, _, rfl, hc, allC_app hr h'⟩

theorem Opened.app {W : World} {i : Nat} {vs vs' : List Value} {avs avs' : List AV} {K K' : Know} (h : Opened W i vs avs K) (h' : Opened W (i + K.length) vs' avs' K') : Opened W i (vs ++ vs') (avs ++ avs') (K ++ K') := by
  obtain ⟨ρ, hl, hρ⟩ := h
  obtain ⟨ρ', hl', hρ'⟩ := h'
  refine ⟨ρ ++ ρ', by simp [hl, hl'], fun β hβ => ?_⟩
  obtain ⟨h1, h2⟩ := hρ β fun j hj => by rw [hβ j (by simp; omega), List.getElem?_append_left hj]
  obtain ⟨h3, h4⟩ := hρ' β fun j hj => by
    rw [Nat.add_assoc, hβ (K.length + j) (by simp; omega), List.getElem?_append_right (by omega)]
    congr 2; omega
  refine ⟨fun j b hb => ?_, allC_app h2 h4⟩
  by_cases hj : j < K.length
  · refine h1 j b ?_
    unfold Know.at at hb ⊢; rwa [List.getElem?_append_left hj] at hb
  · have := h3 (j - K.length) b (by unfold Know.at at hb ⊢; rwa [List.getElem?_append_right (by omega)] at hb)
    rw [show i + K.length + (j - K.length) = i + j from by omega] at this
    exact this

theorem Opened.rel {W : World} {vs : List Value} {avs : List AV} {K : Know} (h : Opened W 0 vs avs K) : ∃ β : Env, RelW W [] β K W ∧ allC β avs vs := by
  obtain ⟨ρ, hl, hρ⟩ := h
  obtain ⟨h1, h2⟩ := hρ (fun j => (ρ[j]?).join) fun j hj => by rw [Nat.zero_add]
  refine ⟨_, RelW.ofRead fun j b hj => ?_, h2⟩
  have := h1 j b hj
  rw [Nat.zero_add] at this; exact this

/-- a value without places -/
theorem Opened.val {W : World} {i : Nat} {v : Value} {x : V1} (h : ∀ β : Env, x.con β v) : Opened W i [v] [.o x] [] :=
  ⟨[], rfl, fun β _ => ⟨fun j b hb => by simp [Know.at] at hb, ⟨v, [], rfl, h β, rfl⟩⟩⟩

/-- a slice of integers -/
theorem Opened.sl {W : World} {i : Nat} {k : IntKind} {a0 : Option Addr} {len cap : Nat} {L : List Int} (hL : L.length = len) (hlc : len ≤ cap)
    (hc : 0 < cap → ∃ b off arr ty fr, a0 = some ⟨b, off, none⟩ ∧ W.heap[b]? = some (.cells arr ty fr) ∧ off + len ≤ arr.size ∧ ∀ i x, L[i]? = some x → arr[off + i]? = some (.int k x)) :
    Opened W i [.slice a0 len cap] [.o (.a (.sl i 0 len cap))] [some ⟨false, [.ints k len L]⟩] := by
  have hbk : ∀ j (bk : Blk), Know.at [some ⟨false, [.ints k len L]⟩] j = some bk → j = 0 ∧ bk = ⟨false, [.ints k len L]⟩ := by
    intro j bk hj
    match j, hj with
    | 0, hj => exact ⟨rfl, (Option.some.inj hj).symm⟩
    | j + 1, hj => simp [Know.at] at hj
  by_cases h0 : 0 < cap
  · obtain ⟨b, off, arr, ty, fr, rfl, hh, hs, hx⟩ := hc h0
    have hlt : b < W.heap.size := (Array.getElem?_eq_some_iff.1 hh).1
    refine ⟨[some ⟨b, off, arr.size⟩], rfl, fun β hβ => ?_⟩
    have hb := hβ 0 (by simp)
    rw [Nat.add_zero] at hb
    have hb : β i = some ⟨b, off, arr.size⟩ := hb
    refine ⟨fun j bk hj => ?_, _, [], rfl, ⟨_, rfl, hlc, fun _ => ⟨_, hb, rfl⟩⟩, rfl⟩
    obtain ⟨rfl, rfl⟩ := hbk j bk hj
    rw [Nat.add_zero]
    refine ⟨rfl, ⟨L.map (Value.int k), ⟨_, [], by simp, ⟨hL, rfl⟩, rfl⟩, .inr ⟨_, arr, ty, fr, hb, hh, rfl, by simp; omega, ?_, fun h => by cases h⟩⟩, fun r hr => by rw [hb] at hr; cases hr; exact hlt⟩
    intro i v hv
    rw [List.getElem?_map, Option.map_eq_some_iff] at hv
    obtain ⟨x, hx', rfl⟩ := hv
    exact hx i x hx'
  · have hn : L = [] := List.length_eq_zero_iff.1 (by omega)
    subst hn
    have hl0 : len = 0 := by omega
    subst hl0
    refine ⟨[none], rfl, fun β hβ => ?_⟩
    have hb : β i = none := hβ 0 (by simp)
    refine ⟨fun j bk hj => ?_, _, [], rfl, ⟨_, rfl, hlc, fun h => absurd h h0⟩, rfl⟩
    obtain ⟨rfl, rfl⟩ := hbk j bk hj
    rw [Nat.add_zero]
    exact ⟨rfl, ⟨[], ⟨[], [], rfl, ⟨rfl, rfl⟩, rfl⟩, .inl ⟨rfl, .inl rfl⟩⟩, fun r hr => by rw [hb] at hr; cases hr⟩

section args
variable {H : Type} {enc : TypeId × Value → H} {P : Program} {W : World} {base : Nat} {sp : Nat → Bool}

/-- an argument []int, opened -/
theorem ints_arg {t e : TypeId} {k : IntKind} {v : Value} {d : DataW H} {p : List MemPlace} (ht : P.underlying t = some (.slice e)) (he : P.underlying e = some (.int k)) (hc : P.cellsOf e = 1)
    (hval : Value.okWide P W .any base t v) (h : DataW.Trod enc P W 0 (fun _ => true) true t v d p) :
    ∃ (len cap : Nat) (L : List Int), L.length = len ∧ len ≤ cap ∧ (∀ n ∈ L, (Lit.int k n).wf = true) ∧ (∀ i, Opened W i [v] [.o (.a (.sl i 0 len cap))] [some ⟨false, [.ints k len L]⟩]) ∧
      ((d = .nil ∧ len = 0) ∨ ∃ s, d = .slice (lits k L) s) := by
  obtain ⟨a0, len, cap, rfl⟩ := okWide_slice ht hval
  obtain ⟨fuel, hf⟩ := h
  rcases open_ints ht he hc hf with ⟨hcs, hx⟩ | ⟨a, len', cap', zs, hcs, _, hl, hm, hz, hx, hcell, hwz⟩
  · simp [Value.cells] at hcs
    obtain ⟨rfl, rfl, rfl⟩ := hcs
    simp only [Prod.mk.injEq] at hx
    exact ⟨0, 0, [], rfl, Nat.le_refl _, by simp, fun i => Opened.sl rfl (Nat.le_refl _) (fun h => absurd h (by omega)), .inl ⟨hx.1, rfl⟩⟩
  · simp [Value.cells] at hcs
    obtain ⟨rfl, rfl, rfl⟩ := hcs
    simp only [Prod.mk.injEq] at hx
    simp only [if_true] at hz
    refine ⟨len, cap, zs.take len, by simp; omega, hl, fun n hn => hwz n (List.mem_of_mem_take hn), fun i => Opened.sl (by simp; omega) hl fun hpos => ?_, .inr ⟨_, hx.1⟩⟩
    obtain ⟨b, off, rfl, hcell2⟩ := ints_at hcell (by omega)
    have h00 := hcell2 0 (by omega)
    unfold World.cell? at h00
    split at h00
    · rename_i arr ty fr hh
      have hget : ∀ j, j < zs.length → arr[off + j]? = some (.int k (zs.getD j 0)) := by
        intro j hj
        have h1 := hcell2 j hj
        unfold World.cell? at h1
        rw [hh] at h1
        simpa using h1
      refine ⟨b, off, arr, ty, fr, rfl, hh, ?_, ?_⟩
      · have := (Array.getElem?_eq_some_iff.1 (hget (zs.length - 1) (by omega))).1
        omega
      · intro i x hix
        rw [List.getElem?_take] at hix
        split at hix
        · have hlt := (List.getElem?_eq_some_iff.1 hix).1
          rw [hget i hlt, List.getD_eq_getElem?_getD, hix]; rfl
        · cases hix
    · cases h00

end args

/-- a law whose body answers true -/
theorem calls_true {P : Program} {T : Tab} (hT : TabOk P T) {f : FuncId} {fn : Func} (hf : P.funcs[f]? = some fn) {W : World} {vs : List Value} {avs : List AV} {K : Know} (ho : Opened W 0 vs avs K)
    (h : ∀ β : Env, Body P T fn ⟨W, [], K.length, β⟩ avs K fun ys _ => ys = [.a (.b true)]) :
    Calls P f vs.toArray W fun e W' => e = .returned (.bool true) ∧ Grow W W' := by
  obtain ⟨β, hrel, hall⟩ := ho.rel
  refine Calls.mono (calls_of_body hT hf hall hrel (h β)) fun e W' h => ?_
  obtain ⟨xs, K, v, β', hx, rfl, hv, hr, _⟩ := h
  subst hx
  have hv : [v] = [Value.bool true] := hv
  simp only [List.cons.injEq, and_true] at hv
  subst hv
  exact ⟨rfl, hr.toGrow⟩
end Go.Proofs.Ytlmdhjojinkdbaa.R

/- Arguments that are structs: opened cell by cell. -/
namespace Go.Proofs.Ytlmdhjojinkdbaa.R
open Go Go.Proofs Go.ChangeShapes Go.WideShapes Go.ChangeAt Go.RowKit Go.Proofs.Ytlmdhjojinkdbaa.X
set_option linter.unusedVariables false

/-- a row of cells, abstractly, with blocks from the i-th on -/
def OpenC (W : World) (i : Nat) (cs : List Value) (l : List Atom) (K : Know) : Prop :=
  ∃ ρ : List (Option Ref), ρ.length = K.length ∧ ∀ β : Env, (∀ j, j < ρ.length → β (i + j) = (ρ[j]?).join) →
    (∀ j b, K.at j = some b → b.own = false ∧ b.holds β W (i + j) ∧ ∀ r, β (i + j) = some r → r.blk < W.heap.size) ∧ cons β l cs

theorem OpenC.nil {W : World} {i : Nat} : OpenC W i [] [] [] := ⟨[], rfl, fun β _ => ⟨fun j b h => by simp [Know.at] at h, rfl⟩⟩

theorem cons_app {β : Env} : ∀ {a b : List Atom} {x y : List Value}, cons β a x → cons β b y → cons β (a ++ b) (x ++ y)
  | [], _, _, _, h, h' => by cases h; exact h'
  | _ :: _, _, _, _, ⟨v, r, hv, hc, hr⟩, h' => by subst hv; exact ⟨v, _, by rw [List.append_assoc], hc, cons_app hr h'⟩

theorem OpenC.app {W : World} {i : Nat} {vs vs' : List Value} {l l' : List Atom} {K K' : Know} (h : OpenC W i vs l K) (h' : OpenC W (i + K.length) vs' l' K') : OpenC W i (vs ++ vs') (l ++ l') (K ++ K') := by
  obtain ⟨ρ, hl, hρ⟩ := h
  obtain ⟨ρ', hl', hρ'⟩ := h'
  refine ⟨ρ ++ ρ', by simp [hl, hl'], fun β hβ => ?_⟩
  obtain ⟨h1, h2⟩ := hρ β fun j hj => by rw [hβ j (by simp; omega), List.getElem?_append_left hj]
  obtain ⟨h3, h4⟩ := hρ' β fun j hj => by
    rw [Nat.add_assoc, hβ (K.length + j) (by simp; omega), List.getElem?_append_right (by omega)]
    congr 2; omega
  refine ⟨fun j b hb => ?_, cons_app h2 h4⟩
  by_cases hj : j < K.length
  · refine h1 j b ?_
    unfold Know.at at hb ⊢; rwa [List.getElem?_append_left hj] at hb
  · have := h3 (j - K.length) b (by unfold Know.at at hb ⊢; rwa [List.getElem?_append_right (by omega)] at hb)
    rw [show i + K.length + (j - K.length) = i + j from by omega] at this
    exact this

theorem OpenC.agg {W : World} {i : Nat} {cs : Array Value} {l : List Atom} {K : Know} (h : OpenC W i cs.toList l K) : Opened W i [.agg cs] [.o (.g l)] K := by
  obtain ⟨ρ, hl, hρ⟩ := h
  refine ⟨ρ, hl, fun β hβ => ?_⟩
  obtain ⟨h1, h2⟩ := hρ β hβ
  exact ⟨h1, _, [], rfl, ⟨cs.toList, by simp, h2⟩, rfl⟩

theorem OpenC.one {W : World} {i : Nat} {v : Value} {x : Atom} {K : Know} (h : OpenC W i [v] [x] K) : Opened W i [v] [.o (.a x)] K := by
  obtain ⟨ρ, hl, hρ⟩ := h
  refine ⟨ρ, hl, fun β hβ => ?_⟩
  obtain ⟨h1, x, y, h2, h3, h4⟩ := hρ β hβ
  cases h4
  rw [List.append_nil] at h2
  subst h2
  exact ⟨h1, _, [], rfl, h3, rfl⟩

/-- cells without places -/
theorem OpenC.val {W : World} {i : Nat} {vs : List Value} {l : List Atom} (h : ∀ β : Env, cons β l vs) : OpenC W i vs l [] :=
  ⟨[], rfl, fun β _ => ⟨fun j b hb => by simp [Know.at] at hb, h β⟩⟩

section args
variable {H : Type} {enc : TypeId × Value → H} {P : Program} {W : World} {base : Nat} {sp : Nat → Bool}

theorem OpenC.ints {i : Nat} {k : IntKind} {n : Nat} {S : List Int} (h : S.length = n) : OpenC W i (S.map (Value.int k)) [.ints k n S] [] :=
  OpenC.val fun β => ⟨_, [], by simp, ⟨h, rfl⟩, rfl⟩

theorem OpenC.int {i : Nat} {k : IntKind} {n : Int} : OpenC W i [.int k n] [.i k n] [] := OpenC.val fun β => ⟨_, [], by simp, rfl, rfl⟩

end args
end Go.Proofs.Ytlmdhjojinkdbaa.R

/- Arguments that are slices of whatever: their cells as values. -/
namespace Go.Proofs.Ytlmdhjojinkdbaa.R
open Go Go.Proofs Go.ChangeShapes Go.WideShapes Go.ChangeAt Go.RowKit Go.Proofs.Ytlmdhjojinkdbaa.X
set_option linter.unusedVariables false

theorem vals_open {W : World} {i : Nat} {a0 : Option Addr} {len cap N : Nat} {L : List Value} (hL : L.length = N) (hlc : len ≤ cap) (hone : ∀ v ∈ L, v.oneCell' = true) (h0 : cap = 0 → N = 0)
    (hc : 0 < cap → ∃ b off arr ty fr, a0 = some ⟨b, off, none⟩ ∧ W.heap[b]? = some (.cells arr ty fr) ∧ off + N ≤ arr.size ∧ ∀ i x, L[i]? = some x → arr[off + i]? = some x) :
    Opened W i [.slice a0 len cap] [.o (.a (.sl i 0 len cap))] [some ⟨false, [.vals N L]⟩] := by
  have hbk : ∀ j (bk : Blk), Know.at [some ⟨false, [.vals N L]⟩] j = some bk → j = 0 ∧ bk = ⟨false, [.vals N L]⟩ := by
    intro j bk hj
    match j, hj with
    | 0, hj => exact ⟨rfl, (Option.some.inj hj).symm⟩
    | j + 1, hj => simp [Know.at] at hj
  by_cases hcap : 0 < cap
  · obtain ⟨b, off, arr, ty, fr, rfl, hh, hs, hx⟩ := hc hcap
    have hlt : b < W.heap.size := (Array.getElem?_eq_some_iff.1 hh).1
    refine ⟨[some ⟨b, off, arr.size⟩], rfl, fun β hβ => ?_⟩
    have hb := hβ 0 (by simp)
    rw [Nat.add_zero] at hb
    have hb : β i = some ⟨b, off, arr.size⟩ := hb
    refine ⟨fun j bk hj => ?_, _, [], rfl, ⟨_, rfl, hlc, fun _ => ⟨_, hb, rfl⟩⟩, rfl⟩
    obtain ⟨rfl, rfl⟩ := hbk j bk hj
    rw [Nat.add_zero]
    exact ⟨rfl, ⟨L, ⟨_, [], by simp, ⟨hL, rfl, hone⟩, rfl⟩, .inr ⟨_, arr, ty, fr, hb, hh, rfl, by simp; omega, hx, fun h => by cases h⟩⟩, fun r hr => by rw [hb] at hr; cases hr; exact hlt⟩
  · have hN : N = 0 := h0 (by omega)
    have hn : L = [] := List.length_eq_zero_iff.1 (by omega)
    subst hn
    refine ⟨[none], rfl, fun β hβ => ?_⟩
    have hb : β i = none := hβ 0 (by simp)
    refine ⟨fun j bk hj => ?_, _, [], rfl, ⟨_, rfl, hlc, fun h => absurd h hcap⟩, rfl⟩
    obtain ⟨rfl, rfl⟩ := hbk j bk hj
    rw [Nat.add_zero]
    exact ⟨rfl, ⟨[], ⟨[], [], rfl, ⟨hL, rfl, by simp⟩, rfl⟩, .inl ⟨rfl, .inl rfl⟩⟩, fun r hr => by rw [hb] at hr; cases hr⟩

section args
variable {H : Type} {enc : TypeId × Value → H} {P : Program} {W : World} {base : Nat}

/-- a slice's cells, all its room -/
theorem slice_cells {t e : TypeId} {fuel : Nat} {cs : List Value} {x : DataW H × List MemPlace} (ht : P.underlying t = some (.slice e)) (hpos : 0 < P.cellsOf e) (h : DataW.trod enc P W 0 (fun _ => true) true fuel t cs = some x) :
    (cs = [.slice none 0 0] ∧ x.1 = .nil) ∨
    ∃ (a : Addr) (len cap n : Nat) (xs rest : List (DataW H × List MemPlace)) (A : List Value), cs = [.slice (some a) len cap] ∧ x.1 = .slice (xs.map (·.1)) (rest.map (·.1)) ∧ len ≤ cap ∧ cap ≤ maxLen ∧ xs.length = len ∧ A.length = cap * P.cellsOf e ∧
      (∀ i, i < cap * P.cellsOf e → W.cell? (a.add i) = A[i]?) ∧ ∀ i, i < cap → ∃ y, DataW.trod enc P W 0 (fun _ => true) true n e ((A.drop (i * P.cellsOf e)).take (P.cellsOf e)) = some y ∧ (i < len → xs[i]? = some y) := by
  rcases DataW.trod_slice ht h with ⟨h1, rfl⟩ | ⟨a, len, cap, elems, rest, n, _, rfl, rfl, _, hl, hm, hlen, hel, hsp, _⟩
  · exact .inl ⟨h1, rfl⟩
  obtain ⟨hrl, hr⟩ := hsp rfl
  have each : ∀ i, i < cap → ∃ y, (W.cells? 0 (a.add (i * P.cellsOf e)) (P.cellsOf e)).bind (DataW.trod enc P W 0 (fun _ => true) true n e) = some y ∧ (i < len → elems[i]? = some y) := by
    intro i hi
    by_cases h1 : i < len
    · have h2 : i < elems.length := by omega
      exact ⟨elems[i], by rw [hel i h1, List.getElem?_eq_getElem h2], fun _ => List.getElem?_eq_getElem h2⟩
    · have h2 : i - len < rest.length := by omega
      have := hr (i - len) (by omega)
      rw [show len + (i - len) = i by omega] at this
      exact ⟨rest[i - len], by rw [this, List.getElem?_eq_getElem h2], fun h => absurd h h1⟩
  have some_ : ∀ i, i < cap * P.cellsOf e → ∃ v, W.cell? (a.add i) = some v := by
    intro i hi
    have hq : i / P.cellsOf e < cap := (Nat.div_lt_iff_lt_mul hpos).2 hi
    obtain ⟨y, hy, _⟩ := each _ hq
    rw [Option.bind_eq_some_iff] at hy
    obtain ⟨ds, hds, _⟩ := hy
    obtain ⟨_, h2, h3⟩ := World.cells?_some hds
    have h4 := h3 (i % P.cellsOf e) (Nat.mod_lt _ hpos)
    rw [Addr.add_add, show i / P.cellsOf e * P.cellsOf e + i % P.cellsOf e = i from Nat.div_add_mod' _ _] at h4
    have h5 : i % P.cellsOf e < ds.length := by rw [h2]; exact Nat.mod_lt _ hpos
    exact ⟨ds[i % P.cellsOf e], by rw [h4, List.getElem?_eq_getElem h5]⟩
  refine .inr ⟨a, len, cap, n, elems, rest, (List.range (cap * P.cellsOf e)).map fun i => (W.cell? (a.add i)).getD undef, rfl, rfl, hl, hm, hlen, by simp, ?_, ?_⟩
  · intro i hi
    obtain ⟨v, hv⟩ := some_ i hi
    rw [List.getElem?_map, List.getElem?_range hi, hv]
    simp [hv]
  · intro i hi
    obtain ⟨y, hy, hy2⟩ := each i hi
    refine ⟨y, ?_, hy2⟩
    rw [Option.bind_eq_some_iff] at hy
    obtain ⟨ds, hds, hy3⟩ := hy
    obtain ⟨_, h2, h3⟩ := World.cells?_some hds
    have hle : i * P.cellsOf e + P.cellsOf e ≤ cap * P.cellsOf e := by
      have := Nat.mul_le_mul_right (P.cellsOf e) (Nat.succ_le_of_lt hi)
      rw [Nat.succ_mul] at this; exact this
    have : ((((List.range (cap * P.cellsOf e)).map fun i => (W.cell? (a.add i)).getD undef).drop (i * P.cellsOf e)).take (P.cellsOf e)) = ds := by
      refine List.ext_getElem? fun j => ?_
      by_cases hj : j < P.cellsOf e
      · rw [List.getElem?_take_of_lt hj, List.getElem?_drop, List.getElem?_map, List.getElem?_range (by omega)]
        have h4 := h3 j hj
        rw [Addr.add_add] at h4
        have h5 : j < ds.length := by omega
        simp only [Option.map_some]
        rw [h4, List.getElem?_eq_getElem h5]; rfl
      · rw [List.getElem?_eq_none (by simp; omega), List.getElem?_eq_none (by omega)]
    rw [this]; exact hy3

/-- a slice whose elements have c cells, opened -/
theorem vals_arg {t e : TypeId} {c : Nat} {v : Value} {d : DataW H} {p : List MemPlace} (ht : P.underlying t = some (.slice e)) (hcc : P.cellsOf e = c) (hpos : 0 < c)
    (hone : ∀ (n : Nat) (cs : List Value) (y : DataW H × List MemPlace), DataW.trod enc P W 0 (fun _ => true) true n e cs = some y → ∀ v ∈ cs, v.oneCell' = true)
    (hval : Value.okWide P W .any base t v) (h : DataW.Trod enc P W 0 (fun _ => true) true t v d p) :
    ∃ (len cap : Nat) (L : List Value), L.length = len * c ∧ len ≤ cap ∧ (∀ i, Opened W i [v] [.o (.a (.sl i 0 len cap))] [some ⟨false, [.vals (len * c) L]⟩]) ∧
      ((d = .nil ∧ len = 0) ∨ ∃ (n : Nat) (xs : List (DataW H × List MemPlace)) (s : List (DataW H)), d = .slice (xs.map (·.1)) s ∧ xs.length = len ∧
        ∀ i, i < len → ∃ y, DataW.trod enc P W 0 (fun _ => true) true n e ((L.drop (i * c)).take c) = some y ∧ xs[i]? = some y) := by
  subst hcc
  obtain ⟨a0, len, cap, rfl⟩ := okWide_slice ht hval
  obtain ⟨fuel, hf⟩ := h
  rcases slice_cells ht hpos hf with ⟨hcs, hx⟩ | ⟨a, len', cap', n, xs, rest, A, hcs, hx, hl, hm, hxl, hAl, hcell, hel⟩
  · simp [Value.cells] at hcs
    obtain ⟨rfl, rfl, rfl⟩ := hcs
    exact ⟨0, 0, [], by simp, Nat.le_refl _, fun i => vals_open (by simp) (Nat.le_refl _) (by simp) (fun _ => by simp) (fun h => absurd h (by omega)), .inl ⟨hx, rfl⟩⟩
  · simp [Value.cells] at hcs
    obtain ⟨rfl, rfl, rfl⟩ := hcs
    have hle : len * P.cellsOf e ≤ cap * P.cellsOf e := Nat.mul_le_mul_right _ hl
    refine ⟨len, cap, A.take (len * P.cellsOf e), by simp; omega, hl, fun i => vals_open (by simp; omega) hl ?_ ?_ fun hcap => ?_, .inr ⟨n, xs, _, hx, hxl, ?_⟩⟩
    · intro v hv
      obtain ⟨j, hj⟩ := List.getElem?_of_mem hv
      rw [List.getElem?_take] at hj
      split at hj
      · rename_i hjl
        have hq : j / P.cellsOf e < cap := (Nat.div_lt_iff_lt_mul hpos).2 (by omega)
        obtain ⟨y, hy, _⟩ := hel _ hq
        refine hone _ _ _ hy v (List.mem_of_getElem? (i := j % P.cellsOf e) ?_)
        rw [List.getElem?_take_of_lt (Nat.mod_lt _ hpos), List.getElem?_drop, Nat.div_add_mod']; exact hj
      · cases hj
    · intro hc0; have : len = 0 := by omega
      rw [this, Nat.zero_mul]
    · have hp : 0 < cap * P.cellsOf e := Nat.mul_pos hcap hpos
      have h0 := hcell 0 hp
      obtain ⟨v0, hv0⟩ : ∃ v0, A[0]? = some v0 := ⟨A[0], List.getElem?_eq_getElem (by omega)⟩
      rw [hv0] at h0
      obtain ⟨b, off, spot⟩ := a
      have hspot : spot = none := by simpa [Addr.add] using World.cell?_spot h0
      subst hspot
      have hc2 : ∀ j, j < cap * P.cellsOf e → W.cell? ⟨b, off + j, none⟩ = A[j]? := fun j hj => by rw [← Go.WideShapes.add_plain]; exact hcell j hj
      have h00 := hc2 0 hp
      rw [hv0] at h00
      unfold World.cell? at h00
      split at h00
      · rename_i arr ty fr hh
        have hget : ∀ j, j < cap * P.cellsOf e → arr[off + j]? = A[j]? := by
          intro j hj
          have h1 := hc2 j hj
          unfold World.cell? at h1
          rw [hh] at h1
          simpa using h1
        refine ⟨b, off, arr, ty, fr, rfl, hh, ?_, ?_⟩
        · by_cases hz : len * P.cellsOf e = 0
          · have := (Array.getElem?_eq_some_iff.1 ((hget 0 hp).trans hv0)).1
            omega
          · have h1 := hget (len * P.cellsOf e - 1) (by omega)
            rw [List.getElem?_eq_getElem (by omega)] at h1
            have := (Array.getElem?_eq_some_iff.1 h1).1
            omega
        · intro i x hix
          rw [List.getElem?_take] at hix
          split at hix
          · rw [hget i (by omega), hix]
          · cases hix
      · cases h00
    · intro i hi
      obtain ⟨y, hy, hy2⟩ := hel i (by omega)
      refine ⟨y, ?_, hy2 hi⟩
      rw [← hy]
      congr 1
      refine List.ext_getElem? fun j => ?_
      by_cases hj : j < P.cellsOf e
      · rw [List.getElem?_take_of_lt hj, List.getElem?_take_of_lt hj, List.getElem?_drop, List.getElem?_drop, List.getElem?_take_of_lt]
        have := Nat.mul_le_mul_right (P.cellsOf e) (Nat.succ_le_of_lt hi)
        rw [Nat.succ_mul] at this; omega
      · rw [List.getElem?_eq_none (by simp; omega), List.getElem?_eq_none (by simp; omega)]

/-- a slice of integers that lies in the world, as it is taken in -/
theorem imp_of {t e : TypeId} {k : IntKind} {n : Nat} {v : Value} {y : DataW H × List MemPlace} (ht : P.underlying t = some (.slice e)) (he : P.underlying e = some (.int k)) (hc : P.cellsOf e = 1)
    (h : DataW.trod enc P W 0 (fun _ => true) true n t [v] = some y) :
    (∀ (m : Nat) (β : Env), ImpOk ⟨W, [], m, β⟩ v k (lenV v) (capV v) (contV W v)) ∧ ((y.1 = .nil ∧ lenV v = 0) ∨ ∃ (L : List Int) (s : List (DataW H)), y.1 = .slice (lits k L) s ∧ L.length = lenV v) := by
  rcases open_ints ht he hc h with ⟨hcs, rfl⟩ | ⟨a, len, cap, zs, hcs, _, hl, hm, hz, rfl, hcell, hwz⟩
  · simp only [List.cons.injEq, and_true] at hcs
    subst hcs
    exact ⟨fun m β => ⟨none, rfl, Nat.le_refl _, rfl, fun h => absurd h (by simp [capV])⟩, .inl ⟨rfl, rfl⟩⟩
  · simp only [List.cons.injEq, and_true] at hcs
    subst hcs
    simp only [if_true] at hz
    refine ⟨fun m β => ?_, .inr ⟨_, _, rfl, by simp [lenV]; omega⟩⟩
    by_cases hcap : 0 < cap
    · obtain ⟨b, off, rfl, hcell2⟩ := ints_at hcell (by omega)
      have h00 := hcell2 0 (by omega)
      unfold World.cell? at h00
      split at h00
      · rename_i arr ty fr hh
        have hget : ∀ j, j < zs.length → arr[off + j]? = some (.int k (zs.getD j 0)) := by
          intro j hj
          have h1 := hcell2 j hj
          unfold World.cell? at h1
          rw [hh] at h1
          simpa using h1
        have hcont : contV W (.slice (some ⟨b, off, none⟩) len cap) = zs.take len := by
          unfold contV
          simp only [hh]
          refine List.ext_getElem? fun j => ?_
          by_cases hj : j < len
          · rw [List.getElem?_map, List.getElem?_range hj, List.getElem?_take_of_lt hj]
            have h1 := hget j (by omega)
            simp only [Option.map_some, Array.getD_eq_getD_getElem?, h1, Option.getD_some, intV]
            rw [List.getD_eq_getElem?_getD, List.getElem?_eq_getElem (by omega)]; rfl
          · rw [List.getElem?_eq_none (by simp; omega), List.getElem?_eq_none (by simp; omega)]
        refine ⟨_, rfl, hl, by rw [hcont]; simp [lenV]; omega, fun _ => ⟨b, off, rfl, (Array.getElem?_eq_some_iff.1 hh).1, by simp, fun _ => ⟨arr, ty, fr, hh, ?_, ?_⟩⟩⟩
        · have := (Array.getElem?_eq_some_iff.1 (hget (zs.length - 1) (by omega))).1
          simp only [lenV]; omega
        · intro i x hix
          rw [hcont, List.getElem?_take] at hix
          split at hix
          · have hlt := (List.getElem?_eq_some_iff.1 hix).1
            rw [hget i hlt, List.getD_eq_getElem?_getD, hix]; rfl
          · cases hix
      · cases h00
    · have h0 : len = 0 := by omega
      subst h0
      refine ⟨_, rfl, hl, ?_, fun h => absurd h hcap⟩
      unfold contV
      simp only [List.range_zero, List.map_nil, lenV]
      split <;> rfl
end args
end Go.Proofs.Ytlmdhjojinkdbaa.R

/- A row that grows while its older view is read on: its room laid open; laid still. -/
namespace Go.Proofs.Ytlmdhjojinkdbaa.X
open Go
set_option linter.unusedVariables false

/-- cells of which the first ones are told -/
def Pre (β : Env) (cells c1 : List Atom) : Prop := ∀ cs, cons β cells cs → ∃ x y, cs = x ++ y ∧ cons β c1 x
theorem Pre.ints {β : Env} {k : IntKind} {n m : Nat} {L : List Int} (h : m ≤ n) (r : List Atom) : Pre β (.ints k n L :: r) [.ints k m (L.take m)] := by
  rintro cs ⟨x, y, rfl, ⟨hl, rfl⟩, _⟩
  refine ⟨(L.take m).map (Value.int k), (L.drop m).map (Value.int k) ++ y, ?_, cons_single.2 ⟨by simp; omega, rfl⟩⟩
  rw [← List.append_assoc, ← List.map_append, List.take_append_drop]
theorem Pre.all {β : Env} {k : IntKind} {n : Nat} {L : List Int} (r : List Atom) : Pre β (.ints k n L :: r) [.ints k n L] := by
  rintro cs ⟨x, y, rfl, h, _⟩
  exact ⟨x, y, rfl, cons_single.2 h⟩
theorem Rel.cast {B : Bs} {β : Env} {s s' : St} {a : Act} {w : World} (h : Rel B β s a w) (e : s = s') : Rel B β s' a w := e ▸ h
theorem Pre.holds {β : Env} {w : World} {j : Nat} {own : Bool} {cells c1 : List Atom} (hp : Pre β cells c1) (h : Blk.holds β w j ⟨own, cells⟩) : Blk.holds β w j ⟨false, c1⟩ := by
  obtain ⟨cs, hc, hd⟩ := h
  obtain ⟨x, y, rfl, hx⟩ := hp cs hc
  refine ⟨x, hx, ?_⟩
  rcases hd with ⟨h1, _⟩ | ⟨r, arr, ty, fr, hr, hh, hsz, hl, ha, _⟩
  · exact .inl ⟨(List.append_eq_nil_iff.1 h1).1, .inl rfl⟩
  · refine .inr ⟨r, arr, ty, fr, hr, hh, hsz, ?_, ?_, fun h => by cases h⟩
    · rw [List.length_append] at hl; omega
    · intro i v hv
      exact ha i v (by rw [List.getElem?_append_left (List.getElem?_eq_some_iff.1 hv).1]; exact hv)

end Go.Proofs.Ytlmdhjojinkdbaa.X

/- Printed by a tool of this session. -/
namespace Go.Proofs.Ytlmdhjojinkdbaa.X
open Go Go.Proofs
set_option linter.unusedVariables false
set_option linter.unusedSimpArgs false
set_option maxRecDepth 100000
theorem teOB_3 : TEOk Try.prog 3 ⟨.int .i64, 1, 8, [.i .i64 (0 : Int)], false⟩ :=
  TEOk.of Try.underlying3 (i := Try.t3) (by kernel_rfl) rfl rfl rfl (by kernel_rfl) (fun h => by cases h) (by kernel_rfl)
theorem teOB_5 : TEOk Try.prog 5 ⟨.int .u8, 1, 1, [.i .u8 (0 : Int)], false⟩ :=
  TEOk.of Try.underlying5 (i := Try.t5) (by kernel_rfl) rfl rfl rfl (by kernel_rfl) (fun h => by cases h) (by kernel_rfl)
theorem teOB_22 : TEOk Try.prog 22 ⟨.slice 5, 1, 24, [.raw (.slice none 0 0)], false⟩ :=
  TEOk.of Try.underlying22 (i := Try.t22) (by kernel_rfl) rfl rfl rfl (by kernel_rfl) (fun h => by cases h) (by kernel_rfl)
theorem teOB_23 : TEOk Try.prog 23 ⟨.slice 22, 1, 24, [.raw (.slice none 0 0)], false⟩ :=
  TEOk.of Try.underlying23 (i := Try.t23) (by kernel_rfl) rfl rfl rfl (by kernel_rfl) (fun h => by cases h) (by kernel_rfl)
theorem teOB_32 : TEOk Try.prog 32 ⟨.array 64 5, 64, 64, [.ints .u8 64 (List.replicate 64 0)], true⟩ :=
  TEOk.of Try.underlying32 (i := Try.t32) (by kernel_rfl) rfl rfl rfl (by kernel_rfl) (fun _ => Try.eqGuardType32) (by kernel_rfl)
theorem teOB_57 : TEOk Try.prog 57 ⟨.pointer 134, 1, 8, [.raw (.pointer none)], false⟩ :=
  TEOk.of Try.underlying57 (i := Try.t57) (by kernel_rfl) rfl rfl rfl (by kernel_rfl) (fun h => by cases h) (by kernel_rfl)
theorem teOB_132 : TEOk Try.prog 132 ⟨Try.t131.desc, 129, 129, [.ints .u8 64 (List.replicate 64 0), .ints .u8 64 (List.replicate 64 0), .b false], false⟩ :=
  TEOk.of Try.underlying132 (i := Try.t132) (by kernel_rfl) rfl rfl rfl (by kernel_rfl) (fun h => by cases h) (by kernel_rfl)
theorem teOB_134 : TEOk Try.prog 134 ⟨Try.t133.desc, 130, 144, [.ints .u8 64 (List.replicate 64 0), .ints .u8 64 (List.replicate 64 0), .b false, .i .i64 (0 : Int)], false⟩ :=
  TEOk.of Try.underlying134 (i := Try.t134) (by kernel_rfl) rfl rfl rfl (by kernel_rfl) (fun h => by cases h) (by kernel_rfl)
noncomputable def tabOB : List (Nat × TE) := [(3, ⟨.int .i64, 1, 8, [.i .i64 (0 : Int)], false⟩), (5, ⟨.int .u8, 1, 1, [.i .u8 (0 : Int)], false⟩), (22, ⟨.slice 5, 1, 24, [nlA], false⟩), (23, ⟨.slice 22, 1, 24, [nlA], false⟩), (32, ⟨.array 64 5, 64, 64, [.ints .u8 64 (List.replicate 64 0)], true⟩), (57, ⟨.pointer 134, 1, 8, [.raw (.pointer none)], false⟩), (132, ⟨Try.t131.desc, 129, 129, [.ints .u8 64 (List.replicate 64 0), .ints .u8 64 (List.replicate 64 0), .b false], false⟩), (134, ⟨Try.t133.desc, 130, 144, [.ints .u8 64 (List.replicate 64 0), .ints .u8 64 (List.replicate 64 0), .b false, .i .i64 (0 : Int)], false⟩)]
theorem tabOkOB : TabOk Try.prog (tabOf tabOB) := (tabOf_cons teOB_3 (tabOf_cons teOB_5 (tabOf_cons teOB_22 (tabOf_cons teOB_23 (tabOf_cons teOB_32 (tabOf_cons teOB_57 (tabOf_cons teOB_132 (tabOf_cons teOB_134 tabOf_nil))))))))

def mkBy (i k : Int) : Int :=
  (IntKind.u8.wrap (IntKind.i64.wrap ((IntKind.i64.wrap ((IntKind.i64.wrap (i * (31 : Int))) + (IntKind.i64.wrap (k * (7 : Int))))) + (5 : Int))))

set_option maxHeartbeats 1000000 in
theorem mkBy_body0 (i k : Int) (w : World) : Body Try.prog (tabOf tabOB) Try.f40 ⟨w, [], 0, noEnv⟩ (toA [.a (.i .i64 i), .a (.i .i64 k)]) [] (fun ys _ => ys = [.a (.i .u8 (mkBy i k))]) :=
  Body.of_fin (Γ := gam17) (Λ := noLam) (Ψ := noPsi) (fuel := 0) (m := 12) (c := (Try.f40.body.getD .skip)) mix tabOkOB gam17_ok rfl (rs := [.tmp 4]) rfl rfl [] []
    (vc := []) (by kernel_rfl)
    (AllP_nil)

theorem mkBy_body (i k : Int) (w : World) : Body Try.prog (tabOf tabOB) Try.f40 ⟨w, [], 0, noEnv⟩ (toA [.a (.i .i64 i), .a (.i .i64 k)]) [] (fun ys _ => ys = [.a (.i .u8 (mkBy i k))]) :=
  Body.lens (c := (Try.f40.body.getD .skip)) rfl fun h => mkBy_body0 i k  w

theorem mkBy_pure (i k : Int) : PureC Try.prog 40 [.a (.i .i64 i), .a (.i .i64 k)] [.a (.i .u8 (mkBy i k))] :=
  PureC.of_body tabOkOB Try.func40 rfl rfl fun w => mkBy_body i k w

noncomputable def gam34 : Gam := gpure 40 (fun args => match args with | [.o (.a (.i .i64 i)), .o (.a (.i .i64 k))] => some (none, [.a (.i .u8 (mkBy i k))]) | _ => none) gam17
theorem gam34_ok : GamOk Try.prog gam34 := gpure_ok gam17_ok Try.call40 (by
  intro args vc xs h hv
  split at h
  · simp only [Option.some.injEq, Prod.mk.injEq] at h; obtain ⟨rfl, rfl⟩ := h; exact ⟨_, by rfl, mkBy_pure _ _⟩
  · simp at h)

end Go.Proofs.Ytlmdhjojinkdbaa.X

/- Rows of marks; drawn again and again. -/
namespace Go.Proofs.Ytlmdhjojinkdbaa.X
open Go Go.Proofs
set_option linter.unusedVariables false
set_option maxRecDepth 100000

def rwB (i : Int) : Nat → List Int
  | 0 => []
  | n + 1 => rwB i n ++ [mkBy i ((n : Nat) : Int)]
theorem rwB_len (i : Int) : ∀ n, (rwB i n).length = n
  | 0 => rfl
  | n + 1 => by show (rwB i n ++ _).length = _; rw [List.length_append, rwB_len i n]; rfl
/-- a row of which the first k are marked -/
def mkP (L : List Int) (i : Int) (k : Nat) : List Int := rwB i k ++ L.drop k
theorem mkP_step {L : List Int} {i : Int} {n k : Nat} (l : L.length = n) (h : k < n) : List.set (mkP L i k) k (mkBy i ((k : Nat) : Int)) = mkP L i (k + 1) := by
  have a := rwB_len i k
  have e : L.drop k = L[k] :: L.drop (k + 1) := List.drop_eq_getElem_cons (by omega)
  show List.set (rwB i k ++ L.drop k) k _ = (rwB i k ++ [mkBy i ((k : Nat) : Int)]) ++ L.drop (k + 1)
  rw [e, List.set_append_right _ _ (by omega), a, Nat.sub_self, List.set_cons_zero, List.append_assoc]
  rfl
theorem mkP_all {L : List Int} {i : Int} {n : Nat} (l : L.length = n) : mkP L i n = rwB i n := by
  unfold mkP
  rw [List.drop_of_length_le (by omega), List.append_nil]
end Go.Proofs.Ytlmdhjojinkdbaa.X

/- A walk begun anew where it stands; families of slices that the walk itself made. -/
namespace Go.Proofs.Ytlmdhjojinkdbaa.X
open Go Go.Proofs
set_option linter.unusedVariables false

/-- the blocks that are known as own -/
def ownBlks (β : Env) (K : Know) : List Nat := (List.range K.length).filterMap fun j => match K.at j with
  | some b => if b.own = true then (β j).map Ref.blk else none
  | none => none
theorem mem_ownBlks {β : Env} {K : Know} {x : Nat} : x ∈ ownBlks β K ↔ ∃ j b r, K.at j = some b ∧ b.own = true ∧ β j = some r ∧ r.blk = x := by
  unfold ownBlks
  rw [List.mem_filterMap]
  constructor
  · rintro ⟨j, _, h⟩
    split at h
    · rename_i b hb
      split at h
      · rename_i ho
        rw [Option.map_eq_some_iff] at h
        obtain ⟨r, hr, hx⟩ := h
        exact ⟨j, b, r, hb, ho, hr, hx⟩
      · cases h
    · cases h
  · rintro ⟨j, b, r, hb, ho, hr, hx⟩
    have hj : j < K.length := by
      rcases Nat.lt_or_ge j K.length with h | h
      · exact h
      · unfold Know.at at hb; rw [List.getElem?_eq_none h] at hb; cases hb
    refine ⟨j, List.mem_range.2 hj, ?_⟩
    rw [hb]
    simp only
    rw [if_pos ho, hr]
    exact congrArg some hx

section anew
variable {P : Program} {B : Bs} {β β' : Env} {st st' : St} {a a' : Act} {w w' : World}

theorem Rel.anew (h : Rel B β st a w) : Rel ⟨w, ownBlks β st.K, B.k, β⟩ β st a w :=
  ⟨⟨h.relw.holds, h.relw.apart, fun j b r hj ho hr => .inr (mem_ownBlks.2 ⟨j, b, r, hj, ho, hr, rfl⟩), h.relw.live, fun _ _ _ => rfl, Nat.le_refl _, rfl, rfl, rfl⟩, h.defers, h.size, h.slot, fun _ _ => rfl, h.len⟩

theorem Rel.back (h : Rel B β st a w) (h' : Rel ⟨w, ownBlks β st.K, B.k, β⟩ β' st' a' w') : Rel B β' st' a' w' := by
  have hown : ∀ x, x ∈ ownBlks β st.K → B.w0.heap.size ≤ x ∨ x ∈ B.rw := by
    intro x hx
    obtain ⟨j, b, r, hj, ho, hr, rfl⟩ := mem_ownBlks.1 hx
    exact h.relw.mine j b r hj ho hr
  refine ⟨⟨h'.relw.holds, h'.relw.apart, ?_, h'.relw.live, ?_, Nat.le_trans h.relw.size h'.relw.size, h'.relw.os.trans h.relw.os, h'.relw.tape.trans h.relw.tape, h'.relw.output.trans h.relw.output⟩, h'.defers, h'.size, h'.slot, fun j hj => (h'.fix j hj).trans (h.fix j hj), h'.len⟩
  · intro j b r hj ho hr
    rcases h'.relw.mine j b r hj ho hr with h1 | h1
    · exact .inl (Nat.le_trans h.relw.size h1)
    · exact hown _ h1
  · intro b hb hn
    have h1 : b ∉ ownBlks β st.K := fun hx => by
      rcases hown b hx with h2 | h2
      · omega
      · exact hn h2
    exact (h'.relw.old b (Nat.lt_of_lt_of_le hb h.relw.size) h1).trans (h.relw.old b hb hn)

theorem Run.anew {c : Code} {post : Ex → St → Prop} (h : ∀ β a w, Rel B β st a w → Run P ⟨w, ownBlks β st.K, B.k, β⟩ c st post) : Run P B c st post :=
  fun β a w hR Q hq => h β a w hR β a w hR.anew Q fun e st' β' a' w' hp hR' => hq e st' β' a' w' hp (hR.back hR')
end anew

/-- a loop that makes a family: what it has made so far lies in the world, told by Inv -/
theorem Run.fam {P : Program} {σ : Type} {c rest : Code} {id : Nat} {post : Ex → St → Prop} (mk : Nat → σ → St) (Inv : World → List Nat → Nat → σ → Prop) (n kk : Nat)
    (hround : ∀ w rw β0 k s, k < n → Inv w rw k s → ∃ md, Run P ⟨w, rw, kk, β0⟩ c (mk k s) (To ⟨w, rw, kk, β0⟩ .normal md) ∧
      ∀ β a' w', Rel ⟨w, rw, kk, β0⟩ β md a' w' → ∃ β' s', Rel ⟨w, rw, kk, β0⟩ β' (mk (k + 1) s') a' w' ∧ Inv w' (ownBlks β' (mk (k + 1) s').K) (k + 1) s')
    (hlast : ∀ w rw β0 s, Inv w rw n s → Run P ⟨w, rw, kk, β0⟩ c (mk n s) (To ⟨w, rw, kk, β0⟩ (.exit id) (mk n s)))
    (hrest : ∀ w rw β0 s, Inv w rw n s → Run P ⟨w, rw, kk, β0⟩ rest (mk n s) post)
    {w0 : World} {rw0 : List Nat} {β0 : Env} {s0 : σ} (h0 : Inv w0 rw0 0 s0) : Run P ⟨w0, rw0, kk, β0⟩ (.seq (.block id (.loop c)) rest) (mk 0 s0) post := by
  have key : ∀ Q1 : Exit → Act → World → Prop, (∀ w1 rw1 β1 s β a w, Inv w1 rw1 n s → Rel ⟨w1, rw1, kk, β1⟩ β (mk n s) a w →
        (∀ β' st' a' w', Rel ⟨w1, rw1, kk, β1⟩ β' st' a' w' → Rel ⟨w0, rw0, kk, β0⟩ β' st' a' w') → Q1 (.exit id) a w) → ∀ m k, k + m = n → ∀ w1 rw1 β1 s β a w, Inv w1 rw1 k s → Rel ⟨w1, rw1, kk, β1⟩ β (mk k s) a w →
      (∀ β' st' a' w', Rel ⟨w1, rw1, kk, β1⟩ β' st' a' w' → Rel ⟨w0, rw0, kk, β0⟩ β' st' a' w') → Code.rounds P c Q1 (m + 1) a w := by
    intro Q1 hQ1 m
    induction m with
    | zero =>
      intro k hk w1 rw1 β1 s β a w hi hR hback
      have : k = n := by omega
      subst this
      rw [rounds_succ]
      refine hlast w1 rw1 β1 s hi β a w hR _ fun e st' β' a' w' hp hR' => ?_
      obtain ⟨rfl, hw⟩ := hp
      obtain ⟨β2, hR2⟩ := hw β' a' w' hR'
      exact hQ1 w1 rw1 β1 s β2 a' w' hi hR2 hback
    | succ m ih =>
      intro k hk w1 rw1 β1 s β a w hi hR hback
      rw [rounds_succ]
      obtain ⟨md, hrun, hconv⟩ := hround w1 rw1 β1 k s (by omega) hi
      refine hrun β a w hR _ fun e st' β' a' w' hp hR' => ?_
      obtain ⟨rfl, hw⟩ := hp
      obtain ⟨β2, hR2⟩ := hw β' a' w' hR'
      obtain ⟨β3, s', hR3, hi'⟩ := hconv β2 a' w' hR2
      exact ih (k + 1) (by omega) w' (ownBlks β3 (mk (k + 1) s').K) β3 s' β3 a' w' hi' hR3.anew fun β' st' a'' w'' h => hback _ _ _ _ (hR3.back h)
  intro β a w hR Q hq
  refine wp_seq (wp_block (wp_loop_rounds (n + 1) (key _ ?_ n 0 (by omega) w0 rw0 β0 s0 β a w h0 hR fun _ _ _ _ h => h)))
  intro w1 rw1 β1 s β2 a' w' hi hR2 hback
  show (if id = id then _ else _)
  rw [if_pos rfl]
  exact hrest w1 rw1 β1 s hi β2 a' w' hR2 Q fun e st' β' a' w' hp hR' => hq e st' β' a' w' hp (hback _ _ _ _ hR')

/-- slices that lie in a world, outside of the own blocks -/
structure FamR (w : World) (rw : List Nat) (L : List Value) (C : List (List Int)) : Prop where
  len : L.length = C.length
  imp : ∀ i, i < C.length → ∀ (k : Nat) (β : Env), ImpOk ⟨w, rw, k, β⟩ (L.getD i undef) .u8 (lenV (L.getD i undef)) (capV (L.getD i undef)) (contV w (L.getD i undef))
  cont : ∀ i, i < C.length → contV w (L.getD i undef) = C.getD i []

theorem FamR.nil {w : World} {rw : List Nat} : FamR w rw [] [] := ⟨rfl, fun i hi => absurd hi (Nat.not_lt_zero i), fun i hi => absurd hi (Nat.not_lt_zero i)⟩

/-- what single cells of a list of slices show -/
def famC (K : Know) (a : Atom) : Option (Prop × List Int) :=
  match a with
  | .sl j c n _ => (match K.at j with
    | some b => (match segR b.cells c n with
      | some (p, [.ints .u8 _ l]) => some (p, l)
      | _ => none)
    | none => none)
  | .rs j c n _ => (match K.at j with
    | some b => (match segR b.cells c n with
      | some (p, [.ints .u8 _ l]) => some (p, l)
      | _ => none)
    | none => none)
  | .raw (.slice none 0 0) => some (True, [])
  | _ => none
/-- a cell names no block below kb that is own -/
def farC (K : Know) (kb : Nat) (a : Atom) : Bool :=
  match a with
  | .sl j _ _ _ => decide (kb ≤ j)
  | .rs j _ _ _ => decide (kb ≤ j)
  | .raw (.slice none 0 0) => true
  | _ => false

/-- the own blocks below kb, as they are known later -/
def Less (K K' : Know) (kb : Nat) : Prop := ∀ j b, K'.at j = some b → b.own = true → j < kb ∧ ∃ c, K.at j = some c ∧ c.own = true

section fam
variable {w0 w : World} {rw : List Nat} {β : Env} {K K' : Know} {kb : Nat}

theorem Less.notin (hR : RelW w0 rw β K w) (hL : Less K K' kb) {j : Nat} {b : Blk} {r : Ref} (hj : K.at j = some b) (hk : kb ≤ j) (hr : β j = some r) : r.blk ∉ ownBlks β K' := fun hx => by
  obtain ⟨x, b', s, hx1, ho, hs, he⟩ := mem_ownBlks.1 hx
  obtain ⟨hlt, c, hc, hco⟩ := hL x b' hx1 ho
  exact hR.apart x j c b s r hc hj hco (by omega) hs hr he
theorem Less.old (hR : RelW w0 rw β K w) (hL : Less K K' kb) {b : Nat} (h1 : b < w0.heap.size) (h2 : b ∉ rw) : b ∉ ownBlks β K' := fun hx => by
  obtain ⟨x, b', s, hx1, ho, hs, he⟩ := mem_ownBlks.1 hx
  obtain ⟨hlt, c, hc, hco⟩ := hL x b' hx1 ho
  rcases hR.mine x c s hc hco hs with h | h
  · omega
  · rw [he] at h; exact h2 h

theorem FamR.move (hR : RelW w0 rw β K w) (hL : Less K K' kb) {L : List Value} {C : List (List Int)} (h : FamR w0 rw L C) : FamR w (ownBlks β K') L C := by
  have hc : ∀ i, i < C.length → contV w (L.getD i undef) = contV w0 (L.getD i undef) := fun i hi => contV_move hR.old (h.imp i hi 0 noEnv)
  refine ⟨h.len, fun i hi k β1 => ?_, fun i hi => (hc i hi).trans (h.cont i hi)⟩
  rw [hc i hi]
  obtain ⟨base, hv, hlc, hl, hb⟩ := h.imp i hi 0 noEnv
  refine ⟨base, hv, hlc, hl, fun h0 => ?_⟩
  obtain ⟨b, off, g1, g2, g3, g4⟩ := hb h0
  have g2 : b < w0.heap.size := g2
  refine ⟨b, off, g1, Nat.lt_of_lt_of_le g2 hR.size, hL.old hR g2 g3, fun hl0 => ?_⟩
  obtain ⟨arr, ty, fr, k1, k2⟩ := g4 hl0
  exact ⟨arr, ty, fr, (hR.old b g2 g3).trans k1, k2⟩

theorem sl_fam (hR : RelW w0 rw β K w) (hL : Less K K' kb) {j c n m cap : Nat} {b : Blk} {p : Prop} {l : List Int} (hb : K.at j = some b) (hk : kb ≤ j) (hs : segR b.cells c n = some (p, [.ints .u8 m l])) (hp : p) {base : Option Addr} (hnc : n ≤ cap)
    (hbase : 0 < cap → ∃ r, β j = some r ∧ base = some ⟨r.blk, r.off + c, none⟩) : (∀ k β', ImpOk ⟨w, ownBlks β K', k, β'⟩ (.slice base n cap) .u8 n cap (contV w (.slice base n cap))) ∧ contV w (.slice base n cap) = l := by
  obtain ⟨h1, h2⟩ := sl_part hR hb hs hp hnc hbase
  refine ⟨fun k β' => ?_, h2⟩
  rw [h2]
  obtain ⟨base', hv, hlc, hl, hx⟩ := h1 k β'
  refine ⟨base', hv, hlc, hl, fun h0 => ?_⟩
  obtain ⟨b', off, g1, g2, g3, g4⟩ := hx h0
  obtain ⟨r, hr, hb2⟩ := hbase h0
  have he : base' = base := by
    have := hv
    simp only [Value.slice.injEq] at this
    exact this.1.symm
  have hbb : b' = r.blk := by
    rw [he, hb2] at g1
    simp only [Option.some.injEq, Addr.mk.injEq] at g1
    exact g1.1.symm
  subst hbb
  exact ⟨r.blk, off, g1, g2, hL.notin hR hb hk hr, g4⟩

theorem famC_ok (hR : RelW w0 rw β K w) (hL : Less K K' kb) {a : Atom} {p : Prop} {l : List Int} {cs : List Value} (h : famC K a = some (p, l)) (hf : farC K kb a = true) (hp : p) (hc : a.con β cs) : FamR w (ownBlks β K') cs [l] := by
  have one : ∀ {v : Value}, ((∀ k β', ImpOk ⟨w, ownBlks β K', k, β'⟩ v .u8 (lenV v) (capV v) (contV w v)) ∧ contV w v = l) → FamR w (ownBlks β K') [v] [l] := by
    intro v h
    refine ⟨rfl, fun i hi k β' => ?_, fun i hi => ?_⟩
    · have : i = 0 := by simp at hi; omega
      subst this; exact h.1 k β'
    · have : i = 0 := by simp at hi; omega
      subst this; exact h.2
  unfold famC at h
  unfold farC at hf
  split at h
  · split at h
    · rename_i j c n cap b hb
      split at h
      · rename_i p' m' l' hs
        simp only [Option.some.injEq, Prod.mk.injEq] at h; obtain ⟨rfl, rfl⟩ := h
        obtain ⟨base, rfl, hnc, hbase⟩ := hc
        exact one (sl_fam hR hL hb (of_decide_eq_true hf) hs hp hnc hbase)
      · simp at h
    · simp at h
  · split at h
    · rename_i j c n z b hb
      split at h
      · rename_i p' m' l' hs
        simp only [Option.some.injEq, Prod.mk.injEq] at h; obtain ⟨rfl, rfl⟩ := h
        obtain ⟨base, cap, rfl, hnc, hbase⟩ := hc
        exact one (sl_fam hR hL hb (of_decide_eq_true hf) hs hp hnc fun h0 => by obtain ⟨r, h1, h2, _⟩ := hbase h0; exact ⟨r, h1, h2⟩)
      · simp at h
    · simp at h
  · simp only [Option.some.injEq, Prod.mk.injEq] at h; obtain ⟨rfl, rfl⟩ := h
    obtain ⟨rfl, _⟩ := hc
    exact one ⟨fun k β' => ⟨none, rfl, Nat.le_refl _, rfl, fun h => absurd h (by simp [capV])⟩, rfl⟩
  · simp at h

theorem FamR.app {rw' : List Nat} {L M : List Value} {C D : List (List Int)} (h : FamR w rw' L C) (h' : FamR w rw' M D) : FamR w rw' (L ++ M) (C ++ D) := by
  have hl := h.len
  refine ⟨by rw [List.length_append, List.length_append, h.len, h'.len], fun i hi k β => ?_, fun i hi => ?_⟩
  · by_cases h1 : i < C.length
    · rw [getD_left (by omega)]; exact h.imp i h1 k β
    · obtain ⟨t, rfl⟩ : ∃ t, i = L.length + t := ⟨i - L.length, by omega⟩
      rw [getD_right]
      rw [List.length_append] at hi
      exact h'.imp t (by omega) k β
  · rw [List.length_append] at hi
    by_cases h1 : i < C.length
    · rw [getD_left (by omega), h.cont i h1, List.getD_eq_getElem?_getD, List.getD_eq_getElem?_getD, List.getElem?_append_left h1]
    · obtain ⟨t, rfl⟩ : ∃ t, i = L.length + t := ⟨i - L.length, by omega⟩
      rw [getD_right, h'.cont t (by omega), List.getD_eq_getElem?_getD, List.getD_eq_getElem?_getD, List.getElem?_append_right (by omega)]
      congr 2; omega

theorem FamR.parts {rw' : List Nat} {L : List Value} {C : List (List Int)} (h : FamR w rw' L C) : ∀ n, n ≤ C.length → catV w L n = (C.take n).flatten
  | 0, _ => rfl
  | n + 1, hn => by
    show catV w L n ++ contV w (L.getD n undef) = _
    rw [FamR.parts h n (by omega), h.cont n (by omega), List.take_add_one, List.getElem?_eq_getElem (by omega), List.flatten_append, List.getD_eq_getElem?_getD, List.getElem?_eq_getElem (by omega)]
    simp
end fam

theorem Rel.forgot {B : Bs} {β : Env} {st : St} {a : Act} {w : World} (h : Rel B β st a w) (keep : List Nat) (m : Nat) (hk : B.k ≤ (st.K.take m).length) : Rel B β (forget keep m st) a w := by
  refine ⟨h.relw.less fun j b hj => Know.at_take _ _ _ _ hj, h.defers, by rw [forget, keepL_length]; exact h.size, fun t => ?_, h.fix, hk⟩
  rw [forget, keepL_getD]
  split
  · simpa using h.slot t
  · trivial

/-- a block said by its values, whatever they are -/
theorem Rel.valued {B : Bs} {β : Env} {slots : List AV} {K : Know} {a : Act} {w : World} (h : Rel B β ⟨slots, K⟩ a w) {j : Nat} {own : Bool} {cells : List Atom} (hb : K.at j = some ⟨own, cells⟩) {n : Nat} (hn : sizes cells = n) :
    ∃ L, cons β cells L ∧ Rel B β ⟨slots, K.set1 j (some ⟨own, [.vals n L]⟩)⟩ a w := by
  obtain ⟨cs, hc, hd⟩ := h.relw.holds j _ hb
  have hc : cons β cells cs := hc
  exact ⟨cs, hc, h.relw.rehold hb (fun h => h) ⟨cs, cons_single.2 ⟨(cons_len hc).trans hn, rfl, cons_one hc⟩, hd⟩, h.defers, h.size, h.slot, h.fix, Nat.le_trans h.len (set1_length _ _ _)⟩

def lessB (K K' : Know) (kb : Nat) : Bool := (List.range K'.length).all fun j => match K'.at j with
  | some b => !b.own || (decide (j < kb) && (match K.at j with | some c => c.own | none => false))
  | none => true
theorem Less.of {K K' : Know} {kb : Nat} (h : lessB K K' kb = true) : Less K K' kb := by
  intro j b hj ho
  have hlt : j < K'.length := by
    rcases Nat.lt_or_ge j K'.length with h | h
    · exact h
    · unfold Know.at at hj; rw [List.getElem?_eq_none h] at hj; cases hj
  have h1 := List.all_eq_true.1 h j (List.mem_range.2 hlt)
  rw [hj] at h1
  simp only [ho, Bool.not_true, Bool.false_or, Bool.and_eq_true, decide_eq_true_eq] at h1
  refine ⟨h1.1, ?_⟩
  have h2 := h1.2
  split at h2
  · rename_i c hc; exact ⟨c, hc, h2⟩
  · cases h2

/-- pieces of a body, one behind the other -/
theorem Run.seqTo {P : Program} {B : Bs} {a b : Code} {st st1 : St} {post : Ex → St → Prop} (h : Run P B a st (To B .normal st1)) (h2 : Run P B b st1 post) : Run P B (.seq a b) st post :=
  fun β ac w hR Q hq => wp_seq (h β ac w hR _ fun e st' β' a' w' hp hR' => by
    obtain ⟨rfl, hw⟩ := hp
    obtain ⟨β2, hR2⟩ := hw β' a' w' hR'
    exact h2 β2 a' w' hR2 Q hq)
theorem Run.absorb {P : Program} {B : Bs} {c : Code} {st : St} {R : Ex → St → Prop} (h : Run P B c st fun e s => ∃ s', Weak B s s' ∧ R e s') : Run P B c st R :=
  fun β a w hR Q hq => h β a w hR Q fun e st' β' a' w' hp hR' => by
    obtain ⟨s', hw, hr⟩ := hp
    obtain ⟨β2, hR2⟩ := hw β' a' w' hR'
    exact hq e s' β2 a' w' hr hR2
/-- the end of a body -/
def finP (T : Tab) (fn : Func) (Fin : List V1 → Know → Prop) : Ex → St → Prop := fun e s => (e = .normal ∨ e = .ret) ∧ ∃ xs m, resL T s fn.results.toList = some xs ∧ Fin xs (s.K.take m)
theorem Run.of_finAt {P : Program} {T : Tab} {Γ : Gam} {B : Bs} {Λ : Lam} {Ψ : Psi} {fuel : Nat} (hmix : P.follows .mixedOrders = true) (hT : TabOk P T) (hΓ : GamAt P Γ B.w0 B.rw) {fn : Func} {c : Code} {rs : List ResultVar} (hrs : fn.results = rs.toArray) (ora : List Bool) (l : List Tr) {st : St}
    {vc : List Prop} {xs : List V1} (h : fin B T rs l (execC P B T Γ Λ Ψ fuel c ora st []) = some ⟨true, vc, xs⟩) (hvc : AllP vc) : Run P B c st (finP T fn fun ys _ => ys = xs) := by
  unfold fin at h
  split at h
  · rename_i o ho
    split at h
    · rename_i vc1 st1 ht
      split at h
      · rename_i ys hys
        simp only [Option.some.injEq, FOut.mk.injEq] at h
        obtain ⟨h1, rfl, rfl⟩ := h
        obtain ⟨h2, h3⟩ := trs_weak ht hvc
        exact Run.absorb (Run.exec hmix hT hΓ Λ Ψ fuel ora ho h2 ⟨_, h3, exRet_ok h1, _, 0, by rw [hrs]; exact hys, rfl⟩)
      · simp at h
    · simp at h
  · simp at h
theorem Body.of_run {P : Program} {T : Tab} {B : Bs} {fn : Func} {c : Code} (hb : fn.body = some c) {avs : List AV} {K0 : Know} {Fin : List V1 → Know → Prop} (h : Run P B c ⟨avs ++ List.replicate (fn.ntmps - avs.length) .u, K0⟩ (finP T fn Fin)) : Body P T fn B avs K0 Fin :=
  ⟨c, hb, h.mono fun e s hp => ⟨hp.1, s, Weak.refl, hp.2⟩⟩
end Go.Proofs.Ytlmdhjojinkdbaa.X

/- What Given lays: a copy with three marks behind it. -/
namespace Go.Proofs.Ytlmdhjojinkdbaa.X
open Go Go.Proofs
set_option linter.unusedVariables false
set_option maxRecDepth 100000

def cpB (b R : List Int) (k : Nat) : List Int := sub b 0 k ++ R.drop k
def gvB (n : Nat) (b : List Int) : List Int := cpB b (rwB 987 (n + 3)) n
theorem cpB_step {b R : List Int} {n m k : Nat} (hb : b.length = n) (hR : R.length = m) (h : k < n) (h' : k < m) : List.set (cpB b R k) k (List.getD b k 0) = cpB b R (k + 1) := by
  have hs : (sub b 0 k).length = k := sub_len _ _ _ (by omega)
  have e : R.drop k = R[k] :: R.drop (k + 1) := List.drop_eq_getElem_cons (by omega)
  unfold cpB
  rw [e, List.set_append_right _ _ (by omega), hs, Nat.sub_self, List.set_cons_zero]
  unfold sub
  rw [List.drop_zero, List.take_add_one, List.getElem?_eq_getElem (by omega), List.getD_eq_getElem?_getD, List.getElem?_eq_getElem (by omega), List.append_assoc]
  rfl
theorem cpB_len {b R : List Int} {n m k : Nat} (hb : b.length = n) (hR : R.length = m) (h : k ≤ n) (h' : k ≤ m) : (cpB b R k).length = m := by
  unfold cpB
  rw [List.length_append, sub_len _ _ _ (by omega), List.length_drop]; omega
theorem gvB_len {b : List Int} {n : Nat} (hb : b.length = n) : (gvB n b).length = n + 3 := cpB_len hb (rwB_len _ _) (Nat.le_refl _) (by omega)
theorem gvB_take {b : List Int} {n : Nat} (hb : b.length = n) : sub (gvB n b) 0 n = b := by
  have hs : (sub b 0 n).length = n := sub_len _ _ _ (by omega)
  unfold gvB cpB
  rw [show sub (sub b 0 n ++ (rwB 987 (n + 3)).drop n) 0 n = sub b 0 n from by
    rw [sub_append_left _ _ _ (by omega), hs, Nat.sub_self]
    simp [sub]]
  exact sub_all b n (by omega)
theorem gv_copy {b : List Int} {n : Nat} (hb : b.length = n) : copyB (n + 3) (sub (gvB n b) 0 (n + 3)) = gvB n b := by
  show sub (sub (gvB n b) 0 (n + 3)) 0 (n + 3) = _
  have e : sub (gvB n b) 0 (n + 3) = gvB n b := sub_all _ _ (by rw [gvB_len hb]; omega)
  rw [e, e]
end Go.Proofs.Ytlmdhjojinkdbaa.X

