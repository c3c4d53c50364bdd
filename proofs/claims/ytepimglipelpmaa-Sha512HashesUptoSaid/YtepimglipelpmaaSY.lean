/- Printed by a tool of this session. -/
import Derived.Test.YtepimglipelpmaaSX
import Derived.KernelRfl
namespace Go.Proofs.Ytepimglipelpmaa.X
open Go Go.Proofs
set_option linter.unusedVariables false
set_option maxRecDepth 100000
theorem teSY_22 : TEOk Try.prog 22 ⟨.slice 5, 1, 24, [.raw (.slice none 0 0)], false⟩ :=
  TEOk.of Try.underlying22 (i := Try.t22) (by kernel_rfl) rfl rfl rfl (by kernel_rfl) (fun h => by cases h) (by kernel_rfl)
theorem teSY_52 : TEOk Try.prog 52 ⟨.int .u64, 1, 8, [.i .u64 (0 : Int)], false⟩ :=
  TEOk.of Try.underlying52 (i := Try.t52) (by kernel_rfl) rfl rfl rfl (by kernel_rfl) (fun h => by cases h) (by kernel_rfl)
theorem teSY_53 : TEOk Try.prog 53 ⟨.array 8 52, 8, 64, [.ints .u64 (8 : Nat) ([0, 0, 0, 0, 0, 0, 0, 0] : List Int)], true⟩ :=
  TEOk.of Try.underlying53 (i := Try.t53) (by kernel_rfl) rfl rfl rfl (by kernel_rfl) (fun _ => Try.eqGuardType53) (by kernel_rfl)
noncomputable def tabSY : List (Nat × TE) := [(22, ⟨.slice 5, 1, 24, [.raw (.slice none 0 0)], false⟩), (52, ⟨.int .u64, 1, 8, [.i .u64 (0 : Int)], false⟩), (53, ⟨.array 8 52, 8, 64, [.ints .u64 (8 : Nat) ([0, 0, 0, 0, 0, 0, 0, 0] : List Int)], true⟩)]
theorem tabOkSY : TabOk Try.prog (tabOf tabSY) := (tabOf_cons teSY_22 (tabOf_cons teSY_52 (tabOf_cons teSY_53 tabOf_nil)))

set_option maxHeartbeats 1000000 in
theorem compressE_body0 (S : List Int) (n : Nat) (nm : Nat) (b : List Int) (cap0 : Nat) (h0 : (nm = n)) (h1 : (n ≠ (128 : Nat))) (hc0 : n ≤ cap0) (hl0_0 : List.length b = nm) (hv0 : List.length S = (8 : Nat)) (w : World) (β : Env) : Body Try.prog (tabOf tabSY) Try.f19 ⟨w, [], 1, β⟩ [.o (.g [.ints .u64 (8 : Nat) S]), .o (.a (.sl 0 (0 : Nat) n cap0))] [some ⟨false, [.ints .u8 nm b]⟩] (fun ys _ => ys = [.g [.ints .u64 (8 : Nat) ([0, 0, 0, 0, 0, 0, 0, 0] : List Int)], .a (.i .i64 (3 : Int))]) :=
  Body.of_fin (Γ := gam29) (Λ := noLam) (Ψ := noPsi) (fuel := 0) (m := 15) (c := (Try.f19.body.getD .skip)) mix tabOkSY gam29_ok rfl (rs := [.cell 4 53, .tmp 5]) rfl rfl [true] []
    (vc := [((((n : Nat) : Int) != (128 : Int)) = true)]) (by kernel_rfl)
    (AllP_cons (bne_iff_ne.2 (by first | omega | (simp (disch := omega) only [wrapI]; omega))) (AllP_nil))

theorem compressE_body (S : List Int) (n : Nat) (nm : Nat) (b : List Int) (cap0 : Nat) (h0 : (nm = n)) (h1 : (n ≠ (128 : Nat))) (w : World) (β : Env) : Body Try.prog (tabOf tabSY) Try.f19 ⟨w, [], 1, β⟩ [.o (.g [.ints .u64 (8 : Nat) S]), .o (.a (.sl 0 (0 : Nat) n cap0))] [some ⟨false, [.ints .u8 nm b]⟩] (fun ys _ => ys = [.g [.ints .u64 (8 : Nat) ([0, 0, 0, 0, 0, 0, 0, 0] : List Int)], .a (.i .i64 (3 : Int))]) :=
  Body.lens (c := (Try.f19.body.getD .skip)) rfl fun h => compressE_body0 S n nm b cap0 h0 h1 (h.caps 1 _ _ _ _ rfl) (h.lens 0 _ .u8 nm b rfl (by simp)) (h.vals 0 _ _ _ rfl) w β

set_option maxHeartbeats 1000000 in
theorem compressRE_body0 (S : List Int) (n : Nat) (nm : Nat) (b : List Int) (cap0 : Nat) (h0 : (nm = n)) (h1 : (n ≠ (128 : Nat))) (hc0 : n ≤ cap0) (hl0_0 : List.length b = nm) (hv0 : List.length S = (8 : Nat)) (w : World) (β : Env) : Body Try.prog (tabOf tabSY) Try.f20 ⟨w, [], 1, β⟩ [.o (.g [.ints .u64 (8 : Nat) S]), .o (.a (.sl 0 (0 : Nat) n cap0))] [some ⟨false, [.ints .u8 nm b]⟩] (fun ys _ => ys = [.g [.ints .u64 (8 : Nat) ([0, 0, 0, 0, 0, 0, 0, 0] : List Int)], .a (.i .i64 (3 : Int))]) :=
  Body.of_fin (Γ := gam29) (Λ := noLam) (Ψ := noPsi) (fuel := 0) (m := 13) (c := (Try.f20.body.getD .skip)) mix tabOkSY gam29_ok rfl (rs := [.cell 4 53, .tmp 5]) rfl rfl [true] []
    (vc := [((((n : Nat) : Int) != (128 : Int)) = true)]) (by kernel_rfl)
    (AllP_cons (bne_iff_ne.2 (by first | omega | (simp (disch := omega) only [wrapI]; omega))) (AllP_nil))

theorem compressRE_body (S : List Int) (n : Nat) (nm : Nat) (b : List Int) (cap0 : Nat) (h0 : (nm = n)) (h1 : (n ≠ (128 : Nat))) (w : World) (β : Env) : Body Try.prog (tabOf tabSY) Try.f20 ⟨w, [], 1, β⟩ [.o (.g [.ints .u64 (8 : Nat) S]), .o (.a (.sl 0 (0 : Nat) n cap0))] [some ⟨false, [.ints .u8 nm b]⟩] (fun ys _ => ys = [.g [.ints .u64 (8 : Nat) ([0, 0, 0, 0, 0, 0, 0, 0] : List Int)], .a (.i .i64 (3 : Int))]) :=
  Body.lens (c := (Try.f20.body.getD .skip)) rfl fun h => compressRE_body0 S n nm b cap0 h0 h1 (h.caps 1 _ _ _ _ rfl) (h.lens 0 _ .u8 nm b rfl (by simp)) (h.vals 0 _ _ _ rfl) w β

set_option maxHeartbeats 1000000 in
theorem padXE_body0 (n : Int) (h0 : ((2305843009213693952 : Int) ≤ n)) (w : World) (rw : List Nat) (β : Env) : Body Try.prog (tabOf tabSY) Try.f21 ⟨w, rw, 0, β⟩ [.o (.a (.i .u64 n))] [] (fun ys K' => ys = [.a (.raw (.slice none 0 0)), .a (.i .i64 (1 : Int))] ∧ K' = []) :=
  Body.of_finK (Γ := gam29) (Λ := noLam) (Ψ := noPsi) (fuel := 0) (m := 9) (c := (Try.f21.body.getD .skip)) mix tabOkSY gam29_ok rfl (rs := [.tmp 2, .tmp 3]) rfl rfl [true] [] 0
    (vc := [((decide ((shr .u64 n (61 : Int)) > (0 : Int))) = true), ((0 : Int) ≤ (61 : Int))]) (by kernel_rfl)
    (AllP_cons (decide_eq_true (by have := shr61_pos h0; omega)) (AllP_cons (by decide) (AllP_nil)))

theorem padXE_body (n : Int) (h0 : ((2305843009213693952 : Int) ≤ n)) (w : World) (rw : List Nat) (β : Env) : Body Try.prog (tabOf tabSY) Try.f21 ⟨w, rw, 0, β⟩ [.o (.a (.i .u64 n))] [] (fun ys K' => ys = [.a (.raw (.slice none 0 0)), .a (.i .i64 (1 : Int))] ∧ K' = []) :=
  Body.lens (c := (Try.f21.body.getD .skip)) rfl fun h => padXE_body0 n h0  w rw β

set_option maxHeartbeats 1000000 in
theorem padRE_body0 (n : Int) (h0 : ((2305843009213693952 : Int) ≤ n)) (w : World) (rw : List Nat) (β : Env) : Body Try.prog (tabOf tabSY) Try.f22 ⟨w, rw, 0, β⟩ [.o (.a (.i .u64 n))] [] (fun ys K' => ys = [.a (.raw (.slice none 0 0)), .a (.i .i64 (1 : Int))] ∧ K' = []) :=
  Body.of_finK (Γ := gam29) (Λ := noLam) (Ψ := noPsi) (fuel := 0) (m := 42) (c := (Try.f22.body.getD .skip)) mix tabOkSY gam29_ok rfl (rs := [.tmp 2, .tmp 3]) rfl rfl [true] [] 0
    (vc := [((decide (n ≥ (2305843009213693952 : Int))) = true)]) (by kernel_rfl)
    (AllP_cons (decide_eq_true (by first | omega | (simp (disch := omega) only [wrapI]; omega))) (AllP_nil))

theorem padRE_body (n : Int) (h0 : ((2305843009213693952 : Int) ≤ n)) (w : World) (rw : List Nat) (β : Env) : Body Try.prog (tabOf tabSY) Try.f22 ⟨w, rw, 0, β⟩ [.o (.a (.i .u64 n))] [] (fun ys K' => ys = [.a (.raw (.slice none 0 0)), .a (.i .i64 (1 : Int))] ∧ K' = []) :=
  Body.lens (c := (Try.f22.body.getD .skip)) rfl fun h => padRE_body0 n h0  w rw β

end Go.Proofs.Ytepimglipelpmaa.X
