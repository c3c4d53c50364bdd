/- Printed by a tool of this session. -/
import Derived.Test.YtcpoldghkiiggaaPL
import Derived.KernelRfl
namespace Go.Proofs.Ytcpoldghkiiggaa.X
open Go Go.Proofs
set_option linter.unusedVariables false
set_option linter.unusedSimpArgs false
set_option maxRecDepth 100000
theorem teQP_5 : TEOk Try.prog 5 ⟨.int .u8, 1, 1, [.i .u8 (0 : Int)], false⟩ :=
  TEOk.of Try.underlying5 (i := Try.t5) (by kernel_rfl) rfl rfl rfl (by kernel_rfl) (fun h => by cases h) (by kernel_rfl)
theorem teQP_22 : TEOk Try.prog 22 ⟨.slice 5, 1, 24, [.raw (.slice none 0 0)], false⟩ :=
  TEOk.of Try.underlying22 (i := Try.t22) (by kernel_rfl) rfl rfl rfl (by kernel_rfl) (fun h => by cases h) (by kernel_rfl)
theorem teQP_24 : TEOk Try.prog 24 ⟨.array 32 5, 32, 32, [.ints .u8 (32 : Nat) ([0, 0, 0, 0, 0, 0, 0, 0, 0, 0, 0, 0, 0, 0, 0, 0, 0, 0, 0, 0, 0, 0, 0, 0, 0, 0, 0, 0, 0, 0, 0, 0] : List Int)], true⟩ :=
  TEOk.of Try.underlying24 (i := Try.t24) (by kernel_rfl) rfl rfl rfl (by kernel_rfl) (fun _ => Try.eqGuardType24) (by kernel_rfl)
noncomputable def tabQP : List (Nat × TE) := [(5, ⟨.int .u8, 1, 1, [.i .u8 (0 : Int)], false⟩), (22, ⟨.slice 5, 1, 24, [.raw (.slice none 0 0)], false⟩), (24, ⟨.array 32 5, 32, 32, [.ints .u8 (32 : Nat) ([0, 0, 0, 0, 0, 0, 0, 0, 0, 0, 0, 0, 0, 0, 0, 0, 0, 0, 0, 0, 0, 0, 0, 0, 0, 0, 0, 0, 0, 0, 0, 0] : List Int)], true⟩)]
theorem tabOkQP : TabOk Try.prog (tabOf tabQP) := (tabOf_cons teQP_5 (tabOf_cons teQP_22 (tabOf_cons teQP_24 tabOf_nil)))

def gam69 : Gam := greadV 19 [.s 1] (fun vs args => match vs, args with | [⟨_, _, _, [.ints .u8 nm b]⟩], [a0] => some ((nm = (lenOfA a0)) ∧ ((lenOfA a0) ≤ (140737488351232 : Nat)) ∧ (Byt b), [.g [.ints .u8 (32 : Nat) (B32 (modL (nbI b)))]]) | _, _ => none) gam68
theorem gam69_ok : GamOk Try.prog gam69 := greadV_ok tabOkQO Try.func19 gam68_ok Try.call19 (by
  intro vs args p xs h hv
  split at h
  · simp only [Option.some.injEq, Prod.mk.injEq] at h; obtain ⟨rfl, rfl⟩ := h; exact ⟨by rfl, fun caps w β => rdR_num _ _ _ _ hv.1 hv.2.1 hv.2.2 w β⟩
  · simp at h)

theorem frR_num_pure (n : Int) (h0 : ((0 : Int) ≤ n)) (h1 : (n < (18446744073709551616 : Int))) : PureC Try.prog 23 [.a (.i .u64 n)] [.g [.ints .u8 (32 : Nat) (B32 n)]] :=
  PureC.of_body tabOkQO Try.func23 rfl rfl fun w => frR_num n h0 h1 w

def gam70 : Gam := gpure 23 (fun args => match args with | [.o (.a (.i .u64 n))] => some (some (((0 : Int) ≤ n) ∧ (n < (18446744073709551616 : Int))), [.g [.ints .u8 (32 : Nat) (B32 n)]]) | _ => none) gam69
theorem gam70_ok : GamOk Try.prog gam70 := gpure_ok gam69_ok Try.call23 (by
  intro args vc xs h hv
  split at h
  · simp only [Option.some.injEq, Prod.mk.injEq] at h; obtain ⟨rfl, rfl⟩ := h; exact ⟨_, by rfl, frR_num_pure _ hv.1 hv.2⟩
  · simp at h)

theorem caR_num_pure (a : List Int) (h0 : (Byt a)) : PureC Try.prog 21 [.g [.ints .u8 (32 : Nat) a]] [.a (.b (decide ((BV a) < (LL))))] :=
  PureC.of_body tabOkQO Try.func21 rfl rfl fun w => caR_num a h0 w

def gam71 : Gam := gpure 21 (fun args => match args with | [.o (.g [.ints .u8 (32 : Nat) a])] => some (some ((Byt a)), [.a (.b (decide ((BV a) < (LL))))]) | _ => none) gam70
theorem gam71_ok : GamOk Try.prog gam71 := gpure_ok gam70_ok Try.call21 (by
  intro args vc xs h hv
  split at h
  · simp only [Option.some.injEq, Prod.mk.injEq] at h; obtain ⟨rfl, rfl⟩ := h; exact ⟨_, by rfl, caR_num_pure _ hv⟩
  · simp at h)

set_option maxHeartbeats 1000000 in
theorem deA_body0 (n : Nat) (nm : Nat) (b : List Int) (cap0 : Nat) (h0 : (nm = n)) (h1 : (n ≤ (140737488351232 : Nat))) (h2 : (Byt b)) (hc0 : n ≤ cap0) (hl0_0 : List.length b = nm) (hn : n ≠ 32) (w : World) (β : Env) : Body Try.prog (tabOf tabQP) Try.f15 ⟨w, [], 1, β⟩ [.o (.a (.sl 0 (0 : Nat) n cap0))] [some ⟨false, [.ints .u8 nm b]⟩] (fun ys _ => ys = [.g [.ints .u8 (32 : Nat) ([0, 0, 0, 0, 0, 0, 0, 0, 0, 0, 0, 0, 0, 0, 0, 0, 0, 0, 0, 0, 0, 0, 0, 0, 0, 0, 0, 0, 0, 0, 0, 0] : List Int)], .a (.i .i64 (3 : Int))]) :=
  Body.of_fin (Γ := gam71) (Λ := noLam) (Ψ := noPsi) (fuel := 0) (m := 17) (c := (Try.f15.body.getD .skip)) mix tabOkQP gam71_ok rfl (rs := [.cell 2 24, .tmp 3]) rfl rfl [true] []
    (vc := [((((n : Nat) : Int) != (32 : Int)) = true)]) (by kernel_rfl)
    (AllP_cons (bne_iff_ne.2 (by first | omega | decide)) (AllP_nil))

set_option maxHeartbeats 1000000 in
theorem deB_body0 (n : Nat) (nm : Nat) (b : List Int) (cap0 : Nat) (h0 : (nm = n)) (h1 : (n ≤ (140737488351232 : Nat))) (h2 : (Byt b)) (hc0 : n ≤ cap0) (hl0_0 : List.length b = nm) (hn : n = 32) (hd : ¬ BV b < LL) (w : World) (β : Env) : Body Try.prog (tabOf tabQP) Try.f15 ⟨w, [], 1, β⟩ [.o (.a (.sl 0 (0 : Nat) n cap0))] [some ⟨false, [.ints .u8 nm b]⟩] (fun ys _ => ys = [.g [.ints .u8 (32 : Nat) ([0, 0, 0, 0, 0, 0, 0, 0, 0, 0, 0, 0, 0, 0, 0, 0, 0, 0, 0, 0, 0, 0, 0, 0, 0, 0, 0, 0, 0, 0, 0, 0] : List Int)], .a (.i .i64 (21 : Int))]) :=
  Body.of_fin (Γ := gam71) (Λ := noLam) (Ψ := noPsi) (fuel := 0) (m := 17) (c := (Try.f15.body.getD .skip)) mix tabOkQP gam71_ok rfl (rs := [.cell 2 24, .tmp 3]) rfl rfl [false, true] []
    (vc := [((!(decide ((BV (sub b (0 : Nat) (32 : Nat))) < (LL)))) = true), (Byt (sub b (0 : Nat) (32 : Nat))), ((32 : Nat) ≤ nm), ((32 : Nat) ≤ n), ((((n : Nat) : Int) != (32 : Int)) = false)]) (by kernel_rfl)
    (AllP_cons (by rw [sub_all b 32 (by omega), decide_eq_false hd]; rfl) (AllP_cons (by first | exact byt_sub h2 _ _ | exact h2) (AllP_cons (by first | omega | decide) (AllP_cons (by first | omega | decide) (AllP_cons (bne_eq_false_iff_eq.2 (by first | omega | decide)) (AllP_nil))))))

def deC (b : List Int) : List Int :=
  (sub b (0 : Nat) (32 : Nat))

set_option maxHeartbeats 1000000 in
theorem deC_body0 (n : Nat) (nm : Nat) (b : List Int) (cap0 : Nat) (h0 : (nm = n)) (h1 : (n ≤ (140737488351232 : Nat))) (h2 : (Byt b)) (hc0 : n ≤ cap0) (hl0_0 : List.length b = nm) (hn : n = 32) (hd : BV b < LL) (w : World) (β : Env) : Body Try.prog (tabOf tabQP) Try.f15 ⟨w, [], 1, β⟩ [.o (.a (.sl 0 (0 : Nat) n cap0))] [some ⟨false, [.ints .u8 nm b]⟩] (fun ys _ => ys = [.g [.ints .u8 (32 : Nat) (deC b)], .a (.i .i64 (0 : Int))]) :=
  Body.of_fin (Γ := gam71) (Λ := noLam) (Ψ := noPsi) (fuel := 0) (m := 17) (c := (Try.f15.body.getD .skip)) mix tabOkQP gam71_ok rfl (rs := [.cell 2 24, .tmp 3]) rfl rfl [false, false] []
    (vc := [((!(decide ((BV (sub b (0 : Nat) (32 : Nat))) < (LL)))) = false), (Byt (sub b (0 : Nat) (32 : Nat))), ((32 : Nat) ≤ nm), ((32 : Nat) ≤ n), ((((n : Nat) : Int) != (32 : Int)) = false)]) (by kernel_rfl)
    (AllP_cons (by rw [sub_all b 32 (by omega), decide_eq_true hd]; rfl) (AllP_cons (by first | exact byt_sub h2 _ _ | exact h2) (AllP_cons (by first | omega | decide) (AllP_cons (by first | omega | decide) (AllP_cons (bne_eq_false_iff_eq.2 (by first | omega | decide)) (AllP_nil))))))

set_option maxHeartbeats 1000000 in
theorem drA_body0 (n : Nat) (nm : Nat) (b : List Int) (cap0 : Nat) (h0 : (nm = n)) (h1 : (n ≤ (140737488351232 : Nat))) (h2 : (Byt b)) (hc0 : n ≤ cap0) (hl0_0 : List.length b = nm) (hn : n ≠ 32) (w : World) (β : Env) : Body Try.prog (tabOf tabQP) Try.f16 ⟨w, [], 1, β⟩ [.o (.a (.sl 0 (0 : Nat) n cap0))] [some ⟨false, [.ints .u8 nm b]⟩] (fun ys _ => ys = [.g [.ints .u8 (32 : Nat) ([0, 0, 0, 0, 0, 0, 0, 0, 0, 0, 0, 0, 0, 0, 0, 0, 0, 0, 0, 0, 0, 0, 0, 0, 0, 0, 0, 0, 0, 0, 0, 0] : List Int)], .a (.i .i64 (3 : Int))]) :=
  Body.of_fin (Γ := gam71) (Λ := noLam) (Ψ := noPsi) (fuel := 0) (m := 17) (c := (Try.f16.body.getD .skip)) mix tabOkQP gam71_ok rfl (rs := [.cell 2 24, .tmp 3]) rfl rfl [true] []
    (vc := [((((n : Nat) : Int) != (32 : Int)) = true)]) (by kernel_rfl)
    (AllP_cons (bne_iff_ne.2 (by first | omega | decide)) (AllP_nil))

set_option maxHeartbeats 1000000 in
theorem drB_body0 (n : Nat) (nm : Nat) (b : List Int) (cap0 : Nat) (h0 : (nm = n)) (h1 : (n ≤ (140737488351232 : Nat))) (h2 : (Byt b)) (hc0 : n ≤ cap0) (hl0_0 : List.length b = nm) (hn : n = 32) (hd : ¬ BV b < LL) (w : World) (β : Env) : Body Try.prog (tabOf tabQP) Try.f16 ⟨w, [], 1, β⟩ [.o (.a (.sl 0 (0 : Nat) n cap0))] [some ⟨false, [.ints .u8 nm b]⟩] (fun ys _ => ys = [.g [.ints .u8 (32 : Nat) ([0, 0, 0, 0, 0, 0, 0, 0, 0, 0, 0, 0, 0, 0, 0, 0, 0, 0, 0, 0, 0, 0, 0, 0, 0, 0, 0, 0, 0, 0, 0, 0] : List Int)], .a (.i .i64 (21 : Int))]) :=
  Body.of_fin (Γ := gam71) (Λ := noLam) (Ψ := psiOf [(4, [.eqB 2 (⟨true, [.ints .u8 (32 : Nat) (sub b (0 : Nat) (32 : Nat))]⟩)])]) (fuel := 0) (m := 17) (c := (Try.f16.body.getD .skip)) mix tabOkQP gam71_ok rfl (rs := [.cell 2 24, .tmp 3]) rfl rfl [false, true] []
    (vc := [((!(decide ((BV (sub b (0 : Nat) (32 : Nat))) < (LL)))) = true), (Byt (sub b (0 : Nat) (32 : Nat))), ((some ⟨true, [.ints .u8 (32 : Nat) (splice ([0, 0, 0, 0, 0, 0, 0, 0, 0, 0, 0, 0, 0, 0, 0, 0, 0, 0, 0, 0, 0, 0, 0, 0, 0, 0, 0, 0, 0, 0, 0, 0] : List Int) (0 : Nat) (min n (32 : Nat)) (sub b (0 : Nat) (min n (32 : Nat))))]⟩ : Option Blk) = some ⟨true, [.ints .u8 (32 : Nat) (sub b (0 : Nat) (32 : Nat))]⟩), ((((min n (32 : Nat)) ≤ n) ∧ (((0 : Nat) + (min n (32 : Nat))) ≤ nm)) ∧ (okP (some (((0 : Nat) + (min n (32 : Nat))) ≤ (32 : Nat))))), (((0 : Int) ≤ (0 : Int)) ∧ ((0 : Int) ≤ (32 : Int))), ((((n : Nat) : Int) != (32 : Int)) = false)]) (by kernel_rfl)
    (AllP_cons (by rw [sub_all b 32 (by omega), decide_eq_false hd]; rfl) (AllP_cons (by first | exact byt_sub h2 _ _ | exact h2) (AllP_cons ((by subst hn; rw [spl32]; rfl)) (AllP_cons ⟨⟨(by first | omega | decide), (by first | omega | decide)⟩, (show (((0 : Nat) + (min n (32 : Nat))) ≤ (32 : Nat)) from (by first | omega | decide))⟩ (AllP_cons ⟨(by decide), (by decide)⟩ (AllP_cons (bne_eq_false_iff_eq.2 (by first | omega | decide)) (AllP_nil)))))))

def drC (b : List Int) : List Int :=
  (sub b (0 : Nat) (32 : Nat))

set_option maxHeartbeats 1000000 in
theorem drC_body0 (n : Nat) (nm : Nat) (b : List Int) (cap0 : Nat) (h0 : (nm = n)) (h1 : (n ≤ (140737488351232 : Nat))) (h2 : (Byt b)) (hc0 : n ≤ cap0) (hl0_0 : List.length b = nm) (hn : n = 32) (hd : BV b < LL) (w : World) (β : Env) : Body Try.prog (tabOf tabQP) Try.f16 ⟨w, [], 1, β⟩ [.o (.a (.sl 0 (0 : Nat) n cap0))] [some ⟨false, [.ints .u8 nm b]⟩] (fun ys _ => ys = [.g [.ints .u8 (32 : Nat) (drC b)], .a (.i .i64 (0 : Int))]) :=
  Body.of_fin (Γ := gam71) (Λ := noLam) (Ψ := psiOf [(4, [.eqB 2 (⟨true, [.ints .u8 (32 : Nat) (sub b (0 : Nat) (32 : Nat))]⟩)])]) (fuel := 0) (m := 17) (c := (Try.f16.body.getD .skip)) mix tabOkQP gam71_ok rfl (rs := [.cell 2 24, .tmp 3]) rfl rfl [false, false] []
    (vc := [((!(decide ((BV (sub b (0 : Nat) (32 : Nat))) < (LL)))) = false), (Byt (sub b (0 : Nat) (32 : Nat))), ((some ⟨true, [.ints .u8 (32 : Nat) (splice ([0, 0, 0, 0, 0, 0, 0, 0, 0, 0, 0, 0, 0, 0, 0, 0, 0, 0, 0, 0, 0, 0, 0, 0, 0, 0, 0, 0, 0, 0, 0, 0] : List Int) (0 : Nat) (min n (32 : Nat)) (sub b (0 : Nat) (min n (32 : Nat))))]⟩ : Option Blk) = some ⟨true, [.ints .u8 (32 : Nat) (sub b (0 : Nat) (32 : Nat))]⟩), ((((min n (32 : Nat)) ≤ n) ∧ (((0 : Nat) + (min n (32 : Nat))) ≤ nm)) ∧ (okP (some (((0 : Nat) + (min n (32 : Nat))) ≤ (32 : Nat))))), (((0 : Int) ≤ (0 : Int)) ∧ ((0 : Int) ≤ (32 : Int))), ((((n : Nat) : Int) != (32 : Int)) = false)]) (by kernel_rfl)
    (AllP_cons (by rw [sub_all b 32 (by omega), decide_eq_true hd]; rfl) (AllP_cons (by first | exact byt_sub h2 _ _ | exact h2) (AllP_cons ((by subst hn; rw [spl32]; rfl)) (AllP_cons ⟨⟨(by first | omega | decide), (by first | omega | decide)⟩, (show (((0 : Nat) + (min n (32 : Nat))) ≤ (32 : Nat)) from (by first | omega | decide))⟩ (AllP_cons ⟨(by decide), (by decide)⟩ (AllP_cons (bne_eq_false_iff_eq.2 (by first | omega | decide)) (AllP_nil)))))))

end Go.Proofs.Ytcpoldghkiiggaa.X
