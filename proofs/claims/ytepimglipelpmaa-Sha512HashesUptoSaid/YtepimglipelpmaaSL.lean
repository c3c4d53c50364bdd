/- Printed by a tool of this session. -/
import Derived.Test.YtepimglipelpmaaSK
import Derived.KernelRfl
namespace Go.Proofs.Ytepimglipelpmaa.X
open Go Go.Proofs
set_option linter.unusedVariables false
set_option maxRecDepth 100000
theorem teSL_5 : TEOk Try.prog 5 ⟨.int .u8, 1, 1, [.i .u8 (0 : Int)], false⟩ :=
  TEOk.of Try.underlying5 (i := Try.t5) (by kernel_rfl) rfl rfl rfl (by kernel_rfl) (fun h => by cases h) (by kernel_rfl)
theorem teSL_22 : TEOk Try.prog 22 ⟨.slice 5, 1, 24, [.raw (.slice none 0 0)], false⟩ :=
  TEOk.of Try.underlying22 (i := Try.t22) (by kernel_rfl) rfl rfl rfl (by kernel_rfl) (fun h => by cases h) (by kernel_rfl)
theorem teSL_42 : TEOk Try.prog 42 ⟨.array 64 5, 64, 64, [.ints .u8 (64 : Nat) ([0, 0, 0, 0, 0, 0, 0, 0, 0, 0, 0, 0, 0, 0, 0, 0, 0, 0, 0, 0, 0, 0, 0, 0, 0, 0, 0, 0, 0, 0, 0, 0, 0, 0, 0, 0, 0, 0, 0, 0, 0, 0, 0, 0, 0, 0, 0, 0, 0, 0, 0, 0, 0, 0, 0, 0, 0, 0, 0, 0, 0, 0, 0, 0] : List Int)], true⟩ :=
  TEOk.of Try.underlying42 (i := Try.t42) (by kernel_rfl) rfl rfl rfl (by kernel_rfl) (fun _ => Try.eqGuardType42) (by kernel_rfl)
noncomputable def tabSL : List (Nat × TE) := [(5, ⟨.int .u8, 1, 1, [.i .u8 (0 : Int)], false⟩), (22, ⟨.slice 5, 1, 24, [.raw (.slice none 0 0)], false⟩), (42, ⟨.array 64 5, 64, 64, [.ints .u8 (64 : Nat) ([0, 0, 0, 0, 0, 0, 0, 0, 0, 0, 0, 0, 0, 0, 0, 0, 0, 0, 0, 0, 0, 0, 0, 0, 0, 0, 0, 0, 0, 0, 0, 0, 0, 0, 0, 0, 0, 0, 0, 0, 0, 0, 0, 0, 0, 0, 0, 0, 0, 0, 0, 0, 0, 0, 0, 0, 0, 0, 0, 0, 0, 0, 0, 0] : List Int)], true⟩)]
theorem tabOkSL : TabOk Try.prog (tabOf tabSL) := (tabOf_cons teSL_5 (tabOf_cons teSL_22 (tabOf_cons teSL_42 tabOf_nil)))

set_option maxHeartbeats 1000000 in
theorem alive_body0 (w : World) : Body Try.prog (tabOf tabSL) Try.f18 ⟨w, [], 0, noEnv⟩ (toA []) [] (fun ys _ => ys = [.a (.b true)]) :=
  Body.of_fin (Γ := gam22) (Λ := noLam) (Ψ := noPsi) (fuel := 0) (m := 28) (c := (Try.f18.body.getD .skip)) mix tabOkSL gam22_ok rfl (rs := [.tmp 0]) rfl rfl [true, true, true, true, true, true, true, true, true, true, true, true, true, true, true, true] [.eqS 0 (.o (.a (.b true)))]
    (vc := [((.o (.a (.b ((List.getD (sub (join1 (3 : Nat) ([97, 98, 99] : List Int)) (63 : Nat) (1 : Nat)) (0 : Nat) 0) == (159 : Int)))) : AV) = .o (.a (.b true))), (((List.getD (sub (join1 (3 : Nat) ([97, 98, 99] : List Int)) (7 : Nat) (1 : Nat)) (0 : Nat) 0) == (186 : Int)) = true), (((List.getD (sub (join1 (3 : Nat) ([97, 98, 99] : List Int)) (7 : Nat) (1 : Nat)) (0 : Nat) 0) == (186 : Int)) = true), (((List.getD (sub (join1 (3 : Nat) ([97, 98, 99] : List Int)) (7 : Nat) (1 : Nat)) (0 : Nat) 0) == (186 : Int)) = true), (((List.getD (sub (join1 (3 : Nat) ([97, 98, 99] : List Int)) (7 : Nat) (1 : Nat)) (0 : Nat) 0) == (186 : Int)) = true), (((List.getD (sub (join1 (3 : Nat) ([97, 98, 99] : List Int)) (2 : Nat) (1 : Nat)) (0 : Nat) 0) == (53 : Int)) = true), (((List.getD (sub (join1 (3 : Nat) ([97, 98, 99] : List Int)) (2 : Nat) (1 : Nat)) (0 : Nat) 0) == (53 : Int)) = true), (((List.getD (sub (join1 (3 : Nat) ([97, 98, 99] : List Int)) (2 : Nat) (1 : Nat)) (0 : Nat) 0) == (53 : Int)) = true), (((List.getD (sub (join1 (3 : Nat) ([97, 98, 99] : List Int)) (2 : Nat) (1 : Nat)) (0 : Nat) 0) == (53 : Int)) = true), (((List.getD (sub (join1 (3 : Nat) ([97, 98, 99] : List Int)) (1 : Nat) (1 : Nat)) (0 : Nat) 0) == (175 : Int)) = true), (((List.getD (sub (join1 (3 : Nat) ([97, 98, 99] : List Int)) (1 : Nat) (1 : Nat)) (0 : Nat) 0) == (175 : Int)) = true), (((List.getD (sub (join1 (3 : Nat) ([97, 98, 99] : List Int)) (1 : Nat) (1 : Nat)) (0 : Nat) 0) == (175 : Int)) = true), (((List.getD (sub (join1 (3 : Nat) ([97, 98, 99] : List Int)) (1 : Nat) (1 : Nat)) (0 : Nat) 0) == (175 : Int)) = true), (((List.getD (sub (join1 (3 : Nat) ([97, 98, 99] : List Int)) (0 : Nat) (1 : Nat)) (0 : Nat) 0) == (221 : Int)) = true), (((List.getD (sub (join1 (3 : Nat) ([97, 98, 99] : List Int)) (0 : Nat) (1 : Nat)) (0 : Nat) 0) == (221 : Int)) = true), (((List.getD (sub (join1 (3 : Nat) ([97, 98, 99] : List Int)) (0 : Nat) (1 : Nat)) (0 : Nat) 0) == (221 : Int)) = true), (((List.getD (sub (join1 (3 : Nat) ([97, 98, 99] : List Int)) (0 : Nat) (1 : Nat)) (0 : Nat) 0) == (221 : Int)) = true), ((((3 : Nat) ≤ (3 : Nat)) ∧ True) ∧ (((3 : Nat) = (3 : Nat)) ∧ ((3 : Nat) < (140737488355328 : Nat)))), ((0 : Nat) < (3 : Nat))]) (by kernel_rfl)
    (AllP_cons ((congrArg (fun z => AV.o (.a (.b z))) (by rw [abc_digest]; rfl))) (AllP_cons (beq_iff_eq.2 (by rw [abc_digest]; rfl)) (AllP_cons (beq_iff_eq.2 (by rw [abc_digest]; rfl)) (AllP_cons (beq_iff_eq.2 (by rw [abc_digest]; rfl)) (AllP_cons (beq_iff_eq.2 (by rw [abc_digest]; rfl)) (AllP_cons (beq_iff_eq.2 (by rw [abc_digest]; rfl)) (AllP_cons (beq_iff_eq.2 (by rw [abc_digest]; rfl)) (AllP_cons (beq_iff_eq.2 (by rw [abc_digest]; rfl)) (AllP_cons (beq_iff_eq.2 (by rw [abc_digest]; rfl)) (AllP_cons (beq_iff_eq.2 (by rw [abc_digest]; rfl)) (AllP_cons (beq_iff_eq.2 (by rw [abc_digest]; rfl)) (AllP_cons (beq_iff_eq.2 (by rw [abc_digest]; rfl)) (AllP_cons (beq_iff_eq.2 (by rw [abc_digest]; rfl)) (AllP_cons (beq_iff_eq.2 (by rw [abc_digest]; rfl)) (AllP_cons (beq_iff_eq.2 (by rw [abc_digest]; rfl)) (AllP_cons (beq_iff_eq.2 (by rw [abc_digest]; rfl)) (AllP_cons (beq_iff_eq.2 (by rw [abc_digest]; rfl)) (AllP_cons ⟨⟨(by decide), trivial⟩, ⟨rfl, (by decide)⟩⟩ (AllP_cons (by decide) (AllP_nil))))))))))))))))))))

theorem alive_body (w : World) : Body Try.prog (tabOf tabSL) Try.f18 ⟨w, [], 0, noEnv⟩ (toA []) [] (fun ys _ => ys = [.a (.b true)]) :=
  Body.lens (c := (Try.f18.body.getD .skip)) rfl fun h => alive_body0  w

theorem alive_pure : PureC Try.prog 18 [] [.a (.b true)] :=
  PureC.of_body tabOkSL Try.func18 rfl rfl fun w => alive_body w

def gam23 : Gam := gpure 18 (fun args => match args with | [] => some (none, [.a (.b true)]) | _ => none) gam22
theorem gam23_ok : GamOk Try.prog gam23 := gpure_ok gam22_ok Try.call18 (by
  intro args vc xs h hv
  split at h
  · simp only [Option.some.injEq, Prod.mk.injEq] at h; obtain ⟨rfl, rfl⟩ := h; exact ⟨_, by rfl, alive_pure⟩
  · simp at h)

end Go.Proofs.Ytepimglipelpmaa.X
