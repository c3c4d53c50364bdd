/- Printed by a tool of this session. -/
import Derived.Test.YtcpoldghkiiggaaNJ
import Derived.KernelRfl
namespace Go.Proofs.Ytcpoldghkiiggaa.X
open Go Go.Proofs
set_option linter.unusedVariables false
set_option maxRecDepth 100000
theorem teNK_104 : TEOk Try.prog 104 ⟨.array 4 25, 4, 32, [.ints .u64 (4 : Nat) ([0, 0, 0, 0] : List Int)], true⟩ :=
  TEOk.of Try.underlying104 (i := Try.t104) (by kernel_rfl) rfl rfl rfl (by kernel_rfl) (fun _ => Try.eqGuardType104) (by kernel_rfl)
noncomputable def tabNK : List (Nat × TE) := [(104, ⟨.array 4 25, 4, 32, [.ints .u64 (4 : Nat) ([0, 0, 0, 0] : List Int)], true⟩)]
theorem tabOkNK : TabOk Try.prog (tabOf tabNK) := (tabOf_cons teNK_104 tabOf_nil)

theorem less_pure (S : List Int) (T : List Int) (h0 : (Wds S)) (h1 : (Wds T)) : PureC Try.prog 79 [.g [.ints .u64 (4 : Nat) S], .g [.ints .u64 (4 : Nat) T]] [.g [.ints .u64 (4 : Nat) (W4 (difR (V4 S) (V4 T)))], .a (.i .u64 (lessC (V4 S) (V4 T)))] :=
  PureC.of_body tabOkNK Try.func79 rfl rfl fun w => less_can S T h0 h1 w

def gam5 : Gam := gpure 79 (fun args => match args with | [.o (.g [.ints .u64 (4 : Nat) S]), .o (.g [.ints .u64 (4 : Nat) T])] => some (some ((Wds S) ∧ (Wds T)), [.g [.ints .u64 (4 : Nat) (W4 (difR (V4 S) (V4 T)))], .a (.i .u64 (lessC (V4 S) (V4 T)))]) | _ => none) gam4
theorem gam5_ok : GamOk Try.prog gam5 := gpure_ok gam4_ok Try.call79 (by
  intro args vc xs h hv
  split at h
  · simp only [Option.some.injEq, Prod.mk.injEq] at h; obtain ⟨rfl, rfl⟩ := h; exact ⟨_, by rfl, less_pure _ _ hv.1 hv.2⟩
  · simp at h)

def lowA (S : List Int) : List Int :=
  (W4 (difR (V4 S) (V4 ([6346243789798364141, 1503914060200516822, 0, 1152921504606846976] : List Int))))

set_option maxHeartbeats 1000000 in
theorem lowA_body0 (S : List Int) (h0 : (Wds S)) (hv0 : List.length S = (4 : Nat)) (hc : lessC (V4 S) (V4 ([6346243789798364141, 1503914060200516822, 0, 1152921504606846976] : List Int)) = 0) (w : World) : Body Try.prog (tabOf tabNK) Try.f129 ⟨w, [], 0, noEnv⟩ (toA [.g [.ints .u64 (4 : Nat) S]]) [] (fun ys _ => ys = [.g [.ints .u64 (4 : Nat) (lowA S)]]) :=
  Body.of_fin (Γ := gam5) (Λ := noLam) (Ψ := noPsi) (fuel := 0) (m := 15) (c := (Try.f129.body.getD .skip)) mix tabOkNK gam5_ok rfl (rs := [.cell 2 104]) rfl rfl [true] []
    (vc := [(((lessC (V4 S) (V4 ([6346243789798364141, 1503914060200516822, 0, 1152921504606846976] : List Int))) == (0 : Int)) = true), ((Wds S) ∧ (Wds ([6346243789798364141, 1503914060200516822, 0, 1152921504606846976] : List Int)))]) (by kernel_rfl)
    (AllP_cons (beq_iff_eq.2 hc) (AllP_cons ⟨(by first | assumption | exact wds_W4 _ | exact wds_ord | (unfold Wds; decide)), (by first | assumption | exact wds_W4 _ | exact wds_ord | (unfold Wds; decide))⟩ (AllP_nil)))

set_option maxHeartbeats 1000000 in
theorem lowB_body0 (S : List Int) (h0 : (Wds S)) (hv0 : List.length S = (4 : Nat)) (hc : lessC (V4 S) (V4 ([6346243789798364141, 1503914060200516822, 0, 1152921504606846976] : List Int)) ≠ 0) (w : World) : Body Try.prog (tabOf tabNK) Try.f129 ⟨w, [], 0, noEnv⟩ (toA [.g [.ints .u64 (4 : Nat) S]]) [] (fun ys _ => ys = [.g [.ints .u64 (4 : Nat) S]]) :=
  Body.of_fin (Γ := gam5) (Λ := noLam) (Ψ := noPsi) (fuel := 0) (m := 15) (c := (Try.f129.body.getD .skip)) mix tabOkNK gam5_ok rfl (rs := [.cell 2 104]) rfl rfl [false] []
    (vc := [(((lessC (V4 S) (V4 ([6346243789798364141, 1503914060200516822, 0, 1152921504606846976] : List Int))) == (0 : Int)) = false), ((Wds S) ∧ (Wds ([6346243789798364141, 1503914060200516822, 0, 1152921504606846976] : List Int)))]) (by kernel_rfl)
    (AllP_cons (beq_eq_false_iff_ne.2 hc) (AllP_cons ⟨(by first | assumption | exact wds_W4 _ | exact wds_ord | (unfold Wds; decide)), (by first | assumption | exact wds_W4 _ | exact wds_ord | (unfold Wds; decide))⟩ (AllP_nil)))

end Go.Proofs.Ytcpoldghkiiggaa.X
