/- Printed by a tool of this session. -/
import Derived.Test.YtcpoldghkiiggaaND
import Derived.KernelRfl
namespace Go.Proofs.Ytcpoldghkiiggaa.X
open Go Go.Proofs
set_option linter.unusedVariables false
set_option maxRecDepth 100000
noncomputable def tabNE : List (Nat × TE) := []
theorem tabOkNE : TabOk Try.prog (tabOf tabNE) := tabOf_nil

def mul64 (x : Int) (y : Int) : Int :=
  let z0 : Int := (IntKind.u64.wrap ((IntKind.u64.wrap ((shr .u64 x (32 : Int)) * (bits2 .and .u64 y (4294967295 : Int)))) + (shr .u64 (IntKind.u64.wrap ((bits2 .and .u64 x (4294967295 : Int)) * (bits2 .and .u64 y (4294967295 : Int)))) (32 : Int))))
  (IntKind.u64.wrap ((IntKind.u64.wrap ((IntKind.u64.wrap ((shr .u64 x (32 : Int)) * (shr .u64 y (32 : Int)))) + (shr .u64 z0 (32 : Int)))) + (shr .u64 (IntKind.u64.wrap ((bits2 .and .u64 z0 (4294967295 : Int)) + (IntKind.u64.wrap ((bits2 .and .u64 x (4294967295 : Int)) * (shr .u64 y (32 : Int)))))) (32 : Int))))

def mul64_1 (x : Int) (y : Int) : Int :=
  (IntKind.u64.wrap (x * y))

set_option maxHeartbeats 1000000 in
theorem mul64_body0 (x : Int) (y : Int) (w : World) : Body Try.prog (tabOf tabNE) Try.f152 ⟨w, [], 0, noEnv⟩ (toA [.a (.i .u64 x), .a (.i .u64 y)]) [] (fun ys _ => ys = [.a (.i .u64 (mul64 x y)), .a (.i .u64 (mul64_1 x y))]) :=
  Body.of_fin (Γ := gbits) (Λ := noLam) (Ψ := noPsi) (fuel := 0) (m := 51) (c := (Try.f152.body.getD .skip)) mix tabOkNE gbits_ok rfl (rs := [.tmp 4, .tmp 5]) rfl rfl [] []
    (vc := [((0 : Int) ≤ (32 : Int)), ((0 : Int) ≤ (32 : Int)), ((0 : Int) ≤ (32 : Int)), ((0 : Int) ≤ (32 : Int)), ((0 : Int) ≤ (32 : Int))]) (by kernel_rfl)
    (AllP_cons (by decide) (AllP_cons (by decide) (AllP_cons (by decide) (AllP_cons (by decide) (AllP_cons (by decide) (AllP_nil))))))

theorem mul64_body (x : Int) (y : Int) (w : World) : Body Try.prog (tabOf tabNE) Try.f152 ⟨w, [], 0, noEnv⟩ (toA [.a (.i .u64 x), .a (.i .u64 y)]) [] (fun ys _ => ys = [.a (.i .u64 (mul64 x y)), .a (.i .u64 (mul64_1 x y))]) :=
  Body.lens (c := (Try.f152.body.getD .skip)) rfl fun h => mul64_body0 x y  w

theorem mul64_pure (x : Int) (y : Int) : PureC Try.prog 152 [.a (.i .u64 x), .a (.i .u64 y)] [.a (.i .u64 (mul64 x y)), .a (.i .u64 (mul64_1 x y))] :=
  PureC.of_body tabOkNE Try.func152 rfl rfl fun w => mul64_body x y w

def gam1 : Gam := gpure 152 (fun args => match args with | [.o (.a (.i .u64 x)), .o (.a (.i .u64 y))] => some (none, [.a (.i .u64 (mul64 x y)), .a (.i .u64 (mul64_1 x y))]) | _ => none) gbits
theorem gam1_ok : GamOk Try.prog gam1 := gpure_ok gbits_ok Try.call152 (by
  intro args vc xs h hv
  split at h
  · simp only [Option.some.injEq, Prod.mk.injEq] at h; obtain ⟨rfl, rfl⟩ := h; exact ⟨_, by rfl, mul64_pure _ _⟩
  · simp at h)

end Go.Proofs.Ytcpoldghkiiggaa.X
