/- Printed by a tool of this session. -/
import Derived.Test.YtcpoldghkiiggaaOA
import Derived.KernelRfl
namespace Go.Proofs.Ytcpoldghkiiggaa.X
open Go Go.Proofs
set_option linter.unusedVariables false
set_option maxRecDepth 100000
theorem teOB_5 : TEOk Try.prog 5 ⟨.int .u8, 1, 1, [.i .u8 (0 : Int)], false⟩ :=
  TEOk.of Try.underlying5 (i := Try.t5) (by kernel_rfl) rfl rfl rfl (by kernel_rfl) (fun h => by cases h) (by kernel_rfl)
theorem teOB_24 : TEOk Try.prog 24 ⟨.array 32 5, 32, 32, [.ints .u8 (32 : Nat) ([0, 0, 0, 0, 0, 0, 0, 0, 0, 0, 0, 0, 0, 0, 0, 0, 0, 0, 0, 0, 0, 0, 0, 0, 0, 0, 0, 0, 0, 0, 0, 0] : List Int)], true⟩ :=
  TEOk.of Try.underlying24 (i := Try.t24) (by kernel_rfl) rfl rfl rfl (by kernel_rfl) (fun _ => Try.eqGuardType24) (by kernel_rfl)
theorem teOB_111 : TEOk Try.prog 111 ⟨.array 8 109, 8, 32, [.ints .u32 (8 : Nat) ([0, 0, 0, 0, 0, 0, 0, 0] : List Int)], true⟩ :=
  TEOk.of Try.underlying111 (i := Try.t111) (by kernel_rfl) rfl rfl rfl (by kernel_rfl) (fun _ => Try.eqGuardType111) (by kernel_rfl)
noncomputable def tabOB : List (Nat × TE) := [(5, ⟨.int .u8, 1, 1, [.i .u8 (0 : Int)], false⟩), (24, ⟨.array 32 5, 32, 32, [.ints .u8 (32 : Nat) ([0, 0, 0, 0, 0, 0, 0, 0, 0, 0, 0, 0, 0, 0, 0, 0, 0, 0, 0, 0, 0, 0, 0, 0, 0, 0, 0, 0, 0, 0, 0, 0] : List Int)], true⟩), (111, ⟨.array 8 109, 8, 32, [.ints .u32 (8 : Nat) ([0, 0, 0, 0, 0, 0, 0, 0] : List Int)], true⟩)]
theorem tabOkOB : TabOk Try.prog (tabOf tabOB) := (tabOf_cons teOB_5 (tabOf_cons teOB_24 (tabOf_cons teOB_111 tabOf_nil)))

def gam28 : Gam := gcall 78 [false] [.w] (fun wk vs args => match wk, vs, args with | [⟨false, [.ints .u8 (32 : Nat) b]⟩], [], [.o (.a (.sl 0 (0 : Nat) (32 : Nat) cp))] => some (True, [.a (.sl 1 (0 : Nat) (8 : Nat) (8 : Nat))], [some ⟨false, [.ints .u8 (32 : Nat) b]⟩, some ⟨true, [.ints .u32 (8 : Nat) (digA b)]⟩]) | _, _, _ => none) gam27
theorem gam28_ok : GamOk Try.prog gam28 := gcall_ok tabOkNZ Try.func78 gam27_ok Try.call78 (by
  intro wk vs args p xs K1 h hv
  split at h
  · simp only [Option.some.injEq, Prod.mk.injEq] at h; obtain ⟨rfl, rfl, rfl⟩ := h; exact fun caps w rw β => digA_body _ _ w rw β
  · simp at h)

def valR (a : List Int) : List Int :=
  (W8 (modL (topV (sub (digA a) (0 : Nat) (8 : Nat)) (8 : Nat) (8 : Nat))))

set_option maxHeartbeats 1000000 in
theorem valR_body0 (a : List Int) (h0 : (Byt a)) (hv0 : List.length a = (32 : Nat)) (w : World) : Body Try.prog (tabOf tabOB) Try.f81 ⟨w, [], 0, noEnv⟩ (toA [.g [.ints .u8 (32 : Nat) a]]) [] (fun ys _ => ys = [.g [.ints .u32 (8 : Nat) (valR a)]]) :=
  Body.of_fin (Γ := gam28) (Λ := noLam) (Ψ := noPsi) (fuel := 0) (m := 6) (c := (Try.f81.body.getD .skip)) mix tabOkOB gam28_ok rfl (rs := [.cell 2 111]) rfl rfl [] []
    (vc := [((((8 : Nat) ≤ (8 : Nat)) ∧ True) ∧ (((8 : Nat) = (8 : Nat)) ∧ ((8 : Nat) < (70368744177664 : Nat)) ∧ (Wd8 (sub (digA a) (0 : Nat) (8 : Nat))))), ((True ∧ True) ∧ True), (((0 : Int) ≤ (0 : Int)) ∧ ((0 : Int) ≤ (32 : Int)))]) (by kernel_rfl)
    (AllP_cons ⟨⟨(by decide), trivial⟩, ⟨rfl, (by decide), (by first | exact dig_wd2 h0 | assumption)⟩⟩ (AllP_cons ⟨⟨trivial, trivial⟩, trivial⟩ (AllP_cons ⟨(by decide), (by decide)⟩ (AllP_nil))))

theorem valR_body (a : List Int) (h0 : (Byt a)) (w : World) : Body Try.prog (tabOf tabOB) Try.f81 ⟨w, [], 0, noEnv⟩ (toA [.g [.ints .u8 (32 : Nat) a]]) [] (fun ys _ => ys = [.g [.ints .u32 (8 : Nat) (valR a)]]) :=
  Body.lens (c := (Try.f81.body.getD .skip)) rfl fun h => valR_body0 a h0 (h.vals 0 _ _ _ rfl) w

end Go.Proofs.Ytcpoldghkiiggaa.X
