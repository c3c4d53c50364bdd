/- Printed by a tool of this session. -/
import Derived.Test.YtepimglipelpmaaTO
import Derived.KernelRfl
namespace Go.Proofs.Ytepimglipelpmaa.X
open Go Go.Proofs
set_option linter.unusedVariables false
set_option maxRecDepth 100000
theorem teTP_102 : TEOk Try.prog 102 ⟨Try.t101.desc, 11, 104, [.ints .u64 (8 : Nat) ([0, 0, 0, 0, 0, 0, 0, 0] : List Int), .raw (.slice none 0 0), .i .u64 (0 : Int), .raw (.pointer none)], false⟩ :=
  TEOk.of Try.underlying102 (i := Try.t102) (by kernel_rfl) rfl rfl rfl (by kernel_rfl) (fun h => by cases h) (by kernel_rfl)
noncomputable def tabTP : List (Nat × TE) := [(102, ⟨Try.t101.desc, 11, 104, [.ints .u64 (8 : Nat) ([0, 0, 0, 0, 0, 0, 0, 0] : List Int), .raw (.slice none 0 0), .i .u64 (0 : Int), .raw (.pointer none)], false⟩)]
theorem tabOkTP : TabOk Try.prog (tabOf tabTP) := (tabOf_cons teTP_102 tabOf_nil)

set_option maxHeartbeats 1000000 in
theorem reset_body0 (S : List Int) (tl : Nat) (N : Int) (L : List Int) (C : List Int) (hl0_0 : List.length S = (8 : Nat)) (hl1_0 : List.length L = tl) (hl2_0 : List.length C = (80 : Nat)) (w : World) (rw : List Nat) (β : Env) : Body Try.prog (tabOf tabTP) Try.f38 ⟨w, rw, 3, β⟩ [.o (.a (.p 0 0))] [some ⟨true, [.ints .u64 (8 : Nat) S, .rs 1 (0 : Nat) tl 1, .i .u64 N, .p 2 0]⟩, some ⟨true, [.ints .u8 tl L]⟩, some ⟨false, [.ints .u64 (80 : Nat) C]⟩] (fun ys K' => ys = [] ∧ K' = [some ⟨true, [.ints .u64 (8 : Nat) ([7640891576956012808, 13503953896175478587, 4354685564936845355, 11912009170470909681, 5840696475078001361, 11170449401992604703, 2270897969802886507, 6620516959819538809] : List Int), .rs 4 (0 : Nat) (0 : Nat) 1, .i .u64 (0 : Int), .p 3 0]⟩, some ⟨true, [.ints .u8 tl L]⟩, some ⟨false, [.ints .u64 (80 : Nat) C]⟩, some ⟨true, [.ints .u64 (80 : Nat) (konst)]⟩, some ⟨true, [.ints .u8 (0 : Nat) ([] : List Int)]⟩]) :=
  Body.of_finK (Γ := gam46) (Λ := noLam) (Ψ := noPsi) (fuel := 0) (m := 9) (c := (Try.f38.body.getD .skip)) mix tabOkTP gam46_ok rfl (rs := []) rfl rfl [true] [.swap 4 5] 5
    (vc := [(True ∧ True), (true = true), ((True ∧ True) ∧ (tl = tl))]) (by kernel_rfl)
    (AllP_cons ⟨trivial, trivial⟩ (AllP_cons rfl (AllP_cons ⟨⟨trivial, trivial⟩, rfl⟩ (AllP_nil))))

theorem reset_body (S : List Int) (tl : Nat) (N : Int) (L : List Int) (C : List Int) (w : World) (rw : List Nat) (β : Env) : Body Try.prog (tabOf tabTP) Try.f38 ⟨w, rw, 3, β⟩ [.o (.a (.p 0 0))] [some ⟨true, [.ints .u64 (8 : Nat) S, .rs 1 (0 : Nat) tl 1, .i .u64 N, .p 2 0]⟩, some ⟨true, [.ints .u8 tl L]⟩, some ⟨false, [.ints .u64 (80 : Nat) C]⟩] (fun ys K' => ys = [] ∧ K' = [some ⟨true, [.ints .u64 (8 : Nat) ([7640891576956012808, 13503953896175478587, 4354685564936845355, 11912009170470909681, 5840696475078001361, 11170449401992604703, 2270897969802886507, 6620516959819538809] : List Int), .rs 4 (0 : Nat) (0 : Nat) 1, .i .u64 (0 : Int), .p 3 0]⟩, some ⟨true, [.ints .u8 tl L]⟩, some ⟨false, [.ints .u64 (80 : Nat) C]⟩, some ⟨true, [.ints .u64 (80 : Nat) (konst)]⟩, some ⟨true, [.ints .u8 (0 : Nat) ([] : List Int)]⟩]) :=
  Body.lens (c := (Try.f38.body.getD .skip)) rfl fun h => reset_body0 S tl N L C (h.lens 0 _ .u64 (8 : Nat) S rfl (by simp)) (h.lens 1 _ .u8 tl L rfl (by simp)) (h.lens 2 _ .u64 (80 : Nat) C rfl (by simp)) w rw β

def gam47 : Gam := gcall 38 [true, true, false] [.w] (fun wk vs args => match wk, vs, args with | [⟨true, [.ints .u64 (8 : Nat) S, .rs 1 (0 : Nat) tl 1, .i .u64 N, .p 2 0]⟩, ⟨true, [.ints .u8 tl_1 L]⟩, ⟨false, [.ints .u64 (80 : Nat) C]⟩], [], [.o (.a (.p 0 0))] => some ((tl_1 = tl), [], [some ⟨true, [.ints .u64 (8 : Nat) ([7640891576956012808, 13503953896175478587, 4354685564936845355, 11912009170470909681, 5840696475078001361, 11170449401992604703, 2270897969802886507, 6620516959819538809] : List Int), .rs 4 (0 : Nat) (0 : Nat) 1, .i .u64 (0 : Int), .p 3 0]⟩, some ⟨true, [.ints .u8 tl L]⟩, some ⟨false, [.ints .u64 (80 : Nat) C]⟩, some ⟨true, [.ints .u64 (80 : Nat) (konst)]⟩, some ⟨true, [.ints .u8 (0 : Nat) ([] : List Int)]⟩]) | _, _, _ => none) gam46
theorem gam47_ok : GamOk Try.prog gam47 := gcall_ok tabOkTP Try.func38 gam46_ok Try.call38 (by
  intro wk vs args p xs K1 h hv
  split at h
  · simp only [Option.some.injEq, Prod.mk.injEq] at h; obtain ⟨rfl, rfl, rfl⟩ := h; have g0 := hv; subst g0; exact fun caps w rw β => reset_body _ _ _ _ _ w rw β
  · simp at h)

end Go.Proofs.Ytepimglipelpmaa.X
