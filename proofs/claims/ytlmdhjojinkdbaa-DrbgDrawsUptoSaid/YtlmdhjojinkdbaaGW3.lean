/- Texts of this session, put together (part 3), less what nothing uses. -/
import Derived.Test.YtlmdhjojinkdbaaGW2
import Derived.KernelRfl
/- Printed by a tool of this session. -/
namespace Go.Proofs.Ytlmdhjojinkdbaa.X
open Go Go.Proofs
set_option linter.unusedVariables false
set_option linter.unusedSimpArgs false
set_option maxRecDepth 100000
theorem teSC_3 : TEOk Try.prog 3 ⟨.int .i64, 1, 8, [.i .i64 (0 : Int)], false⟩ :=
  TEOk.of Try.underlying3 (i := Try.t3) (by kernel_rfl) rfl rfl rfl (by kernel_rfl) (fun h => by cases h) (by kernel_rfl)
theorem teSC_5 : TEOk Try.prog 5 ⟨.int .u8, 1, 1, [.i .u8 (0 : Int)], false⟩ :=
  TEOk.of Try.underlying5 (i := Try.t5) (by kernel_rfl) rfl rfl rfl (by kernel_rfl) (fun h => by cases h) (by kernel_rfl)
theorem teSC_22 : TEOk Try.prog 22 ⟨.slice 5, 1, 24, [.raw (.slice none 0 0)], false⟩ :=
  TEOk.of Try.underlying22 (i := Try.t22) (by kernel_rfl) rfl rfl rfl (by kernel_rfl) (fun h => by cases h) (by kernel_rfl)
theorem teSC_144 : TEOk Try.prog 144 ⟨.pointer 226, 1, 8, [.raw (.pointer none)], false⟩ :=
  TEOk.of Try.underlying144 (i := Try.t144) (by kernel_rfl) rfl rfl rfl (by kernel_rfl) (fun h => by cases h) (by kernel_rfl)
theorem teSC_147 : TEOk Try.prog 147 ⟨.int .u64, 1, 8, [.i .u64 (0 : Int)], false⟩ :=
  TEOk.of Try.underlying147 (i := Try.t147) (by kernel_rfl) rfl rfl rfl (by kernel_rfl) (fun h => by cases h) (by kernel_rfl)
theorem teSC_148 : TEOk Try.prog 148 ⟨.array 8 147, 8, 64, [.ints .u64 (8 : Nat) ([0, 0, 0, 0, 0, 0, 0, 0] : List Int)], true⟩ :=
  TEOk.of Try.underlying148 (i := Try.t148) (by kernel_rfl) rfl rfl rfl (by kernel_rfl) (fun _ => Try.eqGuardType148) (by kernel_rfl)
theorem teSC_222 : TEOk Try.prog 222 ⟨.array 80 147, 80, 640, [.ints .u64 (80 : Nat) (List.replicate (80 : Nat) (0 : Int))], true⟩ :=
  TEOk.of Try.underlying222 (i := Try.t222) (by kernel_rfl) rfl rfl rfl (by kernel_rfl) (fun _ => Try.eqGuardType222) (by kernel_rfl)
theorem teSC_224 : TEOk Try.prog 224 ⟨.pointer 222, 1, 8, [.raw (.pointer none)], false⟩ :=
  TEOk.of Try.underlying224 (i := Try.t224) (by kernel_rfl) rfl rfl rfl (by kernel_rfl) (fun h => by cases h) (by kernel_rfl)
theorem teSC_226 : TEOk Try.prog 226 ⟨Try.t225.desc, 11, 104, [.ints .u64 (8 : Nat) ([0, 0, 0, 0, 0, 0, 0, 0] : List Int), .raw (.slice none 0 0), .i .u64 (0 : Int), .raw (.pointer none)], false⟩ :=
  TEOk.of Try.underlying226 (i := Try.t226) (by kernel_rfl) rfl rfl rfl (by kernel_rfl) (fun h => by cases h) (by kernel_rfl)
noncomputable def tabSC : List (Nat × TE) := [(3, ⟨.int .i64, 1, 8, [.i .i64 (0 : Int)], false⟩), (5, ⟨.int .u8, 1, 1, [.i .u8 (0 : Int)], false⟩), (22, ⟨.slice 5, 1, 24, [nlA], false⟩), (144, ⟨.pointer 226, 1, 8, [.raw (.pointer none)], false⟩), (147, ⟨.int .u64, 1, 8, [.i .u64 (0 : Int)], false⟩), (148, ⟨.array 8 147, 8, 64, [.ints .u64 8 ([0, 0, 0, 0, 0, 0, 0, 0] : List Int)], true⟩), (222, ⟨.array 80 147, 80, 640, [.ints .u64 80 (List.replicate 80 (0 : Int))], true⟩), (224, ⟨.pointer 222, 1, 8, [.raw (.pointer none)], false⟩), (226, ⟨Try.t225.desc, 11, 104, [.ints .u64 8 ([0, 0, 0, 0, 0, 0, 0, 0] : List Int), nlA, .i .u64 (0 : Int), .raw (.pointer none)], false⟩)]
theorem tabOkSC : TabOk Try.prog (tabOf tabSC) := (tabOf_cons teSC_3 (tabOf_cons teSC_5 (tabOf_cons teSC_22 (tabOf_cons teSC_144 (tabOf_cons teSC_147 (tabOf_cons teSC_148 (tabOf_cons teSC_222 (tabOf_cons teSC_224 (tabOf_cons teSC_226 tabOf_nil)))))))))

def pad (n : Int) : Nat :=
  ((Int.toNat (IntKind.u64.wrap ((1 : Int) + (Int.tmod (IntKind.u64.wrap ((239 : Int) - (Int.tmod n (128 : Int)))) (128 : Int))))) + (16 : Nat))

def pad_1 (n : Int) : List Int :=
  let z0 : Nat := (Int.toNat (IntKind.u64.wrap ((1 : Int) + (Int.tmod (IntKind.u64.wrap ((239 : Int) - (Int.tmod n (128 : Int)))) (128 : Int)))))
  (splice (splice (splice (splice (splice (splice (splice (splice (splice (List.set (List.replicate 256 (0 : Int)) 0 (128 : Int)) (0 + z0) 8 (List.replicate 8 (0 : Int))) (0 + (z0 + 8)) 1 ([(IntKind.u8.wrap (shr .u64 (IntKind.u64.wrap (n * (8 : Int))) (56 : Int)))] : List Int)) (0 + (z0 + 9)) 1 ([(IntKind.u8.wrap (shr .u64 (IntKind.u64.wrap (n * (8 : Int))) (48 : Int)))] : List Int)) (0 + (z0 + 10)) 1 ([(IntKind.u8.wrap (shr .u64 (IntKind.u64.wrap (n * (8 : Int))) (40 : Int)))] : List Int)) (0 + (z0 + 11)) 1 ([(IntKind.u8.wrap (shr .u64 (IntKind.u64.wrap (n * (8 : Int))) (32 : Int)))] : List Int)) (0 + (z0 + 12)) 1 ([(IntKind.u8.wrap (shr .u64 (IntKind.u64.wrap (n * (8 : Int))) (24 : Int)))] : List Int)) (0 + (z0 + 13)) 1 ([(IntKind.u8.wrap (shr .u64 (IntKind.u64.wrap (n * (8 : Int))) (16 : Int)))] : List Int)) (0 + (z0 + 14)) 1 ([(IntKind.u8.wrap (shr .u64 (IntKind.u64.wrap (n * (8 : Int))) (8 : Int)))] : List Int)) (0 + (z0 + 15)) 1 ([(IntKind.u8.wrap (shr .u64 (IntKind.u64.wrap (n * (8 : Int))) (0 : Int)))] : List Int))

set_option maxHeartbeats 1000000 in
theorem pad_body0 (n : Int) (w : World) (rw : List Nat) (β : Env) : Body Try.prog (tabOf tabSC) Try.f121 ⟨w, rw, 0, β⟩ [.o (.a (.i .u64 n))] [] (fun ys K' => ys = [.a (.sl 0 0 (pad n) (256 : Nat))] ∧ K' = [some ⟨true, [.ints .u8 (256 : Nat) (pad_1 n)]⟩]) :=
  Body.of_finK (Γ := gam9) (Λ := noLam) (Ψ := noPsi) (fuel := 9) (m := 29) (c := (Try.f121.body.getD .skip)) mix tabOkSC gam9_ok rfl (rs := [.tmp 2]) rfl rfl [true, true, true, true, true, true, true, true, true, true, true, true, true, true, true, true, true, false] [] 1
    (vc := [(false = false), (((1 ≤ 1) ∧ (1 ≤ 1)) ∧ (okP (some (((0 + ((Int.toNat (IntKind.u64.wrap ((1 : Int) + (Int.tmod (IntKind.u64.wrap ((239 : Int) - (Int.tmod n (128 : Int)))) (128 : Int))))) + 15)) + 1) ≤ 256))) ∧ (((Int.toNat (IntKind.u64.wrap ((1 : Int) + (Int.tmod (IntKind.u64.wrap ((239 : Int) - (Int.tmod n (128 : Int)))) (128 : Int))))) + 16) ≤ 256)), (cZ 0), cT, (((1 ≤ 1) ∧ (1 ≤ 1)) ∧ (okP (some (((0 + ((Int.toNat (IntKind.u64.wrap ((1 : Int) + (Int.tmod (IntKind.u64.wrap ((239 : Int) - (Int.tmod n (128 : Int)))) (128 : Int))))) + 14)) + 1) ≤ 256))) ∧ (((Int.toNat (IntKind.u64.wrap ((1 : Int) + (Int.tmod (IntKind.u64.wrap ((239 : Int) - (Int.tmod n (128 : Int)))) (128 : Int))))) + 15) ≤ 256)), (cZ 8), cT, (((1 ≤ 1) ∧ (1 ≤ 1)) ∧ (okP (some (((0 + ((Int.toNat (IntKind.u64.wrap ((1 : Int) + (Int.tmod (IntKind.u64.wrap ((239 : Int) - (Int.tmod n (128 : Int)))) (128 : Int))))) + 13)) + 1) ≤ 256))) ∧ (((Int.toNat (IntKind.u64.wrap ((1 : Int) + (Int.tmod (IntKind.u64.wrap ((239 : Int) - (Int.tmod n (128 : Int)))) (128 : Int))))) + 14) ≤ 256)), (cZ 16), cT, (((1 ≤ 1) ∧ (1 ≤ 1)) ∧ (okP (some (((0 + ((Int.toNat (IntKind.u64.wrap ((1 : Int) + (Int.tmod (IntKind.u64.wrap ((239 : Int) - (Int.tmod n (128 : Int)))) (128 : Int))))) + 12)) + 1) ≤ 256))) ∧ (((Int.toNat (IntKind.u64.wrap ((1 : Int) + (Int.tmod (IntKind.u64.wrap ((239 : Int) - (Int.tmod n (128 : Int)))) (128 : Int))))) + 13) ≤ 256)), (cZ 24), cT, (((1 ≤ 1) ∧ (1 ≤ 1)) ∧ (okP (some (((0 + ((Int.toNat (IntKind.u64.wrap ((1 : Int) + (Int.tmod (IntKind.u64.wrap ((239 : Int) - (Int.tmod n (128 : Int)))) (128 : Int))))) + 11)) + 1) ≤ 256))) ∧ (((Int.toNat (IntKind.u64.wrap ((1 : Int) + (Int.tmod (IntKind.u64.wrap ((239 : Int) - (Int.tmod n (128 : Int)))) (128 : Int))))) + 12) ≤ 256)), (cZ 32), cT, (((1 ≤ 1) ∧ (1 ≤ 1)) ∧ (okP (some (((0 + ((Int.toNat (IntKind.u64.wrap ((1 : Int) + (Int.tmod (IntKind.u64.wrap ((239 : Int) - (Int.tmod n (128 : Int)))) (128 : Int))))) + 10)) + 1) ≤ 256))) ∧ (((Int.toNat (IntKind.u64.wrap ((1 : Int) + (Int.tmod (IntKind.u64.wrap ((239 : Int) - (Int.tmod n (128 : Int)))) (128 : Int))))) + 11) ≤ 256)), (cZ 40), cT, (((1 ≤ 1) ∧ (1 ≤ 1)) ∧ (okP (some (((0 + ((Int.toNat (IntKind.u64.wrap ((1 : Int) + (Int.tmod (IntKind.u64.wrap ((239 : Int) - (Int.tmod n (128 : Int)))) (128 : Int))))) + 9)) + 1) ≤ 256))) ∧ (((Int.toNat (IntKind.u64.wrap ((1 : Int) + (Int.tmod (IntKind.u64.wrap ((239 : Int) - (Int.tmod n (128 : Int)))) (128 : Int))))) + 10) ≤ 256)), (cZ 48), cT, (((1 ≤ 1) ∧ (1 ≤ 1)) ∧ (okP (some (((0 + ((Int.toNat (IntKind.u64.wrap ((1 : Int) + (Int.tmod (IntKind.u64.wrap ((239 : Int) - (Int.tmod n (128 : Int)))) (128 : Int))))) + 8)) + 1) ≤ 256))) ∧ (((Int.toNat (IntKind.u64.wrap ((1 : Int) + (Int.tmod (IntKind.u64.wrap ((239 : Int) - (Int.tmod n (128 : Int)))) (128 : Int))))) + 9) ≤ 256)), (cZ 56), cT, (((cZ 8) ∧ ((8 : Int) ≤ (281474976710656 : Int))) ∧ (okP (some (((0 + (Int.toNat (IntKind.u64.wrap ((1 : Int) + (Int.tmod (IntKind.u64.wrap ((239 : Int) - (Int.tmod n (128 : Int)))) (128 : Int)))))) + 8) ≤ 256))) ∧ (((Int.toNat (IntKind.u64.wrap ((1 : Int) + (Int.tmod (IntKind.u64.wrap ((239 : Int) - (Int.tmod n (128 : Int)))) (128 : Int))))) + 8) ≤ 256)), (cN 0 256), ((cZ 0) ∧ ((0 : Int) < (((Int.toNat (IntKind.u64.wrap ((1 : Int) + (Int.tmod (IntKind.u64.wrap ((239 : Int) - (Int.tmod n (128 : Int)))) (128 : Int))))) : Nat) : Int))), (((0 : Int) ≤ (IntKind.u64.wrap ((1 : Int) + (Int.tmod (IntKind.u64.wrap ((239 : Int) - (Int.tmod n (128 : Int)))) (128 : Int))))) ∧ ((IntKind.u64.wrap ((1 : Int) + (Int.tmod (IntKind.u64.wrap ((239 : Int) - (Int.tmod n (128 : Int)))) (128 : Int)))) ≤ (256 : Int)) ∧ ((256 : Int) ≤ (281474976710656 : Int))), ((128 : Int) ≠ 0), ((128 : Int) ≠ 0)]) (by kernel_rfl)
    (aC rfl (aC ⟨(dd rfl), (show (((0 + ((Int.toNat (IntKind.u64.wrap ((1 : Int) + (Int.tmod (IntKind.u64.wrap ((239 : Int) - (Int.tmod n (128 : Int)))) (128 : Int))))) + 15)) + 1) ≤ 256) from (by have := padE_ok n; unfold padE at this; first | omega | (simp (disch := omega) only [wrapI]; omega))), (by have := padE_ok n; unfold padE at this; first | omega | (simp (disch := omega) only [wrapI]; omega))⟩ (aC (dd rfl) (aC rfl (aC ⟨(dd rfl), (show (((0 + ((Int.toNat (IntKind.u64.wrap ((1 : Int) + (Int.tmod (IntKind.u64.wrap ((239 : Int) - (Int.tmod n (128 : Int)))) (128 : Int))))) + 14)) + 1) ≤ 256) from (by have := padE_ok n; unfold padE at this; first | omega | (simp (disch := omega) only [wrapI]; omega))), (by have := padE_ok n; unfold padE at this; first | omega | (simp (disch := omega) only [wrapI]; omega))⟩ (aC (dd rfl) (aC rfl (aC ⟨(dd rfl), (show (((0 + ((Int.toNat (IntKind.u64.wrap ((1 : Int) + (Int.tmod (IntKind.u64.wrap ((239 : Int) - (Int.tmod n (128 : Int)))) (128 : Int))))) + 13)) + 1) ≤ 256) from (by have := padE_ok n; unfold padE at this; first | omega | (simp (disch := omega) only [wrapI]; omega))), (by have := padE_ok n; unfold padE at this; first | omega | (simp (disch := omega) only [wrapI]; omega))⟩ (aC (dd rfl) (aC rfl (aC ⟨(dd rfl), (show (((0 + ((Int.toNat (IntKind.u64.wrap ((1 : Int) + (Int.tmod (IntKind.u64.wrap ((239 : Int) - (Int.tmod n (128 : Int)))) (128 : Int))))) + 12)) + 1) ≤ 256) from (by have := padE_ok n; unfold padE at this; first | omega | (simp (disch := omega) only [wrapI]; omega))), (by have := padE_ok n; unfold padE at this; first | omega | (simp (disch := omega) only [wrapI]; omega))⟩ (aC (dd rfl) (aC rfl (aC ⟨(dd rfl), (show (((0 + ((Int.toNat (IntKind.u64.wrap ((1 : Int) + (Int.tmod (IntKind.u64.wrap ((239 : Int) - (Int.tmod n (128 : Int)))) (128 : Int))))) + 11)) + 1) ≤ 256) from (by have := padE_ok n; unfold padE at this; first | omega | (simp (disch := omega) only [wrapI]; omega))), (by have := padE_ok n; unfold padE at this; first | omega | (simp (disch := omega) only [wrapI]; omega))⟩ (aC (dd rfl) (aC rfl (aC ⟨(dd rfl), (show (((0 + ((Int.toNat (IntKind.u64.wrap ((1 : Int) + (Int.tmod (IntKind.u64.wrap ((239 : Int) - (Int.tmod n (128 : Int)))) (128 : Int))))) + 10)) + 1) ≤ 256) from (by have := padE_ok n; unfold padE at this; first | omega | (simp (disch := omega) only [wrapI]; omega))), (by have := padE_ok n; unfold padE at this; first | omega | (simp (disch := omega) only [wrapI]; omega))⟩ (aC (dd rfl) (aC rfl (aC ⟨(dd rfl), (show (((0 + ((Int.toNat (IntKind.u64.wrap ((1 : Int) + (Int.tmod (IntKind.u64.wrap ((239 : Int) - (Int.tmod n (128 : Int)))) (128 : Int))))) + 9)) + 1) ≤ 256) from (by have := padE_ok n; unfold padE at this; first | omega | (simp (disch := omega) only [wrapI]; omega))), (by have := padE_ok n; unfold padE at this; first | omega | (simp (disch := omega) only [wrapI]; omega))⟩ (aC (dd rfl) (aC rfl (aC ⟨(dd rfl), (show (((0 + ((Int.toNat (IntKind.u64.wrap ((1 : Int) + (Int.tmod (IntKind.u64.wrap ((239 : Int) - (Int.tmod n (128 : Int)))) (128 : Int))))) + 8)) + 1) ≤ 256) from (by have := padE_ok n; unfold padE at this; first | omega | (simp (disch := omega) only [wrapI]; omega))), (by have := padE_ok n; unfold padE at this; first | omega | (simp (disch := omega) only [wrapI]; omega))⟩ (aC (dd rfl) (aC rfl (aC ⟨(dd rfl), (show (((0 + (Int.toNat (IntKind.u64.wrap ((1 : Int) + (Int.tmod (IntKind.u64.wrap ((239 : Int) - (Int.tmod n (128 : Int)))) (128 : Int)))))) + 8) ≤ 256) from (by have := padE_ok n; unfold padE at this; first | omega | (simp (disch := omega) only [wrapI]; omega))), (by have := padE_ok n; unfold padE at this; first | omega | (simp (disch := omega) only [wrapI]; omega))⟩ (aC (dd rfl) (aC ⟨(dd rfl), (by have := padE_ok n; unfold padE at this; first | omega | (simp (disch := omega) only [wrapI]; omega))⟩ (aC ⟨(wrap_nn (k := .u64) rfl), (by have := padE_ok n; unfold padE at this; first | omega | (simp (disch := omega) only [wrapI]; omega)), (dd rfl)⟩ (aC (dd rfl) (aC (dd rfl) (AllP_nil))))))))))))))))))))))))))))))))

theorem pad_body (n : Int) (w : World) (rw : List Nat) (β : Env) : Body Try.prog (tabOf tabSC) Try.f121 ⟨w, rw, 0, β⟩ [.o (.a (.i .u64 n))] [] (fun ys K' => ys = [.a (.sl 0 0 (pad n) (256 : Nat))] ∧ K' = [some ⟨true, [.ints .u8 (256 : Nat) (pad_1 n)]⟩]) :=
  Body.lens (c := (Try.f121.body.getD .skip)) rfl fun h => pad_body0 n  w rw β

def gam10 : Gam := gcall 121 [] [.w] (fun wk vs args => match wk, vs, args with | [], [], [.o (.a (.i .u64 n))] => some (True, [.a (.sl 0 0 (pad n) (256 : Nat))], [some ⟨true, [.ints .u8 (256 : Nat) (pad_1 n)]⟩]) | _, _, _ => none) gam9
theorem gam10_ok : GamOk Try.prog gam10 := gcall_ok tabOkSC Try.func121 gam9_ok Try.call121 (by
  intro wk vs args p xs K1 h hv
  split at h
  · simp only [Option.some.injEq, Prod.mk.injEq] at h; obtain ⟨rfl, rfl, rfl⟩ := h; exact fun caps w rw β => pad_body _ w rw β
  · simp at h)

set_option maxHeartbeats 1000000 in
theorem made_body0 (S : List Int) (tl : Nat) (N : Int) (L C : List Int) (hl0_0 : List.length S = 8) (hl1_0 : List.length L = tl) (hl2_0 : List.length C = 80) (w : World) (rw : List Nat) (β : Env) : Body Try.prog (tabOf tabSC) Try.f119 ⟨w, rw, 3, β⟩ [.o (.a (.p 0 0))] [some ⟨false, [.ints .u64 8 S, .rs 1 0 tl 1, .i .u64 N, .p 2 0]⟩, some ⟨false, [.ints .u8 tl L]⟩, some ⟨false, [.ints .u64 80 C]⟩] (fun ys K' => ys = [.a (.b true)] ∧ K' = [some ⟨false, [.ints .u64 8 S, .rs 1 0 tl 1, .i .u64 N, .p 2 0]⟩, some ⟨false, [.ints .u8 tl L]⟩, some ⟨false, [.ints .u64 80 C]⟩]) :=
  Body.of_finK (Γ := gam10) (Λ := noLam) (Ψ := noPsi) (fuel := 0) (m := 12) (c := (Try.f119.body.getD .skip)) mix tabOkSC gam10_ok rfl (rs := [.tmp 2]) rfl rfl [true, true, true, true, true, true] [] 3
    (vc := [(true = true), (true = true), (true = true), (true = true), (true = true), (true = true)]) (by kernel_rfl)
    (aC rfl (aC rfl (aC rfl (aC rfl (aC rfl (aC rfl (AllP_nil)))))))

theorem made_body (S : List Int) (tl : Nat) (N : Int) (L C : List Int) (w : World) (rw : List Nat) (β : Env) : Body Try.prog (tabOf tabSC) Try.f119 ⟨w, rw, 3, β⟩ [.o (.a (.p 0 0))] [some ⟨false, [.ints .u64 8 S, .rs 1 0 tl 1, .i .u64 N, .p 2 0]⟩, some ⟨false, [.ints .u8 tl L]⟩, some ⟨false, [.ints .u64 80 C]⟩] (fun ys K' => ys = [.a (.b true)] ∧ K' = [some ⟨false, [.ints .u64 8 S, .rs 1 0 tl 1, .i .u64 N, .p 2 0]⟩, some ⟨false, [.ints .u8 tl L]⟩, some ⟨false, [.ints .u64 80 C]⟩]) :=
  Body.lens (c := (Try.f119.body.getD .skip)) rfl fun h => made_body0 S tl N L C (h.lens 0 _ .u64 (8 : Nat) S rfl (by simp)) (h.lens 1 _ .u8 tl L rfl (by simp)) (h.lens 2 _ .u64 (80 : Nat) C rfl (by simp)) w rw β

def gam11 : Gam := gcall 119 [false, false, false] [.w] (fun wk vs args => match wk, vs, args with | [⟨false, [.ints .u64 8 S, .rs 1 0 tl 1, .i .u64 N, .p 2 0]⟩, ⟨false, [.ints .u8 tl_1 L]⟩, ⟨false, [.ints .u64 80 C]⟩], [], [.o (.a (.p 0 0))] => some ((tl_1 = tl), [.a (.b true)], [some ⟨false, [.ints .u64 8 S, .rs 1 0 tl 1, .i .u64 N, .p 2 0]⟩, some ⟨false, [.ints .u8 tl L]⟩, some ⟨false, [.ints .u64 80 C]⟩]) | _, _, _ => none) gam10
theorem gam11_ok : GamOk Try.prog gam11 := gcall_ok tabOkSC Try.func119 gam10_ok Try.call119 (by
  intro wk vs args p xs K1 h hv
  split at h
  · simp only [Option.some.injEq, Prod.mk.injEq] at h; obtain ⟨rfl, rfl, rfl⟩ := h; have g0 := hv; subst g0; exact fun caps w rw β => made_body _ _ _ _ _ w rw β
  · simp at h)

set_option maxHeartbeats 1000000 in
theorem newH_body0 (w : World) (rw : List Nat) (β : Env) : Body Try.prog (tabOf tabSC) Try.f83 ⟨w, rw, 0, β⟩ [] [] (fun ys K' => ys = [.a (.p 1 0)] ∧ K' = [some ⟨true, [.ints .u64 80 (konst)]⟩, some ⟨true, [.ints .u64 8 ([7640891576956012808, 13503953896175478587, 4354685564936845355, 11912009170470909681, 5840696475078001361, 11170449401992604703, 2270897969802886507, 6620516959819538809] : List Int), .rs 2 0 0 1, .i .u64 (0 : Int), .p 0 0]⟩, some ⟨true, [.ints .u8 0 ([] : List Int)]⟩]) :=
  Body.of_finK (Γ := gam11) (Λ := noLam) (Ψ := noPsi) (fuel := 0) (m := 6) (c := (Try.f83.body.getD .skip)) mix tabOkSC gam11_ok rfl (rs := [.tmp 0]) rfl rfl [] [.rowB 1 1 .u8 1] 3
    (vc := []) (by kernel_rfl)
    (AllP_nil)

theorem newH_body (w : World) (rw : List Nat) (β : Env) : Body Try.prog (tabOf tabSC) Try.f83 ⟨w, rw, 0, β⟩ [] [] (fun ys K' => ys = [.a (.p 1 0)] ∧ K' = [some ⟨true, [.ints .u64 80 (konst)]⟩, some ⟨true, [.ints .u64 8 ([7640891576956012808, 13503953896175478587, 4354685564936845355, 11912009170470909681, 5840696475078001361, 11170449401992604703, 2270897969802886507, 6620516959819538809] : List Int), .rs 2 0 0 1, .i .u64 (0 : Int), .p 0 0]⟩, some ⟨true, [.ints .u8 0 ([] : List Int)]⟩]) :=
  Body.lens (c := (Try.f83.body.getD .skip)) rfl fun h => newH_body0  w rw β

def gam12 : Gam := gcall 83 [] [] (fun wk vs args => match wk, vs, args with | [], [], [] => some (True, [.a (.p 1 0)], [some ⟨true, [.ints .u64 80 (konst)]⟩, some ⟨true, [.ints .u64 8 ([7640891576956012808, 13503953896175478587, 4354685564936845355, 11912009170470909681, 5840696475078001361, 11170449401992604703, 2270897969802886507, 6620516959819538809] : List Int), .rs 2 0 0 1, .i .u64 (0 : Int), .p 0 0]⟩, some ⟨true, [.ints .u8 0 ([] : List Int)]⟩]) | _, _, _ => none) gam11
theorem gam12_ok : GamOk Try.prog gam12 := gcall_ok tabOkSC Try.func83 gam11_ok Try.call83 (by
  intro wk vs args p xs K1 h hv
  split at h
  · simp only [Option.some.injEq, Prod.mk.injEq] at h; obtain ⟨rfl, rfl, rfl⟩ := h; exact fun caps w rw β => newH_body w rw β
  · simp at h)

end Go.Proofs.Ytlmdhjojinkdbaa.X

/- Printed by a tool of this session. -/
namespace Go.Proofs.Ytlmdhjojinkdbaa.X
open Go Go.Proofs
set_option linter.unusedVariables false
set_option linter.unusedSimpArgs false
set_option maxRecDepth 100000
theorem teSD_3 : TEOk Try.prog 3 ⟨.int .i64, 1, 8, [.i .i64 (0 : Int)], false⟩ :=
  TEOk.of Try.underlying3 (i := Try.t3) (by kernel_rfl) rfl rfl rfl (by kernel_rfl) (fun h => by cases h) (by kernel_rfl)
theorem teSD_5 : TEOk Try.prog 5 ⟨.int .u8, 1, 1, [.i .u8 (0 : Int)], false⟩ :=
  TEOk.of Try.underlying5 (i := Try.t5) (by kernel_rfl) rfl rfl rfl (by kernel_rfl) (fun h => by cases h) (by kernel_rfl)
theorem teSD_22 : TEOk Try.prog 22 ⟨.slice 5, 1, 24, [.raw (.slice none 0 0)], false⟩ :=
  TEOk.of Try.underlying22 (i := Try.t22) (by kernel_rfl) rfl rfl rfl (by kernel_rfl) (fun h => by cases h) (by kernel_rfl)
theorem teSD_147 : TEOk Try.prog 147 ⟨.int .u64, 1, 8, [.i .u64 (0 : Int)], false⟩ :=
  TEOk.of Try.underlying147 (i := Try.t147) (by kernel_rfl) rfl rfl rfl (by kernel_rfl) (fun h => by cases h) (by kernel_rfl)
theorem teSD_148 : TEOk Try.prog 148 ⟨.array 8 147, 8, 64, [.ints .u64 (8 : Nat) ([0, 0, 0, 0, 0, 0, 0, 0] : List Int)], true⟩ :=
  TEOk.of Try.underlying148 (i := Try.t148) (by kernel_rfl) rfl rfl rfl (by kernel_rfl) (fun _ => Try.eqGuardType148) (by kernel_rfl)
theorem teSD_224 : TEOk Try.prog 224 ⟨.pointer 222, 1, 8, [.raw (.pointer none)], false⟩ :=
  TEOk.of Try.underlying224 (i := Try.t224) (by kernel_rfl) rfl rfl rfl (by kernel_rfl) (fun h => by cases h) (by kernel_rfl)
theorem teSD_226 : TEOk Try.prog 226 ⟨Try.t225.desc, 11, 104, [.ints .u64 (8 : Nat) ([0, 0, 0, 0, 0, 0, 0, 0] : List Int), .raw (.slice none 0 0), .i .u64 (0 : Int), .raw (.pointer none)], false⟩ :=
  TEOk.of Try.underlying226 (i := Try.t226) (by kernel_rfl) rfl rfl rfl (by kernel_rfl) (fun h => by cases h) (by kernel_rfl)
noncomputable def tabSD : List (Nat × TE) := [(3, ⟨.int .i64, 1, 8, [.i .i64 (0 : Int)], false⟩), (5, ⟨.int .u8, 1, 1, [.i .u8 (0 : Int)], false⟩), (22, ⟨.slice 5, 1, 24, [nlA], false⟩), (147, ⟨.int .u64, 1, 8, [.i .u64 (0 : Int)], false⟩), (148, ⟨.array 8 147, 8, 64, [.ints .u64 8 ([0, 0, 0, 0, 0, 0, 0, 0] : List Int)], true⟩), (224, ⟨.pointer 222, 1, 8, [.raw (.pointer none)], false⟩), (226, ⟨Try.t225.desc, 11, 104, [.ints .u64 8 ([0, 0, 0, 0, 0, 0, 0, 0] : List Int), nlA, .i .u64 (0 : Int), .raw (.pointer none)], false⟩)]
theorem tabOkSD : TabOk Try.prog (tabOf tabSD) := (tabOf_cons teSD_3 (tabOf_cons teSD_5 (tabOf_cons teSD_22 (tabOf_cons teSD_147 (tabOf_cons teSD_148 (tabOf_cons teSD_224 (tabOf_cons teSD_226 tabOf_nil)))))))

def wAL_mk (S : List Int) (tl : Nat) (N : Int) (L C : List Int) (n nm : Nat) (b : List Int) (cap3 k : Nat) (s : (List Int)) : St := ⟨sparse 105 [(0, .o (.a (.p 0 0))), (1, .o (.a (.sl 3 (128 * k) (n - (128 * k)) (cap3 - (128 * k))))), (5, .o (.a (.p 0 0))), (6, .o (.a (.b true))), (7, .o (.a (.b false))), (8, .o (.a (.p 0 0))), (9, .o (.a (.p 0 0))), (10, .o (.a (.p 0 9))), (11, .o (.a (.i .u64 N))), (12, .o (.a (.sl 3 0 n cap3))), (13, .o (.a (.i .i64 ((n : Nat) : Int)))), (14, .o (.a (.i .u64 (IntKind.u64.wrap ((n : Nat) : Int))))), (15, .o (.a (.i .u64 (IntKind.u64.wrap (N + (IntKind.u64.wrap ((n : Nat) : Int))))))), (16, .o (.a (.p 0 0))), (17, .o (.a (.p 0 9))), (18, .o (.a (.p 0 0))), (19, .o (.a (.p 0 0))), (20, .o (.a (.p 0 8))), (21, .o (.a (.rs 1 0 tl 1))), (22, .o (.a (.i .i64 ((tl : Nat) : Int)))), (23, .o (.a (.b (decide (((tl : Nat) : Int) > (0 : Int))))))], [some ⟨true, [.ints .u64 8 s, .rs 1 0 tl 1, .i .u64 (IntKind.u64.wrap (N + (IntKind.u64.wrap ((n : Nat) : Int)))), .p 2 0]⟩, some ⟨true, [.ints .u8 tl L]⟩, some ⟨false, [.ints .u64 80 C]⟩, some ⟨false, [.ints .u8 nm b]⟩]⟩

def wAL_step (C b : List Int) (k : Nat) (s : (List Int)) : (List Int) :=
  ((blk s (sub b ((128 : Nat) * k) (128 : Nat)) C))

set_option maxHeartbeats 1000000 in
theorem wAL_round (S : List Int) (tl : Nat) (N : Int) (L C : List Int) (n nm : Nat) (b : List Int) (cap3 : Nat) (h0 : (nm = n)) (h1 : (tl < 128)) (h2 : (n < 140737488355328)) (hc3 : n ≤ cap3) (hl0_0 : List.length S = 8) (hl1_0 : List.length L = tl) (hl2_0 : List.length C = 80) (hl3_0 : List.length b = nm) (hp : tl = 0) (w : World) (rw : List Nat) (β : Env) (k : Nat) (hk : k < (n / 128)) (s : (List Int)) : Run Try.prog ⟨w, rw, 4, β⟩ (loopB Try.f84 0) (wAL_mk S tl N L C n nm b cap3 k s) (To ⟨w, rw, 4, β⟩ .normal (wAL_mk S tl N L C n nm b cap3 (k + 1) (wAL_step C b k s))) := by
  have e0 : ((cap3 - ((128 : Nat) * k)) - (128 : Nat)) = (cap3 - ((128 : Nat) * (k + (1 : Nat)))) := (by first | rfl | exact wrap_succ (by omega) | omega | (simp (disch := omega) only [wrapI]; omega))
  have e1 : ((n - ((128 : Nat) * k)) - (128 : Nat)) = (n - ((128 : Nat) * (k + (1 : Nat)))) := (by first | rfl | exact wrap_succ (by omega) | omega | (simp (disch := omega) only [wrapI]; omega))
  have e2 : (((128 : Nat) * k) + (128 : Nat)) = ((128 : Nat) * (k + (1 : Nat))) := (by first | rfl | exact wrap_succ (by omega) | omega | (simp (disch := omega) only [wrapI]; omega))
  have h := Run.of_outT (B := ⟨w, rw, 4, β⟩) (Λ := noLam) (Ψ := noPsi) (fuel := 0) (ora := [true]) (c := (loopB Try.f84 0)) (st := (wAL_mk S tl N L C n nm b cap3 k s)) (l := [.forget [0, 1, 5, 6, 7, 8, 9, 10, 11, 12, 13, 14, 15, 16, 17, 18, 19, 20, 21, 22, 23] 4]) (s' := ⟨sparse 105 [(0, .o (.a (.p 0 0))), (1, .o (.a (.sl 3 ((128 * k) + 128) ((n - (128 * k)) - 128) ((cap3 - (128 * k)) - 128)))), (5, .o (.a (.p 0 0))), (6, .o (.a (.b true))), (7, .o (.a (.b false))), (8, .o (.a (.p 0 0))), (9, .o (.a (.p 0 0))), (10, .o (.a (.p 0 9))), (11, .o (.a (.i .u64 N))), (12, .o (.a (.sl 3 0 n cap3))), (13, .o (.a (.i .i64 ((n : Nat) : Int)))), (14, .o (.a (.i .u64 (IntKind.u64.wrap ((n : Nat) : Int))))), (15, .o (.a (.i .u64 (IntKind.u64.wrap (N + (IntKind.u64.wrap ((n : Nat) : Int))))))), (16, .o (.a (.p 0 0))), (17, .o (.a (.p 0 9))), (18, .o (.a (.p 0 0))), (19, .o (.a (.p 0 0))), (20, .o (.a (.p 0 8))), (21, .o (.a (.rs 1 0 tl 1))), (22, .o (.a (.i .i64 ((tl : Nat) : Int)))), (23, .o (.a (.b (decide (((tl : Nat) : Int) > (0 : Int))))))], [some ⟨true, [.ints .u64 8 (wAL_step C b k s), .rs 1 0 tl 1, .i .u64 (IntKind.u64.wrap (N + (IntKind.u64.wrap ((n : Nat) : Int)))), .p 2 0]⟩, some ⟨true, [.ints .u8 tl L]⟩, some ⟨false, [.ints .u64 80 C]⟩, some ⟨false, [.ints .u8 nm b]⟩]⟩) (ex := .normal) mix tabOkSD gam12_ok
    (vc := [((cZ 128) ∧ ((128 : Int) ≤ (((n - (128 * k)) : Nat) : Int))), ((True ∧ ((((128 * k) + 128) ≤ nm) ∧ (True ∧ True))) ∧ ((128 = 128) ∧ (128 = 128))), ((cZ 0) ∧ (cZ 128) ∧ ((128 : Int) ≤ (((cap3 - (128 * k)) : Nat) : Int))), ((decide ((((n - (128 * k)) : Nat) : Int) ≥ (128 : Int))) = true)]) (by kernel_rfl)
    (aC ⟨(dd rfl), (by first|omega|(simp (disch:=omega) only [wrapI];omega))⟩ (aC ⟨⟨trivial, ⟨(by first|omega|(simp (disch:=omega) only [wrapI];omega)), ⟨trivial, trivial⟩⟩⟩, ⟨rfl, rfl⟩⟩ (aC ⟨(dd rfl), (dd rfl), (by first|omega|(simp (disch:=omega) only [wrapI];omega))⟩ (aC (decide_eq_true (by first|omega|(simp (disch:=omega) only [wrapI];omega))) (AllP_nil)))))
  rw [e0, e1, e2] at h
  exact h

set_option maxHeartbeats 1000000 in
theorem wAL_last (S : List Int) (tl : Nat) (N : Int) (L C : List Int) (n nm : Nat) (b : List Int) (cap3 : Nat) (h0 : (nm = n)) (h1 : (tl < 128)) (h2 : (n < 140737488355328)) (hc3 : n ≤ cap3) (hl0_0 : List.length S = 8) (hl1_0 : List.length L = tl) (hl2_0 : List.length C = 80) (hl3_0 : List.length b = nm) (hp : tl = 0) (w : World) (rw : List Nat) (β : Env) (s : (List Int)) : Run Try.prog ⟨w, rw, 4, β⟩ (loopB Try.f84 0) (wAL_mk S tl N L C n nm b cap3 (n / 128) s) (To ⟨w, rw, 4, β⟩ (.exit 0) (wAL_mk S tl N L C n nm b cap3 (n / 128) s)) :=
  Run.of_outT (B := ⟨w, rw, 4, β⟩) (Λ := noLam) (Ψ := noPsi) (fuel := 0) (ora := [false]) (l := [.forget [0, 1, 5, 6, 7, 8, 9, 10, 11, 12, 13, 14, 15, 16, 17, 18, 19, 20, 21, 22, 23] 4]) mix tabOkSD gam12_ok
    (vc := [((decide ((((n - ((128 : Nat) * (n / (128 : Nat)))) : Nat) : Int) ≥ (128 : Int))) = false)]) (by kernel_rfl)
    (aC (decide_eq_false (by first | omega | (simp (disch := omega) only [wrapI]; omega))) (AllP_nil))

theorem wAL_loop (S : List Int) (tl : Nat) (N : Int) (L C : List Int) (n nm : Nat) (b : List Int) (cap3 : Nat) (h0 : (nm = n)) (h1 : (tl < 128)) (h2 : (n < 140737488355328)) (hc3 : n ≤ cap3) (hl0_0 : List.length S = 8) (hl1_0 : List.length L = tl) (hl2_0 : List.length C = 80) (hl3_0 : List.length b = nm) (hp : tl = 0) (w : World) (rw : List Nat) (β : Env) (s : (List Int)) : Run Try.prog ⟨w, rw, 4, β⟩ (.block 0 (.loop (loopB Try.f84 0))) (wAL_mk S tl N L C n nm b cap3 0 s) (To ⟨w, rw, 4, β⟩ .normal (wAL_mk S tl N L C n nm b cap3 (n / 128) (iter (wAL_step C b) (n / 128) s))) :=
  Run.count (fun k => wAL_mk S tl N L C n nm b cap3 k (iter (wAL_step C b) k s)) (n / 128) (fun k hk => wAL_round S tl N L C n nm b cap3 h0 h1 h2 hc3 hl0_0 hl1_0 hl2_0 hl3_0 hp w rw β k hk _) (ex := (.exit 0)) (by simp) (wAL_last S tl N L C n nm b cap3 h0 h1 h2 hc3 hl0_0 hl1_0 hl2_0 hl3_0 hp w rw β _)

def wAL_out0 (C b : List Int) (n : Nat) (i0 : List Int) : List Int := (iter (wAL_step C b) (n / (128 : Nat)) (i0))

def wA (tl n : Nat) : Nat :=
  (tl + (n - ((128 : Nat) * (n / (128 : Nat)))))

def wA_1 (N : Int) (n : Nat) : Int :=
  (IntKind.u64.wrap (N + (IntKind.u64.wrap ((n : Nat) : Int))))

def wA_2 (tl : Nat) (L : List Int) (n : Nat) (b : List Int) : List Int :=
  ((sub L 0 tl) ++ (sub b ((128 : Nat) * (n / (128 : Nat))) (n - ((128 : Nat) * (n / (128 : Nat))))))

set_option maxHeartbeats 1000000 in
theorem wA_body0 (S : List Int) (tl : Nat) (N : Int) (L C : List Int) (n nm : Nat) (b : List Int) (cap3 : Nat) (h0 : (nm = n)) (h1 : (tl < 128)) (h2 : (n < 140737488355328)) (hc3 : n ≤ cap3) (hl0_0 : List.length S = 8) (hl1_0 : List.length L = tl) (hl2_0 : List.length C = 80) (hl3_0 : List.length b = nm) (hp : tl = 0) (w : World) (rw : List Nat) (β : Env) : Body Try.prog (tabOf tabSD) Try.f84 ⟨w, rw, 4, β⟩ [.o (.a (.p 0 0)), .o (.a (.sl 3 0 n cap3))] [some ⟨true, [.ints .u64 8 S, .rs 1 0 tl 1, .i .u64 N, .p 2 0]⟩, some ⟨true, [.ints .u8 tl L]⟩, some ⟨false, [.ints .u64 80 C]⟩, some ⟨false, [.ints .u8 nm b]⟩] (fun ys K' => ys = [] ∧ K' = [some ⟨true, [.ints .u64 8 (wAL_out0 C b n S), .rs 4 0 (wA tl n) 1, .i .u64 (wA_1 N n), .p 2 0]⟩, none, some ⟨false, [.ints .u64 80 C]⟩, some ⟨false, [.ints .u8 nm b]⟩, some ⟨true, [.ints .u8 (wA tl n) (wA_2 tl L n b)]⟩]) :=
  Body.of_finK (Γ := gam12) (Λ := lamOf [(0, ⟨[.forget [0, 1, 5, 6, 7, 8, 9, 10, 11, 12, 13, 14, 15, 16, 17, 18, 19, 20, 21, 22, 23] 4], .normal, (wAL_mk S tl N L C n nm b cap3 (n / 128) (iter (wAL_step C b) (n / 128) (S)))⟩)]) (Ψ := noPsi) (fuel := 0) (m := 105) (c := (Try.f84.body.getD .skip)) mix tabOkSD gam12_ok rfl (rs := []) rfl rfl [false, false, false] [] 5
    (vc := [(((0 + tl) ≤ tl) ∧ (((n - (128 * (n / 128))) ≤ (n - (128 * (n / 128)))) ∧ (((128 * (n / 128)) + (n - (128 * (n / 128)))) ≤ nm)) ∧ (((tl + (n - (128 * (n / 128)))) * 1) ≤ 140737488355328)), (Run Try.prog ⟨w, rw, 4, β⟩ (.block 0 (.loop (loopB Try.f84 0))) (wAL_mk S tl N L C n nm b cap3 0 (S)) (To ⟨w, rw, 4, β⟩ .normal (wAL_mk S tl N L C n nm b cap3 (n / 128) (iter (wAL_step C b) (n / 128) (S))))), ((decide (((tl : Nat) : Int) > (0 : Int))) = false), (false = false), ((True ∧ True) ∧ (tl = tl))]) (by kernel_rfl)
    (aC ⟨(by first|omega|(simp (disch:=omega) only [wrapI];omega)), ⟨(by first|omega|(simp (disch:=omega) only [wrapI];omega)), (by first|omega|(simp (disch:=omega) only [wrapI];omega))⟩, (by first|omega|(simp (disch:=omega) only [wrapI];omega))⟩ (aC (wAL_loop S tl N L C n nm b cap3 h0 h1 h2 hc3 hl0_0 hl1_0 hl2_0 hl3_0 hp w rw β (S)) (aC (decide_eq_false (by first|omega|(simp (disch:=omega) only [wrapI];omega))) (aC rfl (aC ⟨⟨trivial, trivial⟩, rfl⟩ (AllP_nil))))))

def wB (tl n : Nat) : Nat :=
  (tl + n)

def wB_1 (N : Int) (n : Nat) : Int :=
  (IntKind.u64.wrap (N + (IntKind.u64.wrap ((n : Nat) : Int))))

def wB_2 (tl : Nat) (L : List Int) (n : Nat) (b : List Int) : List Int :=
  ((sub L 0 tl) ++ (sub b 0 n))

set_option maxHeartbeats 1000000 in
theorem wB_body0 (S : List Int) (tl : Nat) (N : Int) (L C : List Int) (n nm : Nat) (b : List Int) (cap3 : Nat) (h0 : (nm = n)) (h1 : (tl < 128)) (h2 : (n < 140737488355328)) (hc3 : n ≤ cap3) (hl0_0 : List.length S = 8) (hl1_0 : List.length L = tl) (hl2_0 : List.length C = 80) (hl3_0 : List.length b = nm) (hp : 0 < tl) (hp2 : tl + n < 128) (w : World) (rw : List Nat) (β : Env) : Body Try.prog (tabOf tabSD) Try.f84 ⟨w, rw, 4, β⟩ [.o (.a (.p 0 0)), .o (.a (.sl 3 0 n cap3))] [some ⟨true, [.ints .u64 8 S, .rs 1 0 tl 1, .i .u64 N, .p 2 0]⟩, some ⟨true, [.ints .u8 tl L]⟩, some ⟨false, [.ints .u64 80 C]⟩, some ⟨false, [.ints .u8 nm b]⟩] (fun ys K' => ys = [] ∧ K' = [some ⟨true, [.ints .u64 8 S, .rs 4 0 (wB tl n) 1, .i .u64 (wB_1 N n), .p 2 0]⟩, none, some ⟨false, [.ints .u64 80 C]⟩, some ⟨false, [.ints .u8 nm b]⟩, some ⟨true, [.ints .u8 (wB tl n) (wB_2 tl L n b)]⟩]) :=
  Body.of_finK (Γ := gam12) (Λ := noLam) (Ψ := psiOf [(3, [.eqS 4 (.o (.a (.i .i64 ((n : Nat) : Int))))])]) (fuel := 0) (m := 105) (c := (Try.f84.body.getD .skip)) mix tabOkSD gam12_ok rfl (rs := []) rfl rfl [false, true, false, true] [] 5
    (vc := [((decide ((((tl + n) : Nat) : Int) < (128 : Int))) = true), (((0 : Int) ≤ ((n : Nat) : Int)) ∧ (((n : Nat) : Int) ≤ ((n : Nat) : Int))), (((0 + tl) ≤ tl) ∧ ((n ≤ n) ∧ ((0 + n) ≤ nm)) ∧ (((tl + n) * 1) ≤ 140737488355328)), ((cZ 0) ∧ ((0 : Int) ≤ ((n : Nat) : Int)) ∧ (((n : Nat) : Int) ≤ ((cap3 : Nat) : Int))), ((.o (.a (.i .i64 (if ((n : Nat) : Int) < (IntKind.i64.wrap ((128 : Int) - ((tl : Nat) : Int))) then ((n : Nat) : Int) else (IntKind.i64.wrap ((128 : Int) - ((tl : Nat) : Int)))))) : AV) = .o (.a (.i .i64 ((n : Nat) : Int)))), ((decide (((tl : Nat) : Int) > (0 : Int))) = true), (false = false), ((True ∧ True) ∧ (tl = tl))]) (by kernel_rfl)
    (aC (decide_eq_true (by first|omega|(simp (disch:=omega) only [wrapI];omega))) (aC ⟨(by first|omega|(simp (disch:=omega) only [wrapI];omega)), (by first|omega|(simp (disch:=omega) only [wrapI];omega))⟩ (aC ⟨(by first|omega|(simp (disch:=omega) only [wrapI];omega)), ⟨(by first|omega|(simp (disch:=omega) only [wrapI];omega)), (by first|omega|(simp (disch:=omega) only [wrapI];omega))⟩, (by first|omega|(simp (disch:=omega) only [wrapI];omega))⟩ (aC ⟨(dd rfl), (by first|omega|(simp (disch:=omega) only [wrapI];omega)), (by first|omega|(simp (disch:=omega) only [wrapI];omega))⟩ (aC ((congrArg (fun z => AV.o (.a (.i .i64 z))) (wmin_small hp2))) (aC (decide_eq_true (by first|omega|(simp (disch:=omega) only [wrapI];omega))) (aC rfl (aC ⟨⟨trivial, trivial⟩, rfl⟩ (AllP_nil)))))))))

def wCL_mk (S : List Int) (tl : Nat) (N : Int) (L C : List Int) (n nm : Nat) (b : List Int) (cap3 k : Nat) (s : (List Int)) : St := ⟨sparse 105 [(0, .o (.a (.p 0 0))), (1, .o (.a (.sl 3 ((0 + (128 - tl)) + (128 * k)) ((n - (128 - tl)) - (128 * k)) ((cap3 - (128 - tl)) - (128 * k))))), (4, .o (.a (.i .i64 (((128 - tl) : Nat) : Int)))), (5, .o (.a (.p 0 0))), (6, .o (.a (.b true))), (7, .o (.a (.b false))), (8, .o (.a (.p 0 0))), (9, .o (.a (.p 0 0))), (10, .o (.a (.p 0 9))), (11, .o (.a (.i .u64 N))), (12, .o (.a (.sl 3 0 n cap3))), (13, .o (.a (.i .i64 ((n : Nat) : Int)))), (14, .o (.a (.i .u64 (IntKind.u64.wrap ((n : Nat) : Int))))), (15, .o (.a (.i .u64 (IntKind.u64.wrap (N + (IntKind.u64.wrap ((n : Nat) : Int))))))), (16, .o (.a (.p 0 0))), (17, .o (.a (.p 0 9))), (18, .o (.a (.p 0 0))), (19, .o (.a (.p 0 0))), (20, .o (.a (.p 0 8))), (21, .o (.a (.rs 1 0 tl 1))), (22, .o (.a (.i .i64 ((tl : Nat) : Int)))), (23, .o (.a (.b (decide (((tl : Nat) : Int) > (0 : Int)))))), (24, .o (.a (.p 0 0))), (25, .o (.a (.p 0 0))), (26, .o (.a (.p 0 8))), (27, .o (.a (.rs 1 0 tl 1))), (28, .o (.a (.i .i64 ((tl : Nat) : Int)))), (29, .o (.a (.i .i64 (IntKind.i64.wrap ((128 : Int) - ((tl : Nat) : Int)))))), (30, .o (.a (.sl 3 0 n cap3))), (31, .o (.a (.i .i64 ((n : Nat) : Int)))), (32, .o (.a (.i .i64 (if ((n : Nat) : Int) < (IntKind.i64.wrap ((128 : Int) - ((tl : Nat) : Int))) then ((n : Nat) : Int) else (IntKind.i64.wrap ((128 : Int) - ((tl : Nat) : Int))))))), (33, .o (.a (.p 0 0))), (34, .o (.a (.p 0 0))), (35, .o (.a (.p 0 0))), (36, .o (.a (.p 0 8))), (37, .o (.a (.rs 1 0 tl 1))), (38, .o (.a (.sl 3 0 n cap3))), (39, .o (.a (.i .i64 (((128 - tl) : Nat) : Int)))), (40, .o (.a (.sl 3 0 (128 - tl) cap3))), (41, .o (.a (.rs 4 0 (tl + (128 - tl)) 1))), (42, .o (.a (.sl 3 0 n cap3))), (43, .o (.a (.i .i64 (((128 - tl) : Nat) : Int)))), (44, .o (.a (.sl 3 (0 + (128 - tl)) (n - (128 - tl)) (cap3 - (128 - tl))))), (45, .o (.a (.p 0 0))), (46, .o (.a (.p 0 8))), (47, .o (.a (.p 0 0))), (48, .o (.a (.p 0 0))), (49, .o (.a (.p 0 8))), (50, .o (.a (.rs 4 0 (tl + (128 - tl)) 1))), (51, .o (.a (.i .i64 (((tl + (128 - tl)) : Nat) : Int)))), (52, .o (.a (.b (decide ((((tl + (128 - tl)) : Nat) : Int) < (128 : Int)))))), (53, .o (.a (.p 0 0))), (54, .o (.a (.p 0 0))), (55, .o (.a (.p 0 0))), (56, .o (.a (.p 0 0))), (57, .o (.g [.ints .u64 8 S])), (58, .o (.a (.p 0 0))), (59, .o (.a (.p 0 0))), (60, .o (.a (.p 0 8))), (61, .o (.a (.rs 4 0 (tl + (128 - tl)) 1))), (62, .o (.a (.p 0 0))), (63, .o (.a (.p 0 0))), (64, .o (.a (.p 0 10))), (65, .o (.a (.p 2 0))), (66, .o (.g [.ints .u64 8 (blk S (sub ((sub L 0 tl) ++ (sub b 0 (128 - tl))) 0 (tl + (128 - tl))) C)])), (67, .o (.a (.p 0 0))), (68, .o (.a (.p 0 0))), (69, .o (.a (.p 0 0))), (70, .o (.a (.p 0 0))), (71, .o (.a (.p 0 0))), (72, .o (.a (.p 0 8))), (73, .o (.a (.rs 4 0 (tl + (128 - tl)) 1))), (74, .o (.a (.rs 4 0 0 1))), (75, .o (.a (.p 0 0))), (76, .o (.a (.p 0 8)))], [some ⟨true, [.ints .u64 8 s, .rs 4 0 0 1, .i .u64 (IntKind.u64.wrap (N + (IntKind.u64.wrap ((n : Nat) : Int)))), .p 2 0]⟩, none, some ⟨false, [.ints .u64 80 C]⟩, some ⟨false, [.ints .u8 nm b]⟩, some ⟨true, [.ints .u8 (tl + (128 - tl)) ((sub L 0 tl) ++ (sub b 0 (128 - tl)))]⟩]⟩

def wCL_step (tl : Nat) (C b : List Int) (k : Nat) (s : (List Int)) : (List Int) :=
  ((blk s (sub b (((0 : Nat) + ((128 : Nat) - tl)) + ((128 : Nat) * k)) (128 : Nat)) C))

set_option maxHeartbeats 1000000 in
theorem wCL_round (S : List Int) (tl : Nat) (N : Int) (L C : List Int) (n nm : Nat) (b : List Int) (cap3 : Nat) (h0 : (nm = n)) (h1 : (tl < 128)) (h2 : (n < 140737488355328)) (hc3 : n ≤ cap3) (hl0_0 : List.length S = 8) (hl1_0 : List.length L = tl) (hl2_0 : List.length C = 80) (hl3_0 : List.length b = nm) (hp : 0 < tl) (hp2 : 128 ≤ tl + n) (w : World) (rw : List Nat) (β : Env) (k : Nat) (hk : k < ((n - (128 - tl)) / 128)) (s : (List Int)) : Run Try.prog ⟨w, rw, 4, β⟩ (loopB Try.f84 0) (wCL_mk S tl N L C n nm b cap3 k s) (To ⟨w, rw, 4, β⟩ .normal (wCL_mk S tl N L C n nm b cap3 (k + 1) (wCL_step tl C b k s))) := by
  have e0 : ((((0 : Nat) + ((128 : Nat) - tl)) + ((128 : Nat) * k)) + (128 : Nat)) = (((0 : Nat) + ((128 : Nat) - tl)) + ((128 : Nat) * (k + (1 : Nat)))) := (by first | rfl | exact wrap_succ (by omega) | omega | (simp (disch := omega) only [wrapI]; omega))
  have e1 : (((cap3 - ((128 : Nat) - tl)) - ((128 : Nat) * k)) - (128 : Nat)) = ((cap3 - ((128 : Nat) - tl)) - ((128 : Nat) * (k + (1 : Nat)))) := (by first | rfl | exact wrap_succ (by omega) | omega | (simp (disch := omega) only [wrapI]; omega))
  have e2 : (((n - ((128 : Nat) - tl)) - ((128 : Nat) * k)) - (128 : Nat)) = ((n - ((128 : Nat) - tl)) - ((128 : Nat) * (k + (1 : Nat)))) := (by first | rfl | exact wrap_succ (by omega) | omega | (simp (disch := omega) only [wrapI]; omega))
  have h := Run.of_outT (B := ⟨w, rw, 4, β⟩) (Λ := noLam) (Ψ := noPsi) (fuel := 0) (ora := [true]) (c := (loopB Try.f84 0)) (st := (wCL_mk S tl N L C n nm b cap3 k s)) (l := [.forget [0, 1, 4, 5, 6, 7, 8, 9, 10, 11, 12, 13, 14, 15, 16, 17, 18, 19, 20, 21, 22, 23, 24, 25, 26, 27, 28, 29, 30, 31, 32, 33, 34, 35, 36, 37, 38, 39, 40, 41, 42, 43, 44, 45, 46, 47, 48, 49, 50, 51, 52, 53, 54, 55, 56, 57, 58, 59, 60, 61, 62, 63, 64, 65, 66, 67, 68, 69, 70, 71, 72, 73, 74, 75, 76] 5]) (s' := ⟨sparse 105 [(0, .o (.a (.p 0 0))), (1, .o (.a (.sl 3 (((0 + (128 - tl)) + (128 * k)) + 128) (((n - (128 - tl)) - (128 * k)) - 128) (((cap3 - (128 - tl)) - (128 * k)) - 128)))), (4, .o (.a (.i .i64 (((128 - tl) : Nat) : Int)))), (5, .o (.a (.p 0 0))), (6, .o (.a (.b true))), (7, .o (.a (.b false))), (8, .o (.a (.p 0 0))), (9, .o (.a (.p 0 0))), (10, .o (.a (.p 0 9))), (11, .o (.a (.i .u64 N))), (12, .o (.a (.sl 3 0 n cap3))), (13, .o (.a (.i .i64 ((n : Nat) : Int)))), (14, .o (.a (.i .u64 (IntKind.u64.wrap ((n : Nat) : Int))))), (15, .o (.a (.i .u64 (IntKind.u64.wrap (N + (IntKind.u64.wrap ((n : Nat) : Int))))))), (16, .o (.a (.p 0 0))), (17, .o (.a (.p 0 9))), (18, .o (.a (.p 0 0))), (19, .o (.a (.p 0 0))), (20, .o (.a (.p 0 8))), (21, .o (.a (.rs 1 0 tl 1))), (22, .o (.a (.i .i64 ((tl : Nat) : Int)))), (23, .o (.a (.b (decide (((tl : Nat) : Int) > (0 : Int)))))), (24, .o (.a (.p 0 0))), (25, .o (.a (.p 0 0))), (26, .o (.a (.p 0 8))), (27, .o (.a (.rs 1 0 tl 1))), (28, .o (.a (.i .i64 ((tl : Nat) : Int)))), (29, .o (.a (.i .i64 (IntKind.i64.wrap ((128 : Int) - ((tl : Nat) : Int)))))), (30, .o (.a (.sl 3 0 n cap3))), (31, .o (.a (.i .i64 ((n : Nat) : Int)))), (32, .o (.a (.i .i64 (if ((n : Nat) : Int) < (IntKind.i64.wrap ((128 : Int) - ((tl : Nat) : Int))) then ((n : Nat) : Int) else (IntKind.i64.wrap ((128 : Int) - ((tl : Nat) : Int))))))), (33, .o (.a (.p 0 0))), (34, .o (.a (.p 0 0))), (35, .o (.a (.p 0 0))), (36, .o (.a (.p 0 8))), (37, .o (.a (.rs 1 0 tl 1))), (38, .o (.a (.sl 3 0 n cap3))), (39, .o (.a (.i .i64 (((128 - tl) : Nat) : Int)))), (40, .o (.a (.sl 3 0 (128 - tl) cap3))), (41, .o (.a (.rs 4 0 (tl + (128 - tl)) 1))), (42, .o (.a (.sl 3 0 n cap3))), (43, .o (.a (.i .i64 (((128 - tl) : Nat) : Int)))), (44, .o (.a (.sl 3 (0 + (128 - tl)) (n - (128 - tl)) (cap3 - (128 - tl))))), (45, .o (.a (.p 0 0))), (46, .o (.a (.p 0 8))), (47, .o (.a (.p 0 0))), (48, .o (.a (.p 0 0))), (49, .o (.a (.p 0 8))), (50, .o (.a (.rs 4 0 (tl + (128 - tl)) 1))), (51, .o (.a (.i .i64 (((tl + (128 - tl)) : Nat) : Int)))), (52, .o (.a (.b (decide ((((tl + (128 - tl)) : Nat) : Int) < (128 : Int)))))), (53, .o (.a (.p 0 0))), (54, .o (.a (.p 0 0))), (55, .o (.a (.p 0 0))), (56, .o (.a (.p 0 0))), (57, .o (.g [.ints .u64 8 S])), (58, .o (.a (.p 0 0))), (59, .o (.a (.p 0 0))), (60, .o (.a (.p 0 8))), (61, .o (.a (.rs 4 0 (tl + (128 - tl)) 1))), (62, .o (.a (.p 0 0))), (63, .o (.a (.p 0 0))), (64, .o (.a (.p 0 10))), (65, .o (.a (.p 2 0))), (66, .o (.g [.ints .u64 8 (blk S (sub ((sub L 0 tl) ++ (sub b 0 (128 - tl))) 0 (tl + (128 - tl))) C)])), (67, .o (.a (.p 0 0))), (68, .o (.a (.p 0 0))), (69, .o (.a (.p 0 0))), (70, .o (.a (.p 0 0))), (71, .o (.a (.p 0 0))), (72, .o (.a (.p 0 8))), (73, .o (.a (.rs 4 0 (tl + (128 - tl)) 1))), (74, .o (.a (.rs 4 0 0 1))), (75, .o (.a (.p 0 0))), (76, .o (.a (.p 0 8)))], [some ⟨true, [.ints .u64 8 (wCL_step tl C b k s), .rs 4 0 0 1, .i .u64 (IntKind.u64.wrap (N + (IntKind.u64.wrap ((n : Nat) : Int)))), .p 2 0]⟩, none, some ⟨false, [.ints .u64 80 C]⟩, some ⟨false, [.ints .u8 nm b]⟩, some ⟨true, [.ints .u8 (tl + (128 - tl)) ((sub L 0 tl) ++ (sub b 0 (128 - tl)))]⟩]⟩) (ex := .normal) mix tabOkSD gam12_ok
    (vc := [((cZ 128) ∧ ((128 : Int) ≤ ((((n - (128 - tl)) - (128 * k)) : Nat) : Int))), ((True ∧ (((((0 + (128 - tl)) + (128 * k)) + 128) ≤ nm) ∧ (True ∧ True))) ∧ ((128 = 128) ∧ (128 = 128))), ((cZ 0) ∧ (cZ 128) ∧ ((128 : Int) ≤ ((((cap3 - (128 - tl)) - (128 * k)) : Nat) : Int))), ((decide (((((n - (128 - tl)) - (128 * k)) : Nat) : Int) ≥ (128 : Int))) = true)]) (by kernel_rfl)
    (aC ⟨(dd rfl), (by first|omega|(simp (disch:=omega) only [wrapI];omega))⟩ (aC ⟨⟨trivial, ⟨(by first|omega|(simp (disch:=omega) only [wrapI];omega)), ⟨trivial, trivial⟩⟩⟩, ⟨rfl, rfl⟩⟩ (aC ⟨(dd rfl), (dd rfl), (by first|omega|(simp (disch:=omega) only [wrapI];omega))⟩ (aC (decide_eq_true (by first|omega|(simp (disch:=omega) only [wrapI];omega))) (AllP_nil)))))
  rw [e0, e1, e2] at h
  exact h

set_option maxHeartbeats 1000000 in
theorem wCL_last (S : List Int) (tl : Nat) (N : Int) (L C : List Int) (n nm : Nat) (b : List Int) (cap3 : Nat) (h0 : (nm = n)) (h1 : (tl < 128)) (h2 : (n < 140737488355328)) (hc3 : n ≤ cap3) (hl0_0 : List.length S = 8) (hl1_0 : List.length L = tl) (hl2_0 : List.length C = 80) (hl3_0 : List.length b = nm) (hp : 0 < tl) (hp2 : 128 ≤ tl + n) (w : World) (rw : List Nat) (β : Env) (s : (List Int)) : Run Try.prog ⟨w, rw, 4, β⟩ (loopB Try.f84 0) (wCL_mk S tl N L C n nm b cap3 ((n - (128 - tl)) / 128) s) (To ⟨w, rw, 4, β⟩ (.exit 0) (wCL_mk S tl N L C n nm b cap3 ((n - (128 - tl)) / 128) s)) :=
  Run.of_outT (B := ⟨w, rw, 4, β⟩) (Λ := noLam) (Ψ := noPsi) (fuel := 0) (ora := [false]) (l := [.forget [0, 1, 4, 5, 6, 7, 8, 9, 10, 11, 12, 13, 14, 15, 16, 17, 18, 19, 20, 21, 22, 23, 24, 25, 26, 27, 28, 29, 30, 31, 32, 33, 34, 35, 36, 37, 38, 39, 40, 41, 42, 43, 44, 45, 46, 47, 48, 49, 50, 51, 52, 53, 54, 55, 56, 57, 58, 59, 60, 61, 62, 63, 64, 65, 66, 67, 68, 69, 70, 71, 72, 73, 74, 75, 76] 5]) mix tabOkSD gam12_ok
    (vc := [((decide (((((n - ((128 : Nat) - tl)) - ((128 : Nat) * ((n - ((128 : Nat) - tl)) / (128 : Nat)))) : Nat) : Int) ≥ (128 : Int))) = false)]) (by kernel_rfl)
    (aC (decide_eq_false (by first | omega | (simp (disch := omega) only [wrapI]; omega))) (AllP_nil))

theorem wCL_loop (S : List Int) (tl : Nat) (N : Int) (L C : List Int) (n nm : Nat) (b : List Int) (cap3 : Nat) (h0 : (nm = n)) (h1 : (tl < 128)) (h2 : (n < 140737488355328)) (hc3 : n ≤ cap3) (hl0_0 : List.length S = 8) (hl1_0 : List.length L = tl) (hl2_0 : List.length C = 80) (hl3_0 : List.length b = nm) (hp : 0 < tl) (hp2 : 128 ≤ tl + n) (w : World) (rw : List Nat) (β : Env) (s : (List Int)) : Run Try.prog ⟨w, rw, 4, β⟩ (.block 0 (.loop (loopB Try.f84 0))) (wCL_mk S tl N L C n nm b cap3 0 s) (To ⟨w, rw, 4, β⟩ .normal (wCL_mk S tl N L C n nm b cap3 ((n - (128 - tl)) / 128) (iter (wCL_step tl C b) ((n - (128 - tl)) / 128) s))) :=
  Run.count (fun k => wCL_mk S tl N L C n nm b cap3 k (iter (wCL_step tl C b) k s)) ((n - (128 - tl)) / 128) (fun k hk => wCL_round S tl N L C n nm b cap3 h0 h1 h2 hc3 hl0_0 hl1_0 hl2_0 hl3_0 hp hp2 w rw β k hk _) (ex := (.exit 0)) (by simp) (wCL_last S tl N L C n nm b cap3 h0 h1 h2 hc3 hl0_0 hl1_0 hl2_0 hl3_0 hp hp2 w rw β _)

def wCL_out0 (tl : Nat) (C b : List Int) (n : Nat) (i0 : List Int) : List Int := (iter (wCL_step tl C b) ((n - ((128 : Nat) - tl)) / (128 : Nat)) (i0))

def wC (S : List Int) (tl : Nat) (L C : List Int) (n : Nat) (b : List Int) : List Int :=
  (wCL_out0 tl C b n (blk S (sub ((sub L 0 tl) ++ (sub b 0 ((128 : Nat) - tl))) (0 : Nat) (tl + ((128 : Nat) - tl))) C))

def wC_1 (tl n : Nat) : Nat :=
  let z0 : Nat := (n - ((128 : Nat) - tl))
  ((0 : Nat) + (z0 - ((128 : Nat) * (z0 / (128 : Nat)))))

def wC_2 (N : Int) (n : Nat) : Int :=
  (IntKind.u64.wrap (N + (IntKind.u64.wrap ((n : Nat) : Int))))

def wC_3 (tl : Nat) (L : List Int) (n : Nat) (b : List Int) : List Int :=
  let z0 : Nat := (n - ((128 : Nat) - tl))
  let z1 : Nat := ((128 : Nat) * (z0 / (128 : Nat)))
  ((sub ((sub L 0 tl) ++ (sub b 0 ((128 : Nat) - tl))) (0 : Nat) (0 : Nat)) ++ (sub b (((0 : Nat) + ((128 : Nat) - tl)) + z1) (z0 - z1)))

set_option maxHeartbeats 1000000 in
theorem wC_body0 (S : List Int) (tl : Nat) (N : Int) (L C : List Int) (n nm : Nat) (b : List Int) (cap3 : Nat) (h0 : (nm = n)) (h1 : (tl < 128)) (h2 : (n < 140737488355328)) (hc3 : n ≤ cap3) (hl0_0 : List.length S = 8) (hl1_0 : List.length L = tl) (hl2_0 : List.length C = 80) (hl3_0 : List.length b = nm) (hp : 0 < tl) (hp2 : 128 ≤ tl + n) (w : World) (rw : List Nat) (β : Env) : Body Try.prog (tabOf tabSD) Try.f84 ⟨w, rw, 4, β⟩ [.o (.a (.p 0 0)), .o (.a (.sl 3 0 n cap3))] [some ⟨true, [.ints .u64 8 S, .rs 1 0 tl 1, .i .u64 N, .p 2 0]⟩, some ⟨true, [.ints .u8 tl L]⟩, some ⟨false, [.ints .u64 80 C]⟩, some ⟨false, [.ints .u8 nm b]⟩] (fun ys K' => ys = [] ∧ K' = [some ⟨true, [.ints .u64 8 (wC S tl L C n b), .rs 4 0 (wC_1 tl n) 1, .i .u64 (wC_2 N n), .p 2 0]⟩, none, some ⟨false, [.ints .u64 80 C]⟩, some ⟨false, [.ints .u8 nm b]⟩, some ⟨true, [.ints .u8 (wC_1 tl n) (wC_3 tl L n b)]⟩]) :=
  Body.of_finK (Γ := gam12) (Λ := lamOf [(0, ⟨[.forget [0, 1, 4, 5, 6, 7, 8, 9, 10, 11, 12, 13, 14, 15, 16, 17, 18, 19, 20, 21, 22, 23, 24, 25, 26, 27, 28, 29, 30, 31, 32, 33, 34, 35, 36, 37, 38, 39, 40, 41, 42, 43, 44, 45, 46, 47, 48, 49, 50, 51, 52, 53, 54, 55, 56, 57, 58, 59, 60, 61, 62, 63, 64, 65, 66, 67, 68, 69, 70, 71, 72, 73, 74, 75, 76] 5], .normal, (wCL_mk S tl N L C n nm b cap3 ((n - (128 - tl)) / 128) (iter (wCL_step tl C b) ((n - (128 - tl)) / 128) ((blk S (sub ((sub L 0 tl) ++ (sub b 0 (128 - tl))) 0 (tl + (128 - tl))) C))))⟩)]) (Ψ := psiOf [(3, [.eqS 4 (.o (.a (.i .i64 (((128 - tl) : Nat) : Int))))])]) (fuel := 0) (m := 105) (c := (Try.f84.body.getD .skip)) mix tabOkSD gam12_ok rfl (rs := []) rfl rfl [false, true, false, false, false] [.swap 4 5, .forget [] 5] 5
    (vc := [((0 ≤ (tl + (128 - tl))) ∧ ((((n - (128 - tl)) - (128 * ((n - (128 - tl)) / 128))) ≤ ((n - (128 - tl)) - (128 * ((n - (128 - tl)) / 128)))) ∧ ((((0 + (128 - tl)) + (128 * ((n - (128 - tl)) / 128))) + ((n - (128 - tl)) - (128 * ((n - (128 - tl)) / 128)))) ≤ nm)) ∧ (((0 + ((n - (128 - tl)) - (128 * ((n - (128 - tl)) / 128)))) * 1) ≤ 140737488355328)), (Run Try.prog ⟨w, rw, 4, β⟩ (.block 0 (.loop (loopB Try.f84 0))) (wCL_mk S tl N L C n nm b cap3 0 ((blk S (sub ((sub L 0 tl) ++ (sub b 0 (128 - tl))) 0 (tl + (128 - tl))) C))) (To ⟨w, rw, 4, β⟩ .normal (wCL_mk S tl N L C n nm b cap3 ((n - (128 - tl)) / 128) (iter (wCL_step tl C b) ((n - (128 - tl)) / 128) ((blk S (sub ((sub L 0 tl) ++ (sub b 0 (128 - tl))) 0 (tl + (128 - tl))) C)))))), ((cZ 0) ∧ (cZ 0) ∧ ((0 : Int) ≤ (((tl + (128 - tl)) : Nat) : Int))), ((True ∧ (((0 + (tl + (128 - tl))) ≤ (tl + (128 - tl))) ∧ (True ∧ True))) ∧ (((tl + (128 - tl)) = (tl + (128 - tl))) ∧ ((tl + (128 - tl)) = 128))), ((decide ((((tl + (128 - tl)) : Nat) : Int) < (128 : Int))) = false), (((0 : Int) ≤ (((128 - tl) : Nat) : Int)) ∧ ((((128 - tl) : Nat) : Int) ≤ ((n : Nat) : Int))), (((0 + tl) ≤ tl) ∧ (((128 - tl) ≤ (128 - tl)) ∧ ((0 + (128 - tl)) ≤ nm)) ∧ (((tl + (128 - tl)) * 1) ≤ 140737488355328)), ((cZ 0) ∧ ((0 : Int) ≤ (((128 - tl) : Nat) : Int)) ∧ ((((128 - tl) : Nat) : Int) ≤ ((cap3 : Nat) : Int))), ((.o (.a (.i .i64 (if ((n : Nat) : Int) < (IntKind.i64.wrap ((128 : Int) - ((tl : Nat) : Int))) then ((n : Nat) : Int) else (IntKind.i64.wrap ((128 : Int) - ((tl : Nat) : Int)))))) : AV) = .o (.a (.i .i64 (((128 - tl) : Nat) : Int)))), ((decide (((tl : Nat) : Int) > (0 : Int))) = true), (false = false), ((True ∧ True) ∧ (tl = tl))]) (by kernel_rfl)
    (aC ⟨(by first|omega|(simp (disch:=omega) only [wrapI];omega)), ⟨(by first|omega|(simp (disch:=omega) only [wrapI];omega)), (by first|omega|(simp (disch:=omega) only [wrapI];omega))⟩, (by first|omega|(simp (disch:=omega) only [wrapI];omega))⟩ (aC (wCL_loop S tl N L C n nm b cap3 h0 h1 h2 hc3 hl0_0 hl1_0 hl2_0 hl3_0 hp hp2 w rw β ((blk S (sub ((sub L 0 tl) ++ (sub b 0 (128 - tl))) 0 (tl + (128 - tl))) C))) (aC ⟨(dd rfl), (dd rfl), (by first|omega|(simp (disch:=omega) only [wrapI];omega))⟩ (aC ⟨⟨trivial, ⟨(by first|omega|(simp (disch:=omega) only [wrapI];omega)), ⟨trivial, trivial⟩⟩⟩, ⟨rfl, (by first|omega|(simp (disch:=omega) only [wrapI];omega))⟩⟩ (aC (decide_eq_false (by first|omega|(simp (disch:=omega) only [wrapI];omega))) (aC ⟨(by first|omega|(simp (disch:=omega) only [wrapI];omega)), (by first|omega|(simp (disch:=omega) only [wrapI];omega))⟩ (aC ⟨(by first|omega|(simp (disch:=omega) only [wrapI];omega)), ⟨(by first|omega|(simp (disch:=omega) only [wrapI];omega)), (by first|omega|(simp (disch:=omega) only [wrapI];omega))⟩, (by first|omega|(simp (disch:=omega) only [wrapI];omega))⟩ (aC ⟨(dd rfl), (by first|omega|(simp (disch:=omega) only [wrapI];omega)), (by first|omega|(simp (disch:=omega) only [wrapI];omega))⟩ (aC ((congrArg (fun z => AV.o (.a (.i .i64 z))) (wmin_big hp2 h1))) (aC (decide_eq_true (by first|omega|(simp (disch:=omega) only [wrapI];omega))) (aC rfl (aC ⟨⟨trivial, trivial⟩, rfl⟩ (AllP_nil)))))))))))))

end Go.Proofs.Ytlmdhjojinkdbaa.X

/- A Hasher that takes some more bytes: what it holds then, in one form. -/
namespace Go.Proofs.Ytlmdhjojinkdbaa.X
open Go Go.Proofs
set_option linter.unusedVariables false

theorem iter_congr {α : Type} {f g : Nat → α → α} : ∀ {k : Nat} {s : α}, (∀ i s, i < k → f i s = g i s) → iter f k s = iter g k s
  | 0, _, _ => rfl
  | k + 1, s, h => by
    show f k (iter f k s) = g k (iter g k s)
    rw [iter_congr fun i s hi => h i s (by omega), h k _ (by omega)]

theorem iter_head {α : Type} {f : Nat → α → α} : ∀ {k : Nat} {s : α}, iter f (k + 1) s = iter (fun i => f (i + 1)) k (f 0 s)
  | 0, _ => rfl
  | k + 1, s => by
    show f (k + 1) (iter f (k + 1) s) = f (k + 1) (iter (fun i => f (i + 1)) k (f 0 s))
    rw [iter_head]

/-- the state behind k blocks -/
def absN (C D : List Int) (k : Nat) (S : List Int) : List Int := iter (fun i s => blk s (sub D (128 * i) 128) C) k S

theorem sub_all {α : Type} (l : List α) (m : Nat) (h : l.length ≤ m) : sub l 0 m = l := by
  simp [sub, List.take_of_length_le h]
theorem sub_drop {α : Type} (l : List α) (c m : Nat) (h : l.length ≤ c + m) : sub l c m = l.drop c := by
  unfold sub; rw [List.take_of_length_le (by simp; omega)]
theorem sub_zero {α : Type} (l : List α) (c : Nat) : sub l c 0 = [] := by simp [sub]

def wrS (C S L b : List Int) (tl n : Nat) : List Int := absN C (L ++ b) ((tl + n) / 128) S
def wrT (tl n : Nat) : Nat := (tl + n) % 128
def wrN (N : Int) (n : Nat) : Int := IntKind.u64.wrap (N + IntKind.u64.wrap ((n : Nat) : Int))
def wrL (L b : List Int) (tl n : Nat) : List Int := (L ++ b).drop (128 * ((tl + n) / 128))

theorem wr_body (S : List Int) (tl : Nat) (N : Int) (L C : List Int) (n nm : Nat) (b : List Int) (cap3 : Nat) (h0 : (nm = n)) (h1 : (tl < (128 : Nat))) (h2 : (n < (140737488355328 : Nat))) (w : World) (rw : List Nat) (β : Env) :
    Body Try.prog (tabOf tabSD) Try.f84 ⟨w, rw, 4, β⟩ [.o (.a (.p 0 0)), .o (.a (.sl 3 0 n cap3))] [some ⟨true, [.ints .u64 8 S, .rs 1 0 tl 1, .i .u64 N, .p 2 0]⟩, some ⟨true, [.ints .u8 tl L]⟩, some ⟨false, [.ints .u64 80 C]⟩, some ⟨false, [.ints .u8 nm b]⟩]
      (fun ys K' => ys = [] ∧ K' = [some ⟨true, [.ints .u64 8 (wrS C S L b tl n), .rs 4 0 (wrT tl n) 1, .i .u64 (wrN N n), .p 2 0]⟩, none, some ⟨false, [.ints .u64 80 C]⟩, some ⟨false, [.ints .u8 nm b]⟩, some ⟨true, [.ints .u8 (wrT tl n) (wrL L b tl n)]⟩]) := by
  refine Body.lens (c := (Try.f84.body.getD .skip)) rfl fun h => ?_
  have hc3 : n ≤ cap3 := h.caps 1 _ _ _ _ rfl
  have hS : S.length = 8 := h.lens 0 _ .u64 8 S rfl (by simp)
  have hL : L.length = tl := h.lens 1 _ .u8 tl L rfl (by simp)
  have hC : C.length = 80 := h.lens 2 _ .u64 80 C rfl (by simp)
  have hb : b.length = nm := h.lens 3 _ .u8 nm b rfl (by simp)
  subst h0
  by_cases hp : tl = 0
  · refine (wA_body0 S tl N L C nm nm b cap3 rfl h1 h2 hc3 hS hL hC hb hp w rw β).mono fun xs K hx => ?_
    obtain ⟨rfl, rfl⟩ := hx
    have hnil : L = [] := List.length_eq_zero_iff.1 (by omega)
    have e1 : wAL_out0 C b nm S = wrS C S L b tl nm := by
      unfold wAL_out0 wrS absN
      rw [hp, hnil, Nat.zero_add]
      exact iter_congr fun i s hi => rfl
    have e2 : wA tl nm = wrT tl nm := by unfold wA wrT; omega
    have e3 : wA_2 tl L nm b = wrL L b tl nm := by
      unfold wA_2 wrL
      rw [hnil, hp, sub_zero, List.nil_append, List.nil_append, sub_drop _ _ _ (by omega), Nat.zero_add]
    have e4 : wA_1 N nm = wrN N nm := rfl
    rw [e1, e2, e3, e4]; exact ⟨rfl, rfl⟩
  · by_cases hq : tl + nm < 128
    · refine (wB_body0 S tl N L C nm nm b cap3 rfl h1 h2 hc3 hS hL hC hb (by omega) hq w rw β).mono fun xs K hx => ?_
      obtain ⟨rfl, rfl⟩ := hx
      have hd : (tl + nm) / 128 = 0 := by omega
      have e1 : S = wrS C S L b tl nm := by unfold wrS absN; rw [hd]; rfl
      have e2 : wB tl nm = wrT tl nm := by unfold wB wrT; omega
      have e3 : wB_2 tl L nm b = wrL L b tl nm := by
        unfold wB_2 wrL
        rw [hd, sub_all _ _ (by omega), sub_all _ _ (by omega)]; rfl
      have e4 : wB_1 N nm = wrN N nm := rfl
      rw [e2, e3, e4, ← e1]; exact ⟨rfl, rfl⟩
    · refine (wC_body0 S tl N L C nm nm b cap3 rfl h1 h2 hc3 hS hL hC hb (by omega) (by omega) w rw β).mono fun xs K hx => ?_
      obtain ⟨rfl, rfl⟩ := hx
      have hd : (tl + nm) / 128 = (nm - (128 - tl)) / 128 + 1 := by omega
      have hfirst : sub ((sub L 0 tl) ++ (sub b 0 ((128 : Nat) - tl))) (0 : Nat) (tl + ((128 : Nat) - tl)) = sub (L ++ b) 0 128 := by
        rw [sub_all L _ (by omega), sub_all _ _ (by simp [sub]; omega)]
        unfold sub
        simp only [List.drop_zero]
        rw [List.take_append, List.take_of_length_le (l := L) (by omega), hL]
      have e1 : wC S tl L C nm b = wrS C S L b tl nm := by
        unfold wC wCL_out0 wrS absN
        rw [hfirst, hd, iter_head]
        refine iter_congr fun i s hi => ?_
        show blk s _ C = blk s _ C
        congr 1
        unfold sub
        rw [List.drop_append, List.drop_of_length_le (l := L) (by omega), List.nil_append, hL]
        congr 2; omega
      have e2 : wC_1 tl nm = wrT tl nm := by unfold wC_1 wrT; simp only; omega
      have e3 : wC_3 tl L nm b = wrL L b tl nm := by
        unfold wC_3 wrL
        simp only
        rw [sub_zero, List.nil_append, hd, List.drop_append, List.drop_of_length_le (l := L) (by omega), List.nil_append, hL, sub_drop _ _ _ (by omega)]
        congr 1; omega
      have e4 : wC_2 N nm = wrN N nm := rfl
      rw [e1, e2, e3, e4]; exact ⟨rfl, rfl⟩
end Go.Proofs.Ytlmdhjojinkdbaa.X

/- Plain lemmas on the bytes behind a message, for the walk of a Hasher's Sum. -/
namespace Go.Proofs.Ytlmdhjojinkdbaa.X
open Go Go.Proofs

theorem pad_eq (N : Int) : pad N = (padE N).toNat + 16 := rfl

theorem pad_le (N : Int) : 17 ≤ pad N ∧ pad N ≤ 144 := by
  have := padE_ok N
  rw [pad_eq]; omega

theorem pad_mod {N : Int} {tl : Nat} (h0 : 0 ≤ N) (h : Int.tmod N 128 = ((tl : Nat) : Int)) : (tl + pad N) % 128 = 0 ∧ tl < 128 := by
  have h1 : Int.tmod N 128 = N % 128 := Int.tmod_eq_emod_of_nonneg h0
  have h2 : padE N = 1 + (239 - (tl : Int)) % 128 := by
    unfold padE
    rw [h]
    have : (tl : Int) < 128 := by omega
    rw [wrapU (x := 239 - (tl : Int)) (by omega) (by omega), Int.tmod_eq_emod_of_nonneg (by omega), wrapU (by omega) (by omega)]
  rw [pad_eq, h2]
  omega
end Go.Proofs.Ytlmdhjojinkdbaa.X

/- Printed by a tool of this session. -/
namespace Go.Proofs.Ytlmdhjojinkdbaa.X
open Go Go.Proofs
set_option linter.unusedVariables false
set_option linter.unusedSimpArgs false
set_option maxRecDepth 100000
theorem teSG_3 : TEOk Try.prog 3 ⟨.int .i64, 1, 8, [.i .i64 (0 : Int)], false⟩ :=
  TEOk.of Try.underlying3 (i := Try.t3) (by kernel_rfl) rfl rfl rfl (by kernel_rfl) (fun h => by cases h) (by kernel_rfl)
theorem teSG_5 : TEOk Try.prog 5 ⟨.int .u8, 1, 1, [.i .u8 (0 : Int)], false⟩ :=
  TEOk.of Try.underlying5 (i := Try.t5) (by kernel_rfl) rfl rfl rfl (by kernel_rfl) (fun h => by cases h) (by kernel_rfl)
theorem teSG_22 : TEOk Try.prog 22 ⟨.slice 5, 1, 24, [.raw (.slice none 0 0)], false⟩ :=
  TEOk.of Try.underlying22 (i := Try.t22) (by kernel_rfl) rfl rfl rfl (by kernel_rfl) (fun h => by cases h) (by kernel_rfl)
theorem teSG_32 : TEOk Try.prog 32 ⟨.array 64 5, 64, 64, [.ints .u8 64 (List.replicate 64 0)], true⟩ :=
  TEOk.of Try.underlying32 (i := Try.t32) (by kernel_rfl) rfl rfl rfl (by kernel_rfl) (fun _ => Try.eqGuardType32) (by kernel_rfl)
theorem teSG_147 : TEOk Try.prog 147 ⟨.int .u64, 1, 8, [.i .u64 (0 : Int)], false⟩ :=
  TEOk.of Try.underlying147 (i := Try.t147) (by kernel_rfl) rfl rfl rfl (by kernel_rfl) (fun h => by cases h) (by kernel_rfl)
theorem teSG_148 : TEOk Try.prog 148 ⟨.array 8 147, 8, 64, [.ints .u64 (8 : Nat) ([0, 0, 0, 0, 0, 0, 0, 0] : List Int)], true⟩ :=
  TEOk.of Try.underlying148 (i := Try.t148) (by kernel_rfl) rfl rfl rfl (by kernel_rfl) (fun _ => Try.eqGuardType148) (by kernel_rfl)
theorem teSG_224 : TEOk Try.prog 224 ⟨.pointer 222, 1, 8, [.raw (.pointer none)], false⟩ :=
  TEOk.of Try.underlying224 (i := Try.t224) (by kernel_rfl) rfl rfl rfl (by kernel_rfl) (fun h => by cases h) (by kernel_rfl)
theorem teSG_226 : TEOk Try.prog 226 ⟨Try.t225.desc, 11, 104, [.ints .u64 (8 : Nat) ([0, 0, 0, 0, 0, 0, 0, 0] : List Int), .raw (.slice none 0 0), .i .u64 (0 : Int), .raw (.pointer none)], false⟩ :=
  TEOk.of Try.underlying226 (i := Try.t226) (by kernel_rfl) rfl rfl rfl (by kernel_rfl) (fun h => by cases h) (by kernel_rfl)
noncomputable def tabSG : List (Nat × TE) := [(3, ⟨.int .i64, 1, 8, [.i .i64 (0 : Int)], false⟩), (5, ⟨.int .u8, 1, 1, [.i .u8 (0 : Int)], false⟩), (22, ⟨.slice 5, 1, 24, [nlA], false⟩), (32, ⟨.array 64 5, 64, 64, [.ints .u8 64 (List.replicate 64 0)], true⟩), (147, ⟨.int .u64, 1, 8, [.i .u64 (0 : Int)], false⟩), (148, ⟨.array 8 147, 8, 64, [.ints .u64 8 ([0, 0, 0, 0, 0, 0, 0, 0] : List Int)], true⟩), (224, ⟨.pointer 222, 1, 8, [.raw (.pointer none)], false⟩), (226, ⟨Try.t225.desc, 11, 104, [.ints .u64 8 ([0, 0, 0, 0, 0, 0, 0, 0] : List Int), nlA, .i .u64 (0 : Int), .raw (.pointer none)], false⟩)]
theorem tabOkSG : TabOk Try.prog (tabOf tabSG) := (tabOf_cons teSG_3 (tabOf_cons teSG_5 (tabOf_cons teSG_22 (tabOf_cons teSG_32 (tabOf_cons teSG_147 (tabOf_cons teSG_148 (tabOf_cons teSG_224 (tabOf_cons teSG_226 tabOf_nil))))))))

def gam13 : Gam := gcall 84 [true, true, false] [.w, .s 1] (fun wk vs args => match wk, vs, args with | [⟨true, [.ints .u64 8 S, .rs 1 0 tl 1, .i .u64 N, .p 2 0]⟩, ⟨true, [.ints .u8 tl_1 L]⟩, ⟨false, [.ints .u64 80 C]⟩], [⟨_, _, _, [.ints .u8 nm b]⟩], [.o (.a (.p 0 0)), .o (.a (.sl 3 0 n _))] => some ((tl_1 = tl) ∧ (nm = n) ∧ (tl < 128) ∧ (n < 140737488355328), [], [some ⟨true, [.ints .u64 8 (wrS C S L b tl n), .rs 4 0 (wrT tl n) 1, .i .u64 (wrN N n), .p 2 0]⟩, none, some ⟨false, [.ints .u64 80 C]⟩, some ⟨false, [.ints .u8 nm b]⟩, some ⟨true, [.ints .u8 (wrT tl n) (wrL L b tl n)]⟩]) | _, _, _ => none) gam12
theorem gam13_ok : GamOk Try.prog gam13 := gcall_ok tabOkSG Try.func84 gam12_ok Try.call84 (by
  intro wk vs args p xs K1 h hv
  split at h
  · simp only [Option.some.injEq, Prod.mk.injEq] at h; obtain ⟨rfl, rfl, rfl⟩ := h; obtain ⟨g0, g1, g2, g3⟩ := hv; subst g0; exact fun caps w rw β => wr_body _ _ _ _ _ _ _ _ _ g1 g2 g3 w rw β
  · simp at h)

def sumL_mk (S : List Int) (tl : Nat) (N : Int) (L C : List Int) (k : Nat) (s : (List Int)) : St := ⟨sparse 64 [(0, .o (.a (.p 0 0))), (2, .o (.a (.p 3 0))), (3, .o (.a (.p 4 0))), (4, .o (.a (.p 5 0))), (5, .o (.a (.sl 6 (128 * k) ((tl + (pad N)) - (128 * k)) (512 - (128 * k))))), (7, .o (.a (.p 0 0))), (8, .o (.a (.b true))), (9, .o (.a (.b false))), (11, .o (.a (.p 0 0))), (12, .o (.a (.p 0 0))), (13, .o (.a (.p 0 0))), (14, .o (.g [.ints .u64 8 S])), (15, .o (.a (.p 0 0))), (16, .o (.a (.p 0 0))), (17, .o (.a (.p 0 8))), (18, .o (.a (.rs 1 0 tl 1))), (19, .o (.a (.i .i64 ((tl : Nat) : Int)))), (20, .o (.a (.sl 6 0 tl 512))), (21, .o (.a (.sl 6 0 tl 512))), (22, .o (.a (.p 0 0))), (23, .o (.a (.p 0 0))), (24, .o (.a (.p 0 8))), (25, .o (.a (.rs 1 0 tl 1))), (27, .o (.a (.sl 6 0 tl 512))), (28, .o (.a (.p 0 0))), (29, .o (.a (.p 0 0))), (30, .o (.a (.p 0 9))), (31, .o (.a (.i .u64 N))), (32, .o (.a (.sl 7 0 (pad N) 256))), (33, .o (.a (.sl 6 0 (tl + (pad N)) 512)))], [some ⟨false, [.ints .u64 8 S, .rs 1 0 tl 1, .i .u64 N, .p 2 0]⟩, some ⟨false, [.ints .u8 tl L]⟩, some ⟨false, [.ints .u64 80 C]⟩, some ⟨true, [.ints .u8 64 (List.replicate 64 0)]⟩, some ⟨true, [.ints .u8 64 (List.replicate 64 0)]⟩, some ⟨true, [.ints .u64 8 s]⟩, some ⟨true, [.ints .u8 512 (splice (splice (List.replicate 512 (0 : Int)) 0 (min tl tl) (sub L 0 (min tl tl))) (0 + tl) (pad N) (sub (pad_1 N) 0 (pad N)))]⟩, some ⟨true, [.ints .u8 256 (pad_1 N)]⟩]⟩

def sumL_step (tl : Nat) (N : Int) (L C : List Int) (k : Nat) (s : (List Int)) : (List Int) :=
  ((blk s (sub (splice (splice (List.replicate (512 : Nat) (0 : Int)) (0 : Nat) (min tl tl) (sub L 0 (min tl tl))) ((0 : Nat) + tl) (pad N) (sub (pad_1 N) (0 : Nat) (pad N))) ((128 : Nat) * k) (128 : Nat)) C))

set_option maxHeartbeats 1000000 in
theorem sumL_round (S : List Int) (tl : Nat) (N : Int) (L C : List Int) (h0 : ((0 : Int) ≤ N)) (h1 : ((Int.tmod N (128 : Int)) = ((tl : Nat) : Int))) (hl0_0 : List.length S = 8) (hl1_0 : List.length L = tl) (hl2_0 : List.length C = 80) (w : World) (rw : List Nat) (β : Env) (k : Nat) (hk : k < ((tl + (pad N)) / 128)) (s : (List Int)) : Run Try.prog ⟨w, rw, 3, β⟩ (loopB Try.f85 0) (sumL_mk S tl N L C k s) (To ⟨w, rw, 3, β⟩ .normal (sumL_mk S tl N L C (k + 1) (sumL_step tl N L C k s))) := by
  have e0 : (((tl + (pad N)) - ((128 : Nat) * k)) - (128 : Nat)) = ((tl + (pad N)) - ((128 : Nat) * (k + (1 : Nat)))) := (by first | rfl | exact wrap_succ (by omega) | omega | (simp (disch := omega) only [wrapI]; omega))
  have e1 : (((512 : Nat) - ((128 : Nat) * k)) - (128 : Nat)) = ((512 : Nat) - ((128 : Nat) * (k + (1 : Nat)))) := (by first | rfl | exact wrap_succ (by omega) | omega | (simp (disch := omega) only [wrapI]; omega))
  have e2 : (((128 : Nat) * k) + (128 : Nat)) = ((128 : Nat) * (k + (1 : Nat))) := (by first | rfl | exact wrap_succ (by omega) | omega | (simp (disch := omega) only [wrapI]; omega))
  have h := Run.of_outT (B := ⟨w, rw, 3, β⟩) (Λ := noLam) (Ψ := noPsi) (fuel := 0) (ora := [true]) (c := (loopB Try.f85 0)) (st := (sumL_mk S tl N L C k s)) (l := [.forget [0, 2, 3, 4, 5, 7, 8, 9, 11, 12, 13, 14, 15, 16, 17, 18, 19, 20, 21, 22, 23, 24, 25, 27, 28, 29, 30, 31, 32, 33] 8]) (s' := ⟨sparse 64 [(0, .o (.a (.p 0 0))), (2, .o (.a (.p 3 0))), (3, .o (.a (.p 4 0))), (4, .o (.a (.p 5 0))), (5, .o (.a (.sl 6 ((128 * k) + 128) (((tl + (pad N)) - (128 * k)) - 128) ((512 - (128 * k)) - 128)))), (7, .o (.a (.p 0 0))), (8, .o (.a (.b true))), (9, .o (.a (.b false))), (11, .o (.a (.p 0 0))), (12, .o (.a (.p 0 0))), (13, .o (.a (.p 0 0))), (14, .o (.g [.ints .u64 8 S])), (15, .o (.a (.p 0 0))), (16, .o (.a (.p 0 0))), (17, .o (.a (.p 0 8))), (18, .o (.a (.rs 1 0 tl 1))), (19, .o (.a (.i .i64 ((tl : Nat) : Int)))), (20, .o (.a (.sl 6 0 tl 512))), (21, .o (.a (.sl 6 0 tl 512))), (22, .o (.a (.p 0 0))), (23, .o (.a (.p 0 0))), (24, .o (.a (.p 0 8))), (25, .o (.a (.rs 1 0 tl 1))), (27, .o (.a (.sl 6 0 tl 512))), (28, .o (.a (.p 0 0))), (29, .o (.a (.p 0 0))), (30, .o (.a (.p 0 9))), (31, .o (.a (.i .u64 N))), (32, .o (.a (.sl 7 0 (pad N) 256))), (33, .o (.a (.sl 6 0 (tl + (pad N)) 512)))], [some ⟨false, [.ints .u64 8 S, .rs 1 0 tl 1, .i .u64 N, .p 2 0]⟩, some ⟨false, [.ints .u8 tl L]⟩, some ⟨false, [.ints .u64 80 C]⟩, some ⟨true, [.ints .u8 64 (List.replicate 64 0)]⟩, some ⟨true, [.ints .u8 64 (List.replicate 64 0)]⟩, some ⟨true, [.ints .u64 8 (sumL_step tl N L C k s)]⟩, some ⟨true, [.ints .u8 512 (splice (splice (List.replicate 512 (0 : Int)) 0 (min tl tl) (sub L 0 (min tl tl))) (0 + tl) (pad N) (sub (pad_1 N) 0 (pad N)))]⟩, some ⟨true, [.ints .u8 256 (pad_1 N)]⟩]⟩) (ex := .normal) mix tabOkSG gam13_ok
    (vc := [((cZ 128) ∧ ((128 : Int) ≤ ((((tl + (pad N)) - (128 * k)) : Nat) : Int))), ((True ∧ ((((128 * k) + 128) ≤ 512) ∧ (True ∧ True))) ∧ ((128 = 128) ∧ (128 = 128))), ((cZ 0) ∧ (cZ 128) ∧ ((128 : Int) ≤ (((512 - (128 * k)) : Nat) : Int))), ((decide (((((tl + (pad N)) - (128 * k)) : Nat) : Int) > (0 : Int))) = true)]) (by kernel_rfl)
    (aC ⟨(dd rfl), (by have hp1 := pad_le N; have hp2 := pad_mod h0 h1; first | omega | (simp (disch := omega) only [wrapI]; omega))⟩ (aC ⟨⟨trivial, ⟨(by have hp1 := pad_le N; have hp2 := pad_mod h0 h1; first | omega | (simp (disch := omega) only [wrapI]; omega)), ⟨trivial, trivial⟩⟩⟩, ⟨rfl, rfl⟩⟩ (aC ⟨(dd rfl), (dd rfl), (by have hp1 := pad_le N; have hp2 := pad_mod h0 h1; first | omega | (simp (disch := omega) only [wrapI]; omega))⟩ (aC (decide_eq_true (by have hp1 := pad_le N; have hp2 := pad_mod h0 h1; first | omega | (simp (disch := omega) only [wrapI]; omega))) (AllP_nil)))))
  rw [e0, e1, e2] at h
  exact h

set_option maxHeartbeats 1000000 in
theorem sumL_last (S : List Int) (tl : Nat) (N : Int) (L C : List Int) (h0 : ((0 : Int) ≤ N)) (h1 : ((Int.tmod N (128 : Int)) = ((tl : Nat) : Int))) (hl0_0 : List.length S = 8) (hl1_0 : List.length L = tl) (hl2_0 : List.length C = 80) (w : World) (rw : List Nat) (β : Env) (s : (List Int)) : Run Try.prog ⟨w, rw, 3, β⟩ (loopB Try.f85 0) (sumL_mk S tl N L C ((tl + (pad N)) / 128) s) (To ⟨w, rw, 3, β⟩ (.exit 0) (sumL_mk S tl N L C ((tl + (pad N)) / 128) s)) :=
  Run.of_outT (B := ⟨w, rw, 3, β⟩) (Λ := noLam) (Ψ := noPsi) (fuel := 0) (ora := [false]) (l := [.forget [0, 2, 3, 4, 5, 7, 8, 9, 11, 12, 13, 14, 15, 16, 17, 18, 19, 20, 21, 22, 23, 24, 25, 27, 28, 29, 30, 31, 32, 33] 8]) mix tabOkSG gam13_ok
    (vc := [((decide (((((tl + (pad N)) - ((128 : Nat) * ((tl + (pad N)) / (128 : Nat)))) : Nat) : Int) > (0 : Int))) = false)]) (by kernel_rfl)
    (aC (decide_eq_false (by have hp1 := pad_le N; have hp2 := pad_mod h0 h1; first | omega | (simp (disch := omega) only [wrapI]; omega))) (AllP_nil))

theorem sumL_loop (S : List Int) (tl : Nat) (N : Int) (L C : List Int) (h0 : ((0 : Int) ≤ N)) (h1 : ((Int.tmod N (128 : Int)) = ((tl : Nat) : Int))) (hl0_0 : List.length S = 8) (hl1_0 : List.length L = tl) (hl2_0 : List.length C = 80) (w : World) (rw : List Nat) (β : Env) (s : (List Int)) : Run Try.prog ⟨w, rw, 3, β⟩ (.block 0 (.loop (loopB Try.f85 0))) (sumL_mk S tl N L C 0 s) (To ⟨w, rw, 3, β⟩ .normal (sumL_mk S tl N L C ((tl + (pad N)) / 128) (iter (sumL_step tl N L C) ((tl + (pad N)) / 128) s))) :=
  Run.count (fun k => sumL_mk S tl N L C k (iter (sumL_step tl N L C) k s)) ((tl + (pad N)) / 128) (fun k hk => sumL_round S tl N L C h0 h1 hl0_0 hl1_0 hl2_0 w rw β k hk _) (ex := (.exit 0)) (by simp) (sumL_last S tl N L C h0 h1 hl0_0 hl1_0 hl2_0 w rw β _)

def sumL_out0 (tl : Nat) (N : Int) (L C i0 : List Int) : List Int := (iter (sumL_step tl N L C) ((tl + (pad N)) / (128 : Nat)) (i0))

def hsum (S : List Int) (tl : Nat) (N : Int) (L C : List Int) : List Int :=
  let z0 : List Int := (sumL_out0 tl N L C S)
  let z1 : Int := (List.getD z0 (7 : Nat) 0)
  let z2 : Int := (List.getD z0 (6 : Nat) 0)
  let z3 : Int := (List.getD z0 (5 : Nat) 0)
  let z4 : Int := (List.getD z0 (4 : Nat) 0)
  let z5 : Int := (List.getD z0 (3 : Nat) 0)
  let z6 : Int := (List.getD z0 (2 : Nat) 0)
  let z7 : Int := (List.getD z0 (1 : Nat) 0)
  let z8 : Int := (List.getD z0 (0 : Nat) 0)
  ([(IntKind.u8.wrap (shr .u64 z8 (56 : Int))), (IntKind.u8.wrap (shr .u64 z8 (48 : Int))), (IntKind.u8.wrap (shr .u64 z8 (40 : Int))), (IntKind.u8.wrap (shr .u64 z8 (32 : Int))), (IntKind.u8.wrap (shr .u64 z8 (24 : Int))), (IntKind.u8.wrap (shr .u64 z8 (16 : Int))), (IntKind.u8.wrap (shr .u64 z8 (8 : Int))), (IntKind.u8.wrap (shr .u64 z8 (0 : Int))), (IntKind.u8.wrap (shr .u64 z7 (56 : Int))), (IntKind.u8.wrap (shr .u64 z7 (48 : Int))), (IntKind.u8.wrap (shr .u64 z7 (40 : Int))), (IntKind.u8.wrap (shr .u64 z7 (32 : Int))), (IntKind.u8.wrap (shr .u64 z7 (24 : Int))), (IntKind.u8.wrap (shr .u64 z7 (16 : Int))), (IntKind.u8.wrap (shr .u64 z7 (8 : Int))), (IntKind.u8.wrap (shr .u64 z7 (0 : Int))), (IntKind.u8.wrap (shr .u64 z6 (56 : Int))), (IntKind.u8.wrap (shr .u64 z6 (48 : Int))), (IntKind.u8.wrap (shr .u64 z6 (40 : Int))), (IntKind.u8.wrap (shr .u64 z6 (32 : Int))), (IntKind.u8.wrap (shr .u64 z6 (24 : Int))), (IntKind.u8.wrap (shr .u64 z6 (16 : Int))), (IntKind.u8.wrap (shr .u64 z6 (8 : Int))), (IntKind.u8.wrap (shr .u64 z6 (0 : Int))), (IntKind.u8.wrap (shr .u64 z5 (56 : Int))), (IntKind.u8.wrap (shr .u64 z5 (48 : Int))), (IntKind.u8.wrap (shr .u64 z5 (40 : Int))), (IntKind.u8.wrap (shr .u64 z5 (32 : Int))), (IntKind.u8.wrap (shr .u64 z5 (24 : Int))), (IntKind.u8.wrap (shr .u64 z5 (16 : Int))), (IntKind.u8.wrap (shr .u64 z5 (8 : Int))), (IntKind.u8.wrap (shr .u64 z5 (0 : Int))), (IntKind.u8.wrap (shr .u64 z4 (56 : Int))), (IntKind.u8.wrap (shr .u64 z4 (48 : Int))), (IntKind.u8.wrap (shr .u64 z4 (40 : Int))), (IntKind.u8.wrap (shr .u64 z4 (32 : Int))), (IntKind.u8.wrap (shr .u64 z4 (24 : Int))), (IntKind.u8.wrap (shr .u64 z4 (16 : Int))), (IntKind.u8.wrap (shr .u64 z4 (8 : Int))), (IntKind.u8.wrap (shr .u64 z4 (0 : Int))), (IntKind.u8.wrap (shr .u64 z3 (56 : Int))), (IntKind.u8.wrap (shr .u64 z3 (48 : Int))), (IntKind.u8.wrap (shr .u64 z3 (40 : Int))), (IntKind.u8.wrap (shr .u64 z3 (32 : Int))), (IntKind.u8.wrap (shr .u64 z3 (24 : Int))), (IntKind.u8.wrap (shr .u64 z3 (16 : Int))), (IntKind.u8.wrap (shr .u64 z3 (8 : Int))), (IntKind.u8.wrap (shr .u64 z3 (0 : Int))), (IntKind.u8.wrap (shr .u64 z2 (56 : Int))), (IntKind.u8.wrap (shr .u64 z2 (48 : Int))), (IntKind.u8.wrap (shr .u64 z2 (40 : Int))), (IntKind.u8.wrap (shr .u64 z2 (32 : Int))), (IntKind.u8.wrap (shr .u64 z2 (24 : Int))), (IntKind.u8.wrap (shr .u64 z2 (16 : Int))), (IntKind.u8.wrap (shr .u64 z2 (8 : Int))), (IntKind.u8.wrap (shr .u64 z2 (0 : Int))), (IntKind.u8.wrap (shr .u64 z1 (56 : Int))), (IntKind.u8.wrap (shr .u64 z1 (48 : Int))), (IntKind.u8.wrap (shr .u64 z1 (40 : Int))), (IntKind.u8.wrap (shr .u64 z1 (32 : Int))), (IntKind.u8.wrap (shr .u64 z1 (24 : Int))), (IntKind.u8.wrap (shr .u64 z1 (16 : Int))), (IntKind.u8.wrap (shr .u64 z1 (8 : Int))), (IntKind.u8.wrap (shr .u64 z1 (0 : Int)))] : List Int)

set_option maxHeartbeats 1000000 in
theorem hsum_body0 (S : List Int) (tl : Nat) (N : Int) (L C : List Int) (h0 : ((0 : Int) ≤ N)) (h1 : ((Int.tmod N (128 : Int)) = ((tl : Nat) : Int))) (hl0_0 : List.length S = 8) (hl1_0 : List.length L = tl) (hl2_0 : List.length C = 80) (w : World) (rw : List Nat) (β : Env) : Body Try.prog (tabOf tabSG) Try.f85 ⟨w, rw, 3, β⟩ [.o (.a (.p 0 0))] [some ⟨false, [.ints .u64 8 S, .rs 1 0 tl 1, .i .u64 N, .p 2 0]⟩, some ⟨false, [.ints .u8 tl L]⟩, some ⟨false, [.ints .u64 80 C]⟩] (fun ys K' => ys = [.g [.ints .u8 64 (hsum S tl N L C)]] ∧ K' = [some ⟨false, [.ints .u64 8 S, .rs 1 0 tl 1, .i .u64 N, .p 2 0]⟩, some ⟨false, [.ints .u8 tl L]⟩, some ⟨false, [.ints .u64 80 C]⟩]) :=
  Body.of_finK (Γ := gam13) (Λ := lamOf [(0, ⟨[.forget [0, 2, 3, 4, 5, 7, 8, 9, 11, 12, 13, 14, 15, 16, 17, 18, 19, 20, 21, 22, 23, 24, 25, 27, 28, 29, 30, 31, 32, 33] 8], .normal, (sumL_mk S tl N L C ((tl + (pad N)) / 128) (iter (sumL_step tl N L C) ((tl + (pad N)) / 128) (S)))⟩)]) (Ψ := noPsi) (fuel := 65) (m := 64) (c := (Try.f85.body.getD .skip)) mix tabOkSG gam13_ok rfl (rs := [.cell 2 32]) rfl rfl [false, true, true, true, true, true, true, true, true, true, true, true, true, true, true, true, true, true, true, true, true, true, true, true, true, true, true, true, true, true, true, true, true, true, true, true, true, true, true, true, true, true, true, true, true, true, true, true, true, true, true, true, true, true, true, true, true, true, true, true, true, true, true, true, true, true, false] [] 3
    (vc := [(false = false), (cN 63 64), (cI 63 64), (cZ 0), ((8 : Int) ≠ 0), (cN 7 8), (cI 7 8), ((8 : Int) ≠ 0), cT, (cN 62 64), (cI 62 64), (cZ 8), ((8 : Int) ≠ 0), (cN 7 8), (cI 7 8), ((8 : Int) ≠ 0), cT, (cN 61 64), (cI 61 64), (cZ 16), ((8 : Int) ≠ 0), (cN 7 8), (cI 7 8), ((8 : Int) ≠ 0), cT, (cN 60 64), (cI 60 64), (cZ 24), ((8 : Int) ≠ 0), (cN 7 8), (cI 7 8), ((8 : Int) ≠ 0), cT, (cN 59 64), (cI 59 64), (cZ 32), ((8 : Int) ≠ 0), (cN 7 8), (cI 7 8), ((8 : Int) ≠ 0), cT, (cN 58 64), (cI 58 64), (cZ 40), ((8 : Int) ≠ 0), (cN 7 8), (cI 7 8), ((8 : Int) ≠ 0), cT, (cN 57 64), (cI 57 64), (cZ 48), ((8 : Int) ≠ 0), (cN 7 8), (cI 7 8), ((8 : Int) ≠ 0), cT, (cN 56 64), (cI 56 64), (cZ 56), ((8 : Int) ≠ 0), (cN 7 8), (cI 7 8), ((8 : Int) ≠ 0), cT, (cN 55 64), (cI 55 64), (cZ 0), ((8 : Int) ≠ 0), (cN 6 8), (cI 6 8), ((8 : Int) ≠ 0), cT, (cN 54 64), (cI 54 64), (cZ 8), ((8 : Int) ≠ 0), (cN 6 8), (cI 6 8), ((8 : Int) ≠ 0), cT, (cN 53 64), (cI 53 64), (cZ 16), ((8 : Int) ≠ 0), (cN 6 8), (cI 6 8), ((8 : Int) ≠ 0), cT, (cN 52 64), (cI 52 64), (cZ 24), ((8 : Int) ≠ 0), (cN 6 8), (cI 6 8), ((8 : Int) ≠ 0), cT, (cN 51 64), (cI 51 64), (cZ 32), ((8 : Int) ≠ 0), (cN 6 8), (cI 6 8), ((8 : Int) ≠ 0), cT, (cN 50 64), (cI 50 64), (cZ 40), ((8 : Int) ≠ 0), (cN 6 8), (cI 6 8), ((8 : Int) ≠ 0), cT, (cN 49 64), (cI 49 64), (cZ 48), ((8 : Int) ≠ 0), (cN 6 8), (cI 6 8), ((8 : Int) ≠ 0), cT, (cN 48 64), (cI 48 64), (cZ 56), ((8 : Int) ≠ 0), (cN 6 8), (cI 6 8), ((8 : Int) ≠ 0), cT, (cN 47 64), (cI 47 64), (cZ 0), ((8 : Int) ≠ 0), (cN 5 8), (cI 5 8), ((8 : Int) ≠ 0), cT, (cN 46 64), (cI 46 64), (cZ 8), ((8 : Int) ≠ 0), (cN 5 8), (cI 5 8), ((8 : Int) ≠ 0), cT, (cN 45 64), (cI 45 64), (cZ 16), ((8 : Int) ≠ 0), (cN 5 8), (cI 5 8), ((8 : Int) ≠ 0), cT, (cN 44 64), (cI 44 64), (cZ 24), ((8 : Int) ≠ 0), (cN 5 8), (cI 5 8), ((8 : Int) ≠ 0), cT, (cN 43 64), (cI 43 64), (cZ 32), ((8 : Int) ≠ 0), (cN 5 8), (cI 5 8), ((8 : Int) ≠ 0), cT, (cN 42 64), (cI 42 64), (cZ 40), ((8 : Int) ≠ 0), (cN 5 8), (cI 5 8), ((8 : Int) ≠ 0), cT, (cN 41 64), (cI 41 64), (cZ 48), ((8 : Int) ≠ 0), (cN 5 8), (cI 5 8), ((8 : Int) ≠ 0), cT, (cN 40 64), (cI 40 64), (cZ 56), ((8 : Int) ≠ 0), (cN 5 8), (cI 5 8), ((8 : Int) ≠ 0), cT, (cN 39 64), (cI 39 64), (cZ 0), ((8 : Int) ≠ 0), (cN 4 8), (cI 4 8), ((8 : Int) ≠ 0), cT, (cN 38 64), (cI 38 64), (cZ 8), ((8 : Int) ≠ 0), (cN 4 8), (cI 4 8), ((8 : Int) ≠ 0), cT, (cN 37 64), (cI 37 64), (cZ 16), ((8 : Int) ≠ 0), (cN 4 8), (cI 4 8), ((8 : Int) ≠ 0), cT, (cN 36 64), (cI 36 64), (cZ 24), ((8 : Int) ≠ 0), (cN 4 8), (cI 4 8), ((8 : Int) ≠ 0), cT, (cN 35 64), (cI 35 64), (cZ 32), ((8 : Int) ≠ 0), (cN 4 8), (cI 4 8), ((8 : Int) ≠ 0), cT, (cN 34 64), (cI 34 64), (cZ 40), ((8 : Int) ≠ 0), (cN 4 8), (cI 4 8), ((8 : Int) ≠ 0), cT, (cN 33 64), (cI 33 64), (cZ 48), ((8 : Int) ≠ 0), (cN 4 8), (cI 4 8), ((8 : Int) ≠ 0), cT, (cN 32 64), (cI 32 64), (cZ 56), ((8 : Int) ≠ 0), (cN 4 8), (cI 4 8), ((8 : Int) ≠ 0), cT, (cN 31 64), (cI 31 64), (cZ 0), ((8 : Int) ≠ 0), (cN 3 8), (cI 3 8), ((8 : Int) ≠ 0), cT, (cN 30 64), (cI 30 64), (cZ 8), ((8 : Int) ≠ 0), (cN 3 8), (cI 3 8), ((8 : Int) ≠ 0), cT, (cN 29 64), (cI 29 64), (cZ 16), ((8 : Int) ≠ 0), (cN 3 8), (cI 3 8), ((8 : Int) ≠ 0), cT, (cN 28 64), (cI 28 64), (cZ 24), ((8 : Int) ≠ 0), (cN 3 8), (cI 3 8), ((8 : Int) ≠ 0), cT, (cN 27 64), (cI 27 64), (cZ 32), ((8 : Int) ≠ 0), (cN 3 8), (cI 3 8), ((8 : Int) ≠ 0), cT, (cN 26 64), (cI 26 64), (cZ 40), ((8 : Int) ≠ 0), (cN 3 8), (cI 3 8), ((8 : Int) ≠ 0), cT, (cN 25 64), (cI 25 64), (cZ 48), ((8 : Int) ≠ 0), (cN 3 8), (cI 3 8), ((8 : Int) ≠ 0), cT, (cN 24 64), (cI 24 64), (cZ 56), ((8 : Int) ≠ 0), (cN 3 8), (cI 3 8), ((8 : Int) ≠ 0), cT, (cN 23 64), (cI 23 64), (cZ 0), ((8 : Int) ≠ 0), (cN 2 8), (cI 2 8), ((8 : Int) ≠ 0), cT, (cN 22 64), (cI 22 64), (cZ 8), ((8 : Int) ≠ 0), (cN 2 8), (cI 2 8), ((8 : Int) ≠ 0), cT, (cN 21 64), (cI 21 64), (cZ 16), ((8 : Int) ≠ 0), (cN 2 8), (cI 2 8), ((8 : Int) ≠ 0), cT, (cN 20 64), (cI 20 64), (cZ 24), ((8 : Int) ≠ 0), (cN 2 8), (cI 2 8), ((8 : Int) ≠ 0), cT, (cN 19 64), (cI 19 64), (cZ 32), ((8 : Int) ≠ 0), (cN 2 8), (cI 2 8), ((8 : Int) ≠ 0), cT, (cN 18 64), (cI 18 64), (cZ 40), ((8 : Int) ≠ 0), (cN 2 8), (cI 2 8), ((8 : Int) ≠ 0), cT, (cN 17 64), (cI 17 64), (cZ 48), ((8 : Int) ≠ 0), (cN 2 8), (cI 2 8), ((8 : Int) ≠ 0), cT, (cN 16 64), (cI 16 64), (cZ 56), ((8 : Int) ≠ 0), (cN 2 8), (cI 2 8), ((8 : Int) ≠ 0), cT, (cN 15 64), (cI 15 64), (cZ 0), ((8 : Int) ≠ 0), (cN 1 8), (cI 1 8), ((8 : Int) ≠ 0), cT, (cN 14 64), (cI 14 64), (cZ 8), ((8 : Int) ≠ 0), (cN 1 8), (cI 1 8), ((8 : Int) ≠ 0), cT, (cN 13 64), (cI 13 64), (cZ 16), ((8 : Int) ≠ 0), (cN 1 8), (cI 1 8), ((8 : Int) ≠ 0), cT, (cN 12 64), (cI 12 64), (cZ 24), ((8 : Int) ≠ 0), (cN 1 8), (cI 1 8), ((8 : Int) ≠ 0), cT, (cN 11 64), (cI 11 64), (cZ 32), ((8 : Int) ≠ 0), (cN 1 8), (cI 1 8), ((8 : Int) ≠ 0), cT, (cN 10 64), (cI 10 64), (cZ 40), ((8 : Int) ≠ 0), (cN 1 8), (cI 1 8), ((8 : Int) ≠ 0), cT, (cN 9 64), (cI 9 64), (cZ 48), ((8 : Int) ≠ 0), (cN 1 8), (cI 1 8), ((8 : Int) ≠ 0), cT, (cN 8 64), (cI 8 64), (cZ 56), ((8 : Int) ≠ 0), (cN 1 8), (cI 1 8), ((8 : Int) ≠ 0), cT, (cN 7 64), (cI 7 64), (cZ 0), ((8 : Int) ≠ 0), (cN 0 8), (cI 0 8), ((8 : Int) ≠ 0), cT, (cN 6 64), (cI 6 64), (cZ 8), ((8 : Int) ≠ 0), (cN 0 8), (cI 0 8), ((8 : Int) ≠ 0), cT, (cN 5 64), (cI 5 64), (cZ 16), ((8 : Int) ≠ 0), (cN 0 8), (cI 0 8), ((8 : Int) ≠ 0), cT, (cN 4 64), (cI 4 64), (cZ 24), ((8 : Int) ≠ 0), (cN 0 8), (cI 0 8), ((8 : Int) ≠ 0), cT, (cN 3 64), (cI 3 64), (cZ 32), ((8 : Int) ≠ 0), (cN 0 8), (cI 0 8), ((8 : Int) ≠ 0), cT, (cN 2 64), (cI 2 64), (cZ 40), ((8 : Int) ≠ 0), (cN 0 8), (cI 0 8), ((8 : Int) ≠ 0), cT, (cN 1 64), (cI 1 64), (cZ 48), ((8 : Int) ≠ 0), (cN 0 8), (cI 0 8), ((8 : Int) ≠ 0), cT, (cN 0 64), (cI 0 64), (cZ 56), ((8 : Int) ≠ 0), (cN 0 8), (cI 0 8), ((8 : Int) ≠ 0), cT, (Run Try.prog ⟨w, rw, 3, β⟩ (.block 0 (.loop (loopB Try.f85 0))) (sumL_mk S tl N L C 0 (S)) (To ⟨w, rw, 3, β⟩ .normal (sumL_mk S tl N L C ((tl + (pad N)) / 128) (iter (sumL_step tl N L C) ((tl + (pad N)) / 128) (S))))), ((((pad N) ≤ (pad N)) ∧ ((0 + (pad N)) ≤ 256)) ∧ (okP (some (((0 + tl) + (pad N)) ≤ 512))) ∧ ((tl + (pad N)) ≤ 512)), ((True ∧ True) ∧ True), ((((min tl tl) ≤ tl) ∧ ((0 + (min tl tl)) ≤ tl)) ∧ (okP (some ((0 + (min tl tl)) ≤ 512)))), (((0 : Int) ≤ ((tl : Nat) : Int)) ∧ (((tl : Nat) : Int) ≤ (512 : Int)) ∧ ((512 : Int) ≤ (281474976710656 : Int))), (false = false), ((True ∧ True) ∧ (tl = tl))]) (by kernel_rfl)
    (aC rfl (aC (dd rfl) (aC (dd rfl) (aC (dd rfl) (aC (dd rfl) (aC (dd rfl) (aC (dd rfl) (aC (dd rfl) (aC rfl (aC (dd rfl) (aC (dd rfl) (aC (dd rfl) (aC (dd rfl) (aC (dd rfl) (aC (dd rfl) (aC (dd rfl) (aC rfl (aC (dd rfl) (aC (dd rfl) (aC (dd rfl) (aC (dd rfl) (aC (dd rfl) (aC (dd rfl) (aC (dd rfl) (aC rfl (aC (dd rfl) (aC (dd rfl) (aC (dd rfl) (aC (dd rfl) (aC (dd rfl) (aC (dd rfl) (aC (dd rfl) (aC rfl (aC (dd rfl) (aC (dd rfl) (aC (dd rfl) (aC (dd rfl) (aC (dd rfl) (aC (dd rfl) (aC (dd rfl) (aC rfl (aC (dd rfl) (aC (dd rfl) (aC (dd rfl) (aC (dd rfl) (aC (dd rfl) (aC (dd rfl) (aC (dd rfl) (aC rfl (aC (dd rfl) (aC (dd rfl) (aC (dd rfl) (aC (dd rfl) (aC (dd rfl) (aC (dd rfl) (aC (dd rfl) (aC rfl (aC (dd rfl) (aC (dd rfl) (aC (dd rfl) (aC (dd rfl) (aC (dd rfl) (aC (dd rfl) (aC (dd rfl) (aC rfl (aC (dd rfl) (aC (dd rfl) (aC (dd rfl) (aC (dd rfl) (aC (dd rfl) (aC (dd rfl) (aC (dd rfl) (aC rfl (aC (dd rfl) (aC (dd rfl) (aC (dd rfl) (aC (dd rfl) (aC (dd rfl) (aC (dd rfl) (aC (dd rfl) (aC rfl (aC (dd rfl) (aC (dd rfl) (aC (dd rfl) (aC (dd rfl) (aC (dd rfl) (aC (dd rfl) (aC (dd rfl) (aC rfl (aC (dd rfl) (aC (dd rfl) (aC (dd rfl) (aC (dd rfl) (aC (dd rfl) (aC (dd rfl) (aC (dd rfl) (aC rfl (aC (dd rfl) (aC (dd rfl) (aC (dd rfl) (aC (dd rfl) (aC (dd rfl) (aC (dd rfl) (aC (dd rfl) (aC rfl (aC (dd rfl) (aC (dd rfl) (aC (dd rfl) (aC (dd rfl) (aC (dd rfl) (aC (dd rfl) (aC (dd rfl) (aC rfl (aC (dd rfl) (aC (dd rfl) (aC (dd rfl) (aC (dd rfl) (aC (dd rfl) (aC (dd rfl) (aC (dd rfl) (aC rfl (aC (dd rfl) (aC (dd rfl) (aC (dd rfl) (aC (dd rfl) (aC (dd rfl) (aC (dd rfl) (aC (dd rfl) (aC rfl (aC (dd rfl) (aC (dd rfl) (aC (dd rfl) (aC (dd rfl) (aC (dd rfl) (aC (dd rfl) (aC (dd rfl) (aC rfl (aC (dd rfl) (aC (dd rfl) (aC (dd rfl) (aC (dd rfl) (aC (dd rfl) (aC (dd rfl) (aC (dd rfl) (aC rfl (aC (dd rfl) (aC (dd rfl) (aC (dd rfl) (aC (dd rfl) (aC (dd rfl) (aC (dd rfl) (aC (dd rfl) (aC rfl (aC (dd rfl) (aC (dd rfl) (aC (dd rfl) (aC (dd rfl) (aC (dd rfl) (aC (dd rfl) (aC (dd rfl) (aC rfl (aC (dd rfl) (aC (dd rfl) (aC (dd rfl) (aC (dd rfl) (aC (dd rfl) (aC (dd rfl) (aC (dd rfl) (aC rfl (aC (dd rfl) (aC (dd rfl) (aC (dd rfl) (aC (dd rfl) (aC (dd rfl) (aC (dd rfl) (aC (dd rfl) (aC rfl (aC (dd rfl) (aC (dd rfl) (aC (dd rfl) (aC (dd rfl) (aC (dd rfl) (aC (dd rfl) (aC (dd rfl) (aC rfl (aC (dd rfl) (aC (dd rfl) (aC (dd rfl) (aC (dd rfl) (aC (dd rfl) (aC (dd rfl) (aC (dd rfl) (aC rfl (aC (dd rfl) (aC (dd rfl) (aC (dd rfl) (aC (dd rfl) (aC (dd rfl) (aC (dd rfl) (aC (dd rfl) (aC rfl (aC (dd rfl) (aC (dd rfl) (aC (dd rfl) (aC (dd rfl) (aC (dd rfl) (aC (dd rfl) (aC (dd rfl) (aC rfl (aC (dd rfl) (aC (dd rfl) (aC (dd rfl) (aC (dd rfl) (aC (dd rfl) (aC (dd rfl) (aC (dd rfl) (aC rfl (aC (dd rfl) (aC (dd rfl) (aC (dd rfl) (aC (dd rfl) (aC (dd rfl) (aC (dd rfl) (aC (dd rfl) (aC rfl (aC (dd rfl) (aC (dd rfl) (aC (dd rfl) (aC (dd rfl) (aC (dd rfl) (aC (dd rfl) (aC (dd rfl) (aC rfl (aC (dd rfl) (aC (dd rfl) (aC (dd rfl) (aC (dd rfl) (aC (dd rfl) (aC (dd rfl) (aC (dd rfl) (aC rfl (aC (dd rfl) (aC (dd rfl) (aC (dd rfl) (aC (dd rfl) (aC (dd rfl) (aC (dd rfl) (aC (dd rfl) (aC rfl (aC (dd rfl) (aC (dd rfl) (aC (dd rfl) (aC (dd rfl) (aC (dd rfl) (aC (dd rfl) (aC (dd rfl) (aC rfl (aC (dd rfl) (aC (dd rfl) (aC (dd rfl) (aC (dd rfl) (aC (dd rfl) (aC (dd rfl) (aC (dd rfl) (aC rfl (aC (dd rfl) (aC (dd rfl) (aC (dd rfl) (aC (dd rfl) (aC (dd rfl) (aC (dd rfl) (aC (dd rfl) (aC rfl (aC (dd rfl) (aC (dd rfl) (aC (dd rfl) (aC (dd rfl) (aC (dd rfl) (aC (dd rfl) (aC (dd rfl) (aC rfl (aC (dd rfl) (aC (dd rfl) (aC (dd rfl) (aC (dd rfl) (aC (dd rfl) (aC (dd rfl) (aC (dd rfl) (aC rfl (aC (dd rfl) (aC (dd rfl) (aC (dd rfl) (aC (dd rfl) (aC (dd rfl) (aC (dd rfl) (aC (dd rfl) (aC rfl (aC (dd rfl) (aC (dd rfl) (aC (dd rfl) (aC (dd rfl) (aC (dd rfl) (aC (dd rfl) (aC (dd rfl) (aC rfl (aC (dd rfl) (aC (dd rfl) (aC (dd rfl) (aC (dd rfl) (aC (dd rfl) (aC (dd rfl) (aC (dd rfl) (aC rfl (aC (dd rfl) (aC (dd rfl) (aC (dd rfl) (aC (dd rfl) (aC (dd rfl) (aC (dd rfl) (aC (dd rfl) (aC rfl (aC (dd rfl) (aC (dd rfl) (aC (dd rfl) (aC (dd rfl) (aC (dd rfl) (aC (dd rfl) (aC (dd rfl) (aC rfl (aC (dd rfl) (aC (dd rfl) (aC (dd rfl) (aC (dd rfl) (aC (dd rfl) (aC (dd rfl) (aC (dd rfl) (aC rfl (aC (dd rfl) (aC (dd rfl) (aC (dd rfl) (aC (dd rfl) (aC (dd rfl) (aC (dd rfl) (aC (dd rfl) (aC rfl (aC (dd rfl) (aC (dd rfl) (aC (dd rfl) (aC (dd rfl) (aC (dd rfl) (aC (dd rfl) (aC (dd rfl) (aC rfl (aC (dd rfl) (aC (dd rfl) (aC (dd rfl) (aC (dd rfl) (aC (dd rfl) (aC (dd rfl) (aC (dd rfl) (aC rfl (aC (dd rfl) (aC (dd rfl) (aC (dd rfl) (aC (dd rfl) (aC (dd rfl) (aC (dd rfl) (aC (dd rfl) (aC rfl (aC (dd rfl) (aC (dd rfl) (aC (dd rfl) (aC (dd rfl) (aC (dd rfl) (aC (dd rfl) (aC (dd rfl) (aC rfl (aC (dd rfl) (aC (dd rfl) (aC (dd rfl) (aC (dd rfl) (aC (dd rfl) (aC (dd rfl) (aC (dd rfl) (aC rfl (aC (dd rfl) (aC (dd rfl) (aC (dd rfl) (aC (dd rfl) (aC (dd rfl) (aC (dd rfl) (aC (dd rfl) (aC rfl (aC (dd rfl) (aC (dd rfl) (aC (dd rfl) (aC (dd rfl) (aC (dd rfl) (aC (dd rfl) (aC (dd rfl) (aC rfl (aC (dd rfl) (aC (dd rfl) (aC (dd rfl) (aC (dd rfl) (aC (dd rfl) (aC (dd rfl) (aC (dd rfl) (aC rfl (aC (dd rfl) (aC (dd rfl) (aC (dd rfl) (aC (dd rfl) (aC (dd rfl) (aC (dd rfl) (aC (dd rfl) (aC rfl (aC (dd rfl) (aC (dd rfl) (aC (dd rfl) (aC (dd rfl) (aC (dd rfl) (aC (dd rfl) (aC (dd rfl) (aC rfl (aC (dd rfl) (aC (dd rfl) (aC (dd rfl) (aC (dd rfl) (aC (dd rfl) (aC (dd rfl) (aC (dd rfl) (aC rfl (aC (dd rfl) (aC (dd rfl) (aC (dd rfl) (aC (dd rfl) (aC (dd rfl) (aC (dd rfl) (aC (dd rfl) (aC rfl (aC (dd rfl) (aC (dd rfl) (aC (dd rfl) (aC (dd rfl) (aC (dd rfl) (aC (dd rfl) (aC (dd rfl) (aC rfl (aC (dd rfl) (aC (dd rfl) (aC (dd rfl) (aC (dd rfl) (aC (dd rfl) (aC (dd rfl) (aC (dd rfl) (aC rfl (aC (dd rfl) (aC (dd rfl) (aC (dd rfl) (aC (dd rfl) (aC (dd rfl) (aC (dd rfl) (aC (dd rfl) (aC rfl (aC (dd rfl) (aC (dd rfl) (aC (dd rfl) (aC (dd rfl) (aC (dd rfl) (aC (dd rfl) (aC (dd rfl) (aC rfl (aC (dd rfl) (aC (dd rfl) (aC (dd rfl) (aC (dd rfl) (aC (dd rfl) (aC (dd rfl) (aC (dd rfl) (aC rfl (aC (dd rfl) (aC (dd rfl) (aC (dd rfl) (aC (dd rfl) (aC (dd rfl) (aC (dd rfl) (aC (dd rfl) (aC rfl (aC (dd rfl) (aC (dd rfl) (aC (dd rfl) (aC (dd rfl) (aC (dd rfl) (aC (dd rfl) (aC (dd rfl) (aC rfl (aC (dd rfl) (aC (dd rfl) (aC (dd rfl) (aC (dd rfl) (aC (dd rfl) (aC (dd rfl) (aC (dd rfl) (aC rfl (aC (dd rfl) (aC (dd rfl) (aC (dd rfl) (aC (dd rfl) (aC (dd rfl) (aC (dd rfl) (aC (dd rfl) (aC rfl (aC (sumL_loop S tl N L C h0 h1 hl0_0 hl1_0 hl2_0 w rw β (S)) (aC ⟨⟨(by have hp1 := pad_le N; have hp2 := pad_mod h0 h1; first | omega | (simp (disch := omega) only [wrapI]; omega)), (by have hp1 := pad_le N; have hp2 := pad_mod h0 h1; first | omega | (simp (disch := omega) only [wrapI]; omega))⟩, (show (((0 + tl) + (pad N)) ≤ 512) from (by have hp1 := pad_le N; have hp2 := pad_mod h0 h1; first | omega | (simp (disch := omega) only [wrapI]; omega))), (by have hp1 := pad_le N; have hp2 := pad_mod h0 h1; first | omega | (simp (disch := omega) only [wrapI]; omega))⟩ (aC ⟨⟨trivial, trivial⟩, trivial⟩ (aC ⟨⟨(by have hp1 := pad_le N; have hp2 := pad_mod h0 h1; first | omega | (simp (disch := omega) only [wrapI]; omega)), (by have hp1 := pad_le N; have hp2 := pad_mod h0 h1; first | omega | (simp (disch := omega) only [wrapI]; omega))⟩, (show ((0 + (min tl tl)) ≤ 512) from (by have hp1 := pad_le N; have hp2 := pad_mod h0 h1; first | omega | (simp (disch := omega) only [wrapI]; omega)))⟩ (aC ⟨(by have hp1 := pad_le N; have hp2 := pad_mod h0 h1; first | omega | (simp (disch := omega) only [wrapI]; omega)), (by have hp1 := pad_le N; have hp2 := pad_mod h0 h1; first | omega | (simp (disch := omega) only [wrapI]; omega)), (dd rfl)⟩ (aC rfl (aC ⟨⟨trivial, trivial⟩, rfl⟩ (AllP_nil)))))))))))))))))))))))))))))))))))))))))))))))))))))))))))))))))))))))))))))))))))))))))))))))))))))))))))))))))))))))))))))))))))))))))))))))))))))))))))))))))))))))))))))))))))))))))))))))))))))))))))))))))))))))))))))))))))))))))))))))))))))))))))))))))))))))))))))))))))))))))))))))))))))))))))))))))))))))))))))))))))))))))))))))))))))))))))))))))))))))))))))))))))))))))))))))))))))))))))))))))))))))))))))))))))))))))))))))))))))))))))))))))))))))))))))))))))))))))))))))))))))))))))))))))))))))))))))))))))))))))

theorem hsum_body (S : List Int) (tl : Nat) (N : Int) (L C : List Int) (h0 : ((0 : Int) ≤ N)) (h1 : ((Int.tmod N (128 : Int)) = ((tl : Nat) : Int))) (w : World) (rw : List Nat) (β : Env) : Body Try.prog (tabOf tabSG) Try.f85 ⟨w, rw, 3, β⟩ [.o (.a (.p 0 0))] [some ⟨false, [.ints .u64 8 S, .rs 1 0 tl 1, .i .u64 N, .p 2 0]⟩, some ⟨false, [.ints .u8 tl L]⟩, some ⟨false, [.ints .u64 80 C]⟩] (fun ys K' => ys = [.g [.ints .u8 64 (hsum S tl N L C)]] ∧ K' = [some ⟨false, [.ints .u64 8 S, .rs 1 0 tl 1, .i .u64 N, .p 2 0]⟩, some ⟨false, [.ints .u8 tl L]⟩, some ⟨false, [.ints .u64 80 C]⟩]) :=
  Body.lens (c := (Try.f85.body.getD .skip)) rfl fun h => hsum_body0 S tl N L C h0 h1 (h.lens 0 _ .u64 (8 : Nat) S rfl (by simp)) (h.lens 1 _ .u8 tl L rfl (by simp)) (h.lens 2 _ .u64 (80 : Nat) C rfl (by simp)) w rw β

def gam14 : Gam := gcall 85 [false, false, false] [.w] (fun wk vs args => match wk, vs, args with | [⟨false, [.ints .u64 8 S, .rs 1 0 tl 1, .i .u64 N, .p 2 0]⟩, ⟨false, [.ints .u8 tl_1 L]⟩, ⟨false, [.ints .u64 80 C]⟩], [], [.o (.a (.p 0 0))] => some ((tl_1 = tl) ∧ ((0 : Int) ≤ N) ∧ ((Int.tmod N (128 : Int)) = ((tl : Nat) : Int)), [.g [.ints .u8 64 (hsum S tl N L C)]], [some ⟨false, [.ints .u64 8 S, .rs 1 0 tl 1, .i .u64 N, .p 2 0]⟩, some ⟨false, [.ints .u8 tl L]⟩, some ⟨false, [.ints .u64 80 C]⟩]) | _, _, _ => none) gam13
theorem gam14_ok : GamOk Try.prog gam14 := gcall_ok tabOkSG Try.func85 gam13_ok Try.call85 (by
  intro wk vs args p xs K1 h hv
  split at h
  · simp only [Option.some.injEq, Prod.mk.injEq] at h; obtain ⟨rfl, rfl, rfl⟩ := h; obtain ⟨g0, g1, g2⟩ := hv; subst g0; exact fun caps w rw β => hsum_body _ _ _ _ _ g1 g2 w rw β
  · simp at h)

end Go.Proofs.Ytlmdhjojinkdbaa.X

/- Plain lemmas for the walks of State, Pad, Join. -/
namespace Go.Proofs.Ytlmdhjojinkdbaa.X
open Go Go.Proofs

theorem wr_inv {N : Int} {tl n : Nat} (h0 : 0 ≤ N) (h : Int.tmod N 128 = ((tl : Nat) : Int)) (hn : n < 140737488355328) : 0 ≤ wrN N n ∧ Int.tmod (wrN N n) 128 = ((wrT tl n : Nat) : Int) ∧ wrT tl n < 128 := by
  have h1 : (0 : Int) ≤ wrN N n := wrap_nn rfl
  refine ⟨h1, ?_, by unfold wrT; omega⟩
  rw [Int.tmod_eq_emod_of_nonneg h1]
  rw [Int.tmod_eq_emod_of_nonneg h0] at h
  unfold wrN wrT
  rw [wrapU (x := (n : Int)) (by omega) (by omega)]
  show (let m := (N + (n : Int)) % (18446744073709551616 : Int); if (false && decide (m ≥ (9223372036854775808 : Int))) = true then m - 18446744073709551616 else m) % 128 = _
  simp only [Bool.false_and, Bool.false_eq_true, if_false]
  omega

theorem wr_inv0 {n : Nat} (hn : n < 140737488355328) : 0 ≤ wrN 0 n ∧ Int.tmod (wrN 0 n) 128 = ((wrT 0 n : Nat) : Int) ∧ wrT 0 n < 128 := wr_inv (Int.le_refl 0) rfl hn

end Go.Proofs.Ytlmdhjojinkdbaa.X

/- Printed by a tool of this session. -/
namespace Go.Proofs.Ytlmdhjojinkdbaa.X
open Go Go.Proofs
set_option linter.unusedVariables false
set_option linter.unusedSimpArgs false
set_option maxRecDepth 100000
theorem teSJ_22 : TEOk Try.prog 22 ⟨.slice 5, 1, 24, [.raw (.slice none 0 0)], false⟩ :=
  TEOk.of Try.underlying22 (i := Try.t22) (by kernel_rfl) rfl rfl rfl (by kernel_rfl) (fun h => by cases h) (by kernel_rfl)
theorem teSJ_23 : TEOk Try.prog 23 ⟨.slice 22, 1, 24, [.raw (.slice none 0 0)], false⟩ :=
  TEOk.of Try.underlying23 (i := Try.t23) (by kernel_rfl) rfl rfl rfl (by kernel_rfl) (fun h => by cases h) (by kernel_rfl)
theorem teSJ_32 : TEOk Try.prog 32 ⟨.array 64 5, 64, 64, [.ints .u8 64 (List.replicate 64 0)], true⟩ :=
  TEOk.of Try.underlying32 (i := Try.t32) (by kernel_rfl) rfl rfl rfl (by kernel_rfl) (fun _ => Try.eqGuardType32) (by kernel_rfl)
noncomputable def tabSJ : List (Nat × TE) := [(22, ⟨.slice 5, 1, 24, [nlA], false⟩), (23, ⟨.slice 22, 1, 24, [nlA], false⟩), (32, ⟨.array 64 5, 64, 64, [.ints .u8 64 (List.replicate 64 0)], true⟩)]
theorem tabOkSJ : TabOk Try.prog (tabOf tabSJ) := (tabOf_cons teSJ_22 (tabOf_cons teSJ_23 (tabOf_cons teSJ_32 tabOf_nil)))

set_option maxHeartbeats 1000000 in
theorem num_body0 (x : Int) (w : World) : Body Try.prog (tabOf tabSJ) Try.f11 ⟨w, [], 0, noEnv⟩ (toA [.a (.i .i64 x)]) [] (fun ys _ => ys = [.a (.i .i64 x)]) :=
  Body.of_fin (Γ := gam14) (Λ := noLam) (Ψ := noPsi) (fuel := 0) (m := 4) (c := (Try.f11.body.getD .skip)) mix tabOkSJ gam14_ok rfl (rs := [.tmp 2]) rfl rfl [] []
    (vc := []) (by kernel_rfl)
    (AllP_nil)

theorem num_body (x : Int) (w : World) : Body Try.prog (tabOf tabSJ) Try.f11 ⟨w, [], 0, noEnv⟩ (toA [.a (.i .i64 x)]) [] (fun ys _ => ys = [.a (.i .i64 x)]) :=
  Body.lens (c := (Try.f11.body.getD .skip)) rfl fun h => num_body0 x  w

theorem num_pure (x : Int) : PureC Try.prog 11 [.a (.i .i64 x)] [.a (.i .i64 x)] :=
  PureC.of_body tabOkSJ Try.func11 rfl rfl fun w => num_body x w

def gam15 : Gam := gpure 11 (fun args => match args with | [.o (.a (.i .i64 x))] => some (none, [.a (.i .i64 x)]) | _ => none) gam14
theorem gam15_ok : GamOk Try.prog gam15 := gpure_ok gam14_ok Try.call11 (by
  intro args vc xs h hv
  split at h
  · simp only [Option.some.injEq, Prod.mk.injEq] at h; obtain ⟨rfl, rfl⟩ := h; exact ⟨_, by rfl, num_pure _⟩
  · simp at h)

def join1 (n : Nat) (b : List Int) : List Int :=
  (hsum (wrS (konst) ([7640891576956012808, 13503953896175478587, 4354685564936845355, 11912009170470909681, 5840696475078001361, 11170449401992604703, 2270897969802886507, 6620516959819538809] : List Int) ([] : List Int) (sub b 0 n) 0 n) (wrT 0 n) (wrN (0 : Int) n) (wrL ([] : List Int) (sub b 0 n) 0 n) (konst))

set_option maxHeartbeats 1000000 in
theorem join1_body0 (n cp : Nat) (b : List Int) (h0 : (n < 140737488355328)) (hl1_0 : List.length b = n) (w : World) (rw : List Nat) (β : Env) : Body Try.prog (tabOf tabSJ) Try.f39 ⟨w, rw, 2, β⟩ [.o (.a (.sl 0 0 1 1))] [some ⟨false, [.sl 1 0 n cp]⟩, some ⟨false, [.ints .u8 n b]⟩] (fun ys K' => ys = [.g [.ints .u8 64 (join1 n b)]] ∧ K' = [some ⟨false, [.sl 1 0 n cp]⟩, some ⟨false, [.ints .u8 n b]⟩]) :=
  Body.of_finK (Γ := gam15) (Λ := noLam) (Ψ := noPsi) (fuel := 2) (m := 19) (c := (Try.f39.body.getD .skip)) mix tabOkSJ gam15_ok rfl (rs := [.cell 2 32]) rfl rfl [true, false] [] 2
    (vc := [((True ∧ True) ∧ (((wrT 0 n) = (wrT 0 n)) ∧ ((0 : Int) ≤ (wrN (0 : Int) n)) ∧ ((Int.tmod (wrN (0 : Int) n) (128 : Int)) = (((wrT 0 n) : Nat) : Int)))), (false = false), ((True ∧ (((0 + n) ≤ n) ∧ True)) ∧ ((0 = 0) ∧ (n = n) ∧ (cN 0 128) ∧ (n < 140737488355328))), (cI 0 1), cT, (True ∧ True)]) (by kernel_rfl)
    (aC ⟨⟨trivial, trivial⟩, ⟨rfl, (by have hj := wr_inv0 h0; first | omega | exact hj.1 | exact hj.2.1 | (simp (disch := omega) only [wrapI]; omega)), (by have hj := wr_inv0 h0; first | omega | exact hj.1 | exact hj.2.1 | (simp (disch := omega) only [wrapI]; omega))⟩⟩ (aC rfl (aC ⟨⟨trivial, ⟨(by have hj := wr_inv0 h0; first | omega | exact hj.1 | exact hj.2.1 | (simp (disch := omega) only [wrapI]; omega)), trivial⟩⟩, ⟨rfl, rfl, (dd rfl), h0⟩⟩ (aC (dd rfl) (aC rfl (aC ⟨trivial, trivial⟩ (AllP_nil)))))))

theorem join1_body (n cp : Nat) (b : List Int) (h0 : (n < 140737488355328)) (w : World) (rw : List Nat) (β : Env) : Body Try.prog (tabOf tabSJ) Try.f39 ⟨w, rw, 2, β⟩ [.o (.a (.sl 0 0 1 1))] [some ⟨false, [.sl 1 0 n cp]⟩, some ⟨false, [.ints .u8 n b]⟩] (fun ys K' => ys = [.g [.ints .u8 64 (join1 n b)]] ∧ K' = [some ⟨false, [.sl 1 0 n cp]⟩, some ⟨false, [.ints .u8 n b]⟩]) :=
  Body.lens (c := (Try.f39.body.getD .skip)) rfl fun h => join1_body0 n cp b h0 (h.lens 1 _ .u8 n b rfl (by simp)) w rw β

def gam16 : Gam := gcall 39 [false, false] [.w] (fun wk vs args => match wk, vs, args with | [⟨false, [.sl 1 0 n cp]⟩, ⟨false, [.ints .u8 n_1 b]⟩], [], [.o (.a (.sl 0 0 1 1))] => some ((n_1 = n) ∧ (n < 140737488355328), [.g [.ints .u8 64 (join1 n b)]], [some ⟨false, [.sl 1 0 n cp]⟩, some ⟨false, [.ints .u8 n b]⟩]) | _, _, _ => none) gam15
theorem gam16_ok : GamOk Try.prog gam16 := gcall_ok tabOkSJ Try.func39 gam15_ok Try.call39 (by
  intro wk vs args p xs K1 h hv
  split at h
  · simp only [Option.some.injEq, Prod.mk.injEq] at h; obtain ⟨rfl, rfl, rfl⟩ := h; obtain ⟨g0, g1⟩ := hv; subst g0; exact fun caps w rw β => join1_body _ _ _ g1 w rw β
  · simp at h)

set_option maxHeartbeats 1000000 in
theorem sum_body0 (n nm : Nat) (b : List Int) (cap0 : Nat) (h0 : (nm = n)) (h1 : (n < 140737488355328)) (hc0 : n ≤ cap0) (hl0_0 : List.length b = nm) (w : World) (β : Env) : Body Try.prog (tabOf tabSJ) Try.f38 ⟨w, [], 1, β⟩ [.o (.a (.sl 0 0 n cap0))] [some ⟨false, [.ints .u8 nm b]⟩] (fun ys _ => ys = [.g [.ints .u8 64 (join1 n b)]]) :=
  Body.of_fin (Γ := gam16) (Λ := noLam) (Ψ := noPsi) (fuel := 0) (m := 6) (c := (Try.f38.body.getD .skip)) mix tabOkSJ gam16_ok rfl (rs := [.cell 2 32]) rfl rfl [] []
    (vc := [((True ∧ True) ∧ ((nm = n) ∧ (n < (140737488355328 : Nat))))]) (by kernel_rfl)
    (aC ⟨⟨trivial, trivial⟩, ⟨h0, h1⟩⟩ (AllP_nil))

theorem sum_body (n nm : Nat) (b : List Int) (cap0 : Nat) (h0 : (nm = n)) (h1 : (n < 140737488355328)) (w : World) (β : Env) : Body Try.prog (tabOf tabSJ) Try.f38 ⟨w, [], 1, β⟩ [.o (.a (.sl 0 0 n cap0))] [some ⟨false, [.ints .u8 nm b]⟩] (fun ys _ => ys = [.g [.ints .u8 64 (join1 n b)]]) :=
  Body.lens (c := (Try.f38.body.getD .skip)) rfl fun h => sum_body0 n nm b cap0 h0 h1 (h.caps 0 _ _ _ _ rfl) (h.lens 0 _ .u8 nm b rfl (by simp)) w β

def gam17 : Gam := greadV 38 [.s 1] (fun vs args => match vs, args with | [⟨_, _, _, [.ints .u8 nm b]⟩], [a0] => some ((nm = (lenOfA a0)) ∧ ((lenOfA a0) < (140737488355328 : Nat)), [.g [.ints .u8 (64 : Nat) (join1 (lenOfA a0) b)]]) | _, _ => none) gam16
theorem gam17_ok : GamOk Try.prog gam17 := greadV_ok tabOkSJ Try.func38 gam16_ok Try.call38 (by
  intro vs args p xs h hv
  split at h
  · simp only [Option.some.injEq, Prod.mk.injEq] at h; obtain ⟨rfl, rfl⟩ := h; exact ⟨by rfl, fun caps w β => sum_body _ _ _ _ hv.1 hv.2 w β⟩
  · simp at h)

end Go.Proofs.Ytlmdhjojinkdbaa.X

/- Printed by a tool of this session. -/
namespace Go.Proofs.Ytlmdhjojinkdbaa.X
open Go Go.Proofs
set_option linter.unusedVariables false
set_option linter.unusedSimpArgs false
set_option maxRecDepth 100000
theorem teSQ_3 : TEOk Try.prog 3 ⟨.int .i64, 1, 8, [.i .i64 (0 : Int)], false⟩ :=
  TEOk.of Try.underlying3 (i := Try.t3) (by kernel_rfl) rfl rfl rfl (by kernel_rfl) (fun h => by cases h) (by kernel_rfl)
theorem teSQ_5 : TEOk Try.prog 5 ⟨.int .u8, 1, 1, [.i .u8 (0 : Int)], false⟩ :=
  TEOk.of Try.underlying5 (i := Try.t5) (by kernel_rfl) rfl rfl rfl (by kernel_rfl) (fun h => by cases h) (by kernel_rfl)
theorem teSQ_22 : TEOk Try.prog 22 ⟨.slice 5, 1, 24, [.raw (.slice none 0 0)], false⟩ :=
  TEOk.of Try.underlying22 (i := Try.t22) (by kernel_rfl) rfl rfl rfl (by kernel_rfl) (fun h => by cases h) (by kernel_rfl)
noncomputable def tabSQ : List (Nat × TE) := [(3, ⟨.int .i64, 1, 8, [.i .i64 (0 : Int)], false⟩), (5, ⟨.int .u8, 1, 1, [.i .u8 (0 : Int)], false⟩), (22, ⟨.slice 5, 1, 24, [.raw (.slice none 0 0)], false⟩)]
theorem tabOkSQ : TabOk Try.prog (tabOf tabSQ) := (tabOf_cons teSQ_3 (tabOf_cons teSQ_5 (tabOf_cons teSQ_22 tabOf_nil)))

def markB (i k : Int) : Int :=
  (IntKind.u8.wrap (IntKind.i64.wrap ((IntKind.i64.wrap ((IntKind.i64.wrap (i * (31 : Int))) + (IntKind.i64.wrap (k * (7 : Int))))) + (5 : Int))))

set_option maxHeartbeats 1000000 in
theorem markB_body0 (i k : Int) (w : World) : Body Try.prog (tabOf tabSQ) Try.f40 ⟨w, [], 0, noEnv⟩ (toA [.a (.i .i64 i), .a (.i .i64 k)]) [] (fun ys _ => ys = [.a (.i .u8 (markB i k))]) :=
  Body.of_fin (Γ := gam17) (Λ := noLam) (Ψ := noPsi) (fuel := 0) (m := 12) (c := (Try.f40.body.getD .skip)) mix tabOkSQ gam17_ok rfl (rs := [.tmp 4]) rfl rfl [] []
    (vc := []) (by kernel_rfl)
    (AllP_nil)

theorem markB_body (i k : Int) (w : World) : Body Try.prog (tabOf tabSQ) Try.f40 ⟨w, [], 0, noEnv⟩ (toA [.a (.i .i64 i), .a (.i .i64 k)]) [] (fun ys _ => ys = [.a (.i .u8 (markB i k))]) :=
  Body.lens (c := (Try.f40.body.getD .skip)) rfl fun h => markB_body0 i k  w

theorem markB_pure (i k : Int) : PureC Try.prog 40 [.a (.i .i64 i), .a (.i .i64 k)] [.a (.i .u8 (markB i k))] :=
  PureC.of_body tabOkSQ Try.func40 rfl rfl fun w => markB_body i k w

def gam301 : Gam := gpure 40 (fun args => match args with | [.o (.a (.i .i64 i)), .o (.a (.i .i64 k))] => some (none, [.a (.i .u8 (markB i k))]) | _ => none) gam17
theorem gam301_ok : GamOk Try.prog gam301 := gpure_ok gam17_ok Try.call40 (by
  intro args vc xs h hv
  split at h
  · simp only [Option.some.injEq, Prod.mk.injEq] at h; obtain ⟨rfl, rfl⟩ := h; exact ⟨_, by rfl, markB_pure _ _⟩
  · simp at h)

def copyBr (n : Nat) (b : List Int) : List Int :=
  (sub b 0 n)

set_option maxHeartbeats 1000000 in
theorem copyBr_body0 (n nm : Nat) (b : List Int) (cap0 : Nat) (h0 : (nm = n)) (h1 : (n < 140737488355328)) (hc0 : n ≤ cap0) (hl0_0 : List.length b = nm) (w : World) (rw : List Nat) (β : Env) : Body Try.prog (tabOf tabSQ) Try.f13 ⟨w, rw, 1, β⟩ [.o (.a (.sl 0 0 n cap0))] [some ⟨false, [.ints .u8 nm b]⟩] (fun ys K' => ys = [.a (.rs 1 0 n 1)] ∧ K' = [some ⟨false, [.ints .u8 nm b]⟩, some ⟨true, [.ints .u8 n (copyBr n b)]⟩]) :=
  Body.of_finK (Γ := gam301) (Λ := noLam) (Ψ := noPsi) (fuel := 0) (m := 8) (c := (Try.f13.body.getD .skip)) mix tabOkSQ gam301_ok rfl (rs := [.tmp 2]) rfl rfl [false] [] 2
    (vc := [(((n ≤ n) ∧ (((0 : Nat) + n) ≤ nm)) ∧ ((n * (1 : Nat)) ≤ (140737488355328 : Nat)))]) (by kernel_rfl)
    (aC ⟨⟨(by first | omega | (simp (disch := omega) only [wrapI]; omega)), (by first | omega | (simp (disch := omega) only [wrapI]; omega))⟩, (by first | omega | (simp (disch := omega) only [wrapI]; omega))⟩ (AllP_nil))

theorem copyBr_body (n nm : Nat) (b : List Int) (cap0 : Nat) (h0 : (nm = n)) (h1 : (n < 140737488355328)) (w : World) (rw : List Nat) (β : Env) : Body Try.prog (tabOf tabSQ) Try.f13 ⟨w, rw, 1, β⟩ [.o (.a (.sl 0 0 n cap0))] [some ⟨false, [.ints .u8 nm b]⟩] (fun ys K' => ys = [.a (.rs 1 0 n 1)] ∧ K' = [some ⟨false, [.ints .u8 nm b]⟩, some ⟨true, [.ints .u8 n (copyBr n b)]⟩]) :=
  Body.lens (c := (Try.f13.body.getD .skip)) rfl fun h => copyBr_body0 n nm b cap0 h0 h1 (h.caps 0 _ _ _ _ rfl) (h.lens 0 _ .u8 nm b rfl (by simp)) w rw β

def gam302 : Gam := gcall 13 [] [.s 1] (fun wk vs args => match wk, vs, args with | [], [⟨_, _, _, [.ints .u8 nm b]⟩], [.o (.a (.sl 0 0 n _))] => some ((nm = n) ∧ (n < 140737488355328), [.a (.rs 1 0 n 1)], [some ⟨false, [.ints .u8 nm b]⟩, some ⟨true, [.ints .u8 n (copyBr n b)]⟩]) | _, _, _ => none) gam301
theorem gam302_ok : GamOk Try.prog gam302 := gcall_ok tabOkSQ Try.func13 gam301_ok Try.call13 (by
  intro wk vs args p xs K1 h hv
  split at h
  · simp only [Option.some.injEq, Prod.mk.injEq] at h; obtain ⟨rfl, rfl, rfl⟩ := h; obtain ⟨g0, g1⟩ := hv; exact fun caps w rw β => copyBr_body _ _ _ _ g0 g1 w rw β
  · simp at h)

def sameL_mk (n nm : Nat) (b : List Int) (m mm : Nat) (c : List Int) (cap0 cap1 k : Nat) (s : Unit) : St := ⟨sparse 26 [(0, .o (.a (.sl 0 0 n cap0))), (1, .o (.a (.sl 1 0 m cap1))), (5, .o (.a (.i .i64 ((k : Nat) : Int)))), (6, .o (.a (.sl 0 0 n cap0))), (7, .o (.a (.i .i64 ((n : Nat) : Int)))), (8, .o (.a (.sl 1 0 m cap1))), (9, .o (.a (.i .i64 ((m : Nat) : Int)))), (10, .o (.a (.b (((n : Nat) : Int) != ((m : Nat) : Int)))))], [some ⟨false, [.ints .u8 nm b]⟩, some ⟨false, [.ints .u8 mm c]⟩]⟩

def sameL_step (k : Nat) (s : Unit) : Unit :=
  ()

set_option maxHeartbeats 1000000 in
theorem sameL_round (n nm : Nat) (b : List Int) (m mm : Nat) (c : List Int) (cap0 cap1 : Nat) (h0 : (nm = n)) (h1 : (mm = m)) (h2 : (m = n)) (h3 : (b = c)) (h4 : (n < 4611686018427387904)) (hc0 : n ≤ cap0) (hc1 : m ≤ cap1) (hl0_0 : List.length b = nm) (hl1_0 : List.length c = mm) (w : World) (β : Env) (k : Nat) (hk : k < n) (s : Unit) : Run Try.prog ⟨w, [], 2, β⟩ (loopB Try.f12 0) (sameL_mk n nm b m mm c cap0 cap1 k s) (To ⟨w, [], 2, β⟩ .normal (sameL_mk n nm b m mm c cap0 cap1 (k + 1) (sameL_step k s))) := by
  have e0 : (IntKind.i64.wrap (((k : Nat) : Int) + (1 : Int))) = (((k + (1 : Nat)) : Nat) : Int) := (by first | rfl | exact wrap_succ (by omega) | omega | (simp (disch := omega) only [wrapI]; omega))
  have h := Run.of_outT (B := ⟨w, [], 2, β⟩) (Λ := noLam) (Ψ := noPsi) (fuel := 0) (ora := [true, false]) (c := (loopB Try.f12 0)) (st := (sameL_mk n nm b m mm c cap0 cap1 k s)) (l := [.forget [0, 1, 5, 6, 7, 8, 9, 10] 2]) (s' := ⟨sparse 26 [(0, .o (.a (.sl 0 0 n cap0))), (1, .o (.a (.sl 1 0 m cap1))), (5, .o (.a (.i .i64 (IntKind.i64.wrap (((k : Nat) : Int) + (1 : Int)))))), (6, .o (.a (.sl 0 0 n cap0))), (7, .o (.a (.i .i64 ((n : Nat) : Int)))), (8, .o (.a (.sl 1 0 m cap1))), (9, .o (.a (.i .i64 ((m : Nat) : Int)))), (10, .o (.a (.b (((n : Nat) : Int) != ((m : Nat) : Int)))))], [some ⟨false, [.ints .u8 nm b]⟩, some ⟨false, [.ints .u8 mm c]⟩]⟩) (ex := .normal) mix tabOkSQ gam302_ok
    (vc := [(((List.getD b k 0) != (List.getD c k 0)) = false), (k < mm), (((0 : Int) ≤ ((k : Nat) : Int)) ∧ (((k : Nat) : Int) < ((m : Nat) : Int))), (k < nm), (((0 : Int) ≤ ((k : Nat) : Int)) ∧ (((k : Nat) : Int) < ((n : Nat) : Int))), ((decide (((k : Nat) : Int) < ((n : Nat) : Int))) = true)]) (by kernel_rfl)
    (aC (bne_eq_false_iff_eq.2 (by rw [h3])) (aC (by first|omega|(simp (disch:=omega) only [wrapI];omega)) (aC ⟨(by first|omega|(simp (disch:=omega) only [wrapI];omega)), (by first|omega|(simp (disch:=omega) only [wrapI];omega))⟩ (aC (by first|omega|(simp (disch:=omega) only [wrapI];omega)) (aC ⟨(by first|omega|(simp (disch:=omega) only [wrapI];omega)), (by first|omega|(simp (disch:=omega) only [wrapI];omega))⟩ (aC (decide_eq_true (by first|omega|(simp (disch:=omega) only [wrapI];omega))) (AllP_nil)))))))
  rw [e0] at h
  exact h

set_option maxHeartbeats 1000000 in
theorem sameL_last (n nm : Nat) (b : List Int) (m mm : Nat) (c : List Int) (cap0 cap1 : Nat) (h0 : (nm = n)) (h1 : (mm = m)) (h2 : (m = n)) (h3 : (b = c)) (h4 : (n < 4611686018427387904)) (hc0 : n ≤ cap0) (hc1 : m ≤ cap1) (hl0_0 : List.length b = nm) (hl1_0 : List.length c = mm) (w : World) (β : Env) (s : Unit) : Run Try.prog ⟨w, [], 2, β⟩ (loopB Try.f12 0) (sameL_mk n nm b m mm c cap0 cap1 n s) (To ⟨w, [], 2, β⟩ (.exit 0) (sameL_mk n nm b m mm c cap0 cap1 n s)) :=
  Run.of_outT (B := ⟨w, [], 2, β⟩) (Λ := noLam) (Ψ := noPsi) (fuel := 0) (ora := [false]) (l := [.forget [0, 1, 5, 6, 7, 8, 9, 10] 2]) mix tabOkSQ gam302_ok
    (vc := [((decide (((n : Nat) : Int) < ((n : Nat) : Int))) = false)]) (by kernel_rfl)
    (aC (decide_eq_false (by first | omega | (simp (disch := omega) only [wrapI]; omega))) (AllP_nil))

theorem sameL_loop (n nm : Nat) (b : List Int) (m mm : Nat) (c : List Int) (cap0 cap1 : Nat) (h0 : (nm = n)) (h1 : (mm = m)) (h2 : (m = n)) (h3 : (b = c)) (h4 : (n < 4611686018427387904)) (hc0 : n ≤ cap0) (hc1 : m ≤ cap1) (hl0_0 : List.length b = nm) (hl1_0 : List.length c = mm) (w : World) (β : Env) (s : Unit) : Run Try.prog ⟨w, [], 2, β⟩ (.block 0 (.loop (loopB Try.f12 0))) (sameL_mk n nm b m mm c cap0 cap1 0 s) (To ⟨w, [], 2, β⟩ .normal (sameL_mk n nm b m mm c cap0 cap1 n (iter (sameL_step) n s))) :=
  Run.count (fun k => sameL_mk n nm b m mm c cap0 cap1 k (iter (sameL_step) k s)) n (fun k hk => sameL_round n nm b m mm c cap0 cap1 h0 h1 h2 h3 h4 hc0 hc1 hl0_0 hl1_0 w β k hk _) (ex := (.exit 0)) (by simp) (sameL_last n nm b m mm c cap0 cap1 h0 h1 h2 h3 h4 hc0 hc1 hl0_0 hl1_0 w β _)

set_option maxHeartbeats 1000000 in
theorem same_body0 (n nm : Nat) (b : List Int) (m mm : Nat) (c : List Int) (cap0 cap1 : Nat) (h0 : (nm = n)) (h1 : (mm = m)) (h2 : (m = n)) (h3 : (b = c)) (h4 : (n < 4611686018427387904)) (hc0 : n ≤ cap0) (hc1 : m ≤ cap1) (hl0_0 : List.length b = nm) (hl1_0 : List.length c = mm) (w : World) (β : Env) : Body Try.prog (tabOf tabSQ) Try.f12 ⟨w, [], 2, β⟩ [.o (.a (.sl 0 0 n cap0)), .o (.a (.sl 1 0 m cap1))] [some ⟨false, [.ints .u8 nm b]⟩, some ⟨false, [.ints .u8 mm c]⟩] (fun ys _ => ys = [.a (.b true)]) :=
  Body.of_fin (Γ := gam302) (Λ := lamOf [(0, ⟨[.forget [0, 1, 5, 6, 7, 8, 9, 10] 2], .normal, (sameL_mk n nm b m mm c cap0 cap1 n (iter (sameL_step) n ()))⟩)]) (Ψ := noPsi) (fuel := 0) (m := 26) (c := (Try.f12.body.getD .skip)) mix tabOkSQ gam302_ok rfl (rs := [.tmp 4]) rfl rfl [false] []
    (vc := [(Run Try.prog ⟨w, [], 2, β⟩ (.block 0 (.loop (loopB Try.f12 0))) (sameL_mk n nm b m mm c cap0 cap1 0 ()) (To ⟨w, [], 2, β⟩ .normal (sameL_mk n nm b m mm c cap0 cap1 n (iter (sameL_step) n ())))), ((((n : Nat) : Int) != ((m : Nat) : Int)) = false)]) (by kernel_rfl)
    (aC (sameL_loop n nm b m mm c cap0 cap1 h0 h1 h2 h3 h4 hc0 hc1 hl0_0 hl1_0 w β ()) (aC (bne_eq_false_iff_eq.2 (by first | omega | (simp (disch := omega) only [wrapI]; omega))) (AllP_nil)))

theorem same_body (n nm : Nat) (b : List Int) (m mm : Nat) (c : List Int) (cap0 cap1 : Nat) (h0 : (nm = n)) (h1 : (mm = m)) (h2 : (m = n)) (h3 : (b = c)) (h4 : (n < 4611686018427387904)) (w : World) (β : Env) : Body Try.prog (tabOf tabSQ) Try.f12 ⟨w, [], 2, β⟩ [.o (.a (.sl 0 0 n cap0)), .o (.a (.sl 1 0 m cap1))] [some ⟨false, [.ints .u8 nm b]⟩, some ⟨false, [.ints .u8 mm c]⟩] (fun ys _ => ys = [.a (.b true)]) :=
  Body.lens (c := (Try.f12.body.getD .skip)) rfl fun h => same_body0 n nm b m mm c cap0 cap1 h0 h1 h2 h3 h4 (h.caps 0 _ _ _ _ rfl) (h.caps 1 _ _ _ _ rfl) (h.lens 0 _ .u8 nm b rfl (by simp)) (h.lens 1 _ .u8 mm c rfl (by simp)) w β

def gam303 : Gam := greadV 12 [.s 1, .s 1] (fun vs args => match vs, args with | [⟨_, _, _, [.ints .u8 nm b]⟩, ⟨_, _, _, [.ints .u8 mm c]⟩], [a0, a1] => some ((nm = (lenOfA a0)) ∧ (mm = (lenOfA a1)) ∧ ((lenOfA a1) = (lenOfA a0)) ∧ (b = c) ∧ ((lenOfA a0) < 4611686018427387904), [.a (.b true)]) | _, _ => none) gam302
theorem gam303_ok : GamOk Try.prog gam303 := greadV_ok tabOkSQ Try.func12 gam302_ok Try.call12 (by
  intro vs args p xs h hv
  split at h
  · simp only [Option.some.injEq, Prod.mk.injEq] at h; obtain ⟨rfl, rfl⟩ := h; exact ⟨by rfl, fun caps w β => same_body _ _ _ _ _ _ _ _ hv.1 hv.2.1 hv.2.2.1 hv.2.2.2.1 hv.2.2.2.2 w β⟩
  · simp at h)

end Go.Proofs.Ytlmdhjojinkdbaa.X

/- Plain lemmas for the walk of the document's Pad. -/
namespace Go.Proofs.Ytlmdhjojinkdbaa.X
open Go Go.Proofs
set_option linter.unusedVariables false

theorem padE_val {n : Int} (h0 : 0 ≤ n) : padE n = 1 + (239 - n % 128) % 128 := by
  unfold padE
  rw [Int.tmod_eq_emod_of_nonneg h0, wrapU (x := 239 - n % 128) (by omega) (by omega), Int.tmod_eq_emod_of_nonneg (by omega), wrapU (by omega) (by omega)]

theorem padR_at {n : Int} {k : Nat} (h0 : 0 ≤ n) (h1 : n < 2305843009213693952) (hk : k ≤ 128) :
    Int.tmod (IntKind.u64.wrap (n + (IntKind.u64.wrap ((((1 : Nat) + k) : Nat) : Int)))) (128 : Int) = (n + 1 + k) % 128 := by
  rw [wrapU (x := (((1 + k : Nat) : Nat) : Int)) (by omega) (by omega), wrapU (by omega) (by omega), Int.tmod_eq_emod_of_nonneg (by omega)]
  congr 1; omega

theorem padR_ne {n : Int} {k : Nat} (h0 : 0 ≤ n) (h1 : n < 2305843009213693952) (hk : k < (padE n).toNat - 1) :
    Int.tmod (IntKind.u64.wrap (n + (IntKind.u64.wrap ((((1 : Nat) + k) : Nat) : Int)))) (128 : Int) ≠ 112 := by
  rw [padE_val h0] at hk
  rw [padR_at h0 h1 (by omega)]
  omega

theorem padR_eq {n : Int} (h0 : 0 ≤ n) (h1 : n < 2305843009213693952) :
    Int.tmod (IntKind.u64.wrap (n + (IntKind.u64.wrap ((((1 : Nat) + ((padE n).toNat - 1)) : Nat) : Int)))) (128 : Int) = 112 := by
  have := padE_val h0
  rw [padR_at h0 h1 (by omega)]
  omega
end Go.Proofs.Ytlmdhjojinkdbaa.X

/- Printed by a tool of this session. -/
namespace Go.Proofs.Ytlmdhjojinkdbaa.X
open Go Go.Proofs
set_option linter.unusedVariables false
set_option linter.unusedSimpArgs false
set_option maxRecDepth 100000
theorem teSV_3 : TEOk Try.prog 3 ⟨.int .i64, 1, 8, [.i .i64 (0 : Int)], false⟩ :=
  TEOk.of Try.underlying3 (i := Try.t3) (by kernel_rfl) rfl rfl rfl (by kernel_rfl) (fun h => by cases h) (by kernel_rfl)
theorem teSV_5 : TEOk Try.prog 5 ⟨.int .u8, 1, 1, [.i .u8 (0 : Int)], false⟩ :=
  TEOk.of Try.underlying5 (i := Try.t5) (by kernel_rfl) rfl rfl rfl (by kernel_rfl) (fun h => by cases h) (by kernel_rfl)
theorem teSV_22 : TEOk Try.prog 22 ⟨.slice 5, 1, 24, [.raw (.slice none 0 0)], false⟩ :=
  TEOk.of Try.underlying22 (i := Try.t22) (by kernel_rfl) rfl rfl rfl (by kernel_rfl) (fun h => by cases h) (by kernel_rfl)
theorem teSV_147 : TEOk Try.prog 147 ⟨.int .u64, 1, 8, [.i .u64 (0 : Int)], false⟩ :=
  TEOk.of Try.underlying147 (i := Try.t147) (by kernel_rfl) rfl rfl rfl (by kernel_rfl) (fun h => by cases h) (by kernel_rfl)
theorem teSV_229 : TEOk Try.prog 229 ⟨.int .u64, 1, 8, [.i .u64 (0 : Int)], false⟩ :=
  TEOk.of Try.underlying229 (i := Try.t229) (by kernel_rfl) rfl rfl rfl (by kernel_rfl) (fun h => by cases h) (by kernel_rfl)
noncomputable def tabSV : List (Nat × TE) := [(3, ⟨.int .i64, 1, 8, [.i .i64 (0 : Int)], false⟩), (5, ⟨.int .u8, 1, 1, [.i .u8 (0 : Int)], false⟩), (22, ⟨.slice 5, 1, 24, [nlA], false⟩), (147, ⟨.int .u64, 1, 8, [.i .u64 (0 : Int)], false⟩), (229, ⟨.int .u64, 1, 8, [.i .u64 (0 : Int)], false⟩)]
theorem tabOkSV : TabOk Try.prog (tabOf tabSV) := (tabOf_cons teSV_3 (tabOf_cons teSV_5 (tabOf_cons teSV_22 (tabOf_cons teSV_147 (tabOf_cons teSV_229 tabOf_nil)))))

def padRL_mk (n : Int) (k : Nat) (s : (List Int)) : St := ⟨sparse 42 [(0, .o (.a (.i .u64 n))), (2, .o (.a nlA)), (3, .o (.a (.i .i64 (0 : Int)))), (4, .o (.a (.rs 0 0 (1 + k) 1))), (7, .o (.a (.i .u64 n))), (8, .o (.a (.b (decide (n ≥ (2305843009213693952 : Int))))))], [some ⟨true, [.ints .u8 (1 + k) s]⟩]⟩

def padRL_step (k : Nat) (s : (List Int)) : (List Int) :=
  (((sub s 0 ((1 : Nat) + k)) ++ ([0] : List Int)))

set_option maxHeartbeats 1000000 in
theorem padRL_round (n : Int) (h0 : ((0 : Int) ≤ n)) (h1 : (n < (2305843009213693952 : Int))) (w : World) (rw : List Nat) (β : Env) (k : Nat) (hk : k < ((Int.toNat (padE n)) - 1)) (s : (List Int)) : Run Try.prog ⟨w, rw, 0, β⟩ (loopB Try.f124 0) (padRL_mk n k s) (To ⟨w, rw, 0, β⟩ .normal (padRL_mk n (k + 1) (padRL_step k s))) := by
  have e0 : (((1 : Nat) + k) + (1 : Nat)) = ((1 : Nat) + (k + (1 : Nat))) := (by first | rfl | exact wrap_succ (by omega) | omega | (simp (disch := omega) only [wrapI]; omega))
  have h := Run.of_outT (B := ⟨w, rw, 0, β⟩) (Λ := noLam) (Ψ := noPsi) (fuel := 0) (ora := [true, false]) (c := (loopB Try.f124 0)) (st := (padRL_mk n k s)) (l := [.swap 0 2, .forget [0, 2, 3, 4, 7, 8] 1]) (s' := ⟨sparse 42 [(0, .o (.a (.i .u64 n))), (2, .o (.a nlA)), (3, .o (.a (.i .i64 (0 : Int)))), (4, .o (.a (.rs 0 0 ((1 + k) + 1) 1))), (7, .o (.a (.i .u64 n))), (8, .o (.a (.b (decide (n ≥ (2305843009213693952 : Int))))))], [some ⟨true, [.ints .u8 ((1 + k) + 1) (padRL_step k s)]⟩]⟩) (ex := .normal) mix tabOkSV gam303_ok
    (vc := [(((0 + (1 + k)) ≤ (1 + k)) ∧ ((1 ≤ 1) ∧ (1 ≤ 1)) ∧ ((((1 + k) + 1) * 1) ≤ 140737488355328)), (((Int.tmod (IntKind.u64.wrap (n + (IntKind.u64.wrap (((1 + k) : Nat) : Int)))) (128 : Int)) != (112 : Int)) = true), ((128 : Int) ≠ 0)]) (by kernel_rfl)
    (aC ⟨(by have hp := padE_ok n; first | omega | (simp (disch := omega) only [wrapI]; omega)), (dd rfl), (by have hp := padE_ok n; first | omega | (simp (disch := omega) only [wrapI]; omega))⟩ (aC (bne_iff_ne.2 (padR_ne h0 h1 hk)) (aC (dd rfl) (AllP_nil))))
  rw [e0] at h
  exact h

set_option maxHeartbeats 1000000 in
theorem padRL_last (n : Int) (h0 : ((0 : Int) ≤ n)) (h1 : (n < (2305843009213693952 : Int))) (w : World) (rw : List Nat) (β : Env) (s : (List Int)) : Run Try.prog ⟨w, rw, 0, β⟩ (loopB Try.f124 0) (padRL_mk n ((Int.toNat (padE n)) - 1) s) (To ⟨w, rw, 0, β⟩ (.exit 0) (padRL_mk n ((Int.toNat (padE n)) - 1) s)) :=
  Run.of_outT (B := ⟨w, rw, 0, β⟩) (Λ := noLam) (Ψ := noPsi) (fuel := 0) (ora := [false]) (l := [.forget [0, 2, 3, 4, 7, 8] 1]) mix tabOkSV gam303_ok
    (vc := [(((Int.tmod (IntKind.u64.wrap (n + (IntKind.u64.wrap ((((1 : Nat) + ((Int.toNat (padE n)) - (1 : Nat))) : Nat) : Int)))) (128 : Int)) != (112 : Int)) = false), ((128 : Int) ≠ 0)]) (by kernel_rfl)
    (aC (bne_eq_false_iff_eq.2 (padR_eq h0 h1)) (aC (by decide) (AllP_nil)))

theorem padRL_loop (n : Int) (h0 : ((0 : Int) ≤ n)) (h1 : (n < (2305843009213693952 : Int))) (w : World) (rw : List Nat) (β : Env) (s : (List Int)) : Run Try.prog ⟨w, rw, 0, β⟩ (.block 0 (.loop (loopB Try.f124 0))) (padRL_mk n 0 s) (To ⟨w, rw, 0, β⟩ .normal (padRL_mk n ((Int.toNat (padE n)) - 1) (iter (padRL_step) ((Int.toNat (padE n)) - 1) s))) :=
  Run.count (fun k => padRL_mk n k (iter (padRL_step) k s)) ((Int.toNat (padE n)) - (1 : Nat)) (fun k hk => padRL_round n h0 h1 w rw β k hk _) (ex := (.exit 0)) (by simp) (padRL_last n h0 h1 w rw β _)

def padRL_out0 (n : Int) (i0 : List Int) : List Int := (iter (padRL_step) ((Int.toNat (padE n)) - (1 : Nat)) (i0))

def padR (n : Int) : Nat :=
  (((1 : Nat) + ((Int.toNat (padE n)) - (1 : Nat))) + (16 : Nat))

def padR_1 (n : Int) : List Int :=
  let z0 : Nat := ((1 : Nat) + ((Int.toNat (padE n)) - (1 : Nat)))
  ((sub ((sub ((sub ((sub ((sub ((sub ((sub ((sub ((sub ((sub ((sub ((sub ((sub ((sub ((sub ((sub (padRL_out0 n ([128] : List Int)) 0 z0) ++ ([0] : List Int)) 0 (z0 + 1)) ++ ([0] : List Int)) 0 (z0 + 2)) ++ ([0] : List Int)) 0 (z0 + 3)) ++ ([0] : List Int)) 0 (z0 + 4)) ++ ([0] : List Int)) 0 (z0 + 5)) ++ ([0] : List Int)) 0 (z0 + 6)) ++ ([0] : List Int)) 0 (z0 + 7)) ++ ([0] : List Int)) 0 (z0 + 8)) ++ ([(IntKind.u8.wrap (shr .u64 (IntKind.u64.wrap (n * (8 : Int))) (56 : Int)))] : List Int)) 0 (z0 + 9)) ++ ([(IntKind.u8.wrap (shr .u64 (IntKind.u64.wrap (n * (8 : Int))) (48 : Int)))] : List Int)) 0 (z0 + 10)) ++ ([(IntKind.u8.wrap (shr .u64 (IntKind.u64.wrap (n * (8 : Int))) (40 : Int)))] : List Int)) 0 (z0 + 11)) ++ ([(IntKind.u8.wrap (shr .u64 (IntKind.u64.wrap (n * (8 : Int))) (32 : Int)))] : List Int)) 0 (z0 + 12)) ++ ([(IntKind.u8.wrap (shr .u64 (IntKind.u64.wrap (n * (8 : Int))) (24 : Int)))] : List Int)) 0 (z0 + 13)) ++ ([(IntKind.u8.wrap (shr .u64 (IntKind.u64.wrap (n * (8 : Int))) (16 : Int)))] : List Int)) 0 (z0 + 14)) ++ ([(IntKind.u8.wrap (shr .u64 (IntKind.u64.wrap (n * (8 : Int))) (8 : Int)))] : List Int)) 0 (z0 + 15)) ++ ([(IntKind.u8.wrap (shr .u64 (IntKind.u64.wrap (n * (8 : Int))) (0 : Int)))] : List Int))

set_option maxHeartbeats 1000000 in
theorem padR_body0 (n : Int) (h0 : ((0 : Int) ≤ n)) (h1 : (n < (2305843009213693952 : Int))) (w : World) (rw : List Nat) (β : Env) : Body Try.prog (tabOf tabSV) Try.f124 ⟨w, rw, 0, β⟩ [.o (.a (.i .u64 n))] [] (fun ys K' => ys = [.a (.rs 0 0 (padR n) 1), .a (.i .i64 (0 : Int))] ∧ K' = [some ⟨true, [.ints .u8 (padR n) (padR_1 n)]⟩]) :=
  Body.of_finK (Γ := gam303) (Λ := lamOf [(0, ⟨[.slrs 4 1, .forget [0, 2, 3, 4, 7, 8] 1], .normal, (padRL_mk n ((Int.toNat (padE n)) - 1) (iter (padRL_step) ((Int.toNat (padE n)) - 1) (([128] : List Int))))⟩)]) (Ψ := noPsi) (fuel := 10) (m := 42) (c := (Try.f124.body.getD .skip)) mix tabOkSV gam303_ok rfl (rs := [.tmp 2, .tmp 3]) rfl rfl [false, true, false, true, false, true, false, true, false, true, false, true, false, true, false, true, false, false, true, false, true, false, true, false, true, false, true, false, true, false, true, false, true, false, false] [.swap 0 32] 1
    (vc := [(false = false), (((0 + ((1 + ((Int.toNat (padE n)) - 1)) + 15)) ≤ ((1 + ((Int.toNat (padE n)) - 1)) + 15)) ∧ ((1 ≤ 1) ∧ (1 ≤ 1)) ∧ ((((1 + ((Int.toNat (padE n)) - 1)) + 16) * 1) ≤ 140737488355328)), (cZ 0), cT, (((0 + ((1 + ((Int.toNat (padE n)) - 1)) + 14)) ≤ ((1 + ((Int.toNat (padE n)) - 1)) + 14)) ∧ ((1 ≤ 1) ∧ (1 ≤ 1)) ∧ ((((1 + ((Int.toNat (padE n)) - 1)) + 15) * 1) ≤ 140737488355328)), (cZ 8), cT, (((0 + ((1 + ((Int.toNat (padE n)) - 1)) + 13)) ≤ ((1 + ((Int.toNat (padE n)) - 1)) + 13)) ∧ ((1 ≤ 1) ∧ (1 ≤ 1)) ∧ ((((1 + ((Int.toNat (padE n)) - 1)) + 14) * 1) ≤ 140737488355328)), (cZ 16), cT, (((0 + ((1 + ((Int.toNat (padE n)) - 1)) + 12)) ≤ ((1 + ((Int.toNat (padE n)) - 1)) + 12)) ∧ ((1 ≤ 1) ∧ (1 ≤ 1)) ∧ ((((1 + ((Int.toNat (padE n)) - 1)) + 13) * 1) ≤ 140737488355328)), (cZ 24), cT, (((0 + ((1 + ((Int.toNat (padE n)) - 1)) + 11)) ≤ ((1 + ((Int.toNat (padE n)) - 1)) + 11)) ∧ ((1 ≤ 1) ∧ (1 ≤ 1)) ∧ ((((1 + ((Int.toNat (padE n)) - 1)) + 12) * 1) ≤ 140737488355328)), (cZ 32), cT, (((0 + ((1 + ((Int.toNat (padE n)) - 1)) + 10)) ≤ ((1 + ((Int.toNat (padE n)) - 1)) + 10)) ∧ ((1 ≤ 1) ∧ (1 ≤ 1)) ∧ ((((1 + ((Int.toNat (padE n)) - 1)) + 11) * 1) ≤ 140737488355328)), (cZ 40), cT, (((0 + ((1 + ((Int.toNat (padE n)) - 1)) + 9)) ≤ ((1 + ((Int.toNat (padE n)) - 1)) + 9)) ∧ ((1 ≤ 1) ∧ (1 ≤ 1)) ∧ ((((1 + ((Int.toNat (padE n)) - 1)) + 10) * 1) ≤ 140737488355328)), (cZ 48), cT, (((0 + ((1 + ((Int.toNat (padE n)) - 1)) + 8)) ≤ ((1 + ((Int.toNat (padE n)) - 1)) + 8)) ∧ ((1 ≤ 1) ∧ (1 ≤ 1)) ∧ ((((1 + ((Int.toNat (padE n)) - 1)) + 9) * 1) ≤ 140737488355328)), (cZ 56), cT, (false = false), (((0 + ((1 + ((Int.toNat (padE n)) - 1)) + 7)) ≤ ((1 + ((Int.toNat (padE n)) - 1)) + 7)) ∧ ((1 ≤ 1) ∧ (1 ≤ 1)) ∧ ((((1 + ((Int.toNat (padE n)) - 1)) + 8) * 1) ≤ 140737488355328)), cT, (((0 + ((1 + ((Int.toNat (padE n)) - 1)) + 6)) ≤ ((1 + ((Int.toNat (padE n)) - 1)) + 6)) ∧ ((1 ≤ 1) ∧ (1 ≤ 1)) ∧ ((((1 + ((Int.toNat (padE n)) - 1)) + 7) * 1) ≤ 140737488355328)), cT, (((0 + ((1 + ((Int.toNat (padE n)) - 1)) + 5)) ≤ ((1 + ((Int.toNat (padE n)) - 1)) + 5)) ∧ ((1 ≤ 1) ∧ (1 ≤ 1)) ∧ ((((1 + ((Int.toNat (padE n)) - 1)) + 6) * 1) ≤ 140737488355328)), cT, (((0 + ((1 + ((Int.toNat (padE n)) - 1)) + 4)) ≤ ((1 + ((Int.toNat (padE n)) - 1)) + 4)) ∧ ((1 ≤ 1) ∧ (1 ≤ 1)) ∧ ((((1 + ((Int.toNat (padE n)) - 1)) + 5) * 1) ≤ 140737488355328)), cT, (((0 + ((1 + ((Int.toNat (padE n)) - 1)) + 3)) ≤ ((1 + ((Int.toNat (padE n)) - 1)) + 3)) ∧ ((1 ≤ 1) ∧ (1 ≤ 1)) ∧ ((((1 + ((Int.toNat (padE n)) - 1)) + 4) * 1) ≤ 140737488355328)), cT, (((0 + ((1 + ((Int.toNat (padE n)) - 1)) + 2)) ≤ ((1 + ((Int.toNat (padE n)) - 1)) + 2)) ∧ ((1 ≤ 1) ∧ (1 ≤ 1)) ∧ ((((1 + ((Int.toNat (padE n)) - 1)) + 3) * 1) ≤ 140737488355328)), cT, (((0 + ((1 + ((Int.toNat (padE n)) - 1)) + 1)) ≤ ((1 + ((Int.toNat (padE n)) - 1)) + 1)) ∧ ((1 ≤ 1) ∧ (1 ≤ 1)) ∧ ((((1 + ((Int.toNat (padE n)) - 1)) + 2) * 1) ≤ 140737488355328)), cT, (((0 + (1 + ((Int.toNat (padE n)) - 1))) ≤ (1 + ((Int.toNat (padE n)) - 1))) ∧ ((1 ≤ 1) ∧ (1 ≤ 1)) ∧ ((((1 + ((Int.toNat (padE n)) - 1)) + 1) * 1) ≤ 140737488355328)), cT, (Run Try.prog ⟨w, rw, 0, β⟩ (.block 0 (.loop (loopB Try.f124 0))) (padRL_mk n 0 (([128] : List Int))) (To ⟨w, rw, 0, β⟩ .normal (padRL_mk n ((Int.toNat (padE n)) - 1) (iter (padRL_step) ((Int.toNat (padE n)) - 1) (([128] : List Int)))))), (1 ≤ 1), ((decide (n ≥ (2305843009213693952 : Int))) = false)]) (by kernel_rfl)
    (aC rfl (aC ⟨(by have hp := padE_ok n; first | omega | (simp (disch := omega) only [wrapI]; omega)), (dd rfl), (by have hp := padE_ok n; first | omega | (simp (disch := omega) only [wrapI]; omega))⟩ (aC (dd rfl) (aC rfl (aC ⟨(by have hp := padE_ok n; first | omega | (simp (disch := omega) only [wrapI]; omega)), (dd rfl), (by have hp := padE_ok n; first | omega | (simp (disch := omega) only [wrapI]; omega))⟩ (aC (dd rfl) (aC rfl (aC ⟨(by have hp := padE_ok n; first | omega | (simp (disch := omega) only [wrapI]; omega)), (dd rfl), (by have hp := padE_ok n; first | omega | (simp (disch := omega) only [wrapI]; omega))⟩ (aC (dd rfl) (aC rfl (aC ⟨(by have hp := padE_ok n; first | omega | (simp (disch := omega) only [wrapI]; omega)), (dd rfl), (by have hp := padE_ok n; first | omega | (simp (disch := omega) only [wrapI]; omega))⟩ (aC (dd rfl) (aC rfl (aC ⟨(by have hp := padE_ok n; first | omega | (simp (disch := omega) only [wrapI]; omega)), (dd rfl), (by have hp := padE_ok n; first | omega | (simp (disch := omega) only [wrapI]; omega))⟩ (aC (dd rfl) (aC rfl (aC ⟨(by have hp := padE_ok n; first | omega | (simp (disch := omega) only [wrapI]; omega)), (dd rfl), (by have hp := padE_ok n; first | omega | (simp (disch := omega) only [wrapI]; omega))⟩ (aC (dd rfl) (aC rfl (aC ⟨(by have hp := padE_ok n; first | omega | (simp (disch := omega) only [wrapI]; omega)), (dd rfl), (by have hp := padE_ok n; first | omega | (simp (disch := omega) only [wrapI]; omega))⟩ (aC (dd rfl) (aC rfl (aC ⟨(by have hp := padE_ok n; first | omega | (simp (disch := omega) only [wrapI]; omega)), (dd rfl), (by have hp := padE_ok n; first | omega | (simp (disch := omega) only [wrapI]; omega))⟩ (aC (dd rfl) (aC rfl (aC rfl (aC ⟨(by have hp := padE_ok n; first | omega | (simp (disch := omega) only [wrapI]; omega)), (dd rfl), (by have hp := padE_ok n; first | omega | (simp (disch := omega) only [wrapI]; omega))⟩ (aC rfl (aC ⟨(by have hp := padE_ok n; first | omega | (simp (disch := omega) only [wrapI]; omega)), (dd rfl), (by have hp := padE_ok n; first | omega | (simp (disch := omega) only [wrapI]; omega))⟩ (aC rfl (aC ⟨(by have hp := padE_ok n; first | omega | (simp (disch := omega) only [wrapI]; omega)), (dd rfl), (by have hp := padE_ok n; first | omega | (simp (disch := omega) only [wrapI]; omega))⟩ (aC rfl (aC ⟨(by have hp := padE_ok n; first | omega | (simp (disch := omega) only [wrapI]; omega)), (dd rfl), (by have hp := padE_ok n; first | omega | (simp (disch := omega) only [wrapI]; omega))⟩ (aC rfl (aC ⟨(by have hp := padE_ok n; first | omega | (simp (disch := omega) only [wrapI]; omega)), (dd rfl), (by have hp := padE_ok n; first | omega | (simp (disch := omega) only [wrapI]; omega))⟩ (aC rfl (aC ⟨(by have hp := padE_ok n; first | omega | (simp (disch := omega) only [wrapI]; omega)), (dd rfl), (by have hp := padE_ok n; first | omega | (simp (disch := omega) only [wrapI]; omega))⟩ (aC rfl (aC ⟨(by have hp := padE_ok n; first | omega | (simp (disch := omega) only [wrapI]; omega)), (dd rfl), (by have hp := padE_ok n; first | omega | (simp (disch := omega) only [wrapI]; omega))⟩ (aC rfl (aC ⟨(by have hp := padE_ok n; first | omega | (simp (disch := omega) only [wrapI]; omega)), (dd rfl), (by have hp := padE_ok n; first | omega | (simp (disch := omega) only [wrapI]; omega))⟩ (aC rfl (aC (padRL_loop n h0 h1 w rw β (([128] : List Int))) (aC (dd rfl) (aC (decide_eq_false (by have hp := padE_ok n; first | omega | (simp (disch := omega) only [wrapI]; omega))) (AllP_nil))))))))))))))))))))))))))))))))))))))))))))))

theorem padR_body (n : Int) (h0 : ((0 : Int) ≤ n)) (h1 : (n < (2305843009213693952 : Int))) (w : World) (rw : List Nat) (β : Env) : Body Try.prog (tabOf tabSV) Try.f124 ⟨w, rw, 0, β⟩ [.o (.a (.i .u64 n))] [] (fun ys K' => ys = [.a (.rs 0 0 (padR n) 1), .a (.i .i64 (0 : Int))] ∧ K' = [some ⟨true, [.ints .u8 (padR n) (padR_1 n)]⟩]) :=
  Body.lens (c := (Try.f124.body.getD .skip)) rfl fun h => padR_body0 n h0 h1  w rw β

def gam304 : Gam := gcall 124 [] [.w] (fun wk vs args => match wk, vs, args with | [], [], [.o (.a (.i .u64 n))] => some (((0 : Int) ≤ n) ∧ (n < (2305843009213693952 : Int)), [.a (.rs 0 0 (padR n) 1), .a (.i .i64 (0 : Int))], [some ⟨true, [.ints .u8 (padR n) (padR_1 n)]⟩]) | _, _, _ => none) gam303
theorem gam304_ok : GamOk Try.prog gam304 := gcall_ok tabOkSV Try.func124 gam303_ok Try.call124 (by
  intro wk vs args p xs K1 h hv
  split at h
  · simp only [Option.some.injEq, Prod.mk.injEq] at h; obtain ⟨rfl, rfl, rfl⟩ := h; obtain ⟨g0, g1⟩ := hv; exact fun caps w rw β => padR_body _ g0 g1 w rw β
  · simp at h)

end Go.Proofs.Ytlmdhjojinkdbaa.X

/- The program's block and the document's: one function. -/
namespace Go.Proofs.Ytlmdhjojinkdbaa.X
open Go Go.Proofs
set_option maxRecDepth 100000

theorem bits2_or_comm (x y : Int) : bits2 .or .u64 x y = bits2 .or .u64 y x := by
  unfold bits2
  simp only [BitVec.or_comm]

theorem ror_1 (x : Int) : ror x 1 = rorR x 1 := by
  have e1 : ror x 1 = bits2 .or .u64 (shl .u64 x 63) (shr .u64 x 1) := by kernel_rfl
  have e2 : rorR x 1 = bits2 .or .u64 (shr .u64 x 1) (shl .u64 x 63) := by kernel_rfl
  rw [e1, e2, bits2_or_comm]
theorem ror_8 (x : Int) : ror x 8 = rorR x 8 := by
  have e1 : ror x 8 = bits2 .or .u64 (shl .u64 x 56) (shr .u64 x 8) := by kernel_rfl
  have e2 : rorR x 8 = bits2 .or .u64 (shr .u64 x 8) (shl .u64 x 56) := by kernel_rfl
  rw [e1, e2, bits2_or_comm]
theorem ror_19 (x : Int) : ror x 19 = rorR x 19 := by
  have e1 : ror x 19 = bits2 .or .u64 (shl .u64 x 45) (shr .u64 x 19) := by kernel_rfl
  have e2 : rorR x 19 = bits2 .or .u64 (shr .u64 x 19) (shl .u64 x 45) := by kernel_rfl
  rw [e1, e2, bits2_or_comm]
theorem ror_61 (x : Int) : ror x 61 = rorR x 61 := by
  have e1 : ror x 61 = bits2 .or .u64 (shl .u64 x 3) (shr .u64 x 61) := by kernel_rfl
  have e2 : rorR x 61 = bits2 .or .u64 (shr .u64 x 61) (shl .u64 x 3) := by kernel_rfl
  rw [e1, e2, bits2_or_comm]
theorem ror_14 (x : Int) : ror x 14 = rorR x 14 := by
  have e1 : ror x 14 = bits2 .or .u64 (shl .u64 x 50) (shr .u64 x 14) := by kernel_rfl
  have e2 : rorR x 14 = bits2 .or .u64 (shr .u64 x 14) (shl .u64 x 50) := by kernel_rfl
  rw [e1, e2, bits2_or_comm]
theorem ror_18 (x : Int) : ror x 18 = rorR x 18 := by
  have e1 : ror x 18 = bits2 .or .u64 (shl .u64 x 46) (shr .u64 x 18) := by kernel_rfl
  have e2 : rorR x 18 = bits2 .or .u64 (shr .u64 x 18) (shl .u64 x 46) := by kernel_rfl
  rw [e1, e2, bits2_or_comm]
theorem ror_41 (x : Int) : ror x 41 = rorR x 41 := by
  have e1 : ror x 41 = bits2 .or .u64 (shl .u64 x 23) (shr .u64 x 41) := by kernel_rfl
  have e2 : rorR x 41 = bits2 .or .u64 (shr .u64 x 41) (shl .u64 x 23) := by kernel_rfl
  rw [e1, e2, bits2_or_comm]
theorem ror_28 (x : Int) : ror x 28 = rorR x 28 := by
  have e1 : ror x 28 = bits2 .or .u64 (shl .u64 x 36) (shr .u64 x 28) := by kernel_rfl
  have e2 : rorR x 28 = bits2 .or .u64 (shr .u64 x 28) (shl .u64 x 36) := by kernel_rfl
  rw [e1, e2, bits2_or_comm]
theorem ror_34 (x : Int) : ror x 34 = rorR x 34 := by
  have e1 : ror x 34 = bits2 .or .u64 (shl .u64 x 30) (shr .u64 x 34) := by kernel_rfl
  have e2 : rorR x 34 = bits2 .or .u64 (shr .u64 x 34) (shl .u64 x 30) := by kernel_rfl
  rw [e1, e2, bits2_or_comm]
theorem ror_39 (x : Int) : ror x 39 = rorR x 39 := by
  have e1 : ror x 39 = bits2 .or .u64 (shl .u64 x 25) (shr .u64 x 39) := by kernel_rfl
  have e2 : rorR x 39 = bits2 .or .u64 (shr .u64 x 39) (shl .u64 x 25) := by kernel_rfl
  rw [e1, e2, bits2_or_comm]

theorem konst_eq : konst = konstR := by kernel_rfl

theorem w1_eq (b s : List Int) (k : Nat) : bW1_step b k s = rW1_step b k s := by kernel_rfl
theorem w2_eq (s : List Int) (k : Nat) : bW2_step k s = rW2_step k s := by
  unfold bW2_step rW2_step
  simp only [ror_1, ror_8, ror_19, ror_61]
theorem w2_out (s : List Int) : bW2_out0 s = rW2_out0 s := by
  unfold bW2_out0 rW2_out0
  exact iter_congr fun i s _ => w2_eq s i
theorem w1_out (b s : List Int) : bW1_out0 b s = rW1_out0 b s := by
  unfold bW1_out0 rW1_out0
  exact iter_congr fun i s _ => w1_eq b s i
theorem t_eq (b s : List Int) (k : Nat) : bT_step b konst k s = rT_step b k s := by
  unfold bT_step rT_step
  simp only [ror_14, ror_18, ror_41, ror_28, ror_34, ror_39, w1_out, w2_out, konst_eq]
theorem t_out (b s : List Int) : bT_out0 b konst s = rT_out0 b s := by
  unfold bT_out0 rT_out0
  exact iter_congr fun i s _ => t_eq b s i

theorem eight {l : List Int} (h : l.length = 8) : ∃ a b c d e f g i, l = [a, b, c, d, e, f, g, i] := by
  match l, h with
  | [a, b, c, d, e, f, g, i], _ => exact ⟨a, b, c, d, e, f, g, i, rfl⟩

theorem rT_len (b S : List Int) : (rT_out0 b S).length = 8 := by kernel_rfl

theorem blk_eq {S : List Int} (b : List Int) (h : S.length = 8) : blk S b konst = blkR S b := by
  unfold blk blkR
  rw [t_out]
  have hT := rT_len b S
  generalize rT_out0 b S = T at hT ⊢
  obtain ⟨s0, s1, s2, s3, s4, s5, s6, s7, rfl⟩ := eight h
  obtain ⟨t0, t1, t2, t3, t4, t5, t6, t7, rfl⟩ := eight hT
  simp only [List.set_cons_zero, List.set_cons_succ, List.getD_cons_zero, List.getD_cons_succ, Int.add_comm]

end Go.Proofs.Ytlmdhjojinkdbaa.X

/- Plain lemmas for the walk of the law of the chain. -/
namespace Go.Proofs.Ytlmdhjojinkdbaa.X
open Go Go.Proofs
set_option linter.unusedVariables false

theorem splice_len3 {l ys : List Int} {c m : Nat} (h : l.length = 256) (h1 : c + m ≤ 256) (h2 : ys.length = m) : (splice l c m ys).length = 256 := by
  rw [splice_len _ _ _ _ (by omega) h2, h]

theorem pad_1_len (n : Int) : (pad_1 n).length = 256 := by
  have := padE_ok n
  unfold padE at this
  unfold pad_1
  repeat' first
    | refine splice_len3 ?_ ?_ ?_
  all_goals first
    | (rw [List.length_set, List.length_replicate])
    | omega
    | rfl

theorem sub_left {α : Type} (x y : List α) (c m : Nat) (h : c + m ≤ x.length) : sub (x ++ y) c m = sub x c m := by
  unfold sub
  rw [List.drop_append_of_le_length (by omega), List.take_append_of_le_length (by simp; omega)]

theorem sub_of_drop {α : Type} (l : List α) (a c m : Nat) : sub (l.drop a) c m = sub l (a + c) m := by
  unfold sub; rw [List.drop_drop]

theorem absN_zero (C D S : List Int) : absN C D 0 S = S := rfl
theorem absN_succ (C D : List Int) (k : Nat) (S : List Int) : absN C D (k + 1) S = blk (absN C D k S) (sub D (128 * k) 128) C := rfl

theorem absN_add (C D : List Int) (k1 : Nat) : ∀ (k2 : Nat) (S : List Int), absN C D (k1 + k2) S = absN C (D.drop (128 * k1)) k2 (absN C D k1 S)
  | 0, S => by rw [Nat.add_zero, absN_zero]
  | k2 + 1, S => by
    rw [← Nat.add_assoc, absN_succ, absN_succ, absN_add C D k1 k2 S, sub_of_drop, show 128 * k1 + 128 * k2 = 128 * (k1 + k2) by omega]

theorem absN_left (C D E : List Int) (k : Nat) (S : List Int) (h : 128 * k ≤ D.length) : absN C (D ++ E) k S = absN C D k S :=
  iter_congr fun i s hi => by rw [sub_left _ _ _ _ (by omega)]

theorem rest_sub {L P : List Int} {tl p c : Nat} (hL : L.length = tl) (hP : P.length = p) (h : tl + p ≤ 512) (hc : c + 128 ≤ tl + p) :
    sub (splice (splice (List.replicate (512 : Nat) (0 : Int)) (0 : Nat) (min tl tl) (sub L 0 (min tl tl))) ((0 : Nat) + tl) p P) c 128 = sub (L ++ P) c 128 := by
  have e1 : splice (List.replicate (512 : Nat) (0 : Int)) 0 (min tl tl) (sub L 0 (min tl tl)) = L ++ (List.replicate 512 (0 : Int)).drop tl := by
    rw [Nat.min_self, sub_all _ _ (by omega), splice_zero]
  rw [e1, Nat.zero_add]
  have e2 : splice (L ++ (List.replicate 512 (0 : Int)).drop tl) tl p P = (L ++ P) ++ (L ++ (List.replicate 512 (0 : Int)).drop tl).drop (tl + p) := by
    unfold splice
    rw [List.take_append_of_le_length (by omega), List.take_of_length_le (by omega)]
  rw [e2, sub_left _ _ _ _ (by simp; omega)]

def digL (W : List Int) : List Int := [IntKind.u8.wrap (shr .u64 (List.getD W 0 0) 56), IntKind.u8.wrap (shr .u64 (List.getD W 0 0) 48), IntKind.u8.wrap (shr .u64 (List.getD W 0 0) 40), IntKind.u8.wrap (shr .u64 (List.getD W 0 0) 32), IntKind.u8.wrap (shr .u64 (List.getD W 0 0) 24), IntKind.u8.wrap (shr .u64 (List.getD W 0 0) 16), IntKind.u8.wrap (shr .u64 (List.getD W 0 0) 8), IntKind.u8.wrap (shr .u64 (List.getD W 0 0) 0), IntKind.u8.wrap (shr .u64 (List.getD W 1 0) 56), IntKind.u8.wrap (shr .u64 (List.getD W 1 0) 48), IntKind.u8.wrap (shr .u64 (List.getD W 1 0) 40), IntKind.u8.wrap (shr .u64 (List.getD W 1 0) 32), IntKind.u8.wrap (shr .u64 (List.getD W 1 0) 24), IntKind.u8.wrap (shr .u64 (List.getD W 1 0) 16), IntKind.u8.wrap (shr .u64 (List.getD W 1 0) 8), IntKind.u8.wrap (shr .u64 (List.getD W 1 0) 0), IntKind.u8.wrap (shr .u64 (List.getD W 2 0) 56), IntKind.u8.wrap (shr .u64 (List.getD W 2 0) 48), IntKind.u8.wrap (shr .u64 (List.getD W 2 0) 40), IntKind.u8.wrap (shr .u64 (List.getD W 2 0) 32), IntKind.u8.wrap (shr .u64 (List.getD W 2 0) 24), IntKind.u8.wrap (shr .u64 (List.getD W 2 0) 16), IntKind.u8.wrap (shr .u64 (List.getD W 2 0) 8), IntKind.u8.wrap (shr .u64 (List.getD W 2 0) 0), IntKind.u8.wrap (shr .u64 (List.getD W 3 0) 56), IntKind.u8.wrap (shr .u64 (List.getD W 3 0) 48), IntKind.u8.wrap (shr .u64 (List.getD W 3 0) 40), IntKind.u8.wrap (shr .u64 (List.getD W 3 0) 32), IntKind.u8.wrap (shr .u64 (List.getD W 3 0) 24), IntKind.u8.wrap (shr .u64 (List.getD W 3 0) 16), IntKind.u8.wrap (shr .u64 (List.getD W 3 0) 8), IntKind.u8.wrap (shr .u64 (List.getD W 3 0) 0), IntKind.u8.wrap (shr .u64 (List.getD W 4 0) 56), IntKind.u8.wrap (shr .u64 (List.getD W 4 0) 48), IntKind.u8.wrap (shr .u64 (List.getD W 4 0) 40), IntKind.u8.wrap (shr .u64 (List.getD W 4 0) 32), IntKind.u8.wrap (shr .u64 (List.getD W 4 0) 24), IntKind.u8.wrap (shr .u64 (List.getD W 4 0) 16), IntKind.u8.wrap (shr .u64 (List.getD W 4 0) 8), IntKind.u8.wrap (shr .u64 (List.getD W 4 0) 0), IntKind.u8.wrap (shr .u64 (List.getD W 5 0) 56), IntKind.u8.wrap (shr .u64 (List.getD W 5 0) 48), IntKind.u8.wrap (shr .u64 (List.getD W 5 0) 40), IntKind.u8.wrap (shr .u64 (List.getD W 5 0) 32), IntKind.u8.wrap (shr .u64 (List.getD W 5 0) 24), IntKind.u8.wrap (shr .u64 (List.getD W 5 0) 16), IntKind.u8.wrap (shr .u64 (List.getD W 5 0) 8), IntKind.u8.wrap (shr .u64 (List.getD W 5 0) 0), IntKind.u8.wrap (shr .u64 (List.getD W 6 0) 56), IntKind.u8.wrap (shr .u64 (List.getD W 6 0) 48), IntKind.u8.wrap (shr .u64 (List.getD W 6 0) 40), IntKind.u8.wrap (shr .u64 (List.getD W 6 0) 32), IntKind.u8.wrap (shr .u64 (List.getD W 6 0) 24), IntKind.u8.wrap (shr .u64 (List.getD W 6 0) 16), IntKind.u8.wrap (shr .u64 (List.getD W 6 0) 8), IntKind.u8.wrap (shr .u64 (List.getD W 6 0) 0), IntKind.u8.wrap (shr .u64 (List.getD W 7 0) 56), IntKind.u8.wrap (shr .u64 (List.getD W 7 0) 48), IntKind.u8.wrap (shr .u64 (List.getD W 7 0) 40), IntKind.u8.wrap (shr .u64 (List.getD W 7 0) 32), IntKind.u8.wrap (shr .u64 (List.getD W 7 0) 24), IntKind.u8.wrap (shr .u64 (List.getD W 7 0) 16), IntKind.u8.wrap (shr .u64 (List.getD W 7 0) 8), IntKind.u8.wrap (shr .u64 (List.getD W 7 0) 0)]

theorem hsum_dig (S : List Int) (tl : Nat) (N : Int) (L C : List Int) : hsum S tl N L C = digL (sumL_out0 tl N L C S) := by kernel_rfl
theorem digL_len (W : List Int) : (digL W).length = 64 := rfl
end Go.Proofs.Ytlmdhjojinkdbaa.X

/- Plain lemmas: the two Pads lay the same bytes. -/
namespace Go.Proofs.Ytlmdhjojinkdbaa.X
open Go Go.Proofs
set_option linter.unusedVariables false
set_option maxRecDepth 100000

theorem app_step {l ys : List Int} {c m : Nat} (h : l.length = 256) (h1 : c + m ≤ 256) (h2 : ys.length = m) : sub (splice l c m ys) 0 (c + m) = sub l 0 c ++ ys := by
  unfold sub splice
  simp only [List.drop_zero]
  have e : (l.take c ++ ys).length = c + m := by simp; omega
  rw [List.take_append_of_le_length (by omega), List.take_of_length_le (by omega)]

theorem app_step' {l ys : List Int} {c m k : Nat} (hk : k = c + m) (h : l.length = 256) (h1 : c + m ≤ 256) (h2 : ys.length = m) : sub (splice l c m ys) 0 k = sub l 0 c ++ ys := by
  rw [hk]; exact app_step h h1 h2

theorem padRL_val (n : Int) : ∀ k : Nat, iter padRL_step k [128] = 128 :: List.replicate k 0
  | 0 => rfl
  | k + 1 => by
    show sub (iter padRL_step k [128]) 0 (1 + k) ++ [0] = _
    rw [padRL_val n k, sub_all _ _ (by simp; omega), List.cons_append, ← List.replicate_succ']

theorem set_take (e : Nat) (h1 : 1 ≤ e) (h2 : e ≤ 256) : sub (List.set (List.replicate 256 (0 : Int)) 0 128) 0 e = 128 :: List.replicate (e - 1) 0 := by
  obtain ⟨m, rfl⟩ : ∃ m, e = m + 1 := ⟨e - 1, by omega⟩
  have : List.replicate 256 (0 : Int) = 0 :: List.replicate 255 0 := rfl
  rw [this, List.set_cons_zero]
  unfold sub
  rw [List.drop_zero, List.take_succ_cons, List.take_replicate]
  congr 2; omega
end Go.Proofs.Ytlmdhjojinkdbaa.X

/- Plain lemmas: the two Pads lay the same bytes, in full. -/
namespace Go.Proofs.Ytlmdhjojinkdbaa.X
open Go Go.Proofs
set_option maxRecDepth 100000

def padSpec (n : Int) (e : Nat) : List Int := (((((((((128 :: List.replicate (e - 1) (0 : Int)) ++ List.replicate 8 (0 : Int)) ++ ([(IntKind.u8.wrap (shr .u64 (IntKind.u64.wrap (n * (8 : Int))) (56 : Int)))] : List Int)) ++ ([(IntKind.u8.wrap (shr .u64 (IntKind.u64.wrap (n * (8 : Int))) (48 : Int)))] : List Int)) ++ ([(IntKind.u8.wrap (shr .u64 (IntKind.u64.wrap (n * (8 : Int))) (40 : Int)))] : List Int)) ++ ([(IntKind.u8.wrap (shr .u64 (IntKind.u64.wrap (n * (8 : Int))) (32 : Int)))] : List Int)) ++ ([(IntKind.u8.wrap (shr .u64 (IntKind.u64.wrap (n * (8 : Int))) (24 : Int)))] : List Int)) ++ ([(IntKind.u8.wrap (shr .u64 (IntKind.u64.wrap (n * (8 : Int))) (16 : Int)))] : List Int)) ++ ([(IntKind.u8.wrap (shr .u64 (IntKind.u64.wrap (n * (8 : Int))) (8 : Int)))] : List Int)) ++ ([(IntKind.u8.wrap (shr .u64 (IntKind.u64.wrap (n * (8 : Int))) (0 : Int)))] : List Int)

theorem app_congr {x y z : List Int} (h : x = y) : x ++ z = y ++ z := by rw [h]

theorem padA (n : Int) (e : Nat) (h1 : 1 ≤ e) (h2 : e ≤ 128) : sub (splice (splice (splice (splice (splice (splice (splice (splice (splice (List.set (List.replicate 256 (0 : Int)) 0 (128 : Int)) (0 + e) 8 (List.replicate 8 (0 : Int))) (0 + (e + 8)) 1 ([(IntKind.u8.wrap (shr .u64 (IntKind.u64.wrap (n * (8 : Int))) (56 : Int)))] : List Int)) (0 + (e + 9)) 1 ([(IntKind.u8.wrap (shr .u64 (IntKind.u64.wrap (n * (8 : Int))) (48 : Int)))] : List Int)) (0 + (e + 10)) 1 ([(IntKind.u8.wrap (shr .u64 (IntKind.u64.wrap (n * (8 : Int))) (40 : Int)))] : List Int)) (0 + (e + 11)) 1 ([(IntKind.u8.wrap (shr .u64 (IntKind.u64.wrap (n * (8 : Int))) (32 : Int)))] : List Int)) (0 + (e + 12)) 1 ([(IntKind.u8.wrap (shr .u64 (IntKind.u64.wrap (n * (8 : Int))) (24 : Int)))] : List Int)) (0 + (e + 13)) 1 ([(IntKind.u8.wrap (shr .u64 (IntKind.u64.wrap (n * (8 : Int))) (16 : Int)))] : List Int)) (0 + (e + 14)) 1 ([(IntKind.u8.wrap (shr .u64 (IntKind.u64.wrap (n * (8 : Int))) (8 : Int)))] : List Int)) (0 + (e + 15)) 1 ([(IntKind.u8.wrap (shr .u64 (IntKind.u64.wrap (n * (8 : Int))) (0 : Int)))] : List Int)) 0 (e + 16) = padSpec n e := by
  unfold padSpec
  refine (app_step' (c := 0 + (e + 15)) (m := 1) (by omega) (by (repeat' (first | refine splice_len3 ?_ ?_ ?_)) <;> first | (rw [List.length_set, List.length_replicate]) | omega | rfl) (by omega) rfl).trans ?_
  refine app_congr ?_
  refine (app_step' (c := 0 + (e + 14)) (m := 1) (by omega) (by (repeat' (first | refine splice_len3 ?_ ?_ ?_)) <;> first | (rw [List.length_set, List.length_replicate]) | omega | rfl) (by omega) rfl).trans ?_
  refine app_congr ?_
  refine (app_step' (c := 0 + (e + 13)) (m := 1) (by omega) (by (repeat' (first | refine splice_len3 ?_ ?_ ?_)) <;> first | (rw [List.length_set, List.length_replicate]) | omega | rfl) (by omega) rfl).trans ?_
  refine app_congr ?_
  refine (app_step' (c := 0 + (e + 12)) (m := 1) (by omega) (by (repeat' (first | refine splice_len3 ?_ ?_ ?_)) <;> first | (rw [List.length_set, List.length_replicate]) | omega | rfl) (by omega) rfl).trans ?_
  refine app_congr ?_
  refine (app_step' (c := 0 + (e + 11)) (m := 1) (by omega) (by (repeat' (first | refine splice_len3 ?_ ?_ ?_)) <;> first | (rw [List.length_set, List.length_replicate]) | omega | rfl) (by omega) rfl).trans ?_
  refine app_congr ?_
  refine (app_step' (c := 0 + (e + 10)) (m := 1) (by omega) (by (repeat' (first | refine splice_len3 ?_ ?_ ?_)) <;> first | (rw [List.length_set, List.length_replicate]) | omega | rfl) (by omega) rfl).trans ?_
  refine app_congr ?_
  refine (app_step' (c := 0 + (e + 9)) (m := 1) (by omega) (by (repeat' (first | refine splice_len3 ?_ ?_ ?_)) <;> first | (rw [List.length_set, List.length_replicate]) | omega | rfl) (by omega) rfl).trans ?_
  refine app_congr ?_
  refine (app_step' (c := 0 + (e + 8)) (m := 1) (by omega) (by (repeat' (first | refine splice_len3 ?_ ?_ ?_)) <;> first | (rw [List.length_set, List.length_replicate]) | omega | rfl) (by omega) rfl).trans ?_
  refine app_congr ?_
  refine (app_step' (c := 0 + e) (m := 8) (by omega) (by (repeat' (first | refine splice_len3 ?_ ?_ ?_)) <;> first | (rw [List.length_set, List.length_replicate]) | omega | rfl) (by omega) rfl).trans ?_
  refine app_congr ?_
  rw [Nat.zero_add]
  exact set_take e h1 (by omega)

theorem padB_ (n : Int) (e : Nat) (h1 : 1 ≤ e) (h2 : e ≤ 128) : sub ((sub ((sub ((sub ((sub ((sub ((sub ((sub ((sub ((sub ((sub ((sub ((sub ((sub ((sub ((sub ((sub (128 :: List.replicate (e - 1) (0 : Int)) 0 e) ++ ([0] : List Int)) 0 (e + 1)) ++ ([0] : List Int)) 0 (e + 2)) ++ ([0] : List Int)) 0 (e + 3)) ++ ([0] : List Int)) 0 (e + 4)) ++ ([0] : List Int)) 0 (e + 5)) ++ ([0] : List Int)) 0 (e + 6)) ++ ([0] : List Int)) 0 (e + 7)) ++ ([0] : List Int)) 0 (e + 8)) ++ ([(IntKind.u8.wrap (shr .u64 (IntKind.u64.wrap (n * (8 : Int))) (56 : Int)))] : List Int)) 0 (e + 9)) ++ ([(IntKind.u8.wrap (shr .u64 (IntKind.u64.wrap (n * (8 : Int))) (48 : Int)))] : List Int)) 0 (e + 10)) ++ ([(IntKind.u8.wrap (shr .u64 (IntKind.u64.wrap (n * (8 : Int))) (40 : Int)))] : List Int)) 0 (e + 11)) ++ ([(IntKind.u8.wrap (shr .u64 (IntKind.u64.wrap (n * (8 : Int))) (32 : Int)))] : List Int)) 0 (e + 12)) ++ ([(IntKind.u8.wrap (shr .u64 (IntKind.u64.wrap (n * (8 : Int))) (24 : Int)))] : List Int)) 0 (e + 13)) ++ ([(IntKind.u8.wrap (shr .u64 (IntKind.u64.wrap (n * (8 : Int))) (16 : Int)))] : List Int)) 0 (e + 14)) ++ ([(IntKind.u8.wrap (shr .u64 (IntKind.u64.wrap (n * (8 : Int))) (8 : Int)))] : List Int)) 0 (e + 15)) ++ ([(IntKind.u8.wrap (shr .u64 (IntKind.u64.wrap (n * (8 : Int))) (0 : Int)))] : List Int)) 0 (e + 16) = padSpec n e := by
  unfold padSpec
  simp (disch := (simp; omega)) only [sub_all]
  simp only [List.append_assoc, List.cons_append, List.nil_append, List.replicate_succ, List.replicate_zero]
end Go.Proofs.Ytlmdhjojinkdbaa.X

/- Plain lemma: the two Pads answer the same bytes. -/
namespace Go.Proofs.Ytlmdhjojinkdbaa.X
open Go Go.Proofs

theorem padL_eq (n : Int) : sub (pad_1 n) 0 (pad n) = padSpec n (padE n).toNat := by
  have h := padE_ok n
  have := padA n (padE n).toNat (by omega) (by omega)
  rw [← this]; rfl

theorem padR_len (n : Int) : padR n = pad n := by
  have h := padE_ok n
  rw [pad_eq]
  unfold padR
  omega

theorem padRL_out (n : Int) : padRL_out0 n [128] = 128 :: List.replicate ((padE n).toNat - 1) 0 := padRL_val n _

theorem padR_eqL (n : Int) : sub (padR_1 n) 0 (padR n) = padSpec n (padE n).toNat := by
  have h := padE_ok n
  have hb := padB_ n (padE n).toNat (by omega) (by omega)
  have e1 : 1 + ((padE n).toNat - 1) = (padE n).toNat := by omega
  rw [padR_len, pad_eq, ← hb]
  unfold padR_1
  rw [padRL_out, e1]

theorem pad_same (n : Int) : sub (padR_1 n) 0 (padR n) = sub (pad_1 n) 0 (pad n) := by
  rw [padR_eqL, padL_eq]
end Go.Proofs.Ytlmdhjojinkdbaa.X

/- Printed by a tool of this session. -/
namespace Go.Proofs.Ytlmdhjojinkdbaa.X
open Go Go.Proofs
set_option linter.unusedVariables false
set_option linter.unusedSimpArgs false
set_option maxRecDepth 100000
theorem teTE_3 : TEOk Try.prog 3 ⟨.int .i64, 1, 8, [.i .i64 (0 : Int)], false⟩ :=
  TEOk.of Try.underlying3 (i := Try.t3) (by kernel_rfl) rfl rfl rfl (by kernel_rfl) (fun h => by cases h) (by kernel_rfl)
theorem teTE_5 : TEOk Try.prog 5 ⟨.int .u8, 1, 1, [.i .u8 (0 : Int)], false⟩ :=
  TEOk.of Try.underlying5 (i := Try.t5) (by kernel_rfl) rfl rfl rfl (by kernel_rfl) (fun h => by cases h) (by kernel_rfl)
theorem teTE_22 : TEOk Try.prog 22 ⟨.slice 5, 1, 24, [.raw (.slice none 0 0)], false⟩ :=
  TEOk.of Try.underlying22 (i := Try.t22) (by kernel_rfl) rfl rfl rfl (by kernel_rfl) (fun h => by cases h) (by kernel_rfl)
theorem teTE_32 : TEOk Try.prog 32 ⟨.array 64 5, 64, 64, [.ints .u8 64 (List.replicate 64 0)], true⟩ :=
  TEOk.of Try.underlying32 (i := Try.t32) (by kernel_rfl) rfl rfl rfl (by kernel_rfl) (fun _ => Try.eqGuardType32) (by kernel_rfl)
theorem teTE_147 : TEOk Try.prog 147 ⟨.int .u64, 1, 8, [.i .u64 (0 : Int)], false⟩ :=
  TEOk.of Try.underlying147 (i := Try.t147) (by kernel_rfl) rfl rfl rfl (by kernel_rfl) (fun h => by cases h) (by kernel_rfl)
theorem teTE_148 : TEOk Try.prog 148 ⟨.array 8 147, 8, 64, [.ints .u64 (8 : Nat) ([0, 0, 0, 0, 0, 0, 0, 0] : List Int)], true⟩ :=
  TEOk.of Try.underlying148 (i := Try.t148) (by kernel_rfl) rfl rfl rfl (by kernel_rfl) (fun _ => Try.eqGuardType148) (by kernel_rfl)
theorem teTE_229 : TEOk Try.prog 229 ⟨.int .u64, 1, 8, [.i .u64 (0 : Int)], false⟩ :=
  TEOk.of Try.underlying229 (i := Try.t229) (by kernel_rfl) rfl rfl rfl (by kernel_rfl) (fun h => by cases h) (by kernel_rfl)
noncomputable def tabTE : List (Nat × TE) := [(3, ⟨.int .i64, 1, 8, [.i .i64 (0 : Int)], false⟩), (5, ⟨.int .u8, 1, 1, [.i .u8 (0 : Int)], false⟩), (22, ⟨.slice 5, 1, 24, [nlA], false⟩), (32, ⟨.array 64 5, 64, 64, [.ints .u8 64 (List.replicate 64 0)], true⟩), (147, ⟨.int .u64, 1, 8, [.i .u64 (0 : Int)], false⟩), (148, ⟨.array 8 147, 8, 64, [.ints .u64 8 ([0, 0, 0, 0, 0, 0, 0, 0] : List Int)], true⟩), (229, ⟨.int .u64, 1, 8, [.i .u64 (0 : Int)], false⟩)]
theorem tabOkTE : TabOk Try.prog (tabOf tabTE) := (tabOf_cons teTE_3 (tabOf_cons teTE_5 (tabOf_cons teTE_22 (tabOf_cons teTE_32 (tabOf_cons teTE_147 (tabOf_cons teTE_148 (tabOf_cons teTE_229 tabOf_nil)))))))

def finL_mk (S : List Int) (n nm : Nat) (b : List Int) (N : Int) (cap0 k : Nat) (s : (List Int)) : St := ⟨sparse 56 [(0, .o (.g [.ints .u64 8 S])), (1, .o (.a (.sl 0 0 n cap0))), (2, .o (.a (.i .u64 N))), (3, .o (.a (.p 1 0))), (6, .o (.a (.p 2 0))), (7, .o (.a (.rs 3 0 (padR N) 1))), (9, .o (.a (.rs 5 0 (n + (padR N)) 1))), (10, .o (.a (.i .i64 (((128 * k) : Nat) : Int)))), (13, .t [.a (.rs 3 0 (padR N) 1), .a (.i .i64 (0 : Int))]), (14, .o (.a (.i .u64 N))), (15, .t [.a (.rs 3 0 (padR N) 1), .a (.i .i64 (0 : Int))]), (16, .o (.a (.rs 3 0 (padR N) 1))), (17, .o (.a (.i .i64 (0 : Int)))), (18, .o (.a nlA)), (19, .o (.a (.sl 0 0 n cap0))), (20, .o (.a (.rs 4 0 n 1))), (21, .o (.a (.rs 4 0 n 1))), (22, .o (.a (.rs 3 0 (padR N) 1))), (23, .o (.a (.rs 5 0 (n + (padR N)) 1)))], [some ⟨false, [.ints .u8 nm b]⟩, some ⟨true, [.ints .u64 8 s]⟩, some ⟨true, [.ints .u8 64 (List.replicate 64 0)]⟩, some ⟨true, [.ints .u8 (padR N) (padR_1 N)]⟩, none, some ⟨true, [.ints .u8 (n + (padR N)) ((sub (sub b 0 n) 0 n) ++ (sub (padR_1 N) 0 (padR N)))]⟩]⟩

def finL_step (n : Nat) (b : List Int) (N : Int) (k : Nat) (s : (List Int)) : (List Int) :=
  ((blkR s (sub ((sub (sub b 0 n) (0 : Nat) n) ++ (sub (padR_1 N) (0 : Nat) (padR N))) ((0 : Nat) + ((128 : Nat) * k)) ((Int.toNat (IntKind.i64.wrap (((((128 : Nat) * k) : Nat) : Int) + (128 : Int)))) - ((128 : Nat) * k)))))

set_option maxHeartbeats 1000000 in
theorem finL_round (S : List Int) (n nm : Nat) (b : List Int) (N : Int) (cap0 : Nat) (h0 : (nm = n)) (h1 : ((0 : Int) ≤ N)) (h2 : (N < (2305843009213693952 : Int))) (h3 : (n < 70368744177664)) (hc0 : n ≤ cap0) (hl0_0 : List.length b = nm) (hv0 : List.length S = 8) (w : World) (β : Env) (k : Nat) (hk : k < ((n + (padR N)) / 128)) (s : (List Int)) : Run Try.prog ⟨w, [], 1, β⟩ (loopB Try.f88 0) (finL_mk S n nm b N cap0 k s) (To ⟨w, [], 1, β⟩ .normal (finL_mk S n nm b N cap0 (k + 1) (finL_step n b N k s))) := by
  have e0 : (IntKind.i64.wrap (((((128 : Nat) * k) : Nat) : Int) + (128 : Int))) = ((((128 : Nat) * (k + (1 : Nat))) : Nat) : Int) := (by have hq2 := padR_len N; have hp1 := pad_le N; first | rfl | omega | (simp (disch := omega) only [wrapI]; omega))
  have h := Run.of_outT (B := ⟨w, [], 1, β⟩) (Λ := noLam) (Ψ := noPsi) (fuel := 0) (ora := [true]) (c := (loopB Try.f88 0)) (st := (finL_mk S n nm b N cap0 k s)) (l := [.forget [0, 1, 2, 3, 6, 7, 9, 10, 13, 14, 15, 16, 17, 18, 19, 20, 21, 22, 23] 6]) (s' := ⟨sparse 56 [(0, .o (.g [.ints .u64 8 S])), (1, .o (.a (.sl 0 0 n cap0))), (2, .o (.a (.i .u64 N))), (3, .o (.a (.p 1 0))), (6, .o (.a (.p 2 0))), (7, .o (.a (.rs 3 0 (padR N) 1))), (9, .o (.a (.rs 5 0 (n + (padR N)) 1))), (10, .o (.a (.i .i64 (IntKind.i64.wrap ((((128 * k) : Nat) : Int) + (128 : Int)))))), (13, .t [.a (.rs 3 0 (padR N) 1), .a (.i .i64 (0 : Int))]), (14, .o (.a (.i .u64 N))), (15, .t [.a (.rs 3 0 (padR N) 1), .a (.i .i64 (0 : Int))]), (16, .o (.a (.rs 3 0 (padR N) 1))), (17, .o (.a (.i .i64 (0 : Int)))), (18, .o (.a nlA)), (19, .o (.a (.sl 0 0 n cap0))), (20, .o (.a (.rs 4 0 n 1))), (21, .o (.a (.rs 4 0 n 1))), (22, .o (.a (.rs 3 0 (padR N) 1))), (23, .o (.a (.rs 5 0 (n + (padR N)) 1)))], [some ⟨false, [.ints .u8 nm b]⟩, some ⟨true, [.ints .u64 8 (finL_step n b N k s)]⟩, some ⟨true, [.ints .u8 64 (List.replicate 64 0)]⟩, some ⟨true, [.ints .u8 (padR N) (padR_1 N)]⟩, none, some ⟨true, [.ints .u8 (n + (padR N)) ((sub (sub b 0 n) 0 n) ++ (sub (padR_1 N) 0 (padR N)))]⟩]⟩) (ex := .normal) mix tabOkTE gam304_ok
    (vc := [((True ∧ ((((0 + (128 * k)) + ((Int.toNat (IntKind.i64.wrap ((((128 * k) : Nat) : Int) + (128 : Int)))) - (128 * k))) ≤ (n + (padR N))) ∧ True)) ∧ ((((Int.toNat (IntKind.i64.wrap ((((128 * k) : Nat) : Int) + (128 : Int)))) - (128 * k)) = ((Int.toNat (IntKind.i64.wrap ((((128 * k) : Nat) : Int) + (128 : Int)))) - (128 * k))) ∧ (((Int.toNat (IntKind.i64.wrap ((((128 * k) : Nat) : Int) + (128 : Int)))) - (128 * k)) = 128))), (((0 : Int) ≤ (((128 * k) : Nat) : Int)) ∧ ((((128 * k) : Nat) : Int) ≤ (IntKind.i64.wrap ((((128 * k) : Nat) : Int) + (128 : Int)))) ∧ ((IntKind.i64.wrap ((((128 * k) : Nat) : Int) + (128 : Int))) ≤ (((n + (padR N)) : Nat) : Int))), ((decide ((IntKind.i64.wrap ((((128 * k) : Nat) : Int) + (128 : Int))) ≤ (((n + (padR N)) : Nat) : Int))) = true)]) (by kernel_rfl)
    (aC ⟨⟨trivial, ⟨(by have hq2 := padR_len N; have hp1 := pad_le N; first | omega | (simp (disch := omega) only [wrapI]; omega)), trivial⟩⟩, ⟨rfl, (by have hq2 := padR_len N; have hp1 := pad_le N; first | omega | (simp (disch := omega) only [wrapI]; omega))⟩⟩ (aC ⟨(by have hq2 := padR_len N; have hp1 := pad_le N; first | omega | (simp (disch := omega) only [wrapI]; omega)), (by have hq2 := padR_len N; have hp1 := pad_le N; first | omega | (simp (disch := omega) only [wrapI]; omega)), (by have hq2 := padR_len N; have hp1 := pad_le N; first | omega | (simp (disch := omega) only [wrapI]; omega))⟩ (aC (decide_eq_true (by have hq2 := padR_len N; have hp1 := pad_le N; first | omega | (simp (disch := omega) only [wrapI]; omega))) (AllP_nil))))
  rw [e0] at h
  exact h

set_option maxHeartbeats 1000000 in
theorem finL_last (S : List Int) (n nm : Nat) (b : List Int) (N : Int) (cap0 : Nat) (h0 : (nm = n)) (h1 : ((0 : Int) ≤ N)) (h2 : (N < (2305843009213693952 : Int))) (h3 : (n < 70368744177664)) (hc0 : n ≤ cap0) (hl0_0 : List.length b = nm) (hv0 : List.length S = 8) (w : World) (β : Env) (s : (List Int)) : Run Try.prog ⟨w, [], 1, β⟩ (loopB Try.f88 0) (finL_mk S n nm b N cap0 ((n + (padR N)) / 128) s) (To ⟨w, [], 1, β⟩ (.exit 0) (finL_mk S n nm b N cap0 ((n + (padR N)) / 128) s)) :=
  Run.of_outT (B := ⟨w, [], 1, β⟩) (Λ := noLam) (Ψ := noPsi) (fuel := 0) (ora := [false]) (l := [.forget [0, 1, 2, 3, 6, 7, 9, 10, 13, 14, 15, 16, 17, 18, 19, 20, 21, 22, 23] 6]) mix tabOkTE gam304_ok
    (vc := [((decide ((IntKind.i64.wrap (((((128 : Nat) * ((n + (padR N)) / (128 : Nat))) : Nat) : Int) + (128 : Int))) ≤ (((n + (padR N)) : Nat) : Int))) = false)]) (by kernel_rfl)
    (aC (decide_eq_false (by have hq2 := padR_len N; have hp1 := pad_le N; first | omega | (simp (disch := omega) only [wrapI]; omega))) (AllP_nil))

theorem finL_loop (S : List Int) (n nm : Nat) (b : List Int) (N : Int) (cap0 : Nat) (h0 : (nm = n)) (h1 : ((0 : Int) ≤ N)) (h2 : (N < (2305843009213693952 : Int))) (h3 : (n < 70368744177664)) (hc0 : n ≤ cap0) (hl0_0 : List.length b = nm) (hv0 : List.length S = 8) (w : World) (β : Env) (s : (List Int)) : Run Try.prog ⟨w, [], 1, β⟩ (.block 0 (.loop (loopB Try.f88 0))) (finL_mk S n nm b N cap0 0 s) (To ⟨w, [], 1, β⟩ .normal (finL_mk S n nm b N cap0 ((n + (padR N)) / 128) (iter (finL_step n b N) ((n + (padR N)) / 128) s))) :=
  Run.count (fun k => finL_mk S n nm b N cap0 k (iter (finL_step n b N) k s)) ((n + (padR N)) / 128) (fun k hk => finL_round S n nm b N cap0 h0 h1 h2 h3 hc0 hl0_0 hv0 w β k hk _) (ex := (.exit 0)) (by simp) (finL_last S n nm b N cap0 h0 h1 h2 h3 hc0 hl0_0 hv0 w β _)

def finL_out0 (n : Nat) (b : List Int) (N : Int) (i0 : List Int) : List Int := (iter (finL_step n b N) ((n + (padR N)) / (128 : Nat)) (i0))

def finR (S : List Int) (n : Nat) (b : List Int) (N : Int) : List Int :=
  let z0 : List Int := (finL_out0 n b N S)
  let z1 : Int := (List.getD z0 (7 : Nat) 0)
  let z2 : Int := (List.getD z0 (6 : Nat) 0)
  let z3 : Int := (List.getD z0 (5 : Nat) 0)
  let z4 : Int := (List.getD z0 (4 : Nat) 0)
  let z5 : Int := (List.getD z0 (3 : Nat) 0)
  let z6 : Int := (List.getD z0 (2 : Nat) 0)
  let z7 : Int := (List.getD z0 (1 : Nat) 0)
  let z8 : Int := (List.getD z0 (0 : Nat) 0)
  ([(IntKind.u8.wrap (shr .u64 z8 (56 : Int))), (IntKind.u8.wrap (shr .u64 z8 (48 : Int))), (IntKind.u8.wrap (shr .u64 z8 (40 : Int))), (IntKind.u8.wrap (shr .u64 z8 (32 : Int))), (IntKind.u8.wrap (shr .u64 z8 (24 : Int))), (IntKind.u8.wrap (shr .u64 z8 (16 : Int))), (IntKind.u8.wrap (shr .u64 z8 (8 : Int))), (IntKind.u8.wrap (shr .u64 z8 (0 : Int))), (IntKind.u8.wrap (shr .u64 z7 (56 : Int))), (IntKind.u8.wrap (shr .u64 z7 (48 : Int))), (IntKind.u8.wrap (shr .u64 z7 (40 : Int))), (IntKind.u8.wrap (shr .u64 z7 (32 : Int))), (IntKind.u8.wrap (shr .u64 z7 (24 : Int))), (IntKind.u8.wrap (shr .u64 z7 (16 : Int))), (IntKind.u8.wrap (shr .u64 z7 (8 : Int))), (IntKind.u8.wrap (shr .u64 z7 (0 : Int))), (IntKind.u8.wrap (shr .u64 z6 (56 : Int))), (IntKind.u8.wrap (shr .u64 z6 (48 : Int))), (IntKind.u8.wrap (shr .u64 z6 (40 : Int))), (IntKind.u8.wrap (shr .u64 z6 (32 : Int))), (IntKind.u8.wrap (shr .u64 z6 (24 : Int))), (IntKind.u8.wrap (shr .u64 z6 (16 : Int))), (IntKind.u8.wrap (shr .u64 z6 (8 : Int))), (IntKind.u8.wrap (shr .u64 z6 (0 : Int))), (IntKind.u8.wrap (shr .u64 z5 (56 : Int))), (IntKind.u8.wrap (shr .u64 z5 (48 : Int))), (IntKind.u8.wrap (shr .u64 z5 (40 : Int))), (IntKind.u8.wrap (shr .u64 z5 (32 : Int))), (IntKind.u8.wrap (shr .u64 z5 (24 : Int))), (IntKind.u8.wrap (shr .u64 z5 (16 : Int))), (IntKind.u8.wrap (shr .u64 z5 (8 : Int))), (IntKind.u8.wrap (shr .u64 z5 (0 : Int))), (IntKind.u8.wrap (shr .u64 z4 (56 : Int))), (IntKind.u8.wrap (shr .u64 z4 (48 : Int))), (IntKind.u8.wrap (shr .u64 z4 (40 : Int))), (IntKind.u8.wrap (shr .u64 z4 (32 : Int))), (IntKind.u8.wrap (shr .u64 z4 (24 : Int))), (IntKind.u8.wrap (shr .u64 z4 (16 : Int))), (IntKind.u8.wrap (shr .u64 z4 (8 : Int))), (IntKind.u8.wrap (shr .u64 z4 (0 : Int))), (IntKind.u8.wrap (shr .u64 z3 (56 : Int))), (IntKind.u8.wrap (shr .u64 z3 (48 : Int))), (IntKind.u8.wrap (shr .u64 z3 (40 : Int))), (IntKind.u8.wrap (shr .u64 z3 (32 : Int))), (IntKind.u8.wrap (shr .u64 z3 (24 : Int))), (IntKind.u8.wrap (shr .u64 z3 (16 : Int))), (IntKind.u8.wrap (shr .u64 z3 (8 : Int))), (IntKind.u8.wrap (shr .u64 z3 (0 : Int))), (IntKind.u8.wrap (shr .u64 z2 (56 : Int))), (IntKind.u8.wrap (shr .u64 z2 (48 : Int))), (IntKind.u8.wrap (shr .u64 z2 (40 : Int))), (IntKind.u8.wrap (shr .u64 z2 (32 : Int))), (IntKind.u8.wrap (shr .u64 z2 (24 : Int))), (IntKind.u8.wrap (shr .u64 z2 (16 : Int))), (IntKind.u8.wrap (shr .u64 z2 (8 : Int))), (IntKind.u8.wrap (shr .u64 z2 (0 : Int))), (IntKind.u8.wrap (shr .u64 z1 (56 : Int))), (IntKind.u8.wrap (shr .u64 z1 (48 : Int))), (IntKind.u8.wrap (shr .u64 z1 (40 : Int))), (IntKind.u8.wrap (shr .u64 z1 (32 : Int))), (IntKind.u8.wrap (shr .u64 z1 (24 : Int))), (IntKind.u8.wrap (shr .u64 z1 (16 : Int))), (IntKind.u8.wrap (shr .u64 z1 (8 : Int))), (IntKind.u8.wrap (shr .u64 z1 (0 : Int)))] : List Int)

set_option maxHeartbeats 1000000 in
theorem finR_body0 (S : List Int) (n nm : Nat) (b : List Int) (N : Int) (cap0 : Nat) (h0 : (nm = n)) (h1 : ((0 : Int) ≤ N)) (h2 : (N < (2305843009213693952 : Int))) (h3 : (n < 70368744177664)) (hc0 : n ≤ cap0) (hl0_0 : List.length b = nm) (hv0 : List.length S = 8) (w : World) (β : Env) : Body Try.prog (tabOf tabTE) Try.f88 ⟨w, [], 1, β⟩ [.o (.g [.ints .u64 8 S]), .o (.a (.sl 0 0 n cap0)), .o (.a (.i .u64 N))] [some ⟨false, [.ints .u8 nm b]⟩] (fun ys _ => ys = [.g [.ints .u8 64 (finR S n b N)]]) :=
  Body.of_fin (Γ := gam304) (Λ := lamOf [(0, ⟨[.forget [0, 1, 2, 3, 6, 7, 9, 10, 13, 14, 15, 16, 17, 18, 19, 20, 21, 22, 23] 6], .normal, (finL_mk S n nm b N cap0 ((n + (padR N)) / 128) (iter (finL_step n b N) ((n + (padR N)) / 128) (S)))⟩)]) (Ψ := noPsi) (fuel := 65) (m := 56) (c := (Try.f88.body.getD .skip)) mix tabOkTE gam304_ok rfl (rs := [.cell 6 32]) rfl rfl [false, false, true, true, true, true, true, true, true, true, true, true, true, true, true, true, true, true, true, true, true, true, true, true, true, true, true, true, true, true, true, true, true, true, true, true, true, true, true, true, true, true, true, true, true, true, true, true, true, true, true, true, true, true, true, true, true, true, true, true, true, true, true, true, true, true, false] []
    (vc := [(false = false), (cN 63 64), (cI 63 64), (cZ 0), ((8 : Int) ≠ 0), (cN 7 8), (cI 7 8), ((8 : Int) ≠ 0), cT, (cN 62 64), (cI 62 64), (cZ 8), ((8 : Int) ≠ 0), (cN 7 8), (cI 7 8), ((8 : Int) ≠ 0), cT, (cN 61 64), (cI 61 64), (cZ 16), ((8 : Int) ≠ 0), (cN 7 8), (cI 7 8), ((8 : Int) ≠ 0), cT, (cN 60 64), (cI 60 64), (cZ 24), ((8 : Int) ≠ 0), (cN 7 8), (cI 7 8), ((8 : Int) ≠ 0), cT, (cN 59 64), (cI 59 64), (cZ 32), ((8 : Int) ≠ 0), (cN 7 8), (cI 7 8), ((8 : Int) ≠ 0), cT, (cN 58 64), (cI 58 64), (cZ 40), ((8 : Int) ≠ 0), (cN 7 8), (cI 7 8), ((8 : Int) ≠ 0), cT, (cN 57 64), (cI 57 64), (cZ 48), ((8 : Int) ≠ 0), (cN 7 8), (cI 7 8), ((8 : Int) ≠ 0), cT, (cN 56 64), (cI 56 64), (cZ 56), ((8 : Int) ≠ 0), (cN 7 8), (cI 7 8), ((8 : Int) ≠ 0), cT, (cN 55 64), (cI 55 64), (cZ 0), ((8 : Int) ≠ 0), (cN 6 8), (cI 6 8), ((8 : Int) ≠ 0), cT, (cN 54 64), (cI 54 64), (cZ 8), ((8 : Int) ≠ 0), (cN 6 8), (cI 6 8), ((8 : Int) ≠ 0), cT, (cN 53 64), (cI 53 64), (cZ 16), ((8 : Int) ≠ 0), (cN 6 8), (cI 6 8), ((8 : Int) ≠ 0), cT, (cN 52 64), (cI 52 64), (cZ 24), ((8 : Int) ≠ 0), (cN 6 8), (cI 6 8), ((8 : Int) ≠ 0), cT, (cN 51 64), (cI 51 64), (cZ 32), ((8 : Int) ≠ 0), (cN 6 8), (cI 6 8), ((8 : Int) ≠ 0), cT, (cN 50 64), (cI 50 64), (cZ 40), ((8 : Int) ≠ 0), (cN 6 8), (cI 6 8), ((8 : Int) ≠ 0), cT, (cN 49 64), (cI 49 64), (cZ 48), ((8 : Int) ≠ 0), (cN 6 8), (cI 6 8), ((8 : Int) ≠ 0), cT, (cN 48 64), (cI 48 64), (cZ 56), ((8 : Int) ≠ 0), (cN 6 8), (cI 6 8), ((8 : Int) ≠ 0), cT, (cN 47 64), (cI 47 64), (cZ 0), ((8 : Int) ≠ 0), (cN 5 8), (cI 5 8), ((8 : Int) ≠ 0), cT, (cN 46 64), (cI 46 64), (cZ 8), ((8 : Int) ≠ 0), (cN 5 8), (cI 5 8), ((8 : Int) ≠ 0), cT, (cN 45 64), (cI 45 64), (cZ 16), ((8 : Int) ≠ 0), (cN 5 8), (cI 5 8), ((8 : Int) ≠ 0), cT, (cN 44 64), (cI 44 64), (cZ 24), ((8 : Int) ≠ 0), (cN 5 8), (cI 5 8), ((8 : Int) ≠ 0), cT, (cN 43 64), (cI 43 64), (cZ 32), ((8 : Int) ≠ 0), (cN 5 8), (cI 5 8), ((8 : Int) ≠ 0), cT, (cN 42 64), (cI 42 64), (cZ 40), ((8 : Int) ≠ 0), (cN 5 8), (cI 5 8), ((8 : Int) ≠ 0), cT, (cN 41 64), (cI 41 64), (cZ 48), ((8 : Int) ≠ 0), (cN 5 8), (cI 5 8), ((8 : Int) ≠ 0), cT, (cN 40 64), (cI 40 64), (cZ 56), ((8 : Int) ≠ 0), (cN 5 8), (cI 5 8), ((8 : Int) ≠ 0), cT, (cN 39 64), (cI 39 64), (cZ 0), ((8 : Int) ≠ 0), (cN 4 8), (cI 4 8), ((8 : Int) ≠ 0), cT, (cN 38 64), (cI 38 64), (cZ 8), ((8 : Int) ≠ 0), (cN 4 8), (cI 4 8), ((8 : Int) ≠ 0), cT, (cN 37 64), (cI 37 64), (cZ 16), ((8 : Int) ≠ 0), (cN 4 8), (cI 4 8), ((8 : Int) ≠ 0), cT, (cN 36 64), (cI 36 64), (cZ 24), ((8 : Int) ≠ 0), (cN 4 8), (cI 4 8), ((8 : Int) ≠ 0), cT, (cN 35 64), (cI 35 64), (cZ 32), ((8 : Int) ≠ 0), (cN 4 8), (cI 4 8), ((8 : Int) ≠ 0), cT, (cN 34 64), (cI 34 64), (cZ 40), ((8 : Int) ≠ 0), (cN 4 8), (cI 4 8), ((8 : Int) ≠ 0), cT, (cN 33 64), (cI 33 64), (cZ 48), ((8 : Int) ≠ 0), (cN 4 8), (cI 4 8), ((8 : Int) ≠ 0), cT, (cN 32 64), (cI 32 64), (cZ 56), ((8 : Int) ≠ 0), (cN 4 8), (cI 4 8), ((8 : Int) ≠ 0), cT, (cN 31 64), (cI 31 64), (cZ 0), ((8 : Int) ≠ 0), (cN 3 8), (cI 3 8), ((8 : Int) ≠ 0), cT, (cN 30 64), (cI 30 64), (cZ 8), ((8 : Int) ≠ 0), (cN 3 8), (cI 3 8), ((8 : Int) ≠ 0), cT, (cN 29 64), (cI 29 64), (cZ 16), ((8 : Int) ≠ 0), (cN 3 8), (cI 3 8), ((8 : Int) ≠ 0), cT, (cN 28 64), (cI 28 64), (cZ 24), ((8 : Int) ≠ 0), (cN 3 8), (cI 3 8), ((8 : Int) ≠ 0), cT, (cN 27 64), (cI 27 64), (cZ 32), ((8 : Int) ≠ 0), (cN 3 8), (cI 3 8), ((8 : Int) ≠ 0), cT, (cN 26 64), (cI 26 64), (cZ 40), ((8 : Int) ≠ 0), (cN 3 8), (cI 3 8), ((8 : Int) ≠ 0), cT, (cN 25 64), (cI 25 64), (cZ 48), ((8 : Int) ≠ 0), (cN 3 8), (cI 3 8), ((8 : Int) ≠ 0), cT, (cN 24 64), (cI 24 64), (cZ 56), ((8 : Int) ≠ 0), (cN 3 8), (cI 3 8), ((8 : Int) ≠ 0), cT, (cN 23 64), (cI 23 64), (cZ 0), ((8 : Int) ≠ 0), (cN 2 8), (cI 2 8), ((8 : Int) ≠ 0), cT, (cN 22 64), (cI 22 64), (cZ 8), ((8 : Int) ≠ 0), (cN 2 8), (cI 2 8), ((8 : Int) ≠ 0), cT, (cN 21 64), (cI 21 64), (cZ 16), ((8 : Int) ≠ 0), (cN 2 8), (cI 2 8), ((8 : Int) ≠ 0), cT, (cN 20 64), (cI 20 64), (cZ 24), ((8 : Int) ≠ 0), (cN 2 8), (cI 2 8), ((8 : Int) ≠ 0), cT, (cN 19 64), (cI 19 64), (cZ 32), ((8 : Int) ≠ 0), (cN 2 8), (cI 2 8), ((8 : Int) ≠ 0), cT, (cN 18 64), (cI 18 64), (cZ 40), ((8 : Int) ≠ 0), (cN 2 8), (cI 2 8), ((8 : Int) ≠ 0), cT, (cN 17 64), (cI 17 64), (cZ 48), ((8 : Int) ≠ 0), (cN 2 8), (cI 2 8), ((8 : Int) ≠ 0), cT, (cN 16 64), (cI 16 64), (cZ 56), ((8 : Int) ≠ 0), (cN 2 8), (cI 2 8), ((8 : Int) ≠ 0), cT, (cN 15 64), (cI 15 64), (cZ 0), ((8 : Int) ≠ 0), (cN 1 8), (cI 1 8), ((8 : Int) ≠ 0), cT, (cN 14 64), (cI 14 64), (cZ 8), ((8 : Int) ≠ 0), (cN 1 8), (cI 1 8), ((8 : Int) ≠ 0), cT, (cN 13 64), (cI 13 64), (cZ 16), ((8 : Int) ≠ 0), (cN 1 8), (cI 1 8), ((8 : Int) ≠ 0), cT, (cN 12 64), (cI 12 64), (cZ 24), ((8 : Int) ≠ 0), (cN 1 8), (cI 1 8), ((8 : Int) ≠ 0), cT, (cN 11 64), (cI 11 64), (cZ 32), ((8 : Int) ≠ 0), (cN 1 8), (cI 1 8), ((8 : Int) ≠ 0), cT, (cN 10 64), (cI 10 64), (cZ 40), ((8 : Int) ≠ 0), (cN 1 8), (cI 1 8), ((8 : Int) ≠ 0), cT, (cN 9 64), (cI 9 64), (cZ 48), ((8 : Int) ≠ 0), (cN 1 8), (cI 1 8), ((8 : Int) ≠ 0), cT, (cN 8 64), (cI 8 64), (cZ 56), ((8 : Int) ≠ 0), (cN 1 8), (cI 1 8), ((8 : Int) ≠ 0), cT, (cN 7 64), (cI 7 64), (cZ 0), ((8 : Int) ≠ 0), (cN 0 8), (cI 0 8), ((8 : Int) ≠ 0), cT, (cN 6 64), (cI 6 64), (cZ 8), ((8 : Int) ≠ 0), (cN 0 8), (cI 0 8), ((8 : Int) ≠ 0), cT, (cN 5 64), (cI 5 64), (cZ 16), ((8 : Int) ≠ 0), (cN 0 8), (cI 0 8), ((8 : Int) ≠ 0), cT, (cN 4 64), (cI 4 64), (cZ 24), ((8 : Int) ≠ 0), (cN 0 8), (cI 0 8), ((8 : Int) ≠ 0), cT, (cN 3 64), (cI 3 64), (cZ 32), ((8 : Int) ≠ 0), (cN 0 8), (cI 0 8), ((8 : Int) ≠ 0), cT, (cN 2 64), (cI 2 64), (cZ 40), ((8 : Int) ≠ 0), (cN 0 8), (cI 0 8), ((8 : Int) ≠ 0), cT, (cN 1 64), (cI 1 64), (cZ 48), ((8 : Int) ≠ 0), (cN 0 8), (cI 0 8), ((8 : Int) ≠ 0), cT, (cN 0 64), (cI 0 64), (cZ 56), ((8 : Int) ≠ 0), (cN 0 8), (cI 0 8), ((8 : Int) ≠ 0), cT, (Run Try.prog ⟨w, [], 1, β⟩ (.block 0 (.loop (loopB Try.f88 0))) (finL_mk S n nm b N cap0 0 (S)) (To ⟨w, [], 1, β⟩ .normal (finL_mk S n nm b N cap0 ((n + (padR N)) / 128) (iter (finL_step n b N) ((n + (padR N)) / 128) (S))))), (((0 + n) ≤ n) ∧ (((padR N) ≤ (padR N)) ∧ ((0 + (padR N)) ≤ (padR N))) ∧ (((n + (padR N)) * 1) ≤ 140737488355328)), (((n ≤ n) ∧ ((0 + n) ≤ nm)) ∧ ((n * 1) ≤ 140737488355328)), ((True ∧ True) ∧ (((0 : Int) ≤ N) ∧ (N < (2305843009213693952 : Int))))]) (by kernel_rfl)
    (aC rfl (aC (dd rfl) (aC (dd rfl) (aC (dd rfl) (aC (dd rfl) (aC (dd rfl) (aC (dd rfl) (aC (dd rfl) (aC rfl (aC (dd rfl) (aC (dd rfl) (aC (dd rfl) (aC (dd rfl) (aC (dd rfl) (aC (dd rfl) (aC (dd rfl) (aC rfl (aC (dd rfl) (aC (dd rfl) (aC (dd rfl) (aC (dd rfl) (aC (dd rfl) (aC (dd rfl) (aC (dd rfl) (aC rfl (aC (dd rfl) (aC (dd rfl) (aC (dd rfl) (aC (dd rfl) (aC (dd rfl) (aC (dd rfl) (aC (dd rfl) (aC rfl (aC (dd rfl) (aC (dd rfl) (aC (dd rfl) (aC (dd rfl) (aC (dd rfl) (aC (dd rfl) (aC (dd rfl) (aC rfl (aC (dd rfl) (aC (dd rfl) (aC (dd rfl) (aC (dd rfl) (aC (dd rfl) (aC (dd rfl) (aC (dd rfl) (aC rfl (aC (dd rfl) (aC (dd rfl) (aC (dd rfl) (aC (dd rfl) (aC (dd rfl) (aC (dd rfl) (aC (dd rfl) (aC rfl (aC (dd rfl) (aC (dd rfl) (aC (dd rfl) (aC (dd rfl) (aC (dd rfl) (aC (dd rfl) (aC (dd rfl) (aC rfl (aC (dd rfl) (aC (dd rfl) (aC (dd rfl) (aC (dd rfl) (aC (dd rfl) (aC (dd rfl) (aC (dd rfl) (aC rfl (aC (dd rfl) (aC (dd rfl) (aC (dd rfl) (aC (dd rfl) (aC (dd rfl) (aC (dd rfl) (aC (dd rfl) (aC rfl (aC (dd rfl) (aC (dd rfl) (aC (dd rfl) (aC (dd rfl) (aC (dd rfl) (aC (dd rfl) (aC (dd rfl) (aC rfl (aC (dd rfl) (aC (dd rfl) (aC (dd rfl) (aC (dd rfl) (aC (dd rfl) (aC (dd rfl) (aC (dd rfl) (aC rfl (aC (dd rfl) (aC (dd rfl) (aC (dd rfl) (aC (dd rfl) (aC (dd rfl) (aC (dd rfl) (aC (dd rfl) (aC rfl (aC (dd rfl) (aC (dd rfl) (aC (dd rfl) (aC (dd rfl) (aC (dd rfl) (aC (dd rfl) (aC (dd rfl) (aC rfl (aC (dd rfl) (aC (dd rfl) (aC (dd rfl) (aC (dd rfl) (aC (dd rfl) (aC (dd rfl) (aC (dd rfl) (aC rfl (aC (dd rfl) (aC (dd rfl) (aC (dd rfl) (aC (dd rfl) (aC (dd rfl) (aC (dd rfl) (aC (dd rfl) (aC rfl (aC (dd rfl) (aC (dd rfl) (aC (dd rfl) (aC (dd rfl) (aC (dd rfl) (aC (dd rfl) (aC (dd rfl) (aC rfl (aC (dd rfl) (aC (dd rfl) (aC (dd rfl) (aC (dd rfl) (aC (dd rfl) (aC (dd rfl) (aC (dd rfl) (aC rfl (aC (dd rfl) (aC (dd rfl) (aC (dd rfl) (aC (dd rfl) (aC (dd rfl) (aC (dd rfl) (aC (dd rfl) (aC rfl (aC (dd rfl) (aC (dd rfl) (aC (dd rfl) (aC (dd rfl) (aC (dd rfl) (aC (dd rfl) (aC (dd rfl) (aC rfl (aC (dd rfl) (aC (dd rfl) (aC (dd rfl) (aC (dd rfl) (aC (dd rfl) (aC (dd rfl) (aC (dd rfl) (aC rfl (aC (dd rfl) (aC (dd rfl) (aC (dd rfl) (aC (dd rfl) (aC (dd rfl) (aC (dd rfl) (aC (dd rfl) (aC rfl (aC (dd rfl) (aC (dd rfl) (aC (dd rfl) (aC (dd rfl) (aC (dd rfl) (aC (dd rfl) (aC (dd rfl) (aC rfl (aC (dd rfl) (aC (dd rfl) (aC (dd rfl) (aC (dd rfl) (aC (dd rfl) (aC (dd rfl) (aC (dd rfl) (aC rfl (aC (dd rfl) (aC (dd rfl) (aC (dd rfl) (aC (dd rfl) (aC (dd rfl) (aC (dd rfl) (aC (dd rfl) (aC rfl (aC (dd rfl) (aC (dd rfl) (aC (dd rfl) (aC (dd rfl) (aC (dd rfl) (aC (dd rfl) (aC (dd rfl) (aC rfl (aC (dd rfl) (aC (dd rfl) (aC (dd rfl) (aC (dd rfl) (aC (dd rfl) (aC (dd rfl) (aC (dd rfl) (aC rfl (aC (dd rfl) (aC (dd rfl) (aC (dd rfl) (aC (dd rfl) (aC (dd rfl) (aC (dd rfl) (aC (dd rfl) (aC rfl (aC (dd rfl) (aC (dd rfl) (aC (dd rfl) (aC (dd rfl) (aC (dd rfl) (aC (dd rfl) (aC (dd rfl) (aC rfl (aC (dd rfl) (aC (dd rfl) (aC (dd rfl) (aC (dd rfl) (aC (dd rfl) (aC (dd rfl) (aC (dd rfl) (aC rfl (aC (dd rfl) (aC (dd rfl) (aC (dd rfl) (aC (dd rfl) (aC (dd rfl) (aC (dd rfl) (aC (dd rfl) (aC rfl (aC (dd rfl) (aC (dd rfl) (aC (dd rfl) (aC (dd rfl) (aC (dd rfl) (aC (dd rfl) (aC (dd rfl) (aC rfl (aC (dd rfl) (aC (dd rfl) (aC (dd rfl) (aC (dd rfl) (aC (dd rfl) (aC (dd rfl) (aC (dd rfl) (aC rfl (aC (dd rfl) (aC (dd rfl) (aC (dd rfl) (aC (dd rfl) (aC (dd rfl) (aC (dd rfl) (aC (dd rfl) (aC rfl (aC (dd rfl) (aC (dd rfl) (aC (dd rfl) (aC (dd rfl) (aC (dd rfl) (aC (dd rfl) (aC (dd rfl) (aC rfl (aC (dd rfl) (aC (dd rfl) (aC (dd rfl) (aC (dd rfl) (aC (dd rfl) (aC (dd rfl) (aC (dd rfl) (aC rfl (aC (dd rfl) (aC (dd rfl) (aC (dd rfl) (aC (dd rfl) (aC (dd rfl) (aC (dd rfl) (aC (dd rfl) (aC rfl (aC (dd rfl) (aC (dd rfl) (aC (dd rfl) (aC (dd rfl) (aC (dd rfl) (aC (dd rfl) (aC (dd rfl) (aC rfl (aC (dd rfl) (aC (dd rfl) (aC (dd rfl) (aC (dd rfl) (aC (dd rfl) (aC (dd rfl) (aC (dd rfl) (aC rfl (aC (dd rfl) (aC (dd rfl) (aC (dd rfl) (aC (dd rfl) (aC (dd rfl) (aC (dd rfl) (aC (dd rfl) (aC rfl (aC (dd rfl) (aC (dd rfl) (aC (dd rfl) (aC (dd rfl) (aC (dd rfl) (aC (dd rfl) (aC (dd rfl) (aC rfl (aC (dd rfl) (aC (dd rfl) (aC (dd rfl) (aC (dd rfl) (aC (dd rfl) (aC (dd rfl) (aC (dd rfl) (aC rfl (aC (dd rfl) (aC (dd rfl) (aC (dd rfl) (aC (dd rfl) (aC (dd rfl) (aC (dd rfl) (aC (dd rfl) (aC rfl (aC (dd rfl) (aC (dd rfl) (aC (dd rfl) (aC (dd rfl) (aC (dd rfl) (aC (dd rfl) (aC (dd rfl) (aC rfl (aC (dd rfl) (aC (dd rfl) (aC (dd rfl) (aC (dd rfl) (aC (dd rfl) (aC (dd rfl) (aC (dd rfl) (aC rfl (aC (dd rfl) (aC (dd rfl) (aC (dd rfl) (aC (dd rfl) (aC (dd rfl) (aC (dd rfl) (aC (dd rfl) (aC rfl (aC (dd rfl) (aC (dd rfl) (aC (dd rfl) (aC (dd rfl) (aC (dd rfl) (aC (dd rfl) (aC (dd rfl) (aC rfl (aC (dd rfl) (aC (dd rfl) (aC (dd rfl) (aC (dd rfl) (aC (dd rfl) (aC (dd rfl) (aC (dd rfl) (aC rfl (aC (dd rfl) (aC (dd rfl) (aC (dd rfl) (aC (dd rfl) (aC (dd rfl) (aC (dd rfl) (aC (dd rfl) (aC rfl (aC (dd rfl) (aC (dd rfl) (aC (dd rfl) (aC (dd rfl) (aC (dd rfl) (aC (dd rfl) (aC (dd rfl) (aC rfl (aC (dd rfl) (aC (dd rfl) (aC (dd rfl) (aC (dd rfl) (aC (dd rfl) (aC (dd rfl) (aC (dd rfl) (aC rfl (aC (dd rfl) (aC (dd rfl) (aC (dd rfl) (aC (dd rfl) (aC (dd rfl) (aC (dd rfl) (aC (dd rfl) (aC rfl (aC (dd rfl) (aC (dd rfl) (aC (dd rfl) (aC (dd rfl) (aC (dd rfl) (aC (dd rfl) (aC (dd rfl) (aC rfl (aC (dd rfl) (aC (dd rfl) (aC (dd rfl) (aC (dd rfl) (aC (dd rfl) (aC (dd rfl) (aC (dd rfl) (aC rfl (aC (dd rfl) (aC (dd rfl) (aC (dd rfl) (aC (dd rfl) (aC (dd rfl) (aC (dd rfl) (aC (dd rfl) (aC rfl (aC (dd rfl) (aC (dd rfl) (aC (dd rfl) (aC (dd rfl) (aC (dd rfl) (aC (dd rfl) (aC (dd rfl) (aC rfl (aC (dd rfl) (aC (dd rfl) (aC (dd rfl) (aC (dd rfl) (aC (dd rfl) (aC (dd rfl) (aC (dd rfl) (aC rfl (aC (dd rfl) (aC (dd rfl) (aC (dd rfl) (aC (dd rfl) (aC (dd rfl) (aC (dd rfl) (aC (dd rfl) (aC rfl (aC (dd rfl) (aC (dd rfl) (aC (dd rfl) (aC (dd rfl) (aC (dd rfl) (aC (dd rfl) (aC (dd rfl) (aC rfl (aC (dd rfl) (aC (dd rfl) (aC (dd rfl) (aC (dd rfl) (aC (dd rfl) (aC (dd rfl) (aC (dd rfl) (aC rfl (aC (dd rfl) (aC (dd rfl) (aC (dd rfl) (aC (dd rfl) (aC (dd rfl) (aC (dd rfl) (aC (dd rfl) (aC rfl (aC (dd rfl) (aC (dd rfl) (aC (dd rfl) (aC (dd rfl) (aC (dd rfl) (aC (dd rfl) (aC (dd rfl) (aC rfl (aC (dd rfl) (aC (dd rfl) (aC (dd rfl) (aC (dd rfl) (aC (dd rfl) (aC (dd rfl) (aC (dd rfl) (aC rfl (aC (dd rfl) (aC (dd rfl) (aC (dd rfl) (aC (dd rfl) (aC (dd rfl) (aC (dd rfl) (aC (dd rfl) (aC rfl (aC (finL_loop S n nm b N cap0 h0 h1 h2 h3 hc0 hl0_0 hv0 w β (S)) (aC ⟨(by have hq2 := padR_len N; have hp1 := pad_le N; first | omega | (simp (disch := omega) only [wrapI]; omega)), ⟨(by have hq2 := padR_len N; have hp1 := pad_le N; first | omega | (simp (disch := omega) only [wrapI]; omega)), (by have hq2 := padR_len N; have hp1 := pad_le N; first | omega | (simp (disch := omega) only [wrapI]; omega))⟩, (by have hq2 := padR_len N; have hp1 := pad_le N; first | omega | (simp (disch := omega) only [wrapI]; omega))⟩ (aC ⟨⟨(by have hq2 := padR_len N; have hp1 := pad_le N; first | omega | (simp (disch := omega) only [wrapI]; omega)), (by have hq2 := padR_len N; have hp1 := pad_le N; first | omega | (simp (disch := omega) only [wrapI]; omega))⟩, (by have hq2 := padR_len N; have hp1 := pad_le N; first | omega | (simp (disch := omega) only [wrapI]; omega))⟩ (aC ⟨⟨trivial, trivial⟩, ⟨h1, h2⟩⟩ (AllP_nil))))))))))))))))))))))))))))))))))))))))))))))))))))))))))))))))))))))))))))))))))))))))))))))))))))))))))))))))))))))))))))))))))))))))))))))))))))))))))))))))))))))))))))))))))))))))))))))))))))))))))))))))))))))))))))))))))))))))))))))))))))))))))))))))))))))))))))))))))))))))))))))))))))))))))))))))))))))))))))))))))))))))))))))))))))))))))))))))))))))))))))))))))))))))))))))))))))))))))))))))))))))))))))))))))))))))))))))))))))))))))))))))))))))))))))))))))))))))))))))))))))))))))))))))))))))))))))))))))))))

theorem finR_body (S : List Int) (n nm : Nat) (b : List Int) (N : Int) (cap0 : Nat) (h0 : (nm = n)) (h1 : ((0 : Int) ≤ N)) (h2 : (N < (2305843009213693952 : Int))) (h3 : (n < 70368744177664)) (w : World) (β : Env) : Body Try.prog (tabOf tabTE) Try.f88 ⟨w, [], 1, β⟩ [.o (.g [.ints .u64 8 S]), .o (.a (.sl 0 0 n cap0)), .o (.a (.i .u64 N))] [some ⟨false, [.ints .u8 nm b]⟩] (fun ys _ => ys = [.g [.ints .u8 64 (finR S n b N)]]) :=
  Body.lens (c := (Try.f88.body.getD .skip)) rfl fun h => finR_body0 S n nm b N cap0 h0 h1 h2 h3 (h.caps 1 _ _ _ _ rfl) (h.lens 0 _ .u8 nm b rfl (by simp)) (h.vals 0 _ _ _ rfl) w β

def gam305 : Gam := greadV 88 [.v, .s 1, .v] (fun vs args => match vs, args with | [⟨_, _, _, [.ints .u8 nm b]⟩], [.o (.g [.ints .u64 8 S]), a0, .o (.a (.i .u64 N))] => some ((nm = (lenOfA a0)) ∧ ((0 : Int) ≤ N) ∧ (N < (2305843009213693952 : Int)) ∧ ((lenOfA a0) < 70368744177664), [.g [.ints .u8 64 (finR S (lenOfA a0) b N)]]) | _, _ => none) gam304
theorem gam305_ok : GamOk Try.prog gam305 := greadV_ok tabOkTE Try.func88 gam304_ok Try.call88 (by
  intro vs args p xs h hv
  split at h
  · simp only [Option.some.injEq, Prod.mk.injEq] at h; obtain ⟨rfl, rfl⟩ := h; exact ⟨by rfl, fun caps w β => finR_body _ _ _ _ _ _ hv.1 hv.2.1 hv.2.2.1 hv.2.2.2 w β⟩
  · simp at h)

end Go.Proofs.Ytlmdhjojinkdbaa.X

/- Printed by a tool of this session. -/
namespace Go.Proofs.Ytlmdhjojinkdbaa.X
open Go Go.Proofs
set_option linter.unusedVariables false
set_option linter.unusedSimpArgs false
set_option maxRecDepth 100000
theorem teKD_3 : TEOk Try.prog 3 ⟨.int .i64, 1, 8, [.i .i64 (0 : Int)], false⟩ :=
  TEOk.of Try.underlying3 (i := Try.t3) (by kernel_rfl) rfl rfl rfl (by kernel_rfl) (fun h => by cases h) (by kernel_rfl)
theorem teKD_5 : TEOk Try.prog 5 ⟨.int .u8, 1, 1, [.i .u8 (0 : Int)], false⟩ :=
  TEOk.of Try.underlying5 (i := Try.t5) (by kernel_rfl) rfl rfl rfl (by kernel_rfl) (fun h => by cases h) (by kernel_rfl)
theorem teKD_22 : TEOk Try.prog 22 ⟨.slice 5, 1, 24, [.raw (.slice none 0 0)], false⟩ :=
  TEOk.of Try.underlying22 (i := Try.t22) (by kernel_rfl) rfl rfl rfl (by kernel_rfl) (fun h => by cases h) (by kernel_rfl)
theorem teKD_32 : TEOk Try.prog 32 ⟨.array 64 5, 64, 64, [.ints .u8 64 (List.replicate 64 0)], true⟩ :=
  TEOk.of Try.underlying32 (i := Try.t32) (by kernel_rfl) rfl rfl rfl (by kernel_rfl) (fun _ => Try.eqGuardType32) (by kernel_rfl)
theorem teKD_147 : TEOk Try.prog 147 ⟨.int .u64, 1, 8, [.i .u64 (0 : Int)], false⟩ :=
  TEOk.of Try.underlying147 (i := Try.t147) (by kernel_rfl) rfl rfl rfl (by kernel_rfl) (fun h => by cases h) (by kernel_rfl)
theorem teKD_148 : TEOk Try.prog 148 ⟨.array 8 147, 8, 64, [.ints .u64 (8 : Nat) ([0, 0, 0, 0, 0, 0, 0, 0] : List Int)], true⟩ :=
  TEOk.of Try.underlying148 (i := Try.t148) (by kernel_rfl) rfl rfl rfl (by kernel_rfl) (fun _ => Try.eqGuardType148) (by kernel_rfl)
noncomputable def tabKD : List (Nat × TE) := [(3, ⟨.int .i64, 1, 8, [.i .i64 (0 : Int)], false⟩), (5, ⟨.int .u8, 1, 1, [.i .u8 (0 : Int)], false⟩), (22, ⟨.slice 5, 1, 24, [nlA], false⟩), (32, ⟨.array 64 5, 64, 64, [.ints .u8 64 (List.replicate 64 0)], true⟩), (147, ⟨.int .u64, 1, 8, [.i .u64 (0 : Int)], false⟩), (148, ⟨.array 8 147, 8, 64, [.ints .u64 8 ([0, 0, 0, 0, 0, 0, 0, 0] : List Int)], true⟩)]
theorem tabOkKD : TabOk Try.prog (tabOf tabKD) := (tabOf_cons teKD_3 (tabOf_cons teKD_5 (tabOf_cons teKD_22 (tabOf_cons teKD_32 (tabOf_cons teKD_147 (tabOf_cons teKD_148 tabOf_nil))))))

def sumRL_mk (n nm : Nat) (b : List Int) (cap0 k : Nat) (s : (List Int)) : St := ⟨sparse 28 [(0, .o (.a (.sl 0 0 n cap0))), (2, .o (.a (.p 1 0))), (3, .o (.a (.p 2 0))), (4, .o (.a (.i .i64 (((128 * k) : Nat) : Int)))), (5, .o (.g [.ints .u64 8 ([7640891576956012808, 13503953896175478587, 4354685564936845355, 11912009170470909681, 5840696475078001361, 11170449401992604703, 2270897969802886507, 6620516959819538809] : List Int)]))], [some ⟨false, [.ints .u8 nm b]⟩, some ⟨true, [.ints .u8 64 (List.replicate 64 0)]⟩, some ⟨true, [.ints .u64 8 s]⟩]⟩

def sumRL_step (b : List Int) (k : Nat) (s : (List Int)) : (List Int) :=
  ((blkR s (sub b ((0 : Nat) + ((128 : Nat) * k)) ((Int.toNat (IntKind.i64.wrap (((((128 : Nat) * k) : Nat) : Int) + (128 : Int)))) - ((128 : Nat) * k)))))

set_option maxHeartbeats 1000000 in
theorem sumRL_round (n nm : Nat) (b : List Int) (cap0 : Nat) (h0 : (nm = n)) (h1 : (n < 70368744177664)) (hc0 : n ≤ cap0) (hl0_0 : List.length b = nm) (w : World) (β : Env) (k : Nat) (hk : k < (n / 128)) (s : (List Int)) : Run Try.prog ⟨w, [], 1, β⟩ (loopB Try.f41 0) (sumRL_mk n nm b cap0 k s) (To ⟨w, [], 1, β⟩ .normal (sumRL_mk n nm b cap0 (k + 1) (sumRL_step b k s))) := by
  have e0 : (IntKind.i64.wrap (((((128 : Nat) * k) : Nat) : Int) + (128 : Int))) = ((((128 : Nat) * (k + (1 : Nat))) : Nat) : Int) := (by first | rfl | omega | (simp (disch := omega) only [wrapI]; omega))
  have h := Run.of_outT (B := ⟨w, [], 1, β⟩) (Λ := noLam) (Ψ := noPsi) (fuel := 0) (ora := [true]) (c := (loopB Try.f41 0)) (st := (sumRL_mk n nm b cap0 k s)) (l := [.forget [0, 2, 3, 4, 5] 3]) (s' := ⟨sparse 28 [(0, .o (.a (.sl 0 0 n cap0))), (2, .o (.a (.p 1 0))), (3, .o (.a (.p 2 0))), (4, .o (.a (.i .i64 (IntKind.i64.wrap ((((128 * k) : Nat) : Int) + (128 : Int)))))), (5, .o (.g [.ints .u64 8 ([7640891576956012808, 13503953896175478587, 4354685564936845355, 11912009170470909681, 5840696475078001361, 11170449401992604703, 2270897969802886507, 6620516959819538809] : List Int)]))], [some ⟨false, [.ints .u8 nm b]⟩, some ⟨true, [.ints .u8 64 (List.replicate 64 0)]⟩, some ⟨true, [.ints .u64 8 (sumRL_step b k s)]⟩]⟩) (ex := .normal) mix tabOkKD gam305_ok
    (vc := [((True ∧ ((((0 + (128 * k)) + ((Int.toNat (IntKind.i64.wrap ((((128 * k) : Nat) : Int) + (128 : Int)))) - (128 * k))) ≤ nm) ∧ True)) ∧ ((((Int.toNat (IntKind.i64.wrap ((((128 * k) : Nat) : Int) + (128 : Int)))) - (128 * k)) = ((Int.toNat (IntKind.i64.wrap ((((128 * k) : Nat) : Int) + (128 : Int)))) - (128 * k))) ∧ (((Int.toNat (IntKind.i64.wrap ((((128 * k) : Nat) : Int) + (128 : Int)))) - (128 * k)) = 128))), (((0 : Int) ≤ (((128 * k) : Nat) : Int)) ∧ ((((128 * k) : Nat) : Int) ≤ (IntKind.i64.wrap ((((128 * k) : Nat) : Int) + (128 : Int)))) ∧ ((IntKind.i64.wrap ((((128 * k) : Nat) : Int) + (128 : Int))) ≤ ((cap0 : Nat) : Int))), ((decide ((IntKind.i64.wrap ((((128 * k) : Nat) : Int) + (128 : Int))) ≤ ((n : Nat) : Int))) = true)]) (by kernel_rfl)
    (aC ⟨⟨trivial, ⟨(by first|omega|(simp (disch:=omega) only [wrapI];omega)), trivial⟩⟩, ⟨rfl, (by first|omega|(simp (disch:=omega) only [wrapI];omega))⟩⟩ (aC ⟨(by first|omega|(simp (disch:=omega) only [wrapI];omega)), (by first|omega|(simp (disch:=omega) only [wrapI];omega)), (by first|omega|(simp (disch:=omega) only [wrapI];omega))⟩ (aC (decide_eq_true (by first|omega|(simp (disch:=omega) only [wrapI];omega))) (AllP_nil))))
  rw [e0] at h
  exact h

set_option maxHeartbeats 1000000 in
theorem sumRL_last (n nm : Nat) (b : List Int) (cap0 : Nat) (h0 : (nm = n)) (h1 : (n < 70368744177664)) (hc0 : n ≤ cap0) (hl0_0 : List.length b = nm) (w : World) (β : Env) (s : (List Int)) : Run Try.prog ⟨w, [], 1, β⟩ (loopB Try.f41 0) (sumRL_mk n nm b cap0 (n / 128) s) (To ⟨w, [], 1, β⟩ (.exit 0) (sumRL_mk n nm b cap0 (n / 128) s)) :=
  Run.of_outT (B := ⟨w, [], 1, β⟩) (Λ := noLam) (Ψ := noPsi) (fuel := 0) (ora := [false]) (l := [.forget [0, 2, 3, 4, 5] 3]) mix tabOkKD gam305_ok
    (vc := [((decide ((IntKind.i64.wrap (((((128 : Nat) * (n / (128 : Nat))) : Nat) : Int) + (128 : Int))) ≤ ((n : Nat) : Int))) = false)]) (by kernel_rfl)
    (aC (decide_eq_false (by first | omega | (simp (disch := omega) only [wrapI]; omega))) (AllP_nil))

theorem sumRL_loop (n nm : Nat) (b : List Int) (cap0 : Nat) (h0 : (nm = n)) (h1 : (n < 70368744177664)) (hc0 : n ≤ cap0) (hl0_0 : List.length b = nm) (w : World) (β : Env) (s : (List Int)) : Run Try.prog ⟨w, [], 1, β⟩ (.block 0 (.loop (loopB Try.f41 0))) (sumRL_mk n nm b cap0 0 s) (To ⟨w, [], 1, β⟩ .normal (sumRL_mk n nm b cap0 (n / 128) (iter (sumRL_step b) (n / 128) s))) :=
  Run.count (fun k => sumRL_mk n nm b cap0 k (iter (sumRL_step b) k s)) (n / (128 : Nat)) (fun k hk => sumRL_round n nm b cap0 h0 h1 hc0 hl0_0 w β k hk _) (ex := (.exit 0)) (by simp) (sumRL_last n nm b cap0 h0 h1 hc0 hl0_0 w β _)

def sumRL_out0 (b : List Int) (n : Nat) (i0 : List Int) : List Int := (iter (sumRL_step b) (n / (128 : Nat)) (i0))

def sumR (n : Nat) (b : List Int) : List Int :=
  let z0 : Nat := (n - ((128 : Nat) * (n / (128 : Nat))))
  (finR (sumRL_out0 b n ([7640891576956012808, 13503953896175478587, 4354685564936845355, 11912009170470909681, 5840696475078001361, 11170449401992604703, 2270897969802886507, 6620516959819538809] : List Int)) z0 (sub b (0 + (128 * (n / 128))) z0) (IntKind.u64.wrap ((n : Nat) : Int)))

set_option maxHeartbeats 1000000 in
theorem sumR_body0 (n nm : Nat) (b : List Int) (cap0 : Nat) (h0 : (nm = n)) (h1 : (n < 70368744177664)) (hc0 : n ≤ cap0) (hl0_0 : List.length b = nm) (w : World) (β : Env) : Body Try.prog (tabOf tabKD) Try.f41 ⟨w, [], 1, β⟩ [.o (.a (.sl 0 0 n cap0))] [some ⟨false, [.ints .u8 nm b]⟩] (fun ys _ => ys = [.g [.ints .u8 64 (sumR n b)]]) :=
  Body.of_fin (Γ := gam305) (Λ := lamOf [(0, ⟨[.forget [0, 2, 3, 4, 5] 3], .normal, (sumRL_mk n nm b cap0 (n / 128) (iter (sumRL_step b) (n / 128) (([7640891576956012808, 13503953896175478587, 4354685564936845355, 11912009170470909681, 5840696475078001361, 11170449401992604703, 2270897969802886507, 6620516959819538809] : List Int))))⟩)]) (Ψ := noPsi) (fuel := 0) (m := 28) (c := (Try.f41.body.getD .skip)) mix tabOkKD gam305_ok rfl (rs := [.cell 2 32]) rfl rfl [] []
    (vc := [((True ∧ ((((0 + (128 * (n / 128))) + (n - (128 * (n / 128)))) ≤ nm) ∧ (True ∧ True))) ∧ (((n - (128 * (n / 128))) = (n - (128 * (n / 128)))) ∧ ((0 : Int) ≤ (IntKind.u64.wrap ((n : Nat) : Int))) ∧ ((IntKind.u64.wrap ((n : Nat) : Int)) < (2305843009213693952 : Int)) ∧ ((n - (128 * (n / 128))) < 70368744177664))), (((0 : Int) ≤ (((128 * (n / 128)) : Nat) : Int)) ∧ ((((128 * (n / 128)) : Nat) : Int) ≤ ((n : Nat) : Int))), (Run Try.prog ⟨w, [], 1, β⟩ (.block 0 (.loop (loopB Try.f41 0))) (sumRL_mk n nm b cap0 0 (([7640891576956012808, 13503953896175478587, 4354685564936845355, 11912009170470909681, 5840696475078001361, 11170449401992604703, 2270897969802886507, 6620516959819538809] : List Int))) (To ⟨w, [], 1, β⟩ .normal (sumRL_mk n nm b cap0 (n / 128) (iter (sumRL_step b) (n / 128) (([7640891576956012808, 13503953896175478587, 4354685564936845355, 11912009170470909681, 5840696475078001361, 11170449401992604703, 2270897969802886507, 6620516959819538809] : List Int))))))]) (by kernel_rfl)
    (aC ⟨⟨trivial, ⟨(by first | omega | (simp (disch := omega) only [wrapU]; omega) | (simp (disch := omega) only [wrapI]; omega)), ⟨trivial, trivial⟩⟩⟩, ⟨rfl, (wrap_nn (k := .u64) rfl), (by first | omega | (simp (disch := omega) only [wrapU]; omega) | (simp (disch := omega) only [wrapI]; omega)), (by first | omega | (simp (disch := omega) only [wrapU]; omega) | (simp (disch := omega) only [wrapI]; omega))⟩⟩ (aC ⟨(by first | omega | (simp (disch := omega) only [wrapU]; omega) | (simp (disch := omega) only [wrapI]; omega)), (by first | omega | (simp (disch := omega) only [wrapU]; omega) | (simp (disch := omega) only [wrapI]; omega))⟩ (aC (sumRL_loop n nm b cap0 h0 h1 hc0 hl0_0 w β (([7640891576956012808, 13503953896175478587, 4354685564936845355, 11912009170470909681, 5840696475078001361, 11170449401992604703, 2270897969802886507, 6620516959819538809] : List Int))) (AllP_nil))))

theorem sumR_body (n nm : Nat) (b : List Int) (cap0 : Nat) (h0 : (nm = n)) (h1 : (n < 70368744177664)) (w : World) (β : Env) : Body Try.prog (tabOf tabKD) Try.f41 ⟨w, [], 1, β⟩ [.o (.a (.sl 0 0 n cap0))] [some ⟨false, [.ints .u8 nm b]⟩] (fun ys _ => ys = [.g [.ints .u8 64 (sumR n b)]]) :=
  Body.lens (c := (Try.f41.body.getD .skip)) rfl fun h => sumR_body0 n nm b cap0 h0 h1 (h.caps 0 _ _ _ _ rfl) (h.lens 0 _ .u8 nm b rfl (by simp)) w β

end Go.Proofs.Ytlmdhjojinkdbaa.X

/- Values that lie outside of the known blocks, taken in where they are loaded; a function whose arguments lie there. -/
namespace Go.Proofs.Ytlmdhjojinkdbaa.X
open Go Go.Proofs
set_option linter.unusedVariables false

/-- what a value says -/
def intV : Value → Int
  | .int _ n => n
  | _ => 0
def lenV : Value → Nat
  | .slice _ len _ => len
  | _ => 0
def capV : Value → Nat
  | .slice _ _ cap => cap
  | _ => 0
/-- the integers that a slice shows in a world -/
def contV (w : World) : Value → List Int
  | .slice (some a) len _ => (match w.heap[a.block]? with
    | some (.cells arr _ _) => (List.range len).map fun i => intV (arr.getD (a.off + i) (.int .i64 0))
    | _ => [])
  | _ => []

/-- how values of a type are taken in -/
def gimp (t : TypeId) (mk : Value → Nat → Rx) (rest : Gam) : Gam := fun g K n args =>
  if impId + t = g then (match args with | [.o (.a (.raw v))] => some (mk v n) | _ => none) else rest g K n args

theorem gimp_ok {P : Program} {t : TypeId} {mk : Value → Nat → Rx} {rest : Gam} {w0 : World} {rw : List Nat} (hr : GamAt P rest w0 rw)
    (h : ∀ v n, okP (mk v n).vc → ∀ β K w, RelW w0 rw β K w → (∀ i, i < (mk v n).fr → K.at (n + i) = none) → K.nom n (n + (mk v n).fr) = true → ∃ β', Agree n (n + (mk v n).fr) β β' ∧ (mk v n).val.con β' v ∧ RelW w0 rw β' (app K (mk v n).ch) w) (ht : t < impId := by decide) :
    GamAt P (gimp t mk rest) w0 rw := by
  have ne2 : ∀ f : Nat, ¬ (impId + t = extId + f) := fun f e => by
    have h1 : impId + t < impId + impId := Nat.add_lt_add_left ht _
    have h2 : impId + impId = extId := rfl
    have h3 : extId ≤ extId + f := Nat.le_add_right _ _
    rw [e, h2] at h1
    exact Nat.lt_irrefl _ (Nat.lt_of_lt_of_le h1 h3)
  have ne : ∀ f : Nat, f < impId → ¬ (impId + t = f) := fun f hf e => by
    have : impId ≤ f := e ▸ Nat.le_add_right _ _
    omega
  refine ⟨?_, ?_, ?_, ?_, ?_⟩
  · intro f K n args s hf hs
    unfold gimp at hs; rw [if_neg (ne f hf)] at hs
    exact hr.enter _ _ _ _ _ hf hs
  · intro f K n args s hf hs
    unfold gimp at hs; rw [if_neg (ne f hf)] at hs
    exact hr.calls _ _ _ _ _ hf hs
  · intro f K K' n args s hf hs hk
    unfold gimp at hs ⊢; rw [if_neg (ne f hf)] at hs ⊢
    exact hr.mono _ _ _ _ _ _ hf hs hk
  · intro f n args s hs
    unfold gimp at hs; rw [if_neg (ne2 f)] at hs
    exact hr.ext _ _ _ _ hs
  · intro f n v s hf hf2 hs hvc β K w hR hn hK
    unfold gimp at hs
    split at hs
    · simp only [Option.some.injEq] at hs; subst hs
      exact h v n hvc β K w hR hn hK
    · exact hr.imp _ _ _ _ hf hf2 hs hvc β K w hR hn hK

/-- an integer -/
def mkI (k : IntKind) (v : Value) (n : Nat) : Rx := ⟨some (v = .int k (intV v)), .o (.a (.i k (intV v))), [], 0⟩
/-- a slice of integers -/
def mkS (B : Bs) (k : IntKind) (v : Value) (n : Nat) : Rx :=
  ⟨some (ImpOk B v k (lenV v) (capV v) (contV B.w0 v)), .o (.a (.sl n 0 (lenV v) (capV v))), [(n, some ⟨false, [.ints k (lenV v) (contV B.w0 v)]⟩)], 1⟩

theorem mkI_ok {k : IntKind} {w0 : World} {rw : List Nat} (v : Value) (n : Nat) (hv : okP (mkI k v n).vc) (β : Env) (K : Know) (w : World) (hR : RelW w0 rw β K w) (_ : ∀ i, i < (mkI k v n).fr → K.at (n + i) = none) (_ : K.nom n (n + (mkI k v n).fr) = true) :
    ∃ β', Agree n (n + (mkI k v n).fr) β β' ∧ (mkI k v n).val.con β' v ∧ RelW w0 rw β' (app K (mkI k v n).ch) w := by
  have hv : v = .int k (intV v) := hv
  refine ⟨β, agree_refl _ _ _, ?_, hR⟩
  show [v] = [Value.int k (intV v)]
  rw [← hv]

theorem mkS_ok {B : Bs} {k : IntKind} (v : Value) (n : Nat) (hv : okP (mkS B k v n).vc) (β : Env) (K : Know) (w : World) (hR : RelW B.w0 B.rw β K w) (hn : ∀ i, i < (mkS B k v n).fr → K.at (n + i) = none) (hK : K.nom n (n + (mkS B k v n).fr) = true) :
    ∃ β', Agree n (n + (mkS B k v n).fr) β β' ∧ (mkS B k v n).val.con β' v ∧ RelW B.w0 B.rw β' (app K (mkS B k v n).ch) w := by
  obtain ⟨base, hvb, hlc, hL, hb⟩ := hv
  have hn0 : K.at n = none := hn 0 (by show 0 < 1; omega)
  have hK : K.nom n (n + 1) = true := hK
  have gen : ∀ rr : Option Ref, (∀ r, rr = some r → r.blk < B.w0.heap.size ∧ r.blk ∉ B.rw) →
      ((∃ r arr ty fr, rr = some r ∧ w.heap[r.blk]? = some (.cells arr ty fr) ∧ arr.size = r.size ∧ r.off + lenV v ≤ r.size ∧ ∀ i x, (contV B.w0 v)[i]? = some x → arr[r.off + i]? = some (.int k x)) ∨ lenV v = 0) →
      RelW B.w0 B.rw (β.upd n rr) (app K [(n, some ⟨false, [.ints k (lenV v) (contV B.w0 v)]⟩)]) w := by
    intro rr hrr hold
    have hag := Env.agree_upd β n rr
    have hself : (β.upd n rr) n = rr := by unfold Env.upd; rw [if_pos rfl]
    have hoth : ∀ t, t ≠ n → (β.upd n rr) t = β t := fun t ht => by unfold Env.upd; rw [if_neg ht]
    have hat : ∀ j, Know.at (app K [(n, some ⟨false, [.ints k (lenV v) (contV B.w0 v)]⟩)]) j = if j = n then some ⟨false, [.ints k (lenV v) (contV B.w0 v)]⟩ else K.at j := by
      intro j
      rw [app_at]
      unfold lkCh lkCh
      by_cases h : j = n
      · subst h; simp
      · simp [h]
    refine ⟨?_, ?_, ?_, ?_, hR.old, hR.size, hR.os, hR.tape, hR.output⟩
    · intro t b hb
      rw [hat] at hb
      split at hb
      · rename_i ht
        subst ht
        simp only [Option.some.injEq] at hb; subst hb
        refine ⟨(contV B.w0 v).map (Value.int k), ⟨_, [], by simp, ⟨hL, rfl⟩, rfl⟩, ?_⟩
        rcases hold with ⟨r, arr, ty, fr, hr, hh, hsz, hl, ha⟩ | h0
        · refine .inr ⟨r, arr, ty, fr, by rw [hself]; exact hr, hh, hsz, by simp; omega, ?_, fun h => by cases h⟩
          intro i x hx
          rw [List.getElem?_map, Option.map_eq_some_iff] at hx
          obtain ⟨y, hy, rfl⟩ := hx
          exact ha i y hy
        · have hnil : contV B.w0 v = [] := List.length_eq_zero_iff.1 (by omega)
          exact .inl ⟨by rw [hnil]; rfl, .inl rfl⟩
      · rename_i ht
        obtain ⟨cs, h1, h2⟩ := hR.holds t b hb
        refine ⟨cs, cons_agree hag (Know.nom_at hK hb) h1, ?_⟩
        rw [hoth t ht]; exact h2
    · intro i j b c r s hi hj ho hne hri hsj
      rw [hat] at hi hj
      split at hi
      · simp only [Option.some.injEq] at hi; subst hi; cases ho
      · rename_i hin
        rw [hoth i hin] at hri
        split at hj
        · rename_i hjn
          subst hjn
          rw [hself] at hsj
          obtain ⟨g1, g2⟩ := hrr s hsj
          rcases hR.mine i b r hi ho hri with h | h
          · omega
          · intro e; rw [e] at h; exact g2 h
        · rename_i hjn
          rw [hoth j hjn] at hsj
          exact hR.apart i j b c r s hi hj ho hne hri hsj
    · intro i b r hi ho hri
      rw [hat] at hi
      split at hi
      · simp only [Option.some.injEq] at hi; subst hi; cases ho
      · rename_i hin
        rw [hoth i hin] at hri
        exact hR.mine i b r hi ho hri
    · intro i b r hi hri
      rw [hat] at hi
      split at hi
      · rename_i hin
        subst hin
        rw [hself] at hri
        exact Nat.lt_of_lt_of_le (hrr r hri).1 hR.size
      · rename_i hin
        rw [hoth i hin] at hri
        exact hR.live i b r hi hri
  by_cases hc : 0 < capV v
  · obtain ⟨b, off, rfl, h1, h2, h6⟩ := hb hc
    by_cases hl0 : 0 < lenV v
    · obtain ⟨arr, ty, fr, h3, h4, h5⟩ := h6 hl0
      refine ⟨_, Env.agree_upd β n (some ⟨b, off, arr.size⟩), ⟨some ⟨b, off, none⟩, by rw [← hvb], hlc, fun _ => ⟨⟨b, off, arr.size⟩, ?_, rfl⟩⟩, gen (some ⟨b, off, arr.size⟩) (fun r hr => by cases hr; exact ⟨h1, h2⟩) (.inl ⟨_, arr, ty, fr, rfl, ?_, rfl, h4, h5⟩)⟩
      · show (β.upd n _) n = _
        unfold Env.upd; rw [if_pos rfl]
      · show w.heap[b]? = _
        rw [hR.old b h1 h2]; exact h3
    · refine ⟨_, Env.agree_upd β n (some ⟨b, off, 0⟩), ⟨some ⟨b, off, none⟩, by rw [← hvb], hlc, fun _ => ⟨⟨b, off, 0⟩, ?_, rfl⟩⟩, gen (some ⟨b, off, 0⟩) (fun r hr => by cases hr; exact ⟨h1, h2⟩) (.inr (by omega))⟩
      show (β.upd n _) n = _
      unfold Env.upd; rw [if_pos rfl]
  · exact ⟨_, Env.agree_upd β n none, ⟨base, by rw [← hvb], hlc, fun h => absurd h hc⟩, gen none (fun r hr => by cases hr) (.inr (by omega))⟩
end Go.Proofs.Ytlmdhjojinkdbaa.X

/- Slices of bytes in a list, one behind the other: what they show together; contracts of functions that read such a list. -/
namespace Go.Proofs.Ytlmdhjojinkdbaa.X
open Go Go.Proofs
set_option linter.unusedVariables false

/-- parts that lie in a world, one behind the other -/
def catV (w : World) (L : List Value) : Nat → List Int
  | 0 => []
  | k + 1 => catV w L k ++ contV w (L.getD k undef)

structure PartsR (w : World) (rw : List Nat) (L : List Value) (n : Nat) : Prop where
  imp : ∀ i, i < n → ∀ (k : Nat) (β : Env), ImpOk ⟨w, rw, k, β⟩ (L.getD i undef) .u8 (lenV (L.getD i undef)) (capV (L.getD i undef)) (contV w (L.getD i undef))
  small : (catV w L n).length < 70368744177664
abbrev PartsOk (w : World) (L : List Value) (n : Nat) : Prop := PartsR w [] L n

theorem PartsR.len {w : World} {rw : List Nat} {L : List Value} {n : Nat} (h : PartsR w rw L n) {i : Nat} (hi : i < n) : (contV w (L.getD i undef)).length = lenV (L.getD i undef) := by
  obtain ⟨_, _, _, h3, _⟩ := h.imp i hi 0 noEnv
  exact h3

theorem catV_mono (w : World) (L : List Value) {i : Nat} : ∀ {n : Nat}, i ≤ n → (catV w L i).length ≤ (catV w L n).length
  | 0, h => by have : i = 0 := by omega
               subst this; exact Nat.le_refl _
  | n + 1, h => by
    rcases Nat.lt_or_ge n i with h1 | h1
    · have : i = n + 1 := by omega
      subst this; exact Nat.le_refl _
    · refine Nat.le_trans (catV_mono w L h1) ?_
      show _ ≤ (catV w L n ++ _).length
      rw [List.length_append]; omega

theorem PartsR.lt {w : World} {rw : List Nat} {L : List Value} {n : Nat} (h : PartsR w rw L n) {i : Nat} (hi : i ≤ n) : (catV w L i).length < 70368744177664 := Nat.lt_of_le_of_lt (catV_mono w L hi) h.small
theorem PartsR.llt {w : World} {rw : List Nat} {L : List Value} {n : Nat} (h : PartsR w rw L n) {i : Nat} (hi : i < n) : lenV (L.getD i undef) < 70368744177664 := by
  have h1 := h.lt (i := i + 1) hi
  have h2 : (catV w L i ++ contV w (L.getD i undef)).length < 70368744177664 := h1
  rw [List.length_append, h.len hi] at h2; omega

theorem getD_left {L M : List Value} {i : Nat} (h : i < L.length) : (L ++ M).getD i undef = L.getD i undef := by
  rw [List.getD_eq_getElem?_getD, List.getD_eq_getElem?_getD, List.getElem?_append_left h]
theorem getD_right {L M : List Value} {i : Nat} : (L ++ M).getD (L.length + i) undef = M.getD i undef := by
  rw [List.getD_eq_getElem?_getD, List.getD_eq_getElem?_getD, List.getElem?_append_right (by omega)]
  congr 2; omega
theorem catV_left (w : World) (L M : List Value) : ∀ k, k ≤ L.length → catV w (L ++ M) k = catV w L k
  | 0, _ => rfl
  | k + 1, h => by
    show catV w (L ++ M) k ++ _ = catV w L k ++ _
    rw [catV_left w L M k (by omega), getD_left (by omega)]
theorem catV_two (w : World) (L M : List Value) : ∀ k, catV w (L ++ M) (L.length + k) = catV w L L.length ++ catV w M k
  | 0 => by rw [Nat.add_zero, catV_left _ _ _ _ (Nat.le_refl _)]; exact (List.append_nil _).symm
  | k + 1 => by
    show catV w (L ++ M) (L.length + k) ++ contV w ((L ++ M).getD (L.length + k) undef) = _ ++ (catV w M k ++ _)
    rw [catV_two w L M k, getD_right, List.append_assoc]

theorem contV_move {w0 w : World} {rw : List Nat} (h : ∀ b, b < w0.heap.size → b ∉ rw → w.heap[b]? = w0.heap[b]?) {v : Value} {k : Nat} {β : Env} (hi : ImpOk ⟨w0, rw, k, β⟩ v .u8 (lenV v) (capV v) (contV w0 v)) : contV w v = contV w0 v := by
  obtain ⟨base, hv, hlc, hL, hb⟩ := hi
  by_cases hc : 0 < capV v
  · obtain ⟨b, off, rfl, h1, h2, _⟩ := hb hc
    rw [hv]
    unfold contV
    simp only
    rw [h b h1 h2]
  · have h0 : lenV v = 0 := by omega
    rw [hv]
    unfold contV
    rw [h0]
    cases base with
    | none => rfl
    | some a =>
      simp only [List.range_zero, List.map_nil]
      split <;> split <;> rfl

theorem PartsR.move {w0 w : World} {rw : List Nat} (h : ∀ b, b < w0.heap.size → b ∉ rw → w.heap[b]? = w0.heap[b]?) (hs : w0.heap.size ≤ w.heap.size) {L : List Value} {n : Nat} (hp : PartsR w0 rw L n) : PartsOk w L n ∧ catV w L n = catV w0 L n := by
  have hc : ∀ k, k ≤ n → catV w L k = catV w0 L k := by
    intro k
    induction k with
    | zero => intro _; rfl
    | succ k ih =>
      intro hk
      show catV w L k ++ _ = catV w0 L k ++ _
      rw [ih (by omega), contV_move h (hp.imp k (by omega) 0 noEnv)]
  refine ⟨⟨fun i hi k β => ?_, by rw [hc n (Nat.le_refl _)]; exact hp.small⟩, hc n (Nat.le_refl _)⟩
  rw [contV_move h (hp.imp i hi 0 noEnv)]
  obtain ⟨base, hv, hlc, hL, hb⟩ := hp.imp i hi 0 noEnv
  refine ⟨base, hv, hlc, hL, fun h0 => ?_⟩
  obtain ⟨b, off, g1, g2, g3, g4⟩ := hb h0
  have g2 : b < w0.heap.size := g2
  refine ⟨b, off, g1, Nat.lt_of_lt_of_le g2 hs, by simp, fun hl => ?_⟩
  obtain ⟨arr, ty, fr, k1, k2⟩ := g4 hl
  exact ⟨arr, ty, fr, (h b g2 g3).trans k1, k2⟩

/-- one cell of a list of parts: how many, on what condition, which bytes -/
def partC (K : Know) (w0 : World) (rw : List Nat) (a : Atom) : Option (Nat × Prop × List Int) :=
  match a with
  | .sl j c n _ => (match K.at j with
    | some b => (match segR b.cells c n with
      | some (p, [.ints .u8 _ l]) => some (1, p, l)
      | _ => none)
    | none => none)
  | .rs j c n _ => (match K.at j with
    | some b => (match segR b.cells c n with
      | some (p, [.ints .u8 _ l]) => some (1, p, l)
      | _ => none)
    | none => none)
  | .raw (.slice none 0 0) => some (1, True, [])
  | .vals n L => some (n, PartsR w0 rw L n, catV w0 L n)
  | _ => none

def partsC (K : Know) (w0 : World) (rw : List Nat) : List Atom → Option (Nat × Prop × List Int)
  | [] => some (0, True, [])
  | a :: r => (match partC K w0 rw a with
    | some (n, p, D) => (match partsC K w0 rw r with
      | some (m, q, E) => some (n + m, p ∧ q, D ++ E)
      | none => none)
    | none => none)

theorem partC_mono {K K' : Know} {w0 : World} {rw : List Nat} (hk : Knows K K') {a : Atom} {r : Nat × Prop × List Int} (h : partC K w0 rw a = some r) : partC K' w0 rw a = some r := by
  unfold partC at *
  split at h
  · split at h
    · rename_i b hb; rw [hk _ _ hb]; exact h
    · simp at h
  · split at h
    · rename_i b hb; rw [hk _ _ hb]; exact h
    · simp at h
  · exact h
  · exact h
  · simp at h
theorem partsC_mono {K K' : Know} {w0 : World} {rw : List Nat} (hk : Knows K K') : ∀ {l : List Atom} {r : Nat × Prop × List Int}, partsC K w0 rw l = some r → partsC K' w0 rw l = some r
  | [], _, h => h
  | a :: l, r, h => by
    simp only [partsC] at h ⊢
    split at h
    · rename_i n p D h1
      rw [partC_mono hk h1]
      simp only
      split at h
      · rename_i m q E h2
        rw [partsC_mono hk h2]
        exact h
      · simp at h
    · simp at h

section sound
variable {w0 w : World} {rw : List Nat} {β : Env} {K : Know}

theorem sl_part (hR : RelW w0 rw β K w) {j c n m cap : Nat} {b : Blk} {p : Prop} {l : List Int} (hb : K.at j = some b) (hs : segR b.cells c n = some (p, [.ints .u8 m l])) (hp : p) {base : Option Addr} (hnc : n ≤ cap)
    (hbase : 0 < cap → ∃ r, β j = some r ∧ base = some ⟨r.blk, r.off + c, none⟩) : (∀ k β', ImpOk ⟨w, [], k, β'⟩ (.slice base n cap) .u8 n cap l) ∧ contV w (.slice base n cap) = l := by
  obtain ⟨cs, hc, hd⟩ := hR.holds j b hb
  obtain ⟨h1, h2⟩ := segR_con hs hp hc
  rw [cons_single] at h1
  obtain ⟨hl, hsub⟩ := h1
  have hln : l.length = n := by
    have e := congrArg List.length hsub
    rw [List.length_map] at e
    by_cases h0 : n = 0
    · subst h0; rw [← e]; simp [sub]
    · rw [← e, sub_len _ _ _ (h2 (by omega))]
  by_cases h0 : n = 0
  · subst h0
    have : l = [] := List.length_eq_zero_iff.1 hln
    subst this
    refine ⟨fun k β' => ⟨base, rfl, hnc, rfl, fun hc0 => ?_⟩, ?_⟩
    · obtain ⟨r, hr, rfl⟩ := hbase hc0
      exact ⟨r.blk, r.off + c, rfl, hR.live j b r hb hr, by simp, fun h => absurd h (by omega)⟩
    · cases base with
      | none => rfl
      | some a => simp only [contV, List.range_zero, List.map_nil]; split <;> rfl
  · have h2 := h2 (by omega)
    obtain ⟨r, hr, rfl⟩ := hbase (by omega)
    rcases hd with ⟨rfl, _⟩ | ⟨r', arr, ty, fr, hr', hh, hsz, hlen, ha, _⟩
    · simp at h2; omega
    · rw [hr] at hr'; cases hr'
      have hget : ∀ i x, l[i]? = some x → arr[r.off + c + i]? = some (.int .u8 x) := by
        intro i x hx
        have h3 : (sub cs c n)[i]? = some (.int .u8 x) := by rw [hsub, List.getElem?_map, hx]; rfl
        have h4 := ha _ _ (getElem?_sub _ _ _ _ _ h3)
        rw [Nat.add_assoc]; exact h4
      refine ⟨fun k β' => ⟨_, rfl, hnc, hln, fun _ => ⟨r.blk, r.off + c, rfl, hR.live j b r hb hr, by simp, fun _ => ⟨arr, ty, fr, hh, by omega, hget⟩⟩⟩, ?_⟩
      unfold contV
      simp only [hh]
      refine List.ext_getElem? fun i => ?_
      by_cases hi : i < n
      · rw [List.getElem?_map, List.getElem?_range hi]
        have hx := hget i l[i] (List.getElem?_eq_getElem (by omega))
        simp only [Option.map_some, Array.getD_eq_getD_getElem?, hx, Option.getD_some, intV]
        rw [List.getElem?_eq_getElem (by omega)]
      · rw [List.getElem?_eq_none (by simp; omega), List.getElem?_eq_none (by omega)]

theorem partC_ok (hR : RelW w0 rw β K w) {a : Atom} {m : Nat} {p : Prop} {D : List Int} {cs : List Value} (h : partC K w0 rw a = some (m, p, D)) (hp : p) (hc : a.con β cs) :
    cs.length = m ∧ (∀ i, i < m → ∀ k β', ImpOk ⟨w, [], k, β'⟩ (cs.getD i undef) .u8 (lenV (cs.getD i undef)) (capV (cs.getD i undef)) (contV w (cs.getD i undef))) ∧ catV w cs m = D := by
  have one : ∀ {base : Option Addr} {n cap : Nat} {l : List Int}, ((∀ k β', ImpOk ⟨w, [], k, β'⟩ (.slice base n cap) .u8 n cap l) ∧ contV w (.slice base n cap) = l) →
      ([Value.slice base n cap].length = 1 ∧ (∀ i, i < 1 → ∀ k β', ImpOk ⟨w, [], k, β'⟩ ([Value.slice base n cap].getD i undef) .u8 (lenV ([Value.slice base n cap].getD i undef)) (capV ([Value.slice base n cap].getD i undef)) (contV w ([Value.slice base n cap].getD i undef))) ∧ catV w [Value.slice base n cap] 1 = l) := by
    intro base n cap l h
    refine ⟨rfl, fun i hi k β' => ?_, ?_⟩
    · have : i = 0 := by omega
      subst this
      show ImpOk ⟨w, [], k, β'⟩ (.slice base n cap) .u8 n cap (contV w (.slice base n cap))
      rw [h.2]; exact h.1 k β'
    · show [] ++ contV w (.slice base n cap) = l
      rw [h.2]; rfl
  unfold partC at h
  split at h
  · split at h
    · rename_i j c n cap b hb
      split at h
      · rename_i p' m' l hs
        simp only [Option.some.injEq, Prod.mk.injEq] at h; obtain ⟨rfl, rfl, rfl⟩ := h
        obtain ⟨base, rfl, hnc, hbase⟩ := hc
        exact one (sl_part hR hb hs hp hnc hbase)
      · simp at h
    · simp at h
  · split at h
    · rename_i j c n z b hb
      split at h
      · rename_i p' m' l hs
        simp only [Option.some.injEq, Prod.mk.injEq] at h; obtain ⟨rfl, rfl, rfl⟩ := h
        obtain ⟨base, cap, rfl, hnc, hbase⟩ := hc
        exact one (sl_part hR hb hs hp hnc fun h0 => by obtain ⟨r, h1, h2, _⟩ := hbase h0; exact ⟨r, h1, h2⟩)
      · simp at h
    · simp at h
  · simp only [Option.some.injEq, Prod.mk.injEq] at h; obtain ⟨rfl, rfl, rfl⟩ := h
    obtain ⟨rfl, _⟩ := hc
    exact one ⟨fun k β' => ⟨none, rfl, Nat.le_refl _, rfl, fun h => absurd h (by omega)⟩, rfl⟩
  · rename_i n L
    simp only [Option.some.injEq, Prod.mk.injEq] at h; obtain ⟨rfl, rfl, rfl⟩ := h
    obtain ⟨h1, rfl, _⟩ := hc
    obtain ⟨h3, h4⟩ := PartsR.move hR.old hR.size hp
    exact ⟨h1, h3.imp, h4⟩
  · simp at h

theorem partsC_ok (hR : RelW w0 rw β K w) : ∀ {l : List Atom} {m : Nat} {p : Prop} {D : List Int} {cs : List Value}, partsC K w0 rw l = some (m, p, D) → p → cons β l cs →
    cs.length = m ∧ (∀ i, i < m → ∀ k β', ImpOk ⟨w, [], k, β'⟩ (cs.getD i undef) .u8 (lenV (cs.getD i undef)) (capV (cs.getD i undef)) (contV w (cs.getD i undef))) ∧ catV w cs m = D
  | [], m, p, D, cs, h, hp, hc => by
    simp only [partsC, Option.some.injEq, Prod.mk.injEq] at h; obtain ⟨rfl, rfl, rfl⟩ := h
    have hc : cs = [] := hc
    subst hc
    exact ⟨rfl, fun i hi => absurd hi (by omega), rfl⟩
  | a :: l, m, p, D, cs, h, hp, hc => by
    simp only [partsC] at h
    split at h
    · rename_i n p1 D1 h1
      split at h
      · rename_i m2 q E h2
        simp only [Option.some.injEq, Prod.mk.injEq] at h; obtain ⟨rfl, rfl, rfl⟩ := h
        obtain ⟨x, y, rfl, ha, hr⟩ := hc
        obtain ⟨g1, g2, g3⟩ := partC_ok hR h1 hp.1 ha
        obtain ⟨k1, k2, k3⟩ := partsC_ok hR h2 hp.2 hr
        subst g1
        refine ⟨by rw [List.length_append, k1], fun i hi k β' => ?_, by rw [catV_two, g3, k3]⟩
        by_cases hx : i < x.length
        · rw [getD_left hx]; exact g2 i hx k β'
        · obtain ⟨t, rfl⟩ : ∃ t, i = x.length + t := ⟨i - x.length, by omega⟩
          rw [getD_right]; exact k2 t (by omega) k β'
      · simp at h
    · simp at h
end sound

def unsnoc : List AV → Option (List AV × AV)
  | [] => none
  | a :: r => (match unsnoc r with
    | some (l, x) => some (a :: l, x)
    | none => some ([], a))
theorem unsnoc_nil : ∀ {l : List AV}, unsnoc l = none → l = []
  | [], _ => rfl
  | a :: r, h => by simp only [unsnoc] at h; split at h <;> simp at h
theorem unsnoc_ok : ∀ {args l : List AV} {x : AV}, unsnoc args = some (l, x) → args = l ++ [x]
  | [], _, _, h => by simp [unsnoc] at h
  | a :: r, l, x, h => by
    simp only [unsnoc] at h
    split at h
    · rename_i l' x' h1
      simp only [Option.some.injEq, Prod.mk.injEq] at h; obtain ⟨rfl, rfl⟩ := h
      rw [unsnoc_ok h1]; rfl
    · rename_i h1
      simp only [Option.some.injEq, Prod.mk.injEq] at h; obtain ⟨rfl, rfl⟩ := h
      rw [unsnoc_nil h1]; rfl
theorem allC_snoc {β : Env} {x : AV} : ∀ {l : List AV} {xs : List Value}, allC β (l ++ [x]) xs → ∃ xl v, xs = xl ++ [v] ∧ allC β l xl ∧ x.con β v
  | [], xs, h => by
    obtain ⟨v, rest, rfl, hv, hr⟩ := h
    have hr : rest = [] := hr
    subst hr
    exact ⟨[], v, rfl, rfl, hv⟩
  | a :: l, xs, h => by
    obtain ⟨v, rest, rfl, hv, hr⟩ := h
    obtain ⟨xl, u, rfl, h1, h2⟩ := allC_snoc hr
    exact ⟨v :: xl, u, rfl, ⟨v, xl, rfl, hv, h1⟩, h2⟩
theorem allC_put {β : Env} {x : AV} {v : Value} : ∀ {l : List AV} {xl : List Value}, allC β l xl → x.con β v → allC β (l ++ [x]) (xl ++ [v])
  | [], xl, h, hv => by
    have h : xl = [] := h
    subst h
    exact ⟨v, [], rfl, hv, rfl⟩
  | a :: l, xl, h, hv => by
    obtain ⟨u, rest, rfl, h1, h2⟩ := h
    exact ⟨u, rest ++ [v], rfl, h1, allC_put h2 hv⟩

def slC : AV → Option (Nat × Nat)
  | .o (.a (.sl j 0 m _)) => some (j, m)
  | .o (.a (.rs j 0 m _)) => some (j, m)
  | _ => none
theorem slC_ok {x : AV} {j m : Nat} (h : slC x = some (j, m)) {β : Env} {v : Value} (hv : x.con β v) : ∃ base cap, v = .slice base m cap ∧ m ≤ cap ∧ (0 < cap → ∃ r, β j = some r ∧ base = some ⟨r.blk, r.off + 0, none⟩) := by
  unfold slC at h
  split at h
  · simp only [Option.some.injEq, Prod.mk.injEq] at h; obtain ⟨rfl, rfl⟩ := h
    obtain ⟨base, hv, h1, h2⟩ := hv
    simp only [List.cons.injEq, and_true] at hv
    exact ⟨base, _, hv, h1, h2⟩
  · simp only [Option.some.injEq, Prod.mk.injEq] at h; obtain ⟨rfl, rfl⟩ := h
    obtain ⟨base, cap, hv, h1, h2⟩ := hv
    simp only [List.cons.injEq, and_true] at hv
    exact ⟨base, cap, hv, h1, fun h0 => by obtain ⟨r, g1, g2, _⟩ := h2 h0; exact ⟨r, g1, g2⟩⟩
  · simp at h

/-- a function that reads views and, last, a list of parts; what it answers speaks of the parts' bytes together -/
def gpartsE (ss : List AS) (w0 : World) (rw : List Nat) (entry : List Vw → List AV → Nat → List Int → Option (Prop × V1)) (K : Know) (args : List AV) : Option Rx :=
  match unsnoc args with
  | some (l, x) => (match slC x with
    | some (j, m) => (match K.at j with
      | some b => (match partsC K w0 rw b.cells with
        | some (m', q, D) => (match mkV K ss l 0 [] with
          | some (ps, vs, _) => (match entry vs l m D with
            | some (p, y) => some ⟨some (m' = m ∧ q ∧ D.length < 70368744177664 ∧ conjP ps ∧ p), .o y, [], 0⟩
            | none => none)
          | none => none)
        | none => none)
      | none => none)
    | none => none)
  | none => none
def gparts (f : FuncId) (ss : List AS) (w0 : World) (rw : List Nat) (entry : List Vw → List AV → Nat → List Int → Option (Prop × V1)) (rest : Gam) : Gam := fun g K n args =>
  if f = g then gpartsE ss w0 rw entry K args else rest g K n args

theorem gparts_ok {P : Program} {T : Tab} (hT : TabOk P T) {f : FuncId} {fn : Func} (hf : P.funcs[f]? = some fn) (he : ∀ (xas : Array Value) (w : World), (callFunc f xas).run P w = .ok (.enter f xas) w) {ss : List AS} {entry : List Vw → List AV → Nat → List Int → Option (Prop × V1)} {rest : Gam} {w0 : World} {rw : List Nat} (hr : GamAt P rest w0 rw)
    (h : ∀ vs args m D p y, entry vs args m D = some (p, y) → p → y.flat = true ∧ ∀ (caps : List Nat) (cap : Nat) (L : List Value) (w : World) (β : Env), L.length = m → PartsOk w L m → catV w L m = D →
      Body P T fn ⟨w, [], vs.length + 1, β⟩ (calleeArgs ss args 0 caps ++ [.o (.a (.sl vs.length 0 m cap))]) (knowV vs ++ [some ⟨false, [.vals m L]⟩]) fun ys _ => ys = [y])
    (hlt : f < impId := by decide) : GamAt P (gparts f ss w0 rw entry rest) w0 rw := by
  refine ⟨?_, ?_, ?_, ?_, ?_⟩
  · intro g K n args s hg hs
    unfold gparts at hs
    split at hs
    · rename_i e; subst e; exact he
    · exact hr.enter _ _ _ _ _ hg hs
  · intro g K n args s hg hs hvc β w xs hx hR hn hK
    unfold gparts at hs
    split at hs
    · rename_i e; subst e
      unfold gpartsE at hs
      split at hs
      · rename_i l x hun
        split at hs
        · rename_i j m hsl
          split at hs
          · rename_i b hb
            split at hs
            · rename_i m' q D hpc
              split at hs
              · rename_i ps vs as0 hmk
                split at hs
                · rename_i p y hen
                  simp only [Option.some.injEq] at hs; subst hs
                  obtain ⟨rfl, hq, hD, hps, hp⟩ := hvc
                  rw [unsnoc_ok hun] at hx
                  obtain ⟨xl, v, rfl, hxl, hxv⟩ := allC_snoc hx
                  obtain ⟨base, cap, rfl, hmc, hbase⟩ := slC_ok hsl hxv
                  obtain ⟨h1, caps, xas, h2, h3⟩ := mkV_ok ss l [] [] ps vs as0 xl hmk hps hxl
                  have hvw := views_rel hR h1
                  have hb0 := hR.holds j b hb
                  obtain ⟨L, hL, hd⟩ := hb0
                  obtain ⟨g1, g2, g3⟩ := partsC_ok hR hpc hq hL
                  have hparts : PartsOk w L m' := ⟨g2, by rw [g3]; exact hD⟩
                  have hone := cons_one hL
                  have hel : envV β (vs ++ [⟨j, 0, 0, []⟩]) vs.length = β j := by
                    have := envV_mid β vs ⟨j, 0, 0, []⟩ []
                    rw [this]
                    show shiftR 0 (β j) = β j
                    cases β j with
                    | none => rfl
                    | some r => rfl
                  have hlow : ∀ i, i < vs.length → envV β (vs ++ [⟨j, 0, 0, []⟩]) i = envV β vs i := by
                    intro i hi
                    unfold envV
                    rw [List.getElem?_append_left hi]
                  have hkl : (knowV vs).length = vs.length := by simp [knowV]
                  have hrel : RelW w [] (envV β (vs ++ [⟨j, 0, 0, []⟩])) (knowV vs ++ [some ⟨false, [.vals m' L]⟩]) w := by
                    refine RelW.ofRead fun i bk hi => ?_
                    by_cases hiv : i < vs.length
                    · rw [know_append_left (by omega)] at hi
                      have hfl : bk.own = false ∧ bk.cells.all Atom.flat = true := by
                        unfold knowV Know.at at hi
                        rw [List.getElem?_map] at hi
                        cases hv : vs[i]? with
                        | none => rw [hv] at hi; simp at hi
                        | some v => rw [hv] at hi; simp at hi; subst hi; exact ⟨rfl, (h1 v (List.mem_of_getElem? hv)).1⟩
                      refine ⟨hfl.1, ?_, ?_⟩
                      · obtain ⟨cs, hc1, hc2⟩ := hvw.holds i bk hi
                        refine ⟨cs, cons_flat hfl.2 hc1, ?_⟩
                        rw [hlow i hiv]; exact hc2
                      · intro r hr'
                        rw [hlow i hiv] at hr'
                        exact hvw.live i bk r hi hr'
                    · rw [know_append_right (by omega)] at hi
                      have hi0 : i = vs.length ∧ bk = ⟨false, [.vals m' L]⟩ := by
                        have : i - (knowV vs).length = 0 := by
                          rcases hq0 : i - (knowV vs).length with _ | t
                          · rfl
                          · rw [hq0] at hi; simp [Know.at] at hi
                        rw [this] at hi
                        exact ⟨by omega, (Option.some.inj hi).symm⟩
                      obtain ⟨rfl, rfl⟩ := hi0
                      refine ⟨rfl, ⟨L, ⟨L, [], by simp, ⟨g1, rfl, hone⟩, rfl⟩, ?_⟩, ?_⟩
                      · rw [hel]
                        rcases hd with ⟨k1, _⟩ | ⟨r, arr, ty, fr, k1, k2, k3, k4, k5, _⟩
                        · exact .inl ⟨k1, .inl rfl⟩
                        · exact .inr ⟨r, arr, ty, fr, k1, k2, k3, k4, k5, fun h => by cases h⟩
                      · intro r hr'
                        rw [hel] at hr'
                        exact hR.live j b r hb hr'
                  have hall : allC (envV β (vs ++ [⟨j, 0, 0, []⟩])) (calleeArgs ss l 0 caps ++ [.o (.a (.sl vs.length 0 m' cap))]) (xl ++ [.slice base m' cap]) := by
                    refine allC_put ?_ ⟨base, rfl, hmc, fun hc0 => ?_⟩
                    · have := h3 [⟨j, 0, 0, []⟩]
                      rw [mkV_args h2] at this
                      simpa using this
                    · obtain ⟨r, k1, k2⟩ := hbase hc0
                      exact ⟨r, by rw [hel]; exact k1, k2⟩
                  obtain ⟨hfy, hbody⟩ := h vs l m' D p y hen hp
                  have hbd := hbody caps cap L w (envV β (vs ++ [⟨j, 0, 0, []⟩])) g1 hparts g3
                  rw [show vs.length + 1 = (knowV vs ++ [some ⟨false, [.vals m' L]⟩] : Know).length by simp [knowV]] at hbd
                  refine Calls.mono (calls_of_body hT hf (rw := []) hall hrel hbd) fun e w' he => ?_
                  obtain ⟨ys, K', v, β', rfl, rfl, hv, hrel', _⟩ := he
                  exact ⟨v, β, rfl, agree_refl _ _ _, V1.flat_con hfy hv, hR.grow hrel'.toGrow⟩
                · simp at hs
              · simp at hs
            · simp at hs
          · simp at hs
        · simp at hs
      · simp at hs
    · exact hr.calls _ _ _ _ _ hg hs hvc β w xs hx hR hn hK
  · intro g K K' n args s hg hs hk
    unfold gparts at hs ⊢
    split at hs
    · rename_i e
      rw [if_pos e]
      unfold gpartsE at hs ⊢
      split at hs
      · rename_i hun
        split at hs
        · rename_i hsl
          split at hs
          · rename_i b hb
            simp only [hk _ _ hb]
            split at hs
            · rename_i hpc
              simp only [partsC_mono hk hpc]
              split at hs
              · rename_i hmk
                simp only [mkV_mono hk hmk]
                exact hs
              · simp at hs
            · simp at hs
          · simp at hs
        · simp at hs
      · simp at hs
    · rename_i e; rw [if_neg e]; exact hr.mono _ _ _ _ _ _ hg hs hk
  · intro g n args s hs
    have hne : ¬ (f = extId + g) := fun e => by
      have h1 : extId ≤ extId + g := Nat.le_add_right _ _
      rw [← e] at h1
      exact Nat.lt_irrefl _ (Nat.lt_of_lt_of_le hlt (Nat.le_trans (by decide : impId ≤ extId) h1))
    unfold gparts at hs
    rw [if_neg hne] at hs
    exact hr.ext _ _ _ _ hs
  · intro g n v s hg hg2 hs
    have hne : ¬ (f = g) := fun e => by
      have h1 := hlt
      rw [e] at h1
      exact Nat.lt_irrefl _ (Nat.lt_of_lt_of_le h1 hg)
    unfold gparts at hs
    rw [if_neg hne] at hs
    exact hr.imp _ _ _ _ hg hg2 hs
end Go.Proofs.Ytlmdhjojinkdbaa.X

/- What a digest of bytes is, as a function of the bytes; the document's is the program's. (drbg seat) -/
namespace Go.Proofs.Ytlmdhjojinkdbaa.X
open Go Go.Proofs
set_option linter.unusedVariables false

theorem blk_len (S b : List Int) (h : S.length = 8) (C : List Int) : (blk S b C).length = 8 := by
  unfold blk
  simp only [List.length_set]
  exact h
theorem absN_len (C D : List Int) : ∀ (k : Nat) {S : List Int}, S.length = 8 → (absN C D k S).length = 8
  | 0, S, h => h
  | k + 1, S, h => by rw [absN_succ]; exact blk_len _ _ (absN_len C D k h) _
theorem wrN_eq {N : Int} {n : Nat} (h0 : 0 ≤ N) (h : N + ((n : Nat) : Int) < 2305843009213693952) : wrN N n = N + ((n : Nat) : Int) := by
  unfold wrN
  rw [wrapU (x := ((n : Nat) : Int)) (by omega) (by omega), wrapU (by omega) (by omega)]
def H0 : List Int := [7640891576956012808, 13503953896175478587, 4354685564936845355, 11912009170470909681, 5840696475078001361, 11170449401992604703, 2270897969802886507, 6620516959819538809]
def hS (D : List Int) : List Int := absN konst D (D.length / 128) H0
def hT (D : List Int) : Nat := D.length % 128
def hN (D : List Int) : Int := ((D.length : Nat) : Int)
def hL (D : List Int) : List Int := D.drop (128 * (D.length / 128))
/-- the digest -/
def shaD (D : List Int) : List Int := hsum (hS D) (hT D) (hN D) (hL D) konst

theorem hT_lt (D : List Int) : hT D < 128 := by unfold hT; omega
theorem hL_len (D : List Int) : (hL D).length = hT D := by unfold hL hT; simp; omega
theorem hN_nn (D : List Int) : 0 ≤ hN D := by unfold hN; omega
theorem hN_mod (D : List Int) : Int.tmod (hN D) 128 = ((hT D : Nat) : Int) := by
  unfold hN hT
  rw [Int.tmod_eq_emod_of_nonneg (by omega)]; omega
theorem hS_len (D : List Int) : (hS D).length = 8 := absN_len _ _ _ rfl

theorem hS_step {D c : List Int} {n : Nat} (hc : c.length = n) : wrS konst (hS D) (hL D) (sub c 0 n) (hT D) n = hS (D ++ c) := by
  rw [sub_all c n (by omega)]
  unfold wrS hS
  have e1 : hL D ++ c = (D ++ c).drop (128 * (D.length / 128)) := by
    unfold hL; rw [List.drop_append_of_le_length (by omega)]
  have e2 : (D ++ c).length / 128 = D.length / 128 + (hT D + n) / 128 := by
    rw [List.length_append, hc]; unfold hT; omega
  rw [e1, e2, absN_add, absN_left _ _ _ _ _ (by omega)]

theorem hT_step {D c : List Int} {n : Nat} (hc : c.length = n) : wrT (hT D) n = hT (D ++ c) := by
  unfold wrT hT; rw [List.length_append, hc]; omega
theorem hN_step {D c : List Int} {n : Nat} (hc : c.length = n) (h : (D ++ c).length < 1152921504606846976) : wrN (hN D) n = hN (D ++ c) := by
  rw [List.length_append] at h
  unfold hN
  rw [wrN_eq (by omega) (by omega), List.length_append, hc]
  omega
theorem hL_step {D c : List Int} {n : Nat} (hc : c.length = n) : wrL (hL D) (sub c 0 n) (hT D) n = hL (D ++ c) := by
  rw [sub_all c n (by omega)]
  unfold wrL
  have e1 : hL D ++ c = (D ++ c).drop (128 * (D.length / 128)) := by
    unfold hL; rw [List.drop_append_of_le_length (by omega)]
  rw [e1, List.drop_drop]
  unfold hL
  congr 1
  rw [List.length_append, hc]; unfold hT; omega

/-- a part more -/
theorem PartsOk.step {w : World} {L : List Value} {n : Nat} (h : PartsOk w L n) {k : Nat} (hk : k < n) {c : List Int} (hc : c = contV w (L.getD k undef)) :
    wrS konst (hS (catV w L k)) (hL (catV w L k)) (sub c 0 (lenV (L.getD k undef))) (hT (catV w L k)) (lenV (L.getD k undef)) = hS (catV w L (k + 1)) ∧
      wrT (hT (catV w L k)) (lenV (L.getD k undef)) = hT (catV w L (k + 1)) ∧ wrN (hN (catV w L k)) (lenV (L.getD k undef)) = hN (catV w L (k + 1)) ∧
      wrL (hL (catV w L k)) (sub c 0 (lenV (L.getD k undef))) (hT (catV w L k)) (lenV (L.getD k undef)) = hL (catV w L (k + 1)) := by
  subst hc
  have h1 := h.len hk
  refine ⟨hS_step h1, hT_step h1, hN_step h1 ?_, hL_step h1⟩
  have := h.lt (i := k + 1) hk
  have h2 : (catV w L k ++ contV w (L.getD k undef)).length < 70368744177664 := this
  omega

/-- the sum of bytes -/
theorem join1_sha {n : Nat} {b : List Int} (hb : b.length = n) (h : n < 70368744177664) : join1 n b = shaD b := by
  have h0 : hS [] = H0 := rfl
  have e1 : wrS konst H0 [] (sub b 0 n) 0 n = hS b := by
    have := hS_step (D := []) hb
    exact this
  have e2 : wrT 0 n = hT b := hT_step (D := []) hb
  have e3 : wrN 0 n = hN b := hN_step (D := []) hb (by simp; omega)
  have e4 : wrL [] (sub b 0 n) 0 n = hL b := hL_step (D := []) hb
  show hsum _ _ _ _ konst = _
  unfold shaD
  rw [← e1, ← e2, ← e3, ← e4]; rfl
end Go.Proofs.Ytlmdhjojinkdbaa.X

/- The document's digest is the program's. (drbg seat) -/
namespace Go.Proofs.Ytlmdhjojinkdbaa.X
open Go Go.Proofs
set_option linter.unusedVariables false

theorem absN_R {f : Nat → List Int → List Int} {D : List Int} {S : List Int} (hS : S.length = 8) : ∀ {k : Nat}, (∀ i s, i < k → s.length = 8 → f i s = blkR s (sub D (128 * i) 128)) → iter f k S = absN konst D k S
  | 0, _ => rfl
  | k + 1, h => by
    show f k (iter f k S) = _
    rw [absN_R hS fun i s hi hs => h i s (by omega) hs, absN_succ, h k _ (by omega) (absN_len _ _ _ hS), blk_eq _ (absN_len _ _ _ hS)]
theorem i64_128 {k : Nat} (h : 128 * k < 4611686018427387904) : Int.toNat (IntKind.i64.wrap (((((128 : Nat) * k) : Nat) : Int) + (128 : Int))) - 128 * k = 128 := by
  rw [wrapI (by omega) (by omega)]; omega
theorem finR_dig (S : List Int) (n : Nat) (b : List Int) (N : Int) : finR S n b N = digL (finL_out0 n b N S) := by kernel_rfl
theorem fin_eq {S L : List Int} {tl : Nat} {N : Int} (hS : S.length = 8) (hL : L.length = tl) (h0 : 0 ≤ N) (h1 : Int.tmod N 128 = ((tl : Nat) : Int)) : finR S tl L N = hsum S tl N L konst := by
  rw [finR_dig, hsum_dig]
  congr 1
  obtain ⟨p1, p2⟩ := pad_mod h0 h1
  have p3 := pad_le N
  unfold finL_out0 sumL_out0
  rw [padR_len]
  have hP : (sub (pad_1 N) 0 (pad N)).length = pad N := by rw [sub_len]; rw [pad_1_len]; omega
  rw [absN_R (D := L ++ sub (pad_1 N) 0 (pad N)) hS fun i s hi hs => ?_]
  · refine (iter_congr fun i s hi => ?_).symm
    unfold sumL_step
    rw [rest_sub hL hP (by omega) (by omega)]
  · unfold finL_step
    rw [i64_128 (by omega), sub_all L tl (by omega), sub_all L tl (by omega), pad_same, Nat.zero_add]
theorem sumR_sha {n : Nat} {b : List Int} (hb : b.length = n) (h : n < 70368744177664) : sumR n b = shaD b := by
  have e0 : sumRL_out0 b n H0 = hS b := by
    unfold sumRL_out0 hS
    rw [hb]
    refine absN_R rfl fun i s hi hs => ?_
    unfold sumRL_step
    rw [i64_128 (by omega), Nat.zero_add]
  have e1 : n - 128 * (n / 128) = hT b := by unfold hT; omega
  have e2 : sub b (0 + 128 * (n / 128)) (hT b) = hL b := by
    have hl := hL_len b
    unfold sub
    rw [Nat.zero_add, ← hb]
    show (hL b).take (hT b) = hL b
    exact List.take_of_length_le (by omega)
  have e3 : IntKind.u64.wrap ((n : Nat) : Int) = hN b := by unfold hN; rw [wrapU (by omega) (by omega), hb]
  show finR (sumRL_out0 b n H0) (n - 128 * (n / 128)) (sub b (0 + 128 * (n / 128)) (n - 128 * (n / 128))) (IntKind.u64.wrap ((n : Nat) : Int)) = _
  rw [e0, e1, e2, e3]
  exact fin_eq (hS_len b) (hL_len b) (hN_nn b) (hN_mod b)
end Go.Proofs.Ytlmdhjojinkdbaa.X

/- Printed by a tool of this session. -/
namespace Go.Proofs.Ytlmdhjojinkdbaa.X
open Go Go.Proofs
set_option linter.unusedVariables false
set_option linter.unusedSimpArgs false
set_option maxRecDepth 100000
theorem teDB_22 : TEOk Try.prog 22 ⟨.slice 5, 1, 24, [.raw (.slice none 0 0)], false⟩ :=
  TEOk.of Try.underlying22 (i := Try.t22) (by kernel_rfl) rfl rfl rfl (by kernel_rfl) (fun h => by cases h) (by kernel_rfl)
theorem teDB_23 : TEOk Try.prog 23 ⟨.slice 22, 1, 24, [.raw (.slice none 0 0)], false⟩ :=
  TEOk.of Try.underlying23 (i := Try.t23) (by kernel_rfl) rfl rfl rfl (by kernel_rfl) (fun h => by cases h) (by kernel_rfl)
theorem teDB_32 : TEOk Try.prog 32 ⟨.array 64 5, 64, 64, [.ints .u8 64 (List.replicate 64 0)], true⟩ :=
  TEOk.of Try.underlying32 (i := Try.t32) (by kernel_rfl) rfl rfl rfl (by kernel_rfl) (fun _ => Try.eqGuardType32) (by kernel_rfl)
noncomputable def tabDB : List (Nat × TE) := [(22, ⟨.slice 5, 1, 24, [nlA], false⟩), (23, ⟨.slice 22, 1, 24, [nlA], false⟩), (32, ⟨.array 64 5, 64, 64, [.ints .u8 64 (List.replicate 64 0)], true⟩)]
theorem tabOkDB : TabOk Try.prog (tabOf tabDB) := (tabOf_cons teDB_22 (tabOf_cons teDB_23 (tabOf_cons teDB_32 tabOf_nil)))

def joL_mk (w : World) (n : Nat) (L : List Value) (cap0 k : Nat) (s : Unit) : St := ⟨sparse 19 [(0, .o (.a (.sl 0 0 n cap0))), (2, .o (.a (.p 1 0))), (3, .o (.a (.p 3 0))), (6, .o (.a (.p 3 0))), (7, .o (.a (.sl 0 0 n cap0))), (8, .o (.a (.i .i64 ((n : Nat) : Int)))), (9, .o (.a (.i .i64 ((k : Nat) : Int))))], [some ⟨false, [.vals n L]⟩, some ⟨true, [.ints .u8 64 (List.replicate 64 0)]⟩, some ⟨true, [.ints .u64 80 (konst)]⟩, some ⟨true, [.ints .u64 8 (hS (catV w L k)), .rs 4 0 (hT (catV w L k)) 1, .i .u64 (hN (catV w L k)), .p 2 0]⟩, some ⟨true, [.ints .u8 (hT (catV w L k)) (hL (catV w L k))]⟩]⟩

def joL_step (k : Nat) (s : Unit) : Unit :=
  ()

set_option maxHeartbeats 1000000 in
theorem joL_round (w : World) (n : Nat) (L : List Value) (cap0 : Nat) (h0 : (n < 70368744177664)) (β : Env) (hP : PartsOk w L n) (k : Nat) (hk : k < n) (s : Unit) : Run Try.prog ⟨w, [], 1, β⟩ (loopB Try.f39 0) (joL_mk w n L cap0 k s) (To ⟨w, [], 1, β⟩ .normal (joL_mk w n L cap0 (k + 1) (joL_step k s))) := by
  have e0 : (wrS (konst) (hS (catV w L k)) (hL (catV w L k)) (sub (contV w (List.getD L k undef)) 0 (lenV (List.getD L k undef))) (hT (catV w L k)) (lenV (List.getD L k undef))) = (hS (catV w L (k + 1))) := (by first | exact wrap_succ (by omega) | exact (PartsOk.step hP hk rfl).1 | exact (PartsOk.step hP hk rfl).2.1 | exact (PartsOk.step hP hk rfl).2.2.1 | exact (PartsOk.step hP hk rfl).2.2.2)
  have e1 : (wrL (hL (catV w L k)) (sub (contV w (List.getD L k undef)) 0 (lenV (List.getD L k undef))) (hT (catV w L k)) (lenV (List.getD L k undef))) = (hL (catV w L (k + 1))) := (by first | exact wrap_succ (by omega) | exact (PartsOk.step hP hk rfl).1 | exact (PartsOk.step hP hk rfl).2.1 | exact (PartsOk.step hP hk rfl).2.2.1 | exact (PartsOk.step hP hk rfl).2.2.2)
  have e2 : (wrT (hT (catV w L k)) (lenV (List.getD L k undef))) = (hT (catV w L (k + 1))) := (by first | exact wrap_succ (by omega) | exact (PartsOk.step hP hk rfl).1 | exact (PartsOk.step hP hk rfl).2.1 | exact (PartsOk.step hP hk rfl).2.2.1 | exact (PartsOk.step hP hk rfl).2.2.2)
  have e3 : (wrN (hN (catV w L k)) (lenV (List.getD L k undef))) = (hN (catV w L (k + 1))) := (by first | exact wrap_succ (by omega) | exact (PartsOk.step hP hk rfl).1 | exact (PartsOk.step hP hk rfl).2.1 | exact (PartsOk.step hP hk rfl).2.2.1 | exact (PartsOk.step hP hk rfl).2.2.2)
  have e4 : (IntKind.i64.wrap (((k : Nat) : Int) + (1 : Int))) = (((k + 1) : Nat) : Int) := (by first | exact wrap_succ (by omega) | exact (PartsOk.step hP hk rfl).1 | exact (PartsOk.step hP hk rfl).2.1 | exact (PartsOk.step hP hk rfl).2.2.1 | exact (PartsOk.step hP hk rfl).2.2.2)
  have h := Run.of_outTAt (B := ⟨w, [], 1, β⟩) (Λ := noLam) (Ψ := noPsi) (fuel := 0) (ora := [true]) (c := (loopB Try.f39 0)) (st := (joL_mk w n L cap0 k s)) (l := [.swap 4 6, .forget [0, 2, 3, 6, 7, 8, 9] 5]) (s' := ⟨sparse 19 [(0, .o (.a (.sl 0 0 n cap0))), (2, .o (.a (.p 1 0))), (3, .o (.a (.p 3 0))), (6, .o (.a (.p 3 0))), (7, .o (.a (.sl 0 0 n cap0))), (8, .o (.a (.i .i64 ((n : Nat) : Int)))), (9, .o (.a (.i .i64 (IntKind.i64.wrap (((k : Nat) : Int) + (1 : Int))))))], [some ⟨false, [.vals n L]⟩, some ⟨true, [.ints .u8 64 (List.replicate 64 0)]⟩, some ⟨true, [.ints .u64 80 (konst)]⟩, some ⟨true, [.ints .u64 8 (wrS (konst) (hS (catV w L k)) (hL (catV w L k)) (sub (contV w (List.getD L k undef)) 0 (lenV (List.getD L k undef))) (hT (catV w L k)) (lenV (List.getD L k undef))), .rs 4 0 (wrT (hT (catV w L k)) (lenV (List.getD L k undef))) 1, .i .u64 (wrN (hN (catV w L k)) (lenV (List.getD L k undef))), .p 2 0]⟩, some ⟨true, [.ints .u8 (wrT (hT (catV w L k)) (lenV (List.getD L k undef))) (wrL (hL (catV w L k)) (sub (contV w (List.getD L k undef)) 0 (lenV (List.getD L k undef))) (hT (catV w L k)) (lenV (List.getD L k undef)))]⟩]⟩) (ex := .normal) mix tabOkDB (gimp_ok (t := 22) (mk := mkS ⟨w, [], 1, β⟩ .u8) (gam17_ok.at _ _) fun v m => mkS_ok v m)
    (vc := [((True ∧ (((0 + (lenV (List.getD L k undef))) ≤ (lenV (List.getD L k undef))) ∧ True)) ∧ (((hT (catV w L k)) = (hT (catV w L k))) ∧ ((lenV (List.getD L k undef)) = (lenV (List.getD L k undef))) ∧ ((hT (catV w L k)) < 128) ∧ ((lenV (List.getD L k undef)) < 140737488355328))), ((k < n) ∧ (ImpOk ⟨w, [], 1, β⟩ (List.getD L k undef) .u8 (lenV (List.getD L k undef)) (capV (List.getD L k undef)) (contV w (List.getD L k undef)))), (((0 : Int) ≤ ((k : Nat) : Int)) ∧ (((k : Nat) : Int) < ((n : Nat) : Int))), ((decide (((k : Nat) : Int) < ((n : Nat) : Int))) = true)]) (by kernel_rfl)
    (aC ⟨⟨trivial, ⟨(by have hh := hN_nn (catV w L n); have hm := hN_mod (catV w L n); have hq := hT_lt (catV w L k); have hl := hP.llt hk; first | omega | exact hm | (simp (disch := omega) only [wrapI]; omega)), trivial⟩⟩, ⟨rfl, rfl, (by have hh := hN_nn (catV w L n); have hm := hN_mod (catV w L n); have hq := hT_lt (catV w L k); have hl := hP.llt hk; first | omega | exact hm | (simp (disch := omega) only [wrapI]; omega)), (by have hh := hN_nn (catV w L n); have hm := hN_mod (catV w L n); have hq := hT_lt (catV w L k); have hl := hP.llt hk; first | omega | exact hm | (simp (disch := omega) only [wrapI]; omega))⟩⟩ (aC ⟨(by have hh := hN_nn (catV w L n); have hm := hN_mod (catV w L n); have hq := hT_lt (catV w L k); have hl := hP.llt hk; first | omega | exact hm | (simp (disch := omega) only [wrapI]; omega)), ((hP.imp k hk _ _))⟩ (aC ⟨(by have hh := hN_nn (catV w L n); have hm := hN_mod (catV w L n); have hq := hT_lt (catV w L k); have hl := hP.llt hk; first | omega | exact hm | (simp (disch := omega) only [wrapI]; omega)), (by have hh := hN_nn (catV w L n); have hm := hN_mod (catV w L n); have hq := hT_lt (catV w L k); have hl := hP.llt hk; first | omega | exact hm | (simp (disch := omega) only [wrapI]; omega))⟩ (aC (decide_eq_true (by have hh := hN_nn (catV w L n); have hm := hN_mod (catV w L n); have hq := hT_lt (catV w L k); have hl := hP.llt hk; first | omega | exact hm | (simp (disch := omega) only [wrapI]; omega))) (AllP_nil)))))
  rw [e0, e1, e2, e3, e4] at h
  exact h

set_option maxHeartbeats 1000000 in
theorem joL_last (w : World) (n : Nat) (L : List Value) (cap0 : Nat) (h0 : (n < 70368744177664)) (β : Env) (hP : PartsOk w L n) (s : Unit) : Run Try.prog ⟨w, [], 1, β⟩ (loopB Try.f39 0) (joL_mk w n L cap0 n s) (To ⟨w, [], 1, β⟩ (.exit 0) (joL_mk w n L cap0 n s)) :=
  Run.of_outTAt (B := ⟨w, [], 1, β⟩) (Λ := noLam) (Ψ := noPsi) (fuel := 0) (ora := [false]) (l := [.forget [0, 2, 3, 6, 7, 8, 9] 5]) mix tabOkDB (gimp_ok (t := 22) (mk := mkS ⟨w, [], 1, β⟩ .u8) (gam17_ok.at _ _) fun v m => mkS_ok v m)
    (vc := [((decide (((n : Nat) : Int) < ((n : Nat) : Int))) = false)]) (by kernel_rfl)
    (aC (decide_eq_false (by omega)) (AllP_nil))

theorem joL_loop (w : World) (n : Nat) (L : List Value) (cap0 : Nat) (h0 : (n < 70368744177664)) (β : Env) (hP : PartsOk w L n) (s : Unit) : Run Try.prog ⟨w, [], 1, β⟩ (.block 0 (.loop (loopB Try.f39 0))) (joL_mk w n L cap0 0 s) (To ⟨w, [], 1, β⟩ .normal (joL_mk w n L cap0 n (iter (joL_step) n s))) :=
  Run.count (fun k => joL_mk w n L cap0 k (iter (joL_step) k s)) n (fun k hk => joL_round w n L cap0 h0 β hP k hk _) (ex := (.exit 0)) (by simp) (joL_last w n L cap0 h0 β hP _)

def joinP (w : World) (n : Nat) (L : List Value) : List Int :=
  let z0 : List Int := (catV w L n)
  (hsum (hS z0) (hT z0) (hN z0) (hL z0) (konst))

set_option maxHeartbeats 1000000 in
theorem joinP_body0 (w : World) (n : Nat) (L : List Value) (cap0 : Nat) (h0 : (n < 70368744177664)) (β : Env) (hP : PartsOk w L n) : Body Try.prog (tabOf tabDB) Try.f39 ⟨w, [], 1, β⟩ [.o (.a (.sl 0 0 n cap0))] [some ⟨false, [.vals n L]⟩] (fun ys _ => ys = [.g [.ints .u8 64 (joinP w n L)]]) :=
  Body.of_finAt (Γ := (gimp 22 (mkS ⟨w, [], 1, β⟩ .u8) gam17)) (Λ := lamOf [(0, ⟨[.forget [0, 2, 3, 6, 7, 8, 9] 5], .normal, (joL_mk w n L cap0 n (iter (joL_step) n ()))⟩)]) (Ψ := noPsi) (fuel := 0) (m := 19) (c := (Try.f39.body.getD .skip)) mix tabOkDB (gimp_ok (t := 22) (mk := mkS ⟨w, [], 1, β⟩ .u8) (gam17_ok.at _ _) fun v m => mkS_ok v m) rfl (rs := [.cell 2 32]) rfl rfl [] []
    (vc := [((True ∧ True) ∧ (((hT (catV w L n)) = (hT (catV w L n))) ∧ ((0 : Int) ≤ (hN (catV w L n))) ∧ ((Int.tmod (hN (catV w L n)) (128 : Int)) = (((hT (catV w L n)) : Nat) : Int)))), (Run Try.prog ⟨w, [], 1, β⟩ (.block 0 (.loop (loopB Try.f39 0))) (joL_mk w n L cap0 0 ()) (To ⟨w, [], 1, β⟩ .normal (joL_mk w n L cap0 n (iter (joL_step) n ())))), (True ∧ True)]) (by kernel_rfl)
    (aC ⟨⟨trivial, trivial⟩, ⟨rfl, (by have hh := hN_nn (catV w L n); have hm := hN_mod (catV w L n); have hq := hT_lt (catV w L n); first | omega | exact hm | (simp (disch := omega) only [wrapI]; omega)), (by have hh := hN_nn (catV w L n); have hm := hN_mod (catV w L n); have hq := hT_lt (catV w L n); first | omega | exact hm | (simp (disch := omega) only [wrapI]; omega))⟩⟩ (aC (joL_loop w n L cap0 h0 β hP ()) (aC ⟨trivial, trivial⟩ (AllP_nil))))

theorem joinP_body (w : World) (n : Nat) (L : List Value) (cap0 : Nat) (h0 : (n < 70368744177664)) (β : Env) (hP : PartsOk w L n) : Body Try.prog (tabOf tabDB) Try.f39 ⟨w, [], 1, β⟩ [.o (.a (.sl 0 0 n cap0))] [some ⟨false, [.vals n L]⟩] (fun ys _ => ys = [.g [.ints .u8 64 (joinP w n L)]]) :=
  Body.lens (c := (Try.f39.body.getD .skip)) rfl fun h => joinP_body0 w n L cap0 h0  β hP

end Go.Proofs.Ytlmdhjojinkdbaa.X

/- Printed by a tool of this session. -/
namespace Go.Proofs.Ytlmdhjojinkdbaa.X
open Go Go.Proofs
set_option linter.unusedVariables false
set_option linter.unusedSimpArgs false
set_option maxRecDepth 100000
def gjoin (w0 : World) (rw : List Nat) (rest : Gam) : Gam := gparts 39 [] w0 rw (fun vs args m D => match vs, args with | [], [] => some (m < 70368744177664, .g [.ints .u8 64 (shaD D)]) | _, _ => none) rest
theorem gjoin_ok {rest : Gam} {w0 : World} {rw : List Nat} (hr : GamAt Try.prog rest w0 rw) : GamAt Try.prog (gjoin w0 rw rest) w0 rw := gparts_ok tabOkDB Try.func39 Try.call39 hr (by
  intro vs args m D p y h hv
  split at h
  · simp only [Option.some.injEq, Prod.mk.injEq] at h; obtain ⟨rfl, rfl⟩ := h
    refine ⟨rfl, fun caps cap L w β _ hP hD => ?_⟩
    subst hD
    exact joinP_body w m L cap hv β hP
  · simp at h)

end Go.Proofs.Ytlmdhjojinkdbaa.X

/- The keyed digest, as a function of bytes. -/
namespace Go.Proofs.Ytlmdhjojinkdbaa.X
open Go Go.Proofs
set_option linter.unusedVariables false
set_option maxRecDepth 100000

theorem shaD_len (D : List Int) : (shaD D).length = 64 := by
  unfold shaD; rw [hsum_dig]; exact digL_len _
def padK (k : List Int) : List Int := splice (List.replicate 128 (0 : Int)) 0 (min k.length 128) (sub k 0 (min k.length 128))
def keyK (k : List Int) : List Int := if k.length ≤ 128 then k else shaD k
def pk (k : List Int) : List Int := padK (keyK k)
theorem padK_len (k : List Int) : (padK k).length = 128 := by
  unfold padK
  rw [splice_len] <;> simp [sub] <;> omega
theorem pk_len (k : List Int) : (pk k).length = 128 := padK_len _
/-- the first k bytes turned -/
def xk (c : Int) (l : List Int) (k : Nat) : List Int := (l.take k).map (fun x => bits2 .xor .u8 x c) ++ l.drop k
theorem xk_len (c : Int) (l : List Int) (k : Nat) : (xk c l k).length = l.length := by
  unfold xk; simp; omega
theorem xk_step {c : Int} {l : List Int} {k : Nat} (h : k < l.length) : List.set (xk c l k) k (bits2 .xor .u8 (List.getD (xk c l k) k 0) c) = xk c l (k + 1) := by
  have hm : ((l.take k).map (fun x => bits2 .xor .u8 x c)).length = k := by simp; omega
  have e : l.drop k = l[k] :: l.drop (k + 1) := List.drop_eq_getElem_cons h
  unfold xk
  rw [e, List.getD_eq_getElem?_getD, List.getElem?_append_right (by omega), hm, Nat.sub_self, List.set_append_right _ _ (by omega), hm, Nat.sub_self]
  simp only [List.getElem?_cons_zero, Option.getD_some, List.set_cons_zero]
  rw [List.take_add_one, List.getElem?_eq_getElem h, List.map_append, List.append_assoc]
  rfl
/-- the keyed digest of bytes -/
def macD (k m : List Int) : List Int := shaD (xk 92 (pk k) 128 ++ shaD (xk 54 (pk k) 128 ++ m))
theorem macD_len (k m : List Int) : (macD k m).length = 64 := shaD_len _
theorem xk_sub (c : Int) (k : List Int) : sub (xk c (pk k) 128) 0 128 = xk c (pk k) 128 := sub_all _ _ (by rw [xk_len, pk_len]; omega)
theorem mac_out {w : World} {key : List Int} {L : List Value} {n : Nat} (hL : L.length = n) :
    shaD (sub (xk 92 (pk key) 128) 0 128 ++ (sub (shaD (sub (xk 54 (pk key) 128) 0 128 ++ (catV w (sub L 0 n) n ++ []))) 0 64 ++ [])) = macD key (catV w L n) := by
  rw [xk_sub, xk_sub, sub_all L n (by omega), sub_all _ 64 (by rw [shaD_len]; omega), List.append_nil, List.append_nil]; rfl
theorem mac_lt1 {w : World} {key : List Int} {L : List Value} {n : Nat} (hL : L.length = n) (h : (catV w L n).length + 128 < 70368744177664) : (sub (xk 54 (pk key) 128) 0 128 ++ (catV w (sub L 0 n) n ++ [])).length < 70368744177664 := by
  rw [xk_sub, sub_all L n (by omega), List.append_nil, List.length_append, xk_len, pk_len]; omega
theorem mac_lt2 {key m : List Int} : (sub (xk 92 (pk key) 128) 0 128 ++ (sub (shaD m) 0 64 ++ [])).length < 70368744177664 := by
  rw [xk_sub, sub_all _ 64 (by rw [shaD_len]; omega), List.append_nil, List.length_append, xk_len, pk_len, shaD_len]; omega
theorem mac_parts {w : World} {L : List Value} {n : Nat} (hL : L.length = n) (hP : PartsOk w L n) : PartsR w [] (sub L 0 n) n := by
  rw [sub_all L n (by omega)]; exact hP
theorem pk_short {key : List Int} {n : Nat} (hl : key.length = n) (h : n ≤ 128) : splice (List.replicate 128 (0 : Int)) 0 (min n 128) (sub key 0 (min n 128)) = pk key := by
  subst hl; unfold pk keyK; rw [if_pos h]; rfl
theorem pk_long {key : List Int} {n : Nat} (hl : key.length = n) (h : 128 < n) : splice (List.replicate 128 (0 : Int)) 0 64 (sub (shaD key) 0 64) = pk key := by
  subst hl; unfold pk keyK; rw [if_neg (by omega)]; unfold padK; rw [shaD_len]; rfl
theorem sum_key {key : List Int} {n : Nat} (hl : key.length = n) (h : n < 70368744177664) : join1 n (sub key 0 n) = shaD key := by
  rw [sub_all key n (by omega)]
  exact join1_sha hl h
end Go.Proofs.Ytlmdhjojinkdbaa.X

