/- Printed by a tool of this session. -/
import Derived.Test.YtcpoldghkiiggaaOR
import Derived.KernelRfl
namespace Go.Proofs.Ytcpoldghkiiggaa.X
open Go Go.Proofs
set_option linter.unusedVariables false
set_option maxRecDepth 100000
theorem teOS_5 : TEOk Try.prog 5 ⟨.int .u8, 1, 1, [.i .u8 (0 : Int)], false⟩ :=
  TEOk.of Try.underlying5 (i := Try.t5) (by kernel_rfl) rfl rfl rfl (by kernel_rfl) (fun h => by cases h) (by kernel_rfl)
theorem teOS_24 : TEOk Try.prog 24 ⟨.array 32 5, 32, 32, [.ints .u8 (32 : Nat) ([0, 0, 0, 0, 0, 0, 0, 0, 0, 0, 0, 0, 0, 0, 0, 0, 0, 0, 0, 0, 0, 0, 0, 0, 0, 0, 0, 0, 0, 0, 0, 0] : List Int)], true⟩ :=
  TEOk.of Try.underlying24 (i := Try.t24) (by kernel_rfl) rfl rfl rfl (by kernel_rfl) (fun _ => Try.eqGuardType24) (by kernel_rfl)
theorem teOS_25 : TEOk Try.prog 25 ⟨.int .u64, 1, 8, [.i .u64 (0 : Int)], false⟩ :=
  TEOk.of Try.underlying25 (i := Try.t25) (by kernel_rfl) rfl rfl rfl (by kernel_rfl) (fun h => by cases h) (by kernel_rfl)
theorem teOS_104 : TEOk Try.prog 104 ⟨.array 4 25, 4, 32, [.ints .u64 (4 : Nat) ([0, 0, 0, 0] : List Int)], true⟩ :=
  TEOk.of Try.underlying104 (i := Try.t104) (by kernel_rfl) rfl rfl rfl (by kernel_rfl) (fun _ => Try.eqGuardType104) (by kernel_rfl)
noncomputable def tabOS : List (Nat × TE) := [(5, ⟨.int .u8, 1, 1, [.i .u8 (0 : Int)], false⟩), (24, ⟨.array 32 5, 32, 32, [.ints .u8 (32 : Nat) ([0, 0, 0, 0, 0, 0, 0, 0, 0, 0, 0, 0, 0, 0, 0, 0, 0, 0, 0, 0, 0, 0, 0, 0, 0, 0, 0, 0, 0, 0, 0, 0] : List Int)], true⟩), (25, ⟨.int .u64, 1, 8, [.i .u64 (0 : Int)], false⟩), (104, ⟨.array 4 25, 4, 32, [.ints .u64 (4 : Nat) ([0, 0, 0, 0] : List Int)], true⟩)]
theorem tabOkOS : TabOk Try.prog (tabOf tabOS) := (tabOf_cons teOS_5 (tabOf_cons teOS_24 (tabOf_cons teOS_25 (tabOf_cons teOS_104 tabOf_nil))))

theorem powA_pure (S : List Int) (E : List Int) (h0 : (Wds S)) (h1 : (Wds E)) : PureC Try.prog 100 [.g [.ints .u64 (4 : Nat) S], .g [.ints .u64 (4 : Nat) E]] [.g [.ints .u64 (4 : Nat) (powA S E)]] :=
  PureC.of_body tabOkOQ Try.func100 rfl rfl fun w => powA_body S E h0 h1 w

def gam39 : Gam := gpure 100 (fun args => match args with | [.o (.g [.ints .u64 (4 : Nat) S]), .o (.g [.ints .u64 (4 : Nat) E])] => some (some ((Wds S) ∧ (Wds E)), [.g [.ints .u64 (4 : Nat) (powA S E)]]) | _ => none) gam38
theorem gam39_ok : GamOk Try.prog gam39 := gpure_ok gam38_ok Try.call100 (by
  intro args vc xs h hv
  split at h
  · simp only [Option.some.injEq, Prod.mk.injEq] at h; obtain ⟨rfl, rfl⟩ := h; exact ⟨_, by rfl, powA_pure _ _ hv.1 hv.2⟩
  · simp at h)

set_option maxHeartbeats 1000000 in
theorem invA_body0 (a : List Int) (h0 : (Byt a)) (hv0 : List.length a = (32 : Nat)) (hc : W4 (modL (BV a)) = [0, 0, 0, 0]) (w : World) : Body Try.prog (tabOf tabOS) Try.f40 ⟨w, [], 0, noEnv⟩ (toA [.g [.ints .u8 (32 : Nat) a]]) [] (fun ys _ => ys = [.g [.ints .u8 (32 : Nat) ([0, 0, 0, 0, 0, 0, 0, 0, 0, 0, 0, 0, 0, 0, 0, 0, 0, 0, 0, 0, 0, 0, 0, 0, 0, 0, 0, 0, 0, 0, 0, 0] : List Int)], .a (.i .i64 (9 : Int))]) :=
  Body.of_fin (Γ := gam39) (Λ := noLam) (Ψ := noPsi) (fuel := 0) (m := 23) (c := (Try.f40.body.getD .skip)) mix tabOkOS gam39_ok rfl (rs := [.cell 2 24, .tmp 3]) rfl rfl [true] []
    (vc := [((decide ((W4 (modL (BV a))) = ([0, 0, 0, 0] : List Int))) = true), (Byt a)]) (by kernel_rfl)
    (AllP_cons (decide_eq_true hc) (AllP_cons (by assumption) (AllP_nil)))

def invB (a : List Int) : List Int :=
  (B32 (V4 (powA (W4 (modL (BV a))) (W4 (difR (V4 ([6346243789798364141, 1503914060200516822, 0, 1152921504606846976] : List Int)) (V4 ([2, 0, 0, 0] : List Int)))))))

set_option maxHeartbeats 1000000 in
theorem invB_body0 (a : List Int) (h0 : (Byt a)) (hv0 : List.length a = (32 : Nat)) (hc : W4 (modL (BV a)) ≠ [0, 0, 0, 0]) (w : World) : Body Try.prog (tabOf tabOS) Try.f40 ⟨w, [], 0, noEnv⟩ (toA [.g [.ints .u8 (32 : Nat) a]]) [] (fun ys _ => ys = [.g [.ints .u8 (32 : Nat) (invB a)], .a (.i .i64 (0 : Int))]) :=
  Body.of_fin (Γ := gam39) (Λ := noLam) (Ψ := noPsi) (fuel := 0) (m := 23) (c := (Try.f40.body.getD .skip)) mix tabOkOS gam39_ok rfl (rs := [.cell 2 24, .tmp 3]) rfl rfl [false] []
    (vc := [(Wds (powA (W4 (modL (BV a))) (W4 (difR (V4 ([6346243789798364141, 1503914060200516822, 0, 1152921504606846976] : List Int)) (V4 ([2, 0, 0, 0] : List Int)))))), ((Wds (W4 (modL (BV a)))) ∧ (Wds (W4 (difR (V4 ([6346243789798364141, 1503914060200516822, 0, 1152921504606846976] : List Int)) (V4 ([2, 0, 0, 0] : List Int)))))), ((Wds ([6346243789798364141, 1503914060200516822, 0, 1152921504606846976] : List Int)) ∧ (Wds ([2, 0, 0, 0] : List Int))), ((decide ((W4 (modL (BV a))) = ([0, 0, 0, 0] : List Int))) = false), (Byt a)]) (by kernel_rfl)
    (AllP_cons (wds_pow _ _) (AllP_cons ⟨(wds_W4 _), (wds_W4 _)⟩ (AllP_cons ⟨(wds_four (by omega) (by omega) (by omega) (by omega)), (wds_four (by omega) (by omega) (by omega) (by omega))⟩ (AllP_cons (decide_eq_false hc) (AllP_cons (by assumption) (AllP_nil))))))

end Go.Proofs.Ytcpoldghkiiggaa.X
