/- Printed by a tool of this session. -/
import Derived.Test.YtcpoldghkiiggaaNS
import Derived.KernelRfl
namespace Go.Proofs.Ytcpoldghkiiggaa.X
open Go Go.Proofs
set_option linter.unusedVariables false
set_option maxRecDepth 100000
theorem teNT_24 : TEOk Try.prog 24 ⟨.array 32 5, 32, 32, [.ints .u8 (32 : Nat) ([0, 0, 0, 0, 0, 0, 0, 0, 0, 0, 0, 0, 0, 0, 0, 0, 0, 0, 0, 0, 0, 0, 0, 0, 0, 0, 0, 0, 0, 0, 0, 0] : List Int)], true⟩ :=
  TEOk.of Try.underlying24 (i := Try.t24) (by kernel_rfl) rfl rfl rfl (by kernel_rfl) (fun _ => Try.eqGuardType24) (by kernel_rfl)
theorem teNT_25 : TEOk Try.prog 25 ⟨.int .u64, 1, 8, [.i .u64 (0 : Int)], false⟩ :=
  TEOk.of Try.underlying25 (i := Try.t25) (by kernel_rfl) rfl rfl rfl (by kernel_rfl) (fun h => by cases h) (by kernel_rfl)
theorem teNT_104 : TEOk Try.prog 104 ⟨.array 4 25, 4, 32, [.ints .u64 (4 : Nat) ([0, 0, 0, 0] : List Int)], true⟩ :=
  TEOk.of Try.underlying104 (i := Try.t104) (by kernel_rfl) rfl rfl rfl (by kernel_rfl) (fun _ => Try.eqGuardType104) (by kernel_rfl)
noncomputable def tabNT : List (Nat × TE) := [(24, ⟨.array 32 5, 32, 32, [.ints .u8 (32 : Nat) ([0, 0, 0, 0, 0, 0, 0, 0, 0, 0, 0, 0, 0, 0, 0, 0, 0, 0, 0, 0, 0, 0, 0, 0, 0, 0, 0, 0, 0, 0, 0, 0] : List Int)], true⟩), (25, ⟨.int .u64, 1, 8, [.i .u64 (0 : Int)], false⟩), (104, ⟨.array 4 25, 4, 32, [.ints .u64 (4 : Nat) ([0, 0, 0, 0] : List Int)], true⟩)]
theorem tabOkNT : TabOk Try.prog (tabOf tabNT) := (tabOf_cons teNT_24 (tabOf_cons teNT_25 (tabOf_cons teNT_104 tabOf_nil)))

theorem montA_pure (S : List Int) (T : List Int) (h0 : (Wds S)) (h1 : (Wds T)) (h2 : (LtL T)) : PureC Try.prog 103 [.g [.ints .u64 (4 : Nat) S], .g [.ints .u64 (4 : Nat) T]] [.g [.ints .u64 (4 : Nat) (W4 (montV (V4 S) (V4 T)))]] :=
  PureC.of_body tabOkNT Try.func103 rfl rfl fun w => mont_can S T h0 h1 h2 w

def gam11 : Gam := gpure 103 (fun args => match args with | [.o (.g [.ints .u64 (4 : Nat) S]), .o (.g [.ints .u64 (4 : Nat) T])] => some (some ((Wds S) ∧ (Wds T) ∧ (LtL T)), [.g [.ints .u64 (4 : Nat) (W4 (montV (V4 S) (V4 T)))]]) | _ => none) gam10
theorem gam11_ok : GamOk Try.prog gam11 := gpure_ok gam10_ok Try.call103 (by
  intro args vc xs h hv
  split at h
  · simp only [Option.some.injEq, Prod.mk.injEq] at h; obtain ⟨rfl, rfl⟩ := h; exact ⟨_, by rfl, montA_pure _ _ hv.1 hv.2.1 hv.2.2⟩
  · simp at h)

theorem valA_pure (s : List Int) (h0 : (Byt s)) : PureC Try.prog 75 [.g [.ints .u8 (32 : Nat) s]] [.g [.ints .u64 (4 : Nat) (W4 (modL (BV s)))]] :=
  PureC.of_body tabOkNT Try.func75 rfl rfl fun w => val_can s h0 w

def gam12 : Gam := gpure 75 (fun args => match args with | [.o (.g [.ints .u8 (32 : Nat) s])] => some (some ((Byt s)), [.g [.ints .u64 (4 : Nat) (W4 (modL (BV s)))]]) | _ => none) gam11
theorem gam12_ok : GamOk Try.prog gam12 := gpure_ok gam11_ok Try.call75 (by
  intro args vc xs h hv
  split at h
  · simp only [Option.some.injEq, Prod.mk.injEq] at h; obtain ⟨rfl, rfl⟩ := h; exact ⟨_, by rfl, valA_pure _ hv⟩
  · simp at h)

def times (S : List Int) (T : List Int) : List Int :=
  (W4 (montV (V4 (W4 (montV (V4 S) (V4 T)))) (V4 ([11819153939886771969, 14991950615390032711, 14910419812499177061, 259310039853996605] : List Int))))

set_option maxHeartbeats 1000000 in
theorem times_body0 (S : List Int) (T : List Int) (h0 : (Wds S)) (h1 : (Wds T)) (h2 : (LtL T)) (hv0 : List.length S = (4 : Nat)) (hv1 : List.length T = (4 : Nat)) (w : World) : Body Try.prog (tabOf tabNT) Try.f73 ⟨w, [], 0, noEnv⟩ (toA [.g [.ints .u64 (4 : Nat) S], .g [.ints .u64 (4 : Nat) T]]) [] (fun ys _ => ys = [.g [.ints .u64 (4 : Nat) (times S T)]]) :=
  Body.of_fin (Γ := gam12) (Λ := noLam) (Ψ := noPsi) (fuel := 0) (m := 10) (c := (Try.f73.body.getD .skip)) mix tabOkNT gam12_ok rfl (rs := [.cell 4 104]) rfl rfl [] []
    (vc := [((Wds (W4 (montV (V4 S) (V4 T)))) ∧ (Wds ([11819153939886771969, 14991950615390032711, 14910419812499177061, 259310039853996605] : List Int)) ∧ (LtL ([11819153939886771969, 14991950615390032711, 14910419812499177061, 259310039853996605] : List Int))), ((Wds S) ∧ (Wds T) ∧ (LtL T))]) (by kernel_rfl)
    (AllP_cons ⟨(by first | assumption | exact wds_W4 _ | exact wds_radx), (by first | assumption | exact wds_W4 _ | exact wds_radx), (by first | assumption | exact ltl_radx)⟩ (AllP_cons ⟨(by first | assumption | exact wds_W4 _ | exact wds_radx), (by first | assumption | exact wds_W4 _ | exact wds_radx), (by first | assumption | exact ltl_radx)⟩ (AllP_nil)))

theorem times_body (S : List Int) (T : List Int) (h0 : (Wds S)) (h1 : (Wds T)) (h2 : (LtL T)) (w : World) : Body Try.prog (tabOf tabNT) Try.f73 ⟨w, [], 0, noEnv⟩ (toA [.g [.ints .u64 (4 : Nat) S], .g [.ints .u64 (4 : Nat) T]]) [] (fun ys _ => ys = [.g [.ints .u64 (4 : Nat) (times S T)]]) :=
  Body.lens (c := (Try.f73.body.getD .skip)) rfl fun h => times_body0 S T h0 h1 h2 (h.vals 0 _ _ _ rfl) (h.vals 1 _ _ _ rfl) w

theorem times_pure (S : List Int) (T : List Int) (h0 : (Wds S)) (h1 : (Wds T)) (h2 : (LtL T)) : PureC Try.prog 73 [.g [.ints .u64 (4 : Nat) S], .g [.ints .u64 (4 : Nat) T]] [.g [.ints .u64 (4 : Nat) (times S T)]] :=
  PureC.of_body tabOkNT Try.func73 rfl rfl fun w => times_body S T h0 h1 h2 w

def gam13 : Gam := gpure 73 (fun args => match args with | [.o (.g [.ints .u64 (4 : Nat) S]), .o (.g [.ints .u64 (4 : Nat) T])] => some (some ((Wds S) ∧ (Wds T) ∧ (LtL T)), [.g [.ints .u64 (4 : Nat) (times S T)]]) | _ => none) gam12
theorem gam13_ok : GamOk Try.prog gam13 := gpure_ok gam12_ok Try.call73 (by
  intro args vc xs h hv
  split at h
  · simp only [Option.some.injEq, Prod.mk.injEq] at h; obtain ⟨rfl, rfl⟩ := h; exact ⟨_, by rfl, times_pure _ _ hv.1 hv.2.1 hv.2.2⟩
  · simp at h)

def addP (a : List Int) (b : List Int) : List Int :=
  (B32 (V4 (W4 (low (addR (V4 (W4 (modL (BV a)))) (V4 (W4 (modL (BV b)))))))))

set_option maxHeartbeats 1000000 in
theorem addP_body0 (a : List Int) (b : List Int) (h0 : (Byt a)) (h1 : (Byt b)) (hv0 : List.length a = (32 : Nat)) (hv1 : List.length b = (32 : Nat)) (w : World) : Body Try.prog (tabOf tabNT) Try.f26 ⟨w, [], 0, noEnv⟩ (toA [.g [.ints .u8 (32 : Nat) a], .g [.ints .u8 (32 : Nat) b]]) [] (fun ys _ => ys = [.g [.ints .u8 (32 : Nat) (addP a b)]]) :=
  Body.of_fin (Γ := gam13) (Λ := noLam) (Ψ := noPsi) (fuel := 0) (m := 11) (c := (Try.f26.body.getD .skip)) mix tabOkNT gam13_ok rfl (rs := [.cell 4 24]) rfl rfl [] []
    (vc := [(Wds (W4 (low (addR (V4 (W4 (modL (BV a)))) (V4 (W4 (modL (BV b)))))))), ((Wds (W4 (modL (BV a)))) ∧ (Wds (W4 (modL (BV b))))), (Byt b), (Byt a)]) (by kernel_rfl)
    (AllP_cons (by first | assumption | exact wds_W4 _ | exact wds_ord | exact byt_B32 _ | exact wds_radx | exact wds_one) (AllP_cons ⟨(by first | assumption | exact wds_W4 _ | exact wds_ord | exact byt_B32 _ | exact wds_radx | exact wds_one), (by first | assumption | exact wds_W4 _ | exact wds_ord | exact byt_B32 _ | exact wds_radx | exact wds_one)⟩ (AllP_cons (by first | assumption | exact wds_W4 _ | exact wds_ord | exact byt_B32 _ | exact wds_radx | exact wds_one) (AllP_cons (by first | assumption | exact wds_W4 _ | exact wds_ord | exact byt_B32 _ | exact wds_radx | exact wds_one) (AllP_nil)))))

theorem addP_body (a : List Int) (b : List Int) (h0 : (Byt a)) (h1 : (Byt b)) (w : World) : Body Try.prog (tabOf tabNT) Try.f26 ⟨w, [], 0, noEnv⟩ (toA [.g [.ints .u8 (32 : Nat) a], .g [.ints .u8 (32 : Nat) b]]) [] (fun ys _ => ys = [.g [.ints .u8 (32 : Nat) (addP a b)]]) :=
  Body.lens (c := (Try.f26.body.getD .skip)) rfl fun h => addP_body0 a b h0 h1 (h.vals 0 _ _ _ rfl) (h.vals 1 _ _ _ rfl) w

theorem addP_pure (a : List Int) (b : List Int) (h0 : (Byt a)) (h1 : (Byt b)) : PureC Try.prog 26 [.g [.ints .u8 (32 : Nat) a], .g [.ints .u8 (32 : Nat) b]] [.g [.ints .u8 (32 : Nat) (addP a b)]] :=
  PureC.of_body tabOkNT Try.func26 rfl rfl fun w => addP_body a b h0 h1 w

def gam14 : Gam := gpure 26 (fun args => match args with | [.o (.g [.ints .u8 (32 : Nat) a]), .o (.g [.ints .u8 (32 : Nat) b])] => some (some ((Byt a) ∧ (Byt b)), [.g [.ints .u8 (32 : Nat) (addP a b)]]) | _ => none) gam13
theorem gam14_ok : GamOk Try.prog gam14 := gpure_ok gam13_ok Try.call26 (by
  intro args vc xs h hv
  split at h
  · simp only [Option.some.injEq, Prod.mk.injEq] at h; obtain ⟨rfl, rfl⟩ := h; exact ⟨_, by rfl, addP_pure _ _ hv.1 hv.2⟩
  · simp at h)

def subP (a : List Int) (b : List Int) : List Int :=
  (B32 (V4 (W4 (low (addR (V4 (W4 (modL (BV a)))) (V4 (W4 (negL (V4 (W4 (modL (BV b))))))))))))

set_option maxHeartbeats 1000000 in
theorem subP_body0 (a : List Int) (b : List Int) (h0 : (Byt a)) (h1 : (Byt b)) (hv0 : List.length a = (32 : Nat)) (hv1 : List.length b = (32 : Nat)) (w : World) : Body Try.prog (tabOf tabNT) Try.f28 ⟨w, [], 0, noEnv⟩ (toA [.g [.ints .u8 (32 : Nat) a], .g [.ints .u8 (32 : Nat) b]]) [] (fun ys _ => ys = [.g [.ints .u8 (32 : Nat) (subP a b)]]) :=
  Body.of_fin (Γ := gam14) (Λ := noLam) (Ψ := noPsi) (fuel := 0) (m := 12) (c := (Try.f28.body.getD .skip)) mix tabOkNT gam14_ok rfl (rs := [.cell 4 24]) rfl rfl [] []
    (vc := [(Wds (W4 (low (addR (V4 (W4 (modL (BV a)))) (V4 (W4 (negL (V4 (W4 (modL (BV b))))))))))), ((Wds (W4 (modL (BV a)))) ∧ (Wds (W4 (negL (V4 (W4 (modL (BV b)))))))), (Wds (W4 (modL (BV b)))), (Byt b), (Byt a)]) (by kernel_rfl)
    (AllP_cons (by first | assumption | exact wds_W4 _ | exact wds_ord | exact byt_B32 _ | exact wds_radx | exact wds_one) (AllP_cons ⟨(by first | assumption | exact wds_W4 _ | exact wds_ord | exact byt_B32 _ | exact wds_radx | exact wds_one), (by first | assumption | exact wds_W4 _ | exact wds_ord | exact byt_B32 _ | exact wds_radx | exact wds_one)⟩ (AllP_cons (by first | assumption | exact wds_W4 _ | exact wds_ord | exact byt_B32 _ | exact wds_radx | exact wds_one) (AllP_cons (by first | assumption | exact wds_W4 _ | exact wds_ord | exact byt_B32 _ | exact wds_radx | exact wds_one) (AllP_cons (by first | assumption | exact wds_W4 _ | exact wds_ord | exact byt_B32 _ | exact wds_radx | exact wds_one) (AllP_nil))))))

theorem subP_body (a : List Int) (b : List Int) (h0 : (Byt a)) (h1 : (Byt b)) (w : World) : Body Try.prog (tabOf tabNT) Try.f28 ⟨w, [], 0, noEnv⟩ (toA [.g [.ints .u8 (32 : Nat) a], .g [.ints .u8 (32 : Nat) b]]) [] (fun ys _ => ys = [.g [.ints .u8 (32 : Nat) (subP a b)]]) :=
  Body.lens (c := (Try.f28.body.getD .skip)) rfl fun h => subP_body0 a b h0 h1 (h.vals 0 _ _ _ rfl) (h.vals 1 _ _ _ rfl) w

theorem subP_pure (a : List Int) (b : List Int) (h0 : (Byt a)) (h1 : (Byt b)) : PureC Try.prog 28 [.g [.ints .u8 (32 : Nat) a], .g [.ints .u8 (32 : Nat) b]] [.g [.ints .u8 (32 : Nat) (subP a b)]] :=
  PureC.of_body tabOkNT Try.func28 rfl rfl fun w => subP_body a b h0 h1 w

def gam15 : Gam := gpure 28 (fun args => match args with | [.o (.g [.ints .u8 (32 : Nat) a]), .o (.g [.ints .u8 (32 : Nat) b])] => some (some ((Byt a) ∧ (Byt b)), [.g [.ints .u8 (32 : Nat) (subP a b)]]) | _ => none) gam14
theorem gam15_ok : GamOk Try.prog gam15 := gpure_ok gam14_ok Try.call28 (by
  intro args vc xs h hv
  split at h
  · simp only [Option.some.injEq, Prod.mk.injEq] at h; obtain ⟨rfl, rfl⟩ := h; exact ⟨_, by rfl, subP_pure _ _ hv.1 hv.2⟩
  · simp at h)

def negP (a : List Int) : List Int :=
  (B32 (V4 (W4 (negL (V4 (W4 (modL (BV a))))))))

set_option maxHeartbeats 1000000 in
theorem negP_body0 (a : List Int) (h0 : (Byt a)) (hv0 : List.length a = (32 : Nat)) (w : World) : Body Try.prog (tabOf tabNT) Try.f30 ⟨w, [], 0, noEnv⟩ (toA [.g [.ints .u8 (32 : Nat) a]]) [] (fun ys _ => ys = [.g [.ints .u8 (32 : Nat) (negP a)]]) :=
  Body.of_fin (Γ := gam15) (Λ := noLam) (Ψ := noPsi) (fuel := 0) (m := 7) (c := (Try.f30.body.getD .skip)) mix tabOkNT gam15_ok rfl (rs := [.cell 2 24]) rfl rfl [] []
    (vc := [(Wds (W4 (negL (V4 (W4 (modL (BV a))))))), (Wds (W4 (modL (BV a)))), (Byt a)]) (by kernel_rfl)
    (AllP_cons (by first | assumption | exact wds_W4 _ | exact wds_ord | exact byt_B32 _ | exact wds_radx | exact wds_one) (AllP_cons (by first | assumption | exact wds_W4 _ | exact wds_ord | exact byt_B32 _ | exact wds_radx | exact wds_one) (AllP_cons (by first | assumption | exact wds_W4 _ | exact wds_ord | exact byt_B32 _ | exact wds_radx | exact wds_one) (AllP_nil))))

theorem negP_body (a : List Int) (h0 : (Byt a)) (w : World) : Body Try.prog (tabOf tabNT) Try.f30 ⟨w, [], 0, noEnv⟩ (toA [.g [.ints .u8 (32 : Nat) a]]) [] (fun ys _ => ys = [.g [.ints .u8 (32 : Nat) (negP a)]]) :=
  Body.lens (c := (Try.f30.body.getD .skip)) rfl fun h => negP_body0 a h0 (h.vals 0 _ _ _ rfl) w

theorem negP_pure (a : List Int) (h0 : (Byt a)) : PureC Try.prog 30 [.g [.ints .u8 (32 : Nat) a]] [.g [.ints .u8 (32 : Nat) (negP a)]] :=
  PureC.of_body tabOkNT Try.func30 rfl rfl fun w => negP_body a h0 w

def gam16 : Gam := gpure 30 (fun args => match args with | [.o (.g [.ints .u8 (32 : Nat) a])] => some (some ((Byt a)), [.g [.ints .u8 (32 : Nat) (negP a)]]) | _ => none) gam15
theorem gam16_ok : GamOk Try.prog gam16 := gpure_ok gam15_ok Try.call30 (by
  intro args vc xs h hv
  split at h
  · simp only [Option.some.injEq, Prod.mk.injEq] at h; obtain ⟨rfl, rfl⟩ := h; exact ⟨_, by rfl, negP_pure _ hv⟩
  · simp at h)

def mulP (a : List Int) (b : List Int) : List Int :=
  (B32 (V4 (times (W4 (modL (BV a))) (W4 (modL (BV b))))))

set_option maxHeartbeats 1000000 in
theorem mulP_body0 (a : List Int) (b : List Int) (h0 : (Byt a)) (h1 : (Byt b)) (hv0 : List.length a = (32 : Nat)) (hv1 : List.length b = (32 : Nat)) (w : World) : Body Try.prog (tabOf tabNT) Try.f32 ⟨w, [], 0, noEnv⟩ (toA [.g [.ints .u8 (32 : Nat) a], .g [.ints .u8 (32 : Nat) b]]) [] (fun ys _ => ys = [.g [.ints .u8 (32 : Nat) (mulP a b)]]) :=
  Body.of_fin (Γ := gam16) (Λ := noLam) (Ψ := noPsi) (fuel := 0) (m := 11) (c := (Try.f32.body.getD .skip)) mix tabOkNT gam16_ok rfl (rs := [.cell 4 24]) rfl rfl [] []
    (vc := [(Wds (times (W4 (modL (BV a))) (W4 (modL (BV b))))), ((Wds (W4 (modL (BV a)))) ∧ (Wds (W4 (modL (BV b)))) ∧ (LtL (W4 (modL (BV b))))), (Byt b), (Byt a)]) (by kernel_rfl)
    (AllP_cons (by first | assumption | exact wds_W4 _ | exact wds_ord | exact byt_B32 _ | exact wds_radx | exact wds_one) (AllP_cons ⟨(by first | assumption | exact wds_W4 _ | exact wds_ord | exact byt_B32 _ | exact wds_radx | exact wds_one), (by first | assumption | exact wds_W4 _ | exact wds_ord | exact byt_B32 _ | exact wds_radx | exact wds_one), (by first | exact ltl_mod _ | exact ltl_radx | exact ltl_mont _ _ | exact ltl_one)⟩ (AllP_cons (by first | assumption | exact wds_W4 _ | exact wds_ord | exact byt_B32 _ | exact wds_radx | exact wds_one) (AllP_cons (by first | assumption | exact wds_W4 _ | exact wds_ord | exact byt_B32 _ | exact wds_radx | exact wds_one) (AllP_nil)))))

theorem mulP_body (a : List Int) (b : List Int) (h0 : (Byt a)) (h1 : (Byt b)) (w : World) : Body Try.prog (tabOf tabNT) Try.f32 ⟨w, [], 0, noEnv⟩ (toA [.g [.ints .u8 (32 : Nat) a], .g [.ints .u8 (32 : Nat) b]]) [] (fun ys _ => ys = [.g [.ints .u8 (32 : Nat) (mulP a b)]]) :=
  Body.lens (c := (Try.f32.body.getD .skip)) rfl fun h => mulP_body0 a b h0 h1 (h.vals 0 _ _ _ rfl) (h.vals 1 _ _ _ rfl) w

theorem mulP_pure (a : List Int) (b : List Int) (h0 : (Byt a)) (h1 : (Byt b)) : PureC Try.prog 32 [.g [.ints .u8 (32 : Nat) a], .g [.ints .u8 (32 : Nat) b]] [.g [.ints .u8 (32 : Nat) (mulP a b)]] :=
  PureC.of_body tabOkNT Try.func32 rfl rfl fun w => mulP_body a b h0 h1 w

def gam17 : Gam := gpure 32 (fun args => match args with | [.o (.g [.ints .u8 (32 : Nat) a]), .o (.g [.ints .u8 (32 : Nat) b])] => some (some ((Byt a) ∧ (Byt b)), [.g [.ints .u8 (32 : Nat) (mulP a b)]]) | _ => none) gam16
theorem gam17_ok : GamOk Try.prog gam17 := gpure_ok gam16_ok Try.call32 (by
  intro args vc xs h hv
  split at h
  · simp only [Option.some.injEq, Prod.mk.injEq] at h; obtain ⟨rfl, rfl⟩ := h; exact ⟨_, by rfl, mulP_pure _ _ hv.1 hv.2⟩
  · simp at h)

def maddP (a : List Int) (b : List Int) (c : List Int) : List Int :=
  (B32 (V4 (W4 (low (addR (V4 (times (W4 (modL (BV a))) (W4 (modL (BV b))))) (V4 (W4 (modL (BV c)))))))))

set_option maxHeartbeats 1000000 in
theorem maddP_body0 (a : List Int) (b : List Int) (c : List Int) (h0 : (Byt a)) (h1 : (Byt b)) (h2 : (Byt c)) (hv0 : List.length a = (32 : Nat)) (hv1 : List.length b = (32 : Nat)) (hv2 : List.length c = (32 : Nat)) (w : World) : Body Try.prog (tabOf tabNT) Try.f34 ⟨w, [], 0, noEnv⟩ (toA [.g [.ints .u8 (32 : Nat) a], .g [.ints .u8 (32 : Nat) b], .g [.ints .u8 (32 : Nat) c]]) [] (fun ys _ => ys = [.g [.ints .u8 (32 : Nat) (maddP a b c)]]) :=
  Body.of_fin (Γ := gam17) (Λ := noLam) (Ψ := noPsi) (fuel := 0) (m := 16) (c := (Try.f34.body.getD .skip)) mix tabOkNT gam17_ok rfl (rs := [.cell 6 24]) rfl rfl [] []
    (vc := [(Wds (W4 (low (addR (V4 (times (W4 (modL (BV a))) (W4 (modL (BV b))))) (V4 (W4 (modL (BV c)))))))), ((Wds (times (W4 (modL (BV a))) (W4 (modL (BV b))))) ∧ (Wds (W4 (modL (BV c))))), (Byt c), ((Wds (W4 (modL (BV a)))) ∧ (Wds (W4 (modL (BV b)))) ∧ (LtL (W4 (modL (BV b))))), (Byt b), (Byt a)]) (by kernel_rfl)
    (AllP_cons (by first | assumption | exact wds_W4 _ | exact wds_ord | exact byt_B32 _ | exact wds_radx | exact wds_one) (AllP_cons ⟨(by first | assumption | exact wds_W4 _ | exact wds_ord | exact byt_B32 _ | exact wds_radx | exact wds_one), (by first | assumption | exact wds_W4 _ | exact wds_ord | exact byt_B32 _ | exact wds_radx | exact wds_one)⟩ (AllP_cons (by first | assumption | exact wds_W4 _ | exact wds_ord | exact byt_B32 _ | exact wds_radx | exact wds_one) (AllP_cons ⟨(by first | assumption | exact wds_W4 _ | exact wds_ord | exact byt_B32 _ | exact wds_radx | exact wds_one), (by first | assumption | exact wds_W4 _ | exact wds_ord | exact byt_B32 _ | exact wds_radx | exact wds_one), (by first | exact ltl_mod _ | exact ltl_radx | exact ltl_mont _ _ | exact ltl_one)⟩ (AllP_cons (by first | assumption | exact wds_W4 _ | exact wds_ord | exact byt_B32 _ | exact wds_radx | exact wds_one) (AllP_cons (by first | assumption | exact wds_W4 _ | exact wds_ord | exact byt_B32 _ | exact wds_radx | exact wds_one) (AllP_nil)))))))

theorem maddP_body (a : List Int) (b : List Int) (c : List Int) (h0 : (Byt a)) (h1 : (Byt b)) (h2 : (Byt c)) (w : World) : Body Try.prog (tabOf tabNT) Try.f34 ⟨w, [], 0, noEnv⟩ (toA [.g [.ints .u8 (32 : Nat) a], .g [.ints .u8 (32 : Nat) b], .g [.ints .u8 (32 : Nat) c]]) [] (fun ys _ => ys = [.g [.ints .u8 (32 : Nat) (maddP a b c)]]) :=
  Body.lens (c := (Try.f34.body.getD .skip)) rfl fun h => maddP_body0 a b c h0 h1 h2 (h.vals 0 _ _ _ rfl) (h.vals 1 _ _ _ rfl) (h.vals 2 _ _ _ rfl) w

theorem maddP_pure (a : List Int) (b : List Int) (c : List Int) (h0 : (Byt a)) (h1 : (Byt b)) (h2 : (Byt c)) : PureC Try.prog 34 [.g [.ints .u8 (32 : Nat) a], .g [.ints .u8 (32 : Nat) b], .g [.ints .u8 (32 : Nat) c]] [.g [.ints .u8 (32 : Nat) (maddP a b c)]] :=
  PureC.of_body tabOkNT Try.func34 rfl rfl fun w => maddP_body a b c h0 h1 h2 w

def gam18 : Gam := gpure 34 (fun args => match args with | [.o (.g [.ints .u8 (32 : Nat) a]), .o (.g [.ints .u8 (32 : Nat) b]), .o (.g [.ints .u8 (32 : Nat) c])] => some (some ((Byt a) ∧ (Byt b) ∧ (Byt c)), [.g [.ints .u8 (32 : Nat) (maddP a b c)]]) | _ => none) gam17
theorem gam18_ok : GamOk Try.prog gam18 := gpure_ok gam17_ok Try.call34 (by
  intro args vc xs h hv
  split at h
  · simp only [Option.some.injEq, Prod.mk.injEq] at h; obtain ⟨rfl, rfl⟩ := h; exact ⟨_, by rfl, maddP_pure _ _ _ hv.1 hv.2.1 hv.2.2⟩
  · simp at h)

def iszP (a : List Int) : Bool :=
  (decide ((W4 (modL (BV a))) = ([0, 0, 0, 0] : List Int)))

set_option maxHeartbeats 1000000 in
theorem iszP_body0 (a : List Int) (h0 : (Byt a)) (hv0 : List.length a = (32 : Nat)) (w : World) : Body Try.prog (tabOf tabNT) Try.f36 ⟨w, [], 0, noEnv⟩ (toA [.g [.ints .u8 (32 : Nat) a]]) [] (fun ys _ => ys = [.a (.b (iszP a))]) :=
  Body.of_fin (Γ := gam18) (Λ := noLam) (Ψ := noPsi) (fuel := 0) (m := 7) (c := (Try.f36.body.getD .skip)) mix tabOkNT gam18_ok rfl (rs := [.tmp 2]) rfl rfl [] []
    (vc := [(Byt a)]) (by kernel_rfl)
    (AllP_cons (by first | assumption | exact wds_W4 _ | exact wds_ord | exact byt_B32 _ | exact wds_radx | exact wds_one) (AllP_nil))

theorem iszP_body (a : List Int) (h0 : (Byt a)) (w : World) : Body Try.prog (tabOf tabNT) Try.f36 ⟨w, [], 0, noEnv⟩ (toA [.g [.ints .u8 (32 : Nat) a]]) [] (fun ys _ => ys = [.a (.b (iszP a))]) :=
  Body.lens (c := (Try.f36.body.getD .skip)) rfl fun h => iszP_body0 a h0 (h.vals 0 _ _ _ rfl) w

theorem iszP_pure (a : List Int) (h0 : (Byt a)) : PureC Try.prog 36 [.g [.ints .u8 (32 : Nat) a]] [.a (.b (iszP a))] :=
  PureC.of_body tabOkNT Try.func36 rfl rfl fun w => iszP_body a h0 w

def gam19 : Gam := gpure 36 (fun args => match args with | [.o (.g [.ints .u8 (32 : Nat) a])] => some (some ((Byt a)), [.a (.b (iszP a))]) | _ => none) gam18
theorem gam19_ok : GamOk Try.prog gam19 := gpure_ok gam18_ok Try.call36 (by
  intro args vc xs h hv
  split at h
  · simp only [Option.some.injEq, Prod.mk.injEq] at h; obtain ⟨rfl, rfl⟩ := h; exact ⟨_, by rfl, iszP_pure _ hv⟩
  · simp at h)

def fromP (n : Int) : List Int :=
  (B32 (V4 ([n, 0, 0, 0] : List Int)))

set_option maxHeartbeats 1000000 in
theorem fromP_body0 (n : Int) (h0 : ((0 : Int) ≤ n)) (h1 : (n < (18446744073709551616 : Int))) (w : World) : Body Try.prog (tabOf tabNT) Try.f22 ⟨w, [], 0, noEnv⟩ (toA [.a (.i .u64 n)]) [] (fun ys _ => ys = [.g [.ints .u8 (32 : Nat) (fromP n)]]) :=
  Body.of_fin (Γ := gam19) (Λ := noLam) (Ψ := noPsi) (fuel := 0) (m := 6) (c := (Try.f22.body.getD .skip)) mix tabOkNT gam19_ok rfl (rs := [.cell 2 24]) rfl rfl [] []
    (vc := [(Wds ([n, 0, 0, 0] : List Int))]) (by kernel_rfl)
    (AllP_cons (wds_one1 h0 h1) (AllP_nil))

theorem fromP_body (n : Int) (h0 : ((0 : Int) ≤ n)) (h1 : (n < (18446744073709551616 : Int))) (w : World) : Body Try.prog (tabOf tabNT) Try.f22 ⟨w, [], 0, noEnv⟩ (toA [.a (.i .u64 n)]) [] (fun ys _ => ys = [.g [.ints .u8 (32 : Nat) (fromP n)]]) :=
  Body.lens (c := (Try.f22.body.getD .skip)) rfl fun h => fromP_body0 n h0 h1  w

theorem fromP_pure (n : Int) (h0 : ((0 : Int) ≤ n)) (h1 : (n < (18446744073709551616 : Int))) : PureC Try.prog 22 [.a (.i .u64 n)] [.g [.ints .u8 (32 : Nat) (fromP n)]] :=
  PureC.of_body tabOkNT Try.func22 rfl rfl fun w => fromP_body n h0 h1 w

def gam20 : Gam := gpure 22 (fun args => match args with | [.o (.a (.i .u64 n))] => some (some (((0 : Int) ≤ n) ∧ (n < (18446744073709551616 : Int))), [.g [.ints .u8 (32 : Nat) (fromP n)]]) | _ => none) gam19
theorem gam20_ok : GamOk Try.prog gam20 := gpure_ok gam19_ok Try.call22 (by
  intro args vc xs h hv
  split at h
  · simp only [Option.some.injEq, Prod.mk.injEq] at h; obtain ⟨rfl, rfl⟩ := h; exact ⟨_, by rfl, fromP_pure _ hv.1 hv.2⟩
  · simp at h)

def canP (a : List Int) : Bool :=
  ((lessC (V4 (W4 (BV a))) (V4 ([6346243789798364141, 1503914060200516822, 0, 1152921504606846976] : List Int))) == (1 : Int))

set_option maxHeartbeats 1000000 in
theorem canP_body0 (a : List Int) (h0 : (Byt a)) (hv0 : List.length a = (32 : Nat)) (w : World) : Body Try.prog (tabOf tabNT) Try.f20 ⟨w, [], 0, noEnv⟩ (toA [.g [.ints .u8 (32 : Nat) a]]) [] (fun ys _ => ys = [.a (.b (canP a))]) :=
  Body.of_fin (Γ := gam20) (Λ := noLam) (Ψ := noPsi) (fuel := 0) (m := 14) (c := (Try.f20.body.getD .skip)) mix tabOkNT gam20_ok rfl (rs := [.tmp 2]) rfl rfl [] []
    (vc := [((Wds (W4 (BV a))) ∧ (Wds ([6346243789798364141, 1503914060200516822, 0, 1152921504606846976] : List Int))), (Byt a)]) (by kernel_rfl)
    (AllP_cons ⟨(by first | assumption | exact wds_W4 _ | exact wds_ord | exact byt_B32 _ | exact wds_radx | exact wds_one), (by first | assumption | exact wds_W4 _ | exact wds_ord | exact byt_B32 _ | exact wds_radx | exact wds_one)⟩ (AllP_cons (by first | assumption | exact wds_W4 _ | exact wds_ord | exact byt_B32 _ | exact wds_radx | exact wds_one) (AllP_nil)))

theorem canP_body (a : List Int) (h0 : (Byt a)) (w : World) : Body Try.prog (tabOf tabNT) Try.f20 ⟨w, [], 0, noEnv⟩ (toA [.g [.ints .u8 (32 : Nat) a]]) [] (fun ys _ => ys = [.a (.b (canP a))]) :=
  Body.lens (c := (Try.f20.body.getD .skip)) rfl fun h => canP_body0 a h0 (h.vals 0 _ _ _ rfl) w

theorem canP_pure (a : List Int) (h0 : (Byt a)) : PureC Try.prog 20 [.g [.ints .u8 (32 : Nat) a]] [.a (.b (canP a))] :=
  PureC.of_body tabOkNT Try.func20 rfl rfl fun w => canP_body a h0 w

def gam21 : Gam := gpure 20 (fun args => match args with | [.o (.g [.ints .u8 (32 : Nat) a])] => some (some ((Byt a)), [.a (.b (canP a))]) | _ => none) gam20
theorem gam21_ok : GamOk Try.prog gam21 := gpure_ok gam20_ok Try.call20 (by
  intro args vc xs h hv
  split at h
  · simp only [Option.some.injEq, Prod.mk.injEq] at h; obtain ⟨rfl, rfl⟩ := h; exact ⟨_, by rfl, canP_pure _ hv⟩
  · simp at h)

set_option maxHeartbeats 1000000 in
theorem cmpA_body0 (a : List Int) (b : List Int) (h0 : (Byt a)) (h1 : (Byt b)) (hv0 : List.length a = (32 : Nat)) (hv1 : List.length b = (32 : Nat)) (hc : W4 (modL (BV a)) = W4 (modL (BV b))) (w : World) : Body Try.prog (tabOf tabNT) Try.f38 ⟨w, [], 0, noEnv⟩ (toA [.g [.ints .u8 (32 : Nat) a], .g [.ints .u8 (32 : Nat) b]]) [] (fun ys _ => ys = [.a (.i .i64 (0 : Int))]) :=
  Body.of_fin (Γ := gam21) (Λ := noLam) (Ψ := noPsi) (fuel := 0) (m := 24) (c := (Try.f38.body.getD .skip)) mix tabOkNT gam21_ok rfl (rs := [.tmp 4]) rfl rfl [true] []
    (vc := [((decide ((W4 (modL (BV a))) = (W4 (modL (BV b))))) = true), (Byt b), (Byt a)]) (by kernel_rfl)
    (AllP_cons (decide_eq_true hc) (AllP_cons (by first | assumption | exact wds_W4 _ | exact wds_ord | exact byt_B32 _ | exact wds_radx | exact wds_one) (AllP_cons (by first | assumption | exact wds_W4 _ | exact wds_ord | exact byt_B32 _ | exact wds_radx | exact wds_one) (AllP_nil))))

set_option maxHeartbeats 1000000 in
theorem cmpB_body0 (a : List Int) (b : List Int) (h0 : (Byt a)) (h1 : (Byt b)) (hv0 : List.length a = (32 : Nat)) (hv1 : List.length b = (32 : Nat)) (hc : W4 (modL (BV a)) ≠ W4 (modL (BV b))) (hd : lessC (V4 (W4 (modL (BV a)))) (V4 (W4 (modL (BV b)))) = 1) (w : World) : Body Try.prog (tabOf tabNT) Try.f38 ⟨w, [], 0, noEnv⟩ (toA [.g [.ints .u8 (32 : Nat) a], .g [.ints .u8 (32 : Nat) b]]) [] (fun ys _ => ys = [.a (.i .i64 (-1 : Int))]) :=
  Body.of_fin (Γ := gam21) (Λ := noLam) (Ψ := noPsi) (fuel := 0) (m := 24) (c := (Try.f38.body.getD .skip)) mix tabOkNT gam21_ok rfl (rs := [.tmp 4]) rfl rfl [false, true] []
    (vc := [(((lessC (V4 (W4 (modL (BV a)))) (V4 (W4 (modL (BV b))))) == (1 : Int)) = true), ((Wds (W4 (modL (BV a)))) ∧ (Wds (W4 (modL (BV b))))), ((decide ((W4 (modL (BV a))) = (W4 (modL (BV b))))) = false), (Byt b), (Byt a)]) (by kernel_rfl)
    (AllP_cons (beq_iff_eq.2 hd) (AllP_cons ⟨(by first | assumption | exact wds_W4 _ | exact wds_ord | exact byt_B32 _ | exact wds_radx | exact wds_one), (by first | assumption | exact wds_W4 _ | exact wds_ord | exact byt_B32 _ | exact wds_radx | exact wds_one)⟩ (AllP_cons (decide_eq_false hc) (AllP_cons (by first | assumption | exact wds_W4 _ | exact wds_ord | exact byt_B32 _ | exact wds_radx | exact wds_one) (AllP_cons (by first | assumption | exact wds_W4 _ | exact wds_ord | exact byt_B32 _ | exact wds_radx | exact wds_one) (AllP_nil))))))

set_option maxHeartbeats 1000000 in
theorem cmpC_body0 (a : List Int) (b : List Int) (h0 : (Byt a)) (h1 : (Byt b)) (hv0 : List.length a = (32 : Nat)) (hv1 : List.length b = (32 : Nat)) (hc : W4 (modL (BV a)) ≠ W4 (modL (BV b))) (hd : lessC (V4 (W4 (modL (BV a)))) (V4 (W4 (modL (BV b)))) ≠ 1) (w : World) : Body Try.prog (tabOf tabNT) Try.f38 ⟨w, [], 0, noEnv⟩ (toA [.g [.ints .u8 (32 : Nat) a], .g [.ints .u8 (32 : Nat) b]]) [] (fun ys _ => ys = [.a (.i .i64 (1 : Int))]) :=
  Body.of_fin (Γ := gam21) (Λ := noLam) (Ψ := noPsi) (fuel := 0) (m := 24) (c := (Try.f38.body.getD .skip)) mix tabOkNT gam21_ok rfl (rs := [.tmp 4]) rfl rfl [false, false] []
    (vc := [(((lessC (V4 (W4 (modL (BV a)))) (V4 (W4 (modL (BV b))))) == (1 : Int)) = false), ((Wds (W4 (modL (BV a)))) ∧ (Wds (W4 (modL (BV b))))), ((decide ((W4 (modL (BV a))) = (W4 (modL (BV b))))) = false), (Byt b), (Byt a)]) (by kernel_rfl)
    (AllP_cons (beq_eq_false_iff_ne.2 hd) (AllP_cons ⟨(by first | assumption | exact wds_W4 _ | exact wds_ord | exact byt_B32 _ | exact wds_radx | exact wds_one), (by first | assumption | exact wds_W4 _ | exact wds_ord | exact byt_B32 _ | exact wds_radx | exact wds_one)⟩ (AllP_cons (decide_eq_false hc) (AllP_cons (by first | assumption | exact wds_W4 _ | exact wds_ord | exact byt_B32 _ | exact wds_radx | exact wds_one) (AllP_cons (by first | assumption | exact wds_W4 _ | exact wds_ord | exact byt_B32 _ | exact wds_radx | exact wds_one) (AllP_nil))))))

end Go.Proofs.Ytcpoldghkiiggaa.X
