/- Printed by a tool of this session. -/
import Derived.Test.YtcpoldghkiiggaaOF
import Derived.KernelRfl
namespace Go.Proofs.Ytcpoldghkiiggaa.X
open Go Go.Proofs
set_option linter.unusedVariables false
set_option maxRecDepth 100000
theorem teOG_24 : TEOk Try.prog 24 ⟨.array 32 5, 32, 32, [.ints .u8 (32 : Nat) ([0, 0, 0, 0, 0, 0, 0, 0, 0, 0, 0, 0, 0, 0, 0, 0, 0, 0, 0, 0, 0, 0, 0, 0, 0, 0, 0, 0, 0, 0, 0, 0] : List Int)], true⟩ :=
  TEOk.of Try.underlying24 (i := Try.t24) (by kernel_rfl) rfl rfl rfl (by kernel_rfl) (fun _ => Try.eqGuardType24) (by kernel_rfl)
theorem teOG_109 : TEOk Try.prog 109 ⟨.int .u32, 1, 4, [.i .u32 (0 : Int)], false⟩ :=
  TEOk.of Try.underlying109 (i := Try.t109) (by kernel_rfl) rfl rfl rfl (by kernel_rfl) (fun h => by cases h) (by kernel_rfl)
theorem teOG_111 : TEOk Try.prog 111 ⟨.array 8 109, 8, 32, [.ints .u32 (8 : Nat) ([0, 0, 0, 0, 0, 0, 0, 0] : List Int)], true⟩ :=
  TEOk.of Try.underlying111 (i := Try.t111) (by kernel_rfl) rfl rfl rfl (by kernel_rfl) (fun _ => Try.eqGuardType111) (by kernel_rfl)
noncomputable def tabOG : List (Nat × TE) := [(24, ⟨.array 32 5, 32, 32, [.ints .u8 (32 : Nat) ([0, 0, 0, 0, 0, 0, 0, 0, 0, 0, 0, 0, 0, 0, 0, 0, 0, 0, 0, 0, 0, 0, 0, 0, 0, 0, 0, 0, 0, 0, 0, 0] : List Int)], true⟩), (109, ⟨.int .u32, 1, 4, [.i .u32 (0 : Int)], false⟩), (111, ⟨.array 8 109, 8, 32, [.ints .u32 (8 : Nat) ([0, 0, 0, 0, 0, 0, 0, 0] : List Int)], true⟩)]
theorem tabOkOG : TabOk Try.prog (tabOf tabOG) := (tabOf_cons teOG_24 (tabOf_cons teOG_109 (tabOf_cons teOG_111 tabOf_nil)))

theorem addR__pure (a : List Int) (b : List Int) (h0 : (Byt a)) (h1 : (Byt b)) : PureC Try.prog 27 [.g [.ints .u8 (32 : Nat) a], .g [.ints .u8 (32 : Nat) b]] [.g [.ints .u8 (32 : Nat) (B32 (modL ((BV a) + (BV b))))]] :=
  PureC.of_body tabOkOD Try.func27 rfl rfl fun w => addR_can a b h0 h1 w

def gam30 : Gam := gpure 27 (fun args => match args with | [.o (.g [.ints .u8 (32 : Nat) a]), .o (.g [.ints .u8 (32 : Nat) b])] => some (some ((Byt a) ∧ (Byt b)), [.g [.ints .u8 (32 : Nat) (B32 (modL ((BV a) + (BV b))))]]) | _ => none) gam29
theorem gam30_ok : GamOk Try.prog gam30 := gpure_ok gam29_ok Try.call27 (by
  intro args vc xs h hv
  split at h
  · simp only [Option.some.injEq, Prod.mk.injEq] at h; obtain ⟨rfl, rfl⟩ := h; exact ⟨_, by rfl, addR__pure _ _ hv.1 hv.2⟩
  · simp at h)

theorem negRA_pure (a : List Int) (h0 : (Byt a)) : PureC Try.prog 31 [.g [.ints .u8 (32 : Nat) a]] [.g [.ints .u8 (32 : Nat) (B32 (modL (negI (BV a))))]] :=
  PureC.of_body tabOkOD Try.func31 rfl rfl fun w => negR_can a h0 w

def gam31 : Gam := gpure 31 (fun args => match args with | [.o (.g [.ints .u8 (32 : Nat) a])] => some (some ((Byt a)), [.g [.ints .u8 (32 : Nat) (B32 (modL (negI (BV a))))]]) | _ => none) gam30
theorem gam31_ok : GamOk Try.prog gam31 := gpure_ok gam30_ok Try.call31 (by
  intro args vc xs h hv
  split at h
  · simp only [Option.some.injEq, Prod.mk.injEq] at h; obtain ⟨rfl, rfl⟩ := h; exact ⟨_, by rfl, negRA_pure _ hv⟩
  · simp at h)

theorem cmpA_pure (a : List Int) (b : List Int) (h0 : (Byt a)) (h1 : (Byt b)) : PureC Try.prog 38 [.g [.ints .u8 (32 : Nat) a], .g [.ints .u8 (32 : Nat) b]] [.a (.i .i64 (cmpV (modL (BV a)) (modL (BV b))))] :=
  PureC.of_body tabOkNT Try.func38 rfl rfl fun w => cmpP_can a b h0 h1 w

def gam32 : Gam := gpure 38 (fun args => match args with | [.o (.g [.ints .u8 (32 : Nat) a]), .o (.g [.ints .u8 (32 : Nat) b])] => some (some ((Byt a) ∧ (Byt b)), [.a (.i .i64 (cmpV (modL (BV a)) (modL (BV b))))]) | _ => none) gam31
theorem gam32_ok : GamOk Try.prog gam32 := gpure_ok gam31_ok Try.call38 (by
  intro args vc xs h hv
  split at h
  · simp only [Option.some.injEq, Prod.mk.injEq] at h; obtain ⟨rfl, rfl⟩ := h; exact ⟨_, by rfl, cmpA_pure _ _ hv.1 hv.2⟩
  · simp at h)

def subR_ (a : List Int) (b : List Int) : List Int :=
  (B32 (modL ((BV a) + (BV (B32 (modL (negI (BV b))))))))

set_option maxHeartbeats 1000000 in
theorem subR__body0 (a : List Int) (b : List Int) (h0 : (Byt a)) (h1 : (Byt b)) (hv0 : List.length a = (32 : Nat)) (hv1 : List.length b = (32 : Nat)) (w : World) : Body Try.prog (tabOf tabOG) Try.f29 ⟨w, [], 0, noEnv⟩ (toA [.g [.ints .u8 (32 : Nat) a], .g [.ints .u8 (32 : Nat) b]]) [] (fun ys _ => ys = [.g [.ints .u8 (32 : Nat) (subR_ a b)]]) :=
  Body.of_fin (Γ := gam32) (Λ := noLam) (Ψ := noPsi) (fuel := 0) (m := 9) (c := (Try.f29.body.getD .skip)) mix tabOkOG gam32_ok rfl (rs := [.cell 4 24]) rfl rfl [] []
    (vc := [((Byt a) ∧ (Byt (B32 (modL (negI (BV b)))))), (Byt b)]) (by kernel_rfl)
    (AllP_cons ⟨(by first | assumption | exact byt_B32 _), (by first | assumption | exact byt_B32 _)⟩ (AllP_cons (by first | assumption | exact byt_B32 _) (AllP_nil)))

theorem subR__body (a : List Int) (b : List Int) (h0 : (Byt a)) (h1 : (Byt b)) (w : World) : Body Try.prog (tabOf tabOG) Try.f29 ⟨w, [], 0, noEnv⟩ (toA [.g [.ints .u8 (32 : Nat) a], .g [.ints .u8 (32 : Nat) b]]) [] (fun ys _ => ys = [.g [.ints .u8 (32 : Nat) (subR_ a b)]]) :=
  Body.lens (c := (Try.f29.body.getD .skip)) rfl fun h => subR__body0 a b h0 h1 (h.vals 0 _ _ _ rfl) (h.vals 1 _ _ _ rfl) w

theorem subR__pure (a : List Int) (b : List Int) (h0 : (Byt a)) (h1 : (Byt b)) : PureC Try.prog 29 [.g [.ints .u8 (32 : Nat) a], .g [.ints .u8 (32 : Nat) b]] [.g [.ints .u8 (32 : Nat) (subR_ a b)]] :=
  PureC.of_body tabOkOG Try.func29 rfl rfl fun w => subR__body a b h0 h1 w

def gam33 : Gam := gpure 29 (fun args => match args with | [.o (.g [.ints .u8 (32 : Nat) a]), .o (.g [.ints .u8 (32 : Nat) b])] => some (some ((Byt a) ∧ (Byt b)), [.g [.ints .u8 (32 : Nat) (subR_ a b)]]) | _ => none) gam32
theorem gam33_ok : GamOk Try.prog gam33 := gpure_ok gam32_ok Try.call29 (by
  intro args vc xs h hv
  split at h
  · simp only [Option.some.injEq, Prod.mk.injEq] at h; obtain ⟨rfl, rfl⟩ := h; exact ⟨_, by rfl, subR__pure _ _ hv.1 hv.2⟩
  · simp at h)

set_option maxHeartbeats 1000000 in
theorem cmrA_body0 (a : List Int) (b : List Int) (h0 : (Byt a)) (h1 : (Byt b)) (hv0 : List.length a = (32 : Nat)) (hv1 : List.length b = (32 : Nat)) (hc : V8 (W8 (modL (BV a))) < V8 (W8 (modL (BV b)))) (w : World) : Body Try.prog (tabOf tabOG) Try.f39 ⟨w, [], 0, noEnv⟩ (toA [.g [.ints .u8 (32 : Nat) a], .g [.ints .u8 (32 : Nat) b]]) [] (fun ys _ => ys = [.a (.i .i64 (-1 : Int))]) :=
  Body.of_fin (Γ := gam33) (Λ := noLam) (Ψ := noPsi) (fuel := 0) (m := 17) (c := (Try.f39.body.getD .skip)) mix tabOkOG gam33_ok rfl (rs := [.tmp 4]) rfl rfl [true] []
    (vc := [((decide ((V8 (W8 (modL (BV a)))) < (V8 (W8 (modL (BV b)))))) = true), ((Wd8 (W8 (modL (BV a)))) ∧ (Wd8 (W8 (modL (BV b))))), (Byt b), (Byt a)]) (by kernel_rfl)
    (AllP_cons (decide_eq_true hc) (AllP_cons ⟨(by first | assumption | exact wd8_W8 _ | exact wd8_ord | exact (by intro x hx; simp only [List.mem_cons, List.not_mem_nil, or_false] at hx; rcases hx with rfl | rfl | rfl | rfl | rfl | rfl | rfl | rfl | rfl <;> exact wrap32_rng _)), (by first | assumption | exact wd8_W8 _ | exact wd8_ord | exact (by intro x hx; simp only [List.mem_cons, List.not_mem_nil, or_false] at hx; rcases hx with rfl | rfl | rfl | rfl | rfl | rfl | rfl | rfl | rfl <;> exact wrap32_rng _))⟩ (AllP_cons (by first | assumption | exact byt_B32 _) (AllP_cons (by first | assumption | exact byt_B32 _) (AllP_nil)))))

set_option maxHeartbeats 1000000 in
theorem cmrB_body0 (a : List Int) (b : List Int) (h0 : (Byt a)) (h1 : (Byt b)) (hv0 : List.length a = (32 : Nat)) (hv1 : List.length b = (32 : Nat)) (hc : ¬ V8 (W8 (modL (BV a))) < V8 (W8 (modL (BV b)))) (hd : W8 (modL (BV a)) = W8 (modL (BV b))) (w : World) : Body Try.prog (tabOf tabOG) Try.f39 ⟨w, [], 0, noEnv⟩ (toA [.g [.ints .u8 (32 : Nat) a], .g [.ints .u8 (32 : Nat) b]]) [] (fun ys _ => ys = [.a (.i .i64 (0 : Int))]) :=
  Body.of_fin (Γ := gam33) (Λ := noLam) (Ψ := noPsi) (fuel := 0) (m := 17) (c := (Try.f39.body.getD .skip)) mix tabOkOG gam33_ok rfl (rs := [.tmp 4]) rfl rfl [false, true] []
    (vc := [((decide ((W8 (modL (BV a))) = (W8 (modL (BV b))))) = true), ((decide ((V8 (W8 (modL (BV a)))) < (V8 (W8 (modL (BV b)))))) = false), ((Wd8 (W8 (modL (BV a)))) ∧ (Wd8 (W8 (modL (BV b))))), (Byt b), (Byt a)]) (by kernel_rfl)
    (AllP_cons (decide_eq_true hd) (AllP_cons (decide_eq_false hc) (AllP_cons ⟨(by first | assumption | exact wd8_W8 _ | exact wd8_ord | exact (by intro x hx; simp only [List.mem_cons, List.not_mem_nil, or_false] at hx; rcases hx with rfl | rfl | rfl | rfl | rfl | rfl | rfl | rfl | rfl <;> exact wrap32_rng _)), (by first | assumption | exact wd8_W8 _ | exact wd8_ord | exact (by intro x hx; simp only [List.mem_cons, List.not_mem_nil, or_false] at hx; rcases hx with rfl | rfl | rfl | rfl | rfl | rfl | rfl | rfl | rfl <;> exact wrap32_rng _))⟩ (AllP_cons (by first | assumption | exact byt_B32 _) (AllP_cons (by first | assumption | exact byt_B32 _) (AllP_nil))))))

set_option maxHeartbeats 1000000 in
theorem cmrC_body0 (a : List Int) (b : List Int) (h0 : (Byt a)) (h1 : (Byt b)) (hv0 : List.length a = (32 : Nat)) (hv1 : List.length b = (32 : Nat)) (hc : ¬ V8 (W8 (modL (BV a))) < V8 (W8 (modL (BV b)))) (hd : W8 (modL (BV a)) ≠ W8 (modL (BV b))) (w : World) : Body Try.prog (tabOf tabOG) Try.f39 ⟨w, [], 0, noEnv⟩ (toA [.g [.ints .u8 (32 : Nat) a], .g [.ints .u8 (32 : Nat) b]]) [] (fun ys _ => ys = [.a (.i .i64 (1 : Int))]) :=
  Body.of_fin (Γ := gam33) (Λ := noLam) (Ψ := noPsi) (fuel := 0) (m := 17) (c := (Try.f39.body.getD .skip)) mix tabOkOG gam33_ok rfl (rs := [.tmp 4]) rfl rfl [false, false] []
    (vc := [((decide ((W8 (modL (BV a))) = (W8 (modL (BV b))))) = false), ((decide ((V8 (W8 (modL (BV a)))) < (V8 (W8 (modL (BV b)))))) = false), ((Wd8 (W8 (modL (BV a)))) ∧ (Wd8 (W8 (modL (BV b))))), (Byt b), (Byt a)]) (by kernel_rfl)
    (AllP_cons (decide_eq_false hd) (AllP_cons (decide_eq_false hc) (AllP_cons ⟨(by first | assumption | exact wd8_W8 _ | exact wd8_ord | exact (by intro x hx; simp only [List.mem_cons, List.not_mem_nil, or_false] at hx; rcases hx with rfl | rfl | rfl | rfl | rfl | rfl | rfl | rfl | rfl <;> exact wrap32_rng _)), (by first | assumption | exact wd8_W8 _ | exact wd8_ord | exact (by intro x hx; simp only [List.mem_cons, List.not_mem_nil, or_false] at hx; rcases hx with rfl | rfl | rfl | rfl | rfl | rfl | rfl | rfl | rfl <;> exact wrap32_rng _))⟩ (AllP_cons (by first | assumption | exact byt_B32 _) (AllP_cons (by first | assumption | exact byt_B32 _) (AllP_nil))))))

end Go.Proofs.Ytcpoldghkiiggaa.X
