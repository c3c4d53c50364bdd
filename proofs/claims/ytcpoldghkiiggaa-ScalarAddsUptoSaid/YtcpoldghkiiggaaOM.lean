/- Printed by a tool of this session. -/
import Derived.Test.YtcpoldghkiiggaaOL
import Derived.KernelRfl
namespace Go.Proofs.Ytcpoldghkiiggaa.X
open Go Go.Proofs
set_option linter.unusedVariables false
set_option maxRecDepth 100000
theorem teOM_24 : TEOk Try.prog 24 ⟨.array 32 5, 32, 32, [.ints .u8 (32 : Nat) ([0, 0, 0, 0, 0, 0, 0, 0, 0, 0, 0, 0, 0, 0, 0, 0, 0, 0, 0, 0, 0, 0, 0, 0, 0, 0, 0, 0, 0, 0, 0, 0] : List Int)], true⟩ :=
  TEOk.of Try.underlying24 (i := Try.t24) (by kernel_rfl) rfl rfl rfl (by kernel_rfl) (fun _ => Try.eqGuardType24) (by kernel_rfl)
noncomputable def tabOM : List (Nat × TE) := [(24, ⟨.array 32 5, 32, 32, [.ints .u8 (32 : Nat) ([0, 0, 0, 0, 0, 0, 0, 0, 0, 0, 0, 0, 0, 0, 0, 0, 0, 0, 0, 0, 0, 0, 0, 0, 0, 0, 0, 0, 0, 0, 0, 0] : List Int)], true⟩)]
theorem tabOkOM : TabOk Try.prog (tabOf tabOM) := (tabOf_cons teOM_24 tabOf_nil)

theorem mulR__pure (S : List Int) (T : List Int) (h0 : (Wd8 S)) (h1 : (Wd8 T)) : PureC Try.prog 98 [.g [.ints .u32 (8 : Nat) S], .g [.ints .u32 (8 : Nat) T]] [.g [.ints .u32 (8 : Nat) (W8 (modL ((V8 S) * (V8 T))))]] :=
  PureC.of_body tabOkOJ Try.func98 rfl rfl fun w => mul_can S T h0 h1 w

def gam34 : Gam := gpure 98 (fun args => match args with | [.o (.g [.ints .u32 (8 : Nat) S]), .o (.g [.ints .u32 (8 : Nat) T])] => some (some ((Wd8 S) ∧ (Wd8 T)), [.g [.ints .u32 (8 : Nat) (W8 (modL ((V8 S) * (V8 T))))]]) | _ => none) gam33
theorem gam34_ok : GamOk Try.prog gam34 := gpure_ok gam33_ok Try.call98 (by
  intro args vc xs h hv
  split at h
  · simp only [Option.some.injEq, Prod.mk.injEq] at h; obtain ⟨rfl, rfl⟩ := h; exact ⟨_, by rfl, mulR__pure _ _ hv.1 hv.2⟩
  · simp at h)

theorem cmrA_pure (a : List Int) (b : List Int) (h0 : (Byt a)) (h1 : (Byt b)) : PureC Try.prog 39 [.g [.ints .u8 (32 : Nat) a], .g [.ints .u8 (32 : Nat) b]] [.a (.i .i64 (cmpV (modL (BV a)) (modL (BV b))))] :=
  PureC.of_body tabOkOG Try.func39 rfl rfl fun w => cmpR_can a b h0 h1 w

def gam35 : Gam := gpure 39 (fun args => match args with | [.o (.g [.ints .u8 (32 : Nat) a]), .o (.g [.ints .u8 (32 : Nat) b])] => some (some ((Byt a) ∧ (Byt b)), [.a (.i .i64 (cmpV (modL (BV a)) (modL (BV b))))]) | _ => none) gam34
theorem gam35_ok : GamOk Try.prog gam35 := gpure_ok gam34_ok Try.call39 (by
  intro args vc xs h hv
  split at h
  · simp only [Option.some.injEq, Prod.mk.injEq] at h; obtain ⟨rfl, rfl⟩ := h; exact ⟨_, by rfl, cmrA_pure _ _ hv.1 hv.2⟩
  · simp at h)

def mulR (a : List Int) (b : List Int) : List Int :=
  (B32 (V8 (W8 (modL ((V8 (W8 (modL (BV a)))) * (V8 (W8 (modL (BV b)))))))))

set_option maxHeartbeats 1000000 in
theorem mulR_body0 (a : List Int) (b : List Int) (h0 : (Byt a)) (h1 : (Byt b)) (hv0 : List.length a = (32 : Nat)) (hv1 : List.length b = (32 : Nat)) (w : World) : Body Try.prog (tabOf tabOM) Try.f33 ⟨w, [], 0, noEnv⟩ (toA [.g [.ints .u8 (32 : Nat) a], .g [.ints .u8 (32 : Nat) b]]) [] (fun ys _ => ys = [.g [.ints .u8 (32 : Nat) (mulR a b)]]) :=
  Body.of_fin (Γ := gam35) (Λ := noLam) (Ψ := noPsi) (fuel := 0) (m := 11) (c := (Try.f33.body.getD .skip)) mix tabOkOM gam35_ok rfl (rs := [.cell 4 24]) rfl rfl [] []
    (vc := [(Wd8 (W8 (modL ((V8 (W8 (modL (BV a)))) * (V8 (W8 (modL (BV b)))))))), ((Wd8 (W8 (modL (BV a)))) ∧ (Wd8 (W8 (modL (BV b))))), (Byt b), (Byt a)]) (by kernel_rfl)
    (AllP_cons (by first | assumption | exact wd8_W8 _ | exact wd8_ord | exact (by intro x hx; simp only [List.mem_cons, List.not_mem_nil, or_false] at hx; rcases hx with rfl | rfl | rfl | rfl | rfl | rfl | rfl | rfl | rfl <;> exact wrap32_rng _)) (AllP_cons ⟨(by first | assumption | exact wd8_W8 _ | exact wd8_ord | exact (by intro x hx; simp only [List.mem_cons, List.not_mem_nil, or_false] at hx; rcases hx with rfl | rfl | rfl | rfl | rfl | rfl | rfl | rfl | rfl <;> exact wrap32_rng _)), (by first | assumption | exact wd8_W8 _ | exact wd8_ord | exact (by intro x hx; simp only [List.mem_cons, List.not_mem_nil, or_false] at hx; rcases hx with rfl | rfl | rfl | rfl | rfl | rfl | rfl | rfl | rfl <;> exact wrap32_rng _))⟩ (AllP_cons (by first | assumption | exact byt_B32 _) (AllP_cons (by first | assumption | exact byt_B32 _) (AllP_nil)))))

theorem mulR_body (a : List Int) (b : List Int) (h0 : (Byt a)) (h1 : (Byt b)) (w : World) : Body Try.prog (tabOf tabOM) Try.f33 ⟨w, [], 0, noEnv⟩ (toA [.g [.ints .u8 (32 : Nat) a], .g [.ints .u8 (32 : Nat) b]]) [] (fun ys _ => ys = [.g [.ints .u8 (32 : Nat) (mulR a b)]]) :=
  Body.lens (c := (Try.f33.body.getD .skip)) rfl fun h => mulR_body0 a b h0 h1 (h.vals 0 _ _ _ rfl) (h.vals 1 _ _ _ rfl) w

theorem mulR_pure (a : List Int) (b : List Int) (h0 : (Byt a)) (h1 : (Byt b)) : PureC Try.prog 33 [.g [.ints .u8 (32 : Nat) a], .g [.ints .u8 (32 : Nat) b]] [.g [.ints .u8 (32 : Nat) (mulR a b)]] :=
  PureC.of_body tabOkOM Try.func33 rfl rfl fun w => mulR_body a b h0 h1 w

def gam36 : Gam := gpure 33 (fun args => match args with | [.o (.g [.ints .u8 (32 : Nat) a]), .o (.g [.ints .u8 (32 : Nat) b])] => some (some ((Byt a) ∧ (Byt b)), [.g [.ints .u8 (32 : Nat) (mulR a b)]]) | _ => none) gam35
theorem gam36_ok : GamOk Try.prog gam36 := gpure_ok gam35_ok Try.call33 (by
  intro args vc xs h hv
  split at h
  · simp only [Option.some.injEq, Prod.mk.injEq] at h; obtain ⟨rfl, rfl⟩ := h; exact ⟨_, by rfl, mulR_pure _ _ hv.1 hv.2⟩
  · simp at h)

def maddR (a : List Int) (b : List Int) (c : List Int) : List Int :=
  (B32 (modL ((BV (mulR a b)) + (BV c))))

set_option maxHeartbeats 1000000 in
theorem maddR_body0 (a : List Int) (b : List Int) (c : List Int) (h0 : (Byt a)) (h1 : (Byt b)) (h2 : (Byt c)) (hv0 : List.length a = (32 : Nat)) (hv1 : List.length b = (32 : Nat)) (hv2 : List.length c = (32 : Nat)) (w : World) : Body Try.prog (tabOf tabOM) Try.f35 ⟨w, [], 0, noEnv⟩ (toA [.g [.ints .u8 (32 : Nat) a], .g [.ints .u8 (32 : Nat) b], .g [.ints .u8 (32 : Nat) c]]) [] (fun ys _ => ys = [.g [.ints .u8 (32 : Nat) (maddR a b c)]]) :=
  Body.of_fin (Γ := gam36) (Λ := noLam) (Ψ := noPsi) (fuel := 0) (m := 12) (c := (Try.f35.body.getD .skip)) mix tabOkOM gam36_ok rfl (rs := [.cell 6 24]) rfl rfl [] []
    (vc := [((Byt (mulR a b)) ∧ (Byt c)), ((Byt a) ∧ (Byt b))]) (by kernel_rfl)
    (AllP_cons ⟨(by first | assumption | exact byt_B32 _), (by first | assumption | exact byt_B32 _)⟩ (AllP_cons ⟨(by first | assumption | exact byt_B32 _), (by first | assumption | exact byt_B32 _)⟩ (AllP_nil)))

theorem maddR_body (a : List Int) (b : List Int) (c : List Int) (h0 : (Byt a)) (h1 : (Byt b)) (h2 : (Byt c)) (w : World) : Body Try.prog (tabOf tabOM) Try.f35 ⟨w, [], 0, noEnv⟩ (toA [.g [.ints .u8 (32 : Nat) a], .g [.ints .u8 (32 : Nat) b], .g [.ints .u8 (32 : Nat) c]]) [] (fun ys _ => ys = [.g [.ints .u8 (32 : Nat) (maddR a b c)]]) :=
  Body.lens (c := (Try.f35.body.getD .skip)) rfl fun h => maddR_body0 a b c h0 h1 h2 (h.vals 0 _ _ _ rfl) (h.vals 1 _ _ _ rfl) (h.vals 2 _ _ _ rfl) w

theorem maddR_pure (a : List Int) (b : List Int) (c : List Int) (h0 : (Byt a)) (h1 : (Byt b)) (h2 : (Byt c)) : PureC Try.prog 35 [.g [.ints .u8 (32 : Nat) a], .g [.ints .u8 (32 : Nat) b], .g [.ints .u8 (32 : Nat) c]] [.g [.ints .u8 (32 : Nat) (maddR a b c)]] :=
  PureC.of_body tabOkOM Try.func35 rfl rfl fun w => maddR_body a b c h0 h1 h2 w

def gam37 : Gam := gpure 35 (fun args => match args with | [.o (.g [.ints .u8 (32 : Nat) a]), .o (.g [.ints .u8 (32 : Nat) b]), .o (.g [.ints .u8 (32 : Nat) c])] => some (some ((Byt a) ∧ (Byt b) ∧ (Byt c)), [.g [.ints .u8 (32 : Nat) (maddR a b c)]]) | _ => none) gam36
theorem gam37_ok : GamOk Try.prog gam37 := gpure_ok gam36_ok Try.call35 (by
  intro args vc xs h hv
  split at h
  · simp only [Option.some.injEq, Prod.mk.injEq] at h; obtain ⟨rfl, rfl⟩ := h; exact ⟨_, by rfl, maddR_pure _ _ _ hv.1 hv.2.1 hv.2.2⟩
  · simp at h)

set_option maxHeartbeats 1000000 in
theorem num_body0 (x : Int) (w : World) : Body Try.prog (tabOf tabOM) Try.f17 ⟨w, [], 0, noEnv⟩ (toA [.a (.i .i64 x)]) [] (fun ys _ => ys = [.a (.i .i64 x)]) :=
  Body.of_fin (Γ := gam37) (Λ := noLam) (Ψ := noPsi) (fuel := 0) (m := 4) (c := (Try.f17.body.getD .skip)) mix tabOkOM gam37_ok rfl (rs := [.tmp 2]) rfl rfl [] []
    (vc := []) (by kernel_rfl)
    (AllP_nil)

theorem num_body (x : Int) (w : World) : Body Try.prog (tabOf tabOM) Try.f17 ⟨w, [], 0, noEnv⟩ (toA [.a (.i .i64 x)]) [] (fun ys _ => ys = [.a (.i .i64 x)]) :=
  Body.lens (c := (Try.f17.body.getD .skip)) rfl fun h => num_body0 x  w

theorem num_pure (x : Int) : PureC Try.prog 17 [.a (.i .i64 x)] [.a (.i .i64 x)] :=
  PureC.of_body tabOkOM Try.func17 rfl rfl fun w => num_body x w

def gam38 : Gam := gpure 17 (fun args => match args with | [.o (.a (.i .i64 x))] => some (none, [.a (.i .i64 x)]) | _ => none) gam37
theorem gam38_ok : GamOk Try.prog gam38 := gpure_ok gam37_ok Try.call17 (by
  intro args vc xs h hv
  split at h
  · simp only [Option.some.injEq, Prod.mk.injEq] at h; obtain ⟨rfl, rfl⟩ := h; exact ⟨_, by rfl, num_pure _⟩
  · simp at h)

end Go.Proofs.Ytcpoldghkiiggaa.X
