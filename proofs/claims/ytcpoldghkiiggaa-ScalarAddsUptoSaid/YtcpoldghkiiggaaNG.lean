/- Printed by a tool of this session. -/
import Derived.Test.YtcpoldghkiiggaaNF
import Derived.KernelRfl
namespace Go.Proofs.Ytcpoldghkiiggaa.X
open Go Go.Proofs
set_option linter.unusedVariables false
set_option maxRecDepth 100000
theorem teNG_25 : TEOk Try.prog 25 ⟨.int .u64, 1, 8, [.i .u64 (0 : Int)], false⟩ :=
  TEOk.of Try.underlying25 (i := Try.t25) (by kernel_rfl) rfl rfl rfl (by kernel_rfl) (fun h => by cases h) (by kernel_rfl)
theorem teNG_104 : TEOk Try.prog 104 ⟨.array 4 25, 4, 32, [.ints .u64 (4 : Nat) ([0, 0, 0, 0] : List Int)], true⟩ :=
  TEOk.of Try.underlying104 (i := Try.t104) (by kernel_rfl) rfl rfl rfl (by kernel_rfl) (fun _ => Try.eqGuardType104) (by kernel_rfl)
noncomputable def tabNG : List (Nat × TE) := [(25, ⟨.int .u64, 1, 8, [.i .u64 (0 : Int)], false⟩), (104, ⟨.array 4 25, 4, 32, [.ints .u64 (4 : Nat) ([0, 0, 0, 0] : List Int)], true⟩)]
theorem tabOkNG : TabOk Try.prog (tabOf tabNG) := (tabOf_cons teNG_25 (tabOf_cons teNG_104 tabOf_nil))

def muladd (x : Int) (y : Int) (a : Int) (c : Int) : Int :=
  (IntKind.u64.wrap ((IntKind.u64.wrap ((mul64 x y) + (ad64c (mul64_1 x y) a (0 : Int)))) + (ad64c (ad64s (mul64_1 x y) a (0 : Int)) c (0 : Int))))

def muladd_1 (x : Int) (y : Int) (a : Int) (c : Int) : Int :=
  (ad64s (ad64s (mul64_1 x y) a (0 : Int)) c (0 : Int))

set_option maxHeartbeats 1000000 in
theorem muladd_body0 (x : Int) (y : Int) (a : Int) (c : Int) (h0 : ((0 : Int) ≤ a)) (h1 : ((0 : Int) ≤ c)) (w : World) : Body Try.prog (tabOf tabNG) Try.f132 ⟨w, [], 0, noEnv⟩ (toA [.a (.i .u64 x), .a (.i .u64 y), .a (.i .u64 a), .a (.i .u64 c)]) [] (fun ys _ => ys = [.a (.i .u64 (muladd x y a c)), .a (.i .u64 (muladd_1 x y a c))]) :=
  Body.of_fin (Γ := gam1) (Λ := noLam) (Ψ := noPsi) (fuel := 0) (m := 38) (c := (Try.f132.body.getD .skip)) mix tabOkNG gam1_ok rfl (rs := [.tmp 8, .tmp 9]) rfl rfl [] []
    (vc := [(((0 : Int) ≤ (ad64s (mul64_1 x y) a (0 : Int))) ∧ ((0 : Int) ≤ c) ∧ ((0 : Int) ≤ (0 : Int)) ∧ ((0 : Int) ≤ (1 : Int))), (((0 : Int) ≤ (mul64_1 x y)) ∧ ((0 : Int) ≤ a) ∧ ((0 : Int) ≤ (0 : Int)) ∧ ((0 : Int) ≤ (1 : Int)))]) (by kernel_rfl)
    (AllP_cons ⟨(by first | omega | exact (ad64_rng _ _ _).1 | exact wrap_nn rfl), h1, (by decide), (by decide)⟩ (AllP_cons ⟨(by first | omega | exact (ad64_rng _ _ _).1 | exact wrap_nn rfl), h0, (by decide), (by decide)⟩ (AllP_nil)))

theorem muladd_body (x : Int) (y : Int) (a : Int) (c : Int) (h0 : ((0 : Int) ≤ a)) (h1 : ((0 : Int) ≤ c)) (w : World) : Body Try.prog (tabOf tabNG) Try.f132 ⟨w, [], 0, noEnv⟩ (toA [.a (.i .u64 x), .a (.i .u64 y), .a (.i .u64 a), .a (.i .u64 c)]) [] (fun ys _ => ys = [.a (.i .u64 (muladd x y a c)), .a (.i .u64 (muladd_1 x y a c))]) :=
  Body.lens (c := (Try.f132.body.getD .skip)) rfl fun h => muladd_body0 x y a c h0 h1  w

theorem muladd_pure (x : Int) (y : Int) (a : Int) (c : Int) (h0 : ((0 : Int) ≤ a)) (h1 : ((0 : Int) ≤ c)) : PureC Try.prog 132 [.a (.i .u64 x), .a (.i .u64 y), .a (.i .u64 a), .a (.i .u64 c)] [.a (.i .u64 (muladd x y a c)), .a (.i .u64 (muladd_1 x y a c))] :=
  PureC.of_body tabOkNG Try.func132 rfl rfl fun w => muladd_body x y a c h0 h1 w

def gam2 : Gam := gpure 132 (fun args => match args with | [.o (.a (.i .u64 x)), .o (.a (.i .u64 y)), .o (.a (.i .u64 a)), .o (.a (.i .u64 c))] => some (some (((0 : Int) ≤ a) ∧ ((0 : Int) ≤ c)), [.a (.i .u64 (muladd x y a c)), .a (.i .u64 (muladd_1 x y a c))]) | _ => none) gam1
theorem gam2_ok : GamOk Try.prog gam2 := gpure_ok gam1_ok Try.call132 (by
  intro args vc xs h hv
  split at h
  · simp only [Option.some.injEq, Prod.mk.injEq] at h; obtain ⟨rfl, rfl⟩ := h; exact ⟨_, by rfl, muladd_pure _ _ _ _ hv.1 hv.2⟩
  · simp at h)

set_option maxHeartbeats 1000000 in
theorem ordr_body0 (w : World) : Body Try.prog (tabOf tabNG) Try.f80 ⟨w, [], 0, noEnv⟩ (toA []) [] (fun ys _ => ys = [.g [.ints .u64 (4 : Nat) ([6346243789798364141, 1503914060200516822, 0, 1152921504606846976] : List Int)]]) :=
  Body.of_fin (Γ := gam2) (Λ := noLam) (Ψ := noPsi) (fuel := 0) (m := 2) (c := (Try.f80.body.getD .skip)) mix tabOkNG gam2_ok rfl (rs := [.cell 0 104]) rfl rfl [] []
    (vc := []) (by kernel_rfl)
    (AllP_nil)

theorem ordr_body (w : World) : Body Try.prog (tabOf tabNG) Try.f80 ⟨w, [], 0, noEnv⟩ (toA []) [] (fun ys _ => ys = [.g [.ints .u64 (4 : Nat) ([6346243789798364141, 1503914060200516822, 0, 1152921504606846976] : List Int)]]) :=
  Body.lens (c := (Try.f80.body.getD .skip)) rfl fun h => ordr_body0  w

theorem ordr_pure : PureC Try.prog 80 [] [.g [.ints .u64 (4 : Nat) ([6346243789798364141, 1503914060200516822, 0, 1152921504606846976] : List Int)]] :=
  PureC.of_body tabOkNG Try.func80 rfl rfl fun w => ordr_body w

def gam3 : Gam := gpure 80 (fun args => match args with | [] => some (none, [.g [.ints .u64 (4 : Nat) ([6346243789798364141, 1503914060200516822, 0, 1152921504606846976] : List Int)]]) | _ => none) gam2
theorem gam3_ok : GamOk Try.prog gam3 := gpure_ok gam2_ok Try.call80 (by
  intro args vc xs h hv
  split at h
  · simp only [Option.some.injEq, Prod.mk.injEq] at h; obtain ⟨rfl, rfl⟩ := h; exact ⟨_, by rfl, ordr_pure⟩
  · simp at h)

set_option maxHeartbeats 1000000 in
theorem radx_body0 (w : World) : Body Try.prog (tabOf tabNG) Try.f104 ⟨w, [], 0, noEnv⟩ (toA []) [] (fun ys _ => ys = [.g [.ints .u64 (4 : Nat) ([11819153939886771969, 14991950615390032711, 14910419812499177061, 259310039853996605] : List Int)]]) :=
  Body.of_fin (Γ := gam3) (Λ := noLam) (Ψ := noPsi) (fuel := 0) (m := 2) (c := (Try.f104.body.getD .skip)) mix tabOkNG gam3_ok rfl (rs := [.cell 0 104]) rfl rfl [] []
    (vc := []) (by kernel_rfl)
    (AllP_nil)

theorem radx_body (w : World) : Body Try.prog (tabOf tabNG) Try.f104 ⟨w, [], 0, noEnv⟩ (toA []) [] (fun ys _ => ys = [.g [.ints .u64 (4 : Nat) ([11819153939886771969, 14991950615390032711, 14910419812499177061, 259310039853996605] : List Int)]]) :=
  Body.lens (c := (Try.f104.body.getD .skip)) rfl fun h => radx_body0  w

theorem radx_pure : PureC Try.prog 104 [] [.g [.ints .u64 (4 : Nat) ([11819153939886771969, 14991950615390032711, 14910419812499177061, 259310039853996605] : List Int)]] :=
  PureC.of_body tabOkNG Try.func104 rfl rfl fun w => radx_body w

def gam4 : Gam := gpure 104 (fun args => match args with | [] => some (none, [.g [.ints .u64 (4 : Nat) ([11819153939886771969, 14991950615390032711, 14910419812499177061, 259310039853996605] : List Int)]]) | _ => none) gam3
theorem gam4_ok : GamOk Try.prog gam4 := gpure_ok gam3_ok Try.call104 (by
  intro args vc xs h hv
  split at h
  · simp only [Option.some.injEq, Prod.mk.injEq] at h; obtain ⟨rfl, rfl⟩ := h; exact ⟨_, by rfl, radx_pure⟩
  · simp at h)

end Go.Proofs.Ytcpoldghkiiggaa.X
