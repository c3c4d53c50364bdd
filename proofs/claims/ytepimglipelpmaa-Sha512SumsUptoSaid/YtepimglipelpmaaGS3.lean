/- Texts of this session, put together (part 3), less what nothing uses. -/
import Derived.Test.YtepimglipelpmaaGS2
import Derived.KernelRfl
/- Printed by a tool of this session. -/
namespace Go.Proofs.Ytepimglipelpmaa.X
open Go Go.Proofs
set_option linter.unusedVariables false
set_option linter.unusedSimpArgs false
set_option maxRecDepth 100000
theorem teSA_3 : TEOk Try.prog 3 ⟨.int .i64, 1, 8, [.i .i64 (0 : Int)], false⟩ :=
  TEOk.of Try.underlying3 (i := Try.t3) (by kernel_rfl) rfl rfl rfl (by kernel_rfl) (fun h => by cases h) (by kernel_rfl)
theorem teSA_5 : TEOk Try.prog 5 ⟨.int .u8, 1, 1, [.i .u8 (0 : Int)], false⟩ :=
  TEOk.of Try.underlying5 (i := Try.t5) (by kernel_rfl) rfl rfl rfl (by kernel_rfl) (fun h => by cases h) (by kernel_rfl)
theorem teSA_22 : TEOk Try.prog 22 ⟨.slice 5, 1, 24, [.raw (.slice none 0 0)], false⟩ :=
  TEOk.of Try.underlying22 (i := Try.t22) (by kernel_rfl) rfl rfl rfl (by kernel_rfl) (fun h => by cases h) (by kernel_rfl)
theorem teSA_52 : TEOk Try.prog 52 ⟨.int .u64, 1, 8, [.i .u64 (0 : Int)], false⟩ :=
  TEOk.of Try.underlying52 (i := Try.t52) (by kernel_rfl) rfl rfl rfl (by kernel_rfl) (fun h => by cases h) (by kernel_rfl)
theorem teSA_53 : TEOk Try.prog 53 ⟨.array 8 52, 8, 64, [.ints .u64 (8 : Nat) ([0, 0, 0, 0, 0, 0, 0, 0] : List Int)], true⟩ :=
  TEOk.of Try.underlying53 (i := Try.t53) (by kernel_rfl) rfl rfl rfl (by kernel_rfl) (fun _ => Try.eqGuardType53) (by kernel_rfl)
theorem teSA_65 : TEOk Try.prog 65 ⟨.array 80 52, 80, 640, [.ints .u64 (80 : Nat) (List.replicate (80 : Nat) (0 : Int))], true⟩ :=
  TEOk.of Try.underlying65 (i := Try.t65) (by kernel_rfl) rfl rfl rfl (by kernel_rfl) (fun _ => Try.eqGuardType65) (by kernel_rfl)
theorem teSA_82 : TEOk Try.prog 82 ⟨.int .u64, 1, 8, [.i .u64 (0 : Int)], false⟩ :=
  TEOk.of Try.underlying82 (i := Try.t82) (by kernel_rfl) rfl rfl rfl (by kernel_rfl) (fun h => by cases h) (by kernel_rfl)
noncomputable def tabSA : List (Nat × TE) := [(3, ⟨.int .i64, 1, 8, [.i .i64 (0 : Int)], false⟩), (5, ⟨.int .u8, 1, 1, [.i .u8 (0 : Int)], false⟩), (22, ⟨.slice 5, 1, 24, [.raw (.slice none 0 0)], false⟩), (52, ⟨.int .u64, 1, 8, [.i .u64 (0 : Int)], false⟩), (53, ⟨.array 8 52, 8, 64, [.ints .u64 (8 : Nat) ([0, 0, 0, 0, 0, 0, 0, 0] : List Int)], true⟩), (65, ⟨.array 80 52, 80, 640, [.ints .u64 (80 : Nat) (List.replicate (80 : Nat) (0 : Int))], true⟩), (82, ⟨.int .u64, 1, 8, [.i .u64 (0 : Int)], false⟩)]
theorem tabOkSA : TabOk Try.prog (tabOf tabSA) := (tabOf_cons teSA_3 (tabOf_cons teSA_5 (tabOf_cons teSA_22 (tabOf_cons teSA_52 (tabOf_cons teSA_53 (tabOf_cons teSA_65 (tabOf_cons teSA_82 tabOf_nil)))))))

def rotl (x k : Int) : Int :=
  (bits2 .or .u64 (shl .u64 x (bits2 .and .u64 (IntKind.u64.wrap k) (63 : Int))) (shr .u64 x (IntKind.u64.wrap ((64 : Int) - (bits2 .and .u64 (IntKind.u64.wrap k) (63 : Int))))))

set_option maxHeartbeats 1000000 in
theorem rotl_body0 (x k : Int) (w : World) : Body Try.prog (tabOf tabSA) Try.f106 ⟨w, [], 0, noEnv⟩ (toA [.a (.i .u64 x), .a (.i .i64 k)]) [] (fun ys _ => ys = [.a (.i .u64 (rotl x k))]) :=
  Body.of_fin (Γ := gnil) (Λ := noLam) (Ψ := noPsi) (fuel := 0) (m := 17) (c := (Try.f106.body.getD .skip)) mix tabOkSA gnil_ok rfl (rs := [.tmp 4]) rfl rfl [] []
    (vc := [((0 : Int) ≤ (IntKind.u64.wrap ((64 : Int) - (bits2 .and .u64 (IntKind.u64.wrap k) (63 : Int))))), ((0 : Int) ≤ (bits2 .and .u64 (IntKind.u64.wrap k) (63 : Int)))]) (by kernel_rfl)
    (aC (wrap_nn (k := .u64) rfl) (aC (bits2_nn (k := .u64) rfl) (AllP_nil)))

theorem rotl_body (x k : Int) (w : World) : Body Try.prog (tabOf tabSA) Try.f106 ⟨w, [], 0, noEnv⟩ (toA [.a (.i .u64 x), .a (.i .i64 k)]) [] (fun ys _ => ys = [.a (.i .u64 (rotl x k))]) :=
  Body.lens (c := (Try.f106.body.getD .skip)) rfl fun h => rotl_body0 x k  w

theorem rotl_pure (x k : Int) : PureC Try.prog 106 [.a (.i .u64 x), .a (.i .i64 k)] [.a (.i .u64 (rotl x k))] :=
  PureC.of_body tabOkSA Try.func106 rfl rfl fun w => rotl_body x k w

def gam1 : Gam := gpure 106 (fun args => match args with | [.o (.a (.i .u64 x)), .o (.a (.i .i64 k))] => some (none, [.a (.i .u64 (rotl x k))]) | _ => none) gnil
theorem gam1_ok : GamOk Try.prog gam1 := gpure_ok gnil_ok Try.call106 (by
  intro args vc xs h hv
  split at h
  · simp only [Option.some.injEq, Prod.mk.injEq] at h; obtain ⟨rfl, rfl⟩ := h; exact ⟨_, by rfl, rotl_pure _ _⟩
  · simp at h)

def ror (x n : Int) : Int :=
  (rotl x (IntKind.i64.wrap ((0 : Int) - n)))

set_option maxHeartbeats 1000000 in
theorem ror_body0 (x n : Int) (w : World) : Body Try.prog (tabOf tabSA) Try.f85 ⟨w, [], 0, noEnv⟩ (toA [.a (.i .u64 x), .a (.i .i64 n)]) [] (fun ys _ => ys = [.a (.i .u64 (ror x n))]) :=
  Body.of_fin (Γ := gam1) (Λ := noLam) (Ψ := noPsi) (fuel := 0) (m := 9) (c := (Try.f85.body.getD .skip)) mix tabOkSA gam1_ok rfl (rs := [.tmp 4]) rfl rfl [] []
    (vc := []) (by kernel_rfl)
    (AllP_nil)

theorem ror_body (x n : Int) (w : World) : Body Try.prog (tabOf tabSA) Try.f85 ⟨w, [], 0, noEnv⟩ (toA [.a (.i .u64 x), .a (.i .i64 n)]) [] (fun ys _ => ys = [.a (.i .u64 (ror x n))]) :=
  Body.lens (c := (Try.f85.body.getD .skip)) rfl fun h => ror_body0 x n  w

theorem ror_pure (x n : Int) : PureC Try.prog 85 [.a (.i .u64 x), .a (.i .i64 n)] [.a (.i .u64 (ror x n))] :=
  PureC.of_body tabOkSA Try.func85 rfl rfl fun w => ror_body x n w

def gam2 : Gam := gpure 85 (fun args => match args with | [.o (.a (.i .u64 x)), .o (.a (.i .i64 n))] => some (none, [.a (.i .u64 (ror x n))]) | _ => none) gam1
theorem gam2_ok : GamOk Try.prog gam2 := gpure_ok gam1_ok Try.call85 (by
  intro args vc xs h hv
  split at h
  · simp only [Option.some.injEq, Prod.mk.injEq] at h; obtain ⟨rfl, rfl⟩ := h; exact ⟨_, by rfl, ror_pure _ _⟩
  · simp at h)

def rorR (x n : Int) : Int :=
  (bits2 .or .u64 (shr .u64 x n) (shl .u64 x (IntKind.u64.wrap ((64 : Int) - n))))

set_option maxHeartbeats 1000000 in
theorem rorR_body0 (x n : Int) (h0 : ((0 : Int) ≤ n)) (w : World) : Body Try.prog (tabOf tabSA) Try.f84 ⟨w, [], 0, noEnv⟩ (toA [.a (.i .u64 x), .a (.i .u64 n)]) [] (fun ys _ => ys = [.a (.i .u64 (rorR x n))]) :=
  Body.of_fin (Γ := gam2) (Λ := noLam) (Ψ := noPsi) (fuel := 0) (m := 13) (c := (Try.f84.body.getD .skip)) mix tabOkSA gam2_ok rfl (rs := [.tmp 4]) rfl rfl [] []
    (vc := [((0 : Int) ≤ (IntKind.u64.wrap ((64 : Int) - n))), ((0 : Int) ≤ n)]) (by kernel_rfl)
    (aC (wrap_nn (k := .u64) rfl) (aC h0 (AllP_nil)))

theorem rorR_body (x n : Int) (h0 : ((0 : Int) ≤ n)) (w : World) : Body Try.prog (tabOf tabSA) Try.f84 ⟨w, [], 0, noEnv⟩ (toA [.a (.i .u64 x), .a (.i .u64 n)]) [] (fun ys _ => ys = [.a (.i .u64 (rorR x n))]) :=
  Body.lens (c := (Try.f84.body.getD .skip)) rfl fun h => rorR_body0 x n h0  w

theorem rorR_pure (x n : Int) (h0 : ((0 : Int) ≤ n)) : PureC Try.prog 84 [.a (.i .u64 x), .a (.i .u64 n)] [.a (.i .u64 (rorR x n))] :=
  PureC.of_body tabOkSA Try.func84 rfl rfl fun w => rorR_body x n h0 w

def gam3 : Gam := gpure 84 (fun args => match args with | [.o (.a (.i .u64 x)), .o (.a (.i .u64 n))] => some (some (((0 : Int) ≤ n)), [.a (.i .u64 (rorR x n))]) | _ => none) gam2
theorem gam3_ok : GamOk Try.prog gam3 := gpure_ok gam2_ok Try.call84 (by
  intro args vc xs h hv
  split at h
  · simp only [Option.some.injEq, Prod.mk.injEq] at h; obtain ⟨rfl, rfl⟩ := h; exact ⟨_, by rfl, rorR_pure _ _ hv⟩
  · simp at h)

def konst : List Int :=
  (List.set (List.set (List.set (List.set (List.set (List.set (List.set (List.set (List.set (List.set (List.set (List.set (List.set (List.set (List.set (List.set (List.set (List.set (List.set (List.set (List.set (List.set (List.set (List.set (List.set (List.set (List.set (List.set (List.set (List.set (List.set (List.set (List.set (List.set (List.set (List.set (List.set (List.set (List.set (List.set (List.set (List.set (List.set (List.set (List.set (List.set (List.set (List.set (List.set (List.set (List.set (List.set (List.set (List.set (List.set (List.set (List.set (List.set (List.set (List.set (List.set (List.set (List.set (List.set (List.set (List.set (List.set (List.set (List.set (List.set (List.set (List.set (List.set (List.set (List.set (List.set (List.set (List.set (List.set (List.set (List.replicate (80 : Nat) (0 : Int)) (0 : Nat) (4794697086780616226 : Int)) (1 : Nat) (8158064640168781261 : Int)) (2 : Nat) (13096744586834688815 : Int)) (3 : Nat) (16840607885511220156 : Int)) (4 : Nat) (4131703408338449720 : Int)) (5 : Nat) (6480981068601479193 : Int)) (6 : Nat) (10538285296894168987 : Int)) (7 : Nat) (12329834152419229976 : Int)) (8 : Nat) (15566598209576043074 : Int)) (9 : Nat) (1334009975649890238 : Int)) (10 : Nat) (2608012711638119052 : Int)) (11 : Nat) (6128411473006802146 : Int)) (12 : Nat) (8268148722764581231 : Int)) (13 : Nat) (9286055187155687089 : Int)) (14 : Nat) (11230858885718282805 : Int)) (15 : Nat) (13951009754708518548 : Int)) (16 : Nat) (16472876342353939154 : Int)) (17 : Nat) (17275323862435702243 : Int)) (18 : Nat) (1135362057144423861 : Int)) (19 : Nat) (2597628984639134821 : Int)) (20 : Nat) (3308224258029322869 : Int)) (21 : Nat) (5365058923640841347 : Int)) (22 : Nat) (6679025012923562964 : Int)) (23 : Nat) (8573033837759648693 : Int)) (24 : Nat) (10970295158949994411 : Int)) (25 : Nat) (12119686244451234320 : Int)) (26 : Nat) (12683024718118986047 : Int)) (27 : Nat) (13788192230050041572 : Int)) (28 : Nat) (14330467153632333762 : Int)) (29 : Nat) (15395433587784984357 : Int)) (30 : Nat) (489312712824947311 : Int)) (31 : Nat) (1452737877330783856 : Int)) (32 : Nat) (2861767655752347644 : Int)) (33 : Nat) (3322285676063803686 : Int)) (34 : Nat) (5560940570517711597 : Int)) (35 : Nat) (5996557281743188959 : Int)) (36 : Nat) (7280758554555802590 : Int)) (37 : Nat) (8532644243296465576 : Int)) (38 : Nat) (9350256976987008742 : Int)) (39 : Nat) (10552545826968843579 : Int)) (40 : Nat) (11727347734174303076 : Int)) (41 : Nat) (12113106623233404929 : Int)) (42 : Nat) (14000437183269869457 : Int)) (43 : Nat) (14369950271660146224 : Int)) (44 : Nat) (15101387698204529176 : Int)) (45 : Nat) (15463397548674623760 : Int)) (46 : Nat) (17586052441742319658 : Int)) (47 : Nat) (1182934255886127544 : Int)) (48 : Nat) (1847814050463011016 : Int)) (49 : Nat) (2177327727835720531 : Int)) (50 : Nat) (2830643537854262169 : Int)) (51 : Nat) (3796741975233480872 : Int)) (52 : Nat) (4115178125766777443 : Int)) (53 : Nat) (5681478168544905931 : Int)) (54 : Nat) (6601373596472566643 : Int)) (55 : Nat) (7507060721942968483 : Int)) (56 : Nat) (8399075790359081724 : Int)) (57 : Nat) (8693463985226723168 : Int)) (58 : Nat) (9568029438360202098 : Int)) (59 : Nat) (10144078919501101548 : Int)) (60 : Nat) (10430055236837252648 : Int)) (61 : Nat) (11840083180663258601 : Int)) (62 : Nat) (13761210420658862357 : Int)) (63 : Nat) (14299343276471374635 : Int)) (64 : Nat) (14566680578165727644 : Int)) (65 : Nat) (15097957966210449927 : Int)) (66 : Nat) (16922976911328602910 : Int)) (67 : Nat) (17689382322260857208 : Int)) (68 : Nat) (500013540394364858 : Int)) (69 : Nat) (748580250866718886 : Int)) (70 : Nat) (1242879168328830382 : Int)) (71 : Nat) (1977374033974150939 : Int)) (72 : Nat) (2944078676154940804 : Int)) (73 : Nat) (3659926193048069267 : Int)) (74 : Nat) (4368137639120453308 : Int)) (75 : Nat) (4836135668995329356 : Int)) (76 : Nat) (5532061633213252278 : Int)) (77 : Nat) (6448918945643986474 : Int)) (78 : Nat) (6902733635092675308 : Int)) (79 : Nat) (7801388544844847127 : Int))

set_option maxHeartbeats 1000000 in
theorem konst_body0 (w : World) : Body Try.prog (tabOf tabSA) Try.f25 ⟨w, [], 0, noEnv⟩ (toA []) [] (fun ys _ => ys = [.g [.ints .u64 (80 : Nat) (konst)]]) :=
  Body.of_fin (Γ := gam3) (Λ := noLam) (Ψ := noPsi) (fuel := 0) (m := 2) (c := (Try.f25.body.getD .skip)) mix tabOkSA gam3_ok rfl (rs := [.cell 0 65]) rfl rfl [] []
    (vc := []) (by kernel_rfl)
    (AllP_nil)

theorem konst_body (w : World) : Body Try.prog (tabOf tabSA) Try.f25 ⟨w, [], 0, noEnv⟩ (toA []) [] (fun ys _ => ys = [.g [.ints .u64 (80 : Nat) (konst)]]) :=
  Body.lens (c := (Try.f25.body.getD .skip)) rfl fun h => konst_body0  w

theorem konst_pure : PureC Try.prog 25 [] [.g [.ints .u64 (80 : Nat) (konst)]] :=
  PureC.of_body tabOkSA Try.func25 rfl rfl fun w => konst_body w

def gam4 : Gam := gpure 25 (fun args => match args with | [] => some (none, [.g [.ints .u64 (80 : Nat) (konst)]]) | _ => none) gam3
theorem gam4_ok : GamOk Try.prog gam4 := gpure_ok gam3_ok Try.call25 (by
  intro args vc xs h hv
  split at h
  · simp only [Option.some.injEq, Prod.mk.injEq] at h; obtain ⟨rfl, rfl⟩ := h; exact ⟨_, by rfl, konst_pure⟩
  · simp at h)

def konstR : List Int :=
  (List.set (List.set (List.set (List.set (List.set (List.set (List.set (List.set (List.set (List.set (List.set (List.set (List.set (List.set (List.set (List.set (List.set (List.set (List.set (List.set (List.set (List.set (List.set (List.set (List.set (List.set (List.set (List.set (List.set (List.set (List.set (List.set (List.set (List.set (List.set (List.set (List.set (List.set (List.set (List.set (List.set (List.set (List.set (List.set (List.set (List.set (List.set (List.set (List.set (List.set (List.set (List.set (List.set (List.set (List.set (List.set (List.set (List.set (List.set (List.set (List.set (List.set (List.set (List.set (List.set (List.set (List.set (List.set (List.set (List.set (List.set (List.set (List.set (List.set (List.set (List.set (List.set (List.set (List.set (List.set (List.replicate (80 : Nat) (0 : Int)) (0 : Nat) (4794697086780616226 : Int)) (1 : Nat) (8158064640168781261 : Int)) (2 : Nat) (13096744586834688815 : Int)) (3 : Nat) (16840607885511220156 : Int)) (4 : Nat) (4131703408338449720 : Int)) (5 : Nat) (6480981068601479193 : Int)) (6 : Nat) (10538285296894168987 : Int)) (7 : Nat) (12329834152419229976 : Int)) (8 : Nat) (15566598209576043074 : Int)) (9 : Nat) (1334009975649890238 : Int)) (10 : Nat) (2608012711638119052 : Int)) (11 : Nat) (6128411473006802146 : Int)) (12 : Nat) (8268148722764581231 : Int)) (13 : Nat) (9286055187155687089 : Int)) (14 : Nat) (11230858885718282805 : Int)) (15 : Nat) (13951009754708518548 : Int)) (16 : Nat) (16472876342353939154 : Int)) (17 : Nat) (17275323862435702243 : Int)) (18 : Nat) (1135362057144423861 : Int)) (19 : Nat) (2597628984639134821 : Int)) (20 : Nat) (3308224258029322869 : Int)) (21 : Nat) (5365058923640841347 : Int)) (22 : Nat) (6679025012923562964 : Int)) (23 : Nat) (8573033837759648693 : Int)) (24 : Nat) (10970295158949994411 : Int)) (25 : Nat) (12119686244451234320 : Int)) (26 : Nat) (12683024718118986047 : Int)) (27 : Nat) (13788192230050041572 : Int)) (28 : Nat) (14330467153632333762 : Int)) (29 : Nat) (15395433587784984357 : Int)) (30 : Nat) (489312712824947311 : Int)) (31 : Nat) (1452737877330783856 : Int)) (32 : Nat) (2861767655752347644 : Int)) (33 : Nat) (3322285676063803686 : Int)) (34 : Nat) (5560940570517711597 : Int)) (35 : Nat) (5996557281743188959 : Int)) (36 : Nat) (7280758554555802590 : Int)) (37 : Nat) (8532644243296465576 : Int)) (38 : Nat) (9350256976987008742 : Int)) (39 : Nat) (10552545826968843579 : Int)) (40 : Nat) (11727347734174303076 : Int)) (41 : Nat) (12113106623233404929 : Int)) (42 : Nat) (14000437183269869457 : Int)) (43 : Nat) (14369950271660146224 : Int)) (44 : Nat) (15101387698204529176 : Int)) (45 : Nat) (15463397548674623760 : Int)) (46 : Nat) (17586052441742319658 : Int)) (47 : Nat) (1182934255886127544 : Int)) (48 : Nat) (1847814050463011016 : Int)) (49 : Nat) (2177327727835720531 : Int)) (50 : Nat) (2830643537854262169 : Int)) (51 : Nat) (3796741975233480872 : Int)) (52 : Nat) (4115178125766777443 : Int)) (53 : Nat) (5681478168544905931 : Int)) (54 : Nat) (6601373596472566643 : Int)) (55 : Nat) (7507060721942968483 : Int)) (56 : Nat) (8399075790359081724 : Int)) (57 : Nat) (8693463985226723168 : Int)) (58 : Nat) (9568029438360202098 : Int)) (59 : Nat) (10144078919501101548 : Int)) (60 : Nat) (10430055236837252648 : Int)) (61 : Nat) (11840083180663258601 : Int)) (62 : Nat) (13761210420658862357 : Int)) (63 : Nat) (14299343276471374635 : Int)) (64 : Nat) (14566680578165727644 : Int)) (65 : Nat) (15097957966210449927 : Int)) (66 : Nat) (16922976911328602910 : Int)) (67 : Nat) (17689382322260857208 : Int)) (68 : Nat) (500013540394364858 : Int)) (69 : Nat) (748580250866718886 : Int)) (70 : Nat) (1242879168328830382 : Int)) (71 : Nat) (1977374033974150939 : Int)) (72 : Nat) (2944078676154940804 : Int)) (73 : Nat) (3659926193048069267 : Int)) (74 : Nat) (4368137639120453308 : Int)) (75 : Nat) (4836135668995329356 : Int)) (76 : Nat) (5532061633213252278 : Int)) (77 : Nat) (6448918945643986474 : Int)) (78 : Nat) (6902733635092675308 : Int)) (79 : Nat) (7801388544844847127 : Int))

set_option maxHeartbeats 1000000 in
theorem konstR_body0 (w : World) : Body Try.prog (tabOf tabSA) Try.f26 ⟨w, [], 0, noEnv⟩ (toA []) [] (fun ys _ => ys = [.g [.ints .u64 (80 : Nat) (konstR)]]) :=
  Body.of_fin (Γ := gam4) (Λ := noLam) (Ψ := noPsi) (fuel := 0) (m := 2) (c := (Try.f26.body.getD .skip)) mix tabOkSA gam4_ok rfl (rs := [.cell 0 65]) rfl rfl [] []
    (vc := []) (by kernel_rfl)
    (AllP_nil)

theorem konstR_body (w : World) : Body Try.prog (tabOf tabSA) Try.f26 ⟨w, [], 0, noEnv⟩ (toA []) [] (fun ys _ => ys = [.g [.ints .u64 (80 : Nat) (konstR)]]) :=
  Body.lens (c := (Try.f26.body.getD .skip)) rfl fun h => konstR_body0  w

theorem konstR_pure : PureC Try.prog 26 [] [.g [.ints .u64 (80 : Nat) (konstR)]] :=
  PureC.of_body tabOkSA Try.func26 rfl rfl fun w => konstR_body w

def gam5 : Gam := gpure 26 (fun args => match args with | [] => some (none, [.g [.ints .u64 (80 : Nat) (konstR)]]) | _ => none) gam4
theorem gam5_ok : GamOk Try.prog gam5 := gpure_ok gam4_ok Try.call26 (by
  intro args vc xs h hv
  split at h
  · simp only [Option.some.injEq, Prod.mk.injEq] at h; obtain ⟨rfl, rfl⟩ := h; exact ⟨_, by rfl, konstR_pure⟩
  · simp at h)

set_option maxHeartbeats 1000000 in
theorem beg_body0 (w : World) : Body Try.prog (tabOf tabSA) Try.f62 ⟨w, [], 0, noEnv⟩ (toA []) [] (fun ys _ => ys = [.g [.ints .u64 (8 : Nat) ([7640891576956012808, 13503953896175478587, 4354685564936845355, 11912009170470909681, 5840696475078001361, 11170449401992604703, 2270897969802886507, 6620516959819538809] : List Int)]]) :=
  Body.of_fin (Γ := gam5) (Λ := noLam) (Ψ := noPsi) (fuel := 0) (m := 2) (c := (Try.f62.body.getD .skip)) mix tabOkSA gam5_ok rfl (rs := [.cell 0 53]) rfl rfl [] []
    (vc := []) (by kernel_rfl)
    (AllP_nil)

theorem beg_body (w : World) : Body Try.prog (tabOf tabSA) Try.f62 ⟨w, [], 0, noEnv⟩ (toA []) [] (fun ys _ => ys = [.g [.ints .u64 (8 : Nat) ([7640891576956012808, 13503953896175478587, 4354685564936845355, 11912009170470909681, 5840696475078001361, 11170449401992604703, 2270897969802886507, 6620516959819538809] : List Int)]]) :=
  Body.lens (c := (Try.f62.body.getD .skip)) rfl fun h => beg_body0  w

theorem beg_pure : PureC Try.prog 62 [] [.g [.ints .u64 (8 : Nat) ([7640891576956012808, 13503953896175478587, 4354685564936845355, 11912009170470909681, 5840696475078001361, 11170449401992604703, 2270897969802886507, 6620516959819538809] : List Int)]] :=
  PureC.of_body tabOkSA Try.func62 rfl rfl fun w => beg_body w

def gam6 : Gam := gpure 62 (fun args => match args with | [] => some (none, [.g [.ints .u64 (8 : Nat) ([7640891576956012808, 13503953896175478587, 4354685564936845355, 11912009170470909681, 5840696475078001361, 11170449401992604703, 2270897969802886507, 6620516959819538809] : List Int)]]) | _ => none) gam5
theorem gam6_ok : GamOk Try.prog gam6 := gpure_ok gam5_ok Try.call62 (by
  intro args vc xs h hv
  split at h
  · simp only [Option.some.injEq, Prod.mk.injEq] at h; obtain ⟨rfl, rfl⟩ := h; exact ⟨_, by rfl, beg_pure⟩
  · simp at h)

set_option maxHeartbeats 1000000 in
theorem wordsR_body0 (w : World) : Body Try.prog (tabOf tabSA) Try.f37 ⟨w, [], 0, noEnv⟩ (toA []) [] (fun ys _ => ys = [.g [.ints .u64 (8 : Nat) ([7640891576956012808, 13503953896175478587, 4354685564936845355, 11912009170470909681, 5840696475078001361, 11170449401992604703, 2270897969802886507, 6620516959819538809] : List Int)]]) :=
  Body.of_fin (Γ := gam6) (Λ := noLam) (Ψ := noPsi) (fuel := 0) (m := 2) (c := (Try.f37.body.getD .skip)) mix tabOkSA gam6_ok rfl (rs := [.cell 0 53]) rfl rfl [] []
    (vc := []) (by kernel_rfl)
    (AllP_nil)

theorem wordsR_body (w : World) : Body Try.prog (tabOf tabSA) Try.f37 ⟨w, [], 0, noEnv⟩ (toA []) [] (fun ys _ => ys = [.g [.ints .u64 (8 : Nat) ([7640891576956012808, 13503953896175478587, 4354685564936845355, 11912009170470909681, 5840696475078001361, 11170449401992604703, 2270897969802886507, 6620516959819538809] : List Int)]]) :=
  Body.lens (c := (Try.f37.body.getD .skip)) rfl fun h => wordsR_body0  w

theorem wordsR_pure : PureC Try.prog 37 [] [.g [.ints .u64 (8 : Nat) ([7640891576956012808, 13503953896175478587, 4354685564936845355, 11912009170470909681, 5840696475078001361, 11170449401992604703, 2270897969802886507, 6620516959819538809] : List Int)]] :=
  PureC.of_body tabOkSA Try.func37 rfl rfl fun w => wordsR_body w

def gam7 : Gam := gpure 37 (fun args => match args with | [] => some (none, [.g [.ints .u64 (8 : Nat) ([7640891576956012808, 13503953896175478587, 4354685564936845355, 11912009170470909681, 5840696475078001361, 11170449401992604703, 2270897969802886507, 6620516959819538809] : List Int)]]) | _ => none) gam6
theorem gam7_ok : GamOk Try.prog gam7 := gpure_ok gam6_ok Try.call37 (by
  intro args vc xs h hv
  split at h
  · simp only [Option.some.injEq, Prod.mk.injEq] at h; obtain ⟨rfl, rfl⟩ := h; exact ⟨_, by rfl, wordsR_pure⟩
  · simp at h)

def bW1_mk (S : List Int) (n nm : Nat) (b C : List Int) (cap0 k : Nat) (s : (List Int)) : St := ⟨sparse 182 [(0, .o (.g [.ints .u64 (8 : Nat) S])), (1, .o (.a (.sl 0 0 n cap0))), (2, .o (.a (.p 1 0))), (3, .o (.a (.p 2 0))), (6, .o (.a (.p 3 0))), (7, .o (.a (.p 4 0))), (20, .o (.a (.i .i64 ((k : Nat) : Int))))], [some ⟨false, [.ints .u8 nm b]⟩, some ⟨false, [.ints .u64 (80 : Nat) C]⟩, some ⟨true, [.ints .u64 (8 : Nat) S]⟩, some ⟨true, [.ints .u64 (8 : Nat) ([0, 0, 0, 0, 0, 0, 0, 0] : List Int)]⟩, some ⟨true, [.ints .u64 (80 : Nat) s]⟩]⟩

def bW1_step (b : List Int) (k : Nat) (s : (List Int)) : (List Int) :=
  let z0 : Int := (IntKind.i64.wrap ((8 : Int) * ((k : Nat) : Int)))
  let z1 : List Int := (List.set s k (bits2 .or .u64 (shl .u64 (List.getD s k 0) (8 : Int)) (IntKind.u64.wrap (List.getD b (Int.toNat (IntKind.i64.wrap (z0 + (0 : Int)))) 0))))
  let z2 : List Int := (List.set z1 k (bits2 .or .u64 (shl .u64 (List.getD z1 k 0) (8 : Int)) (IntKind.u64.wrap (List.getD b (Int.toNat (IntKind.i64.wrap (z0 + (1 : Int)))) 0))))
  let z3 : List Int := (List.set z2 k (bits2 .or .u64 (shl .u64 (List.getD z2 k 0) (8 : Int)) (IntKind.u64.wrap (List.getD b (Int.toNat (IntKind.i64.wrap (z0 + (2 : Int)))) 0))))
  let z4 : List Int := (List.set z3 k (bits2 .or .u64 (shl .u64 (List.getD z3 k 0) (8 : Int)) (IntKind.u64.wrap (List.getD b (Int.toNat (IntKind.i64.wrap (z0 + (3 : Int)))) 0))))
  let z5 : List Int := (List.set z4 k (bits2 .or .u64 (shl .u64 (List.getD z4 k 0) (8 : Int)) (IntKind.u64.wrap (List.getD b (Int.toNat (IntKind.i64.wrap (z0 + (4 : Int)))) 0))))
  let z6 : List Int := (List.set z5 k (bits2 .or .u64 (shl .u64 (List.getD z5 k 0) (8 : Int)) (IntKind.u64.wrap (List.getD b (Int.toNat (IntKind.i64.wrap (z0 + (5 : Int)))) 0))))
  let z7 : List Int := (List.set z6 k (bits2 .or .u64 (shl .u64 (List.getD z6 k 0) (8 : Int)) (IntKind.u64.wrap (List.getD b (Int.toNat (IntKind.i64.wrap (z0 + (6 : Int)))) 0))))
  ((List.set z7 k (bits2 .or .u64 (shl .u64 (List.getD z7 k 0) (8 : Int)) (IntKind.u64.wrap (List.getD b (Int.toNat (IntKind.i64.wrap (z0 + (7 : Int)))) 0)))))

set_option maxHeartbeats 1000000 in
theorem bW1_round (S : List Int) (n nm : Nat) (b C : List Int) (cap0 : Nat) (h0 : (nm = n)) (h1 : (n = (128 : Nat))) (hc0 : n ≤ cap0) (hl0_0 : List.length b = nm) (hl1_0 : List.length C = (80 : Nat)) (hv0 : List.length S = (8 : Nat)) (w : World) (β : Env) (k : Nat) (hk : k < (16 : Nat)) (s : (List Int)) : Run Try.prog ⟨w, [], 2, β⟩ (loopB Try.f59 0) (bW1_mk S n nm b C cap0 k s) (To ⟨w, [], 2, β⟩ .normal (bW1_mk S n nm b C cap0 (k + 1) (bW1_step b k s))) := by
  have e0 : (IntKind.i64.wrap (((k : Nat) : Int) + (1 : Int))) = (((k + (1 : Nat)) : Nat) : Int) := (by first | rfl | exact wrap_succ (by omega) | omega | (simp (disch := omega) only [wrapI]; omega))
  have h := Run.of_outT (B := ⟨w, [], 2, β⟩) (Λ := noLam) (Ψ := noPsi) (fuel := 9) (ora := [true, true, true, true, true, true, true, true, true, false]) (c := (loopB Try.f59 0)) (st := (bW1_mk S n nm b C cap0 k s)) (l := [.forget [0, 1, 2, 3, 6, 7, 20] 5]) (s' := ⟨sparse 182 [(0, .o (.g [.ints .u64 (8 : Nat) S])), (1, .o (.a (.sl 0 0 n cap0))), (2, .o (.a (.p 1 0))), (3, .o (.a (.p 2 0))), (6, .o (.a (.p 3 0))), (7, .o (.a (.p 4 0))), (20, .o (.a (.i .i64 (IntKind.i64.wrap (((k : Nat) : Int) + (1 : Int))))))], [some ⟨false, [.ints .u8 nm b]⟩, some ⟨false, [.ints .u64 (80 : Nat) C]⟩, some ⟨true, [.ints .u64 (8 : Nat) S]⟩, some ⟨true, [.ints .u64 (8 : Nat) ([0, 0, 0, 0, 0, 0, 0, 0] : List Int)]⟩, some ⟨true, [.ints .u64 (80 : Nat) (bW1_step b k s)]⟩]⟩) (ex := .normal) mix tabOkSA gam7_ok
    (vc := [(false = false), (k < (80 : Nat)), (((0 : Int) ≤ ((k : Nat) : Int)) ∧ (((k : Nat) : Int) < (80 : Int))), ((Int.toNat (IntKind.i64.wrap ((IntKind.i64.wrap ((8 : Int) * ((k : Nat) : Int))) + (7 : Int)))) < nm), (((0 : Int) ≤ (IntKind.i64.wrap ((IntKind.i64.wrap ((8 : Int) * ((k : Nat) : Int))) + (7 : Int)))) ∧ ((IntKind.i64.wrap ((IntKind.i64.wrap ((8 : Int) * ((k : Nat) : Int))) + (7 : Int))) < ((n : Nat) : Int))), ((0 : Int) ≤ (8 : Int)), (k < (80 : Nat)), (((0 : Int) ≤ ((k : Nat) : Int)) ∧ (((k : Nat) : Int) < (80 : Int))), (true = true), (k < (80 : Nat)), (((0 : Int) ≤ ((k : Nat) : Int)) ∧ (((k : Nat) : Int) < (80 : Int))), ((Int.toNat (IntKind.i64.wrap ((IntKind.i64.wrap ((8 : Int) * ((k : Nat) : Int))) + (6 : Int)))) < nm), (((0 : Int) ≤ (IntKind.i64.wrap ((IntKind.i64.wrap ((8 : Int) * ((k : Nat) : Int))) + (6 : Int)))) ∧ ((IntKind.i64.wrap ((IntKind.i64.wrap ((8 : Int) * ((k : Nat) : Int))) + (6 : Int))) < ((n : Nat) : Int))), ((0 : Int) ≤ (8 : Int)), (k < (80 : Nat)), (((0 : Int) ≤ ((k : Nat) : Int)) ∧ (((k : Nat) : Int) < (80 : Int))), (true = true), (k < (80 : Nat)), (((0 : Int) ≤ ((k : Nat) : Int)) ∧ (((k : Nat) : Int) < (80 : Int))), ((Int.toNat (IntKind.i64.wrap ((IntKind.i64.wrap ((8 : Int) * ((k : Nat) : Int))) + (5 : Int)))) < nm), (((0 : Int) ≤ (IntKind.i64.wrap ((IntKind.i64.wrap ((8 : Int) * ((k : Nat) : Int))) + (5 : Int)))) ∧ ((IntKind.i64.wrap ((IntKind.i64.wrap ((8 : Int) * ((k : Nat) : Int))) + (5 : Int))) < ((n : Nat) : Int))), ((0 : Int) ≤ (8 : Int)), (k < (80 : Nat)), (((0 : Int) ≤ ((k : Nat) : Int)) ∧ (((k : Nat) : Int) < (80 : Int))), (true = true), (k < (80 : Nat)), (((0 : Int) ≤ ((k : Nat) : Int)) ∧ (((k : Nat) : Int) < (80 : Int))), ((Int.toNat (IntKind.i64.wrap ((IntKind.i64.wrap ((8 : Int) * ((k : Nat) : Int))) + (4 : Int)))) < nm), (((0 : Int) ≤ (IntKind.i64.wrap ((IntKind.i64.wrap ((8 : Int) * ((k : Nat) : Int))) + (4 : Int)))) ∧ ((IntKind.i64.wrap ((IntKind.i64.wrap ((8 : Int) * ((k : Nat) : Int))) + (4 : Int))) < ((n : Nat) : Int))), ((0 : Int) ≤ (8 : Int)), (k < (80 : Nat)), (((0 : Int) ≤ ((k : Nat) : Int)) ∧ (((k : Nat) : Int) < (80 : Int))), (true = true), (k < (80 : Nat)), (((0 : Int) ≤ ((k : Nat) : Int)) ∧ (((k : Nat) : Int) < (80 : Int))), ((Int.toNat (IntKind.i64.wrap ((IntKind.i64.wrap ((8 : Int) * ((k : Nat) : Int))) + (3 : Int)))) < nm), (((0 : Int) ≤ (IntKind.i64.wrap ((IntKind.i64.wrap ((8 : Int) * ((k : Nat) : Int))) + (3 : Int)))) ∧ ((IntKind.i64.wrap ((IntKind.i64.wrap ((8 : Int) * ((k : Nat) : Int))) + (3 : Int))) < ((n : Nat) : Int))), ((0 : Int) ≤ (8 : Int)), (k < (80 : Nat)), (((0 : Int) ≤ ((k : Nat) : Int)) ∧ (((k : Nat) : Int) < (80 : Int))), (true = true), (k < (80 : Nat)), (((0 : Int) ≤ ((k : Nat) : Int)) ∧ (((k : Nat) : Int) < (80 : Int))), ((Int.toNat (IntKind.i64.wrap ((IntKind.i64.wrap ((8 : Int) * ((k : Nat) : Int))) + (2 : Int)))) < nm), (((0 : Int) ≤ (IntKind.i64.wrap ((IntKind.i64.wrap ((8 : Int) * ((k : Nat) : Int))) + (2 : Int)))) ∧ ((IntKind.i64.wrap ((IntKind.i64.wrap ((8 : Int) * ((k : Nat) : Int))) + (2 : Int))) < ((n : Nat) : Int))), ((0 : Int) ≤ (8 : Int)), (k < (80 : Nat)), (((0 : Int) ≤ ((k : Nat) : Int)) ∧ (((k : Nat) : Int) < (80 : Int))), (true = true), (k < (80 : Nat)), (((0 : Int) ≤ ((k : Nat) : Int)) ∧ (((k : Nat) : Int) < (80 : Int))), ((Int.toNat (IntKind.i64.wrap ((IntKind.i64.wrap ((8 : Int) * ((k : Nat) : Int))) + (1 : Int)))) < nm), (((0 : Int) ≤ (IntKind.i64.wrap ((IntKind.i64.wrap ((8 : Int) * ((k : Nat) : Int))) + (1 : Int)))) ∧ ((IntKind.i64.wrap ((IntKind.i64.wrap ((8 : Int) * ((k : Nat) : Int))) + (1 : Int))) < ((n : Nat) : Int))), ((0 : Int) ≤ (8 : Int)), (k < (80 : Nat)), (((0 : Int) ≤ ((k : Nat) : Int)) ∧ (((k : Nat) : Int) < (80 : Int))), (true = true), (k < (80 : Nat)), (((0 : Int) ≤ ((k : Nat) : Int)) ∧ (((k : Nat) : Int) < (80 : Int))), ((Int.toNat (IntKind.i64.wrap ((IntKind.i64.wrap ((8 : Int) * ((k : Nat) : Int))) + (0 : Int)))) < nm), (((0 : Int) ≤ (IntKind.i64.wrap ((IntKind.i64.wrap ((8 : Int) * ((k : Nat) : Int))) + (0 : Int)))) ∧ ((IntKind.i64.wrap ((IntKind.i64.wrap ((8 : Int) * ((k : Nat) : Int))) + (0 : Int))) < ((n : Nat) : Int))), ((0 : Int) ≤ (8 : Int)), (k < (80 : Nat)), (((0 : Int) ≤ ((k : Nat) : Int)) ∧ (((k : Nat) : Int) < (80 : Int))), (true = true), ((decide (((k : Nat) : Int) < (16 : Int))) = true)]) (by kernel_rfl)
    (aC rfl (aC (by first | omega | (simp (disch := omega) only [wrapI]; omega)) (aC ⟨(by first | omega | (simp (disch := omega) only [wrapI]; omega)), (by first | omega | (simp (disch := omega) only [wrapI]; omega))⟩ (aC (by first | omega | (simp (disch := omega) only [wrapI]; omega)) (aC ⟨(by first | omega | (simp (disch := omega) only [wrapI]; omega)), (by first | omega | (simp (disch := omega) only [wrapI]; omega))⟩ (aC (by decide) (aC (by first | omega | (simp (disch := omega) only [wrapI]; omega)) (aC ⟨(by first | omega | (simp (disch := omega) only [wrapI]; omega)), (by first | omega | (simp (disch := omega) only [wrapI]; omega))⟩ (aC rfl (aC (by first | omega | (simp (disch := omega) only [wrapI]; omega)) (aC ⟨(by first | omega | (simp (disch := omega) only [wrapI]; omega)), (by first | omega | (simp (disch := omega) only [wrapI]; omega))⟩ (aC (by first | omega | (simp (disch := omega) only [wrapI]; omega)) (aC ⟨(by first | omega | (simp (disch := omega) only [wrapI]; omega)), (by first | omega | (simp (disch := omega) only [wrapI]; omega))⟩ (aC (by decide) (aC (by first | omega | (simp (disch := omega) only [wrapI]; omega)) (aC ⟨(by first | omega | (simp (disch := omega) only [wrapI]; omega)), (by first | omega | (simp (disch := omega) only [wrapI]; omega))⟩ (aC rfl (aC (by first | omega | (simp (disch := omega) only [wrapI]; omega)) (aC ⟨(by first | omega | (simp (disch := omega) only [wrapI]; omega)), (by first | omega | (simp (disch := omega) only [wrapI]; omega))⟩ (aC (by first | omega | (simp (disch := omega) only [wrapI]; omega)) (aC ⟨(by first | omega | (simp (disch := omega) only [wrapI]; omega)), (by first | omega | (simp (disch := omega) only [wrapI]; omega))⟩ (aC (by decide) (aC (by first | omega | (simp (disch := omega) only [wrapI]; omega)) (aC ⟨(by first | omega | (simp (disch := omega) only [wrapI]; omega)), (by first | omega | (simp (disch := omega) only [wrapI]; omega))⟩ (aC rfl (aC (by first | omega | (simp (disch := omega) only [wrapI]; omega)) (aC ⟨(by first | omega | (simp (disch := omega) only [wrapI]; omega)), (by first | omega | (simp (disch := omega) only [wrapI]; omega))⟩ (aC (by first | omega | (simp (disch := omega) only [wrapI]; omega)) (aC ⟨(by first | omega | (simp (disch := omega) only [wrapI]; omega)), (by first | omega | (simp (disch := omega) only [wrapI]; omega))⟩ (aC (by decide) (aC (by first | omega | (simp (disch := omega) only [wrapI]; omega)) (aC ⟨(by first | omega | (simp (disch := omega) only [wrapI]; omega)), (by first | omega | (simp (disch := omega) only [wrapI]; omega))⟩ (aC rfl (aC (by first | omega | (simp (disch := omega) only [wrapI]; omega)) (aC ⟨(by first | omega | (simp (disch := omega) only [wrapI]; omega)), (by first | omega | (simp (disch := omega) only [wrapI]; omega))⟩ (aC (by first | omega | (simp (disch := omega) only [wrapI]; omega)) (aC ⟨(by first | omega | (simp (disch := omega) only [wrapI]; omega)), (by first | omega | (simp (disch := omega) only [wrapI]; omega))⟩ (aC (by decide) (aC (by first | omega | (simp (disch := omega) only [wrapI]; omega)) (aC ⟨(by first | omega | (simp (disch := omega) only [wrapI]; omega)), (by first | omega | (simp (disch := omega) only [wrapI]; omega))⟩ (aC rfl (aC (by first | omega | (simp (disch := omega) only [wrapI]; omega)) (aC ⟨(by first | omega | (simp (disch := omega) only [wrapI]; omega)), (by first | omega | (simp (disch := omega) only [wrapI]; omega))⟩ (aC (by first | omega | (simp (disch := omega) only [wrapI]; omega)) (aC ⟨(by first | omega | (simp (disch := omega) only [wrapI]; omega)), (by first | omega | (simp (disch := omega) only [wrapI]; omega))⟩ (aC (by decide) (aC (by first | omega | (simp (disch := omega) only [wrapI]; omega)) (aC ⟨(by first | omega | (simp (disch := omega) only [wrapI]; omega)), (by first | omega | (simp (disch := omega) only [wrapI]; omega))⟩ (aC rfl (aC (by first | omega | (simp (disch := omega) only [wrapI]; omega)) (aC ⟨(by first | omega | (simp (disch := omega) only [wrapI]; omega)), (by first | omega | (simp (disch := omega) only [wrapI]; omega))⟩ (aC (by first | omega | (simp (disch := omega) only [wrapI]; omega)) (aC ⟨(by first | omega | (simp (disch := omega) only [wrapI]; omega)), (by first | omega | (simp (disch := omega) only [wrapI]; omega))⟩ (aC (by decide) (aC (by first | omega | (simp (disch := omega) only [wrapI]; omega)) (aC ⟨(by first | omega | (simp (disch := omega) only [wrapI]; omega)), (by first | omega | (simp (disch := omega) only [wrapI]; omega))⟩ (aC rfl (aC (by first | omega | (simp (disch := omega) only [wrapI]; omega)) (aC ⟨(by first | omega | (simp (disch := omega) only [wrapI]; omega)), (by first | omega | (simp (disch := omega) only [wrapI]; omega))⟩ (aC (by first | omega | (simp (disch := omega) only [wrapI]; omega)) (aC ⟨(by first | omega | (simp (disch := omega) only [wrapI]; omega)), (by first | omega | (simp (disch := omega) only [wrapI]; omega))⟩ (aC (by decide) (aC (by first | omega | (simp (disch := omega) only [wrapI]; omega)) (aC ⟨(by first | omega | (simp (disch := omega) only [wrapI]; omega)), (by first | omega | (simp (disch := omega) only [wrapI]; omega))⟩ (aC rfl (aC (decide_eq_true (by first | omega | (simp (disch := omega) only [wrapI]; omega))) (AllP_nil)))))))))))))))))))))))))))))))))))))))))))))))))))))))))))))))))))
  rw [e0] at h
  exact h

set_option maxHeartbeats 1000000 in
theorem bW1_last (S : List Int) (n nm : Nat) (b C : List Int) (cap0 : Nat) (h0 : (nm = n)) (h1 : (n = (128 : Nat))) (hc0 : n ≤ cap0) (hl0_0 : List.length b = nm) (hl1_0 : List.length C = (80 : Nat)) (hv0 : List.length S = (8 : Nat)) (w : World) (β : Env) (s : (List Int)) : Run Try.prog ⟨w, [], 2, β⟩ (loopB Try.f59 0) (bW1_mk S n nm b C cap0 (16 : Nat) s) (To ⟨w, [], 2, β⟩ (.exit 0) (bW1_mk S n nm b C cap0 (16 : Nat) s)) :=
  Run.of_outT (B := ⟨w, [], 2, β⟩) (Λ := noLam) (Ψ := noPsi) (fuel := 0) (ora := [false]) (l := [.forget [0, 1, 2, 3, 6, 7, 20] 5]) mix tabOkSA gam7_ok
    (vc := [(false = false)]) (by kernel_rfl)
    (aC rfl (AllP_nil))

theorem bW1_loop (S : List Int) (n nm : Nat) (b C : List Int) (cap0 : Nat) (h0 : (nm = n)) (h1 : (n = (128 : Nat))) (hc0 : n ≤ cap0) (hl0_0 : List.length b = nm) (hl1_0 : List.length C = (80 : Nat)) (hv0 : List.length S = (8 : Nat)) (w : World) (β : Env) (s : (List Int)) : Run Try.prog ⟨w, [], 2, β⟩ (.block 0 (.loop (loopB Try.f59 0))) (bW1_mk S n nm b C cap0 0 s) (To ⟨w, [], 2, β⟩ .normal (bW1_mk S n nm b C cap0 (16 : Nat) (iter (bW1_step b) (16 : Nat) s))) :=
  Run.count (fun k => bW1_mk S n nm b C cap0 k (iter (bW1_step b) k s)) (16 : Nat) (fun k hk => bW1_round S n nm b C cap0 h0 h1 hc0 hl0_0 hl1_0 hv0 w β k hk _) (ex := (.exit 0)) (by simp) (bW1_last S n nm b C cap0 h0 h1 hc0 hl0_0 hl1_0 hv0 w β _)

def bW1_out0 (b i0 : List Int) : List Int := (iter (bW1_step b) (16 : Nat) (i0))

def bW2_mk (S : List Int) (n nm : Nat) (b C : List Int) (cap0 k : Nat) (s : (List Int)) : St := ⟨sparse 182 [(0, .o (.g [.ints .u64 (8 : Nat) S])), (1, .o (.a (.sl 0 0 n cap0))), (2, .o (.a (.p 1 0))), (3, .o (.a (.p 2 0))), (6, .o (.a (.p 3 0))), (7, .o (.a (.p 4 0))), (10, .o (.a (.i .i64 ((((16 : Nat) + k) : Nat) : Int)))), (20, .o (.a (.i .i64 (16 : Int))))], [some ⟨false, [.ints .u8 nm b]⟩, some ⟨false, [.ints .u64 (80 : Nat) C]⟩, some ⟨true, [.ints .u64 (8 : Nat) S]⟩, some ⟨true, [.ints .u64 (8 : Nat) ([0, 0, 0, 0, 0, 0, 0, 0] : List Int)]⟩, some ⟨true, [.ints .u64 (80 : Nat) s]⟩]⟩

def bW2_step (k : Nat) (s : (List Int)) : (List Int) :=
  let z0 : Int := (List.getD s (Int.toNat (IntKind.i64.wrap (((((16 : Nat) + k) : Nat) : Int) - (2 : Int)))) 0)
  let z1 : Int := (List.getD s (Int.toNat (IntKind.i64.wrap (((((16 : Nat) + k) : Nat) : Int) - (15 : Int)))) 0)
  ((List.set s ((16 : Nat) + k) (IntKind.u64.wrap ((IntKind.u64.wrap ((IntKind.u64.wrap ((List.getD s (Int.toNat (IntKind.i64.wrap (((((16 : Nat) + k) : Nat) : Int) - (16 : Int)))) 0) + (bits2 .xor .u64 (bits2 .xor .u64 (ror z1 (1 : Int)) (ror z1 (8 : Int))) (shr .u64 z1 (7 : Int))))) + (List.getD s (Int.toNat (IntKind.i64.wrap (((((16 : Nat) + k) : Nat) : Int) - (7 : Int)))) 0))) + (bits2 .xor .u64 (bits2 .xor .u64 (ror z0 (19 : Int)) (ror z0 (61 : Int))) (shr .u64 z0 (6 : Int)))))))

set_option maxHeartbeats 1000000 in
theorem bW2_round (S : List Int) (n nm : Nat) (b C : List Int) (cap0 : Nat) (h0 : (nm = n)) (h1 : (n = (128 : Nat))) (hc0 : n ≤ cap0) (hl0_0 : List.length b = nm) (hl1_0 : List.length C = (80 : Nat)) (hv0 : List.length S = (8 : Nat)) (w : World) (β : Env) (k : Nat) (hk : k < (64 : Nat)) (s : (List Int)) : Run Try.prog ⟨w, [], 2, β⟩ (loopB Try.f59 4) (bW2_mk S n nm b C cap0 k s) (To ⟨w, [], 2, β⟩ .normal (bW2_mk S n nm b C cap0 (k + 1) (bW2_step k s))) := by
  have e0 : (IntKind.i64.wrap (((((16 : Nat) + k) : Nat) : Int) + (1 : Int))) = ((((16 : Nat) + (k + (1 : Nat))) : Nat) : Int) := (by first | rfl | exact wrap_succ (by omega) | omega | (simp (disch := omega) only [wrapI]; omega))
  have h := Run.of_outT (B := ⟨w, [], 2, β⟩) (Λ := noLam) (Ψ := noPsi) (fuel := 0) (ora := [true]) (c := (loopB Try.f59 4)) (st := (bW2_mk S n nm b C cap0 k s)) (l := [.forget [0, 1, 2, 3, 6, 7, 10, 20] 5]) (s' := ⟨sparse 182 [(0, .o (.g [.ints .u64 (8 : Nat) S])), (1, .o (.a (.sl 0 0 n cap0))), (2, .o (.a (.p 1 0))), (3, .o (.a (.p 2 0))), (6, .o (.a (.p 3 0))), (7, .o (.a (.p 4 0))), (10, .o (.a (.i .i64 (IntKind.i64.wrap (((((16 : Nat) + k) : Nat) : Int) + (1 : Int)))))), (20, .o (.a (.i .i64 (16 : Int))))], [some ⟨false, [.ints .u8 nm b]⟩, some ⟨false, [.ints .u64 (80 : Nat) C]⟩, some ⟨true, [.ints .u64 (8 : Nat) S]⟩, some ⟨true, [.ints .u64 (8 : Nat) ([0, 0, 0, 0, 0, 0, 0, 0] : List Int)]⟩, some ⟨true, [.ints .u64 (80 : Nat) (bW2_step k s)]⟩]⟩) (ex := .normal) mix tabOkSA gam7_ok
    (vc := [(((16 : Nat) + k) < (80 : Nat)), (((0 : Int) ≤ ((((16 : Nat) + k) : Nat) : Int)) ∧ (((((16 : Nat) + k) : Nat) : Int) < (80 : Int))), ((0 : Int) ≤ (6 : Int)), ((Int.toNat (IntKind.i64.wrap (((((16 : Nat) + k) : Nat) : Int) - (7 : Int)))) < (80 : Nat)), (((0 : Int) ≤ (IntKind.i64.wrap (((((16 : Nat) + k) : Nat) : Int) - (7 : Int)))) ∧ ((IntKind.i64.wrap (((((16 : Nat) + k) : Nat) : Int) - (7 : Int))) < (80 : Int))), ((0 : Int) ≤ (7 : Int)), ((Int.toNat (IntKind.i64.wrap (((((16 : Nat) + k) : Nat) : Int) - (16 : Int)))) < (80 : Nat)), (((0 : Int) ≤ (IntKind.i64.wrap (((((16 : Nat) + k) : Nat) : Int) - (16 : Int)))) ∧ ((IntKind.i64.wrap (((((16 : Nat) + k) : Nat) : Int) - (16 : Int))) < (80 : Int))), ((Int.toNat (IntKind.i64.wrap (((((16 : Nat) + k) : Nat) : Int) - (2 : Int)))) < (80 : Nat)), (((0 : Int) ≤ (IntKind.i64.wrap (((((16 : Nat) + k) : Nat) : Int) - (2 : Int)))) ∧ ((IntKind.i64.wrap (((((16 : Nat) + k) : Nat) : Int) - (2 : Int))) < (80 : Int))), ((Int.toNat (IntKind.i64.wrap (((((16 : Nat) + k) : Nat) : Int) - (15 : Int)))) < (80 : Nat)), (((0 : Int) ≤ (IntKind.i64.wrap (((((16 : Nat) + k) : Nat) : Int) - (15 : Int)))) ∧ ((IntKind.i64.wrap (((((16 : Nat) + k) : Nat) : Int) - (15 : Int))) < (80 : Int))), ((decide (((((16 : Nat) + k) : Nat) : Int) < (80 : Int))) = true)]) (by kernel_rfl)
    (aC (by first | omega | (simp (disch := omega) only [wrapI]; omega)) (aC ⟨(by first | omega | (simp (disch := omega) only [wrapI]; omega)), (by first | omega | (simp (disch := omega) only [wrapI]; omega))⟩ (aC (by decide) (aC (by first | omega | (simp (disch := omega) only [wrapI]; omega)) (aC ⟨(by first | omega | (simp (disch := omega) only [wrapI]; omega)), (by first | omega | (simp (disch := omega) only [wrapI]; omega))⟩ (aC (by decide) (aC (by first | omega | (simp (disch := omega) only [wrapI]; omega)) (aC ⟨(by first | omega | (simp (disch := omega) only [wrapI]; omega)), (by first | omega | (simp (disch := omega) only [wrapI]; omega))⟩ (aC (by first | omega | (simp (disch := omega) only [wrapI]; omega)) (aC ⟨(by first | omega | (simp (disch := omega) only [wrapI]; omega)), (by first | omega | (simp (disch := omega) only [wrapI]; omega))⟩ (aC (by first | omega | (simp (disch := omega) only [wrapI]; omega)) (aC ⟨(by first | omega | (simp (disch := omega) only [wrapI]; omega)), (by first | omega | (simp (disch := omega) only [wrapI]; omega))⟩ (aC (decide_eq_true (by first | omega | (simp (disch := omega) only [wrapI]; omega))) (AllP_nil))))))))))))))
  rw [e0] at h
  exact h

set_option maxHeartbeats 1000000 in
theorem bW2_last (S : List Int) (n nm : Nat) (b C : List Int) (cap0 : Nat) (h0 : (nm = n)) (h1 : (n = (128 : Nat))) (hc0 : n ≤ cap0) (hl0_0 : List.length b = nm) (hl1_0 : List.length C = (80 : Nat)) (hv0 : List.length S = (8 : Nat)) (w : World) (β : Env) (s : (List Int)) : Run Try.prog ⟨w, [], 2, β⟩ (loopB Try.f59 4) (bW2_mk S n nm b C cap0 (64 : Nat) s) (To ⟨w, [], 2, β⟩ (.exit 4) (bW2_mk S n nm b C cap0 (64 : Nat) s)) :=
  Run.of_outT (B := ⟨w, [], 2, β⟩) (Λ := noLam) (Ψ := noPsi) (fuel := 0) (ora := [false]) (l := [.forget [0, 1, 2, 3, 6, 7, 10, 20] 5]) mix tabOkSA gam7_ok
    (vc := [(false = false)]) (by kernel_rfl)
    (aC rfl (AllP_nil))

theorem bW2_loop (S : List Int) (n nm : Nat) (b C : List Int) (cap0 : Nat) (h0 : (nm = n)) (h1 : (n = (128 : Nat))) (hc0 : n ≤ cap0) (hl0_0 : List.length b = nm) (hl1_0 : List.length C = (80 : Nat)) (hv0 : List.length S = (8 : Nat)) (w : World) (β : Env) (s : (List Int)) : Run Try.prog ⟨w, [], 2, β⟩ (.block 4 (.loop (loopB Try.f59 4))) (bW2_mk S n nm b C cap0 0 s) (To ⟨w, [], 2, β⟩ .normal (bW2_mk S n nm b C cap0 (64 : Nat) (iter (bW2_step) (64 : Nat) s))) :=
  Run.count (fun k => bW2_mk S n nm b C cap0 k (iter (bW2_step) k s)) (64 : Nat) (fun k hk => bW2_round S n nm b C cap0 h0 h1 hc0 hl0_0 hl1_0 hv0 w β k hk _) (ex := (.exit 4)) (by simp) (bW2_last S n nm b C cap0 h0 h1 hc0 hl0_0 hl1_0 hv0 w β _)

def bW2_out0 (i0 : List Int) : List Int := (iter (bW2_step) (64 : Nat) (i0))

def bT_mk (S : List Int) (n nm : Nat) (b C : List Int) (cap0 k : Nat) (s : (List Int)) : St := ⟨sparse 182 [(0, .o (.g [.ints .u64 (8 : Nat) S])), (1, .o (.a (.sl 0 0 n cap0))), (2, .o (.a (.p 1 0))), (3, .o (.a (.p 2 0))), (6, .o (.a (.p 3 0))), (7, .o (.a (.p 4 0))), (10, .o (.a (.i .i64 (80 : Int)))), (13, .o (.a (.p 5 0))), (20, .o (.a (.i .i64 (16 : Int)))), (84, .o (.g [.ints .u64 (8 : Nat) S])), (85, .o (.a (.i .i64 ((k : Nat) : Int))))], [some ⟨false, [.ints .u8 nm b]⟩, some ⟨false, [.ints .u64 (80 : Nat) C]⟩, some ⟨true, [.ints .u64 (8 : Nat) S]⟩, some ⟨true, [.ints .u64 (8 : Nat) ([0, 0, 0, 0, 0, 0, 0, 0] : List Int)]⟩, some ⟨true, [.ints .u64 (80 : Nat) (bW2_out0 (bW1_out0 b (List.replicate (80 : Nat) (0 : Int))))]⟩, some ⟨true, [.ints .u64 (8 : Nat) s]⟩]⟩

def bT_step (b C : List Int) (k : Nat) (s : (List Int)) : (List Int) :=
  let z0 : Int := (IntKind.u64.wrap ((IntKind.u64.wrap ((IntKind.u64.wrap ((IntKind.u64.wrap ((List.getD (sub s (7 : Nat) (1 : Nat)) (0 : Nat) 0) + (bits2 .xor .u64 (bits2 .xor .u64 (ror (List.getD (sub s (4 : Nat) (1 : Nat)) (0 : Nat) 0) (14 : Int)) (ror (List.getD (sub s (4 : Nat) (1 : Nat)) (0 : Nat) 0) (18 : Int))) (ror (List.getD (sub s (4 : Nat) (1 : Nat)) (0 : Nat) 0) (41 : Int))))) + (bits2 .xor .u64 (bits2 .and .u64 (List.getD (sub s (4 : Nat) (1 : Nat)) (0 : Nat) 0) (List.getD (sub s (5 : Nat) (1 : Nat)) (0 : Nat) 0)) (bits2 .and .u64 (bits2 .xor .u64 (18446744073709551615 : Int) (List.getD (sub s (4 : Nat) (1 : Nat)) (0 : Nat) 0)) (List.getD (sub s (6 : Nat) (1 : Nat)) (0 : Nat) 0))))) + (List.getD C k 0))) + (List.getD (bW2_out0 (bW1_out0 b (List.replicate (80 : Nat) (0 : Int)))) k 0)))
  (([(IntKind.u64.wrap (z0 + (IntKind.u64.wrap ((bits2 .xor .u64 (bits2 .xor .u64 (ror (List.getD (sub s 0 (1 : Nat)) (0 : Nat) 0) (28 : Int)) (ror (List.getD (sub s 0 (1 : Nat)) (0 : Nat) 0) (34 : Int))) (ror (List.getD (sub s 0 (1 : Nat)) (0 : Nat) 0) (39 : Int))) + (bits2 .xor .u64 (bits2 .xor .u64 (bits2 .and .u64 (List.getD (sub s 0 (1 : Nat)) (0 : Nat) 0) (List.getD (sub s (1 : Nat) (1 : Nat)) (0 : Nat) 0)) (bits2 .and .u64 (List.getD (sub s 0 (1 : Nat)) (0 : Nat) 0) (List.getD (sub s (2 : Nat) (1 : Nat)) (0 : Nat) 0))) (bits2 .and .u64 (List.getD (sub s (1 : Nat) (1 : Nat)) (0 : Nat) 0) (List.getD (sub s (2 : Nat) (1 : Nat)) (0 : Nat) 0))))))), (List.getD (sub s 0 (1 : Nat)) (0 : Nat) 0), (List.getD (sub s (1 : Nat) (1 : Nat)) (0 : Nat) 0), (List.getD (sub s (2 : Nat) (1 : Nat)) (0 : Nat) 0), (IntKind.u64.wrap ((List.getD (sub s (3 : Nat) (1 : Nat)) (0 : Nat) 0) + z0)), (List.getD (sub s (4 : Nat) (1 : Nat)) (0 : Nat) 0), (List.getD (sub s (5 : Nat) (1 : Nat)) (0 : Nat) 0), (List.getD (sub s (6 : Nat) (1 : Nat)) (0 : Nat) 0)] : List Int))

set_option maxHeartbeats 1000000 in
theorem bT_round (S : List Int) (n nm : Nat) (b C : List Int) (cap0 : Nat) (h0 : (nm = n)) (h1 : (n = (128 : Nat))) (hc0 : n ≤ cap0) (hl0_0 : List.length b = nm) (hl1_0 : List.length C = (80 : Nat)) (hv0 : List.length S = (8 : Nat)) (w : World) (β : Env) (k : Nat) (hk : k < (80 : Nat)) (s : (List Int)) : Run Try.prog ⟨w, [], 2, β⟩ (loopB Try.f59 6) (bT_mk S n nm b C cap0 k s) (To ⟨w, [], 2, β⟩ .normal (bT_mk S n nm b C cap0 (k + 1) (bT_step b C k s))) := by
  have e0 : (IntKind.i64.wrap (((k : Nat) : Int) + (1 : Int))) = (((k + (1 : Nat)) : Nat) : Int) := (by first | rfl | exact wrap_succ (by omega) | omega | (simp (disch := omega) only [wrapI]; omega))
  have h := Run.of_outT (B := ⟨w, [], 2, β⟩) (Λ := noLam) (Ψ := noPsi) (fuel := 0) (ora := [true]) (c := (loopB Try.f59 6)) (st := (bT_mk S n nm b C cap0 k s)) (l := [.forget [0, 1, 2, 3, 6, 7, 10, 13, 20, 84, 85] 6]) (s' := ⟨sparse 182 [(0, .o (.g [.ints .u64 (8 : Nat) S])), (1, .o (.a (.sl 0 0 n cap0))), (2, .o (.a (.p 1 0))), (3, .o (.a (.p 2 0))), (6, .o (.a (.p 3 0))), (7, .o (.a (.p 4 0))), (10, .o (.a (.i .i64 (80 : Int)))), (13, .o (.a (.p 5 0))), (20, .o (.a (.i .i64 (16 : Int)))), (84, .o (.g [.ints .u64 (8 : Nat) S])), (85, .o (.a (.i .i64 (IntKind.i64.wrap (((k : Nat) : Int) + (1 : Int))))))], [some ⟨false, [.ints .u8 nm b]⟩, some ⟨false, [.ints .u64 (80 : Nat) C]⟩, some ⟨true, [.ints .u64 (8 : Nat) S]⟩, some ⟨true, [.ints .u64 (8 : Nat) ([0, 0, 0, 0, 0, 0, 0, 0] : List Int)]⟩, some ⟨true, [.ints .u64 (80 : Nat) (bW2_out0 (bW1_out0 b (List.replicate (80 : Nat) (0 : Int))))]⟩, some ⟨true, [.ints .u64 (8 : Nat) (bT_step b C k s)]⟩]⟩) (ex := .normal) mix tabOkSA gam7_ok
    (vc := [(k < (80 : Nat)), (((0 : Int) ≤ ((k : Nat) : Int)) ∧ (((k : Nat) : Int) < (80 : Int))), (k < (80 : Nat)), (((0 : Int) ≤ ((k : Nat) : Int)) ∧ (((k : Nat) : Int) < (80 : Int))), ((decide (((k : Nat) : Int) < (80 : Int))) = true)]) (by kernel_rfl)
    (aC (by first | omega | (simp (disch := omega) only [wrapI]; omega)) (aC ⟨(by first | omega | (simp (disch := omega) only [wrapI]; omega)), (by first | omega | (simp (disch := omega) only [wrapI]; omega))⟩ (aC (by first | omega | (simp (disch := omega) only [wrapI]; omega)) (aC ⟨(by first | omega | (simp (disch := omega) only [wrapI]; omega)), (by first | omega | (simp (disch := omega) only [wrapI]; omega))⟩ (aC (decide_eq_true (by first | omega | (simp (disch := omega) only [wrapI]; omega))) (AllP_nil))))))
  rw [e0] at h
  exact h

set_option maxHeartbeats 1000000 in
theorem bT_last (S : List Int) (n nm : Nat) (b C : List Int) (cap0 : Nat) (h0 : (nm = n)) (h1 : (n = (128 : Nat))) (hc0 : n ≤ cap0) (hl0_0 : List.length b = nm) (hl1_0 : List.length C = (80 : Nat)) (hv0 : List.length S = (8 : Nat)) (w : World) (β : Env) (s : (List Int)) : Run Try.prog ⟨w, [], 2, β⟩ (loopB Try.f59 6) (bT_mk S n nm b C cap0 (80 : Nat) s) (To ⟨w, [], 2, β⟩ (.exit 6) (bT_mk S n nm b C cap0 (80 : Nat) s)) :=
  Run.of_outT (B := ⟨w, [], 2, β⟩) (Λ := noLam) (Ψ := noPsi) (fuel := 0) (ora := [false]) (l := [.forget [0, 1, 2, 3, 6, 7, 10, 13, 20, 84, 85] 6]) mix tabOkSA gam7_ok
    (vc := [(false = false)]) (by kernel_rfl)
    (aC rfl (AllP_nil))

theorem bT_loop (S : List Int) (n nm : Nat) (b C : List Int) (cap0 : Nat) (h0 : (nm = n)) (h1 : (n = (128 : Nat))) (hc0 : n ≤ cap0) (hl0_0 : List.length b = nm) (hl1_0 : List.length C = (80 : Nat)) (hv0 : List.length S = (8 : Nat)) (w : World) (β : Env) (s : (List Int)) : Run Try.prog ⟨w, [], 2, β⟩ (.block 6 (.loop (loopB Try.f59 6))) (bT_mk S n nm b C cap0 0 s) (To ⟨w, [], 2, β⟩ .normal (bT_mk S n nm b C cap0 (80 : Nat) (iter (bT_step b C) (80 : Nat) s))) :=
  Run.count (fun k => bT_mk S n nm b C cap0 k (iter (bT_step b C) k s)) (80 : Nat) (fun k hk => bT_round S n nm b C cap0 h0 h1 hc0 hl0_0 hl1_0 hv0 w β k hk _) (ex := (.exit 6)) (by simp) (bT_last S n nm b C cap0 h0 h1 hc0 hl0_0 hl1_0 hv0 w β _)

def bT_out0 (b C i0 : List Int) : List Int := (iter (bT_step b C) (80 : Nat) (i0))

def blk (S b C : List Int) : List Int :=
  let z0 : List Int := (bT_out0 b C S)
  let z1 : List Int := (List.set S (0 : Nat) (IntKind.u64.wrap ((List.getD S (0 : Nat) 0) + (List.getD z0 (0 : Nat) 0))))
  let z2 : List Int := (List.set z1 (1 : Nat) (IntKind.u64.wrap ((List.getD z1 (1 : Nat) 0) + (List.getD z0 (1 : Nat) 0))))
  let z3 : List Int := (List.set z2 (2 : Nat) (IntKind.u64.wrap ((List.getD z2 (2 : Nat) 0) + (List.getD z0 (2 : Nat) 0))))
  let z4 : List Int := (List.set z3 (3 : Nat) (IntKind.u64.wrap ((List.getD z3 (3 : Nat) 0) + (List.getD z0 (3 : Nat) 0))))
  let z5 : List Int := (List.set z4 (4 : Nat) (IntKind.u64.wrap ((List.getD z4 (4 : Nat) 0) + (List.getD z0 (4 : Nat) 0))))
  let z6 : List Int := (List.set z5 (5 : Nat) (IntKind.u64.wrap ((List.getD z5 (5 : Nat) 0) + (List.getD z0 (5 : Nat) 0))))
  let z7 : List Int := (List.set z6 (6 : Nat) (IntKind.u64.wrap ((List.getD z6 (6 : Nat) 0) + (List.getD z0 (6 : Nat) 0))))
  (List.set z7 (7 : Nat) (IntKind.u64.wrap ((List.getD z7 (7 : Nat) 0) + (List.getD z0 (7 : Nat) 0))))

set_option maxHeartbeats 1000000 in
theorem blk_body0 (S : List Int) (n nm : Nat) (b C : List Int) (cap0 : Nat) (h0 : (nm = n)) (h1 : (n = (128 : Nat))) (hc0 : n ≤ cap0) (hl0_0 : List.length b = nm) (hl1_0 : List.length C = (80 : Nat)) (hv0 : List.length S = (8 : Nat)) (w : World) (β : Env) : Body Try.prog (tabOf tabSA) Try.f59 ⟨w, [], 2, β⟩ [.o (.g [.ints .u64 (8 : Nat) S]), .o (.a (.sl 0 0 n cap0)), .o (.a (.p 1 0))] [some ⟨false, [.ints .u8 nm b]⟩, some ⟨false, [.ints .u64 (80 : Nat) C]⟩] (fun ys _ => ys = [.g [.ints .u64 (8 : Nat) (blk S b C)]]) :=
  Body.of_fin (Γ := gam7) (Λ := lamOf [(0, ⟨[.forget [0, 1, 2, 3, 6, 7, 20] 5], .normal, (bW1_mk S n nm b C cap0 (16 : Nat) (iter (bW1_step b) (16 : Nat) ((List.replicate (80 : Nat) (0 : Int)))))⟩), (4, ⟨[.forget [0, 1, 2, 3, 6, 7, 10, 20] 5], .normal, (bW2_mk S n nm b C cap0 (64 : Nat) (iter (bW2_step) (64 : Nat) ((bW1_out0 b (List.replicate (80 : Nat) (0 : Int))))))⟩), (6, ⟨[.forget [0, 1, 2, 3, 6, 7, 10, 13, 20, 84, 85] 6], .normal, (bT_mk S n nm b C cap0 (80 : Nat) (iter (bT_step b C) (80 : Nat) (S)))⟩)]) (Ψ := noPsi) (fuel := 9) (m := 182) (c := (Try.f59.body.getD .skip)) mix tabOkSA gam7_ok rfl (rs := [.cell 6 53]) rfl rfl [true, true, true, true, true, true, true, true, false] []
    (vc := [(false = false), ((7 : Nat) < (8 : Nat)), (((0 : Int) ≤ (7 : Int)) ∧ ((7 : Int) < (8 : Int))), ((7 : Nat) < (8 : Nat)), (((0 : Int) ≤ (7 : Int)) ∧ ((7 : Int) < (8 : Int))), ((7 : Nat) < (8 : Nat)), (((0 : Int) ≤ (7 : Int)) ∧ ((7 : Int) < (8 : Int))), (true = true), ((6 : Nat) < (8 : Nat)), (((0 : Int) ≤ (6 : Int)) ∧ ((6 : Int) < (8 : Int))), ((6 : Nat) < (8 : Nat)), (((0 : Int) ≤ (6 : Int)) ∧ ((6 : Int) < (8 : Int))), ((6 : Nat) < (8 : Nat)), (((0 : Int) ≤ (6 : Int)) ∧ ((6 : Int) < (8 : Int))), (true = true), ((5 : Nat) < (8 : Nat)), (((0 : Int) ≤ (5 : Int)) ∧ ((5 : Int) < (8 : Int))), ((5 : Nat) < (8 : Nat)), (((0 : Int) ≤ (5 : Int)) ∧ ((5 : Int) < (8 : Int))), ((5 : Nat) < (8 : Nat)), (((0 : Int) ≤ (5 : Int)) ∧ ((5 : Int) < (8 : Int))), (true = true), ((4 : Nat) < (8 : Nat)), (((0 : Int) ≤ (4 : Int)) ∧ ((4 : Int) < (8 : Int))), ((4 : Nat) < (8 : Nat)), (((0 : Int) ≤ (4 : Int)) ∧ ((4 : Int) < (8 : Int))), ((4 : Nat) < (8 : Nat)), (((0 : Int) ≤ (4 : Int)) ∧ ((4 : Int) < (8 : Int))), (true = true), ((3 : Nat) < (8 : Nat)), (((0 : Int) ≤ (3 : Int)) ∧ ((3 : Int) < (8 : Int))), ((3 : Nat) < (8 : Nat)), (((0 : Int) ≤ (3 : Int)) ∧ ((3 : Int) < (8 : Int))), ((3 : Nat) < (8 : Nat)), (((0 : Int) ≤ (3 : Int)) ∧ ((3 : Int) < (8 : Int))), (true = true), ((2 : Nat) < (8 : Nat)), (((0 : Int) ≤ (2 : Int)) ∧ ((2 : Int) < (8 : Int))), ((2 : Nat) < (8 : Nat)), (((0 : Int) ≤ (2 : Int)) ∧ ((2 : Int) < (8 : Int))), ((2 : Nat) < (8 : Nat)), (((0 : Int) ≤ (2 : Int)) ∧ ((2 : Int) < (8 : Int))), (true = true), ((1 : Nat) < (8 : Nat)), (((0 : Int) ≤ (1 : Int)) ∧ ((1 : Int) < (8 : Int))), ((1 : Nat) < (8 : Nat)), (((0 : Int) ≤ (1 : Int)) ∧ ((1 : Int) < (8 : Int))), ((1 : Nat) < (8 : Nat)), (((0 : Int) ≤ (1 : Int)) ∧ ((1 : Int) < (8 : Int))), (true = true), ((0 : Nat) < (8 : Nat)), (((0 : Int) ≤ (0 : Int)) ∧ ((0 : Int) < (8 : Int))), ((0 : Nat) < (8 : Nat)), (((0 : Int) ≤ (0 : Int)) ∧ ((0 : Int) < (8 : Int))), ((0 : Nat) < (8 : Nat)), (((0 : Int) ≤ (0 : Int)) ∧ ((0 : Int) < (8 : Int))), (true = true), (Run Try.prog ⟨w, [], 2, β⟩ (.block 6 (.loop (loopB Try.f59 6))) (bT_mk S n nm b C cap0 0 (S)) (To ⟨w, [], 2, β⟩ .normal (bT_mk S n nm b C cap0 (80 : Nat) (iter (bT_step b C) (80 : Nat) (S))))), (Run Try.prog ⟨w, [], 2, β⟩ (.block 4 (.loop (loopB Try.f59 4))) (bW2_mk S n nm b C cap0 0 ((bW1_out0 b (List.replicate (80 : Nat) (0 : Int))))) (To ⟨w, [], 2, β⟩ .normal (bW2_mk S n nm b C cap0 (64 : Nat) (iter (bW2_step) (64 : Nat) ((bW1_out0 b (List.replicate (80 : Nat) (0 : Int)))))))), (Run Try.prog ⟨w, [], 2, β⟩ (.block 0 (.loop (loopB Try.f59 0))) (bW1_mk S n nm b C cap0 0 ((List.replicate (80 : Nat) (0 : Int)))) (To ⟨w, [], 2, β⟩ .normal (bW1_mk S n nm b C cap0 (16 : Nat) (iter (bW1_step b) (16 : Nat) ((List.replicate (80 : Nat) (0 : Int)))))))]) (by kernel_rfl)
    (aC rfl (aC (by decide) (aC ⟨(by decide), (by decide)⟩ (aC (by decide) (aC ⟨(by decide), (by decide)⟩ (aC (by decide) (aC ⟨(by decide), (by decide)⟩ (aC rfl (aC (by decide) (aC ⟨(by decide), (by decide)⟩ (aC (by decide) (aC ⟨(by decide), (by decide)⟩ (aC (by decide) (aC ⟨(by decide), (by decide)⟩ (aC rfl (aC (by decide) (aC ⟨(by decide), (by decide)⟩ (aC (by decide) (aC ⟨(by decide), (by decide)⟩ (aC (by decide) (aC ⟨(by decide), (by decide)⟩ (aC rfl (aC (by decide) (aC ⟨(by decide), (by decide)⟩ (aC (by decide) (aC ⟨(by decide), (by decide)⟩ (aC (by decide) (aC ⟨(by decide), (by decide)⟩ (aC rfl (aC (by decide) (aC ⟨(by decide), (by decide)⟩ (aC (by decide) (aC ⟨(by decide), (by decide)⟩ (aC (by decide) (aC ⟨(by decide), (by decide)⟩ (aC rfl (aC (by decide) (aC ⟨(by decide), (by decide)⟩ (aC (by decide) (aC ⟨(by decide), (by decide)⟩ (aC (by decide) (aC ⟨(by decide), (by decide)⟩ (aC rfl (aC (by decide) (aC ⟨(by decide), (by decide)⟩ (aC (by decide) (aC ⟨(by decide), (by decide)⟩ (aC (by decide) (aC ⟨(by decide), (by decide)⟩ (aC rfl (aC (by decide) (aC ⟨(by decide), (by decide)⟩ (aC (by decide) (aC ⟨(by decide), (by decide)⟩ (aC (by decide) (aC ⟨(by decide), (by decide)⟩ (aC rfl (aC (bT_loop S n nm b C cap0 h0 h1 hc0 hl0_0 hl1_0 hv0 w β (S)) (aC (bW2_loop S n nm b C cap0 h0 h1 hc0 hl0_0 hl1_0 hv0 w β ((bW1_out0 b (List.replicate (80 : Nat) (0 : Int))))) (aC (bW1_loop S n nm b C cap0 h0 h1 hc0 hl0_0 hl1_0 hv0 w β ((List.replicate (80 : Nat) (0 : Int)))) (AllP_nil)))))))))))))))))))))))))))))))))))))))))))))))))))))))))))))

theorem blk_body (S : List Int) (n nm : Nat) (b C : List Int) (cap0 : Nat) (h0 : (nm = n)) (h1 : (n = (128 : Nat))) (w : World) (β : Env) : Body Try.prog (tabOf tabSA) Try.f59 ⟨w, [], 2, β⟩ [.o (.g [.ints .u64 (8 : Nat) S]), .o (.a (.sl 0 0 n cap0)), .o (.a (.p 1 0))] [some ⟨false, [.ints .u8 nm b]⟩, some ⟨false, [.ints .u64 (80 : Nat) C]⟩] (fun ys _ => ys = [.g [.ints .u64 (8 : Nat) (blk S b C)]]) :=
  Body.lens (c := (Try.f59.body.getD .skip)) rfl fun h => blk_body0 S n nm b C cap0 h0 h1 (h.caps 1 _ _ _ _ rfl) (h.lens 0 _ .u8 nm b rfl (by simp)) (h.lens 1 _ .u64 (80 : Nat) C rfl (by simp)) (h.vals 0 _ _ _ rfl) w β

def gam8 : Gam := greadV 59 [.v, .s 1, .p 80] (fun vs args => match vs, args with | [⟨_, _, _, [.ints .u8 nm b]⟩, ⟨_, _, _, [.ints .u64 (80 : Nat) C]⟩], [.o (.g [.ints .u64 (8 : Nat) S]), a0, _] => some ((nm = (lenOfA a0)) ∧ ((lenOfA a0) = (128 : Nat)), [.g [.ints .u64 (8 : Nat) (blk S b C)]]) | _, _ => none) gam7
theorem gam8_ok : GamOk Try.prog gam8 := greadV_ok tabOkSA Try.func59 gam7_ok Try.call59 (by
  intro vs args p xs h hv
  split at h
  · simp only [Option.some.injEq, Prod.mk.injEq] at h; obtain ⟨rfl, rfl⟩ := h; exact ⟨by rfl, fun caps w β => blk_body _ _ _ _ _ _ hv.1 hv.2 w β⟩
  · simp at h)

def rW1_mk (S : List Int) (n nm : Nat) (b : List Int) (cap0 k : Nat) (s : (List Int)) : St := ⟨sparse 179 [(0, .o (.g [.ints .u64 (8 : Nat) S])), (1, .o (.a (.sl 0 0 n cap0))), (2, .o (.a (.p 1 0))), (4, .o (.a (.p 2 0))), (5, .o (.a (.p 3 0))), (6, .o (.a (.p 4 0))), (7, .o (.a (.i .i64 ((k : Nat) : Int)))), (19, .o (.g [.ints .u64 (80 : Nat) (konstR)]))], [some ⟨false, [.ints .u8 nm b]⟩, some ⟨true, [.ints .u64 (8 : Nat) S]⟩, some ⟨true, [.ints .u64 (8 : Nat) ([0, 0, 0, 0, 0, 0, 0, 0] : List Int)]⟩, some ⟨true, [.ints .u64 (80 : Nat) (konstR)]⟩, some ⟨true, [.ints .u64 (80 : Nat) s]⟩]⟩

def rW1_step (b : List Int) (k : Nat) (s : (List Int)) : (List Int) :=
  let z0 : Int := (IntKind.i64.wrap ((8 : Int) * ((k : Nat) : Int)))
  let z1 : List Int := (List.set s k (bits2 .or .u64 (shl .u64 (List.getD s k 0) (8 : Int)) (IntKind.u64.wrap (List.getD b (Int.toNat (IntKind.i64.wrap (z0 + (0 : Int)))) 0))))
  let z2 : List Int := (List.set z1 k (bits2 .or .u64 (shl .u64 (List.getD z1 k 0) (8 : Int)) (IntKind.u64.wrap (List.getD b (Int.toNat (IntKind.i64.wrap (z0 + (1 : Int)))) 0))))
  let z3 : List Int := (List.set z2 k (bits2 .or .u64 (shl .u64 (List.getD z2 k 0) (8 : Int)) (IntKind.u64.wrap (List.getD b (Int.toNat (IntKind.i64.wrap (z0 + (2 : Int)))) 0))))
  let z4 : List Int := (List.set z3 k (bits2 .or .u64 (shl .u64 (List.getD z3 k 0) (8 : Int)) (IntKind.u64.wrap (List.getD b (Int.toNat (IntKind.i64.wrap (z0 + (3 : Int)))) 0))))
  let z5 : List Int := (List.set z4 k (bits2 .or .u64 (shl .u64 (List.getD z4 k 0) (8 : Int)) (IntKind.u64.wrap (List.getD b (Int.toNat (IntKind.i64.wrap (z0 + (4 : Int)))) 0))))
  let z6 : List Int := (List.set z5 k (bits2 .or .u64 (shl .u64 (List.getD z5 k 0) (8 : Int)) (IntKind.u64.wrap (List.getD b (Int.toNat (IntKind.i64.wrap (z0 + (5 : Int)))) 0))))
  let z7 : List Int := (List.set z6 k (bits2 .or .u64 (shl .u64 (List.getD z6 k 0) (8 : Int)) (IntKind.u64.wrap (List.getD b (Int.toNat (IntKind.i64.wrap (z0 + (6 : Int)))) 0))))
  ((List.set z7 k (bits2 .or .u64 (shl .u64 (List.getD z7 k 0) (8 : Int)) (IntKind.u64.wrap (List.getD b (Int.toNat (IntKind.i64.wrap (z0 + (7 : Int)))) 0)))))

set_option maxHeartbeats 1000000 in
theorem rW1_round (S : List Int) (n nm : Nat) (b : List Int) (cap0 : Nat) (h0 : (nm = n)) (h1 : (n = (128 : Nat))) (hc0 : n ≤ cap0) (hl0_0 : List.length b = nm) (hv0 : List.length S = (8 : Nat)) (w : World) (β : Env) (k : Nat) (hk : k < (16 : Nat)) (s : (List Int)) : Run Try.prog ⟨w, [], 1, β⟩ (loopB Try.f44 0) (rW1_mk S n nm b cap0 k s) (To ⟨w, [], 1, β⟩ .normal (rW1_mk S n nm b cap0 (k + 1) (rW1_step b k s))) := by
  have e0 : (IntKind.i64.wrap (((k : Nat) : Int) + (1 : Int))) = (((k + (1 : Nat)) : Nat) : Int) := (by first | rfl | exact wrap_succ (by omega) | omega | (simp (disch := omega) only [wrapI]; omega))
  have h := Run.of_outT (B := ⟨w, [], 1, β⟩) (Λ := noLam) (Ψ := noPsi) (fuel := 9) (ora := [true, true, true, true, true, true, true, true, true, false]) (c := (loopB Try.f44 0)) (st := (rW1_mk S n nm b cap0 k s)) (l := [.forget [0, 1, 2, 4, 5, 6, 7, 19] 5]) (s' := ⟨sparse 179 [(0, .o (.g [.ints .u64 (8 : Nat) S])), (1, .o (.a (.sl 0 0 n cap0))), (2, .o (.a (.p 1 0))), (4, .o (.a (.p 2 0))), (5, .o (.a (.p 3 0))), (6, .o (.a (.p 4 0))), (7, .o (.a (.i .i64 (IntKind.i64.wrap (((k : Nat) : Int) + (1 : Int)))))), (19, .o (.g [.ints .u64 (80 : Nat) (konstR)]))], [some ⟨false, [.ints .u8 nm b]⟩, some ⟨true, [.ints .u64 (8 : Nat) S]⟩, some ⟨true, [.ints .u64 (8 : Nat) ([0, 0, 0, 0, 0, 0, 0, 0] : List Int)]⟩, some ⟨true, [.ints .u64 (80 : Nat) (konstR)]⟩, some ⟨true, [.ints .u64 (80 : Nat) (rW1_step b k s)]⟩]⟩) (ex := .normal) mix tabOkSA gam8_ok
    (vc := [(false = false), (k < (80 : Nat)), (((0 : Int) ≤ ((k : Nat) : Int)) ∧ (((k : Nat) : Int) < (80 : Int))), ((Int.toNat (IntKind.i64.wrap ((IntKind.i64.wrap ((8 : Int) * ((k : Nat) : Int))) + (7 : Int)))) < nm), (((0 : Int) ≤ (IntKind.i64.wrap ((IntKind.i64.wrap ((8 : Int) * ((k : Nat) : Int))) + (7 : Int)))) ∧ ((IntKind.i64.wrap ((IntKind.i64.wrap ((8 : Int) * ((k : Nat) : Int))) + (7 : Int))) < ((n : Nat) : Int))), ((0 : Int) ≤ (8 : Int)), (k < (80 : Nat)), (((0 : Int) ≤ ((k : Nat) : Int)) ∧ (((k : Nat) : Int) < (80 : Int))), (true = true), (k < (80 : Nat)), (((0 : Int) ≤ ((k : Nat) : Int)) ∧ (((k : Nat) : Int) < (80 : Int))), ((Int.toNat (IntKind.i64.wrap ((IntKind.i64.wrap ((8 : Int) * ((k : Nat) : Int))) + (6 : Int)))) < nm), (((0 : Int) ≤ (IntKind.i64.wrap ((IntKind.i64.wrap ((8 : Int) * ((k : Nat) : Int))) + (6 : Int)))) ∧ ((IntKind.i64.wrap ((IntKind.i64.wrap ((8 : Int) * ((k : Nat) : Int))) + (6 : Int))) < ((n : Nat) : Int))), ((0 : Int) ≤ (8 : Int)), (k < (80 : Nat)), (((0 : Int) ≤ ((k : Nat) : Int)) ∧ (((k : Nat) : Int) < (80 : Int))), (true = true), (k < (80 : Nat)), (((0 : Int) ≤ ((k : Nat) : Int)) ∧ (((k : Nat) : Int) < (80 : Int))), ((Int.toNat (IntKind.i64.wrap ((IntKind.i64.wrap ((8 : Int) * ((k : Nat) : Int))) + (5 : Int)))) < nm), (((0 : Int) ≤ (IntKind.i64.wrap ((IntKind.i64.wrap ((8 : Int) * ((k : Nat) : Int))) + (5 : Int)))) ∧ ((IntKind.i64.wrap ((IntKind.i64.wrap ((8 : Int) * ((k : Nat) : Int))) + (5 : Int))) < ((n : Nat) : Int))), ((0 : Int) ≤ (8 : Int)), (k < (80 : Nat)), (((0 : Int) ≤ ((k : Nat) : Int)) ∧ (((k : Nat) : Int) < (80 : Int))), (true = true), (k < (80 : Nat)), (((0 : Int) ≤ ((k : Nat) : Int)) ∧ (((k : Nat) : Int) < (80 : Int))), ((Int.toNat (IntKind.i64.wrap ((IntKind.i64.wrap ((8 : Int) * ((k : Nat) : Int))) + (4 : Int)))) < nm), (((0 : Int) ≤ (IntKind.i64.wrap ((IntKind.i64.wrap ((8 : Int) * ((k : Nat) : Int))) + (4 : Int)))) ∧ ((IntKind.i64.wrap ((IntKind.i64.wrap ((8 : Int) * ((k : Nat) : Int))) + (4 : Int))) < ((n : Nat) : Int))), ((0 : Int) ≤ (8 : Int)), (k < (80 : Nat)), (((0 : Int) ≤ ((k : Nat) : Int)) ∧ (((k : Nat) : Int) < (80 : Int))), (true = true), (k < (80 : Nat)), (((0 : Int) ≤ ((k : Nat) : Int)) ∧ (((k : Nat) : Int) < (80 : Int))), ((Int.toNat (IntKind.i64.wrap ((IntKind.i64.wrap ((8 : Int) * ((k : Nat) : Int))) + (3 : Int)))) < nm), (((0 : Int) ≤ (IntKind.i64.wrap ((IntKind.i64.wrap ((8 : Int) * ((k : Nat) : Int))) + (3 : Int)))) ∧ ((IntKind.i64.wrap ((IntKind.i64.wrap ((8 : Int) * ((k : Nat) : Int))) + (3 : Int))) < ((n : Nat) : Int))), ((0 : Int) ≤ (8 : Int)), (k < (80 : Nat)), (((0 : Int) ≤ ((k : Nat) : Int)) ∧ (((k : Nat) : Int) < (80 : Int))), (true = true), (k < (80 : Nat)), (((0 : Int) ≤ ((k : Nat) : Int)) ∧ (((k : Nat) : Int) < (80 : Int))), ((Int.toNat (IntKind.i64.wrap ((IntKind.i64.wrap ((8 : Int) * ((k : Nat) : Int))) + (2 : Int)))) < nm), (((0 : Int) ≤ (IntKind.i64.wrap ((IntKind.i64.wrap ((8 : Int) * ((k : Nat) : Int))) + (2 : Int)))) ∧ ((IntKind.i64.wrap ((IntKind.i64.wrap ((8 : Int) * ((k : Nat) : Int))) + (2 : Int))) < ((n : Nat) : Int))), ((0 : Int) ≤ (8 : Int)), (k < (80 : Nat)), (((0 : Int) ≤ ((k : Nat) : Int)) ∧ (((k : Nat) : Int) < (80 : Int))), (true = true), (k < (80 : Nat)), (((0 : Int) ≤ ((k : Nat) : Int)) ∧ (((k : Nat) : Int) < (80 : Int))), ((Int.toNat (IntKind.i64.wrap ((IntKind.i64.wrap ((8 : Int) * ((k : Nat) : Int))) + (1 : Int)))) < nm), (((0 : Int) ≤ (IntKind.i64.wrap ((IntKind.i64.wrap ((8 : Int) * ((k : Nat) : Int))) + (1 : Int)))) ∧ ((IntKind.i64.wrap ((IntKind.i64.wrap ((8 : Int) * ((k : Nat) : Int))) + (1 : Int))) < ((n : Nat) : Int))), ((0 : Int) ≤ (8 : Int)), (k < (80 : Nat)), (((0 : Int) ≤ ((k : Nat) : Int)) ∧ (((k : Nat) : Int) < (80 : Int))), (true = true), (k < (80 : Nat)), (((0 : Int) ≤ ((k : Nat) : Int)) ∧ (((k : Nat) : Int) < (80 : Int))), ((Int.toNat (IntKind.i64.wrap ((IntKind.i64.wrap ((8 : Int) * ((k : Nat) : Int))) + (0 : Int)))) < nm), (((0 : Int) ≤ (IntKind.i64.wrap ((IntKind.i64.wrap ((8 : Int) * ((k : Nat) : Int))) + (0 : Int)))) ∧ ((IntKind.i64.wrap ((IntKind.i64.wrap ((8 : Int) * ((k : Nat) : Int))) + (0 : Int))) < ((n : Nat) : Int))), ((0 : Int) ≤ (8 : Int)), (k < (80 : Nat)), (((0 : Int) ≤ ((k : Nat) : Int)) ∧ (((k : Nat) : Int) < (80 : Int))), (true = true), ((decide (((k : Nat) : Int) < (16 : Int))) = true)]) (by kernel_rfl)
    (aC rfl (aC (by first | omega | (simp (disch := omega) only [wrapI]; omega)) (aC ⟨(by first | omega | (simp (disch := omega) only [wrapI]; omega)), (by first | omega | (simp (disch := omega) only [wrapI]; omega))⟩ (aC (by first | omega | (simp (disch := omega) only [wrapI]; omega)) (aC ⟨(by first | omega | (simp (disch := omega) only [wrapI]; omega)), (by first | omega | (simp (disch := omega) only [wrapI]; omega))⟩ (aC (by decide) (aC (by first | omega | (simp (disch := omega) only [wrapI]; omega)) (aC ⟨(by first | omega | (simp (disch := omega) only [wrapI]; omega)), (by first | omega | (simp (disch := omega) only [wrapI]; omega))⟩ (aC rfl (aC (by first | omega | (simp (disch := omega) only [wrapI]; omega)) (aC ⟨(by first | omega | (simp (disch := omega) only [wrapI]; omega)), (by first | omega | (simp (disch := omega) only [wrapI]; omega))⟩ (aC (by first | omega | (simp (disch := omega) only [wrapI]; omega)) (aC ⟨(by first | omega | (simp (disch := omega) only [wrapI]; omega)), (by first | omega | (simp (disch := omega) only [wrapI]; omega))⟩ (aC (by decide) (aC (by first | omega | (simp (disch := omega) only [wrapI]; omega)) (aC ⟨(by first | omega | (simp (disch := omega) only [wrapI]; omega)), (by first | omega | (simp (disch := omega) only [wrapI]; omega))⟩ (aC rfl (aC (by first | omega | (simp (disch := omega) only [wrapI]; omega)) (aC ⟨(by first | omega | (simp (disch := omega) only [wrapI]; omega)), (by first | omega | (simp (disch := omega) only [wrapI]; omega))⟩ (aC (by first | omega | (simp (disch := omega) only [wrapI]; omega)) (aC ⟨(by first | omega | (simp (disch := omega) only [wrapI]; omega)), (by first | omega | (simp (disch := omega) only [wrapI]; omega))⟩ (aC (by decide) (aC (by first | omega | (simp (disch := omega) only [wrapI]; omega)) (aC ⟨(by first | omega | (simp (disch := omega) only [wrapI]; omega)), (by first | omega | (simp (disch := omega) only [wrapI]; omega))⟩ (aC rfl (aC (by first | omega | (simp (disch := omega) only [wrapI]; omega)) (aC ⟨(by first | omega | (simp (disch := omega) only [wrapI]; omega)), (by first | omega | (simp (disch := omega) only [wrapI]; omega))⟩ (aC (by first | omega | (simp (disch := omega) only [wrapI]; omega)) (aC ⟨(by first | omega | (simp (disch := omega) only [wrapI]; omega)), (by first | omega | (simp (disch := omega) only [wrapI]; omega))⟩ (aC (by decide) (aC (by first | omega | (simp (disch := omega) only [wrapI]; omega)) (aC ⟨(by first | omega | (simp (disch := omega) only [wrapI]; omega)), (by first | omega | (simp (disch := omega) only [wrapI]; omega))⟩ (aC rfl (aC (by first | omega | (simp (disch := omega) only [wrapI]; omega)) (aC ⟨(by first | omega | (simp (disch := omega) only [wrapI]; omega)), (by first | omega | (simp (disch := omega) only [wrapI]; omega))⟩ (aC (by first | omega | (simp (disch := omega) only [wrapI]; omega)) (aC ⟨(by first | omega | (simp (disch := omega) only [wrapI]; omega)), (by first | omega | (simp (disch := omega) only [wrapI]; omega))⟩ (aC (by decide) (aC (by first | omega | (simp (disch := omega) only [wrapI]; omega)) (aC ⟨(by first | omega | (simp (disch := omega) only [wrapI]; omega)), (by first | omega | (simp (disch := omega) only [wrapI]; omega))⟩ (aC rfl (aC (by first | omega | (simp (disch := omega) only [wrapI]; omega)) (aC ⟨(by first | omega | (simp (disch := omega) only [wrapI]; omega)), (by first | omega | (simp (disch := omega) only [wrapI]; omega))⟩ (aC (by first | omega | (simp (disch := omega) only [wrapI]; omega)) (aC ⟨(by first | omega | (simp (disch := omega) only [wrapI]; omega)), (by first | omega | (simp (disch := omega) only [wrapI]; omega))⟩ (aC (by decide) (aC (by first | omega | (simp (disch := omega) only [wrapI]; omega)) (aC ⟨(by first | omega | (simp (disch := omega) only [wrapI]; omega)), (by first | omega | (simp (disch := omega) only [wrapI]; omega))⟩ (aC rfl (aC (by first | omega | (simp (disch := omega) only [wrapI]; omega)) (aC ⟨(by first | omega | (simp (disch := omega) only [wrapI]; omega)), (by first | omega | (simp (disch := omega) only [wrapI]; omega))⟩ (aC (by first | omega | (simp (disch := omega) only [wrapI]; omega)) (aC ⟨(by first | omega | (simp (disch := omega) only [wrapI]; omega)), (by first | omega | (simp (disch := omega) only [wrapI]; omega))⟩ (aC (by decide) (aC (by first | omega | (simp (disch := omega) only [wrapI]; omega)) (aC ⟨(by first | omega | (simp (disch := omega) only [wrapI]; omega)), (by first | omega | (simp (disch := omega) only [wrapI]; omega))⟩ (aC rfl (aC (by first | omega | (simp (disch := omega) only [wrapI]; omega)) (aC ⟨(by first | omega | (simp (disch := omega) only [wrapI]; omega)), (by first | omega | (simp (disch := omega) only [wrapI]; omega))⟩ (aC (by first | omega | (simp (disch := omega) only [wrapI]; omega)) (aC ⟨(by first | omega | (simp (disch := omega) only [wrapI]; omega)), (by first | omega | (simp (disch := omega) only [wrapI]; omega))⟩ (aC (by decide) (aC (by first | omega | (simp (disch := omega) only [wrapI]; omega)) (aC ⟨(by first | omega | (simp (disch := omega) only [wrapI]; omega)), (by first | omega | (simp (disch := omega) only [wrapI]; omega))⟩ (aC rfl (aC (decide_eq_true (by first | omega | (simp (disch := omega) only [wrapI]; omega))) (AllP_nil)))))))))))))))))))))))))))))))))))))))))))))))))))))))))))))))))))
  rw [e0] at h
  exact h

set_option maxHeartbeats 1000000 in
theorem rW1_last (S : List Int) (n nm : Nat) (b : List Int) (cap0 : Nat) (h0 : (nm = n)) (h1 : (n = (128 : Nat))) (hc0 : n ≤ cap0) (hl0_0 : List.length b = nm) (hv0 : List.length S = (8 : Nat)) (w : World) (β : Env) (s : (List Int)) : Run Try.prog ⟨w, [], 1, β⟩ (loopB Try.f44 0) (rW1_mk S n nm b cap0 (16 : Nat) s) (To ⟨w, [], 1, β⟩ (.exit 0) (rW1_mk S n nm b cap0 (16 : Nat) s)) :=
  Run.of_outT (B := ⟨w, [], 1, β⟩) (Λ := noLam) (Ψ := noPsi) (fuel := 0) (ora := [false]) (l := [.forget [0, 1, 2, 4, 5, 6, 7, 19] 5]) mix tabOkSA gam8_ok
    (vc := [(false = false)]) (by kernel_rfl)
    (aC rfl (AllP_nil))

theorem rW1_loop (S : List Int) (n nm : Nat) (b : List Int) (cap0 : Nat) (h0 : (nm = n)) (h1 : (n = (128 : Nat))) (hc0 : n ≤ cap0) (hl0_0 : List.length b = nm) (hv0 : List.length S = (8 : Nat)) (w : World) (β : Env) (s : (List Int)) : Run Try.prog ⟨w, [], 1, β⟩ (.block 0 (.loop (loopB Try.f44 0))) (rW1_mk S n nm b cap0 0 s) (To ⟨w, [], 1, β⟩ .normal (rW1_mk S n nm b cap0 (16 : Nat) (iter (rW1_step b) (16 : Nat) s))) :=
  Run.count (fun k => rW1_mk S n nm b cap0 k (iter (rW1_step b) k s)) (16 : Nat) (fun k hk => rW1_round S n nm b cap0 h0 h1 hc0 hl0_0 hv0 w β k hk _) (ex := (.exit 0)) (by simp) (rW1_last S n nm b cap0 h0 h1 hc0 hl0_0 hv0 w β _)

def rW1_out0 (b i0 : List Int) : List Int := (iter (rW1_step b) (16 : Nat) (i0))

def rW2_mk (S : List Int) (n nm : Nat) (b : List Int) (cap0 k : Nat) (s : (List Int)) : St := ⟨sparse 179 [(0, .o (.g [.ints .u64 (8 : Nat) S])), (1, .o (.a (.sl 0 0 n cap0))), (2, .o (.a (.p 1 0))), (4, .o (.a (.p 2 0))), (5, .o (.a (.p 3 0))), (6, .o (.a (.p 4 0))), (7, .o (.a (.i .i64 (16 : Int)))), (9, .o (.a (.i .i64 ((((16 : Nat) + k) : Nat) : Int)))), (19, .o (.g [.ints .u64 (80 : Nat) (konstR)]))], [some ⟨false, [.ints .u8 nm b]⟩, some ⟨true, [.ints .u64 (8 : Nat) S]⟩, some ⟨true, [.ints .u64 (8 : Nat) ([0, 0, 0, 0, 0, 0, 0, 0] : List Int)]⟩, some ⟨true, [.ints .u64 (80 : Nat) (konstR)]⟩, some ⟨true, [.ints .u64 (80 : Nat) s]⟩]⟩

def rW2_step (k : Nat) (s : (List Int)) : (List Int) :=
  let z0 : Int := (List.getD s (Int.toNat (IntKind.i64.wrap (((((16 : Nat) + k) : Nat) : Int) - (2 : Int)))) 0)
  let z1 : Int := (List.getD s (Int.toNat (IntKind.i64.wrap (((((16 : Nat) + k) : Nat) : Int) - (15 : Int)))) 0)
  ((List.set s ((16 : Nat) + k) (IntKind.u64.wrap ((IntKind.u64.wrap ((IntKind.u64.wrap ((List.getD s (Int.toNat (IntKind.i64.wrap (((((16 : Nat) + k) : Nat) : Int) - (16 : Int)))) 0) + (bits2 .xor .u64 (bits2 .xor .u64 (rorR z1 (1 : Int)) (rorR z1 (8 : Int))) (shr .u64 z1 (7 : Int))))) + (List.getD s (Int.toNat (IntKind.i64.wrap (((((16 : Nat) + k) : Nat) : Int) - (7 : Int)))) 0))) + (bits2 .xor .u64 (bits2 .xor .u64 (rorR z0 (19 : Int)) (rorR z0 (61 : Int))) (shr .u64 z0 (6 : Int)))))))

set_option maxHeartbeats 1000000 in
theorem rW2_round (S : List Int) (n nm : Nat) (b : List Int) (cap0 : Nat) (h0 : (nm = n)) (h1 : (n = (128 : Nat))) (hc0 : n ≤ cap0) (hl0_0 : List.length b = nm) (hv0 : List.length S = (8 : Nat)) (w : World) (β : Env) (k : Nat) (hk : k < (64 : Nat)) (s : (List Int)) : Run Try.prog ⟨w, [], 1, β⟩ (loopB Try.f44 4) (rW2_mk S n nm b cap0 k s) (To ⟨w, [], 1, β⟩ .normal (rW2_mk S n nm b cap0 (k + 1) (rW2_step k s))) := by
  have e0 : (IntKind.i64.wrap (((((16 : Nat) + k) : Nat) : Int) + (1 : Int))) = ((((16 : Nat) + (k + (1 : Nat))) : Nat) : Int) := (by first | rfl | exact wrap_succ (by omega) | omega | (simp (disch := omega) only [wrapI]; omega))
  have h := Run.of_outT (B := ⟨w, [], 1, β⟩) (Λ := noLam) (Ψ := noPsi) (fuel := 0) (ora := [true]) (c := (loopB Try.f44 4)) (st := (rW2_mk S n nm b cap0 k s)) (l := [.forget [0, 1, 2, 4, 5, 6, 7, 9, 19] 5]) (s' := ⟨sparse 179 [(0, .o (.g [.ints .u64 (8 : Nat) S])), (1, .o (.a (.sl 0 0 n cap0))), (2, .o (.a (.p 1 0))), (4, .o (.a (.p 2 0))), (5, .o (.a (.p 3 0))), (6, .o (.a (.p 4 0))), (7, .o (.a (.i .i64 (16 : Int)))), (9, .o (.a (.i .i64 (IntKind.i64.wrap (((((16 : Nat) + k) : Nat) : Int) + (1 : Int)))))), (19, .o (.g [.ints .u64 (80 : Nat) (konstR)]))], [some ⟨false, [.ints .u8 nm b]⟩, some ⟨true, [.ints .u64 (8 : Nat) S]⟩, some ⟨true, [.ints .u64 (8 : Nat) ([0, 0, 0, 0, 0, 0, 0, 0] : List Int)]⟩, some ⟨true, [.ints .u64 (80 : Nat) (konstR)]⟩, some ⟨true, [.ints .u64 (80 : Nat) (rW2_step k s)]⟩]⟩) (ex := .normal) mix tabOkSA gam8_ok
    (vc := [(((16 : Nat) + k) < (80 : Nat)), (((0 : Int) ≤ ((((16 : Nat) + k) : Nat) : Int)) ∧ (((((16 : Nat) + k) : Nat) : Int) < (80 : Int))), ((0 : Int) ≤ (6 : Int)), ((0 : Int) ≤ (61 : Int)), ((0 : Int) ≤ (19 : Int)), ((Int.toNat (IntKind.i64.wrap (((((16 : Nat) + k) : Nat) : Int) - (7 : Int)))) < (80 : Nat)), (((0 : Int) ≤ (IntKind.i64.wrap (((((16 : Nat) + k) : Nat) : Int) - (7 : Int)))) ∧ ((IntKind.i64.wrap (((((16 : Nat) + k) : Nat) : Int) - (7 : Int))) < (80 : Int))), ((0 : Int) ≤ (7 : Int)), ((0 : Int) ≤ (8 : Int)), ((0 : Int) ≤ (1 : Int)), ((Int.toNat (IntKind.i64.wrap (((((16 : Nat) + k) : Nat) : Int) - (16 : Int)))) < (80 : Nat)), (((0 : Int) ≤ (IntKind.i64.wrap (((((16 : Nat) + k) : Nat) : Int) - (16 : Int)))) ∧ ((IntKind.i64.wrap (((((16 : Nat) + k) : Nat) : Int) - (16 : Int))) < (80 : Int))), ((Int.toNat (IntKind.i64.wrap (((((16 : Nat) + k) : Nat) : Int) - (2 : Int)))) < (80 : Nat)), (((0 : Int) ≤ (IntKind.i64.wrap (((((16 : Nat) + k) : Nat) : Int) - (2 : Int)))) ∧ ((IntKind.i64.wrap (((((16 : Nat) + k) : Nat) : Int) - (2 : Int))) < (80 : Int))), ((Int.toNat (IntKind.i64.wrap (((((16 : Nat) + k) : Nat) : Int) - (15 : Int)))) < (80 : Nat)), (((0 : Int) ≤ (IntKind.i64.wrap (((((16 : Nat) + k) : Nat) : Int) - (15 : Int)))) ∧ ((IntKind.i64.wrap (((((16 : Nat) + k) : Nat) : Int) - (15 : Int))) < (80 : Int))), ((decide (((((16 : Nat) + k) : Nat) : Int) < (80 : Int))) = true)]) (by kernel_rfl)
    (aC (by first | omega | (simp (disch := omega) only [wrapI]; omega)) (aC ⟨(by first | omega | (simp (disch := omega) only [wrapI]; omega)), (by first | omega | (simp (disch := omega) only [wrapI]; omega))⟩ (aC (by decide) (aC (by decide) (aC (by decide) (aC (by first | omega | (simp (disch := omega) only [wrapI]; omega)) (aC ⟨(by first | omega | (simp (disch := omega) only [wrapI]; omega)), (by first | omega | (simp (disch := omega) only [wrapI]; omega))⟩ (aC (by decide) (aC (by decide) (aC (by decide) (aC (by first | omega | (simp (disch := omega) only [wrapI]; omega)) (aC ⟨(by first | omega | (simp (disch := omega) only [wrapI]; omega)), (by first | omega | (simp (disch := omega) only [wrapI]; omega))⟩ (aC (by first | omega | (simp (disch := omega) only [wrapI]; omega)) (aC ⟨(by first | omega | (simp (disch := omega) only [wrapI]; omega)), (by first | omega | (simp (disch := omega) only [wrapI]; omega))⟩ (aC (by first | omega | (simp (disch := omega) only [wrapI]; omega)) (aC ⟨(by first | omega | (simp (disch := omega) only [wrapI]; omega)), (by first | omega | (simp (disch := omega) only [wrapI]; omega))⟩ (aC (decide_eq_true (by first | omega | (simp (disch := omega) only [wrapI]; omega))) (AllP_nil))))))))))))))))))
  rw [e0] at h
  exact h

set_option maxHeartbeats 1000000 in
theorem rW2_last (S : List Int) (n nm : Nat) (b : List Int) (cap0 : Nat) (h0 : (nm = n)) (h1 : (n = (128 : Nat))) (hc0 : n ≤ cap0) (hl0_0 : List.length b = nm) (hv0 : List.length S = (8 : Nat)) (w : World) (β : Env) (s : (List Int)) : Run Try.prog ⟨w, [], 1, β⟩ (loopB Try.f44 4) (rW2_mk S n nm b cap0 (64 : Nat) s) (To ⟨w, [], 1, β⟩ (.exit 4) (rW2_mk S n nm b cap0 (64 : Nat) s)) :=
  Run.of_outT (B := ⟨w, [], 1, β⟩) (Λ := noLam) (Ψ := noPsi) (fuel := 0) (ora := [false]) (l := [.forget [0, 1, 2, 4, 5, 6, 7, 9, 19] 5]) mix tabOkSA gam8_ok
    (vc := [(false = false)]) (by kernel_rfl)
    (aC rfl (AllP_nil))

theorem rW2_loop (S : List Int) (n nm : Nat) (b : List Int) (cap0 : Nat) (h0 : (nm = n)) (h1 : (n = (128 : Nat))) (hc0 : n ≤ cap0) (hl0_0 : List.length b = nm) (hv0 : List.length S = (8 : Nat)) (w : World) (β : Env) (s : (List Int)) : Run Try.prog ⟨w, [], 1, β⟩ (.block 4 (.loop (loopB Try.f44 4))) (rW2_mk S n nm b cap0 0 s) (To ⟨w, [], 1, β⟩ .normal (rW2_mk S n nm b cap0 (64 : Nat) (iter (rW2_step) (64 : Nat) s))) :=
  Run.count (fun k => rW2_mk S n nm b cap0 k (iter (rW2_step) k s)) (64 : Nat) (fun k hk => rW2_round S n nm b cap0 h0 h1 hc0 hl0_0 hv0 w β k hk _) (ex := (.exit 4)) (by simp) (rW2_last S n nm b cap0 h0 h1 hc0 hl0_0 hv0 w β _)

def rW2_out0 (i0 : List Int) : List Int := (iter (rW2_step) (64 : Nat) (i0))

def rT_mk (S : List Int) (n nm : Nat) (b : List Int) (cap0 k : Nat) (s : (List Int)) : St := ⟨sparse 179 [(0, .o (.g [.ints .u64 (8 : Nat) S])), (1, .o (.a (.sl 0 0 n cap0))), (2, .o (.a (.p 1 0))), (4, .o (.a (.p 2 0))), (5, .o (.a (.p 3 0))), (6, .o (.a (.p 4 0))), (7, .o (.a (.i .i64 (16 : Int)))), (9, .o (.a (.i .i64 (80 : Int)))), (12, .o (.a (.p 5 0))), (13, .o (.a (.i .i64 ((k : Nat) : Int)))), (19, .o (.g [.ints .u64 (80 : Nat) (konstR)])), (84, .o (.g [.ints .u64 (8 : Nat) S]))], [some ⟨false, [.ints .u8 nm b]⟩, some ⟨true, [.ints .u64 (8 : Nat) S]⟩, some ⟨true, [.ints .u64 (8 : Nat) ([0, 0, 0, 0, 0, 0, 0, 0] : List Int)]⟩, some ⟨true, [.ints .u64 (80 : Nat) (konstR)]⟩, some ⟨true, [.ints .u64 (80 : Nat) (rW2_out0 (rW1_out0 b (List.replicate (80 : Nat) (0 : Int))))]⟩, some ⟨true, [.ints .u64 (8 : Nat) s]⟩]⟩

def rT_step (b : List Int) (k : Nat) (s : (List Int)) : (List Int) :=
  let z0 : Int := (IntKind.u64.wrap ((IntKind.u64.wrap ((IntKind.u64.wrap ((IntKind.u64.wrap ((List.getD (sub s (7 : Nat) (1 : Nat)) (0 : Nat) 0) + (bits2 .xor .u64 (bits2 .xor .u64 (rorR (List.getD (sub s (4 : Nat) (1 : Nat)) (0 : Nat) 0) (14 : Int)) (rorR (List.getD (sub s (4 : Nat) (1 : Nat)) (0 : Nat) 0) (18 : Int))) (rorR (List.getD (sub s (4 : Nat) (1 : Nat)) (0 : Nat) 0) (41 : Int))))) + (bits2 .xor .u64 (bits2 .and .u64 (List.getD (sub s (4 : Nat) (1 : Nat)) (0 : Nat) 0) (List.getD (sub s (5 : Nat) (1 : Nat)) (0 : Nat) 0)) (bits2 .and .u64 (bits2 .xor .u64 (18446744073709551615 : Int) (List.getD (sub s (4 : Nat) (1 : Nat)) (0 : Nat) 0)) (List.getD (sub s (6 : Nat) (1 : Nat)) (0 : Nat) 0))))) + (List.getD (konstR) k 0))) + (List.getD (rW2_out0 (rW1_out0 b (List.replicate (80 : Nat) (0 : Int)))) k 0)))
  (([(IntKind.u64.wrap (z0 + (IntKind.u64.wrap ((bits2 .xor .u64 (bits2 .xor .u64 (rorR (List.getD (sub s 0 (1 : Nat)) (0 : Nat) 0) (28 : Int)) (rorR (List.getD (sub s 0 (1 : Nat)) (0 : Nat) 0) (34 : Int))) (rorR (List.getD (sub s 0 (1 : Nat)) (0 : Nat) 0) (39 : Int))) + (bits2 .xor .u64 (bits2 .xor .u64 (bits2 .and .u64 (List.getD (sub s 0 (1 : Nat)) (0 : Nat) 0) (List.getD (sub s (1 : Nat) (1 : Nat)) (0 : Nat) 0)) (bits2 .and .u64 (List.getD (sub s 0 (1 : Nat)) (0 : Nat) 0) (List.getD (sub s (2 : Nat) (1 : Nat)) (0 : Nat) 0))) (bits2 .and .u64 (List.getD (sub s (1 : Nat) (1 : Nat)) (0 : Nat) 0) (List.getD (sub s (2 : Nat) (1 : Nat)) (0 : Nat) 0))))))), (List.getD (sub s 0 (1 : Nat)) (0 : Nat) 0), (List.getD (sub s (1 : Nat) (1 : Nat)) (0 : Nat) 0), (List.getD (sub s (2 : Nat) (1 : Nat)) (0 : Nat) 0), (IntKind.u64.wrap ((List.getD (sub s (3 : Nat) (1 : Nat)) (0 : Nat) 0) + z0)), (List.getD (sub s (4 : Nat) (1 : Nat)) (0 : Nat) 0), (List.getD (sub s (5 : Nat) (1 : Nat)) (0 : Nat) 0), (List.getD (sub s (6 : Nat) (1 : Nat)) (0 : Nat) 0)] : List Int))

set_option maxHeartbeats 1000000 in
theorem rT_round (S : List Int) (n nm : Nat) (b : List Int) (cap0 : Nat) (h0 : (nm = n)) (h1 : (n = (128 : Nat))) (hc0 : n ≤ cap0) (hl0_0 : List.length b = nm) (hv0 : List.length S = (8 : Nat)) (w : World) (β : Env) (k : Nat) (hk : k < (80 : Nat)) (s : (List Int)) : Run Try.prog ⟨w, [], 1, β⟩ (loopB Try.f44 6) (rT_mk S n nm b cap0 k s) (To ⟨w, [], 1, β⟩ .normal (rT_mk S n nm b cap0 (k + 1) (rT_step b k s))) := by
  have e0 : (IntKind.i64.wrap (((k : Nat) : Int) + (1 : Int))) = (((k + (1 : Nat)) : Nat) : Int) := (by first | rfl | exact wrap_succ (by omega) | omega | (simp (disch := omega) only [wrapI]; omega))
  have h := Run.of_outT (B := ⟨w, [], 1, β⟩) (Λ := noLam) (Ψ := noPsi) (fuel := 0) (ora := [true]) (c := (loopB Try.f44 6)) (st := (rT_mk S n nm b cap0 k s)) (l := [.forget [0, 1, 2, 4, 5, 6, 7, 9, 12, 13, 19, 84] 6]) (s' := ⟨sparse 179 [(0, .o (.g [.ints .u64 (8 : Nat) S])), (1, .o (.a (.sl 0 0 n cap0))), (2, .o (.a (.p 1 0))), (4, .o (.a (.p 2 0))), (5, .o (.a (.p 3 0))), (6, .o (.a (.p 4 0))), (7, .o (.a (.i .i64 (16 : Int)))), (9, .o (.a (.i .i64 (80 : Int)))), (12, .o (.a (.p 5 0))), (13, .o (.a (.i .i64 (IntKind.i64.wrap (((k : Nat) : Int) + (1 : Int)))))), (19, .o (.g [.ints .u64 (80 : Nat) (konstR)])), (84, .o (.g [.ints .u64 (8 : Nat) S]))], [some ⟨false, [.ints .u8 nm b]⟩, some ⟨true, [.ints .u64 (8 : Nat) S]⟩, some ⟨true, [.ints .u64 (8 : Nat) ([0, 0, 0, 0, 0, 0, 0, 0] : List Int)]⟩, some ⟨true, [.ints .u64 (80 : Nat) (konstR)]⟩, some ⟨true, [.ints .u64 (80 : Nat) (rW2_out0 (rW1_out0 b (List.replicate (80 : Nat) (0 : Int))))]⟩, some ⟨true, [.ints .u64 (8 : Nat) (rT_step b k s)]⟩]⟩) (ex := .normal) mix tabOkSA gam8_ok
    (vc := [((0 : Int) ≤ (39 : Int)), ((0 : Int) ≤ (34 : Int)), ((0 : Int) ≤ (28 : Int)), (k < (80 : Nat)), (((0 : Int) ≤ ((k : Nat) : Int)) ∧ (((k : Nat) : Int) < (80 : Int))), (k < (80 : Nat)), (((0 : Int) ≤ ((k : Nat) : Int)) ∧ (((k : Nat) : Int) < (80 : Int))), ((0 : Int) ≤ (41 : Int)), ((0 : Int) ≤ (18 : Int)), ((0 : Int) ≤ (14 : Int)), ((decide (((k : Nat) : Int) < (80 : Int))) = true)]) (by kernel_rfl)
    (aC (by decide) (aC (by decide) (aC (by decide) (aC (by first | omega | (simp (disch := omega) only [wrapI]; omega)) (aC ⟨(by first | omega | (simp (disch := omega) only [wrapI]; omega)), (by first | omega | (simp (disch := omega) only [wrapI]; omega))⟩ (aC (by first | omega | (simp (disch := omega) only [wrapI]; omega)) (aC ⟨(by first | omega | (simp (disch := omega) only [wrapI]; omega)), (by first | omega | (simp (disch := omega) only [wrapI]; omega))⟩ (aC (by decide) (aC (by decide) (aC (by decide) (aC (decide_eq_true (by first | omega | (simp (disch := omega) only [wrapI]; omega))) (AllP_nil))))))))))))
  rw [e0] at h
  exact h

set_option maxHeartbeats 1000000 in
theorem rT_last (S : List Int) (n nm : Nat) (b : List Int) (cap0 : Nat) (h0 : (nm = n)) (h1 : (n = (128 : Nat))) (hc0 : n ≤ cap0) (hl0_0 : List.length b = nm) (hv0 : List.length S = (8 : Nat)) (w : World) (β : Env) (s : (List Int)) : Run Try.prog ⟨w, [], 1, β⟩ (loopB Try.f44 6) (rT_mk S n nm b cap0 (80 : Nat) s) (To ⟨w, [], 1, β⟩ (.exit 6) (rT_mk S n nm b cap0 (80 : Nat) s)) :=
  Run.of_outT (B := ⟨w, [], 1, β⟩) (Λ := noLam) (Ψ := noPsi) (fuel := 0) (ora := [false]) (l := [.forget [0, 1, 2, 4, 5, 6, 7, 9, 12, 13, 19, 84] 6]) mix tabOkSA gam8_ok
    (vc := [(false = false)]) (by kernel_rfl)
    (aC rfl (AllP_nil))

theorem rT_loop (S : List Int) (n nm : Nat) (b : List Int) (cap0 : Nat) (h0 : (nm = n)) (h1 : (n = (128 : Nat))) (hc0 : n ≤ cap0) (hl0_0 : List.length b = nm) (hv0 : List.length S = (8 : Nat)) (w : World) (β : Env) (s : (List Int)) : Run Try.prog ⟨w, [], 1, β⟩ (.block 6 (.loop (loopB Try.f44 6))) (rT_mk S n nm b cap0 0 s) (To ⟨w, [], 1, β⟩ .normal (rT_mk S n nm b cap0 (80 : Nat) (iter (rT_step b) (80 : Nat) s))) :=
  Run.count (fun k => rT_mk S n nm b cap0 k (iter (rT_step b) k s)) (80 : Nat) (fun k hk => rT_round S n nm b cap0 h0 h1 hc0 hl0_0 hv0 w β k hk _) (ex := (.exit 6)) (by simp) (rT_last S n nm b cap0 h0 h1 hc0 hl0_0 hv0 w β _)

def rT_out0 (b i0 : List Int) : List Int := (iter (rT_step b) (80 : Nat) (i0))

def blkR (S b : List Int) : List Int :=
  let z0 : List Int := (List.set (rT_out0 b S) (0 : Nat) (IntKind.u64.wrap ((List.getD (rT_out0 b S) (0 : Nat) 0) + (List.getD S (0 : Nat) 0))))
  let z1 : List Int := (List.set z0 (1 : Nat) (IntKind.u64.wrap ((List.getD z0 (1 : Nat) 0) + (List.getD S (1 : Nat) 0))))
  let z2 : List Int := (List.set z1 (2 : Nat) (IntKind.u64.wrap ((List.getD z1 (2 : Nat) 0) + (List.getD S (2 : Nat) 0))))
  let z3 : List Int := (List.set z2 (3 : Nat) (IntKind.u64.wrap ((List.getD z2 (3 : Nat) 0) + (List.getD S (3 : Nat) 0))))
  let z4 : List Int := (List.set z3 (4 : Nat) (IntKind.u64.wrap ((List.getD z3 (4 : Nat) 0) + (List.getD S (4 : Nat) 0))))
  let z5 : List Int := (List.set z4 (5 : Nat) (IntKind.u64.wrap ((List.getD z4 (5 : Nat) 0) + (List.getD S (5 : Nat) 0))))
  let z6 : List Int := (List.set z5 (6 : Nat) (IntKind.u64.wrap ((List.getD z5 (6 : Nat) 0) + (List.getD S (6 : Nat) 0))))
  (List.set z6 (7 : Nat) (IntKind.u64.wrap ((List.getD z6 (7 : Nat) 0) + (List.getD S (7 : Nat) 0))))

set_option maxHeartbeats 1000000 in
theorem blkR_body0 (S : List Int) (n nm : Nat) (b : List Int) (cap0 : Nat) (h0 : (nm = n)) (h1 : (n = (128 : Nat))) (hc0 : n ≤ cap0) (hl0_0 : List.length b = nm) (hv0 : List.length S = (8 : Nat)) (w : World) (β : Env) : Body Try.prog (tabOf tabSA) Try.f44 ⟨w, [], 1, β⟩ [.o (.g [.ints .u64 (8 : Nat) S]), .o (.a (.sl 0 0 n cap0))] [some ⟨false, [.ints .u8 nm b]⟩] (fun ys _ => ys = [.g [.ints .u64 (8 : Nat) (blkR S b)]]) :=
  Body.of_fin (Γ := gam8) (Λ := lamOf [(0, ⟨[.forget [0, 1, 2, 4, 5, 6, 7, 19] 5], .normal, (rW1_mk S n nm b cap0 (16 : Nat) (iter (rW1_step b) (16 : Nat) ((List.replicate (80 : Nat) (0 : Int)))))⟩), (4, ⟨[.forget [0, 1, 2, 4, 5, 6, 7, 9, 19] 5], .normal, (rW2_mk S n nm b cap0 (64 : Nat) (iter (rW2_step) (64 : Nat) ((rW1_out0 b (List.replicate (80 : Nat) (0 : Int))))))⟩), (6, ⟨[.forget [0, 1, 2, 4, 5, 6, 7, 9, 12, 13, 19, 84] 6], .normal, (rT_mk S n nm b cap0 (80 : Nat) (iter (rT_step b) (80 : Nat) (S)))⟩)]) (Ψ := noPsi) (fuel := 9) (m := 179) (c := (Try.f44.body.getD .skip)) mix tabOkSA gam8_ok rfl (rs := [.cell 4 53]) rfl rfl [true, true, true, true, true, true, true, true, false] []
    (vc := [(false = false), ((7 : Nat) < (8 : Nat)), (((0 : Int) ≤ (7 : Int)) ∧ ((7 : Int) < (8 : Int))), ((7 : Nat) < (8 : Nat)), (((0 : Int) ≤ (7 : Int)) ∧ ((7 : Int) < (8 : Int))), ((7 : Nat) < (8 : Nat)), (((0 : Int) ≤ (7 : Int)) ∧ ((7 : Int) < (8 : Int))), (true = true), ((6 : Nat) < (8 : Nat)), (((0 : Int) ≤ (6 : Int)) ∧ ((6 : Int) < (8 : Int))), ((6 : Nat) < (8 : Nat)), (((0 : Int) ≤ (6 : Int)) ∧ ((6 : Int) < (8 : Int))), ((6 : Nat) < (8 : Nat)), (((0 : Int) ≤ (6 : Int)) ∧ ((6 : Int) < (8 : Int))), (true = true), ((5 : Nat) < (8 : Nat)), (((0 : Int) ≤ (5 : Int)) ∧ ((5 : Int) < (8 : Int))), ((5 : Nat) < (8 : Nat)), (((0 : Int) ≤ (5 : Int)) ∧ ((5 : Int) < (8 : Int))), ((5 : Nat) < (8 : Nat)), (((0 : Int) ≤ (5 : Int)) ∧ ((5 : Int) < (8 : Int))), (true = true), ((4 : Nat) < (8 : Nat)), (((0 : Int) ≤ (4 : Int)) ∧ ((4 : Int) < (8 : Int))), ((4 : Nat) < (8 : Nat)), (((0 : Int) ≤ (4 : Int)) ∧ ((4 : Int) < (8 : Int))), ((4 : Nat) < (8 : Nat)), (((0 : Int) ≤ (4 : Int)) ∧ ((4 : Int) < (8 : Int))), (true = true), ((3 : Nat) < (8 : Nat)), (((0 : Int) ≤ (3 : Int)) ∧ ((3 : Int) < (8 : Int))), ((3 : Nat) < (8 : Nat)), (((0 : Int) ≤ (3 : Int)) ∧ ((3 : Int) < (8 : Int))), ((3 : Nat) < (8 : Nat)), (((0 : Int) ≤ (3 : Int)) ∧ ((3 : Int) < (8 : Int))), (true = true), ((2 : Nat) < (8 : Nat)), (((0 : Int) ≤ (2 : Int)) ∧ ((2 : Int) < (8 : Int))), ((2 : Nat) < (8 : Nat)), (((0 : Int) ≤ (2 : Int)) ∧ ((2 : Int) < (8 : Int))), ((2 : Nat) < (8 : Nat)), (((0 : Int) ≤ (2 : Int)) ∧ ((2 : Int) < (8 : Int))), (true = true), ((1 : Nat) < (8 : Nat)), (((0 : Int) ≤ (1 : Int)) ∧ ((1 : Int) < (8 : Int))), ((1 : Nat) < (8 : Nat)), (((0 : Int) ≤ (1 : Int)) ∧ ((1 : Int) < (8 : Int))), ((1 : Nat) < (8 : Nat)), (((0 : Int) ≤ (1 : Int)) ∧ ((1 : Int) < (8 : Int))), (true = true), ((0 : Nat) < (8 : Nat)), (((0 : Int) ≤ (0 : Int)) ∧ ((0 : Int) < (8 : Int))), ((0 : Nat) < (8 : Nat)), (((0 : Int) ≤ (0 : Int)) ∧ ((0 : Int) < (8 : Int))), ((0 : Nat) < (8 : Nat)), (((0 : Int) ≤ (0 : Int)) ∧ ((0 : Int) < (8 : Int))), (true = true), (Run Try.prog ⟨w, [], 1, β⟩ (.block 6 (.loop (loopB Try.f44 6))) (rT_mk S n nm b cap0 0 (S)) (To ⟨w, [], 1, β⟩ .normal (rT_mk S n nm b cap0 (80 : Nat) (iter (rT_step b) (80 : Nat) (S))))), (Run Try.prog ⟨w, [], 1, β⟩ (.block 4 (.loop (loopB Try.f44 4))) (rW2_mk S n nm b cap0 0 ((rW1_out0 b (List.replicate (80 : Nat) (0 : Int))))) (To ⟨w, [], 1, β⟩ .normal (rW2_mk S n nm b cap0 (64 : Nat) (iter (rW2_step) (64 : Nat) ((rW1_out0 b (List.replicate (80 : Nat) (0 : Int)))))))), (Run Try.prog ⟨w, [], 1, β⟩ (.block 0 (.loop (loopB Try.f44 0))) (rW1_mk S n nm b cap0 0 ((List.replicate (80 : Nat) (0 : Int)))) (To ⟨w, [], 1, β⟩ .normal (rW1_mk S n nm b cap0 (16 : Nat) (iter (rW1_step b) (16 : Nat) ((List.replicate (80 : Nat) (0 : Int)))))))]) (by kernel_rfl)
    (aC rfl (aC (by decide) (aC ⟨(by decide), (by decide)⟩ (aC (by decide) (aC ⟨(by decide), (by decide)⟩ (aC (by decide) (aC ⟨(by decide), (by decide)⟩ (aC rfl (aC (by decide) (aC ⟨(by decide), (by decide)⟩ (aC (by decide) (aC ⟨(by decide), (by decide)⟩ (aC (by decide) (aC ⟨(by decide), (by decide)⟩ (aC rfl (aC (by decide) (aC ⟨(by decide), (by decide)⟩ (aC (by decide) (aC ⟨(by decide), (by decide)⟩ (aC (by decide) (aC ⟨(by decide), (by decide)⟩ (aC rfl (aC (by decide) (aC ⟨(by decide), (by decide)⟩ (aC (by decide) (aC ⟨(by decide), (by decide)⟩ (aC (by decide) (aC ⟨(by decide), (by decide)⟩ (aC rfl (aC (by decide) (aC ⟨(by decide), (by decide)⟩ (aC (by decide) (aC ⟨(by decide), (by decide)⟩ (aC (by decide) (aC ⟨(by decide), (by decide)⟩ (aC rfl (aC (by decide) (aC ⟨(by decide), (by decide)⟩ (aC (by decide) (aC ⟨(by decide), (by decide)⟩ (aC (by decide) (aC ⟨(by decide), (by decide)⟩ (aC rfl (aC (by decide) (aC ⟨(by decide), (by decide)⟩ (aC (by decide) (aC ⟨(by decide), (by decide)⟩ (aC (by decide) (aC ⟨(by decide), (by decide)⟩ (aC rfl (aC (by decide) (aC ⟨(by decide), (by decide)⟩ (aC (by decide) (aC ⟨(by decide), (by decide)⟩ (aC (by decide) (aC ⟨(by decide), (by decide)⟩ (aC rfl (aC (rT_loop S n nm b cap0 h0 h1 hc0 hl0_0 hv0 w β (S)) (aC (rW2_loop S n nm b cap0 h0 h1 hc0 hl0_0 hv0 w β ((rW1_out0 b (List.replicate (80 : Nat) (0 : Int))))) (aC (rW1_loop S n nm b cap0 h0 h1 hc0 hl0_0 hv0 w β ((List.replicate (80 : Nat) (0 : Int)))) (AllP_nil)))))))))))))))))))))))))))))))))))))))))))))))))))))))))))))

theorem blkR_body (S : List Int) (n nm : Nat) (b : List Int) (cap0 : Nat) (h0 : (nm = n)) (h1 : (n = (128 : Nat))) (w : World) (β : Env) : Body Try.prog (tabOf tabSA) Try.f44 ⟨w, [], 1, β⟩ [.o (.g [.ints .u64 (8 : Nat) S]), .o (.a (.sl 0 0 n cap0))] [some ⟨false, [.ints .u8 nm b]⟩] (fun ys _ => ys = [.g [.ints .u64 (8 : Nat) (blkR S b)]]) :=
  Body.lens (c := (Try.f44.body.getD .skip)) rfl fun h => blkR_body0 S n nm b cap0 h0 h1 (h.caps 1 _ _ _ _ rfl) (h.lens 0 _ .u8 nm b rfl (by simp)) (h.vals 0 _ _ _ rfl) w β

def gam9 : Gam := greadV 44 [.v, .s 1] (fun vs args => match vs, args with | [⟨_, _, _, [.ints .u8 nm b]⟩], [.o (.g [.ints .u64 (8 : Nat) S]), a0] => some ((nm = (lenOfA a0)) ∧ ((lenOfA a0) = (128 : Nat)), [.g [.ints .u64 (8 : Nat) (blkR S b)]]) | _, _ => none) gam8
theorem gam9_ok : GamOk Try.prog gam9 := greadV_ok tabOkSA Try.func44 gam8_ok Try.call44 (by
  intro vs args p xs h hv
  split at h
  · simp only [Option.some.injEq, Prod.mk.injEq] at h; obtain ⟨rfl, rfl⟩ := h; exact ⟨by rfl, fun caps w β => blkR_body _ _ _ _ _ hv.1 hv.2 w β⟩
  · simp at h)

end Go.Proofs.Ytepimglipelpmaa.X

/- Plain lemmas on numbers for the walks of the hash. -/
namespace Go.Proofs.Ytepimglipelpmaa.X
open Go Go.Proofs

def padE (n : Int) : Int := IntKind.u64.wrap ((1 : Int) + (Int.tmod (IntKind.u64.wrap ((239 : Int) - (Int.tmod n (128 : Int)))) (128 : Int)))

theorem tmod_lt (n : Int) : -128 < Int.tmod n 128 ∧ Int.tmod n 128 < 128 := by
  rcases Int.le_total 0 n with h | h
  · rw [Int.tmod_eq_emod_of_nonneg h]; omega
  · obtain ⟨m, rfl⟩ : ∃ m, n = -m := ⟨-n, by omega⟩
    rw [Int.neg_tmod, Int.tmod_eq_emod_of_nonneg (by omega)]; omega

theorem padE_ok (n : Int) : 1 ≤ padE n ∧ padE n ≤ 128 := by
  have h1 := tmod_lt n
  have h2 : IntKind.u64.wrap (239 - Int.tmod n 128) = 239 - Int.tmod n 128 := wrapU (by omega) (by omega)
  unfold padE
  rw [h2]
  have h3 := tmod_lt (239 - Int.tmod n 128)
  have h4 : 0 ≤ Int.tmod (239 - Int.tmod n 128) 128 := Int.tmod_nonneg _ (by omega)
  rw [wrapU (by omega) (by omega)]
  omega

theorem wmin_small {tl n : Nat} (h : tl + n < 128) : (if ((n : Nat) : Int) < IntKind.i64.wrap ((128 : Int) - ((tl : Nat) : Int)) then ((n : Nat) : Int) else IntKind.i64.wrap ((128 : Int) - ((tl : Nat) : Int))) = ((n : Nat) : Int) := by
  rw [wrapI (by omega) (by omega), if_pos (by omega)]
theorem wmin_big {tl n : Nat} (h : 128 ≤ tl + n) (ht : tl < 128) : (if ((n : Nat) : Int) < IntKind.i64.wrap ((128 : Int) - ((tl : Nat) : Int)) then ((n : Nat) : Int) else IntKind.i64.wrap ((128 : Int) - ((tl : Nat) : Int))) = (((128 - tl : Nat) : Nat) : Int) := by
  rw [wrapI (by omega) (by omega)]; split <;> omega
end Go.Proofs.Ytepimglipelpmaa.X

/- Printed by a tool of this session. -/
namespace Go.Proofs.Ytepimglipelpmaa.X
open Go Go.Proofs
set_option linter.unusedVariables false
set_option linter.unusedSimpArgs false
set_option maxRecDepth 100000
theorem teSC_3 : TEOk Try.prog 3 ⟨.int .i64, 1, 8, [.i .i64 (0 : Int)], false⟩ :=
  TEOk.of Try.underlying3 (i := Try.t3) (by kernel_rfl) rfl rfl rfl (by kernel_rfl) (fun h => by cases h) (by kernel_rfl)
theorem teSC_5 : TEOk Try.prog 5 ⟨.int .u8, 1, 1, [.i .u8 (0 : Int)], false⟩ :=
  TEOk.of Try.underlying5 (i := Try.t5) (by kernel_rfl) rfl rfl rfl (by kernel_rfl) (fun h => by cases h) (by kernel_rfl)
theorem teSC_22 : TEOk Try.prog 22 ⟨.slice 5, 1, 24, [.raw (.slice none 0 0)], false⟩ :=
  TEOk.of Try.underlying22 (i := Try.t22) (by kernel_rfl) rfl rfl rfl (by kernel_rfl) (fun h => by cases h) (by kernel_rfl)
theorem teSC_52 : TEOk Try.prog 52 ⟨.int .u64, 1, 8, [.i .u64 (0 : Int)], false⟩ :=
  TEOk.of Try.underlying52 (i := Try.t52) (by kernel_rfl) rfl rfl rfl (by kernel_rfl) (fun h => by cases h) (by kernel_rfl)
theorem teSC_53 : TEOk Try.prog 53 ⟨.array 8 52, 8, 64, [.ints .u64 (8 : Nat) ([0, 0, 0, 0, 0, 0, 0, 0] : List Int)], true⟩ :=
  TEOk.of Try.underlying53 (i := Try.t53) (by kernel_rfl) rfl rfl rfl (by kernel_rfl) (fun _ => Try.eqGuardType53) (by kernel_rfl)
theorem teSC_65 : TEOk Try.prog 65 ⟨.array 80 52, 80, 640, [.ints .u64 (80 : Nat) (List.replicate (80 : Nat) (0 : Int))], true⟩ :=
  TEOk.of Try.underlying65 (i := Try.t65) (by kernel_rfl) rfl rfl rfl (by kernel_rfl) (fun _ => Try.eqGuardType65) (by kernel_rfl)
theorem teSC_70 : TEOk Try.prog 70 ⟨.pointer 102, 1, 8, [.raw (.pointer none)], false⟩ :=
  TEOk.of Try.underlying70 (i := Try.t70) (by kernel_rfl) rfl rfl rfl (by kernel_rfl) (fun h => by cases h) (by kernel_rfl)
theorem teSC_100 : TEOk Try.prog 100 ⟨.pointer 65, 1, 8, [.raw (.pointer none)], false⟩ :=
  TEOk.of Try.underlying100 (i := Try.t100) (by kernel_rfl) rfl rfl rfl (by kernel_rfl) (fun h => by cases h) (by kernel_rfl)
theorem teSC_102 : TEOk Try.prog 102 ⟨Try.t101.desc, 11, 104, [.ints .u64 (8 : Nat) ([0, 0, 0, 0, 0, 0, 0, 0] : List Int), .raw (.slice none 0 0), .i .u64 (0 : Int), .raw (.pointer none)], false⟩ :=
  TEOk.of Try.underlying102 (i := Try.t102) (by kernel_rfl) rfl rfl rfl (by kernel_rfl) (fun h => by cases h) (by kernel_rfl)
noncomputable def tabSC : List (Nat × TE) := [(3, ⟨.int .i64, 1, 8, [.i .i64 (0 : Int)], false⟩), (5, ⟨.int .u8, 1, 1, [.i .u8 (0 : Int)], false⟩), (22, ⟨.slice 5, 1, 24, [.raw (.slice none 0 0)], false⟩), (52, ⟨.int .u64, 1, 8, [.i .u64 (0 : Int)], false⟩), (53, ⟨.array 8 52, 8, 64, [.ints .u64 (8 : Nat) ([0, 0, 0, 0, 0, 0, 0, 0] : List Int)], true⟩), (65, ⟨.array 80 52, 80, 640, [.ints .u64 (80 : Nat) (List.replicate (80 : Nat) (0 : Int))], true⟩), (70, ⟨.pointer 102, 1, 8, [.raw (.pointer none)], false⟩), (100, ⟨.pointer 65, 1, 8, [.raw (.pointer none)], false⟩), (102, ⟨Try.t101.desc, 11, 104, [.ints .u64 (8 : Nat) ([0, 0, 0, 0, 0, 0, 0, 0] : List Int), .raw (.slice none 0 0), .i .u64 (0 : Int), .raw (.pointer none)], false⟩)]
theorem tabOkSC : TabOk Try.prog (tabOf tabSC) := (tabOf_cons teSC_3 (tabOf_cons teSC_5 (tabOf_cons teSC_22 (tabOf_cons teSC_52 (tabOf_cons teSC_53 (tabOf_cons teSC_65 (tabOf_cons teSC_70 (tabOf_cons teSC_100 (tabOf_cons teSC_102 tabOf_nil)))))))))

def pad (n : Int) : Nat :=
  ((Int.toNat (IntKind.u64.wrap ((1 : Int) + (Int.tmod (IntKind.u64.wrap ((239 : Int) - (Int.tmod n (128 : Int)))) (128 : Int))))) + (16 : Nat))

def pad_1 (n : Int) : List Int :=
  let z0 : Nat := (Int.toNat (IntKind.u64.wrap ((1 : Int) + (Int.tmod (IntKind.u64.wrap ((239 : Int) - (Int.tmod n (128 : Int)))) (128 : Int)))))
  (splice (splice (splice (splice (splice (splice (splice (splice (splice (List.set (List.replicate (256 : Nat) (0 : Int)) (0 : Nat) (128 : Int)) ((0 : Nat) + z0) (8 : Nat) (List.replicate (8 : Nat) (0 : Int))) ((0 : Nat) + (z0 + (8 : Nat))) (1 : Nat) ([(IntKind.u8.wrap (shr .u64 (IntKind.u64.wrap (n * (8 : Int))) (56 : Int)))] : List Int)) ((0 : Nat) + (z0 + (9 : Nat))) (1 : Nat) ([(IntKind.u8.wrap (shr .u64 (IntKind.u64.wrap (n * (8 : Int))) (48 : Int)))] : List Int)) ((0 : Nat) + (z0 + (10 : Nat))) (1 : Nat) ([(IntKind.u8.wrap (shr .u64 (IntKind.u64.wrap (n * (8 : Int))) (40 : Int)))] : List Int)) ((0 : Nat) + (z0 + (11 : Nat))) (1 : Nat) ([(IntKind.u8.wrap (shr .u64 (IntKind.u64.wrap (n * (8 : Int))) (32 : Int)))] : List Int)) ((0 : Nat) + (z0 + (12 : Nat))) (1 : Nat) ([(IntKind.u8.wrap (shr .u64 (IntKind.u64.wrap (n * (8 : Int))) (24 : Int)))] : List Int)) ((0 : Nat) + (z0 + (13 : Nat))) (1 : Nat) ([(IntKind.u8.wrap (shr .u64 (IntKind.u64.wrap (n * (8 : Int))) (16 : Int)))] : List Int)) ((0 : Nat) + (z0 + (14 : Nat))) (1 : Nat) ([(IntKind.u8.wrap (shr .u64 (IntKind.u64.wrap (n * (8 : Int))) (8 : Int)))] : List Int)) ((0 : Nat) + (z0 + (15 : Nat))) (1 : Nat) ([(IntKind.u8.wrap (shr .u64 (IntKind.u64.wrap (n * (8 : Int))) (0 : Int)))] : List Int))

set_option maxHeartbeats 1000000 in
theorem pad_body0 (n : Int) (w : World) (rw : List Nat) (β : Env) : Body Try.prog (tabOf tabSC) Try.f60 ⟨w, rw, 0, β⟩ [.o (.a (.i .u64 n))] [] (fun ys K' => ys = [.a (.sl 0 0 (pad n) (256 : Nat))] ∧ K' = [some ⟨true, [.ints .u8 (256 : Nat) (pad_1 n)]⟩]) :=
  Body.of_finK (Γ := gam9) (Λ := noLam) (Ψ := noPsi) (fuel := 9) (m := 29) (c := (Try.f60.body.getD .skip)) mix tabOkSC gam9_ok rfl (rs := [.tmp 2]) rfl rfl [true, true, true, true, true, true, true, true, true, true, true, true, true, true, true, true, true, false] [] 1
    (vc := [(false = false), ((((1 : Nat) ≤ (1 : Nat)) ∧ ((1 : Nat) ≤ (1 : Nat))) ∧ (okP (some ((((0 : Nat) + ((Int.toNat (IntKind.u64.wrap ((1 : Int) + (Int.tmod (IntKind.u64.wrap ((239 : Int) - (Int.tmod n (128 : Int)))) (128 : Int))))) + (15 : Nat))) + (1 : Nat)) ≤ (256 : Nat)))) ∧ (((Int.toNat (IntKind.u64.wrap ((1 : Int) + (Int.tmod (IntKind.u64.wrap ((239 : Int) - (Int.tmod n (128 : Int)))) (128 : Int))))) + (16 : Nat)) ≤ (256 : Nat))), ((0 : Int) ≤ (0 : Int)), (true = true), ((((1 : Nat) ≤ (1 : Nat)) ∧ ((1 : Nat) ≤ (1 : Nat))) ∧ (okP (some ((((0 : Nat) + ((Int.toNat (IntKind.u64.wrap ((1 : Int) + (Int.tmod (IntKind.u64.wrap ((239 : Int) - (Int.tmod n (128 : Int)))) (128 : Int))))) + (14 : Nat))) + (1 : Nat)) ≤ (256 : Nat)))) ∧ (((Int.toNat (IntKind.u64.wrap ((1 : Int) + (Int.tmod (IntKind.u64.wrap ((239 : Int) - (Int.tmod n (128 : Int)))) (128 : Int))))) + (15 : Nat)) ≤ (256 : Nat))), ((0 : Int) ≤ (8 : Int)), (true = true), ((((1 : Nat) ≤ (1 : Nat)) ∧ ((1 : Nat) ≤ (1 : Nat))) ∧ (okP (some ((((0 : Nat) + ((Int.toNat (IntKind.u64.wrap ((1 : Int) + (Int.tmod (IntKind.u64.wrap ((239 : Int) - (Int.tmod n (128 : Int)))) (128 : Int))))) + (13 : Nat))) + (1 : Nat)) ≤ (256 : Nat)))) ∧ (((Int.toNat (IntKind.u64.wrap ((1 : Int) + (Int.tmod (IntKind.u64.wrap ((239 : Int) - (Int.tmod n (128 : Int)))) (128 : Int))))) + (14 : Nat)) ≤ (256 : Nat))), ((0 : Int) ≤ (16 : Int)), (true = true), ((((1 : Nat) ≤ (1 : Nat)) ∧ ((1 : Nat) ≤ (1 : Nat))) ∧ (okP (some ((((0 : Nat) + ((Int.toNat (IntKind.u64.wrap ((1 : Int) + (Int.tmod (IntKind.u64.wrap ((239 : Int) - (Int.tmod n (128 : Int)))) (128 : Int))))) + (12 : Nat))) + (1 : Nat)) ≤ (256 : Nat)))) ∧ (((Int.toNat (IntKind.u64.wrap ((1 : Int) + (Int.tmod (IntKind.u64.wrap ((239 : Int) - (Int.tmod n (128 : Int)))) (128 : Int))))) + (13 : Nat)) ≤ (256 : Nat))), ((0 : Int) ≤ (24 : Int)), (true = true), ((((1 : Nat) ≤ (1 : Nat)) ∧ ((1 : Nat) ≤ (1 : Nat))) ∧ (okP (some ((((0 : Nat) + ((Int.toNat (IntKind.u64.wrap ((1 : Int) + (Int.tmod (IntKind.u64.wrap ((239 : Int) - (Int.tmod n (128 : Int)))) (128 : Int))))) + (11 : Nat))) + (1 : Nat)) ≤ (256 : Nat)))) ∧ (((Int.toNat (IntKind.u64.wrap ((1 : Int) + (Int.tmod (IntKind.u64.wrap ((239 : Int) - (Int.tmod n (128 : Int)))) (128 : Int))))) + (12 : Nat)) ≤ (256 : Nat))), ((0 : Int) ≤ (32 : Int)), (true = true), ((((1 : Nat) ≤ (1 : Nat)) ∧ ((1 : Nat) ≤ (1 : Nat))) ∧ (okP (some ((((0 : Nat) + ((Int.toNat (IntKind.u64.wrap ((1 : Int) + (Int.tmod (IntKind.u64.wrap ((239 : Int) - (Int.tmod n (128 : Int)))) (128 : Int))))) + (10 : Nat))) + (1 : Nat)) ≤ (256 : Nat)))) ∧ (((Int.toNat (IntKind.u64.wrap ((1 : Int) + (Int.tmod (IntKind.u64.wrap ((239 : Int) - (Int.tmod n (128 : Int)))) (128 : Int))))) + (11 : Nat)) ≤ (256 : Nat))), ((0 : Int) ≤ (40 : Int)), (true = true), ((((1 : Nat) ≤ (1 : Nat)) ∧ ((1 : Nat) ≤ (1 : Nat))) ∧ (okP (some ((((0 : Nat) + ((Int.toNat (IntKind.u64.wrap ((1 : Int) + (Int.tmod (IntKind.u64.wrap ((239 : Int) - (Int.tmod n (128 : Int)))) (128 : Int))))) + (9 : Nat))) + (1 : Nat)) ≤ (256 : Nat)))) ∧ (((Int.toNat (IntKind.u64.wrap ((1 : Int) + (Int.tmod (IntKind.u64.wrap ((239 : Int) - (Int.tmod n (128 : Int)))) (128 : Int))))) + (10 : Nat)) ≤ (256 : Nat))), ((0 : Int) ≤ (48 : Int)), (true = true), ((((1 : Nat) ≤ (1 : Nat)) ∧ ((1 : Nat) ≤ (1 : Nat))) ∧ (okP (some ((((0 : Nat) + ((Int.toNat (IntKind.u64.wrap ((1 : Int) + (Int.tmod (IntKind.u64.wrap ((239 : Int) - (Int.tmod n (128 : Int)))) (128 : Int))))) + (8 : Nat))) + (1 : Nat)) ≤ (256 : Nat)))) ∧ (((Int.toNat (IntKind.u64.wrap ((1 : Int) + (Int.tmod (IntKind.u64.wrap ((239 : Int) - (Int.tmod n (128 : Int)))) (128 : Int))))) + (9 : Nat)) ≤ (256 : Nat))), ((0 : Int) ≤ (56 : Int)), (true = true), ((((0 : Int) ≤ (8 : Int)) ∧ ((8 : Int) ≤ (281474976710656 : Int))) ∧ (okP (some ((((0 : Nat) + (Int.toNat (IntKind.u64.wrap ((1 : Int) + (Int.tmod (IntKind.u64.wrap ((239 : Int) - (Int.tmod n (128 : Int)))) (128 : Int)))))) + (8 : Nat)) ≤ (256 : Nat)))) ∧ (((Int.toNat (IntKind.u64.wrap ((1 : Int) + (Int.tmod (IntKind.u64.wrap ((239 : Int) - (Int.tmod n (128 : Int)))) (128 : Int))))) + (8 : Nat)) ≤ (256 : Nat))), ((0 : Nat) < (256 : Nat)), (((0 : Int) ≤ (0 : Int)) ∧ ((0 : Int) < (((Int.toNat (IntKind.u64.wrap ((1 : Int) + (Int.tmod (IntKind.u64.wrap ((239 : Int) - (Int.tmod n (128 : Int)))) (128 : Int))))) : Nat) : Int))), (((0 : Int) ≤ (IntKind.u64.wrap ((1 : Int) + (Int.tmod (IntKind.u64.wrap ((239 : Int) - (Int.tmod n (128 : Int)))) (128 : Int))))) ∧ ((IntKind.u64.wrap ((1 : Int) + (Int.tmod (IntKind.u64.wrap ((239 : Int) - (Int.tmod n (128 : Int)))) (128 : Int)))) ≤ (256 : Int)) ∧ ((256 : Int) ≤ (281474976710656 : Int))), ((128 : Int) ≠ 0), ((128 : Int) ≠ 0)]) (by kernel_rfl)
    (aC rfl (aC ⟨⟨(by decide), (by decide)⟩, (show ((((0 : Nat) + ((Int.toNat (IntKind.u64.wrap ((1 : Int) + (Int.tmod (IntKind.u64.wrap ((239 : Int) - (Int.tmod n (128 : Int)))) (128 : Int))))) + (15 : Nat))) + (1 : Nat)) ≤ (256 : Nat)) from (by have := padE_ok n; unfold padE at this; first | omega | (simp (disch := omega) only [wrapI]; omega))), (by have := padE_ok n; unfold padE at this; first | omega | (simp (disch := omega) only [wrapI]; omega))⟩ (aC (by decide) (aC rfl (aC ⟨⟨(by decide), (by decide)⟩, (show ((((0 : Nat) + ((Int.toNat (IntKind.u64.wrap ((1 : Int) + (Int.tmod (IntKind.u64.wrap ((239 : Int) - (Int.tmod n (128 : Int)))) (128 : Int))))) + (14 : Nat))) + (1 : Nat)) ≤ (256 : Nat)) from (by have := padE_ok n; unfold padE at this; first | omega | (simp (disch := omega) only [wrapI]; omega))), (by have := padE_ok n; unfold padE at this; first | omega | (simp (disch := omega) only [wrapI]; omega))⟩ (aC (by decide) (aC rfl (aC ⟨⟨(by decide), (by decide)⟩, (show ((((0 : Nat) + ((Int.toNat (IntKind.u64.wrap ((1 : Int) + (Int.tmod (IntKind.u64.wrap ((239 : Int) - (Int.tmod n (128 : Int)))) (128 : Int))))) + (13 : Nat))) + (1 : Nat)) ≤ (256 : Nat)) from (by have := padE_ok n; unfold padE at this; first | omega | (simp (disch := omega) only [wrapI]; omega))), (by have := padE_ok n; unfold padE at this; first | omega | (simp (disch := omega) only [wrapI]; omega))⟩ (aC (by decide) (aC rfl (aC ⟨⟨(by decide), (by decide)⟩, (show ((((0 : Nat) + ((Int.toNat (IntKind.u64.wrap ((1 : Int) + (Int.tmod (IntKind.u64.wrap ((239 : Int) - (Int.tmod n (128 : Int)))) (128 : Int))))) + (12 : Nat))) + (1 : Nat)) ≤ (256 : Nat)) from (by have := padE_ok n; unfold padE at this; first | omega | (simp (disch := omega) only [wrapI]; omega))), (by have := padE_ok n; unfold padE at this; first | omega | (simp (disch := omega) only [wrapI]; omega))⟩ (aC (by decide) (aC rfl (aC ⟨⟨(by decide), (by decide)⟩, (show ((((0 : Nat) + ((Int.toNat (IntKind.u64.wrap ((1 : Int) + (Int.tmod (IntKind.u64.wrap ((239 : Int) - (Int.tmod n (128 : Int)))) (128 : Int))))) + (11 : Nat))) + (1 : Nat)) ≤ (256 : Nat)) from (by have := padE_ok n; unfold padE at this; first | omega | (simp (disch := omega) only [wrapI]; omega))), (by have := padE_ok n; unfold padE at this; first | omega | (simp (disch := omega) only [wrapI]; omega))⟩ (aC (by decide) (aC rfl (aC ⟨⟨(by decide), (by decide)⟩, (show ((((0 : Nat) + ((Int.toNat (IntKind.u64.wrap ((1 : Int) + (Int.tmod (IntKind.u64.wrap ((239 : Int) - (Int.tmod n (128 : Int)))) (128 : Int))))) + (10 : Nat))) + (1 : Nat)) ≤ (256 : Nat)) from (by have := padE_ok n; unfold padE at this; first | omega | (simp (disch := omega) only [wrapI]; omega))), (by have := padE_ok n; unfold padE at this; first | omega | (simp (disch := omega) only [wrapI]; omega))⟩ (aC (by decide) (aC rfl (aC ⟨⟨(by decide), (by decide)⟩, (show ((((0 : Nat) + ((Int.toNat (IntKind.u64.wrap ((1 : Int) + (Int.tmod (IntKind.u64.wrap ((239 : Int) - (Int.tmod n (128 : Int)))) (128 : Int))))) + (9 : Nat))) + (1 : Nat)) ≤ (256 : Nat)) from (by have := padE_ok n; unfold padE at this; first | omega | (simp (disch := omega) only [wrapI]; omega))), (by have := padE_ok n; unfold padE at this; first | omega | (simp (disch := omega) only [wrapI]; omega))⟩ (aC (by decide) (aC rfl (aC ⟨⟨(by decide), (by decide)⟩, (show ((((0 : Nat) + ((Int.toNat (IntKind.u64.wrap ((1 : Int) + (Int.tmod (IntKind.u64.wrap ((239 : Int) - (Int.tmod n (128 : Int)))) (128 : Int))))) + (8 : Nat))) + (1 : Nat)) ≤ (256 : Nat)) from (by have := padE_ok n; unfold padE at this; first | omega | (simp (disch := omega) only [wrapI]; omega))), (by have := padE_ok n; unfold padE at this; first | omega | (simp (disch := omega) only [wrapI]; omega))⟩ (aC (by decide) (aC rfl (aC ⟨⟨(by decide), (by decide)⟩, (show ((((0 : Nat) + (Int.toNat (IntKind.u64.wrap ((1 : Int) + (Int.tmod (IntKind.u64.wrap ((239 : Int) - (Int.tmod n (128 : Int)))) (128 : Int)))))) + (8 : Nat)) ≤ (256 : Nat)) from (by have := padE_ok n; unfold padE at this; first | omega | (simp (disch := omega) only [wrapI]; omega))), (by have := padE_ok n; unfold padE at this; first | omega | (simp (disch := omega) only [wrapI]; omega))⟩ (aC (by decide) (aC ⟨(by decide), (by have := padE_ok n; unfold padE at this; first | omega | (simp (disch := omega) only [wrapI]; omega))⟩ (aC ⟨(wrap_nn (k := .u64) rfl), (by have := padE_ok n; unfold padE at this; first | omega | (simp (disch := omega) only [wrapI]; omega)), (by decide)⟩ (aC (by decide) (aC (by decide) (AllP_nil))))))))))))))))))))))))))))))))

theorem pad_body (n : Int) (w : World) (rw : List Nat) (β : Env) : Body Try.prog (tabOf tabSC) Try.f60 ⟨w, rw, 0, β⟩ [.o (.a (.i .u64 n))] [] (fun ys K' => ys = [.a (.sl 0 0 (pad n) (256 : Nat))] ∧ K' = [some ⟨true, [.ints .u8 (256 : Nat) (pad_1 n)]⟩]) :=
  Body.lens (c := (Try.f60.body.getD .skip)) rfl fun h => pad_body0 n  w rw β

def gam10 : Gam := gcall 60 [] [.w] (fun wk vs args => match wk, vs, args with | [], [], [.o (.a (.i .u64 n))] => some (True, [.a (.sl 0 0 (pad n) (256 : Nat))], [some ⟨true, [.ints .u8 (256 : Nat) (pad_1 n)]⟩]) | _, _, _ => none) gam9
theorem gam10_ok : GamOk Try.prog gam10 := gcall_ok tabOkSC Try.func60 gam9_ok Try.call60 (by
  intro wk vs args p xs K1 h hv
  split at h
  · simp only [Option.some.injEq, Prod.mk.injEq] at h; obtain ⟨rfl, rfl, rfl⟩ := h; exact fun caps w rw β => pad_body _ w rw β
  · simp at h)

set_option maxHeartbeats 1000000 in
theorem made_body0 (S : List Int) (tl : Nat) (N : Int) (L C : List Int) (hl0_0 : List.length S = (8 : Nat)) (hl1_0 : List.length L = tl) (hl2_0 : List.length C = (80 : Nat)) (w : World) (rw : List Nat) (β : Env) : Body Try.prog (tabOf tabSC) Try.f61 ⟨w, rw, 3, β⟩ [.o (.a (.p 0 0))] [some ⟨false, [.ints .u64 (8 : Nat) S, .rs 1 0 tl 1, .i .u64 N, .p 2 0]⟩, some ⟨false, [.ints .u8 tl L]⟩, some ⟨false, [.ints .u64 (80 : Nat) C]⟩] (fun ys K' => ys = [.a (.b true)] ∧ K' = [some ⟨false, [.ints .u64 (8 : Nat) S, .rs 1 0 tl 1, .i .u64 N, .p 2 0]⟩, some ⟨false, [.ints .u8 tl L]⟩, some ⟨false, [.ints .u64 (80 : Nat) C]⟩]) :=
  Body.of_finK (Γ := gam10) (Λ := noLam) (Ψ := noPsi) (fuel := 0) (m := 12) (c := (Try.f61.body.getD .skip)) mix tabOkSC gam10_ok rfl (rs := [.tmp 2]) rfl rfl [true, true, true, true, true, true] [] 3
    (vc := [(true = true), (true = true), (true = true), (true = true), (true = true), (true = true)]) (by kernel_rfl)
    (aC rfl (aC rfl (aC rfl (aC rfl (aC rfl (aC rfl (AllP_nil)))))))

theorem made_body (S : List Int) (tl : Nat) (N : Int) (L C : List Int) (w : World) (rw : List Nat) (β : Env) : Body Try.prog (tabOf tabSC) Try.f61 ⟨w, rw, 3, β⟩ [.o (.a (.p 0 0))] [some ⟨false, [.ints .u64 (8 : Nat) S, .rs 1 0 tl 1, .i .u64 N, .p 2 0]⟩, some ⟨false, [.ints .u8 tl L]⟩, some ⟨false, [.ints .u64 (80 : Nat) C]⟩] (fun ys K' => ys = [.a (.b true)] ∧ K' = [some ⟨false, [.ints .u64 (8 : Nat) S, .rs 1 0 tl 1, .i .u64 N, .p 2 0]⟩, some ⟨false, [.ints .u8 tl L]⟩, some ⟨false, [.ints .u64 (80 : Nat) C]⟩]) :=
  Body.lens (c := (Try.f61.body.getD .skip)) rfl fun h => made_body0 S tl N L C (h.lens 0 _ .u64 (8 : Nat) S rfl (by simp)) (h.lens 1 _ .u8 tl L rfl (by simp)) (h.lens 2 _ .u64 (80 : Nat) C rfl (by simp)) w rw β

def gam11 : Gam := gcall 61 [false, false, false] [.w] (fun wk vs args => match wk, vs, args with | [⟨false, [.ints .u64 (8 : Nat) S, .rs 1 0 tl 1, .i .u64 N, .p 2 0]⟩, ⟨false, [.ints .u8 tl_1 L]⟩, ⟨false, [.ints .u64 (80 : Nat) C]⟩], [], [.o (.a (.p 0 0))] => some ((tl_1 = tl), [.a (.b true)], [some ⟨false, [.ints .u64 (8 : Nat) S, .rs 1 0 tl 1, .i .u64 N, .p 2 0]⟩, some ⟨false, [.ints .u8 tl L]⟩, some ⟨false, [.ints .u64 (80 : Nat) C]⟩]) | _, _, _ => none) gam10
theorem gam11_ok : GamOk Try.prog gam11 := gcall_ok tabOkSC Try.func61 gam10_ok Try.call61 (by
  intro wk vs args p xs K1 h hv
  split at h
  · simp only [Option.some.injEq, Prod.mk.injEq] at h; obtain ⟨rfl, rfl, rfl⟩ := h; have g0 := hv; subst g0; exact fun caps w rw β => made_body _ _ _ _ _ w rw β
  · simp at h)

set_option maxHeartbeats 1000000 in
theorem newH_body0 (w : World) (rw : List Nat) (β : Env) : Body Try.prog (tabOf tabSC) Try.f35 ⟨w, rw, 0, β⟩ [] [] (fun ys K' => ys = [.a (.p 1 0)] ∧ K' = [some ⟨true, [.ints .u64 (80 : Nat) (konst)]⟩, some ⟨true, [.ints .u64 (8 : Nat) ([7640891576956012808, 13503953896175478587, 4354685564936845355, 11912009170470909681, 5840696475078001361, 11170449401992604703, 2270897969802886507, 6620516959819538809] : List Int), .rs 2 0 (0 : Nat) 1, .i .u64 (0 : Int), .p 0 0]⟩, some ⟨true, [.ints .u8 (0 : Nat) ([] : List Int)]⟩]) :=
  Body.of_finK (Γ := gam11) (Λ := noLam) (Ψ := noPsi) (fuel := 0) (m := 6) (c := (Try.f35.body.getD .skip)) mix tabOkSC gam11_ok rfl (rs := [.tmp 0]) rfl rfl [] [.rowB 1 1 .u8 1] 3
    (vc := []) (by kernel_rfl)
    (AllP_nil)

theorem newH_body (w : World) (rw : List Nat) (β : Env) : Body Try.prog (tabOf tabSC) Try.f35 ⟨w, rw, 0, β⟩ [] [] (fun ys K' => ys = [.a (.p 1 0)] ∧ K' = [some ⟨true, [.ints .u64 (80 : Nat) (konst)]⟩, some ⟨true, [.ints .u64 (8 : Nat) ([7640891576956012808, 13503953896175478587, 4354685564936845355, 11912009170470909681, 5840696475078001361, 11170449401992604703, 2270897969802886507, 6620516959819538809] : List Int), .rs 2 0 (0 : Nat) 1, .i .u64 (0 : Int), .p 0 0]⟩, some ⟨true, [.ints .u8 (0 : Nat) ([] : List Int)]⟩]) :=
  Body.lens (c := (Try.f35.body.getD .skip)) rfl fun h => newH_body0  w rw β

def gam12 : Gam := gcall 35 [] [] (fun wk vs args => match wk, vs, args with | [], [], [] => some (True, [.a (.p 1 0)], [some ⟨true, [.ints .u64 (80 : Nat) (konst)]⟩, some ⟨true, [.ints .u64 (8 : Nat) ([7640891576956012808, 13503953896175478587, 4354685564936845355, 11912009170470909681, 5840696475078001361, 11170449401992604703, 2270897969802886507, 6620516959819538809] : List Int), .rs 2 0 (0 : Nat) 1, .i .u64 (0 : Int), .p 0 0]⟩, some ⟨true, [.ints .u8 (0 : Nat) ([] : List Int)]⟩]) | _, _, _ => none) gam11
theorem gam12_ok : GamOk Try.prog gam12 := gcall_ok tabOkSC Try.func35 gam11_ok Try.call35 (by
  intro wk vs args p xs K1 h hv
  split at h
  · simp only [Option.some.injEq, Prod.mk.injEq] at h; obtain ⟨rfl, rfl, rfl⟩ := h; exact fun caps w rw β => newH_body w rw β
  · simp at h)

end Go.Proofs.Ytepimglipelpmaa.X

/- Printed by a tool of this session. -/
namespace Go.Proofs.Ytepimglipelpmaa.X
open Go Go.Proofs
set_option linter.unusedVariables false
set_option linter.unusedSimpArgs false
set_option maxRecDepth 100000
theorem teSD_3 : TEOk Try.prog 3 ⟨.int .i64, 1, 8, [.i .i64 (0 : Int)], false⟩ :=
  TEOk.of Try.underlying3 (i := Try.t3) (by kernel_rfl) rfl rfl rfl (by kernel_rfl) (fun h => by cases h) (by kernel_rfl)
theorem teSD_5 : TEOk Try.prog 5 ⟨.int .u8, 1, 1, [.i .u8 (0 : Int)], false⟩ :=
  TEOk.of Try.underlying5 (i := Try.t5) (by kernel_rfl) rfl rfl rfl (by kernel_rfl) (fun h => by cases h) (by kernel_rfl)
theorem teSD_22 : TEOk Try.prog 22 ⟨.slice 5, 1, 24, [.raw (.slice none 0 0)], false⟩ :=
  TEOk.of Try.underlying22 (i := Try.t22) (by kernel_rfl) rfl rfl rfl (by kernel_rfl) (fun h => by cases h) (by kernel_rfl)
theorem teSD_52 : TEOk Try.prog 52 ⟨.int .u64, 1, 8, [.i .u64 (0 : Int)], false⟩ :=
  TEOk.of Try.underlying52 (i := Try.t52) (by kernel_rfl) rfl rfl rfl (by kernel_rfl) (fun h => by cases h) (by kernel_rfl)
theorem teSD_53 : TEOk Try.prog 53 ⟨.array 8 52, 8, 64, [.ints .u64 (8 : Nat) ([0, 0, 0, 0, 0, 0, 0, 0] : List Int)], true⟩ :=
  TEOk.of Try.underlying53 (i := Try.t53) (by kernel_rfl) rfl rfl rfl (by kernel_rfl) (fun _ => Try.eqGuardType53) (by kernel_rfl)
theorem teSD_100 : TEOk Try.prog 100 ⟨.pointer 65, 1, 8, [.raw (.pointer none)], false⟩ :=
  TEOk.of Try.underlying100 (i := Try.t100) (by kernel_rfl) rfl rfl rfl (by kernel_rfl) (fun h => by cases h) (by kernel_rfl)
theorem teSD_102 : TEOk Try.prog 102 ⟨Try.t101.desc, 11, 104, [.ints .u64 (8 : Nat) ([0, 0, 0, 0, 0, 0, 0, 0] : List Int), .raw (.slice none 0 0), .i .u64 (0 : Int), .raw (.pointer none)], false⟩ :=
  TEOk.of Try.underlying102 (i := Try.t102) (by kernel_rfl) rfl rfl rfl (by kernel_rfl) (fun h => by cases h) (by kernel_rfl)
noncomputable def tabSD : List (Nat × TE) := [(3, ⟨.int .i64, 1, 8, [.i .i64 (0 : Int)], false⟩), (5, ⟨.int .u8, 1, 1, [.i .u8 (0 : Int)], false⟩), (22, ⟨.slice 5, 1, 24, [.raw (.slice none 0 0)], false⟩), (52, ⟨.int .u64, 1, 8, [.i .u64 (0 : Int)], false⟩), (53, ⟨.array 8 52, 8, 64, [.ints .u64 (8 : Nat) ([0, 0, 0, 0, 0, 0, 0, 0] : List Int)], true⟩), (100, ⟨.pointer 65, 1, 8, [.raw (.pointer none)], false⟩), (102, ⟨Try.t101.desc, 11, 104, [.ints .u64 (8 : Nat) ([0, 0, 0, 0, 0, 0, 0, 0] : List Int), .raw (.slice none 0 0), .i .u64 (0 : Int), .raw (.pointer none)], false⟩)]
theorem tabOkSD : TabOk Try.prog (tabOf tabSD) := (tabOf_cons teSD_3 (tabOf_cons teSD_5 (tabOf_cons teSD_22 (tabOf_cons teSD_52 (tabOf_cons teSD_53 (tabOf_cons teSD_100 (tabOf_cons teSD_102 tabOf_nil)))))))

def wAL_mk (S : List Int) (tl : Nat) (N : Int) (L C : List Int) (n nm : Nat) (b : List Int) (cap3 k : Nat) (s : (List Int)) : St := ⟨sparse 105 [(0, .o (.a (.p 0 0))), (1, .o (.a (.sl 3 ((128 : Nat) * k) (n - ((128 : Nat) * k)) (cap3 - ((128 : Nat) * k))))), (5, .o (.a (.p 0 0))), (6, .o (.a (.b true))), (7, .o (.a (.b false))), (8, .o (.a (.p 0 0))), (9, .o (.a (.p 0 0))), (10, .o (.a (.p 0 9))), (11, .o (.a (.i .u64 N))), (12, .o (.a (.sl 3 0 n cap3))), (13, .o (.a (.i .i64 ((n : Nat) : Int)))), (14, .o (.a (.i .u64 (IntKind.u64.wrap ((n : Nat) : Int))))), (15, .o (.a (.i .u64 (IntKind.u64.wrap (N + (IntKind.u64.wrap ((n : Nat) : Int))))))), (16, .o (.a (.p 0 0))), (17, .o (.a (.p 0 9))), (18, .o (.a (.p 0 0))), (19, .o (.a (.p 0 0))), (20, .o (.a (.p 0 8))), (21, .o (.a (.rs 1 0 tl 1))), (22, .o (.a (.i .i64 ((tl : Nat) : Int)))), (23, .o (.a (.b (decide (((tl : Nat) : Int) > (0 : Int))))))], [some ⟨true, [.ints .u64 (8 : Nat) s, .rs 1 0 tl 1, .i .u64 (IntKind.u64.wrap (N + (IntKind.u64.wrap ((n : Nat) : Int)))), .p 2 0]⟩, some ⟨true, [.ints .u8 tl L]⟩, some ⟨false, [.ints .u64 (80 : Nat) C]⟩, some ⟨false, [.ints .u8 nm b]⟩]⟩

def wAL_step (C b : List Int) (k : Nat) (s : (List Int)) : (List Int) :=
  ((blk s (sub b ((128 : Nat) * k) (128 : Nat)) C))

set_option maxHeartbeats 1000000 in
theorem wAL_round (S : List Int) (tl : Nat) (N : Int) (L C : List Int) (n nm : Nat) (b : List Int) (cap3 : Nat) (h0 : (nm = n)) (h1 : (tl < (128 : Nat))) (h2 : (n < (140737488355328 : Nat))) (hc3 : n ≤ cap3) (hl0_0 : List.length S = (8 : Nat)) (hl1_0 : List.length L = tl) (hl2_0 : List.length C = (80 : Nat)) (hl3_0 : List.length b = nm) (hp : tl = 0) (w : World) (rw : List Nat) (β : Env) (k : Nat) (hk : k < (n / (128 : Nat))) (s : (List Int)) : Run Try.prog ⟨w, rw, 4, β⟩ (loopB Try.f31 0) (wAL_mk S tl N L C n nm b cap3 k s) (To ⟨w, rw, 4, β⟩ .normal (wAL_mk S tl N L C n nm b cap3 (k + 1) (wAL_step C b k s))) := by
  have e0 : ((cap3 - ((128 : Nat) * k)) - (128 : Nat)) = (cap3 - ((128 : Nat) * (k + (1 : Nat)))) := (by first | rfl | exact wrap_succ (by omega) | omega | (simp (disch := omega) only [wrapI]; omega))
  have e1 : ((n - ((128 : Nat) * k)) - (128 : Nat)) = (n - ((128 : Nat) * (k + (1 : Nat)))) := (by first | rfl | exact wrap_succ (by omega) | omega | (simp (disch := omega) only [wrapI]; omega))
  have e2 : (((128 : Nat) * k) + (128 : Nat)) = ((128 : Nat) * (k + (1 : Nat))) := (by first | rfl | exact wrap_succ (by omega) | omega | (simp (disch := omega) only [wrapI]; omega))
  have h := Run.of_outT (B := ⟨w, rw, 4, β⟩) (Λ := noLam) (Ψ := noPsi) (fuel := 0) (ora := [true]) (c := (loopB Try.f31 0)) (st := (wAL_mk S tl N L C n nm b cap3 k s)) (l := [.forget [0, 1, 5, 6, 7, 8, 9, 10, 11, 12, 13, 14, 15, 16, 17, 18, 19, 20, 21, 22, 23] 4]) (s' := ⟨sparse 105 [(0, .o (.a (.p 0 0))), (1, .o (.a (.sl 3 (((128 : Nat) * k) + (128 : Nat)) ((n - ((128 : Nat) * k)) - (128 : Nat)) ((cap3 - ((128 : Nat) * k)) - (128 : Nat))))), (5, .o (.a (.p 0 0))), (6, .o (.a (.b true))), (7, .o (.a (.b false))), (8, .o (.a (.p 0 0))), (9, .o (.a (.p 0 0))), (10, .o (.a (.p 0 9))), (11, .o (.a (.i .u64 N))), (12, .o (.a (.sl 3 0 n cap3))), (13, .o (.a (.i .i64 ((n : Nat) : Int)))), (14, .o (.a (.i .u64 (IntKind.u64.wrap ((n : Nat) : Int))))), (15, .o (.a (.i .u64 (IntKind.u64.wrap (N + (IntKind.u64.wrap ((n : Nat) : Int))))))), (16, .o (.a (.p 0 0))), (17, .o (.a (.p 0 9))), (18, .o (.a (.p 0 0))), (19, .o (.a (.p 0 0))), (20, .o (.a (.p 0 8))), (21, .o (.a (.rs 1 0 tl 1))), (22, .o (.a (.i .i64 ((tl : Nat) : Int)))), (23, .o (.a (.b (decide (((tl : Nat) : Int) > (0 : Int))))))], [some ⟨true, [.ints .u64 (8 : Nat) (wAL_step C b k s), .rs 1 0 tl 1, .i .u64 (IntKind.u64.wrap (N + (IntKind.u64.wrap ((n : Nat) : Int)))), .p 2 0]⟩, some ⟨true, [.ints .u8 tl L]⟩, some ⟨false, [.ints .u64 (80 : Nat) C]⟩, some ⟨false, [.ints .u8 nm b]⟩]⟩) (ex := .normal) mix tabOkSD gam12_ok
    (vc := [(((0 : Int) ≤ (128 : Int)) ∧ ((128 : Int) ≤ (((n - ((128 : Nat) * k)) : Nat) : Int))), ((True ∧ (((((128 : Nat) * k) + (128 : Nat)) ≤ nm) ∧ (True ∧ True))) ∧ (((128 : Nat) = (128 : Nat)) ∧ ((128 : Nat) = (128 : Nat)))), (((0 : Int) ≤ (0 : Int)) ∧ ((0 : Int) ≤ (128 : Int)) ∧ ((128 : Int) ≤ (((cap3 - ((128 : Nat) * k)) : Nat) : Int))), ((decide ((((n - ((128 : Nat) * k)) : Nat) : Int) ≥ (128 : Int))) = true)]) (by kernel_rfl)
    (aC ⟨(by decide), (by first | omega | (simp (disch := omega) only [wrapI]; omega))⟩ (aC ⟨⟨trivial, ⟨(by first | omega | (simp (disch := omega) only [wrapI]; omega)), ⟨trivial, trivial⟩⟩⟩, ⟨rfl, rfl⟩⟩ (aC ⟨(by decide), (by decide), (by first | omega | (simp (disch := omega) only [wrapI]; omega))⟩ (aC (decide_eq_true (by first | omega | (simp (disch := omega) only [wrapI]; omega))) (AllP_nil)))))
  rw [e0, e1, e2] at h
  exact h

set_option maxHeartbeats 1000000 in
theorem wAL_last (S : List Int) (tl : Nat) (N : Int) (L C : List Int) (n nm : Nat) (b : List Int) (cap3 : Nat) (h0 : (nm = n)) (h1 : (tl < (128 : Nat))) (h2 : (n < (140737488355328 : Nat))) (hc3 : n ≤ cap3) (hl0_0 : List.length S = (8 : Nat)) (hl1_0 : List.length L = tl) (hl2_0 : List.length C = (80 : Nat)) (hl3_0 : List.length b = nm) (hp : tl = 0) (w : World) (rw : List Nat) (β : Env) (s : (List Int)) : Run Try.prog ⟨w, rw, 4, β⟩ (loopB Try.f31 0) (wAL_mk S tl N L C n nm b cap3 (n / (128 : Nat)) s) (To ⟨w, rw, 4, β⟩ (.exit 0) (wAL_mk S tl N L C n nm b cap3 (n / (128 : Nat)) s)) :=
  Run.of_outT (B := ⟨w, rw, 4, β⟩) (Λ := noLam) (Ψ := noPsi) (fuel := 0) (ora := [false]) (l := [.forget [0, 1, 5, 6, 7, 8, 9, 10, 11, 12, 13, 14, 15, 16, 17, 18, 19, 20, 21, 22, 23] 4]) mix tabOkSD gam12_ok
    (vc := [((decide ((((n - ((128 : Nat) * (n / (128 : Nat)))) : Nat) : Int) ≥ (128 : Int))) = false)]) (by kernel_rfl)
    (aC (decide_eq_false (by first | omega | (simp (disch := omega) only [wrapI]; omega))) (AllP_nil))

theorem wAL_loop (S : List Int) (tl : Nat) (N : Int) (L C : List Int) (n nm : Nat) (b : List Int) (cap3 : Nat) (h0 : (nm = n)) (h1 : (tl < (128 : Nat))) (h2 : (n < (140737488355328 : Nat))) (hc3 : n ≤ cap3) (hl0_0 : List.length S = (8 : Nat)) (hl1_0 : List.length L = tl) (hl2_0 : List.length C = (80 : Nat)) (hl3_0 : List.length b = nm) (hp : tl = 0) (w : World) (rw : List Nat) (β : Env) (s : (List Int)) : Run Try.prog ⟨w, rw, 4, β⟩ (.block 0 (.loop (loopB Try.f31 0))) (wAL_mk S tl N L C n nm b cap3 0 s) (To ⟨w, rw, 4, β⟩ .normal (wAL_mk S tl N L C n nm b cap3 (n / (128 : Nat)) (iter (wAL_step C b) (n / (128 : Nat)) s))) :=
  Run.count (fun k => wAL_mk S tl N L C n nm b cap3 k (iter (wAL_step C b) k s)) (n / (128 : Nat)) (fun k hk => wAL_round S tl N L C n nm b cap3 h0 h1 h2 hc3 hl0_0 hl1_0 hl2_0 hl3_0 hp w rw β k hk _) (ex := (.exit 0)) (by simp) (wAL_last S tl N L C n nm b cap3 h0 h1 h2 hc3 hl0_0 hl1_0 hl2_0 hl3_0 hp w rw β _)

def wAL_out0 (C b : List Int) (n : Nat) (i0 : List Int) : List Int := (iter (wAL_step C b) (n / (128 : Nat)) (i0))

def wA (tl n : Nat) : Nat :=
  (tl + (n - ((128 : Nat) * (n / (128 : Nat)))))

def wA_1 (N : Int) (n : Nat) : Int :=
  (IntKind.u64.wrap (N + (IntKind.u64.wrap ((n : Nat) : Int))))

def wA_2 (tl : Nat) (L : List Int) (n : Nat) (b : List Int) : List Int :=
  ((sub L 0 tl) ++ (sub b ((128 : Nat) * (n / (128 : Nat))) (n - ((128 : Nat) * (n / (128 : Nat))))))

set_option maxHeartbeats 1000000 in
theorem wA_body0 (S : List Int) (tl : Nat) (N : Int) (L C : List Int) (n nm : Nat) (b : List Int) (cap3 : Nat) (h0 : (nm = n)) (h1 : (tl < (128 : Nat))) (h2 : (n < (140737488355328 : Nat))) (hc3 : n ≤ cap3) (hl0_0 : List.length S = (8 : Nat)) (hl1_0 : List.length L = tl) (hl2_0 : List.length C = (80 : Nat)) (hl3_0 : List.length b = nm) (hp : tl = 0) (w : World) (rw : List Nat) (β : Env) : Body Try.prog (tabOf tabSD) Try.f31 ⟨w, rw, 4, β⟩ [.o (.a (.p 0 0)), .o (.a (.sl 3 0 n cap3))] [some ⟨true, [.ints .u64 (8 : Nat) S, .rs 1 0 tl 1, .i .u64 N, .p 2 0]⟩, some ⟨true, [.ints .u8 tl L]⟩, some ⟨false, [.ints .u64 (80 : Nat) C]⟩, some ⟨false, [.ints .u8 nm b]⟩] (fun ys K' => ys = [] ∧ K' = [some ⟨true, [.ints .u64 (8 : Nat) (wAL_out0 C b n S), .rs 4 0 (wA tl n) 1, .i .u64 (wA_1 N n), .p 2 0]⟩, none, some ⟨false, [.ints .u64 (80 : Nat) C]⟩, some ⟨false, [.ints .u8 nm b]⟩, some ⟨true, [.ints .u8 (wA tl n) (wA_2 tl L n b)]⟩]) :=
  Body.of_finK (Γ := gam12) (Λ := lamOf [(0, ⟨[.forget [0, 1, 5, 6, 7, 8, 9, 10, 11, 12, 13, 14, 15, 16, 17, 18, 19, 20, 21, 22, 23] 4], .normal, (wAL_mk S tl N L C n nm b cap3 (n / (128 : Nat)) (iter (wAL_step C b) (n / (128 : Nat)) (S)))⟩)]) (Ψ := noPsi) (fuel := 0) (m := 105) (c := (Try.f31.body.getD .skip)) mix tabOkSD gam12_ok rfl (rs := []) rfl rfl [false, false, false] [] 5
    (vc := [((((0 : Nat) + tl) ≤ tl) ∧ (((n - ((128 : Nat) * (n / (128 : Nat)))) ≤ (n - ((128 : Nat) * (n / (128 : Nat))))) ∧ ((((128 : Nat) * (n / (128 : Nat))) + (n - ((128 : Nat) * (n / (128 : Nat))))) ≤ nm)) ∧ (((tl + (n - ((128 : Nat) * (n / (128 : Nat))))) * (1 : Nat)) ≤ (140737488355328 : Nat))), (Run Try.prog ⟨w, rw, 4, β⟩ (.block 0 (.loop (loopB Try.f31 0))) (wAL_mk S tl N L C n nm b cap3 0 (S)) (To ⟨w, rw, 4, β⟩ .normal (wAL_mk S tl N L C n nm b cap3 (n / (128 : Nat)) (iter (wAL_step C b) (n / (128 : Nat)) (S))))), ((decide (((tl : Nat) : Int) > (0 : Int))) = false), (false = false), ((True ∧ True) ∧ (tl = tl))]) (by kernel_rfl)
    (aC ⟨(by first | omega | (simp (disch := omega) only [wrapI]; omega)), ⟨(by first | omega | (simp (disch := omega) only [wrapI]; omega)), (by first | omega | (simp (disch := omega) only [wrapI]; omega))⟩, (by first | omega | (simp (disch := omega) only [wrapI]; omega))⟩ (aC (wAL_loop S tl N L C n nm b cap3 h0 h1 h2 hc3 hl0_0 hl1_0 hl2_0 hl3_0 hp w rw β (S)) (aC (decide_eq_false (by first | omega | (simp (disch := omega) only [wrapI]; omega))) (aC rfl (aC ⟨⟨trivial, trivial⟩, rfl⟩ (AllP_nil))))))

def wB (tl n : Nat) : Nat :=
  (tl + n)

def wB_1 (N : Int) (n : Nat) : Int :=
  (IntKind.u64.wrap (N + (IntKind.u64.wrap ((n : Nat) : Int))))

def wB_2 (tl : Nat) (L : List Int) (n : Nat) (b : List Int) : List Int :=
  ((sub L 0 tl) ++ (sub b 0 n))

set_option maxHeartbeats 1000000 in
theorem wB_body0 (S : List Int) (tl : Nat) (N : Int) (L C : List Int) (n nm : Nat) (b : List Int) (cap3 : Nat) (h0 : (nm = n)) (h1 : (tl < (128 : Nat))) (h2 : (n < (140737488355328 : Nat))) (hc3 : n ≤ cap3) (hl0_0 : List.length S = (8 : Nat)) (hl1_0 : List.length L = tl) (hl2_0 : List.length C = (80 : Nat)) (hl3_0 : List.length b = nm) (hp : 0 < tl) (hp2 : tl + n < 128) (w : World) (rw : List Nat) (β : Env) : Body Try.prog (tabOf tabSD) Try.f31 ⟨w, rw, 4, β⟩ [.o (.a (.p 0 0)), .o (.a (.sl 3 0 n cap3))] [some ⟨true, [.ints .u64 (8 : Nat) S, .rs 1 0 tl 1, .i .u64 N, .p 2 0]⟩, some ⟨true, [.ints .u8 tl L]⟩, some ⟨false, [.ints .u64 (80 : Nat) C]⟩, some ⟨false, [.ints .u8 nm b]⟩] (fun ys K' => ys = [] ∧ K' = [some ⟨true, [.ints .u64 (8 : Nat) S, .rs 4 0 (wB tl n) 1, .i .u64 (wB_1 N n), .p 2 0]⟩, none, some ⟨false, [.ints .u64 (80 : Nat) C]⟩, some ⟨false, [.ints .u8 nm b]⟩, some ⟨true, [.ints .u8 (wB tl n) (wB_2 tl L n b)]⟩]) :=
  Body.of_finK (Γ := gam12) (Λ := noLam) (Ψ := psiOf [(3, [.eqS 4 (.o (.a (.i .i64 ((n : Nat) : Int))))])]) (fuel := 0) (m := 105) (c := (Try.f31.body.getD .skip)) mix tabOkSD gam12_ok rfl (rs := []) rfl rfl [false, true, false, true] [] 5
    (vc := [((decide ((((tl + n) : Nat) : Int) < (128 : Int))) = true), (((0 : Int) ≤ ((n : Nat) : Int)) ∧ (((n : Nat) : Int) ≤ ((n : Nat) : Int))), ((((0 : Nat) + tl) ≤ tl) ∧ ((n ≤ n) ∧ (((0 : Nat) + n) ≤ nm)) ∧ (((tl + n) * (1 : Nat)) ≤ (140737488355328 : Nat))), (((0 : Int) ≤ (0 : Int)) ∧ ((0 : Int) ≤ ((n : Nat) : Int)) ∧ (((n : Nat) : Int) ≤ ((cap3 : Nat) : Int))), ((.o (.a (.i .i64 (if ((n : Nat) : Int) < (IntKind.i64.wrap ((128 : Int) - ((tl : Nat) : Int))) then ((n : Nat) : Int) else (IntKind.i64.wrap ((128 : Int) - ((tl : Nat) : Int)))))) : AV) = .o (.a (.i .i64 ((n : Nat) : Int)))), ((decide (((tl : Nat) : Int) > (0 : Int))) = true), (false = false), ((True ∧ True) ∧ (tl = tl))]) (by kernel_rfl)
    (aC (decide_eq_true (by first | omega | (simp (disch := omega) only [wrapI]; omega))) (aC ⟨(by first | omega | (simp (disch := omega) only [wrapI]; omega)), (by first | omega | (simp (disch := omega) only [wrapI]; omega))⟩ (aC ⟨(by first | omega | (simp (disch := omega) only [wrapI]; omega)), ⟨(by first | omega | (simp (disch := omega) only [wrapI]; omega)), (by first | omega | (simp (disch := omega) only [wrapI]; omega))⟩, (by first | omega | (simp (disch := omega) only [wrapI]; omega))⟩ (aC ⟨(by decide), (by first | omega | (simp (disch := omega) only [wrapI]; omega)), (by first | omega | (simp (disch := omega) only [wrapI]; omega))⟩ (aC ((congrArg (fun z => AV.o (.a (.i .i64 z))) (wmin_small hp2))) (aC (decide_eq_true (by first | omega | (simp (disch := omega) only [wrapI]; omega))) (aC rfl (aC ⟨⟨trivial, trivial⟩, rfl⟩ (AllP_nil)))))))))

def wCL_mk (S : List Int) (tl : Nat) (N : Int) (L C : List Int) (n nm : Nat) (b : List Int) (cap3 k : Nat) (s : (List Int)) : St := ⟨sparse 105 [(0, .o (.a (.p 0 0))), (1, .o (.a (.sl 3 (((0 : Nat) + ((128 : Nat) - tl)) + ((128 : Nat) * k)) ((n - ((128 : Nat) - tl)) - ((128 : Nat) * k)) ((cap3 - ((128 : Nat) - tl)) - ((128 : Nat) * k))))), (4, .o (.a (.i .i64 ((((128 : Nat) - tl) : Nat) : Int)))), (5, .o (.a (.p 0 0))), (6, .o (.a (.b true))), (7, .o (.a (.b false))), (8, .o (.a (.p 0 0))), (9, .o (.a (.p 0 0))), (10, .o (.a (.p 0 9))), (11, .o (.a (.i .u64 N))), (12, .o (.a (.sl 3 0 n cap3))), (13, .o (.a (.i .i64 ((n : Nat) : Int)))), (14, .o (.a (.i .u64 (IntKind.u64.wrap ((n : Nat) : Int))))), (15, .o (.a (.i .u64 (IntKind.u64.wrap (N + (IntKind.u64.wrap ((n : Nat) : Int))))))), (16, .o (.a (.p 0 0))), (17, .o (.a (.p 0 9))), (18, .o (.a (.p 0 0))), (19, .o (.a (.p 0 0))), (20, .o (.a (.p 0 8))), (21, .o (.a (.rs 1 0 tl 1))), (22, .o (.a (.i .i64 ((tl : Nat) : Int)))), (23, .o (.a (.b (decide (((tl : Nat) : Int) > (0 : Int)))))), (24, .o (.a (.p 0 0))), (25, .o (.a (.p 0 0))), (26, .o (.a (.p 0 8))), (27, .o (.a (.rs 1 0 tl 1))), (28, .o (.a (.i .i64 ((tl : Nat) : Int)))), (29, .o (.a (.i .i64 (IntKind.i64.wrap ((128 : Int) - ((tl : Nat) : Int)))))), (30, .o (.a (.sl 3 0 n cap3))), (31, .o (.a (.i .i64 ((n : Nat) : Int)))), (32, .o (.a (.i .i64 (if ((n : Nat) : Int) < (IntKind.i64.wrap ((128 : Int) - ((tl : Nat) : Int))) then ((n : Nat) : Int) else (IntKind.i64.wrap ((128 : Int) - ((tl : Nat) : Int))))))), (33, .o (.a (.p 0 0))), (34, .o (.a (.p 0 0))), (35, .o (.a (.p 0 0))), (36, .o (.a (.p 0 8))), (37, .o (.a (.rs 1 0 tl 1))), (38, .o (.a (.sl 3 0 n cap3))), (39, .o (.a (.i .i64 ((((128 : Nat) - tl) : Nat) : Int)))), (40, .o (.a (.sl 3 0 ((128 : Nat) - tl) cap3))), (41, .o (.a (.rs 4 0 (tl + ((128 : Nat) - tl)) 1))), (42, .o (.a (.sl 3 0 n cap3))), (43, .o (.a (.i .i64 ((((128 : Nat) - tl) : Nat) : Int)))), (44, .o (.a (.sl 3 ((0 : Nat) + ((128 : Nat) - tl)) (n - ((128 : Nat) - tl)) (cap3 - ((128 : Nat) - tl))))), (45, .o (.a (.p 0 0))), (46, .o (.a (.p 0 8))), (47, .o (.a (.p 0 0))), (48, .o (.a (.p 0 0))), (49, .o (.a (.p 0 8))), (50, .o (.a (.rs 4 0 (tl + ((128 : Nat) - tl)) 1))), (51, .o (.a (.i .i64 (((tl + ((128 : Nat) - tl)) : Nat) : Int)))), (52, .o (.a (.b (decide ((((tl + ((128 : Nat) - tl)) : Nat) : Int) < (128 : Int)))))), (53, .o (.a (.p 0 0))), (54, .o (.a (.p 0 0))), (55, .o (.a (.p 0 0))), (56, .o (.a (.p 0 0))), (57, .o (.g [.ints .u64 (8 : Nat) S])), (58, .o (.a (.p 0 0))), (59, .o (.a (.p 0 0))), (60, .o (.a (.p 0 8))), (61, .o (.a (.rs 4 0 (tl + ((128 : Nat) - tl)) 1))), (62, .o (.a (.p 0 0))), (63, .o (.a (.p 0 0))), (64, .o (.a (.p 0 10))), (65, .o (.a (.p 2 0))), (66, .o (.g [.ints .u64 (8 : Nat) (blk S (sub ((sub L 0 tl) ++ (sub b 0 ((128 : Nat) - tl))) (0 : Nat) (tl + ((128 : Nat) - tl))) C)])), (67, .o (.a (.p 0 0))), (68, .o (.a (.p 0 0))), (69, .o (.a (.p 0 0))), (70, .o (.a (.p 0 0))), (71, .o (.a (.p 0 0))), (72, .o (.a (.p 0 8))), (73, .o (.a (.rs 4 0 (tl + ((128 : Nat) - tl)) 1))), (74, .o (.a (.rs 4 0 (0 : Nat) 1))), (75, .o (.a (.p 0 0))), (76, .o (.a (.p 0 8)))], [some ⟨true, [.ints .u64 (8 : Nat) s, .rs 4 0 (0 : Nat) 1, .i .u64 (IntKind.u64.wrap (N + (IntKind.u64.wrap ((n : Nat) : Int)))), .p 2 0]⟩, none, some ⟨false, [.ints .u64 (80 : Nat) C]⟩, some ⟨false, [.ints .u8 nm b]⟩, some ⟨true, [.ints .u8 (tl + ((128 : Nat) - tl)) ((sub L 0 tl) ++ (sub b 0 ((128 : Nat) - tl)))]⟩]⟩

def wCL_step (tl : Nat) (C b : List Int) (k : Nat) (s : (List Int)) : (List Int) :=
  ((blk s (sub b (((0 : Nat) + ((128 : Nat) - tl)) + ((128 : Nat) * k)) (128 : Nat)) C))

set_option maxHeartbeats 1000000 in
theorem wCL_round (S : List Int) (tl : Nat) (N : Int) (L C : List Int) (n nm : Nat) (b : List Int) (cap3 : Nat) (h0 : (nm = n)) (h1 : (tl < (128 : Nat))) (h2 : (n < (140737488355328 : Nat))) (hc3 : n ≤ cap3) (hl0_0 : List.length S = (8 : Nat)) (hl1_0 : List.length L = tl) (hl2_0 : List.length C = (80 : Nat)) (hl3_0 : List.length b = nm) (hp : 0 < tl) (hp2 : 128 ≤ tl + n) (w : World) (rw : List Nat) (β : Env) (k : Nat) (hk : k < ((n - ((128 : Nat) - tl)) / (128 : Nat))) (s : (List Int)) : Run Try.prog ⟨w, rw, 4, β⟩ (loopB Try.f31 0) (wCL_mk S tl N L C n nm b cap3 k s) (To ⟨w, rw, 4, β⟩ .normal (wCL_mk S tl N L C n nm b cap3 (k + 1) (wCL_step tl C b k s))) := by
  have e0 : ((((0 : Nat) + ((128 : Nat) - tl)) + ((128 : Nat) * k)) + (128 : Nat)) = (((0 : Nat) + ((128 : Nat) - tl)) + ((128 : Nat) * (k + (1 : Nat)))) := (by first | rfl | exact wrap_succ (by omega) | omega | (simp (disch := omega) only [wrapI]; omega))
  have e1 : (((cap3 - ((128 : Nat) - tl)) - ((128 : Nat) * k)) - (128 : Nat)) = ((cap3 - ((128 : Nat) - tl)) - ((128 : Nat) * (k + (1 : Nat)))) := (by first | rfl | exact wrap_succ (by omega) | omega | (simp (disch := omega) only [wrapI]; omega))
  have e2 : (((n - ((128 : Nat) - tl)) - ((128 : Nat) * k)) - (128 : Nat)) = ((n - ((128 : Nat) - tl)) - ((128 : Nat) * (k + (1 : Nat)))) := (by first | rfl | exact wrap_succ (by omega) | omega | (simp (disch := omega) only [wrapI]; omega))
  have h := Run.of_outT (B := ⟨w, rw, 4, β⟩) (Λ := noLam) (Ψ := noPsi) (fuel := 0) (ora := [true]) (c := (loopB Try.f31 0)) (st := (wCL_mk S tl N L C n nm b cap3 k s)) (l := [.forget [0, 1, 4, 5, 6, 7, 8, 9, 10, 11, 12, 13, 14, 15, 16, 17, 18, 19, 20, 21, 22, 23, 24, 25, 26, 27, 28, 29, 30, 31, 32, 33, 34, 35, 36, 37, 38, 39, 40, 41, 42, 43, 44, 45, 46, 47, 48, 49, 50, 51, 52, 53, 54, 55, 56, 57, 58, 59, 60, 61, 62, 63, 64, 65, 66, 67, 68, 69, 70, 71, 72, 73, 74, 75, 76] 5]) (s' := ⟨sparse 105 [(0, .o (.a (.p 0 0))), (1, .o (.a (.sl 3 ((((0 : Nat) + ((128 : Nat) - tl)) + ((128 : Nat) * k)) + (128 : Nat)) (((n - ((128 : Nat) - tl)) - ((128 : Nat) * k)) - (128 : Nat)) (((cap3 - ((128 : Nat) - tl)) - ((128 : Nat) * k)) - (128 : Nat))))), (4, .o (.a (.i .i64 ((((128 : Nat) - tl) : Nat) : Int)))), (5, .o (.a (.p 0 0))), (6, .o (.a (.b true))), (7, .o (.a (.b false))), (8, .o (.a (.p 0 0))), (9, .o (.a (.p 0 0))), (10, .o (.a (.p 0 9))), (11, .o (.a (.i .u64 N))), (12, .o (.a (.sl 3 0 n cap3))), (13, .o (.a (.i .i64 ((n : Nat) : Int)))), (14, .o (.a (.i .u64 (IntKind.u64.wrap ((n : Nat) : Int))))), (15, .o (.a (.i .u64 (IntKind.u64.wrap (N + (IntKind.u64.wrap ((n : Nat) : Int))))))), (16, .o (.a (.p 0 0))), (17, .o (.a (.p 0 9))), (18, .o (.a (.p 0 0))), (19, .o (.a (.p 0 0))), (20, .o (.a (.p 0 8))), (21, .o (.a (.rs 1 0 tl 1))), (22, .o (.a (.i .i64 ((tl : Nat) : Int)))), (23, .o (.a (.b (decide (((tl : Nat) : Int) > (0 : Int)))))), (24, .o (.a (.p 0 0))), (25, .o (.a (.p 0 0))), (26, .o (.a (.p 0 8))), (27, .o (.a (.rs 1 0 tl 1))), (28, .o (.a (.i .i64 ((tl : Nat) : Int)))), (29, .o (.a (.i .i64 (IntKind.i64.wrap ((128 : Int) - ((tl : Nat) : Int)))))), (30, .o (.a (.sl 3 0 n cap3))), (31, .o (.a (.i .i64 ((n : Nat) : Int)))), (32, .o (.a (.i .i64 (if ((n : Nat) : Int) < (IntKind.i64.wrap ((128 : Int) - ((tl : Nat) : Int))) then ((n : Nat) : Int) else (IntKind.i64.wrap ((128 : Int) - ((tl : Nat) : Int))))))), (33, .o (.a (.p 0 0))), (34, .o (.a (.p 0 0))), (35, .o (.a (.p 0 0))), (36, .o (.a (.p 0 8))), (37, .o (.a (.rs 1 0 tl 1))), (38, .o (.a (.sl 3 0 n cap3))), (39, .o (.a (.i .i64 ((((128 : Nat) - tl) : Nat) : Int)))), (40, .o (.a (.sl 3 0 ((128 : Nat) - tl) cap3))), (41, .o (.a (.rs 4 0 (tl + ((128 : Nat) - tl)) 1))), (42, .o (.a (.sl 3 0 n cap3))), (43, .o (.a (.i .i64 ((((128 : Nat) - tl) : Nat) : Int)))), (44, .o (.a (.sl 3 ((0 : Nat) + ((128 : Nat) - tl)) (n - ((128 : Nat) - tl)) (cap3 - ((128 : Nat) - tl))))), (45, .o (.a (.p 0 0))), (46, .o (.a (.p 0 8))), (47, .o (.a (.p 0 0))), (48, .o (.a (.p 0 0))), (49, .o (.a (.p 0 8))), (50, .o (.a (.rs 4 0 (tl + ((128 : Nat) - tl)) 1))), (51, .o (.a (.i .i64 (((tl + ((128 : Nat) - tl)) : Nat) : Int)))), (52, .o (.a (.b (decide ((((tl + ((128 : Nat) - tl)) : Nat) : Int) < (128 : Int)))))), (53, .o (.a (.p 0 0))), (54, .o (.a (.p 0 0))), (55, .o (.a (.p 0 0))), (56, .o (.a (.p 0 0))), (57, .o (.g [.ints .u64 (8 : Nat) S])), (58, .o (.a (.p 0 0))), (59, .o (.a (.p 0 0))), (60, .o (.a (.p 0 8))), (61, .o (.a (.rs 4 0 (tl + ((128 : Nat) - tl)) 1))), (62, .o (.a (.p 0 0))), (63, .o (.a (.p 0 0))), (64, .o (.a (.p 0 10))), (65, .o (.a (.p 2 0))), (66, .o (.g [.ints .u64 (8 : Nat) (blk S (sub ((sub L 0 tl) ++ (sub b 0 ((128 : Nat) - tl))) (0 : Nat) (tl + ((128 : Nat) - tl))) C)])), (67, .o (.a (.p 0 0))), (68, .o (.a (.p 0 0))), (69, .o (.a (.p 0 0))), (70, .o (.a (.p 0 0))), (71, .o (.a (.p 0 0))), (72, .o (.a (.p 0 8))), (73, .o (.a (.rs 4 0 (tl + ((128 : Nat) - tl)) 1))), (74, .o (.a (.rs 4 0 (0 : Nat) 1))), (75, .o (.a (.p 0 0))), (76, .o (.a (.p 0 8)))], [some ⟨true, [.ints .u64 (8 : Nat) (wCL_step tl C b k s), .rs 4 0 (0 : Nat) 1, .i .u64 (IntKind.u64.wrap (N + (IntKind.u64.wrap ((n : Nat) : Int)))), .p 2 0]⟩, none, some ⟨false, [.ints .u64 (80 : Nat) C]⟩, some ⟨false, [.ints .u8 nm b]⟩, some ⟨true, [.ints .u8 (tl + ((128 : Nat) - tl)) ((sub L 0 tl) ++ (sub b 0 ((128 : Nat) - tl)))]⟩]⟩) (ex := .normal) mix tabOkSD gam12_ok
    (vc := [(((0 : Int) ≤ (128 : Int)) ∧ ((128 : Int) ≤ ((((n - ((128 : Nat) - tl)) - ((128 : Nat) * k)) : Nat) : Int))), ((True ∧ ((((((0 : Nat) + ((128 : Nat) - tl)) + ((128 : Nat) * k)) + (128 : Nat)) ≤ nm) ∧ (True ∧ True))) ∧ (((128 : Nat) = (128 : Nat)) ∧ ((128 : Nat) = (128 : Nat)))), (((0 : Int) ≤ (0 : Int)) ∧ ((0 : Int) ≤ (128 : Int)) ∧ ((128 : Int) ≤ ((((cap3 - ((128 : Nat) - tl)) - ((128 : Nat) * k)) : Nat) : Int))), ((decide (((((n - ((128 : Nat) - tl)) - ((128 : Nat) * k)) : Nat) : Int) ≥ (128 : Int))) = true)]) (by kernel_rfl)
    (aC ⟨(by decide), (by first | omega | (simp (disch := omega) only [wrapI]; omega))⟩ (aC ⟨⟨trivial, ⟨(by first | omega | (simp (disch := omega) only [wrapI]; omega)), ⟨trivial, trivial⟩⟩⟩, ⟨rfl, rfl⟩⟩ (aC ⟨(by decide), (by decide), (by first | omega | (simp (disch := omega) only [wrapI]; omega))⟩ (aC (decide_eq_true (by first | omega | (simp (disch := omega) only [wrapI]; omega))) (AllP_nil)))))
  rw [e0, e1, e2] at h
  exact h

set_option maxHeartbeats 1000000 in
theorem wCL_last (S : List Int) (tl : Nat) (N : Int) (L C : List Int) (n nm : Nat) (b : List Int) (cap3 : Nat) (h0 : (nm = n)) (h1 : (tl < (128 : Nat))) (h2 : (n < (140737488355328 : Nat))) (hc3 : n ≤ cap3) (hl0_0 : List.length S = (8 : Nat)) (hl1_0 : List.length L = tl) (hl2_0 : List.length C = (80 : Nat)) (hl3_0 : List.length b = nm) (hp : 0 < tl) (hp2 : 128 ≤ tl + n) (w : World) (rw : List Nat) (β : Env) (s : (List Int)) : Run Try.prog ⟨w, rw, 4, β⟩ (loopB Try.f31 0) (wCL_mk S tl N L C n nm b cap3 ((n - ((128 : Nat) - tl)) / (128 : Nat)) s) (To ⟨w, rw, 4, β⟩ (.exit 0) (wCL_mk S tl N L C n nm b cap3 ((n - ((128 : Nat) - tl)) / (128 : Nat)) s)) :=
  Run.of_outT (B := ⟨w, rw, 4, β⟩) (Λ := noLam) (Ψ := noPsi) (fuel := 0) (ora := [false]) (l := [.forget [0, 1, 4, 5, 6, 7, 8, 9, 10, 11, 12, 13, 14, 15, 16, 17, 18, 19, 20, 21, 22, 23, 24, 25, 26, 27, 28, 29, 30, 31, 32, 33, 34, 35, 36, 37, 38, 39, 40, 41, 42, 43, 44, 45, 46, 47, 48, 49, 50, 51, 52, 53, 54, 55, 56, 57, 58, 59, 60, 61, 62, 63, 64, 65, 66, 67, 68, 69, 70, 71, 72, 73, 74, 75, 76] 5]) mix tabOkSD gam12_ok
    (vc := [((decide (((((n - ((128 : Nat) - tl)) - ((128 : Nat) * ((n - ((128 : Nat) - tl)) / (128 : Nat)))) : Nat) : Int) ≥ (128 : Int))) = false)]) (by kernel_rfl)
    (aC (decide_eq_false (by first | omega | (simp (disch := omega) only [wrapI]; omega))) (AllP_nil))

theorem wCL_loop (S : List Int) (tl : Nat) (N : Int) (L C : List Int) (n nm : Nat) (b : List Int) (cap3 : Nat) (h0 : (nm = n)) (h1 : (tl < (128 : Nat))) (h2 : (n < (140737488355328 : Nat))) (hc3 : n ≤ cap3) (hl0_0 : List.length S = (8 : Nat)) (hl1_0 : List.length L = tl) (hl2_0 : List.length C = (80 : Nat)) (hl3_0 : List.length b = nm) (hp : 0 < tl) (hp2 : 128 ≤ tl + n) (w : World) (rw : List Nat) (β : Env) (s : (List Int)) : Run Try.prog ⟨w, rw, 4, β⟩ (.block 0 (.loop (loopB Try.f31 0))) (wCL_mk S tl N L C n nm b cap3 0 s) (To ⟨w, rw, 4, β⟩ .normal (wCL_mk S tl N L C n nm b cap3 ((n - ((128 : Nat) - tl)) / (128 : Nat)) (iter (wCL_step tl C b) ((n - ((128 : Nat) - tl)) / (128 : Nat)) s))) :=
  Run.count (fun k => wCL_mk S tl N L C n nm b cap3 k (iter (wCL_step tl C b) k s)) ((n - ((128 : Nat) - tl)) / (128 : Nat)) (fun k hk => wCL_round S tl N L C n nm b cap3 h0 h1 h2 hc3 hl0_0 hl1_0 hl2_0 hl3_0 hp hp2 w rw β k hk _) (ex := (.exit 0)) (by simp) (wCL_last S tl N L C n nm b cap3 h0 h1 h2 hc3 hl0_0 hl1_0 hl2_0 hl3_0 hp hp2 w rw β _)

def wCL_out0 (tl : Nat) (C b : List Int) (n : Nat) (i0 : List Int) : List Int := (iter (wCL_step tl C b) ((n - ((128 : Nat) - tl)) / (128 : Nat)) (i0))

def wC (S : List Int) (tl : Nat) (L C : List Int) (n : Nat) (b : List Int) : List Int :=
  (wCL_out0 tl C b n (blk S (sub ((sub L 0 tl) ++ (sub b 0 ((128 : Nat) - tl))) (0 : Nat) (tl + ((128 : Nat) - tl))) C))

def wC_1 (tl n : Nat) : Nat :=
  let z0 : Nat := (n - ((128 : Nat) - tl))
  ((0 : Nat) + (z0 - ((128 : Nat) * (z0 / (128 : Nat)))))

def wC_2 (N : Int) (n : Nat) : Int :=
  (IntKind.u64.wrap (N + (IntKind.u64.wrap ((n : Nat) : Int))))

def wC_3 (tl : Nat) (L : List Int) (n : Nat) (b : List Int) : List Int :=
  let z0 : Nat := (n - ((128 : Nat) - tl))
  let z1 : Nat := ((128 : Nat) * (z0 / (128 : Nat)))
  ((sub ((sub L 0 tl) ++ (sub b 0 ((128 : Nat) - tl))) (0 : Nat) (0 : Nat)) ++ (sub b (((0 : Nat) + ((128 : Nat) - tl)) + z1) (z0 - z1)))

set_option maxHeartbeats 1000000 in
theorem wC_body0 (S : List Int) (tl : Nat) (N : Int) (L C : List Int) (n nm : Nat) (b : List Int) (cap3 : Nat) (h0 : (nm = n)) (h1 : (tl < (128 : Nat))) (h2 : (n < (140737488355328 : Nat))) (hc3 : n ≤ cap3) (hl0_0 : List.length S = (8 : Nat)) (hl1_0 : List.length L = tl) (hl2_0 : List.length C = (80 : Nat)) (hl3_0 : List.length b = nm) (hp : 0 < tl) (hp2 : 128 ≤ tl + n) (w : World) (rw : List Nat) (β : Env) : Body Try.prog (tabOf tabSD) Try.f31 ⟨w, rw, 4, β⟩ [.o (.a (.p 0 0)), .o (.a (.sl 3 0 n cap3))] [some ⟨true, [.ints .u64 (8 : Nat) S, .rs 1 0 tl 1, .i .u64 N, .p 2 0]⟩, some ⟨true, [.ints .u8 tl L]⟩, some ⟨false, [.ints .u64 (80 : Nat) C]⟩, some ⟨false, [.ints .u8 nm b]⟩] (fun ys K' => ys = [] ∧ K' = [some ⟨true, [.ints .u64 (8 : Nat) (wC S tl L C n b), .rs 4 0 (wC_1 tl n) 1, .i .u64 (wC_2 N n), .p 2 0]⟩, none, some ⟨false, [.ints .u64 (80 : Nat) C]⟩, some ⟨false, [.ints .u8 nm b]⟩, some ⟨true, [.ints .u8 (wC_1 tl n) (wC_3 tl L n b)]⟩]) :=
  Body.of_finK (Γ := gam12) (Λ := lamOf [(0, ⟨[.forget [0, 1, 4, 5, 6, 7, 8, 9, 10, 11, 12, 13, 14, 15, 16, 17, 18, 19, 20, 21, 22, 23, 24, 25, 26, 27, 28, 29, 30, 31, 32, 33, 34, 35, 36, 37, 38, 39, 40, 41, 42, 43, 44, 45, 46, 47, 48, 49, 50, 51, 52, 53, 54, 55, 56, 57, 58, 59, 60, 61, 62, 63, 64, 65, 66, 67, 68, 69, 70, 71, 72, 73, 74, 75, 76] 5], .normal, (wCL_mk S tl N L C n nm b cap3 ((n - ((128 : Nat) - tl)) / (128 : Nat)) (iter (wCL_step tl C b) ((n - ((128 : Nat) - tl)) / (128 : Nat)) ((blk S (sub ((sub L 0 tl) ++ (sub b 0 ((128 : Nat) - tl))) (0 : Nat) (tl + ((128 : Nat) - tl))) C))))⟩)]) (Ψ := psiOf [(3, [.eqS 4 (.o (.a (.i .i64 ((((128 : Nat) - tl) : Nat) : Int))))])]) (fuel := 0) (m := 105) (c := (Try.f31.body.getD .skip)) mix tabOkSD gam12_ok rfl (rs := []) rfl rfl [false, true, false, false, false] [.swap 4 5, .forget [] 5] 5
    (vc := [(((0 : Nat) ≤ (tl + ((128 : Nat) - tl))) ∧ ((((n - ((128 : Nat) - tl)) - ((128 : Nat) * ((n - ((128 : Nat) - tl)) / (128 : Nat)))) ≤ ((n - ((128 : Nat) - tl)) - ((128 : Nat) * ((n - ((128 : Nat) - tl)) / (128 : Nat))))) ∧ (((((0 : Nat) + ((128 : Nat) - tl)) + ((128 : Nat) * ((n - ((128 : Nat) - tl)) / (128 : Nat)))) + ((n - ((128 : Nat) - tl)) - ((128 : Nat) * ((n - ((128 : Nat) - tl)) / (128 : Nat))))) ≤ nm)) ∧ ((((0 : Nat) + ((n - ((128 : Nat) - tl)) - ((128 : Nat) * ((n - ((128 : Nat) - tl)) / (128 : Nat))))) * (1 : Nat)) ≤ (140737488355328 : Nat))), (Run Try.prog ⟨w, rw, 4, β⟩ (.block 0 (.loop (loopB Try.f31 0))) (wCL_mk S tl N L C n nm b cap3 0 ((blk S (sub ((sub L 0 tl) ++ (sub b 0 ((128 : Nat) - tl))) (0 : Nat) (tl + ((128 : Nat) - tl))) C))) (To ⟨w, rw, 4, β⟩ .normal (wCL_mk S tl N L C n nm b cap3 ((n - ((128 : Nat) - tl)) / (128 : Nat)) (iter (wCL_step tl C b) ((n - ((128 : Nat) - tl)) / (128 : Nat)) ((blk S (sub ((sub L 0 tl) ++ (sub b 0 ((128 : Nat) - tl))) (0 : Nat) (tl + ((128 : Nat) - tl))) C)))))), (((0 : Int) ≤ (0 : Int)) ∧ ((0 : Int) ≤ (0 : Int)) ∧ ((0 : Int) ≤ (((tl + ((128 : Nat) - tl)) : Nat) : Int))), ((True ∧ ((((0 : Nat) + (tl + ((128 : Nat) - tl))) ≤ (tl + ((128 : Nat) - tl))) ∧ (True ∧ True))) ∧ (((tl + ((128 : Nat) - tl)) = (tl + ((128 : Nat) - tl))) ∧ ((tl + ((128 : Nat) - tl)) = (128 : Nat)))), ((decide ((((tl + ((128 : Nat) - tl)) : Nat) : Int) < (128 : Int))) = false), (((0 : Int) ≤ ((((128 : Nat) - tl) : Nat) : Int)) ∧ (((((128 : Nat) - tl) : Nat) : Int) ≤ ((n : Nat) : Int))), ((((0 : Nat) + tl) ≤ tl) ∧ ((((128 : Nat) - tl) ≤ ((128 : Nat) - tl)) ∧ (((0 : Nat) + ((128 : Nat) - tl)) ≤ nm)) ∧ (((tl + ((128 : Nat) - tl)) * (1 : Nat)) ≤ (140737488355328 : Nat))), (((0 : Int) ≤ (0 : Int)) ∧ ((0 : Int) ≤ ((((128 : Nat) - tl) : Nat) : Int)) ∧ (((((128 : Nat) - tl) : Nat) : Int) ≤ ((cap3 : Nat) : Int))), ((.o (.a (.i .i64 (if ((n : Nat) : Int) < (IntKind.i64.wrap ((128 : Int) - ((tl : Nat) : Int))) then ((n : Nat) : Int) else (IntKind.i64.wrap ((128 : Int) - ((tl : Nat) : Int)))))) : AV) = .o (.a (.i .i64 ((((128 : Nat) - tl) : Nat) : Int)))), ((decide (((tl : Nat) : Int) > (0 : Int))) = true), (false = false), ((True ∧ True) ∧ (tl = tl))]) (by kernel_rfl)
    (aC ⟨(by first | omega | (simp (disch := omega) only [wrapI]; omega)), ⟨(by first | omega | (simp (disch := omega) only [wrapI]; omega)), (by first | omega | (simp (disch := omega) only [wrapI]; omega))⟩, (by first | omega | (simp (disch := omega) only [wrapI]; omega))⟩ (aC (wCL_loop S tl N L C n nm b cap3 h0 h1 h2 hc3 hl0_0 hl1_0 hl2_0 hl3_0 hp hp2 w rw β ((blk S (sub ((sub L 0 tl) ++ (sub b 0 ((128 : Nat) - tl))) (0 : Nat) (tl + ((128 : Nat) - tl))) C))) (aC ⟨(by decide), (by decide), (by first | omega | (simp (disch := omega) only [wrapI]; omega))⟩ (aC ⟨⟨trivial, ⟨(by first | omega | (simp (disch := omega) only [wrapI]; omega)), ⟨trivial, trivial⟩⟩⟩, ⟨rfl, (by first | omega | (simp (disch := omega) only [wrapI]; omega))⟩⟩ (aC (decide_eq_false (by first | omega | (simp (disch := omega) only [wrapI]; omega))) (aC ⟨(by first | omega | (simp (disch := omega) only [wrapI]; omega)), (by first | omega | (simp (disch := omega) only [wrapI]; omega))⟩ (aC ⟨(by first | omega | (simp (disch := omega) only [wrapI]; omega)), ⟨(by first | omega | (simp (disch := omega) only [wrapI]; omega)), (by first | omega | (simp (disch := omega) only [wrapI]; omega))⟩, (by first | omega | (simp (disch := omega) only [wrapI]; omega))⟩ (aC ⟨(by decide), (by first | omega | (simp (disch := omega) only [wrapI]; omega)), (by first | omega | (simp (disch := omega) only [wrapI]; omega))⟩ (aC ((congrArg (fun z => AV.o (.a (.i .i64 z))) (wmin_big hp2 h1))) (aC (decide_eq_true (by first | omega | (simp (disch := omega) only [wrapI]; omega))) (aC rfl (aC ⟨⟨trivial, trivial⟩, rfl⟩ (AllP_nil)))))))))))))

end Go.Proofs.Ytepimglipelpmaa.X

/- A Hasher that takes some more bytes: what it holds then, in one form. -/
namespace Go.Proofs.Ytepimglipelpmaa.X
open Go Go.Proofs
set_option linter.unusedVariables false

theorem iter_congr {α : Type} {f g : Nat → α → α} : ∀ {k : Nat} {s : α}, (∀ i s, i < k → f i s = g i s) → iter f k s = iter g k s
  | 0, _, _ => rfl
  | k + 1, s, h => by
    show f k (iter f k s) = g k (iter g k s)
    rw [iter_congr fun i s hi => h i s (by omega), h k _ (by omega)]

theorem iter_head {α : Type} {f : Nat → α → α} : ∀ {k : Nat} {s : α}, iter f (k + 1) s = iter (fun i => f (i + 1)) k (f 0 s)
  | 0, _ => rfl
  | k + 1, s => by
    show f (k + 1) (iter f (k + 1) s) = f (k + 1) (iter (fun i => f (i + 1)) k (f 0 s))
    rw [iter_head]

/-- the state behind k blocks -/
def absN (C D : List Int) (k : Nat) (S : List Int) : List Int := iter (fun i s => blk s (sub D (128 * i) 128) C) k S

theorem sub_all {α : Type} (l : List α) (m : Nat) (h : l.length ≤ m) : sub l 0 m = l := by
  simp [sub, List.take_of_length_le h]
theorem sub_drop {α : Type} (l : List α) (c m : Nat) (h : l.length ≤ c + m) : sub l c m = l.drop c := by
  unfold sub; rw [List.take_of_length_le (by simp; omega)]
theorem sub_zero {α : Type} (l : List α) (c : Nat) : sub l c 0 = [] := by simp [sub]

def wrS (C S L b : List Int) (tl n : Nat) : List Int := absN C (L ++ b) ((tl + n) / 128) S
def wrT (tl n : Nat) : Nat := (tl + n) % 128
def wrN (N : Int) (n : Nat) : Int := IntKind.u64.wrap (N + IntKind.u64.wrap ((n : Nat) : Int))
def wrL (L b : List Int) (tl n : Nat) : List Int := (L ++ b).drop (128 * ((tl + n) / 128))

theorem wr_body (S : List Int) (tl : Nat) (N : Int) (L C : List Int) (n nm : Nat) (b : List Int) (cap3 : Nat) (h0 : (nm = n)) (h1 : (tl < (128 : Nat))) (h2 : (n < (140737488355328 : Nat))) (w : World) (rw : List Nat) (β : Env) :
    Body Try.prog (tabOf tabSD) Try.f31 ⟨w, rw, 4, β⟩ [.o (.a (.p 0 0)), .o (.a (.sl 3 0 n cap3))] [some ⟨true, [.ints .u64 (8 : Nat) S, .rs 1 0 tl 1, .i .u64 N, .p 2 0]⟩, some ⟨true, [.ints .u8 tl L]⟩, some ⟨false, [.ints .u64 (80 : Nat) C]⟩, some ⟨false, [.ints .u8 nm b]⟩]
      (fun ys K' => ys = [] ∧ K' = [some ⟨true, [.ints .u64 (8 : Nat) (wrS C S L b tl n), .rs 4 0 (wrT tl n) 1, .i .u64 (wrN N n), .p 2 0]⟩, none, some ⟨false, [.ints .u64 (80 : Nat) C]⟩, some ⟨false, [.ints .u8 nm b]⟩, some ⟨true, [.ints .u8 (wrT tl n) (wrL L b tl n)]⟩]) := by
  refine Body.lens (c := (Try.f31.body.getD .skip)) rfl fun h => ?_
  have hc3 : n ≤ cap3 := h.caps 1 _ _ _ _ rfl
  have hS : S.length = 8 := h.lens 0 _ .u64 8 S rfl (by simp)
  have hL : L.length = tl := h.lens 1 _ .u8 tl L rfl (by simp)
  have hC : C.length = 80 := h.lens 2 _ .u64 80 C rfl (by simp)
  have hb : b.length = nm := h.lens 3 _ .u8 nm b rfl (by simp)
  subst h0
  by_cases hp : tl = 0
  · refine (wA_body0 S tl N L C nm nm b cap3 rfl h1 h2 hc3 hS hL hC hb hp w rw β).mono fun xs K hx => ?_
    obtain ⟨rfl, rfl⟩ := hx
    have hnil : L = [] := List.length_eq_zero_iff.1 (by omega)
    have e1 : wAL_out0 C b nm S = wrS C S L b tl nm := by
      unfold wAL_out0 wrS absN
      rw [hp, hnil, Nat.zero_add]
      exact iter_congr fun i s hi => rfl
    have e2 : wA tl nm = wrT tl nm := by unfold wA wrT; omega
    have e3 : wA_2 tl L nm b = wrL L b tl nm := by
      unfold wA_2 wrL
      rw [hnil, hp, sub_zero, List.nil_append, List.nil_append, sub_drop _ _ _ (by omega), Nat.zero_add]
    have e4 : wA_1 N nm = wrN N nm := rfl
    rw [e1, e2, e3, e4]; exact ⟨rfl, rfl⟩
  · by_cases hq : tl + nm < 128
    · refine (wB_body0 S tl N L C nm nm b cap3 rfl h1 h2 hc3 hS hL hC hb (by omega) hq w rw β).mono fun xs K hx => ?_
      obtain ⟨rfl, rfl⟩ := hx
      have hd : (tl + nm) / 128 = 0 := by omega
      have e1 : S = wrS C S L b tl nm := by unfold wrS absN; rw [hd]; rfl
      have e2 : wB tl nm = wrT tl nm := by unfold wB wrT; omega
      have e3 : wB_2 tl L nm b = wrL L b tl nm := by
        unfold wB_2 wrL
        rw [hd, sub_all _ _ (by omega), sub_all _ _ (by omega)]; rfl
      have e4 : wB_1 N nm = wrN N nm := rfl
      rw [e2, e3, e4, ← e1]; exact ⟨rfl, rfl⟩
    · refine (wC_body0 S tl N L C nm nm b cap3 rfl h1 h2 hc3 hS hL hC hb (by omega) (by omega) w rw β).mono fun xs K hx => ?_
      obtain ⟨rfl, rfl⟩ := hx
      have hd : (tl + nm) / 128 = (nm - (128 - tl)) / 128 + 1 := by omega
      have hfirst : sub ((sub L 0 tl) ++ (sub b 0 ((128 : Nat) - tl))) (0 : Nat) (tl + ((128 : Nat) - tl)) = sub (L ++ b) 0 128 := by
        rw [sub_all L _ (by omega), sub_all _ _ (by simp [sub]; omega)]
        unfold sub
        simp only [List.drop_zero]
        rw [List.take_append, List.take_of_length_le (l := L) (by omega), hL]
      have e1 : wC S tl L C nm b = wrS C S L b tl nm := by
        unfold wC wCL_out0 wrS absN
        rw [hfirst, hd, iter_head]
        refine iter_congr fun i s hi => ?_
        show blk s _ C = blk s _ C
        congr 1
        unfold sub
        rw [List.drop_append, List.drop_of_length_le (l := L) (by omega), List.nil_append, hL]
        congr 2; omega
      have e2 : wC_1 tl nm = wrT tl nm := by unfold wC_1 wrT; simp only; omega
      have e3 : wC_3 tl L nm b = wrL L b tl nm := by
        unfold wC_3 wrL
        simp only
        rw [sub_zero, List.nil_append, hd, List.drop_append, List.drop_of_length_le (l := L) (by omega), List.nil_append, hL, sub_drop _ _ _ (by omega)]
        congr 1; omega
      have e4 : wC_2 N nm = wrN N nm := rfl
      rw [e1, e2, e3, e4]; exact ⟨rfl, rfl⟩
end Go.Proofs.Ytepimglipelpmaa.X

/- Plain lemmas on the bytes behind a message, for the walk of a Hasher's Sum. -/
namespace Go.Proofs.Ytepimglipelpmaa.X
open Go Go.Proofs

theorem pad_eq (N : Int) : pad N = (padE N).toNat + 16 := rfl

theorem pad_le (N : Int) : 17 ≤ pad N ∧ pad N ≤ 144 := by
  have := padE_ok N
  rw [pad_eq]; omega

theorem pad_mod {N : Int} {tl : Nat} (h0 : 0 ≤ N) (h : Int.tmod N 128 = ((tl : Nat) : Int)) : (tl + pad N) % 128 = 0 ∧ tl < 128 := by
  have h1 : Int.tmod N 128 = N % 128 := Int.tmod_eq_emod_of_nonneg h0
  have h2 : padE N = 1 + (239 - (tl : Int)) % 128 := by
    unfold padE
    rw [h]
    have : (tl : Int) < 128 := by omega
    rw [wrapU (x := 239 - (tl : Int)) (by omega) (by omega), Int.tmod_eq_emod_of_nonneg (by omega), wrapU (by omega) (by omega)]
  rw [pad_eq, h2]
  omega
end Go.Proofs.Ytepimglipelpmaa.X

/- Printed by a tool of this session. -/
namespace Go.Proofs.Ytepimglipelpmaa.X
open Go Go.Proofs
set_option linter.unusedVariables false
set_option linter.unusedSimpArgs false
set_option maxRecDepth 100000
theorem teSG_3 : TEOk Try.prog 3 ⟨.int .i64, 1, 8, [.i .i64 (0 : Int)], false⟩ :=
  TEOk.of Try.underlying3 (i := Try.t3) (by kernel_rfl) rfl rfl rfl (by kernel_rfl) (fun h => by cases h) (by kernel_rfl)
theorem teSG_5 : TEOk Try.prog 5 ⟨.int .u8, 1, 1, [.i .u8 (0 : Int)], false⟩ :=
  TEOk.of Try.underlying5 (i := Try.t5) (by kernel_rfl) rfl rfl rfl (by kernel_rfl) (fun h => by cases h) (by kernel_rfl)
theorem teSG_22 : TEOk Try.prog 22 ⟨.slice 5, 1, 24, [.raw (.slice none 0 0)], false⟩ :=
  TEOk.of Try.underlying22 (i := Try.t22) (by kernel_rfl) rfl rfl rfl (by kernel_rfl) (fun h => by cases h) (by kernel_rfl)
theorem teSG_42 : TEOk Try.prog 42 ⟨.array 64 5, 64, 64, [.ints .u8 (64 : Nat) ([0, 0, 0, 0, 0, 0, 0, 0, 0, 0, 0, 0, 0, 0, 0, 0, 0, 0, 0, 0, 0, 0, 0, 0, 0, 0, 0, 0, 0, 0, 0, 0, 0, 0, 0, 0, 0, 0, 0, 0, 0, 0, 0, 0, 0, 0, 0, 0, 0, 0, 0, 0, 0, 0, 0, 0, 0, 0, 0, 0, 0, 0, 0, 0] : List Int)], true⟩ :=
  TEOk.of Try.underlying42 (i := Try.t42) (by kernel_rfl) rfl rfl rfl (by kernel_rfl) (fun _ => Try.eqGuardType42) (by kernel_rfl)
theorem teSG_52 : TEOk Try.prog 52 ⟨.int .u64, 1, 8, [.i .u64 (0 : Int)], false⟩ :=
  TEOk.of Try.underlying52 (i := Try.t52) (by kernel_rfl) rfl rfl rfl (by kernel_rfl) (fun h => by cases h) (by kernel_rfl)
theorem teSG_53 : TEOk Try.prog 53 ⟨.array 8 52, 8, 64, [.ints .u64 (8 : Nat) ([0, 0, 0, 0, 0, 0, 0, 0] : List Int)], true⟩ :=
  TEOk.of Try.underlying53 (i := Try.t53) (by kernel_rfl) rfl rfl rfl (by kernel_rfl) (fun _ => Try.eqGuardType53) (by kernel_rfl)
theorem teSG_100 : TEOk Try.prog 100 ⟨.pointer 65, 1, 8, [.raw (.pointer none)], false⟩ :=
  TEOk.of Try.underlying100 (i := Try.t100) (by kernel_rfl) rfl rfl rfl (by kernel_rfl) (fun h => by cases h) (by kernel_rfl)
theorem teSG_102 : TEOk Try.prog 102 ⟨Try.t101.desc, 11, 104, [.ints .u64 (8 : Nat) ([0, 0, 0, 0, 0, 0, 0, 0] : List Int), .raw (.slice none 0 0), .i .u64 (0 : Int), .raw (.pointer none)], false⟩ :=
  TEOk.of Try.underlying102 (i := Try.t102) (by kernel_rfl) rfl rfl rfl (by kernel_rfl) (fun h => by cases h) (by kernel_rfl)
noncomputable def tabSG : List (Nat × TE) := [(3, ⟨.int .i64, 1, 8, [.i .i64 (0 : Int)], false⟩), (5, ⟨.int .u8, 1, 1, [.i .u8 (0 : Int)], false⟩), (22, ⟨.slice 5, 1, 24, [.raw (.slice none 0 0)], false⟩), (42, ⟨.array 64 5, 64, 64, [.ints .u8 (64 : Nat) ([0, 0, 0, 0, 0, 0, 0, 0, 0, 0, 0, 0, 0, 0, 0, 0, 0, 0, 0, 0, 0, 0, 0, 0, 0, 0, 0, 0, 0, 0, 0, 0, 0, 0, 0, 0, 0, 0, 0, 0, 0, 0, 0, 0, 0, 0, 0, 0, 0, 0, 0, 0, 0, 0, 0, 0, 0, 0, 0, 0, 0, 0, 0, 0] : List Int)], true⟩), (52, ⟨.int .u64, 1, 8, [.i .u64 (0 : Int)], false⟩), (53, ⟨.array 8 52, 8, 64, [.ints .u64 (8 : Nat) ([0, 0, 0, 0, 0, 0, 0, 0] : List Int)], true⟩), (100, ⟨.pointer 65, 1, 8, [.raw (.pointer none)], false⟩), (102, ⟨Try.t101.desc, 11, 104, [.ints .u64 (8 : Nat) ([0, 0, 0, 0, 0, 0, 0, 0] : List Int), .raw (.slice none 0 0), .i .u64 (0 : Int), .raw (.pointer none)], false⟩)]
theorem tabOkSG : TabOk Try.prog (tabOf tabSG) := (tabOf_cons teSG_3 (tabOf_cons teSG_5 (tabOf_cons teSG_22 (tabOf_cons teSG_42 (tabOf_cons teSG_52 (tabOf_cons teSG_53 (tabOf_cons teSG_100 (tabOf_cons teSG_102 tabOf_nil))))))))

def gam13 : Gam := gcall 31 [true, true, false] [.w, .s 1] (fun wk vs args => match wk, vs, args with | [⟨true, [.ints .u64 (8 : Nat) S, .rs 1 0 tl 1, .i .u64 N, .p 2 0]⟩, ⟨true, [.ints .u8 tl_1 L]⟩, ⟨false, [.ints .u64 (80 : Nat) C]⟩], [⟨_, _, _, [.ints .u8 nm b]⟩], [.o (.a (.p 0 0)), .o (.a (.sl 3 0 n _))] => some ((tl_1 = tl) ∧ (nm = n) ∧ (tl < (128 : Nat)) ∧ (n < (140737488355328 : Nat)), [], [some ⟨true, [.ints .u64 (8 : Nat) (wrS C S L b tl n), .rs 4 0 (wrT tl n) 1, .i .u64 (wrN N n), .p 2 0]⟩, none, some ⟨false, [.ints .u64 (80 : Nat) C]⟩, some ⟨false, [.ints .u8 nm b]⟩, some ⟨true, [.ints .u8 (wrT tl n) (wrL L b tl n)]⟩]) | _, _, _ => none) gam12
theorem gam13_ok : GamOk Try.prog gam13 := gcall_ok tabOkSG Try.func31 gam12_ok Try.call31 (by
  intro wk vs args p xs K1 h hv
  split at h
  · simp only [Option.some.injEq, Prod.mk.injEq] at h; obtain ⟨rfl, rfl, rfl⟩ := h; obtain ⟨g0, g1, g2, g3⟩ := hv; subst g0; exact fun caps w rw β => wr_body _ _ _ _ _ _ _ _ _ g1 g2 g3 w rw β
  · simp at h)

def sumL_mk (S : List Int) (tl : Nat) (N : Int) (L C : List Int) (k : Nat) (s : (List Int)) : St := ⟨sparse 64 [(0, .o (.a (.p 0 0))), (2, .o (.a (.p 3 0))), (3, .o (.a (.p 4 0))), (4, .o (.a (.p 5 0))), (5, .o (.a (.sl 6 ((128 : Nat) * k) ((tl + (pad N)) - ((128 : Nat) * k)) ((512 : Nat) - ((128 : Nat) * k))))), (7, .o (.a (.p 0 0))), (8, .o (.a (.b true))), (9, .o (.a (.b false))), (11, .o (.a (.p 0 0))), (12, .o (.a (.p 0 0))), (13, .o (.a (.p 0 0))), (14, .o (.g [.ints .u64 (8 : Nat) S])), (15, .o (.a (.p 0 0))), (16, .o (.a (.p 0 0))), (17, .o (.a (.p 0 8))), (18, .o (.a (.rs 1 0 tl 1))), (19, .o (.a (.i .i64 ((tl : Nat) : Int)))), (20, .o (.a (.sl 6 0 tl (512 : Nat)))), (21, .o (.a (.sl 6 0 tl (512 : Nat)))), (22, .o (.a (.p 0 0))), (23, .o (.a (.p 0 0))), (24, .o (.a (.p 0 8))), (25, .o (.a (.rs 1 0 tl 1))), (27, .o (.a (.sl 6 0 tl (512 : Nat)))), (28, .o (.a (.p 0 0))), (29, .o (.a (.p 0 0))), (30, .o (.a (.p 0 9))), (31, .o (.a (.i .u64 N))), (32, .o (.a (.sl 7 0 (pad N) (256 : Nat)))), (33, .o (.a (.sl 6 0 (tl + (pad N)) (512 : Nat))))], [some ⟨false, [.ints .u64 (8 : Nat) S, .rs 1 0 tl 1, .i .u64 N, .p 2 0]⟩, some ⟨false, [.ints .u8 tl L]⟩, some ⟨false, [.ints .u64 (80 : Nat) C]⟩, some ⟨true, [.ints .u8 (64 : Nat) ([0, 0, 0, 0, 0, 0, 0, 0, 0, 0, 0, 0, 0, 0, 0, 0, 0, 0, 0, 0, 0, 0, 0, 0, 0, 0, 0, 0, 0, 0, 0, 0, 0, 0, 0, 0, 0, 0, 0, 0, 0, 0, 0, 0, 0, 0, 0, 0, 0, 0, 0, 0, 0, 0, 0, 0, 0, 0, 0, 0, 0, 0, 0, 0] : List Int)]⟩, some ⟨true, [.ints .u8 (64 : Nat) ([0, 0, 0, 0, 0, 0, 0, 0, 0, 0, 0, 0, 0, 0, 0, 0, 0, 0, 0, 0, 0, 0, 0, 0, 0, 0, 0, 0, 0, 0, 0, 0, 0, 0, 0, 0, 0, 0, 0, 0, 0, 0, 0, 0, 0, 0, 0, 0, 0, 0, 0, 0, 0, 0, 0, 0, 0, 0, 0, 0, 0, 0, 0, 0] : List Int)]⟩, some ⟨true, [.ints .u64 (8 : Nat) s]⟩, some ⟨true, [.ints .u8 (512 : Nat) (splice (splice (List.replicate (512 : Nat) (0 : Int)) (0 : Nat) (min tl tl) (sub L 0 (min tl tl))) ((0 : Nat) + tl) (pad N) (sub (pad_1 N) (0 : Nat) (pad N)))]⟩, some ⟨true, [.ints .u8 (256 : Nat) (pad_1 N)]⟩]⟩

def sumL_step (tl : Nat) (N : Int) (L C : List Int) (k : Nat) (s : (List Int)) : (List Int) :=
  ((blk s (sub (splice (splice (List.replicate (512 : Nat) (0 : Int)) (0 : Nat) (min tl tl) (sub L 0 (min tl tl))) ((0 : Nat) + tl) (pad N) (sub (pad_1 N) (0 : Nat) (pad N))) ((128 : Nat) * k) (128 : Nat)) C))

set_option maxHeartbeats 1000000 in
theorem sumL_round (S : List Int) (tl : Nat) (N : Int) (L C : List Int) (h0 : ((0 : Int) ≤ N)) (h1 : ((Int.tmod N (128 : Int)) = ((tl : Nat) : Int))) (hl0_0 : List.length S = (8 : Nat)) (hl1_0 : List.length L = tl) (hl2_0 : List.length C = (80 : Nat)) (w : World) (rw : List Nat) (β : Env) (k : Nat) (hk : k < ((tl + (pad N)) / (128 : Nat))) (s : (List Int)) : Run Try.prog ⟨w, rw, 3, β⟩ (loopB Try.f33 0) (sumL_mk S tl N L C k s) (To ⟨w, rw, 3, β⟩ .normal (sumL_mk S tl N L C (k + 1) (sumL_step tl N L C k s))) := by
  have e0 : (((tl + (pad N)) - ((128 : Nat) * k)) - (128 : Nat)) = ((tl + (pad N)) - ((128 : Nat) * (k + (1 : Nat)))) := (by first | rfl | exact wrap_succ (by omega) | omega | (simp (disch := omega) only [wrapI]; omega))
  have e1 : (((512 : Nat) - ((128 : Nat) * k)) - (128 : Nat)) = ((512 : Nat) - ((128 : Nat) * (k + (1 : Nat)))) := (by first | rfl | exact wrap_succ (by omega) | omega | (simp (disch := omega) only [wrapI]; omega))
  have e2 : (((128 : Nat) * k) + (128 : Nat)) = ((128 : Nat) * (k + (1 : Nat))) := (by first | rfl | exact wrap_succ (by omega) | omega | (simp (disch := omega) only [wrapI]; omega))
  have h := Run.of_outT (B := ⟨w, rw, 3, β⟩) (Λ := noLam) (Ψ := noPsi) (fuel := 0) (ora := [true]) (c := (loopB Try.f33 0)) (st := (sumL_mk S tl N L C k s)) (l := [.forget [0, 2, 3, 4, 5, 7, 8, 9, 11, 12, 13, 14, 15, 16, 17, 18, 19, 20, 21, 22, 23, 24, 25, 27, 28, 29, 30, 31, 32, 33] 8]) (s' := ⟨sparse 64 [(0, .o (.a (.p 0 0))), (2, .o (.a (.p 3 0))), (3, .o (.a (.p 4 0))), (4, .o (.a (.p 5 0))), (5, .o (.a (.sl 6 (((128 : Nat) * k) + (128 : Nat)) (((tl + (pad N)) - ((128 : Nat) * k)) - (128 : Nat)) (((512 : Nat) - ((128 : Nat) * k)) - (128 : Nat))))), (7, .o (.a (.p 0 0))), (8, .o (.a (.b true))), (9, .o (.a (.b false))), (11, .o (.a (.p 0 0))), (12, .o (.a (.p 0 0))), (13, .o (.a (.p 0 0))), (14, .o (.g [.ints .u64 (8 : Nat) S])), (15, .o (.a (.p 0 0))), (16, .o (.a (.p 0 0))), (17, .o (.a (.p 0 8))), (18, .o (.a (.rs 1 0 tl 1))), (19, .o (.a (.i .i64 ((tl : Nat) : Int)))), (20, .o (.a (.sl 6 0 tl (512 : Nat)))), (21, .o (.a (.sl 6 0 tl (512 : Nat)))), (22, .o (.a (.p 0 0))), (23, .o (.a (.p 0 0))), (24, .o (.a (.p 0 8))), (25, .o (.a (.rs 1 0 tl 1))), (27, .o (.a (.sl 6 0 tl (512 : Nat)))), (28, .o (.a (.p 0 0))), (29, .o (.a (.p 0 0))), (30, .o (.a (.p 0 9))), (31, .o (.a (.i .u64 N))), (32, .o (.a (.sl 7 0 (pad N) (256 : Nat)))), (33, .o (.a (.sl 6 0 (tl + (pad N)) (512 : Nat))))], [some ⟨false, [.ints .u64 (8 : Nat) S, .rs 1 0 tl 1, .i .u64 N, .p 2 0]⟩, some ⟨false, [.ints .u8 tl L]⟩, some ⟨false, [.ints .u64 (80 : Nat) C]⟩, some ⟨true, [.ints .u8 (64 : Nat) ([0, 0, 0, 0, 0, 0, 0, 0, 0, 0, 0, 0, 0, 0, 0, 0, 0, 0, 0, 0, 0, 0, 0, 0, 0, 0, 0, 0, 0, 0, 0, 0, 0, 0, 0, 0, 0, 0, 0, 0, 0, 0, 0, 0, 0, 0, 0, 0, 0, 0, 0, 0, 0, 0, 0, 0, 0, 0, 0, 0, 0, 0, 0, 0] : List Int)]⟩, some ⟨true, [.ints .u8 (64 : Nat) ([0, 0, 0, 0, 0, 0, 0, 0, 0, 0, 0, 0, 0, 0, 0, 0, 0, 0, 0, 0, 0, 0, 0, 0, 0, 0, 0, 0, 0, 0, 0, 0, 0, 0, 0, 0, 0, 0, 0, 0, 0, 0, 0, 0, 0, 0, 0, 0, 0, 0, 0, 0, 0, 0, 0, 0, 0, 0, 0, 0, 0, 0, 0, 0] : List Int)]⟩, some ⟨true, [.ints .u64 (8 : Nat) (sumL_step tl N L C k s)]⟩, some ⟨true, [.ints .u8 (512 : Nat) (splice (splice (List.replicate (512 : Nat) (0 : Int)) (0 : Nat) (min tl tl) (sub L 0 (min tl tl))) ((0 : Nat) + tl) (pad N) (sub (pad_1 N) (0 : Nat) (pad N)))]⟩, some ⟨true, [.ints .u8 (256 : Nat) (pad_1 N)]⟩]⟩) (ex := .normal) mix tabOkSG gam13_ok
    (vc := [(((0 : Int) ≤ (128 : Int)) ∧ ((128 : Int) ≤ ((((tl + (pad N)) - ((128 : Nat) * k)) : Nat) : Int))), ((True ∧ (((((128 : Nat) * k) + (128 : Nat)) ≤ (512 : Nat)) ∧ (True ∧ True))) ∧ (((128 : Nat) = (128 : Nat)) ∧ ((128 : Nat) = (128 : Nat)))), (((0 : Int) ≤ (0 : Int)) ∧ ((0 : Int) ≤ (128 : Int)) ∧ ((128 : Int) ≤ ((((512 : Nat) - ((128 : Nat) * k)) : Nat) : Int))), ((decide (((((tl + (pad N)) - ((128 : Nat) * k)) : Nat) : Int) > (0 : Int))) = true)]) (by kernel_rfl)
    (aC ⟨(by decide), (by have hp1 := pad_le N; have hp2 := pad_mod h0 h1; first | omega | (simp (disch := omega) only [wrapI]; omega))⟩ (aC ⟨⟨trivial, ⟨(by have hp1 := pad_le N; have hp2 := pad_mod h0 h1; first | omega | (simp (disch := omega) only [wrapI]; omega)), ⟨trivial, trivial⟩⟩⟩, ⟨rfl, rfl⟩⟩ (aC ⟨(by decide), (by decide), (by have hp1 := pad_le N; have hp2 := pad_mod h0 h1; first | omega | (simp (disch := omega) only [wrapI]; omega))⟩ (aC (decide_eq_true (by have hp1 := pad_le N; have hp2 := pad_mod h0 h1; first | omega | (simp (disch := omega) only [wrapI]; omega))) (AllP_nil)))))
  rw [e0, e1, e2] at h
  exact h

set_option maxHeartbeats 1000000 in
theorem sumL_last (S : List Int) (tl : Nat) (N : Int) (L C : List Int) (h0 : ((0 : Int) ≤ N)) (h1 : ((Int.tmod N (128 : Int)) = ((tl : Nat) : Int))) (hl0_0 : List.length S = (8 : Nat)) (hl1_0 : List.length L = tl) (hl2_0 : List.length C = (80 : Nat)) (w : World) (rw : List Nat) (β : Env) (s : (List Int)) : Run Try.prog ⟨w, rw, 3, β⟩ (loopB Try.f33 0) (sumL_mk S tl N L C ((tl + (pad N)) / (128 : Nat)) s) (To ⟨w, rw, 3, β⟩ (.exit 0) (sumL_mk S tl N L C ((tl + (pad N)) / (128 : Nat)) s)) :=
  Run.of_outT (B := ⟨w, rw, 3, β⟩) (Λ := noLam) (Ψ := noPsi) (fuel := 0) (ora := [false]) (l := [.forget [0, 2, 3, 4, 5, 7, 8, 9, 11, 12, 13, 14, 15, 16, 17, 18, 19, 20, 21, 22, 23, 24, 25, 27, 28, 29, 30, 31, 32, 33] 8]) mix tabOkSG gam13_ok
    (vc := [((decide (((((tl + (pad N)) - ((128 : Nat) * ((tl + (pad N)) / (128 : Nat)))) : Nat) : Int) > (0 : Int))) = false)]) (by kernel_rfl)
    (aC (decide_eq_false (by have hp1 := pad_le N; have hp2 := pad_mod h0 h1; first | omega | (simp (disch := omega) only [wrapI]; omega))) (AllP_nil))

theorem sumL_loop (S : List Int) (tl : Nat) (N : Int) (L C : List Int) (h0 : ((0 : Int) ≤ N)) (h1 : ((Int.tmod N (128 : Int)) = ((tl : Nat) : Int))) (hl0_0 : List.length S = (8 : Nat)) (hl1_0 : List.length L = tl) (hl2_0 : List.length C = (80 : Nat)) (w : World) (rw : List Nat) (β : Env) (s : (List Int)) : Run Try.prog ⟨w, rw, 3, β⟩ (.block 0 (.loop (loopB Try.f33 0))) (sumL_mk S tl N L C 0 s) (To ⟨w, rw, 3, β⟩ .normal (sumL_mk S tl N L C ((tl + (pad N)) / (128 : Nat)) (iter (sumL_step tl N L C) ((tl + (pad N)) / (128 : Nat)) s))) :=
  Run.count (fun k => sumL_mk S tl N L C k (iter (sumL_step tl N L C) k s)) ((tl + (pad N)) / (128 : Nat)) (fun k hk => sumL_round S tl N L C h0 h1 hl0_0 hl1_0 hl2_0 w rw β k hk _) (ex := (.exit 0)) (by simp) (sumL_last S tl N L C h0 h1 hl0_0 hl1_0 hl2_0 w rw β _)

def sumL_out0 (tl : Nat) (N : Int) (L C i0 : List Int) : List Int := (iter (sumL_step tl N L C) ((tl + (pad N)) / (128 : Nat)) (i0))

def hsum (S : List Int) (tl : Nat) (N : Int) (L C : List Int) : List Int :=
  let z0 : List Int := (sumL_out0 tl N L C S)
  let z1 : Int := (List.getD z0 (7 : Nat) 0)
  let z2 : Int := (List.getD z0 (6 : Nat) 0)
  let z3 : Int := (List.getD z0 (5 : Nat) 0)
  let z4 : Int := (List.getD z0 (4 : Nat) 0)
  let z5 : Int := (List.getD z0 (3 : Nat) 0)
  let z6 : Int := (List.getD z0 (2 : Nat) 0)
  let z7 : Int := (List.getD z0 (1 : Nat) 0)
  let z8 : Int := (List.getD z0 (0 : Nat) 0)
  ([(IntKind.u8.wrap (shr .u64 z8 (56 : Int))), (IntKind.u8.wrap (shr .u64 z8 (48 : Int))), (IntKind.u8.wrap (shr .u64 z8 (40 : Int))), (IntKind.u8.wrap (shr .u64 z8 (32 : Int))), (IntKind.u8.wrap (shr .u64 z8 (24 : Int))), (IntKind.u8.wrap (shr .u64 z8 (16 : Int))), (IntKind.u8.wrap (shr .u64 z8 (8 : Int))), (IntKind.u8.wrap (shr .u64 z8 (0 : Int))), (IntKind.u8.wrap (shr .u64 z7 (56 : Int))), (IntKind.u8.wrap (shr .u64 z7 (48 : Int))), (IntKind.u8.wrap (shr .u64 z7 (40 : Int))), (IntKind.u8.wrap (shr .u64 z7 (32 : Int))), (IntKind.u8.wrap (shr .u64 z7 (24 : Int))), (IntKind.u8.wrap (shr .u64 z7 (16 : Int))), (IntKind.u8.wrap (shr .u64 z7 (8 : Int))), (IntKind.u8.wrap (shr .u64 z7 (0 : Int))), (IntKind.u8.wrap (shr .u64 z6 (56 : Int))), (IntKind.u8.wrap (shr .u64 z6 (48 : Int))), (IntKind.u8.wrap (shr .u64 z6 (40 : Int))), (IntKind.u8.wrap (shr .u64 z6 (32 : Int))), (IntKind.u8.wrap (shr .u64 z6 (24 : Int))), (IntKind.u8.wrap (shr .u64 z6 (16 : Int))), (IntKind.u8.wrap (shr .u64 z6 (8 : Int))), (IntKind.u8.wrap (shr .u64 z6 (0 : Int))), (IntKind.u8.wrap (shr .u64 z5 (56 : Int))), (IntKind.u8.wrap (shr .u64 z5 (48 : Int))), (IntKind.u8.wrap (shr .u64 z5 (40 : Int))), (IntKind.u8.wrap (shr .u64 z5 (32 : Int))), (IntKind.u8.wrap (shr .u64 z5 (24 : Int))), (IntKind.u8.wrap (shr .u64 z5 (16 : Int))), (IntKind.u8.wrap (shr .u64 z5 (8 : Int))), (IntKind.u8.wrap (shr .u64 z5 (0 : Int))), (IntKind.u8.wrap (shr .u64 z4 (56 : Int))), (IntKind.u8.wrap (shr .u64 z4 (48 : Int))), (IntKind.u8.wrap (shr .u64 z4 (40 : Int))), (IntKind.u8.wrap (shr .u64 z4 (32 : Int))), (IntKind.u8.wrap (shr .u64 z4 (24 : Int))), (IntKind.u8.wrap (shr .u64 z4 (16 : Int))), (IntKind.u8.wrap (shr .u64 z4 (8 : Int))), (IntKind.u8.wrap (shr .u64 z4 (0 : Int))), (IntKind.u8.wrap (shr .u64 z3 (56 : Int))), (IntKind.u8.wrap (shr .u64 z3 (48 : Int))), (IntKind.u8.wrap (shr .u64 z3 (40 : Int))), (IntKind.u8.wrap (shr .u64 z3 (32 : Int))), (IntKind.u8.wrap (shr .u64 z3 (24 : Int))), (IntKind.u8.wrap (shr .u64 z3 (16 : Int))), (IntKind.u8.wrap (shr .u64 z3 (8 : Int))), (IntKind.u8.wrap (shr .u64 z3 (0 : Int))), (IntKind.u8.wrap (shr .u64 z2 (56 : Int))), (IntKind.u8.wrap (shr .u64 z2 (48 : Int))), (IntKind.u8.wrap (shr .u64 z2 (40 : Int))), (IntKind.u8.wrap (shr .u64 z2 (32 : Int))), (IntKind.u8.wrap (shr .u64 z2 (24 : Int))), (IntKind.u8.wrap (shr .u64 z2 (16 : Int))), (IntKind.u8.wrap (shr .u64 z2 (8 : Int))), (IntKind.u8.wrap (shr .u64 z2 (0 : Int))), (IntKind.u8.wrap (shr .u64 z1 (56 : Int))), (IntKind.u8.wrap (shr .u64 z1 (48 : Int))), (IntKind.u8.wrap (shr .u64 z1 (40 : Int))), (IntKind.u8.wrap (shr .u64 z1 (32 : Int))), (IntKind.u8.wrap (shr .u64 z1 (24 : Int))), (IntKind.u8.wrap (shr .u64 z1 (16 : Int))), (IntKind.u8.wrap (shr .u64 z1 (8 : Int))), (IntKind.u8.wrap (shr .u64 z1 (0 : Int)))] : List Int)

set_option maxHeartbeats 1000000 in
theorem hsum_body0 (S : List Int) (tl : Nat) (N : Int) (L C : List Int) (h0 : ((0 : Int) ≤ N)) (h1 : ((Int.tmod N (128 : Int)) = ((tl : Nat) : Int))) (hl0_0 : List.length S = (8 : Nat)) (hl1_0 : List.length L = tl) (hl2_0 : List.length C = (80 : Nat)) (w : World) (rw : List Nat) (β : Env) : Body Try.prog (tabOf tabSG) Try.f33 ⟨w, rw, 3, β⟩ [.o (.a (.p 0 0))] [some ⟨false, [.ints .u64 (8 : Nat) S, .rs 1 0 tl 1, .i .u64 N, .p 2 0]⟩, some ⟨false, [.ints .u8 tl L]⟩, some ⟨false, [.ints .u64 (80 : Nat) C]⟩] (fun ys K' => ys = [.g [.ints .u8 (64 : Nat) (hsum S tl N L C)]] ∧ K' = [some ⟨false, [.ints .u64 (8 : Nat) S, .rs 1 0 tl 1, .i .u64 N, .p 2 0]⟩, some ⟨false, [.ints .u8 tl L]⟩, some ⟨false, [.ints .u64 (80 : Nat) C]⟩]) :=
  Body.of_finK (Γ := gam13) (Λ := lamOf [(0, ⟨[.forget [0, 2, 3, 4, 5, 7, 8, 9, 11, 12, 13, 14, 15, 16, 17, 18, 19, 20, 21, 22, 23, 24, 25, 27, 28, 29, 30, 31, 32, 33] 8], .normal, (sumL_mk S tl N L C ((tl + (pad N)) / (128 : Nat)) (iter (sumL_step tl N L C) ((tl + (pad N)) / (128 : Nat)) (S)))⟩)]) (Ψ := noPsi) (fuel := 65) (m := 64) (c := (Try.f33.body.getD .skip)) mix tabOkSG gam13_ok rfl (rs := [.cell 2 42]) rfl rfl [false, true, true, true, true, true, true, true, true, true, true, true, true, true, true, true, true, true, true, true, true, true, true, true, true, true, true, true, true, true, true, true, true, true, true, true, true, true, true, true, true, true, true, true, true, true, true, true, true, true, true, true, true, true, true, true, true, true, true, true, true, true, true, true, true, true, false] [] 3
    (vc := [(false = false), ((63 : Nat) < (64 : Nat)), (((0 : Int) ≤ (63 : Int)) ∧ ((63 : Int) < (64 : Int))), ((0 : Int) ≤ (0 : Int)), ((8 : Int) ≠ 0), ((7 : Nat) < (8 : Nat)), (((0 : Int) ≤ (7 : Int)) ∧ ((7 : Int) < (8 : Int))), ((8 : Int) ≠ 0), (true = true), ((62 : Nat) < (64 : Nat)), (((0 : Int) ≤ (62 : Int)) ∧ ((62 : Int) < (64 : Int))), ((0 : Int) ≤ (8 : Int)), ((8 : Int) ≠ 0), ((7 : Nat) < (8 : Nat)), (((0 : Int) ≤ (7 : Int)) ∧ ((7 : Int) < (8 : Int))), ((8 : Int) ≠ 0), (true = true), ((61 : Nat) < (64 : Nat)), (((0 : Int) ≤ (61 : Int)) ∧ ((61 : Int) < (64 : Int))), ((0 : Int) ≤ (16 : Int)), ((8 : Int) ≠ 0), ((7 : Nat) < (8 : Nat)), (((0 : Int) ≤ (7 : Int)) ∧ ((7 : Int) < (8 : Int))), ((8 : Int) ≠ 0), (true = true), ((60 : Nat) < (64 : Nat)), (((0 : Int) ≤ (60 : Int)) ∧ ((60 : Int) < (64 : Int))), ((0 : Int) ≤ (24 : Int)), ((8 : Int) ≠ 0), ((7 : Nat) < (8 : Nat)), (((0 : Int) ≤ (7 : Int)) ∧ ((7 : Int) < (8 : Int))), ((8 : Int) ≠ 0), (true = true), ((59 : Nat) < (64 : Nat)), (((0 : Int) ≤ (59 : Int)) ∧ ((59 : Int) < (64 : Int))), ((0 : Int) ≤ (32 : Int)), ((8 : Int) ≠ 0), ((7 : Nat) < (8 : Nat)), (((0 : Int) ≤ (7 : Int)) ∧ ((7 : Int) < (8 : Int))), ((8 : Int) ≠ 0), (true = true), ((58 : Nat) < (64 : Nat)), (((0 : Int) ≤ (58 : Int)) ∧ ((58 : Int) < (64 : Int))), ((0 : Int) ≤ (40 : Int)), ((8 : Int) ≠ 0), ((7 : Nat) < (8 : Nat)), (((0 : Int) ≤ (7 : Int)) ∧ ((7 : Int) < (8 : Int))), ((8 : Int) ≠ 0), (true = true), ((57 : Nat) < (64 : Nat)), (((0 : Int) ≤ (57 : Int)) ∧ ((57 : Int) < (64 : Int))), ((0 : Int) ≤ (48 : Int)), ((8 : Int) ≠ 0), ((7 : Nat) < (8 : Nat)), (((0 : Int) ≤ (7 : Int)) ∧ ((7 : Int) < (8 : Int))), ((8 : Int) ≠ 0), (true = true), ((56 : Nat) < (64 : Nat)), (((0 : Int) ≤ (56 : Int)) ∧ ((56 : Int) < (64 : Int))), ((0 : Int) ≤ (56 : Int)), ((8 : Int) ≠ 0), ((7 : Nat) < (8 : Nat)), (((0 : Int) ≤ (7 : Int)) ∧ ((7 : Int) < (8 : Int))), ((8 : Int) ≠ 0), (true = true), ((55 : Nat) < (64 : Nat)), (((0 : Int) ≤ (55 : Int)) ∧ ((55 : Int) < (64 : Int))), ((0 : Int) ≤ (0 : Int)), ((8 : Int) ≠ 0), ((6 : Nat) < (8 : Nat)), (((0 : Int) ≤ (6 : Int)) ∧ ((6 : Int) < (8 : Int))), ((8 : Int) ≠ 0), (true = true), ((54 : Nat) < (64 : Nat)), (((0 : Int) ≤ (54 : Int)) ∧ ((54 : Int) < (64 : Int))), ((0 : Int) ≤ (8 : Int)), ((8 : Int) ≠ 0), ((6 : Nat) < (8 : Nat)), (((0 : Int) ≤ (6 : Int)) ∧ ((6 : Int) < (8 : Int))), ((8 : Int) ≠ 0), (true = true), ((53 : Nat) < (64 : Nat)), (((0 : Int) ≤ (53 : Int)) ∧ ((53 : Int) < (64 : Int))), ((0 : Int) ≤ (16 : Int)), ((8 : Int) ≠ 0), ((6 : Nat) < (8 : Nat)), (((0 : Int) ≤ (6 : Int)) ∧ ((6 : Int) < (8 : Int))), ((8 : Int) ≠ 0), (true = true), ((52 : Nat) < (64 : Nat)), (((0 : Int) ≤ (52 : Int)) ∧ ((52 : Int) < (64 : Int))), ((0 : Int) ≤ (24 : Int)), ((8 : Int) ≠ 0), ((6 : Nat) < (8 : Nat)), (((0 : Int) ≤ (6 : Int)) ∧ ((6 : Int) < (8 : Int))), ((8 : Int) ≠ 0), (true = true), ((51 : Nat) < (64 : Nat)), (((0 : Int) ≤ (51 : Int)) ∧ ((51 : Int) < (64 : Int))), ((0 : Int) ≤ (32 : Int)), ((8 : Int) ≠ 0), ((6 : Nat) < (8 : Nat)), (((0 : Int) ≤ (6 : Int)) ∧ ((6 : Int) < (8 : Int))), ((8 : Int) ≠ 0), (true = true), ((50 : Nat) < (64 : Nat)), (((0 : Int) ≤ (50 : Int)) ∧ ((50 : Int) < (64 : Int))), ((0 : Int) ≤ (40 : Int)), ((8 : Int) ≠ 0), ((6 : Nat) < (8 : Nat)), (((0 : Int) ≤ (6 : Int)) ∧ ((6 : Int) < (8 : Int))), ((8 : Int) ≠ 0), (true = true), ((49 : Nat) < (64 : Nat)), (((0 : Int) ≤ (49 : Int)) ∧ ((49 : Int) < (64 : Int))), ((0 : Int) ≤ (48 : Int)), ((8 : Int) ≠ 0), ((6 : Nat) < (8 : Nat)), (((0 : Int) ≤ (6 : Int)) ∧ ((6 : Int) < (8 : Int))), ((8 : Int) ≠ 0), (true = true), ((48 : Nat) < (64 : Nat)), (((0 : Int) ≤ (48 : Int)) ∧ ((48 : Int) < (64 : Int))), ((0 : Int) ≤ (56 : Int)), ((8 : Int) ≠ 0), ((6 : Nat) < (8 : Nat)), (((0 : Int) ≤ (6 : Int)) ∧ ((6 : Int) < (8 : Int))), ((8 : Int) ≠ 0), (true = true), ((47 : Nat) < (64 : Nat)), (((0 : Int) ≤ (47 : Int)) ∧ ((47 : Int) < (64 : Int))), ((0 : Int) ≤ (0 : Int)), ((8 : Int) ≠ 0), ((5 : Nat) < (8 : Nat)), (((0 : Int) ≤ (5 : Int)) ∧ ((5 : Int) < (8 : Int))), ((8 : Int) ≠ 0), (true = true), ((46 : Nat) < (64 : Nat)), (((0 : Int) ≤ (46 : Int)) ∧ ((46 : Int) < (64 : Int))), ((0 : Int) ≤ (8 : Int)), ((8 : Int) ≠ 0), ((5 : Nat) < (8 : Nat)), (((0 : Int) ≤ (5 : Int)) ∧ ((5 : Int) < (8 : Int))), ((8 : Int) ≠ 0), (true = true), ((45 : Nat) < (64 : Nat)), (((0 : Int) ≤ (45 : Int)) ∧ ((45 : Int) < (64 : Int))), ((0 : Int) ≤ (16 : Int)), ((8 : Int) ≠ 0), ((5 : Nat) < (8 : Nat)), (((0 : Int) ≤ (5 : Int)) ∧ ((5 : Int) < (8 : Int))), ((8 : Int) ≠ 0), (true = true), ((44 : Nat) < (64 : Nat)), (((0 : Int) ≤ (44 : Int)) ∧ ((44 : Int) < (64 : Int))), ((0 : Int) ≤ (24 : Int)), ((8 : Int) ≠ 0), ((5 : Nat) < (8 : Nat)), (((0 : Int) ≤ (5 : Int)) ∧ ((5 : Int) < (8 : Int))), ((8 : Int) ≠ 0), (true = true), ((43 : Nat) < (64 : Nat)), (((0 : Int) ≤ (43 : Int)) ∧ ((43 : Int) < (64 : Int))), ((0 : Int) ≤ (32 : Int)), ((8 : Int) ≠ 0), ((5 : Nat) < (8 : Nat)), (((0 : Int) ≤ (5 : Int)) ∧ ((5 : Int) < (8 : Int))), ((8 : Int) ≠ 0), (true = true), ((42 : Nat) < (64 : Nat)), (((0 : Int) ≤ (42 : Int)) ∧ ((42 : Int) < (64 : Int))), ((0 : Int) ≤ (40 : Int)), ((8 : Int) ≠ 0), ((5 : Nat) < (8 : Nat)), (((0 : Int) ≤ (5 : Int)) ∧ ((5 : Int) < (8 : Int))), ((8 : Int) ≠ 0), (true = true), ((41 : Nat) < (64 : Nat)), (((0 : Int) ≤ (41 : Int)) ∧ ((41 : Int) < (64 : Int))), ((0 : Int) ≤ (48 : Int)), ((8 : Int) ≠ 0), ((5 : Nat) < (8 : Nat)), (((0 : Int) ≤ (5 : Int)) ∧ ((5 : Int) < (8 : Int))), ((8 : Int) ≠ 0), (true = true), ((40 : Nat) < (64 : Nat)), (((0 : Int) ≤ (40 : Int)) ∧ ((40 : Int) < (64 : Int))), ((0 : Int) ≤ (56 : Int)), ((8 : Int) ≠ 0), ((5 : Nat) < (8 : Nat)), (((0 : Int) ≤ (5 : Int)) ∧ ((5 : Int) < (8 : Int))), ((8 : Int) ≠ 0), (true = true), ((39 : Nat) < (64 : Nat)), (((0 : Int) ≤ (39 : Int)) ∧ ((39 : Int) < (64 : Int))), ((0 : Int) ≤ (0 : Int)), ((8 : Int) ≠ 0), ((4 : Nat) < (8 : Nat)), (((0 : Int) ≤ (4 : Int)) ∧ ((4 : Int) < (8 : Int))), ((8 : Int) ≠ 0), (true = true), ((38 : Nat) < (64 : Nat)), (((0 : Int) ≤ (38 : Int)) ∧ ((38 : Int) < (64 : Int))), ((0 : Int) ≤ (8 : Int)), ((8 : Int) ≠ 0), ((4 : Nat) < (8 : Nat)), (((0 : Int) ≤ (4 : Int)) ∧ ((4 : Int) < (8 : Int))), ((8 : Int) ≠ 0), (true = true), ((37 : Nat) < (64 : Nat)), (((0 : Int) ≤ (37 : Int)) ∧ ((37 : Int) < (64 : Int))), ((0 : Int) ≤ (16 : Int)), ((8 : Int) ≠ 0), ((4 : Nat) < (8 : Nat)), (((0 : Int) ≤ (4 : Int)) ∧ ((4 : Int) < (8 : Int))), ((8 : Int) ≠ 0), (true = true), ((36 : Nat) < (64 : Nat)), (((0 : Int) ≤ (36 : Int)) ∧ ((36 : Int) < (64 : Int))), ((0 : Int) ≤ (24 : Int)), ((8 : Int) ≠ 0), ((4 : Nat) < (8 : Nat)), (((0 : Int) ≤ (4 : Int)) ∧ ((4 : Int) < (8 : Int))), ((8 : Int) ≠ 0), (true = true), ((35 : Nat) < (64 : Nat)), (((0 : Int) ≤ (35 : Int)) ∧ ((35 : Int) < (64 : Int))), ((0 : Int) ≤ (32 : Int)), ((8 : Int) ≠ 0), ((4 : Nat) < (8 : Nat)), (((0 : Int) ≤ (4 : Int)) ∧ ((4 : Int) < (8 : Int))), ((8 : Int) ≠ 0), (true = true), ((34 : Nat) < (64 : Nat)), (((0 : Int) ≤ (34 : Int)) ∧ ((34 : Int) < (64 : Int))), ((0 : Int) ≤ (40 : Int)), ((8 : Int) ≠ 0), ((4 : Nat) < (8 : Nat)), (((0 : Int) ≤ (4 : Int)) ∧ ((4 : Int) < (8 : Int))), ((8 : Int) ≠ 0), (true = true), ((33 : Nat) < (64 : Nat)), (((0 : Int) ≤ (33 : Int)) ∧ ((33 : Int) < (64 : Int))), ((0 : Int) ≤ (48 : Int)), ((8 : Int) ≠ 0), ((4 : Nat) < (8 : Nat)), (((0 : Int) ≤ (4 : Int)) ∧ ((4 : Int) < (8 : Int))), ((8 : Int) ≠ 0), (true = true), ((32 : Nat) < (64 : Nat)), (((0 : Int) ≤ (32 : Int)) ∧ ((32 : Int) < (64 : Int))), ((0 : Int) ≤ (56 : Int)), ((8 : Int) ≠ 0), ((4 : Nat) < (8 : Nat)), (((0 : Int) ≤ (4 : Int)) ∧ ((4 : Int) < (8 : Int))), ((8 : Int) ≠ 0), (true = true), ((31 : Nat) < (64 : Nat)), (((0 : Int) ≤ (31 : Int)) ∧ ((31 : Int) < (64 : Int))), ((0 : Int) ≤ (0 : Int)), ((8 : Int) ≠ 0), ((3 : Nat) < (8 : Nat)), (((0 : Int) ≤ (3 : Int)) ∧ ((3 : Int) < (8 : Int))), ((8 : Int) ≠ 0), (true = true), ((30 : Nat) < (64 : Nat)), (((0 : Int) ≤ (30 : Int)) ∧ ((30 : Int) < (64 : Int))), ((0 : Int) ≤ (8 : Int)), ((8 : Int) ≠ 0), ((3 : Nat) < (8 : Nat)), (((0 : Int) ≤ (3 : Int)) ∧ ((3 : Int) < (8 : Int))), ((8 : Int) ≠ 0), (true = true), ((29 : Nat) < (64 : Nat)), (((0 : Int) ≤ (29 : Int)) ∧ ((29 : Int) < (64 : Int))), ((0 : Int) ≤ (16 : Int)), ((8 : Int) ≠ 0), ((3 : Nat) < (8 : Nat)), (((0 : Int) ≤ (3 : Int)) ∧ ((3 : Int) < (8 : Int))), ((8 : Int) ≠ 0), (true = true), ((28 : Nat) < (64 : Nat)), (((0 : Int) ≤ (28 : Int)) ∧ ((28 : Int) < (64 : Int))), ((0 : Int) ≤ (24 : Int)), ((8 : Int) ≠ 0), ((3 : Nat) < (8 : Nat)), (((0 : Int) ≤ (3 : Int)) ∧ ((3 : Int) < (8 : Int))), ((8 : Int) ≠ 0), (true = true), ((27 : Nat) < (64 : Nat)), (((0 : Int) ≤ (27 : Int)) ∧ ((27 : Int) < (64 : Int))), ((0 : Int) ≤ (32 : Int)), ((8 : Int) ≠ 0), ((3 : Nat) < (8 : Nat)), (((0 : Int) ≤ (3 : Int)) ∧ ((3 : Int) < (8 : Int))), ((8 : Int) ≠ 0), (true = true), ((26 : Nat) < (64 : Nat)), (((0 : Int) ≤ (26 : Int)) ∧ ((26 : Int) < (64 : Int))), ((0 : Int) ≤ (40 : Int)), ((8 : Int) ≠ 0), ((3 : Nat) < (8 : Nat)), (((0 : Int) ≤ (3 : Int)) ∧ ((3 : Int) < (8 : Int))), ((8 : Int) ≠ 0), (true = true), ((25 : Nat) < (64 : Nat)), (((0 : Int) ≤ (25 : Int)) ∧ ((25 : Int) < (64 : Int))), ((0 : Int) ≤ (48 : Int)), ((8 : Int) ≠ 0), ((3 : Nat) < (8 : Nat)), (((0 : Int) ≤ (3 : Int)) ∧ ((3 : Int) < (8 : Int))), ((8 : Int) ≠ 0), (true = true), ((24 : Nat) < (64 : Nat)), (((0 : Int) ≤ (24 : Int)) ∧ ((24 : Int) < (64 : Int))), ((0 : Int) ≤ (56 : Int)), ((8 : Int) ≠ 0), ((3 : Nat) < (8 : Nat)), (((0 : Int) ≤ (3 : Int)) ∧ ((3 : Int) < (8 : Int))), ((8 : Int) ≠ 0), (true = true), ((23 : Nat) < (64 : Nat)), (((0 : Int) ≤ (23 : Int)) ∧ ((23 : Int) < (64 : Int))), ((0 : Int) ≤ (0 : Int)), ((8 : Int) ≠ 0), ((2 : Nat) < (8 : Nat)), (((0 : Int) ≤ (2 : Int)) ∧ ((2 : Int) < (8 : Int))), ((8 : Int) ≠ 0), (true = true), ((22 : Nat) < (64 : Nat)), (((0 : Int) ≤ (22 : Int)) ∧ ((22 : Int) < (64 : Int))), ((0 : Int) ≤ (8 : Int)), ((8 : Int) ≠ 0), ((2 : Nat) < (8 : Nat)), (((0 : Int) ≤ (2 : Int)) ∧ ((2 : Int) < (8 : Int))), ((8 : Int) ≠ 0), (true = true), ((21 : Nat) < (64 : Nat)), (((0 : Int) ≤ (21 : Int)) ∧ ((21 : Int) < (64 : Int))), ((0 : Int) ≤ (16 : Int)), ((8 : Int) ≠ 0), ((2 : Nat) < (8 : Nat)), (((0 : Int) ≤ (2 : Int)) ∧ ((2 : Int) < (8 : Int))), ((8 : Int) ≠ 0), (true = true), ((20 : Nat) < (64 : Nat)), (((0 : Int) ≤ (20 : Int)) ∧ ((20 : Int) < (64 : Int))), ((0 : Int) ≤ (24 : Int)), ((8 : Int) ≠ 0), ((2 : Nat) < (8 : Nat)), (((0 : Int) ≤ (2 : Int)) ∧ ((2 : Int) < (8 : Int))), ((8 : Int) ≠ 0), (true = true), ((19 : Nat) < (64 : Nat)), (((0 : Int) ≤ (19 : Int)) ∧ ((19 : Int) < (64 : Int))), ((0 : Int) ≤ (32 : Int)), ((8 : Int) ≠ 0), ((2 : Nat) < (8 : Nat)), (((0 : Int) ≤ (2 : Int)) ∧ ((2 : Int) < (8 : Int))), ((8 : Int) ≠ 0), (true = true), ((18 : Nat) < (64 : Nat)), (((0 : Int) ≤ (18 : Int)) ∧ ((18 : Int) < (64 : Int))), ((0 : Int) ≤ (40 : Int)), ((8 : Int) ≠ 0), ((2 : Nat) < (8 : Nat)), (((0 : Int) ≤ (2 : Int)) ∧ ((2 : Int) < (8 : Int))), ((8 : Int) ≠ 0), (true = true), ((17 : Nat) < (64 : Nat)), (((0 : Int) ≤ (17 : Int)) ∧ ((17 : Int) < (64 : Int))), ((0 : Int) ≤ (48 : Int)), ((8 : Int) ≠ 0), ((2 : Nat) < (8 : Nat)), (((0 : Int) ≤ (2 : Int)) ∧ ((2 : Int) < (8 : Int))), ((8 : Int) ≠ 0), (true = true), ((16 : Nat) < (64 : Nat)), (((0 : Int) ≤ (16 : Int)) ∧ ((16 : Int) < (64 : Int))), ((0 : Int) ≤ (56 : Int)), ((8 : Int) ≠ 0), ((2 : Nat) < (8 : Nat)), (((0 : Int) ≤ (2 : Int)) ∧ ((2 : Int) < (8 : Int))), ((8 : Int) ≠ 0), (true = true), ((15 : Nat) < (64 : Nat)), (((0 : Int) ≤ (15 : Int)) ∧ ((15 : Int) < (64 : Int))), ((0 : Int) ≤ (0 : Int)), ((8 : Int) ≠ 0), ((1 : Nat) < (8 : Nat)), (((0 : Int) ≤ (1 : Int)) ∧ ((1 : Int) < (8 : Int))), ((8 : Int) ≠ 0), (true = true), ((14 : Nat) < (64 : Nat)), (((0 : Int) ≤ (14 : Int)) ∧ ((14 : Int) < (64 : Int))), ((0 : Int) ≤ (8 : Int)), ((8 : Int) ≠ 0), ((1 : Nat) < (8 : Nat)), (((0 : Int) ≤ (1 : Int)) ∧ ((1 : Int) < (8 : Int))), ((8 : Int) ≠ 0), (true = true), ((13 : Nat) < (64 : Nat)), (((0 : Int) ≤ (13 : Int)) ∧ ((13 : Int) < (64 : Int))), ((0 : Int) ≤ (16 : Int)), ((8 : Int) ≠ 0), ((1 : Nat) < (8 : Nat)), (((0 : Int) ≤ (1 : Int)) ∧ ((1 : Int) < (8 : Int))), ((8 : Int) ≠ 0), (true = true), ((12 : Nat) < (64 : Nat)), (((0 : Int) ≤ (12 : Int)) ∧ ((12 : Int) < (64 : Int))), ((0 : Int) ≤ (24 : Int)), ((8 : Int) ≠ 0), ((1 : Nat) < (8 : Nat)), (((0 : Int) ≤ (1 : Int)) ∧ ((1 : Int) < (8 : Int))), ((8 : Int) ≠ 0), (true = true), ((11 : Nat) < (64 : Nat)), (((0 : Int) ≤ (11 : Int)) ∧ ((11 : Int) < (64 : Int))), ((0 : Int) ≤ (32 : Int)), ((8 : Int) ≠ 0), ((1 : Nat) < (8 : Nat)), (((0 : Int) ≤ (1 : Int)) ∧ ((1 : Int) < (8 : Int))), ((8 : Int) ≠ 0), (true = true), ((10 : Nat) < (64 : Nat)), (((0 : Int) ≤ (10 : Int)) ∧ ((10 : Int) < (64 : Int))), ((0 : Int) ≤ (40 : Int)), ((8 : Int) ≠ 0), ((1 : Nat) < (8 : Nat)), (((0 : Int) ≤ (1 : Int)) ∧ ((1 : Int) < (8 : Int))), ((8 : Int) ≠ 0), (true = true), ((9 : Nat) < (64 : Nat)), (((0 : Int) ≤ (9 : Int)) ∧ ((9 : Int) < (64 : Int))), ((0 : Int) ≤ (48 : Int)), ((8 : Int) ≠ 0), ((1 : Nat) < (8 : Nat)), (((0 : Int) ≤ (1 : Int)) ∧ ((1 : Int) < (8 : Int))), ((8 : Int) ≠ 0), (true = true), ((8 : Nat) < (64 : Nat)), (((0 : Int) ≤ (8 : Int)) ∧ ((8 : Int) < (64 : Int))), ((0 : Int) ≤ (56 : Int)), ((8 : Int) ≠ 0), ((1 : Nat) < (8 : Nat)), (((0 : Int) ≤ (1 : Int)) ∧ ((1 : Int) < (8 : Int))), ((8 : Int) ≠ 0), (true = true), ((7 : Nat) < (64 : Nat)), (((0 : Int) ≤ (7 : Int)) ∧ ((7 : Int) < (64 : Int))), ((0 : Int) ≤ (0 : Int)), ((8 : Int) ≠ 0), ((0 : Nat) < (8 : Nat)), (((0 : Int) ≤ (0 : Int)) ∧ ((0 : Int) < (8 : Int))), ((8 : Int) ≠ 0), (true = true), ((6 : Nat) < (64 : Nat)), (((0 : Int) ≤ (6 : Int)) ∧ ((6 : Int) < (64 : Int))), ((0 : Int) ≤ (8 : Int)), ((8 : Int) ≠ 0), ((0 : Nat) < (8 : Nat)), (((0 : Int) ≤ (0 : Int)) ∧ ((0 : Int) < (8 : Int))), ((8 : Int) ≠ 0), (true = true), ((5 : Nat) < (64 : Nat)), (((0 : Int) ≤ (5 : Int)) ∧ ((5 : Int) < (64 : Int))), ((0 : Int) ≤ (16 : Int)), ((8 : Int) ≠ 0), ((0 : Nat) < (8 : Nat)), (((0 : Int) ≤ (0 : Int)) ∧ ((0 : Int) < (8 : Int))), ((8 : Int) ≠ 0), (true = true), ((4 : Nat) < (64 : Nat)), (((0 : Int) ≤ (4 : Int)) ∧ ((4 : Int) < (64 : Int))), ((0 : Int) ≤ (24 : Int)), ((8 : Int) ≠ 0), ((0 : Nat) < (8 : Nat)), (((0 : Int) ≤ (0 : Int)) ∧ ((0 : Int) < (8 : Int))), ((8 : Int) ≠ 0), (true = true), ((3 : Nat) < (64 : Nat)), (((0 : Int) ≤ (3 : Int)) ∧ ((3 : Int) < (64 : Int))), ((0 : Int) ≤ (32 : Int)), ((8 : Int) ≠ 0), ((0 : Nat) < (8 : Nat)), (((0 : Int) ≤ (0 : Int)) ∧ ((0 : Int) < (8 : Int))), ((8 : Int) ≠ 0), (true = true), ((2 : Nat) < (64 : Nat)), (((0 : Int) ≤ (2 : Int)) ∧ ((2 : Int) < (64 : Int))), ((0 : Int) ≤ (40 : Int)), ((8 : Int) ≠ 0), ((0 : Nat) < (8 : Nat)), (((0 : Int) ≤ (0 : Int)) ∧ ((0 : Int) < (8 : Int))), ((8 : Int) ≠ 0), (true = true), ((1 : Nat) < (64 : Nat)), (((0 : Int) ≤ (1 : Int)) ∧ ((1 : Int) < (64 : Int))), ((0 : Int) ≤ (48 : Int)), ((8 : Int) ≠ 0), ((0 : Nat) < (8 : Nat)), (((0 : Int) ≤ (0 : Int)) ∧ ((0 : Int) < (8 : Int))), ((8 : Int) ≠ 0), (true = true), ((0 : Nat) < (64 : Nat)), (((0 : Int) ≤ (0 : Int)) ∧ ((0 : Int) < (64 : Int))), ((0 : Int) ≤ (56 : Int)), ((8 : Int) ≠ 0), ((0 : Nat) < (8 : Nat)), (((0 : Int) ≤ (0 : Int)) ∧ ((0 : Int) < (8 : Int))), ((8 : Int) ≠ 0), (true = true), (Run Try.prog ⟨w, rw, 3, β⟩ (.block 0 (.loop (loopB Try.f33 0))) (sumL_mk S tl N L C 0 (S)) (To ⟨w, rw, 3, β⟩ .normal (sumL_mk S tl N L C ((tl + (pad N)) / (128 : Nat)) (iter (sumL_step tl N L C) ((tl + (pad N)) / (128 : Nat)) (S))))), ((((pad N) ≤ (pad N)) ∧ (((0 : Nat) + (pad N)) ≤ (256 : Nat))) ∧ (okP (some ((((0 : Nat) + tl) + (pad N)) ≤ (512 : Nat)))) ∧ ((tl + (pad N)) ≤ (512 : Nat))), ((True ∧ True) ∧ True), ((((min tl tl) ≤ tl) ∧ (((0 : Nat) + (min tl tl)) ≤ tl)) ∧ (okP (some (((0 : Nat) + (min tl tl)) ≤ (512 : Nat))))), (((0 : Int) ≤ ((tl : Nat) : Int)) ∧ (((tl : Nat) : Int) ≤ (512 : Int)) ∧ ((512 : Int) ≤ (281474976710656 : Int))), (false = false), ((True ∧ True) ∧ (tl = tl))]) (by kernel_rfl)
    (aC rfl (aC (by decide) (aC ⟨(by decide), (by decide)⟩ (aC (by decide) (aC (by decide) (aC (by decide) (aC ⟨(by decide), (by decide)⟩ (aC (by decide) (aC rfl (aC (by decide) (aC ⟨(by decide), (by decide)⟩ (aC (by decide) (aC (by decide) (aC (by decide) (aC ⟨(by decide), (by decide)⟩ (aC (by decide) (aC rfl (aC (by decide) (aC ⟨(by decide), (by decide)⟩ (aC (by decide) (aC (by decide) (aC (by decide) (aC ⟨(by decide), (by decide)⟩ (aC (by decide) (aC rfl (aC (by decide) (aC ⟨(by decide), (by decide)⟩ (aC (by decide) (aC (by decide) (aC (by decide) (aC ⟨(by decide), (by decide)⟩ (aC (by decide) (aC rfl (aC (by decide) (aC ⟨(by decide), (by decide)⟩ (aC (by decide) (aC (by decide) (aC (by decide) (aC ⟨(by decide), (by decide)⟩ (aC (by decide) (aC rfl (aC (by decide) (aC ⟨(by decide), (by decide)⟩ (aC (by decide) (aC (by decide) (aC (by decide) (aC ⟨(by decide), (by decide)⟩ (aC (by decide) (aC rfl (aC (by decide) (aC ⟨(by decide), (by decide)⟩ (aC (by decide) (aC (by decide) (aC (by decide) (aC ⟨(by decide), (by decide)⟩ (aC (by decide) (aC rfl (aC (by decide) (aC ⟨(by decide), (by decide)⟩ (aC (by decide) (aC (by decide) (aC (by decide) (aC ⟨(by decide), (by decide)⟩ (aC (by decide) (aC rfl (aC (by decide) (aC ⟨(by decide), (by decide)⟩ (aC (by decide) (aC (by decide) (aC (by decide) (aC ⟨(by decide), (by decide)⟩ (aC (by decide) (aC rfl (aC (by decide) (aC ⟨(by decide), (by decide)⟩ (aC (by decide) (aC (by decide) (aC (by decide) (aC ⟨(by decide), (by decide)⟩ (aC (by decide) (aC rfl (aC (by decide) (aC ⟨(by decide), (by decide)⟩ (aC (by decide) (aC (by decide) (aC (by decide) (aC ⟨(by decide), (by decide)⟩ (aC (by decide) (aC rfl (aC (by decide) (aC ⟨(by decide), (by decide)⟩ (aC (by decide) (aC (by decide) (aC (by decide) (aC ⟨(by decide), (by decide)⟩ (aC (by decide) (aC rfl (aC (by decide) (aC ⟨(by decide), (by decide)⟩ (aC (by decide) (aC (by decide) (aC (by decide) (aC ⟨(by decide), (by decide)⟩ (aC (by decide) (aC rfl (aC (by decide) (aC ⟨(by decide), (by decide)⟩ (aC (by decide) (aC (by decide) (aC (by decide) (aC ⟨(by decide), (by decide)⟩ (aC (by decide) (aC rfl (aC (by decide) (aC ⟨(by decide), (by decide)⟩ (aC (by decide) (aC (by decide) (aC (by decide) (aC ⟨(by decide), (by decide)⟩ (aC (by decide) (aC rfl (aC (by decide) (aC ⟨(by decide), (by decide)⟩ (aC (by decide) (aC (by decide) (aC (by decide) (aC ⟨(by decide), (by decide)⟩ (aC (by decide) (aC rfl (aC (by decide) (aC ⟨(by decide), (by decide)⟩ (aC (by decide) (aC (by decide) (aC (by decide) (aC ⟨(by decide), (by decide)⟩ (aC (by decide) (aC rfl (aC (by decide) (aC ⟨(by decide), (by decide)⟩ (aC (by decide) (aC (by decide) (aC (by decide) (aC ⟨(by decide), (by decide)⟩ (aC (by decide) (aC rfl (aC (by decide) (aC ⟨(by decide), (by decide)⟩ (aC (by decide) (aC (by decide) (aC (by decide) (aC ⟨(by decide), (by decide)⟩ (aC (by decide) (aC rfl (aC (by decide) (aC ⟨(by decide), (by decide)⟩ (aC (by decide) (aC (by decide) (aC (by decide) (aC ⟨(by decide), (by decide)⟩ (aC (by decide) (aC rfl (aC (by decide) (aC ⟨(by decide), (by decide)⟩ (aC (by decide) (aC (by decide) (aC (by decide) (aC ⟨(by decide), (by decide)⟩ (aC (by decide) (aC rfl (aC (by decide) (aC ⟨(by decide), (by decide)⟩ (aC (by decide) (aC (by decide) (aC (by decide) (aC ⟨(by decide), (by decide)⟩ (aC (by decide) (aC rfl (aC (by decide) (aC ⟨(by decide), (by decide)⟩ (aC (by decide) (aC (by decide) (aC (by decide) (aC ⟨(by decide), (by decide)⟩ (aC (by decide) (aC rfl (aC (by decide) (aC ⟨(by decide), (by decide)⟩ (aC (by decide) (aC (by decide) (aC (by decide) (aC ⟨(by decide), (by decide)⟩ (aC (by decide) (aC rfl (aC (by decide) (aC ⟨(by decide), (by decide)⟩ (aC (by decide) (aC (by decide) (aC (by decide) (aC ⟨(by decide), (by decide)⟩ (aC (by decide) (aC rfl (aC (by decide) (aC ⟨(by decide), (by decide)⟩ (aC (by decide) (aC (by decide) (aC (by decide) (aC ⟨(by decide), (by decide)⟩ (aC (by decide) (aC rfl (aC (by decide) (aC ⟨(by decide), (by decide)⟩ (aC (by decide) (aC (by decide) (aC (by decide) (aC ⟨(by decide), (by decide)⟩ (aC (by decide) (aC rfl (aC (by decide) (aC ⟨(by decide), (by decide)⟩ (aC (by decide) (aC (by decide) (aC (by decide) (aC ⟨(by decide), (by decide)⟩ (aC (by decide) (aC rfl (aC (by decide) (aC ⟨(by decide), (by decide)⟩ (aC (by decide) (aC (by decide) (aC (by decide) (aC ⟨(by decide), (by decide)⟩ (aC (by decide) (aC rfl (aC (by decide) (aC ⟨(by decide), (by decide)⟩ (aC (by decide) (aC (by decide) (aC (by decide) (aC ⟨(by decide), (by decide)⟩ (aC (by decide) (aC rfl (aC (by decide) (aC ⟨(by decide), (by decide)⟩ (aC (by decide) (aC (by decide) (aC (by decide) (aC ⟨(by decide), (by decide)⟩ (aC (by decide) (aC rfl (aC (by decide) (aC ⟨(by decide), (by decide)⟩ (aC (by decide) (aC (by decide) (aC (by decide) (aC ⟨(by decide), (by decide)⟩ (aC (by decide) (aC rfl (aC (by decide) (aC ⟨(by decide), (by decide)⟩ (aC (by decide) (aC (by decide) (aC (by decide) (aC ⟨(by decide), (by decide)⟩ (aC (by decide) (aC rfl (aC (by decide) (aC ⟨(by decide), (by decide)⟩ (aC (by decide) (aC (by decide) (aC (by decide) (aC ⟨(by decide), (by decide)⟩ (aC (by decide) (aC rfl (aC (by decide) (aC ⟨(by decide), (by decide)⟩ (aC (by decide) (aC (by decide) (aC (by decide) (aC ⟨(by decide), (by decide)⟩ (aC (by decide) (aC rfl (aC (by decide) (aC ⟨(by decide), (by decide)⟩ (aC (by decide) (aC (by decide) (aC (by decide) (aC ⟨(by decide), (by decide)⟩ (aC (by decide) (aC rfl (aC (by decide) (aC ⟨(by decide), (by decide)⟩ (aC (by decide) (aC (by decide) (aC (by decide) (aC ⟨(by decide), (by decide)⟩ (aC (by decide) (aC rfl (aC (by decide) (aC ⟨(by decide), (by decide)⟩ (aC (by decide) (aC (by decide) (aC (by decide) (aC ⟨(by decide), (by decide)⟩ (aC (by decide) (aC rfl (aC (by decide) (aC ⟨(by decide), (by decide)⟩ (aC (by decide) (aC (by decide) (aC (by decide) (aC ⟨(by decide), (by decide)⟩ (aC (by decide) (aC rfl (aC (by decide) (aC ⟨(by decide), (by decide)⟩ (aC (by decide) (aC (by decide) (aC (by decide) (aC ⟨(by decide), (by decide)⟩ (aC (by decide) (aC rfl (aC (by decide) (aC ⟨(by decide), (by decide)⟩ (aC (by decide) (aC (by decide) (aC (by decide) (aC ⟨(by decide), (by decide)⟩ (aC (by decide) (aC rfl (aC (by decide) (aC ⟨(by decide), (by decide)⟩ (aC (by decide) (aC (by decide) (aC (by decide) (aC ⟨(by decide), (by decide)⟩ (aC (by decide) (aC rfl (aC (by decide) (aC ⟨(by decide), (by decide)⟩ (aC (by decide) (aC (by decide) (aC (by decide) (aC ⟨(by decide), (by decide)⟩ (aC (by decide) (aC rfl (aC (by decide) (aC ⟨(by decide), (by decide)⟩ (aC (by decide) (aC (by decide) (aC (by decide) (aC ⟨(by decide), (by decide)⟩ (aC (by decide) (aC rfl (aC (by decide) (aC ⟨(by decide), (by decide)⟩ (aC (by decide) (aC (by decide) (aC (by decide) (aC ⟨(by decide), (by decide)⟩ (aC (by decide) (aC rfl (aC (by decide) (aC ⟨(by decide), (by decide)⟩ (aC (by decide) (aC (by decide) (aC (by decide) (aC ⟨(by decide), (by decide)⟩ (aC (by decide) (aC rfl (aC (by decide) (aC ⟨(by decide), (by decide)⟩ (aC (by decide) (aC (by decide) (aC (by decide) (aC ⟨(by decide), (by decide)⟩ (aC (by decide) (aC rfl (aC (by decide) (aC ⟨(by decide), (by decide)⟩ (aC (by decide) (aC (by decide) (aC (by decide) (aC ⟨(by decide), (by decide)⟩ (aC (by decide) (aC rfl (aC (by decide) (aC ⟨(by decide), (by decide)⟩ (aC (by decide) (aC (by decide) (aC (by decide) (aC ⟨(by decide), (by decide)⟩ (aC (by decide) (aC rfl (aC (by decide) (aC ⟨(by decide), (by decide)⟩ (aC (by decide) (aC (by decide) (aC (by decide) (aC ⟨(by decide), (by decide)⟩ (aC (by decide) (aC rfl (aC (by decide) (aC ⟨(by decide), (by decide)⟩ (aC (by decide) (aC (by decide) (aC (by decide) (aC ⟨(by decide), (by decide)⟩ (aC (by decide) (aC rfl (aC (by decide) (aC ⟨(by decide), (by decide)⟩ (aC (by decide) (aC (by decide) (aC (by decide) (aC ⟨(by decide), (by decide)⟩ (aC (by decide) (aC rfl (aC (by decide) (aC ⟨(by decide), (by decide)⟩ (aC (by decide) (aC (by decide) (aC (by decide) (aC ⟨(by decide), (by decide)⟩ (aC (by decide) (aC rfl (aC (by decide) (aC ⟨(by decide), (by decide)⟩ (aC (by decide) (aC (by decide) (aC (by decide) (aC ⟨(by decide), (by decide)⟩ (aC (by decide) (aC rfl (aC (by decide) (aC ⟨(by decide), (by decide)⟩ (aC (by decide) (aC (by decide) (aC (by decide) (aC ⟨(by decide), (by decide)⟩ (aC (by decide) (aC rfl (aC (by decide) (aC ⟨(by decide), (by decide)⟩ (aC (by decide) (aC (by decide) (aC (by decide) (aC ⟨(by decide), (by decide)⟩ (aC (by decide) (aC rfl (aC (by decide) (aC ⟨(by decide), (by decide)⟩ (aC (by decide) (aC (by decide) (aC (by decide) (aC ⟨(by decide), (by decide)⟩ (aC (by decide) (aC rfl (aC (by decide) (aC ⟨(by decide), (by decide)⟩ (aC (by decide) (aC (by decide) (aC (by decide) (aC ⟨(by decide), (by decide)⟩ (aC (by decide) (aC rfl (aC (by decide) (aC ⟨(by decide), (by decide)⟩ (aC (by decide) (aC (by decide) (aC (by decide) (aC ⟨(by decide), (by decide)⟩ (aC (by decide) (aC rfl (aC (by decide) (aC ⟨(by decide), (by decide)⟩ (aC (by decide) (aC (by decide) (aC (by decide) (aC ⟨(by decide), (by decide)⟩ (aC (by decide) (aC rfl (aC (by decide) (aC ⟨(by decide), (by decide)⟩ (aC (by decide) (aC (by decide) (aC (by decide) (aC ⟨(by decide), (by decide)⟩ (aC (by decide) (aC rfl (aC (by decide) (aC ⟨(by decide), (by decide)⟩ (aC (by decide) (aC (by decide) (aC (by decide) (aC ⟨(by decide), (by decide)⟩ (aC (by decide) (aC rfl (aC (by decide) (aC ⟨(by decide), (by decide)⟩ (aC (by decide) (aC (by decide) (aC (by decide) (aC ⟨(by decide), (by decide)⟩ (aC (by decide) (aC rfl (aC (by decide) (aC ⟨(by decide), (by decide)⟩ (aC (by decide) (aC (by decide) (aC (by decide) (aC ⟨(by decide), (by decide)⟩ (aC (by decide) (aC rfl (aC (sumL_loop S tl N L C h0 h1 hl0_0 hl1_0 hl2_0 w rw β (S)) (aC ⟨⟨(by have hp1 := pad_le N; have hp2 := pad_mod h0 h1; first | omega | (simp (disch := omega) only [wrapI]; omega)), (by have hp1 := pad_le N; have hp2 := pad_mod h0 h1; first | omega | (simp (disch := omega) only [wrapI]; omega))⟩, (show ((((0 : Nat) + tl) + (pad N)) ≤ (512 : Nat)) from (by have hp1 := pad_le N; have hp2 := pad_mod h0 h1; first | omega | (simp (disch := omega) only [wrapI]; omega))), (by have hp1 := pad_le N; have hp2 := pad_mod h0 h1; first | omega | (simp (disch := omega) only [wrapI]; omega))⟩ (aC ⟨⟨trivial, trivial⟩, trivial⟩ (aC ⟨⟨(by have hp1 := pad_le N; have hp2 := pad_mod h0 h1; first | omega | (simp (disch := omega) only [wrapI]; omega)), (by have hp1 := pad_le N; have hp2 := pad_mod h0 h1; first | omega | (simp (disch := omega) only [wrapI]; omega))⟩, (show (((0 : Nat) + (min tl tl)) ≤ (512 : Nat)) from (by have hp1 := pad_le N; have hp2 := pad_mod h0 h1; first | omega | (simp (disch := omega) only [wrapI]; omega)))⟩ (aC ⟨(by have hp1 := pad_le N; have hp2 := pad_mod h0 h1; first | omega | (simp (disch := omega) only [wrapI]; omega)), (by have hp1 := pad_le N; have hp2 := pad_mod h0 h1; first | omega | (simp (disch := omega) only [wrapI]; omega)), (by decide)⟩ (aC rfl (aC ⟨⟨trivial, trivial⟩, rfl⟩ (AllP_nil)))))))))))))))))))))))))))))))))))))))))))))))))))))))))))))))))))))))))))))))))))))))))))))))))))))))))))))))))))))))))))))))))))))))))))))))))))))))))))))))))))))))))))))))))))))))))))))))))))))))))))))))))))))))))))))))))))))))))))))))))))))))))))))))))))))))))))))))))))))))))))))))))))))))))))))))))))))))))))))))))))))))))))))))))))))))))))))))))))))))))))))))))))))))))))))))))))))))))))))))))))))))))))))))))))))))))))))))))))))))))))))))))))))))))))))))))))))))))))))))))))))))))))))))))))))))))))))))))))))))))

theorem hsum_body (S : List Int) (tl : Nat) (N : Int) (L C : List Int) (h0 : ((0 : Int) ≤ N)) (h1 : ((Int.tmod N (128 : Int)) = ((tl : Nat) : Int))) (w : World) (rw : List Nat) (β : Env) : Body Try.prog (tabOf tabSG) Try.f33 ⟨w, rw, 3, β⟩ [.o (.a (.p 0 0))] [some ⟨false, [.ints .u64 (8 : Nat) S, .rs 1 0 tl 1, .i .u64 N, .p 2 0]⟩, some ⟨false, [.ints .u8 tl L]⟩, some ⟨false, [.ints .u64 (80 : Nat) C]⟩] (fun ys K' => ys = [.g [.ints .u8 (64 : Nat) (hsum S tl N L C)]] ∧ K' = [some ⟨false, [.ints .u64 (8 : Nat) S, .rs 1 0 tl 1, .i .u64 N, .p 2 0]⟩, some ⟨false, [.ints .u8 tl L]⟩, some ⟨false, [.ints .u64 (80 : Nat) C]⟩]) :=
  Body.lens (c := (Try.f33.body.getD .skip)) rfl fun h => hsum_body0 S tl N L C h0 h1 (h.lens 0 _ .u64 (8 : Nat) S rfl (by simp)) (h.lens 1 _ .u8 tl L rfl (by simp)) (h.lens 2 _ .u64 (80 : Nat) C rfl (by simp)) w rw β

def gam14 : Gam := gcall 33 [false, false, false] [.w] (fun wk vs args => match wk, vs, args with | [⟨false, [.ints .u64 (8 : Nat) S, .rs 1 0 tl 1, .i .u64 N, .p 2 0]⟩, ⟨false, [.ints .u8 tl_1 L]⟩, ⟨false, [.ints .u64 (80 : Nat) C]⟩], [], [.o (.a (.p 0 0))] => some ((tl_1 = tl) ∧ ((0 : Int) ≤ N) ∧ ((Int.tmod N (128 : Int)) = ((tl : Nat) : Int)), [.g [.ints .u8 (64 : Nat) (hsum S tl N L C)]], [some ⟨false, [.ints .u64 (8 : Nat) S, .rs 1 0 tl 1, .i .u64 N, .p 2 0]⟩, some ⟨false, [.ints .u8 tl L]⟩, some ⟨false, [.ints .u64 (80 : Nat) C]⟩]) | _, _, _ => none) gam13
theorem gam14_ok : GamOk Try.prog gam14 := gcall_ok tabOkSG Try.func33 gam13_ok Try.call33 (by
  intro wk vs args p xs K1 h hv
  split at h
  · simp only [Option.some.injEq, Prod.mk.injEq] at h; obtain ⟨rfl, rfl, rfl⟩ := h; obtain ⟨g0, g1, g2⟩ := hv; subst g0; exact fun caps w rw β => hsum_body _ _ _ _ _ g1 g2 w rw β
  · simp at h)

end Go.Proofs.Ytepimglipelpmaa.X

/- Plain lemmas for the walks of State, Pad, Join. -/
namespace Go.Proofs.Ytepimglipelpmaa.X
open Go Go.Proofs

theorem wr_inv {N : Int} {tl n : Nat} (h0 : 0 ≤ N) (h : Int.tmod N 128 = ((tl : Nat) : Int)) (hn : n < 140737488355328) : 0 ≤ wrN N n ∧ Int.tmod (wrN N n) 128 = ((wrT tl n : Nat) : Int) ∧ wrT tl n < 128 := by
  have h1 : (0 : Int) ≤ wrN N n := wrap_nn rfl
  refine ⟨h1, ?_, by unfold wrT; omega⟩
  rw [Int.tmod_eq_emod_of_nonneg h1]
  rw [Int.tmod_eq_emod_of_nonneg h0] at h
  unfold wrN wrT
  rw [wrapU (x := (n : Int)) (by omega) (by omega)]
  show (let m := (N + (n : Int)) % (18446744073709551616 : Int); if (false && decide (m ≥ (9223372036854775808 : Int))) = true then m - 18446744073709551616 else m) % 128 = _
  simp only [Bool.false_and, Bool.false_eq_true, if_false]
  omega

theorem wr_inv0 {n : Nat} (hn : n < 140737488355328) : 0 ≤ wrN 0 n ∧ Int.tmod (wrN 0 n) 128 = ((wrT 0 n : Nat) : Int) ∧ wrT 0 n < 128 := wr_inv (Int.le_refl 0) rfl hn

end Go.Proofs.Ytepimglipelpmaa.X

/- Printed by a tool of this session. -/
namespace Go.Proofs.Ytepimglipelpmaa.X
open Go Go.Proofs
set_option linter.unusedVariables false
set_option linter.unusedSimpArgs false
set_option maxRecDepth 100000
theorem teSJ_22 : TEOk Try.prog 22 ⟨.slice 5, 1, 24, [.raw (.slice none 0 0)], false⟩ :=
  TEOk.of Try.underlying22 (i := Try.t22) (by kernel_rfl) rfl rfl rfl (by kernel_rfl) (fun h => by cases h) (by kernel_rfl)
theorem teSJ_23 : TEOk Try.prog 23 ⟨.slice 22, 1, 24, [.raw (.slice none 0 0)], false⟩ :=
  TEOk.of Try.underlying23 (i := Try.t23) (by kernel_rfl) rfl rfl rfl (by kernel_rfl) (fun h => by cases h) (by kernel_rfl)
theorem teSJ_42 : TEOk Try.prog 42 ⟨.array 64 5, 64, 64, [.ints .u8 (64 : Nat) ([0, 0, 0, 0, 0, 0, 0, 0, 0, 0, 0, 0, 0, 0, 0, 0, 0, 0, 0, 0, 0, 0, 0, 0, 0, 0, 0, 0, 0, 0, 0, 0, 0, 0, 0, 0, 0, 0, 0, 0, 0, 0, 0, 0, 0, 0, 0, 0, 0, 0, 0, 0, 0, 0, 0, 0, 0, 0, 0, 0, 0, 0, 0, 0] : List Int)], true⟩ :=
  TEOk.of Try.underlying42 (i := Try.t42) (by kernel_rfl) rfl rfl rfl (by kernel_rfl) (fun _ => Try.eqGuardType42) (by kernel_rfl)
noncomputable def tabSJ : List (Nat × TE) := [(22, ⟨.slice 5, 1, 24, [.raw (.slice none 0 0)], false⟩), (23, ⟨.slice 22, 1, 24, [.raw (.slice none 0 0)], false⟩), (42, ⟨.array 64 5, 64, 64, [.ints .u8 (64 : Nat) ([0, 0, 0, 0, 0, 0, 0, 0, 0, 0, 0, 0, 0, 0, 0, 0, 0, 0, 0, 0, 0, 0, 0, 0, 0, 0, 0, 0, 0, 0, 0, 0, 0, 0, 0, 0, 0, 0, 0, 0, 0, 0, 0, 0, 0, 0, 0, 0, 0, 0, 0, 0, 0, 0, 0, 0, 0, 0, 0, 0, 0, 0, 0, 0] : List Int)], true⟩)]
theorem tabOkSJ : TabOk Try.prog (tabOf tabSJ) := (tabOf_cons teSJ_22 (tabOf_cons teSJ_23 (tabOf_cons teSJ_42 tabOf_nil)))

def join1 (n : Nat) (b : List Int) : List Int :=
  (hsum (wrS (konst) ([7640891576956012808, 13503953896175478587, 4354685564936845355, 11912009170470909681, 5840696475078001361, 11170449401992604703, 2270897969802886507, 6620516959819538809] : List Int) ([] : List Int) (sub b 0 n) (0 : Nat) n) (wrT (0 : Nat) n) (wrN (0 : Int) n) (wrL ([] : List Int) (sub b 0 n) (0 : Nat) n) (konst))

set_option maxHeartbeats 1000000 in
theorem join1_body0 (n cp : Nat) (b : List Int) (h0 : (n < (140737488355328 : Nat))) (hl1_0 : List.length b = n) (w : World) (rw : List Nat) (β : Env) : Body Try.prog (tabOf tabSJ) Try.f13 ⟨w, rw, 2, β⟩ [.o (.a (.sl 0 0 (1 : Nat) (1 : Nat)))] [some ⟨false, [.sl 1 0 n cp]⟩, some ⟨false, [.ints .u8 n b]⟩] (fun ys K' => ys = [.g [.ints .u8 (64 : Nat) (join1 n b)]] ∧ K' = [some ⟨false, [.sl 1 0 n cp]⟩, some ⟨false, [.ints .u8 n b]⟩]) :=
  Body.of_finK (Γ := gam14) (Λ := noLam) (Ψ := noPsi) (fuel := 2) (m := 19) (c := (Try.f13.body.getD .skip)) mix tabOkSJ gam14_ok rfl (rs := [.cell 2 42]) rfl rfl [true, false] [] 2
    (vc := [((True ∧ True) ∧ (((wrT (0 : Nat) n) = (wrT (0 : Nat) n)) ∧ ((0 : Int) ≤ (wrN (0 : Int) n)) ∧ ((Int.tmod (wrN (0 : Int) n) (128 : Int)) = (((wrT (0 : Nat) n) : Nat) : Int)))), (false = false), ((True ∧ ((((0 : Nat) + n) ≤ n) ∧ True)) ∧ (((0 : Nat) = (0 : Nat)) ∧ (n = n) ∧ ((0 : Nat) < (128 : Nat)) ∧ (n < (140737488355328 : Nat)))), (((0 : Int) ≤ (0 : Int)) ∧ ((0 : Int) < (1 : Int))), (true = true), (True ∧ True)]) (by kernel_rfl)
    (aC ⟨⟨trivial, trivial⟩, ⟨rfl, (by have hj := wr_inv0 h0; first | omega | exact hj.1 | exact hj.2.1 | (simp (disch := omega) only [wrapI]; omega)), (by have hj := wr_inv0 h0; first | omega | exact hj.1 | exact hj.2.1 | (simp (disch := omega) only [wrapI]; omega))⟩⟩ (aC rfl (aC ⟨⟨trivial, ⟨(by have hj := wr_inv0 h0; first | omega | exact hj.1 | exact hj.2.1 | (simp (disch := omega) only [wrapI]; omega)), trivial⟩⟩, ⟨rfl, rfl, (by decide), h0⟩⟩ (aC ⟨(by decide), (by decide)⟩ (aC rfl (aC ⟨trivial, trivial⟩ (AllP_nil)))))))

theorem join1_body (n cp : Nat) (b : List Int) (h0 : (n < (140737488355328 : Nat))) (w : World) (rw : List Nat) (β : Env) : Body Try.prog (tabOf tabSJ) Try.f13 ⟨w, rw, 2, β⟩ [.o (.a (.sl 0 0 (1 : Nat) (1 : Nat)))] [some ⟨false, [.sl 1 0 n cp]⟩, some ⟨false, [.ints .u8 n b]⟩] (fun ys K' => ys = [.g [.ints .u8 (64 : Nat) (join1 n b)]] ∧ K' = [some ⟨false, [.sl 1 0 n cp]⟩, some ⟨false, [.ints .u8 n b]⟩]) :=
  Body.lens (c := (Try.f13.body.getD .skip)) rfl fun h => join1_body0 n cp b h0 (h.lens 1 _ .u8 n b rfl (by simp)) w rw β

def gam16 : Gam := gcall 13 [false, false] [.w] (fun wk vs args => match wk, vs, args with | [⟨false, [.sl 1 0 n cp]⟩, ⟨false, [.ints .u8 n_1 b]⟩], [], [.o (.a (.sl 0 0 (1 : Nat) (1 : Nat)))] => some ((n_1 = n) ∧ (n < (140737488355328 : Nat)), [.g [.ints .u8 (64 : Nat) (join1 n b)]], [some ⟨false, [.sl 1 0 n cp]⟩, some ⟨false, [.ints .u8 n b]⟩]) | _, _, _ => none) gam14
theorem gam16_ok : GamOk Try.prog gam16 := gcall_ok tabOkSJ Try.func13 gam14_ok Try.call13 (by
  intro wk vs args p xs K1 h hv
  split at h
  · simp only [Option.some.injEq, Prod.mk.injEq] at h; obtain ⟨rfl, rfl, rfl⟩ := h; obtain ⟨g0, g1⟩ := hv; subst g0; exact fun caps w rw β => join1_body _ _ _ g1 w rw β
  · simp at h)

set_option maxHeartbeats 1000000 in
theorem sum_body0 (n nm : Nat) (b : List Int) (cap0 : Nat) (h0 : (nm = n)) (h1 : (n < (140737488355328 : Nat))) (hc0 : n ≤ cap0) (hl0_0 : List.length b = nm) (w : World) (β : Env) : Body Try.prog (tabOf tabSJ) Try.f11 ⟨w, [], 1, β⟩ [.o (.a (.sl 0 0 n cap0))] [some ⟨false, [.ints .u8 nm b]⟩] (fun ys _ => ys = [.g [.ints .u8 (64 : Nat) (join1 n b)]]) :=
  Body.of_fin (Γ := gam16) (Λ := noLam) (Ψ := noPsi) (fuel := 0) (m := 6) (c := (Try.f11.body.getD .skip)) mix tabOkSJ gam16_ok rfl (rs := [.cell 2 42]) rfl rfl [] []
    (vc := [((True ∧ True) ∧ ((nm = n) ∧ (n < (140737488355328 : Nat))))]) (by kernel_rfl)
    (aC ⟨⟨trivial, trivial⟩, ⟨h0, h1⟩⟩ (AllP_nil))

theorem sum_body (n nm : Nat) (b : List Int) (cap0 : Nat) (h0 : (nm = n)) (h1 : (n < (140737488355328 : Nat))) (w : World) (β : Env) : Body Try.prog (tabOf tabSJ) Try.f11 ⟨w, [], 1, β⟩ [.o (.a (.sl 0 0 n cap0))] [some ⟨false, [.ints .u8 nm b]⟩] (fun ys _ => ys = [.g [.ints .u8 (64 : Nat) (join1 n b)]]) :=
  Body.lens (c := (Try.f11.body.getD .skip)) rfl fun h => sum_body0 n nm b cap0 h0 h1 (h.caps 0 _ _ _ _ rfl) (h.lens 0 _ .u8 nm b rfl (by simp)) w β

def gam17 : Gam := greadV 11 [.s 1] (fun vs args => match vs, args with | [⟨_, _, _, [.ints .u8 nm b]⟩], [a0] => some ((nm = (lenOfA a0)) ∧ ((lenOfA a0) < (140737488355328 : Nat)), [.g [.ints .u8 (64 : Nat) (join1 (lenOfA a0) b)]]) | _, _ => none) gam16
theorem gam17_ok : GamOk Try.prog gam17 := greadV_ok tabOkSJ Try.func11 gam16_ok Try.call11 (by
  intro vs args p xs h hv
  split at h
  · simp only [Option.some.injEq, Prod.mk.injEq] at h; obtain ⟨rfl, rfl⟩ := h; exact ⟨by rfl, fun caps w β => sum_body _ _ _ _ hv.1 hv.2 w β⟩
  · simp at h)

end Go.Proofs.Ytepimglipelpmaa.X

/- Printed by a tool of this session. -/
namespace Go.Proofs.Ytepimglipelpmaa.X
open Go Go.Proofs
set_option linter.unusedVariables false
set_option linter.unusedSimpArgs false
set_option maxRecDepth 100000
theorem teSQ_3 : TEOk Try.prog 3 ⟨.int .i64, 1, 8, [.i .i64 (0 : Int)], false⟩ :=
  TEOk.of Try.underlying3 (i := Try.t3) (by kernel_rfl) rfl rfl rfl (by kernel_rfl) (fun h => by cases h) (by kernel_rfl)
theorem teSQ_5 : TEOk Try.prog 5 ⟨.int .u8, 1, 1, [.i .u8 (0 : Int)], false⟩ :=
  TEOk.of Try.underlying5 (i := Try.t5) (by kernel_rfl) rfl rfl rfl (by kernel_rfl) (fun h => by cases h) (by kernel_rfl)
theorem teSQ_22 : TEOk Try.prog 22 ⟨.slice 5, 1, 24, [.raw (.slice none 0 0)], false⟩ :=
  TEOk.of Try.underlying22 (i := Try.t22) (by kernel_rfl) rfl rfl rfl (by kernel_rfl) (fun h => by cases h) (by kernel_rfl)
noncomputable def tabSQ : List (Nat × TE) := [(3, ⟨.int .i64, 1, 8, [.i .i64 (0 : Int)], false⟩), (5, ⟨.int .u8, 1, 1, [.i .u8 (0 : Int)], false⟩), (22, ⟨.slice 5, 1, 24, [.raw (.slice none 0 0)], false⟩)]
theorem tabOkSQ : TabOk Try.prog (tabOf tabSQ) := (tabOf_cons teSQ_3 (tabOf_cons teSQ_5 (tabOf_cons teSQ_22 tabOf_nil)))

def markB (i k : Int) : Int :=
  (IntKind.u8.wrap (IntKind.i64.wrap ((IntKind.i64.wrap ((IntKind.i64.wrap (i * (31 : Int))) + (IntKind.i64.wrap (k * (7 : Int))))) + (5 : Int))))

set_option maxHeartbeats 1000000 in
theorem markB_body0 (i k : Int) (w : World) : Body Try.prog (tabOf tabSQ) Try.f43 ⟨w, [], 0, noEnv⟩ (toA [.a (.i .i64 i), .a (.i .i64 k)]) [] (fun ys _ => ys = [.a (.i .u8 (markB i k))]) :=
  Body.of_fin (Γ := gam17) (Λ := noLam) (Ψ := noPsi) (fuel := 0) (m := 12) (c := (Try.f43.body.getD .skip)) mix tabOkSQ gam17_ok rfl (rs := [.tmp 4]) rfl rfl [] []
    (vc := []) (by kernel_rfl)
    (AllP_nil)

theorem markB_body (i k : Int) (w : World) : Body Try.prog (tabOf tabSQ) Try.f43 ⟨w, [], 0, noEnv⟩ (toA [.a (.i .i64 i), .a (.i .i64 k)]) [] (fun ys _ => ys = [.a (.i .u8 (markB i k))]) :=
  Body.lens (c := (Try.f43.body.getD .skip)) rfl fun h => markB_body0 i k  w

theorem markB_pure (i k : Int) : PureC Try.prog 43 [.a (.i .i64 i), .a (.i .i64 k)] [.a (.i .u8 (markB i k))] :=
  PureC.of_body tabOkSQ Try.func43 rfl rfl fun w => markB_body i k w

def gam301 : Gam := gpure 43 (fun args => match args with | [.o (.a (.i .i64 i)), .o (.a (.i .i64 k))] => some (none, [.a (.i .u8 (markB i k))]) | _ => none) gam17
theorem gam301_ok : GamOk Try.prog gam301 := gpure_ok gam17_ok Try.call43 (by
  intro args vc xs h hv
  split at h
  · simp only [Option.some.injEq, Prod.mk.injEq] at h; obtain ⟨rfl, rfl⟩ := h; exact ⟨_, by rfl, markB_pure _ _⟩
  · simp at h)

def copyBr (n : Nat) (b : List Int) : List Int :=
  (sub b 0 n)

set_option maxHeartbeats 1000000 in
theorem copyBr_body0 (n nm : Nat) (b : List Int) (cap0 : Nat) (h0 : (nm = n)) (h1 : (n < (140737488355328 : Nat))) (hc0 : n ≤ cap0) (hl0_0 : List.length b = nm) (w : World) (rw : List Nat) (β : Env) : Body Try.prog (tabOf tabSQ) Try.f39 ⟨w, rw, 1, β⟩ [.o (.a (.sl 0 0 n cap0))] [some ⟨false, [.ints .u8 nm b]⟩] (fun ys K' => ys = [.a (.rs 1 0 n 1)] ∧ K' = [some ⟨false, [.ints .u8 nm b]⟩, some ⟨true, [.ints .u8 n (copyBr n b)]⟩]) :=
  Body.of_finK (Γ := gam301) (Λ := noLam) (Ψ := noPsi) (fuel := 0) (m := 8) (c := (Try.f39.body.getD .skip)) mix tabOkSQ gam301_ok rfl (rs := [.tmp 2]) rfl rfl [false] [] 2
    (vc := [(((n ≤ n) ∧ (((0 : Nat) + n) ≤ nm)) ∧ ((n * (1 : Nat)) ≤ (140737488355328 : Nat)))]) (by kernel_rfl)
    (aC ⟨⟨(by first | omega | (simp (disch := omega) only [wrapI]; omega)), (by first | omega | (simp (disch := omega) only [wrapI]; omega))⟩, (by first | omega | (simp (disch := omega) only [wrapI]; omega))⟩ (AllP_nil))

theorem copyBr_body (n nm : Nat) (b : List Int) (cap0 : Nat) (h0 : (nm = n)) (h1 : (n < (140737488355328 : Nat))) (w : World) (rw : List Nat) (β : Env) : Body Try.prog (tabOf tabSQ) Try.f39 ⟨w, rw, 1, β⟩ [.o (.a (.sl 0 0 n cap0))] [some ⟨false, [.ints .u8 nm b]⟩] (fun ys K' => ys = [.a (.rs 1 0 n 1)] ∧ K' = [some ⟨false, [.ints .u8 nm b]⟩, some ⟨true, [.ints .u8 n (copyBr n b)]⟩]) :=
  Body.lens (c := (Try.f39.body.getD .skip)) rfl fun h => copyBr_body0 n nm b cap0 h0 h1 (h.caps 0 _ _ _ _ rfl) (h.lens 0 _ .u8 nm b rfl (by simp)) w rw β

def gam302 : Gam := gcall 39 [] [.s 1] (fun wk vs args => match wk, vs, args with | [], [⟨_, _, _, [.ints .u8 nm b]⟩], [.o (.a (.sl 0 0 n _))] => some ((nm = n) ∧ (n < (140737488355328 : Nat)), [.a (.rs 1 0 n 1)], [some ⟨false, [.ints .u8 nm b]⟩, some ⟨true, [.ints .u8 n (copyBr n b)]⟩]) | _, _, _ => none) gam301
theorem gam302_ok : GamOk Try.prog gam302 := gcall_ok tabOkSQ Try.func39 gam301_ok Try.call39 (by
  intro wk vs args p xs K1 h hv
  split at h
  · simp only [Option.some.injEq, Prod.mk.injEq] at h; obtain ⟨rfl, rfl, rfl⟩ := h; obtain ⟨g0, g1⟩ := hv; exact fun caps w rw β => copyBr_body _ _ _ _ g0 g1 w rw β
  · simp at h)

def sameL_mk (n nm : Nat) (b : List Int) (m mm : Nat) (c : List Int) (cap0 cap1 k : Nat) (s : Unit) : St := ⟨sparse 26 [(0, .o (.a (.sl 0 0 n cap0))), (1, .o (.a (.sl 1 0 m cap1))), (5, .o (.a (.i .i64 ((k : Nat) : Int)))), (6, .o (.a (.sl 0 0 n cap0))), (7, .o (.a (.i .i64 ((n : Nat) : Int)))), (8, .o (.a (.sl 1 0 m cap1))), (9, .o (.a (.i .i64 ((m : Nat) : Int)))), (10, .o (.a (.b (((n : Nat) : Int) != ((m : Nat) : Int)))))], [some ⟨false, [.ints .u8 nm b]⟩, some ⟨false, [.ints .u8 mm c]⟩]⟩

def sameL_step (k : Nat) (s : Unit) : Unit :=
  ()

set_option maxHeartbeats 1000000 in
theorem sameL_round (n nm : Nat) (b : List Int) (m mm : Nat) (c : List Int) (cap0 cap1 : Nat) (h0 : (nm = n)) (h1 : (mm = m)) (h2 : (m = n)) (h3 : (b = c)) (h4 : (n < (4611686018427387904 : Nat))) (hc0 : n ≤ cap0) (hc1 : m ≤ cap1) (hl0_0 : List.length b = nm) (hl1_0 : List.length c = mm) (w : World) (β : Env) (k : Nat) (hk : k < n) (s : Unit) : Run Try.prog ⟨w, [], 2, β⟩ (loopB Try.f24 0) (sameL_mk n nm b m mm c cap0 cap1 k s) (To ⟨w, [], 2, β⟩ .normal (sameL_mk n nm b m mm c cap0 cap1 (k + 1) (sameL_step k s))) := by
  have e0 : (IntKind.i64.wrap (((k : Nat) : Int) + (1 : Int))) = (((k + (1 : Nat)) : Nat) : Int) := (by first | rfl | exact wrap_succ (by omega) | omega | (simp (disch := omega) only [wrapI]; omega))
  have h := Run.of_outT (B := ⟨w, [], 2, β⟩) (Λ := noLam) (Ψ := noPsi) (fuel := 0) (ora := [true, false]) (c := (loopB Try.f24 0)) (st := (sameL_mk n nm b m mm c cap0 cap1 k s)) (l := [.forget [0, 1, 5, 6, 7, 8, 9, 10] 2]) (s' := ⟨sparse 26 [(0, .o (.a (.sl 0 0 n cap0))), (1, .o (.a (.sl 1 0 m cap1))), (5, .o (.a (.i .i64 (IntKind.i64.wrap (((k : Nat) : Int) + (1 : Int)))))), (6, .o (.a (.sl 0 0 n cap0))), (7, .o (.a (.i .i64 ((n : Nat) : Int)))), (8, .o (.a (.sl 1 0 m cap1))), (9, .o (.a (.i .i64 ((m : Nat) : Int)))), (10, .o (.a (.b (((n : Nat) : Int) != ((m : Nat) : Int)))))], [some ⟨false, [.ints .u8 nm b]⟩, some ⟨false, [.ints .u8 mm c]⟩]⟩) (ex := .normal) mix tabOkSQ gam302_ok
    (vc := [(((List.getD b k 0) != (List.getD c k 0)) = false), (k < mm), (((0 : Int) ≤ ((k : Nat) : Int)) ∧ (((k : Nat) : Int) < ((m : Nat) : Int))), (k < nm), (((0 : Int) ≤ ((k : Nat) : Int)) ∧ (((k : Nat) : Int) < ((n : Nat) : Int))), ((decide (((k : Nat) : Int) < ((n : Nat) : Int))) = true)]) (by kernel_rfl)
    (aC (bne_eq_false_iff_eq.2 (by rw [h3])) (aC (by first | omega | (simp (disch := omega) only [wrapI]; omega)) (aC ⟨(by first | omega | (simp (disch := omega) only [wrapI]; omega)), (by first | omega | (simp (disch := omega) only [wrapI]; omega))⟩ (aC (by first | omega | (simp (disch := omega) only [wrapI]; omega)) (aC ⟨(by first | omega | (simp (disch := omega) only [wrapI]; omega)), (by first | omega | (simp (disch := omega) only [wrapI]; omega))⟩ (aC (decide_eq_true (by first | omega | (simp (disch := omega) only [wrapI]; omega))) (AllP_nil)))))))
  rw [e0] at h
  exact h

set_option maxHeartbeats 1000000 in
theorem sameL_last (n nm : Nat) (b : List Int) (m mm : Nat) (c : List Int) (cap0 cap1 : Nat) (h0 : (nm = n)) (h1 : (mm = m)) (h2 : (m = n)) (h3 : (b = c)) (h4 : (n < (4611686018427387904 : Nat))) (hc0 : n ≤ cap0) (hc1 : m ≤ cap1) (hl0_0 : List.length b = nm) (hl1_0 : List.length c = mm) (w : World) (β : Env) (s : Unit) : Run Try.prog ⟨w, [], 2, β⟩ (loopB Try.f24 0) (sameL_mk n nm b m mm c cap0 cap1 n s) (To ⟨w, [], 2, β⟩ (.exit 0) (sameL_mk n nm b m mm c cap0 cap1 n s)) :=
  Run.of_outT (B := ⟨w, [], 2, β⟩) (Λ := noLam) (Ψ := noPsi) (fuel := 0) (ora := [false]) (l := [.forget [0, 1, 5, 6, 7, 8, 9, 10] 2]) mix tabOkSQ gam302_ok
    (vc := [((decide (((n : Nat) : Int) < ((n : Nat) : Int))) = false)]) (by kernel_rfl)
    (aC (decide_eq_false (by first | omega | (simp (disch := omega) only [wrapI]; omega))) (AllP_nil))

theorem sameL_loop (n nm : Nat) (b : List Int) (m mm : Nat) (c : List Int) (cap0 cap1 : Nat) (h0 : (nm = n)) (h1 : (mm = m)) (h2 : (m = n)) (h3 : (b = c)) (h4 : (n < (4611686018427387904 : Nat))) (hc0 : n ≤ cap0) (hc1 : m ≤ cap1) (hl0_0 : List.length b = nm) (hl1_0 : List.length c = mm) (w : World) (β : Env) (s : Unit) : Run Try.prog ⟨w, [], 2, β⟩ (.block 0 (.loop (loopB Try.f24 0))) (sameL_mk n nm b m mm c cap0 cap1 0 s) (To ⟨w, [], 2, β⟩ .normal (sameL_mk n nm b m mm c cap0 cap1 n (iter (sameL_step) n s))) :=
  Run.count (fun k => sameL_mk n nm b m mm c cap0 cap1 k (iter (sameL_step) k s)) n (fun k hk => sameL_round n nm b m mm c cap0 cap1 h0 h1 h2 h3 h4 hc0 hc1 hl0_0 hl1_0 w β k hk _) (ex := (.exit 0)) (by simp) (sameL_last n nm b m mm c cap0 cap1 h0 h1 h2 h3 h4 hc0 hc1 hl0_0 hl1_0 w β _)

set_option maxHeartbeats 1000000 in
theorem same_body0 (n nm : Nat) (b : List Int) (m mm : Nat) (c : List Int) (cap0 cap1 : Nat) (h0 : (nm = n)) (h1 : (mm = m)) (h2 : (m = n)) (h3 : (b = c)) (h4 : (n < (4611686018427387904 : Nat))) (hc0 : n ≤ cap0) (hc1 : m ≤ cap1) (hl0_0 : List.length b = nm) (hl1_0 : List.length c = mm) (w : World) (β : Env) : Body Try.prog (tabOf tabSQ) Try.f24 ⟨w, [], 2, β⟩ [.o (.a (.sl 0 0 n cap0)), .o (.a (.sl 1 0 m cap1))] [some ⟨false, [.ints .u8 nm b]⟩, some ⟨false, [.ints .u8 mm c]⟩] (fun ys _ => ys = [.a (.b true)]) :=
  Body.of_fin (Γ := gam302) (Λ := lamOf [(0, ⟨[.forget [0, 1, 5, 6, 7, 8, 9, 10] 2], .normal, (sameL_mk n nm b m mm c cap0 cap1 n (iter (sameL_step) n ()))⟩)]) (Ψ := noPsi) (fuel := 0) (m := 26) (c := (Try.f24.body.getD .skip)) mix tabOkSQ gam302_ok rfl (rs := [.tmp 4]) rfl rfl [false] []
    (vc := [(Run Try.prog ⟨w, [], 2, β⟩ (.block 0 (.loop (loopB Try.f24 0))) (sameL_mk n nm b m mm c cap0 cap1 0 ()) (To ⟨w, [], 2, β⟩ .normal (sameL_mk n nm b m mm c cap0 cap1 n (iter (sameL_step) n ())))), ((((n : Nat) : Int) != ((m : Nat) : Int)) = false)]) (by kernel_rfl)
    (aC (sameL_loop n nm b m mm c cap0 cap1 h0 h1 h2 h3 h4 hc0 hc1 hl0_0 hl1_0 w β ()) (aC (bne_eq_false_iff_eq.2 (by first | omega | (simp (disch := omega) only [wrapI]; omega))) (AllP_nil)))

theorem same_body (n nm : Nat) (b : List Int) (m mm : Nat) (c : List Int) (cap0 cap1 : Nat) (h0 : (nm = n)) (h1 : (mm = m)) (h2 : (m = n)) (h3 : (b = c)) (h4 : (n < (4611686018427387904 : Nat))) (w : World) (β : Env) : Body Try.prog (tabOf tabSQ) Try.f24 ⟨w, [], 2, β⟩ [.o (.a (.sl 0 0 n cap0)), .o (.a (.sl 1 0 m cap1))] [some ⟨false, [.ints .u8 nm b]⟩, some ⟨false, [.ints .u8 mm c]⟩] (fun ys _ => ys = [.a (.b true)]) :=
  Body.lens (c := (Try.f24.body.getD .skip)) rfl fun h => same_body0 n nm b m mm c cap0 cap1 h0 h1 h2 h3 h4 (h.caps 0 _ _ _ _ rfl) (h.caps 1 _ _ _ _ rfl) (h.lens 0 _ .u8 nm b rfl (by simp)) (h.lens 1 _ .u8 mm c rfl (by simp)) w β

def gam303 : Gam := greadV 24 [.s 1, .s 1] (fun vs args => match vs, args with | [⟨_, _, _, [.ints .u8 nm b]⟩, ⟨_, _, _, [.ints .u8 mm c]⟩], [a0, a1] => some ((nm = (lenOfA a0)) ∧ (mm = (lenOfA a1)) ∧ ((lenOfA a1) = (lenOfA a0)) ∧ (b = c) ∧ ((lenOfA a0) < (4611686018427387904 : Nat)), [.a (.b true)]) | _, _ => none) gam302
theorem gam303_ok : GamOk Try.prog gam303 := greadV_ok tabOkSQ Try.func24 gam302_ok Try.call24 (by
  intro vs args p xs h hv
  split at h
  · simp only [Option.some.injEq, Prod.mk.injEq] at h; obtain ⟨rfl, rfl⟩ := h; exact ⟨by rfl, fun caps w β => same_body _ _ _ _ _ _ _ _ hv.1 hv.2.1 hv.2.2.1 hv.2.2.2.1 hv.2.2.2.2 w β⟩
  · simp at h)

end Go.Proofs.Ytepimglipelpmaa.X

/- Plain lemmas for the walk of the document's Pad. -/
namespace Go.Proofs.Ytepimglipelpmaa.X
open Go Go.Proofs
set_option linter.unusedVariables false

theorem padE_val {n : Int} (h0 : 0 ≤ n) : padE n = 1 + (239 - n % 128) % 128 := by
  unfold padE
  rw [Int.tmod_eq_emod_of_nonneg h0, wrapU (x := 239 - n % 128) (by omega) (by omega), Int.tmod_eq_emod_of_nonneg (by omega), wrapU (by omega) (by omega)]

theorem padR_at {n : Int} {k : Nat} (h0 : 0 ≤ n) (h1 : n < 2305843009213693952) (hk : k ≤ 128) :
    Int.tmod (IntKind.u64.wrap (n + (IntKind.u64.wrap ((((1 : Nat) + k) : Nat) : Int)))) (128 : Int) = (n + 1 + k) % 128 := by
  rw [wrapU (x := (((1 + k : Nat) : Nat) : Int)) (by omega) (by omega), wrapU (by omega) (by omega), Int.tmod_eq_emod_of_nonneg (by omega)]
  congr 1; omega

theorem padR_ne {n : Int} {k : Nat} (h0 : 0 ≤ n) (h1 : n < 2305843009213693952) (hk : k < (padE n).toNat - 1) :
    Int.tmod (IntKind.u64.wrap (n + (IntKind.u64.wrap ((((1 : Nat) + k) : Nat) : Int)))) (128 : Int) ≠ 112 := by
  rw [padE_val h0] at hk
  rw [padR_at h0 h1 (by omega)]
  omega

theorem padR_eq {n : Int} (h0 : 0 ≤ n) (h1 : n < 2305843009213693952) :
    Int.tmod (IntKind.u64.wrap (n + (IntKind.u64.wrap ((((1 : Nat) + ((padE n).toNat - 1)) : Nat) : Int)))) (128 : Int) = 112 := by
  have := padE_val h0
  rw [padR_at h0 h1 (by omega)]
  omega
end Go.Proofs.Ytepimglipelpmaa.X

/- Printed by a tool of this session. -/
namespace Go.Proofs.Ytepimglipelpmaa.X
open Go Go.Proofs
set_option linter.unusedVariables false
set_option linter.unusedSimpArgs false
set_option maxRecDepth 100000
theorem teSV_3 : TEOk Try.prog 3 ⟨.int .i64, 1, 8, [.i .i64 (0 : Int)], false⟩ :=
  TEOk.of Try.underlying3 (i := Try.t3) (by kernel_rfl) rfl rfl rfl (by kernel_rfl) (fun h => by cases h) (by kernel_rfl)
theorem teSV_5 : TEOk Try.prog 5 ⟨.int .u8, 1, 1, [.i .u8 (0 : Int)], false⟩ :=
  TEOk.of Try.underlying5 (i := Try.t5) (by kernel_rfl) rfl rfl rfl (by kernel_rfl) (fun h => by cases h) (by kernel_rfl)
theorem teSV_22 : TEOk Try.prog 22 ⟨.slice 5, 1, 24, [.raw (.slice none 0 0)], false⟩ :=
  TEOk.of Try.underlying22 (i := Try.t22) (by kernel_rfl) rfl rfl rfl (by kernel_rfl) (fun h => by cases h) (by kernel_rfl)
theorem teSV_52 : TEOk Try.prog 52 ⟨.int .u64, 1, 8, [.i .u64 (0 : Int)], false⟩ :=
  TEOk.of Try.underlying52 (i := Try.t52) (by kernel_rfl) rfl rfl rfl (by kernel_rfl) (fun h => by cases h) (by kernel_rfl)
theorem teSV_82 : TEOk Try.prog 82 ⟨.int .u64, 1, 8, [.i .u64 (0 : Int)], false⟩ :=
  TEOk.of Try.underlying82 (i := Try.t82) (by kernel_rfl) rfl rfl rfl (by kernel_rfl) (fun h => by cases h) (by kernel_rfl)
noncomputable def tabSV : List (Nat × TE) := [(3, ⟨.int .i64, 1, 8, [.i .i64 (0 : Int)], false⟩), (5, ⟨.int .u8, 1, 1, [.i .u8 (0 : Int)], false⟩), (22, ⟨.slice 5, 1, 24, [.raw (.slice none 0 0)], false⟩), (52, ⟨.int .u64, 1, 8, [.i .u64 (0 : Int)], false⟩), (82, ⟨.int .u64, 1, 8, [.i .u64 (0 : Int)], false⟩)]
theorem tabOkSV : TabOk Try.prog (tabOf tabSV) := (tabOf_cons teSV_3 (tabOf_cons teSV_5 (tabOf_cons teSV_22 (tabOf_cons teSV_52 (tabOf_cons teSV_82 tabOf_nil)))))

def padRL_mk (n : Int) (k : Nat) (s : (List Int)) : St := ⟨sparse 42 [(0, .o (.a (.i .u64 n))), (2, .o (.a (.raw (.slice none 0 0)))), (3, .o (.a (.i .i64 (0 : Int)))), (4, .o (.a (.rs 0 0 ((1 : Nat) + k) 1))), (7, .o (.a (.i .u64 n))), (8, .o (.a (.b (decide (n ≥ (2305843009213693952 : Int))))))], [some ⟨true, [.ints .u8 ((1 : Nat) + k) s]⟩]⟩

def padRL_step (k : Nat) (s : (List Int)) : (List Int) :=
  (((sub s 0 ((1 : Nat) + k)) ++ ([0] : List Int)))

set_option maxHeartbeats 1000000 in
theorem padRL_round (n : Int) (h0 : ((0 : Int) ≤ n)) (h1 : (n < (2305843009213693952 : Int))) (w : World) (rw : List Nat) (β : Env) (k : Nat) (hk : k < ((Int.toNat (padE n)) - (1 : Nat))) (s : (List Int)) : Run Try.prog ⟨w, rw, 0, β⟩ (loopB Try.f22 0) (padRL_mk n k s) (To ⟨w, rw, 0, β⟩ .normal (padRL_mk n (k + 1) (padRL_step k s))) := by
  have e0 : (((1 : Nat) + k) + (1 : Nat)) = ((1 : Nat) + (k + (1 : Nat))) := (by first | rfl | exact wrap_succ (by omega) | omega | (simp (disch := omega) only [wrapI]; omega))
  have h := Run.of_outT (B := ⟨w, rw, 0, β⟩) (Λ := noLam) (Ψ := noPsi) (fuel := 0) (ora := [true, false]) (c := (loopB Try.f22 0)) (st := (padRL_mk n k s)) (l := [.swap 0 2, .forget [0, 2, 3, 4, 7, 8] 1]) (s' := ⟨sparse 42 [(0, .o (.a (.i .u64 n))), (2, .o (.a (.raw (.slice none 0 0)))), (3, .o (.a (.i .i64 (0 : Int)))), (4, .o (.a (.rs 0 0 (((1 : Nat) + k) + (1 : Nat)) 1))), (7, .o (.a (.i .u64 n))), (8, .o (.a (.b (decide (n ≥ (2305843009213693952 : Int))))))], [some ⟨true, [.ints .u8 (((1 : Nat) + k) + (1 : Nat)) (padRL_step k s)]⟩]⟩) (ex := .normal) mix tabOkSV gam303_ok
    (vc := [((((0 : Nat) + ((1 : Nat) + k)) ≤ ((1 : Nat) + k)) ∧ (((1 : Nat) ≤ (1 : Nat)) ∧ ((1 : Nat) ≤ (1 : Nat))) ∧ (((((1 : Nat) + k) + (1 : Nat)) * (1 : Nat)) ≤ (140737488355328 : Nat))), (((Int.tmod (IntKind.u64.wrap (n + (IntKind.u64.wrap ((((1 : Nat) + k) : Nat) : Int)))) (128 : Int)) != (112 : Int)) = true), ((128 : Int) ≠ 0)]) (by kernel_rfl)
    (aC ⟨(by have hp := padE_ok n; first | omega | (simp (disch := omega) only [wrapI]; omega)), ⟨(by decide), (by decide)⟩, (by have hp := padE_ok n; first | omega | (simp (disch := omega) only [wrapI]; omega))⟩ (aC (bne_iff_ne.2 (padR_ne h0 h1 hk)) (aC (by decide) (AllP_nil))))
  rw [e0] at h
  exact h

set_option maxHeartbeats 1000000 in
theorem padRL_last (n : Int) (h0 : ((0 : Int) ≤ n)) (h1 : (n < (2305843009213693952 : Int))) (w : World) (rw : List Nat) (β : Env) (s : (List Int)) : Run Try.prog ⟨w, rw, 0, β⟩ (loopB Try.f22 0) (padRL_mk n ((Int.toNat (padE n)) - (1 : Nat)) s) (To ⟨w, rw, 0, β⟩ (.exit 0) (padRL_mk n ((Int.toNat (padE n)) - (1 : Nat)) s)) :=
  Run.of_outT (B := ⟨w, rw, 0, β⟩) (Λ := noLam) (Ψ := noPsi) (fuel := 0) (ora := [false]) (l := [.forget [0, 2, 3, 4, 7, 8] 1]) mix tabOkSV gam303_ok
    (vc := [(((Int.tmod (IntKind.u64.wrap (n + (IntKind.u64.wrap ((((1 : Nat) + ((Int.toNat (padE n)) - (1 : Nat))) : Nat) : Int)))) (128 : Int)) != (112 : Int)) = false), ((128 : Int) ≠ 0)]) (by kernel_rfl)
    (aC (bne_eq_false_iff_eq.2 (padR_eq h0 h1)) (aC (by decide) (AllP_nil)))

theorem padRL_loop (n : Int) (h0 : ((0 : Int) ≤ n)) (h1 : (n < (2305843009213693952 : Int))) (w : World) (rw : List Nat) (β : Env) (s : (List Int)) : Run Try.prog ⟨w, rw, 0, β⟩ (.block 0 (.loop (loopB Try.f22 0))) (padRL_mk n 0 s) (To ⟨w, rw, 0, β⟩ .normal (padRL_mk n ((Int.toNat (padE n)) - (1 : Nat)) (iter (padRL_step) ((Int.toNat (padE n)) - (1 : Nat)) s))) :=
  Run.count (fun k => padRL_mk n k (iter (padRL_step) k s)) ((Int.toNat (padE n)) - (1 : Nat)) (fun k hk => padRL_round n h0 h1 w rw β k hk _) (ex := (.exit 0)) (by simp) (padRL_last n h0 h1 w rw β _)

def padRL_out0 (n : Int) (i0 : List Int) : List Int := (iter (padRL_step) ((Int.toNat (padE n)) - (1 : Nat)) (i0))

def padR (n : Int) : Nat :=
  (((1 : Nat) + ((Int.toNat (padE n)) - (1 : Nat))) + (16 : Nat))

def padR_1 (n : Int) : List Int :=
  let z0 : Nat := ((1 : Nat) + ((Int.toNat (padE n)) - (1 : Nat)))
  ((sub ((sub ((sub ((sub ((sub ((sub ((sub ((sub ((sub ((sub ((sub ((sub ((sub ((sub ((sub ((sub (padRL_out0 n ([128] : List Int)) (0 : Nat) z0) ++ ([0] : List Int)) (0 : Nat) (z0 + (1 : Nat))) ++ ([0] : List Int)) (0 : Nat) (z0 + (2 : Nat))) ++ ([0] : List Int)) (0 : Nat) (z0 + (3 : Nat))) ++ ([0] : List Int)) (0 : Nat) (z0 + (4 : Nat))) ++ ([0] : List Int)) (0 : Nat) (z0 + (5 : Nat))) ++ ([0] : List Int)) (0 : Nat) (z0 + (6 : Nat))) ++ ([0] : List Int)) (0 : Nat) (z0 + (7 : Nat))) ++ ([0] : List Int)) (0 : Nat) (z0 + (8 : Nat))) ++ ([(IntKind.u8.wrap (shr .u64 (IntKind.u64.wrap (n * (8 : Int))) (56 : Int)))] : List Int)) (0 : Nat) (z0 + (9 : Nat))) ++ ([(IntKind.u8.wrap (shr .u64 (IntKind.u64.wrap (n * (8 : Int))) (48 : Int)))] : List Int)) (0 : Nat) (z0 + (10 : Nat))) ++ ([(IntKind.u8.wrap (shr .u64 (IntKind.u64.wrap (n * (8 : Int))) (40 : Int)))] : List Int)) (0 : Nat) (z0 + (11 : Nat))) ++ ([(IntKind.u8.wrap (shr .u64 (IntKind.u64.wrap (n * (8 : Int))) (32 : Int)))] : List Int)) (0 : Nat) (z0 + (12 : Nat))) ++ ([(IntKind.u8.wrap (shr .u64 (IntKind.u64.wrap (n * (8 : Int))) (24 : Int)))] : List Int)) (0 : Nat) (z0 + (13 : Nat))) ++ ([(IntKind.u8.wrap (shr .u64 (IntKind.u64.wrap (n * (8 : Int))) (16 : Int)))] : List Int)) (0 : Nat) (z0 + (14 : Nat))) ++ ([(IntKind.u8.wrap (shr .u64 (IntKind.u64.wrap (n * (8 : Int))) (8 : Int)))] : List Int)) (0 : Nat) (z0 + (15 : Nat))) ++ ([(IntKind.u8.wrap (shr .u64 (IntKind.u64.wrap (n * (8 : Int))) (0 : Int)))] : List Int))

set_option maxHeartbeats 1000000 in
theorem padR_body0 (n : Int) (h0 : ((0 : Int) ≤ n)) (h1 : (n < (2305843009213693952 : Int))) (w : World) (rw : List Nat) (β : Env) : Body Try.prog (tabOf tabSV) Try.f22 ⟨w, rw, 0, β⟩ [.o (.a (.i .u64 n))] [] (fun ys K' => ys = [.a (.rs 0 0 (padR n) 1), .a (.i .i64 (0 : Int))] ∧ K' = [some ⟨true, [.ints .u8 (padR n) (padR_1 n)]⟩]) :=
  Body.of_finK (Γ := gam303) (Λ := lamOf [(0, ⟨[.slrs 4 1, .forget [0, 2, 3, 4, 7, 8] 1], .normal, (padRL_mk n ((Int.toNat (padE n)) - (1 : Nat)) (iter (padRL_step) ((Int.toNat (padE n)) - (1 : Nat)) (([128] : List Int))))⟩)]) (Ψ := noPsi) (fuel := 10) (m := 42) (c := (Try.f22.body.getD .skip)) mix tabOkSV gam303_ok rfl (rs := [.tmp 2, .tmp 3]) rfl rfl [false, true, false, true, false, true, false, true, false, true, false, true, false, true, false, true, false, false, true, false, true, false, true, false, true, false, true, false, true, false, true, false, true, false, false] [.swap 0 32] 1
    (vc := [(false = false), ((((0 : Nat) + (((1 : Nat) + ((Int.toNat (padE n)) - (1 : Nat))) + (15 : Nat))) ≤ (((1 : Nat) + ((Int.toNat (padE n)) - (1 : Nat))) + (15 : Nat))) ∧ (((1 : Nat) ≤ (1 : Nat)) ∧ ((1 : Nat) ≤ (1 : Nat))) ∧ (((((1 : Nat) + ((Int.toNat (padE n)) - (1 : Nat))) + (16 : Nat)) * (1 : Nat)) ≤ (140737488355328 : Nat))), ((0 : Int) ≤ (0 : Int)), (true = true), ((((0 : Nat) + (((1 : Nat) + ((Int.toNat (padE n)) - (1 : Nat))) + (14 : Nat))) ≤ (((1 : Nat) + ((Int.toNat (padE n)) - (1 : Nat))) + (14 : Nat))) ∧ (((1 : Nat) ≤ (1 : Nat)) ∧ ((1 : Nat) ≤ (1 : Nat))) ∧ (((((1 : Nat) + ((Int.toNat (padE n)) - (1 : Nat))) + (15 : Nat)) * (1 : Nat)) ≤ (140737488355328 : Nat))), ((0 : Int) ≤ (8 : Int)), (true = true), ((((0 : Nat) + (((1 : Nat) + ((Int.toNat (padE n)) - (1 : Nat))) + (13 : Nat))) ≤ (((1 : Nat) + ((Int.toNat (padE n)) - (1 : Nat))) + (13 : Nat))) ∧ (((1 : Nat) ≤ (1 : Nat)) ∧ ((1 : Nat) ≤ (1 : Nat))) ∧ (((((1 : Nat) + ((Int.toNat (padE n)) - (1 : Nat))) + (14 : Nat)) * (1 : Nat)) ≤ (140737488355328 : Nat))), ((0 : Int) ≤ (16 : Int)), (true = true), ((((0 : Nat) + (((1 : Nat) + ((Int.toNat (padE n)) - (1 : Nat))) + (12 : Nat))) ≤ (((1 : Nat) + ((Int.toNat (padE n)) - (1 : Nat))) + (12 : Nat))) ∧ (((1 : Nat) ≤ (1 : Nat)) ∧ ((1 : Nat) ≤ (1 : Nat))) ∧ (((((1 : Nat) + ((Int.toNat (padE n)) - (1 : Nat))) + (13 : Nat)) * (1 : Nat)) ≤ (140737488355328 : Nat))), ((0 : Int) ≤ (24 : Int)), (true = true), ((((0 : Nat) + (((1 : Nat) + ((Int.toNat (padE n)) - (1 : Nat))) + (11 : Nat))) ≤ (((1 : Nat) + ((Int.toNat (padE n)) - (1 : Nat))) + (11 : Nat))) ∧ (((1 : Nat) ≤ (1 : Nat)) ∧ ((1 : Nat) ≤ (1 : Nat))) ∧ (((((1 : Nat) + ((Int.toNat (padE n)) - (1 : Nat))) + (12 : Nat)) * (1 : Nat)) ≤ (140737488355328 : Nat))), ((0 : Int) ≤ (32 : Int)), (true = true), ((((0 : Nat) + (((1 : Nat) + ((Int.toNat (padE n)) - (1 : Nat))) + (10 : Nat))) ≤ (((1 : Nat) + ((Int.toNat (padE n)) - (1 : Nat))) + (10 : Nat))) ∧ (((1 : Nat) ≤ (1 : Nat)) ∧ ((1 : Nat) ≤ (1 : Nat))) ∧ (((((1 : Nat) + ((Int.toNat (padE n)) - (1 : Nat))) + (11 : Nat)) * (1 : Nat)) ≤ (140737488355328 : Nat))), ((0 : Int) ≤ (40 : Int)), (true = true), ((((0 : Nat) + (((1 : Nat) + ((Int.toNat (padE n)) - (1 : Nat))) + (9 : Nat))) ≤ (((1 : Nat) + ((Int.toNat (padE n)) - (1 : Nat))) + (9 : Nat))) ∧ (((1 : Nat) ≤ (1 : Nat)) ∧ ((1 : Nat) ≤ (1 : Nat))) ∧ (((((1 : Nat) + ((Int.toNat (padE n)) - (1 : Nat))) + (10 : Nat)) * (1 : Nat)) ≤ (140737488355328 : Nat))), ((0 : Int) ≤ (48 : Int)), (true = true), ((((0 : Nat) + (((1 : Nat) + ((Int.toNat (padE n)) - (1 : Nat))) + (8 : Nat))) ≤ (((1 : Nat) + ((Int.toNat (padE n)) - (1 : Nat))) + (8 : Nat))) ∧ (((1 : Nat) ≤ (1 : Nat)) ∧ ((1 : Nat) ≤ (1 : Nat))) ∧ (((((1 : Nat) + ((Int.toNat (padE n)) - (1 : Nat))) + (9 : Nat)) * (1 : Nat)) ≤ (140737488355328 : Nat))), ((0 : Int) ≤ (56 : Int)), (true = true), (false = false), ((((0 : Nat) + (((1 : Nat) + ((Int.toNat (padE n)) - (1 : Nat))) + (7 : Nat))) ≤ (((1 : Nat) + ((Int.toNat (padE n)) - (1 : Nat))) + (7 : Nat))) ∧ (((1 : Nat) ≤ (1 : Nat)) ∧ ((1 : Nat) ≤ (1 : Nat))) ∧ (((((1 : Nat) + ((Int.toNat (padE n)) - (1 : Nat))) + (8 : Nat)) * (1 : Nat)) ≤ (140737488355328 : Nat))), (true = true), ((((0 : Nat) + (((1 : Nat) + ((Int.toNat (padE n)) - (1 : Nat))) + (6 : Nat))) ≤ (((1 : Nat) + ((Int.toNat (padE n)) - (1 : Nat))) + (6 : Nat))) ∧ (((1 : Nat) ≤ (1 : Nat)) ∧ ((1 : Nat) ≤ (1 : Nat))) ∧ (((((1 : Nat) + ((Int.toNat (padE n)) - (1 : Nat))) + (7 : Nat)) * (1 : Nat)) ≤ (140737488355328 : Nat))), (true = true), ((((0 : Nat) + (((1 : Nat) + ((Int.toNat (padE n)) - (1 : Nat))) + (5 : Nat))) ≤ (((1 : Nat) + ((Int.toNat (padE n)) - (1 : Nat))) + (5 : Nat))) ∧ (((1 : Nat) ≤ (1 : Nat)) ∧ ((1 : Nat) ≤ (1 : Nat))) ∧ (((((1 : Nat) + ((Int.toNat (padE n)) - (1 : Nat))) + (6 : Nat)) * (1 : Nat)) ≤ (140737488355328 : Nat))), (true = true), ((((0 : Nat) + (((1 : Nat) + ((Int.toNat (padE n)) - (1 : Nat))) + (4 : Nat))) ≤ (((1 : Nat) + ((Int.toNat (padE n)) - (1 : Nat))) + (4 : Nat))) ∧ (((1 : Nat) ≤ (1 : Nat)) ∧ ((1 : Nat) ≤ (1 : Nat))) ∧ (((((1 : Nat) + ((Int.toNat (padE n)) - (1 : Nat))) + (5 : Nat)) * (1 : Nat)) ≤ (140737488355328 : Nat))), (true = true), ((((0 : Nat) + (((1 : Nat) + ((Int.toNat (padE n)) - (1 : Nat))) + (3 : Nat))) ≤ (((1 : Nat) + ((Int.toNat (padE n)) - (1 : Nat))) + (3 : Nat))) ∧ (((1 : Nat) ≤ (1 : Nat)) ∧ ((1 : Nat) ≤ (1 : Nat))) ∧ (((((1 : Nat) + ((Int.toNat (padE n)) - (1 : Nat))) + (4 : Nat)) * (1 : Nat)) ≤ (140737488355328 : Nat))), (true = true), ((((0 : Nat) + (((1 : Nat) + ((Int.toNat (padE n)) - (1 : Nat))) + (2 : Nat))) ≤ (((1 : Nat) + ((Int.toNat (padE n)) - (1 : Nat))) + (2 : Nat))) ∧ (((1 : Nat) ≤ (1 : Nat)) ∧ ((1 : Nat) ≤ (1 : Nat))) ∧ (((((1 : Nat) + ((Int.toNat (padE n)) - (1 : Nat))) + (3 : Nat)) * (1 : Nat)) ≤ (140737488355328 : Nat))), (true = true), ((((0 : Nat) + (((1 : Nat) + ((Int.toNat (padE n)) - (1 : Nat))) + (1 : Nat))) ≤ (((1 : Nat) + ((Int.toNat (padE n)) - (1 : Nat))) + (1 : Nat))) ∧ (((1 : Nat) ≤ (1 : Nat)) ∧ ((1 : Nat) ≤ (1 : Nat))) ∧ (((((1 : Nat) + ((Int.toNat (padE n)) - (1 : Nat))) + (2 : Nat)) * (1 : Nat)) ≤ (140737488355328 : Nat))), (true = true), ((((0 : Nat) + ((1 : Nat) + ((Int.toNat (padE n)) - (1 : Nat)))) ≤ ((1 : Nat) + ((Int.toNat (padE n)) - (1 : Nat)))) ∧ (((1 : Nat) ≤ (1 : Nat)) ∧ ((1 : Nat) ≤ (1 : Nat))) ∧ (((((1 : Nat) + ((Int.toNat (padE n)) - (1 : Nat))) + (1 : Nat)) * (1 : Nat)) ≤ (140737488355328 : Nat))), (true = true), (Run Try.prog ⟨w, rw, 0, β⟩ (.block 0 (.loop (loopB Try.f22 0))) (padRL_mk n 0 (([128] : List Int))) (To ⟨w, rw, 0, β⟩ .normal (padRL_mk n ((Int.toNat (padE n)) - (1 : Nat)) (iter (padRL_step) ((Int.toNat (padE n)) - (1 : Nat)) (([128] : List Int)))))), ((1 : Nat) ≤ (1 : Nat)), ((decide (n ≥ (2305843009213693952 : Int))) = false)]) (by kernel_rfl)
    (aC rfl (aC ⟨(by have hp := padE_ok n; first | omega | (simp (disch := omega) only [wrapI]; omega)), ⟨(by decide), (by decide)⟩, (by have hp := padE_ok n; first | omega | (simp (disch := omega) only [wrapI]; omega))⟩ (aC (by decide) (aC rfl (aC ⟨(by have hp := padE_ok n; first | omega | (simp (disch := omega) only [wrapI]; omega)), ⟨(by decide), (by decide)⟩, (by have hp := padE_ok n; first | omega | (simp (disch := omega) only [wrapI]; omega))⟩ (aC (by decide) (aC rfl (aC ⟨(by have hp := padE_ok n; first | omega | (simp (disch := omega) only [wrapI]; omega)), ⟨(by decide), (by decide)⟩, (by have hp := padE_ok n; first | omega | (simp (disch := omega) only [wrapI]; omega))⟩ (aC (by decide) (aC rfl (aC ⟨(by have hp := padE_ok n; first | omega | (simp (disch := omega) only [wrapI]; omega)), ⟨(by decide), (by decide)⟩, (by have hp := padE_ok n; first | omega | (simp (disch := omega) only [wrapI]; omega))⟩ (aC (by decide) (aC rfl (aC ⟨(by have hp := padE_ok n; first | omega | (simp (disch := omega) only [wrapI]; omega)), ⟨(by decide), (by decide)⟩, (by have hp := padE_ok n; first | omega | (simp (disch := omega) only [wrapI]; omega))⟩ (aC (by decide) (aC rfl (aC ⟨(by have hp := padE_ok n; first | omega | (simp (disch := omega) only [wrapI]; omega)), ⟨(by decide), (by decide)⟩, (by have hp := padE_ok n; first | omega | (simp (disch := omega) only [wrapI]; omega))⟩ (aC (by decide) (aC rfl (aC ⟨(by have hp := padE_ok n; first | omega | (simp (disch := omega) only [wrapI]; omega)), ⟨(by decide), (by decide)⟩, (by have hp := padE_ok n; first | omega | (simp (disch := omega) only [wrapI]; omega))⟩ (aC (by decide) (aC rfl (aC ⟨(by have hp := padE_ok n; first | omega | (simp (disch := omega) only [wrapI]; omega)), ⟨(by decide), (by decide)⟩, (by have hp := padE_ok n; first | omega | (simp (disch := omega) only [wrapI]; omega))⟩ (aC (by decide) (aC rfl (aC rfl (aC ⟨(by have hp := padE_ok n; first | omega | (simp (disch := omega) only [wrapI]; omega)), ⟨(by decide), (by decide)⟩, (by have hp := padE_ok n; first | omega | (simp (disch := omega) only [wrapI]; omega))⟩ (aC rfl (aC ⟨(by have hp := padE_ok n; first | omega | (simp (disch := omega) only [wrapI]; omega)), ⟨(by decide), (by decide)⟩, (by have hp := padE_ok n; first | omega | (simp (disch := omega) only [wrapI]; omega))⟩ (aC rfl (aC ⟨(by have hp := padE_ok n; first | omega | (simp (disch := omega) only [wrapI]; omega)), ⟨(by decide), (by decide)⟩, (by have hp := padE_ok n; first | omega | (simp (disch := omega) only [wrapI]; omega))⟩ (aC rfl (aC ⟨(by have hp := padE_ok n; first | omega | (simp (disch := omega) only [wrapI]; omega)), ⟨(by decide), (by decide)⟩, (by have hp := padE_ok n; first | omega | (simp (disch := omega) only [wrapI]; omega))⟩ (aC rfl (aC ⟨(by have hp := padE_ok n; first | omega | (simp (disch := omega) only [wrapI]; omega)), ⟨(by decide), (by decide)⟩, (by have hp := padE_ok n; first | omega | (simp (disch := omega) only [wrapI]; omega))⟩ (aC rfl (aC ⟨(by have hp := padE_ok n; first | omega | (simp (disch := omega) only [wrapI]; omega)), ⟨(by decide), (by decide)⟩, (by have hp := padE_ok n; first | omega | (simp (disch := omega) only [wrapI]; omega))⟩ (aC rfl (aC ⟨(by have hp := padE_ok n; first | omega | (simp (disch := omega) only [wrapI]; omega)), ⟨(by decide), (by decide)⟩, (by have hp := padE_ok n; first | omega | (simp (disch := omega) only [wrapI]; omega))⟩ (aC rfl (aC ⟨(by have hp := padE_ok n; first | omega | (simp (disch := omega) only [wrapI]; omega)), ⟨(by decide), (by decide)⟩, (by have hp := padE_ok n; first | omega | (simp (disch := omega) only [wrapI]; omega))⟩ (aC rfl (aC (padRL_loop n h0 h1 w rw β (([128] : List Int))) (aC (by decide) (aC (decide_eq_false (by have hp := padE_ok n; first | omega | (simp (disch := omega) only [wrapI]; omega))) (AllP_nil))))))))))))))))))))))))))))))))))))))))))))))

theorem padR_body (n : Int) (h0 : ((0 : Int) ≤ n)) (h1 : (n < (2305843009213693952 : Int))) (w : World) (rw : List Nat) (β : Env) : Body Try.prog (tabOf tabSV) Try.f22 ⟨w, rw, 0, β⟩ [.o (.a (.i .u64 n))] [] (fun ys K' => ys = [.a (.rs 0 0 (padR n) 1), .a (.i .i64 (0 : Int))] ∧ K' = [some ⟨true, [.ints .u8 (padR n) (padR_1 n)]⟩]) :=
  Body.lens (c := (Try.f22.body.getD .skip)) rfl fun h => padR_body0 n h0 h1  w rw β

def gam304 : Gam := gcall 22 [] [.w] (fun wk vs args => match wk, vs, args with | [], [], [.o (.a (.i .u64 n))] => some (((0 : Int) ≤ n) ∧ (n < (2305843009213693952 : Int)), [.a (.rs 0 0 (padR n) 1), .a (.i .i64 (0 : Int))], [some ⟨true, [.ints .u8 (padR n) (padR_1 n)]⟩]) | _, _, _ => none) gam303
theorem gam304_ok : GamOk Try.prog gam304 := gcall_ok tabOkSV Try.func22 gam303_ok Try.call22 (by
  intro wk vs args p xs K1 h hv
  split at h
  · simp only [Option.some.injEq, Prod.mk.injEq] at h; obtain ⟨rfl, rfl, rfl⟩ := h; obtain ⟨g0, g1⟩ := hv; exact fun caps w rw β => padR_body _ g0 g1 w rw β
  · simp at h)

end Go.Proofs.Ytepimglipelpmaa.X

/- The program's block and the document's: one function. -/
namespace Go.Proofs.Ytepimglipelpmaa.X
open Go Go.Proofs
set_option maxRecDepth 100000

theorem bits2_or_comm (x y : Int) : bits2 .or .u64 x y = bits2 .or .u64 y x := by
  unfold bits2
  simp only [BitVec.or_comm]

theorem ror_1 (x : Int) : ror x 1 = rorR x 1 := by
  have e1 : ror x 1 = bits2 .or .u64 (shl .u64 x 63) (shr .u64 x 1) := by kernel_rfl
  have e2 : rorR x 1 = bits2 .or .u64 (shr .u64 x 1) (shl .u64 x 63) := by kernel_rfl
  rw [e1, e2, bits2_or_comm]
theorem ror_8 (x : Int) : ror x 8 = rorR x 8 := by
  have e1 : ror x 8 = bits2 .or .u64 (shl .u64 x 56) (shr .u64 x 8) := by kernel_rfl
  have e2 : rorR x 8 = bits2 .or .u64 (shr .u64 x 8) (shl .u64 x 56) := by kernel_rfl
  rw [e1, e2, bits2_or_comm]
theorem ror_19 (x : Int) : ror x 19 = rorR x 19 := by
  have e1 : ror x 19 = bits2 .or .u64 (shl .u64 x 45) (shr .u64 x 19) := by kernel_rfl
  have e2 : rorR x 19 = bits2 .or .u64 (shr .u64 x 19) (shl .u64 x 45) := by kernel_rfl
  rw [e1, e2, bits2_or_comm]
theorem ror_61 (x : Int) : ror x 61 = rorR x 61 := by
  have e1 : ror x 61 = bits2 .or .u64 (shl .u64 x 3) (shr .u64 x 61) := by kernel_rfl
  have e2 : rorR x 61 = bits2 .or .u64 (shr .u64 x 61) (shl .u64 x 3) := by kernel_rfl
  rw [e1, e2, bits2_or_comm]
theorem ror_14 (x : Int) : ror x 14 = rorR x 14 := by
  have e1 : ror x 14 = bits2 .or .u64 (shl .u64 x 50) (shr .u64 x 14) := by kernel_rfl
  have e2 : rorR x 14 = bits2 .or .u64 (shr .u64 x 14) (shl .u64 x 50) := by kernel_rfl
  rw [e1, e2, bits2_or_comm]
theorem ror_18 (x : Int) : ror x 18 = rorR x 18 := by
  have e1 : ror x 18 = bits2 .or .u64 (shl .u64 x 46) (shr .u64 x 18) := by kernel_rfl
  have e2 : rorR x 18 = bits2 .or .u64 (shr .u64 x 18) (shl .u64 x 46) := by kernel_rfl
  rw [e1, e2, bits2_or_comm]
theorem ror_41 (x : Int) : ror x 41 = rorR x 41 := by
  have e1 : ror x 41 = bits2 .or .u64 (shl .u64 x 23) (shr .u64 x 41) := by kernel_rfl
  have e2 : rorR x 41 = bits2 .or .u64 (shr .u64 x 41) (shl .u64 x 23) := by kernel_rfl
  rw [e1, e2, bits2_or_comm]
theorem ror_28 (x : Int) : ror x 28 = rorR x 28 := by
  have e1 : ror x 28 = bits2 .or .u64 (shl .u64 x 36) (shr .u64 x 28) := by kernel_rfl
  have e2 : rorR x 28 = bits2 .or .u64 (shr .u64 x 28) (shl .u64 x 36) := by kernel_rfl
  rw [e1, e2, bits2_or_comm]
theorem ror_34 (x : Int) : ror x 34 = rorR x 34 := by
  have e1 : ror x 34 = bits2 .or .u64 (shl .u64 x 30) (shr .u64 x 34) := by kernel_rfl
  have e2 : rorR x 34 = bits2 .or .u64 (shr .u64 x 34) (shl .u64 x 30) := by kernel_rfl
  rw [e1, e2, bits2_or_comm]
theorem ror_39 (x : Int) : ror x 39 = rorR x 39 := by
  have e1 : ror x 39 = bits2 .or .u64 (shl .u64 x 25) (shr .u64 x 39) := by kernel_rfl
  have e2 : rorR x 39 = bits2 .or .u64 (shr .u64 x 39) (shl .u64 x 25) := by kernel_rfl
  rw [e1, e2, bits2_or_comm]

theorem konst_eq : konst = konstR := by kernel_rfl

theorem w1_eq (b s : List Int) (k : Nat) : bW1_step b k s = rW1_step b k s := by kernel_rfl
theorem w2_eq (s : List Int) (k : Nat) : bW2_step k s = rW2_step k s := by
  unfold bW2_step rW2_step
  simp only [ror_1, ror_8, ror_19, ror_61]
theorem w2_out (s : List Int) : bW2_out0 s = rW2_out0 s := by
  unfold bW2_out0 rW2_out0
  exact iter_congr fun i s _ => w2_eq s i
theorem w1_out (b s : List Int) : bW1_out0 b s = rW1_out0 b s := by
  unfold bW1_out0 rW1_out0
  exact iter_congr fun i s _ => w1_eq b s i
theorem t_eq (b s : List Int) (k : Nat) : bT_step b konst k s = rT_step b k s := by
  unfold bT_step rT_step
  simp only [ror_14, ror_18, ror_41, ror_28, ror_34, ror_39, w1_out, w2_out, konst_eq]
theorem t_out (b s : List Int) : bT_out0 b konst s = rT_out0 b s := by
  unfold bT_out0 rT_out0
  exact iter_congr fun i s _ => t_eq b s i

theorem eight {l : List Int} (h : l.length = 8) : ∃ a b c d e f g i, l = [a, b, c, d, e, f, g, i] := by
  match l, h with
  | [a, b, c, d, e, f, g, i], _ => exact ⟨a, b, c, d, e, f, g, i, rfl⟩

theorem rT_len (b S : List Int) : (rT_out0 b S).length = 8 := by kernel_rfl

theorem blk_eq {S : List Int} (b : List Int) (h : S.length = 8) : blk S b konst = blkR S b := by
  unfold blk blkR
  rw [t_out]
  have hT := rT_len b S
  generalize rT_out0 b S = T at hT ⊢
  obtain ⟨s0, s1, s2, s3, s4, s5, s6, s7, rfl⟩ := eight h
  obtain ⟨t0, t1, t2, t3, t4, t5, t6, t7, rfl⟩ := eight hT
  simp only [List.set_cons_zero, List.set_cons_succ, List.getD_cons_zero, List.getD_cons_succ, Int.add_comm]

end Go.Proofs.Ytepimglipelpmaa.X

/- Plain lemmas for the walk of the law of the chain. -/
namespace Go.Proofs.Ytepimglipelpmaa.X
open Go Go.Proofs
set_option linter.unusedVariables false

theorem splice_len3 {l ys : List Int} {c m : Nat} (h : l.length = 256) (h1 : c + m ≤ 256) (h2 : ys.length = m) : (splice l c m ys).length = 256 := by
  rw [splice_len _ _ _ _ (by omega) h2, h]

theorem pad_1_len (n : Int) : (pad_1 n).length = 256 := by
  have := padE_ok n
  unfold padE at this
  unfold pad_1
  repeat' first
    | refine splice_len3 ?_ ?_ ?_
  all_goals first
    | (rw [List.length_set, List.length_replicate])
    | omega
    | rfl

theorem sub_left {α : Type} (x y : List α) (c m : Nat) (h : c + m ≤ x.length) : sub (x ++ y) c m = sub x c m := by
  unfold sub
  rw [List.drop_append_of_le_length (by omega), List.take_append_of_le_length (by simp; omega)]

theorem sub_of_drop {α : Type} (l : List α) (a c m : Nat) : sub (l.drop a) c m = sub l (a + c) m := by
  unfold sub; rw [List.drop_drop]

theorem absN_zero (C D S : List Int) : absN C D 0 S = S := rfl
theorem absN_succ (C D : List Int) (k : Nat) (S : List Int) : absN C D (k + 1) S = blk (absN C D k S) (sub D (128 * k) 128) C := rfl

theorem absN_add (C D : List Int) (k1 : Nat) : ∀ (k2 : Nat) (S : List Int), absN C D (k1 + k2) S = absN C (D.drop (128 * k1)) k2 (absN C D k1 S)
  | 0, S => by rw [Nat.add_zero, absN_zero]
  | k2 + 1, S => by
    rw [← Nat.add_assoc, absN_succ, absN_succ, absN_add C D k1 k2 S, sub_of_drop, show 128 * k1 + 128 * k2 = 128 * (k1 + k2) by omega]

theorem absN_left (C D E : List Int) (k : Nat) (S : List Int) (h : 128 * k ≤ D.length) : absN C (D ++ E) k S = absN C D k S :=
  iter_congr fun i s hi => by rw [sub_left _ _ _ _ (by omega)]

theorem rest_sub {L P : List Int} {tl p c : Nat} (hL : L.length = tl) (hP : P.length = p) (h : tl + p ≤ 512) (hc : c + 128 ≤ tl + p) :
    sub (splice (splice (List.replicate (512 : Nat) (0 : Int)) (0 : Nat) (min tl tl) (sub L 0 (min tl tl))) ((0 : Nat) + tl) p P) c 128 = sub (L ++ P) c 128 := by
  have e1 : splice (List.replicate (512 : Nat) (0 : Int)) 0 (min tl tl) (sub L 0 (min tl tl)) = L ++ (List.replicate 512 (0 : Int)).drop tl := by
    rw [Nat.min_self, sub_all _ _ (by omega), splice_zero]
  rw [e1, Nat.zero_add]
  have e2 : splice (L ++ (List.replicate 512 (0 : Int)).drop tl) tl p P = (L ++ P) ++ (L ++ (List.replicate 512 (0 : Int)).drop tl).drop (tl + p) := by
    unfold splice
    rw [List.take_append_of_le_length (by omega), List.take_of_length_le (by omega)]
  rw [e2, sub_left _ _ _ _ (by simp; omega)]

def digL (W : List Int) : List Int := [IntKind.u8.wrap (shr .u64 (List.getD W 0 0) 56), IntKind.u8.wrap (shr .u64 (List.getD W 0 0) 48), IntKind.u8.wrap (shr .u64 (List.getD W 0 0) 40), IntKind.u8.wrap (shr .u64 (List.getD W 0 0) 32), IntKind.u8.wrap (shr .u64 (List.getD W 0 0) 24), IntKind.u8.wrap (shr .u64 (List.getD W 0 0) 16), IntKind.u8.wrap (shr .u64 (List.getD W 0 0) 8), IntKind.u8.wrap (shr .u64 (List.getD W 0 0) 0), IntKind.u8.wrap (shr .u64 (List.getD W 1 0) 56), IntKind.u8.wrap (shr .u64 (List.getD W 1 0) 48), IntKind.u8.wrap (shr .u64 (List.getD W 1 0) 40), IntKind.u8.wrap (shr .u64 (List.getD W 1 0) 32), IntKind.u8.wrap (shr .u64 (List.getD W 1 0) 24), IntKind.u8.wrap (shr .u64 (List.getD W 1 0) 16), IntKind.u8.wrap (shr .u64 (List.getD W 1 0) 8), IntKind.u8.wrap (shr .u64 (List.getD W 1 0) 0), IntKind.u8.wrap (shr .u64 (List.getD W 2 0) 56), IntKind.u8.wrap (shr .u64 (List.getD W 2 0) 48), IntKind.u8.wrap (shr .u64 (List.getD W 2 0) 40), IntKind.u8.wrap (shr .u64 (List.getD W 2 0) 32), IntKind.u8.wrap (shr .u64 (List.getD W 2 0) 24), IntKind.u8.wrap (shr .u64 (List.getD W 2 0) 16), IntKind.u8.wrap (shr .u64 (List.getD W 2 0) 8), IntKind.u8.wrap (shr .u64 (List.getD W 2 0) 0), IntKind.u8.wrap (shr .u64 (List.getD W 3 0) 56), IntKind.u8.wrap (shr .u64 (List.getD W 3 0) 48), IntKind.u8.wrap (shr .u64 (List.getD W 3 0) 40), IntKind.u8.wrap (shr .u64 (List.getD W 3 0) 32), IntKind.u8.wrap (shr .u64 (List.getD W 3 0) 24), IntKind.u8.wrap (shr .u64 (List.getD W 3 0) 16), IntKind.u8.wrap (shr .u64 (List.getD W 3 0) 8), IntKind.u8.wrap (shr .u64 (List.getD W 3 0) 0), IntKind.u8.wrap (shr .u64 (List.getD W 4 0) 56), IntKind.u8.wrap (shr .u64 (List.getD W 4 0) 48), IntKind.u8.wrap (shr .u64 (List.getD W 4 0) 40), IntKind.u8.wrap (shr .u64 (List.getD W 4 0) 32), IntKind.u8.wrap (shr .u64 (List.getD W 4 0) 24), IntKind.u8.wrap (shr .u64 (List.getD W 4 0) 16), IntKind.u8.wrap (shr .u64 (List.getD W 4 0) 8), IntKind.u8.wrap (shr .u64 (List.getD W 4 0) 0), IntKind.u8.wrap (shr .u64 (List.getD W 5 0) 56), IntKind.u8.wrap (shr .u64 (List.getD W 5 0) 48), IntKind.u8.wrap (shr .u64 (List.getD W 5 0) 40), IntKind.u8.wrap (shr .u64 (List.getD W 5 0) 32), IntKind.u8.wrap (shr .u64 (List.getD W 5 0) 24), IntKind.u8.wrap (shr .u64 (List.getD W 5 0) 16), IntKind.u8.wrap (shr .u64 (List.getD W 5 0) 8), IntKind.u8.wrap (shr .u64 (List.getD W 5 0) 0), IntKind.u8.wrap (shr .u64 (List.getD W 6 0) 56), IntKind.u8.wrap (shr .u64 (List.getD W 6 0) 48), IntKind.u8.wrap (shr .u64 (List.getD W 6 0) 40), IntKind.u8.wrap (shr .u64 (List.getD W 6 0) 32), IntKind.u8.wrap (shr .u64 (List.getD W 6 0) 24), IntKind.u8.wrap (shr .u64 (List.getD W 6 0) 16), IntKind.u8.wrap (shr .u64 (List.getD W 6 0) 8), IntKind.u8.wrap (shr .u64 (List.getD W 6 0) 0), IntKind.u8.wrap (shr .u64 (List.getD W 7 0) 56), IntKind.u8.wrap (shr .u64 (List.getD W 7 0) 48), IntKind.u8.wrap (shr .u64 (List.getD W 7 0) 40), IntKind.u8.wrap (shr .u64 (List.getD W 7 0) 32), IntKind.u8.wrap (shr .u64 (List.getD W 7 0) 24), IntKind.u8.wrap (shr .u64 (List.getD W 7 0) 16), IntKind.u8.wrap (shr .u64 (List.getD W 7 0) 8), IntKind.u8.wrap (shr .u64 (List.getD W 7 0) 0)]

theorem hsum_dig (S : List Int) (tl : Nat) (N : Int) (L C : List Int) : hsum S tl N L C = digL (sumL_out0 tl N L C S) := by kernel_rfl
end Go.Proofs.Ytepimglipelpmaa.X

/- Plain lemmas: the two Pads lay the same bytes. -/
namespace Go.Proofs.Ytepimglipelpmaa.X
open Go Go.Proofs
set_option linter.unusedVariables false
set_option maxRecDepth 100000

theorem app_step {l ys : List Int} {c m : Nat} (h : l.length = 256) (h1 : c + m ≤ 256) (h2 : ys.length = m) : sub (splice l c m ys) 0 (c + m) = sub l 0 c ++ ys := by
  unfold sub splice
  simp only [List.drop_zero]
  have e : (l.take c ++ ys).length = c + m := by simp; omega
  rw [List.take_append_of_le_length (by omega), List.take_of_length_le (by omega)]

theorem app_step' {l ys : List Int} {c m k : Nat} (hk : k = c + m) (h : l.length = 256) (h1 : c + m ≤ 256) (h2 : ys.length = m) : sub (splice l c m ys) 0 k = sub l 0 c ++ ys := by
  rw [hk]; exact app_step h h1 h2

theorem padRL_val (n : Int) : ∀ k : Nat, iter padRL_step k [128] = 128 :: List.replicate k 0
  | 0 => rfl
  | k + 1 => by
    show sub (iter padRL_step k [128]) 0 (1 + k) ++ [0] = _
    rw [padRL_val n k, sub_all _ _ (by simp; omega), List.cons_append, ← List.replicate_succ']

theorem set_take (e : Nat) (h1 : 1 ≤ e) (h2 : e ≤ 256) : sub (List.set (List.replicate 256 (0 : Int)) 0 128) 0 e = 128 :: List.replicate (e - 1) 0 := by
  obtain ⟨m, rfl⟩ : ∃ m, e = m + 1 := ⟨e - 1, by omega⟩
  have : List.replicate 256 (0 : Int) = 0 :: List.replicate 255 0 := rfl
  rw [this, List.set_cons_zero]
  unfold sub
  rw [List.drop_zero, List.take_succ_cons, List.take_replicate]
  congr 2; omega
end Go.Proofs.Ytepimglipelpmaa.X

/- Plain lemmas: the two Pads lay the same bytes, in full. -/
namespace Go.Proofs.Ytepimglipelpmaa.X
open Go Go.Proofs
set_option maxRecDepth 100000

def padSpec (n : Int) (e : Nat) : List Int := (((((((((128 :: List.replicate (e - 1) (0 : Int)) ++ List.replicate 8 (0 : Int)) ++ ([(IntKind.u8.wrap (shr .u64 (IntKind.u64.wrap (n * (8 : Int))) (56 : Int)))] : List Int)) ++ ([(IntKind.u8.wrap (shr .u64 (IntKind.u64.wrap (n * (8 : Int))) (48 : Int)))] : List Int)) ++ ([(IntKind.u8.wrap (shr .u64 (IntKind.u64.wrap (n * (8 : Int))) (40 : Int)))] : List Int)) ++ ([(IntKind.u8.wrap (shr .u64 (IntKind.u64.wrap (n * (8 : Int))) (32 : Int)))] : List Int)) ++ ([(IntKind.u8.wrap (shr .u64 (IntKind.u64.wrap (n * (8 : Int))) (24 : Int)))] : List Int)) ++ ([(IntKind.u8.wrap (shr .u64 (IntKind.u64.wrap (n * (8 : Int))) (16 : Int)))] : List Int)) ++ ([(IntKind.u8.wrap (shr .u64 (IntKind.u64.wrap (n * (8 : Int))) (8 : Int)))] : List Int)) ++ ([(IntKind.u8.wrap (shr .u64 (IntKind.u64.wrap (n * (8 : Int))) (0 : Int)))] : List Int)

theorem app_congr {x y z : List Int} (h : x = y) : x ++ z = y ++ z := by rw [h]

theorem padA (n : Int) (e : Nat) (h1 : 1 ≤ e) (h2 : e ≤ 128) : sub (splice (splice (splice (splice (splice (splice (splice (splice (splice (List.set (List.replicate (256 : Nat) (0 : Int)) (0 : Nat) (128 : Int)) ((0 : Nat) + e) (8 : Nat) (List.replicate (8 : Nat) (0 : Int))) ((0 : Nat) + (e + (8 : Nat))) (1 : Nat) ([(IntKind.u8.wrap (shr .u64 (IntKind.u64.wrap (n * (8 : Int))) (56 : Int)))] : List Int)) ((0 : Nat) + (e + (9 : Nat))) (1 : Nat) ([(IntKind.u8.wrap (shr .u64 (IntKind.u64.wrap (n * (8 : Int))) (48 : Int)))] : List Int)) ((0 : Nat) + (e + (10 : Nat))) (1 : Nat) ([(IntKind.u8.wrap (shr .u64 (IntKind.u64.wrap (n * (8 : Int))) (40 : Int)))] : List Int)) ((0 : Nat) + (e + (11 : Nat))) (1 : Nat) ([(IntKind.u8.wrap (shr .u64 (IntKind.u64.wrap (n * (8 : Int))) (32 : Int)))] : List Int)) ((0 : Nat) + (e + (12 : Nat))) (1 : Nat) ([(IntKind.u8.wrap (shr .u64 (IntKind.u64.wrap (n * (8 : Int))) (24 : Int)))] : List Int)) ((0 : Nat) + (e + (13 : Nat))) (1 : Nat) ([(IntKind.u8.wrap (shr .u64 (IntKind.u64.wrap (n * (8 : Int))) (16 : Int)))] : List Int)) ((0 : Nat) + (e + (14 : Nat))) (1 : Nat) ([(IntKind.u8.wrap (shr .u64 (IntKind.u64.wrap (n * (8 : Int))) (8 : Int)))] : List Int)) ((0 : Nat) + (e + (15 : Nat))) (1 : Nat) ([(IntKind.u8.wrap (shr .u64 (IntKind.u64.wrap (n * (8 : Int))) (0 : Int)))] : List Int)) 0 (e + 16) = padSpec n e := by
  unfold padSpec
  refine (app_step' (c := 0 + (e + 15)) (m := 1) (by omega) (by (repeat' (first | refine splice_len3 ?_ ?_ ?_)) <;> first | (rw [List.length_set, List.length_replicate]) | omega | rfl) (by omega) rfl).trans ?_
  refine app_congr ?_
  refine (app_step' (c := 0 + (e + 14)) (m := 1) (by omega) (by (repeat' (first | refine splice_len3 ?_ ?_ ?_)) <;> first | (rw [List.length_set, List.length_replicate]) | omega | rfl) (by omega) rfl).trans ?_
  refine app_congr ?_
  refine (app_step' (c := 0 + (e + 13)) (m := 1) (by omega) (by (repeat' (first | refine splice_len3 ?_ ?_ ?_)) <;> first | (rw [List.length_set, List.length_replicate]) | omega | rfl) (by omega) rfl).trans ?_
  refine app_congr ?_
  refine (app_step' (c := 0 + (e + 12)) (m := 1) (by omega) (by (repeat' (first | refine splice_len3 ?_ ?_ ?_)) <;> first | (rw [List.length_set, List.length_replicate]) | omega | rfl) (by omega) rfl).trans ?_
  refine app_congr ?_
  refine (app_step' (c := 0 + (e + 11)) (m := 1) (by omega) (by (repeat' (first | refine splice_len3 ?_ ?_ ?_)) <;> first | (rw [List.length_set, List.length_replicate]) | omega | rfl) (by omega) rfl).trans ?_
  refine app_congr ?_
  refine (app_step' (c := 0 + (e + 10)) (m := 1) (by omega) (by (repeat' (first | refine splice_len3 ?_ ?_ ?_)) <;> first | (rw [List.length_set, List.length_replicate]) | omega | rfl) (by omega) rfl).trans ?_
  refine app_congr ?_
  refine (app_step' (c := 0 + (e + 9)) (m := 1) (by omega) (by (repeat' (first | refine splice_len3 ?_ ?_ ?_)) <;> first | (rw [List.length_set, List.length_replicate]) | omega | rfl) (by omega) rfl).trans ?_
  refine app_congr ?_
  refine (app_step' (c := 0 + (e + 8)) (m := 1) (by omega) (by (repeat' (first | refine splice_len3 ?_ ?_ ?_)) <;> first | (rw [List.length_set, List.length_replicate]) | omega | rfl) (by omega) rfl).trans ?_
  refine app_congr ?_
  refine (app_step' (c := 0 + e) (m := 8) (by omega) (by (repeat' (first | refine splice_len3 ?_ ?_ ?_)) <;> first | (rw [List.length_set, List.length_replicate]) | omega | rfl) (by omega) rfl).trans ?_
  refine app_congr ?_
  rw [Nat.zero_add]
  exact set_take e h1 (by omega)

theorem padB_ (n : Int) (e : Nat) (h1 : 1 ≤ e) (h2 : e ≤ 128) : sub ((sub ((sub ((sub ((sub ((sub ((sub ((sub ((sub ((sub ((sub ((sub ((sub ((sub ((sub ((sub ((sub (128 :: List.replicate (e - 1) (0 : Int)) (0 : Nat) e) ++ ([0] : List Int)) (0 : Nat) (e + (1 : Nat))) ++ ([0] : List Int)) (0 : Nat) (e + (2 : Nat))) ++ ([0] : List Int)) (0 : Nat) (e + (3 : Nat))) ++ ([0] : List Int)) (0 : Nat) (e + (4 : Nat))) ++ ([0] : List Int)) (0 : Nat) (e + (5 : Nat))) ++ ([0] : List Int)) (0 : Nat) (e + (6 : Nat))) ++ ([0] : List Int)) (0 : Nat) (e + (7 : Nat))) ++ ([0] : List Int)) (0 : Nat) (e + (8 : Nat))) ++ ([(IntKind.u8.wrap (shr .u64 (IntKind.u64.wrap (n * (8 : Int))) (56 : Int)))] : List Int)) (0 : Nat) (e + (9 : Nat))) ++ ([(IntKind.u8.wrap (shr .u64 (IntKind.u64.wrap (n * (8 : Int))) (48 : Int)))] : List Int)) (0 : Nat) (e + (10 : Nat))) ++ ([(IntKind.u8.wrap (shr .u64 (IntKind.u64.wrap (n * (8 : Int))) (40 : Int)))] : List Int)) (0 : Nat) (e + (11 : Nat))) ++ ([(IntKind.u8.wrap (shr .u64 (IntKind.u64.wrap (n * (8 : Int))) (32 : Int)))] : List Int)) (0 : Nat) (e + (12 : Nat))) ++ ([(IntKind.u8.wrap (shr .u64 (IntKind.u64.wrap (n * (8 : Int))) (24 : Int)))] : List Int)) (0 : Nat) (e + (13 : Nat))) ++ ([(IntKind.u8.wrap (shr .u64 (IntKind.u64.wrap (n * (8 : Int))) (16 : Int)))] : List Int)) (0 : Nat) (e + (14 : Nat))) ++ ([(IntKind.u8.wrap (shr .u64 (IntKind.u64.wrap (n * (8 : Int))) (8 : Int)))] : List Int)) (0 : Nat) (e + (15 : Nat))) ++ ([(IntKind.u8.wrap (shr .u64 (IntKind.u64.wrap (n * (8 : Int))) (0 : Int)))] : List Int)) 0 (e + 16) = padSpec n e := by
  unfold padSpec
  simp (disch := (simp; omega)) only [sub_all]
  simp only [List.append_assoc, List.cons_append, List.nil_append, List.replicate_succ, List.replicate_zero]
end Go.Proofs.Ytepimglipelpmaa.X

/- Plain lemma: the two Pads answer the same bytes. -/
namespace Go.Proofs.Ytepimglipelpmaa.X
open Go Go.Proofs

theorem padL_eq (n : Int) : sub (pad_1 n) 0 (pad n) = padSpec n (padE n).toNat := by
  have h := padE_ok n
  have := padA n (padE n).toNat (by omega) (by omega)
  rw [← this]; rfl

theorem padR_len (n : Int) : padR n = pad n := by
  have h := padE_ok n
  rw [pad_eq]
  unfold padR
  omega

theorem padRL_out (n : Int) : padRL_out0 n [128] = 128 :: List.replicate ((padE n).toNat - 1) 0 := padRL_val n _

theorem padR_eqL (n : Int) : sub (padR_1 n) 0 (padR n) = padSpec n (padE n).toNat := by
  have h := padE_ok n
  have hb := padB_ n (padE n).toNat (by omega) (by omega)
  have e1 : 1 + ((padE n).toNat - 1) = (padE n).toNat := by omega
  rw [padR_len, pad_eq, ← hb]
  unfold padR_1
  rw [padRL_out, e1]

theorem pad_same (n : Int) : sub (padR_1 n) 0 (padR n) = sub (pad_1 n) 0 (pad n) := by
  rw [padR_eqL, padL_eq]
end Go.Proofs.Ytepimglipelpmaa.X

