/- Texts of this session, put together (part 6), less what nothing uses. -/
import Derived.Test.YtlmdhjojinkdbaaGT5
import Derived.KernelRfl
import Derived.WalkKit
import Derived.ProofKit
import Derived.OpenShut
import Derived.JoinedCond
import Derived.Carry
import Derived.Test.YtlmdhjojinkdbaaRows
/- Printed by a tool of this session. -/
namespace Go.Proofs.Ytlmdhjojinkdbaa.X
open Go Go.Proofs
set_option linter.unusedVariables false
set_option linter.unusedSimpArgs false
set_option maxRecDepth 100000
theorem teTH_3 : TEOk Try.prog 3 ⟨.int .i64, 1, 8, [.i .i64 (0 : Int)], false⟩ :=
  TEOk.of Try.underlying3 (i := Try.t3) (by kernel_rfl) rfl rfl rfl (by kernel_rfl) (fun h => by cases h) (by kernel_rfl)
theorem teTH_4 : TEOk Try.prog 4 ⟨.bool, 1, 1, [.b false], false⟩ :=
  TEOk.of Try.underlying4 (i := Try.t4) (by kernel_rfl) rfl rfl rfl (by kernel_rfl) (fun h => by cases h) (by kernel_rfl)
theorem teTH_5 : TEOk Try.prog 5 ⟨.int .u8, 1, 1, [.i .u8 (0 : Int)], false⟩ :=
  TEOk.of Try.underlying5 (i := Try.t5) (by kernel_rfl) rfl rfl rfl (by kernel_rfl) (fun h => by cases h) (by kernel_rfl)
theorem teTH_72 : TEOk Try.prog 72 ⟨.array 32 5, 32, 32, [.ints .u8 (32 : Nat) ([0, 0, 0, 0, 0, 0, 0, 0, 0, 0, 0, 0, 0, 0, 0, 0, 0, 0, 0, 0, 0, 0, 0, 0, 0, 0, 0, 0, 0, 0, 0, 0] : List Int)], true⟩ :=
  TEOk.of Try.underlying72 (i := Try.t72) (by kernel_rfl) rfl rfl rfl (by kernel_rfl) (fun _ => Try.eqGuardType72) (by kernel_rfl)
theorem teTH_89 : TEOk Try.prog 89 ⟨.pointer 140, 1, 8, [.raw (.pointer none)], false⟩ :=
  TEOk.of Try.underlying89 (i := Try.t89) (by kernel_rfl) rfl rfl rfl (by kernel_rfl) (fun h => by cases h) (by kernel_rfl)
theorem teTH_91 : TEOk Try.prog 91 ⟨.slice 72, 1, 24, [.raw (.slice none 0 0)], false⟩ :=
  TEOk.of Try.underlying91 (i := Try.t91) (by kernel_rfl) rfl rfl rfl (by kernel_rfl) (fun h => by cases h) (by kernel_rfl)
theorem teTH_92 : TEOk Try.prog 92 ⟨.slice 3, 1, 24, [.raw (.slice none 0 0)], false⟩ :=
  TEOk.of Try.underlying92 (i := Try.t92) (by kernel_rfl) rfl rfl rfl (by kernel_rfl) (fun h => by cases h) (by kernel_rfl)
theorem teTH_95 : TEOk Try.prog 95 ⟨.slice 98, 1, 24, [.raw (.slice none 0 0)], false⟩ :=
  TEOk.of Try.underlying95 (i := Try.t95) (by kernel_rfl) rfl rfl rfl (by kernel_rfl) (fun h => by cases h) (by kernel_rfl)
theorem teTH_98 : TEOk Try.prog 98 ⟨.array 32 5, 32, 32, [.ints .u8 (32 : Nat) ([0, 0, 0, 0, 0, 0, 0, 0, 0, 0, 0, 0, 0, 0, 0, 0, 0, 0, 0, 0, 0, 0, 0, 0, 0, 0, 0, 0, 0, 0, 0, 0] : List Int)], true⟩ :=
  TEOk.of Try.underlying98 (i := Try.t98) (by kernel_rfl) rfl rfl rfl (by kernel_rfl) (fun _ => Try.eqGuardType98) (by kernel_rfl)
noncomputable def tabTH : List (Nat × TE) := [(3, ⟨.int .i64, 1, 8, [.i .i64 (0 : Int)], false⟩), (4, ⟨.bool, 1, 1, [.b false], false⟩), (5, ⟨.int .u8, 1, 1, [.i .u8 (0 : Int)], false⟩), (72, ⟨.array 32 5, 32, 32, [.ints .u8 (32 : Nat) ([0, 0, 0, 0, 0, 0, 0, 0, 0, 0, 0, 0, 0, 0, 0, 0, 0, 0, 0, 0, 0, 0, 0, 0, 0, 0, 0, 0, 0, 0, 0, 0] : List Int)], true⟩), (89, ⟨.pointer 140, 1, 8, [.raw (.pointer none)], false⟩), (91, ⟨.slice 72, 1, 24, [.raw (.slice none 0 0)], false⟩), (92, ⟨.slice 3, 1, 24, [.raw (.slice none 0 0)], false⟩), (95, ⟨.slice 98, 1, 24, [.raw (.slice none 0 0)], false⟩), (98, ⟨.array 32 5, 32, 32, [.ints .u8 (32 : Nat) ([0, 0, 0, 0, 0, 0, 0, 0, 0, 0, 0, 0, 0, 0, 0, 0, 0, 0, 0, 0, 0, 0, 0, 0, 0, 0, 0, 0, 0, 0, 0, 0] : List Int)], true⟩)]
theorem tabOkTH : TabOk Try.prog (tabOf tabTH) := (tabOf_cons teTH_3 (tabOf_cons teTH_4 (tabOf_cons teTH_5 (tabOf_cons teTH_72 (tabOf_cons teTH_89 (tabOf_cons teTH_91 (tabOf_cons teTH_92 (tabOf_cons teTH_95 (tabOf_cons teTH_98 tabOf_nil)))))))))

theorem numT_pure (x : Int) : PureC Try.prog 11 [.a (.i .i64 x)] [.a (.i .i64 x)] :=
  PureC.of_body tabOkTD Try.func11 rfl rfl fun w => numT_body x w

noncomputable def gam901 : Gam := gpure 11 (fun args => match args with | [.o (.a (.i .i64 x))] => some (none, [.a (.i .i64 x)]) | _ => none) V.gv69
theorem gam901_ok : GamOk Try.prog gam901 := gpure_ok V.gv69_ok Try.call11 (by
  intro args vc xs h hv
  split at h
  · simp only [Option.some.injEq, Prod.mk.injEq] at h; obtain ⟨rfl, rfl⟩ := h; exact ⟨_, by rfl, numT_pure _⟩
  · simp at h)

noncomputable def gam902 : Gam := gcall 9 [] [] (fun wk vs args => match wk, vs, args with | [], [], [] => some (True, [.a (.b true)], []) | _, _, _ => none) gam901
theorem gam902_ok : GamOk Try.prog gam902 := gcall_ok tabOkDK Try.func9 gam901_ok Try.call9 (by
  intro wk vs args p xs K1 h hv
  split at h
  · simp only [Option.some.injEq, Prod.mk.injEq] at h; obtain ⟨rfl, rfl, rfl⟩ := h; exact fun caps w rw β => alive_body0 w rw β
  · simp at h)

noncomputable def gam903 : Gam := gcall 34 [] [.s 32] (fun wk vs args => match wk, vs, args with | [], [⟨_, _, _, [.ints .u8 nm l]⟩], [.o (.a (.sl 0 0 n _))] => some ((nm = (n * (32 : Nat))) ∧ (n < (1099511627776 : Nat)), [.a (.rs 1 0 n 32)], [some ⟨false, [.ints .u8 nm l]⟩, some ⟨true, [.ints .u8 (copyR n) (copyR_1 n l)]⟩]) | _, _, _ => none) gam902
theorem gam903_ok : GamOk Try.prog gam903 := gcall_ok tabOkTA Try.func34 gam902_ok Try.call34 (by
  intro wk vs args p xs K1 h hv
  split at h
  · simp only [Option.some.injEq, Prod.mk.injEq] at h; obtain ⟨rfl, rfl, rfl⟩ := h; obtain ⟨g0, g1⟩ := hv; exact fun caps w rw β => copyR_body _ _ _ _ g0 g1 w rw β
  · simp at h)

noncomputable def gam904 : Gam := gcall 35 [] [.s 32] (fun wk vs args => match wk, vs, args with | [], [⟨_, _, _, [.ints .u8 nm l]⟩], [.o (.a (.sl 0 0 n _))] => some ((nm = (n * (32 : Nat))) ∧ (n < (1099511627776 : Nat)), [.a (.p 2 0)], [some ⟨false, [.ints .u8 nm l]⟩, some ⟨true, [.ints .u8 (newTape n) (newTape_1 n l)]⟩, some ⟨true, [.rs 1 0 n 32]⟩]) | _, _, _ => none) gam903
theorem gam904_ok : GamOk Try.prog gam904 := gcall_ok tabOkTA Try.func35 gam903_ok Try.call35 (by
  intro wk vs args p xs K1 h hv
  split at h
  · simp only [Option.some.injEq, Prod.mk.injEq] at h; obtain ⟨rfl, rfl, rfl⟩ := h; obtain ⟨g0, g1⟩ := hv; exact fun caps w rw β => newTape_body _ _ _ _ g0 g1 w rw β
  · simp at h)

noncomputable def gam905 : Gam := gcall 32 [true, true] [.w] (fun wk vs args => match wk, vs, args with | [⟨true, [.rs 1 c m 32]⟩, ⟨true, [.ints .u8 sz l]⟩], [], [.o (.a (.p 0 0))] => some (((c + (m * (32 : Nat))) ≤ sz) ∧ (m < (1099511627776 : Nat)), [.g [.ints .u8 (32 : Nat) (tnV c m l)], .a (.i .i64 (tnE m))], [some ⟨true, [.rs 1 (tnC c m) (tnM m) 32]⟩, some ⟨true, [.ints .u8 sz l]⟩]) | _, _, _ => none) gam904
theorem gam905_ok : GamOk Try.prog gam905 := gcall_ok tabOkTA Try.func32 gam904_ok Try.call32 (by
  intro wk vs args p xs K1 h hv
  split at h
  · simp only [Option.some.injEq, Prod.mk.injEq] at h; obtain ⟨rfl, rfl, rfl⟩ := h; obtain ⟨g0, g1⟩ := hv; exact fun caps w rw β => tapeAny_body _ _ _ _ g0 g1 w rw β
  · simp at h)

noncomputable def gam906 : Gam := gcall 33 [true, true] [.w] (fun wk vs args => match wk, vs, args with | [⟨true, [.rs 1 c m 32]⟩, ⟨true, [.ints .u8 sz l]⟩], [], [.o (.a (.p 0 0))] => some (True, [.a (.i .i64 (tapeLeft m))], [some ⟨true, [.rs 1 c m 32]⟩, some ⟨true, [.ints .u8 sz l]⟩]) | _, _, _ => none) gam905
theorem gam906_ok : GamOk Try.prog gam906 := gcall_ok tabOkTA Try.func33 gam905_ok Try.call33 (by
  intro wk vs args p xs K1 h hv
  split at h
  · simp only [Option.some.injEq, Prod.mk.injEq] at h; obtain ⟨rfl, rfl, rfl⟩ := h; exact fun caps w rw β => tapeLeft_body _ _ _ _ w rw β
  · simp at h)

theorem two_pure (a b : List Int) (h0 : (V.Byt a)) (h1 : (V.Byt b)) : PureC Try.prog 37 [.g [.ints .u8 (32 : Nat) a], .g [.ints .u8 (32 : Nat) b]] [.g [.ints .u8 (32 : Nat) (two a b)]] :=
  PureC.of_body tabOkTD Try.func37 rfl rfl fun w => two_body a b h0 h1 w

noncomputable def gam907 : Gam := gpure 37 (fun args => match args with | [.o (.g [.ints .u8 (32 : Nat) a]), .o (.g [.ints .u8 (32 : Nat) b])] => some (some ((V.Byt a) ∧ (V.Byt b)), [.g [.ints .u8 (32 : Nat) (two a b)]]) | _ => none) gam906
theorem gam907_ok : GamOk Try.prog gam907 := gpure_ok gam906_ok Try.call37 (by
  intro args vc xs h hv
  split at h
  · simp only [Option.some.injEq, Prod.mk.injEq] at h; obtain ⟨rfl, rfl⟩ := h; exact ⟨_, by rfl, two_pure _ _ hv.1 hv.2⟩
  · simp at h)

noncomputable def gam908 : Gam := gcall 36 [true, true] [.w, .w] (fun wk vs args => match wk, vs, args with | [⟨true, [.rs 1 c m 32]⟩, ⟨true, [.ints .u8 sz l]⟩], [], [.o (.a (.ip 89 0 0)), .o (.a (.i .i64 N))] => some (((c + (m * (32 : Nat))) ≤ sz) ∧ (m < (1099511627776 : Nat)) ∧ (V.Byt l) ∧ ((0 : Int) ≤ N) ∧ (N ≤ (65536 : Int)), [.a (.rs 2 0 (scN N m) 32), .a (.i .i64 (scE N m))], [some ⟨true, [.rs 1 (scC N c m) (scM N m) 32]⟩, some ⟨true, [.ints .u8 sz l]⟩, some ⟨true, [.ints .u8 (scZ N m) (scV N c m l)]⟩]) | _, _, _ => none) gam907
theorem gam908_ok : GamOk Try.prog gam908 := gcall_ok tabOkTC Try.func36 gam907_ok Try.call36 (by
  intro wk vs args p xs K1 h hv
  split at h
  · simp only [Option.some.injEq, Prod.mk.injEq] at h; obtain ⟨rfl, rfl, rfl⟩ := h; obtain ⟨g0, g1, g2, g3, g4⟩ := hv; exact fun caps w rw β => scal_body _ _ _ _ _ g0 g1 g2 g3 g4 w rw β
  · simp at h)

noncomputable def gam909 : Gam := gcall 36 [true, true] [.w, .w] (fun wk vs args => match wk, vs, args with | [⟨true, [.rs 1 c m 32]⟩, ⟨true, [.ints .u8 sz l]⟩], [], [.o (.a (.ip 89 0 0)), .o (.a (.i .i64 N))] => some ((N < (0 : Int)), [.a (.raw (.slice none 0 0)), .a (.i .i64 (1 : Int))], [some ⟨true, [.rs 1 c m 32]⟩, some ⟨true, [.ints .u8 sz l]⟩]) | _, _, _ => none) gam907
theorem gam909_ok : GamOk Try.prog gam909 := gcall_ok tabOkTD Try.func36 gam907_ok Try.call36 (by
  intro wk vs args p xs K1 h hv
  split at h
  · simp only [Option.some.injEq, Prod.mk.injEq] at h; obtain ⟨rfl, rfl, rfl⟩ := h; have g0 := hv; exact fun caps w rw β => scN1_body _ _ _ _ _ g0 w rw β
  · simp at h)

noncomputable def gam910 : Gam := gcall 36 [true, true] [.w, .w] (fun wk vs args => match wk, vs, args with | [⟨true, [.rs 1 c m 32]⟩, ⟨true, [.ints .u8 sz l]⟩], [], [.o (.a (.ip 89 0 0)), .o (.a (.i .i64 N))] => some (((65536 : Int) < N), [.a (.raw (.slice none 0 0)), .a (.i .i64 (1 : Int))], [some ⟨true, [.rs 1 c m 32]⟩, some ⟨true, [.ints .u8 sz l]⟩]) | _, _, _ => none) gam907
theorem gam910_ok : GamOk Try.prog gam910 := gcall_ok tabOkTD Try.func36 gam907_ok Try.call36 (by
  intro wk vs args p xs K1 h hv
  split at h
  · simp only [Option.some.injEq, Prod.mk.injEq] at h; obtain ⟨rfl, rfl, rfl⟩ := h; have g0 := hv; exact fun caps w rw β => scN2_body _ _ _ _ _ g0 w rw β
  · simp at h)

noncomputable def tp0_mk (n nm : Nat) (l : List Int) (p pm : Nat) (A : List Int) (cap0 cap1 k : Nat) (s : (List Int)) : St := ⟨sparse 186 [(0, .o (.a (.sl 0 0 n cap0))), (1, .o (.a (.sl 1 0 p cap1))), (4, .o (.a (.b false))), (5, .o (.a (.rs 2 0 n 32))), (6, .o (.a (.p 4 0))), (7, .o (.a (.i .i64 ((k : Nat) : Int)))), (17, .o (.a (.sl 0 0 n cap0))), (18, .o (.a (.rs 2 0 n 32))), (19, .o (.a (.rs 2 0 n 32))), (20, .o (.a (.p 4 0))), (21, .o (.a (.p 4 0))), (22, .o (.a (.b false)))], [some ⟨false, [.ints .u8 nm l]⟩, some ⟨false, [.ints .i64 pm A]⟩, some ⟨true, [.ints .u8 (copyR n) s]⟩, some ⟨true, [.ints .u8 (newTape n) (newTape_1 n (sub (copyR_1 n (sub l 0 (n * (32 : Nat)))) (0 : Nat) (n * (32 : Nat))))]⟩, some ⟨true, [.rs 3 0 n 32]⟩]⟩

noncomputable def tp0_step (k : Nat) (s : (List Int)) : (List Int) :=
  ((splice s (k * (32 : Nat)) (32 : Nat) ([238, (IntKind.u8.wrap ((k : Nat) : Int)), 0, 0, 0, 0, 0, 0, 0, 0, 0, 0, 0, 0, 0, 0, 0, 0, 0, 0, 0, 0, 0, 0, 0, 0, 0, 0, 0, 0, 0, 0] : List Int)))

set_option maxHeartbeats 1000000 in
theorem tp0_round (n nm : Nat) (l : List Int) (p pm : Nat) (A : List Int) (cap0 cap1 : Nat) (h0 : (pm = p)) (h1 : (nm = (n * (32 : Nat)))) (h2 : (n < (1099511627776 : Nat))) (h3 : (p < (1099511627776 : Nat))) (h4 : (V.Byt l)) (h5 : (List.length l = n * 32)) (hc0 : n ≤ cap0) (hc1 : p ≤ cap1) (hl0_0 : List.length l = nm) (hl1_0 : List.length A = pm) (w : World) (β : Env) (k : Nat) (hk : k < n) (s : (List Int)) : Run Try.prog ⟨w, [], 2, β⟩ (loopB Try.f8 0) (tp0_mk n nm l p pm A cap0 cap1 k s) (To ⟨w, [], 2, β⟩ .normal (tp0_mk n nm l p pm A cap0 cap1 (k + 1) (tp0_step k s))) := by
  have e0 : (IntKind.i64.wrap (((k : Nat) : Int) + (1 : Int))) = (((k + (1 : Nat)) : Nat) : Int) := (by first | rfl | exact wrap_succ (by omega) | omega | (simp (disch := omega) only [wrapI]; omega))
  have h := Run.of_outT (B := ⟨w, [], 2, β⟩) (Λ := noLam) (Ψ := noPsi) (fuel := 0) (ora := [true]) (c := (loopB Try.f8 0)) (st := (tp0_mk n nm l p pm A cap0 cap1 k s)) (l := [.forget [0, 1, 4, 5, 6, 7, 17, 18, 19, 20, 21, 22] 5]) (s' := ⟨sparse 186 [(0, .o (.a (.sl 0 0 n cap0))), (1, .o (.a (.sl 1 0 p cap1))), (4, .o (.a (.b false))), (5, .o (.a (.rs 2 0 n 32))), (6, .o (.a (.p 4 0))), (7, .o (.a (.i .i64 (IntKind.i64.wrap (((k : Nat) : Int) + (1 : Int)))))), (17, .o (.a (.sl 0 0 n cap0))), (18, .o (.a (.rs 2 0 n 32))), (19, .o (.a (.rs 2 0 n 32))), (20, .o (.a (.p 4 0))), (21, .o (.a (.p 4 0))), (22, .o (.a (.b false)))], [some ⟨false, [.ints .u8 nm l]⟩, some ⟨false, [.ints .i64 pm A]⟩, some ⟨true, [.ints .u8 (copyR n) (tp0_step k s)]⟩, some ⟨true, [.ints .u8 (newTape n) (newTape_1 n (sub (copyR_1 n (sub l 0 (n * (32 : Nat)))) (0 : Nat) (n * (32 : Nat))))]⟩, some ⟨true, [.rs 3 0 n 32]⟩]⟩) (ex := .normal) mix tabOkTH gam907_ok
    (vc := [(((k * (32 : Nat)) + (32 : Nat)) ≤ (copyR n)), (((0 : Int) ≤ ((k : Nat) : Int)) ∧ (((k : Nat) : Int) < ((n : Nat) : Int))), ((decide (((k : Nat) : Int) < ((n : Nat) : Int))) = true)]) (by kernel_rfl)
    (aC (by first | omega | (show _ ≤ n * 32; omega) | (simp (disch := omega) only [wrapI]; omega)) (aC ⟨(by first | omega | (show _ ≤ n * 32; omega) | (simp (disch := omega) only [wrapI]; omega)), (by first | omega | (show _ ≤ n * 32; omega) | (simp (disch := omega) only [wrapI]; omega))⟩ (aC (decide_eq_true (by first | omega | (show _ ≤ n * 32; omega) | (simp (disch := omega) only [wrapI]; omega))) (AllP_nil))))
  rw [e0] at h
  exact h

set_option maxHeartbeats 1000000 in
theorem tp0_last (n nm : Nat) (l : List Int) (p pm : Nat) (A : List Int) (cap0 cap1 : Nat) (h0 : (pm = p)) (h1 : (nm = (n * (32 : Nat)))) (h2 : (n < (1099511627776 : Nat))) (h3 : (p < (1099511627776 : Nat))) (h4 : (V.Byt l)) (h5 : (List.length l = n * 32)) (hc0 : n ≤ cap0) (hc1 : p ≤ cap1) (hl0_0 : List.length l = nm) (hl1_0 : List.length A = pm) (w : World) (β : Env) (s : (List Int)) : Run Try.prog ⟨w, [], 2, β⟩ (loopB Try.f8 0) (tp0_mk n nm l p pm A cap0 cap1 n s) (To ⟨w, [], 2, β⟩ (.exit 0) (tp0_mk n nm l p pm A cap0 cap1 n s)) :=
  Run.of_outT (B := ⟨w, [], 2, β⟩) (Λ := noLam) (Ψ := noPsi) (fuel := 0) (ora := [false]) (l := [.forget [0, 1, 4, 5, 6, 7, 17, 18, 19, 20, 21, 22] 5]) mix tabOkTH gam907_ok
    (vc := [((decide (((n : Nat) : Int) < ((n : Nat) : Int))) = false)]) (by kernel_rfl)
    (aC (decide_eq_false (by first | omega | (simp (disch := omega) only [wrapI]; omega))) (AllP_nil))

theorem tp0_loop (n nm : Nat) (l : List Int) (p pm : Nat) (A : List Int) (cap0 cap1 : Nat) (h0 : (pm = p)) (h1 : (nm = (n * (32 : Nat)))) (h2 : (n < (1099511627776 : Nat))) (h3 : (p < (1099511627776 : Nat))) (h4 : (V.Byt l)) (h5 : (List.length l = n * 32)) (hc0 : n ≤ cap0) (hc1 : p ≤ cap1) (hl0_0 : List.length l = nm) (hl1_0 : List.length A = pm) (w : World) (β : Env) (s : (List Int)) : Run Try.prog ⟨w, [], 2, β⟩ (.block 0 (.loop (loopB Try.f8 0))) (tp0_mk n nm l p pm A cap0 cap1 0 s) (To ⟨w, [], 2, β⟩ .normal (tp0_mk n nm l p pm A cap0 cap1 n (iter (tp0_step) n s))) :=
  Run.count (fun k => tp0_mk n nm l p pm A cap0 cap1 k (iter (tp0_step) k s)) n (fun k hk => tp0_round n nm l p pm A cap0 cap1 h0 h1 h2 h3 h4 h5 hc0 hc1 hl0_0 hl1_0 w β k hk _) (ex := (.exit 0)) (by simp) (tp0_last n nm l p pm A cap0 cap1 h0 h1 h2 h3 h4 h5 hc0 hc1 hl0_0 hl1_0 w β _)

noncomputable def tp0_out0 (n : Nat) (i0 : List Int) : List Int := (iter (tp0_step) n (i0))

noncomputable def tp2_mk (n nm : Nat) (l : List Int) (p pm : Nat) (A : List Int) (cap0 cap1 i : Nat) (si : Unit) : St := ⟨sparse 186 [(0, .o (.a (.sl 0 0 n cap0))), (1, .o (.a (.sl 1 0 p cap1))), (5, .o (.a (.rs 2 0 n 32))), (6, .o (.a (.p 4 0))), (7, .o (.a (.i .i64 ((n : Nat) : Int)))), (8, .o (.a (.i .i64 (((tpAt n A i) : Nat) : Int)))), (9, .o (.a (.i .i64 ((i : Nat) : Int)))), (17, .o (.a (.sl 0 0 n cap0))), (18, .o (.a (.rs 2 0 n 32))), (19, .o (.a (.rs 2 0 n 32))), (20, .o (.a (.p 4 0))), (21, .o (.a (.p 4 0))), (22, .o (.a (.b false)))], [some ⟨false, [.ints .u8 nm l]⟩, some ⟨false, [.ints .i64 pm A]⟩, some ⟨true, [.ints .u8 (copyR n) (tp0_out0 n (copyR_1 n (sub l 0 (n * (32 : Nat)))))]⟩, some ⟨true, [.ints .u8 (n * (32 : Nat)) l]⟩, some ⟨true, [.rs 3 ((tpAt n A i) * (32 : Nat)) (n - (tpAt n A i)) 32]⟩]⟩

noncomputable def tp2_step (i : Nat) (si : Unit) : Unit :=
  ()

set_option maxHeartbeats 1000000 in
theorem tp2_round_0 (n nm : Nat) (l : List Int) (p pm : Nat) (A : List Int) (cap0 cap1 : Nat) (h0 : (pm = p)) (h1 : (nm = (n * (32 : Nat)))) (h2 : (n < (1099511627776 : Nat))) (h3 : (p < (1099511627776 : Nat))) (h4 : (V.Byt l)) (h5 : (List.length l = n * 32)) (hc0 : n ≤ cap0) (hc1 : p ≤ cap1) (hl0_0 : List.length l = nm) (hl1_0 : List.length A = pm) (w : World) (β : Env) (i : Nat) (hi : i < p) (si : Unit) (y0 : (List.getD A i 0) = 0) (hz : tpAt n A i = n) : Run Try.prog ⟨w, [], 2, β⟩ (loopB Try.f8 2) (tp2_mk n nm l p pm A cap0 cap1 i si) (To ⟨w, [], 2, β⟩ .normal (tp2_mk n nm l p pm A cap0 cap1 (i + 1) (tp2_step i si))) := by
  have e0 : (IntKind.i64.wrap (((i : Nat) : Int) + (1 : Int))) = (((i + (1 : Nat)) : Nat) : Int) := (by first | rfl | exact wrap_succ (by omega) | omega | (simp (disch := omega) only [wrapI]; omega))
  have h := Run.of_outT (B := ⟨w, [], 2, β⟩) (Λ := noLam) (Ψ := psiOf [(14, [.eqS 11 (.o (.a (.i .i64 (122 : Int)))), .eqB 5 (⟨true, [.ints .u8 (32 : Nat) ([0, 0, 0, 0, 0, 0, 0, 0, 0, 0, 0, 0, 0, 0, 0, 0, 0, 0, 0, 0, 0, 0, 0, 0, 0, 0, 0, 0, 0, 0, 0, 0] : List Int)]⟩)])]) (fuel := 0) (ora := [true, true, true, true, true, true, false, false]) (c := (loopB Try.f8 2)) (st := (tp2_mk n nm l p pm A cap0 cap1 i si)) (l := [.eqS 8 (.o (.a (.i .i64 (((tpAt n A (i + (1 : Nat))) : Nat) : Int)))), .eqB 4 (⟨true, [.rs 3 ((tpAt n A (i + (1 : Nat))) * (32 : Nat)) (n - (tpAt n A (i + (1 : Nat)))) 32]⟩), .forget [0, 1, 5, 6, 7, 8, 9, 17, 18, 19, 20, 21, 22] 5]) (s' := ⟨sparse 186 [(0, .o (.a (.sl 0 0 n cap0))), (1, .o (.a (.sl 1 0 p cap1))), (5, .o (.a (.rs 2 0 n 32))), (6, .o (.a (.p 4 0))), (7, .o (.a (.i .i64 ((n : Nat) : Int)))), (8, .o (.a (.i .i64 (((tpAt n A (i + (1 : Nat))) : Nat) : Int)))), (9, .o (.a (.i .i64 (IntKind.i64.wrap (((i : Nat) : Int) + (1 : Int)))))), (17, .o (.a (.sl 0 0 n cap0))), (18, .o (.a (.rs 2 0 n 32))), (19, .o (.a (.rs 2 0 n 32))), (20, .o (.a (.p 4 0))), (21, .o (.a (.p 4 0))), (22, .o (.a (.b false)))], [some ⟨false, [.ints .u8 nm l]⟩, some ⟨false, [.ints .i64 pm A]⟩, some ⟨true, [.ints .u8 (copyR n) (tp0_out0 n (copyR_1 n (sub l 0 (n * (32 : Nat)))))]⟩, some ⟨true, [.ints .u8 (n * (32 : Nat)) l]⟩, some ⟨true, [.rs 3 ((tpAt n A (i + (1 : Nat))) * (32 : Nat)) (n - (tpAt n A (i + (1 : Nat)))) 32]⟩]⟩) (ex := .normal) mix tabOkTH gam907_ok
    (vc := [((some ⟨true, [.rs 3 (tnC ((tpAt n A i) * (32 : Nat)) (n - (tpAt n A i))) (tnM (n - (tpAt n A i))) 32]⟩ : Option Blk) = some ⟨true, [.rs 3 ((tpAt n A (i + (1 : Nat))) * (32 : Nat)) (n - (tpAt n A (i + (1 : Nat)))) 32]⟩), ((.o (.a (.i .i64 (((tpAt n A i) : Nat) : Int))) : AV) = .o (.a (.i .i64 (((tpAt n A (i + (1 : Nat))) : Nat) : Int)))), (false = false), (false = false), (false = false), (false = false), (false = false), (((((tpAt n A i) : Nat) : Int) == ((n : Nat) : Int)) = true), ((some ⟨true, [.ints .u8 (32 : Nat) (tnV ((tpAt n A i) * (32 : Nat)) (n - (tpAt n A i)) l)]⟩ : Option Blk) = some ⟨true, [.ints .u8 (32 : Nat) ([0, 0, 0, 0, 0, 0, 0, 0, 0, 0, 0, 0, 0, 0, 0, 0, 0, 0, 0, 0, 0, 0, 0, 0, 0, 0, 0, 0, 0, 0, 0, 0] : List Int)]⟩), ((.o (.a (.i .i64 (tnE (n - (tpAt n A i))))) : AV) = .o (.a (.i .i64 (122 : Int)))), ((True ∧ True) ∧ (((((tpAt n A i) * (32 : Nat)) + ((n - (tpAt n A i)) * (32 : Nat))) ≤ (n * (32 : Nat))) ∧ ((n - (tpAt n A i)) < (1099511627776 : Nat)))), (((List.getD A i 0) == (0 : Int)) = true), (i < pm), (((0 : Int) ≤ ((i : Nat) : Int)) ∧ (((i : Nat) : Int) < ((p : Nat) : Int))), ((decide (((i : Nat) : Int) < ((p : Nat) : Int))) = true)]) (by kernel_rfl)
    (aC ((rsEq (by rw [tp_z0 y0 hz]; exact tnC_z (by omega)) (by rw [tp_z0 y0 hz]; unfold tnM; omega))) (aC ((iEq (by rw [tp_z0 y0 hz]))) (aC rfl (aC rfl (aC rfl (aC rfl (aC rfl (aC (beq_iff_eq.2 (by omega)) (aC ((by rw [tnV_z (by omega)]; try rfl)) (aC ((iEq (by rw [tnE_z (by omega)]))) (aC ⟨⟨trivial, trivial⟩, ⟨(by have ht := tpAt_le n A i; first | omega | (simp (disch := omega) only [wrapI]; omega)), (by have ht := tpAt_le n A i; first | omega | (simp (disch := omega) only [wrapI]; omega))⟩⟩ (aC (beq_iff_eq.2 y0) (aC (by have ht := tpAt_le n A i; first | omega | (simp (disch := omega) only [wrapI]; omega)) (aC ⟨(by have ht := tpAt_le n A i; first | omega | (simp (disch := omega) only [wrapI]; omega)), (by have ht := tpAt_le n A i; first | omega | (simp (disch := omega) only [wrapI]; omega))⟩ (aC (decide_eq_true (by have ht := tpAt_le n A i; first | omega | (simp (disch := omega) only [wrapI]; omega))) (AllP_nil))))))))))))))))
  rw [e0] at h
  exact h

set_option maxHeartbeats 1000000 in
theorem tp2_round_1 (n nm : Nat) (l : List Int) (p pm : Nat) (A : List Int) (cap0 cap1 : Nat) (h0 : (pm = p)) (h1 : (nm = (n * (32 : Nat)))) (h2 : (n < (1099511627776 : Nat))) (h3 : (p < (1099511627776 : Nat))) (h4 : (V.Byt l)) (h5 : (List.length l = n * 32)) (hc0 : n ≤ cap0) (hc1 : p ≤ cap1) (hl0_0 : List.length l = nm) (hl1_0 : List.length A = pm) (w : World) (β : Env) (i : Nat) (hi : i < p) (si : Unit) (y0 : (List.getD A i 0) = 0) (hz : tpAt n A i < n) : Run Try.prog ⟨w, [], 2, β⟩ (loopB Try.f8 2) (tp2_mk n nm l p pm A cap0 cap1 i si) (To ⟨w, [], 2, β⟩ .normal (tp2_mk n nm l p pm A cap0 cap1 (i + 1) (tp2_step i si))) := by
  have e0 : (IntKind.i64.wrap (((i : Nat) : Int) + (1 : Int))) = (((i + (1 : Nat)) : Nat) : Int) := (by first | rfl | exact wrap_succ (by omega) | omega | (simp (disch := omega) only [wrapI]; omega))
  have h := Run.of_outT (B := ⟨w, [], 2, β⟩) (Λ := noLam) (Ψ := psiOf [(14, [.eqS 11 (.o (.a (.i .i64 (0 : Int)))), .eqB 5 (⟨true, [.ints .u8 (32 : Nat) (sub l ((tpAt n A i) * (32 : Nat)) (32 : Nat))]⟩)])]) (fuel := 0) (ora := [true, true, false, true, true, true, true, true, true, false, false]) (c := (loopB Try.f8 2)) (st := (tp2_mk n nm l p pm A cap0 cap1 i si)) (l := [.eqS 8 (.o (.a (.i .i64 (((tpAt n A (i + (1 : Nat))) : Nat) : Int)))), .eqB 4 (⟨true, [.rs 3 ((tpAt n A (i + (1 : Nat))) * (32 : Nat)) (n - (tpAt n A (i + (1 : Nat)))) 32]⟩), .forget [0, 1, 5, 6, 7, 8, 9, 17, 18, 19, 20, 21, 22] 5]) (s' := ⟨sparse 186 [(0, .o (.a (.sl 0 0 n cap0))), (1, .o (.a (.sl 1 0 p cap1))), (5, .o (.a (.rs 2 0 n 32))), (6, .o (.a (.p 4 0))), (7, .o (.a (.i .i64 ((n : Nat) : Int)))), (8, .o (.a (.i .i64 (((tpAt n A (i + (1 : Nat))) : Nat) : Int)))), (9, .o (.a (.i .i64 (IntKind.i64.wrap (((i : Nat) : Int) + (1 : Int)))))), (17, .o (.a (.sl 0 0 n cap0))), (18, .o (.a (.rs 2 0 n 32))), (19, .o (.a (.rs 2 0 n 32))), (20, .o (.a (.p 4 0))), (21, .o (.a (.p 4 0))), (22, .o (.a (.b false)))], [some ⟨false, [.ints .u8 nm l]⟩, some ⟨false, [.ints .i64 pm A]⟩, some ⟨true, [.ints .u8 (copyR n) (tp0_out0 n (copyR_1 n (sub l 0 (n * (32 : Nat)))))]⟩, some ⟨true, [.ints .u8 (n * (32 : Nat)) l]⟩, some ⟨true, [.rs 3 ((tpAt n A (i + (1 : Nat))) * (32 : Nat)) (n - (tpAt n A (i + (1 : Nat)))) 32]⟩]⟩) (ex := .normal) mix tabOkTH gam907_ok
    (vc := [((some ⟨true, [.rs 3 (tnC ((tpAt n A i) * (32 : Nat)) (n - (tpAt n A i))) (tnM (n - (tpAt n A i))) 32]⟩ : Option Blk) = some ⟨true, [.rs 3 ((tpAt n A (i + (1 : Nat))) * (32 : Nat)) (n - (tpAt n A (i + (1 : Nat)))) 32]⟩), ((.o (.a (.i .i64 (IntKind.i64.wrap ((((tpAt n A i) : Nat) : Int) + (1 : Int))))) : AV) = .o (.a (.i .i64 (((tpAt n A (i + (1 : Nat))) : Nat) : Int)))), ((!(decide ((sub l ((tpAt n A i) * (32 : Nat)) (32 : Nat)) = (sub l ((tpAt n A i) * (32 : Nat)) (32 : Nat))))) = false), (false = false), (false = false), ((((tpAt n A i) * (32 : Nat)) + (32 : Nat)) ≤ nm), (false = false), (((0 : Int) ≤ (((tpAt n A i) : Nat) : Int)) ∧ ((((tpAt n A i) : Nat) : Int) < ((n : Nat) : Int))), (false = false), (false = false), (false = false), (false = false), (((((tpAt n A i) : Nat) : Int) == ((n : Nat) : Int)) = false), ((some ⟨true, [.ints .u8 (32 : Nat) (tnV ((tpAt n A i) * (32 : Nat)) (n - (tpAt n A i)) l)]⟩ : Option Blk) = some ⟨true, [.ints .u8 (32 : Nat) (sub l ((tpAt n A i) * (32 : Nat)) (32 : Nat))]⟩), ((.o (.a (.i .i64 (tnE (n - (tpAt n A i))))) : AV) = .o (.a (.i .i64 (0 : Int)))), ((True ∧ True) ∧ (((((tpAt n A i) * (32 : Nat)) + ((n - (tpAt n A i)) * (32 : Nat))) ≤ (n * (32 : Nat))) ∧ ((n - (tpAt n A i)) < (1099511627776 : Nat)))), (((List.getD A i 0) == (0 : Int)) = true), (i < pm), (((0 : Int) ≤ ((i : Nat) : Int)) ∧ (((i : Nat) : Int) < ((p : Nat) : Int))), ((decide (((i : Nat) : Int) < ((p : Nat) : Int))) = true)]) (by kernel_rfl)
    (aC ((rsEq (by rw [tp_z1 y0 hz, tnC_pos (by omega)]; omega) (by rw [tp_z1 y0 hz]; unfold tnM; omega))) (aC ((iEq (by rw [tp_z1 y0 hz]; exact wrap_succ (by omega)))) (aC (ndec_eq rfl) (aC rfl (aC rfl (aC (by have ht := tpAt_le n A i; first | omega | (simp (disch := omega) only [wrapI]; omega)) (aC rfl (aC ⟨(by have ht := tpAt_le n A i; first | omega | (simp (disch := omega) only [wrapI]; omega)), (by have ht := tpAt_le n A i; first | omega | (simp (disch := omega) only [wrapI]; omega))⟩ (aC rfl (aC rfl (aC rfl (aC rfl (aC (beq_eq_false_iff_ne.2 (by omega)) (aC ((by rw [tnV_pos (by omega)]; try rfl)) (aC ((iEq (by rw [tnE_p (by omega)]))) (aC ⟨⟨trivial, trivial⟩, ⟨(by have ht := tpAt_le n A i; first | omega | (simp (disch := omega) only [wrapI]; omega)), (by have ht := tpAt_le n A i; first | omega | (simp (disch := omega) only [wrapI]; omega))⟩⟩ (aC (beq_iff_eq.2 y0) (aC (by have ht := tpAt_le n A i; first | omega | (simp (disch := omega) only [wrapI]; omega)) (aC ⟨(by have ht := tpAt_le n A i; first | omega | (simp (disch := omega) only [wrapI]; omega)), (by have ht := tpAt_le n A i; first | omega | (simp (disch := omega) only [wrapI]; omega))⟩ (aC (decide_eq_true (by have ht := tpAt_le n A i; first | omega | (simp (disch := omega) only [wrapI]; omega))) (AllP_nil)))))))))))))))))))))
  rw [e0] at h
  exact h

set_option maxHeartbeats 1000000 in
theorem tp2_round_2 (n nm : Nat) (l : List Int) (p pm : Nat) (A : List Int) (cap0 cap1 : Nat) (h0 : (pm = p)) (h1 : (nm = (n * (32 : Nat)))) (h2 : (n < (1099511627776 : Nat))) (h3 : (p < (1099511627776 : Nat))) (h4 : (V.Byt l)) (h5 : (List.length l = n * 32)) (hc0 : n ≤ cap0) (hc1 : p ≤ cap1) (hl0_0 : List.length l = nm) (hl1_0 : List.length A = pm) (w : World) (β : Env) (i : Nat) (hi : i < p) (si : Unit) (y0 : (List.getD A i 0) < 0) : Run Try.prog ⟨w, [], 2, β⟩ (loopB Try.f8 2) (tp2_mk n nm l p pm A cap0 cap1 i si) (To ⟨w, [], 2, β⟩ .normal (tp2_mk n nm l p pm A cap0 cap1 (i + 1) (tp2_step i si))) := by
  have e0 : (IntKind.i64.wrap (((i : Nat) : Int) + (1 : Int))) = (((i + (1 : Nat)) : Nat) : Int) := (by first | rfl | exact wrap_succ (by omega) | omega | (simp (disch := omega) only [wrapI]; omega))
  have h := Run.of_outT (B := ⟨w, [], 2, β⟩) (Λ := noLam) (Ψ := psiOf [(21, [])]) (fuel := 0) (ora := [true, false, false, false, false, false, false, true, true, true, true, true, false, false]) (c := (loopB Try.f8 2)) (st := (tp2_mk n nm l p pm A cap0 cap1 i si)) (l := [.eqS 8 (.o (.a (.i .i64 (((tpAt n A (i + (1 : Nat))) : Nat) : Int)))), .eqB 4 (⟨true, [.rs 3 ((tpAt n A (i + (1 : Nat))) * (32 : Nat)) (n - (tpAt n A (i + (1 : Nat)))) 32]⟩), .forget [0, 1, 5, 6, 7, 8, 9, 17, 18, 19, 20, 21, 22] 5]) (s' := ⟨sparse 186 [(0, .o (.a (.sl 0 0 n cap0))), (1, .o (.a (.sl 1 0 p cap1))), (5, .o (.a (.rs 2 0 n 32))), (6, .o (.a (.p 4 0))), (7, .o (.a (.i .i64 ((n : Nat) : Int)))), (8, .o (.a (.i .i64 (((tpAt n A (i + (1 : Nat))) : Nat) : Int)))), (9, .o (.a (.i .i64 (IntKind.i64.wrap (((i : Nat) : Int) + (1 : Int)))))), (17, .o (.a (.sl 0 0 n cap0))), (18, .o (.a (.rs 2 0 n 32))), (19, .o (.a (.rs 2 0 n 32))), (20, .o (.a (.p 4 0))), (21, .o (.a (.p 4 0))), (22, .o (.a (.b false)))], [some ⟨false, [.ints .u8 nm l]⟩, some ⟨false, [.ints .i64 pm A]⟩, some ⟨true, [.ints .u8 (copyR n) (tp0_out0 n (copyR_1 n (sub l 0 (n * (32 : Nat)))))]⟩, some ⟨true, [.ints .u8 (n * (32 : Nat)) l]⟩, some ⟨true, [.rs 3 ((tpAt n A (i + (1 : Nat))) * (32 : Nat)) (n - (tpAt n A (i + (1 : Nat)))) 32]⟩]⟩) (ex := .normal) mix tabOkTH gam909_ok
    (vc := [((some ⟨true, [.rs 3 ((tpAt n A i) * (32 : Nat)) (n - (tpAt n A i)) 32]⟩ : Option Blk) = some ⟨true, [.rs 3 ((tpAt n A (i + (1 : Nat))) * (32 : Nat)) (n - (tpAt n A (i + (1 : Nat)))) 32]⟩), ((.o (.a (.i .i64 (((tpAt n A i) : Nat) : Int))) : AV) = .o (.a (.i .i64 (((tpAt n A (i + (1 : Nat))) : Nat) : Int)))), (false = false), (false = false), (false = false), (false = false), (false = false), (true = true), ((decide ((List.getD A i 0) < (0 : Int))) = true), ((decide ((List.getD A i 0) < (0 : Int))) = true), ((decide ((List.getD A i 0) < (0 : Int))) = true), ((decide ((List.getD A i 0) < (0 : Int))) = true), ((decide ((List.getD A i 0) < (0 : Int))) = true), ((decide ((List.getD A i 0) < (0 : Int))) = true), (i < pm), (((0 : Int) ≤ ((i : Nat) : Int)) ∧ (((i : Nat) : Int) < ((p : Nat) : Int))), ((True ∧ (True ∧ True)) ∧ ((List.getD A i 0) < (0 : Int))), (i < pm), (((0 : Int) ≤ ((i : Nat) : Int)) ∧ (((i : Nat) : Int) < ((p : Nat) : Int))), (((List.getD A i 0) == (0 : Int)) = false), (i < pm), (((0 : Int) ≤ ((i : Nat) : Int)) ∧ (((i : Nat) : Int) < ((p : Nat) : Int))), ((decide (((i : Nat) : Int) < ((p : Nat) : Int))) = true)]) (by kernel_rfl)
    (aC ((rsEq (by rw [tp_n y0]) (by rw [tp_n y0]))) (aC ((iEq (by rw [tp_n y0]))) (aC rfl (aC rfl (aC rfl (aC rfl (aC rfl (aC rfl (aC (decide_eq_true (by omega)) (aC (decide_eq_true (by omega)) (aC (decide_eq_true (by omega)) (aC (decide_eq_true (by omega)) (aC (decide_eq_true (by omega)) (aC (decide_eq_true (by omega)) (aC (by have ht := tpAt_le n A i; first | omega | (simp (disch := omega) only [wrapI]; omega)) (aC ⟨(by have ht := tpAt_le n A i; first | omega | (simp (disch := omega) only [wrapI]; omega)), (by have ht := tpAt_le n A i; first | omega | (simp (disch := omega) only [wrapI]; omega))⟩ (aC ⟨⟨trivial, ⟨trivial, trivial⟩⟩, (by have ht := tpAt_le n A i; first | omega | (simp (disch := omega) only [wrapI]; omega))⟩ (aC (by have ht := tpAt_le n A i; first | omega | (simp (disch := omega) only [wrapI]; omega)) (aC ⟨(by have ht := tpAt_le n A i; first | omega | (simp (disch := omega) only [wrapI]; omega)), (by have ht := tpAt_le n A i; first | omega | (simp (disch := omega) only [wrapI]; omega))⟩ (aC (beq_eq_false_iff_ne.2 (by omega)) (aC (by have ht := tpAt_le n A i; first | omega | (simp (disch := omega) only [wrapI]; omega)) (aC ⟨(by have ht := tpAt_le n A i; first | omega | (simp (disch := omega) only [wrapI]; omega)), (by have ht := tpAt_le n A i; first | omega | (simp (disch := omega) only [wrapI]; omega))⟩ (aC (decide_eq_true (by have ht := tpAt_le n A i; first | omega | (simp (disch := omega) only [wrapI]; omega))) (AllP_nil))))))))))))))))))))))))
  rw [e0] at h
  exact h

set_option maxHeartbeats 1000000 in
theorem tp2_round_3 (n nm : Nat) (l : List Int) (p pm : Nat) (A : List Int) (cap0 cap1 : Nat) (h0 : (pm = p)) (h1 : (nm = (n * (32 : Nat)))) (h2 : (n < (1099511627776 : Nat))) (h3 : (p < (1099511627776 : Nat))) (h4 : (V.Byt l)) (h5 : (List.length l = n * 32)) (hc0 : n ≤ cap0) (hc1 : p ≤ cap1) (hl0_0 : List.length l = nm) (hl1_0 : List.length A = pm) (w : World) (β : Env) (i : Nat) (hi : i < p) (si : Unit) (y0 : 65536 < (List.getD A i 0)) : Run Try.prog ⟨w, [], 2, β⟩ (loopB Try.f8 2) (tp2_mk n nm l p pm A cap0 cap1 i si) (To ⟨w, [], 2, β⟩ .normal (tp2_mk n nm l p pm A cap0 cap1 (i + 1) (tp2_step i si))) := by
  have e0 : (IntKind.i64.wrap (((i : Nat) : Int) + (1 : Int))) = (((i + (1 : Nat)) : Nat) : Int) := (by first | rfl | exact wrap_succ (by omega) | omega | (simp (disch := omega) only [wrapI]; omega))
  have h := Run.of_outT (B := ⟨w, [], 2, β⟩) (Λ := noLam) (Ψ := psiOf [(21, [])]) (fuel := 0) (ora := [true, false, true, true, true, true, true, false, true, true, true, true, false, false]) (c := (loopB Try.f8 2)) (st := (tp2_mk n nm l p pm A cap0 cap1 i si)) (l := [.eqS 8 (.o (.a (.i .i64 (((tpAt n A (i + (1 : Nat))) : Nat) : Int)))), .eqB 4 (⟨true, [.rs 3 ((tpAt n A (i + (1 : Nat))) * (32 : Nat)) (n - (tpAt n A (i + (1 : Nat)))) 32]⟩), .forget [0, 1, 5, 6, 7, 8, 9, 17, 18, 19, 20, 21, 22] 5]) (s' := ⟨sparse 186 [(0, .o (.a (.sl 0 0 n cap0))), (1, .o (.a (.sl 1 0 p cap1))), (5, .o (.a (.rs 2 0 n 32))), (6, .o (.a (.p 4 0))), (7, .o (.a (.i .i64 ((n : Nat) : Int)))), (8, .o (.a (.i .i64 (((tpAt n A (i + (1 : Nat))) : Nat) : Int)))), (9, .o (.a (.i .i64 (IntKind.i64.wrap (((i : Nat) : Int) + (1 : Int)))))), (17, .o (.a (.sl 0 0 n cap0))), (18, .o (.a (.rs 2 0 n 32))), (19, .o (.a (.rs 2 0 n 32))), (20, .o (.a (.p 4 0))), (21, .o (.a (.p 4 0))), (22, .o (.a (.b false)))], [some ⟨false, [.ints .u8 nm l]⟩, some ⟨false, [.ints .i64 pm A]⟩, some ⟨true, [.ints .u8 (copyR n) (tp0_out0 n (copyR_1 n (sub l 0 (n * (32 : Nat)))))]⟩, some ⟨true, [.ints .u8 (n * (32 : Nat)) l]⟩, some ⟨true, [.rs 3 ((tpAt n A (i + (1 : Nat))) * (32 : Nat)) (n - (tpAt n A (i + (1 : Nat)))) 32]⟩]⟩) (ex := .normal) mix tabOkTH gam910_ok
    (vc := [((some ⟨true, [.rs 3 ((tpAt n A i) * (32 : Nat)) (n - (tpAt n A i)) 32]⟩ : Option Blk) = some ⟨true, [.rs 3 ((tpAt n A (i + (1 : Nat))) * (32 : Nat)) (n - (tpAt n A (i + (1 : Nat)))) 32]⟩), ((.o (.a (.i .i64 (((tpAt n A i) : Nat) : Int))) : AV) = .o (.a (.i .i64 (((tpAt n A (i + (1 : Nat))) : Nat) : Int)))), (false = false), (false = false), (false = false), (false = false), (false = false), ((decide ((List.getD A i 0) > (65536 : Int))) = true), ((decide ((List.getD A i 0) < (0 : Int))) = false), ((decide ((List.getD A i 0) < (0 : Int))) = false), (i < pm), ((decide ((List.getD A i 0) < (0 : Int))) = false), (((0 : Int) ≤ ((i : Nat) : Int)) ∧ (((i : Nat) : Int) < ((p : Nat) : Int))), ((decide ((List.getD A i 0) < (0 : Int))) = false), ((decide ((List.getD A i 0) < (0 : Int))) = false), ((decide ((List.getD A i 0) < (0 : Int))) = false), (i < pm), (((0 : Int) ≤ ((i : Nat) : Int)) ∧ (((i : Nat) : Int) < ((p : Nat) : Int))), ((True ∧ (True ∧ True)) ∧ ((65536 : Int) < (List.getD A i 0))), (i < pm), (((0 : Int) ≤ ((i : Nat) : Int)) ∧ (((i : Nat) : Int) < ((p : Nat) : Int))), (((List.getD A i 0) == (0 : Int)) = false), (i < pm), (((0 : Int) ≤ ((i : Nat) : Int)) ∧ (((i : Nat) : Int) < ((p : Nat) : Int))), ((decide (((i : Nat) : Int) < ((p : Nat) : Int))) = true)]) (by kernel_rfl)
    (aC ((rsEq (by rw [tp_b y0]) (by rw [tp_b y0]))) (aC ((iEq (by rw [tp_b y0]))) (aC rfl (aC rfl (aC rfl (aC rfl (aC rfl (aC (decide_eq_true (by omega)) (aC (decide_eq_false (by omega)) (aC (decide_eq_false (by omega)) (aC (by have ht := tpAt_le n A i; first | omega | (simp (disch := omega) only [wrapI]; omega)) (aC (decide_eq_false (by omega)) (aC ⟨(by have ht := tpAt_le n A i; first | omega | (simp (disch := omega) only [wrapI]; omega)), (by have ht := tpAt_le n A i; first | omega | (simp (disch := omega) only [wrapI]; omega))⟩ (aC (decide_eq_false (by omega)) (aC (decide_eq_false (by omega)) (aC (decide_eq_false (by omega)) (aC (by have ht := tpAt_le n A i; first | omega | (simp (disch := omega) only [wrapI]; omega)) (aC ⟨(by have ht := tpAt_le n A i; first | omega | (simp (disch := omega) only [wrapI]; omega)), (by have ht := tpAt_le n A i; first | omega | (simp (disch := omega) only [wrapI]; omega))⟩ (aC ⟨⟨trivial, ⟨trivial, trivial⟩⟩, (by have ht := tpAt_le n A i; first | omega | (simp (disch := omega) only [wrapI]; omega))⟩ (aC (by have ht := tpAt_le n A i; first | omega | (simp (disch := omega) only [wrapI]; omega)) (aC ⟨(by have ht := tpAt_le n A i; first | omega | (simp (disch := omega) only [wrapI]; omega)), (by have ht := tpAt_le n A i; first | omega | (simp (disch := omega) only [wrapI]; omega))⟩ (aC (beq_eq_false_iff_ne.2 (by omega)) (aC (by have ht := tpAt_le n A i; first | omega | (simp (disch := omega) only [wrapI]; omega)) (aC ⟨(by have ht := tpAt_le n A i; first | omega | (simp (disch := omega) only [wrapI]; omega)), (by have ht := tpAt_le n A i; first | omega | (simp (disch := omega) only [wrapI]; omega))⟩ (aC (decide_eq_true (by have ht := tpAt_le n A i; first | omega | (simp (disch := omega) only [wrapI]; omega))) (AllP_nil))))))))))))))))))))))))))
  rw [e0] at h
  exact h

noncomputable def tpIs_mk (n nm : Nat) (l : List Int) (p pm : Nat) (A : List Int) (cap0 cap1 i : Nat) (si : Unit) (k : Nat) (s : Unit) : St := ⟨sparse 186 [(0, .o (.a (.sl 0 0 n cap0))), (1, .o (.a (.sl 1 0 p cap1))), (5, .o (.a (.rs 2 0 n 32))), (6, .o (.a (.p 4 0))), (7, .o (.a (.i .i64 ((n : Nat) : Int)))), (8, .o (.a (.i .i64 (((tpAt n A i) : Nat) : Int)))), (9, .o (.a (.i .i64 ((i : Nat) : Int)))), (12, .o (.a (.rs 5 0 (scN (List.getD A i 0) (n - (tpAt n A i))) 32))), (13, .o (.a (.i .i64 (122 : Int)))), (14, .o (.a (.i .i64 (((scN (List.getD A i 0) (n - (tpAt n A i))) : Nat) : Int)))), (15, .o (.a (.b true))), (16, .o (.a (.i .i64 ((k : Nat) : Int)))), (17, .o (.a (.sl 0 0 n cap0))), (18, .o (.a (.rs 2 0 n 32))), (19, .o (.a (.rs 2 0 n 32))), (20, .o (.a (.p 4 0))), (21, .o (.a (.p 4 0))), (22, .o (.a (.b false))), (35, .o (.a (.i .i64 ((i : Nat) : Int)))), (36, .o (.a (.sl 1 0 p cap1))), (37, .o (.a (.i .i64 ((p : Nat) : Int)))), (38, .o (.a (.b (decide (((i : Nat) : Int) < ((p : Nat) : Int)))))), (41, .o (.a (.sl 1 0 p cap1))), (42, .o (.a (.i .i64 ((i : Nat) : Int)))), (43, .o (.a (.ps 1 i))), (44, .o (.a (.i .i64 (List.getD A i 0)))), (45, .o (.a (.b ((List.getD A i 0) == (0 : Int))))), (76, .t [.a (.rs 5 0 (scN (List.getD A i 0) (n - (tpAt n A i))) 32), .a (.i .i64 (scE (List.getD A i 0) (n - (tpAt n A i))))]), (77, .o (.a (.p 4 0))), (78, .o (.a (.ip 89 4 0))), (79, .o (.a (.sl 1 0 p cap1))), (80, .o (.a (.i .i64 ((i : Nat) : Int)))), (81, .o (.a (.ps 1 i))), (82, .o (.a (.i .i64 (List.getD A i 0)))), (83, .t [.a (.rs 5 0 (scN (List.getD A i 0) (n - (tpAt n A i))) 32), .a (.i .i64 (scE (List.getD A i 0) (n - (tpAt n A i))))]), (84, .o (.a (.rs 5 0 (scN (List.getD A i 0) (n - (tpAt n A i))) 32))), (85, .o (.a (.i .i64 (scE (List.getD A i 0) (n - (tpAt n A i)))))), (86, .o (.a (.sl 1 0 p cap1))), (87, .o (.a (.i .i64 ((i : Nat) : Int)))), (88, .o (.a (.ps 1 i))), (89, .o (.a (.i .i64 (List.getD A i 0)))), (90, .o (.a (.b (decide ((List.getD A i 0) < (0 : Int)))))), (91, .o (.a (.b (decide ((List.getD A i 0) < (0 : Int)))))), (92, .o (.a (.sl 1 0 p cap1))), (93, .o (.a (.i .i64 ((i : Nat) : Int)))), (94, .o (.a (.ps 1 i))), (95, .o (.a (.i .i64 (List.getD A i 0)))), (96, .o (.a (.b (decide ((List.getD A i 0) > (65536 : Int)))))), (97, .o (.a (.b (decide ((List.getD A i 0) > (65536 : Int)))))), (106, .o (.a (.sl 0 0 n cap0))), (107, .o (.a (.i .i64 ((n : Nat) : Int)))), (108, .o (.a (.i .i64 (((tpAt n A i) : Nat) : Int)))), (109, .o (.a (.i .i64 (IntKind.i64.wrap (((n : Nat) : Int) - (((tpAt n A i) : Nat) : Int)))))), (110, .o (.a (.i .i64 (IntKind.i64.wrap (Int.tdiv (IntKind.i64.wrap (((n : Nat) : Int) - (((tpAt n A i) : Nat) : Int))) (2 : Int)))))), (111, .o (.a (.i .i64 ((((n - (tpAt n A i)) / (2 : Nat)) : Nat) : Int)))), (112, .o (.a (.sl 1 0 p cap1))), (113, .o (.a (.i .i64 ((i : Nat) : Int)))), (114, .o (.a (.ps 1 i))), (115, .o (.a (.i .i64 (List.getD A i 0)))), (116, .o (.a (.b (decide (((((n - (tpAt n A i)) / (2 : Nat)) : Nat) : Int) < (List.getD A i 0)))))), (117, .o (.a (.b true))), (118, .o (.a (.b false))), (123, .o (.a (.rs 5 0 (scN (List.getD A i 0) (n - (tpAt n A i))) 32))), (124, .o (.a (.i .i64 (((scN (List.getD A i 0) (n - (tpAt n A i))) : Nat) : Int)))), (125, .o (.a (.i .i64 (((scN (List.getD A i 0) (n - (tpAt n A i))) : Nat) : Int)))), (126, .o (.a (.b ((((scN (List.getD A i 0) (n - (tpAt n A i))) : Nat) : Int) != (((scN (List.getD A i 0) (n - (tpAt n A i))) : Nat) : Int))))), (127, .o (.a (.b ((((scN (List.getD A i 0) (n - (tpAt n A i))) : Nat) : Int) != (((scN (List.getD A i 0) (n - (tpAt n A i))) : Nat) : Int))))), (128, .o (.a (.b true))), (129, .o (.a (.i .i64 (122 : Int)))), (130, .o (.a (.i .i64 (122 : Int)))), (131, .o (.a (.b true))), (132, .o (.a (.b false))), (133, .o (.a (.b false))), (134, .o (.a (.b false))), (135, .o (.a (.b true))), (136, .o (.a (.b false))), (137, .o (.a (.b false))), (138, .t []), (139, .t []), (140, .t []), (141, .o (.a (.b false))), (142, .o (.a (.b false)))], [some ⟨false, [.ints .u8 nm l]⟩, some ⟨false, [.ints .i64 pm A]⟩, some ⟨true, [.ints .u8 (copyR n) (tp0_out0 n (copyR_1 n (sub l 0 (n * (32 : Nat)))))]⟩, some ⟨true, [.ints .u8 (n * (32 : Nat)) l]⟩, some ⟨true, [.rs 3 (scC (List.getD A i 0) ((tpAt n A i) * (32 : Nat)) (n - (tpAt n A i))) (scM (List.getD A i 0) (n - (tpAt n A i))) 32]⟩, some ⟨true, [.ints .u8 (scZ (List.getD A i 0) (n - (tpAt n A i))) (scV (List.getD A i 0) ((tpAt n A i) * (32 : Nat)) (n - (tpAt n A i)) l)]⟩]⟩

noncomputable def tpIs_step (k : Nat) (s : Unit) : Unit :=
  ()

set_option maxHeartbeats 1000000 in
theorem tpIs_round (n nm : Nat) (l : List Int) (p pm : Nat) (A : List Int) (cap0 cap1 i : Nat) (si : Unit) (h0 : (pm = p)) (h1 : (nm = (n * (32 : Nat)))) (h2 : (n < (1099511627776 : Nat))) (h3 : (p < (1099511627776 : Nat))) (h4 : (V.Byt l)) (h5 : (List.length l = n * 32)) (hc0 : n ≤ cap0) (hc1 : p ≤ cap1) (hl0_0 : List.length l = nm) (hl1_0 : List.length A = pm) (hi : i < p) (y0 : 0 < (List.getD A i 0)) (y1 : (List.getD A i 0) ≤ 65536) (hs : (n - tpAt n A i) / 2 < ((List.getD A i 0)).toNat) (w : World) (β : Env) (k : Nat) (hk : k < (scN (List.getD A i 0) (n - (tpAt n A i)))) (s : Unit) : Run Try.prog ⟨w, [], 2, β⟩ (loopB Try.f8 4) (tpIs_mk n nm l p pm A cap0 cap1 i si k s) (To ⟨w, [], 2, β⟩ .normal (tpIs_mk n nm l p pm A cap0 cap1 i si (k + 1) (tpIs_step k s))) := by
  have e0 : (IntKind.i64.wrap (((k : Nat) : Int) + (1 : Int))) = (((k + (1 : Nat)) : Nat) : Int) := (by have hj2 := scN_lt hk; exact wrap_succ (by omega))
  have h := Run.of_outT (B := ⟨w, [], 2, β⟩) (Λ := noLam) (Ψ := noPsi) (fuel := 0) (ora := [true, false]) (c := (loopB Try.f8 4)) (st := (tpIs_mk n nm l p pm A cap0 cap1 i si k s)) (l := [.forget [0, 1, 5, 6, 7, 8, 9, 12, 13, 14, 15, 16, 17, 18, 19, 20, 21, 22, 35, 36, 37, 38, 41, 42, 43, 44, 45, 76, 77, 78, 79, 80, 81, 82, 83, 84, 85, 86, 87, 88, 89, 90, 91, 92, 93, 94, 95, 96, 97, 106, 107, 108, 109, 110, 111, 112, 113, 114, 115, 116, 117, 118, 123, 124, 125, 126, 127, 128, 129, 130, 131, 132, 133, 134, 135, 136, 137, 138, 139, 140, 141, 142] 6]) (s' := ⟨sparse 186 [(0, .o (.a (.sl 0 0 n cap0))), (1, .o (.a (.sl 1 0 p cap1))), (5, .o (.a (.rs 2 0 n 32))), (6, .o (.a (.p 4 0))), (7, .o (.a (.i .i64 ((n : Nat) : Int)))), (8, .o (.a (.i .i64 (((tpAt n A i) : Nat) : Int)))), (9, .o (.a (.i .i64 ((i : Nat) : Int)))), (12, .o (.a (.rs 5 0 (scN (List.getD A i 0) (n - (tpAt n A i))) 32))), (13, .o (.a (.i .i64 (122 : Int)))), (14, .o (.a (.i .i64 (((scN (List.getD A i 0) (n - (tpAt n A i))) : Nat) : Int)))), (15, .o (.a (.b true))), (16, .o (.a (.i .i64 (IntKind.i64.wrap (((k : Nat) : Int) + (1 : Int)))))), (17, .o (.a (.sl 0 0 n cap0))), (18, .o (.a (.rs 2 0 n 32))), (19, .o (.a (.rs 2 0 n 32))), (20, .o (.a (.p 4 0))), (21, .o (.a (.p 4 0))), (22, .o (.a (.b false))), (35, .o (.a (.i .i64 ((i : Nat) : Int)))), (36, .o (.a (.sl 1 0 p cap1))), (37, .o (.a (.i .i64 ((p : Nat) : Int)))), (38, .o (.a (.b (decide (((i : Nat) : Int) < ((p : Nat) : Int)))))), (41, .o (.a (.sl 1 0 p cap1))), (42, .o (.a (.i .i64 ((i : Nat) : Int)))), (43, .o (.a (.ps 1 i))), (44, .o (.a (.i .i64 (List.getD A i 0)))), (45, .o (.a (.b ((List.getD A i 0) == (0 : Int))))), (76, .t [.a (.rs 5 0 (scN (List.getD A i 0) (n - (tpAt n A i))) 32), .a (.i .i64 (scE (List.getD A i 0) (n - (tpAt n A i))))]), (77, .o (.a (.p 4 0))), (78, .o (.a (.ip 89 4 0))), (79, .o (.a (.sl 1 0 p cap1))), (80, .o (.a (.i .i64 ((i : Nat) : Int)))), (81, .o (.a (.ps 1 i))), (82, .o (.a (.i .i64 (List.getD A i 0)))), (83, .t [.a (.rs 5 0 (scN (List.getD A i 0) (n - (tpAt n A i))) 32), .a (.i .i64 (scE (List.getD A i 0) (n - (tpAt n A i))))]), (84, .o (.a (.rs 5 0 (scN (List.getD A i 0) (n - (tpAt n A i))) 32))), (85, .o (.a (.i .i64 (scE (List.getD A i 0) (n - (tpAt n A i)))))), (86, .o (.a (.sl 1 0 p cap1))), (87, .o (.a (.i .i64 ((i : Nat) : Int)))), (88, .o (.a (.ps 1 i))), (89, .o (.a (.i .i64 (List.getD A i 0)))), (90, .o (.a (.b (decide ((List.getD A i 0) < (0 : Int)))))), (91, .o (.a (.b (decide ((List.getD A i 0) < (0 : Int)))))), (92, .o (.a (.sl 1 0 p cap1))), (93, .o (.a (.i .i64 ((i : Nat) : Int)))), (94, .o (.a (.ps 1 i))), (95, .o (.a (.i .i64 (List.getD A i 0)))), (96, .o (.a (.b (decide ((List.getD A i 0) > (65536 : Int)))))), (97, .o (.a (.b (decide ((List.getD A i 0) > (65536 : Int)))))), (106, .o (.a (.sl 0 0 n cap0))), (107, .o (.a (.i .i64 ((n : Nat) : Int)))), (108, .o (.a (.i .i64 (((tpAt n A i) : Nat) : Int)))), (109, .o (.a (.i .i64 (IntKind.i64.wrap (((n : Nat) : Int) - (((tpAt n A i) : Nat) : Int)))))), (110, .o (.a (.i .i64 (IntKind.i64.wrap (Int.tdiv (IntKind.i64.wrap (((n : Nat) : Int) - (((tpAt n A i) : Nat) : Int))) (2 : Int)))))), (111, .o (.a (.i .i64 ((((n - (tpAt n A i)) / (2 : Nat)) : Nat) : Int)))), (112, .o (.a (.sl 1 0 p cap1))), (113, .o (.a (.i .i64 ((i : Nat) : Int)))), (114, .o (.a (.ps 1 i))), (115, .o (.a (.i .i64 (List.getD A i 0)))), (116, .o (.a (.b (decide (((((n - (tpAt n A i)) / (2 : Nat)) : Nat) : Int) < (List.getD A i 0)))))), (117, .o (.a (.b true))), (118, .o (.a (.b false))), (123, .o (.a (.rs 5 0 (scN (List.getD A i 0) (n - (tpAt n A i))) 32))), (124, .o (.a (.i .i64 (((scN (List.getD A i 0) (n - (tpAt n A i))) : Nat) : Int)))), (125, .o (.a (.i .i64 (((scN (List.getD A i 0) (n - (tpAt n A i))) : Nat) : Int)))), (126, .o (.a (.b ((((scN (List.getD A i 0) (n - (tpAt n A i))) : Nat) : Int) != (((scN (List.getD A i 0) (n - (tpAt n A i))) : Nat) : Int))))), (127, .o (.a (.b ((((scN (List.getD A i 0) (n - (tpAt n A i))) : Nat) : Int) != (((scN (List.getD A i 0) (n - (tpAt n A i))) : Nat) : Int))))), (128, .o (.a (.b true))), (129, .o (.a (.i .i64 (122 : Int)))), (130, .o (.a (.i .i64 (122 : Int)))), (131, .o (.a (.b true))), (132, .o (.a (.b false))), (133, .o (.a (.b false))), (134, .o (.a (.b false))), (135, .o (.a (.b true))), (136, .o (.a (.b false))), (137, .o (.a (.b false))), (138, .t []), (139, .t []), (140, .t []), (141, .o (.a (.b false))), (142, .o (.a (.b false)))], [some ⟨false, [.ints .u8 nm l]⟩, some ⟨false, [.ints .i64 pm A]⟩, some ⟨true, [.ints .u8 (copyR n) (tp0_out0 n (copyR_1 n (sub l 0 (n * (32 : Nat)))))]⟩, some ⟨true, [.ints .u8 (n * (32 : Nat)) l]⟩, some ⟨true, [.rs 3 (scC (List.getD A i 0) ((tpAt n A i) * (32 : Nat)) (n - (tpAt n A i))) (scM (List.getD A i 0) (n - (tpAt n A i))) 32]⟩, some ⟨true, [.ints .u8 (scZ (List.getD A i 0) (n - (tpAt n A i))) (scV (List.getD A i 0) ((tpAt n A i) * (32 : Nat)) (n - (tpAt n A i)) l)]⟩]⟩) (ex := .normal) mix tabOkTH gam908_ok
    (vc := [((!(decide ((sub (scV (List.getD A i 0) ((tpAt n A i) * (32 : Nat)) (n - (tpAt n A i)) l) (k * (32 : Nat)) (32 : Nat)) = (two (sub l ((Int.toNat (IntKind.i64.wrap ((((tpAt n A i) : Nat) : Int) + (IntKind.i64.wrap ((2 : Int) * ((k : Nat) : Int)))))) * (32 : Nat)) (32 : Nat)) (sub l ((Int.toNat (IntKind.i64.wrap ((IntKind.i64.wrap ((((tpAt n A i) : Nat) : Int) + (IntKind.i64.wrap ((2 : Int) * ((k : Nat) : Int))))) + (1 : Int)))) * (32 : Nat)) (32 : Nat)))))) = false), ((V.Byt (sub l ((Int.toNat (IntKind.i64.wrap ((((tpAt n A i) : Nat) : Int) + (IntKind.i64.wrap ((2 : Int) * ((k : Nat) : Int)))))) * (32 : Nat)) (32 : Nat))) ∧ (V.Byt (sub l ((Int.toNat (IntKind.i64.wrap ((IntKind.i64.wrap ((((tpAt n A i) : Nat) : Int) + (IntKind.i64.wrap ((2 : Int) * ((k : Nat) : Int))))) + (1 : Int)))) * (32 : Nat)) (32 : Nat)))), ((((Int.toNat (IntKind.i64.wrap ((IntKind.i64.wrap ((((tpAt n A i) : Nat) : Int) + (IntKind.i64.wrap ((2 : Int) * ((k : Nat) : Int))))) + (1 : Int)))) * (32 : Nat)) + (32 : Nat)) ≤ nm), (((0 : Int) ≤ (IntKind.i64.wrap ((IntKind.i64.wrap ((((tpAt n A i) : Nat) : Int) + (IntKind.i64.wrap ((2 : Int) * ((k : Nat) : Int))))) + (1 : Int)))) ∧ ((IntKind.i64.wrap ((IntKind.i64.wrap ((((tpAt n A i) : Nat) : Int) + (IntKind.i64.wrap ((2 : Int) * ((k : Nat) : Int))))) + (1 : Int))) < ((n : Nat) : Int))), ((((Int.toNat (IntKind.i64.wrap ((((tpAt n A i) : Nat) : Int) + (IntKind.i64.wrap ((2 : Int) * ((k : Nat) : Int)))))) * (32 : Nat)) + (32 : Nat)) ≤ nm), (((0 : Int) ≤ (IntKind.i64.wrap ((((tpAt n A i) : Nat) : Int) + (IntKind.i64.wrap ((2 : Int) * ((k : Nat) : Int)))))) ∧ ((IntKind.i64.wrap ((((tpAt n A i) : Nat) : Int) + (IntKind.i64.wrap ((2 : Int) * ((k : Nat) : Int))))) < ((n : Nat) : Int))), (((k * (32 : Nat)) + (32 : Nat)) ≤ (scZ (List.getD A i 0) (n - (tpAt n A i)))), (((0 : Int) ≤ ((k : Nat) : Int)) ∧ (((k : Nat) : Int) < (((scN (List.getD A i 0) (n - (tpAt n A i))) : Nat) : Int))), ((decide (((k : Nat) : Int) < (((scN (List.getD A i 0) (n - (tpAt n A i))) : Nat) : Int))) = true)]) (by kernel_rfl)
    (aC (ndec_eq (row_eq h5 (tpAt_le n A i) h2 hk)) (aC ⟨(V.byt_sub h4 _ _), (V.byt_sub h4 _ _)⟩ (aC (by have hj2 := scN_lt hk; have ht := tpAt_le n A i; first | omega | (show _ ≤ scN _ _ * 32; omega) | (rw [tp_i1 ht h2 hj2]; omega) | (rw [tp_i0 ht h2 hj2]; omega)) (aC ⟨(by have hj2 := scN_lt hk; have ht := tpAt_le n A i; first | omega | (show _ ≤ scN _ _ * 32; omega) | (rw [tp_i1 ht h2 hj2]; omega) | (rw [tp_i0 ht h2 hj2]; omega)), (by have hj2 := scN_lt hk; have ht := tpAt_le n A i; first | omega | (show _ ≤ scN _ _ * 32; omega) | (rw [tp_i1 ht h2 hj2]; omega) | (rw [tp_i0 ht h2 hj2]; omega))⟩ (aC (by have hj2 := scN_lt hk; have ht := tpAt_le n A i; first | omega | (show _ ≤ scN _ _ * 32; omega) | (rw [tp_i1 ht h2 hj2]; omega) | (rw [tp_i0 ht h2 hj2]; omega)) (aC ⟨(by have hj2 := scN_lt hk; have ht := tpAt_le n A i; first | omega | (show _ ≤ scN _ _ * 32; omega) | (rw [tp_i1 ht h2 hj2]; omega) | (rw [tp_i0 ht h2 hj2]; omega)), (by have hj2 := scN_lt hk; have ht := tpAt_le n A i; first | omega | (show _ ≤ scN _ _ * 32; omega) | (rw [tp_i1 ht h2 hj2]; omega) | (rw [tp_i0 ht h2 hj2]; omega))⟩ (aC (by have hj2 := scN_lt hk; have ht := tpAt_le n A i; first | omega | (show _ ≤ scN _ _ * 32; omega) | (rw [tp_i1 ht h2 hj2]; omega) | (rw [tp_i0 ht h2 hj2]; omega)) (aC ⟨(by have hj2 := scN_lt hk; have ht := tpAt_le n A i; first | omega | (show _ ≤ scN _ _ * 32; omega) | (rw [tp_i1 ht h2 hj2]; omega) | (rw [tp_i0 ht h2 hj2]; omega)), (by have hj2 := scN_lt hk; have ht := tpAt_le n A i; first | omega | (show _ ≤ scN _ _ * 32; omega) | (rw [tp_i1 ht h2 hj2]; omega) | (rw [tp_i0 ht h2 hj2]; omega))⟩ (aC (decide_eq_true (by have hj2 := scN_lt hk; have ht := tpAt_le n A i; first | omega | (show _ ≤ scN _ _ * 32; omega) | (rw [tp_i1 ht h2 hj2]; omega) | (rw [tp_i0 ht h2 hj2]; omega))) (AllP_nil))))))))))
  rw [e0] at h
  exact h

set_option maxHeartbeats 1000000 in
theorem tpIs_last (n nm : Nat) (l : List Int) (p pm : Nat) (A : List Int) (cap0 cap1 i : Nat) (si : Unit) (h0 : (pm = p)) (h1 : (nm = (n * (32 : Nat)))) (h2 : (n < (1099511627776 : Nat))) (h3 : (p < (1099511627776 : Nat))) (h4 : (V.Byt l)) (h5 : (List.length l = n * 32)) (hc0 : n ≤ cap0) (hc1 : p ≤ cap1) (hl0_0 : List.length l = nm) (hl1_0 : List.length A = pm) (hi : i < p) (y0 : 0 < (List.getD A i 0)) (y1 : (List.getD A i 0) ≤ 65536) (hs : (n - tpAt n A i) / 2 < ((List.getD A i 0)).toNat) (w : World) (β : Env) (s : Unit) : Run Try.prog ⟨w, [], 2, β⟩ (loopB Try.f8 4) (tpIs_mk n nm l p pm A cap0 cap1 i si (scN (List.getD A i 0) (n - (tpAt n A i))) s) (To ⟨w, [], 2, β⟩ (.exit 4) (tpIs_mk n nm l p pm A cap0 cap1 i si (scN (List.getD A i 0) (n - (tpAt n A i))) s)) :=
  Run.of_outT (B := ⟨w, [], 2, β⟩) (Λ := noLam) (Ψ := noPsi) (fuel := 0) (ora := [false]) (l := [.forget [0, 1, 5, 6, 7, 8, 9, 12, 13, 14, 15, 16, 17, 18, 19, 20, 21, 22, 35, 36, 37, 38, 41, 42, 43, 44, 45, 76, 77, 78, 79, 80, 81, 82, 83, 84, 85, 86, 87, 88, 89, 90, 91, 92, 93, 94, 95, 96, 97, 106, 107, 108, 109, 110, 111, 112, 113, 114, 115, 116, 117, 118, 123, 124, 125, 126, 127, 128, 129, 130, 131, 132, 133, 134, 135, 136, 137, 138, 139, 140, 141, 142] 6]) mix tabOkTH gam908_ok
    (vc := [((decide ((((scN (List.getD A i 0) (n - (tpAt n A i))) : Nat) : Int) < (((scN (List.getD A i 0) (n - (tpAt n A i))) : Nat) : Int))) = false)]) (by kernel_rfl)
    (aC (decide_eq_false (by first | omega | (simp (disch := omega) only [wrapI]; omega))) (AllP_nil))

theorem tpIs_loop (n nm : Nat) (l : List Int) (p pm : Nat) (A : List Int) (cap0 cap1 i : Nat) (si : Unit) (h0 : (pm = p)) (h1 : (nm = (n * (32 : Nat)))) (h2 : (n < (1099511627776 : Nat))) (h3 : (p < (1099511627776 : Nat))) (h4 : (V.Byt l)) (h5 : (List.length l = n * 32)) (hc0 : n ≤ cap0) (hc1 : p ≤ cap1) (hl0_0 : List.length l = nm) (hl1_0 : List.length A = pm) (hi : i < p) (y0 : 0 < (List.getD A i 0)) (y1 : (List.getD A i 0) ≤ 65536) (hs : (n - tpAt n A i) / 2 < ((List.getD A i 0)).toNat) (w : World) (β : Env) (s : Unit) : Run Try.prog ⟨w, [], 2, β⟩ (.block 4 (.loop (loopB Try.f8 4))) (tpIs_mk n nm l p pm A cap0 cap1 i si 0 s) (To ⟨w, [], 2, β⟩ .normal (tpIs_mk n nm l p pm A cap0 cap1 i si (scN (List.getD A i 0) (n - (tpAt n A i))) (iter (tpIs_step) (scN (List.getD A i 0) (n - (tpAt n A i))) s))) :=
  Run.count (fun k => tpIs_mk n nm l p pm A cap0 cap1 i si k (iter (tpIs_step) k s)) (scN (List.getD A i 0) (n - (tpAt n A i))) (fun k hk => tpIs_round n nm l p pm A cap0 cap1 i si h0 h1 h2 h3 h4 h5 hc0 hc1 hl0_0 hl1_0 hi y0 y1 hs w β k hk _) (ex := (.exit 4)) (by simp) (tpIs_last n nm l p pm A cap0 cap1 i si h0 h1 h2 h3 h4 h5 hc0 hc1 hl0_0 hl1_0 hi y0 y1 hs w β _)

set_option maxHeartbeats 1000000 in
theorem tp2_round_4 (n nm : Nat) (l : List Int) (p pm : Nat) (A : List Int) (cap0 cap1 : Nat) (h0 : (pm = p)) (h1 : (nm = (n * (32 : Nat)))) (h2 : (n < (1099511627776 : Nat))) (h3 : (p < (1099511627776 : Nat))) (h4 : (V.Byt l)) (h5 : (List.length l = n * 32)) (hc0 : n ≤ cap0) (hc1 : p ≤ cap1) (hl0_0 : List.length l = nm) (hl1_0 : List.length A = pm) (w : World) (β : Env) (i : Nat) (hi : i < p) (si : Unit) (y0 : 0 < (List.getD A i 0)) (y1 : (List.getD A i 0) ≤ 65536) (hs : (n - tpAt n A i) / 2 < ((List.getD A i 0)).toNat) : Run Try.prog ⟨w, [], 2, β⟩ (loopB Try.f8 2) (tp2_mk n nm l p pm A cap0 cap1 i si) (To ⟨w, [], 2, β⟩ .normal (tp2_mk n nm l p pm A cap0 cap1 (i + 1) (tp2_step i si))) := by
  have e0 : (IntKind.i64.wrap (((i : Nat) : Int) + (1 : Int))) = (((i + (1 : Nat)) : Nat) : Int) := (by first | rfl | exact wrap_succ (by omega) | omega | (simp (disch := omega) only [wrapI]; omega))
  have h := Run.of_outT (B := ⟨w, [], 2, β⟩) (Λ := lamOf [(4, ⟨[.forget [0, 1, 5, 6, 7, 8, 9, 12, 13, 14, 15, 16, 17, 18, 19, 20, 21, 22, 35, 36, 37, 38, 41, 42, 43, 44, 45, 76, 77, 78, 79, 80, 81, 82, 83, 84, 85, 86, 87, 88, 89, 90, 91, 92, 93, 94, 95, 96, 97, 106, 107, 108, 109, 110, 111, 112, 113, 114, 115, 116, 117, 118, 123, 124, 125, 126, 127, 128, 129, 130, 131, 132, 133, 134, 135, 136, 137, 138, 139, 140, 141, 142] 6], .normal, (tpIs_mk n nm l p pm A cap0 cap1 i si (scN (List.getD A i 0) (n - (tpAt n A i))) (iter (tpIs_step) (scN (List.getD A i 0) (n - (tpAt n A i))) ()))⟩)]) (Ψ := psiOf [(21, [.eqS 13 (.o (.a (.i .i64 (122 : Int))))]), (25, [.eqS 14 (.o (.a (.i .i64 ((((n - (tpAt n A i)) / (2 : Nat)) : Nat) : Int))))]), (26, [.eqS 15 (.o (.a (.b true))), .eqS 14 (.o (.a (.i .i64 (((scN (List.getD A i 0) (n - (tpAt n A i))) : Nat) : Int))))])]) (fuel := 0) (ora := [true, false, true, true, true, true, true, false, false, false, true, true, true, true, true, false, true, true, true, false, false, false, true, false, false, false, true]) (c := (loopB Try.f8 2)) (st := (tp2_mk n nm l p pm A cap0 cap1 i si)) (l := [.eqS 8 (.o (.a (.i .i64 (((tpAt n A (i + (1 : Nat))) : Nat) : Int)))), .eqB 4 (⟨true, [.rs 3 ((tpAt n A (i + (1 : Nat))) * (32 : Nat)) (n - (tpAt n A (i + (1 : Nat)))) 32]⟩), .forget [0, 1, 5, 6, 7, 8, 9, 17, 18, 19, 20, 21, 22] 5]) (s' := ⟨sparse 186 [(0, .o (.a (.sl 0 0 n cap0))), (1, .o (.a (.sl 1 0 p cap1))), (5, .o (.a (.rs 2 0 n 32))), (6, .o (.a (.p 4 0))), (7, .o (.a (.i .i64 ((n : Nat) : Int)))), (8, .o (.a (.i .i64 (((tpAt n A (i + (1 : Nat))) : Nat) : Int)))), (9, .o (.a (.i .i64 (IntKind.i64.wrap (((i : Nat) : Int) + (1 : Int)))))), (17, .o (.a (.sl 0 0 n cap0))), (18, .o (.a (.rs 2 0 n 32))), (19, .o (.a (.rs 2 0 n 32))), (20, .o (.a (.p 4 0))), (21, .o (.a (.p 4 0))), (22, .o (.a (.b false)))], [some ⟨false, [.ints .u8 nm l]⟩, some ⟨false, [.ints .i64 pm A]⟩, some ⟨true, [.ints .u8 (copyR n) (tp0_out0 n (copyR_1 n (sub l 0 (n * (32 : Nat)))))]⟩, some ⟨true, [.ints .u8 (n * (32 : Nat)) l]⟩, some ⟨true, [.rs 3 ((tpAt n A (i + (1 : Nat))) * (32 : Nat)) (n - (tpAt n A (i + (1 : Nat)))) 32]⟩]⟩) (ex := .normal) mix tabOkTH gam908_ok
    (vc := [((some ⟨true, [.rs 3 (scC (List.getD A i 0) ((tpAt n A i) * (32 : Nat)) (n - (tpAt n A i))) (scM (List.getD A i 0) (n - (tpAt n A i))) 32]⟩ : Option Blk) = some ⟨true, [.rs 3 ((tpAt n A (i + (1 : Nat))) * (32 : Nat)) (n - (tpAt n A (i + (1 : Nat)))) 32]⟩), ((.o (.a (.i .i64 ((n : Nat) : Int))) : AV) = .o (.a (.i .i64 (((tpAt n A (i + (1 : Nat))) : Nat) : Int)))), (true = true), (Run Try.prog ⟨w, [], 2, β⟩ (.block 4 (.loop (loopB Try.f8 4))) (tpIs_mk n nm l p pm A cap0 cap1 i si 0 ()) (To ⟨w, [], 2, β⟩ .normal (tpIs_mk n nm l p pm A cap0 cap1 i si (scN (List.getD A i 0) (n - (tpAt n A i))) (iter (tpIs_step) (scN (List.getD A i 0) (n - (tpAt n A i))) ())))), (false = false), (false = false), (false = false), (false = false), (false = false), (false = false), (false = false), (false = false), (false = false), (false = false), (((((scN (List.getD A i 0) (n - (tpAt n A i))) : Nat) : Int) != (((scN (List.getD A i 0) (n - (tpAt n A i))) : Nat) : Int)) = false), (((((scN (List.getD A i 0) (n - (tpAt n A i))) : Nat) : Int) != (((scN (List.getD A i 0) (n - (tpAt n A i))) : Nat) : Int)) = false), (((((scN (List.getD A i 0) (n - (tpAt n A i))) : Nat) : Int) != (((scN (List.getD A i 0) (n - (tpAt n A i))) : Nat) : Int)) = false), (((((scN (List.getD A i 0) (n - (tpAt n A i))) : Nat) : Int) != (((scN (List.getD A i 0) (n - (tpAt n A i))) : Nat) : Int)) = false), (((((scN (List.getD A i 0) (n - (tpAt n A i))) : Nat) : Int) != (((scN (List.getD A i 0) (n - (tpAt n A i))) : Nat) : Int)) = false), (((((scN (List.getD A i 0) (n - (tpAt n A i))) : Nat) : Int) != (((scN (List.getD A i 0) (n - (tpAt n A i))) : Nat) : Int)) = false), (false = false), ((.o (.a (.i .i64 ((((n - (tpAt n A i)) / (2 : Nat)) : Nat) : Int))) : AV) = .o (.a (.i .i64 (((scN (List.getD A i 0) (n - (tpAt n A i))) : Nat) : Int)))), ((.o (.a (.b (decide (((((n - (tpAt n A i)) / (2 : Nat)) : Nat) : Int) < (List.getD A i 0))))) : AV) = .o (.a (.b true))), (i < pm), (((0 : Int) ≤ ((i : Nat) : Int)) ∧ (((i : Nat) : Int) < ((p : Nat) : Int))), ((.o (.a (.i .i64 (IntKind.i64.wrap (Int.tdiv (IntKind.i64.wrap (((n : Nat) : Int) - (((tpAt n A i) : Nat) : Int))) (2 : Int))))) : AV) = .o (.a (.i .i64 ((((n - (tpAt n A i)) / (2 : Nat)) : Nat) : Int)))), ((2 : Int) ≠ 0), ((decide ((List.getD A i 0) > (65536 : Int))) = false), ((decide ((List.getD A i 0) < (0 : Int))) = false), ((decide ((List.getD A i 0) < (0 : Int))) = false), (i < pm), ((decide ((List.getD A i 0) < (0 : Int))) = false), (((0 : Int) ≤ ((i : Nat) : Int)) ∧ (((i : Nat) : Int) < ((p : Nat) : Int))), ((decide ((List.getD A i 0) < (0 : Int))) = false), ((decide ((List.getD A i 0) < (0 : Int))) = false), ((decide ((List.getD A i 0) < (0 : Int))) = false), (i < pm), (((0 : Int) ≤ ((i : Nat) : Int)) ∧ (((i : Nat) : Int) < ((p : Nat) : Int))), ((.o (.a (.i .i64 (scE (List.getD A i 0) (n - (tpAt n A i))))) : AV) = .o (.a (.i .i64 (122 : Int)))), ((True ∧ (True ∧ True)) ∧ (((((tpAt n A i) * (32 : Nat)) + ((n - (tpAt n A i)) * (32 : Nat))) ≤ (n * (32 : Nat))) ∧ ((n - (tpAt n A i)) < (1099511627776 : Nat)) ∧ (V.Byt l) ∧ ((0 : Int) ≤ (List.getD A i 0)) ∧ ((List.getD A i 0) ≤ (65536 : Int)))), (i < pm), (((0 : Int) ≤ ((i : Nat) : Int)) ∧ (((i : Nat) : Int) < ((p : Nat) : Int))), (((List.getD A i 0) == (0 : Int)) = false), (i < pm), (((0 : Int) ≤ ((i : Nat) : Int)) ∧ (((i : Nat) : Int) < ((p : Nat) : Int))), ((decide (((i : Nat) : Int) < ((p : Nat) : Int))) = true)]) (by kernel_rfl)
    (aC ((rsEq (by have ht := tpAt_le n A i; rw [tp_s y0 y1 hs]; unfold scC; rw [if_pos hs]; omega) (by rw [tp_s y0 y1 hs]; unfold scM; rw [if_pos hs]; omega))) (aC ((iEq (by rw [tp_s y0 y1 hs]))) (aC rfl (aC (tpIs_loop n nm l p pm A cap0 cap1 i si h0 h1 h2 h3 h4 h5 hc0 hc1 hl0_0 hl1_0 hi y0 y1 hs w β ()) (aC rfl (aC rfl (aC rfl (aC rfl (aC rfl (aC rfl (aC rfl (aC rfl (aC rfl (aC rfl (aC (not_bne_self _) (aC (not_bne_self _) (aC (not_bne_self _) (aC (not_bne_self _) (aC (not_bne_self _) (aC (not_bne_self _) (aC rfl (aC ((iEq (by unfold scN; rw [if_pos hs]))) (aC ((bEq (decide_eq_true (by omega)))) (aC (by have ht := tpAt_le n A i; first | omega | (simp (disch := omega) only [wrapI]; omega)) (aC ⟨(by have ht := tpAt_le n A i; first | omega | (simp (disch := omega) only [wrapI]; omega)), (by have ht := tpAt_le n A i; first | omega | (simp (disch := omega) only [wrapI]; omega))⟩ (aC ((iEq (by have ht := tpAt_le n A i; have hd := tdivN n (tpAt n A i) ht; rw [wrapI (x := (n : Int) - _) (by omega) (by omega), hd, wrapI (by omega) (by omega)]))) (aC (by decide) (aC (decide_eq_false (by omega)) (aC (decide_eq_false (by omega)) (aC (decide_eq_false (by omega)) (aC (by have ht := tpAt_le n A i; first | omega | (simp (disch := omega) only [wrapI]; omega)) (aC (decide_eq_false (by omega)) (aC ⟨(by have ht := tpAt_le n A i; first | omega | (simp (disch := omega) only [wrapI]; omega)), (by have ht := tpAt_le n A i; first | omega | (simp (disch := omega) only [wrapI]; omega))⟩ (aC (decide_eq_false (by omega)) (aC (decide_eq_false (by omega)) (aC (decide_eq_false (by omega)) (aC (by have ht := tpAt_le n A i; first | omega | (simp (disch := omega) only [wrapI]; omega)) (aC ⟨(by have ht := tpAt_le n A i; first | omega | (simp (disch := omega) only [wrapI]; omega)), (by have ht := tpAt_le n A i; first | omega | (simp (disch := omega) only [wrapI]; omega))⟩ (aC ((iEq (by unfold scE; rw [if_pos hs]))) (aC ⟨⟨trivial, ⟨trivial, trivial⟩⟩, ⟨(by have ht := tpAt_le n A i; first | omega | (simp (disch := omega) only [wrapI]; omega)), (by have ht := tpAt_le n A i; first | omega | (simp (disch := omega) only [wrapI]; omega)), h4, (by have ht := tpAt_le n A i; first | omega | (simp (disch := omega) only [wrapI]; omega)), (by have ht := tpAt_le n A i; first | omega | (simp (disch := omega) only [wrapI]; omega))⟩⟩ (aC (by have ht := tpAt_le n A i; first | omega | (simp (disch := omega) only [wrapI]; omega)) (aC ⟨(by have ht := tpAt_le n A i; first | omega | (simp (disch := omega) only [wrapI]; omega)), (by have ht := tpAt_le n A i; first | omega | (simp (disch := omega) only [wrapI]; omega))⟩ (aC (beq_eq_false_iff_ne.2 (by omega)) (aC (by have ht := tpAt_le n A i; first | omega | (simp (disch := omega) only [wrapI]; omega)) (aC ⟨(by have ht := tpAt_le n A i; first | omega | (simp (disch := omega) only [wrapI]; omega)), (by have ht := tpAt_le n A i; first | omega | (simp (disch := omega) only [wrapI]; omega))⟩ (aC (decide_eq_true (by have ht := tpAt_le n A i; first | omega | (simp (disch := omega) only [wrapI]; omega))) (AllP_nil)))))))))))))))))))))))))))))))))))))))))))))))
  rw [e0] at h
  exact h

noncomputable def tpIf_mk (n nm : Nat) (l : List Int) (p pm : Nat) (A : List Int) (cap0 cap1 i : Nat) (si : Unit) (k : Nat) (s : Unit) : St := ⟨sparse 186 [(0, .o (.a (.sl 0 0 n cap0))), (1, .o (.a (.sl 1 0 p cap1))), (5, .o (.a (.rs 2 0 n 32))), (6, .o (.a (.p 4 0))), (7, .o (.a (.i .i64 ((n : Nat) : Int)))), (8, .o (.a (.i .i64 (((tpAt n A i) : Nat) : Int)))), (9, .o (.a (.i .i64 ((i : Nat) : Int)))), (12, .o (.a (.rs 5 0 (scN (List.getD A i 0) (n - (tpAt n A i))) 32))), (13, .o (.a (.i .i64 (0 : Int)))), (14, .o (.a (.i .i64 (((scN (List.getD A i 0) (n - (tpAt n A i))) : Nat) : Int)))), (15, .o (.a (.b false))), (16, .o (.a (.i .i64 ((k : Nat) : Int)))), (17, .o (.a (.sl 0 0 n cap0))), (18, .o (.a (.rs 2 0 n 32))), (19, .o (.a (.rs 2 0 n 32))), (20, .o (.a (.p 4 0))), (21, .o (.a (.p 4 0))), (22, .o (.a (.b false))), (35, .o (.a (.i .i64 ((i : Nat) : Int)))), (36, .o (.a (.sl 1 0 p cap1))), (37, .o (.a (.i .i64 ((p : Nat) : Int)))), (38, .o (.a (.b (decide (((i : Nat) : Int) < ((p : Nat) : Int)))))), (41, .o (.a (.sl 1 0 p cap1))), (42, .o (.a (.i .i64 ((i : Nat) : Int)))), (43, .o (.a (.ps 1 i))), (44, .o (.a (.i .i64 (List.getD A i 0)))), (45, .o (.a (.b ((List.getD A i 0) == (0 : Int))))), (76, .t [.a (.rs 5 0 (scN (List.getD A i 0) (n - (tpAt n A i))) 32), .a (.i .i64 (scE (List.getD A i 0) (n - (tpAt n A i))))]), (77, .o (.a (.p 4 0))), (78, .o (.a (.ip 89 4 0))), (79, .o (.a (.sl 1 0 p cap1))), (80, .o (.a (.i .i64 ((i : Nat) : Int)))), (81, .o (.a (.ps 1 i))), (82, .o (.a (.i .i64 (List.getD A i 0)))), (83, .t [.a (.rs 5 0 (scN (List.getD A i 0) (n - (tpAt n A i))) 32), .a (.i .i64 (scE (List.getD A i 0) (n - (tpAt n A i))))]), (84, .o (.a (.rs 5 0 (scN (List.getD A i 0) (n - (tpAt n A i))) 32))), (85, .o (.a (.i .i64 (scE (List.getD A i 0) (n - (tpAt n A i)))))), (86, .o (.a (.sl 1 0 p cap1))), (87, .o (.a (.i .i64 ((i : Nat) : Int)))), (88, .o (.a (.ps 1 i))), (89, .o (.a (.i .i64 (List.getD A i 0)))), (90, .o (.a (.b (decide ((List.getD A i 0) < (0 : Int)))))), (91, .o (.a (.b (decide ((List.getD A i 0) < (0 : Int)))))), (92, .o (.a (.sl 1 0 p cap1))), (93, .o (.a (.i .i64 ((i : Nat) : Int)))), (94, .o (.a (.ps 1 i))), (95, .o (.a (.i .i64 (List.getD A i 0)))), (96, .o (.a (.b (decide ((List.getD A i 0) > (65536 : Int)))))), (97, .o (.a (.b (decide ((List.getD A i 0) > (65536 : Int)))))), (106, .o (.a (.sl 0 0 n cap0))), (107, .o (.a (.i .i64 ((n : Nat) : Int)))), (108, .o (.a (.i .i64 (((tpAt n A i) : Nat) : Int)))), (109, .o (.a (.i .i64 (IntKind.i64.wrap (((n : Nat) : Int) - (((tpAt n A i) : Nat) : Int)))))), (110, .o (.a (.i .i64 (IntKind.i64.wrap (Int.tdiv (IntKind.i64.wrap (((n : Nat) : Int) - (((tpAt n A i) : Nat) : Int))) (2 : Int)))))), (111, .o (.a (.i .i64 ((((n - (tpAt n A i)) / (2 : Nat)) : Nat) : Int)))), (112, .o (.a (.sl 1 0 p cap1))), (113, .o (.a (.i .i64 ((i : Nat) : Int)))), (114, .o (.a (.ps 1 i))), (115, .o (.a (.i .i64 (List.getD A i 0)))), (116, .o (.a (.b (decide (((((n - (tpAt n A i)) / (2 : Nat)) : Nat) : Int) < (List.getD A i 0)))))), (117, .o (.a (.b false))), (118, .o (.a (.b true))), (119, .o (.a (.sl 1 0 p cap1))), (120, .o (.a (.i .i64 ((i : Nat) : Int)))), (121, .o (.a (.ps 1 i))), (122, .o (.a (.i .i64 (List.getD A i 0)))), (123, .o (.a (.rs 5 0 (scN (List.getD A i 0) (n - (tpAt n A i))) 32))), (124, .o (.a (.i .i64 (((scN (List.getD A i 0) (n - (tpAt n A i))) : Nat) : Int)))), (125, .o (.a (.i .i64 (((scN (List.getD A i 0) (n - (tpAt n A i))) : Nat) : Int)))), (126, .o (.a (.b ((((scN (List.getD A i 0) (n - (tpAt n A i))) : Nat) : Int) != (((scN (List.getD A i 0) (n - (tpAt n A i))) : Nat) : Int))))), (127, .o (.a (.b ((((scN (List.getD A i 0) (n - (tpAt n A i))) : Nat) : Int) != (((scN (List.getD A i 0) (n - (tpAt n A i))) : Nat) : Int))))), (128, .o (.a (.b false))), (129, .o (.a (.i .i64 (0 : Int)))), (130, .o (.a (.i .i64 (0 : Int)))), (131, .o (.a (.b false))), (132, .o (.a (.b false))), (133, .o (.a (.b false))), (134, .o (.a (.b false))), (135, .o (.a (.b false))), (136, .o (.a (.b true))), (137, .o (.a (.b true))), (138, .o (.a (.i .i64 (0 : Int)))), (139, .o (.a (.i .i64 (0 : Int)))), (140, .o (.a (.b false))), (141, .o (.a (.b false))), (142, .o (.a (.b false)))], [some ⟨false, [.ints .u8 nm l]⟩, some ⟨false, [.ints .i64 pm A]⟩, some ⟨true, [.ints .u8 (copyR n) (tp0_out0 n (copyR_1 n (sub l 0 (n * (32 : Nat)))))]⟩, some ⟨true, [.ints .u8 (n * (32 : Nat)) l]⟩, some ⟨true, [.rs 3 (scC (List.getD A i 0) ((tpAt n A i) * (32 : Nat)) (n - (tpAt n A i))) (scM (List.getD A i 0) (n - (tpAt n A i))) 32]⟩, some ⟨true, [.ints .u8 (scZ (List.getD A i 0) (n - (tpAt n A i))) (scV (List.getD A i 0) ((tpAt n A i) * (32 : Nat)) (n - (tpAt n A i)) l)]⟩]⟩

noncomputable def tpIf_step (k : Nat) (s : Unit) : Unit :=
  ()

set_option maxHeartbeats 1000000 in
theorem tpIf_round (n nm : Nat) (l : List Int) (p pm : Nat) (A : List Int) (cap0 cap1 i : Nat) (si : Unit) (h0 : (pm = p)) (h1 : (nm = (n * (32 : Nat)))) (h2 : (n < (1099511627776 : Nat))) (h3 : (p < (1099511627776 : Nat))) (h4 : (V.Byt l)) (h5 : (List.length l = n * 32)) (hc0 : n ≤ cap0) (hc1 : p ≤ cap1) (hl0_0 : List.length l = nm) (hl1_0 : List.length A = pm) (hi : i < p) (y0 : 0 < (List.getD A i 0)) (y1 : (List.getD A i 0) ≤ 65536) (hs : ¬ (n - tpAt n A i) / 2 < ((List.getD A i 0)).toNat) (w : World) (β : Env) (k : Nat) (hk : k < (scN (List.getD A i 0) (n - (tpAt n A i)))) (s : Unit) : Run Try.prog ⟨w, [], 2, β⟩ (loopB Try.f8 4) (tpIf_mk n nm l p pm A cap0 cap1 i si k s) (To ⟨w, [], 2, β⟩ .normal (tpIf_mk n nm l p pm A cap0 cap1 i si (k + 1) (tpIf_step k s))) := by
  have e0 : (IntKind.i64.wrap (((k : Nat) : Int) + (1 : Int))) = (((k + (1 : Nat)) : Nat) : Int) := (by have hj2 := scN_lt hk; exact wrap_succ (by omega))
  have h := Run.of_outT (B := ⟨w, [], 2, β⟩) (Λ := noLam) (Ψ := noPsi) (fuel := 0) (ora := [true, false]) (c := (loopB Try.f8 4)) (st := (tpIf_mk n nm l p pm A cap0 cap1 i si k s)) (l := [.forget [0, 1, 5, 6, 7, 8, 9, 12, 13, 14, 15, 16, 17, 18, 19, 20, 21, 22, 35, 36, 37, 38, 41, 42, 43, 44, 45, 76, 77, 78, 79, 80, 81, 82, 83, 84, 85, 86, 87, 88, 89, 90, 91, 92, 93, 94, 95, 96, 97, 106, 107, 108, 109, 110, 111, 112, 113, 114, 115, 116, 117, 118, 119, 120, 121, 122, 123, 124, 125, 126, 127, 128, 129, 130, 131, 132, 133, 134, 135, 136, 137, 138, 139, 140, 141, 142] 6]) (s' := ⟨sparse 186 [(0, .o (.a (.sl 0 0 n cap0))), (1, .o (.a (.sl 1 0 p cap1))), (5, .o (.a (.rs 2 0 n 32))), (6, .o (.a (.p 4 0))), (7, .o (.a (.i .i64 ((n : Nat) : Int)))), (8, .o (.a (.i .i64 (((tpAt n A i) : Nat) : Int)))), (9, .o (.a (.i .i64 ((i : Nat) : Int)))), (12, .o (.a (.rs 5 0 (scN (List.getD A i 0) (n - (tpAt n A i))) 32))), (13, .o (.a (.i .i64 (0 : Int)))), (14, .o (.a (.i .i64 (((scN (List.getD A i 0) (n - (tpAt n A i))) : Nat) : Int)))), (15, .o (.a (.b false))), (16, .o (.a (.i .i64 (IntKind.i64.wrap (((k : Nat) : Int) + (1 : Int)))))), (17, .o (.a (.sl 0 0 n cap0))), (18, .o (.a (.rs 2 0 n 32))), (19, .o (.a (.rs 2 0 n 32))), (20, .o (.a (.p 4 0))), (21, .o (.a (.p 4 0))), (22, .o (.a (.b false))), (35, .o (.a (.i .i64 ((i : Nat) : Int)))), (36, .o (.a (.sl 1 0 p cap1))), (37, .o (.a (.i .i64 ((p : Nat) : Int)))), (38, .o (.a (.b (decide (((i : Nat) : Int) < ((p : Nat) : Int)))))), (41, .o (.a (.sl 1 0 p cap1))), (42, .o (.a (.i .i64 ((i : Nat) : Int)))), (43, .o (.a (.ps 1 i))), (44, .o (.a (.i .i64 (List.getD A i 0)))), (45, .o (.a (.b ((List.getD A i 0) == (0 : Int))))), (76, .t [.a (.rs 5 0 (scN (List.getD A i 0) (n - (tpAt n A i))) 32), .a (.i .i64 (scE (List.getD A i 0) (n - (tpAt n A i))))]), (77, .o (.a (.p 4 0))), (78, .o (.a (.ip 89 4 0))), (79, .o (.a (.sl 1 0 p cap1))), (80, .o (.a (.i .i64 ((i : Nat) : Int)))), (81, .o (.a (.ps 1 i))), (82, .o (.a (.i .i64 (List.getD A i 0)))), (83, .t [.a (.rs 5 0 (scN (List.getD A i 0) (n - (tpAt n A i))) 32), .a (.i .i64 (scE (List.getD A i 0) (n - (tpAt n A i))))]), (84, .o (.a (.rs 5 0 (scN (List.getD A i 0) (n - (tpAt n A i))) 32))), (85, .o (.a (.i .i64 (scE (List.getD A i 0) (n - (tpAt n A i)))))), (86, .o (.a (.sl 1 0 p cap1))), (87, .o (.a (.i .i64 ((i : Nat) : Int)))), (88, .o (.a (.ps 1 i))), (89, .o (.a (.i .i64 (List.getD A i 0)))), (90, .o (.a (.b (decide ((List.getD A i 0) < (0 : Int)))))), (91, .o (.a (.b (decide ((List.getD A i 0) < (0 : Int)))))), (92, .o (.a (.sl 1 0 p cap1))), (93, .o (.a (.i .i64 ((i : Nat) : Int)))), (94, .o (.a (.ps 1 i))), (95, .o (.a (.i .i64 (List.getD A i 0)))), (96, .o (.a (.b (decide ((List.getD A i 0) > (65536 : Int)))))), (97, .o (.a (.b (decide ((List.getD A i 0) > (65536 : Int)))))), (106, .o (.a (.sl 0 0 n cap0))), (107, .o (.a (.i .i64 ((n : Nat) : Int)))), (108, .o (.a (.i .i64 (((tpAt n A i) : Nat) : Int)))), (109, .o (.a (.i .i64 (IntKind.i64.wrap (((n : Nat) : Int) - (((tpAt n A i) : Nat) : Int)))))), (110, .o (.a (.i .i64 (IntKind.i64.wrap (Int.tdiv (IntKind.i64.wrap (((n : Nat) : Int) - (((tpAt n A i) : Nat) : Int))) (2 : Int)))))), (111, .o (.a (.i .i64 ((((n - (tpAt n A i)) / (2 : Nat)) : Nat) : Int)))), (112, .o (.a (.sl 1 0 p cap1))), (113, .o (.a (.i .i64 ((i : Nat) : Int)))), (114, .o (.a (.ps 1 i))), (115, .o (.a (.i .i64 (List.getD A i 0)))), (116, .o (.a (.b (decide (((((n - (tpAt n A i)) / (2 : Nat)) : Nat) : Int) < (List.getD A i 0)))))), (117, .o (.a (.b false))), (118, .o (.a (.b true))), (119, .o (.a (.sl 1 0 p cap1))), (120, .o (.a (.i .i64 ((i : Nat) : Int)))), (121, .o (.a (.ps 1 i))), (122, .o (.a (.i .i64 (List.getD A i 0)))), (123, .o (.a (.rs 5 0 (scN (List.getD A i 0) (n - (tpAt n A i))) 32))), (124, .o (.a (.i .i64 (((scN (List.getD A i 0) (n - (tpAt n A i))) : Nat) : Int)))), (125, .o (.a (.i .i64 (((scN (List.getD A i 0) (n - (tpAt n A i))) : Nat) : Int)))), (126, .o (.a (.b ((((scN (List.getD A i 0) (n - (tpAt n A i))) : Nat) : Int) != (((scN (List.getD A i 0) (n - (tpAt n A i))) : Nat) : Int))))), (127, .o (.a (.b ((((scN (List.getD A i 0) (n - (tpAt n A i))) : Nat) : Int) != (((scN (List.getD A i 0) (n - (tpAt n A i))) : Nat) : Int))))), (128, .o (.a (.b false))), (129, .o (.a (.i .i64 (0 : Int)))), (130, .o (.a (.i .i64 (0 : Int)))), (131, .o (.a (.b false))), (132, .o (.a (.b false))), (133, .o (.a (.b false))), (134, .o (.a (.b false))), (135, .o (.a (.b false))), (136, .o (.a (.b true))), (137, .o (.a (.b true))), (138, .o (.a (.i .i64 (0 : Int)))), (139, .o (.a (.i .i64 (0 : Int)))), (140, .o (.a (.b false))), (141, .o (.a (.b false))), (142, .o (.a (.b false)))], [some ⟨false, [.ints .u8 nm l]⟩, some ⟨false, [.ints .i64 pm A]⟩, some ⟨true, [.ints .u8 (copyR n) (tp0_out0 n (copyR_1 n (sub l 0 (n * (32 : Nat)))))]⟩, some ⟨true, [.ints .u8 (n * (32 : Nat)) l]⟩, some ⟨true, [.rs 3 (scC (List.getD A i 0) ((tpAt n A i) * (32 : Nat)) (n - (tpAt n A i))) (scM (List.getD A i 0) (n - (tpAt n A i))) 32]⟩, some ⟨true, [.ints .u8 (scZ (List.getD A i 0) (n - (tpAt n A i))) (scV (List.getD A i 0) ((tpAt n A i) * (32 : Nat)) (n - (tpAt n A i)) l)]⟩]⟩) (ex := .normal) mix tabOkTH gam908_ok
    (vc := [((!(decide ((sub (scV (List.getD A i 0) ((tpAt n A i) * (32 : Nat)) (n - (tpAt n A i)) l) (k * (32 : Nat)) (32 : Nat)) = (two (sub l ((Int.toNat (IntKind.i64.wrap ((((tpAt n A i) : Nat) : Int) + (IntKind.i64.wrap ((2 : Int) * ((k : Nat) : Int)))))) * (32 : Nat)) (32 : Nat)) (sub l ((Int.toNat (IntKind.i64.wrap ((IntKind.i64.wrap ((((tpAt n A i) : Nat) : Int) + (IntKind.i64.wrap ((2 : Int) * ((k : Nat) : Int))))) + (1 : Int)))) * (32 : Nat)) (32 : Nat)))))) = false), ((V.Byt (sub l ((Int.toNat (IntKind.i64.wrap ((((tpAt n A i) : Nat) : Int) + (IntKind.i64.wrap ((2 : Int) * ((k : Nat) : Int)))))) * (32 : Nat)) (32 : Nat))) ∧ (V.Byt (sub l ((Int.toNat (IntKind.i64.wrap ((IntKind.i64.wrap ((((tpAt n A i) : Nat) : Int) + (IntKind.i64.wrap ((2 : Int) * ((k : Nat) : Int))))) + (1 : Int)))) * (32 : Nat)) (32 : Nat)))), ((((Int.toNat (IntKind.i64.wrap ((IntKind.i64.wrap ((((tpAt n A i) : Nat) : Int) + (IntKind.i64.wrap ((2 : Int) * ((k : Nat) : Int))))) + (1 : Int)))) * (32 : Nat)) + (32 : Nat)) ≤ nm), (((0 : Int) ≤ (IntKind.i64.wrap ((IntKind.i64.wrap ((((tpAt n A i) : Nat) : Int) + (IntKind.i64.wrap ((2 : Int) * ((k : Nat) : Int))))) + (1 : Int)))) ∧ ((IntKind.i64.wrap ((IntKind.i64.wrap ((((tpAt n A i) : Nat) : Int) + (IntKind.i64.wrap ((2 : Int) * ((k : Nat) : Int))))) + (1 : Int))) < ((n : Nat) : Int))), ((((Int.toNat (IntKind.i64.wrap ((((tpAt n A i) : Nat) : Int) + (IntKind.i64.wrap ((2 : Int) * ((k : Nat) : Int)))))) * (32 : Nat)) + (32 : Nat)) ≤ nm), (((0 : Int) ≤ (IntKind.i64.wrap ((((tpAt n A i) : Nat) : Int) + (IntKind.i64.wrap ((2 : Int) * ((k : Nat) : Int)))))) ∧ ((IntKind.i64.wrap ((((tpAt n A i) : Nat) : Int) + (IntKind.i64.wrap ((2 : Int) * ((k : Nat) : Int))))) < ((n : Nat) : Int))), (((k * (32 : Nat)) + (32 : Nat)) ≤ (scZ (List.getD A i 0) (n - (tpAt n A i)))), (((0 : Int) ≤ ((k : Nat) : Int)) ∧ (((k : Nat) : Int) < (((scN (List.getD A i 0) (n - (tpAt n A i))) : Nat) : Int))), ((decide (((k : Nat) : Int) < (((scN (List.getD A i 0) (n - (tpAt n A i))) : Nat) : Int))) = true)]) (by kernel_rfl)
    (aC (ndec_eq (row_eq h5 (tpAt_le n A i) h2 hk)) (aC ⟨(V.byt_sub h4 _ _), (V.byt_sub h4 _ _)⟩ (aC (by have hj2 := scN_lt hk; have ht := tpAt_le n A i; first | omega | (show _ ≤ scN _ _ * 32; omega) | (rw [tp_i1 ht h2 hj2]; omega) | (rw [tp_i0 ht h2 hj2]; omega)) (aC ⟨(by have hj2 := scN_lt hk; have ht := tpAt_le n A i; first | omega | (show _ ≤ scN _ _ * 32; omega) | (rw [tp_i1 ht h2 hj2]; omega) | (rw [tp_i0 ht h2 hj2]; omega)), (by have hj2 := scN_lt hk; have ht := tpAt_le n A i; first | omega | (show _ ≤ scN _ _ * 32; omega) | (rw [tp_i1 ht h2 hj2]; omega) | (rw [tp_i0 ht h2 hj2]; omega))⟩ (aC (by have hj2 := scN_lt hk; have ht := tpAt_le n A i; first | omega | (show _ ≤ scN _ _ * 32; omega) | (rw [tp_i1 ht h2 hj2]; omega) | (rw [tp_i0 ht h2 hj2]; omega)) (aC ⟨(by have hj2 := scN_lt hk; have ht := tpAt_le n A i; first | omega | (show _ ≤ scN _ _ * 32; omega) | (rw [tp_i1 ht h2 hj2]; omega) | (rw [tp_i0 ht h2 hj2]; omega)), (by have hj2 := scN_lt hk; have ht := tpAt_le n A i; first | omega | (show _ ≤ scN _ _ * 32; omega) | (rw [tp_i1 ht h2 hj2]; omega) | (rw [tp_i0 ht h2 hj2]; omega))⟩ (aC (by have hj2 := scN_lt hk; have ht := tpAt_le n A i; first | omega | (show _ ≤ scN _ _ * 32; omega) | (rw [tp_i1 ht h2 hj2]; omega) | (rw [tp_i0 ht h2 hj2]; omega)) (aC ⟨(by have hj2 := scN_lt hk; have ht := tpAt_le n A i; first | omega | (show _ ≤ scN _ _ * 32; omega) | (rw [tp_i1 ht h2 hj2]; omega) | (rw [tp_i0 ht h2 hj2]; omega)), (by have hj2 := scN_lt hk; have ht := tpAt_le n A i; first | omega | (show _ ≤ scN _ _ * 32; omega) | (rw [tp_i1 ht h2 hj2]; omega) | (rw [tp_i0 ht h2 hj2]; omega))⟩ (aC (decide_eq_true (by have hj2 := scN_lt hk; have ht := tpAt_le n A i; first | omega | (show _ ≤ scN _ _ * 32; omega) | (rw [tp_i1 ht h2 hj2]; omega) | (rw [tp_i0 ht h2 hj2]; omega))) (AllP_nil))))))))))
  rw [e0] at h
  exact h

set_option maxHeartbeats 1000000 in
theorem tpIf_last (n nm : Nat) (l : List Int) (p pm : Nat) (A : List Int) (cap0 cap1 i : Nat) (si : Unit) (h0 : (pm = p)) (h1 : (nm = (n * (32 : Nat)))) (h2 : (n < (1099511627776 : Nat))) (h3 : (p < (1099511627776 : Nat))) (h4 : (V.Byt l)) (h5 : (List.length l = n * 32)) (hc0 : n ≤ cap0) (hc1 : p ≤ cap1) (hl0_0 : List.length l = nm) (hl1_0 : List.length A = pm) (hi : i < p) (y0 : 0 < (List.getD A i 0)) (y1 : (List.getD A i 0) ≤ 65536) (hs : ¬ (n - tpAt n A i) / 2 < ((List.getD A i 0)).toNat) (w : World) (β : Env) (s : Unit) : Run Try.prog ⟨w, [], 2, β⟩ (loopB Try.f8 4) (tpIf_mk n nm l p pm A cap0 cap1 i si (scN (List.getD A i 0) (n - (tpAt n A i))) s) (To ⟨w, [], 2, β⟩ (.exit 4) (tpIf_mk n nm l p pm A cap0 cap1 i si (scN (List.getD A i 0) (n - (tpAt n A i))) s)) :=
  Run.of_outT (B := ⟨w, [], 2, β⟩) (Λ := noLam) (Ψ := noPsi) (fuel := 0) (ora := [false]) (l := [.forget [0, 1, 5, 6, 7, 8, 9, 12, 13, 14, 15, 16, 17, 18, 19, 20, 21, 22, 35, 36, 37, 38, 41, 42, 43, 44, 45, 76, 77, 78, 79, 80, 81, 82, 83, 84, 85, 86, 87, 88, 89, 90, 91, 92, 93, 94, 95, 96, 97, 106, 107, 108, 109, 110, 111, 112, 113, 114, 115, 116, 117, 118, 119, 120, 121, 122, 123, 124, 125, 126, 127, 128, 129, 130, 131, 132, 133, 134, 135, 136, 137, 138, 139, 140, 141, 142] 6]) mix tabOkTH gam908_ok
    (vc := [((decide ((((scN (List.getD A i 0) (n - (tpAt n A i))) : Nat) : Int) < (((scN (List.getD A i 0) (n - (tpAt n A i))) : Nat) : Int))) = false)]) (by kernel_rfl)
    (aC (decide_eq_false (by first | omega | (simp (disch := omega) only [wrapI]; omega))) (AllP_nil))

theorem tpIf_loop (n nm : Nat) (l : List Int) (p pm : Nat) (A : List Int) (cap0 cap1 i : Nat) (si : Unit) (h0 : (pm = p)) (h1 : (nm = (n * (32 : Nat)))) (h2 : (n < (1099511627776 : Nat))) (h3 : (p < (1099511627776 : Nat))) (h4 : (V.Byt l)) (h5 : (List.length l = n * 32)) (hc0 : n ≤ cap0) (hc1 : p ≤ cap1) (hl0_0 : List.length l = nm) (hl1_0 : List.length A = pm) (hi : i < p) (y0 : 0 < (List.getD A i 0)) (y1 : (List.getD A i 0) ≤ 65536) (hs : ¬ (n - tpAt n A i) / 2 < ((List.getD A i 0)).toNat) (w : World) (β : Env) (s : Unit) : Run Try.prog ⟨w, [], 2, β⟩ (.block 4 (.loop (loopB Try.f8 4))) (tpIf_mk n nm l p pm A cap0 cap1 i si 0 s) (To ⟨w, [], 2, β⟩ .normal (tpIf_mk n nm l p pm A cap0 cap1 i si (scN (List.getD A i 0) (n - (tpAt n A i))) (iter (tpIf_step) (scN (List.getD A i 0) (n - (tpAt n A i))) s))) :=
  Run.count (fun k => tpIf_mk n nm l p pm A cap0 cap1 i si k (iter (tpIf_step) k s)) (scN (List.getD A i 0) (n - (tpAt n A i))) (fun k hk => tpIf_round n nm l p pm A cap0 cap1 i si h0 h1 h2 h3 h4 h5 hc0 hc1 hl0_0 hl1_0 hi y0 y1 hs w β k hk _) (ex := (.exit 4)) (by simp) (tpIf_last n nm l p pm A cap0 cap1 i si h0 h1 h2 h3 h4 h5 hc0 hc1 hl0_0 hl1_0 hi y0 y1 hs w β _)

set_option maxHeartbeats 1000000 in
theorem tp2_round_5 (n nm : Nat) (l : List Int) (p pm : Nat) (A : List Int) (cap0 cap1 : Nat) (h0 : (pm = p)) (h1 : (nm = (n * (32 : Nat)))) (h2 : (n < (1099511627776 : Nat))) (h3 : (p < (1099511627776 : Nat))) (h4 : (V.Byt l)) (h5 : (List.length l = n * 32)) (hc0 : n ≤ cap0) (hc1 : p ≤ cap1) (hl0_0 : List.length l = nm) (hl1_0 : List.length A = pm) (w : World) (β : Env) (i : Nat) (hi : i < p) (si : Unit) (y0 : 0 < (List.getD A i 0)) (y1 : (List.getD A i 0) ≤ 65536) (hs : ¬ (n - tpAt n A i) / 2 < ((List.getD A i 0)).toNat) : Run Try.prog ⟨w, [], 2, β⟩ (loopB Try.f8 2) (tp2_mk n nm l p pm A cap0 cap1 i si) (To ⟨w, [], 2, β⟩ .normal (tp2_mk n nm l p pm A cap0 cap1 (i + 1) (tp2_step i si))) := by
  have e0 : (IntKind.i64.wrap (((i : Nat) : Int) + (1 : Int))) = (((i + (1 : Nat)) : Nat) : Int) := (by first | rfl | exact wrap_succ (by omega) | omega | (simp (disch := omega) only [wrapI]; omega))
  have h := Run.of_outT (B := ⟨w, [], 2, β⟩) (Λ := lamOf [(4, ⟨[.forget [0, 1, 5, 6, 7, 8, 9, 12, 13, 14, 15, 16, 17, 18, 19, 20, 21, 22, 35, 36, 37, 38, 41, 42, 43, 44, 45, 76, 77, 78, 79, 80, 81, 82, 83, 84, 85, 86, 87, 88, 89, 90, 91, 92, 93, 94, 95, 96, 97, 106, 107, 108, 109, 110, 111, 112, 113, 114, 115, 116, 117, 118, 119, 120, 121, 122, 123, 124, 125, 126, 127, 128, 129, 130, 131, 132, 133, 134, 135, 136, 137, 138, 139, 140, 141, 142] 6], .normal, (tpIf_mk n nm l p pm A cap0 cap1 i si (scN (List.getD A i 0) (n - (tpAt n A i))) (iter (tpIf_step) (scN (List.getD A i 0) (n - (tpAt n A i))) ()))⟩)]) (Ψ := psiOf [(21, [.eqS 13 (.o (.a (.i .i64 (0 : Int))))]), (25, [.eqS 14 (.o (.a (.i .i64 ((((n - (tpAt n A i)) / (2 : Nat)) : Nat) : Int))))]), (26, [.eqS 15 (.o (.a (.b false)))]), (28, [.eqS 14 (.o (.a (.i .i64 (((scN (List.getD A i 0) (n - (tpAt n A i))) : Nat) : Int))))])]) (fuel := 0) (ora := [true, false, true, true, true, true, true, false, false, true, true, true, true, true, true, false, true, true, true, true, true, true, true, true, false, false, false]) (c := (loopB Try.f8 2)) (st := (tp2_mk n nm l p pm A cap0 cap1 i si)) (l := [.eqS 8 (.o (.a (.i .i64 (((tpAt n A (i + (1 : Nat))) : Nat) : Int)))), .eqB 4 (⟨true, [.rs 3 ((tpAt n A (i + (1 : Nat))) * (32 : Nat)) (n - (tpAt n A (i + (1 : Nat)))) 32]⟩), .forget [0, 1, 5, 6, 7, 8, 9, 17, 18, 19, 20, 21, 22] 5]) (s' := ⟨sparse 186 [(0, .o (.a (.sl 0 0 n cap0))), (1, .o (.a (.sl 1 0 p cap1))), (5, .o (.a (.rs 2 0 n 32))), (6, .o (.a (.p 4 0))), (7, .o (.a (.i .i64 ((n : Nat) : Int)))), (8, .o (.a (.i .i64 (((tpAt n A (i + (1 : Nat))) : Nat) : Int)))), (9, .o (.a (.i .i64 (IntKind.i64.wrap (((i : Nat) : Int) + (1 : Int)))))), (17, .o (.a (.sl 0 0 n cap0))), (18, .o (.a (.rs 2 0 n 32))), (19, .o (.a (.rs 2 0 n 32))), (20, .o (.a (.p 4 0))), (21, .o (.a (.p 4 0))), (22, .o (.a (.b false)))], [some ⟨false, [.ints .u8 nm l]⟩, some ⟨false, [.ints .i64 pm A]⟩, some ⟨true, [.ints .u8 (copyR n) (tp0_out0 n (copyR_1 n (sub l 0 (n * (32 : Nat)))))]⟩, some ⟨true, [.ints .u8 (n * (32 : Nat)) l]⟩, some ⟨true, [.rs 3 ((tpAt n A (i + (1 : Nat))) * (32 : Nat)) (n - (tpAt n A (i + (1 : Nat)))) 32]⟩]⟩) (ex := .normal) mix tabOkTH gam908_ok
    (vc := [((some ⟨true, [.rs 3 (scC (List.getD A i 0) ((tpAt n A i) * (32 : Nat)) (n - (tpAt n A i))) (scM (List.getD A i 0) (n - (tpAt n A i))) 32]⟩ : Option Blk) = some ⟨true, [.rs 3 ((tpAt n A (i + (1 : Nat))) * (32 : Nat)) (n - (tpAt n A (i + (1 : Nat)))) 32]⟩), ((.o (.a (.i .i64 (IntKind.i64.wrap ((((tpAt n A i) : Nat) : Int) + (IntKind.i64.wrap ((2 : Int) * (((scN (List.getD A i 0) (n - (tpAt n A i))) : Nat) : Int))))))) : AV) = .o (.a (.i .i64 (((tpAt n A (i + (1 : Nat))) : Nat) : Int)))), (false = false), (Run Try.prog ⟨w, [], 2, β⟩ (.block 4 (.loop (loopB Try.f8 4))) (tpIf_mk n nm l p pm A cap0 cap1 i si 0 ()) (To ⟨w, [], 2, β⟩ .normal (tpIf_mk n nm l p pm A cap0 cap1 i si (scN (List.getD A i 0) (n - (tpAt n A i))) (iter (tpIf_step) (scN (List.getD A i 0) (n - (tpAt n A i))) ())))), (false = false), (false = false), (true = true), (false = false), (true = true), (true = true), (true = true), (false = false), (false = false), (false = false), (((((scN (List.getD A i 0) (n - (tpAt n A i))) : Nat) : Int) != (((scN (List.getD A i 0) (n - (tpAt n A i))) : Nat) : Int)) = false), (((((scN (List.getD A i 0) (n - (tpAt n A i))) : Nat) : Int) != (((scN (List.getD A i 0) (n - (tpAt n A i))) : Nat) : Int)) = false), (((((scN (List.getD A i 0) (n - (tpAt n A i))) : Nat) : Int) != (((scN (List.getD A i 0) (n - (tpAt n A i))) : Nat) : Int)) = false), (((((scN (List.getD A i 0) (n - (tpAt n A i))) : Nat) : Int) != (((scN (List.getD A i 0) (n - (tpAt n A i))) : Nat) : Int)) = false), (((((scN (List.getD A i 0) (n - (tpAt n A i))) : Nat) : Int) != (((scN (List.getD A i 0) (n - (tpAt n A i))) : Nat) : Int)) = false), (((((scN (List.getD A i 0) (n - (tpAt n A i))) : Nat) : Int) != (((scN (List.getD A i 0) (n - (tpAt n A i))) : Nat) : Int)) = false), ((.o (.a (.i .i64 (List.getD A i 0))) : AV) = .o (.a (.i .i64 (((scN (List.getD A i 0) (n - (tpAt n A i))) : Nat) : Int)))), (i < pm), (((0 : Int) ≤ ((i : Nat) : Int)) ∧ (((i : Nat) : Int) < ((p : Nat) : Int))), (true = true), ((.o (.a (.b (decide (((((n - (tpAt n A i)) / (2 : Nat)) : Nat) : Int) < (List.getD A i 0))))) : AV) = .o (.a (.b false))), (i < pm), (((0 : Int) ≤ ((i : Nat) : Int)) ∧ (((i : Nat) : Int) < ((p : Nat) : Int))), ((.o (.a (.i .i64 (IntKind.i64.wrap (Int.tdiv (IntKind.i64.wrap (((n : Nat) : Int) - (((tpAt n A i) : Nat) : Int))) (2 : Int))))) : AV) = .o (.a (.i .i64 ((((n - (tpAt n A i)) / (2 : Nat)) : Nat) : Int)))), ((2 : Int) ≠ 0), ((decide ((List.getD A i 0) > (65536 : Int))) = false), ((decide ((List.getD A i 0) < (0 : Int))) = false), ((decide ((List.getD A i 0) < (0 : Int))) = false), (i < pm), ((decide ((List.getD A i 0) < (0 : Int))) = false), (((0 : Int) ≤ ((i : Nat) : Int)) ∧ (((i : Nat) : Int) < ((p : Nat) : Int))), ((decide ((List.getD A i 0) < (0 : Int))) = false), ((decide ((List.getD A i 0) < (0 : Int))) = false), ((decide ((List.getD A i 0) < (0 : Int))) = false), (i < pm), (((0 : Int) ≤ ((i : Nat) : Int)) ∧ (((i : Nat) : Int) < ((p : Nat) : Int))), ((.o (.a (.i .i64 (scE (List.getD A i 0) (n - (tpAt n A i))))) : AV) = .o (.a (.i .i64 (0 : Int)))), ((True ∧ (True ∧ True)) ∧ (((((tpAt n A i) * (32 : Nat)) + ((n - (tpAt n A i)) * (32 : Nat))) ≤ (n * (32 : Nat))) ∧ ((n - (tpAt n A i)) < (1099511627776 : Nat)) ∧ (V.Byt l) ∧ ((0 : Int) ≤ (List.getD A i 0)) ∧ ((List.getD A i 0) ≤ (65536 : Int)))), (i < pm), (((0 : Int) ≤ ((i : Nat) : Int)) ∧ (((i : Nat) : Int) < ((p : Nat) : Int))), (((List.getD A i 0) == (0 : Int)) = false), (i < pm), (((0 : Int) ≤ ((i : Nat) : Int)) ∧ (((i : Nat) : Int) < ((p : Nat) : Int))), ((decide (((i : Nat) : Int) < ((p : Nat) : Int))) = true)]) (by kernel_rfl)
    (aC ((rsEq (by have ht := tpAt_le n A i; rw [tp_f y0 y1 hs]; unfold scC; rw [if_neg hs]; omega) (by have ht := tpAt_le n A i; rw [tp_f y0 y1 hs]; unfold scM; rw [if_neg hs]; omega))) (aC ((iEq (by have ht := tpAt_le n A i; rw [tp_f y0 y1 hs]; unfold scN; rw [if_neg hs]; rw [wrapI (x := 2 * _) (by omega) (by omega), wrapI (by omega) (by omega)]; omega))) (aC rfl (aC (tpIf_loop n nm l p pm A cap0 cap1 i si h0 h1 h2 h3 h4 h5 hc0 hc1 hl0_0 hl1_0 hi y0 y1 hs w β ()) (aC rfl (aC rfl (aC rfl (aC rfl (aC rfl (aC rfl (aC rfl (aC rfl (aC rfl (aC rfl (aC (not_bne_self _) (aC (not_bne_self _) (aC (not_bne_self _) (aC (not_bne_self _) (aC (not_bne_self _) (aC (not_bne_self _) (aC ((iEq (by unfold scN; rw [if_neg hs]; omega))) (aC (by have ht := tpAt_le n A i; first | omega | (simp (disch := omega) only [wrapI]; omega)) (aC ⟨(by have ht := tpAt_le n A i; first | omega | (simp (disch := omega) only [wrapI]; omega)), (by have ht := tpAt_le n A i; first | omega | (simp (disch := omega) only [wrapI]; omega))⟩ (aC rfl (aC ((bEq (decide_eq_false (by omega)))) (aC (by have ht := tpAt_le n A i; first | omega | (simp (disch := omega) only [wrapI]; omega)) (aC ⟨(by have ht := tpAt_le n A i; first | omega | (simp (disch := omega) only [wrapI]; omega)), (by have ht := tpAt_le n A i; first | omega | (simp (disch := omega) only [wrapI]; omega))⟩ (aC ((iEq (by have ht := tpAt_le n A i; have hd := tdivN n (tpAt n A i) ht; rw [wrapI (x := (n : Int) - _) (by omega) (by omega), hd, wrapI (by omega) (by omega)]))) (aC (by decide) (aC (decide_eq_false (by omega)) (aC (decide_eq_false (by omega)) (aC (decide_eq_false (by omega)) (aC (by have ht := tpAt_le n A i; first | omega | (simp (disch := omega) only [wrapI]; omega)) (aC (decide_eq_false (by omega)) (aC ⟨(by have ht := tpAt_le n A i; first | omega | (simp (disch := omega) only [wrapI]; omega)), (by have ht := tpAt_le n A i; first | omega | (simp (disch := omega) only [wrapI]; omega))⟩ (aC (decide_eq_false (by omega)) (aC (decide_eq_false (by omega)) (aC (decide_eq_false (by omega)) (aC (by have ht := tpAt_le n A i; first | omega | (simp (disch := omega) only [wrapI]; omega)) (aC ⟨(by have ht := tpAt_le n A i; first | omega | (simp (disch := omega) only [wrapI]; omega)), (by have ht := tpAt_le n A i; first | omega | (simp (disch := omega) only [wrapI]; omega))⟩ (aC ((iEq (by unfold scE; rw [if_neg hs]))) (aC ⟨⟨trivial, ⟨trivial, trivial⟩⟩, ⟨(by have ht := tpAt_le n A i; first | omega | (simp (disch := omega) only [wrapI]; omega)), (by have ht := tpAt_le n A i; first | omega | (simp (disch := omega) only [wrapI]; omega)), h4, (by have ht := tpAt_le n A i; first | omega | (simp (disch := omega) only [wrapI]; omega)), (by have ht := tpAt_le n A i; first | omega | (simp (disch := omega) only [wrapI]; omega))⟩⟩ (aC (by have ht := tpAt_le n A i; first | omega | (simp (disch := omega) only [wrapI]; omega)) (aC ⟨(by have ht := tpAt_le n A i; first | omega | (simp (disch := omega) only [wrapI]; omega)), (by have ht := tpAt_le n A i; first | omega | (simp (disch := omega) only [wrapI]; omega))⟩ (aC (beq_eq_false_iff_ne.2 (by omega)) (aC (by have ht := tpAt_le n A i; first | omega | (simp (disch := omega) only [wrapI]; omega)) (aC ⟨(by have ht := tpAt_le n A i; first | omega | (simp (disch := omega) only [wrapI]; omega)), (by have ht := tpAt_le n A i; first | omega | (simp (disch := omega) only [wrapI]; omega))⟩ (aC (decide_eq_true (by have ht := tpAt_le n A i; first | omega | (simp (disch := omega) only [wrapI]; omega))) (AllP_nil)))))))))))))))))))))))))))))))))))))))))))))))))
  rw [e0] at h
  exact h

theorem tp2_round (n nm : Nat) (l : List Int) (p pm : Nat) (A : List Int) (cap0 cap1 : Nat) (h0 : (pm = p)) (h1 : (nm = (n * (32 : Nat)))) (h2 : (n < (1099511627776 : Nat))) (h3 : (p < (1099511627776 : Nat))) (h4 : (V.Byt l)) (h5 : (List.length l = n * 32)) (hc0 : n ≤ cap0) (hc1 : p ≤ cap1) (hl0_0 : List.length l = nm) (hl1_0 : List.length A = pm) (w : World) (β : Env) (i : Nat) (hi : i < p) (si : Unit) : Run Try.prog ⟨w, [], 2, β⟩ (loopB Try.f8 2) (tp2_mk n nm l p pm A cap0 cap1 i si) (To ⟨w, [], 2, β⟩ .normal (tp2_mk n nm l p pm A cap0 cap1 (i + 1) (tp2_step i si))) := by
  rcases Int.lt_trichotomy ((List.getD A i 0)) 0 with y0 | y0 | y0
  · exact tp2_round_2 n nm l p pm A cap0 cap1 h0 h1 h2 h3 h4 h5 hc0 hc1 hl0_0 hl1_0 w β i hi si y0
  · by_cases hz : tpAt n A i = n
    · exact tp2_round_0 n nm l p pm A cap0 cap1 h0 h1 h2 h3 h4 h5 hc0 hc1 hl0_0 hl1_0 w β i hi si y0 hz
    · exact tp2_round_1 n nm l p pm A cap0 cap1 h0 h1 h2 h3 h4 h5 hc0 hc1 hl0_0 hl1_0 w β i hi si y0 (by have ht := tpAt_le n A i; omega)
  · by_cases y1 : (List.getD A i 0) ≤ 65536
    · by_cases hs : (n - tpAt n A i) / 2 < ((List.getD A i 0)).toNat
      · exact tp2_round_4 n nm l p pm A cap0 cap1 h0 h1 h2 h3 h4 h5 hc0 hc1 hl0_0 hl1_0 w β i hi si y0 y1 hs
      · exact tp2_round_5 n nm l p pm A cap0 cap1 h0 h1 h2 h3 h4 h5 hc0 hc1 hl0_0 hl1_0 w β i hi si y0 y1 hs
    · exact tp2_round_3 n nm l p pm A cap0 cap1 h0 h1 h2 h3 h4 h5 hc0 hc1 hl0_0 hl1_0 w β i hi si (by omega)

set_option maxHeartbeats 1000000 in
theorem tp2_last (n nm : Nat) (l : List Int) (p pm : Nat) (A : List Int) (cap0 cap1 : Nat) (h0 : (pm = p)) (h1 : (nm = (n * (32 : Nat)))) (h2 : (n < (1099511627776 : Nat))) (h3 : (p < (1099511627776 : Nat))) (h4 : (V.Byt l)) (h5 : (List.length l = n * 32)) (hc0 : n ≤ cap0) (hc1 : p ≤ cap1) (hl0_0 : List.length l = nm) (hl1_0 : List.length A = pm) (w : World) (β : Env) (si : Unit) : Run Try.prog ⟨w, [], 2, β⟩ (loopB Try.f8 2) (tp2_mk n nm l p pm A cap0 cap1 p si) (To ⟨w, [], 2, β⟩ (.exit 2) (tp2_mk n nm l p pm A cap0 cap1 p si)) :=
  Run.of_outT (B := ⟨w, [], 2, β⟩) (Λ := noLam) (Ψ := noPsi) (fuel := 0) (ora := [false]) (l := [.forget [0, 1, 5, 6, 7, 8, 9, 17, 18, 19, 20, 21, 22] 5]) mix tabOkTH gam908_ok
    (vc := [((decide (((p : Nat) : Int) < ((p : Nat) : Int))) = false)]) (by kernel_rfl)
    (aC (decide_eq_false (by first | omega | (simp (disch := omega) only [wrapI]; omega))) (AllP_nil))

theorem tp2_loop (n nm : Nat) (l : List Int) (p pm : Nat) (A : List Int) (cap0 cap1 : Nat) (h0 : (pm = p)) (h1 : (nm = (n * (32 : Nat)))) (h2 : (n < (1099511627776 : Nat))) (h3 : (p < (1099511627776 : Nat))) (h4 : (V.Byt l)) (h5 : (List.length l = n * 32)) (hc0 : n ≤ cap0) (hc1 : p ≤ cap1) (hl0_0 : List.length l = nm) (hl1_0 : List.length A = pm) (w : World) (β : Env) (si : Unit) : Run Try.prog ⟨w, [], 2, β⟩ (.block 2 (.loop (loopB Try.f8 2))) (tp2_mk n nm l p pm A cap0 cap1 0 si) (To ⟨w, [], 2, β⟩ .normal (tp2_mk n nm l p pm A cap0 cap1 p (iter (tp2_step) p si))) :=
  Run.count (fun i => tp2_mk n nm l p pm A cap0 cap1 i (iter (tp2_step) i si)) p (fun i hi => tp2_round n nm l p pm A cap0 cap1 h0 h1 h2 h3 h4 h5 hc0 hc1 hl0_0 hl1_0 w β i hi _) (ex := (.exit 2)) (by simp) (tp2_last n nm l p pm A cap0 cap1 h0 h1 h2 h3 h4 h5 hc0 hc1 hl0_0 hl1_0 w β _)

set_option maxHeartbeats 1000000 in
theorem tpL_body0 (n nm : Nat) (l : List Int) (p pm : Nat) (A : List Int) (cap0 cap1 : Nat) (h0 : (pm = p)) (h1 : (nm = (n * (32 : Nat)))) (h2 : (n < (1099511627776 : Nat))) (h3 : (p < (1099511627776 : Nat))) (h4 : (V.Byt l)) (h5 : (List.length l = n * 32)) (hc0 : n ≤ cap0) (hc1 : p ≤ cap1) (hl0_0 : List.length l = nm) (hl1_0 : List.length A = pm) (w : World) (β : Env) : Body Try.prog (tabOf tabTH) Try.f8 ⟨w, [], 2, β⟩ [.o (.a (.sl 0 0 n cap0)), .o (.a (.sl 1 0 p cap1))] [some ⟨false, [.ints .u8 nm l]⟩, some ⟨false, [.ints .i64 pm A]⟩] (fun ys _ => ys = [.a (.b true)]) :=
  Body.of_fin (Γ := gam907) (Λ := lamOf [(0, ⟨[.forget [0, 1, 4, 5, 6, 7, 17, 18, 19, 20, 21, 22] 5], .normal, (tp0_mk n nm l p pm A cap0 cap1 n (iter (tp0_step) n ((copyR_1 n (sub l 0 (n * (32 : Nat)))))))⟩), (2, ⟨[.eqB 3 (⟨true, [.ints .u8 (n * (32 : Nat)) l]⟩), .forget [0, 1, 5, 6, 7, 8, 9, 17, 18, 19, 20, 21, 22] 5], .normal, (tp2_mk n nm l p pm A cap0 cap1 p (iter (tp2_step) p ()))⟩)]) (Ψ := noPsi) (fuel := 0) (m := 186) (c := (Try.f8.body.getD .skip)) mix tabOkTH gam907_ok rfl (rs := [.tmp 4]) rfl rfl [false, true, true] []
    (vc := [(((tapeLeft (n - (tpAt n A p))) == (IntKind.i64.wrap (((n : Nat) : Int) - (((tpAt n A p) : Nat) : Int)))) = true), (True ∧ True), (((tapeLeft (n - (tpAt n A p))) == (IntKind.i64.wrap (((n : Nat) : Int) - (((tpAt n A p) : Nat) : Int)))) = true), ((True ∧ True) ∧ True), (Run Try.prog ⟨w, [], 2, β⟩ (.block 2 (.loop (loopB Try.f8 2))) (tp2_mk n nm l p pm A cap0 cap1 0 ()) (To ⟨w, [], 2, β⟩ .normal (tp2_mk n nm l p pm A cap0 cap1 p (iter (tp2_step) p ())))), ((some ⟨true, [.ints .u8 (newTape n) (newTape_1 n (sub (copyR_1 n (sub l 0 (n * (32 : Nat)))) (0 : Nat) (n * (32 : Nat))))]⟩ : Option Blk) = some ⟨true, [.ints .u8 (n * (32 : Nat)) l]⟩), (Run Try.prog ⟨w, [], 2, β⟩ (.block 0 (.loop (loopB Try.f8 0))) (tp0_mk n nm l p pm A cap0 cap1 0 ((copyR_1 n (sub l 0 (n * (32 : Nat)))))) (To ⟨w, [], 2, β⟩ .normal (tp0_mk n nm l p pm A cap0 cap1 n (iter (tp0_step) n ((copyR_1 n (sub l 0 (n * (32 : Nat))))))))), (false = false), (((((0 : Nat) + (n * (32 : Nat))) ≤ (copyR n)) ∧ True) ∧ (((n * (32 : Nat)) = (n * (32 : Nat))) ∧ (n < (1099511627776 : Nat)))), (((((0 : Nat) + (n * (32 : Nat))) ≤ nm) ∧ True) ∧ (((n * (32 : Nat)) = (n * (32 : Nat))) ∧ (n < (1099511627776 : Nat))))]) (by kernel_rfl)
    (aC (beq_iff_eq.2 (by show ((n - tpAt n A p : Nat) : Int) = _; have ht := tpAt_le n A p; rw [wrapI (by omega) (by omega)]; omega)) (aC ⟨trivial, trivial⟩ (aC (beq_iff_eq.2 (by show ((n - tpAt n A p : Nat) : Int) = _; have ht := tpAt_le n A p; rw [wrapI (by omega) (by omega)]; omega)) (aC ⟨⟨trivial, trivial⟩, trivial⟩ (aC (tp2_loop n nm l p pm A cap0 cap1 h0 h1 h2 h3 h4 h5 hc0 hc1 hl0_0 hl1_0 w β ()) (aC ((by unfold newTape newTape_1 copyR_1; simp only [tsub_all l h5])) (aC (tp0_loop n nm l p pm A cap0 cap1 h0 h1 h2 h3 h4 h5 hc0 hc1 hl0_0 hl1_0 w β ((copyR_1 n (sub l 0 (n * (32 : Nat)))))) (aC rfl (aC ⟨⟨(by first | omega | (show n * 32 < _; omega) | (show n * 32 ≤ _; omega) | (show _ ≤ n * 32; omega) | (show _ = n * 32; omega) | (simp (disch := omega) only [wrapI]; omega)), trivial⟩, ⟨rfl, h2⟩⟩ (aC ⟨⟨(by first | omega | (show n * 32 < _; omega) | (show n * 32 ≤ _; omega) | (show _ ≤ n * 32; omega) | (show _ = n * 32; omega) | (simp (disch := omega) only [wrapI]; omega)), trivial⟩, ⟨rfl, h2⟩⟩ (AllP_nil)))))))))))

theorem tpL_body (n nm : Nat) (l : List Int) (p pm : Nat) (A : List Int) (cap0 cap1 : Nat) (h0 : (pm = p)) (h1 : (nm = (n * (32 : Nat)))) (h2 : (n < (1099511627776 : Nat))) (h3 : (p < (1099511627776 : Nat))) (h4 : (V.Byt l)) (h5 : (List.length l = n * 32)) (w : World) (β : Env) : Body Try.prog (tabOf tabTH) Try.f8 ⟨w, [], 2, β⟩ [.o (.a (.sl 0 0 n cap0)), .o (.a (.sl 1 0 p cap1))] [some ⟨false, [.ints .u8 nm l]⟩, some ⟨false, [.ints .i64 pm A]⟩] (fun ys _ => ys = [.a (.b true)]) :=
  Body.lens (c := (Try.f8.body.getD .skip)) rfl fun h => tpL_body0 n nm l p pm A cap0 cap1 h0 h1 h2 h3 h4 h5 (h.caps 0 _ _ _ _ rfl) (h.caps 1 _ _ _ _ rfl) (h.lens 0 _ .u8 nm l rfl (by simp)) (h.lens 1 _ .i64 pm A rfl (by simp)) w β

end Go.Proofs.Ytlmdhjojinkdbaa.X

/- The core, part 5 of 5: blocks of memory known by number, and an evaluator over loaded code, shown sound. -/
/- Rows: a law that answers true and leaves what was there as it was: from its body to its post; arguments opened. -/
namespace Go.Proofs.Ytlmdhjojinkdbaa.R
open Go Go.Proofs Go.ChangeShapes Go.WideShapes Go.ChangeAt Go.RowKit Go.Proofs.Ytlmdhjojinkdbaa.X
set_option linter.unusedVariables false

theorem below {W W' : World} (g : Grow W W') : Below W.heap.size W W' := ⟨g.os, g.tape, g.output, g.size, g.old⟩

section post
variable {H : Type} {enc : TypeId × Value → H} {P : Program}

/-- types that read again -/
def Reads (P : Program) (ts : List TypeId) : Bool := laidOutB P && ts.all fun t => P.readableRec t && decide (t < P.types.size)

theorem trodAll_grow (hl : laidOutB P = true) {W W' : World} (g : Grow W W') {sp : Nat → Bool} : ∀ {ts : List TypeId} {vs : List Value} {ds : List (DataW H)} {ps : List MemPlace}, (ts.all fun t => P.readableRec t && decide (t < P.types.size)) = true →
    DataW.TrodAll enc P W 0 (fun _ => true) true ts vs ds ps → (∀ p ∈ ps, p.block < W.heap.size) → (∀ p ∈ ps, sp p.block = true) → DataW.TrodAll enc P W' 0 sp true ts vs ds ps
  | [], [], [], ps, _, h, _, _ => h
  | [], _ :: _, _, _, _, h, _, _ => h.elim
  | [], [], _ :: _, _, _, h, _, _ => h.elim
  | _ :: _, [], _, _, _, h, _, _ => h.elim
  | _ :: _, _ :: _, [], _, _, h, _, _ => h.elim
  | t :: ts, v :: vs, d :: ds, ps, ht, h, hlt, hsp => by
    obtain ⟨p, q, hd, hr, rfl⟩ := h
    simp only [List.all_cons, Bool.and_eq_true, decide_eq_true_eq] at ht
    exact ⟨p, q, WideElems.Trod_stays hl ht.1.1 ht.1.2 hd (fun x hx => (below g).same (hlt x (by simp [hx]))) (fun x hx => hsp x (by simp [hx])),
      trodAll_grow hl g ht.2 hr (fun x hx => hlt x (by simp [hx])) (fun x hx => hsp x (by simp [hx])), rfl⟩

theorem post_true {f : Func} {s : ChangeSpec} {W W' : World} {args : Array Value} {ds : List (DataW H)} {before : List MemPlace} {tb : TypeId}
    (hreads : Reads P f.params.toList = true) (hvars : s.vars = []) (hfn : s.fn H ds = { results := [.lit (.bool true)], args := ds }) (hrt : f.resultTypes = #[tb]) (htb : P.underlying tb = some .bool)
    (hW : DataW.Whole enc P f.params.toList s.vars false W args.toList ds [] before) (g : Grow W W') : s.post enc P f false true false false W args (.bool true) W' := by
  unfold Reads at hreads
  rw [Bool.and_eq_true] at hreads
  have hW0 := hW
  obtain ⟨p, q, hA, hV, rfl, hfz, hnd⟩ := hW
  rw [hvars] at hV
  obtain ⟨_, rfl⟩ := trodVars_none hV
  have hlt : ∀ x ∈ p ++ [], x.block < W.heap.size := fun x hx => by simpa using hW0.lt x hx
  have hfn' : s.fn H (ds ++ []) = { results := [.lit (.bool true)], args := ds } := by rw [List.append_nil]; exact hfn
  refine ⟨ds, [], p ++ [], [], p ++ [], [], hW0, ?_, ?_, ?_, (below g).frame _, fun h => by cases h⟩
  · rw [hfn', hrt]; exact trodAll_cons_mk (shut_bool htb _) trodAll_mk0
  · rw [hfn']
    rw [List.append_nil] at hlt ⊢
    exact trodAll_grow hreads.1 g hreads.2 hA hlt (fun x hx => by simpa using hlt x hx)
  · rw [hfn', hvars]; exact rfl
end post

/-- what a list of arguments is, abstractly, with blocks from the i-th on -/
def Opened (W : World) (i : Nat) (vs : List Value) (avs : List AV) (K : Know) : Prop :=
  ∃ ρ : List (Option Ref), ρ.length = K.length ∧ ∀ β : Env, (∀ j, j < ρ.length → β (i + j) = (ρ[j]?).join) →
    (∀ j b, K.at j = some b → b.own = false ∧ b.holds β W (i + j) ∧ ∀ r, β (i + j) = some r → r.blk < W.heap.size) ∧ allC β avs vs

theorem Opened.nil {W : World} {i : Nat} : Opened W i [] [] [] := ⟨[], rfl, fun β _ => ⟨fun j b h => by simp [Know.at] at h, rfl⟩⟩

theorem allC_app {β : Env} : ∀ {a b : List AV} {x y : List Value}, allC β a x → allC β b y → allC β (a ++ b) (x ++ y)
  | [], _, _, _, h, h' => by cases h; exact h'
  | _ :: _, _, _, _, ⟨v, r, hv, hc, hr⟩, h' => by subst hv; exact ⟨v, _, rfl, hc, allC_app hr h'⟩

theorem Opened.app {W : World} {i : Nat} {vs vs' : List Value} {avs avs' : List AV} {K K' : Know} (h : Opened W i vs avs K) (h' : Opened W (i + K.length) vs' avs' K') : Opened W i (vs ++ vs') (avs ++ avs') (K ++ K') := by
  obtain ⟨ρ, hl, hρ⟩ := h
  obtain ⟨ρ', hl', hρ'⟩ := h'
  refine ⟨ρ ++ ρ', by simp [hl, hl'], fun β hβ => ?_⟩
  obtain ⟨h1, h2⟩ := hρ β fun j hj => by rw [hβ j (by simp; omega), List.getElem?_append_left hj]
  obtain ⟨h3, h4⟩ := hρ' β fun j hj => by
    rw [Nat.add_assoc, hβ (K.length + j) (by simp; omega), List.getElem?_append_right (by omega)]
    congr 2; omega
  refine ⟨fun j b hb => ?_, allC_app h2 h4⟩
  by_cases hj : j < K.length
  · refine h1 j b ?_
    unfold Know.at at hb ⊢; rwa [List.getElem?_append_left hj] at hb
  · have := h3 (j - K.length) b (by unfold Know.at at hb ⊢; rwa [List.getElem?_append_right (by omega)] at hb)
    rw [show i + K.length + (j - K.length) = i + j from by omega] at this
    exact this

theorem Opened.rel {W : World} {vs : List Value} {avs : List AV} {K : Know} (h : Opened W 0 vs avs K) : ∃ β : Env, RelW W [] β K W ∧ allC β avs vs := by
  obtain ⟨ρ, hl, hρ⟩ := h
  obtain ⟨h1, h2⟩ := hρ (fun j => (ρ[j]?).join) fun j hj => by rw [Nat.zero_add]
  refine ⟨_, RelW.ofRead fun j b hj => ?_, h2⟩
  have := h1 j b hj
  rw [Nat.zero_add] at this; exact this

/-- a value without places -/
theorem Opened.val {W : World} {i : Nat} {v : Value} {x : V1} (h : ∀ β : Env, x.con β v) : Opened W i [v] [.o x] [] :=
  ⟨[], rfl, fun β _ => ⟨fun j b hb => by simp [Know.at] at hb, ⟨v, [], rfl, h β, rfl⟩⟩⟩

/-- a slice of integers -/
theorem Opened.sl {W : World} {i : Nat} {k : IntKind} {a0 : Option Addr} {len cap : Nat} {L : List Int} (hL : L.length = len) (hlc : len ≤ cap)
    (hc : 0 < cap → ∃ b off arr ty fr, a0 = some ⟨b, off, none⟩ ∧ W.heap[b]? = some (.cells arr ty fr) ∧ off + len ≤ arr.size ∧ ∀ i x, L[i]? = some x → arr[off + i]? = some (.int k x)) :
    Opened W i [.slice a0 len cap] [.o (.a (.sl i 0 len cap))] [some ⟨false, [.ints k len L]⟩] := by
  have hbk : ∀ j (bk : Blk), Know.at [some ⟨false, [.ints k len L]⟩] j = some bk → j = 0 ∧ bk = ⟨false, [.ints k len L]⟩ := by
    intro j bk hj
    match j, hj with
    | 0, hj => exact ⟨rfl, (Option.some.inj hj).symm⟩
    | j + 1, hj => simp [Know.at] at hj
  by_cases h0 : 0 < cap
  · obtain ⟨b, off, arr, ty, fr, rfl, hh, hs, hx⟩ := hc h0
    have hlt : b < W.heap.size := (Array.getElem?_eq_some_iff.1 hh).1
    refine ⟨[some ⟨b, off, arr.size⟩], rfl, fun β hβ => ?_⟩
    have hb := hβ 0 (by simp)
    rw [Nat.add_zero] at hb
    have hb : β i = some ⟨b, off, arr.size⟩ := hb
    refine ⟨fun j bk hj => ?_, _, [], rfl, ⟨_, rfl, hlc, fun _ => ⟨_, hb, rfl⟩⟩, rfl⟩
    obtain ⟨rfl, rfl⟩ := hbk j bk hj
    rw [Nat.add_zero]
    refine ⟨rfl, ⟨L.map (Value.int k), ⟨_, [], by simp, ⟨hL, rfl⟩, rfl⟩, .inr ⟨_, arr, ty, fr, hb, hh, rfl, by simp; omega, ?_, fun h => by cases h⟩⟩, fun r hr => by rw [hb] at hr; cases hr; exact hlt⟩
    intro i v hv
    rw [List.getElem?_map, Option.map_eq_some_iff] at hv
    obtain ⟨x, hx', rfl⟩ := hv
    exact hx i x hx'
  · have hn : L = [] := List.length_eq_zero_iff.1 (by omega)
    subst hn
    have hl0 : len = 0 := by omega
    subst hl0
    refine ⟨[none], rfl, fun β hβ => ?_⟩
    have hb : β i = none := hβ 0 (by simp)
    refine ⟨fun j bk hj => ?_, _, [], rfl, ⟨_, rfl, hlc, fun h => absurd h h0⟩, rfl⟩
    obtain ⟨rfl, rfl⟩ := hbk j bk hj
    rw [Nat.add_zero]
    exact ⟨rfl, ⟨[], ⟨[], [], rfl, ⟨rfl, rfl⟩, rfl⟩, .inl ⟨rfl, .inl rfl⟩⟩, fun r hr => by rw [hb] at hr; cases hr⟩

section args
variable {H : Type} {enc : TypeId × Value → H} {P : Program} {W : World} {base : Nat} {sp : Nat → Bool}

/-- an argument []int, opened -/
theorem ints_arg {t e : TypeId} {k : IntKind} {v : Value} {d : DataW H} {p : List MemPlace} (ht : P.underlying t = some (.slice e)) (he : P.underlying e = some (.int k)) (hc : P.cellsOf e = 1)
    (hval : Value.okWide P W .any base t v) (h : DataW.Trod enc P W 0 (fun _ => true) true t v d p) :
    ∃ (len cap : Nat) (L : List Int), L.length = len ∧ len ≤ cap ∧ (∀ n ∈ L, (Lit.int k n).wf = true) ∧ (∀ i, Opened W i [v] [.o (.a (.sl i 0 len cap))] [some ⟨false, [.ints k len L]⟩]) ∧
      ((d = .nil ∧ len = 0) ∨ ∃ s, d = .slice (lits k L) s) := by
  obtain ⟨a0, len, cap, rfl⟩ := okWide_slice ht hval
  obtain ⟨fuel, hf⟩ := h
  rcases open_ints ht he hc hf with ⟨hcs, hx⟩ | ⟨a, len', cap', zs, hcs, _, hl, hm, hz, hx, hcell, hwz⟩
  · simp [Value.cells] at hcs
    obtain ⟨rfl, rfl, rfl⟩ := hcs
    simp only [Prod.mk.injEq] at hx
    exact ⟨0, 0, [], rfl, Nat.le_refl _, by simp, fun i => Opened.sl rfl (Nat.le_refl _) (fun h => absurd h (by omega)), .inl ⟨hx.1, rfl⟩⟩
  · simp [Value.cells] at hcs
    obtain ⟨rfl, rfl, rfl⟩ := hcs
    simp only [Prod.mk.injEq] at hx
    simp only [if_true] at hz
    refine ⟨len, cap, zs.take len, by simp; omega, hl, fun n hn => hwz n (List.mem_of_mem_take hn), fun i => Opened.sl (by simp; omega) hl fun hpos => ?_, .inr ⟨_, hx.1⟩⟩
    obtain ⟨b, off, rfl, hcell2⟩ := ints_at hcell (by omega)
    have h00 := hcell2 0 (by omega)
    unfold World.cell? at h00
    split at h00
    · rename_i arr ty fr hh
      have hget : ∀ j, j < zs.length → arr[off + j]? = some (.int k (zs.getD j 0)) := by
        intro j hj
        have h1 := hcell2 j hj
        unfold World.cell? at h1
        rw [hh] at h1
        simpa using h1
      refine ⟨b, off, arr, ty, fr, rfl, hh, ?_, ?_⟩
      · have := (Array.getElem?_eq_some_iff.1 (hget (zs.length - 1) (by omega))).1
        omega
      · intro i x hix
        rw [List.getElem?_take] at hix
        split at hix
        · have hlt := (List.getElem?_eq_some_iff.1 hix).1
          rw [hget i hlt, List.getD_eq_getElem?_getD, hix]; rfl
        · cases hix
    · cases h00

end args

/-- a law whose body answers true -/
theorem calls_true {P : Program} {T : Tab} (hT : TabOk P T) {f : FuncId} {fn : Func} (hf : P.funcs[f]? = some fn) {W : World} {vs : List Value} {avs : List AV} {K : Know} (ho : Opened W 0 vs avs K)
    (h : ∀ β : Env, Body P T fn ⟨W, [], K.length, β⟩ avs K fun ys _ => ys = [.a (.b true)]) :
    Calls P f vs.toArray W fun e W' => e = .returned (.bool true) ∧ Grow W W' := by
  obtain ⟨β, hrel, hall⟩ := ho.rel
  refine Calls.mono (calls_of_body hT hf hall hrel (h β)) fun e W' h => ?_
  obtain ⟨xs, K, v, β', hx, rfl, hv, hr, _⟩ := h
  subst hx
  have hv : [v] = [Value.bool true] := hv
  simp only [List.cons.injEq, and_true] at hv
  subst hv
  exact ⟨rfl, hr.toGrow⟩
end Go.Proofs.Ytlmdhjojinkdbaa.R

/- Arguments that are structs: opened cell by cell. -/
namespace Go.Proofs.Ytlmdhjojinkdbaa.R
open Go Go.Proofs Go.ChangeShapes Go.WideShapes Go.ChangeAt Go.RowKit Go.Proofs.Ytlmdhjojinkdbaa.X
set_option linter.unusedVariables false

/-- a row of cells, abstractly, with blocks from the i-th on -/
def OpenC (W : World) (i : Nat) (cs : List Value) (l : List Atom) (K : Know) : Prop :=
  ∃ ρ : List (Option Ref), ρ.length = K.length ∧ ∀ β : Env, (∀ j, j < ρ.length → β (i + j) = (ρ[j]?).join) →
    (∀ j b, K.at j = some b → b.own = false ∧ b.holds β W (i + j) ∧ ∀ r, β (i + j) = some r → r.blk < W.heap.size) ∧ cons β l cs

theorem OpenC.nil {W : World} {i : Nat} : OpenC W i [] [] [] := ⟨[], rfl, fun β _ => ⟨fun j b h => by simp [Know.at] at h, rfl⟩⟩

theorem cons_app {β : Env} : ∀ {a b : List Atom} {x y : List Value}, cons β a x → cons β b y → cons β (a ++ b) (x ++ y)
  | [], _, _, _, h, h' => by cases h; exact h'
  | _ :: _, _, _, _, ⟨v, r, hv, hc, hr⟩, h' => by subst hv; exact ⟨v, _, by rw [List.append_assoc], hc, cons_app hr h'⟩

theorem OpenC.app {W : World} {i : Nat} {vs vs' : List Value} {l l' : List Atom} {K K' : Know} (h : OpenC W i vs l K) (h' : OpenC W (i + K.length) vs' l' K') : OpenC W i (vs ++ vs') (l ++ l') (K ++ K') := by
  obtain ⟨ρ, hl, hρ⟩ := h
  obtain ⟨ρ', hl', hρ'⟩ := h'
  refine ⟨ρ ++ ρ', by simp [hl, hl'], fun β hβ => ?_⟩
  obtain ⟨h1, h2⟩ := hρ β fun j hj => by rw [hβ j (by simp; omega), List.getElem?_append_left hj]
  obtain ⟨h3, h4⟩ := hρ' β fun j hj => by
    rw [Nat.add_assoc, hβ (K.length + j) (by simp; omega), List.getElem?_append_right (by omega)]
    congr 2; omega
  refine ⟨fun j b hb => ?_, cons_app h2 h4⟩
  by_cases hj : j < K.length
  · refine h1 j b ?_
    unfold Know.at at hb ⊢; rwa [List.getElem?_append_left hj] at hb
  · have := h3 (j - K.length) b (by unfold Know.at at hb ⊢; rwa [List.getElem?_append_right (by omega)] at hb)
    rw [show i + K.length + (j - K.length) = i + j from by omega] at this
    exact this

theorem OpenC.agg {W : World} {i : Nat} {cs : Array Value} {l : List Atom} {K : Know} (h : OpenC W i cs.toList l K) : Opened W i [.agg cs] [.o (.g l)] K := by
  obtain ⟨ρ, hl, hρ⟩ := h
  refine ⟨ρ, hl, fun β hβ => ?_⟩
  obtain ⟨h1, h2⟩ := hρ β hβ
  exact ⟨h1, _, [], rfl, ⟨cs.toList, by simp, h2⟩, rfl⟩

theorem OpenC.one {W : World} {i : Nat} {v : Value} {x : Atom} {K : Know} (h : OpenC W i [v] [x] K) : Opened W i [v] [.o (.a x)] K := by
  obtain ⟨ρ, hl, hρ⟩ := h
  refine ⟨ρ, hl, fun β hβ => ?_⟩
  obtain ⟨h1, x, y, h2, h3, h4⟩ := hρ β hβ
  cases h4
  rw [List.append_nil] at h2
  subst h2
  exact ⟨h1, _, [], rfl, h3, rfl⟩

/-- cells without places -/
theorem OpenC.val {W : World} {i : Nat} {vs : List Value} {l : List Atom} (h : ∀ β : Env, cons β l vs) : OpenC W i vs l [] :=
  ⟨[], rfl, fun β _ => ⟨fun j b hb => by simp [Know.at] at hb, h β⟩⟩

section args
variable {H : Type} {enc : TypeId × Value → H} {P : Program} {W : World} {base : Nat} {sp : Nat → Bool}

theorem OpenC.ints {i : Nat} {k : IntKind} {n : Nat} {S : List Int} (h : S.length = n) : OpenC W i (S.map (Value.int k)) [.ints k n S] [] :=
  OpenC.val fun β => ⟨_, [], by simp, ⟨h, rfl⟩, rfl⟩

theorem OpenC.int {i : Nat} {k : IntKind} {n : Int} : OpenC W i [.int k n] [.i k n] [] := OpenC.val fun β => ⟨_, [], by simp, rfl, rfl⟩

end args
end Go.Proofs.Ytlmdhjojinkdbaa.R

/- Arguments that are slices of whatever: their cells as values. -/
namespace Go.Proofs.Ytlmdhjojinkdbaa.R
open Go Go.Proofs Go.ChangeShapes Go.WideShapes Go.ChangeAt Go.RowKit Go.Proofs.Ytlmdhjojinkdbaa.X
set_option linter.unusedVariables false

theorem vals_open {W : World} {i : Nat} {a0 : Option Addr} {len cap N : Nat} {L : List Value} (hL : L.length = N) (hlc : len ≤ cap) (hone : ∀ v ∈ L, v.oneCell' = true) (h0 : cap = 0 → N = 0)
    (hc : 0 < cap → ∃ b off arr ty fr, a0 = some ⟨b, off, none⟩ ∧ W.heap[b]? = some (.cells arr ty fr) ∧ off + N ≤ arr.size ∧ ∀ i x, L[i]? = some x → arr[off + i]? = some x) :
    Opened W i [.slice a0 len cap] [.o (.a (.sl i 0 len cap))] [some ⟨false, [.vals N L]⟩] := by
  have hbk : ∀ j (bk : Blk), Know.at [some ⟨false, [.vals N L]⟩] j = some bk → j = 0 ∧ bk = ⟨false, [.vals N L]⟩ := by
    intro j bk hj
    match j, hj with
    | 0, hj => exact ⟨rfl, (Option.some.inj hj).symm⟩
    | j + 1, hj => simp [Know.at] at hj
  by_cases hcap : 0 < cap
  · obtain ⟨b, off, arr, ty, fr, rfl, hh, hs, hx⟩ := hc hcap
    have hlt : b < W.heap.size := (Array.getElem?_eq_some_iff.1 hh).1
    refine ⟨[some ⟨b, off, arr.size⟩], rfl, fun β hβ => ?_⟩
    have hb := hβ 0 (by simp)
    rw [Nat.add_zero] at hb
    have hb : β i = some ⟨b, off, arr.size⟩ := hb
    refine ⟨fun j bk hj => ?_, _, [], rfl, ⟨_, rfl, hlc, fun _ => ⟨_, hb, rfl⟩⟩, rfl⟩
    obtain ⟨rfl, rfl⟩ := hbk j bk hj
    rw [Nat.add_zero]
    exact ⟨rfl, ⟨L, ⟨_, [], by simp, ⟨hL, rfl, hone⟩, rfl⟩, .inr ⟨_, arr, ty, fr, hb, hh, rfl, by simp; omega, hx, fun h => by cases h⟩⟩, fun r hr => by rw [hb] at hr; cases hr; exact hlt⟩
  · have hN : N = 0 := h0 (by omega)
    have hn : L = [] := List.length_eq_zero_iff.1 (by omega)
    subst hn
    refine ⟨[none], rfl, fun β hβ => ?_⟩
    have hb : β i = none := hβ 0 (by simp)
    refine ⟨fun j bk hj => ?_, _, [], rfl, ⟨_, rfl, hlc, fun h => absurd h hcap⟩, rfl⟩
    obtain ⟨rfl, rfl⟩ := hbk j bk hj
    rw [Nat.add_zero]
    exact ⟨rfl, ⟨[], ⟨[], [], rfl, ⟨hL, rfl, by simp⟩, rfl⟩, .inl ⟨rfl, .inl rfl⟩⟩, fun r hr => by rw [hb] at hr; cases hr⟩

section args
variable {H : Type} {enc : TypeId × Value → H} {P : Program} {W : World} {base : Nat}

/-- a slice's cells, all its room -/
theorem slice_cells {t e : TypeId} {fuel : Nat} {cs : List Value} {x : DataW H × List MemPlace} (ht : P.underlying t = some (.slice e)) (hpos : 0 < P.cellsOf e) (h : DataW.trod enc P W 0 (fun _ => true) true fuel t cs = some x) :
    (cs = [.slice none 0 0] ∧ x.1 = .nil) ∨
    ∃ (a : Addr) (len cap n : Nat) (xs rest : List (DataW H × List MemPlace)) (A : List Value), cs = [.slice (some a) len cap] ∧ x.1 = .slice (xs.map (·.1)) (rest.map (·.1)) ∧ len ≤ cap ∧ cap ≤ maxLen ∧ xs.length = len ∧ A.length = cap * P.cellsOf e ∧
      (∀ i, i < cap * P.cellsOf e → W.cell? (a.add i) = A[i]?) ∧ ∀ i, i < cap → ∃ y, DataW.trod enc P W 0 (fun _ => true) true n e ((A.drop (i * P.cellsOf e)).take (P.cellsOf e)) = some y ∧ (i < len → xs[i]? = some y) := by
  rcases DataW.trod_slice ht h with ⟨h1, rfl⟩ | ⟨a, len, cap, elems, rest, n, _, rfl, rfl, _, hl, hm, hlen, hel, hsp, _⟩
  · exact .inl ⟨h1, rfl⟩
  obtain ⟨hrl, hr⟩ := hsp rfl
  have each : ∀ i, i < cap → ∃ y, (W.cells? 0 (a.add (i * P.cellsOf e)) (P.cellsOf e)).bind (DataW.trod enc P W 0 (fun _ => true) true n e) = some y ∧ (i < len → elems[i]? = some y) := by
    intro i hi
    by_cases h1 : i < len
    · have h2 : i < elems.length := by omega
      exact ⟨elems[i], by rw [hel i h1, List.getElem?_eq_getElem h2], fun _ => List.getElem?_eq_getElem h2⟩
    · have h2 : i - len < rest.length := by omega
      have := hr (i - len) (by omega)
      rw [show len + (i - len) = i by omega] at this
      exact ⟨rest[i - len], by rw [this, List.getElem?_eq_getElem h2], fun h => absurd h h1⟩
  have some_ : ∀ i, i < cap * P.cellsOf e → ∃ v, W.cell? (a.add i) = some v := by
    intro i hi
    have hq : i / P.cellsOf e < cap := (Nat.div_lt_iff_lt_mul hpos).2 hi
    obtain ⟨y, hy, _⟩ := each _ hq
    rw [Option.bind_eq_some_iff] at hy
    obtain ⟨ds, hds, _⟩ := hy
    obtain ⟨_, h2, h3⟩ := World.cells?_some hds
    have h4 := h3 (i % P.cellsOf e) (Nat.mod_lt _ hpos)
    rw [Addr.add_add, show i / P.cellsOf e * P.cellsOf e + i % P.cellsOf e = i from Nat.div_add_mod' _ _] at h4
    have h5 : i % P.cellsOf e < ds.length := by rw [h2]; exact Nat.mod_lt _ hpos
    exact ⟨ds[i % P.cellsOf e], by rw [h4, List.getElem?_eq_getElem h5]⟩
  refine .inr ⟨a, len, cap, n, elems, rest, (List.range (cap * P.cellsOf e)).map fun i => (W.cell? (a.add i)).getD undef, rfl, rfl, hl, hm, hlen, by simp, ?_, ?_⟩
  · intro i hi
    obtain ⟨v, hv⟩ := some_ i hi
    rw [List.getElem?_map, List.getElem?_range hi, hv]
    simp [hv]
  · intro i hi
    obtain ⟨y, hy, hy2⟩ := each i hi
    refine ⟨y, ?_, hy2⟩
    rw [Option.bind_eq_some_iff] at hy
    obtain ⟨ds, hds, hy3⟩ := hy
    obtain ⟨_, h2, h3⟩ := World.cells?_some hds
    have hle : i * P.cellsOf e + P.cellsOf e ≤ cap * P.cellsOf e := by
      have := Nat.mul_le_mul_right (P.cellsOf e) (Nat.succ_le_of_lt hi)
      rw [Nat.succ_mul] at this; exact this
    have : ((((List.range (cap * P.cellsOf e)).map fun i => (W.cell? (a.add i)).getD undef).drop (i * P.cellsOf e)).take (P.cellsOf e)) = ds := by
      refine List.ext_getElem? fun j => ?_
      by_cases hj : j < P.cellsOf e
      · rw [List.getElem?_take_of_lt hj, List.getElem?_drop, List.getElem?_map, List.getElem?_range (by omega)]
        have h4 := h3 j hj
        rw [Addr.add_add] at h4
        have h5 : j < ds.length := by omega
        simp only [Option.map_some]
        rw [h4, List.getElem?_eq_getElem h5]; rfl
      · rw [List.getElem?_eq_none (by simp; omega), List.getElem?_eq_none (by omega)]
    rw [this]; exact hy3

/-- a slice whose elements have c cells, opened -/
theorem vals_arg {t e : TypeId} {c : Nat} {v : Value} {d : DataW H} {p : List MemPlace} (ht : P.underlying t = some (.slice e)) (hcc : P.cellsOf e = c) (hpos : 0 < c)
    (hone : ∀ (n : Nat) (cs : List Value) (y : DataW H × List MemPlace), DataW.trod enc P W 0 (fun _ => true) true n e cs = some y → ∀ v ∈ cs, v.oneCell' = true)
    (hval : Value.okWide P W .any base t v) (h : DataW.Trod enc P W 0 (fun _ => true) true t v d p) :
    ∃ (len cap : Nat) (L : List Value), L.length = len * c ∧ len ≤ cap ∧ (∀ i, Opened W i [v] [.o (.a (.sl i 0 len cap))] [some ⟨false, [.vals (len * c) L]⟩]) ∧
      ((d = .nil ∧ len = 0) ∨ ∃ (n : Nat) (xs : List (DataW H × List MemPlace)) (s : List (DataW H)), d = .slice (xs.map (·.1)) s ∧ xs.length = len ∧
        ∀ i, i < len → ∃ y, DataW.trod enc P W 0 (fun _ => true) true n e ((L.drop (i * c)).take c) = some y ∧ xs[i]? = some y) := by
  subst hcc
  obtain ⟨a0, len, cap, rfl⟩ := okWide_slice ht hval
  obtain ⟨fuel, hf⟩ := h
  rcases slice_cells ht hpos hf with ⟨hcs, hx⟩ | ⟨a, len', cap', n, xs, rest, A, hcs, hx, hl, hm, hxl, hAl, hcell, hel⟩
  · simp [Value.cells] at hcs
    obtain ⟨rfl, rfl, rfl⟩ := hcs
    exact ⟨0, 0, [], by simp, Nat.le_refl _, fun i => vals_open (by simp) (Nat.le_refl _) (by simp) (fun _ => by simp) (fun h => absurd h (by omega)), .inl ⟨hx, rfl⟩⟩
  · simp [Value.cells] at hcs
    obtain ⟨rfl, rfl, rfl⟩ := hcs
    have hle : len * P.cellsOf e ≤ cap * P.cellsOf e := Nat.mul_le_mul_right _ hl
    refine ⟨len, cap, A.take (len * P.cellsOf e), by simp; omega, hl, fun i => vals_open (by simp; omega) hl ?_ ?_ fun hcap => ?_, .inr ⟨n, xs, _, hx, hxl, ?_⟩⟩
    · intro v hv
      obtain ⟨j, hj⟩ := List.getElem?_of_mem hv
      rw [List.getElem?_take] at hj
      split at hj
      · rename_i hjl
        have hq : j / P.cellsOf e < cap := (Nat.div_lt_iff_lt_mul hpos).2 (by omega)
        obtain ⟨y, hy, _⟩ := hel _ hq
        refine hone _ _ _ hy v (List.mem_of_getElem? (i := j % P.cellsOf e) ?_)
        rw [List.getElem?_take_of_lt (Nat.mod_lt _ hpos), List.getElem?_drop, Nat.div_add_mod']; exact hj
      · cases hj
    · intro hc0; have : len = 0 := by omega
      rw [this, Nat.zero_mul]
    · have hp : 0 < cap * P.cellsOf e := Nat.mul_pos hcap hpos
      have h0 := hcell 0 hp
      obtain ⟨v0, hv0⟩ : ∃ v0, A[0]? = some v0 := ⟨A[0], List.getElem?_eq_getElem (by omega)⟩
      rw [hv0] at h0
      obtain ⟨b, off, spot⟩ := a
      have hspot : spot = none := by simpa [Addr.add] using World.cell?_spot h0
      subst hspot
      have hc2 : ∀ j, j < cap * P.cellsOf e → W.cell? ⟨b, off + j, none⟩ = A[j]? := fun j hj => by rw [← Go.WideShapes.add_plain]; exact hcell j hj
      have h00 := hc2 0 hp
      rw [hv0] at h00
      unfold World.cell? at h00
      split at h00
      · rename_i arr ty fr hh
        have hget : ∀ j, j < cap * P.cellsOf e → arr[off + j]? = A[j]? := by
          intro j hj
          have h1 := hc2 j hj
          unfold World.cell? at h1
          rw [hh] at h1
          simpa using h1
        refine ⟨b, off, arr, ty, fr, rfl, hh, ?_, ?_⟩
        · by_cases hz : len * P.cellsOf e = 0
          · have := (Array.getElem?_eq_some_iff.1 ((hget 0 hp).trans hv0)).1
            omega
          · have h1 := hget (len * P.cellsOf e - 1) (by omega)
            rw [List.getElem?_eq_getElem (by omega)] at h1
            have := (Array.getElem?_eq_some_iff.1 h1).1
            omega
        · intro i x hix
          rw [List.getElem?_take] at hix
          split at hix
          · rw [hget i (by omega), hix]
          · cases hix
      · cases h00
    · intro i hi
      obtain ⟨y, hy, hy2⟩ := hel i (by omega)
      refine ⟨y, ?_, hy2 hi⟩
      rw [← hy]
      congr 1
      refine List.ext_getElem? fun j => ?_
      by_cases hj : j < P.cellsOf e
      · rw [List.getElem?_take_of_lt hj, List.getElem?_take_of_lt hj, List.getElem?_drop, List.getElem?_drop, List.getElem?_take_of_lt]
        have := Nat.mul_le_mul_right (P.cellsOf e) (Nat.succ_le_of_lt hi)
        rw [Nat.succ_mul] at this; omega
      · rw [List.getElem?_eq_none (by simp; omega), List.getElem?_eq_none (by simp; omega)]

end args
end Go.Proofs.Ytlmdhjojinkdbaa.R

/- Arguments that are slices of arrays of whole numbers. -/
namespace Go.Proofs.Ytlmdhjojinkdbaa.R
open Go Go.Proofs Go.ChangeShapes Go.WideShapes Go.ChangeAt Go.RowKit Go.Proofs.Ytlmdhjojinkdbaa.X
set_option linter.unusedVariables false

theorem vals_ints {W : World} {i m : Nat} {v : Value} {x : AV} {k : IntKind} {L : List Value} {l : List Int} (hL : L = l.map (Value.int k)) (h : Opened W i [v] [x] [some ⟨false, [.vals m L]⟩]) : Opened W i [v] [x] [some ⟨false, [.ints k m l]⟩] := by
  obtain ⟨ρ, hl, hρ⟩ := h
  refine ⟨ρ, hl, fun β hβ => ?_⟩
  obtain ⟨hb, ha⟩ := hρ β hβ
  refine ⟨fun j b hj => ?_, ha⟩
  have hj0 : j = 0 ∧ b = ⟨false, [.ints k m l]⟩ := by
    match j, hj with
    | 0, hj => exact ⟨rfl, (Option.some.inj hj).symm⟩
    | j + 1, hj => simp [Know.at] at hj
  obtain ⟨rfl, rfl⟩ := hj0
  obtain ⟨_, hh, hlt⟩ := hb 0 ⟨false, [.vals m L]⟩ rfl
  refine ⟨rfl, ?_, hlt⟩
  obtain ⟨cs, hc, hr⟩ := hh
  refine ⟨cs, ?_, hr⟩
  obtain ⟨a, b, rfl, hx, hy⟩ := hc
  refine ⟨a, b, rfl, ?_, hy⟩
  obtain ⟨h1, h2, _⟩ := hx
  exact ⟨by rw [← h1, hL, List.length_map], by rw [h2, hL]⟩

variable {H : Type} {enc : TypeId × Value → H} {P : Program} {W : World} {base : Nat}

theorem arr_ints {e b : TypeId} {k : IntKind} {z : Nat} (he : P.underlying e = some (.array z b)) (hb : P.underlying b = some (.int k)) (hcb : P.cellsOf b = 1) (hce : P.cellsOf e = z)
    {n : Nat} {cs : List Value} {y : DataW H × List MemPlace} (h : DataW.trod enc P W 0 (fun _ => true) true n e cs = some y) : ∀ v ∈ cs, ∃ x, v = .int k x ∧ (Lit.int k x).wf = true := by
  obtain ⟨xs, m, rfl, _, hlen, hxl, hel⟩ := DataW.trod_array he h
  intro v hv
  obtain ⟨j, hj⟩ := List.getElem?_of_mem hv
  have hjl : j < z := by
    have := (List.getElem?_eq_some_iff.1 hj).1
    omega
  have h1 := hel j hjl
  rw [hcb, Nat.mul_one] at h1
  have hjx : j < xs.length := by omega
  rw [List.getElem?_eq_getElem hjx] at h1
  obtain ⟨x, hx, _, hw⟩ := DataW.trod_int hb h1
  refine ⟨x, ?_, hw⟩
  have := congrArg (·[0]?) hx
  have e : cs[j]? = some (.int k x) := by simpa [List.getElem?_take, List.getElem?_drop] using this
  rw [hj] at e
  exact Option.some.inj e

def toI : Value → Int
  | .int _ x => x
  | _ => 0

/-- a slice of arrays of whole numbers, opened -/
theorem arrs_arg {t e b : TypeId} {k : IntKind} {z : Nat} {v : Value} {d : DataW H} {p : List MemPlace} (ht : P.underlying t = some (.slice e)) (he : P.underlying e = some (.array z b)) (hb : P.underlying b = some (.int k)) (hcb : P.cellsOf b = 1) (hce : P.cellsOf e = z) (hz : 0 < z)
    (hval : Value.okWide P W .any base t v) (h : DataW.Trod enc P W 0 (fun _ => true) true t v d p) :
    ∃ (len cap : Nat) (L : List Int), L.length = len * z ∧ len ≤ cap ∧ (∀ x ∈ L, (Lit.int k x).wf = true) ∧ (∀ i, Opened W i [v] [.o (.a (.sl i 0 len cap))] [some ⟨false, [.ints k (len * z) L]⟩]) ∧
      ((d = .nil ∧ len = 0) ∨ ∃ (xs s : List (DataW H)), d = .slice xs s ∧ xs.length = len) := by
  obtain ⟨len, cap, L, hl, hlc, ho, hd⟩ := vals_arg (c := z) ht hce hz (fun n cs y h v hv => by obtain ⟨x, rfl, _⟩ := arr_ints he hb hcb hce h v hv; rfl) hval h
  have key : ∀ v ∈ L, ∃ x, v = .int k x ∧ (Lit.int k x).wf = true := by
    intro v hv
    rcases hd with ⟨_, h0⟩ | ⟨n, xs, s, _, _, hx⟩
    · subst h0
      rw [Nat.zero_mul] at hl
      rw [List.length_eq_zero_iff.1 hl] at hv
      cases hv
    · obtain ⟨j, hj⟩ := List.getElem?_of_mem hv
      have hjl := (List.getElem?_eq_some_iff.1 hj).1
      have hq : j / z < len := (Nat.div_lt_iff_lt_mul hz).2 (by omega)
      obtain ⟨y, hy, _⟩ := hx _ hq
      refine arr_ints he hb hcb hce hy v (List.mem_of_getElem? (i := j % z) ?_)
      rw [List.getElem?_take_of_lt (Nat.mod_lt _ hz), List.getElem?_drop, Nat.div_add_mod']; exact hj
  have hmap : L = (L.map toI).map (Value.int k) := by
    rw [List.map_map]
    conv => lhs; rw [← List.map_id L]
    refine List.map_congr_left fun v hv => ?_
    obtain ⟨x, rfl, _⟩ := key v hv
    rfl
  refine ⟨len, cap, L.map toI, by rw [List.length_map]; exact hl, hlc, ?_, fun i => vals_ints hmap (ho i), ?_⟩
  · intro x hx
    obtain ⟨v, hv, rfl⟩ := List.mem_map.1 hx
    obtain ⟨y, rfl, hw⟩ := key v hv
    exact hw
  · rcases hd with h | ⟨n, xs, s, h1, h2, _⟩
    · exact .inl h
    · exact .inr ⟨xs.map (·.1), s, h1, by rw [List.length_map]; exact h2⟩
end Go.Proofs.Ytlmdhjojinkdbaa.R

/-
  FOR A PROOF OF AN '..UptoSaid': WHAT THE BOUND GIVES. Copy it as <Name>Bulk.lean (put your seat's Name for Ytlmdhjojinkdbaa, the bound of 'uptoSmall' for 1048576), name it in GOCLAIM.json's 'order' behind <Name>Rows. By an AI agent, Sun Nov 15 2026. No person has read it. No macro, syntax, notation, axiom, sorry.
-/
namespace Go.Proofs.Ytlmdhjojinkdbaa.bulks

theorem one_le {H : Type} (d : DataW H) : 1 ≤ Rows.uptoBulk d := by
  cases d with
  | lit l => cases l <;> simp [Rows.uptoBulk]
  | nil => simp [Rows.uptoBulk]
  | ptr d => simp [Rows.uptoBulk]
  | slice elems spare => simp [Rows.uptoBulk]
  | agg parts => simp [Rows.uptoBulk]
  | iface t d => simp [Rows.uptoBulk]
  | map entries => simp [Rows.uptoBulk]
  | held h => simp [Rows.uptoBulk]

/-- a part's bulk is at most the whole's -/
theorem part_le {H : Type} {d : DataW H} {l : List (DataW H)} (h : d ∈ l) : Rows.uptoBulk d ≤ Rows.uptoBulkAll l := by
  induction l with
  | nil => cases h
  | cons x r ih =>
    simp only [Rows.uptoBulkAll]
    cases List.mem_cons.1 h with
    | inl e => subst e; omega
    | inr e => have := ih e; omega

theorem append {H : Type} (l r : List (DataW H)) : Rows.uptoBulkAll (l ++ r) = Rows.uptoBulkAll l + Rows.uptoBulkAll r := by
  induction l with
  | nil => simp [Rows.uptoBulkAll]
  | cons x l ih => simp only [List.cons_append, Rows.uptoBulkAll, ih]; omega

/-- so many values at the most -/
theorem length_le {H : Type} (l : List (DataW H)) : l.length ≤ Rows.uptoBulkAll l := by
  induction l with
  | nil => simp [Rows.uptoBulkAll]
  | cons x r ih => have := one_le x; simp only [Rows.uptoBulkAll, List.length_cons]; omega

/-- a slice's places, and what they hold -/
theorem slice_le {H : Type} (elems spare : List (DataW H)) : elems.length + spare.length + 1 ≤ Rows.uptoBulk (.slice elems spare) := by
  have h1 := length_le elems
  have h2 := length_le spare
  simp only [Rows.uptoBulk]
  omega
/-- THE BOUND, as the builder hands it over ('hk') -/
theorem bound {H : Type} {l : List (DataW H)} (hk : Rows.uptoSmall H l = true) : Rows.uptoBulkAll l ≤ 1048576 := by
  simpa [Rows.uptoSmall] using hk

end Go.Proofs.Ytlmdhjojinkdbaa.bulks

