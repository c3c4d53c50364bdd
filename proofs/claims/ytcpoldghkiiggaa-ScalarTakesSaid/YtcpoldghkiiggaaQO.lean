/- Printed by a tool of this session. -/
import Derived.Test.YtcpoldghkiiggaaPK
import Derived.KernelRfl
namespace Go.Proofs.Ytcpoldghkiiggaa.X
open Go Go.Proofs
set_option linter.unusedVariables false
set_option linter.unusedSimpArgs false
set_option maxRecDepth 100000
theorem teQO_3 : TEOk Try.prog 3 ⟨.int .i64, 1, 8, [.i .i64 (0 : Int)], false⟩ :=
  TEOk.of Try.underlying3 (i := Try.t3) (by kernel_rfl) rfl rfl rfl (by kernel_rfl) (fun h => by cases h) (by kernel_rfl)
theorem teQO_5 : TEOk Try.prog 5 ⟨.int .u8, 1, 1, [.i .u8 (0 : Int)], false⟩ :=
  TEOk.of Try.underlying5 (i := Try.t5) (by kernel_rfl) rfl rfl rfl (by kernel_rfl) (fun h => by cases h) (by kernel_rfl)
theorem teQO_24 : TEOk Try.prog 24 ⟨.array 32 5, 32, 32, [.ints .u8 (32 : Nat) ([0, 0, 0, 0, 0, 0, 0, 0, 0, 0, 0, 0, 0, 0, 0, 0, 0, 0, 0, 0, 0, 0, 0, 0, 0, 0, 0, 0, 0, 0, 0, 0] : List Int)], true⟩ :=
  TEOk.of Try.underlying24 (i := Try.t24) (by kernel_rfl) rfl rfl rfl (by kernel_rfl) (fun _ => Try.eqGuardType24) (by kernel_rfl)
theorem teQO_25 : TEOk Try.prog 25 ⟨.int .u64, 1, 8, [.i .u64 (0 : Int)], false⟩ :=
  TEOk.of Try.underlying25 (i := Try.t25) (by kernel_rfl) rfl rfl rfl (by kernel_rfl) (fun h => by cases h) (by kernel_rfl)
theorem teQO_62 : TEOk Try.prog 62 ⟨.int .u64, 1, 8, [.i .u64 (0 : Int)], false⟩ :=
  TEOk.of Try.underlying62 (i := Try.t62) (by kernel_rfl) rfl rfl rfl (by kernel_rfl) (fun h => by cases h) (by kernel_rfl)
noncomputable def tabQO : List (Nat × TE) := [(3, ⟨.int .i64, 1, 8, [.i .i64 (0 : Int)], false⟩), (5, ⟨.int .u8, 1, 1, [.i .u8 (0 : Int)], false⟩), (24, ⟨.array 32 5, 32, 32, [.ints .u8 (32 : Nat) ([0, 0, 0, 0, 0, 0, 0, 0, 0, 0, 0, 0, 0, 0, 0, 0, 0, 0, 0, 0, 0, 0, 0, 0, 0, 0, 0, 0, 0, 0, 0, 0] : List Int)], true⟩), (25, ⟨.int .u64, 1, 8, [.i .u64 (0 : Int)], false⟩), (62, ⟨.int .u64, 1, 8, [.i .u64 (0 : Int)], false⟩)]
theorem tabOkQO : TabOk Try.prog (tabOf tabQO) := (tabOf_cons teQO_3 (tabOf_cons teQO_5 (tabOf_cons teQO_24 (tabOf_cons teQO_25 (tabOf_cons teQO_62 tabOf_nil)))))

def gam67 : Gam := greadV 18 [.s 1] (fun vs args => match vs, args with | [⟨_, _, _, [.ints .u8 nm b]⟩], [a0] => some ((nm = (lenOfA a0)) ∧ ((lenOfA a0) ≤ (140737488351232 : Nat)) ∧ (Byt b), [.g [.ints .u8 (32 : Nat) (B32 (modL (nbI b)))]]) | _, _ => none) gam66
theorem gam67_ok : GamOk Try.prog gam67 := greadV_ok tabOkQN Try.func18 gam66_ok Try.call18 (by
  intro vs args p xs h hv
  split at h
  · simp only [Option.some.injEq, Prod.mk.injEq] at h; obtain ⟨rfl, rfl⟩ := h; exact ⟨by rfl, fun caps w β => rdP_num _ _ _ _ hv.1 hv.2.1 hv.2.2 w β⟩
  · simp at h)

def gam68 : Gam := gcall 78 [] [.s 1] (fun wk vs args => match wk, vs, args with | [], [⟨_, _, _, [.ints .u8 nm b]⟩], [.o (.a (.sl 0 0 n _))] => some ((nm = n) ∧ (n ≤ (140737488351232 : Nat)), [.a (.sl 1 (0 : Nat) (dgN n) (dgN n))], [some ⟨false, [.ints .u8 nm b]⟩, some ⟨true, [.ints .u32 (dgN n) (dgN_1 n b)]⟩]) | _, _, _ => none) gam67
theorem gam68_ok : GamOk Try.prog gam68 := gcall_ok tabOkQN Try.func78 gam67_ok Try.call78 (by
  intro wk vs args p xs K1 h hv
  split at h
  · simp only [Option.some.injEq, Prod.mk.injEq] at h; obtain ⟨rfl, rfl, rfl⟩ := h; obtain ⟨g0, g1⟩ := hv; exact fun caps w rw β => dgN_body _ _ _ _ g0 g1 w rw β
  · simp at h)

def rdR (n : Nat) (b : List Int) : List Int :=
  (B32 (V8 (W8 (modL (topV (sub (dgN_1 n (sub b (0 : Nat) n)) (0 : Nat) (dgN n)) (dgN n) (dgN n))))))

set_option maxHeartbeats 1000000 in
theorem rdR_body0 (n : Nat) (nm : Nat) (b : List Int) (cap0 : Nat) (h0 : (nm = n)) (h1 : (n ≤ (140737488351232 : Nat))) (h2 : (Byt b)) (hc0 : n ≤ cap0) (hl0_0 : List.length b = nm) (w : World) (β : Env) : Body Try.prog (tabOf tabQO) Try.f19 ⟨w, [], 1, β⟩ [.o (.a (.sl 0 (0 : Nat) n cap0))] [some ⟨false, [.ints .u8 nm b]⟩] (fun ys _ => ys = [.g [.ints .u8 (32 : Nat) (rdR n b)]]) :=
  Body.of_fin (Γ := gam68) (Λ := noLam) (Ψ := noPsi) (fuel := 0) (m := 7) (c := (Try.f19.body.getD .skip)) mix tabOkQO gam68_ok rfl (rs := [.cell 2 24]) rfl rfl [] []
    (vc := [(Wd8 (W8 (modL (topV (sub (dgN_1 n (sub b (0 : Nat) n)) (0 : Nat) (dgN n)) (dgN n) (dgN n))))), (((((0 : Nat) + (dgN n)) ≤ (dgN n)) ∧ True) ∧ (((dgN n) = (dgN n)) ∧ ((dgN n) < (70368744177664 : Nat)) ∧ (Wd8 (sub (dgN_1 n (sub b (0 : Nat) n)) (0 : Nat) (dgN n))))), (((((0 : Nat) + n) ≤ nm) ∧ True) ∧ ((n = n) ∧ (n ≤ (140737488351232 : Nat))))]) (by kernel_rfl)
    (AllP_cons (wd8_W8 _) (AllP_cons ⟨⟨(by first | omega | (unfold dgN; omega)), trivial⟩, ⟨rfl, (by first | omega | (unfold dgN; omega)), (by rw [sub_all b n (by omega), sub_all _ _ (Nat.le_of_eq (dgN_num h2 (hl0_0.trans h0) h1).1)]; exact (dgN_num h2 (hl0_0.trans h0) h1).2.1)⟩⟩ (AllP_cons ⟨⟨(by first | omega | (unfold dgN; omega)), trivial⟩, ⟨rfl, h1⟩⟩ (AllP_nil))))

theorem rdR_body (n : Nat) (nm : Nat) (b : List Int) (cap0 : Nat) (h0 : (nm = n)) (h1 : (n ≤ (140737488351232 : Nat))) (h2 : (Byt b)) (w : World) (β : Env) : Body Try.prog (tabOf tabQO) Try.f19 ⟨w, [], 1, β⟩ [.o (.a (.sl 0 (0 : Nat) n cap0))] [some ⟨false, [.ints .u8 nm b]⟩] (fun ys _ => ys = [.g [.ints .u8 (32 : Nat) (rdR n b)]]) :=
  Body.lens (c := (Try.f19.body.getD .skip)) rfl fun h => rdR_body0 n nm b cap0 h0 h1 h2 (h.caps 0 _ _ _ _ rfl) (h.lens 0 _ .u8 nm b rfl (by simp)) w β

def frR (n : Int) : List Int :=
  ([(IntKind.u8.wrap (shr .u64 n (0 : Int))), (IntKind.u8.wrap (shr .u64 n (8 : Int))), (IntKind.u8.wrap (shr .u64 n (16 : Int))), (IntKind.u8.wrap (shr .u64 n (24 : Int))), (IntKind.u8.wrap (shr .u64 n (32 : Int))), (IntKind.u8.wrap (shr .u64 n (40 : Int))), (IntKind.u8.wrap (shr .u64 n (48 : Int))), (IntKind.u8.wrap (shr .u64 n (56 : Int))), 0, 0, 0, 0, 0, 0, 0, 0, 0, 0, 0, 0, 0, 0, 0, 0, 0, 0, 0, 0, 0, 0, 0, 0] : List Int)

set_option maxHeartbeats 1000000 in
theorem frR_body0 (n : Int) (h0 : ((0 : Int) ≤ n)) (h1 : (n < (18446744073709551616 : Int))) (w : World) : Body Try.prog (tabOf tabQO) Try.f23 ⟨w, [], 0, noEnv⟩ (toA [.a (.i .u64 n)]) [] (fun ys _ => ys = [.g [.ints .u8 (32 : Nat) (frR n)]]) :=
  Body.of_fin (Γ := gam68) (Λ := noLam) (Ψ := noPsi) (fuel := 9) (m := 18) (c := (Try.f23.body.getD .skip)) mix tabOkQO gam68_ok rfl (rs := [.cell 2 24]) rfl rfl [true, true, true, true, true, true, true, true, false] []
    (vc := [(false = false), ((7 : Nat) < (32 : Nat)), (((0 : Int) ≤ (7 : Int)) ∧ ((7 : Int) < (32 : Int))), ((0 : Int) ≤ (56 : Int)), (true = true), ((6 : Nat) < (32 : Nat)), (((0 : Int) ≤ (6 : Int)) ∧ ((6 : Int) < (32 : Int))), ((0 : Int) ≤ (48 : Int)), (true = true), ((5 : Nat) < (32 : Nat)), (((0 : Int) ≤ (5 : Int)) ∧ ((5 : Int) < (32 : Int))), ((0 : Int) ≤ (40 : Int)), (true = true), ((4 : Nat) < (32 : Nat)), (((0 : Int) ≤ (4 : Int)) ∧ ((4 : Int) < (32 : Int))), ((0 : Int) ≤ (32 : Int)), (true = true), ((3 : Nat) < (32 : Nat)), (((0 : Int) ≤ (3 : Int)) ∧ ((3 : Int) < (32 : Int))), ((0 : Int) ≤ (24 : Int)), (true = true), ((2 : Nat) < (32 : Nat)), (((0 : Int) ≤ (2 : Int)) ∧ ((2 : Int) < (32 : Int))), ((0 : Int) ≤ (16 : Int)), (true = true), ((1 : Nat) < (32 : Nat)), (((0 : Int) ≤ (1 : Int)) ∧ ((1 : Int) < (32 : Int))), ((0 : Int) ≤ (8 : Int)), (true = true), ((0 : Nat) < (32 : Nat)), (((0 : Int) ≤ (0 : Int)) ∧ ((0 : Int) < (32 : Int))), ((0 : Int) ≤ (0 : Int)), (true = true)]) (by kernel_rfl)
    (AllP_cons rfl (AllP_cons (by decide) (AllP_cons ⟨(by decide), (by decide)⟩ (AllP_cons (by decide) (AllP_cons rfl (AllP_cons (by decide) (AllP_cons ⟨(by decide), (by decide)⟩ (AllP_cons (by decide) (AllP_cons rfl (AllP_cons (by decide) (AllP_cons ⟨(by decide), (by decide)⟩ (AllP_cons (by decide) (AllP_cons rfl (AllP_cons (by decide) (AllP_cons ⟨(by decide), (by decide)⟩ (AllP_cons (by decide) (AllP_cons rfl (AllP_cons (by decide) (AllP_cons ⟨(by decide), (by decide)⟩ (AllP_cons (by decide) (AllP_cons rfl (AllP_cons (by decide) (AllP_cons ⟨(by decide), (by decide)⟩ (AllP_cons (by decide) (AllP_cons rfl (AllP_cons (by decide) (AllP_cons ⟨(by decide), (by decide)⟩ (AllP_cons (by decide) (AllP_cons rfl (AllP_cons (by decide) (AllP_cons ⟨(by decide), (by decide)⟩ (AllP_cons (by decide) (AllP_cons rfl (AllP_nil))))))))))))))))))))))))))))))))))

theorem frR_body (n : Int) (h0 : ((0 : Int) ≤ n)) (h1 : (n < (18446744073709551616 : Int))) (w : World) : Body Try.prog (tabOf tabQO) Try.f23 ⟨w, [], 0, noEnv⟩ (toA [.a (.i .u64 n)]) [] (fun ys _ => ys = [.g [.ints .u8 (32 : Nat) (frR n)]]) :=
  Body.lens (c := (Try.f23.body.getD .skip)) rfl fun h => frR_body0 n h0 h1  w

def caR (a : List Int) : Bool :=
  (decide ((B32 (V8 (W8 (modL (BV a))))) = a))

set_option maxHeartbeats 1000000 in
theorem caR_body0 (a : List Int) (h0 : (Byt a)) (hv0 : List.length a = (32 : Nat)) (w : World) : Body Try.prog (tabOf tabQO) Try.f21 ⟨w, [], 0, noEnv⟩ (toA [.g [.ints .u8 (32 : Nat) a]]) [] (fun ys _ => ys = [.a (.b (caR a))]) :=
  Body.of_fin (Γ := gam68) (Λ := noLam) (Ψ := noPsi) (fuel := 0) (m := 8) (c := (Try.f21.body.getD .skip)) mix tabOkQO gam68_ok rfl (rs := [.tmp 2]) rfl rfl [] []
    (vc := [(Wd8 (W8 (modL (BV a)))), (Byt a)]) (by kernel_rfl)
    (AllP_cons (by first | assumption | exact wd8_W8 _ | exact wd8_ord | exact (by intro x hx; simp only [List.mem_cons, List.not_mem_nil, or_false] at hx; rcases hx with rfl | rfl | rfl | rfl | rfl | rfl | rfl | rfl | rfl <;> exact wrap32_rng _)) (AllP_cons (by first | assumption | exact byt_B32 _) (AllP_nil)))

theorem caR_body (a : List Int) (h0 : (Byt a)) (w : World) : Body Try.prog (tabOf tabQO) Try.f21 ⟨w, [], 0, noEnv⟩ (toA [.g [.ints .u8 (32 : Nat) a]]) [] (fun ys _ => ys = [.a (.b (caR a))]) :=
  Body.lens (c := (Try.f21.body.getD .skip)) rfl fun h => caR_body0 a h0 (h.vals 0 _ _ _ rfl) w

end Go.Proofs.Ytcpoldghkiiggaa.X
