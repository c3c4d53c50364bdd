/- Texts of this session, put together (part 5), less what nothing uses. -/
import Derived.Test.YtjmfnjgcofpocaaGreatGD4
import Derived.Test.YtjmfnjgcofpocaaGreatProg
import Derived.Laws.Externs
import Derived.KernelRfl
/- Texts of this session, put together (part 1), less what nothing uses. -/
/- Texts of this session, put together (part 1). -/
/- Plain numbers for the walks of the scalars: words of 64 bits, Montgomery's product. -/
namespace Go.Proofs.YtjmfnjgcofpocaaGreat.X.V
open Go Go.Proofs
set_option linter.unusedVariables false

theorem wrap64 (x : Int) : IntKind.u64.wrap x = x % 18446744073709551616 := by
 show (let m := x % (18446744073709551616 : Int); if (false && decide (m ≥ (9223372036854775808 : Int))) = true then m - 18446744073709551616 else m) = x % 18446744073709551616
 simp only [Bool.false_and, Bool.false_eq_true, if_false]

/-! the order -/
def LL : Int := 7237005577332262213973186563042994240857116359379907606001950938285454250989
end Go.Proofs.YtjmfnjgcofpocaaGreat.X.V

/- Plain numbers for the walks of the scalars: words of 64 bits, Montgomery's product. -/
namespace Go.Proofs.YtjmfnjgcofpocaaGreat.X.V
open Go Go.Proofs
set_option linter.unusedVariables false

def V4 : List Int → Int
 | [a, b, c, d] => a + 18446744073709551616 * b + 340282366920938463463374607431768211456 * c + 6277101735386680763835789423207666416102355444464034512896 * d
 | _ => 0
def W4 (v : Int) : List Int := [v % 18446744073709551616, v / 18446744073709551616 % 18446744073709551616, v / 340282366920938463463374607431768211456 % 18446744073709551616, v / 6277101735386680763835789423207666416102355444464034512896 % 18446744073709551616]

theorem V4_W4 {v : Int} (h0 : 0 ≤ v) (h1 : v < 115792089237316195423570985008687907853269984665640564039457584007913129639936) : V4 (W4 v) = v := by
 show v % 18446744073709551616 + 18446744073709551616 * (v / 18446744073709551616 % 18446744073709551616) + 340282366920938463463374607431768211456 * (v / 340282366920938463463374607431768211456 % 18446744073709551616) + 6277101735386680763835789423207666416102355444464034512896 * (v / 6277101735386680763835789423207666416102355444464034512896 % 18446744073709551616) = v
 omega
theorem W4_eq {a b c d v : Int} (h : a + 18446744073709551616 * b + 340282366920938463463374607431768211456 * c + 6277101735386680763835789423207666416102355444464034512896 * d = v) (ha : 0 ≤ a ∧ a < 18446744073709551616) (hb : 0 ≤ b ∧ b < 18446744073709551616) (hc : 0 ≤ c ∧ c < 18446744073709551616) (hd : 0 ≤ d ∧ d < 18446744073709551616) : [a, b, c, d] = W4 v := by
 unfold W4
 have h1 : v % 18446744073709551616 = a := by omega
 have h2 : v / 18446744073709551616 % 18446744073709551616 = b := by omega
 have h3 : v / 340282366920938463463374607431768211456 % 18446744073709551616 = c := by omega
 have h4 : v / 6277101735386680763835789423207666416102355444464034512896 % 18446744073709551616 = d := by omega
 rw [h1, h2, h3, h4]
end Go.Proofs.YtjmfnjgcofpocaaGreat.X.V

/- The carries of math/bits, functions without a body, vs contracts. -/
namespace Go.Proofs.YtjmfnjgcofpocaaGreat.X.V
open Go Go.Proofs
set_option linter.unusedVariables false

theorem mix : Tryz.prog.follows .mixedOrders = true := by kernel_rfl

def ad64s (x y c : Int) : Int := (x + y + c) % 18446744073709551616
def ad64c (x y c : Int) : Int := (x + y + c) / 18446744073709551616
def sb64s (x y b : Int) : Int := (x + 18446744073709551616 - y - b) % 18446744073709551616
def sb64c (x y b : Int) : Int := if x < y + b then 1 else 0

def sub64Entry : Array Value → Sem Value := fun args => do
 let (x, y, b) ← Extern.MathBitsCarry.three "Sub64" args
 pure (Extern.MathBitsCarry.pair ((x + Extern.MathBitsCarry.m64 - y - b) % Extern.MathBitsCarry.m64) (if x < y + b then 1 else 0))

theorem run_sub64 {P : Program} (x y c : Int) (hx : 0 ≤ x) (hy : 0 ≤ y) (hy1 : y < 18446744073709551616) (hc0 : 0 ≤ c) (hc : c ≤ 1) (w : World) :
  (sub64Entry #[.int .u64 x, .int .u64 y, .int .u64 c]).run P w = .ok (.tuple #[.int .u64 (sb64s x y c), .int .u64 (sb64c x y c)]) w := by
 have key : ∀ k : Nat, k ≤ 1 → (sub64Entry #[.int .u64 x, .int .u64 y, .int .u64 (k : Int)]).run P w =
   .ok (Extern.MathBitsCarry.pair ((x.toNat + Extern.MathBitsCarry.m64 - y.toNat - k) % Extern.MathBitsCarry.m64) (if x.toNat < y.toNat + k then 1 else 0)) w := by
  intro k hk
  have : k = 0 ∨ k = 1 := by omega
  rcases this with rfl | rfl <;> rfl
 obtain ⟨k, rfl⟩ := Int.eq_ofNat_of_zero_le hc0
 rw [key k (by omega)]
 obtain ⟨X, rfl⟩ := Int.eq_ofNat_of_zero_le hx
 obtain ⟨Y, rfl⟩ := Int.eq_ofNat_of_zero_le hy
 have e1 : Int.ofNat ((X + 18446744073709551616 - Y - k) % 18446744073709551616) = sb64s (X : Int) (Y : Int) (k : Int) := by
  unfold sb64s
  rw [Int.ofNat_eq_natCast, Int.natCast_emod]
  congr 1
  omega
 have e2 : Int.ofNat (if X < Y + k then 1 else 0) = sb64c (X : Int) (Y : Int) (k : Int) := by
  unfold sb64c
  by_cases h : X < Y + k
  ·rw [if_pos h, if_pos (by omega)]; rfl
  ·rw [if_neg h, if_neg (by omega)]; rfl
 have m : Extern.MathBitsCarry.m64 = 18446744073709551616 := rfl
 simp only [Extern.MathBitsCarry.pair, Int.toNat_natCast, m]
 rw [e1, e2]

def gbits : Gam := gext 119 (fun args => match args with
  | [.o (.a (.i .u64 x)), .o (.a (.i .u64 y)), .o (.a (.i .u64 c))] => some (some (0 ≤ x ∧ 0 ≤ y ∧ 0 ≤ c ∧ c ≤ 1), [.a (.i .u64 (ad64s x y c)), .a (.i .u64 (ad64c x y c))])
  | _ => none)
 (gext 137 (fun args => match args with
  | [.o (.a (.i .u64 x)), .o (.a (.i .u64 y)), .o (.a (.i .u64 c))] => some (some (0 ≤ x ∧ 0 ≤ y ∧ y < 18446744073709551616 ∧ 0 ≤ c ∧ c ≤ 1), [.a (.i .u64 (sb64s x y c)), .a (.i .u64 (sb64c x y c))])
  | _ => none) gnil)

theorem three_args {β : Env} {k1 k2 k3 : IntKind} {x y z : Int} {vs : List Value} (h : allC β [.o (.a (.i k1 x)), .o (.a (.i k2 y)), .o (.a (.i k3 z))] vs) : vs = [.int k1 x, .int k2 y, .int k3 z] := by
 obtain ⟨a, r, rfl, h1, b, r2, rfl, h2, c, r3, rfl, h3, rfl⟩ := h
 have h1 : [a] = [Value.int k1 x] := h1
 have h2 : [b] = [Value.int k2 y] := h2
 have h3 : [c] = [Value.int k3 z] := h3
 simp only [List.cons.injEq, and_true] at h1 h2 h3
 rw [h1, h2, h3]

theorem gbits_ok : GamOk Tryz.prog gbits := by
 refine gext_ok (gext_ok gnil_ok ?_) ?_
 ·intro args vc xs h hvc β w vs ha
  split at h
  ·rename_i x y c
   simp only [Option.some.injEq, Prod.mk.injEq] at h; obtain ⟨rfl, rfl⟩ := h
   obtain ⟨h1, h2, h3, h4, h5⟩ := hvc
   rw [three_args ha]
   refine ⟨.tuple #[.int .u64 (sb64s x y c), .int .u64 (sb64c x y c)], ?_, ?_⟩
   ·rw [run_callFunc_extern (e := sub64Entry) Tryz.func137 (by kernel_rfl) (by kernel_rfl) (by kernel_rfl) (by kernel_rfl), run_sub64 x y c h1 h2 h3 h4 h5]; rfl
   ·exact ⟨_, rfl, _, _, rfl, rfl, _, _, rfl, rfl, rfl⟩
  ·simp at h
 ·intro args vc xs h hvc β w vs ha
  split at h
  ·rename_i x y c
   simp only [Option.some.injEq, Prod.mk.injEq] at h; obtain ⟨rfl, rfl⟩ := h
   obtain ⟨h1, h2, h3, h4⟩ := hvc
   rw [three_args ha]
   refine ⟨.tuple #[.int .u64 (ad64s x y c), .int .u64 (ad64c x y c)], ?_, ?_⟩
   ·rw [run_callFunc_extern (e := add64Entry) Tryz.func119 (by kernel_rfl) (by kernel_rfl) (by kernel_rfl) (by kernel_rfl), run_add64 x y c h1 h2 h3 h4]; rfl
   ·exact ⟨_, rfl, _, _, rfl, rfl, _, _, rfl, rfl, rfl⟩
  ·simp at h
end Go.Proofs.YtjmfnjgcofpocaaGreat.X.V

/- Printed by a tool of this session. -/
namespace Go.Proofs.YtjmfnjgcofpocaaGreat.X.V
open Go Go.Proofs
set_option linter.unusedVariables false
set_option linter.unusedSimpArgs false
set_option maxRecDepth 100000
set_option maxHeartbeats 8000000
end Go.Proofs.YtjmfnjgcofpocaaGreat.X.V

/- The product of two words, in two words. -/
namespace Go.Proofs.YtjmfnjgcofpocaaGreat.X.V
open Go Go.Proofs
set_option linter.unusedVariables false

theorem ad64_rng (x y c : Int) : 0 ≤ ad64s x y c ∧ ad64s x y c < 18446744073709551616 := by unfold ad64s; omega
end Go.Proofs.YtjmfnjgcofpocaaGreat.X.V

/- Printed by a tool of this session. -/
namespace Go.Proofs.YtjmfnjgcofpocaaGreat.X.V
open Go Go.Proofs
set_option linter.unusedVariables false
set_option linter.unusedSimpArgs false
set_option maxRecDepth 100000
set_option maxHeartbeats 8000000
theorem teNG_25 : TEOk Tryz.prog 164 ⟨.int .u64, 1, 8, [.i .u64 (0 : Int)], false⟩ :=
 TEOk.of Tryz.underlying164 (i := Tryz.t164) (by kernel_rfl) rfl rfl rfl (by kernel_rfl) (fun h => by cases h) (by kernel_rfl) (by kernel_rfl)
theorem teNG_104 : TEOk Tryz.prog 166 ⟨.array 4 164, 4, 32, [.ints .u64 4 ([0, 0, 0, 0] : List Int)], true⟩ :=
 TEOk.of Tryz.underlying166 (i := Tryz.t166) (by kernel_rfl) rfl rfl rfl (by kernel_rfl) (fun _ => ⟨Tryz.eqGuardType166, by kernel_rfl, by kernel_rfl⟩) (by kernel_rfl) (by kernel_rfl)
noncomputable def tabNG : List (Nat × TE) := [(164, ⟨.int .u64, 1, 8, [.i .u64 (0 : Int)], false⟩), (166, ⟨.array 4 164, 4, 32, [.ints .u64 4 ([0, 0, 0, 0] : List Int)], true⟩)]
theorem tabOkNG : TabOk Tryz.prog (tabOf tabNG) := (tabOf_cons teNG_25 (tabOf_cons teNG_104 tabOf_nil))

theorem ordr_body0 (w : World) : Body Tryz.prog (tabOf tabNG) Tryz.f128 ⟨w, [], 0, noEnv⟩ (toA []) [] (fun ys _ => ys = [.g [.ints .u64 4 ([6346243789798364141, 1503914060200516822, 0, 1152921504606846976] : List Int)]]) :=
 Body.of_fin (Γ := gbits) (Λ := noLam) (Ψ := noPsi) (fuel := 0) (m := 2) (c := (Tryz.f128.body.getD .skip)) mix tabOkNG gbits_ok rfl (rs := [.cell 0 166]) rfl rfl [] []
  (vc := []) (by kernel_rfl)
  (AllP_nil)

theorem ordr_body (w : World) : Body Tryz.prog (tabOf tabNG) Tryz.f128 ⟨w, [], 0, noEnv⟩ (toA []) [] (fun ys _ => ys = [.g [.ints .u64 4 ([6346243789798364141, 1503914060200516822, 0, 1152921504606846976] : List Int)]]) :=
 Body.lens (c := (Tryz.f128.body.getD .skip)) rfl fun h => ordr_body0  w

theorem ordr_pure : PureC Tryz.prog 128 [] [.g [.ints .u64 4 ([6346243789798364141, 1503914060200516822, 0, 1152921504606846976] : List Int)]] :=
 PureC.of_body tabOkNG Tryz.func128 rfl rfl fun w => ordr_body w

def gv3 : Gam := gpure 128 (fun args => match args with | [] => some (none, [.g [.ints .u64 (4 : Nat) ([6346243789798364141, 1503914060200516822, 0, 1152921504606846976] : List Int)]]) | _ => none) gbits
theorem gv3_ok : GamOk Tryz.prog gv3 := gpure_ok gbits_ok Tryz.call128 (by
 intro args vc xs h hv
 split at h
 ·simp only [Option.some.injEq, Prod.mk.injEq] at h; obtain ⟨rfl, rfl⟩ := h; exact ⟨_, by rfl, ordr_pure⟩
 ·simp at h)

end Go.Proofs.YtjmfnjgcofpocaaGreat.X.V

/- Words of a number; a product and two words more. -/
namespace Go.Proofs.YtjmfnjgcofpocaaGreat.X.V
open Go Go.Proofs
set_option linter.unusedVariables false

def Wds (S : List Int) : Prop := ∀ x ∈ S, 0 ≤ x ∧ x < 18446744073709551616

theorem wds_get {S : List Int} (h : Wds S) (i : Nat) : 0 ≤ List.getD S i 0 ∧ List.getD S i 0 < 18446744073709551616 := by
 rw [List.getD_eq_getElem?_getD]
 by_cases hi : i < S.length
 ·rw [List.getElem?_eq_getElem hi]; exact h _ (List.getElem_mem hi)
 ·rw [List.getElem?_eq_none (by omega)]; simp

theorem wds_W4 (v : Int) : Wds (W4 v) := by
 intro x hx
 unfold W4 at hx
 simp only [List.mem_cons, List.not_mem_nil, or_false] at hx
 rcases hx with rfl | rfl | rfl | rfl <;> omega

theorem four {S : List Int} (h : S.length = 4) : ∃ a b c d, S = [a, b, c, d] := by
 match S, h with
 | [a, b, c, d], _ => exact ⟨a, b, c, d, rfl⟩
end Go.Proofs.YtjmfnjgcofpocaaGreat.X.V

/- Printed by a tool of this session. -/
namespace Go.Proofs.YtjmfnjgcofpocaaGreat.X.V
open Go Go.Proofs
set_option linter.unusedVariables false
set_option linter.unusedSimpArgs false
set_option maxRecDepth 100000
set_option maxHeartbeats 8000000
theorem teNI_25 : TEOk Tryz.prog 164 ⟨.int .u64, 1, 8, [.i .u64 (0 : Int)], false⟩ :=
 TEOk.of Tryz.underlying164 (i := Tryz.t164) (by kernel_rfl) rfl rfl rfl (by kernel_rfl) (fun h => by cases h) (by kernel_rfl) (by kernel_rfl)
theorem teNI_104 : TEOk Tryz.prog 166 ⟨.array 4 164, 4, 32, [.ints .u64 4 ([0, 0, 0, 0] : List Int)], true⟩ :=
 TEOk.of Tryz.underlying166 (i := Tryz.t166) (by kernel_rfl) rfl rfl rfl (by kernel_rfl) (fun _ => ⟨Tryz.eqGuardType166, by kernel_rfl, by kernel_rfl⟩) (by kernel_rfl) (by kernel_rfl)
noncomputable def tabNI : List (Nat × TE) := [(164, ⟨.int .u64, 1, 8, [.i .u64 (0 : Int)], false⟩), (166, ⟨.array 4 164, 4, 32, [.ints .u64 4 ([0, 0, 0, 0] : List Int)], true⟩)]
theorem tabOkNI : TabOk Tryz.prog (tabOf tabNI) := (tabOf_cons teNI_25 (tabOf_cons teNI_104 tabOf_nil))

def less (S T : List Int) : List Int :=
 let z0 : Int := (sb64c (List.getD S 0 0) (List.getD T 0 0) (0 : Int))
 let z1 : Int := (sb64c (List.getD S 1 0) (List.getD T 1 0) z0)
 ([(sb64s (List.getD S 0 0) (List.getD T 0 0) (0 : Int)), (sb64s (List.getD S 1 0) (List.getD T 1 0) z0), (sb64s (List.getD S 2 0) (List.getD T 2 0) z1), (sb64s (List.getD S 3 0) (List.getD T 3 0) (sb64c (List.getD S 2 0) (List.getD T 2 0) z1))] : List Int)

def less_1 (S T : List Int) : Int :=
 (sb64c (List.getD S 3 0) (List.getD T 3 0) (sb64c (List.getD S 2 0) (List.getD T 2 0) (sb64c (List.getD S 1 0) (List.getD T 1 0) (sb64c (List.getD S 0 0) (List.getD T 0 0) (0 : Int)))))

theorem less_body0 (S T : List Int) (h0 : (Wds S)) (h1 : (Wds T)) (hv0 : S.length = 4) (hv1 : T.length = 4) (w : World) : Body Tryz.prog (tabOf tabNI) Tryz.f127 ⟨w, [], 0, noEnv⟩ (toA [.g [.ints .u64 4 S], .g [.ints .u64 4 T]]) [] (fun ys _ => ys = [.g [.ints .u64 4 (less S T)], .a (.i .u64 (less_1 S T))]) :=
 Body.of_fin (Γ := gv3) (Λ := noLam) (Ψ := noPsi) (fuel := 5) (m := 28) (c := (Tryz.f127.body.getD .skip)) mix tabOkNI gv3_ok rfl (rs := [.cell 4 166, .tmp 5]) rfl rfl [true, true, true, true, false] []
  (vc := [(false = false), (cN 3 4), (cI 3 4), (((0 : Int) ≤ (List.getD S 3 0)) ∧ ((0 : Int) ≤ (List.getD T 3 0)) ∧ ((List.getD T 3 0) < 18446744073709551616) ∧ ((0 : Int) ≤ (sb64c (List.getD S 2 0) (List.getD T 2 0) (sb64c (List.getD S 1 0) (List.getD T 1 0) (sb64c (List.getD S 0 0) (List.getD T 0 0) (0 : Int))))) ∧ ((sb64c (List.getD S 2 0) (List.getD T 2 0) (sb64c (List.getD S 1 0) (List.getD T 1 0) (sb64c (List.getD S 0 0) (List.getD T 0 0) (0 : Int)))) ≤ 1)), (cN 3 4), (cI 3 4), (cN 3 4), (cI 3 4), cT, (cN 2 4), (cI 2 4), (((0 : Int) ≤ (List.getD S 2 0)) ∧ ((0 : Int) ≤ (List.getD T 2 0)) ∧ ((List.getD T 2 0) < 18446744073709551616) ∧ ((0 : Int) ≤ (sb64c (List.getD S 1 0) (List.getD T 1 0) (sb64c (List.getD S 0 0) (List.getD T 0 0) (0 : Int)))) ∧ ((sb64c (List.getD S 1 0) (List.getD T 1 0) (sb64c (List.getD S 0 0) (List.getD T 0 0) (0 : Int))) ≤ 1)), (cN 2 4), (cI 2 4), (cN 2 4), (cI 2 4), cT, (cN 1 4), (cI 1 4), (((0 : Int) ≤ (List.getD S 1 0)) ∧ ((0 : Int) ≤ (List.getD T 1 0)) ∧ ((List.getD T 1 0) < 18446744073709551616) ∧ ((0 : Int) ≤ (sb64c (List.getD S 0 0) (List.getD T 0 0) (0 : Int))) ∧ ((sb64c (List.getD S 0 0) (List.getD T 0 0) (0 : Int)) ≤ 1)), (cN 1 4), (cI 1 4), (cN 1 4), (cI 1 4), cT, (cN 0 4), (cI 0 4), (((0 : Int) ≤ (List.getD S 0 0)) ∧ ((0 : Int) ≤ (List.getD T 0 0)) ∧ ((List.getD T 0 0) < 18446744073709551616) ∧ (cZ 0) ∧ (cZ 1)), (cN 0 4), (cI 0 4), (cN 0 4), (cI 0 4), cT]) (by kernel_rfl)
  (aC rfl (aC (dd rfl) (aC (dd rfl) (aC ⟨(by have w0_0 := wds_get h0 0; have w0_1 := wds_get h0 1; have w0_2 := wds_get h0 2; have w0_3 := wds_get h0 3; have w1_0 := wds_get h1 0; have w1_1 := wds_get h1 1; have w1_2 := wds_get h1 2; have w1_3 := wds_get h1 3; first | omega | (repeat' (first | omega | (unfold sb64c; split) | (unfold ad64c) | (unfold ad64s)))), (by have w0_0 := wds_get h0 0; have w0_1 := wds_get h0 1; have w0_2 := wds_get h0 2; have w0_3 := wds_get h0 3; have w1_0 := wds_get h1 0; have w1_1 := wds_get h1 1; have w1_2 := wds_get h1 2; have w1_3 := wds_get h1 3; first | omega | (repeat' (first | omega | (unfold sb64c; split) | (unfold ad64c) | (unfold ad64s)))), (by have w0_0 := wds_get h0 0; have w0_1 := wds_get h0 1; have w0_2 := wds_get h0 2; have w0_3 := wds_get h0 3; have w1_0 := wds_get h1 0; have w1_1 := wds_get h1 1; have w1_2 := wds_get h1 2; have w1_3 := wds_get h1 3; first | omega | (repeat' (first | omega | (unfold sb64c; split) | (unfold ad64c) | (unfold ad64s)))), (by have w0_0 := wds_get h0 0; have w0_1 := wds_get h0 1; have w0_2 := wds_get h0 2; have w0_3 := wds_get h0 3; have w1_0 := wds_get h1 0; have w1_1 := wds_get h1 1; have w1_2 := wds_get h1 2; have w1_3 := wds_get h1 3; first | omega | (repeat' (first | omega | (unfold sb64c; split) | (unfold ad64c) | (unfold ad64s)))), (by have w0_0 := wds_get h0 0; have w0_1 := wds_get h0 1; have w0_2 := wds_get h0 2; have w0_3 := wds_get h0 3; have w1_0 := wds_get h1 0; have w1_1 := wds_get h1 1; have w1_2 := wds_get h1 2; have w1_3 := wds_get h1 3; first | omega | (repeat' (first | omega | (unfold sb64c; split) | (unfold ad64c) | (unfold ad64s))))⟩ (aC (dd rfl) (aC (dd rfl) (aC (dd rfl) (aC (dd rfl) (aC rfl (aC (dd rfl) (aC (dd rfl) (aC ⟨(by have w0_0 := wds_get h0 0; have w0_1 := wds_get h0 1; have w0_2 := wds_get h0 2; have w0_3 := wds_get h0 3; have w1_0 := wds_get h1 0; have w1_1 := wds_get h1 1; have w1_2 := wds_get h1 2; have w1_3 := wds_get h1 3; first | omega | (repeat' (first | omega | (unfold sb64c; split) | (unfold ad64c) | (unfold ad64s)))), (by have w0_0 := wds_get h0 0; have w0_1 := wds_get h0 1; have w0_2 := wds_get h0 2; have w0_3 := wds_get h0 3; have w1_0 := wds_get h1 0; have w1_1 := wds_get h1 1; have w1_2 := wds_get h1 2; have w1_3 := wds_get h1 3; first | omega | (repeat' (first | omega | (unfold sb64c; split) | (unfold ad64c) | (unfold ad64s)))), (by have w0_0 := wds_get h0 0; have w0_1 := wds_get h0 1; have w0_2 := wds_get h0 2; have w0_3 := wds_get h0 3; have w1_0 := wds_get h1 0; have w1_1 := wds_get h1 1; have w1_2 := wds_get h1 2; have w1_3 := wds_get h1 3; first | omega | (repeat' (first | omega | (unfold sb64c; split) | (unfold ad64c) | (unfold ad64s)))), (by have w0_0 := wds_get h0 0; have w0_1 := wds_get h0 1; have w0_2 := wds_get h0 2; have w0_3 := wds_get h0 3; have w1_0 := wds_get h1 0; have w1_1 := wds_get h1 1; have w1_2 := wds_get h1 2; have w1_3 := wds_get h1 3; first | omega | (repeat' (first | omega | (unfold sb64c; split) | (unfold ad64c) | (unfold ad64s)))), (by have w0_0 := wds_get h0 0; have w0_1 := wds_get h0 1; have w0_2 := wds_get h0 2; have w0_3 := wds_get h0 3; have w1_0 := wds_get h1 0; have w1_1 := wds_get h1 1; have w1_2 := wds_get h1 2; have w1_3 := wds_get h1 3; first | omega | (repeat' (first | omega | (unfold sb64c; split) | (unfold ad64c) | (unfold ad64s))))⟩ (aC (dd rfl) (aC (dd rfl) (aC (dd rfl) (aC (dd rfl) (aC rfl (aC (dd rfl) (aC (dd rfl) (aC ⟨(by have w0_0 := wds_get h0 0; have w0_1 := wds_get h0 1; have w0_2 := wds_get h0 2; have w0_3 := wds_get h0 3; have w1_0 := wds_get h1 0; have w1_1 := wds_get h1 1; have w1_2 := wds_get h1 2; have w1_3 := wds_get h1 3; first | omega | (repeat' (first | omega | (unfold sb64c; split) | (unfold ad64c) | (unfold ad64s)))), (by have w0_0 := wds_get h0 0; have w0_1 := wds_get h0 1; have w0_2 := wds_get h0 2; have w0_3 := wds_get h0 3; have w1_0 := wds_get h1 0; have w1_1 := wds_get h1 1; have w1_2 := wds_get h1 2; have w1_3 := wds_get h1 3; first | omega | (repeat' (first | omega | (unfold sb64c; split) | (unfold ad64c) | (unfold ad64s)))), (by have w0_0 := wds_get h0 0; have w0_1 := wds_get h0 1; have w0_2 := wds_get h0 2; have w0_3 := wds_get h0 3; have w1_0 := wds_get h1 0; have w1_1 := wds_get h1 1; have w1_2 := wds_get h1 2; have w1_3 := wds_get h1 3; first | omega | (repeat' (first | omega | (unfold sb64c; split) | (unfold ad64c) | (unfold ad64s)))), (by have w0_0 := wds_get h0 0; have w0_1 := wds_get h0 1; have w0_2 := wds_get h0 2; have w0_3 := wds_get h0 3; have w1_0 := wds_get h1 0; have w1_1 := wds_get h1 1; have w1_2 := wds_get h1 2; have w1_3 := wds_get h1 3; first | omega | (repeat' (first | omega | (unfold sb64c; split) | (unfold ad64c) | (unfold ad64s)))), (by have w0_0 := wds_get h0 0; have w0_1 := wds_get h0 1; have w0_2 := wds_get h0 2; have w0_3 := wds_get h0 3; have w1_0 := wds_get h1 0; have w1_1 := wds_get h1 1; have w1_2 := wds_get h1 2; have w1_3 := wds_get h1 3; first | omega | (repeat' (first | omega | (unfold sb64c; split) | (unfold ad64c) | (unfold ad64s))))⟩ (aC (dd rfl) (aC (dd rfl) (aC (dd rfl) (aC (dd rfl) (aC rfl (aC (dd rfl) (aC (dd rfl) (aC ⟨(by have w0_0 := wds_get h0 0; have w0_1 := wds_get h0 1; have w0_2 := wds_get h0 2; have w0_3 := wds_get h0 3; have w1_0 := wds_get h1 0; have w1_1 := wds_get h1 1; have w1_2 := wds_get h1 2; have w1_3 := wds_get h1 3; first | omega | (repeat' (first | omega | (unfold sb64c; split) | (unfold ad64c) | (unfold ad64s)))), (by have w0_0 := wds_get h0 0; have w0_1 := wds_get h0 1; have w0_2 := wds_get h0 2; have w0_3 := wds_get h0 3; have w1_0 := wds_get h1 0; have w1_1 := wds_get h1 1; have w1_2 := wds_get h1 2; have w1_3 := wds_get h1 3; first | omega | (repeat' (first | omega | (unfold sb64c; split) | (unfold ad64c) | (unfold ad64s)))), (by have w0_0 := wds_get h0 0; have w0_1 := wds_get h0 1; have w0_2 := wds_get h0 2; have w0_3 := wds_get h0 3; have w1_0 := wds_get h1 0; have w1_1 := wds_get h1 1; have w1_2 := wds_get h1 2; have w1_3 := wds_get h1 3; first | omega | (repeat' (first | omega | (unfold sb64c; split) | (unfold ad64c) | (unfold ad64s)))), (dd rfl), (dd rfl)⟩ (aC (dd rfl) (aC (dd rfl) (aC (dd rfl) (aC (dd rfl) (aC rfl (AllP_nil))))))))))))))))))))))))))))))))))

theorem less_body (S T : List Int) (h0 : (Wds S)) (h1 : (Wds T)) (w : World) : Body Tryz.prog (tabOf tabNI) Tryz.f127 ⟨w, [], 0, noEnv⟩ (toA [.g [.ints .u64 4 S], .g [.ints .u64 4 T]]) [] (fun ys _ => ys = [.g [.ints .u64 4 (less S T)], .a (.i .u64 (less_1 S T))]) :=
 Body.lens (c := (Tryz.f127.body.getD .skip)) rfl fun h => less_body0 S T h0 h1 (h.vals 0 _ _ _ rfl) (h.vals 1 _ _ _ rfl) w

end Go.Proofs.YtjmfnjgcofpocaaGreat.X.V

/- The difference of two numbers. -/
namespace Go.Proofs.YtjmfnjgcofpocaaGreat.X.V
open Go Go.Proofs
set_option linter.unusedVariables false

def difR (a b : Int) : Int := (a - b) % 115792089237316195423570985008687907853269984665640564039457584007913129639936
def lessC (a b : Int) : Int := if a < b then 1 else 0

theorem wds_four {a b c d : Int} (h0 : 0 ≤ a ∧ a < 18446744073709551616) (h1 : 0 ≤ b ∧ b < 18446744073709551616) (h2 : 0 ≤ c ∧ c < 18446744073709551616) (h3 : 0 ≤ d ∧ d < 18446744073709551616) : Wds [a, b, c, d] := by
 intro x hx
 simp only [List.mem_cons, List.not_mem_nil, or_false] at hx
 rcases hx with rfl | rfl | rfl | rfl <;> assumption

theorem sb64_eq {x y b : Int} (h0 : 0 ≤ x) (h1 : x < 18446744073709551616) (h2 : 0 ≤ y) (h3 : y < 18446744073709551616) (hb : 0 ≤ b ∧ b ≤ 1) :
  sb64s x y b = x - y - b + 18446744073709551616 * sb64c x y b ∧ 0 ≤ sb64s x y b ∧ sb64s x y b < 18446744073709551616 ∧ 0 ≤ sb64c x y b ∧ sb64c x y b ≤ 1 := by
 unfold sb64s sb64c
 split <;> omega

theorem less_eq {S T : List Int} (hS : Wds S) (hT : Wds T) (lS : S.length = 4) (lT : T.length = 4) : less S T = W4 (difR (V4 S) (V4 T)) ∧ less_1 S T = lessC (V4 S) (V4 T) := by
 obtain ⟨a0, a1, a2, a3, rfl⟩ := four lS
 obtain ⟨b0, b1, b2, b3, rfl⟩ := four lT
 have ha0 := hS a0 (by simp); have ha1 := hS a1 (by simp); have ha2 := hS a2 (by simp); have ha3 := hS a3 (by simp)
 have hb0 := hT b0 (by simp); have hb1 := hT b1 (by simp); have hb2 := hT b2 (by simp); have hb3 := hT b3 (by simp)
 have e0 := sb64_eq ha0.1 ha0.2 hb0.1 hb0.2 (b := 0) (by omega)
 have e1 := sb64_eq ha1.1 ha1.2 hb1.1 hb1.2 (b := sb64c a0 b0 0) (by omega)
 have e2 := sb64_eq ha2.1 ha2.2 hb2.1 hb2.2 (b := sb64c a1 b1 (sb64c a0 b0 0)) (by omega)
 have e3 := sb64_eq ha3.1 ha3.2 hb3.1 hb3.2 (b := sb64c a2 b2 (sb64c a1 b1 (sb64c a0 b0 0))) (by omega)
 show [sb64s a0 b0 0, sb64s a1 b1 (sb64c a0 b0 0), sb64s a2 b2 (sb64c a1 b1 (sb64c a0 b0 0)), sb64s a3 b3 (sb64c a2 b2 (sb64c a1 b1 (sb64c a0 b0 0)))] = _ ∧ sb64c a3 b3 (sb64c a2 b2 (sb64c a1 b1 (sb64c a0 b0 0))) = _
 generalize sb64c a3 b3 (sb64c a2 b2 (sb64c a1 b1 (sb64c a0 b0 0))) = c3 at *
 generalize sb64s a3 b3 (sb64c a2 b2 (sb64c a1 b1 (sb64c a0 b0 0))) = s3 at *
 generalize sb64s a2 b2 (sb64c a1 b1 (sb64c a0 b0 0)) = s2 at *
 generalize sb64c a2 b2 (sb64c a1 b1 (sb64c a0 b0 0)) = c2 at *
 generalize sb64s a1 b1 (sb64c a0 b0 0) = s1 at *
 generalize sb64c a1 b1 (sb64c a0 b0 0) = c1 at *
 generalize sb64s a0 b0 0 = s0 at *
 generalize sb64c a0 b0 0 = c0 at *
 unfold difR lessC V4
 simp only
 clear hS hT lS lT
 constructor
 ·refine W4_eq ?_ ⟨e0.2.1, e0.2.2.1⟩ ⟨e1.2.1, e1.2.2.1⟩ ⟨e2.2.1, e2.2.2.1⟩ ⟨e3.2.1, e3.2.2.1⟩
  omega
 ·split <;> omega

theorem less_can (S T : List Int) (h0 : (Wds S)) (h1 : (Wds T)) (w : World) : Body Tryz.prog (tabOf tabNI) Tryz.f127 ⟨w, [], 0, noEnv⟩ (toA [.g [.ints .u64 4 S], .g [.ints .u64 4 T]]) [] (fun ys _ => ys = [.g [.ints .u64 4 (W4 (difR (V4 S) (V4 T)))], .a (.i .u64 (lessC (V4 S) (V4 T)))]) :=
 Body.lens (c := (Tryz.f127.body.getD .skip)) rfl fun h => (less_body S T h0 h1 w).mono fun xs K hx => by
  subst hx
  obtain ⟨e1, e2⟩ := less_eq h0 h1 (h.vals 0 _ _ _ rfl) (h.vals 1 _ _ _ rfl)
  rw [e1, e2]
theorem wds_ord : Wds [6346243789798364141, 1503914060200516822, 0, 1152921504606846976] := by
 intro x hx
 simp only [List.mem_cons, List.not_mem_nil, or_false] at hx
 rcases hx with rfl | rfl | rfl | rfl <;> decide
end Go.Proofs.YtjmfnjgcofpocaaGreat.X.V

/- Printed by a tool of this session. -/
namespace Go.Proofs.YtjmfnjgcofpocaaGreat.X.V
open Go Go.Proofs
set_option linter.unusedVariables false
set_option linter.unusedSimpArgs false
set_option maxRecDepth 100000
set_option maxHeartbeats 8000000
theorem teNK_104 : TEOk Tryz.prog 166 ⟨.array 4 164, 4, 32, [.ints .u64 4 ([0, 0, 0, 0] : List Int)], true⟩ :=
 TEOk.of Tryz.underlying166 (i := Tryz.t166) (by kernel_rfl) rfl rfl rfl (by kernel_rfl) (fun _ => ⟨Tryz.eqGuardType166, by kernel_rfl, by kernel_rfl⟩) (by kernel_rfl) (by kernel_rfl)
noncomputable def tabNK : List (Nat × TE) := [(166, ⟨.array 4 164, 4, 32, [.ints .u64 4 ([0, 0, 0, 0] : List Int)], true⟩)]
theorem tabOkNK : TabOk Tryz.prog (tabOf tabNK) := (tabOf_cons teNK_104 tabOf_nil)

theorem less_pure (S T : List Int) (h0 : (Wds S)) (h1 : (Wds T)) : PureC Tryz.prog 127 [.g [.ints .u64 4 S], .g [.ints .u64 4 T]] [.g [.ints .u64 4 (W4 (difR (V4 S) (V4 T)))], .a (.i .u64 (lessC (V4 S) (V4 T)))] :=
 PureC.of_body tabOkNK Tryz.func127 rfl rfl fun w => less_can S T h0 h1 w

def gv5 : Gam := gpure 127 (fun args => match args with | [.o (.g [.ints .u64 4 S]), .o (.g [.ints .u64 4 T])] => some (some ((Wds S) ∧ (Wds T)), [.g [.ints .u64 4 (W4 (difR (V4 S) (V4 T)))], .a (.i .u64 (lessC (V4 S) (V4 T)))]) | _ => none) gv3
theorem gv5_ok : GamOk Tryz.prog gv5 := gpure_ok gv3_ok Tryz.call127 (by
 intro args vc xs h hv
 split at h
 ·simp only [Option.some.injEq, Prod.mk.injEq] at h; obtain ⟨rfl, rfl⟩ := h; exact ⟨_, by rfl, less_pure _ _ hv.1 hv.2⟩
 ·simp at h)

def lowA (S : List Int) : List Int :=
 (W4 (difR (V4 S) (V4 ([6346243789798364141, 1503914060200516822, 0, 1152921504606846976] : List Int))))

theorem lowA_body0 (S : List Int) (h0 : (Wds S)) (hv0 : S.length = 4) (hc : lessC (V4 S) (V4 ([6346243789798364141, 1503914060200516822, 0, 1152921504606846976] : List Int)) = 0) (w : World) : Body Tryz.prog (tabOf tabNK) Tryz.f120 ⟨w, [], 0, noEnv⟩ (toA [.g [.ints .u64 4 S]]) [] (fun ys _ => ys = [.g [.ints .u64 4 (lowA S)]]) :=
 Body.of_fin (Γ := gv5) (Λ := noLam) (Ψ := noPsi) (fuel := 0) (m := 15) (c := (Tryz.f120.body.getD .skip)) mix tabOkNK gv5_ok rfl (rs := [.cell 2 166]) rfl rfl [true] []
  (vc := [(((lessC (V4 S) (V4 ([6346243789798364141, 1503914060200516822, 0, 1152921504606846976] : List Int))) == (0 : Int)) = true), ((Wds S) ∧ (Wds ([6346243789798364141, 1503914060200516822, 0, 1152921504606846976] : List Int)))]) (by kernel_rfl)
  (aC (beq_iff_eq.2 hc) (aC ⟨(by first | assumption | exact wds_W4 _ | exact wds_ord | (unfold Wds; decide)), (by first | assumption | exact wds_W4 _ | exact wds_ord | (unfold Wds; decide))⟩ (AllP_nil)))

theorem lowB_body0 (S : List Int) (h0 : (Wds S)) (hv0 : S.length = 4) (hc : lessC (V4 S) (V4 ([6346243789798364141, 1503914060200516822, 0, 1152921504606846976] : List Int)) ≠ 0) (w : World) : Body Tryz.prog (tabOf tabNK) Tryz.f120 ⟨w, [], 0, noEnv⟩ (toA [.g [.ints .u64 4 S]]) [] (fun ys _ => ys = [.g [.ints .u64 4 S]]) :=
 Body.of_fin (Γ := gv5) (Λ := noLam) (Ψ := noPsi) (fuel := 0) (m := 15) (c := (Tryz.f120.body.getD .skip)) mix tabOkNK gv5_ok rfl (rs := [.cell 2 166]) rfl rfl [false] []
  (vc := [(((lessC (V4 S) (V4 ([6346243789798364141, 1503914060200516822, 0, 1152921504606846976] : List Int))) == (0 : Int)) = false), ((Wds S) ∧ (Wds ([6346243789798364141, 1503914060200516822, 0, 1152921504606846976] : List Int)))]) (by kernel_rfl)
  (aC (beq_eq_false_iff_ne.2 hc) (aC ⟨(by first | assumption | exact wds_W4 _ | exact wds_ord | (unfold Wds; decide)), (by first | assumption | exact wds_W4 _ | exact wds_ord | (unfold Wds; decide))⟩ (AllP_nil)))

end Go.Proofs.YtjmfnjgcofpocaaGreat.X.V

/- A number, less the order if it is not below it. -/
namespace Go.Proofs.YtjmfnjgcofpocaaGreat.X.V
open Go Go.Proofs
set_option linter.unusedVariables false

def low (v : Int) : Int := if LL ≤ v then v - LL else v
def addR (a b : Int) : Int := (a + b) % 115792089237316195423570985008687907853269984665640564039457584007913129639936

theorem V4_rng {S : List Int} (h : Wds S) (l : S.length = 4) : 0 ≤ V4 S ∧ V4 S < 115792089237316195423570985008687907853269984665640564039457584007913129639936 := by
 obtain ⟨a, b, c, d, rfl⟩ := four l
 have h0 := h a (by simp); have h1 := h b (by simp); have h2 := h c (by simp); have h3 := h d (by simp)
 unfold V4
 simp only
 omega
theorem W4_of {S : List Int} (h : Wds S) (l : S.length = 4) : S = W4 (V4 S) := by
 obtain ⟨a, b, c, d, rfl⟩ := four l
 exact W4_eq rfl (h a (by simp)) (h b (by simp)) (h c (by simp)) (h d (by simp))
theorem V4_ord : V4 [6346243789798364141, 1503914060200516822, 0, 1152921504606846976] = LL := by decide +kernel

theorem low_rng {v : Int} (h0 : 0 ≤ v) (h1 : v < 115792089237316195423570985008687907853269984665640564039457584007913129639936) : 0 ≤ low v ∧ low v < 115792089237316195423570985008687907853269984665640564039457584007913129639936 := by
 unfold low LL
 split <;> omega

theorem lowered_can (S : List Int) (h0 : (Wds S)) (w : World) : Body Tryz.prog (tabOf tabNK) Tryz.f120 ⟨w, [], 0, noEnv⟩ (toA [.g [.ints .u64 4 S]]) [] (fun ys _ => ys = [.g [.ints .u64 4 (W4 (low (V4 S)))]]) :=
 Body.lens (c := (Tryz.f120.body.getD .skip)) rfl fun h => by
  have hl := h.vals 0 _ _ _ rfl
  obtain ⟨r0, r1⟩ := V4_rng h0 hl
  by_cases hc : lessC (V4 S) (V4 ([6346243789798364141, 1503914060200516822, 0, 1152921504606846976] : List Int)) = 0
  ·refine (lowA_body0 S h0 hl hc w).mono fun xs K hx => ?_
   subst hx
   have e : lowA S = W4 (low (V4 S)) := by
    unfold lowA
    congr 1
    rw [V4_ord] at hc ⊢
    unfold lessC at hc
    unfold difR low
    split at hc
    ·cases hc
    ·rename_i h; rw [if_pos (by omega)]
     unfold LL at *
     omega
   rw [e]
  ·refine (lowB_body0 S h0 hl hc w).mono fun xs K hx => ?_
   subst hx
   have e : W4 (low (V4 S)) = S := by
    rw [V4_ord] at hc
    unfold lessC at hc
    unfold low
    split at hc
    ·rename_i h; rw [if_neg (by omega)]; exact (W4_of h0 hl).symm
    ·exact absurd rfl hc
   rw [e]
end Go.Proofs.YtjmfnjgcofpocaaGreat.X.V

/- Printed by a tool of this session. -/
namespace Go.Proofs.YtjmfnjgcofpocaaGreat.X.V
open Go Go.Proofs
set_option linter.unusedVariables false
set_option linter.unusedSimpArgs false
set_option maxRecDepth 100000
set_option maxHeartbeats 8000000
theorem teNM_5 : TEOk Tryz.prog 5 ⟨.int .u8, 1, 1, [.i .u8 (0 : Int)], false⟩ :=
 TEOk.of Tryz.underlying5 (i := Tryz.t5) (by kernel_rfl) rfl rfl rfl (by kernel_rfl) (fun h => by cases h) (by kernel_rfl) (by kernel_rfl)
theorem teNM_24 : TEOk Tryz.prog 77 ⟨.array 32 5, 32, 32, [.ints .u8 32 ([0, 0, 0, 0, 0, 0, 0, 0, 0, 0, 0, 0, 0, 0, 0, 0, 0, 0, 0, 0, 0, 0, 0, 0, 0, 0, 0, 0, 0, 0, 0, 0] : List Int)], true⟩ :=
 TEOk.of Tryz.underlying77 (i := Tryz.t77) (by kernel_rfl) rfl rfl rfl (by kernel_rfl) (fun _ => ⟨Tryz.eqGuardType77, by kernel_rfl, by kernel_rfl⟩) (by kernel_rfl) (by kernel_rfl)
theorem teNM_25 : TEOk Tryz.prog 164 ⟨.int .u64, 1, 8, [.i .u64 (0 : Int)], false⟩ :=
 TEOk.of Tryz.underlying164 (i := Tryz.t164) (by kernel_rfl) rfl rfl rfl (by kernel_rfl) (fun h => by cases h) (by kernel_rfl) (by kernel_rfl)
theorem teNM_104 : TEOk Tryz.prog 166 ⟨.array 4 164, 4, 32, [.ints .u64 4 ([0, 0, 0, 0] : List Int)], true⟩ :=
 TEOk.of Tryz.underlying166 (i := Tryz.t166) (by kernel_rfl) rfl rfl rfl (by kernel_rfl) (fun _ => ⟨Tryz.eqGuardType166, by kernel_rfl, by kernel_rfl⟩) (by kernel_rfl) (by kernel_rfl)
noncomputable def tabNM : List (Nat × TE) := [(5, ⟨.int .u8, 1, 1, [.i .u8 0], false⟩), (77, ⟨.array 32 5, 32, 32, [.ints .u8 32 ([0, 0, 0, 0, 0, 0, 0, 0, 0, 0, 0, 0, 0, 0, 0, 0, 0, 0, 0, 0, 0, 0, 0, 0, 0, 0, 0, 0, 0, 0, 0, 0] : List Int)], true⟩), (164, ⟨.int .u64, 1, 8, [.i .u64 0], false⟩), (166, ⟨.array 4 164, 4, 32, [.ints .u64 4 ([0, 0, 0, 0] : List Int)], true⟩)]
theorem tabOkNM : TabOk Tryz.prog (tabOf tabNM) := (tabOf_cons teNM_5 (tabOf_cons teNM_24 (tabOf_cons teNM_25 (tabOf_cons teNM_104 tabOf_nil))))

theorem lowA_pure (S : List Int) (h0 : (Wds S)) : PureC Tryz.prog 120 [.g [.ints .u64 4 S]] [.g [.ints .u64 4 (W4 (low (V4 S)))]] :=
 PureC.of_body tabOkNM Tryz.func120 rfl rfl fun w => lowered_can S h0 w

def gv6 : Gam := gpure 120 (fun args => match args with | [.o (.g [.ints .u64 (4 : Nat) S])] => some (some ((Wds S)), [.g [.ints .u64 (4 : Nat) (W4 (low (V4 S)))]]) | _ => none) gv5
theorem gv6_ok : GamOk Tryz.prog gv6 := gpure_ok gv5_ok Tryz.call120 (by
 intro args vc xs h hv
 split at h
 ·simp only [Option.some.injEq, Prod.mk.injEq] at h; obtain ⟨rfl, rfl⟩ := h; exact ⟨_, by rfl, lowA_pure _ hv⟩
 ·simp at h)

def plusA (S T : List Int) : List Int :=
 let z0 : Int := (ad64c (List.getD S 0 0) (List.getD T 0 0) (0 : Int))
 let z1 : Int := (ad64c (List.getD S 1 0) (List.getD T 1 0) z0)
 (W4 (low (V4 ([(ad64s (List.getD S 0 0) (List.getD T 0 0) (0 : Int)), (ad64s (List.getD S 1 0) (List.getD T 1 0) z0), (ad64s (List.getD S 2 0) (List.getD T 2 0) z1), (ad64s (List.getD S 3 0) (List.getD T 3 0) (ad64c (List.getD S 2 0) (List.getD T 2 0) z1))] : List Int))))

theorem plusA_body0 (S T : List Int) (h0 : (Wds S)) (h1 : (Wds T)) (hv0 : S.length = 4) (hv1 : T.length = 4) (w : World) : Body Tryz.prog (tabOf tabNM) Tryz.f93 ⟨w, [], 0, noEnv⟩ (toA [.g [.ints .u64 4 S], .g [.ints .u64 4 T]]) [] (fun ys _ => ys = [.g [.ints .u64 4 (plusA S T)]]) :=
 Body.of_fin (Γ := gv6) (Λ := noLam) (Ψ := noPsi) (fuel := 5) (m := 27) (c := (Tryz.f93.body.getD .skip)) mix tabOkNM gv6_ok rfl (rs := [.cell 4 166]) rfl rfl [true, true, true, true, false] []
  (vc := [(Wds ([(ad64s (List.getD S 0 0) (List.getD T 0 0) (0 : Int)), (ad64s (List.getD S 1 0) (List.getD T 1 0) (ad64c (List.getD S 0 0) (List.getD T 0 0) (0 : Int))), (ad64s (List.getD S 2 0) (List.getD T 2 0) (ad64c (List.getD S 1 0) (List.getD T 1 0) (ad64c (List.getD S 0 0) (List.getD T 0 0) (0 : Int)))), (ad64s (List.getD S 3 0) (List.getD T 3 0) (ad64c (List.getD S 2 0) (List.getD T 2 0) (ad64c (List.getD S 1 0) (List.getD T 1 0) (ad64c (List.getD S 0 0) (List.getD T 0 0) (0 : Int)))))] : List Int)), (false = false), (cN 3 4), (cI 3 4), (((0 : Int) ≤ (List.getD S 3 0)) ∧ ((0 : Int) ≤ (List.getD T 3 0)) ∧ ((0 : Int) ≤ (ad64c (List.getD S 2 0) (List.getD T 2 0) (ad64c (List.getD S 1 0) (List.getD T 1 0) (ad64c (List.getD S 0 0) (List.getD T 0 0) (0 : Int))))) ∧ ((ad64c (List.getD S 2 0) (List.getD T 2 0) (ad64c (List.getD S 1 0) (List.getD T 1 0) (ad64c (List.getD S 0 0) (List.getD T 0 0) (0 : Int)))) ≤ 1)), (cN 3 4), (cI 3 4), (cN 3 4), (cI 3 4), cT, (cN 2 4), (cI 2 4), (((0 : Int) ≤ (List.getD S 2 0)) ∧ ((0 : Int) ≤ (List.getD T 2 0)) ∧ ((0 : Int) ≤ (ad64c (List.getD S 1 0) (List.getD T 1 0) (ad64c (List.getD S 0 0) (List.getD T 0 0) (0 : Int)))) ∧ ((ad64c (List.getD S 1 0) (List.getD T 1 0) (ad64c (List.getD S 0 0) (List.getD T 0 0) (0 : Int))) ≤ 1)), (cN 2 4), (cI 2 4), (cN 2 4), (cI 2 4), cT, (cN 1 4), (cI 1 4), (((0 : Int) ≤ (List.getD S 1 0)) ∧ ((0 : Int) ≤ (List.getD T 1 0)) ∧ ((0 : Int) ≤ (ad64c (List.getD S 0 0) (List.getD T 0 0) (0 : Int))) ∧ ((ad64c (List.getD S 0 0) (List.getD T 0 0) (0 : Int)) ≤ 1)), (cN 1 4), (cI 1 4), (cN 1 4), (cI 1 4), cT, (cN 0 4), (cI 0 4), (((0 : Int) ≤ (List.getD S 0 0)) ∧ ((0 : Int) ≤ (List.getD T 0 0)) ∧ (cZ 0) ∧ (cZ 1)), (cN 0 4), (cI 0 4), (cN 0 4), (cI 0 4), cT]) (by kernel_rfl)
  (aC (by first | assumption | exact wds_W4 _ | exact wds_ord | (refine wds_four ?_ ?_ ?_ ?_ <;> first | exact ad64_rng _ _ _)) (aC rfl (aC (dd rfl) (aC (dd rfl) (aC ⟨(by have w0_0 := wds_get h0 0; have w0_1 := wds_get h0 1; have w0_2 := wds_get h0 2; have w0_3 := wds_get h0 3; have w1_0 := wds_get h1 0; have w1_1 := wds_get h1 1; have w1_2 := wds_get h1 2; have w1_3 := wds_get h1 3; first | omega | (repeat' (first | omega | (unfold sb64c; split) | (unfold ad64c) | (unfold ad64s)))), (by have w0_0 := wds_get h0 0; have w0_1 := wds_get h0 1; have w0_2 := wds_get h0 2; have w0_3 := wds_get h0 3; have w1_0 := wds_get h1 0; have w1_1 := wds_get h1 1; have w1_2 := wds_get h1 2; have w1_3 := wds_get h1 3; first | omega | (repeat' (first | omega | (unfold sb64c; split) | (unfold ad64c) | (unfold ad64s)))), (by have w0_0 := wds_get h0 0; have w0_1 := wds_get h0 1; have w0_2 := wds_get h0 2; have w0_3 := wds_get h0 3; have w1_0 := wds_get h1 0; have w1_1 := wds_get h1 1; have w1_2 := wds_get h1 2; have w1_3 := wds_get h1 3; first | omega | (repeat' (first | omega | (unfold sb64c; split) | (unfold ad64c) | (unfold ad64s)))), (by have w0_0 := wds_get h0 0; have w0_1 := wds_get h0 1; have w0_2 := wds_get h0 2; have w0_3 := wds_get h0 3; have w1_0 := wds_get h1 0; have w1_1 := wds_get h1 1; have w1_2 := wds_get h1 2; have w1_3 := wds_get h1 3; first | omega | (repeat' (first | omega | (unfold sb64c; split) | (unfold ad64c) | (unfold ad64s))))⟩ (aC (dd rfl) (aC (dd rfl) (aC (dd rfl) (aC (dd rfl) (aC rfl (aC (dd rfl) (aC (dd rfl) (aC ⟨(by have w0_0 := wds_get h0 0; have w0_1 := wds_get h0 1; have w0_2 := wds_get h0 2; have w0_3 := wds_get h0 3; have w1_0 := wds_get h1 0; have w1_1 := wds_get h1 1; have w1_2 := wds_get h1 2; have w1_3 := wds_get h1 3; first | omega | (repeat' (first | omega | (unfold sb64c; split) | (unfold ad64c) | (unfold ad64s)))), (by have w0_0 := wds_get h0 0; have w0_1 := wds_get h0 1; have w0_2 := wds_get h0 2; have w0_3 := wds_get h0 3; have w1_0 := wds_get h1 0; have w1_1 := wds_get h1 1; have w1_2 := wds_get h1 2; have w1_3 := wds_get h1 3; first | omega | (repeat' (first | omega | (unfold sb64c; split) | (unfold ad64c) | (unfold ad64s)))), (by have w0_0 := wds_get h0 0; have w0_1 := wds_get h0 1; have w0_2 := wds_get h0 2; have w0_3 := wds_get h0 3; have w1_0 := wds_get h1 0; have w1_1 := wds_get h1 1; have w1_2 := wds_get h1 2; have w1_3 := wds_get h1 3; first | omega | (repeat' (first | omega | (unfold sb64c; split) | (unfold ad64c) | (unfold ad64s)))), (by have w0_0 := wds_get h0 0; have w0_1 := wds_get h0 1; have w0_2 := wds_get h0 2; have w0_3 := wds_get h0 3; have w1_0 := wds_get h1 0; have w1_1 := wds_get h1 1; have w1_2 := wds_get h1 2; have w1_3 := wds_get h1 3; first | omega | (repeat' (first | omega | (unfold sb64c; split) | (unfold ad64c) | (unfold ad64s))))⟩ (aC (dd rfl) (aC (dd rfl) (aC (dd rfl) (aC (dd rfl) (aC rfl (aC (dd rfl) (aC (dd rfl) (aC ⟨(by have w0_0 := wds_get h0 0; have w0_1 := wds_get h0 1; have w0_2 := wds_get h0 2; have w0_3 := wds_get h0 3; have w1_0 := wds_get h1 0; have w1_1 := wds_get h1 1; have w1_2 := wds_get h1 2; have w1_3 := wds_get h1 3; first | omega | (repeat' (first | omega | (unfold sb64c; split) | (unfold ad64c) | (unfold ad64s)))), (by have w0_0 := wds_get h0 0; have w0_1 := wds_get h0 1; have w0_2 := wds_get h0 2; have w0_3 := wds_get h0 3; have w1_0 := wds_get h1 0; have w1_1 := wds_get h1 1; have w1_2 := wds_get h1 2; have w1_3 := wds_get h1 3; first | omega | (repeat' (first | omega | (unfold sb64c; split) | (unfold ad64c) | (unfold ad64s)))), (by have w0_0 := wds_get h0 0; have w0_1 := wds_get h0 1; have w0_2 := wds_get h0 2; have w0_3 := wds_get h0 3; have w1_0 := wds_get h1 0; have w1_1 := wds_get h1 1; have w1_2 := wds_get h1 2; have w1_3 := wds_get h1 3; first | omega | (repeat' (first | omega | (unfold sb64c; split) | (unfold ad64c) | (unfold ad64s)))), (by have w0_0 := wds_get h0 0; have w0_1 := wds_get h0 1; have w0_2 := wds_get h0 2; have w0_3 := wds_get h0 3; have w1_0 := wds_get h1 0; have w1_1 := wds_get h1 1; have w1_2 := wds_get h1 2; have w1_3 := wds_get h1 3; first | omega | (repeat' (first | omega | (unfold sb64c; split) | (unfold ad64c) | (unfold ad64s))))⟩ (aC (dd rfl) (aC (dd rfl) (aC (dd rfl) (aC (dd rfl) (aC rfl (aC (dd rfl) (aC (dd rfl) (aC ⟨(by have w0_0 := wds_get h0 0; have w0_1 := wds_get h0 1; have w0_2 := wds_get h0 2; have w0_3 := wds_get h0 3; have w1_0 := wds_get h1 0; have w1_1 := wds_get h1 1; have w1_2 := wds_get h1 2; have w1_3 := wds_get h1 3; first | omega | (repeat' (first | omega | (unfold sb64c; split) | (unfold ad64c) | (unfold ad64s)))), (by have w0_0 := wds_get h0 0; have w0_1 := wds_get h0 1; have w0_2 := wds_get h0 2; have w0_3 := wds_get h0 3; have w1_0 := wds_get h1 0; have w1_1 := wds_get h1 1; have w1_2 := wds_get h1 2; have w1_3 := wds_get h1 3; first | omega | (repeat' (first | omega | (unfold sb64c; split) | (unfold ad64c) | (unfold ad64s)))), (dd rfl), (dd rfl)⟩ (aC (dd rfl) (aC (dd rfl) (aC (dd rfl) (aC (dd rfl) (aC rfl (AllP_nil)))))))))))))))))))))))))))))))))))

def frm (s : List Int) : List Int :=
 ([(bits2 .or .u64 (bits2 .or .u64 (bits2 .or .u64 (bits2 .or .u64 (bits2 .or .u64 (bits2 .or .u64 (bits2 .or .u64 (bits2 .or .u64 (0 : Int) (shl .u64 (IntKind.u64.wrap (List.getD s 0 0)) (0 : Int))) (shl .u64 (IntKind.u64.wrap (List.getD s 1 0)) (8 : Int))) (shl .u64 (IntKind.u64.wrap (List.getD s 2 0)) (16 : Int))) (shl .u64 (IntKind.u64.wrap (List.getD s 3 0)) (24 : Int))) (shl .u64 (IntKind.u64.wrap (List.getD s 4 0)) (32 : Int))) (shl .u64 (IntKind.u64.wrap (List.getD s 5 0)) (40 : Int))) (shl .u64 (IntKind.u64.wrap (List.getD s 6 0)) (48 : Int))) (shl .u64 (IntKind.u64.wrap (List.getD s 7 0)) (56 : Int))), (bits2 .or .u64 (bits2 .or .u64 (bits2 .or .u64 (bits2 .or .u64 (bits2 .or .u64 (bits2 .or .u64 (bits2 .or .u64 (bits2 .or .u64 (0 : Int) (shl .u64 (IntKind.u64.wrap (List.getD s 8 0)) (0 : Int))) (shl .u64 (IntKind.u64.wrap (List.getD s 9 0)) (8 : Int))) (shl .u64 (IntKind.u64.wrap (List.getD s 10 0)) (16 : Int))) (shl .u64 (IntKind.u64.wrap (List.getD s 11 0)) (24 : Int))) (shl .u64 (IntKind.u64.wrap (List.getD s 12 0)) (32 : Int))) (shl .u64 (IntKind.u64.wrap (List.getD s 13 0)) (40 : Int))) (shl .u64 (IntKind.u64.wrap (List.getD s 14 0)) (48 : Int))) (shl .u64 (IntKind.u64.wrap (List.getD s 15 0)) (56 : Int))), (bits2 .or .u64 (bits2 .or .u64 (bits2 .or .u64 (bits2 .or .u64 (bits2 .or .u64 (bits2 .or .u64 (bits2 .or .u64 (bits2 .or .u64 (0 : Int) (shl .u64 (IntKind.u64.wrap (List.getD s 16 0)) (0 : Int))) (shl .u64 (IntKind.u64.wrap (List.getD s 17 0)) (8 : Int))) (shl .u64 (IntKind.u64.wrap (List.getD s 18 0)) (16 : Int))) (shl .u64 (IntKind.u64.wrap (List.getD s 19 0)) (24 : Int))) (shl .u64 (IntKind.u64.wrap (List.getD s 20 0)) (32 : Int))) (shl .u64 (IntKind.u64.wrap (List.getD s 21 0)) (40 : Int))) (shl .u64 (IntKind.u64.wrap (List.getD s 22 0)) (48 : Int))) (shl .u64 (IntKind.u64.wrap (List.getD s 23 0)) (56 : Int))), (bits2 .or .u64 (bits2 .or .u64 (bits2 .or .u64 (bits2 .or .u64 (bits2 .or .u64 (bits2 .or .u64 (bits2 .or .u64 (bits2 .or .u64 (0 : Int) (shl .u64 (IntKind.u64.wrap (List.getD s 24 0)) (0 : Int))) (shl .u64 (IntKind.u64.wrap (List.getD s 25 0)) (8 : Int))) (shl .u64 (IntKind.u64.wrap (List.getD s 26 0)) (16 : Int))) (shl .u64 (IntKind.u64.wrap (List.getD s 27 0)) (24 : Int))) (shl .u64 (IntKind.u64.wrap (List.getD s 28 0)) (32 : Int))) (shl .u64 (IntKind.u64.wrap (List.getD s 29 0)) (40 : Int))) (shl .u64 (IntKind.u64.wrap (List.getD s 30 0)) (48 : Int))) (shl .u64 (IntKind.u64.wrap (List.getD s 31 0)) (56 : Int)))] : List Int)

theorem frm_body0 (s : List Int) (hv0 : List.length s = 32) (w : World) : Body Tryz.prog (tabOf tabNM) Tryz.f121 ⟨w, [], 0, noEnv⟩ (toA [.g [.ints .u8 32 s]]) [] (fun ys _ => ys = [.g [.ints .u64 4 (frm s)]]) :=
 Body.of_fin (Γ := gv6) (Λ := noLam) (Ψ := noPsi) (fuel := 33) (m := 24) (c := (Tryz.f121.body.getD .skip)) mix tabOkNM gv6_ok rfl (rs := [.cell 2 166]) rfl rfl [true, true, true, true, true, true, true, true, true, true, true, true, true, true, true, true, true, true, true, true, true, true, true, true, true, true, true, true, true, true, true, true, false] []
  (vc := [(false = false), (cN 3 4), (cI 3 4), (cZ 56), ((8 : Int) ≠ 0), (cN 31 32), (cI 31 32), (cN 3 4), (cI 3 4), ((8 : Int) ≠ 0), cT, (cN 3 4), (cI 3 4), (cZ 48), ((8 : Int) ≠ 0), (cN 30 32), (cI 30 32), (cN 3 4), (cI 3 4), ((8 : Int) ≠ 0), cT, (cN 3 4), (cI 3 4), (cZ 40), ((8 : Int) ≠ 0), (cN 29 32), (cI 29 32), (cN 3 4), (cI 3 4), ((8 : Int) ≠ 0), cT, (cN 3 4), (cI 3 4), (cZ 32), ((8 : Int) ≠ 0), (cN 28 32), (cI 28 32), (cN 3 4), (cI 3 4), ((8 : Int) ≠ 0), cT, (cN 3 4), (cI 3 4), (cZ 24), ((8 : Int) ≠ 0), (cN 27 32), (cI 27 32), (cN 3 4), (cI 3 4), ((8 : Int) ≠ 0), cT, (cN 3 4), (cI 3 4), (cZ 16), ((8 : Int) ≠ 0), (cN 26 32), (cI 26 32), (cN 3 4), (cI 3 4), ((8 : Int) ≠ 0), cT, (cN 3 4), (cI 3 4), (cZ 8), ((8 : Int) ≠ 0), (cN 25 32), (cI 25 32), (cN 3 4), (cI 3 4), ((8 : Int) ≠ 0), cT, (cN 3 4), (cI 3 4), (cZ 0), ((8 : Int) ≠ 0), (cN 24 32), (cI 24 32), (cN 3 4), (cI 3 4), ((8 : Int) ≠ 0), cT, (cN 2 4), (cI 2 4), (cZ 56), ((8 : Int) ≠ 0), (cN 23 32), (cI 23 32), (cN 2 4), (cI 2 4), ((8 : Int) ≠ 0), cT, (cN 2 4), (cI 2 4), (cZ 48), ((8 : Int) ≠ 0), (cN 22 32), (cI 22 32), (cN 2 4), (cI 2 4), ((8 : Int) ≠ 0), cT, (cN 2 4), (cI 2 4), (cZ 40), ((8 : Int) ≠ 0), (cN 21 32), (cI 21 32), (cN 2 4), (cI 2 4), ((8 : Int) ≠ 0), cT, (cN 2 4), (cI 2 4), (cZ 32), ((8 : Int) ≠ 0), (cN 20 32), (cI 20 32), (cN 2 4), (cI 2 4), ((8 : Int) ≠ 0), cT, (cN 2 4), (cI 2 4), (cZ 24), ((8 : Int) ≠ 0), (cN 19 32), (cI 19 32), (cN 2 4), (cI 2 4), ((8 : Int) ≠ 0), cT, (cN 2 4), (cI 2 4), (cZ 16), ((8 : Int) ≠ 0), (cN 18 32), (cI 18 32), (cN 2 4), (cI 2 4), ((8 : Int) ≠ 0), cT, (cN 2 4), (cI 2 4), (cZ 8), ((8 : Int) ≠ 0), (cN 17 32), (cI 17 32), (cN 2 4), (cI 2 4), ((8 : Int) ≠ 0), cT, (cN 2 4), (cI 2 4), (cZ 0), ((8 : Int) ≠ 0), (cN 16 32), (cI 16 32), (cN 2 4), (cI 2 4), ((8 : Int) ≠ 0), cT, (cN 1 4), (cI 1 4), (cZ 56), ((8 : Int) ≠ 0), (cN 15 32), (cI 15 32), (cN 1 4), (cI 1 4), ((8 : Int) ≠ 0), cT, (cN 1 4), (cI 1 4), (cZ 48), ((8 : Int) ≠ 0), (cN 14 32), (cI 14 32), (cN 1 4), (cI 1 4), ((8 : Int) ≠ 0), cT, (cN 1 4), (cI 1 4), (cZ 40), ((8 : Int) ≠ 0), (cN 13 32), (cI 13 32), (cN 1 4), (cI 1 4), ((8 : Int) ≠ 0), cT, (cN 1 4), (cI 1 4), (cZ 32), ((8 : Int) ≠ 0), (cN 12 32), (cI 12 32), (cN 1 4), (cI 1 4), ((8 : Int) ≠ 0), cT, (cN 1 4), (cI 1 4), (cZ 24), ((8 : Int) ≠ 0), (cN 11 32), (cI 11 32), (cN 1 4), (cI 1 4), ((8 : Int) ≠ 0), cT, (cN 1 4), (cI 1 4), (cZ 16), ((8 : Int) ≠ 0), (cN 10 32), (cI 10 32), (cN 1 4), (cI 1 4), ((8 : Int) ≠ 0), cT, (cN 1 4), (cI 1 4), (cZ 8), ((8 : Int) ≠ 0), (cN 9 32), (cI 9 32), (cN 1 4), (cI 1 4), ((8 : Int) ≠ 0), cT, (cN 1 4), (cI 1 4), (cZ 0), ((8 : Int) ≠ 0), (cN 8 32), (cI 8 32), (cN 1 4), (cI 1 4), ((8 : Int) ≠ 0), cT, (cN 0 4), (cI 0 4), (cZ 56), ((8 : Int) ≠ 0), (cN 7 32), (cI 7 32), (cN 0 4), (cI 0 4), ((8 : Int) ≠ 0), cT, (cN 0 4), (cI 0 4), (cZ 48), ((8 : Int) ≠ 0), (cN 6 32), (cI 6 32), (cN 0 4), (cI 0 4), ((8 : Int) ≠ 0), cT, (cN 0 4), (cI 0 4), (cZ 40), ((8 : Int) ≠ 0), (cN 5 32), (cI 5 32), (cN 0 4), (cI 0 4), ((8 : Int) ≠ 0), cT, (cN 0 4), (cI 0 4), (cZ 32), ((8 : Int) ≠ 0), (cN 4 32), (cI 4 32), (cN 0 4), (cI 0 4), ((8 : Int) ≠ 0), cT, (cN 0 4), (cI 0 4), (cZ 24), ((8 : Int) ≠ 0), (cN 3 32), (cI 3 32), (cN 0 4), (cI 0 4), ((8 : Int) ≠ 0), cT, (cN 0 4), (cI 0 4), (cZ 16), ((8 : Int) ≠ 0), (cN 2 32), (cI 2 32), (cN 0 4), (cI 0 4), ((8 : Int) ≠ 0), cT, (cN 0 4), (cI 0 4), (cZ 8), ((8 : Int) ≠ 0), (cN 1 32), (cI 1 32), (cN 0 4), (cI 0 4), ((8 : Int) ≠ 0), cT, (cN 0 4), (cI 0 4), (cZ 0), ((8 : Int) ≠ 0), (cN 0 32), (cI 0 32), (cN 0 4), (cI 0 4), ((8 : Int) ≠ 0), cT]) (by kernel_rfl)
  (aC rfl (aC (dd rfl) (aC (dd rfl) (aC (dd rfl) (aC (dd rfl) (aC (dd rfl) (aC (dd rfl) (aC (dd rfl) (aC (dd rfl) (aC (dd rfl) (aC rfl (aC (dd rfl) (aC (dd rfl) (aC (dd rfl) (aC (dd rfl) (aC (dd rfl) (aC (dd rfl) (aC (dd rfl) (aC (dd rfl) (aC (dd rfl) (aC rfl (aC (dd rfl) (aC (dd rfl) (aC (dd rfl) (aC (dd rfl) (aC (dd rfl) (aC (dd rfl) (aC (dd rfl) (aC (dd rfl) (aC (dd rfl) (aC rfl (aC (dd rfl) (aC (dd rfl) (aC (dd rfl) (aC (dd rfl) (aC (dd rfl) (aC (dd rfl) (aC (dd rfl) (aC (dd rfl) (aC (dd rfl) (aC rfl (aC (dd rfl) (aC (dd rfl) (aC (dd rfl) (aC (dd rfl) (aC (dd rfl) (aC (dd rfl) (aC (dd rfl) (aC (dd rfl) (aC (dd rfl) (aC rfl (aC (dd rfl) (aC (dd rfl) (aC (dd rfl) (aC (dd rfl) (aC (dd rfl) (aC (dd rfl) (aC (dd rfl) (aC (dd rfl) (aC (dd rfl) (aC rfl (aC (dd rfl) (aC (dd rfl) (aC (dd rfl) (aC (dd rfl) (aC (dd rfl) (aC (dd rfl) (aC (dd rfl) (aC (dd rfl) (aC (dd rfl) (aC rfl (aC (dd rfl) (aC (dd rfl) (aC (dd rfl) (aC (dd rfl) (aC (dd rfl) (aC (dd rfl) (aC (dd rfl) (aC (dd rfl) (aC (dd rfl) (aC rfl (aC (dd rfl) (aC (dd rfl) (aC (dd rfl) (aC (dd rfl) (aC (dd rfl) (aC (dd rfl) (aC (dd rfl) (aC (dd rfl) (aC (dd rfl) (aC rfl (aC (dd rfl) (aC (dd rfl) (aC (dd rfl) (aC (dd rfl) (aC (dd rfl) (aC (dd rfl) (aC (dd rfl) (aC (dd rfl) (aC (dd rfl) (aC rfl (aC (dd rfl) (aC (dd rfl) (aC (dd rfl) (aC (dd rfl) (aC (dd rfl) (aC (dd rfl) (aC (dd rfl) (aC (dd rfl) (aC (dd rfl) (aC rfl (aC (dd rfl) (aC (dd rfl) (aC (dd rfl) (aC (dd rfl) (aC (dd rfl) (aC (dd rfl) (aC (dd rfl) (aC (dd rfl) (aC (dd rfl) (aC rfl (aC (dd rfl) (aC (dd rfl) (aC (dd rfl) (aC (dd rfl) (aC (dd rfl) (aC (dd rfl) (aC (dd rfl) (aC (dd rfl) (aC (dd rfl) (aC rfl (aC (dd rfl) (aC (dd rfl) (aC (dd rfl) (aC (dd rfl) (aC (dd rfl) (aC (dd rfl) (aC (dd rfl) (aC (dd rfl) (aC (dd rfl) (aC rfl (aC (dd rfl) (aC (dd rfl) (aC (dd rfl) (aC (dd rfl) (aC (dd rfl) (aC (dd rfl) (aC (dd rfl) (aC (dd rfl) (aC (dd rfl) (aC rfl (aC (dd rfl) (aC (dd rfl) (aC (dd rfl) (aC (dd rfl) (aC (dd rfl) (aC (dd rfl) (aC (dd rfl) (aC (dd rfl) (aC (dd rfl) (aC rfl (aC (dd rfl) (aC (dd rfl) (aC (dd rfl) (aC (dd rfl) (aC (dd rfl) (aC (dd rfl) (aC (dd rfl) (aC (dd rfl) (aC (dd rfl) (aC rfl (aC (dd rfl) (aC (dd rfl) (aC (dd rfl) (aC (dd rfl) (aC (dd rfl) (aC (dd rfl) (aC (dd rfl) (aC (dd rfl) (aC (dd rfl) (aC rfl (aC (dd rfl) (aC (dd rfl) (aC (dd rfl) (aC (dd rfl) (aC (dd rfl) (aC (dd rfl) (aC (dd rfl) (aC (dd rfl) (aC (dd rfl) (aC rfl (aC (dd rfl) (aC (dd rfl) (aC (dd rfl) (aC (dd rfl) (aC (dd rfl) (aC (dd rfl) (aC (dd rfl) (aC (dd rfl) (aC (dd rfl) (aC rfl (aC (dd rfl) (aC (dd rfl) (aC (dd rfl) (aC (dd rfl) (aC (dd rfl) (aC (dd rfl) (aC (dd rfl) (aC (dd rfl) (aC (dd rfl) (aC rfl (aC (dd rfl) (aC (dd rfl) (aC (dd rfl) (aC (dd rfl) (aC (dd rfl) (aC (dd rfl) (aC (dd rfl) (aC (dd rfl) (aC (dd rfl) (aC rfl (aC (dd rfl) (aC (dd rfl) (aC (dd rfl) (aC (dd rfl) (aC (dd rfl) (aC (dd rfl) (aC (dd rfl) (aC (dd rfl) (aC (dd rfl) (aC rfl (aC (dd rfl) (aC (dd rfl) (aC (dd rfl) (aC (dd rfl) (aC (dd rfl) (aC (dd rfl) (aC (dd rfl) (aC (dd rfl) (aC (dd rfl) (aC rfl (aC (dd rfl) (aC (dd rfl) (aC (dd rfl) (aC (dd rfl) (aC (dd rfl) (aC (dd rfl) (aC (dd rfl) (aC (dd rfl) (aC (dd rfl) (aC rfl (aC (dd rfl) (aC (dd rfl) (aC (dd rfl) (aC (dd rfl) (aC (dd rfl) (aC (dd rfl) (aC (dd rfl) (aC (dd rfl) (aC (dd rfl) (aC rfl (aC (dd rfl) (aC (dd rfl) (aC (dd rfl) (aC (dd rfl) (aC (dd rfl) (aC (dd rfl) (aC (dd rfl) (aC (dd rfl) (aC (dd rfl) (aC rfl (aC (dd rfl) (aC (dd rfl) (aC (dd rfl) (aC (dd rfl) (aC (dd rfl) (aC (dd rfl) (aC (dd rfl) (aC (dd rfl) (aC (dd rfl) (aC rfl (aC (dd rfl) (aC (dd rfl) (aC (dd rfl) (aC (dd rfl) (aC (dd rfl) (aC (dd rfl) (aC (dd rfl) (aC (dd rfl) (aC (dd rfl) (aC rfl (aC (dd rfl) (aC (dd rfl) (aC (dd rfl) (aC (dd rfl) (aC (dd rfl) (aC (dd rfl) (aC (dd rfl) (aC (dd rfl) (aC (dd rfl) (aC rfl (aC (dd rfl) (aC (dd rfl) (aC (dd rfl) (aC (dd rfl) (aC (dd rfl) (aC (dd rfl) (aC (dd rfl) (aC (dd rfl) (aC (dd rfl) (aC rfl (aC (dd rfl) (aC (dd rfl) (aC (dd rfl) (aC (dd rfl) (aC (dd rfl) (aC (dd rfl) (aC (dd rfl) (aC (dd rfl) (aC (dd rfl) (aC rfl (AllP_nil))))))))))))))))))))))))))))))))))))))))))))))))))))))))))))))))))))))))))))))))))))))))))))))))))))))))))))))))))))))))))))))))))))))))))))))))))))))))))))))))))))))))))))))))))))))))))))))))))))))))))))))))))))))))))))))))))))))))))))))))))))))))))))))))))))))))))))))))))))))))))))))))))))))))))))))))))))))))))))))))))

def bck (S : List Int) : List Int :=
 ([(IntKind.u8.wrap (shr .u64 (List.getD S 0 0) (0 : Int))), (IntKind.u8.wrap (shr .u64 (List.getD S 0 0) (8 : Int))), (IntKind.u8.wrap (shr .u64 (List.getD S 0 0) (16 : Int))), (IntKind.u8.wrap (shr .u64 (List.getD S 0 0) (24 : Int))), (IntKind.u8.wrap (shr .u64 (List.getD S 0 0) (32 : Int))), (IntKind.u8.wrap (shr .u64 (List.getD S 0 0) (40 : Int))), (IntKind.u8.wrap (shr .u64 (List.getD S 0 0) (48 : Int))), (IntKind.u8.wrap (shr .u64 (List.getD S 0 0) (56 : Int))), (IntKind.u8.wrap (shr .u64 (List.getD S 1 0) (0 : Int))), (IntKind.u8.wrap (shr .u64 (List.getD S 1 0) (8 : Int))), (IntKind.u8.wrap (shr .u64 (List.getD S 1 0) (16 : Int))), (IntKind.u8.wrap (shr .u64 (List.getD S 1 0) (24 : Int))), (IntKind.u8.wrap (shr .u64 (List.getD S 1 0) (32 : Int))), (IntKind.u8.wrap (shr .u64 (List.getD S 1 0) (40 : Int))), (IntKind.u8.wrap (shr .u64 (List.getD S 1 0) (48 : Int))), (IntKind.u8.wrap (shr .u64 (List.getD S 1 0) (56 : Int))), (IntKind.u8.wrap (shr .u64 (List.getD S 2 0) (0 : Int))), (IntKind.u8.wrap (shr .u64 (List.getD S 2 0) (8 : Int))), (IntKind.u8.wrap (shr .u64 (List.getD S 2 0) (16 : Int))), (IntKind.u8.wrap (shr .u64 (List.getD S 2 0) (24 : Int))), (IntKind.u8.wrap (shr .u64 (List.getD S 2 0) (32 : Int))), (IntKind.u8.wrap (shr .u64 (List.getD S 2 0) (40 : Int))), (IntKind.u8.wrap (shr .u64 (List.getD S 2 0) (48 : Int))), (IntKind.u8.wrap (shr .u64 (List.getD S 2 0) (56 : Int))), (IntKind.u8.wrap (shr .u64 (List.getD S 3 0) (0 : Int))), (IntKind.u8.wrap (shr .u64 (List.getD S 3 0) (8 : Int))), (IntKind.u8.wrap (shr .u64 (List.getD S 3 0) (16 : Int))), (IntKind.u8.wrap (shr .u64 (List.getD S 3 0) (24 : Int))), (IntKind.u8.wrap (shr .u64 (List.getD S 3 0) (32 : Int))), (IntKind.u8.wrap (shr .u64 (List.getD S 3 0) (40 : Int))), (IntKind.u8.wrap (shr .u64 (List.getD S 3 0) (48 : Int))), (IntKind.u8.wrap (shr .u64 (List.getD S 3 0) (56 : Int)))] : List Int)

theorem bck_body0 (S : List Int) (hv0 : List.length S = 4) (w : World) : Body Tryz.prog (tabOf tabNM) Tryz.f92 ⟨w, [], 0, noEnv⟩ (toA [.g [.ints .u64 4 S]]) [] (fun ys _ => ys = [.g [.ints .u8 32 (bck S)]]) :=
 Body.of_fin (Γ := gv6) (Λ := noLam) (Ψ := noPsi) (fuel := 33) (m := 21) (c := (Tryz.f92.body.getD .skip)) mix tabOkNM gv6_ok rfl (rs := [.cell 2 77]) rfl rfl [true, true, true, true, true, true, true, true, true, true, true, true, true, true, true, true, true, true, true, true, true, true, true, true, true, true, true, true, true, true, true, true, false] []
  (vc := [(false = false), (cN 31 32), (cI 31 32), (cZ 56), ((8 : Int) ≠ 0), (cN 3 4), (cI 3 4), ((8 : Int) ≠ 0), cT, (cN 30 32), (cI 30 32), (cZ 48), ((8 : Int) ≠ 0), (cN 3 4), (cI 3 4), ((8 : Int) ≠ 0), cT, (cN 29 32), (cI 29 32), (cZ 40), ((8 : Int) ≠ 0), (cN 3 4), (cI 3 4), ((8 : Int) ≠ 0), cT, (cN 28 32), (cI 28 32), (cZ 32), ((8 : Int) ≠ 0), (cN 3 4), (cI 3 4), ((8 : Int) ≠ 0), cT, (cN 27 32), (cI 27 32), (cZ 24), ((8 : Int) ≠ 0), (cN 3 4), (cI 3 4), ((8 : Int) ≠ 0), cT, (cN 26 32), (cI 26 32), (cZ 16), ((8 : Int) ≠ 0), (cN 3 4), (cI 3 4), ((8 : Int) ≠ 0), cT, (cN 25 32), (cI 25 32), (cZ 8), ((8 : Int) ≠ 0), (cN 3 4), (cI 3 4), ((8 : Int) ≠ 0), cT, (cN 24 32), (cI 24 32), (cZ 0), ((8 : Int) ≠ 0), (cN 3 4), (cI 3 4), ((8 : Int) ≠ 0), cT, (cN 23 32), (cI 23 32), (cZ 56), ((8 : Int) ≠ 0), (cN 2 4), (cI 2 4), ((8 : Int) ≠ 0), cT, (cN 22 32), (cI 22 32), (cZ 48), ((8 : Int) ≠ 0), (cN 2 4), (cI 2 4), ((8 : Int) ≠ 0), cT, (cN 21 32), (cI 21 32), (cZ 40), ((8 : Int) ≠ 0), (cN 2 4), (cI 2 4), ((8 : Int) ≠ 0), cT, (cN 20 32), (cI 20 32), (cZ 32), ((8 : Int) ≠ 0), (cN 2 4), (cI 2 4), ((8 : Int) ≠ 0), cT, (cN 19 32), (cI 19 32), (cZ 24), ((8 : Int) ≠ 0), (cN 2 4), (cI 2 4), ((8 : Int) ≠ 0), cT, (cN 18 32), (cI 18 32), (cZ 16), ((8 : Int) ≠ 0), (cN 2 4), (cI 2 4), ((8 : Int) ≠ 0), cT, (cN 17 32), (cI 17 32), (cZ 8), ((8 : Int) ≠ 0), (cN 2 4), (cI 2 4), ((8 : Int) ≠ 0), cT, (cN 16 32), (cI 16 32), (cZ 0), ((8 : Int) ≠ 0), (cN 2 4), (cI 2 4), ((8 : Int) ≠ 0), cT, (cN 15 32), (cI 15 32), (cZ 56), ((8 : Int) ≠ 0), (cN 1 4), (cI 1 4), ((8 : Int) ≠ 0), cT, (cN 14 32), (cI 14 32), (cZ 48), ((8 : Int) ≠ 0), (cN 1 4), (cI 1 4), ((8 : Int) ≠ 0), cT, (cN 13 32), (cI 13 32), (cZ 40), ((8 : Int) ≠ 0), (cN 1 4), (cI 1 4), ((8 : Int) ≠ 0), cT, (cN 12 32), (cI 12 32), (cZ 32), ((8 : Int) ≠ 0), (cN 1 4), (cI 1 4), ((8 : Int) ≠ 0), cT, (cN 11 32), (cI 11 32), (cZ 24), ((8 : Int) ≠ 0), (cN 1 4), (cI 1 4), ((8 : Int) ≠ 0), cT, (cN 10 32), (cI 10 32), (cZ 16), ((8 : Int) ≠ 0), (cN 1 4), (cI 1 4), ((8 : Int) ≠ 0), cT, (cN 9 32), (cI 9 32), (cZ 8), ((8 : Int) ≠ 0), (cN 1 4), (cI 1 4), ((8 : Int) ≠ 0), cT, (cN 8 32), (cI 8 32), (cZ 0), ((8 : Int) ≠ 0), (cN 1 4), (cI 1 4), ((8 : Int) ≠ 0), cT, (cN 7 32), (cI 7 32), (cZ 56), ((8 : Int) ≠ 0), (cN 0 4), (cI 0 4), ((8 : Int) ≠ 0), cT, (cN 6 32), (cI 6 32), (cZ 48), ((8 : Int) ≠ 0), (cN 0 4), (cI 0 4), ((8 : Int) ≠ 0), cT, (cN 5 32), (cI 5 32), (cZ 40), ((8 : Int) ≠ 0), (cN 0 4), (cI 0 4), ((8 : Int) ≠ 0), cT, (cN 4 32), (cI 4 32), (cZ 32), ((8 : Int) ≠ 0), (cN 0 4), (cI 0 4), ((8 : Int) ≠ 0), cT, (cN 3 32), (cI 3 32), (cZ 24), ((8 : Int) ≠ 0), (cN 0 4), (cI 0 4), ((8 : Int) ≠ 0), cT, (cN 2 32), (cI 2 32), (cZ 16), ((8 : Int) ≠ 0), (cN 0 4), (cI 0 4), ((8 : Int) ≠ 0), cT, (cN 1 32), (cI 1 32), (cZ 8), ((8 : Int) ≠ 0), (cN 0 4), (cI 0 4), ((8 : Int) ≠ 0), cT, (cN 0 32), (cI 0 32), (cZ 0), ((8 : Int) ≠ 0), (cN 0 4), (cI 0 4), ((8 : Int) ≠ 0), cT]) (by kernel_rfl)
  (aC rfl (aC (dd rfl) (aC (dd rfl) (aC (dd rfl) (aC (dd rfl) (aC (dd rfl) (aC (dd rfl) (aC (dd rfl) (aC rfl (aC (dd rfl) (aC (dd rfl) (aC (dd rfl) (aC (dd rfl) (aC (dd rfl) (aC (dd rfl) (aC (dd rfl) (aC rfl (aC (dd rfl) (aC (dd rfl) (aC (dd rfl) (aC (dd rfl) (aC (dd rfl) (aC (dd rfl) (aC (dd rfl) (aC rfl (aC (dd rfl) (aC (dd rfl) (aC (dd rfl) (aC (dd rfl) (aC (dd rfl) (aC (dd rfl) (aC (dd rfl) (aC rfl (aC (dd rfl) (aC (dd rfl) (aC (dd rfl) (aC (dd rfl) (aC (dd rfl) (aC (dd rfl) (aC (dd rfl) (aC rfl (aC (dd rfl) (aC (dd rfl) (aC (dd rfl) (aC (dd rfl) (aC (dd rfl) (aC (dd rfl) (aC (dd rfl) (aC rfl (aC (dd rfl) (aC (dd rfl) (aC (dd rfl) (aC (dd rfl) (aC (dd rfl) (aC (dd rfl) (aC (dd rfl) (aC rfl (aC (dd rfl) (aC (dd rfl) (aC (dd rfl) (aC (dd rfl) (aC (dd rfl) (aC (dd rfl) (aC (dd rfl) (aC rfl (aC (dd rfl) (aC (dd rfl) (aC (dd rfl) (aC (dd rfl) (aC (dd rfl) (aC (dd rfl) (aC (dd rfl) (aC rfl (aC (dd rfl) (aC (dd rfl) (aC (dd rfl) (aC (dd rfl) (aC (dd rfl) (aC (dd rfl) (aC (dd rfl) (aC rfl (aC (dd rfl) (aC (dd rfl) (aC (dd rfl) (aC (dd rfl) (aC (dd rfl) (aC (dd rfl) (aC (dd rfl) (aC rfl (aC (dd rfl) (aC (dd rfl) (aC (dd rfl) (aC (dd rfl) (aC (dd rfl) (aC (dd rfl) (aC (dd rfl) (aC rfl (aC (dd rfl) (aC (dd rfl) (aC (dd rfl) (aC (dd rfl) (aC (dd rfl) (aC (dd rfl) (aC (dd rfl) (aC rfl (aC (dd rfl) (aC (dd rfl) (aC (dd rfl) (aC (dd rfl) (aC (dd rfl) (aC (dd rfl) (aC (dd rfl) (aC rfl (aC (dd rfl) (aC (dd rfl) (aC (dd rfl) (aC (dd rfl) (aC (dd rfl) (aC (dd rfl) (aC (dd rfl) (aC rfl (aC (dd rfl) (aC (dd rfl) (aC (dd rfl) (aC (dd rfl) (aC (dd rfl) (aC (dd rfl) (aC (dd rfl) (aC rfl (aC (dd rfl) (aC (dd rfl) (aC (dd rfl) (aC (dd rfl) (aC (dd rfl) (aC (dd rfl) (aC (dd rfl) (aC rfl (aC (dd rfl) (aC (dd rfl) (aC (dd rfl) (aC (dd rfl) (aC (dd rfl) (aC (dd rfl) (aC (dd rfl) (aC rfl (aC (dd rfl) (aC (dd rfl) (aC (dd rfl) (aC (dd rfl) (aC (dd rfl) (aC (dd rfl) (aC (dd rfl) (aC rfl (aC (dd rfl) (aC (dd rfl) (aC (dd rfl) (aC (dd rfl) (aC (dd rfl) (aC (dd rfl) (aC (dd rfl) (aC rfl (aC (dd rfl) (aC (dd rfl) (aC (dd rfl) (aC (dd rfl) (aC (dd rfl) (aC (dd rfl) (aC (dd rfl) (aC rfl (aC (dd rfl) (aC (dd rfl) (aC (dd rfl) (aC (dd rfl) (aC (dd rfl) (aC (dd rfl) (aC (dd rfl) (aC rfl (aC (dd rfl) (aC (dd rfl) (aC (dd rfl) (aC (dd rfl) (aC (dd rfl) (aC (dd rfl) (aC (dd rfl) (aC rfl (aC (dd rfl) (aC (dd rfl) (aC (dd rfl) (aC (dd rfl) (aC (dd rfl) (aC (dd rfl) (aC (dd rfl) (aC rfl (aC (dd rfl) (aC (dd rfl) (aC (dd rfl) (aC (dd rfl) (aC (dd rfl) (aC (dd rfl) (aC (dd rfl) (aC rfl (aC (dd rfl) (aC (dd rfl) (aC (dd rfl) (aC (dd rfl) (aC (dd rfl) (aC (dd rfl) (aC (dd rfl) (aC rfl (aC (dd rfl) (aC (dd rfl) (aC (dd rfl) (aC (dd rfl) (aC (dd rfl) (aC (dd rfl) (aC (dd rfl) (aC rfl (aC (dd rfl) (aC (dd rfl) (aC (dd rfl) (aC (dd rfl) (aC (dd rfl) (aC (dd rfl) (aC (dd rfl) (aC rfl (aC (dd rfl) (aC (dd rfl) (aC (dd rfl) (aC (dd rfl) (aC (dd rfl) (aC (dd rfl) (aC (dd rfl) (aC rfl (aC (dd rfl) (aC (dd rfl) (aC (dd rfl) (aC (dd rfl) (aC (dd rfl) (aC (dd rfl) (aC (dd rfl) (aC rfl (aC (dd rfl) (aC (dd rfl) (aC (dd rfl) (aC (dd rfl) (aC (dd rfl) (aC (dd rfl) (aC (dd rfl) (aC rfl (aC (dd rfl) (aC (dd rfl) (aC (dd rfl) (aC (dd rfl) (aC (dd rfl) (aC (dd rfl) (aC (dd rfl) (aC rfl (AllP_nil))))))))))))))))))))))))))))))))))))))))))))))))))))))))))))))))))))))))))))))))))))))))))))))))))))))))))))))))))))))))))))))))))))))))))))))))))))))))))))))))))))))))))))))))))))))))))))))))))))))))))))))))))))))))))))))))))))))))))))))))))))))))))))))))))

end Go.Proofs.YtjmfnjgcofpocaaGreat.X.V

/- Bytes of a number and numbers of bytes; sums. -/
namespace Go.Proofs.YtjmfnjgcofpocaaGreat.X.V
open Go Go.Proofs
set_option linter.unusedVariables false

theorem wrap8 (x : Int) : IntKind.u8.wrap x = x % 256 := by
 show (let m := x % (256 : Int); if (false && decide (m ≥ (128 : Int))) = true then m - 256 else m) = x % 256
 simp only [Bool.false_and, Bool.false_eq_true, if_false]
theorem shr_0 (x : Int) : shr .u64 x 0 = x / 1 := by
 have e : shr .u64 x 0 = x.fdiv 1 := rfl
 rw [e, Int.fdiv_eq_ediv_of_nonneg _ (by omega)]
theorem shr_8 (x : Int) : shr .u64 x 8 = x / 256 := by
 have e : shr .u64 x 8 = x.fdiv 256 := rfl
 rw [e, Int.fdiv_eq_ediv_of_nonneg _ (by omega)]
theorem shr_16 (x : Int) : shr .u64 x 16 = x / 65536 := by
 have e : shr .u64 x 16 = x.fdiv 65536 := rfl
 rw [e, Int.fdiv_eq_ediv_of_nonneg _ (by omega)]
theorem shr_24 (x : Int) : shr .u64 x 24 = x / 16777216 := by
 have e : shr .u64 x 24 = x.fdiv 16777216 := rfl
 rw [e, Int.fdiv_eq_ediv_of_nonneg _ (by omega)]
theorem shr_32 (x : Int) : shr .u64 x 32 = x / 4294967296 := by
 have e : shr .u64 x 32 = x.fdiv 4294967296 := rfl
 rw [e, Int.fdiv_eq_ediv_of_nonneg _ (by omega)]
theorem shr_40 (x : Int) : shr .u64 x 40 = x / 1099511627776 := by
 have e : shr .u64 x 40 = x.fdiv 1099511627776 := rfl
 rw [e, Int.fdiv_eq_ediv_of_nonneg _ (by omega)]
theorem shr_48 (x : Int) : shr .u64 x 48 = x / 281474976710656 := by
 have e : shr .u64 x 48 = x.fdiv 281474976710656 := rfl
 rw [e, Int.fdiv_eq_ediv_of_nonneg _ (by omega)]
theorem shr_56 (x : Int) : shr .u64 x 56 = x / 72057594037927936 := by
 have e : shr .u64 x 56 = x.fdiv 72057594037927936 := rfl
 rw [e, Int.fdiv_eq_ediv_of_nonneg _ (by omega)]

theorem or_shl {a b : Int} {n : Nat} (hn : n ≤ 56) (h0 : 0 ≤ a) (h1 : a < ((2 ^ n : Nat) : Int)) (b0 : 0 ≤ b) (b1 : b < 256) : bits2 .or .u64 a (shl .u64 (IntKind.u64.wrap b) (n : Int)) = a + b * ((2 ^ n : Nat) : Int) := by
 obtain ⟨x, rfl⟩ := Int.eq_ofNat_of_zero_le h0
 obtain ⟨y, rfl⟩ := Int.eq_ofNat_of_zero_le b0
 have hx : x < 2 ^ n := by omega
 have hy : y < 256 := by omega
 have hp : 2 ^ n ≤ 2 ^ 56 := Nat.pow_le_pow_right (by omega) hn
 have hp0 : 0 < 2 ^ n := Nat.pow_pos (by omega)
 have hyp : y * 2 ^ n ≤ 255 * 2 ^ 56 := Nat.mul_le_mul (by omega) hp
 have e1 : shl .u64 (IntKind.u64.wrap (y : Int)) (n : Int) = ((y * 2 ^ n : Nat) : Int) := by
  have : shl .u64 (IntKind.u64.wrap (y : Int)) (n : Int) = IntKind.u64.wrap (IntKind.u64.wrap (y : Int) * 2 ^ (min n 64)) := rfl
  rw [this, Nat.min_eq_left (by omega), wrap64 (y : Int), Int.emod_eq_of_lt (by omega) (by omega), wrap64]
  have e : (y : Int) * 2 ^ n = ((y * 2 ^ n : Nat) : Int) := by rw [Int.natCast_mul, Int.natCast_pow]; rfl
  rw [e]
  exact Int.emod_eq_of_lt (by omega) (by omega)
 rw [e1]
 have e : bits2 .or .u64 ((x : Nat) : Int) ((y * 2 ^ n : Nat) : Int) = IntKind.u64.wrap (((BitVec.ofInt 64 ((x : Nat) : Int) ||| BitVec.ofInt 64 ((y * 2 ^ n : Nat) : Int)).toNat : Nat) : Int) := rfl
 have t : ∀ m : Nat, m < 18446744073709551616 → (BitVec.ofInt 64 (m : Int)).toNat = m := by
  intro m hm
  rw [BitVec.toNat_ofInt]
  show ((m : Int) % 18446744073709551616).toNat = m
  omega
 rw [e, BitVec.toNat_or, t x (by omega), t (y * 2 ^ n) (by omega), Nat.or_comm, Nat.mul_comm y, ← Nat.two_pow_add_eq_or_of_lt hx, wrap64]
 have : ((2 ^ n * y + x : Nat) : Int) % 18446744073709551616 = ((2 ^ n * y + x : Nat) : Int) := Int.emod_eq_of_lt (by omega) (by rw [Nat.mul_comm]; omega)
 rw [this, Int.natCast_add, Int.natCast_mul, Int.add_comm, Int.mul_comm]

def Byt (s : List Int) : Prop := ∀ x ∈ s, 0 ≤ x ∧ x < 256
theorem byt_get {s : List Int} (h : Byt s) (i : Nat) : 0 ≤ List.getD s i 0 ∧ List.getD s i 0 < 256 := by
 rw [List.getD_eq_getElem?_getD]
 by_cases hi : i < s.length
 ·rw [List.getElem?_eq_getElem hi]; exact h _ (List.getElem_mem hi)
 ·rw [List.getElem?_eq_none (by omega)]; simp

theorem word8 {b0 b1 b2 b3 b4 b5 b6 b7 : Int} (h0 : 0 ≤ b0 ∧ b0 < 256) (h1 : 0 ≤ b1 ∧ b1 < 256) (h2 : 0 ≤ b2 ∧ b2 < 256) (h3 : 0 ≤ b3 ∧ b3 < 256) (h4 : 0 ≤ b4 ∧ b4 < 256) (h5 : 0 ≤ b5 ∧ b5 < 256) (h6 : 0 ≤ b6 ∧ b6 < 256) (h7 : 0 ≤ b7 ∧ b7 < 256) : (bits2 .or .u64 (bits2 .or .u64 (bits2 .or .u64 (bits2 .or .u64 (bits2 .or .u64 (bits2 .or .u64 (bits2 .or .u64 (bits2 .or .u64 (0 : Int) (shl .u64 (IntKind.u64.wrap b0) (0 : Int))) (shl .u64 (IntKind.u64.wrap b1) (8 : Int))) (shl .u64 (IntKind.u64.wrap b2) (16 : Int))) (shl .u64 (IntKind.u64.wrap b3) (24 : Int))) (shl .u64 (IntKind.u64.wrap b4) (32 : Int))) (shl .u64 (IntKind.u64.wrap b5) (40 : Int))) (shl .u64 (IntKind.u64.wrap b6) (48 : Int))) (shl .u64 (IntKind.u64.wrap b7) (56 : Int))) = b0 + 256 * b1 + 65536 * b2 + 16777216 * b3 + 4294967296 * b4 + 1099511627776 * b5 + 281474976710656 * b6 + 72057594037927936 * b7 := by
 have e0 : bits2 .or .u64 ((0 : Int)) (shl .u64 (IntKind.u64.wrap b0) (0 : Int)) = b0 := by
  have q := or_shl (a := (0 : Int)) (b := b0) (n := 0) (by omega) (by omega) (show _ < (1 : Int) by omega) h0.1 h0.2
  have q : bits2 .or .u64 ((0 : Int)) (shl .u64 (IntKind.u64.wrap b0) (0 : Int)) = ((0 : Int)) + b0 * 1 := q
  rw [q]; omega
 have e1 : bits2 .or .u64 (b0) (shl .u64 (IntKind.u64.wrap b1) (8 : Int)) = b0 + 256 * b1 := by
  have q := or_shl (a := b0) (b := b1) (n := 8) (by omega) (by omega) (show _ < (256 : Int) by omega) h1.1 h1.2
  have q : bits2 .or .u64 (b0) (shl .u64 (IntKind.u64.wrap b1) (8 : Int)) = (b0) + b1 * 256 := q
  rw [q]; omega
 have e2 : bits2 .or .u64 (b0 + 256 * b1) (shl .u64 (IntKind.u64.wrap b2) (16 : Int)) = b0 + 256 * b1 + 65536 * b2 := by
  have q := or_shl (a := b0 + 256 * b1) (b := b2) (n := 16) (by omega) (by omega) (show _ < (65536 : Int) by omega) h2.1 h2.2
  have q : bits2 .or .u64 (b0 + 256 * b1) (shl .u64 (IntKind.u64.wrap b2) (16 : Int)) = (b0 + 256 * b1) + b2 * 65536 := q
  rw [q]; omega
 have e3 : bits2 .or .u64 (b0 + 256 * b1 + 65536 * b2) (shl .u64 (IntKind.u64.wrap b3) (24 : Int)) = b0 + 256 * b1 + 65536 * b2 + 16777216 * b3 := by
  have q := or_shl (a := b0 + 256 * b1 + 65536 * b2) (b := b3) (n := 24) (by omega) (by omega) (show _ < (16777216 : Int) by omega) h3.1 h3.2
  have q : bits2 .or .u64 (b0 + 256 * b1 + 65536 * b2) (shl .u64 (IntKind.u64.wrap b3) (24 : Int)) = (b0 + 256 * b1 + 65536 * b2) + b3 * 16777216 := q
  rw [q]; omega
 have e4 : bits2 .or .u64 (b0 + 256 * b1 + 65536 * b2 + 16777216 * b3) (shl .u64 (IntKind.u64.wrap b4) (32 : Int)) = b0 + 256 * b1 + 65536 * b2 + 16777216 * b3 + 4294967296 * b4 := by
  have q := or_shl (a := b0 + 256 * b1 + 65536 * b2 + 16777216 * b3) (b := b4) (n := 32) (by omega) (by omega) (show _ < (4294967296 : Int) by omega) h4.1 h4.2
  have q : bits2 .or .u64 (b0 + 256 * b1 + 65536 * b2 + 16777216 * b3) (shl .u64 (IntKind.u64.wrap b4) (32 : Int)) = (b0 + 256 * b1 + 65536 * b2 + 16777216 * b3) + b4 * 4294967296 := q
  rw [q]; omega
 have e5 : bits2 .or .u64 (b0 + 256 * b1 + 65536 * b2 + 16777216 * b3 + 4294967296 * b4) (shl .u64 (IntKind.u64.wrap b5) (40 : Int)) = b0 + 256 * b1 + 65536 * b2 + 16777216 * b3 + 4294967296 * b4 + 1099511627776 * b5 := by
  have q := or_shl (a := b0 + 256 * b1 + 65536 * b2 + 16777216 * b3 + 4294967296 * b4) (b := b5) (n := 40) (by omega) (by omega) (show _ < (1099511627776 : Int) by omega) h5.1 h5.2
  have q : bits2 .or .u64 (b0 + 256 * b1 + 65536 * b2 + 16777216 * b3 + 4294967296 * b4) (shl .u64 (IntKind.u64.wrap b5) (40 : Int)) = (b0 + 256 * b1 + 65536 * b2 + 16777216 * b3 + 4294967296 * b4) + b5 * 1099511627776 := q
  rw [q]; omega
 have e6 : bits2 .or .u64 (b0 + 256 * b1 + 65536 * b2 + 16777216 * b3 + 4294967296 * b4 + 1099511627776 * b5) (shl .u64 (IntKind.u64.wrap b6) (48 : Int)) = b0 + 256 * b1 + 65536 * b2 + 16777216 * b3 + 4294967296 * b4 + 1099511627776 * b5 + 281474976710656 * b6 := by
  have q := or_shl (a := b0 + 256 * b1 + 65536 * b2 + 16777216 * b3 + 4294967296 * b4 + 1099511627776 * b5) (b := b6) (n := 48) (by omega) (by omega) (show _ < (281474976710656 : Int) by omega) h6.1 h6.2
  have q : bits2 .or .u64 (b0 + 256 * b1 + 65536 * b2 + 16777216 * b3 + 4294967296 * b4 + 1099511627776 * b5) (shl .u64 (IntKind.u64.wrap b6) (48 : Int)) = (b0 + 256 * b1 + 65536 * b2 + 16777216 * b3 + 4294967296 * b4 + 1099511627776 * b5) + b6 * 281474976710656 := q
  rw [q]; omega
 have e7 : bits2 .or .u64 (b0 + 256 * b1 + 65536 * b2 + 16777216 * b3 + 4294967296 * b4 + 1099511627776 * b5 + 281474976710656 * b6) (shl .u64 (IntKind.u64.wrap b7) (56 : Int)) = b0 + 256 * b1 + 65536 * b2 + 16777216 * b3 + 4294967296 * b4 + 1099511627776 * b5 + 281474976710656 * b6 + 72057594037927936 * b7 := by
  have q := or_shl (a := b0 + 256 * b1 + 65536 * b2 + 16777216 * b3 + 4294967296 * b4 + 1099511627776 * b5 + 281474976710656 * b6) (b := b7) (n := 56) (by omega) (by omega) (show _ < (72057594037927936 : Int) by omega) h7.1 h7.2
  have q : bits2 .or .u64 (b0 + 256 * b1 + 65536 * b2 + 16777216 * b3 + 4294967296 * b4 + 1099511627776 * b5 + 281474976710656 * b6) (shl .u64 (IntKind.u64.wrap b7) (56 : Int)) = (b0 + 256 * b1 + 65536 * b2 + 16777216 * b3 + 4294967296 * b4 + 1099511627776 * b5 + 281474976710656 * b6) + b7 * 72057594037927936 := q
  rw [q]; omega
 rw [e0, e1, e2, e3, e4, e5, e6, e7]

def le8 (s : List Int) (o : Nat) : Int := List.getD s (o + 0) 0 + 256 * List.getD s (o + 1) 0 + 65536 * List.getD s (o + 2) 0 + 16777216 * List.getD s (o + 3) 0 + 4294967296 * List.getD s (o + 4) 0 + 1099511627776 * List.getD s (o + 5) 0 + 281474976710656 * List.getD s (o + 6) 0 + 72057594037927936 * List.getD s (o + 7) 0
def BV (s : List Int) : Int := le8 s 0 + 18446744073709551616 * le8 s 8 + 340282366920938463463374607431768211456 * le8 s 16 + 6277101735386680763835789423207666416102355444464034512896 * le8 s 24

theorem le8_rng {s : List Int} (h : Byt s) (o : Nat) : 0 ≤ le8 s o ∧ le8 s o < 18446744073709551616 := by
 have h0 := byt_get h (o + 0)
 have h1 := byt_get h (o + 1)
 have h2 := byt_get h (o + 2)
 have h3 := byt_get h (o + 3)
 have h4 := byt_get h (o + 4)
 have h5 := byt_get h (o + 5)
 have h6 := byt_get h (o + 6)
 have h7 := byt_get h (o + 7)
 unfold le8
 omega
theorem BV_rng {s : List Int} (h : Byt s) : 0 ≤ BV s ∧ BV s < 115792089237316195423570985008687907853269984665640564039457584007913129639936 := by
 have h0 := le8_rng h 0
 have h1 := le8_rng h 8
 have h2 := le8_rng h 16
 have h3 := le8_rng h 24
 unfold BV
 omega

theorem frm_eq {s : List Int} (h : Byt s) : frm s = W4 (BV s) := by
 unfold frm
 rw [word8 (byt_get h 0) (byt_get h 1) (byt_get h 2) (byt_get h 3) (byt_get h 4) (byt_get h 5) (byt_get h 6) (byt_get h 7), word8 (byt_get h 8) (byt_get h 9) (byt_get h 10) (byt_get h 11) (byt_get h 12) (byt_get h 13) (byt_get h 14) (byt_get h 15), word8 (byt_get h 16) (byt_get h 17) (byt_get h 18) (byt_get h 19) (byt_get h 20) (byt_get h 21) (byt_get h 22) (byt_get h 23), word8 (byt_get h 24) (byt_get h 25) (byt_get h 26) (byt_get h 27) (byt_get h 28) (byt_get h 29) (byt_get h 30) (byt_get h 31)]
 exact W4_eq rfl (le8_rng h 0) (le8_rng h 8) (le8_rng h 16) (le8_rng h 24)

def B32 (v : Int) : List Int := [v % 256, v / 256 % 256, v / 65536 % 256, v / 16777216 % 256, v / 4294967296 % 256, v / 1099511627776 % 256, v / 281474976710656 % 256, v / 72057594037927936 % 256, v / 18446744073709551616 % 256, v / 4722366482869645213696 % 256, v / 1208925819614629174706176 % 256, v / 309485009821345068724781056 % 256, v / 79228162514264337593543950336 % 256, v / 20282409603651670423947251286016 % 256, v / 5192296858534827628530496329220096 % 256, v / 1329227995784915872903807060280344576 % 256, v / 340282366920938463463374607431768211456 % 256, v / 87112285931760246646623899502532662132736 % 256, v / 22300745198530623141535718272648361505980416 % 256, v / 5708990770823839524233143877797980545530986496 % 256, v / 1461501637330902918203684832716283019655932542976 % 256, v / 374144419156711147060143317175368453031918731001856 % 256, v / 95780971304118053647396689196894323976171195136475136 % 256, v / 24519928653854221733733552434404946937899825954937634816 % 256, v / 6277101735386680763835789423207666416102355444464034512896 % 256, v / 1606938044258990275541962092341162602522202993782792835301376 % 256, v / 411376139330301510538742295639337626245683966408394965837152256 % 256, v / 105312291668557186697918027683670432318895095400549111254310977536 % 256, v / 26959946667150639794667015087019630673637144422540572481103610249216 % 256, v / 6901746346790563787434755862277025452451108972170386555162524223799296 % 256, v / 1766847064778384329583297500742918515827483896875618958121606201292619776 % 256, v / 452312848583266388373324160190187140051835877600158453279131187530910662656 % 256]

theorem bck_eq {S : List Int} (h : Wds S) (l : S.length = 4) : bck S = B32 (V4 S) := by
 obtain ⟨a, b, c, d, rfl⟩ := four l
 have h0 := h a (by simp); have h1 := h b (by simp); have h2 := h c (by simp); have h3 := h d (by simp)
 unfold bck B32 V4
 simp only [List.getD_cons_zero, List.getD_cons_succ, wrap8, shr_0, shr_8, shr_16, shr_24, shr_32, shr_40, shr_48, shr_56, List.cons.injEq, and_true]
 refine ⟨?_, ?_, ?_, ?_, ?_, ?_, ?_, ?_, ?_, ?_, ?_, ?_, ?_, ?_, ?_, ?_, ?_, ?_, ?_, ?_, ?_, ?_, ?_, ?_, ?_, ?_, ?_, ?_, ?_, ?_, ?_, ?_⟩ <;> omega

theorem ad64_eq {x y c : Int} (h0 : 0 ≤ x) (h1 : x < 18446744073709551616) (h2 : 0 ≤ y) (h3 : y < 18446744073709551616) (hc : 0 ≤ c ∧ c ≤ 1) :
  ad64s x y c + 18446744073709551616 * ad64c x y c = x + y + c ∧ 0 ≤ ad64s x y c ∧ ad64s x y c < 18446744073709551616 ∧ 0 ≤ ad64c x y c ∧ ad64c x y c ≤ 1 := by
 unfold ad64s ad64c; omega

theorem plus_eq {S T : List Int} (hS : Wds S) (hT : Wds T) (lS : S.length = 4) (lT : T.length = 4) : plusA S T = W4 (low (addR (V4 S) (V4 T))) := by
 obtain ⟨a0, a1, a2, a3, rfl⟩ := four lS
 obtain ⟨b0, b1, b2, b3, rfl⟩ := four lT
 have ha0 := hS a0 (by simp); have ha1 := hS a1 (by simp); have ha2 := hS a2 (by simp); have ha3 := hS a3 (by simp)
 have hb0 := hT b0 (by simp); have hb1 := hT b1 (by simp); have hb2 := hT b2 (by simp); have hb3 := hT b3 (by simp)
 have e0 := ad64_eq ha0.1 ha0.2 hb0.1 hb0.2 (c := 0) (by omega)
 have e1 := ad64_eq ha1.1 ha1.2 hb1.1 hb1.2 (c := ad64c a0 b0 0) (by omega)
 have e2 := ad64_eq ha2.1 ha2.2 hb2.1 hb2.2 (c := ad64c a1 b1 (ad64c a0 b0 0)) (by omega)
 have e3 := ad64_eq ha3.1 ha3.2 hb3.1 hb3.2 (c := ad64c a2 b2 (ad64c a1 b1 (ad64c a0 b0 0))) (by omega)
 show W4 (low (V4 [ad64s a0 b0 0, ad64s a1 b1 (ad64c a0 b0 0), ad64s a2 b2 (ad64c a1 b1 (ad64c a0 b0 0)), ad64s a3 b3 (ad64c a2 b2 (ad64c a1 b1 (ad64c a0 b0 0)))])) = _
 congr 2
 generalize ad64c a3 b3 (ad64c a2 b2 (ad64c a1 b1 (ad64c a0 b0 0))) = c3 at *
 generalize ad64s a3 b3 (ad64c a2 b2 (ad64c a1 b1 (ad64c a0 b0 0))) = s3 at *
 generalize ad64s a2 b2 (ad64c a1 b1 (ad64c a0 b0 0)) = s2 at *
 generalize ad64c a2 b2 (ad64c a1 b1 (ad64c a0 b0 0)) = c2 at *
 generalize ad64s a1 b1 (ad64c a0 b0 0) = s1 at *
 generalize ad64c a1 b1 (ad64c a0 b0 0) = c1 at *
 generalize ad64s a0 b0 0 = s0 at *
 generalize ad64c a0 b0 0 = c0 at *
 unfold addR V4
 simp only
 clear hS hT lS lT
 omega

theorem plus_can (S T : List Int) (h0 : (Wds S)) (h1 : (Wds T)) (w : World) : Body Tryz.prog (tabOf tabNM) Tryz.f93 ⟨w, [], 0, noEnv⟩ (toA [.g [.ints .u64 4 S], .g [.ints .u64 4 T]]) [] (fun ys _ => ys = [.g [.ints .u64 4 (W4 (low (addR (V4 S) (V4 T))))]]) :=
 Body.lens (c := (Tryz.f93.body.getD .skip)) rfl fun h => (plusA_body0 S T h0 h1 (h.vals 0 _ _ _ rfl) (h.vals 1 _ _ _ rfl) w).mono fun xs K hx => by
  subst hx; rw [plus_eq h0 h1 (h.vals 0 _ _ _ rfl) (h.vals 1 _ _ _ rfl)]

theorem frm_can (s : List Int) (h0 : Byt s) (w : World) : Body Tryz.prog (tabOf tabNM) Tryz.f121 ⟨w, [], 0, noEnv⟩ (toA [.g [.ints .u8 32 s]]) [] (fun ys _ => ys = [.g [.ints .u64 4 (W4 (BV s))]]) :=
 Body.lens (c := (Tryz.f121.body.getD .skip)) rfl fun h => (frm_body0 s (h.vals 0 _ _ _ rfl) w).mono fun xs K hx => by
  subst hx; rw [frm_eq h0]

theorem bck_can (S : List Int) (h0 : (Wds S)) (w : World) : Body Tryz.prog (tabOf tabNM) Tryz.f92 ⟨w, [], 0, noEnv⟩ (toA [.g [.ints .u64 4 S]]) [] (fun ys _ => ys = [.g [.ints .u8 32 (B32 (V4 S))]]) :=
 Body.lens (c := (Tryz.f92.body.getD .skip)) rfl fun h => (bck_body0 S (h.vals 0 _ _ _ rfl) w).mono fun xs K hx => by
  subst hx; rw [bck_eq h0 (h.vals 0 _ _ _ rfl)]
end Go.Proofs.YtjmfnjgcofpocaaGreat.X.V

/- One round of Montgomery's product. -/
namespace Go.Proofs.YtjmfnjgcofpocaaGreat.X.V
open Go Go.Proofs
set_option linter.unusedVariables false

end Go.Proofs.YtjmfnjgcofpocaaGreat.X.V

/- The words of Montgomery's product are not negative. -/
namespace Go.Proofs.YtjmfnjgcofpocaaGreat.X.V
open Go Go.Proofs

end Go.Proofs.YtjmfnjgcofpocaaGreat.X.V

/- Printed by a tool of this session. -/
namespace Go.Proofs.YtjmfnjgcofpocaaGreat.X.V
open Go Go.Proofs
set_option linter.unusedVariables false
set_option linter.unusedSimpArgs false
set_option maxRecDepth 100000
set_option maxHeartbeats 8000000
theorem teNO_24 : TEOk Tryz.prog 77 ⟨.array 32 5, 32, 32, [.ints .u8 32 ([0, 0, 0, 0, 0, 0, 0, 0, 0, 0, 0, 0, 0, 0, 0, 0, 0, 0, 0, 0, 0, 0, 0, 0, 0, 0, 0, 0, 0, 0, 0, 0] : List Int)], true⟩ :=
 TEOk.of Tryz.underlying77 (i := Tryz.t77) (by kernel_rfl) rfl rfl rfl (by kernel_rfl) (fun _ => ⟨Tryz.eqGuardType77, by kernel_rfl, by kernel_rfl⟩) (by kernel_rfl) (by kernel_rfl)
theorem teNO_25 : TEOk Tryz.prog 164 ⟨.int .u64, 1, 8, [.i .u64 (0 : Int)], false⟩ :=
 TEOk.of Tryz.underlying164 (i := Tryz.t164) (by kernel_rfl) rfl rfl rfl (by kernel_rfl) (fun h => by cases h) (by kernel_rfl) (by kernel_rfl)
theorem teNO_104 : TEOk Tryz.prog 166 ⟨.array 4 164, 4, 32, [.ints .u64 4 ([0, 0, 0, 0] : List Int)], true⟩ :=
 TEOk.of Tryz.underlying166 (i := Tryz.t166) (by kernel_rfl) rfl rfl rfl (by kernel_rfl) (fun _ => ⟨Tryz.eqGuardType166, by kernel_rfl, by kernel_rfl⟩) (by kernel_rfl) (by kernel_rfl)
noncomputable def tabNO : List (Nat × TE) := [(77, ⟨.array 32 5, 32, 32, [.ints .u8 32 ([0, 0, 0, 0, 0, 0, 0, 0, 0, 0, 0, 0, 0, 0, 0, 0, 0, 0, 0, 0, 0, 0, 0, 0, 0, 0, 0, 0, 0, 0, 0, 0] : List Int)], true⟩), (164, ⟨.int .u64, 1, 8, [.i .u64 0], false⟩), (166, ⟨.array 4 164, 4, 32, [.ints .u64 4 ([0, 0, 0, 0] : List Int)], true⟩)]
theorem tabOkNO : TabOk Tryz.prog (tabOf tabNO) := (tabOf_cons teNO_24 (tabOf_cons teNO_25 (tabOf_cons teNO_104 tabOf_nil)))

theorem plusA_pure (S T : List Int) (h0 : (Wds S)) (h1 : (Wds T)) : PureC Tryz.prog 93 [.g [.ints .u64 4 S], .g [.ints .u64 4 T]] [.g [.ints .u64 4 (W4 (low (addR (V4 S) (V4 T))))]] :=
 PureC.of_body tabOkNO Tryz.func93 rfl rfl fun w => plus_can S T h0 h1 w

def gv7 : Gam := gpure 93 (fun args => match args with | [.o (.g [.ints .u64 (4 : Nat) S]), .o (.g [.ints .u64 (4 : Nat) T])] => some (some ((Wds S) ∧ (Wds T)), [.g [.ints .u64 (4 : Nat) (W4 (low (addR (V4 S) (V4 T))))]]) | _ => none) gv6
theorem gv7_ok : GamOk Tryz.prog gv7 := gpure_ok gv6_ok Tryz.call93 (by
 intro args vc xs h hv
 split at h
 ·simp only [Option.some.injEq, Prod.mk.injEq] at h; obtain ⟨rfl, rfl⟩ := h; exact ⟨_, by rfl, plusA_pure _ _ hv.1 hv.2⟩
 ·simp at h)

theorem frm_pure (s : List Int) (h0 : (Byt s)) : PureC Tryz.prog 121 [.g [.ints .u8 32 s]] [.g [.ints .u64 4 (W4 (BV s))]] :=
 PureC.of_body tabOkNO Tryz.func121 rfl rfl fun w => frm_can s h0 w

def gv9 : Gam := gpure 121 (fun args => match args with | [.o (.g [.ints .u8 (32 : Nat) s])] => some (some ((Byt s)), [.g [.ints .u64 (4 : Nat) (W4 (BV s))]]) | _ => none) gv7
theorem gv9_ok : GamOk Tryz.prog gv9 := gpure_ok gv7_ok Tryz.call121 (by
 intro args vc xs h hv
 split at h
 ·simp only [Option.some.injEq, Prod.mk.injEq] at h; obtain ⟨rfl, rfl⟩ := h; exact ⟨_, by rfl, frm_pure _ hv⟩
 ·simp at h)

theorem bck_pure (S : List Int) (h0 : (Wds S)) : PureC Tryz.prog 92 [.g [.ints .u64 4 S]] [.g [.ints .u8 32 (B32 (V4 S))]] :=
 PureC.of_body tabOkNO Tryz.func92 rfl rfl fun w => bck_can S h0 w

def gv10 : Gam := gpure 92 (fun args => match args with | [.o (.g [.ints .u64 (4 : Nat) S])] => some (some ((Wds S)), [.g [.ints .u8 (32 : Nat) (B32 (V4 S))]]) | _ => none) gv9
theorem gv10_ok : GamOk Tryz.prog gv10 := gpure_ok gv9_ok Tryz.call92 (by
 intro args vc xs h hv
 split at h
 ·simp only [Option.some.injEq, Prod.mk.injEq] at h; obtain ⟨rfl, rfl⟩ := h; exact ⟨_, by rfl, bck_pure _ hv⟩
 ·simp at h)

def valA (s : List Int) : List Int :=
 (W4 (low (V4 (W4 (low (V4 (W4 (low (V4 (W4 (low (V4 (W4 (low (V4 (W4 (low (V4 (W4 (low (V4 (W4 (low (V4 (W4 (low (V4 (W4 (low (V4 (W4 (low (V4 (W4 (low (V4 (W4 (low (V4 (W4 (low (V4 (W4 (low (V4 (W4 (low (V4 (W4 (BV s))))))))))))))))))))))))))))))))))))))))))))))))))

theorem valA_body0 (s : List Int) (h0 : (Byt s)) (hv0 : List.length s = 32) (w : World) : Body Tryz.prog (tabOf tabNO) Tryz.f94 ⟨w, [], 0, noEnv⟩ (toA [.g [.ints .u8 32 s]]) [] (fun ys _ => ys = [.g [.ints .u64 4 (valA s)]]) :=
 Body.of_fin (Γ := gv10) (Λ := noLam) (Ψ := noPsi) (fuel := 17) (m := 12) (c := (Tryz.f94.body.getD .skip)) mix tabOkNO gv10_ok rfl (rs := [.cell 2 166]) rfl rfl [true, true, true, true, true, true, true, true, true, true, true, true, true, true, true, true, false] []
  (vc := [(false = false), (Wds (W4 (low (V4 (W4 (low (V4 (W4 (low (V4 (W4 (low (V4 (W4 (low (V4 (W4 (low (V4 (W4 (low (V4 (W4 (low (V4 (W4 (low (V4 (W4 (low (V4 (W4 (low (V4 (W4 (low (V4 (W4 (low (V4 (W4 (low (V4 (W4 (low (V4 (W4 (BV s)))))))))))))))))))))))))))))))))))))))))))))))), cT, (Wds (W4 (low (V4 (W4 (low (V4 (W4 (low (V4 (W4 (low (V4 (W4 (low (V4 (W4 (low (V4 (W4 (low (V4 (W4 (low (V4 (W4 (low (V4 (W4 (low (V4 (W4 (low (V4 (W4 (low (V4 (W4 (low (V4 (W4 (low (V4 (W4 (BV s))))))))))))))))))))))))))))))))))))))))))))), cT, (Wds (W4 (low (V4 (W4 (low (V4 (W4 (low (V4 (W4 (low (V4 (W4 (low (V4 (W4 (low (V4 (W4 (low (V4 (W4 (low (V4 (W4 (low (V4 (W4 (low (V4 (W4 (low (V4 (W4 (low (V4 (W4 (low (V4 (W4 (BV s)))))))))))))))))))))))))))))))))))))))))), cT, (Wds (W4 (low (V4 (W4 (low (V4 (W4 (low (V4 (W4 (low (V4 (W4 (low (V4 (W4 (low (V4 (W4 (low (V4 (W4 (low (V4 (W4 (low (V4 (W4 (low (V4 (W4 (low (V4 (W4 (low (V4 (W4 (BV s))))))))))))))))))))))))))))))))))))))), cT, (Wds (W4 (low (V4 (W4 (low (V4 (W4 (low (V4 (W4 (low (V4 (W4 (low (V4 (W4 (low (V4 (W4 (low (V4 (W4 (low (V4 (W4 (low (V4 (W4 (low (V4 (W4 (low (V4 (W4 (BV s)))))))))))))))))))))))))))))))))))), cT, (Wds (W4 (low (V4 (W4 (low (V4 (W4 (low (V4 (W4 (low (V4 (W4 (low (V4 (W4 (low (V4 (W4 (low (V4 (W4 (low (V4 (W4 (low (V4 (W4 (low (V4 (W4 (BV s))))))))))))))))))))))))))))))))), cT, (Wds (W4 (low (V4 (W4 (low (V4 (W4 (low (V4 (W4 (low (V4 (W4 (low (V4 (W4 (low (V4 (W4 (low (V4 (W4 (low (V4 (W4 (low (V4 (W4 (BV s)))))))))))))))))))))))))))))), cT, (Wds (W4 (low (V4 (W4 (low (V4 (W4 (low (V4 (W4 (low (V4 (W4 (low (V4 (W4 (low (V4 (W4 (low (V4 (W4 (low (V4 (W4 (BV s))))))))))))))))))))))))))), cT, (Wds (W4 (low (V4 (W4 (low (V4 (W4 (low (V4 (W4 (low (V4 (W4 (low (V4 (W4 (low (V4 (W4 (low (V4 (W4 (BV s)))))))))))))))))))))))), cT, (Wds (W4 (low (V4 (W4 (low (V4 (W4 (low (V4 (W4 (low (V4 (W4 (low (V4 (W4 (low (V4 (W4 (BV s))))))))))))))))))))), cT, (Wds (W4 (low (V4 (W4 (low (V4 (W4 (low (V4 (W4 (low (V4 (W4 (low (V4 (W4 (BV s)))))))))))))))))), cT, (Wds (W4 (low (V4 (W4 (low (V4 (W4 (low (V4 (W4 (low (V4 (W4 (BV s))))))))))))))), cT, (Wds (W4 (low (V4 (W4 (low (V4 (W4 (low (V4 (W4 (BV s)))))))))))), cT, (Wds (W4 (low (V4 (W4 (low (V4 (W4 (BV s))))))))), cT, (Wds (W4 (low (V4 (W4 (BV s)))))), cT, (Wds (W4 (BV s))), cT, (Byt s)]) (by kernel_rfl)
  (aC rfl (aC (by first | assumption | exact wds_W4 _ | exact wds_ord) (aC rfl (aC (by first | assumption | exact wds_W4 _ | exact wds_ord) (aC rfl (aC (by first | assumption | exact wds_W4 _ | exact wds_ord) (aC rfl (aC (by first | assumption | exact wds_W4 _ | exact wds_ord) (aC rfl (aC (by first | assumption | exact wds_W4 _ | exact wds_ord) (aC rfl (aC (by first | assumption | exact wds_W4 _ | exact wds_ord) (aC rfl (aC (by first | assumption | exact wds_W4 _ | exact wds_ord) (aC rfl (aC (by first | assumption | exact wds_W4 _ | exact wds_ord) (aC rfl (aC (by first | assumption | exact wds_W4 _ | exact wds_ord) (aC rfl (aC (by first | assumption | exact wds_W4 _ | exact wds_ord) (aC rfl (aC (by first | assumption | exact wds_W4 _ | exact wds_ord) (aC rfl (aC (by first | assumption | exact wds_W4 _ | exact wds_ord) (aC rfl (aC (by first | assumption | exact wds_W4 _ | exact wds_ord) (aC rfl (aC (by first | assumption | exact wds_W4 _ | exact wds_ord) (aC rfl (aC (by first | assumption | exact wds_W4 _ | exact wds_ord) (aC rfl (aC (by first | assumption | exact wds_W4 _ | exact wds_ord) (aC rfl (aC (by first | assumption | exact wds_W4 _ | exact wds_ord) (AllP_nil)))))))))))))))))))))))))))))))))))

end Go.Proofs.YtjmfnjgcofpocaaGreat.X.V

/- Montgomery's product and the value of 32 bytes, as numbers. -/
namespace Go.Proofs.YtjmfnjgcofpocaaGreat.X.V
open Go Go.Proofs
set_option linter.unusedVariables false

def lowI (v : Int) : Nat → Int
 | 0 => v
 | k + 1 => low (lowI v k)
def lowC (v : Int) : Nat → List Int
 | 0 => W4 v
 | k + 1 => W4 (low (V4 (lowC v k)))

theorem lowI_ok {v : Int} (h0 : 0 ≤ v) (h1 : v < 115792089237316195423570985008687907853269984665640564039457584007913129639936) : ∀ k, 0 ≤ lowI v k ∧ lowI v k < 115792089237316195423570985008687907853269984665640564039457584007913129639936 ∧ lowI v k % LL = v % LL ∧ (lowI v k < LL ∨ lowI v k = v - (k : Int) * LL)
 | 0 => ⟨h0, h1, rfl, .inr (by show v = v - (0 : Int) * LL; omega)⟩
 | k + 1 => by
  obtain ⟨a, b, c, d⟩ := lowI_ok h0 h1 k
  have r := low_rng a b
  refine ⟨r.1, r.2, ?_, ?_⟩
  ·rw [← c]; show low (lowI v k) % LL = _
   unfold low
   split
   ·rw [show lowI v k - LL = lowI v k + LL * (-1) by omega, Int.add_mul_emod_self_left]
   ·rfl
  ·show low (lowI v k) < LL ∨ low (lowI v k) = _
   unfold low LL at *
   split <;> omega

theorem lowC_eq {v : Int} (h0 : 0 ≤ v) (h1 : v < 115792089237316195423570985008687907853269984665640564039457584007913129639936) : ∀ k, lowC v k = W4 (lowI v k)
 | 0 => rfl
 | k + 1 => by
  obtain ⟨a, b, _⟩ := lowI_ok h0 h1 k
  show W4 (low (V4 (lowC v k))) = W4 (low (lowI v k))
  rw [lowC_eq h0 h1 k, V4_W4 a b]

theorem low16 {v : Int} (h0 : 0 ≤ v) (h1 : v < 115792089237316195423570985008687907853269984665640564039457584007913129639936) : lowI v 16 = v % LL := by
 obtain ⟨a, b, c, d⟩ := lowI_ok h0 h1 16
 unfold LL at *
 rcases d with d | d <;> omega

theorem val_can (s : List Int) (h0 : Byt s) (w : World) : Body Tryz.prog (tabOf tabNO) Tryz.f94 ⟨w, [], 0, noEnv⟩ (toA [.g [.ints .u8 32 s]]) [] (fun ys _ => ys = [.g [.ints .u64 4 (W4 (BV s % LL))]]) :=
 Body.lens (c := (Tryz.f94.body.getD .skip)) rfl fun h => (valA_body0 s h0 (h.vals 0 _ _ _ rfl) w).mono fun xs K hx => by
  subst hx
  have r := BV_rng h0
  have e : valA s = W4 (BV s % LL) := by
   have e1 : valA s = lowC (BV s) 16 := rfl
   rw [e1, lowC_eq r.1 r.2, low16 r.1 r.2]
  rw [e]
end Go.Proofs.YtjmfnjgcofpocaaGreat.X.V

/- Numbers that are below the order. -/
namespace Go.Proofs.YtjmfnjgcofpocaaGreat.X.V
open Go Go.Proofs
set_option linter.unusedVariables false

def modL (v : Int) : Int := v % LL
theorem wds_radx : Wds [11819153939886771969, 14991950615390032711, 14910419812499177061, 259310039853996605] := wds_four (by omega) (by omega) (by omega) (by omega)
theorem wds_one : Wds [1, 0, 0, 0] := wds_four (by omega) (by omega) (by omega) (by omega)
theorem byt_B32 (v : Int) : Byt (B32 v) := by
 intro x hx
 unfold B32 at hx
 simp only [List.mem_cons, List.not_mem_nil, or_false] at hx
 rcases hx with rfl | rfl | rfl | rfl | rfl | rfl | rfl | rfl | rfl | rfl | rfl | rfl | rfl | rfl | rfl | rfl | rfl | rfl | rfl | rfl | rfl | rfl | rfl | rfl | rfl | rfl | rfl | rfl | rfl | rfl | rfl | rfl <;> omega
end Go.Proofs.YtjmfnjgcofpocaaGreat.X.V

/- Printed by a tool of this session. -/
namespace Go.Proofs.YtjmfnjgcofpocaaGreat.X.V
open Go Go.Proofs
set_option linter.unusedVariables false
set_option linter.unusedSimpArgs false
set_option maxRecDepth 100000
set_option maxHeartbeats 8000000
theorem teNT_24 : TEOk Tryz.prog 77 ⟨.array 32 5, 32, 32, [.ints .u8 32 ([0, 0, 0, 0, 0, 0, 0, 0, 0, 0, 0, 0, 0, 0, 0, 0, 0, 0, 0, 0, 0, 0, 0, 0, 0, 0, 0, 0, 0, 0, 0, 0] : List Int)], true⟩ :=
 TEOk.of Tryz.underlying77 (i := Tryz.t77) (by kernel_rfl) rfl rfl rfl (by kernel_rfl) (fun _ => ⟨Tryz.eqGuardType77, by kernel_rfl, by kernel_rfl⟩) (by kernel_rfl) (by kernel_rfl)
theorem teNT_25 : TEOk Tryz.prog 164 ⟨.int .u64, 1, 8, [.i .u64 (0 : Int)], false⟩ :=
 TEOk.of Tryz.underlying164 (i := Tryz.t164) (by kernel_rfl) rfl rfl rfl (by kernel_rfl) (fun h => by cases h) (by kernel_rfl) (by kernel_rfl)
theorem teNT_104 : TEOk Tryz.prog 166 ⟨.array 4 164, 4, 32, [.ints .u64 4 ([0, 0, 0, 0] : List Int)], true⟩ :=
 TEOk.of Tryz.underlying166 (i := Tryz.t166) (by kernel_rfl) rfl rfl rfl (by kernel_rfl) (fun _ => ⟨Tryz.eqGuardType166, by kernel_rfl, by kernel_rfl⟩) (by kernel_rfl) (by kernel_rfl)
noncomputable def tabNT : List (Nat × TE) := [(77, ⟨.array 32 5, 32, 32, [.ints .u8 32 ([0, 0, 0, 0, 0, 0, 0, 0, 0, 0, 0, 0, 0, 0, 0, 0, 0, 0, 0, 0, 0, 0, 0, 0, 0, 0, 0, 0, 0, 0, 0, 0] : List Int)], true⟩), (164, ⟨.int .u64, 1, 8, [.i .u64 0], false⟩), (166, ⟨.array 4 164, 4, 32, [.ints .u64 4 ([0, 0, 0, 0] : List Int)], true⟩)]
theorem tabOkNT : TabOk Tryz.prog (tabOf tabNT) := (tabOf_cons teNT_24 (tabOf_cons teNT_25 (tabOf_cons teNT_104 tabOf_nil)))

theorem valA_pure (s : List Int) (h0 : (Byt s)) : PureC Tryz.prog 94 [.g [.ints .u8 32 s]] [.g [.ints .u64 4 (W4 (modL (BV s)))]] :=
 PureC.of_body tabOkNT Tryz.func94 rfl rfl fun w => val_can s h0 w

def gv12 : Gam := gpure 94 (fun args => match args with | [.o (.g [.ints .u8 (32 : Nat) s])] => some (some ((Byt s)), [.g [.ints .u64 (4 : Nat) (W4 (modL (BV s)))]]) | _ => none) gv10
theorem gv12_ok : GamOk Tryz.prog gv12 := gpure_ok gv10_ok Tryz.call94 (by
 intro args vc xs h hv
 split at h
 ·simp only [Option.some.injEq, Prod.mk.injEq] at h; obtain ⟨rfl, rfl⟩ := h; exact ⟨_, by rfl, valA_pure _ hv⟩
 ·simp at h)

def addP (a b : List Int) : List Int :=
 (B32 (V4 (W4 (low (addR (V4 (W4 (modL (BV a)))) (V4 (W4 (modL (BV b)))))))))

theorem addP_body0 (a b : List Int) (h0 : (Byt a)) (h1 : (Byt b)) (hv0 : a.length = 32) (hv1 : b.length = 32) (w : World) : Body Tryz.prog (tabOf tabNT) Tryz.f57 ⟨w, [], 0, noEnv⟩ (toA [.g [.ints .u8 32 a], .g [.ints .u8 32 b]]) [] (fun ys _ => ys = [.g [.ints .u8 32 (addP a b)]]) :=
 Body.of_fin (Γ := gv12) (Λ := noLam) (Ψ := noPsi) (fuel := 0) (m := 11) (c := (Tryz.f57.body.getD .skip)) mix tabOkNT gv12_ok rfl (rs := [.cell 4 77]) rfl rfl [] []
  (vc := [(Wds (W4 (low (addR (V4 (W4 (modL (BV a)))) (V4 (W4 (modL (BV b)))))))), ((Wds (W4 (modL (BV a)))) ∧ (Wds (W4 (modL (BV b))))), (Byt b), (Byt a)]) (by kernel_rfl)
  (aC (by first | assumption | exact wds_W4 _ | exact wds_ord | exact byt_B32 _ | exact wds_radx | exact wds_one) (aC ⟨(by first | assumption | exact wds_W4 _ | exact wds_ord | exact byt_B32 _ | exact wds_radx | exact wds_one), (by first | assumption | exact wds_W4 _ | exact wds_ord | exact byt_B32 _ | exact wds_radx | exact wds_one)⟩ (aC (by first | assumption | exact wds_W4 _ | exact wds_ord | exact byt_B32 _ | exact wds_radx | exact wds_one) (aC (by first | assumption | exact wds_W4 _ | exact wds_ord | exact byt_B32 _ | exact wds_radx | exact wds_one) (AllP_nil)))))

theorem addP_body (a b : List Int) (h0 : (Byt a)) (h1 : (Byt b)) (w : World) : Body Tryz.prog (tabOf tabNT) Tryz.f57 ⟨w, [], 0, noEnv⟩ (toA [.g [.ints .u8 32 a], .g [.ints .u8 32 b]]) [] (fun ys _ => ys = [.g [.ints .u8 32 (addP a b)]]) :=
 Body.lens (c := (Tryz.f57.body.getD .skip)) rfl fun h => addP_body0 a b h0 h1 (h.vals 0 _ _ _ rfl) (h.vals 1 _ _ _ rfl) w

theorem addP_pure (a b : List Int) (h0 : (Byt a)) (h1 : (Byt b)) : PureC Tryz.prog 57 [.g [.ints .u8 32 a], .g [.ints .u8 32 b]] [.g [.ints .u8 32 (addP a b)]] :=
 PureC.of_body tabOkNT Tryz.func57 rfl rfl fun w => addP_body a b h0 h1 w

def gv14 : Gam := gpure 57 (fun args => match args with | [.o (.g [.ints .u8 (32 : Nat) a]), .o (.g [.ints .u8 (32 : Nat) b])] => some (some ((Byt a) ∧ (Byt b)), [.g [.ints .u8 (32 : Nat) (addP a b)]]) | _ => none) gv12
theorem gv14_ok : GamOk Tryz.prog gv14 := gpure_ok gv12_ok Tryz.call57 (by
 intro args vc xs h hv
 split at h
 ·simp only [Option.some.injEq, Prod.mk.injEq] at h; obtain ⟨rfl, rfl⟩ := h; exact ⟨_, by rfl, addP_pure _ _ hv.1 hv.2⟩
 ·simp at h)

def iszP (a : List Int) : Bool :=
 (decide ((W4 (modL (BV a))) = ([0, 0, 0, 0] : List Int)))

theorem iszP_body0 (a : List Int) (h0 : (Byt a)) (hv0 : List.length a = 32) (w : World) : Body Tryz.prog (tabOf tabNT) Tryz.f122 ⟨w, [], 0, noEnv⟩ (toA [.g [.ints .u8 32 a]]) [] (fun ys _ => ys = [.a (.b (iszP a))]) :=
 Body.of_fin (Γ := gv14) (Λ := noLam) (Ψ := noPsi) (fuel := 0) (m := 7) (c := (Tryz.f122.body.getD .skip)) mix tabOkNT gv14_ok rfl (rs := [.tmp 2]) rfl rfl [] []
  (vc := [(Byt a)]) (by kernel_rfl)
  (aC (by first | assumption | exact wds_W4 _ | exact wds_ord | exact byt_B32 _ | exact wds_radx | exact wds_one) (AllP_nil))

theorem iszP_body (a : List Int) (h0 : (Byt a)) (w : World) : Body Tryz.prog (tabOf tabNT) Tryz.f122 ⟨w, [], 0, noEnv⟩ (toA [.g [.ints .u8 32 a]]) [] (fun ys _ => ys = [.a (.b (iszP a))]) :=
 Body.lens (c := (Tryz.f122.body.getD .skip)) rfl fun h => iszP_body0 a h0 (h.vals 0 _ _ _ rfl) w

theorem iszP_pure (a : List Int) (h0 : (Byt a)) : PureC Tryz.prog 122 [.g [.ints .u8 32 a]] [.a (.b (iszP a))] :=
 PureC.of_body tabOkNT Tryz.func122 rfl rfl fun w => iszP_body a h0 w

def gv19 : Gam := gpure 122 (fun args => match args with | [.o (.g [.ints .u8 (32 : Nat) a])] => some (some ((Byt a)), [.a (.b (iszP a))]) | _ => none) gv14
theorem gv19_ok : GamOk Tryz.prog gv19 := gpure_ok gv14_ok Tryz.call122 (by
 intro args vc xs h hv
 split at h
 ·simp only [Option.some.injEq, Prod.mk.injEq] at h; obtain ⟨rfl, rfl⟩ := h; exact ⟨_, by rfl, iszP_pure _ hv⟩
 ·simp at h)

def canP (a : List Int) : Bool :=
 ((lessC (V4 (W4 (BV a))) (V4 ([6346243789798364141, 1503914060200516822, 0, 1152921504606846976] : List Int))) == (1 : Int))

theorem canP_body0 (a : List Int) (h0 : (Byt a)) (hv0 : List.length a = 32) (w : World) : Body Tryz.prog (tabOf tabNT) Tryz.f118 ⟨w, [], 0, noEnv⟩ (toA [.g [.ints .u8 32 a]]) [] (fun ys _ => ys = [.a (.b (canP a))]) :=
 Body.of_fin (Γ := gv19) (Λ := noLam) (Ψ := noPsi) (fuel := 0) (m := 14) (c := (Tryz.f118.body.getD .skip)) mix tabOkNT gv19_ok rfl (rs := [.tmp 2]) rfl rfl [] []
  (vc := [((Wds (W4 (BV a))) ∧ (Wds ([6346243789798364141, 1503914060200516822, 0, 1152921504606846976] : List Int))), (Byt a)]) (by kernel_rfl)
  (aC ⟨(by first | assumption | exact wds_W4 _ | exact wds_ord | exact byt_B32 _ | exact wds_radx | exact wds_one), (by first | assumption | exact wds_W4 _ | exact wds_ord | exact byt_B32 _ | exact wds_radx | exact wds_one)⟩ (aC (by first | assumption | exact wds_W4 _ | exact wds_ord | exact byt_B32 _ | exact wds_radx | exact wds_one) (AllP_nil)))

theorem canP_body (a : List Int) (h0 : (Byt a)) (w : World) : Body Tryz.prog (tabOf tabNT) Tryz.f118 ⟨w, [], 0, noEnv⟩ (toA [.g [.ints .u8 32 a]]) [] (fun ys _ => ys = [.a (.b (canP a))]) :=
 Body.lens (c := (Tryz.f118.body.getD .skip)) rfl fun h => canP_body0 a h0 (h.vals 0 _ _ _ rfl) w

theorem canP_pure (a : List Int) (h0 : (Byt a)) : PureC Tryz.prog 118 [.g [.ints .u8 32 a]] [.a (.b (canP a))] :=
 PureC.of_body tabOkNT Tryz.func118 rfl rfl fun w => canP_body a h0 w

def gv21 : Gam := gpure 118 (fun args => match args with | [.o (.g [.ints .u8 (32 : Nat) a])] => some (some ((Byt a)), [.a (.b (canP a))]) | _ => none) gv19
theorem gv21_ok : GamOk Tryz.prog gv21 := gpure_ok gv19_ok Tryz.call118 (by
 intro args vc xs h hv
 split at h
 ·simp only [Option.some.injEq, Prod.mk.injEq] at h; obtain ⟨rfl, rfl⟩ := h; exact ⟨_, by rfl, canP_pure _ hv⟩
 ·simp at h)

end Go.Proofs.YtjmfnjgcofpocaaGreat.X.V

/- Printed by a tool of this session. -/
namespace Go.Proofs.YtjmfnjgcofpocaaGreat.X.V
open Go Go.Proofs
set_option linter.unusedVariables false
set_option linter.unusedSimpArgs false
set_option maxRecDepth 100000
set_option maxHeartbeats 8000000
end Go.Proofs.YtjmfnjgcofpocaaGreat.X.V

/- Printed by a tool of this session. -/
namespace Go.Proofs.YtjmfnjgcofpocaaGreat.X
open Go Go.Proofs
set_option linter.unusedVariables false
set_option linter.unusedSimpArgs false
set_option maxRecDepth 100000
set_option maxHeartbeats 8000000
theorem teDB_68 : TEOk Tryz.prog 68 ⟨.pointer 93, 1, 8, [.raw (.pointer none)], false⟩ :=
 TEOk.of Tryz.underlying68 (i := Tryz.t68) (by kernel_rfl) rfl rfl rfl (by kernel_rfl) (fun h => by cases h) (by kernel_rfl) (by kernel_rfl)
theorem teDB_74 : TEOk Tryz.prog 74 ⟨Tryz.t73.desc, 65, 72, [.i .i64 (0 : Int), .ints .u8 64 (List.replicate 64 0)], true⟩ :=
 TEOk.of Tryz.underlying74 (i := Tryz.t74) (by kernel_rfl) rfl rfl rfl (by kernel_rfl) (fun _ => ⟨Tryz.eqGuardType74, by kernel_rfl, by kernel_rfl⟩) (by kernel_rfl) (by kernel_rfl)
theorem teDB_79 : TEOk Tryz.prog 79 ⟨Tryz.t78.desc, 64, 64, [.ints .u8 64 (List.replicate 64 0)], true⟩ :=
 TEOk.of Tryz.underlying79 (i := Tryz.t79) (by kernel_rfl) rfl rfl rfl (by kernel_rfl) (fun _ => ⟨Tryz.eqGuardType79, by kernel_rfl, by kernel_rfl⟩) (by kernel_rfl) (by kernel_rfl)
theorem teDB_87 : TEOk Tryz.prog 87 ⟨.slice 140, 1, 24, [.raw (.slice none 0 0)], false⟩ :=
 TEOk.of Tryz.underlying87 (i := Tryz.t87) (by kernel_rfl) rfl rfl rfl (by kernel_rfl) (fun h => by cases h) (by kernel_rfl) (by kernel_rfl)
theorem teDB_88 : TEOk Tryz.prog 88 ⟨Tryz.t88.desc, 1, 8, [.raw (.map none)], false⟩ :=
 TEOk.of Tryz.underlying88 (i := Tryz.t88) (by kernel_rfl) rfl rfl rfl (by kernel_rfl) (fun h => by cases h) (by kernel_rfl) (by kernel_rfl)
theorem teDB_91 : TEOk Tryz.prog 91 ⟨Tryz.t90.desc, 4, 64, [.raw (.slice none 0 0), .raw (.map none), .raw (.slice none 0 0), .i .i64 (0 : Int)], false⟩ :=
 TEOk.of Tryz.underlying91 (i := Tryz.t91) (by kernel_rfl) rfl rfl rfl (by kernel_rfl) (fun h => by cases h) (by kernel_rfl) (by kernel_rfl)
theorem teDB_93 : TEOk Tryz.prog 93 ⟨Tryz.t92.desc, 6, 80, [.raw (.pointer none), .raw (.slice none 0 0), .raw (.map none), .raw (.slice none 0 0), .i .i64 (0 : Int), .b false], false⟩ :=
 TEOk.of Tryz.underlying93 (i := Tryz.t93) (by kernel_rfl) rfl rfl rfl (by kernel_rfl) (fun h => by cases h) (by kernel_rfl) (by kernel_rfl)
theorem teDB_133 : TEOk Tryz.prog 133 ⟨Tryz.t132.desc, 64, 64, [.ints .u8 64 (List.replicate 64 0)], true⟩ :=
 TEOk.of Tryz.underlying133 (i := Tryz.t133) (by kernel_rfl) rfl rfl rfl (by kernel_rfl) (fun _ => ⟨Tryz.eqGuardType133, by kernel_rfl, by kernel_rfl⟩) (by kernel_rfl) (by kernel_rfl)
theorem teDB_140 : TEOk Tryz.prog 140 ⟨Tryz.t139.desc, 128, 128, [.ints .u8 128 (List.replicate 128 (0 : Int))], false⟩ :=
 TEOk.of Tryz.underlying140 (i := Tryz.t140) (by kernel_rfl) rfl rfl rfl (by kernel_rfl) (fun h => by cases h) (by kernel_rfl) (by kernel_rfl)
theorem teDB_217 : TEOk Tryz.prog 217 ⟨.array 8 5, 8, 8, [.ints .u8 8 ([0, 0, 0, 0, 0, 0, 0, 0] : List Int)], true⟩ :=
 TEOk.of Tryz.underlying217 (i := Tryz.t217) (by kernel_rfl) rfl rfl rfl (by kernel_rfl) (fun _ => ⟨Tryz.eqGuardType217, by kernel_rfl, by kernel_rfl⟩) (by kernel_rfl) (by kernel_rfl)
noncomputable def tabDB : List (Nat × TE) := [(3, ⟨.int .i64, 1, 8, [.i .i64 0], false⟩), (4, ⟨.bool, 1, 1, [.b false], false⟩), (5, ⟨.int .u8, 1, 1, [.i .u8 0], false⟩), (23, ⟨.pointer 86, 1, 8, [.raw (.pointer none)], false⟩), (26, ⟨.slice 5, 1, 24, [nlA], false⟩), (29, ⟨.slice 26, 1, 24, [nlA], false⟩), (68, ⟨.pointer 93, 1, 8, [.raw (.pointer none)], false⟩), (72, ⟨.array 32 5, 32, 32, [.ints .u8 32 ([0, 0, 0, 0, 0, 0, 0, 0, 0, 0, 0, 0, 0, 0, 0, 0, 0, 0, 0, 0, 0, 0, 0, 0, 0, 0, 0, 0, 0, 0, 0, 0] : List Int)], true⟩), (74, ⟨Tryz.t73.desc, 65, 72, [.i .i64 0, .ints .u8 64 (List.replicate 64 0)], true⟩), (77, ⟨.array 32 5, 32, 32, [.ints .u8 32 ([0, 0, 0, 0, 0, 0, 0, 0, 0, 0, 0, 0, 0, 0, 0, 0, 0, 0, 0, 0, 0, 0, 0, 0, 0, 0, 0, 0, 0, 0, 0, 0] : List Int)], true⟩), (79, ⟨Tryz.t78.desc, 64, 64, [.ints .u8 64 (List.replicate 64 0)], true⟩), (87, ⟨.slice 140, 1, 24, [nlA], false⟩), (88, ⟨Tryz.t88.desc, 1, 8, [.raw (.map none)], false⟩), (91, ⟨Tryz.t90.desc, 4, 64, [nlA, .raw (.map none), nlA, .i .i64 0], false⟩), (93, ⟨Tryz.t92.desc, 6, 80, [.raw (.pointer none), nlA, .raw (.map none), nlA, .i .i64 0, .b false], false⟩), (133, ⟨Tryz.t132.desc, 64, 64, [.ints .u8 64 (List.replicate 64 0)], true⟩), (140, ⟨Tryz.t139.desc, 128, 128, [.ints .u8 128 (List.replicate 128 (0 : Int))], false⟩), (217, ⟨.array 8 5, 8, 8, [.ints .u8 8 ([0, 0, 0, 0, 0, 0, 0, 0] : List Int)], true⟩), (218, ⟨.array 64 5, 64, 64, [.ints .u8 64 (List.replicate 64 0)], true⟩)]
theorem tabOkDB : TabOk Tryz.prog (tabOf tabDB) := (tabOf_cons teDA_3 (tabOf_cons teDA_4 (tabOf_cons teDA_5 (tabOf_cons teDA_23 (tabOf_cons teDA_26 (tabOf_cons teHB_29 (tabOf_cons teDB_68 (tabOf_cons teVI_72 (tabOf_cons teDB_74 (tabOf_cons teVK_77 (tabOf_cons teDB_79 (tabOf_cons teDB_87 (tabOf_cons teDB_88 (tabOf_cons teDB_91 (tabOf_cons teDB_93 (tabOf_cons teDB_133 (tabOf_cons teDB_140 (tabOf_cons teDB_217 (tabOf_cons teSG_218 tabOf_nil)))))))))))))))))))

theorem V.addP_byt (a b : List Int) : V.Byt (V.addP a b) := V.byt_B32 _
theorem byt_app {a b : List Int} (ha : V.Byt a) (hb : V.Byt b) : V.Byt (a ++ b) := fun x hx => by
 rcases List.mem_append.1 hx with h | h
 ·exact ha x h
 ·exact hb x h
theorem V.addP_len (a b : List Int) : (V.addP a b).length = 32 := rfl
theorem V.byt_sub {s : List Int} (h : V.Byt s) (c m : Nat) : V.Byt (sub s c m) := fun x hx => h x (List.mem_of_mem_drop (List.mem_of_mem_take hx))
theorem sub_lenle (l : List Int) (c m : Nat) : (sub l c m).length ≤ m := by unfold sub; exact List.length_take_le _ _
theorem apMulBs_pure (K : List Int) : PureC Tryz.prog 123 [.g [.ints .u8 32 K]] [.g [.ints .u8 32 (apMulB K)]] :=
 PureC.of_body tabOkVM Tryz.func123 rfl rfl fun w => apMulB_body K w

def gam601 : Gam := gpure 123 (fun args => match args with | [.o (.g [.ints .u8 (32 : Nat) K])] => some (none, [.g [.ints .u8 (32 : Nat) (apMulB K)]]) | _ => none) V.gv21
theorem gam601_ok : GamOk Tryz.prog gam601 := gpure_ok V.gv21_ok Tryz.call123 (by
 intro args vc xs h hv
 split at h
 ·simp only [Option.some.injEq, Prod.mk.injEq] at h; obtain ⟨rfl, rfl⟩ := h; exact ⟨_, by rfl, apMulBs_pure _⟩
 ·simp at h)

def gam602 : Gam := gcall 33 [true, true] [.w] (fun wk vs args => match wk, vs, args with | [⟨true, [.rs 1 0 n 1, .ints .i64 2 ([s, fu] : List Int), .b off, .b true]⟩, ⟨true, [.ints .u8 n_1 l]⟩], [], [.o (.a (.p 0 0))] => some ((n_1 = n), [.a (.b true)], [bT [.rs 1 0 n 1, .ints .i64 2 ([s, fu] : List Int), .b off, .b true], bT [.ints .u8 n l]]) | _, _, _ => none) gam601
theorem gam602_ok : GamOk Tryz.prog gam602 := gcall_ok tabOkDA Tryz.func33 gam601_ok Tryz.call33 (by
 intro wk vs args p xs K1 h hv
 split at h
 ·simp only [Option.some.injEq, Prod.mk.injEq] at h; obtain ⟨rfl, rfl, rfl⟩ := h; have g0 := hv; subst g0; exact fun caps w rw β => dIs_body _ _ _ _ _ w rw β
 ·simp at h)

def gam603 : Gam := gcall 34 [true, true] [.w] (fun wk vs args => match wk, vs, args with | [⟨true, [.rs 1 0 n 1, .ints .i64 2 ([s, fu] : List Int), .b off, .b true]⟩, ⟨true, [.ints .u8 n_1 l]⟩], [], [.o (.a (.p 0 0))] => some ((n_1 = n) ∧ (fu < (9223372036854775808 : Int)) ∧ ((-1 : Int) ≤ fu), [.a (.i .i64 (dkE fu off))], [bT [.rs 1 0 n 1, .ints .i64 2 ([s, (dkF fu off)] : List Int), .b (dkO fu off), .b true], bT [.ints .u8 n l]]) | _, _, _ => none) gam602
theorem gam603_ok : GamOk Tryz.prog gam603 := gcall_ok tabOkDA Tryz.func34 gam602_ok Tryz.call34 (by
 intro wk vs args p xs K1 h hv
 split at h
 ·simp only [Option.some.injEq, Prod.mk.injEq] at h; obtain ⟨rfl, rfl, rfl⟩ := h; obtain ⟨g0, g1, g2⟩ := hv; subst g0; exact fun caps w rw β => dStep_body _ _ _ _ _ g1 g2 w rw β
 ·simp at h)

def gam604 : Gam := gcall 10 [true, true] [.w, .s 1] (fun wk vs args => match wk, vs, args with | [⟨true, [.rs 1 0 n 1, .ints .i64 2 ([s, fu] : List Int), .b off, .b true]⟩, ⟨true, [.ints .u8 n_1 l]⟩], [⟨_, _, _, [.ints .u8 qm b]⟩], [.o (.a (.p 0 0)), .o (.a (.sl 2 0 q _))] => some ((n_1 = n) ∧ (qm = q) ∧ (fu < (9223372036854775808 : Int)) ∧ ((-1 : Int) ≤ fu) ∧ (n < 70368744177664) ∧ (q < 70368744177664), [.a (.i .i64 (dkE fu off))], [bT [.rs 3 0 (apN fu off n q) 1, .ints .i64 2 ([s, (dkF fu off)] : List Int), .b (dkO fu off), .b true], none, bF [.ints .u8 qm b], bT [.ints .u8 (apN fu off n q) (apL fu off l b)]]) | _, _, _ => none) gam603
theorem gam604_ok : GamOk Tryz.prog gam604 := gcall_ok tabOkDA Tryz.func10 gam603_ok Tryz.call10 (by
 intro wk vs args p xs K1 h hv
 split at h
 ·simp only [Option.some.injEq, Prod.mk.injEq] at h; obtain ⟨rfl, rfl, rfl⟩ := h; obtain ⟨g0, g1, g2, g3, g4, g5⟩ := hv; subst g0; exact fun caps w rw β => dApp_body _ _ _ _ _ _ _ _ _ g1 g2 g3 g4 g5 w rw β
 ·simp at h)

def gam605 : Gam := gcall 13 [true, true] [.w] (fun wk vs args => match wk, vs, args with | [⟨true, [.rs 1 0 n 1, .ints .i64 2 ([s, fu] : List Int), .b off, .b true]⟩, ⟨true, [.ints .u8 n_1 l]⟩], [], [.o (.a (.p 0 0))] => some ((n_1 = n) ∧ (fu < (9223372036854775808 : Int)) ∧ ((-1 : Int) ≤ fu), [.a (.i .i64 (dkE fu off))], [bT [.rs 1 0 n 1, .ints .i64 2 ([(syS fu off s n), (dkF fu off)] : List Int), .b (dkO fu off), .b true], bT [.ints .u8 n l]]) | _, _, _ => none) gam604
theorem gam605_ok : GamOk Tryz.prog gam605 := gcall_ok tabOkDA Tryz.func13 gam604_ok Tryz.call13 (by
 intro wk vs args p xs K1 h hv
 split at h
 ·simp only [Option.some.injEq, Prod.mk.injEq] at h; obtain ⟨rfl, rfl, rfl⟩ := h; obtain ⟨g0, g1, g2⟩ := hv; subst g0; exact fun caps w rw β => dSyn_body _ _ _ _ _ g1 g2 w rw β
 ·simp at h)

def gam606 : Gam := gcall 15 [true, true] [.w, .s 1] (fun wk vs args => match wk, vs, args with | [⟨true, [.rs 1 0 n 1, .ints .i64 2 ([s, fu] : List Int), .b off, .b true]⟩, ⟨true, [.ints .u8 n_1 l]⟩], [⟨_, _, _, [.ints .u8 qm b]⟩], [.o (.a (.p 0 0)), .o (.a (.sl 2 0 q _))] => some ((n_1 = n) ∧ (qm = q) ∧ (fu < (9223372036854775808 : Int)) ∧ ((-1 : Int) ≤ fu) ∧ (n < 70368744177664) ∧ (q < 70368744177664), [.a (.i .i64 (dkE fu off))], [bT [.rs 3 0 (rpN fu off n q) 1, .ints .i64 2 ([(syS fu off s q), (dkF fu off)] : List Int), .b (dkO fu off), .b true], none, bF [.ints .u8 qm b], bT [.ints .u8 (rpN fu off n q) (rpL fu off l b)]]) | _, _, _ => none) gam605
theorem gam606_ok : GamOk Tryz.prog gam606 := gcall_ok tabOkDA Tryz.func15 gam605_ok Tryz.call15 (by
 intro wk vs args p xs K1 h hv
 split at h
 ·simp only [Option.some.injEq, Prod.mk.injEq] at h; obtain ⟨rfl, rfl, rfl⟩ := h; obtain ⟨g0, g1, g2, g3, g4, g5⟩ := hv; subst g0; exact fun caps w rw β => dRep_body _ _ _ _ _ _ _ _ _ g1 g2 g3 g4 g5 w rw β
 ·simp at h)

def gam607 : Gam := gcall 25 [true, true] [.w] (fun wk vs args => match wk, vs, args with | [⟨true, [.rs 1 0 n 1, .ints .i64 2 ([s, fu] : List Int), .b off, .b true]⟩, ⟨true, [.ints .u8 n_1 l]⟩], [], [.o (.a (.p 0 0))] => some ((n_1 = n) ∧ (n < 70368744177664), [.a (.rs 2 0 n 1)], [bT [.rs 1 0 n 1, .ints .i64 2 ([s, fu] : List Int), .b off, .b true], bT [.ints .u8 n l], bT [.ints .u8 n l]]) | _, _, _ => none) gam606
theorem gam607_ok : GamOk Tryz.prog gam607 := gcall_ok tabOkDA Tryz.func25 gam606_ok Tryz.call25 (by
 intro wk vs args p xs K1 h hv
 split at h
 ·simp only [Option.some.injEq, Prod.mk.injEq] at h; obtain ⟨rfl, rfl, rfl⟩ := h; obtain ⟨g0, g1⟩ := hv; subst g0; exact fun caps w rw β => dByt_body _ _ _ _ _ g1 w rw β
 ·simp at h)

def gam608 : Gam := gcall 37 [true, true] [.w] (fun wk vs args => match wk, vs, args with | [⟨true, [.rs 1 0 n 1, .ints .i64 2 ([s, fu] : List Int), .b off, .b true]⟩, ⟨true, [.ints .u8 n_1 l]⟩], [], [.o (.a (.p 0 0))] => some ((n_1 = n), [.a (.i .i64 s)], [bT [.rs 1 0 n 1, .ints .i64 2 ([s, fu] : List Int), .b off, .b true], bT [.ints .u8 n l]]) | _, _, _ => none) gam607
theorem gam608_ok : GamOk Tryz.prog gam608 := gcall_ok tabOkDA Tryz.func37 gam607_ok Tryz.call37 (by
 intro wk vs args p xs K1 h hv
 split at h
 ·simp only [Option.some.injEq, Prod.mk.injEq] at h; obtain ⟨rfl, rfl, rfl⟩ := h; have g0 := hv; subst g0; exact fun caps w rw β => dSyd_body _ _ _ _ _ w rw β
 ·simp at h)

def gam609 : Gam := gcall 38 [true, true] [.w] (fun wk vs args => match wk, vs, args with | [⟨true, [.rs 1 0 n 1, .ints .i64 2 ([s, fu] : List Int), .b off, .b true]⟩, ⟨true, [.ints .u8 n_1 l]⟩], [], [.o (.a (.p 0 0))] => some ((n_1 = n), [.a (.b off)], [bT [.rs 1 0 n 1, .ints .i64 2 ([s, fu] : List Int), .b off, .b true], bT [.ints .u8 n l]]) | _, _, _ => none) gam608
theorem gam609_ok : GamOk Tryz.prog gam609 := gcall_ok tabOkDA Tryz.func38 gam608_ok Tryz.call38 (by
 intro wk vs args p xs K1 h hv
 split at h
 ·simp only [Option.some.injEq, Prod.mk.injEq] at h; obtain ⟨rfl, rfl, rfl⟩ := h; have g0 := hv; subst g0; exact fun caps w rw β => dOff_body _ _ _ _ _ w rw β
 ·simp at h)

def gam610 : Gam := gcall 6 [true, true] [.w, .w] (fun wk vs args => match wk, vs, args with | [⟨true, [.rs 1 0 n 1, .ints .i64 2 ([s, fu] : List Int), .b off, .b true]⟩, ⟨true, [.ints .u8 n_1 l]⟩], [], [.o (.a (.p 0 0)), .o (.a (.i .i64 k))] => some ((n_1 = n), [], [bT [.rs 1 0 n 1, .ints .i64 2 ([s, (dFus k)] : List Int), .b off, .b true], bT [.ints .u8 n l]]) | _, _, _ => none) gam609
theorem gam610_ok : GamOk Tryz.prog gam610 := gcall_ok tabOkDA Tryz.func6 gam609_ok Tryz.call6 (by
 intro wk vs args p xs K1 h hv
 split at h
 ·simp only [Option.some.injEq, Prod.mk.injEq] at h; obtain ⟨rfl, rfl, rfl⟩ := h; have g0 := hv; subst g0; exact fun caps w rw β => dFus_body _ _ _ _ _ _ w rw β
 ·simp at h)

def gam611 : Gam := gcall 8 [true, true] [.w, .w] (fun wk vs args => match wk, vs, args with | [⟨true, [.rs 1 0 n 1, .ints .i64 2 ([s, fu] : List Int), .b off, .b true]⟩, ⟨true, [.ints .u8 n_1 l]⟩], [], [.o (.a (.p 0 0)), .o (.a (.i .i64 k))] => some ((n_1 = n) ∧ (n < 70368744177664) ∧ ((0 : Int) ≤ s) ∧ (s ≤ ((n : Nat) : Int)), [], [bT [.rs 1 0 (crN s k n) 1, .ints .i64 2 ([(crI s k n), (-1 : Int)] : List Int), .b false, .b true], bT [.ints .u8 (crN s k n) (crL s k n l)]]) | _, _, _ => none) gam610
theorem gam611_ok : GamOk Tryz.prog gam611 := gcall_ok tabOkDA Tryz.func8 gam610_ok Tryz.call8 (by
 intro wk vs args p xs K1 h hv
 split at h
 ·simp only [Option.some.injEq, Prod.mk.injEq] at h; obtain ⟨rfl, rfl, rfl⟩ := h; obtain ⟨g0, g1, g2, g3⟩ := hv; subst g0; exact fun caps w rw β => dCra_body _ _ _ _ _ _ g1 g2 g3 w rw β
 ·simp at h)

def gam612 : Gam := gcall 5 [] [] (fun wk vs args => match wk, vs, args with | [], [], [] => some (True, [.a (.p 0 0)], [bT [.rs 1 0 0 1, .ints .i64 2 ([0, (-1 : Int)] : List Int), .b false, .b true], bT [.ints .u8 0 ([] : List Int)]]) | _, _, _ => none) gam611
theorem gam612_ok : GamOk Tryz.prog gam612 := gcall_ok tabOkDA Tryz.func5 gam611_ok Tryz.call5 (by
 intro wk vs args p xs K1 h hv
 split at h
 ·simp only [Option.some.injEq, Prod.mk.injEq] at h; obtain ⟨rfl, rfl, rfl⟩ := h; exact fun caps w rw β => dNew_body w rw β
 ·simp at h)

def gam613 : Gam := gcall 36 [true, true] [.w] (fun wk vs args => match wk, vs, args with | [⟨true, [.rs 1 0 n 1, .i .i64 s, .b fsd, .i .i64 rf, .b off]⟩, ⟨true, [.ints .u8 n_1 l]⟩], [], [.o (.a (.p 0 0))] => some ((n_1 = n) ∧ (rf < (9223372036854775808 : Int)) ∧ ((-9223372036854775808 : Int) ≤ rf), [.a (.b (rkG fsd rf off))], [bT [.rs 1 0 n 1, .i .i64 s, .b fsd, .i .i64 (rkF fsd rf off), .b (rkO fsd rf off)], bT [.ints .u8 n l]]) | _, _, _ => none) gam612
theorem gam613_ok : GamOk Tryz.prog gam613 := gcall_ok tabOkDA Tryz.func36 gam612_ok Tryz.call36 (by
 intro wk vs args p xs K1 h hv
 split at h
 ·simp only [Option.some.injEq, Prod.mk.injEq] at h; obtain ⟨rfl, rfl, rfl⟩ := h; obtain ⟨g0, g1, g2⟩ := hv; subst g0; exact fun caps w rw β => rGo_body _ _ _ _ _ _ g1 g2 w rw β
 ·simp at h)

def gam614 : Gam := gcall 12 [true, true] [.w, .s 1] (fun wk vs args => match wk, vs, args with | [⟨true, [.rs 1 0 n 1, .i .i64 s, .b fsd, .i .i64 rf, .b off]⟩, ⟨true, [.ints .u8 n_1 l]⟩], [⟨_, _, _, [.ints .u8 qm b]⟩], [.o (.a (.p 0 0)), .o (.a (.sl 2 0 q _))] => some ((n_1 = n) ∧ (qm = q) ∧ (rf < (9223372036854775808 : Int)) ∧ ((-9223372036854775808 : Int) ≤ rf) ∧ (n < 70368744177664) ∧ (q < 70368744177664), [.a (.i .i64 (raE fsd rf off))], [bT [.rs 3 0 (raN fsd rf off n q) 1, .i .i64 s, .b fsd, .i .i64 (rkF fsd rf off), .b (rkO fsd rf off)], none, bF [.ints .u8 qm b], bT [.ints .u8 (raN fsd rf off n q) (raL fsd rf off l b)]]) | _, _, _ => none) gam613
theorem gam614_ok : GamOk Tryz.prog gam614 := gcall_ok tabOkDA Tryz.func12 gam613_ok Tryz.call12 (by
 intro wk vs args p xs K1 h hv
 split at h
 ·simp only [Option.some.injEq, Prod.mk.injEq] at h; obtain ⟨rfl, rfl, rfl⟩ := h; obtain ⟨g0, g1, g2, g3, g4, g5⟩ := hv; subst g0; exact fun caps w rw β => rApp_body _ _ _ _ _ _ _ _ _ _ g1 g2 g3 g4 g5 w rw β
 ·simp at h)

def gam615 : Gam := gcall 14 [true, true] [.w] (fun wk vs args => match wk, vs, args with | [⟨true, [.rs 1 0 n 1, .i .i64 s, .b fsd, .i .i64 rf, .b off]⟩, ⟨true, [.ints .u8 n_1 l]⟩], [], [.o (.a (.p 0 0))] => some ((n_1 = n) ∧ (rf < (9223372036854775808 : Int)) ∧ ((-9223372036854775808 : Int) ≤ rf), [.a (.i .i64 (raE fsd rf off))], [bT [.rs 1 0 n 1, .i .i64 (rsS fsd rf off s n), .b fsd, .i .i64 (rkF fsd rf off), .b (rkO fsd rf off)], bT [.ints .u8 n l]]) | _, _, _ => none) gam614
theorem gam615_ok : GamOk Tryz.prog gam615 := gcall_ok tabOkDA Tryz.func14 gam614_ok Tryz.call14 (by
 intro wk vs args p xs K1 h hv
 split at h
 ·simp only [Option.some.injEq, Prod.mk.injEq] at h; obtain ⟨rfl, rfl, rfl⟩ := h; obtain ⟨g0, g1, g2⟩ := hv; subst g0; exact fun caps w rw β => rSyn_body _ _ _ _ _ _ g1 g2 w rw β
 ·simp at h)

def gam616 : Gam := gcall 16 [true, true] [.w, .s 1] (fun wk vs args => match wk, vs, args with | [⟨true, [.rs 1 0 n 1, .i .i64 s, .b fsd, .i .i64 rf, .b off]⟩, ⟨true, [.ints .u8 n_1 l]⟩], [⟨_, _, _, [.ints .u8 qm b]⟩], [.o (.a (.p 0 0)), .o (.a (.sl 2 0 q _))] => some ((n_1 = n) ∧ (qm = q) ∧ (rf < (9223372036854775808 : Int)) ∧ ((-9223372036854775808 : Int) ≤ rf) ∧ (q < 70368744177664), [.a (.i .i64 (raE fsd rf off))], [bT [.rs 3 0 (rpNR fsd rf off n q) 1, .i .i64 (rsS fsd rf off s q), .b fsd, .i .i64 (rkF fsd rf off), .b (rkO fsd rf off)], none, bF [.ints .u8 qm b], bT [.ints .u8 (rpNR fsd rf off n q) (rpLR fsd rf off l b)]]) | _, _, _ => none) gam615
theorem gam616_ok : GamOk Tryz.prog gam616 := gcall_ok tabOkDA Tryz.func16 gam615_ok Tryz.call16 (by
 intro wk vs args p xs K1 h hv
 split at h
 ·simp only [Option.some.injEq, Prod.mk.injEq] at h; obtain ⟨rfl, rfl, rfl⟩ := h; obtain ⟨g0, g1, g2, g3, g4⟩ := hv; subst g0; exact fun caps w rw β => rRep_body _ _ _ _ _ _ _ _ _ _ g1 g2 g3 g4 w rw β
 ·simp at h)

def gam617 : Gam := gcall 7 [true, true] [.w, .w] (fun wk vs args => match wk, vs, args with | [⟨true, [.rs 1 0 n 1, .i .i64 s, .b fsd, .i .i64 rf, .b off]⟩, ⟨true, [.ints .u8 n_1 l]⟩], [], [.o (.a (.p 0 0)), .o (.a (.i .i64 k))] => some ((n_1 = n), [], [bT [.rs 1 0 n 1, .i .i64 s, .b (rFus k), .i .i64 k, .b off], bT [.ints .u8 n l]]) | _, _, _ => none) gam616
theorem gam617_ok : GamOk Tryz.prog gam617 := gcall_ok tabOkDA Tryz.func7 gam616_ok Tryz.call7 (by
 intro wk vs args p xs K1 h hv
 split at h
 ·simp only [Option.some.injEq, Prod.mk.injEq] at h; obtain ⟨rfl, rfl, rfl⟩ := h; have g0 := hv; subst g0; exact fun caps w rw β => rFus_body _ _ _ _ _ _ _ w rw β
 ·simp at h)

def gam618 : Gam := gcall 9 [true, true] [.w, .w] (fun wk vs args => match wk, vs, args with | [⟨true, [.rs 1 0 n 1, .i .i64 s, .b fsd, .i .i64 rf, .b off]⟩, ⟨true, [.ints .u8 n_1 l]⟩], [], [.o (.a (.p 0 0)), .o (.a (.i .i64 k))] => some ((n_1 = n) ∧ (n < 70368744177664) ∧ ((0 : Int) ≤ s) ∧ (s ≤ ((n : Nat) : Int)), [], [bT [.rs 1 0 (crN s k n) 1, .i .i64 (crI s k n), .b false, .i .i64 rf, .b false], bT [.ints .u8 (crN s k n) (crL s k n l)]]) | _, _, _ => none) gam617
theorem gam618_ok : GamOk Tryz.prog gam618 := gcall_ok tabOkDA Tryz.func9 gam617_ok Tryz.call9 (by
 intro wk vs args p xs K1 h hv
 split at h
 ·simp only [Option.some.injEq, Prod.mk.injEq] at h; obtain ⟨rfl, rfl, rfl⟩ := h; obtain ⟨g0, g1, g2, g3⟩ := hv; subst g0; exact fun caps w rw β => rCra_body _ _ _ _ _ _ _ g1 g2 g3 w rw β
 ·simp at h)

theorem exV_w0_body0 (x : List Int) (h0 : (V.Byt x)) (hv0 : x.length = 32) (hb0 : (V.iszP (V.addP x ([0, 0, 0, 0, 0, 0, 0, 0, 0, 0, 0, 0, 0, 0, 0, 0, 0, 0, 0, 0, 0, 0, 0, 0, 0, 0, 0, 0, 0, 0, 0, 0] : List Int))) = true) (w : World) : Body Tryz.prog (tabOf tabDB) Tryz.f95 ⟨w, [], 0, noEnv⟩ (toA [.g [.ints .u8 32 x]]) [] (fun ys _ => ys = [.g [.ints .u8 32 ([0, 0, 0, 0, 0, 0, 0, 0, 0, 0, 0, 0, 0, 0, 0, 0, 0, 0, 0, 0, 0, 0, 0, 0, 0, 0, 0, 0, 0, 0, 0, 0] : List Int)], .a (.i .i64 9)]) :=
 Body.of_fin (Γ := gam618) (Λ := noLam) (Ψ := noPsi) (fuel := 0) (m := 13) (c := (Tryz.f95.body.getD .skip)) mix tabOkDB gam618_ok rfl (rs := [.cell 2 72, .tmp 3]) rfl rfl [true] []
  (vc := [((V.iszP (V.addP x ([0, 0, 0, 0, 0, 0, 0, 0, 0, 0, 0, 0, 0, 0, 0, 0, 0, 0, 0, 0, 0, 0, 0, 0, 0, 0, 0, 0, 0, 0, 0, 0] : List Int))) = true), (V.Byt (V.addP x ([0, 0, 0, 0, 0, 0, 0, 0, 0, 0, 0, 0, 0, 0, 0, 0, 0, 0, 0, 0, 0, 0, 0, 0, 0, 0, 0, 0, 0, 0, 0, 0] : List Int))), ((V.Byt x) ∧ (V.Byt ([0, 0, 0, 0, 0, 0, 0, 0, 0, 0, 0, 0, 0, 0, 0, 0, 0, 0, 0, 0, 0, 0, 0, 0, 0, 0, 0, 0, 0, 0, 0, 0] : List Int)))]) (by kernel_rfl)
  (aC hb0 (aC (V.addP_byt _ _) (aC ⟨(by assumption), (by unfold V.Byt; decide)⟩ (AllP_nil))))

def exV_w1 (x : List Int) : List Int :=
 (apMulB (V.addP x ([0, 0, 0, 0, 0, 0, 0, 0, 0, 0, 0, 0, 0, 0, 0, 0, 0, 0, 0, 0, 0, 0, 0, 0, 0, 0, 0, 0, 0, 0, 0, 0] : List Int)))

theorem exV_w1_body0 (x : List Int) (h0 : (V.Byt x)) (hv0 : x.length = 32) (hb0 : (V.iszP (V.addP x ([0, 0, 0, 0, 0, 0, 0, 0, 0, 0, 0, 0, 0, 0, 0, 0, 0, 0, 0, 0, 0, 0, 0, 0, 0, 0, 0, 0, 0, 0, 0, 0] : List Int))) = false) (w : World) : Body Tryz.prog (tabOf tabDB) Tryz.f95 ⟨w, [], 0, noEnv⟩ (toA [.g [.ints .u8 32 x]]) [] (fun ys _ => ys = [.g [.ints .u8 32 (exV_w1 x)], .a (.i .i64 0)]) :=
 Body.of_fin (Γ := gam618) (Λ := noLam) (Ψ := noPsi) (fuel := 0) (m := 13) (c := (Tryz.f95.body.getD .skip)) mix tabOkDB gam618_ok rfl (rs := [.cell 2 72, .tmp 3]) rfl rfl [false] []
  (vc := [((V.iszP (V.addP x ([0, 0, 0, 0, 0, 0, 0, 0, 0, 0, 0, 0, 0, 0, 0, 0, 0, 0, 0, 0, 0, 0, 0, 0, 0, 0, 0, 0, 0, 0, 0, 0] : List Int))) = false), (V.Byt (V.addP x ([0, 0, 0, 0, 0, 0, 0, 0, 0, 0, 0, 0, 0, 0, 0, 0, 0, 0, 0, 0, 0, 0, 0, 0, 0, 0, 0, 0, 0, 0, 0, 0] : List Int))), ((V.Byt x) ∧ (V.Byt ([0, 0, 0, 0, 0, 0, 0, 0, 0, 0, 0, 0, 0, 0, 0, 0, 0, 0, 0, 0, 0, 0, 0, 0, 0, 0, 0, 0, 0, 0, 0, 0] : List Int)))]) (by kernel_rfl)
  (aC hb0 (aC (V.addP_byt _ _) (aC ⟨(by assumption), (by unfold V.Byt; decide)⟩ (AllP_nil))))

def exV (x : List Int) : List Int :=
 (cond (V.iszP (V.addP x ([0, 0, 0, 0, 0, 0, 0, 0, 0, 0, 0, 0, 0, 0, 0, 0, 0, 0, 0, 0, 0, 0, 0, 0, 0, 0, 0, 0, 0, 0, 0, 0] : List Int))) ([0, 0, 0, 0, 0, 0, 0, 0, 0, 0, 0, 0, 0, 0, 0, 0, 0, 0, 0, 0, 0, 0, 0, 0, 0, 0, 0, 0, 0, 0, 0, 0] : List Int) (exV_w1 x))

def exV_1 (x : List Int) : Int :=
 (cond (V.iszP (V.addP x ([0, 0, 0, 0, 0, 0, 0, 0, 0, 0, 0, 0, 0, 0, 0, 0, 0, 0, 0, 0, 0, 0, 0, 0, 0, 0, 0, 0, 0, 0, 0, 0] : List Int))) (9 : Int) (0 : Int))

theorem exV_body (x : List Int) (h0 : (V.Byt x)) (w : World) : Body Tryz.prog (tabOf tabDB) Tryz.f95 ⟨w, [], 0, noEnv⟩ (toA [.g [.ints .u8 32 x]]) [] (fun ys _ => ys = [.g [.ints .u8 32 (exV x)], .a (.i .i64 (exV_1 x))]) :=
 Body.lens (c := (Tryz.f95.body.getD .skip)) rfl fun h => by
  cases hb0 : (V.iszP (V.addP x ([0, 0, 0, 0, 0, 0, 0, 0, 0, 0, 0, 0, 0, 0, 0, 0, 0, 0, 0, 0, 0, 0, 0, 0, 0, 0, 0, 0, 0, 0, 0, 0] : List Int)))
  ·exact (exV_w1_body0 x h0 (h.vals 0 _ _ _ rfl) hb0 w).mono fun _ _ hx => hx.trans (by rw [(show (exV x) = (exV_w1 x) from (cond_f hb0)), (show (exV_1 x) = 0 from (cond_f hb0))])
  ·exact (exV_w0_body0 x h0 (h.vals 0 _ _ _ rfl) hb0 w).mono fun _ _ hx => hx.trans (by rw [(show (exV x) = ([0, 0, 0, 0, 0, 0, 0, 0, 0, 0, 0, 0, 0, 0, 0, 0, 0, 0, 0, 0, 0, 0, 0, 0, 0, 0, 0, 0, 0, 0, 0, 0] : List Int) from (cond_t hb0)), (show (exV_1 x) = 9 from (cond_t hb0))])

theorem exV_pure (x : List Int) (h0 : (V.Byt x)) : PureC Tryz.prog 95 [.g [.ints .u8 32 x]] [.g [.ints .u8 32 (exV x)], .a (.i .i64 (exV_1 x))] :=
 PureC.of_body tabOkDB Tryz.func95 rfl rfl fun w => exV_body x h0 w

def gam619 : Gam := gpure 95 (fun args => match args with | [.o (.g [.ints .u8 (32 : Nat) x])] => some (some ((V.Byt x)), [.g [.ints .u8 (32 : Nat) (exV x)], .a (.i .i64 (exV_1 x))]) | _ => none) gam618
theorem gam619_ok : GamOk Tryz.prog gam619 := gpure_ok gam618_ok Tryz.call95 (by
 intro args vc xs h hv
 split at h
 ·simp only [Option.some.injEq, Prod.mk.injEq] at h; obtain ⟨rfl, rfl⟩ := h; exact ⟨_, by rfl, exV_pure _ hv⟩
 ·simp at h)

def kyV_w0 (x : List Int) : List Int :=
 (splice (splice (List.replicate 64 0) 0 32 (exV (sub x 0 32))) 32 32 (exV (sub x 32 32)))

def kyV_w0_1 (x : List Int) : Bool :=
 ((exV_1 (sub x 32 32)) == (0 : Int))

theorem kyV_w0_body0 (x : List Int) (h0 : (V.Byt x)) (hv0 : x.length = 64) (hb0 : ((exV_1 (sub x 0 32)) == (0 : Int)) = true) (w : World) : Body Tryz.prog (tabOf tabDB) Tryz.f58 ⟨w, [], 0, noEnv⟩ (toA [.g [.ints .u8 64 x]]) [] (fun ys _ => ys = [.g [.ints .u8 64 (kyV_w0 x)], .a (.b (kyV_w0_1 x))]) :=
 Body.of_fin (Γ := gam619) (Λ := noLam) (Ψ := noPsi) (fuel := 0) (m := 29) (c := (Tryz.f58.body.getD .skip)) mix tabOkDB gam619_ok rfl (rs := [.cell 2 133, .tmp 3]) rfl rfl [true, true, true] []
  (vc := [(((exV_1 (sub x 0 32)) == (0 : Int)) = true), (((exV_1 (sub x 0 32)) == (0 : Int)) = true), (((exV_1 (sub x 0 32)) == (0 : Int)) = true), (V.Byt (sub x 32 32)), (V.Byt (sub x 0 32))]) (by kernel_rfl)
  (aC hb0 (aC hb0 (aC hb0 (aC (V.byt_sub (by assumption) _ _) (aC (V.byt_sub (by assumption) _ _) (AllP_nil))))))

theorem kyV_w1_body0 (x : List Int) (h0 : (V.Byt x)) (hv0 : x.length = 64) (hb0 : ((exV_1 (sub x 0 32)) == (0 : Int)) = false) (w : World) : Body Tryz.prog (tabOf tabDB) Tryz.f58 ⟨w, [], 0, noEnv⟩ (toA [.g [.ints .u8 64 x]]) [] (fun ys _ => ys = [.g [.ints .u8 64 (kyV_w0 x)], .a (.b false)]) :=
 Body.of_fin (Γ := gam619) (Λ := noLam) (Ψ := noPsi) (fuel := 0) (m := 29) (c := (Tryz.f58.body.getD .skip)) mix tabOkDB gam619_ok rfl (rs := [.cell 2 133, .tmp 3]) rfl rfl [false, false, false] []
  (vc := [(((exV_1 (sub x 0 32)) == (0 : Int)) = false), (((exV_1 (sub x 0 32)) == (0 : Int)) = false), (((exV_1 (sub x 0 32)) == (0 : Int)) = false), (V.Byt (sub x 32 32)), (V.Byt (sub x 0 32))]) (by kernel_rfl)
  (aC hb0 (aC hb0 (aC hb0 (aC (V.byt_sub (by assumption) _ _) (aC (V.byt_sub (by assumption) _ _) (AllP_nil))))))

def kyV (x : List Int) : List Int :=
 (cond ((exV_1 (sub x 0 32)) == (0 : Int)) (kyV_w0 x) (kyV_w0 x))

def kyV_1 (x : List Int) : Bool :=
 (cond ((exV_1 (sub x 0 32)) == (0 : Int)) (kyV_w0_1 x) false)

theorem kyV_body (x : List Int) (h0 : (V.Byt x)) (w : World) : Body Tryz.prog (tabOf tabDB) Tryz.f58 ⟨w, [], 0, noEnv⟩ (toA [.g [.ints .u8 64 x]]) [] (fun ys _ => ys = [.g [.ints .u8 64 (kyV x)], .a (.b (kyV_1 x))]) :=
 Body.lens (c := (Tryz.f58.body.getD .skip)) rfl fun h => by
  cases hb0 : ((exV_1 (sub x 0 32)) == (0 : Int))
  ·exact (kyV_w1_body0 x h0 (h.vals 0 _ _ _ rfl) hb0 w).mono fun _ _ hx => hx.trans (by rw [(show (kyV x) = (kyV_w0 x) from (cond_f hb0)), (show (kyV_1 x) = false from (cond_f hb0))])
  ·exact (kyV_w0_body0 x h0 (h.vals 0 _ _ _ rfl) hb0 w).mono fun _ _ hx => hx.trans (by rw [(show (kyV x) = (kyV_w0 x) from (cond_t hb0)), (show (kyV_1 x) = (kyV_w0_1 x) from (cond_t hb0))])

theorem kyV_pure (x : List Int) (h0 : (V.Byt x)) : PureC Tryz.prog 58 [.g [.ints .u8 64 x]] [.g [.ints .u8 64 (kyV x)], .a (.b (kyV_1 x))] :=
 PureC.of_body tabOkDB Tryz.func58 rfl rfl fun w => kyV_body x h0 w

def gam620 : Gam := gpure 58 (fun args => match args with | [.o (.g [.ints .u8 (64 : Nat) x])] => some (some ((V.Byt x)), [.g [.ints .u8 (64 : Nat) (kyV x)], .a (.b (kyV_1 x))]) | _ => none) gam619
theorem gam620_ok : GamOk Tryz.prog gam620 := gpure_ok gam619_ok Tryz.call58 (by
 intro args vc xs h hv
 split at h
 ·simp only [Option.some.injEq, Prod.mk.injEq] at h; obtain ⟨rfl, rfl⟩ := h; exact ⟨_, by rfl, kyV_pure _ hv⟩
 ·simp at h)

def nbV (x : List Int) : List Int :=
 ((sub (sub x 0 32) 0 32) ++ (sub x 32 32))

theorem nbV_body0 (x : List Int) (hv0 : x.length = 64) (w : World) (rw : List Nat) (β : Env) : Body Tryz.prog (tabOf tabDB) Tryz.f60 ⟨w, rw, 0, β⟩ [.o (.g [.ints .u8 64 x])] [] (fun ys K' => ys = [.a (.rs 0 0 64 1)] ∧ K' = [bT [.ints .u8 64 (nbV x)]]) :=
 Body.of_finK (Γ := gam620) (Λ := noLam) (Ψ := noPsi) (fuel := 0) (m := 9) (c := (Tryz.f60.body.getD .skip)) mix tabOkDB gam620_ok rfl (rs := [.tmp 2]) rfl rfl [false, false] [.swap 0 2] 1
  (vc := [((32 ≤ 32) ∧ ((32 ≤ 32) ∧ (64 ≤ 64)) ∧ (64 ≤ 140737488355328)), ((cZ 0) ∧ (cZ 32)), (((32 ≤ 32) ∧ (32 ≤ 64)) ∧ (32 ≤ 140737488355328)), ((cZ 0) ∧ (cZ 32))]) (by kernel_rfl)
  (aC ⟨(by decide), ⟨(by decide), (by decide)⟩, (by decide)⟩ (aC ⟨(by decide), (by decide)⟩ (aC ⟨⟨(by decide), (by decide)⟩, (by decide)⟩ (aC ⟨(by decide), (by decide)⟩ (AllP_nil)))))

theorem nbV_body (x : List Int) (w : World) (rw : List Nat) (β : Env) : Body Tryz.prog (tabOf tabDB) Tryz.f60 ⟨w, rw, 0, β⟩ [.o (.g [.ints .u8 64 x])] [] (fun ys K' => ys = [.a (.rs 0 0 64 1)] ∧ K' = [some ⟨true, [.ints .u8 64 (nbV x)]⟩]) :=
 Body.lens (c := (Tryz.f60.body.getD .skip)) rfl fun h => nbV_body0 x (h.vals 0 _ _ _ rfl) w rw β

def gam621 : Gam := gcall 60 [] [.w] (fun wk vs args => match wk, vs, args with | [], [], [.o (.g [.ints .u8 (64 : Nat) x])] => some (True, [.a (.rs 0 0 (64 : Nat) 1)], [some ⟨true, [.ints .u8 (64 : Nat) (nbV x)]⟩]) | _, _, _ => none) gam620
theorem gam621_ok : GamOk Tryz.prog gam621 := gcall_ok tabOkDB Tryz.func60 gam620_ok Tryz.call60 (by
 intro wk vs args p xs K1 h hv
 split at h
 ·simp only [Option.some.injEq, Prod.mk.injEq] at h; obtain ⟨rfl, rfl, rfl⟩ := h; exact fun caps w rw β => nbV_body _ w rw β
 ·simp at h)

theorem kbV_body0 (x : List Int) (hv0 : x.length = 64) (w : World) (rw : List Nat) (β : Env) : Body Tryz.prog (tabOf tabDB) Tryz.f87 ⟨w, rw, 0, β⟩ [.o (.g [.ints .u8 64 x])] [] (fun ys K' => ys = [.a (.rs 0 0 64 1)] ∧ K' = [bT [.ints .u8 64 (nbV x)]]) :=
 Body.of_finK (Γ := gam621) (Λ := noLam) (Ψ := noPsi) (fuel := 0) (m := 9) (c := (Tryz.f87.body.getD .skip)) mix tabOkDB gam621_ok rfl (rs := [.tmp 2]) rfl rfl [false, false] [.swap 0 2] 1
  (vc := [((32 ≤ 32) ∧ ((32 ≤ 32) ∧ (64 ≤ 64)) ∧ (64 ≤ 140737488355328)), ((cZ 0) ∧ (cZ 32)), (((32 ≤ 32) ∧ (32 ≤ 64)) ∧ (32 ≤ 140737488355328)), ((cZ 0) ∧ (cZ 32))]) (by kernel_rfl)
  (aC ⟨(by decide), ⟨(by decide), (by decide)⟩, (by decide)⟩ (aC ⟨(by decide), (by decide)⟩ (aC ⟨⟨(by decide), (by decide)⟩, (by decide)⟩ (aC ⟨(by decide), (by decide)⟩ (AllP_nil)))))

theorem kbV_body (x : List Int) (w : World) (rw : List Nat) (β : Env) : Body Tryz.prog (tabOf tabDB) Tryz.f87 ⟨w, rw, 0, β⟩ [.o (.g [.ints .u8 64 x])] [] (fun ys K' => ys = [.a (.rs 0 0 64 1)] ∧ K' = [some ⟨true, [.ints .u8 64 (nbV x)]⟩]) :=
 Body.lens (c := (Tryz.f87.body.getD .skip)) rfl fun h => kbV_body0 x (h.vals 0 _ _ _ rfl) w rw β

def gam622 : Gam := gcall 87 [] [.w] (fun wk vs args => match wk, vs, args with | [], [], [.o (.g [.ints .u8 (64 : Nat) x])] => some (True, [.a (.rs 0 0 (64 : Nat) 1)], [some ⟨true, [.ints .u8 (64 : Nat) (nbV x)]⟩]) | _, _, _ => none) gam621
theorem gam622_ok : GamOk Tryz.prog gam622 := gcall_ok tabOkDB Tryz.func87 gam621_ok Tryz.call87 (by
 intro wk vs args p xs K1 h hv
 split at h
 ·simp only [Option.some.injEq, Prod.mk.injEq] at h; obtain ⟨rfl, rfl, rfl⟩ := h; exact fun caps w rw β => kbV_body _ w rw β
 ·simp at h)

def prV (x : List Int) : List Int :=
 (splice (splice (List.replicate 64 0) 0 32 (sub x 0 32)) 32 32 (sub x 32 32))

theorem prV_body0 (x : List Int) (hv0 : List.length x = 64) (w : World) : Body Tryz.prog (tabOf tabDB) Tryz.f62 ⟨w, [], 0, noEnv⟩ (toA [.g [.ints .u8 64 x]]) [] (fun ys _ => ys = [.g [.i .i64 (0 : Int), .ints .u8 64 (prV x)]]) :=
 Body.of_fin (Γ := gam622) (Λ := noLam) (Ψ := noPsi) (fuel := 0) (m := 8) (c := (Tryz.f62.body.getD .skip)) mix tabOkDB gam622_ok rfl (rs := [.cell 2 74]) rfl rfl [] []
  (vc := []) (by kernel_rfl)
  (AllP_nil)

theorem prV_body (x : List Int) (w : World) : Body Tryz.prog (tabOf tabDB) Tryz.f62 ⟨w, [], 0, noEnv⟩ (toA [.g [.ints .u8 64 x]]) [] (fun ys _ => ys = [.g [.i .i64 (0 : Int), .ints .u8 64 (prV x)]]) :=
 Body.lens (c := (Tryz.f62.body.getD .skip)) rfl fun h => prV_body0 x (h.vals 0 _ _ _ rfl) w

theorem prV_pure (x : List Int) : PureC Tryz.prog 62 [.g [.ints .u8 64 x]] [.g [.i .i64 (0 : Int), .ints .u8 64 (prV x)]] :=
 PureC.of_body tabOkDB Tryz.func62 rfl rfl fun w => prV_body x w

def gam623 : Gam := gpure 62 (fun args => match args with | [.o (.g [.ints .u8 (64 : Nat) x])] => some (none, [.g [.i .i64 (0 : Int), .ints .u8 (64 : Nat) (prV x)]]) | _ => none) gam622
theorem gam623_ok : GamOk Tryz.prog gam623 := gpure_ok gam622_ok Tryz.call62 (by
 intro args vc xs h hv
 split at h
 ·simp only [Option.some.injEq, Prod.mk.injEq] at h; obtain ⟨rfl, rfl⟩ := h; exact ⟨_, by rfl, prV_pure _⟩
 ·simp at h)

def smV (pl kd : Int) (q : Nat) (b : List Int) : List Int :=
 (shaD (([(IntKind.u8.wrap (shr .i64 pl (0 : Int))), (IntKind.u8.wrap (shr .i64 pl (8 : Int))), (IntKind.u8.wrap (shr .i64 pl (16 : Int))), (IntKind.u8.wrap (shr .i64 pl (24 : Int))), (IntKind.u8.wrap (shr .i64 pl (32 : Int))), (IntKind.u8.wrap (shr .i64 pl (40 : Int))), (IntKind.u8.wrap (shr .i64 pl (48 : Int))), (IntKind.u8.wrap (shr .i64 pl (56 : Int)))] : List Int) ++ (([kd] : List Int) ++ ((sub b 0 q) ++ ([] : List Int)))))

theorem smV_body0 (pl kd : Int) (q qm : Nat) (b : List Int) (cap0 : Nat) (h0 : (qm = q)) (h1 : (q < 35184372088832)) (hc0 : q ≤ cap0) (hl0_0 : b.length = qm) (w : World) (rw : List Nat) (β : Env) : Body Tryz.prog (tabOf tabDB) Tryz.f90 ⟨w, rw, 1, β⟩ [.o (.a (.i .i64 pl)), .o (.a (.i .u8 kd)), .o (.a (.sl 0 0 q cap0))] [bF [.ints .u8 qm b]] (fun ys K' => ys = [.a (.sl 1 0 8 64)] ∧ K' = [bF [.ints .u8 qm b], bT [.ints .u8 64 (smV pl kd q b)]]) :=
 Body.of_finKAt (Γ := (gjoin w rw gam623)) (Λ := noLam) (Ψ := noPsi) (fuel := 9) (m := 28) (c := (Tryz.f90.body.getD .skip)) mix tabOkDB (gjoin_ok (gam623_ok.at _ _)) rfl (rs := [.tmp 6]) rfl rfl [true, true, true, true, true, true, true, true, false] [.swap 1 4] 2
  (vc := [((cZ 0) ∧ (cZ 8) ∧ ((8 : Int) ≤ 64)), ((3 = 3) ∧ ((8 ≤ 8) ∧ ((1 ≤ 1) ∧ (((0 + q) ≤ qm) ∧ True))) ∧ ((List.length (([(IntKind.u8.wrap (shr .i64 pl (0 : Int))), (IntKind.u8.wrap (shr .i64 pl (8 : Int))), (IntKind.u8.wrap (shr .i64 pl (16 : Int))), (IntKind.u8.wrap (shr .i64 pl (24 : Int))), (IntKind.u8.wrap (shr .i64 pl (32 : Int))), (IntKind.u8.wrap (shr .i64 pl (40 : Int))), (IntKind.u8.wrap (shr .i64 pl (48 : Int))), (IntKind.u8.wrap (shr .i64 pl (56 : Int)))] : List Int) ++ (([kd] : List Int) ++ ((sub b 0 q) ++ ([] : List Int))))) < 70368744177664) ∧ True ∧ (cN 3 70368744177664)), ((cZ 0) ∧ (cZ 8)), (false = false), (cN 7 8), (cI 7 8), (cZ 56), cT, (cN 6 8), (cI 6 8), (cZ 48), cT, (cN 5 8), (cI 5 8), (cZ 40), cT, (cN 4 8), (cI 4 8), (cZ 32), cT, (cN 3 8), (cI 3 8), (cZ 24), cT, (cN 2 8), (cI 2 8), (cZ 16), cT, (cN 1 8), (cI 1 8), (cZ 8), cT, (cN 0 8), (cI 0 8), (cZ 0), cT]) (by kernel_rfl)
  (aC ⟨(dd rfl), (dd rfl), (dd rfl)⟩ (aC ⟨rfl, ⟨(dd rfl), ⟨(dd rfl), ⟨(by first|omega|(simp (disch:=omega) only [wrapI];omega)), trivial⟩⟩⟩, (by have := sub_lenle b 0 q; simp only [List.length_append, List.length_cons, List.length_nil]; omega), trivial, (dd rfl)⟩ (aC (dd rfl) (aC rfl (aC (dd rfl) (aC (dd rfl) (aC (dd rfl) (aC rfl (aC (dd rfl) (aC (dd rfl) (aC (dd rfl) (aC rfl (aC (dd rfl) (aC (dd rfl) (aC (dd rfl) (aC rfl (aC (dd rfl) (aC (dd rfl) (aC (dd rfl) (aC rfl (aC (dd rfl) (aC (dd rfl) (aC (dd rfl) (aC rfl (aC (dd rfl) (aC (dd rfl) (aC (dd rfl) (aC rfl (aC (dd rfl) (aC (dd rfl) (aC (dd rfl) (aC rfl (aC (dd rfl) (aC (dd rfl) (aC (dd rfl) (aC rfl (AllP_nil)))))))))))))))))))))))))))))))))))))

theorem smV_body (pl kd : Int) (q qm : Nat) (b : List Int) (cap0 : Nat) (h0 : (qm = q)) (h1 : (q < 35184372088832)) (w : World) (rw : List Nat) (β : Env) : Body Tryz.prog (tabOf tabDB) Tryz.f90 ⟨w, rw, 1, β⟩ [.o (.a (.i .i64 pl)), .o (.a (.i .u8 kd)), .o (.a (.sl 0 0 q cap0))] [bF [.ints .u8 qm b]] (fun ys K' => ys = [.a (.sl 1 0 8 64)] ∧ K' = [bF [.ints .u8 qm b], bT [.ints .u8 64 (smV pl kd q b)]]) :=
 Body.lens (c := (Tryz.f90.body.getD .skip)) rfl fun h => smV_body0 pl kd q qm b cap0 h0 h1 (h.caps 2 _ _ _ _ rfl) (h.lens 0 _ .u8 qm b rfl (by simp)) w rw β

def gam624 : Gam := gcall 90 [] [.w, .w, .s 1] (fun wk vs args => match wk, vs, args with | [], [⟨_, _, _, [.ints .u8 qm b]⟩], [.o (.a (.i .i64 pl)), .o (.a (.i .u8 kd)), .o (.a (.sl 0 0 q _))] => some ((qm = q) ∧ (q < 35184372088832), [.a (.sl 1 0 8 64)], [bF [.ints .u8 qm b], bT [.ints .u8 64 (smV pl kd q b)]]) | _, _, _ => none) gam623
theorem gam624_ok : GamOk Tryz.prog gam624 := gcall_ok tabOkDB Tryz.func90 gam623_ok Tryz.call90 (by
 intro wk vs args p xs K1 h hv
 split at h
 ·simp only [Option.some.injEq, Prod.mk.injEq] at h; obtain ⟨rfl, rfl, rfl⟩ := h; obtain ⟨g0, g1⟩ := hv; exact fun caps w rw β => smV_body _ _ _ _ _ _ g0 g1 w rw β
 ·simp at h)

def rcV (q : Nat) : Nat :=
 ((1 + q) + 8)

def rcV_1 (pl kd : Int) (q : Nat) (b : List Int) : List Int :=
 ((sub (([kd] : List Int) ++ (sub b 0 q)) 0 (1 + q)) ++ (sub (smV pl kd q (sub b 0 q)) 0 8))

theorem rcV_body0 (pl kd : Int) (q qm : Nat) (b : List Int) (cap0 : Nat) (h0 : (qm = q)) (h1 : (q < 35184372088832)) (h2 : (0 < q)) (hc0 : q ≤ cap0) (hl0_0 : b.length = qm) (w : World) (rw : List Nat) (β : Env) : Body Tryz.prog (tabOf tabDB) Tryz.f96 ⟨w, rw, 1, β⟩ [.o (.a (.i .i64 pl)), .o (.a (.i .u8 kd)), .o (.a (.sl 0 0 q cap0))] [bF [.ints .u8 qm b]] (fun ys K' => ys = [.a (.rs 1 0 (rcV q) 1)] ∧ K' = [bF [.ints .u8 qm b], bT [.ints .u8 (rcV q) (rcV_1 pl kd q b)]]) :=
 Body.of_finK (Γ := gam624) (Λ := noLam) (Ψ := noPsi) (fuel := 0) (m := 18) (c := (Tryz.f96.body.getD .skip)) mix tabOkDB gam624_ok rfl (rs := [.tmp 6]) rfl rfl [false, false] [.swap 1 4] 2
  (vc := [(((0 + (1 + q)) ≤ (1 + q)) ∧ ((8 ≤ 8) ∧ (8 ≤ 64)) ∧ ((((1 + q) + 8) * 1) ≤ 140737488355328)), ((True ∧ (True ∧ (((0 + q) ≤ qm) ∧ True))) ∧ ((q = q) ∧ (q < 35184372088832))), ((1 ≤ 1) ∧ ((q ≤ q) ∧ ((0 + q) ≤ qm)) ∧ (1 < (1 + q)) ∧ (((1 + q) * 1) ≤ 140737488355328))]) (by kernel_rfl)
  (aC ⟨(by first|omega|(simp (disch:=omega) only [wrapI];omega)), (dd rfl), (by first|omega|(simp (disch:=omega) only [wrapI];omega))⟩ (aC ⟨⟨trivial, ⟨trivial, ⟨(by first|omega|(simp (disch:=omega) only [wrapI];omega)), trivial⟩⟩⟩, ⟨rfl, h1⟩⟩ (aC ⟨(dd rfl), ⟨(by first|omega|(simp (disch:=omega) only [wrapI];omega)), (by first|omega|(simp (disch:=omega) only [wrapI];omega))⟩, (by first|omega|(simp (disch:=omega) only [wrapI];omega)), (by first|omega|(simp (disch:=omega) only [wrapI];omega))⟩ (AllP_nil))))

theorem rcV_body (pl kd : Int) (q qm : Nat) (b : List Int) (cap0 : Nat) (h0 : (qm = q)) (h1 : (q < 35184372088832)) (h2 : (0 < q)) (w : World) (rw : List Nat) (β : Env) : Body Tryz.prog (tabOf tabDB) Tryz.f96 ⟨w, rw, 1, β⟩ [.o (.a (.i .i64 pl)), .o (.a (.i .u8 kd)), .o (.a (.sl 0 0 q cap0))] [bF [.ints .u8 qm b]] (fun ys K' => ys = [.a (.rs 1 0 (rcV q) 1)] ∧ K' = [bF [.ints .u8 qm b], bT [.ints .u8 (rcV q) (rcV_1 pl kd q b)]]) :=
 Body.lens (c := (Tryz.f96.body.getD .skip)) rfl fun h => rcV_body0 pl kd q qm b cap0 h0 h1 h2 (h.caps 2 _ _ _ _ rfl) (h.lens 0 _ .u8 qm b rfl (by simp)) w rw β

def gam625 : Gam := gcall 96 [] [.w, .w, .s 1] (fun wk vs args => match wk, vs, args with | [], [⟨_, _, _, [.ints .u8 qm b]⟩], [.o (.a (.i .i64 pl)), .o (.a (.i .u8 kd)), .o (.a (.sl 0 0 q _))] => some ((qm = q) ∧ (q < 35184372088832) ∧ (0 < q), [.a (.rs 1 0 (rcV q) 1)], [bF [.ints .u8 qm b], bT [.ints .u8 (rcV q) (rcV_1 pl kd q b)]]) | _, _, _ => none) gam624
theorem gam625_ok : GamOk Tryz.prog gam625 := gcall_ok tabOkDB Tryz.func96 gam624_ok Tryz.call96 (by
 intro wk vs args p xs K1 h hv
 split at h
 ·simp only [Option.some.injEq, Prod.mk.injEq] at h; obtain ⟨rfl, rfl, rfl⟩ := h; obtain ⟨g0, g1, g2⟩ := hv; exact fun caps w rw β => rcV_body _ _ _ _ _ _ g0 g1 g2 w rw β
 ·simp at h)

theorem may_body0 (a u : Nat) (rc : Int) (n : Nat) (s : Int) (l : List Int) (tz : Nat) (T : List Int) (M : List (List Int × Int)) (uz : Nat) (U : List Int) (hl1_1 : List.length ([s, (-1 : Int)] : List Int) = 2) (hl2_0 : l.length = n) (hl3_0 : T.length = tz) (hl5_0 : U.length = uz) (w : World) (rw : List Nat) (β : Env) : Body Tryz.prog (tabOf tabDB) Tryz.f56 ⟨w, rw, 6, β⟩ [.o (.a (.p 0 0))] [bT [.p 1 0, .rs 3 0 a 128, .mv 4, .rs 5 0 u 64, .i .i64 rc, .b false], bT [.rs 2 0 n 1, .ints .i64 2 ([s, (-1 : Int)] : List Int), .b false, .b true], bT [.ints .u8 n l], bT [.ints .u8 tz T], bT [.mp 64 M], bT [.ints .u8 uz U]] (fun ys K' => ys = [.a (.i .i64 0)] ∧ K' = [bT [.p 1 0, .rs 3 0 a 128, .mv 4, .rs 5 0 u 64, .i .i64 rc, .b false], bT [.rs 2 0 n 1, .ints .i64 2 ([s, (-1 : Int)] : List Int), .b false, .b true], bT [.ints .u8 n l], bT [.ints .u8 tz T], bT [.mp 64 M], bT [.ints .u8 uz U]]) :=
 Body.of_finK (Γ := gam625) (Λ := noLam) (Ψ := noPsi) (fuel := 0) (m := 18) (c := (Tryz.f56.body.getD .skip)) mix tabOkDB gam625_ok rfl (rs := [.tmp 2]) rfl rfl [true, true, true, true, true, false, false, false] [] 6
  (vc := [(false = false), (false = false), (false = false), (false = false), (false = false), (false = false), (false = false), (false = false)]) (by kernel_rfl)
  (aC rfl (aC rfl (aC rfl (aC rfl (aC rfl (aC rfl (aC rfl (aC rfl (AllP_nil)))))))))

theorem may_body (a u : Nat) (rc : Int) (n : Nat) (s : Int) (l : List Int) (tz : Nat) (T : List Int) (M : List (List Int × Int)) (uz : Nat) (U : List Int) (w : World) (rw : List Nat) (β : Env) : Body Tryz.prog (tabOf tabDB) Tryz.f56 ⟨w, rw, 6, β⟩ [.o (.a (.p 0 0))] [bT [.p 1 0, .rs 3 0 a 128, .mv 4, .rs 5 0 u 64, .i .i64 rc, .b false], bT [.rs 2 0 n 1, .ints .i64 2 ([s, (-1 : Int)] : List Int), .b false, .b true], bT [.ints .u8 n l], bT [.ints .u8 tz T], bT [.mp 64 M], bT [.ints .u8 uz U]] (fun ys K' => ys = [.a (.i .i64 0)] ∧ K' = [bT [.p 1 0, .rs 3 0 a 128, .mv 4, .rs 5 0 u 64, .i .i64 rc, .b false], bT [.rs 2 0 n 1, .ints .i64 2 ([s, (-1 : Int)] : List Int), .b false, .b true], bT [.ints .u8 n l], bT [.ints .u8 tz T], bT [.mp 64 M], bT [.ints .u8 uz U]]) :=
 Body.lens (c := (Tryz.f56.body.getD .skip)) rfl fun h => may_body0 a u rc n s l tz T M uz U (h.lens 1 _ .i64 2 ([s, (-1 : Int)] : List Int) rfl (by simp)) (h.lens 2 _ .u8 n l rfl (by simp)) (h.lens 3 _ .u8 tz T rfl (by simp)) (h.lens 5 _ .u8 uz U rfl (by simp)) w rw β

def gam626 : Gam := gcall 56 [true, true, true, true, true, true] [.w] (fun wk vs args => match wk, vs, args with | [⟨true, [.p 1 0, .rs 3 0 a 128, .mv 4, .rs 5 0 u 64, .i .i64 rc, .b false]⟩, ⟨true, [.rs 2 0 n 1, .ints .i64 2 ([s, (-1 : Int)] : List Int), .b false, .b true]⟩, ⟨true, [.ints .u8 n_1 l]⟩, ⟨true, [.ints .u8 tz T]⟩, ⟨true, [.mp 64 M]⟩, ⟨true, [.ints .u8 uz U]⟩], [], [.o (.a (.p 0 0))] => some ((n_1 = n), [.a (.i .i64 0)], [bT [.p 1 0, .rs 3 0 a 128, .mv 4, .rs 5 0 u 64, .i .i64 rc, .b false], bT [.rs 2 0 n 1, .ints .i64 2 ([s, (-1 : Int)] : List Int), .b false, .b true], bT [.ints .u8 n l], bT [.ints .u8 tz T], bT [.mp 64 M], bT [.ints .u8 uz U]]) | _, _, _ => none) gam625
theorem gam626_ok : GamOk Tryz.prog gam626 := gcall_ok tabOkDB Tryz.func56 gam625_ok Tryz.call56 (by
 intro wk vs args p xs K1 h hv
 split at h
 ·simp only [Option.some.injEq, Prod.mk.injEq] at h; obtain ⟨rfl, rfl, rfl⟩ := h; have g0 := hv; subst g0; exact fun caps w rw β => may_body _ _ _ _ _ _ _ _ _ _ _ w rw β
 ·simp at h)

def wrV (n q : Nat) : Nat :=
 (n + (rcV q))

def wrV_1 (n q : Nat) : Int :=
 (((n + (rcV q)) : Nat) : Int)

def wrV_2 (rc : Int) (l : List Int) (kd : Int) (q : Nat) (b : List Int) : List Int :=
 (l ++ (sub (rcV_1 rc kd q b) 0 (rcV q)))

theorem wrV_body0 (a u : Nat) (rc : Int) (n : Nat) (s : Int) (l : List Int) (tz : Nat) (T : List Int) (M : List (List Int × Int)) (uz : Nat) (U : List Int) (kd : Int) (q : Nat) (qm : Nat) (b : List Int) (cap6 : Nat) (h0 : (qm = q)) (h1 : (n < 70368744177664)) (h2 : (q < 1099511627776)) (h3 : (0 < q)) (hc6 : q ≤ cap6) (hl1_1 : List.length ([s, (-1 : Int)] : List Int) = 2) (hl2_0 : l.length = n) (hl3_0 : T.length = tz) (hl5_0 : U.length = uz) (hl6_0 : b.length = qm) (w : World) (rw : List Nat) (β : Env) : Body Tryz.prog (tabOf tabDB) Tryz.f59 ⟨w, rw, 7, β⟩ [.o (.a (.p 0 0)), .o (.a (.i .u8 kd)), .o (.a (.sl 6 0 q cap6))] [bT [.p 1 0, .rs 3 0 a 128, .mv 4, .rs 5 0 u 64, .i .i64 rc, .b false], bT [.rs 2 0 n 1, .ints .i64 2 ([s, (-1 : Int)] : List Int), .b false, .b true], bT [.ints .u8 n l], bT [.ints .u8 tz T], bT [.mp 64 M], bT [.ints .u8 uz U], bF [.ints .u8 qm b]] (fun ys K' => ys = [.a (.i .i64 0)] ∧ K' = [bT [.p 1 0, .rs 3 0 a 128, .mv 4, .rs 5 0 u 64, .i .i64 rc, .b false], bT [.rs 7 0 (wrV n q) 1, .ints .i64 2 ([(wrV_1 n q), (-1 : Int)] : List Int), .b false, .b true], none, bT [.ints .u8 tz T], bT [.mp 64 M], bT [.ints .u8 uz U], bF [.ints .u8 qm b], bT [.ints .u8 (wrV n q) (wrV_2 rc l kd q b)]]) :=
 Body.of_finK (Γ := gam626) (Λ := noLam) (Ψ := noPsi) (fuel := 0) (m := 34) (c := (Tryz.f59.body.getD .skip)) mix tabOkDB gam626_ok rfl (rs := [.tmp 6]) rfl rfl [true] [.swap 7 8, .eqS 6 (.o (.a (.i .i64 0))), .eqB 0 (⟨true, [.p 1 0, .rs 3 0 a 128, .mv 4, .rs 5 0 u 64, .i .i64 rc, .b false]⟩), .eqB 1 (⟨true, [.rs 7 0 (n + (rcV q)) 1, .ints .i64 2 ([(((n + (rcV q)) : Nat) : Int), (-1 : Int)] : List Int), .b false, .b true]⟩), .eqB 7 (⟨true, [.ints .u8 (n + (rcV q)) (l ++ (sub (rcV_1 rc kd q b) 0 (rcV q)))]⟩)] 8
  (vc := [((bT [.ints .u8 (apN (-1 : Int) false n (rcV q)) (apL (-1 : Int) false l (sub (rcV_1 rc kd q (sub b 0 q)) 0 (rcV q)))] : Option Blk) = bT [.ints .u8 (n + (rcV q)) (l ++ (sub (rcV_1 rc kd q b) 0 (rcV q)))]), ((bT [.rs 7 0 (apN (-1 : Int) false n (rcV q)) 1, .ints .i64 2 ([(syS (dkF (-1 : Int) false) (dkO (-1 : Int) false) s (apN (-1 : Int) false n (rcV q))), (dkF (dkF (-1 : Int) false) (dkO (-1 : Int) false))] : List Int), .b (dkO (dkF (-1 : Int) false) (dkO (-1 : Int) false)), .b true] : Option Blk) = bT [.rs 7 0 (n + (rcV q)) 1, .ints .i64 2 ([(((n + (rcV q)) : Nat) : Int), (-1 : Int)] : List Int), .b false, .b true]), ((bT [.p 1 0, .rs 3 0 a 128, .mv 4, .rs 5 0 u 64, .i .i64 rc, .b ((dkE (dkF (-1 : Int) false) (dkO (-1 : Int) false)) != (0 : Int))] : Option Blk) = bT [.p 1 0, .rs 3 0 a 128, .mv 4, .rs 5 0 u 64, .i .i64 rc, .b false]), ((.o (.a (.i .i64 (dkE (dkF (-1 : Int) false) (dkO (-1 : Int) false)))) : AV) = .o (.a (.i .i64 0))), ((True ∧ True) ∧ (((apN (-1 : Int) false n (rcV q)) = (apN (-1 : Int) false n (rcV q))) ∧ ((dkF (-1 : Int) false) < 9223372036854775808) ∧ ((-1 : Int) ≤ (dkF (-1 : Int) false)))), (((dkE (-1 : Int) false) == (0 : Int)) = true), ((True ∧ (((0 + (rcV q)) ≤ (rcV q)) ∧ True)) ∧ ((n = n) ∧ ((rcV q) = (rcV q)) ∧ ((-1 : Int) < 9223372036854775808) ∧ ((-1 : Int) ≤ (-1 : Int)) ∧ (n < 70368744177664) ∧ ((rcV q) < 70368744177664))), ((True ∧ (True ∧ (((0 + q) ≤ qm) ∧ True))) ∧ ((q = q) ∧ (q < 35184372088832) ∧ (0 < q)))]) (by kernel_rfl)
  (aC ((by rw [show sub b 0 q = b from ssub_all b (hl6_0.trans h0)]; rfl)) (aC (rfl) (aC (rfl) (aC (rfl) (aC ⟨⟨trivial, trivial⟩, ⟨rfl, (by have hr : rcV q = 1 + q + 8 := rfl; have hf : dkF (-1) false = -1 := rfl; first | omega | (simp (disch := omega) only [wrapI]; omega)), (by have hr : rcV q = 1 + q + 8 := rfl; have hf : dkF (-1) false = -1 := rfl; first | omega | (simp (disch := omega) only [wrapI]; omega))⟩⟩ (aC rfl (aC ⟨⟨trivial, ⟨(by have hr : rcV q = 1 + q + 8 := rfl; have hf : dkF (-1) false = -1 := rfl; first | omega | (simp (disch := omega) only [wrapI]; omega)), trivial⟩⟩, ⟨rfl, rfl, (dd rfl), (dd rfl), h1, (by have hr : rcV q = 1 + q + 8 := rfl; have hf : dkF (-1) false = -1 := rfl; first | omega | (simp (disch := omega) only [wrapI]; omega))⟩⟩ (aC ⟨⟨trivial, ⟨trivial, ⟨(by have hr : rcV q = 1 + q + 8 := rfl; have hf : dkF (-1) false = -1 := rfl; first | omega | (simp (disch := omega) only [wrapI]; omega)), trivial⟩⟩⟩, ⟨rfl, (by have hr : rcV q = 1 + q + 8 := rfl; have hf : dkF (-1) false = -1 := rfl; first | omega | (simp (disch := omega) only [wrapI]; omega)), h3⟩⟩ (AllP_nil)))))))))

theorem wrV_body (a u : Nat) (rc : Int) (n : Nat) (s : Int) (l : List Int) (tz : Nat) (T : List Int) (M : List (List Int × Int)) (uz : Nat) (U : List Int) (kd : Int) (q : Nat) (qm : Nat) (b : List Int) (cap6 : Nat) (h0 : (qm = q)) (h1 : (n < 70368744177664)) (h2 : (q < 1099511627776)) (h3 : (0 < q)) (w : World) (rw : List Nat) (β : Env) : Body Tryz.prog (tabOf tabDB) Tryz.f59 ⟨w, rw, 7, β⟩ [.o (.a (.p 0 0)), .o (.a (.i .u8 kd)), .o (.a (.sl 6 0 q cap6))] [bT [.p 1 0, .rs 3 0 a 128, .mv 4, .rs 5 0 u 64, .i .i64 rc, .b false], bT [.rs 2 0 n 1, .ints .i64 2 ([s, (-1 : Int)] : List Int), .b false, .b true], bT [.ints .u8 n l], bT [.ints .u8 tz T], bT [.mp 64 M], bT [.ints .u8 uz U], bF [.ints .u8 qm b]] (fun ys K' => ys = [.a (.i .i64 0)] ∧ K' = [bT [.p 1 0, .rs 3 0 a 128, .mv 4, .rs 5 0 u 64, .i .i64 rc, .b false], bT [.rs 7 0 (wrV n q) 1, .ints .i64 2 ([(wrV_1 n q), (-1 : Int)] : List Int), .b false, .b true], none, bT [.ints .u8 tz T], bT [.mp 64 M], bT [.ints .u8 uz U], bF [.ints .u8 qm b], bT [.ints .u8 (wrV n q) (wrV_2 rc l kd q b)]]) :=
 Body.lens (c := (Tryz.f59.body.getD .skip)) rfl fun h => wrV_body0 a u rc n s l tz T M uz U kd q qm b cap6 h0 h1 h2 h3 (h.caps 2 _ _ _ _ rfl) (h.lens 1 _ .i64 2 ([s, (-1 : Int)] : List Int) rfl (by simp)) (h.lens 2 _ .u8 n l rfl (by simp)) (h.lens 3 _ .u8 tz T rfl (by simp)) (h.lens 5 _ .u8 uz U rfl (by simp)) (h.lens 6 _ .u8 qm b rfl (by simp)) w rw β

def gam627 : Gam := gcall 59 [true, true, true, true, true, true] [.w, .w, .s 1] (fun wk vs args => match wk, vs, args with | [⟨true, [.p 1 0, .rs 3 0 a 128, .mv 4, .rs 5 0 u 64, .i .i64 rc, .b false]⟩, ⟨true, [.rs 2 0 n 1, .ints .i64 2 ([s, (-1 : Int)] : List Int), .b false, .b true]⟩, ⟨true, [.ints .u8 n_1 l]⟩, ⟨true, [.ints .u8 tz T]⟩, ⟨true, [.mp 64 M]⟩, ⟨true, [.ints .u8 uz U]⟩], [⟨_, _, _, [.ints .u8 qm b]⟩], [.o (.a (.p 0 0)), .o (.a (.i .u8 kd)), .o (.a (.sl 6 0 q _))] => some ((n_1 = n) ∧ (qm = q) ∧ (n < 70368744177664) ∧ (q < 1099511627776) ∧ (0 < q), [.a (.i .i64 0)], [bT [.p 1 0, .rs 3 0 a 128, .mv 4, .rs 5 0 u 64, .i .i64 rc, .b false], bT [.rs 7 0 (wrV n q) 1, .ints .i64 2 ([(wrV_1 n q), (-1 : Int)] : List Int), .b false, .b true], none, bT [.ints .u8 tz T], bT [.mp 64 M], bT [.ints .u8 uz U], bF [.ints .u8 qm b], bT [.ints .u8 (wrV n q) (wrV_2 rc l kd q b)]]) | _, _, _ => none) gam626
theorem gam627_ok : GamOk Tryz.prog gam627 := gcall_ok tabOkDB Tryz.func59 gam626_ok Tryz.call59 (by
 intro wk vs args p xs K1 h hv
 split at h
 ·simp only [Option.some.injEq, Prod.mk.injEq] at h; obtain ⟨rfl, rfl, rfl⟩ := h; obtain ⟨g0, g1, g2, g3, g4⟩ := hv; subst g0; exact fun caps w rw β => wrV_body _ _ _ _ _ _ _ _ _ _ _ _ _ _ _ _ g1 g2 g3 g4 w rw β
 ·simp at h)

def cmV (a : Nat) : Nat :=
 (a + 1)

def cmV_1 (rc : Int) : Int :=
 (rc + (1 : Int))

def cmV_2 (M : List (List Int × Int)) (e : List Int) : List (List Int × Int) :=
 (mset M (sub e 0 64) (1 : Int))

def cmV_3 (a : Nat) : Nat :=
 ((a + 1) * 128)

def cmV_4 (T e : List Int) : List Int :=
 (T ++ e)

theorem cmV_body0 (a u : Nat) (rc : Int) (n : Nat) (s : Int) (l : List Int) (tz : Nat) (T : List Int) (M : List (List Int × Int)) (uz : Nat) (U : List Int) (e : List Int) (h0 : (tz = (a * 128))) (h1 : (a < 68719476736)) (h2 : ((0 : Int) ≤ rc)) (h3 : (rc < (1099511627776 : Int))) (hl1_1 : List.length ([s, (-1 : Int)] : List Int) = 2) (hl2_0 : l.length = n) (hl3_0 : T.length = tz) (hl5_0 : U.length = uz) (hv1 : e.length = 128) (w : World) (rw : List Nat) (β : Env) : Body Tryz.prog (tabOf tabDB) Tryz.f61 ⟨w, rw, 6, β⟩ [.o (.a (.p 0 1)), .o (.g [.ints .u8 128 e])] [bT [.p 1 0, .rs 3 0 a 128, .mv 4, .rs 5 0 u 64, .i .i64 rc, .b false], bT [.rs 2 0 n 1, .ints .i64 2 ([s, (-1 : Int)] : List Int), .b false, .b true], bT [.ints .u8 n l], bT [.ints .u8 tz T], bT [.mp 64 M], bT [.ints .u8 uz U]] (fun ys K' => ys = [] ∧ K' = [bT [.p 1 0, .rs 6 0 (cmV a) 128, .mv 4, .rs 5 0 u 64, .i .i64 (cmV_1 rc), .b false], bT [.rs 2 0 n 1, .ints .i64 2 ([s, (-1 : Int)] : List Int), .b false, .b true], bT [.ints .u8 n l], none, bT [.mp 64 (cmV_2 M e)], bT [.ints .u8 uz U], bT [.ints .u8 (cmV_3 a) (cmV_4 T e)]]) :=
 Body.of_finK (Γ := gam627) (Λ := noLam) (Ψ := noPsi) (fuel := 0) (m := 27) (c := (Tryz.f61.body.getD .skip)) mix tabOkDB gam627_ok rfl (rs := []) rfl rfl [false] [.swap 6 8, .eqB 0 (⟨true, [.p 1 0, .rs 6 0 (a + 1) 128, .mv 4, .rs 5 0 u 64, .i .i64 (rc + (1 : Int)), .b false]⟩), .eqB 6 (⟨true, [.ints .u8 ((a + 1) * 128) (T ++ e)]⟩), .eqB 4 (⟨true, [.mp 64 (mset M (sub e 0 64) (1 : Int))]⟩)] 7
  (vc := [((bT [.mp 64 (mset M (sub e 0 64) (1 : Int))] : Option Blk) = bT [.mp 64 (mset M (sub e 0 64) (1 : Int))]), ((bT [.ints .u8 ((a * 128) + 128) ((sub T 0 (a * 128)) ++ (sub e 0 128))] : Option Blk) = bT [.ints .u8 ((a + 1) * 128) (T ++ e)]), ((bT [.p 1 0, .rs 6 0 (a + 1) 128, .mv 4, .rs 5 0 u 64, .i .i64 (IntKind.i64.wrap (rc + (1 : Int))), .b false] : Option Blk) = bT [.p 1 0, .rs 6 0 (a + 1) 128, .mv 4, .rs 5 0 u 64, .i .i64 (rc + (1 : Int)), .b false]), (((0 + (a * 128)) ≤ tz) ∧ ((1 ≤ 1) ∧ (128 ≤ 128)) ∧ (((a + 1) * 128) ≤ 140737488355328))]) (by kernel_rfl)
  (aC (rfl) (aC ((by rw [show a * 128 + 128 = (a + 1) * 128 by omega, ssub_all T (hl3_0.trans h0), ssub_all e hv1])) (aC ((by rw [wrapI (by omega) (by omega)])) (aC ⟨(by first|omega|(simp (disch:=omega) only [wrapI];omega)), (dd rfl), (by first|omega|(simp (disch:=omega) only [wrapI];omega))⟩ (AllP_nil)))))

theorem cmV_body (a u : Nat) (rc : Int) (n : Nat) (s : Int) (l : List Int) (tz : Nat) (T : List Int) (M : List (List Int × Int)) (uz : Nat) (U : List Int) (e : List Int) (h0 : (tz = (a * 128))) (h1 : (a < 68719476736)) (h2 : ((0 : Int) ≤ rc)) (h3 : (rc < (1099511627776 : Int))) (w : World) (rw : List Nat) (β : Env) : Body Tryz.prog (tabOf tabDB) Tryz.f61 ⟨w, rw, 6, β⟩ [.o (.a (.p 0 1)), .o (.g [.ints .u8 128 e])] [bT [.p 1 0, .rs 3 0 a 128, .mv 4, .rs 5 0 u 64, .i .i64 rc, .b false], bT [.rs 2 0 n 1, .ints .i64 2 ([s, (-1 : Int)] : List Int), .b false, .b true], bT [.ints .u8 n l], bT [.ints .u8 tz T], bT [.mp 64 M], bT [.ints .u8 uz U]] (fun ys K' => ys = [] ∧ K' = [bT [.p 1 0, .rs 6 0 (cmV a) 128, .mv 4, .rs 5 0 u 64, .i .i64 (cmV_1 rc), .b false], bT [.rs 2 0 n 1, .ints .i64 2 ([s, (-1 : Int)] : List Int), .b false, .b true], bT [.ints .u8 n l], none, bT [.mp 64 (cmV_2 M e)], bT [.ints .u8 uz U], bT [.ints .u8 (cmV_3 a) (cmV_4 T e)]]) :=
 Body.lens (c := (Tryz.f61.body.getD .skip)) rfl fun h => cmV_body0 a u rc n s l tz T M uz U e h0 h1 h2 h3 (h.lens 1 _ .i64 2 ([s, (-1 : Int)] : List Int) rfl (by simp)) (h.lens 2 _ .u8 n l rfl (by simp)) (h.lens 3 _ .u8 tz T rfl (by simp)) (h.lens 5 _ .u8 uz U rfl (by simp)) (h.vals 1 _ _ _ rfl) w rw β

def gam628 : Gam := gcall 61 [true, true, true, true, true, true] [.w, .w] (fun wk vs args => match wk, vs, args with | [⟨true, [.p 1 0, .rs 3 0 a 128, .mv 4, .rs 5 0 u 64, .i .i64 rc, .b false]⟩, ⟨true, [.rs 2 0 n 1, .ints .i64 2 ([s, (-1 : Int)] : List Int), .b false, .b true]⟩, ⟨true, [.ints .u8 n_1 l]⟩, ⟨true, [.ints .u8 tz T]⟩, ⟨true, [.mp 64 M]⟩, ⟨true, [.ints .u8 uz U]⟩], [], [.o (.a (.p 0 1)), .o (.g [.ints .u8 128 e])] => some ((n_1 = n) ∧ (tz = (a * 128)) ∧ (a < 68719476736) ∧ ((0 : Int) ≤ rc) ∧ (rc < (1099511627776 : Int)), [], [bT [.p 1 0, .rs 6 0 (cmV a) 128, .mv 4, .rs 5 0 u 64, .i .i64 (cmV_1 rc), .b false], bT [.rs 2 0 n 1, .ints .i64 2 ([s, (-1 : Int)] : List Int), .b false, .b true], bT [.ints .u8 n l], none, bT [.mp 64 (cmV_2 M e)], bT [.ints .u8 uz U], bT [.ints .u8 (cmV_3 a) (cmV_4 T e)]]) | _, _, _ => none) gam627
theorem gam628_ok : GamOk Tryz.prog gam628 := gcall_ok tabOkDB Tryz.func61 gam627_ok Tryz.call61 (by
 intro wk vs args p xs K1 h hv
 split at h
 ·simp only [Option.some.injEq, Prod.mk.injEq] at h; obtain ⟨rfl, rfl, rfl⟩ := h; obtain ⟨g0, g1, g2, g3, g4⟩ := hv; subst g0; exact fun caps w rw β => cmV_body _ _ _ _ _ _ _ _ _ _ _ _ g1 g2 g3 g4 w rw β
 ·simp at h)

end Go.Proofs.YtjmfnjgcofpocaaGreat.X

/- Printed by a tool of this session. -/
namespace Go.Proofs.YtjmfnjgcofpocaaGreat.X
open Go Go.Proofs
set_option linter.unusedVariables false
set_option linter.unusedSimpArgs false
set_option maxRecDepth 100000
set_option maxHeartbeats 8000000
noncomputable def tabDC : List (Nat × TE) := [(3, ⟨.int .i64, 1, 8, [.i .i64 0], false⟩), (5, ⟨.int .u8, 1, 1, [.i .u8 0], false⟩), (72, ⟨.array 32 5, 32, 32, [.ints .u8 32 ([0, 0, 0, 0, 0, 0, 0, 0, 0, 0, 0, 0, 0, 0, 0, 0, 0, 0, 0, 0, 0, 0, 0, 0, 0, 0, 0, 0, 0, 0, 0, 0] : List Int)], true⟩), (74, ⟨Tryz.t73.desc, 65, 72, [.i .i64 0, .ints .u8 64 (List.replicate 64 0)], true⟩), (77, ⟨.array 32 5, 32, 32, [.ints .u8 32 ([0, 0, 0, 0, 0, 0, 0, 0, 0, 0, 0, 0, 0, 0, 0, 0, 0, 0, 0, 0, 0, 0, 0, 0, 0, 0, 0, 0, 0, 0, 0, 0] : List Int)], true⟩), (79, ⟨Tryz.t78.desc, 64, 64, [.ints .u8 64 (List.replicate 64 0)], true⟩), (87, ⟨.slice 140, 1, 24, [nlA], false⟩), (88, ⟨Tryz.t88.desc, 1, 8, [.raw (.map none)], false⟩), (91, ⟨Tryz.t90.desc, 4, 64, [nlA, .raw (.map none), nlA, .i .i64 0], false⟩), (93, ⟨Tryz.t92.desc, 6, 80, [.raw (.pointer none), nlA, .raw (.map none), nlA, .i .i64 0, .b false], false⟩), (133, ⟨Tryz.t132.desc, 64, 64, [.ints .u8 64 (List.replicate 64 0)], true⟩), (140, ⟨Tryz.t139.desc, 128, 128, [.ints .u8 128 (List.replicate 128 (0 : Int))], false⟩)]
theorem tabOkDC : TabOk Tryz.prog (tabOf tabDC) := (tabOf_cons teDA_3 (tabOf_cons teDA_5 (tabOf_cons teVI_72 (tabOf_cons teDB_74 (tabOf_cons teVK_77 (tabOf_cons teDB_79 (tabOf_cons teDB_87 (tabOf_cons teDB_88 (tabOf_cons teDB_91 (tabOf_cons teDB_93 (tabOf_cons teDB_133 (tabOf_cons teDB_140 tabOf_nil))))))))))))

def ZZ : List Int := ([0, 0, 0, 0, 0, 0, 0, 0, 0, 0, 0, 0, 0, 0, 0, 0, 0, 0, 0, 0, 0, 0, 0, 0, 0, 0, 0, 0, 0, 0, 0, 0] : List Int)
def ZQ : List Int := ([0, 0, 0, 0, 0, 0, 0, 0, 0, 0, 0, 0, 0, 0, 0, 0, 0, 0, 0, 0, 0, 0, 0, 0, 0, 0, 0, 0, 0, 0, 0, 0, 0, 0, 0, 0, 0, 0, 0, 0, 0, 0, 0, 0, 0, 0, 0, 0, 0, 0, 0, 0, 0, 0, 0, 0, 0, 0, 0, 0, 0, 0, 0, 0] : List Int)
theorem splice2 {h b : List Int} (hh : h.length = 32) (hb : b.length = 32) : splice (splice ZQ 0 32 h) 32 32 b = h ++ b := by
 unfold splice
 have e1 : (ZQ.take 0 ++ h ++ ZQ.drop (0 + 32)).take 32 = h := by
  rw [List.take_zero, List.nil_append, List.take_append_of_le_length (by omega), List.take_of_length_le (by omega)]
 have e2 : (ZQ.take 0 ++ h ++ ZQ.drop (0 + 32)).drop (32 + 32) = [] := by
  rw [List.take_zero, List.nil_append, List.drop_append, List.drop_of_length_le (by omega), List.nil_append, hh]; rfl
 rw [e1, e2, List.append_nil]
def cnV (x : List Int) : List Int := V.addP (sub x 0 32) ZZ ++ V.addP (sub x 32 32) ZZ
theorem cnV_byt (x : List Int) : V.Byt (cnV x) := byt_app (V.addP_byt _ _) (V.addP_byt _ _)
def pkV (x : List Int) : List Int := kyV (cnV x)
def pW (M : List (List Int × Int)) (a : Nat) (x : List Int) : Bool := kyV_1 (cnV x) && (!decide (mget M (pkV x) > 0) && decide (a < 1024))
def pE (M : List (List Int × Int)) (a : Nat) (x : List Int) : Int := cond (kyV_1 (cnV x)) (cond (decide (mget M (pkV x) > 0)) 132 (if a < 1024 then 0 else 131)) 9
def pA (M : List (List Int × Int)) (a : Nat) (x : List Int) : Nat := cond (pW M a x) (a + 1) a
def pZ (M : List (List Int × Int)) (a : Nat) (x : List Int) : Nat := pA M a x * 128
def pT (M : List (List Int × Int)) (a : Nat) (x T : List Int) : List Int := cond (pW M a x) (T ++ (pkV x ++ cnV x)) T
def pM (M : List (List Int × Int)) (a : Nat) (x : List Int) : List (List Int × Int) := cond (pW M a x) (mset M (pkV x) 1) M
def pR (M : List (List Int × Int)) (a : Nat) (x : List Int) (rc : Int) : Int := cond (pW M a x) (rc + 1) rc
def pN (M : List (List Int × Int)) (a : Nat) (x : List Int) (n : Nat) : Nat := cond (pW M a x) (n + 73) n
def pS (M : List (List Int × Int)) (a : Nat) (x : List Int) (n : Nat) (s : Int) : Int := cond (pW M a x) ((n + 73 : Nat) : Int) s
def pL (M : List (List Int × Int)) (a : Nat) (x : List Int) (rc : Int) (l : List Int) : List Int := cond (pW M a x) (l ++ sub (rcV_1 rc 1 64 (sub (nbV (cnV x)) 0 64)) 0 73) l
def pC (M : List (List Int × Int)) (a : Nat) (x : List Int) : List Int := cond (pW M a x) (pkV x) ZQ
theorem feBytes_len (x : List Int) : (feBytes x).length = 32 := by kernel_rfl
theorem ptForm_len (p : List Int) : (ptForm p).length = 32 := by
 unfold ptForm
 cases feOdd (ptXY p)
 ·exact feBytes_len _
 ·show (ptForm_w0 p).length = 32
  unfold ptForm_w0; rw [List.length_set]; exact feBytes_len _
theorem exV_len (x : List Int) : (exV x).length = 32 := by
 unfold exV
 cases V.iszP _
 ·exact ptForm_len _
 ·rfl
theorem kyV_eq (x : List Int) : kyV x = exV (sub x 0 32) ++ exV (sub x 32 32) := by
 unfold kyV
 cases (exV_1 (sub x 0 32) == 0)
 ·exact splice2 (exV_len _) (exV_len _)
 ·exact splice2 (exV_len _) (exV_len _)
theorem kyV_len (x : List Int) : (kyV x).length = 64 := by
 rw [kyV_eq, List.length_append, exV_len, exV_len]
theorem pkV_len (x : List Int) : (pkV x).length = 64 := kyV_len _
theorem cnV_len (x : List Int) : (cnV x).length = 64 := rfl
theorem splice2n {Z h b : List Int} {n : Nat} (hZ : Z.length = n + n) (hh : h.length = n) (hb : b.length = n) : splice (splice Z 0 n h) n n b = h ++ b := by
 unfold splice
 have e1 : (Z.take 0 ++ h ++ Z.drop (0 + n)).take n = h := by
  rw [List.take_zero, List.nil_append, List.take_append_of_le_length (by omega), List.take_of_length_le (by omega)]
 have e2 : (Z.take 0 ++ h ++ Z.drop (0 + n)).drop (n + n) = [] := by
  rw [List.take_zero, List.nil_append, List.drop_append, List.drop_of_length_le (by omega), List.nil_append, hh, List.drop_drop]
  exact List.drop_of_length_le (by omega)
 rw [e1, e2, List.append_nil]
theorem en_eq (x : List Int) : splice (splice (List.replicate 128 0) 0 64 (kyV (cnV x))) 64 64 (cnV x) = pkV x ++ cnV x :=
 splice2n (List.length_replicate) (kyV_len _) (cnV_len _)
theorem sub_app_l {α : Type} {a b : List α} {n : Nat} (h : a.length = n) : sub (a ++ b) 0 n = a := by
 unfold sub; rw [List.drop_zero, List.take_append_of_le_length (by omega), List.take_of_length_le (by omega)]
theorem two_eq {x : List Int} (h : x.length = 64) : sub x 0 32 ++ sub x 32 32 = x := by
 unfold sub
 rw [List.drop_zero, List.take_of_length_le (l := x.drop 32) (by rw [List.length_drop]; omega), List.take_append_drop]
theorem prV_eq {x : List Int} (h : x.length = 64) : prV x = x := by
 refine Eq.trans ?_ (two_eq h)
 exact splice2 (sub_len x 0 32 (by omega)) (sub_len x 32 32 (by omega))
theorem pW_ok {M : List (List Int × Int)} {a : Nat} {x : List Int} (h1 : kyV_1 (cnV x) = true) (h2 : ¬ mget M (pkV x) > 0) (h3 : a < 1024) : pW M a x = true ∧ pE M a x = 0 := by
 unfold pW pE; rw [h1, decide_eq_false h2, decide_eq_true h3]; exact ⟨rfl, by rw [cond_true, cond_false, if_pos h3]⟩
theorem pW_z {M : List (List Int × Int)} {a : Nat} {x : List Int} (h1 : kyV_1 (cnV x) = false) : pW M a x = false ∧ pE M a x = 9 := by
 unfold pW pE; rw [h1]; exact ⟨rfl, rfl⟩
theorem pW_u {M : List (List Int × Int)} {a : Nat} {x : List Int} (h1 : kyV_1 (cnV x) = true) (h2 : mget M (pkV x) > 0) : pW M a x = false ∧ pE M a x = 132 := by
 unfold pW pE; rw [h1, decide_eq_true h2]; exact ⟨rfl, rfl⟩
theorem pW_f {M : List (List Int × Int)} {a : Nat} {x : List Int} (h1 : kyV_1 (cnV x) = true) (h2 : ¬ mget M (pkV x) > 0) (h3 : ¬ a < 1024) : pW M a x = false ∧ pE M a x = 131 := by
 unfold pW pE; rw [h1, decide_eq_false h2, decide_eq_false h3]; exact ⟨rfl, by rw [cond_true, cond_false, if_neg h3]⟩
section
variable {M : List (List Int × Int)} {a : Nat} {x : List Int} (h : pW M a x = true)
include h
theorem pA_of : pA M a x = a + 1 := by unfold pA; rw [h]; rfl
theorem pZ_of : pZ M a x = (a + 1) * 128 := by unfold pZ; rw [pA_of h]
theorem pT_of (T : List Int) : pT M a x T = T ++ (pkV x ++ cnV x) := by unfold pT; rw [h]; rfl
theorem pM_of : pM M a x = mset M (pkV x) 1 := by unfold pM; rw [h]; rfl
theorem pR_of (rc : Int) : pR M a x rc = rc + 1 := by unfold pR; rw [h]; rfl
theorem pN_of (n : Nat) : pN M a x n = n + 73 := by unfold pN; rw [h]; rfl
theorem pS_of (n : Nat) (s : Int) : pS M a x n s = ((n + 73 : Nat) : Int) := by unfold pS; rw [h]; rfl
theorem pL_of (rc : Int) (l : List Int) : pL M a x rc l = l ++ sub (rcV_1 rc 1 64 (sub (nbV (cnV x)) 0 64)) 0 73 := by unfold pL; rw [h]; rfl
theorem pC_of : pC M a x = pkV x := by unfold pC; rw [h]; rfl
end
theorem puA_body0 (a u : Nat) (rc : Int) (n : Nat) (s : Int) (l : List Int) (tz : Nat) (T : List Int) (M : List (List Int × Int)) (uz : Nat) (U : List Int) (x : List Int) (h0 : (n < 70368744177664)) (h1 : (tz = (a * 128))) (h2 : (uz = (u * 64))) (h3 : (a < 68719476736)) (h4 : ((0 : Int) ≤ rc)) (h5 : (rc < (1099511627776 : Int))) (h6 : (V.Byt x)) (hl1_1 : List.length ([s, (-1 : Int)] : List Int) = 2) (hl2_0 : l.length = n) (hl3_0 : T.length = tz) (hl5_0 : U.length = uz) (hv1 : x.length = 64) (y1 : kyV_1 (cnV x) = false) (w : World) (rw : List Nat) (β : Env) : Body Tryz.prog (tabOf tabDC) Tryz.f23 ⟨w, rw, 6, β⟩ [.o (.a (.p 0 0)), .o (.g [.ints .u8 64 x])] [bT [.p 1 0, .rs 3 0 a 128, .mv 4, .rs 5 0 u 64, .i .i64 rc, .b false], bT [.rs 2 0 n 1, .ints .i64 2 ([s, (-1 : Int)] : List Int), .b false, .b true], bT [.ints .u8 n l], bT [.ints .u8 tz T], bT [.mp 64 M], bT [.ints .u8 uz U]] (fun ys K' => ys = [.g [.i .i64 0, .ints .u8 64 (pC M a x)], .a (.i .i64 (pE M a x))] ∧ K' = [bT [.p 1 0, .rs 7 0 (pA M a x) 128, .mv 4, .rs 5 0 u 64, .i .i64 (pR M a x rc), .b false], bT [.rs 6 0 (pN M a x n) 1, .ints .i64 2 ([(pS M a x n s), (-1 : Int)] : List Int), .b false, .b true], none, none, bT [.mp 64 (pM M a x)], bT [.ints .u8 uz U], bT [.ints .u8 (pN M a x n) (pL M a x rc l)], bT [.ints .u8 (pZ M a x) (pT M a x T)]]) :=
 Body.of_finK (Γ := gam628) (Λ := noLam) (Ψ := psiOf [(4, [.eqB 6 (⟨true, [.ints .u8 64 (cnV x)]⟩)])]) (fuel := 0) (m := 67) (c := (Tryz.f23.body.getD .skip)) mix tabOkDC gam628_ok rfl (rs := [.cell 4 74, .tmp 5]) rfl rfl [false, true, true] [.fresh 2, .fresh 3, .eqB 7 (⟨true, [.i .i64 0, .ints .u8 64 (pC M a x)]⟩), .eqS 5 (.o (.a (.i .i64 (pE M a x)))), .eqB 0 (⟨true, [.p 1 0, .rs 10 0 (pA M a x) 128, .mv 4, .rs 5 0 u 64, .i .i64 (pR M a x rc), .b false]⟩), .eqB 1 (⟨true, [.rs 9 0 (pN M a x n) 1, .ints .i64 2 ([(pS M a x n s), (-1 : Int)] : List Int), .b false, .b true]⟩), .eqB 9 (⟨true, [.ints .u8 (pN M a x n) (pL M a x rc l)]⟩), .eqB 10 (⟨true, [.ints .u8 (pZ M a x) (pT M a x T)]⟩), .eqB 4 (⟨true, [.mp 64 (pM M a x)]⟩), .swap 6 9, .swap 7 10] 8
  (vc := [((bT [.mp 64 M] : Option Blk) = bT [.mp 64 (pM M a x)]), ((bT [.ints .u8 tz T] : Option Blk) = bT [.ints .u8 (pZ M a x) (pT M a x T)]), ((bT [.ints .u8 n l] : Option Blk) = bT [.ints .u8 (pN M a x n) (pL M a x rc l)]), ((bT [.rs 9 0 n 1, .ints .i64 2 ([s, (-1 : Int)] : List Int), .b false, .b true] : Option Blk) = bT [.rs 9 0 (pN M a x n) 1, .ints .i64 2 ([(pS M a x n s), (-1 : Int)] : List Int), .b false, .b true]), ((bT [.p 1 0, .rs 10 0 a 128, .mv 4, .rs 5 0 u 64, .i .i64 rc, .b false] : Option Blk) = bT [.p 1 0, .rs 10 0 (pA M a x) 128, .mv 4, .rs 5 0 u 64, .i .i64 (pR M a x rc), .b false]), ((.o (.a (.i .i64 9)) : AV) = .o (.a (.i .i64 (pE M a x)))), ((bT [.i .i64 0, .ints .u8 64 (List.replicate 64 0)] : Option Blk) = bT [.i .i64 0, .ints .u8 64 (pC M a x)]), cT, ((!(kyV_1 (cnV x))) = true), (V.Byt (cnV x)), ((bT [.ints .u8 64 (splice (splice (List.replicate 64 0) 0 32 (V.addP (sub x 0 32) ([0, 0, 0, 0, 0, 0, 0, 0, 0, 0, 0, 0, 0, 0, 0, 0, 0, 0, 0, 0, 0, 0, 0, 0, 0, 0, 0, 0, 0, 0, 0, 0] : List Int))) 32 32 (V.addP (sub x 32 32) ([0, 0, 0, 0, 0, 0, 0, 0, 0, 0, 0, 0, 0, 0, 0, 0, 0, 0, 0, 0, 0, 0, 0, 0, 0, 0, 0, 0, 0, 0, 0, 0] : List Int)))] : Option Blk) = bT [.ints .u8 64 (cnV x)]), ((V.Byt (sub x 32 32)) ∧ (V.Byt ([0, 0, 0, 0, 0, 0, 0, 0, 0, 0, 0, 0, 0, 0, 0, 0, 0, 0, 0, 0, 0, 0, 0, 0, 0, 0, 0, 0, 0, 0, 0, 0] : List Int))), ((V.Byt (sub x 0 32)) ∧ (V.Byt ([0, 0, 0, 0, 0, 0, 0, 0, 0, 0, 0, 0, 0, 0, 0, 0, 0, 0, 0, 0, 0, 0, 0, 0, 0, 0, 0, 0, 0, 0, 0, 0] : List Int))), (false = false), ((True ∧ True) ∧ (n = n))]) (by kernel_rfl)
  (aC ((by unfold pM; rw [(pW_z y1).1]; rfl)) (aC ((by unfold pZ pA pT; rw [(pW_z y1).1]; rw [h1]; rfl)) (aC ((by unfold pN pL; rw [(pW_z y1).1]; rfl)) (aC ((by unfold pN pS; rw [(pW_z y1).1]; rfl)) (aC ((by unfold pA pR; rw [(pW_z y1).1]; rfl)) (aC ((by rw [(pW_z y1).2])) (aC ((by unfold pC; rw [(pW_z y1).1]; rfl)) (aC rfl (aC (by show (!kyV_1 (cnV x)) = true; rw [show kyV_1 (cnV x) = false from y1]; rfl) (aC (cnV_byt _) (aC ((congrArg (fun z => (bT [.ints .u8 64 z] : Option Blk)) (splice2 (h := V.addP (sub x 0 32) ZZ) (b := V.addP (sub x 32 32) ZZ) (V.addP_len _ _) (V.addP_len _ _)))) (aC ⟨(V.byt_sub (by assumption) _ _), (by unfold V.Byt; decide)⟩ (aC ⟨(V.byt_sub (by assumption) _ _), (by unfold V.Byt; decide)⟩ (aC rfl (aC ⟨⟨trivial, trivial⟩, rfl⟩ (AllP_nil))))))))))))))))

theorem puB_body0 (a u : Nat) (rc : Int) (n : Nat) (s : Int) (l : List Int) (tz : Nat) (T : List Int) (M : List (List Int × Int)) (uz : Nat) (U : List Int) (x : List Int) (h0 : (n < 70368744177664)) (h1 : (tz = (a * 128))) (h2 : (uz = (u * 64))) (h3 : (a < 68719476736)) (h4 : ((0 : Int) ≤ rc)) (h5 : (rc < (1099511627776 : Int))) (h6 : (V.Byt x)) (hl1_1 : List.length ([s, (-1 : Int)] : List Int) = 2) (hl2_0 : l.length = n) (hl3_0 : T.length = tz) (hl5_0 : U.length = uz) (hv1 : x.length = 64) (y1 : kyV_1 (cnV x) = true) (y2 : mget M (pkV x) > 0) (w : World) (rw : List Nat) (β : Env) : Body Tryz.prog (tabOf tabDC) Tryz.f23 ⟨w, rw, 6, β⟩ [.o (.a (.p 0 0)), .o (.g [.ints .u8 64 x])] [bT [.p 1 0, .rs 3 0 a 128, .mv 4, .rs 5 0 u 64, .i .i64 rc, .b false], bT [.rs 2 0 n 1, .ints .i64 2 ([s, (-1 : Int)] : List Int), .b false, .b true], bT [.ints .u8 n l], bT [.ints .u8 tz T], bT [.mp 64 M], bT [.ints .u8 uz U]] (fun ys K' => ys = [.g [.i .i64 0, .ints .u8 64 (pC M a x)], .a (.i .i64 (pE M a x))] ∧ K' = [bT [.p 1 0, .rs 7 0 (pA M a x) 128, .mv 4, .rs 5 0 u 64, .i .i64 (pR M a x rc), .b false], bT [.rs 6 0 (pN M a x n) 1, .ints .i64 2 ([(pS M a x n s), (-1 : Int)] : List Int), .b false, .b true], none, none, bT [.mp 64 (pM M a x)], bT [.ints .u8 uz U], bT [.ints .u8 (pN M a x n) (pL M a x rc l)], bT [.ints .u8 (pZ M a x) (pT M a x T)]]) :=
 Body.of_finK (Γ := gam628) (Λ := noLam) (Ψ := psiOf [(4, [.eqB 6 (⟨true, [.ints .u8 64 (cnV x)]⟩)])]) (fuel := 0) (m := 67) (c := (Tryz.f23.body.getD .skip)) mix tabOkDC gam628_ok rfl (rs := [.cell 4 74, .tmp 5]) rfl rfl [false, false, true, true] [.fresh 2, .fresh 3, .eqB 7 (⟨true, [.i .i64 0, .ints .u8 64 (pC M a x)]⟩), .eqS 5 (.o (.a (.i .i64 (pE M a x)))), .eqB 0 (⟨true, [.p 1 0, .rs 10 0 (pA M a x) 128, .mv 4, .rs 5 0 u 64, .i .i64 (pR M a x rc), .b false]⟩), .eqB 1 (⟨true, [.rs 9 0 (pN M a x n) 1, .ints .i64 2 ([(pS M a x n s), (-1 : Int)] : List Int), .b false, .b true]⟩), .eqB 9 (⟨true, [.ints .u8 (pN M a x n) (pL M a x rc l)]⟩), .eqB 10 (⟨true, [.ints .u8 (pZ M a x) (pT M a x T)]⟩), .eqB 4 (⟨true, [.mp 64 (pM M a x)]⟩), .swap 6 9, .swap 7 10] 8
  (vc := [((bT [.mp 64 M] : Option Blk) = bT [.mp 64 (pM M a x)]), ((bT [.ints .u8 tz T] : Option Blk) = bT [.ints .u8 (pZ M a x) (pT M a x T)]), ((bT [.ints .u8 n l] : Option Blk) = bT [.ints .u8 (pN M a x n) (pL M a x rc l)]), ((bT [.rs 9 0 n 1, .ints .i64 2 ([s, (-1 : Int)] : List Int), .b false, .b true] : Option Blk) = bT [.rs 9 0 (pN M a x n) 1, .ints .i64 2 ([(pS M a x n s), (-1 : Int)] : List Int), .b false, .b true]), ((bT [.p 1 0, .rs 10 0 a 128, .mv 4, .rs 5 0 u 64, .i .i64 rc, .b false] : Option Blk) = bT [.p 1 0, .rs 10 0 (pA M a x) 128, .mv 4, .rs 5 0 u 64, .i .i64 (pR M a x rc), .b false]), ((.o (.a (.i .i64 132)) : AV) = .o (.a (.i .i64 (pE M a x)))), ((bT [.i .i64 0, .ints .u8 64 (List.replicate 64 0)] : Option Blk) = bT [.i .i64 0, .ints .u8 64 (pC M a x)]), cT, ((decide ((mget M (kyV (cnV x))) > (0 : Int))) = true), ((!(kyV_1 (cnV x))) = false), (V.Byt (cnV x)), ((bT [.ints .u8 64 (splice (splice (List.replicate 64 0) 0 32 (V.addP (sub x 0 32) ([0, 0, 0, 0, 0, 0, 0, 0, 0, 0, 0, 0, 0, 0, 0, 0, 0, 0, 0, 0, 0, 0, 0, 0, 0, 0, 0, 0, 0, 0, 0, 0] : List Int))) 32 32 (V.addP (sub x 32 32) ([0, 0, 0, 0, 0, 0, 0, 0, 0, 0, 0, 0, 0, 0, 0, 0, 0, 0, 0, 0, 0, 0, 0, 0, 0, 0, 0, 0, 0, 0, 0, 0] : List Int)))] : Option Blk) = bT [.ints .u8 64 (cnV x)]), ((V.Byt (sub x 32 32)) ∧ (V.Byt ([0, 0, 0, 0, 0, 0, 0, 0, 0, 0, 0, 0, 0, 0, 0, 0, 0, 0, 0, 0, 0, 0, 0, 0, 0, 0, 0, 0, 0, 0, 0, 0] : List Int))), ((V.Byt (sub x 0 32)) ∧ (V.Byt ([0, 0, 0, 0, 0, 0, 0, 0, 0, 0, 0, 0, 0, 0, 0, 0, 0, 0, 0, 0, 0, 0, 0, 0, 0, 0, 0, 0, 0, 0, 0, 0] : List Int))), (false = false), ((True ∧ True) ∧ (n = n))]) (by kernel_rfl)
  (aC ((by unfold pM; rw [(pW_u y1 y2).1]; rfl)) (aC ((by unfold pZ pA pT; rw [(pW_u y1 y2).1]; rw [h1]; rfl)) (aC ((by unfold pN pL; rw [(pW_u y1 y2).1]; rfl)) (aC ((by unfold pN pS; rw [(pW_u y1 y2).1]; rfl)) (aC ((by unfold pA pR; rw [(pW_u y1 y2).1]; rfl)) (aC ((by rw [(pW_u y1 y2).2])) (aC ((by unfold pC; rw [(pW_u y1 y2).1]; rfl)) (aC rfl (aC (dt y2) (aC (by show (!kyV_1 (cnV x)) = false; rw [show kyV_1 (cnV x) = true from y1]; rfl) (aC (cnV_byt _) (aC ((congrArg (fun z => (bT [.ints .u8 64 z] : Option Blk)) (splice2 (h := V.addP (sub x 0 32) ZZ) (b := V.addP (sub x 32 32) ZZ) (V.addP_len _ _) (V.addP_len _ _)))) (aC ⟨(V.byt_sub (by assumption) _ _), (by unfold V.Byt; decide)⟩ (aC ⟨(V.byt_sub (by assumption) _ _), (by unfold V.Byt; decide)⟩ (aC rfl (aC ⟨⟨trivial, trivial⟩, rfl⟩ (AllP_nil)))))))))))))))))

theorem puC_body0 (a u : Nat) (rc : Int) (n : Nat) (s : Int) (l : List Int) (tz : Nat) (T : List Int) (M : List (List Int × Int)) (uz : Nat) (U : List Int) (x : List Int) (h0 : (n < 70368744177664)) (h1 : (tz = (a * 128))) (h2 : (uz = (u * 64))) (h3 : (a < 68719476736)) (h4 : ((0 : Int) ≤ rc)) (h5 : (rc < (1099511627776 : Int))) (h6 : (V.Byt x)) (hl1_1 : List.length ([s, (-1 : Int)] : List Int) = 2) (hl2_0 : l.length = n) (hl3_0 : T.length = tz) (hl5_0 : U.length = uz) (hv1 : x.length = 64) (y1 : kyV_1 (cnV x) = true) (y2 : ¬ mget M (pkV x) > 0) (y3 : ¬ a < 1024) (w : World) (rw : List Nat) (β : Env) : Body Tryz.prog (tabOf tabDC) Tryz.f23 ⟨w, rw, 6, β⟩ [.o (.a (.p 0 0)), .o (.g [.ints .u8 64 x])] [bT [.p 1 0, .rs 3 0 a 128, .mv 4, .rs 5 0 u 64, .i .i64 rc, .b false], bT [.rs 2 0 n 1, .ints .i64 2 ([s, (-1 : Int)] : List Int), .b false, .b true], bT [.ints .u8 n l], bT [.ints .u8 tz T], bT [.mp 64 M], bT [.ints .u8 uz U]] (fun ys K' => ys = [.g [.i .i64 0, .ints .u8 64 (pC M a x)], .a (.i .i64 (pE M a x))] ∧ K' = [bT [.p 1 0, .rs 7 0 (pA M a x) 128, .mv 4, .rs 5 0 u 64, .i .i64 (pR M a x rc), .b false], bT [.rs 6 0 (pN M a x n) 1, .ints .i64 2 ([(pS M a x n s), (-1 : Int)] : List Int), .b false, .b true], none, none, bT [.mp 64 (pM M a x)], bT [.ints .u8 uz U], bT [.ints .u8 (pN M a x n) (pL M a x rc l)], bT [.ints .u8 (pZ M a x) (pT M a x T)]]) :=
 Body.of_finK (Γ := gam628) (Λ := noLam) (Ψ := psiOf [(4, [.eqB 6 (⟨true, [.ints .u8 64 (cnV x)]⟩)])]) (fuel := 0) (m := 67) (c := (Tryz.f23.body.getD .skip)) mix tabOkDC gam628_ok rfl (rs := [.cell 4 74, .tmp 5]) rfl rfl [false, false, false, true, true] [.fresh 2, .fresh 3, .eqB 7 (⟨true, [.i .i64 0, .ints .u8 64 (pC M a x)]⟩), .eqS 5 (.o (.a (.i .i64 (pE M a x)))), .eqB 0 (⟨true, [.p 1 0, .rs 10 0 (pA M a x) 128, .mv 4, .rs 5 0 u 64, .i .i64 (pR M a x rc), .b false]⟩), .eqB 1 (⟨true, [.rs 9 0 (pN M a x n) 1, .ints .i64 2 ([(pS M a x n s), (-1 : Int)] : List Int), .b false, .b true]⟩), .eqB 9 (⟨true, [.ints .u8 (pN M a x n) (pL M a x rc l)]⟩), .eqB 10 (⟨true, [.ints .u8 (pZ M a x) (pT M a x T)]⟩), .eqB 4 (⟨true, [.mp 64 (pM M a x)]⟩), .swap 6 9, .swap 7 10] 8
  (vc := [((bT [.mp 64 M] : Option Blk) = bT [.mp 64 (pM M a x)]), ((bT [.ints .u8 tz T] : Option Blk) = bT [.ints .u8 (pZ M a x) (pT M a x T)]), ((bT [.ints .u8 n l] : Option Blk) = bT [.ints .u8 (pN M a x n) (pL M a x rc l)]), ((bT [.rs 9 0 n 1, .ints .i64 2 ([s, (-1 : Int)] : List Int), .b false, .b true] : Option Blk) = bT [.rs 9 0 (pN M a x n) 1, .ints .i64 2 ([(pS M a x n s), (-1 : Int)] : List Int), .b false, .b true]), ((bT [.p 1 0, .rs 10 0 a 128, .mv 4, .rs 5 0 u 64, .i .i64 rc, .b false] : Option Blk) = bT [.p 1 0, .rs 10 0 (pA M a x) 128, .mv 4, .rs 5 0 u 64, .i .i64 (pR M a x rc), .b false]), ((.o (.a (.i .i64 131)) : AV) = .o (.a (.i .i64 (pE M a x)))), ((bT [.i .i64 0, .ints .u8 64 (List.replicate 64 0)] : Option Blk) = bT [.i .i64 0, .ints .u8 64 (pC M a x)]), cT, ((decide ((a : Int) ≥ (1024 : Int))) = true), ((decide ((mget M (kyV (cnV x))) > (0 : Int))) = false), ((!(kyV_1 (cnV x))) = false), (V.Byt (cnV x)), ((bT [.ints .u8 64 (splice (splice (List.replicate 64 0) 0 32 (V.addP (sub x 0 32) ([0, 0, 0, 0, 0, 0, 0, 0, 0, 0, 0, 0, 0, 0, 0, 0, 0, 0, 0, 0, 0, 0, 0, 0, 0, 0, 0, 0, 0, 0, 0, 0] : List Int))) 32 32 (V.addP (sub x 32 32) ([0, 0, 0, 0, 0, 0, 0, 0, 0, 0, 0, 0, 0, 0, 0, 0, 0, 0, 0, 0, 0, 0, 0, 0, 0, 0, 0, 0, 0, 0, 0, 0] : List Int)))] : Option Blk) = bT [.ints .u8 64 (cnV x)]), ((V.Byt (sub x 32 32)) ∧ (V.Byt ([0, 0, 0, 0, 0, 0, 0, 0, 0, 0, 0, 0, 0, 0, 0, 0, 0, 0, 0, 0, 0, 0, 0, 0, 0, 0, 0, 0, 0, 0, 0, 0] : List Int))), ((V.Byt (sub x 0 32)) ∧ (V.Byt ([0, 0, 0, 0, 0, 0, 0, 0, 0, 0, 0, 0, 0, 0, 0, 0, 0, 0, 0, 0, 0, 0, 0, 0, 0, 0, 0, 0, 0, 0, 0, 0] : List Int))), (false = false), ((True ∧ True) ∧ (n = n))]) (by kernel_rfl)
  (aC ((by unfold pM; rw [(pW_f y1 y2 y3).1]; rfl)) (aC ((by unfold pZ pA pT; rw [(pW_f y1 y2 y3).1]; rw [h1]; rfl)) (aC ((by unfold pN pL; rw [(pW_f y1 y2 y3).1]; rfl)) (aC ((by unfold pN pS; rw [(pW_f y1 y2 y3).1]; rfl)) (aC ((by unfold pA pR; rw [(pW_f y1 y2 y3).1]; rfl)) (aC ((by rw [(pW_f y1 y2 y3).2])) (aC ((by unfold pC; rw [(pW_f y1 y2 y3).1]; rfl)) (aC rfl (aC (dt (by omega)) (aC (df y2) (aC (by show (!kyV_1 (cnV x)) = false; rw [show kyV_1 (cnV x) = true from y1]; rfl) (aC (cnV_byt _) (aC ((congrArg (fun z => (bT [.ints .u8 64 z] : Option Blk)) (splice2 (h := V.addP (sub x 0 32) ZZ) (b := V.addP (sub x 32 32) ZZ) (V.addP_len _ _) (V.addP_len _ _)))) (aC ⟨(V.byt_sub (by assumption) _ _), (by unfold V.Byt; decide)⟩ (aC ⟨(V.byt_sub (by assumption) _ _), (by unfold V.Byt; decide)⟩ (aC rfl (aC ⟨⟨trivial, trivial⟩, rfl⟩ (AllP_nil))))))))))))))))))

theorem puD_body0 (a u : Nat) (rc : Int) (n : Nat) (s : Int) (l : List Int) (tz : Nat) (T : List Int) (M : List (List Int × Int)) (uz : Nat) (U : List Int) (x : List Int) (h0 : (n < 70368744177664)) (h1 : (tz = (a * 128))) (h2 : (uz = (u * 64))) (h3 : (a < 68719476736)) (h4 : ((0 : Int) ≤ rc)) (h5 : (rc < (1099511627776 : Int))) (h6 : (V.Byt x)) (hl1_1 : List.length ([s, (-1 : Int)] : List Int) = 2) (hl2_0 : l.length = n) (hl3_0 : T.length = tz) (hl5_0 : U.length = uz) (hv1 : x.length = 64) (y1 : kyV_1 (cnV x) = true) (y2 : ¬ mget M (pkV x) > 0) (y3 : a < 1024) (w : World) (rw : List Nat) (β : Env) : Body Tryz.prog (tabOf tabDC) Tryz.f23 ⟨w, rw, 6, β⟩ [.o (.a (.p 0 0)), .o (.g [.ints .u8 64 x])] [bT [.p 1 0, .rs 3 0 a 128, .mv 4, .rs 5 0 u 64, .i .i64 rc, .b false], bT [.rs 2 0 n 1, .ints .i64 2 ([s, (-1 : Int)] : List Int), .b false, .b true], bT [.ints .u8 n l], bT [.ints .u8 tz T], bT [.mp 64 M], bT [.ints .u8 uz U]] (fun ys K' => ys = [.g [.i .i64 0, .ints .u8 64 (pC M a x)], .a (.i .i64 (pE M a x))] ∧ K' = [bT [.p 1 0, .rs 7 0 (pA M a x) 128, .mv 4, .rs 5 0 u 64, .i .i64 (pR M a x rc), .b false], bT [.rs 6 0 (pN M a x n) 1, .ints .i64 2 ([(pS M a x n s), (-1 : Int)] : List Int), .b false, .b true], none, none, bT [.mp 64 (pM M a x)], bT [.ints .u8 uz U], bT [.ints .u8 (pN M a x n) (pL M a x rc l)], bT [.ints .u8 (pZ M a x) (pT M a x T)]]) :=
 Body.of_finK (Γ := gam628) (Λ := noLam) (Ψ := psiOf [(4, [.eqB 6 (⟨true, [.ints .u8 64 (cnV x)]⟩)])]) (fuel := 0) (m := 67) (c := (Tryz.f23.body.getD .skip)) mix tabOkDC gam628_ok rfl (rs := [.cell 4 74, .tmp 5]) rfl rfl [false, false, false, false, false] [.eqB 7 (⟨true, [.i .i64 0, .ints .u8 64 (pC M a x)]⟩), .eqS 5 (.o (.a (.i .i64 (pE M a x)))), .eqB 0 (⟨true, [.p 1 0, .rs 11 0 (pA M a x) 128, .mv 4, .rs 5 0 u 64, .i .i64 (pR M a x rc), .b false]⟩), .eqB 1 (⟨true, [.rs 10 0 (pN M a x n) 1, .ints .i64 2 ([(pS M a x n s), (-1 : Int)] : List Int), .b false, .b true]⟩), .eqB 10 (⟨true, [.ints .u8 (pN M a x n) (pL M a x rc l)]⟩), .eqB 11 (⟨true, [.ints .u8 (pZ M a x) (pT M a x T)]⟩), .eqB 4 (⟨true, [.mp 64 (pM M a x)]⟩), .swap 6 10, .swap 7 11] 8
  (vc := [((bT [.mp 64 (cmV_2 M (splice (splice (List.replicate 128 (0 : Int)) 0 64 (kyV (cnV x))) 64 64 (cnV x)))] : Option Blk) = bT [.mp 64 (pM M a x)]), ((bT [.ints .u8 (cmV_3 a) (cmV_4 T (splice (splice (List.replicate 128 (0 : Int)) 0 64 (kyV (cnV x))) 64 64 (cnV x)))] : Option Blk) = bT [.ints .u8 (pZ M a x) (pT M a x T)]), ((bT [.ints .u8 (wrV n 64) (wrV_2 rc l (1 : Int) 64 (sub (nbV (cnV x)) 0 64))] : Option Blk) = bT [.ints .u8 (pN M a x n) (pL M a x rc l)]), ((bT [.rs 10 0 (wrV n 64) 1, .ints .i64 2 ([(wrV_1 n 64), (-1 : Int)] : List Int), .b false, .b true] : Option Blk) = bT [.rs 10 0 (pN M a x n) 1, .ints .i64 2 ([(pS M a x n s), (-1 : Int)] : List Int), .b false, .b true]), ((bT [.p 1 0, .rs 11 0 (cmV a) 128, .mv 4, .rs 5 0 u 64, .i .i64 (cmV_1 rc), .b false] : Option Blk) = bT [.p 1 0, .rs 11 0 (pA M a x) 128, .mv 4, .rs 5 0 u 64, .i .i64 (pR M a x rc), .b false]), ((.o (.a (.i .i64 0)) : AV) = .o (.a (.i .i64 (pE M a x)))), ((bT [.i .i64 0, .ints .u8 64 (prV (kyV (cnV x)))] : Option Blk) = bT [.i .i64 0, .ints .u8 64 (pC M a x)]), ((True ∧ (True ∧ True)) ∧ (((wrV n 64) = (wrV n 64)) ∧ (tz = (a * 128)) ∧ (a < 68719476736) ∧ ((0 : Int) ≤ rc) ∧ (rc < (1099511627776 : Int)))), (false = false), ((True ∧ (True ∧ ((64 ≤ 64) ∧ True))) ∧ ((n = n) ∧ (64 = 64) ∧ (n < 70368744177664) ∧ (cN 64 1099511627776) ∧ (cN 0 64))), ((True ∧ True) ∧ True), ((decide ((a : Int) ≥ (1024 : Int))) = false), ((decide ((mget M (kyV (cnV x))) > (0 : Int))) = false), ((!(kyV_1 (cnV x))) = false), (V.Byt (cnV x)), ((bT [.ints .u8 64 (splice (splice (List.replicate 64 0) 0 32 (V.addP (sub x 0 32) ([0, 0, 0, 0, 0, 0, 0, 0, 0, 0, 0, 0, 0, 0, 0, 0, 0, 0, 0, 0, 0, 0, 0, 0, 0, 0, 0, 0, 0, 0, 0, 0] : List Int))) 32 32 (V.addP (sub x 32 32) ([0, 0, 0, 0, 0, 0, 0, 0, 0, 0, 0, 0, 0, 0, 0, 0, 0, 0, 0, 0, 0, 0, 0, 0, 0, 0, 0, 0, 0, 0, 0, 0] : List Int)))] : Option Blk) = bT [.ints .u8 64 (cnV x)]), ((V.Byt (sub x 32 32)) ∧ (V.Byt ([0, 0, 0, 0, 0, 0, 0, 0, 0, 0, 0, 0, 0, 0, 0, 0, 0, 0, 0, 0, 0, 0, 0, 0, 0, 0, 0, 0, 0, 0, 0, 0] : List Int))), ((V.Byt (sub x 0 32)) ∧ (V.Byt ([0, 0, 0, 0, 0, 0, 0, 0, 0, 0, 0, 0, 0, 0, 0, 0, 0, 0, 0, 0, 0, 0, 0, 0, 0, 0, 0, 0, 0, 0, 0, 0] : List Int))), (false = false), ((True ∧ True) ∧ (n = n))]) (by kernel_rfl)
  (aC ((by unfold pM cmV_2; rw [(pW_ok y1 y2 y3).1, en_eq, sub_app_l (pkV_len x)]; rfl)) (aC ((by unfold pZ pA pT cmV_3 cmV_4; rw [(pW_ok y1 y2 y3).1]; rw [en_eq]; rfl)) (aC ((by unfold pN pL; rw [(pW_ok y1 y2 y3).1]; rfl)) (aC ((by unfold pN pS; rw [(pW_ok y1 y2 y3).1]; rfl)) (aC ((by unfold pA pR; rw [(pW_ok y1 y2 y3).1]; rfl)) (aC ((by rw [(pW_ok y1 y2 y3).2])) (aC ((by unfold pC; rw [(pW_ok y1 y2 y3).1]; rw [prV_eq (kyV_len _)]; rfl)) (aC ⟨⟨trivial, ⟨trivial, trivial⟩⟩, ⟨rfl, h1, h3, h4, h5⟩⟩ (aC rfl (aC ⟨⟨trivial, ⟨trivial, ⟨(dd rfl), trivial⟩⟩⟩, ⟨rfl, rfl, h0, (dd rfl), (dd rfl)⟩⟩ (aC ⟨⟨trivial, trivial⟩, trivial⟩ (aC (df (by omega)) (aC (df y2) (aC (by show (!kyV_1 (cnV x)) = false; rw [show kyV_1 (cnV x) = true from y1]; rfl) (aC (cnV_byt _) (aC ((congrArg (fun z => (bT [.ints .u8 64 z] : Option Blk)) (splice2 (h := V.addP (sub x 0 32) ZZ) (b := V.addP (sub x 32 32) ZZ) (V.addP_len _ _) (V.addP_len _ _)))) (aC ⟨(V.byt_sub (by assumption) _ _), (by unfold V.Byt; decide)⟩ (aC ⟨(V.byt_sub (by assumption) _ _), (by unfold V.Byt; decide)⟩ (aC rfl (aC ⟨⟨trivial, trivial⟩, rfl⟩ (AllP_nil)))))))))))))))))))))

theorem puV_body (a u : Nat) (rc : Int) (n : Nat) (s : Int) (l : List Int) (tz : Nat) (T : List Int) (M : List (List Int × Int)) (uz : Nat) (U : List Int) (x : List Int) (h0 : (n < 70368744177664)) (h1 : (tz = (a * 128))) (h2 : (uz = (u * 64))) (h3 : (a < 68719476736)) (h4 : ((0 : Int) ≤ rc)) (h5 : (rc < (1099511627776 : Int))) (h6 : (V.Byt x)) (w : World) (rw : List Nat) (β : Env) : Body Tryz.prog (tabOf tabDC) Tryz.f23 ⟨w, rw, 6, β⟩ [.o (.a (.p 0 0)), .o (.g [.ints .u8 64 x])] [bT [.p 1 0, .rs 3 0 a 128, .mv 4, .rs 5 0 u 64, .i .i64 rc, .b false], bT [.rs 2 0 n 1, .ints .i64 2 ([s, (-1 : Int)] : List Int), .b false, .b true], bT [.ints .u8 n l], bT [.ints .u8 tz T], bT [.mp 64 M], bT [.ints .u8 uz U]] (fun ys K' => ys = [.g [.i .i64 0, .ints .u8 64 (pC M a x)], .a (.i .i64 (pE M a x))] ∧ K' = [bT [.p 1 0, .rs 7 0 (pA M a x) 128, .mv 4, .rs 5 0 u 64, .i .i64 (pR M a x rc), .b false], bT [.rs 6 0 (pN M a x n) 1, .ints .i64 2 ([(pS M a x n s), (-1 : Int)] : List Int), .b false, .b true], none, none, bT [.mp 64 (pM M a x)], bT [.ints .u8 uz U], bT [.ints .u8 (pN M a x n) (pL M a x rc l)], bT [.ints .u8 (pZ M a x) (pT M a x T)]]) :=
 Body.lens (c := (Tryz.f23.body.getD .skip)) rfl fun h => by
 rcases Bool.eq_false_or_eq_true (kyV_1 (cnV x)) with y1 | y1
 ·by_cases y2 : mget M (pkV x) > 0
  ·exact puB_body0 a u rc n s l tz T M uz U x h0 h1 h2 h3 h4 h5 h6 (h.lens 1 _ .i64 2 ([s, (-1 : Int)] : List Int) rfl (by simp)) (h.lens 2 _ .u8 n l rfl (by simp)) (h.lens 3 _ .u8 tz T rfl (by simp)) (h.lens 5 _ .u8 uz U rfl (by simp)) (h.vals 1 _ _ _ rfl) y1 y2 w rw β
  ·by_cases y3 : a < 1024
   ·exact puD_body0 a u rc n s l tz T M uz U x h0 h1 h2 h3 h4 h5 h6 (h.lens 1 _ .i64 2 ([s, (-1 : Int)] : List Int) rfl (by simp)) (h.lens 2 _ .u8 n l rfl (by simp)) (h.lens 3 _ .u8 tz T rfl (by simp)) (h.lens 5 _ .u8 uz U rfl (by simp)) (h.vals 1 _ _ _ rfl) y1 y2 y3 w rw β
   ·exact puC_body0 a u rc n s l tz T M uz U x h0 h1 h2 h3 h4 h5 h6 (h.lens 1 _ .i64 2 ([s, (-1 : Int)] : List Int) rfl (by simp)) (h.lens 2 _ .u8 n l rfl (by simp)) (h.lens 3 _ .u8 tz T rfl (by simp)) (h.lens 5 _ .u8 uz U rfl (by simp)) (h.vals 1 _ _ _ rfl) y1 y2 y3 w rw β
 ·exact puA_body0 a u rc n s l tz T M uz U x h0 h1 h2 h3 h4 h5 h6 (h.lens 1 _ .i64 2 ([s, (-1 : Int)] : List Int) rfl (by simp)) (h.lens 2 _ .u8 n l rfl (by simp)) (h.lens 3 _ .u8 tz T rfl (by simp)) (h.lens 5 _ .u8 uz U rfl (by simp)) (h.vals 1 _ _ _ rfl) y1 w rw β

def gam629 : Gam := gcall 23 [true, true, true, true, true, true] [.w, .w] (fun wk vs args => match wk, vs, args with | [⟨true, [.p 1 0, .rs 3 0 a 128, .mv 4, .rs 5 0 u 64, .i .i64 rc, .b false]⟩, ⟨true, [.rs 2 0 n 1, .ints .i64 2 ([s, (-1 : Int)] : List Int), .b false, .b true]⟩, ⟨true, [.ints .u8 n_1 l]⟩, ⟨true, [.ints .u8 tz T]⟩, ⟨true, [.mp 64 M]⟩, ⟨true, [.ints .u8 uz U]⟩], [], [.o (.a (.p 0 0)), .o (.g [.ints .u8 64 x])] => some ((n_1 = n) ∧ (n < 70368744177664) ∧ (tz = (a * 128)) ∧ (uz = (u * 64)) ∧ (a < 68719476736) ∧ ((0 : Int) ≤ rc) ∧ (rc < (1099511627776 : Int)) ∧ (V.Byt x), [.g [.i .i64 0, .ints .u8 64 (pC M a x)], .a (.i .i64 (pE M a x))], [bT [.p 1 0, .rs 7 0 (pA M a x) 128, .mv 4, .rs 5 0 u 64, .i .i64 (pR M a x rc), .b false], bT [.rs 6 0 (pN M a x n) 1, .ints .i64 2 ([(pS M a x n s), (-1 : Int)] : List Int), .b false, .b true], none, none, bT [.mp 64 (pM M a x)], bT [.ints .u8 uz U], bT [.ints .u8 (pN M a x n) (pL M a x rc l)], bT [.ints .u8 (pZ M a x) (pT M a x T)]]) | _, _, _ => none) gam628
theorem gam629_ok : GamOk Tryz.prog gam629 := gcall_ok tabOkDC Tryz.func23 gam628_ok Tryz.call23 (by
 intro wk vs args p xs K1 h hv
 split at h
 ·simp only [Option.some.injEq, Prod.mk.injEq] at h; obtain ⟨rfl, rfl, rfl⟩ := h; obtain ⟨g0, g1, g2, g3, g4, g5, g6, g7⟩ := hv; subst g0; exact fun caps w rw β => puV_body _ _ _ _ _ _ _ _ _ _ _ _ g1 g2 g3 g4 g5 g6 g7 w rw β
 ·simp at h)

end Go.Proofs.YtjmfnjgcofpocaaGreat.X

/- Printed by a tool of this session. -/
namespace Go.Proofs.YtjmfnjgcofpocaaGreat.X
open Go Go.Proofs
set_option linter.unusedVariables false
set_option linter.unusedSimpArgs false
set_option maxRecDepth 100000
set_option maxHeartbeats 8000000
theorem teDD_46 : TEOk Tryz.prog 46 ⟨.int .i64, 1, 8, [.i .i64 (0 : Int)], false⟩ :=
 TEOk.of Tryz.underlying46 (i := Tryz.t46) (by kernel_rfl) rfl rfl rfl (by kernel_rfl) (fun h => by cases h) (by kernel_rfl) (by kernel_rfl)
theorem teDD_89 : TEOk Tryz.prog 89 ⟨.slice 133, 1, 24, [.raw (.slice none 0 0)], false⟩ :=
 TEOk.of Tryz.underlying89 (i := Tryz.t89) (by kernel_rfl) rfl rfl rfl (by kernel_rfl) (fun h => by cases h) (by kernel_rfl) (by kernel_rfl)
theorem teDD_216 : TEOk Tryz.prog 216 ⟨.array 3 46, 3, 24, [.ints .i64 3 ([0, 0, 0] : List Int)], true⟩ :=
 TEOk.of Tryz.underlying216 (i := Tryz.t216) (by kernel_rfl) rfl rfl rfl (by kernel_rfl) (fun _ => ⟨Tryz.eqGuardType216, by kernel_rfl, by kernel_rfl⟩) (by kernel_rfl) (by kernel_rfl)
noncomputable def tabDD : List (Nat × TE) := [(3, ⟨.int .i64, 1, 8, [.i .i64 0], false⟩), (4, ⟨.bool, 1, 1, [.b false], false⟩), (5, ⟨.int .u8, 1, 1, [.i .u8 0], false⟩), (23, ⟨.pointer 86, 1, 8, [.raw (.pointer none)], false⟩), (26, ⟨.slice 5, 1, 24, [nlA], false⟩), (46, ⟨.int .i64, 1, 8, [.i .i64 0], false⟩), (68, ⟨.pointer 93, 1, 8, [.raw (.pointer none)], false⟩), (72, ⟨.array 32 5, 32, 32, [.ints .u8 32 ([0, 0, 0, 0, 0, 0, 0, 0, 0, 0, 0, 0, 0, 0, 0, 0, 0, 0, 0, 0, 0, 0, 0, 0, 0, 0, 0, 0, 0, 0, 0, 0] : List Int)], true⟩), (74, ⟨Tryz.t73.desc, 65, 72, [.i .i64 0, .ints .u8 64 (List.replicate 64 0)], true⟩), (77, ⟨.array 32 5, 32, 32, [.ints .u8 32 ([0, 0, 0, 0, 0, 0, 0, 0, 0, 0, 0, 0, 0, 0, 0, 0, 0, 0, 0, 0, 0, 0, 0, 0, 0, 0, 0, 0, 0, 0, 0, 0] : List Int)], true⟩), (79, ⟨Tryz.t78.desc, 64, 64, [.ints .u8 64 (List.replicate 64 0)], true⟩), (87, ⟨.slice 140, 1, 24, [nlA], false⟩), (88, ⟨Tryz.t88.desc, 1, 8, [.raw (.map none)], false⟩), (89, ⟨.slice 133, 1, 24, [nlA], false⟩), (91, ⟨Tryz.t90.desc, 4, 64, [nlA, .raw (.map none), nlA, .i .i64 0], false⟩), (93, ⟨Tryz.t92.desc, 6, 80, [.raw (.pointer none), nlA, .raw (.map none), nlA, .i .i64 0, .b false], false⟩), (133, ⟨Tryz.t132.desc, 64, 64, [.ints .u8 64 (List.replicate 64 0)], true⟩), (140, ⟨Tryz.t139.desc, 128, 128, [.ints .u8 128 (List.replicate 128 (0 : Int))], false⟩), (216, ⟨.array 3 46, 3, 24, [.ints .i64 3 ([0, 0, 0] : List Int)], true⟩)]
theorem tabOkDD : TabOk Tryz.prog (tabOf tabDD) := (tabOf_cons teDA_3 (tabOf_cons teDA_4 (tabOf_cons teDA_5 (tabOf_cons teDA_23 (tabOf_cons teDA_26 (tabOf_cons teDD_46 (tabOf_cons teDB_68 (tabOf_cons teVI_72 (tabOf_cons teDB_74 (tabOf_cons teVK_77 (tabOf_cons teDB_79 (tabOf_cons teDB_87 (tabOf_cons teDB_88 (tabOf_cons teDD_89 (tabOf_cons teDB_91 (tabOf_cons teDB_93 (tabOf_cons teDB_133 (tabOf_cons teDB_140 (tabOf_cons teDD_216 tabOf_nil)))))))))))))))))))

theorem band_eq {a b : List Int} (h : a = b) (c d e f : Nat) : (decide (sub a c d = sub b c d) && decide (sub a e f = sub b e f)) = true := by
 subst h; simp
theorem sub_app_r {α : Type} {a b : List α} {n m : Nat} (h : a.length = n) (hb : b.length = m) : sub (a ++ b) n m = b := by
 unfold sub; rw [List.drop_append, List.drop_of_length_le (by omega), List.nil_append, show n - a.length = 0 by omega, List.drop_zero, List.take_of_length_le (by omega)]
theorem ssub_trans (T : List Int) : sub (sub T 0 128) 0 64 = sub T 0 64 := by
 unfold sub; rw [List.drop_zero, List.drop_zero, List.take_take]; rfl
theorem ssub_trans2 (T : List Int) : sub (sub T 0 128) 64 64 = sub T 64 64 := by
 unfold sub; rw [List.drop_zero, List.drop_take, List.take_take]; rfl
def tkL (rc : Int) (l h b : List Int) : List Int := l ++ sub (rcV_1 rc 2 64 (sub (nbV (h ++ b)) 0 64)) 0 73
def alX : List Int := ([3, 0, 0, 0, 0, 0, 0, 0, 0, 0, 0, 0, 0, 0, 0, 0, 0, 0, 0, 0, 0, 0, 0, 0, 0, 0, 0, 0, 0, 0, 0, 0, 4, 0, 0, 0, 0, 0, 0, 0, 0, 0, 0, 0, 0, 0, 0, 0, 0, 0, 0, 0, 0, 0, 0, 0, 0, 0, 0, 0, 0, 0, 0, 0] : List Int)
theorem al_ok : kyV_1 (cnV alX) = true := by kernel_rfl
theorem al_cn : cnV alX = alX := by kernel_rfl
theorem al_W : pW [] 0 alX = true ∧ pE [] 0 alX = 0 := pW_ok al_ok (by decide) (by decide)
def alL : List Int := sub (rcV_1 0 1 64 (sub (nbV (cnV alX)) 0 64)) 0 73
theorem al_C : pC [] 0 alX = pkV alX := pC_of al_W.1
theorem al_A : pA [] 0 alX = 1 := pA_of al_W.1
theorem al_R : pR [] 0 alX 0 = 1 := pR_of al_W.1 0
theorem al_N : pN [] 0 alX 0 = 73 := pN_of al_W.1 0
theorem al_S : pS [] 0 alX 0 0 = 73 := pS_of al_W.1 0 0
theorem al_L : pL [] 0 alX 0 [] = alL := (pL_of al_W.1 0 []).trans (List.nil_append _)
theorem al_Z : pZ [] 0 alX = 128 := pZ_of al_W.1
theorem al_T : pT [] 0 alX [] = pkV alX ++ alX := by rw [pT_of al_W.1, List.nil_append, al_cn]
theorem al_M : pM [] 0 alX = mset [] (pkV alX) 1 := pM_of al_W.1
theorem pk_len : (pkV alX).length = 64 := pkV_len _
theorem al_two : sub (pkV alX) 0 32 ++ sub (pkV alX) 32 32 = pkV alX := two_eq pk_len
theorem al_key : sub (pkV alX ++ alX) 0 64 = sub (pkV alX) 0 32 ++ sub (pkV alX) 32 32 := (sub_app_l pk_len).trans al_two.symm
theorem al_get1 : mget (mset [] (pkV alX) 1) (sub (pkV alX) 0 32 ++ sub (pkV alX) 32 32) = 1 := by
 rw [al_two]; unfold mset mget; rw [if_pos rfl]
theorem al_get2 : mget (mset (mset [] (pkV alX) 1) (sub (pkV alX) 0 32 ++ sub (pkV alX) 32 32) 2) (sub (pkV alX) 0 32 ++ sub (pkV alX) 32 32) = 2 := by
 rw [al_two]
 show mget (if pkV alX = pkV alX then _ else _) _ = 2
 rw [if_pos rfl]
 unfold mget; rw [if_pos rfl]
theorem al_nonce : sub (pkV alX ++ alX) 64 64 = alX := sub_app_r pk_len rfl
def hsV (M : List (List Int × Int)) (x : List Int) : Int :=
 (List.getD ([133, 0, 132] : List Int) (Int.toNat (mget M x)) 0)

theorem hsV_body0 (a u : Nat) (rc : Int) (n : Nat) (s : Int) (l : List Int) (tz : Nat) (T : List Int) (M : List (List Int × Int)) (uz : Nat) (U : List Int) (x : List Int) (h0 : ((0 : Int) ≤ (mget M x))) (h1 : ((mget M x) < 3)) (hl1_1 : List.length ([s, (-1 : Int)] : List Int) = 2) (hl2_0 : l.length = n) (hl3_0 : T.length = tz) (hl5_0 : U.length = uz) (hv1 : x.length = 64) (w : World) (rw : List Nat) (β : Env) : Body Tryz.prog (tabOf tabDD) Tryz.f86 ⟨w, rw, 6, β⟩ [.o (.a (.p 0 0)), .o (.g [.ints .u8 64 x])] [bT [.p 1 0, .rs 3 0 a 128, .mv 4, .rs 5 0 u 64, .i .i64 rc, .b false], bT [.rs 2 0 n 1, .ints .i64 2 ([s, (-1 : Int)] : List Int), .b false, .b true], bT [.ints .u8 n l], bT [.ints .u8 tz T], bT [.mp 64 M], bT [.ints .u8 uz U]] (fun ys K' => ys = [.a (.i .i64 (hsV M x))] ∧ K' = [bT [.p 1 0, .rs 3 0 a 128, .mv 4, .rs 5 0 u 64, .i .i64 rc, .b false], bT [.rs 2 0 n 1, .ints .i64 2 ([s, (-1 : Int)] : List Int), .b false, .b true], bT [.ints .u8 n l], bT [.ints .u8 tz T], bT [.mp 64 M], bT [.ints .u8 uz U]]) :=
 Body.of_finK (Γ := gam629) (Λ := noLam) (Ψ := noPsi) (fuel := 0) (m := 14) (c := (Tryz.f86.body.getD .skip)) mix tabOkDD gam629_ok rfl (rs := [.tmp 4]) rfl rfl [] [] 6
  (vc := [((((0 : Int) ≤ (mget M x)) ∧ ((mget M x) < 3)) ∧ (okP (some ((Int.toNat (mget M x)) < 3))))]) (by kernel_rfl)
  (aC ⟨⟨h0, h1⟩, (show ((Int.toNat (mget M x)) < (3 : Nat)) from (by first | omega | (simp (disch := omega) only [wrapI]; omega)))⟩ (AllP_nil))

theorem hsV_body (a u : Nat) (rc : Int) (n : Nat) (s : Int) (l : List Int) (tz : Nat) (T : List Int) (M : List (List Int × Int)) (uz : Nat) (U : List Int) (x : List Int) (h0 : ((0 : Int) ≤ (mget M x))) (h1 : ((mget M x) < 3)) (w : World) (rw : List Nat) (β : Env) : Body Tryz.prog (tabOf tabDD) Tryz.f86 ⟨w, rw, 6, β⟩ [.o (.a (.p 0 0)), .o (.g [.ints .u8 64 x])] [bT [.p 1 0, .rs 3 0 a 128, .mv 4, .rs 5 0 u 64, .i .i64 rc, .b false], bT [.rs 2 0 n 1, .ints .i64 2 ([s, (-1 : Int)] : List Int), .b false, .b true], bT [.ints .u8 n l], bT [.ints .u8 tz T], bT [.mp 64 M], bT [.ints .u8 uz U]] (fun ys K' => ys = [.a (.i .i64 (hsV M x))] ∧ K' = [bT [.p 1 0, .rs 3 0 a 128, .mv 4, .rs 5 0 u 64, .i .i64 rc, .b false], bT [.rs 2 0 n 1, .ints .i64 2 ([s, (-1 : Int)] : List Int), .b false, .b true], bT [.ints .u8 n l], bT [.ints .u8 tz T], bT [.mp 64 M], bT [.ints .u8 uz U]]) :=
 Body.lens (c := (Tryz.f86.body.getD .skip)) rfl fun h => hsV_body0 a u rc n s l tz T M uz U x h0 h1 (h.lens 1 _ .i64 2 ([s, (-1 : Int)] : List Int) rfl (by simp)) (h.lens 2 _ .u8 n l rfl (by simp)) (h.lens 3 _ .u8 tz T rfl (by simp)) (h.lens 5 _ .u8 uz U rfl (by simp)) (h.vals 1 _ _ _ rfl) w rw β

noncomputable def gam630 : Gam := gcall 86 [true, true, true, true, true, true] [.w, .w] (fun wk vs args => match wk, vs, args with | [⟨true, [.p 1 0, .rs 3 0 a 128, .mv 4, .rs 5 0 u 64, .i .i64 rc, .b false]⟩, ⟨true, [.rs 2 0 n 1, .ints .i64 2 ([s, (-1 : Int)] : List Int), .b false, .b true]⟩, ⟨true, [.ints .u8 n_1 l]⟩, ⟨true, [.ints .u8 tz T]⟩, ⟨true, [.mp 64 M]⟩, ⟨true, [.ints .u8 uz U]⟩], [], [.o (.a (.p 0 0)), .o (.g [.ints .u8 64 x])] => some ((n_1 = n) ∧ ((0 : Int) ≤ (mget M x)) ∧ ((mget M x) < (3 : Int)), [.a (.i .i64 (hsV M x))], [bT [.p 1 0, .rs 3 0 a 128, .mv 4, .rs 5 0 u 64, .i .i64 rc, .b false], bT [.rs 2 0 n 1, .ints .i64 2 ([s, (-1 : Int)] : List Int), .b false, .b true], bT [.ints .u8 n l], bT [.ints .u8 tz T], bT [.mp 64 M], bT [.ints .u8 uz U]]) | _, _, _ => none) gam629
theorem gam630_ok : GamOk Tryz.prog gam630 := gcall_ok tabOkDD Tryz.func86 gam629_ok Tryz.call86 (by
 intro wk vs args p xs K1 h hv
 split at h
 ·simp only [Option.some.injEq, Prod.mk.injEq] at h; obtain ⟨rfl, rfl, rfl⟩ := h; obtain ⟨g0, g1, g2⟩ := hv; subst g0; exact fun caps w rw β => hsV_body _ _ _ _ _ _ _ _ _ _ _ _ g1 g2 w rw β
 ·simp at h)

def usV (u : Nat) : Int :=
 (u : Int)

theorem usV_body0 (a u : Nat) (rc : Int) (n : Nat) (s : Int) (l : List Int) (tz : Nat) (T : List Int) (M : List (List Int × Int)) (uz : Nat) (U : List Int) (hl1_1 : List.length ([s, (-1 : Int)] : List Int) = 2) (hl2_0 : l.length = n) (hl3_0 : T.length = tz) (hl5_0 : U.length = uz) (w : World) (rw : List Nat) (β : Env) : Body Tryz.prog (tabOf tabDD) Tryz.f53 ⟨w, rw, 6, β⟩ [.o (.a (.p 0 0))] [bT [.p 1 0, .rs 3 0 a 128, .mv 4, .rs 5 0 u 64, .i .i64 rc, .b false], bT [.rs 2 0 n 1, .ints .i64 2 ([s, (-1 : Int)] : List Int), .b false, .b true], bT [.ints .u8 n l], bT [.ints .u8 tz T], bT [.mp 64 M], bT [.ints .u8 uz U]] (fun ys K' => ys = [.a (.i .i64 (usV u))] ∧ K' = [bT [.p 1 0, .rs 3 0 a 128, .mv 4, .rs 5 0 u 64, .i .i64 rc, .b false], bT [.rs 2 0 n 1, .ints .i64 2 ([s, (-1 : Int)] : List Int), .b false, .b true], bT [.ints .u8 n l], bT [.ints .u8 tz T], bT [.mp 64 M], bT [.ints .u8 uz U]]) :=
 Body.of_finK (Γ := gam630) (Λ := noLam) (Ψ := noPsi) (fuel := 0) (m := 11) (c := (Tryz.f53.body.getD .skip)) mix tabOkDD gam630_ok rfl (rs := [.tmp 2]) rfl rfl [false] [] 6
  (vc := [(false = false)]) (by kernel_rfl)
  (aC rfl (AllP_nil))

theorem usV_body (a u : Nat) (rc : Int) (n : Nat) (s : Int) (l : List Int) (tz : Nat) (T : List Int) (M : List (List Int × Int)) (uz : Nat) (U : List Int) (w : World) (rw : List Nat) (β : Env) : Body Tryz.prog (tabOf tabDD) Tryz.f53 ⟨w, rw, 6, β⟩ [.o (.a (.p 0 0))] [bT [.p 1 0, .rs 3 0 a 128, .mv 4, .rs 5 0 u 64, .i .i64 rc, .b false], bT [.rs 2 0 n 1, .ints .i64 2 ([s, (-1 : Int)] : List Int), .b false, .b true], bT [.ints .u8 n l], bT [.ints .u8 tz T], bT [.mp 64 M], bT [.ints .u8 uz U]] (fun ys K' => ys = [.a (.i .i64 (usV u))] ∧ K' = [bT [.p 1 0, .rs 3 0 a 128, .mv 4, .rs 5 0 u 64, .i .i64 rc, .b false], bT [.rs 2 0 n 1, .ints .i64 2 ([s, (-1 : Int)] : List Int), .b false, .b true], bT [.ints .u8 n l], bT [.ints .u8 tz T], bT [.mp 64 M], bT [.ints .u8 uz U]]) :=
 Body.lens (c := (Tryz.f53.body.getD .skip)) rfl fun h => usV_body0 a u rc n s l tz T M uz U (h.lens 1 _ .i64 2 ([s, (-1 : Int)] : List Int) rfl (by simp)) (h.lens 2 _ .u8 n l rfl (by simp)) (h.lens 3 _ .u8 tz T rfl (by simp)) (h.lens 5 _ .u8 uz U rfl (by simp)) w rw β

noncomputable def gam631 : Gam := gcall 53 [true, true, true, true, true, true] [.w] (fun wk vs args => match wk, vs, args with | [⟨true, [.p 1 0, .rs 3 0 a 128, .mv 4, .rs 5 0 u 64, .i .i64 rc, .b false]⟩, ⟨true, [.rs 2 0 n 1, .ints .i64 2 ([s, (-1 : Int)] : List Int), .b false, .b true]⟩, ⟨true, [.ints .u8 n_1 l]⟩, ⟨true, [.ints .u8 tz T]⟩, ⟨true, [.mp 64 M]⟩, ⟨true, [.ints .u8 uz U]⟩], [], [.o (.a (.p 0 0))] => some ((n_1 = n), [.a (.i .i64 (usV u))], [bT [.p 1 0, .rs 3 0 a 128, .mv 4, .rs 5 0 u 64, .i .i64 rc, .b false], bT [.rs 2 0 n 1, .ints .i64 2 ([s, (-1 : Int)] : List Int), .b false, .b true], bT [.ints .u8 n l], bT [.ints .u8 tz T], bT [.mp 64 M], bT [.ints .u8 uz U]]) | _, _, _ => none) gam630
theorem gam631_ok : GamOk Tryz.prog gam631 := gcall_ok tabOkDD Tryz.func53 gam630_ok Tryz.call53 (by
 intro wk vs args p xs K1 h hv
 split at h
 ·simp only [Option.some.injEq, Prod.mk.injEq] at h; obtain ⟨rfl, rfl, rfl⟩ := h; have g0 := hv; subst g0; exact fun caps w rw β => usV_body _ _ _ _ _ _ _ _ _ _ _ w rw β
 ·simp at h)

def lnV (a : Nat) : Int :=
 (a : Int)

theorem lnV_body0 (a u : Nat) (rc : Int) (n : Nat) (s : Int) (l : List Int) (tz : Nat) (T : List Int) (M : List (List Int × Int)) (uz : Nat) (U : List Int) (hl1_1 : List.length ([s, (-1 : Int)] : List Int) = 2) (hl2_0 : l.length = n) (hl3_0 : T.length = tz) (hl5_0 : U.length = uz) (w : World) (rw : List Nat) (β : Env) : Body Tryz.prog (tabOf tabDD) Tryz.f54 ⟨w, rw, 6, β⟩ [.o (.a (.p 0 0))] [bT [.p 1 0, .rs 3 0 a 128, .mv 4, .rs 5 0 u 64, .i .i64 rc, .b false], bT [.rs 2 0 n 1, .ints .i64 2 ([s, (-1 : Int)] : List Int), .b false, .b true], bT [.ints .u8 n l], bT [.ints .u8 tz T], bT [.mp 64 M], bT [.ints .u8 uz U]] (fun ys K' => ys = [.a (.i .i64 (lnV a))] ∧ K' = [bT [.p 1 0, .rs 3 0 a 128, .mv 4, .rs 5 0 u 64, .i .i64 rc, .b false], bT [.rs 2 0 n 1, .ints .i64 2 ([s, (-1 : Int)] : List Int), .b false, .b true], bT [.ints .u8 n l], bT [.ints .u8 tz T], bT [.mp 64 M], bT [.ints .u8 uz U]]) :=
 Body.of_finK (Γ := gam631) (Λ := noLam) (Ψ := noPsi) (fuel := 0) (m := 11) (c := (Tryz.f54.body.getD .skip)) mix tabOkDD gam631_ok rfl (rs := [.tmp 2]) rfl rfl [false] [] 6
  (vc := [(false = false)]) (by kernel_rfl)
  (aC rfl (AllP_nil))

theorem lnV_body (a u : Nat) (rc : Int) (n : Nat) (s : Int) (l : List Int) (tz : Nat) (T : List Int) (M : List (List Int × Int)) (uz : Nat) (U : List Int) (w : World) (rw : List Nat) (β : Env) : Body Tryz.prog (tabOf tabDD) Tryz.f54 ⟨w, rw, 6, β⟩ [.o (.a (.p 0 0))] [bT [.p 1 0, .rs 3 0 a 128, .mv 4, .rs 5 0 u 64, .i .i64 rc, .b false], bT [.rs 2 0 n 1, .ints .i64 2 ([s, (-1 : Int)] : List Int), .b false, .b true], bT [.ints .u8 n l], bT [.ints .u8 tz T], bT [.mp 64 M], bT [.ints .u8 uz U]] (fun ys K' => ys = [.a (.i .i64 (lnV a))] ∧ K' = [bT [.p 1 0, .rs 3 0 a 128, .mv 4, .rs 5 0 u 64, .i .i64 rc, .b false], bT [.rs 2 0 n 1, .ints .i64 2 ([s, (-1 : Int)] : List Int), .b false, .b true], bT [.ints .u8 n l], bT [.ints .u8 tz T], bT [.mp 64 M], bT [.ints .u8 uz U]]) :=
 Body.lens (c := (Tryz.f54.body.getD .skip)) rfl fun h => lnV_body0 a u rc n s l tz T M uz U (h.lens 1 _ .i64 2 ([s, (-1 : Int)] : List Int) rfl (by simp)) (h.lens 2 _ .u8 n l rfl (by simp)) (h.lens 3 _ .u8 tz T rfl (by simp)) (h.lens 5 _ .u8 uz U rfl (by simp)) w rw β

noncomputable def gam632 : Gam := gcall 54 [true, true, true, true, true, true] [.w] (fun wk vs args => match wk, vs, args with | [⟨true, [.p 1 0, .rs 3 0 a 128, .mv 4, .rs 5 0 u 64, .i .i64 rc, .b false]⟩, ⟨true, [.rs 2 0 n 1, .ints .i64 2 ([s, (-1 : Int)] : List Int), .b false, .b true]⟩, ⟨true, [.ints .u8 n_1 l]⟩, ⟨true, [.ints .u8 tz T]⟩, ⟨true, [.mp 64 M]⟩, ⟨true, [.ints .u8 uz U]⟩], [], [.o (.a (.p 0 0))] => some ((n_1 = n), [.a (.i .i64 (lnV a))], [bT [.p 1 0, .rs 3 0 a 128, .mv 4, .rs 5 0 u 64, .i .i64 rc, .b false], bT [.rs 2 0 n 1, .ints .i64 2 ([s, (-1 : Int)] : List Int), .b false, .b true], bT [.ints .u8 n l], bT [.ints .u8 tz T], bT [.mp 64 M], bT [.ints .u8 uz U]]) | _, _, _ => none) gam631
theorem gam632_ok : GamOk Tryz.prog gam632 := gcall_ok tabOkDD Tryz.func54 gam631_ok Tryz.call54 (by
 intro wk vs args p xs K1 h hv
 split at h
 ·simp only [Option.some.injEq, Prod.mk.injEq] at h; obtain ⟨rfl, rfl, rfl⟩ := h; have g0 := hv; subst g0; exact fun caps w rw β => lnV_body _ _ _ _ _ _ _ _ _ _ _ w rw β
 ·simp at h)

def us1_1 (M : List (List Int × Int)) (x : List Int) : List (List Int × Int) :=
 (mset M x (2 : Int))

theorem us1_body0 (rc : Int) (n : Nat) (s : Int) (l T : List Int) (M : List (List Int × Int)) (x : List Int) (h0 : ((0 : Int) ≤ rc)) (h1 : (rc < (1099511627776 : Int))) (h2 : ((sub T 0 64) = x)) (hl1_1 : List.length ([s, (-1 : Int)] : List Int) = 2) (hl2_0 : l.length = n) (hl3_0 : T.length = 128) (hl5_0 : List.length ([] : List Int) = 0) (hv1 : x.length = 64) (w : World) (rw : List Nat) (β : Env) : Body Tryz.prog (tabOf tabDD) Tryz.f88 ⟨w, rw, 6, β⟩ [.o (.a (.p 0 1)), .o (.g [.ints .u8 64 x])] [bT [.p 1 0, .rs 3 0 1 128, .mv 4, .rs 5 0 0 64, .i .i64 rc, .b false], bT [.rs 2 0 n 1, .ints .i64 2 ([s, (-1 : Int)] : List Int), .b false, .b true], bT [.ints .u8 n l], bT [.ints .u8 128 T], bT [.mp 64 M], bT [.ints .u8 0 ([] : List Int)]] (fun ys K' => ys = [] ∧ K' = [bT [.p 1 0, .rs 6 0 0 128, .mv 4, .rs 7 0 1 64, .i .i64 (cmV_1 rc), .b false], bT [.rs 2 0 n 1, .ints .i64 2 ([s, (-1 : Int)] : List Int), .b false, .b true], bT [.ints .u8 n l], none, bT [.mp 64 (us1_1 M x)], none, bT [.ints .u8 0 ([] : List Int)], bT [.ints .u8 64 x]]) :=
 Body.of_finK (Γ := gam632) (Λ := noLam) (Ψ := noPsi) (fuel := 3) (m := 60) (c := (Tryz.f88.body.getD .skip)) mix tabOkDD gam632_ok rfl (rs := []) rfl rfl [false, true, true, false] [.eqB 8 (⟨true, [.ints .u8 64 x]⟩), .eqB 10 (⟨true, [.ints .u8 0 ([] : List Int)]⟩), .eqB 0 (⟨true, [.p 1 0, .rs 10 0 0 128, .mv 4, .rs 8 0 1 64, .i .i64 (rc + (1 : Int)), .b false]⟩), .swap 6 10, .swap 7 8] 8
  (vc := [((bT [.p 1 0, .rs 10 0 0 128, .mv 4, .rs 8 0 1 64, .i .i64 (IntKind.i64.wrap (rc + (1 : Int))), .b false] : Option Blk) = bT [.p 1 0, .rs 10 0 0 128, .mv 4, .rs 8 0 1 64, .i .i64 (rc + (1 : Int)), .b false]), ((bT [.ints .u8 0 ((sub T 0 0) ++ (sub T 128 0))] : Option Blk) = bT [.ints .u8 0 ([] : List Int)]), ((bT [.ints .u8 64 (([] : List Int) ++ (sub x 0 64))] : Option Blk) = bT [.ints .u8 64 x]), ((0 ≤ 128) ∧ ((0 ≤ 0) ∧ (128 ≤ 128)) ∧ (0 ≤ 140737488355328)), ((cZ 1) ∧ ((1 : Int) ≤ 1)), ((cZ 0) ∧ (cZ 0) ∧ (cZ 1)), (((decide ((sub (sub (sub T 0 128) 0 64) 0 32) = (sub x 0 32))) && (decide ((sub (sub (sub T 0 128) 0 64) 32 32) = (sub x 32 32)))) = true), (128 ≤ 128), (cI 0 1), cT, ((0 ≤ 0) ∧ ((1 ≤ 1) ∧ (64 ≤ 64)) ∧ (64 ≤ 140737488355328))]) (by kernel_rfl)
  (aC ((by rw [wrapI (by omega) (by omega)])) (aC ((by rw [sub_zero, sub_zero]; rfl)) (aC ((by rw [List.nil_append, ssub_all x hv1])) (aC ⟨(dd rfl), (dd rfl), (dd rfl)⟩ (aC (dd rfl) (aC ⟨(dd rfl), (dd rfl), (dd rfl)⟩ (aC (band_eq ((ssub_trans T).trans h2) _ _ _ _) (aC (dd rfl) (aC (dd rfl) (aC rfl (aC ⟨(dd rfl), (dd rfl), (dd rfl)⟩ (AllP_nil))))))))))))

theorem us1_body (rc : Int) (n : Nat) (s : Int) (l T : List Int) (M : List (List Int × Int)) (x : List Int) (h0 : ((0 : Int) ≤ rc)) (h1 : (rc < (1099511627776 : Int))) (h2 : ((sub T 0 64) = x)) (w : World) (rw : List Nat) (β : Env) : Body Tryz.prog (tabOf tabDD) Tryz.f88 ⟨w, rw, 6, β⟩ [.o (.a (.p 0 1)), .o (.g [.ints .u8 64 x])] [bT [.p 1 0, .rs 3 0 1 128, .mv 4, .rs 5 0 0 64, .i .i64 rc, .b false], bT [.rs 2 0 n 1, .ints .i64 2 ([s, (-1 : Int)] : List Int), .b false, .b true], bT [.ints .u8 n l], bT [.ints .u8 128 T], bT [.mp 64 M], bT [.ints .u8 0 ([] : List Int)]] (fun ys K' => ys = [] ∧ K' = [bT [.p 1 0, .rs 6 0 0 128, .mv 4, .rs 7 0 1 64, .i .i64 (cmV_1 rc), .b false], bT [.rs 2 0 n 1, .ints .i64 2 ([s, (-1 : Int)] : List Int), .b false, .b true], bT [.ints .u8 n l], none, bT [.mp 64 (us1_1 M x)], none, bT [.ints .u8 0 ([] : List Int)], bT [.ints .u8 64 x]]) :=
 Body.lens (c := (Tryz.f88.body.getD .skip)) rfl fun h => us1_body0 rc n s l T M x h0 h1 h2 (h.lens 1 _ .i64 2 ([s, (-1 : Int)] : List Int) rfl (by simp)) (h.lens 2 _ .u8 n l rfl (by simp)) (h.lens 3 _ .u8 128 T rfl (by simp)) (h.lens 5 _ .u8 0 ([] : List Int) rfl (by simp)) (h.vals 1 _ _ _ rfl) w rw β

noncomputable def gam633 : Gam := gcall 88 [true, true, true, true, true, true] [.w, .w] (fun wk vs args => match wk, vs, args with | [⟨true, [.p 1 0, .rs 3 0 1 128, .mv 4, .rs 5 0 0 64, .i .i64 rc, .b false]⟩, ⟨true, [.rs 2 0 n 1, .ints .i64 2 ([s, (-1 : Int)] : List Int), .b false, .b true]⟩, ⟨true, [.ints .u8 n_1 l]⟩, ⟨true, [.ints .u8 128 T]⟩, ⟨true, [.mp 64 M]⟩, ⟨true, [.ints .u8 0 ([] : List Int)]⟩], [], [.o (.a (.p 0 1)), .o (.g [.ints .u8 64 x])] => some ((n_1 = n) ∧ ((0 : Int) ≤ rc) ∧ (rc < (1099511627776 : Int)) ∧ ((sub T 0 64) = x), [], [bT [.p 1 0, .rs 6 0 0 128, .mv 4, .rs 7 0 1 64, .i .i64 (cmV_1 rc), .b false], bT [.rs 2 0 n 1, .ints .i64 2 ([s, (-1 : Int)] : List Int), .b false, .b true], bT [.ints .u8 n l], none, bT [.mp 64 (us1_1 M x)], none, bT [.ints .u8 0 ([] : List Int)], bT [.ints .u8 64 x]]) | _, _, _ => none) gam632
theorem gam633_ok : GamOk Tryz.prog gam633 := gcall_ok tabOkDD Tryz.func88 gam632_ok Tryz.call88 (by
 intro wk vs args p xs K1 h hv
 split at h
 ·simp only [Option.some.injEq, Prod.mk.injEq] at h; obtain ⟨rfl, rfl, rfl⟩ := h; obtain ⟨g0, g1, g2, g3⟩ := hv; subst g0; exact fun caps w rw β => us1_body _ _ _ _ _ _ _ g1 g2 g3 w rw β
 ·simp at h)

def tk1 (T : List Int) : List Int :=
 (sub T 64 64)

def tk1_2 (n : Nat) : Nat :=
 (n + 73)

def tk1_3 (n : Nat) : Int :=
 (((n + 73) : Nat) : Int)

def tk1_4 (M : List (List Int × Int)) (y : List Int) (z : List Int) : List (List Int × Int) :=
 (mset M (y ++ z) (2 : Int))

def tk1_5 (y z : List Int) : List Int :=
 (y ++ z)

theorem tk1_body0 (rc : Int) (n : Nat) (s : Int) (l T : List Int) (M : List (List Int × Int)) (y : List Int) (z : List Int) (h0 : (n < 70368744177664)) (h1 : ((0 : Int) ≤ rc)) (h2 : (rc < (1099511627776 : Int))) (h3 : ((sub T 0 64) = (y ++ z))) (h4 : ((mget M (y ++ z)) = 1)) (hl1_1 : List.length ([s, (-1 : Int)] : List Int) = 2) (hl2_0 : l.length = n) (hl3_0 : T.length = 128) (hl5_0 : List.length ([] : List Int) = 0) (hv1 : y.length = 32) (hv2 : z.length = 32) (w : World) (rw : List Nat) (β : Env) : Body Tryz.prog (tabOf tabDD) Tryz.f52 ⟨w, rw, 6, β⟩ [.o (.a (.p 0 0)), .o (.g [.ints .u8 32 y]), .o (.g [.ints .u8 32 z])] [bT [.p 1 0, .rs 3 0 1 128, .mv 4, .rs 5 0 0 64, .i .i64 rc, .b false], bT [.rs 2 0 n 1, .ints .i64 2 ([s, (-1 : Int)] : List Int), .b false, .b true], bT [.ints .u8 n l], bT [.ints .u8 128 T], bT [.mp 64 M], bT [.ints .u8 0 ([] : List Int)]] (fun ys K' => ys = [.g [.ints .u8 64 (tk1 T)], .a (.i .i64 0)] ∧ K' = [bT [.p 1 0, .rs 7 0 0 128, .mv 4, .rs 8 0 1 64, .i .i64 (cmV_1 rc), .b false], bT [.rs 6 0 (tk1_2 n) 1, .ints .i64 2 ([(tk1_3 n), (-1 : Int)] : List Int), .b false, .b true], none, none, bT [.mp 64 (tk1_4 M y z)], none, bT [.ints .u8 (tk1_2 n) (tkL rc l y z)], bT [.ints .u8 0 ([] : List Int)], bT [.ints .u8 64 (tk1_5 y z)]]) :=
 Body.of_finK (Γ := gam633) (Λ := noLam) (Ψ := psiOf [(4, [.eqB 9 (⟨true, [.ints .u8 64 (y ++ z)]⟩)]), (5, [.eqS 10 (.o (.a (.i .i64 0)))])]) (fuel := 3) (m := 62) (c := (Tryz.f52.body.getD .skip)) mix tabOkDD gam633_ok rfl (rs := [.cell 6 79, .tmp 7]) rfl rfl [false, false, true, true, false, false] [.eqB 8 (⟨true, [.ints .u8 64 (sub T 64 64)]⟩), .eqB 13 (⟨true, [.ints .u8 (n + 73) (tkL rc l y z)]⟩), .eqB 1 (⟨true, [.rs 13 0 (n + 73) 1, .ints .i64 2 ([(((n + 73) : Nat) : Int), (-1 : Int)] : List Int), .b false, .b true]⟩), .eqB 0 (⟨true, [.p 1 0, .rs 14 0 0 128, .mv 4, .rs 15 0 1 64, .i .i64 (rc + (1 : Int)), .b false]⟩), .eqB 4 (⟨true, [.mp 64 (mset M (y ++ z) (2 : Int))]⟩), .swap 6 13, .swap 7 14, .swap 8 15] 9
  (vc := [((bT [.mp 64 (us1_1 M (y ++ z))] : Option Blk) = bT [.mp 64 (mset M (y ++ z) (2 : Int))]), ((bT [.p 1 0, .rs 14 0 0 128, .mv 4, .rs 15 0 1 64, .i .i64 (cmV_1 rc), .b false] : Option Blk) = bT [.p 1 0, .rs 14 0 0 128, .mv 4, .rs 15 0 1 64, .i .i64 (rc + (1 : Int)), .b false]), ((bT [.rs 13 0 (wrV n 64) 1, .ints .i64 2 ([(wrV_1 n 64), (-1 : Int)] : List Int), .b false, .b true] : Option Blk) = bT [.rs 13 0 (n + 73) 1, .ints .i64 2 ([(((n + 73) : Nat) : Int), (-1 : Int)] : List Int), .b false, .b true]), ((bT [.ints .u8 (wrV n 64) (wrV_2 rc l (2 : Int) 64 (sub (nbV (y ++ z)) 0 64))] : Option Blk) = bT [.ints .u8 (n + 73) (tkL rc l y z)]), ((bT [.ints .u8 64 (sub (sub T 0 128) 64 64)] : Option Blk) = bT [.ints .u8 64 (sub T 64 64)]), ((True ∧ (True ∧ True)) ∧ (((wrV n 64) = (wrV n 64)) ∧ ((0 : Int) ≤ rc) ∧ (rc < (1099511627776 : Int)) ∧ ((sub T 0 64) = (y ++ z)))), (false = false), ((True ∧ (True ∧ ((64 ≤ 64) ∧ True))) ∧ ((n = n) ∧ (64 = 64) ∧ (n < 70368744177664) ∧ (cN 64 1099511627776) ∧ (cN 0 64))), ((True ∧ True) ∧ True), (false = false), (((decide ((sub (sub (sub T 0 128) 0 64) 0 32) = (sub (y ++ z) 0 32))) && (decide ((sub (sub (sub T 0 128) 0 64) 32 32) = (sub (y ++ z) 32 32)))) = true), (128 ≤ 128), (cI 0 1), cT, (false = false), ((.o (.a (.i .i64 (hsV M (y ++ z)))) : AV) = .o (.a (.i .i64 0))), ((True ∧ (True ∧ True)) ∧ ((n = n) ∧ ((0 : Int) ≤ (mget M (y ++ z))) ∧ ((mget M (y ++ z)) < 3))), ((bT [.ints .u8 64 (splice (splice (List.replicate 64 0) 0 32 y) 32 32 z)] : Option Blk) = bT [.ints .u8 64 (y ++ z)]), (false = false), ((True ∧ True) ∧ (n = n))]) (by kernel_rfl)
  (aC (rfl) (aC (rfl) (aC (rfl) (aC (rfl) (aC ((by rw [ssub_trans2])) (aC ⟨⟨trivial, ⟨trivial, trivial⟩⟩, ⟨rfl, h1, h2, h3⟩⟩ (aC rfl (aC ⟨⟨trivial, ⟨trivial, ⟨(dd rfl), trivial⟩⟩⟩, ⟨rfl, rfl, h0, (dd rfl), (dd rfl)⟩⟩ (aC ⟨⟨trivial, trivial⟩, trivial⟩ (aC rfl (aC (band_eq ((ssub_trans T).trans h3) _ _ _ _) (aC (dd rfl) (aC (dd rfl) (aC rfl (aC rfl (aC ((by unfold hsV; rw [h4]; rfl)) (aC ⟨⟨trivial, ⟨trivial, trivial⟩⟩, ⟨rfl, (by rw [h4]; decide), (by rw [h4]; decide)⟩⟩ (aC ((congrArg (fun z => (bT [.ints .u8 64 z] : Option Blk)) (splice2 hv1 hv2))) (aC rfl (aC ⟨⟨trivial, trivial⟩, rfl⟩ (AllP_nil)))))))))))))))))))))

theorem tk1_body (rc : Int) (n : Nat) (s : Int) (l T : List Int) (M : List (List Int × Int)) (y : List Int) (z : List Int) (h0 : (n < 70368744177664)) (h1 : ((0 : Int) ≤ rc)) (h2 : (rc < (1099511627776 : Int))) (h3 : ((sub T 0 64) = (y ++ z))) (h4 : ((mget M (y ++ z)) = 1)) (w : World) (rw : List Nat) (β : Env) : Body Tryz.prog (tabOf tabDD) Tryz.f52 ⟨w, rw, 6, β⟩ [.o (.a (.p 0 0)), .o (.g [.ints .u8 32 y]), .o (.g [.ints .u8 32 z])] [bT [.p 1 0, .rs 3 0 1 128, .mv 4, .rs 5 0 0 64, .i .i64 rc, .b false], bT [.rs 2 0 n 1, .ints .i64 2 ([s, (-1 : Int)] : List Int), .b false, .b true], bT [.ints .u8 n l], bT [.ints .u8 128 T], bT [.mp 64 M], bT [.ints .u8 0 ([] : List Int)]] (fun ys K' => ys = [.g [.ints .u8 64 (tk1 T)], .a (.i .i64 0)] ∧ K' = [bT [.p 1 0, .rs 7 0 0 128, .mv 4, .rs 8 0 1 64, .i .i64 (cmV_1 rc), .b false], bT [.rs 6 0 (tk1_2 n) 1, .ints .i64 2 ([(tk1_3 n), (-1 : Int)] : List Int), .b false, .b true], none, none, bT [.mp 64 (tk1_4 M y z)], none, bT [.ints .u8 (tk1_2 n) (tkL rc l y z)], bT [.ints .u8 0 ([] : List Int)], bT [.ints .u8 64 (tk1_5 y z)]]) :=
 Body.lens (c := (Tryz.f52.body.getD .skip)) rfl fun h => tk1_body0 rc n s l T M y z h0 h1 h2 h3 h4 (h.lens 1 _ .i64 2 ([s, (-1 : Int)] : List Int) rfl (by simp)) (h.lens 2 _ .u8 n l rfl (by simp)) (h.lens 3 _ .u8 128 T rfl (by simp)) (h.lens 5 _ .u8 0 ([] : List Int) rfl (by simp)) (h.vals 1 _ _ _ rfl) (h.vals 2 _ _ _ rfl) w rw β

theorem tk2_body0 (rc : Int) (n : Nat) (s : Int) (l : List Int) (M : List (List Int × Int)) (U : List Int) (y : List Int) (z : List Int) (h0 : (n < 70368744177664)) (h1 : ((0 : Int) ≤ rc)) (h2 : (rc < (1099511627776 : Int))) (h3 : ((mget M (y ++ z)) = 2)) (hl1_1 : List.length ([s, (-1 : Int)] : List Int) = 2) (hl2_0 : l.length = n) (hl3_0 : List.length ([] : List Int) = 0) (hl5_0 : U.length = 64) (hv1 : y.length = 32) (hv2 : z.length = 32) (w : World) (rw : List Nat) (β : Env) : Body Tryz.prog (tabOf tabDD) Tryz.f52 ⟨w, rw, 6, β⟩ [.o (.a (.p 0 0)), .o (.g [.ints .u8 32 y]), .o (.g [.ints .u8 32 z])] [bT [.p 1 0, .rs 3 0 0 128, .mv 4, .rs 5 0 1 64, .i .i64 rc, .b false], bT [.rs 2 0 n 1, .ints .i64 2 ([s, (-1 : Int)] : List Int), .b false, .b true], bT [.ints .u8 n l], bT [.ints .u8 0 ([] : List Int)], bT [.mp 64 M], bT [.ints .u8 64 U]] (fun ys K' => ys = [.g [.ints .u8 64 (List.replicate 64 0)], .a (.i .i64 132)] ∧ K' = [bT [.p 1 0, .rs 3 0 0 128, .mv 4, .rs 5 0 1 64, .i .i64 rc, .b false], bT [.rs 2 0 n 1, .ints .i64 2 ([s, (-1 : Int)] : List Int), .b false, .b true], bT [.ints .u8 n l], bT [.ints .u8 0 ([] : List Int)], bT [.mp 64 M], bT [.ints .u8 64 U]]) :=
 Body.of_finK (Γ := gam633) (Λ := noLam) (Ψ := psiOf [(4, [.eqB 9 (⟨true, [.ints .u8 64 (y ++ z)]⟩)]), (5, [.eqS 10 (.o (.a (.i .i64 132)))])]) (fuel := 0) (m := 62) (c := (Tryz.f52.body.getD .skip)) mix tabOkDD gam633_ok rfl (rs := [.cell 6 79, .tmp 7]) rfl rfl [false, true] [] 6
  (vc := [cT, ((.o (.a (.i .i64 (hsV M (y ++ z)))) : AV) = .o (.a (.i .i64 132))), ((True ∧ (True ∧ True)) ∧ ((n = n) ∧ ((0 : Int) ≤ (mget M (y ++ z))) ∧ ((mget M (y ++ z)) < 3))), ((bT [.ints .u8 64 (splice (splice (List.replicate 64 0) 0 32 y) 32 32 z)] : Option Blk) = bT [.ints .u8 64 (y ++ z)]), (false = false), ((True ∧ True) ∧ (n = n))]) (by kernel_rfl)
  (aC rfl (aC ((by unfold hsV; rw [h3]; rfl)) (aC ⟨⟨trivial, ⟨trivial, trivial⟩⟩, ⟨rfl, (by rw [h3]; decide), (by rw [h3]; decide)⟩⟩ (aC ((congrArg (fun z => (bT [.ints .u8 64 z] : Option Blk)) (splice2 hv1 hv2))) (aC rfl (aC ⟨⟨trivial, trivial⟩, rfl⟩ (AllP_nil)))))))

theorem tk2_body (rc : Int) (n : Nat) (s : Int) (l : List Int) (M : List (List Int × Int)) (U : List Int) (y : List Int) (z : List Int) (h0 : (n < 70368744177664)) (h1 : ((0 : Int) ≤ rc)) (h2 : (rc < (1099511627776 : Int))) (h3 : ((mget M (y ++ z)) = 2)) (w : World) (rw : List Nat) (β : Env) : Body Tryz.prog (tabOf tabDD) Tryz.f52 ⟨w, rw, 6, β⟩ [.o (.a (.p 0 0)), .o (.g [.ints .u8 32 y]), .o (.g [.ints .u8 32 z])] [bT [.p 1 0, .rs 3 0 0 128, .mv 4, .rs 5 0 1 64, .i .i64 rc, .b false], bT [.rs 2 0 n 1, .ints .i64 2 ([s, (-1 : Int)] : List Int), .b false, .b true], bT [.ints .u8 n l], bT [.ints .u8 0 ([] : List Int)], bT [.mp 64 M], bT [.ints .u8 64 U]] (fun ys K' => ys = [.g [.ints .u8 64 (List.replicate 64 0)], .a (.i .i64 132)] ∧ K' = [bT [.p 1 0, .rs 3 0 0 128, .mv 4, .rs 5 0 1 64, .i .i64 rc, .b false], bT [.rs 2 0 n 1, .ints .i64 2 ([s, (-1 : Int)] : List Int), .b false, .b true], bT [.ints .u8 n l], bT [.ints .u8 0 ([] : List Int)], bT [.mp 64 M], bT [.ints .u8 64 U]]) :=
 Body.lens (c := (Tryz.f52.body.getD .skip)) rfl fun h => tk2_body0 rc n s l M U y z h0 h1 h2 h3 (h.lens 1 _ .i64 2 ([s, (-1 : Int)] : List Int) rfl (by simp)) (h.lens 2 _ .u8 n l rfl (by simp)) (h.lens 3 _ .u8 0 ([] : List Int) rfl (by simp)) (h.lens 5 _ .u8 64 U rfl (by simp)) (h.vals 1 _ _ _ rfl) (h.vals 2 _ _ _ rfl) w rw β

theorem nbk_body0 (w : World) (rw : List Nat) (β : Env) : Body Tryz.prog (tabOf tabDD) Tryz.f89 ⟨w, rw, 0, β⟩ [] [] (fun ys K' => ys = [.g [nlA, .mv 0, nlA, .i .i64 (0 : Int)]] ∧ K' = [some ⟨true, [.mp 64 ([] : List (List Int × Int))]⟩]) :=
 Body.of_finK (Γ := gam618) (Λ := noLam) (Ψ := noPsi) (fuel := 0) (m := 3) (c := (Tryz.f89.body.getD .skip)) mix tabOkDD gam618_ok rfl (rs := [.cell 0 91]) rfl rfl [] [.swap 0 1] 1
  (vc := []) (by kernel_rfl)
  (AllP_nil)

theorem nbk_body (w : World) (rw : List Nat) (β : Env) : Body Tryz.prog (tabOf tabDD) Tryz.f89 ⟨w, rw, 0, β⟩ [] [] (fun ys K' => ys = [.g [nlA, .mv 0, nlA, .i .i64 (0 : Int)]] ∧ K' = [some ⟨true, [.mp 64 ([] : List (List Int × Int))]⟩]) :=
 Body.lens (c := (Tryz.f89.body.getD .skip)) rfl fun h => nbk_body0  w rw β

noncomputable def gam634 : Gam := gcall 89 [] [] (fun wk vs args => match wk, vs, args with | [], [], [] => some (True, [.g [nlA, .mv 0, nlA, .i .i64 (0 : Int)]], [some ⟨true, [.mp 64 ([] : List (List Int × Int))]⟩]) | _, _, _ => none) gam618
theorem gam634_ok : GamOk Tryz.prog gam634 := gcall_ok tabOkDD Tryz.func89 gam618_ok Tryz.call89 (by
 intro wk vs args p xs K1 h hv
 split at h
 ·simp only [Option.some.injEq, Prod.mk.injEq] at h; obtain ⟨rfl, rfl, rfl⟩ := h; exact fun caps w rw β => nbk_body w rw β
 ·simp at h)

theorem rd0_body0 (q qm : Nat) (b : List Int) (cap0 : Nat) (h0 : (qm = q)) (h1 : (q = 0)) (hc0 : q ≤ cap0) (hl0_0 : b.length = qm) (w : World) (rw : List Nat) (β : Env) : Body Tryz.prog (tabOf tabDD) Tryz.f55 ⟨w, rw, 1, β⟩ [.o (.a (.sl 0 0 q cap0))] [bF [.ints .u8 qm b]] (fun ys K' => ys = [.g [nlA, .mv 1, nlA, .i .i64 0], .a (.i .i64 0)] ∧ K' = [bF [.ints .u8 qm b], bT [.mp 64 ([] : List (List Int × Int))]]) :=
 Body.of_finK (Γ := gam634) (Λ := noLam) (Ψ := noPsi) (fuel := 1) (m := 44) (c := (Tryz.f55.body.getD .skip)) mix tabOkDD gam634_ok rfl (rs := [.cell 2 91, .tmp 3]) rfl rfl [false] [.swap 1 2] 2
  (vc := [((decide ((IntKind.i64.wrap ((q : Int) - 0)) ≥ (73 : Int))) = false), (True ∧ True)]) (by kernel_rfl)
  (aC (decide_eq_false (by first | omega | (simp (disch := omega) only [wrapI]; omega))) (aC ⟨trivial, trivial⟩ (AllP_nil)))

theorem rd0_body (q qm : Nat) (b : List Int) (cap0 : Nat) (h0 : (qm = q)) (h1 : (q = 0)) (w : World) (rw : List Nat) (β : Env) : Body Tryz.prog (tabOf tabDD) Tryz.f55 ⟨w, rw, 1, β⟩ [.o (.a (.sl 0 0 q cap0))] [bF [.ints .u8 qm b]] (fun ys K' => ys = [.g [nlA, .mv 1, nlA, .i .i64 0], .a (.i .i64 0)] ∧ K' = [bF [.ints .u8 qm b], bT [.mp 64 ([] : List (List Int × Int))]]) :=
 Body.lens (c := (Tryz.f55.body.getD .skip)) rfl fun h => rd0_body0 q qm b cap0 h0 h1 (h.caps 0 _ _ _ _ rfl) (h.lens 0 _ .u8 qm b rfl (by simp)) w rw β

noncomputable def gam635 : Gam := gcall 55 [] [.s 1] (fun wk vs args => match wk, vs, args with | [], [⟨_, _, _, [.ints .u8 qm b]⟩], [.o (.a (.sl 0 0 q _))] => some ((qm = q) ∧ (q = 0), [.g [nlA, .mv 1, nlA, .i .i64 0], .a (.i .i64 0)], [bF [.ints .u8 qm b], bT [.mp 64 ([] : List (List Int × Int))]]) | _, _, _ => none) gam634
theorem gam635_ok : GamOk Tryz.prog gam635 := gcall_ok tabOkDD Tryz.func55 gam634_ok Tryz.call55 (by
 intro wk vs args p xs K1 h hv
 split at h
 ·simp only [Option.some.injEq, Prod.mk.injEq] at h; obtain ⟨rfl, rfl, rfl⟩ := h; obtain ⟨g0, g1⟩ := hv; exact fun caps w rw β => rd0_body _ _ _ _ g0 g1 w rw β
 ·simp at h)

theorem op0_body0 (hl0_1 : List.length ([0, (-1 : Int)] : List Int) = 2) (hl1_0 : List.length ([] : List Int) = 0) (w : World) (rw : List Nat) (β : Env) : Body Tryz.prog (tabOf tabDD) Tryz.f22 ⟨w, rw, 2, β⟩ [.o (.a (.p 0 0))] [bT [.rs 1 0 0 1, .ints .i64 2 ([0, (-1 : Int)] : List Int), .b false, .b true], bT [.ints .u8 0 ([] : List Int)]] (fun ys K' => ys = [.a (.p 2 0), .a (.i .i64 0)] ∧ K' = [bT [.rs 1 0 0 1, .ints .i64 2 ([0, (-1 : Int)] : List Int), .b false, .b true], bT [.ints .u8 0 ([] : List Int)], bT [.p 0 0, .rs 3 0 0 128, .mv 4, .rs 5 0 0 64, .i .i64 0, .b false], bT [.ints .u8 0 ([] : List Int)], bT [.mp 64 ([] : List (List Int × Int))], bT [.ints .u8 0 ([] : List Int)]]) :=
 Body.of_finK (Γ := gam635) (Λ := noLam) (Ψ := noPsi) (fuel := 0) (m := 34) (c := (Tryz.f22.body.getD .skip)) mix tabOkDD gam635_ok rfl (rs := [.tmp 2, .tmp 3]) rfl rfl [false, false] [.rowB 5 1 .u8 128, .rowB 5 3 .u8 64, .swap 2 5, .swap 3 6, .swap 4 6, .swap 5 7] 6
  (vc := [(false = false), (((0 ≤ 0) ∧ True) ∧ ((0 = 0) ∧ (0 = 0))), ((True ∧ True) ∧ ((0 = 0) ∧ (cN 0 70368744177664))), (false = false), ((True ∧ True) ∧ (0 = 0))]) (by kernel_rfl)
  (aC rfl (aC ⟨⟨(by decide), trivial⟩, ⟨rfl, rfl⟩⟩ (aC ⟨⟨trivial, trivial⟩, ⟨rfl, (by decide)⟩⟩ (aC rfl (aC ⟨⟨trivial, trivial⟩, rfl⟩ (AllP_nil))))))

theorem op0_body (w : World) (rw : List Nat) (β : Env) : Body Tryz.prog (tabOf tabDD) Tryz.f22 ⟨w, rw, 2, β⟩ [.o (.a (.p 0 0))] [bT [.rs 1 0 0 1, .ints .i64 2 ([0, (-1 : Int)] : List Int), .b false, .b true], bT [.ints .u8 0 ([] : List Int)]] (fun ys K' => ys = [.a (.p 2 0), .a (.i .i64 0)] ∧ K' = [bT [.rs 1 0 0 1, .ints .i64 2 ([0, (-1 : Int)] : List Int), .b false, .b true], bT [.ints .u8 0 ([] : List Int)], bT [.p 0 0, .rs 3 0 0 128, .mv 4, .rs 5 0 0 64, .i .i64 0, .b false], bT [.ints .u8 0 ([] : List Int)], bT [.mp 64 ([] : List (List Int × Int))], bT [.ints .u8 0 ([] : List Int)]]) :=
 Body.lens (c := (Tryz.f22.body.getD .skip)) rfl fun h => op0_body0 (h.lens 0 _ .i64 2 ([0, (-1 : Int)] : List Int) rfl (by simp)) (h.lens 1 _ .u8 0 ([] : List Int) rfl (by simp)) w rw β

noncomputable def gam636 : Gam := gcall 22 [true, true] [.w] (fun wk vs args => match wk, vs, args with | [⟨true, [.rs 1 0 0 1, .ints .i64 2 ([0, (-1 : Int)] : List Int), .b false, .b true]⟩, ⟨true, [.ints .u8 0 ([] : List Int)]⟩], [], [.o (.a (.p 0 0))] => some (True, [.a (.p 2 0), .a (.i .i64 0)], [bT [.rs 1 0 0 1, .ints .i64 2 ([0, (-1 : Int)] : List Int), .b false, .b true], bT [.ints .u8 0 ([] : List Int)], bT [.p 0 0, .rs 3 0 0 128, .mv 4, .rs 5 0 0 64, .i .i64 0, .b false], bT [.ints .u8 0 ([] : List Int)], bT [.mp 64 ([] : List (List Int × Int))], bT [.ints .u8 0 ([] : List Int)]]) | _, _, _ => none) gam635
theorem gam636_ok : GamOk Tryz.prog gam636 := gcall_ok tabOkDD Tryz.func22 gam635_ok Tryz.call22 (by
 intro wk vs args p xs K1 h hv
 split at h
 ·simp only [Option.some.injEq, Prod.mk.injEq] at h; obtain ⟨rfl, rfl, rfl⟩ := h; exact fun caps w rw β => op0_body w rw β
 ·simp at h)

theorem num_body0 (x : Int) (w : World) : Body Tryz.prog (tabOf tabDD) Tryz.f17 ⟨w, [], 0, noEnv⟩ (toA [.a (.i .i64 x)]) [] (fun ys _ => ys = [.a (.i .i64 x)]) :=
 Body.of_fin (Γ := gam636) (Λ := noLam) (Ψ := noPsi) (fuel := 0) (m := 4) (c := (Tryz.f17.body.getD .skip)) mix tabOkDD gam636_ok rfl (rs := [.tmp 2]) rfl rfl [] []
  (vc := []) (by kernel_rfl)
  (AllP_nil)

theorem num_body (x : Int) (w : World) : Body Tryz.prog (tabOf tabDD) Tryz.f17 ⟨w, [], 0, noEnv⟩ (toA [.a (.i .i64 x)]) [] (fun ys _ => ys = [.a (.i .i64 x)]) :=
 Body.lens (c := (Tryz.f17.body.getD .skip)) rfl fun h => num_body0 x  w

theorem num_pure (x : Int) : PureC Tryz.prog 17 [.a (.i .i64 x)] [.a (.i .i64 x)] :=
 PureC.of_body tabOkDD Tryz.func17 rfl rfl fun w => num_body x w

noncomputable def gam637 : Gam := gpure 17 (fun args => match args with | [.o (.a (.i .i64 x))] => some (none, [.a (.i .i64 x)]) | _ => none) gam636
theorem gam637_ok : GamOk Tryz.prog gam637 := gpure_ok gam636_ok Tryz.call17 (by
 intro args vc xs h hv
 split at h
 ·simp only [Option.some.injEq, Prod.mk.injEq] at h; obtain ⟨rfl, rfl⟩ := h; exact ⟨_, by rfl, num_pure _⟩
 ·simp at h)

noncomputable def gam638 : Gam := gcall 5 [] [] (fun wk vs args => match wk, vs, args with | [], [], [] => some (True, [.a (.p 0 0)], [bT [.rs 1 0 0 1, .ints .i64 2 ([0, (-1 : Int)] : List Int), .b false, .b true], bT [.ints .u8 0 ([] : List Int)]]) | _, _, _ => none) gam637
theorem gam638_ok : GamOk Tryz.prog gam638 := gcall_ok tabOkDA Tryz.func5 gam637_ok Tryz.call5 (by
 intro wk vs args p xs K1 h hv
 split at h
 ·simp only [Option.some.injEq, Prod.mk.injEq] at h; obtain ⟨rfl, rfl, rfl⟩ := h; exact fun caps w rw β => dNew_body w rw β
 ·simp at h)

noncomputable def gam639 : Gam := gcall 23 [true, true, true, true, true, true] [.w, .w] (fun wk vs args => match wk, vs, args with | [⟨true, [.p 1 0, .rs 3 0 a 128, .mv 4, .rs 5 0 u 64, .i .i64 rc, .b false]⟩, ⟨true, [.rs 2 0 n 1, .ints .i64 2 ([s, (-1 : Int)] : List Int), .b false, .b true]⟩, ⟨true, [.ints .u8 n_1 l]⟩, ⟨true, [.ints .u8 tz T]⟩, ⟨true, [.mp 64 M]⟩, ⟨true, [.ints .u8 uz U]⟩], [], [.o (.a (.p 0 0)), .o (.g [.ints .u8 64 x])] => some ((n_1 = n) ∧ (n < 70368744177664) ∧ (tz = (a * 128)) ∧ (uz = (u * 64)) ∧ (a < 68719476736) ∧ ((0 : Int) ≤ rc) ∧ (rc < (1099511627776 : Int)) ∧ (V.Byt x), [.g [.i .i64 0, .ints .u8 64 (pC M a x)], .a (.i .i64 (pE M a x))], [bT [.p 1 0, .rs 7 0 (pA M a x) 128, .mv 4, .rs 5 0 u 64, .i .i64 (pR M a x rc), .b false], bT [.rs 6 0 (pN M a x n) 1, .ints .i64 2 ([(pS M a x n s), (-1 : Int)] : List Int), .b false, .b true], none, none, bT [.mp 64 (pM M a x)], bT [.ints .u8 uz U], bT [.ints .u8 (pN M a x n) (pL M a x rc l)], bT [.ints .u8 (pZ M a x) (pT M a x T)]]) | _, _, _ => none) gam638
theorem gam639_ok : GamOk Tryz.prog gam639 := gcall_ok tabOkDC Tryz.func23 gam638_ok Tryz.call23 (by
 intro wk vs args p xs K1 h hv
 split at h
 ·simp only [Option.some.injEq, Prod.mk.injEq] at h; obtain ⟨rfl, rfl, rfl⟩ := h; obtain ⟨g0, g1, g2, g3, g4, g5, g6, g7⟩ := hv; subst g0; exact fun caps w rw β => puV_body _ _ _ _ _ _ _ _ _ _ _ _ g1 g2 g3 g4 g5 g6 g7 w rw β
 ·simp at h)

noncomputable def gam640 : Gam := gcall 53 [true, true, true, true, true, true] [.w] (fun wk vs args => match wk, vs, args with | [⟨true, [.p 1 0, .rs 3 0 a 128, .mv 4, .rs 5 0 u 64, .i .i64 rc, .b false]⟩, ⟨true, [.rs 2 0 n 1, .ints .i64 2 ([s, (-1 : Int)] : List Int), .b false, .b true]⟩, ⟨true, [.ints .u8 n_1 l]⟩, ⟨true, [.ints .u8 tz T]⟩, ⟨true, [.mp 64 M]⟩, ⟨true, [.ints .u8 uz U]⟩], [], [.o (.a (.p 0 0))] => some ((n_1 = n), [.a (.i .i64 (usV u))], [bT [.p 1 0, .rs 3 0 a 128, .mv 4, .rs 5 0 u 64, .i .i64 rc, .b false], bT [.rs 2 0 n 1, .ints .i64 2 ([s, (-1 : Int)] : List Int), .b false, .b true], bT [.ints .u8 n l], bT [.ints .u8 tz T], bT [.mp 64 M], bT [.ints .u8 uz U]]) | _, _, _ => none) gam639
theorem gam640_ok : GamOk Tryz.prog gam640 := gcall_ok tabOkDD Tryz.func53 gam639_ok Tryz.call53 (by
 intro wk vs args p xs K1 h hv
 split at h
 ·simp only [Option.some.injEq, Prod.mk.injEq] at h; obtain ⟨rfl, rfl, rfl⟩ := h; have g0 := hv; subst g0; exact fun caps w rw β => usV_body _ _ _ _ _ _ _ _ _ _ _ w rw β
 ·simp at h)

noncomputable def gam641 : Gam := gcall 54 [true, true, true, true, true, true] [.w] (fun wk vs args => match wk, vs, args with | [⟨true, [.p 1 0, .rs 3 0 a 128, .mv 4, .rs 5 0 u 64, .i .i64 rc, .b false]⟩, ⟨true, [.rs 2 0 n 1, .ints .i64 2 ([s, (-1 : Int)] : List Int), .b false, .b true]⟩, ⟨true, [.ints .u8 n_1 l]⟩, ⟨true, [.ints .u8 tz T]⟩, ⟨true, [.mp 64 M]⟩, ⟨true, [.ints .u8 uz U]⟩], [], [.o (.a (.p 0 0))] => some ((n_1 = n), [.a (.i .i64 (lnV a))], [bT [.p 1 0, .rs 3 0 a 128, .mv 4, .rs 5 0 u 64, .i .i64 rc, .b false], bT [.rs 2 0 n 1, .ints .i64 2 ([s, (-1 : Int)] : List Int), .b false, .b true], bT [.ints .u8 n l], bT [.ints .u8 tz T], bT [.mp 64 M], bT [.ints .u8 uz U]]) | _, _, _ => none) gam640
theorem gam641_ok : GamOk Tryz.prog gam641 := gcall_ok tabOkDD Tryz.func54 gam640_ok Tryz.call54 (by
 intro wk vs args p xs K1 h hv
 split at h
 ·simp only [Option.some.injEq, Prod.mk.injEq] at h; obtain ⟨rfl, rfl, rfl⟩ := h; have g0 := hv; subst g0; exact fun caps w rw β => lnV_body _ _ _ _ _ _ _ _ _ _ _ w rw β
 ·simp at h)

noncomputable def gam642 : Gam := gcall 25 [true, true] [.w] (fun wk vs args => match wk, vs, args with | [⟨true, [.rs 1 0 n 1, .ints .i64 2 ([s, fu] : List Int), .b off, .b true]⟩, ⟨true, [.ints .u8 n_1 l]⟩], [], [.o (.a (.p 0 0))] => some ((n_1 = n) ∧ (n < 70368744177664), [.a (.rs 2 0 n 1)], [bT [.rs 1 0 n 1, .ints .i64 2 ([s, fu] : List Int), .b off, .b true], bT [.ints .u8 n l], bT [.ints .u8 n l]]) | _, _, _ => none) gam641
theorem gam642_ok : GamOk Tryz.prog gam642 := gcall_ok tabOkDA Tryz.func25 gam641_ok Tryz.call25 (by
 intro wk vs args p xs K1 h hv
 split at h
 ·simp only [Option.some.injEq, Prod.mk.injEq] at h; obtain ⟨rfl, rfl, rfl⟩ := h; obtain ⟨g0, g1⟩ := hv; subst g0; exact fun caps w rw β => dByt_body _ _ _ _ _ g1 w rw β
 ·simp at h)

noncomputable def gam645 : Gam := gcall 52 [true, true, true, true, true, true] [.w, .w, .w] (fun wk vs args => match wk, vs, args with | [⟨true, [.p 1 0, .rs 3 0 1 128, .mv 4, .rs 5 0 0 64, .i .i64 rc, .b false]⟩, ⟨true, [.rs 2 0 n 1, .ints .i64 2 ([s, (-1 : Int)] : List Int), .b false, .b true]⟩, ⟨true, [.ints .u8 n_1 l]⟩, ⟨true, [.ints .u8 128 T]⟩, ⟨true, [.mp 64 M]⟩, ⟨true, [.ints .u8 0 ([] : List Int)]⟩], [], [.o (.a (.p 0 0)), .o (.g [.ints .u8 32 y]), .o (.g [.ints .u8 32 z])] => some ((n_1 = n) ∧ (n < 70368744177664) ∧ ((0 : Int) ≤ rc) ∧ (rc < (1099511627776 : Int)) ∧ ((sub T 0 64) = (y ++ z)) ∧ ((mget M (y ++ z)) = (1 : Int)), [.g [.ints .u8 64 (tk1 T)], .a (.i .i64 0)], [bT [.p 1 0, .rs 7 0 0 128, .mv 4, .rs 8 0 1 64, .i .i64 (cmV_1 rc), .b false], bT [.rs 6 0 (tk1_2 n) 1, .ints .i64 2 ([(tk1_3 n), (-1 : Int)] : List Int), .b false, .b true], none, none, bT [.mp 64 (tk1_4 M y z)], none, bT [.ints .u8 (tk1_2 n) (tkL rc l y z)], bT [.ints .u8 0 ([] : List Int)], bT [.ints .u8 64 (tk1_5 y z)]]) | [⟨true, [.p 1 0, .rs 3 0 0 128, .mv 4, .rs 5 0 1 64, .i .i64 rc, .b false]⟩, ⟨true, [.rs 2 0 n 1, .ints .i64 2 ([s, (-1 : Int)] : List Int), .b false, .b true]⟩, ⟨true, [.ints .u8 n_1 l]⟩, ⟨true, [.ints .u8 0 ([] : List Int)]⟩, ⟨true, [.mp 64 M]⟩, ⟨true, [.ints .u8 64 U]⟩], [], [.o (.a (.p 0 0)), .o (.g [.ints .u8 32 y]), .o (.g [.ints .u8 32 z])] => some ((n_1 = n) ∧ (n < 70368744177664) ∧ ((0 : Int) ≤ rc) ∧ (rc < (1099511627776 : Int)) ∧ ((mget M (y ++ z)) = (2 : Int)), [.g [.ints .u8 64 ([0, 0, 0, 0, 0, 0, 0, 0, 0, 0, 0, 0, 0, 0, 0, 0, 0, 0, 0, 0, 0, 0, 0, 0, 0, 0, 0, 0, 0, 0, 0, 0, 0, 0, 0, 0, 0, 0, 0, 0, 0, 0, 0, 0, 0, 0, 0, 0, 0, 0, 0, 0, 0, 0, 0, 0, 0, 0, 0, 0, 0, 0, 0, 0] : List Int)], .a (.i .i64 132)], [bT [.p 1 0, .rs 3 0 0 128, .mv 4, .rs 5 0 1 64, .i .i64 rc, .b false], bT [.rs 2 0 n 1, .ints .i64 2 ([s, (-1 : Int)] : List Int), .b false, .b true], bT [.ints .u8 n l], bT [.ints .u8 0 ([] : List Int)], bT [.mp 64 M], bT [.ints .u8 64 U]]) | _, _, _ => none) gam642
theorem gam645_ok : GamOk Tryz.prog gam645 := gcall_ok tabOkDD Tryz.func52 gam642_ok Tryz.call52 (by
 intro wk vs args p xs K1 h hv
 split at h
 ·simp only [Option.some.injEq, Prod.mk.injEq] at h; obtain ⟨rfl, rfl, rfl⟩ := h; obtain ⟨g0, g1, g2, g3, g4, g5⟩ := hv; subst g0; exact fun caps w rw β => tk1_body _ _ _ _ _ _ _ _ g1 g2 g3 g4 g5 w rw β
 ·simp only [Option.some.injEq, Prod.mk.injEq] at h; obtain ⟨rfl, rfl, rfl⟩ := h; obtain ⟨g0, g1, g2, g3, g4⟩ := hv; subst g0; exact fun caps w rw β => tk2_body _ _ _ _ _ _ _ _ g1 g2 g3 g4 w rw β
 ·simp at h)

theorem alive_body0 (w : World) (rw : List Nat) (β : Env) : Body Tryz.prog (tabOf tabDD) Tryz.f20 ⟨w, rw, 0, β⟩ [] [] (fun ys K' => ys = [.a (.b true)] ∧ K' = []) :=
 Body.of_finK (Γ := gam645) (Λ := noLam) (Ψ := psiOf [(5, [.eqB 6 (⟨true, [.ints .u8 64 alX]⟩)]), (6, [.eqS 6 (.o (.a (.i .i64 0))), .eqB 9 (⟨true, [.i .i64 0, .ints .u8 64 (pkV alX)]⟩), .eqB 2 (⟨true, [.p 0 0, .rs 8 0 1 128, .mv 4, .rs 5 0 0 64, .i .i64 1, .b false]⟩), .eqB 0 (⟨true, [.rs 7 0 73 1, .ints .i64 2 ([73, (-1 : Int)] : List Int), .b false, .b true]⟩), .eqB 7 (⟨true, [.ints .u8 73 (alL)]⟩), .eqB 8 (⟨true, [.ints .u8 128 ((pkV alX) ++ alX)]⟩), .eqB 4 (⟨true, [.mp 64 (mset ([] : List (List Int × Int)) (pkV alX) (1 : Int))]⟩)])]) (fuel := 0) (m := 89) (c := (Tryz.f20.body.getD .skip)) mix tabOkDD gam645_ok rfl (rs := [.tmp 0]) rfl rfl [true, true, false, true, true, false, false, true, true, true, true, true, true, true, true, true, true, true, true, true, true, true, true, true, true, true, true, true, true, true, true, true] [.eqS 0 (.o (.a (.b true)))] 0
  (vc := (let p0_ : Prop := (((usV 1) == (1 : Int)) = true); let p1_ : Prop := ((True ∧ True) ∧ ((tk1_2 73) = (tk1_2 73))); let p2_ : Prop := (((((tk1_2 73) : Nat) : Int) == (146 : Int)) = true); let p3_ : Prop := (((decide ((sub (tk1 ((pkV alX) ++ alX)) 0 32) = (sub alX 0 32))) && (decide ((sub (tk1 ((pkV alX) ++ alX)) 32 32) = (sub alX 32 32)))) = true); [((.o (.a (.b ((lnV 0) == (0 : Int)))) : AV) = .o (.a (.b true))), p0_, p0_, p1_, p0_, p0_, p2_, p2_, p1_, p2_, p2_, cT, cT, cT, ((True ∧ True) ∧ (((tk1_2 73) = (tk1_2 73)) ∧ ((tk1_2 73) < 70368744177664))), cT, cT, p3_, p3_, p3_, p3_, cT, cT, cT, cT, cT, cT, cT, cT, ((True ∧ (True ∧ (True ∧ True))) ∧ (((tk1_2 73) = (tk1_2 73)) ∧ ((tk1_2 73) < 70368744177664) ∧ ((0 : Int) ≤ (cmV_1 (1 : Int))) ∧ ((cmV_1 (1 : Int)) < 1099511627776) ∧ ((mget (tk1_4 (mset ([] : List (List Int × Int)) (pkV alX) (1 : Int)) (sub (pkV alX) 0 32) (sub (pkV alX) 32 32)) ((sub (pkV alX) 0 32) ++ (sub (pkV alX) 32 32))) = 2))), ((True ∧ (True ∧ (True ∧ True))) ∧ ((73 = 73) ∧ (cN 73 70368744177664) ∧ (cZ 1) ∧ ((1 : Int) < 1099511627776) ∧ ((sub ((pkV alX) ++ alX) 0 64) = ((sub (pkV alX) 0 32) ++ (sub (pkV alX) 32 32))) ∧ ((mget (mset ([] : List (List Int × Int)) (pkV alX) (1 : Int)) ((sub (pkV alX) 0 32) ++ (sub (pkV alX) 32 32))) = 1))), ((bT [.mp 64 (pM ([] : List (List Int × Int)) 0 alX)] : Option Blk) = bT [.mp 64 (mset ([] : List (List Int × Int)) (pkV alX) (1 : Int))]), ((bT [.ints .u8 (pZ ([] : List (List Int × Int)) 0 alX) (pT ([] : List (List Int × Int)) 0 alX ([] : List Int))] : Option Blk) = bT [.ints .u8 128 ((pkV alX) ++ alX)]), ((bT [.ints .u8 (pN ([] : List (List Int × Int)) 0 alX 0) (pL ([] : List (List Int × Int)) 0 alX (0 : Int) ([] : List Int))] : Option Blk) = bT [.ints .u8 73 (alL)]), ((bT [.rs 7 0 (pN ([] : List (List Int × Int)) 0 alX 0) 1, .ints .i64 2 ([(pS ([] : List (List Int × Int)) 0 alX 0 (0 : Int)), (-1 : Int)] : List Int), .b false, .b true] : Option Blk) = bT [.rs 7 0 73 1, .ints .i64 2 ([73, (-1 : Int)] : List Int), .b false, .b true]), ((bT [.p 0 0, .rs 8 0 (pA ([] : List (List Int × Int)) 0 alX) 128, .mv 4, .rs 5 0 0 64, .i .i64 (pR ([] : List (List Int × Int)) 0 alX (0 : Int)), .b false] : Option Blk) = bT [.p 0 0, .rs 8 0 1 128, .mv 4, .rs 5 0 0 64, .i .i64 1, .b false]), ((bT [.i .i64 0, .ints .u8 64 (pC ([] : List (List Int × Int)) 0 alX)] : Option Blk) = bT [.i .i64 0, .ints .u8 64 (pkV alX)]), ((.o (.a (.i .i64 (pE ([] : List (List Int × Int)) 0 alX))) : AV) = .o (.a (.i .i64 0))), ((True ∧ (True ∧ True)) ∧ ((0 = 0) ∧ (cN 0 70368744177664) ∧ (0 = (0 * 128)) ∧ (0 = (0 * 64)) ∧ (cN 0 68719476736) ∧ (cZ 0) ∧ ((0 : Int) < 1099511627776) ∧ (V.Byt alX))), ((bT [.ints .u8 64 ([3, 0, 0, 0, 0, 0, 0, 0, 0, 0, 0, 0, 0, 0, 0, 0, 0, 0, 0, 0, 0, 0, 0, 0, 0, 0, 0, 0, 0, 0, 0, 0, 4, 0, 0, 0, 0, 0, 0, 0, 0, 0, 0, 0, 0, 0, 0, 0, 0, 0, 0, 0, 0, 0, 0, 0, 0, 0, 0, 0, 0, 0, 0, 0] : List Int)] : Option Blk) = bT [.ints .u8 64 alX]), (false = false), (false = false), (false = false), (false = false), (false = false), (false = false), (false = false), ((True ∧ True) ∧ True), (True ∧ True)])) (by kernel_rfl)
  (aC (rfl) (aC rfl (aC rfl (aC ⟨⟨trivial, trivial⟩, rfl⟩ (aC rfl (aC rfl (aC rfl (aC rfl (aC ⟨⟨trivial, trivial⟩, rfl⟩ (aC rfl (aC rfl (aC rfl (aC rfl (aC rfl (aC ⟨⟨trivial, trivial⟩, ⟨rfl, (dd rfl)⟩⟩ (aC rfl (aC rfl (aC (band_eq al_nonce _ _ _ _) (aC (band_eq al_nonce _ _ _ _) (aC (band_eq al_nonce _ _ _ _) (aC (band_eq al_nonce _ _ _ _) (aC rfl (aC rfl (aC rfl (aC rfl (aC rfl (aC rfl (aC rfl (aC rfl (aC ⟨⟨trivial, ⟨trivial, ⟨trivial, trivial⟩⟩⟩, ⟨rfl, (dd rfl), (dd rfl), (dd rfl), al_get2⟩⟩ (aC ⟨⟨trivial, ⟨trivial, ⟨trivial, trivial⟩⟩⟩, ⟨rfl, (dd rfl), (dd rfl), (dd rfl), al_key, al_get1⟩⟩ (aC ((by rw [al_M])) (aC ((by rw [al_Z, al_T])) (aC ((by rw [al_N, al_L])) (aC ((by rw [al_N, al_S])) (aC ((by rw [al_A, al_R])) (aC ((by rw [al_C])) (aC ((by rw [al_W.2])) (aC ⟨⟨trivial, ⟨trivial, trivial⟩⟩, ⟨rfl, (dd rfl), (by first|omega|(simp (disch:=omega) only [wrapI];omega)), (by first|omega|(simp (disch:=omega) only [wrapI];omega)), (dd rfl), (dd rfl), (dd rfl), (by unfold V.Byt alX; decide)⟩⟩ (aC (rfl) (aC rfl (aC rfl (aC rfl (aC rfl (aC rfl (aC rfl (aC rfl (aC ⟨⟨trivial, trivial⟩, trivial⟩ (aC ⟨trivial, trivial⟩ (AllP_nil))))))))))))))))))))))))))))))))))))))))))))))))))

end Go.Proofs.YtjmfnjgcofpocaaGreat.X

/- Printed by a tool of this session. -/
namespace Go.Proofs.YtjmfnjgcofpocaaGreat.X
open Go Go.Proofs
set_option linter.unusedVariables false
set_option linter.unusedSimpArgs false
set_option maxRecDepth 100000
set_option maxHeartbeats 8000000
noncomputable def tabDE : List (Nat × TE) := [(3, ⟨.int .i64, 1, 8, [.i .i64 0], false⟩), (4, ⟨.bool, 1, 1, [.b false], false⟩), (5, ⟨.int .u8, 1, 1, [.i .u8 0], false⟩), (26, ⟨.slice 5, 1, 24, [nlA], false⟩), (28, ⟨Tryz.t27.desc, 5, 56, [nlA, .i .i64 0, .b false, .i .i64 0, .b false], false⟩)]
theorem tabOkDE : TabOk Tryz.prog (tabOf tabDE) := (tabOf_cons teDA_3 (tabOf_cons teDA_4 (tabOf_cons teDA_5 (tabOf_cons teDA_26 (tabOf_cons teDA_28 tabOf_nil)))))

theorem not_bne_self (x : Int) : (x != x) = false := by simp
def mkBy (i k : Int) : Int :=
 (IntKind.u8.wrap (IntKind.i64.wrap ((IntKind.i64.wrap ((IntKind.i64.wrap (i * (31 : Int))) + (IntKind.i64.wrap (k * (7 : Int))))) + 5)))

theorem mkBy_body0 (i k : Int) (w : World) : Body Tryz.prog (tabOf tabDE) Tryz.f35 ⟨w, [], 0, noEnv⟩ (toA [.a (.i .i64 i), .a (.i .i64 k)]) [] (fun ys _ => ys = [.a (.i .u8 (mkBy i k))]) :=
 Body.of_fin (Γ := gam618) (Λ := noLam) (Ψ := noPsi) (fuel := 0) (m := 12) (c := (Tryz.f35.body.getD .skip)) mix tabOkDE gam618_ok rfl (rs := [.tmp 4]) rfl rfl [] []
  (vc := []) (by kernel_rfl)
  (AllP_nil)

theorem mkBy_body (i k : Int) (w : World) : Body Tryz.prog (tabOf tabDE) Tryz.f35 ⟨w, [], 0, noEnv⟩ (toA [.a (.i .i64 i), .a (.i .i64 k)]) [] (fun ys _ => ys = [.a (.i .u8 (mkBy i k))]) :=
 Body.lens (c := (Tryz.f35.body.getD .skip)) rfl fun h => mkBy_body0 i k  w

theorem mkBy_pure (i k : Int) : PureC Tryz.prog 35 [.a (.i .i64 i), .a (.i .i64 k)] [.a (.i .u8 (mkBy i k))] :=
 PureC.of_body tabOkDE Tryz.func35 rfl rfl fun w => mkBy_body i k w

noncomputable def gam901 : Gam := gpure 35 (fun args => match args with | [.o (.a (.i .i64 i)), .o (.a (.i .i64 k))] => some (none, [.a (.i .u8 (mkBy i k))]) | _ => none) gam618
theorem gam901_ok : GamOk Tryz.prog gam901 := gpure_ok gam618_ok Tryz.call35 (by
 intro args vc xs h hv
 split at h
 ·simp only [Option.some.injEq, Prod.mk.injEq] at h; obtain ⟨rfl, rfl⟩ := h; exact ⟨_, by rfl, mkBy_pure _ _⟩
 ·simp at h)

noncomputable def copyB (n : Nat) (b : List Int) : List Int :=
 (sub b 0 n)

theorem copyB_body0 (n nm : Nat) (b : List Int) (cap0 : Nat) (h0 : (nm = n)) (h1 : (n < 35184372088832)) (hc0 : n ≤ cap0) (hl0_0 : b.length = nm) (w : World) (rw : List Nat) (β : Env) : Body Tryz.prog (tabOf tabDE) Tryz.f21 ⟨w, rw, 1, β⟩ [.o (.a (.sl 0 0 n cap0))] [bF [.ints .u8 nm b]] (fun ys K' => ys = [.a (.rs 1 0 n 1)] ∧ K' = [bF [.ints .u8 nm b], bT [.ints .u8 n (copyB n b)]]) :=
 Body.of_finK (Γ := gam901) (Λ := noLam) (Ψ := noPsi) (fuel := 0) (m := 8) (c := (Tryz.f21.body.getD .skip)) mix tabOkDE gam901_ok rfl (rs := [.tmp 2]) rfl rfl [false] [] 2
  (vc := [(((n ≤ n) ∧ ((0 + n) ≤ nm)) ∧ ((n * 1) ≤ 140737488355328))]) (by kernel_rfl)
  (aC ⟨⟨(by first | omega | (simp (disch := omega) only [wrapI]; omega)), (by first | omega | (simp (disch := omega) only [wrapI]; omega))⟩, (by first | omega | (simp (disch := omega) only [wrapI]; omega))⟩ (AllP_nil))

theorem copyB_body (n nm : Nat) (b : List Int) (cap0 : Nat) (h0 : (nm = n)) (h1 : (n < 35184372088832)) (w : World) (rw : List Nat) (β : Env) : Body Tryz.prog (tabOf tabDE) Tryz.f21 ⟨w, rw, 1, β⟩ [.o (.a (.sl 0 0 n cap0))] [bF [.ints .u8 nm b]] (fun ys K' => ys = [.a (.rs 1 0 n 1)] ∧ K' = [bF [.ints .u8 nm b], bT [.ints .u8 n (copyB n b)]]) :=
 Body.lens (c := (Tryz.f21.body.getD .skip)) rfl fun h => copyB_body0 n nm b cap0 h0 h1 (h.caps 0 _ _ _ _ rfl) (h.lens 0 _ .u8 nm b rfl (by simp)) w rw β

noncomputable def sameBL_mk (n nm : Nat) (b : List Int) (m mm : Nat) (c : List Int) (cap0 cap1 k : Nat) (s : Unit) : St := ⟨sparse 26 [(0, .o (.a (.sl 0 0 n cap0))), (1, .o (.a (.sl 1 0 m cap1))), (5, .o (.a (.i .i64 (k : Int)))), (6, .o (.a (.sl 0 0 n cap0))), (7, .o (.a (.i .i64 (n : Int)))), (8, .o (.a (.sl 1 0 m cap1))), (9, .o (.a (.i .i64 (m : Int)))), (10, .o (.a (.b ((n : Int) != (m : Int)))))], [bF [.ints .u8 nm b], bF [.ints .u8 mm c]]⟩

noncomputable def sameBL_step (k : Nat) (s : Unit) : Unit :=
 ()

theorem sameBL_round (n nm : Nat) (b : List Int) (m mm : Nat) (c : List Int) (cap0 cap1 : Nat) (h0 : (nm = n)) (h1 : (mm = m)) (h2 : (m = n)) (h3 : (b = c)) (h4 : (n < 70368744177664)) (hc0 : n ≤ cap0) (hc1 : m ≤ cap1) (hl0_0 : b.length = nm) (hl1_0 : c.length = mm) (w : World) (β : Env) (k : Nat) (hk : k < n) (s : Unit) : Run Tryz.prog ⟨w, [], 2, β⟩ (loopB Tryz.f30 0) (sameBL_mk n nm b m mm c cap0 cap1 k s) (To ⟨w, [], 2, β⟩ .normal (sameBL_mk n nm b m mm c cap0 cap1 (k + 1) (sameBL_step k s))) := by
 have e0 := wrap_succ (n := k) (by omega)
 have h := Run.of_outT (B := ⟨w, [], 2, β⟩) (Λ := noLam) (Ψ := noPsi) (fuel := 0) (ora := [true, false]) (c := (loopB Tryz.f30 0)) (st := (sameBL_mk n nm b m mm c cap0 cap1 k s)) (l := [.forget [0, 1, 5, 6, 7, 8, 9, 10] 2]) (s' := ⟨sparse 26 [(0, .o (.a (.sl 0 0 n cap0))), (1, .o (.a (.sl 1 0 m cap1))), (5, .o (.a (.i .i64 (IntKind.i64.wrap ((k : Int) + 1))))), (6, .o (.a (.sl 0 0 n cap0))), (7, .o (.a (.i .i64 (n : Int)))), (8, .o (.a (.sl 1 0 m cap1))), (9, .o (.a (.i .i64 (m : Int)))), (10, .o (.a (.b ((n : Int) != (m : Int)))))], [bF [.ints .u8 nm b], bF [.ints .u8 mm c]]⟩) (ex := .normal) mix tabOkDE gam901_ok
  (vc := [(((List.getD b k 0) != (List.getD c k 0)) = false), (k < mm), ((0 ≤ (k : Int)) ∧ ((k : Int) < (m : Int))), (k < nm), ((0 ≤ (k : Int)) ∧ ((k : Int) < (n : Int))), ((decide ((k : Int) < (n : Int))) = true)]) (by kernel_rfl)
  (aC (by rw [h3]; exact not_bne_self _) (aC (by first|omega|(simp (disch:=omega) only [wrapI];omega)) (aC ⟨(by first|omega|(simp (disch:=omega) only [wrapI];omega)), (by first|omega|(simp (disch:=omega) only [wrapI];omega))⟩ (aC (by first|omega|(simp (disch:=omega) only [wrapI];omega)) (aC ⟨(by first|omega|(simp (disch:=omega) only [wrapI];omega)), (by first|omega|(simp (disch:=omega) only [wrapI];omega))⟩ (aC (dt (by first|omega|(simp (disch:=omega) only [wrapI];omega))) (AllP_nil)))))))
 rw [e0] at h
 exact h

theorem sameBL_last (n nm : Nat) (b : List Int) (m mm : Nat) (c : List Int) (cap0 cap1 : Nat) (h0 : (nm = n)) (h1 : (mm = m)) (h2 : (m = n)) (h3 : (b = c)) (h4 : (n < 70368744177664)) (hc0 : n ≤ cap0) (hc1 : m ≤ cap1) (hl0_0 : b.length = nm) (hl1_0 : c.length = mm) (w : World) (β : Env) (s : Unit) : Run Tryz.prog ⟨w, [], 2, β⟩ (loopB Tryz.f30 0) (sameBL_mk n nm b m mm c cap0 cap1 n s) (To ⟨w, [], 2, β⟩ (.exit 0) (sameBL_mk n nm b m mm c cap0 cap1 n s)) :=
 Run.of_outT (Λ := noLam) (Ψ := noPsi) (fuel := 0) (ora := [false]) (l := [.forget [0, 1, 5, 6, 7, 8, 9, 10] 2]) mix tabOkDE gam901_ok
  (vc := [((decide ((n : Int) < (n : Int))) = false)]) (by kernel_rfl)
  (aC (decide_eq_false (by first | omega | (simp (disch := omega) only [wrapI]; omega))) (AllP_nil))

theorem sameBL_loop (n nm : Nat) (b : List Int) (m mm : Nat) (c : List Int) (cap0 cap1 : Nat) (h0 : (nm = n)) (h1 : (mm = m)) (h2 : (m = n)) (h3 : (b = c)) (h4 : (n < 70368744177664)) (hc0 : n ≤ cap0) (hc1 : m ≤ cap1) (hl0_0 : b.length = nm) (hl1_0 : c.length = mm) (w : World) (β : Env) (s : Unit) : Run Tryz.prog ⟨w, [], 2, β⟩ (.block 0 (.loop (loopB Tryz.f30 0))) (sameBL_mk n nm b m mm c cap0 cap1 0 s) (To ⟨w, [], 2, β⟩ .normal (sameBL_mk n nm b m mm c cap0 cap1 n (iter (sameBL_step) n s))) :=
 Run.count (fun k => sameBL_mk n nm b m mm c cap0 cap1 k (iter (sameBL_step) k s)) n (fun k hk => sameBL_round n nm b m mm c cap0 cap1 h0 h1 h2 h3 h4 hc0 hc1 hl0_0 hl1_0 w β k hk _) (ex := (.exit 0)) (by simp) (sameBL_last n nm b m mm c cap0 cap1 h0 h1 h2 h3 h4 hc0 hc1 hl0_0 hl1_0 w β _)

theorem sameB_body0 (n nm : Nat) (b : List Int) (m mm : Nat) (c : List Int) (cap0 cap1 : Nat) (h0 : (nm = n)) (h1 : (mm = m)) (h2 : (m = n)) (h3 : (b = c)) (h4 : (n < 70368744177664)) (hc0 : n ≤ cap0) (hc1 : m ≤ cap1) (hl0_0 : b.length = nm) (hl1_0 : c.length = mm) (w : World) (β : Env) : Body Tryz.prog (tabOf tabDE) Tryz.f30 ⟨w, [], 2, β⟩ [.o (.a (.sl 0 0 n cap0)), .o (.a (.sl 1 0 m cap1))] [bF [.ints .u8 nm b], bF [.ints .u8 mm c]] (fun ys _ => ys = [.a (.b true)]) :=
 Body.of_fin (Γ := gam901) (Λ := lamOf [(0, ⟨[.forget [0, 1, 5, 6, 7, 8, 9, 10] 2], .normal, (sameBL_mk n nm b m mm c cap0 cap1 n (iter (sameBL_step) n ()))⟩)]) (Ψ := noPsi) (fuel := 0) (m := 26) (c := (Tryz.f30.body.getD .skip)) mix tabOkDE gam901_ok rfl (rs := [.tmp 4]) rfl rfl [false] []
  (vc := [(Run Tryz.prog ⟨w, [], 2, β⟩ (.block 0 (.loop (loopB Tryz.f30 0))) (sameBL_mk n nm b m mm c cap0 cap1 0 ()) (To ⟨w, [], 2, β⟩ .normal (sameBL_mk n nm b m mm c cap0 cap1 n (iter (sameBL_step) n ())))), (((n : Int) != (m : Int)) = false)]) (by kernel_rfl)
  (aC (sameBL_loop n nm b m mm c cap0 cap1 h0 h1 h2 h3 h4 hc0 hc1 hl0_0 hl1_0 w β ()) (aC (bne_eq_false_iff_eq.2 (by first | omega | (simp (disch := omega) only [wrapI]; omega))) (AllP_nil)))

theorem sameB_body (n nm : Nat) (b : List Int) (m mm : Nat) (c : List Int) (cap0 cap1 : Nat) (h0 : (nm = n)) (h1 : (mm = m)) (h2 : (m = n)) (h3 : (b = c)) (h4 : (n < 70368744177664)) (w : World) (β : Env) : Body Tryz.prog (tabOf tabDE) Tryz.f30 ⟨w, [], 2, β⟩ [.o (.a (.sl 0 0 n cap0)), .o (.a (.sl 1 0 m cap1))] [bF [.ints .u8 nm b], bF [.ints .u8 mm c]] (fun ys _ => ys = [.a (.b true)]) :=
 Body.lens (c := (Tryz.f30.body.getD .skip)) rfl fun h => sameB_body0 n nm b m mm c cap0 cap1 h0 h1 h2 h3 h4 (h.caps 0 _ _ _ _ rfl) (h.caps 1 _ _ _ _ rfl) (h.lens 0 _ .u8 nm b rfl (by simp)) (h.lens 1 _ .u8 mm c rfl (by simp)) w β

noncomputable def gam902 : Gam := greadV 30 [.s 1, .s 1] (fun vs args => match vs, args with | [⟨_, _, _, [.ints .u8 nm b]⟩, ⟨_, _, _, [.ints .u8 mm c]⟩], [a0, a1] => some ((nm = (lenOfA a0)) ∧ (mm = (lenOfA a1)) ∧ ((lenOfA a1) = (lenOfA a0)) ∧ (b = c) ∧ ((lenOfA a0) < 70368744177664), [.a (.b true)]) | _, _ => none) gam901
theorem gam902_ok : GamOk Tryz.prog gam902 := greadV_ok tabOkDE Tryz.func30 gam901_ok Tryz.call30 (by
 intro vs args p xs h hv
 split at h
 ·simp only [Option.some.injEq, Prod.mk.injEq] at h; obtain ⟨rfl, rfl⟩ := h; exact ⟨by rfl, fun caps w β => sameB_body _ _ _ _ _ _ _ _ hv.1 hv.2.1 hv.2.2.1 hv.2.2.2.1 hv.2.2.2.2 w β⟩
 ·simp at h)

theorem same_body0 (n : Nat) (s fu : Int) (off : Bool) (l : List Int) (fsd : Bool) (rf : Int) (h0 : (n < 70368744177664)) (hl0_1 : List.length ([s, fu] : List Int) = 2) (hl1_0 : l.length = n) (hl3_0 : l.length = n) (w : World) (rw : List Nat) (β : Env) : Body Tryz.prog (tabOf tabDE) Tryz.f18 ⟨w, rw, 4, β⟩ [.o (.a (.p 0 0)), .o (.a (.p 2 0))] [bT [.rs 1 0 n 1, .ints .i64 2 ([s, fu] : List Int), .b off, .b true], bT [.ints .u8 n l], bT [.rs 3 0 n 1, .i .i64 s, .b fsd, .i .i64 rf, .b off], bT [.ints .u8 n l]] (fun ys K' => ys = [.a (.b true)] ∧ K' = [bT [.rs 1 0 n 1, .ints .i64 2 ([s, fu] : List Int), .b off, .b true], bT [.ints .u8 n l], bT [.rs 3 0 n 1, .i .i64 s, .b fsd, .i .i64 rf, .b off], bT [.ints .u8 n l]]) :=
 Body.of_finK (Γ := gam902) (Λ := noLam) (Ψ := noPsi) (fuel := 0) (m := 30) (c := (Tryz.f18.body.getD .skip)) mix tabOkDE gam902_ok rfl (rs := [.tmp 4]) rfl rfl [true, true, true, true, true, true, true, true, true, true, true, true, true, true, true, true] [.eqS 4 (.o (.a (.b true)))] 4
  (vc := (let p0_ : Prop := ((True ∧ True) ∧ (n = n)); [((.o (.a (.b (off == off))) : AV) = .o (.a (.b true))), ((s == s) = true), ((s == s) = true), ((s == s) = true), ((s == s) = true), ((s == s) = true), ((s == s) = true), p0_, ((s == s) = true), ((s == s) = true), cT, cT, cT, cT, cT, cT, p0_, cT, cT, ((((0 + n) ≤ n) ∧ (((0 + n) ≤ n) ∧ True)) ∧ ((n = n) ∧ (n = n) ∧ (n = n) ∧ ((sub l 0 n) = (sub l 0 n)) ∧ (n < 70368744177664))), ((True ∧ True) ∧ ((n = n) ∧ (n < 70368744177664)))])) (by kernel_rfl)
  (aC ((by simp)) (aC (by simp) (aC (by simp) (aC (by simp) (aC (by simp) (aC (by simp) (aC (by simp) (aC ⟨⟨trivial, trivial⟩, rfl⟩ (aC (by simp) (aC (by simp) (aC rfl (aC rfl (aC rfl (aC rfl (aC rfl (aC rfl (aC ⟨⟨trivial, trivial⟩, rfl⟩ (aC rfl (aC rfl (aC ⟨⟨(by first|omega|(simp (disch:=omega) only [wrapI];omega)), ⟨(by first|omega|(simp (disch:=omega) only [wrapI];omega)), trivial⟩⟩, ⟨rfl, rfl, rfl, rfl, h0⟩⟩ (aC ⟨⟨trivial, trivial⟩, ⟨rfl, h0⟩⟩ (AllP_nil))))))))))))))))))))))

theorem same_body (n : Nat) (s fu : Int) (off : Bool) (l : List Int) (fsd : Bool) (rf : Int) (h0 : (n < 70368744177664)) (w : World) (rw : List Nat) (β : Env) : Body Tryz.prog (tabOf tabDE) Tryz.f18 ⟨w, rw, 4, β⟩ [.o (.a (.p 0 0)), .o (.a (.p 2 0))] [bT [.rs 1 0 n 1, .ints .i64 2 ([s, fu] : List Int), .b off, .b true], bT [.ints .u8 n l], bT [.rs 3 0 n 1, .i .i64 s, .b fsd, .i .i64 rf, .b off], bT [.ints .u8 n l]] (fun ys K' => ys = [.a (.b true)] ∧ K' = [bT [.rs 1 0 n 1, .ints .i64 2 ([s, fu] : List Int), .b off, .b true], bT [.ints .u8 n l], bT [.rs 3 0 n 1, .i .i64 s, .b fsd, .i .i64 rf, .b off], bT [.ints .u8 n l]]) :=
 Body.lens (c := (Tryz.f18.body.getD .skip)) rfl fun h => same_body0 n s fu off l fsd rf h0 (h.lens 0 _ .i64 2 ([s, fu] : List Int) rfl (by simp)) (h.lens 1 _ .u8 n l rfl (by simp)) (h.lens 3 _ .u8 n l rfl (by simp)) w rw β

end Go.Proofs.YtjmfnjgcofpocaaGreat.X

/- Rows of marks; drawn again and again. -/
namespace Go.Proofs.YtjmfnjgcofpocaaGreat.X
open Go Go.Proofs
set_option linter.unusedVariables false
set_option maxRecDepth 100000
set_option maxHeartbeats 8000000

def rwB (i : Int) : Nat → List Int
 | 0 => []
 | n + 1 => rwB i n ++ [mkBy i ((n : Nat) : Int)]
theorem rwB_len (i : Int) : ∀ n, (rwB i n).length = n
 | 0 => rfl
 | n + 1 => by show (rwB i n ++ _).length = _; rw [List.length_append, rwB_len i n]; rfl
def mkP (L : List Int) (i : Int) (k : Nat) : List Int := rwB i k ++ L.drop k
theorem mkP_step {L : List Int} {i : Int} {n k : Nat} (l : L.length = n) (h : k < n) : List.set (mkP L i k) k (mkBy i (k : Int)) = mkP L i (k + 1) := by
 have a := rwB_len i k
 have e : L.drop k = L[k] :: L.drop (k + 1) := List.drop_eq_getElem_cons (by omega)
 show List.set (rwB i k ++ L.drop k) k _ = (rwB i k ++ [mkBy i (k : Int)]) ++ L.drop (k + 1)
 rw [e, List.set_append_right _ _ (by omega), a, Nat.sub_self, List.set_cons_zero, List.append_assoc]
 rfl
theorem mkP_all {L : List Int} {i : Int} {n : Nat} (l : L.length = n) : mkP L i n = rwB i n := by
 unfold mkP
 rw [List.drop_of_length_le (by omega), List.append_nil]
end Go.Proofs.YtjmfnjgcofpocaaGreat.X

/- What Given lays: a copy with three marks behind it. -/
namespace Go.Proofs.YtjmfnjgcofpocaaGreat.X
open Go Go.Proofs
set_option linter.unusedVariables false
set_option maxRecDepth 100000
set_option maxHeartbeats 8000000

def cpB (b R : List Int) (k : Nat) : List Int := sub b 0 k ++ R.drop k
def gvB (n : Nat) (b : List Int) : List Int := cpB b (rwB 987 (n + 3)) n
theorem cpB_step {b R : List Int} {n m k : Nat} (hb : b.length = n) (hR : R.length = m) (h : k < n) (h' : k < m) : List.set (cpB b R k) k (List.getD b k 0) = cpB b R (k + 1) := by
 have hs : (sub b 0 k).length = k := sub_len _ _ _ (by omega)
 have e : R.drop k = R[k] :: R.drop (k + 1) := List.drop_eq_getElem_cons (by omega)
 unfold cpB
 rw [e, List.set_append_right _ _ (by omega), hs, Nat.sub_self, List.set_cons_zero]
 unfold sub
 rw [List.drop_zero, List.take_add_one, List.getElem?_eq_getElem (by omega), List.getD_eq_getElem?_getD, List.getElem?_eq_getElem (by omega), List.append_assoc]
 rfl
theorem cpB_len {b R : List Int} {n m k : Nat} (hb : b.length = n) (hR : R.length = m) (h : k ≤ n) (h' : k ≤ m) : (cpB b R k).length = m := by
 unfold cpB
 rw [List.length_append, sub_len _ _ _ (by omega), List.length_drop]; omega
theorem gvB_len {b : List Int} {n : Nat} (hb : b.length = n) : (gvB n b).length = n + 3 := cpB_len hb (rwB_len _ _) (Nat.le_refl _) (by omega)
theorem gvB_take {b : List Int} {n : Nat} (hb : b.length = n) : sub (gvB n b) 0 n = b := by
 have hs : (sub b 0 n).length = n := sub_len _ _ _ (by omega)
 unfold gvB cpB
 rw [show sub (sub b 0 n ++ (rwB 987 (n + 3)).drop n) 0 n = sub b 0 n from by
  rw [sub_append_left _ _ _ (by omega), hs, Nat.sub_self]
  simp [sub]]
 exact sub_all b n (by omega)
theorem gv_copy {b : List Int} {n : Nat} (hb : b.length = n) : copyB (n + 3) (sub (gvB n b) 0 (n + 3)) = gvB n b := by
 show sub (sub (gvB n b) 0 (n + 3)) 0 (n + 3) = _
 have e : sub (gvB n b) 0 (n + 3) = gvB n b := sub_all _ _ (by rw [gvB_len hb]; omega)
 rw [e, e]
end Go.Proofs.YtjmfnjgcofpocaaGreat.X

/- A contract by hand: two lists of slices, families in them or not, are looked at and found to show the same. -/
namespace Go.Proofs.YtjmfnjgcofpocaaGreat.X
open Go Go.Proofs
set_option linter.unusedVariables false

def PartsI (w : World) (rw : List Nat) (L : List Value) (n : Nat) : Prop := ∀ i, i < n → ∀ (k : Nat) (β : Env), ImpOk ⟨w, rw, k, β⟩ (L.getD i undef) .u8 (lenV (L.getD i undef)) (capV (L.getD i undef)) (contV w (L.getD i undef))
def contL (w : World) (L : List Value) (n : Nat) : List (List Int) := (List.range n).map fun i => contV w (L.getD i undef)
def famL (K : Know) (w0 : World) (rw : List Nat) : List Atom → Option (Prop × List (List Int))
 | [] => some (True, [])
 | .vals n L :: r => (match famL K w0 rw r with
  | some (q, C) => some (PartsI w0 rw L n ∧ q, contL w0 L n ++ C)
  | none => none)
 | a :: r => (match famC K a with
  | some (p, l) => (match famL K w0 rw r with
   | some (q, C) => some (p ∧ q, l :: C)
   | none => none)
  | none => none)

theorem famC_mono {K K' : Know} (hk : Knows K K') {a : Atom} {r : Prop × List Int} (h : famC K a = some r) : famC K' a = some r := by
 unfold famC at *
 split at h
 ·split at h
  ·rename_i b hb; rw [hk _ _ hb]; exact h
  ·simp at h
 ·split at h
  ·rename_i b hb; rw [hk _ _ hb]; exact h
  ·simp at h
 ·exact h
 ·simp at h
theorem famL_mono {K K' : Know} {w0 : World} {rw : List Nat} (hk : Knows K K') : ∀ {l : List Atom} {r : Prop × List (List Int)}, famL K w0 rw l = some r → famL K' w0 rw l = some r
 | [], _, h => h
 | a :: l, r, h => by
  have one : (match famC K a with
    | some (p, x) => (match famL K w0 rw l with
     | some (q, C) => some (p ∧ q, x :: C)
     | none => none)
    | none => none) = some r → (match famC K' a with
    | some (p, x) => (match famL K' w0 rw l with
     | some (q, C) => some (p ∧ q, x :: C)
     | none => none)
    | none => none) = some r := by
   intro h
   split at h
   ·rename_i p x h1
    rw [famC_mono hk h1]
    simp only
    split at h
    ·rename_i q C h2
     rw [famL_mono hk h2]; exact h
    ·simp at h
   ·simp at h
  cases a with
  | vals n L =>
   simp only [famL] at h ⊢
   split at h
   ·rename_i q C h2
    rw [famL_mono hk h2]; exact h
   ·simp at h
  | _ => exact one h

section fam
variable {w0 w : World} {rw : List Nat} {β : Env} {K : Know}

def AllI (w : World) (L : List Value) (C : List (List Int)) : Prop := L.length = C.length ∧ PartsI w [] L C.length ∧ ∀ i, i < C.length → contV w (L.getD i undef) = C.getD i []
theorem AllI.of {L : List Value} {C : List (List Int)} (h : FamR w [] L C) : AllI w L C := ⟨h.len, h.imp, h.cont⟩
theorem AllI.to {L : List Value} {C : List (List Int)} (h : AllI w L C) : FamR w [] L C := ⟨h.1, h.2.1, h.2.2⟩

theorem contL_len (w : World) (L : List Value) (n : Nat) : (contL w L n).length = n := by simp [contL]
theorem contL_get {w : World} {L : List Value} {n i : Nat} (h : i < n) : (contL w L n).getD i [] = contV w (L.getD i undef) := by
 unfold contL
 rw [List.getD_eq_getElem?_getD, List.getElem?_map, List.getElem?_range h]; rfl

theorem famC_all (hR : RelW w0 rw β K w) {a : Atom} {p : Prop} {l : List Int} {cs : List Value} (h : famC K a = some (p, l)) (hp : p) (hc : a.con β cs) : FamR w [] cs [l] := by
 have hpc : partC K w0 rw a = some (1, p, l) := by
  unfold famC at h
  unfold partC
  split at h
  ·split at h
   ·rename_i b hb
    split at h
    ·rename_i hs
     simp only [Option.some.injEq, Prod.mk.injEq] at h; obtain ⟨rfl, rfl⟩ := h
     simp only [hb, hs]
    ·simp at h
   ·simp at h
  ·split at h
   ·rename_i b hb
    split at h
    ·rename_i hs
     simp only [Option.some.injEq, Prod.mk.injEq] at h; obtain ⟨rfl, rfl⟩ := h
     simp only [hb, hs]
    ·simp at h
   ·simp at h
  ·simp only [Option.some.injEq, Prod.mk.injEq] at h; obtain ⟨rfl, rfl⟩ := h; rfl
  ·simp at h
 obtain ⟨h1, h2, h3⟩ := partC_ok hR hpc hp hc
 refine ⟨h1, fun i hi => h2 i hi, fun i hi => ?_⟩
 have : i = 0 := by simp at hi; omega
 subst this
 have : [] ++ contV w (cs.getD 0 undef) = l := h3
 simpa using this

theorem famL_ok (hR : RelW w0 rw β K w) : ∀ {l : List Atom} {p : Prop} {C : List (List Int)} {cs : List Value}, famL K w0 rw l = some (p, C) → p → cons β l cs → FamR w [] cs C
 | [], p, C, cs, h, hp, hc => by
  simp only [famL, Option.some.injEq, Prod.mk.injEq] at h; obtain ⟨rfl, rfl⟩ := h
  have hc : cs = [] := hc
  subst hc; exact FamR.nil
 | a :: l, p, C, cs, h, hp, hc => by
  obtain ⟨x, y, rfl, ha, hr⟩ := hc
  have one : (match famC K a with
    | some (p, x) => (match famL K w0 rw l with
     | some (q, C) => some (p ∧ q, x :: C)
     | none => none)
    | none => none) = some (p, C) → FamR w [] (x ++ y) C := by
   intro h
   split at h
   ·rename_i p1 l1 h1
    split at h
    ·rename_i q D h2
     simp only [Option.some.injEq, Prod.mk.injEq] at h; obtain ⟨rfl, rfl⟩ := h
     exact (famC_all hR h1 hp.1 ha).app (famL_ok hR h2 hp.2 hr)
    ·simp at h
   ·simp at h
  cases a with
  | vals n L =>
   simp only [famL] at h
   split at h
   ·rename_i q D h2
    simp only [Option.some.injEq, Prod.mk.injEq] at h; obtain ⟨rfl, rfl⟩ := h
    obtain ⟨h3, rfl, _⟩ := ha
    refine FamR.app ?_ (famL_ok hR h2 hp.2 hr)
    have hc : ∀ i, i < n → contV w (x.getD i undef) = contV w0 (x.getD i undef) := fun i hi => contV_move hR.old (hp.1 i hi 0 noEnv)
    refine ⟨by rw [contL_len, h3], fun i hi k β1 => ?_, fun i hi => ?_⟩
    ·rw [contL_len] at hi
     rw [hc i hi]
     obtain ⟨base, hv, hlc, hl, hb⟩ := hp.1 i hi 0 noEnv
     refine ⟨base, hv, hlc, hl, fun h0 => ?_⟩
     obtain ⟨b, off, g1, g2, g3, g4⟩ := hb h0
     have g2 : b < w0.heap.size := g2
     refine ⟨b, off, g1, Nat.lt_of_lt_of_le g2 hR.size, by simp, fun hl0 => ?_⟩
     obtain ⟨arr, ty, fr, k1, k2⟩ := g4 hl0
     exact ⟨arr, ty, fr, (hR.old b g2 g3).trans k1, k2⟩
    ·rw [contL_len] at hi
     rw [hc i hi, contL_get hi]
   ·simp at h
  | _ => exact one h
end fam

def nilsB (l : List Atom) : Bool := l.all fun a => match a with
 | .raw (.slice none 0 0) => true
 | _ => false
theorem nilsB_ok : ∀ {l : List Atom}, nilsB l = true → l = List.replicate l.length (.raw (.slice none 0 0))
 | [], _ => rfl
 | a :: l, h => by
  unfold nilsB at h
  rw [List.all_cons, Bool.and_eq_true] at h
  have h2 : l = List.replicate l.length (.raw (.slice none 0 0)) := nilsB_ok (l := l) h.2
  have h1 := h.1
  split at h1
  ·rw [List.length_cons, List.replicate_succ, ← h2]
  ·cases h1

def gtwoE (m : Nat) (w0 : World) (rw : List Nat) (K : Know) (args : List AV) : Option Rx :=
 match args with
 | [.o (.a (.p g 0))] => (match K.at g with
  | some ⟨_, .rs jl 0 q _ :: .rs jw 0 q' _ :: nils⟩ =>
   if nilsB nils = true ∧ nils.length = m then
    (match K.at jl with
    | some bl => (match K.at jw with
     | some bw => (match famL K w0 rw bl.cells with
      | some (p, C) => (match famL K w0 rw bw.cells with
       | some (p', C') => some ⟨some (C.length = q ∧ q' = q ∧ p ∧ p' ∧ C = C' ∧ (∀ l ∈ C, l.length < 70368744177664) ∧ q < 70368744177664), .o (.a (.b true)), [], 0⟩
       | none => none)
      | none => none)
     | none => none)
    | none => none)
   else none
  | _ => none)
 | _ => none
def gtwo (f : FuncId) (m : Nat) (w0 : World) (rw : List Nat) (rest : Gam) : Gam := fun g K n args => if f = g then gtwoE m w0 rw K args else rest g K n args

theorem gtwo_ok {P : Program} {T : Tab} (hT : TabOk P T) {f : FuncId} {fn : Func} (hf : P.funcs[f]? = some fn) (he : ∀ (xas : Array Value) (w : World), (callFunc f xas).run P w = .ok (.enter f xas) w) {m : Nat} {rest : Gam} {w0 : World} {rw : List Nat} (hr : GamAt P rest w0 rw)
  (h : ∀ (q capL capW : Nat) (L W : List Value) (w : World) (β : Env), q < 70368744177664 → PartsI w [] L q → PartsI w [] W q → (∀ k, k < q → contV w (L.getD k undef) = contV w (W.getD k undef)) → (∀ k, k < q → lenV (L.getD k undef) = lenV (W.getD k undef)) → (∀ k, k < q → lenV (L.getD k undef) < 70368744177664) →
   Body P T fn ⟨w, [], 3, β⟩ [.o (.a (.p 0 0))] [some ⟨false, .sl 1 0 q capL :: .sl 2 0 q capW :: List.replicate m (.raw (.slice none 0 0))⟩, some ⟨false, [.vals q L]⟩, some ⟨false, [.vals q W]⟩] fun ys _ => ys = [.a (.b true)])
  (hlt : f < impId := by decide) : GamAt P (gtwo f m w0 rw rest) w0 rw := by
 refine ⟨?_, ?_, ?_, ?_, ?_, ?_⟩
 ·intro t' n nm s ht' hs
  have hne : ¬ (f = mthId + t') := fun e => by
   have h1 : mthId ≤ mthId + t' := Nat.le_add_right _ _
   rw [← e] at h1
   exact Nat.lt_irrefl _ (Nat.lt_of_lt_of_le hlt (Nat.le_trans (by decide : impId ≤ mthId) h1))
  unfold gtwo at hs
  rw [if_neg hne] at hs
  exact hr.meth _ _ _ _ ht' hs
 ·intro g K n args s hg hs
  unfold gtwo at hs
  split at hs
  ·rename_i e; subst e; exact he
  ·exact hr.enter _ _ _ _ _ hg hs
 ·intro g0 K n args s hg hs hvc β w xs hx hR hn hK
  unfold gtwo at hs
  split at hs
  rotate_left
  ·exact hr.calls _ _ _ _ _ hg hs hvc β w xs hx hR hn hK
  rename_i e; subst e
  unfold gtwoE at hs
  split at hs
  rotate_left
  ·simp at hs
  rename_i g
  split at hs
  rotate_left
  ·simp at hs
  rename_i own jl q z jw q' z' nils hg1
  split at hs
  rotate_left
  ·simp at hs
  rename_i hnl
  split at hs
  rotate_left
  ·simp at hs
  rename_i bl hbl
  split at hs
  rotate_left
  ·simp at hs
  rename_i bw hbw
  split at hs
  rotate_left
  ·simp at hs
  rename_i p C hC
  split at hs
  rotate_left
  ·simp at hs
  rename_i p' C' hC'
  simp only [Option.some.injEq] at hs; subst hs
  obtain ⟨rfl, rfl, hp, hp', rfl, hsm, hq⟩ := hvc
  obtain ⟨v, rest', rfl, hv, hrest⟩ := hx
  cases hrest
  obtain ⟨L, hL, hdL⟩ := hR.holds jl bl hbl
  obtain ⟨W, hW, hdW⟩ := hR.holds jw bw hbw
  have fL := famL_ok hR hC hp hL
  have fW := famL_ok hR hC' hp' hW
  obtain ⟨G, hG, hdG⟩ := hR.holds g _ hg1
  have hG : cons β (.rs jl 0 C.length z :: .rs jw 0 C.length z' :: nils) G := hG
  obtain ⟨g1, G1, rfl, hg2, hG1⟩ := hG
  obtain ⟨g2, G2, rfl, hg3, hG2⟩ := hG1
  obtain ⟨base1, cap1, rfl, hc1, hb1⟩ := hg2
  obtain ⟨base2, cap2, rfl, hc2, hb2⟩ := hg3
  have hnils := nilsB_ok hnl.1
  rw [hnl.2] at hnils
  rw [hnils] at hG2
  let β' : Env := fun t => if t = 0 then β g else if t = 1 then β jl else if t = 2 then β jw else none
  have hflat : (List.replicate m (Atom.raw (.slice none 0 0))).all Atom.flat = true := by
   rw [List.all_eq_true]; intro x hx; rw [List.eq_of_mem_replicate hx]; rfl
  have hrel : RelW w [] β' [some ⟨false, .sl 1 0 C.length cap1 :: .sl 2 0 C.length cap2 :: List.replicate m (.raw (.slice none 0 0))⟩, some ⟨false, [.vals C.length L]⟩, some ⟨false, [.vals C.length W]⟩] w := by
   refine RelW.ofRead fun i bk hi => ?_
   have cases3 : (i = 0 ∧ bk = ⟨false, .sl 1 0 C.length cap1 :: .sl 2 0 C.length cap2 :: List.replicate m (.raw (.slice none 0 0))⟩) ∨ (i = 1 ∧ bk = ⟨false, [.vals C.length L]⟩) ∨ (i = 2 ∧ bk = ⟨false, [.vals C.length W]⟩) := by
    match i, hi with
    | 0, hi => exact .inl ⟨rfl, (Option.some.inj hi).symm⟩
    | 1, hi => exact .inr (.inl ⟨rfl, (Option.some.inj hi).symm⟩)
    | 2, hi => exact .inr (.inr ⟨rfl, (Option.some.inj hi).symm⟩)
    | i + 3, hi => simp [Know.at] at hi
   rcases cases3 with ⟨rfl, rfl⟩ | ⟨rfl, rfl⟩ | ⟨rfl, rfl⟩
   ·refine ⟨rfl, ⟨_, ⟨_, _, rfl, ⟨base1, rfl, hc1, fun h0 => ?_⟩, ⟨_, _, rfl, ⟨base2, rfl, hc2, fun h0 => ?_⟩, cons_flat hflat hG2⟩⟩, ?_⟩, fun r hr' => hR.live g _ r hg1 hr'⟩
    ·obtain ⟨r, k1, k2, _⟩ := hb1 h0; exact ⟨r, k1, k2⟩
    ·obtain ⟨r, k1, k2, _⟩ := hb2 h0; exact ⟨r, k1, k2⟩
    ·rcases hdG with ⟨k1, _⟩ | ⟨r, arr, ty, fr, k1, k2, k3, k4, k5, _⟩
     ·exact .inl ⟨k1, .inl rfl⟩
     ·exact .inr ⟨r, arr, ty, fr, k1, k2, k3, k4, k5, fun h => by cases h⟩
   ·refine ⟨rfl, ⟨L, cons_single.2 ⟨fL.len, rfl, cons_one hL⟩, ?_⟩, fun r hr' => hR.live jl _ r hbl hr'⟩
    rcases hdL with ⟨k1, _⟩ | ⟨r, arr, ty, fr, k1, k2, k3, k4, k5, _⟩
    ·exact .inl ⟨k1, .inl rfl⟩
    ·exact .inr ⟨r, arr, ty, fr, k1, k2, k3, k4, k5, fun h => by cases h⟩
   ·refine ⟨rfl, ⟨W, cons_single.2 ⟨fW.len, rfl, cons_one hW⟩, ?_⟩, fun r hr' => hR.live jw _ r hbw hr'⟩
    rcases hdW with ⟨k1, _⟩ | ⟨r, arr, ty, fr, k1, k2, k3, k4, k5, _⟩
    ·exact .inl ⟨k1, .inl rfl⟩
    ·exact .inr ⟨r, arr, ty, fr, k1, k2, k3, k4, k5, fun h => by cases h⟩
  have hall : allC β' [.o (.a (.p 0 0))] [v] := by
   refine ⟨v, [], rfl, ?_, rfl⟩
   obtain ⟨r, h1, h2⟩ := hv
   exact ⟨r, h1, h2⟩
  have hcl : ∀ (X : List Value), FamR w [] X C → ∀ k, k < C.length → lenV (X.getD k undef) = (C.getD k []).length := by
   intro X fX k hk
   obtain ⟨_, _, _, hl, _⟩ := fX.imp k hk 0 noEnv
   rw [← hl, fX.cont k hk]
  have hbody := h C.length cap1 cap2 L W w β' hq fL.imp fW.imp (fun k hk => by rw [fL.cont k hk, fW.cont k hk]) (fun k hk => by rw [hcl L fL k hk, hcl W fW k hk]) (fun k hk => by
   rw [hcl L fL k hk, List.getD_eq_getElem?_getD, List.getElem?_eq_getElem hk]
   exact hsm _ (List.getElem_mem hk))
  refine Calls.mono (calls_of_body hT hf (rw := []) hall hrel hbody) fun e w' he => ?_
  obtain ⟨ys, K', v', β1, rfl, rfl, hv', hrel', _⟩ := he
  exact ⟨v', β, rfl, agree_refl _ _ _, hv', hR.grow hrel'.toGrow⟩
 ·intro g0 K K' n args s hg hs hk
  unfold gtwo at hs ⊢
  split at hs
  rotate_left
  ·rename_i e; rw [if_neg e]; exact hr.mono _ _ _ _ _ _ hg hs hk
  rename_i e
  rw [if_pos e]
  unfold gtwoE at hs ⊢
  split at hs
  rotate_left
  ·simp at hs
  rename_i g
  split at hs
  rotate_left
  ·simp at hs
  rename_i own jl q z jw q' z' nils hg1
  simp only [hk _ _ hg1]
  split at hs
  rotate_left
  ·simp at hs
  rename_i hnl
  rw [if_pos hnl]
  split at hs
  rotate_left
  ·simp at hs
  rename_i bl hbl
  simp only [hk _ _ hbl]
  split at hs
  rotate_left
  ·simp at hs
  rename_i bw hbw
  simp only [hk _ _ hbw]
  split at hs
  rotate_left
  ·simp at hs
  rename_i p C hC
  simp only [famL_mono hk hC]
  split at hs
  rotate_left
  ·simp at hs
  rename_i p' C' hC'
  simp only [famL_mono hk hC']
  exact hs
 ·intro g n args s hs
  have hne : ¬ (f = extId + g) := fun e => by
   have h1 : extId ≤ extId + g := Nat.le_add_right _ _
   rw [← e] at h1
   exact Nat.lt_irrefl _ (Nat.lt_of_lt_of_le hlt (Nat.le_trans (by decide : impId ≤ extId) h1))
  unfold gtwo at hs
  rw [if_neg hne] at hs
  exact hr.ext _ _ _ _ hs
 ·intro g n v s hg hg2 hs
  have hne : ¬ (f = g) := fun e => by
   have h1 := hlt
   rw [e] at h1
   exact Nat.lt_irrefl _ (Nat.lt_of_lt_of_le h1 hg)
  unfold gtwo at hs
  rw [if_neg hne] at hs
  exact hr.imp _ _ _ _ hg hg2 hs
end Go.Proofs.YtjmfnjgcofpocaaGreat.X

/- Families that a loop makes, told for the loop's block alone; what a family says to those that read it. -/
namespace Go.Proofs.YtjmfnjgcofpocaaGreat.X
open Go Go.Proofs
set_option linter.unusedVariables false

def fstC : Code → Code
 | .seq a _ => a
 | c => c
def sndC : Code → Code
 | .seq _ b => b
 | c => c

theorem Run.famQ {P : Program} {σ : Type} {c : Code} {id : Nat} (mk : Nat → σ → St) (Inv : World → List Nat → Nat → σ → Prop) (n kk : Nat)
  (hround : ∀ w rw β0 k s, k < n → Inv w rw k s → Run P ⟨w, rw, kk, β0⟩ c (mk k s) (fun e md => e = .normal ∧
   ∀ β a' w', Rel ⟨w, rw, kk, β0⟩ β md a' w' → ∃ β' s', Rel ⟨w, rw, kk, β0⟩ β' (mk (k + 1) s') a' w' ∧ Inv w' (ownBlks β' (mk (k + 1) s').K) (k + 1) s'))
  (hlast : ∀ w rw β0 s, Inv w rw n s → Run P ⟨w, rw, kk, β0⟩ c (mk n s) (To ⟨w, rw, kk, β0⟩ (.exit id) (mk n s)))
  {w0 : World} {rw0 : List Nat} {β0 : Env} {s0 : σ} (h0 : Inv w0 rw0 0 s0) {β : Env} {a : Act} {w : World} (hR : Rel ⟨w0, rw0, kk, β0⟩ β (mk 0 s0) a w) {Q : Exit → Act → World → Prop}
  (hQ : ∀ w1 rw1 β1 s β a w, Inv w1 rw1 n s → Rel ⟨w1, rw1, kk, β1⟩ β (mk n s) a w →
    (∀ β' st' a' w', Rel ⟨w1, rw1, kk, β1⟩ β' st' a' w' → Rel ⟨w0, rw0, kk, β0⟩ β' st' a' w') → Q .normal a w) : (Code.block id (.loop c)).wp P Q a w := by
 have key : ∀ Q1 : Exit → Act → World → Prop, (∀ w1 rw1 β1 s β a w, Inv w1 rw1 n s → Rel ⟨w1, rw1, kk, β1⟩ β (mk n s) a w →
    (∀ β' st' a' w', Rel ⟨w1, rw1, kk, β1⟩ β' st' a' w' → Rel ⟨w0, rw0, kk, β0⟩ β' st' a' w') → Q1 (.exit id) a w) → ∀ m k, k + m = n → ∀ w1 rw1 β1 s β a w, Inv w1 rw1 k s → Rel ⟨w1, rw1, kk, β1⟩ β (mk k s) a w →
   (∀ β' st' a' w', Rel ⟨w1, rw1, kk, β1⟩ β' st' a' w' → Rel ⟨w0, rw0, kk, β0⟩ β' st' a' w') → Code.rounds P c Q1 (m + 1) a w := by
  intro Q1 hQ1 m
  induction m with
  | zero =>
   intro k hk w1 rw1 β1 s β a w hi hR hback
   have : k = n := by omega
   subst this
   rw [rounds_succ]
   refine hlast w1 rw1 β1 s hi β a w hR _ fun e st' β' a' w' hp hR' => ?_
   obtain ⟨rfl, hw⟩ := hp
   obtain ⟨β2, hR2⟩ := hw β' a' w' hR'
   exact hQ1 w1 rw1 β1 s β2 a' w' hi hR2 hback
  | succ m ih =>
   intro k hk w1 rw1 β1 s β a w hi hR hback
   rw [rounds_succ]
   refine hround w1 rw1 β1 k s (by omega) hi β a w hR _ fun e st' β' a' w' hp hR' => ?_
   obtain ⟨rfl, hconv⟩ := hp
   obtain ⟨β3, s', hR3, hi'⟩ := hconv β' a' w' hR'
   exact ih (k + 1) (by omega) w' (ownBlks β3 (mk (k + 1) s').K) β3 s' β3 a' w' hi' hR3.anew fun β' st' a'' w'' h => hback _ _ _ _ (hR3.back h)
 refine wp_block (wp_loop_rounds (n + 1) (key _ ?_ n 0 (by omega) w0 rw0 β0 s0 β a w h0 hR fun _ _ _ _ h => h))
 intro w1 rw1 β1 s β2 a' w' hi hR2 hback
 show (if id = id then _ else _)
 rw [if_pos rfl]
 exact hQ w1 rw1 β1 s β2 a' w' hi hR2 hback

theorem Run.famPre {P : Program} {σ : Type} {pre c rest : Code} {id : Nat} {post : Ex → St → Prop} (mk : Nat → σ → St) (Inv : World → List Nat → Nat → σ → Prop) (n kk : Nat)
  (hround : ∀ w rw β0 k s, k < n → Inv w rw k s → Run P ⟨w, rw, kk, β0⟩ c (mk k s) (fun e md => e = .normal ∧
   ∀ β a' w', Rel ⟨w, rw, kk, β0⟩ β md a' w' → ∃ β' s', Rel ⟨w, rw, kk, β0⟩ β' (mk (k + 1) s') a' w' ∧ Inv w' (ownBlks β' (mk (k + 1) s').K) (k + 1) s'))
  (hlast : ∀ w rw β0 s, Inv w rw n s → Run P ⟨w, rw, kk, β0⟩ c (mk n s) (To ⟨w, rw, kk, β0⟩ (.exit id) (mk n s)))
  (hrest : ∀ w rw β0 s, Inv w rw n s → Run P ⟨w, rw, kk, β0⟩ rest (mk n s) post)
  {B : Bs} (hkk : B.k = kk) {st : St} (hpre : Run P B pre st (fun e md => e = .normal ∧ ∀ β a' w', Rel B β md a' w' → ∃ β' s', Rel B β' (mk 0 s') a' w' ∧ Inv w' (ownBlks β' (mk 0 s').K) 0 s')) :
  Run P B (.seq (.seq pre (.block id (.loop c))) rest) st post := by
 intro β a w hR Q hq
 refine wp_seq (wp_seq (hpre β a w hR _ fun e st' β' a' w' hp hR' => ?_))
 obtain ⟨rfl, hconv⟩ := hp
 obtain ⟨β2, s', hR2, hi⟩ := hconv β' a' w' hR'
 have hR3 := hR2.anew
 rw [hkk] at hR3
 refine Run.famQ mk Inv n kk hround hlast hi hR3 (fun w1 rw1 β1 s β3 a1 w1' hi1 hR4 hback => ?_)
 exact hrest w1 rw1 β1 s hi1 β3 a1 w1' hR4 Q fun e st5 β5 a5 w5 hp5 hR5 => hq e st5 β5 a5 w5 hp5 (hR2.back (by have := hback _ _ _ _ hR5; rw [hkk]; exact this))

theorem Rel.emptied {B : Bs} {β : Env} {slots : List AV} {K : Know} {a : Act} {w : World} (h : Rel B β ⟨slots, K⟩ a w) {j : Nat} {own : Bool} {k : IntKind} (hb : K.at j = some ⟨own, [.ints k 0 []]⟩) :
  Rel B β ⟨slots, K.set1 j (some ⟨own, [.vals 0 []]⟩)⟩ a w := by
 obtain ⟨L, hL, h1⟩ := h.valued hb (n := 0) rfl
 have : L = [] := List.length_eq_zero_iff.1 (cons_len hL)
 subst this
 exact h1

theorem FamR.contLeq {w : World} {rw : List Nat} {L : List Value} {C : List (List Int)} (h : FamR w rw L C) {n : Nat} (hn : n = C.length) : contL w L n = C := by
 subst hn
 refine List.ext_getElem? fun i => ?_
 by_cases hi : i < C.length
 ·unfold contL
  rw [List.getElem?_map, List.getElem?_range hi, List.getElem?_eq_getElem hi]
  show some (contV w (L.getD i undef)) = _
  rw [h.cont i hi, List.getD_eq_getElem?_getD, List.getElem?_eq_getElem hi]; rfl
 ·rw [List.getElem?_eq_none (by rw [contL_len]; omega), List.getElem?_eq_none (by omega)]
theorem FamR.of {w : World} {rw : List Nat} {L : List Value} {n : Nat} (hl : L.length = n) (h : PartsI w rw L n) : FamR w rw L (contL w L n) :=
 ⟨by rw [contL_len, hl], fun i hi => h i (by rwa [contL_len] at hi), fun i hi => (contL_get (by rwa [contL_len] at hi)).symm⟩
end Go.Proofs.YtjmfnjgcofpocaaGreat.X

/- Families of copies: what Given keeps, and what Intact asks behind some more. -/
namespace Go.Proofs.YtjmfnjgcofpocaaGreat.X
open Go Go.Proofs
set_option linter.unusedVariables false
set_option maxRecDepth 100000
set_option maxHeartbeats 8000000

theorem sub_len_all {α : Type} (L : List α) {n : Nat} (h : L.length = n) : sub L 0 n = L := by
 unfold sub; rw [List.drop_zero, ← h, List.take_length]

theorem sub_lt {l : List Int} {a b B : Nat} (h : b < B) : (sub l a b).length < B := by
 unfold sub; rw [List.length_take]; omega
end Go.Proofs.YtjmfnjgcofpocaaGreat.X

