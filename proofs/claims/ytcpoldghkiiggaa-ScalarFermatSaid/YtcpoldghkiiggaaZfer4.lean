/- Texts of this session, put together (part 4), less what nothing uses. -/
import Derived.Test.YtcpoldghkiiggaaZfer3
import Derived.KernelRfl
/- Texts of this session, put together (part 2). -/
/- Eight words of 32 bits: twice, difference, comparison. -/
namespace Go.Proofs.Ytcpoldghkiiggaa.X
open Go Go.Proofs
set_option linter.unusedVariables false

end Go.Proofs.Ytcpoldghkiiggaa.X

/- Division bit by bit, as the reference does it. -/
namespace Go.Proofs.Ytcpoldghkiiggaa.X
open Go Go.Proofs
set_option linter.unusedVariables false

end Go.Proofs.Ytcpoldghkiiggaa.X

/- Printed by a tool of this session. -/
namespace Go.Proofs.Ytcpoldghkiiggaa.X
open Go Go.Proofs
set_option linter.unusedVariables false
set_option linter.unusedSimpArgs false
set_option maxRecDepth 100000
end Go.Proofs.Ytcpoldghkiiggaa.X

/- Division bit by bit is division. -/
namespace Go.Proofs.Ytcpoldghkiiggaa.X
open Go Go.Proofs
set_option linter.unusedVariables false

end Go.Proofs.Ytcpoldghkiiggaa.X

/- Printed by a tool of this session. -/
namespace Go.Proofs.Ytcpoldghkiiggaa.X
open Go Go.Proofs
set_option linter.unusedVariables false
set_option linter.unusedSimpArgs false
set_option maxRecDepth 100000
end Go.Proofs.Ytcpoldghkiiggaa.X

/- The digits of 32 bytes. -/
namespace Go.Proofs.Ytcpoldghkiiggaa.X
open Go Go.Proofs
set_option linter.unusedVariables false

end Go.Proofs.Ytcpoldghkiiggaa.X

/- Printed by a tool of this session. -/
namespace Go.Proofs.Ytcpoldghkiiggaa.X
open Go Go.Proofs
set_option linter.unusedVariables false
set_option linter.unusedSimpArgs false
set_option maxRecDepth 100000
end Go.Proofs.Ytcpoldghkiiggaa.X

/- The value of 32 bytes, by the reference. -/
namespace Go.Proofs.Ytcpoldghkiiggaa.X
open Go Go.Proofs
set_option linter.unusedVariables false

end Go.Proofs.Ytcpoldghkiiggaa.X

/- Printed by a tool of this session. -/
namespace Go.Proofs.Ytcpoldghkiiggaa.X
open Go Go.Proofs
set_option linter.unusedVariables false
set_option linter.unusedSimpArgs false
set_option maxRecDepth 100000
end Go.Proofs.Ytcpoldghkiiggaa.X

/- What the functions compute, as numbers, on both sides. -/
namespace Go.Proofs.Ytcpoldghkiiggaa.X
open Go Go.Proofs
set_option linter.unusedVariables false

theorem modL_add (x y : Int) : modL (modL x + modL y) = modL (x + y) := (Int.add_emod x y LL).symm
theorem modL_mul (x y : Int) : modL (modL x * modL y) = modL (x * y) := (Int.mul_emod x y LL).symm
theorem low_add {x y : Int} (hx : 0 ≤ x ∧ x < LL) (hy : 0 ≤ y ∧ y < LL) : low (addR x y) = modL (x + y) := by
  have e : addR x y = x + y := by unfold addR; unfold LL at *; omega
  rw [e]; exact low_mod (by omega) (by omega)
theorem modL_b (v : Int) : 0 ≤ modL v ∧ modL v < LL := ⟨(modL_rng v).1, (modL_rng v).2.1⟩

theorem addP_eq (a b : List Int) : addP a b = B32 (modL (BV a + BV b)) := by
  unfold addP
  rw [V4_modL, V4_modL, low_add (modL_b _) (modL_b _), V4_modL, modL_add]

theorem negL_eq (v : Int) : negL (modL v) = modL (-v) := by
  unfold negL difR modL
  unfold LL
  split <;> omega
theorem negP_eq (a : List Int) : negP a = B32 (modL (-(BV a))) := by
  unfold negP
  rw [V4_modL, negL_eq, V4_modL]
theorem timesW (x y : Int) : times (W4 (modL x)) (W4 (modL y)) = W4 (modL (x * y)) := by
  unfold times
  rw [V4_modL, V4_modL, V4_mont, V4_radx, times_eq, modL_mul]
theorem mulP_eq (a b : List Int) : mulP a b = B32 (modL (BV a * BV b)) := by
  unfold mulP
  rw [timesW, V4_modL]
theorem W4_zero {v : Int} (h0 : 0 ≤ v) (h1 : v < 115792089237316195423570985008687907853269984665640564039457584007913129639936) : W4 v = [0, 0, 0, 0] ↔ v = 0 := by
  constructor
  · intro h
    have := V4_W4 h0 h1
    rw [h] at this
    exact this.symm
  · intro h; subst h; decide +kernel
end Go.Proofs.Ytcpoldghkiiggaa.X

/- Neg, Add of the reference and Compare of the program: bodies by numbers. -/
namespace Go.Proofs.Ytcpoldghkiiggaa.X
open Go Go.Proofs
set_option linter.unusedVariables false

theorem B32_0 : B32 0 = [0, 0, 0, 0, 0, 0, 0, 0, 0, 0, 0, 0, 0, 0, 0, 0, 0, 0, 0, 0, 0, 0, 0, 0, 0, 0, 0, 0, 0, 0, 0, 0] := by decide +kernel

def negI (x : Int) : Int := -x
end Go.Proofs.Ytcpoldghkiiggaa.X

/- Printed by a tool of this session. -/
namespace Go.Proofs.Ytcpoldghkiiggaa.X
open Go Go.Proofs
set_option linter.unusedVariables false
set_option linter.unusedSimpArgs false
set_option maxRecDepth 100000
end Go.Proofs.Ytcpoldghkiiggaa.X

/- Bytes back to numbers; Sub and Compare of the reference. -/
namespace Go.Proofs.Ytcpoldghkiiggaa.X
open Go Go.Proofs
set_option linter.unusedVariables false

theorem dd2 (a : Int) {b c : Int} (h : 0 ≤ b) : a / b / c = a / (b * c) := by first | exact Int.ediv_ediv_of_nonneg h | exact Int.ediv_ediv_eq_ediv_mul a h | exact Int.ediv_ediv h
theorem bytes8 (u : Int) : u % 256 + 256 * (u / 256 % 256) + 65536 * (u / 65536 % 256) + 16777216 * (u / 16777216 % 256) + 4294967296 * (u / 4294967296 % 256) + 1099511627776 * (u / 1099511627776 % 256) + 281474976710656 * (u / 281474976710656 % 256) + 72057594037927936 * (u / 72057594037927936 % 256) = u % 18446744073709551616 := by
  have q2 : u / 65536 = u / 256 / 256 := (dd2 u (b := 256) (c := 256) (by omega)).symm
  have q3 : u / 16777216 = u / 65536 / 256 := (dd2 u (b := 65536) (c := 256) (by omega)).symm
  have q4 : u / 4294967296 = u / 16777216 / 256 := (dd2 u (b := 16777216) (c := 256) (by omega)).symm
  have q5 : u / 1099511627776 = u / 4294967296 / 256 := (dd2 u (b := 4294967296) (c := 256) (by omega)).symm
  have q6 : u / 281474976710656 = u / 1099511627776 / 256 := (dd2 u (b := 1099511627776) (c := 256) (by omega)).symm
  have q7 : u / 72057594037927936 = u / 281474976710656 / 256 := (dd2 u (b := 281474976710656) (c := 256) (by omega)).symm
  have q8 : u / 18446744073709551616 = u / 72057594037927936 / 256 := (dd2 u (b := 72057594037927936) (c := 256) (by omega)).symm
  have e : u % 18446744073709551616 = u - 18446744073709551616 * (u / 18446744073709551616) := by omega
  rw [e]
  have q1 : u = u % 256 + 256 * (u / 256) := by omega
  generalize u / 256 = z1 at *
  generalize u / 65536 = z2 at *
  generalize u / 16777216 = z3 at *
  generalize u / 4294967296 = z4 at *
  generalize u / 1099511627776 = z5 at *
  generalize u / 281474976710656 = z6 at *
  generalize u / 72057594037927936 = z7 at *
  generalize u / 18446744073709551616 = z8 at *
  omega

theorem le8_B32 (v : Int) : le8 (B32 v) 0 = v % 18446744073709551616 ∧ le8 (B32 v) 8 = v / 18446744073709551616 % 18446744073709551616 ∧ le8 (B32 v) 16 = v / 340282366920938463463374607431768211456 % 18446744073709551616 ∧ le8 (B32 v) 24 = v / 6277101735386680763835789423207666416102355444464034512896 % 18446744073709551616 := by
  refine ⟨bytes8 v, ?_, ?_, ?_⟩
  · rw [← bytes8]
    show (v / 18446744073709551616 % 256) + 256 * (v / 4722366482869645213696 % 256) + 65536 * (v / 1208925819614629174706176 % 256) + 16777216 * (v / 309485009821345068724781056 % 256) + 4294967296 * (v / 79228162514264337593543950336 % 256) + 1099511627776 * (v / 20282409603651670423947251286016 % 256) + 281474976710656 * (v / 5192296858534827628530496329220096 % 256) + 72057594037927936 * (v / 1329227995784915872903807060280344576 % 256) = _
    have d : ∀ c : Int, v / 18446744073709551616 / c = v / (18446744073709551616 * c) := fun c => dd2 v (by omega)
    simp only [d]
    rfl
  · rw [← bytes8]
    show (v / 340282366920938463463374607431768211456 % 256) + 256 * (v / 87112285931760246646623899502532662132736 % 256) + 65536 * (v / 22300745198530623141535718272648361505980416 % 256) + 16777216 * (v / 5708990770823839524233143877797980545530986496 % 256) + 4294967296 * (v / 1461501637330902918203684832716283019655932542976 % 256) + 1099511627776 * (v / 374144419156711147060143317175368453031918731001856 % 256) + 281474976710656 * (v / 95780971304118053647396689196894323976171195136475136 % 256) + 72057594037927936 * (v / 24519928653854221733733552434404946937899825954937634816 % 256) = _
    have d : ∀ c : Int, v / 340282366920938463463374607431768211456 / c = v / (340282366920938463463374607431768211456 * c) := fun c => dd2 v (by omega)
    simp only [d]
    rfl
  · rw [← bytes8]
    show (v / 6277101735386680763835789423207666416102355444464034512896 % 256) + 256 * (v / 1606938044258990275541962092341162602522202993782792835301376 % 256) + 65536 * (v / 411376139330301510538742295639337626245683966408394965837152256 % 256) + 16777216 * (v / 105312291668557186697918027683670432318895095400549111254310977536 % 256) + 4294967296 * (v / 26959946667150639794667015087019630673637144422540572481103610249216 % 256) + 1099511627776 * (v / 6901746346790563787434755862277025452451108972170386555162524223799296 % 256) + 281474976710656 * (v / 1766847064778384329583297500742918515827483896875618958121606201292619776 % 256) + 72057594037927936 * (v / 452312848583266388373324160190187140051835877600158453279131187530910662656 % 256) = _
    have d : ∀ c : Int, v / 6277101735386680763835789423207666416102355444464034512896 / c = v / (6277101735386680763835789423207666416102355444464034512896 * c) := fun c => dd2 v (by omega)
    simp only [d]
    rfl
theorem BV_B32 {v : Int} (h0 : 0 ≤ v) (h1 : v < 115792089237316195423570985008687907853269984665640564039457584007913129639936) : BV (B32 v) = v := by
  obtain ⟨e0, e1, e2, e3⟩ := le8_B32 v
  unfold BV
  rw [e0, e1, e2, e3]
  omega
theorem BV_modL (v : Int) : BV (B32 (modL v)) = modL v := BV_B32 (modL_rng v).1 (modL_rng v).2.2
end Go.Proofs.Ytcpoldghkiiggaa.X

/- The reference's product, digit by digit. -/
namespace Go.Proofs.Ytcpoldghkiiggaa.X
open Go Go.Proofs
set_option linter.unusedVariables false

end Go.Proofs.Ytcpoldghkiiggaa.X

/- Printed by a tool of this session. -/
namespace Go.Proofs.Ytcpoldghkiiggaa.X
open Go Go.Proofs
set_option linter.unusedVariables false
set_option linter.unusedSimpArgs false
set_option maxRecDepth 100000
end Go.Proofs.Ytcpoldghkiiggaa.X

/- The reference's product of two numbers is their product. -/
namespace Go.Proofs.Ytcpoldghkiiggaa.X
open Go Go.Proofs
set_option linter.unusedVariables false

end Go.Proofs.Ytcpoldghkiiggaa.X

/- The reference's product, as numbers. -/
namespace Go.Proofs.Ytcpoldghkiiggaa.X
open Go Go.Proofs
set_option linter.unusedVariables false

end Go.Proofs.Ytcpoldghkiiggaa.X

/- Printed by a tool of this session. -/
namespace Go.Proofs.Ytcpoldghkiiggaa.X
open Go Go.Proofs
set_option linter.unusedVariables false
set_option linter.unusedSimpArgs false
set_option maxRecDepth 100000
theorem teOM_24 : TEOk Try.prog 24 ⟨.array 32 5, 32, 32, [.ints .u8 (32 : Nat) ([0, 0, 0, 0, 0, 0, 0, 0, 0, 0, 0, 0, 0, 0, 0, 0, 0, 0, 0, 0, 0, 0, 0, 0, 0, 0, 0, 0, 0, 0, 0, 0] : List Int)], true⟩ :=
  TEOk.of Try.underlying24 (i := Try.t24) (by kernel_rfl) rfl rfl rfl (by kernel_rfl) (fun _ => Try.eqGuardType24) (by kernel_rfl)
noncomputable def tabOM : List (Nat × TE) := [(24, ⟨.array 32 5, 32, 32, [.ints .u8 (32 : Nat) ([0, 0, 0, 0, 0, 0, 0, 0, 0, 0, 0, 0, 0, 0, 0, 0, 0, 0, 0, 0, 0, 0, 0, 0, 0, 0, 0, 0, 0, 0, 0, 0] : List Int)], true⟩)]
theorem tabOkOM : TabOk Try.prog (tabOf tabOM) := (tabOf_cons teOM_24 tabOf_nil)

set_option maxHeartbeats 1000000 in
theorem num_body0 (x : Int) (w : World) : Body Try.prog (tabOf tabOM) Try.f17 ⟨w, [], 0, noEnv⟩ (toA [.a (.i .i64 x)]) [] (fun ys _ => ys = [.a (.i .i64 x)]) :=
  Body.of_fin (Γ := gam21) (Λ := noLam) (Ψ := noPsi) (fuel := 0) (m := 4) (c := (Try.f17.body.getD .skip)) mix tabOkOM gam21_ok rfl (rs := [.tmp 2]) rfl rfl [] []
    (vc := []) (by kernel_rfl)
    (AllP_nil)

theorem num_body (x : Int) (w : World) : Body Try.prog (tabOf tabOM) Try.f17 ⟨w, [], 0, noEnv⟩ (toA [.a (.i .i64 x)]) [] (fun ys _ => ys = [.a (.i .i64 x)]) :=
  Body.lens (c := (Try.f17.body.getD .skip)) rfl fun h => num_body0 x  w

theorem num_pure (x : Int) : PureC Try.prog 17 [.a (.i .i64 x)] [.a (.i .i64 x)] :=
  PureC.of_body tabOkOM Try.func17 rfl rfl fun w => num_body x w

def gam38 : Gam := gpure 17 (fun args => match args with | [.o (.a (.i .i64 x))] => some (none, [.a (.i .i64 x)]) | _ => none) gam21
theorem gam38_ok : GamOk Try.prog gam38 := gpure_ok gam21_ok Try.call17 (by
  intro args vc xs h hv
  split at h
  · simp only [Option.some.injEq, Prod.mk.injEq] at h; obtain ⟨rfl, rfl⟩ := h; exact ⟨_, by rfl, num_pure _⟩
  · simp at h)

end Go.Proofs.Ytcpoldghkiiggaa.X

/- The program and the reference answer the same: sums, differences, opposites, products. -/
namespace Go.Proofs.Ytcpoldghkiiggaa.X
open Go Go.Proofs
set_option linter.unusedVariables false

end Go.Proofs.Ytcpoldghkiiggaa.X

/- Powers, as the program reckons them. -/
namespace Go.Proofs.Ytcpoldghkiiggaa.X
open Go Go.Proofs
set_option linter.unusedVariables false

def bitE (E : List Int) (k : Nat) : Int := bits2 .and .u64 (shr .u64 (List.getD E (Int.toNat (IntKind.i64.wrap (Int.tdiv ((255 : Int) - ((k : Nat) : Int)) (64 : Int)))) 0) (Int.tmod ((255 : Int) - ((k : Nat) : Int)) (64 : Int))) (1 : Int)
def rP (m r0 : Int) (E : List Int) : Nat → Int
  | 0 => r0
  | k + 1 => if bitE E k = 1 then montV (V4 (W4 (montV (V4 (W4 (rP m r0 E k))) (V4 (W4 (rP m r0 E k)))))) (V4 (W4 m)) else montV (V4 (W4 (rP m r0 E k))) (V4 (W4 (rP m r0 E k)))
theorem rP_a {m r0 : Int} {E : List Int} {k : Nat} (h : bitE E k = 1) : rP m r0 E (k + 1) = montV (V4 (W4 (montV (V4 (W4 (rP m r0 E k))) (V4 (W4 (rP m r0 E k)))))) (V4 (W4 m)) := by
  show (if _ then _ else _) = _
  rw [if_pos h]
theorem rP_b {m r0 : Int} {E : List Int} {k : Nat} (h : ¬ bitE E k = 1) : rP m r0 E (k + 1) = montV (V4 (W4 (rP m r0 E k))) (V4 (W4 (rP m r0 E k))) := by
  show (if _ then _ else _) = _
  rw [if_neg h]
theorem rP_ltl (m a b : Int) (E : List Int) : ∀ k, LtL (W4 (rP m (montV a b) E k))
  | 0 => ltl_mont a b
  | k + 1 => by
    by_cases h : bitE E k = 1
    · rw [rP_a h]; exact ltl_mont _ _
    · rw [rP_b h]; exact ltl_mont _ _
theorem qt {k : Nat} (h : k < 256) : IntKind.i64.wrap (Int.tdiv ((255 : Int) - ((k : Nat) : Int)) 64) = Int.tdiv ((255 : Int) - ((k : Nat) : Int)) 64 ∧ 0 ≤ Int.tdiv ((255 : Int) - ((k : Nat) : Int)) 64 ∧ Int.tdiv ((255 : Int) - ((k : Nat) : Int)) 64 < 4 ∧ 0 ≤ Int.tmod ((255 : Int) - ((k : Nat) : Int)) 64 := by
  rw [Int.tdiv_eq_ediv_of_nonneg (by omega), Int.tmod_eq_emod_of_nonneg (by omega)]
  exact ⟨wrapI (by omega) (by omega), by omega, by omega, by omega⟩
end Go.Proofs.Ytcpoldghkiiggaa.X

/- Printed by a tool of this session. -/
namespace Go.Proofs.Ytcpoldghkiiggaa.X
open Go Go.Proofs
set_option linter.unusedVariables false
set_option linter.unusedSimpArgs false
set_option maxRecDepth 100000
theorem teOQ_25 : TEOk Try.prog 25 ⟨.int .u64, 1, 8, [.i .u64 (0 : Int)], false⟩ :=
  TEOk.of Try.underlying25 (i := Try.t25) (by kernel_rfl) rfl rfl rfl (by kernel_rfl) (fun h => by cases h) (by kernel_rfl)
theorem teOQ_104 : TEOk Try.prog 104 ⟨.array 4 25, 4, 32, [.ints .u64 (4 : Nat) ([0, 0, 0, 0] : List Int)], true⟩ :=
  TEOk.of Try.underlying104 (i := Try.t104) (by kernel_rfl) rfl rfl rfl (by kernel_rfl) (fun _ => Try.eqGuardType104) (by kernel_rfl)
noncomputable def tabOQ : List (Nat × TE) := [(25, ⟨.int .u64, 1, 8, [.i .u64 (0 : Int)], false⟩), (104, ⟨.array 4 25, 4, 32, [.ints .u64 (4 : Nat) ([0, 0, 0, 0] : List Int)], true⟩)]
theorem tabOkOQ : TabOk Try.prog (tabOf tabOQ) := (tabOf_cons teOQ_25 (tabOf_cons teOQ_104 tabOf_nil))

def pwL_mk (S : List Int) (E : List Int) (k : Nat) (s : Unit) : St := ⟨sparse 36 [(0, .o (.g [.ints .u64 (4 : Nat) S])), (1, .o (.g [.ints .u64 (4 : Nat) E])), (2, .o (.a (.p 0 0))), (3, .o (.a (.p 1 0))), (4, .o (.a (.p 2 0))), (5, .o (.a (.p 3 0))), (6, .o (.a (.p 4 0))), (7, .o (.a (.i .i64 ((255 : Int) - ((k : Nat) : Int))))), (8, .o (.g [.ints .u64 (4 : Nat) S])), (9, .o (.g [.ints .u64 (4 : Nat) ([11819153939886771969, 14991950615390032711, 14910419812499177061, 259310039853996605] : List Int)])), (10, .o (.g [.ints .u64 (4 : Nat) (W4 (montV (V4 S) (V4 ([11819153939886771969, 14991950615390032711, 14910419812499177061, 259310039853996605] : List Int))))])), (11, .o (.g [.ints .u64 (4 : Nat) ([1, 0, 0, 0] : List Int)])), (12, .o (.g [.ints .u64 (4 : Nat) ([11819153939886771969, 14991950615390032711, 14910419812499177061, 259310039853996605] : List Int)])), (13, .o (.g [.ints .u64 (4 : Nat) (W4 (montV (V4 ([1, 0, 0, 0] : List Int)) (V4 ([11819153939886771969, 14991950615390032711, 14910419812499177061, 259310039853996605] : List Int))))]))], [some ⟨true, [.ints .u64 (4 : Nat) S]⟩, some ⟨true, [.ints .u64 (4 : Nat) E]⟩, some ⟨true, [.ints .u64 (4 : Nat) ([0, 0, 0, 0] : List Int)]⟩, some ⟨true, [.ints .u64 (4 : Nat) (W4 (montV (V4 S) (V4 ([11819153939886771969, 14991950615390032711, 14910419812499177061, 259310039853996605] : List Int))))]⟩, some ⟨true, [.ints .u64 (4 : Nat) (W4 (rP (montV (V4 S) (V4 ([11819153939886771969, 14991950615390032711, 14910419812499177061, 259310039853996605] : List Int))) (montV (V4 ([1, 0, 0, 0] : List Int)) (V4 ([11819153939886771969, 14991950615390032711, 14910419812499177061, 259310039853996605] : List Int))) E k))]⟩]⟩

def pwL_step (k : Nat) (s : Unit) : Unit :=
  ()

set_option maxHeartbeats 1000000 in
theorem pwL_round_0 (S : List Int) (E : List Int) (h0 : (Wds S)) (h1 : (Wds E)) (hv0 : List.length S = (4 : Nat)) (hv1 : List.length E = (4 : Nat)) (w : World) (k : Nat) (hk : k < (256 : Nat)) (s : Unit) (ha : bitE E k = 1) : Run Try.prog ⟨w, [], 0, noEnv⟩ (loopB Try.f100 0) (pwL_mk S E k s) (To ⟨w, [], 0, noEnv⟩ .normal (pwL_mk S E (k + 1) (pwL_step k s))) := by
  have e0 : (W4 (montV (V4 (W4 (montV (V4 (W4 (rP (montV (V4 S) (V4 ([11819153939886771969, 14991950615390032711, 14910419812499177061, 259310039853996605] : List Int))) (montV (V4 ([1, 0, 0, 0] : List Int)) (V4 ([11819153939886771969, 14991950615390032711, 14910419812499177061, 259310039853996605] : List Int))) E k))) (V4 (W4 (rP (montV (V4 S) (V4 ([11819153939886771969, 14991950615390032711, 14910419812499177061, 259310039853996605] : List Int))) (montV (V4 ([1, 0, 0, 0] : List Int)) (V4 ([11819153939886771969, 14991950615390032711, 14910419812499177061, 259310039853996605] : List Int))) E k)))))) (V4 (W4 (montV (V4 S) (V4 ([11819153939886771969, 14991950615390032711, 14910419812499177061, 259310039853996605] : List Int))))))) = (W4 (rP (montV (V4 S) (V4 ([11819153939886771969, 14991950615390032711, 14910419812499177061, 259310039853996605] : List Int))) (montV (V4 ([1, 0, 0, 0] : List Int)) (V4 ([11819153939886771969, 14991950615390032711, 14910419812499177061, 259310039853996605] : List Int))) E (k + (1 : Nat)))) := (by first | (rw [wrapI (by omega) (by omega)]; omega) | (rw [rP_a ha]))
  have e1 : (IntKind.i64.wrap (((255 : Int) - ((k : Nat) : Int)) - (1 : Int))) = ((255 : Int) - (((k + (1 : Nat)) : Nat) : Int)) := (by first | (rw [wrapI (by omega) (by omega)]; omega) | (rw [rP_a ha]))
  have h := Run.of_outT (B := ⟨w, [], 0, noEnv⟩) (Λ := noLam) (Ψ := noPsi) (fuel := 0) (ora := [true, true]) (c := (loopB Try.f100 0)) (st := (pwL_mk S E k s)) (l := [.forget [0, 1, 2, 3, 4, 5, 6, 7, 8, 9, 10, 11, 12, 13] 5]) (s' := ⟨sparse 36 [(0, .o (.g [.ints .u64 (4 : Nat) S])), (1, .o (.g [.ints .u64 (4 : Nat) E])), (2, .o (.a (.p 0 0))), (3, .o (.a (.p 1 0))), (4, .o (.a (.p 2 0))), (5, .o (.a (.p 3 0))), (6, .o (.a (.p 4 0))), (7, .o (.a (.i .i64 (IntKind.i64.wrap (((255 : Int) - ((k : Nat) : Int)) - (1 : Int)))))), (8, .o (.g [.ints .u64 (4 : Nat) S])), (9, .o (.g [.ints .u64 (4 : Nat) ([11819153939886771969, 14991950615390032711, 14910419812499177061, 259310039853996605] : List Int)])), (10, .o (.g [.ints .u64 (4 : Nat) (W4 (montV (V4 S) (V4 ([11819153939886771969, 14991950615390032711, 14910419812499177061, 259310039853996605] : List Int))))])), (11, .o (.g [.ints .u64 (4 : Nat) ([1, 0, 0, 0] : List Int)])), (12, .o (.g [.ints .u64 (4 : Nat) ([11819153939886771969, 14991950615390032711, 14910419812499177061, 259310039853996605] : List Int)])), (13, .o (.g [.ints .u64 (4 : Nat) (W4 (montV (V4 ([1, 0, 0, 0] : List Int)) (V4 ([11819153939886771969, 14991950615390032711, 14910419812499177061, 259310039853996605] : List Int))))]))], [some ⟨true, [.ints .u64 (4 : Nat) S]⟩, some ⟨true, [.ints .u64 (4 : Nat) E]⟩, some ⟨true, [.ints .u64 (4 : Nat) ([0, 0, 0, 0] : List Int)]⟩, some ⟨true, [.ints .u64 (4 : Nat) (W4 (montV (V4 S) (V4 ([11819153939886771969, 14991950615390032711, 14910419812499177061, 259310039853996605] : List Int))))]⟩, some ⟨true, [.ints .u64 (4 : Nat) (W4 (montV (V4 (W4 (montV (V4 (W4 (rP (montV (V4 S) (V4 ([11819153939886771969, 14991950615390032711, 14910419812499177061, 259310039853996605] : List Int))) (montV (V4 ([1, 0, 0, 0] : List Int)) (V4 ([11819153939886771969, 14991950615390032711, 14910419812499177061, 259310039853996605] : List Int))) E k))) (V4 (W4 (rP (montV (V4 S) (V4 ([11819153939886771969, 14991950615390032711, 14910419812499177061, 259310039853996605] : List Int))) (montV (V4 ([1, 0, 0, 0] : List Int)) (V4 ([11819153939886771969, 14991950615390032711, 14910419812499177061, 259310039853996605] : List Int))) E k)))))) (V4 (W4 (montV (V4 S) (V4 ([11819153939886771969, 14991950615390032711, 14910419812499177061, 259310039853996605] : List Int)))))))]⟩]⟩) (ex := .normal) mix tabOkOQ gam38_ok
    (vc := [((Wds (W4 (montV (V4 (W4 (rP (montV (V4 S) (V4 ([11819153939886771969, 14991950615390032711, 14910419812499177061, 259310039853996605] : List Int))) (montV (V4 ([1, 0, 0, 0] : List Int)) (V4 ([11819153939886771969, 14991950615390032711, 14910419812499177061, 259310039853996605] : List Int))) E k))) (V4 (W4 (rP (montV (V4 S) (V4 ([11819153939886771969, 14991950615390032711, 14910419812499177061, 259310039853996605] : List Int))) (montV (V4 ([1, 0, 0, 0] : List Int)) (V4 ([11819153939886771969, 14991950615390032711, 14910419812499177061, 259310039853996605] : List Int))) E k)))))) ∧ (Wds (W4 (montV (V4 S) (V4 ([11819153939886771969, 14991950615390032711, 14910419812499177061, 259310039853996605] : List Int))))) ∧ (LtL (W4 (montV (V4 S) (V4 ([11819153939886771969, 14991950615390032711, 14910419812499177061, 259310039853996605] : List Int)))))), (((bits2 .and .u64 (shr .u64 (List.getD E (Int.toNat (IntKind.i64.wrap (Int.tdiv ((255 : Int) - ((k : Nat) : Int)) (64 : Int)))) 0) (Int.tmod ((255 : Int) - ((k : Nat) : Int)) (64 : Int))) (1 : Int)) == (1 : Int)) = true), ((0 : Int) ≤ (Int.tmod ((255 : Int) - ((k : Nat) : Int)) (64 : Int))), ((64 : Int) ≠ 0), ((Int.toNat (IntKind.i64.wrap (Int.tdiv ((255 : Int) - ((k : Nat) : Int)) (64 : Int)))) < (4 : Nat)), (((0 : Int) ≤ (IntKind.i64.wrap (Int.tdiv ((255 : Int) - ((k : Nat) : Int)) (64 : Int)))) ∧ ((IntKind.i64.wrap (Int.tdiv ((255 : Int) - ((k : Nat) : Int)) (64 : Int))) < (4 : Int))), ((64 : Int) ≠ 0), ((Wds (W4 (rP (montV (V4 S) (V4 ([11819153939886771969, 14991950615390032711, 14910419812499177061, 259310039853996605] : List Int))) (montV (V4 ([1, 0, 0, 0] : List Int)) (V4 ([11819153939886771969, 14991950615390032711, 14910419812499177061, 259310039853996605] : List Int))) E k))) ∧ (Wds (W4 (rP (montV (V4 S) (V4 ([11819153939886771969, 14991950615390032711, 14910419812499177061, 259310039853996605] : List Int))) (montV (V4 ([1, 0, 0, 0] : List Int)) (V4 ([11819153939886771969, 14991950615390032711, 14910419812499177061, 259310039853996605] : List Int))) E k))) ∧ (LtL (W4 (rP (montV (V4 S) (V4 ([11819153939886771969, 14991950615390032711, 14910419812499177061, 259310039853996605] : List Int))) (montV (V4 ([1, 0, 0, 0] : List Int)) (V4 ([11819153939886771969, 14991950615390032711, 14910419812499177061, 259310039853996605] : List Int))) E k)))), ((decide (((255 : Int) - ((k : Nat) : Int)) ≥ (0 : Int))) = true)]) (by kernel_rfl)
    (AllP_cons ⟨(wds_W4 _), (wds_W4 _), (ltl_mont _ _)⟩ (AllP_cons (beq_iff_eq.2 ha) (AllP_cons (by have q := qt hk; first | omega | exact q.2.2.2 | (rw [q.1]; omega) | (simp (disch := omega) only [wrapI]; omega)) (AllP_cons (by decide) (AllP_cons (by have q := qt hk; first | omega | exact q.2.2.2 | (rw [q.1]; omega) | (simp (disch := omega) only [wrapI]; omega)) (AllP_cons ⟨(by have q := qt hk; first | omega | exact q.2.2.2 | (rw [q.1]; omega) | (simp (disch := omega) only [wrapI]; omega)), (by have q := qt hk; first | omega | exact q.2.2.2 | (rw [q.1]; omega) | (simp (disch := omega) only [wrapI]; omega))⟩ (AllP_cons (by decide) (AllP_cons ⟨(wds_W4 _), (wds_W4 _), (rP_ltl _ _ _ _ _)⟩ (AllP_cons (decide_eq_true (by have q := qt hk; first | omega | exact q.2.2.2 | (rw [q.1]; omega) | (simp (disch := omega) only [wrapI]; omega))) (AllP_nil))))))))))
  rw [e0, e1] at h
  exact h

set_option maxHeartbeats 1000000 in
theorem pwL_round_1 (S : List Int) (E : List Int) (h0 : (Wds S)) (h1 : (Wds E)) (hv0 : List.length S = (4 : Nat)) (hv1 : List.length E = (4 : Nat)) (w : World) (k : Nat) (hk : k < (256 : Nat)) (s : Unit) (ha : ¬ bitE E k = 1) : Run Try.prog ⟨w, [], 0, noEnv⟩ (loopB Try.f100 0) (pwL_mk S E k s) (To ⟨w, [], 0, noEnv⟩ .normal (pwL_mk S E (k + 1) (pwL_step k s))) := by
  have e0 : (W4 (montV (V4 (W4 (rP (montV (V4 S) (V4 ([11819153939886771969, 14991950615390032711, 14910419812499177061, 259310039853996605] : List Int))) (montV (V4 ([1, 0, 0, 0] : List Int)) (V4 ([11819153939886771969, 14991950615390032711, 14910419812499177061, 259310039853996605] : List Int))) E k))) (V4 (W4 (rP (montV (V4 S) (V4 ([11819153939886771969, 14991950615390032711, 14910419812499177061, 259310039853996605] : List Int))) (montV (V4 ([1, 0, 0, 0] : List Int)) (V4 ([11819153939886771969, 14991950615390032711, 14910419812499177061, 259310039853996605] : List Int))) E k))))) = (W4 (rP (montV (V4 S) (V4 ([11819153939886771969, 14991950615390032711, 14910419812499177061, 259310039853996605] : List Int))) (montV (V4 ([1, 0, 0, 0] : List Int)) (V4 ([11819153939886771969, 14991950615390032711, 14910419812499177061, 259310039853996605] : List Int))) E (k + (1 : Nat)))) := (by first | (rw [wrapI (by omega) (by omega)]; omega) | (rw [rP_b ha]))
  have e1 : (IntKind.i64.wrap (((255 : Int) - ((k : Nat) : Int)) - (1 : Int))) = ((255 : Int) - (((k + (1 : Nat)) : Nat) : Int)) := (by first | (rw [wrapI (by omega) (by omega)]; omega) | (rw [rP_b ha]))
  have h := Run.of_outT (B := ⟨w, [], 0, noEnv⟩) (Λ := noLam) (Ψ := noPsi) (fuel := 0) (ora := [true, false]) (c := (loopB Try.f100 0)) (st := (pwL_mk S E k s)) (l := [.forget [0, 1, 2, 3, 4, 5, 6, 7, 8, 9, 10, 11, 12, 13] 5]) (s' := ⟨sparse 36 [(0, .o (.g [.ints .u64 (4 : Nat) S])), (1, .o (.g [.ints .u64 (4 : Nat) E])), (2, .o (.a (.p 0 0))), (3, .o (.a (.p 1 0))), (4, .o (.a (.p 2 0))), (5, .o (.a (.p 3 0))), (6, .o (.a (.p 4 0))), (7, .o (.a (.i .i64 (IntKind.i64.wrap (((255 : Int) - ((k : Nat) : Int)) - (1 : Int)))))), (8, .o (.g [.ints .u64 (4 : Nat) S])), (9, .o (.g [.ints .u64 (4 : Nat) ([11819153939886771969, 14991950615390032711, 14910419812499177061, 259310039853996605] : List Int)])), (10, .o (.g [.ints .u64 (4 : Nat) (W4 (montV (V4 S) (V4 ([11819153939886771969, 14991950615390032711, 14910419812499177061, 259310039853996605] : List Int))))])), (11, .o (.g [.ints .u64 (4 : Nat) ([1, 0, 0, 0] : List Int)])), (12, .o (.g [.ints .u64 (4 : Nat) ([11819153939886771969, 14991950615390032711, 14910419812499177061, 259310039853996605] : List Int)])), (13, .o (.g [.ints .u64 (4 : Nat) (W4 (montV (V4 ([1, 0, 0, 0] : List Int)) (V4 ([11819153939886771969, 14991950615390032711, 14910419812499177061, 259310039853996605] : List Int))))]))], [some ⟨true, [.ints .u64 (4 : Nat) S]⟩, some ⟨true, [.ints .u64 (4 : Nat) E]⟩, some ⟨true, [.ints .u64 (4 : Nat) ([0, 0, 0, 0] : List Int)]⟩, some ⟨true, [.ints .u64 (4 : Nat) (W4 (montV (V4 S) (V4 ([11819153939886771969, 14991950615390032711, 14910419812499177061, 259310039853996605] : List Int))))]⟩, some ⟨true, [.ints .u64 (4 : Nat) (W4 (montV (V4 (W4 (rP (montV (V4 S) (V4 ([11819153939886771969, 14991950615390032711, 14910419812499177061, 259310039853996605] : List Int))) (montV (V4 ([1, 0, 0, 0] : List Int)) (V4 ([11819153939886771969, 14991950615390032711, 14910419812499177061, 259310039853996605] : List Int))) E k))) (V4 (W4 (rP (montV (V4 S) (V4 ([11819153939886771969, 14991950615390032711, 14910419812499177061, 259310039853996605] : List Int))) (montV (V4 ([1, 0, 0, 0] : List Int)) (V4 ([11819153939886771969, 14991950615390032711, 14910419812499177061, 259310039853996605] : List Int))) E k)))))]⟩]⟩) (ex := .normal) mix tabOkOQ gam38_ok
    (vc := [(((bits2 .and .u64 (shr .u64 (List.getD E (Int.toNat (IntKind.i64.wrap (Int.tdiv ((255 : Int) - ((k : Nat) : Int)) (64 : Int)))) 0) (Int.tmod ((255 : Int) - ((k : Nat) : Int)) (64 : Int))) (1 : Int)) == (1 : Int)) = false), ((0 : Int) ≤ (Int.tmod ((255 : Int) - ((k : Nat) : Int)) (64 : Int))), ((64 : Int) ≠ 0), ((Int.toNat (IntKind.i64.wrap (Int.tdiv ((255 : Int) - ((k : Nat) : Int)) (64 : Int)))) < (4 : Nat)), (((0 : Int) ≤ (IntKind.i64.wrap (Int.tdiv ((255 : Int) - ((k : Nat) : Int)) (64 : Int)))) ∧ ((IntKind.i64.wrap (Int.tdiv ((255 : Int) - ((k : Nat) : Int)) (64 : Int))) < (4 : Int))), ((64 : Int) ≠ 0), ((Wds (W4 (rP (montV (V4 S) (V4 ([11819153939886771969, 14991950615390032711, 14910419812499177061, 259310039853996605] : List Int))) (montV (V4 ([1, 0, 0, 0] : List Int)) (V4 ([11819153939886771969, 14991950615390032711, 14910419812499177061, 259310039853996605] : List Int))) E k))) ∧ (Wds (W4 (rP (montV (V4 S) (V4 ([11819153939886771969, 14991950615390032711, 14910419812499177061, 259310039853996605] : List Int))) (montV (V4 ([1, 0, 0, 0] : List Int)) (V4 ([11819153939886771969, 14991950615390032711, 14910419812499177061, 259310039853996605] : List Int))) E k))) ∧ (LtL (W4 (rP (montV (V4 S) (V4 ([11819153939886771969, 14991950615390032711, 14910419812499177061, 259310039853996605] : List Int))) (montV (V4 ([1, 0, 0, 0] : List Int)) (V4 ([11819153939886771969, 14991950615390032711, 14910419812499177061, 259310039853996605] : List Int))) E k)))), ((decide (((255 : Int) - ((k : Nat) : Int)) ≥ (0 : Int))) = true)]) (by kernel_rfl)
    (AllP_cons (beq_eq_false_iff_ne.2 ha) (AllP_cons (by have q := qt hk; first | omega | exact q.2.2.2 | (rw [q.1]; omega) | (simp (disch := omega) only [wrapI]; omega)) (AllP_cons (by decide) (AllP_cons (by have q := qt hk; first | omega | exact q.2.2.2 | (rw [q.1]; omega) | (simp (disch := omega) only [wrapI]; omega)) (AllP_cons ⟨(by have q := qt hk; first | omega | exact q.2.2.2 | (rw [q.1]; omega) | (simp (disch := omega) only [wrapI]; omega)), (by have q := qt hk; first | omega | exact q.2.2.2 | (rw [q.1]; omega) | (simp (disch := omega) only [wrapI]; omega))⟩ (AllP_cons (by decide) (AllP_cons ⟨(wds_W4 _), (wds_W4 _), (rP_ltl _ _ _ _ _)⟩ (AllP_cons (decide_eq_true (by have q := qt hk; first | omega | exact q.2.2.2 | (rw [q.1]; omega) | (simp (disch := omega) only [wrapI]; omega))) (AllP_nil)))))))))
  rw [e0, e1] at h
  exact h

theorem pwL_round (S : List Int) (E : List Int) (h0 : (Wds S)) (h1 : (Wds E)) (hv0 : List.length S = (4 : Nat)) (hv1 : List.length E = (4 : Nat)) (w : World) (k : Nat) (hk : k < (256 : Nat)) (s : Unit) : Run Try.prog ⟨w, [], 0, noEnv⟩ (loopB Try.f100 0) (pwL_mk S E k s) (To ⟨w, [], 0, noEnv⟩ .normal (pwL_mk S E (k + 1) (pwL_step k s))) := by
  by_cases ha : bitE E k = 1
  · exact pwL_round_0 S E h0 h1 hv0 hv1 w k hk s ha
  · exact pwL_round_1 S E h0 h1 hv0 hv1 w k hk s ha

set_option maxHeartbeats 1000000 in
theorem pwL_last (S : List Int) (E : List Int) (h0 : (Wds S)) (h1 : (Wds E)) (hv0 : List.length S = (4 : Nat)) (hv1 : List.length E = (4 : Nat)) (w : World) (s : Unit) : Run Try.prog ⟨w, [], 0, noEnv⟩ (loopB Try.f100 0) (pwL_mk S E (256 : Nat) s) (To ⟨w, [], 0, noEnv⟩ (.exit 0) (pwL_mk S E (256 : Nat) s)) :=
  Run.of_outT (B := ⟨w, [], 0, noEnv⟩) (Λ := noLam) (Ψ := noPsi) (fuel := 0) (ora := [false]) (l := [.forget [0, 1, 2, 3, 4, 5, 6, 7, 8, 9, 10, 11, 12, 13] 5]) mix tabOkOQ gam38_ok
    (vc := [(false = false)]) (by kernel_rfl)
    (AllP_cons rfl (AllP_nil))

theorem pwL_loop (S : List Int) (E : List Int) (h0 : (Wds S)) (h1 : (Wds E)) (hv0 : List.length S = (4 : Nat)) (hv1 : List.length E = (4 : Nat)) (w : World) (s : Unit) : Run Try.prog ⟨w, [], 0, noEnv⟩ (.block 0 (.loop (loopB Try.f100 0))) (pwL_mk S E 0 s) (To ⟨w, [], 0, noEnv⟩ .normal (pwL_mk S E (256 : Nat) (iter (pwL_step) (256 : Nat) s))) :=
  Run.count (fun k => pwL_mk S E k (iter (pwL_step) k s)) (256 : Nat) (fun k hk => pwL_round S E h0 h1 hv0 hv1 w k hk _) (ex := (.exit 0)) (by simp) (pwL_last S E h0 h1 hv0 hv1 w _)

def powA (S : List Int) (E : List Int) : List Int :=
  (W4 (montV (V4 (W4 (rP (montV (V4 S) (V4 ([11819153939886771969, 14991950615390032711, 14910419812499177061, 259310039853996605] : List Int))) (montV (V4 ([1, 0, 0, 0] : List Int)) (V4 ([11819153939886771969, 14991950615390032711, 14910419812499177061, 259310039853996605] : List Int))) E (256 : Nat)))) (V4 ([1, 0, 0, 0] : List Int))))

set_option maxHeartbeats 1000000 in
theorem powA_body0 (S : List Int) (E : List Int) (h0 : (Wds S)) (h1 : (Wds E)) (hv0 : List.length S = (4 : Nat)) (hv1 : List.length E = (4 : Nat)) (w : World) : Body Try.prog (tabOf tabOQ) Try.f100 ⟨w, [], 0, noEnv⟩ (toA [.g [.ints .u64 (4 : Nat) S], .g [.ints .u64 (4 : Nat) E]]) [] (fun ys _ => ys = [.g [.ints .u64 (4 : Nat) (powA S E)]]) :=
  Body.of_fin (Γ := gam38) (Λ := lamOf [(0, ⟨[.forget [0, 1, 2, 3, 4, 5, 6, 7, 8, 9, 10, 11, 12, 13] 5], .normal, (pwL_mk S E (256 : Nat) (iter (pwL_step) (256 : Nat) ()))⟩)]) (Ψ := noPsi) (fuel := 0) (m := 36) (c := (Try.f100.body.getD .skip)) mix tabOkOQ gam38_ok rfl (rs := [.cell 4 104]) rfl rfl [] []
    (vc := [((Wds (W4 (rP (montV (V4 S) (V4 ([11819153939886771969, 14991950615390032711, 14910419812499177061, 259310039853996605] : List Int))) (montV (V4 ([1, 0, 0, 0] : List Int)) (V4 ([11819153939886771969, 14991950615390032711, 14910419812499177061, 259310039853996605] : List Int))) E (256 : Nat)))) ∧ (Wds ([1, 0, 0, 0] : List Int)) ∧ (LtL ([1, 0, 0, 0] : List Int))), (Run Try.prog ⟨w, [], 0, noEnv⟩ (.block 0 (.loop (loopB Try.f100 0))) (pwL_mk S E 0 ()) (To ⟨w, [], 0, noEnv⟩ .normal (pwL_mk S E (256 : Nat) (iter (pwL_step) (256 : Nat) ())))), ((Wds ([1, 0, 0, 0] : List Int)) ∧ (Wds ([11819153939886771969, 14991950615390032711, 14910419812499177061, 259310039853996605] : List Int)) ∧ (LtL ([11819153939886771969, 14991950615390032711, 14910419812499177061, 259310039853996605] : List Int))), ((Wds S) ∧ (Wds ([11819153939886771969, 14991950615390032711, 14910419812499177061, 259310039853996605] : List Int)) ∧ (LtL ([11819153939886771969, 14991950615390032711, 14910419812499177061, 259310039853996605] : List Int)))]) (by kernel_rfl)
    (AllP_cons ⟨(wds_W4 _), wds_one, ltl_one⟩ (AllP_cons (pwL_loop S E h0 h1 hv0 hv1 w ()) (AllP_cons ⟨wds_one, wds_radx, ltl_radx⟩ (AllP_cons ⟨(by assumption), wds_radx, ltl_radx⟩ (AllP_nil)))))

theorem powA_body (S : List Int) (E : List Int) (h0 : (Wds S)) (h1 : (Wds E)) (w : World) : Body Try.prog (tabOf tabOQ) Try.f100 ⟨w, [], 0, noEnv⟩ (toA [.g [.ints .u64 (4 : Nat) S], .g [.ints .u64 (4 : Nat) E]]) [] (fun ys _ => ys = [.g [.ints .u64 (4 : Nat) (powA S E)]]) :=
  Body.lens (c := (Try.f100.body.getD .skip)) rfl fun h => powA_body0 S E h0 h1 (h.vals 0 _ _ _ rfl) (h.vals 1 _ _ _ rfl) w

end Go.Proofs.Ytcpoldghkiiggaa.X

/- A power's words. -/
namespace Go.Proofs.Ytcpoldghkiiggaa.X
open Go Go.Proofs
theorem wds_pow (S E : List Int) : Wds (powA S E) := by unfold powA; exact wds_W4 _
end Go.Proofs.Ytcpoldghkiiggaa.X

/- Printed by a tool of this session. -/
namespace Go.Proofs.Ytcpoldghkiiggaa.X
open Go Go.Proofs
set_option linter.unusedVariables false
set_option linter.unusedSimpArgs false
set_option maxRecDepth 100000
theorem teOS_5 : TEOk Try.prog 5 ⟨.int .u8, 1, 1, [.i .u8 (0 : Int)], false⟩ :=
  TEOk.of Try.underlying5 (i := Try.t5) (by kernel_rfl) rfl rfl rfl (by kernel_rfl) (fun h => by cases h) (by kernel_rfl)
theorem teOS_24 : TEOk Try.prog 24 ⟨.array 32 5, 32, 32, [.ints .u8 (32 : Nat) ([0, 0, 0, 0, 0, 0, 0, 0, 0, 0, 0, 0, 0, 0, 0, 0, 0, 0, 0, 0, 0, 0, 0, 0, 0, 0, 0, 0, 0, 0, 0, 0] : List Int)], true⟩ :=
  TEOk.of Try.underlying24 (i := Try.t24) (by kernel_rfl) rfl rfl rfl (by kernel_rfl) (fun _ => Try.eqGuardType24) (by kernel_rfl)
theorem teOS_25 : TEOk Try.prog 25 ⟨.int .u64, 1, 8, [.i .u64 (0 : Int)], false⟩ :=
  TEOk.of Try.underlying25 (i := Try.t25) (by kernel_rfl) rfl rfl rfl (by kernel_rfl) (fun h => by cases h) (by kernel_rfl)
theorem teOS_104 : TEOk Try.prog 104 ⟨.array 4 25, 4, 32, [.ints .u64 (4 : Nat) ([0, 0, 0, 0] : List Int)], true⟩ :=
  TEOk.of Try.underlying104 (i := Try.t104) (by kernel_rfl) rfl rfl rfl (by kernel_rfl) (fun _ => Try.eqGuardType104) (by kernel_rfl)
noncomputable def tabOS : List (Nat × TE) := [(5, ⟨.int .u8, 1, 1, [.i .u8 (0 : Int)], false⟩), (24, ⟨.array 32 5, 32, 32, [.ints .u8 (32 : Nat) ([0, 0, 0, 0, 0, 0, 0, 0, 0, 0, 0, 0, 0, 0, 0, 0, 0, 0, 0, 0, 0, 0, 0, 0, 0, 0, 0, 0, 0, 0, 0, 0] : List Int)], true⟩), (25, ⟨.int .u64, 1, 8, [.i .u64 (0 : Int)], false⟩), (104, ⟨.array 4 25, 4, 32, [.ints .u64 (4 : Nat) ([0, 0, 0, 0] : List Int)], true⟩)]
theorem tabOkOS : TabOk Try.prog (tabOf tabOS) := (tabOf_cons teOS_5 (tabOf_cons teOS_24 (tabOf_cons teOS_25 (tabOf_cons teOS_104 tabOf_nil))))

theorem powA_pure (S : List Int) (E : List Int) (h0 : (Wds S)) (h1 : (Wds E)) : PureC Try.prog 100 [.g [.ints .u64 (4 : Nat) S], .g [.ints .u64 (4 : Nat) E]] [.g [.ints .u64 (4 : Nat) (powA S E)]] :=
  PureC.of_body tabOkOQ Try.func100 rfl rfl fun w => powA_body S E h0 h1 w

def gam39 : Gam := gpure 100 (fun args => match args with | [.o (.g [.ints .u64 (4 : Nat) S]), .o (.g [.ints .u64 (4 : Nat) E])] => some (some ((Wds S) ∧ (Wds E)), [.g [.ints .u64 (4 : Nat) (powA S E)]]) | _ => none) gam38
theorem gam39_ok : GamOk Try.prog gam39 := gpure_ok gam38_ok Try.call100 (by
  intro args vc xs h hv
  split at h
  · simp only [Option.some.injEq, Prod.mk.injEq] at h; obtain ⟨rfl, rfl⟩ := h; exact ⟨_, by rfl, powA_pure _ _ hv.1 hv.2⟩
  · simp at h)

set_option maxHeartbeats 1000000 in
theorem invA_body0 (a : List Int) (h0 : (Byt a)) (hv0 : List.length a = (32 : Nat)) (hc : W4 (modL (BV a)) = [0, 0, 0, 0]) (w : World) : Body Try.prog (tabOf tabOS) Try.f40 ⟨w, [], 0, noEnv⟩ (toA [.g [.ints .u8 (32 : Nat) a]]) [] (fun ys _ => ys = [.g [.ints .u8 (32 : Nat) ([0, 0, 0, 0, 0, 0, 0, 0, 0, 0, 0, 0, 0, 0, 0, 0, 0, 0, 0, 0, 0, 0, 0, 0, 0, 0, 0, 0, 0, 0, 0, 0] : List Int)], .a (.i .i64 (9 : Int))]) :=
  Body.of_fin (Γ := gam39) (Λ := noLam) (Ψ := noPsi) (fuel := 0) (m := 23) (c := (Try.f40.body.getD .skip)) mix tabOkOS gam39_ok rfl (rs := [.cell 2 24, .tmp 3]) rfl rfl [true] []
    (vc := [((decide ((W4 (modL (BV a))) = ([0, 0, 0, 0] : List Int))) = true), (Byt a)]) (by kernel_rfl)
    (AllP_cons (decide_eq_true hc) (AllP_cons (by assumption) (AllP_nil)))

def invB (a : List Int) : List Int :=
  (B32 (V4 (powA (W4 (modL (BV a))) (W4 (difR (V4 ([6346243789798364141, 1503914060200516822, 0, 1152921504606846976] : List Int)) (V4 ([2, 0, 0, 0] : List Int)))))))

set_option maxHeartbeats 1000000 in
theorem invB_body0 (a : List Int) (h0 : (Byt a)) (hv0 : List.length a = (32 : Nat)) (hc : W4 (modL (BV a)) ≠ [0, 0, 0, 0]) (w : World) : Body Try.prog (tabOf tabOS) Try.f40 ⟨w, [], 0, noEnv⟩ (toA [.g [.ints .u8 (32 : Nat) a]]) [] (fun ys _ => ys = [.g [.ints .u8 (32 : Nat) (invB a)], .a (.i .i64 (0 : Int))]) :=
  Body.of_fin (Γ := gam39) (Λ := noLam) (Ψ := noPsi) (fuel := 0) (m := 23) (c := (Try.f40.body.getD .skip)) mix tabOkOS gam39_ok rfl (rs := [.cell 2 24, .tmp 3]) rfl rfl [false] []
    (vc := [(Wds (powA (W4 (modL (BV a))) (W4 (difR (V4 ([6346243789798364141, 1503914060200516822, 0, 1152921504606846976] : List Int)) (V4 ([2, 0, 0, 0] : List Int)))))), ((Wds (W4 (modL (BV a)))) ∧ (Wds (W4 (difR (V4 ([6346243789798364141, 1503914060200516822, 0, 1152921504606846976] : List Int)) (V4 ([2, 0, 0, 0] : List Int)))))), ((Wds ([6346243789798364141, 1503914060200516822, 0, 1152921504606846976] : List Int)) ∧ (Wds ([2, 0, 0, 0] : List Int))), ((decide ((W4 (modL (BV a))) = ([0, 0, 0, 0] : List Int))) = false), (Byt a)]) (by kernel_rfl)
    (AllP_cons (wds_pow _ _) (AllP_cons ⟨(wds_W4 _), (wds_W4 _)⟩ (AllP_cons ⟨(wds_four (by omega) (by omega) (by omega) (by omega)), (wds_four (by omega) (by omega) (by omega) (by omega))⟩ (AllP_cons (decide_eq_false hc) (AllP_cons (by assumption) (AllP_nil))))))

end Go.Proofs.Ytcpoldghkiiggaa.X

/- Invert, in one form. -/
namespace Go.Proofs.Ytcpoldghkiiggaa.X
open Go Go.Proofs
set_option linter.unusedVariables false

def invL (a : List Int) : List Int := if W4 (modL (BV a)) = [0, 0, 0, 0] then [0, 0, 0, 0, 0, 0, 0, 0, 0, 0, 0, 0, 0, 0, 0, 0, 0, 0, 0, 0, 0, 0, 0, 0, 0, 0, 0, 0, 0, 0, 0, 0] else invB a
def invE (a : List Int) : Int := if W4 (modL (BV a)) = [0, 0, 0, 0] then 9 else 0

theorem inv_can (a : List Int) (h0 : Byt a) (w : World) : Body Try.prog (tabOf tabOS) Try.f40 ⟨w, [], 0, noEnv⟩ (toA [.g [.ints .u8 (32 : Nat) a]]) [] (fun ys _ => ys = [.g [.ints .u8 (32 : Nat) (invL a)], .a (.i .i64 (invE a))]) :=
  Body.lens (c := (Try.f40.body.getD .skip)) rfl fun h => by
    have hl := h.vals 0 _ _ _ rfl
    by_cases hc : W4 (modL (BV a)) = [0, 0, 0, 0]
    · refine (invA_body0 a h0 hl hc w).mono fun xs K hx => ?_
      subst hx
      have e1 : invL a = [0, 0, 0, 0, 0, 0, 0, 0, 0, 0, 0, 0, 0, 0, 0, 0, 0, 0, 0, 0, 0, 0, 0, 0, 0, 0, 0, 0, 0, 0, 0, 0] := by unfold invL; rw [if_pos hc]
      have e2 : invE a = 9 := by unfold invE; rw [if_pos hc]
      rw [e1, e2]
    · refine (invB_body0 a h0 hl hc w).mono fun xs K hx => ?_
      subst hx
      have e1 : invL a = invB a := by unfold invL; rw [if_neg hc]
      have e2 : invE a = 0 := by unfold invE; rw [if_neg hc]
      rw [e1, e2]
end Go.Proofs.Ytcpoldghkiiggaa.X

/- Small bytes. -/
namespace Go.Proofs.Ytcpoldghkiiggaa.X
open Go Go.Proofs
theorem byt_small {s : List Int} (h : (s.all fun x => decide (0 ≤ x ∧ x < 256)) = true) : Byt s := by
  intro x hx
  simpa using List.all_eq_true.1 h x hx
end Go.Proofs.Ytcpoldghkiiggaa.X

/- Printed by a tool of this session. -/
namespace Go.Proofs.Ytcpoldghkiiggaa.X
open Go Go.Proofs
set_option linter.unusedVariables false
set_option linter.unusedSimpArgs false
set_option maxRecDepth 100000
theorem teOV_5 : TEOk Try.prog 5 ⟨.int .u8, 1, 1, [.i .u8 (0 : Int)], false⟩ :=
  TEOk.of Try.underlying5 (i := Try.t5) (by kernel_rfl) rfl rfl rfl (by kernel_rfl) (fun h => by cases h) (by kernel_rfl)
theorem teOV_22 : TEOk Try.prog 22 ⟨.slice 5, 1, 24, [.raw (.slice none 0 0)], false⟩ :=
  TEOk.of Try.underlying22 (i := Try.t22) (by kernel_rfl) rfl rfl rfl (by kernel_rfl) (fun h => by cases h) (by kernel_rfl)
theorem teOV_24 : TEOk Try.prog 24 ⟨.array 32 5, 32, 32, [.ints .u8 (32 : Nat) ([0, 0, 0, 0, 0, 0, 0, 0, 0, 0, 0, 0, 0, 0, 0, 0, 0, 0, 0, 0, 0, 0, 0, 0, 0, 0, 0, 0, 0, 0, 0, 0] : List Int)], true⟩ :=
  TEOk.of Try.underlying24 (i := Try.t24) (by kernel_rfl) rfl rfl rfl (by kernel_rfl) (fun _ => Try.eqGuardType24) (by kernel_rfl)
noncomputable def tabOV : List (Nat × TE) := [(5, ⟨.int .u8, 1, 1, [.i .u8 (0 : Int)], false⟩), (22, ⟨.slice 5, 1, 24, [.raw (.slice none 0 0)], false⟩), (24, ⟨.array 32 5, 32, 32, [.ints .u8 (32 : Nat) ([0, 0, 0, 0, 0, 0, 0, 0, 0, 0, 0, 0, 0, 0, 0, 0, 0, 0, 0, 0, 0, 0, 0, 0, 0, 0, 0, 0, 0, 0, 0, 0] : List Int)], true⟩)]
theorem tabOkOV : TabOk Try.prog (tabOf tabOV) := (tabOf_cons teOV_5 (tabOf_cons teOV_22 (tabOf_cons teOV_24 tabOf_nil)))

theorem invA_pure (a : List Int) (h0 : (Byt a)) : PureC Try.prog 40 [.g [.ints .u8 (32 : Nat) a]] [.g [.ints .u8 (32 : Nat) (invL a)], .a (.i .i64 (invE a))] :=
  PureC.of_body tabOkOS Try.func40 rfl rfl fun w => inv_can a h0 w

def gam40 : Gam := gpure 40 (fun args => match args with | [.o (.g [.ints .u8 (32 : Nat) a])] => some (some ((Byt a)), [.g [.ints .u8 (32 : Nat) (invL a)], .a (.i .i64 (invE a))]) | _ => none) gam39
theorem gam40_ok : GamOk Try.prog gam40 := gpure_ok gam39_ok Try.call40 (by
  intro args vc xs h hv
  split at h
  · simp only [Option.some.injEq, Prod.mk.injEq] at h; obtain ⟨rfl, rfl⟩ := h; exact ⟨_, by rfl, invA_pure _ hv⟩
  · simp at h)

def decZ (b : List Int) : List Int :=
  (sub b (0 : Nat) (32 : Nat))

set_option maxHeartbeats 1000000 in
theorem decZ_body0 (b : List Int) (cp : Nat) (h0 : (Byt (sub b (0 : Nat) (32 : Nat)))) (h1 : ((canP (sub b (0 : Nat) (32 : Nat))) = true)) (hl0_0 : List.length b = (32 : Nat)) (w : World) (rw : List Nat) (β : Env) : Body Try.prog (tabOf tabOV) Try.f15 ⟨w, rw, 1, β⟩ [.o (.a (.sl 0 (0 : Nat) (32 : Nat) cp))] [some ⟨false, [.ints .u8 (32 : Nat) b]⟩] (fun ys K' => ys = [.g [.ints .u8 (32 : Nat) (decZ b)], .a (.i .i64 (0 : Int))] ∧ K' = [some ⟨false, [.ints .u8 (32 : Nat) b]⟩]) :=
  Body.of_finK (Γ := gam40) (Λ := noLam) (Ψ := noPsi) (fuel := 0) (m := 17) (c := (Try.f15.body.getD .skip)) mix tabOkOV gam40_ok rfl (rs := [.cell 2 24, .tmp 3]) rfl rfl [false, false] [] 1
    (vc := [((!(canP (sub b (0 : Nat) (32 : Nat)))) = false), (Byt (sub b (0 : Nat) (32 : Nat))), ((32 : Nat) ≤ (32 : Nat)), ((32 : Nat) ≤ (32 : Nat)), (false = false)]) (by kernel_rfl)
    (AllP_cons (by rw [h1]; rfl) (AllP_cons (by assumption) (AllP_cons (by decide) (AllP_cons (by decide) (AllP_cons rfl (AllP_nil))))))

theorem decZ_body (b : List Int) (cp : Nat) (h0 : (Byt (sub b (0 : Nat) (32 : Nat)))) (h1 : ((canP (sub b (0 : Nat) (32 : Nat))) = true)) (w : World) (rw : List Nat) (β : Env) : Body Try.prog (tabOf tabOV) Try.f15 ⟨w, rw, 1, β⟩ [.o (.a (.sl 0 (0 : Nat) (32 : Nat) cp))] [some ⟨false, [.ints .u8 (32 : Nat) b]⟩] (fun ys K' => ys = [.g [.ints .u8 (32 : Nat) (decZ b)], .a (.i .i64 (0 : Int))] ∧ K' = [some ⟨false, [.ints .u8 (32 : Nat) b]⟩]) :=
  Body.lens (c := (Try.f15.body.getD .skip)) rfl fun h => decZ_body0 b cp h0 h1 (h.lens 0 _ .u8 (32 : Nat) b rfl (by simp)) w rw β

def gam41 : Gam := gcall 15 [false] [.w] (fun wk vs args => match wk, vs, args with | [⟨false, [.ints .u8 (32 : Nat) b]⟩], [], [.o (.a (.sl 0 (0 : Nat) (32 : Nat) cp))] => some ((Byt (sub b (0 : Nat) (32 : Nat))) ∧ ((canP (sub b (0 : Nat) (32 : Nat))) = true), [.g [.ints .u8 (32 : Nat) (decZ b)], .a (.i .i64 (0 : Int))], [some ⟨false, [.ints .u8 (32 : Nat) b]⟩]) | _, _, _ => none) gam40
theorem gam41_ok : GamOk Try.prog gam41 := gcall_ok tabOkOV Try.func15 gam40_ok Try.call15 (by
  intro wk vs args p xs K1 h hv
  split at h
  · simp only [Option.some.injEq, Prod.mk.injEq] at h; obtain ⟨rfl, rfl, rfl⟩ := h; obtain ⟨g0, g1⟩ := hv; exact fun caps w rw β => decZ_body _ _ g0 g1 w rw β
  · simp at h)

set_option maxHeartbeats 1000000 in
theorem works_body0 (w : World) : Body Try.prog (tabOf tabOV) Try.f25 ⟨w, [], 0, noEnv⟩ (toA []) [] (fun ys _ => ys = [.a (.b true)]) :=
  Body.of_fin (Γ := gam41) (Λ := noLam) (Ψ := noPsi) (fuel := 0) (m := 60) (c := (Try.f25.body.getD .skip)) mix tabOkOV gam41_ok rfl (rs := [.tmp 0]) rfl rfl [true, true, true, true, true, true, true, true, true, true, true, true, true, true, true, true, true, true, true, true, true, true, true, true, true, true, true] [.eqS 0 (.o (.a (.b true)))]
    (vc := [((.o (.a (.b (decide ((addP (negP ([1, 0, 0, 0, 0, 0, 0, 0, 0, 0, 0, 0, 0, 0, 0, 0, 0, 0, 0, 0, 0, 0, 0, 0, 0, 0, 0, 0, 0, 0, 0, 0] : List Int)) ([2, 0, 0, 0, 0, 0, 0, 0, 0, 0, 0, 0, 0, 0, 0, 0, 0, 0, 0, 0, 0, 0, 0, 0, 0, 0, 0, 0, 0, 0, 0, 0] : List Int)) = ([1, 0, 0, 0, 0, 0, 0, 0, 0, 0, 0, 0, 0, 0, 0, 0, 0, 0, 0, 0, 0, 0, 0, 0, 0, 0, 0, 0, 0, 0, 0, 0] : List Int))))) : AV) = .o (.a (.b true))), ((decide ((decZ (List.replicate (32 : Nat) (0 : Int))) = ([0, 0, 0, 0, 0, 0, 0, 0, 0, 0, 0, 0, 0, 0, 0, 0, 0, 0, 0, 0, 0, 0, 0, 0, 0, 0, 0, 0, 0, 0, 0, 0] : List Int))) = true), ((decide ((decZ (List.replicate (32 : Nat) (0 : Int))) = ([0, 0, 0, 0, 0, 0, 0, 0, 0, 0, 0, 0, 0, 0, 0, 0, 0, 0, 0, 0, 0, 0, 0, 0, 0, 0, 0, 0, 0, 0, 0, 0] : List Int))) = true), ((decide ((decZ (List.replicate (32 : Nat) (0 : Int))) = ([0, 0, 0, 0, 0, 0, 0, 0, 0, 0, 0, 0, 0, 0, 0, 0, 0, 0, 0, 0, 0, 0, 0, 0, 0, 0, 0, 0, 0, 0, 0, 0] : List Int))) = true), ((Byt (negP ([1, 0, 0, 0, 0, 0, 0, 0, 0, 0, 0, 0, 0, 0, 0, 0, 0, 0, 0, 0, 0, 0, 0, 0, 0, 0, 0, 0, 0, 0, 0, 0] : List Int))) ∧ (Byt ([2, 0, 0, 0, 0, 0, 0, 0, 0, 0, 0, 0, 0, 0, 0, 0, 0, 0, 0, 0, 0, 0, 0, 0, 0, 0, 0, 0, 0, 0, 0, 0] : List Int))), ((decide ((decZ (List.replicate (32 : Nat) (0 : Int))) = ([0, 0, 0, 0, 0, 0, 0, 0, 0, 0, 0, 0, 0, 0, 0, 0, 0, 0, 0, 0, 0, 0, 0, 0, 0, 0, 0, 0, 0, 0, 0, 0] : List Int))) = true), ((decide ((decZ (List.replicate (32 : Nat) (0 : Int))) = ([0, 0, 0, 0, 0, 0, 0, 0, 0, 0, 0, 0, 0, 0, 0, 0, 0, 0, 0, 0, 0, 0, 0, 0, 0, 0, 0, 0, 0, 0, 0, 0] : List Int))) = true), (Byt ([1, 0, 0, 0, 0, 0, 0, 0, 0, 0, 0, 0, 0, 0, 0, 0, 0, 0, 0, 0, 0, 0, 0, 0, 0, 0, 0, 0, 0, 0, 0, 0] : List Int)), ((decide ((decZ (List.replicate (32 : Nat) (0 : Int))) = ([0, 0, 0, 0, 0, 0, 0, 0, 0, 0, 0, 0, 0, 0, 0, 0, 0, 0, 0, 0, 0, 0, 0, 0, 0, 0, 0, 0, 0, 0, 0, 0] : List Int))) = true), ((decide ((decZ (List.replicate (32 : Nat) (0 : Int))) = ([0, 0, 0, 0, 0, 0, 0, 0, 0, 0, 0, 0, 0, 0, 0, 0, 0, 0, 0, 0, 0, 0, 0, 0, 0, 0, 0, 0, 0, 0, 0, 0] : List Int))) = true), (true = true), (true = true), (true = true), (true = true), (((invE ([0, 0, 0, 0, 0, 0, 0, 0, 0, 0, 0, 0, 0, 0, 0, 0, 0, 0, 0, 0, 0, 0, 0, 0, 0, 0, 0, 0, 0, 0, 0, 0] : List Int)) == (9 : Int)) = true), (((invE ([0, 0, 0, 0, 0, 0, 0, 0, 0, 0, 0, 0, 0, 0, 0, 0, 0, 0, 0, 0, 0, 0, 0, 0, 0, 0, 0, 0, 0, 0, 0, 0] : List Int)) == (9 : Int)) = true), (((invE ([0, 0, 0, 0, 0, 0, 0, 0, 0, 0, 0, 0, 0, 0, 0, 0, 0, 0, 0, 0, 0, 0, 0, 0, 0, 0, 0, 0, 0, 0, 0, 0] : List Int)) == (9 : Int)) = true), (((invE ([0, 0, 0, 0, 0, 0, 0, 0, 0, 0, 0, 0, 0, 0, 0, 0, 0, 0, 0, 0, 0, 0, 0, 0, 0, 0, 0, 0, 0, 0, 0, 0] : List Int)) == (9 : Int)) = true), ((decide ((invL ([1, 0, 0, 0, 0, 0, 0, 0, 0, 0, 0, 0, 0, 0, 0, 0, 0, 0, 0, 0, 0, 0, 0, 0, 0, 0, 0, 0, 0, 0, 0, 0] : List Int)) = ([1, 0, 0, 0, 0, 0, 0, 0, 0, 0, 0, 0, 0, 0, 0, 0, 0, 0, 0, 0, 0, 0, 0, 0, 0, 0, 0, 0, 0, 0, 0, 0] : List Int))) = true), ((decide ((invL ([1, 0, 0, 0, 0, 0, 0, 0, 0, 0, 0, 0, 0, 0, 0, 0, 0, 0, 0, 0, 0, 0, 0, 0, 0, 0, 0, 0, 0, 0, 0, 0] : List Int)) = ([1, 0, 0, 0, 0, 0, 0, 0, 0, 0, 0, 0, 0, 0, 0, 0, 0, 0, 0, 0, 0, 0, 0, 0, 0, 0, 0, 0, 0, 0, 0, 0] : List Int))) = true), ((decide ((invL ([1, 0, 0, 0, 0, 0, 0, 0, 0, 0, 0, 0, 0, 0, 0, 0, 0, 0, 0, 0, 0, 0, 0, 0, 0, 0, 0, 0, 0, 0, 0, 0] : List Int)) = ([1, 0, 0, 0, 0, 0, 0, 0, 0, 0, 0, 0, 0, 0, 0, 0, 0, 0, 0, 0, 0, 0, 0, 0, 0, 0, 0, 0, 0, 0, 0, 0] : List Int))) = true), ((decide ((invL ([1, 0, 0, 0, 0, 0, 0, 0, 0, 0, 0, 0, 0, 0, 0, 0, 0, 0, 0, 0, 0, 0, 0, 0, 0, 0, 0, 0, 0, 0, 0, 0] : List Int)) = ([1, 0, 0, 0, 0, 0, 0, 0, 0, 0, 0, 0, 0, 0, 0, 0, 0, 0, 0, 0, 0, 0, 0, 0, 0, 0, 0, 0, 0, 0, 0, 0] : List Int))) = true), (((invE ([1, 0, 0, 0, 0, 0, 0, 0, 0, 0, 0, 0, 0, 0, 0, 0, 0, 0, 0, 0, 0, 0, 0, 0, 0, 0, 0, 0, 0, 0, 0, 0] : List Int)) == (0 : Int)) = true), (((invE ([1, 0, 0, 0, 0, 0, 0, 0, 0, 0, 0, 0, 0, 0, 0, 0, 0, 0, 0, 0, 0, 0, 0, 0, 0, 0, 0, 0, 0, 0, 0, 0] : List Int)) == (0 : Int)) = true), (((invE ([1, 0, 0, 0, 0, 0, 0, 0, 0, 0, 0, 0, 0, 0, 0, 0, 0, 0, 0, 0, 0, 0, 0, 0, 0, 0, 0, 0, 0, 0, 0, 0] : List Int)) == (0 : Int)) = true), (((invE ([1, 0, 0, 0, 0, 0, 0, 0, 0, 0, 0, 0, 0, 0, 0, 0, 0, 0, 0, 0, 0, 0, 0, 0, 0, 0, 0, 0, 0, 0, 0, 0] : List Int)) == (0 : Int)) = true), ((decide ((mulP ([3, 0, 0, 0, 0, 0, 0, 0, 0, 0, 0, 0, 0, 0, 0, 0, 0, 0, 0, 0, 0, 0, 0, 0, 0, 0, 0, 0, 0, 0, 0, 0] : List Int) ([5, 0, 0, 0, 0, 0, 0, 0, 0, 0, 0, 0, 0, 0, 0, 0, 0, 0, 0, 0, 0, 0, 0, 0, 0, 0, 0, 0, 0, 0, 0, 0] : List Int)) = ([15, 0, 0, 0, 0, 0, 0, 0, 0, 0, 0, 0, 0, 0, 0, 0, 0, 0, 0, 0, 0, 0, 0, 0, 0, 0, 0, 0, 0, 0, 0, 0] : List Int))) = true), ((decide ((mulP ([3, 0, 0, 0, 0, 0, 0, 0, 0, 0, 0, 0, 0, 0, 0, 0, 0, 0, 0, 0, 0, 0, 0, 0, 0, 0, 0, 0, 0, 0, 0, 0] : List Int) ([5, 0, 0, 0, 0, 0, 0, 0, 0, 0, 0, 0, 0, 0, 0, 0, 0, 0, 0, 0, 0, 0, 0, 0, 0, 0, 0, 0, 0, 0, 0, 0] : List Int)) = ([15, 0, 0, 0, 0, 0, 0, 0, 0, 0, 0, 0, 0, 0, 0, 0, 0, 0, 0, 0, 0, 0, 0, 0, 0, 0, 0, 0, 0, 0, 0, 0] : List Int))) = true), ((decide ((mulP ([3, 0, 0, 0, 0, 0, 0, 0, 0, 0, 0, 0, 0, 0, 0, 0, 0, 0, 0, 0, 0, 0, 0, 0, 0, 0, 0, 0, 0, 0, 0, 0] : List Int) ([5, 0, 0, 0, 0, 0, 0, 0, 0, 0, 0, 0, 0, 0, 0, 0, 0, 0, 0, 0, 0, 0, 0, 0, 0, 0, 0, 0, 0, 0, 0, 0] : List Int)) = ([15, 0, 0, 0, 0, 0, 0, 0, 0, 0, 0, 0, 0, 0, 0, 0, 0, 0, 0, 0, 0, 0, 0, 0, 0, 0, 0, 0, 0, 0, 0, 0] : List Int))) = true), ((decide ((mulP ([3, 0, 0, 0, 0, 0, 0, 0, 0, 0, 0, 0, 0, 0, 0, 0, 0, 0, 0, 0, 0, 0, 0, 0, 0, 0, 0, 0, 0, 0, 0, 0] : List Int) ([5, 0, 0, 0, 0, 0, 0, 0, 0, 0, 0, 0, 0, 0, 0, 0, 0, 0, 0, 0, 0, 0, 0, 0, 0, 0, 0, 0, 0, 0, 0, 0] : List Int)) = ([15, 0, 0, 0, 0, 0, 0, 0, 0, 0, 0, 0, 0, 0, 0, 0, 0, 0, 0, 0, 0, 0, 0, 0, 0, 0, 0, 0, 0, 0, 0, 0] : List Int))) = true), ((Byt ([3, 0, 0, 0, 0, 0, 0, 0, 0, 0, 0, 0, 0, 0, 0, 0, 0, 0, 0, 0, 0, 0, 0, 0, 0, 0, 0, 0, 0, 0, 0, 0] : List Int)) ∧ (Byt ([5, 0, 0, 0, 0, 0, 0, 0, 0, 0, 0, 0, 0, 0, 0, 0, 0, 0, 0, 0, 0, 0, 0, 0, 0, 0, 0, 0, 0, 0, 0, 0] : List Int))), ((True ∧ True) ∧ ((Byt (sub (List.replicate (32 : Nat) (0 : Int)) (0 : Nat) (32 : Nat))) ∧ ((canP (sub (List.replicate (32 : Nat) (0 : Int)) (0 : Nat) (32 : Nat))) = true))), (((0 : Int) ≤ (32 : Int)) ∧ ((32 : Int) ≤ (32 : Int)) ∧ ((32 : Int) ≤ (281474976710656 : Int))), (Byt ([0, 0, 0, 0, 0, 0, 0, 0, 0, 0, 0, 0, 0, 0, 0, 0, 0, 0, 0, 0, 0, 0, 0, 0, 0, 0, 0, 0, 0, 0, 0, 0] : List Int)), (Byt ([1, 0, 0, 0, 0, 0, 0, 0, 0, 0, 0, 0, 0, 0, 0, 0, 0, 0, 0, 0, 0, 0, 0, 0, 0, 0, 0, 0, 0, 0, 0, 0] : List Int))]) (by kernel_rfl)
    (AllP_cons ((congrArg (fun z => AV.o (.a (.b z))) (by decide +kernel))) (AllP_cons (by decide +kernel) (AllP_cons (by decide +kernel) (AllP_cons (by decide +kernel) (AllP_cons ⟨(byt_small (by decide +kernel)), (byt_small (by decide +kernel))⟩ (AllP_cons (by decide +kernel) (AllP_cons (by decide +kernel) (AllP_cons (byt_small (by decide +kernel)) (AllP_cons (by decide +kernel) (AllP_cons (by decide +kernel) (AllP_cons rfl (AllP_cons rfl (AllP_cons rfl (AllP_cons rfl (AllP_cons (by decide +kernel) (AllP_cons (by decide +kernel) (AllP_cons (by decide +kernel) (AllP_cons (by decide +kernel) (AllP_cons (by decide +kernel) (AllP_cons (by decide +kernel) (AllP_cons (by decide +kernel) (AllP_cons (by decide +kernel) (AllP_cons (by decide +kernel) (AllP_cons (by decide +kernel) (AllP_cons (by decide +kernel) (AllP_cons (by decide +kernel) (AllP_cons (by decide +kernel) (AllP_cons (by decide +kernel) (AllP_cons (by decide +kernel) (AllP_cons (by decide +kernel) (AllP_cons ⟨(byt_small (by decide +kernel)), (byt_small (by decide +kernel))⟩ (AllP_cons ⟨⟨trivial, trivial⟩, ⟨(byt_small (by decide +kernel)), (by decide +kernel)⟩⟩ (AllP_cons ⟨(by decide), (by decide), (by decide)⟩ (AllP_cons (byt_small (by decide +kernel)) (AllP_cons (byt_small (by decide +kernel)) (AllP_nil))))))))))))))))))))))))))))))))))))

theorem works_body (w : World) : Body Try.prog (tabOf tabOV) Try.f25 ⟨w, [], 0, noEnv⟩ (toA []) [] (fun ys _ => ys = [.a (.b true)]) :=
  Body.lens (c := (Try.f25.body.getD .skip)) rfl fun h => works_body0  w

theorem works_pure : PureC Try.prog 25 [] [.a (.b true)] :=
  PureC.of_body tabOkOV Try.func25 rfl rfl fun w => works_body w

def gam42 : Gam := gpure 25 (fun args => match args with | [] => some (none, [.a (.b true)]) | _ => none) gam41
theorem gam42_ok : GamOk Try.prog gam42 := gpure_ok gam41_ok Try.call25 (by
  intro args vc xs h hv
  split at h
  · simp only [Option.some.injEq, Prod.mk.injEq] at h; obtain ⟨rfl, rfl⟩ := h; exact ⟨_, by rfl, works_pure⟩
  · simp at h)

end Go.Proofs.Ytcpoldghkiiggaa.X

/- Primes: Fermat's little theorem, and Pocklington's test. -/
namespace Go.Proofs.Ytcpoldghkiiggaa.X
set_option linter.unusedVariables false

def Prm (p : Nat) : Prop := 2 ≤ p ∧ ∀ d, d ∣ p → d = 1 ∨ d = p

theorem prm_dvd : ∀ n : Nat, 2 ≤ n → ∃ p, Prm p ∧ p ∣ n := by
  intro n
  induction n using Nat.strongRecOn with
  | _ n ih =>
    intro h
    by_cases hp : Prm n
    · exact ⟨n, hp, Nat.dvd_refl n⟩
    · have : ∃ d, d ∣ n ∧ d ≠ 1 ∧ d ≠ n := by
        apply Classical.byContradiction
        intro hn
        exact hp ⟨h, fun d hd => Classical.byContradiction fun hc => hn ⟨d, hd, fun e => hc (.inl e), fun e => hc (.inr e)⟩⟩
      obtain ⟨d, hd, h1, h2⟩ := this
      have hle := Nat.le_of_dvd (by omega) hd
      have h0 : d ≠ 0 := by rintro rfl; have := Nat.eq_zero_of_zero_dvd hd; omega
      obtain ⟨p, hp, hpd⟩ := ih d (by omega) (by omega)
      exact ⟨p, hp, Nat.dvd_trans hpd hd⟩

theorem prm_mul {p a b : Nat} (hp : Prm p) (h : p ∣ a * b) : p ∣ a ∨ p ∣ b := by
  rcases hp.2 (Nat.gcd p a) (Nat.gcd_dvd_left p a) with hg | hg
  · exact .inr ((show Nat.Coprime p a from hg).dvd_of_dvd_mul_left h)
  · exact .inl (hg ▸ Nat.gcd_dvd_right p a)
def chs : Nat → Nat → Nat
  | _, 0 => 1
  | 0, _ + 1 => 0
  | n + 1, k + 1 => chs n k + chs n (k + 1)
theorem chs_0 : ∀ n, chs n 0 = 1
  | 0 => rfl
  | _ + 1 => rfl
theorem chs_s (n k : Nat) : chs (n + 1) (k + 1) = chs n k + chs n (k + 1) := rfl
theorem chs_gt : ∀ n k, n < k → chs n k = 0
  | 0, k + 1, _ => rfl
  | n + 1, k + 1, h => by rw [chs_s, chs_gt n k (by omega), chs_gt n (k + 1) (by omega)]
theorem chs_n : ∀ n, chs n n = 1
  | 0 => rfl
  | n + 1 => by rw [chs_s, chs_n n, chs_gt n (n + 1) (by omega)]
theorem chs_mul : ∀ n k, (k + 1) * chs (n + 1) (k + 1) = (n + 1) * chs n k
  | 0, 0 => rfl
  | 0, k + 1 => by rw [chs_gt 1 (k + 1 + 1) (by omega), chs_gt 0 (k + 1) (by omega), Nat.mul_zero, Nat.mul_zero]
  | n + 1, 0 => by
    have := chs_mul n 0
    rw [chs_0 n] at this
    rw [chs_s (n + 1) 0, chs_0 (n + 1)]
    omega
  | n + 1, k + 1 => by
    have h1 := chs_mul n k
    have h2 := chs_mul n (k + 1)
    rw [chs_s (n + 1) (k + 1)]
    have e : (k + 1 + 1) * (chs (n + 1) (k + 1) + chs (n + 1) (k + 1 + 1)) = (k + 1) * chs (n + 1) (k + 1) + chs (n + 1) (k + 1) + (k + 1 + 1) * chs (n + 1) (k + 1 + 1) := by
      rw [Nat.mul_add, Nat.add_mul (k + 1) 1]; omega
    rw [e, h1, h2, chs_s n k]
    generalize chs n k = u
    generalize chs n (k + 1) = v
    rw [Nat.add_mul (n + 1) 1, Nat.mul_add]; omega
def bsum (n a : Nat) : Nat → Nat
  | 0 => 0
  | m + 1 => bsum n a m + chs n m * a ^ m
theorem bsum_s (n a : Nat) : ∀ m, bsum (n + 1) a (m + 1) = bsum n a (m + 1) + a * bsum n a m
  | 0 => by simp [bsum, chs_0]
  | m + 1 => by
    show bsum (n + 1) a (m + 1) + chs (n + 1) (m + 1) * a ^ (m + 1) = bsum n a (m + 1) + chs n (m + 1) * a ^ (m + 1) + a * (bsum n a m + chs n m * a ^ m)
    rw [bsum_s n a m, chs_s, Nat.add_mul, Nat.mul_add, Nat.pow_succ]
    have : a * (chs n m * a ^ m) = chs n m * (a ^ m * a) := by rw [Nat.mul_left_comm, Nat.mul_comm a]
    omega
theorem bsum_eq (a : Nat) : ∀ n, bsum n a (n + 1) = (a + 1) ^ n
  | 0 => by simp [bsum, chs]
  | n + 1 => by
    rw [bsum_s, Nat.pow_succ, ← bsum_eq a n]
    have : bsum n a (n + 1 + 1) = bsum n a (n + 1) := by
      show bsum n a (n + 1) + chs n (n + 1) * a ^ (n + 1) = _
      rw [chs_gt n (n + 1) (by omega)]; omega
    rw [this, Nat.mul_add, Nat.mul_one, Nat.mul_comm a]; omega
theorem chs_dvd {p k : Nat} (hp : Prm p) (h0 : 0 < k) (h1 : k < p) : p ∣ chs p k := by
  obtain ⟨n, rfl⟩ : ∃ n, p = n + 1 := ⟨p - 1, by omega⟩
  obtain ⟨j, rfl⟩ : ∃ j, k = j + 1 := ⟨k - 1, by omega⟩
  have h := chs_mul n j
  rcases prm_mul hp (show n + 1 ∣ (j + 1) * chs (n + 1) (j + 1) from ⟨_, h⟩) with h | h
  · have := Nat.le_of_dvd (by omega) h; omega
  · exact h
theorem bsum_mod {p : Nat} (hp : Prm p) (a : Nat) : ∀ m, m < p → bsum p a (m + 1) % p = 1 % p
  | 0, _ => by simp [bsum, chs_0]
  | m + 1, h => by
    show (bsum p a (m + 1) + chs p (m + 1) * a ^ (m + 1)) % p = _
    obtain ⟨c, hc⟩ := chs_dvd hp (k := m + 1) (by omega) h
    rw [hc, Nat.mul_assoc, Nat.add_mul_mod_self_left, bsum_mod hp a m (by omega)]
theorem frob {p : Nat} (hp : Prm p) (a : Nat) : (a + 1) ^ p % p = (a ^ p + 1) % p := by
  have h := bsum_eq a p
  have h1 : bsum p a (p + 1) = bsum p a p + chs p p * a ^ p := rfl
  rw [← h, h1, chs_n, Nat.one_mul]
  obtain ⟨n, hn⟩ : ∃ n, p = n + 1 := ⟨p - 1, by have := hp.1; omega⟩
  have h2 := bsum_mod hp a n (by omega)
  rw [← hn] at h2
  rw [Nat.add_mod, h2, ← Nat.add_mod, Nat.add_comm]
theorem flt0 {p : Nat} (hp : Prm p) : ∀ a, a ^ p % p = a % p
  | 0 => by rw [Nat.zero_pow (by have := hp.1; omega)]
  | a + 1 => by rw [frob hp a, Nat.add_mod, flt0 hp a, ← Nat.add_mod]
theorem sub_dvd {p a b : Nat} (h : a % p = b % p) (hab : b ≤ a) : p ∣ a - b := Nat.dvd_of_mod_eq_zero (Nat.sub_mod_eq_zero_of_mod_eq h)
theorem flt {p : Nat} (hp : Prm p) {a : Nat} (h : ¬ p ∣ a) : a ^ (p - 1) % p = 1 := by
  have h1 := flt0 hp a
  have h2 := hp.1
  have ha : 0 < a := by rcases Nat.eq_zero_or_pos a with rfl | h'; exact absurd (Nat.dvd_zero p) h; exact h'
  have e : a ^ p = a * a ^ (p - 1) := by conv => lhs; rw [show p = (p - 1) + 1 by omega, Nat.pow_succ, Nat.mul_comm]
  have hpos : 0 < a ^ (p - 1) := Nat.pow_pos ha
  rw [e] at h1
  have h3 : p ∣ a * a ^ (p - 1) - a := sub_dvd h1 (Nat.le_mul_of_pos_right a hpos)
  have h4 : a * a ^ (p - 1) - a = a * (a ^ (p - 1) - 1) := by rw [Nat.mul_sub, Nat.mul_one]
  rw [h4] at h3
  rcases prm_mul hp h3 with h5 | h5
  · exact absurd h5 h
  · obtain ⟨c, hc⟩ := h5
    have : a ^ (p - 1) = 1 + p * c := by omega
    rw [this, Nat.add_mul_mod_self_left]
    exact Nat.mod_eq_of_lt h2

theorem pow_mod1 {p b m : Nat} (h : b ^ m % p = 1 % p) (k : Nat) : b ^ (m * k) % p = 1 % p := by
  rw [Nat.pow_mul, Nat.pow_mod, h]
  rw [← Nat.pow_mod, Nat.one_pow]
theorem pow_gcd {p b : Nat} (m n : Nat) : b ^ m % p = 1 % p → b ^ n % p = 1 % p → b ^ Nat.gcd m n % p = 1 % p := by
  induction m, n using Nat.gcd.induction with
  | H0 n => intro _ h; rw [Nat.gcd_zero_left]; exact h
  | H1 m n hm ih =>
    intro h1 h2
    rw [Nat.gcd_rec]
    refine ih ?_ h1
    have e : b ^ n = b ^ (m * (n / m)) * b ^ (n % m) := by rw [← Nat.pow_add, Nat.div_add_mod]
    rw [e, Nat.mul_mod, pow_mod1 h1, ← Nat.mul_mod, Nat.one_mul] at h2
    exact h2

/-- what a prime below a candidate must be -/
theorem pock_q {N q r a p : Nat} (hq : Prm q) (hN : N - 1 = q * r) (h1 : a ^ (N - 1) % N = 1 % N) (hg : Nat.gcd (a ^ r % N + (N - 1)) N = 1) (hN0 : 0 < N) (hp : Prm p) (hpN : p ∣ N) : q ∣ p - 1 := by
  have hb : a ^ (N - 1) % p = 1 % p := by
    rw [← Nat.mod_mod_of_dvd _ hpN, h1, Nat.mod_mod_of_dvd _ hpN]
  have hb2 : (a ^ r) ^ q % p = 1 % p := by rw [← Nat.pow_mul, Nat.mul_comm, ← hN]; exact hb
  have hp2 := hp.1
  have hnd : ¬ p ∣ a ^ r := by
    intro hd
    have hq2 := hq.1
    have : p ∣ (a ^ r) ^ q := by
      rw [show q = (q - 1) + 1 by omega, Nat.pow_succ]
      exact Nat.dvd_trans hd (Nat.dvd_mul_left _ _)
    rw [Nat.mod_eq_zero_of_dvd this, Nat.mod_eq_of_lt hp2] at hb2
    exact absurd hb2 (by decide)
  have hf := flt hp hnd
  have hf' : (a ^ r) ^ (p - 1) % p = 1 % p := by rw [hf, Nat.mod_eq_of_lt hp2]
  have hgc := pow_gcd q (p - 1) hb2 hf'
  rcases hq.2 _ (Nat.gcd_dvd_left q (p - 1)) with h | h
  · exfalso
    rw [h, Nat.pow_one] at hgc
    have : p ∣ a ^ r % N + (N - 1) := by
      apply Nat.dvd_of_mod_eq_zero
      rw [Nat.add_mod, Nat.mod_mod_of_dvd _ hpN, hgc, ← Nat.add_mod, Nat.add_comm, Nat.sub_add_cancel hN0]
      exact Nat.mod_eq_zero_of_dvd hpN
    have h3 := Nat.dvd_gcd this hpN
    rw [hg] at h3
    have := Nat.le_of_dvd (by omega) h3
    omega
  · exact h ▸ Nat.gcd_dvd_right q (p - 1)
theorem prm_of_big {N F : Nat} (hN : 2 ≤ N) (hF : N < (F + 1) * (F + 1)) (h : ∀ p, Prm p → p ∣ N → F ∣ p - 1) : Prm N := by
  refine ⟨hN, fun d hd => ?_⟩
  apply Classical.byContradiction
  intro hc
  have big : ∀ d, d ∣ N → d ≠ 1 → F + 1 ≤ d := by
    intro d hd h1
    have hd0 : d ≠ 0 := by rintro rfl; have := Nat.eq_zero_of_zero_dvd hd; omega
    obtain ⟨p, hp, hpd⟩ := prm_dvd d (by omega)
    have := Nat.le_of_dvd (by have := hp.1; omega) (h p hp (Nat.dvd_trans hpd hd))
    have := Nat.le_of_dvd (by omega) hpd
    have := hp.1
    omega
  obtain ⟨e, he⟩ := hd
  have h1 := big d ⟨e, he⟩ (fun h => hc (.inl h))
  have h2 := big e ⟨d, by rw [he, Nat.mul_comm]⟩ (fun h => hc (.inr (by rw [he, h, Nat.mul_one])))
  have := Nat.mul_le_mul h1 h2
  omega
theorem pock1 {N q r a : Nat} (hN2 : 2 ≤ N) (hq : Prm q) (hN : N - 1 = q * r) (h1 : a ^ (N - 1) % N = 1 % N) (hg : Nat.gcd (a ^ r % N + (N - 1)) N = 1) (hF : N < (q + 1) * (q + 1)) : Prm N :=
  prm_of_big hN2 hF fun p hp hpN => pock_q hq hN h1 hg (by omega) hp hpN

/-- powers, reckoned -/
def pwm (N : Nat) : Nat → Nat → Nat → Nat
  | 0, _, _ => 1 % N
  | f + 1, a, e => if e % 2 = 1 then a * pwm N f (a * a % N) (e / 2) % N else pwm N f (a * a % N) (e / 2)
theorem pwm_eq (N : Nat) : ∀ f a e, e < 2 ^ f → pwm N f a e = a ^ e % N
  | 0, a, e, h => by have : e = 0 := by rw [Nat.pow_zero] at h; omega
                     subst this; rfl
  | f + 1, a, e, h => by
    have ih := pwm_eq N f (a * a % N) (e / 2) (by rw [Nat.pow_succ] at h; omega)
    have e2 : (a * a % N) ^ (e / 2) % N = a ^ (2 * (e / 2)) % N := by rw [← Nat.pow_mod, Nat.pow_mul, Nat.pow_two]
    show (if e % 2 = 1 then _ else _) = _
    split
    · rename_i h1
      rw [ih, e2, Nat.mul_mod, Nat.mod_mod, ← Nat.mul_mod]
      rw [Nat.mul_comm a, ← Nat.pow_succ]
      rw [show (2 * (e / 2)).succ = e by omega]
    · rw [ih, e2, show 2 * (e / 2) = e by omega]
def noDiv (n : Nat) : Nat → Nat → Bool
  | 0, d => decide (n < d * d)
  | f + 1, d => decide (n < d * d) || (n % d != 0 && noDiv n f (d + 1))
theorem noDiv_ok {n : Nat} : ∀ f d, noDiv n f d = true → (∀ e, 2 ≤ e → e < d → ¬ e ∣ n) → ∀ e, 2 ≤ e → e * e ≤ n → ¬ e ∣ n
  | 0, d, h, hp, e, h2, hle => by
    have h := of_decide_eq_true h
    refine hp e h2 (Nat.lt_of_not_le fun hc => ?_)
    have := Nat.mul_le_mul hc hc; omega
  | f + 1, d, h, hp, e, h2, hle => by
    simp only [noDiv, Bool.or_eq_true, decide_eq_true_eq, Bool.and_eq_true, bne_iff_ne, ne_eq] at h
    rcases h with h | ⟨h, h'⟩
    · refine hp e h2 (Nat.lt_of_not_le fun hc => ?_)
      have := Nat.mul_le_mul hc hc; omega
    · refine noDiv_ok f (d + 1) h' (fun x hx hx1 => ?_) e h2 hle
      by_cases hxd : x = d
      · subst hxd; exact fun hd => h (Nat.mod_eq_zero_of_dvd hd)
      · exact hp x hx (by omega)
theorem prm_small {n f : Nat} (h2 : 2 ≤ n) (h : noDiv n f 2 = true) : Prm n := by
  have key := noDiv_ok f 2 h (fun e h h' => by omega)
  refine ⟨h2, fun d hd => Classical.byContradiction fun hc => ?_⟩
  obtain ⟨e, he⟩ := hd
  have hd0 : d ≠ 0 := by rintro rfl; omega
  have he0 : e ≠ 0 := by rintro rfl; omega
  have hd1 : d ≠ 1 := fun h => hc (.inl h)
  have he1 : e ≠ 1 := fun h => hc (.inr (by rw [he, h, Nat.mul_one]))
  by_cases hle : d ≤ e
  · exact key d (by omega) (by rw [he]; exact Nat.mul_le_mul_left d hle) ⟨e, he⟩
  · exact key e (by omega) (by rw [he]; exact Nat.mul_le_mul_right e (by omega)) ⟨d, by rw [he, Nat.mul_comm]⟩
/-- a certificate with one prime -/
theorem cert1 {N q r a f : Nat} (hq : Prm q) (hN2 : (decide (2 ≤ N) && (N - 1 == q * r) && decide (N - 1 < 2 ^ f) && (pwm N f a (N - 1) == 1) && (Nat.gcd (pwm N f a r + (N - 1)) N == 1) && decide (N < (q + 1) * (q + 1))) = true) : Prm N := by
  simp only [Bool.and_eq_true, decide_eq_true_eq, beq_iff_eq] at hN2
  obtain ⟨⟨⟨⟨⟨h1, h2⟩, h3⟩, h4⟩, h5⟩, h6⟩ := hN2
  have hr : r < 2 ^ f := by
    have : r ≤ q * r := Nat.le_mul_of_pos_left r (by have := hq.1; omega)
    omega
  rw [pwm_eq N f a _ h3] at h4
  rw [pwm_eq N f a _ hr] at h5
  exact pock1 h1 hq h2 (by rw [h4, Nat.mod_eq_of_lt (by omega)]) h5 h6
theorem prm_cop {p q : Nat} (hp : Prm p) (hq : Prm q) (h : p ≠ q) : Nat.Coprime p q := by
  rcases hp.2 _ (Nat.gcd_dvd_left p q) with hg | hg
  · exact hg
  · exfalso
    have hd : p ∣ q := hg ▸ Nat.gcd_dvd_right p q
    rcases hq.2 p hd with h1 | h1
    · have := hp.1; omega
    · exact h h1
/-- a certificate with two primes -/
theorem cert2 {N q r s t a f : Nat} (hq : Prm q) (hs : Prm s) (hN2 : (decide (2 ≤ N) && (N - 1 == q * r) && decide (N - 1 < 2 ^ f) && (pwm N f a (N - 1) == 1) && (Nat.gcd (pwm N f a r + (N - 1)) N == 1) && decide (N < (q * s + 1) * (q * s + 1)) && (N - 1 == s * t) && (Nat.gcd (pwm N f a t + (N - 1)) N == 1) && (q != s)) = true) : Prm N := by
  simp only [Bool.and_eq_true, decide_eq_true_eq, beq_iff_eq, bne_iff_ne, ne_eq] at hN2
  obtain ⟨⟨⟨⟨⟨⟨⟨⟨h1, h2⟩, h3⟩, h4⟩, h5⟩, h6⟩, h7⟩, h8⟩, h9⟩ := hN2
  have hr : r < 2 ^ f := by
    have : r ≤ q * r := Nat.le_mul_of_pos_left r (by have := hq.1; omega)
    omega
  have ht : t < 2 ^ f := by
    have : t ≤ s * t := Nat.le_mul_of_pos_left t (by have := hs.1; omega)
    omega
  rw [pwm_eq N f a _ h3] at h4
  rw [pwm_eq N f a _ hr] at h5
  rw [pwm_eq N f a _ ht] at h8
  have h4' : a ^ (N - 1) % N = 1 % N := by rw [h4, Nat.mod_eq_of_lt (by omega)]
  exact prm_of_big h1 h6 fun p hp hpN => (prm_cop hq hs h9).mul_dvd_of_dvd_of_dvd (pock_q hq h2 h4' h5 (by omega) hp hpN) (pock_q hs h7 h4' h8 (by omega) hp hpN)
end Go.Proofs.Ytcpoldghkiiggaa.X

/- The order of the group is a prime number. -/
namespace Go.Proofs.Ytcpoldghkiiggaa.X
set_option linter.unusedVariables false
set_option maxRecDepth 100000

theorem prm_s531581 : Prm 531581 := prm_small (f := 732) (by decide) (by decide +kernel)
theorem prm_s1224481 : Prm 1224481 := prm_small (f := 1109) (by decide) (by decide +kernel)
theorem prm_5 : Prm 1257559732178653 := cert2 (q := 531581) (r := 2365697292) (s := 1224481) (t := 1027014492) (a := 2) (f := 51) prm_s531581 prm_s1224481 (by decide +kernel)
theorem prm_4 : Prm 4434155615661930479 := cert1 (q := 1257559732178653) (r := 3526) (a := 2) (f := 62) prm_5 (by decide +kernel)
theorem prm_3 : Prm 172054593956031949258510691 := cert1 (q := 4434155615661930479) (r := 38802110) (a := 2) (f := 88) prm_4 (by decide +kernel)
theorem prm_2 : Prm 19757330305831588566944191468367130476339 := cert1 (q := 172054593956031949258510691) (r := 114831751082918) (a := 2) (f := 134) prm_3 (by decide +kernel)
theorem prm_1 : Prm 276602624281642239937218680557139826668747 := cert1 (q := 19757330305831588566944191468367130476339) (r := 14) (a := 2) (f := 138) prm_2 (by decide +kernel)
theorem prm_0 : Prm 7237005577332262213973186563042994240857116359379907606001950938285454250989 := cert1 (q := 276602624281642239937218680557139826668747) (r := 26163907866482859529727157400808004) (a := 2) (f := 253) prm_1 (by decide +kernel)
theorem LL_toNat : LL.toNat = 7237005577332262213973186563042994240857116359379907606001950938285454250989 := by decide +kernel
theorem prm_L : Prm LL.toNat := by rw [LL_toNat]; exact prm_0
/-- Fermat, for the scalars -/
theorem fermat_L {x : Int} (h0 : 0 ≤ x) (h : x % LL ≠ 0) : x ^ (LL.toNat - 1) % LL = 1 := by
  obtain ⟨n, rfl⟩ := Int.eq_ofNat_of_zero_le h0
  have hL : ((LL.toNat : Nat) : Int) = LL := by decide +kernel
  have hnd : ¬ LL.toNat ∣ n := by
    intro hd
    apply h
    rw [← hL]
    exact Int.emod_eq_zero_of_dvd (Int.ofNat_dvd.2 hd)
  have hf := flt prm_L hnd
  generalize LL.toNat - 1 = e at hf ⊢
  rw [← hL, ← Int.natCast_pow, ← Int.natCast_emod, hf]
  rfl
end Go.Proofs.Ytcpoldghkiiggaa.X

/- Powers, as numbers. -/
namespace Go.Proofs.Ytcpoldghkiiggaa.X
open Go Go.Proofs
set_option linter.unusedVariables false
set_option maxRecDepth 100000

theorem montR (u v : Int) : montV (modL (u * 115792089237316195423570985008687907853269984665640564039457584007913129639936)) (modL (v * 115792089237316195423570985008687907853269984665640564039457584007913129639936)) = modL (u * v * 115792089237316195423570985008687907853269984665640564039457584007913129639936) := by
  have e : montV (modL (u * 115792089237316195423570985008687907853269984665640564039457584007913129639936)) (modL (v * 115792089237316195423570985008687907853269984665640564039457584007913129639936)) = modL ((u * 115792089237316195423570985008687907853269984665640564039457584007913129639936) * (v * 115792089237316195423570985008687907853269984665640564039457584007913129639936) * RI) := by
    show modL (modL _ * modL _ * RI) = _
    generalize (u * 115792089237316195423570985008687907853269984665640564039457584007913129639936) = x
    generalize (v * 115792089237316195423570985008687907853269984665640564039457584007913129639936) = y
    rw [← modL_mul (modL x * modL y), modL_mul x y, modL_mul]
  rw [e]
  have h : (115792089237316195423570985008687907853269984665640564039457584007913129639936 : Int) * RI = 1 + LL * 71336056475231800826343715077027849978041630819377026201054086228062141447707 := by decide +kernel
  have e2 : (u * 115792089237316195423570985008687907853269984665640564039457584007913129639936) * (v * 115792089237316195423570985008687907853269984665640564039457584007913129639936) * RI = u * v * 115792089237316195423570985008687907853269984665640564039457584007913129639936 + LL * (u * v * 115792089237316195423570985008687907853269984665640564039457584007913129639936 * 71336056475231800826343715077027849978041630819377026201054086228062141447707) := by
    have a1 : (u * 115792089237316195423570985008687907853269984665640564039457584007913129639936) * (v * 115792089237316195423570985008687907853269984665640564039457584007913129639936) = u * v * 115792089237316195423570985008687907853269984665640564039457584007913129639936 * 115792089237316195423570985008687907853269984665640564039457584007913129639936 := by
      rw [Int.mul_assoc u, Int.mul_left_comm _ v, ← Int.mul_assoc u v, ← Int.mul_assoc]
    rw [a1, Int.mul_assoc _ _ RI, h, Int.mul_add, Int.mul_one, Int.mul_left_comm]
  rw [e2]
  unfold modL
  rw [Int.add_mul_emod_self_left]

theorem shr64 {x : Int} {s : Nat} (hs : s ≤ 64) : shr .u64 x ((s : Nat) : Int) = x / 2 ^ s := by
  have e2 : shr .u64 x ((s : Nat) : Int) = x.fdiv (2 ^ (min s 64)) := rfl
  rw [e2, Nat.min_eq_left hs, Int.fdiv_eq_ediv_of_nonneg _ (Int.le_of_lt (Int.pow_pos (by omega)))]
theorem bit_and64 (y : Int) : bits2 .and .u64 y 1 = y % 2 := by
  have e : bits2 .and .u64 y 1 = IntKind.u64.wrap (((BitVec.ofInt 64 y &&& BitVec.ofInt 64 1).toNat : Nat) : Int) := rfl
  have t2 : (BitVec.ofInt 64 1).toNat = 2 ^ 1 - 1 := by rfl
  rw [e, BitVec.toNat_and, t2, Nat.and_two_pow_sub_one_eq_mod, BitVec.toNat_ofInt, wrap64]
  show (((y % 18446744073709551616).toNat % 2 ^ 1 : Nat) : Int) % 18446744073709551616 = y % 2
  omega
/-- the bit s of a digit, in the number of the digits -/
theorem bit_of {w r : Int} {s d : Nat} (hs : s < d) : (w + 2 ^ d * r) / 2 ^ s % 2 = w / 2 ^ s % 2 := by
  obtain ⟨c, rfl⟩ : ∃ c, d = s + (c + 1) := ⟨d - s - 1, by omega⟩
  have e : w + 2 ^ (s + (c + 1)) * r = w + 2 ^ s * (2 ^ (c + 1) * r) := by rw [Int.pow_add, Int.mul_assoc]
  rw [e, Int.add_mul_ediv_left _ _ (Int.ne_of_gt (Int.pow_pos (by omega))), Int.pow_succ, Int.mul_comm (2 ^ c), Int.mul_assoc, Int.add_mul_emod_self_left]

theorem bitE_eq {E : List Int} (hE : Wds E) (l : E.length = 4) {k : Nat} (hk : k < 256) : bitE E k = V4 E / 2 ^ (255 - k) % 2 := by
  obtain ⟨a, b, c, d, rfl⟩ := four l
  have ha := hE a (by simp); have hb := hE b (by simp); have hc := hE c (by simp); have hd := hE d (by simp)
  unfold bitE
  rw [(qt hk).1, Int.tdiv_eq_ediv_of_nonneg (by omega), Int.tmod_eq_emod_of_nonneg (by omega)]
  rw [show ((255 : Int) - ((k : Nat) : Int)) / 64 = (((255 - k) / 64 : Nat) : Int) by omega, show ((255 : Int) - ((k : Nat) : Int)) % 64 = (((255 - k) % 64 : Nat) : Int) by omega, Int.toNat_natCast]
  generalize hj : 255 - k = j
  have hjl : j < 256 := by omega
  clear hj hk k
  rw [bit_and64, shr64 (by omega)]
  obtain ⟨i, s, hs, hi, rfl⟩ : ∃ i s, s < 64 ∧ i < 4 ∧ j = 64 * i + s := ⟨j / 64, j % 64, by omega, by omega, by omega⟩
  rw [show (64 * i + s) / 64 = i by omega, show (64 * i + s) % 64 = s by omega, Int.pow_add, ← dd2 _ (Int.le_of_lt (Int.pow_pos (by omega)))]
  match i, hi with
  | 0, _ =>
    have e : V4 [a, b, c, d] / 2 ^ (64 * 0) = a + 2 ^ 64 * (b + 18446744073709551616 * c + 340282366920938463463374607431768211456 * d) := by
      show (a + 18446744073709551616 * b + 340282366920938463463374607431768211456 * c + 6277101735386680763835789423207666416102355444464034512896 * d) / 1 = a + 18446744073709551616 * _
      omega
    rw [e, bit_of hs]; rfl
  | 1, _ =>
    have e : V4 [a, b, c, d] / 2 ^ (64 * 1) = b + 2 ^ 64 * (c + 18446744073709551616 * d) := by
      show (a + 18446744073709551616 * b + 340282366920938463463374607431768211456 * c + 6277101735386680763835789423207666416102355444464034512896 * d) / 18446744073709551616 = b + 18446744073709551616 * _
      omega
    rw [e, bit_of hs]; rfl
  | 2, _ =>
    have e : V4 [a, b, c, d] / 2 ^ (64 * 2) = c + 2 ^ 64 * d := by
      show (a + 18446744073709551616 * b + 340282366920938463463374607431768211456 * c + 6277101735386680763835789423207666416102355444464034512896 * d) / 340282366920938463463374607431768211456 = c + 18446744073709551616 * _
      omega
    rw [e, bit_of hs]; rfl
  | 3, _ =>
    have e : V4 [a, b, c, d] / 2 ^ (64 * 3) = d + 2 ^ 64 * 0 := by
      show (a + 18446744073709551616 * b + 340282366920938463463374607431768211456 * c + 6277101735386680763835789423207666416102355444464034512896 * d) / 6277101735386680763835789423207666416102355444464034512896 = d + 18446744073709551616 * 0
      omega
    rw [e, bit_of hs]; rfl

theorem modL_pow (x : Int) : ∀ n : Nat, modL (modL x ^ n) = modL (x ^ n)
  | 0 => by rw [Int.pow_zero, Int.pow_zero]
  | n + 1 => by rw [Int.pow_succ, Int.pow_succ, ← modL_mul, modL_pow x n, ← modL_mul (x ^ n) x, show modL (modL x) = modL x from Int.emod_emod_of_dvd _ (Int.dvd_refl LL)]

/-- one round of squaring -/
def sqr (x : Int) (n : Nat) : Int := modL (x ^ n * 115792089237316195423570985008687907853269984665640564039457584007913129639936)
theorem sqr_sq (x : Int) (n : Nat) : montV (sqr x n) (sqr x n) = sqr x (2 * n) := by
  unfold sqr; rw [montR, ← Int.pow_add, show 2 * n = n + n by omega]
theorem sqr_mul (x : Int) (n : Nat) : montV (sqr x n) (modL (x * 115792089237316195423570985008687907853269984665640564039457584007913129639936)) = sqr x (n + 1) := by
  unfold sqr; rw [montR, Int.pow_succ]
theorem sqr_V (x : Int) (n : Nat) : V4 (W4 (sqr x n)) = sqr x n := V4_modL _
theorem half_pow (n k : Nat) (hk : k < 256) : n / 2 ^ (256 - (k + 1)) = 2 * (n / 2 ^ (256 - k)) + n / 2 ^ (256 - (k + 1)) % 2 := by
  rw [show 256 - k = (256 - (k + 1)) + 1 by omega, Nat.pow_succ, ← Nat.div_div_eq_div_mul]
  omega
theorem rP_eq {E : List Int} (hE : Wds E) (l : E.length = 4) (x : Int) {n : Nat} (hn : V4 E = ((n : Nat) : Int)) : ∀ k, k ≤ 256 → rP (modL (x * 115792089237316195423570985008687907853269984665640564039457584007913129639936)) (sqr x 0) E k = sqr x (n / 2 ^ (256 - k))
  | 0, _ => by
    have hr := (V4_rng hE l).2
    rw [hn] at hr
    have : n < 2 ^ 256 := by
      have e : (2 : Nat) ^ 256 = 115792089237316195423570985008687907853269984665640564039457584007913129639936 := by decide +kernel
      omega
    rw [Nat.div_eq_of_lt this]; rfl
  | k + 1, hk => by
    have ih := rP_eq hE l x hn k (by omega)
    have hb := bitE_eq hE l (show k < 256 by omega)
    have hb2 : bitE E k = ((n / 2 ^ (256 - (k + 1)) % 2 : Nat) : Int) := by
      rw [hb, hn, show 255 - k = 256 - (k + 1) by omega, Int.natCast_emod, Int.natCast_ediv, Int.natCast_pow]; rfl
    have hp := half_pow n k (by omega)
    by_cases hc : bitE E k = 1
    · rw [rP_a hc, ih, sqr_V, sqr_sq, sqr_V, V4_modL, sqr_mul]
      rw [hb2] at hc
      rw [hp]; congr 2; omega
    · rw [rP_b hc, ih, sqr_V, sqr_sq]
      rw [hb2] at hc
      rw [hp]; congr 1; omega

theorem montI (x : Int) : montV x 1627715501170711445284395025044413883736156588369414752970002579683115011841 = modL (x * 115792089237316195423570985008687907853269984665640564039457584007913129639936) := by
  have h : (1627715501170711445284395025044413883736156588369414752970002579683115011841 : Int) * RI = 115792089237316195423570985008687907853269984665640564039457584007913129639936 + LL * (1627715501170711445284395025044413883736156588369414752970002579683115011841 * RI / LL - 115792089237316195423570985008687907853269984665640564039457584007913129639936 / LL) := by decide +kernel
  show x * _ * RI % LL = _
  rw [Int.mul_assoc, h, Int.mul_add, Int.mul_left_comm, Int.add_mul_emod_self_left]; rfl
theorem mont1 (x : Int) : montV (modL (x * 115792089237316195423570985008687907853269984665640564039457584007913129639936)) 1 = modL x := by
  have h : (115792089237316195423570985008687907853269984665640564039457584007913129639936 : Int) * RI = 1 + LL * 71336056475231800826343715077027849978041630819377026201054086228062141447707 := by decide +kernel
  show modL (modL _ * 1 * RI) = _
  rw [Int.mul_one, ← modL_mul, show ∀ y, modL (modL y) = modL y from fun y => Int.emod_emod_of_dvd _ (Int.dvd_refl LL), modL_mul, Int.mul_assoc, h, Int.mul_add, Int.mul_one, Int.mul_left_comm]
  unfold modL
  rw [Int.add_mul_emod_self_left]
theorem V4_one : V4 [1, 0, 0, 0] = 1 := by decide +kernel
theorem pow_num {E : List Int} (hE : Wds E) (l : E.length = 4) {x : Int} (h0 : 0 ≤ x) (h1 : x < LL) {n : Nat} (hn : V4 E = ((n : Nat) : Int)) : powA (W4 x) E = W4 (modL (x ^ n)) := by
  unfold powA
  rw [V4_radx, V4_one, montI, montI, V4_W4 h0 (by unfold LL at h1; omega)]
  have e : modL (1 * 115792089237316195423570985008687907853269984665640564039457584007913129639936) = sqr x 0 := by unfold sqr; rw [Int.pow_zero]
  rw [e, rP_eq hE l x hn 256 (Nat.le_refl _), sqr_V, Nat.sub_self, Nat.pow_zero, Nat.div_one]
  unfold sqr
  rw [mont1]
def eInv : Nat := LL.toNat - 2
theorem V4_inv : V4 (W4 (difR (V4 [6346243789798364141, 1503914060200516822, 0, 1152921504606846976]) (V4 [2, 0, 0, 0]))) = ((eInv : Nat) : Int) := by decide +kernel
theorem invB_num (a : List Int) : invB a = B32 (modL (BV a ^ eInv)) := by
  unfold invB
  rw [pow_num (wds_W4 _) rfl (modL_rng (BV a)).1 (modL_rng (BV a)).2.1 V4_inv, V4_modL, modL_pow]
theorem inv_zero {a : List Int} : W4 (modL (BV a)) = [0, 0, 0, 0] ↔ modL (BV a) = 0 := W4_zero (modL_rng _).1 (modL_rng _).2.2
end Go.Proofs.Ytcpoldghkiiggaa.X

/- The scalars' functions, by numbers. -/
namespace Go.Proofs.Ytcpoldghkiiggaa.X
open Go Go.Proofs
set_option linter.unusedVariables false
set_option maxRecDepth 100000

theorem addP_num (a b : List Int) (h0 : Byt a) (h1 : Byt b) (w : World) : Body Try.prog (tabOf tabNT) Try.f26 ⟨w, [], 0, noEnv⟩ (toA [.g [.ints .u8 (32 : Nat) a], .g [.ints .u8 (32 : Nat) b]]) [] (fun ys _ => ys = [.g [.ints .u8 (32 : Nat) (B32 (modL (BV a + BV b)))]]) := addP_eq a b ▸ addP_body a b h0 h1 w
theorem negP_num (a : List Int) (h0 : Byt a) (w : World) : Body Try.prog (tabOf tabNT) Try.f30 ⟨w, [], 0, noEnv⟩ (toA [.g [.ints .u8 (32 : Nat) a]]) [] (fun ys _ => ys = [.g [.ints .u8 (32 : Nat) (B32 (modL (negI (BV a))))]]) := negP_eq a ▸ negP_body a h0 w
theorem mulP_num (a b : List Int) (h0 : Byt a) (h1 : Byt b) (w : World) : Body Try.prog (tabOf tabNT) Try.f32 ⟨w, [], 0, noEnv⟩ (toA [.g [.ints .u8 (32 : Nat) a], .g [.ints .u8 (32 : Nat) b]]) [] (fun ys _ => ys = [.g [.ints .u8 (32 : Nat) (B32 (modL (BV a * BV b)))]]) := mulP_eq a b ▸ mulP_body a b h0 h1 w
theorem canP_eq {a : List Int} (h : Byt a) : canP a = decide (BV a < LL) := by
  have r := BV_rng h
  unfold canP lessC
  rw [V4_W4 r.1 r.2, V4_ord]
  by_cases hc : BV a < LL <;> simp [hc]
theorem canP_num (a : List Int) (h0 : Byt a) (w : World) : Body Try.prog (tabOf tabNT) Try.f20 ⟨w, [], 0, noEnv⟩ (toA [.g [.ints .u8 (32 : Nat) a]]) [] (fun ys _ => ys = [.a (.b (decide (BV a < LL)))]) := by
  rw [← canP_eq h0]; exact canP_body a h0 w
def invN (x : Int) : Int := if modL x = 0 then 0 else modL (x ^ eInv)
def invE1 (x : Int) : Int := if modL x = 0 then 9 else 0
theorem invL_num (a : List Int) : invL a = B32 (invN (BV a)) := by
  unfold invL invN
  by_cases h : modL (BV a) = 0
  · rw [if_pos (inv_zero.2 h), if_pos h, B32_0]
  · rw [if_neg (fun hc => h (inv_zero.1 hc)), if_neg h, invB_num]
theorem invE_num (a : List Int) : invE a = invE1 (BV a) := by
  unfold invE invE1
  by_cases h : modL (BV a) = 0
  · rw [if_pos (inv_zero.2 h), if_pos h]
  · rw [if_neg (fun hc => h (inv_zero.1 hc)), if_neg h]
theorem inv_num (a : List Int) (h0 : Byt a) (w : World) : Body Try.prog (tabOf tabOS) Try.f40 ⟨w, [], 0, noEnv⟩ (toA [.g [.ints .u8 (32 : Nat) a]]) [] (fun ys _ => ys = [.g [.ints .u8 (32 : Nat) (B32 (invN (BV a)))], .a (.i .i64 (invE1 (BV a)))]) :=
  invL_num a ▸ invE_num a ▸ inv_can a h0 w
/-! the reference -/
end Go.Proofs.Ytcpoldghkiiggaa.X

/- Texts of this session, put together (part 3). -/
/- Printed by a tool of this session. -/
namespace Go.Proofs.Ytcpoldghkiiggaa.X
open Go Go.Proofs
set_option linter.unusedVariables false
set_option linter.unusedSimpArgs false
set_option maxRecDepth 100000
theorem addP_num_pure (a : List Int) (b : List Int) (h0 : (Byt a)) (h1 : (Byt b)) : PureC Try.prog 26 [.g [.ints .u8 (32 : Nat) a], .g [.ints .u8 (32 : Nat) b]] [.g [.ints .u8 (32 : Nat) (B32 (modL ((BV a) + (BV b))))]] :=
  PureC.of_body tabOkNT Try.func26 rfl rfl fun w => addP_num a b h0 h1 w

def gam43 : Gam := gpure 26 (fun args => match args with | [.o (.g [.ints .u8 (32 : Nat) a]), .o (.g [.ints .u8 (32 : Nat) b])] => some (some ((Byt a) ∧ (Byt b)), [.g [.ints .u8 (32 : Nat) (B32 (modL ((BV a) + (BV b))))]]) | _ => none) gam42
theorem gam43_ok : GamOk Try.prog gam43 := gpure_ok gam42_ok Try.call26 (by
  intro args vc xs h hv
  split at h
  · simp only [Option.some.injEq, Prod.mk.injEq] at h; obtain ⟨rfl, rfl⟩ := h; exact ⟨_, by rfl, addP_num_pure _ _ hv.1 hv.2⟩
  · simp at h)

theorem negP_num_pure (a : List Int) (h0 : (Byt a)) : PureC Try.prog 30 [.g [.ints .u8 (32 : Nat) a]] [.g [.ints .u8 (32 : Nat) (B32 (modL (negI (BV a))))]] :=
  PureC.of_body tabOkNT Try.func30 rfl rfl fun w => negP_num a h0 w

def gam45 : Gam := gpure 30 (fun args => match args with | [.o (.g [.ints .u8 (32 : Nat) a])] => some (some ((Byt a)), [.g [.ints .u8 (32 : Nat) (B32 (modL (negI (BV a))))]]) | _ => none) gam43
theorem gam45_ok : GamOk Try.prog gam45 := gpure_ok gam43_ok Try.call30 (by
  intro args vc xs h hv
  split at h
  · simp only [Option.some.injEq, Prod.mk.injEq] at h; obtain ⟨rfl, rfl⟩ := h; exact ⟨_, by rfl, negP_num_pure _ hv⟩
  · simp at h)

theorem mulP_num_pure (a : List Int) (b : List Int) (h0 : (Byt a)) (h1 : (Byt b)) : PureC Try.prog 32 [.g [.ints .u8 (32 : Nat) a], .g [.ints .u8 (32 : Nat) b]] [.g [.ints .u8 (32 : Nat) (B32 (modL ((BV a) * (BV b))))]] :=
  PureC.of_body tabOkNT Try.func32 rfl rfl fun w => mulP_num a b h0 h1 w

def gam46 : Gam := gpure 32 (fun args => match args with | [.o (.g [.ints .u8 (32 : Nat) a]), .o (.g [.ints .u8 (32 : Nat) b])] => some (some ((Byt a) ∧ (Byt b)), [.g [.ints .u8 (32 : Nat) (B32 (modL ((BV a) * (BV b))))]]) | _ => none) gam45
theorem gam46_ok : GamOk Try.prog gam46 := gpure_ok gam45_ok Try.call32 (by
  intro args vc xs h hv
  split at h
  · simp only [Option.some.injEq, Prod.mk.injEq] at h; obtain ⟨rfl, rfl⟩ := h; exact ⟨_, by rfl, mulP_num_pure _ _ hv.1 hv.2⟩
  · simp at h)

theorem canP_num_pure (a : List Int) (h0 : (Byt a)) : PureC Try.prog 20 [.g [.ints .u8 (32 : Nat) a]] [.a (.b (decide ((BV a) < (LL))))] :=
  PureC.of_body tabOkNT Try.func20 rfl rfl fun w => canP_num a h0 w

def gam49 : Gam := gpure 20 (fun args => match args with | [.o (.g [.ints .u8 (32 : Nat) a])] => some (some ((Byt a)), [.a (.b (decide ((BV a) < (LL))))]) | _ => none) gam46
theorem gam49_ok : GamOk Try.prog gam49 := gpure_ok gam46_ok Try.call20 (by
  intro args vc xs h hv
  split at h
  · simp only [Option.some.injEq, Prod.mk.injEq] at h; obtain ⟨rfl, rfl⟩ := h; exact ⟨_, by rfl, canP_num_pure _ hv⟩
  · simp at h)

theorem inv_num_pure (a : List Int) (h0 : (Byt a)) : PureC Try.prog 40 [.g [.ints .u8 (32 : Nat) a]] [.g [.ints .u8 (32 : Nat) (B32 (invN (BV a)))], .a (.i .i64 (invE1 (BV a)))] :=
  PureC.of_body tabOkOS Try.func40 rfl rfl fun w => inv_num a h0 w

def gam51 : Gam := gpure 40 (fun args => match args with | [.o (.g [.ints .u8 (32 : Nat) a])] => some (some ((Byt a)), [.g [.ints .u8 (32 : Nat) (B32 (invN (BV a)))], .a (.i .i64 (invE1 (BV a)))]) | _ => none) gam49
theorem gam51_ok : GamOk Try.prog gam51 := gpure_ok gam49_ok Try.call40 (by
  intro args vc xs h hv
  split at h
  · simp only [Option.some.injEq, Prod.mk.injEq] at h; obtain ⟨rfl, rfl⟩ := h; exact ⟨_, by rfl, inv_num_pure _ hv⟩
  · simp at h)

end Go.Proofs.Ytcpoldghkiiggaa.X

/- Sums and products modulo the order: what the laws of a field come down to. -/
namespace Go.Proofs.Ytcpoldghkiiggaa.X
open Go Go.Proofs
set_option linter.unusedVariables false
set_option maxRecDepth 100000

theorem not_dec {x y : List Int} (h : x = y) : (!(decide (x = y))) = false := by rw [decide_eq_true h]; rfl
theorem modL_modL (x : Int) : modL (modL x) = modL x := Int.emod_emod_of_dvd _ (Int.dvd_refl LL)
theorem modL_subl (x y : Int) : modL (modL x - y) = modL (x - y) := by unfold modL LL; omega
theorem B32_one : B32 1 = [1, 0, 0, 0, 0, 0, 0, 0, 0, 0, 0, 0, 0, 0, 0, 0, 0, 0, 0, 0, 0, 0, 0, 0, 0, 0, 0, 0, 0, 0, 0, 0] := by decide +kernel
theorem modL_b2 (x : Int) : 0 ≤ modL x ∧ modL x < 115792089237316195423570985008687907853269984665640564039457584007913129639936 := ⟨(modL_rng x).1, (modL_rng x).2.2⟩
end Go.Proofs.Ytcpoldghkiiggaa.X

/- Bytes as a number of any length; its bits; powers by its bits. -/
namespace Go.Proofs.Ytcpoldghkiiggaa.X
open Go Go.Proofs
set_option linter.unusedVariables false
set_option maxRecDepth 100000

/-- the number of bytes, the lowest first -/
def nb : List Int → Nat
  | [] => 0
  | x :: l => x.toNat + 256 * nb l
theorem nb_lt {l : List Int} (h : Byt l) : nb l < 256 ^ l.length := by
  induction l with
  | nil => exact Nat.one_pos
  | cons x l ih =>
    have hx := h x (List.mem_cons_self ..)
    have := ih fun y hy => h y (List.mem_cons_of_mem _ hy)
    show x.toNat + 256 * nb l < 256 ^ (l.length + 1)
    rw [Nat.pow_succ]; omega
theorem nb_div : ∀ (i : Nat) {l : List Int}, Byt l → nb l / 256 ^ i = nb (l.drop i)
  | 0, l, _ => by rw [Nat.pow_zero, Nat.div_one]; rfl
  | i + 1, [], _ => by show 0 / _ = 0; exact Nat.zero_div _
  | i + 1, x :: l, h => by
    have hx := h x (List.mem_cons_self ..)
    show (x.toNat + 256 * nb l) / 256 ^ (i + 1) = nb (l.drop i)
    rw [Nat.pow_succ', ← Nat.div_div_eq_div_mul, show (x.toNat + 256 * nb l) / 256 = nb l by omega]
    exact nb_div i fun y hy => h y (List.mem_cons_of_mem _ hy)
theorem nb_drop {l : List Int} {i : Nat} (hi : i < l.length) : nb (l.drop i) = (List.getD l i 0).toNat + 256 * nb (l.drop (i + 1)) := by
  rw [List.drop_eq_getElem_cons hi, List.getD_eq_getElem?_getD, List.getElem?_eq_getElem hi]; rfl
theorem bit_ofN {w r s d : Nat} (hs : s < d) : (w + 2 ^ d * r) / 2 ^ s % 2 = w / 2 ^ s % 2 := by
  obtain ⟨c, rfl⟩ : ∃ c, d = s + (c + 1) := ⟨d - s - 1, by omega⟩
  have e : w + 2 ^ (s + (c + 1)) * r = w + 2 ^ s * (2 ^ (c + 1) * r) := by rw [Nat.pow_add, Nat.mul_assoc]
  rw [e, Nat.add_mul_div_left _ _ (Nat.pow_pos (by omega)), Nat.pow_succ, Nat.mul_comm (2 ^ c), Nat.mul_assoc, Nat.add_mul_mod_self_left]
theorem nb_bit {l : List Int} (h : Byt l) {i s : Nat} (hi : i < l.length) (hs : s < 8) : nb l / 2 ^ (8 * i + s) % 2 = (List.getD l i 0).toNat / 2 ^ s % 2 := by
  rw [Nat.pow_add, ← Nat.div_div_eq_div_mul, Nat.pow_mul, show (2 : Nat) ^ 8 = 256 from rfl, nb_div i h, nb_drop hi]
  exact bit_ofN (d := 8) hs

theorem shr8n {x : Int} {s : Nat} (hs : s ≤ 8) : shr .u8 x ((s : Nat) : Int) = x / 2 ^ s := by
  have e2 : shr .u8 x ((s : Nat) : Int) = x.fdiv (2 ^ (min s 8)) := rfl
  rw [e2, Nat.min_eq_left hs, Int.fdiv_eq_ediv_of_nonneg _ (Int.le_of_lt (Int.pow_pos (by omega)))]
theorem bit_and8 (y : Int) : bits2 .and .u8 y 1 = y % 2 := by
  have e : bits2 .and .u8 y 1 = IntKind.u8.wrap (((BitVec.ofInt 8 y &&& BitVec.ofInt 8 1).toNat : Nat) : Int) := rfl
  have t2 : (BitVec.ofInt 8 1).toNat = 2 ^ 1 - 1 := by rfl
  rw [e, BitVec.toNat_and, t2, Nat.and_two_pow_sub_one_eq_mod, BitVec.toNat_ofInt, wrap8]
  show (((y % 256).toNat % 2 ^ 1 : Nat) : Int) % 256 = y % 2
  omega
theorem byt_bit {l : List Int} (h : Byt l) {i s : Nat} (hi : i < l.length) (hs : s < 8) : bits2 .and .u8 (shr .u8 (List.getD l i 0) ((s : Nat) : Int)) 1 = ((nb l / 2 ^ (8 * i + s) % 2 : Nat) : Int) := by
  have hx := byt_get h i
  rw [bit_and8, shr8n (by omega), nb_bit h hi hs, Int.natCast_emod, Int.natCast_ediv, Int.natCast_pow, Int.toNat_of_nonneg hx.1]; rfl

/-- the program's bit at round k -/
def bitQ (e : List Int) (n k : Nat) : Int := bits2 .and .u8 (shr .u8 (List.getD e (Int.toNat (IntKind.i64.wrap (Int.tdiv ((((((8 : Nat) * n) : Nat) : Int) - (1 : Int)) - ((k : Nat) : Int)) (8 : Int)))) 0) (Int.tmod ((((((8 : Nat) * n) : Nat) : Int) - (1 : Int)) - ((k : Nat) : Int)) (8 : Int))) (1 : Int)
theorem qt8 {n k : Nat} (hn : n ≤ 140737488351232) (h : k < 8 * n) : IntKind.i64.wrap (Int.tdiv ((((((8 : Nat) * n) : Nat) : Int) - (1 : Int)) - ((k : Nat) : Int)) 8) = (((8 * n - 1 - k) / 8 : Nat) : Int) ∧ Int.tmod ((((((8 : Nat) * n) : Nat) : Int) - (1 : Int)) - ((k : Nat) : Int)) 8 = (((8 * n - 1 - k) % 8 : Nat) : Int) ∧ (8 * n - 1 - k) / 8 < n := by
  rw [Int.tdiv_eq_ediv_of_nonneg (by omega), Int.tmod_eq_emod_of_nonneg (by omega)]
  exact ⟨(wrapI (by omega) (by omega)).trans (by omega), by omega, by omega⟩
theorem bitQ_eq {e : List Int} (he : Byt e) {n k : Nat} (l : e.length = n) (hn : n ≤ 140737488351232) (hk : k < 8 * n) : bitQ e n k = ((nb e / 2 ^ (8 * n - (k + 1)) % 2 : Nat) : Int) := by
  obtain ⟨q1, q2, q3⟩ := qt8 hn hk
  unfold bitQ
  rw [q1, q2, Int.toNat_natCast, byt_bit he (by omega) (by omega)]
  rw [show 8 * ((8 * n - 1 - k) / 8) + (8 * n - 1 - k) % 8 = 8 * n - (k + 1) by omega]
theorem half_nb (m n k : Nat) (hk : k < n) : m / 2 ^ (n - (k + 1)) = 2 * (m / 2 ^ (n - k)) + m / 2 ^ (n - (k + 1)) % 2 := by
  rw [show n - k = (n - (k + 1)) + 1 by omega, Nat.pow_succ, ← Nat.div_div_eq_div_mul]
  omega
/-- what the program holds at round k of a power -/
def pwS (a e : List Int) (n k : Nat) : Int := sqr (BV a) (nb e / 2 ^ (8 * n - k))
def mA (a : List Int) : Int := modL (BV a * 115792089237316195423570985008687907853269984665640564039457584007913129639936)
theorem nb_top {e : List Int} (he : Byt e) {n : Nat} (l : e.length = n) : nb e / 2 ^ (8 * n) = 0 := by
  apply Nat.div_eq_of_lt
  have := nb_lt he
  rw [l] at this
  rwa [Nat.pow_mul]
theorem pwS_0 {a e : List Int} (he : Byt e) {n : Nat} (l : e.length = n) : montV (V4 [1, 0, 0, 0]) (V4 [11819153939886771969, 14991950615390032711, 14910419812499177061, 259310039853996605]) = pwS a e n 0 := by
  unfold pwS
  rw [V4_radx, V4_one, montI, Nat.sub_zero, nb_top he l]; unfold sqr; rw [Int.pow_zero]
theorem mA_eq (a : List Int) : montV (V4 (W4 (modL (BV a)))) (V4 [11819153939886771969, 14991950615390032711, 14910419812499177061, 259310039853996605]) = mA a := by
  rw [V4_radx, V4_modL, montI]
  unfold mA
  rw [← modL_mul, show modL (modL (BV a)) = modL (BV a) from Int.emod_emod_of_dvd _ (Int.dvd_refl LL), modL_mul]
theorem pwS_V (a e : List Int) (n k : Nat) : V4 (W4 (pwS a e n k)) = pwS a e n k := V4_modL _
theorem pwS_a {a e : List Int} (he : Byt e) {n k : Nat} (l : e.length = n) (hn : n ≤ 140737488351232) (hk : k < 8 * n) (h : bitQ e n k = 1) : pwS a e n (k + 1) = montV (V4 (W4 (montV (V4 (W4 (pwS a e n k))) (V4 (W4 (pwS a e n k)))))) (V4 (W4 (mA a))) := by
  rw [bitQ_eq he l hn hk] at h
  rw [pwS_V]
  unfold pwS mA
  rw [sqr_sq, sqr_V, V4_modL, sqr_mul]
  congr 1
  have := half_nb (nb e) (8 * n) k hk
  omega
theorem pwS_b {a e : List Int} (he : Byt e) {n k : Nat} (l : e.length = n) (hn : n ≤ 140737488351232) (hk : k < 8 * n) (h : ¬ bitQ e n k = 1) : pwS a e n (k + 1) = montV (V4 (W4 (pwS a e n k))) (V4 (W4 (pwS a e n k))) := by
  rw [bitQ_eq he l hn hk] at h
  rw [pwS_V]
  unfold pwS
  rw [sqr_sq]
  congr 1
  have := half_nb (nb e) (8 * n) k hk
  omega
theorem pwS_fin (a e : List Int) (n : Nat) : V4 (W4 (montV (V4 (W4 (pwS a e n (8 * n)))) (V4 [1, 0, 0, 0]))) = modL (BV a ^ nb e) := by
  rw [pwS_V, V4_one]
  unfold pwS sqr
  rw [Nat.sub_self, Nat.pow_zero, Nat.div_one, mont1, V4_modL]
theorem ltl_pwS (a e : List Int) (n k : Nat) : LtL (W4 (pwS a e n k)) := ltl_mod _
theorem ltl_mA (a : List Int) : LtL (W4 (mA a)) := ltl_mod _

/-! the reference -/
/-! the number of 32 bytes -/
end Go.Proofs.Ytcpoldghkiiggaa.X

/- Printed by a tool of this session. -/
namespace Go.Proofs.Ytcpoldghkiiggaa.X
open Go Go.Proofs
set_option linter.unusedVariables false
set_option linter.unusedSimpArgs false
set_option maxRecDepth 100000
theorem teQG_5 : TEOk Try.prog 5 ⟨.int .u8, 1, 1, [.i .u8 (0 : Int)], false⟩ :=
  TEOk.of Try.underlying5 (i := Try.t5) (by kernel_rfl) rfl rfl rfl (by kernel_rfl) (fun h => by cases h) (by kernel_rfl)
theorem teQG_22 : TEOk Try.prog 22 ⟨.slice 5, 1, 24, [.raw (.slice none 0 0)], false⟩ :=
  TEOk.of Try.underlying22 (i := Try.t22) (by kernel_rfl) rfl rfl rfl (by kernel_rfl) (fun h => by cases h) (by kernel_rfl)
theorem teQG_24 : TEOk Try.prog 24 ⟨.array 32 5, 32, 32, [.ints .u8 (32 : Nat) ([0, 0, 0, 0, 0, 0, 0, 0, 0, 0, 0, 0, 0, 0, 0, 0, 0, 0, 0, 0, 0, 0, 0, 0, 0, 0, 0, 0, 0, 0, 0, 0] : List Int)], true⟩ :=
  TEOk.of Try.underlying24 (i := Try.t24) (by kernel_rfl) rfl rfl rfl (by kernel_rfl) (fun _ => Try.eqGuardType24) (by kernel_rfl)
theorem teQG_25 : TEOk Try.prog 25 ⟨.int .u64, 1, 8, [.i .u64 (0 : Int)], false⟩ :=
  TEOk.of Try.underlying25 (i := Try.t25) (by kernel_rfl) rfl rfl rfl (by kernel_rfl) (fun h => by cases h) (by kernel_rfl)
theorem teQG_104 : TEOk Try.prog 104 ⟨.array 4 25, 4, 32, [.ints .u64 (4 : Nat) ([0, 0, 0, 0] : List Int)], true⟩ :=
  TEOk.of Try.underlying104 (i := Try.t104) (by kernel_rfl) rfl rfl rfl (by kernel_rfl) (fun _ => Try.eqGuardType104) (by kernel_rfl)
noncomputable def tabQG : List (Nat × TE) := [(5, ⟨.int .u8, 1, 1, [.i .u8 (0 : Int)], false⟩), (22, ⟨.slice 5, 1, 24, [.raw (.slice none 0 0)], false⟩), (24, ⟨.array 32 5, 32, 32, [.ints .u8 (32 : Nat) ([0, 0, 0, 0, 0, 0, 0, 0, 0, 0, 0, 0, 0, 0, 0, 0, 0, 0, 0, 0, 0, 0, 0, 0, 0, 0, 0, 0, 0, 0, 0, 0] : List Int)], true⟩), (25, ⟨.int .u64, 1, 8, [.i .u64 (0 : Int)], false⟩), (104, ⟨.array 4 25, 4, 32, [.ints .u64 (4 : Nat) ([0, 0, 0, 0] : List Int)], true⟩)]
theorem tabOkQG : TabOk Try.prog (tabOf tabQG) := (tabOf_cons teQG_5 (tabOf_cons teQG_22 (tabOf_cons teQG_24 (tabOf_cons teQG_25 (tabOf_cons teQG_104 tabOf_nil)))))

def pgL_mk (a : List Int) (n : Nat) (nm : Nat) (e : List Int) (cap0 : Nat) (k : Nat) (s : Unit) : St := ⟨sparse 43 [(0, .o (.g [.ints .u8 (32 : Nat) a])), (1, .o (.a (.sl 0 (0 : Nat) n cap0))), (2, .o (.a (.p 1 0))), (4, .o (.a (.p 2 0))), (5, .o (.a (.p 3 0))), (6, .o (.a (.p 4 0))), (7, .o (.a (.i .i64 ((((((8 : Nat) * n) : Nat) : Int) - (1 : Int)) - ((k : Nat) : Int))))), (8, .o (.g [.ints .u8 (32 : Nat) a])), (9, .o (.g [.ints .u64 (4 : Nat) (W4 (modL (BV a)))])), (10, .o (.g [.ints .u64 (4 : Nat) ([11819153939886771969, 14991950615390032711, 14910419812499177061, 259310039853996605] : List Int)])), (11, .o (.g [.ints .u64 (4 : Nat) (W4 (montV (V4 (W4 (modL (BV a)))) (V4 ([11819153939886771969, 14991950615390032711, 14910419812499177061, 259310039853996605] : List Int))))])), (12, .o (.g [.ints .u64 (4 : Nat) ([1, 0, 0, 0] : List Int)])), (13, .o (.g [.ints .u64 (4 : Nat) ([11819153939886771969, 14991950615390032711, 14910419812499177061, 259310039853996605] : List Int)])), (14, .o (.g [.ints .u64 (4 : Nat) (W4 (montV (V4 ([1, 0, 0, 0] : List Int)) (V4 ([11819153939886771969, 14991950615390032711, 14910419812499177061, 259310039853996605] : List Int))))])), (15, .o (.a (.sl 0 (0 : Nat) n cap0))), (16, .o (.a (.i .i64 ((n : Nat) : Int)))), (17, .o (.a (.i .i64 (IntKind.i64.wrap (((n : Nat) : Int) * (8 : Int)))))), (18, .o (.a (.i .i64 (IntKind.i64.wrap ((IntKind.i64.wrap (((n : Nat) : Int) * (8 : Int))) - (1 : Int))))))], [some ⟨false, [.ints .u8 nm e]⟩, some ⟨true, [.ints .u8 (32 : Nat) a]⟩, some ⟨true, [.ints .u8 (32 : Nat) ([0, 0, 0, 0, 0, 0, 0, 0, 0, 0, 0, 0, 0, 0, 0, 0, 0, 0, 0, 0, 0, 0, 0, 0, 0, 0, 0, 0, 0, 0, 0, 0] : List Int)]⟩, some ⟨true, [.ints .u64 (4 : Nat) (W4 (mA a))]⟩, some ⟨true, [.ints .u64 (4 : Nat) (W4 (pwS a e n k))]⟩]⟩

def pgL_step (k : Nat) (s : Unit) : Unit :=
  ()

set_option maxHeartbeats 1000000 in
theorem pgL_round_0 (a : List Int) (n : Nat) (nm : Nat) (e : List Int) (cap0 : Nat) (h0 : (nm = n)) (h1 : (n ≤ (140737488351232 : Nat))) (h2 : (Byt e)) (h3 : (Byt a)) (hc0 : n ≤ cap0) (hl0_0 : List.length e = nm) (hv0 : List.length a = (32 : Nat)) (w : World) (β : Env) (k : Nat) (hk : k < ((8 : Nat) * n)) (s : Unit) (ha : bitQ e n k = 1) : Run Try.prog ⟨w, [], 1, β⟩ (loopB Try.f54 0) (pgL_mk a n nm e cap0 k s) (To ⟨w, [], 1, β⟩ .normal (pgL_mk a n nm e cap0 (k + 1) (pgL_step k s))) := by
  have e0 : (IntKind.i64.wrap (((((((8 : Nat) * n) : Nat) : Int) - (1 : Int)) - ((k : Nat) : Int)) - (1 : Int))) = ((((((8 : Nat) * n) : Nat) : Int) - (1 : Int)) - (((k + (1 : Nat)) : Nat) : Int)) := (by first | (rw [wrapI (by omega) (by omega)]; omega) | (rw [pwS_a h2 (hl0_0.trans h0) h1 hk ha]))
  have e1 : (W4 (montV (V4 (W4 (montV (V4 (W4 (pwS a e n k))) (V4 (W4 (pwS a e n k)))))) (V4 (W4 (mA a))))) = (W4 (pwS a e n (k + (1 : Nat)))) := (by first | (rw [wrapI (by omega) (by omega)]; omega) | (rw [pwS_a h2 (hl0_0.trans h0) h1 hk ha]))
  have h := Run.of_outT (B := ⟨w, [], 1, β⟩) (Λ := noLam) (Ψ := noPsi) (fuel := 0) (ora := [true, true]) (c := (loopB Try.f54 0)) (st := (pgL_mk a n nm e cap0 k s)) (l := [.forget [0, 1, 2, 4, 5, 6, 7, 8, 9, 10, 11, 12, 13, 14, 15, 16, 17, 18] 5]) (s' := ⟨sparse 43 [(0, .o (.g [.ints .u8 (32 : Nat) a])), (1, .o (.a (.sl 0 (0 : Nat) n cap0))), (2, .o (.a (.p 1 0))), (4, .o (.a (.p 2 0))), (5, .o (.a (.p 3 0))), (6, .o (.a (.p 4 0))), (7, .o (.a (.i .i64 (IntKind.i64.wrap (((((((8 : Nat) * n) : Nat) : Int) - (1 : Int)) - ((k : Nat) : Int)) - (1 : Int)))))), (8, .o (.g [.ints .u8 (32 : Nat) a])), (9, .o (.g [.ints .u64 (4 : Nat) (W4 (modL (BV a)))])), (10, .o (.g [.ints .u64 (4 : Nat) ([11819153939886771969, 14991950615390032711, 14910419812499177061, 259310039853996605] : List Int)])), (11, .o (.g [.ints .u64 (4 : Nat) (W4 (montV (V4 (W4 (modL (BV a)))) (V4 ([11819153939886771969, 14991950615390032711, 14910419812499177061, 259310039853996605] : List Int))))])), (12, .o (.g [.ints .u64 (4 : Nat) ([1, 0, 0, 0] : List Int)])), (13, .o (.g [.ints .u64 (4 : Nat) ([11819153939886771969, 14991950615390032711, 14910419812499177061, 259310039853996605] : List Int)])), (14, .o (.g [.ints .u64 (4 : Nat) (W4 (montV (V4 ([1, 0, 0, 0] : List Int)) (V4 ([11819153939886771969, 14991950615390032711, 14910419812499177061, 259310039853996605] : List Int))))])), (15, .o (.a (.sl 0 (0 : Nat) n cap0))), (16, .o (.a (.i .i64 ((n : Nat) : Int)))), (17, .o (.a (.i .i64 (IntKind.i64.wrap (((n : Nat) : Int) * (8 : Int)))))), (18, .o (.a (.i .i64 (IntKind.i64.wrap ((IntKind.i64.wrap (((n : Nat) : Int) * (8 : Int))) - (1 : Int))))))], [some ⟨false, [.ints .u8 nm e]⟩, some ⟨true, [.ints .u8 (32 : Nat) a]⟩, some ⟨true, [.ints .u8 (32 : Nat) ([0, 0, 0, 0, 0, 0, 0, 0, 0, 0, 0, 0, 0, 0, 0, 0, 0, 0, 0, 0, 0, 0, 0, 0, 0, 0, 0, 0, 0, 0, 0, 0] : List Int)]⟩, some ⟨true, [.ints .u64 (4 : Nat) (W4 (mA a))]⟩, some ⟨true, [.ints .u64 (4 : Nat) (W4 (montV (V4 (W4 (montV (V4 (W4 (pwS a e n k))) (V4 (W4 (pwS a e n k)))))) (V4 (W4 (mA a)))))]⟩]⟩) (ex := .normal) mix tabOkQG gam51_ok
    (vc := [((Wds (W4 (montV (V4 (W4 (pwS a e n k))) (V4 (W4 (pwS a e n k)))))) ∧ (Wds (W4 (mA a))) ∧ (LtL (W4 (mA a)))), (((bits2 .and .u8 (shr .u8 (List.getD e (Int.toNat (IntKind.i64.wrap (Int.tdiv ((((((8 : Nat) * n) : Nat) : Int) - (1 : Int)) - ((k : Nat) : Int)) (8 : Int)))) 0) (Int.tmod ((((((8 : Nat) * n) : Nat) : Int) - (1 : Int)) - ((k : Nat) : Int)) (8 : Int))) (1 : Int)) == (1 : Int)) = true), ((0 : Int) ≤ (Int.tmod ((((((8 : Nat) * n) : Nat) : Int) - (1 : Int)) - ((k : Nat) : Int)) (8 : Int))), ((8 : Int) ≠ 0), ((Int.toNat (IntKind.i64.wrap (Int.tdiv ((((((8 : Nat) * n) : Nat) : Int) - (1 : Int)) - ((k : Nat) : Int)) (8 : Int)))) < nm), (((0 : Int) ≤ (IntKind.i64.wrap (Int.tdiv ((((((8 : Nat) * n) : Nat) : Int) - (1 : Int)) - ((k : Nat) : Int)) (8 : Int)))) ∧ ((IntKind.i64.wrap (Int.tdiv ((((((8 : Nat) * n) : Nat) : Int) - (1 : Int)) - ((k : Nat) : Int)) (8 : Int))) < ((n : Nat) : Int))), ((8 : Int) ≠ 0), ((Wds (W4 (pwS a e n k))) ∧ (Wds (W4 (pwS a e n k))) ∧ (LtL (W4 (pwS a e n k)))), ((decide (((((((8 : Nat) * n) : Nat) : Int) - (1 : Int)) - ((k : Nat) : Int)) ≥ (0 : Int))) = true)]) (by kernel_rfl)
    (AllP_cons ⟨(wds_W4 _), (wds_W4 _), (ltl_mA _)⟩ (AllP_cons (beq_iff_eq.2 ha) (AllP_cons (by have q := qt8 h1 hk; have q1 := q.1; have q2 := q.2.1; have q3 := q.2.2; first | omega | (rw [q1]; omega) | (rw [q2]; omega) | (simp (disch := omega) only [wrapI]; omega)) (AllP_cons (by decide) (AllP_cons (by have q := qt8 h1 hk; have q1 := q.1; have q2 := q.2.1; have q3 := q.2.2; first | omega | (rw [q1]; omega) | (rw [q2]; omega) | (simp (disch := omega) only [wrapI]; omega)) (AllP_cons ⟨(by have q := qt8 h1 hk; have q1 := q.1; have q2 := q.2.1; have q3 := q.2.2; first | omega | (rw [q1]; omega) | (rw [q2]; omega) | (simp (disch := omega) only [wrapI]; omega)), (by have q := qt8 h1 hk; have q1 := q.1; have q2 := q.2.1; have q3 := q.2.2; first | omega | (rw [q1]; omega) | (rw [q2]; omega) | (simp (disch := omega) only [wrapI]; omega))⟩ (AllP_cons (by decide) (AllP_cons ⟨(wds_W4 _), (wds_W4 _), (ltl_pwS _ _ _ _)⟩ (AllP_cons (decide_eq_true (by have q := qt8 h1 hk; have q1 := q.1; have q2 := q.2.1; have q3 := q.2.2; first | omega | (rw [q1]; omega) | (rw [q2]; omega) | (simp (disch := omega) only [wrapI]; omega))) (AllP_nil))))))))))
  rw [e0, e1] at h
  exact h

set_option maxHeartbeats 1000000 in
theorem pgL_round_1 (a : List Int) (n : Nat) (nm : Nat) (e : List Int) (cap0 : Nat) (h0 : (nm = n)) (h1 : (n ≤ (140737488351232 : Nat))) (h2 : (Byt e)) (h3 : (Byt a)) (hc0 : n ≤ cap0) (hl0_0 : List.length e = nm) (hv0 : List.length a = (32 : Nat)) (w : World) (β : Env) (k : Nat) (hk : k < ((8 : Nat) * n)) (s : Unit) (ha : ¬ bitQ e n k = 1) : Run Try.prog ⟨w, [], 1, β⟩ (loopB Try.f54 0) (pgL_mk a n nm e cap0 k s) (To ⟨w, [], 1, β⟩ .normal (pgL_mk a n nm e cap0 (k + 1) (pgL_step k s))) := by
  have e0 : (IntKind.i64.wrap (((((((8 : Nat) * n) : Nat) : Int) - (1 : Int)) - ((k : Nat) : Int)) - (1 : Int))) = ((((((8 : Nat) * n) : Nat) : Int) - (1 : Int)) - (((k + (1 : Nat)) : Nat) : Int)) := (by first | (rw [wrapI (by omega) (by omega)]; omega) | (rw [pwS_b h2 (hl0_0.trans h0) h1 hk ha]))
  have e1 : (W4 (montV (V4 (W4 (pwS a e n k))) (V4 (W4 (pwS a e n k))))) = (W4 (pwS a e n (k + (1 : Nat)))) := (by first | (rw [wrapI (by omega) (by omega)]; omega) | (rw [pwS_b h2 (hl0_0.trans h0) h1 hk ha]))
  have h := Run.of_outT (B := ⟨w, [], 1, β⟩) (Λ := noLam) (Ψ := noPsi) (fuel := 0) (ora := [true, false]) (c := (loopB Try.f54 0)) (st := (pgL_mk a n nm e cap0 k s)) (l := [.forget [0, 1, 2, 4, 5, 6, 7, 8, 9, 10, 11, 12, 13, 14, 15, 16, 17, 18] 5]) (s' := ⟨sparse 43 [(0, .o (.g [.ints .u8 (32 : Nat) a])), (1, .o (.a (.sl 0 (0 : Nat) n cap0))), (2, .o (.a (.p 1 0))), (4, .o (.a (.p 2 0))), (5, .o (.a (.p 3 0))), (6, .o (.a (.p 4 0))), (7, .o (.a (.i .i64 (IntKind.i64.wrap (((((((8 : Nat) * n) : Nat) : Int) - (1 : Int)) - ((k : Nat) : Int)) - (1 : Int)))))), (8, .o (.g [.ints .u8 (32 : Nat) a])), (9, .o (.g [.ints .u64 (4 : Nat) (W4 (modL (BV a)))])), (10, .o (.g [.ints .u64 (4 : Nat) ([11819153939886771969, 14991950615390032711, 14910419812499177061, 259310039853996605] : List Int)])), (11, .o (.g [.ints .u64 (4 : Nat) (W4 (montV (V4 (W4 (modL (BV a)))) (V4 ([11819153939886771969, 14991950615390032711, 14910419812499177061, 259310039853996605] : List Int))))])), (12, .o (.g [.ints .u64 (4 : Nat) ([1, 0, 0, 0] : List Int)])), (13, .o (.g [.ints .u64 (4 : Nat) ([11819153939886771969, 14991950615390032711, 14910419812499177061, 259310039853996605] : List Int)])), (14, .o (.g [.ints .u64 (4 : Nat) (W4 (montV (V4 ([1, 0, 0, 0] : List Int)) (V4 ([11819153939886771969, 14991950615390032711, 14910419812499177061, 259310039853996605] : List Int))))])), (15, .o (.a (.sl 0 (0 : Nat) n cap0))), (16, .o (.a (.i .i64 ((n : Nat) : Int)))), (17, .o (.a (.i .i64 (IntKind.i64.wrap (((n : Nat) : Int) * (8 : Int)))))), (18, .o (.a (.i .i64 (IntKind.i64.wrap ((IntKind.i64.wrap (((n : Nat) : Int) * (8 : Int))) - (1 : Int))))))], [some ⟨false, [.ints .u8 nm e]⟩, some ⟨true, [.ints .u8 (32 : Nat) a]⟩, some ⟨true, [.ints .u8 (32 : Nat) ([0, 0, 0, 0, 0, 0, 0, 0, 0, 0, 0, 0, 0, 0, 0, 0, 0, 0, 0, 0, 0, 0, 0, 0, 0, 0, 0, 0, 0, 0, 0, 0] : List Int)]⟩, some ⟨true, [.ints .u64 (4 : Nat) (W4 (mA a))]⟩, some ⟨true, [.ints .u64 (4 : Nat) (W4 (montV (V4 (W4 (pwS a e n k))) (V4 (W4 (pwS a e n k)))))]⟩]⟩) (ex := .normal) mix tabOkQG gam51_ok
    (vc := [(((bits2 .and .u8 (shr .u8 (List.getD e (Int.toNat (IntKind.i64.wrap (Int.tdiv ((((((8 : Nat) * n) : Nat) : Int) - (1 : Int)) - ((k : Nat) : Int)) (8 : Int)))) 0) (Int.tmod ((((((8 : Nat) * n) : Nat) : Int) - (1 : Int)) - ((k : Nat) : Int)) (8 : Int))) (1 : Int)) == (1 : Int)) = false), ((0 : Int) ≤ (Int.tmod ((((((8 : Nat) * n) : Nat) : Int) - (1 : Int)) - ((k : Nat) : Int)) (8 : Int))), ((8 : Int) ≠ 0), ((Int.toNat (IntKind.i64.wrap (Int.tdiv ((((((8 : Nat) * n) : Nat) : Int) - (1 : Int)) - ((k : Nat) : Int)) (8 : Int)))) < nm), (((0 : Int) ≤ (IntKind.i64.wrap (Int.tdiv ((((((8 : Nat) * n) : Nat) : Int) - (1 : Int)) - ((k : Nat) : Int)) (8 : Int)))) ∧ ((IntKind.i64.wrap (Int.tdiv ((((((8 : Nat) * n) : Nat) : Int) - (1 : Int)) - ((k : Nat) : Int)) (8 : Int))) < ((n : Nat) : Int))), ((8 : Int) ≠ 0), ((Wds (W4 (pwS a e n k))) ∧ (Wds (W4 (pwS a e n k))) ∧ (LtL (W4 (pwS a e n k)))), ((decide (((((((8 : Nat) * n) : Nat) : Int) - (1 : Int)) - ((k : Nat) : Int)) ≥ (0 : Int))) = true)]) (by kernel_rfl)
    (AllP_cons (beq_eq_false_iff_ne.2 ha) (AllP_cons (by have q := qt8 h1 hk; have q1 := q.1; have q2 := q.2.1; have q3 := q.2.2; first | omega | (rw [q1]; omega) | (rw [q2]; omega) | (simp (disch := omega) only [wrapI]; omega)) (AllP_cons (by decide) (AllP_cons (by have q := qt8 h1 hk; have q1 := q.1; have q2 := q.2.1; have q3 := q.2.2; first | omega | (rw [q1]; omega) | (rw [q2]; omega) | (simp (disch := omega) only [wrapI]; omega)) (AllP_cons ⟨(by have q := qt8 h1 hk; have q1 := q.1; have q2 := q.2.1; have q3 := q.2.2; first | omega | (rw [q1]; omega) | (rw [q2]; omega) | (simp (disch := omega) only [wrapI]; omega)), (by have q := qt8 h1 hk; have q1 := q.1; have q2 := q.2.1; have q3 := q.2.2; first | omega | (rw [q1]; omega) | (rw [q2]; omega) | (simp (disch := omega) only [wrapI]; omega))⟩ (AllP_cons (by decide) (AllP_cons ⟨(wds_W4 _), (wds_W4 _), (ltl_pwS _ _ _ _)⟩ (AllP_cons (decide_eq_true (by have q := qt8 h1 hk; have q1 := q.1; have q2 := q.2.1; have q3 := q.2.2; first | omega | (rw [q1]; omega) | (rw [q2]; omega) | (simp (disch := omega) only [wrapI]; omega))) (AllP_nil)))))))))
  rw [e0, e1] at h
  exact h

theorem pgL_round (a : List Int) (n : Nat) (nm : Nat) (e : List Int) (cap0 : Nat) (h0 : (nm = n)) (h1 : (n ≤ (140737488351232 : Nat))) (h2 : (Byt e)) (h3 : (Byt a)) (hc0 : n ≤ cap0) (hl0_0 : List.length e = nm) (hv0 : List.length a = (32 : Nat)) (w : World) (β : Env) (k : Nat) (hk : k < ((8 : Nat) * n)) (s : Unit) : Run Try.prog ⟨w, [], 1, β⟩ (loopB Try.f54 0) (pgL_mk a n nm e cap0 k s) (To ⟨w, [], 1, β⟩ .normal (pgL_mk a n nm e cap0 (k + 1) (pgL_step k s))) := by
  by_cases ha : bitQ e n k = 1
  · exact pgL_round_0 a n nm e cap0 h0 h1 h2 h3 hc0 hl0_0 hv0 w β k hk s ha
  · exact pgL_round_1 a n nm e cap0 h0 h1 h2 h3 hc0 hl0_0 hv0 w β k hk s ha

set_option maxHeartbeats 1000000 in
theorem pgL_last (a : List Int) (n : Nat) (nm : Nat) (e : List Int) (cap0 : Nat) (h0 : (nm = n)) (h1 : (n ≤ (140737488351232 : Nat))) (h2 : (Byt e)) (h3 : (Byt a)) (hc0 : n ≤ cap0) (hl0_0 : List.length e = nm) (hv0 : List.length a = (32 : Nat)) (w : World) (β : Env) (s : Unit) : Run Try.prog ⟨w, [], 1, β⟩ (loopB Try.f54 0) (pgL_mk a n nm e cap0 ((8 : Nat) * n) s) (To ⟨w, [], 1, β⟩ (.exit 0) (pgL_mk a n nm e cap0 ((8 : Nat) * n) s)) :=
  Run.of_outT (B := ⟨w, [], 1, β⟩) (Λ := noLam) (Ψ := noPsi) (fuel := 0) (ora := [false]) (l := [.forget [0, 1, 2, 4, 5, 6, 7, 8, 9, 10, 11, 12, 13, 14, 15, 16, 17, 18] 5]) mix tabOkQG gam51_ok
    (vc := [((decide (((((((8 : Nat) * n) : Nat) : Int) - (1 : Int)) - ((((8 : Nat) * n) : Nat) : Int)) ≥ (0 : Int))) = false)]) (by kernel_rfl)
    (AllP_cons (decide_eq_false (by omega)) (AllP_nil))

theorem pgL_loop (a : List Int) (n : Nat) (nm : Nat) (e : List Int) (cap0 : Nat) (h0 : (nm = n)) (h1 : (n ≤ (140737488351232 : Nat))) (h2 : (Byt e)) (h3 : (Byt a)) (hc0 : n ≤ cap0) (hl0_0 : List.length e = nm) (hv0 : List.length a = (32 : Nat)) (w : World) (β : Env) (s : Unit) : Run Try.prog ⟨w, [], 1, β⟩ (.block 0 (.loop (loopB Try.f54 0))) (pgL_mk a n nm e cap0 0 s) (To ⟨w, [], 1, β⟩ .normal (pgL_mk a n nm e cap0 ((8 : Nat) * n) (iter (pgL_step) ((8 : Nat) * n) s))) :=
  Run.count (fun k => pgL_mk a n nm e cap0 k (iter (pgL_step) k s)) ((8 : Nat) * n) (fun k hk => pgL_round a n nm e cap0 h0 h1 h2 h3 hc0 hl0_0 hv0 w β k hk _) (ex := (.exit 0)) (by simp) (pgL_last a n nm e cap0 h0 h1 h2 h3 hc0 hl0_0 hv0 w β _)

def pgP (a : List Int) (n : Nat) (e : List Int) : List Int :=
  (B32 (V4 (W4 (montV (V4 (W4 (pwS a e n ((8 : Nat) * n)))) (V4 ([1, 0, 0, 0] : List Int))))))

set_option maxHeartbeats 1000000 in
theorem pgP_body0 (a : List Int) (n : Nat) (nm : Nat) (e : List Int) (cap0 : Nat) (h0 : (nm = n)) (h1 : (n ≤ (140737488351232 : Nat))) (h2 : (Byt e)) (h3 : (Byt a)) (hc0 : n ≤ cap0) (hl0_0 : List.length e = nm) (hv0 : List.length a = (32 : Nat)) (w : World) (β : Env) : Body Try.prog (tabOf tabQG) Try.f54 ⟨w, [], 1, β⟩ [.o (.g [.ints .u8 (32 : Nat) a]), .o (.a (.sl 0 (0 : Nat) n cap0))] [some ⟨false, [.ints .u8 nm e]⟩] (fun ys _ => ys = [.g [.ints .u8 (32 : Nat) (pgP a n e)]]) :=
  Body.of_fin (Γ := gam51) (Λ := lamOf [(0, ⟨[.eqS 7 (.o (.a (.i .i64 ((((((8 : Nat) * n) : Nat) : Int) - (1 : Int)) - ((0 : Nat) : Int))))), .eqB 4 (⟨true, [.ints .u64 (4 : Nat) (W4 (pwS a e n (0 : Nat)))]⟩), .eqB 3 (⟨true, [.ints .u64 (4 : Nat) (W4 (mA a))]⟩), .forget [0, 1, 2, 4, 5, 6, 7, 8, 9, 10, 11, 12, 13, 14, 15, 16, 17, 18] 5], .normal, (pgL_mk a n nm e cap0 ((8 : Nat) * n) (iter (pgL_step) ((8 : Nat) * n) ()))⟩)]) (Ψ := noPsi) (fuel := 0) (m := 43) (c := (Try.f54.body.getD .skip)) mix tabOkQG gam51_ok rfl (rs := [.cell 4 24]) rfl rfl [] []
    (vc := [(Wds (W4 (montV (V4 (W4 (pwS a e n ((8 : Nat) * n)))) (V4 ([1, 0, 0, 0] : List Int))))), ((Wds (W4 (pwS a e n ((8 : Nat) * n)))) ∧ (Wds ([1, 0, 0, 0] : List Int)) ∧ (LtL ([1, 0, 0, 0] : List Int))), (Run Try.prog ⟨w, [], 1, β⟩ (.block 0 (.loop (loopB Try.f54 0))) (pgL_mk a n nm e cap0 0 ()) (To ⟨w, [], 1, β⟩ .normal (pgL_mk a n nm e cap0 ((8 : Nat) * n) (iter (pgL_step) ((8 : Nat) * n) ())))), ((some ⟨true, [.ints .u64 (4 : Nat) (W4 (montV (V4 (W4 (modL (BV a)))) (V4 ([11819153939886771969, 14991950615390032711, 14910419812499177061, 259310039853996605] : List Int))))]⟩ : Option Blk) = some ⟨true, [.ints .u64 (4 : Nat) (W4 (mA a))]⟩), ((some ⟨true, [.ints .u64 (4 : Nat) (W4 (montV (V4 ([1, 0, 0, 0] : List Int)) (V4 ([11819153939886771969, 14991950615390032711, 14910419812499177061, 259310039853996605] : List Int))))]⟩ : Option Blk) = some ⟨true, [.ints .u64 (4 : Nat) (W4 (pwS a e n (0 : Nat)))]⟩), ((.o (.a (.i .i64 (IntKind.i64.wrap ((IntKind.i64.wrap (((n : Nat) : Int) * (8 : Int))) - (1 : Int))))) : AV) = .o (.a (.i .i64 ((((((8 : Nat) * n) : Nat) : Int) - (1 : Int)) - ((0 : Nat) : Int))))), ((Wds ([1, 0, 0, 0] : List Int)) ∧ (Wds ([11819153939886771969, 14991950615390032711, 14910419812499177061, 259310039853996605] : List Int)) ∧ (LtL ([11819153939886771969, 14991950615390032711, 14910419812499177061, 259310039853996605] : List Int))), ((Wds (W4 (modL (BV a)))) ∧ (Wds ([11819153939886771969, 14991950615390032711, 14910419812499177061, 259310039853996605] : List Int)) ∧ (LtL ([11819153939886771969, 14991950615390032711, 14910419812499177061, 259310039853996605] : List Int))), (Byt a)]) (by kernel_rfl)
    (AllP_cons (wds_W4 _) (AllP_cons ⟨(wds_W4 _), wds_one, ltl_one⟩ (AllP_cons (pgL_loop a n nm e cap0 h0 h1 h2 h3 hc0 hl0_0 hv0 w β ()) (AllP_cons ((by rw [mA_eq])) (AllP_cons ((by rw [pwS_0 h2 (hl0_0.trans h0)])) (AllP_cons ((congrArg (fun z => AV.o (.a (.i .i64 z))) (by simp (disch := omega) only [wrapI]; omega))) (AllP_cons ⟨wds_one, wds_radx, ltl_radx⟩ (AllP_cons ⟨(wds_W4 _), wds_radx, ltl_radx⟩ (AllP_cons (by assumption) (AllP_nil))))))))))

theorem pgP_body (a : List Int) (n : Nat) (nm : Nat) (e : List Int) (cap0 : Nat) (h0 : (nm = n)) (h1 : (n ≤ (140737488351232 : Nat))) (h2 : (Byt e)) (h3 : (Byt a)) (w : World) (β : Env) : Body Try.prog (tabOf tabQG) Try.f54 ⟨w, [], 1, β⟩ [.o (.g [.ints .u8 (32 : Nat) a]), .o (.a (.sl 0 (0 : Nat) n cap0))] [some ⟨false, [.ints .u8 nm e]⟩] (fun ys _ => ys = [.g [.ints .u8 (32 : Nat) (pgP a n e)]]) :=
  Body.lens (c := (Try.f54.body.getD .skip)) rfl fun h => pgP_body0 a n nm e cap0 h0 h1 h2 h3 (h.caps 1 _ _ _ _ rfl) (h.lens 0 _ .u8 nm e rfl (by simp)) (h.vals 0 _ _ _ rfl) w β

end Go.Proofs.Ytcpoldghkiiggaa.X

/- Power of the program, as a number. -/
namespace Go.Proofs.Ytcpoldghkiiggaa.X
open Go Go.Proofs
set_option linter.unusedVariables false
set_option maxRecDepth 100000

def powV (a e : List Int) : Int := modL (BV a ^ nb e)
theorem BV_pow (a e : List Int) : BV (B32 (powV a e)) = powV a e := BV_modL _
theorem pgP_eq (a e : List Int) (n : Nat) : pgP a n e = B32 (powV a e) := by
  unfold pgP powV
  rw [pwS_fin]
theorem pgP_num (a : List Int) (n nm : Nat) (e : List Int) (cap0 : Nat) (h0 : nm = n) (h1 : n ≤ 140737488351232) (h2 : Byt e) (h3 : Byt a) (w : World) (β : Env) : Body Try.prog (tabOf tabQG) Try.f54 ⟨w, [], 1, β⟩ [.o (.g [.ints .u8 (32 : Nat) a]), .o (.a (.sl 0 (0 : Nat) n cap0))] [some ⟨false, [.ints .u8 nm e]⟩] (fun ys _ => ys = [.g [.ints .u8 (32 : Nat) (B32 (powV a e))]]) := pgP_eq a e n ▸ pgP_body a n nm e cap0 h0 h1 h2 h3 w β
end Go.Proofs.Ytcpoldghkiiggaa.X

/- Printed by a tool of this session. -/
namespace Go.Proofs.Ytcpoldghkiiggaa.X
open Go Go.Proofs
set_option linter.unusedVariables false
set_option linter.unusedSimpArgs false
set_option maxRecDepth 100000
def gam56 : Gam := greadV 54 [.v, .s 1] (fun vs args => match vs, args with | [⟨_, _, _, [.ints .u8 nm e]⟩], [.o (.g [.ints .u8 (32 : Nat) a]), a0] => some ((nm = (lenOfA a0)) ∧ ((lenOfA a0) ≤ (140737488351232 : Nat)) ∧ (Byt e) ∧ (Byt a), [.g [.ints .u8 (32 : Nat) (B32 (powV a e))]]) | _, _ => none) gam51
theorem gam56_ok : GamOk Try.prog gam56 := greadV_ok tabOkQG Try.func54 gam51_ok Try.call54 (by
  intro vs args p xs h hv
  split at h
  · simp only [Option.some.injEq, Prod.mk.injEq] at h; obtain ⟨rfl, rfl⟩ := h; exact ⟨by rfl, fun caps w β => pgP_num _ _ _ _ _ hv.1 hv.2.1 hv.2.2.1 hv.2.2.2 w β⟩
  · simp at h)

end Go.Proofs.Ytcpoldghkiiggaa.X

/- Power of the reference, as a number; squares. -/
namespace Go.Proofs.Ytcpoldghkiiggaa.X
open Go Go.Proofs
set_option linter.unusedVariables false
set_option maxRecDepth 100000

def powW (S E : List Int) : Int := modL (V4 S ^ (V4 E).toNat)
theorem powW_eq {S E : List Int} (hE : Wds E) (l : E.length = 4) : powA S E = W4 (powW S E) := by
  have hn : V4 E = (((V4 E).toNat : Nat) : Int) := by have := (V4_rng hE l).1; omega
  unfold powA
  rw [V4_radx, V4_one, montI, montI]
  have e : modL (1 * 115792089237316195423570985008687907853269984665640564039457584007913129639936) = sqr (V4 S) 0 := by unfold sqr; rw [Int.pow_zero]
  rw [e, rP_eq hE l (V4 S) hn 256 (Nat.le_refl _), sqr_V, Nat.sub_self, Nat.pow_zero, Nat.div_one]
  unfold sqr powW
  rw [mont1]
theorem pow100_num (S E : List Int) (h0 : Wds S) (h1 : Wds E) (w : World) : Body Try.prog (tabOf tabOQ) Try.f100 ⟨w, [], 0, noEnv⟩ (toA [.g [.ints .u64 (4 : Nat) S], .g [.ints .u64 (4 : Nat) E]]) [] (fun ys _ => ys = [.g [.ints .u64 (4 : Nat) (W4 (powW S E))]]) :=
  Body.lens (c := (Try.f100.body.getD .skip)) rfl fun h => powW_eq (S := S) h1 (h.vals 1 _ _ _ rfl) ▸ powA_body S E h0 h1 w
def eHalf : Nat := (LL.toNat - 1) / 2
/-- a to half of the order less 1 -/
def lgP (a : List Int) : Int := modL (BV a ^ eHalf)
def legI (a : List Int) : Int := if lgP a = 0 then 0 else if lgP a = 1 then 1 else -1
theorem lgP_b (a : List Int) : 0 ≤ lgP a ∧ lgP a < 115792089237316195423570985008687907853269984665640564039457584007913129639936 := modL_b2 _
theorem W4_1 : W4 1 = [1, 0, 0, 0] := by decide +kernel
theorem W4_inj {x y : Int} (hx : 0 ≤ x ∧ x < 115792089237316195423570985008687907853269984665640564039457584007913129639936) (hy : 0 ≤ y ∧ y < 115792089237316195423570985008687907853269984665640564039457584007913129639936) (h : W4 x = W4 y) : x = y := by
  rw [← V4_W4 hx.1 hx.2, h, V4_W4 hy.1 hy.2]
theorem W4_one {v : Int} (h : 0 ≤ v ∧ v < 115792089237316195423570985008687907853269984665640564039457584007913129639936) : W4 v = [1, 0, 0, 0] ↔ v = 1 := by
  rw [← W4_1]
  exact ⟨fun e => W4_inj h (by omega) e, fun e => by rw [e]⟩
theorem lg_prog {a E : List Int} (h : V4 E = ((eHalf : Nat) : Int)) : powW (W4 (modL (BV a))) E = lgP a := by
  unfold powW lgP
  rw [h, Int.toNat_natCast, V4_modL, modL_pow]
end Go.Proofs.Ytcpoldghkiiggaa.X

/- Printed by a tool of this session. -/
namespace Go.Proofs.Ytcpoldghkiiggaa.X
open Go Go.Proofs
set_option linter.unusedVariables false
set_option linter.unusedSimpArgs false
set_option maxRecDepth 100000
theorem teQI_5 : TEOk Try.prog 5 ⟨.int .u8, 1, 1, [.i .u8 (0 : Int)], false⟩ :=
  TEOk.of Try.underlying5 (i := Try.t5) (by kernel_rfl) rfl rfl rfl (by kernel_rfl) (fun h => by cases h) (by kernel_rfl)
theorem teQI_24 : TEOk Try.prog 24 ⟨.array 32 5, 32, 32, [.ints .u8 (32 : Nat) ([0, 0, 0, 0, 0, 0, 0, 0, 0, 0, 0, 0, 0, 0, 0, 0, 0, 0, 0, 0, 0, 0, 0, 0, 0, 0, 0, 0, 0, 0, 0, 0] : List Int)], true⟩ :=
  TEOk.of Try.underlying24 (i := Try.t24) (by kernel_rfl) rfl rfl rfl (by kernel_rfl) (fun _ => Try.eqGuardType24) (by kernel_rfl)
theorem teQI_25 : TEOk Try.prog 25 ⟨.int .u64, 1, 8, [.i .u64 (0 : Int)], false⟩ :=
  TEOk.of Try.underlying25 (i := Try.t25) (by kernel_rfl) rfl rfl rfl (by kernel_rfl) (fun h => by cases h) (by kernel_rfl)
theorem teQI_104 : TEOk Try.prog 104 ⟨.array 4 25, 4, 32, [.ints .u64 (4 : Nat) ([0, 0, 0, 0] : List Int)], true⟩ :=
  TEOk.of Try.underlying104 (i := Try.t104) (by kernel_rfl) rfl rfl rfl (by kernel_rfl) (fun _ => Try.eqGuardType104) (by kernel_rfl)
theorem teQI_109 : TEOk Try.prog 109 ⟨.int .u32, 1, 4, [.i .u32 (0 : Int)], false⟩ :=
  TEOk.of Try.underlying109 (i := Try.t109) (by kernel_rfl) rfl rfl rfl (by kernel_rfl) (fun h => by cases h) (by kernel_rfl)
theorem teQI_111 : TEOk Try.prog 111 ⟨.array 8 109, 8, 32, [.ints .u32 (8 : Nat) ([0, 0, 0, 0, 0, 0, 0, 0] : List Int)], true⟩ :=
  TEOk.of Try.underlying111 (i := Try.t111) (by kernel_rfl) rfl rfl rfl (by kernel_rfl) (fun _ => Try.eqGuardType111) (by kernel_rfl)
noncomputable def tabQI : List (Nat × TE) := [(5, ⟨.int .u8, 1, 1, [.i .u8 (0 : Int)], false⟩), (24, ⟨.array 32 5, 32, 32, [.ints .u8 (32 : Nat) ([0, 0, 0, 0, 0, 0, 0, 0, 0, 0, 0, 0, 0, 0, 0, 0, 0, 0, 0, 0, 0, 0, 0, 0, 0, 0, 0, 0, 0, 0, 0, 0] : List Int)], true⟩), (25, ⟨.int .u64, 1, 8, [.i .u64 (0 : Int)], false⟩), (104, ⟨.array 4 25, 4, 32, [.ints .u64 (4 : Nat) ([0, 0, 0, 0] : List Int)], true⟩), (109, ⟨.int .u32, 1, 4, [.i .u32 (0 : Int)], false⟩), (111, ⟨.array 8 109, 8, 32, [.ints .u32 (8 : Nat) ([0, 0, 0, 0, 0, 0, 0, 0] : List Int)], true⟩)]
theorem tabOkQI : TabOk Try.prog (tabOf tabQI) := (tabOf_cons teQI_5 (tabOf_cons teQI_24 (tabOf_cons teQI_25 (tabOf_cons teQI_104 (tabOf_cons teQI_109 (tabOf_cons teQI_111 tabOf_nil))))))

theorem pow100_num_pure (S : List Int) (E : List Int) (h0 : (Wds S)) (h1 : (Wds E)) : PureC Try.prog 100 [.g [.ints .u64 (4 : Nat) S], .g [.ints .u64 (4 : Nat) E]] [.g [.ints .u64 (4 : Nat) (W4 (powW S E))]] :=
  PureC.of_body tabOkOQ Try.func100 rfl rfl fun w => pow100_num S E h0 h1 w

def gam58 : Gam := gpure 100 (fun args => match args with | [.o (.g [.ints .u64 (4 : Nat) S]), .o (.g [.ints .u64 (4 : Nat) E])] => some (some ((Wds S) ∧ (Wds E)), [.g [.ints .u64 (4 : Nat) (W4 (powW S E))]]) | _ => none) gam56
theorem gam58_ok : GamOk Try.prog gam58 := gpure_ok gam56_ok Try.call100 (by
  intro args vc xs h hv
  split at h
  · simp only [Option.some.injEq, Prod.mk.injEq] at h; obtain ⟨rfl, rfl⟩ := h; exact ⟨_, by rfl, pow100_num_pure _ _ hv.1 hv.2⟩
  · simp at h)

set_option maxHeartbeats 1000000 in
theorem lgpA_body0 (a : List Int) (h0 : (Byt a)) (hv0 : List.length a = (32 : Nat)) (hc : lgP a = 0) (w : World) : Body Try.prog (tabOf tabQI) Try.f56 ⟨w, [], 0, noEnv⟩ (toA [.g [.ints .u8 (32 : Nat) a]]) [] (fun ys _ => ys = [.a (.i .i64 (0 : Int))]) :=
  Body.of_fin (Γ := gam58) (Λ := noLam) (Ψ := psiOf [(1, [.eqB 1 (⟨true, [.ints .u64 (4 : Nat) ([6346243789798364140, 1503914060200516822, 0, 1152921504606846976] : List Int)]⟩)])]) (fuel := 5) (m := 43) (c := (Try.f56.body.getD .skip)) mix tabOkQI gam58_ok rfl (rs := [.tmp 2]) rfl rfl [true, true, true, true, true, true, true, false, false, true] []
    (vc := [((decide ((W4 (powW (W4 (modL (BV a))) ([3173121894899182070, 751957030100258411, 0, 576460752303423488] : List Int))) = ([0, 0, 0, 0] : List Int))) = true), ((Wds (W4 (modL (BV a)))) ∧ (Wds ([3173121894899182070, 751957030100258411, 0, 576460752303423488] : List Int))), (Byt a), (false = false), (false = false), ((3 : Nat) < (4 : Nat)), (((0 : Int) ≤ (3 : Int)) ∧ ((3 : Int) < (4 : Int))), ((0 : Int) ≤ (1 : Int)), ((3 : Nat) < (4 : Nat)), (((0 : Int) ≤ (3 : Int)) ∧ ((3 : Int) < (4 : Int))), (true = true), ((2 : Nat) < (4 : Nat)), (((0 : Int) ≤ (2 : Int)) ∧ ((2 : Int) < (4 : Int))), ((0 : Int) ≤ (63 : Int)), ((3 : Nat) < (4 : Nat)), (((0 : Int) ≤ (3 : Int)) ∧ ((3 : Int) < (4 : Int))), ((2 : Nat) < (4 : Nat)), (((0 : Int) ≤ (2 : Int)) ∧ ((2 : Int) < (4 : Int))), (true = true), ((2 : Nat) < (4 : Nat)), (((0 : Int) ≤ (2 : Int)) ∧ ((2 : Int) < (4 : Int))), ((0 : Int) ≤ (1 : Int)), ((2 : Nat) < (4 : Nat)), (((0 : Int) ≤ (2 : Int)) ∧ ((2 : Int) < (4 : Int))), (true = true), ((1 : Nat) < (4 : Nat)), (((0 : Int) ≤ (1 : Int)) ∧ ((1 : Int) < (4 : Int))), ((0 : Int) ≤ (63 : Int)), ((2 : Nat) < (4 : Nat)), (((0 : Int) ≤ (2 : Int)) ∧ ((2 : Int) < (4 : Int))), ((1 : Nat) < (4 : Nat)), (((0 : Int) ≤ (1 : Int)) ∧ ((1 : Int) < (4 : Int))), (true = true), ((1 : Nat) < (4 : Nat)), (((0 : Int) ≤ (1 : Int)) ∧ ((1 : Int) < (4 : Int))), ((0 : Int) ≤ (1 : Int)), ((1 : Nat) < (4 : Nat)), (((0 : Int) ≤ (1 : Int)) ∧ ((1 : Int) < (4 : Int))), (true = true), ((0 : Nat) < (4 : Nat)), (((0 : Int) ≤ (0 : Int)) ∧ ((0 : Int) < (4 : Int))), ((0 : Int) ≤ (63 : Int)), ((1 : Nat) < (4 : Nat)), (((0 : Int) ≤ (1 : Int)) ∧ ((1 : Int) < (4 : Int))), ((0 : Nat) < (4 : Nat)), (((0 : Int) ≤ (0 : Int)) ∧ ((0 : Int) < (4 : Int))), (true = true), ((0 : Nat) < (4 : Nat)), (((0 : Int) ≤ (0 : Int)) ∧ ((0 : Int) < (4 : Int))), ((0 : Int) ≤ (1 : Int)), ((0 : Nat) < (4 : Nat)), (((0 : Int) ≤ (0 : Int)) ∧ ((0 : Int) < (4 : Int))), (true = true), ((some ⟨true, [.ints .u64 (4 : Nat) (W4 (difR (V4 ([6346243789798364141, 1503914060200516822, 0, 1152921504606846976] : List Int)) (V4 ([1, 0, 0, 0] : List Int))))]⟩ : Option Blk) = some ⟨true, [.ints .u64 (4 : Nat) ([6346243789798364140, 1503914060200516822, 0, 1152921504606846976] : List Int)]⟩), ((Wds ([6346243789798364141, 1503914060200516822, 0, 1152921504606846976] : List Int)) ∧ (Wds ([1, 0, 0, 0] : List Int)))]) (by kernel_rfl)
    (AllP_cons (by rw [lg_prog (by decide +kernel)]; exact decide_eq_true ((W4_zero (lgP_b a).1 (lgP_b a).2).2 hc)) (AllP_cons ⟨(wds_W4 _), (wds_four (by omega) (by omega) (by omega) (by omega))⟩ (AllP_cons (by assumption) (AllP_cons rfl (AllP_cons rfl (AllP_cons (by decide) (AllP_cons ⟨(by decide), (by decide)⟩ (AllP_cons (by decide) (AllP_cons (by decide) (AllP_cons ⟨(by decide), (by decide)⟩ (AllP_cons rfl (AllP_cons (by decide) (AllP_cons ⟨(by decide), (by decide)⟩ (AllP_cons (by decide) (AllP_cons (by decide) (AllP_cons ⟨(by decide), (by decide)⟩ (AllP_cons (by decide) (AllP_cons ⟨(by decide), (by decide)⟩ (AllP_cons rfl (AllP_cons (by decide) (AllP_cons ⟨(by decide), (by decide)⟩ (AllP_cons (by decide) (AllP_cons (by decide) (AllP_cons ⟨(by decide), (by decide)⟩ (AllP_cons rfl (AllP_cons (by decide) (AllP_cons ⟨(by decide), (by decide)⟩ (AllP_cons (by decide) (AllP_cons (by decide) (AllP_cons ⟨(by decide), (by decide)⟩ (AllP_cons (by decide) (AllP_cons ⟨(by decide), (by decide)⟩ (AllP_cons rfl (AllP_cons (by decide) (AllP_cons ⟨(by decide), (by decide)⟩ (AllP_cons (by decide) (AllP_cons (by decide) (AllP_cons ⟨(by decide), (by decide)⟩ (AllP_cons rfl (AllP_cons (by decide) (AllP_cons ⟨(by decide), (by decide)⟩ (AllP_cons (by decide) (AllP_cons (by decide) (AllP_cons ⟨(by decide), (by decide)⟩ (AllP_cons (by decide) (AllP_cons ⟨(by decide), (by decide)⟩ (AllP_cons rfl (AllP_cons (by decide) (AllP_cons ⟨(by decide), (by decide)⟩ (AllP_cons (by decide) (AllP_cons (by decide) (AllP_cons ⟨(by decide), (by decide)⟩ (AllP_cons rfl (AllP_cons ((by kernel_rfl)) (AllP_cons ⟨(wds_four (by omega) (by omega) (by omega) (by omega)), (wds_four (by omega) (by omega) (by omega) (by omega))⟩ (AllP_nil))))))))))))))))))))))))))))))))))))))))))))))))))))))))

set_option maxHeartbeats 1000000 in
theorem lgpB_body0 (a : List Int) (h0 : (Byt a)) (hv0 : List.length a = (32 : Nat)) (hc : lgP a = 1) (w : World) : Body Try.prog (tabOf tabQI) Try.f56 ⟨w, [], 0, noEnv⟩ (toA [.g [.ints .u8 (32 : Nat) a]]) [] (fun ys _ => ys = [.a (.i .i64 (1 : Int))]) :=
  Body.of_fin (Γ := gam58) (Λ := noLam) (Ψ := psiOf [(1, [.eqB 1 (⟨true, [.ints .u64 (4 : Nat) ([6346243789798364140, 1503914060200516822, 0, 1152921504606846976] : List Int)]⟩)])]) (fuel := 5) (m := 43) (c := (Try.f56.body.getD .skip)) mix tabOkQI gam58_ok rfl (rs := [.tmp 2]) rfl rfl [true, true, true, true, true, true, true, false, false, false, true] []
    (vc := [((decide ((W4 (powW (W4 (modL (BV a))) ([3173121894899182070, 751957030100258411, 0, 576460752303423488] : List Int))) = ([1, 0, 0, 0] : List Int))) = true), ((decide ((W4 (powW (W4 (modL (BV a))) ([3173121894899182070, 751957030100258411, 0, 576460752303423488] : List Int))) = ([0, 0, 0, 0] : List Int))) = false), ((Wds (W4 (modL (BV a)))) ∧ (Wds ([3173121894899182070, 751957030100258411, 0, 576460752303423488] : List Int))), (Byt a), (false = false), (false = false), ((3 : Nat) < (4 : Nat)), (((0 : Int) ≤ (3 : Int)) ∧ ((3 : Int) < (4 : Int))), ((0 : Int) ≤ (1 : Int)), ((3 : Nat) < (4 : Nat)), (((0 : Int) ≤ (3 : Int)) ∧ ((3 : Int) < (4 : Int))), (true = true), ((2 : Nat) < (4 : Nat)), (((0 : Int) ≤ (2 : Int)) ∧ ((2 : Int) < (4 : Int))), ((0 : Int) ≤ (63 : Int)), ((3 : Nat) < (4 : Nat)), (((0 : Int) ≤ (3 : Int)) ∧ ((3 : Int) < (4 : Int))), ((2 : Nat) < (4 : Nat)), (((0 : Int) ≤ (2 : Int)) ∧ ((2 : Int) < (4 : Int))), (true = true), ((2 : Nat) < (4 : Nat)), (((0 : Int) ≤ (2 : Int)) ∧ ((2 : Int) < (4 : Int))), ((0 : Int) ≤ (1 : Int)), ((2 : Nat) < (4 : Nat)), (((0 : Int) ≤ (2 : Int)) ∧ ((2 : Int) < (4 : Int))), (true = true), ((1 : Nat) < (4 : Nat)), (((0 : Int) ≤ (1 : Int)) ∧ ((1 : Int) < (4 : Int))), ((0 : Int) ≤ (63 : Int)), ((2 : Nat) < (4 : Nat)), (((0 : Int) ≤ (2 : Int)) ∧ ((2 : Int) < (4 : Int))), ((1 : Nat) < (4 : Nat)), (((0 : Int) ≤ (1 : Int)) ∧ ((1 : Int) < (4 : Int))), (true = true), ((1 : Nat) < (4 : Nat)), (((0 : Int) ≤ (1 : Int)) ∧ ((1 : Int) < (4 : Int))), ((0 : Int) ≤ (1 : Int)), ((1 : Nat) < (4 : Nat)), (((0 : Int) ≤ (1 : Int)) ∧ ((1 : Int) < (4 : Int))), (true = true), ((0 : Nat) < (4 : Nat)), (((0 : Int) ≤ (0 : Int)) ∧ ((0 : Int) < (4 : Int))), ((0 : Int) ≤ (63 : Int)), ((1 : Nat) < (4 : Nat)), (((0 : Int) ≤ (1 : Int)) ∧ ((1 : Int) < (4 : Int))), ((0 : Nat) < (4 : Nat)), (((0 : Int) ≤ (0 : Int)) ∧ ((0 : Int) < (4 : Int))), (true = true), ((0 : Nat) < (4 : Nat)), (((0 : Int) ≤ (0 : Int)) ∧ ((0 : Int) < (4 : Int))), ((0 : Int) ≤ (1 : Int)), ((0 : Nat) < (4 : Nat)), (((0 : Int) ≤ (0 : Int)) ∧ ((0 : Int) < (4 : Int))), (true = true), ((some ⟨true, [.ints .u64 (4 : Nat) (W4 (difR (V4 ([6346243789798364141, 1503914060200516822, 0, 1152921504606846976] : List Int)) (V4 ([1, 0, 0, 0] : List Int))))]⟩ : Option Blk) = some ⟨true, [.ints .u64 (4 : Nat) ([6346243789798364140, 1503914060200516822, 0, 1152921504606846976] : List Int)]⟩), ((Wds ([6346243789798364141, 1503914060200516822, 0, 1152921504606846976] : List Int)) ∧ (Wds ([1, 0, 0, 0] : List Int)))]) (by kernel_rfl)
    (AllP_cons (by rw [lg_prog (by decide +kernel)]; exact decide_eq_true ((W4_one (lgP_b a)).2 hc)) (AllP_cons (by rw [lg_prog (by decide +kernel)]; exact decide_eq_false (fun h => absurd ((W4_zero (lgP_b a).1 (lgP_b a).2).1 h) (by rw [hc]; decide))) (AllP_cons ⟨(wds_W4 _), (wds_four (by omega) (by omega) (by omega) (by omega))⟩ (AllP_cons (by assumption) (AllP_cons rfl (AllP_cons rfl (AllP_cons (by decide) (AllP_cons ⟨(by decide), (by decide)⟩ (AllP_cons (by decide) (AllP_cons (by decide) (AllP_cons ⟨(by decide), (by decide)⟩ (AllP_cons rfl (AllP_cons (by decide) (AllP_cons ⟨(by decide), (by decide)⟩ (AllP_cons (by decide) (AllP_cons (by decide) (AllP_cons ⟨(by decide), (by decide)⟩ (AllP_cons (by decide) (AllP_cons ⟨(by decide), (by decide)⟩ (AllP_cons rfl (AllP_cons (by decide) (AllP_cons ⟨(by decide), (by decide)⟩ (AllP_cons (by decide) (AllP_cons (by decide) (AllP_cons ⟨(by decide), (by decide)⟩ (AllP_cons rfl (AllP_cons (by decide) (AllP_cons ⟨(by decide), (by decide)⟩ (AllP_cons (by decide) (AllP_cons (by decide) (AllP_cons ⟨(by decide), (by decide)⟩ (AllP_cons (by decide) (AllP_cons ⟨(by decide), (by decide)⟩ (AllP_cons rfl (AllP_cons (by decide) (AllP_cons ⟨(by decide), (by decide)⟩ (AllP_cons (by decide) (AllP_cons (by decide) (AllP_cons ⟨(by decide), (by decide)⟩ (AllP_cons rfl (AllP_cons (by decide) (AllP_cons ⟨(by decide), (by decide)⟩ (AllP_cons (by decide) (AllP_cons (by decide) (AllP_cons ⟨(by decide), (by decide)⟩ (AllP_cons (by decide) (AllP_cons ⟨(by decide), (by decide)⟩ (AllP_cons rfl (AllP_cons (by decide) (AllP_cons ⟨(by decide), (by decide)⟩ (AllP_cons (by decide) (AllP_cons (by decide) (AllP_cons ⟨(by decide), (by decide)⟩ (AllP_cons rfl (AllP_cons ((by kernel_rfl)) (AllP_cons ⟨(wds_four (by omega) (by omega) (by omega) (by omega)), (wds_four (by omega) (by omega) (by omega) (by omega))⟩ (AllP_nil)))))))))))))))))))))))))))))))))))))))))))))))))))))))))

set_option maxHeartbeats 1000000 in
theorem lgpC_body0 (a : List Int) (h0 : (Byt a)) (hv0 : List.length a = (32 : Nat)) (hc : lgP a ≠ 0 ∧ lgP a ≠ 1) (w : World) : Body Try.prog (tabOf tabQI) Try.f56 ⟨w, [], 0, noEnv⟩ (toA [.g [.ints .u8 (32 : Nat) a]]) [] (fun ys _ => ys = [.a (.i .i64 (-1 : Int))]) :=
  Body.of_fin (Γ := gam58) (Λ := noLam) (Ψ := psiOf [(1, [.eqB 1 (⟨true, [.ints .u64 (4 : Nat) ([6346243789798364140, 1503914060200516822, 0, 1152921504606846976] : List Int)]⟩)])]) (fuel := 5) (m := 43) (c := (Try.f56.body.getD .skip)) mix tabOkQI gam58_ok rfl (rs := [.tmp 2]) rfl rfl [true, true, true, true, true, true, true, false, false, false, false] []
    (vc := [((decide ((W4 (powW (W4 (modL (BV a))) ([3173121894899182070, 751957030100258411, 0, 576460752303423488] : List Int))) = ([1, 0, 0, 0] : List Int))) = false), ((decide ((W4 (powW (W4 (modL (BV a))) ([3173121894899182070, 751957030100258411, 0, 576460752303423488] : List Int))) = ([0, 0, 0, 0] : List Int))) = false), ((Wds (W4 (modL (BV a)))) ∧ (Wds ([3173121894899182070, 751957030100258411, 0, 576460752303423488] : List Int))), (Byt a), (false = false), (false = false), ((3 : Nat) < (4 : Nat)), (((0 : Int) ≤ (3 : Int)) ∧ ((3 : Int) < (4 : Int))), ((0 : Int) ≤ (1 : Int)), ((3 : Nat) < (4 : Nat)), (((0 : Int) ≤ (3 : Int)) ∧ ((3 : Int) < (4 : Int))), (true = true), ((2 : Nat) < (4 : Nat)), (((0 : Int) ≤ (2 : Int)) ∧ ((2 : Int) < (4 : Int))), ((0 : Int) ≤ (63 : Int)), ((3 : Nat) < (4 : Nat)), (((0 : Int) ≤ (3 : Int)) ∧ ((3 : Int) < (4 : Int))), ((2 : Nat) < (4 : Nat)), (((0 : Int) ≤ (2 : Int)) ∧ ((2 : Int) < (4 : Int))), (true = true), ((2 : Nat) < (4 : Nat)), (((0 : Int) ≤ (2 : Int)) ∧ ((2 : Int) < (4 : Int))), ((0 : Int) ≤ (1 : Int)), ((2 : Nat) < (4 : Nat)), (((0 : Int) ≤ (2 : Int)) ∧ ((2 : Int) < (4 : Int))), (true = true), ((1 : Nat) < (4 : Nat)), (((0 : Int) ≤ (1 : Int)) ∧ ((1 : Int) < (4 : Int))), ((0 : Int) ≤ (63 : Int)), ((2 : Nat) < (4 : Nat)), (((0 : Int) ≤ (2 : Int)) ∧ ((2 : Int) < (4 : Int))), ((1 : Nat) < (4 : Nat)), (((0 : Int) ≤ (1 : Int)) ∧ ((1 : Int) < (4 : Int))), (true = true), ((1 : Nat) < (4 : Nat)), (((0 : Int) ≤ (1 : Int)) ∧ ((1 : Int) < (4 : Int))), ((0 : Int) ≤ (1 : Int)), ((1 : Nat) < (4 : Nat)), (((0 : Int) ≤ (1 : Int)) ∧ ((1 : Int) < (4 : Int))), (true = true), ((0 : Nat) < (4 : Nat)), (((0 : Int) ≤ (0 : Int)) ∧ ((0 : Int) < (4 : Int))), ((0 : Int) ≤ (63 : Int)), ((1 : Nat) < (4 : Nat)), (((0 : Int) ≤ (1 : Int)) ∧ ((1 : Int) < (4 : Int))), ((0 : Nat) < (4 : Nat)), (((0 : Int) ≤ (0 : Int)) ∧ ((0 : Int) < (4 : Int))), (true = true), ((0 : Nat) < (4 : Nat)), (((0 : Int) ≤ (0 : Int)) ∧ ((0 : Int) < (4 : Int))), ((0 : Int) ≤ (1 : Int)), ((0 : Nat) < (4 : Nat)), (((0 : Int) ≤ (0 : Int)) ∧ ((0 : Int) < (4 : Int))), (true = true), ((some ⟨true, [.ints .u64 (4 : Nat) (W4 (difR (V4 ([6346243789798364141, 1503914060200516822, 0, 1152921504606846976] : List Int)) (V4 ([1, 0, 0, 0] : List Int))))]⟩ : Option Blk) = some ⟨true, [.ints .u64 (4 : Nat) ([6346243789798364140, 1503914060200516822, 0, 1152921504606846976] : List Int)]⟩), ((Wds ([6346243789798364141, 1503914060200516822, 0, 1152921504606846976] : List Int)) ∧ (Wds ([1, 0, 0, 0] : List Int)))]) (by kernel_rfl)
    (AllP_cons (by rw [lg_prog (by decide +kernel)]; exact decide_eq_false (fun h => absurd ((W4_one (lgP_b a)).1 h) hc.2)) (AllP_cons (by rw [lg_prog (by decide +kernel)]; exact decide_eq_false (fun h => absurd ((W4_zero (lgP_b a).1 (lgP_b a).2).1 h) hc.1)) (AllP_cons ⟨(wds_W4 _), (wds_four (by omega) (by omega) (by omega) (by omega))⟩ (AllP_cons (by assumption) (AllP_cons rfl (AllP_cons rfl (AllP_cons (by decide) (AllP_cons ⟨(by decide), (by decide)⟩ (AllP_cons (by decide) (AllP_cons (by decide) (AllP_cons ⟨(by decide), (by decide)⟩ (AllP_cons rfl (AllP_cons (by decide) (AllP_cons ⟨(by decide), (by decide)⟩ (AllP_cons (by decide) (AllP_cons (by decide) (AllP_cons ⟨(by decide), (by decide)⟩ (AllP_cons (by decide) (AllP_cons ⟨(by decide), (by decide)⟩ (AllP_cons rfl (AllP_cons (by decide) (AllP_cons ⟨(by decide), (by decide)⟩ (AllP_cons (by decide) (AllP_cons (by decide) (AllP_cons ⟨(by decide), (by decide)⟩ (AllP_cons rfl (AllP_cons (by decide) (AllP_cons ⟨(by decide), (by decide)⟩ (AllP_cons (by decide) (AllP_cons (by decide) (AllP_cons ⟨(by decide), (by decide)⟩ (AllP_cons (by decide) (AllP_cons ⟨(by decide), (by decide)⟩ (AllP_cons rfl (AllP_cons (by decide) (AllP_cons ⟨(by decide), (by decide)⟩ (AllP_cons (by decide) (AllP_cons (by decide) (AllP_cons ⟨(by decide), (by decide)⟩ (AllP_cons rfl (AllP_cons (by decide) (AllP_cons ⟨(by decide), (by decide)⟩ (AllP_cons (by decide) (AllP_cons (by decide) (AllP_cons ⟨(by decide), (by decide)⟩ (AllP_cons (by decide) (AllP_cons ⟨(by decide), (by decide)⟩ (AllP_cons rfl (AllP_cons (by decide) (AllP_cons ⟨(by decide), (by decide)⟩ (AllP_cons (by decide) (AllP_cons (by decide) (AllP_cons ⟨(by decide), (by decide)⟩ (AllP_cons rfl (AllP_cons ((by kernel_rfl)) (AllP_cons ⟨(wds_four (by omega) (by omega) (by omega) (by omega)), (wds_four (by omega) (by omega) (by omega) (by omega))⟩ (AllP_nil)))))))))))))))))))))))))))))))))))))))))))))))))))))))))

end Go.Proofs.Ytcpoldghkiiggaa.X

/- Squares by numbers. -/
namespace Go.Proofs.Ytcpoldghkiiggaa.X
open Go Go.Proofs
set_option linter.unusedVariables false
set_option maxRecDepth 100000

theorem lgp_num (a : List Int) (h0 : Byt a) (w : World) : Body Try.prog (tabOf tabQI) Try.f56 ⟨w, [], 0, noEnv⟩ (toA [.g [.ints .u8 (32 : Nat) a]]) [] (fun ys _ => ys = [.a (.i .i64 (legI a))]) :=
  Body.lens (c := (Try.f56.body.getD .skip)) rfl fun h => by
    have hl := h.vals 0 _ _ _ rfl
    unfold legI
    by_cases h1 : lgP a = 0
    · rw [if_pos h1]; exact lgpA_body0 a h0 hl h1 w
    · rw [if_neg h1]
      by_cases h2 : lgP a = 1
      · rw [if_pos h2]; exact lgpB_body0 a h0 hl h2 w
      · rw [if_neg h2]; exact lgpC_body0 a h0 hl ⟨h1, h2⟩ w
end Go.Proofs.Ytcpoldghkiiggaa.X

/- Printed by a tool of this session. -/
namespace Go.Proofs.Ytcpoldghkiiggaa.X
open Go Go.Proofs
set_option linter.unusedVariables false
set_option linter.unusedSimpArgs false
set_option maxRecDepth 100000
theorem lgp_num_pure (a : List Int) (h0 : (Byt a)) : PureC Try.prog 56 [.g [.ints .u8 (32 : Nat) a]] [.a (.i .i64 (legI a))] :=
  PureC.of_body tabOkQI Try.func56 rfl rfl fun w => lgp_num a h0 w

def gam59 : Gam := gpure 56 (fun args => match args with | [.o (.g [.ints .u8 (32 : Nat) a])] => some (some ((Byt a)), [.a (.i .i64 (legI a))]) | _ => none) gam58
theorem gam59_ok : GamOk Try.prog gam59 := gpure_ok gam58_ok Try.call56 (by
  intro args vc xs h hv
  split at h
  · simp only [Option.some.injEq, Prod.mk.injEq] at h; obtain ⟨rfl, rfl⟩ := h; exact ⟨_, by rfl, lgp_num_pure _ hv⟩
  · simp at h)

end Go.Proofs.Ytcpoldghkiiggaa.X

/- What Given lays down of bytes. -/
namespace Go.Proofs.Ytcpoldghkiiggaa.X
open Go Go.Proofs
set_option linter.unusedVariables false

theorem sub_all (l : List Int) (n : Nat) (h : l.length ≤ n) : sub l 0 n = l := by
  unfold sub; rw [List.drop_zero, List.take_of_length_le h]
end Go.Proofs.Ytcpoldghkiiggaa.X

/- Reduce, piece by piece. -/
namespace Go.Proofs.Ytcpoldghkiiggaa.X
open Go Go.Proofs
set_option linter.unusedVariables false
set_option maxRecDepth 100000

theorem tim_num (S T : List Int) (h0 : Wds S) (h1 : Wds T) (h2 : LtL T) (w : World) : Body Try.prog (tabOf tabNT) Try.f73 ⟨w, [], 0, noEnv⟩ (toA [.g [.ints .u64 (4 : Nat) S], .g [.ints .u64 (4 : Nat) T]]) [] (fun ys _ => ys = [.g [.ints .u64 (4 : Nat) (W4 (modL (V4 S * V4 T)))]]) := by
  have e : times S T = W4 (modL (V4 S * V4 T)) := by
    unfold times
    rw [V4_mont, V4_radx, times_eq]
  exact e ▸ times_body S T h0 h1 h2 w

theorem byt_sub {b : List Int} (h : Byt b) (c m : Nat) : Byt (sub b c m) := fun x hx => h x (List.mem_of_mem_drop (List.mem_of_mem_take hx))
theorem nb_app (a b : List Int) : nb (a ++ b) = nb a + 256 ^ a.length * nb b := by
  induction a with
  | nil => show nb b = 0 + 1 * nb b; omega
  | cons x a ih =>
    show x.toNat + 256 * nb (a ++ b) = x.toNat + 256 * nb a + 256 ^ (a.length + 1) * nb b
    rw [ih, Nat.pow_succ, Nat.mul_add, Nat.mul_comm (256 ^ a.length) 256, Nat.mul_assoc]; omega
end Go.Proofs.Ytcpoldghkiiggaa.X

/- Printed by a tool of this session. -/
namespace Go.Proofs.Ytcpoldghkiiggaa.X
open Go Go.Proofs
set_option linter.unusedVariables false
set_option linter.unusedSimpArgs false
set_option maxRecDepth 100000
theorem tim_num_pure (S : List Int) (T : List Int) (h0 : (Wds S)) (h1 : (Wds T)) (h2 : (LtL T)) : PureC Try.prog 73 [.g [.ints .u64 (4 : Nat) S], .g [.ints .u64 (4 : Nat) T]] [.g [.ints .u64 (4 : Nat) (W4 (modL ((V4 S) * (V4 T))))]] :=
  PureC.of_body tabOkNT Try.func73 rfl rfl fun w => tim_num S T h0 h1 h2 w

def gam66 : Gam := gpure 73 (fun args => match args with | [.o (.g [.ints .u64 (4 : Nat) S]), .o (.g [.ints .u64 (4 : Nat) T])] => some (some ((Wds S) ∧ (Wds T) ∧ (LtL T)), [.g [.ints .u64 (4 : Nat) (W4 (modL ((V4 S) * (V4 T))))]]) | _ => none) gam59
theorem gam66_ok : GamOk Try.prog gam66 := gpure_ok gam59_ok Try.call73 (by
  intro args vc xs h hv
  split at h
  · simp only [Option.some.injEq, Prod.mk.injEq] at h; obtain ⟨rfl, rfl⟩ := h; exact ⟨_, by rfl, tim_num_pure _ _ hv.1 hv.2.1 hv.2.2⟩
  · simp at h)

end Go.Proofs.Ytcpoldghkiiggaa.X

/- Digits of any bytes; Reduce, Decode, Canonical by numbers. -/
namespace Go.Proofs.Ytcpoldghkiiggaa.X
open Go Go.Proofs
set_option linter.unusedVariables false
set_option maxRecDepth 100000

theorem nb_take {b : List Int} {k : Nat} (h : k < b.length) : nb (b.take (k + 1)) = nb (b.take k) + 256 ^ k * (List.getD b k 0).toNat := by
  rw [List.take_add_one, List.getElem?_eq_getElem h, nb_app, List.length_take, Nat.min_eq_left (by omega), List.getD_eq_getElem?_getD, List.getElem?_eq_getElem h]
  rfl
end Go.Proofs.Ytcpoldghkiiggaa.X

/- Printed by a tool of this session. -/
namespace Go.Proofs.Ytcpoldghkiiggaa.X
open Go Go.Proofs
set_option linter.unusedVariables false
set_option linter.unusedSimpArgs false
set_option maxRecDepth 100000
theorem teQP_5 : TEOk Try.prog 5 ⟨.int .u8, 1, 1, [.i .u8 (0 : Int)], false⟩ :=
  TEOk.of Try.underlying5 (i := Try.t5) (by kernel_rfl) rfl rfl rfl (by kernel_rfl) (fun h => by cases h) (by kernel_rfl)
theorem teQP_22 : TEOk Try.prog 22 ⟨.slice 5, 1, 24, [.raw (.slice none 0 0)], false⟩ :=
  TEOk.of Try.underlying22 (i := Try.t22) (by kernel_rfl) rfl rfl rfl (by kernel_rfl) (fun h => by cases h) (by kernel_rfl)
theorem teQP_24 : TEOk Try.prog 24 ⟨.array 32 5, 32, 32, [.ints .u8 (32 : Nat) ([0, 0, 0, 0, 0, 0, 0, 0, 0, 0, 0, 0, 0, 0, 0, 0, 0, 0, 0, 0, 0, 0, 0, 0, 0, 0, 0, 0, 0, 0, 0, 0] : List Int)], true⟩ :=
  TEOk.of Try.underlying24 (i := Try.t24) (by kernel_rfl) rfl rfl rfl (by kernel_rfl) (fun _ => Try.eqGuardType24) (by kernel_rfl)
noncomputable def tabQP : List (Nat × TE) := [(5, ⟨.int .u8, 1, 1, [.i .u8 (0 : Int)], false⟩), (22, ⟨.slice 5, 1, 24, [.raw (.slice none 0 0)], false⟩), (24, ⟨.array 32 5, 32, 32, [.ints .u8 (32 : Nat) ([0, 0, 0, 0, 0, 0, 0, 0, 0, 0, 0, 0, 0, 0, 0, 0, 0, 0, 0, 0, 0, 0, 0, 0, 0, 0, 0, 0, 0, 0, 0, 0] : List Int)], true⟩)]
theorem tabOkQP : TabOk Try.prog (tabOf tabQP) := (tabOf_cons teQP_5 (tabOf_cons teQP_22 (tabOf_cons teQP_24 tabOf_nil)))

set_option maxHeartbeats 1000000 in
theorem deA_body0 (n : Nat) (nm : Nat) (b : List Int) (cap0 : Nat) (h0 : (nm = n)) (h1 : (n ≤ (140737488355328 : Nat))) (h2 : (Byt b)) (hc0 : n ≤ cap0) (hl0_0 : List.length b = nm) (hn : n ≠ 32) (w : World) (β : Env) : Body Try.prog (tabOf tabQP) Try.f15 ⟨w, [], 1, β⟩ [.o (.a (.sl 0 (0 : Nat) n cap0))] [some ⟨false, [.ints .u8 nm b]⟩] (fun ys _ => ys = [.g [.ints .u8 (32 : Nat) ([0, 0, 0, 0, 0, 0, 0, 0, 0, 0, 0, 0, 0, 0, 0, 0, 0, 0, 0, 0, 0, 0, 0, 0, 0, 0, 0, 0, 0, 0, 0, 0] : List Int)], .a (.i .i64 (3 : Int))]) :=
  Body.of_fin (Γ := gam66) (Λ := noLam) (Ψ := noPsi) (fuel := 0) (m := 17) (c := (Try.f15.body.getD .skip)) mix tabOkQP gam66_ok rfl (rs := [.cell 2 24, .tmp 3]) rfl rfl [true] []
    (vc := [((((n : Nat) : Int) != (32 : Int)) = true)]) (by kernel_rfl)
    (AllP_cons (bne_iff_ne.2 (by first | omega | decide)) (AllP_nil))

set_option maxHeartbeats 1000000 in
theorem deB_body0 (n : Nat) (nm : Nat) (b : List Int) (cap0 : Nat) (h0 : (nm = n)) (h1 : (n ≤ (140737488355328 : Nat))) (h2 : (Byt b)) (hc0 : n ≤ cap0) (hl0_0 : List.length b = nm) (hn : n = 32) (hd : ¬ BV b < LL) (w : World) (β : Env) : Body Try.prog (tabOf tabQP) Try.f15 ⟨w, [], 1, β⟩ [.o (.a (.sl 0 (0 : Nat) n cap0))] [some ⟨false, [.ints .u8 nm b]⟩] (fun ys _ => ys = [.g [.ints .u8 (32 : Nat) ([0, 0, 0, 0, 0, 0, 0, 0, 0, 0, 0, 0, 0, 0, 0, 0, 0, 0, 0, 0, 0, 0, 0, 0, 0, 0, 0, 0, 0, 0, 0, 0] : List Int)], .a (.i .i64 (21 : Int))]) :=
  Body.of_fin (Γ := gam66) (Λ := noLam) (Ψ := noPsi) (fuel := 0) (m := 17) (c := (Try.f15.body.getD .skip)) mix tabOkQP gam66_ok rfl (rs := [.cell 2 24, .tmp 3]) rfl rfl [false, true] []
    (vc := [((!(decide ((BV (sub b (0 : Nat) (32 : Nat))) < (LL)))) = true), (Byt (sub b (0 : Nat) (32 : Nat))), ((32 : Nat) ≤ nm), ((32 : Nat) ≤ n), ((((n : Nat) : Int) != (32 : Int)) = false)]) (by kernel_rfl)
    (AllP_cons (by rw [sub_all b 32 (by omega), decide_eq_false hd]; rfl) (AllP_cons (by first | exact byt_sub h2 _ _ | exact h2) (AllP_cons (by first | omega | decide) (AllP_cons (by first | omega | decide) (AllP_cons (bne_eq_false_iff_eq.2 (by first | omega | decide)) (AllP_nil))))))

def deC (b : List Int) : List Int :=
  (sub b (0 : Nat) (32 : Nat))

set_option maxHeartbeats 1000000 in
theorem deC_body0 (n : Nat) (nm : Nat) (b : List Int) (cap0 : Nat) (h0 : (nm = n)) (h1 : (n ≤ (140737488355328 : Nat))) (h2 : (Byt b)) (hc0 : n ≤ cap0) (hl0_0 : List.length b = nm) (hn : n = 32) (hd : BV b < LL) (w : World) (β : Env) : Body Try.prog (tabOf tabQP) Try.f15 ⟨w, [], 1, β⟩ [.o (.a (.sl 0 (0 : Nat) n cap0))] [some ⟨false, [.ints .u8 nm b]⟩] (fun ys _ => ys = [.g [.ints .u8 (32 : Nat) (deC b)], .a (.i .i64 (0 : Int))]) :=
  Body.of_fin (Γ := gam66) (Λ := noLam) (Ψ := noPsi) (fuel := 0) (m := 17) (c := (Try.f15.body.getD .skip)) mix tabOkQP gam66_ok rfl (rs := [.cell 2 24, .tmp 3]) rfl rfl [false, false] []
    (vc := [((!(decide ((BV (sub b (0 : Nat) (32 : Nat))) < (LL)))) = false), (Byt (sub b (0 : Nat) (32 : Nat))), ((32 : Nat) ≤ nm), ((32 : Nat) ≤ n), ((((n : Nat) : Int) != (32 : Int)) = false)]) (by kernel_rfl)
    (AllP_cons (by rw [sub_all b 32 (by omega), decide_eq_true hd]; rfl) (AllP_cons (by first | exact byt_sub h2 _ _ | exact h2) (AllP_cons (by first | omega | decide) (AllP_cons (by first | omega | decide) (AllP_cons (bne_eq_false_iff_eq.2 (by first | omega | decide)) (AllP_nil))))))

end Go.Proofs.Ytcpoldghkiiggaa.X

/- Decode in one form. -/
namespace Go.Proofs.Ytcpoldghkiiggaa.X
open Go Go.Proofs
set_option linter.unusedVariables false
set_option maxRecDepth 100000

def decL (n : Nat) (b : List Int) : List Int := if n = 32 then (if BV b < LL then sub b 0 32 else [0, 0, 0, 0, 0, 0, 0, 0, 0, 0, 0, 0, 0, 0, 0, 0, 0, 0, 0, 0, 0, 0, 0, 0, 0, 0, 0, 0, 0, 0, 0, 0]) else [0, 0, 0, 0, 0, 0, 0, 0, 0, 0, 0, 0, 0, 0, 0, 0, 0, 0, 0, 0, 0, 0, 0, 0, 0, 0, 0, 0, 0, 0, 0, 0]
def decE (n : Nat) (b : List Int) : Int := if n = 32 then (if BV b < LL then 0 else 21) else 3
theorem dec_num (n nm : Nat) (b : List Int) (cap0 : Nat) (h0 : nm = n) (h1 : n ≤ 140737488355328) (h2 : Byt b) (w : World) (β : Env) : Body Try.prog (tabOf tabQP) Try.f15 ⟨w, [], 1, β⟩ [.o (.a (.sl 0 (0 : Nat) n cap0))] [some ⟨false, [.ints .u8 nm b]⟩] (fun ys _ => ys = [.g [.ints .u8 (32 : Nat) (decL n b)], .a (.i .i64 (decE n b))]) :=
  Body.lens (c := (Try.f15.body.getD .skip)) rfl fun h => by
    have hc := h.caps 0 _ _ _ _ rfl
    have hl := h.lens 0 _ .u8 nm b rfl (by simp)
    unfold decL decE
    by_cases hn : n = 32
    · rw [if_pos hn, if_pos hn]
      by_cases hd : BV b < LL
      · rw [if_pos hd, if_pos hd]; exact deC_body0 n nm b cap0 h0 h1 h2 hc hl hn hd w β
      · rw [if_neg hd, if_neg hd]; exact deB_body0 n nm b cap0 h0 h1 h2 hc hl hn hd w β
    · rw [if_neg hn, if_neg hn]; exact deA_body0 n nm b cap0 h0 h1 h2 hc hl hn w β
end Go.Proofs.Ytcpoldghkiiggaa.X

/- Sums of numbers of bytes. -/
namespace Go.Proofs.Ytcpoldghkiiggaa.X
open Go Go.Proofs
set_option linter.unusedVariables false
set_option maxRecDepth 100000

theorem shr64i8 (x : Int) : shr .i64 x 8 = x / 256 := by
  have e : shr .i64 x 8 = x.fdiv 256 := rfl
  rw [e, Int.fdiv_eq_ediv_of_nonneg _ (by omega)]
/-- the carry at byte k -/
def smC (a b : List Int) : Nat → Int
  | 0 => 0
  | k + 1 => (smC a b k + List.getD a k 0 + List.getD b k 0) / 256
def smL (a b : List Int) : Nat → List Int
  | 0 => []
  | k + 1 => smL a b k ++ [(smC a b k + List.getD a k 0 + List.getD b k 0) % 256]
theorem smC_rng {a b : List Int} (ha : Byt a) (hb : Byt b) : ∀ k, 0 ≤ smC a b k ∧ smC a b k ≤ 1
  | 0 => by show (0 : Int) ≤ 0 ∧ (0 : Int) ≤ 1; omega
  | k + 1 => by
    have := smC_rng ha hb k
    have h1 := byt_get ha k
    have h2 := byt_get hb k
    show 0 ≤ (_ + _ + _) / 256 ∧ (_ + _ + _) / 256 ≤ 1
    omega
theorem smL_len (a b : List Int) : ∀ k, (smL a b k).length = k
  | 0 => rfl
  | k + 1 => by show (smL a b k ++ [_]).length = _; rw [List.length_append, smL_len a b k]; rfl
theorem smL_byt (a b : List Int) : ∀ k, Byt (smL a b k)
  | 0 => by intro x hx; cases hx
  | k + 1 => by
    intro x hx
    have hx : x ∈ smL a b k ++ [(smC a b k + List.getD a k 0 + List.getD b k 0) % 256] := hx
    rcases List.mem_append.1 hx with hx | hx
    · exact smL_byt a b k x hx
    · rw [List.mem_singleton] at hx; omega
theorem getD_ge {a : List Int} {k : Nat} (h : a.length ≤ k) : List.getD a k 0 = 0 := by
  rw [List.getD_eq_getElem?_getD, List.getElem?_eq_none h]; rfl
theorem nb_take1 {b : List Int} (k : Nat) : nb (b.take (k + 1)) = nb (b.take k) + 256 ^ k * (List.getD b k 0).toNat := by
  by_cases h : k < b.length
  · exact nb_take h
  · rw [getD_ge (by omega), List.take_of_length_le (by omega), List.take_of_length_le (by omega)]; rfl
theorem sm_inv {a b : List Int} (ha : Byt a) (hb : Byt b) : ∀ k, nb (smL a b k) + 256 ^ k * (smC a b k).toNat = nb (a.take k) + nb (b.take k)
  | 0 => rfl
  | k + 1 => by
    have ih := sm_inv ha hb k
    have hc := smC_rng ha hb k
    have h1 := byt_get ha k
    have h2 := byt_get hb k
    rw [nb_take1, nb_take1]
    show nb (smL a b k ++ [_]) + 256 ^ (k + 1) * ((_ + _ + _) / 256 : Int).toNat = _
    rw [nb_app, smL_len]
    show nb (smL a b k) + 256 ^ k * (((smC a b k + List.getD a k 0 + List.getD b k 0) % 256).toNat + 256 * 0) + _ = _
    have e : ((smC a b k + List.getD a k 0 + List.getD b k 0) % 256).toNat + 256 * ((smC a b k + List.getD a k 0 + List.getD b k 0) / 256).toNat = (smC a b k).toNat + (List.getD a k 0).toNat + (List.getD b k 0).toNat := by omega
    rw [Nat.mul_zero, Nat.add_zero, Nat.pow_succ, Nat.mul_assoc, Nat.add_assoc, ← Nat.mul_add, e, Nat.mul_add, Nat.mul_add]
    omega
def smR (a b : List Int) (N : Nat) : List Int := smL a b N ++ [smC a b N]
theorem smR_byt {a b : List Int} (ha : Byt a) (hb : Byt b) (N : Nat) : Byt (smR a b N) := by
  intro x hx
  rcases List.mem_append.1 hx with hx | hx
  · exact smL_byt a b N x hx
  · rw [List.mem_singleton] at hx; have := smC_rng ha hb N; omega
theorem smR_nb {a b : List Int} (ha : Byt a) (hb : Byt b) {N : Nat} (h1 : a.length ≤ N) (h2 : b.length ≤ N) : nb (smR a b N) = nb a + nb b := by
  have h := sm_inv ha hb N
  rw [List.take_of_length_le h1, List.take_of_length_le h2] at h
  unfold smR
  rw [nb_app, smL_len, ← h]; rfl
theorem smR_len (a b : List Int) (N : Nat) : (smR a b N).length = N + 1 := by
  unfold smR; rw [List.length_append, smL_len]; rfl
theorem sm_tt {a b : List Int} (ha : Byt a) (hb : Byt b) (k : Nat) : IntKind.i64.wrap (IntKind.i64.wrap (smC a b k + IntKind.i64.wrap (List.getD a k 0)) + IntKind.i64.wrap (List.getD b k 0)) = smC a b k + List.getD a k 0 + List.getD b k 0 := by
  have hc := smC_rng ha hb k
  have h1 := byt_get ha k
  have h2 := byt_get hb k
  rw [wrapI (x := List.getD a k 0) (by omega) (by omega), wrapI (x := List.getD b k 0) (by omega) (by omega), wrapI (x := smC a b k + List.getD a k 0) (by omega) (by omega), wrapI (by omega) (by omega)]
theorem sm_tf {a b : List Int} (ha : Byt a) (hb : Byt b) {k : Nat} (h : b.length ≤ k) : IntKind.i64.wrap (smC a b k + IntKind.i64.wrap (List.getD a k 0)) = smC a b k + List.getD a k 0 + List.getD b k 0 := by
  have hc := smC_rng ha hb k
  have h1 := byt_get ha k
  rw [getD_ge h, wrapI (x := List.getD a k 0) (by omega) (by omega), wrapI (by omega) (by omega)]; omega
theorem sm_ft {a b : List Int} (ha : Byt a) (hb : Byt b) {k : Nat} (h : a.length ≤ k) : IntKind.i64.wrap (smC a b k + IntKind.i64.wrap (List.getD b k 0)) = smC a b k + List.getD a k 0 + List.getD b k 0 := by
  have hc := smC_rng ha hb k
  have h1 := byt_get hb k
  rw [getD_ge h, wrapI (x := List.getD b k 0) (by omega) (by omega), wrapI (by omega) (by omega)]; omega
end Go.Proofs.Ytcpoldghkiiggaa.X

/- Printed by a tool of this session. -/
namespace Go.Proofs.Ytcpoldghkiiggaa.X
open Go Go.Proofs
set_option linter.unusedVariables false
set_option linter.unusedSimpArgs false
set_option maxRecDepth 100000
def gam72 : Gam := greadV 15 [.s 1] (fun vs args => match vs, args with | [⟨_, _, _, [.ints .u8 nm b]⟩], [a0] => some ((nm = (lenOfA a0)) ∧ ((lenOfA a0) ≤ (140737488355328 : Nat)) ∧ (Byt b), [.g [.ints .u8 (32 : Nat) (decL (lenOfA a0) b)], .a (.i .i64 (decE (lenOfA a0) b))]) | _, _ => none) gam66
theorem gam72_ok : GamOk Try.prog gam72 := greadV_ok tabOkQP Try.func15 gam66_ok Try.call15 (by
  intro vs args p xs h hv
  split at h
  · simp only [Option.some.injEq, Prod.mk.injEq] at h; obtain ⟨rfl, rfl⟩ := h; exact ⟨by rfl, fun caps w β => dec_num _ _ _ _ hv.1 hv.2.1 hv.2.2 w β⟩
  · simp at h)

end Go.Proofs.Ytcpoldghkiiggaa.X

/- Printed by a tool of this session. -/
namespace Go.Proofs.Ytcpoldghkiiggaa.X
open Go Go.Proofs
set_option linter.unusedVariables false
set_option linter.unusedSimpArgs false
set_option maxRecDepth 100000
theorem teQT_3 : TEOk Try.prog 3 ⟨.int .i64, 1, 8, [.i .i64 (0 : Int)], false⟩ :=
  TEOk.of Try.underlying3 (i := Try.t3) (by kernel_rfl) rfl rfl rfl (by kernel_rfl) (fun h => by cases h) (by kernel_rfl)
theorem teQT_5 : TEOk Try.prog 5 ⟨.int .u8, 1, 1, [.i .u8 (0 : Int)], false⟩ :=
  TEOk.of Try.underlying5 (i := Try.t5) (by kernel_rfl) rfl rfl rfl (by kernel_rfl) (fun h => by cases h) (by kernel_rfl)
theorem teQT_22 : TEOk Try.prog 22 ⟨.slice 5, 1, 24, [.raw (.slice none 0 0)], false⟩ :=
  TEOk.of Try.underlying22 (i := Try.t22) (by kernel_rfl) rfl rfl rfl (by kernel_rfl) (fun h => by cases h) (by kernel_rfl)
noncomputable def tabQT : List (Nat × TE) := [(3, ⟨.int .i64, 1, 8, [.i .i64 (0 : Int)], false⟩), (5, ⟨.int .u8, 1, 1, [.i .u8 (0 : Int)], false⟩), (22, ⟨.slice 5, 1, 24, [.raw (.slice none 0 0)], false⟩)]
theorem tabOkQT : TabOk Try.prog (tabOf tabQT) := (tabOf_cons teQT_3 (tabOf_cons teQT_5 (tabOf_cons teQT_22 tabOf_nil)))

def smLp_mk (n : Nat) (nm : Nat) (a : List Int) (m : Nat) (mm : Nat) (b : List Int) (cap0 : Nat) (cap1 : Nat) (k : Nat) (s : Unit) : St := ⟨sparse 54 [(0, .o (.a (.sl 0 (0 : Nat) n cap0))), (1, .o (.a (.sl 1 (0 : Nat) m cap1))), (4, .o (.a (.raw (.slice none 0 0)))), (5, .o (.a (.rs 2 (0 : Nat) k 1))), (6, .o (.a (.i .i64 (smC a b k)))), (7, .o (.a (.i .i64 ((k : Nat) : Int))))], [some ⟨false, [.ints .u8 nm a]⟩, some ⟨false, [.ints .u8 mm b]⟩, some ⟨true, [.ints .u8 k (smL a b k)]⟩]⟩

def smLp_step (k : Nat) (s : Unit) : Unit :=
  ()

set_option maxHeartbeats 1000000 in
theorem smLp_round_0 (n : Nat) (nm : Nat) (a : List Int) (m : Nat) (mm : Nat) (b : List Int) (cap0 : Nat) (cap1 : Nat) (h0 : (nm = n)) (h1 : (mm = m)) (h2 : (n ≤ (140737488351232 : Nat))) (h3 : (m ≤ (140737488351232 : Nat))) (h4 : (Byt a)) (h5 : (Byt b)) (hc0 : n ≤ cap0) (hc1 : m ≤ cap1) (hl0_0 : List.length a = nm) (hl1_0 : List.length b = mm) (w : World) (rw : List Nat) (β : Env) (k : Nat) (hk : k < (max n m)) (s : Unit) (ha : k < n) (hb : k < m) : Run Try.prog ⟨w, rw, 2, β⟩ (loopB Try.f42 0) (smLp_mk n nm a m mm b cap0 cap1 k s) (To ⟨w, rw, 2, β⟩ .normal (smLp_mk n nm a m mm b cap0 cap1 (k + 1) (smLp_step k s))) := by
  have e0 : ((sub (smL a b k) (0 : Nat) k) ++ ([(IntKind.u8.wrap (IntKind.i64.wrap ((IntKind.i64.wrap ((smC a b k) + (IntKind.i64.wrap (List.getD a k 0)))) + (IntKind.i64.wrap (List.getD b k 0)))))] : List Int)) = (smL a b (k + (1 : Nat))) := (by first | exact wrap_succ (by omega) | (rw [sm_tt h4 h5 k, shr64i8]; rfl) | (rw [sub_all _ _ (Nat.le_of_eq (smL_len _ _ _)), sm_tt h4 h5 k, wrap8]; rfl))
  have e1 : (shr .i64 (IntKind.i64.wrap ((IntKind.i64.wrap ((smC a b k) + (IntKind.i64.wrap (List.getD a k 0)))) + (IntKind.i64.wrap (List.getD b k 0)))) (8 : Int)) = (smC a b (k + (1 : Nat))) := (by first | exact wrap_succ (by omega) | (rw [sm_tt h4 h5 k, shr64i8]; rfl) | (rw [sub_all _ _ (Nat.le_of_eq (smL_len _ _ _)), sm_tt h4 h5 k, wrap8]; rfl))
  have e2 : (IntKind.i64.wrap (((k : Nat) : Int) + (1 : Int))) = (((k + (1 : Nat)) : Nat) : Int) := (by first | exact wrap_succ (by omega) | (rw [sm_tt h4 h5 k, shr64i8]; rfl) | (rw [sub_all _ _ (Nat.le_of_eq (smL_len _ _ _)), sm_tt h4 h5 k, wrap8]; rfl))
  have h := Run.of_outT (B := ⟨w, rw, 2, β⟩) (Λ := noLam) (Ψ := noPsi) (fuel := 0) (ora := [false, false, false, false, true, true, true, true, false]) (c := (loopB Try.f42 0)) (st := (smLp_mk n nm a m mm b cap0 cap1 k s)) (l := [.swap 2 4, .forget [0, 1, 4, 5, 6, 7] 3]) (s' := ⟨sparse 54 [(0, .o (.a (.sl 0 (0 : Nat) n cap0))), (1, .o (.a (.sl 1 (0 : Nat) m cap1))), (4, .o (.a (.raw (.slice none 0 0)))), (5, .o (.a (.rs 2 (0 : Nat) (k + (1 : Nat)) 1))), (6, .o (.a (.i .i64 (shr .i64 (IntKind.i64.wrap ((IntKind.i64.wrap ((smC a b k) + (IntKind.i64.wrap (List.getD a k 0)))) + (IntKind.i64.wrap (List.getD b k 0)))) (8 : Int))))), (7, .o (.a (.i .i64 (IntKind.i64.wrap (((k : Nat) : Int) + (1 : Int))))))], [some ⟨false, [.ints .u8 nm a]⟩, some ⟨false, [.ints .u8 mm b]⟩, some ⟨true, [.ints .u8 (k + (1 : Nat)) ((sub (smL a b k) (0 : Nat) k) ++ ([(IntKind.u8.wrap (IntKind.i64.wrap ((IntKind.i64.wrap ((smC a b k) + (IntKind.i64.wrap (List.getD a k 0)))) + (IntKind.i64.wrap (List.getD b k 0)))))] : List Int))]⟩]⟩) (ex := .normal) mix tabOkQT gam72_ok
    (vc := [((0 : Int) ≤ (8 : Int)), ((((0 : Nat) + k) ≤ k) ∧ (((1 : Nat) ≤ (1 : Nat)) ∧ ((1 : Nat) ≤ (1 : Nat))) ∧ (((k + (1 : Nat)) * (1 : Nat)) ≤ (140737488355328 : Nat))), (k < mm), (((0 : Int) ≤ ((k : Nat) : Int)) ∧ (((k : Nat) : Int) < ((m : Nat) : Int))), ((decide (((k : Nat) : Int) < ((m : Nat) : Int))) = true), (k < nm), (((0 : Int) ≤ ((k : Nat) : Int)) ∧ (((k : Nat) : Int) < ((n : Nat) : Int))), ((decide (((k : Nat) : Int) < ((n : Nat) : Int))) = true), (true = true), ((decide (((k : Nat) : Int) < ((n : Nat) : Int))) = true), ((decide (((k : Nat) : Int) < ((n : Nat) : Int))) = true), ((decide (((k : Nat) : Int) < ((n : Nat) : Int))) = true), ((decide (((k : Nat) : Int) < ((n : Nat) : Int))) = true), ((decide (((k : Nat) : Int) < ((n : Nat) : Int))) = true)]) (by kernel_rfl)
    (AllP_cons (by decide) (AllP_cons ⟨(by have hc := smC_rng h4 h5 k; first | omega | (simp (disch := omega) only [wrapI]; omega)), ⟨(by decide), (by decide)⟩, (by have hc := smC_rng h4 h5 k; first | omega | (simp (disch := omega) only [wrapI]; omega))⟩ (AllP_cons (by have hc := smC_rng h4 h5 k; first | omega | (simp (disch := omega) only [wrapI]; omega)) (AllP_cons ⟨(by have hc := smC_rng h4 h5 k; first | omega | (simp (disch := omega) only [wrapI]; omega)), (by have hc := smC_rng h4 h5 k; first | omega | (simp (disch := omega) only [wrapI]; omega))⟩ (AllP_cons (decide_eq_true (by omega)) (AllP_cons (by have hc := smC_rng h4 h5 k; first | omega | (simp (disch := omega) only [wrapI]; omega)) (AllP_cons ⟨(by have hc := smC_rng h4 h5 k; first | omega | (simp (disch := omega) only [wrapI]; omega)), (by have hc := smC_rng h4 h5 k; first | omega | (simp (disch := omega) only [wrapI]; omega))⟩ (AllP_cons (decide_eq_true (by omega)) (AllP_cons rfl (AllP_cons (decide_eq_true (by omega)) (AllP_cons (decide_eq_true (by omega)) (AllP_cons (decide_eq_true (by omega)) (AllP_cons (decide_eq_true (by omega)) (AllP_cons (decide_eq_true (by omega)) (AllP_nil)))))))))))))))
  rw [e0, e1, e2] at h
  exact h

set_option maxHeartbeats 1000000 in
theorem smLp_round_1 (n : Nat) (nm : Nat) (a : List Int) (m : Nat) (mm : Nat) (b : List Int) (cap0 : Nat) (cap1 : Nat) (h0 : (nm = n)) (h1 : (mm = m)) (h2 : (n ≤ (140737488351232 : Nat))) (h3 : (m ≤ (140737488351232 : Nat))) (h4 : (Byt a)) (h5 : (Byt b)) (hc0 : n ≤ cap0) (hc1 : m ≤ cap1) (hl0_0 : List.length a = nm) (hl1_0 : List.length b = mm) (w : World) (rw : List Nat) (β : Env) (k : Nat) (hk : k < (max n m)) (s : Unit) (ha : k < n) (hb : ¬ k < m) : Run Try.prog ⟨w, rw, 2, β⟩ (loopB Try.f42 0) (smLp_mk n nm a m mm b cap0 cap1 k s) (To ⟨w, rw, 2, β⟩ .normal (smLp_mk n nm a m mm b cap0 cap1 (k + 1) (smLp_step k s))) := by
  have e0 : ((sub (smL a b k) (0 : Nat) k) ++ ([(IntKind.u8.wrap (IntKind.i64.wrap ((smC a b k) + (IntKind.i64.wrap (List.getD a k 0)))))] : List Int)) = (smL a b (k + (1 : Nat))) := (by first | exact wrap_succ (by omega) | (rw [sm_tf h4 h5 (k := k) (by omega), shr64i8]; rfl) | (rw [sub_all _ _ (Nat.le_of_eq (smL_len _ _ _)), sm_tf h4 h5 (k := k) (by omega), wrap8]; rfl))
  have e1 : (shr .i64 (IntKind.i64.wrap ((smC a b k) + (IntKind.i64.wrap (List.getD a k 0)))) (8 : Int)) = (smC a b (k + (1 : Nat))) := (by first | exact wrap_succ (by omega) | (rw [sm_tf h4 h5 (k := k) (by omega), shr64i8]; rfl) | (rw [sub_all _ _ (Nat.le_of_eq (smL_len _ _ _)), sm_tf h4 h5 (k := k) (by omega), wrap8]; rfl))
  have e2 : (IntKind.i64.wrap (((k : Nat) : Int) + (1 : Int))) = (((k + (1 : Nat)) : Nat) : Int) := (by first | exact wrap_succ (by omega) | (rw [sm_tf h4 h5 (k := k) (by omega), shr64i8]; rfl) | (rw [sub_all _ _ (Nat.le_of_eq (smL_len _ _ _)), sm_tf h4 h5 (k := k) (by omega), wrap8]; rfl))
  have h := Run.of_outT (B := ⟨w, rw, 2, β⟩) (Λ := noLam) (Ψ := noPsi) (fuel := 0) (ora := [false, false, false, false, true, true, true, false, false]) (c := (loopB Try.f42 0)) (st := (smLp_mk n nm a m mm b cap0 cap1 k s)) (l := [.swap 2 4, .forget [0, 1, 4, 5, 6, 7] 3]) (s' := ⟨sparse 54 [(0, .o (.a (.sl 0 (0 : Nat) n cap0))), (1, .o (.a (.sl 1 (0 : Nat) m cap1))), (4, .o (.a (.raw (.slice none 0 0)))), (5, .o (.a (.rs 2 (0 : Nat) (k + (1 : Nat)) 1))), (6, .o (.a (.i .i64 (shr .i64 (IntKind.i64.wrap ((smC a b k) + (IntKind.i64.wrap (List.getD a k 0)))) (8 : Int))))), (7, .o (.a (.i .i64 (IntKind.i64.wrap (((k : Nat) : Int) + (1 : Int))))))], [some ⟨false, [.ints .u8 nm a]⟩, some ⟨false, [.ints .u8 mm b]⟩, some ⟨true, [.ints .u8 (k + (1 : Nat)) ((sub (smL a b k) (0 : Nat) k) ++ ([(IntKind.u8.wrap (IntKind.i64.wrap ((smC a b k) + (IntKind.i64.wrap (List.getD a k 0)))))] : List Int))]⟩]⟩) (ex := .normal) mix tabOkQT gam72_ok
    (vc := [((0 : Int) ≤ (8 : Int)), ((((0 : Nat) + k) ≤ k) ∧ (((1 : Nat) ≤ (1 : Nat)) ∧ ((1 : Nat) ≤ (1 : Nat))) ∧ (((k + (1 : Nat)) * (1 : Nat)) ≤ (140737488355328 : Nat))), ((decide (((k : Nat) : Int) < ((m : Nat) : Int))) = false), (k < nm), (((0 : Int) ≤ ((k : Nat) : Int)) ∧ (((k : Nat) : Int) < ((n : Nat) : Int))), ((decide (((k : Nat) : Int) < ((n : Nat) : Int))) = true), (true = true), ((decide (((k : Nat) : Int) < ((n : Nat) : Int))) = true), ((decide (((k : Nat) : Int) < ((n : Nat) : Int))) = true), ((decide (((k : Nat) : Int) < ((n : Nat) : Int))) = true), ((decide (((k : Nat) : Int) < ((n : Nat) : Int))) = true), ((decide (((k : Nat) : Int) < ((n : Nat) : Int))) = true)]) (by kernel_rfl)
    (AllP_cons (by decide) (AllP_cons ⟨(by have hc := smC_rng h4 h5 k; first | omega | (simp (disch := omega) only [wrapI]; omega)), ⟨(by decide), (by decide)⟩, (by have hc := smC_rng h4 h5 k; first | omega | (simp (disch := omega) only [wrapI]; omega))⟩ (AllP_cons (decide_eq_false (by omega)) (AllP_cons (by have hc := smC_rng h4 h5 k; first | omega | (simp (disch := omega) only [wrapI]; omega)) (AllP_cons ⟨(by have hc := smC_rng h4 h5 k; first | omega | (simp (disch := omega) only [wrapI]; omega)), (by have hc := smC_rng h4 h5 k; first | omega | (simp (disch := omega) only [wrapI]; omega))⟩ (AllP_cons (decide_eq_true (by omega)) (AllP_cons rfl (AllP_cons (decide_eq_true (by omega)) (AllP_cons (decide_eq_true (by omega)) (AllP_cons (decide_eq_true (by omega)) (AllP_cons (decide_eq_true (by omega)) (AllP_cons (decide_eq_true (by omega)) (AllP_nil)))))))))))))
  rw [e0, e1, e2] at h
  exact h

set_option maxHeartbeats 1000000 in
theorem smLp_round_2 (n : Nat) (nm : Nat) (a : List Int) (m : Nat) (mm : Nat) (b : List Int) (cap0 : Nat) (cap1 : Nat) (h0 : (nm = n)) (h1 : (mm = m)) (h2 : (n ≤ (140737488351232 : Nat))) (h3 : (m ≤ (140737488351232 : Nat))) (h4 : (Byt a)) (h5 : (Byt b)) (hc0 : n ≤ cap0) (hc1 : m ≤ cap1) (hl0_0 : List.length a = nm) (hl1_0 : List.length b = mm) (w : World) (rw : List Nat) (β : Env) (k : Nat) (hk : k < (max n m)) (s : Unit) (ha : ¬ k < n) (hb : k < m) : Run Try.prog ⟨w, rw, 2, β⟩ (loopB Try.f42 0) (smLp_mk n nm a m mm b cap0 cap1 k s) (To ⟨w, rw, 2, β⟩ .normal (smLp_mk n nm a m mm b cap0 cap1 (k + 1) (smLp_step k s))) := by
  have e0 : ((sub (smL a b k) (0 : Nat) k) ++ ([(IntKind.u8.wrap (IntKind.i64.wrap ((smC a b k) + (IntKind.i64.wrap (List.getD b k 0)))))] : List Int)) = (smL a b (k + (1 : Nat))) := (by first | exact wrap_succ (by omega) | (rw [sm_ft h4 h5 (k := k) (by omega), shr64i8]; rfl) | (rw [sub_all _ _ (Nat.le_of_eq (smL_len _ _ _)), sm_ft h4 h5 (k := k) (by omega), wrap8]; rfl))
  have e1 : (shr .i64 (IntKind.i64.wrap ((smC a b k) + (IntKind.i64.wrap (List.getD b k 0)))) (8 : Int)) = (smC a b (k + (1 : Nat))) := (by first | exact wrap_succ (by omega) | (rw [sm_ft h4 h5 (k := k) (by omega), shr64i8]; rfl) | (rw [sub_all _ _ (Nat.le_of_eq (smL_len _ _ _)), sm_ft h4 h5 (k := k) (by omega), wrap8]; rfl))
  have e2 : (IntKind.i64.wrap (((k : Nat) : Int) + (1 : Int))) = (((k + (1 : Nat)) : Nat) : Int) := (by first | exact wrap_succ (by omega) | (rw [sm_ft h4 h5 (k := k) (by omega), shr64i8]; rfl) | (rw [sub_all _ _ (Nat.le_of_eq (smL_len _ _ _)), sm_ft h4 h5 (k := k) (by omega), wrap8]; rfl))
  have h := Run.of_outT (B := ⟨w, rw, 2, β⟩) (Λ := noLam) (Ψ := noPsi) (fuel := 0) (ora := [true, true, true, true, false, true, false, true, false]) (c := (loopB Try.f42 0)) (st := (smLp_mk n nm a m mm b cap0 cap1 k s)) (l := [.swap 2 4, .forget [0, 1, 4, 5, 6, 7] 3]) (s' := ⟨sparse 54 [(0, .o (.a (.sl 0 (0 : Nat) n cap0))), (1, .o (.a (.sl 1 (0 : Nat) m cap1))), (4, .o (.a (.raw (.slice none 0 0)))), (5, .o (.a (.rs 2 (0 : Nat) (k + (1 : Nat)) 1))), (6, .o (.a (.i .i64 (shr .i64 (IntKind.i64.wrap ((smC a b k) + (IntKind.i64.wrap (List.getD b k 0)))) (8 : Int))))), (7, .o (.a (.i .i64 (IntKind.i64.wrap (((k : Nat) : Int) + (1 : Int))))))], [some ⟨false, [.ints .u8 nm a]⟩, some ⟨false, [.ints .u8 mm b]⟩, some ⟨true, [.ints .u8 (k + (1 : Nat)) ((sub (smL a b k) (0 : Nat) k) ++ ([(IntKind.u8.wrap (IntKind.i64.wrap ((smC a b k) + (IntKind.i64.wrap (List.getD b k 0)))))] : List Int))]⟩]⟩) (ex := .normal) mix tabOkQT gam72_ok
    (vc := [((0 : Int) ≤ (8 : Int)), ((((0 : Nat) + k) ≤ k) ∧ (((1 : Nat) ≤ (1 : Nat)) ∧ ((1 : Nat) ≤ (1 : Nat))) ∧ (((k + (1 : Nat)) * (1 : Nat)) ≤ (140737488355328 : Nat))), (k < mm), (((0 : Int) ≤ ((k : Nat) : Int)) ∧ (((k : Nat) : Int) < ((m : Nat) : Int))), ((decide (((k : Nat) : Int) < ((m : Nat) : Int))) = true), ((decide (((k : Nat) : Int) < ((n : Nat) : Int))) = false), ((decide (((k : Nat) : Int) < ((m : Nat) : Int))) = true), ((decide (((k : Nat) : Int) < ((n : Nat) : Int))) = false), ((decide (((k : Nat) : Int) < ((n : Nat) : Int))) = false), ((decide (((k : Nat) : Int) < ((n : Nat) : Int))) = false), ((decide (((k : Nat) : Int) < ((n : Nat) : Int))) = false), ((decide (((k : Nat) : Int) < ((n : Nat) : Int))) = false)]) (by kernel_rfl)
    (AllP_cons (by decide) (AllP_cons ⟨(by have hc := smC_rng h4 h5 k; first | omega | (simp (disch := omega) only [wrapI]; omega)), ⟨(by decide), (by decide)⟩, (by have hc := smC_rng h4 h5 k; first | omega | (simp (disch := omega) only [wrapI]; omega))⟩ (AllP_cons (by have hc := smC_rng h4 h5 k; first | omega | (simp (disch := omega) only [wrapI]; omega)) (AllP_cons ⟨(by have hc := smC_rng h4 h5 k; first | omega | (simp (disch := omega) only [wrapI]; omega)), (by have hc := smC_rng h4 h5 k; first | omega | (simp (disch := omega) only [wrapI]; omega))⟩ (AllP_cons (decide_eq_true (by omega)) (AllP_cons (decide_eq_false (by omega)) (AllP_cons (decide_eq_true (by omega)) (AllP_cons (decide_eq_false (by omega)) (AllP_cons (decide_eq_false (by omega)) (AllP_cons (decide_eq_false (by omega)) (AllP_cons (decide_eq_false (by omega)) (AllP_cons (decide_eq_false (by omega)) (AllP_nil)))))))))))))
  rw [e0, e1, e2] at h
  exact h

theorem smLp_round (n : Nat) (nm : Nat) (a : List Int) (m : Nat) (mm : Nat) (b : List Int) (cap0 : Nat) (cap1 : Nat) (h0 : (nm = n)) (h1 : (mm = m)) (h2 : (n ≤ (140737488351232 : Nat))) (h3 : (m ≤ (140737488351232 : Nat))) (h4 : (Byt a)) (h5 : (Byt b)) (hc0 : n ≤ cap0) (hc1 : m ≤ cap1) (hl0_0 : List.length a = nm) (hl1_0 : List.length b = mm) (w : World) (rw : List Nat) (β : Env) (k : Nat) (hk : k < (max n m)) (s : Unit) : Run Try.prog ⟨w, rw, 2, β⟩ (loopB Try.f42 0) (smLp_mk n nm a m mm b cap0 cap1 k s) (To ⟨w, rw, 2, β⟩ .normal (smLp_mk n nm a m mm b cap0 cap1 (k + 1) (smLp_step k s))) := by
  by_cases ha : k < n
  · by_cases hb : k < m
    · exact smLp_round_0 n nm a m mm b cap0 cap1 h0 h1 h2 h3 h4 h5 hc0 hc1 hl0_0 hl1_0 w rw β k hk s ha hb
    · exact smLp_round_1 n nm a m mm b cap0 cap1 h0 h1 h2 h3 h4 h5 hc0 hc1 hl0_0 hl1_0 w rw β k hk s ha hb
  · exact smLp_round_2 n nm a m mm b cap0 cap1 h0 h1 h2 h3 h4 h5 hc0 hc1 hl0_0 hl1_0 w rw β k hk s ha (show k < m by omega)

set_option maxHeartbeats 1000000 in
theorem smLp_last (n : Nat) (nm : Nat) (a : List Int) (m : Nat) (mm : Nat) (b : List Int) (cap0 : Nat) (cap1 : Nat) (h0 : (nm = n)) (h1 : (mm = m)) (h2 : (n ≤ (140737488351232 : Nat))) (h3 : (m ≤ (140737488351232 : Nat))) (h4 : (Byt a)) (h5 : (Byt b)) (hc0 : n ≤ cap0) (hc1 : m ≤ cap1) (hl0_0 : List.length a = nm) (hl1_0 : List.length b = mm) (w : World) (rw : List Nat) (β : Env) (s : Unit) : Run Try.prog ⟨w, rw, 2, β⟩ (loopB Try.f42 0) (smLp_mk n nm a m mm b cap0 cap1 (max n m) s) (To ⟨w, rw, 2, β⟩ (.exit 0) (smLp_mk n nm a m mm b cap0 cap1 (max n m) s)) :=
  Run.of_outT (B := ⟨w, rw, 2, β⟩) (Λ := noLam) (Ψ := noPsi) (fuel := 0) (ora := [true, true, true, true, false, false]) (l := [.forget [0, 1, 4, 5, 6, 7] 3]) mix tabOkQT gam72_ok
    (vc := [((decide ((((max n m) : Nat) : Int) < ((m : Nat) : Int))) = false), ((decide ((((max n m) : Nat) : Int) < ((n : Nat) : Int))) = false), ((decide ((((max n m) : Nat) : Int) < ((n : Nat) : Int))) = false), ((decide ((((max n m) : Nat) : Int) < ((n : Nat) : Int))) = false), ((decide ((((max n m) : Nat) : Int) < ((n : Nat) : Int))) = false), ((decide ((((max n m) : Nat) : Int) < ((n : Nat) : Int))) = false)]) (by kernel_rfl)
    (AllP_cons (decide_eq_false (by first | omega | (exact decide_eq_false (by omega)))) (AllP_cons (decide_eq_false (by first | omega | (exact decide_eq_false (by omega)))) (AllP_cons (decide_eq_false (by first | omega | (exact decide_eq_false (by omega)))) (AllP_cons (decide_eq_false (by first | omega | (exact decide_eq_false (by omega)))) (AllP_cons (decide_eq_false (by first | omega | (exact decide_eq_false (by omega)))) (AllP_cons (decide_eq_false (by first | omega | (exact decide_eq_false (by omega)))) (AllP_nil)))))))

theorem smLp_loop (n : Nat) (nm : Nat) (a : List Int) (m : Nat) (mm : Nat) (b : List Int) (cap0 : Nat) (cap1 : Nat) (h0 : (nm = n)) (h1 : (mm = m)) (h2 : (n ≤ (140737488351232 : Nat))) (h3 : (m ≤ (140737488351232 : Nat))) (h4 : (Byt a)) (h5 : (Byt b)) (hc0 : n ≤ cap0) (hc1 : m ≤ cap1) (hl0_0 : List.length a = nm) (hl1_0 : List.length b = mm) (w : World) (rw : List Nat) (β : Env) (s : Unit) : Run Try.prog ⟨w, rw, 2, β⟩ (.block 0 (.loop (loopB Try.f42 0))) (smLp_mk n nm a m mm b cap0 cap1 0 s) (To ⟨w, rw, 2, β⟩ .normal (smLp_mk n nm a m mm b cap0 cap1 (max n m) (iter (smLp_step) (max n m) s))) :=
  Run.count (fun k => smLp_mk n nm a m mm b cap0 cap1 k (iter (smLp_step) k s)) (max n m) (fun k hk => smLp_round n nm a m mm b cap0 cap1 h0 h1 h2 h3 h4 h5 hc0 hc1 hl0_0 hl1_0 w rw β k hk _) (ex := (.exit 0)) (by simp) (smLp_last n nm a m mm b cap0 cap1 h0 h1 h2 h3 h4 h5 hc0 hc1 hl0_0 hl1_0 w rw β _)

def smA (n : Nat) (m : Nat) : Nat :=
  ((max n m) + (1 : Nat))

def smA_1 (n : Nat) (a : List Int) (m : Nat) (b : List Int) : List Int :=
  ((sub (smL a b (max n m)) (0 : Nat) (max n m)) ++ ([(IntKind.u8.wrap (smC a b (max n m)))] : List Int))

set_option maxHeartbeats 1000000 in
theorem smA_body0 (n : Nat) (nm : Nat) (a : List Int) (m : Nat) (mm : Nat) (b : List Int) (cap0 : Nat) (cap1 : Nat) (h0 : (nm = n)) (h1 : (mm = m)) (h2 : (n ≤ (140737488351232 : Nat))) (h3 : (m ≤ (140737488351232 : Nat))) (h4 : (Byt a)) (h5 : (Byt b)) (hc0 : n ≤ cap0) (hc1 : m ≤ cap1) (hl0_0 : List.length a = nm) (hl1_0 : List.length b = mm) (w : World) (rw : List Nat) (β : Env) : Body Try.prog (tabOf tabQT) Try.f42 ⟨w, rw, 2, β⟩ [.o (.a (.sl 0 (0 : Nat) n cap0)), .o (.a (.sl 1 (0 : Nat) m cap1))] [some ⟨false, [.ints .u8 nm a]⟩, some ⟨false, [.ints .u8 mm b]⟩] (fun ys K' => ys = [.a (.rs 2 (0 : Nat) (smA n m) 1)] ∧ K' = [some ⟨false, [.ints .u8 nm a]⟩, some ⟨false, [.ints .u8 mm b]⟩, some ⟨true, [.ints .u8 (smA n m) (smA_1 n a m b)]⟩]) :=
  Body.of_finK (Γ := gam72) (Λ := lamOf [(0, ⟨[.rowS 5 .u8 1, .forget [0, 1, 4, 5, 6, 7] 3], .normal, (smLp_mk n nm a m mm b cap0 cap1 (max n m) (iter (smLp_step) (max n m) ()))⟩)]) (Ψ := noPsi) (fuel := 0) (m := 54) (c := (Try.f42.body.getD .skip)) mix tabOkQT gam72_ok rfl (rs := [.tmp 4]) rfl rfl [false] [.swap 2 4] 3
    (vc := [((((0 : Nat) + (max n m)) ≤ (max n m)) ∧ (((1 : Nat) ≤ (1 : Nat)) ∧ ((1 : Nat) ≤ (1 : Nat))) ∧ ((((max n m) + (1 : Nat)) * (1 : Nat)) ≤ (140737488355328 : Nat))), (Run Try.prog ⟨w, rw, 2, β⟩ (.block 0 (.loop (loopB Try.f42 0))) (smLp_mk n nm a m mm b cap0 cap1 0 ()) (To ⟨w, rw, 2, β⟩ .normal (smLp_mk n nm a m mm b cap0 cap1 (max n m) (iter (smLp_step) (max n m) ()))))]) (by kernel_rfl)
    (AllP_cons ⟨(by first | omega | decide), ⟨(by decide), (by decide)⟩, (by first | omega | decide)⟩ (AllP_cons (smLp_loop n nm a m mm b cap0 cap1 h0 h1 h2 h3 h4 h5 hc0 hc1 hl0_0 hl1_0 w rw β ()) (AllP_nil)))

theorem smA_body (n : Nat) (nm : Nat) (a : List Int) (m : Nat) (mm : Nat) (b : List Int) (cap0 : Nat) (cap1 : Nat) (h0 : (nm = n)) (h1 : (mm = m)) (h2 : (n ≤ (140737488351232 : Nat))) (h3 : (m ≤ (140737488351232 : Nat))) (h4 : (Byt a)) (h5 : (Byt b)) (w : World) (rw : List Nat) (β : Env) : Body Try.prog (tabOf tabQT) Try.f42 ⟨w, rw, 2, β⟩ [.o (.a (.sl 0 (0 : Nat) n cap0)), .o (.a (.sl 1 (0 : Nat) m cap1))] [some ⟨false, [.ints .u8 nm a]⟩, some ⟨false, [.ints .u8 mm b]⟩] (fun ys K' => ys = [.a (.rs 2 (0 : Nat) (smA n m) 1)] ∧ K' = [some ⟨false, [.ints .u8 nm a]⟩, some ⟨false, [.ints .u8 mm b]⟩, some ⟨true, [.ints .u8 (smA n m) (smA_1 n a m b)]⟩]) :=
  Body.lens (c := (Try.f42.body.getD .skip)) rfl fun h => smA_body0 n nm a m mm b cap0 cap1 h0 h1 h2 h3 h4 h5 (h.caps 0 _ _ _ _ rfl) (h.caps 1 _ _ _ _ rfl) (h.lens 0 _ .u8 nm a rfl (by simp)) (h.lens 1 _ .u8 mm b rfl (by simp)) w rw β

end Go.Proofs.Ytcpoldghkiiggaa.X

/- Bytes behind bytes, sums of bytes: in short. -/
namespace Go.Proofs.Ytcpoldghkiiggaa.X
open Go Go.Proofs
set_option linter.unusedVariables false
set_option maxRecDepth 100000

theorem smA_num (n : Nat) (nm : Nat) (a : List Int) (m : Nat) (mm : Nat) (b : List Int) (cap0 : Nat) (cap1 : Nat) (h0 : (nm = n)) (h1 : (mm = m)) (h2 : (n ≤ (140737488351232 : Nat))) (h3 : (m ≤ (140737488351232 : Nat))) (h4 : (Byt a)) (h5 : (Byt b)) (w : World) (rw : List Nat) (β : Env) : Body Try.prog (tabOf tabQT) Try.f42 ⟨w, rw, 2, β⟩ [.o (.a (.sl 0 (0 : Nat) n cap0)), .o (.a (.sl 1 (0 : Nat) m cap1))] [some ⟨false, [.ints .u8 nm a]⟩, some ⟨false, [.ints .u8 mm b]⟩] (fun ys K' => ys = [.a (.rs 2 (0 : Nat) (smA n m) 1)] ∧ K' = [some ⟨false, [.ints .u8 nm a]⟩, some ⟨false, [.ints .u8 mm b]⟩, some ⟨true, [.ints .u8 (smA n m) (smR a b (max n m))]⟩]) := by
  have e : smA_1 n a m b = smR a b (max n m) := by
    unfold smA_1 smR
    have hc := smC_rng h4 h5 (max n m)
    rw [sub_all _ _ (Nat.le_of_eq (smL_len _ _ _)), wrap8, Int.emod_eq_of_lt hc.1 (by omega)]
  exact e ▸ smA_body n nm a m mm b cap0 cap1 h0 h1 h2 h3 h4 h5 w rw β
end Go.Proofs.Ytcpoldghkiiggaa.X

/- Fermat and Euler, for the law of powers. -/
namespace Go.Proofs.Ytcpoldghkiiggaa.X
open Go Go.Proofs
set_option linter.unusedVariables false
set_option linter.unusedSimpArgs false
set_option maxRecDepth 100000

theorem LL_nat : ((LL.toNat : Nat) : Int) = LL := by decide +kernel
theorem dvd_mulL {x y : Int} (h : LL ∣ x * y) : LL ∣ x ∨ LL ∣ y := by
  rw [← LL_nat] at *
  have h1 := Int.natAbs_dvd_natAbs.2 h
  rw [Int.natAbs_mul, Int.natAbs_natCast] at h1
  rcases prm_mul prm_L h1 with h2 | h2
  · left; apply Int.natAbs_dvd_natAbs.1; rwa [Int.natAbs_natCast]
  · right; apply Int.natAbs_dvd_natAbs.1; rwa [Int.natAbs_natCast]
theorem modL_dvd {x : Int} : modL x = 0 ↔ LL ∣ x := ⟨Int.dvd_of_emod_eq_zero, Int.emod_eq_zero_of_dvd⟩
theorem modL_pow0 {x : Int} (h : modL x = 0) {n : Nat} (hn : 0 < n) : modL (x ^ n) = 0 := by
  rw [← modL_pow, h, show n = (n - 1) + 1 by omega, Int.pow_succ, Int.mul_zero]; rfl
theorem fermat_modL {x : Int} (h : modL x ≠ 0) : modL (x ^ (LL.toNat - 1)) = 1 := by
  rw [← modL_pow]
  exact fermat_L (modL_rng x).1 (by rw [show modL x % LL = modL x from modL_modL x]; exact h)
theorem eHalf_2 : eHalf + eHalf = LL.toNat - 1 := by decide +kernel
theorem eHalf_pos : 0 < eHalf := by decide +kernel
def hP (x : Int) : Int := modL (x ^ eHalf)
theorem hP_zero {x : Int} : hP x = 0 ↔ modL x = 0 := by
  constructor
  · intro h
    apply Classical.byContradiction
    intro hx
    have hf := fermat_modL hx
    rw [← eHalf_2, Int.pow_add, ← modL_mul] at hf
    have : modL (x ^ eHalf) = 0 := h
    rw [this] at hf
    exact absurd hf (by decide +kernel)
  · intro h; exact modL_pow0 h eHalf_pos
theorem euler {x : Int} : hP x = 0 ∨ hP x = 1 ∨ hP x = LL - 1 := by
  by_cases hx : modL x = 0
  · exact .inl (hP_zero.2 hx)
  · right
    have hf := fermat_modL hx
    rw [← eHalf_2, Int.pow_add, ← modL_mul] at hf
    have hf : modL (hP x * hP x) = 1 := hf
    have hr := modL_rng (x ^ eHalf)
    have hr : 0 ≤ hP x ∧ hP x < LL := ⟨hr.1, hr.2.1⟩
    have hd : LL ∣ (hP x - 1) * (hP x + 1) := by
      have e : (hP x - 1) * (hP x + 1) = hP x * hP x - 1 := by
        rw [Int.sub_mul, Int.mul_add, Int.mul_one, Int.one_mul]; omega
      rw [e, ← modL_dvd, ← modL_subl, hf]; rfl
    rcases dvd_mulL hd with h | h
    · left
      have h0 := modL_dvd.2 h
      unfold modL LL at *
      omega
    · right
      have h0 := modL_dvd.2 h
      unfold modL LL at *
      omega
def legV (x : Int) : Int := if hP x = 0 then 0 else if hP x = 1 then 1 else -1
theorem legI_V (a : List Int) : legI a = legV (BV a) := rfl
theorem hP_modL (x : Int) : hP (modL x) = hP x := modL_pow x eHalf
theorem legV_modL (x : Int) : legV (modL x) = legV x := by unfold legV; rw [hP_modL]
theorem legI_B32 (x : Int) : legI (B32 (modL x)) = legV x := by rw [legI_V, BV_modL, legV_modL]
theorem hP_mul (x y : Int) : hP (x * y) = modL (hP x * hP y) := by
  unfold hP
  rw [modL_mul, Int.mul_pow]
theorem LL_big : (2 : Int) < LL := by decide +kernel
theorem legV_mul (x y : Int) : legV (x * y) = legV x * legV y := by
  have hb := LL_big
  unfold legV
  rw [hP_mul]
  rcases euler (x := x) with h | h | h <;> rcases euler (x := y) with h' | h' | h' <;> rw [h, h']
  · decide +kernel
  · decide +kernel
  · decide +kernel
  · decide +kernel
  · decide +kernel
  · decide +kernel
  · decide +kernel
  · decide +kernel
  · decide +kernel
theorem legV_rng (x : Int) : legV x = 0 ∨ legV x = 1 ∨ legV x = -1 := by
  unfold legV; split; exact .inl rfl; split; exact .inr (.inl rfl); exact .inr (.inr rfl)
theorem legV_sq (x : Int) : legV (x * x) ≠ -1 := by
  rw [legV_mul]
  rcases legV_rng x with h | h | h <;> rw [h] <;> decide
theorem powV_B32 (x : Int) (e : List Int) : powV (B32 (modL x)) e = modL (x ^ nb e) := by
  unfold powV; rw [BV_modL, modL_pow]
theorem powV_pow (a e f : List Int) : powV (B32 (powV a e)) f = modL (BV a ^ (nb e * nb f)) := by
  unfold powV; rw [BV_modL, modL_pow, Int.pow_mul]
end Go.Proofs.Ytcpoldghkiiggaa.X

/- Printed by a tool of this session. -/
namespace Go.Proofs.Ytcpoldghkiiggaa.X
open Go Go.Proofs
set_option linter.unusedVariables false
set_option linter.unusedSimpArgs false
set_option maxRecDepth 100000
def gam76 : Gam := gcall 42 [] [.s 1, .s 1] (fun wk vs args => match wk, vs, args with | [], [⟨_, _, _, [.ints .u8 nm a]⟩, ⟨_, _, _, [.ints .u8 mm b]⟩], [.o (.a (.sl 0 0 n _)), .o (.a (.sl 1 0 m _))] => some ((nm = n) ∧ (mm = m) ∧ (n ≤ (140737488351232 : Nat)) ∧ (m ≤ (140737488351232 : Nat)) ∧ (Byt a) ∧ (Byt b), [.a (.rs 2 (0 : Nat) (smA n m) 1)], [some ⟨false, [.ints .u8 nm a]⟩, some ⟨false, [.ints .u8 mm b]⟩, some ⟨true, [.ints .u8 (smA n m) (smR a b (max n m))]⟩]) | _, _, _ => none) gam72
theorem gam76_ok : GamOk Try.prog gam76 := gcall_ok tabOkQT Try.func42 gam72_ok Try.call42 (by
  intro wk vs args p xs K1 h hv
  split at h
  · simp only [Option.some.injEq, Prod.mk.injEq] at h; obtain ⟨rfl, rfl, rfl⟩ := h; obtain ⟨g0, g1, g2, g3, g4, g5⟩ := hv; exact fun caps w rw β => smA_num _ _ _ _ _ _ _ _ g0 g1 g2 g3 g4 g5 w rw β
  · simp at h)

end Go.Proofs.Ytcpoldghkiiggaa.X

/- Printed by a tool of this session. -/
namespace Go.Proofs.Ytcpoldghkiiggaa.X
open Go Go.Proofs
set_option linter.unusedVariables false
set_option linter.unusedSimpArgs false
set_option maxRecDepth 100000
theorem teQX_3 : TEOk Try.prog 3 ⟨.int .i64, 1, 8, [.i .i64 (0 : Int)], false⟩ :=
  TEOk.of Try.underlying3 (i := Try.t3) (by kernel_rfl) rfl rfl rfl (by kernel_rfl) (fun h => by cases h) (by kernel_rfl)
theorem teQX_5 : TEOk Try.prog 5 ⟨.int .u8, 1, 1, [.i .u8 (0 : Int)], false⟩ :=
  TEOk.of Try.underlying5 (i := Try.t5) (by kernel_rfl) rfl rfl rfl (by kernel_rfl) (fun h => by cases h) (by kernel_rfl)
theorem teQX_22 : TEOk Try.prog 22 ⟨.slice 5, 1, 24, [.raw (.slice none 0 0)], false⟩ :=
  TEOk.of Try.underlying22 (i := Try.t22) (by kernel_rfl) rfl rfl rfl (by kernel_rfl) (fun h => by cases h) (by kernel_rfl)
noncomputable def tabQX : List (Nat × TE) := [(3, ⟨.int .i64, 1, 8, [.i .i64 (0 : Int)], false⟩), (5, ⟨.int .u8, 1, 1, [.i .u8 (0 : Int)], false⟩), (22, ⟨.slice 5, 1, 24, [.raw (.slice none 0 0)], false⟩)]
theorem tabOkQX : TabOk Try.prog (tabOf tabQX) := (tabOf_cons teQX_3 (tabOf_cons teQX_5 (tabOf_cons teQX_22 tabOf_nil)))

def ordB (x : Int) : List Int :=
  ((sub (([(IntKind.u8.wrap ((237 : Int) - x)), 211, 245, 92, 26, 99, 18, 88, 214, 156, 247, 162, 222, 249, 222, 20] : List Int) ++ (List.replicate (15 : Nat) (0 : Int))) (0 : Nat) (31 : Nat)) ++ ([16] : List Int))

set_option maxHeartbeats 1000000 in
theorem ordB_body0 (x : Int) (w : World) (rw : List Nat) (β : Env) : Body Try.prog (tabOf tabQX) Try.f58 ⟨w, rw, 0, β⟩ [.o (.a (.i .u8 x))] [] (fun ys K' => ys = [.a (.rs 0 (0 : Nat) (32 : Nat) 1)] ∧ K' = [some ⟨true, [.ints .u8 (32 : Nat) (ordB x)]⟩]) :=
  Body.of_finK (Γ := gam76) (Λ := noLam) (Ψ := noPsi) (fuel := 0) (m := 12) (c := (Try.f58.body.getD .skip)) mix tabOkQX gam76_ok rfl (rs := [.tmp 2]) rfl rfl [false, false] [.swap 0 3] 1
    (vc := [(((31 : Nat) ≤ (31 : Nat)) ∧ (((1 : Nat) ≤ (1 : Nat)) ∧ ((1 : Nat) ≤ (1 : Nat))) ∧ ((32 : Nat) ≤ (140737488355328 : Nat))), (((16 : Nat) ≤ (16 : Nat)) ∧ (((0 : Int) ≤ (15 : Int)) ∧ ((15 : Int) ≤ (281474976710656 : Int))) ∧ ((16 : Nat) < (31 : Nat)) ∧ ((31 : Nat) ≤ (140737488355328 : Nat)))]) (by kernel_rfl)
    (AllP_cons ⟨(by decide), ⟨(by decide), (by decide)⟩, (by decide)⟩ (AllP_cons ⟨(by decide), ⟨(by decide), (by decide)⟩, (by decide), (by decide)⟩ (AllP_nil)))

theorem ordB_body (x : Int) (w : World) (rw : List Nat) (β : Env) : Body Try.prog (tabOf tabQX) Try.f58 ⟨w, rw, 0, β⟩ [.o (.a (.i .u8 x))] [] (fun ys K' => ys = [.a (.rs 0 (0 : Nat) (32 : Nat) 1)] ∧ K' = [some ⟨true, [.ints .u8 (32 : Nat) (ordB x)]⟩]) :=
  Body.lens (c := (Try.f58.body.getD .skip)) rfl fun h => ordB_body0 x  w rw β

end Go.Proofs.Ytcpoldghkiiggaa.X

/- What the law of powers comes down to. -/
namespace Go.Proofs.Ytcpoldghkiiggaa.X
open Go Go.Proofs
set_option linter.unusedVariables false
set_option linter.unusedSimpArgs false
set_option maxRecDepth 100000

theorem nb_o1 : nb (sub (ordB 1) 0 32) = LL.toNat - 1 := by decide +kernel
theorem nb_o2 : nb (sub (ordB 2) 0 32) = eInv := by decide +kernel
theorem nb_oh : nb [246, 233, 122, 46, 141, 49, 9, 44, 107, 206, 123, 81, 239, 124, 111, 10, 0, 0, 0, 0, 0, 0, 0, 0, 0, 0, 0, 0, 0, 0, 0, 8] = eHalf := by decide +kernel
theorem fe1z {a : List Int} (h : modL (BV a) = 0) : B32 (powV a (sub (ordB 1) 0 32)) = [0, 0, 0, 0, 0, 0, 0, 0, 0, 0, 0, 0, 0, 0, 0, 0, 0, 0, 0, 0, 0, 0, 0, 0, 0, 0, 0, 0, 0, 0, 0, 0] := by
  unfold powV
  rw [nb_o1, modL_pow0 h (by decide +kernel), B32_0]
theorem fe1 {a : List Int} (h : modL (BV a) ≠ 0) : B32 (powV a (sub (ordB 1) 0 32)) = [1, 0, 0, 0, 0, 0, 0, 0, 0, 0, 0, 0, 0, 0, 0, 0, 0, 0, 0, 0, 0, 0, 0, 0, 0, 0, 0, 0, 0, 0, 0, 0] := by
  unfold powV
  rw [nb_o1, fermat_modL h, B32_one]
theorem fe2 {a : List Int} (h : modL (BV a) ≠ 0) : B32 (powV a (sub (ordB 2) 0 32)) = B32 (invN (BV a)) := by
  unfold powV invN
  rw [nb_o2, if_neg h]
theorem feh (a : List Int) : powV a [246, 233, 122, 46, 141, 49, 9, 44, 107, 206, 123, 81, 239, 124, 111, 10, 0, 0, 0, 0, 0, 0, 0, 0, 0, 0, 0, 0, 0, 0, 0, 8] = hP (BV a) := by
  unfold powV
  rw [nb_oh]; rfl
theorem neg_one : modL (negI (BV [1, 0, 0, 0, 0, 0, 0, 0, 0, 0, 0, 0, 0, 0, 0, 0, 0, 0, 0, 0, 0, 0, 0, 0, 0, 0, 0, 0, 0, 0, 0, 0])) = LL - 1 := by decide +kernel
theorem nz1 {x : Int} (h : hP x = 1) : modL x ≠ 0 := fun h0 => by rw [hP_zero.2 h0] at h; cases h
theorem nz2 {x : Int} (h : hP x = LL - 1) : modL x ≠ 0 := fun h0 => by rw [hP_zero.2 h0] at h; exact absurd h (by decide +kernel)
theorem leg0 {a : List Int} (h : modL (BV a) = 0) : legI a = 0 := by rw [legI_V]; unfold legV; rw [if_pos (hP_zero.2 h)]
theorem leg1 {a : List Int} (h : hP (BV a) = 1) : legI a = 1 := by rw [legI_V]; unfold legV; rw [h]; rfl
theorem leg2 {a : List Int} (h : hP (BV a) = LL - 1) : legI a = -1 := by
  rw [legI_V]; unfold legV; rw [h]; decide +kernel
theorem fe_mul (a b : List Int) : legI (B32 (modL (BV a * BV b))) = IntKind.i64.wrap (legI a * legI b) := by
  rw [legI_B32, legI_V, legI_V, legV_mul]
  rcases legV_rng (BV a) with h | h | h <;> rcases legV_rng (BV b) with h' | h' | h' <;> rw [h, h'] <;> decide
theorem fe_sq (a : List Int) : legI (B32 (modL (BV a * BV a))) ≠ -1 := by rw [legI_B32]; exact legV_sq _
theorem fe_swap (a e f : List Int) : B32 (powV (B32 (powV a e)) f) = B32 (powV (B32 (powV a f)) e) := by
  rw [powV_pow, powV_pow, Nat.mul_comm]
theorem fe_sum {a e f : List Int} {n m : Nat} (he : e.length = n) (hf : f.length = m) (be : Byt e) (bf : Byt f) : B32 (powV a (sub (smR e f (max n m)) 0 (smA n m))) = B32 (modL (BV (B32 (powV a e)) * BV (B32 (powV a f)))) := by
  have e1 : sub (smR e f (max n m)) 0 (smA n m) = smR e f (max n m) := sub_all _ _ (by rw [smR_len]; exact Nat.le_refl _)
  rw [e1, BV_pow, BV_pow]
  unfold powV
  rw [smR_nb be bf (by omega) (by omega), modL_mul, Int.pow_add]
theorem fe_prod (a b e : List Int) : B32 (powV (B32 (modL (BV a * BV b))) e) = B32 (modL (BV (B32 (powV a e)) * BV (B32 (powV b e)))) := by
  rw [powV_B32, BV_pow, BV_pow]
  unfold powV
  rw [modL_mul, Int.mul_pow]
end Go.Proofs.Ytcpoldghkiiggaa.X

/- Closed conditions, in short. -/
namespace Go.Proofs.Ytcpoldghkiiggaa.X
abbrev cI (i m : Int) : Prop := 0 ≤ i ∧ i < m
abbrev cN (i m : Nat) : Prop := i < m
abbrev cZ (i : Int) : Prop := 0 ≤ i
abbrev cT : Prop := true = true
theorem cI_ {i m : Int} (h : (decide (0 ≤ i) && decide (i < m)) = true) : cI i m := by
  rw [Bool.and_eq_true] at h; exact ⟨of_decide_eq_true h.1, of_decide_eq_true h.2⟩
theorem cN_ {i m : Nat} (h : decide (i < m) = true) : cN i m := of_decide_eq_true h
theorem cZ_ {i : Int} (h : decide (0 ≤ i) = true) : cZ i := of_decide_eq_true h
end Go.Proofs.Ytcpoldghkiiggaa.X

