/- Texts of this session, put together (part 3), less what nothing uses. -/
import Derived.Test.YtcpoldghkiiggaaGO2
import Derived.Test.YtcpoldghkiiggaaProg
import Derived.Laws.Externs
import Derived.KernelRfl
/- Texts of this session, put together (part 1). -/
/- Plain numbers for the walks of the scalars: words of 64 bits, Montgomery's product. -/
namespace Go.Proofs.Ytcpoldghkiiggaa.X
open Go Go.Proofs
set_option linter.unusedVariables false

theorem wrap64 (x : Int) : IntKind.u64.wrap x = x % 18446744073709551616 := by
 show (let m := x % (18446744073709551616 : Int); if (false && decide (m ≥ (9223372036854775808 : Int))) = true then m - 18446744073709551616 else m) = x % 18446744073709551616
 simp only [Bool.false_and, Bool.false_eq_true, if_false]

/-! the order -/
def LL : Int := 7237005577332262213973186563042994240857116359379907606001950938285454250989
def RI : Int := 4458503529701987551646482192314240623644693141688353256590997718326214331684

theorem mont_gen {T AB M R Q L RI : Int} (h : R * T = AB + M * L) (hR : R * RI = 1 + L * Q) : T % L = AB * RI % L := by
 have e : T = AB * RI + L * (M * RI - Q * T) := by
  have h3 : R * T * RI = (AB + M * L) * RI := by rw [h]
  have h4 : R * T * RI = T * (R * RI) := by rw [Int.mul_comm R T, Int.mul_assoc]
  have h5 : (AB + M * L) * RI = AB * RI + L * (M * RI) := by rw [Int.add_mul, Int.mul_comm M L, Int.mul_assoc]
  have h6 : T * (L * Q) = L * (Q * T) := by rw [Int.mul_left_comm, Int.mul_comm T]
  rw [hR, Int.mul_add, Int.mul_one, h6] at h4
  rw [Int.mul_sub]
  generalize L * (M * RI) = a at *
  generalize L * (Q * T) = b at *
  generalize AB * RI = c at *
  generalize R * T * RI = d at *
  omega
 rw [e, Int.add_mul_emod_self_left]
theorem mont_num {T AB M : Int} (h : 115792089237316195423570985008687907853269984665640564039457584007913129639936 * T = AB + M * LL) : T % LL = AB * RI % LL :=
 mont_gen (Q := 71336056475231800826343715077027849978041630819377026201054086228062141447707) h (by decide +kernel)

theorem mont_twice (AB : Int) : (AB * RI % LL) * 1627715501170711445284395025044413883736156588369414752970002579683115011841 * RI % LL = AB % LL := by
 rw [Int.mul_assoc, Int.mul_emod, Int.emod_emod_of_dvd _ (Int.dvd_refl LL), ← Int.mul_emod, Int.mul_assoc, Int.mul_emod]
 have : RI * (1627715501170711445284395025044413883736156588369414752970002579683115011841 * RI) % LL = 1 := by decide +kernel
 rw [this, Int.mul_one, Int.emod_emod_of_dvd _ (Int.dvd_refl LL)]

end Go.Proofs.Ytcpoldghkiiggaa.X

/- Plain numbers for the walks of the scalars: words of 64 bits, Montgomery's product. -/
namespace Go.Proofs.Ytcpoldghkiiggaa.X
open Go Go.Proofs
set_option linter.unusedVariables false

def V4 : List Int → Int
 | [a, b, c, d] => a + 18446744073709551616 * b + 340282366920938463463374607431768211456 * c + 6277101735386680763835789423207666416102355444464034512896 * d
 | _ => 0
def W4 (v : Int) : List Int := [v % 18446744073709551616, v / 18446744073709551616 % 18446744073709551616, v / 340282366920938463463374607431768211456 % 18446744073709551616, v / 6277101735386680763835789423207666416102355444464034512896 % 18446744073709551616]

theorem V4_W4 {v : Int} (h0 : 0 ≤ v) (h1 : v < 115792089237316195423570985008687907853269984665640564039457584007913129639936) : V4 (W4 v) = v := by
 show v % 18446744073709551616 + 18446744073709551616 * (v / 18446744073709551616 % 18446744073709551616) + 340282366920938463463374607431768211456 * (v / 340282366920938463463374607431768211456 % 18446744073709551616) + 6277101735386680763835789423207666416102355444464034512896 * (v / 6277101735386680763835789423207666416102355444464034512896 % 18446744073709551616) = v
 omega
theorem W4_eq {a b c d v : Int} (h : a + 18446744073709551616 * b + 340282366920938463463374607431768211456 * c + 6277101735386680763835789423207666416102355444464034512896 * d = v) (ha : 0 ≤ a ∧ a < 18446744073709551616) (hb : 0 ≤ b ∧ b < 18446744073709551616) (hc : 0 ≤ c ∧ c < 18446744073709551616) (hd : 0 ≤ d ∧ d < 18446744073709551616) : [a, b, c, d] = W4 v := by
 unfold W4
 have h1 : v % 18446744073709551616 = a := by omega
 have h2 : v / 18446744073709551616 % 18446744073709551616 = b := by omega
 have h3 : v / 340282366920938463463374607431768211456 % 18446744073709551616 = c := by omega
 have h4 : v / 6277101735386680763835789423207666416102355444464034512896 % 18446744073709551616 = d := by omega
 rw [h1, h2, h3, h4]
end Go.Proofs.Ytcpoldghkiiggaa.X

/- The carries of math/bits, functions without a body, vs contracts. -/
namespace Go.Proofs.Ytcpoldghkiiggaa.X
open Go Go.Proofs
set_option linter.unusedVariables false

abbrev cI (i m : Int) : Prop := 0 ≤ i ∧ i < m
abbrev cN (i m : Nat) : Prop := i < m
abbrev cZ (i : Int) : Prop := 0 ≤ i
abbrev cT : Prop := true = true
theorem dd {p : Prop} [Decidable p] (h : decide p = true) : p := of_decide_eq_true h
def nlA : Atom := .raw (.slice none 0 0)
def bT (l : List Atom) : Option Blk := some ⟨true, l⟩
def bF (l : List Atom) : Option Blk := some ⟨false, l⟩
theorem dt {p : Prop} [Decidable p] (h : p) : decide p = true := decide_eq_true h
theorem df {p : Prop} [Decidable p] (h : ¬p) : decide p = false := decide_eq_false h
def kb1 : Blk := ⟨false, [.rs 2 0 64 1, .rs 3 0 256 1, .rs 4 0 64 1, .rs 5 0 256 1]⟩
def kb2 : Blk := ⟨false, [nlA, .unk, nlA, nlA, .unk, nlA, nlA, nlA, nlA, nlA, nlA, nlA, nlA, nlA, nlA, nlA, nlA, nlA, nlA, nlA, nlA]⟩
def kb3 : Blk := ⟨false, [nlA, .rs 1 0 4 1, nlA, nlA, .unk, nlA, nlA, nlA, nlA, nlA, nlA, nlA, nlA, nlA, nlA, nlA, nlA, nlA, nlA, nlA, nlA]⟩
def kb4 : Blk := ⟨false, [nlA, .unk, nlA, nlA, .rs 1 0 3 1, nlA, nlA, nlA, nlA, nlA, nlA, nlA, nlA, nlA, nlA, nlA, nlA, nlA, nlA, nlA, nlA]⟩
def kb5 : Blk := ⟨true, [nlA, nlA, nlA, nlA, nlA, nlA, nlA, nlA, nlA, nlA, nlA, nlA, nlA, nlA, nlA, nlA, nlA, nlA, nlA, nlA, nlA]⟩
def kb6 : Blk := ⟨false, [nlA, .unk, nlA, nlA, .rs 1 0 2 1, nlA, nlA, nlA, nlA, nlA, nlA, nlA, nlA, nlA, nlA, nlA, nlA, nlA, nlA, nlA, nlA]⟩
def kb7 : Blk := ⟨false, [nlA, .unk, nlA, nlA, .rs 1 0 1 1, nlA, nlA, nlA, nlA, nlA, nlA, nlA, nlA, nlA, nlA, nlA, nlA, nlA, nlA, nlA, nlA]⟩
def kb8 : Blk := ⟨true, [.rs 6 0 104 1, .rs 9 0 296 1, .rs 12 0 104 1, .rs 15 0 296 1]⟩
def kb9 : Blk := ⟨true, [.rs 6 0 104 1, .rs 9 0 296 1, .rs 12 0 104 1]⟩
def kb10 : Blk := ⟨true, [.rs 2 0 64 1, .rs 3 0 256 1, .rs 4 0 64 1]⟩
def kb11 : Blk := ⟨true, [nlA, nlA, nlA, nlA, .rs 1 0 1 1, nlA, nlA, nlA, nlA, nlA, nlA, nlA, nlA, nlA, nlA, nlA, nlA, nlA, nlA, nlA, nlA]⟩
theorem mix : Try.prog.follows .mixedOrders = true := by kernel_rfl

def ad64s (x y c : Int) : Int := (x + y + c) % 18446744073709551616
def ad64c (x y c : Int) : Int := (x + y + c) / 18446744073709551616
def sb64s (x y b : Int) : Int := (x + 18446744073709551616 - y - b) % 18446744073709551616
def sb64c (x y b : Int) : Int := if x < y + b then 1 else 0

def sub64Entry : Array Value → Sem Value := fun args => do
 let (x, y, b) ← Extern.MathBitsCarry.three "Sub64" args
 pure (Extern.MathBitsCarry.pair ((x + Extern.MathBitsCarry.m64 - y - b) % Extern.MathBitsCarry.m64) (if x < y + b then 1 else 0))

theorem run_sub64 {P : Program} (x y c : Int) (hx : 0 ≤ x) (hy : 0 ≤ y) (hy1 : y < 18446744073709551616) (hc0 : 0 ≤ c) (hc : c ≤ 1) (w : World) :
  (sub64Entry #[.int .u64 x, .int .u64 y, .int .u64 c]).run P w = .ok (.tuple #[.int .u64 (sb64s x y c), .int .u64 (sb64c x y c)]) w := by
 have key : ∀ k : Nat, k ≤ 1 → (sub64Entry #[.int .u64 x, .int .u64 y, .int .u64 (k : Int)]).run P w =
   .ok (Extern.MathBitsCarry.pair ((x.toNat + Extern.MathBitsCarry.m64 - y.toNat - k) % Extern.MathBitsCarry.m64) (if x.toNat < y.toNat + k then 1 else 0)) w := by
  intro k hk
  have : k = 0 ∨ k = 1 := by omega
  rcases this with rfl | rfl <;> rfl
 obtain ⟨k, rfl⟩ := Int.eq_ofNat_of_zero_le hc0
 rw [key k (by omega)]
 obtain ⟨X, rfl⟩ := Int.eq_ofNat_of_zero_le hx
 obtain ⟨Y, rfl⟩ := Int.eq_ofNat_of_zero_le hy
 have e1 : Int.ofNat ((X + 18446744073709551616 - Y - k) % 18446744073709551616) = sb64s (X : Int) (Y : Int) (k : Int) := by
  unfold sb64s
  rw [Int.ofNat_eq_natCast, Int.natCast_emod]
  congr 1
  omega
 have e2 : Int.ofNat (if X < Y + k then 1 else 0) = sb64c (X : Int) (Y : Int) (k : Int) := by
  unfold sb64c
  by_cases h : X < Y + k
  ·rw [if_pos h, if_pos (by omega)]; rfl
  ·rw [if_neg h, if_neg (by omega)]; rfl
 have m : Extern.MathBitsCarry.m64 = 18446744073709551616 := rfl
 simp only [Extern.MathBitsCarry.pair, Int.toNat_natCast, m]
 rw [e1, e2]

def gbits : Gam := gext 105 (fun args => match args with
  | [.o (.a (.i .u64 x)), .o (.a (.i .u64 y)), .o (.a (.i .u64 c))] => some (some (0 ≤ x ∧ 0 ≤ y ∧ 0 ≤ c ∧ c ≤ 1), [.a (.i .u64 (ad64s x y c)), .a (.i .u64 (ad64c x y c))])
  | _ => none)
 (gext 131 (fun args => match args with
  | [.o (.a (.i .u64 x)), .o (.a (.i .u64 y)), .o (.a (.i .u64 c))] => some (some (0 ≤ x ∧ 0 ≤ y ∧ y < 18446744073709551616 ∧ 0 ≤ c ∧ c ≤ 1), [.a (.i .u64 (sb64s x y c)), .a (.i .u64 (sb64c x y c))])
  | _ => none) gnil)

theorem three_args {β : Env} {k1 k2 k3 : IntKind} {x y z : Int} {vs : List Value} (h : allC β [.o (.a (.i k1 x)), .o (.a (.i k2 y)), .o (.a (.i k3 z))] vs) : vs = [.int k1 x, .int k2 y, .int k3 z] := by
 obtain ⟨a, r, rfl, h1, b, r2, rfl, h2, c, r3, rfl, h3, rfl⟩ := h
 have h1 : [a] = [Value.int k1 x] := h1
 have h2 : [b] = [Value.int k2 y] := h2
 have h3 : [c] = [Value.int k3 z] := h3
 simp only [List.cons.injEq, and_true] at h1 h2 h3
 rw [h1, h2, h3]

theorem gbits_ok : GamOk Try.prog gbits := by
 refine gext_ok (gext_ok gnil_ok ?_) ?_
 ·intro args vc xs h hvc β w vs ha
  split at h
  ·rename_i x y c
   simp only [Option.some.injEq, Prod.mk.injEq] at h; obtain ⟨rfl, rfl⟩ := h
   obtain ⟨h1, h2, h3, h4, h5⟩ := hvc
   rw [three_args ha]
   refine ⟨.tuple #[.int .u64 (sb64s x y c), .int .u64 (sb64c x y c)], ?_, ?_⟩
   ·rw [run_callFunc_extern (e := sub64Entry) Try.func131 (by kernel_rfl) (by kernel_rfl) (by kernel_rfl) (by kernel_rfl), run_sub64 x y c h1 h2 h3 h4 h5]; rfl
   ·exact ⟨_, rfl, _, _, rfl, rfl, _, _, rfl, rfl, rfl⟩
  ·simp at h
 ·intro args vc xs h hvc β w vs ha
  split at h
  ·rename_i x y c
   simp only [Option.some.injEq, Prod.mk.injEq] at h; obtain ⟨rfl, rfl⟩ := h
   obtain ⟨h1, h2, h3, h4⟩ := hvc
   rw [three_args ha]
   refine ⟨.tuple #[.int .u64 (ad64s x y c), .int .u64 (ad64c x y c)], ?_, ?_⟩
   ·rw [run_callFunc_extern (e := add64Entry) Try.func105 (by kernel_rfl) (by kernel_rfl) (by kernel_rfl) (by kernel_rfl), run_add64 x y c h1 h2 h3 h4]; rfl
   ·exact ⟨_, rfl, _, _, rfl, rfl, _, _, rfl, rfl, rfl⟩
  ·simp at h
end Go.Proofs.Ytcpoldghkiiggaa.X

/- Printed by a tool of this session. -/
namespace Go.Proofs.Ytcpoldghkiiggaa.X
open Go Go.Proofs
set_option linter.unusedVariables false
set_option linter.unusedSimpArgs false
set_option maxRecDepth 100000
set_option maxHeartbeats 8000000
noncomputable def tabNE : List (Nat × TE) := []
theorem tabOkNE : TabOk Try.prog (tabOf tabNE) := tabOf_nil

def mul64 (x y : Int) : Int :=
 let z0 : Int := (IntKind.u64.wrap ((IntKind.u64.wrap ((shr .u64 x (32 : Int)) * (bits2 .and .u64 y (4294967295 : Int)))) + (shr .u64 (IntKind.u64.wrap ((bits2 .and .u64 x (4294967295 : Int)) * (bits2 .and .u64 y (4294967295 : Int)))) (32 : Int))))
 (IntKind.u64.wrap ((IntKind.u64.wrap ((IntKind.u64.wrap ((shr .u64 x (32 : Int)) * (shr .u64 y (32 : Int)))) + (shr .u64 z0 (32 : Int)))) + (shr .u64 (IntKind.u64.wrap ((bits2 .and .u64 z0 (4294967295 : Int)) + (IntKind.u64.wrap ((bits2 .and .u64 x (4294967295 : Int)) * (shr .u64 y (32 : Int)))))) (32 : Int))))

def mul64_1 (x y : Int) : Int :=
 (IntKind.u64.wrap (x * y))

theorem mul64_body0 (x y : Int) (w : World) : Body Try.prog (tabOf tabNE) Try.f152 ⟨w, [], 0, noEnv⟩ (toA [.a (.i .u64 x), .a (.i .u64 y)]) [] (fun ys _ => ys = [.a (.i .u64 (mul64 x y)), .a (.i .u64 (mul64_1 x y))]) :=
 Body.of_fin (Γ := gbits) (Λ := noLam) (Ψ := noPsi) (fuel := 0) (m := 51) (c := (Try.f152.body.getD .skip)) mix tabOkNE gbits_ok rfl (rs := [.tmp 4, .tmp 5]) rfl rfl [] []
  (vc := [((0 : Int) ≤ 32), ((0 : Int) ≤ 32), ((0 : Int) ≤ 32), ((0 : Int) ≤ 32), ((0 : Int) ≤ 32)]) (by kernel_rfl)
  (aC (by decide) (aC (by decide) (aC (by decide) (aC (by decide) (aC (by decide) (AllP_nil))))))

theorem mul64_body (x y : Int) (w : World) : Body Try.prog (tabOf tabNE) Try.f152 ⟨w, [], 0, noEnv⟩ (toA [.a (.i .u64 x), .a (.i .u64 y)]) [] (fun ys _ => ys = [.a (.i .u64 (mul64 x y)), .a (.i .u64 (mul64_1 x y))]) :=
 Body.lens (c := (Try.f152.body.getD .skip)) rfl fun h => mul64_body0 x y  w

theorem mul64_pure (x y : Int) : PureC Try.prog 152 [.a (.i .u64 x), .a (.i .u64 y)] [.a (.i .u64 (mul64 x y)), .a (.i .u64 (mul64_1 x y))] :=
 PureC.of_body tabOkNE Try.func152 rfl rfl fun w => mul64_body x y w

def gam1 : Gam := gpure 152 (fun args => match args with | [.o (.a (.i .u64 x)), .o (.a (.i .u64 y))] => some (none, [.a (.i .u64 (mul64 x y)), .a (.i .u64 (mul64_1 x y))]) | _ => none) gbits
theorem gam1_ok : GamOk Try.prog gam1 := gpure_ok gbits_ok Try.call152 (by
 intro args vc xs h hv
 split at h
 ·simp only [Option.some.injEq, Prod.mk.injEq] at h; obtain ⟨rfl, rfl⟩ := h; exact ⟨_, by rfl, mul64_pure _ _⟩
 ·simp at h)

end Go.Proofs.Ytcpoldghkiiggaa.X

/- The product of two words, in two words. -/
namespace Go.Proofs.Ytcpoldghkiiggaa.X
open Go Go.Proofs
set_option linter.unusedVariables false

theorem b_and32 {x : Int} (h0 : 0 ≤ x) (h1 : x < 18446744073709551616) : bits2 .and .u64 x 4294967295 = x % 4294967296 := by
 have e : bits2 .and .u64 x 4294967295 = IntKind.u64.wrap (((BitVec.ofInt 64 x &&& BitVec.ofInt 64 4294967295).toNat : Nat) : Int) := rfl
 obtain ⟨n, rfl⟩ := Int.eq_ofNat_of_zero_le h0
 have h1 : n < 18446744073709551616 := by omega
 rw [e, BitVec.toNat_and]
 have e1 : (BitVec.ofInt 64 (n : Int)).toNat = n := by
  rw [BitVec.toNat_ofInt]
  show ((n : Int) % 18446744073709551616).toNat = n
  omega
 have e2 : (BitVec.ofInt 64 4294967295).toNat = 2 ^ 32 - 1 := by rfl
 rw [e1, e2, Nat.and_two_pow_sub_one_eq_mod, wrap64]
 omega
theorem shr32 {x : Int} : shr .u64 x 32 = x / 4294967296 := by
 have e : shr .u64 x 32 = x.fdiv 4294967296 := rfl
 rw [e, Int.fdiv_eq_ediv_of_nonneg _ (by omega)]

theorem mul_le32 {a b : Int} (ha : 0 ≤ a) (ha1 : a < 4294967296) (hb : 0 ≤ b) (hb1 : b < 4294967296) : 0 ≤ a * b ∧ a * b ≤ 18446744065119617025 :=
 ⟨Int.mul_nonneg ha hb, by
  have := Int.mul_le_mul (show a ≤ 4294967295 by omega) (show b ≤ 4294967295 by omega) hb (by omega)
  omega⟩

theorem mul64_eq {x y : Int} (hx : 0 ≤ x) (hx1 : x < 18446744073709551616) (hy : 0 ≤ y) (hy1 : y < 18446744073709551616) :
  18446744073709551616 * mul64 x y + mul64_1 x y = x * y ∧ 0 ≤ mul64 x y ∧ mul64 x y ≤ 18446744073709551614 ∧ 0 ≤ mul64_1 x y ∧ mul64_1 x y < 18446744073709551616 := by
 have hX : x = x % 4294967296 + 4294967296 * (x / 4294967296) := by omega
 have hY : y = y % 4294967296 + 4294967296 * (y / 4294967296) := by omega
 have p00 := mul_le32 (a := x % 4294967296) (b := y % 4294967296) (by omega) (by omega) (by omega) (by omega)
 have p10 := mul_le32 (a := x / 4294967296) (b := y % 4294967296) (by omega) (by omega) (by omega) (by omega)
 have p01 := mul_le32 (a := x % 4294967296) (b := y / 4294967296) (by omega) (by omega) (by omega) (by omega)
 have p11 := mul_le32 (a := x / 4294967296) (b := y / 4294967296) (by omega) (by omega) (by omega) (by omega)
 have hxy : x * y = (x % 4294967296) * (y % 4294967296) + 4294967296 * ((x / 4294967296) * (y % 4294967296)) + 4294967296 * ((x % 4294967296) * (y / 4294967296)) + 18446744073709551616 * ((x / 4294967296) * (y / 4294967296)) := by
  conv => lhs; rw [hX, hY]
  rw [Int.add_mul, Int.mul_add, Int.mul_add]
  have e1 : x % 4294967296 * (4294967296 * (y / 4294967296)) = 4294967296 * (x % 4294967296 * (y / 4294967296)) := Int.mul_left_comm _ _ _
  have e2 : 4294967296 * (x / 4294967296) * (y % 4294967296) = 4294967296 * (x / 4294967296 * (y % 4294967296)) := Int.mul_assoc _ _ _
  have e3 : 4294967296 * (x / 4294967296) * (4294967296 * (y / 4294967296)) = 18446744073709551616 * (x / 4294967296 * (y / 4294967296)) := by
   rw [Int.mul_assoc, Int.mul_left_comm (x / 4294967296), ← Int.mul_assoc]; rfl
  rw [e1, e2, e3]
  generalize x % 4294967296 * (y % 4294967296) = a
  generalize x % 4294967296 * (y / 4294967296) = b
  generalize x / 4294967296 * (y % 4294967296) = c
  generalize x / 4294967296 * (y / 4294967296) = d
  omega
 have hlo : mul64_1 x y = x * y % 18446744073709551616 := wrap64 _
 have hhi : mul64 x y = x / 4294967296 * (y / 4294967296) + (x / 4294967296 * (y % 4294967296) + x % 4294967296 * (y % 4294967296) / 4294967296) / 4294967296 + ((x / 4294967296 * (y % 4294967296) + x % 4294967296 * (y % 4294967296) / 4294967296) % 4294967296 + x % 4294967296 * (y / 4294967296)) / 4294967296 := by
  unfold mul64
  simp only [b_and32 hx hx1, b_and32 hy hy1, shr32, wrap64]
  generalize x % 4294967296 * (y % 4294967296) = a at *
  generalize x % 4294967296 * (y / 4294967296) = b at *
  generalize x / 4294967296 * (y % 4294967296) = c at *
  generalize x / 4294967296 * (y / 4294967296) = d at *
  have ea : a % 18446744073709551616 = a := by omega
  have eb : b % 18446744073709551616 = b := by omega
  have ec : c % 18446744073709551616 = c := by omega
  have ed : d % 18446744073709551616 = d := by omega
  rw [ea, eb, ec, ed]
  have e1 : (c + a / 4294967296) % 18446744073709551616 = c + a / 4294967296 := by omega
  rw [e1, b_and32 (by omega) (by omega)]
  omega
 rw [hlo, hhi, hxy]
 generalize x % 4294967296 * (y % 4294967296) = a at *
 generalize x % 4294967296 * (y / 4294967296) = b at *
 generalize x / 4294967296 * (y % 4294967296) = c at *
 generalize x / 4294967296 * (y / 4294967296) = d at *
 clear hxy hlo hhi hX hY
 omega
theorem ad64_rng (x y c : Int) : 0 ≤ ad64s x y c ∧ ad64s x y c < 18446744073709551616 := by unfold ad64s; omega
end Go.Proofs.Ytcpoldghkiiggaa.X

/- Printed by a tool of this session. -/
namespace Go.Proofs.Ytcpoldghkiiggaa.X
open Go Go.Proofs
set_option linter.unusedVariables false
set_option linter.unusedSimpArgs false
set_option maxRecDepth 100000
set_option maxHeartbeats 8000000
theorem teNG_25 : TEOk Try.prog 25 ⟨.int .u64, 1, 8, [.i .u64 (0 : Int)], false⟩ :=
 TEOk.of Try.underlying25 (i := Try.t25) (by kernel_rfl) rfl rfl rfl (by kernel_rfl) (fun h => by cases h) (by kernel_rfl)
theorem teNG_104 : TEOk Try.prog 104 ⟨.array 4 25, 4, 32, [.ints .u64 4 ([0, 0, 0, 0] : List Int)], true⟩ :=
 TEOk.of Try.underlying104 (i := Try.t104) (by kernel_rfl) rfl rfl rfl (by kernel_rfl) (fun _ => Try.eqGuardType104) (by kernel_rfl)
noncomputable def tabNG : List (Nat × TE) := [(25, ⟨.int .u64, 1, 8, [.i .u64 (0 : Int)], false⟩), (104, ⟨.array 4 25, 4, 32, [.ints .u64 4 ([0, 0, 0, 0] : List Int)], true⟩)]
theorem tabOkNG : TabOk Try.prog (tabOf tabNG) := (tabOf_cons teNG_25 (tabOf_cons teNG_104 tabOf_nil))

def muladd (x y a c : Int) : Int :=
 (IntKind.u64.wrap ((IntKind.u64.wrap ((mul64 x y) + (ad64c (mul64_1 x y) a (0 : Int)))) + (ad64c (ad64s (mul64_1 x y) a (0 : Int)) c (0 : Int))))

def muladd_1 (x y a c : Int) : Int :=
 (ad64s (ad64s (mul64_1 x y) a (0 : Int)) c (0 : Int))

theorem muladd_body0 (x y a c : Int) (h0 : ((0 : Int) ≤ a)) (h1 : ((0 : Int) ≤ c)) (w : World) : Body Try.prog (tabOf tabNG) Try.f132 ⟨w, [], 0, noEnv⟩ (toA [.a (.i .u64 x), .a (.i .u64 y), .a (.i .u64 a), .a (.i .u64 c)]) [] (fun ys _ => ys = [.a (.i .u64 (muladd x y a c)), .a (.i .u64 (muladd_1 x y a c))]) :=
 Body.of_fin (Γ := gam1) (Λ := noLam) (Ψ := noPsi) (fuel := 0) (m := 38) (c := (Try.f132.body.getD .skip)) mix tabOkNG gam1_ok rfl (rs := [.tmp 8, .tmp 9]) rfl rfl [] []
  (vc := [(((0 : Int) ≤ (ad64s (mul64_1 x y) a (0 : Int))) ∧ ((0 : Int) ≤ c) ∧ ((0 : Int) ≤ 0) ∧ ((0 : Int) ≤ 1)), (((0 : Int) ≤ (mul64_1 x y)) ∧ ((0 : Int) ≤ a) ∧ ((0 : Int) ≤ 0) ∧ ((0 : Int) ≤ 1))]) (by kernel_rfl)
  (aC ⟨(by first | omega | exact (ad64_rng _ _ _).1 | exact wrap_nn rfl), h1, (by decide), (by decide)⟩ (aC ⟨(by first | omega | exact (ad64_rng _ _ _).1 | exact wrap_nn rfl), h0, (by decide), (by decide)⟩ (AllP_nil)))

theorem muladd_body (x y a c : Int) (h0 : ((0 : Int) ≤ a)) (h1 : ((0 : Int) ≤ c)) (w : World) : Body Try.prog (tabOf tabNG) Try.f132 ⟨w, [], 0, noEnv⟩ (toA [.a (.i .u64 x), .a (.i .u64 y), .a (.i .u64 a), .a (.i .u64 c)]) [] (fun ys _ => ys = [.a (.i .u64 (muladd x y a c)), .a (.i .u64 (muladd_1 x y a c))]) :=
 Body.lens (c := (Try.f132.body.getD .skip)) rfl fun h => muladd_body0 x y a c h0 h1  w

theorem muladd_pure (x y a c : Int) (h0 : ((0 : Int) ≤ a)) (h1 : ((0 : Int) ≤ c)) : PureC Try.prog 132 [.a (.i .u64 x), .a (.i .u64 y), .a (.i .u64 a), .a (.i .u64 c)] [.a (.i .u64 (muladd x y a c)), .a (.i .u64 (muladd_1 x y a c))] :=
 PureC.of_body tabOkNG Try.func132 rfl rfl fun w => muladd_body x y a c h0 h1 w

def gam2 : Gam := gpure 132 (fun args => match args with | [.o (.a (.i .u64 x)), .o (.a (.i .u64 y)), .o (.a (.i .u64 a)), .o (.a (.i .u64 c))] => some (some (((0 : Int) ≤ a) ∧ ((0 : Int) ≤ c)), [.a (.i .u64 (muladd x y a c)), .a (.i .u64 (muladd_1 x y a c))]) | _ => none) gam1
theorem gam2_ok : GamOk Try.prog gam2 := gpure_ok gam1_ok Try.call132 (by
 intro args vc xs h hv
 split at h
 ·simp only [Option.some.injEq, Prod.mk.injEq] at h; obtain ⟨rfl, rfl⟩ := h; exact ⟨_, by rfl, muladd_pure _ _ _ _ hv.1 hv.2⟩
 ·simp at h)

theorem ordr_body0 (w : World) : Body Try.prog (tabOf tabNG) Try.f80 ⟨w, [], 0, noEnv⟩ (toA []) [] (fun ys _ => ys = [.g [.ints .u64 4 ([6346243789798364141, 1503914060200516822, 0, 1152921504606846976] : List Int)]]) :=
 Body.of_fin (Γ := gam2) (Λ := noLam) (Ψ := noPsi) (fuel := 0) (m := 2) (c := (Try.f80.body.getD .skip)) mix tabOkNG gam2_ok rfl (rs := [.cell 0 104]) rfl rfl [] []
  (vc := []) (by kernel_rfl)
  (AllP_nil)

theorem ordr_body (w : World) : Body Try.prog (tabOf tabNG) Try.f80 ⟨w, [], 0, noEnv⟩ (toA []) [] (fun ys _ => ys = [.g [.ints .u64 4 ([6346243789798364141, 1503914060200516822, 0, 1152921504606846976] : List Int)]]) :=
 Body.lens (c := (Try.f80.body.getD .skip)) rfl fun h => ordr_body0  w

theorem ordr_pure : PureC Try.prog 80 [] [.g [.ints .u64 4 ([6346243789798364141, 1503914060200516822, 0, 1152921504606846976] : List Int)]] :=
 PureC.of_body tabOkNG Try.func80 rfl rfl fun w => ordr_body w

def gam3 : Gam := gpure 80 (fun args => match args with | [] => some (none, [.g [.ints .u64 (4 : Nat) ([6346243789798364141, 1503914060200516822, 0, 1152921504606846976] : List Int)]]) | _ => none) gam2
theorem gam3_ok : GamOk Try.prog gam3 := gpure_ok gam2_ok Try.call80 (by
 intro args vc xs h hv
 split at h
 ·simp only [Option.some.injEq, Prod.mk.injEq] at h; obtain ⟨rfl, rfl⟩ := h; exact ⟨_, by rfl, ordr_pure⟩
 ·simp at h)

theorem radx_body0 (w : World) : Body Try.prog (tabOf tabNG) Try.f104 ⟨w, [], 0, noEnv⟩ (toA []) [] (fun ys _ => ys = [.g [.ints .u64 4 ([11819153939886771969, 14991950615390032711, 14910419812499177061, 259310039853996605] : List Int)]]) :=
 Body.of_fin (Γ := gam3) (Λ := noLam) (Ψ := noPsi) (fuel := 0) (m := 2) (c := (Try.f104.body.getD .skip)) mix tabOkNG gam3_ok rfl (rs := [.cell 0 104]) rfl rfl [] []
  (vc := []) (by kernel_rfl)
  (AllP_nil)

theorem radx_body (w : World) : Body Try.prog (tabOf tabNG) Try.f104 ⟨w, [], 0, noEnv⟩ (toA []) [] (fun ys _ => ys = [.g [.ints .u64 4 ([11819153939886771969, 14991950615390032711, 14910419812499177061, 259310039853996605] : List Int)]]) :=
 Body.lens (c := (Try.f104.body.getD .skip)) rfl fun h => radx_body0  w

theorem radx_pure : PureC Try.prog 104 [] [.g [.ints .u64 4 ([11819153939886771969, 14991950615390032711, 14910419812499177061, 259310039853996605] : List Int)]] :=
 PureC.of_body tabOkNG Try.func104 rfl rfl fun w => radx_body w

def gam4 : Gam := gpure 104 (fun args => match args with | [] => some (none, [.g [.ints .u64 (4 : Nat) ([11819153939886771969, 14991950615390032711, 14910419812499177061, 259310039853996605] : List Int)]]) | _ => none) gam3
theorem gam4_ok : GamOk Try.prog gam4 := gpure_ok gam3_ok Try.call104 (by
 intro args vc xs h hv
 split at h
 ·simp only [Option.some.injEq, Prod.mk.injEq] at h; obtain ⟨rfl, rfl⟩ := h; exact ⟨_, by rfl, radx_pure⟩
 ·simp at h)

end Go.Proofs.Ytcpoldghkiiggaa.X

/- Words of a number; a product and two words more. -/
namespace Go.Proofs.Ytcpoldghkiiggaa.X
open Go Go.Proofs
set_option linter.unusedVariables false

def Wds (S : List Int) : Prop := ∀ x ∈ S, 0 ≤ x ∧ x < 18446744073709551616

theorem wds_get {S : List Int} (h : Wds S) (i : Nat) : 0 ≤ List.getD S i 0 ∧ List.getD S i 0 < 18446744073709551616 := by
 rw [List.getD_eq_getElem?_getD]
 by_cases hi : i < S.length
 ·rw [List.getElem?_eq_getElem hi]; exact h _ (List.getElem_mem hi)
 ·rw [List.getElem?_eq_none (by omega)]; simp

theorem wds_W4 (v : Int) : Wds (W4 v) := by
 intro x hx
 unfold W4 at hx
 simp only [List.mem_cons, List.not_mem_nil, or_false] at hx
 rcases hx with rfl | rfl | rfl | rfl <;> omega

theorem muladd_eq {x y a c : Int} (h0 : 0 ≤ x) (h1 : x < 18446744073709551616) (h2 : 0 ≤ y) (h3 : y < 18446744073709551616) (h4 : 0 ≤ a) (h5 : a < 18446744073709551616) (h6 : 0 ≤ c) (h7 : c < 18446744073709551616) :
  18446744073709551616 * muladd x y a c + muladd_1 x y a c = x * y + a + c ∧ 0 ≤ muladd x y a c ∧ muladd x y a c < 18446744073709551616 ∧ 0 ≤ muladd_1 x y a c ∧ muladd_1 x y a c < 18446744073709551616 := by
 obtain ⟨e, p1, p2, p3, p4⟩ := mul64_eq h0 h1 h2 h3
 have hb : x * y ≤ 340282366920938463426481119284349108225 := by
  have := Int.mul_le_mul (show x ≤ 18446744073709551615 by omega) (show y ≤ 18446744073709551615 by omega) h2 (by omega)
  omega
 unfold muladd muladd_1 ad64c ad64s
 simp only [wrap64]
 generalize mul64 x y = H at *
 generalize mul64_1 x y = L at *
 generalize x * y = P at *
 omega

theorem muladd_nn (x y a c : Int) : 0 ≤ muladd x y a c := wrap_nn rfl
theorem muladd1_nn (x y a c : Int) : 0 ≤ muladd_1 x y a c := (ad64_rng _ _ _).1

theorem four {S : List Int} (h : S.length = 4) : ∃ a b c d, S = [a, b, c, d] := by
 match S, h with
 | [a, b, c, d], _ => exact ⟨a, b, c, d, rfl⟩
end Go.Proofs.Ytcpoldghkiiggaa.X

/- Printed by a tool of this session. -/
namespace Go.Proofs.Ytcpoldghkiiggaa.X
open Go Go.Proofs
set_option linter.unusedVariables false
set_option linter.unusedSimpArgs false
set_option maxRecDepth 100000
set_option maxHeartbeats 8000000
def less (S T : List Int) : List Int :=
 let z0 : Int := (sb64c (List.getD S 0 0) (List.getD T 0 0) (0 : Int))
 let z1 : Int := (sb64c (List.getD S 1 0) (List.getD T 1 0) z0)
 ([(sb64s (List.getD S 0 0) (List.getD T 0 0) (0 : Int)), (sb64s (List.getD S 1 0) (List.getD T 1 0) z0), (sb64s (List.getD S 2 0) (List.getD T 2 0) z1), (sb64s (List.getD S 3 0) (List.getD T 3 0) (sb64c (List.getD S 2 0) (List.getD T 2 0) z1))] : List Int)

def less_1 (S T : List Int) : Int :=
 (sb64c (List.getD S 3 0) (List.getD T 3 0) (sb64c (List.getD S 2 0) (List.getD T 2 0) (sb64c (List.getD S 1 0) (List.getD T 1 0) (sb64c (List.getD S 0 0) (List.getD T 0 0) (0 : Int)))))

theorem less_body0 (S T : List Int) (h0 : (Wds S)) (h1 : (Wds T)) (hv0 : S.length = 4) (hv1 : T.length = 4) (w : World) : Body Try.prog (tabOf tabNG) Try.f79 ⟨w, [], 0, noEnv⟩ (toA [.g [.ints .u64 4 S], .g [.ints .u64 4 T]]) [] (fun ys _ => ys = [.g [.ints .u64 4 (less S T)], .a (.i .u64 (less_1 S T))]) :=
 Body.of_fin (Γ := gam4) (Λ := noLam) (Ψ := noPsi) (fuel := 5) (m := 28) (c := (Try.f79.body.getD .skip)) mix tabOkNG gam4_ok rfl (rs := [.cell 4 104, .tmp 5]) rfl rfl [true, true, true, true, false] []
  (vc := [(false = false), (cN 3 4), (cI 3 4), (((0 : Int) ≤ (List.getD S 3 0)) ∧ ((0 : Int) ≤ (List.getD T 3 0)) ∧ ((List.getD T 3 0) < 18446744073709551616) ∧ ((0 : Int) ≤ (sb64c (List.getD S 2 0) (List.getD T 2 0) (sb64c (List.getD S 1 0) (List.getD T 1 0) (sb64c (List.getD S 0 0) (List.getD T 0 0) (0 : Int))))) ∧ ((sb64c (List.getD S 2 0) (List.getD T 2 0) (sb64c (List.getD S 1 0) (List.getD T 1 0) (sb64c (List.getD S 0 0) (List.getD T 0 0) (0 : Int)))) ≤ 1)), (cN 3 4), (cI 3 4), (cN 3 4), (cI 3 4), cT, (cN 2 4), (cI 2 4), (((0 : Int) ≤ (List.getD S 2 0)) ∧ ((0 : Int) ≤ (List.getD T 2 0)) ∧ ((List.getD T 2 0) < 18446744073709551616) ∧ ((0 : Int) ≤ (sb64c (List.getD S 1 0) (List.getD T 1 0) (sb64c (List.getD S 0 0) (List.getD T 0 0) (0 : Int)))) ∧ ((sb64c (List.getD S 1 0) (List.getD T 1 0) (sb64c (List.getD S 0 0) (List.getD T 0 0) (0 : Int))) ≤ 1)), (cN 2 4), (cI 2 4), (cN 2 4), (cI 2 4), cT, (cN 1 4), (cI 1 4), (((0 : Int) ≤ (List.getD S 1 0)) ∧ ((0 : Int) ≤ (List.getD T 1 0)) ∧ ((List.getD T 1 0) < 18446744073709551616) ∧ ((0 : Int) ≤ (sb64c (List.getD S 0 0) (List.getD T 0 0) (0 : Int))) ∧ ((sb64c (List.getD S 0 0) (List.getD T 0 0) (0 : Int)) ≤ 1)), (cN 1 4), (cI 1 4), (cN 1 4), (cI 1 4), cT, (cN 0 4), (cI 0 4), (((0 : Int) ≤ (List.getD S 0 0)) ∧ ((0 : Int) ≤ (List.getD T 0 0)) ∧ ((List.getD T 0 0) < 18446744073709551616) ∧ (cZ 0) ∧ (cZ 1)), (cN 0 4), (cI 0 4), (cN 0 4), (cI 0 4), cT]) (by kernel_rfl)
  (aC rfl (aC (dd rfl) (aC (dd rfl) (aC ⟨(by have w0_0 := wds_get h0 0; have w0_1 := wds_get h0 1; have w0_2 := wds_get h0 2; have w0_3 := wds_get h0 3; have w1_0 := wds_get h1 0; have w1_1 := wds_get h1 1; have w1_2 := wds_get h1 2; have w1_3 := wds_get h1 3; first | omega | (repeat' (first | omega | (unfold sb64c; split) | (unfold ad64c) | (unfold ad64s)))), (by have w0_0 := wds_get h0 0; have w0_1 := wds_get h0 1; have w0_2 := wds_get h0 2; have w0_3 := wds_get h0 3; have w1_0 := wds_get h1 0; have w1_1 := wds_get h1 1; have w1_2 := wds_get h1 2; have w1_3 := wds_get h1 3; first | omega | (repeat' (first | omega | (unfold sb64c; split) | (unfold ad64c) | (unfold ad64s)))), (by have w0_0 := wds_get h0 0; have w0_1 := wds_get h0 1; have w0_2 := wds_get h0 2; have w0_3 := wds_get h0 3; have w1_0 := wds_get h1 0; have w1_1 := wds_get h1 1; have w1_2 := wds_get h1 2; have w1_3 := wds_get h1 3; first | omega | (repeat' (first | omega | (unfold sb64c; split) | (unfold ad64c) | (unfold ad64s)))), (by have w0_0 := wds_get h0 0; have w0_1 := wds_get h0 1; have w0_2 := wds_get h0 2; have w0_3 := wds_get h0 3; have w1_0 := wds_get h1 0; have w1_1 := wds_get h1 1; have w1_2 := wds_get h1 2; have w1_3 := wds_get h1 3; first | omega | (repeat' (first | omega | (unfold sb64c; split) | (unfold ad64c) | (unfold ad64s)))), (by have w0_0 := wds_get h0 0; have w0_1 := wds_get h0 1; have w0_2 := wds_get h0 2; have w0_3 := wds_get h0 3; have w1_0 := wds_get h1 0; have w1_1 := wds_get h1 1; have w1_2 := wds_get h1 2; have w1_3 := wds_get h1 3; first | omega | (repeat' (first | omega | (unfold sb64c; split) | (unfold ad64c) | (unfold ad64s))))⟩ (aC (dd rfl) (aC (dd rfl) (aC (dd rfl) (aC (dd rfl) (aC rfl (aC (dd rfl) (aC (dd rfl) (aC ⟨(by have w0_0 := wds_get h0 0; have w0_1 := wds_get h0 1; have w0_2 := wds_get h0 2; have w0_3 := wds_get h0 3; have w1_0 := wds_get h1 0; have w1_1 := wds_get h1 1; have w1_2 := wds_get h1 2; have w1_3 := wds_get h1 3; first | omega | (repeat' (first | omega | (unfold sb64c; split) | (unfold ad64c) | (unfold ad64s)))), (by have w0_0 := wds_get h0 0; have w0_1 := wds_get h0 1; have w0_2 := wds_get h0 2; have w0_3 := wds_get h0 3; have w1_0 := wds_get h1 0; have w1_1 := wds_get h1 1; have w1_2 := wds_get h1 2; have w1_3 := wds_get h1 3; first | omega | (repeat' (first | omega | (unfold sb64c; split) | (unfold ad64c) | (unfold ad64s)))), (by have w0_0 := wds_get h0 0; have w0_1 := wds_get h0 1; have w0_2 := wds_get h0 2; have w0_3 := wds_get h0 3; have w1_0 := wds_get h1 0; have w1_1 := wds_get h1 1; have w1_2 := wds_get h1 2; have w1_3 := wds_get h1 3; first | omega | (repeat' (first | omega | (unfold sb64c; split) | (unfold ad64c) | (unfold ad64s)))), (by have w0_0 := wds_get h0 0; have w0_1 := wds_get h0 1; have w0_2 := wds_get h0 2; have w0_3 := wds_get h0 3; have w1_0 := wds_get h1 0; have w1_1 := wds_get h1 1; have w1_2 := wds_get h1 2; have w1_3 := wds_get h1 3; first | omega | (repeat' (first | omega | (unfold sb64c; split) | (unfold ad64c) | (unfold ad64s)))), (by have w0_0 := wds_get h0 0; have w0_1 := wds_get h0 1; have w0_2 := wds_get h0 2; have w0_3 := wds_get h0 3; have w1_0 := wds_get h1 0; have w1_1 := wds_get h1 1; have w1_2 := wds_get h1 2; have w1_3 := wds_get h1 3; first | omega | (repeat' (first | omega | (unfold sb64c; split) | (unfold ad64c) | (unfold ad64s))))⟩ (aC (dd rfl) (aC (dd rfl) (aC (dd rfl) (aC (dd rfl) (aC rfl (aC (dd rfl) (aC (dd rfl) (aC ⟨(by have w0_0 := wds_get h0 0; have w0_1 := wds_get h0 1; have w0_2 := wds_get h0 2; have w0_3 := wds_get h0 3; have w1_0 := wds_get h1 0; have w1_1 := wds_get h1 1; have w1_2 := wds_get h1 2; have w1_3 := wds_get h1 3; first | omega | (repeat' (first | omega | (unfold sb64c; split) | (unfold ad64c) | (unfold ad64s)))), (by have w0_0 := wds_get h0 0; have w0_1 := wds_get h0 1; have w0_2 := wds_get h0 2; have w0_3 := wds_get h0 3; have w1_0 := wds_get h1 0; have w1_1 := wds_get h1 1; have w1_2 := wds_get h1 2; have w1_3 := wds_get h1 3; first | omega | (repeat' (first | omega | (unfold sb64c; split) | (unfold ad64c) | (unfold ad64s)))), (by have w0_0 := wds_get h0 0; have w0_1 := wds_get h0 1; have w0_2 := wds_get h0 2; have w0_3 := wds_get h0 3; have w1_0 := wds_get h1 0; have w1_1 := wds_get h1 1; have w1_2 := wds_get h1 2; have w1_3 := wds_get h1 3; first | omega | (repeat' (first | omega | (unfold sb64c; split) | (unfold ad64c) | (unfold ad64s)))), (by have w0_0 := wds_get h0 0; have w0_1 := wds_get h0 1; have w0_2 := wds_get h0 2; have w0_3 := wds_get h0 3; have w1_0 := wds_get h1 0; have w1_1 := wds_get h1 1; have w1_2 := wds_get h1 2; have w1_3 := wds_get h1 3; first | omega | (repeat' (first | omega | (unfold sb64c; split) | (unfold ad64c) | (unfold ad64s)))), (by have w0_0 := wds_get h0 0; have w0_1 := wds_get h0 1; have w0_2 := wds_get h0 2; have w0_3 := wds_get h0 3; have w1_0 := wds_get h1 0; have w1_1 := wds_get h1 1; have w1_2 := wds_get h1 2; have w1_3 := wds_get h1 3; first | omega | (repeat' (first | omega | (unfold sb64c; split) | (unfold ad64c) | (unfold ad64s))))⟩ (aC (dd rfl) (aC (dd rfl) (aC (dd rfl) (aC (dd rfl) (aC rfl (aC (dd rfl) (aC (dd rfl) (aC ⟨(by have w0_0 := wds_get h0 0; have w0_1 := wds_get h0 1; have w0_2 := wds_get h0 2; have w0_3 := wds_get h0 3; have w1_0 := wds_get h1 0; have w1_1 := wds_get h1 1; have w1_2 := wds_get h1 2; have w1_3 := wds_get h1 3; first | omega | (repeat' (first | omega | (unfold sb64c; split) | (unfold ad64c) | (unfold ad64s)))), (by have w0_0 := wds_get h0 0; have w0_1 := wds_get h0 1; have w0_2 := wds_get h0 2; have w0_3 := wds_get h0 3; have w1_0 := wds_get h1 0; have w1_1 := wds_get h1 1; have w1_2 := wds_get h1 2; have w1_3 := wds_get h1 3; first | omega | (repeat' (first | omega | (unfold sb64c; split) | (unfold ad64c) | (unfold ad64s)))), (by have w0_0 := wds_get h0 0; have w0_1 := wds_get h0 1; have w0_2 := wds_get h0 2; have w0_3 := wds_get h0 3; have w1_0 := wds_get h1 0; have w1_1 := wds_get h1 1; have w1_2 := wds_get h1 2; have w1_3 := wds_get h1 3; first | omega | (repeat' (first | omega | (unfold sb64c; split) | (unfold ad64c) | (unfold ad64s)))), (dd rfl), (dd rfl)⟩ (aC (dd rfl) (aC (dd rfl) (aC (dd rfl) (aC (dd rfl) (aC rfl (AllP_nil))))))))))))))))))))))))))))))))))

theorem less_body (S T : List Int) (h0 : (Wds S)) (h1 : (Wds T)) (w : World) : Body Try.prog (tabOf tabNG) Try.f79 ⟨w, [], 0, noEnv⟩ (toA [.g [.ints .u64 4 S], .g [.ints .u64 4 T]]) [] (fun ys _ => ys = [.g [.ints .u64 4 (less S T)], .a (.i .u64 (less_1 S T))]) :=
 Body.lens (c := (Try.f79.body.getD .skip)) rfl fun h => less_body0 S T h0 h1 (h.vals 0 _ _ _ rfl) (h.vals 1 _ _ _ rfl) w

end Go.Proofs.Ytcpoldghkiiggaa.X

/- The difference of two numbers. -/
namespace Go.Proofs.Ytcpoldghkiiggaa.X
open Go Go.Proofs
set_option linter.unusedVariables false

def difR (a b : Int) : Int := (a - b) % 115792089237316195423570985008687907853269984665640564039457584007913129639936
def lessC (a b : Int) : Int := if a < b then 1 else 0

theorem wds_four {a b c d : Int} (h0 : 0 ≤ a ∧ a < 18446744073709551616) (h1 : 0 ≤ b ∧ b < 18446744073709551616) (h2 : 0 ≤ c ∧ c < 18446744073709551616) (h3 : 0 ≤ d ∧ d < 18446744073709551616) : Wds [a, b, c, d] := by
 intro x hx
 simp only [List.mem_cons, List.not_mem_nil, or_false] at hx
 rcases hx with rfl | rfl | rfl | rfl <;> assumption

theorem sb64_eq {x y b : Int} (h0 : 0 ≤ x) (h1 : x < 18446744073709551616) (h2 : 0 ≤ y) (h3 : y < 18446744073709551616) (hb : 0 ≤ b ∧ b ≤ 1) :
  sb64s x y b = x - y - b + 18446744073709551616 * sb64c x y b ∧ 0 ≤ sb64s x y b ∧ sb64s x y b < 18446744073709551616 ∧ 0 ≤ sb64c x y b ∧ sb64c x y b ≤ 1 := by
 unfold sb64s sb64c
 split <;> omega

theorem less_eq {S T : List Int} (hS : Wds S) (hT : Wds T) (lS : S.length = 4) (lT : T.length = 4) : less S T = W4 (difR (V4 S) (V4 T)) ∧ less_1 S T = lessC (V4 S) (V4 T) := by
 obtain ⟨a0, a1, a2, a3, rfl⟩ := four lS
 obtain ⟨b0, b1, b2, b3, rfl⟩ := four lT
 have ha0 := hS a0 (by simp); have ha1 := hS a1 (by simp); have ha2 := hS a2 (by simp); have ha3 := hS a3 (by simp)
 have hb0 := hT b0 (by simp); have hb1 := hT b1 (by simp); have hb2 := hT b2 (by simp); have hb3 := hT b3 (by simp)
 have e0 := sb64_eq ha0.1 ha0.2 hb0.1 hb0.2 (b := 0) (by omega)
 have e1 := sb64_eq ha1.1 ha1.2 hb1.1 hb1.2 (b := sb64c a0 b0 0) (by omega)
 have e2 := sb64_eq ha2.1 ha2.2 hb2.1 hb2.2 (b := sb64c a1 b1 (sb64c a0 b0 0)) (by omega)
 have e3 := sb64_eq ha3.1 ha3.2 hb3.1 hb3.2 (b := sb64c a2 b2 (sb64c a1 b1 (sb64c a0 b0 0))) (by omega)
 show [sb64s a0 b0 0, sb64s a1 b1 (sb64c a0 b0 0), sb64s a2 b2 (sb64c a1 b1 (sb64c a0 b0 0)), sb64s a3 b3 (sb64c a2 b2 (sb64c a1 b1 (sb64c a0 b0 0)))] = _ ∧ sb64c a3 b3 (sb64c a2 b2 (sb64c a1 b1 (sb64c a0 b0 0))) = _
 generalize sb64c a3 b3 (sb64c a2 b2 (sb64c a1 b1 (sb64c a0 b0 0))) = c3 at *
 generalize sb64s a3 b3 (sb64c a2 b2 (sb64c a1 b1 (sb64c a0 b0 0))) = s3 at *
 generalize sb64s a2 b2 (sb64c a1 b1 (sb64c a0 b0 0)) = s2 at *
 generalize sb64c a2 b2 (sb64c a1 b1 (sb64c a0 b0 0)) = c2 at *
 generalize sb64s a1 b1 (sb64c a0 b0 0) = s1 at *
 generalize sb64c a1 b1 (sb64c a0 b0 0) = c1 at *
 generalize sb64s a0 b0 0 = s0 at *
 generalize sb64c a0 b0 0 = c0 at *
 unfold difR lessC V4
 simp only
 clear hS hT lS lT
 constructor
 ·refine W4_eq ?_ ⟨e0.2.1, e0.2.2.1⟩ ⟨e1.2.1, e1.2.2.1⟩ ⟨e2.2.1, e2.2.2.1⟩ ⟨e3.2.1, e3.2.2.1⟩
  omega
 ·split <;> omega

theorem less_can (S T : List Int) (h0 : (Wds S)) (h1 : (Wds T)) (w : World) : Body Try.prog (tabOf tabNG) Try.f79 ⟨w, [], 0, noEnv⟩ (toA [.g [.ints .u64 4 S], .g [.ints .u64 4 T]]) [] (fun ys _ => ys = [.g [.ints .u64 4 (W4 (difR (V4 S) (V4 T)))], .a (.i .u64 (lessC (V4 S) (V4 T)))]) :=
 Body.lens (c := (Try.f79.body.getD .skip)) rfl fun h => (less_body S T h0 h1 w).mono fun xs K hx => by
  subst hx
  obtain ⟨e1, e2⟩ := less_eq h0 h1 (h.vals 0 _ _ _ rfl) (h.vals 1 _ _ _ rfl)
  rw [e1, e2]
theorem wds_ord : Wds [6346243789798364141, 1503914060200516822, 0, 1152921504606846976] := by
 intro x hx
 simp only [List.mem_cons, List.not_mem_nil, or_false] at hx
 rcases hx with rfl | rfl | rfl | rfl <;> decide
end Go.Proofs.Ytcpoldghkiiggaa.X

/- Printed by a tool of this session. -/
namespace Go.Proofs.Ytcpoldghkiiggaa.X
open Go Go.Proofs
set_option linter.unusedVariables false
set_option linter.unusedSimpArgs false
set_option maxRecDepth 100000
set_option maxHeartbeats 8000000
noncomputable def tabNK : List (Nat × TE) := [(104, ⟨.array 4 25, 4, 32, [.ints .u64 4 ([0, 0, 0, 0] : List Int)], true⟩)]
theorem tabOkNK : TabOk Try.prog (tabOf tabNK) := (tabOf_cons teNG_104 tabOf_nil)

theorem less_pure (S T : List Int) (h0 : (Wds S)) (h1 : (Wds T)) : PureC Try.prog 79 [.g [.ints .u64 4 S], .g [.ints .u64 4 T]] [.g [.ints .u64 4 (W4 (difR (V4 S) (V4 T)))], .a (.i .u64 (lessC (V4 S) (V4 T)))] :=
 PureC.of_body tabOkNK Try.func79 rfl rfl fun w => less_can S T h0 h1 w

def gam5 : Gam := gpure 79 (fun args => match args with | [.o (.g [.ints .u64 4 S]), .o (.g [.ints .u64 4 T])] => some (some ((Wds S) ∧ (Wds T)), [.g [.ints .u64 4 (W4 (difR (V4 S) (V4 T)))], .a (.i .u64 (lessC (V4 S) (V4 T)))]) | _ => none) gam4
theorem gam5_ok : GamOk Try.prog gam5 := gpure_ok gam4_ok Try.call79 (by
 intro args vc xs h hv
 split at h
 ·simp only [Option.some.injEq, Prod.mk.injEq] at h; obtain ⟨rfl, rfl⟩ := h; exact ⟨_, by rfl, less_pure _ _ hv.1 hv.2⟩
 ·simp at h)

def lowA (S : List Int) : List Int :=
 (W4 (difR (V4 S) (V4 ([6346243789798364141, 1503914060200516822, 0, 1152921504606846976] : List Int))))

theorem lowA_body0 (S : List Int) (h0 : (Wds S)) (hv0 : S.length = 4) (hc : lessC (V4 S) (V4 ([6346243789798364141, 1503914060200516822, 0, 1152921504606846976] : List Int)) = 0) (w : World) : Body Try.prog (tabOf tabNK) Try.f129 ⟨w, [], 0, noEnv⟩ (toA [.g [.ints .u64 4 S]]) [] (fun ys _ => ys = [.g [.ints .u64 4 (lowA S)]]) :=
 Body.of_fin (Γ := gam5) (Λ := noLam) (Ψ := noPsi) (fuel := 0) (m := 15) (c := (Try.f129.body.getD .skip)) mix tabOkNK gam5_ok rfl (rs := [.cell 2 104]) rfl rfl [true] []
  (vc := [(((lessC (V4 S) (V4 ([6346243789798364141, 1503914060200516822, 0, 1152921504606846976] : List Int))) == (0 : Int)) = true), ((Wds S) ∧ (Wds ([6346243789798364141, 1503914060200516822, 0, 1152921504606846976] : List Int)))]) (by kernel_rfl)
  (aC (beq_iff_eq.2 hc) (aC ⟨(by first | assumption | exact wds_W4 _ | exact wds_ord | (unfold Wds; decide)), (by first | assumption | exact wds_W4 _ | exact wds_ord | (unfold Wds; decide))⟩ (AllP_nil)))

theorem lowB_body0 (S : List Int) (h0 : (Wds S)) (hv0 : S.length = 4) (hc : lessC (V4 S) (V4 ([6346243789798364141, 1503914060200516822, 0, 1152921504606846976] : List Int)) ≠ 0) (w : World) : Body Try.prog (tabOf tabNK) Try.f129 ⟨w, [], 0, noEnv⟩ (toA [.g [.ints .u64 4 S]]) [] (fun ys _ => ys = [.g [.ints .u64 4 S]]) :=
 Body.of_fin (Γ := gam5) (Λ := noLam) (Ψ := noPsi) (fuel := 0) (m := 15) (c := (Try.f129.body.getD .skip)) mix tabOkNK gam5_ok rfl (rs := [.cell 2 104]) rfl rfl [false] []
  (vc := [(((lessC (V4 S) (V4 ([6346243789798364141, 1503914060200516822, 0, 1152921504606846976] : List Int))) == (0 : Int)) = false), ((Wds S) ∧ (Wds ([6346243789798364141, 1503914060200516822, 0, 1152921504606846976] : List Int)))]) (by kernel_rfl)
  (aC (beq_eq_false_iff_ne.2 hc) (aC ⟨(by first | assumption | exact wds_W4 _ | exact wds_ord | (unfold Wds; decide)), (by first | assumption | exact wds_W4 _ | exact wds_ord | (unfold Wds; decide))⟩ (AllP_nil)))

end Go.Proofs.Ytcpoldghkiiggaa.X

/- A number, less the order if it is not below it. -/
namespace Go.Proofs.Ytcpoldghkiiggaa.X
open Go Go.Proofs
set_option linter.unusedVariables false

def low (v : Int) : Int := if LL ≤ v then v - LL else v
def addR (a b : Int) : Int := (a + b) % 115792089237316195423570985008687907853269984665640564039457584007913129639936

theorem V4_rng {S : List Int} (h : Wds S) (l : S.length = 4) : 0 ≤ V4 S ∧ V4 S < 115792089237316195423570985008687907853269984665640564039457584007913129639936 := by
 obtain ⟨a, b, c, d, rfl⟩ := four l
 have h0 := h a (by simp); have h1 := h b (by simp); have h2 := h c (by simp); have h3 := h d (by simp)
 unfold V4
 simp only
 omega
theorem W4_of {S : List Int} (h : Wds S) (l : S.length = 4) : S = W4 (V4 S) := by
 obtain ⟨a, b, c, d, rfl⟩ := four l
 exact W4_eq rfl (h a (by simp)) (h b (by simp)) (h c (by simp)) (h d (by simp))
theorem V4_ord : V4 [6346243789798364141, 1503914060200516822, 0, 1152921504606846976] = LL := by decide +kernel

theorem low_rng {v : Int} (h0 : 0 ≤ v) (h1 : v < 115792089237316195423570985008687907853269984665640564039457584007913129639936) : 0 ≤ low v ∧ low v < 115792089237316195423570985008687907853269984665640564039457584007913129639936 := by
 unfold low LL
 split <;> omega

theorem lowered_can (S : List Int) (h0 : (Wds S)) (w : World) : Body Try.prog (tabOf tabNK) Try.f129 ⟨w, [], 0, noEnv⟩ (toA [.g [.ints .u64 4 S]]) [] (fun ys _ => ys = [.g [.ints .u64 4 (W4 (low (V4 S)))]]) :=
 Body.lens (c := (Try.f129.body.getD .skip)) rfl fun h => by
  have hl := h.vals 0 _ _ _ rfl
  obtain ⟨r0, r1⟩ := V4_rng h0 hl
  by_cases hc : lessC (V4 S) (V4 ([6346243789798364141, 1503914060200516822, 0, 1152921504606846976] : List Int)) = 0
  ·refine (lowA_body0 S h0 hl hc w).mono fun xs K hx => ?_
   subst hx
   have e : lowA S = W4 (low (V4 S)) := by
    unfold lowA
    congr 1
    rw [V4_ord] at hc ⊢
    unfold lessC at hc
    unfold difR low
    split at hc
    ·cases hc
    ·rename_i h; rw [if_pos (by omega)]
     unfold LL at *
     omega
   rw [e]
  ·refine (lowB_body0 S h0 hl hc w).mono fun xs K hx => ?_
   subst hx
   have e : W4 (low (V4 S)) = S := by
    rw [V4_ord] at hc
    unfold lessC at hc
    unfold low
    split at hc
    ·rename_i h; rw [if_neg (by omega)]; exact (W4_of h0 hl).symm
    ·exact absurd rfl hc
   rw [e]
end Go.Proofs.Ytcpoldghkiiggaa.X

/- Printed by a tool of this session. -/
namespace Go.Proofs.Ytcpoldghkiiggaa.X
open Go Go.Proofs
set_option linter.unusedVariables false
set_option linter.unusedSimpArgs false
set_option maxRecDepth 100000
set_option maxHeartbeats 8000000
theorem teNM_5 : TEOk Try.prog 5 ⟨.int .u8, 1, 1, [.i .u8 (0 : Int)], false⟩ :=
 TEOk.of Try.underlying5 (i := Try.t5) (by kernel_rfl) rfl rfl rfl (by kernel_rfl) (fun h => by cases h) (by kernel_rfl)
theorem teNM_24 : TEOk Try.prog 24 ⟨.array 32 5, 32, 32, [.ints .u8 32 ([0, 0, 0, 0, 0, 0, 0, 0, 0, 0, 0, 0, 0, 0, 0, 0, 0, 0, 0, 0, 0, 0, 0, 0, 0, 0, 0, 0, 0, 0, 0, 0] : List Int)], true⟩ :=
 TEOk.of Try.underlying24 (i := Try.t24) (by kernel_rfl) rfl rfl rfl (by kernel_rfl) (fun _ => Try.eqGuardType24) (by kernel_rfl)
noncomputable def tabNM : List (Nat × TE) := [(5, ⟨.int .u8, 1, 1, [.i .u8 0], false⟩), (24, ⟨.array 32 5, 32, 32, [.ints .u8 32 ([0, 0, 0, 0, 0, 0, 0, 0, 0, 0, 0, 0, 0, 0, 0, 0, 0, 0, 0, 0, 0, 0, 0, 0, 0, 0, 0, 0, 0, 0, 0, 0] : List Int)], true⟩), (25, ⟨.int .u64, 1, 8, [.i .u64 0], false⟩), (104, ⟨.array 4 25, 4, 32, [.ints .u64 4 ([0, 0, 0, 0] : List Int)], true⟩)]
theorem tabOkNM : TabOk Try.prog (tabOf tabNM) := (tabOf_cons teNM_5 (tabOf_cons teNM_24 (tabOf_cons teNG_25 (tabOf_cons teNG_104 tabOf_nil))))

theorem lowA_pure (S : List Int) (h0 : (Wds S)) : PureC Try.prog 129 [.g [.ints .u64 4 S]] [.g [.ints .u64 4 (W4 (low (V4 S)))]] :=
 PureC.of_body tabOkNM Try.func129 rfl rfl fun w => lowered_can S h0 w

def gam6 : Gam := gpure 129 (fun args => match args with | [.o (.g [.ints .u64 (4 : Nat) S])] => some (some ((Wds S)), [.g [.ints .u64 (4 : Nat) (W4 (low (V4 S)))]]) | _ => none) gam5
theorem gam6_ok : GamOk Try.prog gam6 := gpure_ok gam5_ok Try.call129 (by
 intro args vc xs h hv
 split at h
 ·simp only [Option.some.injEq, Prod.mk.injEq] at h; obtain ⟨rfl, rfl⟩ := h; exact ⟨_, by rfl, lowA_pure _ hv⟩
 ·simp at h)

def plusA (S T : List Int) : List Int :=
 let z0 : Int := (ad64c (List.getD S 0 0) (List.getD T 0 0) (0 : Int))
 let z1 : Int := (ad64c (List.getD S 1 0) (List.getD T 1 0) z0)
 (W4 (low (V4 ([(ad64s (List.getD S 0 0) (List.getD T 0 0) (0 : Int)), (ad64s (List.getD S 1 0) (List.getD T 1 0) z0), (ad64s (List.getD S 2 0) (List.getD T 2 0) z1), (ad64s (List.getD S 3 0) (List.getD T 3 0) (ad64c (List.getD S 2 0) (List.getD T 2 0) z1))] : List Int))))

theorem plusA_body0 (S T : List Int) (h0 : (Wds S)) (h1 : (Wds T)) (hv0 : S.length = 4) (hv1 : T.length = 4) (w : World) : Body Try.prog (tabOf tabNM) Try.f72 ⟨w, [], 0, noEnv⟩ (toA [.g [.ints .u64 4 S], .g [.ints .u64 4 T]]) [] (fun ys _ => ys = [.g [.ints .u64 4 (plusA S T)]]) :=
 Body.of_fin (Γ := gam6) (Λ := noLam) (Ψ := noPsi) (fuel := 5) (m := 27) (c := (Try.f72.body.getD .skip)) mix tabOkNM gam6_ok rfl (rs := [.cell 4 104]) rfl rfl [true, true, true, true, false] []
  (vc := [(Wds ([(ad64s (List.getD S 0 0) (List.getD T 0 0) (0 : Int)), (ad64s (List.getD S 1 0) (List.getD T 1 0) (ad64c (List.getD S 0 0) (List.getD T 0 0) (0 : Int))), (ad64s (List.getD S 2 0) (List.getD T 2 0) (ad64c (List.getD S 1 0) (List.getD T 1 0) (ad64c (List.getD S 0 0) (List.getD T 0 0) (0 : Int)))), (ad64s (List.getD S 3 0) (List.getD T 3 0) (ad64c (List.getD S 2 0) (List.getD T 2 0) (ad64c (List.getD S 1 0) (List.getD T 1 0) (ad64c (List.getD S 0 0) (List.getD T 0 0) (0 : Int)))))] : List Int)), (false = false), (cN 3 4), (cI 3 4), (((0 : Int) ≤ (List.getD S 3 0)) ∧ ((0 : Int) ≤ (List.getD T 3 0)) ∧ ((0 : Int) ≤ (ad64c (List.getD S 2 0) (List.getD T 2 0) (ad64c (List.getD S 1 0) (List.getD T 1 0) (ad64c (List.getD S 0 0) (List.getD T 0 0) (0 : Int))))) ∧ ((ad64c (List.getD S 2 0) (List.getD T 2 0) (ad64c (List.getD S 1 0) (List.getD T 1 0) (ad64c (List.getD S 0 0) (List.getD T 0 0) (0 : Int)))) ≤ 1)), (cN 3 4), (cI 3 4), (cN 3 4), (cI 3 4), cT, (cN 2 4), (cI 2 4), (((0 : Int) ≤ (List.getD S 2 0)) ∧ ((0 : Int) ≤ (List.getD T 2 0)) ∧ ((0 : Int) ≤ (ad64c (List.getD S 1 0) (List.getD T 1 0) (ad64c (List.getD S 0 0) (List.getD T 0 0) (0 : Int)))) ∧ ((ad64c (List.getD S 1 0) (List.getD T 1 0) (ad64c (List.getD S 0 0) (List.getD T 0 0) (0 : Int))) ≤ 1)), (cN 2 4), (cI 2 4), (cN 2 4), (cI 2 4), cT, (cN 1 4), (cI 1 4), (((0 : Int) ≤ (List.getD S 1 0)) ∧ ((0 : Int) ≤ (List.getD T 1 0)) ∧ ((0 : Int) ≤ (ad64c (List.getD S 0 0) (List.getD T 0 0) (0 : Int))) ∧ ((ad64c (List.getD S 0 0) (List.getD T 0 0) (0 : Int)) ≤ 1)), (cN 1 4), (cI 1 4), (cN 1 4), (cI 1 4), cT, (cN 0 4), (cI 0 4), (((0 : Int) ≤ (List.getD S 0 0)) ∧ ((0 : Int) ≤ (List.getD T 0 0)) ∧ (cZ 0) ∧ (cZ 1)), (cN 0 4), (cI 0 4), (cN 0 4), (cI 0 4), cT]) (by kernel_rfl)
  (aC (by first | assumption | exact wds_W4 _ | exact wds_ord | (refine wds_four ?_ ?_ ?_ ?_ <;> first | exact ad64_rng _ _ _)) (aC rfl (aC (dd rfl) (aC (dd rfl) (aC ⟨(by have w0_0 := wds_get h0 0; have w0_1 := wds_get h0 1; have w0_2 := wds_get h0 2; have w0_3 := wds_get h0 3; have w1_0 := wds_get h1 0; have w1_1 := wds_get h1 1; have w1_2 := wds_get h1 2; have w1_3 := wds_get h1 3; first | omega | (repeat' (first | omega | (unfold sb64c; split) | (unfold ad64c) | (unfold ad64s)))), (by have w0_0 := wds_get h0 0; have w0_1 := wds_get h0 1; have w0_2 := wds_get h0 2; have w0_3 := wds_get h0 3; have w1_0 := wds_get h1 0; have w1_1 := wds_get h1 1; have w1_2 := wds_get h1 2; have w1_3 := wds_get h1 3; first | omega | (repeat' (first | omega | (unfold sb64c; split) | (unfold ad64c) | (unfold ad64s)))), (by have w0_0 := wds_get h0 0; have w0_1 := wds_get h0 1; have w0_2 := wds_get h0 2; have w0_3 := wds_get h0 3; have w1_0 := wds_get h1 0; have w1_1 := wds_get h1 1; have w1_2 := wds_get h1 2; have w1_3 := wds_get h1 3; first | omega | (repeat' (first | omega | (unfold sb64c; split) | (unfold ad64c) | (unfold ad64s)))), (by have w0_0 := wds_get h0 0; have w0_1 := wds_get h0 1; have w0_2 := wds_get h0 2; have w0_3 := wds_get h0 3; have w1_0 := wds_get h1 0; have w1_1 := wds_get h1 1; have w1_2 := wds_get h1 2; have w1_3 := wds_get h1 3; first | omega | (repeat' (first | omega | (unfold sb64c; split) | (unfold ad64c) | (unfold ad64s))))⟩ (aC (dd rfl) (aC (dd rfl) (aC (dd rfl) (aC (dd rfl) (aC rfl (aC (dd rfl) (aC (dd rfl) (aC ⟨(by have w0_0 := wds_get h0 0; have w0_1 := wds_get h0 1; have w0_2 := wds_get h0 2; have w0_3 := wds_get h0 3; have w1_0 := wds_get h1 0; have w1_1 := wds_get h1 1; have w1_2 := wds_get h1 2; have w1_3 := wds_get h1 3; first | omega | (repeat' (first | omega | (unfold sb64c; split) | (unfold ad64c) | (unfold ad64s)))), (by have w0_0 := wds_get h0 0; have w0_1 := wds_get h0 1; have w0_2 := wds_get h0 2; have w0_3 := wds_get h0 3; have w1_0 := wds_get h1 0; have w1_1 := wds_get h1 1; have w1_2 := wds_get h1 2; have w1_3 := wds_get h1 3; first | omega | (repeat' (first | omega | (unfold sb64c; split) | (unfold ad64c) | (unfold ad64s)))), (by have w0_0 := wds_get h0 0; have w0_1 := wds_get h0 1; have w0_2 := wds_get h0 2; have w0_3 := wds_get h0 3; have w1_0 := wds_get h1 0; have w1_1 := wds_get h1 1; have w1_2 := wds_get h1 2; have w1_3 := wds_get h1 3; first | omega | (repeat' (first | omega | (unfold sb64c; split) | (unfold ad64c) | (unfold ad64s)))), (by have w0_0 := wds_get h0 0; have w0_1 := wds_get h0 1; have w0_2 := wds_get h0 2; have w0_3 := wds_get h0 3; have w1_0 := wds_get h1 0; have w1_1 := wds_get h1 1; have w1_2 := wds_get h1 2; have w1_3 := wds_get h1 3; first | omega | (repeat' (first | omega | (unfold sb64c; split) | (unfold ad64c) | (unfold ad64s))))⟩ (aC (dd rfl) (aC (dd rfl) (aC (dd rfl) (aC (dd rfl) (aC rfl (aC (dd rfl) (aC (dd rfl) (aC ⟨(by have w0_0 := wds_get h0 0; have w0_1 := wds_get h0 1; have w0_2 := wds_get h0 2; have w0_3 := wds_get h0 3; have w1_0 := wds_get h1 0; have w1_1 := wds_get h1 1; have w1_2 := wds_get h1 2; have w1_3 := wds_get h1 3; first | omega | (repeat' (first | omega | (unfold sb64c; split) | (unfold ad64c) | (unfold ad64s)))), (by have w0_0 := wds_get h0 0; have w0_1 := wds_get h0 1; have w0_2 := wds_get h0 2; have w0_3 := wds_get h0 3; have w1_0 := wds_get h1 0; have w1_1 := wds_get h1 1; have w1_2 := wds_get h1 2; have w1_3 := wds_get h1 3; first | omega | (repeat' (first | omega | (unfold sb64c; split) | (unfold ad64c) | (unfold ad64s)))), (by have w0_0 := wds_get h0 0; have w0_1 := wds_get h0 1; have w0_2 := wds_get h0 2; have w0_3 := wds_get h0 3; have w1_0 := wds_get h1 0; have w1_1 := wds_get h1 1; have w1_2 := wds_get h1 2; have w1_3 := wds_get h1 3; first | omega | (repeat' (first | omega | (unfold sb64c; split) | (unfold ad64c) | (unfold ad64s)))), (by have w0_0 := wds_get h0 0; have w0_1 := wds_get h0 1; have w0_2 := wds_get h0 2; have w0_3 := wds_get h0 3; have w1_0 := wds_get h1 0; have w1_1 := wds_get h1 1; have w1_2 := wds_get h1 2; have w1_3 := wds_get h1 3; first | omega | (repeat' (first | omega | (unfold sb64c; split) | (unfold ad64c) | (unfold ad64s))))⟩ (aC (dd rfl) (aC (dd rfl) (aC (dd rfl) (aC (dd rfl) (aC rfl (aC (dd rfl) (aC (dd rfl) (aC ⟨(by have w0_0 := wds_get h0 0; have w0_1 := wds_get h0 1; have w0_2 := wds_get h0 2; have w0_3 := wds_get h0 3; have w1_0 := wds_get h1 0; have w1_1 := wds_get h1 1; have w1_2 := wds_get h1 2; have w1_3 := wds_get h1 3; first | omega | (repeat' (first | omega | (unfold sb64c; split) | (unfold ad64c) | (unfold ad64s)))), (by have w0_0 := wds_get h0 0; have w0_1 := wds_get h0 1; have w0_2 := wds_get h0 2; have w0_3 := wds_get h0 3; have w1_0 := wds_get h1 0; have w1_1 := wds_get h1 1; have w1_2 := wds_get h1 2; have w1_3 := wds_get h1 3; first | omega | (repeat' (first | omega | (unfold sb64c; split) | (unfold ad64c) | (unfold ad64s)))), (dd rfl), (dd rfl)⟩ (aC (dd rfl) (aC (dd rfl) (aC (dd rfl) (aC (dd rfl) (aC rfl (AllP_nil)))))))))))))))))))))))))))))))))))

theorem minA_body0 (S : List Int) (h0 : (Wds S)) (hv0 : List.length S = 4) (hc : S = [0, 0, 0, 0]) (w : World) : Body Try.prog (tabOf tabNM) Try.f95 ⟨w, [], 0, noEnv⟩ (toA [.g [.ints .u64 4 S]]) [] (fun ys _ => ys = [.g [.ints .u64 4 S]]) :=
 Body.of_fin (Γ := gam6) (Λ := noLam) (Ψ := noPsi) (fuel := 0) (m := 16) (c := (Try.f95.body.getD .skip)) mix tabOkNM gam6_ok rfl (rs := [.cell 2 104]) rfl rfl [true] []
  (vc := [((decide (S = ([0, 0, 0, 0] : List Int))) = true)]) (by kernel_rfl)
  (aC (decide_eq_true hc) (AllP_nil))

def minB (S : List Int) : List Int :=
 (W4 (difR (V4 ([6346243789798364141, 1503914060200516822, 0, 1152921504606846976] : List Int)) (V4 S)))

theorem minB_body0 (S : List Int) (h0 : (Wds S)) (hv0 : List.length S = 4) (hc : S ≠ [0, 0, 0, 0]) (w : World) : Body Try.prog (tabOf tabNM) Try.f95 ⟨w, [], 0, noEnv⟩ (toA [.g [.ints .u64 4 S]]) [] (fun ys _ => ys = [.g [.ints .u64 4 (minB S)]]) :=
 Body.of_fin (Γ := gam6) (Λ := noLam) (Ψ := noPsi) (fuel := 0) (m := 16) (c := (Try.f95.body.getD .skip)) mix tabOkNM gam6_ok rfl (rs := [.cell 2 104]) rfl rfl [false] []
  (vc := [((Wds ([6346243789798364141, 1503914060200516822, 0, 1152921504606846976] : List Int)) ∧ (Wds S)), ((decide (S = ([0, 0, 0, 0] : List Int))) = false)]) (by kernel_rfl)
  (aC ⟨(by first | assumption | exact wds_W4 _ | exact wds_ord | (refine wds_four ?_ ?_ ?_ ?_ <;> first | exact ad64_rng _ _ _)), (by first | assumption | exact wds_W4 _ | exact wds_ord | (refine wds_four ?_ ?_ ?_ ?_ <;> first | exact ad64_rng _ _ _))⟩ (aC (df hc) (AllP_nil)))

def frm (s : List Int) : List Int :=
 ([(bits2 .or .u64 (bits2 .or .u64 (bits2 .or .u64 (bits2 .or .u64 (bits2 .or .u64 (bits2 .or .u64 (bits2 .or .u64 (bits2 .or .u64 (0 : Int) (shl .u64 (IntKind.u64.wrap (List.getD s 0 0)) (0 : Int))) (shl .u64 (IntKind.u64.wrap (List.getD s 1 0)) (8 : Int))) (shl .u64 (IntKind.u64.wrap (List.getD s 2 0)) (16 : Int))) (shl .u64 (IntKind.u64.wrap (List.getD s 3 0)) (24 : Int))) (shl .u64 (IntKind.u64.wrap (List.getD s 4 0)) (32 : Int))) (shl .u64 (IntKind.u64.wrap (List.getD s 5 0)) (40 : Int))) (shl .u64 (IntKind.u64.wrap (List.getD s 6 0)) (48 : Int))) (shl .u64 (IntKind.u64.wrap (List.getD s 7 0)) (56 : Int))), (bits2 .or .u64 (bits2 .or .u64 (bits2 .or .u64 (bits2 .or .u64 (bits2 .or .u64 (bits2 .or .u64 (bits2 .or .u64 (bits2 .or .u64 (0 : Int) (shl .u64 (IntKind.u64.wrap (List.getD s 8 0)) (0 : Int))) (shl .u64 (IntKind.u64.wrap (List.getD s 9 0)) (8 : Int))) (shl .u64 (IntKind.u64.wrap (List.getD s 10 0)) (16 : Int))) (shl .u64 (IntKind.u64.wrap (List.getD s 11 0)) (24 : Int))) (shl .u64 (IntKind.u64.wrap (List.getD s 12 0)) (32 : Int))) (shl .u64 (IntKind.u64.wrap (List.getD s 13 0)) (40 : Int))) (shl .u64 (IntKind.u64.wrap (List.getD s 14 0)) (48 : Int))) (shl .u64 (IntKind.u64.wrap (List.getD s 15 0)) (56 : Int))), (bits2 .or .u64 (bits2 .or .u64 (bits2 .or .u64 (bits2 .or .u64 (bits2 .or .u64 (bits2 .or .u64 (bits2 .or .u64 (bits2 .or .u64 (0 : Int) (shl .u64 (IntKind.u64.wrap (List.getD s 16 0)) (0 : Int))) (shl .u64 (IntKind.u64.wrap (List.getD s 17 0)) (8 : Int))) (shl .u64 (IntKind.u64.wrap (List.getD s 18 0)) (16 : Int))) (shl .u64 (IntKind.u64.wrap (List.getD s 19 0)) (24 : Int))) (shl .u64 (IntKind.u64.wrap (List.getD s 20 0)) (32 : Int))) (shl .u64 (IntKind.u64.wrap (List.getD s 21 0)) (40 : Int))) (shl .u64 (IntKind.u64.wrap (List.getD s 22 0)) (48 : Int))) (shl .u64 (IntKind.u64.wrap (List.getD s 23 0)) (56 : Int))), (bits2 .or .u64 (bits2 .or .u64 (bits2 .or .u64 (bits2 .or .u64 (bits2 .or .u64 (bits2 .or .u64 (bits2 .or .u64 (bits2 .or .u64 (0 : Int) (shl .u64 (IntKind.u64.wrap (List.getD s 24 0)) (0 : Int))) (shl .u64 (IntKind.u64.wrap (List.getD s 25 0)) (8 : Int))) (shl .u64 (IntKind.u64.wrap (List.getD s 26 0)) (16 : Int))) (shl .u64 (IntKind.u64.wrap (List.getD s 27 0)) (24 : Int))) (shl .u64 (IntKind.u64.wrap (List.getD s 28 0)) (32 : Int))) (shl .u64 (IntKind.u64.wrap (List.getD s 29 0)) (40 : Int))) (shl .u64 (IntKind.u64.wrap (List.getD s 30 0)) (48 : Int))) (shl .u64 (IntKind.u64.wrap (List.getD s 31 0)) (56 : Int)))] : List Int)

theorem frm_body0 (s : List Int) (hv0 : List.length s = 32) (w : World) : Body Try.prog (tabOf tabNM) Try.f74 ⟨w, [], 0, noEnv⟩ (toA [.g [.ints .u8 32 s]]) [] (fun ys _ => ys = [.g [.ints .u64 4 (frm s)]]) :=
 Body.of_fin (Γ := gam6) (Λ := noLam) (Ψ := noPsi) (fuel := 33) (m := 24) (c := (Try.f74.body.getD .skip)) mix tabOkNM gam6_ok rfl (rs := [.cell 2 104]) rfl rfl [true, true, true, true, true, true, true, true, true, true, true, true, true, true, true, true, true, true, true, true, true, true, true, true, true, true, true, true, true, true, true, true, false] []
  (vc := [(false = false), (cN 3 4), (cI 3 4), (cZ 56), ((8 : Int) ≠ 0), (cN 31 32), (cI 31 32), (cN 3 4), (cI 3 4), ((8 : Int) ≠ 0), cT, (cN 3 4), (cI 3 4), (cZ 48), ((8 : Int) ≠ 0), (cN 30 32), (cI 30 32), (cN 3 4), (cI 3 4), ((8 : Int) ≠ 0), cT, (cN 3 4), (cI 3 4), (cZ 40), ((8 : Int) ≠ 0), (cN 29 32), (cI 29 32), (cN 3 4), (cI 3 4), ((8 : Int) ≠ 0), cT, (cN 3 4), (cI 3 4), (cZ 32), ((8 : Int) ≠ 0), (cN 28 32), (cI 28 32), (cN 3 4), (cI 3 4), ((8 : Int) ≠ 0), cT, (cN 3 4), (cI 3 4), (cZ 24), ((8 : Int) ≠ 0), (cN 27 32), (cI 27 32), (cN 3 4), (cI 3 4), ((8 : Int) ≠ 0), cT, (cN 3 4), (cI 3 4), (cZ 16), ((8 : Int) ≠ 0), (cN 26 32), (cI 26 32), (cN 3 4), (cI 3 4), ((8 : Int) ≠ 0), cT, (cN 3 4), (cI 3 4), (cZ 8), ((8 : Int) ≠ 0), (cN 25 32), (cI 25 32), (cN 3 4), (cI 3 4), ((8 : Int) ≠ 0), cT, (cN 3 4), (cI 3 4), (cZ 0), ((8 : Int) ≠ 0), (cN 24 32), (cI 24 32), (cN 3 4), (cI 3 4), ((8 : Int) ≠ 0), cT, (cN 2 4), (cI 2 4), (cZ 56), ((8 : Int) ≠ 0), (cN 23 32), (cI 23 32), (cN 2 4), (cI 2 4), ((8 : Int) ≠ 0), cT, (cN 2 4), (cI 2 4), (cZ 48), ((8 : Int) ≠ 0), (cN 22 32), (cI 22 32), (cN 2 4), (cI 2 4), ((8 : Int) ≠ 0), cT, (cN 2 4), (cI 2 4), (cZ 40), ((8 : Int) ≠ 0), (cN 21 32), (cI 21 32), (cN 2 4), (cI 2 4), ((8 : Int) ≠ 0), cT, (cN 2 4), (cI 2 4), (cZ 32), ((8 : Int) ≠ 0), (cN 20 32), (cI 20 32), (cN 2 4), (cI 2 4), ((8 : Int) ≠ 0), cT, (cN 2 4), (cI 2 4), (cZ 24), ((8 : Int) ≠ 0), (cN 19 32), (cI 19 32), (cN 2 4), (cI 2 4), ((8 : Int) ≠ 0), cT, (cN 2 4), (cI 2 4), (cZ 16), ((8 : Int) ≠ 0), (cN 18 32), (cI 18 32), (cN 2 4), (cI 2 4), ((8 : Int) ≠ 0), cT, (cN 2 4), (cI 2 4), (cZ 8), ((8 : Int) ≠ 0), (cN 17 32), (cI 17 32), (cN 2 4), (cI 2 4), ((8 : Int) ≠ 0), cT, (cN 2 4), (cI 2 4), (cZ 0), ((8 : Int) ≠ 0), (cN 16 32), (cI 16 32), (cN 2 4), (cI 2 4), ((8 : Int) ≠ 0), cT, (cN 1 4), (cI 1 4), (cZ 56), ((8 : Int) ≠ 0), (cN 15 32), (cI 15 32), (cN 1 4), (cI 1 4), ((8 : Int) ≠ 0), cT, (cN 1 4), (cI 1 4), (cZ 48), ((8 : Int) ≠ 0), (cN 14 32), (cI 14 32), (cN 1 4), (cI 1 4), ((8 : Int) ≠ 0), cT, (cN 1 4), (cI 1 4), (cZ 40), ((8 : Int) ≠ 0), (cN 13 32), (cI 13 32), (cN 1 4), (cI 1 4), ((8 : Int) ≠ 0), cT, (cN 1 4), (cI 1 4), (cZ 32), ((8 : Int) ≠ 0), (cN 12 32), (cI 12 32), (cN 1 4), (cI 1 4), ((8 : Int) ≠ 0), cT, (cN 1 4), (cI 1 4), (cZ 24), ((8 : Int) ≠ 0), (cN 11 32), (cI 11 32), (cN 1 4), (cI 1 4), ((8 : Int) ≠ 0), cT, (cN 1 4), (cI 1 4), (cZ 16), ((8 : Int) ≠ 0), (cN 10 32), (cI 10 32), (cN 1 4), (cI 1 4), ((8 : Int) ≠ 0), cT, (cN 1 4), (cI 1 4), (cZ 8), ((8 : Int) ≠ 0), (cN 9 32), (cI 9 32), (cN 1 4), (cI 1 4), ((8 : Int) ≠ 0), cT, (cN 1 4), (cI 1 4), (cZ 0), ((8 : Int) ≠ 0), (cN 8 32), (cI 8 32), (cN 1 4), (cI 1 4), ((8 : Int) ≠ 0), cT, (cN 0 4), (cI 0 4), (cZ 56), ((8 : Int) ≠ 0), (cN 7 32), (cI 7 32), (cN 0 4), (cI 0 4), ((8 : Int) ≠ 0), cT, (cN 0 4), (cI 0 4), (cZ 48), ((8 : Int) ≠ 0), (cN 6 32), (cI 6 32), (cN 0 4), (cI 0 4), ((8 : Int) ≠ 0), cT, (cN 0 4), (cI 0 4), (cZ 40), ((8 : Int) ≠ 0), (cN 5 32), (cI 5 32), (cN 0 4), (cI 0 4), ((8 : Int) ≠ 0), cT, (cN 0 4), (cI 0 4), (cZ 32), ((8 : Int) ≠ 0), (cN 4 32), (cI 4 32), (cN 0 4), (cI 0 4), ((8 : Int) ≠ 0), cT, (cN 0 4), (cI 0 4), (cZ 24), ((8 : Int) ≠ 0), (cN 3 32), (cI 3 32), (cN 0 4), (cI 0 4), ((8 : Int) ≠ 0), cT, (cN 0 4), (cI 0 4), (cZ 16), ((8 : Int) ≠ 0), (cN 2 32), (cI 2 32), (cN 0 4), (cI 0 4), ((8 : Int) ≠ 0), cT, (cN 0 4), (cI 0 4), (cZ 8), ((8 : Int) ≠ 0), (cN 1 32), (cI 1 32), (cN 0 4), (cI 0 4), ((8 : Int) ≠ 0), cT, (cN 0 4), (cI 0 4), (cZ 0), ((8 : Int) ≠ 0), (cN 0 32), (cI 0 32), (cN 0 4), (cI 0 4), ((8 : Int) ≠ 0), cT]) (by kernel_rfl)
  (aC rfl (aC (dd rfl) (aC (dd rfl) (aC (dd rfl) (aC (dd rfl) (aC (dd rfl) (aC (dd rfl) (aC (dd rfl) (aC (dd rfl) (aC (dd rfl) (aC rfl (aC (dd rfl) (aC (dd rfl) (aC (dd rfl) (aC (dd rfl) (aC (dd rfl) (aC (dd rfl) (aC (dd rfl) (aC (dd rfl) (aC (dd rfl) (aC rfl (aC (dd rfl) (aC (dd rfl) (aC (dd rfl) (aC (dd rfl) (aC (dd rfl) (aC (dd rfl) (aC (dd rfl) (aC (dd rfl) (aC (dd rfl) (aC rfl (aC (dd rfl) (aC (dd rfl) (aC (dd rfl) (aC (dd rfl) (aC (dd rfl) (aC (dd rfl) (aC (dd rfl) (aC (dd rfl) (aC (dd rfl) (aC rfl (aC (dd rfl) (aC (dd rfl) (aC (dd rfl) (aC (dd rfl) (aC (dd rfl) (aC (dd rfl) (aC (dd rfl) (aC (dd rfl) (aC (dd rfl) (aC rfl (aC (dd rfl) (aC (dd rfl) (aC (dd rfl) (aC (dd rfl) (aC (dd rfl) (aC (dd rfl) (aC (dd rfl) (aC (dd rfl) (aC (dd rfl) (aC rfl (aC (dd rfl) (aC (dd rfl) (aC (dd rfl) (aC (dd rfl) (aC (dd rfl) (aC (dd rfl) (aC (dd rfl) (aC (dd rfl) (aC (dd rfl) (aC rfl (aC (dd rfl) (aC (dd rfl) (aC (dd rfl) (aC (dd rfl) (aC (dd rfl) (aC (dd rfl) (aC (dd rfl) (aC (dd rfl) (aC (dd rfl) (aC rfl (aC (dd rfl) (aC (dd rfl) (aC (dd rfl) (aC (dd rfl) (aC (dd rfl) (aC (dd rfl) (aC (dd rfl) (aC (dd rfl) (aC (dd rfl) (aC rfl (aC (dd rfl) (aC (dd rfl) (aC (dd rfl) (aC (dd rfl) (aC (dd rfl) (aC (dd rfl) (aC (dd rfl) (aC (dd rfl) (aC (dd rfl) (aC rfl (aC (dd rfl) (aC (dd rfl) (aC (dd rfl) (aC (dd rfl) (aC (dd rfl) (aC (dd rfl) (aC (dd rfl) (aC (dd rfl) (aC (dd rfl) (aC rfl (aC (dd rfl) (aC (dd rfl) (aC (dd rfl) (aC (dd rfl) (aC (dd rfl) (aC (dd rfl) (aC (dd rfl) (aC (dd rfl) (aC (dd rfl) (aC rfl (aC (dd rfl) (aC (dd rfl) (aC (dd rfl) (aC (dd rfl) (aC (dd rfl) (aC (dd rfl) (aC (dd rfl) (aC (dd rfl) (aC (dd rfl) (aC rfl (aC (dd rfl) (aC (dd rfl) (aC (dd rfl) (aC (dd rfl) (aC (dd rfl) (aC (dd rfl) (aC (dd rfl) (aC (dd rfl) (aC (dd rfl) (aC rfl (aC (dd rfl) (aC (dd rfl) (aC (dd rfl) (aC (dd rfl) (aC (dd rfl) (aC (dd rfl) (aC (dd rfl) (aC (dd rfl) (aC (dd rfl) (aC rfl (aC (dd rfl) (aC (dd rfl) (aC (dd rfl) (aC (dd rfl) (aC (dd rfl) (aC (dd rfl) (aC (dd rfl) (aC (dd rfl) (aC (dd rfl) (aC rfl (aC (dd rfl) (aC (dd rfl) (aC (dd rfl) (aC (dd rfl) (aC (dd rfl) (aC (dd rfl) (aC (dd rfl) (aC (dd rfl) (aC (dd rfl) (aC rfl (aC (dd rfl) (aC (dd rfl) (aC (dd rfl) (aC (dd rfl) (aC (dd rfl) (aC (dd rfl) (aC (dd rfl) (aC (dd rfl) (aC (dd rfl) (aC rfl (aC (dd rfl) (aC (dd rfl) (aC (dd rfl) (aC (dd rfl) (aC (dd rfl) (aC (dd rfl) (aC (dd rfl) (aC (dd rfl) (aC (dd rfl) (aC rfl (aC (dd rfl) (aC (dd rfl) (aC (dd rfl) (aC (dd rfl) (aC (dd rfl) (aC (dd rfl) (aC (dd rfl) (aC (dd rfl) (aC (dd rfl) (aC rfl (aC (dd rfl) (aC (dd rfl) (aC (dd rfl) (aC (dd rfl) (aC (dd rfl) (aC (dd rfl) (aC (dd rfl) (aC (dd rfl) (aC (dd rfl) (aC rfl (aC (dd rfl) (aC (dd rfl) (aC (dd rfl) (aC (dd rfl) (aC (dd rfl) (aC (dd rfl) (aC (dd rfl) (aC (dd rfl) (aC (dd rfl) (aC rfl (aC (dd rfl) (aC (dd rfl) (aC (dd rfl) (aC (dd rfl) (aC (dd rfl) (aC (dd rfl) (aC (dd rfl) (aC (dd rfl) (aC (dd rfl) (aC rfl (aC (dd rfl) (aC (dd rfl) (aC (dd rfl) (aC (dd rfl) (aC (dd rfl) (aC (dd rfl) (aC (dd rfl) (aC (dd rfl) (aC (dd rfl) (aC rfl (aC (dd rfl) (aC (dd rfl) (aC (dd rfl) (aC (dd rfl) (aC (dd rfl) (aC (dd rfl) (aC (dd rfl) (aC (dd rfl) (aC (dd rfl) (aC rfl (aC (dd rfl) (aC (dd rfl) (aC (dd rfl) (aC (dd rfl) (aC (dd rfl) (aC (dd rfl) (aC (dd rfl) (aC (dd rfl) (aC (dd rfl) (aC rfl (aC (dd rfl) (aC (dd rfl) (aC (dd rfl) (aC (dd rfl) (aC (dd rfl) (aC (dd rfl) (aC (dd rfl) (aC (dd rfl) (aC (dd rfl) (aC rfl (aC (dd rfl) (aC (dd rfl) (aC (dd rfl) (aC (dd rfl) (aC (dd rfl) (aC (dd rfl) (aC (dd rfl) (aC (dd rfl) (aC (dd rfl) (aC rfl (aC (dd rfl) (aC (dd rfl) (aC (dd rfl) (aC (dd rfl) (aC (dd rfl) (aC (dd rfl) (aC (dd rfl) (aC (dd rfl) (aC (dd rfl) (aC rfl (aC (dd rfl) (aC (dd rfl) (aC (dd rfl) (aC (dd rfl) (aC (dd rfl) (aC (dd rfl) (aC (dd rfl) (aC (dd rfl) (aC (dd rfl) (aC rfl (aC (dd rfl) (aC (dd rfl) (aC (dd rfl) (aC (dd rfl) (aC (dd rfl) (aC (dd rfl) (aC (dd rfl) (aC (dd rfl) (aC (dd rfl) (aC rfl (aC (dd rfl) (aC (dd rfl) (aC (dd rfl) (aC (dd rfl) (aC (dd rfl) (aC (dd rfl) (aC (dd rfl) (aC (dd rfl) (aC (dd rfl) (aC rfl (AllP_nil))))))))))))))))))))))))))))))))))))))))))))))))))))))))))))))))))))))))))))))))))))))))))))))))))))))))))))))))))))))))))))))))))))))))))))))))))))))))))))))))))))))))))))))))))))))))))))))))))))))))))))))))))))))))))))))))))))))))))))))))))))))))))))))))))))))))))))))))))))))))))))))))))))))))))))))))))))))))))))))))))

def bck (S : List Int) : List Int :=
 ([(IntKind.u8.wrap (shr .u64 (List.getD S 0 0) (0 : Int))), (IntKind.u8.wrap (shr .u64 (List.getD S 0 0) (8 : Int))), (IntKind.u8.wrap (shr .u64 (List.getD S 0 0) (16 : Int))), (IntKind.u8.wrap (shr .u64 (List.getD S 0 0) (24 : Int))), (IntKind.u8.wrap (shr .u64 (List.getD S 0 0) (32 : Int))), (IntKind.u8.wrap (shr .u64 (List.getD S 0 0) (40 : Int))), (IntKind.u8.wrap (shr .u64 (List.getD S 0 0) (48 : Int))), (IntKind.u8.wrap (shr .u64 (List.getD S 0 0) (56 : Int))), (IntKind.u8.wrap (shr .u64 (List.getD S 1 0) (0 : Int))), (IntKind.u8.wrap (shr .u64 (List.getD S 1 0) (8 : Int))), (IntKind.u8.wrap (shr .u64 (List.getD S 1 0) (16 : Int))), (IntKind.u8.wrap (shr .u64 (List.getD S 1 0) (24 : Int))), (IntKind.u8.wrap (shr .u64 (List.getD S 1 0) (32 : Int))), (IntKind.u8.wrap (shr .u64 (List.getD S 1 0) (40 : Int))), (IntKind.u8.wrap (shr .u64 (List.getD S 1 0) (48 : Int))), (IntKind.u8.wrap (shr .u64 (List.getD S 1 0) (56 : Int))), (IntKind.u8.wrap (shr .u64 (List.getD S 2 0) (0 : Int))), (IntKind.u8.wrap (shr .u64 (List.getD S 2 0) (8 : Int))), (IntKind.u8.wrap (shr .u64 (List.getD S 2 0) (16 : Int))), (IntKind.u8.wrap (shr .u64 (List.getD S 2 0) (24 : Int))), (IntKind.u8.wrap (shr .u64 (List.getD S 2 0) (32 : Int))), (IntKind.u8.wrap (shr .u64 (List.getD S 2 0) (40 : Int))), (IntKind.u8.wrap (shr .u64 (List.getD S 2 0) (48 : Int))), (IntKind.u8.wrap (shr .u64 (List.getD S 2 0) (56 : Int))), (IntKind.u8.wrap (shr .u64 (List.getD S 3 0) (0 : Int))), (IntKind.u8.wrap (shr .u64 (List.getD S 3 0) (8 : Int))), (IntKind.u8.wrap (shr .u64 (List.getD S 3 0) (16 : Int))), (IntKind.u8.wrap (shr .u64 (List.getD S 3 0) (24 : Int))), (IntKind.u8.wrap (shr .u64 (List.getD S 3 0) (32 : Int))), (IntKind.u8.wrap (shr .u64 (List.getD S 3 0) (40 : Int))), (IntKind.u8.wrap (shr .u64 (List.getD S 3 0) (48 : Int))), (IntKind.u8.wrap (shr .u64 (List.getD S 3 0) (56 : Int)))] : List Int)

theorem bck_body0 (S : List Int) (hv0 : List.length S = 4) (w : World) : Body Try.prog (tabOf tabNM) Try.f71 ⟨w, [], 0, noEnv⟩ (toA [.g [.ints .u64 4 S]]) [] (fun ys _ => ys = [.g [.ints .u8 32 (bck S)]]) :=
 Body.of_fin (Γ := gam6) (Λ := noLam) (Ψ := noPsi) (fuel := 33) (m := 21) (c := (Try.f71.body.getD .skip)) mix tabOkNM gam6_ok rfl (rs := [.cell 2 24]) rfl rfl [true, true, true, true, true, true, true, true, true, true, true, true, true, true, true, true, true, true, true, true, true, true, true, true, true, true, true, true, true, true, true, true, false] []
  (vc := [(false = false), (cN 31 32), (cI 31 32), (cZ 56), ((8 : Int) ≠ 0), (cN 3 4), (cI 3 4), ((8 : Int) ≠ 0), cT, (cN 30 32), (cI 30 32), (cZ 48), ((8 : Int) ≠ 0), (cN 3 4), (cI 3 4), ((8 : Int) ≠ 0), cT, (cN 29 32), (cI 29 32), (cZ 40), ((8 : Int) ≠ 0), (cN 3 4), (cI 3 4), ((8 : Int) ≠ 0), cT, (cN 28 32), (cI 28 32), (cZ 32), ((8 : Int) ≠ 0), (cN 3 4), (cI 3 4), ((8 : Int) ≠ 0), cT, (cN 27 32), (cI 27 32), (cZ 24), ((8 : Int) ≠ 0), (cN 3 4), (cI 3 4), ((8 : Int) ≠ 0), cT, (cN 26 32), (cI 26 32), (cZ 16), ((8 : Int) ≠ 0), (cN 3 4), (cI 3 4), ((8 : Int) ≠ 0), cT, (cN 25 32), (cI 25 32), (cZ 8), ((8 : Int) ≠ 0), (cN 3 4), (cI 3 4), ((8 : Int) ≠ 0), cT, (cN 24 32), (cI 24 32), (cZ 0), ((8 : Int) ≠ 0), (cN 3 4), (cI 3 4), ((8 : Int) ≠ 0), cT, (cN 23 32), (cI 23 32), (cZ 56), ((8 : Int) ≠ 0), (cN 2 4), (cI 2 4), ((8 : Int) ≠ 0), cT, (cN 22 32), (cI 22 32), (cZ 48), ((8 : Int) ≠ 0), (cN 2 4), (cI 2 4), ((8 : Int) ≠ 0), cT, (cN 21 32), (cI 21 32), (cZ 40), ((8 : Int) ≠ 0), (cN 2 4), (cI 2 4), ((8 : Int) ≠ 0), cT, (cN 20 32), (cI 20 32), (cZ 32), ((8 : Int) ≠ 0), (cN 2 4), (cI 2 4), ((8 : Int) ≠ 0), cT, (cN 19 32), (cI 19 32), (cZ 24), ((8 : Int) ≠ 0), (cN 2 4), (cI 2 4), ((8 : Int) ≠ 0), cT, (cN 18 32), (cI 18 32), (cZ 16), ((8 : Int) ≠ 0), (cN 2 4), (cI 2 4), ((8 : Int) ≠ 0), cT, (cN 17 32), (cI 17 32), (cZ 8), ((8 : Int) ≠ 0), (cN 2 4), (cI 2 4), ((8 : Int) ≠ 0), cT, (cN 16 32), (cI 16 32), (cZ 0), ((8 : Int) ≠ 0), (cN 2 4), (cI 2 4), ((8 : Int) ≠ 0), cT, (cN 15 32), (cI 15 32), (cZ 56), ((8 : Int) ≠ 0), (cN 1 4), (cI 1 4), ((8 : Int) ≠ 0), cT, (cN 14 32), (cI 14 32), (cZ 48), ((8 : Int) ≠ 0), (cN 1 4), (cI 1 4), ((8 : Int) ≠ 0), cT, (cN 13 32), (cI 13 32), (cZ 40), ((8 : Int) ≠ 0), (cN 1 4), (cI 1 4), ((8 : Int) ≠ 0), cT, (cN 12 32), (cI 12 32), (cZ 32), ((8 : Int) ≠ 0), (cN 1 4), (cI 1 4), ((8 : Int) ≠ 0), cT, (cN 11 32), (cI 11 32), (cZ 24), ((8 : Int) ≠ 0), (cN 1 4), (cI 1 4), ((8 : Int) ≠ 0), cT, (cN 10 32), (cI 10 32), (cZ 16), ((8 : Int) ≠ 0), (cN 1 4), (cI 1 4), ((8 : Int) ≠ 0), cT, (cN 9 32), (cI 9 32), (cZ 8), ((8 : Int) ≠ 0), (cN 1 4), (cI 1 4), ((8 : Int) ≠ 0), cT, (cN 8 32), (cI 8 32), (cZ 0), ((8 : Int) ≠ 0), (cN 1 4), (cI 1 4), ((8 : Int) ≠ 0), cT, (cN 7 32), (cI 7 32), (cZ 56), ((8 : Int) ≠ 0), (cN 0 4), (cI 0 4), ((8 : Int) ≠ 0), cT, (cN 6 32), (cI 6 32), (cZ 48), ((8 : Int) ≠ 0), (cN 0 4), (cI 0 4), ((8 : Int) ≠ 0), cT, (cN 5 32), (cI 5 32), (cZ 40), ((8 : Int) ≠ 0), (cN 0 4), (cI 0 4), ((8 : Int) ≠ 0), cT, (cN 4 32), (cI 4 32), (cZ 32), ((8 : Int) ≠ 0), (cN 0 4), (cI 0 4), ((8 : Int) ≠ 0), cT, (cN 3 32), (cI 3 32), (cZ 24), ((8 : Int) ≠ 0), (cN 0 4), (cI 0 4), ((8 : Int) ≠ 0), cT, (cN 2 32), (cI 2 32), (cZ 16), ((8 : Int) ≠ 0), (cN 0 4), (cI 0 4), ((8 : Int) ≠ 0), cT, (cN 1 32), (cI 1 32), (cZ 8), ((8 : Int) ≠ 0), (cN 0 4), (cI 0 4), ((8 : Int) ≠ 0), cT, (cN 0 32), (cI 0 32), (cZ 0), ((8 : Int) ≠ 0), (cN 0 4), (cI 0 4), ((8 : Int) ≠ 0), cT]) (by kernel_rfl)
  (aC rfl (aC (dd rfl) (aC (dd rfl) (aC (dd rfl) (aC (dd rfl) (aC (dd rfl) (aC (dd rfl) (aC (dd rfl) (aC rfl (aC (dd rfl) (aC (dd rfl) (aC (dd rfl) (aC (dd rfl) (aC (dd rfl) (aC (dd rfl) (aC (dd rfl) (aC rfl (aC (dd rfl) (aC (dd rfl) (aC (dd rfl) (aC (dd rfl) (aC (dd rfl) (aC (dd rfl) (aC (dd rfl) (aC rfl (aC (dd rfl) (aC (dd rfl) (aC (dd rfl) (aC (dd rfl) (aC (dd rfl) (aC (dd rfl) (aC (dd rfl) (aC rfl (aC (dd rfl) (aC (dd rfl) (aC (dd rfl) (aC (dd rfl) (aC (dd rfl) (aC (dd rfl) (aC (dd rfl) (aC rfl (aC (dd rfl) (aC (dd rfl) (aC (dd rfl) (aC (dd rfl) (aC (dd rfl) (aC (dd rfl) (aC (dd rfl) (aC rfl (aC (dd rfl) (aC (dd rfl) (aC (dd rfl) (aC (dd rfl) (aC (dd rfl) (aC (dd rfl) (aC (dd rfl) (aC rfl (aC (dd rfl) (aC (dd rfl) (aC (dd rfl) (aC (dd rfl) (aC (dd rfl) (aC (dd rfl) (aC (dd rfl) (aC rfl (aC (dd rfl) (aC (dd rfl) (aC (dd rfl) (aC (dd rfl) (aC (dd rfl) (aC (dd rfl) (aC (dd rfl) (aC rfl (aC (dd rfl) (aC (dd rfl) (aC (dd rfl) (aC (dd rfl) (aC (dd rfl) (aC (dd rfl) (aC (dd rfl) (aC rfl (aC (dd rfl) (aC (dd rfl) (aC (dd rfl) (aC (dd rfl) (aC (dd rfl) (aC (dd rfl) (aC (dd rfl) (aC rfl (aC (dd rfl) (aC (dd rfl) (aC (dd rfl) (aC (dd rfl) (aC (dd rfl) (aC (dd rfl) (aC (dd rfl) (aC rfl (aC (dd rfl) (aC (dd rfl) (aC (dd rfl) (aC (dd rfl) (aC (dd rfl) (aC (dd rfl) (aC (dd rfl) (aC rfl (aC (dd rfl) (aC (dd rfl) (aC (dd rfl) (aC (dd rfl) (aC (dd rfl) (aC (dd rfl) (aC (dd rfl) (aC rfl (aC (dd rfl) (aC (dd rfl) (aC (dd rfl) (aC (dd rfl) (aC (dd rfl) (aC (dd rfl) (aC (dd rfl) (aC rfl (aC (dd rfl) (aC (dd rfl) (aC (dd rfl) (aC (dd rfl) (aC (dd rfl) (aC (dd rfl) (aC (dd rfl) (aC rfl (aC (dd rfl) (aC (dd rfl) (aC (dd rfl) (aC (dd rfl) (aC (dd rfl) (aC (dd rfl) (aC (dd rfl) (aC rfl (aC (dd rfl) (aC (dd rfl) (aC (dd rfl) (aC (dd rfl) (aC (dd rfl) (aC (dd rfl) (aC (dd rfl) (aC rfl (aC (dd rfl) (aC (dd rfl) (aC (dd rfl) (aC (dd rfl) (aC (dd rfl) (aC (dd rfl) (aC (dd rfl) (aC rfl (aC (dd rfl) (aC (dd rfl) (aC (dd rfl) (aC (dd rfl) (aC (dd rfl) (aC (dd rfl) (aC (dd rfl) (aC rfl (aC (dd rfl) (aC (dd rfl) (aC (dd rfl) (aC (dd rfl) (aC (dd rfl) (aC (dd rfl) (aC (dd rfl) (aC rfl (aC (dd rfl) (aC (dd rfl) (aC (dd rfl) (aC (dd rfl) (aC (dd rfl) (aC (dd rfl) (aC (dd rfl) (aC rfl (aC (dd rfl) (aC (dd rfl) (aC (dd rfl) (aC (dd rfl) (aC (dd rfl) (aC (dd rfl) (aC (dd rfl) (aC rfl (aC (dd rfl) (aC (dd rfl) (aC (dd rfl) (aC (dd rfl) (aC (dd rfl) (aC (dd rfl) (aC (dd rfl) (aC rfl (aC (dd rfl) (aC (dd rfl) (aC (dd rfl) (aC (dd rfl) (aC (dd rfl) (aC (dd rfl) (aC (dd rfl) (aC rfl (aC (dd rfl) (aC (dd rfl) (aC (dd rfl) (aC (dd rfl) (aC (dd rfl) (aC (dd rfl) (aC (dd rfl) (aC rfl (aC (dd rfl) (aC (dd rfl) (aC (dd rfl) (aC (dd rfl) (aC (dd rfl) (aC (dd rfl) (aC (dd rfl) (aC rfl (aC (dd rfl) (aC (dd rfl) (aC (dd rfl) (aC (dd rfl) (aC (dd rfl) (aC (dd rfl) (aC (dd rfl) (aC rfl (aC (dd rfl) (aC (dd rfl) (aC (dd rfl) (aC (dd rfl) (aC (dd rfl) (aC (dd rfl) (aC (dd rfl) (aC rfl (aC (dd rfl) (aC (dd rfl) (aC (dd rfl) (aC (dd rfl) (aC (dd rfl) (aC (dd rfl) (aC (dd rfl) (aC rfl (aC (dd rfl) (aC (dd rfl) (aC (dd rfl) (aC (dd rfl) (aC (dd rfl) (aC (dd rfl) (aC (dd rfl) (aC rfl (aC (dd rfl) (aC (dd rfl) (aC (dd rfl) (aC (dd rfl) (aC (dd rfl) (aC (dd rfl) (aC (dd rfl) (aC rfl (AllP_nil))))))))))))))))))))))))))))))))))))))))))))))))))))))))))))))))))))))))))))))))))))))))))))))))))))))))))))))))))))))))))))))))))))))))))))))))))))))))))))))))))))))))))))))))))))))))))))))))))))))))))))))))))))))))))))))))))))))))))))))))))))))))))))))))))

end Go.Proofs.Ytcpoldghkiiggaa.X

/- Bytes of a number and numbers of bytes; sums. -/
namespace Go.Proofs.Ytcpoldghkiiggaa.X
open Go Go.Proofs
set_option linter.unusedVariables false

theorem wrap8 (x : Int) : IntKind.u8.wrap x = x % 256 := by
 show (let m := x % (256 : Int); if (false && decide (m ≥ (128 : Int))) = true then m - 256 else m) = x % 256
 simp only [Bool.false_and, Bool.false_eq_true, if_false]
theorem shr_0 (x : Int) : shr .u64 x 0 = x / 1 := by
 have e : shr .u64 x 0 = x.fdiv 1 := rfl
 rw [e, Int.fdiv_eq_ediv_of_nonneg _ (by omega)]
theorem shr_8 (x : Int) : shr .u64 x 8 = x / 256 := by
 have e : shr .u64 x 8 = x.fdiv 256 := rfl
 rw [e, Int.fdiv_eq_ediv_of_nonneg _ (by omega)]
theorem shr_16 (x : Int) : shr .u64 x 16 = x / 65536 := by
 have e : shr .u64 x 16 = x.fdiv 65536 := rfl
 rw [e, Int.fdiv_eq_ediv_of_nonneg _ (by omega)]
theorem shr_24 (x : Int) : shr .u64 x 24 = x / 16777216 := by
 have e : shr .u64 x 24 = x.fdiv 16777216 := rfl
 rw [e, Int.fdiv_eq_ediv_of_nonneg _ (by omega)]
theorem shr_32 (x : Int) : shr .u64 x 32 = x / 4294967296 := by
 have e : shr .u64 x 32 = x.fdiv 4294967296 := rfl
 rw [e, Int.fdiv_eq_ediv_of_nonneg _ (by omega)]
theorem shr_40 (x : Int) : shr .u64 x 40 = x / 1099511627776 := by
 have e : shr .u64 x 40 = x.fdiv 1099511627776 := rfl
 rw [e, Int.fdiv_eq_ediv_of_nonneg _ (by omega)]
theorem shr_48 (x : Int) : shr .u64 x 48 = x / 281474976710656 := by
 have e : shr .u64 x 48 = x.fdiv 281474976710656 := rfl
 rw [e, Int.fdiv_eq_ediv_of_nonneg _ (by omega)]
theorem shr_56 (x : Int) : shr .u64 x 56 = x / 72057594037927936 := by
 have e : shr .u64 x 56 = x.fdiv 72057594037927936 := rfl
 rw [e, Int.fdiv_eq_ediv_of_nonneg _ (by omega)]

theorem or_shl {a b : Int} {n : Nat} (hn : n ≤ 56) (h0 : 0 ≤ a) (h1 : a < ((2 ^ n : Nat) : Int)) (b0 : 0 ≤ b) (b1 : b < 256) : bits2 .or .u64 a (shl .u64 (IntKind.u64.wrap b) (n : Int)) = a + b * ((2 ^ n : Nat) : Int) := by
 obtain ⟨x, rfl⟩ := Int.eq_ofNat_of_zero_le h0
 obtain ⟨y, rfl⟩ := Int.eq_ofNat_of_zero_le b0
 have hx : x < 2 ^ n := by omega
 have hy : y < 256 := by omega
 have hp : 2 ^ n ≤ 2 ^ 56 := Nat.pow_le_pow_right (by omega) hn
 have hp0 : 0 < 2 ^ n := Nat.pow_pos (by omega)
 have hyp : y * 2 ^ n ≤ 255 * 2 ^ 56 := Nat.mul_le_mul (by omega) hp
 have e1 : shl .u64 (IntKind.u64.wrap (y : Int)) (n : Int) = ((y * 2 ^ n : Nat) : Int) := by
  have : shl .u64 (IntKind.u64.wrap (y : Int)) (n : Int) = IntKind.u64.wrap (IntKind.u64.wrap (y : Int) * 2 ^ (min n 64)) := rfl
  rw [this, Nat.min_eq_left (by omega), wrap64 (y : Int), Int.emod_eq_of_lt (by omega) (by omega), wrap64]
  have e : (y : Int) * 2 ^ n = ((y * 2 ^ n : Nat) : Int) := by rw [Int.natCast_mul, Int.natCast_pow]; rfl
  rw [e]
  exact Int.emod_eq_of_lt (by omega) (by omega)
 rw [e1]
 have e : bits2 .or .u64 ((x : Nat) : Int) ((y * 2 ^ n : Nat) : Int) = IntKind.u64.wrap (((BitVec.ofInt 64 ((x : Nat) : Int) ||| BitVec.ofInt 64 ((y * 2 ^ n : Nat) : Int)).toNat : Nat) : Int) := rfl
 have t : ∀ m : Nat, m < 18446744073709551616 → (BitVec.ofInt 64 (m : Int)).toNat = m := by
  intro m hm
  rw [BitVec.toNat_ofInt]
  show ((m : Int) % 18446744073709551616).toNat = m
  omega
 rw [e, BitVec.toNat_or, t x (by omega), t (y * 2 ^ n) (by omega), Nat.or_comm, Nat.mul_comm y, ← Nat.two_pow_add_eq_or_of_lt hx, wrap64]
 have : ((2 ^ n * y + x : Nat) : Int) % 18446744073709551616 = ((2 ^ n * y + x : Nat) : Int) := Int.emod_eq_of_lt (by omega) (by rw [Nat.mul_comm]; omega)
 rw [this, Int.natCast_add, Int.natCast_mul, Int.add_comm, Int.mul_comm]

def Byt (s : List Int) : Prop := ∀ x ∈ s, 0 ≤ x ∧ x < 256
theorem byt_get {s : List Int} (h : Byt s) (i : Nat) : 0 ≤ List.getD s i 0 ∧ List.getD s i 0 < 256 := by
 rw [List.getD_eq_getElem?_getD]
 by_cases hi : i < s.length
 ·rw [List.getElem?_eq_getElem hi]; exact h _ (List.getElem_mem hi)
 ·rw [List.getElem?_eq_none (by omega)]; simp

theorem word8 {b0 b1 b2 b3 b4 b5 b6 b7 : Int} (h0 : 0 ≤ b0 ∧ b0 < 256) (h1 : 0 ≤ b1 ∧ b1 < 256) (h2 : 0 ≤ b2 ∧ b2 < 256) (h3 : 0 ≤ b3 ∧ b3 < 256) (h4 : 0 ≤ b4 ∧ b4 < 256) (h5 : 0 ≤ b5 ∧ b5 < 256) (h6 : 0 ≤ b6 ∧ b6 < 256) (h7 : 0 ≤ b7 ∧ b7 < 256) : (bits2 .or .u64 (bits2 .or .u64 (bits2 .or .u64 (bits2 .or .u64 (bits2 .or .u64 (bits2 .or .u64 (bits2 .or .u64 (bits2 .or .u64 (0 : Int) (shl .u64 (IntKind.u64.wrap b0) (0 : Int))) (shl .u64 (IntKind.u64.wrap b1) (8 : Int))) (shl .u64 (IntKind.u64.wrap b2) (16 : Int))) (shl .u64 (IntKind.u64.wrap b3) (24 : Int))) (shl .u64 (IntKind.u64.wrap b4) (32 : Int))) (shl .u64 (IntKind.u64.wrap b5) (40 : Int))) (shl .u64 (IntKind.u64.wrap b6) (48 : Int))) (shl .u64 (IntKind.u64.wrap b7) (56 : Int))) = b0 + 256 * b1 + 65536 * b2 + 16777216 * b3 + 4294967296 * b4 + 1099511627776 * b5 + 281474976710656 * b6 + 72057594037927936 * b7 := by
 have e0 : bits2 .or .u64 ((0 : Int)) (shl .u64 (IntKind.u64.wrap b0) (0 : Int)) = b0 := by
  have q := or_shl (a := (0 : Int)) (b := b0) (n := 0) (by omega) (by omega) (show _ < (1 : Int) by omega) h0.1 h0.2
  have q : bits2 .or .u64 ((0 : Int)) (shl .u64 (IntKind.u64.wrap b0) (0 : Int)) = ((0 : Int)) + b0 * 1 := q
  rw [q]; omega
 have e1 : bits2 .or .u64 (b0) (shl .u64 (IntKind.u64.wrap b1) (8 : Int)) = b0 + 256 * b1 := by
  have q := or_shl (a := b0) (b := b1) (n := 8) (by omega) (by omega) (show _ < (256 : Int) by omega) h1.1 h1.2
  have q : bits2 .or .u64 (b0) (shl .u64 (IntKind.u64.wrap b1) (8 : Int)) = (b0) + b1 * 256 := q
  rw [q]; omega
 have e2 : bits2 .or .u64 (b0 + 256 * b1) (shl .u64 (IntKind.u64.wrap b2) (16 : Int)) = b0 + 256 * b1 + 65536 * b2 := by
  have q := or_shl (a := b0 + 256 * b1) (b := b2) (n := 16) (by omega) (by omega) (show _ < (65536 : Int) by omega) h2.1 h2.2
  have q : bits2 .or .u64 (b0 + 256 * b1) (shl .u64 (IntKind.u64.wrap b2) (16 : Int)) = (b0 + 256 * b1) + b2 * 65536 := q
  rw [q]; omega
 have e3 : bits2 .or .u64 (b0 + 256 * b1 + 65536 * b2) (shl .u64 (IntKind.u64.wrap b3) (24 : Int)) = b0 + 256 * b1 + 65536 * b2 + 16777216 * b3 := by
  have q := or_shl (a := b0 + 256 * b1 + 65536 * b2) (b := b3) (n := 24) (by omega) (by omega) (show _ < (16777216 : Int) by omega) h3.1 h3.2
  have q : bits2 .or .u64 (b0 + 256 * b1 + 65536 * b2) (shl .u64 (IntKind.u64.wrap b3) (24 : Int)) = (b0 + 256 * b1 + 65536 * b2) + b3 * 16777216 := q
  rw [q]; omega
 have e4 : bits2 .or .u64 (b0 + 256 * b1 + 65536 * b2 + 16777216 * b3) (shl .u64 (IntKind.u64.wrap b4) (32 : Int)) = b0 + 256 * b1 + 65536 * b2 + 16777216 * b3 + 4294967296 * b4 := by
  have q := or_shl (a := b0 + 256 * b1 + 65536 * b2 + 16777216 * b3) (b := b4) (n := 32) (by omega) (by omega) (show _ < (4294967296 : Int) by omega) h4.1 h4.2
  have q : bits2 .or .u64 (b0 + 256 * b1 + 65536 * b2 + 16777216 * b3) (shl .u64 (IntKind.u64.wrap b4) (32 : Int)) = (b0 + 256 * b1 + 65536 * b2 + 16777216 * b3) + b4 * 4294967296 := q
  rw [q]; omega
 have e5 : bits2 .or .u64 (b0 + 256 * b1 + 65536 * b2 + 16777216 * b3 + 4294967296 * b4) (shl .u64 (IntKind.u64.wrap b5) (40 : Int)) = b0 + 256 * b1 + 65536 * b2 + 16777216 * b3 + 4294967296 * b4 + 1099511627776 * b5 := by
  have q := or_shl (a := b0 + 256 * b1 + 65536 * b2 + 16777216 * b3 + 4294967296 * b4) (b := b5) (n := 40) (by omega) (by omega) (show _ < (1099511627776 : Int) by omega) h5.1 h5.2
  have q : bits2 .or .u64 (b0 + 256 * b1 + 65536 * b2 + 16777216 * b3 + 4294967296 * b4) (shl .u64 (IntKind.u64.wrap b5) (40 : Int)) = (b0 + 256 * b1 + 65536 * b2 + 16777216 * b3 + 4294967296 * b4) + b5 * 1099511627776 := q
  rw [q]; omega
 have e6 : bits2 .or .u64 (b0 + 256 * b1 + 65536 * b2 + 16777216 * b3 + 4294967296 * b4 + 1099511627776 * b5) (shl .u64 (IntKind.u64.wrap b6) (48 : Int)) = b0 + 256 * b1 + 65536 * b2 + 16777216 * b3 + 4294967296 * b4 + 1099511627776 * b5 + 281474976710656 * b6 := by
  have q := or_shl (a := b0 + 256 * b1 + 65536 * b2 + 16777216 * b3 + 4294967296 * b4 + 1099511627776 * b5) (b := b6) (n := 48) (by omega) (by omega) (show _ < (281474976710656 : Int) by omega) h6.1 h6.2
  have q : bits2 .or .u64 (b0 + 256 * b1 + 65536 * b2 + 16777216 * b3 + 4294967296 * b4 + 1099511627776 * b5) (shl .u64 (IntKind.u64.wrap b6) (48 : Int)) = (b0 + 256 * b1 + 65536 * b2 + 16777216 * b3 + 4294967296 * b4 + 1099511627776 * b5) + b6 * 281474976710656 := q
  rw [q]; omega
 have e7 : bits2 .or .u64 (b0 + 256 * b1 + 65536 * b2 + 16777216 * b3 + 4294967296 * b4 + 1099511627776 * b5 + 281474976710656 * b6) (shl .u64 (IntKind.u64.wrap b7) (56 : Int)) = b0 + 256 * b1 + 65536 * b2 + 16777216 * b3 + 4294967296 * b4 + 1099511627776 * b5 + 281474976710656 * b6 + 72057594037927936 * b7 := by
  have q := or_shl (a := b0 + 256 * b1 + 65536 * b2 + 16777216 * b3 + 4294967296 * b4 + 1099511627776 * b5 + 281474976710656 * b6) (b := b7) (n := 56) (by omega) (by omega) (show _ < (72057594037927936 : Int) by omega) h7.1 h7.2
  have q : bits2 .or .u64 (b0 + 256 * b1 + 65536 * b2 + 16777216 * b3 + 4294967296 * b4 + 1099511627776 * b5 + 281474976710656 * b6) (shl .u64 (IntKind.u64.wrap b7) (56 : Int)) = (b0 + 256 * b1 + 65536 * b2 + 16777216 * b3 + 4294967296 * b4 + 1099511627776 * b5 + 281474976710656 * b6) + b7 * 72057594037927936 := q
  rw [q]; omega
 rw [e0, e1, e2, e3, e4, e5, e6, e7]

def le8 (s : List Int) (o : Nat) : Int := List.getD s (o + 0) 0 + 256 * List.getD s (o + 1) 0 + 65536 * List.getD s (o + 2) 0 + 16777216 * List.getD s (o + 3) 0 + 4294967296 * List.getD s (o + 4) 0 + 1099511627776 * List.getD s (o + 5) 0 + 281474976710656 * List.getD s (o + 6) 0 + 72057594037927936 * List.getD s (o + 7) 0
def BV (s : List Int) : Int := le8 s 0 + 18446744073709551616 * le8 s 8 + 340282366920938463463374607431768211456 * le8 s 16 + 6277101735386680763835789423207666416102355444464034512896 * le8 s 24

theorem le8_rng {s : List Int} (h : Byt s) (o : Nat) : 0 ≤ le8 s o ∧ le8 s o < 18446744073709551616 := by
 have h0 := byt_get h (o + 0)
 have h1 := byt_get h (o + 1)
 have h2 := byt_get h (o + 2)
 have h3 := byt_get h (o + 3)
 have h4 := byt_get h (o + 4)
 have h5 := byt_get h (o + 5)
 have h6 := byt_get h (o + 6)
 have h7 := byt_get h (o + 7)
 unfold le8
 omega
theorem BV_rng {s : List Int} (h : Byt s) : 0 ≤ BV s ∧ BV s < 115792089237316195423570985008687907853269984665640564039457584007913129639936 := by
 have h0 := le8_rng h 0
 have h1 := le8_rng h 8
 have h2 := le8_rng h 16
 have h3 := le8_rng h 24
 unfold BV
 omega

theorem frm_eq {s : List Int} (h : Byt s) : frm s = W4 (BV s) := by
 unfold frm
 rw [word8 (byt_get h 0) (byt_get h 1) (byt_get h 2) (byt_get h 3) (byt_get h 4) (byt_get h 5) (byt_get h 6) (byt_get h 7), word8 (byt_get h 8) (byt_get h 9) (byt_get h 10) (byt_get h 11) (byt_get h 12) (byt_get h 13) (byt_get h 14) (byt_get h 15), word8 (byt_get h 16) (byt_get h 17) (byt_get h 18) (byt_get h 19) (byt_get h 20) (byt_get h 21) (byt_get h 22) (byt_get h 23), word8 (byt_get h 24) (byt_get h 25) (byt_get h 26) (byt_get h 27) (byt_get h 28) (byt_get h 29) (byt_get h 30) (byt_get h 31)]
 exact W4_eq rfl (le8_rng h 0) (le8_rng h 8) (le8_rng h 16) (le8_rng h 24)

def B32 (v : Int) : List Int := [v % 256, v / 256 % 256, v / 65536 % 256, v / 16777216 % 256, v / 4294967296 % 256, v / 1099511627776 % 256, v / 281474976710656 % 256, v / 72057594037927936 % 256, v / 18446744073709551616 % 256, v / 4722366482869645213696 % 256, v / 1208925819614629174706176 % 256, v / 309485009821345068724781056 % 256, v / 79228162514264337593543950336 % 256, v / 20282409603651670423947251286016 % 256, v / 5192296858534827628530496329220096 % 256, v / 1329227995784915872903807060280344576 % 256, v / 340282366920938463463374607431768211456 % 256, v / 87112285931760246646623899502532662132736 % 256, v / 22300745198530623141535718272648361505980416 % 256, v / 5708990770823839524233143877797980545530986496 % 256, v / 1461501637330902918203684832716283019655932542976 % 256, v / 374144419156711147060143317175368453031918731001856 % 256, v / 95780971304118053647396689196894323976171195136475136 % 256, v / 24519928653854221733733552434404946937899825954937634816 % 256, v / 6277101735386680763835789423207666416102355444464034512896 % 256, v / 1606938044258990275541962092341162602522202993782792835301376 % 256, v / 411376139330301510538742295639337626245683966408394965837152256 % 256, v / 105312291668557186697918027683670432318895095400549111254310977536 % 256, v / 26959946667150639794667015087019630673637144422540572481103610249216 % 256, v / 6901746346790563787434755862277025452451108972170386555162524223799296 % 256, v / 1766847064778384329583297500742918515827483896875618958121606201292619776 % 256, v / 452312848583266388373324160190187140051835877600158453279131187530910662656 % 256]

theorem bck_eq {S : List Int} (h : Wds S) (l : S.length = 4) : bck S = B32 (V4 S) := by
 obtain ⟨a, b, c, d, rfl⟩ := four l
 have h0 := h a (by simp); have h1 := h b (by simp); have h2 := h c (by simp); have h3 := h d (by simp)
 unfold bck B32 V4
 simp only [List.getD_cons_zero, List.getD_cons_succ, wrap8, shr_0, shr_8, shr_16, shr_24, shr_32, shr_40, shr_48, shr_56, List.cons.injEq, and_true]
 refine ⟨?_, ?_, ?_, ?_, ?_, ?_, ?_, ?_, ?_, ?_, ?_, ?_, ?_, ?_, ?_, ?_, ?_, ?_, ?_, ?_, ?_, ?_, ?_, ?_, ?_, ?_, ?_, ?_, ?_, ?_, ?_, ?_⟩ <;> omega

theorem ad64_eq {x y c : Int} (h0 : 0 ≤ x) (h1 : x < 18446744073709551616) (h2 : 0 ≤ y) (h3 : y < 18446744073709551616) (hc : 0 ≤ c ∧ c ≤ 1) :
  ad64s x y c + 18446744073709551616 * ad64c x y c = x + y + c ∧ 0 ≤ ad64s x y c ∧ ad64s x y c < 18446744073709551616 ∧ 0 ≤ ad64c x y c ∧ ad64c x y c ≤ 1 := by
 unfold ad64s ad64c; omega

theorem plus_eq {S T : List Int} (hS : Wds S) (hT : Wds T) (lS : S.length = 4) (lT : T.length = 4) : plusA S T = W4 (low (addR (V4 S) (V4 T))) := by
 obtain ⟨a0, a1, a2, a3, rfl⟩ := four lS
 obtain ⟨b0, b1, b2, b3, rfl⟩ := four lT
 have ha0 := hS a0 (by simp); have ha1 := hS a1 (by simp); have ha2 := hS a2 (by simp); have ha3 := hS a3 (by simp)
 have hb0 := hT b0 (by simp); have hb1 := hT b1 (by simp); have hb2 := hT b2 (by simp); have hb3 := hT b3 (by simp)
 have e0 := ad64_eq ha0.1 ha0.2 hb0.1 hb0.2 (c := 0) (by omega)
 have e1 := ad64_eq ha1.1 ha1.2 hb1.1 hb1.2 (c := ad64c a0 b0 0) (by omega)
 have e2 := ad64_eq ha2.1 ha2.2 hb2.1 hb2.2 (c := ad64c a1 b1 (ad64c a0 b0 0)) (by omega)
 have e3 := ad64_eq ha3.1 ha3.2 hb3.1 hb3.2 (c := ad64c a2 b2 (ad64c a1 b1 (ad64c a0 b0 0))) (by omega)
 show W4 (low (V4 [ad64s a0 b0 0, ad64s a1 b1 (ad64c a0 b0 0), ad64s a2 b2 (ad64c a1 b1 (ad64c a0 b0 0)), ad64s a3 b3 (ad64c a2 b2 (ad64c a1 b1 (ad64c a0 b0 0)))])) = _
 congr 2
 generalize ad64c a3 b3 (ad64c a2 b2 (ad64c a1 b1 (ad64c a0 b0 0))) = c3 at *
 generalize ad64s a3 b3 (ad64c a2 b2 (ad64c a1 b1 (ad64c a0 b0 0))) = s3 at *
 generalize ad64s a2 b2 (ad64c a1 b1 (ad64c a0 b0 0)) = s2 at *
 generalize ad64c a2 b2 (ad64c a1 b1 (ad64c a0 b0 0)) = c2 at *
 generalize ad64s a1 b1 (ad64c a0 b0 0) = s1 at *
 generalize ad64c a1 b1 (ad64c a0 b0 0) = c1 at *
 generalize ad64s a0 b0 0 = s0 at *
 generalize ad64c a0 b0 0 = c0 at *
 unfold addR V4
 simp only
 clear hS hT lS lT
 omega

theorem plus_can (S T : List Int) (h0 : (Wds S)) (h1 : (Wds T)) (w : World) : Body Try.prog (tabOf tabNM) Try.f72 ⟨w, [], 0, noEnv⟩ (toA [.g [.ints .u64 4 S], .g [.ints .u64 4 T]]) [] (fun ys _ => ys = [.g [.ints .u64 4 (W4 (low (addR (V4 S) (V4 T))))]]) :=
 Body.lens (c := (Try.f72.body.getD .skip)) rfl fun h => (plusA_body0 S T h0 h1 (h.vals 0 _ _ _ rfl) (h.vals 1 _ _ _ rfl) w).mono fun xs K hx => by
  subst hx; rw [plus_eq h0 h1 (h.vals 0 _ _ _ rfl) (h.vals 1 _ _ _ rfl)]

def negL (v : Int) : Int := if v = 0 then 0 else difR LL v
theorem minus_can (S : List Int) (h0 : (Wds S)) (w : World) : Body Try.prog (tabOf tabNM) Try.f95 ⟨w, [], 0, noEnv⟩ (toA [.g [.ints .u64 4 S]]) [] (fun ys _ => ys = [.g [.ints .u64 4 (W4 (negL (V4 S)))]]) :=
 Body.lens (c := (Try.f95.body.getD .skip)) rfl fun h => by
  have hl := h.vals 0 _ _ _ rfl
  by_cases hc : S = [0, 0, 0, 0]
  ·refine (minA_body0 S h0 hl hc w).mono fun xs K hx => ?_
   subst hx; subst hc; rfl
  ·refine (minB_body0 S h0 hl hc w).mono fun xs K hx => ?_
   subst hx
   have e : minB S = W4 (negL (V4 S)) := by
    unfold minB negL
    rw [V4_ord, if_neg]
    intro h0'
    apply hc
    rw [W4_of h0 hl, h0']; rfl
   rw [e]

theorem frm_can (s : List Int) (h0 : Byt s) (w : World) : Body Try.prog (tabOf tabNM) Try.f74 ⟨w, [], 0, noEnv⟩ (toA [.g [.ints .u8 32 s]]) [] (fun ys _ => ys = [.g [.ints .u64 4 (W4 (BV s))]]) :=
 Body.lens (c := (Try.f74.body.getD .skip)) rfl fun h => (frm_body0 s (h.vals 0 _ _ _ rfl) w).mono fun xs K hx => by
  subst hx; rw [frm_eq h0]

theorem bck_can (S : List Int) (h0 : (Wds S)) (w : World) : Body Try.prog (tabOf tabNM) Try.f71 ⟨w, [], 0, noEnv⟩ (toA [.g [.ints .u64 4 S]]) [] (fun ys _ => ys = [.g [.ints .u8 32 (B32 (V4 S))]]) :=
 Body.lens (c := (Try.f71.body.getD .skip)) rfl fun h => (bck_body0 S (h.vals 0 _ _ _ rfl) w).mono fun xs K hx => by
  subst hx; rw [bck_eq h0 (h.vals 0 _ _ _ rfl)]
end Go.Proofs.Ytcpoldghkiiggaa.X

/- One round of Montgomery's product. -/
namespace Go.Proofs.Ytcpoldghkiiggaa.X
open Go Go.Proofs
set_option linter.unusedVariables false

def mstep (a b0 b1 b2 b3 t0 t1 t2 t3 t4 : Int) : List Int :=
 let u0 := muladd_1 a b0 t0 0
 let c0 := muladd a b0 t0 0
 let u1 := muladd_1 a b1 t1 c0
 let c1 := muladd a b1 t1 c0
 let u2 := muladd_1 a b2 t2 c1
 let c2 := muladd a b2 t2 c1
 let u3 := muladd_1 a b3 t3 c2
 let c3 := muladd a b3 t3 c2
 let s4 := ad64s t4 c3 0
 let s5 := ad64c t4 c3 0
 let m := IntKind.u64.wrap (u0 * 15183074304973897243)
 let d0 := muladd m 6346243789798364141 u0 0
 let v0 := muladd_1 m 1503914060200516822 u1 d0
 let d1 := muladd m 1503914060200516822 u1 d0
 let v1 := muladd_1 m 0 u2 d1
 let d2 := muladd m 0 u2 d1
 let v2 := muladd_1 m 1152921504606846976 u3 d2
 let d3 := muladd m 1152921504606846976 u3 d2
 let v3 := ad64s s4 d3 0
 let v4 := IntKind.u64.wrap (s5 + ad64c s4 d3 0)
 [v0, v1, v2, v3, v4, s5]

def mT (S T : List Int) : Nat → List Int
 | 0 => [0, 0, 0, 0, 0, 0]
 | k + 1 => mstep (S.getD k 0) (T.getD 0 0) (T.getD 1 0) (T.getD 2 0) (T.getD 3 0) ((mT S T k).getD 0 0) ((mT S T k).getD 1 0) ((mT S T k).getD 2 0) ((mT S T k).getD 3 0) ((mT S T k).getD 4 0)
def mTi (S T : List Int) (k i : Nat) : Int := (mT S T k).getD i 0

theorem mstep_eq {a b0 b1 b2 b3 t0 t1 t2 t3 t4 : Int} (ha : 0 ≤ a ∧ a < 18446744073709551616) (hb0 : 0 ≤ b0 ∧ b0 < 18446744073709551616) (hb1 : 0 ≤ b1 ∧ b1 < 18446744073709551616) (hb2 : 0 ≤ b2 ∧ b2 < 18446744073709551616) (hb3 : 0 ≤ b3 ∧ b3 < 18446744073709551616)
  (h0 : 0 ≤ t0 ∧ t0 < 18446744073709551616) (h1 : 0 ≤ t1 ∧ t1 < 18446744073709551616) (h2 : 0 ≤ t2 ∧ t2 < 18446744073709551616) (h3 : 0 ≤ t3 ∧ t3 < 18446744073709551616) (h4 : 0 ≤ t4 ∧ t4 ≤ 1)
  (hB : b0 + 18446744073709551616 * b1 + 340282366920938463463374607431768211456 * b2 + 6277101735386680763835789423207666416102355444464034512896 * b3 < LL)
  (hT : t0 + 18446744073709551616 * t1 + 340282366920938463463374607431768211456 * t2 + 6277101735386680763835789423207666416102355444464034512896 * t3 + 115792089237316195423570985008687907853269984665640564039457584007913129639936 * t4 < 2 * LL) :
  ∃ v0 v1 v2 v3 v4 s5 m : Int, mstep a b0 b1 b2 b3 t0 t1 t2 t3 t4 = [v0, v1, v2, v3, v4, s5] ∧ (0 ≤ v0 ∧ v0 < 18446744073709551616) ∧ (0 ≤ v1 ∧ v1 < 18446744073709551616) ∧ (0 ≤ v2 ∧ v2 < 18446744073709551616) ∧ (0 ≤ v3 ∧ v3 < 18446744073709551616) ∧ (0 ≤ v4 ∧ v4 ≤ 1) ∧
   18446744073709551616 * (v0 + 18446744073709551616 * v1 + 340282366920938463463374607431768211456 * v2 + 6277101735386680763835789423207666416102355444464034512896 * v3 + 115792089237316195423570985008687907853269984665640564039457584007913129639936 * v4) =
    t0 + 18446744073709551616 * t1 + 340282366920938463463374607431768211456 * t2 + 6277101735386680763835789423207666416102355444464034512896 * t3 + 115792089237316195423570985008687907853269984665640564039457584007913129639936 * t4 + a * (b0 + 18446744073709551616 * b1 + 340282366920938463463374607431768211456 * b2 + 6277101735386680763835789423207666416102355444464034512896 * b3) + m * LL ∧
   v0 + 18446744073709551616 * v1 + 340282366920938463463374607431768211456 * v2 + 6277101735386680763835789423207666416102355444464034512896 * v3 + 115792089237316195423570985008687907853269984665640564039457584007913129639936 * v4 < 2 * LL := by
 have hz : (0 : Int) ≤ 0 ∧ (0 : Int) < 18446744073709551616 := by omega
 have e0 := muladd_eq ha.1 ha.2 hb0.1 hb0.2 h0.1 h0.2 hz.1 hz.2
 have e1 := muladd_eq ha.1 ha.2 hb1.1 hb1.2 h1.1 h1.2 e0.2.1 e0.2.2.1
 have e2 := muladd_eq ha.1 ha.2 hb2.1 hb2.2 h2.1 h2.2 e1.2.1 e1.2.2.1
 have e3 := muladd_eq ha.1 ha.2 hb3.1 hb3.2 h3.1 h3.2 e2.2.1 e2.2.2.1
 have hm : 0 ≤ IntKind.u64.wrap (muladd_1 a b0 t0 0 * 15183074304973897243) ∧ IntKind.u64.wrap (muladd_1 a b0 t0 0 * 15183074304973897243) < 18446744073709551616 := by rw [wrap64]; omega
 have f0 := muladd_eq hm.1 hm.2 (y := 6346243789798364141) (by omega) (by omega) e0.2.2.2.1 e0.2.2.2.2 hz.1 hz.2
 have f1 := muladd_eq hm.1 hm.2 (y := 1503914060200516822) (by omega) (by omega) e1.2.2.2.1 e1.2.2.2.2 f0.2.1 f0.2.2.1
 have f2 := muladd_eq hm.1 hm.2 (y := 0) (by omega) (by omega) e2.2.2.2.1 e2.2.2.2.2 f1.2.1 f1.2.2.1
 have f3 := muladd_eq hm.1 hm.2 (y := 1152921504606846976) (by omega) (by omega) e3.2.2.2.1 e3.2.2.2.2 f2.2.1 f2.2.2.1
 have hmm := wrap64 (muladd_1 a b0 t0 0 * 15183074304973897243)
 have e := show mstep a b0 b1 b2 b3 t0 t1 t2 t3 t4 = _ from rfl
 refine ⟨_, _, _, _, _, _, IntKind.u64.wrap (muladd_1 a b0 t0 0 * 15183074304973897243), e, ?_⟩
 have hAB : a * (b0 + 18446744073709551616 * b1 + 340282366920938463463374607431768211456 * b2 + 6277101735386680763835789423207666416102355444464034512896 * b3) = a * b0 + 18446744073709551616 * (a * b1) + 340282366920938463463374607431768211456 * (a * b2) + 6277101735386680763835789423207666416102355444464034512896 * (a * b3) := by
  rw [Int.mul_add, Int.mul_add, Int.mul_add, Int.mul_left_comm a, Int.mul_left_comm a, Int.mul_left_comm a]
 have hAB2 : a * (b0 + 18446744073709551616 * b1 + 340282366920938463463374607431768211456 * b2 + 6277101735386680763835789423207666416102355444464034512896 * b3) ≤ 18446744073709551615 * (b0 + 18446744073709551616 * b1 + 340282366920938463463374607431768211456 * b2 + 6277101735386680763835789423207666416102355444464034512896 * b3) :=
  Int.mul_le_mul_of_nonneg_right (by omega) (by omega)
 clear e
 rw [hAB] at hAB2
 rw [hAB]
 generalize a * b0 = p0 at *
 generalize a * b1 = p1 at *
 generalize a * b2 = p2 at *
 generalize a * b3 = p3 at *
 generalize muladd a b3 t3 (muladd a b2 t2 (muladd a b1 t1 (muladd a b0 t0 0))) = c3 at *
 generalize muladd_1 a b3 t3 (muladd a b2 t2 (muladd a b1 t1 (muladd a b0 t0 0))) = u3 at *
 generalize muladd_1 a b2 t2 (muladd a b1 t1 (muladd a b0 t0 0)) = u2 at *
 generalize muladd a b2 t2 (muladd a b1 t1 (muladd a b0 t0 0)) = c2 at *
 generalize muladd_1 a b1 t1 (muladd a b0 t0 0) = u1 at *
 generalize muladd a b1 t1 (muladd a b0 t0 0) = c1 at *
 generalize muladd_1 a b0 t0 0 = u0 at *
 generalize muladd a b0 t0 0 = c0 at *
 generalize IntKind.u64.wrap (u0 * 15183074304973897243) = m at *
 generalize muladd m 1152921504606846976 u3 (muladd m 0 u2 (muladd m 1503914060200516822 u1 (muladd m 6346243789798364141 u0 0))) = d3 at *
 generalize muladd_1 m 1152921504606846976 u3 (muladd m 0 u2 (muladd m 1503914060200516822 u1 (muladd m 6346243789798364141 u0 0))) = v2 at *
 generalize muladd_1 m 0 u2 (muladd m 1503914060200516822 u1 (muladd m 6346243789798364141 u0 0)) = v1 at *
 generalize muladd m 0 u2 (muladd m 1503914060200516822 u1 (muladd m 6346243789798364141 u0 0)) = d2 at *
 generalize muladd_1 m 1503914060200516822 u1 (muladd m 6346243789798364141 u0 0) = v0 at *
 generalize muladd m 1503914060200516822 u1 (muladd m 6346243789798364141 u0 0) = d1 at *
 generalize muladd_1 m 6346243789798364141 u0 0 = z at *
 generalize muladd m 6346243789798364141 u0 0 = d0 at *
 have hs : ad64s (ad64s t4 c3 0) d3 0 + 18446744073709551616 * (ad64c t4 c3 0 + ad64c (ad64s t4 c3 0) d3 0) = t4 + c3 + d3 ∧ 0 ≤ ad64s (ad64s t4 c3 0) d3 0 ∧ ad64s (ad64s t4 c3 0) d3 0 < 18446744073709551616 ∧ 0 ≤ ad64c t4 c3 0 + ad64c (ad64s t4 c3 0) d3 0 ∧ ad64c t4 c3 0 + ad64c (ad64s t4 c3 0) d3 0 ≤ 2 := by
  unfold ad64s ad64c; omega
 have hw : IntKind.u64.wrap (ad64c t4 c3 0 + ad64c (ad64s t4 c3 0) d3 0) = ad64c t4 c3 0 + ad64c (ad64s t4 c3 0) d3 0 := by rw [wrap64]; omega
 rw [hw]
 generalize ad64s (ad64s t4 c3 0) d3 0 = v3 at *
 generalize ad64c t4 c3 0 + ad64c (ad64s t4 c3 0) d3 0 = v4 at *
 have hz0 : z = 0 := by omega
 subst hz0
 unfold LL at *
 have key : 18446744073709551616 * (v0 + 18446744073709551616 * v1 + 340282366920938463463374607431768211456 * v2 + 6277101735386680763835789423207666416102355444464034512896 * v3 + 115792089237316195423570985008687907853269984665640564039457584007913129639936 * v4) =
    t0 + 18446744073709551616 * t1 + 340282366920938463463374607431768211456 * t2 + 6277101735386680763835789423207666416102355444464034512896 * t3 + 115792089237316195423570985008687907853269984665640564039457584007913129639936 * t4 + (p0 + 18446744073709551616 * p1 + 340282366920938463463374607431768211456 * p2 + 6277101735386680763835789423207666416102355444464034512896 * p3) + m * 7237005577332262213973186563042994240857116359379907606001950938285454250989 := by
  omega
 refine ⟨⟨f1.2.2.2.1, f1.2.2.2.2⟩, ⟨f2.2.2.2.1, f2.2.2.2.2⟩, ⟨f3.2.2.2.1, f3.2.2.2.2⟩, ⟨hs.2.1, hs.2.2.1⟩, ?_, key, ?_⟩
 ·omega
 ·omega
end Go.Proofs.Ytcpoldghkiiggaa.X

/- The words of Montgomery's product are not negative. -/
namespace Go.Proofs.Ytcpoldghkiiggaa.X
open Go Go.Proofs

theorem ad64c_nn {x y c : Int} (h : 0 ≤ x) (h1 : 0 ≤ y) (h2 : 0 ≤ c) : 0 ≤ ad64c x y c := by unfold ad64c; omega

theorem mTi_nn (S T : List Int) : ∀ k i, 0 ≤ mTi S T k i
 | 0, i => by
  show 0 ≤ List.getD [0, 0, 0, 0, 0, 0] i 0
  match i with
  | 0 | 1 | 2 | 3 | 4 | 5 => decide
  | n + 6 => simp
 | k + 1, i => by
  match i with
  | 0 => exact muladd1_nn _ _ _ _
  | 1 => exact muladd1_nn _ _ _ _
  | 2 => exact muladd1_nn _ _ _ _
  | 3 => exact (ad64_rng _ _ _).1
  | 4 => exact wrap_nn (k := .u64) rfl
  | 5 => exact ad64c_nn (mTi_nn S T k 4) (muladd_nn _ _ _ _) (Int.le_refl 0)
  | n + 6 => show 0 ≤ List.getD (mstep _ _ _ _ _ _ _ _ _ _) (n + 6) 0; simp [mstep]
end Go.Proofs.Ytcpoldghkiiggaa.X

/- Printed by a tool of this session. -/
namespace Go.Proofs.Ytcpoldghkiiggaa.X
open Go Go.Proofs
set_option linter.unusedVariables false
set_option linter.unusedSimpArgs false
set_option maxRecDepth 100000
set_option maxHeartbeats 8000000
theorem teNO_171 : TEOk Try.prog 171 ⟨.array 6 25, 6, 48, [.ints .u64 6 ([0, 0, 0, 0, 0, 0] : List Int)], true⟩ :=
 TEOk.of Try.underlying171 (i := Try.t171) (by kernel_rfl) rfl rfl rfl (by kernel_rfl) (fun _ => Try.eqGuardType171) (by kernel_rfl)
noncomputable def tabNO : List (Nat × TE) := [(24, ⟨.array 32 5, 32, 32, [.ints .u8 32 ([0, 0, 0, 0, 0, 0, 0, 0, 0, 0, 0, 0, 0, 0, 0, 0, 0, 0, 0, 0, 0, 0, 0, 0, 0, 0, 0, 0, 0, 0, 0, 0] : List Int)], true⟩), (25, ⟨.int .u64, 1, 8, [.i .u64 0], false⟩), (104, ⟨.array 4 25, 4, 32, [.ints .u64 4 ([0, 0, 0, 0] : List Int)], true⟩), (171, ⟨.array 6 25, 6, 48, [.ints .u64 6 ([0, 0, 0, 0, 0, 0] : List Int)], true⟩)]
theorem tabOkNO : TabOk Try.prog (tabOf tabNO) := (tabOf_cons teNM_24 (tabOf_cons teNG_25 (tabOf_cons teNG_104 (tabOf_cons teNO_171 tabOf_nil))))

theorem plusA_pure (S T : List Int) (h0 : (Wds S)) (h1 : (Wds T)) : PureC Try.prog 72 [.g [.ints .u64 4 S], .g [.ints .u64 4 T]] [.g [.ints .u64 4 (W4 (low (addR (V4 S) (V4 T))))]] :=
 PureC.of_body tabOkNO Try.func72 rfl rfl fun w => plus_can S T h0 h1 w

def gam7 : Gam := gpure 72 (fun args => match args with | [.o (.g [.ints .u64 (4 : Nat) S]), .o (.g [.ints .u64 (4 : Nat) T])] => some (some ((Wds S) ∧ (Wds T)), [.g [.ints .u64 (4 : Nat) (W4 (low (addR (V4 S) (V4 T))))]]) | _ => none) gam6
theorem gam7_ok : GamOk Try.prog gam7 := gpure_ok gam6_ok Try.call72 (by
 intro args vc xs h hv
 split at h
 ·simp only [Option.some.injEq, Prod.mk.injEq] at h; obtain ⟨rfl, rfl⟩ := h; exact ⟨_, by rfl, plusA_pure _ _ hv.1 hv.2⟩
 ·simp at h)

theorem minA_pure (S : List Int) (h0 : (Wds S)) : PureC Try.prog 95 [.g [.ints .u64 4 S]] [.g [.ints .u64 4 (W4 (negL (V4 S)))]] :=
 PureC.of_body tabOkNO Try.func95 rfl rfl fun w => minus_can S h0 w

def gam8 : Gam := gpure 95 (fun args => match args with | [.o (.g [.ints .u64 (4 : Nat) S])] => some (some ((Wds S)), [.g [.ints .u64 (4 : Nat) (W4 (negL (V4 S)))]]) | _ => none) gam7
theorem gam8_ok : GamOk Try.prog gam8 := gpure_ok gam7_ok Try.call95 (by
 intro args vc xs h hv
 split at h
 ·simp only [Option.some.injEq, Prod.mk.injEq] at h; obtain ⟨rfl, rfl⟩ := h; exact ⟨_, by rfl, minA_pure _ hv⟩
 ·simp at h)

theorem frm_pure (s : List Int) (h0 : (Byt s)) : PureC Try.prog 74 [.g [.ints .u8 32 s]] [.g [.ints .u64 4 (W4 (BV s))]] :=
 PureC.of_body tabOkNO Try.func74 rfl rfl fun w => frm_can s h0 w

def gam9 : Gam := gpure 74 (fun args => match args with | [.o (.g [.ints .u8 (32 : Nat) s])] => some (some ((Byt s)), [.g [.ints .u64 (4 : Nat) (W4 (BV s))]]) | _ => none) gam8
theorem gam9_ok : GamOk Try.prog gam9 := gpure_ok gam8_ok Try.call74 (by
 intro args vc xs h hv
 split at h
 ·simp only [Option.some.injEq, Prod.mk.injEq] at h; obtain ⟨rfl, rfl⟩ := h; exact ⟨_, by rfl, frm_pure _ hv⟩
 ·simp at h)

theorem bck_pure (S : List Int) (h0 : (Wds S)) : PureC Try.prog 71 [.g [.ints .u64 4 S]] [.g [.ints .u8 32 (B32 (V4 S))]] :=
 PureC.of_body tabOkNO Try.func71 rfl rfl fun w => bck_can S h0 w

def gam10 : Gam := gpure 71 (fun args => match args with | [.o (.g [.ints .u64 (4 : Nat) S])] => some (some ((Wds S)), [.g [.ints .u8 (32 : Nat) (B32 (V4 S))]]) | _ => none) gam9
theorem gam10_ok : GamOk Try.prog gam10 := gpure_ok gam9_ok Try.call71 (by
 intro args vc xs h hv
 split at h
 ·simp only [Option.some.injEq, Prod.mk.injEq] at h; obtain ⟨rfl, rfl⟩ := h; exact ⟨_, by rfl, bck_pure _ hv⟩
 ·simp at h)

def valA (s : List Int) : List Int :=
 (W4 (low (V4 (W4 (low (V4 (W4 (low (V4 (W4 (low (V4 (W4 (low (V4 (W4 (low (V4 (W4 (low (V4 (W4 (low (V4 (W4 (low (V4 (W4 (low (V4 (W4 (low (V4 (W4 (low (V4 (W4 (low (V4 (W4 (low (V4 (W4 (low (V4 (W4 (low (V4 (W4 (BV s))))))))))))))))))))))))))))))))))))))))))))))))))

theorem valA_body0 (s : List Int) (h0 : (Byt s)) (hv0 : List.length s = 32) (w : World) : Body Try.prog (tabOf tabNO) Try.f75 ⟨w, [], 0, noEnv⟩ (toA [.g [.ints .u8 32 s]]) [] (fun ys _ => ys = [.g [.ints .u64 4 (valA s)]]) :=
 Body.of_fin (Γ := gam10) (Λ := noLam) (Ψ := noPsi) (fuel := 17) (m := 12) (c := (Try.f75.body.getD .skip)) mix tabOkNO gam10_ok rfl (rs := [.cell 2 104]) rfl rfl [true, true, true, true, true, true, true, true, true, true, true, true, true, true, true, true, false] []
  (vc := [(false = false), (Wds (W4 (low (V4 (W4 (low (V4 (W4 (low (V4 (W4 (low (V4 (W4 (low (V4 (W4 (low (V4 (W4 (low (V4 (W4 (low (V4 (W4 (low (V4 (W4 (low (V4 (W4 (low (V4 (W4 (low (V4 (W4 (low (V4 (W4 (low (V4 (W4 (low (V4 (W4 (BV s)))))))))))))))))))))))))))))))))))))))))))))))), cT, (Wds (W4 (low (V4 (W4 (low (V4 (W4 (low (V4 (W4 (low (V4 (W4 (low (V4 (W4 (low (V4 (W4 (low (V4 (W4 (low (V4 (W4 (low (V4 (W4 (low (V4 (W4 (low (V4 (W4 (low (V4 (W4 (low (V4 (W4 (low (V4 (W4 (BV s))))))))))))))))))))))))))))))))))))))))))))), cT, (Wds (W4 (low (V4 (W4 (low (V4 (W4 (low (V4 (W4 (low (V4 (W4 (low (V4 (W4 (low (V4 (W4 (low (V4 (W4 (low (V4 (W4 (low (V4 (W4 (low (V4 (W4 (low (V4 (W4 (low (V4 (W4 (low (V4 (W4 (BV s)))))))))))))))))))))))))))))))))))))))))), cT, (Wds (W4 (low (V4 (W4 (low (V4 (W4 (low (V4 (W4 (low (V4 (W4 (low (V4 (W4 (low (V4 (W4 (low (V4 (W4 (low (V4 (W4 (low (V4 (W4 (low (V4 (W4 (low (V4 (W4 (low (V4 (W4 (BV s))))))))))))))))))))))))))))))))))))))), cT, (Wds (W4 (low (V4 (W4 (low (V4 (W4 (low (V4 (W4 (low (V4 (W4 (low (V4 (W4 (low (V4 (W4 (low (V4 (W4 (low (V4 (W4 (low (V4 (W4 (low (V4 (W4 (low (V4 (W4 (BV s)))))))))))))))))))))))))))))))))))), cT, (Wds (W4 (low (V4 (W4 (low (V4 (W4 (low (V4 (W4 (low (V4 (W4 (low (V4 (W4 (low (V4 (W4 (low (V4 (W4 (low (V4 (W4 (low (V4 (W4 (low (V4 (W4 (BV s))))))))))))))))))))))))))))))))), cT, (Wds (W4 (low (V4 (W4 (low (V4 (W4 (low (V4 (W4 (low (V4 (W4 (low (V4 (W4 (low (V4 (W4 (low (V4 (W4 (low (V4 (W4 (low (V4 (W4 (BV s)))))))))))))))))))))))))))))), cT, (Wds (W4 (low (V4 (W4 (low (V4 (W4 (low (V4 (W4 (low (V4 (W4 (low (V4 (W4 (low (V4 (W4 (low (V4 (W4 (low (V4 (W4 (BV s))))))))))))))))))))))))))), cT, (Wds (W4 (low (V4 (W4 (low (V4 (W4 (low (V4 (W4 (low (V4 (W4 (low (V4 (W4 (low (V4 (W4 (low (V4 (W4 (BV s)))))))))))))))))))))))), cT, (Wds (W4 (low (V4 (W4 (low (V4 (W4 (low (V4 (W4 (low (V4 (W4 (low (V4 (W4 (low (V4 (W4 (BV s))))))))))))))))))))), cT, (Wds (W4 (low (V4 (W4 (low (V4 (W4 (low (V4 (W4 (low (V4 (W4 (low (V4 (W4 (BV s)))))))))))))))))), cT, (Wds (W4 (low (V4 (W4 (low (V4 (W4 (low (V4 (W4 (low (V4 (W4 (BV s))))))))))))))), cT, (Wds (W4 (low (V4 (W4 (low (V4 (W4 (low (V4 (W4 (BV s)))))))))))), cT, (Wds (W4 (low (V4 (W4 (low (V4 (W4 (BV s))))))))), cT, (Wds (W4 (low (V4 (W4 (BV s)))))), cT, (Wds (W4 (BV s))), cT, (Byt s)]) (by kernel_rfl)
  (aC rfl (aC (by first | assumption | exact wds_W4 _ | exact wds_ord) (aC rfl (aC (by first | assumption | exact wds_W4 _ | exact wds_ord) (aC rfl (aC (by first | assumption | exact wds_W4 _ | exact wds_ord) (aC rfl (aC (by first | assumption | exact wds_W4 _ | exact wds_ord) (aC rfl (aC (by first | assumption | exact wds_W4 _ | exact wds_ord) (aC rfl (aC (by first | assumption | exact wds_W4 _ | exact wds_ord) (aC rfl (aC (by first | assumption | exact wds_W4 _ | exact wds_ord) (aC rfl (aC (by first | assumption | exact wds_W4 _ | exact wds_ord) (aC rfl (aC (by first | assumption | exact wds_W4 _ | exact wds_ord) (aC rfl (aC (by first | assumption | exact wds_W4 _ | exact wds_ord) (aC rfl (aC (by first | assumption | exact wds_W4 _ | exact wds_ord) (aC rfl (aC (by first | assumption | exact wds_W4 _ | exact wds_ord) (aC rfl (aC (by first | assumption | exact wds_W4 _ | exact wds_ord) (aC rfl (aC (by first | assumption | exact wds_W4 _ | exact wds_ord) (aC rfl (aC (by first | assumption | exact wds_W4 _ | exact wds_ord) (aC rfl (aC (by first | assumption | exact wds_W4 _ | exact wds_ord) (aC rfl (aC (by first | assumption | exact wds_W4 _ | exact wds_ord) (AllP_nil)))))))))))))))))))))))))))))))))))

def moL_mk (S T : List Int) (k : Nat) (s : Unit) : St := ⟨sparse 101 [(0, .o (.g [.ints .u64 4 S])), (1, .o (.g [.ints .u64 4 T])), (2, .o (.a (.p 0 0))), (3, .o (.a (.p 1 0))), (4, .o (.a (.p 2 0))), (5, .o (.a (.p 3 0))), (6, .o (.a (.p 4 0))), (13, .o (.g [.ints .u64 4 ([6346243789798364141, 1503914060200516822, 0, 1152921504606846976] : List Int)])), (14, .o (.a (.i .i64 (k : Int))))], [bT [.ints .u64 4 S], bT [.ints .u64 4 T], bT [.ints .u64 4 ([0, 0, 0, 0] : List Int)], bT [.ints .u64 4 ([6346243789798364141, 1503914060200516822, 0, 1152921504606846976] : List Int)], bT [.ints .u64 6 ([(mTi S T k 0), (mTi S T k 1), (mTi S T k 2), (mTi S T k 3), (mTi S T k 4), (mTi S T k 5)] : List Int)]]⟩

def moL_step (k : Nat) (s : Unit) : Unit :=
 ()

theorem moL_round (S T : List Int) (h0 : (Wds S)) (h1 : (Wds T)) (hv0 : S.length = 4) (hv1 : T.length = 4) (hr : Wds [mTi S T 4 0, mTi S T 4 1, mTi S T 4 2, mTi S T 4 3]) (w : World) (k : Nat) (hk : k < 4) (s : Unit) : Run Try.prog ⟨w, [], 0, noEnv⟩ (loopB Try.f103 0) (moL_mk S T k s) (To ⟨w, [], 0, noEnv⟩ .normal (moL_mk S T (k + 1) (moL_step k s))) := by
 have e0 : (IntKind.u64.wrap ((ad64c (mTi S T k 4) (muladd (List.getD S k 0) (List.getD T 3 0) (mTi S T k 3) (muladd (List.getD S k 0) (List.getD T 2 0) (mTi S T k 2) (muladd (List.getD S k 0) (List.getD T 1 0) (mTi S T k 1) (muladd (List.getD S k 0) (List.getD T 0 0) (mTi S T k 0) (0 : Int))))) (0 : Int)) + (ad64c (ad64s (mTi S T k 4) (muladd (List.getD S k 0) (List.getD T 3 0) (mTi S T k 3) (muladd (List.getD S k 0) (List.getD T 2 0) (mTi S T k 2) (muladd (List.getD S k 0) (List.getD T 1 0) (mTi S T k 1) (muladd (List.getD S k 0) (List.getD T 0 0) (mTi S T k 0) (0 : Int))))) (0 : Int)) (muladd (IntKind.u64.wrap ((muladd_1 (List.getD S k 0) (List.getD T 0 0) (mTi S T k 0) (0 : Int)) * (15183074304973897243 : Int))) (1152921504606846976 : Int) (muladd_1 (List.getD S k 0) (List.getD T 3 0) (mTi S T k 3) (muladd (List.getD S k 0) (List.getD T 2 0) (mTi S T k 2) (muladd (List.getD S k 0) (List.getD T 1 0) (mTi S T k 1) (muladd (List.getD S k 0) (List.getD T 0 0) (mTi S T k 0) (0 : Int))))) (muladd (IntKind.u64.wrap ((muladd_1 (List.getD S k 0) (List.getD T 0 0) (mTi S T k 0) (0 : Int)) * (15183074304973897243 : Int))) (0 : Int) (muladd_1 (List.getD S k 0) (List.getD T 2 0) (mTi S T k 2) (muladd (List.getD S k 0) (List.getD T 1 0) (mTi S T k 1) (muladd (List.getD S k 0) (List.getD T 0 0) (mTi S T k 0) (0 : Int)))) (muladd (IntKind.u64.wrap ((muladd_1 (List.getD S k 0) (List.getD T 0 0) (mTi S T k 0) (0 : Int)) * (15183074304973897243 : Int))) (1503914060200516822 : Int) (muladd_1 (List.getD S k 0) (List.getD T 1 0) (mTi S T k 1) (muladd (List.getD S k 0) (List.getD T 0 0) (mTi S T k 0) (0 : Int))) (muladd (IntKind.u64.wrap ((muladd_1 (List.getD S k 0) (List.getD T 0 0) (mTi S T k 0) (0 : Int)) * (15183074304973897243 : Int))) (6346243789798364141 : Int) (muladd_1 (List.getD S k 0) (List.getD T 0 0) (mTi S T k 0) (0 : Int)) (0 : Int))))) (0 : Int)))) = (mTi S T (k + 1) 4) := (by first | exact wrap_succ (by omega) | rfl)
 have e1 : (ad64s (ad64s (mTi S T k 4) (muladd (List.getD S k 0) (List.getD T 3 0) (mTi S T k 3) (muladd (List.getD S k 0) (List.getD T 2 0) (mTi S T k 2) (muladd (List.getD S k 0) (List.getD T 1 0) (mTi S T k 1) (muladd (List.getD S k 0) (List.getD T 0 0) (mTi S T k 0) (0 : Int))))) (0 : Int)) (muladd (IntKind.u64.wrap ((muladd_1 (List.getD S k 0) (List.getD T 0 0) (mTi S T k 0) (0 : Int)) * (15183074304973897243 : Int))) (1152921504606846976 : Int) (muladd_1 (List.getD S k 0) (List.getD T 3 0) (mTi S T k 3) (muladd (List.getD S k 0) (List.getD T 2 0) (mTi S T k 2) (muladd (List.getD S k 0) (List.getD T 1 0) (mTi S T k 1) (muladd (List.getD S k 0) (List.getD T 0 0) (mTi S T k 0) (0 : Int))))) (muladd (IntKind.u64.wrap ((muladd_1 (List.getD S k 0) (List.getD T 0 0) (mTi S T k 0) (0 : Int)) * (15183074304973897243 : Int))) (0 : Int) (muladd_1 (List.getD S k 0) (List.getD T 2 0) (mTi S T k 2) (muladd (List.getD S k 0) (List.getD T 1 0) (mTi S T k 1) (muladd (List.getD S k 0) (List.getD T 0 0) (mTi S T k 0) (0 : Int)))) (muladd (IntKind.u64.wrap ((muladd_1 (List.getD S k 0) (List.getD T 0 0) (mTi S T k 0) (0 : Int)) * (15183074304973897243 : Int))) (1503914060200516822 : Int) (muladd_1 (List.getD S k 0) (List.getD T 1 0) (mTi S T k 1) (muladd (List.getD S k 0) (List.getD T 0 0) (mTi S T k 0) (0 : Int))) (muladd (IntKind.u64.wrap ((muladd_1 (List.getD S k 0) (List.getD T 0 0) (mTi S T k 0) (0 : Int)) * (15183074304973897243 : Int))) (6346243789798364141 : Int) (muladd_1 (List.getD S k 0) (List.getD T 0 0) (mTi S T k 0) (0 : Int)) (0 : Int))))) (0 : Int)) = (mTi S T (k + 1) 3) := (by first | exact wrap_succ (by omega) | rfl)
 have e2 : (muladd_1 (IntKind.u64.wrap ((muladd_1 (List.getD S k 0) (List.getD T 0 0) (mTi S T k 0) (0 : Int)) * (15183074304973897243 : Int))) (1152921504606846976 : Int) (muladd_1 (List.getD S k 0) (List.getD T 3 0) (mTi S T k 3) (muladd (List.getD S k 0) (List.getD T 2 0) (mTi S T k 2) (muladd (List.getD S k 0) (List.getD T 1 0) (mTi S T k 1) (muladd (List.getD S k 0) (List.getD T 0 0) (mTi S T k 0) (0 : Int))))) (muladd (IntKind.u64.wrap ((muladd_1 (List.getD S k 0) (List.getD T 0 0) (mTi S T k 0) (0 : Int)) * (15183074304973897243 : Int))) (0 : Int) (muladd_1 (List.getD S k 0) (List.getD T 2 0) (mTi S T k 2) (muladd (List.getD S k 0) (List.getD T 1 0) (mTi S T k 1) (muladd (List.getD S k 0) (List.getD T 0 0) (mTi S T k 0) (0 : Int)))) (muladd (IntKind.u64.wrap ((muladd_1 (List.getD S k 0) (List.getD T 0 0) (mTi S T k 0) (0 : Int)) * (15183074304973897243 : Int))) (1503914060200516822 : Int) (muladd_1 (List.getD S k 0) (List.getD T 1 0) (mTi S T k 1) (muladd (List.getD S k 0) (List.getD T 0 0) (mTi S T k 0) (0 : Int))) (muladd (IntKind.u64.wrap ((muladd_1 (List.getD S k 0) (List.getD T 0 0) (mTi S T k 0) (0 : Int)) * (15183074304973897243 : Int))) (6346243789798364141 : Int) (muladd_1 (List.getD S k 0) (List.getD T 0 0) (mTi S T k 0) (0 : Int)) (0 : Int))))) = (mTi S T (k + 1) 2) := (by first | exact wrap_succ (by omega) | rfl)
 have e3 : (muladd_1 (IntKind.u64.wrap ((muladd_1 (List.getD S k 0) (List.getD T 0 0) (mTi S T k 0) (0 : Int)) * (15183074304973897243 : Int))) (0 : Int) (muladd_1 (List.getD S k 0) (List.getD T 2 0) (mTi S T k 2) (muladd (List.getD S k 0) (List.getD T 1 0) (mTi S T k 1) (muladd (List.getD S k 0) (List.getD T 0 0) (mTi S T k 0) (0 : Int)))) (muladd (IntKind.u64.wrap ((muladd_1 (List.getD S k 0) (List.getD T 0 0) (mTi S T k 0) (0 : Int)) * (15183074304973897243 : Int))) (1503914060200516822 : Int) (muladd_1 (List.getD S k 0) (List.getD T 1 0) (mTi S T k 1) (muladd (List.getD S k 0) (List.getD T 0 0) (mTi S T k 0) (0 : Int))) (muladd (IntKind.u64.wrap ((muladd_1 (List.getD S k 0) (List.getD T 0 0) (mTi S T k 0) (0 : Int)) * (15183074304973897243 : Int))) (6346243789798364141 : Int) (muladd_1 (List.getD S k 0) (List.getD T 0 0) (mTi S T k 0) (0 : Int)) (0 : Int)))) = (mTi S T (k + 1) 1) := (by first | exact wrap_succ (by omega) | rfl)
 have e4 : (muladd_1 (IntKind.u64.wrap ((muladd_1 (List.getD S k 0) (List.getD T 0 0) (mTi S T k 0) (0 : Int)) * (15183074304973897243 : Int))) (1503914060200516822 : Int) (muladd_1 (List.getD S k 0) (List.getD T 1 0) (mTi S T k 1) (muladd (List.getD S k 0) (List.getD T 0 0) (mTi S T k 0) (0 : Int))) (muladd (IntKind.u64.wrap ((muladd_1 (List.getD S k 0) (List.getD T 0 0) (mTi S T k 0) (0 : Int)) * (15183074304973897243 : Int))) (6346243789798364141 : Int) (muladd_1 (List.getD S k 0) (List.getD T 0 0) (mTi S T k 0) (0 : Int)) (0 : Int))) = (mTi S T (k + 1) 0) := (by first | exact wrap_succ (by omega) | rfl)
 have e5 : (ad64c (mTi S T k 4) (muladd (List.getD S k 0) (List.getD T 3 0) (mTi S T k 3) (muladd (List.getD S k 0) (List.getD T 2 0) (mTi S T k 2) (muladd (List.getD S k 0) (List.getD T 1 0) (mTi S T k 1) (muladd (List.getD S k 0) (List.getD T 0 0) (mTi S T k 0) (0 : Int))))) (0 : Int)) = (mTi S T (k + 1) 5) := (by first | exact wrap_succ (by omega) | rfl)
 have e6 := wrap_succ (n := k) (by omega)
 have h := Run.of_outT (B := ⟨w, [], 0, noEnv⟩) (Λ := noLam) (Ψ := noPsi) (fuel := 6) (ora := [true, true, true, true, true, false, true, true, true, false]) (c := (loopB Try.f103 0)) (st := (moL_mk S T k s)) (l := [.forget [0, 1, 2, 3, 4, 5, 6, 13, 14] 5]) (s' := ⟨sparse 101 [(0, .o (.g [.ints .u64 4 S])), (1, .o (.g [.ints .u64 4 T])), (2, .o (.a (.p 0 0))), (3, .o (.a (.p 1 0))), (4, .o (.a (.p 2 0))), (5, .o (.a (.p 3 0))), (6, .o (.a (.p 4 0))), (13, .o (.g [.ints .u64 4 ([6346243789798364141, 1503914060200516822, 0, 1152921504606846976] : List Int)])), (14, .o (.a (.i .i64 (IntKind.i64.wrap ((k : Int) + 1)))))], [bT [.ints .u64 4 S], bT [.ints .u64 4 T], bT [.ints .u64 4 ([0, 0, 0, 0] : List Int)], bT [.ints .u64 4 ([6346243789798364141, 1503914060200516822, 0, 1152921504606846976] : List Int)], bT [.ints .u64 6 ([(muladd_1 (IntKind.u64.wrap ((muladd_1 (List.getD S k 0) (List.getD T 0 0) (mTi S T k 0) (0 : Int)) * 15183074304973897243)) (1503914060200516822 : Int) (muladd_1 (List.getD S k 0) (List.getD T 1 0) (mTi S T k 1) (muladd (List.getD S k 0) (List.getD T 0 0) (mTi S T k 0) (0 : Int))) (muladd (IntKind.u64.wrap ((muladd_1 (List.getD S k 0) (List.getD T 0 0) (mTi S T k 0) (0 : Int)) * 15183074304973897243)) (6346243789798364141 : Int) (muladd_1 (List.getD S k 0) (List.getD T 0 0) (mTi S T k 0) (0 : Int)) (0 : Int))), (muladd_1 (IntKind.u64.wrap ((muladd_1 (List.getD S k 0) (List.getD T 0 0) (mTi S T k 0) (0 : Int)) * 15183074304973897243)) (0 : Int) (muladd_1 (List.getD S k 0) (List.getD T 2 0) (mTi S T k 2) (muladd (List.getD S k 0) (List.getD T 1 0) (mTi S T k 1) (muladd (List.getD S k 0) (List.getD T 0 0) (mTi S T k 0) (0 : Int)))) (muladd (IntKind.u64.wrap ((muladd_1 (List.getD S k 0) (List.getD T 0 0) (mTi S T k 0) (0 : Int)) * 15183074304973897243)) (1503914060200516822 : Int) (muladd_1 (List.getD S k 0) (List.getD T 1 0) (mTi S T k 1) (muladd (List.getD S k 0) (List.getD T 0 0) (mTi S T k 0) (0 : Int))) (muladd (IntKind.u64.wrap ((muladd_1 (List.getD S k 0) (List.getD T 0 0) (mTi S T k 0) (0 : Int)) * 15183074304973897243)) (6346243789798364141 : Int) (muladd_1 (List.getD S k 0) (List.getD T 0 0) (mTi S T k 0) (0 : Int)) (0 : Int)))), (muladd_1 (IntKind.u64.wrap ((muladd_1 (List.getD S k 0) (List.getD T 0 0) (mTi S T k 0) (0 : Int)) * 15183074304973897243)) (1152921504606846976 : Int) (muladd_1 (List.getD S k 0) (List.getD T 3 0) (mTi S T k 3) (muladd (List.getD S k 0) (List.getD T 2 0) (mTi S T k 2) (muladd (List.getD S k 0) (List.getD T 1 0) (mTi S T k 1) (muladd (List.getD S k 0) (List.getD T 0 0) (mTi S T k 0) (0 : Int))))) (muladd (IntKind.u64.wrap ((muladd_1 (List.getD S k 0) (List.getD T 0 0) (mTi S T k 0) (0 : Int)) * 15183074304973897243)) (0 : Int) (muladd_1 (List.getD S k 0) (List.getD T 2 0) (mTi S T k 2) (muladd (List.getD S k 0) (List.getD T 1 0) (mTi S T k 1) (muladd (List.getD S k 0) (List.getD T 0 0) (mTi S T k 0) (0 : Int)))) (muladd (IntKind.u64.wrap ((muladd_1 (List.getD S k 0) (List.getD T 0 0) (mTi S T k 0) (0 : Int)) * 15183074304973897243)) (1503914060200516822 : Int) (muladd_1 (List.getD S k 0) (List.getD T 1 0) (mTi S T k 1) (muladd (List.getD S k 0) (List.getD T 0 0) (mTi S T k 0) (0 : Int))) (muladd (IntKind.u64.wrap ((muladd_1 (List.getD S k 0) (List.getD T 0 0) (mTi S T k 0) (0 : Int)) * 15183074304973897243)) (6346243789798364141 : Int) (muladd_1 (List.getD S k 0) (List.getD T 0 0) (mTi S T k 0) (0 : Int)) (0 : Int))))), (ad64s (ad64s (mTi S T k 4) (muladd (List.getD S k 0) (List.getD T 3 0) (mTi S T k 3) (muladd (List.getD S k 0) (List.getD T 2 0) (mTi S T k 2) (muladd (List.getD S k 0) (List.getD T 1 0) (mTi S T k 1) (muladd (List.getD S k 0) (List.getD T 0 0) (mTi S T k 0) (0 : Int))))) (0 : Int)) (muladd (IntKind.u64.wrap ((muladd_1 (List.getD S k 0) (List.getD T 0 0) (mTi S T k 0) (0 : Int)) * 15183074304973897243)) (1152921504606846976 : Int) (muladd_1 (List.getD S k 0) (List.getD T 3 0) (mTi S T k 3) (muladd (List.getD S k 0) (List.getD T 2 0) (mTi S T k 2) (muladd (List.getD S k 0) (List.getD T 1 0) (mTi S T k 1) (muladd (List.getD S k 0) (List.getD T 0 0) (mTi S T k 0) (0 : Int))))) (muladd (IntKind.u64.wrap ((muladd_1 (List.getD S k 0) (List.getD T 0 0) (mTi S T k 0) (0 : Int)) * 15183074304973897243)) (0 : Int) (muladd_1 (List.getD S k 0) (List.getD T 2 0) (mTi S T k 2) (muladd (List.getD S k 0) (List.getD T 1 0) (mTi S T k 1) (muladd (List.getD S k 0) (List.getD T 0 0) (mTi S T k 0) (0 : Int)))) (muladd (IntKind.u64.wrap ((muladd_1 (List.getD S k 0) (List.getD T 0 0) (mTi S T k 0) (0 : Int)) * 15183074304973897243)) (1503914060200516822 : Int) (muladd_1 (List.getD S k 0) (List.getD T 1 0) (mTi S T k 1) (muladd (List.getD S k 0) (List.getD T 0 0) (mTi S T k 0) (0 : Int))) (muladd (IntKind.u64.wrap ((muladd_1 (List.getD S k 0) (List.getD T 0 0) (mTi S T k 0) (0 : Int)) * 15183074304973897243)) (6346243789798364141 : Int) (muladd_1 (List.getD S k 0) (List.getD T 0 0) (mTi S T k 0) (0 : Int)) (0 : Int))))) (0 : Int)), (IntKind.u64.wrap ((ad64c (mTi S T k 4) (muladd (List.getD S k 0) (List.getD T 3 0) (mTi S T k 3) (muladd (List.getD S k 0) (List.getD T 2 0) (mTi S T k 2) (muladd (List.getD S k 0) (List.getD T 1 0) (mTi S T k 1) (muladd (List.getD S k 0) (List.getD T 0 0) (mTi S T k 0) (0 : Int))))) (0 : Int)) + (ad64c (ad64s (mTi S T k 4) (muladd (List.getD S k 0) (List.getD T 3 0) (mTi S T k 3) (muladd (List.getD S k 0) (List.getD T 2 0) (mTi S T k 2) (muladd (List.getD S k 0) (List.getD T 1 0) (mTi S T k 1) (muladd (List.getD S k 0) (List.getD T 0 0) (mTi S T k 0) (0 : Int))))) (0 : Int)) (muladd (IntKind.u64.wrap ((muladd_1 (List.getD S k 0) (List.getD T 0 0) (mTi S T k 0) (0 : Int)) * 15183074304973897243)) (1152921504606846976 : Int) (muladd_1 (List.getD S k 0) (List.getD T 3 0) (mTi S T k 3) (muladd (List.getD S k 0) (List.getD T 2 0) (mTi S T k 2) (muladd (List.getD S k 0) (List.getD T 1 0) (mTi S T k 1) (muladd (List.getD S k 0) (List.getD T 0 0) (mTi S T k 0) (0 : Int))))) (muladd (IntKind.u64.wrap ((muladd_1 (List.getD S k 0) (List.getD T 0 0) (mTi S T k 0) (0 : Int)) * 15183074304973897243)) (0 : Int) (muladd_1 (List.getD S k 0) (List.getD T 2 0) (mTi S T k 2) (muladd (List.getD S k 0) (List.getD T 1 0) (mTi S T k 1) (muladd (List.getD S k 0) (List.getD T 0 0) (mTi S T k 0) (0 : Int)))) (muladd (IntKind.u64.wrap ((muladd_1 (List.getD S k 0) (List.getD T 0 0) (mTi S T k 0) (0 : Int)) * 15183074304973897243)) (1503914060200516822 : Int) (muladd_1 (List.getD S k 0) (List.getD T 1 0) (mTi S T k 1) (muladd (List.getD S k 0) (List.getD T 0 0) (mTi S T k 0) (0 : Int))) (muladd (IntKind.u64.wrap ((muladd_1 (List.getD S k 0) (List.getD T 0 0) (mTi S T k 0) (0 : Int)) * 15183074304973897243)) (6346243789798364141 : Int) (muladd_1 (List.getD S k 0) (List.getD T 0 0) (mTi S T k 0) (0 : Int)) (0 : Int))))) (0 : Int)))), (ad64c (mTi S T k 4) (muladd (List.getD S k 0) (List.getD T 3 0) (mTi S T k 3) (muladd (List.getD S k 0) (List.getD T 2 0) (mTi S T k 2) (muladd (List.getD S k 0) (List.getD T 1 0) (mTi S T k 1) (muladd (List.getD S k 0) (List.getD T 0 0) (mTi S T k 0) (0 : Int))))) (0 : Int))] : List Int)]]⟩) (ex := .normal) mix tabOkNO gam10_ok
  (vc := (let p0_ : Prop := ((0 ≤ (k : Int)) ∧ ((k : Int) < 4)); [(((0 : Int) ≤ (ad64s (mTi S T k 4) (muladd (List.getD S k 0) (List.getD T 3 0) (mTi S T k 3) (muladd (List.getD S k 0) (List.getD T 2 0) (mTi S T k 2) (muladd (List.getD S k 0) (List.getD T 1 0) (mTi S T k 1) (muladd (List.getD S k 0) (List.getD T 0 0) (mTi S T k 0) (0 : Int))))) (0 : Int))) ∧ ((0 : Int) ≤ (muladd (IntKind.u64.wrap ((muladd_1 (List.getD S k 0) (List.getD T 0 0) (mTi S T k 0) (0 : Int)) * 15183074304973897243)) (1152921504606846976 : Int) (muladd_1 (List.getD S k 0) (List.getD T 3 0) (mTi S T k 3) (muladd (List.getD S k 0) (List.getD T 2 0) (mTi S T k 2) (muladd (List.getD S k 0) (List.getD T 1 0) (mTi S T k 1) (muladd (List.getD S k 0) (List.getD T 0 0) (mTi S T k 0) (0 : Int))))) (muladd (IntKind.u64.wrap ((muladd_1 (List.getD S k 0) (List.getD T 0 0) (mTi S T k 0) (0 : Int)) * 15183074304973897243)) (0 : Int) (muladd_1 (List.getD S k 0) (List.getD T 2 0) (mTi S T k 2) (muladd (List.getD S k 0) (List.getD T 1 0) (mTi S T k 1) (muladd (List.getD S k 0) (List.getD T 0 0) (mTi S T k 0) (0 : Int)))) (muladd (IntKind.u64.wrap ((muladd_1 (List.getD S k 0) (List.getD T 0 0) (mTi S T k 0) (0 : Int)) * 15183074304973897243)) (1503914060200516822 : Int) (muladd_1 (List.getD S k 0) (List.getD T 1 0) (mTi S T k 1) (muladd (List.getD S k 0) (List.getD T 0 0) (mTi S T k 0) (0 : Int))) (muladd (IntKind.u64.wrap ((muladd_1 (List.getD S k 0) (List.getD T 0 0) (mTi S T k 0) (0 : Int)) * 15183074304973897243)) (6346243789798364141 : Int) (muladd_1 (List.getD S k 0) (List.getD T 0 0) (mTi S T k 0) (0 : Int)) (0 : Int)))))) ∧ (cZ 0) ∧ (cZ 1)), (false = false), (cN 2 6), (cI 2 6), (((0 : Int) ≤ (muladd_1 (List.getD S k 0) (List.getD T 3 0) (mTi S T k 3) (muladd (List.getD S k 0) (List.getD T 2 0) (mTi S T k 2) (muladd (List.getD S k 0) (List.getD T 1 0) (mTi S T k 1) (muladd (List.getD S k 0) (List.getD T 0 0) (mTi S T k 0) (0 : Int)))))) ∧ ((0 : Int) ≤ (muladd (IntKind.u64.wrap ((muladd_1 (List.getD S k 0) (List.getD T 0 0) (mTi S T k 0) (0 : Int)) * 15183074304973897243)) (0 : Int) (muladd_1 (List.getD S k 0) (List.getD T 2 0) (mTi S T k 2) (muladd (List.getD S k 0) (List.getD T 1 0) (mTi S T k 1) (muladd (List.getD S k 0) (List.getD T 0 0) (mTi S T k 0) (0 : Int)))) (muladd (IntKind.u64.wrap ((muladd_1 (List.getD S k 0) (List.getD T 0 0) (mTi S T k 0) (0 : Int)) * 15183074304973897243)) (1503914060200516822 : Int) (muladd_1 (List.getD S k 0) (List.getD T 1 0) (mTi S T k 1) (muladd (List.getD S k 0) (List.getD T 0 0) (mTi S T k 0) (0 : Int))) (muladd (IntKind.u64.wrap ((muladd_1 (List.getD S k 0) (List.getD T 0 0) (mTi S T k 0) (0 : Int)) * 15183074304973897243)) (6346243789798364141 : Int) (muladd_1 (List.getD S k 0) (List.getD T 0 0) (mTi S T k 0) (0 : Int)) (0 : Int)))))), (cN 3 6), (cI 3 6), (cN 3 4), (cI 3 4), cT, (cN 1 6), (cI 1 6), (((0 : Int) ≤ (muladd_1 (List.getD S k 0) (List.getD T 2 0) (mTi S T k 2) (muladd (List.getD S k 0) (List.getD T 1 0) (mTi S T k 1) (muladd (List.getD S k 0) (List.getD T 0 0) (mTi S T k 0) (0 : Int))))) ∧ ((0 : Int) ≤ (muladd (IntKind.u64.wrap ((muladd_1 (List.getD S k 0) (List.getD T 0 0) (mTi S T k 0) (0 : Int)) * 15183074304973897243)) (1503914060200516822 : Int) (muladd_1 (List.getD S k 0) (List.getD T 1 0) (mTi S T k 1) (muladd (List.getD S k 0) (List.getD T 0 0) (mTi S T k 0) (0 : Int))) (muladd (IntKind.u64.wrap ((muladd_1 (List.getD S k 0) (List.getD T 0 0) (mTi S T k 0) (0 : Int)) * 15183074304973897243)) (6346243789798364141 : Int) (muladd_1 (List.getD S k 0) (List.getD T 0 0) (mTi S T k 0) (0 : Int)) (0 : Int))))), (cN 2 6), (cI 2 6), (cN 2 4), (cI 2 4), cT, (cN 0 6), (cI 0 6), (((0 : Int) ≤ (muladd_1 (List.getD S k 0) (List.getD T 1 0) (mTi S T k 1) (muladd (List.getD S k 0) (List.getD T 0 0) (mTi S T k 0) (0 : Int)))) ∧ ((0 : Int) ≤ (muladd (IntKind.u64.wrap ((muladd_1 (List.getD S k 0) (List.getD T 0 0) (mTi S T k 0) (0 : Int)) * 15183074304973897243)) (6346243789798364141 : Int) (muladd_1 (List.getD S k 0) (List.getD T 0 0) (mTi S T k 0) (0 : Int)) (0 : Int)))), (cN 1 6), (cI 1 6), (cN 1 4), (cI 1 4), cT, (((0 : Int) ≤ (muladd_1 (List.getD S k 0) (List.getD T 0 0) (mTi S T k 0) (0 : Int))) ∧ (cZ 0)), (((0 : Int) ≤ (mTi S T k 4)) ∧ ((0 : Int) ≤ (muladd (List.getD S k 0) (List.getD T 3 0) (mTi S T k 3) (muladd (List.getD S k 0) (List.getD T 2 0) (mTi S T k 2) (muladd (List.getD S k 0) (List.getD T 1 0) (mTi S T k 1) (muladd (List.getD S k 0) (List.getD T 0 0) (mTi S T k 0) (0 : Int)))))) ∧ (cZ 0) ∧ (cZ 1)), (false = false), (cN 3 6), (cI 3 6), (((0 : Int) ≤ (mTi S T k 3)) ∧ ((0 : Int) ≤ (muladd (List.getD S k 0) (List.getD T 2 0) (mTi S T k 2) (muladd (List.getD S k 0) (List.getD T 1 0) (mTi S T k 1) (muladd (List.getD S k 0) (List.getD T 0 0) (mTi S T k 0) (0 : Int)))))), (cN 3 6), (cI 3 6), (cN 3 4), (cI 3 4), (k < 4), p0_, cT, (cN 2 6), (cI 2 6), (((0 : Int) ≤ (mTi S T k 2)) ∧ ((0 : Int) ≤ (muladd (List.getD S k 0) (List.getD T 1 0) (mTi S T k 1) (muladd (List.getD S k 0) (List.getD T 0 0) (mTi S T k 0) (0 : Int))))), (cN 2 6), (cI 2 6), (cN 2 4), (cI 2 4), (k < 4), p0_, cT, (cN 1 6), (cI 1 6), (((0 : Int) ≤ (mTi S T k 1)) ∧ ((0 : Int) ≤ (muladd (List.getD S k 0) (List.getD T 0 0) (mTi S T k 0) (0 : Int)))), (cN 1 6), (cI 1 6), (cN 1 4), (cI 1 4), (k < 4), p0_, cT, (cN 0 6), (cI 0 6), (((0 : Int) ≤ (mTi S T k 0)) ∧ (cZ 0)), (cN 0 6), (cI 0 6), (cN 0 4), (cI 0 4), (k < 4), p0_, cT, ((decide ((k : Int) < 4)) = true)])) (by kernel_rfl)
  (aC ⟨(by have q0 := mTi_nn S T k 0; have q1 := mTi_nn S T k 1; have q2 := mTi_nn S T k 2; have q3 := mTi_nn S T k 3; have q4 := mTi_nn S T k 4; first | omega | exact wrap_nn rfl | exact (ad64_rng _ _ _).1 | exact muladd_nn _ _ _ _ | exact muladd1_nn _ _ _ _), (by have q0 := mTi_nn S T k 0; have q1 := mTi_nn S T k 1; have q2 := mTi_nn S T k 2; have q3 := mTi_nn S T k 3; have q4 := mTi_nn S T k 4; first | omega | exact wrap_nn rfl | exact (ad64_rng _ _ _).1 | exact muladd_nn _ _ _ _ | exact muladd1_nn _ _ _ _), (dd rfl), (dd rfl)⟩ (aC rfl (aC (dd rfl) (aC (dd rfl) (aC ⟨(by have q0 := mTi_nn S T k 0; have q1 := mTi_nn S T k 1; have q2 := mTi_nn S T k 2; have q3 := mTi_nn S T k 3; have q4 := mTi_nn S T k 4; first | omega | exact wrap_nn rfl | exact (ad64_rng _ _ _).1 | exact muladd_nn _ _ _ _ | exact muladd1_nn _ _ _ _), (by have q0 := mTi_nn S T k 0; have q1 := mTi_nn S T k 1; have q2 := mTi_nn S T k 2; have q3 := mTi_nn S T k 3; have q4 := mTi_nn S T k 4; first | omega | exact wrap_nn rfl | exact (ad64_rng _ _ _).1 | exact muladd_nn _ _ _ _ | exact muladd1_nn _ _ _ _)⟩ (aC (dd rfl) (aC (dd rfl) (aC (dd rfl) (aC (dd rfl) (aC rfl (aC (dd rfl) (aC (dd rfl) (aC ⟨(by have q0 := mTi_nn S T k 0; have q1 := mTi_nn S T k 1; have q2 := mTi_nn S T k 2; have q3 := mTi_nn S T k 3; have q4 := mTi_nn S T k 4; first | omega | exact wrap_nn rfl | exact (ad64_rng _ _ _).1 | exact muladd_nn _ _ _ _ | exact muladd1_nn _ _ _ _), (by have q0 := mTi_nn S T k 0; have q1 := mTi_nn S T k 1; have q2 := mTi_nn S T k 2; have q3 := mTi_nn S T k 3; have q4 := mTi_nn S T k 4; first | omega | exact wrap_nn rfl | exact (ad64_rng _ _ _).1 | exact muladd_nn _ _ _ _ | exact muladd1_nn _ _ _ _)⟩ (aC (dd rfl) (aC (dd rfl) (aC (dd rfl) (aC (dd rfl) (aC rfl (aC (dd rfl) (aC (dd rfl) (aC ⟨(by have q0 := mTi_nn S T k 0; have q1 := mTi_nn S T k 1; have q2 := mTi_nn S T k 2; have q3 := mTi_nn S T k 3; have q4 := mTi_nn S T k 4; first | omega | exact wrap_nn rfl | exact (ad64_rng _ _ _).1 | exact muladd_nn _ _ _ _ | exact muladd1_nn _ _ _ _), (by have q0 := mTi_nn S T k 0; have q1 := mTi_nn S T k 1; have q2 := mTi_nn S T k 2; have q3 := mTi_nn S T k 3; have q4 := mTi_nn S T k 4; first | omega | exact wrap_nn rfl | exact (ad64_rng _ _ _).1 | exact muladd_nn _ _ _ _ | exact muladd1_nn _ _ _ _)⟩ (aC (dd rfl) (aC (dd rfl) (aC (dd rfl) (aC (dd rfl) (aC rfl (aC ⟨(by have q0 := mTi_nn S T k 0; have q1 := mTi_nn S T k 1; have q2 := mTi_nn S T k 2; have q3 := mTi_nn S T k 3; have q4 := mTi_nn S T k 4; first | omega | exact wrap_nn rfl | exact (ad64_rng _ _ _).1 | exact muladd_nn _ _ _ _ | exact muladd1_nn _ _ _ _), (dd rfl)⟩ (aC ⟨(by have q0 := mTi_nn S T k 0; have q1 := mTi_nn S T k 1; have q2 := mTi_nn S T k 2; have q3 := mTi_nn S T k 3; have q4 := mTi_nn S T k 4; first | omega | exact wrap_nn rfl | exact (ad64_rng _ _ _).1 | exact muladd_nn _ _ _ _ | exact muladd1_nn _ _ _ _), (by have q0 := mTi_nn S T k 0; have q1 := mTi_nn S T k 1; have q2 := mTi_nn S T k 2; have q3 := mTi_nn S T k 3; have q4 := mTi_nn S T k 4; first | omega | exact wrap_nn rfl | exact (ad64_rng _ _ _).1 | exact muladd_nn _ _ _ _ | exact muladd1_nn _ _ _ _), (dd rfl), (dd rfl)⟩ (aC rfl (aC (dd rfl) (aC (dd rfl) (aC ⟨(by have q0 := mTi_nn S T k 0; have q1 := mTi_nn S T k 1; have q2 := mTi_nn S T k 2; have q3 := mTi_nn S T k 3; have q4 := mTi_nn S T k 4; first | omega | exact wrap_nn rfl | exact (ad64_rng _ _ _).1 | exact muladd_nn _ _ _ _ | exact muladd1_nn _ _ _ _), (by have q0 := mTi_nn S T k 0; have q1 := mTi_nn S T k 1; have q2 := mTi_nn S T k 2; have q3 := mTi_nn S T k 3; have q4 := mTi_nn S T k 4; first | omega | exact wrap_nn rfl | exact (ad64_rng _ _ _).1 | exact muladd_nn _ _ _ _ | exact muladd1_nn _ _ _ _)⟩ (aC (dd rfl) (aC (dd rfl) (aC (dd rfl) (aC (dd rfl) (aC (by have q0 := mTi_nn S T k 0; have q1 := mTi_nn S T k 1; have q2 := mTi_nn S T k 2; have q3 := mTi_nn S T k 3; have q4 := mTi_nn S T k 4; first | omega | exact wrap_nn rfl | exact (ad64_rng _ _ _).1 | exact muladd_nn _ _ _ _ | exact muladd1_nn _ _ _ _) (aC ⟨(by have q0 := mTi_nn S T k 0; have q1 := mTi_nn S T k 1; have q2 := mTi_nn S T k 2; have q3 := mTi_nn S T k 3; have q4 := mTi_nn S T k 4; first | omega | exact wrap_nn rfl | exact (ad64_rng _ _ _).1 | exact muladd_nn _ _ _ _ | exact muladd1_nn _ _ _ _), (by have q0 := mTi_nn S T k 0; have q1 := mTi_nn S T k 1; have q2 := mTi_nn S T k 2; have q3 := mTi_nn S T k 3; have q4 := mTi_nn S T k 4; first | omega | exact wrap_nn rfl | exact (ad64_rng _ _ _).1 | exact muladd_nn _ _ _ _ | exact muladd1_nn _ _ _ _)⟩ (aC rfl (aC (dd rfl) (aC (dd rfl) (aC ⟨(by have q0 := mTi_nn S T k 0; have q1 := mTi_nn S T k 1; have q2 := mTi_nn S T k 2; have q3 := mTi_nn S T k 3; have q4 := mTi_nn S T k 4; first | omega | exact wrap_nn rfl | exact (ad64_rng _ _ _).1 | exact muladd_nn _ _ _ _ | exact muladd1_nn _ _ _ _), (by have q0 := mTi_nn S T k 0; have q1 := mTi_nn S T k 1; have q2 := mTi_nn S T k 2; have q3 := mTi_nn S T k 3; have q4 := mTi_nn S T k 4; first | omega | exact wrap_nn rfl | exact (ad64_rng _ _ _).1 | exact muladd_nn _ _ _ _ | exact muladd1_nn _ _ _ _)⟩ (aC (dd rfl) (aC (dd rfl) (aC (dd rfl) (aC (dd rfl) (aC (by have q0 := mTi_nn S T k 0; have q1 := mTi_nn S T k 1; have q2 := mTi_nn S T k 2; have q3 := mTi_nn S T k 3; have q4 := mTi_nn S T k 4; first | omega | exact wrap_nn rfl | exact (ad64_rng _ _ _).1 | exact muladd_nn _ _ _ _ | exact muladd1_nn _ _ _ _) (aC ⟨(by have q0 := mTi_nn S T k 0; have q1 := mTi_nn S T k 1; have q2 := mTi_nn S T k 2; have q3 := mTi_nn S T k 3; have q4 := mTi_nn S T k 4; first | omega | exact wrap_nn rfl | exact (ad64_rng _ _ _).1 | exact muladd_nn _ _ _ _ | exact muladd1_nn _ _ _ _), (by have q0 := mTi_nn S T k 0; have q1 := mTi_nn S T k 1; have q2 := mTi_nn S T k 2; have q3 := mTi_nn S T k 3; have q4 := mTi_nn S T k 4; first | omega | exact wrap_nn rfl | exact (ad64_rng _ _ _).1 | exact muladd_nn _ _ _ _ | exact muladd1_nn _ _ _ _)⟩ (aC rfl (aC (dd rfl) (aC (dd rfl) (aC ⟨(by have q0 := mTi_nn S T k 0; have q1 := mTi_nn S T k 1; have q2 := mTi_nn S T k 2; have q3 := mTi_nn S T k 3; have q4 := mTi_nn S T k 4; first | omega | exact wrap_nn rfl | exact (ad64_rng _ _ _).1 | exact muladd_nn _ _ _ _ | exact muladd1_nn _ _ _ _), (by have q0 := mTi_nn S T k 0; have q1 := mTi_nn S T k 1; have q2 := mTi_nn S T k 2; have q3 := mTi_nn S T k 3; have q4 := mTi_nn S T k 4; first | omega | exact wrap_nn rfl | exact (ad64_rng _ _ _).1 | exact muladd_nn _ _ _ _ | exact muladd1_nn _ _ _ _)⟩ (aC (dd rfl) (aC (dd rfl) (aC (dd rfl) (aC (dd rfl) (aC (by have q0 := mTi_nn S T k 0; have q1 := mTi_nn S T k 1; have q2 := mTi_nn S T k 2; have q3 := mTi_nn S T k 3; have q4 := mTi_nn S T k 4; first | omega | exact wrap_nn rfl | exact (ad64_rng _ _ _).1 | exact muladd_nn _ _ _ _ | exact muladd1_nn _ _ _ _) (aC ⟨(by have q0 := mTi_nn S T k 0; have q1 := mTi_nn S T k 1; have q2 := mTi_nn S T k 2; have q3 := mTi_nn S T k 3; have q4 := mTi_nn S T k 4; first | omega | exact wrap_nn rfl | exact (ad64_rng _ _ _).1 | exact muladd_nn _ _ _ _ | exact muladd1_nn _ _ _ _), (by have q0 := mTi_nn S T k 0; have q1 := mTi_nn S T k 1; have q2 := mTi_nn S T k 2; have q3 := mTi_nn S T k 3; have q4 := mTi_nn S T k 4; first | omega | exact wrap_nn rfl | exact (ad64_rng _ _ _).1 | exact muladd_nn _ _ _ _ | exact muladd1_nn _ _ _ _)⟩ (aC rfl (aC (dd rfl) (aC (dd rfl) (aC ⟨(by have q0 := mTi_nn S T k 0; have q1 := mTi_nn S T k 1; have q2 := mTi_nn S T k 2; have q3 := mTi_nn S T k 3; have q4 := mTi_nn S T k 4; first | omega | exact wrap_nn rfl | exact (ad64_rng _ _ _).1 | exact muladd_nn _ _ _ _ | exact muladd1_nn _ _ _ _), (dd rfl)⟩ (aC (dd rfl) (aC (dd rfl) (aC (dd rfl) (aC (dd rfl) (aC (by have q0 := mTi_nn S T k 0; have q1 := mTi_nn S T k 1; have q2 := mTi_nn S T k 2; have q3 := mTi_nn S T k 3; have q4 := mTi_nn S T k 4; first | omega | exact wrap_nn rfl | exact (ad64_rng _ _ _).1 | exact muladd_nn _ _ _ _ | exact muladd1_nn _ _ _ _) (aC ⟨(by have q0 := mTi_nn S T k 0; have q1 := mTi_nn S T k 1; have q2 := mTi_nn S T k 2; have q3 := mTi_nn S T k 3; have q4 := mTi_nn S T k 4; first | omega | exact wrap_nn rfl | exact (ad64_rng _ _ _).1 | exact muladd_nn _ _ _ _ | exact muladd1_nn _ _ _ _), (by have q0 := mTi_nn S T k 0; have q1 := mTi_nn S T k 1; have q2 := mTi_nn S T k 2; have q3 := mTi_nn S T k 3; have q4 := mTi_nn S T k 4; first | omega | exact wrap_nn rfl | exact (ad64_rng _ _ _).1 | exact muladd_nn _ _ _ _ | exact muladd1_nn _ _ _ _)⟩ (aC rfl (aC (dt (by have q0 := mTi_nn S T k 0; have q1 := mTi_nn S T k 1; have q2 := mTi_nn S T k 2; have q3 := mTi_nn S T k 3; have q4 := mTi_nn S T k 4; first | omega | exact wrap_nn rfl | exact (ad64_rng _ _ _).1 | exact muladd_nn _ _ _ _ | exact muladd1_nn _ _ _ _)) (AllP_nil)))))))))))))))))))))))))))))))))))))))))))))))))))))))))))))))))))))))
 rw [e0, e1, e2, e3, e4, e5, e6] at h
 exact h

theorem moL_last (S T : List Int) (h0 : (Wds S)) (h1 : (Wds T)) (hv0 : S.length = 4) (hv1 : T.length = 4) (hr : Wds [mTi S T 4 0, mTi S T 4 1, mTi S T 4 2, mTi S T 4 3]) (w : World) (s : Unit) : Run Try.prog ⟨w, [], 0, noEnv⟩ (loopB Try.f103 0) (moL_mk S T 4 s) (To ⟨w, [], 0, noEnv⟩ (.exit 0) (moL_mk S T 4 s)) :=
 Run.of_outT (Λ := noLam) (Ψ := noPsi) (fuel := 6) (ora := [false]) (l := [.forget [0, 1, 2, 3, 4, 5, 6, 13, 14] 5]) mix tabOkNO gam10_ok
  (vc := [(false = false)]) (by kernel_rfl)
  (aC rfl (AllP_nil))

theorem moL_loop (S T : List Int) (h0 : (Wds S)) (h1 : (Wds T)) (hv0 : S.length = 4) (hv1 : T.length = 4) (hr : Wds [mTi S T 4 0, mTi S T 4 1, mTi S T 4 2, mTi S T 4 3]) (w : World) (s : Unit) : Run Try.prog ⟨w, [], 0, noEnv⟩ (.block 0 (.loop (loopB Try.f103 0))) (moL_mk S T 0 s) (To ⟨w, [], 0, noEnv⟩ .normal (moL_mk S T 4 (iter (moL_step) 4 s))) :=
 Run.count (fun k => moL_mk S T k (iter (moL_step) k s)) 4 (fun k hk => moL_round S T h0 h1 hv0 hv1 hr w k hk _) (ex := (.exit 0)) (by simp) (moL_last S T h0 h1 hv0 hv1 hr w _)

def montA (S T : List Int) : List Int :=
 (W4 (low (V4 ([(mTi S T 4 0), (mTi S T 4 1), (mTi S T 4 2), (mTi S T 4 3)] : List Int))))

theorem montA_body0 (S T : List Int) (h0 : (Wds S)) (h1 : (Wds T)) (hv0 : S.length = 4) (hv1 : T.length = 4) (hr : Wds [mTi S T 4 0, mTi S T 4 1, mTi S T 4 2, mTi S T 4 3]) (w : World) : Body Try.prog (tabOf tabNO) Try.f103 ⟨w, [], 0, noEnv⟩ (toA [.g [.ints .u64 4 S], .g [.ints .u64 4 T]]) [] (fun ys _ => ys = [.g [.ints .u64 4 (montA S T)]]) :=
 Body.of_fin (Γ := gam10) (Λ := lamOf [(0, ⟨[.forget [0, 1, 2, 3, 4, 5, 6, 13, 14] 5], .normal, (moL_mk S T 4 (iter (moL_step) 4 ()))⟩)]) (Ψ := noPsi) (fuel := 5) (m := 101) (c := (Try.f103.body.getD .skip)) mix tabOkNO gam10_ok rfl (rs := [.cell 4 104]) rfl rfl [] []
  (vc := [(Wds ([(mTi S T 4 0), (mTi S T 4 1), (mTi S T 4 2), (mTi S T 4 3)] : List Int)), (Run Try.prog ⟨w, [], 0, noEnv⟩ (.block 0 (.loop (loopB Try.f103 0))) (moL_mk S T 0 ()) (To ⟨w, [], 0, noEnv⟩ .normal (moL_mk S T 4 (iter (moL_step) 4 ()))))]) (by kernel_rfl)
  (aC hr (aC (moL_loop S T h0 h1 hv0 hv1 hr w ()) (AllP_nil)))

end Go.Proofs.Ytcpoldghkiiggaa.X

/- Montgomery's product and the value of 32 bytes, as numbers. -/
namespace Go.Proofs.Ytcpoldghkiiggaa.X
open Go Go.Proofs
set_option linter.unusedVariables false

def montV (a b : Int) : Int := a * b * RI % LL
def LtL (T : List Int) : Prop := V4 T < LL

theorem mT_fin {S T : List Int} (hS : Wds S) (hT : Wds T) (lS : S.length = 4) (lT : T.length = 4) (hB : LtL T) :
  Wds [mTi S T 4 0, mTi S T 4 1, mTi S T 4 2, mTi S T 4 3] ∧ ∃ M : Int, 115792089237316195423570985008687907853269984665640564039457584007913129639936 * V4 [mTi S T 4 0, mTi S T 4 1, mTi S T 4 2, mTi S T 4 3] = V4 S * V4 T + M * LL ∧ V4 [mTi S T 4 0, mTi S T 4 1, mTi S T 4 2, mTi S T 4 3] < 2 * LL := by
 obtain ⟨a0, a1, a2, a3, rfl⟩ := four lS
 obtain ⟨b0, b1, b2, b3, rfl⟩ := four lT
 have ha0 := hS a0 (by simp); have ha1 := hS a1 (by simp); have ha2 := hS a2 (by simp); have ha3 := hS a3 (by simp)
 have hb0 := hT b0 (by simp); have hb1 := hT b1 (by simp); have hb2 := hT b2 (by simp); have hb3 := hT b3 (by simp)
 have hB' : b0 + 18446744073709551616 * b1 + 340282366920938463463374607431768211456 * b2 + 6277101735386680763835789423207666416102355444464034512896 * b3 < LL := hB
 have z : (0 : Int) ≤ 0 ∧ (0 : Int) < 18446744073709551616 := by omega
 obtain ⟨v0, v1, v2, v3, v4, v5, m0, e1, r0, r1, r2, r3, r4, q1, l1⟩ := mstep_eq ha0 hb0 hb1 hb2 hb3 z z z z (t4 := 0) (by omega) hB' (by unfold LL; omega)
 have g1 : mT [a0, a1, a2, a3] [b0, b1, b2, b3] 1 = [v0, v1, v2, v3, v4, v5] := e1
 obtain ⟨x0, x1, x2, x3, x4, x5, m1, e2, s0, s1, s2, s3, s4, q2, l2⟩ := mstep_eq ha1 hb0 hb1 hb2 hb3 r0 r1 r2 r3 r4 hB' l1
 have g2 : mT [a0, a1, a2, a3] [b0, b1, b2, b3] 2 = [x0, x1, x2, x3, x4, x5] := by
  show mstep a1 b0 b1 b2 b3 ((mT _ _ 1).getD 0 0) ((mT _ _ 1).getD 1 0) ((mT _ _ 1).getD 2 0) ((mT _ _ 1).getD 3 0) ((mT _ _ 1).getD 4 0) = _
  rw [g1]; exact e2
 obtain ⟨y0, y1, y2, y3, y4, y5, m2, e3, t0, t1, t2, t3, t4, q3, l3⟩ := mstep_eq ha2 hb0 hb1 hb2 hb3 s0 s1 s2 s3 s4 hB' l2
 have g3 : mT [a0, a1, a2, a3] [b0, b1, b2, b3] 3 = [y0, y1, y2, y3, y4, y5] := by
  show mstep a2 b0 b1 b2 b3 ((mT _ _ 2).getD 0 0) ((mT _ _ 2).getD 1 0) ((mT _ _ 2).getD 2 0) ((mT _ _ 2).getD 3 0) ((mT _ _ 2).getD 4 0) = _
  rw [g2]; exact e3
 obtain ⟨w0, w1, w2, w3, w4, w5, m3, e4, u0, u1, u2, u3, u4, q4, l4⟩ := mstep_eq ha3 hb0 hb1 hb2 hb3 t0 t1 t2 t3 t4 hB' l3
 have g4 : mT [a0, a1, a2, a3] [b0, b1, b2, b3] 4 = [w0, w1, w2, w3, w4, w5] := by
  show mstep a3 b0 b1 b2 b3 ((mT _ _ 3).getD 0 0) ((mT _ _ 3).getD 1 0) ((mT _ _ 3).getD 2 0) ((mT _ _ 3).getD 3 0) ((mT _ _ 3).getD 4 0) = _
  rw [g3]; exact e4
 have i0 : mTi [a0, a1, a2, a3] [b0, b1, b2, b3] 4 0 = w0 := by unfold mTi; rw [g4]; rfl
 have i1 : mTi [a0, a1, a2, a3] [b0, b1, b2, b3] 4 1 = w1 := by unfold mTi; rw [g4]; rfl
 have i2 : mTi [a0, a1, a2, a3] [b0, b1, b2, b3] 4 2 = w2 := by unfold mTi; rw [g4]; rfl
 have i3 : mTi [a0, a1, a2, a3] [b0, b1, b2, b3] 4 3 = w3 := by unfold mTi; rw [g4]; rfl
 rw [i0, i1, i2, i3]
 refine ⟨wds_four u0 u1 u2 u3, m0 + 18446744073709551616 * m1 + 340282366920938463463374607431768211456 * m2 + 6277101735386680763835789423207666416102355444464034512896 * m3, ?_, ?_⟩
 ·have hw4 : w4 = 0 := by unfold LL at l4; omega
  subst hw4
  have hAB : V4 [a0, a1, a2, a3] * V4 [b0, b1, b2, b3] = a0 * V4 [b0, b1, b2, b3] + 18446744073709551616 * (a1 * V4 [b0, b1, b2, b3]) + 340282366920938463463374607431768211456 * (a2 * V4 [b0, b1, b2, b3]) + 6277101735386680763835789423207666416102355444464034512896 * (a3 * V4 [b0, b1, b2, b3]) := by
   show (a0 + 18446744073709551616 * a1 + 340282366920938463463374607431768211456 * a2 + 6277101735386680763835789423207666416102355444464034512896 * a3) * V4 [b0, b1, b2, b3] = _
   rw [Int.add_mul, Int.add_mul, Int.add_mul, Int.mul_assoc, Int.mul_assoc, Int.mul_assoc]
  rw [hAB]
  have hV : b0 + 18446744073709551616 * b1 + 340282366920938463463374607431768211456 * b2 + 6277101735386680763835789423207666416102355444464034512896 * b3 = V4 [b0, b1, b2, b3] := rfl
  rw [hV] at q1 q2 q3 q4
  generalize V4 [b0, b1, b2, b3] = B at *
  generalize a0 * B = p0 at *
  generalize a1 * B = p1 at *
  generalize a2 * B = p2 at *
  generalize a3 * B = p3 at *
  show 115792089237316195423570985008687907853269984665640564039457584007913129639936 * (w0 + 18446744073709551616 * w1 + 340282366920938463463374607431768211456 * w2 + 6277101735386680763835789423207666416102355444464034512896 * w3) = _
  unfold LL at *
  clear g1 g2 g3 g4 e1 e2 e3 e4 i0 i1 i2 i3 hS hT lS lT hB hAB hV hB'
  omega
 ·have hw4 : w4 = 0 := by unfold LL at l4; omega
  subst hw4
  show w0 + 18446744073709551616 * w1 + 340282366920938463463374607431768211456 * w2 + 6277101735386680763835789423207666416102355444464034512896 * w3 < 2 * LL
  omega

theorem low_mod {v : Int} (h0 : 0 ≤ v) (h1 : v < 2 * LL) : low v = v % LL := by
 unfold low LL at *
 split <;> omega

theorem mont_can (S T : List Int) (h0 : (Wds S)) (h1 : (Wds T)) (h2 : LtL T) (w : World) : Body Try.prog (tabOf tabNO) Try.f103 ⟨w, [], 0, noEnv⟩ (toA [.g [.ints .u64 4 S], .g [.ints .u64 4 T]]) [] (fun ys _ => ys = [.g [.ints .u64 4 (W4 (montV (V4 S) (V4 T)))]]) :=
 Body.lens (c := (Try.f103.body.getD .skip)) rfl fun h => by
  have lS := h.vals 0 _ _ _ rfl
  have lT := h.vals 1 _ _ _ rfl
  obtain ⟨hr, M, e, hlt⟩ := mT_fin h0 h1 lS lT h2
  refine (montA_body0 S T h0 h1 lS lT hr w).mono fun xs K hx => ?_
  subst hx
  have e2 : montA S T = W4 (montV (V4 S) (V4 T)) := by
   show W4 (low (V4 [mTi S T 4 0, mTi S T 4 1, mTi S T 4 2, mTi S T 4 3])) = _
   rw [low_mod (V4_rng hr rfl).1 hlt, mont_num e]; rfl
  rw [e2]

def lowI (v : Int) : Nat → Int
 | 0 => v
 | k + 1 => low (lowI v k)
def lowC (v : Int) : Nat → List Int
 | 0 => W4 v
 | k + 1 => W4 (low (V4 (lowC v k)))

theorem lowI_ok {v : Int} (h0 : 0 ≤ v) (h1 : v < 115792089237316195423570985008687907853269984665640564039457584007913129639936) : ∀ k, 0 ≤ lowI v k ∧ lowI v k < 115792089237316195423570985008687907853269984665640564039457584007913129639936 ∧ lowI v k % LL = v % LL ∧ (lowI v k < LL ∨ lowI v k = v - (k : Int) * LL)
 | 0 => ⟨h0, h1, rfl, .inr (by show v = v - (0 : Int) * LL; omega)⟩
 | k + 1 => by
  obtain ⟨a, b, c, d⟩ := lowI_ok h0 h1 k
  have r := low_rng a b
  refine ⟨r.1, r.2, ?_, ?_⟩
  ·rw [← c]; show low (lowI v k) % LL = _
   unfold low
   split
   ·rw [show lowI v k - LL = lowI v k + LL * (-1) by omega, Int.add_mul_emod_self_left]
   ·rfl
  ·show low (lowI v k) < LL ∨ low (lowI v k) = _
   unfold low LL at *
   split <;> omega

theorem lowC_eq {v : Int} (h0 : 0 ≤ v) (h1 : v < 115792089237316195423570985008687907853269984665640564039457584007913129639936) : ∀ k, lowC v k = W4 (lowI v k)
 | 0 => rfl
 | k + 1 => by
  obtain ⟨a, b, _⟩ := lowI_ok h0 h1 k
  show W4 (low (V4 (lowC v k))) = W4 (low (lowI v k))
  rw [lowC_eq h0 h1 k, V4_W4 a b]

theorem low16 {v : Int} (h0 : 0 ≤ v) (h1 : v < 115792089237316195423570985008687907853269984665640564039457584007913129639936) : lowI v 16 = v % LL := by
 obtain ⟨a, b, c, d⟩ := lowI_ok h0 h1 16
 unfold LL at *
 rcases d with d | d <;> omega

theorem val_can (s : List Int) (h0 : Byt s) (w : World) : Body Try.prog (tabOf tabNO) Try.f75 ⟨w, [], 0, noEnv⟩ (toA [.g [.ints .u8 32 s]]) [] (fun ys _ => ys = [.g [.ints .u64 4 (W4 (BV s % LL))]]) :=
 Body.lens (c := (Try.f75.body.getD .skip)) rfl fun h => (valA_body0 s h0 (h.vals 0 _ _ _ rfl) w).mono fun xs K hx => by
  subst hx
  have r := BV_rng h0
  have e : valA s = W4 (BV s % LL) := by
   have e1 : valA s = lowC (BV s) 16 := rfl
   rw [e1, lowC_eq r.1 r.2, low16 r.1 r.2]
  rw [e]
end Go.Proofs.Ytcpoldghkiiggaa.X

/- Numbers that are below the order. -/
namespace Go.Proofs.Ytcpoldghkiiggaa.X
open Go Go.Proofs
set_option linter.unusedVariables false

def modL (v : Int) : Int := v % LL
theorem modL_rng (v : Int) : 0 ≤ modL v ∧ modL v < LL ∧ modL v < 115792089237316195423570985008687907853269984665640564039457584007913129639936 := by
 unfold modL LL; omega
theorem V4_modL (v : Int) : V4 (W4 (modL v)) = modL v := V4_W4 (modL_rng v).1 (modL_rng v).2.2
theorem ltl_mod (v : Int) : LtL (W4 (modL v)) := by unfold LtL; rw [V4_modL]; exact (modL_rng v).2.1
theorem montV_rng (a b : Int) : 0 ≤ montV a b ∧ montV a b < LL ∧ montV a b < 115792089237316195423570985008687907853269984665640564039457584007913129639936 := modL_rng (a * b * RI)
theorem V4_mont (a b : Int) : V4 (W4 (montV a b)) = montV a b := V4_W4 (montV_rng a b).1 (montV_rng a b).2.2
theorem ltl_mont (a b : Int) : LtL (W4 (montV a b)) := by unfold LtL; rw [V4_mont]; exact (montV_rng a b).2.1
theorem wds_radx : Wds [11819153939886771969, 14991950615390032711, 14910419812499177061, 259310039853996605] := wds_four (by omega) (by omega) (by omega) (by omega)
theorem V4_radx : V4 [11819153939886771969, 14991950615390032711, 14910419812499177061, 259310039853996605] = 1627715501170711445284395025044413883736156588369414752970002579683115011841 := by decide +kernel
theorem ltl_radx : LtL [11819153939886771969, 14991950615390032711, 14910419812499177061, 259310039853996605] := by unfold LtL; rw [V4_radx]; unfold LL; omega
theorem wds_one : Wds [1, 0, 0, 0] := wds_four (by omega) (by omega) (by omega) (by omega)
theorem ltl_one : LtL [1, 0, 0, 0] := by show V4 [1, 0, 0, 0] < LL; decide +kernel
theorem wds_one1 {n : Int} (h0 : 0 ≤ n) (h1 : n < 18446744073709551616) : Wds [n, 0, 0, 0] := wds_four ⟨h0, h1⟩ (by omega) (by omega) (by omega)
theorem byt_B32 (v : Int) : Byt (B32 v) := by
 intro x hx
 unfold B32 at hx
 simp only [List.mem_cons, List.not_mem_nil, or_false] at hx
 rcases hx with rfl | rfl | rfl | rfl | rfl | rfl | rfl | rfl | rfl | rfl | rfl | rfl | rfl | rfl | rfl | rfl | rfl | rfl | rfl | rfl | rfl | rfl | rfl | rfl | rfl | rfl | rfl | rfl | rfl | rfl | rfl | rfl <;> omega
theorem times_eq (a b : Int) : montV (montV a b) 1627715501170711445284395025044413883736156588369414752970002579683115011841 = modL (a * b) := mont_twice (a * b)
end Go.Proofs.Ytcpoldghkiiggaa.X

/- Printed by a tool of this session. -/
namespace Go.Proofs.Ytcpoldghkiiggaa.X
open Go Go.Proofs
set_option linter.unusedVariables false
set_option linter.unusedSimpArgs false
set_option maxRecDepth 100000
set_option maxHeartbeats 8000000
noncomputable def tabNT : List (Nat × TE) := [(24, ⟨.array 32 5, 32, 32, [.ints .u8 32 ([0, 0, 0, 0, 0, 0, 0, 0, 0, 0, 0, 0, 0, 0, 0, 0, 0, 0, 0, 0, 0, 0, 0, 0, 0, 0, 0, 0, 0, 0, 0, 0] : List Int)], true⟩), (25, ⟨.int .u64, 1, 8, [.i .u64 0], false⟩), (104, ⟨.array 4 25, 4, 32, [.ints .u64 4 ([0, 0, 0, 0] : List Int)], true⟩)]
theorem tabOkNT : TabOk Try.prog (tabOf tabNT) := (tabOf_cons teNM_24 (tabOf_cons teNG_25 (tabOf_cons teNG_104 tabOf_nil)))

theorem montA_pure (S T : List Int) (h0 : (Wds S)) (h1 : (Wds T)) (h2 : (LtL T)) : PureC Try.prog 103 [.g [.ints .u64 4 S], .g [.ints .u64 4 T]] [.g [.ints .u64 4 (W4 (montV (V4 S) (V4 T)))]] :=
 PureC.of_body tabOkNT Try.func103 rfl rfl fun w => mont_can S T h0 h1 h2 w

def gam11 : Gam := gpure 103 (fun args => match args with | [.o (.g [.ints .u64 (4 : Nat) S]), .o (.g [.ints .u64 (4 : Nat) T])] => some (some ((Wds S) ∧ (Wds T) ∧ (LtL T)), [.g [.ints .u64 (4 : Nat) (W4 (montV (V4 S) (V4 T)))]]) | _ => none) gam10
theorem gam11_ok : GamOk Try.prog gam11 := gpure_ok gam10_ok Try.call103 (by
 intro args vc xs h hv
 split at h
 ·simp only [Option.some.injEq, Prod.mk.injEq] at h; obtain ⟨rfl, rfl⟩ := h; exact ⟨_, by rfl, montA_pure _ _ hv.1 hv.2.1 hv.2.2⟩
 ·simp at h)

theorem valA_pure (s : List Int) (h0 : (Byt s)) : PureC Try.prog 75 [.g [.ints .u8 32 s]] [.g [.ints .u64 4 (W4 (modL (BV s)))]] :=
 PureC.of_body tabOkNT Try.func75 rfl rfl fun w => val_can s h0 w

def gam12 : Gam := gpure 75 (fun args => match args with | [.o (.g [.ints .u8 (32 : Nat) s])] => some (some ((Byt s)), [.g [.ints .u64 (4 : Nat) (W4 (modL (BV s)))]]) | _ => none) gam11
theorem gam12_ok : GamOk Try.prog gam12 := gpure_ok gam11_ok Try.call75 (by
 intro args vc xs h hv
 split at h
 ·simp only [Option.some.injEq, Prod.mk.injEq] at h; obtain ⟨rfl, rfl⟩ := h; exact ⟨_, by rfl, valA_pure _ hv⟩
 ·simp at h)

def times (S T : List Int) : List Int :=
 (W4 (montV (V4 (W4 (montV (V4 S) (V4 T)))) (V4 ([11819153939886771969, 14991950615390032711, 14910419812499177061, 259310039853996605] : List Int))))

theorem times_body0 (S T : List Int) (h0 : (Wds S)) (h1 : (Wds T)) (h2 : (LtL T)) (hv0 : S.length = 4) (hv1 : T.length = 4) (w : World) : Body Try.prog (tabOf tabNT) Try.f73 ⟨w, [], 0, noEnv⟩ (toA [.g [.ints .u64 4 S], .g [.ints .u64 4 T]]) [] (fun ys _ => ys = [.g [.ints .u64 4 (times S T)]]) :=
 Body.of_fin (Γ := gam12) (Λ := noLam) (Ψ := noPsi) (fuel := 0) (m := 10) (c := (Try.f73.body.getD .skip)) mix tabOkNT gam12_ok rfl (rs := [.cell 4 104]) rfl rfl [] []
  (vc := [((Wds (W4 (montV (V4 S) (V4 T)))) ∧ (Wds ([11819153939886771969, 14991950615390032711, 14910419812499177061, 259310039853996605] : List Int)) ∧ (LtL ([11819153939886771969, 14991950615390032711, 14910419812499177061, 259310039853996605] : List Int))), ((Wds S) ∧ (Wds T) ∧ (LtL T))]) (by kernel_rfl)
  (aC ⟨(by first | assumption | exact wds_W4 _ | exact wds_radx), (by first | assumption | exact wds_W4 _ | exact wds_radx), (by first | assumption | exact ltl_radx)⟩ (aC ⟨(by first | assumption | exact wds_W4 _ | exact wds_radx), (by first | assumption | exact wds_W4 _ | exact wds_radx), (by first | assumption | exact ltl_radx)⟩ (AllP_nil)))

theorem times_body (S T : List Int) (h0 : (Wds S)) (h1 : (Wds T)) (h2 : (LtL T)) (w : World) : Body Try.prog (tabOf tabNT) Try.f73 ⟨w, [], 0, noEnv⟩ (toA [.g [.ints .u64 4 S], .g [.ints .u64 4 T]]) [] (fun ys _ => ys = [.g [.ints .u64 4 (times S T)]]) :=
 Body.lens (c := (Try.f73.body.getD .skip)) rfl fun h => times_body0 S T h0 h1 h2 (h.vals 0 _ _ _ rfl) (h.vals 1 _ _ _ rfl) w

theorem times_pure (S T : List Int) (h0 : (Wds S)) (h1 : (Wds T)) (h2 : (LtL T)) : PureC Try.prog 73 [.g [.ints .u64 4 S], .g [.ints .u64 4 T]] [.g [.ints .u64 4 (times S T)]] :=
 PureC.of_body tabOkNT Try.func73 rfl rfl fun w => times_body S T h0 h1 h2 w

def gam13 : Gam := gpure 73 (fun args => match args with | [.o (.g [.ints .u64 (4 : Nat) S]), .o (.g [.ints .u64 (4 : Nat) T])] => some (some ((Wds S) ∧ (Wds T) ∧ (LtL T)), [.g [.ints .u64 (4 : Nat) (times S T)]]) | _ => none) gam12
theorem gam13_ok : GamOk Try.prog gam13 := gpure_ok gam12_ok Try.call73 (by
 intro args vc xs h hv
 split at h
 ·simp only [Option.some.injEq, Prod.mk.injEq] at h; obtain ⟨rfl, rfl⟩ := h; exact ⟨_, by rfl, times_pure _ _ hv.1 hv.2.1 hv.2.2⟩
 ·simp at h)

def addP (a b : List Int) : List Int :=
 (B32 (V4 (W4 (low (addR (V4 (W4 (modL (BV a)))) (V4 (W4 (modL (BV b)))))))))

theorem addP_body0 (a b : List Int) (h0 : (Byt a)) (h1 : (Byt b)) (hv0 : a.length = 32) (hv1 : b.length = 32) (w : World) : Body Try.prog (tabOf tabNT) Try.f26 ⟨w, [], 0, noEnv⟩ (toA [.g [.ints .u8 32 a], .g [.ints .u8 32 b]]) [] (fun ys _ => ys = [.g [.ints .u8 32 (addP a b)]]) :=
 Body.of_fin (Γ := gam13) (Λ := noLam) (Ψ := noPsi) (fuel := 0) (m := 11) (c := (Try.f26.body.getD .skip)) mix tabOkNT gam13_ok rfl (rs := [.cell 4 24]) rfl rfl [] []
  (vc := [(Wds (W4 (low (addR (V4 (W4 (modL (BV a)))) (V4 (W4 (modL (BV b)))))))), ((Wds (W4 (modL (BV a)))) ∧ (Wds (W4 (modL (BV b))))), (Byt b), (Byt a)]) (by kernel_rfl)
  (aC (by first | assumption | exact wds_W4 _ | exact wds_ord | exact byt_B32 _ | exact wds_radx | exact wds_one) (aC ⟨(by first | assumption | exact wds_W4 _ | exact wds_ord | exact byt_B32 _ | exact wds_radx | exact wds_one), (by first | assumption | exact wds_W4 _ | exact wds_ord | exact byt_B32 _ | exact wds_radx | exact wds_one)⟩ (aC (by first | assumption | exact wds_W4 _ | exact wds_ord | exact byt_B32 _ | exact wds_radx | exact wds_one) (aC (by first | assumption | exact wds_W4 _ | exact wds_ord | exact byt_B32 _ | exact wds_radx | exact wds_one) (AllP_nil)))))

theorem addP_body (a b : List Int) (h0 : (Byt a)) (h1 : (Byt b)) (w : World) : Body Try.prog (tabOf tabNT) Try.f26 ⟨w, [], 0, noEnv⟩ (toA [.g [.ints .u8 32 a], .g [.ints .u8 32 b]]) [] (fun ys _ => ys = [.g [.ints .u8 32 (addP a b)]]) :=
 Body.lens (c := (Try.f26.body.getD .skip)) rfl fun h => addP_body0 a b h0 h1 (h.vals 0 _ _ _ rfl) (h.vals 1 _ _ _ rfl) w

theorem addP_pure (a b : List Int) (h0 : (Byt a)) (h1 : (Byt b)) : PureC Try.prog 26 [.g [.ints .u8 32 a], .g [.ints .u8 32 b]] [.g [.ints .u8 32 (addP a b)]] :=
 PureC.of_body tabOkNT Try.func26 rfl rfl fun w => addP_body a b h0 h1 w

def gam14 : Gam := gpure 26 (fun args => match args with | [.o (.g [.ints .u8 (32 : Nat) a]), .o (.g [.ints .u8 (32 : Nat) b])] => some (some ((Byt a) ∧ (Byt b)), [.g [.ints .u8 (32 : Nat) (addP a b)]]) | _ => none) gam13
theorem gam14_ok : GamOk Try.prog gam14 := gpure_ok gam13_ok Try.call26 (by
 intro args vc xs h hv
 split at h
 ·simp only [Option.some.injEq, Prod.mk.injEq] at h; obtain ⟨rfl, rfl⟩ := h; exact ⟨_, by rfl, addP_pure _ _ hv.1 hv.2⟩
 ·simp at h)

def negP (a : List Int) : List Int :=
 (B32 (V4 (W4 (negL (V4 (W4 (modL (BV a))))))))

theorem negP_body0 (a : List Int) (h0 : (Byt a)) (hv0 : List.length a = 32) (w : World) : Body Try.prog (tabOf tabNT) Try.f30 ⟨w, [], 0, noEnv⟩ (toA [.g [.ints .u8 32 a]]) [] (fun ys _ => ys = [.g [.ints .u8 32 (negP a)]]) :=
 Body.of_fin (Γ := gam14) (Λ := noLam) (Ψ := noPsi) (fuel := 0) (m := 7) (c := (Try.f30.body.getD .skip)) mix tabOkNT gam14_ok rfl (rs := [.cell 2 24]) rfl rfl [] []
  (vc := [(Wds (W4 (negL (V4 (W4 (modL (BV a))))))), (Wds (W4 (modL (BV a)))), (Byt a)]) (by kernel_rfl)
  (aC (by first | assumption | exact wds_W4 _ | exact wds_ord | exact byt_B32 _ | exact wds_radx | exact wds_one) (aC (by first | assumption | exact wds_W4 _ | exact wds_ord | exact byt_B32 _ | exact wds_radx | exact wds_one) (aC (by first | assumption | exact wds_W4 _ | exact wds_ord | exact byt_B32 _ | exact wds_radx | exact wds_one) (AllP_nil))))

theorem negP_body (a : List Int) (h0 : (Byt a)) (w : World) : Body Try.prog (tabOf tabNT) Try.f30 ⟨w, [], 0, noEnv⟩ (toA [.g [.ints .u8 32 a]]) [] (fun ys _ => ys = [.g [.ints .u8 32 (negP a)]]) :=
 Body.lens (c := (Try.f30.body.getD .skip)) rfl fun h => negP_body0 a h0 (h.vals 0 _ _ _ rfl) w

theorem negP_pure (a : List Int) (h0 : (Byt a)) : PureC Try.prog 30 [.g [.ints .u8 32 a]] [.g [.ints .u8 32 (negP a)]] :=
 PureC.of_body tabOkNT Try.func30 rfl rfl fun w => negP_body a h0 w

def gam16 : Gam := gpure 30 (fun args => match args with | [.o (.g [.ints .u8 (32 : Nat) a])] => some (some ((Byt a)), [.g [.ints .u8 (32 : Nat) (negP a)]]) | _ => none) gam14
theorem gam16_ok : GamOk Try.prog gam16 := gpure_ok gam14_ok Try.call30 (by
 intro args vc xs h hv
 split at h
 ·simp only [Option.some.injEq, Prod.mk.injEq] at h; obtain ⟨rfl, rfl⟩ := h; exact ⟨_, by rfl, negP_pure _ hv⟩
 ·simp at h)

def mulP (a b : List Int) : List Int :=
 (B32 (V4 (times (W4 (modL (BV a))) (W4 (modL (BV b))))))

theorem mulP_body0 (a b : List Int) (h0 : (Byt a)) (h1 : (Byt b)) (hv0 : a.length = 32) (hv1 : b.length = 32) (w : World) : Body Try.prog (tabOf tabNT) Try.f32 ⟨w, [], 0, noEnv⟩ (toA [.g [.ints .u8 32 a], .g [.ints .u8 32 b]]) [] (fun ys _ => ys = [.g [.ints .u8 32 (mulP a b)]]) :=
 Body.of_fin (Γ := gam16) (Λ := noLam) (Ψ := noPsi) (fuel := 0) (m := 11) (c := (Try.f32.body.getD .skip)) mix tabOkNT gam16_ok rfl (rs := [.cell 4 24]) rfl rfl [] []
  (vc := [(Wds (times (W4 (modL (BV a))) (W4 (modL (BV b))))), ((Wds (W4 (modL (BV a)))) ∧ (Wds (W4 (modL (BV b)))) ∧ (LtL (W4 (modL (BV b))))), (Byt b), (Byt a)]) (by kernel_rfl)
  (aC (by first | assumption | exact wds_W4 _ | exact wds_ord | exact byt_B32 _ | exact wds_radx | exact wds_one) (aC ⟨(by first | assumption | exact wds_W4 _ | exact wds_ord | exact byt_B32 _ | exact wds_radx | exact wds_one), (by first | assumption | exact wds_W4 _ | exact wds_ord | exact byt_B32 _ | exact wds_radx | exact wds_one), (by first | exact ltl_mod _ | exact ltl_radx | exact ltl_mont _ _ | exact ltl_one)⟩ (aC (by first | assumption | exact wds_W4 _ | exact wds_ord | exact byt_B32 _ | exact wds_radx | exact wds_one) (aC (by first | assumption | exact wds_W4 _ | exact wds_ord | exact byt_B32 _ | exact wds_radx | exact wds_one) (AllP_nil)))))

theorem mulP_body (a b : List Int) (h0 : (Byt a)) (h1 : (Byt b)) (w : World) : Body Try.prog (tabOf tabNT) Try.f32 ⟨w, [], 0, noEnv⟩ (toA [.g [.ints .u8 32 a], .g [.ints .u8 32 b]]) [] (fun ys _ => ys = [.g [.ints .u8 32 (mulP a b)]]) :=
 Body.lens (c := (Try.f32.body.getD .skip)) rfl fun h => mulP_body0 a b h0 h1 (h.vals 0 _ _ _ rfl) (h.vals 1 _ _ _ rfl) w

theorem mulP_pure (a b : List Int) (h0 : (Byt a)) (h1 : (Byt b)) : PureC Try.prog 32 [.g [.ints .u8 32 a], .g [.ints .u8 32 b]] [.g [.ints .u8 32 (mulP a b)]] :=
 PureC.of_body tabOkNT Try.func32 rfl rfl fun w => mulP_body a b h0 h1 w

def gam17 : Gam := gpure 32 (fun args => match args with | [.o (.g [.ints .u8 (32 : Nat) a]), .o (.g [.ints .u8 (32 : Nat) b])] => some (some ((Byt a) ∧ (Byt b)), [.g [.ints .u8 (32 : Nat) (mulP a b)]]) | _ => none) gam16
theorem gam17_ok : GamOk Try.prog gam17 := gpure_ok gam16_ok Try.call32 (by
 intro args vc xs h hv
 split at h
 ·simp only [Option.some.injEq, Prod.mk.injEq] at h; obtain ⟨rfl, rfl⟩ := h; exact ⟨_, by rfl, mulP_pure _ _ hv.1 hv.2⟩
 ·simp at h)

def iszP (a : List Int) : Bool :=
 (decide ((W4 (modL (BV a))) = ([0, 0, 0, 0] : List Int)))

theorem iszP_body0 (a : List Int) (h0 : (Byt a)) (hv0 : List.length a = 32) (w : World) : Body Try.prog (tabOf tabNT) Try.f36 ⟨w, [], 0, noEnv⟩ (toA [.g [.ints .u8 32 a]]) [] (fun ys _ => ys = [.a (.b (iszP a))]) :=
 Body.of_fin (Γ := gam17) (Λ := noLam) (Ψ := noPsi) (fuel := 0) (m := 7) (c := (Try.f36.body.getD .skip)) mix tabOkNT gam17_ok rfl (rs := [.tmp 2]) rfl rfl [] []
  (vc := [(Byt a)]) (by kernel_rfl)
  (aC (by first | assumption | exact wds_W4 _ | exact wds_ord | exact byt_B32 _ | exact wds_radx | exact wds_one) (AllP_nil))

theorem iszP_body (a : List Int) (h0 : (Byt a)) (w : World) : Body Try.prog (tabOf tabNT) Try.f36 ⟨w, [], 0, noEnv⟩ (toA [.g [.ints .u8 32 a]]) [] (fun ys _ => ys = [.a (.b (iszP a))]) :=
 Body.lens (c := (Try.f36.body.getD .skip)) rfl fun h => iszP_body0 a h0 (h.vals 0 _ _ _ rfl) w

theorem iszP_pure (a : List Int) (h0 : (Byt a)) : PureC Try.prog 36 [.g [.ints .u8 32 a]] [.a (.b (iszP a))] :=
 PureC.of_body tabOkNT Try.func36 rfl rfl fun w => iszP_body a h0 w

def gam19 : Gam := gpure 36 (fun args => match args with | [.o (.g [.ints .u8 (32 : Nat) a])] => some (some ((Byt a)), [.a (.b (iszP a))]) | _ => none) gam17
theorem gam19_ok : GamOk Try.prog gam19 := gpure_ok gam17_ok Try.call36 (by
 intro args vc xs h hv
 split at h
 ·simp only [Option.some.injEq, Prod.mk.injEq] at h; obtain ⟨rfl, rfl⟩ := h; exact ⟨_, by rfl, iszP_pure _ hv⟩
 ·simp at h)

def fromP (n : Int) : List Int :=
 (B32 (V4 ([n, 0, 0, 0] : List Int)))

theorem fromP_body0 (n : Int) (h0 : ((0 : Int) ≤ n)) (h1 : (n < (18446744073709551616 : Int))) (w : World) : Body Try.prog (tabOf tabNT) Try.f22 ⟨w, [], 0, noEnv⟩ (toA [.a (.i .u64 n)]) [] (fun ys _ => ys = [.g [.ints .u8 32 (fromP n)]]) :=
 Body.of_fin (Γ := gam19) (Λ := noLam) (Ψ := noPsi) (fuel := 0) (m := 6) (c := (Try.f22.body.getD .skip)) mix tabOkNT gam19_ok rfl (rs := [.cell 2 24]) rfl rfl [] []
  (vc := [(Wds ([n, 0, 0, 0] : List Int))]) (by kernel_rfl)
  (aC (wds_one1 h0 h1) (AllP_nil))

theorem fromP_body (n : Int) (h0 : ((0 : Int) ≤ n)) (h1 : (n < (18446744073709551616 : Int))) (w : World) : Body Try.prog (tabOf tabNT) Try.f22 ⟨w, [], 0, noEnv⟩ (toA [.a (.i .u64 n)]) [] (fun ys _ => ys = [.g [.ints .u8 32 (fromP n)]]) :=
 Body.lens (c := (Try.f22.body.getD .skip)) rfl fun h => fromP_body0 n h0 h1  w

theorem fromP_pure (n : Int) (h0 : ((0 : Int) ≤ n)) (h1 : (n < (18446744073709551616 : Int))) : PureC Try.prog 22 [.a (.i .u64 n)] [.g [.ints .u8 32 (fromP n)]] :=
 PureC.of_body tabOkNT Try.func22 rfl rfl fun w => fromP_body n h0 h1 w

def gam20 : Gam := gpure 22 (fun args => match args with | [.o (.a (.i .u64 n))] => some (some (((0 : Int) ≤ n) ∧ (n < (18446744073709551616 : Int))), [.g [.ints .u8 (32 : Nat) (fromP n)]]) | _ => none) gam19
theorem gam20_ok : GamOk Try.prog gam20 := gpure_ok gam19_ok Try.call22 (by
 intro args vc xs h hv
 split at h
 ·simp only [Option.some.injEq, Prod.mk.injEq] at h; obtain ⟨rfl, rfl⟩ := h; exact ⟨_, by rfl, fromP_pure _ hv.1 hv.2⟩
 ·simp at h)

def canP (a : List Int) : Bool :=
 ((lessC (V4 (W4 (BV a))) (V4 ([6346243789798364141, 1503914060200516822, 0, 1152921504606846976] : List Int))) == (1 : Int))

theorem canP_body0 (a : List Int) (h0 : (Byt a)) (hv0 : List.length a = 32) (w : World) : Body Try.prog (tabOf tabNT) Try.f20 ⟨w, [], 0, noEnv⟩ (toA [.g [.ints .u8 32 a]]) [] (fun ys _ => ys = [.a (.b (canP a))]) :=
 Body.of_fin (Γ := gam20) (Λ := noLam) (Ψ := noPsi) (fuel := 0) (m := 14) (c := (Try.f20.body.getD .skip)) mix tabOkNT gam20_ok rfl (rs := [.tmp 2]) rfl rfl [] []
  (vc := [((Wds (W4 (BV a))) ∧ (Wds ([6346243789798364141, 1503914060200516822, 0, 1152921504606846976] : List Int))), (Byt a)]) (by kernel_rfl)
  (aC ⟨(by first | assumption | exact wds_W4 _ | exact wds_ord | exact byt_B32 _ | exact wds_radx | exact wds_one), (by first | assumption | exact wds_W4 _ | exact wds_ord | exact byt_B32 _ | exact wds_radx | exact wds_one)⟩ (aC (by first | assumption | exact wds_W4 _ | exact wds_ord | exact byt_B32 _ | exact wds_radx | exact wds_one) (AllP_nil)))

theorem canP_body (a : List Int) (h0 : (Byt a)) (w : World) : Body Try.prog (tabOf tabNT) Try.f20 ⟨w, [], 0, noEnv⟩ (toA [.g [.ints .u8 32 a]]) [] (fun ys _ => ys = [.a (.b (canP a))]) :=
 Body.lens (c := (Try.f20.body.getD .skip)) rfl fun h => canP_body0 a h0 (h.vals 0 _ _ _ rfl) w

theorem canP_pure (a : List Int) (h0 : (Byt a)) : PureC Try.prog 20 [.g [.ints .u8 32 a]] [.a (.b (canP a))] :=
 PureC.of_body tabOkNT Try.func20 rfl rfl fun w => canP_body a h0 w

def gam21 : Gam := gpure 20 (fun args => match args with | [.o (.g [.ints .u8 (32 : Nat) a])] => some (some ((Byt a)), [.a (.b (canP a))]) | _ => none) gam20
theorem gam21_ok : GamOk Try.prog gam21 := gpure_ok gam20_ok Try.call20 (by
 intro args vc xs h hv
 split at h
 ·simp only [Option.some.injEq, Prod.mk.injEq] at h; obtain ⟨rfl, rfl⟩ := h; exact ⟨_, by rfl, canP_pure _ hv⟩
 ·simp at h)

end Go.Proofs.Ytcpoldghkiiggaa.X

/- Printed by a tool of this session. -/
namespace Go.Proofs.Ytcpoldghkiiggaa.X
open Go Go.Proofs
set_option linter.unusedVariables false
set_option linter.unusedSimpArgs false
set_option maxRecDepth 100000
set_option maxHeartbeats 8000000
end Go.Proofs.Ytcpoldghkiiggaa.X

/- Texts of this session, put together (part 2). -/
/- Eight words of 32 bits: twice, difference, comparison. -/
namespace Go.Proofs.Ytcpoldghkiiggaa.X
open Go Go.Proofs
set_option linter.unusedVariables false

end Go.Proofs.Ytcpoldghkiiggaa.X

/- Division bit by bit, as the reference does it. -/
namespace Go.Proofs.Ytcpoldghkiiggaa.X
open Go Go.Proofs
set_option linter.unusedVariables false

end Go.Proofs.Ytcpoldghkiiggaa.X

/- Printed by a tool of this session. -/
namespace Go.Proofs.Ytcpoldghkiiggaa.X
open Go Go.Proofs
set_option linter.unusedVariables false
set_option linter.unusedSimpArgs false
set_option maxRecDepth 100000
set_option maxHeartbeats 8000000
end Go.Proofs.Ytcpoldghkiiggaa.X

/- Division bit by bit is division. -/
namespace Go.Proofs.Ytcpoldghkiiggaa.X
open Go Go.Proofs
set_option linter.unusedVariables false

end Go.Proofs.Ytcpoldghkiiggaa.X

/- Printed by a tool of this session. -/
namespace Go.Proofs.Ytcpoldghkiiggaa.X
open Go Go.Proofs
set_option linter.unusedVariables false
set_option linter.unusedSimpArgs false
set_option maxRecDepth 100000
set_option maxHeartbeats 8000000
end Go.Proofs.Ytcpoldghkiiggaa.X

/- The digits of 32 bytes. -/
namespace Go.Proofs.Ytcpoldghkiiggaa.X
open Go Go.Proofs
set_option linter.unusedVariables false

end Go.Proofs.Ytcpoldghkiiggaa.X

/- Printed by a tool of this session. -/
namespace Go.Proofs.Ytcpoldghkiiggaa.X
open Go Go.Proofs
set_option linter.unusedVariables false
set_option linter.unusedSimpArgs false
set_option maxRecDepth 100000
set_option maxHeartbeats 8000000
end Go.Proofs.Ytcpoldghkiiggaa.X

/- The value of 32 bytes, by the reference. -/
namespace Go.Proofs.Ytcpoldghkiiggaa.X
open Go Go.Proofs
set_option linter.unusedVariables false

end Go.Proofs.Ytcpoldghkiiggaa.X

/- Printed by a tool of this session. -/
namespace Go.Proofs.Ytcpoldghkiiggaa.X
open Go Go.Proofs
set_option linter.unusedVariables false
set_option linter.unusedSimpArgs false
set_option maxRecDepth 100000
set_option maxHeartbeats 8000000
end Go.Proofs.Ytcpoldghkiiggaa.X

/- What the functions compute, as numbers, on both sides. -/
namespace Go.Proofs.Ytcpoldghkiiggaa.X
open Go Go.Proofs
set_option linter.unusedVariables false

theorem modL_add (x y : Int) : modL (modL x + modL y) = modL (x + y) := (Int.add_emod x y LL).symm
theorem modL_mul (x y : Int) : modL (modL x * modL y) = modL (x * y) := (Int.mul_emod x y LL).symm
theorem low_add {x y : Int} (hx : 0 ≤ x ∧ x < LL) (hy : 0 ≤ y ∧ y < LL) : low (addR x y) = modL (x + y) := by
 have e : addR x y = x + y := by unfold addR; unfold LL at *; omega
 rw [e]; exact low_mod (by omega) (by omega)
theorem modL_b (v : Int) : 0 ≤ modL v ∧ modL v < LL := ⟨(modL_rng v).1, (modL_rng v).2.1⟩

theorem addP_eq (a b : List Int) : addP a b = B32 (modL (BV a + BV b)) := by
 unfold addP
 rw [V4_modL, V4_modL, low_add (modL_b _) (modL_b _), V4_modL, modL_add]

theorem negL_eq (v : Int) : negL (modL v) = modL (-v) := by
 unfold negL difR modL
 unfold LL
 split <;> omega
theorem negP_eq (a : List Int) : negP a = B32 (modL (-(BV a))) := by
 unfold negP
 rw [V4_modL, negL_eq, V4_modL]
theorem timesW (x y : Int) : times (W4 (modL x)) (W4 (modL y)) = W4 (modL (x * y)) := by
 unfold times
 rw [V4_modL, V4_modL, V4_mont, V4_radx, times_eq, modL_mul]
theorem mulP_eq (a b : List Int) : mulP a b = B32 (modL (BV a * BV b)) := by
 unfold mulP
 rw [timesW, V4_modL]
theorem W4_zero {v : Int} (h0 : 0 ≤ v) (h1 : v < 115792089237316195423570985008687907853269984665640564039457584007913129639936) : W4 v = [0, 0, 0, 0] ↔ v = 0 := by
 constructor
 ·intro h
  have := V4_W4 h0 h1
  rw [h] at this
  exact this.symm
 ·intro h; subst h; decide +kernel
end Go.Proofs.Ytcpoldghkiiggaa.X

/- Neg, Add of the reference and Compare of the program: bodies by numbers. -/
namespace Go.Proofs.Ytcpoldghkiiggaa.X
open Go Go.Proofs
set_option linter.unusedVariables false

theorem B32_0 : B32 0 = [0, 0, 0, 0, 0, 0, 0, 0, 0, 0, 0, 0, 0, 0, 0, 0, 0, 0, 0, 0, 0, 0, 0, 0, 0, 0, 0, 0, 0, 0, 0, 0] := by decide +kernel

def negI (x : Int) : Int := -x
end Go.Proofs.Ytcpoldghkiiggaa.X

/- Printed by a tool of this session. -/
namespace Go.Proofs.Ytcpoldghkiiggaa.X
open Go Go.Proofs
set_option linter.unusedVariables false
set_option linter.unusedSimpArgs false
set_option maxRecDepth 100000
set_option maxHeartbeats 8000000
end Go.Proofs.Ytcpoldghkiiggaa.X

/- Bytes back to numbers; Sub and Compare of the reference. -/
namespace Go.Proofs.Ytcpoldghkiiggaa.X
open Go Go.Proofs
set_option linter.unusedVariables false

theorem dd2 (a : Int) {b c : Int} (h : 0 ≤ b) : a / b / c = a / (b * c) := by first | exact Int.ediv_ediv_of_nonneg h | exact Int.ediv_ediv_eq_ediv_mul a h | exact Int.ediv_ediv h
theorem bytes8 (u : Int) : u % 256 + 256 * (u / 256 % 256) + 65536 * (u / 65536 % 256) + 16777216 * (u / 16777216 % 256) + 4294967296 * (u / 4294967296 % 256) + 1099511627776 * (u / 1099511627776 % 256) + 281474976710656 * (u / 281474976710656 % 256) + 72057594037927936 * (u / 72057594037927936 % 256) = u % 18446744073709551616 := by
 have q2 : u / 65536 = u / 256 / 256 := (dd2 u (b := 256) (c := 256) (by omega)).symm
 have q3 : u / 16777216 = u / 65536 / 256 := (dd2 u (b := 65536) (c := 256) (by omega)).symm
 have q4 : u / 4294967296 = u / 16777216 / 256 := (dd2 u (b := 16777216) (c := 256) (by omega)).symm
 have q5 : u / 1099511627776 = u / 4294967296 / 256 := (dd2 u (b := 4294967296) (c := 256) (by omega)).symm
 have q6 : u / 281474976710656 = u / 1099511627776 / 256 := (dd2 u (b := 1099511627776) (c := 256) (by omega)).symm
 have q7 : u / 72057594037927936 = u / 281474976710656 / 256 := (dd2 u (b := 281474976710656) (c := 256) (by omega)).symm
 have q8 : u / 18446744073709551616 = u / 72057594037927936 / 256 := (dd2 u (b := 72057594037927936) (c := 256) (by omega)).symm
 have e : u % 18446744073709551616 = u - 18446744073709551616 * (u / 18446744073709551616) := by omega
 rw [e]
 have q1 : u = u % 256 + 256 * (u / 256) := by omega
 generalize u / 256 = z1 at *
 generalize u / 65536 = z2 at *
 generalize u / 16777216 = z3 at *
 generalize u / 4294967296 = z4 at *
 generalize u / 1099511627776 = z5 at *
 generalize u / 281474976710656 = z6 at *
 generalize u / 72057594037927936 = z7 at *
 generalize u / 18446744073709551616 = z8 at *
 omega

theorem le8_B32 (v : Int) : le8 (B32 v) 0 = v % 18446744073709551616 ∧ le8 (B32 v) 8 = v / 18446744073709551616 % 18446744073709551616 ∧ le8 (B32 v) 16 = v / 340282366920938463463374607431768211456 % 18446744073709551616 ∧ le8 (B32 v) 24 = v / 6277101735386680763835789423207666416102355444464034512896 % 18446744073709551616 := by
 refine ⟨bytes8 v, ?_, ?_, ?_⟩
 ·rw [← bytes8]
  show (v / 18446744073709551616 % 256) + 256 * (v / 4722366482869645213696 % 256) + 65536 * (v / 1208925819614629174706176 % 256) + 16777216 * (v / 309485009821345068724781056 % 256) + 4294967296 * (v / 79228162514264337593543950336 % 256) + 1099511627776 * (v / 20282409603651670423947251286016 % 256) + 281474976710656 * (v / 5192296858534827628530496329220096 % 256) + 72057594037927936 * (v / 1329227995784915872903807060280344576 % 256) = _
  have d : ∀ c : Int, v / 18446744073709551616 / c = v / (18446744073709551616 * c) := fun c => dd2 v (by omega)
  simp only [d]
  rfl
 ·rw [← bytes8]
  show (v / 340282366920938463463374607431768211456 % 256) + 256 * (v / 87112285931760246646623899502532662132736 % 256) + 65536 * (v / 22300745198530623141535718272648361505980416 % 256) + 16777216 * (v / 5708990770823839524233143877797980545530986496 % 256) + 4294967296 * (v / 1461501637330902918203684832716283019655932542976 % 256) + 1099511627776 * (v / 374144419156711147060143317175368453031918731001856 % 256) + 281474976710656 * (v / 95780971304118053647396689196894323976171195136475136 % 256) + 72057594037927936 * (v / 24519928653854221733733552434404946937899825954937634816 % 256) = _
  have d : ∀ c : Int, v / 340282366920938463463374607431768211456 / c = v / (340282366920938463463374607431768211456 * c) := fun c => dd2 v (by omega)
  simp only [d]
  rfl
 ·rw [← bytes8]
  show (v / 6277101735386680763835789423207666416102355444464034512896 % 256) + 256 * (v / 1606938044258990275541962092341162602522202993782792835301376 % 256) + 65536 * (v / 411376139330301510538742295639337626245683966408394965837152256 % 256) + 16777216 * (v / 105312291668557186697918027683670432318895095400549111254310977536 % 256) + 4294967296 * (v / 26959946667150639794667015087019630673637144422540572481103610249216 % 256) + 1099511627776 * (v / 6901746346790563787434755862277025452451108972170386555162524223799296 % 256) + 281474976710656 * (v / 1766847064778384329583297500742918515827483896875618958121606201292619776 % 256) + 72057594037927936 * (v / 452312848583266388373324160190187140051835877600158453279131187530910662656 % 256) = _
  have d : ∀ c : Int, v / 6277101735386680763835789423207666416102355444464034512896 / c = v / (6277101735386680763835789423207666416102355444464034512896 * c) := fun c => dd2 v (by omega)
  simp only [d]
  rfl
theorem BV_B32 {v : Int} (h0 : 0 ≤ v) (h1 : v < 115792089237316195423570985008687907853269984665640564039457584007913129639936) : BV (B32 v) = v := by
 obtain ⟨e0, e1, e2, e3⟩ := le8_B32 v
 unfold BV
 rw [e0, e1, e2, e3]
 omega
end Go.Proofs.Ytcpoldghkiiggaa.X

/- The reference's product, digit by digit. -/
namespace Go.Proofs.Ytcpoldghkiiggaa.X
open Go Go.Proofs
set_option linter.unusedVariables false

end Go.Proofs.Ytcpoldghkiiggaa.X

/- Printed by a tool of this session. -/
namespace Go.Proofs.Ytcpoldghkiiggaa.X
open Go Go.Proofs
set_option linter.unusedVariables false
set_option linter.unusedSimpArgs false
set_option maxRecDepth 100000
set_option maxHeartbeats 8000000
end Go.Proofs.Ytcpoldghkiiggaa.X

/- The reference's product of two numbers is their product. -/
namespace Go.Proofs.Ytcpoldghkiiggaa.X
open Go Go.Proofs
set_option linter.unusedVariables false

end Go.Proofs.Ytcpoldghkiiggaa.X

/- The reference's product, as numbers. -/
namespace Go.Proofs.Ytcpoldghkiiggaa.X
open Go Go.Proofs
set_option linter.unusedVariables false

end Go.Proofs.Ytcpoldghkiiggaa.X

/- Printed by a tool of this session. -/
namespace Go.Proofs.Ytcpoldghkiiggaa.X
open Go Go.Proofs
set_option linter.unusedVariables false
set_option linter.unusedSimpArgs false
set_option maxRecDepth 100000
set_option maxHeartbeats 8000000
noncomputable def tabOM : List (Nat × TE) := [(24, ⟨.array 32 5, 32, 32, [.ints .u8 32 ([0, 0, 0, 0, 0, 0, 0, 0, 0, 0, 0, 0, 0, 0, 0, 0, 0, 0, 0, 0, 0, 0, 0, 0, 0, 0, 0, 0, 0, 0, 0, 0] : List Int)], true⟩)]
theorem tabOkOM : TabOk Try.prog (tabOf tabOM) := (tabOf_cons teNM_24 tabOf_nil)

theorem num_body0 (x : Int) (w : World) : Body Try.prog (tabOf tabOM) Try.f17 ⟨w, [], 0, noEnv⟩ (toA [.a (.i .i64 x)]) [] (fun ys _ => ys = [.a (.i .i64 x)]) :=
 Body.of_fin (Γ := gam21) (Λ := noLam) (Ψ := noPsi) (fuel := 0) (m := 4) (c := (Try.f17.body.getD .skip)) mix tabOkOM gam21_ok rfl (rs := [.tmp 2]) rfl rfl [] []
  (vc := []) (by kernel_rfl)
  (AllP_nil)

theorem num_body (x : Int) (w : World) : Body Try.prog (tabOf tabOM) Try.f17 ⟨w, [], 0, noEnv⟩ (toA [.a (.i .i64 x)]) [] (fun ys _ => ys = [.a (.i .i64 x)]) :=
 Body.lens (c := (Try.f17.body.getD .skip)) rfl fun h => num_body0 x  w

theorem num_pure (x : Int) : PureC Try.prog 17 [.a (.i .i64 x)] [.a (.i .i64 x)] :=
 PureC.of_body tabOkOM Try.func17 rfl rfl fun w => num_body x w

def gam38 : Gam := gpure 17 (fun args => match args with | [.o (.a (.i .i64 x))] => some (none, [.a (.i .i64 x)]) | _ => none) gam21
theorem gam38_ok : GamOk Try.prog gam38 := gpure_ok gam21_ok Try.call17 (by
 intro args vc xs h hv
 split at h
 ·simp only [Option.some.injEq, Prod.mk.injEq] at h; obtain ⟨rfl, rfl⟩ := h; exact ⟨_, by rfl, num_pure _⟩
 ·simp at h)

end Go.Proofs.Ytcpoldghkiiggaa.X

/- The program and the reference answer the same: sums, differences, opposites, products. -/
namespace Go.Proofs.Ytcpoldghkiiggaa.X
open Go Go.Proofs
set_option linter.unusedVariables false

end Go.Proofs.Ytcpoldghkiiggaa.X

/- Powers, as the program reckons them. -/
namespace Go.Proofs.Ytcpoldghkiiggaa.X
open Go Go.Proofs
set_option linter.unusedVariables false

def bitE (E : List Int) (k : Nat) : Int := bits2 .and .u64 (shr .u64 (List.getD E (Int.toNat (IntKind.i64.wrap (Int.tdiv ((255 : Int) - (k : Int)) (64 : Int)))) 0) (Int.tmod ((255 : Int) - (k : Int)) (64 : Int))) (1 : Int)
def rP (m r0 : Int) (E : List Int) : Nat → Int
 | 0 => r0
 | k + 1 => if bitE E k = 1 then montV (V4 (W4 (montV (V4 (W4 (rP m r0 E k))) (V4 (W4 (rP m r0 E k)))))) (V4 (W4 m)) else montV (V4 (W4 (rP m r0 E k))) (V4 (W4 (rP m r0 E k)))
theorem rP_a {m r0 : Int} {E : List Int} {k : Nat} (h : bitE E k = 1) : rP m r0 E (k + 1) = montV (V4 (W4 (montV (V4 (W4 (rP m r0 E k))) (V4 (W4 (rP m r0 E k)))))) (V4 (W4 m)) := by
 show (if _ then _ else _) = _
 rw [if_pos h]
theorem rP_b {m r0 : Int} {E : List Int} {k : Nat} (h : ¬ bitE E k = 1) : rP m r0 E (k + 1) = montV (V4 (W4 (rP m r0 E k))) (V4 (W4 (rP m r0 E k))) := by
 show (if _ then _ else _) = _
 rw [if_neg h]
theorem rP_ltl (m a b : Int) (E : List Int) : ∀ k, LtL (W4 (rP m (montV a b) E k))
 | 0 => ltl_mont a b
 | k + 1 => by
  by_cases h : bitE E k = 1
  ·rw [rP_a h]; exact ltl_mont _ _
  ·rw [rP_b h]; exact ltl_mont _ _
theorem qt {k : Nat} (h : k < 256) : IntKind.i64.wrap (Int.tdiv ((255 : Int) - (k : Int)) 64) = Int.tdiv ((255 : Int) - (k : Int)) 64 ∧ 0 ≤ Int.tdiv ((255 : Int) - (k : Int)) 64 ∧ Int.tdiv ((255 : Int) - (k : Int)) 64 < 4 ∧ 0 ≤ Int.tmod ((255 : Int) - (k : Int)) 64 := by
 rw [Int.tdiv_eq_ediv_of_nonneg (by omega), Int.tmod_eq_emod_of_nonneg (by omega)]
 exact ⟨wrapI (by omega) (by omega), by omega, by omega, by omega⟩
end Go.Proofs.Ytcpoldghkiiggaa.X

/- Printed by a tool of this session. -/
namespace Go.Proofs.Ytcpoldghkiiggaa.X
open Go Go.Proofs
set_option linter.unusedVariables false
set_option linter.unusedSimpArgs false
set_option maxRecDepth 100000
set_option maxHeartbeats 8000000
def pwL_mk (S E : List Int) (k : Nat) (s : Unit) : St := ⟨sparse 36 [(0, .o (.g [.ints .u64 4 S])), (1, .o (.g [.ints .u64 4 E])), (2, .o (.a (.p 0 0))), (3, .o (.a (.p 1 0))), (4, .o (.a (.p 2 0))), (5, .o (.a (.p 3 0))), (6, .o (.a (.p 4 0))), (7, .o (.a (.i .i64 ((255 : Int) - (k : Int))))), (8, .o (.g [.ints .u64 4 S])), (9, .o (.g [.ints .u64 4 ([11819153939886771969, 14991950615390032711, 14910419812499177061, 259310039853996605] : List Int)])), (10, .o (.g [.ints .u64 4 (W4 (montV (V4 S) (V4 ([11819153939886771969, 14991950615390032711, 14910419812499177061, 259310039853996605] : List Int))))])), (11, .o (.g [.ints .u64 4 ([1, 0, 0, 0] : List Int)])), (12, .o (.g [.ints .u64 4 ([11819153939886771969, 14991950615390032711, 14910419812499177061, 259310039853996605] : List Int)])), (13, .o (.g [.ints .u64 4 (W4 (montV (V4 ([1, 0, 0, 0] : List Int)) (V4 ([11819153939886771969, 14991950615390032711, 14910419812499177061, 259310039853996605] : List Int))))]))], [bT [.ints .u64 4 S], bT [.ints .u64 4 E], bT [.ints .u64 4 ([0, 0, 0, 0] : List Int)], bT [.ints .u64 4 (W4 (montV (V4 S) (V4 ([11819153939886771969, 14991950615390032711, 14910419812499177061, 259310039853996605] : List Int))))], bT [.ints .u64 4 (W4 (rP (montV (V4 S) (V4 ([11819153939886771969, 14991950615390032711, 14910419812499177061, 259310039853996605] : List Int))) (montV (V4 ([1, 0, 0, 0] : List Int)) (V4 ([11819153939886771969, 14991950615390032711, 14910419812499177061, 259310039853996605] : List Int))) E k))]]⟩

theorem pwL_round_0 (S E : List Int) (h0 : (Wds S)) (h1 : (Wds E)) (hv0 : S.length = 4) (hv1 : E.length = 4) (w : World) (k : Nat) (hk : k < 256) (s : Unit) (ha : bitE E k = 1) : Run Try.prog ⟨w, [], 0, noEnv⟩ (loopB Try.f100 0) (pwL_mk S E k s) (To ⟨w, [], 0, noEnv⟩ .normal (pwL_mk S E (k + 1) (moL_step k s))) := by
 have e0 : (W4 (montV (V4 (W4 (montV (V4 (W4 (rP (montV (V4 S) (V4 ([11819153939886771969, 14991950615390032711, 14910419812499177061, 259310039853996605] : List Int))) (montV (V4 ([1, 0, 0, 0] : List Int)) (V4 ([11819153939886771969, 14991950615390032711, 14910419812499177061, 259310039853996605] : List Int))) E k))) (V4 (W4 (rP (montV (V4 S) (V4 ([11819153939886771969, 14991950615390032711, 14910419812499177061, 259310039853996605] : List Int))) (montV (V4 ([1, 0, 0, 0] : List Int)) (V4 ([11819153939886771969, 14991950615390032711, 14910419812499177061, 259310039853996605] : List Int))) E k)))))) (V4 (W4 (montV (V4 S) (V4 ([11819153939886771969, 14991950615390032711, 14910419812499177061, 259310039853996605] : List Int))))))) = (W4 (rP (montV (V4 S) (V4 ([11819153939886771969, 14991950615390032711, 14910419812499177061, 259310039853996605] : List Int))) (montV (V4 ([1, 0, 0, 0] : List Int)) (V4 ([11819153939886771969, 14991950615390032711, 14910419812499177061, 259310039853996605] : List Int))) E (k + 1))) := (by first | (rw [wrapI (by omega) (by omega)]; omega) | (rw [rP_a ha]))
 have e1 : (IntKind.i64.wrap (((255 : Int) - ((k : Nat) : Int)) - (1 : Int))) = ((255 : Int) - (((k + (1 : Nat)) : Nat) : Int)) := (by first | (rw [wrapI (by omega) (by omega)]; omega) | (rw [rP_a ha]))
 have h := Run.of_outT (B := ⟨w, [], 0, noEnv⟩) (Λ := noLam) (Ψ := noPsi) (fuel := 0) (ora := [true, true]) (c := (loopB Try.f100 0)) (st := (pwL_mk S E k s)) (l := [.forget [0, 1, 2, 3, 4, 5, 6, 7, 8, 9, 10, 11, 12, 13] 5]) (s' := ⟨sparse 36 [(0, .o (.g [.ints .u64 4 S])), (1, .o (.g [.ints .u64 4 E])), (2, .o (.a (.p 0 0))), (3, .o (.a (.p 1 0))), (4, .o (.a (.p 2 0))), (5, .o (.a (.p 3 0))), (6, .o (.a (.p 4 0))), (7, .o (.a (.i .i64 (IntKind.i64.wrap (((255 : Int) - (k : Int)) - 1))))), (8, .o (.g [.ints .u64 4 S])), (9, .o (.g [.ints .u64 4 ([11819153939886771969, 14991950615390032711, 14910419812499177061, 259310039853996605] : List Int)])), (10, .o (.g [.ints .u64 4 (W4 (montV (V4 S) (V4 ([11819153939886771969, 14991950615390032711, 14910419812499177061, 259310039853996605] : List Int))))])), (11, .o (.g [.ints .u64 4 ([1, 0, 0, 0] : List Int)])), (12, .o (.g [.ints .u64 4 ([11819153939886771969, 14991950615390032711, 14910419812499177061, 259310039853996605] : List Int)])), (13, .o (.g [.ints .u64 4 (W4 (montV (V4 ([1, 0, 0, 0] : List Int)) (V4 ([11819153939886771969, 14991950615390032711, 14910419812499177061, 259310039853996605] : List Int))))]))], [bT [.ints .u64 4 S], bT [.ints .u64 4 E], bT [.ints .u64 4 ([0, 0, 0, 0] : List Int)], bT [.ints .u64 4 (W4 (montV (V4 S) (V4 ([11819153939886771969, 14991950615390032711, 14910419812499177061, 259310039853996605] : List Int))))], bT [.ints .u64 4 (W4 (montV (V4 (W4 (montV (V4 (W4 (rP (montV (V4 S) (V4 ([11819153939886771969, 14991950615390032711, 14910419812499177061, 259310039853996605] : List Int))) (montV (V4 ([1, 0, 0, 0] : List Int)) (V4 ([11819153939886771969, 14991950615390032711, 14910419812499177061, 259310039853996605] : List Int))) E k))) (V4 (W4 (rP (montV (V4 S) (V4 ([11819153939886771969, 14991950615390032711, 14910419812499177061, 259310039853996605] : List Int))) (montV (V4 ([1, 0, 0, 0] : List Int)) (V4 ([11819153939886771969, 14991950615390032711, 14910419812499177061, 259310039853996605] : List Int))) E k)))))) (V4 (W4 (montV (V4 S) (V4 ([11819153939886771969, 14991950615390032711, 14910419812499177061, 259310039853996605] : List Int)))))))]]⟩) (ex := .normal) mix tabOkNG gam38_ok
  (vc := [((Wds (W4 (montV (V4 (W4 (rP (montV (V4 S) (V4 ([11819153939886771969, 14991950615390032711, 14910419812499177061, 259310039853996605] : List Int))) (montV (V4 ([1, 0, 0, 0] : List Int)) (V4 ([11819153939886771969, 14991950615390032711, 14910419812499177061, 259310039853996605] : List Int))) E k))) (V4 (W4 (rP (montV (V4 S) (V4 ([11819153939886771969, 14991950615390032711, 14910419812499177061, 259310039853996605] : List Int))) (montV (V4 ([1, 0, 0, 0] : List Int)) (V4 ([11819153939886771969, 14991950615390032711, 14910419812499177061, 259310039853996605] : List Int))) E k)))))) ∧ (Wds (W4 (montV (V4 S) (V4 ([11819153939886771969, 14991950615390032711, 14910419812499177061, 259310039853996605] : List Int))))) ∧ (LtL (W4 (montV (V4 S) (V4 ([11819153939886771969, 14991950615390032711, 14910419812499177061, 259310039853996605] : List Int)))))), (((bits2 .and .u64 (shr .u64 (List.getD E (Int.toNat (IntKind.i64.wrap (Int.tdiv ((255 : Int) - (k : Int)) (64 : Int)))) 0) (Int.tmod ((255 : Int) - (k : Int)) (64 : Int))) (1 : Int)) == (1 : Int)) = true), ((0 : Int) ≤ (Int.tmod ((255 : Int) - (k : Int)) (64 : Int))), ((64 : Int) ≠ 0), ((Int.toNat (IntKind.i64.wrap (Int.tdiv ((255 : Int) - (k : Int)) (64 : Int)))) < 4), (((0 : Int) ≤ (IntKind.i64.wrap (Int.tdiv ((255 : Int) - (k : Int)) (64 : Int)))) ∧ ((IntKind.i64.wrap (Int.tdiv ((255 : Int) - (k : Int)) (64 : Int))) < 4)), ((64 : Int) ≠ 0), ((Wds (W4 (rP (montV (V4 S) (V4 ([11819153939886771969, 14991950615390032711, 14910419812499177061, 259310039853996605] : List Int))) (montV (V4 ([1, 0, 0, 0] : List Int)) (V4 ([11819153939886771969, 14991950615390032711, 14910419812499177061, 259310039853996605] : List Int))) E k))) ∧ (Wds (W4 (rP (montV (V4 S) (V4 ([11819153939886771969, 14991950615390032711, 14910419812499177061, 259310039853996605] : List Int))) (montV (V4 ([1, 0, 0, 0] : List Int)) (V4 ([11819153939886771969, 14991950615390032711, 14910419812499177061, 259310039853996605] : List Int))) E k))) ∧ (LtL (W4 (rP (montV (V4 S) (V4 ([11819153939886771969, 14991950615390032711, 14910419812499177061, 259310039853996605] : List Int))) (montV (V4 ([1, 0, 0, 0] : List Int)) (V4 ([11819153939886771969, 14991950615390032711, 14910419812499177061, 259310039853996605] : List Int))) E k)))), ((decide (((255 : Int) - (k : Int)) ≥ (0 : Int))) = true)]) (by kernel_rfl)
  (aC ⟨(wds_W4 _), (wds_W4 _), (ltl_mont _ _)⟩ (aC (beq_iff_eq.2 ha) (aC (by have q := qt hk; first | omega | exact q.2.2.2 | (rw [q.1]; omega) | (simp (disch := omega) only [wrapI]; omega)) (aC (dd rfl) (aC (by have q := qt hk; first | omega | exact q.2.2.2 | (rw [q.1]; omega) | (simp (disch := omega) only [wrapI]; omega)) (aC ⟨(by have q := qt hk; first | omega | exact q.2.2.2 | (rw [q.1]; omega) | (simp (disch := omega) only [wrapI]; omega)), (by have q := qt hk; first | omega | exact q.2.2.2 | (rw [q.1]; omega) | (simp (disch := omega) only [wrapI]; omega))⟩ (aC (dd rfl) (aC ⟨(wds_W4 _), (wds_W4 _), (rP_ltl _ _ _ _ _)⟩ (aC (dt (by have q := qt hk; first | omega | exact q.2.2.2 | (rw [q.1]; omega) | (simp (disch := omega) only [wrapI]; omega))) (AllP_nil))))))))))
 rw [e0, e1] at h
 exact h

theorem pwL_round_1 (S E : List Int) (h0 : (Wds S)) (h1 : (Wds E)) (hv0 : S.length = 4) (hv1 : E.length = 4) (w : World) (k : Nat) (hk : k < 256) (s : Unit) (ha : ¬ bitE E k = 1) : Run Try.prog ⟨w, [], 0, noEnv⟩ (loopB Try.f100 0) (pwL_mk S E k s) (To ⟨w, [], 0, noEnv⟩ .normal (pwL_mk S E (k + 1) (moL_step k s))) := by
 have e0 : (W4 (montV (V4 (W4 (rP (montV (V4 S) (V4 ([11819153939886771969, 14991950615390032711, 14910419812499177061, 259310039853996605] : List Int))) (montV (V4 ([1, 0, 0, 0] : List Int)) (V4 ([11819153939886771969, 14991950615390032711, 14910419812499177061, 259310039853996605] : List Int))) E k))) (V4 (W4 (rP (montV (V4 S) (V4 ([11819153939886771969, 14991950615390032711, 14910419812499177061, 259310039853996605] : List Int))) (montV (V4 ([1, 0, 0, 0] : List Int)) (V4 ([11819153939886771969, 14991950615390032711, 14910419812499177061, 259310039853996605] : List Int))) E k))))) = (W4 (rP (montV (V4 S) (V4 ([11819153939886771969, 14991950615390032711, 14910419812499177061, 259310039853996605] : List Int))) (montV (V4 ([1, 0, 0, 0] : List Int)) (V4 ([11819153939886771969, 14991950615390032711, 14910419812499177061, 259310039853996605] : List Int))) E (k + 1))) := (by first | (rw [wrapI (by omega) (by omega)]; omega) | (rw [rP_b ha]))
 have e1 : (IntKind.i64.wrap (((255 : Int) - ((k : Nat) : Int)) - (1 : Int))) = ((255 : Int) - (((k + (1 : Nat)) : Nat) : Int)) := (by first | (rw [wrapI (by omega) (by omega)]; omega) | (rw [rP_b ha]))
 have h := Run.of_outT (B := ⟨w, [], 0, noEnv⟩) (Λ := noLam) (Ψ := noPsi) (fuel := 0) (ora := [true, false]) (c := (loopB Try.f100 0)) (st := (pwL_mk S E k s)) (l := [.forget [0, 1, 2, 3, 4, 5, 6, 7, 8, 9, 10, 11, 12, 13] 5]) (s' := ⟨sparse 36 [(0, .o (.g [.ints .u64 4 S])), (1, .o (.g [.ints .u64 4 E])), (2, .o (.a (.p 0 0))), (3, .o (.a (.p 1 0))), (4, .o (.a (.p 2 0))), (5, .o (.a (.p 3 0))), (6, .o (.a (.p 4 0))), (7, .o (.a (.i .i64 (IntKind.i64.wrap (((255 : Int) - (k : Int)) - 1))))), (8, .o (.g [.ints .u64 4 S])), (9, .o (.g [.ints .u64 4 ([11819153939886771969, 14991950615390032711, 14910419812499177061, 259310039853996605] : List Int)])), (10, .o (.g [.ints .u64 4 (W4 (montV (V4 S) (V4 ([11819153939886771969, 14991950615390032711, 14910419812499177061, 259310039853996605] : List Int))))])), (11, .o (.g [.ints .u64 4 ([1, 0, 0, 0] : List Int)])), (12, .o (.g [.ints .u64 4 ([11819153939886771969, 14991950615390032711, 14910419812499177061, 259310039853996605] : List Int)])), (13, .o (.g [.ints .u64 4 (W4 (montV (V4 ([1, 0, 0, 0] : List Int)) (V4 ([11819153939886771969, 14991950615390032711, 14910419812499177061, 259310039853996605] : List Int))))]))], [bT [.ints .u64 4 S], bT [.ints .u64 4 E], bT [.ints .u64 4 ([0, 0, 0, 0] : List Int)], bT [.ints .u64 4 (W4 (montV (V4 S) (V4 ([11819153939886771969, 14991950615390032711, 14910419812499177061, 259310039853996605] : List Int))))], bT [.ints .u64 4 (W4 (montV (V4 (W4 (rP (montV (V4 S) (V4 ([11819153939886771969, 14991950615390032711, 14910419812499177061, 259310039853996605] : List Int))) (montV (V4 ([1, 0, 0, 0] : List Int)) (V4 ([11819153939886771969, 14991950615390032711, 14910419812499177061, 259310039853996605] : List Int))) E k))) (V4 (W4 (rP (montV (V4 S) (V4 ([11819153939886771969, 14991950615390032711, 14910419812499177061, 259310039853996605] : List Int))) (montV (V4 ([1, 0, 0, 0] : List Int)) (V4 ([11819153939886771969, 14991950615390032711, 14910419812499177061, 259310039853996605] : List Int))) E k)))))]]⟩) (ex := .normal) mix tabOkNG gam38_ok
  (vc := [(((bits2 .and .u64 (shr .u64 (List.getD E (Int.toNat (IntKind.i64.wrap (Int.tdiv ((255 : Int) - (k : Int)) (64 : Int)))) 0) (Int.tmod ((255 : Int) - (k : Int)) (64 : Int))) (1 : Int)) == (1 : Int)) = false), ((0 : Int) ≤ (Int.tmod ((255 : Int) - (k : Int)) (64 : Int))), ((64 : Int) ≠ 0), ((Int.toNat (IntKind.i64.wrap (Int.tdiv ((255 : Int) - (k : Int)) (64 : Int)))) < 4), (((0 : Int) ≤ (IntKind.i64.wrap (Int.tdiv ((255 : Int) - (k : Int)) (64 : Int)))) ∧ ((IntKind.i64.wrap (Int.tdiv ((255 : Int) - (k : Int)) (64 : Int))) < 4)), ((64 : Int) ≠ 0), ((Wds (W4 (rP (montV (V4 S) (V4 ([11819153939886771969, 14991950615390032711, 14910419812499177061, 259310039853996605] : List Int))) (montV (V4 ([1, 0, 0, 0] : List Int)) (V4 ([11819153939886771969, 14991950615390032711, 14910419812499177061, 259310039853996605] : List Int))) E k))) ∧ (Wds (W4 (rP (montV (V4 S) (V4 ([11819153939886771969, 14991950615390032711, 14910419812499177061, 259310039853996605] : List Int))) (montV (V4 ([1, 0, 0, 0] : List Int)) (V4 ([11819153939886771969, 14991950615390032711, 14910419812499177061, 259310039853996605] : List Int))) E k))) ∧ (LtL (W4 (rP (montV (V4 S) (V4 ([11819153939886771969, 14991950615390032711, 14910419812499177061, 259310039853996605] : List Int))) (montV (V4 ([1, 0, 0, 0] : List Int)) (V4 ([11819153939886771969, 14991950615390032711, 14910419812499177061, 259310039853996605] : List Int))) E k)))), ((decide (((255 : Int) - (k : Int)) ≥ (0 : Int))) = true)]) (by kernel_rfl)
  (aC (beq_eq_false_iff_ne.2 ha) (aC (by have q := qt hk; first | omega | exact q.2.2.2 | (rw [q.1]; omega) | (simp (disch := omega) only [wrapI]; omega)) (aC (dd rfl) (aC (by have q := qt hk; first | omega | exact q.2.2.2 | (rw [q.1]; omega) | (simp (disch := omega) only [wrapI]; omega)) (aC ⟨(by have q := qt hk; first | omega | exact q.2.2.2 | (rw [q.1]; omega) | (simp (disch := omega) only [wrapI]; omega)), (by have q := qt hk; first | omega | exact q.2.2.2 | (rw [q.1]; omega) | (simp (disch := omega) only [wrapI]; omega))⟩ (aC (dd rfl) (aC ⟨(wds_W4 _), (wds_W4 _), (rP_ltl _ _ _ _ _)⟩ (aC (dt (by have q := qt hk; first | omega | exact q.2.2.2 | (rw [q.1]; omega) | (simp (disch := omega) only [wrapI]; omega))) (AllP_nil)))))))))
 rw [e0, e1] at h
 exact h

theorem pwL_round (S E : List Int) (h0 : (Wds S)) (h1 : (Wds E)) (hv0 : S.length = 4) (hv1 : E.length = 4) (w : World) (k : Nat) (hk : k < 256) (s : Unit) : Run Try.prog ⟨w, [], 0, noEnv⟩ (loopB Try.f100 0) (pwL_mk S E k s) (To ⟨w, [], 0, noEnv⟩ .normal (pwL_mk S E (k + 1) (moL_step k s))) := by
 by_cases ha : bitE E k = 1
 ·exact pwL_round_0 S E h0 h1 hv0 hv1 w k hk s ha
 ·exact pwL_round_1 S E h0 h1 hv0 hv1 w k hk s ha

theorem pwL_last (S E : List Int) (h0 : (Wds S)) (h1 : (Wds E)) (hv0 : S.length = 4) (hv1 : E.length = 4) (w : World) (s : Unit) : Run Try.prog ⟨w, [], 0, noEnv⟩ (loopB Try.f100 0) (pwL_mk S E 256 s) (To ⟨w, [], 0, noEnv⟩ (.exit 0) (pwL_mk S E 256 s)) :=
 Run.of_outT (Λ := noLam) (Ψ := noPsi) (fuel := 0) (ora := [false]) (l := [.forget [0, 1, 2, 3, 4, 5, 6, 7, 8, 9, 10, 11, 12, 13] 5]) mix tabOkNG gam38_ok
  (vc := [(false = false)]) (by kernel_rfl)
  (aC rfl (AllP_nil))

theorem pwL_loop (S E : List Int) (h0 : (Wds S)) (h1 : (Wds E)) (hv0 : S.length = 4) (hv1 : E.length = 4) (w : World) (s : Unit) : Run Try.prog ⟨w, [], 0, noEnv⟩ (.block 0 (.loop (loopB Try.f100 0))) (pwL_mk S E 0 s) (To ⟨w, [], 0, noEnv⟩ .normal (pwL_mk S E 256 (iter (moL_step) 256 s))) :=
 Run.count (fun k => pwL_mk S E k (iter (moL_step) k s)) 256 (fun k hk => pwL_round S E h0 h1 hv0 hv1 w k hk _) (ex := (.exit 0)) (by simp) (pwL_last S E h0 h1 hv0 hv1 w _)

def powA (S E : List Int) : List Int :=
 (W4 (montV (V4 (W4 (rP (montV (V4 S) (V4 ([11819153939886771969, 14991950615390032711, 14910419812499177061, 259310039853996605] : List Int))) (montV (V4 ([1, 0, 0, 0] : List Int)) (V4 ([11819153939886771969, 14991950615390032711, 14910419812499177061, 259310039853996605] : List Int))) E 256))) (V4 ([1, 0, 0, 0] : List Int))))

theorem powA_body0 (S E : List Int) (h0 : (Wds S)) (h1 : (Wds E)) (hv0 : S.length = 4) (hv1 : E.length = 4) (w : World) : Body Try.prog (tabOf tabNG) Try.f100 ⟨w, [], 0, noEnv⟩ (toA [.g [.ints .u64 4 S], .g [.ints .u64 4 E]]) [] (fun ys _ => ys = [.g [.ints .u64 4 (powA S E)]]) :=
 Body.of_fin (Γ := gam38) (Λ := lamOf [(0, ⟨[.forget [0, 1, 2, 3, 4, 5, 6, 7, 8, 9, 10, 11, 12, 13] 5], .normal, (pwL_mk S E 256 (iter (moL_step) 256 ()))⟩)]) (Ψ := noPsi) (fuel := 0) (m := 36) (c := (Try.f100.body.getD .skip)) mix tabOkNG gam38_ok rfl (rs := [.cell 4 104]) rfl rfl [] []
  (vc := [((Wds (W4 (rP (montV (V4 S) (V4 ([11819153939886771969, 14991950615390032711, 14910419812499177061, 259310039853996605] : List Int))) (montV (V4 ([1, 0, 0, 0] : List Int)) (V4 ([11819153939886771969, 14991950615390032711, 14910419812499177061, 259310039853996605] : List Int))) E 256))) ∧ (Wds ([1, 0, 0, 0] : List Int)) ∧ (LtL ([1, 0, 0, 0] : List Int))), (Run Try.prog ⟨w, [], 0, noEnv⟩ (.block 0 (.loop (loopB Try.f100 0))) (pwL_mk S E 0 ()) (To ⟨w, [], 0, noEnv⟩ .normal (pwL_mk S E 256 (iter (moL_step) 256 ())))), ((Wds ([1, 0, 0, 0] : List Int)) ∧ (Wds ([11819153939886771969, 14991950615390032711, 14910419812499177061, 259310039853996605] : List Int)) ∧ (LtL ([11819153939886771969, 14991950615390032711, 14910419812499177061, 259310039853996605] : List Int))), ((Wds S) ∧ (Wds ([11819153939886771969, 14991950615390032711, 14910419812499177061, 259310039853996605] : List Int)) ∧ (LtL ([11819153939886771969, 14991950615390032711, 14910419812499177061, 259310039853996605] : List Int)))]) (by kernel_rfl)
  (aC ⟨(wds_W4 _), wds_one, ltl_one⟩ (aC (pwL_loop S E h0 h1 hv0 hv1 w ()) (aC ⟨wds_one, wds_radx, ltl_radx⟩ (aC ⟨(by assumption), wds_radx, ltl_radx⟩ (AllP_nil)))))

theorem powA_body (S E : List Int) (h0 : (Wds S)) (h1 : (Wds E)) (w : World) : Body Try.prog (tabOf tabNG) Try.f100 ⟨w, [], 0, noEnv⟩ (toA [.g [.ints .u64 4 S], .g [.ints .u64 4 E]]) [] (fun ys _ => ys = [.g [.ints .u64 4 (powA S E)]]) :=
 Body.lens (c := (Try.f100.body.getD .skip)) rfl fun h => powA_body0 S E h0 h1 (h.vals 0 _ _ _ rfl) (h.vals 1 _ _ _ rfl) w

end Go.Proofs.Ytcpoldghkiiggaa.X

/- A power's words. -/
namespace Go.Proofs.Ytcpoldghkiiggaa.X
open Go Go.Proofs
theorem wds_pow (S E : List Int) : Wds (powA S E) := by unfold powA; exact wds_W4 _
end Go.Proofs.Ytcpoldghkiiggaa.X

/- Printed by a tool of this session. -/
namespace Go.Proofs.Ytcpoldghkiiggaa.X
open Go Go.Proofs
set_option linter.unusedVariables false
set_option linter.unusedSimpArgs false
set_option maxRecDepth 100000
set_option maxHeartbeats 8000000
theorem powA_pure (S E : List Int) (h0 : (Wds S)) (h1 : (Wds E)) : PureC Try.prog 100 [.g [.ints .u64 4 S], .g [.ints .u64 4 E]] [.g [.ints .u64 4 (powA S E)]] :=
 PureC.of_body tabOkNG Try.func100 rfl rfl fun w => powA_body S E h0 h1 w

def gam39 : Gam := gpure 100 (fun args => match args with | [.o (.g [.ints .u64 (4 : Nat) S]), .o (.g [.ints .u64 (4 : Nat) E])] => some (some ((Wds S) ∧ (Wds E)), [.g [.ints .u64 (4 : Nat) (powA S E)]]) | _ => none) gam38
theorem gam39_ok : GamOk Try.prog gam39 := gpure_ok gam38_ok Try.call100 (by
 intro args vc xs h hv
 split at h
 ·simp only [Option.some.injEq, Prod.mk.injEq] at h; obtain ⟨rfl, rfl⟩ := h; exact ⟨_, by rfl, powA_pure _ _ hv.1 hv.2⟩
 ·simp at h)

theorem invA_body0 (a : List Int) (h0 : (Byt a)) (hv0 : a.length = 32) (hc : W4 (modL (BV a)) = [0, 0, 0, 0]) (w : World) : Body Try.prog (tabOf tabNM) Try.f40 ⟨w, [], 0, noEnv⟩ (toA [.g [.ints .u8 32 a]]) [] (fun ys _ => ys = [.g [.ints .u8 32 ([0, 0, 0, 0, 0, 0, 0, 0, 0, 0, 0, 0, 0, 0, 0, 0, 0, 0, 0, 0, 0, 0, 0, 0, 0, 0, 0, 0, 0, 0, 0, 0] : List Int)], .a (.i .i64 9)]) :=
 Body.of_fin (Γ := gam39) (Λ := noLam) (Ψ := noPsi) (fuel := 0) (m := 23) (c := (Try.f40.body.getD .skip)) mix tabOkNM gam39_ok rfl (rs := [.cell 2 24, .tmp 3]) rfl rfl [true] []
  (vc := [((decide ((W4 (modL (BV a))) = ([0, 0, 0, 0] : List Int))) = true), (Byt a)]) (by kernel_rfl)
  (aC (decide_eq_true hc) (aC (by assumption) (AllP_nil)))

def invB (a : List Int) : List Int :=
 (B32 (V4 (powA (W4 (modL (BV a))) (W4 (difR (V4 ([6346243789798364141, 1503914060200516822, 0, 1152921504606846976] : List Int)) (V4 ([2, 0, 0, 0] : List Int)))))))

theorem invB_body0 (a : List Int) (h0 : (Byt a)) (hv0 : a.length = 32) (hc : W4 (modL (BV a)) ≠ [0, 0, 0, 0]) (w : World) : Body Try.prog (tabOf tabNM) Try.f40 ⟨w, [], 0, noEnv⟩ (toA [.g [.ints .u8 32 a]]) [] (fun ys _ => ys = [.g [.ints .u8 32 (invB a)], .a (.i .i64 0)]) :=
 Body.of_fin (Γ := gam39) (Λ := noLam) (Ψ := noPsi) (fuel := 0) (m := 23) (c := (Try.f40.body.getD .skip)) mix tabOkNM gam39_ok rfl (rs := [.cell 2 24, .tmp 3]) rfl rfl [false] []
  (vc := [(Wds (powA (W4 (modL (BV a))) (W4 (difR (V4 ([6346243789798364141, 1503914060200516822, 0, 1152921504606846976] : List Int)) (V4 ([2, 0, 0, 0] : List Int)))))), ((Wds (W4 (modL (BV a)))) ∧ (Wds (W4 (difR (V4 ([6346243789798364141, 1503914060200516822, 0, 1152921504606846976] : List Int)) (V4 ([2, 0, 0, 0] : List Int)))))), ((Wds ([6346243789798364141, 1503914060200516822, 0, 1152921504606846976] : List Int)) ∧ (Wds ([2, 0, 0, 0] : List Int))), ((decide ((W4 (modL (BV a))) = ([0, 0, 0, 0] : List Int))) = false), (Byt a)]) (by kernel_rfl)
  (aC (wds_pow _ _) (aC ⟨(wds_W4 _), (wds_W4 _)⟩ (aC ⟨(wds_four (by omega) (by omega) (by omega) (by omega)), (wds_four (by omega) (by omega) (by omega) (by omega))⟩ (aC (decide_eq_false hc) (aC (by assumption) (AllP_nil))))))

end Go.Proofs.Ytcpoldghkiiggaa.X

/- Invert, in one form. -/
namespace Go.Proofs.Ytcpoldghkiiggaa.X
open Go Go.Proofs
set_option linter.unusedVariables false

def invL (a : List Int) : List Int := if W4 (modL (BV a)) = [0, 0, 0, 0] then [0, 0, 0, 0, 0, 0, 0, 0, 0, 0, 0, 0, 0, 0, 0, 0, 0, 0, 0, 0, 0, 0, 0, 0, 0, 0, 0, 0, 0, 0, 0, 0] else invB a
def invE (a : List Int) : Int := if W4 (modL (BV a)) = [0, 0, 0, 0] then 9 else 0

theorem inv_can (a : List Int) (h0 : Byt a) (w : World) : Body Try.prog (tabOf tabNM) Try.f40 ⟨w, [], 0, noEnv⟩ (toA [.g [.ints .u8 32 a]]) [] (fun ys _ => ys = [.g [.ints .u8 32 (invL a)], .a (.i .i64 (invE a))]) :=
 Body.lens (c := (Try.f40.body.getD .skip)) rfl fun h => by
  have hl := h.vals 0 _ _ _ rfl
  by_cases hc : W4 (modL (BV a)) = [0, 0, 0, 0]
  ·refine (invA_body0 a h0 hl hc w).mono fun xs K hx => ?_
   subst hx
   have e1 : invL a = [0, 0, 0, 0, 0, 0, 0, 0, 0, 0, 0, 0, 0, 0, 0, 0, 0, 0, 0, 0, 0, 0, 0, 0, 0, 0, 0, 0, 0, 0, 0, 0] := by unfold invL; rw [if_pos hc]
   have e2 : invE a = 9 := by unfold invE; rw [if_pos hc]
   rw [e1, e2]
  ·refine (invB_body0 a h0 hl hc w).mono fun xs K hx => ?_
   subst hx
   have e1 : invL a = invB a := by unfold invL; rw [if_neg hc]
   have e2 : invE a = 0 := by unfold invE; rw [if_neg hc]
   rw [e1, e2]
end Go.Proofs.Ytcpoldghkiiggaa.X

/- Small bytes. -/
namespace Go.Proofs.Ytcpoldghkiiggaa.X
open Go Go.Proofs
theorem byt_small {s : List Int} (h : (s.all fun x => decide (0 ≤ x ∧ x < 256)) = true) : Byt s := by
 intro x hx
 simpa using List.all_eq_true.1 h x hx
end Go.Proofs.Ytcpoldghkiiggaa.X

/- Printed by a tool of this session. -/
namespace Go.Proofs.Ytcpoldghkiiggaa.X
open Go Go.Proofs
set_option linter.unusedVariables false
set_option linter.unusedSimpArgs false
set_option maxRecDepth 100000
set_option maxHeartbeats 8000000
theorem teOV_22 : TEOk Try.prog 22 ⟨.slice 5, 1, 24, [.raw (.slice none 0 0)], false⟩ :=
 TEOk.of Try.underlying22 (i := Try.t22) (by kernel_rfl) rfl rfl rfl (by kernel_rfl) (fun h => by cases h) (by kernel_rfl)
noncomputable def tabOV : List (Nat × TE) := [(5, ⟨.int .u8, 1, 1, [.i .u8 0], false⟩), (22, ⟨.slice 5, 1, 24, [nlA], false⟩), (24, ⟨.array 32 5, 32, 32, [.ints .u8 32 ([0, 0, 0, 0, 0, 0, 0, 0, 0, 0, 0, 0, 0, 0, 0, 0, 0, 0, 0, 0, 0, 0, 0, 0, 0, 0, 0, 0, 0, 0, 0, 0] : List Int)], true⟩)]
theorem tabOkOV : TabOk Try.prog (tabOf tabOV) := (tabOf_cons teNM_5 (tabOf_cons teOV_22 (tabOf_cons teNM_24 tabOf_nil)))

theorem invA_pure (a : List Int) (h0 : (Byt a)) : PureC Try.prog 40 [.g [.ints .u8 32 a]] [.g [.ints .u8 32 (invL a)], .a (.i .i64 (invE a))] :=
 PureC.of_body tabOkNM Try.func40 rfl rfl fun w => inv_can a h0 w

def gam40 : Gam := gpure 40 (fun args => match args with | [.o (.g [.ints .u8 (32 : Nat) a])] => some (some ((Byt a)), [.g [.ints .u8 (32 : Nat) (invL a)], .a (.i .i64 (invE a))]) | _ => none) gam39
theorem gam40_ok : GamOk Try.prog gam40 := gpure_ok gam39_ok Try.call40 (by
 intro args vc xs h hv
 split at h
 ·simp only [Option.some.injEq, Prod.mk.injEq] at h; obtain ⟨rfl, rfl⟩ := h; exact ⟨_, by rfl, invA_pure _ hv⟩
 ·simp at h)

def decZ (b : List Int) : List Int :=
 (sub b 0 32)

theorem decZ_body0 (b : List Int) (cp : Nat) (h0 : (Byt (sub b 0 32))) (h1 : ((canP (sub b 0 32)) = true)) (hl0_0 : b.length = 32) (w : World) (rw : List Nat) (β : Env) : Body Try.prog (tabOf tabOV) Try.f15 ⟨w, rw, 1, β⟩ [.o (.a (.sl 0 0 32 cp))] [bF [.ints .u8 32 b]] (fun ys K' => ys = [.g [.ints .u8 32 (decZ b)], .a (.i .i64 0)] ∧ K' = [bF [.ints .u8 32 b]]) :=
 Body.of_finK (Γ := gam40) (Λ := noLam) (Ψ := noPsi) (fuel := 0) (m := 17) (c := (Try.f15.body.getD .skip)) mix tabOkOV gam40_ok rfl (rs := [.cell 2 24, .tmp 3]) rfl rfl [false, false] [] 1
  (vc := [((!(canP (sub b 0 (32 : Nat)))) = false), (Byt (sub b 0 (32 : Nat))), ((32 : Nat) ≤ (32 : Nat)), ((32 : Nat) ≤ (32 : Nat)), (false = false)]) (by kernel_rfl)
  (aC (by rw [h1]; rfl) (aC (by assumption) (aC (by decide) (aC (by decide) (aC rfl (AllP_nil))))))

theorem decZ_body (b : List Int) (cp : Nat) (h0 : (Byt (sub b 0 32))) (h1 : ((canP (sub b 0 32)) = true)) (w : World) (rw : List Nat) (β : Env) : Body Try.prog (tabOf tabOV) Try.f15 ⟨w, rw, 1, β⟩ [.o (.a (.sl 0 0 32 cp))] [bF [.ints .u8 32 b]] (fun ys K' => ys = [.g [.ints .u8 32 (decZ b)], .a (.i .i64 0)] ∧ K' = [bF [.ints .u8 32 b]]) :=
 Body.lens (c := (Try.f15.body.getD .skip)) rfl fun h => decZ_body0 b cp h0 h1 (h.lens 0 _ .u8 32 b rfl (by simp)) w rw β

def gam41 : Gam := gcall 15 [false] [.w] (fun wk vs args => match wk, vs, args with | [⟨false, [.ints .u8 32 b]⟩], [], [.o (.a (.sl 0 0 32 cp))] => some ((Byt (sub b 0 32)) ∧ ((canP (sub b 0 32)) = true), [.g [.ints .u8 32 (decZ b)], .a (.i .i64 0)], [bF [.ints .u8 32 b]]) | _, _, _ => none) gam40
theorem gam41_ok : GamOk Try.prog gam41 := gcall_ok tabOkOV Try.func15 gam40_ok Try.call15 (by
 intro wk vs args p xs K1 h hv
 split at h
 ·simp only [Option.some.injEq, Prod.mk.injEq] at h; obtain ⟨rfl, rfl, rfl⟩ := h; obtain ⟨g0, g1⟩ := hv; exact fun caps w rw β => decZ_body _ _ g0 g1 w rw β
 ·simp at h)

theorem works_body0 (w : World) : Body Try.prog (tabOf tabOV) Try.f25 ⟨w, [], 0, noEnv⟩ (toA []) [] (fun ys _ => ys = [.a (.b true)]) :=
 Body.of_fin (Γ := gam41) (Λ := noLam) (Ψ := noPsi) (fuel := 0) (m := 60) (c := (Try.f25.body.getD .skip)) mix tabOkOV gam41_ok rfl (rs := [.tmp 0]) rfl rfl [true, true, true, true, true, true, true, true, true, true, true, true, true, true, true, true, true, true, true, true, true, true, true, true, true, true, true] [.eqS 0 (.o (.a (.b true)))]
  (vc := (let p0_ : Prop := ((decide ((decZ (List.replicate 32 (0 : Int))) = ([0, 0, 0, 0, 0, 0, 0, 0, 0, 0, 0, 0, 0, 0, 0, 0, 0, 0, 0, 0, 0, 0, 0, 0, 0, 0, 0, 0, 0, 0, 0, 0] : List Int))) = true); let p1_ : Prop := (Byt ([1, 0, 0, 0, 0, 0, 0, 0, 0, 0, 0, 0, 0, 0, 0, 0, 0, 0, 0, 0, 0, 0, 0, 0, 0, 0, 0, 0, 0, 0, 0, 0] : List Int)); let p2_ : Prop := (((invE ([0, 0, 0, 0, 0, 0, 0, 0, 0, 0, 0, 0, 0, 0, 0, 0, 0, 0, 0, 0, 0, 0, 0, 0, 0, 0, 0, 0, 0, 0, 0, 0] : List Int)) == (9 : Int)) = true); let p3_ : Prop := ((decide ((invL ([1, 0, 0, 0, 0, 0, 0, 0, 0, 0, 0, 0, 0, 0, 0, 0, 0, 0, 0, 0, 0, 0, 0, 0, 0, 0, 0, 0, 0, 0, 0, 0] : List Int)) = ([1, 0, 0, 0, 0, 0, 0, 0, 0, 0, 0, 0, 0, 0, 0, 0, 0, 0, 0, 0, 0, 0, 0, 0, 0, 0, 0, 0, 0, 0, 0, 0] : List Int))) = true); let p4_ : Prop := (((invE ([1, 0, 0, 0, 0, 0, 0, 0, 0, 0, 0, 0, 0, 0, 0, 0, 0, 0, 0, 0, 0, 0, 0, 0, 0, 0, 0, 0, 0, 0, 0, 0] : List Int)) == (0 : Int)) = true); let p5_ : Prop := ((decide ((mulP ([3, 0, 0, 0, 0, 0, 0, 0, 0, 0, 0, 0, 0, 0, 0, 0, 0, 0, 0, 0, 0, 0, 0, 0, 0, 0, 0, 0, 0, 0, 0, 0] : List Int) ([5, 0, 0, 0, 0, 0, 0, 0, 0, 0, 0, 0, 0, 0, 0, 0, 0, 0, 0, 0, 0, 0, 0, 0, 0, 0, 0, 0, 0, 0, 0, 0] : List Int)) = ([15, 0, 0, 0, 0, 0, 0, 0, 0, 0, 0, 0, 0, 0, 0, 0, 0, 0, 0, 0, 0, 0, 0, 0, 0, 0, 0, 0, 0, 0, 0, 0] : List Int))) = true); [((.o (.a (.b (decide ((addP (negP ([1, 0, 0, 0, 0, 0, 0, 0, 0, 0, 0, 0, 0, 0, 0, 0, 0, 0, 0, 0, 0, 0, 0, 0, 0, 0, 0, 0, 0, 0, 0, 0] : List Int)) ([2, 0, 0, 0, 0, 0, 0, 0, 0, 0, 0, 0, 0, 0, 0, 0, 0, 0, 0, 0, 0, 0, 0, 0, 0, 0, 0, 0, 0, 0, 0, 0] : List Int)) = ([1, 0, 0, 0, 0, 0, 0, 0, 0, 0, 0, 0, 0, 0, 0, 0, 0, 0, 0, 0, 0, 0, 0, 0, 0, 0, 0, 0, 0, 0, 0, 0] : List Int))))) : AV) = .o (.a (.b true))), p0_, p0_, p0_, ((Byt (negP ([1, 0, 0, 0, 0, 0, 0, 0, 0, 0, 0, 0, 0, 0, 0, 0, 0, 0, 0, 0, 0, 0, 0, 0, 0, 0, 0, 0, 0, 0, 0, 0] : List Int))) ∧ (Byt ([2, 0, 0, 0, 0, 0, 0, 0, 0, 0, 0, 0, 0, 0, 0, 0, 0, 0, 0, 0, 0, 0, 0, 0, 0, 0, 0, 0, 0, 0, 0, 0] : List Int))), p0_, p0_, p1_, p0_, p0_, cT, cT, cT, cT, p2_, p2_, p2_, p2_, p3_, p3_, p3_, p3_, p4_, p4_, p4_, p4_, p5_, p5_, p5_, p5_, ((Byt ([3, 0, 0, 0, 0, 0, 0, 0, 0, 0, 0, 0, 0, 0, 0, 0, 0, 0, 0, 0, 0, 0, 0, 0, 0, 0, 0, 0, 0, 0, 0, 0] : List Int)) ∧ (Byt ([5, 0, 0, 0, 0, 0, 0, 0, 0, 0, 0, 0, 0, 0, 0, 0, 0, 0, 0, 0, 0, 0, 0, 0, 0, 0, 0, 0, 0, 0, 0, 0] : List Int))), ((True ∧ True) ∧ ((Byt (sub (List.replicate 32 (0 : Int)) 0 32)) ∧ ((canP (sub (List.replicate 32 (0 : Int)) 0 32)) = true))), ((cZ 32) ∧ ((32 : Int) ≤ 32) ∧ ((32 : Int) ≤ 281474976710656)), (Byt ([0, 0, 0, 0, 0, 0, 0, 0, 0, 0, 0, 0, 0, 0, 0, 0, 0, 0, 0, 0, 0, 0, 0, 0, 0, 0, 0, 0, 0, 0, 0, 0] : List Int)), p1_])) (by kernel_rfl)
  (aC ((congrArg (fun z => AV.o (.a (.b z))) (by decide +kernel))) (aC (by decide +kernel) (aC (by decide +kernel) (aC (by decide +kernel) (aC ⟨(byt_small (by decide +kernel)), (byt_small (by decide +kernel))⟩ (aC (by decide +kernel) (aC (by decide +kernel) (aC (byt_small (by decide +kernel)) (aC (by decide +kernel) (aC (by decide +kernel) (aC rfl (aC rfl (aC rfl (aC rfl (aC (by decide +kernel) (aC (by decide +kernel) (aC (by decide +kernel) (aC (by decide +kernel) (aC (by decide +kernel) (aC (by decide +kernel) (aC (by decide +kernel) (aC (by decide +kernel) (aC (by decide +kernel) (aC (by decide +kernel) (aC (by decide +kernel) (aC (by decide +kernel) (aC (by decide +kernel) (aC (by decide +kernel) (aC (by decide +kernel) (aC (by decide +kernel) (aC ⟨(byt_small (by decide +kernel)), (byt_small (by decide +kernel))⟩ (aC ⟨⟨trivial, trivial⟩, ⟨(byt_small (by decide +kernel)), (by decide +kernel)⟩⟩ (aC ⟨(dd rfl), (dd rfl), (dd rfl)⟩ (aC (byt_small (by decide +kernel)) (aC (byt_small (by decide +kernel)) (AllP_nil))))))))))))))))))))))))))))))))))))

theorem works_body (w : World) : Body Try.prog (tabOf tabOV) Try.f25 ⟨w, [], 0, noEnv⟩ (toA []) [] (fun ys _ => ys = [.a (.b true)]) :=
 Body.lens (c := (Try.f25.body.getD .skip)) rfl fun h => works_body0  w

theorem works_pure : PureC Try.prog 25 [] [.a (.b true)] :=
 PureC.of_body tabOkOV Try.func25 rfl rfl fun w => works_body w

def gam42 : Gam := gpure 25 (fun args => match args with | [] => some (none, [.a (.b true)]) | _ => none) gam41
theorem gam42_ok : GamOk Try.prog gam42 := gpure_ok gam41_ok Try.call25 (by
 intro args vc xs h hv
 split at h
 ·simp only [Option.some.injEq, Prod.mk.injEq] at h; obtain ⟨rfl, rfl⟩ := h; exact ⟨_, by rfl, works_pure⟩
 ·simp at h)

end Go.Proofs.Ytcpoldghkiiggaa.X

/- Primes: Fermat's little theorem, and Pocklington's test. -/
namespace Go.Proofs.Ytcpoldghkiiggaa.X
set_option linter.unusedVariables false

def Prm (p : Nat) : Prop := 2 ≤ p ∧ ∀ d, d ∣ p → d = 1 ∨ d = p

theorem prm_dvd : ∀ n : Nat, 2 ≤ n → ∃ p, Prm p ∧ p ∣ n := by
 intro n
 induction n using Nat.strongRecOn with
 | _ n ih =>
  intro h
  by_cases hp : Prm n
  ·exact ⟨n, hp, Nat.dvd_refl n⟩
  ·have : ∃ d, d ∣ n ∧ d ≠ 1 ∧ d ≠ n := by
    apply Classical.byContradiction
    intro hn
    exact hp ⟨h, fun d hd => Classical.byContradiction fun hc => hn ⟨d, hd, fun e => hc (.inl e), fun e => hc (.inr e)⟩⟩
   obtain ⟨d, hd, h1, h2⟩ := this
   have hle := Nat.le_of_dvd (by omega) hd
   have h0 : d ≠ 0 := by rintro rfl; have := Nat.eq_zero_of_zero_dvd hd; omega
   obtain ⟨p, hp, hpd⟩ := ih d (by omega) (by omega)
   exact ⟨p, hp, Nat.dvd_trans hpd hd⟩

theorem prm_mul {p a b : Nat} (hp : Prm p) (h : p ∣ a * b) : p ∣ a ∨ p ∣ b := by
 rcases hp.2 (Nat.gcd p a) (Nat.gcd_dvd_left p a) with hg | hg
 ·exact .inr ((show Nat.Coprime p a from hg).dvd_of_dvd_mul_left h)
 ·exact .inl (hg ▸ Nat.gcd_dvd_right p a)
def chs : Nat → Nat → Nat
 | _, 0 => 1
 | 0, _ + 1 => 0
 | n + 1, k + 1 => chs n k + chs n (k + 1)
theorem chs_0 : ∀ n, chs n 0 = 1
 | 0 => rfl
 | _ + 1 => rfl
theorem chs_s (n k : Nat) : chs (n + 1) (k + 1) = chs n k + chs n (k + 1) := rfl
theorem chs_gt : ∀ n k, n < k → chs n k = 0
 | 0, k + 1, _ => rfl
 | n + 1, k + 1, h => by rw [chs_s, chs_gt n k (by omega), chs_gt n (k + 1) (by omega)]
theorem chs_n : ∀ n, chs n n = 1
 | 0 => rfl
 | n + 1 => by rw [chs_s, chs_n n, chs_gt n (n + 1) (by omega)]
theorem chs_mul : ∀ n k, (k + 1) * chs (n + 1) (k + 1) = (n + 1) * chs n k
 | 0, 0 => rfl
 | 0, k + 1 => by rw [chs_gt 1 (k + 1 + 1) (by omega), chs_gt 0 (k + 1) (by omega), Nat.mul_zero, Nat.mul_zero]
 | n + 1, 0 => by
  have := chs_mul n 0
  rw [chs_0 n] at this
  rw [chs_s (n + 1) 0, chs_0 (n + 1)]
  omega
 | n + 1, k + 1 => by
  have h1 := chs_mul n k
  have h2 := chs_mul n (k + 1)
  rw [chs_s (n + 1) (k + 1)]
  have e : (k + 1 + 1) * (chs (n + 1) (k + 1) + chs (n + 1) (k + 1 + 1)) = (k + 1) * chs (n + 1) (k + 1) + chs (n + 1) (k + 1) + (k + 1 + 1) * chs (n + 1) (k + 1 + 1) := by
   rw [Nat.mul_add, Nat.add_mul (k + 1) 1]; omega
  rw [e, h1, h2, chs_s n k]
  generalize chs n k = u
  generalize chs n (k + 1) = v
  rw [Nat.add_mul (n + 1) 1, Nat.mul_add]; omega
def bsum (n a : Nat) : Nat → Nat
 | 0 => 0
 | m + 1 => bsum n a m + chs n m * a ^ m
theorem bsum_s (n a : Nat) : ∀ m, bsum (n + 1) a (m + 1) = bsum n a (m + 1) + a * bsum n a m
 | 0 => by simp [bsum, chs_0]
 | m + 1 => by
  show bsum (n + 1) a (m + 1) + chs (n + 1) (m + 1) * a ^ (m + 1) = bsum n a (m + 1) + chs n (m + 1) * a ^ (m + 1) + a * (bsum n a m + chs n m * a ^ m)
  rw [bsum_s n a m, chs_s, Nat.add_mul, Nat.mul_add, Nat.pow_succ]
  have : a * (chs n m * a ^ m) = chs n m * (a ^ m * a) := by rw [Nat.mul_left_comm, Nat.mul_comm a]
  omega
theorem bsum_eq (a : Nat) : ∀ n, bsum n a (n + 1) = (a + 1) ^ n
 | 0 => by simp [bsum, chs]
 | n + 1 => by
  rw [bsum_s, Nat.pow_succ, ← bsum_eq a n]
  have : bsum n a (n + 1 + 1) = bsum n a (n + 1) := by
   show bsum n a (n + 1) + chs n (n + 1) * a ^ (n + 1) = _
   rw [chs_gt n (n + 1) (by omega)]; omega
  rw [this, Nat.mul_add, Nat.mul_one, Nat.mul_comm a]; omega
theorem chs_dvd {p k : Nat} (hp : Prm p) (h0 : 0 < k) (h1 : k < p) : p ∣ chs p k := by
 obtain ⟨n, rfl⟩ : ∃ n, p = n + 1 := ⟨p - 1, by omega⟩
 obtain ⟨j, rfl⟩ : ∃ j, k = j + 1 := ⟨k - 1, by omega⟩
 have h := chs_mul n j
 rcases prm_mul hp (show n + 1 ∣ (j + 1) * chs (n + 1) (j + 1) from ⟨_, h⟩) with h | h
 ·have := Nat.le_of_dvd (by omega) h; omega
 ·exact h
theorem bsum_mod {p : Nat} (hp : Prm p) (a : Nat) : ∀ m, m < p → bsum p a (m + 1) % p = 1 % p
 | 0, _ => by simp [bsum, chs_0]
 | m + 1, h => by
  show (bsum p a (m + 1) + chs p (m + 1) * a ^ (m + 1)) % p = _
  obtain ⟨c, hc⟩ := chs_dvd hp (k := m + 1) (by omega) h
  rw [hc, Nat.mul_assoc, Nat.add_mul_mod_self_left, bsum_mod hp a m (by omega)]
theorem frob {p : Nat} (hp : Prm p) (a : Nat) : (a + 1) ^ p % p = (a ^ p + 1) % p := by
 have h := bsum_eq a p
 have h1 : bsum p a (p + 1) = bsum p a p + chs p p * a ^ p := rfl
 rw [← h, h1, chs_n, Nat.one_mul]
 obtain ⟨n, hn⟩ : ∃ n, p = n + 1 := ⟨p - 1, by have := hp.1; omega⟩
 have h2 := bsum_mod hp a n (by omega)
 rw [← hn] at h2
 rw [Nat.add_mod, h2, ← Nat.add_mod, Nat.add_comm]
theorem flt0 {p : Nat} (hp : Prm p) : ∀ a, a ^ p % p = a % p
 | 0 => by rw [Nat.zero_pow (by have := hp.1; omega)]
 | a + 1 => by rw [frob hp a, Nat.add_mod, flt0 hp a, ← Nat.add_mod]
theorem sub_dvd {p a b : Nat} (h : a % p = b % p) (hab : b ≤ a) : p ∣ a - b := Nat.dvd_of_mod_eq_zero (Nat.sub_mod_eq_zero_of_mod_eq h)
theorem flt {p : Nat} (hp : Prm p) {a : Nat} (h : ¬ p ∣ a) : a ^ (p - 1) % p = 1 := by
 have h1 := flt0 hp a
 have h2 := hp.1
 have ha : 0 < a := by rcases Nat.eq_zero_or_pos a with rfl | h'; exact absurd (Nat.dvd_zero p) h; exact h'
 have e : a ^ p = a * a ^ (p - 1) := by conv => lhs; rw [show p = (p - 1) + 1 by omega, Nat.pow_succ, Nat.mul_comm]
 have hpos : 0 < a ^ (p - 1) := Nat.pow_pos ha
 rw [e] at h1
 have h3 : p ∣ a * a ^ (p - 1) - a := sub_dvd h1 (Nat.le_mul_of_pos_right a hpos)
 have h4 : a * a ^ (p - 1) - a = a * (a ^ (p - 1) - 1) := by rw [Nat.mul_sub, Nat.mul_one]
 rw [h4] at h3
 rcases prm_mul hp h3 with h5 | h5
 ·exact absurd h5 h
 ·obtain ⟨c, hc⟩ := h5
  have : a ^ (p - 1) = 1 + p * c := by omega
  rw [this, Nat.add_mul_mod_self_left]
  exact Nat.mod_eq_of_lt h2

theorem pow_mod1 {p b m : Nat} (h : b ^ m % p = 1 % p) (k : Nat) : b ^ (m * k) % p = 1 % p := by
 rw [Nat.pow_mul, Nat.pow_mod, h]
 rw [← Nat.pow_mod, Nat.one_pow]
theorem pow_gcd {p b : Nat} (m n : Nat) : b ^ m % p = 1 % p → b ^ n % p = 1 % p → b ^ Nat.gcd m n % p = 1 % p := by
 induction m, n using Nat.gcd.induction with
 | H0 n => intro _ h; rw [Nat.gcd_zero_left]; exact h
 | H1 m n hm ih =>
  intro h1 h2
  rw [Nat.gcd_rec]
  refine ih ?_ h1
  have e : b ^ n = b ^ (m * (n / m)) * b ^ (n % m) := by rw [← Nat.pow_add, Nat.div_add_mod]
  rw [e, Nat.mul_mod, pow_mod1 h1, ← Nat.mul_mod, Nat.one_mul] at h2
  exact h2

theorem pock_q {N q r a p : Nat} (hq : Prm q) (hN : N - 1 = q * r) (h1 : a ^ (N - 1) % N = 1 % N) (hg : Nat.gcd (a ^ r % N + (N - 1)) N = 1) (hN0 : 0 < N) (hp : Prm p) (hpN : p ∣ N) : q ∣ p - 1 := by
 have hb : a ^ (N - 1) % p = 1 % p := by
  rw [← Nat.mod_mod_of_dvd _ hpN, h1, Nat.mod_mod_of_dvd _ hpN]
 have hb2 : (a ^ r) ^ q % p = 1 % p := by rw [← Nat.pow_mul, Nat.mul_comm, ← hN]; exact hb
 have hp2 := hp.1
 have hnd : ¬ p ∣ a ^ r := by
  intro hd
  have hq2 := hq.1
  have : p ∣ (a ^ r) ^ q := by
   rw [show q = (q - 1) + 1 by omega, Nat.pow_succ]
   exact Nat.dvd_trans hd (Nat.dvd_mul_left _ _)
  rw [Nat.mod_eq_zero_of_dvd this, Nat.mod_eq_of_lt hp2] at hb2
  exact absurd hb2 (by decide)
 have hf := flt hp hnd
 have hf' : (a ^ r) ^ (p - 1) % p = 1 % p := by rw [hf, Nat.mod_eq_of_lt hp2]
 have hgc := pow_gcd q (p - 1) hb2 hf'
 rcases hq.2 _ (Nat.gcd_dvd_left q (p - 1)) with h | h
 ·exfalso
  rw [h, Nat.pow_one] at hgc
  have : p ∣ a ^ r % N + (N - 1) := by
   apply Nat.dvd_of_mod_eq_zero
   rw [Nat.add_mod, Nat.mod_mod_of_dvd _ hpN, hgc, ← Nat.add_mod, Nat.add_comm, Nat.sub_add_cancel hN0]
   exact Nat.mod_eq_zero_of_dvd hpN
  have h3 := Nat.dvd_gcd this hpN
  rw [hg] at h3
  have := Nat.le_of_dvd (by omega) h3
  omega
 ·exact h ▸ Nat.gcd_dvd_right q (p - 1)
theorem prm_of_big {N F : Nat} (hN : 2 ≤ N) (hF : N < (F + 1) * (F + 1)) (h : ∀ p, Prm p → p ∣ N → F ∣ p - 1) : Prm N := by
 refine ⟨hN, fun d hd => ?_⟩
 apply Classical.byContradiction
 intro hc
 have big : ∀ d, d ∣ N → d ≠ 1 → F + 1 ≤ d := by
  intro d hd h1
  have hd0 : d ≠ 0 := by rintro rfl; have := Nat.eq_zero_of_zero_dvd hd; omega
  obtain ⟨p, hp, hpd⟩ := prm_dvd d (by omega)
  have := Nat.le_of_dvd (by have := hp.1; omega) (h p hp (Nat.dvd_trans hpd hd))
  have := Nat.le_of_dvd (by omega) hpd
  have := hp.1
  omega
 obtain ⟨e, he⟩ := hd
 have h1 := big d ⟨e, he⟩ (fun h => hc (.inl h))
 have h2 := big e ⟨d, by rw [he, Nat.mul_comm]⟩ (fun h => hc (.inr (by rw [he, h, Nat.mul_one])))
 have := Nat.mul_le_mul h1 h2
 omega
theorem pock1 {N q r a : Nat} (hN2 : 2 ≤ N) (hq : Prm q) (hN : N - 1 = q * r) (h1 : a ^ (N - 1) % N = 1 % N) (hg : Nat.gcd (a ^ r % N + (N - 1)) N = 1) (hF : N < (q + 1) * (q + 1)) : Prm N :=
 prm_of_big hN2 hF fun p hp hpN => pock_q hq hN h1 hg (by omega) hp hpN

def pwm (N : Nat) : Nat → Nat → Nat → Nat
 | 0, _, _ => 1 % N
 | f + 1, a, e => if e % 2 = 1 then a * pwm N f (a * a % N) (e / 2) % N else pwm N f (a * a % N) (e / 2)
theorem pwm_eq (N : Nat) : ∀ f a e, e < 2 ^ f → pwm N f a e = a ^ e % N
  | 0, a, e, h => by have : e = 0 := by rw [Nat.pow_zero] at h; omega
                     subst this; rfl
  | f + 1, a, e, h => by
    have ih := pwm_eq N f (a * a % N) (e / 2) (by rw [Nat.pow_succ] at h; omega)
    have e2 : (a * a % N) ^ (e / 2) % N = a ^ (2 * (e / 2)) % N := by rw [← Nat.pow_mod, Nat.pow_mul, Nat.pow_two]
    show (if e % 2 = 1 then _ else _) = _
    split
    · rename_i h1
      rw [ih, e2, Nat.mul_mod, Nat.mod_mod, ← Nat.mul_mod]
      rw [Nat.mul_comm a, ← Nat.pow_succ]
      rw [show (2 * (e / 2)).succ = e by omega]
    · rw [ih, e2, show 2 * (e / 2) = e by omega]
def noDiv (n : Nat) : Nat → Nat → Bool
 | 0, d => decide (n < d * d)
 | f + 1, d => decide (n < d * d) || (n % d != 0 && noDiv n f (d + 1))
theorem noDiv_ok {n : Nat} : ∀ f d, noDiv n f d = true → (∀ e, 2 ≤ e → e < d → ¬ e ∣ n) → ∀ e, 2 ≤ e → e * e ≤ n → ¬ e ∣ n
 | 0, d, h, hp, e, h2, hle => by
  have h := of_decide_eq_true h
  refine hp e h2 (Nat.lt_of_not_le fun hc => ?_)
  have := Nat.mul_le_mul hc hc; omega
 | f + 1, d, h, hp, e, h2, hle => by
  simp only [noDiv, Bool.or_eq_true, decide_eq_true_eq, Bool.and_eq_true, bne_iff_ne, ne_eq] at h
  rcases h with h | ⟨h, h'⟩
  ·refine hp e h2 (Nat.lt_of_not_le fun hc => ?_)
   have := Nat.mul_le_mul hc hc; omega
  ·refine noDiv_ok f (d + 1) h' (fun x hx hx1 => ?_) e h2 hle
   by_cases hxd : x = d
   ·subst hxd; exact fun hd => h (Nat.mod_eq_zero_of_dvd hd)
   ·exact hp x hx (by omega)
theorem prm_small {n f : Nat} (h2 : 2 ≤ n) (h : noDiv n f 2 = true) : Prm n := by
 have key := noDiv_ok f 2 h (fun e h h' => by omega)
 refine ⟨h2, fun d hd => Classical.byContradiction fun hc => ?_⟩
 obtain ⟨e, he⟩ := hd
 have hd0 : d ≠ 0 := by rintro rfl; omega
 have he0 : e ≠ 0 := by rintro rfl; omega
 have hd1 : d ≠ 1 := fun h => hc (.inl h)
 have he1 : e ≠ 1 := fun h => hc (.inr (by rw [he, h, Nat.mul_one]))
 by_cases hle : d ≤ e
 ·exact key d (by omega) (by rw [he]; exact Nat.mul_le_mul_left d hle) ⟨e, he⟩
 ·exact key e (by omega) (by rw [he]; exact Nat.mul_le_mul_right e (by omega)) ⟨d, by rw [he, Nat.mul_comm]⟩
theorem cert1 {N q r a f : Nat} (hq : Prm q) (hN2 : (decide (2 ≤ N) && (N - 1 == q * r) && decide (N - 1 < 2 ^ f) && (pwm N f a (N - 1) == 1) && (Nat.gcd (pwm N f a r + (N - 1)) N == 1) && decide (N < (q + 1) * (q + 1))) = true) : Prm N := by
 simp only [Bool.and_eq_true, decide_eq_true_eq, beq_iff_eq] at hN2
 obtain ⟨⟨⟨⟨⟨h1, h2⟩, h3⟩, h4⟩, h5⟩, h6⟩ := hN2
 have hr : r < 2 ^ f := by
  have : r ≤ q * r := Nat.le_mul_of_pos_left r (by have := hq.1; omega)
  omega
 rw [pwm_eq N f a _ h3] at h4
 rw [pwm_eq N f a _ hr] at h5
 exact pock1 h1 hq h2 (by rw [h4, Nat.mod_eq_of_lt (by omega)]) h5 h6
theorem prm_cop {p q : Nat} (hp : Prm p) (hq : Prm q) (h : p ≠ q) : Nat.Coprime p q := by
 rcases hp.2 _ (Nat.gcd_dvd_left p q) with hg | hg
 ·exact hg
 ·exfalso
  have hd : p ∣ q := hg ▸ Nat.gcd_dvd_right p q
  rcases hq.2 p hd with h1 | h1
  ·have := hp.1; omega
  ·exact h h1
theorem cert2 {N q r s t a f : Nat} (hq : Prm q) (hs : Prm s) (hN2 : (decide (2 ≤ N) && (N - 1 == q * r) && decide (N - 1 < 2 ^ f) && (pwm N f a (N - 1) == 1) && (Nat.gcd (pwm N f a r + (N - 1)) N == 1) && decide (N < (q * s + 1) * (q * s + 1)) && (N - 1 == s * t) && (Nat.gcd (pwm N f a t + (N - 1)) N == 1) && (q != s)) = true) : Prm N := by
 simp only [Bool.and_eq_true, decide_eq_true_eq, beq_iff_eq, bne_iff_ne, ne_eq] at hN2
 obtain ⟨⟨⟨⟨⟨⟨⟨⟨h1, h2⟩, h3⟩, h4⟩, h5⟩, h6⟩, h7⟩, h8⟩, h9⟩ := hN2
 have hr : r < 2 ^ f := by
  have : r ≤ q * r := Nat.le_mul_of_pos_left r (by have := hq.1; omega)
  omega
 have ht : t < 2 ^ f := by
  have : t ≤ s * t := Nat.le_mul_of_pos_left t (by have := hs.1; omega)
  omega
 rw [pwm_eq N f a _ h3] at h4
 rw [pwm_eq N f a _ hr] at h5
 rw [pwm_eq N f a _ ht] at h8
 have h4' : a ^ (N - 1) % N = 1 % N := by rw [h4, Nat.mod_eq_of_lt (by omega)]
 exact prm_of_big h1 h6 fun p hp hpN => (prm_cop hq hs h9).mul_dvd_of_dvd_of_dvd (pock_q hq h2 h4' h5 (by omega) hp hpN) (pock_q hs h7 h4' h8 (by omega) hp hpN)
end Go.Proofs.Ytcpoldghkiiggaa.X

/- The order of the group is a prime number. -/
namespace Go.Proofs.Ytcpoldghkiiggaa.X
set_option linter.unusedVariables false
set_option maxRecDepth 100000
set_option maxHeartbeats 8000000

theorem prm_s531581 : Prm 531581 := prm_small (f := 732) (by decide) (by decide +kernel)
theorem prm_s1224481 : Prm 1224481 := prm_small (f := 1109) (by decide) (by decide +kernel)
theorem prm_5 : Prm 1257559732178653 := cert2 (q := 531581) (r := 2365697292) (s := 1224481) (t := 1027014492) (a := 2) (f := 51) prm_s531581 prm_s1224481 (by decide +kernel)
theorem prm_4 : Prm 4434155615661930479 := cert1 (q := 1257559732178653) (r := 3526) (a := 2) (f := 62) prm_5 (by decide +kernel)
theorem prm_3 : Prm 172054593956031949258510691 := cert1 (q := 4434155615661930479) (r := 38802110) (a := 2) (f := 88) prm_4 (by decide +kernel)
theorem prm_2 : Prm 19757330305831588566944191468367130476339 := cert1 (q := 172054593956031949258510691) (r := 114831751082918) (a := 2) (f := 134) prm_3 (by decide +kernel)
theorem prm_1 : Prm 276602624281642239937218680557139826668747 := cert1 (q := 19757330305831588566944191468367130476339) (r := 14) (a := 2) (f := 138) prm_2 (by decide +kernel)
theorem prm_0 : Prm 7237005577332262213973186563042994240857116359379907606001950938285454250989 := cert1 (q := 276602624281642239937218680557139826668747) (r := 26163907866482859529727157400808004) (a := 2) (f := 253) prm_1 (by decide +kernel)
theorem LL_toNat : LL.toNat = 7237005577332262213973186563042994240857116359379907606001950938285454250989 := by decide +kernel
theorem prm_L : Prm LL.toNat := by rw [LL_toNat]; exact prm_0
theorem fermat_L {x : Int} (h0 : 0 ≤ x) (h : x % LL ≠ 0) : x ^ (LL.toNat - 1) % LL = 1 := by
 obtain ⟨n, rfl⟩ := Int.eq_ofNat_of_zero_le h0
 have hL : ((LL.toNat : Nat) : Int) = LL := by decide +kernel
 have hnd : ¬ LL.toNat ∣ n := by
  intro hd
  apply h
  rw [← hL]
  exact Int.emod_eq_zero_of_dvd (Int.ofNat_dvd.2 hd)
 have hf := flt prm_L hnd
 generalize LL.toNat - 1 = e at hf ⊢
 rw [← hL, ← Int.natCast_pow, ← Int.natCast_emod, hf]
 rfl
end Go.Proofs.Ytcpoldghkiiggaa.X

/- Powers, as numbers. -/
namespace Go.Proofs.Ytcpoldghkiiggaa.X
open Go Go.Proofs
set_option linter.unusedVariables false
set_option maxRecDepth 100000
set_option maxHeartbeats 8000000

theorem montR (u v : Int) : montV (modL (u * 115792089237316195423570985008687907853269984665640564039457584007913129639936)) (modL (v * 115792089237316195423570985008687907853269984665640564039457584007913129639936)) = modL (u * v * 115792089237316195423570985008687907853269984665640564039457584007913129639936) := by
 have e : montV (modL (u * 115792089237316195423570985008687907853269984665640564039457584007913129639936)) (modL (v * 115792089237316195423570985008687907853269984665640564039457584007913129639936)) = modL ((u * 115792089237316195423570985008687907853269984665640564039457584007913129639936) * (v * 115792089237316195423570985008687907853269984665640564039457584007913129639936) * RI) := by
  show modL (modL _ * modL _ * RI) = _
  generalize (u * 115792089237316195423570985008687907853269984665640564039457584007913129639936) = x
  generalize (v * 115792089237316195423570985008687907853269984665640564039457584007913129639936) = y
  rw [← modL_mul (modL x * modL y), modL_mul x y, modL_mul]
 rw [e]
 have h : (115792089237316195423570985008687907853269984665640564039457584007913129639936 : Int) * RI = 1 + LL * 71336056475231800826343715077027849978041630819377026201054086228062141447707 := by decide +kernel
 have e2 : (u * 115792089237316195423570985008687907853269984665640564039457584007913129639936) * (v * 115792089237316195423570985008687907853269984665640564039457584007913129639936) * RI = u * v * 115792089237316195423570985008687907853269984665640564039457584007913129639936 + LL * (u * v * 115792089237316195423570985008687907853269984665640564039457584007913129639936 * 71336056475231800826343715077027849978041630819377026201054086228062141447707) := by
  have a1 : (u * 115792089237316195423570985008687907853269984665640564039457584007913129639936) * (v * 115792089237316195423570985008687907853269984665640564039457584007913129639936) = u * v * 115792089237316195423570985008687907853269984665640564039457584007913129639936 * 115792089237316195423570985008687907853269984665640564039457584007913129639936 := by
   rw [Int.mul_assoc u, Int.mul_left_comm _ v, ← Int.mul_assoc u v, ← Int.mul_assoc]
  rw [a1, Int.mul_assoc _ _ RI, h, Int.mul_add, Int.mul_one, Int.mul_left_comm]
 rw [e2]
 unfold modL
 rw [Int.add_mul_emod_self_left]

theorem shr64 {x : Int} {s : Nat} (hs : s ≤ 64) : shr .u64 x (s : Int) = x / 2 ^ s := by
 have e2 : shr .u64 x (s : Int) = x.fdiv (2 ^ (min s 64)) := rfl
 rw [e2, Nat.min_eq_left hs, Int.fdiv_eq_ediv_of_nonneg _ (Int.le_of_lt (Int.pow_pos (by omega)))]
theorem bit_and64 (y : Int) : bits2 .and .u64 y 1 = y % 2 := by
 have e : bits2 .and .u64 y 1 = IntKind.u64.wrap (((BitVec.ofInt 64 y &&& BitVec.ofInt 64 1).toNat : Nat) : Int) := rfl
 have t2 : (BitVec.ofInt 64 1).toNat = 2 ^ 1 - 1 := by rfl
 rw [e, BitVec.toNat_and, t2, Nat.and_two_pow_sub_one_eq_mod, BitVec.toNat_ofInt, wrap64]
 show (((y % 18446744073709551616).toNat % 2 ^ 1 : Nat) : Int) % 18446744073709551616 = y % 2
 omega
theorem bit_of {w r : Int} {s d : Nat} (hs : s < d) : (w + 2 ^ d * r) / 2 ^ s % 2 = w / 2 ^ s % 2 := by
 obtain ⟨c, rfl⟩ : ∃ c, d = s + (c + 1) := ⟨d - s - 1, by omega⟩
 have e : w + 2 ^ (s + (c + 1)) * r = w + 2 ^ s * (2 ^ (c + 1) * r) := by rw [Int.pow_add, Int.mul_assoc]
 rw [e, Int.add_mul_ediv_left _ _ (Int.ne_of_gt (Int.pow_pos (by omega))), Int.pow_succ, Int.mul_comm (2 ^ c), Int.mul_assoc, Int.add_mul_emod_self_left]

theorem bitE_eq {E : List Int} (hE : Wds E) (l : E.length = 4) {k : Nat} (hk : k < 256) : bitE E k = V4 E / 2 ^ (255 - k) % 2 := by
 obtain ⟨a, b, c, d, rfl⟩ := four l
 have ha := hE a (by simp); have hb := hE b (by simp); have hc := hE c (by simp); have hd := hE d (by simp)
 unfold bitE
 rw [(qt hk).1, Int.tdiv_eq_ediv_of_nonneg (by omega), Int.tmod_eq_emod_of_nonneg (by omega)]
 rw [show ((255 : Int) - (k : Int)) / 64 = (((255 - k) / 64 : Nat) : Int) by omega, show ((255 : Int) - (k : Int)) % 64 = (((255 - k) % 64 : Nat) : Int) by omega, Int.toNat_natCast]
 generalize hj : 255 - k = j
 have hjl : j < 256 := by omega
 clear hj hk k
 rw [bit_and64, shr64 (by omega)]
 obtain ⟨i, s, hs, hi, rfl⟩ : ∃ i s, s < 64 ∧ i < 4 ∧ j = 64 * i + s := ⟨j / 64, j % 64, by omega, by omega, by omega⟩
 rw [show (64 * i + s) / 64 = i by omega, show (64 * i + s) % 64 = s by omega, Int.pow_add, ← dd2 _ (Int.le_of_lt (Int.pow_pos (by omega)))]
 match i, hi with
 | 0, _ =>
  have e : V4 [a, b, c, d] / 2 ^ (64 * 0) = a + 2 ^ 64 * (b + 18446744073709551616 * c + 340282366920938463463374607431768211456 * d) := by
   show (a + 18446744073709551616 * b + 340282366920938463463374607431768211456 * c + 6277101735386680763835789423207666416102355444464034512896 * d) / 1 = a + 18446744073709551616 * _
   omega
  rw [e, bit_of hs]; rfl
 | 1, _ =>
  have e : V4 [a, b, c, d] / 2 ^ (64 * 1) = b + 2 ^ 64 * (c + 18446744073709551616 * d) := by
   show (a + 18446744073709551616 * b + 340282366920938463463374607431768211456 * c + 6277101735386680763835789423207666416102355444464034512896 * d) / 18446744073709551616 = b + 18446744073709551616 * _
   omega
  rw [e, bit_of hs]; rfl
 | 2, _ =>
  have e : V4 [a, b, c, d] / 2 ^ (64 * 2) = c + 2 ^ 64 * d := by
   show (a + 18446744073709551616 * b + 340282366920938463463374607431768211456 * c + 6277101735386680763835789423207666416102355444464034512896 * d) / 340282366920938463463374607431768211456 = c + 18446744073709551616 * _
   omega
  rw [e, bit_of hs]; rfl
 | 3, _ =>
  have e : V4 [a, b, c, d] / 2 ^ (64 * 3) = d + 2 ^ 64 * 0 := by
   show (a + 18446744073709551616 * b + 340282366920938463463374607431768211456 * c + 6277101735386680763835789423207666416102355444464034512896 * d) / 6277101735386680763835789423207666416102355444464034512896 = d + 18446744073709551616 * 0
   omega
  rw [e, bit_of hs]; rfl

theorem modL_pow (x : Int) : ∀ n : Nat, modL (modL x ^ n) = modL (x ^ n)
 | 0 => by rw [Int.pow_zero, Int.pow_zero]
 | n + 1 => by rw [Int.pow_succ, Int.pow_succ, ← modL_mul, modL_pow x n, ← modL_mul (x ^ n) x, show modL (modL x) = modL x from Int.emod_emod_of_dvd _ (Int.dvd_refl LL)]

def sqr (x : Int) (n : Nat) : Int := modL (x ^ n * 115792089237316195423570985008687907853269984665640564039457584007913129639936)
theorem sqr_sq (x : Int) (n : Nat) : montV (sqr x n) (sqr x n) = sqr x (2 * n) := by
 unfold sqr; rw [montR, ← Int.pow_add, show 2 * n = n + n by omega]
theorem sqr_mul (x : Int) (n : Nat) : montV (sqr x n) (modL (x * 115792089237316195423570985008687907853269984665640564039457584007913129639936)) = sqr x (n + 1) := by
 unfold sqr; rw [montR, Int.pow_succ]
theorem sqr_V (x : Int) (n : Nat) : V4 (W4 (sqr x n)) = sqr x n := V4_modL _
theorem half_pow (n k : Nat) (hk : k < 256) : n / 2 ^ (256 - (k + 1)) = 2 * (n / 2 ^ (256 - k)) + n / 2 ^ (256 - (k + 1)) % 2 := by
 rw [show 256 - k = (256 - (k + 1)) + 1 by omega, Nat.pow_succ, ← Nat.div_div_eq_div_mul]
 omega
theorem rP_eq {E : List Int} (hE : Wds E) (l : E.length = 4) (x : Int) {n : Nat} (hn : V4 E = (n : Int)) : ∀ k, k ≤ 256 → rP (modL (x * 115792089237316195423570985008687907853269984665640564039457584007913129639936)) (sqr x 0) E k = sqr x (n / 2 ^ (256 - k))
 | 0, _ => by
  have hr := (V4_rng hE l).2
  rw [hn] at hr
  have : n < 2 ^ 256 := by
   have e : 2 ^ 256 = 115792089237316195423570985008687907853269984665640564039457584007913129639936 := by decide +kernel
   omega
  rw [Nat.div_eq_of_lt this]; rfl
 | k + 1, hk => by
  have ih := rP_eq hE l x hn k (by omega)
  have hb := bitE_eq hE l (show k < 256 by omega)
  have hb2 : bitE E k = ((n / 2 ^ (256 - (k + 1)) % 2 : Nat) : Int) := by
   rw [hb, hn, show 255 - k = 256 - (k + 1) by omega, Int.natCast_emod, Int.natCast_ediv, Int.natCast_pow]; rfl
  have hp := half_pow n k (by omega)
  by_cases hc : bitE E k = 1
  ·rw [rP_a hc, ih, sqr_V, sqr_sq, sqr_V, V4_modL, sqr_mul]
   rw [hb2] at hc
   rw [hp]; congr 2; omega
  ·rw [rP_b hc, ih, sqr_V, sqr_sq]
   rw [hb2] at hc
   rw [hp]; congr 1; omega

theorem montI (x : Int) : montV x 1627715501170711445284395025044413883736156588369414752970002579683115011841 = modL (x * 115792089237316195423570985008687907853269984665640564039457584007913129639936) := by
 have h : (1627715501170711445284395025044413883736156588369414752970002579683115011841 : Int) * RI = 115792089237316195423570985008687907853269984665640564039457584007913129639936 + LL * (1627715501170711445284395025044413883736156588369414752970002579683115011841 * RI / LL - 115792089237316195423570985008687907853269984665640564039457584007913129639936 / LL) := by decide +kernel
 show x * _ * RI % LL = _
 rw [Int.mul_assoc, h, Int.mul_add, Int.mul_left_comm, Int.add_mul_emod_self_left]; rfl
theorem mont1 (x : Int) : montV (modL (x * 115792089237316195423570985008687907853269984665640564039457584007913129639936)) 1 = modL x := by
 have h : (115792089237316195423570985008687907853269984665640564039457584007913129639936 : Int) * RI = 1 + LL * 71336056475231800826343715077027849978041630819377026201054086228062141447707 := by decide +kernel
 show modL (modL _ * 1 * RI) = _
 rw [Int.mul_one, ← modL_mul, show ∀ y, modL (modL y) = modL y from fun y => Int.emod_emod_of_dvd _ (Int.dvd_refl LL), modL_mul, Int.mul_assoc, h, Int.mul_add, Int.mul_one, Int.mul_left_comm]
 unfold modL
 rw [Int.add_mul_emod_self_left]
theorem V4_one : V4 [1, 0, 0, 0] = 1 := by decide +kernel
theorem pow_num {E : List Int} (hE : Wds E) (l : E.length = 4) {x : Int} (h0 : 0 ≤ x) (h1 : x < LL) {n : Nat} (hn : V4 E = (n : Int)) : powA (W4 x) E = W4 (modL (x ^ n)) := by
 unfold powA
 rw [V4_radx, V4_one, montI, montI, V4_W4 h0 (by unfold LL at h1; omega)]
 have e : modL (1 * 115792089237316195423570985008687907853269984665640564039457584007913129639936) = sqr x 0 := by unfold sqr; rw [Int.pow_zero]
 rw [e, rP_eq hE l x hn 256 (Nat.le_refl _), sqr_V, Nat.sub_self, Nat.pow_zero, Nat.div_one]
 unfold sqr
 rw [mont1]
def eInv : Nat := LL.toNat - 2
theorem V4_inv : V4 (W4 (difR (V4 [6346243789798364141, 1503914060200516822, 0, 1152921504606846976]) (V4 [2, 0, 0, 0]))) = (eInv : Int) := by decide +kernel
theorem invB_num (a : List Int) : invB a = B32 (modL (BV a ^ eInv)) := by
 unfold invB
 rw [pow_num (wds_W4 _) rfl (modL_rng (BV a)).1 (modL_rng (BV a)).2.1 V4_inv, V4_modL, modL_pow]
theorem inv_zero {a : List Int} : W4 (modL (BV a)) = [0, 0, 0, 0] ↔ modL (BV a) = 0 := W4_zero (modL_rng _).1 (modL_rng _).2.2
theorem modL_addr_mul (x y : Int) : modL (x * modL y) = modL (x * y) := by
 rw [← modL_mul, show modL (modL y) = modL y from Int.emod_emod_of_dvd _ (Int.dvd_refl LL), modL_mul]
theorem inv_mul {x : Int} (h : modL x ≠ 0) : modL (x * modL (x ^ eInv)) = 1 := by
 rw [modL_addr_mul]
 have hp := fermat_L (modL_rng x).1 (show modL x % LL ≠ 0 by rw [show modL x % LL = modL x from Int.emod_emod_of_dvd _ (Int.dvd_refl LL)]; exact h)
 have e : LL.toNat - 1 = eInv + 1 := by decide +kernel
 rw [e] at hp
 rw [← Int.mul_comm, ← Int.pow_succ, ← modL_pow]
 exact hp
end Go.Proofs.Ytcpoldghkiiggaa.X

/- The scalars' functions, by numbers. -/
namespace Go.Proofs.Ytcpoldghkiiggaa.X
open Go Go.Proofs
set_option linter.unusedVariables false
set_option maxRecDepth 100000
set_option maxHeartbeats 8000000

theorem addP_num (a b : List Int) (h0 : Byt a) (h1 : Byt b) (w : World) : Body Try.prog (tabOf tabNT) Try.f26 ⟨w, [], 0, noEnv⟩ (toA [.g [.ints .u8 32 a], .g [.ints .u8 32 b]]) [] (fun ys _ => ys = [.g [.ints .u8 32 (B32 (modL (BV a + BV b)))]]) := addP_eq a b ▸ addP_body a b h0 h1 w
theorem negP_num (a : List Int) (h0 : Byt a) (w : World) : Body Try.prog (tabOf tabNT) Try.f30 ⟨w, [], 0, noEnv⟩ (toA [.g [.ints .u8 32 a]]) [] (fun ys _ => ys = [.g [.ints .u8 32 (B32 (modL (negI (BV a))))]]) := negP_eq a ▸ negP_body a h0 w
theorem mulP_num (a b : List Int) (h0 : Byt a) (h1 : Byt b) (w : World) : Body Try.prog (tabOf tabNT) Try.f32 ⟨w, [], 0, noEnv⟩ (toA [.g [.ints .u8 32 a], .g [.ints .u8 32 b]]) [] (fun ys _ => ys = [.g [.ints .u8 32 (B32 (modL (BV a * BV b)))]]) := mulP_eq a b ▸ mulP_body a b h0 h1 w
theorem iszP_eq (a : List Int) : iszP a = decide (modL (BV a) = 0) := by
 unfold iszP; exact decide_eq_decide.2 inv_zero
theorem iszP_num (a : List Int) (h0 : Byt a) (w : World) : Body Try.prog (tabOf tabNT) Try.f36 ⟨w, [], 0, noEnv⟩ (toA [.g [.ints .u8 32 a]]) [] (fun ys _ => ys = [.a (.b (modL (BV a) == 0))]) := by
 rw [show (modL (BV a) == 0) = iszP a by rw [iszP_eq]; rfl]; exact iszP_body a h0 w
theorem canP_eq {a : List Int} (h : Byt a) : canP a = decide (BV a < LL) := by
 have r := BV_rng h
 unfold canP lessC
 rw [V4_W4 r.1 r.2, V4_ord]
 by_cases hc : BV a < LL <;> simp [hc]
theorem canP_num (a : List Int) (h0 : Byt a) (w : World) : Body Try.prog (tabOf tabNT) Try.f20 ⟨w, [], 0, noEnv⟩ (toA [.g [.ints .u8 32 a]]) [] (fun ys _ => ys = [.a (.b (decide (BV a < LL)))]) := by
 rw [← canP_eq h0]; exact canP_body a h0 w
def invN (x : Int) : Int := if modL x = 0 then 0 else modL (x ^ eInv)
def invE1 (x : Int) : Int := if modL x = 0 then 9 else 0
theorem invL_num (a : List Int) : invL a = B32 (invN (BV a)) := by
 unfold invL invN
 by_cases h : modL (BV a) = 0
 ·rw [if_pos (inv_zero.2 h), if_pos h, B32_0]
 ·rw [if_neg (fun hc => h (inv_zero.1 hc)), if_neg h, invB_num]
theorem invE_num (a : List Int) : invE a = invE1 (BV a) := by
 unfold invE invE1
 by_cases h : modL (BV a) = 0
 ·rw [if_pos (inv_zero.2 h), if_pos h]
 ·rw [if_neg (fun hc => h (inv_zero.1 hc)), if_neg h]
theorem inv_num (a : List Int) (h0 : Byt a) (w : World) : Body Try.prog (tabOf tabNM) Try.f40 ⟨w, [], 0, noEnv⟩ (toA [.g [.ints .u8 32 a]]) [] (fun ys _ => ys = [.g [.ints .u8 32 (B32 (invN (BV a)))], .a (.i .i64 (invE1 (BV a)))]) :=
 invL_num a ▸ invE_num a ▸ inv_can a h0 w
theorem invN_rng (x : Int) : 0 ≤ invN x ∧ invN x < LL ∧ invN x < 115792089237316195423570985008687907853269984665640564039457584007913129639936 := by
 unfold invN
 split
 ·unfold LL; omega
 ·exact modL_rng _
theorem BV_inv (x : Int) : BV (B32 (invN x)) = invN x := BV_B32 (invN_rng x).1 (invN_rng x).2.2
theorem invN_mul {x : Int} (h : modL x ≠ 0) : modL (x * invN x) = 1 := by
 unfold invN; rw [if_neg h]; exact inv_mul h
theorem fromP_num (n : Int) (h0 : 0 ≤ n) (h1 : n < 18446744073709551616) (w : World) : Body Try.prog (tabOf tabNT) Try.f22 ⟨w, [], 0, noEnv⟩ (toA [.a (.i .u64 n)]) [] (fun ys _ => ys = [.g [.ints .u8 32 (B32 n)]]) := by
 have e : fromP n = B32 n := by
  show B32 (V4 [n, 0, 0, 0]) = B32 n
  congr 1
  show n + 18446744073709551616 * 0 + 340282366920938463463374607431768211456 * 0 + 6277101735386680763835789423207666416102355444464034512896 * 0 = n
  omega
 exact e ▸ fromP_body n h0 h1 w
/-! the reference -/
end Go.Proofs.Ytcpoldghkiiggaa.X

/- Texts of this session, put together (part 3). -/
/- Printed by a tool of this session. -/
namespace Go.Proofs.Ytcpoldghkiiggaa.X
open Go Go.Proofs
set_option linter.unusedVariables false
set_option linter.unusedSimpArgs false
set_option maxRecDepth 100000
set_option maxHeartbeats 8000000
theorem addP_num_pure (a b : List Int) (h0 : (Byt a)) (h1 : (Byt b)) : PureC Try.prog 26 [.g [.ints .u8 32 a], .g [.ints .u8 32 b]] [.g [.ints .u8 32 (B32 (modL ((BV a) + (BV b))))]] :=
 PureC.of_body tabOkNT Try.func26 rfl rfl fun w => addP_num a b h0 h1 w

def gam43 : Gam := gpure 26 (fun args => match args with | [.o (.g [.ints .u8 (32 : Nat) a]), .o (.g [.ints .u8 (32 : Nat) b])] => some (some ((Byt a) ∧ (Byt b)), [.g [.ints .u8 (32 : Nat) (B32 (modL ((BV a) + (BV b))))]]) | _ => none) gam42
theorem gam43_ok : GamOk Try.prog gam43 := gpure_ok gam42_ok Try.call26 (by
 intro args vc xs h hv
 split at h
 ·simp only [Option.some.injEq, Prod.mk.injEq] at h; obtain ⟨rfl, rfl⟩ := h; exact ⟨_, by rfl, addP_num_pure _ _ hv.1 hv.2⟩
 ·simp at h)

theorem negP_num_pure (a : List Int) (h0 : (Byt a)) : PureC Try.prog 30 [.g [.ints .u8 32 a]] [.g [.ints .u8 32 (B32 (modL (negI (BV a))))]] :=
 PureC.of_body tabOkNT Try.func30 rfl rfl fun w => negP_num a h0 w

def gam45 : Gam := gpure 30 (fun args => match args with | [.o (.g [.ints .u8 (32 : Nat) a])] => some (some ((Byt a)), [.g [.ints .u8 (32 : Nat) (B32 (modL (negI (BV a))))]]) | _ => none) gam43
theorem gam45_ok : GamOk Try.prog gam45 := gpure_ok gam43_ok Try.call30 (by
 intro args vc xs h hv
 split at h
 ·simp only [Option.some.injEq, Prod.mk.injEq] at h; obtain ⟨rfl, rfl⟩ := h; exact ⟨_, by rfl, negP_num_pure _ hv⟩
 ·simp at h)

theorem mulP_num_pure (a b : List Int) (h0 : (Byt a)) (h1 : (Byt b)) : PureC Try.prog 32 [.g [.ints .u8 32 a], .g [.ints .u8 32 b]] [.g [.ints .u8 32 (B32 (modL ((BV a) * (BV b))))]] :=
 PureC.of_body tabOkNT Try.func32 rfl rfl fun w => mulP_num a b h0 h1 w

def gam46 : Gam := gpure 32 (fun args => match args with | [.o (.g [.ints .u8 (32 : Nat) a]), .o (.g [.ints .u8 (32 : Nat) b])] => some (some ((Byt a) ∧ (Byt b)), [.g [.ints .u8 (32 : Nat) (B32 (modL ((BV a) * (BV b))))]]) | _ => none) gam45
theorem gam46_ok : GamOk Try.prog gam46 := gpure_ok gam45_ok Try.call32 (by
 intro args vc xs h hv
 split at h
 ·simp only [Option.some.injEq, Prod.mk.injEq] at h; obtain ⟨rfl, rfl⟩ := h; exact ⟨_, by rfl, mulP_num_pure _ _ hv.1 hv.2⟩
 ·simp at h)

theorem iszP_num_pure (a : List Int) (h0 : (Byt a)) : PureC Try.prog 36 [.g [.ints .u8 32 a]] [.a (.b ((modL (BV a)) == (0 : Int)))] :=
 PureC.of_body tabOkNT Try.func36 rfl rfl fun w => iszP_num a h0 w

def gam48 : Gam := gpure 36 (fun args => match args with | [.o (.g [.ints .u8 (32 : Nat) a])] => some (some ((Byt a)), [.a (.b ((modL (BV a)) == (0 : Int)))]) | _ => none) gam46
theorem gam48_ok : GamOk Try.prog gam48 := gpure_ok gam46_ok Try.call36 (by
 intro args vc xs h hv
 split at h
 ·simp only [Option.some.injEq, Prod.mk.injEq] at h; obtain ⟨rfl, rfl⟩ := h; exact ⟨_, by rfl, iszP_num_pure _ hv⟩
 ·simp at h)

theorem canP_num_pure (a : List Int) (h0 : (Byt a)) : PureC Try.prog 20 [.g [.ints .u8 32 a]] [.a (.b (decide ((BV a) < (LL))))] :=
 PureC.of_body tabOkNT Try.func20 rfl rfl fun w => canP_num a h0 w

def gam49 : Gam := gpure 20 (fun args => match args with | [.o (.g [.ints .u8 (32 : Nat) a])] => some (some ((Byt a)), [.a (.b (decide ((BV a) < (LL))))]) | _ => none) gam48
theorem gam49_ok : GamOk Try.prog gam49 := gpure_ok gam48_ok Try.call20 (by
 intro args vc xs h hv
 split at h
 ·simp only [Option.some.injEq, Prod.mk.injEq] at h; obtain ⟨rfl, rfl⟩ := h; exact ⟨_, by rfl, canP_num_pure _ hv⟩
 ·simp at h)

theorem fromP_num_pure (n : Int) (h0 : ((0 : Int) ≤ n)) (h1 : (n < (18446744073709551616 : Int))) : PureC Try.prog 22 [.a (.i .u64 n)] [.g [.ints .u8 32 (B32 n)]] :=
 PureC.of_body tabOkNT Try.func22 rfl rfl fun w => fromP_num n h0 h1 w

def gam50 : Gam := gpure 22 (fun args => match args with | [.o (.a (.i .u64 n))] => some (some (((0 : Int) ≤ n) ∧ (n < (18446744073709551616 : Int))), [.g [.ints .u8 (32 : Nat) (B32 n)]]) | _ => none) gam49
theorem gam50_ok : GamOk Try.prog gam50 := gpure_ok gam49_ok Try.call22 (by
 intro args vc xs h hv
 split at h
 ·simp only [Option.some.injEq, Prod.mk.injEq] at h; obtain ⟨rfl, rfl⟩ := h; exact ⟨_, by rfl, fromP_num_pure _ hv.1 hv.2⟩
 ·simp at h)

theorem inv_num_pure (a : List Int) (h0 : (Byt a)) : PureC Try.prog 40 [.g [.ints .u8 32 a]] [.g [.ints .u8 32 (B32 (invN (BV a)))], .a (.i .i64 (invE1 (BV a)))] :=
 PureC.of_body tabOkNM Try.func40 rfl rfl fun w => inv_num a h0 w

def gam51 : Gam := gpure 40 (fun args => match args with | [.o (.g [.ints .u8 (32 : Nat) a])] => some (some ((Byt a)), [.g [.ints .u8 (32 : Nat) (B32 (invN (BV a)))], .a (.i .i64 (invE1 (BV a)))]) | _ => none) gam50
theorem gam51_ok : GamOk Try.prog gam51 := gpure_ok gam50_ok Try.call40 (by
 intro args vc xs h hv
 split at h
 ·simp only [Option.some.injEq, Prod.mk.injEq] at h; obtain ⟨rfl, rfl⟩ := h; exact ⟨_, by rfl, inv_num_pure _ hv⟩
 ·simp at h)

end Go.Proofs.Ytcpoldghkiiggaa.X

/- Sums and products modulo the order: what the laws of a field come down to. -/
namespace Go.Proofs.Ytcpoldghkiiggaa.X
open Go Go.Proofs
set_option linter.unusedVariables false
set_option maxRecDepth 100000
set_option maxHeartbeats 8000000

theorem not_dec {x y : List Int} (h : x = y) : (!(decide (x = y))) = false := by rw [decide_eq_true h]; rfl
theorem modL_modL (x : Int) : modL (modL x) = modL x := Int.emod_emod_of_dvd _ (Int.dvd_refl LL)
theorem modL_mulr (x y : Int) : modL (x * modL y) = modL (x * y) := by rw [← modL_mul, modL_modL, modL_mul]
theorem modL_mull (x y : Int) : modL (modL x * y) = modL (x * y) := by rw [← modL_mul, modL_modL, modL_mul]
theorem modL_small {x : Int} (h0 : 0 ≤ x) (h1 : x < LL) : modL x = x := Int.emod_eq_of_lt h0 h1
end Go.Proofs.Ytcpoldghkiiggaa.X

/- Power of the reference, as a number; squares. -/
namespace Go.Proofs.Ytcpoldghkiiggaa.X
open Go Go.Proofs
set_option linter.unusedVariables false
set_option maxRecDepth 100000
set_option maxHeartbeats 8000000

def powW (S E : List Int) : Int := modL (V4 S ^ (V4 E).toNat)
theorem powW_eq {S E : List Int} (hE : Wds E) (l : E.length = 4) : powA S E = W4 (powW S E) := by
 have hn : V4 E = (((V4 E).toNat : Nat) : Int) := by have := (V4_rng hE l).1; omega
 unfold powA
 rw [V4_radx, V4_one, montI, montI]
 have e : modL (1 * 115792089237316195423570985008687907853269984665640564039457584007913129639936) = sqr (V4 S) 0 := by unfold sqr; rw [Int.pow_zero]
 rw [e, rP_eq hE l (V4 S) hn 256 (Nat.le_refl _), sqr_V, Nat.sub_self, Nat.pow_zero, Nat.div_one]
 unfold sqr powW
 rw [mont1]
theorem pow100_num (S E : List Int) (h0 : Wds S) (h1 : Wds E) (w : World) : Body Try.prog (tabOf tabNG) Try.f100 ⟨w, [], 0, noEnv⟩ (toA [.g [.ints .u64 4 S], .g [.ints .u64 4 E]]) [] (fun ys _ => ys = [.g [.ints .u64 4 (W4 (powW S E))]]) :=
 Body.lens (c := (Try.f100.body.getD .skip)) rfl fun h => powW_eq (S := S) h1 (h.vals 1 _ _ _ rfl) ▸ powA_body S E h0 h1 w
end Go.Proofs.Ytcpoldghkiiggaa.X

/- Printed by a tool of this session. -/
namespace Go.Proofs.Ytcpoldghkiiggaa.X
open Go Go.Proofs
set_option linter.unusedVariables false
set_option linter.unusedSimpArgs false
set_option maxRecDepth 100000
set_option maxHeartbeats 8000000
theorem pow100_num_pure (S E : List Int) (h0 : (Wds S)) (h1 : (Wds E)) : PureC Try.prog 100 [.g [.ints .u64 4 S], .g [.ints .u64 4 E]] [.g [.ints .u64 4 (W4 (powW S E))]] :=
 PureC.of_body tabOkNG Try.func100 rfl rfl fun w => pow100_num S E h0 h1 w

def gam58 : Gam := gpure 100 (fun args => match args with | [.o (.g [.ints .u64 (4 : Nat) S]), .o (.g [.ints .u64 (4 : Nat) E])] => some (some ((Wds S) ∧ (Wds E)), [.g [.ints .u64 (4 : Nat) (W4 (powW S E))]]) | _ => none) gam51
theorem gam58_ok : GamOk Try.prog gam58 := gpure_ok gam51_ok Try.call100 (by
 intro args vc xs h hv
 split at h
 ·simp only [Option.some.injEq, Prod.mk.injEq] at h; obtain ⟨rfl, rfl⟩ := h; exact ⟨_, by rfl, pow100_num_pure _ _ hv.1 hv.2⟩
 ·simp at h)

end Go.Proofs.Ytcpoldghkiiggaa.X

/- Printed by a tool of this session. -/
namespace Go.Proofs.Ytcpoldghkiiggaa.X
open Go Go.Proofs
set_option linter.unusedVariables false
set_option linter.unusedSimpArgs false
set_option maxRecDepth 100000
set_option maxHeartbeats 8000000
theorem teQJ_3 : TEOk Try.prog 3 ⟨.int .i64, 1, 8, [.i .i64 (0 : Int)], false⟩ :=
 TEOk.of Try.underlying3 (i := Try.t3) (by kernel_rfl) rfl rfl rfl (by kernel_rfl) (fun h => by cases h) (by kernel_rfl)
theorem teQJ_26 : TEOk Try.prog 26 ⟨.slice 22, 1, 24, [.raw (.slice none 0 0)], false⟩ :=
 TEOk.of Try.underlying26 (i := Try.t26) (by kernel_rfl) rfl rfl rfl (by kernel_rfl) (fun h => by cases h) (by kernel_rfl)
theorem teQJ_27 : TEOk Try.prog 27 ⟨.slice 81, 1, 24, [.raw (.slice none 0 0)], false⟩ :=
 TEOk.of Try.underlying27 (i := Try.t27) (by kernel_rfl) rfl rfl rfl (by kernel_rfl) (fun h => by cases h) (by kernel_rfl)
theorem teQJ_28 : TEOk Try.prog 28 ⟨.slice 113, 1, 24, [.raw (.slice none 0 0)], false⟩ :=
 TEOk.of Try.underlying28 (i := Try.t28) (by kernel_rfl) rfl rfl rfl (by kernel_rfl) (fun h => by cases h) (by kernel_rfl)
theorem teQJ_29 : TEOk Try.prog 29 ⟨.slice 122, 1, 24, [.raw (.slice none 0 0)], false⟩ :=
 TEOk.of Try.underlying29 (i := Try.t29) (by kernel_rfl) rfl rfl rfl (by kernel_rfl) (fun h => by cases h) (by kernel_rfl)
theorem teQJ_30 : TEOk Try.prog 30 ⟨.slice 64, 1, 24, [.raw (.slice none 0 0)], false⟩ :=
 TEOk.of Try.underlying30 (i := Try.t30) (by kernel_rfl) rfl rfl rfl (by kernel_rfl) (fun h => by cases h) (by kernel_rfl)
theorem teQJ_31 : TEOk Try.prog 31 ⟨.slice 124, 1, 24, [.raw (.slice none 0 0)], false⟩ :=
 TEOk.of Try.underlying31 (i := Try.t31) (by kernel_rfl) rfl rfl rfl (by kernel_rfl) (fun h => by cases h) (by kernel_rfl)
theorem teQJ_32 : TEOk Try.prog 32 ⟨.slice 126, 1, 24, [.raw (.slice none 0 0)], false⟩ :=
 TEOk.of Try.underlying32 (i := Try.t32) (by kernel_rfl) rfl rfl rfl (by kernel_rfl) (fun h => by cases h) (by kernel_rfl)
theorem teQJ_33 : TEOk Try.prog 33 ⟨.slice 128, 1, 24, [.raw (.slice none 0 0)], false⟩ :=
 TEOk.of Try.underlying33 (i := Try.t33) (by kernel_rfl) rfl rfl rfl (by kernel_rfl) (fun h => by cases h) (by kernel_rfl)
theorem teQJ_34 : TEOk Try.prog 34 ⟨.slice 130, 1, 24, [.raw (.slice none 0 0)], false⟩ :=
 TEOk.of Try.underlying34 (i := Try.t34) (by kernel_rfl) rfl rfl rfl (by kernel_rfl) (fun h => by cases h) (by kernel_rfl)
theorem teQJ_35 : TEOk Try.prog 35 ⟨.slice 132, 1, 24, [.raw (.slice none 0 0)], false⟩ :=
 TEOk.of Try.underlying35 (i := Try.t35) (by kernel_rfl) rfl rfl rfl (by kernel_rfl) (fun h => by cases h) (by kernel_rfl)
theorem teQJ_36 : TEOk Try.prog 36 ⟨.slice 134, 1, 24, [.raw (.slice none 0 0)], false⟩ :=
 TEOk.of Try.underlying36 (i := Try.t36) (by kernel_rfl) rfl rfl rfl (by kernel_rfl) (fun h => by cases h) (by kernel_rfl)
theorem teQJ_37 : TEOk Try.prog 37 ⟨.slice 136, 1, 24, [.raw (.slice none 0 0)], false⟩ :=
 TEOk.of Try.underlying37 (i := Try.t37) (by kernel_rfl) rfl rfl rfl (by kernel_rfl) (fun h => by cases h) (by kernel_rfl)
theorem teQJ_38 : TEOk Try.prog 38 ⟨.slice 138, 1, 24, [.raw (.slice none 0 0)], false⟩ :=
 TEOk.of Try.underlying38 (i := Try.t38) (by kernel_rfl) rfl rfl rfl (by kernel_rfl) (fun h => by cases h) (by kernel_rfl)
theorem teQJ_39 : TEOk Try.prog 39 ⟨.slice 140, 1, 24, [.raw (.slice none 0 0)], false⟩ :=
 TEOk.of Try.underlying39 (i := Try.t39) (by kernel_rfl) rfl rfl rfl (by kernel_rfl) (fun h => by cases h) (by kernel_rfl)
theorem teQJ_40 : TEOk Try.prog 40 ⟨.slice 142, 1, 24, [.raw (.slice none 0 0)], false⟩ :=
 TEOk.of Try.underlying40 (i := Try.t40) (by kernel_rfl) rfl rfl rfl (by kernel_rfl) (fun h => by cases h) (by kernel_rfl)
theorem teQJ_42 : TEOk Try.prog 42 ⟨Try.t41.desc, 30, 720, [nlA, nlA, nlA, nlA, nlA, nlA, nlA, nlA, nlA, nlA, nlA, nlA, nlA, nlA, nlA, nlA, nlA, nlA, nlA, nlA, nlA, nlA, nlA, nlA, nlA, nlA, nlA, nlA, nlA, nlA], false⟩ :=
 TEOk.of Try.underlying42 (i := Try.t42) (by kernel_rfl) rfl rfl rfl (by kernel_rfl) (fun h => by cases h) (by kernel_rfl)
noncomputable def tabQJ : List (Nat × TE) := [(3, ⟨.int .i64, 1, 8, [.i .i64 0], false⟩), (5, ⟨.int .u8, 1, 1, [.i .u8 0], false⟩), (22, ⟨.slice 5, 1, 24, [nlA], false⟩), (26, ⟨.slice 22, 1, 24, [nlA], false⟩), (27, ⟨.slice 81, 1, 24, [nlA], false⟩), (28, ⟨.slice 113, 1, 24, [nlA], false⟩), (29, ⟨.slice 122, 1, 24, [nlA], false⟩), (30, ⟨.slice 64, 1, 24, [nlA], false⟩), (31, ⟨.slice 124, 1, 24, [nlA], false⟩), (32, ⟨.slice 126, 1, 24, [nlA], false⟩), (33, ⟨.slice 128, 1, 24, [nlA], false⟩), (34, ⟨.slice 130, 1, 24, [nlA], false⟩), (35, ⟨.slice 132, 1, 24, [nlA], false⟩), (36, ⟨.slice 134, 1, 24, [nlA], false⟩), (37, ⟨.slice 136, 1, 24, [nlA], false⟩), (38, ⟨.slice 138, 1, 24, [nlA], false⟩), (39, ⟨.slice 140, 1, 24, [nlA], false⟩), (40, ⟨.slice 142, 1, 24, [nlA], false⟩), (42, ⟨Try.t41.desc, 30, 720, [nlA, nlA, nlA, nlA, nlA, nlA, nlA, nlA, nlA, nlA, nlA, nlA, nlA, nlA, nlA, nlA, nlA, nlA, nlA, nlA, nlA, nlA, nlA, nlA, nlA, nlA, nlA, nlA, nlA, nlA], false⟩)]
theorem tabOkQJ : TabOk Try.prog (tabOf tabQJ) := (tabOf_cons teQJ_3 (tabOf_cons teNM_5 (tabOf_cons teOV_22 (tabOf_cons teQJ_26 (tabOf_cons teQJ_27 (tabOf_cons teQJ_28 (tabOf_cons teQJ_29 (tabOf_cons teQJ_30 (tabOf_cons teQJ_31 (tabOf_cons teQJ_32 (tabOf_cons teQJ_33 (tabOf_cons teQJ_34 (tabOf_cons teQJ_35 (tabOf_cons teQJ_36 (tabOf_cons teQJ_37 (tabOf_cons teQJ_38 (tabOf_cons teQJ_39 (tabOf_cons teQJ_40 (tabOf_cons teQJ_42 tabOf_nil)))))))))))))))))))

def markB (i k : Int) : Int :=
 (IntKind.u8.wrap (IntKind.i64.wrap ((IntKind.i64.wrap ((IntKind.i64.wrap (i * (31 : Int))) + (IntKind.i64.wrap (k * (7 : Int))))) + 5)))

theorem markB_body0 (i k : Int) (w : World) : Body Try.prog (tabOf tabQJ) Try.f69 ⟨w, [], 0, noEnv⟩ (toA [.a (.i .i64 i), .a (.i .i64 k)]) [] (fun ys _ => ys = [.a (.i .u8 (markB i k))]) :=
 Body.of_fin (Γ := gam58) (Λ := noLam) (Ψ := noPsi) (fuel := 0) (m := 12) (c := (Try.f69.body.getD .skip)) mix tabOkQJ gam58_ok rfl (rs := [.tmp 4]) rfl rfl [] []
  (vc := []) (by kernel_rfl)
  (AllP_nil)

theorem markB_body (i k : Int) (w : World) : Body Try.prog (tabOf tabQJ) Try.f69 ⟨w, [], 0, noEnv⟩ (toA [.a (.i .i64 i), .a (.i .i64 k)]) [] (fun ys _ => ys = [.a (.i .u8 (markB i k))]) :=
 Body.lens (c := (Try.f69.body.getD .skip)) rfl fun h => markB_body0 i k  w

theorem markB_pure (i k : Int) : PureC Try.prog 69 [.a (.i .i64 i), .a (.i .i64 k)] [.a (.i .u8 (markB i k))] :=
 PureC.of_body tabOkQJ Try.func69 rfl rfl fun w => markB_body i k w

def gam61 : Gam := gpure 69 (fun args => match args with | [.o (.a (.i .i64 i)), .o (.a (.i .i64 k))] => some (none, [.a (.i .u8 (markB i k))]) | _ => none) gam58
theorem gam61_ok : GamOk Try.prog gam61 := gpure_ok gam58_ok Try.call69 (by
 intro args vc xs h hv
 split at h
 ·simp only [Option.some.injEq, Prod.mk.injEq] at h; obtain ⟨rfl, rfl⟩ := h; exact ⟨_, by rfl, markB_pure _ _⟩
 ·simp at h)

end Go.Proofs.Ytcpoldghkiiggaa.X

/- What Given lays down of bytes. -/
namespace Go.Proofs.Ytcpoldghkiiggaa.X
open Go Go.Proofs
set_option linter.unusedVariables false

theorem sub_all (l : List Int) (n : Nat) (h : l.length ≤ n) : sub l 0 n = l := by
 unfold sub; rw [List.drop_zero, List.take_of_length_le h]
end Go.Proofs.Ytcpoldghkiiggaa.X

/- Reduce, piece by piece. -/
namespace Go.Proofs.Ytcpoldghkiiggaa.X
open Go Go.Proofs
set_option linter.unusedVariables false
set_option maxRecDepth 100000
set_option maxHeartbeats 8000000

theorem tim_num (S T : List Int) (h0 : Wds S) (h1 : Wds T) (h2 : LtL T) (w : World) : Body Try.prog (tabOf tabNT) Try.f73 ⟨w, [], 0, noEnv⟩ (toA [.g [.ints .u64 4 S], .g [.ints .u64 4 T]]) [] (fun ys _ => ys = [.g [.ints .u64 4 (W4 (modL (V4 S * V4 T)))]]) := by
 have e : times S T = W4 (modL (V4 S * V4 T)) := by
  unfold times
  rw [V4_mont, V4_radx, times_eq]
 exact e ▸ times_body S T h0 h1 h2 w

theorem byt_sub {b : List Int} (h : Byt b) (c m : Nat) : Byt (sub b c m) := fun x hx => h x (List.mem_of_mem_drop (List.mem_of_mem_take hx))
end Go.Proofs.Ytcpoldghkiiggaa.X

/- Printed by a tool of this session. -/
namespace Go.Proofs.Ytcpoldghkiiggaa.X
open Go Go.Proofs
set_option linter.unusedVariables false
set_option linter.unusedSimpArgs false
set_option maxRecDepth 100000
set_option maxHeartbeats 8000000
theorem tim_num_pure (S T : List Int) (h0 : (Wds S)) (h1 : (Wds T)) (h2 : (LtL T)) : PureC Try.prog 73 [.g [.ints .u64 4 S], .g [.ints .u64 4 T]] [.g [.ints .u64 4 (W4 (modL ((V4 S) * (V4 T))))]] :=
 PureC.of_body tabOkNT Try.func73 rfl rfl fun w => tim_num S T h0 h1 h2 w

def gam66 : Gam := gpure 73 (fun args => match args with | [.o (.g [.ints .u64 (4 : Nat) S]), .o (.g [.ints .u64 (4 : Nat) T])] => some (some ((Wds S) ∧ (Wds T) ∧ (LtL T)), [.g [.ints .u64 (4 : Nat) (W4 (modL ((V4 S) * (V4 T))))]]) | _ => none) gam61
theorem gam66_ok : GamOk Try.prog gam66 := gpure_ok gam61_ok Try.call73 (by
 intro args vc xs h hv
 split at h
 ·simp only [Option.some.injEq, Prod.mk.injEq] at h; obtain ⟨rfl, rfl⟩ := h; exact ⟨_, by rfl, tim_num_pure _ _ hv.1 hv.2.1 hv.2.2⟩
 ·simp at h)

end Go.Proofs.Ytcpoldghkiiggaa.X

/- Printed by a tool of this session. -/
namespace Go.Proofs.Ytcpoldghkiiggaa.X
open Go Go.Proofs
set_option linter.unusedVariables false
set_option linter.unusedSimpArgs false
set_option maxRecDepth 100000
set_option maxHeartbeats 8000000
theorem deA_body0 (n nm : Nat) (b : List Int) (cap0 : Nat) (h0 : (nm = n)) (h1 : (n ≤ 140737488355328)) (h2 : (Byt b)) (hc0 : n ≤ cap0) (hl0_0 : b.length = nm) (hn : n ≠ 32) (w : World) (β : Env) : Body Try.prog (tabOf tabOV) Try.f15 ⟨w, [], 1, β⟩ [.o (.a (.sl 0 0 n cap0))] [bF [.ints .u8 nm b]] (fun ys _ => ys = [.g [.ints .u8 32 ([0, 0, 0, 0, 0, 0, 0, 0, 0, 0, 0, 0, 0, 0, 0, 0, 0, 0, 0, 0, 0, 0, 0, 0, 0, 0, 0, 0, 0, 0, 0, 0] : List Int)], .a (.i .i64 3)]) :=
 Body.of_fin (Γ := gam66) (Λ := noLam) (Ψ := noPsi) (fuel := 0) (m := 17) (c := (Try.f15.body.getD .skip)) mix tabOkOV gam66_ok rfl (rs := [.cell 2 24, .tmp 3]) rfl rfl [true] []
  (vc := [(((n : Int) != (32 : Int)) = true)]) (by kernel_rfl)
  (aC (bne_iff_ne.2 (by first | omega | decide)) (AllP_nil))

theorem deB_body0 (n nm : Nat) (b : List Int) (cap0 : Nat) (h0 : (nm = n)) (h1 : (n ≤ 140737488355328)) (h2 : (Byt b)) (hc0 : n ≤ cap0) (hl0_0 : b.length = nm) (hn : n = 32) (hd : ¬ BV b < LL) (w : World) (β : Env) : Body Try.prog (tabOf tabOV) Try.f15 ⟨w, [], 1, β⟩ [.o (.a (.sl 0 0 n cap0))] [bF [.ints .u8 nm b]] (fun ys _ => ys = [.g [.ints .u8 32 ([0, 0, 0, 0, 0, 0, 0, 0, 0, 0, 0, 0, 0, 0, 0, 0, 0, 0, 0, 0, 0, 0, 0, 0, 0, 0, 0, 0, 0, 0, 0, 0] : List Int)], .a (.i .i64 21)]) :=
 Body.of_fin (Γ := gam66) (Λ := noLam) (Ψ := noPsi) (fuel := 0) (m := 17) (c := (Try.f15.body.getD .skip)) mix tabOkOV gam66_ok rfl (rs := [.cell 2 24, .tmp 3]) rfl rfl [false, true] []
  (vc := [((!(decide ((BV (sub b 0 32)) < (LL)))) = true), (Byt (sub b 0 32)), (32 ≤ nm), (32 ≤ n), (((n : Int) != (32 : Int)) = false)]) (by kernel_rfl)
  (aC (by rw [sub_all b 32 (by omega), decide_eq_false hd]; rfl) (aC (by first | exact byt_sub h2 _ _ | exact h2) (aC (by first | omega | decide) (aC (by first | omega | decide) (aC (bne_eq_false_iff_eq.2 (by first | omega | decide)) (AllP_nil))))))

theorem deC_body0 (n nm : Nat) (b : List Int) (cap0 : Nat) (h0 : (nm = n)) (h1 : (n ≤ 140737488355328)) (h2 : (Byt b)) (hc0 : n ≤ cap0) (hl0_0 : b.length = nm) (hn : n = 32) (hd : BV b < LL) (w : World) (β : Env) : Body Try.prog (tabOf tabOV) Try.f15 ⟨w, [], 1, β⟩ [.o (.a (.sl 0 0 n cap0))] [bF [.ints .u8 nm b]] (fun ys _ => ys = [.g [.ints .u8 32 (decZ b)], .a (.i .i64 0)]) :=
 Body.of_fin (Γ := gam66) (Λ := noLam) (Ψ := noPsi) (fuel := 0) (m := 17) (c := (Try.f15.body.getD .skip)) mix tabOkOV gam66_ok rfl (rs := [.cell 2 24, .tmp 3]) rfl rfl [false, false] []
  (vc := [((!(decide ((BV (sub b 0 32)) < (LL)))) = false), (Byt (sub b 0 32)), (32 ≤ nm), (32 ≤ n), (((n : Int) != (32 : Int)) = false)]) (by kernel_rfl)
  (aC (by rw [sub_all b 32 (by omega), decide_eq_true hd]; rfl) (aC (by first | exact byt_sub h2 _ _ | exact h2) (aC (by first | omega | decide) (aC (by first | omega | decide) (aC (bne_eq_false_iff_eq.2 (by first | omega | decide)) (AllP_nil))))))

end Go.Proofs.Ytcpoldghkiiggaa.X

/- Decode in one form. -/
namespace Go.Proofs.Ytcpoldghkiiggaa.X
open Go Go.Proofs
set_option linter.unusedVariables false
set_option maxRecDepth 100000
set_option maxHeartbeats 8000000

def decL (n : Nat) (b : List Int) : List Int := if n = 32 then (if BV b < LL then sub b 0 32 else [0, 0, 0, 0, 0, 0, 0, 0, 0, 0, 0, 0, 0, 0, 0, 0, 0, 0, 0, 0, 0, 0, 0, 0, 0, 0, 0, 0, 0, 0, 0, 0]) else [0, 0, 0, 0, 0, 0, 0, 0, 0, 0, 0, 0, 0, 0, 0, 0, 0, 0, 0, 0, 0, 0, 0, 0, 0, 0, 0, 0, 0, 0, 0, 0]
def decE (n : Nat) (b : List Int) : Int := if n = 32 then (if BV b < LL then 0 else 21) else 3
theorem dec_num (n nm : Nat) (b : List Int) (cap0 : Nat) (h0 : nm = n) (h1 : n ≤ 140737488355328) (h2 : Byt b) (w : World) (β : Env) : Body Try.prog (tabOf tabOV) Try.f15 ⟨w, [], 1, β⟩ [.o (.a (.sl 0 0 n cap0))] [bF [.ints .u8 nm b]] (fun ys _ => ys = [.g [.ints .u8 32 (decL n b)], .a (.i .i64 (decE n b))]) :=
 Body.lens (c := (Try.f15.body.getD .skip)) rfl fun h => by
  have hc := h.caps 0 _ _ _ _ rfl
  have hl := h.lens 0 _ .u8 nm b rfl (by simp)
  unfold decL decE
  by_cases hn : n = 32
  ·rw [if_pos hn, if_pos hn]
   by_cases hd : BV b < LL
   ·rw [if_pos hd, if_pos hd]; exact deC_body0 n nm b cap0 h0 h1 h2 hc hl hn hd w β
   ·rw [if_neg hd, if_neg hd]; exact deB_body0 n nm b cap0 h0 h1 h2 hc hl hn hd w β
  ·rw [if_neg hn, if_neg hn]; exact deA_body0 n nm b cap0 h0 h1 h2 hc hl hn w β
end Go.Proofs.Ytcpoldghkiiggaa.X

/- Printed by a tool of this session. -/
namespace Go.Proofs.Ytcpoldghkiiggaa.X
open Go Go.Proofs
set_option linter.unusedVariables false
set_option linter.unusedSimpArgs false
set_option maxRecDepth 100000
set_option maxHeartbeats 8000000
def gam72 : Gam := greadV 15 [.s 1] (fun vs args => match vs, args with | [⟨_, _, _, [.ints .u8 nm b]⟩], [a0] => some ((nm = (lenOfA a0)) ∧ ((lenOfA a0) ≤ 140737488355328) ∧ (Byt b), [.g [.ints .u8 32 (decL (lenOfA a0) b)], .a (.i .i64 (decE (lenOfA a0) b))]) | _, _ => none) gam66
theorem gam72_ok : GamOk Try.prog gam72 := greadV_ok tabOkOV Try.func15 gam66_ok Try.call15 (by
 intro vs args p xs h hv
 split at h
 ·simp only [Option.some.injEq, Prod.mk.injEq] at h; obtain ⟨rfl, rfl⟩ := h; exact ⟨by rfl, fun caps w β => dec_num _ _ _ _ hv.1 hv.2.1 hv.2.2 w β⟩
 ·simp at h)

end Go.Proofs.Ytcpoldghkiiggaa.X

/- What the law of Reduce comes down to. -/
namespace Go.Proofs.Ytcpoldghkiiggaa.X
open Go Go.Proofs
set_option linter.unusedVariables false
set_option linter.unusedSimpArgs false
set_option maxRecDepth 100000
set_option maxHeartbeats 8000000

theorem byt_rep (n : Nat) : Byt (List.replicate n 0) := fun z hz => by rw [(List.mem_replicate.1 hz).2]; decide
theorem byt_wraps {l : List Int} (h : ∀ x ∈ l, ∃ y, x = IntKind.u8.wrap y) : Byt l := fun x hx => by
 obtain ⟨y, rfl⟩ := h x hx
 rw [wrap8]; omega
end Go.Proofs.Ytcpoldghkiiggaa.X

/- Sums, products of lists of scalars. -/
namespace Go.Proofs.Ytcpoldghkiiggaa.X
open Go Go.Proofs
set_option linter.unusedVariables false
set_option linter.unusedSimpArgs false
set_option maxRecDepth 100000
set_option maxHeartbeats 8000000

def prS (l : List Int) : Nat → Int
 | 0 => 1
 | k + 1 => modL (prS l k * BV (sub l (k * 32) 32))
theorem prS_rng (l : List Int) : ∀ k, 0 ≤ prS l k ∧ prS l k < LL
 | 0 => by show (0 : Int) ≤ 1 ∧ (1 : Int) < LL; decide +kernel
 | _ + 1 => modL_b _
theorem LL_256 : LL < 115792089237316195423570985008687907853269984665640564039457584007913129639936 := by decide +kernel
theorem BV_lt {v : Int} (h : 0 ≤ v ∧ v < LL) : BV (B32 v) = v := BV_B32 h.1 (Int.lt_trans h.2 LL_256)
theorem pr_r (l : List Int) (k : Nat) : modL (BV (B32 (prS l k)) * BV (sub l (k * 32) 32)) = prS l (k + 1) := by
 rw [BV_lt (prS_rng l k)]; rfl
end Go.Proofs.Ytcpoldghkiiggaa.X

/- Printed by a tool of this session. -/
namespace Go.Proofs.Ytcpoldghkiiggaa.X
open Go Go.Proofs
set_option linter.unusedVariables false
set_option linter.unusedSimpArgs false
set_option maxRecDepth 100000
set_option maxHeartbeats 8000000
theorem teRB_64 : TEOk Try.prog 64 ⟨.slice 24, 1, 24, [.raw (.slice none 0 0)], false⟩ :=
 TEOk.of Try.underlying64 (i := Try.t64) (by kernel_rfl) rfl rfl rfl (by kernel_rfl) (fun h => by cases h) (by kernel_rfl)
noncomputable def tabRB : List (Nat × TE) := [(3, ⟨.int .i64, 1, 8, [.i .i64 0], false⟩), (5, ⟨.int .u8, 1, 1, [.i .u8 0], false⟩), (24, ⟨.array 32 5, 32, 32, [.ints .u8 32 ([0, 0, 0, 0, 0, 0, 0, 0, 0, 0, 0, 0, 0, 0, 0, 0, 0, 0, 0, 0, 0, 0, 0, 0, 0, 0, 0, 0, 0, 0, 0, 0] : List Int)], true⟩), (30, ⟨.slice 64, 1, 24, [nlA], false⟩), (42, ⟨Try.t41.desc, 30, 720, [nlA, nlA, nlA, nlA, nlA, nlA, nlA, nlA, nlA, nlA, nlA, nlA, nlA, nlA, nlA, nlA, nlA, nlA, nlA, nlA, nlA, nlA, nlA, nlA, nlA, nlA, nlA, nlA, nlA, nlA], false⟩), (64, ⟨.slice 24, 1, 24, [nlA], false⟩)]
theorem tabOkRB : TabOk Try.prog (tabOf tabRB) := (tabOf_cons teQJ_3 (tabOf_cons teNM_5 (tabOf_cons teNM_24 (tabOf_cons teQJ_30 (tabOf_cons teQJ_42 (tabOf_cons teRB_64 tabOf_nil))))))

def markS (i k : Int) : List Int :=
 ([(IntKind.u8.wrap i), (IntKind.u8.wrap (shr .i64 i (8 : Int))), (IntKind.u8.wrap k), (IntKind.u8.wrap (shr .i64 k (8 : Int))), 77, 0, 0, 0, 0, 0, 0, 0, 0, 0, 0, 0, 0, 0, 0, 0, 0, 0, 0, 0, 0, 0, 0, 0, 0, 0, 0, 0] : List Int)

theorem markS_body0 (i k : Int) (w : World) : Body Try.prog (tabOf tabRB) Try.f102 ⟨w, [], 0, noEnv⟩ (toA [.a (.i .i64 i), .a (.i .i64 k)]) [] (fun ys _ => ys = [.g [.ints .u8 32 (markS i k)]]) :=
 Body.of_fin (Γ := gam72) (Λ := noLam) (Ψ := noPsi) (fuel := 0) (m := 16) (c := (Try.f102.body.getD .skip)) mix tabOkRB gam72_ok rfl (rs := [.cell 4 24]) rfl rfl [] []
  (vc := [((0 : Int) ≤ 8), ((0 : Int) ≤ 8)]) (by kernel_rfl)
  (aC (by decide) (aC (by decide) (AllP_nil)))

theorem markS_body (i k : Int) (w : World) : Body Try.prog (tabOf tabRB) Try.f102 ⟨w, [], 0, noEnv⟩ (toA [.a (.i .i64 i), .a (.i .i64 k)]) [] (fun ys _ => ys = [.g [.ints .u8 32 (markS i k)]]) :=
 Body.lens (c := (Try.f102.body.getD .skip)) rfl fun h => markS_body0 i k  w

theorem markS_pure (i k : Int) : PureC Try.prog 102 [.a (.i .i64 i), .a (.i .i64 k)] [.g [.ints .u8 32 (markS i k)]] :=
 PureC.of_body tabOkRB Try.func102 rfl rfl fun w => markS_body i k w

def gam83 : Gam := gpure 102 (fun args => match args with | [.o (.a (.i .i64 i)), .o (.a (.i .i64 k))] => some (none, [.g [.ints .u8 (32 : Nat) (markS i k)]]) | _ => none) gam72
theorem gam83_ok : GamOk Try.prog gam83 := gpure_ok gam72_ok Try.call102 (by
 intro args vc xs h hv
 split at h
 ·simp only [Option.some.injEq, Prod.mk.injEq] at h; obtain ⟨rfl, rfl⟩ := h; exact ⟨_, by rfl, markS_pure _ _⟩
 ·simp at h)

def copyS (n : Nat) : Nat :=
 (n * 32)

def copyS_1 (n : Nat) (l : List Int) : List Int :=
 (sub l 0 (n * 32))

theorem copyS_body0 (n nm : Nat) (l : List Int) (cap0 : Nat) (h0 : (nm = (n * 32))) (h1 : (n ≤ 4398046511104)) (hc0 : n ≤ cap0) (hl0_0 : l.length = nm) (w : World) (rw : List Nat) (β : Env) : Body Try.prog (tabOf tabRB) Try.f65 ⟨w, rw, 1, β⟩ [.o (.a (.sl 0 0 n cap0))] [bF [.ints .u8 nm l]] (fun ys K' => ys = [.a (.rs 1 0 n 32)] ∧ K' = [bF [.ints .u8 nm l], bT [.ints .u8 (copyS n) (copyS_1 n l)]]) :=
 Body.of_finK (Γ := gam83) (Λ := noLam) (Ψ := noPsi) (fuel := 0) (m := 8) (c := (Try.f65.body.getD .skip)) mix tabOkRB gam83_ok rfl (rs := [.tmp 2]) rfl rfl [false] [] 2
  (vc := [(((n ≤ n) ∧ ((0 + (n * 32)) ≤ nm)) ∧ ((n * 32) ≤ 140737488355328))]) (by kernel_rfl)
  (aC ⟨⟨(by first | omega | (simp (disch := omega) only [wrapI]; omega)), (by first | omega | (simp (disch := omega) only [wrapI]; omega))⟩, (by first | omega | (simp (disch := omega) only [wrapI]; omega))⟩ (AllP_nil))

theorem copyS_body (n nm : Nat) (l : List Int) (cap0 : Nat) (h0 : (nm = (n * 32))) (h1 : (n ≤ 4398046511104)) (w : World) (rw : List Nat) (β : Env) : Body Try.prog (tabOf tabRB) Try.f65 ⟨w, rw, 1, β⟩ [.o (.a (.sl 0 0 n cap0))] [bF [.ints .u8 nm l]] (fun ys K' => ys = [.a (.rs 1 0 n 32)] ∧ K' = [bF [.ints .u8 nm l], bT [.ints .u8 (copyS n) (copyS_1 n l)]]) :=
 Body.lens (c := (Try.f65.body.getD .skip)) rfl fun h => copyS_body0 n nm l cap0 h0 h1 (h.caps 0 _ _ _ _ rfl) (h.lens 0 _ .u8 nm l rfl (by simp)) w rw β

def gam84 : Gam := gcall 65 [] [.s 32] (fun wk vs args => match wk, vs, args with | [], [⟨_, _, _, [.ints .u8 nm l]⟩], [.o (.a (.sl 0 0 n _))] => some ((nm = (n * 32)) ∧ (n ≤ 4398046511104), [.a (.rs 1 0 n 32)], [bF [.ints .u8 nm l], bT [.ints .u8 (copyS n) (copyS_1 n l)]]) | _, _, _ => none) gam83
theorem gam84_ok : GamOk Try.prog gam84 := gcall_ok tabOkRB Try.func65 gam83_ok Try.call65 (by
 intro wk vs args p xs K1 h hv
 split at h
 ·simp only [Option.some.injEq, Prod.mk.injEq] at h; obtain ⟨rfl, rfl, rfl⟩ := h; obtain ⟨g0, g1⟩ := hv; exact fun caps w rw β => copyS_body _ _ _ _ g0 g1 w rw β
 ·simp at h)

def sameSL_mk (n nm : Nat) (b : List Int) (m mm : Nat) (c : List Int) (cap0 cap1 k : Nat) (s : Unit) : St := ⟨sparse 26 [(0, .o (.a (.sl 0 0 n cap0))), (1, .o (.a (.sl 1 0 m cap1))), (5, .o (.a (.i .i64 (k : Int)))), (6, .o (.a (.sl 0 0 n cap0))), (7, .o (.a (.i .i64 (n : Int)))), (8, .o (.a (.sl 1 0 m cap1))), (9, .o (.a (.i .i64 (m : Int)))), (10, .o (.a (.b ((n : Int) != (m : Int)))))], [bF [.ints .u8 nm b], bF [.ints .u8 mm c]]⟩

theorem sameSL_round (n nm : Nat) (b : List Int) (m mm : Nat) (c : List Int) (cap0 cap1 : Nat) (h0 : (nm = (n * 32))) (h1 : (mm = (m * 32))) (h2 : (m = n)) (h3 : (b = c)) (h4 : (n ≤ 4398046511104)) (hc0 : n ≤ cap0) (hc1 : m ≤ cap1) (hl0_0 : b.length = nm) (hl1_0 : c.length = mm) (w : World) (β : Env) (k : Nat) (hk : k < n) (s : Unit) : Run Try.prog ⟨w, [], 2, β⟩ (loopB Try.f47 0) (sameSL_mk n nm b m mm c cap0 cap1 k s) (To ⟨w, [], 2, β⟩ .normal (sameSL_mk n nm b m mm c cap0 cap1 (k + 1) (moL_step k s))) := by
 have e0 := wrap_succ (n := k) (by omega)
 have h := Run.of_outT (B := ⟨w, [], 2, β⟩) (Λ := noLam) (Ψ := noPsi) (fuel := 0) (ora := [true, false]) (c := (loopB Try.f47 0)) (st := (sameSL_mk n nm b m mm c cap0 cap1 k s)) (l := [.forget [0, 1, 5, 6, 7, 8, 9, 10] 2]) (s' := ⟨sparse 26 [(0, .o (.a (.sl 0 0 n cap0))), (1, .o (.a (.sl 1 0 m cap1))), (5, .o (.a (.i .i64 (IntKind.i64.wrap ((k : Int) + 1))))), (6, .o (.a (.sl 0 0 n cap0))), (7, .o (.a (.i .i64 (n : Int)))), (8, .o (.a (.sl 1 0 m cap1))), (9, .o (.a (.i .i64 (m : Int)))), (10, .o (.a (.b ((n : Int) != (m : Int)))))], [bF [.ints .u8 nm b], bF [.ints .u8 mm c]]⟩) (ex := .normal) mix tabOkRB gam84_ok
  (vc := [((!(decide ((sub b (k * 32) 32) = (sub c (k * 32) 32)))) = false), (((k * 32) + 32) ≤ mm), ((0 ≤ (k : Int)) ∧ ((k : Int) < (m : Int))), (((k * 32) + 32) ≤ nm), ((0 ≤ (k : Int)) ∧ ((k : Int) < (n : Int))), ((decide ((k : Int) < (n : Int))) = true)]) (by kernel_rfl)
  (aC (by rw [h3]; exact not_dec rfl) (aC (by first|omega|(simp (disch:=omega) only [wrapI];omega)) (aC ⟨(by first|omega|(simp (disch:=omega) only [wrapI];omega)), (by first|omega|(simp (disch:=omega) only [wrapI];omega))⟩ (aC (by first|omega|(simp (disch:=omega) only [wrapI];omega)) (aC ⟨(by first|omega|(simp (disch:=omega) only [wrapI];omega)), (by first|omega|(simp (disch:=omega) only [wrapI];omega))⟩ (aC (dt (by first|omega|(simp (disch:=omega) only [wrapI];omega))) (AllP_nil)))))))
 rw [e0] at h
 exact h

theorem sameSL_last (n nm : Nat) (b : List Int) (m mm : Nat) (c : List Int) (cap0 cap1 : Nat) (h0 : (nm = (n * 32))) (h1 : (mm = (m * 32))) (h2 : (m = n)) (h3 : (b = c)) (h4 : (n ≤ 4398046511104)) (hc0 : n ≤ cap0) (hc1 : m ≤ cap1) (hl0_0 : b.length = nm) (hl1_0 : c.length = mm) (w : World) (β : Env) (s : Unit) : Run Try.prog ⟨w, [], 2, β⟩ (loopB Try.f47 0) (sameSL_mk n nm b m mm c cap0 cap1 n s) (To ⟨w, [], 2, β⟩ (.exit 0) (sameSL_mk n nm b m mm c cap0 cap1 n s)) :=
 Run.of_outT (Λ := noLam) (Ψ := noPsi) (fuel := 0) (ora := [false]) (l := [.forget [0, 1, 5, 6, 7, 8, 9, 10] 2]) mix tabOkRB gam84_ok
  (vc := [((decide ((n : Int) < (n : Int))) = false)]) (by kernel_rfl)
  (aC (decide_eq_false (by first | omega | (simp (disch := omega) only [wrapI]; omega))) (AllP_nil))

theorem sameSL_loop (n nm : Nat) (b : List Int) (m mm : Nat) (c : List Int) (cap0 cap1 : Nat) (h0 : (nm = (n * 32))) (h1 : (mm = (m * 32))) (h2 : (m = n)) (h3 : (b = c)) (h4 : (n ≤ 4398046511104)) (hc0 : n ≤ cap0) (hc1 : m ≤ cap1) (hl0_0 : b.length = nm) (hl1_0 : c.length = mm) (w : World) (β : Env) (s : Unit) : Run Try.prog ⟨w, [], 2, β⟩ (.block 0 (.loop (loopB Try.f47 0))) (sameSL_mk n nm b m mm c cap0 cap1 0 s) (To ⟨w, [], 2, β⟩ .normal (sameSL_mk n nm b m mm c cap0 cap1 n (iter (moL_step) n s))) :=
 Run.count (fun k => sameSL_mk n nm b m mm c cap0 cap1 k (iter (moL_step) k s)) n (fun k hk => sameSL_round n nm b m mm c cap0 cap1 h0 h1 h2 h3 h4 hc0 hc1 hl0_0 hl1_0 w β k hk _) (ex := (.exit 0)) (by simp) (sameSL_last n nm b m mm c cap0 cap1 h0 h1 h2 h3 h4 hc0 hc1 hl0_0 hl1_0 w β _)

theorem sameS_body0 (n nm : Nat) (b : List Int) (m mm : Nat) (c : List Int) (cap0 cap1 : Nat) (h0 : (nm = (n * 32))) (h1 : (mm = (m * 32))) (h2 : (m = n)) (h3 : (b = c)) (h4 : (n ≤ 4398046511104)) (hc0 : n ≤ cap0) (hc1 : m ≤ cap1) (hl0_0 : b.length = nm) (hl1_0 : c.length = mm) (w : World) (β : Env) : Body Try.prog (tabOf tabRB) Try.f47 ⟨w, [], 2, β⟩ [.o (.a (.sl 0 0 n cap0)), .o (.a (.sl 1 0 m cap1))] [bF [.ints .u8 nm b], bF [.ints .u8 mm c]] (fun ys _ => ys = [.a (.b true)]) :=
 Body.of_fin (Γ := gam84) (Λ := lamOf [(0, ⟨[.forget [0, 1, 5, 6, 7, 8, 9, 10] 2], .normal, (sameSL_mk n nm b m mm c cap0 cap1 n (iter (moL_step) n ()))⟩)]) (Ψ := noPsi) (fuel := 0) (m := 26) (c := (Try.f47.body.getD .skip)) mix tabOkRB gam84_ok rfl (rs := [.tmp 4]) rfl rfl [false] []
  (vc := [(Run Try.prog ⟨w, [], 2, β⟩ (.block 0 (.loop (loopB Try.f47 0))) (sameSL_mk n nm b m mm c cap0 cap1 0 ()) (To ⟨w, [], 2, β⟩ .normal (sameSL_mk n nm b m mm c cap0 cap1 n (iter (moL_step) n ())))), (((n : Int) != (m : Int)) = false)]) (by kernel_rfl)
  (aC (sameSL_loop n nm b m mm c cap0 cap1 h0 h1 h2 h3 h4 hc0 hc1 hl0_0 hl1_0 w β ()) (aC (bne_eq_false_iff_eq.2 (by first | omega | (simp (disch := omega) only [wrapI]; omega))) (AllP_nil)))

theorem sameS_body (n nm : Nat) (b : List Int) (m mm : Nat) (c : List Int) (cap0 cap1 : Nat) (h0 : (nm = (n * 32))) (h1 : (mm = (m * 32))) (h2 : (m = n)) (h3 : (b = c)) (h4 : (n ≤ 4398046511104)) (w : World) (β : Env) : Body Try.prog (tabOf tabRB) Try.f47 ⟨w, [], 2, β⟩ [.o (.a (.sl 0 0 n cap0)), .o (.a (.sl 1 0 m cap1))] [bF [.ints .u8 nm b], bF [.ints .u8 mm c]] (fun ys _ => ys = [.a (.b true)]) :=
 Body.lens (c := (Try.f47.body.getD .skip)) rfl fun h => sameS_body0 n nm b m mm c cap0 cap1 h0 h1 h2 h3 h4 (h.caps 0 _ _ _ _ rfl) (h.caps 1 _ _ _ _ rfl) (h.lens 0 _ .u8 nm b rfl (by simp)) (h.lens 1 _ .u8 mm c rfl (by simp)) w β

def gam88 : Gam := greadV 47 [.s 32, .s 32] (fun vs args => match vs, args with | [⟨_, _, _, [.ints .u8 nm b]⟩, ⟨_, _, _, [.ints .u8 mm c]⟩], [a0, a1] => some ((nm = ((lenOfA a0) * 32)) ∧ (mm = ((lenOfA a1) * 32)) ∧ ((lenOfA a1) = (lenOfA a0)) ∧ (b = c) ∧ ((lenOfA a0) ≤ 4398046511104), [.a (.b true)]) | _, _ => none) gam84
theorem gam88_ok : GamOk Try.prog gam88 := greadV_ok tabOkRB Try.func47 gam84_ok Try.call47 (by
 intro vs args p xs h hv
 split at h
 ·simp only [Option.some.injEq, Prod.mk.injEq] at h; obtain ⟨rfl, rfl⟩ := h; exact ⟨by rfl, fun caps w β => sameS_body _ _ _ _ _ _ _ _ hv.1 hv.2.1 hv.2.2.1 hv.2.2.2.1 hv.2.2.2.2 w β⟩
 ·simp at h)

end Go.Proofs.Ytcpoldghkiiggaa.X

/- What Given lays down of scalars. -/
namespace Go.Proofs.Ytcpoldghkiiggaa.X
open Go Go.Proofs
set_option linter.unusedVariables false
set_option linter.unusedSimpArgs false
set_option maxRecDepth 100000
set_option maxHeartbeats 8000000

theorem splice_lenS {s y : List Int} {c m : Nat} (h : c + m ≤ s.length) (hy : y.length = m) : (splice s c m y).length = s.length := by
 unfold splice
 simp only [List.length_append, List.length_take, List.length_drop]; omega
end Go.Proofs.Ytcpoldghkiiggaa.X

/- Fermat and Euler, for the law of powers. -/
namespace Go.Proofs.Ytcpoldghkiiggaa.X
open Go Go.Proofs
set_option linter.unusedVariables false
set_option linter.unusedSimpArgs false
set_option maxRecDepth 100000
set_option maxHeartbeats 8000000

theorem LL_nat : ((LL.toNat : Nat) : Int) = LL := by decide +kernel
theorem dvd_mulL {x y : Int} (h : LL ∣ x * y) : LL ∣ x ∨ LL ∣ y := by
 rw [← LL_nat] at *
 have h1 := Int.natAbs_dvd_natAbs.2 h
 rw [Int.natAbs_mul, Int.natAbs_natCast] at h1
 rcases prm_mul prm_L h1 with h2 | h2
 ·left; apply Int.natAbs_dvd_natAbs.1; rwa [Int.natAbs_natCast]
 ·right; apply Int.natAbs_dvd_natAbs.1; rwa [Int.natAbs_natCast]
theorem modL_dvd {x : Int} : modL x = 0 ↔ LL ∣ x := ⟨Int.dvd_of_emod_eq_zero, Int.emod_eq_zero_of_dvd⟩
theorem modL_mul0 {x y : Int} (h : modL (x * y) = 0) : modL x = 0 ∨ modL y = 0 := by
 rcases dvd_mulL (modL_dvd.1 h) with h | h
 ·exact .inl (modL_dvd.2 h)
 ·exact .inr (modL_dvd.2 h)
end Go.Proofs.Ytcpoldghkiiggaa.X

