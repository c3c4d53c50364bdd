/- The carries of math/bits, functions without a body, vs contracts. -/
import Derived.Test.YtcpoldghkiiggaaNC
import Derived.Test.YtcpoldghkiiggaaProg
import Derived.Laws.Externs
namespace Go.Proofs.Ytcpoldghkiiggaa.X
open Go Go.Proofs
set_option linter.unusedVariables false

theorem mix : Try.prog.follows .mixedOrders = true := by kernel_rfl

def ad64s (x y c : Int) : Int := (x + y + c) % 18446744073709551616
def ad64c (x y c : Int) : Int := (x + y + c) / 18446744073709551616
def sb64s (x y b : Int) : Int := (x + 18446744073709551616 - y - b) % 18446744073709551616
def sb64c (x y b : Int) : Int := if x < y + b then 1 else 0

def sub64Entry : Array Value → Sem Value := fun args => do
  let (x, y, b) ← Extern.MathBitsCarry.three "Sub64" args
  pure (Extern.MathBitsCarry.pair ((x + Extern.MathBitsCarry.m64 - y - b) % Extern.MathBitsCarry.m64) (if x < y + b then 1 else 0))

theorem run_sub64 {P : Program} (x y c : Int) (hx : 0 ≤ x) (hy : 0 ≤ y) (hy1 : y < 18446744073709551616) (hc0 : 0 ≤ c) (hc : c ≤ 1) (w : World) :
    (sub64Entry #[.int .u64 x, .int .u64 y, .int .u64 c]).run P w = .ok (.tuple #[.int .u64 (sb64s x y c), .int .u64 (sb64c x y c)]) w := by
  have key : ∀ k : Nat, k ≤ 1 → (sub64Entry #[.int .u64 x, .int .u64 y, .int .u64 (k : Int)]).run P w =
      .ok (Extern.MathBitsCarry.pair ((x.toNat + Extern.MathBitsCarry.m64 - y.toNat - k) % Extern.MathBitsCarry.m64) (if x.toNat < y.toNat + k then 1 else 0)) w := by
    intro k hk
    have : k = 0 ∨ k = 1 := by omega
    rcases this with rfl | rfl <;> rfl
  obtain ⟨k, rfl⟩ := Int.eq_ofNat_of_zero_le hc0
  rw [key k (by omega)]
  obtain ⟨X, rfl⟩ := Int.eq_ofNat_of_zero_le hx
  obtain ⟨Y, rfl⟩ := Int.eq_ofNat_of_zero_le hy
  have e1 : Int.ofNat ((X + 18446744073709551616 - Y - k) % 18446744073709551616) = sb64s (X : Int) (Y : Int) (k : Int) := by
    unfold sb64s
    rw [Int.ofNat_eq_natCast, Int.natCast_emod]
    congr 1
    omega
  have e2 : Int.ofNat (if X < Y + k then 1 else 0) = sb64c (X : Int) (Y : Int) (k : Int) := by
    unfold sb64c
    by_cases h : X < Y + k
    · rw [if_pos h, if_pos (by omega)]; rfl
    · rw [if_neg h, if_neg (by omega)]; rfl
  have m : Extern.MathBitsCarry.m64 = 18446744073709551616 := rfl
  simp only [Extern.MathBitsCarry.pair, Int.toNat_natCast, m]
  rw [e1, e2]

/-- Add64, Sub64 -/
def gbits : Gam := gext 105 (fun args => match args with
    | [.o (.a (.i .u64 x)), .o (.a (.i .u64 y)), .o (.a (.i .u64 c))] => some (some (0 ≤ x ∧ 0 ≤ y ∧ 0 ≤ c ∧ c ≤ 1), [.a (.i .u64 (ad64s x y c)), .a (.i .u64 (ad64c x y c))])
    | _ => none)
  (gext 131 (fun args => match args with
    | [.o (.a (.i .u64 x)), .o (.a (.i .u64 y)), .o (.a (.i .u64 c))] => some (some (0 ≤ x ∧ 0 ≤ y ∧ y < 18446744073709551616 ∧ 0 ≤ c ∧ c ≤ 1), [.a (.i .u64 (sb64s x y c)), .a (.i .u64 (sb64c x y c))])
    | _ => none) gnil)

theorem three_args {β : Env} {k1 k2 k3 : IntKind} {x y z : Int} {vs : List Value} (h : allC β [.o (.a (.i k1 x)), .o (.a (.i k2 y)), .o (.a (.i k3 z))] vs) : vs = [.int k1 x, .int k2 y, .int k3 z] := by
  obtain ⟨a, r, rfl, h1, b, r2, rfl, h2, c, r3, rfl, h3, rfl⟩ := h
  have h1 : [a] = [Value.int k1 x] := h1
  have h2 : [b] = [Value.int k2 y] := h2
  have h3 : [c] = [Value.int k3 z] := h3
  simp only [List.cons.injEq, and_true] at h1 h2 h3
  rw [h1, h2, h3]

theorem gbits_ok : GamOk Try.prog gbits := by
  refine gext_ok (gext_ok gnil_ok ?_) ?_
  · intro args vc xs h hvc β w vs ha
    split at h
    · rename_i x y c
      simp only [Option.some.injEq, Prod.mk.injEq] at h; obtain ⟨rfl, rfl⟩ := h
      obtain ⟨h1, h2, h3, h4, h5⟩ := hvc
      rw [three_args ha]
      refine ⟨.tuple #[.int .u64 (sb64s x y c), .int .u64 (sb64c x y c)], ?_, ?_⟩
      · rw [run_callFunc_extern (e := sub64Entry) Try.func131 (by kernel_rfl) (by kernel_rfl) (by kernel_rfl) (by kernel_rfl), run_sub64 x y c h1 h2 h3 h4 h5]; rfl
      · exact ⟨_, rfl, _, _, rfl, rfl, _, _, rfl, rfl, rfl⟩
    · simp at h
  · intro args vc xs h hvc β w vs ha
    split at h
    · rename_i x y c
      simp only [Option.some.injEq, Prod.mk.injEq] at h; obtain ⟨rfl, rfl⟩ := h
      obtain ⟨h1, h2, h3, h4⟩ := hvc
      rw [three_args ha]
      refine ⟨.tuple #[.int .u64 (ad64s x y c), .int .u64 (ad64c x y c)], ?_, ?_⟩
      · rw [run_callFunc_extern (e := add64Entry) Try.func105 (by kernel_rfl) (by kernel_rfl) (by kernel_rfl) (by kernel_rfl), run_add64 x y c h1 h2 h3 h4]; rfl
      · exact ⟨_, rfl, _, _, rfl, rfl, _, _, rfl, rfl, rfl⟩
    · simp at h
end Go.Proofs.Ytcpoldghkiiggaa.X
