/- Division bit by bit, as the reference does it. -/
import Derived.Test.YtcpoldghkiiggaaNV
namespace Go.Proofs.Ytcpoldghkiiggaa.X
open Go Go.Proofs
set_option linter.unusedVariables false

def dbl (x b : Int) : Int := (2 * x + b) % 115792089237316195423570985008687907853269984665640564039457584007913129639936
def OR8 : List Int := [1559614445, 1477600026, 2734136534, 350157278, 0, 0, 0, 268435456]
def bitX (x : Int) (k : Nat) : Int := bits2 .and .u32 (shr .u32 x (IntKind.u64.wrap ((31 : Int) - ((k : Nat) : Int)))) 1
def rI (x r : Int) : Nat → Int
  | 0 => r
  | k + 1 => if V8 (W8 (dbl (V8 (W8 (rI x r k))) (bitX x k))) < V8 OR8 then dbl (V8 (W8 (rI x r k))) (bitX x k) else difR (V8 (W8 (dbl (V8 (W8 (rI x r k))) (bitX x k)))) (V8 OR8)
def rO (l : List Int) (n : Nat) : Nat → Int
  | 0 => 0
  | t + 1 => rI (List.getD l (Int.toNat (((n : Nat) : Int) - (1 : Int) - ((t : Nat) : Int))) 0) (rO l n t) 32

theorem rI_a {x r : Int} {k : Nat} (h : V8 (W8 (dbl (V8 (W8 (rI x r k))) (bitX x k))) < V8 OR8) : rI x r (k + 1) = dbl (V8 (W8 (rI x r k))) (bitX x k) := by
  show (if _ then _ else _) = _
  rw [if_pos h]
theorem rI_b {x r : Int} {k : Nat} (h : ¬ V8 (W8 (dbl (V8 (W8 (rI x r k))) (bitX x k))) < V8 OR8) : rI x r (k + 1) = difR (V8 (W8 (dbl (V8 (W8 (rI x r k))) (bitX x k)))) (V8 OR8) := by
  show (if _ then _ else _) = _
  rw [if_neg h]

theorem bit_and (y : Int) : bits2 .and .u32 y 1 = y % 2 := by
  have e : bits2 .and .u32 y 1 = IntKind.u32.wrap (((BitVec.ofInt 32 y &&& BitVec.ofInt 32 1).toNat : Nat) : Int) := rfl
  have t2 : (BitVec.ofInt 32 1).toNat = 2 ^ 1 - 1 := by rfl
  rw [e, BitVec.toNat_and, t2, Nat.and_two_pow_sub_one_eq_mod, BitVec.toNat_ofInt, wrap32]
  show (((y % 4294967296).toNat % 2 ^ 1 : Nat) : Int) % 4294967296 = y % 2
  omega
theorem bit_01 (y : Int) : 0 ≤ bits2 .and .u32 y 1 ∧ bits2 .and .u32 y 1 ≤ 1 := by rw [bit_and]; omega
theorem W8_0 : W8 0 = [0, 0, 0, 0, 0, 0, 0, 0] := by decide +kernel
theorem wd8_ord : Wd8 [1559614445, 1477600026, 2734136534, 350157278, 0, 0, 0, 268435456] := wd8_W8 7237005577332262213973186563042994240857116359379907606001950938285454250989
end Go.Proofs.Ytcpoldghkiiggaa.X
