/- The reference's product, digit by digit. -/
import Derived.Test.YtcpoldghkiiggaaOH
namespace Go.Proofs.Ytcpoldghkiiggaa.X
open Go Go.Proofs
set_option linter.unusedVariables false

def mV (S T l : List Int) (k j : Nat) (c : Int) : Int := IntKind.u64.wrap (IntKind.u64.wrap (c + IntKind.u64.wrap (List.getD l (k + j) 0)) + IntKind.u64.wrap (IntKind.u64.wrap (List.getD S k 0) * IntKind.u64.wrap (List.getD T j 0)))
def mI (S T : List Int) (k : Nat) (l : List Int) : Nat → List Int × Int
  | 0 => (l, 0)
  | j + 1 => ((mI S T k l j).1.set (k + j) (IntKind.u32.wrap (mV S T (mI S T k l j).1 k j (mI S T k l j).2)), shr .u64 (mV S T (mI S T k l j).1 k j (mI S T k l j).2) 32)
def mO (S T : List Int) : Nat → List Int
  | 0 => List.replicate 16 0
  | k + 1 => (mI S T k (mO S T k) 8).1.set (k + 8) (IntKind.u32.wrap (mI S T k (mO S T k) 8).2)
def mIl (S T : List Int) (k : Nat) (l : List Int) (j : Nat) : List Int := (mI S T k l j).1
def mIc (S T : List Int) (k : Nat) (l : List Int) (j : Nat) : Int := (mI S T k l j).2

theorem ixi {k j : Nat} (hk : k < 8) (hj : j < 8) : Int.toNat (IntKind.i64.wrap (((k : Nat) : Int) + ((j : Nat) : Int))) = k + j := by
  rw [wrapI (by omega) (by omega)]; omega
theorem ixo {k : Nat} (hk : k < 8) : Int.toNat (IntKind.i64.wrap (((k : Nat) : Int) + (8 : Int))) = k + 8 := by
  rw [wrapI (by omega) (by omega)]; omega
theorem mIl_len (S T : List Int) (k : Nat) (l : List Int) : ∀ j, (mIl S T k l j).length = l.length
  | 0 => rfl
  | j + 1 => by
    show ((mI S T k l j).1.set _ _).length = _
    rw [List.length_set]; exact mIl_len S T k l j
theorem mO_len (S T : List Int) : ∀ k, (mO S T k).length = 16
  | 0 => rfl
  | k + 1 => by
    show ((mI S T k (mO S T k) 8).1.set _ _).length = _
    rw [List.length_set, show (mI S T k (mO S T k) 8).1 = mIl S T k (mO S T k) 8 from rfl, mIl_len, mO_len S T k]
end Go.Proofs.Ytcpoldghkiiggaa.X
