/- The product of two words, in two words. -/
import Derived.Test.YtcpoldghkiiggaaNE
namespace Go.Proofs.Ytcpoldghkiiggaa.X
open Go Go.Proofs
set_option linter.unusedVariables false

theorem b_and32 {x : Int} (h0 : 0 ≤ x) (h1 : x < 18446744073709551616) : bits2 .and .u64 x 4294967295 = x % 4294967296 := by
  have e : bits2 .and .u64 x 4294967295 = IntKind.u64.wrap (((BitVec.ofInt 64 x &&& BitVec.ofInt 64 4294967295).toNat : Nat) : Int) := rfl
  obtain ⟨n, rfl⟩ := Int.eq_ofNat_of_zero_le h0
  have h1 : n < 18446744073709551616 := by omega
  rw [e, BitVec.toNat_and]
  have e1 : (BitVec.ofInt 64 ((n : Nat) : Int)).toNat = n := by
    rw [BitVec.toNat_ofInt]
    show (((n : Nat) : Int) % 18446744073709551616).toNat = n
    omega
  have e2 : (BitVec.ofInt 64 4294967295).toNat = 2 ^ 32 - 1 := by rfl
  rw [e1, e2, Nat.and_two_pow_sub_one_eq_mod, wrap64]
  omega
theorem shr32 {x : Int} : shr .u64 x 32 = x / 4294967296 := by
  have e : shr .u64 x 32 = x.fdiv 4294967296 := rfl
  rw [e, Int.fdiv_eq_ediv_of_nonneg _ (by omega)]

theorem mul_le32 {a b : Int} (ha : 0 ≤ a) (ha1 : a < 4294967296) (hb : 0 ≤ b) (hb1 : b < 4294967296) : 0 ≤ a * b ∧ a * b ≤ 18446744065119617025 :=
  ⟨Int.mul_nonneg ha hb, by
    have := Int.mul_le_mul (show a ≤ 4294967295 by omega) (show b ≤ 4294967295 by omega) hb (by omega)
    omega⟩

theorem mul64_eq {x y : Int} (hx : 0 ≤ x) (hx1 : x < 18446744073709551616) (hy : 0 ≤ y) (hy1 : y < 18446744073709551616) :
    18446744073709551616 * mul64 x y + mul64_1 x y = x * y ∧ 0 ≤ mul64 x y ∧ mul64 x y ≤ 18446744073709551614 ∧ 0 ≤ mul64_1 x y ∧ mul64_1 x y < 18446744073709551616 := by
  have hX : x = x % 4294967296 + 4294967296 * (x / 4294967296) := by omega
  have hY : y = y % 4294967296 + 4294967296 * (y / 4294967296) := by omega
  have p00 := mul_le32 (a := x % 4294967296) (b := y % 4294967296) (by omega) (by omega) (by omega) (by omega)
  have p10 := mul_le32 (a := x / 4294967296) (b := y % 4294967296) (by omega) (by omega) (by omega) (by omega)
  have p01 := mul_le32 (a := x % 4294967296) (b := y / 4294967296) (by omega) (by omega) (by omega) (by omega)
  have p11 := mul_le32 (a := x / 4294967296) (b := y / 4294967296) (by omega) (by omega) (by omega) (by omega)
  have hxy : x * y = (x % 4294967296) * (y % 4294967296) + 4294967296 * ((x / 4294967296) * (y % 4294967296)) + 4294967296 * ((x % 4294967296) * (y / 4294967296)) + 18446744073709551616 * ((x / 4294967296) * (y / 4294967296)) := by
    conv => lhs; rw [hX, hY]
    rw [Int.add_mul, Int.mul_add, Int.mul_add]
    have e1 : x % 4294967296 * (4294967296 * (y / 4294967296)) = 4294967296 * (x % 4294967296 * (y / 4294967296)) := Int.mul_left_comm _ _ _
    have e2 : 4294967296 * (x / 4294967296) * (y % 4294967296) = 4294967296 * (x / 4294967296 * (y % 4294967296)) := Int.mul_assoc _ _ _
    have e3 : 4294967296 * (x / 4294967296) * (4294967296 * (y / 4294967296)) = 18446744073709551616 * (x / 4294967296 * (y / 4294967296)) := by
      rw [Int.mul_assoc, Int.mul_left_comm (x / 4294967296), ← Int.mul_assoc]; rfl
    rw [e1, e2, e3]
    generalize x % 4294967296 * (y % 4294967296) = a
    generalize x % 4294967296 * (y / 4294967296) = b
    generalize x / 4294967296 * (y % 4294967296) = c
    generalize x / 4294967296 * (y / 4294967296) = d
    omega
  have hlo : mul64_1 x y = x * y % 18446744073709551616 := wrap64 _
  have hhi : mul64 x y = x / 4294967296 * (y / 4294967296) + (x / 4294967296 * (y % 4294967296) + x % 4294967296 * (y % 4294967296) / 4294967296) / 4294967296 + ((x / 4294967296 * (y % 4294967296) + x % 4294967296 * (y % 4294967296) / 4294967296) % 4294967296 + x % 4294967296 * (y / 4294967296)) / 4294967296 := by
    unfold mul64
    simp only [b_and32 hx hx1, b_and32 hy hy1, shr32, wrap64]
    generalize x % 4294967296 * (y % 4294967296) = a at *
    generalize x % 4294967296 * (y / 4294967296) = b at *
    generalize x / 4294967296 * (y % 4294967296) = c at *
    generalize x / 4294967296 * (y / 4294967296) = d at *
    have ea : a % 18446744073709551616 = a := by omega
    have eb : b % 18446744073709551616 = b := by omega
    have ec : c % 18446744073709551616 = c := by omega
    have ed : d % 18446744073709551616 = d := by omega
    rw [ea, eb, ec, ed]
    have e1 : (c + a / 4294967296) % 18446744073709551616 = c + a / 4294967296 := by omega
    rw [e1, b_and32 (by omega) (by omega)]
    omega
  rw [hlo, hhi, hxy]
  generalize x % 4294967296 * (y % 4294967296) = a at *
  generalize x % 4294967296 * (y / 4294967296) = b at *
  generalize x / 4294967296 * (y % 4294967296) = c at *
  generalize x / 4294967296 * (y / 4294967296) = d at *
  clear hxy hlo hhi hX hY
  omega
theorem ad64_rng (x y c : Int) : 0 ≤ ad64s x y c ∧ ad64s x y c < 18446744073709551616 := by unfold ad64s; omega
end Go.Proofs.Ytcpoldghkiiggaa.X
