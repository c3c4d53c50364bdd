/- Plain numbers for the walks of the scalars: words of 64 bits, Montgomery's product. -/
import Derived.Test.YtcpoldghkiiggaaC4
namespace Go.Proofs.Ytcpoldghkiiggaa.X
open Go Go.Proofs
set_option linter.unusedVariables false

theorem wrap64 (x : Int) : IntKind.u64.wrap x = x % 18446744073709551616 := by
  show (let m := x % (18446744073709551616 : Int); if (false && decide (m ≥ (9223372036854775808 : Int))) = true then m - 18446744073709551616 else m) = x % 18446744073709551616
  simp only [Bool.false_and, Bool.false_eq_true, if_false]

/-! the order -/
def LL : Int := 7237005577332262213973186563042994240857116359379907606001950938285454250989
def RI : Int := 4458503529701987551646482192314240623644693141688353256590997718326214331684

/-- Montgomery's product, as a number -/
theorem mont_gen {T AB M R Q L RI : Int} (h : R * T = AB + M * L) (hR : R * RI = 1 + L * Q) : T % L = AB * RI % L := by
  have e : T = AB * RI + L * (M * RI - Q * T) := by
    have h3 : R * T * RI = (AB + M * L) * RI := by rw [h]
    have h4 : R * T * RI = T * (R * RI) := by rw [Int.mul_comm R T, Int.mul_assoc]
    have h5 : (AB + M * L) * RI = AB * RI + L * (M * RI) := by rw [Int.add_mul, Int.mul_comm M L, Int.mul_assoc]
    have h6 : T * (L * Q) = L * (Q * T) := by rw [Int.mul_left_comm, Int.mul_comm T]
    rw [hR, Int.mul_add, Int.mul_one, h6] at h4
    rw [Int.mul_sub]
    generalize L * (M * RI) = a at *
    generalize L * (Q * T) = b at *
    generalize AB * RI = c at *
    generalize R * T * RI = d at *
    omega
  rw [e, Int.add_mul_emod_self_left]
theorem mont_num {T AB M : Int} (h : 115792089237316195423570985008687907853269984665640564039457584007913129639936 * T = AB + M * LL) : T % LL = AB * RI % LL :=
  mont_gen (Q := 71336056475231800826343715077027849978041630819377026201054086228062141447707) h (by decide +kernel)

/-- twice, the second time by the square of 2^256: the product -/
theorem mont_twice (AB : Int) : (AB * RI % LL) * 1627715501170711445284395025044413883736156588369414752970002579683115011841 * RI % LL = AB % LL := by
  rw [Int.mul_assoc, Int.mul_emod, Int.emod_emod_of_dvd _ (Int.dvd_refl LL), ← Int.mul_emod, Int.mul_assoc, Int.mul_emod]
  have : RI * (1627715501170711445284395025044413883736156588369414752970002579683115011841 * RI) % LL = 1 := by decide +kernel
  rw [this, Int.mul_one, Int.emod_emod_of_dvd _ (Int.dvd_refl LL)]

end Go.Proofs.Ytcpoldghkiiggaa.X
