/- Power of the program, as a number. -/
import Derived.Test.YtcpoldghkiiggaaQG
namespace Go.Proofs.Ytcpoldghkiiggaa.X
open Go Go.Proofs
set_option linter.unusedVariables false
set_option maxRecDepth 100000

def powV (a e : List Int) : Int := modL (BV a ^ nb e)
theorem powV_rng (a e : List Int) : 0 ≤ powV a e ∧ powV a e < LL ∧ powV a e < 115792089237316195423570985008687907853269984665640564039457584007913129639936 := modL_rng _
theorem BV_pow (a e : List Int) : BV (B32 (powV a e)) = powV a e := BV_modL _
theorem pgP_eq (a e : List Int) (n : Nat) : pgP a n e = B32 (powV a e) := by
  unfold pgP powV
  rw [pwS_fin]
theorem pgP_num (a : List Int) (n nm : Nat) (e : List Int) (cap0 : Nat) (h0 : nm = n) (h1 : n ≤ 140737488351232) (h2 : Byt e) (h3 : Byt a) (w : World) (β : Env) : Body Try.prog (tabOf tabQG) Try.f54 ⟨w, [], 1, β⟩ [.o (.g [.ints .u8 (32 : Nat) a]), .o (.a (.sl 0 (0 : Nat) n cap0))] [some ⟨false, [.ints .u8 nm e]⟩] (fun ys _ => ys = [.g [.ints .u8 (32 : Nat) (B32 (powV a e))]]) := pgP_eq a e n ▸ pgP_body a n nm e cap0 h0 h1 h2 h3 w β
end Go.Proofs.Ytcpoldghkiiggaa.X
