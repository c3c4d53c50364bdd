/- Power of the reference, as a number; squares. -/
import Derived.Test.YtcpoldghkiiggaaQH
namespace Go.Proofs.Ytcpoldghkiiggaa.X
open Go Go.Proofs
set_option linter.unusedVariables false
set_option maxRecDepth 100000

theorem prP_eq (a e : List Int) (n : Nat) : prP a n e = B32 (powV a e) := by
  unfold prP powV
  rw [pwR_fin]
theorem prP_num (a : List Int) (n nm : Nat) (e : List Int) (cap0 : Nat) (h0 : nm = n) (h1 : n ≤ 140737488351232) (h2 : Byt e) (h3 : Byt a) (w : World) (β : Env) : Body Try.prog (tabOf tabQH) Try.f55 ⟨w, [], 1, β⟩ [.o (.g [.ints .u8 (32 : Nat) a]), .o (.a (.sl 0 (0 : Nat) n cap0))] [some ⟨false, [.ints .u8 nm e]⟩] (fun ys _ => ys = [.g [.ints .u8 (32 : Nat) (B32 (powV a e))]]) := prP_eq a e n ▸ prP_body a n nm e cap0 h0 h1 h2 h3 w β
def powW (S E : List Int) : Int := modL (V4 S ^ (V4 E).toNat)
theorem powW_eq {S E : List Int} (hE : Wds E) (l : E.length = 4) : powA S E = W4 (powW S E) := by
  have hn : V4 E = (((V4 E).toNat : Nat) : Int) := by have := (V4_rng hE l).1; omega
  unfold powA
  rw [V4_radx, V4_one, montI, montI]
  have e : modL (1 * 115792089237316195423570985008687907853269984665640564039457584007913129639936) = sqr (V4 S) 0 := by unfold sqr; rw [Int.pow_zero]
  rw [e, rP_eq hE l (V4 S) hn 256 (Nat.le_refl _), sqr_V, Nat.sub_self, Nat.pow_zero, Nat.div_one]
  unfold sqr powW
  rw [mont1]
theorem pow100_num (S E : List Int) (h0 : Wds S) (h1 : Wds E) (w : World) : Body Try.prog (tabOf tabOQ) Try.f100 ⟨w, [], 0, noEnv⟩ (toA [.g [.ints .u64 (4 : Nat) S], .g [.ints .u64 (4 : Nat) E]]) [] (fun ys _ => ys = [.g [.ints .u64 (4 : Nat) (W4 (powW S E))]]) :=
  Body.lens (c := (Try.f100.body.getD .skip)) rfl fun h => powW_eq (S := S) h1 (h.vals 1 _ _ _ rfl) ▸ powA_body S E h0 h1 w
theorem powW_rng (S E : List Int) : 0 ≤ powW S E ∧ powW S E < 115792089237316195423570985008687907853269984665640564039457584007913129639936 := modL_b2 _

def eHalf : Nat := (LL.toNat - 1) / 2
/-- a to half of the order less 1 -/
def lgP (a : List Int) : Int := modL (BV a ^ eHalf)
def legI (a : List Int) : Int := if lgP a = 0 then 0 else if lgP a = 1 then 1 else -1
theorem lgP_b (a : List Int) : 0 ≤ lgP a ∧ lgP a < 115792089237316195423570985008687907853269984665640564039457584007913129639936 := modL_b2 _
theorem W4_1 : W4 1 = [1, 0, 0, 0] := by decide +kernel
theorem W4_inj {x y : Int} (hx : 0 ≤ x ∧ x < 115792089237316195423570985008687907853269984665640564039457584007913129639936) (hy : 0 ≤ y ∧ y < 115792089237316195423570985008687907853269984665640564039457584007913129639936) (h : W4 x = W4 y) : x = y := by
  rw [← V4_W4 hx.1 hx.2, h, V4_W4 hy.1 hy.2]
theorem W4_one {v : Int} (h : 0 ≤ v ∧ v < 115792089237316195423570985008687907853269984665640564039457584007913129639936) : W4 v = [1, 0, 0, 0] ↔ v = 1 := by
  rw [← W4_1]
  exact ⟨fun e => W4_inj h (by omega) e, fun e => by rw [e]⟩
theorem lg_prog {a E : List Int} (h : V4 E = ((eHalf : Nat) : Int)) : powW (W4 (modL (BV a))) E = lgP a := by
  unfold powW lgP
  rw [h, Int.toNat_natCast, V4_modL, modL_pow]
theorem lg_ref {a e : List Int} (h : nb e = eHalf) : powV a e = lgP a := by
  unfold powV lgP
  rw [h]
theorem wd8_small {s : List Int} (h : (s.all fun x => decide (0 ≤ x ∧ x < 4294967296)) = true) : Wd8 s := by
  intro x hx
  simpa using List.all_eq_true.1 h x hx
theorem B32_lg0 {a : List Int} : B32 (lgP a) = [0, 0, 0, 0, 0, 0, 0, 0, 0, 0, 0, 0, 0, 0, 0, 0, 0, 0, 0, 0, 0, 0, 0, 0, 0, 0, 0, 0, 0, 0, 0, 0] ↔ lgP a = 0 := by unfold lgP; exact B32_zero
theorem B32_lg1 {a : List Int} : B32 (lgP a) = [1, 0, 0, 0, 0, 0, 0, 0, 0, 0, 0, 0, 0, 0, 0, 0, 0, 0, 0, 0, 0, 0, 0, 0, 0, 0, 0, 0, 0, 0, 0, 0] ↔ lgP a = 1 := by
  rw [← B32_one]
  exact ⟨fun e => B32_inj (lgP_b a) (by omega) e, fun e => by rw [e]⟩
end Go.Proofs.Ytcpoldghkiiggaa.X
