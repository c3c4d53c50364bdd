/- Texts of this session, put together (part 4), less what nothing uses. -/
import Derived.Test.YtodiojpakfjehaaZown3
import Derived.KernelRfl
/- Extended coordinates of points, and multiples of points. -/
namespace Go.Proofs.Ytodiojpakfjehaa.X
set_option linter.unusedVariables false
set_option maxRecDepth 100000
section
variable {K : Type} [Lean.Grind.CommRing K] {d i : K} {v : K → K}
/-- X, Y, Z, T stand for the point P -/
def Rep (X Y Z T : K) (P : K × K) : Prop := Z ≠ 0 ∧ X = P.1*Z ∧ Y = P.2*Z ∧ T = P.1*P.2*Z
theorem rep_zero (C : Cu d i v) : Rep (0 : K) 1 1 0 pzero := ⟨C.one, by unfold pzero; grind, by unfold pzero; grind, by unfold pzero; grind⟩
theorem rep_aff (C : Cu d i v) (x y : K) : Rep x y 1 (x*y) (x, y) := ⟨C.one, by grind, by grind, by grind⟩
theorem rep_add0 (C : Cu d i v) {X1 Y1 Z1 T1 X2 Y2 Z2 T2 E F G H : K} {P Q : K × K} (h1 : Rep X1 Y1 Z1 T1 P) (h2 : Rep X2 Y2 Z2 T2 Q) (o1 : On d P) (o2 : On d Q)
    (hE : E = X1*Y2 + Y1*X2) (hF : F = Z1*Z2 - d*(T1*T2)) (hG : G = Z1*Z2 + d*(T1*T2)) (hH : H = Y1*Y2 + X1*X2) : Rep (E*F) (G*H) (F*G) (E*H) (padd d v P Q) := by
  have p := C.pos o1 o2; have n := C.neg o1 o2
  have ip := C.inv _ p; have jn := C.inv _ n
  obtain ⟨z1, rfl, rfl, rfl⟩ := h1; obtain ⟨z2, rfl, rfl, rfl⟩ := h2
  obtain ⟨x1, y1⟩ := P; obtain ⟨x2, y2⟩ := Q
  have zz := C.nz z1 z2
  have eF : F = (Z1*Z2)*(1 - den d (x1, y1) (x2, y2)) := by rw [hF]; unfold den; simp only; clear ip jn p n o1 o2; grind
  have eG : G = (Z1*Z2)*(1 + den d (x1, y1) (x2, y2)) := by rw [hG]; unfold den; simp only; clear ip jn p n o1 o2; grind
  have eE : E = (Z1*Z2)*(x1*y2 + y1*x2) := by rw [hE]; clear ip jn p n o1 o2; grind
  have eH : H = (Z1*Z2)*(y1*y2 + x1*x2) := by rw [hH]; clear ip jn p n o1 o2; grind
  clear hE hF hG hH o1 o2
  unfold padd
  simp only
  generalize 1 + den d (x1, y1) (x2, y2) = s at *
  generalize 1 - den d (x1, y1) (x2, y2) = t at *
  generalize Z1*Z2 = z at *
  generalize v s = a at *
  generalize v t = b at *
  subst eF eG eE eH
  refine ⟨C.nz (C.nz zz n) (C.nz zz p), ?_, ?_, ?_⟩
  · generalize x1*y2 + y1*x2 = u
    have : u*a*(z*t*(z*s)) = u*(s*a)*(z*(z*t)) := by grind
    simp only
    rw [this, ip]; grind
  · generalize y1*y2 + x1*x2 = u
    have : u*b*(z*t*(z*s)) = u*(t*b)*(z*(z*s)) := by grind
    simp only
    rw [this, jn]; grind
  · simp only
    generalize x1*y2 + y1*x2 = u
    generalize y1*y2 + x1*x2 = u2
    have : u*a*(u2*b)*(z*t*(z*s)) = (u*(s*a))*(u2*(t*b))*(z*z) := by grind
    rw [this, ip, jn]; grind
theorem rep_dbl0 (C : Cu d i v) {X Y Z T E F G H : K} {P : K × K} (h : Rep X Y Z T P) (o : On d P)
    (hE : E = -(2*(X*Y))) (hF : F = 2*(Z*Z) + (X*X - Y*Y)) (hG : G = X*X - Y*Y) (hH : H = X*X + Y*Y) : Rep (E*F) (G*H) (F*G) (E*H) (padd d v P P) := by
  have k := rep_add0 C (E := 2*(X*Y)) (F := Z*Z - d*(T*T)) (G := Z*Z + d*(T*T)) (H := Y*Y + X*X) h h o o (by grind) rfl rfl rfl
  obtain ⟨z, rfl, rfl, rfl⟩ := h
  obtain ⟨x, y⟩ := P
  unfold On at o
  simp only at *
  have eF : F = Z*Z - d*(x*y*Z*(x*y*Z)) := by
    rw [hF]
    have : x*Z*(x*Z) - y*Z*(y*Z) = -((y*y - x*x)*(Z*Z)) := by clear k; grind
    rw [this, o]; clear k o; grind
  have eG : G = -(Z*Z + d*(x*y*Z*(x*y*Z))) := by
    rw [hG]
    have : x*Z*(x*Z) - y*Z*(y*Z) = -((y*y - x*x)*(Z*Z)) := by clear k; grind
    rw [this, o]; clear k o; grind
  rw [eF, eG, hE, hH]
  clear eF eG hE hH hF hG o
  generalize Z*Z - d*(x*y*Z*(x*y*Z)) = f at *
  generalize Z*Z + d*(x*y*Z*(x*y*Z)) = g at *
  generalize padd d v (x, y) (x, y) = R at *
  obtain ⟨k0, k1, k2, k3⟩ := k
  refine ⟨fun h => k0 (by grind), ?_, ?_, ?_⟩
  · have : R.1*(f * -g) = -(R.1*(f*g)) := by grind
    rw [this, ← k1]; grind
  · have : R.2*(f * -g) = -(R.2*(f*g)) := by grind
    rw [this, ← k2]; grind
  · have : R.1*R.2*(f * -g) = -(R.1*R.2*(f*g)) := by grind
    rw [this, ← k3]; grind
/-- two quadruples for one point give the same quotients -/
theorem rep_quo (C : Cu d i v) {X Y Z T : K} {P : K × K} (h : Rep X Y Z T P) : X * v Z = P.1 ∧ Y * v Z = P.2 := by
  obtain ⟨z, rfl, rfl, _⟩ := h
  exact ⟨(C.div z).2 rfl, (C.div z).2 rfl⟩
theorem rep_uniq (C : Cu d i v) {X Y Z T : K} {P Q : K × K} (h : Rep X Y Z T P) (k : Rep X Y Z T Q) : P = Q := by
  have a := rep_quo C h; have b := rep_quo C k
  exact Prod.ext (a.1.symm.trans b.1) (a.2.symm.trans b.2)
/-- points of the curve -/
def Ep (d : K) := {P : K × K // On d P}
theorem Ep.ext {P Q : Ep d} (h : P.1 = Q.1) : P = Q := Subtype.ext h
def eadd (C : Cu d i v) (P Q : Ep d) : Ep d := ⟨padd d v P.1 Q.1, padd_on C P.2 Q.2⟩
def eneg (P : Ep d) : Ep d := ⟨pneg P.1, neg_on P.2⟩
def ezero : Ep d := ⟨pzero, zero_on⟩
end
/-- a commutative group -/
structure AbG {G : Type} (add : G → G → G) (zero : G) (neg : G → G) : Prop where
  assoc : ∀ a b c, add (add a b) c = add a (add b c)
  comm : ∀ a b, add a b = add b a
  zr : ∀ a, add a zero = a
  ng : ∀ a, add a (neg a) = zero
section
variable {K : Type} [Lean.Grind.CommRing K] {d i : K} {v : K → K}
theorem ep_group (C : Cu d i v) : AbG (eadd C) (ezero (d := d)) eneg :=
  ⟨fun a b c => Ep.ext (padd_assoc C a.2 b.2 c.2), fun a b => Ep.ext (padd_comm _ _), fun a => Ep.ext (padd_zero C _), fun a => Ep.ext (padd_neg C a.2)⟩
end
section
variable {G : Type} {add : G → G → G} {zero : G} {neg : G → G}
def gmul (add : G → G → G) (zero : G) : Nat → G → G
  | 0, _ => zero
  | n + 1, a => add (gmul add zero n a) a
theorem AbG.zero' (A : AbG add zero neg) (a : G) : add zero a = a := by rw [A.comm, A.zr]
theorem AbG.cancel (A : AbG add zero neg) {a b c : G} (h : add a c = add b c) : a = b := by
  have := congrArg (fun z => add z (neg c)) h
  simp only [A.assoc, A.ng, A.zr] at this
  exact this
theorem AbG.neg_eq (A : AbG add zero neg) {a b : G} (h : add a b = zero) : b = neg a := by
  apply A.cancel (c := a)
  rw [A.comm b a, h, A.comm (neg a) a, A.ng]
theorem AbG.mul_one (A : AbG add zero neg) (a : G) : gmul add zero 1 a = a := A.zero' a
theorem AbG.mul_add (A : AbG add zero neg) (m n : Nat) (a : G) : gmul add zero (m + n) a = add (gmul add zero m a) (gmul add zero n a) := by
  induction n with
  | zero => exact (A.zr _).symm
  | succ n ih =>
    show add (gmul add zero (m + n) a) a = add _ (add (gmul add zero n a) a)
    rw [ih, A.assoc]
theorem AbG.mul_zero (A : AbG add zero neg) (n : Nat) : gmul add zero n zero = zero := by
  induction n with
  | zero => rfl
  | succ n ih => show add (gmul add zero n zero) zero = zero; rw [ih, A.zr]
theorem AbG.mul_mul (A : AbG add zero neg) (m n : Nat) (a : G) : gmul add zero (m * n) a = gmul add zero m (gmul add zero n a) := by
  induction m with
  | zero => rw [Nat.zero_mul]; rfl
  | succ m ih =>
    rw [Nat.succ_mul, A.mul_add, ih]; rfl
theorem AbG.mul_dist (A : AbG add zero neg) (n : Nat) (a b : G) : gmul add zero n (add a b) = add (gmul add zero n a) (gmul add zero n b) := by
  induction n with
  | zero => exact (A.zr _).symm
  | succ n ih =>
    show add (gmul add zero n (add a b)) (add a b) = add (add _ a) (add _ b)
    rw [ih, A.assoc, A.assoc, ← A.assoc _ a b, ← A.assoc a _ b, A.comm (gmul add zero n b) a]
theorem AbG.mul_comm (A : AbG add zero neg) (m n : Nat) (a : G) : gmul add zero m (gmul add zero n a) = gmul add zero n (gmul add zero m a) := by
  rw [← A.mul_mul, ← A.mul_mul, Nat.mul_comm]
/-- multiples below the order are apart -/
theorem AbG.apart (A : AbG add zero neg) {M : Nat} {g : G} (ho : ∀ k, 0 < k → k < M → gmul add zero k g ≠ zero) {j k : Nat} (hj : j < M) (hk : k < M) (h : gmul add zero j g = gmul add zero k g) : j = k := by
  have key : ∀ a b, a < b → b < M → gmul add zero a g = gmul add zero b g → False := by
    intro a b hab hb h
    have e : b = (b - a) + a := by omega
    rw [e, A.mul_add] at h
    have h2 : add zero (gmul add zero a g) = add (gmul add zero (b - a) g) (gmul add zero a g) := by rw [A.zero']; exact h
    exact ho (b - a) (by omega) (by omega) (A.cancel h2).symm
  rcases Nat.lt_trichotomy j k with h1 | h1 | h1
  · exact (key j k h1 hk h).elim
  · exact h1
  · exact (key k j h1 hj h.symm).elim
theorem pigeon : ∀ (m n : Nat) (f : Nat → Nat), (∀ i, i < n → f i < m) → (∀ i j, i < n → j < n → f i = f j → i = j) → n ≤ m
  | 0, n, f, h, _ => by
    rcases Nat.eq_zero_or_pos n with h0 | h0
    · omega
    · have := h 0 h0; omega
  | m + 1, n, f, h, hi => by
    rcases Nat.eq_zero_or_pos n with h0 | h0
    · omega
    · -- swap the last value with the place that has m
      have key := pigeon m (n - 1) (fun i => if f i = m then f (n - 1) else f i) (by
        intro i hi'
        split
        · rename_i he
          have := h (n - 1) (by omega)
          have : f (n - 1) ≠ m := fun hc => by have := hi i (n - 1) (by omega) (by omega) (he.trans hc.symm); omega
          omega
        · rename_i hne
          have := h i (by omega)
          omega) (by
        intro i j hi' hj' he

        split at he
        · rename_i h1
          split at he
          · rename_i h2; exact hi i j (by omega) (by omega) (h1.trans h2.symm)
          · have := hi (n - 1) j (by omega) (by omega) he; omega
        · rename_i h1
          split at he
          · have := hi i (n - 1) (by omega) (by omega) he; omega
          · exact hi i j (by omega) (by omega) he)
      omega
/-- a group with fewer than 2 M elements that has an element of order M is the multiples of it -/
theorem AbG.cyclic (A : AbG add zero neg) {M N : Nat} {g : G} (hM : 0 < M) (h0 : gmul add zero M g = zero) (ho : ∀ k, 0 < k → k < M → gmul add zero k g ≠ zero)
    (f : G → Nat) (hf : ∀ a, f a < N) (hi : ∀ a b, f a = f b → a = b) (hN : N < 2 * M) (a : G) : ∃ k, k < M ∧ a = gmul add zero k g := by
  refine Classical.byContradiction fun hn => ?_
  have hn : ∀ k, k < M → a ≠ gmul add zero k g := fun k hk he => hn ⟨k, hk, he⟩
  have := pigeon N (2 * M) (fun j => f (if j < M then gmul add zero j g else add a (gmul add zero (j - M) g))) (fun _ _ => hf _) (by
    intro j k hj hk h
    have h := hi _ _ h
    -- a mixed case would put a among the multiples
    have mixed : ∀ j k, j < M → k < M → gmul add zero j g = add a (gmul add zero k g) → False := by
      intro j k hj hk h
      have e1 : gmul add zero (M - k) g = neg (gmul add zero k g) := by
        apply A.neg_eq
        rw [← A.mul_add, show k + (M - k) = M by omega, h0]
      have e2 : a = gmul add zero (j + (M - k)) g := by
        rw [A.mul_add, h, e1, A.assoc, A.ng, A.zr]
      by_cases hlt : j + (M - k) < M
      · exact hn _ hlt e2
      · have e3 : j + (M - k) = M + (j - k) := by omega
        rw [e3, A.mul_add, h0, A.zero'] at e2
        exact hn (j - k) (by omega) e2
    split at h
    · rename_i hj'
      split at h
      · rename_i hk'; exact A.apart ho hj' hk' h
      · exact (mixed j (k - M) hj' (by omega) h).elim
    · split at h
      · rename_i hk'; exact (mixed k (j - M) hk' (by omega) h.symm).elim
      · rw [A.comm a, A.comm a] at h
        have := A.apart ho (by omega) (by omega) (A.cancel h)
        omega)
  omega
end
end Go.Proofs.Ytodiojpakfjehaa.X

/- The field of 2^255 - 19 elements, and the curve's constants. -/
namespace Go.Proofs.Ytodiojpakfjehaa.X
set_option linter.unusedVariables false
set_option maxRecDepth 100000

theorem prm_s127 : Prm 127 := prm_small (f := 12) (by decide) (by decide +kernel)
theorem prm_s75707 : Prm 75707 := prm_small (f := 280) (by decide) (by decide +kernel)
theorem prm_s1923133 : Prm 1923133 := prm_small (f := 1390) (by decide) (by decide +kernel)
theorem prm_s8574133 : Prm 8574133 := prm_small (f := 2930) (by decide) (by decide +kernel)
theorem prm_p3 : Prm 1919519569386763 := cert2 (q := 8574133) (r := 223873314) (s := 127) (t := 15114327318006) (a := 2) (f := 51) prm_s8574133 prm_s127 (by decide +kernel)
theorem prm_p2 : Prm 75445702479781427272750846543864801 := cert2 (q := 1919519569386763) (r := 39304471641247389600) (s := 75707) (t := 996548568557483816196003626400) (a := 2) (f := 116) prm_p3 prm_s75707 (by decide +kernel)
theorem prm_p1 : Prm 74058212732561358302231226437062788676166966415465897661863160754340907 := cert2 (q := 75445702479781427272750846543864801) (r := 981609426360740691344999861639072106) (s := 1923133) (t := 38509147694185143878364744631319200843710219946028640589009268082) (a := 2) (f := 236) prm_p2 prm_s1923133 (by decide +kernel)
def PP : Nat := 57896044618658097711785492504343953926634992332820282019728792003956564819949
theorem prm_PP : Prm PP := cert1 (q := 74058212732561358302231226437062788676166966415465897661863160754340907) (r := 781764) (a := 2) (f := 255) prm_p1 (by decide +kernel)
instance : NeZero PP := ⟨by decide⟩
abbrev Fp := Fin PP
/-- a whole number as an element -/
def fI (z : Int) : Fp := ⟨(z % (PP : Int)).toNat, by
  have h1 := Int.emod_lt_of_pos z (show (0 : Int) < (PP : Int) by decide)
  have h2 := Int.emod_nonneg z (show (PP : Int) ≠ 0 by decide)
  omega⟩
theorem fI_val (z : Int) : ((fI z).val : Int) = z % (PP : Int) := by
  have h2 := Int.emod_nonneg z (show (PP : Int) ≠ 0 by decide)
  show (((z % (PP : Int)).toNat : Nat) : Int) = _
  omega
theorem fp_ext {a b : Fp} (h : (a.val : Int) = (b.val : Int)) : a = b := Fin.ext (by omega)
theorem fI_eq {a b : Int} : fI a = fI b ↔ a % (PP : Int) = b % (PP : Int) := by
  constructor
  · intro h; rw [← fI_val, ← fI_val, h]
  · intro h; exact fp_ext (by rw [fI_val, fI_val, h])
theorem fI_add (a b : Int) : fI (a + b) = fI a + fI b := by
  apply fp_ext
  rw [fI_val, Fin.val_add, Int.natCast_emod, Int.natCast_add, fI_val, fI_val, ← Int.add_emod]
theorem fI_mul (a b : Int) : fI (a * b) = fI a * fI b := by
  apply fp_ext
  rw [fI_val, Fin.val_mul, Int.natCast_emod, Int.natCast_mul, fI_val, fI_val, ← Int.mul_emod]
theorem fI_0 : fI 0 = 0 := by decide +kernel
theorem fI_1 : fI 1 = 1 := by decide +kernel
theorem fI_neg (a : Int) : fI (-a) = -fI a := by
  have h : fI (-a) + fI a = 0 := by rw [← fI_add, show -a + a = 0 by omega, fI_0]
  generalize fI (-a) = x at *
  generalize fI a = y at *
  grind
theorem fI_sub (a b : Int) : fI (a - b) = fI a - fI b := by rw [show a - b = a + -b by omega, fI_add, fI_neg]; generalize fI a = x; generalize fI b = y; grind
theorem fI_self (a : Fp) : fI (a.val : Int) = a := by
  apply fp_ext
  rw [fI_val, Int.emod_eq_of_lt (by omega) (by have := a.isLt; omega)]
def fpw (a : Fp) : Nat → Fp
  | 0 => 1
  | n + 1 => fpw a n * a
theorem fpw_add (a : Fp) (m n : Nat) : fpw a (m + n) = fpw a m * fpw a n := by
  induction n with
  | zero => show fpw a m = fpw a m * 1; generalize fpw a m = z; grind
  | succ n ih => show fpw a (m + n) * a = fpw a m * (fpw a n * a); rw [ih]; generalize fpw a m = z; generalize fpw a n = y; grind
theorem fpw_1 (a : Fp) : fpw a 1 = a := by show 1 * a = a; grind
theorem fpw_mul (a : Fp) (m n : Nat) : fpw a (m * n) = fpw (fpw a m) n := by
  induction n with
  | zero => rw [Nat.mul_zero]; rfl
  | succ n ih => rw [Nat.mul_succ, fpw_add, ih]; rfl
theorem fpw_dist (a b : Fp) (n : Nat) : fpw (a * b) n = fpw a n * fpw b n := by
  induction n with
  | zero => show (1 : Fp) = 1 * 1; grind
  | succ n ih => show fpw (a * b) n * (a * b) = fpw a n * a * (fpw b n * b); rw [ih]; generalize fpw a n = z; generalize fpw b n = y; grind
theorem fpw_val (a : Fp) (n : Nat) : (fpw a n).val = a.val ^ n % PP := by
  induction n with
  | zero => rfl
  | succ n ih => show (fpw a n * a).val = _; rw [Fin.val_mul, ih, Nat.pow_succ, Nat.mod_mul_mod]
theorem fpw_zero {n : Nat} (h : 0 < n) : fpw 0 n = 0 := by
  obtain ⟨m, rfl⟩ : ∃ m, n = m + 1 := ⟨n - 1, by omega⟩
  show fpw 0 m * 0 = 0
  generalize fpw 0 m = z; grind
theorem fp_ndvd {a : Fp} (h : a ≠ 0) : ¬ PP ∣ a.val := by
  intro hd
  apply h
  have h1 := a.isLt
  rcases Nat.eq_zero_or_pos a.val with h2 | h2
  · exact Fin.ext h2
  · have := Nat.le_of_dvd h2 hd; omega
theorem fp_fermat {a : Fp} (h : a ≠ 0) : fpw a (PP - 1) = 1 := by
  apply Fin.ext
  rw [fpw_val, flt prm_PP (fp_ndvd h)]
  rfl
theorem nInv_ex : ∃ n : Nat, n = PP - 2 := ⟨_, rfl⟩
/-- p - 2, a number that is not to be unfolded -/
noncomputable def nInv : Nat := Classical.choose nInv_ex
theorem nInv_eq : nInv = PP - 2 := Classical.choose_spec nInv_ex
/-- the inverse; of 0 it is 0 -/
noncomputable def finv (a : Fp) : Fp := fpw a nInv
theorem finv_mul {a : Fp} (h : a ≠ 0) : a * finv a = 1 := by
  have h1 := fp_fermat h
  rw [show PP - 1 = (PP - 2) + 1 by decide, fpw_add, fpw_1] at h1
  unfold finv
  rw [nInv_eq]
  generalize fpw a (PP - 2) = z at *
  grind
def cD : Fp := fI 37095705934669439343138083508754565189542113879843219016388785533085940283555
def cI : Fp := fI 19681161376707505956807079304988542015446066515923890162744021073123829784752
theorem cI_sq : cI * cI = -1 := by decide +kernel
theorem fpw_pwm (a : Fp) {n f : Nat} (h : n < 2 ^ f) : (fpw a n).val = pwm PP f a.val n := by rw [fpw_val, pwm_eq _ _ _ _ h]
theorem cD_half : fpw cD ((PP - 1) / 2) = -1 := by
  apply Fin.ext
  rw [fpw_pwm cD (f := 255) (by decide +kernel)]
  decide +kernel
theorem fp_dom {a b : Fp} (h : a * b = 0) : a = 0 ∨ b = 0 := by
  by_cases ha : a = 0
  · exact .inl ha
  · right
    have h1 := finv_mul ha
    have : b = (a * finv a) * b := by rw [h1]; grind
    have h2 : (a * finv a) * b = finv a * (a*b) := by generalize finv a = z; grind
    rw [this, h2, h]; generalize finv a = z; grind
theorem cD_ns (x : Fp) : x * x ≠ cD := by
  intro h
  have h1 := cD_half
  rw [← h] at h1
  have h2 : x * x = fpw x 2 := by show x * x = 1 * x * x; grind
  rw [h2, ← fpw_mul] at h1
  by_cases hx : x = 0
  · rw [hx, fpw_zero (by decide +kernel)] at h1
    exact absurd h1 (by decide +kernel)
  · rw [show 2 * ((PP - 1) / 2) = PP - 1 by decide +kernel, fp_fermat hx] at h1
    exact absurd h1 (by decide +kernel)
theorem fp_curve : Cu cD cI finv :=
  ⟨fun _ h => finv_mul h, by unfold finv; rw [nInv_eq]; exact fpw_zero (by decide +kernel), by decide +kernel, by decide +kernel, cI_sq, cD_ns⟩
end Go.Proofs.Ytodiojpakfjehaa.X

/- The points are the multiples of one point of order 8 L. -/
namespace Go.Proofs.Ytodiojpakfjehaa.X
set_option linter.unusedVariables false
set_option maxRecDepth 100000

abbrev E := Ep cD
noncomputable def ad : E → E → E := eadd fp_curve
def E0 : E := ezero
def ng : E → E := eneg
theorem eG : AbG ad E0 ng := ep_group fp_curve
noncomputable def mu : Nat → E → E := gmul ad E0
structure Q4 where
  x : Fp
  y : Fp
  z : Fp
  t : Fp
def q0 : Q4 := ⟨0, 1, 1, 0⟩
def qef (E F G H : Fp) : Q4 := ⟨E*F, G*H, F*G, E*H⟩
def qadd (P Q : Q4) : Q4 := qef (P.x*Q.y + P.y*Q.x) (P.z*Q.z - cD*(P.t*Q.t)) (P.z*Q.z + cD*(P.t*Q.t)) (P.y*Q.y + P.x*Q.x)
def qdbl (P : Q4) : Q4 := qef (-(2*(P.x*P.y))) (2*(P.z*P.z) + (P.x*P.x - P.y*P.y)) (P.x*P.x - P.y*P.y) (P.x*P.x + P.y*P.y)
def qaff (x y : Fp) : Q4 := ⟨x, y, 1, x*y⟩
def QR (Q : Q4) (P : E) : Prop := Rep Q.x Q.y Q.z Q.t P.1
theorem qr_0 : QR q0 E0 := rep_zero fp_curve
theorem qr_add {P Q : Q4} {p q : E} (h : QR P p) (k : QR Q q) : QR (qadd P Q) (ad p q) := rep_add0 fp_curve h k p.2 q.2 rfl rfl rfl rfl
theorem qr_dbl {P : Q4} {p : E} (h : QR P p) : QR (qdbl P) (ad p p) := rep_dbl0 fp_curve h p.2 rfl rfl rfl rfl
theorem qr_aff (p : E) : QR (qaff p.1.1 p.1.2) p := rep_aff fp_curve p.1.1 p.1.2
theorem qr_zero {P : Q4} {p : E} (h : QR P p) : p = E0 ↔ P.x = 0 ∧ P.y = P.z := by
  obtain ⟨h0, h1, h2, h3⟩ := h
  constructor
  · rintro rfl
    rw [h1, h2]
    show (0 : Fp)*P.z = 0 ∧ (1 : Fp)*P.z = P.z
    generalize P.z = z
    exact ⟨by grind, by grind⟩
  · rintro ⟨e1, e2⟩
    refine Ep.ext (Prod.ext ?_ ?_)
    · rcases fp_dom (h1.symm.trans e1) with h | h
      · exact h
      · exact absurd h h0
    · apply fp_curve.can h0
      rw [← h2, e2]
      show P.z = 1*P.z
      generalize P.z = z; grind
/-- multiples by bits, the highest first -/
def qmul (P : Q4) : List Bool → Q4 → Q4
  | [], R => R
  | b :: l, R => qmul P l (if b then qadd (qdbl R) P else qdbl R)
def bval : List Bool → Nat → Nat
  | [], n => n
  | b :: l, n => bval l (if b then n + n + 1 else n + n)
theorem qr_mul {P : Q4} {p : E} (h : QR P p) : ∀ (l : List Bool) (R : Q4) (n : Nat), QR R (mu n p) → QR (qmul P l R) (mu (bval l n) p)
  | [], _, _, k => k
  | b :: l, R, n, k => by
    show QR (qmul P l _) (mu (bval l _) p)
    apply qr_mul h
    have k2 : QR (qdbl R) (mu (n + n) p) := by
      show QR _ (gmul ad E0 (n + n) p)
      rw [eG.mul_add]; exact qr_dbl k
    cases b
    · exact k2
    · exact qr_add k2 h
def bitsOf : Nat → Nat → List Bool → List Bool
  | 0, _, l => l
  | f + 1, n, l => bitsOf f (n / 2) ((n % 2 == 1) :: l)
theorem bval_bits : ∀ (f n : Nat) (l : List Bool), n < 2 ^ f → bval (bitsOf f n l) 0 = bval l n
  | 0, n, l, h => by have : n = 0 := by rw [Nat.pow_zero] at h; omega
                     subst this; rfl
  | f + 1, n, l, h => by
    show bval (bitsOf f (n / 2) _) 0 = _
    rw [bval_bits f (n / 2) _ (by rw [Nat.pow_succ] at h; omega)]
    show bval l _ = bval l n
    congr 1
    by_cases hb : n % 2 = 1
    · rw [if_pos (by simpa using hb)]; omega
    · rw [if_neg (by simpa using hb)]; omega
theorem qr_mulN {P : Q4} {p : E} (h : QR P p) {n f : Nat} (hn : n < 2 ^ f) : QR (qmul P (bitsOf f n []) q0) (mu n p) := by
  have := qr_mul h (bitsOf f n []) q0 0 qr_0
  rw [bval_bits f n [] hn] at this
  exact this
def bX : Fp := fI 15112221349535400772501151409588531511454012693041857206046113283949847762202
def bY : Fp := fI 46316835694926478169428394003475163141307993866256225615783033603165251855960
def tX : Fp := fI 14399317868200118260347934320527232580618823971194345261214217575416788799818
def tY : Fp := fI 2707385501144840649318225287225658788936804267575313519463743609750303402022
instance {P : Fp × Fp} : Decidable (On cD P) := inferInstanceAs (Decidable (_ = _))
def eB : E := ⟨(bX, bY), by decide +kernel⟩
def eT : E := ⟨(tX, tY), by decide +kernel⟩
def LN : Nat := 7237005577332262213973186563042994240857116359379907606001950938285454250989
theorem prmL_s531581 : Prm 531581 := prm_small (f := 732) (by decide) (by decide +kernel)
theorem prmL_s1224481 : Prm 1224481 := prm_small (f := 1109) (by decide) (by decide +kernel)
theorem prmL_5 : Prm 1257559732178653 := cert2 (q := 531581) (r := 2365697292) (s := 1224481) (t := 1027014492) (a := 2) (f := 51) prmL_s531581 prmL_s1224481 (by decide +kernel)
theorem prmL_4 : Prm 4434155615661930479 := cert1 (q := 1257559732178653) (r := 3526) (a := 2) (f := 62) prmL_5 (by decide +kernel)
theorem prmL_3 : Prm 172054593956031949258510691 := cert1 (q := 4434155615661930479) (r := 38802110) (a := 2) (f := 88) prmL_4 (by decide +kernel)
theorem prmL_2 : Prm 19757330305831588566944191468367130476339 := cert1 (q := 172054593956031949258510691) (r := 114831751082918) (a := 2) (f := 134) prmL_3 (by decide +kernel)
theorem prmL_1 : Prm 276602624281642239937218680557139826668747 := cert1 (q := 19757330305831588566944191468367130476339) (r := 14) (a := 2) (f := 138) prmL_2 (by decide +kernel)
theorem prm_LN : Prm LN := cert1 (q := 276602624281642239937218680557139826668747) (r := 26163907866482859529727157400808004) (a := 2) (f := 253) prmL_1 (by decide +kernel)
theorem LB_zero : mu LN eB = E0 := (qr_zero (qr_mulN (qr_aff eB) (f := 253) (by decide +kernel))).2 (by decide +kernel)
theorem eB_ne : eB ≠ E0 := fun h => absurd ((qr_zero (qr_aff eB)).1 h) (by decide +kernel)
theorem T8_zero : mu 8 eT = E0 := (qr_zero (qr_mulN (qr_aff eT) (f := 4) (by decide +kernel))).2 (by decide +kernel)
theorem T4_ne : mu 4 eT ≠ E0 := fun h => absurd ((qr_zero (qr_mulN (qr_aff eT) (f := 3) (by decide +kernel))).1 h) (by decide +kernel)
theorem mu_add (m n : Nat) (a : E) : mu (m + n) a = ad (mu m a) (mu n a) := eG.mul_add m n a
theorem mu_mul (m n : Nat) (a : E) : mu (m * n) a = mu m (mu n a) := eG.mul_mul m n a
theorem mu_zero (n : Nat) : mu n E0 = E0 := eG.mul_zero n
theorem mu_one (a : E) : mu 1 a = a := eG.mul_one a
theorem mu_dist (n : Nat) (a b : E) : mu n (ad a b) = ad (mu n a) (mu n b) := eG.mul_dist n a b
theorem ad_zero (a : E) : ad a E0 = a := eG.zr a
theorem ad_zero' (a : E) : ad E0 a = a := eG.zero' a
/-- what is a multiple of a number behind which all is the identity -/
theorem mu_mod {a : E} {m : Nat} (h : mu m a = E0) (n : Nat) : mu (n % m) a = mu n a := by
  conv => rhs; rw [← Nat.div_add_mod n m, mu_add, Nat.mul_comm m, mu_mul, h, mu_zero, ad_zero']
theorem LN_dvd {k : Nat} (h : mu k eB = E0) : LN ∣ k := by
  refine Classical.byContradiction fun hd => eB_ne ?_
  have hc : Nat.gcd k LN = 1 := by
    rcases prm_LN.2 _ (Nat.gcd_dvd_right k LN) with h1 | h1
    · exact h1
    · exact absurd (h1 ▸ Nat.gcd_dvd_left k LN) hd
  -- the multiples that give the identity are closed under the greatest common divisor
  have key : ∀ m n, mu m eB = E0 → mu n eB = E0 → mu (Nat.gcd m n) eB = E0 := by
    intro m n
    induction m, n using Nat.gcd.induction with
    | H0 n => intro _ h; rw [Nat.gcd_zero_left]; exact h
    | H1 m n hm ih =>
      intro h1 h2
      rw [Nat.gcd_rec]
      exact ih (by rw [mu_mod h1]; exact h2) h1
  have := key k LN h LB_zero
  rw [hc, mu_one] at this
  exact this
theorem T_dvd {k : Nat} (h : mu k eT = E0) : 8 ∣ k := by
  rw [← mu_mod T8_zero] at h
  have hk : k % 8 < 8 := Nat.mod_lt _ (by decide)
  refine Classical.byContradiction fun hd => T4_ne ?_
  have h0 : k % 8 ≠ 0 := fun h => hd (Nat.dvd_of_mod_eq_zero h)
  generalize k % 8 = r at *
  have key : ∀ c, mu (c * r) eT = E0 := fun c => by rw [mu_mul, h, mu_zero]
  have four : ∀ c, (c * r) % 8 = 4 → mu 4 eT = E0 := fun c hc => by have := key c; rw [← mu_mod T8_zero, hc] at this; exact this
  clear hd h key
  have h7 : r = 1 ∨ r = 2 ∨ r = 3 ∨ r = 4 ∨ r = 5 ∨ r = 6 ∨ r = 7 := by omega
  rcases h7 with h7 | h7 | h7 | h7 | h7 | h7 | h7
  · exact four 4 (by omega)
  · exact four 2 (by omega)
  · exact four 4 (by omega)
  · exact four 1 (by omega)
  · exact four 4 (by omega)
  · exact four 2 (by omega)
  · exact four 4 (by omega)
/-- a point of order 8 L -/
noncomputable def eg : E := ad eB eT
def NN : Nat := 8 * LN
theorem eg_zero : mu NN eg = E0 := by
  unfold eg
  rw [mu_dist]
  unfold NN
  rw [mu_mul, LB_zero, mu_zero, Nat.mul_comm, mu_mul, T8_zero, mu_zero, ad_zero]
theorem eg_dvd {k : Nat} (h : mu k eg = E0) : NN ∣ k := by
  have h8 : mu (k * 8) eB = E0 := by
    have : mu (8 * k) eg = E0 := by rw [mu_mul, h, mu_zero]
    unfold eg at this
    rw [mu_dist, Nat.mul_comm, mu_mul k 8 eT, T8_zero, mu_zero, ad_zero] at this
    exact this
  have hL : LN ∣ k := by
    rcases prm_mul prm_LN (LN_dvd h8) with h | h
    · exact h
    · exact absurd (Nat.le_of_dvd (by decide) h) (by decide +kernel)
  obtain ⟨c, rfl⟩ := hL
  have hT : mu (LN * c) eT = E0 := by
    unfold eg at h
    rw [mu_dist, Nat.mul_comm, mu_mul c LN eB, LB_zero, mu_zero, ad_zero', Nat.mul_comm] at h
    exact h
  have h8 := T_dvd hT
  have hc : Nat.Coprime 8 LN := by decide +kernel
  have : 8 ∣ c := hc.dvd_of_dvd_mul_left h8
  obtain ⟨e, rfl⟩ := this
  exact ⟨e, by unfold NN; rw [← Nat.mul_assoc, Nat.mul_comm LN 8]⟩
theorem neg_par {x : Fp} (h : x ≠ 0) : (-x).val = PP - x.val := by
  have h0 : x.val ≠ 0 := fun e => h (Fin.ext e)
  have hl := x.isLt
  have : (-x).val = (PP - x.val) % PP := rfl
  rw [this, Nat.mod_eq_of_lt (by omega)]
theorem sq_eq {x y : Fp} (h : x*x = y*y) : x = y ∨ x = -y := by
  have : (x - y)*(x + y) = 0 := by grind
  rcases fp_dom this with h | h
  · left; grind
  · right; grind
theorem den_y (y : Fp) : 1 + cD*y*y ≠ 0 := by
  intro h
  have hy : y ≠ 0 := by rintro rfl; revert h; decide +kernel
  apply cD_ns (cI * finv y)
  have h1 := finv_mul hy
  have h2 : cD*(y*y) = -1 := by grind
  have e : cI*finv y*(cI*finv y) = (cI*cI)*(finv y*finv y) := by generalize finv y = z; grind
  rw [e, cI_sq, ← h2]
  have : cD*(y*y)*(finv y*finv y) = cD*((y*finv y)*(y*finv y)) := by generalize finv y = z; grind
  rw [this, h1]; grind
theorem on_sq {x y : Fp} (h : On cD (x, y)) : x*x*(1 + cD*y*y) = y*y - 1 := by unfold On at h; simp only at h; grind
theorem same_y {a b : E} (h : a.1.2 = b.1.2) : a.1.1 = b.1.1 ∨ a.1.1 = -b.1.1 := by
  apply sq_eq
  have h1 := on_sq a.2; have h2 := on_sq b.2
  rw [h] at h1
  exact fp_curve.can (den_y b.1.2) (h1.trans h2.symm)
def eCode (a : E) : Nat := 2 * a.1.2.val + a.1.1.val % 2
theorem PP_odd : PP % 2 = 1 := by decide +kernel
theorem eCode_inj {a b : E} (h : eCode a = eCode b) : a = b := by
  unfold eCode at h
  have hy : a.1.2 = b.1.2 := Fin.ext (by omega)
  have hx : a.1.1.val % 2 = b.1.1.val % 2 := by omega
  refine Ep.ext (Prod.ext ?_ hy)
  rcases same_y hy with h1 | h1
  · exact h1
  · by_cases h0 : b.1.1 = 0
    · rw [h1, h0]; decide +kernel
    · have := neg_par h0
      rw [h1, this] at hx
      have := PP_odd
      have := b.1.1.isLt
      omega
/-- every point is a multiple of the one -/
theorem e_cyclic (a : E) : ∃ k, k < NN ∧ a = mu k eg :=
  eG.cyclic (M := NN) (N := 2 * PP) (g := eg) (by decide +kernel) eg_zero (fun k h0 h1 h => by have := Nat.le_of_dvd h0 (eg_dvd h); omega) eCode (fun a => by
    unfold eCode
    have := a.1.2.isLt
    omega) (fun _ _ h => eCode_inj h) (by decide +kernel) a
end Go.Proofs.Ytodiojpakfjehaa.X

/- The other curve: the ladder goes with multiples. -/
namespace Go.Proofs.Ytodiojpakfjehaa.X
set_option linter.unusedVariables false
set_option maxRecDepth 100000
section
variable {K : Type} [Lean.Grind.CommRing K] {d i : K} {v : K → K}

theorem Cu.sq_eq (C : Cu d i v) {x y : K} (h : x*x = y*y) : x = y ∨ x = -y := by
  have : (x - y)*(x + y) = 0 := by grind
  rcases C.dom this with h | h
  · left; grind
  · right; grind
theorem Cu.den_y (C : Cu d i v) (y : K) : 1 + d*y*y ≠ 0 := by
  intro h
  have hy : y ≠ 0 := by rintro rfl; exact C.one (by rw [← h]; grind)
  apply C.dns (i * v y)
  have h1 := C.inv y hy
  have h2 : d*(y*y) = -1 := by grind
  have e : i*v y*(i*v y) = (i*i)*(v y*v y) := by grind
  rw [e, C.ii, ← h2]
  have : d*(y*y)*(v y*v y) = d*((y*v y)*(y*v y)) := by grind
  rw [this, h1]; grind
theorem onSq {x y : K} (h : On d (x, y)) : x*x*(1 + d*y*y) = y*y - 1 := by unfold On at h; simp only at h; grind
theorem Cu.same_y (C : Cu d i v) {a b : Ep d} (h : a.1.2 = b.1.2) : a.1.1 = b.1.1 ∨ a.1.1 = -b.1.1 := by
  apply C.sq_eq
  have h1 := onSq a.2; have h2 := onSq b.2
  rw [h] at h1
  exact C.can (C.den_y b.1.2) (h1.trans h2.symm)
/-- one step of the ladder -/
structure L4 (K : Type) where
  x2 : K
  z2 : K
  x3 : K
  z3 : K
def l0 (x1 : K) : L4 K := ⟨1, 0, x1, 1⟩
end
end Go.Proofs.Ytodiojpakfjehaa.X

/- Roots; the point of a y and the last bit of its x. -/
namespace Go.Proofs.Ytodiojpakfjehaa.X
set_option linter.unusedVariables false
set_option maxRecDepth 100000

theorem n58_ex : ∃ n : Nat, n = (PP - 5) / 8 := ⟨_, rfl⟩
/-- (p - 5) / 8, a number that is not to be unfolded -/
noncomputable def n58 : Nat := Classical.choose n58_ex
theorem n58_eq : n58 = (PP - 5) / 8 := Classical.choose_spec n58_ex
/-- a root of u / w, if that or it times the root of -1 is one -/
noncomputable def rootOf (u w : Fp) : Fp := u*(w*w*w)*fpw (u*((w*w*w)*(w*w*w)*w)) n58
theorem fpw_2 (a : Fp) : fpw a 2 = a*a := by show 1*a*a = a*a; grind
theorem fpw_half {x : Fp} (h : x ≠ 0) : fpw x ((PP-1)/2) = 1 ∨ fpw x ((PP-1)/2) = -1 := by
  apply sq_eq
  have : fpw x ((PP-1)/2) * fpw x ((PP-1)/2) = fpw x ((PP-1)/2 + (PP-1)/2) := (fpw_add _ _ _).symm
  rw [this, show (PP-1)/2 + (PP-1)/2 = PP - 1 by decide +kernel, fp_fermat h]; decide +kernel
/-- its square is x0's square or the opposite -/
theorem rootOf_sq {w x0 : Fp} (hw : w ≠ 0) : rootOf (w*(x0*x0)) w * rootOf (w*(x0*x0)) w = x0*x0 ∨ rootOf (w*(x0*x0)) w * rootOf (w*(x0*x0)) w = -(x0*x0) := by
  by_cases h0 : x0 = 0
  · left
    subst h0
    unfold rootOf
    generalize fpw _ _ = z
    grind
  · have e1 : w*(x0*x0)*((w*w*w)*(w*w*w)*w) = fpw w 8 * fpw x0 2 := by
      rw [fpw_2]; show _ = 1*w*w*w*w*w*w*w*w*(x0*x0); grind
    have e2 : rootOf (w*(x0*x0)) w = fpw w (PP - 1) * fpw x0 ((PP+3)/4) := by
      unfold rootOf
      rw [e1, fpw_dist, ← fpw_mul, ← fpw_mul]
      have a1 : fpw w (PP - 1) = fpw w 4 * fpw w (8*n58) := by rw [← fpw_add, show 4 + 8*n58 = PP - 1 by rw [n58_eq]; decide +kernel]
      have a2 : fpw x0 ((PP+3)/4) = fpw x0 2 * fpw x0 (2*n58) := by rw [← fpw_add, show 2 + 2*n58 = (PP+3)/4 by rw [n58_eq]; decide +kernel]
      have a3 : fpw w 4 = w*w*w*w := by show 1*w*w*w*w = _; grind
      rw [a1, a2, a3, fpw_2]
      generalize fpw w (8*n58) = z
      generalize fpw x0 (2*n58) = z2
      grind
    rw [e2, fp_fermat hw]
    have e3 : 1*fpw x0 ((PP+3)/4)*(1*fpw x0 ((PP+3)/4)) = x0*x0*fpw x0 ((PP-1)/2) := by
      have : 1*fpw x0 ((PP+3)/4)*(1*fpw x0 ((PP+3)/4)) = fpw x0 ((PP+3)/4)*fpw x0 ((PP+3)/4) := by generalize fpw _ _ = z; grind
      rw [this, ← fpw_add, ← fpw_2, ← fpw_add, show (PP+3)/4 + (PP+3)/4 = 2 + (PP-1)/2 by decide +kernel]
    rw [e3]
    rcases fpw_half h0 with h | h <;> rw [h]
    · left; grind
    · right; grind
noncomputable def opnX (y : Fp) : Option Fp :=
  if (cD*(y*y) + 1)*(rootOf (y*y - 1) (cD*(y*y) + 1)*rootOf (y*y - 1) (cD*(y*y) + 1)) = y*y - 1 then some (rootOf (y*y - 1) (cD*(y*y) + 1))
  else if (cD*(y*y) + 1)*(rootOf (y*y - 1) (cD*(y*y) + 1)*cI*(rootOf (y*y - 1) (cD*(y*y) + 1)*cI)) = y*y - 1 then some (rootOf (y*y - 1) (cD*(y*y) + 1)*cI)
  else none
theorem opnX_on {x y : Fp} (h : opnX y = some x) : On cD (x, y) := by
  have key : ∀ z : Fp, (cD*(y*y) + 1)*(z*z) = y*y - 1 → On cD (z, y) := by
    intro z h
    unfold On
    simp only
    generalize cD = d at *
    grind
  unfold opnX at h
  split at h
  · rename_i h1
    cases h
    exact key _ h1
  · split at h
    · rename_i h1
      cases h
      exact key _ h1
    · cases h
theorem wy_ne (y : Fp) : cD*(y*y) + 1 ≠ 0 := by
  have := den_y y
  intro h; apply this
  rw [← h]; generalize cD = d; grind
theorem opnX_ex {x0 y : Fp} (h : On cD (x0, y)) : ∃ x, opnX y = some x := by
  have hw := wy_ne y
  have hu : y*y - 1 = (cD*(y*y) + 1)*(x0*x0) := by
    unfold On at h; simp only at h
    generalize cD = d at *
    grind
  unfold opnX
  rw [hu]
  generalize cD*(y*y) + 1 = w at *
  clear h
  have hs := rootOf_sq (x0 := x0) hw
  generalize rootOf (w*(x0*x0)) w = r at *
  rcases hs with h | h
  · rw [if_pos (by rw [h])]; exact ⟨_, rfl⟩
  · split
    · exact ⟨_, rfl⟩
    · rw [if_pos (by
        have : r*cI*(r*cI) = (r*r)*(cI*cI) := by generalize cI = i; grind
        rw [this, h, cI_sq]; grind)]
      exact ⟨_, rfl⟩
def par (x : Fp) : Bool := x.val % 2 == 1
theorem par_neg {x : Fp} (h : x ≠ 0) : par (0 - x) = !par x := by
  have h1 := neg_par h
  have e : 0 - x = -x := by grind
  have h2 := x.isLt
  have h3 := PP_odd
  have h4 : x.val ≠ 0 := fun e => h (Fin.ext e)
  unfold par
  rw [e, h1]
  by_cases hp : x.val % 2 = 1
  · have : (PP - x.val) % 2 = 0 := by omega
    rw [hp, this]; rfl
  · have h5 : x.val % 2 = 0 := by omega
    have : (PP - x.val) % 2 = 1 := by omega
    rw [h5, this]; rfl
theorem par_zero : par 0 = false := by decide +kernel
/-- the x with a last bit -/
def pickX (odd : Bool) (x : Fp) : Fp := if par x = odd then x else 0 - x
noncomputable def dec0 (odd : Bool) (y : Fp) : Option (Fp × Fp) :=
  match opnX y with
  | none => none
  | some x => if odd = true ∧ x = 0 then none else some (pickX odd x, y)
theorem pickX_on {odd : Bool} {x y : Fp} (h : On cD (x, y)) : On cD (pickX odd x, y) := by
  unfold pickX
  split
  · exact h
  · unfold On at *; simp only at *
    generalize cD = d at *; grind
theorem dec0_on {odd : Bool} {y : Fp} {P : Fp × Fp} (h : dec0 odd y = some P) : On cD P := by
  unfold dec0 at h
  split at h
  · cases h
  · rename_i x hx
    split at h
    · cases h
    · cases h
      exact pickX_on (opnX_on hx)
/-- the point of a last bit and a y -/
noncomputable def decP (odd : Bool) (y : Fp) : Option E :=
  match h : dec0 odd y with
  | none => none
  | some P => some ⟨P, dec0_on h⟩
theorem decP_some {odd : Bool} {y : Fp} {P : E} : decP odd y = some P ↔ dec0 odd y = some P.1 := by
  unfold decP
  split
  · rename_i h
    constructor
    · intro e; cases e
    · intro e; exact absurd (h.symm.trans e) (by simp)
  · rename_i Q h
    constructor
    · intro e; cases e; exact h
    · intro e; exact congrArg some (Subtype.ext (Option.some.inj (h.symm.trans e)))
theorem decP_none {odd : Bool} {y : Fp} : decP odd y = none ↔ dec0 odd y = none := by
  unfold decP
  split
  · rename_i h
    exact ⟨fun _ => h, fun _ => rfl⟩
  · rename_i Q h
    constructor
    · intro e; cases e
    · intro e; exact absurd (h.symm.trans e) (by simp)
theorem decP_y {odd : Bool} {y : Fp} {P : E} (h : decP odd y = some P) : P.1.2 = y ∧ par P.1.1 = odd := by
  have h := decP_some.1 h
  unfold dec0 at h
  split at h
  · cases h
  · rename_i x hx
    split at h
    · cases h
    · rename_i hn
      have h := Option.some.inj h
      rw [← h]
      refine ⟨rfl, ?_⟩
      show par (pickX odd x) = odd
      unfold pickX
      split
      · assumption
      · rename_i hp
        by_cases h0 : x = 0
        · subst h0
          rw [par_zero] at hp
          cases odd
          · exact absurd rfl hp
          · exact absurd ⟨rfl, rfl⟩ hn
        · rw [par_neg h0]
          cases hpx : par x <;> cases odd <;> simp_all
theorem decP_enc (P : E) : decP (par P.1.1) P.1.2 = some P := by
  rw [decP_some]
  obtain ⟨x, hx⟩ := opnX_ex (x0 := P.1.1) (y := P.1.2) P.2
  unfold dec0
  rw [hx]
  simp only
  have hs := same_y (a := ⟨(x, P.1.2), opnX_on hx⟩) (b := P) rfl
  have hs : x = P.1.1 ∨ x = -P.1.1 := hs
  obtain ⟨⟨a, b⟩, o⟩ := P
  simp only at *
  rcases hs with rfl | rfl
  · rw [if_neg (by rintro ⟨h1, rfl⟩; rw [par_zero] at h1; cases h1)]
    unfold pickX
    rw [if_pos rfl]
  · by_cases h0 : a = 0
    · subst h0
      rw [if_neg (by rintro ⟨h1, _⟩; rw [par_zero] at h1; cases h1)]
      unfold pickX
      rw [show -(0 : Fp) = 0 by decide +kernel, if_pos rfl]
    · have hn := par_neg h0
      have e : -a = 0 - a := by grind
      rw [e, if_neg (by rintro ⟨_, h2⟩; apply h0; grind)]
      unfold pickX
      rw [hn, if_neg (by cases par a <;> simp)]
      have : (0 : Fp) - (0 - a) = a := by grind
      rw [this]
end Go.Proofs.Ytodiojpakfjehaa.X

/- What the field's functions compute, as numbers modulo 2^255 - 19. -/
namespace Go.Proofs.Ytodiojpakfjehaa.X
open Go Go.Proofs
set_option linter.unusedVariables false
set_option linter.unusedSimpArgs false
set_option maxRecDepth 100000

theorem toNat64 {x : Int} (h0 : 0 ≤ x) (h1 : x < 18446744073709551616) : (BitVec.ofInt 64 x).toNat = x.toNat := by
  rw [BitVec.toNat_ofInt]
  show (x % 18446744073709551616).toNat = _
  omega
theorem and51 {x : Int} (h0 : 0 ≤ x) (h1 : x < 18446744073709551616) : bits2 .and .u64 x 2251799813685247 = x % 2251799813685248 := by
  have e : bits2 .and .u64 x 2251799813685247 = IntKind.u64.wrap (((BitVec.ofInt 64 x &&& BitVec.ofInt 64 2251799813685247).toNat : Nat) : Int) := rfl
  have e2 : (BitVec.ofInt 64 2251799813685247).toNat = 2 ^ 51 - 1 := by rfl
  rw [e, BitVec.toNat_and, toNat64 h0 h1, e2, Nat.and_two_pow_sub_one_eq_mod, wrap64]
  omega
theorem or_nat {x y n : Nat} (hx : x < 2 ^ n) (h : x + 2 ^ n * y < 18446744073709551616) : bits2 .or .u64 ((x : Nat) : Int) ((2 ^ n * y : Nat) : Int) = ((x + 2 ^ n * y : Nat) : Int) ∧ bits2 .or .u64 ((2 ^ n * y : Nat) : Int) ((x : Nat) : Int) = ((x + 2 ^ n * y : Nat) : Int) := by
  have e : ∀ a b : Int, bits2 .or .u64 a b = IntKind.u64.wrap (((BitVec.ofInt 64 a ||| BitVec.ofInt 64 b).toNat : Nat) : Int) := fun _ _ => rfl
  have t : ∀ m : Nat, m < 18446744073709551616 → (BitVec.ofInt 64 ((m : Nat) : Int)).toNat = m := by
    intro m hm
    rw [toNat64 (by omega) (by omega)]; omega
  have hy : 2 ^ n * y < 18446744073709551616 := by omega
  constructor
  · rw [e, BitVec.toNat_or, t x (by omega), t _ hy, Nat.or_comm, ← Nat.two_pow_add_eq_or_of_lt hx, wrap64]
    have : 2 ^ n * y + x = x + 2 ^ n * y := by omega
    rw [this]; exact Int.emod_eq_of_lt (by omega) (by omega)
  · rw [e, BitVec.toNat_or, t x (by omega), t _ hy, ← Nat.two_pow_add_eq_or_of_lt hx, wrap64]
    have : 2 ^ n * y + x = x + 2 ^ n * y := by omega
    rw [this]; exact Int.emod_eq_of_lt (by omega) (by omega)
theorem shr12 (x : Int) : shr .u64 x 12 = x / 4096 := by
  have e : shr .u64 x 12 = x.fdiv 4096 := rfl
  rw [e, Int.fdiv_eq_ediv_of_nonneg _ (by omega)]
theorem shr13 (x : Int) : shr .u64 x 13 = x / 8192 := by
  have e : shr .u64 x 13 = x.fdiv 8192 := rfl
  rw [e, Int.fdiv_eq_ediv_of_nonneg _ (by omega)]
theorem shr25 (x : Int) : shr .u64 x 25 = x / 33554432 := by
  have e : shr .u64 x 25 = x.fdiv 33554432 := rfl
  rw [e, Int.fdiv_eq_ediv_of_nonneg _ (by omega)]
theorem shr26 (x : Int) : shr .u64 x 26 = x / 67108864 := by
  have e : shr .u64 x 26 = x.fdiv 67108864 := rfl
  rw [e, Int.fdiv_eq_ediv_of_nonneg _ (by omega)]
theorem shr38 (x : Int) : shr .u64 x 38 = x / 274877906944 := by
  have e : shr .u64 x 38 = x.fdiv 274877906944 := rfl
  rw [e, Int.fdiv_eq_ediv_of_nonneg _ (by omega)]
theorem shr39 (x : Int) : shr .u64 x 39 = x / 549755813888 := by
  have e : shr .u64 x 39 = x.fdiv 549755813888 := rfl
  rw [e, Int.fdiv_eq_ediv_of_nonneg _ (by omega)]
theorem shr51 (x : Int) : shr .u64 x 51 = x / 2251799813685248 := by
  have e : shr .u64 x 51 = x.fdiv 2251799813685248 := rfl
  rw [e, Int.fdiv_eq_ediv_of_nonneg _ (by omega)]
theorem shr63 (x : Int) : shr .u64 x 63 = x / 9223372036854775808 := by
  have e : shr .u64 x 63 = x.fdiv 9223372036854775808 := rfl
  rw [e, Int.fdiv_eq_ediv_of_nonneg _ (by omega)]
theorem shl12 (x : Int) : shl .u64 x 12 = 4096 * (x % 4503599627370496) := by
  have e : shl .u64 x 12 = IntKind.u64.wrap (x * 4096) := rfl
  rw [e, wrap64]; omega
theorem or12 {x y : Int} (h0 : 0 ≤ x) (h1 : x < 4096) (h2 : 0 ≤ y) (h3 : y < 4503599627370496) : bits2 .or .u64 x (4096 * y) = x + 4096 * y ∧ bits2 .or .u64 (4096 * y) x = x + 4096 * y := by
  obtain ⟨a, rfl⟩ := Int.eq_ofNat_of_zero_le h0
  obtain ⟨b, rfl⟩ := Int.eq_ofNat_of_zero_le h2
  have q := or_nat (x := a) (y := b) (n := 12) (by show a < 4096; omega) (by show a + 4096 * b < _; omega)
  have e1 : ((2 ^ 12 * b : Nat) : Int) = 4096 * ((b : Nat) : Int) := by rw [Int.natCast_mul]; rfl
  have e2 : ((a + 2 ^ 12 * b : Nat) : Int) = ((a : Nat) : Int) + 4096 * ((b : Nat) : Int) := by rw [Int.natCast_add, Int.natCast_mul]; rfl
  rw [e1, e2] at q
  exact q
theorem shl13 (x : Int) : shl .u64 x 13 = 8192 * (x % 2251799813685248) := by
  have e : shl .u64 x 13 = IntKind.u64.wrap (x * 8192) := rfl
  rw [e, wrap64]; omega
theorem or13 {x y : Int} (h0 : 0 ≤ x) (h1 : x < 8192) (h2 : 0 ≤ y) (h3 : y < 2251799813685248) : bits2 .or .u64 x (8192 * y) = x + 8192 * y ∧ bits2 .or .u64 (8192 * y) x = x + 8192 * y := by
  obtain ⟨a, rfl⟩ := Int.eq_ofNat_of_zero_le h0
  obtain ⟨b, rfl⟩ := Int.eq_ofNat_of_zero_le h2
  have q := or_nat (x := a) (y := b) (n := 13) (by show a < 8192; omega) (by show a + 8192 * b < _; omega)
  have e1 : ((2 ^ 13 * b : Nat) : Int) = 8192 * ((b : Nat) : Int) := by rw [Int.natCast_mul]; rfl
  have e2 : ((a + 2 ^ 13 * b : Nat) : Int) = ((a : Nat) : Int) + 8192 * ((b : Nat) : Int) := by rw [Int.natCast_add, Int.natCast_mul]; rfl
  rw [e1, e2] at q
  exact q
theorem shl25 (x : Int) : shl .u64 x 25 = 33554432 * (x % 549755813888) := by
  have e : shl .u64 x 25 = IntKind.u64.wrap (x * 33554432) := rfl
  rw [e, wrap64]; omega
theorem or25 {x y : Int} (h0 : 0 ≤ x) (h1 : x < 33554432) (h2 : 0 ≤ y) (h3 : y < 549755813888) : bits2 .or .u64 x (33554432 * y) = x + 33554432 * y ∧ bits2 .or .u64 (33554432 * y) x = x + 33554432 * y := by
  obtain ⟨a, rfl⟩ := Int.eq_ofNat_of_zero_le h0
  obtain ⟨b, rfl⟩ := Int.eq_ofNat_of_zero_le h2
  have q := or_nat (x := a) (y := b) (n := 25) (by show a < 33554432; omega) (by show a + 33554432 * b < _; omega)
  have e1 : ((2 ^ 25 * b : Nat) : Int) = 33554432 * ((b : Nat) : Int) := by rw [Int.natCast_mul]; rfl
  have e2 : ((a + 2 ^ 25 * b : Nat) : Int) = ((a : Nat) : Int) + 33554432 * ((b : Nat) : Int) := by rw [Int.natCast_add, Int.natCast_mul]; rfl
  rw [e1, e2] at q
  exact q
theorem shl26 (x : Int) : shl .u64 x 26 = 67108864 * (x % 274877906944) := by
  have e : shl .u64 x 26 = IntKind.u64.wrap (x * 67108864) := rfl
  rw [e, wrap64]; omega
theorem or26 {x y : Int} (h0 : 0 ≤ x) (h1 : x < 67108864) (h2 : 0 ≤ y) (h3 : y < 274877906944) : bits2 .or .u64 x (67108864 * y) = x + 67108864 * y ∧ bits2 .or .u64 (67108864 * y) x = x + 67108864 * y := by
  obtain ⟨a, rfl⟩ := Int.eq_ofNat_of_zero_le h0
  obtain ⟨b, rfl⟩ := Int.eq_ofNat_of_zero_le h2
  have q := or_nat (x := a) (y := b) (n := 26) (by show a < 67108864; omega) (by show a + 67108864 * b < _; omega)
  have e1 : ((2 ^ 26 * b : Nat) : Int) = 67108864 * ((b : Nat) : Int) := by rw [Int.natCast_mul]; rfl
  have e2 : ((a + 2 ^ 26 * b : Nat) : Int) = ((a : Nat) : Int) + 67108864 * ((b : Nat) : Int) := by rw [Int.natCast_add, Int.natCast_mul]; rfl
  rw [e1, e2] at q
  exact q
theorem shl38 (x : Int) : shl .u64 x 38 = 274877906944 * (x % 67108864) := by
  have e : shl .u64 x 38 = IntKind.u64.wrap (x * 274877906944) := rfl
  rw [e, wrap64]; omega
theorem or38 {x y : Int} (h0 : 0 ≤ x) (h1 : x < 274877906944) (h2 : 0 ≤ y) (h3 : y < 67108864) : bits2 .or .u64 x (274877906944 * y) = x + 274877906944 * y ∧ bits2 .or .u64 (274877906944 * y) x = x + 274877906944 * y := by
  obtain ⟨a, rfl⟩ := Int.eq_ofNat_of_zero_le h0
  obtain ⟨b, rfl⟩ := Int.eq_ofNat_of_zero_le h2
  have q := or_nat (x := a) (y := b) (n := 38) (by show a < 274877906944; omega) (by show a + 274877906944 * b < _; omega)
  have e1 : ((2 ^ 38 * b : Nat) : Int) = 274877906944 * ((b : Nat) : Int) := by rw [Int.natCast_mul]; rfl
  have e2 : ((a + 2 ^ 38 * b : Nat) : Int) = ((a : Nat) : Int) + 274877906944 * ((b : Nat) : Int) := by rw [Int.natCast_add, Int.natCast_mul]; rfl
  rw [e1, e2] at q
  exact q
theorem shl39 (x : Int) : shl .u64 x 39 = 549755813888 * (x % 33554432) := by
  have e : shl .u64 x 39 = IntKind.u64.wrap (x * 549755813888) := rfl
  rw [e, wrap64]; omega
theorem or39 {x y : Int} (h0 : 0 ≤ x) (h1 : x < 549755813888) (h2 : 0 ≤ y) (h3 : y < 33554432) : bits2 .or .u64 x (549755813888 * y) = x + 549755813888 * y ∧ bits2 .or .u64 (549755813888 * y) x = x + 549755813888 * y := by
  obtain ⟨a, rfl⟩ := Int.eq_ofNat_of_zero_le h0
  obtain ⟨b, rfl⟩ := Int.eq_ofNat_of_zero_le h2
  have q := or_nat (x := a) (y := b) (n := 39) (by show a < 549755813888; omega) (by show a + 549755813888 * b < _; omega)
  have e1 : ((2 ^ 39 * b : Nat) : Int) = 549755813888 * ((b : Nat) : Int) := by rw [Int.natCast_mul]; rfl
  have e2 : ((a + 2 ^ 39 * b : Nat) : Int) = ((a : Nat) : Int) + 549755813888 * ((b : Nat) : Int) := by rw [Int.natCast_add, Int.natCast_mul]; rfl
  rw [e1, e2] at q
  exact q
theorem shl51 (x : Int) : shl .u64 x 51 = 2251799813685248 * (x % 8192) := by
  have e : shl .u64 x 51 = IntKind.u64.wrap (x * 2251799813685248) := rfl
  rw [e, wrap64]; omega
theorem or51 {x y : Int} (h0 : 0 ≤ x) (h1 : x < 2251799813685248) (h2 : 0 ≤ y) (h3 : y < 8192) : bits2 .or .u64 x (2251799813685248 * y) = x + 2251799813685248 * y ∧ bits2 .or .u64 (2251799813685248 * y) x = x + 2251799813685248 * y := by
  obtain ⟨a, rfl⟩ := Int.eq_ofNat_of_zero_le h0
  obtain ⟨b, rfl⟩ := Int.eq_ofNat_of_zero_le h2
  have q := or_nat (x := a) (y := b) (n := 51) (by show a < 2251799813685248; omega) (by show a + 2251799813685248 * b < _; omega)
  have e1 : ((2 ^ 51 * b : Nat) : Int) = 2251799813685248 * ((b : Nat) : Int) := by rw [Int.natCast_mul]; rfl
  have e2 : ((a + 2 ^ 51 * b : Nat) : Int) = ((a : Nat) : Int) + 2251799813685248 * ((b : Nat) : Int) := by rw [Int.natCast_add, Int.natCast_mul]; rfl
  rw [e1, e2] at q
  exact q
/-- five limbs, each a little above 51 bits at the most -/
def B5 (l : List Int) : Prop := l.length = 5 ∧ ∀ x ∈ l, 0 ≤ x ∧ x < 2251799813693440
def F5 (l : List Int) : Int := List.getD l 0 0 + 2251799813685248 * List.getD l 1 0 + 5070602400912917605986812821504 * List.getD l 2 0 + 11417981541647679048466287755595961091061972992 * List.getD l 3 0 + 25711008708143844408671393477458601640355247900524685364822016 * List.getD l 4 0
def fv (l : List Int) : Fp := fI (F5 l)
theorem five {l : List Int} (h : l.length = 5) : ∃ a b c d e, l = [a, b, c, d, e] := by
  match l, h with
  | [a, b, c, d, e], _ => exact ⟨a, b, c, d, e, rfl⟩
theorem b5_get {l : List Int} (h : B5 l) (i : Nat) : 0 ≤ List.getD l i 0 ∧ List.getD l i 0 < 2251799813693440 := by
  rw [List.getD_eq_getElem?_getD]
  by_cases hi : i < l.length
  · rw [List.getElem?_eq_getElem hi]; exact h.2 _ (List.getElem_mem hi)
  · rw [List.getElem?_eq_none (by omega)]; simp
theorem b5_mk {a b c d e : Int} (ha : 0 ≤ a ∧ a < 2251799813693440) (hb : 0 ≤ b ∧ b < 2251799813693440) (hc : 0 ≤ c ∧ c < 2251799813693440) (hd : 0 ≤ d ∧ d < 2251799813693440) (he : 0 ≤ e ∧ e < 2251799813693440) : B5 [a, b, c, d, e] := by
  refine ⟨rfl, fun x hx => ?_⟩
  simp only [List.mem_cons, List.not_mem_nil, or_false] at hx
  rcases hx with rfl | rfl | rfl | rfl | rfl <;> assumption
theorem PP_val : (PP : Int) = 57896044618658097711785492504343953926634992332820282019728792003956564819949 := rfl
theorem fI_sub_mul {a b : Int} (k : Int) (h : a = b - 57896044618658097711785492504343953926634992332820282019728792003956564819949 * k) : fI a = fI b := by
  rw [fI_eq, h, PP_val]
  have : b - 57896044618658097711785492504343953926634992332820282019728792003956564819949 * k = b + 57896044618658097711785492504343953926634992332820282019728792003956564819949 * (-k) := by omega
  rw [this, Int.add_mul_emod_self_left]
theorem getsub1 (l : List Int) (i : Nat) : List.getD (sub l i 1) 0 0 = List.getD l i 0 := by
  unfold sub
  rw [List.getD_eq_getElem?_getD, List.getD_eq_getElem?_getD, List.getElem?_take_of_lt (by omega), List.getElem?_drop, Nat.add_zero]
theorem carr_eq (a b c d e : Int) (ha : 0 ≤ a ∧ a < 1152921504606846976) (hb : 0 ≤ b ∧ b < 1152921504606846976) (hc : 0 ≤ c ∧ c < 1152921504606846976) (hd : 0 ≤ d ∧ d < 1152921504606846976) (he : 0 ≤ e ∧ e < 1152921504606846976) :
    carr [a, b, c, d, e] = [a % 2251799813685248 + 19 * (e / 2251799813685248), b % 2251799813685248 + a / 2251799813685248, c % 2251799813685248 + b / 2251799813685248, d % 2251799813685248 + c / 2251799813685248, e % 2251799813685248 + d / 2251799813685248] := by
  unfold carr
  simp only [getsub1, List.getD_cons_zero, List.getD_cons_succ, shr51]
  rw [and51 (by omega) (by omega), and51 (by omega) (by omega), and51 (by omega) (by omega), and51 (by omega) (by omega), and51 (by omega) (by omega)]
  rw [wrapU (x := 19 * _) (by omega) (by omega), wrapU (by omega) (by omega), wrapU (by omega) (by omega), wrapU (by omega) (by omega), wrapU (by omega) (by omega), wrapU (by omega) (by omega)]
theorem carr_F (a b c d e : Int) (ha : 0 ≤ a ∧ a < 1152921504606846976) (hb : 0 ≤ b ∧ b < 1152921504606846976) (hc : 0 ≤ c ∧ c < 1152921504606846976) (hd : 0 ≤ d ∧ d < 1152921504606846976) (he : 0 ≤ e ∧ e < 1152921504606846976) :
    F5 (carr [a, b, c, d, e]) = F5 [a, b, c, d, e] - 57896044618658097711785492504343953926634992332820282019728792003956564819949 * (e / 2251799813685248) := by
  rw [carr_eq a b c d e ha hb hc hd he]
  unfold F5
  simp only [List.getD_cons_zero, List.getD_cons_succ]
  omega
theorem carr_B (a b c d e : Int) (ha : 0 ≤ a ∧ a < 288230376151711744) (hb : 0 ≤ b ∧ b < 288230376151711744) (hc : 0 ≤ c ∧ c < 288230376151711744) (hd : 0 ≤ d ∧ d < 288230376151711744) (he : 0 ≤ e ∧ e < 288230376151711744) : B5 (carr [a, b, c, d, e]) := by
  rw [carr_eq a b c d e (by omega) (by omega) (by omega) (by omega) (by omega)]
  refine b5_mk ?_ ?_ ?_ ?_ ?_ <;> omega
theorem plus_ok {x y : List Int} (hx : B5 x) (hy : B5 y) : B5 (fePlus x y) ∧ fv (fePlus x y) = fv x + fv y := by
  obtain ⟨a, b, c, d, e, rfl⟩ := five hx.1
  obtain ⟨a', b', c', d', e', rfl⟩ := five hy.1
  have h0 := b5_get hx 0; have h1 := b5_get hx 1; have h2 := b5_get hx 2; have h3 := b5_get hx 3; have h4 := b5_get hx 4
  have g0 := b5_get hy 0; have g1 := b5_get hy 1; have g2 := b5_get hy 2; have g3 := b5_get hy 3; have g4 := b5_get hy 4
  simp only [List.getD_cons_zero, List.getD_cons_succ] at h0 h1 h2 h3 h4 g0 g1 g2 g3 g4
  have e1 : fePlus [a, b, c, d, e] [a', b', c', d', e'] = carr [a + a', b + b', c + c', d + d', e + e'] := by
    unfold fePlus
    simp only [List.getD_cons_zero, List.getD_cons_succ, List.set_cons_zero, List.set_cons_succ]
    rw [wrapU (by omega) (by omega), wrapU (by omega) (by omega), wrapU (by omega) (by omega), wrapU (by omega) (by omega), wrapU (by omega) (by omega)]
  rw [e1]
  refine ⟨carr_B _ _ _ _ _ (by omega) (by omega) (by omega) (by omega) (by omega), ?_⟩
  unfold fv
  rw [← fI_add]
  refine fI_sub_mul ((e + e') / 2251799813685248) ?_
  rw [carr_F _ _ _ _ _ (by omega) (by omega) (by omega) (by omega) (by omega)]
  unfold F5
  simp only [List.getD_cons_zero, List.getD_cons_succ]
  omega
theorem min_ok {x y : List Int} (hx : B5 x) (hy : B5 y) : B5 (feMin x y) ∧ fv (feMin x y) = fv x - fv y := by
  obtain ⟨a, b, c, d, e, rfl⟩ := five hx.1
  obtain ⟨a', b', c', d', e', rfl⟩ := five hy.1
  have h0 := b5_get hx 0; have h1 := b5_get hx 1; have h2 := b5_get hx 2; have h3 := b5_get hx 3; have h4 := b5_get hx 4
  have g0 := b5_get hy 0; have g1 := b5_get hy 1; have g2 := b5_get hy 2; have g3 := b5_get hy 3; have g4 := b5_get hy 4
  simp only [List.getD_cons_zero, List.getD_cons_succ] at h0 h1 h2 h3 h4 g0 g1 g2 g3 g4
  have e1 : feMin [a, b, c, d, e] [a', b', c', d', e'] = carr [a + (4503599627370458 - a'), b + (4503599627370494 - b'), c + (4503599627370494 - c'), d + (4503599627370494 - d'), e + (4503599627370494 - e')] := by
    unfold feMin
    simp only [getsub1, List.getD_cons_zero, List.getD_cons_succ, List.set_cons_zero, List.set_cons_succ]
    rw [wrapU (x := 4503599627370458 - a') (by omega) (by omega), wrapU (x := 4503599627370494 - b') (by omega) (by omega), wrapU (x := 4503599627370494 - c') (by omega) (by omega), wrapU (x := 4503599627370494 - d') (by omega) (by omega), wrapU (x := 4503599627370494 - e') (by omega) (by omega)]
    rw [wrapU (by omega) (by omega), wrapU (by omega) (by omega), wrapU (by omega) (by omega), wrapU (by omega) (by omega), wrapU (by omega) (by omega)]
  rw [e1]
  refine ⟨carr_B _ _ _ _ _ (by omega) (by omega) (by omega) (by omega) (by omega), ?_⟩
  unfold fv
  rw [← fI_sub]
  refine fI_sub_mul ((e + (4503599627370494 - e')) / 2251799813685248 - 2) ?_
  rw [carr_F _ _ _ _ _ (by omega) (by omega) (by omega) (by omega) (by omega)]
  unfold F5
  simp only [List.getD_cons_zero, List.getD_cons_succ]
  omega
theorem small_ok {n : Int} (h0 : 0 ≤ n) (h1 : n < 2251799813685248) : B5 (feSmall n) ∧ fv (feSmall n) = fI n := by
  unfold feSmall
  refine ⟨b5_mk (by omega) (by omega) (by omega) (by omega) (by omega), ?_⟩
  unfold fv F5
  simp only [List.getD_cons_zero, List.getD_cons_succ]
  congr 1; omega
/-- five products in two words -/
def wl5 (a0 b0 a1 b1 a2 b2 a3 b3 a4 b4 : Int) : Int := wlo (wlo (wlo (wlo (wlo 0 a0 b0) a1 b1) a2 b2) a3 b3) a4 b4
def wh5 (a0 b0 a1 b1 a2 b2 a3 b3 a4 b4 : Int) : Int := whi (whi (whi (whi (whi 0 0 a0 b0) (wlo 0 a0 b0) a1 b1) (wlo (wlo 0 a0 b0) a1 b1) a2 b2) (wlo (wlo (wlo 0 a0 b0) a1 b1) a2 b2) a3 b3) (wlo (wlo (wlo (wlo 0 a0 b0) a1 b1) a2 b2) a3 b3) a4 b4
theorem prod_rng {a b : Int} (ha : 0 ≤ a ∧ a < 72057594037927936) (hb : 0 ≤ b ∧ b < 2251799813693440) : 0 ≤ a * b ∧ a * b ≤ 162259276829803584892542864318465 := by
  refine ⟨Int.mul_nonneg ha.1 hb.1, ?_⟩
  have := Int.mul_le_mul (show a ≤ 72057594037927935 by omega) (show b ≤ 2251799813693439 by omega) hb.1 (by omega)
  omega
theorem w5_ok {a0 b0 a1 b1 a2 b2 a3 b3 a4 b4 : Int} (p0 : 0 ≤ a0 ∧ a0 < 72057594037927936) (q0 : 0 ≤ b0 ∧ b0 < 2251799813693440) (p1 : 0 ≤ a1 ∧ a1 < 72057594037927936) (q1 : 0 ≤ b1 ∧ b1 < 2251799813693440) (p2 : 0 ≤ a2 ∧ a2 < 72057594037927936) (q2 : 0 ≤ b2 ∧ b2 < 2251799813693440) (p3 : 0 ≤ a3 ∧ a3 < 72057594037927936) (q3 : 0 ≤ b3 ∧ b3 < 2251799813693440) (p4 : 0 ≤ a4 ∧ a4 < 72057594037927936) (q4 : 0 ≤ b4 ∧ b4 < 2251799813693440) :
    18446744073709551616 * wh5 a0 b0 a1 b1 a2 b2 a3 b3 a4 b4 + wl5 a0 b0 a1 b1 a2 b2 a3 b3 a4 b4 = a0 * b0 + a1 * b1 + a2 * b2 + a3 * b3 + a4 * b4 ∧ 0 ≤ wl5 a0 b0 a1 b1 a2 b2 a3 b3 a4 b4 ∧ wl5 a0 b0 a1 b1 a2 b2 a3 b3 a4 b4 < 18446744073709551616 ∧ 0 ≤ wh5 a0 b0 a1 b1 a2 b2 a3 b3 a4 b4 := by
  have m0 := prod_rng p0 q0; have m1 := prod_rng p1 q1; have m2 := prod_rng p2 q2; have m3 := prod_rng p3 q3; have m4 := prod_rng p4 q4
  have s0 := wide_ok (h := 0) (l := 0) (a := a0) (b := b0) (by omega) (by omega) (by omega) (by omega) (by omega)
  have r0 := wlo_rng 0 a0 b0; have t0 := whi_rng 0 0 a0 b0
  have s1 := wide_ok (h := whi 0 0 a0 b0) (l := wlo 0 a0 b0) (a := a1) (b := b1) t0.1 r0 (by omega) (by omega) (by omega)
  have r1 := wlo_rng (wlo 0 a0 b0) a1 b1; have t1 := whi_rng (whi 0 0 a0 b0) (wlo 0 a0 b0) a1 b1
  have s2 := wide_ok (h := whi (whi 0 0 a0 b0) (wlo 0 a0 b0) a1 b1) (l := wlo (wlo 0 a0 b0) a1 b1) (a := a2) (b := b2) t1.1 r1 (by omega) (by omega) (by omega)
  have r2 := wlo_rng (wlo (wlo 0 a0 b0) a1 b1) a2 b2; have t2 := whi_rng (whi (whi 0 0 a0 b0) (wlo 0 a0 b0) a1 b1) (wlo (wlo 0 a0 b0) a1 b1) a2 b2
  have s3 := wide_ok (h := whi (whi (whi 0 0 a0 b0) (wlo 0 a0 b0) a1 b1) (wlo (wlo 0 a0 b0) a1 b1) a2 b2) (l := wlo (wlo (wlo 0 a0 b0) a1 b1) a2 b2) (a := a3) (b := b3) t2.1 r2 (by omega) (by omega) (by omega)
  have r3 := wlo_rng (wlo (wlo (wlo 0 a0 b0) a1 b1) a2 b2) a3 b3; have t3 := whi_rng (whi (whi (whi 0 0 a0 b0) (wlo 0 a0 b0) a1 b1) (wlo (wlo 0 a0 b0) a1 b1) a2 b2) (wlo (wlo (wlo 0 a0 b0) a1 b1) a2 b2) a3 b3
  have s4 := wide_ok (h := whi (whi (whi (whi 0 0 a0 b0) (wlo 0 a0 b0) a1 b1) (wlo (wlo 0 a0 b0) a1 b1) a2 b2) (wlo (wlo (wlo 0 a0 b0) a1 b1) a2 b2) a3 b3) (l := wlo (wlo (wlo (wlo 0 a0 b0) a1 b1) a2 b2) a3 b3) (a := a4) (b := b4) t3.1 r3 (by omega) (by omega) (by omega)
  refine ⟨?_, by unfold wl5; exact (wlo_rng _ _ _).1, by unfold wl5; exact (wlo_rng _ _ _).2, by unfold wh5; exact (whi_rng _ _ _ _).1⟩
  unfold wh5 wl5
  omega
/-- 51 bits of a pair of words and a carry, and what is carried -/
def lo51 (l c : Int) : Int := bits2 .and .u64 (ad64s l c 0) 2251799813685247
def up51 (h l c : Int) : Int := bits2 .or .u64 (shl .u64 (IntKind.u64.wrap (h + ad64c l c 0)) 13) (shr .u64 (ad64s l c 0) 51)
theorem st51 {h l c : Int} (hh : 0 ≤ h ∧ h < 1125899906842624) (hl : 0 ≤ l ∧ l < 18446744073709551616) (hc : 0 ≤ c ∧ c < 18446744073709551616) : lo51 l c = (18446744073709551616 * h + l + c) % 2251799813685248 ∧ up51 h l c = (18446744073709551616 * h + l + c) / 2251799813685248 := by
  have r := ad64_rng l c 0
  have rc : 0 ≤ ad64c l c 0 ∧ ad64c l c 0 ≤ 1 := ad64c_rng hl hc (by omega)
  constructor
  · unfold lo51
    rw [and51 r.1 r.2]
    unfold ad64s; omega
  · unfold up51
    rw [wrapU (by omega) (by omega), shl13, shr51, Int.emod_eq_of_lt (by omega) (by omega), (or13 (by omega) (by omega) (by omega) (by omega)).2]
    unfold ad64s ad64c; omega
def mulOut (h0 l0 h1 l1 h2 l2 h3 l3 h4 l4 : Int) : List Int :=
  let c0 := up51 h0 l0 0
  let c1 := up51 h1 l1 c0
  let c2 := up51 h2 l2 c1
  let c3 := up51 h3 l3 c2
  let c4 := up51 h4 l4 c3
  [IntKind.u64.wrap (lo51 l0 0 + IntKind.u64.wrap (19 * c4)), lo51 l1 c0, lo51 l2 c1, lo51 l3 c2, lo51 l4 c3]
theorem feMul_eq (x y : List Int) : feMul x y = carr (mulOut (wh5 (List.getD x (0 : Nat) 0) (List.getD y (0 : Nat) 0) (IntKind.u64.wrap ((19 : Int) * (List.getD x (1 : Nat) 0))) (List.getD y (4 : Nat) 0) (IntKind.u64.wrap ((19 : Int) * (List.getD x (2 : Nat) 0))) (List.getD y (3 : Nat) 0) (IntKind.u64.wrap ((19 : Int) * (List.getD x (3 : Nat) 0))) (List.getD y (2 : Nat) 0) (IntKind.u64.wrap ((19 : Int) * (List.getD x (4 : Nat) 0))) (List.getD y (1 : Nat) 0)) (wl5 (List.getD x (0 : Nat) 0) (List.getD y (0 : Nat) 0) (IntKind.u64.wrap ((19 : Int) * (List.getD x (1 : Nat) 0))) (List.getD y (4 : Nat) 0) (IntKind.u64.wrap ((19 : Int) * (List.getD x (2 : Nat) 0))) (List.getD y (3 : Nat) 0) (IntKind.u64.wrap ((19 : Int) * (List.getD x (3 : Nat) 0))) (List.getD y (2 : Nat) 0) (IntKind.u64.wrap ((19 : Int) * (List.getD x (4 : Nat) 0))) (List.getD y (1 : Nat) 0)) (wh5 (List.getD x (0 : Nat) 0) (List.getD y (1 : Nat) 0) (List.getD x (1 : Nat) 0) (List.getD y (0 : Nat) 0) (IntKind.u64.wrap ((19 : Int) * (List.getD x (2 : Nat) 0))) (List.getD y (4 : Nat) 0) (IntKind.u64.wrap ((19 : Int) * (List.getD x (3 : Nat) 0))) (List.getD y (3 : Nat) 0) (IntKind.u64.wrap ((19 : Int) * (List.getD x (4 : Nat) 0))) (List.getD y (2 : Nat) 0)) (wl5 (List.getD x (0 : Nat) 0) (List.getD y (1 : Nat) 0) (List.getD x (1 : Nat) 0) (List.getD y (0 : Nat) 0) (IntKind.u64.wrap ((19 : Int) * (List.getD x (2 : Nat) 0))) (List.getD y (4 : Nat) 0) (IntKind.u64.wrap ((19 : Int) * (List.getD x (3 : Nat) 0))) (List.getD y (3 : Nat) 0) (IntKind.u64.wrap ((19 : Int) * (List.getD x (4 : Nat) 0))) (List.getD y (2 : Nat) 0)) (wh5 (List.getD x (0 : Nat) 0) (List.getD y (2 : Nat) 0) (List.getD x (1 : Nat) 0) (List.getD y (1 : Nat) 0) (List.getD x (2 : Nat) 0) (List.getD y (0 : Nat) 0) (IntKind.u64.wrap ((19 : Int) * (List.getD x (3 : Nat) 0))) (List.getD y (4 : Nat) 0) (IntKind.u64.wrap ((19 : Int) * (List.getD x (4 : Nat) 0))) (List.getD y (3 : Nat) 0)) (wl5 (List.getD x (0 : Nat) 0) (List.getD y (2 : Nat) 0) (List.getD x (1 : Nat) 0) (List.getD y (1 : Nat) 0) (List.getD x (2 : Nat) 0) (List.getD y (0 : Nat) 0) (IntKind.u64.wrap ((19 : Int) * (List.getD x (3 : Nat) 0))) (List.getD y (4 : Nat) 0) (IntKind.u64.wrap ((19 : Int) * (List.getD x (4 : Nat) 0))) (List.getD y (3 : Nat) 0)) (wh5 (List.getD x (0 : Nat) 0) (List.getD y (3 : Nat) 0) (List.getD x (1 : Nat) 0) (List.getD y (2 : Nat) 0) (List.getD x (2 : Nat) 0) (List.getD y (1 : Nat) 0) (List.getD x (3 : Nat) 0) (List.getD y (0 : Nat) 0) (IntKind.u64.wrap ((19 : Int) * (List.getD x (4 : Nat) 0))) (List.getD y (4 : Nat) 0)) (wl5 (List.getD x (0 : Nat) 0) (List.getD y (3 : Nat) 0) (List.getD x (1 : Nat) 0) (List.getD y (2 : Nat) 0) (List.getD x (2 : Nat) 0) (List.getD y (1 : Nat) 0) (List.getD x (3 : Nat) 0) (List.getD y (0 : Nat) 0) (IntKind.u64.wrap ((19 : Int) * (List.getD x (4 : Nat) 0))) (List.getD y (4 : Nat) 0)) (wh5 (List.getD x (0 : Nat) 0) (List.getD y (4 : Nat) 0) (List.getD x (1 : Nat) 0) (List.getD y (3 : Nat) 0) (List.getD x (2 : Nat) 0) (List.getD y (2 : Nat) 0) (List.getD x (3 : Nat) 0) (List.getD y (1 : Nat) 0) (List.getD x (4 : Nat) 0) (List.getD y (0 : Nat) 0)) (wl5 (List.getD x (0 : Nat) 0) (List.getD y (4 : Nat) 0) (List.getD x (1 : Nat) 0) (List.getD y (3 : Nat) 0) (List.getD x (2 : Nat) 0) (List.getD y (2 : Nat) 0) (List.getD x (3 : Nat) 0) (List.getD y (1 : Nat) 0) (List.getD x (4 : Nat) 0) (List.getD y (0 : Nat) 0))) := rfl
theorem mulOut_ok {h0 l0 h1 l1 h2 l2 h3 l3 h4 l4 w0 w1 w2 w3 w4 : Int} (e0 : 18446744073709551616 * h0 + l0 = w0) (e1 : 18446744073709551616 * h1 + l1 = w1) (e2 : 18446744073709551616 * h2 + l2 = w2) (e3 : 18446744073709551616 * h3 + l3 = w3) (e4 : 18446744073709551616 * h4 + l4 = w4)
    (r0 : 0 ≤ l0 ∧ l0 < 18446744073709551616) (r1 : 0 ≤ l1 ∧ l1 < 18446744073709551616) (r2 : 0 ≤ l2 ∧ l2 < 18446744073709551616) (r3 : 0 ≤ l3 ∧ l3 < 18446744073709551616) (r4 : 0 ≤ l4 ∧ l4 < 18446744073709551616) (t0 : 0 ≤ h0) (t1 : 0 ≤ h1) (t2 : 0 ≤ h2) (t3 : 0 ≤ h3) (t4 : 0 ≤ h4)
    (b0 : w0 ≤ 811296384149017924462714321592325) (b1 : w1 ≤ 811296384149017924462714321592325) (b2 : w2 ≤ 811296384149017924462714321592325) (b3 : w3 ≤ 811296384149017924462714321592325) (b4 : w4 ≤ 25353012004749032952673358233605) :
    B5 (carr (mulOut h0 l0 h1 l1 h2 l2 h3 l3 h4 l4)) ∧ fv (carr (mulOut h0 l0 h1 l1 h2 l2 h3 l3 h4 l4)) = fI (w0 + 2251799813685248 * w1 + 5070602400912917605986812821504 * w2 + 11417981541647679048466287755595961091061972992 * w3 + 25711008708143844408671393477458601640355247900524685364822016 * w4) := by
  obtain ⟨g0, k0⟩ := st51 (h := h0) (l := l0) (c := 0) (by omega) r0 (by omega)
  rw [e0, Int.add_zero] at g0 k0
  obtain ⟨g1, k1⟩ := st51 (h := h1) (l := l1) (c := w0 / 2251799813685248) (by omega) r1 (by omega)
  rw [e1] at g1 k1
  obtain ⟨g2, k2⟩ := st51 (h := h2) (l := l2) (c := (w1 + w0 / 2251799813685248) / 2251799813685248) (by omega) r2 (by omega)
  rw [e2] at g2 k2
  obtain ⟨g3, k3⟩ := st51 (h := h3) (l := l3) (c := (w2 + (w1 + w0 / 2251799813685248) / 2251799813685248) / 2251799813685248) (by omega) r3 (by omega)
  rw [e3] at g3 k3
  obtain ⟨g4, k4⟩ := st51 (h := h4) (l := l4) (c := (w3 + (w2 + (w1 + w0 / 2251799813685248) / 2251799813685248) / 2251799813685248) / 2251799813685248) (by omega) r4 (by omega)
  rw [e4] at g4 k4
  have q0 : 0 ≤ w0 := by omega
  have q1 : 0 ≤ w1 := by omega
  have q2 : 0 ≤ w2 := by omega
  have q3 : 0 ≤ w3 := by omega
  have q4 : 0 ≤ w4 := by omega
  have e : mulOut h0 l0 h1 l1 h2 l2 h3 l3 h4 l4 = [w0 % 2251799813685248 + 19 * ((w4 + (w3 + (w2 + (w1 + w0 / 2251799813685248) / 2251799813685248) / 2251799813685248) / 2251799813685248) / 2251799813685248), (w1 + w0 / 2251799813685248) % 2251799813685248, (w2 + (w1 + w0 / 2251799813685248) / 2251799813685248) % 2251799813685248, (w3 + (w2 + (w1 + w0 / 2251799813685248) / 2251799813685248) / 2251799813685248) % 2251799813685248, (w4 + (w3 + (w2 + (w1 + w0 / 2251799813685248) / 2251799813685248) / 2251799813685248) / 2251799813685248) % 2251799813685248] := by
    unfold mulOut
    simp only [k0, k1, k2, k3, k4, g0, g1, g2, g3, g4]
    clear g0 g1 g2 g3 g4 k0 k1 k2 k3 k4 e0 e1 e2 e3 e4
    rw [wrapU (x := 19 * _) (by omega) (by omega), wrapU (by omega) (by omega)]
  rw [e]
  clear e g0 g1 g2 g3 g4 k0 k1 k2 k3 k4 e0 e1 e2 e3 e4
  generalize hv0 : w0 / 2251799813685248 = v0
  generalize hv1 : (w1 + v0) / 2251799813685248 = v1
  generalize hv2 : (w2 + v1) / 2251799813685248 = v2
  generalize hv3 : (w3 + v2) / 2251799813685248 = v3
  generalize hv4 : (w4 + v3) / 2251799813685248 = v4
  have c4 : 0 ≤ v4 ∧ v4 < 13510798882111488 := by omega
  refine ⟨carr_B _ _ _ _ _ (by omega) (by omega) (by omega) (by omega) (by omega), ?_⟩
  unfold fv
  refine fI_sub_mul ((w4 + v3) % 2251799813685248 / 2251799813685248 + v4) ?_
  rw [carr_F _ _ _ _ _ (by omega) (by omega) (by omega) (by omega) (by omega)]
  unfold F5
  simp only [List.getD_cons_zero, List.getD_cons_succ]
  omega
theorem mul_id (a b c d e a' b' c' d' e' : Int) : (a * a' + (19 * b) * e' + (19 * c) * d' + (19 * d) * c' + (19 * e) * b') + 2251799813685248 * (a * b' + b * a' + (19 * c) * e' + (19 * d) * d' + (19 * e) * c') + 5070602400912917605986812821504 * (a * c' + b * b' + c * a' + (19 * d) * e' + (19 * e) * d') + 11417981541647679048466287755595961091061972992 * (a * d' + b * c' + c * b' + d * a' + (19 * e) * e') + 25711008708143844408671393477458601640355247900524685364822016 * (a * e' + b * d' + c * c' + d * b' + e * a') = (a + 2251799813685248 * b + 5070602400912917605986812821504 * c + 11417981541647679048466287755595961091061972992 * d + 25711008708143844408671393477458601640355247900524685364822016 * e) * (a' + 2251799813685248 * b' + 5070602400912917605986812821504 * c' + 11417981541647679048466287755595961091061972992 * d' + 25711008708143844408671393477458601640355247900524685364822016 * e') - 57896044618658097711785492504343953926634992332820282019728792003956564819949 * ((b * e' + c * d' + d * c' + e * b') + 2251799813685248 * (c * e' + d * d' + e * c') + 5070602400912917605986812821504 * (d * e' + e * d') + 11417981541647679048466287755595961091061972992 * (e * e')) := by grind
theorem mul_ok {x y : List Int} (hx : B5 x) (hy : B5 y) : B5 (feMul x y) ∧ fv (feMul x y) = fv x * fv y := by
  obtain ⟨a, b, c, d, e, rfl⟩ := five hx.1
  obtain ⟨a', b', c', d', e', rfl⟩ := five hy.1
  have h0 := b5_get hx 0; have h1 := b5_get hx 1; have h2 := b5_get hx 2; have h3 := b5_get hx 3; have h4 := b5_get hx 4
  have g0 := b5_get hy 0; have g1 := b5_get hy 1; have g2 := b5_get hy 2; have g3 := b5_get hy 3; have g4 := b5_get hy 4
  rw [feMul_eq]
  simp only [List.getD_cons_zero, List.getD_cons_succ] at h0 h1 h2 h3 h4 g0 g1 g2 g3 g4 ⊢
  rw [wrapU (x := 19 * b) (by omega) (by omega), wrapU (x := 19 * c) (by omega) (by omega), wrapU (x := 19 * d) (by omega) (by omega), wrapU (x := 19 * e) (by omega) (by omega)]
  obtain ⟨e0, u0, v0, t0⟩ := w5_ok (a0 := a) (b0 := a') (a1 := 19 * b) (b1 := e') (a2 := 19 * c) (b2 := d') (a3 := 19 * d) (b3 := c') (a4 := 19 * e) (b4 := b') (by omega) g0 (by omega) g4 (by omega) g3 (by omega) g2 (by omega) g1
  have m00 := prod_rng (a := a) (b := a') (by omega) g0
  have m01 := prod_rng (a := 19 * b) (b := e') (by omega) g4
  have m02 := prod_rng (a := 19 * c) (b := d') (by omega) g3
  have m03 := prod_rng (a := 19 * d) (b := c') (by omega) g2
  have m04 := prod_rng (a := 19 * e) (b := b') (by omega) g1
  obtain ⟨e1, u1, v1, t1⟩ := w5_ok (a0 := a) (b0 := b') (a1 := b) (b1 := a') (a2 := 19 * c) (b2 := e') (a3 := 19 * d) (b3 := d') (a4 := 19 * e) (b4 := c') (by omega) g1 (by omega) g0 (by omega) g4 (by omega) g3 (by omega) g2
  have m10 := prod_rng (a := a) (b := b') (by omega) g1
  have m11 := prod_rng (a := b) (b := a') (by omega) g0
  have m12 := prod_rng (a := 19 * c) (b := e') (by omega) g4
  have m13 := prod_rng (a := 19 * d) (b := d') (by omega) g3
  have m14 := prod_rng (a := 19 * e) (b := c') (by omega) g2
  obtain ⟨e2, u2, v2, t2⟩ := w5_ok (a0 := a) (b0 := c') (a1 := b) (b1 := b') (a2 := c) (b2 := a') (a3 := 19 * d) (b3 := e') (a4 := 19 * e) (b4 := d') (by omega) g2 (by omega) g1 (by omega) g0 (by omega) g4 (by omega) g3
  have m20 := prod_rng (a := a) (b := c') (by omega) g2
  have m21 := prod_rng (a := b) (b := b') (by omega) g1
  have m22 := prod_rng (a := c) (b := a') (by omega) g0
  have m23 := prod_rng (a := 19 * d) (b := e') (by omega) g4
  have m24 := prod_rng (a := 19 * e) (b := d') (by omega) g3
  obtain ⟨e3, u3, v3, t3⟩ := w5_ok (a0 := a) (b0 := d') (a1 := b) (b1 := c') (a2 := c) (b2 := b') (a3 := d) (b3 := a') (a4 := 19 * e) (b4 := e') (by omega) g3 (by omega) g2 (by omega) g1 (by omega) g0 (by omega) g4
  have m30 := prod_rng (a := a) (b := d') (by omega) g3
  have m31 := prod_rng (a := b) (b := c') (by omega) g2
  have m32 := prod_rng (a := c) (b := b') (by omega) g1
  have m33 := prod_rng (a := d) (b := a') (by omega) g0
  have m34 := prod_rng (a := 19 * e) (b := e') (by omega) g4
  obtain ⟨e4, u4, v4, t4⟩ := w5_ok (a0 := a) (b0 := e') (a1 := b) (b1 := d') (a2 := c) (b2 := c') (a3 := d) (b3 := b') (a4 := e) (b4 := a') (by omega) g4 (by omega) g3 (by omega) g2 (by omega) g1 (by omega) g0
  have m40 := prod_rng (a := a) (b := e') (by omega) g4
  have m41 := prod_rng (a := b) (b := d') (by omega) g3
  have m42 := prod_rng (a := c) (b := c') (by omega) g2
  have m43 := prod_rng (a := d) (b := b') (by omega) g1
  have m44 := prod_rng (a := e) (b := a') (by omega) g0
  have n0 : a * e' ≤ 5070602400949806590534671646721 := by
    have := Int.mul_le_mul (show a ≤ 2251799813693439 by omega) (show e' ≤ 2251799813693439 by omega) g4.1 (by omega)
    omega
  have n1 : b * d' ≤ 5070602400949806590534671646721 := by
    have := Int.mul_le_mul (show b ≤ 2251799813693439 by omega) (show d' ≤ 2251799813693439 by omega) g3.1 (by omega)
    omega
  have n2 : c * c' ≤ 5070602400949806590534671646721 := by
    have := Int.mul_le_mul (show c ≤ 2251799813693439 by omega) (show c' ≤ 2251799813693439 by omega) g2.1 (by omega)
    omega
  have n3 : d * b' ≤ 5070602400949806590534671646721 := by
    have := Int.mul_le_mul (show d ≤ 2251799813693439 by omega) (show b' ≤ 2251799813693439 by omega) g1.1 (by omega)
    omega
  have n4 : e * a' ≤ 5070602400949806590534671646721 := by
    have := Int.mul_le_mul (show e ≤ 2251799813693439 by omega) (show a' ≤ 2251799813693439 by omega) g0.1 (by omega)
    omega
  have k := mulOut_ok e0 e1 e2 e3 e4 ⟨u0, v0⟩ ⟨u1, v1⟩ ⟨u2, v2⟩ ⟨u3, v3⟩ ⟨u4, v4⟩ t0 t1 t2 t3 t4 (by omega) (by omega) (by omega) (by omega) (by omega)
  refine ⟨k.1, k.2.trans ?_⟩
  unfold fv
  rw [← fI_mul]
  refine fI_sub_mul ((b * e' + c * d' + d * c' + e * b') + 2251799813685248 * (c * e' + d * d' + e * c') + 5070602400912917605986812821504 * (d * e' + e * d') + 11417981541647679048466287755595961091061972992 * (e * e')) ?_
  rw [mul_id]
  unfold F5
  simp only [List.getD_cons_zero, List.getD_cons_succ]
end Go.Proofs.Ytodiojpakfjehaa.X

/- Printed by a tool of this session. -/
namespace Go.Proofs.Ytodiojpakfjehaa.X
open Go Go.Proofs
set_option linter.unusedVariables false
set_option linter.unusedSimpArgs false
set_option maxRecDepth 100000
theorem teVH_92 : TEOk Try.prog 92 ⟨.array 5 90, 5, 40, [.ints .u64 (5 : Nat) ([0, 0, 0, 0, 0] : List Int)], true⟩ :=
  TEOk.of Try.underlying92 (i := Try.t92) (by kernel_rfl) rfl rfl rfl (by kernel_rfl) (fun _ => Try.eqGuardType92) (by kernel_rfl)
noncomputable def tabVH : List (Nat × TE) := [(92, ⟨.array 5 90, 5, 40, [.ints .u64 (5 : Nat) ([0, 0, 0, 0, 0] : List Int)], true⟩)]
theorem tabOkVH : TabOk Try.prog (tabOf tabVH) := (tabOf_cons teVH_92 tabOf_nil)

def feRoot_w0 (x : List Int) (y : List Int) : List Int :=
  let z0 : List Int := (feMul (feMul y y) y)
  (feMul (feMul x z0) (feEighth (feMul x (feMul (feMul z0 z0) y))))

set_option maxHeartbeats 1000000 in
theorem feRoot_w0_body0 (x : List Int) (y : List Int) (hv0 : List.length x = (5 : Nat)) (hv1 : List.length y = (5 : Nat)) (hb0 : (feSame (feMul y (feMul (feMul (feMul x (feMul (feMul y y) y)) (feEighth (feMul x (feMul (feMul (feMul (feMul y y) y) (feMul (feMul y y) y)) y)))) (feMul (feMul x (feMul (feMul y y) y)) (feEighth (feMul x (feMul (feMul (feMul (feMul y y) y) (feMul (feMul y y) y)) y)))))) x) = true) (w : World) : Body Try.prog (tabOf tabVH) Try.f90 ⟨w, [], 0, noEnv⟩ (toA [.g [.ints .u64 (5 : Nat) x], .g [.ints .u64 (5 : Nat) y]]) [] (fun ys _ => ys = [.g [.ints .u64 (5 : Nat) (feRoot_w0 x y)], .a (.b true)]) :=
  Body.of_fin (Γ := gam18) (Λ := noLam) (Ψ := noPsi) (fuel := 3) (m := 37) (c := (Try.f90.body.getD .skip)) mix tabOkVH gam18_ok rfl (rs := [.cell 4 92, .tmp 5]) rfl rfl [true, true] []
    (vc := [((feSame (feMul y (feMul (feMul (feMul x (feMul (feMul y y) y)) (feEighth (feMul x (feMul (feMul (feMul (feMul y y) y) (feMul (feMul y y) y)) y)))) (feMul (feMul x (feMul (feMul y y) y)) (feEighth (feMul x (feMul (feMul (feMul (feMul y y) y) (feMul (feMul y y) y)) y)))))) x) = true), (true = true)]) (by kernel_rfl)
    (AllP_cons hb0 (AllP_cons rfl (AllP_nil)))

def feRoot_w1 (x : List Int) (y : List Int) : List Int :=
  let z0 : List Int := (feMul (feMul y y) y)
  (feMul (feMul (feMul x z0) (feEighth (feMul x (feMul (feMul z0 z0) y)))) (feI))

set_option maxHeartbeats 1000000 in
theorem feRoot_w1_body0 (x : List Int) (y : List Int) (hv0 : List.length x = (5 : Nat)) (hv1 : List.length y = (5 : Nat)) (hb0 : (feSame (feMul y (feMul (feMul (feMul x (feMul (feMul y y) y)) (feEighth (feMul x (feMul (feMul (feMul (feMul y y) y) (feMul (feMul y y) y)) y)))) (feMul (feMul x (feMul (feMul y y) y)) (feEighth (feMul x (feMul (feMul (feMul (feMul y y) y) (feMul (feMul y y) y)) y)))))) x) = false) (hb1 : (feSame (feMul y (feMul (feMul (feMul (feMul x (feMul (feMul y y) y)) (feEighth (feMul x (feMul (feMul (feMul (feMul y y) y) (feMul (feMul y y) y)) y)))) (feI)) (feMul (feMul (feMul x (feMul (feMul y y) y)) (feEighth (feMul x (feMul (feMul (feMul (feMul y y) y) (feMul (feMul y y) y)) y)))) (feI)))) x) = true) (w : World) : Body Try.prog (tabOf tabVH) Try.f90 ⟨w, [], 0, noEnv⟩ (toA [.g [.ints .u64 (5 : Nat) x], .g [.ints .u64 (5 : Nat) y]]) [] (fun ys _ => ys = [.g [.ints .u64 (5 : Nat) (feRoot_w1 x y)], .a (.b true)]) :=
  Body.of_fin (Γ := gam18) (Λ := noLam) (Ψ := noPsi) (fuel := 3) (m := 37) (c := (Try.f90.body.getD .skip)) mix tabOkVH gam18_ok rfl (rs := [.cell 4 92, .tmp 5]) rfl rfl [true, false, true, true] []
    (vc := [((feSame (feMul y (feMul (feMul (feMul (feMul x (feMul (feMul y y) y)) (feEighth (feMul x (feMul (feMul (feMul (feMul y y) y) (feMul (feMul y y) y)) y)))) (feI)) (feMul (feMul (feMul x (feMul (feMul y y) y)) (feEighth (feMul x (feMul (feMul (feMul (feMul y y) y) (feMul (feMul y y) y)) y)))) (feI)))) x) = true), (true = true), ((feSame (feMul y (feMul (feMul (feMul x (feMul (feMul y y) y)) (feEighth (feMul x (feMul (feMul (feMul (feMul y y) y) (feMul (feMul y y) y)) y)))) (feMul (feMul x (feMul (feMul y y) y)) (feEighth (feMul x (feMul (feMul (feMul (feMul y y) y) (feMul (feMul y y) y)) y)))))) x) = false), (true = true)]) (by kernel_rfl)
    (AllP_cons hb1 (AllP_cons rfl (AllP_cons hb0 (AllP_cons rfl (AllP_nil)))))

def feRoot_w2 (x : List Int) (y : List Int) : List Int :=
  let z0 : List Int := (feMul (feMul y y) y)
  (feMul (feMul (feMul (feMul x z0) (feEighth (feMul x (feMul (feMul z0 z0) y)))) (feI)) (feI))

set_option maxHeartbeats 1000000 in
theorem feRoot_w2_body0 (x : List Int) (y : List Int) (hv0 : List.length x = (5 : Nat)) (hv1 : List.length y = (5 : Nat)) (hb0 : (feSame (feMul y (feMul (feMul (feMul x (feMul (feMul y y) y)) (feEighth (feMul x (feMul (feMul (feMul (feMul y y) y) (feMul (feMul y y) y)) y)))) (feMul (feMul x (feMul (feMul y y) y)) (feEighth (feMul x (feMul (feMul (feMul (feMul y y) y) (feMul (feMul y y) y)) y)))))) x) = false) (hb1 : (feSame (feMul y (feMul (feMul (feMul (feMul x (feMul (feMul y y) y)) (feEighth (feMul x (feMul (feMul (feMul (feMul y y) y) (feMul (feMul y y) y)) y)))) (feI)) (feMul (feMul (feMul x (feMul (feMul y y) y)) (feEighth (feMul x (feMul (feMul (feMul (feMul y y) y) (feMul (feMul y y) y)) y)))) (feI)))) x) = false) (w : World) : Body Try.prog (tabOf tabVH) Try.f90 ⟨w, [], 0, noEnv⟩ (toA [.g [.ints .u64 (5 : Nat) x], .g [.ints .u64 (5 : Nat) y]]) [] (fun ys _ => ys = [.g [.ints .u64 (5 : Nat) (feRoot_w2 x y)], .a (.b false)]) :=
  Body.of_fin (Γ := gam18) (Λ := noLam) (Ψ := noPsi) (fuel := 3) (m := 37) (c := (Try.f90.body.getD .skip)) mix tabOkVH gam18_ok rfl (rs := [.cell 4 92, .tmp 5]) rfl rfl [true, false, true, false, false] []
    (vc := [(false = false), ((feSame (feMul y (feMul (feMul (feMul (feMul x (feMul (feMul y y) y)) (feEighth (feMul x (feMul (feMul (feMul (feMul y y) y) (feMul (feMul y y) y)) y)))) (feI)) (feMul (feMul (feMul x (feMul (feMul y y) y)) (feEighth (feMul x (feMul (feMul (feMul (feMul y y) y) (feMul (feMul y y) y)) y)))) (feI)))) x) = false), (true = true), ((feSame (feMul y (feMul (feMul (feMul x (feMul (feMul y y) y)) (feEighth (feMul x (feMul (feMul (feMul (feMul y y) y) (feMul (feMul y y) y)) y)))) (feMul (feMul x (feMul (feMul y y) y)) (feEighth (feMul x (feMul (feMul (feMul (feMul y y) y) (feMul (feMul y y) y)) y)))))) x) = false), (true = true)]) (by kernel_rfl)
    (AllP_cons rfl (AllP_cons hb1 (AllP_cons rfl (AllP_cons hb0 (AllP_cons rfl (AllP_nil))))))

def feRoot (x : List Int) (y : List Int) : List Int :=
  (cond (feSame (feMul y (feMul (feMul (feMul x (feMul (feMul y y) y)) (feEighth (feMul x (feMul (feMul (feMul (feMul y y) y) (feMul (feMul y y) y)) y)))) (feMul (feMul x (feMul (feMul y y) y)) (feEighth (feMul x (feMul (feMul (feMul (feMul y y) y) (feMul (feMul y y) y)) y)))))) x) (feRoot_w0 x y) (cond (feSame (feMul y (feMul (feMul (feMul (feMul x (feMul (feMul y y) y)) (feEighth (feMul x (feMul (feMul (feMul (feMul y y) y) (feMul (feMul y y) y)) y)))) (feI)) (feMul (feMul (feMul x (feMul (feMul y y) y)) (feEighth (feMul x (feMul (feMul (feMul (feMul y y) y) (feMul (feMul y y) y)) y)))) (feI)))) x) (feRoot_w1 x y) (feRoot_w2 x y)))

def feRoot_1 (x : List Int) (y : List Int) : Bool :=
  (cond (feSame (feMul y (feMul (feMul (feMul x (feMul (feMul y y) y)) (feEighth (feMul x (feMul (feMul (feMul (feMul y y) y) (feMul (feMul y y) y)) y)))) (feMul (feMul x (feMul (feMul y y) y)) (feEighth (feMul x (feMul (feMul (feMul (feMul y y) y) (feMul (feMul y y) y)) y)))))) x) true (cond (feSame (feMul y (feMul (feMul (feMul (feMul x (feMul (feMul y y) y)) (feEighth (feMul x (feMul (feMul (feMul (feMul y y) y) (feMul (feMul y y) y)) y)))) (feI)) (feMul (feMul (feMul x (feMul (feMul y y) y)) (feEighth (feMul x (feMul (feMul (feMul (feMul y y) y) (feMul (feMul y y) y)) y)))) (feI)))) x) true false))

set_option maxHeartbeats 1000000 in
theorem feRoot_body (x : List Int) (y : List Int) (w : World) : Body Try.prog (tabOf tabVH) Try.f90 ⟨w, [], 0, noEnv⟩ (toA [.g [.ints .u64 (5 : Nat) x], .g [.ints .u64 (5 : Nat) y]]) [] (fun ys _ => ys = [.g [.ints .u64 (5 : Nat) (feRoot x y)], .a (.b (feRoot_1 x y))]) :=
  Body.lens (c := (Try.f90.body.getD .skip)) rfl fun h => by
    cases hb0 : (feSame (feMul y (feMul (feMul (feMul x (feMul (feMul y y) y)) (feEighth (feMul x (feMul (feMul (feMul (feMul y y) y) (feMul (feMul y y) y)) y)))) (feMul (feMul x (feMul (feMul y y) y)) (feEighth (feMul x (feMul (feMul (feMul (feMul y y) y) (feMul (feMul y y) y)) y)))))) x)
    · cases hb1 : (feSame (feMul y (feMul (feMul (feMul (feMul x (feMul (feMul y y) y)) (feEighth (feMul x (feMul (feMul (feMul (feMul y y) y) (feMul (feMul y y) y)) y)))) (feI)) (feMul (feMul (feMul x (feMul (feMul y y) y)) (feEighth (feMul x (feMul (feMul (feMul (feMul y y) y) (feMul (feMul y y) y)) y)))) (feI)))) x)
      · exact (feRoot_w2_body0 x y (h.vals 0 _ _ _ rfl) (h.vals 1 _ _ _ rfl) hb0 hb1 w).mono fun _ _ hx => hx.trans (by rw [(show (feRoot x y) = (feRoot_w2 x y) from ((cond_f hb0).trans (cond_f hb1))), (show (feRoot_1 x y) = false from ((cond_f hb0).trans (cond_f hb1)))])
      · exact (feRoot_w1_body0 x y (h.vals 0 _ _ _ rfl) (h.vals 1 _ _ _ rfl) hb0 hb1 w).mono fun _ _ hx => hx.trans (by rw [(show (feRoot x y) = (feRoot_w1 x y) from ((cond_f hb0).trans (cond_t hb1))), (show (feRoot_1 x y) = true from ((cond_f hb0).trans (cond_t hb1)))])
    · exact (feRoot_w0_body0 x y (h.vals 0 _ _ _ rfl) (h.vals 1 _ _ _ rfl) hb0 w).mono fun _ _ hx => hx.trans (by rw [(show (feRoot x y) = (feRoot_w0 x y) from (cond_t hb0)), (show (feRoot_1 x y) = true from (cond_t hb0))])

theorem feRoot_pure (x : List Int) (y : List Int) : PureC Try.prog 90 [.g [.ints .u64 (5 : Nat) x], .g [.ints .u64 (5 : Nat) y]] [.g [.ints .u64 (5 : Nat) (feRoot x y)], .a (.b (feRoot_1 x y))] :=
  PureC.of_body tabOkVH Try.func90 rfl rfl fun w => feRoot_body x y w

def gam19 : Gam := gpure 90 (fun args => match args with | [.o (.g [.ints .u64 (5 : Nat) x]), .o (.g [.ints .u64 (5 : Nat) y])] => some (none, [.g [.ints .u64 (5 : Nat) (feRoot x y)], .a (.b (feRoot_1 x y))]) | _ => none) gam18
theorem gam19_ok : GamOk Try.prog gam19 := gpure_ok gam18_ok Try.call90 (by
  intro args vc xs h hv
  split at h
  · simp only [Option.some.injEq, Prod.mk.injEq] at h; obtain ⟨rfl, rfl⟩ := h; exact ⟨_, by rfl, feRoot_pure _ _⟩
  · simp at h)

end Go.Proofs.Ytodiojpakfjehaa.X

/- Powers, bytes and roots of the field's elements, as numbers. -/
namespace Go.Proofs.Ytodiojpakfjehaa.X
open Go Go.Proofs
set_option linter.unusedVariables false
set_option linter.unusedSimpArgs false
set_option maxRecDepth 100000

def Pw (l : List Int) (a : Fp) (n : Nat) : Prop := B5 l ∧ fv l = fpw a n
theorem Pw.one {l : List Int} (h : B5 l) : Pw l (fv l) 1 := ⟨h, (fpw_1 _).symm⟩
theorem Pw.mul {l l' : List Int} {a : Fp} {m n : Nat} (h : Pw l a m) (k : Pw l' a n) : Pw (feMul l l') a (m + n) := by
  have q := mul_ok h.1 k.1
  exact ⟨q.1, by rw [q.2, h.2, k.2, fpw_add]⟩
theorem Pw.sqs {l : List Int} {a : Fp} {m : Nat} (n : Int) (h : Pw l a m) : Pw (feSqL_out0 n l) a (m * 2 ^ n.toNat) := by
  unfold feSqL_out0
  generalize n.toNat = k
  induction k with
  | zero => rw [Nat.pow_zero, Nat.mul_one]; exact h
  | succ k ih =>
    have e : m * 2 ^ (k + 1) = m * 2 ^ k + m * 2 ^ k := by rw [Nat.pow_succ, ← Nat.mul_assoc]; omega
    rw [e]
    exact ih.mul ih
theorem Pw.to {l : List Int} {a : Fp} {m n : Nat} (h : Pw l a m) (e : m = n) : Pw l a n := e ▸ h
theorem chain_ok {x : List Int} (h : B5 x) : Pw (feChain x) (fv x) (2 ^ 250 - 1) ∧ Pw (feChain_1 x) (fv x) 11 := by
  have p1 := Pw.one h
  have p2 : Pw (feMul x x) (fv x) 2 := p1.mul p1
  have p9 : Pw (feMul x (feSqL_out0 2 (feMul x x))) (fv x) 9 := (p1.mul (p2.sqs 2)).to (by decide)
  have p11 := (p9.mul p2).to (n := 11) (by decide)
  have x5 := (p9.mul (p11.mul p11)).to (n := 31) (by decide)
  have x10 := (x5.mul (x5.sqs 5)).to (n := 1023) (by decide)
  have x20 := x10.mul (x10.sqs 10)
  have x40 := x20.mul (x20.sqs 20)
  have x50 := x10.mul (x40.sqs 10)
  have x100 := x50.mul (x50.sqs 50)
  have x200 := x100.mul (x100.sqs 100)
  have x250 := x50.mul (x200.sqs 50)
  exact ⟨Pw.to x250 (by decide +kernel), p11⟩
theorem inv_ok {x : List Int} (h : B5 x) : B5 (feInv x) ∧ fv (feInv x) = finv (fv x) := by
  obtain ⟨c, e⟩ := chain_ok h
  have k := ((c.sqs 5).mul e).to (n := PP - 2) (by decide +kernel)
  refine ⟨k.1, k.2.trans ?_⟩
  unfold finv
  rw [nInv_eq]
theorem eighth_ok {x : List Int} (h : B5 x) : B5 (feEighth x) ∧ fv (feEighth x) = fpw (fv x) n58 := by
  obtain ⟨c, e⟩ := chain_ok h
  have k := ((c.sqs 2).mul (Pw.one h)).to (n := (PP - 5) / 8) (by decide +kernel)
  refine ⟨k.1, k.2.trans ?_⟩
  rw [n58_eq]
/-- the number of 32 bytes, in limbs -/
theorem load_eq {s : List Int} (h : Byt s) : ∃ w0 w1 w2 w3 : Int, (0 ≤ w0 ∧ w0 < 18446744073709551616) ∧ (0 ≤ w1 ∧ w1 < 18446744073709551616) ∧ (0 ≤ w2 ∧ w2 < 18446744073709551616) ∧ (0 ≤ w3 ∧ w3 < 18446744073709551616) ∧ BV s = w0 + 18446744073709551616 * w1 + 340282366920938463463374607431768211456 * w2 + 6277101735386680763835789423207666416102355444464034512896 * w3 ∧
    feLoad s = [w0 % 2251799813685248 + 19 * (w3 / 9223372036854775808), (w0 / 2251799813685248 + 8192 * (w1 % 2251799813685248)) % 2251799813685248, (w1 / 274877906944 + 67108864 * (w2 % 274877906944)) % 2251799813685248, (w2 / 33554432 + 549755813888 * (w3 % 33554432)) % 2251799813685248, w3 / 4096 % 2251799813685248] := by
  have r0 := le8_rng h 0; have r1 := le8_rng h 8; have r2 := le8_rng h 16; have r3 := le8_rng h 24
  refine ⟨le8 s 0, le8 s 8, le8 s 16, le8 s 24, r0, r1, r2, r3, rfl, ?_⟩
  unfold feLoad
  rw [word8 (byt_get h 0) (byt_get h 1) (byt_get h 2) (byt_get h 3) (byt_get h 4) (byt_get h 5) (byt_get h 6) (byt_get h 7), word8 (byt_get h 8) (byt_get h 9) (byt_get h 10) (byt_get h 11) (byt_get h 12) (byt_get h 13) (byt_get h 14) (byt_get h 15), word8 (byt_get h 16) (byt_get h 17) (byt_get h 18) (byt_get h 19) (byt_get h 20) (byt_get h 21) (byt_get h 22) (byt_get h 23), word8 (byt_get h 24) (byt_get h 25) (byt_get h 26) (byt_get h 27) (byt_get h 28) (byt_get h 29) (byt_get h 30) (byt_get h 31)]
  show (let z0 := le8 s 24; let z1 := le8 s 16; let z2 := le8 s 8; let z3 := le8 s 0; ([IntKind.u64.wrap (bits2 .and .u64 z3 2251799813685247 + IntKind.u64.wrap (19 * shr .u64 z0 63)), bits2 .and .u64 (bits2 .or .u64 (shr .u64 z3 51) (shl .u64 z2 13)) 2251799813685247, bits2 .and .u64 (bits2 .or .u64 (shr .u64 z2 38) (shl .u64 z1 26)) 2251799813685247, bits2 .and .u64 (bits2 .or .u64 (shr .u64 z1 25) (shl .u64 z0 39)) 2251799813685247, bits2 .and .u64 (shr .u64 z0 12) 2251799813685247] : List Int)) = _
  generalize le8 s 0 = w0 at *
  generalize le8 s 8 = w1 at *
  generalize le8 s 16 = w2 at *
  generalize le8 s 24 = w3 at *
  simp only [shr51, shr38, shr25, shr12, shr63, shl13, shl26, shl39]
  rw [(or13 (x := w0 / 2251799813685248) (y := w1 % 2251799813685248) (by omega) (by omega) (by omega) (by omega)).1, (or26 (x := w1 / 274877906944) (y := w2 % 274877906944) (by omega) (by omega) (by omega) (by omega)).1, (or39 (x := w2 / 33554432) (y := w3 % 33554432) (by omega) (by omega) (by omega) (by omega)).1]
  rw [and51 r0.1 r0.2, and51 (by omega) (by omega), and51 (by omega) (by omega), and51 (by omega) (by omega), and51 (by omega) (by omega)]
  rw [wrapU (x := 19 * _) (by omega) (by omega), wrapU (by omega) (by omega)]
theorem load_ok {s : List Int} (h : Byt s) : B5 (feLoad s) ∧ fv (feLoad s) = fI (BV s) := by
  obtain ⟨w0, w1, w2, w3, r0, r1, r2, r3, e, k⟩ := load_eq h
  rw [k]
  refine ⟨b5_mk (by omega) (by omega) (by omega) (by omega) (by omega), ?_⟩
  unfold fv
  refine fI_sub_mul (w3 / 9223372036854775808) ?_
  unfold F5
  simp only [List.getD_cons_zero, List.getD_cons_succ]
  rw [e]
  omega
theorem feD_ok : B5 feD ∧ fv feD = cD := by
  have k := load_ok (s := [163, 120, 89, 19, 202, 77, 235, 117, 171, 216, 65, 65, 77, 10, 112, 0, 152, 232, 121, 119, 121, 64, 199, 140, 115, 254, 111, 43, 238, 108, 3, 82]) (byt_small (by decide))
  exact ⟨k.1, k.2.trans (by decide +kernel)⟩
theorem feI_ok : B5 feI ∧ fv feI = cI := by
  have k := load_ok (s := [176, 160, 14, 74, 39, 27, 238, 196, 120, 228, 47, 173, 6, 24, 67, 47, 167, 215, 251, 61, 153, 0, 77, 43, 11, 223, 193, 79, 128, 36, 131, 43]) (byt_small (by decide))
  exact ⟨k.1, k.2.trans (by decide +kernel)⟩
/-- the bytes of four words -/
theorem bytes_words {w0 w1 w2 w3 : Int} (r0 : 0 ≤ w0 ∧ w0 < 18446744073709551616) (r1 : 0 ≤ w1 ∧ w1 < 18446744073709551616) (r2 : 0 ≤ w2 ∧ w2 < 18446744073709551616) (r3 : 0 ≤ w3 ∧ w3 < 18446744073709551616) :
    ([IntKind.u8.wrap (shr .u64 w0 0), IntKind.u8.wrap (shr .u64 w0 8), IntKind.u8.wrap (shr .u64 w0 16), IntKind.u8.wrap (shr .u64 w0 24), IntKind.u8.wrap (shr .u64 w0 32), IntKind.u8.wrap (shr .u64 w0 40), IntKind.u8.wrap (shr .u64 w0 48), IntKind.u8.wrap (shr .u64 w0 56), IntKind.u8.wrap (shr .u64 w1 0), IntKind.u8.wrap (shr .u64 w1 8), IntKind.u8.wrap (shr .u64 w1 16), IntKind.u8.wrap (shr .u64 w1 24), IntKind.u8.wrap (shr .u64 w1 32), IntKind.u8.wrap (shr .u64 w1 40), IntKind.u8.wrap (shr .u64 w1 48), IntKind.u8.wrap (shr .u64 w1 56), IntKind.u8.wrap (shr .u64 w2 0), IntKind.u8.wrap (shr .u64 w2 8), IntKind.u8.wrap (shr .u64 w2 16), IntKind.u8.wrap (shr .u64 w2 24), IntKind.u8.wrap (shr .u64 w2 32), IntKind.u8.wrap (shr .u64 w2 40), IntKind.u8.wrap (shr .u64 w2 48), IntKind.u8.wrap (shr .u64 w2 56), IntKind.u8.wrap (shr .u64 w3 0), IntKind.u8.wrap (shr .u64 w3 8), IntKind.u8.wrap (shr .u64 w3 16), IntKind.u8.wrap (shr .u64 w3 24), IntKind.u8.wrap (shr .u64 w3 32), IntKind.u8.wrap (shr .u64 w3 40), IntKind.u8.wrap (shr .u64 w3 48), IntKind.u8.wrap (shr .u64 w3 56)] : List Int) = B32 (w0 + 18446744073709551616 * w1 + 340282366920938463463374607431768211456 * w2 + 6277101735386680763835789423207666416102355444464034512896 * w3) := by
  unfold B32
  simp only [wrap8, shr_0, shr_8, shr_16, shr_24, shr_32, shr_40, shr_48, shr_56, List.cons.injEq, and_true]
  refine ⟨?_, ?_, ?_, ?_, ?_, ?_, ?_, ?_, ?_, ?_, ?_, ?_, ?_, ?_, ?_, ?_, ?_, ?_, ?_, ?_, ?_, ?_, ?_, ?_, ?_, ?_, ?_, ?_, ?_, ?_, ?_, ?_⟩ <;> omega
/-- limbs of 51 bits made words -/
def wordsOf (d0 d1 d2 d3 d4 : Int) : List Int :=
  let z17 := bits2 .or .u64 d0 (shl .u64 d1 51)
  let z16 := bits2 .or .u64 (shr .u64 d1 13) (shl .u64 d2 38)
  let z14 := bits2 .or .u64 (shr .u64 d2 26) (shl .u64 d3 25)
  let z12 := bits2 .or .u64 (shr .u64 d3 39) (shl .u64 d4 12)
  [IntKind.u8.wrap (shr .u64 z17 0), IntKind.u8.wrap (shr .u64 z17 8), IntKind.u8.wrap (shr .u64 z17 16), IntKind.u8.wrap (shr .u64 z17 24), IntKind.u8.wrap (shr .u64 z17 32), IntKind.u8.wrap (shr .u64 z17 40), IntKind.u8.wrap (shr .u64 z17 48), IntKind.u8.wrap (shr .u64 z17 56), IntKind.u8.wrap (shr .u64 z16 0), IntKind.u8.wrap (shr .u64 z16 8), IntKind.u8.wrap (shr .u64 z16 16), IntKind.u8.wrap (shr .u64 z16 24), IntKind.u8.wrap (shr .u64 z16 32), IntKind.u8.wrap (shr .u64 z16 40), IntKind.u8.wrap (shr .u64 z16 48), IntKind.u8.wrap (shr .u64 z16 56), IntKind.u8.wrap (shr .u64 z14 0), IntKind.u8.wrap (shr .u64 z14 8), IntKind.u8.wrap (shr .u64 z14 16), IntKind.u8.wrap (shr .u64 z14 24), IntKind.u8.wrap (shr .u64 z14 32), IntKind.u8.wrap (shr .u64 z14 40), IntKind.u8.wrap (shr .u64 z14 48), IntKind.u8.wrap (shr .u64 z14 56), IntKind.u8.wrap (shr .u64 z12 0), IntKind.u8.wrap (shr .u64 z12 8), IntKind.u8.wrap (shr .u64 z12 16), IntKind.u8.wrap (shr .u64 z12 24), IntKind.u8.wrap (shr .u64 z12 32), IntKind.u8.wrap (shr .u64 z12 40), IntKind.u8.wrap (shr .u64 z12 48), IntKind.u8.wrap (shr .u64 z12 56)]
theorem wordsOf_eq {d0 d1 d2 d3 d4 : Int} (r0 : 0 ≤ d0 ∧ d0 < 2251799813685248) (r1 : 0 ≤ d1 ∧ d1 < 2251799813685248) (r2 : 0 ≤ d2 ∧ d2 < 2251799813685248) (r3 : 0 ≤ d3 ∧ d3 < 2251799813685248) (r4 : 0 ≤ d4 ∧ d4 < 2251799813685248) : wordsOf d0 d1 d2 d3 d4 = B32 (d0 + 2251799813685248 * d1 + 5070602400912917605986812821504 * d2 + 11417981541647679048466287755595961091061972992 * d3 + 25711008708143844408671393477458601640355247900524685364822016 * d4) := by
  unfold wordsOf
  simp only [shr13, shr26, shr39, shl51, shl38, shl25, shl12]
  rw [(or51 (x := d0) (y := d1 % 8192) (by omega) (by omega) (by omega) (by omega)).1, (or38 (x := d1 / 8192) (y := d2 % 67108864) (by omega) (by omega) (by omega) (by omega)).1, (or25 (x := d2 / 67108864) (y := d3 % 549755813888) (by omega) (by omega) (by omega) (by omega)).1, (or12 (x := d3 / 549755813888) (y := d4 % 4503599627370496) (by omega) (by omega) (by omega) (by omega)).1]
  rw [bytes_words (by omega) (by omega) (by omega) (by omega)]
  congr 1
  omega
/-- the last limbs: below the prime -/
def lastOf (a b c d e : Int) : List Int :=
  let q := shr .u64 (IntKind.u64.wrap (e + shr .u64 (IntKind.u64.wrap (d + shr .u64 (IntKind.u64.wrap (c + shr .u64 (IntKind.u64.wrap (b + shr .u64 (IntKind.u64.wrap (a + 19)) 51)) 51)) 51)) 51)) 51
  let a1 := IntKind.u64.wrap (a + IntKind.u64.wrap (19 * q))
  let b1 := IntKind.u64.wrap (b + shr .u64 a1 51)
  let c1 := IntKind.u64.wrap (c + shr .u64 b1 51)
  let d1 := IntKind.u64.wrap (d + shr .u64 c1 51)
  let e1 := IntKind.u64.wrap (e + shr .u64 d1 51)
  let M : Int := 2251799813685247
  wordsOf (bits2 .and .u64 a1 M) (bits2 .and .u64 b1 M) (bits2 .and .u64 c1 M) (bits2 .and .u64 d1 M) (bits2 .and .u64 e1 M)
theorem feBytes_eq {x : List Int} {a b c d e : Int} (h : carr (carr x) = [a, b, c, d, e]) : feBytes x = lastOf a b c d e := by
  unfold feBytes
  rw [h]
  rfl
theorem lastOf_eq {a b c d e : Int} (ha : 0 ≤ a ∧ a < 2251799813685448) (hb : 0 ≤ b ∧ b < 2251799813685448) (hc : 0 ≤ c ∧ c < 2251799813685448) (hd : 0 ≤ d ∧ d < 2251799813685448) (he : 0 ≤ e ∧ e < 2251799813685448) : lastOf a b c d e = B32 (F5 [a, b, c, d, e] % 57896044618658097711785492504343953926634992332820282019728792003956564819949) := by
  have v : F5 [a, b, c, d, e] = a + 2251799813685248 * b + 5070602400912917605986812821504 * c + 11417981541647679048466287755595961091061972992 * d + 25711008708143844408671393477458601640355247900524685364822016 * e := rfl
  rw [v]
  unfold lastOf
  simp only [shr51]
  rw [wrapU (x := a + 19) (by omega) (by omega), wrapU (x := b + (a + 19) / 2251799813685248) (by omega) (by omega), wrapU (x := c + (b + (a + 19) / 2251799813685248) / 2251799813685248) (by omega) (by omega), wrapU (x := d + (c + (b + (a + 19) / 2251799813685248) / 2251799813685248) / 2251799813685248) (by omega) (by omega), wrapU (x := e + (d + (c + (b + (a + 19) / 2251799813685248) / 2251799813685248) / 2251799813685248) / 2251799813685248) (by omega) (by omega)]
  have hq : (e + (d + (c + (b + (a + 19) / 2251799813685248) / 2251799813685248) / 2251799813685248) / 2251799813685248) / 2251799813685248 = (a + 19 + 2251799813685248 * b + 5070602400912917605986812821504 * c + 11417981541647679048466287755595961091061972992 * d + 25711008708143844408671393477458601640355247900524685364822016 * e) / 57896044618658097711785492504343953926634992332820282019728792003956564819968 := by omega
  rw [hq]
  have hq2 : 0 ≤ (a + 19 + 2251799813685248 * b + 5070602400912917605986812821504 * c + 11417981541647679048466287755595961091061972992 * d + 25711008708143844408671393477458601640355247900524685364822016 * e) / 57896044618658097711785492504343953926634992332820282019728792003956564819968 ∧ (a + 19 + 2251799813685248 * b + 5070602400912917605986812821504 * c + 11417981541647679048466287755595961091061972992 * d + 25711008708143844408671393477458601640355247900524685364822016 * e) / 57896044618658097711785492504343953926634992332820282019728792003956564819968 ≤ 1 := by omega
  clear hq v
  generalize hg : (a + 19 + 2251799813685248 * b + 5070602400912917605986812821504 * c + 11417981541647679048466287755595961091061972992 * d + 25711008708143844408671393477458601640355247900524685364822016 * e) / 57896044618658097711785492504343953926634992332820282019728792003956564819968 = q at *
  have hv : (a + 2251799813685248 * b + 5070602400912917605986812821504 * c + 11417981541647679048466287755595961091061972992 * d + 25711008708143844408671393477458601640355247900524685364822016 * e) % 57896044618658097711785492504343953926634992332820282019728792003956564819949 = a + 2251799813685248 * b + 5070602400912917605986812821504 * c + 11417981541647679048466287755595961091061972992 * d + 25711008708143844408671393477458601640355247900524685364822016 * e - 57896044618658097711785492504343953926634992332820282019728792003956564819949 * q := by omega
  rw [hv]
  clear hv
  have hlo : 0 ≤ a + 2251799813685248 * b + 5070602400912917605986812821504 * c + 11417981541647679048466287755595961091061972992 * d + 25711008708143844408671393477458601640355247900524685364822016 * e - 57896044618658097711785492504343953926634992332820282019728792003956564819949 * q ∧ a + 2251799813685248 * b + 5070602400912917605986812821504 * c + 11417981541647679048466287755595961091061972992 * d + 25711008708143844408671393477458601640355247900524685364822016 * e - 57896044618658097711785492504343953926634992332820282019728792003956564819949 * q < 57896044618658097711785492504343953926634992332820282019728792003956564819949 := by omega
  clear hg
  rw [wrapU (x := 19 * q) (by omega) (by omega)]
  rw [wrapU (x := a + 19 * q) (by omega) (by omega)]
  generalize ha1 : a + 19 * q = a1
  rw [wrapU (x := b + a1 / 2251799813685248) (by omega) (by omega)]
  generalize hb1 : b + a1 / 2251799813685248 = b1
  rw [wrapU (x := c + b1 / 2251799813685248) (by omega) (by omega)]
  generalize hc1 : c + b1 / 2251799813685248 = c1
  rw [wrapU (x := d + c1 / 2251799813685248) (by omega) (by omega)]
  generalize hd1 : d + c1 / 2251799813685248 = d1
  rw [wrapU (x := e + d1 / 2251799813685248) (by omega) (by omega)]
  generalize he1 : e + d1 / 2251799813685248 = e1
  rw [and51 (x := a1) (by omega) (by omega), and51 (x := b1) (by omega) (by omega), and51 (x := c1) (by omega) (by omega), and51 (x := d1) (by omega) (by omega), and51 (x := e1) (by omega) (by omega)]
  rw [wordsOf_eq (by omega) (by omega) (by omega) (by omega) (by omega)]
  congr 1
  omega
theorem bytes_ok {x : List Int} (h : B5 x) : feBytes x = B32 ((fv x).val : Int) := by
  obtain ⟨a, b, c, d, e, rfl⟩ := five h.1
  have h0 := b5_get h 0; have h1 := b5_get h 1; have h2 := b5_get h 2; have h3 := b5_get h 3; have h4 := b5_get h 4
  simp only [List.getD_cons_zero, List.getD_cons_succ] at h0 h1 h2 h3 h4
  have f1 := carr_F a b c d e (by omega) (by omega) (by omega) (by omega) (by omega)
  have e1 := carr_eq a b c d e (by omega) (by omega) (by omega) (by omega) (by omega)
  rw [e1] at f1
  have g0 : 0 ≤ a % 2251799813685248 + 19 * (e / 2251799813685248) ∧ a % 2251799813685248 + 19 * (e / 2251799813685248) < 2251799813685300 := by omega
  have g1 : 0 ≤ b % 2251799813685248 + a / 2251799813685248 ∧ b % 2251799813685248 + a / 2251799813685248 < 2251799813685300 := by omega
  have g2 : 0 ≤ c % 2251799813685248 + b / 2251799813685248 ∧ c % 2251799813685248 + b / 2251799813685248 < 2251799813685300 := by omega
  have g3 : 0 ≤ d % 2251799813685248 + c / 2251799813685248 ∧ d % 2251799813685248 + c / 2251799813685248 < 2251799813685300 := by omega
  have g4 : 0 ≤ e % 2251799813685248 + d / 2251799813685248 ∧ e % 2251799813685248 + d / 2251799813685248 < 2251799813685300 := by omega
  generalize a % 2251799813685248 + 19 * (e / 2251799813685248) = a1 at *
  generalize b % 2251799813685248 + a / 2251799813685248 = b1 at *
  generalize c % 2251799813685248 + b / 2251799813685248 = c1 at *
  generalize d % 2251799813685248 + c / 2251799813685248 = d1 at *
  generalize hz : e % 2251799813685248 + d / 2251799813685248 = z1 at *
  have f2 := carr_F a1 b1 c1 d1 z1 (by omega) (by omega) (by omega) (by omega) (by omega)
  have e2 := carr_eq a1 b1 c1 d1 z1 (by omega) (by omega) (by omega) (by omega) (by omega)
  have e3 := (congrArg carr e1).trans e2
  rw [feBytes_eq e3, lastOf_eq (by omega) (by omega) (by omega) (by omega) (by omega)]
  rw [e2] at f2
  rw [f2, f1]
  unfold fv
  rw [fI_val, PP_val]
  congr 1
  generalize F5 [a, b, c, d, e] = v
  omega
theorem val_rng (z : Fp) : 0 ≤ (z.val : Int) ∧ (z.val : Int) < 57896044618658097711785492504343953926634992332820282019728792003956564819949 := by have := z.isLt; have : PP = 57896044618658097711785492504343953926634992332820282019728792003956564819949 := rfl; omega
theorem val_256 (z : Fp) : (z.val : Int) < 115792089237316195423570985008687907853269984665640564039457584007913129639936 := by have := val_rng z; omega
theorem same_ok {x y : List Int} (hx : B5 x) (hy : B5 y) : feSame x y = decide (fv x = fv y) := by
  unfold feSame
  rw [bytes_ok hx, bytes_ok hy]
  refine decide_eq_decide.2 ⟨fun h => ?_, fun h => by rw [h]⟩
  exact fp_ext (B32_inj ⟨(val_rng _).1, val_256 _⟩ ⟨(val_rng _).1, val_256 _⟩ h)
theorem and1_u8 (x : Int) : bits2 .and .u8 x 1 = x % 2 := by
  have e : bits2 .and .u8 x 1 = IntKind.u8.wrap (((BitVec.ofInt 8 x &&& BitVec.ofInt 8 1).toNat : Nat) : Int) := rfl
  have t2 : (BitVec.ofInt 8 1).toNat = 2 ^ 1 - 1 := by rfl
  rw [e, BitVec.toNat_and, t2, Nat.and_two_pow_sub_one_eq_mod, BitVec.toNat_ofInt, wrap8]
  show (((x % 256).toNat % 2 ^ 1 : Nat) : Int) % 256 = x % 2
  omega
theorem odd_ok {x : List Int} (hx : B5 x) : feOdd x = par (fv x) := by
  unfold feOdd
  rw [bytes_ok hx, and1_u8]
  show (((fv x).val : Int) % 256 % 2 == 1) = _
  unfold par
  by_cases h : (fv x).val % 2 = 1
  · have h2 : ((fv x).val : Int) % 256 % 2 = 1 := by omega
    rw [h, h2]; rfl
  · have h3 : (fv x).val % 2 = 0 := by omega
    have h2 : ((fv x).val : Int) % 256 % 2 = 0 := by omega
    rw [h3, h2]; rfl
/-- the root of a quotient, or none -/
theorem root_ok {u w : List Int} (hu : B5 u) (hw : B5 w) : B5 (feRoot u w) ∧
    (fv w*(rootOf (fv u) (fv w)*rootOf (fv u) (fv w)) = fv u → feRoot_1 u w = true ∧ fv (feRoot u w) = rootOf (fv u) (fv w)) ∧
    (fv w*(rootOf (fv u) (fv w)*rootOf (fv u) (fv w)) ≠ fv u → fv w*(rootOf (fv u) (fv w)*cI*(rootOf (fv u) (fv w)*cI)) = fv u → feRoot_1 u w = true ∧ fv (feRoot u w) = rootOf (fv u) (fv w)*cI) ∧
    (fv w*(rootOf (fv u) (fv w)*rootOf (fv u) (fv w)) ≠ fv u → fv w*(rootOf (fv u) (fv w)*cI*(rootOf (fv u) (fv w)*cI)) ≠ fv u → feRoot_1 u w = false) := by
  have w2 := mul_ok hw hw
  have w3 := mul_ok w2.1 hw
  have w6 := mul_ok w3.1 w3.1
  have w7 := mul_ok w6.1 hw
  have uw7 := mul_ok hu w7.1
  have p := eighth_ok uw7.1
  have uw3 := mul_ok hu w3.1
  have r := mul_ok uw3.1 p.1
  have e : fv (feMul (feMul u (feMul (feMul w w) w)) (feEighth (feMul u (feMul (feMul (feMul (feMul w w) w) (feMul (feMul w w) w)) w)))) = rootOf (fv u) (fv w) := by
    rw [r.2, uw3.2, p.2, uw7.2, w7.2, w6.2, w3.2, w2.2]; rfl
  have hr := r.1
  unfold feRoot feRoot_1 feRoot_w0 feRoot_w1 feRoot_w2
  simp only
  generalize feMul (feMul u (feMul (feMul w w) w)) (feEighth (feMul u (feMul (feMul (feMul (feMul w w) w) (feMul (feMul w w) w)) w))) = x at *
  have rr := mul_ok hr hr
  have wr := mul_ok hw rr.1
  have ri := mul_ok hr feI_ok.1
  have rri := mul_ok ri.1 ri.1
  have wri := mul_ok hw rri.1
  have rii := mul_ok ri.1 feI_ok.1
  have s1 := same_ok wr.1 hu
  have s2 := same_ok wri.1 hu
  rw [wr.2, rr.2, e] at s1
  rw [wri.2, rri.2, ri.2, e, feI_ok.2] at s2
  rw [s1, s2]
  by_cases h1 : fv w*(rootOf (fv u) (fv w)*rootOf (fv u) (fv w)) = fv u
  · rw [decide_eq_true h1]
    exact ⟨hr, fun _ => ⟨rfl, e⟩, fun h => absurd h1 h, fun h => absurd h1 h⟩
  · rw [decide_eq_false h1]
    by_cases h2 : fv w*(rootOf (fv u) (fv w)*cI*(rootOf (fv u) (fv w)*cI)) = fv u
    · rw [decide_eq_true h2]
      exact ⟨ri.1, fun h => absurd h h1, fun _ _ => ⟨rfl, by show fv (feMul x feI) = _; rw [ri.2, e, feI_ok.2]⟩, fun _ h => absurd h2 h⟩
    · rw [decide_eq_false h2]
      exact ⟨rii.1, fun h => absurd h h1, fun _ h => absurd h h2, fun _ _ => rfl⟩
end Go.Proofs.Ytodiojpakfjehaa.X

/- Printed by a tool of this session. -/
namespace Go.Proofs.Ytodiojpakfjehaa.X
open Go Go.Proofs
set_option linter.unusedVariables false
set_option linter.unusedSimpArgs false
set_option maxRecDepth 100000
theorem teVI_4 : TEOk Try.prog 4 ⟨.bool, 1, 1, [.b false], false⟩ :=
  TEOk.of Try.underlying4 (i := Try.t4) (by kernel_rfl) rfl rfl rfl (by kernel_rfl) (fun h => by cases h) (by kernel_rfl)
theorem teVI_5 : TEOk Try.prog 5 ⟨.int .u8, 1, 1, [.i .u8 (0 : Int)], false⟩ :=
  TEOk.of Try.underlying5 (i := Try.t5) (by kernel_rfl) rfl rfl rfl (by kernel_rfl) (fun h => by cases h) (by kernel_rfl)
theorem teVI_22 : TEOk Try.prog 22 ⟨.array 32 5, 32, 32, [.ints .u8 (32 : Nat) ([0, 0, 0, 0, 0, 0, 0, 0, 0, 0, 0, 0, 0, 0, 0, 0, 0, 0, 0, 0, 0, 0, 0, 0, 0, 0, 0, 0, 0, 0, 0, 0] : List Int)], true⟩ :=
  TEOk.of Try.underlying22 (i := Try.t22) (by kernel_rfl) rfl rfl rfl (by kernel_rfl) (fun _ => Try.eqGuardType22) (by kernel_rfl)
theorem teVI_23 : TEOk Try.prog 23 ⟨.array 32 5, 32, 32, [.ints .u8 (32 : Nat) ([0, 0, 0, 0, 0, 0, 0, 0, 0, 0, 0, 0, 0, 0, 0, 0, 0, 0, 0, 0, 0, 0, 0, 0, 0, 0, 0, 0, 0, 0, 0, 0] : List Int)], true⟩ :=
  TEOk.of Try.underlying23 (i := Try.t23) (by kernel_rfl) rfl rfl rfl (by kernel_rfl) (fun _ => Try.eqGuardType23) (by kernel_rfl)
theorem teVI_24 : TEOk Try.prog 24 ⟨.array 32 5, 32, 32, [.ints .u8 (32 : Nat) ([0, 0, 0, 0, 0, 0, 0, 0, 0, 0, 0, 0, 0, 0, 0, 0, 0, 0, 0, 0, 0, 0, 0, 0, 0, 0, 0, 0, 0, 0, 0, 0] : List Int)], true⟩ :=
  TEOk.of Try.underlying24 (i := Try.t24) (by kernel_rfl) rfl rfl rfl (by kernel_rfl) (fun _ => Try.eqGuardType24) (by kernel_rfl)
theorem teVI_37 : TEOk Try.prog 37 ⟨.array 32 5, 32, 32, [.ints .u8 (32 : Nat) ([0, 0, 0, 0, 0, 0, 0, 0, 0, 0, 0, 0, 0, 0, 0, 0, 0, 0, 0, 0, 0, 0, 0, 0, 0, 0, 0, 0, 0, 0, 0, 0] : List Int)], true⟩ :=
  TEOk.of Try.underlying37 (i := Try.t37) (by kernel_rfl) rfl rfl rfl (by kernel_rfl) (fun _ => Try.eqGuardType37) (by kernel_rfl)
theorem teVI_90 : TEOk Try.prog 90 ⟨.int .u64, 1, 8, [.i .u64 (0 : Int)], false⟩ :=
  TEOk.of Try.underlying90 (i := Try.t90) (by kernel_rfl) rfl rfl rfl (by kernel_rfl) (fun h => by cases h) (by kernel_rfl)
theorem teVI_92 : TEOk Try.prog 92 ⟨.array 5 90, 5, 40, [.ints .u64 (5 : Nat) ([0, 0, 0, 0, 0] : List Int)], true⟩ :=
  TEOk.of Try.underlying92 (i := Try.t92) (by kernel_rfl) rfl rfl rfl (by kernel_rfl) (fun _ => Try.eqGuardType92) (by kernel_rfl)
theorem teVI_94 : TEOk Try.prog 94 ⟨Try.t93.desc, 20, 160, [.ints .u64 (20 : Nat) ([0, 0, 0, 0, 0, 0, 0, 0, 0, 0, 0, 0, 0, 0, 0, 0, 0, 0, 0, 0] : List Int)], false⟩ :=
  TEOk.of Try.underlying94 (i := Try.t94) (by kernel_rfl) rfl rfl rfl (by kernel_rfl) (fun h => by cases h) (by kernel_rfl)
noncomputable def tabVI : List (Nat × TE) := [(4, ⟨.bool, 1, 1, [.b false], false⟩), (5, ⟨.int .u8, 1, 1, [.i .u8 (0 : Int)], false⟩), (22, ⟨.array 32 5, 32, 32, [.ints .u8 (32 : Nat) ([0, 0, 0, 0, 0, 0, 0, 0, 0, 0, 0, 0, 0, 0, 0, 0, 0, 0, 0, 0, 0, 0, 0, 0, 0, 0, 0, 0, 0, 0, 0, 0] : List Int)], true⟩), (23, ⟨.array 32 5, 32, 32, [.ints .u8 (32 : Nat) ([0, 0, 0, 0, 0, 0, 0, 0, 0, 0, 0, 0, 0, 0, 0, 0, 0, 0, 0, 0, 0, 0, 0, 0, 0, 0, 0, 0, 0, 0, 0, 0] : List Int)], true⟩), (24, ⟨.array 32 5, 32, 32, [.ints .u8 (32 : Nat) ([0, 0, 0, 0, 0, 0, 0, 0, 0, 0, 0, 0, 0, 0, 0, 0, 0, 0, 0, 0, 0, 0, 0, 0, 0, 0, 0, 0, 0, 0, 0, 0] : List Int)], true⟩), (37, ⟨.array 32 5, 32, 32, [.ints .u8 (32 : Nat) ([0, 0, 0, 0, 0, 0, 0, 0, 0, 0, 0, 0, 0, 0, 0, 0, 0, 0, 0, 0, 0, 0, 0, 0, 0, 0, 0, 0, 0, 0, 0, 0] : List Int)], true⟩), (90, ⟨.int .u64, 1, 8, [.i .u64 (0 : Int)], false⟩), (92, ⟨.array 5 90, 5, 40, [.ints .u64 (5 : Nat) ([0, 0, 0, 0, 0] : List Int)], true⟩), (94, ⟨Try.t93.desc, 20, 160, [.ints .u64 (20 : Nat) ([0, 0, 0, 0, 0, 0, 0, 0, 0, 0, 0, 0, 0, 0, 0, 0, 0, 0, 0, 0] : List Int)], false⟩)]
theorem tabOkVI : TabOk Try.prog (tabOf tabVI) := (tabOf_cons teVI_4 (tabOf_cons teVI_5 (tabOf_cons teVI_22 (tabOf_cons teVI_23 (tabOf_cons teVI_24 (tabOf_cons teVI_37 (tabOf_cons teVI_90 (tabOf_cons teVI_92 (tabOf_cons teVI_94 tabOf_nil)))))))))

def ptId : List Int :=
  (splice (splice ([0, 0, 0, 0, 0, 0, 0, 0, 0, 0, 0, 0, 0, 0, 0, 0, 0, 0, 0, 0] : List Int) (5 : Nat) (5 : Nat) (feSmall (1 : Int))) (10 : Nat) (5 : Nat) (feSmall (1 : Int)))

set_option maxHeartbeats 1000000 in
theorem ptId_body0 (w : World) : Body Try.prog (tabOf tabVI) Try.f55 ⟨w, [], 0, noEnv⟩ (toA []) [] (fun ys _ => ys = [.g [.ints .u64 (20 : Nat) (ptId)]]) :=
  Body.of_fin (Γ := gam19) (Λ := noLam) (Ψ := noPsi) (fuel := 0) (m := 4) (c := (Try.f55.body.getD .skip)) mix tabOkVI gam19_ok rfl (rs := [.cell 0 94]) rfl rfl [] []
    (vc := []) (by kernel_rfl)
    (AllP_nil)

theorem ptId_body (w : World) : Body Try.prog (tabOf tabVI) Try.f55 ⟨w, [], 0, noEnv⟩ (toA []) [] (fun ys _ => ys = [.g [.ints .u64 (20 : Nat) (ptId)]]) :=
  Body.lens (c := (Try.f55.body.getD .skip)) rfl fun h => ptId_body0  w

theorem ptId_pure : PureC Try.prog 55 [] [.g [.ints .u64 (20 : Nat) (ptId)]] :=
  PureC.of_body tabOkVI Try.func55 rfl rfl fun w => ptId_body w

def gam20 : Gam := gpure 55 (fun args => match args with | [] => some (none, [.g [.ints .u64 (20 : Nat) (ptId)]]) | _ => none) gam19
theorem gam20_ok : GamOk Try.prog gam20 := gpure_ok gam19_ok Try.call55 (by
  intro args vc xs h hv
  split at h
  · simp only [Option.some.injEq, Prod.mk.injEq] at h; obtain ⟨rfl, rfl⟩ := h; exact ⟨_, by rfl, ptId_pure⟩
  · simp at h)

def ptB : List Int :=
  (splice (splice (splice (splice ([0, 0, 0, 0, 0, 0, 0, 0, 0, 0, 0, 0, 0, 0, 0, 0, 0, 0, 0, 0] : List Int) (0 : Nat) (5 : Nat) (feLoad ([26, 213, 37, 143, 96, 45, 86, 201, 178, 167, 37, 149, 96, 199, 44, 105, 92, 220, 214, 253, 49, 226, 164, 192, 254, 83, 110, 205, 211, 54, 105, 33] : List Int))) (5 : Nat) (5 : Nat) (feLoad ([88, 102, 102, 102, 102, 102, 102, 102, 102, 102, 102, 102, 102, 102, 102, 102, 102, 102, 102, 102, 102, 102, 102, 102, 102, 102, 102, 102, 102, 102, 102, 102] : List Int))) (10 : Nat) (5 : Nat) (feSmall (1 : Int))) (15 : Nat) (5 : Nat) (feMul (feLoad ([26, 213, 37, 143, 96, 45, 86, 201, 178, 167, 37, 149, 96, 199, 44, 105, 92, 220, 214, 253, 49, 226, 164, 192, 254, 83, 110, 205, 211, 54, 105, 33] : List Int)) (feLoad ([88, 102, 102, 102, 102, 102, 102, 102, 102, 102, 102, 102, 102, 102, 102, 102, 102, 102, 102, 102, 102, 102, 102, 102, 102, 102, 102, 102, 102, 102, 102, 102] : List Int))))

set_option maxHeartbeats 1000000 in
theorem ptB_body0 (w : World) : Body Try.prog (tabOf tabVI) Try.f57 ⟨w, [], 0, noEnv⟩ (toA []) [] (fun ys _ => ys = [.g [.ints .u64 (20 : Nat) (ptB)]]) :=
  Body.of_fin (Γ := gam20) (Λ := noLam) (Ψ := noPsi) (fuel := 33) (m := 24) (c := (Try.f57.body.getD .skip)) mix tabOkVI gam20_ok rfl (rs := [.cell 0 94]) rfl rfl [true, true, true, true, true, true, true, true, true, true, true, true, true, true, true, true, true, true, true, true, true, true, true, true, true, true, true, true, true, true, true, false] []
    (vc := [(false = false), ((31 : Nat) < (32 : Nat)), (((0 : Int) ≤ (31 : Int)) ∧ ((31 : Int) < (32 : Int))), (true = true), ((30 : Nat) < (32 : Nat)), (((0 : Int) ≤ (30 : Int)) ∧ ((30 : Int) < (32 : Int))), (true = true), ((29 : Nat) < (32 : Nat)), (((0 : Int) ≤ (29 : Int)) ∧ ((29 : Int) < (32 : Int))), (true = true), ((28 : Nat) < (32 : Nat)), (((0 : Int) ≤ (28 : Int)) ∧ ((28 : Int) < (32 : Int))), (true = true), ((27 : Nat) < (32 : Nat)), (((0 : Int) ≤ (27 : Int)) ∧ ((27 : Int) < (32 : Int))), (true = true), ((26 : Nat) < (32 : Nat)), (((0 : Int) ≤ (26 : Int)) ∧ ((26 : Int) < (32 : Int))), (true = true), ((25 : Nat) < (32 : Nat)), (((0 : Int) ≤ (25 : Int)) ∧ ((25 : Int) < (32 : Int))), (true = true), ((24 : Nat) < (32 : Nat)), (((0 : Int) ≤ (24 : Int)) ∧ ((24 : Int) < (32 : Int))), (true = true), ((23 : Nat) < (32 : Nat)), (((0 : Int) ≤ (23 : Int)) ∧ ((23 : Int) < (32 : Int))), (true = true), ((22 : Nat) < (32 : Nat)), (((0 : Int) ≤ (22 : Int)) ∧ ((22 : Int) < (32 : Int))), (true = true), ((21 : Nat) < (32 : Nat)), (((0 : Int) ≤ (21 : Int)) ∧ ((21 : Int) < (32 : Int))), (true = true), ((20 : Nat) < (32 : Nat)), (((0 : Int) ≤ (20 : Int)) ∧ ((20 : Int) < (32 : Int))), (true = true), ((19 : Nat) < (32 : Nat)), (((0 : Int) ≤ (19 : Int)) ∧ ((19 : Int) < (32 : Int))), (true = true), ((18 : Nat) < (32 : Nat)), (((0 : Int) ≤ (18 : Int)) ∧ ((18 : Int) < (32 : Int))), (true = true), ((17 : Nat) < (32 : Nat)), (((0 : Int) ≤ (17 : Int)) ∧ ((17 : Int) < (32 : Int))), (true = true), ((16 : Nat) < (32 : Nat)), (((0 : Int) ≤ (16 : Int)) ∧ ((16 : Int) < (32 : Int))), (true = true), ((15 : Nat) < (32 : Nat)), (((0 : Int) ≤ (15 : Int)) ∧ ((15 : Int) < (32 : Int))), (true = true), ((14 : Nat) < (32 : Nat)), (((0 : Int) ≤ (14 : Int)) ∧ ((14 : Int) < (32 : Int))), (true = true), ((13 : Nat) < (32 : Nat)), (((0 : Int) ≤ (13 : Int)) ∧ ((13 : Int) < (32 : Int))), (true = true), ((12 : Nat) < (32 : Nat)), (((0 : Int) ≤ (12 : Int)) ∧ ((12 : Int) < (32 : Int))), (true = true), ((11 : Nat) < (32 : Nat)), (((0 : Int) ≤ (11 : Int)) ∧ ((11 : Int) < (32 : Int))), (true = true), ((10 : Nat) < (32 : Nat)), (((0 : Int) ≤ (10 : Int)) ∧ ((10 : Int) < (32 : Int))), (true = true), ((9 : Nat) < (32 : Nat)), (((0 : Int) ≤ (9 : Int)) ∧ ((9 : Int) < (32 : Int))), (true = true), ((8 : Nat) < (32 : Nat)), (((0 : Int) ≤ (8 : Int)) ∧ ((8 : Int) < (32 : Int))), (true = true), ((7 : Nat) < (32 : Nat)), (((0 : Int) ≤ (7 : Int)) ∧ ((7 : Int) < (32 : Int))), (true = true), ((6 : Nat) < (32 : Nat)), (((0 : Int) ≤ (6 : Int)) ∧ ((6 : Int) < (32 : Int))), (true = true), ((5 : Nat) < (32 : Nat)), (((0 : Int) ≤ (5 : Int)) ∧ ((5 : Int) < (32 : Int))), (true = true), ((4 : Nat) < (32 : Nat)), (((0 : Int) ≤ (4 : Int)) ∧ ((4 : Int) < (32 : Int))), (true = true), ((3 : Nat) < (32 : Nat)), (((0 : Int) ≤ (3 : Int)) ∧ ((3 : Int) < (32 : Int))), (true = true), ((2 : Nat) < (32 : Nat)), (((0 : Int) ≤ (2 : Int)) ∧ ((2 : Int) < (32 : Int))), (true = true), ((1 : Nat) < (32 : Nat)), (((0 : Int) ≤ (1 : Int)) ∧ ((1 : Int) < (32 : Int))), (true = true)]) (by kernel_rfl)
    (AllP_cons rfl (AllP_cons (by decide) (AllP_cons ⟨(by decide), (by decide)⟩ (AllP_cons rfl (AllP_cons (by decide) (AllP_cons ⟨(by decide), (by decide)⟩ (AllP_cons rfl (AllP_cons (by decide) (AllP_cons ⟨(by decide), (by decide)⟩ (AllP_cons rfl (AllP_cons (by decide) (AllP_cons ⟨(by decide), (by decide)⟩ (AllP_cons rfl (AllP_cons (by decide) (AllP_cons ⟨(by decide), (by decide)⟩ (AllP_cons rfl (AllP_cons (by decide) (AllP_cons ⟨(by decide), (by decide)⟩ (AllP_cons rfl (AllP_cons (by decide) (AllP_cons ⟨(by decide), (by decide)⟩ (AllP_cons rfl (AllP_cons (by decide) (AllP_cons ⟨(by decide), (by decide)⟩ (AllP_cons rfl (AllP_cons (by decide) (AllP_cons ⟨(by decide), (by decide)⟩ (AllP_cons rfl (AllP_cons (by decide) (AllP_cons ⟨(by decide), (by decide)⟩ (AllP_cons rfl (AllP_cons (by decide) (AllP_cons ⟨(by decide), (by decide)⟩ (AllP_cons rfl (AllP_cons (by decide) (AllP_cons ⟨(by decide), (by decide)⟩ (AllP_cons rfl (AllP_cons (by decide) (AllP_cons ⟨(by decide), (by decide)⟩ (AllP_cons rfl (AllP_cons (by decide) (AllP_cons ⟨(by decide), (by decide)⟩ (AllP_cons rfl (AllP_cons (by decide) (AllP_cons ⟨(by decide), (by decide)⟩ (AllP_cons rfl (AllP_cons (by decide) (AllP_cons ⟨(by decide), (by decide)⟩ (AllP_cons rfl (AllP_cons (by decide) (AllP_cons ⟨(by decide), (by decide)⟩ (AllP_cons rfl (AllP_cons (by decide) (AllP_cons ⟨(by decide), (by decide)⟩ (AllP_cons rfl (AllP_cons (by decide) (AllP_cons ⟨(by decide), (by decide)⟩ (AllP_cons rfl (AllP_cons (by decide) (AllP_cons ⟨(by decide), (by decide)⟩ (AllP_cons rfl (AllP_cons (by decide) (AllP_cons ⟨(by decide), (by decide)⟩ (AllP_cons rfl (AllP_cons (by decide) (AllP_cons ⟨(by decide), (by decide)⟩ (AllP_cons rfl (AllP_cons (by decide) (AllP_cons ⟨(by decide), (by decide)⟩ (AllP_cons rfl (AllP_cons (by decide) (AllP_cons ⟨(by decide), (by decide)⟩ (AllP_cons rfl (AllP_cons (by decide) (AllP_cons ⟨(by decide), (by decide)⟩ (AllP_cons rfl (AllP_cons (by decide) (AllP_cons ⟨(by decide), (by decide)⟩ (AllP_cons rfl (AllP_cons (by decide) (AllP_cons ⟨(by decide), (by decide)⟩ (AllP_cons rfl (AllP_cons (by decide) (AllP_cons ⟨(by decide), (by decide)⟩ (AllP_cons rfl (AllP_cons (by decide) (AllP_cons ⟨(by decide), (by decide)⟩ (AllP_cons rfl (AllP_cons (by decide) (AllP_cons ⟨(by decide), (by decide)⟩ (AllP_cons rfl (AllP_cons (by decide) (AllP_cons ⟨(by decide), (by decide)⟩ (AllP_cons rfl (AllP_nil)))))))))))))))))))))))))))))))))))))))))))))))))))))))))))))))))))))))))))))))))))))))))))))))

theorem ptB_body (w : World) : Body Try.prog (tabOf tabVI) Try.f57 ⟨w, [], 0, noEnv⟩ (toA []) [] (fun ys _ => ys = [.g [.ints .u64 (20 : Nat) (ptB)]]) :=
  Body.lens (c := (Try.f57.body.getD .skip)) rfl fun h => ptB_body0  w

theorem ptB_pure : PureC Try.prog 57 [] [.g [.ints .u64 (20 : Nat) (ptB)]] :=
  PureC.of_body tabOkVI Try.func57 rfl rfl fun w => ptB_body w

def gam21 : Gam := gpure 57 (fun args => match args with | [] => some (none, [.g [.ints .u64 (20 : Nat) (ptB)]]) | _ => none) gam20
theorem gam21_ok : GamOk Try.prog gam21 := gpure_ok gam20_ok Try.call57 (by
  intro args vc xs h hv
  split at h
  · simp only [Option.some.injEq, Prod.mk.injEq] at h; obtain ⟨rfl, rfl⟩ := h; exact ⟨_, by rfl, ptB_pure⟩
  · simp at h)

def ptAdd (p : List Int) (q : List Int) : List Int :=
  let z0 : List Int := (feMul (sub p (0 : Nat) (5 : Nat)) (sub q (0 : Nat) (5 : Nat)))
  let z1 : List Int := (feMul (sub p (5 : Nat) (5 : Nat)) (sub q (5 : Nat) (5 : Nat)))
  let z2 : List Int := (fePlus z1 z0)
  let z3 : List Int := (feMin (feMin (feMul (fePlus (sub p (0 : Nat) (5 : Nat)) (sub p (5 : Nat) (5 : Nat))) (fePlus (sub q (0 : Nat) (5 : Nat)) (sub q (5 : Nat) (5 : Nat)))) z0) z1)
  let z4 : List Int := (feMul (feMul (feD) (sub p (15 : Nat) (5 : Nat))) (sub q (15 : Nat) (5 : Nat)))
  let z5 : List Int := (feMul (sub p (10 : Nat) (5 : Nat)) (sub q (10 : Nat) (5 : Nat)))
  let z6 : List Int := (fePlus z5 z4)
  let z7 : List Int := (feMin z5 z4)
  (splice (splice (splice (splice ([0, 0, 0, 0, 0, 0, 0, 0, 0, 0, 0, 0, 0, 0, 0, 0, 0, 0, 0, 0] : List Int) (0 : Nat) (5 : Nat) (feMul z3 z7)) (5 : Nat) (5 : Nat) (feMul z6 z2)) (10 : Nat) (5 : Nat) (feMul z7 z6)) (15 : Nat) (5 : Nat) (feMul z3 z2))

set_option maxHeartbeats 1000000 in
theorem ptAdd_body0 (p : List Int) (q : List Int) (hv0 : List.length p = (20 : Nat)) (hv1 : List.length q = (20 : Nat)) (w : World) : Body Try.prog (tabOf tabVI) Try.f59 ⟨w, [], 0, noEnv⟩ (toA [.g [.ints .u64 (20 : Nat) p], .g [.ints .u64 (20 : Nat) q]]) [] (fun ys _ => ys = [.g [.ints .u64 (20 : Nat) (ptAdd p q)]]) :=
  Body.of_fin (Γ := gam21) (Λ := noLam) (Ψ := noPsi) (fuel := 0) (m := 72) (c := (Try.f59.body.getD .skip)) mix tabOkVI gam21_ok rfl (rs := [.cell 4 94]) rfl rfl [] []
    (vc := []) (by kernel_rfl)
    (AllP_nil)

theorem ptAdd_body (p : List Int) (q : List Int) (w : World) : Body Try.prog (tabOf tabVI) Try.f59 ⟨w, [], 0, noEnv⟩ (toA [.g [.ints .u64 (20 : Nat) p], .g [.ints .u64 (20 : Nat) q]]) [] (fun ys _ => ys = [.g [.ints .u64 (20 : Nat) (ptAdd p q)]]) :=
  Body.lens (c := (Try.f59.body.getD .skip)) rfl fun h => ptAdd_body0 p q (h.vals 0 _ _ _ rfl) (h.vals 1 _ _ _ rfl) w

theorem ptAdd_pure (p : List Int) (q : List Int) : PureC Try.prog 59 [.g [.ints .u64 (20 : Nat) p], .g [.ints .u64 (20 : Nat) q]] [.g [.ints .u64 (20 : Nat) (ptAdd p q)]] :=
  PureC.of_body tabOkVI Try.func59 rfl rfl fun w => ptAdd_body p q w

def gam22 : Gam := gpure 59 (fun args => match args with | [.o (.g [.ints .u64 (20 : Nat) p]), .o (.g [.ints .u64 (20 : Nat) q])] => some (none, [.g [.ints .u64 (20 : Nat) (ptAdd p q)]]) | _ => none) gam21
theorem gam22_ok : GamOk Try.prog gam22 := gpure_ok gam21_ok Try.call59 (by
  intro args vc xs h hv
  split at h
  · simp only [Option.some.injEq, Prod.mk.injEq] at h; obtain ⟨rfl, rfl⟩ := h; exact ⟨_, by rfl, ptAdd_pure _ _⟩
  · simp at h)

def ptDbl (p : List Int) : List Int :=
  let z0 : List Int := (feMul (sub p (5 : Nat) (5 : Nat)) (sub p (5 : Nat) (5 : Nat)))
  let z1 : List Int := (feMul (sub p (0 : Nat) (5 : Nat)) (sub p (0 : Nat) (5 : Nat)))
  let z2 : List Int := (fePlus z1 z0)
  let z3 : List Int := (fePlus (sub p (0 : Nat) (5 : Nat)) (sub p (5 : Nat) (5 : Nat)))
  let z4 : List Int := (feMin z2 (feMul z3 z3))
  let z5 : List Int := (feMin z1 z0)
  let z6 : List Int := (feMul (sub p (10 : Nat) (5 : Nat)) (sub p (10 : Nat) (5 : Nat)))
  let z7 : List Int := (fePlus (fePlus z6 z6) z5)
  (splice (splice (splice (splice ([0, 0, 0, 0, 0, 0, 0, 0, 0, 0, 0, 0, 0, 0, 0, 0, 0, 0, 0, 0] : List Int) (0 : Nat) (5 : Nat) (feMul z4 z7)) (5 : Nat) (5 : Nat) (feMul z5 z2)) (10 : Nat) (5 : Nat) (feMul z7 z5)) (15 : Nat) (5 : Nat) (feMul z4 z2))

set_option maxHeartbeats 1000000 in
theorem ptDbl_body0 (p : List Int) (hv0 : List.length p = (20 : Nat)) (w : World) : Body Try.prog (tabOf tabVI) Try.f85 ⟨w, [], 0, noEnv⟩ (toA [.g [.ints .u64 (20 : Nat) p]]) [] (fun ys _ => ys = [.g [.ints .u64 (20 : Nat) (ptDbl p)]]) :=
  Body.of_fin (Γ := gam22) (Λ := noLam) (Ψ := noPsi) (fuel := 0) (m := 52) (c := (Try.f85.body.getD .skip)) mix tabOkVI gam22_ok rfl (rs := [.cell 2 94]) rfl rfl [] []
    (vc := []) (by kernel_rfl)
    (AllP_nil)

theorem ptDbl_body (p : List Int) (w : World) : Body Try.prog (tabOf tabVI) Try.f85 ⟨w, [], 0, noEnv⟩ (toA [.g [.ints .u64 (20 : Nat) p]]) [] (fun ys _ => ys = [.g [.ints .u64 (20 : Nat) (ptDbl p)]]) :=
  Body.lens (c := (Try.f85.body.getD .skip)) rfl fun h => ptDbl_body0 p (h.vals 0 _ _ _ rfl) w

theorem ptDbl_pure (p : List Int) : PureC Try.prog 85 [.g [.ints .u64 (20 : Nat) p]] [.g [.ints .u64 (20 : Nat) (ptDbl p)]] :=
  PureC.of_body tabOkVI Try.func85 rfl rfl fun w => ptDbl_body p w

def gam23 : Gam := gpure 85 (fun args => match args with | [.o (.g [.ints .u64 (20 : Nat) p])] => some (none, [.g [.ints .u64 (20 : Nat) (ptDbl p)]]) | _ => none) gam22
theorem gam23_ok : GamOk Try.prog gam23 := gpure_ok gam22_ok Try.call85 (by
  intro args vc xs h hv
  split at h
  · simp only [Option.some.injEq, Prod.mk.injEq] at h; obtain ⟨rfl, rfl⟩ := h; exact ⟨_, by rfl, ptDbl_pure _⟩
  · simp at h)

def ptXY (p : List Int) : List Int :=
  (feMul (sub p (0 : Nat) (5 : Nat)) (feInv (sub p (10 : Nat) (5 : Nat))))

def ptXY_1 (p : List Int) : List Int :=
  (feMul (sub p (5 : Nat) (5 : Nat)) (feInv (sub p (10 : Nat) (5 : Nat))))

set_option maxHeartbeats 1000000 in
theorem ptXY_body0 (p : List Int) (hv0 : List.length p = (20 : Nat)) (w : World) : Body Try.prog (tabOf tabVI) Try.f95 ⟨w, [], 0, noEnv⟩ (toA [.g [.ints .u64 (20 : Nat) p]]) [] (fun ys _ => ys = [.g [.ints .u64 (5 : Nat) (ptXY p)], .g [.ints .u64 (5 : Nat) (ptXY_1 p)]]) :=
  Body.of_fin (Γ := gam23) (Λ := noLam) (Ψ := noPsi) (fuel := 0) (m := 16) (c := (Try.f95.body.getD .skip)) mix tabOkVI gam23_ok rfl (rs := [.cell 2 92, .cell 3 92]) rfl rfl [] []
    (vc := []) (by kernel_rfl)
    (AllP_nil)

theorem ptXY_body (p : List Int) (w : World) : Body Try.prog (tabOf tabVI) Try.f95 ⟨w, [], 0, noEnv⟩ (toA [.g [.ints .u64 (20 : Nat) p]]) [] (fun ys _ => ys = [.g [.ints .u64 (5 : Nat) (ptXY p)], .g [.ints .u64 (5 : Nat) (ptXY_1 p)]]) :=
  Body.lens (c := (Try.f95.body.getD .skip)) rfl fun h => ptXY_body0 p (h.vals 0 _ _ _ rfl) w

theorem ptXY_pure (p : List Int) : PureC Try.prog 95 [.g [.ints .u64 (20 : Nat) p]] [.g [.ints .u64 (5 : Nat) (ptXY p)], .g [.ints .u64 (5 : Nat) (ptXY_1 p)]] :=
  PureC.of_body tabOkVI Try.func95 rfl rfl fun w => ptXY_body p w

def gam25 : Gam := gpure 95 (fun args => match args with | [.o (.g [.ints .u64 (20 : Nat) p])] => some (none, [.g [.ints .u64 (5 : Nat) (ptXY p)], .g [.ints .u64 (5 : Nat) (ptXY_1 p)]]) | _ => none) gam23
theorem gam25_ok : GamOk Try.prog gam25 := gpure_ok gam23_ok Try.call95 (by
  intro args vc xs h hv
  split at h
  · simp only [Option.some.injEq, Prod.mk.injEq] at h; obtain ⟨rfl, rfl⟩ := h; exact ⟨_, by rfl, ptXY_pure _⟩
  · simp at h)

def ptForm_w0 (p : List Int) : List Int :=
  (List.set (feBytes (ptXY_1 p)) (31 : Nat) (bits2 .or .u8 (List.getD (sub (feBytes (ptXY_1 p)) (31 : Nat) (1 : Nat)) (0 : Nat) 0) (128 : Int)))

set_option maxHeartbeats 1000000 in
theorem ptForm_w0_body0 (p : List Int) (hv0 : List.length p = (20 : Nat)) (hb0 : (feOdd (ptXY p)) = true) (w : World) : Body Try.prog (tabOf tabVI) Try.f54 ⟨w, [], 0, noEnv⟩ (toA [.g [.ints .u64 (20 : Nat) p]]) [] (fun ys _ => ys = [.g [.ints .u8 (32 : Nat) (ptForm_w0 p)]]) :=
  Body.of_fin (Γ := gam25) (Λ := noLam) (Ψ := noPsi) (fuel := 0) (m := 20) (c := (Try.f54.body.getD .skip)) mix tabOkVI gam25_ok rfl (rs := [.cell 2 23]) rfl rfl [true] []
    (vc := [((feOdd (ptXY p)) = true)]) (by kernel_rfl)
    (AllP_cons hb0 (AllP_nil))

def ptForm_w1 (p : List Int) : List Int :=
  (feBytes (ptXY_1 p))

set_option maxHeartbeats 1000000 in
theorem ptForm_w1_body0 (p : List Int) (hv0 : List.length p = (20 : Nat)) (hb0 : (feOdd (ptXY p)) = false) (w : World) : Body Try.prog (tabOf tabVI) Try.f54 ⟨w, [], 0, noEnv⟩ (toA [.g [.ints .u64 (20 : Nat) p]]) [] (fun ys _ => ys = [.g [.ints .u8 (32 : Nat) (ptForm_w1 p)]]) :=
  Body.of_fin (Γ := gam25) (Λ := noLam) (Ψ := noPsi) (fuel := 0) (m := 20) (c := (Try.f54.body.getD .skip)) mix tabOkVI gam25_ok rfl (rs := [.cell 2 23]) rfl rfl [false] []
    (vc := [((feOdd (ptXY p)) = false)]) (by kernel_rfl)
    (AllP_cons hb0 (AllP_nil))

def ptForm (p : List Int) : List Int :=
  (cond (feOdd (ptXY p)) (ptForm_w0 p) (ptForm_w1 p))

set_option maxHeartbeats 1000000 in
theorem ptForm_body (p : List Int) (w : World) : Body Try.prog (tabOf tabVI) Try.f54 ⟨w, [], 0, noEnv⟩ (toA [.g [.ints .u64 (20 : Nat) p]]) [] (fun ys _ => ys = [.g [.ints .u8 (32 : Nat) (ptForm p)]]) :=
  Body.lens (c := (Try.f54.body.getD .skip)) rfl fun h => by
    cases hb0 : (feOdd (ptXY p))
    · exact (ptForm_w1_body0 p (h.vals 0 _ _ _ rfl) hb0 w).mono fun _ _ hx => hx.trans (by rw [(show (ptForm p) = (ptForm_w1 p) from (cond_f hb0))])
    · exact (ptForm_w0_body0 p (h.vals 0 _ _ _ rfl) hb0 w).mono fun _ _ hx => hx.trans (by rw [(show (ptForm p) = (ptForm_w0 p) from (cond_t hb0))])

theorem ptForm_pure (p : List Int) : PureC Try.prog 54 [.g [.ints .u64 (20 : Nat) p]] [.g [.ints .u8 (32 : Nat) (ptForm p)]] :=
  PureC.of_body tabOkVI Try.func54 rfl rfl fun w => ptForm_body p w

def gam26 : Gam := gpure 54 (fun args => match args with | [.o (.g [.ints .u64 (20 : Nat) p])] => some (none, [.g [.ints .u8 (32 : Nat) (ptForm p)]]) | _ => none) gam25
theorem gam26_ok : GamOk Try.prog gam26 := gpure_ok gam25_ok Try.call54 (by
  intro args vc xs h hv
  split at h
  · simp only [Option.some.injEq, Prod.mk.injEq] at h; obtain ⟨rfl, rfl⟩ := h; exact ⟨_, by rfl, ptForm_pure _⟩
  · simp at h)

set_option maxHeartbeats 1000000 in
theorem ptOpen_w0_body0 (s : List Int) (hv0 : List.length s = (32 : Nat)) (hb0 : (decide ((feBytes (feLoad (List.set s (31 : Nat) (bits2 .and .u8 (List.getD (sub s (31 : Nat) (1 : Nat)) (0 : Nat) 0) (127 : Int))))) = (List.set s (31 : Nat) (bits2 .and .u8 (List.getD (sub s (31 : Nat) (1 : Nat)) (0 : Nat) 0) (127 : Int))))) = true) (hb1 : (feRoot_1 (feMin (feMul (feLoad (List.set s (31 : Nat) (bits2 .and .u8 (List.getD (sub s (31 : Nat) (1 : Nat)) (0 : Nat) 0) (127 : Int)))) (feLoad (List.set s (31 : Nat) (bits2 .and .u8 (List.getD (sub s (31 : Nat) (1 : Nat)) (0 : Nat) 0) (127 : Int))))) (feSmall (1 : Int))) (fePlus (feMul (feD) (feMul (feLoad (List.set s (31 : Nat) (bits2 .and .u8 (List.getD (sub s (31 : Nat) (1 : Nat)) (0 : Nat) 0) (127 : Int)))) (feLoad (List.set s (31 : Nat) (bits2 .and .u8 (List.getD (sub s (31 : Nat) (1 : Nat)) (0 : Nat) 0) (127 : Int)))))) (feSmall (1 : Int)))) = true) (hb2 : ((shr .u8 (List.getD (sub s (31 : Nat) (1 : Nat)) (0 : Nat) 0) (7 : Int)) == (1 : Int)) = true) (hb3 : (decide ((feBytes (feRoot (feMin (feMul (feLoad (List.set s (31 : Nat) (bits2 .and .u8 (List.getD (sub s (31 : Nat) (1 : Nat)) (0 : Nat) 0) (127 : Int)))) (feLoad (List.set s (31 : Nat) (bits2 .and .u8 (List.getD (sub s (31 : Nat) (1 : Nat)) (0 : Nat) 0) (127 : Int))))) (feSmall (1 : Int))) (fePlus (feMul (feD) (feMul (feLoad (List.set s (31 : Nat) (bits2 .and .u8 (List.getD (sub s (31 : Nat) (1 : Nat)) (0 : Nat) 0) (127 : Int)))) (feLoad (List.set s (31 : Nat) (bits2 .and .u8 (List.getD (sub s (31 : Nat) (1 : Nat)) (0 : Nat) 0) (127 : Int)))))) (feSmall (1 : Int))))) = ([0, 0, 0, 0, 0, 0, 0, 0, 0, 0, 0, 0, 0, 0, 0, 0, 0, 0, 0, 0, 0, 0, 0, 0, 0, 0, 0, 0, 0, 0, 0, 0] : List Int))) = true) (w : World) : Body Try.prog (tabOf tabVI) Try.f44 ⟨w, [], 0, noEnv⟩ (toA [.g [.ints .u8 (32 : Nat) s]]) [] (fun ys _ => ys = [.g [.ints .u64 (20 : Nat) ([0, 0, 0, 0, 0, 0, 0, 0, 0, 0, 0, 0, 0, 0, 0, 0, 0, 0, 0, 0] : List Int)], .a (.b false)]) :=
  Body.of_fin (Γ := gam26) (Λ := noLam) (Ψ := noPsi) (fuel := 0) (m := 64) (c := (Try.f44.body.getD .skip)) mix tabOkVI gam26_ok rfl (rs := [.cell 2 94, .tmp 3]) rfl rfl [false, true, true, true, true, true, true, true, true, false, true] []
    (vc := [((decide ((feBytes (feRoot (feMin (feMul (feLoad (List.set s (31 : Nat) (bits2 .and .u8 (List.getD (sub s (31 : Nat) (1 : Nat)) (0 : Nat) 0) (127 : Int)))) (feLoad (List.set s (31 : Nat) (bits2 .and .u8 (List.getD (sub s (31 : Nat) (1 : Nat)) (0 : Nat) 0) (127 : Int))))) (feSmall (1 : Int))) (fePlus (feMul (feD) (feMul (feLoad (List.set s (31 : Nat) (bits2 .and .u8 (List.getD (sub s (31 : Nat) (1 : Nat)) (0 : Nat) 0) (127 : Int)))) (feLoad (List.set s (31 : Nat) (bits2 .and .u8 (List.getD (sub s (31 : Nat) (1 : Nat)) (0 : Nat) 0) (127 : Int)))))) (feSmall (1 : Int))))) = ([0, 0, 0, 0, 0, 0, 0, 0, 0, 0, 0, 0, 0, 0, 0, 0, 0, 0, 0, 0, 0, 0, 0, 0, 0, 0, 0, 0, 0, 0, 0, 0] : List Int))) = true), ((!(feRoot_1 (feMin (feMul (feLoad (List.set s (31 : Nat) (bits2 .and .u8 (List.getD (sub s (31 : Nat) (1 : Nat)) (0 : Nat) 0) (127 : Int)))) (feLoad (List.set s (31 : Nat) (bits2 .and .u8 (List.getD (sub s (31 : Nat) (1 : Nat)) (0 : Nat) 0) (127 : Int))))) (feSmall (1 : Int))) (fePlus (feMul (feD) (feMul (feLoad (List.set s (31 : Nat) (bits2 .and .u8 (List.getD (sub s (31 : Nat) (1 : Nat)) (0 : Nat) 0) (127 : Int)))) (feLoad (List.set s (31 : Nat) (bits2 .and .u8 (List.getD (sub s (31 : Nat) (1 : Nat)) (0 : Nat) 0) (127 : Int)))))) (feSmall (1 : Int))))) = false), (((shr .u8 (List.getD (sub s (31 : Nat) (1 : Nat)) (0 : Nat) 0) (7 : Int)) == (1 : Int)) = true), ((!(feRoot_1 (feMin (feMul (feLoad (List.set s (31 : Nat) (bits2 .and .u8 (List.getD (sub s (31 : Nat) (1 : Nat)) (0 : Nat) 0) (127 : Int)))) (feLoad (List.set s (31 : Nat) (bits2 .and .u8 (List.getD (sub s (31 : Nat) (1 : Nat)) (0 : Nat) 0) (127 : Int))))) (feSmall (1 : Int))) (fePlus (feMul (feD) (feMul (feLoad (List.set s (31 : Nat) (bits2 .and .u8 (List.getD (sub s (31 : Nat) (1 : Nat)) (0 : Nat) 0) (127 : Int)))) (feLoad (List.set s (31 : Nat) (bits2 .and .u8 (List.getD (sub s (31 : Nat) (1 : Nat)) (0 : Nat) 0) (127 : Int)))))) (feSmall (1 : Int))))) = false), (((shr .u8 (List.getD (sub s (31 : Nat) (1 : Nat)) (0 : Nat) 0) (7 : Int)) == (1 : Int)) = true), (((shr .u8 (List.getD (sub s (31 : Nat) (1 : Nat)) (0 : Nat) 0) (7 : Int)) == (1 : Int)) = true), (((shr .u8 (List.getD (sub s (31 : Nat) (1 : Nat)) (0 : Nat) 0) (7 : Int)) == (1 : Int)) = true), (((shr .u8 (List.getD (sub s (31 : Nat) (1 : Nat)) (0 : Nat) 0) (7 : Int)) == (1 : Int)) = true), ((!(feRoot_1 (feMin (feMul (feLoad (List.set s (31 : Nat) (bits2 .and .u8 (List.getD (sub s (31 : Nat) (1 : Nat)) (0 : Nat) 0) (127 : Int)))) (feLoad (List.set s (31 : Nat) (bits2 .and .u8 (List.getD (sub s (31 : Nat) (1 : Nat)) (0 : Nat) 0) (127 : Int))))) (feSmall (1 : Int))) (fePlus (feMul (feD) (feMul (feLoad (List.set s (31 : Nat) (bits2 .and .u8 (List.getD (sub s (31 : Nat) (1 : Nat)) (0 : Nat) 0) (127 : Int)))) (feLoad (List.set s (31 : Nat) (bits2 .and .u8 (List.getD (sub s (31 : Nat) (1 : Nat)) (0 : Nat) 0) (127 : Int)))))) (feSmall (1 : Int))))) = false), ((!(feRoot_1 (feMin (feMul (feLoad (List.set s (31 : Nat) (bits2 .and .u8 (List.getD (sub s (31 : Nat) (1 : Nat)) (0 : Nat) 0) (127 : Int)))) (feLoad (List.set s (31 : Nat) (bits2 .and .u8 (List.getD (sub s (31 : Nat) (1 : Nat)) (0 : Nat) 0) (127 : Int))))) (feSmall (1 : Int))) (fePlus (feMul (feD) (feMul (feLoad (List.set s (31 : Nat) (bits2 .and .u8 (List.getD (sub s (31 : Nat) (1 : Nat)) (0 : Nat) 0) (127 : Int)))) (feLoad (List.set s (31 : Nat) (bits2 .and .u8 (List.getD (sub s (31 : Nat) (1 : Nat)) (0 : Nat) 0) (127 : Int)))))) (feSmall (1 : Int))))) = false), ((!(decide ((feBytes (feLoad (List.set s (31 : Nat) (bits2 .and .u8 (List.getD (sub s (31 : Nat) (1 : Nat)) (0 : Nat) 0) (127 : Int))))) = (List.set s (31 : Nat) (bits2 .and .u8 (List.getD (sub s (31 : Nat) (1 : Nat)) (0 : Nat) 0) (127 : Int)))))) = false), ((0 : Int) ≤ (7 : Int))]) (by kernel_rfl)
    (AllP_cons hb3 (AllP_cons (by rw [hb1]; rfl) (AllP_cons hb2 (AllP_cons (by rw [hb1]; rfl) (AllP_cons hb2 (AllP_cons hb2 (AllP_cons hb2 (AllP_cons hb2 (AllP_cons (by rw [hb1]; rfl) (AllP_cons (by rw [hb1]; rfl) (AllP_cons (by rw [hb0]; rfl) (AllP_cons (by decide) (AllP_nil)))))))))))))

def ptOpen_w1 (s : List Int) : List Int :=
  let z0 : List Int := (feLoad (List.set s (31 : Nat) (bits2 .and .u8 (List.getD (sub s (31 : Nat) (1 : Nat)) (0 : Nat) 0) (127 : Int))))
  let z1 : List Int := (feMul z0 z0)
  let z2 : List Int := (feRoot (feMin z1 (feSmall (1 : Int))) (fePlus (feMul (feD) z1) (feSmall (1 : Int))))
  (splice (splice (splice (splice ([0, 0, 0, 0, 0, 0, 0, 0, 0, 0, 0, 0, 0, 0, 0, 0, 0, 0, 0, 0] : List Int) (0 : Nat) (5 : Nat) z2) (5 : Nat) (5 : Nat) z0) (10 : Nat) (5 : Nat) (feSmall (1 : Int))) (15 : Nat) (5 : Nat) (feMul z2 z0))

set_option maxHeartbeats 1000000 in
theorem ptOpen_w1_body0 (s : List Int) (hv0 : List.length s = (32 : Nat)) (hb0 : (decide ((feBytes (feLoad (List.set s (31 : Nat) (bits2 .and .u8 (List.getD (sub s (31 : Nat) (1 : Nat)) (0 : Nat) 0) (127 : Int))))) = (List.set s (31 : Nat) (bits2 .and .u8 (List.getD (sub s (31 : Nat) (1 : Nat)) (0 : Nat) 0) (127 : Int))))) = true) (hb1 : (feRoot_1 (feMin (feMul (feLoad (List.set s (31 : Nat) (bits2 .and .u8 (List.getD (sub s (31 : Nat) (1 : Nat)) (0 : Nat) 0) (127 : Int)))) (feLoad (List.set s (31 : Nat) (bits2 .and .u8 (List.getD (sub s (31 : Nat) (1 : Nat)) (0 : Nat) 0) (127 : Int))))) (feSmall (1 : Int))) (fePlus (feMul (feD) (feMul (feLoad (List.set s (31 : Nat) (bits2 .and .u8 (List.getD (sub s (31 : Nat) (1 : Nat)) (0 : Nat) 0) (127 : Int)))) (feLoad (List.set s (31 : Nat) (bits2 .and .u8 (List.getD (sub s (31 : Nat) (1 : Nat)) (0 : Nat) 0) (127 : Int)))))) (feSmall (1 : Int)))) = true) (hb2 : ((shr .u8 (List.getD (sub s (31 : Nat) (1 : Nat)) (0 : Nat) 0) (7 : Int)) == (1 : Int)) = true) (hb3 : (decide ((feBytes (feRoot (feMin (feMul (feLoad (List.set s (31 : Nat) (bits2 .and .u8 (List.getD (sub s (31 : Nat) (1 : Nat)) (0 : Nat) 0) (127 : Int)))) (feLoad (List.set s (31 : Nat) (bits2 .and .u8 (List.getD (sub s (31 : Nat) (1 : Nat)) (0 : Nat) 0) (127 : Int))))) (feSmall (1 : Int))) (fePlus (feMul (feD) (feMul (feLoad (List.set s (31 : Nat) (bits2 .and .u8 (List.getD (sub s (31 : Nat) (1 : Nat)) (0 : Nat) 0) (127 : Int)))) (feLoad (List.set s (31 : Nat) (bits2 .and .u8 (List.getD (sub s (31 : Nat) (1 : Nat)) (0 : Nat) 0) (127 : Int)))))) (feSmall (1 : Int))))) = ([0, 0, 0, 0, 0, 0, 0, 0, 0, 0, 0, 0, 0, 0, 0, 0, 0, 0, 0, 0, 0, 0, 0, 0, 0, 0, 0, 0, 0, 0, 0, 0] : List Int))) = false) (hb4 : ((feOdd (feRoot (feMin (feMul (feLoad (List.set s (31 : Nat) (bits2 .and .u8 (List.getD (sub s (31 : Nat) (1 : Nat)) (0 : Nat) 0) (127 : Int)))) (feLoad (List.set s (31 : Nat) (bits2 .and .u8 (List.getD (sub s (31 : Nat) (1 : Nat)) (0 : Nat) 0) (127 : Int))))) (feSmall (1 : Int))) (fePlus (feMul (feD) (feMul (feLoad (List.set s (31 : Nat) (bits2 .and .u8 (List.getD (sub s (31 : Nat) (1 : Nat)) (0 : Nat) 0) (127 : Int)))) (feLoad (List.set s (31 : Nat) (bits2 .and .u8 (List.getD (sub s (31 : Nat) (1 : Nat)) (0 : Nat) 0) (127 : Int)))))) (feSmall (1 : Int))))) == ((shr .u8 (List.getD (sub s (31 : Nat) (1 : Nat)) (0 : Nat) 0) (7 : Int)) == (1 : Int))) = true) (w : World) : Body Try.prog (tabOf tabVI) Try.f44 ⟨w, [], 0, noEnv⟩ (toA [.g [.ints .u8 (32 : Nat) s]]) [] (fun ys _ => ys = [.g [.ints .u64 (20 : Nat) (ptOpen_w1 s)], .a (.b true)]) :=
  Body.of_fin (Γ := gam26) (Λ := noLam) (Ψ := noPsi) (fuel := 0) (m := 64) (c := (Try.f44.body.getD .skip)) mix tabOkVI gam26_ok rfl (rs := [.cell 2 94, .tmp 3]) rfl rfl [false, true, true, true, true, true, true, true, true, false, false, false] []
    (vc := [((!((feOdd (feRoot (feMin (feMul (feLoad (List.set s (31 : Nat) (bits2 .and .u8 (List.getD (sub s (31 : Nat) (1 : Nat)) (0 : Nat) 0) (127 : Int)))) (feLoad (List.set s (31 : Nat) (bits2 .and .u8 (List.getD (sub s (31 : Nat) (1 : Nat)) (0 : Nat) 0) (127 : Int))))) (feSmall (1 : Int))) (fePlus (feMul (feD) (feMul (feLoad (List.set s (31 : Nat) (bits2 .and .u8 (List.getD (sub s (31 : Nat) (1 : Nat)) (0 : Nat) 0) (127 : Int)))) (feLoad (List.set s (31 : Nat) (bits2 .and .u8 (List.getD (sub s (31 : Nat) (1 : Nat)) (0 : Nat) 0) (127 : Int)))))) (feSmall (1 : Int))))) == ((shr .u8 (List.getD (sub s (31 : Nat) (1 : Nat)) (0 : Nat) 0) (7 : Int)) == (1 : Int)))) = false), ((decide ((feBytes (feRoot (feMin (feMul (feLoad (List.set s (31 : Nat) (bits2 .and .u8 (List.getD (sub s (31 : Nat) (1 : Nat)) (0 : Nat) 0) (127 : Int)))) (feLoad (List.set s (31 : Nat) (bits2 .and .u8 (List.getD (sub s (31 : Nat) (1 : Nat)) (0 : Nat) 0) (127 : Int))))) (feSmall (1 : Int))) (fePlus (feMul (feD) (feMul (feLoad (List.set s (31 : Nat) (bits2 .and .u8 (List.getD (sub s (31 : Nat) (1 : Nat)) (0 : Nat) 0) (127 : Int)))) (feLoad (List.set s (31 : Nat) (bits2 .and .u8 (List.getD (sub s (31 : Nat) (1 : Nat)) (0 : Nat) 0) (127 : Int)))))) (feSmall (1 : Int))))) = ([0, 0, 0, 0, 0, 0, 0, 0, 0, 0, 0, 0, 0, 0, 0, 0, 0, 0, 0, 0, 0, 0, 0, 0, 0, 0, 0, 0, 0, 0, 0, 0] : List Int))) = false), ((!(feRoot_1 (feMin (feMul (feLoad (List.set s (31 : Nat) (bits2 .and .u8 (List.getD (sub s (31 : Nat) (1 : Nat)) (0 : Nat) 0) (127 : Int)))) (feLoad (List.set s (31 : Nat) (bits2 .and .u8 (List.getD (sub s (31 : Nat) (1 : Nat)) (0 : Nat) 0) (127 : Int))))) (feSmall (1 : Int))) (fePlus (feMul (feD) (feMul (feLoad (List.set s (31 : Nat) (bits2 .and .u8 (List.getD (sub s (31 : Nat) (1 : Nat)) (0 : Nat) 0) (127 : Int)))) (feLoad (List.set s (31 : Nat) (bits2 .and .u8 (List.getD (sub s (31 : Nat) (1 : Nat)) (0 : Nat) 0) (127 : Int)))))) (feSmall (1 : Int))))) = false), (((shr .u8 (List.getD (sub s (31 : Nat) (1 : Nat)) (0 : Nat) 0) (7 : Int)) == (1 : Int)) = true), ((!(feRoot_1 (feMin (feMul (feLoad (List.set s (31 : Nat) (bits2 .and .u8 (List.getD (sub s (31 : Nat) (1 : Nat)) (0 : Nat) 0) (127 : Int)))) (feLoad (List.set s (31 : Nat) (bits2 .and .u8 (List.getD (sub s (31 : Nat) (1 : Nat)) (0 : Nat) 0) (127 : Int))))) (feSmall (1 : Int))) (fePlus (feMul (feD) (feMul (feLoad (List.set s (31 : Nat) (bits2 .and .u8 (List.getD (sub s (31 : Nat) (1 : Nat)) (0 : Nat) 0) (127 : Int)))) (feLoad (List.set s (31 : Nat) (bits2 .and .u8 (List.getD (sub s (31 : Nat) (1 : Nat)) (0 : Nat) 0) (127 : Int)))))) (feSmall (1 : Int))))) = false), (((shr .u8 (List.getD (sub s (31 : Nat) (1 : Nat)) (0 : Nat) 0) (7 : Int)) == (1 : Int)) = true), (((shr .u8 (List.getD (sub s (31 : Nat) (1 : Nat)) (0 : Nat) 0) (7 : Int)) == (1 : Int)) = true), (((shr .u8 (List.getD (sub s (31 : Nat) (1 : Nat)) (0 : Nat) 0) (7 : Int)) == (1 : Int)) = true), (((shr .u8 (List.getD (sub s (31 : Nat) (1 : Nat)) (0 : Nat) 0) (7 : Int)) == (1 : Int)) = true), ((!(feRoot_1 (feMin (feMul (feLoad (List.set s (31 : Nat) (bits2 .and .u8 (List.getD (sub s (31 : Nat) (1 : Nat)) (0 : Nat) 0) (127 : Int)))) (feLoad (List.set s (31 : Nat) (bits2 .and .u8 (List.getD (sub s (31 : Nat) (1 : Nat)) (0 : Nat) 0) (127 : Int))))) (feSmall (1 : Int))) (fePlus (feMul (feD) (feMul (feLoad (List.set s (31 : Nat) (bits2 .and .u8 (List.getD (sub s (31 : Nat) (1 : Nat)) (0 : Nat) 0) (127 : Int)))) (feLoad (List.set s (31 : Nat) (bits2 .and .u8 (List.getD (sub s (31 : Nat) (1 : Nat)) (0 : Nat) 0) (127 : Int)))))) (feSmall (1 : Int))))) = false), ((!(feRoot_1 (feMin (feMul (feLoad (List.set s (31 : Nat) (bits2 .and .u8 (List.getD (sub s (31 : Nat) (1 : Nat)) (0 : Nat) 0) (127 : Int)))) (feLoad (List.set s (31 : Nat) (bits2 .and .u8 (List.getD (sub s (31 : Nat) (1 : Nat)) (0 : Nat) 0) (127 : Int))))) (feSmall (1 : Int))) (fePlus (feMul (feD) (feMul (feLoad (List.set s (31 : Nat) (bits2 .and .u8 (List.getD (sub s (31 : Nat) (1 : Nat)) (0 : Nat) 0) (127 : Int)))) (feLoad (List.set s (31 : Nat) (bits2 .and .u8 (List.getD (sub s (31 : Nat) (1 : Nat)) (0 : Nat) 0) (127 : Int)))))) (feSmall (1 : Int))))) = false), ((!(decide ((feBytes (feLoad (List.set s (31 : Nat) (bits2 .and .u8 (List.getD (sub s (31 : Nat) (1 : Nat)) (0 : Nat) 0) (127 : Int))))) = (List.set s (31 : Nat) (bits2 .and .u8 (List.getD (sub s (31 : Nat) (1 : Nat)) (0 : Nat) 0) (127 : Int)))))) = false), ((0 : Int) ≤ (7 : Int))]) (by kernel_rfl)
    (AllP_cons (by rw [hb4]; rfl) (AllP_cons hb3 (AllP_cons (by rw [hb1]; rfl) (AllP_cons hb2 (AllP_cons (by rw [hb1]; rfl) (AllP_cons hb2 (AllP_cons hb2 (AllP_cons hb2 (AllP_cons hb2 (AllP_cons (by rw [hb1]; rfl) (AllP_cons (by rw [hb1]; rfl) (AllP_cons (by rw [hb0]; rfl) (AllP_cons (by decide) (AllP_nil))))))))))))))

def ptOpen_w2 (s : List Int) : List Int :=
  let z0 : List Int := (feLoad (List.set s (31 : Nat) (bits2 .and .u8 (List.getD (sub s (31 : Nat) (1 : Nat)) (0 : Nat) 0) (127 : Int))))
  let z1 : List Int := (feMul z0 z0)
  let z2 : List Int := (feMin ([0, 0, 0, 0, 0] : List Int) (feRoot (feMin z1 (feSmall (1 : Int))) (fePlus (feMul (feD) z1) (feSmall (1 : Int)))))
  (splice (splice (splice (splice ([0, 0, 0, 0, 0, 0, 0, 0, 0, 0, 0, 0, 0, 0, 0, 0, 0, 0, 0, 0] : List Int) (0 : Nat) (5 : Nat) z2) (5 : Nat) (5 : Nat) z0) (10 : Nat) (5 : Nat) (feSmall (1 : Int))) (15 : Nat) (5 : Nat) (feMul z2 z0))

set_option maxHeartbeats 1000000 in
theorem ptOpen_w2_body0 (s : List Int) (hv0 : List.length s = (32 : Nat)) (hb0 : (decide ((feBytes (feLoad (List.set s (31 : Nat) (bits2 .and .u8 (List.getD (sub s (31 : Nat) (1 : Nat)) (0 : Nat) 0) (127 : Int))))) = (List.set s (31 : Nat) (bits2 .and .u8 (List.getD (sub s (31 : Nat) (1 : Nat)) (0 : Nat) 0) (127 : Int))))) = true) (hb1 : (feRoot_1 (feMin (feMul (feLoad (List.set s (31 : Nat) (bits2 .and .u8 (List.getD (sub s (31 : Nat) (1 : Nat)) (0 : Nat) 0) (127 : Int)))) (feLoad (List.set s (31 : Nat) (bits2 .and .u8 (List.getD (sub s (31 : Nat) (1 : Nat)) (0 : Nat) 0) (127 : Int))))) (feSmall (1 : Int))) (fePlus (feMul (feD) (feMul (feLoad (List.set s (31 : Nat) (bits2 .and .u8 (List.getD (sub s (31 : Nat) (1 : Nat)) (0 : Nat) 0) (127 : Int)))) (feLoad (List.set s (31 : Nat) (bits2 .and .u8 (List.getD (sub s (31 : Nat) (1 : Nat)) (0 : Nat) 0) (127 : Int)))))) (feSmall (1 : Int)))) = true) (hb2 : ((shr .u8 (List.getD (sub s (31 : Nat) (1 : Nat)) (0 : Nat) 0) (7 : Int)) == (1 : Int)) = true) (hb3 : (decide ((feBytes (feRoot (feMin (feMul (feLoad (List.set s (31 : Nat) (bits2 .and .u8 (List.getD (sub s (31 : Nat) (1 : Nat)) (0 : Nat) 0) (127 : Int)))) (feLoad (List.set s (31 : Nat) (bits2 .and .u8 (List.getD (sub s (31 : Nat) (1 : Nat)) (0 : Nat) 0) (127 : Int))))) (feSmall (1 : Int))) (fePlus (feMul (feD) (feMul (feLoad (List.set s (31 : Nat) (bits2 .and .u8 (List.getD (sub s (31 : Nat) (1 : Nat)) (0 : Nat) 0) (127 : Int)))) (feLoad (List.set s (31 : Nat) (bits2 .and .u8 (List.getD (sub s (31 : Nat) (1 : Nat)) (0 : Nat) 0) (127 : Int)))))) (feSmall (1 : Int))))) = ([0, 0, 0, 0, 0, 0, 0, 0, 0, 0, 0, 0, 0, 0, 0, 0, 0, 0, 0, 0, 0, 0, 0, 0, 0, 0, 0, 0, 0, 0, 0, 0] : List Int))) = false) (hb4 : ((feOdd (feRoot (feMin (feMul (feLoad (List.set s (31 : Nat) (bits2 .and .u8 (List.getD (sub s (31 : Nat) (1 : Nat)) (0 : Nat) 0) (127 : Int)))) (feLoad (List.set s (31 : Nat) (bits2 .and .u8 (List.getD (sub s (31 : Nat) (1 : Nat)) (0 : Nat) 0) (127 : Int))))) (feSmall (1 : Int))) (fePlus (feMul (feD) (feMul (feLoad (List.set s (31 : Nat) (bits2 .and .u8 (List.getD (sub s (31 : Nat) (1 : Nat)) (0 : Nat) 0) (127 : Int)))) (feLoad (List.set s (31 : Nat) (bits2 .and .u8 (List.getD (sub s (31 : Nat) (1 : Nat)) (0 : Nat) 0) (127 : Int)))))) (feSmall (1 : Int))))) == ((shr .u8 (List.getD (sub s (31 : Nat) (1 : Nat)) (0 : Nat) 0) (7 : Int)) == (1 : Int))) = false) (w : World) : Body Try.prog (tabOf tabVI) Try.f44 ⟨w, [], 0, noEnv⟩ (toA [.g [.ints .u8 (32 : Nat) s]]) [] (fun ys _ => ys = [.g [.ints .u64 (20 : Nat) (ptOpen_w2 s)], .a (.b true)]) :=
  Body.of_fin (Γ := gam26) (Λ := noLam) (Ψ := noPsi) (fuel := 0) (m := 64) (c := (Try.f44.body.getD .skip)) mix tabOkVI gam26_ok rfl (rs := [.cell 2 94, .tmp 3]) rfl rfl [false, true, true, true, true, true, true, true, true, false, false, true] []
    (vc := [((!((feOdd (feRoot (feMin (feMul (feLoad (List.set s (31 : Nat) (bits2 .and .u8 (List.getD (sub s (31 : Nat) (1 : Nat)) (0 : Nat) 0) (127 : Int)))) (feLoad (List.set s (31 : Nat) (bits2 .and .u8 (List.getD (sub s (31 : Nat) (1 : Nat)) (0 : Nat) 0) (127 : Int))))) (feSmall (1 : Int))) (fePlus (feMul (feD) (feMul (feLoad (List.set s (31 : Nat) (bits2 .and .u8 (List.getD (sub s (31 : Nat) (1 : Nat)) (0 : Nat) 0) (127 : Int)))) (feLoad (List.set s (31 : Nat) (bits2 .and .u8 (List.getD (sub s (31 : Nat) (1 : Nat)) (0 : Nat) 0) (127 : Int)))))) (feSmall (1 : Int))))) == ((shr .u8 (List.getD (sub s (31 : Nat) (1 : Nat)) (0 : Nat) 0) (7 : Int)) == (1 : Int)))) = true), ((decide ((feBytes (feRoot (feMin (feMul (feLoad (List.set s (31 : Nat) (bits2 .and .u8 (List.getD (sub s (31 : Nat) (1 : Nat)) (0 : Nat) 0) (127 : Int)))) (feLoad (List.set s (31 : Nat) (bits2 .and .u8 (List.getD (sub s (31 : Nat) (1 : Nat)) (0 : Nat) 0) (127 : Int))))) (feSmall (1 : Int))) (fePlus (feMul (feD) (feMul (feLoad (List.set s (31 : Nat) (bits2 .and .u8 (List.getD (sub s (31 : Nat) (1 : Nat)) (0 : Nat) 0) (127 : Int)))) (feLoad (List.set s (31 : Nat) (bits2 .and .u8 (List.getD (sub s (31 : Nat) (1 : Nat)) (0 : Nat) 0) (127 : Int)))))) (feSmall (1 : Int))))) = ([0, 0, 0, 0, 0, 0, 0, 0, 0, 0, 0, 0, 0, 0, 0, 0, 0, 0, 0, 0, 0, 0, 0, 0, 0, 0, 0, 0, 0, 0, 0, 0] : List Int))) = false), ((!(feRoot_1 (feMin (feMul (feLoad (List.set s (31 : Nat) (bits2 .and .u8 (List.getD (sub s (31 : Nat) (1 : Nat)) (0 : Nat) 0) (127 : Int)))) (feLoad (List.set s (31 : Nat) (bits2 .and .u8 (List.getD (sub s (31 : Nat) (1 : Nat)) (0 : Nat) 0) (127 : Int))))) (feSmall (1 : Int))) (fePlus (feMul (feD) (feMul (feLoad (List.set s (31 : Nat) (bits2 .and .u8 (List.getD (sub s (31 : Nat) (1 : Nat)) (0 : Nat) 0) (127 : Int)))) (feLoad (List.set s (31 : Nat) (bits2 .and .u8 (List.getD (sub s (31 : Nat) (1 : Nat)) (0 : Nat) 0) (127 : Int)))))) (feSmall (1 : Int))))) = false), (((shr .u8 (List.getD (sub s (31 : Nat) (1 : Nat)) (0 : Nat) 0) (7 : Int)) == (1 : Int)) = true), ((!(feRoot_1 (feMin (feMul (feLoad (List.set s (31 : Nat) (bits2 .and .u8 (List.getD (sub s (31 : Nat) (1 : Nat)) (0 : Nat) 0) (127 : Int)))) (feLoad (List.set s (31 : Nat) (bits2 .and .u8 (List.getD (sub s (31 : Nat) (1 : Nat)) (0 : Nat) 0) (127 : Int))))) (feSmall (1 : Int))) (fePlus (feMul (feD) (feMul (feLoad (List.set s (31 : Nat) (bits2 .and .u8 (List.getD (sub s (31 : Nat) (1 : Nat)) (0 : Nat) 0) (127 : Int)))) (feLoad (List.set s (31 : Nat) (bits2 .and .u8 (List.getD (sub s (31 : Nat) (1 : Nat)) (0 : Nat) 0) (127 : Int)))))) (feSmall (1 : Int))))) = false), (((shr .u8 (List.getD (sub s (31 : Nat) (1 : Nat)) (0 : Nat) 0) (7 : Int)) == (1 : Int)) = true), (((shr .u8 (List.getD (sub s (31 : Nat) (1 : Nat)) (0 : Nat) 0) (7 : Int)) == (1 : Int)) = true), (((shr .u8 (List.getD (sub s (31 : Nat) (1 : Nat)) (0 : Nat) 0) (7 : Int)) == (1 : Int)) = true), (((shr .u8 (List.getD (sub s (31 : Nat) (1 : Nat)) (0 : Nat) 0) (7 : Int)) == (1 : Int)) = true), ((!(feRoot_1 (feMin (feMul (feLoad (List.set s (31 : Nat) (bits2 .and .u8 (List.getD (sub s (31 : Nat) (1 : Nat)) (0 : Nat) 0) (127 : Int)))) (feLoad (List.set s (31 : Nat) (bits2 .and .u8 (List.getD (sub s (31 : Nat) (1 : Nat)) (0 : Nat) 0) (127 : Int))))) (feSmall (1 : Int))) (fePlus (feMul (feD) (feMul (feLoad (List.set s (31 : Nat) (bits2 .and .u8 (List.getD (sub s (31 : Nat) (1 : Nat)) (0 : Nat) 0) (127 : Int)))) (feLoad (List.set s (31 : Nat) (bits2 .and .u8 (List.getD (sub s (31 : Nat) (1 : Nat)) (0 : Nat) 0) (127 : Int)))))) (feSmall (1 : Int))))) = false), ((!(feRoot_1 (feMin (feMul (feLoad (List.set s (31 : Nat) (bits2 .and .u8 (List.getD (sub s (31 : Nat) (1 : Nat)) (0 : Nat) 0) (127 : Int)))) (feLoad (List.set s (31 : Nat) (bits2 .and .u8 (List.getD (sub s (31 : Nat) (1 : Nat)) (0 : Nat) 0) (127 : Int))))) (feSmall (1 : Int))) (fePlus (feMul (feD) (feMul (feLoad (List.set s (31 : Nat) (bits2 .and .u8 (List.getD (sub s (31 : Nat) (1 : Nat)) (0 : Nat) 0) (127 : Int)))) (feLoad (List.set s (31 : Nat) (bits2 .and .u8 (List.getD (sub s (31 : Nat) (1 : Nat)) (0 : Nat) 0) (127 : Int)))))) (feSmall (1 : Int))))) = false), ((!(decide ((feBytes (feLoad (List.set s (31 : Nat) (bits2 .and .u8 (List.getD (sub s (31 : Nat) (1 : Nat)) (0 : Nat) 0) (127 : Int))))) = (List.set s (31 : Nat) (bits2 .and .u8 (List.getD (sub s (31 : Nat) (1 : Nat)) (0 : Nat) 0) (127 : Int)))))) = false), ((0 : Int) ≤ (7 : Int))]) (by kernel_rfl)
    (AllP_cons (by rw [hb4]; rfl) (AllP_cons hb3 (AllP_cons (by rw [hb1]; rfl) (AllP_cons hb2 (AllP_cons (by rw [hb1]; rfl) (AllP_cons hb2 (AllP_cons hb2 (AllP_cons hb2 (AllP_cons hb2 (AllP_cons (by rw [hb1]; rfl) (AllP_cons (by rw [hb1]; rfl) (AllP_cons (by rw [hb0]; rfl) (AllP_cons (by decide) (AllP_nil))))))))))))))

def ptOpen_w3 (s : List Int) : List Int :=
  let z0 : List Int := (feLoad (List.set s (31 : Nat) (bits2 .and .u8 (List.getD (sub s (31 : Nat) (1 : Nat)) (0 : Nat) 0) (127 : Int))))
  let z1 : List Int := (feMul z0 z0)
  let z2 : List Int := (feRoot (feMin z1 (feSmall (1 : Int))) (fePlus (feMul (feD) z1) (feSmall (1 : Int))))
  (splice (splice (splice (splice ([0, 0, 0, 0, 0, 0, 0, 0, 0, 0, 0, 0, 0, 0, 0, 0, 0, 0, 0, 0] : List Int) (0 : Nat) (5 : Nat) z2) (5 : Nat) (5 : Nat) z0) (10 : Nat) (5 : Nat) (feSmall (1 : Int))) (15 : Nat) (5 : Nat) (feMul z2 z0))

set_option maxHeartbeats 1000000 in
theorem ptOpen_w3_body0 (s : List Int) (hv0 : List.length s = (32 : Nat)) (hb0 : (decide ((feBytes (feLoad (List.set s (31 : Nat) (bits2 .and .u8 (List.getD (sub s (31 : Nat) (1 : Nat)) (0 : Nat) 0) (127 : Int))))) = (List.set s (31 : Nat) (bits2 .and .u8 (List.getD (sub s (31 : Nat) (1 : Nat)) (0 : Nat) 0) (127 : Int))))) = true) (hb1 : (feRoot_1 (feMin (feMul (feLoad (List.set s (31 : Nat) (bits2 .and .u8 (List.getD (sub s (31 : Nat) (1 : Nat)) (0 : Nat) 0) (127 : Int)))) (feLoad (List.set s (31 : Nat) (bits2 .and .u8 (List.getD (sub s (31 : Nat) (1 : Nat)) (0 : Nat) 0) (127 : Int))))) (feSmall (1 : Int))) (fePlus (feMul (feD) (feMul (feLoad (List.set s (31 : Nat) (bits2 .and .u8 (List.getD (sub s (31 : Nat) (1 : Nat)) (0 : Nat) 0) (127 : Int)))) (feLoad (List.set s (31 : Nat) (bits2 .and .u8 (List.getD (sub s (31 : Nat) (1 : Nat)) (0 : Nat) 0) (127 : Int)))))) (feSmall (1 : Int)))) = true) (hb2 : ((shr .u8 (List.getD (sub s (31 : Nat) (1 : Nat)) (0 : Nat) 0) (7 : Int)) == (1 : Int)) = false) (hb3 : ((feOdd (feRoot (feMin (feMul (feLoad (List.set s (31 : Nat) (bits2 .and .u8 (List.getD (sub s (31 : Nat) (1 : Nat)) (0 : Nat) 0) (127 : Int)))) (feLoad (List.set s (31 : Nat) (bits2 .and .u8 (List.getD (sub s (31 : Nat) (1 : Nat)) (0 : Nat) 0) (127 : Int))))) (feSmall (1 : Int))) (fePlus (feMul (feD) (feMul (feLoad (List.set s (31 : Nat) (bits2 .and .u8 (List.getD (sub s (31 : Nat) (1 : Nat)) (0 : Nat) 0) (127 : Int)))) (feLoad (List.set s (31 : Nat) (bits2 .and .u8 (List.getD (sub s (31 : Nat) (1 : Nat)) (0 : Nat) 0) (127 : Int)))))) (feSmall (1 : Int))))) == ((shr .u8 (List.getD (sub s (31 : Nat) (1 : Nat)) (0 : Nat) 0) (7 : Int)) == (1 : Int))) = true) (w : World) : Body Try.prog (tabOf tabVI) Try.f44 ⟨w, [], 0, noEnv⟩ (toA [.g [.ints .u8 (32 : Nat) s]]) [] (fun ys _ => ys = [.g [.ints .u64 (20 : Nat) (ptOpen_w3 s)], .a (.b true)]) :=
  Body.of_fin (Γ := gam26) (Λ := noLam) (Ψ := noPsi) (fuel := 0) (m := 64) (c := (Try.f44.body.getD .skip)) mix tabOkVI gam26_ok rfl (rs := [.cell 2 94, .tmp 3]) rfl rfl [false, true, true, false, false, false, false, true, false, false, false, false] []
    (vc := [((!((feOdd (feRoot (feMin (feMul (feLoad (List.set s (31 : Nat) (bits2 .and .u8 (List.getD (sub s (31 : Nat) (1 : Nat)) (0 : Nat) 0) (127 : Int)))) (feLoad (List.set s (31 : Nat) (bits2 .and .u8 (List.getD (sub s (31 : Nat) (1 : Nat)) (0 : Nat) 0) (127 : Int))))) (feSmall (1 : Int))) (fePlus (feMul (feD) (feMul (feLoad (List.set s (31 : Nat) (bits2 .and .u8 (List.getD (sub s (31 : Nat) (1 : Nat)) (0 : Nat) 0) (127 : Int)))) (feLoad (List.set s (31 : Nat) (bits2 .and .u8 (List.getD (sub s (31 : Nat) (1 : Nat)) (0 : Nat) 0) (127 : Int)))))) (feSmall (1 : Int))))) == ((shr .u8 (List.getD (sub s (31 : Nat) (1 : Nat)) (0 : Nat) 0) (7 : Int)) == (1 : Int)))) = false), (false = false), ((!(feRoot_1 (feMin (feMul (feLoad (List.set s (31 : Nat) (bits2 .and .u8 (List.getD (sub s (31 : Nat) (1 : Nat)) (0 : Nat) 0) (127 : Int)))) (feLoad (List.set s (31 : Nat) (bits2 .and .u8 (List.getD (sub s (31 : Nat) (1 : Nat)) (0 : Nat) 0) (127 : Int))))) (feSmall (1 : Int))) (fePlus (feMul (feD) (feMul (feLoad (List.set s (31 : Nat) (bits2 .and .u8 (List.getD (sub s (31 : Nat) (1 : Nat)) (0 : Nat) 0) (127 : Int)))) (feLoad (List.set s (31 : Nat) (bits2 .and .u8 (List.getD (sub s (31 : Nat) (1 : Nat)) (0 : Nat) 0) (127 : Int)))))) (feSmall (1 : Int))))) = false), (((shr .u8 (List.getD (sub s (31 : Nat) (1 : Nat)) (0 : Nat) 0) (7 : Int)) == (1 : Int)) = false), ((!(feRoot_1 (feMin (feMul (feLoad (List.set s (31 : Nat) (bits2 .and .u8 (List.getD (sub s (31 : Nat) (1 : Nat)) (0 : Nat) 0) (127 : Int)))) (feLoad (List.set s (31 : Nat) (bits2 .and .u8 (List.getD (sub s (31 : Nat) (1 : Nat)) (0 : Nat) 0) (127 : Int))))) (feSmall (1 : Int))) (fePlus (feMul (feD) (feMul (feLoad (List.set s (31 : Nat) (bits2 .and .u8 (List.getD (sub s (31 : Nat) (1 : Nat)) (0 : Nat) 0) (127 : Int)))) (feLoad (List.set s (31 : Nat) (bits2 .and .u8 (List.getD (sub s (31 : Nat) (1 : Nat)) (0 : Nat) 0) (127 : Int)))))) (feSmall (1 : Int))))) = false), (((shr .u8 (List.getD (sub s (31 : Nat) (1 : Nat)) (0 : Nat) 0) (7 : Int)) == (1 : Int)) = false), (((shr .u8 (List.getD (sub s (31 : Nat) (1 : Nat)) (0 : Nat) 0) (7 : Int)) == (1 : Int)) = false), (((shr .u8 (List.getD (sub s (31 : Nat) (1 : Nat)) (0 : Nat) 0) (7 : Int)) == (1 : Int)) = false), (((shr .u8 (List.getD (sub s (31 : Nat) (1 : Nat)) (0 : Nat) 0) (7 : Int)) == (1 : Int)) = false), ((!(feRoot_1 (feMin (feMul (feLoad (List.set s (31 : Nat) (bits2 .and .u8 (List.getD (sub s (31 : Nat) (1 : Nat)) (0 : Nat) 0) (127 : Int)))) (feLoad (List.set s (31 : Nat) (bits2 .and .u8 (List.getD (sub s (31 : Nat) (1 : Nat)) (0 : Nat) 0) (127 : Int))))) (feSmall (1 : Int))) (fePlus (feMul (feD) (feMul (feLoad (List.set s (31 : Nat) (bits2 .and .u8 (List.getD (sub s (31 : Nat) (1 : Nat)) (0 : Nat) 0) (127 : Int)))) (feLoad (List.set s (31 : Nat) (bits2 .and .u8 (List.getD (sub s (31 : Nat) (1 : Nat)) (0 : Nat) 0) (127 : Int)))))) (feSmall (1 : Int))))) = false), ((!(feRoot_1 (feMin (feMul (feLoad (List.set s (31 : Nat) (bits2 .and .u8 (List.getD (sub s (31 : Nat) (1 : Nat)) (0 : Nat) 0) (127 : Int)))) (feLoad (List.set s (31 : Nat) (bits2 .and .u8 (List.getD (sub s (31 : Nat) (1 : Nat)) (0 : Nat) 0) (127 : Int))))) (feSmall (1 : Int))) (fePlus (feMul (feD) (feMul (feLoad (List.set s (31 : Nat) (bits2 .and .u8 (List.getD (sub s (31 : Nat) (1 : Nat)) (0 : Nat) 0) (127 : Int)))) (feLoad (List.set s (31 : Nat) (bits2 .and .u8 (List.getD (sub s (31 : Nat) (1 : Nat)) (0 : Nat) 0) (127 : Int)))))) (feSmall (1 : Int))))) = false), ((!(decide ((feBytes (feLoad (List.set s (31 : Nat) (bits2 .and .u8 (List.getD (sub s (31 : Nat) (1 : Nat)) (0 : Nat) 0) (127 : Int))))) = (List.set s (31 : Nat) (bits2 .and .u8 (List.getD (sub s (31 : Nat) (1 : Nat)) (0 : Nat) 0) (127 : Int)))))) = false), ((0 : Int) ≤ (7 : Int))]) (by kernel_rfl)
    (AllP_cons (by rw [hb3]; rfl) (AllP_cons rfl (AllP_cons (by rw [hb1]; rfl) (AllP_cons hb2 (AllP_cons (by rw [hb1]; rfl) (AllP_cons hb2 (AllP_cons hb2 (AllP_cons hb2 (AllP_cons hb2 (AllP_cons (by rw [hb1]; rfl) (AllP_cons (by rw [hb1]; rfl) (AllP_cons (by rw [hb0]; rfl) (AllP_cons (by decide) (AllP_nil))))))))))))))

def ptOpen_w4 (s : List Int) : List Int :=
  let z0 : List Int := (feLoad (List.set s (31 : Nat) (bits2 .and .u8 (List.getD (sub s (31 : Nat) (1 : Nat)) (0 : Nat) 0) (127 : Int))))
  let z1 : List Int := (feMul z0 z0)
  let z2 : List Int := (feMin ([0, 0, 0, 0, 0] : List Int) (feRoot (feMin z1 (feSmall (1 : Int))) (fePlus (feMul (feD) z1) (feSmall (1 : Int)))))
  (splice (splice (splice (splice ([0, 0, 0, 0, 0, 0, 0, 0, 0, 0, 0, 0, 0, 0, 0, 0, 0, 0, 0, 0] : List Int) (0 : Nat) (5 : Nat) z2) (5 : Nat) (5 : Nat) z0) (10 : Nat) (5 : Nat) (feSmall (1 : Int))) (15 : Nat) (5 : Nat) (feMul z2 z0))

set_option maxHeartbeats 1000000 in
theorem ptOpen_w4_body0 (s : List Int) (hv0 : List.length s = (32 : Nat)) (hb0 : (decide ((feBytes (feLoad (List.set s (31 : Nat) (bits2 .and .u8 (List.getD (sub s (31 : Nat) (1 : Nat)) (0 : Nat) 0) (127 : Int))))) = (List.set s (31 : Nat) (bits2 .and .u8 (List.getD (sub s (31 : Nat) (1 : Nat)) (0 : Nat) 0) (127 : Int))))) = true) (hb1 : (feRoot_1 (feMin (feMul (feLoad (List.set s (31 : Nat) (bits2 .and .u8 (List.getD (sub s (31 : Nat) (1 : Nat)) (0 : Nat) 0) (127 : Int)))) (feLoad (List.set s (31 : Nat) (bits2 .and .u8 (List.getD (sub s (31 : Nat) (1 : Nat)) (0 : Nat) 0) (127 : Int))))) (feSmall (1 : Int))) (fePlus (feMul (feD) (feMul (feLoad (List.set s (31 : Nat) (bits2 .and .u8 (List.getD (sub s (31 : Nat) (1 : Nat)) (0 : Nat) 0) (127 : Int)))) (feLoad (List.set s (31 : Nat) (bits2 .and .u8 (List.getD (sub s (31 : Nat) (1 : Nat)) (0 : Nat) 0) (127 : Int)))))) (feSmall (1 : Int)))) = true) (hb2 : ((shr .u8 (List.getD (sub s (31 : Nat) (1 : Nat)) (0 : Nat) 0) (7 : Int)) == (1 : Int)) = false) (hb3 : ((feOdd (feRoot (feMin (feMul (feLoad (List.set s (31 : Nat) (bits2 .and .u8 (List.getD (sub s (31 : Nat) (1 : Nat)) (0 : Nat) 0) (127 : Int)))) (feLoad (List.set s (31 : Nat) (bits2 .and .u8 (List.getD (sub s (31 : Nat) (1 : Nat)) (0 : Nat) 0) (127 : Int))))) (feSmall (1 : Int))) (fePlus (feMul (feD) (feMul (feLoad (List.set s (31 : Nat) (bits2 .and .u8 (List.getD (sub s (31 : Nat) (1 : Nat)) (0 : Nat) 0) (127 : Int)))) (feLoad (List.set s (31 : Nat) (bits2 .and .u8 (List.getD (sub s (31 : Nat) (1 : Nat)) (0 : Nat) 0) (127 : Int)))))) (feSmall (1 : Int))))) == ((shr .u8 (List.getD (sub s (31 : Nat) (1 : Nat)) (0 : Nat) 0) (7 : Int)) == (1 : Int))) = false) (w : World) : Body Try.prog (tabOf tabVI) Try.f44 ⟨w, [], 0, noEnv⟩ (toA [.g [.ints .u8 (32 : Nat) s]]) [] (fun ys _ => ys = [.g [.ints .u64 (20 : Nat) (ptOpen_w4 s)], .a (.b true)]) :=
  Body.of_fin (Γ := gam26) (Λ := noLam) (Ψ := noPsi) (fuel := 0) (m := 64) (c := (Try.f44.body.getD .skip)) mix tabOkVI gam26_ok rfl (rs := [.cell 2 94, .tmp 3]) rfl rfl [false, true, true, false, false, false, false, true, false, false, false, true] []
    (vc := [((!((feOdd (feRoot (feMin (feMul (feLoad (List.set s (31 : Nat) (bits2 .and .u8 (List.getD (sub s (31 : Nat) (1 : Nat)) (0 : Nat) 0) (127 : Int)))) (feLoad (List.set s (31 : Nat) (bits2 .and .u8 (List.getD (sub s (31 : Nat) (1 : Nat)) (0 : Nat) 0) (127 : Int))))) (feSmall (1 : Int))) (fePlus (feMul (feD) (feMul (feLoad (List.set s (31 : Nat) (bits2 .and .u8 (List.getD (sub s (31 : Nat) (1 : Nat)) (0 : Nat) 0) (127 : Int)))) (feLoad (List.set s (31 : Nat) (bits2 .and .u8 (List.getD (sub s (31 : Nat) (1 : Nat)) (0 : Nat) 0) (127 : Int)))))) (feSmall (1 : Int))))) == ((shr .u8 (List.getD (sub s (31 : Nat) (1 : Nat)) (0 : Nat) 0) (7 : Int)) == (1 : Int)))) = true), (false = false), ((!(feRoot_1 (feMin (feMul (feLoad (List.set s (31 : Nat) (bits2 .and .u8 (List.getD (sub s (31 : Nat) (1 : Nat)) (0 : Nat) 0) (127 : Int)))) (feLoad (List.set s (31 : Nat) (bits2 .and .u8 (List.getD (sub s (31 : Nat) (1 : Nat)) (0 : Nat) 0) (127 : Int))))) (feSmall (1 : Int))) (fePlus (feMul (feD) (feMul (feLoad (List.set s (31 : Nat) (bits2 .and .u8 (List.getD (sub s (31 : Nat) (1 : Nat)) (0 : Nat) 0) (127 : Int)))) (feLoad (List.set s (31 : Nat) (bits2 .and .u8 (List.getD (sub s (31 : Nat) (1 : Nat)) (0 : Nat) 0) (127 : Int)))))) (feSmall (1 : Int))))) = false), (((shr .u8 (List.getD (sub s (31 : Nat) (1 : Nat)) (0 : Nat) 0) (7 : Int)) == (1 : Int)) = false), ((!(feRoot_1 (feMin (feMul (feLoad (List.set s (31 : Nat) (bits2 .and .u8 (List.getD (sub s (31 : Nat) (1 : Nat)) (0 : Nat) 0) (127 : Int)))) (feLoad (List.set s (31 : Nat) (bits2 .and .u8 (List.getD (sub s (31 : Nat) (1 : Nat)) (0 : Nat) 0) (127 : Int))))) (feSmall (1 : Int))) (fePlus (feMul (feD) (feMul (feLoad (List.set s (31 : Nat) (bits2 .and .u8 (List.getD (sub s (31 : Nat) (1 : Nat)) (0 : Nat) 0) (127 : Int)))) (feLoad (List.set s (31 : Nat) (bits2 .and .u8 (List.getD (sub s (31 : Nat) (1 : Nat)) (0 : Nat) 0) (127 : Int)))))) (feSmall (1 : Int))))) = false), (((shr .u8 (List.getD (sub s (31 : Nat) (1 : Nat)) (0 : Nat) 0) (7 : Int)) == (1 : Int)) = false), (((shr .u8 (List.getD (sub s (31 : Nat) (1 : Nat)) (0 : Nat) 0) (7 : Int)) == (1 : Int)) = false), (((shr .u8 (List.getD (sub s (31 : Nat) (1 : Nat)) (0 : Nat) 0) (7 : Int)) == (1 : Int)) = false), (((shr .u8 (List.getD (sub s (31 : Nat) (1 : Nat)) (0 : Nat) 0) (7 : Int)) == (1 : Int)) = false), ((!(feRoot_1 (feMin (feMul (feLoad (List.set s (31 : Nat) (bits2 .and .u8 (List.getD (sub s (31 : Nat) (1 : Nat)) (0 : Nat) 0) (127 : Int)))) (feLoad (List.set s (31 : Nat) (bits2 .and .u8 (List.getD (sub s (31 : Nat) (1 : Nat)) (0 : Nat) 0) (127 : Int))))) (feSmall (1 : Int))) (fePlus (feMul (feD) (feMul (feLoad (List.set s (31 : Nat) (bits2 .and .u8 (List.getD (sub s (31 : Nat) (1 : Nat)) (0 : Nat) 0) (127 : Int)))) (feLoad (List.set s (31 : Nat) (bits2 .and .u8 (List.getD (sub s (31 : Nat) (1 : Nat)) (0 : Nat) 0) (127 : Int)))))) (feSmall (1 : Int))))) = false), ((!(feRoot_1 (feMin (feMul (feLoad (List.set s (31 : Nat) (bits2 .and .u8 (List.getD (sub s (31 : Nat) (1 : Nat)) (0 : Nat) 0) (127 : Int)))) (feLoad (List.set s (31 : Nat) (bits2 .and .u8 (List.getD (sub s (31 : Nat) (1 : Nat)) (0 : Nat) 0) (127 : Int))))) (feSmall (1 : Int))) (fePlus (feMul (feD) (feMul (feLoad (List.set s (31 : Nat) (bits2 .and .u8 (List.getD (sub s (31 : Nat) (1 : Nat)) (0 : Nat) 0) (127 : Int)))) (feLoad (List.set s (31 : Nat) (bits2 .and .u8 (List.getD (sub s (31 : Nat) (1 : Nat)) (0 : Nat) 0) (127 : Int)))))) (feSmall (1 : Int))))) = false), ((!(decide ((feBytes (feLoad (List.set s (31 : Nat) (bits2 .and .u8 (List.getD (sub s (31 : Nat) (1 : Nat)) (0 : Nat) 0) (127 : Int))))) = (List.set s (31 : Nat) (bits2 .and .u8 (List.getD (sub s (31 : Nat) (1 : Nat)) (0 : Nat) 0) (127 : Int)))))) = false), ((0 : Int) ≤ (7 : Int))]) (by kernel_rfl)
    (AllP_cons (by rw [hb3]; rfl) (AllP_cons rfl (AllP_cons (by rw [hb1]; rfl) (AllP_cons hb2 (AllP_cons (by rw [hb1]; rfl) (AllP_cons hb2 (AllP_cons hb2 (AllP_cons hb2 (AllP_cons hb2 (AllP_cons (by rw [hb1]; rfl) (AllP_cons (by rw [hb1]; rfl) (AllP_cons (by rw [hb0]; rfl) (AllP_cons (by decide) (AllP_nil))))))))))))))

set_option maxHeartbeats 1000000 in
theorem ptOpen_w5_body0 (s : List Int) (hv0 : List.length s = (32 : Nat)) (hb0 : (decide ((feBytes (feLoad (List.set s (31 : Nat) (bits2 .and .u8 (List.getD (sub s (31 : Nat) (1 : Nat)) (0 : Nat) 0) (127 : Int))))) = (List.set s (31 : Nat) (bits2 .and .u8 (List.getD (sub s (31 : Nat) (1 : Nat)) (0 : Nat) 0) (127 : Int))))) = true) (hb1 : (feRoot_1 (feMin (feMul (feLoad (List.set s (31 : Nat) (bits2 .and .u8 (List.getD (sub s (31 : Nat) (1 : Nat)) (0 : Nat) 0) (127 : Int)))) (feLoad (List.set s (31 : Nat) (bits2 .and .u8 (List.getD (sub s (31 : Nat) (1 : Nat)) (0 : Nat) 0) (127 : Int))))) (feSmall (1 : Int))) (fePlus (feMul (feD) (feMul (feLoad (List.set s (31 : Nat) (bits2 .and .u8 (List.getD (sub s (31 : Nat) (1 : Nat)) (0 : Nat) 0) (127 : Int)))) (feLoad (List.set s (31 : Nat) (bits2 .and .u8 (List.getD (sub s (31 : Nat) (1 : Nat)) (0 : Nat) 0) (127 : Int)))))) (feSmall (1 : Int)))) = false) (w : World) : Body Try.prog (tabOf tabVI) Try.f44 ⟨w, [], 0, noEnv⟩ (toA [.g [.ints .u8 (32 : Nat) s]]) [] (fun ys _ => ys = [.g [.ints .u64 (20 : Nat) ([0, 0, 0, 0, 0, 0, 0, 0, 0, 0, 0, 0, 0, 0, 0, 0, 0, 0, 0, 0] : List Int)], .a (.b false)]) :=
  Body.of_fin (Γ := gam26) (Λ := noLam) (Ψ := noPsi) (fuel := 0) (m := 64) (c := (Try.f44.body.getD .skip)) mix tabOkVI gam26_ok rfl (rs := [.cell 2 94, .tmp 3]) rfl rfl [false, false, false, false, true, true] []
    (vc := [(true = true), ((!(feRoot_1 (feMin (feMul (feLoad (List.set s (31 : Nat) (bits2 .and .u8 (List.getD (sub s (31 : Nat) (1 : Nat)) (0 : Nat) 0) (127 : Int)))) (feLoad (List.set s (31 : Nat) (bits2 .and .u8 (List.getD (sub s (31 : Nat) (1 : Nat)) (0 : Nat) 0) (127 : Int))))) (feSmall (1 : Int))) (fePlus (feMul (feD) (feMul (feLoad (List.set s (31 : Nat) (bits2 .and .u8 (List.getD (sub s (31 : Nat) (1 : Nat)) (0 : Nat) 0) (127 : Int)))) (feLoad (List.set s (31 : Nat) (bits2 .and .u8 (List.getD (sub s (31 : Nat) (1 : Nat)) (0 : Nat) 0) (127 : Int)))))) (feSmall (1 : Int))))) = true), ((!(feRoot_1 (feMin (feMul (feLoad (List.set s (31 : Nat) (bits2 .and .u8 (List.getD (sub s (31 : Nat) (1 : Nat)) (0 : Nat) 0) (127 : Int)))) (feLoad (List.set s (31 : Nat) (bits2 .and .u8 (List.getD (sub s (31 : Nat) (1 : Nat)) (0 : Nat) 0) (127 : Int))))) (feSmall (1 : Int))) (fePlus (feMul (feD) (feMul (feLoad (List.set s (31 : Nat) (bits2 .and .u8 (List.getD (sub s (31 : Nat) (1 : Nat)) (0 : Nat) 0) (127 : Int)))) (feLoad (List.set s (31 : Nat) (bits2 .and .u8 (List.getD (sub s (31 : Nat) (1 : Nat)) (0 : Nat) 0) (127 : Int)))))) (feSmall (1 : Int))))) = true), ((!(feRoot_1 (feMin (feMul (feLoad (List.set s (31 : Nat) (bits2 .and .u8 (List.getD (sub s (31 : Nat) (1 : Nat)) (0 : Nat) 0) (127 : Int)))) (feLoad (List.set s (31 : Nat) (bits2 .and .u8 (List.getD (sub s (31 : Nat) (1 : Nat)) (0 : Nat) 0) (127 : Int))))) (feSmall (1 : Int))) (fePlus (feMul (feD) (feMul (feLoad (List.set s (31 : Nat) (bits2 .and .u8 (List.getD (sub s (31 : Nat) (1 : Nat)) (0 : Nat) 0) (127 : Int)))) (feLoad (List.set s (31 : Nat) (bits2 .and .u8 (List.getD (sub s (31 : Nat) (1 : Nat)) (0 : Nat) 0) (127 : Int)))))) (feSmall (1 : Int))))) = true), ((!(feRoot_1 (feMin (feMul (feLoad (List.set s (31 : Nat) (bits2 .and .u8 (List.getD (sub s (31 : Nat) (1 : Nat)) (0 : Nat) 0) (127 : Int)))) (feLoad (List.set s (31 : Nat) (bits2 .and .u8 (List.getD (sub s (31 : Nat) (1 : Nat)) (0 : Nat) 0) (127 : Int))))) (feSmall (1 : Int))) (fePlus (feMul (feD) (feMul (feLoad (List.set s (31 : Nat) (bits2 .and .u8 (List.getD (sub s (31 : Nat) (1 : Nat)) (0 : Nat) 0) (127 : Int)))) (feLoad (List.set s (31 : Nat) (bits2 .and .u8 (List.getD (sub s (31 : Nat) (1 : Nat)) (0 : Nat) 0) (127 : Int)))))) (feSmall (1 : Int))))) = true), ((!(decide ((feBytes (feLoad (List.set s (31 : Nat) (bits2 .and .u8 (List.getD (sub s (31 : Nat) (1 : Nat)) (0 : Nat) 0) (127 : Int))))) = (List.set s (31 : Nat) (bits2 .and .u8 (List.getD (sub s (31 : Nat) (1 : Nat)) (0 : Nat) 0) (127 : Int)))))) = false), ((0 : Int) ≤ (7 : Int))]) (by kernel_rfl)
    (AllP_cons rfl (AllP_cons (by rw [hb1]; rfl) (AllP_cons (by rw [hb1]; rfl) (AllP_cons (by rw [hb1]; rfl) (AllP_cons (by rw [hb1]; rfl) (AllP_cons (by rw [hb0]; rfl) (AllP_cons (by decide) (AllP_nil))))))))

set_option maxHeartbeats 1000000 in
theorem ptOpen_w6_body0 (s : List Int) (hv0 : List.length s = (32 : Nat)) (hb0 : (decide ((feBytes (feLoad (List.set s (31 : Nat) (bits2 .and .u8 (List.getD (sub s (31 : Nat) (1 : Nat)) (0 : Nat) 0) (127 : Int))))) = (List.set s (31 : Nat) (bits2 .and .u8 (List.getD (sub s (31 : Nat) (1 : Nat)) (0 : Nat) 0) (127 : Int))))) = false) (w : World) : Body Try.prog (tabOf tabVI) Try.f44 ⟨w, [], 0, noEnv⟩ (toA [.g [.ints .u8 (32 : Nat) s]]) [] (fun ys _ => ys = [.g [.ints .u64 (20 : Nat) ([0, 0, 0, 0, 0, 0, 0, 0, 0, 0, 0, 0, 0, 0, 0, 0, 0, 0, 0, 0] : List Int)], .a (.b false)]) :=
  Body.of_fin (Γ := gam26) (Λ := noLam) (Ψ := noPsi) (fuel := 0) (m := 64) (c := (Try.f44.body.getD .skip)) mix tabOkVI gam26_ok rfl (rs := [.cell 2 94, .tmp 3]) rfl rfl [true] []
    (vc := [((!(decide ((feBytes (feLoad (List.set s (31 : Nat) (bits2 .and .u8 (List.getD (sub s (31 : Nat) (1 : Nat)) (0 : Nat) 0) (127 : Int))))) = (List.set s (31 : Nat) (bits2 .and .u8 (List.getD (sub s (31 : Nat) (1 : Nat)) (0 : Nat) 0) (127 : Int)))))) = true), ((0 : Int) ≤ (7 : Int))]) (by kernel_rfl)
    (AllP_cons (by rw [hb0]; rfl) (AllP_cons (by decide) (AllP_nil)))

def ptOpen (s : List Int) : List Int :=
  (cond (decide ((feBytes (feLoad (List.set s (31 : Nat) (bits2 .and .u8 (List.getD (sub s (31 : Nat) (1 : Nat)) (0 : Nat) 0) (127 : Int))))) = (List.set s (31 : Nat) (bits2 .and .u8 (List.getD (sub s (31 : Nat) (1 : Nat)) (0 : Nat) 0) (127 : Int))))) (cond (feRoot_1 (feMin (feMul (feLoad (List.set s (31 : Nat) (bits2 .and .u8 (List.getD (sub s (31 : Nat) (1 : Nat)) (0 : Nat) 0) (127 : Int)))) (feLoad (List.set s (31 : Nat) (bits2 .and .u8 (List.getD (sub s (31 : Nat) (1 : Nat)) (0 : Nat) 0) (127 : Int))))) (feSmall (1 : Int))) (fePlus (feMul (feD) (feMul (feLoad (List.set s (31 : Nat) (bits2 .and .u8 (List.getD (sub s (31 : Nat) (1 : Nat)) (0 : Nat) 0) (127 : Int)))) (feLoad (List.set s (31 : Nat) (bits2 .and .u8 (List.getD (sub s (31 : Nat) (1 : Nat)) (0 : Nat) 0) (127 : Int)))))) (feSmall (1 : Int)))) (cond ((shr .u8 (List.getD (sub s (31 : Nat) (1 : Nat)) (0 : Nat) 0) (7 : Int)) == (1 : Int)) (cond (decide ((feBytes (feRoot (feMin (feMul (feLoad (List.set s (31 : Nat) (bits2 .and .u8 (List.getD (sub s (31 : Nat) (1 : Nat)) (0 : Nat) 0) (127 : Int)))) (feLoad (List.set s (31 : Nat) (bits2 .and .u8 (List.getD (sub s (31 : Nat) (1 : Nat)) (0 : Nat) 0) (127 : Int))))) (feSmall (1 : Int))) (fePlus (feMul (feD) (feMul (feLoad (List.set s (31 : Nat) (bits2 .and .u8 (List.getD (sub s (31 : Nat) (1 : Nat)) (0 : Nat) 0) (127 : Int)))) (feLoad (List.set s (31 : Nat) (bits2 .and .u8 (List.getD (sub s (31 : Nat) (1 : Nat)) (0 : Nat) 0) (127 : Int)))))) (feSmall (1 : Int))))) = ([0, 0, 0, 0, 0, 0, 0, 0, 0, 0, 0, 0, 0, 0, 0, 0, 0, 0, 0, 0, 0, 0, 0, 0, 0, 0, 0, 0, 0, 0, 0, 0] : List Int))) ([0, 0, 0, 0, 0, 0, 0, 0, 0, 0, 0, 0, 0, 0, 0, 0, 0, 0, 0, 0] : List Int) (cond ((feOdd (feRoot (feMin (feMul (feLoad (List.set s (31 : Nat) (bits2 .and .u8 (List.getD (sub s (31 : Nat) (1 : Nat)) (0 : Nat) 0) (127 : Int)))) (feLoad (List.set s (31 : Nat) (bits2 .and .u8 (List.getD (sub s (31 : Nat) (1 : Nat)) (0 : Nat) 0) (127 : Int))))) (feSmall (1 : Int))) (fePlus (feMul (feD) (feMul (feLoad (List.set s (31 : Nat) (bits2 .and .u8 (List.getD (sub s (31 : Nat) (1 : Nat)) (0 : Nat) 0) (127 : Int)))) (feLoad (List.set s (31 : Nat) (bits2 .and .u8 (List.getD (sub s (31 : Nat) (1 : Nat)) (0 : Nat) 0) (127 : Int)))))) (feSmall (1 : Int))))) == ((shr .u8 (List.getD (sub s (31 : Nat) (1 : Nat)) (0 : Nat) 0) (7 : Int)) == (1 : Int))) (ptOpen_w1 s) (ptOpen_w2 s))) (cond ((feOdd (feRoot (feMin (feMul (feLoad (List.set s (31 : Nat) (bits2 .and .u8 (List.getD (sub s (31 : Nat) (1 : Nat)) (0 : Nat) 0) (127 : Int)))) (feLoad (List.set s (31 : Nat) (bits2 .and .u8 (List.getD (sub s (31 : Nat) (1 : Nat)) (0 : Nat) 0) (127 : Int))))) (feSmall (1 : Int))) (fePlus (feMul (feD) (feMul (feLoad (List.set s (31 : Nat) (bits2 .and .u8 (List.getD (sub s (31 : Nat) (1 : Nat)) (0 : Nat) 0) (127 : Int)))) (feLoad (List.set s (31 : Nat) (bits2 .and .u8 (List.getD (sub s (31 : Nat) (1 : Nat)) (0 : Nat) 0) (127 : Int)))))) (feSmall (1 : Int))))) == ((shr .u8 (List.getD (sub s (31 : Nat) (1 : Nat)) (0 : Nat) 0) (7 : Int)) == (1 : Int))) (ptOpen_w3 s) (ptOpen_w4 s))) ([0, 0, 0, 0, 0, 0, 0, 0, 0, 0, 0, 0, 0, 0, 0, 0, 0, 0, 0, 0] : List Int)) ([0, 0, 0, 0, 0, 0, 0, 0, 0, 0, 0, 0, 0, 0, 0, 0, 0, 0, 0, 0] : List Int))

def ptOpen_1 (s : List Int) : Bool :=
  (cond (decide ((feBytes (feLoad (List.set s (31 : Nat) (bits2 .and .u8 (List.getD (sub s (31 : Nat) (1 : Nat)) (0 : Nat) 0) (127 : Int))))) = (List.set s (31 : Nat) (bits2 .and .u8 (List.getD (sub s (31 : Nat) (1 : Nat)) (0 : Nat) 0) (127 : Int))))) (cond (feRoot_1 (feMin (feMul (feLoad (List.set s (31 : Nat) (bits2 .and .u8 (List.getD (sub s (31 : Nat) (1 : Nat)) (0 : Nat) 0) (127 : Int)))) (feLoad (List.set s (31 : Nat) (bits2 .and .u8 (List.getD (sub s (31 : Nat) (1 : Nat)) (0 : Nat) 0) (127 : Int))))) (feSmall (1 : Int))) (fePlus (feMul (feD) (feMul (feLoad (List.set s (31 : Nat) (bits2 .and .u8 (List.getD (sub s (31 : Nat) (1 : Nat)) (0 : Nat) 0) (127 : Int)))) (feLoad (List.set s (31 : Nat) (bits2 .and .u8 (List.getD (sub s (31 : Nat) (1 : Nat)) (0 : Nat) 0) (127 : Int)))))) (feSmall (1 : Int)))) (cond ((shr .u8 (List.getD (sub s (31 : Nat) (1 : Nat)) (0 : Nat) 0) (7 : Int)) == (1 : Int)) (cond (decide ((feBytes (feRoot (feMin (feMul (feLoad (List.set s (31 : Nat) (bits2 .and .u8 (List.getD (sub s (31 : Nat) (1 : Nat)) (0 : Nat) 0) (127 : Int)))) (feLoad (List.set s (31 : Nat) (bits2 .and .u8 (List.getD (sub s (31 : Nat) (1 : Nat)) (0 : Nat) 0) (127 : Int))))) (feSmall (1 : Int))) (fePlus (feMul (feD) (feMul (feLoad (List.set s (31 : Nat) (bits2 .and .u8 (List.getD (sub s (31 : Nat) (1 : Nat)) (0 : Nat) 0) (127 : Int)))) (feLoad (List.set s (31 : Nat) (bits2 .and .u8 (List.getD (sub s (31 : Nat) (1 : Nat)) (0 : Nat) 0) (127 : Int)))))) (feSmall (1 : Int))))) = ([0, 0, 0, 0, 0, 0, 0, 0, 0, 0, 0, 0, 0, 0, 0, 0, 0, 0, 0, 0, 0, 0, 0, 0, 0, 0, 0, 0, 0, 0, 0, 0] : List Int))) false true) true) false) false)

set_option maxHeartbeats 1000000 in
theorem ptOpen_body (s : List Int) (w : World) : Body Try.prog (tabOf tabVI) Try.f44 ⟨w, [], 0, noEnv⟩ (toA [.g [.ints .u8 (32 : Nat) s]]) [] (fun ys _ => ys = [.g [.ints .u64 (20 : Nat) (ptOpen s)], .a (.b (ptOpen_1 s))]) :=
  Body.lens (c := (Try.f44.body.getD .skip)) rfl fun h => by
    cases hb0 : (decide ((feBytes (feLoad (List.set s (31 : Nat) (bits2 .and .u8 (List.getD (sub s (31 : Nat) (1 : Nat)) (0 : Nat) 0) (127 : Int))))) = (List.set s (31 : Nat) (bits2 .and .u8 (List.getD (sub s (31 : Nat) (1 : Nat)) (0 : Nat) 0) (127 : Int)))))
    · exact (ptOpen_w6_body0 s (h.vals 0 _ _ _ rfl) hb0 w).mono fun _ _ hx => hx.trans (by rw [(show (ptOpen s) = ([0, 0, 0, 0, 0, 0, 0, 0, 0, 0, 0, 0, 0, 0, 0, 0, 0, 0, 0, 0] : List Int) from (cond_f hb0)), (show (ptOpen_1 s) = false from (cond_f hb0))])
    · cases hb1 : (feRoot_1 (feMin (feMul (feLoad (List.set s (31 : Nat) (bits2 .and .u8 (List.getD (sub s (31 : Nat) (1 : Nat)) (0 : Nat) 0) (127 : Int)))) (feLoad (List.set s (31 : Nat) (bits2 .and .u8 (List.getD (sub s (31 : Nat) (1 : Nat)) (0 : Nat) 0) (127 : Int))))) (feSmall (1 : Int))) (fePlus (feMul (feD) (feMul (feLoad (List.set s (31 : Nat) (bits2 .and .u8 (List.getD (sub s (31 : Nat) (1 : Nat)) (0 : Nat) 0) (127 : Int)))) (feLoad (List.set s (31 : Nat) (bits2 .and .u8 (List.getD (sub s (31 : Nat) (1 : Nat)) (0 : Nat) 0) (127 : Int)))))) (feSmall (1 : Int))))
      · exact (ptOpen_w5_body0 s (h.vals 0 _ _ _ rfl) hb0 hb1 w).mono fun _ _ hx => hx.trans (by rw [(show (ptOpen s) = ([0, 0, 0, 0, 0, 0, 0, 0, 0, 0, 0, 0, 0, 0, 0, 0, 0, 0, 0, 0] : List Int) from ((cond_t hb0).trans (cond_f hb1))), (show (ptOpen_1 s) = false from ((cond_t hb0).trans (cond_f hb1)))])
      · cases hb2 : ((shr .u8 (List.getD (sub s (31 : Nat) (1 : Nat)) (0 : Nat) 0) (7 : Int)) == (1 : Int))
        · cases hb3 : ((feOdd (feRoot (feMin (feMul (feLoad (List.set s (31 : Nat) (bits2 .and .u8 (List.getD (sub s (31 : Nat) (1 : Nat)) (0 : Nat) 0) (127 : Int)))) (feLoad (List.set s (31 : Nat) (bits2 .and .u8 (List.getD (sub s (31 : Nat) (1 : Nat)) (0 : Nat) 0) (127 : Int))))) (feSmall (1 : Int))) (fePlus (feMul (feD) (feMul (feLoad (List.set s (31 : Nat) (bits2 .and .u8 (List.getD (sub s (31 : Nat) (1 : Nat)) (0 : Nat) 0) (127 : Int)))) (feLoad (List.set s (31 : Nat) (bits2 .and .u8 (List.getD (sub s (31 : Nat) (1 : Nat)) (0 : Nat) 0) (127 : Int)))))) (feSmall (1 : Int))))) == ((shr .u8 (List.getD (sub s (31 : Nat) (1 : Nat)) (0 : Nat) 0) (7 : Int)) == (1 : Int)))
          · exact (ptOpen_w4_body0 s (h.vals 0 _ _ _ rfl) hb0 hb1 hb2 hb3 w).mono fun _ _ hx => hx.trans (by rw [(show (ptOpen s) = (ptOpen_w4 s) from ((cond_t hb0).trans ((cond_t hb1).trans ((cond_f hb2).trans (cond_f hb3))))), (show (ptOpen_1 s) = true from ((cond_t hb0).trans ((cond_t hb1).trans (cond_f hb2))))])
          · exact (ptOpen_w3_body0 s (h.vals 0 _ _ _ rfl) hb0 hb1 hb2 hb3 w).mono fun _ _ hx => hx.trans (by rw [(show (ptOpen s) = (ptOpen_w3 s) from ((cond_t hb0).trans ((cond_t hb1).trans ((cond_f hb2).trans (cond_t hb3))))), (show (ptOpen_1 s) = true from ((cond_t hb0).trans ((cond_t hb1).trans (cond_f hb2))))])
        · cases hb3 : (decide ((feBytes (feRoot (feMin (feMul (feLoad (List.set s (31 : Nat) (bits2 .and .u8 (List.getD (sub s (31 : Nat) (1 : Nat)) (0 : Nat) 0) (127 : Int)))) (feLoad (List.set s (31 : Nat) (bits2 .and .u8 (List.getD (sub s (31 : Nat) (1 : Nat)) (0 : Nat) 0) (127 : Int))))) (feSmall (1 : Int))) (fePlus (feMul (feD) (feMul (feLoad (List.set s (31 : Nat) (bits2 .and .u8 (List.getD (sub s (31 : Nat) (1 : Nat)) (0 : Nat) 0) (127 : Int)))) (feLoad (List.set s (31 : Nat) (bits2 .and .u8 (List.getD (sub s (31 : Nat) (1 : Nat)) (0 : Nat) 0) (127 : Int)))))) (feSmall (1 : Int))))) = ([0, 0, 0, 0, 0, 0, 0, 0, 0, 0, 0, 0, 0, 0, 0, 0, 0, 0, 0, 0, 0, 0, 0, 0, 0, 0, 0, 0, 0, 0, 0, 0] : List Int)))
          · cases hb4 : ((feOdd (feRoot (feMin (feMul (feLoad (List.set s (31 : Nat) (bits2 .and .u8 (List.getD (sub s (31 : Nat) (1 : Nat)) (0 : Nat) 0) (127 : Int)))) (feLoad (List.set s (31 : Nat) (bits2 .and .u8 (List.getD (sub s (31 : Nat) (1 : Nat)) (0 : Nat) 0) (127 : Int))))) (feSmall (1 : Int))) (fePlus (feMul (feD) (feMul (feLoad (List.set s (31 : Nat) (bits2 .and .u8 (List.getD (sub s (31 : Nat) (1 : Nat)) (0 : Nat) 0) (127 : Int)))) (feLoad (List.set s (31 : Nat) (bits2 .and .u8 (List.getD (sub s (31 : Nat) (1 : Nat)) (0 : Nat) 0) (127 : Int)))))) (feSmall (1 : Int))))) == ((shr .u8 (List.getD (sub s (31 : Nat) (1 : Nat)) (0 : Nat) 0) (7 : Int)) == (1 : Int)))
            · exact (ptOpen_w2_body0 s (h.vals 0 _ _ _ rfl) hb0 hb1 hb2 hb3 hb4 w).mono fun _ _ hx => hx.trans (by rw [(show (ptOpen s) = (ptOpen_w2 s) from ((cond_t hb0).trans ((cond_t hb1).trans ((cond_t hb2).trans ((cond_f hb3).trans (cond_f hb4)))))), (show (ptOpen_1 s) = true from ((cond_t hb0).trans ((cond_t hb1).trans ((cond_t hb2).trans (cond_f hb3)))))])
            · exact (ptOpen_w1_body0 s (h.vals 0 _ _ _ rfl) hb0 hb1 hb2 hb3 hb4 w).mono fun _ _ hx => hx.trans (by rw [(show (ptOpen s) = (ptOpen_w1 s) from ((cond_t hb0).trans ((cond_t hb1).trans ((cond_t hb2).trans ((cond_f hb3).trans (cond_t hb4)))))), (show (ptOpen_1 s) = true from ((cond_t hb0).trans ((cond_t hb1).trans ((cond_t hb2).trans (cond_f hb3)))))])
          · exact (ptOpen_w0_body0 s (h.vals 0 _ _ _ rfl) hb0 hb1 hb2 hb3 w).mono fun _ _ hx => hx.trans (by rw [(show (ptOpen s) = ([0, 0, 0, 0, 0, 0, 0, 0, 0, 0, 0, 0, 0, 0, 0, 0, 0, 0, 0, 0] : List Int) from ((cond_t hb0).trans ((cond_t hb1).trans ((cond_t hb2).trans (cond_t hb3))))), (show (ptOpen_1 s) = false from ((cond_t hb0).trans ((cond_t hb1).trans ((cond_t hb2).trans (cond_t hb3)))))])

theorem ptOpen_pure (s : List Int) : PureC Try.prog 44 [.g [.ints .u8 (32 : Nat) s]] [.g [.ints .u64 (20 : Nat) (ptOpen s)], .a (.b (ptOpen_1 s))] :=
  PureC.of_body tabOkVI Try.func44 rfl rfl fun w => ptOpen_body s w

def gam27 : Gam := gpure 44 (fun args => match args with | [.o (.g [.ints .u8 (32 : Nat) s])] => some (none, [.g [.ints .u64 (20 : Nat) (ptOpen s)], .a (.b (ptOpen_1 s))]) | _ => none) gam26
theorem gam27_ok : GamOk Try.prog gam27 := gpure_ok gam26_ok Try.call44 (by
  intro args vc xs h hv
  split at h
  · simp only [Option.some.injEq, Prod.mk.injEq] at h; obtain ⟨rfl, rfl⟩ := h; exact ⟨_, by rfl, ptOpen_pure _⟩
  · simp at h)

set_option maxHeartbeats 1000000 in
theorem ordL_body0 (w : World) : Body Try.prog (tabOf tabVI) Try.f87 ⟨w, [], 0, noEnv⟩ (toA []) [] (fun ys _ => ys = [.g [.ints .u8 (32 : Nat) ([237, 211, 245, 92, 26, 99, 18, 88, 214, 156, 247, 162, 222, 249, 222, 20, 0, 0, 0, 0, 0, 0, 0, 0, 0, 0, 0, 0, 0, 0, 0, 16] : List Int)]]) :=
  Body.of_fin (Γ := gam27) (Λ := noLam) (Ψ := noPsi) (fuel := 0) (m := 2) (c := (Try.f87.body.getD .skip)) mix tabOkVI gam27_ok rfl (rs := [.cell 0 37]) rfl rfl [] []
    (vc := []) (by kernel_rfl)
    (AllP_nil)

theorem ordL_body (w : World) : Body Try.prog (tabOf tabVI) Try.f87 ⟨w, [], 0, noEnv⟩ (toA []) [] (fun ys _ => ys = [.g [.ints .u8 (32 : Nat) ([237, 211, 245, 92, 26, 99, 18, 88, 214, 156, 247, 162, 222, 249, 222, 20, 0, 0, 0, 0, 0, 0, 0, 0, 0, 0, 0, 0, 0, 0, 0, 16] : List Int)]]) :=
  Body.lens (c := (Try.f87.body.getD .skip)) rfl fun h => ordL_body0  w

theorem ordL_pure : PureC Try.prog 87 [] [.g [.ints .u8 (32 : Nat) ([237, 211, 245, 92, 26, 99, 18, 88, 214, 156, 247, 162, 222, 249, 222, 20, 0, 0, 0, 0, 0, 0, 0, 0, 0, 0, 0, 0, 0, 0, 0, 16] : List Int)]] :=
  PureC.of_body tabOkVI Try.func87 rfl rfl fun w => ordL_body w

def gam28 : Gam := gpure 87 (fun args => match args with | [] => some (none, [.g [.ints .u8 (32 : Nat) ([237, 211, 245, 92, 26, 99, 18, 88, 214, 156, 247, 162, 222, 249, 222, 20, 0, 0, 0, 0, 0, 0, 0, 0, 0, 0, 0, 0, 0, 0, 0, 16] : List Int)]]) | _ => none) gam27
theorem gam28_ok : GamOk Try.prog gam28 := gpure_ok gam27_ok Try.call87 (by
  intro args vc xs h hv
  split at h
  · simp only [Option.some.injEq, Prod.mk.injEq] at h; obtain ⟨rfl, rfl⟩ := h; exact ⟨_, by rfl, ordL_pure⟩
  · simp at h)

def ptIsId_w0 (p : List Int) : Bool :=
  (feSame (sub p (5 : Nat) (5 : Nat)) (sub p (10 : Nat) (5 : Nat)))

set_option maxHeartbeats 1000000 in
theorem ptIsId_w0_body0 (p : List Int) (hv0 : List.length p = (20 : Nat)) (hb0 : (feSame (sub p (0 : Nat) (5 : Nat)) ([0, 0, 0, 0, 0] : List Int)) = true) (w : World) : Body Try.prog (tabOf tabVI) Try.f88 ⟨w, [], 0, noEnv⟩ (toA [.g [.ints .u64 (20 : Nat) p]]) [] (fun ys _ => ys = [.a (.b (ptIsId_w0 p))]) :=
  Body.of_fin (Γ := gam28) (Λ := noLam) (Ψ := noPsi) (fuel := 0) (m := 14) (c := (Try.f88.body.getD .skip)) mix tabOkVI gam28_ok rfl (rs := [.tmp 2]) rfl rfl [true, true, true, true, true, true] []
    (vc := [((feSame (sub p (0 : Nat) (5 : Nat)) ([0, 0, 0, 0, 0] : List Int)) = true), ((feSame (sub p (0 : Nat) (5 : Nat)) ([0, 0, 0, 0, 0] : List Int)) = true), ((feSame (sub p (0 : Nat) (5 : Nat)) ([0, 0, 0, 0, 0] : List Int)) = true), ((feSame (sub p (0 : Nat) (5 : Nat)) ([0, 0, 0, 0, 0] : List Int)) = true), ((feSame (sub p (0 : Nat) (5 : Nat)) ([0, 0, 0, 0, 0] : List Int)) = true), ((feSame (sub p (0 : Nat) (5 : Nat)) ([0, 0, 0, 0, 0] : List Int)) = true)]) (by kernel_rfl)
    (AllP_cons hb0 (AllP_cons hb0 (AllP_cons hb0 (AllP_cons hb0 (AllP_cons hb0 (AllP_cons hb0 (AllP_nil)))))))

set_option maxHeartbeats 1000000 in
theorem ptIsId_w1_body0 (p : List Int) (hv0 : List.length p = (20 : Nat)) (hb0 : (feSame (sub p (0 : Nat) (5 : Nat)) ([0, 0, 0, 0, 0] : List Int)) = false) (w : World) : Body Try.prog (tabOf tabVI) Try.f88 ⟨w, [], 0, noEnv⟩ (toA [.g [.ints .u64 (20 : Nat) p]]) [] (fun ys _ => ys = [.a (.b false)]) :=
  Body.of_fin (Γ := gam28) (Λ := noLam) (Ψ := noPsi) (fuel := 0) (m := 14) (c := (Try.f88.body.getD .skip)) mix tabOkVI gam28_ok rfl (rs := [.tmp 2]) rfl rfl [false, false, false, false, false, false] []
    (vc := [((feSame (sub p (0 : Nat) (5 : Nat)) ([0, 0, 0, 0, 0] : List Int)) = false), ((feSame (sub p (0 : Nat) (5 : Nat)) ([0, 0, 0, 0, 0] : List Int)) = false), ((feSame (sub p (0 : Nat) (5 : Nat)) ([0, 0, 0, 0, 0] : List Int)) = false), ((feSame (sub p (0 : Nat) (5 : Nat)) ([0, 0, 0, 0, 0] : List Int)) = false), ((feSame (sub p (0 : Nat) (5 : Nat)) ([0, 0, 0, 0, 0] : List Int)) = false), ((feSame (sub p (0 : Nat) (5 : Nat)) ([0, 0, 0, 0, 0] : List Int)) = false)]) (by kernel_rfl)
    (AllP_cons hb0 (AllP_cons hb0 (AllP_cons hb0 (AllP_cons hb0 (AllP_cons hb0 (AllP_cons hb0 (AllP_nil)))))))

def ptIsId (p : List Int) : Bool :=
  (cond (feSame (sub p (0 : Nat) (5 : Nat)) ([0, 0, 0, 0, 0] : List Int)) (ptIsId_w0 p) false)

set_option maxHeartbeats 1000000 in
theorem ptIsId_body (p : List Int) (w : World) : Body Try.prog (tabOf tabVI) Try.f88 ⟨w, [], 0, noEnv⟩ (toA [.g [.ints .u64 (20 : Nat) p]]) [] (fun ys _ => ys = [.a (.b (ptIsId p))]) :=
  Body.lens (c := (Try.f88.body.getD .skip)) rfl fun h => by
    cases hb0 : (feSame (sub p (0 : Nat) (5 : Nat)) ([0, 0, 0, 0, 0] : List Int))
    · exact (ptIsId_w1_body0 p (h.vals 0 _ _ _ rfl) hb0 w).mono fun _ _ hx => hx.trans (by rw [(show (ptIsId p) = false from (cond_f hb0))])
    · exact (ptIsId_w0_body0 p (h.vals 0 _ _ _ rfl) hb0 w).mono fun _ _ hx => hx.trans (by rw [(show (ptIsId p) = (ptIsId_w0 p) from (cond_t hb0))])

theorem ptIsId_pure (p : List Int) : PureC Try.prog 88 [.g [.ints .u64 (20 : Nat) p]] [.a (.b (ptIsId p))] :=
  PureC.of_body tabOkVI Try.func88 rfl rfl fun w => ptIsId_body p w

def gam29 : Gam := gpure 88 (fun args => match args with | [.o (.g [.ints .u64 (20 : Nat) p])] => some (none, [.a (.b (ptIsId p))]) | _ => none) gam28
theorem gam29_ok : GamOk Try.prog gam29 := gpure_ok gam28_ok Try.call88 (by
  intro args vc xs h hv
  split at h
  · simp only [Option.some.injEq, Prod.mk.injEq] at h; obtain ⟨rfl, rfl⟩ := h; exact ⟨_, by rfl, ptIsId_pure _⟩
  · simp at h)

def ptT : List Int :=
  (ptOpen ([38, 232, 149, 143, 194, 178, 39, 176, 69, 195, 244, 137, 242, 239, 152, 240, 213, 223, 172, 5, 211, 198, 51, 57, 177, 56, 2, 136, 109, 83, 252, 5] : List Int))

set_option maxHeartbeats 1000000 in
theorem ptT_body0 (w : World) : Body Try.prog (tabOf tabVI) Try.f60 ⟨w, [], 0, noEnv⟩ (toA []) [] (fun ys _ => ys = [.g [.ints .u64 (20 : Nat) (ptT)]]) :=
  Body.of_fin (Γ := gam29) (Λ := noLam) (Ψ := noPsi) (fuel := 0) (m := 9) (c := (Try.f60.body.getD .skip)) mix tabOkVI gam29_ok rfl (rs := [.cell 0 94]) rfl rfl [] []
    (vc := []) (by kernel_rfl)
    (AllP_nil)

theorem ptT_body (w : World) : Body Try.prog (tabOf tabVI) Try.f60 ⟨w, [], 0, noEnv⟩ (toA []) [] (fun ys _ => ys = [.g [.ints .u64 (20 : Nat) (ptT)]]) :=
  Body.lens (c := (Try.f60.body.getD .skip)) rfl fun h => ptT_body0  w

theorem ptT_pure : PureC Try.prog 60 [] [.g [.ints .u64 (20 : Nat) (ptT)]] :=
  PureC.of_body tabOkVI Try.func60 rfl rfl fun w => ptT_body w

def gam30 : Gam := gpure 60 (fun args => match args with | [] => some (none, [.g [.ints .u64 (20 : Nat) (ptT)]]) | _ => none) gam29
theorem gam30_ok : GamOk Try.prog gam30 := gpure_ok gam29_ok Try.call60 (by
  intro args vc xs h hv
  split at h
  · simp only [Option.some.injEq, Prod.mk.injEq] at h; obtain ⟨rfl, rfl⟩ := h; exact ⟨_, by rfl, ptT_pure⟩
  · simp at h)

end Go.Proofs.Ytodiojpakfjehaa.X

/- Multiples of a point by nibbles: what the loop holds. -/
namespace Go.Proofs.Ytodiojpakfjehaa.X
open Go Go.Proofs
set_option linter.unusedVariables false
set_option maxRecDepth 100000

theorem td2 {k : Nat} (h : k < 64) : IntKind.i64.wrap (Int.tdiv ((63 : Int) - (k : Nat)) 2) = (((63 - k) / 2 : Nat) : Int) := by
  rw [Int.tdiv_eq_ediv_of_nonneg (by omega), wrapI (by omega) (by omega)]; omega
theorem tm2 {k : Nat} (h : k < 64) : Int.tmod ((63 : Int) - (k : Nat)) 2 = (((63 - k) % 2 : Nat) : Int) := by
  rw [Int.tmod_eq_emod_of_nonneg (by omega)]; omega
theorem and15 (x : Int) : bits2 .and .u8 x 15 = x % 16 := by
  have e : bits2 .and .u8 x 15 = IntKind.u8.wrap (((BitVec.ofInt 8 x &&& BitVec.ofInt 8 15).toNat : Nat) : Int) := rfl
  have t2 : (BitVec.ofInt 8 15).toNat = 2 ^ 4 - 1 := by rfl
  rw [e, BitVec.toNat_and, t2, Nat.and_two_pow_sub_one_eq_mod, BitVec.toNat_ofInt, wrap8]
  show (((x % 256).toNat % 2 ^ 4 : Nat) : Int) % 256 = x % 16
  omega
end Go.Proofs.Ytodiojpakfjehaa.X

/- Printed by a tool of this session. -/
namespace Go.Proofs.Ytodiojpakfjehaa.X
open Go Go.Proofs
set_option linter.unusedVariables false
set_option linter.unusedSimpArgs false
set_option maxRecDepth 100000
theorem teVK_5 : TEOk Try.prog 5 ⟨.int .u8, 1, 1, [.i .u8 (0 : Int)], false⟩ :=
  TEOk.of Try.underlying5 (i := Try.t5) (by kernel_rfl) rfl rfl rfl (by kernel_rfl) (fun h => by cases h) (by kernel_rfl)
theorem teVK_37 : TEOk Try.prog 37 ⟨.array 32 5, 32, 32, [.ints .u8 (32 : Nat) ([0, 0, 0, 0, 0, 0, 0, 0, 0, 0, 0, 0, 0, 0, 0, 0, 0, 0, 0, 0, 0, 0, 0, 0, 0, 0, 0, 0, 0, 0, 0, 0] : List Int)], true⟩ :=
  TEOk.of Try.underlying37 (i := Try.t37) (by kernel_rfl) rfl rfl rfl (by kernel_rfl) (fun _ => Try.eqGuardType37) (by kernel_rfl)
theorem teVK_94 : TEOk Try.prog 94 ⟨Try.t93.desc, 20, 160, [.ints .u64 (20 : Nat) ([0, 0, 0, 0, 0, 0, 0, 0, 0, 0, 0, 0, 0, 0, 0, 0, 0, 0, 0, 0] : List Int)], false⟩ :=
  TEOk.of Try.underlying94 (i := Try.t94) (by kernel_rfl) rfl rfl rfl (by kernel_rfl) (fun h => by cases h) (by kernel_rfl)
theorem teVK_121 : TEOk Try.prog 121 ⟨.array 16 94, 320, 2560, [.ints .u64 (320 : Nat) (List.replicate (320 : Nat) (0 : Int))], false⟩ :=
  TEOk.of Try.underlying121 (i := Try.t121) (by kernel_rfl) rfl rfl rfl (by kernel_rfl) (fun h => by cases h) (by kernel_rfl)
noncomputable def tabVK : List (Nat × TE) := [(5, ⟨.int .u8, 1, 1, [.i .u8 (0 : Int)], false⟩), (37, ⟨.array 32 5, 32, 32, [.ints .u8 (32 : Nat) ([0, 0, 0, 0, 0, 0, 0, 0, 0, 0, 0, 0, 0, 0, 0, 0, 0, 0, 0, 0, 0, 0, 0, 0, 0, 0, 0, 0, 0, 0, 0, 0] : List Int)], true⟩), (94, ⟨Try.t93.desc, 20, 160, [.ints .u64 (20 : Nat) ([0, 0, 0, 0, 0, 0, 0, 0, 0, 0, 0, 0, 0, 0, 0, 0, 0, 0, 0, 0] : List Int)], false⟩), (121, ⟨.array 16 94, 320, 2560, [.ints .u64 (320 : Nat) (List.replicate (320 : Nat) (0 : Int))], false⟩)]
theorem tabOkVK : TabOk Try.prog (tabOf tabVK) := (tabOf_cons teVK_5 (tabOf_cons teVK_37 (tabOf_cons teVK_94 (tabOf_cons teVK_121 tabOf_nil))))

def nibV (K : List Int) (k : Nat) : Int :=
  (bits2 .and .u8 (shr .u8 (List.getD K (Int.toNat (IntKind.i64.wrap (Int.tdiv ((63 : Int) - ((k : Nat) : Int)) (2 : Int)))) 0) (IntKind.i64.wrap ((4 : Int) * (Int.tmod ((63 : Int) - ((k : Nat) : Int)) (2 : Int))))) (15 : Int))

theorem nibV_rng (K : List Int) (k : Nat) : 0 ≤ nibV K k ∧ nibV K k < 16 := by
  unfold nibV; rw [and15]; omega
def tmS (T : List Int) (K : List Int) : Nat → List Int
  | 0 => ptId
  | k + 1 => if nibV K k > 0 then ptAdd (ptDbl (ptDbl (ptDbl (ptDbl (tmS T K k))))) (sub T ((Int.toNat (nibV K k)) * (20 : Nat)) (20 : Nat)) else ptDbl (ptDbl (ptDbl (ptDbl (tmS T K k))))
theorem tmS_a {T K : List Int} {k : Nat} (h : nibV K k > 0) : tmS T K (k + (1 : Nat)) = ptAdd (ptDbl (ptDbl (ptDbl (ptDbl (tmS T K k))))) (sub T ((Int.toNat (nibV K k)) * (20 : Nat)) (20 : Nat)) := if_pos h
theorem tmS_b {T K : List Int} {k : Nat} (h : ¬ nibV K k > 0) : tmS T K (k + (1 : Nat)) = ptDbl (ptDbl (ptDbl (ptDbl (tmS T K k)))) := if_neg h

def tmTab_mk (p : List Int) (K : List Int) (k : Nat) (s : (List Int)) : St := ⟨sparse 51 [(0, .o (.g [.ints .u64 (20 : Nat) p])), (1, .o (.g [.ints .u8 (32 : Nat) K])), (2, .o (.a (.p 0 0))), (3, .o (.a (.p 1 0))), (4, .o (.a (.p 2 0))), (5, .o (.a (.p 3 0))), (10, .o (.g [.ints .u64 (20 : Nat) (ptId)])), (11, .o (.a (.p 3 0))), (12, .o (.a (.i .i64 ((k : Nat) : Int))))], [some ⟨true, [.ints .u64 (20 : Nat) p]⟩, some ⟨true, [.ints .u8 (32 : Nat) K]⟩, some ⟨true, [.ints .u64 (20 : Nat) ([0, 0, 0, 0, 0, 0, 0, 0, 0, 0, 0, 0, 0, 0, 0, 0, 0, 0, 0, 0] : List Int)]⟩, some ⟨true, [.ints .u64 (320 : Nat) s]⟩]⟩

def tmTab_step (p : List Int) (k : Nat) (s : (List Int)) : (List Int) :=
  ((splice s ((Int.toNat (IntKind.i64.wrap (((k : Nat) : Int) + (1 : Int)))) * (20 : Nat)) (20 : Nat) (ptAdd (sub s (k * (20 : Nat)) (20 : Nat)) p)))

set_option maxHeartbeats 1000000 in
theorem tmTab_round (p : List Int) (K : List Int) (hv0 : List.length p = (20 : Nat)) (hv1 : List.length K = (32 : Nat)) (w : World) (k : Nat) (hk : k < (15 : Nat)) (s : (List Int)) : Run Try.prog ⟨w, [], 0, noEnv⟩ (loopB Try.f58 0) (tmTab_mk p K k s) (To ⟨w, [], 0, noEnv⟩ .normal (tmTab_mk p K (k + 1) (tmTab_step p k s))) := by
  have e0 : (IntKind.i64.wrap (((k : Nat) : Int) + (1 : Int))) = (((k + (1 : Nat)) : Nat) : Int) := (by first | rfl | exact wrap_succ (by omega) | omega | (simp (disch := omega) only [wrapI]; omega))
  have h := Run.of_outT (B := ⟨w, [], 0, noEnv⟩) (Λ := noLam) (Ψ := noPsi) (fuel := 0) (ora := [true]) (c := (loopB Try.f58 0)) (st := (tmTab_mk p K k s)) (l := [.forget [0, 1, 2, 3, 4, 5, 10, 11, 12] 4]) (s' := ⟨sparse 51 [(0, .o (.g [.ints .u64 (20 : Nat) p])), (1, .o (.g [.ints .u8 (32 : Nat) K])), (2, .o (.a (.p 0 0))), (3, .o (.a (.p 1 0))), (4, .o (.a (.p 2 0))), (5, .o (.a (.p 3 0))), (10, .o (.g [.ints .u64 (20 : Nat) (ptId)])), (11, .o (.a (.p 3 0))), (12, .o (.a (.i .i64 (IntKind.i64.wrap (((k : Nat) : Int) + (1 : Int))))))], [some ⟨true, [.ints .u64 (20 : Nat) p]⟩, some ⟨true, [.ints .u8 (32 : Nat) K]⟩, some ⟨true, [.ints .u64 (20 : Nat) ([0, 0, 0, 0, 0, 0, 0, 0, 0, 0, 0, 0, 0, 0, 0, 0, 0, 0, 0, 0] : List Int)]⟩, some ⟨true, [.ints .u64 (320 : Nat) (tmTab_step p k s)]⟩]⟩) (ex := .normal) mix tabOkVK gam30_ok
    (vc := [((((Int.toNat (IntKind.i64.wrap (((k : Nat) : Int) + (1 : Int)))) * (20 : Nat)) + (20 : Nat)) ≤ (320 : Nat)), (((0 : Int) ≤ (IntKind.i64.wrap (((k : Nat) : Int) + (1 : Int)))) ∧ ((IntKind.i64.wrap (((k : Nat) : Int) + (1 : Int))) < (16 : Int))), (((k * (20 : Nat)) + (20 : Nat)) ≤ (320 : Nat)), (((0 : Int) ≤ ((k : Nat) : Int)) ∧ (((k : Nat) : Int) < (16 : Int))), ((decide (((k : Nat) : Int) < (15 : Int))) = true)]) (by kernel_rfl)
    (AllP_cons (by first | omega | (simp (disch := omega) only [wrapI]; omega)) (AllP_cons ⟨(by first | omega | (simp (disch := omega) only [wrapI]; omega)), (by first | omega | (simp (disch := omega) only [wrapI]; omega))⟩ (AllP_cons (by first | omega | (simp (disch := omega) only [wrapI]; omega)) (AllP_cons ⟨(by first | omega | (simp (disch := omega) only [wrapI]; omega)), (by first | omega | (simp (disch := omega) only [wrapI]; omega))⟩ (AllP_cons (decide_eq_true (by first | omega | (simp (disch := omega) only [wrapI]; omega))) (AllP_nil))))))
  rw [e0] at h
  exact h

set_option maxHeartbeats 1000000 in
theorem tmTab_last (p : List Int) (K : List Int) (hv0 : List.length p = (20 : Nat)) (hv1 : List.length K = (32 : Nat)) (w : World) (s : (List Int)) : Run Try.prog ⟨w, [], 0, noEnv⟩ (loopB Try.f58 0) (tmTab_mk p K (15 : Nat) s) (To ⟨w, [], 0, noEnv⟩ (.exit 0) (tmTab_mk p K (15 : Nat) s)) :=
  Run.of_outT (B := ⟨w, [], 0, noEnv⟩) (Λ := noLam) (Ψ := noPsi) (fuel := 0) (ora := [false]) (l := [.forget [0, 1, 2, 3, 4, 5, 10, 11, 12] 4]) mix tabOkVK gam30_ok
    (vc := [(false = false)]) (by kernel_rfl)
    (AllP_cons rfl (AllP_nil))

theorem tmTab_loop (p : List Int) (K : List Int) (hv0 : List.length p = (20 : Nat)) (hv1 : List.length K = (32 : Nat)) (w : World) (s : (List Int)) : Run Try.prog ⟨w, [], 0, noEnv⟩ (.block 0 (.loop (loopB Try.f58 0))) (tmTab_mk p K 0 s) (To ⟨w, [], 0, noEnv⟩ .normal (tmTab_mk p K (15 : Nat) (iter (tmTab_step p) (15 : Nat) s))) :=
  Run.count (fun k => tmTab_mk p K k (iter (tmTab_step p) k s)) (15 : Nat) (fun k hk => tmTab_round p K hv0 hv1 w k hk _) (ex := (.exit 0)) (by simp) (tmTab_last p K hv0 hv1 w _)

def tmTab_out0 (p : List Int) (i0 : List Int) : List Int := (iter (tmTab_step p) (15 : Nat) (i0))

def tmMain_mk (p : List Int) (K : List Int) (k : Nat) (s : Unit) : St := ⟨sparse 51 [(0, .o (.g [.ints .u64 (20 : Nat) p])), (1, .o (.g [.ints .u8 (32 : Nat) K])), (2, .o (.a (.p 0 0))), (3, .o (.a (.p 1 0))), (4, .o (.a (.p 2 0))), (5, .o (.a (.p 3 0))), (7, .o (.a (.p 4 0))), (8, .o (.a (.i .i64 ((63 : Int) - ((k : Nat) : Int))))), (10, .o (.g [.ints .u64 (20 : Nat) (ptId)])), (11, .o (.a (.p 3 0))), (12, .o (.a (.i .i64 (15 : Int)))), (24, .o (.g [.ints .u64 (20 : Nat) (ptId)]))], [some ⟨true, [.ints .u64 (20 : Nat) p]⟩, some ⟨true, [.ints .u8 (32 : Nat) K]⟩, some ⟨true, [.ints .u64 (20 : Nat) ([0, 0, 0, 0, 0, 0, 0, 0, 0, 0, 0, 0, 0, 0, 0, 0, 0, 0, 0, 0] : List Int)]⟩, some ⟨true, [.ints .u64 (320 : Nat) (tmTab_out0 p (splice (List.replicate (320 : Nat) (0 : Int)) (0 : Nat) (20 : Nat) (ptId)))]⟩, some ⟨true, [.ints .u64 (20 : Nat) (tmS (tmTab_out0 p (splice (List.replicate (320 : Nat) (0 : Int)) (0 : Nat) (20 : Nat) (ptId))) K k)]⟩]⟩

def tmMain_step (k : Nat) (s : Unit) : Unit :=
  ()

set_option maxHeartbeats 1000000 in
theorem tmMain_round_0 (p : List Int) (K : List Int) (hv0 : List.length p = (20 : Nat)) (hv1 : List.length K = (32 : Nat)) (w : World) (k : Nat) (hk : k < (64 : Nat)) (s : Unit) (ha : nibV K k > 0) : Run Try.prog ⟨w, [], 0, noEnv⟩ (loopB Try.f58 2) (tmMain_mk p K k s) (To ⟨w, [], 0, noEnv⟩ .normal (tmMain_mk p K (k + 1) (tmMain_step k s))) := by
  have e0 : (ptAdd (ptDbl (ptDbl (ptDbl (ptDbl (tmS (tmTab_out0 p (splice (List.replicate (320 : Nat) (0 : Int)) (0 : Nat) (20 : Nat) (ptId))) K k))))) (sub (tmTab_out0 p (splice (List.replicate (320 : Nat) (0 : Int)) (0 : Nat) (20 : Nat) (ptId))) ((Int.toNat (nibV K k)) * (20 : Nat)) (20 : Nat))) = (tmS (tmTab_out0 p (splice (List.replicate (320 : Nat) (0 : Int)) (0 : Nat) (20 : Nat) (ptId))) K (k + (1 : Nat))) := (by first | (rw [wrapI (by omega) (by omega)]; omega) | exact (tmS_a ha).symm)
  have e1 : (IntKind.i64.wrap (((63 : Int) - ((k : Nat) : Int)) - (1 : Int))) = ((63 : Int) - (((k + (1 : Nat)) : Nat) : Int)) := (by first | (rw [wrapI (by omega) (by omega)]; omega) | exact (tmS_a ha).symm)
  have h := Run.of_outT (B := ⟨w, [], 0, noEnv⟩) (Λ := noLam) (Ψ := psiOf [(16, [.eqS 9 (.o (.a (.i .u8 (nibV K k))))])]) (fuel := 5) (ora := [true, true, true, true, true, false, true]) (c := (loopB Try.f58 2)) (st := (tmMain_mk p K k s)) (l := [.forget [0, 1, 2, 3, 4, 5, 7, 8, 10, 11, 12, 24] 5]) (s' := ⟨sparse 51 [(0, .o (.g [.ints .u64 (20 : Nat) p])), (1, .o (.g [.ints .u8 (32 : Nat) K])), (2, .o (.a (.p 0 0))), (3, .o (.a (.p 1 0))), (4, .o (.a (.p 2 0))), (5, .o (.a (.p 3 0))), (7, .o (.a (.p 4 0))), (8, .o (.a (.i .i64 (IntKind.i64.wrap (((63 : Int) - ((k : Nat) : Int)) - (1 : Int)))))), (10, .o (.g [.ints .u64 (20 : Nat) (ptId)])), (11, .o (.a (.p 3 0))), (12, .o (.a (.i .i64 (15 : Int)))), (24, .o (.g [.ints .u64 (20 : Nat) (ptId)]))], [some ⟨true, [.ints .u64 (20 : Nat) p]⟩, some ⟨true, [.ints .u8 (32 : Nat) K]⟩, some ⟨true, [.ints .u64 (20 : Nat) ([0, 0, 0, 0, 0, 0, 0, 0, 0, 0, 0, 0, 0, 0, 0, 0, 0, 0, 0, 0] : List Int)]⟩, some ⟨true, [.ints .u64 (320 : Nat) (tmTab_out0 p (splice (List.replicate (320 : Nat) (0 : Int)) (0 : Nat) (20 : Nat) (ptId)))]⟩, some ⟨true, [.ints .u64 (20 : Nat) (ptAdd (ptDbl (ptDbl (ptDbl (ptDbl (tmS (tmTab_out0 p (splice (List.replicate (320 : Nat) (0 : Int)) (0 : Nat) (20 : Nat) (ptId))) K k))))) (sub (tmTab_out0 p (splice (List.replicate (320 : Nat) (0 : Int)) (0 : Nat) (20 : Nat) (ptId))) ((Int.toNat (nibV K k)) * (20 : Nat)) (20 : Nat)))]⟩]⟩) (ex := .normal) mix tabOkVK gam30_ok
    (vc := [((((Int.toNat (nibV K k)) * (20 : Nat)) + (20 : Nat)) ≤ (320 : Nat)), (((0 : Int) ≤ (nibV K k)) ∧ ((nibV K k) < (16 : Int))), ((decide ((nibV K k) > (0 : Int))) = true), ((.o (.a (.i .u8 (bits2 .and .u8 (shr .u8 (List.getD K (Int.toNat (IntKind.i64.wrap (Int.tdiv ((63 : Int) - ((k : Nat) : Int)) (2 : Int)))) 0) (IntKind.i64.wrap ((4 : Int) * (Int.tmod ((63 : Int) - ((k : Nat) : Int)) (2 : Int))))) (15 : Int)))) : AV) = .o (.a (.i .u8 (nibV K k)))), ((0 : Int) ≤ (IntKind.i64.wrap ((4 : Int) * (Int.tmod ((63 : Int) - ((k : Nat) : Int)) (2 : Int))))), ((2 : Int) ≠ 0), ((Int.toNat (IntKind.i64.wrap (Int.tdiv ((63 : Int) - ((k : Nat) : Int)) (2 : Int)))) < (32 : Nat)), (((0 : Int) ≤ (IntKind.i64.wrap (Int.tdiv ((63 : Int) - ((k : Nat) : Int)) (2 : Int)))) ∧ ((IntKind.i64.wrap (Int.tdiv ((63 : Int) - ((k : Nat) : Int)) (2 : Int))) < (32 : Int))), ((2 : Int) ≠ 0), (false = false), (true = true), (true = true), (true = true), (true = true), ((decide (((63 : Int) - ((k : Nat) : Int)) ≥ (0 : Int))) = true)]) (by kernel_rfl)
    (AllP_cons (by have q1 := td2 hk; have q2 := tm2 hk; have q3 := nibV_rng K k; first | omega | (rw [td2 hk]; omega) | (rw [tm2 hk]; omega) | (rw [tm2 hk, wrapI (by omega) (by omega)]; omega)) (AllP_cons ⟨(by have q1 := td2 hk; have q2 := tm2 hk; have q3 := nibV_rng K k; first | omega | (rw [td2 hk]; omega) | (rw [tm2 hk]; omega) | (rw [tm2 hk, wrapI (by omega) (by omega)]; omega)), (by have q1 := td2 hk; have q2 := tm2 hk; have q3 := nibV_rng K k; first | omega | (rw [td2 hk]; omega) | (rw [tm2 hk]; omega) | (rw [tm2 hk, wrapI (by omega) (by omega)]; omega))⟩ (AllP_cons (decide_eq_true ha) (AllP_cons (rfl) (AllP_cons (by have q1 := td2 hk; have q2 := tm2 hk; have q3 := nibV_rng K k; first | omega | (rw [td2 hk]; omega) | (rw [tm2 hk]; omega) | (rw [tm2 hk, wrapI (by omega) (by omega)]; omega)) (AllP_cons (by decide) (AllP_cons (by have q1 := td2 hk; have q2 := tm2 hk; have q3 := nibV_rng K k; first | omega | (rw [td2 hk]; omega) | (rw [tm2 hk]; omega) | (rw [tm2 hk, wrapI (by omega) (by omega)]; omega)) (AllP_cons ⟨(by have q1 := td2 hk; have q2 := tm2 hk; have q3 := nibV_rng K k; first | omega | (rw [td2 hk]; omega) | (rw [tm2 hk]; omega) | (rw [tm2 hk, wrapI (by omega) (by omega)]; omega)), (by have q1 := td2 hk; have q2 := tm2 hk; have q3 := nibV_rng K k; first | omega | (rw [td2 hk]; omega) | (rw [tm2 hk]; omega) | (rw [tm2 hk, wrapI (by omega) (by omega)]; omega))⟩ (AllP_cons (by decide) (AllP_cons rfl (AllP_cons rfl (AllP_cons rfl (AllP_cons rfl (AllP_cons rfl (AllP_cons (decide_eq_true (by have q1 := td2 hk; have q2 := tm2 hk; have q3 := nibV_rng K k; first | omega | (rw [td2 hk]; omega) | (rw [tm2 hk]; omega) | (rw [tm2 hk, wrapI (by omega) (by omega)]; omega))) (AllP_nil))))))))))))))))
  rw [e0, e1] at h
  exact h

set_option maxHeartbeats 1000000 in
theorem tmMain_round_1 (p : List Int) (K : List Int) (hv0 : List.length p = (20 : Nat)) (hv1 : List.length K = (32 : Nat)) (w : World) (k : Nat) (hk : k < (64 : Nat)) (s : Unit) (ha : ¬ nibV K k > 0) : Run Try.prog ⟨w, [], 0, noEnv⟩ (loopB Try.f58 2) (tmMain_mk p K k s) (To ⟨w, [], 0, noEnv⟩ .normal (tmMain_mk p K (k + 1) (tmMain_step k s))) := by
  have e0 : (ptDbl (ptDbl (ptDbl (ptDbl (tmS (tmTab_out0 p (splice (List.replicate (320 : Nat) (0 : Int)) (0 : Nat) (20 : Nat) (ptId))) K k))))) = (tmS (tmTab_out0 p (splice (List.replicate (320 : Nat) (0 : Int)) (0 : Nat) (20 : Nat) (ptId))) K (k + (1 : Nat))) := (by first | (rw [wrapI (by omega) (by omega)]; omega) | exact (tmS_b ha).symm)
  have e1 : (IntKind.i64.wrap (((63 : Int) - ((k : Nat) : Int)) - (1 : Int))) = ((63 : Int) - (((k + (1 : Nat)) : Nat) : Int)) := (by first | (rw [wrapI (by omega) (by omega)]; omega) | exact (tmS_b ha).symm)
  have h := Run.of_outT (B := ⟨w, [], 0, noEnv⟩) (Λ := noLam) (Ψ := psiOf [(16, [.eqS 9 (.o (.a (.i .u8 (nibV K k))))])]) (fuel := 5) (ora := [true, true, true, true, true, false, false]) (c := (loopB Try.f58 2)) (st := (tmMain_mk p K k s)) (l := [.forget [0, 1, 2, 3, 4, 5, 7, 8, 10, 11, 12, 24] 5]) (s' := ⟨sparse 51 [(0, .o (.g [.ints .u64 (20 : Nat) p])), (1, .o (.g [.ints .u8 (32 : Nat) K])), (2, .o (.a (.p 0 0))), (3, .o (.a (.p 1 0))), (4, .o (.a (.p 2 0))), (5, .o (.a (.p 3 0))), (7, .o (.a (.p 4 0))), (8, .o (.a (.i .i64 (IntKind.i64.wrap (((63 : Int) - ((k : Nat) : Int)) - (1 : Int)))))), (10, .o (.g [.ints .u64 (20 : Nat) (ptId)])), (11, .o (.a (.p 3 0))), (12, .o (.a (.i .i64 (15 : Int)))), (24, .o (.g [.ints .u64 (20 : Nat) (ptId)]))], [some ⟨true, [.ints .u64 (20 : Nat) p]⟩, some ⟨true, [.ints .u8 (32 : Nat) K]⟩, some ⟨true, [.ints .u64 (20 : Nat) ([0, 0, 0, 0, 0, 0, 0, 0, 0, 0, 0, 0, 0, 0, 0, 0, 0, 0, 0, 0] : List Int)]⟩, some ⟨true, [.ints .u64 (320 : Nat) (tmTab_out0 p (splice (List.replicate (320 : Nat) (0 : Int)) (0 : Nat) (20 : Nat) (ptId)))]⟩, some ⟨true, [.ints .u64 (20 : Nat) (ptDbl (ptDbl (ptDbl (ptDbl (tmS (tmTab_out0 p (splice (List.replicate (320 : Nat) (0 : Int)) (0 : Nat) (20 : Nat) (ptId))) K k)))))]⟩]⟩) (ex := .normal) mix tabOkVK gam30_ok
    (vc := [((decide ((nibV K k) > (0 : Int))) = false), ((.o (.a (.i .u8 (bits2 .and .u8 (shr .u8 (List.getD K (Int.toNat (IntKind.i64.wrap (Int.tdiv ((63 : Int) - ((k : Nat) : Int)) (2 : Int)))) 0) (IntKind.i64.wrap ((4 : Int) * (Int.tmod ((63 : Int) - ((k : Nat) : Int)) (2 : Int))))) (15 : Int)))) : AV) = .o (.a (.i .u8 (nibV K k)))), ((0 : Int) ≤ (IntKind.i64.wrap ((4 : Int) * (Int.tmod ((63 : Int) - ((k : Nat) : Int)) (2 : Int))))), ((2 : Int) ≠ 0), ((Int.toNat (IntKind.i64.wrap (Int.tdiv ((63 : Int) - ((k : Nat) : Int)) (2 : Int)))) < (32 : Nat)), (((0 : Int) ≤ (IntKind.i64.wrap (Int.tdiv ((63 : Int) - ((k : Nat) : Int)) (2 : Int)))) ∧ ((IntKind.i64.wrap (Int.tdiv ((63 : Int) - ((k : Nat) : Int)) (2 : Int))) < (32 : Int))), ((2 : Int) ≠ 0), (false = false), (true = true), (true = true), (true = true), (true = true), ((decide (((63 : Int) - ((k : Nat) : Int)) ≥ (0 : Int))) = true)]) (by kernel_rfl)
    (AllP_cons (decide_eq_false ha) (AllP_cons (rfl) (AllP_cons (by have q1 := td2 hk; have q2 := tm2 hk; have q3 := nibV_rng K k; first | omega | (rw [td2 hk]; omega) | (rw [tm2 hk]; omega) | (rw [tm2 hk, wrapI (by omega) (by omega)]; omega)) (AllP_cons (by decide) (AllP_cons (by have q1 := td2 hk; have q2 := tm2 hk; have q3 := nibV_rng K k; first | omega | (rw [td2 hk]; omega) | (rw [tm2 hk]; omega) | (rw [tm2 hk, wrapI (by omega) (by omega)]; omega)) (AllP_cons ⟨(by have q1 := td2 hk; have q2 := tm2 hk; have q3 := nibV_rng K k; first | omega | (rw [td2 hk]; omega) | (rw [tm2 hk]; omega) | (rw [tm2 hk, wrapI (by omega) (by omega)]; omega)), (by have q1 := td2 hk; have q2 := tm2 hk; have q3 := nibV_rng K k; first | omega | (rw [td2 hk]; omega) | (rw [tm2 hk]; omega) | (rw [tm2 hk, wrapI (by omega) (by omega)]; omega))⟩ (AllP_cons (by decide) (AllP_cons rfl (AllP_cons rfl (AllP_cons rfl (AllP_cons rfl (AllP_cons rfl (AllP_cons (decide_eq_true (by have q1 := td2 hk; have q2 := tm2 hk; have q3 := nibV_rng K k; first | omega | (rw [td2 hk]; omega) | (rw [tm2 hk]; omega) | (rw [tm2 hk, wrapI (by omega) (by omega)]; omega))) (AllP_nil))))))))))))))
  rw [e0, e1] at h
  exact h

theorem tmMain_round (p : List Int) (K : List Int) (hv0 : List.length p = (20 : Nat)) (hv1 : List.length K = (32 : Nat)) (w : World) (k : Nat) (hk : k < (64 : Nat)) (s : Unit) : Run Try.prog ⟨w, [], 0, noEnv⟩ (loopB Try.f58 2) (tmMain_mk p K k s) (To ⟨w, [], 0, noEnv⟩ .normal (tmMain_mk p K (k + 1) (tmMain_step k s))) := by
  by_cases ha : nibV K k > 0
  · exact tmMain_round_0 p K hv0 hv1 w k hk s ha
  · exact tmMain_round_1 p K hv0 hv1 w k hk s ha

set_option maxHeartbeats 1000000 in
theorem tmMain_last (p : List Int) (K : List Int) (hv0 : List.length p = (20 : Nat)) (hv1 : List.length K = (32 : Nat)) (w : World) (s : Unit) : Run Try.prog ⟨w, [], 0, noEnv⟩ (loopB Try.f58 2) (tmMain_mk p K (64 : Nat) s) (To ⟨w, [], 0, noEnv⟩ (.exit 2) (tmMain_mk p K (64 : Nat) s)) :=
  Run.of_outT (B := ⟨w, [], 0, noEnv⟩) (Λ := noLam) (Ψ := noPsi) (fuel := 5) (ora := [false]) (l := [.forget [0, 1, 2, 3, 4, 5, 7, 8, 10, 11, 12, 24] 5]) mix tabOkVK gam30_ok
    (vc := [(false = false)]) (by kernel_rfl)
    (AllP_cons rfl (AllP_nil))

theorem tmMain_loop (p : List Int) (K : List Int) (hv0 : List.length p = (20 : Nat)) (hv1 : List.length K = (32 : Nat)) (w : World) (s : Unit) : Run Try.prog ⟨w, [], 0, noEnv⟩ (.block 2 (.loop (loopB Try.f58 2))) (tmMain_mk p K 0 s) (To ⟨w, [], 0, noEnv⟩ .normal (tmMain_mk p K (64 : Nat) (iter (tmMain_step) (64 : Nat) s))) :=
  Run.count (fun k => tmMain_mk p K k (iter (tmMain_step) k s)) (64 : Nat) (fun k hk => tmMain_round p K hv0 hv1 w k hk _) (ex := (.exit 2)) (by simp) (tmMain_last p K hv0 hv1 w _)

def ptMul (p : List Int) (K : List Int) : List Int :=
  (tmS (tmTab_out0 p (splice (List.replicate (320 : Nat) (0 : Int)) (0 : Nat) (20 : Nat) (ptId))) K (64 : Nat))

set_option maxHeartbeats 1000000 in
theorem ptMul_body0 (p : List Int) (K : List Int) (hv0 : List.length p = (20 : Nat)) (hv1 : List.length K = (32 : Nat)) (w : World) : Body Try.prog (tabOf tabVK) Try.f58 ⟨w, [], 0, noEnv⟩ (toA [.g [.ints .u64 (20 : Nat) p], .g [.ints .u8 (32 : Nat) K]]) [] (fun ys _ => ys = [.g [.ints .u64 (20 : Nat) (ptMul p K)]]) :=
  Body.of_fin (Γ := gam30) (Λ := lamOf [(0, ⟨[.forget [0, 1, 2, 3, 4, 5, 10, 11, 12] 4], .normal, (tmTab_mk p K (15 : Nat) (iter (tmTab_step p) (15 : Nat) ((splice (List.replicate (320 : Nat) (0 : Int)) (0 : Nat) (20 : Nat) (ptId)))))⟩), (2, ⟨[.eqB 4 (⟨true, [.ints .u64 (20 : Nat) (tmS (tmTab_out0 p (splice (List.replicate (320 : Nat) (0 : Int)) (0 : Nat) (20 : Nat) (ptId))) K (0 : Nat))]⟩), .forget [0, 1, 2, 3, 4, 5, 7, 8, 10, 11, 12, 24] 5], .normal, (tmMain_mk p K (64 : Nat) (iter (tmMain_step) (64 : Nat) ()))⟩)]) (Ψ := noPsi) (fuel := 0) (m := 51) (c := (Try.f58.body.getD .skip)) mix tabOkVK gam30_ok rfl (rs := [.cell 4 94]) rfl rfl [] []
    (vc := [(Run Try.prog ⟨w, [], 0, noEnv⟩ (.block 2 (.loop (loopB Try.f58 2))) (tmMain_mk p K 0 ()) (To ⟨w, [], 0, noEnv⟩ .normal (tmMain_mk p K (64 : Nat) (iter (tmMain_step) (64 : Nat) ())))), ((some ⟨true, [.ints .u64 (20 : Nat) (ptId)]⟩ : Option Blk) = some ⟨true, [.ints .u64 (20 : Nat) (tmS (tmTab_out0 p (splice (List.replicate (320 : Nat) (0 : Int)) (0 : Nat) (20 : Nat) (ptId))) K (0 : Nat))]⟩), (Run Try.prog ⟨w, [], 0, noEnv⟩ (.block 0 (.loop (loopB Try.f58 0))) (tmTab_mk p K 0 ((splice (List.replicate (320 : Nat) (0 : Int)) (0 : Nat) (20 : Nat) (ptId)))) (To ⟨w, [], 0, noEnv⟩ .normal (tmTab_mk p K (15 : Nat) (iter (tmTab_step p) (15 : Nat) ((splice (List.replicate (320 : Nat) (0 : Int)) (0 : Nat) (20 : Nat) (ptId)))))))]) (by kernel_rfl)
    (AllP_cons (tmMain_loop p K hv0 hv1 w ()) (AllP_cons (rfl) (AllP_cons (tmTab_loop p K hv0 hv1 w ((splice (List.replicate (320 : Nat) (0 : Int)) (0 : Nat) (20 : Nat) (ptId)))) (AllP_nil))))

theorem ptMul_body (p : List Int) (K : List Int) (w : World) : Body Try.prog (tabOf tabVK) Try.f58 ⟨w, [], 0, noEnv⟩ (toA [.g [.ints .u64 (20 : Nat) p], .g [.ints .u8 (32 : Nat) K]]) [] (fun ys _ => ys = [.g [.ints .u64 (20 : Nat) (ptMul p K)]]) :=
  Body.lens (c := (Try.f58.body.getD .skip)) rfl fun h => ptMul_body0 p K (h.vals 0 _ _ _ rfl) (h.vals 1 _ _ _ rfl) w

theorem ptMul_pure (p : List Int) (K : List Int) : PureC Try.prog 58 [.g [.ints .u64 (20 : Nat) p], .g [.ints .u8 (32 : Nat) K]] [.g [.ints .u64 (20 : Nat) (ptMul p K)]] :=
  PureC.of_body tabOkVK Try.func58 rfl rfl fun w => ptMul_body p K w

def gam31 : Gam := gpure 58 (fun args => match args with | [.o (.g [.ints .u64 (20 : Nat) p]), .o (.g [.ints .u8 (32 : Nat) K])] => some (none, [.g [.ints .u64 (20 : Nat) (ptMul p K)]]) | _ => none) gam30
theorem gam31_ok : GamOk Try.prog gam31 := gpure_ok gam30_ok Try.call58 (by
  intro args vc xs h hv
  split at h
  · simp only [Option.some.injEq, Prod.mk.injEq] at h; obtain ⟨rfl, rfl⟩ := h; exact ⟨_, by rfl, ptMul_pure _ _⟩
  · simp at h)

end Go.Proofs.Ytodiojpakfjehaa.X

/- Points in extended coordinates, as points of the curve; their forms. -/
namespace Go.Proofs.Ytodiojpakfjehaa.X
open Go Go.Proofs
set_option linter.unusedVariables false
set_option linter.unusedSimpArgs false
set_option maxRecDepth 100000

/-- four elements in one list -/
def BP (P : List Int) : Prop := P.length = 20 ∧ B5 (sub P 0 5) ∧ B5 (sub P 5 5) ∧ B5 (sub P 10 5) ∧ B5 (sub P 15 5)
def q4 (P : List Int) : Q4 := ⟨fv (sub P 0 5), fv (sub P 5 5), fv (sub P 10 5), fv (sub P 15 5)⟩
def zer20 : List Int := [0, 0, 0, 0, 0, 0, 0, 0, 0, 0, 0, 0, 0, 0, 0, 0, 0, 0, 0, 0]
def quad (x y z t : List Int) : List Int := splice (splice (splice (splice zer20 0 5 x) 5 5 y) 10 5 z) 15 5 t
theorem quad_sub {x y z t : List Int} (hx : x.length = 5) (hy : y.length = 5) (hz : z.length = 5) (ht : t.length = 5) : (quad x y z t).length = 20 ∧ sub (quad x y z t) 0 5 = x ∧ sub (quad x y z t) 5 5 = y ∧ sub (quad x y z t) 10 5 = z ∧ sub (quad x y z t) 15 5 = t := by
  obtain ⟨a, b, c, d, e, rfl⟩ := five hx
  obtain ⟨a1, b1, c1, d1, e1, rfl⟩ := five hy
  obtain ⟨a2, b2, c2, d2, e2, rfl⟩ := five hz
  obtain ⟨a3, b3, c3, d3, e3, rfl⟩ := five ht
  exact ⟨rfl, rfl, rfl, rfl, rfl⟩
theorem quad_ok {x y z t : List Int} (hx : B5 x) (hy : B5 y) (hz : B5 z) (ht : B5 t) : BP (quad x y z t) ∧ q4 (quad x y z t) = ⟨fv x, fv y, fv z, fv t⟩ := by
  obtain ⟨l, e1, e2, e3, e4⟩ := quad_sub hx.1 hy.1 hz.1 ht.1
  unfold BP q4
  rw [e1, e2, e3, e4]
  exact ⟨⟨l, hx, hy, hz, ht⟩, rfl⟩
theorem zero5 : B5 [0, 0, 0, 0, 0] ∧ fv [0, 0, 0, 0, 0] = 0 := ⟨b5_mk (by omega) (by omega) (by omega) (by omega) (by omega), by decide +kernel⟩
theorem one5 : B5 (feSmall 1) ∧ fv (feSmall 1) = 1 := by
  have k := small_ok (n := 1) (by omega) (by omega)
  exact ⟨k.1, k.2.trans fI_1⟩
section ring
variable {K : Type} [Lean.Grind.CommRing K]
theorem ring_E (x1 y1 x2 y2 : K) : (x1 + y1)*(x2 + y2) - x1*x2 - y1*y2 = x1*y2 + y1*x2 := by grind
theorem ring_C (d t1 t2 : K) : d*t1*t2 = d*(t1*t2) := by grind
theorem ring_E2 (x y : K) : x*x + y*y - (x + y)*(x + y) = -(2*(x*y)) := by grind
theorem ring_2 (z w : K) : z + z + w = 2*z + w := by grind
end ring
theorem add_ok {p q : List Int} (hp : BP p) (hq : BP q) : BP (ptAdd p q) ∧ q4 (ptAdd p q) = qadd (q4 p) (q4 q) := by
  obtain ⟨_, x1, y1, z1, t1⟩ := hp; obtain ⟨_, x2, y2, z2, t2⟩ := hq
  have A := mul_ok x1 x2
  have B := mul_ok y1 y2
  have C0 := mul_ok feD_ok.1 t1
  have C := mul_ok C0.1 t2
  have D := mul_ok z1 z2
  have s1 := plus_ok x1 y1
  have s2 := plus_ok x2 y2
  have m := mul_ok s1.1 s2.1
  have e0 := min_ok m.1 A.1
  have E := min_ok e0.1 B.1
  have F := min_ok D.1 C.1
  have G := plus_ok D.1 C.1
  have H := plus_ok B.1 A.1
  have k := quad_ok (mul_ok E.1 F.1).1 (mul_ok G.1 H.1).1 (mul_ok F.1 G.1).1 (mul_ok E.1 H.1).1
  refine ⟨k.1, k.2.trans ?_⟩
  rw [(mul_ok E.1 F.1).2, (mul_ok G.1 H.1).2, (mul_ok F.1 G.1).2, (mul_ok E.1 H.1).2, E.2, F.2, G.2, H.2, e0.2, m.2, s1.2, s2.2, D.2, C.2, C0.2, B.2, A.2, feD_ok.2, ring_E, ring_C]
  rfl
theorem dbl_ok {p : List Int} (hp : BP p) : BP (ptDbl p) ∧ q4 (ptDbl p) = qdbl (q4 p) := by
  obtain ⟨_, x, y, z, t⟩ := hp
  have A := mul_ok x x
  have B := mul_ok y y
  have Z := mul_ok z z
  have C := plus_ok Z.1 Z.1
  have H := plus_ok A.1 B.1
  have s := plus_ok x y
  have s2 := mul_ok s.1 s.1
  have E := min_ok H.1 s2.1
  have G := min_ok A.1 B.1
  have F := plus_ok C.1 G.1
  have k := quad_ok (mul_ok E.1 F.1).1 (mul_ok G.1 H.1).1 (mul_ok F.1 G.1).1 (mul_ok E.1 H.1).1
  refine ⟨k.1, k.2.trans ?_⟩
  rw [(mul_ok E.1 F.1).2, (mul_ok G.1 H.1).2, (mul_ok F.1 G.1).2, (mul_ok E.1 H.1).2, F.2, E.2, G.2, C.2, H.2, s2.2, s.2, A.2, B.2, Z.2, ring_E2, ring_2]
  rfl
theorem id_ok : BP ptId ∧ q4 ptId = q0 := by
  have k := quad_ok zero5.1 one5.1 one5.1 zero5.1
  have e : ptId = quad [0, 0, 0, 0, 0] (feSmall 1) (feSmall 1) [0, 0, 0, 0, 0] := by decide +kernel
  rw [e]
  refine ⟨k.1, k.2.trans ?_⟩
  rw [zero5.2, one5.2]; rfl
theorem base_ok : BP ptB ∧ QR (q4 ptB) eB := by
  have x := load_ok (s := [26, 213, 37, 143, 96, 45, 86, 201, 178, 167, 37, 149, 96, 199, 44, 105, 92, 220, 214, 253, 49, 226, 164, 192, 254, 83, 110, 205, 211, 54, 105, 33]) (byt_small (by decide))
  have y := load_ok (s := [88, 102, 102, 102, 102, 102, 102, 102, 102, 102, 102, 102, 102, 102, 102, 102, 102, 102, 102, 102, 102, 102, 102, 102, 102, 102, 102, 102, 102, 102, 102, 102]) (byt_small (by decide))
  have t := mul_ok x.1 y.1
  have k := quad_ok x.1 y.1 one5.1 t.1
  refine ⟨k.1, ?_⟩
  have e : q4 ptB = qaff bX bY := by
    refine k.2.trans ?_
    have ex : fI (BV [26, 213, 37, 143, 96, 45, 86, 201, 178, 167, 37, 149, 96, 199, 44, 105, 92, 220, 214, 253, 49, 226, 164, 192, 254, 83, 110, 205, 211, 54, 105, 33]) = bX := by decide +kernel
    have ey : fI (BV [88, 102, 102, 102, 102, 102, 102, 102, 102, 102, 102, 102, 102, 102, 102, 102, 102, 102, 102, 102, 102, 102, 102, 102, 102, 102, 102, 102, 102, 102, 102, 102]) = bY := by decide +kernel
    rw [t.2, x.2, y.2, one5.2, ex, ey]
    rfl
  rw [e]
  exact qr_aff eB
/-- a list of limbs stands for a point -/
def LP (l : List Int) (p : E) : Prop := BP l ∧ QR (q4 l) p
theorem lp_id : LP ptId E0 := ⟨id_ok.1, id_ok.2 ▸ qr_0⟩
theorem lp_base : LP ptB eB := base_ok
theorem lp_add {l m : List Int} {p q : E} (h : LP l p) (k : LP m q) : LP (ptAdd l m) (ad p q) := by
  have a := add_ok h.1 k.1
  exact ⟨a.1, a.2 ▸ qr_add h.2 k.2⟩
theorem lp_dbl {l : List Int} {p : E} (h : LP l p) : LP (ptDbl l) (ad p p) := by
  have a := dbl_ok h.1
  exact ⟨a.1, a.2 ▸ qr_dbl h.2⟩
theorem xy_ok {l : List Int} {p : E} (h : LP l p) : (B5 (ptXY l) ∧ fv (ptXY l) = p.1.1) ∧ (B5 (ptXY_1 l) ∧ fv (ptXY_1 l) = p.1.2) := by
  obtain ⟨⟨_, x, y, z, t⟩, q⟩ := h
  have i := inv_ok z
  have a := mul_ok x i.1
  have b := mul_ok y i.1
  have k := rep_quo fp_curve q
  refine ⟨⟨a.1, a.2.trans ?_⟩, ⟨b.1, b.2.trans ?_⟩⟩
  · rw [i.2]; exact k.1
  · rw [i.2]; exact k.2
/-- the 32 bytes of a point -/
def encE (p : E) : List Int := B32 ((p.1.2.val : Int) + 57896044618658097711785492504343953926634992332820282019728792003956564819968 * (if par p.1.1 then 1 else 0))
theorem or128 {x : Int} (h0 : 0 ≤ x) (h1 : x < 128) : bits2 .or .u8 x 128 = x + 128 := by
  have key : ∀ n : Nat, n < 128 → bits2 .or .u8 ((n : Nat) : Int) 128 = ((n : Nat) : Int) + 128 := by decide +kernel
  obtain ⟨n, rfl⟩ := Int.eq_ofNat_of_zero_le h0
  exact key n (by omega)
theorem set_top {v : Int} (h0 : 0 ≤ v) (h1 : v < 57896044618658097711785492504343953926634992332820282019728792003956564819968) : List.set (B32 v) 31 (bits2 .or .u8 (List.getD (sub (B32 v) 31 1) 0 0) 128) = B32 (v + 57896044618658097711785492504343953926634992332820282019728792003956564819968) := by
  rw [getsub1]
  have e : List.getD (B32 v) 31 0 = v / 452312848583266388373324160190187140051835877600158453279131187530910662656 % 256 := rfl
  rw [e, or128 (by omega) (by omega)]
  unfold B32
  simp only [List.set_cons_succ, List.set_cons_zero, List.cons.injEq, and_true]
  refine ⟨?_, ?_, ?_, ?_, ?_, ?_, ?_, ?_, ?_, ?_, ?_, ?_, ?_, ?_, ?_, ?_, ?_, ?_, ?_, ?_, ?_, ?_, ?_, ?_, ?_, ?_, ?_, ?_, ?_, ?_, ?_, ?_⟩ <;> omega
theorem form_ok {l : List Int} {p : E} (h : LP l p) : ptForm l = encE p := by
  obtain ⟨⟨bx, ex⟩, ⟨by_, ey⟩⟩ := xy_ok h
  unfold ptForm
  rw [odd_ok bx, ex]
  unfold ptForm_w0 ptForm_w1 encE
  rw [bytes_ok by_, ey]
  have r := val_rng p.1.2
  cases par p.1.1
  · simp
  · show List.set _ _ _ = _
    rw [set_top r.1 (by omega)]
    simp
/-- the point of 32 bytes, or none -/
noncomputable def decE (s : List Int) : Option E :=
  if BV s % 57896044618658097711785492504343953926634992332820282019728792003956564819968 < 57896044618658097711785492504343953926634992332820282019728792003956564819949 then decP (decide (57896044618658097711785492504343953926634992332820282019728792003956564819968 ≤ BV s)) (fI (BV s % 57896044618658097711785492504343953926634992332820282019728792003956564819968)) else none
theorem encE_byt (p : E) : Byt (encE p) := byt_B32 _
theorem encE_len (p : E) : (encE p).length = 32 := rfl
theorem encE_BV (p : E) : BV (encE p) = (p.1.2.val : Int) + 57896044618658097711785492504343953926634992332820282019728792003956564819968 * (if par p.1.1 then 1 else 0) := by
  have r := val_rng p.1.2
  unfold encE
  split <;> exact BV_B32 (by omega) (by omega)
theorem dec_enc (p : E) : decE (encE p) = some p := by
  have r := val_rng p.1.2
  unfold decE
  rw [encE_BV]
  have e1 : ((p.1.2.val : Int) + 57896044618658097711785492504343953926634992332820282019728792003956564819968 * (if par p.1.1 then 1 else 0)) % 57896044618658097711785492504343953926634992332820282019728792003956564819968 = (p.1.2.val : Int) := by split <;> omega
  have e2 : decide (57896044618658097711785492504343953926634992332820282019728792003956564819968 ≤ (p.1.2.val : Int) + 57896044618658097711785492504343953926634992332820282019728792003956564819968 * (if par p.1.1 then 1 else 0)) = par p.1.1 := by
    cases par p.1.1
    · exact decide_eq_false (by simp; omega)
    · exact decide_eq_true (by simp; omega)
  rw [e1, e2, if_pos (by omega), fI_self]
  exact decP_enc p
theorem enc_dec {s : List Int} (h : Byt s) (l : s.length = 32) {p : E} (hd : decE s = some p) : encE p = s := by
  have r := BV_rng h
  unfold decE at hd
  split at hd
  · rename_i hlt
    obtain ⟨hy, hp⟩ := decP_y hd
    unfold encE
    rw [hy, hp, fI_val, PP_val]
    conv => rhs; rw [← B32_BV h l]
    congr 1
    by_cases hb : 57896044618658097711785492504343953926634992332820282019728792003956564819968 ≤ BV s
    · rw [decide_eq_true hb, if_pos rfl]; omega
    · rw [decide_eq_false hb, if_neg (by simp)]; omega
  · cases hd
theorem and127 (x : Int) (h0 : 0 ≤ x) (h1 : x < 256) : bits2 .and .u8 x 127 = x % 128 := by
  have key : ∀ n : Nat, n < 256 → bits2 .and .u8 ((n : Nat) : Int) 127 = ((n : Nat) : Int) % 128 := by decide +kernel
  obtain ⟨n, rfl⟩ := Int.eq_ofNat_of_zero_le h0
  exact key n (by omega)
theorem shr7 (x : Int) : shr .u8 x 7 = x / 128 := by
  have e : shr .u8 x 7 = x.fdiv 128 := rfl
  rw [e, Int.fdiv_eq_ediv_of_nonneg _ (by omega)]
/-- the bytes without the highest bit -/
def cut (s : List Int) : List Int := List.set s 31 (bits2 .and .u8 (List.getD (sub s 31 1) 0 0) 127)
theorem byt_set {s : List Int} (h : Byt s) {x : Int} (hx : 0 ≤ x ∧ x < 256) (i : Nat) : Byt (List.set s i x) := fun y hy => by
  rcases List.mem_or_eq_of_mem_set hy with hy | rfl
  · exact h y hy
  · exact hx
theorem cut_ok {s : List Int} (h : Byt s) (l : s.length = 32) : Byt (cut s) ∧ (cut s).length = 32 ∧ BV (cut s) = BV s % 57896044618658097711785492504343953926634992332820282019728792003956564819968 ∧ (shr .u8 (List.getD (sub s 31 1) 0 0) 7 == (1 : Int)) = decide (57896044618658097711785492504343953926634992332820282019728792003956564819968 ≤ BV s) := by
  have b := byt_get h 31
  unfold cut
  rw [getsub1, and127 _ b.1 b.2, shr7]
  refine ⟨byt_set h (by omega) 31, by rw [List.length_set]; exact l, ?_, ?_⟩
  · obtain ⟨a0, a1, a2, a3, a4, a5, a6, a7, b0, b1, b2, b3, b4, b5, b6, b7, c0, c1, c2, c3, c4, c5, c6, c7, d0, d1, d2, d3, d4, d5, d6, d7, rfl⟩ := len32 l
    have r0 := le8_rng h 0; have r1 := le8_rng h 8; have r2 := le8_rng h 16
    have t0 := byt_get h 24; have t1 := byt_get h 25; have t2 := byt_get h 26; have t3 := byt_get h 27; have t4 := byt_get h 28; have t5 := byt_get h 29; have t6 := byt_get h 30
    show le8 [a0, a1, a2, a3, a4, a5, a6, a7, b0, b1, b2, b3, b4, b5, b6, b7, c0, c1, c2, c3, c4, c5, c6, c7, d0, d1, d2, d3, d4, d5, d6, d7] 0 + 18446744073709551616 * le8 [a0, a1, a2, a3, a4, a5, a6, a7, b0, b1, b2, b3, b4, b5, b6, b7, c0, c1, c2, c3, c4, c5, c6, c7, d0, d1, d2, d3, d4, d5, d6, d7] 8 + 340282366920938463463374607431768211456 * le8 [a0, a1, a2, a3, a4, a5, a6, a7, b0, b1, b2, b3, b4, b5, b6, b7, c0, c1, c2, c3, c4, c5, c6, c7, d0, d1, d2, d3, d4, d5, d6, d7] 16 + 6277101735386680763835789423207666416102355444464034512896 * (d0 + 256 * d1 + 65536 * d2 + 16777216 * d3 + 4294967296 * d4 + 1099511627776 * d5 + 281474976710656 * d6 + 72057594037927936 * (d7 % 128)) = _
    have e : BV [a0, a1, a2, a3, a4, a5, a6, a7, b0, b1, b2, b3, b4, b5, b6, b7, c0, c1, c2, c3, c4, c5, c6, c7, d0, d1, d2, d3, d4, d5, d6, d7] = le8 [a0, a1, a2, a3, a4, a5, a6, a7, b0, b1, b2, b3, b4, b5, b6, b7, c0, c1, c2, c3, c4, c5, c6, c7, d0, d1, d2, d3, d4, d5, d6, d7] 0 + 18446744073709551616 * le8 [a0, a1, a2, a3, a4, a5, a6, a7, b0, b1, b2, b3, b4, b5, b6, b7, c0, c1, c2, c3, c4, c5, c6, c7, d0, d1, d2, d3, d4, d5, d6, d7] 8 + 340282366920938463463374607431768211456 * le8 [a0, a1, a2, a3, a4, a5, a6, a7, b0, b1, b2, b3, b4, b5, b6, b7, c0, c1, c2, c3, c4, c5, c6, c7, d0, d1, d2, d3, d4, d5, d6, d7] 16 + 6277101735386680763835789423207666416102355444464034512896 * (d0 + 256 * d1 + 65536 * d2 + 16777216 * d3 + 4294967296 * d4 + 1099511627776 * d5 + 281474976710656 * d6 + 72057594037927936 * d7) := rfl
    rw [e]
    generalize le8 [a0, a1, a2, a3, a4, a5, a6, a7, b0, b1, b2, b3, b4, b5, b6, b7, c0, c1, c2, c3, c4, c5, c6, c7, d0, d1, d2, d3, d4, d5, d6, d7] 0 = u0 at *
    generalize le8 [a0, a1, a2, a3, a4, a5, a6, a7, b0, b1, b2, b3, b4, b5, b6, b7, c0, c1, c2, c3, c4, c5, c6, c7, d0, d1, d2, d3, d4, d5, d6, d7] 8 = u1 at *
    generalize le8 [a0, a1, a2, a3, a4, a5, a6, a7, b0, b1, b2, b3, b4, b5, b6, b7, c0, c1, c2, c3, c4, c5, c6, c7, d0, d1, d2, d3, d4, d5, d6, d7] 16 = u2 at *
    have b : 0 ≤ d7 ∧ d7 < 256 := b
    have t0 : 0 ≤ d0 ∧ d0 < 256 := t0
    have t1 : 0 ≤ d1 ∧ d1 < 256 := t1
    have t2 : 0 ≤ d2 ∧ d2 < 256 := t2
    have t3 : 0 ≤ d3 ∧ d3 < 256 := t3
    have t4 : 0 ≤ d4 ∧ d4 < 256 := t4
    have t5 : 0 ≤ d5 ∧ d5 < 256 := t5
    have t6 : 0 ≤ d6 ∧ d6 < 256 := t6
    clear h l
    omega
  · have r3 := le8_rng h 24; have r0 := le8_rng h 0; have r1 := le8_rng h 8; have r2 := le8_rng h 16
    have t0 := byt_get h 24; have t1 := byt_get h 25; have t2 := byt_get h 26; have t3 := byt_get h 27; have t4 := byt_get h 28; have t5 := byt_get h 29; have t6 := byt_get h 30
    have e : le8 s 24 = List.getD s 24 0 + 256 * List.getD s 25 0 + 65536 * List.getD s 26 0 + 16777216 * List.getD s 27 0 + 4294967296 * List.getD s 28 0 + 1099511627776 * List.getD s 29 0 + 281474976710656 * List.getD s 30 0 + 72057594037927936 * List.getD s 31 0 := rfl
    have e2 : BV s = le8 s 0 + 18446744073709551616 * le8 s 8 + 340282366920938463463374607431768211456 * le8 s 16 + 6277101735386680763835789423207666416102355444464034512896 * le8 s 24 := rfl
    by_cases hc : 57896044618658097711785492504343953926634992332820282019728792003956564819968 ≤ BV s
    · rw [decide_eq_true hc]
      exact beq_iff_eq.2 (by omega)
    · rw [decide_eq_false hc]
      exact beq_eq_false_iff_ne.2 (by omega)
theorem fp_zero_bytes (z : Fp) : (B32 (z.val : Int) = [0, 0, 0, 0, 0, 0, 0, 0, 0, 0, 0, 0, 0, 0, 0, 0, 0, 0, 0, 0, 0, 0, 0, 0, 0, 0, 0, 0, 0, 0, 0, 0]) ↔ z = 0 := by
  have e : ([0, 0, 0, 0, 0, 0, 0, 0, 0, 0, 0, 0, 0, 0, 0, 0, 0, 0, 0, 0, 0, 0, 0, 0, 0, 0, 0, 0, 0, 0, 0, 0] : List Int) = B32 0 := by decide +kernel
  rw [e]
  constructor
  · intro h
    have := B32_inj ⟨(val_rng z).1, val_256 z⟩ (by omega) h
    exact fp_ext this
  · rintro rfl; rfl
/-- the same, and its third element is 1 -/
def LA (l : List Int) (p : E) : Prop := BP l ∧ q4 l = qaff p.1.1 p.1.2
theorem LA.lp {l : List Int} {p : E} (h : LA l p) : LP l p := ⟨h.1, h.2 ▸ qr_aff p⟩
theorem lp_aff {x y : List Int} (hx : B5 x) (hy : B5 y) {p : E} (h : p.1 = (fv x, fv y)) : LA (quad x y (feSmall 1) (feMul x y)) p := by
  have t := mul_ok hx hy
  have k := quad_ok hx hy one5.1 t.1
  refine ⟨k.1, ?_⟩
  rw [k.2, t.2, one5.2, h]
  rfl
theorem open_ok {s : List Int} (h : Byt s) (l : s.length = 32) : (decE s = none → ptOpen_1 s = false) ∧ (∀ p, decE s = some p → ptOpen_1 s = true ∧ LA (ptOpen s) p) := by
  obtain ⟨hb, hl, hv, ho⟩ := cut_ok h l
  have y := load_ok hb
  have yy := mul_ok y.1 y.1
  have u := min_ok yy.1 one5.1
  have dy := mul_ok feD_ok.1 yy.1
  have w := plus_ok dy.1 one5.1
  have r := root_ok u.1 w.1
  have eu : fv (feMin (feMul (feLoad (cut s)) (feLoad (cut s))) (feSmall 1)) = fI (BV (cut s))*fI (BV (cut s)) - 1 := by rw [u.2, yy.2, y.2, one5.2]
  have ew : fv (fePlus (feMul feD (feMul (feLoad (cut s)) (feLoad (cut s)))) (feSmall 1)) = cD*(fI (BV (cut s))*fI (BV (cut s))) + 1 := by rw [w.2, dy.2, yy.2, y.2, one5.2, feD_ok.2]
  rw [eu, ew] at r
  obtain ⟨rb, ra, rbb, rc⟩ := r
  have hby : decide (feBytes (feLoad (cut s)) = cut s) = decide (BV (cut s) < 57896044618658097711785492504343953926634992332820282019728792003956564819949) := by
    rw [bytes_ok y.1, y.2, fI_val, PP_val]
    refine decide_eq_decide.2 ⟨fun e => ?_, fun e => ?_⟩
    · have r0 := BV_rng hb
      have := congrArg BV e
      rw [BV_B32 (by omega) (by omega)] at this
      omega
    · have r0 := BV_rng hb
      conv => rhs; rw [← B32_BV hb hl]
      congr 1; omega
  have root : B5 (feRoot (feMin (feMul (feLoad (cut s)) (feLoad (cut s))) (feSmall 1)) (fePlus (feMul feD (feMul (feLoad (cut s)) (feLoad (cut s)))) (feSmall 1))) ∧ (opnX (fI (BV (cut s))) = none → feRoot_1 (feMin (feMul (feLoad (cut s)) (feLoad (cut s))) (feSmall 1)) (fePlus (feMul feD (feMul (feLoad (cut s)) (feLoad (cut s)))) (feSmall 1)) = false) ∧ (∀ x, opnX (fI (BV (cut s))) = some x → feRoot_1 (feMin (feMul (feLoad (cut s)) (feLoad (cut s))) (feSmall 1)) (fePlus (feMul feD (feMul (feLoad (cut s)) (feLoad (cut s)))) (feSmall 1)) = true ∧ fv (feRoot (feMin (feMul (feLoad (cut s)) (feLoad (cut s))) (feSmall 1)) (fePlus (feMul feD (feMul (feLoad (cut s)) (feLoad (cut s)))) (feSmall 1))) = x) := by
    refine ⟨rb, ?_⟩
    generalize hx : opnX (fI (BV (cut s))) = o
    unfold opnX at hx
    split at hx
    · rename_i h1
      subst hx
      exact ⟨fun h => (by cases h), fun x hx => by cases hx; exact ra h1⟩
    · rename_i h1
      split at hx
      · rename_i h2
        subst hx
        exact ⟨fun h => (by cases h), fun x hx => by cases hx; exact rbb h1 h2⟩
      · rename_i h2
        subst hx
        exact ⟨fun _ => rc h1 h2, fun x hx => (by cases hx)⟩
  have ey : fv (feLoad (cut s)) = fI (BV (cut s)) := y.2
  have by_ : B5 (feLoad (cut s)) := y.1
  clear ra rbb rc rb eu ew u w dy yy y
  have hcs : cut s = List.set s 31 (bits2 .and .u8 (List.getD (sub s 31 1) 0 0) 127) := rfl
  unfold ptOpen ptOpen_1 ptOpen_w1 ptOpen_w2 ptOpen_w3 ptOpen_w4
  simp only
  rw [← hcs, hby]
  clear hby hcs
  unfold decE
  rw [← hv, ← ho]
  clear hv ho
  generalize (shr .u8 (List.getD (sub s 31 1) 0 0) 7 == (1 : Int)) = o
  generalize feRoot_1 (feMin (feMul (feLoad (cut s)) (feLoad (cut s))) (feSmall 1)) (fePlus (feMul feD (feMul (feLoad (cut s)) (feLoad (cut s)))) (feSmall 1)) = R1 at *
  generalize feRoot (feMin (feMul (feLoad (cut s)) (feLoad (cut s))) (feSmall 1)) (fePlus (feMul feD (feMul (feLoad (cut s)) (feLoad (cut s)))) (feSmall 1)) = R at *
  generalize feLoad (cut s) = Y at *
  generalize BV (cut s) = v at *
  obtain ⟨rb, rn, rs⟩ := root
  by_cases hlt : v < 57896044618658097711785492504343953926634992332820282019728792003956564819949
  · rw [if_pos hlt, decide_eq_true hlt]
    simp only [cond_true]
    cases hx : opnX (fI v) with
    | none =>
      have hn : decP o (fI v) = none := decP_none.2 (by unfold dec0; rw [hx])
      rw [rn hx, hn]
      exact ⟨fun _ => rfl, fun p hp => by cases hp⟩
    | some x =>
      obtain ⟨r1, rv⟩ := rs x hx
      have hz : decide (feBytes R = [0, 0, 0, 0, 0, 0, 0, 0, 0, 0, 0, 0, 0, 0, 0, 0, 0, 0, 0, 0, 0, 0, 0, 0, 0, 0, 0, 0, 0, 0, 0, 0]) = decide (x = 0) := by
        rw [bytes_ok rb, rv]; exact decide_eq_decide.2 (fp_zero_bytes x)
      have hodd : feOdd R = par x := by rw [odd_ok rb, rv]
      have neg := min_ok zero5.1 rb
      rw [rv, zero5.2] at neg
      have dz : decP o (fI v) = none → (o = true ∧ x = 0) := by
        intro h
        have h := decP_none.1 h
        unfold dec0 at h
        rw [hx] at h
        simp only at h
        split at h
        · assumption
        · cases h
      have ds : ∀ p, decP o (fI v) = some p → p.1 = (pickX o x, fI v) ∧ ¬ (o = true ∧ x = 0) := by
        intro p h
        have h := decP_some.1 h
        unfold dec0 at h
        rw [hx] at h
        simp only at h
        split at h
        · cases h
        · rename_i hn
          exact ⟨(Option.some.inj h).symm, hn⟩
      have pa : ∀ p : E, p.1 = (pickX o x, fI v) → par x = o → LA (quad R Y (feSmall 1) (feMul R Y)) p := by
        intro p h hp
        refine lp_aff rb by_ ?_
        rw [h, rv, ey]
        unfold pickX
        rw [if_pos hp]
      have pb : ∀ p : E, p.1 = (pickX o x, fI v) → par x ≠ o → LA (quad (feMin [0, 0, 0, 0, 0] R) Y (feSmall 1) (feMul (feMin [0, 0, 0, 0, 0] R) Y)) p := by
        intro p h hp
        refine lp_aff neg.1 by_ ?_
        rw [h, neg.2, ey]
        unfold pickX
        rw [if_neg hp]
      have ends : ∀ p : E, p.1 = (pickX o x, fI v) → LA (cond (par x == o) (quad R Y (feSmall 1) (feMul R Y)) (quad (feMin [0, 0, 0, 0, 0] R) Y (feSmall 1) (feMul (feMin [0, 0, 0, 0, 0] R) Y))) p := by
        intro p h
        by_cases hp : par x = o
        · rw [beq_iff_eq.2 hp]; exact pa p h hp
        · rw [beq_eq_false_iff_ne.2 hp]; exact pb p h hp
      rw [r1, hz, hodd]
      simp only [cond_true]
      constructor
      · intro hn
        obtain ⟨ho, hx0⟩ := dz hn
        rw [ho, decide_eq_true hx0]; rfl
      · intro p hp
        obtain ⟨h1, h2⟩ := ds p hp
        have e := ends p h1
        cases o
        · exact ⟨rfl, e⟩
        · have hx0 : decide (x = 0) = false := decide_eq_false fun h => h2 ⟨rfl, h⟩
          rw [hx0]
          exact ⟨rfl, e⟩
  · rw [if_neg hlt, decide_eq_false hlt]
    exact ⟨fun _ => rfl, fun p hp => by cases hp⟩
end Go.Proofs.Ytodiojpakfjehaa.X

/- Multiples of points by nibbles, as multiples. -/
namespace Go.Proofs.Ytodiojpakfjehaa.X
open Go Go.Proofs
set_option linter.unusedVariables false
set_option linter.unusedSimpArgs false
set_option maxRecDepth 100000

theorem sub_get {s : List Int} {c m r : Nat} (h : r < m) : (sub s c m)[r]? = s[c + r]? := by
  unfold sub
  rw [List.getElem?_take_of_lt h, List.getElem?_drop]
theorem splice_get {s y : List Int} {c m j : Nat} (hc : c + m ≤ s.length) (hy : y.length = m) : (splice s c m y)[j]? = if j < c then s[j]? else if j < c + m then y[j - c]? else s[j]? := by
  unfold splice
  rw [List.append_assoc]
  have l1 : (s.take c).length = c := by rw [List.length_take]; omega
  split
  · rename_i h
    rw [List.getElem?_append_left (by omega), List.getElem?_take_of_lt h]
  · rename_i h
    rw [List.getElem?_append_right (by omega), l1]
    split
    · rename_i h2; rw [List.getElem?_append_left (by omega)]
    · rename_i h2
      rw [List.getElem?_append_right (by omega), List.getElem?_drop, hy]
      congr 1; omega
theorem sub_splice20 {s y : List Int} {n c i : Nat} (hs : s.length = n * 20) (hc : c < n) (hi : i < n) (hy : y.length = 20) : sub (splice s (c * 20) 20 y) (i * 20) 20 = if i = c then y else sub s (i * 20) 20 := by
  have hc2 : c * 20 + 20 ≤ s.length := by omega
  refine List.ext_getElem? fun r => ?_
  by_cases hr : r < 20
  · rw [sub_get hr, splice_get hc2 hy]
    by_cases hic : i = c
    · subst hic
      rw [if_pos rfl, if_neg (by omega), if_pos (by omega)]
      congr 1; omega
    · rw [if_neg hic, sub_get hr]
      rcases Nat.lt_or_gt_of_ne hic with h | h
      · rw [if_pos (by omega)]
      · rw [if_neg (by omega), if_neg (by omega)]
  · have l1 : (sub (splice s (c * 20) 20 y) (i * 20) 20).length = 20 := sub_len _ _ _ (by rw [splice_len s _ _ _ hc2 hy]; omega)
    have l2 : (if i = c then y else sub s (i * 20) 20).length = 20 := by split; exact hy; exact sub_len _ _ _ (by omega)
    rw [List.getElem?_eq_none (by omega), List.getElem?_eq_none (by omega)]
/-- the table of multiples -/
theorem tab_ok {p : List Int} {P : E} (h : LP p P) (T0 : List Int) (l0 : T0.length = 320) (h0 : sub T0 (0 * 20) 20 = ptId) : ∀ k, k ≤ 15 → (iter (tmTab_step p) k T0).length = 320 ∧ ∀ j, j ≤ k → LP (sub (iter (tmTab_step p) k T0) (j * 20) 20) (mu j P) := by
  intro k
  induction k with
  | zero =>
    intro _
    refine ⟨l0, fun j hj => ?_⟩
    have : j = 0 := by omega
    subst this
    show LP (sub T0 (0 * 20) 20) _
    rw [h0]; exact lp_id
  | succ k ih =>
    intro hk
    obtain ⟨hl, ih⟩ := ih (by omega)
    have e : iter (tmTab_step p) (k + 1) T0 = splice (iter (tmTab_step p) k T0) ((k + 1) * 20) 20 (ptAdd (sub (iter (tmTab_step p) k T0) (k * 20) 20) p) := by
      show tmTab_step p k (iter (tmTab_step p) k T0) = _
      have hw : Int.toNat (IntKind.i64.wrap (((k : Nat) : Int) + (1 : Int))) = k + 1 := by rw [wrap_succ (by omega)]; rfl
      unfold tmTab_step
      rw [hw]
    have a := lp_add (ih k (Nat.le_refl _)) h
    rw [e]
    refine ⟨by rw [splice_len _ _ _ _ (by omega) a.1.1]; exact hl, fun j hj => ?_⟩
    rw [sub_splice20 (n := 16) (by omega) (by omega) (by omega) a.1.1]
    split
    · rename_i h; subst h; exact a
    · exact ih j (by omega)
theorem getB32 (v : Int) : ∀ j : Nat, j < 32 → List.getD (B32 v) j 0 = v / ((256 ^ j : Nat) : Int) % 256 := by
  intro j hj
  have h : j = 0 ∨ j = 1 ∨ j = 2 ∨ j = 3 ∨ j = 4 ∨ j = 5 ∨ j = 6 ∨ j = 7 ∨ j = 8 ∨ j = 9 ∨ j = 10 ∨ j = 11 ∨ j = 12 ∨ j = 13 ∨ j = 14 ∨ j = 15 ∨ j = 16 ∨ j = 17 ∨ j = 18 ∨ j = 19 ∨ j = 20 ∨ j = 21 ∨ j = 22 ∨ j = 23 ∨ j = 24 ∨ j = 25 ∨ j = 26 ∨ j = 27 ∨ j = 28 ∨ j = 29 ∨ j = 30 ∨ j = 31 := by omega
  rcases h with h | h | h | h | h | h | h | h | h | h | h | h | h | h | h | h | h | h | h | h | h | h | h | h | h | h | h | h | h | h | h | h <;> subst h
  · show v % 256 = v / 1 % 256
    rw [Int.ediv_one]
  all_goals rfl
theorem byte_at {K : List Int} (h : Byt K) (l : K.length = 32) {j : Nat} (hj : j < 32) : List.getD K j 0 = (((BV K).toNat / 256 ^ j % 256 : Nat) : Int) := by
  have r := BV_rng h
  conv => lhs; rw [← B32_BV h l]
  rw [getB32 _ j hj]
  obtain ⟨n, hn⟩ := Int.eq_ofNat_of_zero_le r.1
  rw [hn, Int.toNat_natCast, Int.natCast_emod, Int.natCast_ediv]
  rfl
theorem shr8 (x : Int) (s : Nat) (hs : s = 0 ∨ s = 4) : shr .u8 x ((s : Nat) : Int) = x / ((2 ^ s : Nat) : Int) := by
  rcases hs with rfl | rfl
  · have e : shr .u8 x ((0 : Nat) : Int) = x.fdiv 1 := rfl
    rw [e, Int.fdiv_eq_ediv_of_nonneg _ (by omega)]; rfl
  · have e : shr .u8 x ((4 : Nat) : Int) = x.fdiv 16 := rfl
    rw [e, Int.fdiv_eq_ediv_of_nonneg _ (by omega)]; rfl
theorem nib_eq {K : List Int} (h : Byt K) (l : K.length = 32) {k : Nat} (hk : k < 64) : nibV K k = (((BV K).toNat / 16 ^ (63 - k) % 16 : Nat) : Int) := by
  unfold nibV
  rw [and15, td2 hk, tm2 hk, Int.toNat_natCast, byte_at h l (by omega)]
  generalize hV : (BV K).toNat = V
  generalize hi : 63 - k = i
  have hm : i % 2 = 0 ∨ i % 2 = 1 := by omega
  have e4 : IntKind.i64.wrap ((4 : Int) * ((i % 2 : Nat) : Int)) = ((4 * (i % 2) : Nat) : Int) := by rw [wrapI (by omega) (by omega)]; omega
  rw [e4, shr8 _ _ (by omega)]
  have key : V / 256 ^ (i / 2) % 256 / 2 ^ (4 * (i % 2)) % 16 = V / 16 ^ i % 16 := by
    have e256 : (256 : Nat) ^ (i / 2) = 16 ^ (2 * (i / 2)) := by rw [Nat.pow_mul]
    rw [e256]
    rcases hm with h0 | h0
    · have : 2 * (i / 2) = i := by omega
      rw [h0, this, Nat.mul_zero, Nat.pow_zero, Nat.div_one]
      omega
    · have : i = 2 * (i / 2) + 1 := by omega
      rw [h0]
      conv => rhs; rw [this, Nat.pow_succ, ← Nat.div_div_eq_div_mul]
      show V / 16 ^ (2 * (i / 2)) % 256 / 16 % 16 = _
      omega
  rw [← key]
  simp only [Int.natCast_emod, Int.natCast_ediv]
  rfl
theorem mu_dbl {m : Nat} {P : E} : ad (mu m P) (mu m P) = mu (m + m) P := (mu_add m m P).symm
theorem tmS_ok {T K : List Int} {P : E} (hT : ∀ j, j ≤ 15 → LP (sub T (j * 20) 20) (mu j P)) (h : Byt K) (l : K.length = 32) : ∀ k, k ≤ 64 → LP (tmS T K k) (mu ((BV K).toNat / 16 ^ (64 - k)) P) := by
  have hV : (BV K).toNat < 16 ^ 64 := by
    have := BV_rng h
    show (BV K).toNat < 115792089237316195423570985008687907853269984665640564039457584007913129639936
    omega
  intro k
  induction k with
  | zero =>
    intro _
    rw [Nat.div_eq_of_lt hV]
    exact lp_id
  | succ k ih =>
    intro hk
    have ih := ih (by omega)
    have e := nib_eq h l (k := k) (by omega)
    generalize (BV K).toNat = V at *
    have hi : 64 - k = (63 - k) + 1 := by omega
    have hi2 : 64 - (k + 1) = 63 - k := by omega
    rw [hi, Nat.pow_succ, ← Nat.div_div_eq_div_mul] at ih
    rw [hi2]
    generalize V / 16 ^ (63 - k) = W at *
    have d := lp_dbl (lp_dbl (lp_dbl (lp_dbl ih)))
    rw [mu_dbl, mu_dbl, mu_dbl, mu_dbl] at d
    have e16 : W / 16 + W / 16 + (W / 16 + W / 16) + (W / 16 + W / 16 + (W / 16 + W / 16)) + (W / 16 + W / 16 + (W / 16 + W / 16) + (W / 16 + W / 16 + (W / 16 + W / 16))) = 16 * (W / 16) := by omega
    rw [e16] at d
    by_cases hn : nibV K k > 0
    · rw [tmS_a hn, e, Int.toNat_natCast]
      have a := lp_add d (hT (W % 16) (by omega))
      rw [← mu_add, show 16 * (W / 16) + W % 16 = W by omega] at a
      exact a
    · rw [tmS_b hn]
      have : W % 16 = 0 := by omega
      rw [show 16 * (W / 16) = W by omega] at d
      exact d
theorem lp_mul {p K : List Int} {P : E} (h : LP p P) (hK : Byt K) (l : K.length = 32) : LP (ptMul p K) (mu (BV K).toNat P) := by
  unfold ptMul
  have t := tab_ok h (splice (List.replicate 320 0) 0 20 ptId) (by rw [splice_len _ _ _ _ (by rw [List.length_replicate]; omega) id_ok.1.1]; rfl) (by
    have e : splice (List.replicate 320 0) 0 20 ptId = ptId ++ List.replicate 300 0 := by decide +kernel
    rw [e]
    show sub (ptId ++ _) 0 20 = _
    decide +kernel) 15 (Nat.le_refl _)
  have k := tmS_ok (T := tmTab_out0 p (splice (List.replicate 320 0) 0 20 ptId)) (fun j hj => t.2 j hj) hK l 64 (Nat.le_refl _)
  rw [Nat.sub_self, Nat.pow_zero, Nat.div_one] at k
  exact k
end Go.Proofs.Ytodiojpakfjehaa.X

/- Printed by a tool of this session. -/
namespace Go.Proofs.Ytodiojpakfjehaa.X
open Go Go.Proofs
set_option linter.unusedVariables false
set_option linter.unusedSimpArgs false
set_option maxRecDepth 100000
theorem teVL_5 : TEOk Try.prog 5 ⟨.int .u8, 1, 1, [.i .u8 (0 : Int)], false⟩ :=
  TEOk.of Try.underlying5 (i := Try.t5) (by kernel_rfl) rfl rfl rfl (by kernel_rfl) (fun h => by cases h) (by kernel_rfl)
theorem teVL_23 : TEOk Try.prog 23 ⟨.array 32 5, 32, 32, [.ints .u8 (32 : Nat) ([0, 0, 0, 0, 0, 0, 0, 0, 0, 0, 0, 0, 0, 0, 0, 0, 0, 0, 0, 0, 0, 0, 0, 0, 0, 0, 0, 0, 0, 0, 0, 0] : List Int)], true⟩ :=
  TEOk.of Try.underlying23 (i := Try.t23) (by kernel_rfl) rfl rfl rfl (by kernel_rfl) (fun _ => Try.eqGuardType23) (by kernel_rfl)
theorem teVL_37 : TEOk Try.prog 37 ⟨.array 32 5, 32, 32, [.ints .u8 (32 : Nat) ([0, 0, 0, 0, 0, 0, 0, 0, 0, 0, 0, 0, 0, 0, 0, 0, 0, 0, 0, 0, 0, 0, 0, 0, 0, 0, 0, 0, 0, 0, 0, 0] : List Int)], true⟩ :=
  TEOk.of Try.underlying37 (i := Try.t37) (by kernel_rfl) rfl rfl rfl (by kernel_rfl) (fun _ => Try.eqGuardType37) (by kernel_rfl)
theorem teVL_94 : TEOk Try.prog 94 ⟨Try.t93.desc, 20, 160, [.ints .u64 (20 : Nat) ([0, 0, 0, 0, 0, 0, 0, 0, 0, 0, 0, 0, 0, 0, 0, 0, 0, 0, 0, 0] : List Int)], false⟩ :=
  TEOk.of Try.underlying94 (i := Try.t94) (by kernel_rfl) rfl rfl rfl (by kernel_rfl) (fun h => by cases h) (by kernel_rfl)
noncomputable def tabVL : List (Nat × TE) := [(5, ⟨.int .u8, 1, 1, [.i .u8 (0 : Int)], false⟩), (23, ⟨.array 32 5, 32, 32, [.ints .u8 (32 : Nat) ([0, 0, 0, 0, 0, 0, 0, 0, 0, 0, 0, 0, 0, 0, 0, 0, 0, 0, 0, 0, 0, 0, 0, 0, 0, 0, 0, 0, 0, 0, 0, 0] : List Int)], true⟩), (37, ⟨.array 32 5, 32, 32, [.ints .u8 (32 : Nat) ([0, 0, 0, 0, 0, 0, 0, 0, 0, 0, 0, 0, 0, 0, 0, 0, 0, 0, 0, 0, 0, 0, 0, 0, 0, 0, 0, 0, 0, 0, 0, 0] : List Int)], true⟩), (94, ⟨Try.t93.desc, 20, 160, [.ints .u64 (20 : Nat) ([0, 0, 0, 0, 0, 0, 0, 0, 0, 0, 0, 0, 0, 0, 0, 0, 0, 0, 0, 0] : List Int)], false⟩)]
theorem tabOkVL : TabOk Try.prog (tabOf tabVL) := (tabOf_cons teVL_5 (tabOf_cons teVL_23 (tabOf_cons teVL_37 (tabOf_cons teVL_94 tabOf_nil))))

def oneAdd_w0 (s : List Int) (p : List Int) : List Int :=
  (ptForm (ptAdd p (ptOpen s)))

set_option maxHeartbeats 1000000 in
theorem oneAdd_w0_body0 (s : List Int) (p : List Int) (hv0 : List.length s = (32 : Nat)) (hb0 : (ptOpen_1 s) = true) (w : World) (rw : List Nat) (β : Env) : Body Try.prog (tabOf tabVL) Try.f82 ⟨w, rw, 0, β⟩ [.o (.g [.ints .u8 (32 : Nat) s]), .f 59 [.g [.ints .u64 (20 : Nat) p]] []] [] (fun ys K' => ys = [.g [.ints .u8 (32 : Nat) (oneAdd_w0 s p)], .a (.i .i64 (0 : Int))] ∧ K' = []) :=
  Body.of_finK (Γ := gam31) (Λ := noLam) (Ψ := noPsi) (fuel := 0) (m := 20) (c := (Try.f82.body.getD .skip)) mix tabOkVL gam31_ok rfl (rs := [.cell 4 23, .tmp 5]) rfl rfl [false] [] 0
    (vc := [((!(ptOpen_1 s)) = false)]) (by kernel_rfl)
    (AllP_cons (by rw [hb0]; rfl) (AllP_nil))

set_option maxHeartbeats 1000000 in
theorem oneAdd_w1_body0 (s : List Int) (p : List Int) (hv0 : List.length s = (32 : Nat)) (hb0 : (ptOpen_1 s) = false) (w : World) (rw : List Nat) (β : Env) : Body Try.prog (tabOf tabVL) Try.f82 ⟨w, rw, 0, β⟩ [.o (.g [.ints .u8 (32 : Nat) s]), .f 59 [.g [.ints .u64 (20 : Nat) p]] []] [] (fun ys K' => ys = [.g [.ints .u8 (32 : Nat) ([0, 0, 0, 0, 0, 0, 0, 0, 0, 0, 0, 0, 0, 0, 0, 0, 0, 0, 0, 0, 0, 0, 0, 0, 0, 0, 0, 0, 0, 0, 0, 0] : List Int)], .a (.i .i64 (41 : Int))] ∧ K' = []) :=
  Body.of_finK (Γ := gam31) (Λ := noLam) (Ψ := noPsi) (fuel := 0) (m := 20) (c := (Try.f82.body.getD .skip)) mix tabOkVL gam31_ok rfl (rs := [.cell 4 23, .tmp 5]) rfl rfl [true] [] 0
    (vc := [((!(ptOpen_1 s)) = true)]) (by kernel_rfl)
    (AllP_cons (by rw [hb0]; rfl) (AllP_nil))

def oneAdd (s : List Int) (p : List Int) : List Int :=
  (cond (ptOpen_1 s) (oneAdd_w0 s p) ([0, 0, 0, 0, 0, 0, 0, 0, 0, 0, 0, 0, 0, 0, 0, 0, 0, 0, 0, 0, 0, 0, 0, 0, 0, 0, 0, 0, 0, 0, 0, 0] : List Int))

def oneAdd_1 (s : List Int) : Int :=
  (cond (ptOpen_1 s) (0 : Int) (41 : Int))

set_option maxHeartbeats 1000000 in
theorem oneAdd_body (s : List Int) (p : List Int) (w : World) (rw : List Nat) (β : Env) : Body Try.prog (tabOf tabVL) Try.f82 ⟨w, rw, 0, β⟩ [.o (.g [.ints .u8 (32 : Nat) s]), .f 59 [.g [.ints .u64 (20 : Nat) p]] []] [] (fun ys K' => ys = [.g [.ints .u8 (32 : Nat) (oneAdd s p)], .a (.i .i64 (oneAdd_1 s))] ∧ K' = []) :=
  Body.lens (c := (Try.f82.body.getD .skip)) rfl fun h => by
    cases hb0 : (ptOpen_1 s)
    · exact (oneAdd_w1_body0 s p (h.vals 0 _ _ _ rfl) hb0 w rw β).mono fun _ _ hx => ⟨hx.1.trans (by rw [(show (oneAdd s p) = ([0, 0, 0, 0, 0, 0, 0, 0, 0, 0, 0, 0, 0, 0, 0, 0, 0, 0, 0, 0, 0, 0, 0, 0, 0, 0, 0, 0, 0, 0, 0, 0] : List Int) from (cond_f hb0)), (show (oneAdd_1 s) = (41 : Int) from (cond_f hb0))]), hx.2⟩
    · exact (oneAdd_w0_body0 s p (h.vals 0 _ _ _ rfl) hb0 w rw β).mono fun _ _ hx => ⟨hx.1.trans (by rw [(show (oneAdd s p) = (oneAdd_w0 s p) from (cond_t hb0)), (show (oneAdd_1 s) = (0 : Int) from (cond_t hb0))]), hx.2⟩

def gam35 : Gam := gcall 82 [] [.w, .w] (fun wk vs args => match wk, vs, args with | [], [], [.o (.g [.ints .u8 (32 : Nat) s]), .f 59 [.g [.ints .u64 (20 : Nat) p]] []] => some (True, [.g [.ints .u8 (32 : Nat) (oneAdd s p)], .a (.i .i64 (oneAdd_1 s))], []) | _, _, _ => none) gam31
theorem gam35_ok : GamOk Try.prog gam35 := gcall_ok tabOkVL Try.func82 gam31_ok Try.call82 (by
  intro wk vs args p xs K1 h hv
  split at h
  · simp only [Option.some.injEq, Prod.mk.injEq] at h; obtain ⟨rfl, rfl, rfl⟩ := h; exact fun caps w rw β => oneAdd_body _ _ w rw β
  · simp at h)

def apAdd_w0 (r : List Int) (s : List Int) : List Int :=
  (oneAdd s (ptOpen r))

set_option maxHeartbeats 1000000 in
theorem apAdd_w0_body0 (r : List Int) (s : List Int) (hv0 : List.length r = (32 : Nat)) (hv1 : List.length s = (32 : Nat)) (hb0 : (ptOpen_1 r) = true) (w : World) : Body Try.prog (tabOf tabVL) Try.f42 ⟨w, [], 0, noEnv⟩ (toA [.g [.ints .u8 (32 : Nat) r], .g [.ints .u8 (32 : Nat) s]]) [] (fun ys _ => ys = [.g [.ints .u8 (32 : Nat) (apAdd_w0 r s)], .a (.i .i64 (oneAdd_1 s))]) :=
  Body.of_fin (Γ := gam35) (Λ := noLam) (Ψ := noPsi) (fuel := 0) (m := 22) (c := (Try.f42.body.getD .skip)) mix tabOkVL gam35_ok rfl (rs := [.cell 4 23, .tmp 5]) rfl rfl [false] []
    (vc := [((True ∧ (True ∧ True)) ∧ True), ((!(ptOpen_1 r)) = false)]) (by kernel_rfl)
    (AllP_cons ⟨⟨trivial, ⟨trivial, trivial⟩⟩, trivial⟩ (AllP_cons (by rw [hb0]; rfl) (AllP_nil)))

set_option maxHeartbeats 1000000 in
theorem apAdd_w1_body0 (r : List Int) (s : List Int) (hv0 : List.length r = (32 : Nat)) (hv1 : List.length s = (32 : Nat)) (hb0 : (ptOpen_1 r) = false) (w : World) : Body Try.prog (tabOf tabVL) Try.f42 ⟨w, [], 0, noEnv⟩ (toA [.g [.ints .u8 (32 : Nat) r], .g [.ints .u8 (32 : Nat) s]]) [] (fun ys _ => ys = [.g [.ints .u8 (32 : Nat) ([0, 0, 0, 0, 0, 0, 0, 0, 0, 0, 0, 0, 0, 0, 0, 0, 0, 0, 0, 0, 0, 0, 0, 0, 0, 0, 0, 0, 0, 0, 0, 0] : List Int)], .a (.i .i64 (41 : Int))]) :=
  Body.of_fin (Γ := gam35) (Λ := noLam) (Ψ := noPsi) (fuel := 0) (m := 22) (c := (Try.f42.body.getD .skip)) mix tabOkVL gam35_ok rfl (rs := [.cell 4 23, .tmp 5]) rfl rfl [true] []
    (vc := [((!(ptOpen_1 r)) = true)]) (by kernel_rfl)
    (AllP_cons (by rw [hb0]; rfl) (AllP_nil))

def apAdd (r : List Int) (s : List Int) : List Int :=
  (cond (ptOpen_1 r) (apAdd_w0 r s) ([0, 0, 0, 0, 0, 0, 0, 0, 0, 0, 0, 0, 0, 0, 0, 0, 0, 0, 0, 0, 0, 0, 0, 0, 0, 0, 0, 0, 0, 0, 0, 0] : List Int))

def apAdd_1 (r : List Int) (s : List Int) : Int :=
  (cond (ptOpen_1 r) (oneAdd_1 s) (41 : Int))

set_option maxHeartbeats 1000000 in
theorem apAdd_body (r : List Int) (s : List Int) (w : World) : Body Try.prog (tabOf tabVL) Try.f42 ⟨w, [], 0, noEnv⟩ (toA [.g [.ints .u8 (32 : Nat) r], .g [.ints .u8 (32 : Nat) s]]) [] (fun ys _ => ys = [.g [.ints .u8 (32 : Nat) (apAdd r s)], .a (.i .i64 (apAdd_1 r s))]) :=
  Body.lens (c := (Try.f42.body.getD .skip)) rfl fun h => by
    cases hb0 : (ptOpen_1 r)
    · exact (apAdd_w1_body0 r s (h.vals 0 _ _ _ rfl) (h.vals 1 _ _ _ rfl) hb0 w).mono fun _ _ hx => hx.trans (by rw [(show (apAdd r s) = ([0, 0, 0, 0, 0, 0, 0, 0, 0, 0, 0, 0, 0, 0, 0, 0, 0, 0, 0, 0, 0, 0, 0, 0, 0, 0, 0, 0, 0, 0, 0, 0] : List Int) from (cond_f hb0)), (show (apAdd_1 r s) = (41 : Int) from (cond_f hb0))])
    · exact (apAdd_w0_body0 r s (h.vals 0 _ _ _ rfl) (h.vals 1 _ _ _ rfl) hb0 w).mono fun _ _ hx => hx.trans (by rw [(show (apAdd r s) = (apAdd_w0 r s) from (cond_t hb0)), (show (apAdd_1 r s) = (oneAdd_1 s) from (cond_t hb0))])

theorem apAdd_pure (r : List Int) (s : List Int) : PureC Try.prog 42 [.g [.ints .u8 (32 : Nat) r], .g [.ints .u8 (32 : Nat) s]] [.g [.ints .u8 (32 : Nat) (apAdd r s)], .a (.i .i64 (apAdd_1 r s))] :=
  PureC.of_body tabOkVL Try.func42 rfl rfl fun w => apAdd_body r s w

def gam36 : Gam := gpure 42 (fun args => match args with | [.o (.g [.ints .u8 (32 : Nat) r]), .o (.g [.ints .u8 (32 : Nat) s])] => some (none, [.g [.ints .u8 (32 : Nat) (apAdd r s)], .a (.i .i64 (apAdd_1 r s))]) | _ => none) gam35
theorem gam36_ok : GamOk Try.prog gam36 := gpure_ok gam35_ok Try.call42 (by
  intro args vc xs h hv
  split at h
  · simp only [Option.some.injEq, Prod.mk.injEq] at h; obtain ⟨rfl, rfl⟩ := h; exact ⟨_, by rfl, apAdd_pure _ _⟩
  · simp at h)

def oneDbl_w0 (s : List Int) : List Int :=
  (ptForm (ptDbl (ptOpen s)))

set_option maxHeartbeats 1000000 in
theorem oneDbl_w0_body0 (s : List Int) (hv0 : List.length s = (32 : Nat)) (hb0 : (ptOpen_1 s) = true) (w : World) (rw : List Nat) (β : Env) : Body Try.prog (tabOf tabVL) Try.f82 ⟨w, rw, 0, β⟩ [.o (.g [.ints .u8 (32 : Nat) s]), .f 85 [] []] [] (fun ys K' => ys = [.g [.ints .u8 (32 : Nat) (oneDbl_w0 s)], .a (.i .i64 (0 : Int))] ∧ K' = []) :=
  Body.of_finK (Γ := gam36) (Λ := noLam) (Ψ := noPsi) (fuel := 0) (m := 20) (c := (Try.f82.body.getD .skip)) mix tabOkVL gam36_ok rfl (rs := [.cell 4 23, .tmp 5]) rfl rfl [false] [] 0
    (vc := [((!(ptOpen_1 s)) = false)]) (by kernel_rfl)
    (AllP_cons (by rw [hb0]; rfl) (AllP_nil))

set_option maxHeartbeats 1000000 in
theorem oneDbl_w1_body0 (s : List Int) (hv0 : List.length s = (32 : Nat)) (hb0 : (ptOpen_1 s) = false) (w : World) (rw : List Nat) (β : Env) : Body Try.prog (tabOf tabVL) Try.f82 ⟨w, rw, 0, β⟩ [.o (.g [.ints .u8 (32 : Nat) s]), .f 85 [] []] [] (fun ys K' => ys = [.g [.ints .u8 (32 : Nat) ([0, 0, 0, 0, 0, 0, 0, 0, 0, 0, 0, 0, 0, 0, 0, 0, 0, 0, 0, 0, 0, 0, 0, 0, 0, 0, 0, 0, 0, 0, 0, 0] : List Int)], .a (.i .i64 (41 : Int))] ∧ K' = []) :=
  Body.of_finK (Γ := gam36) (Λ := noLam) (Ψ := noPsi) (fuel := 0) (m := 20) (c := (Try.f82.body.getD .skip)) mix tabOkVL gam36_ok rfl (rs := [.cell 4 23, .tmp 5]) rfl rfl [true] [] 0
    (vc := [((!(ptOpen_1 s)) = true)]) (by kernel_rfl)
    (AllP_cons (by rw [hb0]; rfl) (AllP_nil))

def oneDbl (s : List Int) : List Int :=
  (cond (ptOpen_1 s) (oneDbl_w0 s) ([0, 0, 0, 0, 0, 0, 0, 0, 0, 0, 0, 0, 0, 0, 0, 0, 0, 0, 0, 0, 0, 0, 0, 0, 0, 0, 0, 0, 0, 0, 0, 0] : List Int))

def oneDbl_1 (s : List Int) : Int :=
  (cond (ptOpen_1 s) (0 : Int) (41 : Int))

set_option maxHeartbeats 1000000 in
theorem oneDbl_body (s : List Int) (w : World) (rw : List Nat) (β : Env) : Body Try.prog (tabOf tabVL) Try.f82 ⟨w, rw, 0, β⟩ [.o (.g [.ints .u8 (32 : Nat) s]), .f 85 [] []] [] (fun ys K' => ys = [.g [.ints .u8 (32 : Nat) (oneDbl s)], .a (.i .i64 (oneDbl_1 s))] ∧ K' = []) :=
  Body.lens (c := (Try.f82.body.getD .skip)) rfl fun h => by
    cases hb0 : (ptOpen_1 s)
    · exact (oneDbl_w1_body0 s (h.vals 0 _ _ _ rfl) hb0 w rw β).mono fun _ _ hx => ⟨hx.1.trans (by rw [(show (oneDbl s) = ([0, 0, 0, 0, 0, 0, 0, 0, 0, 0, 0, 0, 0, 0, 0, 0, 0, 0, 0, 0, 0, 0, 0, 0, 0, 0, 0, 0, 0, 0, 0, 0] : List Int) from (cond_f hb0)), (show (oneDbl_1 s) = (41 : Int) from (cond_f hb0))]), hx.2⟩
    · exact (oneDbl_w0_body0 s (h.vals 0 _ _ _ rfl) hb0 w rw β).mono fun _ _ hx => ⟨hx.1.trans (by rw [(show (oneDbl s) = (oneDbl_w0 s) from (cond_t hb0)), (show (oneDbl_1 s) = (0 : Int) from (cond_t hb0))]), hx.2⟩

def gam41 : Gam := gcall 82 [] [.w, .w] (fun wk vs args => match wk, vs, args with | [], [], [.o (.g [.ints .u8 (32 : Nat) s]), .f 85 [] []] => some (True, [.g [.ints .u8 (32 : Nat) (oneDbl s)], .a (.i .i64 (oneDbl_1 s))], []) | _, _, _ => none) gam36
theorem gam41_ok : GamOk Try.prog gam41 := gcall_ok tabOkVL Try.func82 gam36_ok Try.call82 (by
  intro wk vs args p xs K1 h hv
  split at h
  · simp only [Option.some.injEq, Prod.mk.injEq] at h; obtain ⟨rfl, rfl, rfl⟩ := h; exact fun caps w rw β => oneDbl_body _ w rw β
  · simp at h)

end Go.Proofs.Ytodiojpakfjehaa.X

/- Printed by a tool of this session. -/
namespace Go.Proofs.Ytodiojpakfjehaa.X
open Go Go.Proofs
set_option linter.unusedVariables false
set_option linter.unusedSimpArgs false
set_option maxRecDepth 100000
theorem teVM_5 : TEOk Try.prog 5 ⟨.int .u8, 1, 1, [.i .u8 (0 : Int)], false⟩ :=
  TEOk.of Try.underlying5 (i := Try.t5) (by kernel_rfl) rfl rfl rfl (by kernel_rfl) (fun h => by cases h) (by kernel_rfl)
theorem teVM_23 : TEOk Try.prog 23 ⟨.array 32 5, 32, 32, [.ints .u8 (32 : Nat) ([0, 0, 0, 0, 0, 0, 0, 0, 0, 0, 0, 0, 0, 0, 0, 0, 0, 0, 0, 0, 0, 0, 0, 0, 0, 0, 0, 0, 0, 0, 0, 0] : List Int)], true⟩ :=
  TEOk.of Try.underlying23 (i := Try.t23) (by kernel_rfl) rfl rfl rfl (by kernel_rfl) (fun _ => Try.eqGuardType23) (by kernel_rfl)
theorem teVM_24 : TEOk Try.prog 24 ⟨.array 32 5, 32, 32, [.ints .u8 (32 : Nat) ([0, 0, 0, 0, 0, 0, 0, 0, 0, 0, 0, 0, 0, 0, 0, 0, 0, 0, 0, 0, 0, 0, 0, 0, 0, 0, 0, 0, 0, 0, 0, 0] : List Int)], true⟩ :=
  TEOk.of Try.underlying24 (i := Try.t24) (by kernel_rfl) rfl rfl rfl (by kernel_rfl) (fun _ => Try.eqGuardType24) (by kernel_rfl)
theorem teVM_37 : TEOk Try.prog 37 ⟨.array 32 5, 32, 32, [.ints .u8 (32 : Nat) ([0, 0, 0, 0, 0, 0, 0, 0, 0, 0, 0, 0, 0, 0, 0, 0, 0, 0, 0, 0, 0, 0, 0, 0, 0, 0, 0, 0, 0, 0, 0, 0] : List Int)], true⟩ :=
  TEOk.of Try.underlying37 (i := Try.t37) (by kernel_rfl) rfl rfl rfl (by kernel_rfl) (fun _ => Try.eqGuardType37) (by kernel_rfl)
theorem teVM_92 : TEOk Try.prog 92 ⟨.array 5 90, 5, 40, [.ints .u64 (5 : Nat) ([0, 0, 0, 0, 0] : List Int)], true⟩ :=
  TEOk.of Try.underlying92 (i := Try.t92) (by kernel_rfl) rfl rfl rfl (by kernel_rfl) (fun _ => Try.eqGuardType92) (by kernel_rfl)
theorem teVM_94 : TEOk Try.prog 94 ⟨Try.t93.desc, 20, 160, [.ints .u64 (20 : Nat) ([0, 0, 0, 0, 0, 0, 0, 0, 0, 0, 0, 0, 0, 0, 0, 0, 0, 0, 0, 0] : List Int)], false⟩ :=
  TEOk.of Try.underlying94 (i := Try.t94) (by kernel_rfl) rfl rfl rfl (by kernel_rfl) (fun h => by cases h) (by kernel_rfl)
noncomputable def tabVM : List (Nat × TE) := [(5, ⟨.int .u8, 1, 1, [.i .u8 (0 : Int)], false⟩), (23, ⟨.array 32 5, 32, 32, [.ints .u8 (32 : Nat) ([0, 0, 0, 0, 0, 0, 0, 0, 0, 0, 0, 0, 0, 0, 0, 0, 0, 0, 0, 0, 0, 0, 0, 0, 0, 0, 0, 0, 0, 0, 0, 0] : List Int)], true⟩), (24, ⟨.array 32 5, 32, 32, [.ints .u8 (32 : Nat) ([0, 0, 0, 0, 0, 0, 0, 0, 0, 0, 0, 0, 0, 0, 0, 0, 0, 0, 0, 0, 0, 0, 0, 0, 0, 0, 0, 0, 0, 0, 0, 0] : List Int)], true⟩), (37, ⟨.array 32 5, 32, 32, [.ints .u8 (32 : Nat) ([0, 0, 0, 0, 0, 0, 0, 0, 0, 0, 0, 0, 0, 0, 0, 0, 0, 0, 0, 0, 0, 0, 0, 0, 0, 0, 0, 0, 0, 0, 0, 0] : List Int)], true⟩), (92, ⟨.array 5 90, 5, 40, [.ints .u64 (5 : Nat) ([0, 0, 0, 0, 0] : List Int)], true⟩), (94, ⟨Try.t93.desc, 20, 160, [.ints .u64 (20 : Nat) ([0, 0, 0, 0, 0, 0, 0, 0, 0, 0, 0, 0, 0, 0, 0, 0, 0, 0, 0, 0] : List Int)], false⟩)]
theorem tabOkVM : TabOk Try.prog (tabOf tabVM) := (tabOf_cons teVM_5 (tabOf_cons teVM_23 (tabOf_cons teVM_24 (tabOf_cons teVM_37 (tabOf_cons teVM_92 (tabOf_cons teVM_94 tabOf_nil))))))

set_option maxHeartbeats 1000000 in
theorem apCheck_w0_body0 (s : List Int) (hv0 : List.length s = (32 : Nat)) (hb0 : (ptOpen_1 s) = true) (w : World) : Body Try.prog (tabOf tabVM) Try.f14 ⟨w, [], 0, noEnv⟩ (toA [.g [.ints .u8 (32 : Nat) s]]) [] (fun ys _ => ys = [.a (.i .i64 (0 : Int))]) :=
  Body.of_fin (Γ := gam41) (Λ := noLam) (Ψ := noPsi) (fuel := 0) (m := 12) (c := (Try.f14.body.getD .skip)) mix tabOkVM gam41_ok rfl (rs := [.tmp 2]) rfl rfl [false] []
    (vc := [((!(ptOpen_1 s)) = false)]) (by kernel_rfl)
    (AllP_cons (by rw [hb0]; rfl) (AllP_nil))

set_option maxHeartbeats 1000000 in
theorem apCheck_w1_body0 (s : List Int) (hv0 : List.length s = (32 : Nat)) (hb0 : (ptOpen_1 s) = false) (w : World) : Body Try.prog (tabOf tabVM) Try.f14 ⟨w, [], 0, noEnv⟩ (toA [.g [.ints .u8 (32 : Nat) s]]) [] (fun ys _ => ys = [.a (.i .i64 (41 : Int))]) :=
  Body.of_fin (Γ := gam41) (Λ := noLam) (Ψ := noPsi) (fuel := 0) (m := 12) (c := (Try.f14.body.getD .skip)) mix tabOkVM gam41_ok rfl (rs := [.tmp 2]) rfl rfl [true] []
    (vc := [((!(ptOpen_1 s)) = true)]) (by kernel_rfl)
    (AllP_cons (by rw [hb0]; rfl) (AllP_nil))

def apCheck (s : List Int) : Int :=
  (cond (ptOpen_1 s) (0 : Int) (41 : Int))

set_option maxHeartbeats 1000000 in
theorem apCheck_body (s : List Int) (w : World) : Body Try.prog (tabOf tabVM) Try.f14 ⟨w, [], 0, noEnv⟩ (toA [.g [.ints .u8 (32 : Nat) s]]) [] (fun ys _ => ys = [.a (.i .i64 (apCheck s))]) :=
  Body.lens (c := (Try.f14.body.getD .skip)) rfl fun h => by
    cases hb0 : (ptOpen_1 s)
    · exact (apCheck_w1_body0 s (h.vals 0 _ _ _ rfl) hb0 w).mono fun _ _ hx => hx.trans (by rw [(show (apCheck s) = (41 : Int) from (cond_f hb0))])
    · exact (apCheck_w0_body0 s (h.vals 0 _ _ _ rfl) hb0 w).mono fun _ _ hx => hx.trans (by rw [(show (apCheck s) = (0 : Int) from (cond_t hb0))])

theorem apCheck_pure (s : List Int) : PureC Try.prog 14 [.g [.ints .u8 (32 : Nat) s]] [.a (.i .i64 (apCheck s))] :=
  PureC.of_body tabOkVM Try.func14 rfl rfl fun w => apCheck_body s w

def gam47 : Gam := gpure 14 (fun args => match args with | [.o (.g [.ints .u8 (32 : Nat) s])] => some (none, [.a (.i .i64 (apCheck s))]) | _ => none) gam41
theorem gam47_ok : GamOk Try.prog gam47 := gpure_ok gam41_ok Try.call14 (by
  intro args vc xs h hv
  split at h
  · simp only [Option.some.injEq, Prod.mk.injEq] at h; obtain ⟨rfl, rfl⟩ := h; exact ⟨_, by rfl, apCheck_pure _⟩
  · simp at h)

def apBase : List Int :=
  (ptForm (ptB))

set_option maxHeartbeats 1000000 in
theorem apBase_body0 (w : World) : Body Try.prog (tabOf tabVM) Try.f23 ⟨w, [], 0, noEnv⟩ (toA []) [] (fun ys _ => ys = [.g [.ints .u8 (32 : Nat) (apBase)]]) :=
  Body.of_fin (Γ := gam47) (Λ := noLam) (Ψ := noPsi) (fuel := 0) (m := 3) (c := (Try.f23.body.getD .skip)) mix tabOkVM gam47_ok rfl (rs := [.cell 0 23]) rfl rfl [] []
    (vc := []) (by kernel_rfl)
    (AllP_nil)

theorem apBase_body (w : World) : Body Try.prog (tabOf tabVM) Try.f23 ⟨w, [], 0, noEnv⟩ (toA []) [] (fun ys _ => ys = [.g [.ints .u8 (32 : Nat) (apBase)]]) :=
  Body.lens (c := (Try.f23.body.getD .skip)) rfl fun h => apBase_body0  w

theorem apBase_pure : PureC Try.prog 23 [] [.g [.ints .u8 (32 : Nat) (apBase)]] :=
  PureC.of_body tabOkVM Try.func23 rfl rfl fun w => apBase_body w

def gam49 : Gam := gpure 23 (fun args => match args with | [] => some (none, [.g [.ints .u8 (32 : Nat) (apBase)]]) | _ => none) gam47
theorem gam49_ok : GamOk Try.prog gam49 := gpure_ok gam47_ok Try.call23 (by
  intro args vc xs h hv
  split at h
  · simp only [Option.some.injEq, Prod.mk.injEq] at h; obtain ⟨rfl, rfl⟩ := h; exact ⟨_, by rfl, apBase_pure⟩
  · simp at h)

def apMulB (K : List Int) : List Int :=
  (ptForm (ptMul (ptB) K))

set_option maxHeartbeats 1000000 in
theorem apMulB_body0 (K : List Int) (hv0 : List.length K = (32 : Nat)) (w : World) : Body Try.prog (tabOf tabVM) Try.f22 ⟨w, [], 0, noEnv⟩ (toA [.g [.ints .u8 (32 : Nat) K]]) [] (fun ys _ => ys = [.g [.ints .u8 (32 : Nat) (apMulB K)]]) :=
  Body.of_fin (Γ := gam49) (Λ := noLam) (Ψ := noPsi) (fuel := 0) (m := 7) (c := (Try.f22.body.getD .skip)) mix tabOkVM gam49_ok rfl (rs := [.cell 2 23]) rfl rfl [] []
    (vc := []) (by kernel_rfl)
    (AllP_nil)

theorem apMulB_body (K : List Int) (w : World) : Body Try.prog (tabOf tabVM) Try.f22 ⟨w, [], 0, noEnv⟩ (toA [.g [.ints .u8 (32 : Nat) K]]) [] (fun ys _ => ys = [.g [.ints .u8 (32 : Nat) (apMulB K)]]) :=
  Body.lens (c := (Try.f22.body.getD .skip)) rfl fun h => apMulB_body0 K (h.vals 0 _ _ _ rfl) w

theorem apMulB_pure (K : List Int) : PureC Try.prog 22 [.g [.ints .u8 (32 : Nat) K]] [.g [.ints .u8 (32 : Nat) (apMulB K)]] :=
  PureC.of_body tabOkVM Try.func22 rfl rfl fun w => apMulB_body K w

def gam52 : Gam := gpure 22 (fun args => match args with | [.o (.g [.ints .u8 (32 : Nat) K])] => some (none, [.g [.ints .u8 (32 : Nat) (apMulB K)]]) | _ => none) gam49
theorem gam52_ok : GamOk Try.prog gam52 := gpure_ok gam49_ok Try.call22 (by
  intro args vc xs h hv
  split at h
  · simp only [Option.some.injEq, Prod.mk.injEq] at h; obtain ⟨rfl, rfl⟩ := h; exact ⟨_, by rfl, apMulB_pure _⟩
  · simp at h)

def apPrime_w0 (s : List Int) : Bool :=
  (ptIsId (ptMul (ptOpen s) ([237, 211, 245, 92, 26, 99, 18, 88, 214, 156, 247, 162, 222, 249, 222, 20, 0, 0, 0, 0, 0, 0, 0, 0, 0, 0, 0, 0, 0, 0, 0, 16] : List Int)))

set_option maxHeartbeats 1000000 in
theorem apPrime_w0_body0 (s : List Int) (hv0 : List.length s = (32 : Nat)) (hb0 : (ptOpen_1 s) = true) (w : World) : Body Try.prog (tabOf tabVM) Try.f38 ⟨w, [], 0, noEnv⟩ (toA [.g [.ints .u8 (32 : Nat) s]]) [] (fun ys _ => ys = [.a (.b (apPrime_w0 s)), .a (.i .i64 (0 : Int))]) :=
  Body.of_fin (Γ := gam52) (Λ := noLam) (Ψ := noPsi) (fuel := 0) (m := 17) (c := (Try.f38.body.getD .skip)) mix tabOkVM gam52_ok rfl (rs := [.tmp 2, .tmp 3]) rfl rfl [false] []
    (vc := [((!(ptOpen_1 s)) = false)]) (by kernel_rfl)
    (AllP_cons (by rw [hb0]; rfl) (AllP_nil))

set_option maxHeartbeats 1000000 in
theorem apPrime_w1_body0 (s : List Int) (hv0 : List.length s = (32 : Nat)) (hb0 : (ptOpen_1 s) = false) (w : World) : Body Try.prog (tabOf tabVM) Try.f38 ⟨w, [], 0, noEnv⟩ (toA [.g [.ints .u8 (32 : Nat) s]]) [] (fun ys _ => ys = [.a (.b false), .a (.i .i64 (41 : Int))]) :=
  Body.of_fin (Γ := gam52) (Λ := noLam) (Ψ := noPsi) (fuel := 0) (m := 17) (c := (Try.f38.body.getD .skip)) mix tabOkVM gam52_ok rfl (rs := [.tmp 2, .tmp 3]) rfl rfl [true] []
    (vc := [((!(ptOpen_1 s)) = true)]) (by kernel_rfl)
    (AllP_cons (by rw [hb0]; rfl) (AllP_nil))

def apPrime (s : List Int) : Bool :=
  (cond (ptOpen_1 s) (apPrime_w0 s) false)

def apPrime_1 (s : List Int) : Int :=
  (cond (ptOpen_1 s) (0 : Int) (41 : Int))

set_option maxHeartbeats 1000000 in
theorem apPrime_body (s : List Int) (w : World) : Body Try.prog (tabOf tabVM) Try.f38 ⟨w, [], 0, noEnv⟩ (toA [.g [.ints .u8 (32 : Nat) s]]) [] (fun ys _ => ys = [.a (.b (apPrime s)), .a (.i .i64 (apPrime_1 s))]) :=
  Body.lens (c := (Try.f38.body.getD .skip)) rfl fun h => by
    cases hb0 : (ptOpen_1 s)
    · exact (apPrime_w1_body0 s (h.vals 0 _ _ _ rfl) hb0 w).mono fun _ _ hx => hx.trans (by rw [(show (apPrime s) = false from (cond_f hb0)), (show (apPrime_1 s) = (41 : Int) from (cond_f hb0))])
    · exact (apPrime_w0_body0 s (h.vals 0 _ _ _ rfl) hb0 w).mono fun _ _ hx => hx.trans (by rw [(show (apPrime s) = (apPrime_w0 s) from (cond_t hb0)), (show (apPrime_1 s) = (0 : Int) from (cond_t hb0))])

theorem apPrime_pure (s : List Int) : PureC Try.prog 38 [.g [.ints .u8 (32 : Nat) s]] [.a (.b (apPrime s)), .a (.i .i64 (apPrime_1 s))] :=
  PureC.of_body tabOkVM Try.func38 rfl rfl fun w => apPrime_body s w

def gam53 : Gam := gpure 38 (fun args => match args with | [.o (.g [.ints .u8 (32 : Nat) s])] => some (none, [.a (.b (apPrime s)), .a (.i .i64 (apPrime_1 s))]) | _ => none) gam52
theorem gam53_ok : GamOk Try.prog gam53 := gpure_ok gam52_ok Try.call38 (by
  intro args vc xs h hv
  split at h
  · simp only [Option.some.injEq, Prod.mk.injEq] at h; obtain ⟨rfl, rfl⟩ := h; exact ⟨_, by rfl, apPrime_pure _⟩
  · simp at h)

end Go.Proofs.Ytodiojpakfjehaa.X

/- What the functions of the package answer, as points of the curve. -/
namespace Go.Proofs.Ytodiojpakfjehaa.X
open Go Go.Proofs
set_option linter.unusedVariables false
set_option linter.unusedSimpArgs false
set_option maxRecDepth 100000

instance eDec : DecidableEq E := fun a b => if h : a.1 = b.1 then isTrue (Ep.ext h) else isFalse fun e => h (congrArg Subtype.val e)
def z32 : List Int := [0, 0, 0, 0, 0, 0, 0, 0, 0, 0, 0, 0, 0, 0, 0, 0, 0, 0, 0, 0, 0, 0, 0, 0, 0, 0, 0, 0, 0, 0, 0, 0]
theorem op_enc (p : E) : ptOpen_1 (encE p) = true ∧ LA (ptOpen (encE p)) p := (open_ok (encE_byt p) (encE_len p)).2 p (dec_enc p)
theorem op1 (p : E) : ptOpen_1 (encE p) = true := (op_enc p).1
theorem op2 (p : E) : LP (ptOpen (encE p)) p := (op_enc p).2.lp
theorem add_enc (p q : E) : apAdd (encE p) (encE q) = encE (ad p q) := by
  refine (cond_t (op1 p)).trans ((cond_t (op1 q)).trans ?_)
  exact form_ok (lp_add (op2 p) (op2 q))
theorem addc_enc (p q : E) : apAdd_1 (encE p) (encE q) = 0 := (cond_t (op1 p)).trans (cond_t (op1 q))
theorem chk_enc (p : E) : apCheck (encE p) = 0 := cond_t (op1 p)
theorem chk_none {s : List Int} (h : Byt s) (l : s.length = 32) (hd : decE s = none) : apCheck s = 41 := cond_f ((open_ok h l).1 hd)
theorem base_enc : apBase = encE eB := form_ok lp_base
theorem mulB_enc {K : List Int} (hK : Byt K) (l : K.length = 32) : apMulB K = encE (mu (BV K).toNat eB) := form_ok (lp_mul lp_base hK l)
section ring
variable {K : Type} [Lean.Grind.CommRing K]
end ring
theorem isid_ok {l : List Int} {p : E} (h : LP l p) : ptIsId l = decide (p = E0) := by
  obtain ⟨⟨_, x, y, z, _⟩, q⟩ := h
  have k := qr_zero q
  have s1 := same_ok x zero5.1
  have s2 := same_ok y z
  rw [zero5.2] at s1
  unfold ptIsId ptIsId_w0
  rw [s1, s2]
  by_cases h1 : fv (sub l 0 5) = 0
  · rw [decide_eq_true h1]
    show decide _ = _
    refine decide_eq_decide.2 ⟨fun h2 => k.2 ⟨h1, h2⟩, fun h2 => (k.1 h2).2⟩
  · rw [decide_eq_false h1]
    exact (decide_eq_false fun h2 => h1 (k.1 h2).1).symm
theorem ordL_BV : (BV [237, 211, 245, 92, 26, 99, 18, 88, 214, 156, 247, 162, 222, 249, 222, 20, 0, 0, 0, 0, 0, 0, 0, 0, 0, 0, 0, 0, 0, 0, 0, 16]).toNat = LN := by decide +kernel
theorem ordL_byt : Byt [237, 211, 245, 92, 26, 99, 18, 88, 214, 156, 247, 162, 222, 249, 222, 20, 0, 0, 0, 0, 0, 0, 0, 0, 0, 0, 0, 0, 0, 0, 0, 16] := byt_small (by decide)
theorem mulL_ok {l : List Int} {p : E} (h : LP l p) : ptIsId (ptMul l [237, 211, 245, 92, 26, 99, 18, 88, 214, 156, 247, 162, 222, 249, 222, 20, 0, 0, 0, 0, 0, 0, 0, 0, 0, 0, 0, 0, 0, 0, 0, 16]) = decide (mu LN p = E0) := by
  have k := isid_ok (lp_mul h ordL_byt rfl)
  rw [ordL_BV] at k
  exact k
theorem prime_enc (p : E) : apPrime (encE p) = decide (mu LN p = E0) ∧ apPrime_1 (encE p) = 0 :=
  ⟨(cond_t (op1 p)).trans (mulL_ok (op2 p)), cond_t (op1 p)⟩
end Go.Proofs.Ytodiojpakfjehaa.X

/- Printed by a tool of this session. -/
namespace Go.Proofs.Ytodiojpakfjehaa.X
open Go Go.Proofs
set_option linter.unusedVariables false
set_option linter.unusedSimpArgs false
set_option maxRecDepth 100000
theorem teVN_5 : TEOk Try.prog 5 ⟨.int .u8, 1, 1, [.i .u8 (0 : Int)], false⟩ :=
  TEOk.of Try.underlying5 (i := Try.t5) (by kernel_rfl) rfl rfl rfl (by kernel_rfl) (fun h => by cases h) (by kernel_rfl)
theorem teVN_23 : TEOk Try.prog 23 ⟨.array 32 5, 32, 32, [.ints .u8 (32 : Nat) ([0, 0, 0, 0, 0, 0, 0, 0, 0, 0, 0, 0, 0, 0, 0, 0, 0, 0, 0, 0, 0, 0, 0, 0, 0, 0, 0, 0, 0, 0, 0, 0] : List Int)], true⟩ :=
  TEOk.of Try.underlying23 (i := Try.t23) (by kernel_rfl) rfl rfl rfl (by kernel_rfl) (fun _ => Try.eqGuardType23) (by kernel_rfl)
theorem teVN_32 : TEOk Try.prog 32 ⟨.slice 5, 1, 24, [.raw (.slice none 0 0)], false⟩ :=
  TEOk.of Try.underlying32 (i := Try.t32) (by kernel_rfl) rfl rfl rfl (by kernel_rfl) (fun h => by cases h) (by kernel_rfl)
theorem teVN_37 : TEOk Try.prog 37 ⟨.array 32 5, 32, 32, [.ints .u8 (32 : Nat) ([0, 0, 0, 0, 0, 0, 0, 0, 0, 0, 0, 0, 0, 0, 0, 0, 0, 0, 0, 0, 0, 0, 0, 0, 0, 0, 0, 0, 0, 0, 0, 0] : List Int)], true⟩ :=
  TEOk.of Try.underlying37 (i := Try.t37) (by kernel_rfl) rfl rfl rfl (by kernel_rfl) (fun _ => Try.eqGuardType37) (by kernel_rfl)
theorem teVN_45 : TEOk Try.prog 45 ⟨.slice 23, 1, 24, [.raw (.slice none 0 0)], false⟩ :=
  TEOk.of Try.underlying45 (i := Try.t45) (by kernel_rfl) rfl rfl rfl (by kernel_rfl) (fun h => by cases h) (by kernel_rfl)
theorem teVN_94 : TEOk Try.prog 94 ⟨Try.t93.desc, 20, 160, [.ints .u64 (20 : Nat) ([0, 0, 0, 0, 0, 0, 0, 0, 0, 0, 0, 0, 0, 0, 0, 0, 0, 0, 0, 0] : List Int)], false⟩ :=
  TEOk.of Try.underlying94 (i := Try.t94) (by kernel_rfl) rfl rfl rfl (by kernel_rfl) (fun h => by cases h) (by kernel_rfl)
noncomputable def tabVN : List (Nat × TE) := [(5, ⟨.int .u8, 1, 1, [.i .u8 (0 : Int)], false⟩), (23, ⟨.array 32 5, 32, 32, [.ints .u8 (32 : Nat) ([0, 0, 0, 0, 0, 0, 0, 0, 0, 0, 0, 0, 0, 0, 0, 0, 0, 0, 0, 0, 0, 0, 0, 0, 0, 0, 0, 0, 0, 0, 0, 0] : List Int)], true⟩), (32, ⟨.slice 5, 1, 24, [.raw (.slice none 0 0)], false⟩), (37, ⟨.array 32 5, 32, 32, [.ints .u8 (32 : Nat) ([0, 0, 0, 0, 0, 0, 0, 0, 0, 0, 0, 0, 0, 0, 0, 0, 0, 0, 0, 0, 0, 0, 0, 0, 0, 0, 0, 0, 0, 0, 0, 0] : List Int)], true⟩), (45, ⟨.slice 23, 1, 24, [.raw (.slice none 0 0)], false⟩), (94, ⟨Try.t93.desc, 20, 160, [.ints .u64 (20 : Nat) ([0, 0, 0, 0, 0, 0, 0, 0, 0, 0, 0, 0, 0, 0, 0, 0, 0, 0, 0, 0] : List Int)], false⟩)]
theorem tabOkVN : TabOk Try.prog (tabOf tabVN) := (tabOf_cons teVN_5 (tabOf_cons teVN_23 (tabOf_cons teVN_32 (tabOf_cons teVN_37 (tabOf_cons teVN_45 (tabOf_cons teVN_94 tabOf_nil))))))

set_option maxHeartbeats 1000000 in
theorem num_body0 (x : Int) (w : World) : Body Try.prog (tabOf tabVN) Try.f43 ⟨w, [], 0, noEnv⟩ (toA [.a (.i .i64 x)]) [] (fun ys _ => ys = [.a (.i .i64 x)]) :=
  Body.of_fin (Γ := gam53) (Λ := noLam) (Ψ := noPsi) (fuel := 0) (m := 4) (c := (Try.f43.body.getD .skip)) mix tabOkVN gam53_ok rfl (rs := [.tmp 2]) rfl rfl [] []
    (vc := []) (by kernel_rfl)
    (AllP_nil)

theorem num_body (x : Int) (w : World) : Body Try.prog (tabOf tabVN) Try.f43 ⟨w, [], 0, noEnv⟩ (toA [.a (.i .i64 x)]) [] (fun ys _ => ys = [.a (.i .i64 x)]) :=
  Body.lens (c := (Try.f43.body.getD .skip)) rfl fun h => num_body0 x  w

theorem num_pure (x : Int) : PureC Try.prog 43 [.a (.i .i64 x)] [.a (.i .i64 x)] :=
  PureC.of_body tabOkVN Try.func43 rfl rfl fun w => num_body x w

def gam57 : Gam := gpure 43 (fun args => match args with | [.o (.a (.i .i64 x))] => some (none, [.a (.i .i64 x)]) | _ => none) gam53
theorem gam57_ok : GamOk Try.prog gam57 := gpure_ok gam53_ok Try.call43 (by
  intro args vc xs h hv
  split at h
  · simp only [Option.some.injEq, Prod.mk.injEq] at h; obtain ⟨rfl, rfl⟩ := h; exact ⟨_, by rfl, num_pure _⟩
  · simp at h)

set_option maxHeartbeats 1000000 in
theorem apDecE_body0 (n : Nat) (nm : Nat) (b : List Int) (cap0 : Nat) (h0 : (nm = n)) (h1 : (n ≠ (32 : Nat))) (hc0 : n ≤ cap0) (hl0_0 : List.length b = nm) (w : World) (β : Env) : Body Try.prog (tabOf tabVN) Try.f13 ⟨w, [], 1, β⟩ [.o (.a (.sl 0 (0 : Nat) n cap0))] [some ⟨false, [.ints .u8 nm b]⟩] (fun ys _ => ys = [.g [.ints .u8 (32 : Nat) ([0, 0, 0, 0, 0, 0, 0, 0, 0, 0, 0, 0, 0, 0, 0, 0, 0, 0, 0, 0, 0, 0, 0, 0, 0, 0, 0, 0, 0, 0, 0, 0] : List Int)], .a (.i .i64 (3 : Int))]) :=
  Body.of_fin (Γ := gam57) (Λ := noLam) (Ψ := noPsi) (fuel := 0) (m := 20) (c := (Try.f13.body.getD .skip)) mix tabOkVN gam57_ok rfl (rs := [.cell 2 23, .tmp 3]) rfl rfl [true] []
    (vc := [((((n : Nat) : Int) != (32 : Int)) = true)]) (by kernel_rfl)
    (AllP_cons (bne_iff_ne.2 (by omega)) (AllP_nil))

theorem apDecE_body (n : Nat) (nm : Nat) (b : List Int) (cap0 : Nat) (h0 : (nm = n)) (h1 : (n ≠ (32 : Nat))) (w : World) (β : Env) : Body Try.prog (tabOf tabVN) Try.f13 ⟨w, [], 1, β⟩ [.o (.a (.sl 0 (0 : Nat) n cap0))] [some ⟨false, [.ints .u8 nm b]⟩] (fun ys _ => ys = [.g [.ints .u8 (32 : Nat) ([0, 0, 0, 0, 0, 0, 0, 0, 0, 0, 0, 0, 0, 0, 0, 0, 0, 0, 0, 0, 0, 0, 0, 0, 0, 0, 0, 0, 0, 0, 0, 0] : List Int)], .a (.i .i64 (3 : Int))]) :=
  Body.lens (c := (Try.f13.body.getD .skip)) rfl fun h => apDecE_body0 n nm b cap0 h0 h1 (h.caps 0 _ _ _ _ rfl) (h.lens 0 _ .u8 nm b rfl (by simp)) w β

def gam61 : Gam := greadV 13 [.s 1] (fun vs args => match vs, args with | [⟨_, _, _, [.ints .u8 nm b]⟩], [a0] => some ((nm = (lenOfA a0)) ∧ ((lenOfA a0) ≠ (32 : Nat)), [.g [.ints .u8 (32 : Nat) ([0, 0, 0, 0, 0, 0, 0, 0, 0, 0, 0, 0, 0, 0, 0, 0, 0, 0, 0, 0, 0, 0, 0, 0, 0, 0, 0, 0, 0, 0, 0, 0] : List Int)], .a (.i .i64 (3 : Int))]) | _, _ => none) gam57
theorem gam61_ok : GamOk Try.prog gam61 := greadV_ok tabOkVN Try.func13 gam57_ok Try.call13 (by
  intro vs args p xs h hv
  split at h
  · simp only [Option.some.injEq, Prod.mk.injEq] at h; obtain ⟨rfl, rfl⟩ := h; exact ⟨by rfl, fun caps w β => apDecE_body _ _ _ _ hv.1 hv.2 w β⟩
  · simp at h)

def apO8 : List Int :=
  let z0 : List Int := (ptAdd (ptAdd (ptId) (ptT)) (ptT))
  let z1 : List Int := (ptAdd z0 (ptT))
  let z2 : List Int := (ptAdd z1 (ptT))
  let z3 : List Int := (ptAdd z2 (ptT))
  let z4 : List Int := (ptAdd z3 (ptT))
  ((sub ((sub ((sub ((sub ((sub ((sub ((sub (sub (ptForm (ptId)) (0 : Nat) (32 : Nat)) (0 : Nat) (32 : Nat)) ++ (sub (ptForm (ptAdd (ptId) (ptT))) (0 : Nat) (32 : Nat))) (0 : Nat) (64 : Nat)) ++ (sub (ptForm z0) (0 : Nat) (32 : Nat))) (0 : Nat) (96 : Nat)) ++ (sub (ptForm z1) (0 : Nat) (32 : Nat))) (0 : Nat) (128 : Nat)) ++ (sub (ptForm z2) (0 : Nat) (32 : Nat))) (0 : Nat) (160 : Nat)) ++ (sub (ptForm z3) (0 : Nat) (32 : Nat))) (0 : Nat) (192 : Nat)) ++ (sub (ptForm z4) (0 : Nat) (32 : Nat))) (0 : Nat) (224 : Nat)) ++ (sub (ptForm (ptAdd z4 (ptT))) (0 : Nat) (32 : Nat)))

set_option maxHeartbeats 1000000 in
theorem apO8_body0 (w : World) (rw : List Nat) (β : Env) : Body Try.prog (tabOf tabVN) Try.f25 ⟨w, rw, 0, β⟩ [] [] (fun ys K' => ys = [.a (.rs 0 (0 : Nat) (8 : Nat) 32)] ∧ K' = [some ⟨true, [.ints .u8 (256 : Nat) (apO8)]⟩]) :=
  Body.of_finK (Γ := gam61) (Λ := noLam) (Ψ := noPsi) (fuel := 9) (m := 16) (c := (Try.f25.body.getD .skip)) mix tabOkVN gam61_ok rfl (rs := [.tmp 0]) rfl rfl [true, false, true, false, true, false, true, false, true, false, true, false, true, false, true, false, false] [.swap 0 16] 1
    (vc := [(false = false), (((224 : Nat) ≤ (224 : Nat)) ∧ (((1 : Nat) ≤ (1 : Nat)) ∧ ((32 : Nat) ≤ (32 : Nat))) ∧ ((256 : Nat) ≤ (140737488355328 : Nat))), (true = true), (((192 : Nat) ≤ (192 : Nat)) ∧ (((1 : Nat) ≤ (1 : Nat)) ∧ ((32 : Nat) ≤ (32 : Nat))) ∧ ((224 : Nat) ≤ (140737488355328 : Nat))), (true = true), (((160 : Nat) ≤ (160 : Nat)) ∧ (((1 : Nat) ≤ (1 : Nat)) ∧ ((32 : Nat) ≤ (32 : Nat))) ∧ ((192 : Nat) ≤ (140737488355328 : Nat))), (true = true), (((128 : Nat) ≤ (128 : Nat)) ∧ (((1 : Nat) ≤ (1 : Nat)) ∧ ((32 : Nat) ≤ (32 : Nat))) ∧ ((160 : Nat) ≤ (140737488355328 : Nat))), (true = true), (((96 : Nat) ≤ (96 : Nat)) ∧ (((1 : Nat) ≤ (1 : Nat)) ∧ ((32 : Nat) ≤ (32 : Nat))) ∧ ((128 : Nat) ≤ (140737488355328 : Nat))), (true = true), (((64 : Nat) ≤ (64 : Nat)) ∧ (((1 : Nat) ≤ (1 : Nat)) ∧ ((32 : Nat) ≤ (32 : Nat))) ∧ ((96 : Nat) ≤ (140737488355328 : Nat))), (true = true), (((32 : Nat) ≤ (32 : Nat)) ∧ (((1 : Nat) ≤ (1 : Nat)) ∧ ((32 : Nat) ≤ (32 : Nat))) ∧ ((64 : Nat) ≤ (140737488355328 : Nat))), (true = true), ((((1 : Nat) ≤ (1 : Nat)) ∧ ((32 : Nat) ≤ (32 : Nat))) ∧ ((32 : Nat) ≤ (140737488355328 : Nat))), (true = true)]) (by kernel_rfl)
    (AllP_cons rfl (AllP_cons ⟨(by decide), ⟨(by decide), (by decide)⟩, (by decide)⟩ (AllP_cons rfl (AllP_cons ⟨(by decide), ⟨(by decide), (by decide)⟩, (by decide)⟩ (AllP_cons rfl (AllP_cons ⟨(by decide), ⟨(by decide), (by decide)⟩, (by decide)⟩ (AllP_cons rfl (AllP_cons ⟨(by decide), ⟨(by decide), (by decide)⟩, (by decide)⟩ (AllP_cons rfl (AllP_cons ⟨(by decide), ⟨(by decide), (by decide)⟩, (by decide)⟩ (AllP_cons rfl (AllP_cons ⟨(by decide), ⟨(by decide), (by decide)⟩, (by decide)⟩ (AllP_cons rfl (AllP_cons ⟨(by decide), ⟨(by decide), (by decide)⟩, (by decide)⟩ (AllP_cons rfl (AllP_cons ⟨⟨(by decide), (by decide)⟩, (by decide)⟩ (AllP_cons rfl (AllP_nil))))))))))))))))))

theorem apO8_body (w : World) (rw : List Nat) (β : Env) : Body Try.prog (tabOf tabVN) Try.f25 ⟨w, rw, 0, β⟩ [] [] (fun ys K' => ys = [.a (.rs 0 (0 : Nat) (8 : Nat) 32)] ∧ K' = [some ⟨true, [.ints .u8 (256 : Nat) (apO8)]⟩]) :=
  Body.lens (c := (Try.f25.body.getD .skip)) rfl fun h => apO8_body0  w rw β

def gam62 : Gam := gcall 25 [] [] (fun wk vs args => match wk, vs, args with | [], [], [] => some (True, [.a (.rs 0 (0 : Nat) (8 : Nat) 32)], [some ⟨true, [.ints .u8 (256 : Nat) (apO8)]⟩]) | _, _, _ => none) gam61
theorem gam62_ok : GamOk Try.prog gam62 := gcall_ok tabOkVN Try.func25 gam61_ok Try.call25 (by
  intro wk vs args p xs K1 h hv
  split at h
  · simp only [Option.some.injEq, Prod.mk.injEq] at h; obtain ⟨rfl, rfl, rfl⟩ := h; exact fun caps w rw β => apO8_body w rw β
  · simp at h)

end Go.Proofs.Ytodiojpakfjehaa.X

/- The small example that each law begins with. -/
namespace Go.Proofs.Ytodiojpakfjehaa.X
open Go Go.Proofs
set_option linter.unusedVariables false
set_option linter.unusedSimpArgs false
set_option maxRecDepth 100000

def p4 : E := ⟨(cI, 0), by decide +kernel⟩
theorem p4_enc : encE p4 = z32 := by decide +kernel
theorem p4_L : mu LN p4 ≠ E0 := fun h => absurd ((qr_zero (qr_mulN (qr_aff p4) (f := 253) (by decide +kernel))).1 h) (by decide +kernel)
theorem wk_prime : apPrime z32 = false ∧ apPrime_1 z32 = 0 := by
  rw [← p4_enc]
  have k := prime_enc p4
  exact ⟨k.1.trans (decide_eq_false p4_L), k.2⟩
def pB2 : E := ⟨(fI 24727413235106541002554574571675588834622768167397638456726423682521233608206, fI 15549675580280190176352668710449542251549572066445060580507079593062643049417), by decide +kernel⟩
theorem pB2_eq : mu 2 eB = pB2 := by
  have k := qr_mulN (qr_aff eB) (n := 2) (f := 2) (by decide)
  refine Ep.ext (rep_uniq fp_curve k ?_)
  exact ⟨by decide +kernel, by decide +kernel, by decide +kernel, by decide +kernel⟩
theorem pB2_enc : encE pB2 = [201, 163, 248, 106, 174, 70, 95, 14, 86, 81, 56, 100, 81, 15, 57, 151, 86, 31, 162, 201, 232, 94, 162, 29, 194, 41, 35, 9, 243, 205, 96, 34] := by decide +kernel
theorem wk_two : apMulB [2, 0, 0, 0, 0, 0, 0, 0, 0, 0, 0, 0, 0, 0, 0, 0, 0, 0, 0, 0, 0, 0, 0, 0, 0, 0, 0, 0, 0, 0, 0, 0] = encE pB2 := by
  rw [mulB_enc (byt_small (by decide)) rfl, ← pB2_eq]
  have : (BV [2, 0, 0, 0, 0, 0, 0, 0, 0, 0, 0, 0, 0, 0, 0, 0, 0, 0, 0, 0, 0, 0, 0, 0, 0, 0, 0, 0, 0, 0, 0, 0]).toNat = 2 := by decide +kernel
  rw [this]
theorem wk_add : apAdd apBase apBase = encE pB2 := by
  rw [base_enc, add_enc, ← pB2_eq]
  have h1 := mu_add 1 1 eB
  rw [mu_one] at h1
  rw [← h1]
theorem wk_addc : apAdd_1 apBase apBase = 0 := by rw [base_enc]; exact addc_enc _ _
theorem y2_none (x : Fp) : ¬ On cD (x, fI 2) := by
  intro h
  have h1 := on_sq h
  have h2 : x * x = fI 43446857792565604583783486763960003913525092658904367978015407342224011949000 := by
    refine fp_curve.can (den_y (fI 2)) (h1.trans ?_)
    decide +kernel
  have h3 : fpw (fI 43446857792565604583783486763960003913525092658904367978015407342224011949000) ((PP - 1) / 2) = -1 := by
    apply Fin.ext
    rw [fpw_pwm _ (f := 255) (by decide +kernel)]
    decide +kernel
  rw [← h2, ← fpw_2, ← fpw_mul] at h3
  by_cases hx : x = 0
  · rw [hx, fpw_zero (by decide +kernel)] at h3
    exact absurd h3 (by decide +kernel)
  · rw [show 2 * ((PP - 1) / 2) = PP - 1 by decide +kernel, fp_fermat hx] at h3
    exact absurd h3 (by decide +kernel)
theorem wk_chk : apCheck [2, 0, 0, 0, 0, 0, 0, 0, 0, 0, 0, 0, 0, 0, 0, 0, 0, 0, 0, 0, 0, 0, 0, 0, 0, 0, 0, 0, 0, 0, 0, 0] = 41 := by
  refine chk_none (byt_small (by decide)) rfl ?_
  have e : BV [2, 0, 0, 0, 0, 0, 0, 0, 0, 0, 0, 0, 0, 0, 0, 0, 0, 0, 0, 0, 0, 0, 0, 0, 0, 0, 0, 0, 0, 0, 0, 0] = 2 := by decide +kernel
  unfold decE
  rw [e, if_pos (by decide), show (2 : Int) % 57896044618658097711785492504343953926634992332820282019728792003956564819968 = 2 from by decide]
  cases h : decP (decide ((57896044618658097711785492504343953926634992332820282019728792003956564819968 : Int) ≤ 2)) (fI 2) with
  | none => rfl
  | some p =>
    obtain ⟨⟨x, y⟩, o⟩ := p
    have hy := (decP_y h).1
    simp only at hy
    subst hy
    exact absurd o (y2_none x)
/-! the eight -/
theorem T_ok : LP ptT eT := by
  have h : decE [38, 232, 149, 143, 194, 178, 39, 176, 69, 195, 244, 137, 242, 239, 152, 240, 213, 223, 172, 5, 211, 198, 51, 57, 177, 56, 2, 136, 109, 83, 252, 5] = some eT := by
    have e : encE eT = [38, 232, 149, 143, 194, 178, 39, 176, 69, 195, 244, 137, 242, 239, 152, 240, 213, 223, 172, 5, 211, 198, 51, 57, 177, 56, 2, 136, 109, 83, 252, 5] := by decide +kernel
    rw [← e]; exact dec_enc eT
  exact ((open_ok (byt_small (by decide)) rfl).2 eT h).2.lp
end Go.Proofs.Ytodiojpakfjehaa.X

