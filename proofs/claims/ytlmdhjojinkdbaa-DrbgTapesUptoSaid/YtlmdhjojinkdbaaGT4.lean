/- Texts of this session, put together (part 4), less what nothing uses. -/
import Derived.Test.YtlmdhjojinkdbaaGT3
import Derived.KernelRfl
import Derived.Test.YtlmdhjojinkdbaaProg
import Derived.Laws.Externs
/- Printed by a tool of this session. -/
namespace Go.Proofs.Ytlmdhjojinkdbaa.X
open Go Go.Proofs
set_option linter.unusedVariables false
set_option linter.unusedSimpArgs false
set_option maxRecDepth 100000
theorem teTA_5 : TEOk Try.prog 5 ⟨.int .u8, 1, 1, [.i .u8 (0 : Int)], false⟩ :=
  TEOk.of Try.underlying5 (i := Try.t5) (by kernel_rfl) rfl rfl rfl (by kernel_rfl) (fun h => by cases h) (by kernel_rfl)
theorem teTA_72 : TEOk Try.prog 72 ⟨.array 32 5, 32, 32, [.ints .u8 (32 : Nat) ([0, 0, 0, 0, 0, 0, 0, 0, 0, 0, 0, 0, 0, 0, 0, 0, 0, 0, 0, 0, 0, 0, 0, 0, 0, 0, 0, 0, 0, 0, 0, 0] : List Int)], true⟩ :=
  TEOk.of Try.underlying72 (i := Try.t72) (by kernel_rfl) rfl rfl rfl (by kernel_rfl) (fun _ => Try.eqGuardType72) (by kernel_rfl)
theorem teTA_89 : TEOk Try.prog 89 ⟨.pointer 140, 1, 8, [.raw (.pointer none)], false⟩ :=
  TEOk.of Try.underlying89 (i := Try.t89) (by kernel_rfl) rfl rfl rfl (by kernel_rfl) (fun h => by cases h) (by kernel_rfl)
theorem teTA_91 : TEOk Try.prog 91 ⟨.slice 72, 1, 24, [.raw (.slice none 0 0)], false⟩ :=
  TEOk.of Try.underlying91 (i := Try.t91) (by kernel_rfl) rfl rfl rfl (by kernel_rfl) (fun h => by cases h) (by kernel_rfl)
theorem teTA_140 : TEOk Try.prog 140 ⟨Try.t139.desc, 1, 24, [.raw (.slice none 0 0)], false⟩ :=
  TEOk.of Try.underlying140 (i := Try.t140) (by kernel_rfl) rfl rfl rfl (by kernel_rfl) (fun h => by cases h) (by kernel_rfl)
noncomputable def tabTA : List (Nat × TE) := [(5, ⟨.int .u8, 1, 1, [.i .u8 (0 : Int)], false⟩), (72, ⟨.array 32 5, 32, 32, [.ints .u8 (32 : Nat) ([0, 0, 0, 0, 0, 0, 0, 0, 0, 0, 0, 0, 0, 0, 0, 0, 0, 0, 0, 0, 0, 0, 0, 0, 0, 0, 0, 0, 0, 0, 0, 0] : List Int)], true⟩), (89, ⟨.pointer 140, 1, 8, [.raw (.pointer none)], false⟩), (91, ⟨.slice 72, 1, 24, [.raw (.slice none 0 0)], false⟩), (140, ⟨Try.t139.desc, 1, 24, [.raw (.slice none 0 0)], false⟩)]
theorem tabOkTA : TabOk Try.prog (tabOf tabTA) := (tabOf_cons teTA_5 (tabOf_cons teTA_72 (tabOf_cons teTA_89 (tabOf_cons teTA_91 (tabOf_cons teTA_140 tabOf_nil)))))

def tnV (c m : Nat) (l : List Int) : List Int := match m with | 0 => List.replicate 32 0 | _ + 1 => sub l c 32
def tnC (c m : Nat) : Nat := match m with | 0 => c | _ + 1 => c + 32
def tnM (m : Nat) : Nat := m - 1
def tnE (m : Nat) : Int := match m with | 0 => 122 | _ + 1 => 0
def copyR (n : Nat) : Nat :=
  (n * (32 : Nat))

def copyR_1 (n : Nat) (l : List Int) : List Int :=
  (sub l 0 (n * (32 : Nat)))

set_option maxHeartbeats 1000000 in
theorem copyR_body0 (n nm : Nat) (l : List Int) (cap0 : Nat) (h0 : (nm = (n * (32 : Nat)))) (h1 : (n < (1099511627776 : Nat))) (hc0 : n ≤ cap0) (hl0_0 : List.length l = nm) (w : World) (rw : List Nat) (β : Env) : Body Try.prog (tabOf tabTA) Try.f34 ⟨w, rw, 1, β⟩ [.o (.a (.sl 0 0 n cap0))] [some ⟨false, [.ints .u8 nm l]⟩] (fun ys K' => ys = [.a (.rs 1 0 n 32)] ∧ K' = [some ⟨false, [.ints .u8 nm l]⟩, some ⟨true, [.ints .u8 (copyR n) (copyR_1 n l)]⟩]) :=
  Body.of_finK (Γ := gam17) (Λ := noLam) (Ψ := noPsi) (fuel := 0) (m := 8) (c := (Try.f34.body.getD .skip)) mix tabOkTA gam17_ok rfl (rs := [.tmp 2]) rfl rfl [false] [] 2
    (vc := [(((n ≤ n) ∧ (((0 : Nat) + (n * (32 : Nat))) ≤ nm)) ∧ ((n * (32 : Nat)) ≤ (140737488355328 : Nat)))]) (by kernel_rfl)
    (aC ⟨⟨(by first | omega | (simp (disch := omega) only [wrapI]; omega)), (by first | omega | (simp (disch := omega) only [wrapI]; omega))⟩, (by first | omega | (simp (disch := omega) only [wrapI]; omega))⟩ (AllP_nil))

theorem copyR_body (n nm : Nat) (l : List Int) (cap0 : Nat) (h0 : (nm = (n * (32 : Nat)))) (h1 : (n < (1099511627776 : Nat))) (w : World) (rw : List Nat) (β : Env) : Body Try.prog (tabOf tabTA) Try.f34 ⟨w, rw, 1, β⟩ [.o (.a (.sl 0 0 n cap0))] [some ⟨false, [.ints .u8 nm l]⟩] (fun ys K' => ys = [.a (.rs 1 0 n 32)] ∧ K' = [some ⟨false, [.ints .u8 nm l]⟩, some ⟨true, [.ints .u8 (copyR n) (copyR_1 n l)]⟩]) :=
  Body.lens (c := (Try.f34.body.getD .skip)) rfl fun h => copyR_body0 n nm l cap0 h0 h1 (h.caps 0 _ _ _ _ rfl) (h.lens 0 _ .u8 nm l rfl (by simp)) w rw β

def newTape (n : Nat) : Nat :=
  (n * (32 : Nat))

def newTape_1 (n : Nat) (l : List Int) : List Int :=
  (sub l 0 (n * (32 : Nat)))

set_option maxHeartbeats 1000000 in
theorem newTape_body0 (n nm : Nat) (l : List Int) (cap0 : Nat) (h0 : (nm = (n * (32 : Nat)))) (h1 : (n < (1099511627776 : Nat))) (hc0 : n ≤ cap0) (hl0_0 : List.length l = nm) (w : World) (rw : List Nat) (β : Env) : Body Try.prog (tabOf tabTA) Try.f35 ⟨w, rw, 1, β⟩ [.o (.a (.sl 0 0 n cap0))] [some ⟨false, [.ints .u8 nm l]⟩] (fun ys K' => ys = [.a (.p 2 0)] ∧ K' = [some ⟨false, [.ints .u8 nm l]⟩, some ⟨true, [.ints .u8 (newTape n) (newTape_1 n l)]⟩, some ⟨true, [.rs 1 0 n 32]⟩]) :=
  Body.of_finK (Γ := gam17) (Λ := noLam) (Ψ := noPsi) (fuel := 0) (m := 7) (c := (Try.f35.body.getD .skip)) mix tabOkTA gam17_ok rfl (rs := [.tmp 2]) rfl rfl [false] [] 3
    (vc := [(((n ≤ n) ∧ (((0 : Nat) + (n * (32 : Nat))) ≤ nm)) ∧ ((n * (32 : Nat)) ≤ (140737488355328 : Nat)))]) (by kernel_rfl)
    (aC ⟨⟨(by first | omega | (simp (disch := omega) only [wrapI]; omega)), (by first | omega | (simp (disch := omega) only [wrapI]; omega))⟩, (by first | omega | (simp (disch := omega) only [wrapI]; omega))⟩ (AllP_nil))

theorem newTape_body (n nm : Nat) (l : List Int) (cap0 : Nat) (h0 : (nm = (n * (32 : Nat)))) (h1 : (n < (1099511627776 : Nat))) (w : World) (rw : List Nat) (β : Env) : Body Try.prog (tabOf tabTA) Try.f35 ⟨w, rw, 1, β⟩ [.o (.a (.sl 0 0 n cap0))] [some ⟨false, [.ints .u8 nm l]⟩] (fun ys K' => ys = [.a (.p 2 0)] ∧ K' = [some ⟨false, [.ints .u8 nm l]⟩, some ⟨true, [.ints .u8 (newTape n) (newTape_1 n l)]⟩, some ⟨true, [.rs 1 0 n 32]⟩]) :=
  Body.lens (c := (Try.f35.body.getD .skip)) rfl fun h => newTape_body0 n nm l cap0 h0 h1 (h.caps 0 _ _ _ _ rfl) (h.lens 0 _ .u8 nm l rfl (by simp)) w rw β

set_option maxHeartbeats 1000000 in
theorem tapeSome_body0 (c m sz : Nat) (l : List Int) (h0 : ((c + (m * (32 : Nat))) ≤ sz)) (h1 : (m < (1099511627776 : Nat))) (hl1_0 : List.length l = sz) (hz : 0 < m) (w : World) (rw : List Nat) (β : Env) : Body Try.prog (tabOf tabTA) Try.f32 ⟨w, rw, 2, β⟩ [.o (.a (.p 0 0))] [some ⟨true, [.rs 1 c m 32]⟩, some ⟨true, [.ints .u8 sz l]⟩] (fun ys K' => ys = [.g [.ints .u8 (32 : Nat) (tnV c m l)], .a (.i .i64 (tnE m))] ∧ K' = [some ⟨true, [.rs 1 (tnC c m) (tnM m) 32]⟩, some ⟨true, [.ints .u8 sz l]⟩]) :=
  Body.of_finK (Γ := gam17) (Λ := noLam) (Ψ := noPsi) (fuel := 0) (m := 30) (c := (Try.f32.body.getD .skip)) mix tabOkTA gam17_ok rfl (rs := [.cell 2 72, .tmp 3]) rfl rfl [false, false] [.eqB 2 (⟨true, [.ints .u8 (32 : Nat) (tnV c m l)]⟩), .eqS 3 (.o (.a (.i .i64 (tnE m)))), .eqB 0 (⟨true, [.rs 1 (tnC c m) (tnM m) 32]⟩)] 2
    (vc := [((some ⟨true, [.rs 1 (c + (32 : Nat)) (m - (1 : Nat)) 32]⟩ : Option Blk) = some ⟨true, [.rs 1 (tnC c m) (tnM m) 32]⟩), ((.o (.a (.i .i64 (0 : Int))) : AV) = .o (.a (.i .i64 (tnE m)))), ((some ⟨true, [.ints .u8 (32 : Nat) (sub l (addc c (0 : Nat)) (32 : Nat))]⟩ : Option Blk) = some ⟨true, [.ints .u8 (32 : Nat) (tnV c m l)]⟩), (((0 : Int) ≤ (1 : Int)) ∧ ((1 : Int) ≤ ((m : Nat) : Int))), (((addc c (0 : Nat)) + (32 : Nat)) ≤ sz), (((0 : Int) ≤ (0 : Int)) ∧ ((0 : Int) < ((m : Nat) : Int))), ((((m : Nat) : Int) == (0 : Int)) = false), (false = false)]) (by kernel_rfl)
    (aC ((by obtain ⟨q, rfl⟩ : ∃ q, m = q + 1 := ⟨m - 1, by omega⟩; first | rfl | (unfold tnC; rw [addc_eq]; rfl) | (unfold tnV; rw [addc_eq]; rfl))) (aC ((by obtain ⟨q, rfl⟩ : ∃ q, m = q + 1 := ⟨m - 1, by omega⟩; first | rfl | (unfold tnC; rw [addc_eq]; rfl) | (unfold tnV; rw [addc_eq]; rfl))) (aC ((by obtain ⟨q, rfl⟩ : ∃ q, m = q + 1 := ⟨m - 1, by omega⟩; first | rfl | (unfold tnC; rw [addc_eq]; rfl) | (unfold tnV; rw [addc_eq]; rfl))) (aC ⟨(by decide), (by first | omega | (unfold addc; split <;> omega) | (simp (disch := omega) only [wrapI]; omega))⟩ (aC (by first | omega | (unfold addc; split <;> omega) | (simp (disch := omega) only [wrapI]; omega)) (aC ⟨(by decide), (by first | omega | (unfold addc; split <;> omega) | (simp (disch := omega) only [wrapI]; omega))⟩ (aC (beq_eq_false_iff_ne.2 (by first | omega | (unfold addc; split <;> omega) | (simp (disch := omega) only [wrapI]; omega))) (aC rfl (AllP_nil)))))))))

set_option maxHeartbeats 1000000 in
theorem tapeNone_body0 (c m sz : Nat) (l : List Int) (h0 : ((c + (m * (32 : Nat))) ≤ sz)) (h1 : (m < (1099511627776 : Nat))) (hl1_0 : List.length l = sz) (hz : m = 0) (w : World) (rw : List Nat) (β : Env) : Body Try.prog (tabOf tabTA) Try.f32 ⟨w, rw, 2, β⟩ [.o (.a (.p 0 0))] [some ⟨true, [.rs 1 c m 32]⟩, some ⟨true, [.ints .u8 sz l]⟩] (fun ys K' => ys = [.g [.ints .u8 (32 : Nat) (tnV c m l)], .a (.i .i64 (tnE m))] ∧ K' = [some ⟨true, [.rs 1 (tnC c m) (tnM m) 32]⟩, some ⟨true, [.ints .u8 sz l]⟩]) :=
  Body.of_finK (Γ := gam17) (Λ := noLam) (Ψ := noPsi) (fuel := 0) (m := 30) (c := (Try.f32.body.getD .skip)) mix tabOkTA gam17_ok rfl (rs := [.cell 2 72, .tmp 3]) rfl rfl [false, true] [.eqB 2 (⟨true, [.ints .u8 (32 : Nat) (tnV c m l)]⟩), .eqS 3 (.o (.a (.i .i64 (tnE m)))), .eqB 0 (⟨true, [.rs 1 (tnC c m) (tnM m) 32]⟩)] 2
    (vc := [((some ⟨true, [.rs 1 c m 32]⟩ : Option Blk) = some ⟨true, [.rs 1 (tnC c m) (tnM m) 32]⟩), ((.o (.a (.i .i64 (122 : Int))) : AV) = .o (.a (.i .i64 (tnE m)))), ((some ⟨true, [.ints .u8 (32 : Nat) ([0, 0, 0, 0, 0, 0, 0, 0, 0, 0, 0, 0, 0, 0, 0, 0, 0, 0, 0, 0, 0, 0, 0, 0, 0, 0, 0, 0, 0, 0, 0, 0] : List Int)]⟩ : Option Blk) = some ⟨true, [.ints .u8 (32 : Nat) (tnV c m l)]⟩), ((((m : Nat) : Int) == (0 : Int)) = true), (false = false)]) (by kernel_rfl)
    (aC ((by subst hz; rfl)) (aC ((by subst hz; rfl)) (aC ((by subst hz; rfl)) (aC (beq_iff_eq.2 (by first | omega | (unfold addc; split <;> omega) | (simp (disch := omega) only [wrapI]; omega))) (aC rfl (AllP_nil))))))

theorem tapeAny_body (c m sz : Nat) (l : List Int) (h0 : ((c + (m * (32 : Nat))) ≤ sz)) (h1 : (m < (1099511627776 : Nat))) (w : World) (rw : List Nat) (β : Env) : Body Try.prog (tabOf tabTA) Try.f32 ⟨w, rw, 2, β⟩ [.o (.a (.p 0 0))] [some ⟨true, [.rs 1 c m 32]⟩, some ⟨true, [.ints .u8 sz l]⟩] (fun ys K' => ys = [.g [.ints .u8 (32 : Nat) (tnV c m l)], .a (.i .i64 (tnE m))] ∧ K' = [some ⟨true, [.rs 1 (tnC c m) (tnM m) 32]⟩, some ⟨true, [.ints .u8 sz l]⟩]) :=
  Body.lens (c := (Try.f32.body.getD .skip)) rfl fun h => by
  by_cases hz : 0 < m
  · exact tapeSome_body0 c m sz l h0 h1 (h.lens 1 _ .u8 sz l rfl (by simp)) hz w rw β
  · exact tapeNone_body0 c m sz l h0 h1 (h.lens 1 _ .u8 sz l rfl (by simp)) (by omega) w rw β

def tapeLeft (m : Nat) : Int :=
  ((m : Nat) : Int)

set_option maxHeartbeats 1000000 in
theorem tapeLeft_body0 (c m sz : Nat) (l : List Int) (hl1_0 : List.length l = sz) (w : World) (rw : List Nat) (β : Env) : Body Try.prog (tabOf tabTA) Try.f33 ⟨w, rw, 2, β⟩ [.o (.a (.p 0 0))] [some ⟨true, [.rs 1 c m 32]⟩, some ⟨true, [.ints .u8 sz l]⟩] (fun ys K' => ys = [.a (.i .i64 (tapeLeft m))] ∧ K' = [some ⟨true, [.rs 1 c m 32]⟩, some ⟨true, [.ints .u8 sz l]⟩]) :=
  Body.of_finK (Γ := gam17) (Λ := noLam) (Ψ := noPsi) (fuel := 0) (m := 10) (c := (Try.f33.body.getD .skip)) mix tabOkTA gam17_ok rfl (rs := [.tmp 2]) rfl rfl [false] [] 2
    (vc := [(false = false)]) (by kernel_rfl)
    (aC rfl (AllP_nil))

theorem tapeLeft_body (c m sz : Nat) (l : List Int) (w : World) (rw : List Nat) (β : Env) : Body Try.prog (tabOf tabTA) Try.f33 ⟨w, rw, 2, β⟩ [.o (.a (.p 0 0))] [some ⟨true, [.rs 1 c m 32]⟩, some ⟨true, [.ints .u8 sz l]⟩] (fun ys K' => ys = [.a (.i .i64 (tapeLeft m))] ∧ K' = [some ⟨true, [.rs 1 c m 32]⟩, some ⟨true, [.ints .u8 sz l]⟩]) :=
  Body.lens (c := (Try.f33.body.getD .skip)) rfl fun h => tapeLeft_body0 c m sz l (h.lens 1 _ .u8 sz l rfl (by simp)) w rw β

end Go.Proofs.Ytlmdhjojinkdbaa.X

/- Texts of this session, put together (part 1), less what nothing uses. -/
/- Texts of this session, put together (part 1). -/
/- Plain numbers for the walks of the scalars: words of 64 bits, Montgomery's product. -/
namespace Go.Proofs.Ytlmdhjojinkdbaa.X.V
open Go Go.Proofs
set_option linter.unusedVariables false

theorem wrap64 (x : Int) : IntKind.u64.wrap x = x % 18446744073709551616 := by
  show (let m := x % (18446744073709551616 : Int); if (false && decide (m ≥ (9223372036854775808 : Int))) = true then m - 18446744073709551616 else m) = x % 18446744073709551616
  simp only [Bool.false_and, Bool.false_eq_true, if_false]

/-! the order -/
def LL : Int := 7237005577332262213973186563042994240857116359379907606001950938285454250989
def RI : Int := 4458503529701987551646482192314240623644693141688353256590997718326214331684

/-- Montgomery's product, as a number -/
theorem mont_gen {T AB M R Q L RI : Int} (h : R * T = AB + M * L) (hR : R * RI = 1 + L * Q) : T % L = AB * RI % L := by
  have e : T = AB * RI + L * (M * RI - Q * T) := by
    have h3 : R * T * RI = (AB + M * L) * RI := by rw [h]
    have h4 : R * T * RI = T * (R * RI) := by rw [Int.mul_comm R T, Int.mul_assoc]
    have h5 : (AB + M * L) * RI = AB * RI + L * (M * RI) := by rw [Int.add_mul, Int.mul_comm M L, Int.mul_assoc]
    have h6 : T * (L * Q) = L * (Q * T) := by rw [Int.mul_left_comm, Int.mul_comm T]
    rw [hR, Int.mul_add, Int.mul_one, h6] at h4
    rw [Int.mul_sub]
    generalize L * (M * RI) = a at *
    generalize L * (Q * T) = b at *
    generalize AB * RI = c at *
    generalize R * T * RI = d at *
    omega
  rw [e, Int.add_mul_emod_self_left]
theorem mont_num {T AB M : Int} (h : 115792089237316195423570985008687907853269984665640564039457584007913129639936 * T = AB + M * LL) : T % LL = AB * RI % LL :=
  mont_gen (Q := 71336056475231800826343715077027849978041630819377026201054086228062141447707) h (by decide +kernel)

/-- twice, the second time by the square of 2^256: the product -/
theorem mont_twice (AB : Int) : (AB * RI % LL) * 1627715501170711445284395025044413883736156588369414752970002579683115011841 * RI % LL = AB % LL := by
  rw [Int.mul_assoc, Int.mul_emod, Int.emod_emod_of_dvd _ (Int.dvd_refl LL), ← Int.mul_emod, Int.mul_assoc, Int.mul_emod]
  have : RI * (1627715501170711445284395025044413883736156588369414752970002579683115011841 * RI) % LL = 1 := by decide +kernel
  rw [this, Int.mul_one, Int.emod_emod_of_dvd _ (Int.dvd_refl LL)]

end Go.Proofs.Ytlmdhjojinkdbaa.X.V

/- Plain numbers for the walks of the scalars: words of 64 bits, Montgomery's product. -/
namespace Go.Proofs.Ytlmdhjojinkdbaa.X.V
open Go Go.Proofs
set_option linter.unusedVariables false

/-- four words as a number, and back -/
def V4 : List Int → Int
  | [a, b, c, d] => a + 18446744073709551616 * b + 340282366920938463463374607431768211456 * c + 6277101735386680763835789423207666416102355444464034512896 * d
  | _ => 0
def W4 (v : Int) : List Int := [v % 18446744073709551616, v / 18446744073709551616 % 18446744073709551616, v / 340282366920938463463374607431768211456 % 18446744073709551616, v / 6277101735386680763835789423207666416102355444464034512896 % 18446744073709551616]

theorem V4_W4 {v : Int} (h0 : 0 ≤ v) (h1 : v < 115792089237316195423570985008687907853269984665640564039457584007913129639936) : V4 (W4 v) = v := by
  show v % 18446744073709551616 + 18446744073709551616 * (v / 18446744073709551616 % 18446744073709551616) + 340282366920938463463374607431768211456 * (v / 340282366920938463463374607431768211456 % 18446744073709551616) + 6277101735386680763835789423207666416102355444464034512896 * (v / 6277101735386680763835789423207666416102355444464034512896 % 18446744073709551616) = v
  omega
theorem W4_eq {a b c d v : Int} (h : a + 18446744073709551616 * b + 340282366920938463463374607431768211456 * c + 6277101735386680763835789423207666416102355444464034512896 * d = v) (ha : 0 ≤ a ∧ a < 18446744073709551616) (hb : 0 ≤ b ∧ b < 18446744073709551616) (hc : 0 ≤ c ∧ c < 18446744073709551616) (hd : 0 ≤ d ∧ d < 18446744073709551616) : [a, b, c, d] = W4 v := by
  unfold W4
  have h1 : v % 18446744073709551616 = a := by omega
  have h2 : v / 18446744073709551616 % 18446744073709551616 = b := by omega
  have h3 : v / 340282366920938463463374607431768211456 % 18446744073709551616 = c := by omega
  have h4 : v / 6277101735386680763835789423207666416102355444464034512896 % 18446744073709551616 = d := by omega
  rw [h1, h2, h3, h4]
end Go.Proofs.Ytlmdhjojinkdbaa.X.V

/- The carries of math/bits, functions without a body, vs contracts. -/
namespace Go.Proofs.Ytlmdhjojinkdbaa.X.V
open Go Go.Proofs
set_option linter.unusedVariables false

theorem mix : Try.prog.follows .mixedOrders = true := by kernel_rfl

def ad64s (x y c : Int) : Int := (x + y + c) % 18446744073709551616
def ad64c (x y c : Int) : Int := (x + y + c) / 18446744073709551616
def sb64s (x y b : Int) : Int := (x + 18446744073709551616 - y - b) % 18446744073709551616
def sb64c (x y b : Int) : Int := if x < y + b then 1 else 0

def sub64Entry : Array Value → Sem Value := fun args => do
  let (x, y, b) ← Extern.MathBitsCarry.three "Sub64" args
  pure (Extern.MathBitsCarry.pair ((x + Extern.MathBitsCarry.m64 - y - b) % Extern.MathBitsCarry.m64) (if x < y + b then 1 else 0))

theorem run_sub64 {P : Program} (x y c : Int) (hx : 0 ≤ x) (hy : 0 ≤ y) (hy1 : y < 18446744073709551616) (hc0 : 0 ≤ c) (hc : c ≤ 1) (w : World) :
    (sub64Entry #[.int .u64 x, .int .u64 y, .int .u64 c]).run P w = .ok (.tuple #[.int .u64 (sb64s x y c), .int .u64 (sb64c x y c)]) w := by
  have key : ∀ k : Nat, k ≤ 1 → (sub64Entry #[.int .u64 x, .int .u64 y, .int .u64 (k : Int)]).run P w =
      .ok (Extern.MathBitsCarry.pair ((x.toNat + Extern.MathBitsCarry.m64 - y.toNat - k) % Extern.MathBitsCarry.m64) (if x.toNat < y.toNat + k then 1 else 0)) w := by
    intro k hk
    have : k = 0 ∨ k = 1 := by omega
    rcases this with rfl | rfl <;> rfl
  obtain ⟨k, rfl⟩ := Int.eq_ofNat_of_zero_le hc0
  rw [key k (by omega)]
  obtain ⟨X, rfl⟩ := Int.eq_ofNat_of_zero_le hx
  obtain ⟨Y, rfl⟩ := Int.eq_ofNat_of_zero_le hy
  have e1 : Int.ofNat ((X + 18446744073709551616 - Y - k) % 18446744073709551616) = sb64s (X : Int) (Y : Int) (k : Int) := by
    unfold sb64s
    rw [Int.ofNat_eq_natCast, Int.natCast_emod]
    congr 1
    omega
  have e2 : Int.ofNat (if X < Y + k then 1 else 0) = sb64c (X : Int) (Y : Int) (k : Int) := by
    unfold sb64c
    by_cases h : X < Y + k
    · rw [if_pos h, if_pos (by omega)]; rfl
    · rw [if_neg h, if_neg (by omega)]; rfl
  have m : Extern.MathBitsCarry.m64 = 18446744073709551616 := rfl
  simp only [Extern.MathBitsCarry.pair, Int.toNat_natCast, m]
  rw [e1, e2]

/-- Add64, Sub64 -/
def gbits : Gam := gext 125 (fun args => match args with
    | [.o (.a (.i .u64 x)), .o (.a (.i .u64 y)), .o (.a (.i .u64 c))] => some (some (0 ≤ x ∧ 0 ≤ y ∧ 0 ≤ c ∧ c ≤ 1), [.a (.i .u64 (ad64s x y c)), .a (.i .u64 (ad64c x y c))])
    | _ => none)
  (gext 138 (fun args => match args with
    | [.o (.a (.i .u64 x)), .o (.a (.i .u64 y)), .o (.a (.i .u64 c))] => some (some (0 ≤ x ∧ 0 ≤ y ∧ y < 18446744073709551616 ∧ 0 ≤ c ∧ c ≤ 1), [.a (.i .u64 (sb64s x y c)), .a (.i .u64 (sb64c x y c))])
    | _ => none) gnil)

theorem three_args {β : Env} {k1 k2 k3 : IntKind} {x y z : Int} {vs : List Value} (h : allC β [.o (.a (.i k1 x)), .o (.a (.i k2 y)), .o (.a (.i k3 z))] vs) : vs = [.int k1 x, .int k2 y, .int k3 z] := by
  obtain ⟨a, r, rfl, h1, b, r2, rfl, h2, c, r3, rfl, h3, rfl⟩ := h
  have h1 : [a] = [Value.int k1 x] := h1
  have h2 : [b] = [Value.int k2 y] := h2
  have h3 : [c] = [Value.int k3 z] := h3
  simp only [List.cons.injEq, and_true] at h1 h2 h3
  rw [h1, h2, h3]

theorem gbits_ok : GamOk Try.prog gbits := by
  refine gext_ok (gext_ok gnil_ok ?_) ?_
  · intro args vc xs h hvc β w vs ha
    split at h
    · rename_i x y c
      simp only [Option.some.injEq, Prod.mk.injEq] at h; obtain ⟨rfl, rfl⟩ := h
      obtain ⟨h1, h2, h3, h4, h5⟩ := hvc
      rw [three_args ha]
      refine ⟨.tuple #[.int .u64 (sb64s x y c), .int .u64 (sb64c x y c)], ?_, ?_⟩
      · rw [run_callFunc_extern (e := sub64Entry) Try.func138 (by kernel_rfl) (by kernel_rfl) (by kernel_rfl) (by kernel_rfl), run_sub64 x y c h1 h2 h3 h4 h5]; rfl
      · exact ⟨_, rfl, _, _, rfl, rfl, _, _, rfl, rfl, rfl⟩
    · simp at h
  · intro args vc xs h hvc β w vs ha
    split at h
    · rename_i x y c
      simp only [Option.some.injEq, Prod.mk.injEq] at h; obtain ⟨rfl, rfl⟩ := h
      obtain ⟨h1, h2, h3, h4⟩ := hvc
      rw [three_args ha]
      refine ⟨.tuple #[.int .u64 (ad64s x y c), .int .u64 (ad64c x y c)], ?_, ?_⟩
      · rw [run_callFunc_extern (e := add64Entry) Try.func125 (by kernel_rfl) (by kernel_rfl) (by kernel_rfl) (by kernel_rfl), run_add64 x y c h1 h2 h3 h4]; rfl
      · exact ⟨_, rfl, _, _, rfl, rfl, _, _, rfl, rfl, rfl⟩
    · simp at h
end Go.Proofs.Ytlmdhjojinkdbaa.X.V

/- Printed by a tool of this session. -/
namespace Go.Proofs.Ytlmdhjojinkdbaa.X.V
open Go Go.Proofs
set_option linter.unusedVariables false
set_option linter.unusedSimpArgs false
set_option maxRecDepth 100000
noncomputable def tabNE : List (Nat × TE) := []
theorem tabOkNE : TabOk Try.prog (tabOf tabNE) := tabOf_nil

def mul64 (x y : Int) : Int :=
  let z0 : Int := (IntKind.u64.wrap ((IntKind.u64.wrap ((shr .u64 x (32 : Int)) * (bits2 .and .u64 y (4294967295 : Int)))) + (shr .u64 (IntKind.u64.wrap ((bits2 .and .u64 x (4294967295 : Int)) * (bits2 .and .u64 y (4294967295 : Int)))) (32 : Int))))
  (IntKind.u64.wrap ((IntKind.u64.wrap ((IntKind.u64.wrap ((shr .u64 x (32 : Int)) * (shr .u64 y (32 : Int)))) + (shr .u64 z0 (32 : Int)))) + (shr .u64 (IntKind.u64.wrap ((bits2 .and .u64 z0 (4294967295 : Int)) + (IntKind.u64.wrap ((bits2 .and .u64 x (4294967295 : Int)) * (shr .u64 y (32 : Int)))))) (32 : Int))))

def mul64_1 (x y : Int) : Int :=
  (IntKind.u64.wrap (x * y))

set_option maxHeartbeats 1000000 in
theorem mul64_body0 (x y : Int) (w : World) : Body Try.prog (tabOf tabNE) Try.f139 ⟨w, [], 0, noEnv⟩ (toA [.a (.i .u64 x), .a (.i .u64 y)]) [] (fun ys _ => ys = [.a (.i .u64 (mul64 x y)), .a (.i .u64 (mul64_1 x y))]) :=
  Body.of_fin (Γ := gbits) (Λ := noLam) (Ψ := noPsi) (fuel := 0) (m := 51) (c := (Try.f139.body.getD .skip)) mix tabOkNE gbits_ok rfl (rs := [.tmp 4, .tmp 5]) rfl rfl [] []
    (vc := [((0 : Int) ≤ (32 : Int)), ((0 : Int) ≤ (32 : Int)), ((0 : Int) ≤ (32 : Int)), ((0 : Int) ≤ (32 : Int)), ((0 : Int) ≤ (32 : Int))]) (by kernel_rfl)
    (aC (by decide) (aC (by decide) (aC (by decide) (aC (by decide) (aC (by decide) (AllP_nil))))))

theorem mul64_body (x y : Int) (w : World) : Body Try.prog (tabOf tabNE) Try.f139 ⟨w, [], 0, noEnv⟩ (toA [.a (.i .u64 x), .a (.i .u64 y)]) [] (fun ys _ => ys = [.a (.i .u64 (mul64 x y)), .a (.i .u64 (mul64_1 x y))]) :=
  Body.lens (c := (Try.f139.body.getD .skip)) rfl fun h => mul64_body0 x y  w

theorem mul64_pure (x y : Int) : PureC Try.prog 139 [.a (.i .u64 x), .a (.i .u64 y)] [.a (.i .u64 (mul64 x y)), .a (.i .u64 (mul64_1 x y))] :=
  PureC.of_body tabOkNE Try.func139 rfl rfl fun w => mul64_body x y w

def gv1 : Gam := gpure 139 (fun args => match args with | [.o (.a (.i .u64 x)), .o (.a (.i .u64 y))] => some (none, [.a (.i .u64 (mul64 x y)), .a (.i .u64 (mul64_1 x y))]) | _ => none) gbits
theorem gv1_ok : GamOk Try.prog gv1 := gpure_ok gbits_ok Try.call139 (by
  intro args vc xs h hv
  split at h
  · simp only [Option.some.injEq, Prod.mk.injEq] at h; obtain ⟨rfl, rfl⟩ := h; exact ⟨_, by rfl, mul64_pure _ _⟩
  · simp at h)

end Go.Proofs.Ytlmdhjojinkdbaa.X.V

/- The product of two words, in two words. -/
namespace Go.Proofs.Ytlmdhjojinkdbaa.X.V
open Go Go.Proofs
set_option linter.unusedVariables false

theorem b_and32 {x : Int} (h0 : 0 ≤ x) (h1 : x < 18446744073709551616) : bits2 .and .u64 x 4294967295 = x % 4294967296 := by
  have e : bits2 .and .u64 x 4294967295 = IntKind.u64.wrap (((BitVec.ofInt 64 x &&& BitVec.ofInt 64 4294967295).toNat : Nat) : Int) := rfl
  obtain ⟨n, rfl⟩ := Int.eq_ofNat_of_zero_le h0
  have h1 : n < 18446744073709551616 := by omega
  rw [e, BitVec.toNat_and]
  have e1 : (BitVec.ofInt 64 ((n : Nat) : Int)).toNat = n := by
    rw [BitVec.toNat_ofInt]
    show (((n : Nat) : Int) % 18446744073709551616).toNat = n
    omega
  have e2 : (BitVec.ofInt 64 4294967295).toNat = 2 ^ 32 - 1 := by rfl
  rw [e1, e2, Nat.and_two_pow_sub_one_eq_mod, wrap64]
  omega
theorem shr32 {x : Int} : shr .u64 x 32 = x / 4294967296 := by
  have e : shr .u64 x 32 = x.fdiv 4294967296 := rfl
  rw [e, Int.fdiv_eq_ediv_of_nonneg _ (by omega)]

theorem mul_le32 {a b : Int} (ha : 0 ≤ a) (ha1 : a < 4294967296) (hb : 0 ≤ b) (hb1 : b < 4294967296) : 0 ≤ a * b ∧ a * b ≤ 18446744065119617025 :=
  ⟨Int.mul_nonneg ha hb, by
    have := Int.mul_le_mul (show a ≤ 4294967295 by omega) (show b ≤ 4294967295 by omega) hb (by omega)
    omega⟩

theorem mul64_eq {x y : Int} (hx : 0 ≤ x) (hx1 : x < 18446744073709551616) (hy : 0 ≤ y) (hy1 : y < 18446744073709551616) :
    18446744073709551616 * mul64 x y + mul64_1 x y = x * y ∧ 0 ≤ mul64 x y ∧ mul64 x y ≤ 18446744073709551614 ∧ 0 ≤ mul64_1 x y ∧ mul64_1 x y < 18446744073709551616 := by
  have hX : x = x % 4294967296 + 4294967296 * (x / 4294967296) := by omega
  have hY : y = y % 4294967296 + 4294967296 * (y / 4294967296) := by omega
  have p00 := mul_le32 (a := x % 4294967296) (b := y % 4294967296) (by omega) (by omega) (by omega) (by omega)
  have p10 := mul_le32 (a := x / 4294967296) (b := y % 4294967296) (by omega) (by omega) (by omega) (by omega)
  have p01 := mul_le32 (a := x % 4294967296) (b := y / 4294967296) (by omega) (by omega) (by omega) (by omega)
  have p11 := mul_le32 (a := x / 4294967296) (b := y / 4294967296) (by omega) (by omega) (by omega) (by omega)
  have hxy : x * y = (x % 4294967296) * (y % 4294967296) + 4294967296 * ((x / 4294967296) * (y % 4294967296)) + 4294967296 * ((x % 4294967296) * (y / 4294967296)) + 18446744073709551616 * ((x / 4294967296) * (y / 4294967296)) := by
    conv => lhs; rw [hX, hY]
    rw [Int.add_mul, Int.mul_add, Int.mul_add]
    have e1 : x % 4294967296 * (4294967296 * (y / 4294967296)) = 4294967296 * (x % 4294967296 * (y / 4294967296)) := Int.mul_left_comm _ _ _
    have e2 : 4294967296 * (x / 4294967296) * (y % 4294967296) = 4294967296 * (x / 4294967296 * (y % 4294967296)) := Int.mul_assoc _ _ _
    have e3 : 4294967296 * (x / 4294967296) * (4294967296 * (y / 4294967296)) = 18446744073709551616 * (x / 4294967296 * (y / 4294967296)) := by
      rw [Int.mul_assoc, Int.mul_left_comm (x / 4294967296), ← Int.mul_assoc]; rfl
    rw [e1, e2, e3]
    generalize x % 4294967296 * (y % 4294967296) = a
    generalize x % 4294967296 * (y / 4294967296) = b
    generalize x / 4294967296 * (y % 4294967296) = c
    generalize x / 4294967296 * (y / 4294967296) = d
    omega
  have hlo : mul64_1 x y = x * y % 18446744073709551616 := wrap64 _
  have hhi : mul64 x y = x / 4294967296 * (y / 4294967296) + (x / 4294967296 * (y % 4294967296) + x % 4294967296 * (y % 4294967296) / 4294967296) / 4294967296 + ((x / 4294967296 * (y % 4294967296) + x % 4294967296 * (y % 4294967296) / 4294967296) % 4294967296 + x % 4294967296 * (y / 4294967296)) / 4294967296 := by
    unfold mul64
    simp only [b_and32 hx hx1, b_and32 hy hy1, shr32, wrap64]
    generalize x % 4294967296 * (y % 4294967296) = a at *
    generalize x % 4294967296 * (y / 4294967296) = b at *
    generalize x / 4294967296 * (y % 4294967296) = c at *
    generalize x / 4294967296 * (y / 4294967296) = d at *
    have ea : a % 18446744073709551616 = a := by omega
    have eb : b % 18446744073709551616 = b := by omega
    have ec : c % 18446744073709551616 = c := by omega
    have ed : d % 18446744073709551616 = d := by omega
    rw [ea, eb, ec, ed]
    have e1 : (c + a / 4294967296) % 18446744073709551616 = c + a / 4294967296 := by omega
    rw [e1, b_and32 (by omega) (by omega)]
    omega
  rw [hlo, hhi, hxy]
  generalize x % 4294967296 * (y % 4294967296) = a at *
  generalize x % 4294967296 * (y / 4294967296) = b at *
  generalize x / 4294967296 * (y % 4294967296) = c at *
  generalize x / 4294967296 * (y / 4294967296) = d at *
  clear hxy hlo hhi hX hY
  omega
theorem ad64_rng (x y c : Int) : 0 ≤ ad64s x y c ∧ ad64s x y c < 18446744073709551616 := by unfold ad64s; omega
end Go.Proofs.Ytlmdhjojinkdbaa.X.V

/- Printed by a tool of this session. -/
namespace Go.Proofs.Ytlmdhjojinkdbaa.X.V
open Go Go.Proofs
set_option linter.unusedVariables false
set_option linter.unusedSimpArgs false
set_option maxRecDepth 100000
theorem teNG_25 : TEOk Try.prog 147 ⟨.int .u64, 1, 8, [.i .u64 (0 : Int)], false⟩ :=
  TEOk.of Try.underlying147 (i := Try.t147) (by kernel_rfl) rfl rfl rfl (by kernel_rfl) (fun h => by cases h) (by kernel_rfl)
theorem teNG_104 : TEOk Try.prog 213 ⟨.array 4 147, 4, 32, [.ints .u64 (4 : Nat) ([0, 0, 0, 0] : List Int)], true⟩ :=
  TEOk.of Try.underlying213 (i := Try.t213) (by kernel_rfl) rfl rfl rfl (by kernel_rfl) (fun _ => Try.eqGuardType213) (by kernel_rfl)
noncomputable def tabNG : List (Nat × TE) := [(147, ⟨.int .u64, 1, 8, [.i .u64 (0 : Int)], false⟩), (213, ⟨.array 4 147, 4, 32, [.ints .u64 (4 : Nat) ([0, 0, 0, 0] : List Int)], true⟩)]
theorem tabOkNG : TabOk Try.prog (tabOf tabNG) := (tabOf_cons teNG_25 (tabOf_cons teNG_104 tabOf_nil))

def muladd (x y a c : Int) : Int :=
  (IntKind.u64.wrap ((IntKind.u64.wrap ((mul64 x y) + (ad64c (mul64_1 x y) a (0 : Int)))) + (ad64c (ad64s (mul64_1 x y) a (0 : Int)) c (0 : Int))))

def muladd_1 (x y a c : Int) : Int :=
  (ad64s (ad64s (mul64_1 x y) a (0 : Int)) c (0 : Int))

set_option maxHeartbeats 1000000 in
theorem muladd_body0 (x y a c : Int) (h0 : ((0 : Int) ≤ a)) (h1 : ((0 : Int) ≤ c)) (w : World) : Body Try.prog (tabOf tabNG) Try.f136 ⟨w, [], 0, noEnv⟩ (toA [.a (.i .u64 x), .a (.i .u64 y), .a (.i .u64 a), .a (.i .u64 c)]) [] (fun ys _ => ys = [.a (.i .u64 (muladd x y a c)), .a (.i .u64 (muladd_1 x y a c))]) :=
  Body.of_fin (Γ := gv1) (Λ := noLam) (Ψ := noPsi) (fuel := 0) (m := 38) (c := (Try.f136.body.getD .skip)) mix tabOkNG gv1_ok rfl (rs := [.tmp 8, .tmp 9]) rfl rfl [] []
    (vc := [(((0 : Int) ≤ (ad64s (mul64_1 x y) a (0 : Int))) ∧ ((0 : Int) ≤ c) ∧ ((0 : Int) ≤ (0 : Int)) ∧ ((0 : Int) ≤ (1 : Int))), (((0 : Int) ≤ (mul64_1 x y)) ∧ ((0 : Int) ≤ a) ∧ ((0 : Int) ≤ (0 : Int)) ∧ ((0 : Int) ≤ (1 : Int)))]) (by kernel_rfl)
    (aC ⟨(by first | omega | exact (ad64_rng _ _ _).1 | exact wrap_nn rfl), h1, (by decide), (by decide)⟩ (aC ⟨(by first | omega | exact (ad64_rng _ _ _).1 | exact wrap_nn rfl), h0, (by decide), (by decide)⟩ (AllP_nil)))

theorem muladd_body (x y a c : Int) (h0 : ((0 : Int) ≤ a)) (h1 : ((0 : Int) ≤ c)) (w : World) : Body Try.prog (tabOf tabNG) Try.f136 ⟨w, [], 0, noEnv⟩ (toA [.a (.i .u64 x), .a (.i .u64 y), .a (.i .u64 a), .a (.i .u64 c)]) [] (fun ys _ => ys = [.a (.i .u64 (muladd x y a c)), .a (.i .u64 (muladd_1 x y a c))]) :=
  Body.lens (c := (Try.f136.body.getD .skip)) rfl fun h => muladd_body0 x y a c h0 h1  w

theorem muladd_pure (x y a c : Int) (h0 : ((0 : Int) ≤ a)) (h1 : ((0 : Int) ≤ c)) : PureC Try.prog 136 [.a (.i .u64 x), .a (.i .u64 y), .a (.i .u64 a), .a (.i .u64 c)] [.a (.i .u64 (muladd x y a c)), .a (.i .u64 (muladd_1 x y a c))] :=
  PureC.of_body tabOkNG Try.func136 rfl rfl fun w => muladd_body x y a c h0 h1 w

def gv2 : Gam := gpure 136 (fun args => match args with | [.o (.a (.i .u64 x)), .o (.a (.i .u64 y)), .o (.a (.i .u64 a)), .o (.a (.i .u64 c))] => some (some (((0 : Int) ≤ a) ∧ ((0 : Int) ≤ c)), [.a (.i .u64 (muladd x y a c)), .a (.i .u64 (muladd_1 x y a c))]) | _ => none) gv1
theorem gv2_ok : GamOk Try.prog gv2 := gpure_ok gv1_ok Try.call136 (by
  intro args vc xs h hv
  split at h
  · simp only [Option.some.injEq, Prod.mk.injEq] at h; obtain ⟨rfl, rfl⟩ := h; exact ⟨_, by rfl, muladd_pure _ _ _ _ hv.1 hv.2⟩
  · simp at h)

set_option maxHeartbeats 1000000 in
theorem ordr_body0 (w : World) : Body Try.prog (tabOf tabNG) Try.f135 ⟨w, [], 0, noEnv⟩ (toA []) [] (fun ys _ => ys = [.g [.ints .u64 (4 : Nat) ([6346243789798364141, 1503914060200516822, 0, 1152921504606846976] : List Int)]]) :=
  Body.of_fin (Γ := gv2) (Λ := noLam) (Ψ := noPsi) (fuel := 0) (m := 2) (c := (Try.f135.body.getD .skip)) mix tabOkNG gv2_ok rfl (rs := [.cell 0 213]) rfl rfl [] []
    (vc := []) (by kernel_rfl)
    (AllP_nil)

theorem ordr_body (w : World) : Body Try.prog (tabOf tabNG) Try.f135 ⟨w, [], 0, noEnv⟩ (toA []) [] (fun ys _ => ys = [.g [.ints .u64 (4 : Nat) ([6346243789798364141, 1503914060200516822, 0, 1152921504606846976] : List Int)]]) :=
  Body.lens (c := (Try.f135.body.getD .skip)) rfl fun h => ordr_body0  w

theorem ordr_pure : PureC Try.prog 135 [] [.g [.ints .u64 (4 : Nat) ([6346243789798364141, 1503914060200516822, 0, 1152921504606846976] : List Int)]] :=
  PureC.of_body tabOkNG Try.func135 rfl rfl fun w => ordr_body w

def gv3 : Gam := gpure 135 (fun args => match args with | [] => some (none, [.g [.ints .u64 (4 : Nat) ([6346243789798364141, 1503914060200516822, 0, 1152921504606846976] : List Int)]]) | _ => none) gv2
theorem gv3_ok : GamOk Try.prog gv3 := gpure_ok gv2_ok Try.call135 (by
  intro args vc xs h hv
  split at h
  · simp only [Option.some.injEq, Prod.mk.injEq] at h; obtain ⟨rfl, rfl⟩ := h; exact ⟨_, by rfl, ordr_pure⟩
  · simp at h)

set_option maxHeartbeats 1000000 in
theorem radx_body0 (w : World) : Body Try.prog (tabOf tabNG) Try.f128 ⟨w, [], 0, noEnv⟩ (toA []) [] (fun ys _ => ys = [.g [.ints .u64 (4 : Nat) ([11819153939886771969, 14991950615390032711, 14910419812499177061, 259310039853996605] : List Int)]]) :=
  Body.of_fin (Γ := gv3) (Λ := noLam) (Ψ := noPsi) (fuel := 0) (m := 2) (c := (Try.f128.body.getD .skip)) mix tabOkNG gv3_ok rfl (rs := [.cell 0 213]) rfl rfl [] []
    (vc := []) (by kernel_rfl)
    (AllP_nil)

theorem radx_body (w : World) : Body Try.prog (tabOf tabNG) Try.f128 ⟨w, [], 0, noEnv⟩ (toA []) [] (fun ys _ => ys = [.g [.ints .u64 (4 : Nat) ([11819153939886771969, 14991950615390032711, 14910419812499177061, 259310039853996605] : List Int)]]) :=
  Body.lens (c := (Try.f128.body.getD .skip)) rfl fun h => radx_body0  w

theorem radx_pure : PureC Try.prog 128 [] [.g [.ints .u64 (4 : Nat) ([11819153939886771969, 14991950615390032711, 14910419812499177061, 259310039853996605] : List Int)]] :=
  PureC.of_body tabOkNG Try.func128 rfl rfl fun w => radx_body w

def gv4 : Gam := gpure 128 (fun args => match args with | [] => some (none, [.g [.ints .u64 (4 : Nat) ([11819153939886771969, 14991950615390032711, 14910419812499177061, 259310039853996605] : List Int)]]) | _ => none) gv3
theorem gv4_ok : GamOk Try.prog gv4 := gpure_ok gv3_ok Try.call128 (by
  intro args vc xs h hv
  split at h
  · simp only [Option.some.injEq, Prod.mk.injEq] at h; obtain ⟨rfl, rfl⟩ := h; exact ⟨_, by rfl, radx_pure⟩
  · simp at h)

end Go.Proofs.Ytlmdhjojinkdbaa.X.V

/- Words of a number; a product and two words more. -/
namespace Go.Proofs.Ytlmdhjojinkdbaa.X.V
open Go Go.Proofs
set_option linter.unusedVariables false

def Wds (S : List Int) : Prop := ∀ x ∈ S, 0 ≤ x ∧ x < 18446744073709551616

theorem wds_get {S : List Int} (h : Wds S) (i : Nat) : 0 ≤ List.getD S i 0 ∧ List.getD S i 0 < 18446744073709551616 := by
  rw [List.getD_eq_getElem?_getD]
  by_cases hi : i < S.length
  · rw [List.getElem?_eq_getElem hi]; exact h _ (List.getElem_mem hi)
  · rw [List.getElem?_eq_none (by omega)]; simp

theorem wds_W4 (v : Int) : Wds (W4 v) := by
  intro x hx
  unfold W4 at hx
  simp only [List.mem_cons, List.not_mem_nil, or_false] at hx
  rcases hx with rfl | rfl | rfl | rfl <;> omega

theorem muladd_eq {x y a c : Int} (h0 : 0 ≤ x) (h1 : x < 18446744073709551616) (h2 : 0 ≤ y) (h3 : y < 18446744073709551616) (h4 : 0 ≤ a) (h5 : a < 18446744073709551616) (h6 : 0 ≤ c) (h7 : c < 18446744073709551616) :
    18446744073709551616 * muladd x y a c + muladd_1 x y a c = x * y + a + c ∧ 0 ≤ muladd x y a c ∧ muladd x y a c < 18446744073709551616 ∧ 0 ≤ muladd_1 x y a c ∧ muladd_1 x y a c < 18446744073709551616 := by
  obtain ⟨e, p1, p2, p3, p4⟩ := mul64_eq h0 h1 h2 h3
  have hb : x * y ≤ 340282366920938463426481119284349108225 := by
    have := Int.mul_le_mul (show x ≤ 18446744073709551615 by omega) (show y ≤ 18446744073709551615 by omega) h2 (by omega)
    omega
  unfold muladd muladd_1 ad64c ad64s
  simp only [wrap64]
  generalize mul64 x y = H at *
  generalize mul64_1 x y = L at *
  generalize x * y = P at *
  omega

theorem muladd_nn (x y a c : Int) : 0 ≤ muladd x y a c := wrap_nn rfl
theorem muladd1_nn (x y a c : Int) : 0 ≤ muladd_1 x y a c := (ad64_rng _ _ _).1

theorem four {S : List Int} (h : S.length = 4) : ∃ a b c d, S = [a, b, c, d] := by
  match S, h with
  | [a, b, c, d], _ => exact ⟨a, b, c, d, rfl⟩
end Go.Proofs.Ytlmdhjojinkdbaa.X.V

/- Printed by a tool of this session. -/
namespace Go.Proofs.Ytlmdhjojinkdbaa.X.V
open Go Go.Proofs
set_option linter.unusedVariables false
set_option linter.unusedSimpArgs false
set_option maxRecDepth 100000
theorem teNI_25 : TEOk Try.prog 147 ⟨.int .u64, 1, 8, [.i .u64 (0 : Int)], false⟩ :=
  TEOk.of Try.underlying147 (i := Try.t147) (by kernel_rfl) rfl rfl rfl (by kernel_rfl) (fun h => by cases h) (by kernel_rfl)
theorem teNI_104 : TEOk Try.prog 213 ⟨.array 4 147, 4, 32, [.ints .u64 (4 : Nat) ([0, 0, 0, 0] : List Int)], true⟩ :=
  TEOk.of Try.underlying213 (i := Try.t213) (by kernel_rfl) rfl rfl rfl (by kernel_rfl) (fun _ => Try.eqGuardType213) (by kernel_rfl)
noncomputable def tabNI : List (Nat × TE) := [(147, ⟨.int .u64, 1, 8, [.i .u64 (0 : Int)], false⟩), (213, ⟨.array 4 147, 4, 32, [.ints .u64 (4 : Nat) ([0, 0, 0, 0] : List Int)], true⟩)]
theorem tabOkNI : TabOk Try.prog (tabOf tabNI) := (tabOf_cons teNI_25 (tabOf_cons teNI_104 tabOf_nil))

def less (S T : List Int) : List Int :=
  let z0 : Int := (sb64c (List.getD S (0 : Nat) 0) (List.getD T (0 : Nat) 0) (0 : Int))
  let z1 : Int := (sb64c (List.getD S (1 : Nat) 0) (List.getD T (1 : Nat) 0) z0)
  ([(sb64s (List.getD S (0 : Nat) 0) (List.getD T (0 : Nat) 0) (0 : Int)), (sb64s (List.getD S (1 : Nat) 0) (List.getD T (1 : Nat) 0) z0), (sb64s (List.getD S (2 : Nat) 0) (List.getD T (2 : Nat) 0) z1), (sb64s (List.getD S (3 : Nat) 0) (List.getD T (3 : Nat) 0) (sb64c (List.getD S (2 : Nat) 0) (List.getD T (2 : Nat) 0) z1))] : List Int)

def less_1 (S T : List Int) : Int :=
  (sb64c (List.getD S (3 : Nat) 0) (List.getD T (3 : Nat) 0) (sb64c (List.getD S (2 : Nat) 0) (List.getD T (2 : Nat) 0) (sb64c (List.getD S (1 : Nat) 0) (List.getD T (1 : Nat) 0) (sb64c (List.getD S (0 : Nat) 0) (List.getD T (0 : Nat) 0) (0 : Int)))))

set_option maxHeartbeats 1000000 in
theorem less_body0 (S T : List Int) (h0 : (Wds S)) (h1 : (Wds T)) (hv0 : List.length S = (4 : Nat)) (hv1 : List.length T = (4 : Nat)) (w : World) : Body Try.prog (tabOf tabNI) Try.f134 ⟨w, [], 0, noEnv⟩ (toA [.g [.ints .u64 (4 : Nat) S], .g [.ints .u64 (4 : Nat) T]]) [] (fun ys _ => ys = [.g [.ints .u64 (4 : Nat) (less S T)], .a (.i .u64 (less_1 S T))]) :=
  Body.of_fin (Γ := gv4) (Λ := noLam) (Ψ := noPsi) (fuel := 5) (m := 28) (c := (Try.f134.body.getD .skip)) mix tabOkNI gv4_ok rfl (rs := [.cell 4 213, .tmp 5]) rfl rfl [true, true, true, true, false] []
    (vc := [(false = false), ((3 : Nat) < (4 : Nat)), (((0 : Int) ≤ (3 : Int)) ∧ ((3 : Int) < (4 : Int))), (((0 : Int) ≤ (List.getD S (3 : Nat) 0)) ∧ ((0 : Int) ≤ (List.getD T (3 : Nat) 0)) ∧ ((List.getD T (3 : Nat) 0) < (18446744073709551616 : Int)) ∧ ((0 : Int) ≤ (sb64c (List.getD S (2 : Nat) 0) (List.getD T (2 : Nat) 0) (sb64c (List.getD S (1 : Nat) 0) (List.getD T (1 : Nat) 0) (sb64c (List.getD S (0 : Nat) 0) (List.getD T (0 : Nat) 0) (0 : Int))))) ∧ ((sb64c (List.getD S (2 : Nat) 0) (List.getD T (2 : Nat) 0) (sb64c (List.getD S (1 : Nat) 0) (List.getD T (1 : Nat) 0) (sb64c (List.getD S (0 : Nat) 0) (List.getD T (0 : Nat) 0) (0 : Int)))) ≤ (1 : Int))), ((3 : Nat) < (4 : Nat)), (((0 : Int) ≤ (3 : Int)) ∧ ((3 : Int) < (4 : Int))), ((3 : Nat) < (4 : Nat)), (((0 : Int) ≤ (3 : Int)) ∧ ((3 : Int) < (4 : Int))), (true = true), ((2 : Nat) < (4 : Nat)), (((0 : Int) ≤ (2 : Int)) ∧ ((2 : Int) < (4 : Int))), (((0 : Int) ≤ (List.getD S (2 : Nat) 0)) ∧ ((0 : Int) ≤ (List.getD T (2 : Nat) 0)) ∧ ((List.getD T (2 : Nat) 0) < (18446744073709551616 : Int)) ∧ ((0 : Int) ≤ (sb64c (List.getD S (1 : Nat) 0) (List.getD T (1 : Nat) 0) (sb64c (List.getD S (0 : Nat) 0) (List.getD T (0 : Nat) 0) (0 : Int)))) ∧ ((sb64c (List.getD S (1 : Nat) 0) (List.getD T (1 : Nat) 0) (sb64c (List.getD S (0 : Nat) 0) (List.getD T (0 : Nat) 0) (0 : Int))) ≤ (1 : Int))), ((2 : Nat) < (4 : Nat)), (((0 : Int) ≤ (2 : Int)) ∧ ((2 : Int) < (4 : Int))), ((2 : Nat) < (4 : Nat)), (((0 : Int) ≤ (2 : Int)) ∧ ((2 : Int) < (4 : Int))), (true = true), ((1 : Nat) < (4 : Nat)), (((0 : Int) ≤ (1 : Int)) ∧ ((1 : Int) < (4 : Int))), (((0 : Int) ≤ (List.getD S (1 : Nat) 0)) ∧ ((0 : Int) ≤ (List.getD T (1 : Nat) 0)) ∧ ((List.getD T (1 : Nat) 0) < (18446744073709551616 : Int)) ∧ ((0 : Int) ≤ (sb64c (List.getD S (0 : Nat) 0) (List.getD T (0 : Nat) 0) (0 : Int))) ∧ ((sb64c (List.getD S (0 : Nat) 0) (List.getD T (0 : Nat) 0) (0 : Int)) ≤ (1 : Int))), ((1 : Nat) < (4 : Nat)), (((0 : Int) ≤ (1 : Int)) ∧ ((1 : Int) < (4 : Int))), ((1 : Nat) < (4 : Nat)), (((0 : Int) ≤ (1 : Int)) ∧ ((1 : Int) < (4 : Int))), (true = true), ((0 : Nat) < (4 : Nat)), (((0 : Int) ≤ (0 : Int)) ∧ ((0 : Int) < (4 : Int))), (((0 : Int) ≤ (List.getD S (0 : Nat) 0)) ∧ ((0 : Int) ≤ (List.getD T (0 : Nat) 0)) ∧ ((List.getD T (0 : Nat) 0) < (18446744073709551616 : Int)) ∧ ((0 : Int) ≤ (0 : Int)) ∧ ((0 : Int) ≤ (1 : Int))), ((0 : Nat) < (4 : Nat)), (((0 : Int) ≤ (0 : Int)) ∧ ((0 : Int) < (4 : Int))), ((0 : Nat) < (4 : Nat)), (((0 : Int) ≤ (0 : Int)) ∧ ((0 : Int) < (4 : Int))), (true = true)]) (by kernel_rfl)
    (aC rfl (aC (by decide) (aC ⟨(by decide), (by decide)⟩ (aC ⟨(by have w0_0 := wds_get h0 0; have w0_1 := wds_get h0 1; have w0_2 := wds_get h0 2; have w0_3 := wds_get h0 3; have w1_0 := wds_get h1 0; have w1_1 := wds_get h1 1; have w1_2 := wds_get h1 2; have w1_3 := wds_get h1 3; first | omega | (repeat' (first | omega | (unfold sb64c; split) | (unfold ad64c) | (unfold ad64s)))), (by have w0_0 := wds_get h0 0; have w0_1 := wds_get h0 1; have w0_2 := wds_get h0 2; have w0_3 := wds_get h0 3; have w1_0 := wds_get h1 0; have w1_1 := wds_get h1 1; have w1_2 := wds_get h1 2; have w1_3 := wds_get h1 3; first | omega | (repeat' (first | omega | (unfold sb64c; split) | (unfold ad64c) | (unfold ad64s)))), (by have w0_0 := wds_get h0 0; have w0_1 := wds_get h0 1; have w0_2 := wds_get h0 2; have w0_3 := wds_get h0 3; have w1_0 := wds_get h1 0; have w1_1 := wds_get h1 1; have w1_2 := wds_get h1 2; have w1_3 := wds_get h1 3; first | omega | (repeat' (first | omega | (unfold sb64c; split) | (unfold ad64c) | (unfold ad64s)))), (by have w0_0 := wds_get h0 0; have w0_1 := wds_get h0 1; have w0_2 := wds_get h0 2; have w0_3 := wds_get h0 3; have w1_0 := wds_get h1 0; have w1_1 := wds_get h1 1; have w1_2 := wds_get h1 2; have w1_3 := wds_get h1 3; first | omega | (repeat' (first | omega | (unfold sb64c; split) | (unfold ad64c) | (unfold ad64s)))), (by have w0_0 := wds_get h0 0; have w0_1 := wds_get h0 1; have w0_2 := wds_get h0 2; have w0_3 := wds_get h0 3; have w1_0 := wds_get h1 0; have w1_1 := wds_get h1 1; have w1_2 := wds_get h1 2; have w1_3 := wds_get h1 3; first | omega | (repeat' (first | omega | (unfold sb64c; split) | (unfold ad64c) | (unfold ad64s))))⟩ (aC (by decide) (aC ⟨(by decide), (by decide)⟩ (aC (by decide) (aC ⟨(by decide), (by decide)⟩ (aC rfl (aC (by decide) (aC ⟨(by decide), (by decide)⟩ (aC ⟨(by have w0_0 := wds_get h0 0; have w0_1 := wds_get h0 1; have w0_2 := wds_get h0 2; have w0_3 := wds_get h0 3; have w1_0 := wds_get h1 0; have w1_1 := wds_get h1 1; have w1_2 := wds_get h1 2; have w1_3 := wds_get h1 3; first | omega | (repeat' (first | omega | (unfold sb64c; split) | (unfold ad64c) | (unfold ad64s)))), (by have w0_0 := wds_get h0 0; have w0_1 := wds_get h0 1; have w0_2 := wds_get h0 2; have w0_3 := wds_get h0 3; have w1_0 := wds_get h1 0; have w1_1 := wds_get h1 1; have w1_2 := wds_get h1 2; have w1_3 := wds_get h1 3; first | omega | (repeat' (first | omega | (unfold sb64c; split) | (unfold ad64c) | (unfold ad64s)))), (by have w0_0 := wds_get h0 0; have w0_1 := wds_get h0 1; have w0_2 := wds_get h0 2; have w0_3 := wds_get h0 3; have w1_0 := wds_get h1 0; have w1_1 := wds_get h1 1; have w1_2 := wds_get h1 2; have w1_3 := wds_get h1 3; first | omega | (repeat' (first | omega | (unfold sb64c; split) | (unfold ad64c) | (unfold ad64s)))), (by have w0_0 := wds_get h0 0; have w0_1 := wds_get h0 1; have w0_2 := wds_get h0 2; have w0_3 := wds_get h0 3; have w1_0 := wds_get h1 0; have w1_1 := wds_get h1 1; have w1_2 := wds_get h1 2; have w1_3 := wds_get h1 3; first | omega | (repeat' (first | omega | (unfold sb64c; split) | (unfold ad64c) | (unfold ad64s)))), (by have w0_0 := wds_get h0 0; have w0_1 := wds_get h0 1; have w0_2 := wds_get h0 2; have w0_3 := wds_get h0 3; have w1_0 := wds_get h1 0; have w1_1 := wds_get h1 1; have w1_2 := wds_get h1 2; have w1_3 := wds_get h1 3; first | omega | (repeat' (first | omega | (unfold sb64c; split) | (unfold ad64c) | (unfold ad64s))))⟩ (aC (by decide) (aC ⟨(by decide), (by decide)⟩ (aC (by decide) (aC ⟨(by decide), (by decide)⟩ (aC rfl (aC (by decide) (aC ⟨(by decide), (by decide)⟩ (aC ⟨(by have w0_0 := wds_get h0 0; have w0_1 := wds_get h0 1; have w0_2 := wds_get h0 2; have w0_3 := wds_get h0 3; have w1_0 := wds_get h1 0; have w1_1 := wds_get h1 1; have w1_2 := wds_get h1 2; have w1_3 := wds_get h1 3; first | omega | (repeat' (first | omega | (unfold sb64c; split) | (unfold ad64c) | (unfold ad64s)))), (by have w0_0 := wds_get h0 0; have w0_1 := wds_get h0 1; have w0_2 := wds_get h0 2; have w0_3 := wds_get h0 3; have w1_0 := wds_get h1 0; have w1_1 := wds_get h1 1; have w1_2 := wds_get h1 2; have w1_3 := wds_get h1 3; first | omega | (repeat' (first | omega | (unfold sb64c; split) | (unfold ad64c) | (unfold ad64s)))), (by have w0_0 := wds_get h0 0; have w0_1 := wds_get h0 1; have w0_2 := wds_get h0 2; have w0_3 := wds_get h0 3; have w1_0 := wds_get h1 0; have w1_1 := wds_get h1 1; have w1_2 := wds_get h1 2; have w1_3 := wds_get h1 3; first | omega | (repeat' (first | omega | (unfold sb64c; split) | (unfold ad64c) | (unfold ad64s)))), (by have w0_0 := wds_get h0 0; have w0_1 := wds_get h0 1; have w0_2 := wds_get h0 2; have w0_3 := wds_get h0 3; have w1_0 := wds_get h1 0; have w1_1 := wds_get h1 1; have w1_2 := wds_get h1 2; have w1_3 := wds_get h1 3; first | omega | (repeat' (first | omega | (unfold sb64c; split) | (unfold ad64c) | (unfold ad64s)))), (by have w0_0 := wds_get h0 0; have w0_1 := wds_get h0 1; have w0_2 := wds_get h0 2; have w0_3 := wds_get h0 3; have w1_0 := wds_get h1 0; have w1_1 := wds_get h1 1; have w1_2 := wds_get h1 2; have w1_3 := wds_get h1 3; first | omega | (repeat' (first | omega | (unfold sb64c; split) | (unfold ad64c) | (unfold ad64s))))⟩ (aC (by decide) (aC ⟨(by decide), (by decide)⟩ (aC (by decide) (aC ⟨(by decide), (by decide)⟩ (aC rfl (aC (by decide) (aC ⟨(by decide), (by decide)⟩ (aC ⟨(by have w0_0 := wds_get h0 0; have w0_1 := wds_get h0 1; have w0_2 := wds_get h0 2; have w0_3 := wds_get h0 3; have w1_0 := wds_get h1 0; have w1_1 := wds_get h1 1; have w1_2 := wds_get h1 2; have w1_3 := wds_get h1 3; first | omega | (repeat' (first | omega | (unfold sb64c; split) | (unfold ad64c) | (unfold ad64s)))), (by have w0_0 := wds_get h0 0; have w0_1 := wds_get h0 1; have w0_2 := wds_get h0 2; have w0_3 := wds_get h0 3; have w1_0 := wds_get h1 0; have w1_1 := wds_get h1 1; have w1_2 := wds_get h1 2; have w1_3 := wds_get h1 3; first | omega | (repeat' (first | omega | (unfold sb64c; split) | (unfold ad64c) | (unfold ad64s)))), (by have w0_0 := wds_get h0 0; have w0_1 := wds_get h0 1; have w0_2 := wds_get h0 2; have w0_3 := wds_get h0 3; have w1_0 := wds_get h1 0; have w1_1 := wds_get h1 1; have w1_2 := wds_get h1 2; have w1_3 := wds_get h1 3; first | omega | (repeat' (first | omega | (unfold sb64c; split) | (unfold ad64c) | (unfold ad64s)))), (by decide), (by decide)⟩ (aC (by decide) (aC ⟨(by decide), (by decide)⟩ (aC (by decide) (aC ⟨(by decide), (by decide)⟩ (aC rfl (AllP_nil))))))))))))))))))))))))))))))))))

theorem less_body (S T : List Int) (h0 : (Wds S)) (h1 : (Wds T)) (w : World) : Body Try.prog (tabOf tabNI) Try.f134 ⟨w, [], 0, noEnv⟩ (toA [.g [.ints .u64 (4 : Nat) S], .g [.ints .u64 (4 : Nat) T]]) [] (fun ys _ => ys = [.g [.ints .u64 (4 : Nat) (less S T)], .a (.i .u64 (less_1 S T))]) :=
  Body.lens (c := (Try.f134.body.getD .skip)) rfl fun h => less_body0 S T h0 h1 (h.vals 0 _ _ _ rfl) (h.vals 1 _ _ _ rfl) w

end Go.Proofs.Ytlmdhjojinkdbaa.X.V

/- The difference of two numbers. -/
namespace Go.Proofs.Ytlmdhjojinkdbaa.X.V
open Go Go.Proofs
set_option linter.unusedVariables false

def difR (a b : Int) : Int := (a - b) % 115792089237316195423570985008687907853269984665640564039457584007913129639936
def lessC (a b : Int) : Int := if a < b then 1 else 0

theorem wds_four {a b c d : Int} (h0 : 0 ≤ a ∧ a < 18446744073709551616) (h1 : 0 ≤ b ∧ b < 18446744073709551616) (h2 : 0 ≤ c ∧ c < 18446744073709551616) (h3 : 0 ≤ d ∧ d < 18446744073709551616) : Wds [a, b, c, d] := by
  intro x hx
  simp only [List.mem_cons, List.not_mem_nil, or_false] at hx
  rcases hx with rfl | rfl | rfl | rfl <;> assumption

theorem sb64_eq {x y b : Int} (h0 : 0 ≤ x) (h1 : x < 18446744073709551616) (h2 : 0 ≤ y) (h3 : y < 18446744073709551616) (hb : 0 ≤ b ∧ b ≤ 1) :
    sb64s x y b = x - y - b + 18446744073709551616 * sb64c x y b ∧ 0 ≤ sb64s x y b ∧ sb64s x y b < 18446744073709551616 ∧ 0 ≤ sb64c x y b ∧ sb64c x y b ≤ 1 := by
  unfold sb64s sb64c
  split <;> omega

theorem less_eq {S T : List Int} (hS : Wds S) (hT : Wds T) (lS : S.length = 4) (lT : T.length = 4) : less S T = W4 (difR (V4 S) (V4 T)) ∧ less_1 S T = lessC (V4 S) (V4 T) := by
  obtain ⟨a0, a1, a2, a3, rfl⟩ := four lS
  obtain ⟨b0, b1, b2, b3, rfl⟩ := four lT
  have ha0 := hS a0 (by simp); have ha1 := hS a1 (by simp); have ha2 := hS a2 (by simp); have ha3 := hS a3 (by simp)
  have hb0 := hT b0 (by simp); have hb1 := hT b1 (by simp); have hb2 := hT b2 (by simp); have hb3 := hT b3 (by simp)
  have e0 := sb64_eq ha0.1 ha0.2 hb0.1 hb0.2 (b := 0) (by omega)
  have e1 := sb64_eq ha1.1 ha1.2 hb1.1 hb1.2 (b := sb64c a0 b0 0) (by omega)
  have e2 := sb64_eq ha2.1 ha2.2 hb2.1 hb2.2 (b := sb64c a1 b1 (sb64c a0 b0 0)) (by omega)
  have e3 := sb64_eq ha3.1 ha3.2 hb3.1 hb3.2 (b := sb64c a2 b2 (sb64c a1 b1 (sb64c a0 b0 0))) (by omega)
  show [sb64s a0 b0 0, sb64s a1 b1 (sb64c a0 b0 0), sb64s a2 b2 (sb64c a1 b1 (sb64c a0 b0 0)), sb64s a3 b3 (sb64c a2 b2 (sb64c a1 b1 (sb64c a0 b0 0)))] = _ ∧ sb64c a3 b3 (sb64c a2 b2 (sb64c a1 b1 (sb64c a0 b0 0))) = _
  generalize sb64c a3 b3 (sb64c a2 b2 (sb64c a1 b1 (sb64c a0 b0 0))) = c3 at *
  generalize sb64s a3 b3 (sb64c a2 b2 (sb64c a1 b1 (sb64c a0 b0 0))) = s3 at *
  generalize sb64s a2 b2 (sb64c a1 b1 (sb64c a0 b0 0)) = s2 at *
  generalize sb64c a2 b2 (sb64c a1 b1 (sb64c a0 b0 0)) = c2 at *
  generalize sb64s a1 b1 (sb64c a0 b0 0) = s1 at *
  generalize sb64c a1 b1 (sb64c a0 b0 0) = c1 at *
  generalize sb64s a0 b0 0 = s0 at *
  generalize sb64c a0 b0 0 = c0 at *
  unfold difR lessC V4
  simp only
  clear hS hT lS lT
  constructor
  · refine W4_eq ?_ ⟨e0.2.1, e0.2.2.1⟩ ⟨e1.2.1, e1.2.2.1⟩ ⟨e2.2.1, e2.2.2.1⟩ ⟨e3.2.1, e3.2.2.1⟩
    omega
  · split <;> omega

theorem less_can (S T : List Int) (h0 : (Wds S)) (h1 : (Wds T)) (w : World) : Body Try.prog (tabOf tabNI) Try.f134 ⟨w, [], 0, noEnv⟩ (toA [.g [.ints .u64 (4 : Nat) S], .g [.ints .u64 (4 : Nat) T]]) [] (fun ys _ => ys = [.g [.ints .u64 (4 : Nat) (W4 (difR (V4 S) (V4 T)))], .a (.i .u64 (lessC (V4 S) (V4 T)))]) :=
  Body.lens (c := (Try.f134.body.getD .skip)) rfl fun h => (less_body S T h0 h1 w).mono fun xs K hx => by
    subst hx
    obtain ⟨e1, e2⟩ := less_eq h0 h1 (h.vals 0 _ _ _ rfl) (h.vals 1 _ _ _ rfl)
    rw [e1, e2]
theorem wds_ord : Wds [6346243789798364141, 1503914060200516822, 0, 1152921504606846976] := by
  intro x hx
  simp only [List.mem_cons, List.not_mem_nil, or_false] at hx
  rcases hx with rfl | rfl | rfl | rfl <;> decide
end Go.Proofs.Ytlmdhjojinkdbaa.X.V

/- Printed by a tool of this session. -/
namespace Go.Proofs.Ytlmdhjojinkdbaa.X.V
open Go Go.Proofs
set_option linter.unusedVariables false
set_option linter.unusedSimpArgs false
set_option maxRecDepth 100000
theorem teNK_104 : TEOk Try.prog 213 ⟨.array 4 147, 4, 32, [.ints .u64 (4 : Nat) ([0, 0, 0, 0] : List Int)], true⟩ :=
  TEOk.of Try.underlying213 (i := Try.t213) (by kernel_rfl) rfl rfl rfl (by kernel_rfl) (fun _ => Try.eqGuardType213) (by kernel_rfl)
noncomputable def tabNK : List (Nat × TE) := [(213, ⟨.array 4 147, 4, 32, [.ints .u64 (4 : Nat) ([0, 0, 0, 0] : List Int)], true⟩)]
theorem tabOkNK : TabOk Try.prog (tabOf tabNK) := (tabOf_cons teNK_104 tabOf_nil)

theorem less_pure (S T : List Int) (h0 : (Wds S)) (h1 : (Wds T)) : PureC Try.prog 134 [.g [.ints .u64 (4 : Nat) S], .g [.ints .u64 (4 : Nat) T]] [.g [.ints .u64 (4 : Nat) (W4 (difR (V4 S) (V4 T)))], .a (.i .u64 (lessC (V4 S) (V4 T)))] :=
  PureC.of_body tabOkNK Try.func134 rfl rfl fun w => less_can S T h0 h1 w

def gv5 : Gam := gpure 134 (fun args => match args with | [.o (.g [.ints .u64 (4 : Nat) S]), .o (.g [.ints .u64 (4 : Nat) T])] => some (some ((Wds S) ∧ (Wds T)), [.g [.ints .u64 (4 : Nat) (W4 (difR (V4 S) (V4 T)))], .a (.i .u64 (lessC (V4 S) (V4 T)))]) | _ => none) gv4
theorem gv5_ok : GamOk Try.prog gv5 := gpure_ok gv4_ok Try.call134 (by
  intro args vc xs h hv
  split at h
  · simp only [Option.some.injEq, Prod.mk.injEq] at h; obtain ⟨rfl, rfl⟩ := h; exact ⟨_, by rfl, less_pure _ _ hv.1 hv.2⟩
  · simp at h)

def lowA (S : List Int) : List Int :=
  (W4 (difR (V4 S) (V4 ([6346243789798364141, 1503914060200516822, 0, 1152921504606846976] : List Int))))

set_option maxHeartbeats 1000000 in
theorem lowA_body0 (S : List Int) (h0 : (Wds S)) (hv0 : List.length S = (4 : Nat)) (hc : lessC (V4 S) (V4 ([6346243789798364141, 1503914060200516822, 0, 1152921504606846976] : List Int)) = 0) (w : World) : Body Try.prog (tabOf tabNK) Try.f126 ⟨w, [], 0, noEnv⟩ (toA [.g [.ints .u64 (4 : Nat) S]]) [] (fun ys _ => ys = [.g [.ints .u64 (4 : Nat) (lowA S)]]) :=
  Body.of_fin (Γ := gv5) (Λ := noLam) (Ψ := noPsi) (fuel := 0) (m := 15) (c := (Try.f126.body.getD .skip)) mix tabOkNK gv5_ok rfl (rs := [.cell 2 213]) rfl rfl [true] []
    (vc := [(((lessC (V4 S) (V4 ([6346243789798364141, 1503914060200516822, 0, 1152921504606846976] : List Int))) == (0 : Int)) = true), ((Wds S) ∧ (Wds ([6346243789798364141, 1503914060200516822, 0, 1152921504606846976] : List Int)))]) (by kernel_rfl)
    (aC (beq_iff_eq.2 hc) (aC ⟨(by first | assumption | exact wds_W4 _ | exact wds_ord | (unfold Wds; decide)), (by first | assumption | exact wds_W4 _ | exact wds_ord | (unfold Wds; decide))⟩ (AllP_nil)))

set_option maxHeartbeats 1000000 in
theorem lowB_body0 (S : List Int) (h0 : (Wds S)) (hv0 : List.length S = (4 : Nat)) (hc : lessC (V4 S) (V4 ([6346243789798364141, 1503914060200516822, 0, 1152921504606846976] : List Int)) ≠ 0) (w : World) : Body Try.prog (tabOf tabNK) Try.f126 ⟨w, [], 0, noEnv⟩ (toA [.g [.ints .u64 (4 : Nat) S]]) [] (fun ys _ => ys = [.g [.ints .u64 (4 : Nat) S]]) :=
  Body.of_fin (Γ := gv5) (Λ := noLam) (Ψ := noPsi) (fuel := 0) (m := 15) (c := (Try.f126.body.getD .skip)) mix tabOkNK gv5_ok rfl (rs := [.cell 2 213]) rfl rfl [false] []
    (vc := [(((lessC (V4 S) (V4 ([6346243789798364141, 1503914060200516822, 0, 1152921504606846976] : List Int))) == (0 : Int)) = false), ((Wds S) ∧ (Wds ([6346243789798364141, 1503914060200516822, 0, 1152921504606846976] : List Int)))]) (by kernel_rfl)
    (aC (beq_eq_false_iff_ne.2 hc) (aC ⟨(by first | assumption | exact wds_W4 _ | exact wds_ord | (unfold Wds; decide)), (by first | assumption | exact wds_W4 _ | exact wds_ord | (unfold Wds; decide))⟩ (AllP_nil)))

end Go.Proofs.Ytlmdhjojinkdbaa.X.V

/- A number, less the order if it is not below it. -/
namespace Go.Proofs.Ytlmdhjojinkdbaa.X.V
open Go Go.Proofs
set_option linter.unusedVariables false

def low (v : Int) : Int := if LL ≤ v then v - LL else v
def addR (a b : Int) : Int := (a + b) % 115792089237316195423570985008687907853269984665640564039457584007913129639936

theorem V4_rng {S : List Int} (h : Wds S) (l : S.length = 4) : 0 ≤ V4 S ∧ V4 S < 115792089237316195423570985008687907853269984665640564039457584007913129639936 := by
  obtain ⟨a, b, c, d, rfl⟩ := four l
  have h0 := h a (by simp); have h1 := h b (by simp); have h2 := h c (by simp); have h3 := h d (by simp)
  unfold V4
  simp only
  omega
theorem W4_of {S : List Int} (h : Wds S) (l : S.length = 4) : S = W4 (V4 S) := by
  obtain ⟨a, b, c, d, rfl⟩ := four l
  exact W4_eq rfl (h a (by simp)) (h b (by simp)) (h c (by simp)) (h d (by simp))
theorem V4_ord : V4 [6346243789798364141, 1503914060200516822, 0, 1152921504606846976] = LL := by decide +kernel

theorem low_rng {v : Int} (h0 : 0 ≤ v) (h1 : v < 115792089237316195423570985008687907853269984665640564039457584007913129639936) : 0 ≤ low v ∧ low v < 115792089237316195423570985008687907853269984665640564039457584007913129639936 := by
  unfold low LL
  split <;> omega

theorem lowered_can (S : List Int) (h0 : (Wds S)) (w : World) : Body Try.prog (tabOf tabNK) Try.f126 ⟨w, [], 0, noEnv⟩ (toA [.g [.ints .u64 (4 : Nat) S]]) [] (fun ys _ => ys = [.g [.ints .u64 (4 : Nat) (W4 (low (V4 S)))]]) :=
  Body.lens (c := (Try.f126.body.getD .skip)) rfl fun h => by
    have hl := h.vals 0 _ _ _ rfl
    obtain ⟨r0, r1⟩ := V4_rng h0 hl
    by_cases hc : lessC (V4 S) (V4 ([6346243789798364141, 1503914060200516822, 0, 1152921504606846976] : List Int)) = 0
    · refine (lowA_body0 S h0 hl hc w).mono fun xs K hx => ?_
      subst hx
      have e : lowA S = W4 (low (V4 S)) := by
        unfold lowA
        congr 1
        rw [V4_ord] at hc ⊢
        unfold lessC at hc
        unfold difR low
        split at hc
        · cases hc
        · rename_i h; rw [if_pos (by omega)]
          unfold LL at *
          omega
      rw [e]
    · refine (lowB_body0 S h0 hl hc w).mono fun xs K hx => ?_
      subst hx
      have e : W4 (low (V4 S)) = S := by
        rw [V4_ord] at hc
        unfold lessC at hc
        unfold low
        split at hc
        · rename_i h; rw [if_neg (by omega)]; exact (W4_of h0 hl).symm
        · exact absurd rfl hc
      rw [e]
end Go.Proofs.Ytlmdhjojinkdbaa.X.V

/- Printed by a tool of this session. -/
namespace Go.Proofs.Ytlmdhjojinkdbaa.X.V
open Go Go.Proofs
set_option linter.unusedVariables false
set_option linter.unusedSimpArgs false
set_option maxRecDepth 100000
theorem teNM_5 : TEOk Try.prog 5 ⟨.int .u8, 1, 1, [.i .u8 (0 : Int)], false⟩ :=
  TEOk.of Try.underlying5 (i := Try.t5) (by kernel_rfl) rfl rfl rfl (by kernel_rfl) (fun h => by cases h) (by kernel_rfl)
theorem teNM_24 : TEOk Try.prog 98 ⟨.array 32 5, 32, 32, [.ints .u8 (32 : Nat) ([0, 0, 0, 0, 0, 0, 0, 0, 0, 0, 0, 0, 0, 0, 0, 0, 0, 0, 0, 0, 0, 0, 0, 0, 0, 0, 0, 0, 0, 0, 0, 0] : List Int)], true⟩ :=
  TEOk.of Try.underlying98 (i := Try.t98) (by kernel_rfl) rfl rfl rfl (by kernel_rfl) (fun _ => Try.eqGuardType98) (by kernel_rfl)
theorem teNM_25 : TEOk Try.prog 147 ⟨.int .u64, 1, 8, [.i .u64 (0 : Int)], false⟩ :=
  TEOk.of Try.underlying147 (i := Try.t147) (by kernel_rfl) rfl rfl rfl (by kernel_rfl) (fun h => by cases h) (by kernel_rfl)
theorem teNM_104 : TEOk Try.prog 213 ⟨.array 4 147, 4, 32, [.ints .u64 (4 : Nat) ([0, 0, 0, 0] : List Int)], true⟩ :=
  TEOk.of Try.underlying213 (i := Try.t213) (by kernel_rfl) rfl rfl rfl (by kernel_rfl) (fun _ => Try.eqGuardType213) (by kernel_rfl)
noncomputable def tabNM : List (Nat × TE) := [(5, ⟨.int .u8, 1, 1, [.i .u8 (0 : Int)], false⟩), (98, ⟨.array 32 5, 32, 32, [.ints .u8 (32 : Nat) ([0, 0, 0, 0, 0, 0, 0, 0, 0, 0, 0, 0, 0, 0, 0, 0, 0, 0, 0, 0, 0, 0, 0, 0, 0, 0, 0, 0, 0, 0, 0, 0] : List Int)], true⟩), (147, ⟨.int .u64, 1, 8, [.i .u64 (0 : Int)], false⟩), (213, ⟨.array 4 147, 4, 32, [.ints .u64 (4 : Nat) ([0, 0, 0, 0] : List Int)], true⟩)]
theorem tabOkNM : TabOk Try.prog (tabOf tabNM) := (tabOf_cons teNM_5 (tabOf_cons teNM_24 (tabOf_cons teNM_25 (tabOf_cons teNM_104 tabOf_nil))))

theorem lowA_pure (S : List Int) (h0 : (Wds S)) : PureC Try.prog 126 [.g [.ints .u64 (4 : Nat) S]] [.g [.ints .u64 (4 : Nat) (W4 (low (V4 S)))]] :=
  PureC.of_body tabOkNM Try.func126 rfl rfl fun w => lowered_can S h0 w

def gv6 : Gam := gpure 126 (fun args => match args with | [.o (.g [.ints .u64 (4 : Nat) S])] => some (some ((Wds S)), [.g [.ints .u64 (4 : Nat) (W4 (low (V4 S)))]]) | _ => none) gv5
theorem gv6_ok : GamOk Try.prog gv6 := gpure_ok gv5_ok Try.call126 (by
  intro args vc xs h hv
  split at h
  · simp only [Option.some.injEq, Prod.mk.injEq] at h; obtain ⟨rfl, rfl⟩ := h; exact ⟨_, by rfl, lowA_pure _ hv⟩
  · simp at h)

def plusA (S T : List Int) : List Int :=
  let z0 : Int := (ad64c (List.getD S (0 : Nat) 0) (List.getD T (0 : Nat) 0) (0 : Int))
  let z1 : Int := (ad64c (List.getD S (1 : Nat) 0) (List.getD T (1 : Nat) 0) z0)
  (W4 (low (V4 ([(ad64s (List.getD S (0 : Nat) 0) (List.getD T (0 : Nat) 0) (0 : Int)), (ad64s (List.getD S (1 : Nat) 0) (List.getD T (1 : Nat) 0) z0), (ad64s (List.getD S (2 : Nat) 0) (List.getD T (2 : Nat) 0) z1), (ad64s (List.getD S (3 : Nat) 0) (List.getD T (3 : Nat) 0) (ad64c (List.getD S (2 : Nat) 0) (List.getD T (2 : Nat) 0) z1))] : List Int))))

set_option maxHeartbeats 1000000 in
theorem plusA_body0 (S T : List Int) (h0 : (Wds S)) (h1 : (Wds T)) (hv0 : List.length S = (4 : Nat)) (hv1 : List.length T = (4 : Nat)) (w : World) : Body Try.prog (tabOf tabNM) Try.f110 ⟨w, [], 0, noEnv⟩ (toA [.g [.ints .u64 (4 : Nat) S], .g [.ints .u64 (4 : Nat) T]]) [] (fun ys _ => ys = [.g [.ints .u64 (4 : Nat) (plusA S T)]]) :=
  Body.of_fin (Γ := gv6) (Λ := noLam) (Ψ := noPsi) (fuel := 5) (m := 27) (c := (Try.f110.body.getD .skip)) mix tabOkNM gv6_ok rfl (rs := [.cell 4 213]) rfl rfl [true, true, true, true, false] []
    (vc := [(Wds ([(ad64s (List.getD S (0 : Nat) 0) (List.getD T (0 : Nat) 0) (0 : Int)), (ad64s (List.getD S (1 : Nat) 0) (List.getD T (1 : Nat) 0) (ad64c (List.getD S (0 : Nat) 0) (List.getD T (0 : Nat) 0) (0 : Int))), (ad64s (List.getD S (2 : Nat) 0) (List.getD T (2 : Nat) 0) (ad64c (List.getD S (1 : Nat) 0) (List.getD T (1 : Nat) 0) (ad64c (List.getD S (0 : Nat) 0) (List.getD T (0 : Nat) 0) (0 : Int)))), (ad64s (List.getD S (3 : Nat) 0) (List.getD T (3 : Nat) 0) (ad64c (List.getD S (2 : Nat) 0) (List.getD T (2 : Nat) 0) (ad64c (List.getD S (1 : Nat) 0) (List.getD T (1 : Nat) 0) (ad64c (List.getD S (0 : Nat) 0) (List.getD T (0 : Nat) 0) (0 : Int)))))] : List Int)), (false = false), ((3 : Nat) < (4 : Nat)), (((0 : Int) ≤ (3 : Int)) ∧ ((3 : Int) < (4 : Int))), (((0 : Int) ≤ (List.getD S (3 : Nat) 0)) ∧ ((0 : Int) ≤ (List.getD T (3 : Nat) 0)) ∧ ((0 : Int) ≤ (ad64c (List.getD S (2 : Nat) 0) (List.getD T (2 : Nat) 0) (ad64c (List.getD S (1 : Nat) 0) (List.getD T (1 : Nat) 0) (ad64c (List.getD S (0 : Nat) 0) (List.getD T (0 : Nat) 0) (0 : Int))))) ∧ ((ad64c (List.getD S (2 : Nat) 0) (List.getD T (2 : Nat) 0) (ad64c (List.getD S (1 : Nat) 0) (List.getD T (1 : Nat) 0) (ad64c (List.getD S (0 : Nat) 0) (List.getD T (0 : Nat) 0) (0 : Int)))) ≤ (1 : Int))), ((3 : Nat) < (4 : Nat)), (((0 : Int) ≤ (3 : Int)) ∧ ((3 : Int) < (4 : Int))), ((3 : Nat) < (4 : Nat)), (((0 : Int) ≤ (3 : Int)) ∧ ((3 : Int) < (4 : Int))), (true = true), ((2 : Nat) < (4 : Nat)), (((0 : Int) ≤ (2 : Int)) ∧ ((2 : Int) < (4 : Int))), (((0 : Int) ≤ (List.getD S (2 : Nat) 0)) ∧ ((0 : Int) ≤ (List.getD T (2 : Nat) 0)) ∧ ((0 : Int) ≤ (ad64c (List.getD S (1 : Nat) 0) (List.getD T (1 : Nat) 0) (ad64c (List.getD S (0 : Nat) 0) (List.getD T (0 : Nat) 0) (0 : Int)))) ∧ ((ad64c (List.getD S (1 : Nat) 0) (List.getD T (1 : Nat) 0) (ad64c (List.getD S (0 : Nat) 0) (List.getD T (0 : Nat) 0) (0 : Int))) ≤ (1 : Int))), ((2 : Nat) < (4 : Nat)), (((0 : Int) ≤ (2 : Int)) ∧ ((2 : Int) < (4 : Int))), ((2 : Nat) < (4 : Nat)), (((0 : Int) ≤ (2 : Int)) ∧ ((2 : Int) < (4 : Int))), (true = true), ((1 : Nat) < (4 : Nat)), (((0 : Int) ≤ (1 : Int)) ∧ ((1 : Int) < (4 : Int))), (((0 : Int) ≤ (List.getD S (1 : Nat) 0)) ∧ ((0 : Int) ≤ (List.getD T (1 : Nat) 0)) ∧ ((0 : Int) ≤ (ad64c (List.getD S (0 : Nat) 0) (List.getD T (0 : Nat) 0) (0 : Int))) ∧ ((ad64c (List.getD S (0 : Nat) 0) (List.getD T (0 : Nat) 0) (0 : Int)) ≤ (1 : Int))), ((1 : Nat) < (4 : Nat)), (((0 : Int) ≤ (1 : Int)) ∧ ((1 : Int) < (4 : Int))), ((1 : Nat) < (4 : Nat)), (((0 : Int) ≤ (1 : Int)) ∧ ((1 : Int) < (4 : Int))), (true = true), ((0 : Nat) < (4 : Nat)), (((0 : Int) ≤ (0 : Int)) ∧ ((0 : Int) < (4 : Int))), (((0 : Int) ≤ (List.getD S (0 : Nat) 0)) ∧ ((0 : Int) ≤ (List.getD T (0 : Nat) 0)) ∧ ((0 : Int) ≤ (0 : Int)) ∧ ((0 : Int) ≤ (1 : Int))), ((0 : Nat) < (4 : Nat)), (((0 : Int) ≤ (0 : Int)) ∧ ((0 : Int) < (4 : Int))), ((0 : Nat) < (4 : Nat)), (((0 : Int) ≤ (0 : Int)) ∧ ((0 : Int) < (4 : Int))), (true = true)]) (by kernel_rfl)
    (aC (by first | assumption | exact wds_W4 _ | exact wds_ord | (refine wds_four ?_ ?_ ?_ ?_ <;> first | exact ad64_rng _ _ _)) (aC rfl (aC (by decide) (aC ⟨(by decide), (by decide)⟩ (aC ⟨(by have w0_0 := wds_get h0 0; have w0_1 := wds_get h0 1; have w0_2 := wds_get h0 2; have w0_3 := wds_get h0 3; have w1_0 := wds_get h1 0; have w1_1 := wds_get h1 1; have w1_2 := wds_get h1 2; have w1_3 := wds_get h1 3; first | omega | (repeat' (first | omega | (unfold sb64c; split) | (unfold ad64c) | (unfold ad64s)))), (by have w0_0 := wds_get h0 0; have w0_1 := wds_get h0 1; have w0_2 := wds_get h0 2; have w0_3 := wds_get h0 3; have w1_0 := wds_get h1 0; have w1_1 := wds_get h1 1; have w1_2 := wds_get h1 2; have w1_3 := wds_get h1 3; first | omega | (repeat' (first | omega | (unfold sb64c; split) | (unfold ad64c) | (unfold ad64s)))), (by have w0_0 := wds_get h0 0; have w0_1 := wds_get h0 1; have w0_2 := wds_get h0 2; have w0_3 := wds_get h0 3; have w1_0 := wds_get h1 0; have w1_1 := wds_get h1 1; have w1_2 := wds_get h1 2; have w1_3 := wds_get h1 3; first | omega | (repeat' (first | omega | (unfold sb64c; split) | (unfold ad64c) | (unfold ad64s)))), (by have w0_0 := wds_get h0 0; have w0_1 := wds_get h0 1; have w0_2 := wds_get h0 2; have w0_3 := wds_get h0 3; have w1_0 := wds_get h1 0; have w1_1 := wds_get h1 1; have w1_2 := wds_get h1 2; have w1_3 := wds_get h1 3; first | omega | (repeat' (first | omega | (unfold sb64c; split) | (unfold ad64c) | (unfold ad64s))))⟩ (aC (by decide) (aC ⟨(by decide), (by decide)⟩ (aC (by decide) (aC ⟨(by decide), (by decide)⟩ (aC rfl (aC (by decide) (aC ⟨(by decide), (by decide)⟩ (aC ⟨(by have w0_0 := wds_get h0 0; have w0_1 := wds_get h0 1; have w0_2 := wds_get h0 2; have w0_3 := wds_get h0 3; have w1_0 := wds_get h1 0; have w1_1 := wds_get h1 1; have w1_2 := wds_get h1 2; have w1_3 := wds_get h1 3; first | omega | (repeat' (first | omega | (unfold sb64c; split) | (unfold ad64c) | (unfold ad64s)))), (by have w0_0 := wds_get h0 0; have w0_1 := wds_get h0 1; have w0_2 := wds_get h0 2; have w0_3 := wds_get h0 3; have w1_0 := wds_get h1 0; have w1_1 := wds_get h1 1; have w1_2 := wds_get h1 2; have w1_3 := wds_get h1 3; first | omega | (repeat' (first | omega | (unfold sb64c; split) | (unfold ad64c) | (unfold ad64s)))), (by have w0_0 := wds_get h0 0; have w0_1 := wds_get h0 1; have w0_2 := wds_get h0 2; have w0_3 := wds_get h0 3; have w1_0 := wds_get h1 0; have w1_1 := wds_get h1 1; have w1_2 := wds_get h1 2; have w1_3 := wds_get h1 3; first | omega | (repeat' (first | omega | (unfold sb64c; split) | (unfold ad64c) | (unfold ad64s)))), (by have w0_0 := wds_get h0 0; have w0_1 := wds_get h0 1; have w0_2 := wds_get h0 2; have w0_3 := wds_get h0 3; have w1_0 := wds_get h1 0; have w1_1 := wds_get h1 1; have w1_2 := wds_get h1 2; have w1_3 := wds_get h1 3; first | omega | (repeat' (first | omega | (unfold sb64c; split) | (unfold ad64c) | (unfold ad64s))))⟩ (aC (by decide) (aC ⟨(by decide), (by decide)⟩ (aC (by decide) (aC ⟨(by decide), (by decide)⟩ (aC rfl (aC (by decide) (aC ⟨(by decide), (by decide)⟩ (aC ⟨(by have w0_0 := wds_get h0 0; have w0_1 := wds_get h0 1; have w0_2 := wds_get h0 2; have w0_3 := wds_get h0 3; have w1_0 := wds_get h1 0; have w1_1 := wds_get h1 1; have w1_2 := wds_get h1 2; have w1_3 := wds_get h1 3; first | omega | (repeat' (first | omega | (unfold sb64c; split) | (unfold ad64c) | (unfold ad64s)))), (by have w0_0 := wds_get h0 0; have w0_1 := wds_get h0 1; have w0_2 := wds_get h0 2; have w0_3 := wds_get h0 3; have w1_0 := wds_get h1 0; have w1_1 := wds_get h1 1; have w1_2 := wds_get h1 2; have w1_3 := wds_get h1 3; first | omega | (repeat' (first | omega | (unfold sb64c; split) | (unfold ad64c) | (unfold ad64s)))), (by have w0_0 := wds_get h0 0; have w0_1 := wds_get h0 1; have w0_2 := wds_get h0 2; have w0_3 := wds_get h0 3; have w1_0 := wds_get h1 0; have w1_1 := wds_get h1 1; have w1_2 := wds_get h1 2; have w1_3 := wds_get h1 3; first | omega | (repeat' (first | omega | (unfold sb64c; split) | (unfold ad64c) | (unfold ad64s)))), (by have w0_0 := wds_get h0 0; have w0_1 := wds_get h0 1; have w0_2 := wds_get h0 2; have w0_3 := wds_get h0 3; have w1_0 := wds_get h1 0; have w1_1 := wds_get h1 1; have w1_2 := wds_get h1 2; have w1_3 := wds_get h1 3; first | omega | (repeat' (first | omega | (unfold sb64c; split) | (unfold ad64c) | (unfold ad64s))))⟩ (aC (by decide) (aC ⟨(by decide), (by decide)⟩ (aC (by decide) (aC ⟨(by decide), (by decide)⟩ (aC rfl (aC (by decide) (aC ⟨(by decide), (by decide)⟩ (aC ⟨(by have w0_0 := wds_get h0 0; have w0_1 := wds_get h0 1; have w0_2 := wds_get h0 2; have w0_3 := wds_get h0 3; have w1_0 := wds_get h1 0; have w1_1 := wds_get h1 1; have w1_2 := wds_get h1 2; have w1_3 := wds_get h1 3; first | omega | (repeat' (first | omega | (unfold sb64c; split) | (unfold ad64c) | (unfold ad64s)))), (by have w0_0 := wds_get h0 0; have w0_1 := wds_get h0 1; have w0_2 := wds_get h0 2; have w0_3 := wds_get h0 3; have w1_0 := wds_get h1 0; have w1_1 := wds_get h1 1; have w1_2 := wds_get h1 2; have w1_3 := wds_get h1 3; first | omega | (repeat' (first | omega | (unfold sb64c; split) | (unfold ad64c) | (unfold ad64s)))), (by decide), (by decide)⟩ (aC (by decide) (aC ⟨(by decide), (by decide)⟩ (aC (by decide) (aC ⟨(by decide), (by decide)⟩ (aC rfl (AllP_nil)))))))))))))))))))))))))))))))))))

def frm (s : List Int) : List Int :=
  ([(bits2 .or .u64 (bits2 .or .u64 (bits2 .or .u64 (bits2 .or .u64 (bits2 .or .u64 (bits2 .or .u64 (bits2 .or .u64 (bits2 .or .u64 (0 : Int) (shl .u64 (IntKind.u64.wrap (List.getD s (0 : Nat) 0)) (0 : Int))) (shl .u64 (IntKind.u64.wrap (List.getD s (1 : Nat) 0)) (8 : Int))) (shl .u64 (IntKind.u64.wrap (List.getD s (2 : Nat) 0)) (16 : Int))) (shl .u64 (IntKind.u64.wrap (List.getD s (3 : Nat) 0)) (24 : Int))) (shl .u64 (IntKind.u64.wrap (List.getD s (4 : Nat) 0)) (32 : Int))) (shl .u64 (IntKind.u64.wrap (List.getD s (5 : Nat) 0)) (40 : Int))) (shl .u64 (IntKind.u64.wrap (List.getD s (6 : Nat) 0)) (48 : Int))) (shl .u64 (IntKind.u64.wrap (List.getD s (7 : Nat) 0)) (56 : Int))), (bits2 .or .u64 (bits2 .or .u64 (bits2 .or .u64 (bits2 .or .u64 (bits2 .or .u64 (bits2 .or .u64 (bits2 .or .u64 (bits2 .or .u64 (0 : Int) (shl .u64 (IntKind.u64.wrap (List.getD s (8 : Nat) 0)) (0 : Int))) (shl .u64 (IntKind.u64.wrap (List.getD s (9 : Nat) 0)) (8 : Int))) (shl .u64 (IntKind.u64.wrap (List.getD s (10 : Nat) 0)) (16 : Int))) (shl .u64 (IntKind.u64.wrap (List.getD s (11 : Nat) 0)) (24 : Int))) (shl .u64 (IntKind.u64.wrap (List.getD s (12 : Nat) 0)) (32 : Int))) (shl .u64 (IntKind.u64.wrap (List.getD s (13 : Nat) 0)) (40 : Int))) (shl .u64 (IntKind.u64.wrap (List.getD s (14 : Nat) 0)) (48 : Int))) (shl .u64 (IntKind.u64.wrap (List.getD s (15 : Nat) 0)) (56 : Int))), (bits2 .or .u64 (bits2 .or .u64 (bits2 .or .u64 (bits2 .or .u64 (bits2 .or .u64 (bits2 .or .u64 (bits2 .or .u64 (bits2 .or .u64 (0 : Int) (shl .u64 (IntKind.u64.wrap (List.getD s (16 : Nat) 0)) (0 : Int))) (shl .u64 (IntKind.u64.wrap (List.getD s (17 : Nat) 0)) (8 : Int))) (shl .u64 (IntKind.u64.wrap (List.getD s (18 : Nat) 0)) (16 : Int))) (shl .u64 (IntKind.u64.wrap (List.getD s (19 : Nat) 0)) (24 : Int))) (shl .u64 (IntKind.u64.wrap (List.getD s (20 : Nat) 0)) (32 : Int))) (shl .u64 (IntKind.u64.wrap (List.getD s (21 : Nat) 0)) (40 : Int))) (shl .u64 (IntKind.u64.wrap (List.getD s (22 : Nat) 0)) (48 : Int))) (shl .u64 (IntKind.u64.wrap (List.getD s (23 : Nat) 0)) (56 : Int))), (bits2 .or .u64 (bits2 .or .u64 (bits2 .or .u64 (bits2 .or .u64 (bits2 .or .u64 (bits2 .or .u64 (bits2 .or .u64 (bits2 .or .u64 (0 : Int) (shl .u64 (IntKind.u64.wrap (List.getD s (24 : Nat) 0)) (0 : Int))) (shl .u64 (IntKind.u64.wrap (List.getD s (25 : Nat) 0)) (8 : Int))) (shl .u64 (IntKind.u64.wrap (List.getD s (26 : Nat) 0)) (16 : Int))) (shl .u64 (IntKind.u64.wrap (List.getD s (27 : Nat) 0)) (24 : Int))) (shl .u64 (IntKind.u64.wrap (List.getD s (28 : Nat) 0)) (32 : Int))) (shl .u64 (IntKind.u64.wrap (List.getD s (29 : Nat) 0)) (40 : Int))) (shl .u64 (IntKind.u64.wrap (List.getD s (30 : Nat) 0)) (48 : Int))) (shl .u64 (IntKind.u64.wrap (List.getD s (31 : Nat) 0)) (56 : Int)))] : List Int)

set_option maxHeartbeats 1000000 in
theorem frm_body0 (s : List Int) (hv0 : List.length s = (32 : Nat)) (w : World) : Body Try.prog (tabOf tabNM) Try.f112 ⟨w, [], 0, noEnv⟩ (toA [.g [.ints .u8 (32 : Nat) s]]) [] (fun ys _ => ys = [.g [.ints .u64 (4 : Nat) (frm s)]]) :=
  Body.of_fin (Γ := gv6) (Λ := noLam) (Ψ := noPsi) (fuel := 33) (m := 24) (c := (Try.f112.body.getD .skip)) mix tabOkNM gv6_ok rfl (rs := [.cell 2 213]) rfl rfl [true, true, true, true, true, true, true, true, true, true, true, true, true, true, true, true, true, true, true, true, true, true, true, true, true, true, true, true, true, true, true, true, false] []
    (vc := [(false = false), ((3 : Nat) < (4 : Nat)), (((0 : Int) ≤ (3 : Int)) ∧ ((3 : Int) < (4 : Int))), ((0 : Int) ≤ (56 : Int)), ((8 : Int) ≠ 0), ((31 : Nat) < (32 : Nat)), (((0 : Int) ≤ (31 : Int)) ∧ ((31 : Int) < (32 : Int))), ((3 : Nat) < (4 : Nat)), (((0 : Int) ≤ (3 : Int)) ∧ ((3 : Int) < (4 : Int))), ((8 : Int) ≠ 0), (true = true), ((3 : Nat) < (4 : Nat)), (((0 : Int) ≤ (3 : Int)) ∧ ((3 : Int) < (4 : Int))), ((0 : Int) ≤ (48 : Int)), ((8 : Int) ≠ 0), ((30 : Nat) < (32 : Nat)), (((0 : Int) ≤ (30 : Int)) ∧ ((30 : Int) < (32 : Int))), ((3 : Nat) < (4 : Nat)), (((0 : Int) ≤ (3 : Int)) ∧ ((3 : Int) < (4 : Int))), ((8 : Int) ≠ 0), (true = true), ((3 : Nat) < (4 : Nat)), (((0 : Int) ≤ (3 : Int)) ∧ ((3 : Int) < (4 : Int))), ((0 : Int) ≤ (40 : Int)), ((8 : Int) ≠ 0), ((29 : Nat) < (32 : Nat)), (((0 : Int) ≤ (29 : Int)) ∧ ((29 : Int) < (32 : Int))), ((3 : Nat) < (4 : Nat)), (((0 : Int) ≤ (3 : Int)) ∧ ((3 : Int) < (4 : Int))), ((8 : Int) ≠ 0), (true = true), ((3 : Nat) < (4 : Nat)), (((0 : Int) ≤ (3 : Int)) ∧ ((3 : Int) < (4 : Int))), ((0 : Int) ≤ (32 : Int)), ((8 : Int) ≠ 0), ((28 : Nat) < (32 : Nat)), (((0 : Int) ≤ (28 : Int)) ∧ ((28 : Int) < (32 : Int))), ((3 : Nat) < (4 : Nat)), (((0 : Int) ≤ (3 : Int)) ∧ ((3 : Int) < (4 : Int))), ((8 : Int) ≠ 0), (true = true), ((3 : Nat) < (4 : Nat)), (((0 : Int) ≤ (3 : Int)) ∧ ((3 : Int) < (4 : Int))), ((0 : Int) ≤ (24 : Int)), ((8 : Int) ≠ 0), ((27 : Nat) < (32 : Nat)), (((0 : Int) ≤ (27 : Int)) ∧ ((27 : Int) < (32 : Int))), ((3 : Nat) < (4 : Nat)), (((0 : Int) ≤ (3 : Int)) ∧ ((3 : Int) < (4 : Int))), ((8 : Int) ≠ 0), (true = true), ((3 : Nat) < (4 : Nat)), (((0 : Int) ≤ (3 : Int)) ∧ ((3 : Int) < (4 : Int))), ((0 : Int) ≤ (16 : Int)), ((8 : Int) ≠ 0), ((26 : Nat) < (32 : Nat)), (((0 : Int) ≤ (26 : Int)) ∧ ((26 : Int) < (32 : Int))), ((3 : Nat) < (4 : Nat)), (((0 : Int) ≤ (3 : Int)) ∧ ((3 : Int) < (4 : Int))), ((8 : Int) ≠ 0), (true = true), ((3 : Nat) < (4 : Nat)), (((0 : Int) ≤ (3 : Int)) ∧ ((3 : Int) < (4 : Int))), ((0 : Int) ≤ (8 : Int)), ((8 : Int) ≠ 0), ((25 : Nat) < (32 : Nat)), (((0 : Int) ≤ (25 : Int)) ∧ ((25 : Int) < (32 : Int))), ((3 : Nat) < (4 : Nat)), (((0 : Int) ≤ (3 : Int)) ∧ ((3 : Int) < (4 : Int))), ((8 : Int) ≠ 0), (true = true), ((3 : Nat) < (4 : Nat)), (((0 : Int) ≤ (3 : Int)) ∧ ((3 : Int) < (4 : Int))), ((0 : Int) ≤ (0 : Int)), ((8 : Int) ≠ 0), ((24 : Nat) < (32 : Nat)), (((0 : Int) ≤ (24 : Int)) ∧ ((24 : Int) < (32 : Int))), ((3 : Nat) < (4 : Nat)), (((0 : Int) ≤ (3 : Int)) ∧ ((3 : Int) < (4 : Int))), ((8 : Int) ≠ 0), (true = true), ((2 : Nat) < (4 : Nat)), (((0 : Int) ≤ (2 : Int)) ∧ ((2 : Int) < (4 : Int))), ((0 : Int) ≤ (56 : Int)), ((8 : Int) ≠ 0), ((23 : Nat) < (32 : Nat)), (((0 : Int) ≤ (23 : Int)) ∧ ((23 : Int) < (32 : Int))), ((2 : Nat) < (4 : Nat)), (((0 : Int) ≤ (2 : Int)) ∧ ((2 : Int) < (4 : Int))), ((8 : Int) ≠ 0), (true = true), ((2 : Nat) < (4 : Nat)), (((0 : Int) ≤ (2 : Int)) ∧ ((2 : Int) < (4 : Int))), ((0 : Int) ≤ (48 : Int)), ((8 : Int) ≠ 0), ((22 : Nat) < (32 : Nat)), (((0 : Int) ≤ (22 : Int)) ∧ ((22 : Int) < (32 : Int))), ((2 : Nat) < (4 : Nat)), (((0 : Int) ≤ (2 : Int)) ∧ ((2 : Int) < (4 : Int))), ((8 : Int) ≠ 0), (true = true), ((2 : Nat) < (4 : Nat)), (((0 : Int) ≤ (2 : Int)) ∧ ((2 : Int) < (4 : Int))), ((0 : Int) ≤ (40 : Int)), ((8 : Int) ≠ 0), ((21 : Nat) < (32 : Nat)), (((0 : Int) ≤ (21 : Int)) ∧ ((21 : Int) < (32 : Int))), ((2 : Nat) < (4 : Nat)), (((0 : Int) ≤ (2 : Int)) ∧ ((2 : Int) < (4 : Int))), ((8 : Int) ≠ 0), (true = true), ((2 : Nat) < (4 : Nat)), (((0 : Int) ≤ (2 : Int)) ∧ ((2 : Int) < (4 : Int))), ((0 : Int) ≤ (32 : Int)), ((8 : Int) ≠ 0), ((20 : Nat) < (32 : Nat)), (((0 : Int) ≤ (20 : Int)) ∧ ((20 : Int) < (32 : Int))), ((2 : Nat) < (4 : Nat)), (((0 : Int) ≤ (2 : Int)) ∧ ((2 : Int) < (4 : Int))), ((8 : Int) ≠ 0), (true = true), ((2 : Nat) < (4 : Nat)), (((0 : Int) ≤ (2 : Int)) ∧ ((2 : Int) < (4 : Int))), ((0 : Int) ≤ (24 : Int)), ((8 : Int) ≠ 0), ((19 : Nat) < (32 : Nat)), (((0 : Int) ≤ (19 : Int)) ∧ ((19 : Int) < (32 : Int))), ((2 : Nat) < (4 : Nat)), (((0 : Int) ≤ (2 : Int)) ∧ ((2 : Int) < (4 : Int))), ((8 : Int) ≠ 0), (true = true), ((2 : Nat) < (4 : Nat)), (((0 : Int) ≤ (2 : Int)) ∧ ((2 : Int) < (4 : Int))), ((0 : Int) ≤ (16 : Int)), ((8 : Int) ≠ 0), ((18 : Nat) < (32 : Nat)), (((0 : Int) ≤ (18 : Int)) ∧ ((18 : Int) < (32 : Int))), ((2 : Nat) < (4 : Nat)), (((0 : Int) ≤ (2 : Int)) ∧ ((2 : Int) < (4 : Int))), ((8 : Int) ≠ 0), (true = true), ((2 : Nat) < (4 : Nat)), (((0 : Int) ≤ (2 : Int)) ∧ ((2 : Int) < (4 : Int))), ((0 : Int) ≤ (8 : Int)), ((8 : Int) ≠ 0), ((17 : Nat) < (32 : Nat)), (((0 : Int) ≤ (17 : Int)) ∧ ((17 : Int) < (32 : Int))), ((2 : Nat) < (4 : Nat)), (((0 : Int) ≤ (2 : Int)) ∧ ((2 : Int) < (4 : Int))), ((8 : Int) ≠ 0), (true = true), ((2 : Nat) < (4 : Nat)), (((0 : Int) ≤ (2 : Int)) ∧ ((2 : Int) < (4 : Int))), ((0 : Int) ≤ (0 : Int)), ((8 : Int) ≠ 0), ((16 : Nat) < (32 : Nat)), (((0 : Int) ≤ (16 : Int)) ∧ ((16 : Int) < (32 : Int))), ((2 : Nat) < (4 : Nat)), (((0 : Int) ≤ (2 : Int)) ∧ ((2 : Int) < (4 : Int))), ((8 : Int) ≠ 0), (true = true), ((1 : Nat) < (4 : Nat)), (((0 : Int) ≤ (1 : Int)) ∧ ((1 : Int) < (4 : Int))), ((0 : Int) ≤ (56 : Int)), ((8 : Int) ≠ 0), ((15 : Nat) < (32 : Nat)), (((0 : Int) ≤ (15 : Int)) ∧ ((15 : Int) < (32 : Int))), ((1 : Nat) < (4 : Nat)), (((0 : Int) ≤ (1 : Int)) ∧ ((1 : Int) < (4 : Int))), ((8 : Int) ≠ 0), (true = true), ((1 : Nat) < (4 : Nat)), (((0 : Int) ≤ (1 : Int)) ∧ ((1 : Int) < (4 : Int))), ((0 : Int) ≤ (48 : Int)), ((8 : Int) ≠ 0), ((14 : Nat) < (32 : Nat)), (((0 : Int) ≤ (14 : Int)) ∧ ((14 : Int) < (32 : Int))), ((1 : Nat) < (4 : Nat)), (((0 : Int) ≤ (1 : Int)) ∧ ((1 : Int) < (4 : Int))), ((8 : Int) ≠ 0), (true = true), ((1 : Nat) < (4 : Nat)), (((0 : Int) ≤ (1 : Int)) ∧ ((1 : Int) < (4 : Int))), ((0 : Int) ≤ (40 : Int)), ((8 : Int) ≠ 0), ((13 : Nat) < (32 : Nat)), (((0 : Int) ≤ (13 : Int)) ∧ ((13 : Int) < (32 : Int))), ((1 : Nat) < (4 : Nat)), (((0 : Int) ≤ (1 : Int)) ∧ ((1 : Int) < (4 : Int))), ((8 : Int) ≠ 0), (true = true), ((1 : Nat) < (4 : Nat)), (((0 : Int) ≤ (1 : Int)) ∧ ((1 : Int) < (4 : Int))), ((0 : Int) ≤ (32 : Int)), ((8 : Int) ≠ 0), ((12 : Nat) < (32 : Nat)), (((0 : Int) ≤ (12 : Int)) ∧ ((12 : Int) < (32 : Int))), ((1 : Nat) < (4 : Nat)), (((0 : Int) ≤ (1 : Int)) ∧ ((1 : Int) < (4 : Int))), ((8 : Int) ≠ 0), (true = true), ((1 : Nat) < (4 : Nat)), (((0 : Int) ≤ (1 : Int)) ∧ ((1 : Int) < (4 : Int))), ((0 : Int) ≤ (24 : Int)), ((8 : Int) ≠ 0), ((11 : Nat) < (32 : Nat)), (((0 : Int) ≤ (11 : Int)) ∧ ((11 : Int) < (32 : Int))), ((1 : Nat) < (4 : Nat)), (((0 : Int) ≤ (1 : Int)) ∧ ((1 : Int) < (4 : Int))), ((8 : Int) ≠ 0), (true = true), ((1 : Nat) < (4 : Nat)), (((0 : Int) ≤ (1 : Int)) ∧ ((1 : Int) < (4 : Int))), ((0 : Int) ≤ (16 : Int)), ((8 : Int) ≠ 0), ((10 : Nat) < (32 : Nat)), (((0 : Int) ≤ (10 : Int)) ∧ ((10 : Int) < (32 : Int))), ((1 : Nat) < (4 : Nat)), (((0 : Int) ≤ (1 : Int)) ∧ ((1 : Int) < (4 : Int))), ((8 : Int) ≠ 0), (true = true), ((1 : Nat) < (4 : Nat)), (((0 : Int) ≤ (1 : Int)) ∧ ((1 : Int) < (4 : Int))), ((0 : Int) ≤ (8 : Int)), ((8 : Int) ≠ 0), ((9 : Nat) < (32 : Nat)), (((0 : Int) ≤ (9 : Int)) ∧ ((9 : Int) < (32 : Int))), ((1 : Nat) < (4 : Nat)), (((0 : Int) ≤ (1 : Int)) ∧ ((1 : Int) < (4 : Int))), ((8 : Int) ≠ 0), (true = true), ((1 : Nat) < (4 : Nat)), (((0 : Int) ≤ (1 : Int)) ∧ ((1 : Int) < (4 : Int))), ((0 : Int) ≤ (0 : Int)), ((8 : Int) ≠ 0), ((8 : Nat) < (32 : Nat)), (((0 : Int) ≤ (8 : Int)) ∧ ((8 : Int) < (32 : Int))), ((1 : Nat) < (4 : Nat)), (((0 : Int) ≤ (1 : Int)) ∧ ((1 : Int) < (4 : Int))), ((8 : Int) ≠ 0), (true = true), ((0 : Nat) < (4 : Nat)), (((0 : Int) ≤ (0 : Int)) ∧ ((0 : Int) < (4 : Int))), ((0 : Int) ≤ (56 : Int)), ((8 : Int) ≠ 0), ((7 : Nat) < (32 : Nat)), (((0 : Int) ≤ (7 : Int)) ∧ ((7 : Int) < (32 : Int))), ((0 : Nat) < (4 : Nat)), (((0 : Int) ≤ (0 : Int)) ∧ ((0 : Int) < (4 : Int))), ((8 : Int) ≠ 0), (true = true), ((0 : Nat) < (4 : Nat)), (((0 : Int) ≤ (0 : Int)) ∧ ((0 : Int) < (4 : Int))), ((0 : Int) ≤ (48 : Int)), ((8 : Int) ≠ 0), ((6 : Nat) < (32 : Nat)), (((0 : Int) ≤ (6 : Int)) ∧ ((6 : Int) < (32 : Int))), ((0 : Nat) < (4 : Nat)), (((0 : Int) ≤ (0 : Int)) ∧ ((0 : Int) < (4 : Int))), ((8 : Int) ≠ 0), (true = true), ((0 : Nat) < (4 : Nat)), (((0 : Int) ≤ (0 : Int)) ∧ ((0 : Int) < (4 : Int))), ((0 : Int) ≤ (40 : Int)), ((8 : Int) ≠ 0), ((5 : Nat) < (32 : Nat)), (((0 : Int) ≤ (5 : Int)) ∧ ((5 : Int) < (32 : Int))), ((0 : Nat) < (4 : Nat)), (((0 : Int) ≤ (0 : Int)) ∧ ((0 : Int) < (4 : Int))), ((8 : Int) ≠ 0), (true = true), ((0 : Nat) < (4 : Nat)), (((0 : Int) ≤ (0 : Int)) ∧ ((0 : Int) < (4 : Int))), ((0 : Int) ≤ (32 : Int)), ((8 : Int) ≠ 0), ((4 : Nat) < (32 : Nat)), (((0 : Int) ≤ (4 : Int)) ∧ ((4 : Int) < (32 : Int))), ((0 : Nat) < (4 : Nat)), (((0 : Int) ≤ (0 : Int)) ∧ ((0 : Int) < (4 : Int))), ((8 : Int) ≠ 0), (true = true), ((0 : Nat) < (4 : Nat)), (((0 : Int) ≤ (0 : Int)) ∧ ((0 : Int) < (4 : Int))), ((0 : Int) ≤ (24 : Int)), ((8 : Int) ≠ 0), ((3 : Nat) < (32 : Nat)), (((0 : Int) ≤ (3 : Int)) ∧ ((3 : Int) < (32 : Int))), ((0 : Nat) < (4 : Nat)), (((0 : Int) ≤ (0 : Int)) ∧ ((0 : Int) < (4 : Int))), ((8 : Int) ≠ 0), (true = true), ((0 : Nat) < (4 : Nat)), (((0 : Int) ≤ (0 : Int)) ∧ ((0 : Int) < (4 : Int))), ((0 : Int) ≤ (16 : Int)), ((8 : Int) ≠ 0), ((2 : Nat) < (32 : Nat)), (((0 : Int) ≤ (2 : Int)) ∧ ((2 : Int) < (32 : Int))), ((0 : Nat) < (4 : Nat)), (((0 : Int) ≤ (0 : Int)) ∧ ((0 : Int) < (4 : Int))), ((8 : Int) ≠ 0), (true = true), ((0 : Nat) < (4 : Nat)), (((0 : Int) ≤ (0 : Int)) ∧ ((0 : Int) < (4 : Int))), ((0 : Int) ≤ (8 : Int)), ((8 : Int) ≠ 0), ((1 : Nat) < (32 : Nat)), (((0 : Int) ≤ (1 : Int)) ∧ ((1 : Int) < (32 : Int))), ((0 : Nat) < (4 : Nat)), (((0 : Int) ≤ (0 : Int)) ∧ ((0 : Int) < (4 : Int))), ((8 : Int) ≠ 0), (true = true), ((0 : Nat) < (4 : Nat)), (((0 : Int) ≤ (0 : Int)) ∧ ((0 : Int) < (4 : Int))), ((0 : Int) ≤ (0 : Int)), ((8 : Int) ≠ 0), ((0 : Nat) < (32 : Nat)), (((0 : Int) ≤ (0 : Int)) ∧ ((0 : Int) < (32 : Int))), ((0 : Nat) < (4 : Nat)), (((0 : Int) ≤ (0 : Int)) ∧ ((0 : Int) < (4 : Int))), ((8 : Int) ≠ 0), (true = true)]) (by kernel_rfl)
    (aC rfl (aC (by decide) (aC ⟨(by decide), (by decide)⟩ (aC (by decide) (aC (by decide) (aC (by decide) (aC ⟨(by decide), (by decide)⟩ (aC (by decide) (aC ⟨(by decide), (by decide)⟩ (aC (by decide) (aC rfl (aC (by decide) (aC ⟨(by decide), (by decide)⟩ (aC (by decide) (aC (by decide) (aC (by decide) (aC ⟨(by decide), (by decide)⟩ (aC (by decide) (aC ⟨(by decide), (by decide)⟩ (aC (by decide) (aC rfl (aC (by decide) (aC ⟨(by decide), (by decide)⟩ (aC (by decide) (aC (by decide) (aC (by decide) (aC ⟨(by decide), (by decide)⟩ (aC (by decide) (aC ⟨(by decide), (by decide)⟩ (aC (by decide) (aC rfl (aC (by decide) (aC ⟨(by decide), (by decide)⟩ (aC (by decide) (aC (by decide) (aC (by decide) (aC ⟨(by decide), (by decide)⟩ (aC (by decide) (aC ⟨(by decide), (by decide)⟩ (aC (by decide) (aC rfl (aC (by decide) (aC ⟨(by decide), (by decide)⟩ (aC (by decide) (aC (by decide) (aC (by decide) (aC ⟨(by decide), (by decide)⟩ (aC (by decide) (aC ⟨(by decide), (by decide)⟩ (aC (by decide) (aC rfl (aC (by decide) (aC ⟨(by decide), (by decide)⟩ (aC (by decide) (aC (by decide) (aC (by decide) (aC ⟨(by decide), (by decide)⟩ (aC (by decide) (aC ⟨(by decide), (by decide)⟩ (aC (by decide) (aC rfl (aC (by decide) (aC ⟨(by decide), (by decide)⟩ (aC (by decide) (aC (by decide) (aC (by decide) (aC ⟨(by decide), (by decide)⟩ (aC (by decide) (aC ⟨(by decide), (by decide)⟩ (aC (by decide) (aC rfl (aC (by decide) (aC ⟨(by decide), (by decide)⟩ (aC (by decide) (aC (by decide) (aC (by decide) (aC ⟨(by decide), (by decide)⟩ (aC (by decide) (aC ⟨(by decide), (by decide)⟩ (aC (by decide) (aC rfl (aC (by decide) (aC ⟨(by decide), (by decide)⟩ (aC (by decide) (aC (by decide) (aC (by decide) (aC ⟨(by decide), (by decide)⟩ (aC (by decide) (aC ⟨(by decide), (by decide)⟩ (aC (by decide) (aC rfl (aC (by decide) (aC ⟨(by decide), (by decide)⟩ (aC (by decide) (aC (by decide) (aC (by decide) (aC ⟨(by decide), (by decide)⟩ (aC (by decide) (aC ⟨(by decide), (by decide)⟩ (aC (by decide) (aC rfl (aC (by decide) (aC ⟨(by decide), (by decide)⟩ (aC (by decide) (aC (by decide) (aC (by decide) (aC ⟨(by decide), (by decide)⟩ (aC (by decide) (aC ⟨(by decide), (by decide)⟩ (aC (by decide) (aC rfl (aC (by decide) (aC ⟨(by decide), (by decide)⟩ (aC (by decide) (aC (by decide) (aC (by decide) (aC ⟨(by decide), (by decide)⟩ (aC (by decide) (aC ⟨(by decide), (by decide)⟩ (aC (by decide) (aC rfl (aC (by decide) (aC ⟨(by decide), (by decide)⟩ (aC (by decide) (aC (by decide) (aC (by decide) (aC ⟨(by decide), (by decide)⟩ (aC (by decide) (aC ⟨(by decide), (by decide)⟩ (aC (by decide) (aC rfl (aC (by decide) (aC ⟨(by decide), (by decide)⟩ (aC (by decide) (aC (by decide) (aC (by decide) (aC ⟨(by decide), (by decide)⟩ (aC (by decide) (aC ⟨(by decide), (by decide)⟩ (aC (by decide) (aC rfl (aC (by decide) (aC ⟨(by decide), (by decide)⟩ (aC (by decide) (aC (by decide) (aC (by decide) (aC ⟨(by decide), (by decide)⟩ (aC (by decide) (aC ⟨(by decide), (by decide)⟩ (aC (by decide) (aC rfl (aC (by decide) (aC ⟨(by decide), (by decide)⟩ (aC (by decide) (aC (by decide) (aC (by decide) (aC ⟨(by decide), (by decide)⟩ (aC (by decide) (aC ⟨(by decide), (by decide)⟩ (aC (by decide) (aC rfl (aC (by decide) (aC ⟨(by decide), (by decide)⟩ (aC (by decide) (aC (by decide) (aC (by decide) (aC ⟨(by decide), (by decide)⟩ (aC (by decide) (aC ⟨(by decide), (by decide)⟩ (aC (by decide) (aC rfl (aC (by decide) (aC ⟨(by decide), (by decide)⟩ (aC (by decide) (aC (by decide) (aC (by decide) (aC ⟨(by decide), (by decide)⟩ (aC (by decide) (aC ⟨(by decide), (by decide)⟩ (aC (by decide) (aC rfl (aC (by decide) (aC ⟨(by decide), (by decide)⟩ (aC (by decide) (aC (by decide) (aC (by decide) (aC ⟨(by decide), (by decide)⟩ (aC (by decide) (aC ⟨(by decide), (by decide)⟩ (aC (by decide) (aC rfl (aC (by decide) (aC ⟨(by decide), (by decide)⟩ (aC (by decide) (aC (by decide) (aC (by decide) (aC ⟨(by decide), (by decide)⟩ (aC (by decide) (aC ⟨(by decide), (by decide)⟩ (aC (by decide) (aC rfl (aC (by decide) (aC ⟨(by decide), (by decide)⟩ (aC (by decide) (aC (by decide) (aC (by decide) (aC ⟨(by decide), (by decide)⟩ (aC (by decide) (aC ⟨(by decide), (by decide)⟩ (aC (by decide) (aC rfl (aC (by decide) (aC ⟨(by decide), (by decide)⟩ (aC (by decide) (aC (by decide) (aC (by decide) (aC ⟨(by decide), (by decide)⟩ (aC (by decide) (aC ⟨(by decide), (by decide)⟩ (aC (by decide) (aC rfl (aC (by decide) (aC ⟨(by decide), (by decide)⟩ (aC (by decide) (aC (by decide) (aC (by decide) (aC ⟨(by decide), (by decide)⟩ (aC (by decide) (aC ⟨(by decide), (by decide)⟩ (aC (by decide) (aC rfl (aC (by decide) (aC ⟨(by decide), (by decide)⟩ (aC (by decide) (aC (by decide) (aC (by decide) (aC ⟨(by decide), (by decide)⟩ (aC (by decide) (aC ⟨(by decide), (by decide)⟩ (aC (by decide) (aC rfl (aC (by decide) (aC ⟨(by decide), (by decide)⟩ (aC (by decide) (aC (by decide) (aC (by decide) (aC ⟨(by decide), (by decide)⟩ (aC (by decide) (aC ⟨(by decide), (by decide)⟩ (aC (by decide) (aC rfl (aC (by decide) (aC ⟨(by decide), (by decide)⟩ (aC (by decide) (aC (by decide) (aC (by decide) (aC ⟨(by decide), (by decide)⟩ (aC (by decide) (aC ⟨(by decide), (by decide)⟩ (aC (by decide) (aC rfl (aC (by decide) (aC ⟨(by decide), (by decide)⟩ (aC (by decide) (aC (by decide) (aC (by decide) (aC ⟨(by decide), (by decide)⟩ (aC (by decide) (aC ⟨(by decide), (by decide)⟩ (aC (by decide) (aC rfl (aC (by decide) (aC ⟨(by decide), (by decide)⟩ (aC (by decide) (aC (by decide) (aC (by decide) (aC ⟨(by decide), (by decide)⟩ (aC (by decide) (aC ⟨(by decide), (by decide)⟩ (aC (by decide) (aC rfl (aC (by decide) (aC ⟨(by decide), (by decide)⟩ (aC (by decide) (aC (by decide) (aC (by decide) (aC ⟨(by decide), (by decide)⟩ (aC (by decide) (aC ⟨(by decide), (by decide)⟩ (aC (by decide) (aC rfl (aC (by decide) (aC ⟨(by decide), (by decide)⟩ (aC (by decide) (aC (by decide) (aC (by decide) (aC ⟨(by decide), (by decide)⟩ (aC (by decide) (aC ⟨(by decide), (by decide)⟩ (aC (by decide) (aC rfl (aC (by decide) (aC ⟨(by decide), (by decide)⟩ (aC (by decide) (aC (by decide) (aC (by decide) (aC ⟨(by decide), (by decide)⟩ (aC (by decide) (aC ⟨(by decide), (by decide)⟩ (aC (by decide) (aC rfl (aC (by decide) (aC ⟨(by decide), (by decide)⟩ (aC (by decide) (aC (by decide) (aC (by decide) (aC ⟨(by decide), (by decide)⟩ (aC (by decide) (aC ⟨(by decide), (by decide)⟩ (aC (by decide) (aC rfl (AllP_nil))))))))))))))))))))))))))))))))))))))))))))))))))))))))))))))))))))))))))))))))))))))))))))))))))))))))))))))))))))))))))))))))))))))))))))))))))))))))))))))))))))))))))))))))))))))))))))))))))))))))))))))))))))))))))))))))))))))))))))))))))))))))))))))))))))))))))))))))))))))))))))))))))))))))))))))))))))))))))))))))))

def bck (S : List Int) : List Int :=
  ([(IntKind.u8.wrap (shr .u64 (List.getD S (0 : Nat) 0) (0 : Int))), (IntKind.u8.wrap (shr .u64 (List.getD S (0 : Nat) 0) (8 : Int))), (IntKind.u8.wrap (shr .u64 (List.getD S (0 : Nat) 0) (16 : Int))), (IntKind.u8.wrap (shr .u64 (List.getD S (0 : Nat) 0) (24 : Int))), (IntKind.u8.wrap (shr .u64 (List.getD S (0 : Nat) 0) (32 : Int))), (IntKind.u8.wrap (shr .u64 (List.getD S (0 : Nat) 0) (40 : Int))), (IntKind.u8.wrap (shr .u64 (List.getD S (0 : Nat) 0) (48 : Int))), (IntKind.u8.wrap (shr .u64 (List.getD S (0 : Nat) 0) (56 : Int))), (IntKind.u8.wrap (shr .u64 (List.getD S (1 : Nat) 0) (0 : Int))), (IntKind.u8.wrap (shr .u64 (List.getD S (1 : Nat) 0) (8 : Int))), (IntKind.u8.wrap (shr .u64 (List.getD S (1 : Nat) 0) (16 : Int))), (IntKind.u8.wrap (shr .u64 (List.getD S (1 : Nat) 0) (24 : Int))), (IntKind.u8.wrap (shr .u64 (List.getD S (1 : Nat) 0) (32 : Int))), (IntKind.u8.wrap (shr .u64 (List.getD S (1 : Nat) 0) (40 : Int))), (IntKind.u8.wrap (shr .u64 (List.getD S (1 : Nat) 0) (48 : Int))), (IntKind.u8.wrap (shr .u64 (List.getD S (1 : Nat) 0) (56 : Int))), (IntKind.u8.wrap (shr .u64 (List.getD S (2 : Nat) 0) (0 : Int))), (IntKind.u8.wrap (shr .u64 (List.getD S (2 : Nat) 0) (8 : Int))), (IntKind.u8.wrap (shr .u64 (List.getD S (2 : Nat) 0) (16 : Int))), (IntKind.u8.wrap (shr .u64 (List.getD S (2 : Nat) 0) (24 : Int))), (IntKind.u8.wrap (shr .u64 (List.getD S (2 : Nat) 0) (32 : Int))), (IntKind.u8.wrap (shr .u64 (List.getD S (2 : Nat) 0) (40 : Int))), (IntKind.u8.wrap (shr .u64 (List.getD S (2 : Nat) 0) (48 : Int))), (IntKind.u8.wrap (shr .u64 (List.getD S (2 : Nat) 0) (56 : Int))), (IntKind.u8.wrap (shr .u64 (List.getD S (3 : Nat) 0) (0 : Int))), (IntKind.u8.wrap (shr .u64 (List.getD S (3 : Nat) 0) (8 : Int))), (IntKind.u8.wrap (shr .u64 (List.getD S (3 : Nat) 0) (16 : Int))), (IntKind.u8.wrap (shr .u64 (List.getD S (3 : Nat) 0) (24 : Int))), (IntKind.u8.wrap (shr .u64 (List.getD S (3 : Nat) 0) (32 : Int))), (IntKind.u8.wrap (shr .u64 (List.getD S (3 : Nat) 0) (40 : Int))), (IntKind.u8.wrap (shr .u64 (List.getD S (3 : Nat) 0) (48 : Int))), (IntKind.u8.wrap (shr .u64 (List.getD S (3 : Nat) 0) (56 : Int)))] : List Int)

set_option maxHeartbeats 1000000 in
theorem bck_body0 (S : List Int) (hv0 : List.length S = (4 : Nat)) (w : World) : Body Try.prog (tabOf tabNM) Try.f109 ⟨w, [], 0, noEnv⟩ (toA [.g [.ints .u64 (4 : Nat) S]]) [] (fun ys _ => ys = [.g [.ints .u8 (32 : Nat) (bck S)]]) :=
  Body.of_fin (Γ := gv6) (Λ := noLam) (Ψ := noPsi) (fuel := 33) (m := 21) (c := (Try.f109.body.getD .skip)) mix tabOkNM gv6_ok rfl (rs := [.cell 2 98]) rfl rfl [true, true, true, true, true, true, true, true, true, true, true, true, true, true, true, true, true, true, true, true, true, true, true, true, true, true, true, true, true, true, true, true, false] []
    (vc := [(false = false), ((31 : Nat) < (32 : Nat)), (((0 : Int) ≤ (31 : Int)) ∧ ((31 : Int) < (32 : Int))), ((0 : Int) ≤ (56 : Int)), ((8 : Int) ≠ 0), ((3 : Nat) < (4 : Nat)), (((0 : Int) ≤ (3 : Int)) ∧ ((3 : Int) < (4 : Int))), ((8 : Int) ≠ 0), (true = true), ((30 : Nat) < (32 : Nat)), (((0 : Int) ≤ (30 : Int)) ∧ ((30 : Int) < (32 : Int))), ((0 : Int) ≤ (48 : Int)), ((8 : Int) ≠ 0), ((3 : Nat) < (4 : Nat)), (((0 : Int) ≤ (3 : Int)) ∧ ((3 : Int) < (4 : Int))), ((8 : Int) ≠ 0), (true = true), ((29 : Nat) < (32 : Nat)), (((0 : Int) ≤ (29 : Int)) ∧ ((29 : Int) < (32 : Int))), ((0 : Int) ≤ (40 : Int)), ((8 : Int) ≠ 0), ((3 : Nat) < (4 : Nat)), (((0 : Int) ≤ (3 : Int)) ∧ ((3 : Int) < (4 : Int))), ((8 : Int) ≠ 0), (true = true), ((28 : Nat) < (32 : Nat)), (((0 : Int) ≤ (28 : Int)) ∧ ((28 : Int) < (32 : Int))), ((0 : Int) ≤ (32 : Int)), ((8 : Int) ≠ 0), ((3 : Nat) < (4 : Nat)), (((0 : Int) ≤ (3 : Int)) ∧ ((3 : Int) < (4 : Int))), ((8 : Int) ≠ 0), (true = true), ((27 : Nat) < (32 : Nat)), (((0 : Int) ≤ (27 : Int)) ∧ ((27 : Int) < (32 : Int))), ((0 : Int) ≤ (24 : Int)), ((8 : Int) ≠ 0), ((3 : Nat) < (4 : Nat)), (((0 : Int) ≤ (3 : Int)) ∧ ((3 : Int) < (4 : Int))), ((8 : Int) ≠ 0), (true = true), ((26 : Nat) < (32 : Nat)), (((0 : Int) ≤ (26 : Int)) ∧ ((26 : Int) < (32 : Int))), ((0 : Int) ≤ (16 : Int)), ((8 : Int) ≠ 0), ((3 : Nat) < (4 : Nat)), (((0 : Int) ≤ (3 : Int)) ∧ ((3 : Int) < (4 : Int))), ((8 : Int) ≠ 0), (true = true), ((25 : Nat) < (32 : Nat)), (((0 : Int) ≤ (25 : Int)) ∧ ((25 : Int) < (32 : Int))), ((0 : Int) ≤ (8 : Int)), ((8 : Int) ≠ 0), ((3 : Nat) < (4 : Nat)), (((0 : Int) ≤ (3 : Int)) ∧ ((3 : Int) < (4 : Int))), ((8 : Int) ≠ 0), (true = true), ((24 : Nat) < (32 : Nat)), (((0 : Int) ≤ (24 : Int)) ∧ ((24 : Int) < (32 : Int))), ((0 : Int) ≤ (0 : Int)), ((8 : Int) ≠ 0), ((3 : Nat) < (4 : Nat)), (((0 : Int) ≤ (3 : Int)) ∧ ((3 : Int) < (4 : Int))), ((8 : Int) ≠ 0), (true = true), ((23 : Nat) < (32 : Nat)), (((0 : Int) ≤ (23 : Int)) ∧ ((23 : Int) < (32 : Int))), ((0 : Int) ≤ (56 : Int)), ((8 : Int) ≠ 0), ((2 : Nat) < (4 : Nat)), (((0 : Int) ≤ (2 : Int)) ∧ ((2 : Int) < (4 : Int))), ((8 : Int) ≠ 0), (true = true), ((22 : Nat) < (32 : Nat)), (((0 : Int) ≤ (22 : Int)) ∧ ((22 : Int) < (32 : Int))), ((0 : Int) ≤ (48 : Int)), ((8 : Int) ≠ 0), ((2 : Nat) < (4 : Nat)), (((0 : Int) ≤ (2 : Int)) ∧ ((2 : Int) < (4 : Int))), ((8 : Int) ≠ 0), (true = true), ((21 : Nat) < (32 : Nat)), (((0 : Int) ≤ (21 : Int)) ∧ ((21 : Int) < (32 : Int))), ((0 : Int) ≤ (40 : Int)), ((8 : Int) ≠ 0), ((2 : Nat) < (4 : Nat)), (((0 : Int) ≤ (2 : Int)) ∧ ((2 : Int) < (4 : Int))), ((8 : Int) ≠ 0), (true = true), ((20 : Nat) < (32 : Nat)), (((0 : Int) ≤ (20 : Int)) ∧ ((20 : Int) < (32 : Int))), ((0 : Int) ≤ (32 : Int)), ((8 : Int) ≠ 0), ((2 : Nat) < (4 : Nat)), (((0 : Int) ≤ (2 : Int)) ∧ ((2 : Int) < (4 : Int))), ((8 : Int) ≠ 0), (true = true), ((19 : Nat) < (32 : Nat)), (((0 : Int) ≤ (19 : Int)) ∧ ((19 : Int) < (32 : Int))), ((0 : Int) ≤ (24 : Int)), ((8 : Int) ≠ 0), ((2 : Nat) < (4 : Nat)), (((0 : Int) ≤ (2 : Int)) ∧ ((2 : Int) < (4 : Int))), ((8 : Int) ≠ 0), (true = true), ((18 : Nat) < (32 : Nat)), (((0 : Int) ≤ (18 : Int)) ∧ ((18 : Int) < (32 : Int))), ((0 : Int) ≤ (16 : Int)), ((8 : Int) ≠ 0), ((2 : Nat) < (4 : Nat)), (((0 : Int) ≤ (2 : Int)) ∧ ((2 : Int) < (4 : Int))), ((8 : Int) ≠ 0), (true = true), ((17 : Nat) < (32 : Nat)), (((0 : Int) ≤ (17 : Int)) ∧ ((17 : Int) < (32 : Int))), ((0 : Int) ≤ (8 : Int)), ((8 : Int) ≠ 0), ((2 : Nat) < (4 : Nat)), (((0 : Int) ≤ (2 : Int)) ∧ ((2 : Int) < (4 : Int))), ((8 : Int) ≠ 0), (true = true), ((16 : Nat) < (32 : Nat)), (((0 : Int) ≤ (16 : Int)) ∧ ((16 : Int) < (32 : Int))), ((0 : Int) ≤ (0 : Int)), ((8 : Int) ≠ 0), ((2 : Nat) < (4 : Nat)), (((0 : Int) ≤ (2 : Int)) ∧ ((2 : Int) < (4 : Int))), ((8 : Int) ≠ 0), (true = true), ((15 : Nat) < (32 : Nat)), (((0 : Int) ≤ (15 : Int)) ∧ ((15 : Int) < (32 : Int))), ((0 : Int) ≤ (56 : Int)), ((8 : Int) ≠ 0), ((1 : Nat) < (4 : Nat)), (((0 : Int) ≤ (1 : Int)) ∧ ((1 : Int) < (4 : Int))), ((8 : Int) ≠ 0), (true = true), ((14 : Nat) < (32 : Nat)), (((0 : Int) ≤ (14 : Int)) ∧ ((14 : Int) < (32 : Int))), ((0 : Int) ≤ (48 : Int)), ((8 : Int) ≠ 0), ((1 : Nat) < (4 : Nat)), (((0 : Int) ≤ (1 : Int)) ∧ ((1 : Int) < (4 : Int))), ((8 : Int) ≠ 0), (true = true), ((13 : Nat) < (32 : Nat)), (((0 : Int) ≤ (13 : Int)) ∧ ((13 : Int) < (32 : Int))), ((0 : Int) ≤ (40 : Int)), ((8 : Int) ≠ 0), ((1 : Nat) < (4 : Nat)), (((0 : Int) ≤ (1 : Int)) ∧ ((1 : Int) < (4 : Int))), ((8 : Int) ≠ 0), (true = true), ((12 : Nat) < (32 : Nat)), (((0 : Int) ≤ (12 : Int)) ∧ ((12 : Int) < (32 : Int))), ((0 : Int) ≤ (32 : Int)), ((8 : Int) ≠ 0), ((1 : Nat) < (4 : Nat)), (((0 : Int) ≤ (1 : Int)) ∧ ((1 : Int) < (4 : Int))), ((8 : Int) ≠ 0), (true = true), ((11 : Nat) < (32 : Nat)), (((0 : Int) ≤ (11 : Int)) ∧ ((11 : Int) < (32 : Int))), ((0 : Int) ≤ (24 : Int)), ((8 : Int) ≠ 0), ((1 : Nat) < (4 : Nat)), (((0 : Int) ≤ (1 : Int)) ∧ ((1 : Int) < (4 : Int))), ((8 : Int) ≠ 0), (true = true), ((10 : Nat) < (32 : Nat)), (((0 : Int) ≤ (10 : Int)) ∧ ((10 : Int) < (32 : Int))), ((0 : Int) ≤ (16 : Int)), ((8 : Int) ≠ 0), ((1 : Nat) < (4 : Nat)), (((0 : Int) ≤ (1 : Int)) ∧ ((1 : Int) < (4 : Int))), ((8 : Int) ≠ 0), (true = true), ((9 : Nat) < (32 : Nat)), (((0 : Int) ≤ (9 : Int)) ∧ ((9 : Int) < (32 : Int))), ((0 : Int) ≤ (8 : Int)), ((8 : Int) ≠ 0), ((1 : Nat) < (4 : Nat)), (((0 : Int) ≤ (1 : Int)) ∧ ((1 : Int) < (4 : Int))), ((8 : Int) ≠ 0), (true = true), ((8 : Nat) < (32 : Nat)), (((0 : Int) ≤ (8 : Int)) ∧ ((8 : Int) < (32 : Int))), ((0 : Int) ≤ (0 : Int)), ((8 : Int) ≠ 0), ((1 : Nat) < (4 : Nat)), (((0 : Int) ≤ (1 : Int)) ∧ ((1 : Int) < (4 : Int))), ((8 : Int) ≠ 0), (true = true), ((7 : Nat) < (32 : Nat)), (((0 : Int) ≤ (7 : Int)) ∧ ((7 : Int) < (32 : Int))), ((0 : Int) ≤ (56 : Int)), ((8 : Int) ≠ 0), ((0 : Nat) < (4 : Nat)), (((0 : Int) ≤ (0 : Int)) ∧ ((0 : Int) < (4 : Int))), ((8 : Int) ≠ 0), (true = true), ((6 : Nat) < (32 : Nat)), (((0 : Int) ≤ (6 : Int)) ∧ ((6 : Int) < (32 : Int))), ((0 : Int) ≤ (48 : Int)), ((8 : Int) ≠ 0), ((0 : Nat) < (4 : Nat)), (((0 : Int) ≤ (0 : Int)) ∧ ((0 : Int) < (4 : Int))), ((8 : Int) ≠ 0), (true = true), ((5 : Nat) < (32 : Nat)), (((0 : Int) ≤ (5 : Int)) ∧ ((5 : Int) < (32 : Int))), ((0 : Int) ≤ (40 : Int)), ((8 : Int) ≠ 0), ((0 : Nat) < (4 : Nat)), (((0 : Int) ≤ (0 : Int)) ∧ ((0 : Int) < (4 : Int))), ((8 : Int) ≠ 0), (true = true), ((4 : Nat) < (32 : Nat)), (((0 : Int) ≤ (4 : Int)) ∧ ((4 : Int) < (32 : Int))), ((0 : Int) ≤ (32 : Int)), ((8 : Int) ≠ 0), ((0 : Nat) < (4 : Nat)), (((0 : Int) ≤ (0 : Int)) ∧ ((0 : Int) < (4 : Int))), ((8 : Int) ≠ 0), (true = true), ((3 : Nat) < (32 : Nat)), (((0 : Int) ≤ (3 : Int)) ∧ ((3 : Int) < (32 : Int))), ((0 : Int) ≤ (24 : Int)), ((8 : Int) ≠ 0), ((0 : Nat) < (4 : Nat)), (((0 : Int) ≤ (0 : Int)) ∧ ((0 : Int) < (4 : Int))), ((8 : Int) ≠ 0), (true = true), ((2 : Nat) < (32 : Nat)), (((0 : Int) ≤ (2 : Int)) ∧ ((2 : Int) < (32 : Int))), ((0 : Int) ≤ (16 : Int)), ((8 : Int) ≠ 0), ((0 : Nat) < (4 : Nat)), (((0 : Int) ≤ (0 : Int)) ∧ ((0 : Int) < (4 : Int))), ((8 : Int) ≠ 0), (true = true), ((1 : Nat) < (32 : Nat)), (((0 : Int) ≤ (1 : Int)) ∧ ((1 : Int) < (32 : Int))), ((0 : Int) ≤ (8 : Int)), ((8 : Int) ≠ 0), ((0 : Nat) < (4 : Nat)), (((0 : Int) ≤ (0 : Int)) ∧ ((0 : Int) < (4 : Int))), ((8 : Int) ≠ 0), (true = true), ((0 : Nat) < (32 : Nat)), (((0 : Int) ≤ (0 : Int)) ∧ ((0 : Int) < (32 : Int))), ((0 : Int) ≤ (0 : Int)), ((8 : Int) ≠ 0), ((0 : Nat) < (4 : Nat)), (((0 : Int) ≤ (0 : Int)) ∧ ((0 : Int) < (4 : Int))), ((8 : Int) ≠ 0), (true = true)]) (by kernel_rfl)
    (aC rfl (aC (by decide) (aC ⟨(by decide), (by decide)⟩ (aC (by decide) (aC (by decide) (aC (by decide) (aC ⟨(by decide), (by decide)⟩ (aC (by decide) (aC rfl (aC (by decide) (aC ⟨(by decide), (by decide)⟩ (aC (by decide) (aC (by decide) (aC (by decide) (aC ⟨(by decide), (by decide)⟩ (aC (by decide) (aC rfl (aC (by decide) (aC ⟨(by decide), (by decide)⟩ (aC (by decide) (aC (by decide) (aC (by decide) (aC ⟨(by decide), (by decide)⟩ (aC (by decide) (aC rfl (aC (by decide) (aC ⟨(by decide), (by decide)⟩ (aC (by decide) (aC (by decide) (aC (by decide) (aC ⟨(by decide), (by decide)⟩ (aC (by decide) (aC rfl (aC (by decide) (aC ⟨(by decide), (by decide)⟩ (aC (by decide) (aC (by decide) (aC (by decide) (aC ⟨(by decide), (by decide)⟩ (aC (by decide) (aC rfl (aC (by decide) (aC ⟨(by decide), (by decide)⟩ (aC (by decide) (aC (by decide) (aC (by decide) (aC ⟨(by decide), (by decide)⟩ (aC (by decide) (aC rfl (aC (by decide) (aC ⟨(by decide), (by decide)⟩ (aC (by decide) (aC (by decide) (aC (by decide) (aC ⟨(by decide), (by decide)⟩ (aC (by decide) (aC rfl (aC (by decide) (aC ⟨(by decide), (by decide)⟩ (aC (by decide) (aC (by decide) (aC (by decide) (aC ⟨(by decide), (by decide)⟩ (aC (by decide) (aC rfl (aC (by decide) (aC ⟨(by decide), (by decide)⟩ (aC (by decide) (aC (by decide) (aC (by decide) (aC ⟨(by decide), (by decide)⟩ (aC (by decide) (aC rfl (aC (by decide) (aC ⟨(by decide), (by decide)⟩ (aC (by decide) (aC (by decide) (aC (by decide) (aC ⟨(by decide), (by decide)⟩ (aC (by decide) (aC rfl (aC (by decide) (aC ⟨(by decide), (by decide)⟩ (aC (by decide) (aC (by decide) (aC (by decide) (aC ⟨(by decide), (by decide)⟩ (aC (by decide) (aC rfl (aC (by decide) (aC ⟨(by decide), (by decide)⟩ (aC (by decide) (aC (by decide) (aC (by decide) (aC ⟨(by decide), (by decide)⟩ (aC (by decide) (aC rfl (aC (by decide) (aC ⟨(by decide), (by decide)⟩ (aC (by decide) (aC (by decide) (aC (by decide) (aC ⟨(by decide), (by decide)⟩ (aC (by decide) (aC rfl (aC (by decide) (aC ⟨(by decide), (by decide)⟩ (aC (by decide) (aC (by decide) (aC (by decide) (aC ⟨(by decide), (by decide)⟩ (aC (by decide) (aC rfl (aC (by decide) (aC ⟨(by decide), (by decide)⟩ (aC (by decide) (aC (by decide) (aC (by decide) (aC ⟨(by decide), (by decide)⟩ (aC (by decide) (aC rfl (aC (by decide) (aC ⟨(by decide), (by decide)⟩ (aC (by decide) (aC (by decide) (aC (by decide) (aC ⟨(by decide), (by decide)⟩ (aC (by decide) (aC rfl (aC (by decide) (aC ⟨(by decide), (by decide)⟩ (aC (by decide) (aC (by decide) (aC (by decide) (aC ⟨(by decide), (by decide)⟩ (aC (by decide) (aC rfl (aC (by decide) (aC ⟨(by decide), (by decide)⟩ (aC (by decide) (aC (by decide) (aC (by decide) (aC ⟨(by decide), (by decide)⟩ (aC (by decide) (aC rfl (aC (by decide) (aC ⟨(by decide), (by decide)⟩ (aC (by decide) (aC (by decide) (aC (by decide) (aC ⟨(by decide), (by decide)⟩ (aC (by decide) (aC rfl (aC (by decide) (aC ⟨(by decide), (by decide)⟩ (aC (by decide) (aC (by decide) (aC (by decide) (aC ⟨(by decide), (by decide)⟩ (aC (by decide) (aC rfl (aC (by decide) (aC ⟨(by decide), (by decide)⟩ (aC (by decide) (aC (by decide) (aC (by decide) (aC ⟨(by decide), (by decide)⟩ (aC (by decide) (aC rfl (aC (by decide) (aC ⟨(by decide), (by decide)⟩ (aC (by decide) (aC (by decide) (aC (by decide) (aC ⟨(by decide), (by decide)⟩ (aC (by decide) (aC rfl (aC (by decide) (aC ⟨(by decide), (by decide)⟩ (aC (by decide) (aC (by decide) (aC (by decide) (aC ⟨(by decide), (by decide)⟩ (aC (by decide) (aC rfl (aC (by decide) (aC ⟨(by decide), (by decide)⟩ (aC (by decide) (aC (by decide) (aC (by decide) (aC ⟨(by decide), (by decide)⟩ (aC (by decide) (aC rfl (aC (by decide) (aC ⟨(by decide), (by decide)⟩ (aC (by decide) (aC (by decide) (aC (by decide) (aC ⟨(by decide), (by decide)⟩ (aC (by decide) (aC rfl (aC (by decide) (aC ⟨(by decide), (by decide)⟩ (aC (by decide) (aC (by decide) (aC (by decide) (aC ⟨(by decide), (by decide)⟩ (aC (by decide) (aC rfl (aC (by decide) (aC ⟨(by decide), (by decide)⟩ (aC (by decide) (aC (by decide) (aC (by decide) (aC ⟨(by decide), (by decide)⟩ (aC (by decide) (aC rfl (aC (by decide) (aC ⟨(by decide), (by decide)⟩ (aC (by decide) (aC (by decide) (aC (by decide) (aC ⟨(by decide), (by decide)⟩ (aC (by decide) (aC rfl (aC (by decide) (aC ⟨(by decide), (by decide)⟩ (aC (by decide) (aC (by decide) (aC (by decide) (aC ⟨(by decide), (by decide)⟩ (aC (by decide) (aC rfl (aC (by decide) (aC ⟨(by decide), (by decide)⟩ (aC (by decide) (aC (by decide) (aC (by decide) (aC ⟨(by decide), (by decide)⟩ (aC (by decide) (aC rfl (aC (by decide) (aC ⟨(by decide), (by decide)⟩ (aC (by decide) (aC (by decide) (aC (by decide) (aC ⟨(by decide), (by decide)⟩ (aC (by decide) (aC rfl (aC (by decide) (aC ⟨(by decide), (by decide)⟩ (aC (by decide) (aC (by decide) (aC (by decide) (aC ⟨(by decide), (by decide)⟩ (aC (by decide) (aC rfl (AllP_nil))))))))))))))))))))))))))))))))))))))))))))))))))))))))))))))))))))))))))))))))))))))))))))))))))))))))))))))))))))))))))))))))))))))))))))))))))))))))))))))))))))))))))))))))))))))))))))))))))))))))))))))))))))))))))))))))))))))))))))))))))))))))))))))))))

end Go.Proofs.Ytlmdhjojinkdbaa.X.V

/- Bytes of a number and numbers of bytes; sums. -/
namespace Go.Proofs.Ytlmdhjojinkdbaa.X.V
open Go Go.Proofs
set_option linter.unusedVariables false

theorem wrap8 (x : Int) : IntKind.u8.wrap x = x % 256 := by
  show (let m := x % (256 : Int); if (false && decide (m ≥ (128 : Int))) = true then m - 256 else m) = x % 256
  simp only [Bool.false_and, Bool.false_eq_true, if_false]
theorem shr_0 (x : Int) : shr .u64 x 0 = x / 1 := by
  have e : shr .u64 x 0 = x.fdiv 1 := rfl
  rw [e, Int.fdiv_eq_ediv_of_nonneg _ (by omega)]
theorem shr_8 (x : Int) : shr .u64 x 8 = x / 256 := by
  have e : shr .u64 x 8 = x.fdiv 256 := rfl
  rw [e, Int.fdiv_eq_ediv_of_nonneg _ (by omega)]
theorem shr_16 (x : Int) : shr .u64 x 16 = x / 65536 := by
  have e : shr .u64 x 16 = x.fdiv 65536 := rfl
  rw [e, Int.fdiv_eq_ediv_of_nonneg _ (by omega)]
theorem shr_24 (x : Int) : shr .u64 x 24 = x / 16777216 := by
  have e : shr .u64 x 24 = x.fdiv 16777216 := rfl
  rw [e, Int.fdiv_eq_ediv_of_nonneg _ (by omega)]
theorem shr_32 (x : Int) : shr .u64 x 32 = x / 4294967296 := by
  have e : shr .u64 x 32 = x.fdiv 4294967296 := rfl
  rw [e, Int.fdiv_eq_ediv_of_nonneg _ (by omega)]
theorem shr_40 (x : Int) : shr .u64 x 40 = x / 1099511627776 := by
  have e : shr .u64 x 40 = x.fdiv 1099511627776 := rfl
  rw [e, Int.fdiv_eq_ediv_of_nonneg _ (by omega)]
theorem shr_48 (x : Int) : shr .u64 x 48 = x / 281474976710656 := by
  have e : shr .u64 x 48 = x.fdiv 281474976710656 := rfl
  rw [e, Int.fdiv_eq_ediv_of_nonneg _ (by omega)]
theorem shr_56 (x : Int) : shr .u64 x 56 = x / 72057594037927936 := by
  have e : shr .u64 x 56 = x.fdiv 72057594037927936 := rfl
  rw [e, Int.fdiv_eq_ediv_of_nonneg _ (by omega)]

theorem or_shl {a b : Int} {n : Nat} (hn : n ≤ 56) (h0 : 0 ≤ a) (h1 : a < ((2 ^ n : Nat) : Int)) (b0 : 0 ≤ b) (b1 : b < 256) : bits2 .or .u64 a (shl .u64 (IntKind.u64.wrap b) ((n : Nat) : Int)) = a + b * ((2 ^ n : Nat) : Int) := by
  obtain ⟨x, rfl⟩ := Int.eq_ofNat_of_zero_le h0
  obtain ⟨y, rfl⟩ := Int.eq_ofNat_of_zero_le b0
  have hx : x < 2 ^ n := by omega
  have hy : y < 256 := by omega
  have hp : 2 ^ n ≤ 2 ^ 56 := Nat.pow_le_pow_right (by omega) hn
  have hp0 : 0 < 2 ^ n := Nat.pow_pos (by omega)
  have hyp : y * 2 ^ n ≤ 255 * 2 ^ 56 := Nat.mul_le_mul (by omega) hp
  have e1 : shl .u64 (IntKind.u64.wrap ((y : Nat) : Int)) ((n : Nat) : Int) = ((y * 2 ^ n : Nat) : Int) := by
    have : shl .u64 (IntKind.u64.wrap ((y : Nat) : Int)) ((n : Nat) : Int) = IntKind.u64.wrap (IntKind.u64.wrap ((y : Nat) : Int) * 2 ^ (min n 64)) := rfl
    rw [this, Nat.min_eq_left (by omega), wrap64 ((y : Nat) : Int), Int.emod_eq_of_lt (by omega) (by omega), wrap64]
    have e : ((y : Nat) : Int) * 2 ^ n = ((y * 2 ^ n : Nat) : Int) := by rw [Int.natCast_mul, Int.natCast_pow]; rfl
    rw [e]
    exact Int.emod_eq_of_lt (by omega) (by omega)
  rw [e1]
  have e : bits2 .or .u64 ((x : Nat) : Int) ((y * 2 ^ n : Nat) : Int) = IntKind.u64.wrap (((BitVec.ofInt 64 ((x : Nat) : Int) ||| BitVec.ofInt 64 ((y * 2 ^ n : Nat) : Int)).toNat : Nat) : Int) := rfl
  have t : ∀ m : Nat, m < 18446744073709551616 → (BitVec.ofInt 64 ((m : Nat) : Int)).toNat = m := by
    intro m hm
    rw [BitVec.toNat_ofInt]
    show (((m : Nat) : Int) % 18446744073709551616).toNat = m
    omega
  rw [e, BitVec.toNat_or, t x (by omega), t (y * 2 ^ n) (by omega), Nat.or_comm, Nat.mul_comm y, ← Nat.two_pow_add_eq_or_of_lt hx, wrap64]
  have : ((2 ^ n * y + x : Nat) : Int) % 18446744073709551616 = ((2 ^ n * y + x : Nat) : Int) := Int.emod_eq_of_lt (by omega) (by rw [Nat.mul_comm]; omega)
  rw [this, Int.natCast_add, Int.natCast_mul, Int.add_comm, Int.mul_comm]

def Byt (s : List Int) : Prop := ∀ x ∈ s, 0 ≤ x ∧ x < 256
theorem byt_get {s : List Int} (h : Byt s) (i : Nat) : 0 ≤ List.getD s i 0 ∧ List.getD s i 0 < 256 := by
  rw [List.getD_eq_getElem?_getD]
  by_cases hi : i < s.length
  · rw [List.getElem?_eq_getElem hi]; exact h _ (List.getElem_mem hi)
  · rw [List.getElem?_eq_none (by omega)]; simp

theorem word8 {b0 b1 b2 b3 b4 b5 b6 b7 : Int} (h0 : 0 ≤ b0 ∧ b0 < 256) (h1 : 0 ≤ b1 ∧ b1 < 256) (h2 : 0 ≤ b2 ∧ b2 < 256) (h3 : 0 ≤ b3 ∧ b3 < 256) (h4 : 0 ≤ b4 ∧ b4 < 256) (h5 : 0 ≤ b5 ∧ b5 < 256) (h6 : 0 ≤ b6 ∧ b6 < 256) (h7 : 0 ≤ b7 ∧ b7 < 256) : (bits2 .or .u64 (bits2 .or .u64 (bits2 .or .u64 (bits2 .or .u64 (bits2 .or .u64 (bits2 .or .u64 (bits2 .or .u64 (bits2 .or .u64 (0 : Int) (shl .u64 (IntKind.u64.wrap b0) (0 : Int))) (shl .u64 (IntKind.u64.wrap b1) (8 : Int))) (shl .u64 (IntKind.u64.wrap b2) (16 : Int))) (shl .u64 (IntKind.u64.wrap b3) (24 : Int))) (shl .u64 (IntKind.u64.wrap b4) (32 : Int))) (shl .u64 (IntKind.u64.wrap b5) (40 : Int))) (shl .u64 (IntKind.u64.wrap b6) (48 : Int))) (shl .u64 (IntKind.u64.wrap b7) (56 : Int))) = b0 + 256 * b1 + 65536 * b2 + 16777216 * b3 + 4294967296 * b4 + 1099511627776 * b5 + 281474976710656 * b6 + 72057594037927936 * b7 := by
  have e0 : bits2 .or .u64 ((0 : Int)) (shl .u64 (IntKind.u64.wrap b0) (0 : Int)) = b0 := by
    have q := or_shl (a := (0 : Int)) (b := b0) (n := 0) (by omega) (by omega) (show _ < (1 : Int) by omega) h0.1 h0.2
    have q : bits2 .or .u64 ((0 : Int)) (shl .u64 (IntKind.u64.wrap b0) (0 : Int)) = ((0 : Int)) + b0 * 1 := q
    rw [q]; omega
  have e1 : bits2 .or .u64 (b0) (shl .u64 (IntKind.u64.wrap b1) (8 : Int)) = b0 + 256 * b1 := by
    have q := or_shl (a := b0) (b := b1) (n := 8) (by omega) (by omega) (show _ < (256 : Int) by omega) h1.1 h1.2
    have q : bits2 .or .u64 (b0) (shl .u64 (IntKind.u64.wrap b1) (8 : Int)) = (b0) + b1 * 256 := q
    rw [q]; omega
  have e2 : bits2 .or .u64 (b0 + 256 * b1) (shl .u64 (IntKind.u64.wrap b2) (16 : Int)) = b0 + 256 * b1 + 65536 * b2 := by
    have q := or_shl (a := b0 + 256 * b1) (b := b2) (n := 16) (by omega) (by omega) (show _ < (65536 : Int) by omega) h2.1 h2.2
    have q : bits2 .or .u64 (b0 + 256 * b1) (shl .u64 (IntKind.u64.wrap b2) (16 : Int)) = (b0 + 256 * b1) + b2 * 65536 := q
    rw [q]; omega
  have e3 : bits2 .or .u64 (b0 + 256 * b1 + 65536 * b2) (shl .u64 (IntKind.u64.wrap b3) (24 : Int)) = b0 + 256 * b1 + 65536 * b2 + 16777216 * b3 := by
    have q := or_shl (a := b0 + 256 * b1 + 65536 * b2) (b := b3) (n := 24) (by omega) (by omega) (show _ < (16777216 : Int) by omega) h3.1 h3.2
    have q : bits2 .or .u64 (b0 + 256 * b1 + 65536 * b2) (shl .u64 (IntKind.u64.wrap b3) (24 : Int)) = (b0 + 256 * b1 + 65536 * b2) + b3 * 16777216 := q
    rw [q]; omega
  have e4 : bits2 .or .u64 (b0 + 256 * b1 + 65536 * b2 + 16777216 * b3) (shl .u64 (IntKind.u64.wrap b4) (32 : Int)) = b0 + 256 * b1 + 65536 * b2 + 16777216 * b3 + 4294967296 * b4 := by
    have q := or_shl (a := b0 + 256 * b1 + 65536 * b2 + 16777216 * b3) (b := b4) (n := 32) (by omega) (by omega) (show _ < (4294967296 : Int) by omega) h4.1 h4.2
    have q : bits2 .or .u64 (b0 + 256 * b1 + 65536 * b2 + 16777216 * b3) (shl .u64 (IntKind.u64.wrap b4) (32 : Int)) = (b0 + 256 * b1 + 65536 * b2 + 16777216 * b3) + b4 * 4294967296 := q
    rw [q]; omega
  have e5 : bits2 .or .u64 (b0 + 256 * b1 + 65536 * b2 + 16777216 * b3 + 4294967296 * b4) (shl .u64 (IntKind.u64.wrap b5) (40 : Int)) = b0 + 256 * b1 + 65536 * b2 + 16777216 * b3 + 4294967296 * b4 + 1099511627776 * b5 := by
    have q := or_shl (a := b0 + 256 * b1 + 65536 * b2 + 16777216 * b3 + 4294967296 * b4) (b := b5) (n := 40) (by omega) (by omega) (show _ < (1099511627776 : Int) by omega) h5.1 h5.2
    have q : bits2 .or .u64 (b0 + 256 * b1 + 65536 * b2 + 16777216 * b3 + 4294967296 * b4) (shl .u64 (IntKind.u64.wrap b5) (40 : Int)) = (b0 + 256 * b1 + 65536 * b2 + 16777216 * b3 + 4294967296 * b4) + b5 * 1099511627776 := q
    rw [q]; omega
  have e6 : bits2 .or .u64 (b0 + 256 * b1 + 65536 * b2 + 16777216 * b3 + 4294967296 * b4 + 1099511627776 * b5) (shl .u64 (IntKind.u64.wrap b6) (48 : Int)) = b0 + 256 * b1 + 65536 * b2 + 16777216 * b3 + 4294967296 * b4 + 1099511627776 * b5 + 281474976710656 * b6 := by
    have q := or_shl (a := b0 + 256 * b1 + 65536 * b2 + 16777216 * b3 + 4294967296 * b4 + 1099511627776 * b5) (b := b6) (n := 48) (by omega) (by omega) (show _ < (281474976710656 : Int) by omega) h6.1 h6.2
    have q : bits2 .or .u64 (b0 + 256 * b1 + 65536 * b2 + 16777216 * b3 + 4294967296 * b4 + 1099511627776 * b5) (shl .u64 (IntKind.u64.wrap b6) (48 : Int)) = (b0 + 256 * b1 + 65536 * b2 + 16777216 * b3 + 4294967296 * b4 + 1099511627776 * b5) + b6 * 281474976710656 := q
    rw [q]; omega
  have e7 : bits2 .or .u64 (b0 + 256 * b1 + 65536 * b2 + 16777216 * b3 + 4294967296 * b4 + 1099511627776 * b5 + 281474976710656 * b6) (shl .u64 (IntKind.u64.wrap b7) (56 : Int)) = b0 + 256 * b1 + 65536 * b2 + 16777216 * b3 + 4294967296 * b4 + 1099511627776 * b5 + 281474976710656 * b6 + 72057594037927936 * b7 := by
    have q := or_shl (a := b0 + 256 * b1 + 65536 * b2 + 16777216 * b3 + 4294967296 * b4 + 1099511627776 * b5 + 281474976710656 * b6) (b := b7) (n := 56) (by omega) (by omega) (show _ < (72057594037927936 : Int) by omega) h7.1 h7.2
    have q : bits2 .or .u64 (b0 + 256 * b1 + 65536 * b2 + 16777216 * b3 + 4294967296 * b4 + 1099511627776 * b5 + 281474976710656 * b6) (shl .u64 (IntKind.u64.wrap b7) (56 : Int)) = (b0 + 256 * b1 + 65536 * b2 + 16777216 * b3 + 4294967296 * b4 + 1099511627776 * b5 + 281474976710656 * b6) + b7 * 72057594037927936 := q
    rw [q]; omega
  rw [e0, e1, e2, e3, e4, e5, e6, e7]

def le8 (s : List Int) (o : Nat) : Int := List.getD s (o + 0) 0 + 256 * List.getD s (o + 1) 0 + 65536 * List.getD s (o + 2) 0 + 16777216 * List.getD s (o + 3) 0 + 4294967296 * List.getD s (o + 4) 0 + 1099511627776 * List.getD s (o + 5) 0 + 281474976710656 * List.getD s (o + 6) 0 + 72057594037927936 * List.getD s (o + 7) 0
/-- the number of 32 bytes -/
def BV (s : List Int) : Int := le8 s 0 + 18446744073709551616 * le8 s 8 + 340282366920938463463374607431768211456 * le8 s 16 + 6277101735386680763835789423207666416102355444464034512896 * le8 s 24

theorem le8_rng {s : List Int} (h : Byt s) (o : Nat) : 0 ≤ le8 s o ∧ le8 s o < 18446744073709551616 := by
  have h0 := byt_get h (o + 0)
  have h1 := byt_get h (o + 1)
  have h2 := byt_get h (o + 2)
  have h3 := byt_get h (o + 3)
  have h4 := byt_get h (o + 4)
  have h5 := byt_get h (o + 5)
  have h6 := byt_get h (o + 6)
  have h7 := byt_get h (o + 7)
  unfold le8
  omega
theorem BV_rng {s : List Int} (h : Byt s) : 0 ≤ BV s ∧ BV s < 115792089237316195423570985008687907853269984665640564039457584007913129639936 := by
  have h0 := le8_rng h 0
  have h1 := le8_rng h 8
  have h2 := le8_rng h 16
  have h3 := le8_rng h 24
  unfold BV
  omega

theorem frm_eq {s : List Int} (h : Byt s) : frm s = W4 (BV s) := by
  unfold frm
  rw [word8 (byt_get h 0) (byt_get h 1) (byt_get h 2) (byt_get h 3) (byt_get h 4) (byt_get h 5) (byt_get h 6) (byt_get h 7), word8 (byt_get h 8) (byt_get h 9) (byt_get h 10) (byt_get h 11) (byt_get h 12) (byt_get h 13) (byt_get h 14) (byt_get h 15), word8 (byt_get h 16) (byt_get h 17) (byt_get h 18) (byt_get h 19) (byt_get h 20) (byt_get h 21) (byt_get h 22) (byt_get h 23), word8 (byt_get h 24) (byt_get h 25) (byt_get h 26) (byt_get h 27) (byt_get h 28) (byt_get h 29) (byt_get h 30) (byt_get h 31)]
  exact W4_eq rfl (le8_rng h 0) (le8_rng h 8) (le8_rng h 16) (le8_rng h 24)

/-- the 32 bytes of a number -/
def B32 (v : Int) : List Int := [v % 256, v / 256 % 256, v / 65536 % 256, v / 16777216 % 256, v / 4294967296 % 256, v / 1099511627776 % 256, v / 281474976710656 % 256, v / 72057594037927936 % 256, v / 18446744073709551616 % 256, v / 4722366482869645213696 % 256, v / 1208925819614629174706176 % 256, v / 309485009821345068724781056 % 256, v / 79228162514264337593543950336 % 256, v / 20282409603651670423947251286016 % 256, v / 5192296858534827628530496329220096 % 256, v / 1329227995784915872903807060280344576 % 256, v / 340282366920938463463374607431768211456 % 256, v / 87112285931760246646623899502532662132736 % 256, v / 22300745198530623141535718272648361505980416 % 256, v / 5708990770823839524233143877797980545530986496 % 256, v / 1461501637330902918203684832716283019655932542976 % 256, v / 374144419156711147060143317175368453031918731001856 % 256, v / 95780971304118053647396689196894323976171195136475136 % 256, v / 24519928653854221733733552434404946937899825954937634816 % 256, v / 6277101735386680763835789423207666416102355444464034512896 % 256, v / 1606938044258990275541962092341162602522202993782792835301376 % 256, v / 411376139330301510538742295639337626245683966408394965837152256 % 256, v / 105312291668557186697918027683670432318895095400549111254310977536 % 256, v / 26959946667150639794667015087019630673637144422540572481103610249216 % 256, v / 6901746346790563787434755862277025452451108972170386555162524223799296 % 256, v / 1766847064778384329583297500742918515827483896875618958121606201292619776 % 256, v / 452312848583266388373324160190187140051835877600158453279131187530910662656 % 256]

theorem bck_eq {S : List Int} (h : Wds S) (l : S.length = 4) : bck S = B32 (V4 S) := by
  obtain ⟨a, b, c, d, rfl⟩ := four l
  have h0 := h a (by simp); have h1 := h b (by simp); have h2 := h c (by simp); have h3 := h d (by simp)
  unfold bck B32 V4
  simp only [List.getD_cons_zero, List.getD_cons_succ, wrap8, shr_0, shr_8, shr_16, shr_24, shr_32, shr_40, shr_48, shr_56, List.cons.injEq, and_true]
  refine ⟨?_, ?_, ?_, ?_, ?_, ?_, ?_, ?_, ?_, ?_, ?_, ?_, ?_, ?_, ?_, ?_, ?_, ?_, ?_, ?_, ?_, ?_, ?_, ?_, ?_, ?_, ?_, ?_, ?_, ?_, ?_, ?_⟩ <;> omega

theorem ad64_eq {x y c : Int} (h0 : 0 ≤ x) (h1 : x < 18446744073709551616) (h2 : 0 ≤ y) (h3 : y < 18446744073709551616) (hc : 0 ≤ c ∧ c ≤ 1) :
    ad64s x y c + 18446744073709551616 * ad64c x y c = x + y + c ∧ 0 ≤ ad64s x y c ∧ ad64s x y c < 18446744073709551616 ∧ 0 ≤ ad64c x y c ∧ ad64c x y c ≤ 1 := by
  unfold ad64s ad64c; omega

theorem plus_eq {S T : List Int} (hS : Wds S) (hT : Wds T) (lS : S.length = 4) (lT : T.length = 4) : plusA S T = W4 (low (addR (V4 S) (V4 T))) := by
  obtain ⟨a0, a1, a2, a3, rfl⟩ := four lS
  obtain ⟨b0, b1, b2, b3, rfl⟩ := four lT
  have ha0 := hS a0 (by simp); have ha1 := hS a1 (by simp); have ha2 := hS a2 (by simp); have ha3 := hS a3 (by simp)
  have hb0 := hT b0 (by simp); have hb1 := hT b1 (by simp); have hb2 := hT b2 (by simp); have hb3 := hT b3 (by simp)
  have e0 := ad64_eq ha0.1 ha0.2 hb0.1 hb0.2 (c := 0) (by omega)
  have e1 := ad64_eq ha1.1 ha1.2 hb1.1 hb1.2 (c := ad64c a0 b0 0) (by omega)
  have e2 := ad64_eq ha2.1 ha2.2 hb2.1 hb2.2 (c := ad64c a1 b1 (ad64c a0 b0 0)) (by omega)
  have e3 := ad64_eq ha3.1 ha3.2 hb3.1 hb3.2 (c := ad64c a2 b2 (ad64c a1 b1 (ad64c a0 b0 0))) (by omega)
  show W4 (low (V4 [ad64s a0 b0 0, ad64s a1 b1 (ad64c a0 b0 0), ad64s a2 b2 (ad64c a1 b1 (ad64c a0 b0 0)), ad64s a3 b3 (ad64c a2 b2 (ad64c a1 b1 (ad64c a0 b0 0)))])) = _
  congr 2
  generalize ad64c a3 b3 (ad64c a2 b2 (ad64c a1 b1 (ad64c a0 b0 0))) = c3 at *
  generalize ad64s a3 b3 (ad64c a2 b2 (ad64c a1 b1 (ad64c a0 b0 0))) = s3 at *
  generalize ad64s a2 b2 (ad64c a1 b1 (ad64c a0 b0 0)) = s2 at *
  generalize ad64c a2 b2 (ad64c a1 b1 (ad64c a0 b0 0)) = c2 at *
  generalize ad64s a1 b1 (ad64c a0 b0 0) = s1 at *
  generalize ad64c a1 b1 (ad64c a0 b0 0) = c1 at *
  generalize ad64s a0 b0 0 = s0 at *
  generalize ad64c a0 b0 0 = c0 at *
  unfold addR V4
  simp only
  clear hS hT lS lT
  omega

theorem plus_can (S T : List Int) (h0 : (Wds S)) (h1 : (Wds T)) (w : World) : Body Try.prog (tabOf tabNM) Try.f110 ⟨w, [], 0, noEnv⟩ (toA [.g [.ints .u64 (4 : Nat) S], .g [.ints .u64 (4 : Nat) T]]) [] (fun ys _ => ys = [.g [.ints .u64 (4 : Nat) (W4 (low (addR (V4 S) (V4 T))))]]) :=
  Body.lens (c := (Try.f110.body.getD .skip)) rfl fun h => (plusA_body0 S T h0 h1 (h.vals 0 _ _ _ rfl) (h.vals 1 _ _ _ rfl) w).mono fun xs K hx => by
    subst hx; rw [plus_eq h0 h1 (h.vals 0 _ _ _ rfl) (h.vals 1 _ _ _ rfl)]

theorem frm_can (s : List Int) (h0 : Byt s) (w : World) : Body Try.prog (tabOf tabNM) Try.f112 ⟨w, [], 0, noEnv⟩ (toA [.g [.ints .u8 (32 : Nat) s]]) [] (fun ys _ => ys = [.g [.ints .u64 (4 : Nat) (W4 (BV s))]]) :=
  Body.lens (c := (Try.f112.body.getD .skip)) rfl fun h => (frm_body0 s (h.vals 0 _ _ _ rfl) w).mono fun xs K hx => by
    subst hx; rw [frm_eq h0]

theorem bck_can (S : List Int) (h0 : (Wds S)) (w : World) : Body Try.prog (tabOf tabNM) Try.f109 ⟨w, [], 0, noEnv⟩ (toA [.g [.ints .u64 (4 : Nat) S]]) [] (fun ys _ => ys = [.g [.ints .u8 (32 : Nat) (B32 (V4 S))]]) :=
  Body.lens (c := (Try.f109.body.getD .skip)) rfl fun h => (bck_body0 S (h.vals 0 _ _ _ rfl) w).mono fun xs K hx => by
    subst hx; rw [bck_eq h0 (h.vals 0 _ _ _ rfl)]
end Go.Proofs.Ytlmdhjojinkdbaa.X.V

/- One round of Montgomery's product. -/
namespace Go.Proofs.Ytlmdhjojinkdbaa.X.V
open Go Go.Proofs
set_option linter.unusedVariables false

def mstep (a b0 b1 b2 b3 t0 t1 t2 t3 t4 : Int) : List Int :=
  let u0 := muladd_1 a b0 t0 0
  let c0 := muladd a b0 t0 0
  let u1 := muladd_1 a b1 t1 c0
  let c1 := muladd a b1 t1 c0
  let u2 := muladd_1 a b2 t2 c1
  let c2 := muladd a b2 t2 c1
  let u3 := muladd_1 a b3 t3 c2
  let c3 := muladd a b3 t3 c2
  let s4 := ad64s t4 c3 0
  let s5 := ad64c t4 c3 0
  let m := IntKind.u64.wrap (u0 * 15183074304973897243)
  let d0 := muladd m 6346243789798364141 u0 0
  let v0 := muladd_1 m 1503914060200516822 u1 d0
  let d1 := muladd m 1503914060200516822 u1 d0
  let v1 := muladd_1 m 0 u2 d1
  let d2 := muladd m 0 u2 d1
  let v2 := muladd_1 m 1152921504606846976 u3 d2
  let d3 := muladd m 1152921504606846976 u3 d2
  let v3 := ad64s s4 d3 0
  let v4 := IntKind.u64.wrap (s5 + ad64c s4 d3 0)
  [v0, v1, v2, v3, v4, s5]

def mT (S T : List Int) : Nat → List Int
  | 0 => [0, 0, 0, 0, 0, 0]
  | k + 1 => mstep (S.getD k 0) (T.getD 0 0) (T.getD 1 0) (T.getD 2 0) (T.getD 3 0) ((mT S T k).getD 0 0) ((mT S T k).getD 1 0) ((mT S T k).getD 2 0) ((mT S T k).getD 3 0) ((mT S T k).getD 4 0)
def mTi (S T : List Int) (k i : Nat) : Int := (mT S T k).getD i 0

/-- the round as a number: T' 2^64 = T + a B + m L -/
theorem mstep_eq {a b0 b1 b2 b3 t0 t1 t2 t3 t4 : Int} (ha : 0 ≤ a ∧ a < 18446744073709551616) (hb0 : 0 ≤ b0 ∧ b0 < 18446744073709551616) (hb1 : 0 ≤ b1 ∧ b1 < 18446744073709551616) (hb2 : 0 ≤ b2 ∧ b2 < 18446744073709551616) (hb3 : 0 ≤ b3 ∧ b3 < 18446744073709551616)
    (h0 : 0 ≤ t0 ∧ t0 < 18446744073709551616) (h1 : 0 ≤ t1 ∧ t1 < 18446744073709551616) (h2 : 0 ≤ t2 ∧ t2 < 18446744073709551616) (h3 : 0 ≤ t3 ∧ t3 < 18446744073709551616) (h4 : 0 ≤ t4 ∧ t4 ≤ 1)
    (hB : b0 + 18446744073709551616 * b1 + 340282366920938463463374607431768211456 * b2 + 6277101735386680763835789423207666416102355444464034512896 * b3 < LL)
    (hT : t0 + 18446744073709551616 * t1 + 340282366920938463463374607431768211456 * t2 + 6277101735386680763835789423207666416102355444464034512896 * t3 + 115792089237316195423570985008687907853269984665640564039457584007913129639936 * t4 < 2 * LL) :
    ∃ v0 v1 v2 v3 v4 s5 m : Int, mstep a b0 b1 b2 b3 t0 t1 t2 t3 t4 = [v0, v1, v2, v3, v4, s5] ∧ (0 ≤ v0 ∧ v0 < 18446744073709551616) ∧ (0 ≤ v1 ∧ v1 < 18446744073709551616) ∧ (0 ≤ v2 ∧ v2 < 18446744073709551616) ∧ (0 ≤ v3 ∧ v3 < 18446744073709551616) ∧ (0 ≤ v4 ∧ v4 ≤ 1) ∧
      18446744073709551616 * (v0 + 18446744073709551616 * v1 + 340282366920938463463374607431768211456 * v2 + 6277101735386680763835789423207666416102355444464034512896 * v3 + 115792089237316195423570985008687907853269984665640564039457584007913129639936 * v4) =
        t0 + 18446744073709551616 * t1 + 340282366920938463463374607431768211456 * t2 + 6277101735386680763835789423207666416102355444464034512896 * t3 + 115792089237316195423570985008687907853269984665640564039457584007913129639936 * t4 + a * (b0 + 18446744073709551616 * b1 + 340282366920938463463374607431768211456 * b2 + 6277101735386680763835789423207666416102355444464034512896 * b3) + m * LL ∧
      v0 + 18446744073709551616 * v1 + 340282366920938463463374607431768211456 * v2 + 6277101735386680763835789423207666416102355444464034512896 * v3 + 115792089237316195423570985008687907853269984665640564039457584007913129639936 * v4 < 2 * LL := by
  have hz : (0 : Int) ≤ 0 ∧ (0 : Int) < 18446744073709551616 := by omega
  have e0 := muladd_eq ha.1 ha.2 hb0.1 hb0.2 h0.1 h0.2 hz.1 hz.2
  have e1 := muladd_eq ha.1 ha.2 hb1.1 hb1.2 h1.1 h1.2 e0.2.1 e0.2.2.1
  have e2 := muladd_eq ha.1 ha.2 hb2.1 hb2.2 h2.1 h2.2 e1.2.1 e1.2.2.1
  have e3 := muladd_eq ha.1 ha.2 hb3.1 hb3.2 h3.1 h3.2 e2.2.1 e2.2.2.1
  have hm : 0 ≤ IntKind.u64.wrap (muladd_1 a b0 t0 0 * 15183074304973897243) ∧ IntKind.u64.wrap (muladd_1 a b0 t0 0 * 15183074304973897243) < 18446744073709551616 := by rw [wrap64]; omega
  have f0 := muladd_eq hm.1 hm.2 (y := 6346243789798364141) (by omega) (by omega) e0.2.2.2.1 e0.2.2.2.2 hz.1 hz.2
  have f1 := muladd_eq hm.1 hm.2 (y := 1503914060200516822) (by omega) (by omega) e1.2.2.2.1 e1.2.2.2.2 f0.2.1 f0.2.2.1
  have f2 := muladd_eq hm.1 hm.2 (y := 0) (by omega) (by omega) e2.2.2.2.1 e2.2.2.2.2 f1.2.1 f1.2.2.1
  have f3 := muladd_eq hm.1 hm.2 (y := 1152921504606846976) (by omega) (by omega) e3.2.2.2.1 e3.2.2.2.2 f2.2.1 f2.2.2.1
  have hmm := wrap64 (muladd_1 a b0 t0 0 * 15183074304973897243)
  have e := show mstep a b0 b1 b2 b3 t0 t1 t2 t3 t4 = _ from rfl
  refine ⟨_, _, _, _, _, _, IntKind.u64.wrap (muladd_1 a b0 t0 0 * 15183074304973897243), e, ?_⟩
  have hAB : a * (b0 + 18446744073709551616 * b1 + 340282366920938463463374607431768211456 * b2 + 6277101735386680763835789423207666416102355444464034512896 * b3) = a * b0 + 18446744073709551616 * (a * b1) + 340282366920938463463374607431768211456 * (a * b2) + 6277101735386680763835789423207666416102355444464034512896 * (a * b3) := by
    rw [Int.mul_add, Int.mul_add, Int.mul_add, Int.mul_left_comm a, Int.mul_left_comm a, Int.mul_left_comm a]
  have hAB2 : a * (b0 + 18446744073709551616 * b1 + 340282366920938463463374607431768211456 * b2 + 6277101735386680763835789423207666416102355444464034512896 * b3) ≤ 18446744073709551615 * (b0 + 18446744073709551616 * b1 + 340282366920938463463374607431768211456 * b2 + 6277101735386680763835789423207666416102355444464034512896 * b3) :=
    Int.mul_le_mul_of_nonneg_right (by omega) (by omega)
  clear e
  rw [hAB] at hAB2
  rw [hAB]
  generalize a * b0 = p0 at *
  generalize a * b1 = p1 at *
  generalize a * b2 = p2 at *
  generalize a * b3 = p3 at *
  generalize muladd a b3 t3 (muladd a b2 t2 (muladd a b1 t1 (muladd a b0 t0 0))) = c3 at *
  generalize muladd_1 a b3 t3 (muladd a b2 t2 (muladd a b1 t1 (muladd a b0 t0 0))) = u3 at *
  generalize muladd_1 a b2 t2 (muladd a b1 t1 (muladd a b0 t0 0)) = u2 at *
  generalize muladd a b2 t2 (muladd a b1 t1 (muladd a b0 t0 0)) = c2 at *
  generalize muladd_1 a b1 t1 (muladd a b0 t0 0) = u1 at *
  generalize muladd a b1 t1 (muladd a b0 t0 0) = c1 at *
  generalize muladd_1 a b0 t0 0 = u0 at *
  generalize muladd a b0 t0 0 = c0 at *
  generalize IntKind.u64.wrap (u0 * 15183074304973897243) = m at *
  generalize muladd m 1152921504606846976 u3 (muladd m 0 u2 (muladd m 1503914060200516822 u1 (muladd m 6346243789798364141 u0 0))) = d3 at *
  generalize muladd_1 m 1152921504606846976 u3 (muladd m 0 u2 (muladd m 1503914060200516822 u1 (muladd m 6346243789798364141 u0 0))) = v2 at *
  generalize muladd_1 m 0 u2 (muladd m 1503914060200516822 u1 (muladd m 6346243789798364141 u0 0)) = v1 at *
  generalize muladd m 0 u2 (muladd m 1503914060200516822 u1 (muladd m 6346243789798364141 u0 0)) = d2 at *
  generalize muladd_1 m 1503914060200516822 u1 (muladd m 6346243789798364141 u0 0) = v0 at *
  generalize muladd m 1503914060200516822 u1 (muladd m 6346243789798364141 u0 0) = d1 at *
  generalize muladd_1 m 6346243789798364141 u0 0 = z at *
  generalize muladd m 6346243789798364141 u0 0 = d0 at *
  have hs : ad64s (ad64s t4 c3 0) d3 0 + 18446744073709551616 * (ad64c t4 c3 0 + ad64c (ad64s t4 c3 0) d3 0) = t4 + c3 + d3 ∧ 0 ≤ ad64s (ad64s t4 c3 0) d3 0 ∧ ad64s (ad64s t4 c3 0) d3 0 < 18446744073709551616 ∧ 0 ≤ ad64c t4 c3 0 + ad64c (ad64s t4 c3 0) d3 0 ∧ ad64c t4 c3 0 + ad64c (ad64s t4 c3 0) d3 0 ≤ 2 := by
    unfold ad64s ad64c; omega
  have hw : IntKind.u64.wrap (ad64c t4 c3 0 + ad64c (ad64s t4 c3 0) d3 0) = ad64c t4 c3 0 + ad64c (ad64s t4 c3 0) d3 0 := by rw [wrap64]; omega
  rw [hw]
  generalize ad64s (ad64s t4 c3 0) d3 0 = v3 at *
  generalize ad64c t4 c3 0 + ad64c (ad64s t4 c3 0) d3 0 = v4 at *
  have hz0 : z = 0 := by omega
  subst hz0
  unfold LL at *
  have key : 18446744073709551616 * (v0 + 18446744073709551616 * v1 + 340282366920938463463374607431768211456 * v2 + 6277101735386680763835789423207666416102355444464034512896 * v3 + 115792089237316195423570985008687907853269984665640564039457584007913129639936 * v4) =
        t0 + 18446744073709551616 * t1 + 340282366920938463463374607431768211456 * t2 + 6277101735386680763835789423207666416102355444464034512896 * t3 + 115792089237316195423570985008687907853269984665640564039457584007913129639936 * t4 + (p0 + 18446744073709551616 * p1 + 340282366920938463463374607431768211456 * p2 + 6277101735386680763835789423207666416102355444464034512896 * p3) + m * 7237005577332262213973186563042994240857116359379907606001950938285454250989 := by
    omega
  refine ⟨⟨f1.2.2.2.1, f1.2.2.2.2⟩, ⟨f2.2.2.2.1, f2.2.2.2.2⟩, ⟨f3.2.2.2.1, f3.2.2.2.2⟩, ⟨hs.2.1, hs.2.2.1⟩, ?_, key, ?_⟩
  · omega
  · omega
end Go.Proofs.Ytlmdhjojinkdbaa.X.V

/- The words of Montgomery's product are not negative. -/
namespace Go.Proofs.Ytlmdhjojinkdbaa.X.V
open Go Go.Proofs

theorem ad64c_nn {x y c : Int} (h : 0 ≤ x) (h1 : 0 ≤ y) (h2 : 0 ≤ c) : 0 ≤ ad64c x y c := by unfold ad64c; omega

theorem mTi_nn (S T : List Int) : ∀ k i, 0 ≤ mTi S T k i
  | 0, i => by
    show 0 ≤ List.getD [0, 0, 0, 0, 0, 0] i 0
    match i with
    | 0 | 1 | 2 | 3 | 4 | 5 => decide
    | n + 6 => simp
  | k + 1, i => by
    match i with
    | 0 => exact muladd1_nn _ _ _ _
    | 1 => exact muladd1_nn _ _ _ _
    | 2 => exact muladd1_nn _ _ _ _
    | 3 => exact (ad64_rng _ _ _).1
    | 4 => exact wrap_nn (k := .u64) rfl
    | 5 => exact ad64c_nn (mTi_nn S T k 4) (muladd_nn _ _ _ _) (Int.le_refl 0)
    | n + 6 => show 0 ≤ List.getD (mstep _ _ _ _ _ _ _ _ _ _) (n + 6) 0; simp [mstep]
end Go.Proofs.Ytlmdhjojinkdbaa.X.V

/- Printed by a tool of this session. -/
namespace Go.Proofs.Ytlmdhjojinkdbaa.X.V
open Go Go.Proofs
set_option linter.unusedVariables false
set_option linter.unusedSimpArgs false
set_option maxRecDepth 100000
theorem teNO_24 : TEOk Try.prog 98 ⟨.array 32 5, 32, 32, [.ints .u8 (32 : Nat) ([0, 0, 0, 0, 0, 0, 0, 0, 0, 0, 0, 0, 0, 0, 0, 0, 0, 0, 0, 0, 0, 0, 0, 0, 0, 0, 0, 0, 0, 0, 0, 0] : List Int)], true⟩ :=
  TEOk.of Try.underlying98 (i := Try.t98) (by kernel_rfl) rfl rfl rfl (by kernel_rfl) (fun _ => Try.eqGuardType98) (by kernel_rfl)
end Go.Proofs.Ytlmdhjojinkdbaa.X.V

/- Texts of this session, put together (part 1), less what nothing uses. -/
/- Texts of this session, put together (part 1). -/
/- Plain numbers for the walks of the scalars: words of 64 bits, Montgomery's product. -/
namespace Go.Proofs.Ytlmdhjojinkdbaa.X.V
open Go Go.Proofs
set_option linter.unusedVariables false

end Go.Proofs.Ytlmdhjojinkdbaa.X.V

/- Texts of this session, put together (part 1). -/
/- Plain numbers for the walks of the scalars: words of 64 bits, Montgomery's product. -/
namespace Go.Proofs.Ytlmdhjojinkdbaa.X.V
open Go Go.Proofs
set_option linter.unusedVariables false

theorem teNO_25 : TEOk Try.prog 147 ⟨.int .u64, 1, 8, [.i .u64 (0 : Int)], false⟩ :=
  TEOk.of Try.underlying147 (i := Try.t147) (by kernel_rfl) rfl rfl rfl (by kernel_rfl) (fun h => by cases h) (by kernel_rfl)
theorem teNO_104 : TEOk Try.prog 213 ⟨.array 4 147, 4, 32, [.ints .u64 (4 : Nat) ([0, 0, 0, 0] : List Int)], true⟩ :=
  TEOk.of Try.underlying213 (i := Try.t213) (by kernel_rfl) rfl rfl rfl (by kernel_rfl) (fun _ => Try.eqGuardType213) (by kernel_rfl)
theorem teNO_171 : TEOk Try.prog 243 ⟨.array 6 147, 6, 48, [.ints .u64 (6 : Nat) ([0, 0, 0, 0, 0, 0] : List Int)], true⟩ :=
  TEOk.of Try.underlying243 (i := Try.t243) (by kernel_rfl) rfl rfl rfl (by kernel_rfl) (fun _ => Try.eqGuardType243) (by kernel_rfl)
noncomputable def tabNO : List (Nat × TE) := [(98, ⟨.array 32 5, 32, 32, [.ints .u8 (32 : Nat) ([0, 0, 0, 0, 0, 0, 0, 0, 0, 0, 0, 0, 0, 0, 0, 0, 0, 0, 0, 0, 0, 0, 0, 0, 0, 0, 0, 0, 0, 0, 0, 0] : List Int)], true⟩), (147, ⟨.int .u64, 1, 8, [.i .u64 (0 : Int)], false⟩), (213, ⟨.array 4 147, 4, 32, [.ints .u64 (4 : Nat) ([0, 0, 0, 0] : List Int)], true⟩), (243, ⟨.array 6 147, 6, 48, [.ints .u64 (6 : Nat) ([0, 0, 0, 0, 0, 0] : List Int)], true⟩)]
theorem tabOkNO : TabOk Try.prog (tabOf tabNO) := (tabOf_cons teNO_24 (tabOf_cons teNO_25 (tabOf_cons teNO_104 (tabOf_cons teNO_171 tabOf_nil))))

theorem plusA_pure (S T : List Int) (h0 : (Wds S)) (h1 : (Wds T)) : PureC Try.prog 110 [.g [.ints .u64 (4 : Nat) S], .g [.ints .u64 (4 : Nat) T]] [.g [.ints .u64 (4 : Nat) (W4 (low (addR (V4 S) (V4 T))))]] :=
  PureC.of_body tabOkNO Try.func110 rfl rfl fun w => plus_can S T h0 h1 w

def gv7 : Gam := gpure 110 (fun args => match args with | [.o (.g [.ints .u64 (4 : Nat) S]), .o (.g [.ints .u64 (4 : Nat) T])] => some (some ((Wds S) ∧ (Wds T)), [.g [.ints .u64 (4 : Nat) (W4 (low (addR (V4 S) (V4 T))))]]) | _ => none) gv6
theorem gv7_ok : GamOk Try.prog gv7 := gpure_ok gv6_ok Try.call110 (by
  intro args vc xs h hv
  split at h
  · simp only [Option.some.injEq, Prod.mk.injEq] at h; obtain ⟨rfl, rfl⟩ := h; exact ⟨_, by rfl, plusA_pure _ _ hv.1 hv.2⟩
  · simp at h)

theorem frm_pure (s : List Int) (h0 : (Byt s)) : PureC Try.prog 112 [.g [.ints .u8 (32 : Nat) s]] [.g [.ints .u64 (4 : Nat) (W4 (BV s))]] :=
  PureC.of_body tabOkNO Try.func112 rfl rfl fun w => frm_can s h0 w

def gv9 : Gam := gpure 112 (fun args => match args with | [.o (.g [.ints .u8 (32 : Nat) s])] => some (some ((Byt s)), [.g [.ints .u64 (4 : Nat) (W4 (BV s))]]) | _ => none) gv7
theorem gv9_ok : GamOk Try.prog gv9 := gpure_ok gv7_ok Try.call112 (by
  intro args vc xs h hv
  split at h
  · simp only [Option.some.injEq, Prod.mk.injEq] at h; obtain ⟨rfl, rfl⟩ := h; exact ⟨_, by rfl, frm_pure _ hv⟩
  · simp at h)

theorem bck_pure (S : List Int) (h0 : (Wds S)) : PureC Try.prog 109 [.g [.ints .u64 (4 : Nat) S]] [.g [.ints .u8 (32 : Nat) (B32 (V4 S))]] :=
  PureC.of_body tabOkNO Try.func109 rfl rfl fun w => bck_can S h0 w

def gv10 : Gam := gpure 109 (fun args => match args with | [.o (.g [.ints .u64 (4 : Nat) S])] => some (some ((Wds S)), [.g [.ints .u8 (32 : Nat) (B32 (V4 S))]]) | _ => none) gv9
theorem gv10_ok : GamOk Try.prog gv10 := gpure_ok gv9_ok Try.call109 (by
  intro args vc xs h hv
  split at h
  · simp only [Option.some.injEq, Prod.mk.injEq] at h; obtain ⟨rfl, rfl⟩ := h; exact ⟨_, by rfl, bck_pure _ hv⟩
  · simp at h)

def valA (s : List Int) : List Int :=
  (W4 (low (V4 (W4 (low (V4 (W4 (low (V4 (W4 (low (V4 (W4 (low (V4 (W4 (low (V4 (W4 (low (V4 (W4 (low (V4 (W4 (low (V4 (W4 (low (V4 (W4 (low (V4 (W4 (low (V4 (W4 (low (V4 (W4 (low (V4 (W4 (low (V4 (W4 (low (V4 (W4 (BV s))))))))))))))))))))))))))))))))))))))))))))))))))

set_option maxHeartbeats 1000000 in
theorem valA_body0 (s : List Int) (h0 : (Byt s)) (hv0 : List.length s = (32 : Nat)) (w : World) : Body Try.prog (tabOf tabNO) Try.f113 ⟨w, [], 0, noEnv⟩ (toA [.g [.ints .u8 (32 : Nat) s]]) [] (fun ys _ => ys = [.g [.ints .u64 (4 : Nat) (valA s)]]) :=
  Body.of_fin (Γ := gv10) (Λ := noLam) (Ψ := noPsi) (fuel := 17) (m := 12) (c := (Try.f113.body.getD .skip)) mix tabOkNO gv10_ok rfl (rs := [.cell 2 213]) rfl rfl [true, true, true, true, true, true, true, true, true, true, true, true, true, true, true, true, false] []
    (vc := [(false = false), (Wds (W4 (low (V4 (W4 (low (V4 (W4 (low (V4 (W4 (low (V4 (W4 (low (V4 (W4 (low (V4 (W4 (low (V4 (W4 (low (V4 (W4 (low (V4 (W4 (low (V4 (W4 (low (V4 (W4 (low (V4 (W4 (low (V4 (W4 (low (V4 (W4 (low (V4 (W4 (BV s)))))))))))))))))))))))))))))))))))))))))))))))), (true = true), (Wds (W4 (low (V4 (W4 (low (V4 (W4 (low (V4 (W4 (low (V4 (W4 (low (V4 (W4 (low (V4 (W4 (low (V4 (W4 (low (V4 (W4 (low (V4 (W4 (low (V4 (W4 (low (V4 (W4 (low (V4 (W4 (low (V4 (W4 (low (V4 (W4 (BV s))))))))))))))))))))))))))))))))))))))))))))), (true = true), (Wds (W4 (low (V4 (W4 (low (V4 (W4 (low (V4 (W4 (low (V4 (W4 (low (V4 (W4 (low (V4 (W4 (low (V4 (W4 (low (V4 (W4 (low (V4 (W4 (low (V4 (W4 (low (V4 (W4 (low (V4 (W4 (low (V4 (W4 (BV s)))))))))))))))))))))))))))))))))))))))))), (true = true), (Wds (W4 (low (V4 (W4 (low (V4 (W4 (low (V4 (W4 (low (V4 (W4 (low (V4 (W4 (low (V4 (W4 (low (V4 (W4 (low (V4 (W4 (low (V4 (W4 (low (V4 (W4 (low (V4 (W4 (low (V4 (W4 (BV s))))))))))))))))))))))))))))))))))))))), (true = true), (Wds (W4 (low (V4 (W4 (low (V4 (W4 (low (V4 (W4 (low (V4 (W4 (low (V4 (W4 (low (V4 (W4 (low (V4 (W4 (low (V4 (W4 (low (V4 (W4 (low (V4 (W4 (low (V4 (W4 (BV s)))))))))))))))))))))))))))))))))))), (true = true), (Wds (W4 (low (V4 (W4 (low (V4 (W4 (low (V4 (W4 (low (V4 (W4 (low (V4 (W4 (low (V4 (W4 (low (V4 (W4 (low (V4 (W4 (low (V4 (W4 (low (V4 (W4 (BV s))))))))))))))))))))))))))))))))), (true = true), (Wds (W4 (low (V4 (W4 (low (V4 (W4 (low (V4 (W4 (low (V4 (W4 (low (V4 (W4 (low (V4 (W4 (low (V4 (W4 (low (V4 (W4 (low (V4 (W4 (BV s)))))))))))))))))))))))))))))), (true = true), (Wds (W4 (low (V4 (W4 (low (V4 (W4 (low (V4 (W4 (low (V4 (W4 (low (V4 (W4 (low (V4 (W4 (low (V4 (W4 (low (V4 (W4 (BV s))))))))))))))))))))))))))), (true = true), (Wds (W4 (low (V4 (W4 (low (V4 (W4 (low (V4 (W4 (low (V4 (W4 (low (V4 (W4 (low (V4 (W4 (low (V4 (W4 (BV s)))))))))))))))))))))))), (true = true), (Wds (W4 (low (V4 (W4 (low (V4 (W4 (low (V4 (W4 (low (V4 (W4 (low (V4 (W4 (low (V4 (W4 (BV s))))))))))))))))))))), (true = true), (Wds (W4 (low (V4 (W4 (low (V4 (W4 (low (V4 (W4 (low (V4 (W4 (low (V4 (W4 (BV s)))))))))))))))))), (true = true), (Wds (W4 (low (V4 (W4 (low (V4 (W4 (low (V4 (W4 (low (V4 (W4 (BV s))))))))))))))), (true = true), (Wds (W4 (low (V4 (W4 (low (V4 (W4 (low (V4 (W4 (BV s)))))))))))), (true = true), (Wds (W4 (low (V4 (W4 (low (V4 (W4 (BV s))))))))), (true = true), (Wds (W4 (low (V4 (W4 (BV s)))))), (true = true), (Wds (W4 (BV s))), (true = true), (Byt s)]) (by kernel_rfl)
    (aC rfl (aC (by first | assumption | exact wds_W4 _ | exact wds_ord) (aC rfl (aC (by first | assumption | exact wds_W4 _ | exact wds_ord) (aC rfl (aC (by first | assumption | exact wds_W4 _ | exact wds_ord) (aC rfl (aC (by first | assumption | exact wds_W4 _ | exact wds_ord) (aC rfl (aC (by first | assumption | exact wds_W4 _ | exact wds_ord) (aC rfl (aC (by first | assumption | exact wds_W4 _ | exact wds_ord) (aC rfl (aC (by first | assumption | exact wds_W4 _ | exact wds_ord) (aC rfl (aC (by first | assumption | exact wds_W4 _ | exact wds_ord) (aC rfl (aC (by first | assumption | exact wds_W4 _ | exact wds_ord) (aC rfl (aC (by first | assumption | exact wds_W4 _ | exact wds_ord) (aC rfl (aC (by first | assumption | exact wds_W4 _ | exact wds_ord) (aC rfl (aC (by first | assumption | exact wds_W4 _ | exact wds_ord) (aC rfl (aC (by first | assumption | exact wds_W4 _ | exact wds_ord) (aC rfl (aC (by first | assumption | exact wds_W4 _ | exact wds_ord) (aC rfl (aC (by first | assumption | exact wds_W4 _ | exact wds_ord) (aC rfl (aC (by first | assumption | exact wds_W4 _ | exact wds_ord) (aC rfl (aC (by first | assumption | exact wds_W4 _ | exact wds_ord) (AllP_nil)))))))))))))))))))))))))))))))))))

def moL_mk (S T : List Int) (k : Nat) (s : Unit) : St := ⟨sparse 101 [(0, .o (.g [.ints .u64 (4 : Nat) S])), (1, .o (.g [.ints .u64 (4 : Nat) T])), (2, .o (.a (.p 0 0))), (3, .o (.a (.p 1 0))), (4, .o (.a (.p 2 0))), (5, .o (.a (.p 3 0))), (6, .o (.a (.p 4 0))), (13, .o (.g [.ints .u64 (4 : Nat) ([6346243789798364141, 1503914060200516822, 0, 1152921504606846976] : List Int)])), (14, .o (.a (.i .i64 ((k : Nat) : Int))))], [some ⟨true, [.ints .u64 (4 : Nat) S]⟩, some ⟨true, [.ints .u64 (4 : Nat) T]⟩, some ⟨true, [.ints .u64 (4 : Nat) ([0, 0, 0, 0] : List Int)]⟩, some ⟨true, [.ints .u64 (4 : Nat) ([6346243789798364141, 1503914060200516822, 0, 1152921504606846976] : List Int)]⟩, some ⟨true, [.ints .u64 (6 : Nat) ([(mTi S T k (0 : Nat)), (mTi S T k (1 : Nat)), (mTi S T k (2 : Nat)), (mTi S T k (3 : Nat)), (mTi S T k (4 : Nat)), (mTi S T k (5 : Nat))] : List Int)]⟩]⟩

def moL_step (k : Nat) (s : Unit) : Unit :=
  ()

set_option maxHeartbeats 1000000 in
theorem moL_round (S T : List Int) (h0 : (Wds S)) (h1 : (Wds T)) (hv0 : List.length S = (4 : Nat)) (hv1 : List.length T = (4 : Nat)) (hr : Wds [mTi S T 4 0, mTi S T 4 1, mTi S T 4 2, mTi S T 4 3]) (w : World) (k : Nat) (hk : k < (4 : Nat)) (s : Unit) : Run Try.prog ⟨w, [], 0, noEnv⟩ (loopB Try.f127 0) (moL_mk S T k s) (To ⟨w, [], 0, noEnv⟩ .normal (moL_mk S T (k + 1) (moL_step k s))) := by
  have e0 : (IntKind.u64.wrap ((ad64c (mTi S T k (4 : Nat)) (muladd (List.getD S k 0) (List.getD T (3 : Nat) 0) (mTi S T k (3 : Nat)) (muladd (List.getD S k 0) (List.getD T (2 : Nat) 0) (mTi S T k (2 : Nat)) (muladd (List.getD S k 0) (List.getD T (1 : Nat) 0) (mTi S T k (1 : Nat)) (muladd (List.getD S k 0) (List.getD T (0 : Nat) 0) (mTi S T k (0 : Nat)) (0 : Int))))) (0 : Int)) + (ad64c (ad64s (mTi S T k (4 : Nat)) (muladd (List.getD S k 0) (List.getD T (3 : Nat) 0) (mTi S T k (3 : Nat)) (muladd (List.getD S k 0) (List.getD T (2 : Nat) 0) (mTi S T k (2 : Nat)) (muladd (List.getD S k 0) (List.getD T (1 : Nat) 0) (mTi S T k (1 : Nat)) (muladd (List.getD S k 0) (List.getD T (0 : Nat) 0) (mTi S T k (0 : Nat)) (0 : Int))))) (0 : Int)) (muladd (IntKind.u64.wrap ((muladd_1 (List.getD S k 0) (List.getD T (0 : Nat) 0) (mTi S T k (0 : Nat)) (0 : Int)) * (15183074304973897243 : Int))) (1152921504606846976 : Int) (muladd_1 (List.getD S k 0) (List.getD T (3 : Nat) 0) (mTi S T k (3 : Nat)) (muladd (List.getD S k 0) (List.getD T (2 : Nat) 0) (mTi S T k (2 : Nat)) (muladd (List.getD S k 0) (List.getD T (1 : Nat) 0) (mTi S T k (1 : Nat)) (muladd (List.getD S k 0) (List.getD T (0 : Nat) 0) (mTi S T k (0 : Nat)) (0 : Int))))) (muladd (IntKind.u64.wrap ((muladd_1 (List.getD S k 0) (List.getD T (0 : Nat) 0) (mTi S T k (0 : Nat)) (0 : Int)) * (15183074304973897243 : Int))) (0 : Int) (muladd_1 (List.getD S k 0) (List.getD T (2 : Nat) 0) (mTi S T k (2 : Nat)) (muladd (List.getD S k 0) (List.getD T (1 : Nat) 0) (mTi S T k (1 : Nat)) (muladd (List.getD S k 0) (List.getD T (0 : Nat) 0) (mTi S T k (0 : Nat)) (0 : Int)))) (muladd (IntKind.u64.wrap ((muladd_1 (List.getD S k 0) (List.getD T (0 : Nat) 0) (mTi S T k (0 : Nat)) (0 : Int)) * (15183074304973897243 : Int))) (1503914060200516822 : Int) (muladd_1 (List.getD S k 0) (List.getD T (1 : Nat) 0) (mTi S T k (1 : Nat)) (muladd (List.getD S k 0) (List.getD T (0 : Nat) 0) (mTi S T k (0 : Nat)) (0 : Int))) (muladd (IntKind.u64.wrap ((muladd_1 (List.getD S k 0) (List.getD T (0 : Nat) 0) (mTi S T k (0 : Nat)) (0 : Int)) * (15183074304973897243 : Int))) (6346243789798364141 : Int) (muladd_1 (List.getD S k 0) (List.getD T (0 : Nat) 0) (mTi S T k (0 : Nat)) (0 : Int)) (0 : Int))))) (0 : Int)))) = (mTi S T (k + (1 : Nat)) (4 : Nat)) := (by first | exact wrap_succ (by omega) | rfl)
  have e1 : (ad64s (ad64s (mTi S T k (4 : Nat)) (muladd (List.getD S k 0) (List.getD T (3 : Nat) 0) (mTi S T k (3 : Nat)) (muladd (List.getD S k 0) (List.getD T (2 : Nat) 0) (mTi S T k (2 : Nat)) (muladd (List.getD S k 0) (List.getD T (1 : Nat) 0) (mTi S T k (1 : Nat)) (muladd (List.getD S k 0) (List.getD T (0 : Nat) 0) (mTi S T k (0 : Nat)) (0 : Int))))) (0 : Int)) (muladd (IntKind.u64.wrap ((muladd_1 (List.getD S k 0) (List.getD T (0 : Nat) 0) (mTi S T k (0 : Nat)) (0 : Int)) * (15183074304973897243 : Int))) (1152921504606846976 : Int) (muladd_1 (List.getD S k 0) (List.getD T (3 : Nat) 0) (mTi S T k (3 : Nat)) (muladd (List.getD S k 0) (List.getD T (2 : Nat) 0) (mTi S T k (2 : Nat)) (muladd (List.getD S k 0) (List.getD T (1 : Nat) 0) (mTi S T k (1 : Nat)) (muladd (List.getD S k 0) (List.getD T (0 : Nat) 0) (mTi S T k (0 : Nat)) (0 : Int))))) (muladd (IntKind.u64.wrap ((muladd_1 (List.getD S k 0) (List.getD T (0 : Nat) 0) (mTi S T k (0 : Nat)) (0 : Int)) * (15183074304973897243 : Int))) (0 : Int) (muladd_1 (List.getD S k 0) (List.getD T (2 : Nat) 0) (mTi S T k (2 : Nat)) (muladd (List.getD S k 0) (List.getD T (1 : Nat) 0) (mTi S T k (1 : Nat)) (muladd (List.getD S k 0) (List.getD T (0 : Nat) 0) (mTi S T k (0 : Nat)) (0 : Int)))) (muladd (IntKind.u64.wrap ((muladd_1 (List.getD S k 0) (List.getD T (0 : Nat) 0) (mTi S T k (0 : Nat)) (0 : Int)) * (15183074304973897243 : Int))) (1503914060200516822 : Int) (muladd_1 (List.getD S k 0) (List.getD T (1 : Nat) 0) (mTi S T k (1 : Nat)) (muladd (List.getD S k 0) (List.getD T (0 : Nat) 0) (mTi S T k (0 : Nat)) (0 : Int))) (muladd (IntKind.u64.wrap ((muladd_1 (List.getD S k 0) (List.getD T (0 : Nat) 0) (mTi S T k (0 : Nat)) (0 : Int)) * (15183074304973897243 : Int))) (6346243789798364141 : Int) (muladd_1 (List.getD S k 0) (List.getD T (0 : Nat) 0) (mTi S T k (0 : Nat)) (0 : Int)) (0 : Int))))) (0 : Int)) = (mTi S T (k + (1 : Nat)) (3 : Nat)) := (by first | exact wrap_succ (by omega) | rfl)
  have e2 : (muladd_1 (IntKind.u64.wrap ((muladd_1 (List.getD S k 0) (List.getD T (0 : Nat) 0) (mTi S T k (0 : Nat)) (0 : Int)) * (15183074304973897243 : Int))) (1152921504606846976 : Int) (muladd_1 (List.getD S k 0) (List.getD T (3 : Nat) 0) (mTi S T k (3 : Nat)) (muladd (List.getD S k 0) (List.getD T (2 : Nat) 0) (mTi S T k (2 : Nat)) (muladd (List.getD S k 0) (List.getD T (1 : Nat) 0) (mTi S T k (1 : Nat)) (muladd (List.getD S k 0) (List.getD T (0 : Nat) 0) (mTi S T k (0 : Nat)) (0 : Int))))) (muladd (IntKind.u64.wrap ((muladd_1 (List.getD S k 0) (List.getD T (0 : Nat) 0) (mTi S T k (0 : Nat)) (0 : Int)) * (15183074304973897243 : Int))) (0 : Int) (muladd_1 (List.getD S k 0) (List.getD T (2 : Nat) 0) (mTi S T k (2 : Nat)) (muladd (List.getD S k 0) (List.getD T (1 : Nat) 0) (mTi S T k (1 : Nat)) (muladd (List.getD S k 0) (List.getD T (0 : Nat) 0) (mTi S T k (0 : Nat)) (0 : Int)))) (muladd (IntKind.u64.wrap ((muladd_1 (List.getD S k 0) (List.getD T (0 : Nat) 0) (mTi S T k (0 : Nat)) (0 : Int)) * (15183074304973897243 : Int))) (1503914060200516822 : Int) (muladd_1 (List.getD S k 0) (List.getD T (1 : Nat) 0) (mTi S T k (1 : Nat)) (muladd (List.getD S k 0) (List.getD T (0 : Nat) 0) (mTi S T k (0 : Nat)) (0 : Int))) (muladd (IntKind.u64.wrap ((muladd_1 (List.getD S k 0) (List.getD T (0 : Nat) 0) (mTi S T k (0 : Nat)) (0 : Int)) * (15183074304973897243 : Int))) (6346243789798364141 : Int) (muladd_1 (List.getD S k 0) (List.getD T (0 : Nat) 0) (mTi S T k (0 : Nat)) (0 : Int)) (0 : Int))))) = (mTi S T (k + (1 : Nat)) (2 : Nat)) := (by first | exact wrap_succ (by omega) | rfl)
  have e3 : (muladd_1 (IntKind.u64.wrap ((muladd_1 (List.getD S k 0) (List.getD T (0 : Nat) 0) (mTi S T k (0 : Nat)) (0 : Int)) * (15183074304973897243 : Int))) (0 : Int) (muladd_1 (List.getD S k 0) (List.getD T (2 : Nat) 0) (mTi S T k (2 : Nat)) (muladd (List.getD S k 0) (List.getD T (1 : Nat) 0) (mTi S T k (1 : Nat)) (muladd (List.getD S k 0) (List.getD T (0 : Nat) 0) (mTi S T k (0 : Nat)) (0 : Int)))) (muladd (IntKind.u64.wrap ((muladd_1 (List.getD S k 0) (List.getD T (0 : Nat) 0) (mTi S T k (0 : Nat)) (0 : Int)) * (15183074304973897243 : Int))) (1503914060200516822 : Int) (muladd_1 (List.getD S k 0) (List.getD T (1 : Nat) 0) (mTi S T k (1 : Nat)) (muladd (List.getD S k 0) (List.getD T (0 : Nat) 0) (mTi S T k (0 : Nat)) (0 : Int))) (muladd (IntKind.u64.wrap ((muladd_1 (List.getD S k 0) (List.getD T (0 : Nat) 0) (mTi S T k (0 : Nat)) (0 : Int)) * (15183074304973897243 : Int))) (6346243789798364141 : Int) (muladd_1 (List.getD S k 0) (List.getD T (0 : Nat) 0) (mTi S T k (0 : Nat)) (0 : Int)) (0 : Int)))) = (mTi S T (k + (1 : Nat)) (1 : Nat)) := (by first | exact wrap_succ (by omega) | rfl)
  have e4 : (muladd_1 (IntKind.u64.wrap ((muladd_1 (List.getD S k 0) (List.getD T (0 : Nat) 0) (mTi S T k (0 : Nat)) (0 : Int)) * (15183074304973897243 : Int))) (1503914060200516822 : Int) (muladd_1 (List.getD S k 0) (List.getD T (1 : Nat) 0) (mTi S T k (1 : Nat)) (muladd (List.getD S k 0) (List.getD T (0 : Nat) 0) (mTi S T k (0 : Nat)) (0 : Int))) (muladd (IntKind.u64.wrap ((muladd_1 (List.getD S k 0) (List.getD T (0 : Nat) 0) (mTi S T k (0 : Nat)) (0 : Int)) * (15183074304973897243 : Int))) (6346243789798364141 : Int) (muladd_1 (List.getD S k 0) (List.getD T (0 : Nat) 0) (mTi S T k (0 : Nat)) (0 : Int)) (0 : Int))) = (mTi S T (k + (1 : Nat)) (0 : Nat)) := (by first | exact wrap_succ (by omega) | rfl)
  have e5 : (ad64c (mTi S T k (4 : Nat)) (muladd (List.getD S k 0) (List.getD T (3 : Nat) 0) (mTi S T k (3 : Nat)) (muladd (List.getD S k 0) (List.getD T (2 : Nat) 0) (mTi S T k (2 : Nat)) (muladd (List.getD S k 0) (List.getD T (1 : Nat) 0) (mTi S T k (1 : Nat)) (muladd (List.getD S k 0) (List.getD T (0 : Nat) 0) (mTi S T k (0 : Nat)) (0 : Int))))) (0 : Int)) = (mTi S T (k + (1 : Nat)) (5 : Nat)) := (by first | exact wrap_succ (by omega) | rfl)
  have e6 : (IntKind.i64.wrap (((k : Nat) : Int) + (1 : Int))) = (((k + (1 : Nat)) : Nat) : Int) := (by first | exact wrap_succ (by omega) | rfl)
  have h := Run.of_outT (B := ⟨w, [], 0, noEnv⟩) (Λ := noLam) (Ψ := noPsi) (fuel := 6) (ora := [true, true, true, true, true, false, true, true, true, false]) (c := (loopB Try.f127 0)) (st := (moL_mk S T k s)) (l := [.forget [0, 1, 2, 3, 4, 5, 6, 13, 14] 5]) (s' := ⟨sparse 101 [(0, .o (.g [.ints .u64 (4 : Nat) S])), (1, .o (.g [.ints .u64 (4 : Nat) T])), (2, .o (.a (.p 0 0))), (3, .o (.a (.p 1 0))), (4, .o (.a (.p 2 0))), (5, .o (.a (.p 3 0))), (6, .o (.a (.p 4 0))), (13, .o (.g [.ints .u64 (4 : Nat) ([6346243789798364141, 1503914060200516822, 0, 1152921504606846976] : List Int)])), (14, .o (.a (.i .i64 (IntKind.i64.wrap (((k : Nat) : Int) + (1 : Int))))))], [some ⟨true, [.ints .u64 (4 : Nat) S]⟩, some ⟨true, [.ints .u64 (4 : Nat) T]⟩, some ⟨true, [.ints .u64 (4 : Nat) ([0, 0, 0, 0] : List Int)]⟩, some ⟨true, [.ints .u64 (4 : Nat) ([6346243789798364141, 1503914060200516822, 0, 1152921504606846976] : List Int)]⟩, some ⟨true, [.ints .u64 (6 : Nat) ([(muladd_1 (IntKind.u64.wrap ((muladd_1 (List.getD S k 0) (List.getD T (0 : Nat) 0) (mTi S T k (0 : Nat)) (0 : Int)) * (15183074304973897243 : Int))) (1503914060200516822 : Int) (muladd_1 (List.getD S k 0) (List.getD T (1 : Nat) 0) (mTi S T k (1 : Nat)) (muladd (List.getD S k 0) (List.getD T (0 : Nat) 0) (mTi S T k (0 : Nat)) (0 : Int))) (muladd (IntKind.u64.wrap ((muladd_1 (List.getD S k 0) (List.getD T (0 : Nat) 0) (mTi S T k (0 : Nat)) (0 : Int)) * (15183074304973897243 : Int))) (6346243789798364141 : Int) (muladd_1 (List.getD S k 0) (List.getD T (0 : Nat) 0) (mTi S T k (0 : Nat)) (0 : Int)) (0 : Int))), (muladd_1 (IntKind.u64.wrap ((muladd_1 (List.getD S k 0) (List.getD T (0 : Nat) 0) (mTi S T k (0 : Nat)) (0 : Int)) * (15183074304973897243 : Int))) (0 : Int) (muladd_1 (List.getD S k 0) (List.getD T (2 : Nat) 0) (mTi S T k (2 : Nat)) (muladd (List.getD S k 0) (List.getD T (1 : Nat) 0) (mTi S T k (1 : Nat)) (muladd (List.getD S k 0) (List.getD T (0 : Nat) 0) (mTi S T k (0 : Nat)) (0 : Int)))) (muladd (IntKind.u64.wrap ((muladd_1 (List.getD S k 0) (List.getD T (0 : Nat) 0) (mTi S T k (0 : Nat)) (0 : Int)) * (15183074304973897243 : Int))) (1503914060200516822 : Int) (muladd_1 (List.getD S k 0) (List.getD T (1 : Nat) 0) (mTi S T k (1 : Nat)) (muladd (List.getD S k 0) (List.getD T (0 : Nat) 0) (mTi S T k (0 : Nat)) (0 : Int))) (muladd (IntKind.u64.wrap ((muladd_1 (List.getD S k 0) (List.getD T (0 : Nat) 0) (mTi S T k (0 : Nat)) (0 : Int)) * (15183074304973897243 : Int))) (6346243789798364141 : Int) (muladd_1 (List.getD S k 0) (List.getD T (0 : Nat) 0) (mTi S T k (0 : Nat)) (0 : Int)) (0 : Int)))), (muladd_1 (IntKind.u64.wrap ((muladd_1 (List.getD S k 0) (List.getD T (0 : Nat) 0) (mTi S T k (0 : Nat)) (0 : Int)) * (15183074304973897243 : Int))) (1152921504606846976 : Int) (muladd_1 (List.getD S k 0) (List.getD T (3 : Nat) 0) (mTi S T k (3 : Nat)) (muladd (List.getD S k 0) (List.getD T (2 : Nat) 0) (mTi S T k (2 : Nat)) (muladd (List.getD S k 0) (List.getD T (1 : Nat) 0) (mTi S T k (1 : Nat)) (muladd (List.getD S k 0) (List.getD T (0 : Nat) 0) (mTi S T k (0 : Nat)) (0 : Int))))) (muladd (IntKind.u64.wrap ((muladd_1 (List.getD S k 0) (List.getD T (0 : Nat) 0) (mTi S T k (0 : Nat)) (0 : Int)) * (15183074304973897243 : Int))) (0 : Int) (muladd_1 (List.getD S k 0) (List.getD T (2 : Nat) 0) (mTi S T k (2 : Nat)) (muladd (List.getD S k 0) (List.getD T (1 : Nat) 0) (mTi S T k (1 : Nat)) (muladd (List.getD S k 0) (List.getD T (0 : Nat) 0) (mTi S T k (0 : Nat)) (0 : Int)))) (muladd (IntKind.u64.wrap ((muladd_1 (List.getD S k 0) (List.getD T (0 : Nat) 0) (mTi S T k (0 : Nat)) (0 : Int)) * (15183074304973897243 : Int))) (1503914060200516822 : Int) (muladd_1 (List.getD S k 0) (List.getD T (1 : Nat) 0) (mTi S T k (1 : Nat)) (muladd (List.getD S k 0) (List.getD T (0 : Nat) 0) (mTi S T k (0 : Nat)) (0 : Int))) (muladd (IntKind.u64.wrap ((muladd_1 (List.getD S k 0) (List.getD T (0 : Nat) 0) (mTi S T k (0 : Nat)) (0 : Int)) * (15183074304973897243 : Int))) (6346243789798364141 : Int) (muladd_1 (List.getD S k 0) (List.getD T (0 : Nat) 0) (mTi S T k (0 : Nat)) (0 : Int)) (0 : Int))))), (ad64s (ad64s (mTi S T k (4 : Nat)) (muladd (List.getD S k 0) (List.getD T (3 : Nat) 0) (mTi S T k (3 : Nat)) (muladd (List.getD S k 0) (List.getD T (2 : Nat) 0) (mTi S T k (2 : Nat)) (muladd (List.getD S k 0) (List.getD T (1 : Nat) 0) (mTi S T k (1 : Nat)) (muladd (List.getD S k 0) (List.getD T (0 : Nat) 0) (mTi S T k (0 : Nat)) (0 : Int))))) (0 : Int)) (muladd (IntKind.u64.wrap ((muladd_1 (List.getD S k 0) (List.getD T (0 : Nat) 0) (mTi S T k (0 : Nat)) (0 : Int)) * (15183074304973897243 : Int))) (1152921504606846976 : Int) (muladd_1 (List.getD S k 0) (List.getD T (3 : Nat) 0) (mTi S T k (3 : Nat)) (muladd (List.getD S k 0) (List.getD T (2 : Nat) 0) (mTi S T k (2 : Nat)) (muladd (List.getD S k 0) (List.getD T (1 : Nat) 0) (mTi S T k (1 : Nat)) (muladd (List.getD S k 0) (List.getD T (0 : Nat) 0) (mTi S T k (0 : Nat)) (0 : Int))))) (muladd (IntKind.u64.wrap ((muladd_1 (List.getD S k 0) (List.getD T (0 : Nat) 0) (mTi S T k (0 : Nat)) (0 : Int)) * (15183074304973897243 : Int))) (0 : Int) (muladd_1 (List.getD S k 0) (List.getD T (2 : Nat) 0) (mTi S T k (2 : Nat)) (muladd (List.getD S k 0) (List.getD T (1 : Nat) 0) (mTi S T k (1 : Nat)) (muladd (List.getD S k 0) (List.getD T (0 : Nat) 0) (mTi S T k (0 : Nat)) (0 : Int)))) (muladd (IntKind.u64.wrap ((muladd_1 (List.getD S k 0) (List.getD T (0 : Nat) 0) (mTi S T k (0 : Nat)) (0 : Int)) * (15183074304973897243 : Int))) (1503914060200516822 : Int) (muladd_1 (List.getD S k 0) (List.getD T (1 : Nat) 0) (mTi S T k (1 : Nat)) (muladd (List.getD S k 0) (List.getD T (0 : Nat) 0) (mTi S T k (0 : Nat)) (0 : Int))) (muladd (IntKind.u64.wrap ((muladd_1 (List.getD S k 0) (List.getD T (0 : Nat) 0) (mTi S T k (0 : Nat)) (0 : Int)) * (15183074304973897243 : Int))) (6346243789798364141 : Int) (muladd_1 (List.getD S k 0) (List.getD T (0 : Nat) 0) (mTi S T k (0 : Nat)) (0 : Int)) (0 : Int))))) (0 : Int)), (IntKind.u64.wrap ((ad64c (mTi S T k (4 : Nat)) (muladd (List.getD S k 0) (List.getD T (3 : Nat) 0) (mTi S T k (3 : Nat)) (muladd (List.getD S k 0) (List.getD T (2 : Nat) 0) (mTi S T k (2 : Nat)) (muladd (List.getD S k 0) (List.getD T (1 : Nat) 0) (mTi S T k (1 : Nat)) (muladd (List.getD S k 0) (List.getD T (0 : Nat) 0) (mTi S T k (0 : Nat)) (0 : Int))))) (0 : Int)) + (ad64c (ad64s (mTi S T k (4 : Nat)) (muladd (List.getD S k 0) (List.getD T (3 : Nat) 0) (mTi S T k (3 : Nat)) (muladd (List.getD S k 0) (List.getD T (2 : Nat) 0) (mTi S T k (2 : Nat)) (muladd (List.getD S k 0) (List.getD T (1 : Nat) 0) (mTi S T k (1 : Nat)) (muladd (List.getD S k 0) (List.getD T (0 : Nat) 0) (mTi S T k (0 : Nat)) (0 : Int))))) (0 : Int)) (muladd (IntKind.u64.wrap ((muladd_1 (List.getD S k 0) (List.getD T (0 : Nat) 0) (mTi S T k (0 : Nat)) (0 : Int)) * (15183074304973897243 : Int))) (1152921504606846976 : Int) (muladd_1 (List.getD S k 0) (List.getD T (3 : Nat) 0) (mTi S T k (3 : Nat)) (muladd (List.getD S k 0) (List.getD T (2 : Nat) 0) (mTi S T k (2 : Nat)) (muladd (List.getD S k 0) (List.getD T (1 : Nat) 0) (mTi S T k (1 : Nat)) (muladd (List.getD S k 0) (List.getD T (0 : Nat) 0) (mTi S T k (0 : Nat)) (0 : Int))))) (muladd (IntKind.u64.wrap ((muladd_1 (List.getD S k 0) (List.getD T (0 : Nat) 0) (mTi S T k (0 : Nat)) (0 : Int)) * (15183074304973897243 : Int))) (0 : Int) (muladd_1 (List.getD S k 0) (List.getD T (2 : Nat) 0) (mTi S T k (2 : Nat)) (muladd (List.getD S k 0) (List.getD T (1 : Nat) 0) (mTi S T k (1 : Nat)) (muladd (List.getD S k 0) (List.getD T (0 : Nat) 0) (mTi S T k (0 : Nat)) (0 : Int)))) (muladd (IntKind.u64.wrap ((muladd_1 (List.getD S k 0) (List.getD T (0 : Nat) 0) (mTi S T k (0 : Nat)) (0 : Int)) * (15183074304973897243 : Int))) (1503914060200516822 : Int) (muladd_1 (List.getD S k 0) (List.getD T (1 : Nat) 0) (mTi S T k (1 : Nat)) (muladd (List.getD S k 0) (List.getD T (0 : Nat) 0) (mTi S T k (0 : Nat)) (0 : Int))) (muladd (IntKind.u64.wrap ((muladd_1 (List.getD S k 0) (List.getD T (0 : Nat) 0) (mTi S T k (0 : Nat)) (0 : Int)) * (15183074304973897243 : Int))) (6346243789798364141 : Int) (muladd_1 (List.getD S k 0) (List.getD T (0 : Nat) 0) (mTi S T k (0 : Nat)) (0 : Int)) (0 : Int))))) (0 : Int)))), (ad64c (mTi S T k (4 : Nat)) (muladd (List.getD S k 0) (List.getD T (3 : Nat) 0) (mTi S T k (3 : Nat)) (muladd (List.getD S k 0) (List.getD T (2 : Nat) 0) (mTi S T k (2 : Nat)) (muladd (List.getD S k 0) (List.getD T (1 : Nat) 0) (mTi S T k (1 : Nat)) (muladd (List.getD S k 0) (List.getD T (0 : Nat) 0) (mTi S T k (0 : Nat)) (0 : Int))))) (0 : Int))] : List Int)]⟩]⟩) (ex := .normal) mix tabOkNO gv10_ok
    (vc := [(((0 : Int) ≤ (ad64s (mTi S T k (4 : Nat)) (muladd (List.getD S k 0) (List.getD T (3 : Nat) 0) (mTi S T k (3 : Nat)) (muladd (List.getD S k 0) (List.getD T (2 : Nat) 0) (mTi S T k (2 : Nat)) (muladd (List.getD S k 0) (List.getD T (1 : Nat) 0) (mTi S T k (1 : Nat)) (muladd (List.getD S k 0) (List.getD T (0 : Nat) 0) (mTi S T k (0 : Nat)) (0 : Int))))) (0 : Int))) ∧ ((0 : Int) ≤ (muladd (IntKind.u64.wrap ((muladd_1 (List.getD S k 0) (List.getD T (0 : Nat) 0) (mTi S T k (0 : Nat)) (0 : Int)) * (15183074304973897243 : Int))) (1152921504606846976 : Int) (muladd_1 (List.getD S k 0) (List.getD T (3 : Nat) 0) (mTi S T k (3 : Nat)) (muladd (List.getD S k 0) (List.getD T (2 : Nat) 0) (mTi S T k (2 : Nat)) (muladd (List.getD S k 0) (List.getD T (1 : Nat) 0) (mTi S T k (1 : Nat)) (muladd (List.getD S k 0) (List.getD T (0 : Nat) 0) (mTi S T k (0 : Nat)) (0 : Int))))) (muladd (IntKind.u64.wrap ((muladd_1 (List.getD S k 0) (List.getD T (0 : Nat) 0) (mTi S T k (0 : Nat)) (0 : Int)) * (15183074304973897243 : Int))) (0 : Int) (muladd_1 (List.getD S k 0) (List.getD T (2 : Nat) 0) (mTi S T k (2 : Nat)) (muladd (List.getD S k 0) (List.getD T (1 : Nat) 0) (mTi S T k (1 : Nat)) (muladd (List.getD S k 0) (List.getD T (0 : Nat) 0) (mTi S T k (0 : Nat)) (0 : Int)))) (muladd (IntKind.u64.wrap ((muladd_1 (List.getD S k 0) (List.getD T (0 : Nat) 0) (mTi S T k (0 : Nat)) (0 : Int)) * (15183074304973897243 : Int))) (1503914060200516822 : Int) (muladd_1 (List.getD S k 0) (List.getD T (1 : Nat) 0) (mTi S T k (1 : Nat)) (muladd (List.getD S k 0) (List.getD T (0 : Nat) 0) (mTi S T k (0 : Nat)) (0 : Int))) (muladd (IntKind.u64.wrap ((muladd_1 (List.getD S k 0) (List.getD T (0 : Nat) 0) (mTi S T k (0 : Nat)) (0 : Int)) * (15183074304973897243 : Int))) (6346243789798364141 : Int) (muladd_1 (List.getD S k 0) (List.getD T (0 : Nat) 0) (mTi S T k (0 : Nat)) (0 : Int)) (0 : Int)))))) ∧ ((0 : Int) ≤ (0 : Int)) ∧ ((0 : Int) ≤ (1 : Int))), (false = false), ((2 : Nat) < (6 : Nat)), (((0 : Int) ≤ (2 : Int)) ∧ ((2 : Int) < (6 : Int))), (((0 : Int) ≤ (muladd_1 (List.getD S k 0) (List.getD T (3 : Nat) 0) (mTi S T k (3 : Nat)) (muladd (List.getD S k 0) (List.getD T (2 : Nat) 0) (mTi S T k (2 : Nat)) (muladd (List.getD S k 0) (List.getD T (1 : Nat) 0) (mTi S T k (1 : Nat)) (muladd (List.getD S k 0) (List.getD T (0 : Nat) 0) (mTi S T k (0 : Nat)) (0 : Int)))))) ∧ ((0 : Int) ≤ (muladd (IntKind.u64.wrap ((muladd_1 (List.getD S k 0) (List.getD T (0 : Nat) 0) (mTi S T k (0 : Nat)) (0 : Int)) * (15183074304973897243 : Int))) (0 : Int) (muladd_1 (List.getD S k 0) (List.getD T (2 : Nat) 0) (mTi S T k (2 : Nat)) (muladd (List.getD S k 0) (List.getD T (1 : Nat) 0) (mTi S T k (1 : Nat)) (muladd (List.getD S k 0) (List.getD T (0 : Nat) 0) (mTi S T k (0 : Nat)) (0 : Int)))) (muladd (IntKind.u64.wrap ((muladd_1 (List.getD S k 0) (List.getD T (0 : Nat) 0) (mTi S T k (0 : Nat)) (0 : Int)) * (15183074304973897243 : Int))) (1503914060200516822 : Int) (muladd_1 (List.getD S k 0) (List.getD T (1 : Nat) 0) (mTi S T k (1 : Nat)) (muladd (List.getD S k 0) (List.getD T (0 : Nat) 0) (mTi S T k (0 : Nat)) (0 : Int))) (muladd (IntKind.u64.wrap ((muladd_1 (List.getD S k 0) (List.getD T (0 : Nat) 0) (mTi S T k (0 : Nat)) (0 : Int)) * (15183074304973897243 : Int))) (6346243789798364141 : Int) (muladd_1 (List.getD S k 0) (List.getD T (0 : Nat) 0) (mTi S T k (0 : Nat)) (0 : Int)) (0 : Int)))))), ((3 : Nat) < (6 : Nat)), (((0 : Int) ≤ (3 : Int)) ∧ ((3 : Int) < (6 : Int))), ((3 : Nat) < (4 : Nat)), (((0 : Int) ≤ (3 : Int)) ∧ ((3 : Int) < (4 : Int))), (true = true), ((1 : Nat) < (6 : Nat)), (((0 : Int) ≤ (1 : Int)) ∧ ((1 : Int) < (6 : Int))), (((0 : Int) ≤ (muladd_1 (List.getD S k 0) (List.getD T (2 : Nat) 0) (mTi S T k (2 : Nat)) (muladd (List.getD S k 0) (List.getD T (1 : Nat) 0) (mTi S T k (1 : Nat)) (muladd (List.getD S k 0) (List.getD T (0 : Nat) 0) (mTi S T k (0 : Nat)) (0 : Int))))) ∧ ((0 : Int) ≤ (muladd (IntKind.u64.wrap ((muladd_1 (List.getD S k 0) (List.getD T (0 : Nat) 0) (mTi S T k (0 : Nat)) (0 : Int)) * (15183074304973897243 : Int))) (1503914060200516822 : Int) (muladd_1 (List.getD S k 0) (List.getD T (1 : Nat) 0) (mTi S T k (1 : Nat)) (muladd (List.getD S k 0) (List.getD T (0 : Nat) 0) (mTi S T k (0 : Nat)) (0 : Int))) (muladd (IntKind.u64.wrap ((muladd_1 (List.getD S k 0) (List.getD T (0 : Nat) 0) (mTi S T k (0 : Nat)) (0 : Int)) * (15183074304973897243 : Int))) (6346243789798364141 : Int) (muladd_1 (List.getD S k 0) (List.getD T (0 : Nat) 0) (mTi S T k (0 : Nat)) (0 : Int)) (0 : Int))))), ((2 : Nat) < (6 : Nat)), (((0 : Int) ≤ (2 : Int)) ∧ ((2 : Int) < (6 : Int))), ((2 : Nat) < (4 : Nat)), (((0 : Int) ≤ (2 : Int)) ∧ ((2 : Int) < (4 : Int))), (true = true), ((0 : Nat) < (6 : Nat)), (((0 : Int) ≤ (0 : Int)) ∧ ((0 : Int) < (6 : Int))), (((0 : Int) ≤ (muladd_1 (List.getD S k 0) (List.getD T (1 : Nat) 0) (mTi S T k (1 : Nat)) (muladd (List.getD S k 0) (List.getD T (0 : Nat) 0) (mTi S T k (0 : Nat)) (0 : Int)))) ∧ ((0 : Int) ≤ (muladd (IntKind.u64.wrap ((muladd_1 (List.getD S k 0) (List.getD T (0 : Nat) 0) (mTi S T k (0 : Nat)) (0 : Int)) * (15183074304973897243 : Int))) (6346243789798364141 : Int) (muladd_1 (List.getD S k 0) (List.getD T (0 : Nat) 0) (mTi S T k (0 : Nat)) (0 : Int)) (0 : Int)))), ((1 : Nat) < (6 : Nat)), (((0 : Int) ≤ (1 : Int)) ∧ ((1 : Int) < (6 : Int))), ((1 : Nat) < (4 : Nat)), (((0 : Int) ≤ (1 : Int)) ∧ ((1 : Int) < (4 : Int))), (true = true), (((0 : Int) ≤ (muladd_1 (List.getD S k 0) (List.getD T (0 : Nat) 0) (mTi S T k (0 : Nat)) (0 : Int))) ∧ ((0 : Int) ≤ (0 : Int))), (((0 : Int) ≤ (mTi S T k (4 : Nat))) ∧ ((0 : Int) ≤ (muladd (List.getD S k 0) (List.getD T (3 : Nat) 0) (mTi S T k (3 : Nat)) (muladd (List.getD S k 0) (List.getD T (2 : Nat) 0) (mTi S T k (2 : Nat)) (muladd (List.getD S k 0) (List.getD T (1 : Nat) 0) (mTi S T k (1 : Nat)) (muladd (List.getD S k 0) (List.getD T (0 : Nat) 0) (mTi S T k (0 : Nat)) (0 : Int)))))) ∧ ((0 : Int) ≤ (0 : Int)) ∧ ((0 : Int) ≤ (1 : Int))), (false = false), ((3 : Nat) < (6 : Nat)), (((0 : Int) ≤ (3 : Int)) ∧ ((3 : Int) < (6 : Int))), (((0 : Int) ≤ (mTi S T k (3 : Nat))) ∧ ((0 : Int) ≤ (muladd (List.getD S k 0) (List.getD T (2 : Nat) 0) (mTi S T k (2 : Nat)) (muladd (List.getD S k 0) (List.getD T (1 : Nat) 0) (mTi S T k (1 : Nat)) (muladd (List.getD S k 0) (List.getD T (0 : Nat) 0) (mTi S T k (0 : Nat)) (0 : Int)))))), ((3 : Nat) < (6 : Nat)), (((0 : Int) ≤ (3 : Int)) ∧ ((3 : Int) < (6 : Int))), ((3 : Nat) < (4 : Nat)), (((0 : Int) ≤ (3 : Int)) ∧ ((3 : Int) < (4 : Int))), (k < (4 : Nat)), (((0 : Int) ≤ ((k : Nat) : Int)) ∧ (((k : Nat) : Int) < (4 : Int))), (true = true), ((2 : Nat) < (6 : Nat)), (((0 : Int) ≤ (2 : Int)) ∧ ((2 : Int) < (6 : Int))), (((0 : Int) ≤ (mTi S T k (2 : Nat))) ∧ ((0 : Int) ≤ (muladd (List.getD S k 0) (List.getD T (1 : Nat) 0) (mTi S T k (1 : Nat)) (muladd (List.getD S k 0) (List.getD T (0 : Nat) 0) (mTi S T k (0 : Nat)) (0 : Int))))), ((2 : Nat) < (6 : Nat)), (((0 : Int) ≤ (2 : Int)) ∧ ((2 : Int) < (6 : Int))), ((2 : Nat) < (4 : Nat)), (((0 : Int) ≤ (2 : Int)) ∧ ((2 : Int) < (4 : Int))), (k < (4 : Nat)), (((0 : Int) ≤ ((k : Nat) : Int)) ∧ (((k : Nat) : Int) < (4 : Int))), (true = true), ((1 : Nat) < (6 : Nat)), (((0 : Int) ≤ (1 : Int)) ∧ ((1 : Int) < (6 : Int))), (((0 : Int) ≤ (mTi S T k (1 : Nat))) ∧ ((0 : Int) ≤ (muladd (List.getD S k 0) (List.getD T (0 : Nat) 0) (mTi S T k (0 : Nat)) (0 : Int)))), ((1 : Nat) < (6 : Nat)), (((0 : Int) ≤ (1 : Int)) ∧ ((1 : Int) < (6 : Int))), ((1 : Nat) < (4 : Nat)), (((0 : Int) ≤ (1 : Int)) ∧ ((1 : Int) < (4 : Int))), (k < (4 : Nat)), (((0 : Int) ≤ ((k : Nat) : Int)) ∧ (((k : Nat) : Int) < (4 : Int))), (true = true), ((0 : Nat) < (6 : Nat)), (((0 : Int) ≤ (0 : Int)) ∧ ((0 : Int) < (6 : Int))), (((0 : Int) ≤ (mTi S T k (0 : Nat))) ∧ ((0 : Int) ≤ (0 : Int))), ((0 : Nat) < (6 : Nat)), (((0 : Int) ≤ (0 : Int)) ∧ ((0 : Int) < (6 : Int))), ((0 : Nat) < (4 : Nat)), (((0 : Int) ≤ (0 : Int)) ∧ ((0 : Int) < (4 : Int))), (k < (4 : Nat)), (((0 : Int) ≤ ((k : Nat) : Int)) ∧ (((k : Nat) : Int) < (4 : Int))), (true = true), ((decide (((k : Nat) : Int) < (4 : Int))) = true)]) (by kernel_rfl)
    (aC ⟨(by have q0 := mTi_nn S T k 0; have q1 := mTi_nn S T k 1; have q2 := mTi_nn S T k 2; have q3 := mTi_nn S T k 3; have q4 := mTi_nn S T k 4; first | omega | exact wrap_nn rfl | exact (ad64_rng _ _ _).1 | exact muladd_nn _ _ _ _ | exact muladd1_nn _ _ _ _), (by have q0 := mTi_nn S T k 0; have q1 := mTi_nn S T k 1; have q2 := mTi_nn S T k 2; have q3 := mTi_nn S T k 3; have q4 := mTi_nn S T k 4; first | omega | exact wrap_nn rfl | exact (ad64_rng _ _ _).1 | exact muladd_nn _ _ _ _ | exact muladd1_nn _ _ _ _), (by decide), (by decide)⟩ (aC rfl (aC (by decide) (aC ⟨(by decide), (by decide)⟩ (aC ⟨(by have q0 := mTi_nn S T k 0; have q1 := mTi_nn S T k 1; have q2 := mTi_nn S T k 2; have q3 := mTi_nn S T k 3; have q4 := mTi_nn S T k 4; first | omega | exact wrap_nn rfl | exact (ad64_rng _ _ _).1 | exact muladd_nn _ _ _ _ | exact muladd1_nn _ _ _ _), (by have q0 := mTi_nn S T k 0; have q1 := mTi_nn S T k 1; have q2 := mTi_nn S T k 2; have q3 := mTi_nn S T k 3; have q4 := mTi_nn S T k 4; first | omega | exact wrap_nn rfl | exact (ad64_rng _ _ _).1 | exact muladd_nn _ _ _ _ | exact muladd1_nn _ _ _ _)⟩ (aC (by decide) (aC ⟨(by decide), (by decide)⟩ (aC (by decide) (aC ⟨(by decide), (by decide)⟩ (aC rfl (aC (by decide) (aC ⟨(by decide), (by decide)⟩ (aC ⟨(by have q0 := mTi_nn S T k 0; have q1 := mTi_nn S T k 1; have q2 := mTi_nn S T k 2; have q3 := mTi_nn S T k 3; have q4 := mTi_nn S T k 4; first | omega | exact wrap_nn rfl | exact (ad64_rng _ _ _).1 | exact muladd_nn _ _ _ _ | exact muladd1_nn _ _ _ _), (by have q0 := mTi_nn S T k 0; have q1 := mTi_nn S T k 1; have q2 := mTi_nn S T k 2; have q3 := mTi_nn S T k 3; have q4 := mTi_nn S T k 4; first | omega | exact wrap_nn rfl | exact (ad64_rng _ _ _).1 | exact muladd_nn _ _ _ _ | exact muladd1_nn _ _ _ _)⟩ (aC (by decide) (aC ⟨(by decide), (by decide)⟩ (aC (by decide) (aC ⟨(by decide), (by decide)⟩ (aC rfl (aC (by decide) (aC ⟨(by decide), (by decide)⟩ (aC ⟨(by have q0 := mTi_nn S T k 0; have q1 := mTi_nn S T k 1; have q2 := mTi_nn S T k 2; have q3 := mTi_nn S T k 3; have q4 := mTi_nn S T k 4; first | omega | exact wrap_nn rfl | exact (ad64_rng _ _ _).1 | exact muladd_nn _ _ _ _ | exact muladd1_nn _ _ _ _), (by have q0 := mTi_nn S T k 0; have q1 := mTi_nn S T k 1; have q2 := mTi_nn S T k 2; have q3 := mTi_nn S T k 3; have q4 := mTi_nn S T k 4; first | omega | exact wrap_nn rfl | exact (ad64_rng _ _ _).1 | exact muladd_nn _ _ _ _ | exact muladd1_nn _ _ _ _)⟩ (aC (by decide) (aC ⟨(by decide), (by decide)⟩ (aC (by decide) (aC ⟨(by decide), (by decide)⟩ (aC rfl (aC ⟨(by have q0 := mTi_nn S T k 0; have q1 := mTi_nn S T k 1; have q2 := mTi_nn S T k 2; have q3 := mTi_nn S T k 3; have q4 := mTi_nn S T k 4; first | omega | exact wrap_nn rfl | exact (ad64_rng _ _ _).1 | exact muladd_nn _ _ _ _ | exact muladd1_nn _ _ _ _), (by decide)⟩ (aC ⟨(by have q0 := mTi_nn S T k 0; have q1 := mTi_nn S T k 1; have q2 := mTi_nn S T k 2; have q3 := mTi_nn S T k 3; have q4 := mTi_nn S T k 4; first | omega | exact wrap_nn rfl | exact (ad64_rng _ _ _).1 | exact muladd_nn _ _ _ _ | exact muladd1_nn _ _ _ _), (by have q0 := mTi_nn S T k 0; have q1 := mTi_nn S T k 1; have q2 := mTi_nn S T k 2; have q3 := mTi_nn S T k 3; have q4 := mTi_nn S T k 4; first | omega | exact wrap_nn rfl | exact (ad64_rng _ _ _).1 | exact muladd_nn _ _ _ _ | exact muladd1_nn _ _ _ _), (by decide), (by decide)⟩ (aC rfl (aC (by decide) (aC ⟨(by decide), (by decide)⟩ (aC ⟨(by have q0 := mTi_nn S T k 0; have q1 := mTi_nn S T k 1; have q2 := mTi_nn S T k 2; have q3 := mTi_nn S T k 3; have q4 := mTi_nn S T k 4; first | omega | exact wrap_nn rfl | exact (ad64_rng _ _ _).1 | exact muladd_nn _ _ _ _ | exact muladd1_nn _ _ _ _), (by have q0 := mTi_nn S T k 0; have q1 := mTi_nn S T k 1; have q2 := mTi_nn S T k 2; have q3 := mTi_nn S T k 3; have q4 := mTi_nn S T k 4; first | omega | exact wrap_nn rfl | exact (ad64_rng _ _ _).1 | exact muladd_nn _ _ _ _ | exact muladd1_nn _ _ _ _)⟩ (aC (by decide) (aC ⟨(by decide), (by decide)⟩ (aC (by decide) (aC ⟨(by decide), (by decide)⟩ (aC (by have q0 := mTi_nn S T k 0; have q1 := mTi_nn S T k 1; have q2 := mTi_nn S T k 2; have q3 := mTi_nn S T k 3; have q4 := mTi_nn S T k 4; first | omega | exact wrap_nn rfl | exact (ad64_rng _ _ _).1 | exact muladd_nn _ _ _ _ | exact muladd1_nn _ _ _ _) (aC ⟨(by have q0 := mTi_nn S T k 0; have q1 := mTi_nn S T k 1; have q2 := mTi_nn S T k 2; have q3 := mTi_nn S T k 3; have q4 := mTi_nn S T k 4; first | omega | exact wrap_nn rfl | exact (ad64_rng _ _ _).1 | exact muladd_nn _ _ _ _ | exact muladd1_nn _ _ _ _), (by have q0 := mTi_nn S T k 0; have q1 := mTi_nn S T k 1; have q2 := mTi_nn S T k 2; have q3 := mTi_nn S T k 3; have q4 := mTi_nn S T k 4; first | omega | exact wrap_nn rfl | exact (ad64_rng _ _ _).1 | exact muladd_nn _ _ _ _ | exact muladd1_nn _ _ _ _)⟩ (aC rfl (aC (by decide) (aC ⟨(by decide), (by decide)⟩ (aC ⟨(by have q0 := mTi_nn S T k 0; have q1 := mTi_nn S T k 1; have q2 := mTi_nn S T k 2; have q3 := mTi_nn S T k 3; have q4 := mTi_nn S T k 4; first | omega | exact wrap_nn rfl | exact (ad64_rng _ _ _).1 | exact muladd_nn _ _ _ _ | exact muladd1_nn _ _ _ _), (by have q0 := mTi_nn S T k 0; have q1 := mTi_nn S T k 1; have q2 := mTi_nn S T k 2; have q3 := mTi_nn S T k 3; have q4 := mTi_nn S T k 4; first | omega | exact wrap_nn rfl | exact (ad64_rng _ _ _).1 | exact muladd_nn _ _ _ _ | exact muladd1_nn _ _ _ _)⟩ (aC (by decide) (aC ⟨(by decide), (by decide)⟩ (aC (by decide) (aC ⟨(by decide), (by decide)⟩ (aC (by have q0 := mTi_nn S T k 0; have q1 := mTi_nn S T k 1; have q2 := mTi_nn S T k 2; have q3 := mTi_nn S T k 3; have q4 := mTi_nn S T k 4; first | omega | exact wrap_nn rfl | exact (ad64_rng _ _ _).1 | exact muladd_nn _ _ _ _ | exact muladd1_nn _ _ _ _) (aC ⟨(by have q0 := mTi_nn S T k 0; have q1 := mTi_nn S T k 1; have q2 := mTi_nn S T k 2; have q3 := mTi_nn S T k 3; have q4 := mTi_nn S T k 4; first | omega | exact wrap_nn rfl | exact (ad64_rng _ _ _).1 | exact muladd_nn _ _ _ _ | exact muladd1_nn _ _ _ _), (by have q0 := mTi_nn S T k 0; have q1 := mTi_nn S T k 1; have q2 := mTi_nn S T k 2; have q3 := mTi_nn S T k 3; have q4 := mTi_nn S T k 4; first | omega | exact wrap_nn rfl | exact (ad64_rng _ _ _).1 | exact muladd_nn _ _ _ _ | exact muladd1_nn _ _ _ _)⟩ (aC rfl (aC (by decide) (aC ⟨(by decide), (by decide)⟩ (aC ⟨(by have q0 := mTi_nn S T k 0; have q1 := mTi_nn S T k 1; have q2 := mTi_nn S T k 2; have q3 := mTi_nn S T k 3; have q4 := mTi_nn S T k 4; first | omega | exact wrap_nn rfl | exact (ad64_rng _ _ _).1 | exact muladd_nn _ _ _ _ | exact muladd1_nn _ _ _ _), (by have q0 := mTi_nn S T k 0; have q1 := mTi_nn S T k 1; have q2 := mTi_nn S T k 2; have q3 := mTi_nn S T k 3; have q4 := mTi_nn S T k 4; first | omega | exact wrap_nn rfl | exact (ad64_rng _ _ _).1 | exact muladd_nn _ _ _ _ | exact muladd1_nn _ _ _ _)⟩ (aC (by decide) (aC ⟨(by decide), (by decide)⟩ (aC (by decide) (aC ⟨(by decide), (by decide)⟩ (aC (by have q0 := mTi_nn S T k 0; have q1 := mTi_nn S T k 1; have q2 := mTi_nn S T k 2; have q3 := mTi_nn S T k 3; have q4 := mTi_nn S T k 4; first | omega | exact wrap_nn rfl | exact (ad64_rng _ _ _).1 | exact muladd_nn _ _ _ _ | exact muladd1_nn _ _ _ _) (aC ⟨(by have q0 := mTi_nn S T k 0; have q1 := mTi_nn S T k 1; have q2 := mTi_nn S T k 2; have q3 := mTi_nn S T k 3; have q4 := mTi_nn S T k 4; first | omega | exact wrap_nn rfl | exact (ad64_rng _ _ _).1 | exact muladd_nn _ _ _ _ | exact muladd1_nn _ _ _ _), (by have q0 := mTi_nn S T k 0; have q1 := mTi_nn S T k 1; have q2 := mTi_nn S T k 2; have q3 := mTi_nn S T k 3; have q4 := mTi_nn S T k 4; first | omega | exact wrap_nn rfl | exact (ad64_rng _ _ _).1 | exact muladd_nn _ _ _ _ | exact muladd1_nn _ _ _ _)⟩ (aC rfl (aC (by decide) (aC ⟨(by decide), (by decide)⟩ (aC ⟨(by have q0 := mTi_nn S T k 0; have q1 := mTi_nn S T k 1; have q2 := mTi_nn S T k 2; have q3 := mTi_nn S T k 3; have q4 := mTi_nn S T k 4; first | omega | exact wrap_nn rfl | exact (ad64_rng _ _ _).1 | exact muladd_nn _ _ _ _ | exact muladd1_nn _ _ _ _), (by decide)⟩ (aC (by decide) (aC ⟨(by decide), (by decide)⟩ (aC (by decide) (aC ⟨(by decide), (by decide)⟩ (aC (by have q0 := mTi_nn S T k 0; have q1 := mTi_nn S T k 1; have q2 := mTi_nn S T k 2; have q3 := mTi_nn S T k 3; have q4 := mTi_nn S T k 4; first | omega | exact wrap_nn rfl | exact (ad64_rng _ _ _).1 | exact muladd_nn _ _ _ _ | exact muladd1_nn _ _ _ _) (aC ⟨(by have q0 := mTi_nn S T k 0; have q1 := mTi_nn S T k 1; have q2 := mTi_nn S T k 2; have q3 := mTi_nn S T k 3; have q4 := mTi_nn S T k 4; first | omega | exact wrap_nn rfl | exact (ad64_rng _ _ _).1 | exact muladd_nn _ _ _ _ | exact muladd1_nn _ _ _ _), (by have q0 := mTi_nn S T k 0; have q1 := mTi_nn S T k 1; have q2 := mTi_nn S T k 2; have q3 := mTi_nn S T k 3; have q4 := mTi_nn S T k 4; first | omega | exact wrap_nn rfl | exact (ad64_rng _ _ _).1 | exact muladd_nn _ _ _ _ | exact muladd1_nn _ _ _ _)⟩ (aC rfl (aC (decide_eq_true (by have q0 := mTi_nn S T k 0; have q1 := mTi_nn S T k 1; have q2 := mTi_nn S T k 2; have q3 := mTi_nn S T k 3; have q4 := mTi_nn S T k 4; first | omega | exact wrap_nn rfl | exact (ad64_rng _ _ _).1 | exact muladd_nn _ _ _ _ | exact muladd1_nn _ _ _ _)) (AllP_nil)))))))))))))))))))))))))))))))))))))))))))))))))))))))))))))))))))))))
  rw [e0, e1, e2, e3, e4, e5, e6] at h
  exact h

set_option maxHeartbeats 1000000 in
theorem moL_last (S T : List Int) (h0 : (Wds S)) (h1 : (Wds T)) (hv0 : List.length S = (4 : Nat)) (hv1 : List.length T = (4 : Nat)) (hr : Wds [mTi S T 4 0, mTi S T 4 1, mTi S T 4 2, mTi S T 4 3]) (w : World) (s : Unit) : Run Try.prog ⟨w, [], 0, noEnv⟩ (loopB Try.f127 0) (moL_mk S T (4 : Nat) s) (To ⟨w, [], 0, noEnv⟩ (.exit 0) (moL_mk S T (4 : Nat) s)) :=
  Run.of_outT (B := ⟨w, [], 0, noEnv⟩) (Λ := noLam) (Ψ := noPsi) (fuel := 6) (ora := [false]) (l := [.forget [0, 1, 2, 3, 4, 5, 6, 13, 14] 5]) mix tabOkNO gv10_ok
    (vc := [(false = false)]) (by kernel_rfl)
    (aC rfl (AllP_nil))

theorem moL_loop (S T : List Int) (h0 : (Wds S)) (h1 : (Wds T)) (hv0 : List.length S = (4 : Nat)) (hv1 : List.length T = (4 : Nat)) (hr : Wds [mTi S T 4 0, mTi S T 4 1, mTi S T 4 2, mTi S T 4 3]) (w : World) (s : Unit) : Run Try.prog ⟨w, [], 0, noEnv⟩ (.block 0 (.loop (loopB Try.f127 0))) (moL_mk S T 0 s) (To ⟨w, [], 0, noEnv⟩ .normal (moL_mk S T (4 : Nat) (iter (moL_step) (4 : Nat) s))) :=
  Run.count (fun k => moL_mk S T k (iter (moL_step) k s)) (4 : Nat) (fun k hk => moL_round S T h0 h1 hv0 hv1 hr w k hk _) (ex := (.exit 0)) (by simp) (moL_last S T h0 h1 hv0 hv1 hr w _)

def montA (S T : List Int) : List Int :=
  (W4 (low (V4 ([(mTi S T (4 : Nat) (0 : Nat)), (mTi S T (4 : Nat) (1 : Nat)), (mTi S T (4 : Nat) (2 : Nat)), (mTi S T (4 : Nat) (3 : Nat))] : List Int))))

set_option maxHeartbeats 1000000 in
theorem montA_body0 (S T : List Int) (h0 : (Wds S)) (h1 : (Wds T)) (hv0 : List.length S = (4 : Nat)) (hv1 : List.length T = (4 : Nat)) (hr : Wds [mTi S T 4 0, mTi S T 4 1, mTi S T 4 2, mTi S T 4 3]) (w : World) : Body Try.prog (tabOf tabNO) Try.f127 ⟨w, [], 0, noEnv⟩ (toA [.g [.ints .u64 (4 : Nat) S], .g [.ints .u64 (4 : Nat) T]]) [] (fun ys _ => ys = [.g [.ints .u64 (4 : Nat) (montA S T)]]) :=
  Body.of_fin (Γ := gv10) (Λ := lamOf [(0, ⟨[.forget [0, 1, 2, 3, 4, 5, 6, 13, 14] 5], .normal, (moL_mk S T (4 : Nat) (iter (moL_step) (4 : Nat) ()))⟩)]) (Ψ := noPsi) (fuel := 5) (m := 101) (c := (Try.f127.body.getD .skip)) mix tabOkNO gv10_ok rfl (rs := [.cell 4 213]) rfl rfl [] []
    (vc := [(Wds ([(mTi S T (4 : Nat) (0 : Nat)), (mTi S T (4 : Nat) (1 : Nat)), (mTi S T (4 : Nat) (2 : Nat)), (mTi S T (4 : Nat) (3 : Nat))] : List Int)), (Run Try.prog ⟨w, [], 0, noEnv⟩ (.block 0 (.loop (loopB Try.f127 0))) (moL_mk S T 0 ()) (To ⟨w, [], 0, noEnv⟩ .normal (moL_mk S T (4 : Nat) (iter (moL_step) (4 : Nat) ()))))]) (by kernel_rfl)
    (aC hr (aC (moL_loop S T h0 h1 hv0 hv1 hr w ()) (AllP_nil)))

end Go.Proofs.Ytlmdhjojinkdbaa.X.V

/- Montgomery's product and the value of 32 bytes, as numbers. -/
namespace Go.Proofs.Ytlmdhjojinkdbaa.X.V
open Go Go.Proofs
set_option linter.unusedVariables false

def montV (a b : Int) : Int := a * b * RI % LL
def LtL (T : List Int) : Prop := V4 T < LL

theorem mT_fin {S T : List Int} (hS : Wds S) (hT : Wds T) (lS : S.length = 4) (lT : T.length = 4) (hB : LtL T) :
    Wds [mTi S T 4 0, mTi S T 4 1, mTi S T 4 2, mTi S T 4 3] ∧ ∃ M : Int, 115792089237316195423570985008687907853269984665640564039457584007913129639936 * V4 [mTi S T 4 0, mTi S T 4 1, mTi S T 4 2, mTi S T 4 3] = V4 S * V4 T + M * LL ∧ V4 [mTi S T 4 0, mTi S T 4 1, mTi S T 4 2, mTi S T 4 3] < 2 * LL := by
  obtain ⟨a0, a1, a2, a3, rfl⟩ := four lS
  obtain ⟨b0, b1, b2, b3, rfl⟩ := four lT
  have ha0 := hS a0 (by simp); have ha1 := hS a1 (by simp); have ha2 := hS a2 (by simp); have ha3 := hS a3 (by simp)
  have hb0 := hT b0 (by simp); have hb1 := hT b1 (by simp); have hb2 := hT b2 (by simp); have hb3 := hT b3 (by simp)
  have hB' : b0 + 18446744073709551616 * b1 + 340282366920938463463374607431768211456 * b2 + 6277101735386680763835789423207666416102355444464034512896 * b3 < LL := hB
  have z : (0 : Int) ≤ 0 ∧ (0 : Int) < 18446744073709551616 := by omega
  obtain ⟨v0, v1, v2, v3, v4, v5, m0, e1, r0, r1, r2, r3, r4, q1, l1⟩ := mstep_eq ha0 hb0 hb1 hb2 hb3 z z z z (t4 := 0) (by omega) hB' (by unfold LL; omega)
  have g1 : mT [a0, a1, a2, a3] [b0, b1, b2, b3] 1 = [v0, v1, v2, v3, v4, v5] := e1
  obtain ⟨x0, x1, x2, x3, x4, x5, m1, e2, s0, s1, s2, s3, s4, q2, l2⟩ := mstep_eq ha1 hb0 hb1 hb2 hb3 r0 r1 r2 r3 r4 hB' l1
  have g2 : mT [a0, a1, a2, a3] [b0, b1, b2, b3] 2 = [x0, x1, x2, x3, x4, x5] := by
    show mstep a1 b0 b1 b2 b3 ((mT _ _ 1).getD 0 0) ((mT _ _ 1).getD 1 0) ((mT _ _ 1).getD 2 0) ((mT _ _ 1).getD 3 0) ((mT _ _ 1).getD 4 0) = _
    rw [g1]; exact e2
  obtain ⟨y0, y1, y2, y3, y4, y5, m2, e3, t0, t1, t2, t3, t4, q3, l3⟩ := mstep_eq ha2 hb0 hb1 hb2 hb3 s0 s1 s2 s3 s4 hB' l2
  have g3 : mT [a0, a1, a2, a3] [b0, b1, b2, b3] 3 = [y0, y1, y2, y3, y4, y5] := by
    show mstep a2 b0 b1 b2 b3 ((mT _ _ 2).getD 0 0) ((mT _ _ 2).getD 1 0) ((mT _ _ 2).getD 2 0) ((mT _ _ 2).getD 3 0) ((mT _ _ 2).getD 4 0) = _
    rw [g2]; exact e3
  obtain ⟨w0, w1, w2, w3, w4, w5, m3, e4, u0, u1, u2, u3, u4, q4, l4⟩ := mstep_eq ha3 hb0 hb1 hb2 hb3 t0 t1 t2 t3 t4 hB' l3
  have g4 : mT [a0, a1, a2, a3] [b0, b1, b2, b3] 4 = [w0, w1, w2, w3, w4, w5] := by
    show mstep a3 b0 b1 b2 b3 ((mT _ _ 3).getD 0 0) ((mT _ _ 3).getD 1 0) ((mT _ _ 3).getD 2 0) ((mT _ _ 3).getD 3 0) ((mT _ _ 3).getD 4 0) = _
    rw [g3]; exact e4
  have i0 : mTi [a0, a1, a2, a3] [b0, b1, b2, b3] 4 0 = w0 := by unfold mTi; rw [g4]; rfl
  have i1 : mTi [a0, a1, a2, a3] [b0, b1, b2, b3] 4 1 = w1 := by unfold mTi; rw [g4]; rfl
  have i2 : mTi [a0, a1, a2, a3] [b0, b1, b2, b3] 4 2 = w2 := by unfold mTi; rw [g4]; rfl
  have i3 : mTi [a0, a1, a2, a3] [b0, b1, b2, b3] 4 3 = w3 := by unfold mTi; rw [g4]; rfl
  rw [i0, i1, i2, i3]
  refine ⟨wds_four u0 u1 u2 u3, m0 + 18446744073709551616 * m1 + 340282366920938463463374607431768211456 * m2 + 6277101735386680763835789423207666416102355444464034512896 * m3, ?_, ?_⟩
  · have hw4 : w4 = 0 := by unfold LL at l4; omega
    subst hw4
    have hAB : V4 [a0, a1, a2, a3] * V4 [b0, b1, b2, b3] = a0 * V4 [b0, b1, b2, b3] + 18446744073709551616 * (a1 * V4 [b0, b1, b2, b3]) + 340282366920938463463374607431768211456 * (a2 * V4 [b0, b1, b2, b3]) + 6277101735386680763835789423207666416102355444464034512896 * (a3 * V4 [b0, b1, b2, b3]) := by
      show (a0 + 18446744073709551616 * a1 + 340282366920938463463374607431768211456 * a2 + 6277101735386680763835789423207666416102355444464034512896 * a3) * V4 [b0, b1, b2, b3] = _
      rw [Int.add_mul, Int.add_mul, Int.add_mul, Int.mul_assoc, Int.mul_assoc, Int.mul_assoc]
    rw [hAB]
    have hV : b0 + 18446744073709551616 * b1 + 340282366920938463463374607431768211456 * b2 + 6277101735386680763835789423207666416102355444464034512896 * b3 = V4 [b0, b1, b2, b3] := rfl
    rw [hV] at q1 q2 q3 q4
    generalize V4 [b0, b1, b2, b3] = B at *
    generalize a0 * B = p0 at *
    generalize a1 * B = p1 at *
    generalize a2 * B = p2 at *
    generalize a3 * B = p3 at *
    show 115792089237316195423570985008687907853269984665640564039457584007913129639936 * (w0 + 18446744073709551616 * w1 + 340282366920938463463374607431768211456 * w2 + 6277101735386680763835789423207666416102355444464034512896 * w3) = _
    unfold LL at *
    clear g1 g2 g3 g4 e1 e2 e3 e4 i0 i1 i2 i3 hS hT lS lT hB hAB hV hB'
    omega
  · have hw4 : w4 = 0 := by unfold LL at l4; omega
    subst hw4
    show w0 + 18446744073709551616 * w1 + 340282366920938463463374607431768211456 * w2 + 6277101735386680763835789423207666416102355444464034512896 * w3 < 2 * LL
    omega

theorem low_mod {v : Int} (h0 : 0 ≤ v) (h1 : v < 2 * LL) : low v = v % LL := by
  unfold low LL at *
  split <;> omega

theorem mont_can (S T : List Int) (h0 : (Wds S)) (h1 : (Wds T)) (h2 : LtL T) (w : World) : Body Try.prog (tabOf tabNO) Try.f127 ⟨w, [], 0, noEnv⟩ (toA [.g [.ints .u64 (4 : Nat) S], .g [.ints .u64 (4 : Nat) T]]) [] (fun ys _ => ys = [.g [.ints .u64 (4 : Nat) (W4 (montV (V4 S) (V4 T)))]]) :=
  Body.lens (c := (Try.f127.body.getD .skip)) rfl fun h => by
    have lS := h.vals 0 _ _ _ rfl
    have lT := h.vals 1 _ _ _ rfl
    obtain ⟨hr, M, e, hlt⟩ := mT_fin h0 h1 lS lT h2
    refine (montA_body0 S T h0 h1 lS lT hr w).mono fun xs K hx => ?_
    subst hx
    have e2 : montA S T = W4 (montV (V4 S) (V4 T)) := by
      show W4 (low (V4 [mTi S T 4 0, mTi S T 4 1, mTi S T 4 2, mTi S T 4 3])) = _
      rw [low_mod (V4_rng hr rfl).1 hlt, mont_num e]; rfl
    rw [e2]

def lowI (v : Int) : Nat → Int
  | 0 => v
  | k + 1 => low (lowI v k)
def lowC (v : Int) : Nat → List Int
  | 0 => W4 v
  | k + 1 => W4 (low (V4 (lowC v k)))

theorem lowI_ok {v : Int} (h0 : 0 ≤ v) (h1 : v < 115792089237316195423570985008687907853269984665640564039457584007913129639936) : ∀ k, 0 ≤ lowI v k ∧ lowI v k < 115792089237316195423570985008687907853269984665640564039457584007913129639936 ∧ lowI v k % LL = v % LL ∧ (lowI v k < LL ∨ lowI v k = v - ((k : Nat) : Int) * LL)
  | 0 => ⟨h0, h1, rfl, .inr (by show v = v - (0 : Int) * LL; omega)⟩
  | k + 1 => by
    obtain ⟨a, b, c, d⟩ := lowI_ok h0 h1 k
    have r := low_rng a b
    refine ⟨r.1, r.2, ?_, ?_⟩
    · rw [← c]; show low (lowI v k) % LL = _
      unfold low
      split
      · rw [show lowI v k - LL = lowI v k + LL * (-1) by omega, Int.add_mul_emod_self_left]
      · rfl
    · show low (lowI v k) < LL ∨ low (lowI v k) = _
      unfold low LL at *
      split <;> omega

theorem lowC_eq {v : Int} (h0 : 0 ≤ v) (h1 : v < 115792089237316195423570985008687907853269984665640564039457584007913129639936) : ∀ k, lowC v k = W4 (lowI v k)
  | 0 => rfl
  | k + 1 => by
    obtain ⟨a, b, _⟩ := lowI_ok h0 h1 k
    show W4 (low (V4 (lowC v k))) = W4 (low (lowI v k))
    rw [lowC_eq h0 h1 k, V4_W4 a b]

theorem low16 {v : Int} (h0 : 0 ≤ v) (h1 : v < 115792089237316195423570985008687907853269984665640564039457584007913129639936) : lowI v 16 = v % LL := by
  obtain ⟨a, b, c, d⟩ := lowI_ok h0 h1 16
  unfold LL at *
  rcases d with d | d <;> omega

theorem val_can (s : List Int) (h0 : Byt s) (w : World) : Body Try.prog (tabOf tabNO) Try.f113 ⟨w, [], 0, noEnv⟩ (toA [.g [.ints .u8 (32 : Nat) s]]) [] (fun ys _ => ys = [.g [.ints .u64 (4 : Nat) (W4 (BV s % LL))]]) :=
  Body.lens (c := (Try.f113.body.getD .skip)) rfl fun h => (valA_body0 s h0 (h.vals 0 _ _ _ rfl) w).mono fun xs K hx => by
    subst hx
    have r := BV_rng h0
    have e : valA s = W4 (BV s % LL) := by
      have e1 : valA s = lowC (BV s) 16 := rfl
      rw [e1, lowC_eq r.1 r.2, low16 r.1 r.2]
    rw [e]
end Go.Proofs.Ytlmdhjojinkdbaa.X.V

/- Numbers that are below the order. -/
namespace Go.Proofs.Ytlmdhjojinkdbaa.X.V
open Go Go.Proofs
set_option linter.unusedVariables false

def modL (v : Int) : Int := v % LL
theorem modL_rng (v : Int) : 0 ≤ modL v ∧ modL v < LL ∧ modL v < 115792089237316195423570985008687907853269984665640564039457584007913129639936 := by
  unfold modL LL; omega
theorem V4_modL (v : Int) : V4 (W4 (modL v)) = modL v := V4_W4 (modL_rng v).1 (modL_rng v).2.2
theorem montV_rng (a b : Int) : 0 ≤ montV a b ∧ montV a b < LL ∧ montV a b < 115792089237316195423570985008687907853269984665640564039457584007913129639936 := modL_rng (a * b * RI)
theorem V4_mont (a b : Int) : V4 (W4 (montV a b)) = montV a b := V4_W4 (montV_rng a b).1 (montV_rng a b).2.2
theorem wds_radx : Wds [11819153939886771969, 14991950615390032711, 14910419812499177061, 259310039853996605] := wds_four (by omega) (by omega) (by omega) (by omega)
theorem V4_radx : V4 [11819153939886771969, 14991950615390032711, 14910419812499177061, 259310039853996605] = 1627715501170711445284395025044413883736156588369414752970002579683115011841 := by decide +kernel
theorem ltl_radx : LtL [11819153939886771969, 14991950615390032711, 14910419812499177061, 259310039853996605] := by unfold LtL; rw [V4_radx]; unfold LL; omega
theorem byt_B32 (v : Int) : Byt (B32 v) := by
  intro x hx
  unfold B32 at hx
  simp only [List.mem_cons, List.not_mem_nil, or_false] at hx
  rcases hx with rfl | rfl | rfl | rfl | rfl | rfl | rfl | rfl | rfl | rfl | rfl | rfl | rfl | rfl | rfl | rfl | rfl | rfl | rfl | rfl | rfl | rfl | rfl | rfl | rfl | rfl | rfl | rfl | rfl | rfl | rfl | rfl <;> omega
/-- the product of two numbers -/
theorem times_eq (a b : Int) : montV (montV a b) 1627715501170711445284395025044413883736156588369414752970002579683115011841 = modL (a * b) := mont_twice (a * b)
end Go.Proofs.Ytlmdhjojinkdbaa.X.V

/- Printed by a tool of this session. -/
namespace Go.Proofs.Ytlmdhjojinkdbaa.X.V
open Go Go.Proofs
set_option linter.unusedVariables false
set_option linter.unusedSimpArgs false
set_option maxRecDepth 100000
theorem teNT_24 : TEOk Try.prog 98 ⟨.array 32 5, 32, 32, [.ints .u8 (32 : Nat) ([0, 0, 0, 0, 0, 0, 0, 0, 0, 0, 0, 0, 0, 0, 0, 0, 0, 0, 0, 0, 0, 0, 0, 0, 0, 0, 0, 0, 0, 0, 0, 0] : List Int)], true⟩ :=
  TEOk.of Try.underlying98 (i := Try.t98) (by kernel_rfl) rfl rfl rfl (by kernel_rfl) (fun _ => Try.eqGuardType98) (by kernel_rfl)
theorem teNT_25 : TEOk Try.prog 147 ⟨.int .u64, 1, 8, [.i .u64 (0 : Int)], false⟩ :=
  TEOk.of Try.underlying147 (i := Try.t147) (by kernel_rfl) rfl rfl rfl (by kernel_rfl) (fun h => by cases h) (by kernel_rfl)
theorem teNT_104 : TEOk Try.prog 213 ⟨.array 4 147, 4, 32, [.ints .u64 (4 : Nat) ([0, 0, 0, 0] : List Int)], true⟩ :=
  TEOk.of Try.underlying213 (i := Try.t213) (by kernel_rfl) rfl rfl rfl (by kernel_rfl) (fun _ => Try.eqGuardType213) (by kernel_rfl)
noncomputable def tabNT : List (Nat × TE) := [(98, ⟨.array 32 5, 32, 32, [.ints .u8 (32 : Nat) ([0, 0, 0, 0, 0, 0, 0, 0, 0, 0, 0, 0, 0, 0, 0, 0, 0, 0, 0, 0, 0, 0, 0, 0, 0, 0, 0, 0, 0, 0, 0, 0] : List Int)], true⟩), (147, ⟨.int .u64, 1, 8, [.i .u64 (0 : Int)], false⟩), (213, ⟨.array 4 147, 4, 32, [.ints .u64 (4 : Nat) ([0, 0, 0, 0] : List Int)], true⟩)]
theorem tabOkNT : TabOk Try.prog (tabOf tabNT) := (tabOf_cons teNT_24 (tabOf_cons teNT_25 (tabOf_cons teNT_104 tabOf_nil)))

theorem montA_pure (S T : List Int) (h0 : (Wds S)) (h1 : (Wds T)) (h2 : (LtL T)) : PureC Try.prog 127 [.g [.ints .u64 (4 : Nat) S], .g [.ints .u64 (4 : Nat) T]] [.g [.ints .u64 (4 : Nat) (W4 (montV (V4 S) (V4 T)))]] :=
  PureC.of_body tabOkNT Try.func127 rfl rfl fun w => mont_can S T h0 h1 h2 w

def gv11 : Gam := gpure 127 (fun args => match args with | [.o (.g [.ints .u64 (4 : Nat) S]), .o (.g [.ints .u64 (4 : Nat) T])] => some (some ((Wds S) ∧ (Wds T) ∧ (LtL T)), [.g [.ints .u64 (4 : Nat) (W4 (montV (V4 S) (V4 T)))]]) | _ => none) gv10
theorem gv11_ok : GamOk Try.prog gv11 := gpure_ok gv10_ok Try.call127 (by
  intro args vc xs h hv
  split at h
  · simp only [Option.some.injEq, Prod.mk.injEq] at h; obtain ⟨rfl, rfl⟩ := h; exact ⟨_, by rfl, montA_pure _ _ hv.1 hv.2.1 hv.2.2⟩
  · simp at h)

theorem valA_pure (s : List Int) (h0 : (Byt s)) : PureC Try.prog 113 [.g [.ints .u8 (32 : Nat) s]] [.g [.ints .u64 (4 : Nat) (W4 (modL (BV s)))]] :=
  PureC.of_body tabOkNT Try.func113 rfl rfl fun w => val_can s h0 w

def gv12 : Gam := gpure 113 (fun args => match args with | [.o (.g [.ints .u8 (32 : Nat) s])] => some (some ((Byt s)), [.g [.ints .u64 (4 : Nat) (W4 (modL (BV s)))]]) | _ => none) gv11
theorem gv12_ok : GamOk Try.prog gv12 := gpure_ok gv11_ok Try.call113 (by
  intro args vc xs h hv
  split at h
  · simp only [Option.some.injEq, Prod.mk.injEq] at h; obtain ⟨rfl, rfl⟩ := h; exact ⟨_, by rfl, valA_pure _ hv⟩
  · simp at h)

def times (S T : List Int) : List Int :=
  (W4 (montV (V4 (W4 (montV (V4 S) (V4 T)))) (V4 ([11819153939886771969, 14991950615390032711, 14910419812499177061, 259310039853996605] : List Int))))

set_option maxHeartbeats 1000000 in
theorem times_body0 (S T : List Int) (h0 : (Wds S)) (h1 : (Wds T)) (h2 : (LtL T)) (hv0 : List.length S = (4 : Nat)) (hv1 : List.length T = (4 : Nat)) (w : World) : Body Try.prog (tabOf tabNT) Try.f111 ⟨w, [], 0, noEnv⟩ (toA [.g [.ints .u64 (4 : Nat) S], .g [.ints .u64 (4 : Nat) T]]) [] (fun ys _ => ys = [.g [.ints .u64 (4 : Nat) (times S T)]]) :=
  Body.of_fin (Γ := gv12) (Λ := noLam) (Ψ := noPsi) (fuel := 0) (m := 10) (c := (Try.f111.body.getD .skip)) mix tabOkNT gv12_ok rfl (rs := [.cell 4 213]) rfl rfl [] []
    (vc := [((Wds (W4 (montV (V4 S) (V4 T)))) ∧ (Wds ([11819153939886771969, 14991950615390032711, 14910419812499177061, 259310039853996605] : List Int)) ∧ (LtL ([11819153939886771969, 14991950615390032711, 14910419812499177061, 259310039853996605] : List Int))), ((Wds S) ∧ (Wds T) ∧ (LtL T))]) (by kernel_rfl)
    (aC ⟨(by first | assumption | exact wds_W4 _ | exact wds_radx), (by first | assumption | exact wds_W4 _ | exact wds_radx), (by first | assumption | exact ltl_radx)⟩ (aC ⟨(by first | assumption | exact wds_W4 _ | exact wds_radx), (by first | assumption | exact wds_W4 _ | exact wds_radx), (by first | assumption | exact ltl_radx)⟩ (AllP_nil)))

theorem times_body (S T : List Int) (h0 : (Wds S)) (h1 : (Wds T)) (h2 : (LtL T)) (w : World) : Body Try.prog (tabOf tabNT) Try.f111 ⟨w, [], 0, noEnv⟩ (toA [.g [.ints .u64 (4 : Nat) S], .g [.ints .u64 (4 : Nat) T]]) [] (fun ys _ => ys = [.g [.ints .u64 (4 : Nat) (times S T)]]) :=
  Body.lens (c := (Try.f111.body.getD .skip)) rfl fun h => times_body0 S T h0 h1 h2 (h.vals 0 _ _ _ rfl) (h.vals 1 _ _ _ rfl) w

theorem times_pure (S T : List Int) (h0 : (Wds S)) (h1 : (Wds T)) (h2 : (LtL T)) : PureC Try.prog 111 [.g [.ints .u64 (4 : Nat) S], .g [.ints .u64 (4 : Nat) T]] [.g [.ints .u64 (4 : Nat) (times S T)]] :=
  PureC.of_body tabOkNT Try.func111 rfl rfl fun w => times_body S T h0 h1 h2 w

def gv13 : Gam := gpure 111 (fun args => match args with | [.o (.g [.ints .u64 (4 : Nat) S]), .o (.g [.ints .u64 (4 : Nat) T])] => some (some ((Wds S) ∧ (Wds T) ∧ (LtL T)), [.g [.ints .u64 (4 : Nat) (times S T)]]) | _ => none) gv12
theorem gv13_ok : GamOk Try.prog gv13 := gpure_ok gv12_ok Try.call111 (by
  intro args vc xs h hv
  split at h
  · simp only [Option.some.injEq, Prod.mk.injEq] at h; obtain ⟨rfl, rfl⟩ := h; exact ⟨_, by rfl, times_pure _ _ hv.1 hv.2.1 hv.2.2⟩
  · simp at h)

end Go.Proofs.Ytlmdhjojinkdbaa.X.V

/- Printed by a tool of this session. -/
namespace Go.Proofs.Ytlmdhjojinkdbaa.X.V
open Go Go.Proofs
set_option linter.unusedVariables false
set_option linter.unusedSimpArgs false
set_option maxRecDepth 100000
theorem teNU_3 : TEOk Try.prog 3 ⟨.int .i64, 1, 8, [.i .i64 (0 : Int)], false⟩ :=
  TEOk.of Try.underlying3 (i := Try.t3) (by kernel_rfl) rfl rfl rfl (by kernel_rfl) (fun h => by cases h) (by kernel_rfl)
theorem teNU_5 : TEOk Try.prog 5 ⟨.int .u8, 1, 1, [.i .u8 (0 : Int)], false⟩ :=
  TEOk.of Try.underlying5 (i := Try.t5) (by kernel_rfl) rfl rfl rfl (by kernel_rfl) (fun h => by cases h) (by kernel_rfl)
theorem teNU_24 : TEOk Try.prog 98 ⟨.array 32 5, 32, 32, [.ints .u8 (32 : Nat) ([0, 0, 0, 0, 0, 0, 0, 0, 0, 0, 0, 0, 0, 0, 0, 0, 0, 0, 0, 0, 0, 0, 0, 0, 0, 0, 0, 0, 0, 0, 0, 0] : List Int)], true⟩ :=
  TEOk.of Try.underlying98 (i := Try.t98) (by kernel_rfl) rfl rfl rfl (by kernel_rfl) (fun _ => Try.eqGuardType98) (by kernel_rfl)
theorem teNU_25 : TEOk Try.prog 147 ⟨.int .u64, 1, 8, [.i .u64 (0 : Int)], false⟩ :=
  TEOk.of Try.underlying147 (i := Try.t147) (by kernel_rfl) rfl rfl rfl (by kernel_rfl) (fun h => by cases h) (by kernel_rfl)
theorem teNU_62 : TEOk Try.prog 229 ⟨.int .u64, 1, 8, [.i .u64 (0 : Int)], false⟩ :=
  TEOk.of Try.underlying229 (i := Try.t229) (by kernel_rfl) rfl rfl rfl (by kernel_rfl) (fun h => by cases h) (by kernel_rfl)
theorem teNU_109 : TEOk Try.prog 152 ⟨.int .u32, 1, 4, [.i .u32 (0 : Int)], false⟩ :=
  TEOk.of Try.underlying152 (i := Try.t152) (by kernel_rfl) rfl rfl rfl (by kernel_rfl) (fun h => by cases h) (by kernel_rfl)
theorem teNU_111 : TEOk Try.prog 219 ⟨.array 8 152, 8, 32, [.ints .u32 (8 : Nat) ([0, 0, 0, 0, 0, 0, 0, 0] : List Int)], true⟩ :=
  TEOk.of Try.underlying219 (i := Try.t219) (by kernel_rfl) rfl rfl rfl (by kernel_rfl) (fun _ => Try.eqGuardType219) (by kernel_rfl)
noncomputable def tabNU : List (Nat × TE) := [(3, ⟨.int .i64, 1, 8, [.i .i64 (0 : Int)], false⟩), (5, ⟨.int .u8, 1, 1, [.i .u8 (0 : Int)], false⟩), (98, ⟨.array 32 5, 32, 32, [.ints .u8 (32 : Nat) ([0, 0, 0, 0, 0, 0, 0, 0, 0, 0, 0, 0, 0, 0, 0, 0, 0, 0, 0, 0, 0, 0, 0, 0, 0, 0, 0, 0, 0, 0, 0, 0] : List Int)], true⟩), (147, ⟨.int .u64, 1, 8, [.i .u64 (0 : Int)], false⟩), (229, ⟨.int .u64, 1, 8, [.i .u64 (0 : Int)], false⟩), (152, ⟨.int .u32, 1, 4, [.i .u32 (0 : Int)], false⟩), (219, ⟨.array 8 152, 8, 32, [.ints .u32 (8 : Nat) ([0, 0, 0, 0, 0, 0, 0, 0] : List Int)], true⟩)]
theorem tabOkNU : TabOk Try.prog (tabOf tabNU) := (tabOf_cons teNU_3 (tabOf_cons teNU_5 (tabOf_cons teNU_24 (tabOf_cons teNU_25 (tabOf_cons teNU_62 (tabOf_cons teNU_109 (tabOf_cons teNU_111 tabOf_nil)))))))

set_option maxHeartbeats 1000000 in
theorem ordR_body0 (w : World) : Body Try.prog (tabOf tabNU) Try.f129 ⟨w, [], 0, noEnv⟩ (toA []) [] (fun ys _ => ys = [.g [.ints .u32 (8 : Nat) ([1559614445, 1477600026, 2734136534, 350157278, 0, 0, 0, 268435456] : List Int)]]) :=
  Body.of_fin (Γ := gv13) (Λ := noLam) (Ψ := noPsi) (fuel := 0) (m := 2) (c := (Try.f129.body.getD .skip)) mix tabOkNU gv13_ok rfl (rs := [.cell 0 219]) rfl rfl [] []
    (vc := []) (by kernel_rfl)
    (AllP_nil)

theorem ordR_body (w : World) : Body Try.prog (tabOf tabNU) Try.f129 ⟨w, [], 0, noEnv⟩ (toA []) [] (fun ys _ => ys = [.g [.ints .u32 (8 : Nat) ([1559614445, 1477600026, 2734136534, 350157278, 0, 0, 0, 268435456] : List Int)]]) :=
  Body.lens (c := (Try.f129.body.getD .skip)) rfl fun h => ordR_body0  w

theorem ordR_pure : PureC Try.prog 129 [] [.g [.ints .u32 (8 : Nat) ([1559614445, 1477600026, 2734136534, 350157278, 0, 0, 0, 268435456] : List Int)]] :=
  PureC.of_body tabOkNU Try.func129 rfl rfl fun w => ordR_body w

def gv22 : Gam := gpure 129 (fun args => match args with | [] => some (none, [.g [.ints .u32 (8 : Nat) ([1559614445, 1477600026, 2734136534, 350157278, 0, 0, 0, 268435456] : List Int)]]) | _ => none) gv13
theorem gv22_ok : GamOk Try.prog gv22 := gpure_ok gv13_ok Try.call129 (by
  intro args vc xs h hv
  split at h
  · simp only [Option.some.injEq, Prod.mk.injEq] at h; obtain ⟨rfl, rfl⟩ := h; exact ⟨_, by rfl, ordR_pure⟩
  · simp at h)

def twA (S : List Int) (b : Int) : List Int :=
  let z0 : List Int := (List.set S (0 : Nat) (bits2 .or .u32 (shl .u32 (List.getD S (0 : Nat) 0) (1 : Int)) b))
  let z1 : Int := (List.getD z0 (1 : Nat) 0)
  let z2 : List Int := (List.set z0 (1 : Nat) (bits2 .or .u32 (shl .u32 z1 (1 : Int)) (shr .u32 (List.getD S (0 : Nat) 0) (31 : Int))))
  let z3 : Int := (List.getD z2 (2 : Nat) 0)
  let z4 : List Int := (List.set z2 (2 : Nat) (bits2 .or .u32 (shl .u32 z3 (1 : Int)) (shr .u32 z1 (31 : Int))))
  let z5 : Int := (List.getD z4 (3 : Nat) 0)
  let z6 : List Int := (List.set z4 (3 : Nat) (bits2 .or .u32 (shl .u32 z5 (1 : Int)) (shr .u32 z3 (31 : Int))))
  let z7 : Int := (List.getD z6 (4 : Nat) 0)
  let z8 : List Int := (List.set z6 (4 : Nat) (bits2 .or .u32 (shl .u32 z7 (1 : Int)) (shr .u32 z5 (31 : Int))))
  let z9 : Int := (List.getD z8 (5 : Nat) 0)
  let z10 : List Int := (List.set z8 (5 : Nat) (bits2 .or .u32 (shl .u32 z9 (1 : Int)) (shr .u32 z7 (31 : Int))))
  let z11 : Int := (List.getD z10 (6 : Nat) 0)
  let z12 : List Int := (List.set z10 (6 : Nat) (bits2 .or .u32 (shl .u32 z11 (1 : Int)) (shr .u32 z9 (31 : Int))))
  (List.set z12 (7 : Nat) (bits2 .or .u32 (shl .u32 (List.getD z12 (7 : Nat) 0) (1 : Int)) (shr .u32 z11 (31 : Int))))

set_option maxHeartbeats 1000000 in
theorem twA_body0 (S : List Int) (b : Int) (hv0 : List.length S = (8 : Nat)) (w : World) : Body Try.prog (tabOf tabNU) Try.f130 ⟨w, [], 0, noEnv⟩ (toA [.g [.ints .u32 (8 : Nat) S], .a (.i .u32 b)]) [] (fun ys _ => ys = [.g [.ints .u32 (8 : Nat) (twA S b)]]) :=
  Body.of_fin (Γ := gv22) (Λ := noLam) (Ψ := noPsi) (fuel := 9) (m := 25) (c := (Try.f130.body.getD .skip)) mix tabOkNU gv22_ok rfl (rs := [.cell 4 219]) rfl rfl [true, true, true, true, true, true, true, true, false] []
    (vc := [(false = false), ((7 : Nat) < (8 : Nat)), (((0 : Int) ≤ (7 : Int)) ∧ ((7 : Int) < (8 : Int))), ((0 : Int) ≤ (1 : Int)), ((7 : Nat) < (8 : Nat)), (((0 : Int) ≤ (7 : Int)) ∧ ((7 : Int) < (8 : Int))), ((0 : Int) ≤ (31 : Int)), ((7 : Nat) < (8 : Nat)), (((0 : Int) ≤ (7 : Int)) ∧ ((7 : Int) < (8 : Int))), (true = true), ((6 : Nat) < (8 : Nat)), (((0 : Int) ≤ (6 : Int)) ∧ ((6 : Int) < (8 : Int))), ((0 : Int) ≤ (1 : Int)), ((6 : Nat) < (8 : Nat)), (((0 : Int) ≤ (6 : Int)) ∧ ((6 : Int) < (8 : Int))), ((0 : Int) ≤ (31 : Int)), ((6 : Nat) < (8 : Nat)), (((0 : Int) ≤ (6 : Int)) ∧ ((6 : Int) < (8 : Int))), (true = true), ((5 : Nat) < (8 : Nat)), (((0 : Int) ≤ (5 : Int)) ∧ ((5 : Int) < (8 : Int))), ((0 : Int) ≤ (1 : Int)), ((5 : Nat) < (8 : Nat)), (((0 : Int) ≤ (5 : Int)) ∧ ((5 : Int) < (8 : Int))), ((0 : Int) ≤ (31 : Int)), ((5 : Nat) < (8 : Nat)), (((0 : Int) ≤ (5 : Int)) ∧ ((5 : Int) < (8 : Int))), (true = true), ((4 : Nat) < (8 : Nat)), (((0 : Int) ≤ (4 : Int)) ∧ ((4 : Int) < (8 : Int))), ((0 : Int) ≤ (1 : Int)), ((4 : Nat) < (8 : Nat)), (((0 : Int) ≤ (4 : Int)) ∧ ((4 : Int) < (8 : Int))), ((0 : Int) ≤ (31 : Int)), ((4 : Nat) < (8 : Nat)), (((0 : Int) ≤ (4 : Int)) ∧ ((4 : Int) < (8 : Int))), (true = true), ((3 : Nat) < (8 : Nat)), (((0 : Int) ≤ (3 : Int)) ∧ ((3 : Int) < (8 : Int))), ((0 : Int) ≤ (1 : Int)), ((3 : Nat) < (8 : Nat)), (((0 : Int) ≤ (3 : Int)) ∧ ((3 : Int) < (8 : Int))), ((0 : Int) ≤ (31 : Int)), ((3 : Nat) < (8 : Nat)), (((0 : Int) ≤ (3 : Int)) ∧ ((3 : Int) < (8 : Int))), (true = true), ((2 : Nat) < (8 : Nat)), (((0 : Int) ≤ (2 : Int)) ∧ ((2 : Int) < (8 : Int))), ((0 : Int) ≤ (1 : Int)), ((2 : Nat) < (8 : Nat)), (((0 : Int) ≤ (2 : Int)) ∧ ((2 : Int) < (8 : Int))), ((0 : Int) ≤ (31 : Int)), ((2 : Nat) < (8 : Nat)), (((0 : Int) ≤ (2 : Int)) ∧ ((2 : Int) < (8 : Int))), (true = true), ((1 : Nat) < (8 : Nat)), (((0 : Int) ≤ (1 : Int)) ∧ ((1 : Int) < (8 : Int))), ((0 : Int) ≤ (1 : Int)), ((1 : Nat) < (8 : Nat)), (((0 : Int) ≤ (1 : Int)) ∧ ((1 : Int) < (8 : Int))), ((0 : Int) ≤ (31 : Int)), ((1 : Nat) < (8 : Nat)), (((0 : Int) ≤ (1 : Int)) ∧ ((1 : Int) < (8 : Int))), (true = true), ((0 : Nat) < (8 : Nat)), (((0 : Int) ≤ (0 : Int)) ∧ ((0 : Int) < (8 : Int))), ((0 : Int) ≤ (1 : Int)), ((0 : Nat) < (8 : Nat)), (((0 : Int) ≤ (0 : Int)) ∧ ((0 : Int) < (8 : Int))), ((0 : Int) ≤ (31 : Int)), ((0 : Nat) < (8 : Nat)), (((0 : Int) ≤ (0 : Int)) ∧ ((0 : Int) < (8 : Int))), (true = true)]) (by kernel_rfl)
    (aC rfl (aC (by decide) (aC ⟨(by decide), (by decide)⟩ (aC (by decide) (aC (by decide) (aC ⟨(by decide), (by decide)⟩ (aC (by decide) (aC (by decide) (aC ⟨(by decide), (by decide)⟩ (aC rfl (aC (by decide) (aC ⟨(by decide), (by decide)⟩ (aC (by decide) (aC (by decide) (aC ⟨(by decide), (by decide)⟩ (aC (by decide) (aC (by decide) (aC ⟨(by decide), (by decide)⟩ (aC rfl (aC (by decide) (aC ⟨(by decide), (by decide)⟩ (aC (by decide) (aC (by decide) (aC ⟨(by decide), (by decide)⟩ (aC (by decide) (aC (by decide) (aC ⟨(by decide), (by decide)⟩ (aC rfl (aC (by decide) (aC ⟨(by decide), (by decide)⟩ (aC (by decide) (aC (by decide) (aC ⟨(by decide), (by decide)⟩ (aC (by decide) (aC (by decide) (aC ⟨(by decide), (by decide)⟩ (aC rfl (aC (by decide) (aC ⟨(by decide), (by decide)⟩ (aC (by decide) (aC (by decide) (aC ⟨(by decide), (by decide)⟩ (aC (by decide) (aC (by decide) (aC ⟨(by decide), (by decide)⟩ (aC rfl (aC (by decide) (aC ⟨(by decide), (by decide)⟩ (aC (by decide) (aC (by decide) (aC ⟨(by decide), (by decide)⟩ (aC (by decide) (aC (by decide) (aC ⟨(by decide), (by decide)⟩ (aC rfl (aC (by decide) (aC ⟨(by decide), (by decide)⟩ (aC (by decide) (aC (by decide) (aC ⟨(by decide), (by decide)⟩ (aC (by decide) (aC (by decide) (aC ⟨(by decide), (by decide)⟩ (aC rfl (aC (by decide) (aC ⟨(by decide), (by decide)⟩ (aC (by decide) (aC (by decide) (aC ⟨(by decide), (by decide)⟩ (aC (by decide) (aC (by decide) (aC ⟨(by decide), (by decide)⟩ (aC rfl (AllP_nil))))))))))))))))))))))))))))))))))))))))))))))))))))))))))))))))))))))))))

def miA (S T : List Int) : List Int :=
  let z0 : Int := (IntKind.u64.wrap ((IntKind.u64.wrap ((IntKind.u64.wrap (List.getD S (0 : Nat) 0)) - (IntKind.u64.wrap (List.getD T (0 : Nat) 0)))) - (0 : Int)))
  let z1 : List Int := (List.set S (0 : Nat) (IntKind.u32.wrap z0))
  let z2 : Int := (IntKind.u64.wrap ((IntKind.u64.wrap ((IntKind.u64.wrap (List.getD z1 (1 : Nat) 0)) - (IntKind.u64.wrap (List.getD T (1 : Nat) 0)))) - (shr .u64 z0 (63 : Int))))
  let z3 : List Int := (List.set z1 (1 : Nat) (IntKind.u32.wrap z2))
  let z4 : Int := (IntKind.u64.wrap ((IntKind.u64.wrap ((IntKind.u64.wrap (List.getD z3 (2 : Nat) 0)) - (IntKind.u64.wrap (List.getD T (2 : Nat) 0)))) - (shr .u64 z2 (63 : Int))))
  let z5 : List Int := (List.set z3 (2 : Nat) (IntKind.u32.wrap z4))
  let z6 : Int := (IntKind.u64.wrap ((IntKind.u64.wrap ((IntKind.u64.wrap (List.getD z5 (3 : Nat) 0)) - (IntKind.u64.wrap (List.getD T (3 : Nat) 0)))) - (shr .u64 z4 (63 : Int))))
  let z7 : List Int := (List.set z5 (3 : Nat) (IntKind.u32.wrap z6))
  let z8 : Int := (IntKind.u64.wrap ((IntKind.u64.wrap ((IntKind.u64.wrap (List.getD z7 (4 : Nat) 0)) - (IntKind.u64.wrap (List.getD T (4 : Nat) 0)))) - (shr .u64 z6 (63 : Int))))
  let z9 : List Int := (List.set z7 (4 : Nat) (IntKind.u32.wrap z8))
  let z10 : Int := (IntKind.u64.wrap ((IntKind.u64.wrap ((IntKind.u64.wrap (List.getD z9 (5 : Nat) 0)) - (IntKind.u64.wrap (List.getD T (5 : Nat) 0)))) - (shr .u64 z8 (63 : Int))))
  let z11 : List Int := (List.set z9 (5 : Nat) (IntKind.u32.wrap z10))
  let z12 : Int := (IntKind.u64.wrap ((IntKind.u64.wrap ((IntKind.u64.wrap (List.getD z11 (6 : Nat) 0)) - (IntKind.u64.wrap (List.getD T (6 : Nat) 0)))) - (shr .u64 z10 (63 : Int))))
  let z13 : List Int := (List.set z11 (6 : Nat) (IntKind.u32.wrap z12))
  (List.set z13 (7 : Nat) (IntKind.u32.wrap (IntKind.u64.wrap ((IntKind.u64.wrap ((IntKind.u64.wrap (List.getD z13 (7 : Nat) 0)) - (IntKind.u64.wrap (List.getD T (7 : Nat) 0)))) - (shr .u64 z12 (63 : Int))))))

set_option maxHeartbeats 1000000 in
theorem miA_body0 (S T : List Int) (hv0 : List.length S = (8 : Nat)) (hv1 : List.length T = (8 : Nat)) (w : World) : Body Try.prog (tabOf tabNU) Try.f132 ⟨w, [], 0, noEnv⟩ (toA [.g [.ints .u32 (8 : Nat) S], .g [.ints .u32 (8 : Nat) T]]) [] (fun ys _ => ys = [.g [.ints .u32 (8 : Nat) (miA S T)]]) :=
  Body.of_fin (Γ := gv22) (Λ := noLam) (Ψ := noPsi) (fuel := 9) (m := 30) (c := (Try.f132.body.getD .skip)) mix tabOkNU gv22_ok rfl (rs := [.cell 4 219]) rfl rfl [true, true, true, true, true, true, true, true, false] []
    (vc := [(false = false), ((0 : Int) ≤ (63 : Int)), ((7 : Nat) < (8 : Nat)), (((0 : Int) ≤ (7 : Int)) ∧ ((7 : Int) < (8 : Int))), ((7 : Nat) < (8 : Nat)), (((0 : Int) ≤ (7 : Int)) ∧ ((7 : Int) < (8 : Int))), ((7 : Nat) < (8 : Nat)), (((0 : Int) ≤ (7 : Int)) ∧ ((7 : Int) < (8 : Int))), (true = true), ((0 : Int) ≤ (63 : Int)), ((6 : Nat) < (8 : Nat)), (((0 : Int) ≤ (6 : Int)) ∧ ((6 : Int) < (8 : Int))), ((6 : Nat) < (8 : Nat)), (((0 : Int) ≤ (6 : Int)) ∧ ((6 : Int) < (8 : Int))), ((6 : Nat) < (8 : Nat)), (((0 : Int) ≤ (6 : Int)) ∧ ((6 : Int) < (8 : Int))), (true = true), ((0 : Int) ≤ (63 : Int)), ((5 : Nat) < (8 : Nat)), (((0 : Int) ≤ (5 : Int)) ∧ ((5 : Int) < (8 : Int))), ((5 : Nat) < (8 : Nat)), (((0 : Int) ≤ (5 : Int)) ∧ ((5 : Int) < (8 : Int))), ((5 : Nat) < (8 : Nat)), (((0 : Int) ≤ (5 : Int)) ∧ ((5 : Int) < (8 : Int))), (true = true), ((0 : Int) ≤ (63 : Int)), ((4 : Nat) < (8 : Nat)), (((0 : Int) ≤ (4 : Int)) ∧ ((4 : Int) < (8 : Int))), ((4 : Nat) < (8 : Nat)), (((0 : Int) ≤ (4 : Int)) ∧ ((4 : Int) < (8 : Int))), ((4 : Nat) < (8 : Nat)), (((0 : Int) ≤ (4 : Int)) ∧ ((4 : Int) < (8 : Int))), (true = true), ((0 : Int) ≤ (63 : Int)), ((3 : Nat) < (8 : Nat)), (((0 : Int) ≤ (3 : Int)) ∧ ((3 : Int) < (8 : Int))), ((3 : Nat) < (8 : Nat)), (((0 : Int) ≤ (3 : Int)) ∧ ((3 : Int) < (8 : Int))), ((3 : Nat) < (8 : Nat)), (((0 : Int) ≤ (3 : Int)) ∧ ((3 : Int) < (8 : Int))), (true = true), ((0 : Int) ≤ (63 : Int)), ((2 : Nat) < (8 : Nat)), (((0 : Int) ≤ (2 : Int)) ∧ ((2 : Int) < (8 : Int))), ((2 : Nat) < (8 : Nat)), (((0 : Int) ≤ (2 : Int)) ∧ ((2 : Int) < (8 : Int))), ((2 : Nat) < (8 : Nat)), (((0 : Int) ≤ (2 : Int)) ∧ ((2 : Int) < (8 : Int))), (true = true), ((0 : Int) ≤ (63 : Int)), ((1 : Nat) < (8 : Nat)), (((0 : Int) ≤ (1 : Int)) ∧ ((1 : Int) < (8 : Int))), ((1 : Nat) < (8 : Nat)), (((0 : Int) ≤ (1 : Int)) ∧ ((1 : Int) < (8 : Int))), ((1 : Nat) < (8 : Nat)), (((0 : Int) ≤ (1 : Int)) ∧ ((1 : Int) < (8 : Int))), (true = true), ((0 : Int) ≤ (63 : Int)), ((0 : Nat) < (8 : Nat)), (((0 : Int) ≤ (0 : Int)) ∧ ((0 : Int) < (8 : Int))), ((0 : Nat) < (8 : Nat)), (((0 : Int) ≤ (0 : Int)) ∧ ((0 : Int) < (8 : Int))), ((0 : Nat) < (8 : Nat)), (((0 : Int) ≤ (0 : Int)) ∧ ((0 : Int) < (8 : Int))), (true = true)]) (by kernel_rfl)
    (aC rfl (aC (by decide) (aC (by decide) (aC ⟨(by decide), (by decide)⟩ (aC (by decide) (aC ⟨(by decide), (by decide)⟩ (aC (by decide) (aC ⟨(by decide), (by decide)⟩ (aC rfl (aC (by decide) (aC (by decide) (aC ⟨(by decide), (by decide)⟩ (aC (by decide) (aC ⟨(by decide), (by decide)⟩ (aC (by decide) (aC ⟨(by decide), (by decide)⟩ (aC rfl (aC (by decide) (aC (by decide) (aC ⟨(by decide), (by decide)⟩ (aC (by decide) (aC ⟨(by decide), (by decide)⟩ (aC (by decide) (aC ⟨(by decide), (by decide)⟩ (aC rfl (aC (by decide) (aC (by decide) (aC ⟨(by decide), (by decide)⟩ (aC (by decide) (aC ⟨(by decide), (by decide)⟩ (aC (by decide) (aC ⟨(by decide), (by decide)⟩ (aC rfl (aC (by decide) (aC (by decide) (aC ⟨(by decide), (by decide)⟩ (aC (by decide) (aC ⟨(by decide), (by decide)⟩ (aC (by decide) (aC ⟨(by decide), (by decide)⟩ (aC rfl (aC (by decide) (aC (by decide) (aC ⟨(by decide), (by decide)⟩ (aC (by decide) (aC ⟨(by decide), (by decide)⟩ (aC (by decide) (aC ⟨(by decide), (by decide)⟩ (aC rfl (aC (by decide) (aC (by decide) (aC ⟨(by decide), (by decide)⟩ (aC (by decide) (aC ⟨(by decide), (by decide)⟩ (aC (by decide) (aC ⟨(by decide), (by decide)⟩ (aC rfl (aC (by decide) (aC (by decide) (aC ⟨(by decide), (by decide)⟩ (aC (by decide) (aC ⟨(by decide), (by decide)⟩ (aC (by decide) (aC ⟨(by decide), (by decide)⟩ (aC rfl (AllP_nil))))))))))))))))))))))))))))))))))))))))))))))))))))))))))))))))))

def be8 (S T : List Int) : Bool :=
  (decide ((List.getD S (7 : Nat) 0) < (List.getD T (7 : Nat) 0)))

set_option maxHeartbeats 1000000 in
theorem be8_body0 (S T : List Int) (hv0 : List.length S = (8 : Nat)) (hv1 : List.length T = (8 : Nat)) (ne : List.getD S 7 0 ≠ List.getD T 7 0) (w : World) : Body Try.prog (tabOf tabNU) Try.f131 ⟨w, [], 0, noEnv⟩ (toA [.g [.ints .u32 (8 : Nat) S], .g [.ints .u32 (8 : Nat) T]]) [] (fun ys _ => ys = [.a (.b (be8 S T))]) :=
  Body.of_fin (Γ := gv22) (Λ := noLam) (Ψ := noPsi) (fuel := 9) (m := 24) (c := (Try.f131.body.getD .skip)) mix tabOkNU gv22_ok rfl (rs := [.tmp 4]) rfl rfl [true, true] []
    (vc := [((7 : Nat) < (8 : Nat)), (((0 : Int) ≤ (7 : Int)) ∧ ((7 : Int) < (8 : Int))), ((7 : Nat) < (8 : Nat)), (((0 : Int) ≤ (7 : Int)) ∧ ((7 : Int) < (8 : Int))), (((List.getD S (7 : Nat) 0) != (List.getD T (7 : Nat) 0)) = true), ((7 : Nat) < (8 : Nat)), (((0 : Int) ≤ (7 : Int)) ∧ ((7 : Int) < (8 : Int))), ((7 : Nat) < (8 : Nat)), (((0 : Int) ≤ (7 : Int)) ∧ ((7 : Int) < (8 : Int))), (true = true)]) (by kernel_rfl)
    (aC (by decide) (aC ⟨(by decide), (by decide)⟩ (aC (by decide) (aC ⟨(by decide), (by decide)⟩ (aC (bne_iff_ne.2 ne) (aC (by decide) (aC ⟨(by decide), (by decide)⟩ (aC (by decide) (aC ⟨(by decide), (by decide)⟩ (aC rfl (AllP_nil)))))))))))

def be7 (S T : List Int) : Bool :=
  (decide ((List.getD S (6 : Nat) 0) < (List.getD T (6 : Nat) 0)))

set_option maxHeartbeats 1000000 in
theorem be7_body0 (S T : List Int) (hv0 : List.length S = (8 : Nat)) (hv1 : List.length T = (8 : Nat)) (e7 : List.getD S 7 0 = List.getD T 7 0) (ne : List.getD S 6 0 ≠ List.getD T 6 0) (w : World) : Body Try.prog (tabOf tabNU) Try.f131 ⟨w, [], 0, noEnv⟩ (toA [.g [.ints .u32 (8 : Nat) S], .g [.ints .u32 (8 : Nat) T]]) [] (fun ys _ => ys = [.a (.b (be7 S T))]) :=
  Body.of_fin (Γ := gv22) (Λ := noLam) (Ψ := noPsi) (fuel := 9) (m := 24) (c := (Try.f131.body.getD .skip)) mix tabOkNU gv22_ok rfl (rs := [.tmp 4]) rfl rfl [true, false, true, true] []
    (vc := [((6 : Nat) < (8 : Nat)), (((0 : Int) ≤ (6 : Int)) ∧ ((6 : Int) < (8 : Int))), ((6 : Nat) < (8 : Nat)), (((0 : Int) ≤ (6 : Int)) ∧ ((6 : Int) < (8 : Int))), (((List.getD S (6 : Nat) 0) != (List.getD T (6 : Nat) 0)) = true), ((6 : Nat) < (8 : Nat)), (((0 : Int) ≤ (6 : Int)) ∧ ((6 : Int) < (8 : Int))), ((6 : Nat) < (8 : Nat)), (((0 : Int) ≤ (6 : Int)) ∧ ((6 : Int) < (8 : Int))), (true = true), (((List.getD S (7 : Nat) 0) != (List.getD T (7 : Nat) 0)) = false), ((7 : Nat) < (8 : Nat)), (((0 : Int) ≤ (7 : Int)) ∧ ((7 : Int) < (8 : Int))), ((7 : Nat) < (8 : Nat)), (((0 : Int) ≤ (7 : Int)) ∧ ((7 : Int) < (8 : Int))), (true = true)]) (by kernel_rfl)
    (aC (by decide) (aC ⟨(by decide), (by decide)⟩ (aC (by decide) (aC ⟨(by decide), (by decide)⟩ (aC (bne_iff_ne.2 ne) (aC (by decide) (aC ⟨(by decide), (by decide)⟩ (aC (by decide) (aC ⟨(by decide), (by decide)⟩ (aC rfl (aC (bne_eq_false_iff_eq.2 e7) (aC (by decide) (aC ⟨(by decide), (by decide)⟩ (aC (by decide) (aC ⟨(by decide), (by decide)⟩ (aC rfl (AllP_nil)))))))))))))))))

def be6 (S T : List Int) : Bool :=
  (decide ((List.getD S (5 : Nat) 0) < (List.getD T (5 : Nat) 0)))

set_option maxHeartbeats 1000000 in
theorem be6_body0 (S T : List Int) (hv0 : List.length S = (8 : Nat)) (hv1 : List.length T = (8 : Nat)) (e7 : List.getD S 7 0 = List.getD T 7 0) (e6 : List.getD S 6 0 = List.getD T 6 0) (ne : List.getD S 5 0 ≠ List.getD T 5 0) (w : World) : Body Try.prog (tabOf tabNU) Try.f131 ⟨w, [], 0, noEnv⟩ (toA [.g [.ints .u32 (8 : Nat) S], .g [.ints .u32 (8 : Nat) T]]) [] (fun ys _ => ys = [.a (.b (be6 S T))]) :=
  Body.of_fin (Γ := gv22) (Λ := noLam) (Ψ := noPsi) (fuel := 9) (m := 24) (c := (Try.f131.body.getD .skip)) mix tabOkNU gv22_ok rfl (rs := [.tmp 4]) rfl rfl [true, false, true, false, true, true] []
    (vc := [((5 : Nat) < (8 : Nat)), (((0 : Int) ≤ (5 : Int)) ∧ ((5 : Int) < (8 : Int))), ((5 : Nat) < (8 : Nat)), (((0 : Int) ≤ (5 : Int)) ∧ ((5 : Int) < (8 : Int))), (((List.getD S (5 : Nat) 0) != (List.getD T (5 : Nat) 0)) = true), ((5 : Nat) < (8 : Nat)), (((0 : Int) ≤ (5 : Int)) ∧ ((5 : Int) < (8 : Int))), ((5 : Nat) < (8 : Nat)), (((0 : Int) ≤ (5 : Int)) ∧ ((5 : Int) < (8 : Int))), (true = true), (((List.getD S (6 : Nat) 0) != (List.getD T (6 : Nat) 0)) = false), ((6 : Nat) < (8 : Nat)), (((0 : Int) ≤ (6 : Int)) ∧ ((6 : Int) < (8 : Int))), ((6 : Nat) < (8 : Nat)), (((0 : Int) ≤ (6 : Int)) ∧ ((6 : Int) < (8 : Int))), (true = true), (((List.getD S (7 : Nat) 0) != (List.getD T (7 : Nat) 0)) = false), ((7 : Nat) < (8 : Nat)), (((0 : Int) ≤ (7 : Int)) ∧ ((7 : Int) < (8 : Int))), ((7 : Nat) < (8 : Nat)), (((0 : Int) ≤ (7 : Int)) ∧ ((7 : Int) < (8 : Int))), (true = true)]) (by kernel_rfl)
    (aC (by decide) (aC ⟨(by decide), (by decide)⟩ (aC (by decide) (aC ⟨(by decide), (by decide)⟩ (aC (bne_iff_ne.2 ne) (aC (by decide) (aC ⟨(by decide), (by decide)⟩ (aC (by decide) (aC ⟨(by decide), (by decide)⟩ (aC rfl (aC (bne_eq_false_iff_eq.2 e6) (aC (by decide) (aC ⟨(by decide), (by decide)⟩ (aC (by decide) (aC ⟨(by decide), (by decide)⟩ (aC rfl (aC (bne_eq_false_iff_eq.2 e7) (aC (by decide) (aC ⟨(by decide), (by decide)⟩ (aC (by decide) (aC ⟨(by decide), (by decide)⟩ (aC rfl (AllP_nil)))))))))))))))))))))))

def be5 (S T : List Int) : Bool :=
  (decide ((List.getD S (4 : Nat) 0) < (List.getD T (4 : Nat) 0)))

set_option maxHeartbeats 1000000 in
theorem be5_body0 (S T : List Int) (hv0 : List.length S = (8 : Nat)) (hv1 : List.length T = (8 : Nat)) (e7 : List.getD S 7 0 = List.getD T 7 0) (e6 : List.getD S 6 0 = List.getD T 6 0) (e5 : List.getD S 5 0 = List.getD T 5 0) (ne : List.getD S 4 0 ≠ List.getD T 4 0) (w : World) : Body Try.prog (tabOf tabNU) Try.f131 ⟨w, [], 0, noEnv⟩ (toA [.g [.ints .u32 (8 : Nat) S], .g [.ints .u32 (8 : Nat) T]]) [] (fun ys _ => ys = [.a (.b (be5 S T))]) :=
  Body.of_fin (Γ := gv22) (Λ := noLam) (Ψ := noPsi) (fuel := 9) (m := 24) (c := (Try.f131.body.getD .skip)) mix tabOkNU gv22_ok rfl (rs := [.tmp 4]) rfl rfl [true, false, true, false, true, false, true, true] []
    (vc := [((4 : Nat) < (8 : Nat)), (((0 : Int) ≤ (4 : Int)) ∧ ((4 : Int) < (8 : Int))), ((4 : Nat) < (8 : Nat)), (((0 : Int) ≤ (4 : Int)) ∧ ((4 : Int) < (8 : Int))), (((List.getD S (4 : Nat) 0) != (List.getD T (4 : Nat) 0)) = true), ((4 : Nat) < (8 : Nat)), (((0 : Int) ≤ (4 : Int)) ∧ ((4 : Int) < (8 : Int))), ((4 : Nat) < (8 : Nat)), (((0 : Int) ≤ (4 : Int)) ∧ ((4 : Int) < (8 : Int))), (true = true), (((List.getD S (5 : Nat) 0) != (List.getD T (5 : Nat) 0)) = false), ((5 : Nat) < (8 : Nat)), (((0 : Int) ≤ (5 : Int)) ∧ ((5 : Int) < (8 : Int))), ((5 : Nat) < (8 : Nat)), (((0 : Int) ≤ (5 : Int)) ∧ ((5 : Int) < (8 : Int))), (true = true), (((List.getD S (6 : Nat) 0) != (List.getD T (6 : Nat) 0)) = false), ((6 : Nat) < (8 : Nat)), (((0 : Int) ≤ (6 : Int)) ∧ ((6 : Int) < (8 : Int))), ((6 : Nat) < (8 : Nat)), (((0 : Int) ≤ (6 : Int)) ∧ ((6 : Int) < (8 : Int))), (true = true), (((List.getD S (7 : Nat) 0) != (List.getD T (7 : Nat) 0)) = false), ((7 : Nat) < (8 : Nat)), (((0 : Int) ≤ (7 : Int)) ∧ ((7 : Int) < (8 : Int))), ((7 : Nat) < (8 : Nat)), (((0 : Int) ≤ (7 : Int)) ∧ ((7 : Int) < (8 : Int))), (true = true)]) (by kernel_rfl)
    (aC (by decide) (aC ⟨(by decide), (by decide)⟩ (aC (by decide) (aC ⟨(by decide), (by decide)⟩ (aC (bne_iff_ne.2 ne) (aC (by decide) (aC ⟨(by decide), (by decide)⟩ (aC (by decide) (aC ⟨(by decide), (by decide)⟩ (aC rfl (aC (bne_eq_false_iff_eq.2 e5) (aC (by decide) (aC ⟨(by decide), (by decide)⟩ (aC (by decide) (aC ⟨(by decide), (by decide)⟩ (aC rfl (aC (bne_eq_false_iff_eq.2 e6) (aC (by decide) (aC ⟨(by decide), (by decide)⟩ (aC (by decide) (aC ⟨(by decide), (by decide)⟩ (aC rfl (aC (bne_eq_false_iff_eq.2 e7) (aC (by decide) (aC ⟨(by decide), (by decide)⟩ (aC (by decide) (aC ⟨(by decide), (by decide)⟩ (aC rfl (AllP_nil)))))))))))))))))))))))))))))

def be4 (S T : List Int) : Bool :=
  (decide ((List.getD S (3 : Nat) 0) < (List.getD T (3 : Nat) 0)))

set_option maxHeartbeats 1000000 in
theorem be4_body0 (S T : List Int) (hv0 : List.length S = (8 : Nat)) (hv1 : List.length T = (8 : Nat)) (e7 : List.getD S 7 0 = List.getD T 7 0) (e6 : List.getD S 6 0 = List.getD T 6 0) (e5 : List.getD S 5 0 = List.getD T 5 0) (e4 : List.getD S 4 0 = List.getD T 4 0) (ne : List.getD S 3 0 ≠ List.getD T 3 0) (w : World) : Body Try.prog (tabOf tabNU) Try.f131 ⟨w, [], 0, noEnv⟩ (toA [.g [.ints .u32 (8 : Nat) S], .g [.ints .u32 (8 : Nat) T]]) [] (fun ys _ => ys = [.a (.b (be4 S T))]) :=
  Body.of_fin (Γ := gv22) (Λ := noLam) (Ψ := noPsi) (fuel := 9) (m := 24) (c := (Try.f131.body.getD .skip)) mix tabOkNU gv22_ok rfl (rs := [.tmp 4]) rfl rfl [true, false, true, false, true, false, true, false, true, true] []
    (vc := [((3 : Nat) < (8 : Nat)), (((0 : Int) ≤ (3 : Int)) ∧ ((3 : Int) < (8 : Int))), ((3 : Nat) < (8 : Nat)), (((0 : Int) ≤ (3 : Int)) ∧ ((3 : Int) < (8 : Int))), (((List.getD S (3 : Nat) 0) != (List.getD T (3 : Nat) 0)) = true), ((3 : Nat) < (8 : Nat)), (((0 : Int) ≤ (3 : Int)) ∧ ((3 : Int) < (8 : Int))), ((3 : Nat) < (8 : Nat)), (((0 : Int) ≤ (3 : Int)) ∧ ((3 : Int) < (8 : Int))), (true = true), (((List.getD S (4 : Nat) 0) != (List.getD T (4 : Nat) 0)) = false), ((4 : Nat) < (8 : Nat)), (((0 : Int) ≤ (4 : Int)) ∧ ((4 : Int) < (8 : Int))), ((4 : Nat) < (8 : Nat)), (((0 : Int) ≤ (4 : Int)) ∧ ((4 : Int) < (8 : Int))), (true = true), (((List.getD S (5 : Nat) 0) != (List.getD T (5 : Nat) 0)) = false), ((5 : Nat) < (8 : Nat)), (((0 : Int) ≤ (5 : Int)) ∧ ((5 : Int) < (8 : Int))), ((5 : Nat) < (8 : Nat)), (((0 : Int) ≤ (5 : Int)) ∧ ((5 : Int) < (8 : Int))), (true = true), (((List.getD S (6 : Nat) 0) != (List.getD T (6 : Nat) 0)) = false), ((6 : Nat) < (8 : Nat)), (((0 : Int) ≤ (6 : Int)) ∧ ((6 : Int) < (8 : Int))), ((6 : Nat) < (8 : Nat)), (((0 : Int) ≤ (6 : Int)) ∧ ((6 : Int) < (8 : Int))), (true = true), (((List.getD S (7 : Nat) 0) != (List.getD T (7 : Nat) 0)) = false), ((7 : Nat) < (8 : Nat)), (((0 : Int) ≤ (7 : Int)) ∧ ((7 : Int) < (8 : Int))), ((7 : Nat) < (8 : Nat)), (((0 : Int) ≤ (7 : Int)) ∧ ((7 : Int) < (8 : Int))), (true = true)]) (by kernel_rfl)
    (aC (by decide) (aC ⟨(by decide), (by decide)⟩ (aC (by decide) (aC ⟨(by decide), (by decide)⟩ (aC (bne_iff_ne.2 ne) (aC (by decide) (aC ⟨(by decide), (by decide)⟩ (aC (by decide) (aC ⟨(by decide), (by decide)⟩ (aC rfl (aC (bne_eq_false_iff_eq.2 e4) (aC (by decide) (aC ⟨(by decide), (by decide)⟩ (aC (by decide) (aC ⟨(by decide), (by decide)⟩ (aC rfl (aC (bne_eq_false_iff_eq.2 e5) (aC (by decide) (aC ⟨(by decide), (by decide)⟩ (aC (by decide) (aC ⟨(by decide), (by decide)⟩ (aC rfl (aC (bne_eq_false_iff_eq.2 e6) (aC (by decide) (aC ⟨(by decide), (by decide)⟩ (aC (by decide) (aC ⟨(by decide), (by decide)⟩ (aC rfl (aC (bne_eq_false_iff_eq.2 e7) (aC (by decide) (aC ⟨(by decide), (by decide)⟩ (aC (by decide) (aC ⟨(by decide), (by decide)⟩ (aC rfl (AllP_nil)))))))))))))))))))))))))))))))))))

def be3 (S T : List Int) : Bool :=
  (decide ((List.getD S (2 : Nat) 0) < (List.getD T (2 : Nat) 0)))

set_option maxHeartbeats 1000000 in
theorem be3_body0 (S T : List Int) (hv0 : List.length S = (8 : Nat)) (hv1 : List.length T = (8 : Nat)) (e7 : List.getD S 7 0 = List.getD T 7 0) (e6 : List.getD S 6 0 = List.getD T 6 0) (e5 : List.getD S 5 0 = List.getD T 5 0) (e4 : List.getD S 4 0 = List.getD T 4 0) (e3 : List.getD S 3 0 = List.getD T 3 0) (ne : List.getD S 2 0 ≠ List.getD T 2 0) (w : World) : Body Try.prog (tabOf tabNU) Try.f131 ⟨w, [], 0, noEnv⟩ (toA [.g [.ints .u32 (8 : Nat) S], .g [.ints .u32 (8 : Nat) T]]) [] (fun ys _ => ys = [.a (.b (be3 S T))]) :=
  Body.of_fin (Γ := gv22) (Λ := noLam) (Ψ := noPsi) (fuel := 9) (m := 24) (c := (Try.f131.body.getD .skip)) mix tabOkNU gv22_ok rfl (rs := [.tmp 4]) rfl rfl [true, false, true, false, true, false, true, false, true, false, true, true] []
    (vc := [((2 : Nat) < (8 : Nat)), (((0 : Int) ≤ (2 : Int)) ∧ ((2 : Int) < (8 : Int))), ((2 : Nat) < (8 : Nat)), (((0 : Int) ≤ (2 : Int)) ∧ ((2 : Int) < (8 : Int))), (((List.getD S (2 : Nat) 0) != (List.getD T (2 : Nat) 0)) = true), ((2 : Nat) < (8 : Nat)), (((0 : Int) ≤ (2 : Int)) ∧ ((2 : Int) < (8 : Int))), ((2 : Nat) < (8 : Nat)), (((0 : Int) ≤ (2 : Int)) ∧ ((2 : Int) < (8 : Int))), (true = true), (((List.getD S (3 : Nat) 0) != (List.getD T (3 : Nat) 0)) = false), ((3 : Nat) < (8 : Nat)), (((0 : Int) ≤ (3 : Int)) ∧ ((3 : Int) < (8 : Int))), ((3 : Nat) < (8 : Nat)), (((0 : Int) ≤ (3 : Int)) ∧ ((3 : Int) < (8 : Int))), (true = true), (((List.getD S (4 : Nat) 0) != (List.getD T (4 : Nat) 0)) = false), ((4 : Nat) < (8 : Nat)), (((0 : Int) ≤ (4 : Int)) ∧ ((4 : Int) < (8 : Int))), ((4 : Nat) < (8 : Nat)), (((0 : Int) ≤ (4 : Int)) ∧ ((4 : Int) < (8 : Int))), (true = true), (((List.getD S (5 : Nat) 0) != (List.getD T (5 : Nat) 0)) = false), ((5 : Nat) < (8 : Nat)), (((0 : Int) ≤ (5 : Int)) ∧ ((5 : Int) < (8 : Int))), ((5 : Nat) < (8 : Nat)), (((0 : Int) ≤ (5 : Int)) ∧ ((5 : Int) < (8 : Int))), (true = true), (((List.getD S (6 : Nat) 0) != (List.getD T (6 : Nat) 0)) = false), ((6 : Nat) < (8 : Nat)), (((0 : Int) ≤ (6 : Int)) ∧ ((6 : Int) < (8 : Int))), ((6 : Nat) < (8 : Nat)), (((0 : Int) ≤ (6 : Int)) ∧ ((6 : Int) < (8 : Int))), (true = true), (((List.getD S (7 : Nat) 0) != (List.getD T (7 : Nat) 0)) = false), ((7 : Nat) < (8 : Nat)), (((0 : Int) ≤ (7 : Int)) ∧ ((7 : Int) < (8 : Int))), ((7 : Nat) < (8 : Nat)), (((0 : Int) ≤ (7 : Int)) ∧ ((7 : Int) < (8 : Int))), (true = true)]) (by kernel_rfl)
    (aC (by decide) (aC ⟨(by decide), (by decide)⟩ (aC (by decide) (aC ⟨(by decide), (by decide)⟩ (aC (bne_iff_ne.2 ne) (aC (by decide) (aC ⟨(by decide), (by decide)⟩ (aC (by decide) (aC ⟨(by decide), (by decide)⟩ (aC rfl (aC (bne_eq_false_iff_eq.2 e3) (aC (by decide) (aC ⟨(by decide), (by decide)⟩ (aC (by decide) (aC ⟨(by decide), (by decide)⟩ (aC rfl (aC (bne_eq_false_iff_eq.2 e4) (aC (by decide) (aC ⟨(by decide), (by decide)⟩ (aC (by decide) (aC ⟨(by decide), (by decide)⟩ (aC rfl (aC (bne_eq_false_iff_eq.2 e5) (aC (by decide) (aC ⟨(by decide), (by decide)⟩ (aC (by decide) (aC ⟨(by decide), (by decide)⟩ (aC rfl (aC (bne_eq_false_iff_eq.2 e6) (aC (by decide) (aC ⟨(by decide), (by decide)⟩ (aC (by decide) (aC ⟨(by decide), (by decide)⟩ (aC rfl (aC (bne_eq_false_iff_eq.2 e7) (aC (by decide) (aC ⟨(by decide), (by decide)⟩ (aC (by decide) (aC ⟨(by decide), (by decide)⟩ (aC rfl (AllP_nil)))))))))))))))))))))))))))))))))))))))))

def be2 (S T : List Int) : Bool :=
  (decide ((List.getD S (1 : Nat) 0) < (List.getD T (1 : Nat) 0)))

set_option maxHeartbeats 1000000 in
theorem be2_body0 (S T : List Int) (hv0 : List.length S = (8 : Nat)) (hv1 : List.length T = (8 : Nat)) (e7 : List.getD S 7 0 = List.getD T 7 0) (e6 : List.getD S 6 0 = List.getD T 6 0) (e5 : List.getD S 5 0 = List.getD T 5 0) (e4 : List.getD S 4 0 = List.getD T 4 0) (e3 : List.getD S 3 0 = List.getD T 3 0) (e2 : List.getD S 2 0 = List.getD T 2 0) (ne : List.getD S 1 0 ≠ List.getD T 1 0) (w : World) : Body Try.prog (tabOf tabNU) Try.f131 ⟨w, [], 0, noEnv⟩ (toA [.g [.ints .u32 (8 : Nat) S], .g [.ints .u32 (8 : Nat) T]]) [] (fun ys _ => ys = [.a (.b (be2 S T))]) :=
  Body.of_fin (Γ := gv22) (Λ := noLam) (Ψ := noPsi) (fuel := 9) (m := 24) (c := (Try.f131.body.getD .skip)) mix tabOkNU gv22_ok rfl (rs := [.tmp 4]) rfl rfl [true, false, true, false, true, false, true, false, true, false, true, false, true, true] []
    (vc := [((1 : Nat) < (8 : Nat)), (((0 : Int) ≤ (1 : Int)) ∧ ((1 : Int) < (8 : Int))), ((1 : Nat) < (8 : Nat)), (((0 : Int) ≤ (1 : Int)) ∧ ((1 : Int) < (8 : Int))), (((List.getD S (1 : Nat) 0) != (List.getD T (1 : Nat) 0)) = true), ((1 : Nat) < (8 : Nat)), (((0 : Int) ≤ (1 : Int)) ∧ ((1 : Int) < (8 : Int))), ((1 : Nat) < (8 : Nat)), (((0 : Int) ≤ (1 : Int)) ∧ ((1 : Int) < (8 : Int))), (true = true), (((List.getD S (2 : Nat) 0) != (List.getD T (2 : Nat) 0)) = false), ((2 : Nat) < (8 : Nat)), (((0 : Int) ≤ (2 : Int)) ∧ ((2 : Int) < (8 : Int))), ((2 : Nat) < (8 : Nat)), (((0 : Int) ≤ (2 : Int)) ∧ ((2 : Int) < (8 : Int))), (true = true), (((List.getD S (3 : Nat) 0) != (List.getD T (3 : Nat) 0)) = false), ((3 : Nat) < (8 : Nat)), (((0 : Int) ≤ (3 : Int)) ∧ ((3 : Int) < (8 : Int))), ((3 : Nat) < (8 : Nat)), (((0 : Int) ≤ (3 : Int)) ∧ ((3 : Int) < (8 : Int))), (true = true), (((List.getD S (4 : Nat) 0) != (List.getD T (4 : Nat) 0)) = false), ((4 : Nat) < (8 : Nat)), (((0 : Int) ≤ (4 : Int)) ∧ ((4 : Int) < (8 : Int))), ((4 : Nat) < (8 : Nat)), (((0 : Int) ≤ (4 : Int)) ∧ ((4 : Int) < (8 : Int))), (true = true), (((List.getD S (5 : Nat) 0) != (List.getD T (5 : Nat) 0)) = false), ((5 : Nat) < (8 : Nat)), (((0 : Int) ≤ (5 : Int)) ∧ ((5 : Int) < (8 : Int))), ((5 : Nat) < (8 : Nat)), (((0 : Int) ≤ (5 : Int)) ∧ ((5 : Int) < (8 : Int))), (true = true), (((List.getD S (6 : Nat) 0) != (List.getD T (6 : Nat) 0)) = false), ((6 : Nat) < (8 : Nat)), (((0 : Int) ≤ (6 : Int)) ∧ ((6 : Int) < (8 : Int))), ((6 : Nat) < (8 : Nat)), (((0 : Int) ≤ (6 : Int)) ∧ ((6 : Int) < (8 : Int))), (true = true), (((List.getD S (7 : Nat) 0) != (List.getD T (7 : Nat) 0)) = false), ((7 : Nat) < (8 : Nat)), (((0 : Int) ≤ (7 : Int)) ∧ ((7 : Int) < (8 : Int))), ((7 : Nat) < (8 : Nat)), (((0 : Int) ≤ (7 : Int)) ∧ ((7 : Int) < (8 : Int))), (true = true)]) (by kernel_rfl)
    (aC (by decide) (aC ⟨(by decide), (by decide)⟩ (aC (by decide) (aC ⟨(by decide), (by decide)⟩ (aC (bne_iff_ne.2 ne) (aC (by decide) (aC ⟨(by decide), (by decide)⟩ (aC (by decide) (aC ⟨(by decide), (by decide)⟩ (aC rfl (aC (bne_eq_false_iff_eq.2 e2) (aC (by decide) (aC ⟨(by decide), (by decide)⟩ (aC (by decide) (aC ⟨(by decide), (by decide)⟩ (aC rfl (aC (bne_eq_false_iff_eq.2 e3) (aC (by decide) (aC ⟨(by decide), (by decide)⟩ (aC (by decide) (aC ⟨(by decide), (by decide)⟩ (aC rfl (aC (bne_eq_false_iff_eq.2 e4) (aC (by decide) (aC ⟨(by decide), (by decide)⟩ (aC (by decide) (aC ⟨(by decide), (by decide)⟩ (aC rfl (aC (bne_eq_false_iff_eq.2 e5) (aC (by decide) (aC ⟨(by decide), (by decide)⟩ (aC (by decide) (aC ⟨(by decide), (by decide)⟩ (aC rfl (aC (bne_eq_false_iff_eq.2 e6) (aC (by decide) (aC ⟨(by decide), (by decide)⟩ (aC (by decide) (aC ⟨(by decide), (by decide)⟩ (aC rfl (aC (bne_eq_false_iff_eq.2 e7) (aC (by decide) (aC ⟨(by decide), (by decide)⟩ (aC (by decide) (aC ⟨(by decide), (by decide)⟩ (aC rfl (AllP_nil)))))))))))))))))))))))))))))))))))))))))))))))

def be1 (S T : List Int) : Bool :=
  (decide ((List.getD S (0 : Nat) 0) < (List.getD T (0 : Nat) 0)))

set_option maxHeartbeats 1000000 in
theorem be1_body0 (S T : List Int) (hv0 : List.length S = (8 : Nat)) (hv1 : List.length T = (8 : Nat)) (e7 : List.getD S 7 0 = List.getD T 7 0) (e6 : List.getD S 6 0 = List.getD T 6 0) (e5 : List.getD S 5 0 = List.getD T 5 0) (e4 : List.getD S 4 0 = List.getD T 4 0) (e3 : List.getD S 3 0 = List.getD T 3 0) (e2 : List.getD S 2 0 = List.getD T 2 0) (e1 : List.getD S 1 0 = List.getD T 1 0) (ne : List.getD S 0 0 ≠ List.getD T 0 0) (w : World) : Body Try.prog (tabOf tabNU) Try.f131 ⟨w, [], 0, noEnv⟩ (toA [.g [.ints .u32 (8 : Nat) S], .g [.ints .u32 (8 : Nat) T]]) [] (fun ys _ => ys = [.a (.b (be1 S T))]) :=
  Body.of_fin (Γ := gv22) (Λ := noLam) (Ψ := noPsi) (fuel := 9) (m := 24) (c := (Try.f131.body.getD .skip)) mix tabOkNU gv22_ok rfl (rs := [.tmp 4]) rfl rfl [true, false, true, false, true, false, true, false, true, false, true, false, true, false, true, true] []
    (vc := [((0 : Nat) < (8 : Nat)), (((0 : Int) ≤ (0 : Int)) ∧ ((0 : Int) < (8 : Int))), ((0 : Nat) < (8 : Nat)), (((0 : Int) ≤ (0 : Int)) ∧ ((0 : Int) < (8 : Int))), (((List.getD S (0 : Nat) 0) != (List.getD T (0 : Nat) 0)) = true), ((0 : Nat) < (8 : Nat)), (((0 : Int) ≤ (0 : Int)) ∧ ((0 : Int) < (8 : Int))), ((0 : Nat) < (8 : Nat)), (((0 : Int) ≤ (0 : Int)) ∧ ((0 : Int) < (8 : Int))), (true = true), (((List.getD S (1 : Nat) 0) != (List.getD T (1 : Nat) 0)) = false), ((1 : Nat) < (8 : Nat)), (((0 : Int) ≤ (1 : Int)) ∧ ((1 : Int) < (8 : Int))), ((1 : Nat) < (8 : Nat)), (((0 : Int) ≤ (1 : Int)) ∧ ((1 : Int) < (8 : Int))), (true = true), (((List.getD S (2 : Nat) 0) != (List.getD T (2 : Nat) 0)) = false), ((2 : Nat) < (8 : Nat)), (((0 : Int) ≤ (2 : Int)) ∧ ((2 : Int) < (8 : Int))), ((2 : Nat) < (8 : Nat)), (((0 : Int) ≤ (2 : Int)) ∧ ((2 : Int) < (8 : Int))), (true = true), (((List.getD S (3 : Nat) 0) != (List.getD T (3 : Nat) 0)) = false), ((3 : Nat) < (8 : Nat)), (((0 : Int) ≤ (3 : Int)) ∧ ((3 : Int) < (8 : Int))), ((3 : Nat) < (8 : Nat)), (((0 : Int) ≤ (3 : Int)) ∧ ((3 : Int) < (8 : Int))), (true = true), (((List.getD S (4 : Nat) 0) != (List.getD T (4 : Nat) 0)) = false), ((4 : Nat) < (8 : Nat)), (((0 : Int) ≤ (4 : Int)) ∧ ((4 : Int) < (8 : Int))), ((4 : Nat) < (8 : Nat)), (((0 : Int) ≤ (4 : Int)) ∧ ((4 : Int) < (8 : Int))), (true = true), (((List.getD S (5 : Nat) 0) != (List.getD T (5 : Nat) 0)) = false), ((5 : Nat) < (8 : Nat)), (((0 : Int) ≤ (5 : Int)) ∧ ((5 : Int) < (8 : Int))), ((5 : Nat) < (8 : Nat)), (((0 : Int) ≤ (5 : Int)) ∧ ((5 : Int) < (8 : Int))), (true = true), (((List.getD S (6 : Nat) 0) != (List.getD T (6 : Nat) 0)) = false), ((6 : Nat) < (8 : Nat)), (((0 : Int) ≤ (6 : Int)) ∧ ((6 : Int) < (8 : Int))), ((6 : Nat) < (8 : Nat)), (((0 : Int) ≤ (6 : Int)) ∧ ((6 : Int) < (8 : Int))), (true = true), (((List.getD S (7 : Nat) 0) != (List.getD T (7 : Nat) 0)) = false), ((7 : Nat) < (8 : Nat)), (((0 : Int) ≤ (7 : Int)) ∧ ((7 : Int) < (8 : Int))), ((7 : Nat) < (8 : Nat)), (((0 : Int) ≤ (7 : Int)) ∧ ((7 : Int) < (8 : Int))), (true = true)]) (by kernel_rfl)
    (aC (by decide) (aC ⟨(by decide), (by decide)⟩ (aC (by decide) (aC ⟨(by decide), (by decide)⟩ (aC (bne_iff_ne.2 ne) (aC (by decide) (aC ⟨(by decide), (by decide)⟩ (aC (by decide) (aC ⟨(by decide), (by decide)⟩ (aC rfl (aC (bne_eq_false_iff_eq.2 e1) (aC (by decide) (aC ⟨(by decide), (by decide)⟩ (aC (by decide) (aC ⟨(by decide), (by decide)⟩ (aC rfl (aC (bne_eq_false_iff_eq.2 e2) (aC (by decide) (aC ⟨(by decide), (by decide)⟩ (aC (by decide) (aC ⟨(by decide), (by decide)⟩ (aC rfl (aC (bne_eq_false_iff_eq.2 e3) (aC (by decide) (aC ⟨(by decide), (by decide)⟩ (aC (by decide) (aC ⟨(by decide), (by decide)⟩ (aC rfl (aC (bne_eq_false_iff_eq.2 e4) (aC (by decide) (aC ⟨(by decide), (by decide)⟩ (aC (by decide) (aC ⟨(by decide), (by decide)⟩ (aC rfl (aC (bne_eq_false_iff_eq.2 e5) (aC (by decide) (aC ⟨(by decide), (by decide)⟩ (aC (by decide) (aC ⟨(by decide), (by decide)⟩ (aC rfl (aC (bne_eq_false_iff_eq.2 e6) (aC (by decide) (aC ⟨(by decide), (by decide)⟩ (aC (by decide) (aC ⟨(by decide), (by decide)⟩ (aC rfl (aC (bne_eq_false_iff_eq.2 e7) (aC (by decide) (aC ⟨(by decide), (by decide)⟩ (aC (by decide) (aC ⟨(by decide), (by decide)⟩ (aC rfl (AllP_nil)))))))))))))))))))))))))))))))))))))))))))))))))))))

set_option maxHeartbeats 1000000 in
theorem be0_body0 (S T : List Int) (hv0 : List.length S = (8 : Nat)) (hv1 : List.length T = (8 : Nat)) (e7 : List.getD S 7 0 = List.getD T 7 0) (e6 : List.getD S 6 0 = List.getD T 6 0) (e5 : List.getD S 5 0 = List.getD T 5 0) (e4 : List.getD S 4 0 = List.getD T 4 0) (e3 : List.getD S 3 0 = List.getD T 3 0) (e2 : List.getD S 2 0 = List.getD T 2 0) (e1 : List.getD S 1 0 = List.getD T 1 0) (e0 : List.getD S 0 0 = List.getD T 0 0) (w : World) : Body Try.prog (tabOf tabNU) Try.f131 ⟨w, [], 0, noEnv⟩ (toA [.g [.ints .u32 (8 : Nat) S], .g [.ints .u32 (8 : Nat) T]]) [] (fun ys _ => ys = [.a (.b false)]) :=
  Body.of_fin (Γ := gv22) (Λ := noLam) (Ψ := noPsi) (fuel := 9) (m := 24) (c := (Try.f131.body.getD .skip)) mix tabOkNU gv22_ok rfl (rs := [.tmp 4]) rfl rfl [true, false, true, false, true, false, true, false, true, false, true, false, true, false, true, false, false] []
    (vc := [(false = false), (((List.getD S (0 : Nat) 0) != (List.getD T (0 : Nat) 0)) = false), ((0 : Nat) < (8 : Nat)), (((0 : Int) ≤ (0 : Int)) ∧ ((0 : Int) < (8 : Int))), ((0 : Nat) < (8 : Nat)), (((0 : Int) ≤ (0 : Int)) ∧ ((0 : Int) < (8 : Int))), (true = true), (((List.getD S (1 : Nat) 0) != (List.getD T (1 : Nat) 0)) = false), ((1 : Nat) < (8 : Nat)), (((0 : Int) ≤ (1 : Int)) ∧ ((1 : Int) < (8 : Int))), ((1 : Nat) < (8 : Nat)), (((0 : Int) ≤ (1 : Int)) ∧ ((1 : Int) < (8 : Int))), (true = true), (((List.getD S (2 : Nat) 0) != (List.getD T (2 : Nat) 0)) = false), ((2 : Nat) < (8 : Nat)), (((0 : Int) ≤ (2 : Int)) ∧ ((2 : Int) < (8 : Int))), ((2 : Nat) < (8 : Nat)), (((0 : Int) ≤ (2 : Int)) ∧ ((2 : Int) < (8 : Int))), (true = true), (((List.getD S (3 : Nat) 0) != (List.getD T (3 : Nat) 0)) = false), ((3 : Nat) < (8 : Nat)), (((0 : Int) ≤ (3 : Int)) ∧ ((3 : Int) < (8 : Int))), ((3 : Nat) < (8 : Nat)), (((0 : Int) ≤ (3 : Int)) ∧ ((3 : Int) < (8 : Int))), (true = true), (((List.getD S (4 : Nat) 0) != (List.getD T (4 : Nat) 0)) = false), ((4 : Nat) < (8 : Nat)), (((0 : Int) ≤ (4 : Int)) ∧ ((4 : Int) < (8 : Int))), ((4 : Nat) < (8 : Nat)), (((0 : Int) ≤ (4 : Int)) ∧ ((4 : Int) < (8 : Int))), (true = true), (((List.getD S (5 : Nat) 0) != (List.getD T (5 : Nat) 0)) = false), ((5 : Nat) < (8 : Nat)), (((0 : Int) ≤ (5 : Int)) ∧ ((5 : Int) < (8 : Int))), ((5 : Nat) < (8 : Nat)), (((0 : Int) ≤ (5 : Int)) ∧ ((5 : Int) < (8 : Int))), (true = true), (((List.getD S (6 : Nat) 0) != (List.getD T (6 : Nat) 0)) = false), ((6 : Nat) < (8 : Nat)), (((0 : Int) ≤ (6 : Int)) ∧ ((6 : Int) < (8 : Int))), ((6 : Nat) < (8 : Nat)), (((0 : Int) ≤ (6 : Int)) ∧ ((6 : Int) < (8 : Int))), (true = true), (((List.getD S (7 : Nat) 0) != (List.getD T (7 : Nat) 0)) = false), ((7 : Nat) < (8 : Nat)), (((0 : Int) ≤ (7 : Int)) ∧ ((7 : Int) < (8 : Int))), ((7 : Nat) < (8 : Nat)), (((0 : Int) ≤ (7 : Int)) ∧ ((7 : Int) < (8 : Int))), (true = true)]) (by kernel_rfl)
    (aC rfl (aC (bne_eq_false_iff_eq.2 e0) (aC (by decide) (aC ⟨(by decide), (by decide)⟩ (aC (by decide) (aC ⟨(by decide), (by decide)⟩ (aC rfl (aC (bne_eq_false_iff_eq.2 e1) (aC (by decide) (aC ⟨(by decide), (by decide)⟩ (aC (by decide) (aC ⟨(by decide), (by decide)⟩ (aC rfl (aC (bne_eq_false_iff_eq.2 e2) (aC (by decide) (aC ⟨(by decide), (by decide)⟩ (aC (by decide) (aC ⟨(by decide), (by decide)⟩ (aC rfl (aC (bne_eq_false_iff_eq.2 e3) (aC (by decide) (aC ⟨(by decide), (by decide)⟩ (aC (by decide) (aC ⟨(by decide), (by decide)⟩ (aC rfl (aC (bne_eq_false_iff_eq.2 e4) (aC (by decide) (aC ⟨(by decide), (by decide)⟩ (aC (by decide) (aC ⟨(by decide), (by decide)⟩ (aC rfl (aC (bne_eq_false_iff_eq.2 e5) (aC (by decide) (aC ⟨(by decide), (by decide)⟩ (aC (by decide) (aC ⟨(by decide), (by decide)⟩ (aC rfl (aC (bne_eq_false_iff_eq.2 e6) (aC (by decide) (aC ⟨(by decide), (by decide)⟩ (aC (by decide) (aC ⟨(by decide), (by decide)⟩ (aC rfl (aC (bne_eq_false_iff_eq.2 e7) (aC (by decide) (aC ⟨(by decide), (by decide)⟩ (aC (by decide) (aC ⟨(by decide), (by decide)⟩ (aC rfl (AllP_nil))))))))))))))))))))))))))))))))))))))))))))))))))

def bkR (S : List Int) : List Int :=
  ([(IntKind.u8.wrap (shr .u32 (List.getD S (0 : Nat) 0) (0 : Int))), (IntKind.u8.wrap (shr .u32 (List.getD S (0 : Nat) 0) (8 : Int))), (IntKind.u8.wrap (shr .u32 (List.getD S (0 : Nat) 0) (16 : Int))), (IntKind.u8.wrap (shr .u32 (List.getD S (0 : Nat) 0) (24 : Int))), (IntKind.u8.wrap (shr .u32 (List.getD S (1 : Nat) 0) (0 : Int))), (IntKind.u8.wrap (shr .u32 (List.getD S (1 : Nat) 0) (8 : Int))), (IntKind.u8.wrap (shr .u32 (List.getD S (1 : Nat) 0) (16 : Int))), (IntKind.u8.wrap (shr .u32 (List.getD S (1 : Nat) 0) (24 : Int))), (IntKind.u8.wrap (shr .u32 (List.getD S (2 : Nat) 0) (0 : Int))), (IntKind.u8.wrap (shr .u32 (List.getD S (2 : Nat) 0) (8 : Int))), (IntKind.u8.wrap (shr .u32 (List.getD S (2 : Nat) 0) (16 : Int))), (IntKind.u8.wrap (shr .u32 (List.getD S (2 : Nat) 0) (24 : Int))), (IntKind.u8.wrap (shr .u32 (List.getD S (3 : Nat) 0) (0 : Int))), (IntKind.u8.wrap (shr .u32 (List.getD S (3 : Nat) 0) (8 : Int))), (IntKind.u8.wrap (shr .u32 (List.getD S (3 : Nat) 0) (16 : Int))), (IntKind.u8.wrap (shr .u32 (List.getD S (3 : Nat) 0) (24 : Int))), (IntKind.u8.wrap (shr .u32 (List.getD S (4 : Nat) 0) (0 : Int))), (IntKind.u8.wrap (shr .u32 (List.getD S (4 : Nat) 0) (8 : Int))), (IntKind.u8.wrap (shr .u32 (List.getD S (4 : Nat) 0) (16 : Int))), (IntKind.u8.wrap (shr .u32 (List.getD S (4 : Nat) 0) (24 : Int))), (IntKind.u8.wrap (shr .u32 (List.getD S (5 : Nat) 0) (0 : Int))), (IntKind.u8.wrap (shr .u32 (List.getD S (5 : Nat) 0) (8 : Int))), (IntKind.u8.wrap (shr .u32 (List.getD S (5 : Nat) 0) (16 : Int))), (IntKind.u8.wrap (shr .u32 (List.getD S (5 : Nat) 0) (24 : Int))), (IntKind.u8.wrap (shr .u32 (List.getD S (6 : Nat) 0) (0 : Int))), (IntKind.u8.wrap (shr .u32 (List.getD S (6 : Nat) 0) (8 : Int))), (IntKind.u8.wrap (shr .u32 (List.getD S (6 : Nat) 0) (16 : Int))), (IntKind.u8.wrap (shr .u32 (List.getD S (6 : Nat) 0) (24 : Int))), (IntKind.u8.wrap (shr .u32 (List.getD S (7 : Nat) 0) (0 : Int))), (IntKind.u8.wrap (shr .u32 (List.getD S (7 : Nat) 0) (8 : Int))), (IntKind.u8.wrap (shr .u32 (List.getD S (7 : Nat) 0) (16 : Int))), (IntKind.u8.wrap (shr .u32 (List.getD S (7 : Nat) 0) (24 : Int)))] : List Int)

set_option maxHeartbeats 1000000 in
theorem bkR_body0 (S : List Int) (hv0 : List.length S = (8 : Nat)) (w : World) : Body Try.prog (tabOf tabNU) Try.f114 ⟨w, [], 0, noEnv⟩ (toA [.g [.ints .u32 (8 : Nat) S]]) [] (fun ys _ => ys = [.g [.ints .u8 (32 : Nat) (bkR S)]]) :=
  Body.of_fin (Γ := gv22) (Λ := noLam) (Ψ := noPsi) (fuel := 33) (m := 22) (c := (Try.f114.body.getD .skip)) mix tabOkNU gv22_ok rfl (rs := [.cell 2 98]) rfl rfl [true, true, true, true, true, true, true, true, true, true, true, true, true, true, true, true, true, true, true, true, true, true, true, true, true, true, true, true, true, true, true, true, false] []
    (vc := [(false = false), ((31 : Nat) < (32 : Nat)), (((0 : Int) ≤ (31 : Int)) ∧ ((31 : Int) < (32 : Int))), ((0 : Int) ≤ (24 : Int)), ((4 : Int) ≠ 0), ((7 : Nat) < (8 : Nat)), (((0 : Int) ≤ (7 : Int)) ∧ ((7 : Int) < (8 : Int))), ((4 : Int) ≠ 0), (true = true), ((30 : Nat) < (32 : Nat)), (((0 : Int) ≤ (30 : Int)) ∧ ((30 : Int) < (32 : Int))), ((0 : Int) ≤ (16 : Int)), ((4 : Int) ≠ 0), ((7 : Nat) < (8 : Nat)), (((0 : Int) ≤ (7 : Int)) ∧ ((7 : Int) < (8 : Int))), ((4 : Int) ≠ 0), (true = true), ((29 : Nat) < (32 : Nat)), (((0 : Int) ≤ (29 : Int)) ∧ ((29 : Int) < (32 : Int))), ((0 : Int) ≤ (8 : Int)), ((4 : Int) ≠ 0), ((7 : Nat) < (8 : Nat)), (((0 : Int) ≤ (7 : Int)) ∧ ((7 : Int) < (8 : Int))), ((4 : Int) ≠ 0), (true = true), ((28 : Nat) < (32 : Nat)), (((0 : Int) ≤ (28 : Int)) ∧ ((28 : Int) < (32 : Int))), ((0 : Int) ≤ (0 : Int)), ((4 : Int) ≠ 0), ((7 : Nat) < (8 : Nat)), (((0 : Int) ≤ (7 : Int)) ∧ ((7 : Int) < (8 : Int))), ((4 : Int) ≠ 0), (true = true), ((27 : Nat) < (32 : Nat)), (((0 : Int) ≤ (27 : Int)) ∧ ((27 : Int) < (32 : Int))), ((0 : Int) ≤ (24 : Int)), ((4 : Int) ≠ 0), ((6 : Nat) < (8 : Nat)), (((0 : Int) ≤ (6 : Int)) ∧ ((6 : Int) < (8 : Int))), ((4 : Int) ≠ 0), (true = true), ((26 : Nat) < (32 : Nat)), (((0 : Int) ≤ (26 : Int)) ∧ ((26 : Int) < (32 : Int))), ((0 : Int) ≤ (16 : Int)), ((4 : Int) ≠ 0), ((6 : Nat) < (8 : Nat)), (((0 : Int) ≤ (6 : Int)) ∧ ((6 : Int) < (8 : Int))), ((4 : Int) ≠ 0), (true = true), ((25 : Nat) < (32 : Nat)), (((0 : Int) ≤ (25 : Int)) ∧ ((25 : Int) < (32 : Int))), ((0 : Int) ≤ (8 : Int)), ((4 : Int) ≠ 0), ((6 : Nat) < (8 : Nat)), (((0 : Int) ≤ (6 : Int)) ∧ ((6 : Int) < (8 : Int))), ((4 : Int) ≠ 0), (true = true), ((24 : Nat) < (32 : Nat)), (((0 : Int) ≤ (24 : Int)) ∧ ((24 : Int) < (32 : Int))), ((0 : Int) ≤ (0 : Int)), ((4 : Int) ≠ 0), ((6 : Nat) < (8 : Nat)), (((0 : Int) ≤ (6 : Int)) ∧ ((6 : Int) < (8 : Int))), ((4 : Int) ≠ 0), (true = true), ((23 : Nat) < (32 : Nat)), (((0 : Int) ≤ (23 : Int)) ∧ ((23 : Int) < (32 : Int))), ((0 : Int) ≤ (24 : Int)), ((4 : Int) ≠ 0), ((5 : Nat) < (8 : Nat)), (((0 : Int) ≤ (5 : Int)) ∧ ((5 : Int) < (8 : Int))), ((4 : Int) ≠ 0), (true = true), ((22 : Nat) < (32 : Nat)), (((0 : Int) ≤ (22 : Int)) ∧ ((22 : Int) < (32 : Int))), ((0 : Int) ≤ (16 : Int)), ((4 : Int) ≠ 0), ((5 : Nat) < (8 : Nat)), (((0 : Int) ≤ (5 : Int)) ∧ ((5 : Int) < (8 : Int))), ((4 : Int) ≠ 0), (true = true), ((21 : Nat) < (32 : Nat)), (((0 : Int) ≤ (21 : Int)) ∧ ((21 : Int) < (32 : Int))), ((0 : Int) ≤ (8 : Int)), ((4 : Int) ≠ 0), ((5 : Nat) < (8 : Nat)), (((0 : Int) ≤ (5 : Int)) ∧ ((5 : Int) < (8 : Int))), ((4 : Int) ≠ 0), (true = true), ((20 : Nat) < (32 : Nat)), (((0 : Int) ≤ (20 : Int)) ∧ ((20 : Int) < (32 : Int))), ((0 : Int) ≤ (0 : Int)), ((4 : Int) ≠ 0), ((5 : Nat) < (8 : Nat)), (((0 : Int) ≤ (5 : Int)) ∧ ((5 : Int) < (8 : Int))), ((4 : Int) ≠ 0), (true = true), ((19 : Nat) < (32 : Nat)), (((0 : Int) ≤ (19 : Int)) ∧ ((19 : Int) < (32 : Int))), ((0 : Int) ≤ (24 : Int)), ((4 : Int) ≠ 0), ((4 : Nat) < (8 : Nat)), (((0 : Int) ≤ (4 : Int)) ∧ ((4 : Int) < (8 : Int))), ((4 : Int) ≠ 0), (true = true), ((18 : Nat) < (32 : Nat)), (((0 : Int) ≤ (18 : Int)) ∧ ((18 : Int) < (32 : Int))), ((0 : Int) ≤ (16 : Int)), ((4 : Int) ≠ 0), ((4 : Nat) < (8 : Nat)), (((0 : Int) ≤ (4 : Int)) ∧ ((4 : Int) < (8 : Int))), ((4 : Int) ≠ 0), (true = true), ((17 : Nat) < (32 : Nat)), (((0 : Int) ≤ (17 : Int)) ∧ ((17 : Int) < (32 : Int))), ((0 : Int) ≤ (8 : Int)), ((4 : Int) ≠ 0), ((4 : Nat) < (8 : Nat)), (((0 : Int) ≤ (4 : Int)) ∧ ((4 : Int) < (8 : Int))), ((4 : Int) ≠ 0), (true = true), ((16 : Nat) < (32 : Nat)), (((0 : Int) ≤ (16 : Int)) ∧ ((16 : Int) < (32 : Int))), ((0 : Int) ≤ (0 : Int)), ((4 : Int) ≠ 0), ((4 : Nat) < (8 : Nat)), (((0 : Int) ≤ (4 : Int)) ∧ ((4 : Int) < (8 : Int))), ((4 : Int) ≠ 0), (true = true), ((15 : Nat) < (32 : Nat)), (((0 : Int) ≤ (15 : Int)) ∧ ((15 : Int) < (32 : Int))), ((0 : Int) ≤ (24 : Int)), ((4 : Int) ≠ 0), ((3 : Nat) < (8 : Nat)), (((0 : Int) ≤ (3 : Int)) ∧ ((3 : Int) < (8 : Int))), ((4 : Int) ≠ 0), (true = true), ((14 : Nat) < (32 : Nat)), (((0 : Int) ≤ (14 : Int)) ∧ ((14 : Int) < (32 : Int))), ((0 : Int) ≤ (16 : Int)), ((4 : Int) ≠ 0), ((3 : Nat) < (8 : Nat)), (((0 : Int) ≤ (3 : Int)) ∧ ((3 : Int) < (8 : Int))), ((4 : Int) ≠ 0), (true = true), ((13 : Nat) < (32 : Nat)), (((0 : Int) ≤ (13 : Int)) ∧ ((13 : Int) < (32 : Int))), ((0 : Int) ≤ (8 : Int)), ((4 : Int) ≠ 0), ((3 : Nat) < (8 : Nat)), (((0 : Int) ≤ (3 : Int)) ∧ ((3 : Int) < (8 : Int))), ((4 : Int) ≠ 0), (true = true), ((12 : Nat) < (32 : Nat)), (((0 : Int) ≤ (12 : Int)) ∧ ((12 : Int) < (32 : Int))), ((0 : Int) ≤ (0 : Int)), ((4 : Int) ≠ 0), ((3 : Nat) < (8 : Nat)), (((0 : Int) ≤ (3 : Int)) ∧ ((3 : Int) < (8 : Int))), ((4 : Int) ≠ 0), (true = true), ((11 : Nat) < (32 : Nat)), (((0 : Int) ≤ (11 : Int)) ∧ ((11 : Int) < (32 : Int))), ((0 : Int) ≤ (24 : Int)), ((4 : Int) ≠ 0), ((2 : Nat) < (8 : Nat)), (((0 : Int) ≤ (2 : Int)) ∧ ((2 : Int) < (8 : Int))), ((4 : Int) ≠ 0), (true = true), ((10 : Nat) < (32 : Nat)), (((0 : Int) ≤ (10 : Int)) ∧ ((10 : Int) < (32 : Int))), ((0 : Int) ≤ (16 : Int)), ((4 : Int) ≠ 0), ((2 : Nat) < (8 : Nat)), (((0 : Int) ≤ (2 : Int)) ∧ ((2 : Int) < (8 : Int))), ((4 : Int) ≠ 0), (true = true), ((9 : Nat) < (32 : Nat)), (((0 : Int) ≤ (9 : Int)) ∧ ((9 : Int) < (32 : Int))), ((0 : Int) ≤ (8 : Int)), ((4 : Int) ≠ 0), ((2 : Nat) < (8 : Nat)), (((0 : Int) ≤ (2 : Int)) ∧ ((2 : Int) < (8 : Int))), ((4 : Int) ≠ 0), (true = true), ((8 : Nat) < (32 : Nat)), (((0 : Int) ≤ (8 : Int)) ∧ ((8 : Int) < (32 : Int))), ((0 : Int) ≤ (0 : Int)), ((4 : Int) ≠ 0), ((2 : Nat) < (8 : Nat)), (((0 : Int) ≤ (2 : Int)) ∧ ((2 : Int) < (8 : Int))), ((4 : Int) ≠ 0), (true = true), ((7 : Nat) < (32 : Nat)), (((0 : Int) ≤ (7 : Int)) ∧ ((7 : Int) < (32 : Int))), ((0 : Int) ≤ (24 : Int)), ((4 : Int) ≠ 0), ((1 : Nat) < (8 : Nat)), (((0 : Int) ≤ (1 : Int)) ∧ ((1 : Int) < (8 : Int))), ((4 : Int) ≠ 0), (true = true), ((6 : Nat) < (32 : Nat)), (((0 : Int) ≤ (6 : Int)) ∧ ((6 : Int) < (32 : Int))), ((0 : Int) ≤ (16 : Int)), ((4 : Int) ≠ 0), ((1 : Nat) < (8 : Nat)), (((0 : Int) ≤ (1 : Int)) ∧ ((1 : Int) < (8 : Int))), ((4 : Int) ≠ 0), (true = true), ((5 : Nat) < (32 : Nat)), (((0 : Int) ≤ (5 : Int)) ∧ ((5 : Int) < (32 : Int))), ((0 : Int) ≤ (8 : Int)), ((4 : Int) ≠ 0), ((1 : Nat) < (8 : Nat)), (((0 : Int) ≤ (1 : Int)) ∧ ((1 : Int) < (8 : Int))), ((4 : Int) ≠ 0), (true = true), ((4 : Nat) < (32 : Nat)), (((0 : Int) ≤ (4 : Int)) ∧ ((4 : Int) < (32 : Int))), ((0 : Int) ≤ (0 : Int)), ((4 : Int) ≠ 0), ((1 : Nat) < (8 : Nat)), (((0 : Int) ≤ (1 : Int)) ∧ ((1 : Int) < (8 : Int))), ((4 : Int) ≠ 0), (true = true), ((3 : Nat) < (32 : Nat)), (((0 : Int) ≤ (3 : Int)) ∧ ((3 : Int) < (32 : Int))), ((0 : Int) ≤ (24 : Int)), ((4 : Int) ≠ 0), ((0 : Nat) < (8 : Nat)), (((0 : Int) ≤ (0 : Int)) ∧ ((0 : Int) < (8 : Int))), ((4 : Int) ≠ 0), (true = true), ((2 : Nat) < (32 : Nat)), (((0 : Int) ≤ (2 : Int)) ∧ ((2 : Int) < (32 : Int))), ((0 : Int) ≤ (16 : Int)), ((4 : Int) ≠ 0), ((0 : Nat) < (8 : Nat)), (((0 : Int) ≤ (0 : Int)) ∧ ((0 : Int) < (8 : Int))), ((4 : Int) ≠ 0), (true = true), ((1 : Nat) < (32 : Nat)), (((0 : Int) ≤ (1 : Int)) ∧ ((1 : Int) < (32 : Int))), ((0 : Int) ≤ (8 : Int)), ((4 : Int) ≠ 0), ((0 : Nat) < (8 : Nat)), (((0 : Int) ≤ (0 : Int)) ∧ ((0 : Int) < (8 : Int))), ((4 : Int) ≠ 0), (true = true), ((0 : Nat) < (32 : Nat)), (((0 : Int) ≤ (0 : Int)) ∧ ((0 : Int) < (32 : Int))), ((0 : Int) ≤ (0 : Int)), ((4 : Int) ≠ 0), ((0 : Nat) < (8 : Nat)), (((0 : Int) ≤ (0 : Int)) ∧ ((0 : Int) < (8 : Int))), ((4 : Int) ≠ 0), (true = true)]) (by kernel_rfl)
    (aC rfl (aC (by decide) (aC ⟨(by decide), (by decide)⟩ (aC (by decide) (aC (by decide) (aC (by decide) (aC ⟨(by decide), (by decide)⟩ (aC (by decide) (aC rfl (aC (by decide) (aC ⟨(by decide), (by decide)⟩ (aC (by decide) (aC (by decide) (aC (by decide) (aC ⟨(by decide), (by decide)⟩ (aC (by decide) (aC rfl (aC (by decide) (aC ⟨(by decide), (by decide)⟩ (aC (by decide) (aC (by decide) (aC (by decide) (aC ⟨(by decide), (by decide)⟩ (aC (by decide) (aC rfl (aC (by decide) (aC ⟨(by decide), (by decide)⟩ (aC (by decide) (aC (by decide) (aC (by decide) (aC ⟨(by decide), (by decide)⟩ (aC (by decide) (aC rfl (aC (by decide) (aC ⟨(by decide), (by decide)⟩ (aC (by decide) (aC (by decide) (aC (by decide) (aC ⟨(by decide), (by decide)⟩ (aC (by decide) (aC rfl (aC (by decide) (aC ⟨(by decide), (by decide)⟩ (aC (by decide) (aC (by decide) (aC (by decide) (aC ⟨(by decide), (by decide)⟩ (aC (by decide) (aC rfl (aC (by decide) (aC ⟨(by decide), (by decide)⟩ (aC (by decide) (aC (by decide) (aC (by decide) (aC ⟨(by decide), (by decide)⟩ (aC (by decide) (aC rfl (aC (by decide) (aC ⟨(by decide), (by decide)⟩ (aC (by decide) (aC (by decide) (aC (by decide) (aC ⟨(by decide), (by decide)⟩ (aC (by decide) (aC rfl (aC (by decide) (aC ⟨(by decide), (by decide)⟩ (aC (by decide) (aC (by decide) (aC (by decide) (aC ⟨(by decide), (by decide)⟩ (aC (by decide) (aC rfl (aC (by decide) (aC ⟨(by decide), (by decide)⟩ (aC (by decide) (aC (by decide) (aC (by decide) (aC ⟨(by decide), (by decide)⟩ (aC (by decide) (aC rfl (aC (by decide) (aC ⟨(by decide), (by decide)⟩ (aC (by decide) (aC (by decide) (aC (by decide) (aC ⟨(by decide), (by decide)⟩ (aC (by decide) (aC rfl (aC (by decide) (aC ⟨(by decide), (by decide)⟩ (aC (by decide) (aC (by decide) (aC (by decide) (aC ⟨(by decide), (by decide)⟩ (aC (by decide) (aC rfl (aC (by decide) (aC ⟨(by decide), (by decide)⟩ (aC (by decide) (aC (by decide) (aC (by decide) (aC ⟨(by decide), (by decide)⟩ (aC (by decide) (aC rfl (aC (by decide) (aC ⟨(by decide), (by decide)⟩ (aC (by decide) (aC (by decide) (aC (by decide) (aC ⟨(by decide), (by decide)⟩ (aC (by decide) (aC rfl (aC (by decide) (aC ⟨(by decide), (by decide)⟩ (aC (by decide) (aC (by decide) (aC (by decide) (aC ⟨(by decide), (by decide)⟩ (aC (by decide) (aC rfl (aC (by decide) (aC ⟨(by decide), (by decide)⟩ (aC (by decide) (aC (by decide) (aC (by decide) (aC ⟨(by decide), (by decide)⟩ (aC (by decide) (aC rfl (aC (by decide) (aC ⟨(by decide), (by decide)⟩ (aC (by decide) (aC (by decide) (aC (by decide) (aC ⟨(by decide), (by decide)⟩ (aC (by decide) (aC rfl (aC (by decide) (aC ⟨(by decide), (by decide)⟩ (aC (by decide) (aC (by decide) (aC (by decide) (aC ⟨(by decide), (by decide)⟩ (aC (by decide) (aC rfl (aC (by decide) (aC ⟨(by decide), (by decide)⟩ (aC (by decide) (aC (by decide) (aC (by decide) (aC ⟨(by decide), (by decide)⟩ (aC (by decide) (aC rfl (aC (by decide) (aC ⟨(by decide), (by decide)⟩ (aC (by decide) (aC (by decide) (aC (by decide) (aC ⟨(by decide), (by decide)⟩ (aC (by decide) (aC rfl (aC (by decide) (aC ⟨(by decide), (by decide)⟩ (aC (by decide) (aC (by decide) (aC (by decide) (aC ⟨(by decide), (by decide)⟩ (aC (by decide) (aC rfl (aC (by decide) (aC ⟨(by decide), (by decide)⟩ (aC (by decide) (aC (by decide) (aC (by decide) (aC ⟨(by decide), (by decide)⟩ (aC (by decide) (aC rfl (aC (by decide) (aC ⟨(by decide), (by decide)⟩ (aC (by decide) (aC (by decide) (aC (by decide) (aC ⟨(by decide), (by decide)⟩ (aC (by decide) (aC rfl (aC (by decide) (aC ⟨(by decide), (by decide)⟩ (aC (by decide) (aC (by decide) (aC (by decide) (aC ⟨(by decide), (by decide)⟩ (aC (by decide) (aC rfl (aC (by decide) (aC ⟨(by decide), (by decide)⟩ (aC (by decide) (aC (by decide) (aC (by decide) (aC ⟨(by decide), (by decide)⟩ (aC (by decide) (aC rfl (aC (by decide) (aC ⟨(by decide), (by decide)⟩ (aC (by decide) (aC (by decide) (aC (by decide) (aC ⟨(by decide), (by decide)⟩ (aC (by decide) (aC rfl (aC (by decide) (aC ⟨(by decide), (by decide)⟩ (aC (by decide) (aC (by decide) (aC (by decide) (aC ⟨(by decide), (by decide)⟩ (aC (by decide) (aC rfl (aC (by decide) (aC ⟨(by decide), (by decide)⟩ (aC (by decide) (aC (by decide) (aC (by decide) (aC ⟨(by decide), (by decide)⟩ (aC (by decide) (aC rfl (aC (by decide) (aC ⟨(by decide), (by decide)⟩ (aC (by decide) (aC (by decide) (aC (by decide) (aC ⟨(by decide), (by decide)⟩ (aC (by decide) (aC rfl (aC (by decide) (aC ⟨(by decide), (by decide)⟩ (aC (by decide) (aC (by decide) (aC (by decide) (aC ⟨(by decide), (by decide)⟩ (aC (by decide) (aC rfl (aC (by decide) (aC ⟨(by decide), (by decide)⟩ (aC (by decide) (aC (by decide) (aC (by decide) (aC ⟨(by decide), (by decide)⟩ (aC (by decide) (aC rfl (aC (by decide) (aC ⟨(by decide), (by decide)⟩ (aC (by decide) (aC (by decide) (aC (by decide) (aC ⟨(by decide), (by decide)⟩ (aC (by decide) (aC rfl (AllP_nil))))))))))))))))))))))))))))))))))))))))))))))))))))))))))))))))))))))))))))))))))))))))))))))))))))))))))))))))))))))))))))))))))))))))))))))))))))))))))))))))))))))))))))))))))))))))))))))))))))))))))))))))))))))))))))))))))))))))))))))))))))))))))))))))))

end Go.Proofs.Ytlmdhjojinkdbaa.X.V

