/- Texts of this session, put together (part 5), less what nothing uses. -/
import Derived.Test.YtodiojpakfjehaaZtwo4
import Derived.KernelRfl
import Derived.WalkKit
import Derived.ProofKit
import Derived.OpenShut
import Derived.JoinedCond
import Derived.Carry
import Derived.Test.YtodiojpakfjehaaRows
/- What the functions of the package answer, as points of the curve. -/
namespace Go.Proofs.Ytodiojpakfjehaa.X
open Go Go.Proofs
set_option linter.unusedVariables false
set_option linter.unusedSimpArgs false
set_option maxRecDepth 100000

instance eDec : DecidableEq E := fun a b => if h : a.1 = b.1 then isTrue (Ep.ext h) else isFalse fun e => h (congrArg Subtype.val e)
def z32 : List Int := [0, 0, 0, 0, 0, 0, 0, 0, 0, 0, 0, 0, 0, 0, 0, 0, 0, 0, 0, 0, 0, 0, 0, 0, 0, 0, 0, 0, 0, 0, 0, 0]
theorem op_enc (p : E) : ptOpen_1 (encE p) = true ∧ LA (ptOpen (encE p)) p := (open_ok (encE_byt p) (encE_len p)).2 p (dec_enc p)
theorem op1 (p : E) : ptOpen_1 (encE p) = true := (op_enc p).1
theorem op2 (p : E) : LP (ptOpen (encE p)) p := (op_enc p).2.lp
theorem encE_inj {p q : E} (h : encE p = encE q) : p = q := by
  have := dec_enc p
  rw [h, dec_enc] at this
  exact (Option.some.inj this).symm
theorem add_enc (p q : E) : apAdd (encE p) (encE q) = encE (ad p q) := by
  refine (cond_t (op1 p)).trans ((cond_t (op1 q)).trans ?_)
  exact form_ok (lp_add (op2 p) (op2 q))
theorem addc_enc (p q : E) : apAdd_1 (encE p) (encE q) = 0 := (cond_t (op1 p)).trans (cond_t (op1 q))
theorem mul_enc {K : List Int} (hK : Byt K) (l : K.length = 32) (p : E) : oneMul K (encE p) = encE (mu (BV K).toNat p) := (cond_t (op1 p)).trans (form_ok (lp_mul (op2 p) hK l))
theorem mulc_enc (p : E) : oneMul_1 (encE p) = 0 := cond_t (op1 p)
theorem chk_enc (p : E) : apCheck (encE p) = 0 := cond_t (op1 p)
theorem chk_none {s : List Int} (h : Byt s) (l : s.length = 32) (hd : decE s = none) : apCheck s = 41 := cond_f ((open_ok h l).1 hd)
theorem id_enc : apId = encE E0 := form_ok lp_id
theorem base_enc : apBase = encE eB := form_ok lp_base
theorem mulB_enc {K : List Int} (hK : Byt K) (l : K.length = 32) : apMulB K = encE (mu (BV K).toNat eB) := form_ok (lp_mul lp_base hK l)
section ring
variable {K : Type} [Lean.Grind.CommRing K]
end ring
theorem isid_ok {l : List Int} {p : E} (h : LP l p) : ptIsId l = decide (p = E0) := by
  obtain ⟨⟨_, x, y, z, _⟩, q⟩ := h
  have k := qr_zero q
  have s1 := same_ok x zero5.1
  have s2 := same_ok y z
  rw [zero5.2] at s1
  unfold ptIsId ptIsId_w0
  rw [s1, s2]
  by_cases h1 : fv (sub l 0 5) = 0
  · rw [decide_eq_true h1]
    show decide _ = _
    refine decide_eq_decide.2 ⟨fun h2 => k.2 ⟨h1, h2⟩, fun h2 => (k.1 h2).2⟩
  · rw [decide_eq_false h1]
    exact (decide_eq_false fun h2 => h1 (k.1 h2).1).symm
theorem ordL_BV : (BV [237, 211, 245, 92, 26, 99, 18, 88, 214, 156, 247, 162, 222, 249, 222, 20, 0, 0, 0, 0, 0, 0, 0, 0, 0, 0, 0, 0, 0, 0, 0, 16]).toNat = LN := by decide +kernel
theorem ordL_byt : Byt [237, 211, 245, 92, 26, 99, 18, 88, 214, 156, 247, 162, 222, 249, 222, 20, 0, 0, 0, 0, 0, 0, 0, 0, 0, 0, 0, 0, 0, 0, 0, 16] := byt_small (by decide)
theorem mulL_ok {l : List Int} {p : E} (h : LP l p) : ptIsId (ptMul l [237, 211, 245, 92, 26, 99, 18, 88, 214, 156, 247, 162, 222, 249, 222, 20, 0, 0, 0, 0, 0, 0, 0, 0, 0, 0, 0, 0, 0, 0, 0, 16]) = decide (mu LN p = E0) := by
  have k := isid_ok (lp_mul h ordL_byt rfl)
  rw [ordL_BV] at k
  exact k
theorem prime_enc (p : E) : apPrime (encE p) = decide (mu LN p = E0) ∧ apPrime_1 (encE p) = 0 :=
  ⟨(cond_t (op1 p)).trans (mulL_ok (op2 p)), cond_t (op1 p)⟩
theorem small_enc (p : E) : apSmall (encE p) = decide (mu 8 p = E0) ∧ apSmall_1 (encE p) = 0 := by
  refine ⟨(cond_t (op1 p)).trans ?_, cond_t (op1 p)⟩
  have k := isid_ok (lp_dbl (lp_dbl (lp_dbl (op2 p))))
  have e : ad (ad (ad p p) (ad p p)) (ad (ad p p) (ad p p)) = mu 8 p := by
    have h1 : ad p p = mu 2 p := by
      have := mu_add 1 1 p
      rw [mu_one] at this
      exact this.symm
    rw [h1, ← mu_add, ← mu_add]
  rw [e] at k
  exact k
end Go.Proofs.Ytodiojpakfjehaa.X

/- Printed by a tool of this session. -/
namespace Go.Proofs.Ytodiojpakfjehaa.X
open Go Go.Proofs
set_option linter.unusedVariables false
set_option linter.unusedSimpArgs false
set_option maxRecDepth 100000
theorem teVN_5 : TEOk Try.prog 5 ⟨.int .u8, 1, 1, [.i .u8 (0 : Int)], false⟩ :=
  TEOk.of Try.underlying5 (i := Try.t5) (by kernel_rfl) rfl rfl rfl (by kernel_rfl) (fun h => by cases h) (by kernel_rfl)
theorem teVN_23 : TEOk Try.prog 23 ⟨.array 32 5, 32, 32, [.ints .u8 (32 : Nat) ([0, 0, 0, 0, 0, 0, 0, 0, 0, 0, 0, 0, 0, 0, 0, 0, 0, 0, 0, 0, 0, 0, 0, 0, 0, 0, 0, 0, 0, 0, 0, 0] : List Int)], true⟩ :=
  TEOk.of Try.underlying23 (i := Try.t23) (by kernel_rfl) rfl rfl rfl (by kernel_rfl) (fun _ => Try.eqGuardType23) (by kernel_rfl)
theorem teVN_32 : TEOk Try.prog 32 ⟨.slice 5, 1, 24, [.raw (.slice none 0 0)], false⟩ :=
  TEOk.of Try.underlying32 (i := Try.t32) (by kernel_rfl) rfl rfl rfl (by kernel_rfl) (fun h => by cases h) (by kernel_rfl)
theorem teVN_37 : TEOk Try.prog 37 ⟨.array 32 5, 32, 32, [.ints .u8 (32 : Nat) ([0, 0, 0, 0, 0, 0, 0, 0, 0, 0, 0, 0, 0, 0, 0, 0, 0, 0, 0, 0, 0, 0, 0, 0, 0, 0, 0, 0, 0, 0, 0, 0] : List Int)], true⟩ :=
  TEOk.of Try.underlying37 (i := Try.t37) (by kernel_rfl) rfl rfl rfl (by kernel_rfl) (fun _ => Try.eqGuardType37) (by kernel_rfl)
theorem teVN_45 : TEOk Try.prog 45 ⟨.slice 23, 1, 24, [.raw (.slice none 0 0)], false⟩ :=
  TEOk.of Try.underlying45 (i := Try.t45) (by kernel_rfl) rfl rfl rfl (by kernel_rfl) (fun h => by cases h) (by kernel_rfl)
theorem teVN_94 : TEOk Try.prog 94 ⟨Try.t93.desc, 20, 160, [.ints .u64 (20 : Nat) ([0, 0, 0, 0, 0, 0, 0, 0, 0, 0, 0, 0, 0, 0, 0, 0, 0, 0, 0, 0] : List Int)], false⟩ :=
  TEOk.of Try.underlying94 (i := Try.t94) (by kernel_rfl) rfl rfl rfl (by kernel_rfl) (fun h => by cases h) (by kernel_rfl)
noncomputable def tabVN : List (Nat × TE) := [(5, ⟨.int .u8, 1, 1, [.i .u8 (0 : Int)], false⟩), (23, ⟨.array 32 5, 32, 32, [.ints .u8 (32 : Nat) ([0, 0, 0, 0, 0, 0, 0, 0, 0, 0, 0, 0, 0, 0, 0, 0, 0, 0, 0, 0, 0, 0, 0, 0, 0, 0, 0, 0, 0, 0, 0, 0] : List Int)], true⟩), (32, ⟨.slice 5, 1, 24, [.raw (.slice none 0 0)], false⟩), (37, ⟨.array 32 5, 32, 32, [.ints .u8 (32 : Nat) ([0, 0, 0, 0, 0, 0, 0, 0, 0, 0, 0, 0, 0, 0, 0, 0, 0, 0, 0, 0, 0, 0, 0, 0, 0, 0, 0, 0, 0, 0, 0, 0] : List Int)], true⟩), (45, ⟨.slice 23, 1, 24, [.raw (.slice none 0 0)], false⟩), (94, ⟨Try.t93.desc, 20, 160, [.ints .u64 (20 : Nat) ([0, 0, 0, 0, 0, 0, 0, 0, 0, 0, 0, 0, 0, 0, 0, 0, 0, 0, 0, 0] : List Int)], false⟩)]
theorem tabOkVN : TabOk Try.prog (tabOf tabVN) := (tabOf_cons teVN_5 (tabOf_cons teVN_23 (tabOf_cons teVN_32 (tabOf_cons teVN_37 (tabOf_cons teVN_45 (tabOf_cons teVN_94 tabOf_nil))))))

def apParts_w0 (s : List Int) : List Int :=
  (ptForm (ptOpen s))

set_option maxHeartbeats 1000000 in
theorem apParts_w0_body0 (s : List Int) (hv0 : List.length s = (32 : Nat)) (hb0 : (ptOpen_1 s) = true) (hb1 : (ptIsId (ptMul (ptOpen s) ([237, 211, 245, 92, 26, 99, 18, 88, 214, 156, 247, 162, 222, 249, 222, 20, 0, 0, 0, 0, 0, 0, 0, 0, 0, 0, 0, 0, 0, 0, 0, 16] : List Int))) = true) (w : World) : Body Try.prog (tabOf tabVN) Try.f37 ⟨w, [], 0, noEnv⟩ (toA [.g [.ints .u8 (32 : Nat) s]]) [] (fun ys _ => ys = [.g [.ints .u8 (32 : Nat) (apParts_w0 s)], .a (.i .i64 (0 : Int)), .a (.i .i64 (0 : Int))]) :=
  Body.of_fin (Γ := gam54) (Λ := noLam) (Ψ := noPsi) (fuel := 9) (m := 34) (c := (Try.f37.body.getD .skip)) mix tabOkVN gam54_ok rfl (rs := [.cell 2 23, .tmp 3, .tmp 4]) rfl rfl [false, true, true] []
    (vc := [((ptIsId (ptMul (ptOpen s) ([237, 211, 245, 92, 26, 99, 18, 88, 214, 156, 247, 162, 222, 249, 222, 20, 0, 0, 0, 0, 0, 0, 0, 0, 0, 0, 0, 0, 0, 0, 0, 16] : List Int))) = true), (true = true), ((!(ptOpen_1 s)) = false)]) (by kernel_rfl)
    (AllP_cons hb1 (AllP_cons rfl (AllP_cons (by rw [hb0]; rfl) (AllP_nil))))

def apParts_w1 (s : List Int) : List Int :=
  (ptForm (ptAdd (ptOpen s) (ptNeg (ptT))))

set_option maxHeartbeats 1000000 in
theorem apParts_w1_body0 (s : List Int) (hv0 : List.length s = (32 : Nat)) (hb0 : (ptOpen_1 s) = true) (hb1 : (ptIsId (ptMul (ptOpen s) ([237, 211, 245, 92, 26, 99, 18, 88, 214, 156, 247, 162, 222, 249, 222, 20, 0, 0, 0, 0, 0, 0, 0, 0, 0, 0, 0, 0, 0, 0, 0, 16] : List Int))) = false) (hb2 : (ptIsId (ptMul (ptAdd (ptOpen s) (ptNeg (ptT))) ([237, 211, 245, 92, 26, 99, 18, 88, 214, 156, 247, 162, 222, 249, 222, 20, 0, 0, 0, 0, 0, 0, 0, 0, 0, 0, 0, 0, 0, 0, 0, 16] : List Int))) = true) (w : World) : Body Try.prog (tabOf tabVN) Try.f37 ⟨w, [], 0, noEnv⟩ (toA [.g [.ints .u8 (32 : Nat) s]]) [] (fun ys _ => ys = [.g [.ints .u8 (32 : Nat) (apParts_w1 s)], .a (.i .i64 (1 : Int)), .a (.i .i64 (0 : Int))]) :=
  Body.of_fin (Γ := gam54) (Λ := noLam) (Ψ := noPsi) (fuel := 9) (m := 34) (c := (Try.f37.body.getD .skip)) mix tabOkVN gam54_ok rfl (rs := [.cell 2 23, .tmp 3, .tmp 4]) rfl rfl [false, true, false, true, true] []
    (vc := [((ptIsId (ptMul (ptAdd (ptOpen s) (ptNeg (ptT))) ([237, 211, 245, 92, 26, 99, 18, 88, 214, 156, 247, 162, 222, 249, 222, 20, 0, 0, 0, 0, 0, 0, 0, 0, 0, 0, 0, 0, 0, 0, 0, 16] : List Int))) = true), (true = true), ((ptIsId (ptMul (ptOpen s) ([237, 211, 245, 92, 26, 99, 18, 88, 214, 156, 247, 162, 222, 249, 222, 20, 0, 0, 0, 0, 0, 0, 0, 0, 0, 0, 0, 0, 0, 0, 0, 16] : List Int))) = false), (true = true), ((!(ptOpen_1 s)) = false)]) (by kernel_rfl)
    (AllP_cons hb2 (AllP_cons rfl (AllP_cons hb1 (AllP_cons rfl (AllP_cons (by rw [hb0]; rfl) (AllP_nil))))))

def apParts_w2 (s : List Int) : List Int :=
  (ptForm (ptAdd (ptAdd (ptOpen s) (ptNeg (ptT))) (ptNeg (ptT))))

set_option maxHeartbeats 1000000 in
theorem apParts_w2_body0 (s : List Int) (hv0 : List.length s = (32 : Nat)) (hb0 : (ptOpen_1 s) = true) (hb1 : (ptIsId (ptMul (ptOpen s) ([237, 211, 245, 92, 26, 99, 18, 88, 214, 156, 247, 162, 222, 249, 222, 20, 0, 0, 0, 0, 0, 0, 0, 0, 0, 0, 0, 0, 0, 0, 0, 16] : List Int))) = false) (hb2 : (ptIsId (ptMul (ptAdd (ptOpen s) (ptNeg (ptT))) ([237, 211, 245, 92, 26, 99, 18, 88, 214, 156, 247, 162, 222, 249, 222, 20, 0, 0, 0, 0, 0, 0, 0, 0, 0, 0, 0, 0, 0, 0, 0, 16] : List Int))) = false) (hb3 : (ptIsId (ptMul (ptAdd (ptAdd (ptOpen s) (ptNeg (ptT))) (ptNeg (ptT))) ([237, 211, 245, 92, 26, 99, 18, 88, 214, 156, 247, 162, 222, 249, 222, 20, 0, 0, 0, 0, 0, 0, 0, 0, 0, 0, 0, 0, 0, 0, 0, 16] : List Int))) = true) (w : World) : Body Try.prog (tabOf tabVN) Try.f37 ⟨w, [], 0, noEnv⟩ (toA [.g [.ints .u8 (32 : Nat) s]]) [] (fun ys _ => ys = [.g [.ints .u8 (32 : Nat) (apParts_w2 s)], .a (.i .i64 (2 : Int)), .a (.i .i64 (0 : Int))]) :=
  Body.of_fin (Γ := gam54) (Λ := noLam) (Ψ := noPsi) (fuel := 9) (m := 34) (c := (Try.f37.body.getD .skip)) mix tabOkVN gam54_ok rfl (rs := [.cell 2 23, .tmp 3, .tmp 4]) rfl rfl [false, true, false, true, false, true, true] []
    (vc := [((ptIsId (ptMul (ptAdd (ptAdd (ptOpen s) (ptNeg (ptT))) (ptNeg (ptT))) ([237, 211, 245, 92, 26, 99, 18, 88, 214, 156, 247, 162, 222, 249, 222, 20, 0, 0, 0, 0, 0, 0, 0, 0, 0, 0, 0, 0, 0, 0, 0, 16] : List Int))) = true), (true = true), ((ptIsId (ptMul (ptAdd (ptOpen s) (ptNeg (ptT))) ([237, 211, 245, 92, 26, 99, 18, 88, 214, 156, 247, 162, 222, 249, 222, 20, 0, 0, 0, 0, 0, 0, 0, 0, 0, 0, 0, 0, 0, 0, 0, 16] : List Int))) = false), (true = true), ((ptIsId (ptMul (ptOpen s) ([237, 211, 245, 92, 26, 99, 18, 88, 214, 156, 247, 162, 222, 249, 222, 20, 0, 0, 0, 0, 0, 0, 0, 0, 0, 0, 0, 0, 0, 0, 0, 16] : List Int))) = false), (true = true), ((!(ptOpen_1 s)) = false)]) (by kernel_rfl)
    (AllP_cons hb3 (AllP_cons rfl (AllP_cons hb2 (AllP_cons rfl (AllP_cons hb1 (AllP_cons rfl (AllP_cons (by rw [hb0]; rfl) (AllP_nil))))))))

def apParts_w3 (s : List Int) : List Int :=
  (ptForm (ptAdd (ptAdd (ptAdd (ptOpen s) (ptNeg (ptT))) (ptNeg (ptT))) (ptNeg (ptT))))

set_option maxHeartbeats 1000000 in
theorem apParts_w3_body0 (s : List Int) (hv0 : List.length s = (32 : Nat)) (hb0 : (ptOpen_1 s) = true) (hb1 : (ptIsId (ptMul (ptOpen s) ([237, 211, 245, 92, 26, 99, 18, 88, 214, 156, 247, 162, 222, 249, 222, 20, 0, 0, 0, 0, 0, 0, 0, 0, 0, 0, 0, 0, 0, 0, 0, 16] : List Int))) = false) (hb2 : (ptIsId (ptMul (ptAdd (ptOpen s) (ptNeg (ptT))) ([237, 211, 245, 92, 26, 99, 18, 88, 214, 156, 247, 162, 222, 249, 222, 20, 0, 0, 0, 0, 0, 0, 0, 0, 0, 0, 0, 0, 0, 0, 0, 16] : List Int))) = false) (hb3 : (ptIsId (ptMul (ptAdd (ptAdd (ptOpen s) (ptNeg (ptT))) (ptNeg (ptT))) ([237, 211, 245, 92, 26, 99, 18, 88, 214, 156, 247, 162, 222, 249, 222, 20, 0, 0, 0, 0, 0, 0, 0, 0, 0, 0, 0, 0, 0, 0, 0, 16] : List Int))) = false) (hb4 : (ptIsId (ptMul (ptAdd (ptAdd (ptAdd (ptOpen s) (ptNeg (ptT))) (ptNeg (ptT))) (ptNeg (ptT))) ([237, 211, 245, 92, 26, 99, 18, 88, 214, 156, 247, 162, 222, 249, 222, 20, 0, 0, 0, 0, 0, 0, 0, 0, 0, 0, 0, 0, 0, 0, 0, 16] : List Int))) = true) (w : World) : Body Try.prog (tabOf tabVN) Try.f37 ⟨w, [], 0, noEnv⟩ (toA [.g [.ints .u8 (32 : Nat) s]]) [] (fun ys _ => ys = [.g [.ints .u8 (32 : Nat) (apParts_w3 s)], .a (.i .i64 (3 : Int)), .a (.i .i64 (0 : Int))]) :=
  Body.of_fin (Γ := gam54) (Λ := noLam) (Ψ := noPsi) (fuel := 9) (m := 34) (c := (Try.f37.body.getD .skip)) mix tabOkVN gam54_ok rfl (rs := [.cell 2 23, .tmp 3, .tmp 4]) rfl rfl [false, true, false, true, false, true, false, true, true] []
    (vc := [((ptIsId (ptMul (ptAdd (ptAdd (ptAdd (ptOpen s) (ptNeg (ptT))) (ptNeg (ptT))) (ptNeg (ptT))) ([237, 211, 245, 92, 26, 99, 18, 88, 214, 156, 247, 162, 222, 249, 222, 20, 0, 0, 0, 0, 0, 0, 0, 0, 0, 0, 0, 0, 0, 0, 0, 16] : List Int))) = true), (true = true), ((ptIsId (ptMul (ptAdd (ptAdd (ptOpen s) (ptNeg (ptT))) (ptNeg (ptT))) ([237, 211, 245, 92, 26, 99, 18, 88, 214, 156, 247, 162, 222, 249, 222, 20, 0, 0, 0, 0, 0, 0, 0, 0, 0, 0, 0, 0, 0, 0, 0, 16] : List Int))) = false), (true = true), ((ptIsId (ptMul (ptAdd (ptOpen s) (ptNeg (ptT))) ([237, 211, 245, 92, 26, 99, 18, 88, 214, 156, 247, 162, 222, 249, 222, 20, 0, 0, 0, 0, 0, 0, 0, 0, 0, 0, 0, 0, 0, 0, 0, 16] : List Int))) = false), (true = true), ((ptIsId (ptMul (ptOpen s) ([237, 211, 245, 92, 26, 99, 18, 88, 214, 156, 247, 162, 222, 249, 222, 20, 0, 0, 0, 0, 0, 0, 0, 0, 0, 0, 0, 0, 0, 0, 0, 16] : List Int))) = false), (true = true), ((!(ptOpen_1 s)) = false)]) (by kernel_rfl)
    (AllP_cons hb4 (AllP_cons rfl (AllP_cons hb3 (AllP_cons rfl (AllP_cons hb2 (AllP_cons rfl (AllP_cons hb1 (AllP_cons rfl (AllP_cons (by rw [hb0]; rfl) (AllP_nil))))))))))

def apParts_w4 (s : List Int) : List Int :=
  (ptForm (ptAdd (ptAdd (ptAdd (ptAdd (ptOpen s) (ptNeg (ptT))) (ptNeg (ptT))) (ptNeg (ptT))) (ptNeg (ptT))))

set_option maxHeartbeats 1000000 in
theorem apParts_w4_body0 (s : List Int) (hv0 : List.length s = (32 : Nat)) (hb0 : (ptOpen_1 s) = true) (hb1 : (ptIsId (ptMul (ptOpen s) ([237, 211, 245, 92, 26, 99, 18, 88, 214, 156, 247, 162, 222, 249, 222, 20, 0, 0, 0, 0, 0, 0, 0, 0, 0, 0, 0, 0, 0, 0, 0, 16] : List Int))) = false) (hb2 : (ptIsId (ptMul (ptAdd (ptOpen s) (ptNeg (ptT))) ([237, 211, 245, 92, 26, 99, 18, 88, 214, 156, 247, 162, 222, 249, 222, 20, 0, 0, 0, 0, 0, 0, 0, 0, 0, 0, 0, 0, 0, 0, 0, 16] : List Int))) = false) (hb3 : (ptIsId (ptMul (ptAdd (ptAdd (ptOpen s) (ptNeg (ptT))) (ptNeg (ptT))) ([237, 211, 245, 92, 26, 99, 18, 88, 214, 156, 247, 162, 222, 249, 222, 20, 0, 0, 0, 0, 0, 0, 0, 0, 0, 0, 0, 0, 0, 0, 0, 16] : List Int))) = false) (hb4 : (ptIsId (ptMul (ptAdd (ptAdd (ptAdd (ptOpen s) (ptNeg (ptT))) (ptNeg (ptT))) (ptNeg (ptT))) ([237, 211, 245, 92, 26, 99, 18, 88, 214, 156, 247, 162, 222, 249, 222, 20, 0, 0, 0, 0, 0, 0, 0, 0, 0, 0, 0, 0, 0, 0, 0, 16] : List Int))) = false) (hb5 : (ptIsId (ptMul (ptAdd (ptAdd (ptAdd (ptAdd (ptOpen s) (ptNeg (ptT))) (ptNeg (ptT))) (ptNeg (ptT))) (ptNeg (ptT))) ([237, 211, 245, 92, 26, 99, 18, 88, 214, 156, 247, 162, 222, 249, 222, 20, 0, 0, 0, 0, 0, 0, 0, 0, 0, 0, 0, 0, 0, 0, 0, 16] : List Int))) = true) (w : World) : Body Try.prog (tabOf tabVN) Try.f37 ⟨w, [], 0, noEnv⟩ (toA [.g [.ints .u8 (32 : Nat) s]]) [] (fun ys _ => ys = [.g [.ints .u8 (32 : Nat) (apParts_w4 s)], .a (.i .i64 (4 : Int)), .a (.i .i64 (0 : Int))]) :=
  Body.of_fin (Γ := gam54) (Λ := noLam) (Ψ := noPsi) (fuel := 9) (m := 34) (c := (Try.f37.body.getD .skip)) mix tabOkVN gam54_ok rfl (rs := [.cell 2 23, .tmp 3, .tmp 4]) rfl rfl [false, true, false, true, false, true, false, true, false, true, true] []
    (vc := [((ptIsId (ptMul (ptAdd (ptAdd (ptAdd (ptAdd (ptOpen s) (ptNeg (ptT))) (ptNeg (ptT))) (ptNeg (ptT))) (ptNeg (ptT))) ([237, 211, 245, 92, 26, 99, 18, 88, 214, 156, 247, 162, 222, 249, 222, 20, 0, 0, 0, 0, 0, 0, 0, 0, 0, 0, 0, 0, 0, 0, 0, 16] : List Int))) = true), (true = true), ((ptIsId (ptMul (ptAdd (ptAdd (ptAdd (ptOpen s) (ptNeg (ptT))) (ptNeg (ptT))) (ptNeg (ptT))) ([237, 211, 245, 92, 26, 99, 18, 88, 214, 156, 247, 162, 222, 249, 222, 20, 0, 0, 0, 0, 0, 0, 0, 0, 0, 0, 0, 0, 0, 0, 0, 16] : List Int))) = false), (true = true), ((ptIsId (ptMul (ptAdd (ptAdd (ptOpen s) (ptNeg (ptT))) (ptNeg (ptT))) ([237, 211, 245, 92, 26, 99, 18, 88, 214, 156, 247, 162, 222, 249, 222, 20, 0, 0, 0, 0, 0, 0, 0, 0, 0, 0, 0, 0, 0, 0, 0, 16] : List Int))) = false), (true = true), ((ptIsId (ptMul (ptAdd (ptOpen s) (ptNeg (ptT))) ([237, 211, 245, 92, 26, 99, 18, 88, 214, 156, 247, 162, 222, 249, 222, 20, 0, 0, 0, 0, 0, 0, 0, 0, 0, 0, 0, 0, 0, 0, 0, 16] : List Int))) = false), (true = true), ((ptIsId (ptMul (ptOpen s) ([237, 211, 245, 92, 26, 99, 18, 88, 214, 156, 247, 162, 222, 249, 222, 20, 0, 0, 0, 0, 0, 0, 0, 0, 0, 0, 0, 0, 0, 0, 0, 16] : List Int))) = false), (true = true), ((!(ptOpen_1 s)) = false)]) (by kernel_rfl)
    (AllP_cons hb5 (AllP_cons rfl (AllP_cons hb4 (AllP_cons rfl (AllP_cons hb3 (AllP_cons rfl (AllP_cons hb2 (AllP_cons rfl (AllP_cons hb1 (AllP_cons rfl (AllP_cons (by rw [hb0]; rfl) (AllP_nil))))))))))))

def apParts_w5 (s : List Int) : List Int :=
  (ptForm (ptAdd (ptAdd (ptAdd (ptAdd (ptAdd (ptOpen s) (ptNeg (ptT))) (ptNeg (ptT))) (ptNeg (ptT))) (ptNeg (ptT))) (ptNeg (ptT))))

set_option maxHeartbeats 1000000 in
theorem apParts_w5_body0 (s : List Int) (hv0 : List.length s = (32 : Nat)) (hb0 : (ptOpen_1 s) = true) (hb1 : (ptIsId (ptMul (ptOpen s) ([237, 211, 245, 92, 26, 99, 18, 88, 214, 156, 247, 162, 222, 249, 222, 20, 0, 0, 0, 0, 0, 0, 0, 0, 0, 0, 0, 0, 0, 0, 0, 16] : List Int))) = false) (hb2 : (ptIsId (ptMul (ptAdd (ptOpen s) (ptNeg (ptT))) ([237, 211, 245, 92, 26, 99, 18, 88, 214, 156, 247, 162, 222, 249, 222, 20, 0, 0, 0, 0, 0, 0, 0, 0, 0, 0, 0, 0, 0, 0, 0, 16] : List Int))) = false) (hb3 : (ptIsId (ptMul (ptAdd (ptAdd (ptOpen s) (ptNeg (ptT))) (ptNeg (ptT))) ([237, 211, 245, 92, 26, 99, 18, 88, 214, 156, 247, 162, 222, 249, 222, 20, 0, 0, 0, 0, 0, 0, 0, 0, 0, 0, 0, 0, 0, 0, 0, 16] : List Int))) = false) (hb4 : (ptIsId (ptMul (ptAdd (ptAdd (ptAdd (ptOpen s) (ptNeg (ptT))) (ptNeg (ptT))) (ptNeg (ptT))) ([237, 211, 245, 92, 26, 99, 18, 88, 214, 156, 247, 162, 222, 249, 222, 20, 0, 0, 0, 0, 0, 0, 0, 0, 0, 0, 0, 0, 0, 0, 0, 16] : List Int))) = false) (hb5 : (ptIsId (ptMul (ptAdd (ptAdd (ptAdd (ptAdd (ptOpen s) (ptNeg (ptT))) (ptNeg (ptT))) (ptNeg (ptT))) (ptNeg (ptT))) ([237, 211, 245, 92, 26, 99, 18, 88, 214, 156, 247, 162, 222, 249, 222, 20, 0, 0, 0, 0, 0, 0, 0, 0, 0, 0, 0, 0, 0, 0, 0, 16] : List Int))) = false) (hb6 : (ptIsId (ptMul (ptAdd (ptAdd (ptAdd (ptAdd (ptAdd (ptOpen s) (ptNeg (ptT))) (ptNeg (ptT))) (ptNeg (ptT))) (ptNeg (ptT))) (ptNeg (ptT))) ([237, 211, 245, 92, 26, 99, 18, 88, 214, 156, 247, 162, 222, 249, 222, 20, 0, 0, 0, 0, 0, 0, 0, 0, 0, 0, 0, 0, 0, 0, 0, 16] : List Int))) = true) (w : World) : Body Try.prog (tabOf tabVN) Try.f37 ⟨w, [], 0, noEnv⟩ (toA [.g [.ints .u8 (32 : Nat) s]]) [] (fun ys _ => ys = [.g [.ints .u8 (32 : Nat) (apParts_w5 s)], .a (.i .i64 (5 : Int)), .a (.i .i64 (0 : Int))]) :=
  Body.of_fin (Γ := gam54) (Λ := noLam) (Ψ := noPsi) (fuel := 9) (m := 34) (c := (Try.f37.body.getD .skip)) mix tabOkVN gam54_ok rfl (rs := [.cell 2 23, .tmp 3, .tmp 4]) rfl rfl [false, true, false, true, false, true, false, true, false, true, false, true, true] []
    (vc := [((ptIsId (ptMul (ptAdd (ptAdd (ptAdd (ptAdd (ptAdd (ptOpen s) (ptNeg (ptT))) (ptNeg (ptT))) (ptNeg (ptT))) (ptNeg (ptT))) (ptNeg (ptT))) ([237, 211, 245, 92, 26, 99, 18, 88, 214, 156, 247, 162, 222, 249, 222, 20, 0, 0, 0, 0, 0, 0, 0, 0, 0, 0, 0, 0, 0, 0, 0, 16] : List Int))) = true), (true = true), ((ptIsId (ptMul (ptAdd (ptAdd (ptAdd (ptAdd (ptOpen s) (ptNeg (ptT))) (ptNeg (ptT))) (ptNeg (ptT))) (ptNeg (ptT))) ([237, 211, 245, 92, 26, 99, 18, 88, 214, 156, 247, 162, 222, 249, 222, 20, 0, 0, 0, 0, 0, 0, 0, 0, 0, 0, 0, 0, 0, 0, 0, 16] : List Int))) = false), (true = true), ((ptIsId (ptMul (ptAdd (ptAdd (ptAdd (ptOpen s) (ptNeg (ptT))) (ptNeg (ptT))) (ptNeg (ptT))) ([237, 211, 245, 92, 26, 99, 18, 88, 214, 156, 247, 162, 222, 249, 222, 20, 0, 0, 0, 0, 0, 0, 0, 0, 0, 0, 0, 0, 0, 0, 0, 16] : List Int))) = false), (true = true), ((ptIsId (ptMul (ptAdd (ptAdd (ptOpen s) (ptNeg (ptT))) (ptNeg (ptT))) ([237, 211, 245, 92, 26, 99, 18, 88, 214, 156, 247, 162, 222, 249, 222, 20, 0, 0, 0, 0, 0, 0, 0, 0, 0, 0, 0, 0, 0, 0, 0, 16] : List Int))) = false), (true = true), ((ptIsId (ptMul (ptAdd (ptOpen s) (ptNeg (ptT))) ([237, 211, 245, 92, 26, 99, 18, 88, 214, 156, 247, 162, 222, 249, 222, 20, 0, 0, 0, 0, 0, 0, 0, 0, 0, 0, 0, 0, 0, 0, 0, 16] : List Int))) = false), (true = true), ((ptIsId (ptMul (ptOpen s) ([237, 211, 245, 92, 26, 99, 18, 88, 214, 156, 247, 162, 222, 249, 222, 20, 0, 0, 0, 0, 0, 0, 0, 0, 0, 0, 0, 0, 0, 0, 0, 16] : List Int))) = false), (true = true), ((!(ptOpen_1 s)) = false)]) (by kernel_rfl)
    (AllP_cons hb6 (AllP_cons rfl (AllP_cons hb5 (AllP_cons rfl (AllP_cons hb4 (AllP_cons rfl (AllP_cons hb3 (AllP_cons rfl (AllP_cons hb2 (AllP_cons rfl (AllP_cons hb1 (AllP_cons rfl (AllP_cons (by rw [hb0]; rfl) (AllP_nil))))))))))))))

def apParts_w6 (s : List Int) : List Int :=
  (ptForm (ptAdd (ptAdd (ptAdd (ptAdd (ptAdd (ptAdd (ptOpen s) (ptNeg (ptT))) (ptNeg (ptT))) (ptNeg (ptT))) (ptNeg (ptT))) (ptNeg (ptT))) (ptNeg (ptT))))

set_option maxHeartbeats 1000000 in
theorem apParts_w6_body0 (s : List Int) (hv0 : List.length s = (32 : Nat)) (hb0 : (ptOpen_1 s) = true) (hb1 : (ptIsId (ptMul (ptOpen s) ([237, 211, 245, 92, 26, 99, 18, 88, 214, 156, 247, 162, 222, 249, 222, 20, 0, 0, 0, 0, 0, 0, 0, 0, 0, 0, 0, 0, 0, 0, 0, 16] : List Int))) = false) (hb2 : (ptIsId (ptMul (ptAdd (ptOpen s) (ptNeg (ptT))) ([237, 211, 245, 92, 26, 99, 18, 88, 214, 156, 247, 162, 222, 249, 222, 20, 0, 0, 0, 0, 0, 0, 0, 0, 0, 0, 0, 0, 0, 0, 0, 16] : List Int))) = false) (hb3 : (ptIsId (ptMul (ptAdd (ptAdd (ptOpen s) (ptNeg (ptT))) (ptNeg (ptT))) ([237, 211, 245, 92, 26, 99, 18, 88, 214, 156, 247, 162, 222, 249, 222, 20, 0, 0, 0, 0, 0, 0, 0, 0, 0, 0, 0, 0, 0, 0, 0, 16] : List Int))) = false) (hb4 : (ptIsId (ptMul (ptAdd (ptAdd (ptAdd (ptOpen s) (ptNeg (ptT))) (ptNeg (ptT))) (ptNeg (ptT))) ([237, 211, 245, 92, 26, 99, 18, 88, 214, 156, 247, 162, 222, 249, 222, 20, 0, 0, 0, 0, 0, 0, 0, 0, 0, 0, 0, 0, 0, 0, 0, 16] : List Int))) = false) (hb5 : (ptIsId (ptMul (ptAdd (ptAdd (ptAdd (ptAdd (ptOpen s) (ptNeg (ptT))) (ptNeg (ptT))) (ptNeg (ptT))) (ptNeg (ptT))) ([237, 211, 245, 92, 26, 99, 18, 88, 214, 156, 247, 162, 222, 249, 222, 20, 0, 0, 0, 0, 0, 0, 0, 0, 0, 0, 0, 0, 0, 0, 0, 16] : List Int))) = false) (hb6 : (ptIsId (ptMul (ptAdd (ptAdd (ptAdd (ptAdd (ptAdd (ptOpen s) (ptNeg (ptT))) (ptNeg (ptT))) (ptNeg (ptT))) (ptNeg (ptT))) (ptNeg (ptT))) ([237, 211, 245, 92, 26, 99, 18, 88, 214, 156, 247, 162, 222, 249, 222, 20, 0, 0, 0, 0, 0, 0, 0, 0, 0, 0, 0, 0, 0, 0, 0, 16] : List Int))) = false) (hb7 : (ptIsId (ptMul (ptAdd (ptAdd (ptAdd (ptAdd (ptAdd (ptAdd (ptOpen s) (ptNeg (ptT))) (ptNeg (ptT))) (ptNeg (ptT))) (ptNeg (ptT))) (ptNeg (ptT))) (ptNeg (ptT))) ([237, 211, 245, 92, 26, 99, 18, 88, 214, 156, 247, 162, 222, 249, 222, 20, 0, 0, 0, 0, 0, 0, 0, 0, 0, 0, 0, 0, 0, 0, 0, 16] : List Int))) = true) (w : World) : Body Try.prog (tabOf tabVN) Try.f37 ⟨w, [], 0, noEnv⟩ (toA [.g [.ints .u8 (32 : Nat) s]]) [] (fun ys _ => ys = [.g [.ints .u8 (32 : Nat) (apParts_w6 s)], .a (.i .i64 (6 : Int)), .a (.i .i64 (0 : Int))]) :=
  Body.of_fin (Γ := gam54) (Λ := noLam) (Ψ := noPsi) (fuel := 9) (m := 34) (c := (Try.f37.body.getD .skip)) mix tabOkVN gam54_ok rfl (rs := [.cell 2 23, .tmp 3, .tmp 4]) rfl rfl [false, true, false, true, false, true, false, true, false, true, false, true, false, true, true] []
    (vc := [((ptIsId (ptMul (ptAdd (ptAdd (ptAdd (ptAdd (ptAdd (ptAdd (ptOpen s) (ptNeg (ptT))) (ptNeg (ptT))) (ptNeg (ptT))) (ptNeg (ptT))) (ptNeg (ptT))) (ptNeg (ptT))) ([237, 211, 245, 92, 26, 99, 18, 88, 214, 156, 247, 162, 222, 249, 222, 20, 0, 0, 0, 0, 0, 0, 0, 0, 0, 0, 0, 0, 0, 0, 0, 16] : List Int))) = true), (true = true), ((ptIsId (ptMul (ptAdd (ptAdd (ptAdd (ptAdd (ptAdd (ptOpen s) (ptNeg (ptT))) (ptNeg (ptT))) (ptNeg (ptT))) (ptNeg (ptT))) (ptNeg (ptT))) ([237, 211, 245, 92, 26, 99, 18, 88, 214, 156, 247, 162, 222, 249, 222, 20, 0, 0, 0, 0, 0, 0, 0, 0, 0, 0, 0, 0, 0, 0, 0, 16] : List Int))) = false), (true = true), ((ptIsId (ptMul (ptAdd (ptAdd (ptAdd (ptAdd (ptOpen s) (ptNeg (ptT))) (ptNeg (ptT))) (ptNeg (ptT))) (ptNeg (ptT))) ([237, 211, 245, 92, 26, 99, 18, 88, 214, 156, 247, 162, 222, 249, 222, 20, 0, 0, 0, 0, 0, 0, 0, 0, 0, 0, 0, 0, 0, 0, 0, 16] : List Int))) = false), (true = true), ((ptIsId (ptMul (ptAdd (ptAdd (ptAdd (ptOpen s) (ptNeg (ptT))) (ptNeg (ptT))) (ptNeg (ptT))) ([237, 211, 245, 92, 26, 99, 18, 88, 214, 156, 247, 162, 222, 249, 222, 20, 0, 0, 0, 0, 0, 0, 0, 0, 0, 0, 0, 0, 0, 0, 0, 16] : List Int))) = false), (true = true), ((ptIsId (ptMul (ptAdd (ptAdd (ptOpen s) (ptNeg (ptT))) (ptNeg (ptT))) ([237, 211, 245, 92, 26, 99, 18, 88, 214, 156, 247, 162, 222, 249, 222, 20, 0, 0, 0, 0, 0, 0, 0, 0, 0, 0, 0, 0, 0, 0, 0, 16] : List Int))) = false), (true = true), ((ptIsId (ptMul (ptAdd (ptOpen s) (ptNeg (ptT))) ([237, 211, 245, 92, 26, 99, 18, 88, 214, 156, 247, 162, 222, 249, 222, 20, 0, 0, 0, 0, 0, 0, 0, 0, 0, 0, 0, 0, 0, 0, 0, 16] : List Int))) = false), (true = true), ((ptIsId (ptMul (ptOpen s) ([237, 211, 245, 92, 26, 99, 18, 88, 214, 156, 247, 162, 222, 249, 222, 20, 0, 0, 0, 0, 0, 0, 0, 0, 0, 0, 0, 0, 0, 0, 0, 16] : List Int))) = false), (true = true), ((!(ptOpen_1 s)) = false)]) (by kernel_rfl)
    (AllP_cons hb7 (AllP_cons rfl (AllP_cons hb6 (AllP_cons rfl (AllP_cons hb5 (AllP_cons rfl (AllP_cons hb4 (AllP_cons rfl (AllP_cons hb3 (AllP_cons rfl (AllP_cons hb2 (AllP_cons rfl (AllP_cons hb1 (AllP_cons rfl (AllP_cons (by rw [hb0]; rfl) (AllP_nil))))))))))))))))

def apParts_w7 (s : List Int) : List Int :=
  (ptForm (ptAdd (ptAdd (ptAdd (ptAdd (ptAdd (ptAdd (ptAdd (ptOpen s) (ptNeg (ptT))) (ptNeg (ptT))) (ptNeg (ptT))) (ptNeg (ptT))) (ptNeg (ptT))) (ptNeg (ptT))) (ptNeg (ptT))))

set_option maxHeartbeats 1000000 in
theorem apParts_w7_body0 (s : List Int) (hv0 : List.length s = (32 : Nat)) (hb0 : (ptOpen_1 s) = true) (hb1 : (ptIsId (ptMul (ptOpen s) ([237, 211, 245, 92, 26, 99, 18, 88, 214, 156, 247, 162, 222, 249, 222, 20, 0, 0, 0, 0, 0, 0, 0, 0, 0, 0, 0, 0, 0, 0, 0, 16] : List Int))) = false) (hb2 : (ptIsId (ptMul (ptAdd (ptOpen s) (ptNeg (ptT))) ([237, 211, 245, 92, 26, 99, 18, 88, 214, 156, 247, 162, 222, 249, 222, 20, 0, 0, 0, 0, 0, 0, 0, 0, 0, 0, 0, 0, 0, 0, 0, 16] : List Int))) = false) (hb3 : (ptIsId (ptMul (ptAdd (ptAdd (ptOpen s) (ptNeg (ptT))) (ptNeg (ptT))) ([237, 211, 245, 92, 26, 99, 18, 88, 214, 156, 247, 162, 222, 249, 222, 20, 0, 0, 0, 0, 0, 0, 0, 0, 0, 0, 0, 0, 0, 0, 0, 16] : List Int))) = false) (hb4 : (ptIsId (ptMul (ptAdd (ptAdd (ptAdd (ptOpen s) (ptNeg (ptT))) (ptNeg (ptT))) (ptNeg (ptT))) ([237, 211, 245, 92, 26, 99, 18, 88, 214, 156, 247, 162, 222, 249, 222, 20, 0, 0, 0, 0, 0, 0, 0, 0, 0, 0, 0, 0, 0, 0, 0, 16] : List Int))) = false) (hb5 : (ptIsId (ptMul (ptAdd (ptAdd (ptAdd (ptAdd (ptOpen s) (ptNeg (ptT))) (ptNeg (ptT))) (ptNeg (ptT))) (ptNeg (ptT))) ([237, 211, 245, 92, 26, 99, 18, 88, 214, 156, 247, 162, 222, 249, 222, 20, 0, 0, 0, 0, 0, 0, 0, 0, 0, 0, 0, 0, 0, 0, 0, 16] : List Int))) = false) (hb6 : (ptIsId (ptMul (ptAdd (ptAdd (ptAdd (ptAdd (ptAdd (ptOpen s) (ptNeg (ptT))) (ptNeg (ptT))) (ptNeg (ptT))) (ptNeg (ptT))) (ptNeg (ptT))) ([237, 211, 245, 92, 26, 99, 18, 88, 214, 156, 247, 162, 222, 249, 222, 20, 0, 0, 0, 0, 0, 0, 0, 0, 0, 0, 0, 0, 0, 0, 0, 16] : List Int))) = false) (hb7 : (ptIsId (ptMul (ptAdd (ptAdd (ptAdd (ptAdd (ptAdd (ptAdd (ptOpen s) (ptNeg (ptT))) (ptNeg (ptT))) (ptNeg (ptT))) (ptNeg (ptT))) (ptNeg (ptT))) (ptNeg (ptT))) ([237, 211, 245, 92, 26, 99, 18, 88, 214, 156, 247, 162, 222, 249, 222, 20, 0, 0, 0, 0, 0, 0, 0, 0, 0, 0, 0, 0, 0, 0, 0, 16] : List Int))) = false) (hb8 : (ptIsId (ptMul (ptAdd (ptAdd (ptAdd (ptAdd (ptAdd (ptAdd (ptAdd (ptOpen s) (ptNeg (ptT))) (ptNeg (ptT))) (ptNeg (ptT))) (ptNeg (ptT))) (ptNeg (ptT))) (ptNeg (ptT))) (ptNeg (ptT))) ([237, 211, 245, 92, 26, 99, 18, 88, 214, 156, 247, 162, 222, 249, 222, 20, 0, 0, 0, 0, 0, 0, 0, 0, 0, 0, 0, 0, 0, 0, 0, 16] : List Int))) = true) (w : World) : Body Try.prog (tabOf tabVN) Try.f37 ⟨w, [], 0, noEnv⟩ (toA [.g [.ints .u8 (32 : Nat) s]]) [] (fun ys _ => ys = [.g [.ints .u8 (32 : Nat) (apParts_w7 s)], .a (.i .i64 (7 : Int)), .a (.i .i64 (0 : Int))]) :=
  Body.of_fin (Γ := gam54) (Λ := noLam) (Ψ := noPsi) (fuel := 9) (m := 34) (c := (Try.f37.body.getD .skip)) mix tabOkVN gam54_ok rfl (rs := [.cell 2 23, .tmp 3, .tmp 4]) rfl rfl [false, true, false, true, false, true, false, true, false, true, false, true, false, true, false, true, true] []
    (vc := [((ptIsId (ptMul (ptAdd (ptAdd (ptAdd (ptAdd (ptAdd (ptAdd (ptAdd (ptOpen s) (ptNeg (ptT))) (ptNeg (ptT))) (ptNeg (ptT))) (ptNeg (ptT))) (ptNeg (ptT))) (ptNeg (ptT))) (ptNeg (ptT))) ([237, 211, 245, 92, 26, 99, 18, 88, 214, 156, 247, 162, 222, 249, 222, 20, 0, 0, 0, 0, 0, 0, 0, 0, 0, 0, 0, 0, 0, 0, 0, 16] : List Int))) = true), (true = true), ((ptIsId (ptMul (ptAdd (ptAdd (ptAdd (ptAdd (ptAdd (ptAdd (ptOpen s) (ptNeg (ptT))) (ptNeg (ptT))) (ptNeg (ptT))) (ptNeg (ptT))) (ptNeg (ptT))) (ptNeg (ptT))) ([237, 211, 245, 92, 26, 99, 18, 88, 214, 156, 247, 162, 222, 249, 222, 20, 0, 0, 0, 0, 0, 0, 0, 0, 0, 0, 0, 0, 0, 0, 0, 16] : List Int))) = false), (true = true), ((ptIsId (ptMul (ptAdd (ptAdd (ptAdd (ptAdd (ptAdd (ptOpen s) (ptNeg (ptT))) (ptNeg (ptT))) (ptNeg (ptT))) (ptNeg (ptT))) (ptNeg (ptT))) ([237, 211, 245, 92, 26, 99, 18, 88, 214, 156, 247, 162, 222, 249, 222, 20, 0, 0, 0, 0, 0, 0, 0, 0, 0, 0, 0, 0, 0, 0, 0, 16] : List Int))) = false), (true = true), ((ptIsId (ptMul (ptAdd (ptAdd (ptAdd (ptAdd (ptOpen s) (ptNeg (ptT))) (ptNeg (ptT))) (ptNeg (ptT))) (ptNeg (ptT))) ([237, 211, 245, 92, 26, 99, 18, 88, 214, 156, 247, 162, 222, 249, 222, 20, 0, 0, 0, 0, 0, 0, 0, 0, 0, 0, 0, 0, 0, 0, 0, 16] : List Int))) = false), (true = true), ((ptIsId (ptMul (ptAdd (ptAdd (ptAdd (ptOpen s) (ptNeg (ptT))) (ptNeg (ptT))) (ptNeg (ptT))) ([237, 211, 245, 92, 26, 99, 18, 88, 214, 156, 247, 162, 222, 249, 222, 20, 0, 0, 0, 0, 0, 0, 0, 0, 0, 0, 0, 0, 0, 0, 0, 16] : List Int))) = false), (true = true), ((ptIsId (ptMul (ptAdd (ptAdd (ptOpen s) (ptNeg (ptT))) (ptNeg (ptT))) ([237, 211, 245, 92, 26, 99, 18, 88, 214, 156, 247, 162, 222, 249, 222, 20, 0, 0, 0, 0, 0, 0, 0, 0, 0, 0, 0, 0, 0, 0, 0, 16] : List Int))) = false), (true = true), ((ptIsId (ptMul (ptAdd (ptOpen s) (ptNeg (ptT))) ([237, 211, 245, 92, 26, 99, 18, 88, 214, 156, 247, 162, 222, 249, 222, 20, 0, 0, 0, 0, 0, 0, 0, 0, 0, 0, 0, 0, 0, 0, 0, 16] : List Int))) = false), (true = true), ((ptIsId (ptMul (ptOpen s) ([237, 211, 245, 92, 26, 99, 18, 88, 214, 156, 247, 162, 222, 249, 222, 20, 0, 0, 0, 0, 0, 0, 0, 0, 0, 0, 0, 0, 0, 0, 0, 16] : List Int))) = false), (true = true), ((!(ptOpen_1 s)) = false)]) (by kernel_rfl)
    (AllP_cons hb8 (AllP_cons rfl (AllP_cons hb7 (AllP_cons rfl (AllP_cons hb6 (AllP_cons rfl (AllP_cons hb5 (AllP_cons rfl (AllP_cons hb4 (AllP_cons rfl (AllP_cons hb3 (AllP_cons rfl (AllP_cons hb2 (AllP_cons rfl (AllP_cons hb1 (AllP_cons rfl (AllP_cons (by rw [hb0]; rfl) (AllP_nil))))))))))))))))))

set_option maxHeartbeats 1000000 in
theorem apParts_w8_body0 (s : List Int) (hv0 : List.length s = (32 : Nat)) (hb0 : (ptOpen_1 s) = true) (hb1 : (ptIsId (ptMul (ptOpen s) ([237, 211, 245, 92, 26, 99, 18, 88, 214, 156, 247, 162, 222, 249, 222, 20, 0, 0, 0, 0, 0, 0, 0, 0, 0, 0, 0, 0, 0, 0, 0, 16] : List Int))) = false) (hb2 : (ptIsId (ptMul (ptAdd (ptOpen s) (ptNeg (ptT))) ([237, 211, 245, 92, 26, 99, 18, 88, 214, 156, 247, 162, 222, 249, 222, 20, 0, 0, 0, 0, 0, 0, 0, 0, 0, 0, 0, 0, 0, 0, 0, 16] : List Int))) = false) (hb3 : (ptIsId (ptMul (ptAdd (ptAdd (ptOpen s) (ptNeg (ptT))) (ptNeg (ptT))) ([237, 211, 245, 92, 26, 99, 18, 88, 214, 156, 247, 162, 222, 249, 222, 20, 0, 0, 0, 0, 0, 0, 0, 0, 0, 0, 0, 0, 0, 0, 0, 16] : List Int))) = false) (hb4 : (ptIsId (ptMul (ptAdd (ptAdd (ptAdd (ptOpen s) (ptNeg (ptT))) (ptNeg (ptT))) (ptNeg (ptT))) ([237, 211, 245, 92, 26, 99, 18, 88, 214, 156, 247, 162, 222, 249, 222, 20, 0, 0, 0, 0, 0, 0, 0, 0, 0, 0, 0, 0, 0, 0, 0, 16] : List Int))) = false) (hb5 : (ptIsId (ptMul (ptAdd (ptAdd (ptAdd (ptAdd (ptOpen s) (ptNeg (ptT))) (ptNeg (ptT))) (ptNeg (ptT))) (ptNeg (ptT))) ([237, 211, 245, 92, 26, 99, 18, 88, 214, 156, 247, 162, 222, 249, 222, 20, 0, 0, 0, 0, 0, 0, 0, 0, 0, 0, 0, 0, 0, 0, 0, 16] : List Int))) = false) (hb6 : (ptIsId (ptMul (ptAdd (ptAdd (ptAdd (ptAdd (ptAdd (ptOpen s) (ptNeg (ptT))) (ptNeg (ptT))) (ptNeg (ptT))) (ptNeg (ptT))) (ptNeg (ptT))) ([237, 211, 245, 92, 26, 99, 18, 88, 214, 156, 247, 162, 222, 249, 222, 20, 0, 0, 0, 0, 0, 0, 0, 0, 0, 0, 0, 0, 0, 0, 0, 16] : List Int))) = false) (hb7 : (ptIsId (ptMul (ptAdd (ptAdd (ptAdd (ptAdd (ptAdd (ptAdd (ptOpen s) (ptNeg (ptT))) (ptNeg (ptT))) (ptNeg (ptT))) (ptNeg (ptT))) (ptNeg (ptT))) (ptNeg (ptT))) ([237, 211, 245, 92, 26, 99, 18, 88, 214, 156, 247, 162, 222, 249, 222, 20, 0, 0, 0, 0, 0, 0, 0, 0, 0, 0, 0, 0, 0, 0, 0, 16] : List Int))) = false) (hb8 : (ptIsId (ptMul (ptAdd (ptAdd (ptAdd (ptAdd (ptAdd (ptAdd (ptAdd (ptOpen s) (ptNeg (ptT))) (ptNeg (ptT))) (ptNeg (ptT))) (ptNeg (ptT))) (ptNeg (ptT))) (ptNeg (ptT))) (ptNeg (ptT))) ([237, 211, 245, 92, 26, 99, 18, 88, 214, 156, 247, 162, 222, 249, 222, 20, 0, 0, 0, 0, 0, 0, 0, 0, 0, 0, 0, 0, 0, 0, 0, 16] : List Int))) = false) (w : World) : Body Try.prog (tabOf tabVN) Try.f37 ⟨w, [], 0, noEnv⟩ (toA [.g [.ints .u8 (32 : Nat) s]]) [] (fun ys _ => ys = [.g [.ints .u8 (32 : Nat) ([0, 0, 0, 0, 0, 0, 0, 0, 0, 0, 0, 0, 0, 0, 0, 0, 0, 0, 0, 0, 0, 0, 0, 0, 0, 0, 0, 0, 0, 0, 0, 0] : List Int)], .a (.i .i64 (0 : Int)), .a (.i .i64 (41 : Int))]) :=
  Body.of_fin (Γ := gam54) (Λ := noLam) (Ψ := noPsi) (fuel := 9) (m := 34) (c := (Try.f37.body.getD .skip)) mix tabOkVN gam54_ok rfl (rs := [.cell 2 23, .tmp 3, .tmp 4]) rfl rfl [false, true, false, true, false, true, false, true, false, true, false, true, false, true, false, true, false, false] []
    (vc := [(false = false), ((ptIsId (ptMul (ptAdd (ptAdd (ptAdd (ptAdd (ptAdd (ptAdd (ptAdd (ptOpen s) (ptNeg (ptT))) (ptNeg (ptT))) (ptNeg (ptT))) (ptNeg (ptT))) (ptNeg (ptT))) (ptNeg (ptT))) (ptNeg (ptT))) ([237, 211, 245, 92, 26, 99, 18, 88, 214, 156, 247, 162, 222, 249, 222, 20, 0, 0, 0, 0, 0, 0, 0, 0, 0, 0, 0, 0, 0, 0, 0, 16] : List Int))) = false), (true = true), ((ptIsId (ptMul (ptAdd (ptAdd (ptAdd (ptAdd (ptAdd (ptAdd (ptOpen s) (ptNeg (ptT))) (ptNeg (ptT))) (ptNeg (ptT))) (ptNeg (ptT))) (ptNeg (ptT))) (ptNeg (ptT))) ([237, 211, 245, 92, 26, 99, 18, 88, 214, 156, 247, 162, 222, 249, 222, 20, 0, 0, 0, 0, 0, 0, 0, 0, 0, 0, 0, 0, 0, 0, 0, 16] : List Int))) = false), (true = true), ((ptIsId (ptMul (ptAdd (ptAdd (ptAdd (ptAdd (ptAdd (ptOpen s) (ptNeg (ptT))) (ptNeg (ptT))) (ptNeg (ptT))) (ptNeg (ptT))) (ptNeg (ptT))) ([237, 211, 245, 92, 26, 99, 18, 88, 214, 156, 247, 162, 222, 249, 222, 20, 0, 0, 0, 0, 0, 0, 0, 0, 0, 0, 0, 0, 0, 0, 0, 16] : List Int))) = false), (true = true), ((ptIsId (ptMul (ptAdd (ptAdd (ptAdd (ptAdd (ptOpen s) (ptNeg (ptT))) (ptNeg (ptT))) (ptNeg (ptT))) (ptNeg (ptT))) ([237, 211, 245, 92, 26, 99, 18, 88, 214, 156, 247, 162, 222, 249, 222, 20, 0, 0, 0, 0, 0, 0, 0, 0, 0, 0, 0, 0, 0, 0, 0, 16] : List Int))) = false), (true = true), ((ptIsId (ptMul (ptAdd (ptAdd (ptAdd (ptOpen s) (ptNeg (ptT))) (ptNeg (ptT))) (ptNeg (ptT))) ([237, 211, 245, 92, 26, 99, 18, 88, 214, 156, 247, 162, 222, 249, 222, 20, 0, 0, 0, 0, 0, 0, 0, 0, 0, 0, 0, 0, 0, 0, 0, 16] : List Int))) = false), (true = true), ((ptIsId (ptMul (ptAdd (ptAdd (ptOpen s) (ptNeg (ptT))) (ptNeg (ptT))) ([237, 211, 245, 92, 26, 99, 18, 88, 214, 156, 247, 162, 222, 249, 222, 20, 0, 0, 0, 0, 0, 0, 0, 0, 0, 0, 0, 0, 0, 0, 0, 16] : List Int))) = false), (true = true), ((ptIsId (ptMul (ptAdd (ptOpen s) (ptNeg (ptT))) ([237, 211, 245, 92, 26, 99, 18, 88, 214, 156, 247, 162, 222, 249, 222, 20, 0, 0, 0, 0, 0, 0, 0, 0, 0, 0, 0, 0, 0, 0, 0, 16] : List Int))) = false), (true = true), ((ptIsId (ptMul (ptOpen s) ([237, 211, 245, 92, 26, 99, 18, 88, 214, 156, 247, 162, 222, 249, 222, 20, 0, 0, 0, 0, 0, 0, 0, 0, 0, 0, 0, 0, 0, 0, 0, 16] : List Int))) = false), (true = true), ((!(ptOpen_1 s)) = false)]) (by kernel_rfl)
    (AllP_cons rfl (AllP_cons hb8 (AllP_cons rfl (AllP_cons hb7 (AllP_cons rfl (AllP_cons hb6 (AllP_cons rfl (AllP_cons hb5 (AllP_cons rfl (AllP_cons hb4 (AllP_cons rfl (AllP_cons hb3 (AllP_cons rfl (AllP_cons hb2 (AllP_cons rfl (AllP_cons hb1 (AllP_cons rfl (AllP_cons (by rw [hb0]; rfl) (AllP_nil)))))))))))))))))))

set_option maxHeartbeats 1000000 in
theorem apParts_w9_body0 (s : List Int) (hv0 : List.length s = (32 : Nat)) (hb0 : (ptOpen_1 s) = false) (w : World) : Body Try.prog (tabOf tabVN) Try.f37 ⟨w, [], 0, noEnv⟩ (toA [.g [.ints .u8 (32 : Nat) s]]) [] (fun ys _ => ys = [.g [.ints .u8 (32 : Nat) ([0, 0, 0, 0, 0, 0, 0, 0, 0, 0, 0, 0, 0, 0, 0, 0, 0, 0, 0, 0, 0, 0, 0, 0, 0, 0, 0, 0, 0, 0, 0, 0] : List Int)], .a (.i .i64 (0 : Int)), .a (.i .i64 (41 : Int))]) :=
  Body.of_fin (Γ := gam54) (Λ := noLam) (Ψ := noPsi) (fuel := 9) (m := 34) (c := (Try.f37.body.getD .skip)) mix tabOkVN gam54_ok rfl (rs := [.cell 2 23, .tmp 3, .tmp 4]) rfl rfl [true] []
    (vc := [((!(ptOpen_1 s)) = true)]) (by kernel_rfl)
    (AllP_cons (by rw [hb0]; rfl) (AllP_nil))

def apParts (s : List Int) : List Int :=
  (cond (ptOpen_1 s) (cond (ptIsId (ptMul (ptOpen s) ([237, 211, 245, 92, 26, 99, 18, 88, 214, 156, 247, 162, 222, 249, 222, 20, 0, 0, 0, 0, 0, 0, 0, 0, 0, 0, 0, 0, 0, 0, 0, 16] : List Int))) (apParts_w0 s) (cond (ptIsId (ptMul (ptAdd (ptOpen s) (ptNeg (ptT))) ([237, 211, 245, 92, 26, 99, 18, 88, 214, 156, 247, 162, 222, 249, 222, 20, 0, 0, 0, 0, 0, 0, 0, 0, 0, 0, 0, 0, 0, 0, 0, 16] : List Int))) (apParts_w1 s) (cond (ptIsId (ptMul (ptAdd (ptAdd (ptOpen s) (ptNeg (ptT))) (ptNeg (ptT))) ([237, 211, 245, 92, 26, 99, 18, 88, 214, 156, 247, 162, 222, 249, 222, 20, 0, 0, 0, 0, 0, 0, 0, 0, 0, 0, 0, 0, 0, 0, 0, 16] : List Int))) (apParts_w2 s) (cond (ptIsId (ptMul (ptAdd (ptAdd (ptAdd (ptOpen s) (ptNeg (ptT))) (ptNeg (ptT))) (ptNeg (ptT))) ([237, 211, 245, 92, 26, 99, 18, 88, 214, 156, 247, 162, 222, 249, 222, 20, 0, 0, 0, 0, 0, 0, 0, 0, 0, 0, 0, 0, 0, 0, 0, 16] : List Int))) (apParts_w3 s) (cond (ptIsId (ptMul (ptAdd (ptAdd (ptAdd (ptAdd (ptOpen s) (ptNeg (ptT))) (ptNeg (ptT))) (ptNeg (ptT))) (ptNeg (ptT))) ([237, 211, 245, 92, 26, 99, 18, 88, 214, 156, 247, 162, 222, 249, 222, 20, 0, 0, 0, 0, 0, 0, 0, 0, 0, 0, 0, 0, 0, 0, 0, 16] : List Int))) (apParts_w4 s) (cond (ptIsId (ptMul (ptAdd (ptAdd (ptAdd (ptAdd (ptAdd (ptOpen s) (ptNeg (ptT))) (ptNeg (ptT))) (ptNeg (ptT))) (ptNeg (ptT))) (ptNeg (ptT))) ([237, 211, 245, 92, 26, 99, 18, 88, 214, 156, 247, 162, 222, 249, 222, 20, 0, 0, 0, 0, 0, 0, 0, 0, 0, 0, 0, 0, 0, 0, 0, 16] : List Int))) (apParts_w5 s) (cond (ptIsId (ptMul (ptAdd (ptAdd (ptAdd (ptAdd (ptAdd (ptAdd (ptOpen s) (ptNeg (ptT))) (ptNeg (ptT))) (ptNeg (ptT))) (ptNeg (ptT))) (ptNeg (ptT))) (ptNeg (ptT))) ([237, 211, 245, 92, 26, 99, 18, 88, 214, 156, 247, 162, 222, 249, 222, 20, 0, 0, 0, 0, 0, 0, 0, 0, 0, 0, 0, 0, 0, 0, 0, 16] : List Int))) (apParts_w6 s) (cond (ptIsId (ptMul (ptAdd (ptAdd (ptAdd (ptAdd (ptAdd (ptAdd (ptAdd (ptOpen s) (ptNeg (ptT))) (ptNeg (ptT))) (ptNeg (ptT))) (ptNeg (ptT))) (ptNeg (ptT))) (ptNeg (ptT))) (ptNeg (ptT))) ([237, 211, 245, 92, 26, 99, 18, 88, 214, 156, 247, 162, 222, 249, 222, 20, 0, 0, 0, 0, 0, 0, 0, 0, 0, 0, 0, 0, 0, 0, 0, 16] : List Int))) (apParts_w7 s) ([0, 0, 0, 0, 0, 0, 0, 0, 0, 0, 0, 0, 0, 0, 0, 0, 0, 0, 0, 0, 0, 0, 0, 0, 0, 0, 0, 0, 0, 0, 0, 0] : List Int))))))))) ([0, 0, 0, 0, 0, 0, 0, 0, 0, 0, 0, 0, 0, 0, 0, 0, 0, 0, 0, 0, 0, 0, 0, 0, 0, 0, 0, 0, 0, 0, 0, 0] : List Int))

def apParts_1 (s : List Int) : Int :=
  (cond (ptOpen_1 s) (cond (ptIsId (ptMul (ptOpen s) ([237, 211, 245, 92, 26, 99, 18, 88, 214, 156, 247, 162, 222, 249, 222, 20, 0, 0, 0, 0, 0, 0, 0, 0, 0, 0, 0, 0, 0, 0, 0, 16] : List Int))) (0 : Int) (cond (ptIsId (ptMul (ptAdd (ptOpen s) (ptNeg (ptT))) ([237, 211, 245, 92, 26, 99, 18, 88, 214, 156, 247, 162, 222, 249, 222, 20, 0, 0, 0, 0, 0, 0, 0, 0, 0, 0, 0, 0, 0, 0, 0, 16] : List Int))) (1 : Int) (cond (ptIsId (ptMul (ptAdd (ptAdd (ptOpen s) (ptNeg (ptT))) (ptNeg (ptT))) ([237, 211, 245, 92, 26, 99, 18, 88, 214, 156, 247, 162, 222, 249, 222, 20, 0, 0, 0, 0, 0, 0, 0, 0, 0, 0, 0, 0, 0, 0, 0, 16] : List Int))) (2 : Int) (cond (ptIsId (ptMul (ptAdd (ptAdd (ptAdd (ptOpen s) (ptNeg (ptT))) (ptNeg (ptT))) (ptNeg (ptT))) ([237, 211, 245, 92, 26, 99, 18, 88, 214, 156, 247, 162, 222, 249, 222, 20, 0, 0, 0, 0, 0, 0, 0, 0, 0, 0, 0, 0, 0, 0, 0, 16] : List Int))) (3 : Int) (cond (ptIsId (ptMul (ptAdd (ptAdd (ptAdd (ptAdd (ptOpen s) (ptNeg (ptT))) (ptNeg (ptT))) (ptNeg (ptT))) (ptNeg (ptT))) ([237, 211, 245, 92, 26, 99, 18, 88, 214, 156, 247, 162, 222, 249, 222, 20, 0, 0, 0, 0, 0, 0, 0, 0, 0, 0, 0, 0, 0, 0, 0, 16] : List Int))) (4 : Int) (cond (ptIsId (ptMul (ptAdd (ptAdd (ptAdd (ptAdd (ptAdd (ptOpen s) (ptNeg (ptT))) (ptNeg (ptT))) (ptNeg (ptT))) (ptNeg (ptT))) (ptNeg (ptT))) ([237, 211, 245, 92, 26, 99, 18, 88, 214, 156, 247, 162, 222, 249, 222, 20, 0, 0, 0, 0, 0, 0, 0, 0, 0, 0, 0, 0, 0, 0, 0, 16] : List Int))) (5 : Int) (cond (ptIsId (ptMul (ptAdd (ptAdd (ptAdd (ptAdd (ptAdd (ptAdd (ptOpen s) (ptNeg (ptT))) (ptNeg (ptT))) (ptNeg (ptT))) (ptNeg (ptT))) (ptNeg (ptT))) (ptNeg (ptT))) ([237, 211, 245, 92, 26, 99, 18, 88, 214, 156, 247, 162, 222, 249, 222, 20, 0, 0, 0, 0, 0, 0, 0, 0, 0, 0, 0, 0, 0, 0, 0, 16] : List Int))) (6 : Int) (cond (ptIsId (ptMul (ptAdd (ptAdd (ptAdd (ptAdd (ptAdd (ptAdd (ptAdd (ptOpen s) (ptNeg (ptT))) (ptNeg (ptT))) (ptNeg (ptT))) (ptNeg (ptT))) (ptNeg (ptT))) (ptNeg (ptT))) (ptNeg (ptT))) ([237, 211, 245, 92, 26, 99, 18, 88, 214, 156, 247, 162, 222, 249, 222, 20, 0, 0, 0, 0, 0, 0, 0, 0, 0, 0, 0, 0, 0, 0, 0, 16] : List Int))) (7 : Int) (0 : Int))))))))) (0 : Int))

def apParts_2 (s : List Int) : Int :=
  (cond (ptOpen_1 s) (cond (ptIsId (ptMul (ptOpen s) ([237, 211, 245, 92, 26, 99, 18, 88, 214, 156, 247, 162, 222, 249, 222, 20, 0, 0, 0, 0, 0, 0, 0, 0, 0, 0, 0, 0, 0, 0, 0, 16] : List Int))) (0 : Int) (cond (ptIsId (ptMul (ptAdd (ptOpen s) (ptNeg (ptT))) ([237, 211, 245, 92, 26, 99, 18, 88, 214, 156, 247, 162, 222, 249, 222, 20, 0, 0, 0, 0, 0, 0, 0, 0, 0, 0, 0, 0, 0, 0, 0, 16] : List Int))) (0 : Int) (cond (ptIsId (ptMul (ptAdd (ptAdd (ptOpen s) (ptNeg (ptT))) (ptNeg (ptT))) ([237, 211, 245, 92, 26, 99, 18, 88, 214, 156, 247, 162, 222, 249, 222, 20, 0, 0, 0, 0, 0, 0, 0, 0, 0, 0, 0, 0, 0, 0, 0, 16] : List Int))) (0 : Int) (cond (ptIsId (ptMul (ptAdd (ptAdd (ptAdd (ptOpen s) (ptNeg (ptT))) (ptNeg (ptT))) (ptNeg (ptT))) ([237, 211, 245, 92, 26, 99, 18, 88, 214, 156, 247, 162, 222, 249, 222, 20, 0, 0, 0, 0, 0, 0, 0, 0, 0, 0, 0, 0, 0, 0, 0, 16] : List Int))) (0 : Int) (cond (ptIsId (ptMul (ptAdd (ptAdd (ptAdd (ptAdd (ptOpen s) (ptNeg (ptT))) (ptNeg (ptT))) (ptNeg (ptT))) (ptNeg (ptT))) ([237, 211, 245, 92, 26, 99, 18, 88, 214, 156, 247, 162, 222, 249, 222, 20, 0, 0, 0, 0, 0, 0, 0, 0, 0, 0, 0, 0, 0, 0, 0, 16] : List Int))) (0 : Int) (cond (ptIsId (ptMul (ptAdd (ptAdd (ptAdd (ptAdd (ptAdd (ptOpen s) (ptNeg (ptT))) (ptNeg (ptT))) (ptNeg (ptT))) (ptNeg (ptT))) (ptNeg (ptT))) ([237, 211, 245, 92, 26, 99, 18, 88, 214, 156, 247, 162, 222, 249, 222, 20, 0, 0, 0, 0, 0, 0, 0, 0, 0, 0, 0, 0, 0, 0, 0, 16] : List Int))) (0 : Int) (cond (ptIsId (ptMul (ptAdd (ptAdd (ptAdd (ptAdd (ptAdd (ptAdd (ptOpen s) (ptNeg (ptT))) (ptNeg (ptT))) (ptNeg (ptT))) (ptNeg (ptT))) (ptNeg (ptT))) (ptNeg (ptT))) ([237, 211, 245, 92, 26, 99, 18, 88, 214, 156, 247, 162, 222, 249, 222, 20, 0, 0, 0, 0, 0, 0, 0, 0, 0, 0, 0, 0, 0, 0, 0, 16] : List Int))) (0 : Int) (cond (ptIsId (ptMul (ptAdd (ptAdd (ptAdd (ptAdd (ptAdd (ptAdd (ptAdd (ptOpen s) (ptNeg (ptT))) (ptNeg (ptT))) (ptNeg (ptT))) (ptNeg (ptT))) (ptNeg (ptT))) (ptNeg (ptT))) (ptNeg (ptT))) ([237, 211, 245, 92, 26, 99, 18, 88, 214, 156, 247, 162, 222, 249, 222, 20, 0, 0, 0, 0, 0, 0, 0, 0, 0, 0, 0, 0, 0, 0, 0, 16] : List Int))) (0 : Int) (41 : Int))))))))) (41 : Int))

set_option maxHeartbeats 1000000 in
theorem apParts_body (s : List Int) (w : World) : Body Try.prog (tabOf tabVN) Try.f37 ⟨w, [], 0, noEnv⟩ (toA [.g [.ints .u8 (32 : Nat) s]]) [] (fun ys _ => ys = [.g [.ints .u8 (32 : Nat) (apParts s)], .a (.i .i64 (apParts_1 s)), .a (.i .i64 (apParts_2 s))]) :=
  Body.lens (c := (Try.f37.body.getD .skip)) rfl fun h => by
    cases hb0 : (ptOpen_1 s)
    · exact (apParts_w9_body0 s (h.vals 0 _ _ _ rfl) hb0 w).mono fun _ _ hx => hx.trans (by rw [(show (apParts s) = ([0, 0, 0, 0, 0, 0, 0, 0, 0, 0, 0, 0, 0, 0, 0, 0, 0, 0, 0, 0, 0, 0, 0, 0, 0, 0, 0, 0, 0, 0, 0, 0] : List Int) from (cond_f hb0)), (show (apParts_1 s) = (0 : Int) from (cond_f hb0)), (show (apParts_2 s) = (41 : Int) from (cond_f hb0))])
    · cases hb1 : (ptIsId (ptMul (ptOpen s) ([237, 211, 245, 92, 26, 99, 18, 88, 214, 156, 247, 162, 222, 249, 222, 20, 0, 0, 0, 0, 0, 0, 0, 0, 0, 0, 0, 0, 0, 0, 0, 16] : List Int)))
      · cases hb2 : (ptIsId (ptMul (ptAdd (ptOpen s) (ptNeg (ptT))) ([237, 211, 245, 92, 26, 99, 18, 88, 214, 156, 247, 162, 222, 249, 222, 20, 0, 0, 0, 0, 0, 0, 0, 0, 0, 0, 0, 0, 0, 0, 0, 16] : List Int)))
        · cases hb3 : (ptIsId (ptMul (ptAdd (ptAdd (ptOpen s) (ptNeg (ptT))) (ptNeg (ptT))) ([237, 211, 245, 92, 26, 99, 18, 88, 214, 156, 247, 162, 222, 249, 222, 20, 0, 0, 0, 0, 0, 0, 0, 0, 0, 0, 0, 0, 0, 0, 0, 16] : List Int)))
          · cases hb4 : (ptIsId (ptMul (ptAdd (ptAdd (ptAdd (ptOpen s) (ptNeg (ptT))) (ptNeg (ptT))) (ptNeg (ptT))) ([237, 211, 245, 92, 26, 99, 18, 88, 214, 156, 247, 162, 222, 249, 222, 20, 0, 0, 0, 0, 0, 0, 0, 0, 0, 0, 0, 0, 0, 0, 0, 16] : List Int)))
            · cases hb5 : (ptIsId (ptMul (ptAdd (ptAdd (ptAdd (ptAdd (ptOpen s) (ptNeg (ptT))) (ptNeg (ptT))) (ptNeg (ptT))) (ptNeg (ptT))) ([237, 211, 245, 92, 26, 99, 18, 88, 214, 156, 247, 162, 222, 249, 222, 20, 0, 0, 0, 0, 0, 0, 0, 0, 0, 0, 0, 0, 0, 0, 0, 16] : List Int)))
              · cases hb6 : (ptIsId (ptMul (ptAdd (ptAdd (ptAdd (ptAdd (ptAdd (ptOpen s) (ptNeg (ptT))) (ptNeg (ptT))) (ptNeg (ptT))) (ptNeg (ptT))) (ptNeg (ptT))) ([237, 211, 245, 92, 26, 99, 18, 88, 214, 156, 247, 162, 222, 249, 222, 20, 0, 0, 0, 0, 0, 0, 0, 0, 0, 0, 0, 0, 0, 0, 0, 16] : List Int)))
                · cases hb7 : (ptIsId (ptMul (ptAdd (ptAdd (ptAdd (ptAdd (ptAdd (ptAdd (ptOpen s) (ptNeg (ptT))) (ptNeg (ptT))) (ptNeg (ptT))) (ptNeg (ptT))) (ptNeg (ptT))) (ptNeg (ptT))) ([237, 211, 245, 92, 26, 99, 18, 88, 214, 156, 247, 162, 222, 249, 222, 20, 0, 0, 0, 0, 0, 0, 0, 0, 0, 0, 0, 0, 0, 0, 0, 16] : List Int)))
                  · cases hb8 : (ptIsId (ptMul (ptAdd (ptAdd (ptAdd (ptAdd (ptAdd (ptAdd (ptAdd (ptOpen s) (ptNeg (ptT))) (ptNeg (ptT))) (ptNeg (ptT))) (ptNeg (ptT))) (ptNeg (ptT))) (ptNeg (ptT))) (ptNeg (ptT))) ([237, 211, 245, 92, 26, 99, 18, 88, 214, 156, 247, 162, 222, 249, 222, 20, 0, 0, 0, 0, 0, 0, 0, 0, 0, 0, 0, 0, 0, 0, 0, 16] : List Int)))
                    · exact (apParts_w8_body0 s (h.vals 0 _ _ _ rfl) hb0 hb1 hb2 hb3 hb4 hb5 hb6 hb7 hb8 w).mono fun _ _ hx => hx.trans (by rw [(show (apParts s) = ([0, 0, 0, 0, 0, 0, 0, 0, 0, 0, 0, 0, 0, 0, 0, 0, 0, 0, 0, 0, 0, 0, 0, 0, 0, 0, 0, 0, 0, 0, 0, 0] : List Int) from ((cond_t hb0).trans ((cond_f hb1).trans ((cond_f hb2).trans ((cond_f hb3).trans ((cond_f hb4).trans ((cond_f hb5).trans ((cond_f hb6).trans ((cond_f hb7).trans (cond_f hb8)))))))))), (show (apParts_1 s) = (0 : Int) from ((cond_t hb0).trans ((cond_f hb1).trans ((cond_f hb2).trans ((cond_f hb3).trans ((cond_f hb4).trans ((cond_f hb5).trans ((cond_f hb6).trans ((cond_f hb7).trans (cond_f hb8)))))))))), (show (apParts_2 s) = (41 : Int) from ((cond_t hb0).trans ((cond_f hb1).trans ((cond_f hb2).trans ((cond_f hb3).trans ((cond_f hb4).trans ((cond_f hb5).trans ((cond_f hb6).trans ((cond_f hb7).trans (cond_f hb8))))))))))])
                    · exact (apParts_w7_body0 s (h.vals 0 _ _ _ rfl) hb0 hb1 hb2 hb3 hb4 hb5 hb6 hb7 hb8 w).mono fun _ _ hx => hx.trans (by rw [(show (apParts s) = (apParts_w7 s) from ((cond_t hb0).trans ((cond_f hb1).trans ((cond_f hb2).trans ((cond_f hb3).trans ((cond_f hb4).trans ((cond_f hb5).trans ((cond_f hb6).trans ((cond_f hb7).trans (cond_t hb8)))))))))), (show (apParts_1 s) = (7 : Int) from ((cond_t hb0).trans ((cond_f hb1).trans ((cond_f hb2).trans ((cond_f hb3).trans ((cond_f hb4).trans ((cond_f hb5).trans ((cond_f hb6).trans ((cond_f hb7).trans (cond_t hb8)))))))))), (show (apParts_2 s) = (0 : Int) from ((cond_t hb0).trans ((cond_f hb1).trans ((cond_f hb2).trans ((cond_f hb3).trans ((cond_f hb4).trans ((cond_f hb5).trans ((cond_f hb6).trans ((cond_f hb7).trans (cond_t hb8))))))))))])
                  · exact (apParts_w6_body0 s (h.vals 0 _ _ _ rfl) hb0 hb1 hb2 hb3 hb4 hb5 hb6 hb7 w).mono fun _ _ hx => hx.trans (by rw [(show (apParts s) = (apParts_w6 s) from ((cond_t hb0).trans ((cond_f hb1).trans ((cond_f hb2).trans ((cond_f hb3).trans ((cond_f hb4).trans ((cond_f hb5).trans ((cond_f hb6).trans (cond_t hb7))))))))), (show (apParts_1 s) = (6 : Int) from ((cond_t hb0).trans ((cond_f hb1).trans ((cond_f hb2).trans ((cond_f hb3).trans ((cond_f hb4).trans ((cond_f hb5).trans ((cond_f hb6).trans (cond_t hb7))))))))), (show (apParts_2 s) = (0 : Int) from ((cond_t hb0).trans ((cond_f hb1).trans ((cond_f hb2).trans ((cond_f hb3).trans ((cond_f hb4).trans ((cond_f hb5).trans ((cond_f hb6).trans (cond_t hb7)))))))))])
                · exact (apParts_w5_body0 s (h.vals 0 _ _ _ rfl) hb0 hb1 hb2 hb3 hb4 hb5 hb6 w).mono fun _ _ hx => hx.trans (by rw [(show (apParts s) = (apParts_w5 s) from ((cond_t hb0).trans ((cond_f hb1).trans ((cond_f hb2).trans ((cond_f hb3).trans ((cond_f hb4).trans ((cond_f hb5).trans (cond_t hb6)))))))), (show (apParts_1 s) = (5 : Int) from ((cond_t hb0).trans ((cond_f hb1).trans ((cond_f hb2).trans ((cond_f hb3).trans ((cond_f hb4).trans ((cond_f hb5).trans (cond_t hb6)))))))), (show (apParts_2 s) = (0 : Int) from ((cond_t hb0).trans ((cond_f hb1).trans ((cond_f hb2).trans ((cond_f hb3).trans ((cond_f hb4).trans ((cond_f hb5).trans (cond_t hb6))))))))])
              · exact (apParts_w4_body0 s (h.vals 0 _ _ _ rfl) hb0 hb1 hb2 hb3 hb4 hb5 w).mono fun _ _ hx => hx.trans (by rw [(show (apParts s) = (apParts_w4 s) from ((cond_t hb0).trans ((cond_f hb1).trans ((cond_f hb2).trans ((cond_f hb3).trans ((cond_f hb4).trans (cond_t hb5))))))), (show (apParts_1 s) = (4 : Int) from ((cond_t hb0).trans ((cond_f hb1).trans ((cond_f hb2).trans ((cond_f hb3).trans ((cond_f hb4).trans (cond_t hb5))))))), (show (apParts_2 s) = (0 : Int) from ((cond_t hb0).trans ((cond_f hb1).trans ((cond_f hb2).trans ((cond_f hb3).trans ((cond_f hb4).trans (cond_t hb5)))))))])
            · exact (apParts_w3_body0 s (h.vals 0 _ _ _ rfl) hb0 hb1 hb2 hb3 hb4 w).mono fun _ _ hx => hx.trans (by rw [(show (apParts s) = (apParts_w3 s) from ((cond_t hb0).trans ((cond_f hb1).trans ((cond_f hb2).trans ((cond_f hb3).trans (cond_t hb4)))))), (show (apParts_1 s) = (3 : Int) from ((cond_t hb0).trans ((cond_f hb1).trans ((cond_f hb2).trans ((cond_f hb3).trans (cond_t hb4)))))), (show (apParts_2 s) = (0 : Int) from ((cond_t hb0).trans ((cond_f hb1).trans ((cond_f hb2).trans ((cond_f hb3).trans (cond_t hb4))))))])
          · exact (apParts_w2_body0 s (h.vals 0 _ _ _ rfl) hb0 hb1 hb2 hb3 w).mono fun _ _ hx => hx.trans (by rw [(show (apParts s) = (apParts_w2 s) from ((cond_t hb0).trans ((cond_f hb1).trans ((cond_f hb2).trans (cond_t hb3))))), (show (apParts_1 s) = (2 : Int) from ((cond_t hb0).trans ((cond_f hb1).trans ((cond_f hb2).trans (cond_t hb3))))), (show (apParts_2 s) = (0 : Int) from ((cond_t hb0).trans ((cond_f hb1).trans ((cond_f hb2).trans (cond_t hb3)))))])
        · exact (apParts_w1_body0 s (h.vals 0 _ _ _ rfl) hb0 hb1 hb2 w).mono fun _ _ hx => hx.trans (by rw [(show (apParts s) = (apParts_w1 s) from ((cond_t hb0).trans ((cond_f hb1).trans (cond_t hb2)))), (show (apParts_1 s) = (1 : Int) from ((cond_t hb0).trans ((cond_f hb1).trans (cond_t hb2)))), (show (apParts_2 s) = (0 : Int) from ((cond_t hb0).trans ((cond_f hb1).trans (cond_t hb2))))])
      · exact (apParts_w0_body0 s (h.vals 0 _ _ _ rfl) hb0 hb1 w).mono fun _ _ hx => hx.trans (by rw [(show (apParts s) = (apParts_w0 s) from ((cond_t hb0).trans (cond_t hb1))), (show (apParts_1 s) = (0 : Int) from ((cond_t hb0).trans (cond_t hb1))), (show (apParts_2 s) = (0 : Int) from ((cond_t hb0).trans (cond_t hb1)))])

theorem apParts_pure (s : List Int) : PureC Try.prog 37 [.g [.ints .u8 (32 : Nat) s]] [.g [.ints .u8 (32 : Nat) (apParts s)], .a (.i .i64 (apParts_1 s)), .a (.i .i64 (apParts_2 s))] :=
  PureC.of_body tabOkVN Try.func37 rfl rfl fun w => apParts_body s w

def gam56 : Gam := gpure 37 (fun args => match args with | [.o (.g [.ints .u8 (32 : Nat) s])] => some (none, [.g [.ints .u8 (32 : Nat) (apParts s)], .a (.i .i64 (apParts_1 s)), .a (.i .i64 (apParts_2 s))]) | _ => none) gam54
theorem gam56_ok : GamOk Try.prog gam56 := gpure_ok gam54_ok Try.call37 (by
  intro args vc xs h hv
  split at h
  · simp only [Option.some.injEq, Prod.mk.injEq] at h; obtain ⟨rfl, rfl⟩ := h; exact ⟨_, by rfl, apParts_pure _⟩
  · simp at h)

set_option maxHeartbeats 1000000 in
theorem num_body0 (x : Int) (w : World) : Body Try.prog (tabOf tabVN) Try.f43 ⟨w, [], 0, noEnv⟩ (toA [.a (.i .i64 x)]) [] (fun ys _ => ys = [.a (.i .i64 x)]) :=
  Body.of_fin (Γ := gam56) (Λ := noLam) (Ψ := noPsi) (fuel := 0) (m := 4) (c := (Try.f43.body.getD .skip)) mix tabOkVN gam56_ok rfl (rs := [.tmp 2]) rfl rfl [] []
    (vc := []) (by kernel_rfl)
    (AllP_nil)

theorem num_body (x : Int) (w : World) : Body Try.prog (tabOf tabVN) Try.f43 ⟨w, [], 0, noEnv⟩ (toA [.a (.i .i64 x)]) [] (fun ys _ => ys = [.a (.i .i64 x)]) :=
  Body.lens (c := (Try.f43.body.getD .skip)) rfl fun h => num_body0 x  w

theorem num_pure (x : Int) : PureC Try.prog 43 [.a (.i .i64 x)] [.a (.i .i64 x)] :=
  PureC.of_body tabOkVN Try.func43 rfl rfl fun w => num_body x w

def gam57 : Gam := gpure 43 (fun args => match args with | [.o (.a (.i .i64 x))] => some (none, [.a (.i .i64 x)]) | _ => none) gam56
theorem gam57_ok : GamOk Try.prog gam57 := gpure_ok gam56_ok Try.call43 (by
  intro args vc xs h hv
  split at h
  · simp only [Option.some.injEq, Prod.mk.injEq] at h; obtain ⟨rfl, rfl⟩ := h; exact ⟨_, by rfl, num_pure _⟩
  · simp at h)

set_option maxHeartbeats 1000000 in
theorem lwAdd_w0_body0 (r : List Int) (s : List Int) (hv0 : List.length r = (32 : Nat)) (hv1 : List.length s = (32 : Nat)) (hb0 : ((apAdd_1 r s) != (0 : Int)) = true) (w : World) : Body Try.prog (tabOf tabVN) Try.f15 ⟨w, [], 0, noEnv⟩ (toA [.g [.ints .u8 (32 : Nat) r], .g [.ints .u8 (32 : Nat) s]]) [] (fun ys _ => ys = [.g [.ints .u8 (32 : Nat) ([0, 0, 0, 0, 0, 0, 0, 0, 0, 0, 0, 0, 0, 0, 0, 0, 0, 0, 0, 0, 0, 0, 0, 0, 0, 0, 0, 0, 0, 0, 0, 0] : List Int)]]) :=
  Body.of_fin (Γ := gam57) (Λ := noLam) (Ψ := noPsi) (fuel := 0) (m := 17) (c := (Try.f15.body.getD .skip)) mix tabOkVN gam57_ok rfl (rs := [.cell 4 23]) rfl rfl [true] []
    (vc := [(((apAdd_1 r s) != (0 : Int)) = true)]) (by kernel_rfl)
    (AllP_cons hb0 (AllP_nil))

set_option maxHeartbeats 1000000 in
theorem lwAdd_w1_body0 (r : List Int) (s : List Int) (hv0 : List.length r = (32 : Nat)) (hv1 : List.length s = (32 : Nat)) (hb0 : ((apAdd_1 r s) != (0 : Int)) = false) (w : World) : Body Try.prog (tabOf tabVN) Try.f15 ⟨w, [], 0, noEnv⟩ (toA [.g [.ints .u8 (32 : Nat) r], .g [.ints .u8 (32 : Nat) s]]) [] (fun ys _ => ys = [.g [.ints .u8 (32 : Nat) (apAdd r s)]]) :=
  Body.of_fin (Γ := gam57) (Λ := noLam) (Ψ := noPsi) (fuel := 0) (m := 17) (c := (Try.f15.body.getD .skip)) mix tabOkVN gam57_ok rfl (rs := [.cell 4 23]) rfl rfl [false] []
    (vc := [(((apAdd_1 r s) != (0 : Int)) = false)]) (by kernel_rfl)
    (AllP_cons hb0 (AllP_nil))

def lwAdd (r : List Int) (s : List Int) : List Int :=
  (cond ((apAdd_1 r s) != (0 : Int)) ([0, 0, 0, 0, 0, 0, 0, 0, 0, 0, 0, 0, 0, 0, 0, 0, 0, 0, 0, 0, 0, 0, 0, 0, 0, 0, 0, 0, 0, 0, 0, 0] : List Int) (apAdd r s))

set_option maxHeartbeats 1000000 in
theorem lwAdd_body (r : List Int) (s : List Int) (w : World) : Body Try.prog (tabOf tabVN) Try.f15 ⟨w, [], 0, noEnv⟩ (toA [.g [.ints .u8 (32 : Nat) r], .g [.ints .u8 (32 : Nat) s]]) [] (fun ys _ => ys = [.g [.ints .u8 (32 : Nat) (lwAdd r s)]]) :=
  Body.lens (c := (Try.f15.body.getD .skip)) rfl fun h => by
    cases hb0 : ((apAdd_1 r s) != (0 : Int))
    · exact (lwAdd_w1_body0 r s (h.vals 0 _ _ _ rfl) (h.vals 1 _ _ _ rfl) hb0 w).mono fun _ _ hx => hx.trans (by rw [(show (lwAdd r s) = (apAdd r s) from (cond_f hb0))])
    · exact (lwAdd_w0_body0 r s (h.vals 0 _ _ _ rfl) (h.vals 1 _ _ _ rfl) hb0 w).mono fun _ _ hx => hx.trans (by rw [(show (lwAdd r s) = ([0, 0, 0, 0, 0, 0, 0, 0, 0, 0, 0, 0, 0, 0, 0, 0, 0, 0, 0, 0, 0, 0, 0, 0, 0, 0, 0, 0, 0, 0, 0, 0] : List Int) from (cond_t hb0))])

theorem lwAdd_pure (r : List Int) (s : List Int) : PureC Try.prog 15 [.g [.ints .u8 (32 : Nat) r], .g [.ints .u8 (32 : Nat) s]] [.g [.ints .u8 (32 : Nat) (lwAdd r s)]] :=
  PureC.of_body tabOkVN Try.func15 rfl rfl fun w => lwAdd_body r s w

def gam58 : Gam := gpure 15 (fun args => match args with | [.o (.g [.ints .u8 (32 : Nat) r]), .o (.g [.ints .u8 (32 : Nat) s])] => some (none, [.g [.ints .u8 (32 : Nat) (lwAdd r s)]]) | _ => none) gam57
theorem gam58_ok : GamOk Try.prog gam58 := gpure_ok gam57_ok Try.call15 (by
  intro args vc xs h hv
  split at h
  · simp only [Option.some.injEq, Prod.mk.injEq] at h; obtain ⟨rfl, rfl⟩ := h; exact ⟨_, by rfl, lwAdd_pure _ _⟩
  · simp at h)

set_option maxHeartbeats 1000000 in
theorem lwMul_w0_body0 (K : List Int) (s : List Int) (hv0 : List.length K = (32 : Nat)) (hv1 : List.length s = (32 : Nat)) (hb0 : ((oneMul_1 s) != (0 : Int)) = true) (w : World) : Body Try.prog (tabOf tabVN) Try.f18 ⟨w, [], 0, noEnv⟩ (toA [.g [.ints .u8 (32 : Nat) K], .g [.ints .u8 (32 : Nat) s]]) [] (fun ys _ => ys = [.g [.ints .u8 (32 : Nat) ([0, 0, 0, 0, 0, 0, 0, 0, 0, 0, 0, 0, 0, 0, 0, 0, 0, 0, 0, 0, 0, 0, 0, 0, 0, 0, 0, 0, 0, 0, 0, 0] : List Int)]]) :=
  Body.of_fin (Γ := gam58) (Λ := noLam) (Ψ := noPsi) (fuel := 0) (m := 17) (c := (Try.f18.body.getD .skip)) mix tabOkVN gam58_ok rfl (rs := [.cell 4 23]) rfl rfl [true] []
    (vc := [(((oneMul_1 s) != (0 : Int)) = true)]) (by kernel_rfl)
    (AllP_cons hb0 (AllP_nil))

set_option maxHeartbeats 1000000 in
theorem lwMul_w1_body0 (K : List Int) (s : List Int) (hv0 : List.length K = (32 : Nat)) (hv1 : List.length s = (32 : Nat)) (hb0 : ((oneMul_1 s) != (0 : Int)) = false) (w : World) : Body Try.prog (tabOf tabVN) Try.f18 ⟨w, [], 0, noEnv⟩ (toA [.g [.ints .u8 (32 : Nat) K], .g [.ints .u8 (32 : Nat) s]]) [] (fun ys _ => ys = [.g [.ints .u8 (32 : Nat) (oneMul K s)]]) :=
  Body.of_fin (Γ := gam58) (Λ := noLam) (Ψ := noPsi) (fuel := 0) (m := 17) (c := (Try.f18.body.getD .skip)) mix tabOkVN gam58_ok rfl (rs := [.cell 4 23]) rfl rfl [false] []
    (vc := [(((oneMul_1 s) != (0 : Int)) = false)]) (by kernel_rfl)
    (AllP_cons hb0 (AllP_nil))

def lwMul (K : List Int) (s : List Int) : List Int :=
  (cond ((oneMul_1 s) != (0 : Int)) ([0, 0, 0, 0, 0, 0, 0, 0, 0, 0, 0, 0, 0, 0, 0, 0, 0, 0, 0, 0, 0, 0, 0, 0, 0, 0, 0, 0, 0, 0, 0, 0] : List Int) (oneMul K s))

set_option maxHeartbeats 1000000 in
theorem lwMul_body (K : List Int) (s : List Int) (w : World) : Body Try.prog (tabOf tabVN) Try.f18 ⟨w, [], 0, noEnv⟩ (toA [.g [.ints .u8 (32 : Nat) K], .g [.ints .u8 (32 : Nat) s]]) [] (fun ys _ => ys = [.g [.ints .u8 (32 : Nat) (lwMul K s)]]) :=
  Body.lens (c := (Try.f18.body.getD .skip)) rfl fun h => by
    cases hb0 : ((oneMul_1 s) != (0 : Int))
    · exact (lwMul_w1_body0 K s (h.vals 0 _ _ _ rfl) (h.vals 1 _ _ _ rfl) hb0 w).mono fun _ _ hx => hx.trans (by rw [(show (lwMul K s) = (oneMul K s) from (cond_f hb0))])
    · exact (lwMul_w0_body0 K s (h.vals 0 _ _ _ rfl) (h.vals 1 _ _ _ rfl) hb0 w).mono fun _ _ hx => hx.trans (by rw [(show (lwMul K s) = ([0, 0, 0, 0, 0, 0, 0, 0, 0, 0, 0, 0, 0, 0, 0, 0, 0, 0, 0, 0, 0, 0, 0, 0, 0, 0, 0, 0, 0, 0, 0, 0] : List Int) from (cond_t hb0))])

theorem lwMul_pure (K : List Int) (s : List Int) : PureC Try.prog 18 [.g [.ints .u8 (32 : Nat) K], .g [.ints .u8 (32 : Nat) s]] [.g [.ints .u8 (32 : Nat) (lwMul K s)]] :=
  PureC.of_body tabOkVN Try.func18 rfl rfl fun w => lwMul_body K s w

def gam59 : Gam := gpure 18 (fun args => match args with | [.o (.g [.ints .u8 (32 : Nat) K]), .o (.g [.ints .u8 (32 : Nat) s])] => some (none, [.g [.ints .u8 (32 : Nat) (lwMul K s)]]) | _ => none) gam58
theorem gam59_ok : GamOk Try.prog gam59 := gpure_ok gam58_ok Try.call18 (by
  intro args vc xs h hv
  split at h
  · simp only [Option.some.injEq, Prod.mk.injEq] at h; obtain ⟨rfl, rfl⟩ := h; exact ⟨_, by rfl, lwMul_pure _ _⟩
  · simp at h)

set_option maxHeartbeats 1000000 in
theorem lwOrd_body0 (w : World) : Body Try.prog (tabOf tabVN) Try.f36 ⟨w, [], 0, noEnv⟩ (toA []) [] (fun ys _ => ys = [.g [.ints .u8 (32 : Nat) ([237, 211, 245, 92, 26, 99, 18, 88, 214, 156, 247, 162, 222, 249, 222, 20, 0, 0, 0, 0, 0, 0, 0, 0, 0, 0, 0, 0, 0, 0, 0, 16] : List Int)]]) :=
  Body.of_fin (Γ := gam59) (Λ := noLam) (Ψ := noPsi) (fuel := 0) (m := 2) (c := (Try.f36.body.getD .skip)) mix tabOkVN gam59_ok rfl (rs := [.cell 0 37]) rfl rfl [] []
    (vc := []) (by kernel_rfl)
    (AllP_nil)

theorem lwOrd_body (w : World) : Body Try.prog (tabOf tabVN) Try.f36 ⟨w, [], 0, noEnv⟩ (toA []) [] (fun ys _ => ys = [.g [.ints .u8 (32 : Nat) ([237, 211, 245, 92, 26, 99, 18, 88, 214, 156, 247, 162, 222, 249, 222, 20, 0, 0, 0, 0, 0, 0, 0, 0, 0, 0, 0, 0, 0, 0, 0, 16] : List Int)]]) :=
  Body.lens (c := (Try.f36.body.getD .skip)) rfl fun h => lwOrd_body0  w

theorem lwOrd_pure : PureC Try.prog 36 [] [.g [.ints .u8 (32 : Nat) ([237, 211, 245, 92, 26, 99, 18, 88, 214, 156, 247, 162, 222, 249, 222, 20, 0, 0, 0, 0, 0, 0, 0, 0, 0, 0, 0, 0, 0, 0, 0, 16] : List Int)]] :=
  PureC.of_body tabOkVN Try.func36 rfl rfl fun w => lwOrd_body w

def gam60 : Gam := gpure 36 (fun args => match args with | [] => some (none, [.g [.ints .u8 (32 : Nat) ([237, 211, 245, 92, 26, 99, 18, 88, 214, 156, 247, 162, 222, 249, 222, 20, 0, 0, 0, 0, 0, 0, 0, 0, 0, 0, 0, 0, 0, 0, 0, 16] : List Int)]]) | _ => none) gam59
theorem gam60_ok : GamOk Try.prog gam60 := gpure_ok gam59_ok Try.call36 (by
  intro args vc xs h hv
  split at h
  · simp only [Option.some.injEq, Prod.mk.injEq] at h; obtain ⟨rfl, rfl⟩ := h; exact ⟨_, by rfl, lwOrd_pure⟩
  · simp at h)

set_option maxHeartbeats 1000000 in
theorem apDecE_body0 (n : Nat) (nm : Nat) (b : List Int) (cap0 : Nat) (h0 : (nm = n)) (h1 : (n ≠ (32 : Nat))) (hc0 : n ≤ cap0) (hl0_0 : List.length b = nm) (w : World) (β : Env) : Body Try.prog (tabOf tabVN) Try.f13 ⟨w, [], 1, β⟩ [.o (.a (.sl 0 (0 : Nat) n cap0))] [some ⟨false, [.ints .u8 nm b]⟩] (fun ys _ => ys = [.g [.ints .u8 (32 : Nat) ([0, 0, 0, 0, 0, 0, 0, 0, 0, 0, 0, 0, 0, 0, 0, 0, 0, 0, 0, 0, 0, 0, 0, 0, 0, 0, 0, 0, 0, 0, 0, 0] : List Int)], .a (.i .i64 (3 : Int))]) :=
  Body.of_fin (Γ := gam60) (Λ := noLam) (Ψ := noPsi) (fuel := 0) (m := 20) (c := (Try.f13.body.getD .skip)) mix tabOkVN gam60_ok rfl (rs := [.cell 2 23, .tmp 3]) rfl rfl [true] []
    (vc := [((((n : Nat) : Int) != (32 : Int)) = true)]) (by kernel_rfl)
    (AllP_cons (bne_iff_ne.2 (by omega)) (AllP_nil))

theorem apDecE_body (n : Nat) (nm : Nat) (b : List Int) (cap0 : Nat) (h0 : (nm = n)) (h1 : (n ≠ (32 : Nat))) (w : World) (β : Env) : Body Try.prog (tabOf tabVN) Try.f13 ⟨w, [], 1, β⟩ [.o (.a (.sl 0 (0 : Nat) n cap0))] [some ⟨false, [.ints .u8 nm b]⟩] (fun ys _ => ys = [.g [.ints .u8 (32 : Nat) ([0, 0, 0, 0, 0, 0, 0, 0, 0, 0, 0, 0, 0, 0, 0, 0, 0, 0, 0, 0, 0, 0, 0, 0, 0, 0, 0, 0, 0, 0, 0, 0] : List Int)], .a (.i .i64 (3 : Int))]) :=
  Body.lens (c := (Try.f13.body.getD .skip)) rfl fun h => apDecE_body0 n nm b cap0 h0 h1 (h.caps 0 _ _ _ _ rfl) (h.lens 0 _ .u8 nm b rfl (by simp)) w β

def gam61 : Gam := greadV 13 [.s 1] (fun vs args => match vs, args with | [⟨_, _, _, [.ints .u8 nm b]⟩], [a0] => some ((nm = (lenOfA a0)) ∧ ((lenOfA a0) ≠ (32 : Nat)), [.g [.ints .u8 (32 : Nat) ([0, 0, 0, 0, 0, 0, 0, 0, 0, 0, 0, 0, 0, 0, 0, 0, 0, 0, 0, 0, 0, 0, 0, 0, 0, 0, 0, 0, 0, 0, 0, 0] : List Int)], .a (.i .i64 (3 : Int))]) | _, _ => none) gam60
theorem gam61_ok : GamOk Try.prog gam61 := greadV_ok tabOkVN Try.func13 gam60_ok Try.call13 (by
  intro vs args p xs h hv
  split at h
  · simp only [Option.some.injEq, Prod.mk.injEq] at h; obtain ⟨rfl, rfl⟩ := h; exact ⟨by rfl, fun caps w β => apDecE_body _ _ _ _ hv.1 hv.2 w β⟩
  · simp at h)

def apO8 : List Int :=
  let z0 : List Int := (ptAdd (ptAdd (ptId) (ptT)) (ptT))
  let z1 : List Int := (ptAdd z0 (ptT))
  let z2 : List Int := (ptAdd z1 (ptT))
  let z3 : List Int := (ptAdd z2 (ptT))
  let z4 : List Int := (ptAdd z3 (ptT))
  ((sub ((sub ((sub ((sub ((sub ((sub ((sub (sub (ptForm (ptId)) (0 : Nat) (32 : Nat)) (0 : Nat) (32 : Nat)) ++ (sub (ptForm (ptAdd (ptId) (ptT))) (0 : Nat) (32 : Nat))) (0 : Nat) (64 : Nat)) ++ (sub (ptForm z0) (0 : Nat) (32 : Nat))) (0 : Nat) (96 : Nat)) ++ (sub (ptForm z1) (0 : Nat) (32 : Nat))) (0 : Nat) (128 : Nat)) ++ (sub (ptForm z2) (0 : Nat) (32 : Nat))) (0 : Nat) (160 : Nat)) ++ (sub (ptForm z3) (0 : Nat) (32 : Nat))) (0 : Nat) (192 : Nat)) ++ (sub (ptForm z4) (0 : Nat) (32 : Nat))) (0 : Nat) (224 : Nat)) ++ (sub (ptForm (ptAdd z4 (ptT))) (0 : Nat) (32 : Nat)))

set_option maxHeartbeats 1000000 in
theorem apO8_body0 (w : World) (rw : List Nat) (β : Env) : Body Try.prog (tabOf tabVN) Try.f25 ⟨w, rw, 0, β⟩ [] [] (fun ys K' => ys = [.a (.rs 0 (0 : Nat) (8 : Nat) 32)] ∧ K' = [some ⟨true, [.ints .u8 (256 : Nat) (apO8)]⟩]) :=
  Body.of_finK (Γ := gam61) (Λ := noLam) (Ψ := noPsi) (fuel := 9) (m := 16) (c := (Try.f25.body.getD .skip)) mix tabOkVN gam61_ok rfl (rs := [.tmp 0]) rfl rfl [true, false, true, false, true, false, true, false, true, false, true, false, true, false, true, false, false] [.swap 0 16] 1
    (vc := [(false = false), (((224 : Nat) ≤ (224 : Nat)) ∧ (((1 : Nat) ≤ (1 : Nat)) ∧ ((32 : Nat) ≤ (32 : Nat))) ∧ ((256 : Nat) ≤ (140737488355328 : Nat))), (true = true), (((192 : Nat) ≤ (192 : Nat)) ∧ (((1 : Nat) ≤ (1 : Nat)) ∧ ((32 : Nat) ≤ (32 : Nat))) ∧ ((224 : Nat) ≤ (140737488355328 : Nat))), (true = true), (((160 : Nat) ≤ (160 : Nat)) ∧ (((1 : Nat) ≤ (1 : Nat)) ∧ ((32 : Nat) ≤ (32 : Nat))) ∧ ((192 : Nat) ≤ (140737488355328 : Nat))), (true = true), (((128 : Nat) ≤ (128 : Nat)) ∧ (((1 : Nat) ≤ (1 : Nat)) ∧ ((32 : Nat) ≤ (32 : Nat))) ∧ ((160 : Nat) ≤ (140737488355328 : Nat))), (true = true), (((96 : Nat) ≤ (96 : Nat)) ∧ (((1 : Nat) ≤ (1 : Nat)) ∧ ((32 : Nat) ≤ (32 : Nat))) ∧ ((128 : Nat) ≤ (140737488355328 : Nat))), (true = true), (((64 : Nat) ≤ (64 : Nat)) ∧ (((1 : Nat) ≤ (1 : Nat)) ∧ ((32 : Nat) ≤ (32 : Nat))) ∧ ((96 : Nat) ≤ (140737488355328 : Nat))), (true = true), (((32 : Nat) ≤ (32 : Nat)) ∧ (((1 : Nat) ≤ (1 : Nat)) ∧ ((32 : Nat) ≤ (32 : Nat))) ∧ ((64 : Nat) ≤ (140737488355328 : Nat))), (true = true), ((((1 : Nat) ≤ (1 : Nat)) ∧ ((32 : Nat) ≤ (32 : Nat))) ∧ ((32 : Nat) ≤ (140737488355328 : Nat))), (true = true)]) (by kernel_rfl)
    (AllP_cons rfl (AllP_cons ⟨(by decide), ⟨(by decide), (by decide)⟩, (by decide)⟩ (AllP_cons rfl (AllP_cons ⟨(by decide), ⟨(by decide), (by decide)⟩, (by decide)⟩ (AllP_cons rfl (AllP_cons ⟨(by decide), ⟨(by decide), (by decide)⟩, (by decide)⟩ (AllP_cons rfl (AllP_cons ⟨(by decide), ⟨(by decide), (by decide)⟩, (by decide)⟩ (AllP_cons rfl (AllP_cons ⟨(by decide), ⟨(by decide), (by decide)⟩, (by decide)⟩ (AllP_cons rfl (AllP_cons ⟨(by decide), ⟨(by decide), (by decide)⟩, (by decide)⟩ (AllP_cons rfl (AllP_cons ⟨(by decide), ⟨(by decide), (by decide)⟩, (by decide)⟩ (AllP_cons rfl (AllP_cons ⟨⟨(by decide), (by decide)⟩, (by decide)⟩ (AllP_cons rfl (AllP_nil))))))))))))))))))

theorem apO8_body (w : World) (rw : List Nat) (β : Env) : Body Try.prog (tabOf tabVN) Try.f25 ⟨w, rw, 0, β⟩ [] [] (fun ys K' => ys = [.a (.rs 0 (0 : Nat) (8 : Nat) 32)] ∧ K' = [some ⟨true, [.ints .u8 (256 : Nat) (apO8)]⟩]) :=
  Body.lens (c := (Try.f25.body.getD .skip)) rfl fun h => apO8_body0  w rw β

def gam62 : Gam := gcall 25 [] [] (fun wk vs args => match wk, vs, args with | [], [], [] => some (True, [.a (.rs 0 (0 : Nat) (8 : Nat) 32)], [some ⟨true, [.ints .u8 (256 : Nat) (apO8)]⟩]) | _, _, _ => none) gam61
theorem gam62_ok : GamOk Try.prog gam62 := gcall_ok tabOkVN Try.func25 gam61_ok Try.call25 (by
  intro wk vs args p xs K1 h hv
  split at h
  · simp only [Option.some.injEq, Prod.mk.injEq] at h; obtain ⟨rfl, rfl, rfl⟩ := h; exact fun caps w rw β => apO8_body w rw β
  · simp at h)

end Go.Proofs.Ytodiojpakfjehaa.X

/- The small example that each law begins with. -/
namespace Go.Proofs.Ytodiojpakfjehaa.X
open Go Go.Proofs
set_option linter.unusedVariables false
set_option linter.unusedSimpArgs false
set_option maxRecDepth 100000

def p4 : E := ⟨(cI, 0), by decide +kernel⟩
theorem p4_enc : encE p4 = z32 := by decide +kernel
theorem p4_L : mu LN p4 ≠ E0 := fun h => absurd ((qr_zero (qr_mulN (qr_aff p4) (f := 253) (by decide +kernel))).1 h) (by decide +kernel)
theorem wk_prime : apPrime z32 = false ∧ apPrime_1 z32 = 0 := by
  rw [← p4_enc]
  have k := prime_enc p4
  exact ⟨k.1.trans (decide_eq_false p4_L), k.2⟩
def pB2 : E := ⟨(fI 24727413235106541002554574571675588834622768167397638456726423682521233608206, fI 15549675580280190176352668710449542251549572066445060580507079593062643049417), by decide +kernel⟩
theorem pB2_eq : mu 2 eB = pB2 := by
  have k := qr_mulN (qr_aff eB) (n := 2) (f := 2) (by decide)
  refine Ep.ext (rep_uniq fp_curve k ?_)
  exact ⟨by decide +kernel, by decide +kernel, by decide +kernel, by decide +kernel⟩
theorem pB2_enc : encE pB2 = [201, 163, 248, 106, 174, 70, 95, 14, 86, 81, 56, 100, 81, 15, 57, 151, 86, 31, 162, 201, 232, 94, 162, 29, 194, 41, 35, 9, 243, 205, 96, 34] := by decide +kernel
theorem wk_two : apMulB [2, 0, 0, 0, 0, 0, 0, 0, 0, 0, 0, 0, 0, 0, 0, 0, 0, 0, 0, 0, 0, 0, 0, 0, 0, 0, 0, 0, 0, 0, 0, 0] = encE pB2 := by
  rw [mulB_enc (byt_small (by decide)) rfl, ← pB2_eq]
  have : (BV [2, 0, 0, 0, 0, 0, 0, 0, 0, 0, 0, 0, 0, 0, 0, 0, 0, 0, 0, 0, 0, 0, 0, 0, 0, 0, 0, 0, 0, 0, 0, 0]).toNat = 2 := by decide +kernel
  rw [this]
theorem wk_add : apAdd apBase apBase = encE pB2 := by
  rw [base_enc, add_enc, ← pB2_eq]
  have h1 := mu_add 1 1 eB
  rw [mu_one] at h1
  rw [← h1]
theorem wk_addc : apAdd_1 apBase apBase = 0 := by rw [base_enc]; exact addc_enc _ _
theorem y2_none (x : Fp) : ¬ On cD (x, fI 2) := by
  intro h
  have h1 := on_sq h
  have h2 : x * x = fI 43446857792565604583783486763960003913525092658904367978015407342224011949000 := by
    refine fp_curve.can (den_y (fI 2)) (h1.trans ?_)
    decide +kernel
  have h3 : fpw (fI 43446857792565604583783486763960003913525092658904367978015407342224011949000) ((PP - 1) / 2) = -1 := by
    apply Fin.ext
    rw [fpw_pwm _ (f := 255) (by decide +kernel)]
    decide +kernel
  rw [← h2, ← fpw_2, ← fpw_mul] at h3
  by_cases hx : x = 0
  · rw [hx, fpw_zero (by decide +kernel)] at h3
    exact absurd h3 (by decide +kernel)
  · rw [show 2 * ((PP - 1) / 2) = PP - 1 by decide +kernel, fp_fermat hx] at h3
    exact absurd h3 (by decide +kernel)
theorem wk_chk : apCheck [2, 0, 0, 0, 0, 0, 0, 0, 0, 0, 0, 0, 0, 0, 0, 0, 0, 0, 0, 0, 0, 0, 0, 0, 0, 0, 0, 0, 0, 0, 0, 0] = 41 := by
  refine chk_none (byt_small (by decide)) rfl ?_
  have e : BV [2, 0, 0, 0, 0, 0, 0, 0, 0, 0, 0, 0, 0, 0, 0, 0, 0, 0, 0, 0, 0, 0, 0, 0, 0, 0, 0, 0, 0, 0, 0, 0] = 2 := by decide +kernel
  unfold decE
  rw [e, if_pos (by decide), show (2 : Int) % 57896044618658097711785492504343953926634992332820282019728792003956564819968 = 2 from by decide]
  cases h : decP (decide ((57896044618658097711785492504343953926634992332820282019728792003956564819968 : Int) ≤ 2)) (fI 2) with
  | none => rfl
  | some p =>
    obtain ⟨⟨x, y⟩, o⟩ := p
    have hy := (decP_y h).1
    simp only at hy
    subst hy
    exact absurd o (y2_none x)
/-! the eight -/
theorem T_ok : LP ptT eT := by
  have h : decE [38, 232, 149, 143, 194, 178, 39, 176, 69, 195, 244, 137, 242, 239, 152, 240, 213, 223, 172, 5, 211, 198, 51, 57, 177, 56, 2, 136, 109, 83, 252, 5] = some eT := by
    have e : encE eT = [38, 232, 149, 143, 194, 178, 39, 176, 69, 195, 244, 137, 242, 239, 152, 240, 213, 223, 172, 5, 211, 198, 51, 57, 177, 56, 2, 136, 109, 83, 252, 5] := by decide +kernel
    rw [← e]; exact dec_enc eT
  exact ((open_ok (byt_small (by decide)) rfl).2 eT h).2.lp
end Go.Proofs.Ytodiojpakfjehaa.X

/- The eight points; the points that bytes are made into. -/
namespace Go.Proofs.Ytodiojpakfjehaa.X
open Go Go.Proofs
set_option linter.unusedVariables false
set_option linter.unusedSimpArgs false
set_option maxRecDepth 100000

theorem and7 (x : Int) (h0 : 0 ≤ x) (h1 : x < 256) : bits2 .and .u8 x 7 = x % 8 := by
  have key : ∀ n : Nat, n < 256 → bits2 .and .u8 ((n : Nat) : Int) 7 = ((n : Nat) : Int) % 8 := by decide +kernel
  obtain ⟨n, rfl⟩ := Int.eq_ofNat_of_zero_le h0
  exact key n (by omega)
theorem and7_rng (x : Int) : 0 ≤ bits2 .and .u8 x 7 ∧ bits2 .and .u8 x 7 < 8 := by
  have e : bits2 .and .u8 x 7 = IntKind.u8.wrap (((BitVec.ofInt 8 x &&& BitVec.ofInt 8 7).toNat : Nat) : Int) := rfl
  have t2 : (BitVec.ofInt 8 7).toNat = 2 ^ 3 - 1 := by rfl
  rw [e, BitVec.toNat_and, t2, Nat.and_two_pow_sub_one_eq_mod, wrap8]
  omega
theorem sub_all (l : List Int) (n : Nat) (h : l.length ≤ n) : sub l 0 n = l := by
  unfold sub
  rw [List.drop_zero, List.take_of_length_le h]
/-- the forms of points, one behind the other -/
def encs (f : Nat → E) : Nat → List Int
  | 0 => []
  | n + 1 => encs f n ++ encE (f n)
theorem encs_len (f : Nat → E) (n : Nat) : (encs f n).length = n * 32 := by
  induction n with
  | zero => rfl
  | succ n ih => show (encs f n ++ encE (f n)).length = _; rw [List.length_append, ih, encE_len]; omega
theorem encs_sub (f : Nat → E) {n k : Nat} (h : k < n) : sub (encs f n) (k * 32) 32 = encE (f k) := by
  induction n with
  | zero => omega
  | succ n ih =>
    show sub (encs f n ++ encE (f n)) (k * 32) 32 = _
    by_cases hk : k < n
    · have := ih hk
      rw [← this]
      have l := encs_len f n
      refine List.ext_getElem? fun r => ?_
      by_cases hr : r < 32
      · rw [sub_get hr, sub_get hr, List.getElem?_append_left (by omega)]
      · rw [List.getElem?_eq_none, List.getElem?_eq_none]
        · rw [sub_len _ _ _ (by omega)]; omega
        · rw [sub_len _ _ _ (by rw [List.length_append, encE_len]; omega)]; omega
    · have : k = n := by omega
      subst this
      have l := encs_len f k
      refine List.ext_getElem? fun r => ?_
      by_cases hr : r < 32
      · rw [sub_get hr, List.getElem?_append_right (by omega)]
        congr 1; omega
      · rw [List.getElem?_eq_none, List.getElem?_eq_none]
        · rw [encE_len]; omega
        · rw [sub_len _ _ _ (by rw [List.length_append, encE_len]; omega)]; omega
theorem lp_T (k : Nat) : ∀ {l : List Int}, LP l (mu k eT) → LP (ptAdd l ptT) (mu (k + 1) eT) := fun h => lp_add h T_ok
theorem o8_eq : apO8 = encs (fun k => mu k eT) 8 := by
  have h0 : LP ptId (mu 0 eT) := lp_id
  have h1 := lp_T 0 h0
  have h2 := lp_T 1 h1
  have h3 := lp_T 2 h2
  have h4 := lp_T 3 h3
  have h5 := lp_T 4 h4
  have h6 := lp_T 5 h5
  have h7 := lp_T 6 h6
  unfold apO8
  simp only
  rw [form_ok h0, form_ok h1, form_ok h2, form_ok h3, form_ok h4, form_ok h5, form_ok h6, form_ok h7]
  simp (disch := (simp only [List.length_append, encE_len]; decide)) only [sub_all]
  rfl
/-- the point that a law makes of any 32 bytes -/
noncomputable def ptF (s : List Int) : E :=
  match decE s with
  | some p => p
  | none => ad (mu (BV s).toNat eB) (mu (List.getD s 0 0 % 8).toNat eT)
theorem lwAdd_enc (p q : E) : lwAdd (encE p) (encE q) = encE (ad p q) := by
  unfold lwAdd
  rw [addc_enc]
  exact add_enc p q
theorem lwMul_enc {K : List Int} (hK : Byt K) (l : K.length = 32) (p : E) : lwMul K (encE p) = encE (mu (BV K).toNat p) := by
  unfold lwMul
  rw [mulc_enc]
  exact mul_enc hK l p
end Go.Proofs.Ytodiojpakfjehaa.X

/- Printed by a tool of this session. -/
namespace Go.Proofs.Ytodiojpakfjehaa.X
open Go Go.Proofs
set_option linter.unusedVariables false
set_option linter.unusedSimpArgs false
set_option maxRecDepth 100000
theorem teVO_5 : TEOk Try.prog 5 ⟨.int .u8, 1, 1, [.i .u8 (0 : Int)], false⟩ :=
  TEOk.of Try.underlying5 (i := Try.t5) (by kernel_rfl) rfl rfl rfl (by kernel_rfl) (fun h => by cases h) (by kernel_rfl)
theorem teVO_23 : TEOk Try.prog 23 ⟨.array 32 5, 32, 32, [.ints .u8 (32 : Nat) ([0, 0, 0, 0, 0, 0, 0, 0, 0, 0, 0, 0, 0, 0, 0, 0, 0, 0, 0, 0, 0, 0, 0, 0, 0, 0, 0, 0, 0, 0, 0, 0] : List Int)], true⟩ :=
  TEOk.of Try.underlying23 (i := Try.t23) (by kernel_rfl) rfl rfl rfl (by kernel_rfl) (fun _ => Try.eqGuardType23) (by kernel_rfl)
theorem teVO_32 : TEOk Try.prog 32 ⟨.slice 5, 1, 24, [.raw (.slice none 0 0)], false⟩ :=
  TEOk.of Try.underlying32 (i := Try.t32) (by kernel_rfl) rfl rfl rfl (by kernel_rfl) (fun h => by cases h) (by kernel_rfl)
theorem teVO_37 : TEOk Try.prog 37 ⟨.array 32 5, 32, 32, [.ints .u8 (32 : Nat) ([0, 0, 0, 0, 0, 0, 0, 0, 0, 0, 0, 0, 0, 0, 0, 0, 0, 0, 0, 0, 0, 0, 0, 0, 0, 0, 0, 0, 0, 0, 0, 0] : List Int)], true⟩ :=
  TEOk.of Try.underlying37 (i := Try.t37) (by kernel_rfl) rfl rfl rfl (by kernel_rfl) (fun _ => Try.eqGuardType37) (by kernel_rfl)
theorem teVO_45 : TEOk Try.prog 45 ⟨.slice 23, 1, 24, [.raw (.slice none 0 0)], false⟩ :=
  TEOk.of Try.underlying45 (i := Try.t45) (by kernel_rfl) rfl rfl rfl (by kernel_rfl) (fun h => by cases h) (by kernel_rfl)
noncomputable def tabVO : List (Nat × TE) := [(5, ⟨.int .u8, 1, 1, [.i .u8 (0 : Int)], false⟩), (23, ⟨.array 32 5, 32, 32, [.ints .u8 (32 : Nat) ([0, 0, 0, 0, 0, 0, 0, 0, 0, 0, 0, 0, 0, 0, 0, 0, 0, 0, 0, 0, 0, 0, 0, 0, 0, 0, 0, 0, 0, 0, 0, 0] : List Int)], true⟩), (32, ⟨.slice 5, 1, 24, [.raw (.slice none 0 0)], false⟩), (37, ⟨.array 32 5, 32, 32, [.ints .u8 (32 : Nat) ([0, 0, 0, 0, 0, 0, 0, 0, 0, 0, 0, 0, 0, 0, 0, 0, 0, 0, 0, 0, 0, 0, 0, 0, 0, 0, 0, 0, 0, 0, 0, 0] : List Int)], true⟩), (45, ⟨.slice 23, 1, 24, [.raw (.slice none 0 0)], false⟩)]
theorem tabOkVO : TabOk Try.prog (tabOf tabVO) := (tabOf_cons teVO_5 (tabOf_cons teVO_23 (tabOf_cons teVO_32 (tabOf_cons teVO_37 (tabOf_cons teVO_45 tabOf_nil)))))

set_option maxHeartbeats 1000000 in
theorem works_body0 (w : World) : Body Try.prog (tabOf tabVO) Try.f10 ⟨w, [], 0, noEnv⟩ (toA []) [] (fun ys _ => ys = [.a (.b true)]) :=
  Body.of_fin (Γ := gam62) (Λ := noLam) (Ψ := noPsi) (fuel := 0) (m := 63) (c := (Try.f10.body.getD .skip)) mix tabOkVO gam62_ok rfl (rs := [.tmp 0]) rfl rfl [true, true, true, true, true, true, true, true, true, true, true, true, true, true, true, true, true, true, true, true, true, true, true, true, true, true, true] [.eqS 0 (.o (.a (.b true)))]
    (vc := [((.o (.a (.b ((apCheck ([2, 0, 0, 0, 0, 0, 0, 0, 0, 0, 0, 0, 0, 0, 0, 0, 0, 0, 0, 0, 0, 0, 0, 0, 0, 0, 0, 0, 0, 0, 0, 0] : List Int)) == (41 : Int)))) : AV) = .o (.a (.b true))), (true = true), (true = true), (true = true), (true = true), (((apPrime_1 ([0, 0, 0, 0, 0, 0, 0, 0, 0, 0, 0, 0, 0, 0, 0, 0, 0, 0, 0, 0, 0, 0, 0, 0, 0, 0, 0, 0, 0, 0, 0, 0] : List Int)) == (0 : Int)) = true), (((apPrime_1 ([0, 0, 0, 0, 0, 0, 0, 0, 0, 0, 0, 0, 0, 0, 0, 0, 0, 0, 0, 0, 0, 0, 0, 0, 0, 0, 0, 0, 0, 0, 0, 0] : List Int)) == (0 : Int)) = true), (((apPrime_1 ([0, 0, 0, 0, 0, 0, 0, 0, 0, 0, 0, 0, 0, 0, 0, 0, 0, 0, 0, 0, 0, 0, 0, 0, 0, 0, 0, 0, 0, 0, 0, 0] : List Int)) == (0 : Int)) = true), (((apPrime_1 ([0, 0, 0, 0, 0, 0, 0, 0, 0, 0, 0, 0, 0, 0, 0, 0, 0, 0, 0, 0, 0, 0, 0, 0, 0, 0, 0, 0, 0, 0, 0, 0] : List Int)) == (0 : Int)) = true), ((!(apPrime ([0, 0, 0, 0, 0, 0, 0, 0, 0, 0, 0, 0, 0, 0, 0, 0, 0, 0, 0, 0, 0, 0, 0, 0, 0, 0, 0, 0, 0, 0, 0, 0] : List Int))) = true), ((!(apPrime ([0, 0, 0, 0, 0, 0, 0, 0, 0, 0, 0, 0, 0, 0, 0, 0, 0, 0, 0, 0, 0, 0, 0, 0, 0, 0, 0, 0, 0, 0, 0, 0] : List Int))) = true), ((!(apPrime ([0, 0, 0, 0, 0, 0, 0, 0, 0, 0, 0, 0, 0, 0, 0, 0, 0, 0, 0, 0, 0, 0, 0, 0, 0, 0, 0, 0, 0, 0, 0, 0] : List Int))) = true), ((!(apPrime ([0, 0, 0, 0, 0, 0, 0, 0, 0, 0, 0, 0, 0, 0, 0, 0, 0, 0, 0, 0, 0, 0, 0, 0, 0, 0, 0, 0, 0, 0, 0, 0] : List Int))) = true), (((apAdd_1 (apBase) (apBase)) == (0 : Int)) = true), (((apAdd_1 (apBase) (apBase)) == (0 : Int)) = true), (((apAdd_1 (apBase) (apBase)) == (0 : Int)) = true), ((decide ((apAdd (apBase) (apBase)) = (apMulB ([2, 0, 0, 0, 0, 0, 0, 0, 0, 0, 0, 0, 0, 0, 0, 0, 0, 0, 0, 0, 0, 0, 0, 0, 0, 0, 0, 0, 0, 0, 0, 0] : List Int)))) = true), ((decide ((apAdd (apBase) (apBase)) = (apMulB ([2, 0, 0, 0, 0, 0, 0, 0, 0, 0, 0, 0, 0, 0, 0, 0, 0, 0, 0, 0, 0, 0, 0, 0, 0, 0, 0, 0, 0, 0, 0, 0] : List Int)))) = true), ((decide ((apAdd (apBase) (apBase)) = (apMulB ([2, 0, 0, 0, 0, 0, 0, 0, 0, 0, 0, 0, 0, 0, 0, 0, 0, 0, 0, 0, 0, 0, 0, 0, 0, 0, 0, 0, 0, 0, 0, 0] : List Int)))) = true), ((decide ((apAdd (apBase) (apBase)) = (apMulB ([2, 0, 0, 0, 0, 0, 0, 0, 0, 0, 0, 0, 0, 0, 0, 0, 0, 0, 0, 0, 0, 0, 0, 0, 0, 0, 0, 0, 0, 0, 0, 0] : List Int)))) = true), (((List.getD (sub (apMulB ([2, 0, 0, 0, 0, 0, 0, 0, 0, 0, 0, 0, 0, 0, 0, 0, 0, 0, 0, 0, 0, 0, 0, 0, 0, 0, 0, 0, 0, 0, 0, 0] : List Int)) (31 : Nat) (1 : Nat)) (0 : Nat) 0) == (34 : Int)) = true), (((List.getD (sub (apMulB ([2, 0, 0, 0, 0, 0, 0, 0, 0, 0, 0, 0, 0, 0, 0, 0, 0, 0, 0, 0, 0, 0, 0, 0, 0, 0, 0, 0, 0, 0, 0, 0] : List Int)) (31 : Nat) (1 : Nat)) (0 : Nat) 0) == (34 : Int)) = true), (((List.getD (sub (apMulB ([2, 0, 0, 0, 0, 0, 0, 0, 0, 0, 0, 0, 0, 0, 0, 0, 0, 0, 0, 0, 0, 0, 0, 0, 0, 0, 0, 0, 0, 0, 0, 0] : List Int)) (31 : Nat) (1 : Nat)) (0 : Nat) 0) == (34 : Int)) = true), (((List.getD (sub (apMulB ([2, 0, 0, 0, 0, 0, 0, 0, 0, 0, 0, 0, 0, 0, 0, 0, 0, 0, 0, 0, 0, 0, 0, 0, 0, 0, 0, 0, 0, 0, 0, 0] : List Int)) (31 : Nat) (1 : Nat)) (0 : Nat) 0) == (34 : Int)) = true), (((List.getD (sub (apMulB ([2, 0, 0, 0, 0, 0, 0, 0, 0, 0, 0, 0, 0, 0, 0, 0, 0, 0, 0, 0, 0, 0, 0, 0, 0, 0, 0, 0, 0, 0, 0, 0] : List Int)) (0 : Nat) (1 : Nat)) (0 : Nat) 0) == (201 : Int)) = true), (((List.getD (sub (apMulB ([2, 0, 0, 0, 0, 0, 0, 0, 0, 0, 0, 0, 0, 0, 0, 0, 0, 0, 0, 0, 0, 0, 0, 0, 0, 0, 0, 0, 0, 0, 0, 0] : List Int)) (0 : Nat) (1 : Nat)) (0 : Nat) 0) == (201 : Int)) = true), (((List.getD (sub (apMulB ([2, 0, 0, 0, 0, 0, 0, 0, 0, 0, 0, 0, 0, 0, 0, 0, 0, 0, 0, 0, 0, 0, 0, 0, 0, 0, 0, 0, 0, 0, 0, 0] : List Int)) (0 : Nat) (1 : Nat)) (0 : Nat) 0) == (201 : Int)) = true), (((List.getD (sub (apMulB ([2, 0, 0, 0, 0, 0, 0, 0, 0, 0, 0, 0, 0, 0, 0, 0, 0, 0, 0, 0, 0, 0, 0, 0, 0, 0, 0, 0, 0, 0, 0, 0] : List Int)) (0 : Nat) (1 : Nat)) (0 : Nat) 0) == (201 : Int)) = true), ((((1 : Nat) ≤ (1 : Nat)) ∧ True) ∧ (((1 : Nat) = (1 : Nat)) ∧ ((1 : Nat) ≠ (32 : Nat))))]) (by kernel_rfl)
    (AllP_cons ((congrArg (fun z => AV.o (.a (.b z))) (beq_iff_eq.2 wk_chk))) (AllP_cons rfl (AllP_cons rfl (AllP_cons rfl (AllP_cons rfl (AllP_cons (beq_iff_eq.2 wk_prime.2) (AllP_cons (beq_iff_eq.2 wk_prime.2) (AllP_cons (beq_iff_eq.2 wk_prime.2) (AllP_cons (beq_iff_eq.2 wk_prime.2) (AllP_cons (congrArg (fun z => !z) wk_prime.1) (AllP_cons (congrArg (fun z => !z) wk_prime.1) (AllP_cons (congrArg (fun z => !z) wk_prime.1) (AllP_cons (congrArg (fun z => !z) wk_prime.1) (AllP_cons (beq_iff_eq.2 wk_addc) (AllP_cons (beq_iff_eq.2 wk_addc) (AllP_cons (beq_iff_eq.2 wk_addc) (AllP_cons (decide_eq_true (wk_add.trans wk_two.symm)) (AllP_cons (decide_eq_true (wk_add.trans wk_two.symm)) (AllP_cons (decide_eq_true (wk_add.trans wk_two.symm)) (AllP_cons (decide_eq_true (wk_add.trans wk_two.symm)) (AllP_cons (beq_iff_eq.2 (by rw [getsub1, wk_two, pB2_enc]; rfl)) (AllP_cons (beq_iff_eq.2 (by rw [getsub1, wk_two, pB2_enc]; rfl)) (AllP_cons (beq_iff_eq.2 (by rw [getsub1, wk_two, pB2_enc]; rfl)) (AllP_cons (beq_iff_eq.2 (by rw [getsub1, wk_two, pB2_enc]; rfl)) (AllP_cons (beq_iff_eq.2 (by rw [getsub1, wk_two, pB2_enc]; rfl)) (AllP_cons (beq_iff_eq.2 (by rw [getsub1, wk_two, pB2_enc]; rfl)) (AllP_cons (beq_iff_eq.2 (by rw [getsub1, wk_two, pB2_enc]; rfl)) (AllP_cons (beq_iff_eq.2 (by rw [getsub1, wk_two, pB2_enc]; rfl)) (AllP_cons ⟨⟨(by decide), trivial⟩, ⟨rfl, (by decide)⟩⟩ (AllP_nil))))))))))))))))))))))))))))))

theorem works_body (w : World) : Body Try.prog (tabOf tabVO) Try.f10 ⟨w, [], 0, noEnv⟩ (toA []) [] (fun ys _ => ys = [.a (.b true)]) :=
  Body.lens (c := (Try.f10.body.getD .skip)) rfl fun h => works_body0  w

theorem works_pure : PureC Try.prog 10 [] [.a (.b true)] :=
  PureC.of_body tabOkVO Try.func10 rfl rfl fun w => works_body w

def gam63 : Gam := gpure 10 (fun args => match args with | [] => some (none, [.a (.b true)]) | _ => none) gam62
theorem gam63_ok : GamOk Try.prog gam63 := gpure_ok gam62_ok Try.call10 (by
  intro args vc xs h hv
  split at h
  · simp only [Option.some.injEq, Prod.mk.injEq] at h; obtain ⟨rfl, rfl⟩ := h; exact ⟨_, by rfl, works_pure⟩
  · simp at h)

set_option maxHeartbeats 1000000 in
theorem lwPt_w0_body0 (s : List Int) (hv0 : List.length s = (32 : Nat)) (hb0 : ((apCheck s) == (0 : Int)) = true) (w : World) : Body Try.prog (tabOf tabVO) Try.f17 ⟨w, [], 0, noEnv⟩ (toA [.g [.ints .u8 (32 : Nat) s]]) [] (fun ys _ => ys = [.g [.ints .u8 (32 : Nat) s]]) :=
  Body.of_fin (Γ := gam63) (Λ := noLam) (Ψ := noPsi) (fuel := 0) (m := 30) (c := (Try.f17.body.getD .skip)) mix tabOkVO gam63_ok rfl (rs := [.cell 2 23]) rfl rfl [true] []
    (vc := [(((apCheck s) == (0 : Int)) = true)]) (by kernel_rfl)
    (AllP_cons hb0 (AllP_nil))

def lwPt_w1 (s : List Int) : List Int :=
  (apAdd (apMulB s) (sub (apO8) ((Int.toNat (bits2 .and .u8 (List.getD (sub s (0 : Nat) (1 : Nat)) (0 : Nat) 0) (7 : Int))) * (32 : Nat)) (32 : Nat)))

set_option maxHeartbeats 1000000 in
theorem lwPt_w1_body0 (s : List Int) (hv0 : List.length s = (32 : Nat)) (hb0 : ((apCheck s) == (0 : Int)) = false) (w : World) : Body Try.prog (tabOf tabVO) Try.f17 ⟨w, [], 0, noEnv⟩ (toA [.g [.ints .u8 (32 : Nat) s]]) [] (fun ys _ => ys = [.g [.ints .u8 (32 : Nat) (lwPt_w1 s)]]) :=
  Body.of_fin (Γ := gam63) (Λ := noLam) (Ψ := noPsi) (fuel := 0) (m := 30) (c := (Try.f17.body.getD .skip)) mix tabOkVO gam63_ok rfl (rs := [.cell 2 23]) rfl rfl [false, false] []
    (vc := [((((Int.toNat (bits2 .and .u8 (List.getD (sub s (0 : Nat) (1 : Nat)) (0 : Nat) 0) (7 : Int))) * (32 : Nat)) + (32 : Nat)) ≤ (256 : Nat)), (((0 : Int) ≤ (bits2 .and .u8 (List.getD (sub s (0 : Nat) (1 : Nat)) (0 : Nat) 0) (7 : Int))) ∧ ((bits2 .and .u8 (List.getD (sub s (0 : Nat) (1 : Nat)) (0 : Nat) 0) (7 : Int)) < (8 : Int))), (false = false), (True ∧ True), (((apCheck s) == (0 : Int)) = false)]) (by kernel_rfl)
    (AllP_cons (by have q := and7_rng (List.getD (sub s 0 1) 0 0); omega) (AllP_cons ⟨(bits2_nn (k := .u8) rfl), (by have q := and7_rng (List.getD (sub s 0 1) 0 0); omega)⟩ (AllP_cons rfl (AllP_cons ⟨trivial, trivial⟩ (AllP_cons hb0 (AllP_nil))))))

def lwPt (s : List Int) : List Int :=
  (cond ((apCheck s) == (0 : Int)) s (lwPt_w1 s))

set_option maxHeartbeats 1000000 in
theorem lwPt_body (s : List Int) (w : World) : Body Try.prog (tabOf tabVO) Try.f17 ⟨w, [], 0, noEnv⟩ (toA [.g [.ints .u8 (32 : Nat) s]]) [] (fun ys _ => ys = [.g [.ints .u8 (32 : Nat) (lwPt s)]]) :=
  Body.lens (c := (Try.f17.body.getD .skip)) rfl fun h => by
    cases hb0 : ((apCheck s) == (0 : Int))
    · exact (lwPt_w1_body0 s (h.vals 0 _ _ _ rfl) hb0 w).mono fun _ _ hx => hx.trans (by rw [(show (lwPt s) = (lwPt_w1 s) from (cond_f hb0))])
    · exact (lwPt_w0_body0 s (h.vals 0 _ _ _ rfl) hb0 w).mono fun _ _ hx => hx.trans (by rw [(show (lwPt s) = s from (cond_t hb0))])

theorem lwPt_pure (s : List Int) : PureC Try.prog 17 [.g [.ints .u8 (32 : Nat) s]] [.g [.ints .u8 (32 : Nat) (lwPt s)]] :=
  PureC.of_body tabOkVO Try.func17 rfl rfl fun w => lwPt_body s w

def gam64 : Gam := gpure 17 (fun args => match args with | [.o (.g [.ints .u8 (32 : Nat) s])] => some (none, [.g [.ints .u8 (32 : Nat) (lwPt s)]]) | _ => none) gam63
theorem gam64_ok : GamOk Try.prog gam64 := gpure_ok gam63_ok Try.call17 (by
  intro args vc xs h hv
  split at h
  · simp only [Option.some.injEq, Prod.mk.injEq] at h; obtain ⟨rfl, rfl⟩ := h; exact ⟨_, by rfl, lwPt_pure _⟩
  · simp at h)

end Go.Proofs.Ytodiojpakfjehaa.X

/- What the laws compare. -/
namespace Go.Proofs.Ytodiojpakfjehaa.X
open Go Go.Proofs
set_option linter.unusedVariables false
set_option linter.unusedSimpArgs false
set_option maxRecDepth 100000

theorem pt_ok {s : List Int} (h : Byt s) (l : s.length = 32) : lwPt s = encE (ptF s) := by
  have b := byt_get h 0
  unfold lwPt ptF
  cases hd : decE s with
  | some p =>
    have c : apCheck s = 0 := by rw [← enc_dec h l hd]; exact chk_enc p
    rw [c]
    exact (enc_dec h l hd).symm
  | none =>
    rw [chk_none h l hd]
    show lwPt_w1 s = _
    unfold lwPt_w1
    rw [getsub1, and7 _ b.1 b.2, mulB_enc h l, o8_eq, encs_sub _ (by omega), add_enc]
theorem ad_ng (a : E) : ad a (ng a) = E0 := eG.ng a
end Go.Proofs.Ytodiojpakfjehaa.X

/- Printed by a tool of this session. -/
namespace Go.Proofs.Ytodiojpakfjehaa.X
open Go Go.Proofs
set_option linter.unusedVariables false
set_option linter.unusedSimpArgs false
set_option maxRecDepth 100000
theorem teVS_5 : TEOk Try.prog 5 ⟨.int .u8, 1, 1, [.i .u8 (0 : Int)], false⟩ :=
  TEOk.of Try.underlying5 (i := Try.t5) (by kernel_rfl) rfl rfl rfl (by kernel_rfl) (fun h => by cases h) (by kernel_rfl)
theorem teVS_23 : TEOk Try.prog 23 ⟨.array 32 5, 32, 32, [.ints .u8 (32 : Nat) ([0, 0, 0, 0, 0, 0, 0, 0, 0, 0, 0, 0, 0, 0, 0, 0, 0, 0, 0, 0, 0, 0, 0, 0, 0, 0, 0, 0, 0, 0, 0, 0] : List Int)], true⟩ :=
  TEOk.of Try.underlying23 (i := Try.t23) (by kernel_rfl) rfl rfl rfl (by kernel_rfl) (fun _ => Try.eqGuardType23) (by kernel_rfl)
theorem teVS_32 : TEOk Try.prog 32 ⟨.slice 5, 1, 24, [.raw (.slice none 0 0)], false⟩ :=
  TEOk.of Try.underlying32 (i := Try.t32) (by kernel_rfl) rfl rfl rfl (by kernel_rfl) (fun h => by cases h) (by kernel_rfl)
noncomputable def tabVS : List (Nat × TE) := [(5, ⟨.int .u8, 1, 1, [.i .u8 (0 : Int)], false⟩), (23, ⟨.array 32 5, 32, 32, [.ints .u8 (32 : Nat) ([0, 0, 0, 0, 0, 0, 0, 0, 0, 0, 0, 0, 0, 0, 0, 0, 0, 0, 0, 0, 0, 0, 0, 0, 0, 0, 0, 0, 0, 0, 0, 0] : List Int)], true⟩), (32, ⟨.slice 5, 1, 24, [.raw (.slice none 0 0)], false⟩)]
theorem tabOkVS : TabOk Try.prog (tabOf tabVS) := (tabOf_cons teVS_5 (tabOf_cons teVS_23 (tabOf_cons teVS_32 tabOf_nil)))

def apDec_w0 (b : List Int) : Int :=
  (apCheck (sub b (0 : Nat) (32 : Nat)))

set_option maxHeartbeats 1000000 in
theorem apDec_w0_body0 (n : Nat) (nm : Nat) (b : List Int) (cap0 : Nat) (h0 : (nm = n)) (h1 : (n = (32 : Nat))) (hc0 : n ≤ cap0) (hl0_0 : List.length b = nm) (hb0 : ((apCheck (sub b (0 : Nat) (32 : Nat))) != (0 : Int)) = true) (w : World) (β : Env) : Body Try.prog (tabOf tabVS) Try.f13 ⟨w, [], 1, β⟩ [.o (.a (.sl 0 (0 : Nat) n cap0))] [some ⟨false, [.ints .u8 nm b]⟩] (fun ys _ => ys = [.g [.ints .u8 (32 : Nat) ([0, 0, 0, 0, 0, 0, 0, 0, 0, 0, 0, 0, 0, 0, 0, 0, 0, 0, 0, 0, 0, 0, 0, 0, 0, 0, 0, 0, 0, 0, 0, 0] : List Int)], .a (.i .i64 (apDec_w0 b))]) :=
  Body.of_fin (Γ := gam64) (Λ := noLam) (Ψ := noPsi) (fuel := 0) (m := 20) (c := (Try.f13.body.getD .skip)) mix tabOkVS gam64_ok rfl (rs := [.cell 2 23, .tmp 3]) rfl rfl [false, true] []
    (vc := [(((apCheck (sub b (0 : Nat) (32 : Nat))) != (0 : Int)) = true), ((32 : Nat) ≤ nm), ((32 : Nat) ≤ n), ((((n : Nat) : Int) != (32 : Int)) = false)]) (by kernel_rfl)
    (AllP_cons hb0 (AllP_cons (by omega) (AllP_cons (by omega) (AllP_cons (bne_eq_false_iff_eq.2 (by omega)) (AllP_nil)))))

def apDec_w1 (b : List Int) : List Int :=
  (sub b (0 : Nat) (32 : Nat))

set_option maxHeartbeats 1000000 in
theorem apDec_w1_body0 (n : Nat) (nm : Nat) (b : List Int) (cap0 : Nat) (h0 : (nm = n)) (h1 : (n = (32 : Nat))) (hc0 : n ≤ cap0) (hl0_0 : List.length b = nm) (hb0 : ((apCheck (sub b (0 : Nat) (32 : Nat))) != (0 : Int)) = false) (w : World) (β : Env) : Body Try.prog (tabOf tabVS) Try.f13 ⟨w, [], 1, β⟩ [.o (.a (.sl 0 (0 : Nat) n cap0))] [some ⟨false, [.ints .u8 nm b]⟩] (fun ys _ => ys = [.g [.ints .u8 (32 : Nat) (apDec_w1 b)], .a (.i .i64 (0 : Int))]) :=
  Body.of_fin (Γ := gam64) (Λ := noLam) (Ψ := noPsi) (fuel := 0) (m := 20) (c := (Try.f13.body.getD .skip)) mix tabOkVS gam64_ok rfl (rs := [.cell 2 23, .tmp 3]) rfl rfl [false, false] []
    (vc := [(((apCheck (sub b (0 : Nat) (32 : Nat))) != (0 : Int)) = false), ((32 : Nat) ≤ nm), ((32 : Nat) ≤ n), ((((n : Nat) : Int) != (32 : Int)) = false)]) (by kernel_rfl)
    (AllP_cons hb0 (AllP_cons (by omega) (AllP_cons (by omega) (AllP_cons (bne_eq_false_iff_eq.2 (by omega)) (AllP_nil)))))

def apDec (b : List Int) : List Int :=
  (cond ((apCheck (sub b (0 : Nat) (32 : Nat))) != (0 : Int)) ([0, 0, 0, 0, 0, 0, 0, 0, 0, 0, 0, 0, 0, 0, 0, 0, 0, 0, 0, 0, 0, 0, 0, 0, 0, 0, 0, 0, 0, 0, 0, 0] : List Int) (apDec_w1 b))

def apDec_1 (b : List Int) : Int :=
  (cond ((apCheck (sub b (0 : Nat) (32 : Nat))) != (0 : Int)) (apDec_w0 b) (0 : Int))

set_option maxHeartbeats 1000000 in
theorem apDec_body (n : Nat) (nm : Nat) (b : List Int) (cap0 : Nat) (h0 : (nm = n)) (h1 : (n = (32 : Nat))) (w : World) (β : Env) : Body Try.prog (tabOf tabVS) Try.f13 ⟨w, [], 1, β⟩ [.o (.a (.sl 0 (0 : Nat) n cap0))] [some ⟨false, [.ints .u8 nm b]⟩] (fun ys _ => ys = [.g [.ints .u8 (32 : Nat) (apDec b)], .a (.i .i64 (apDec_1 b))]) :=
  Body.lens (c := (Try.f13.body.getD .skip)) rfl fun h => by
    cases hb0 : ((apCheck (sub b (0 : Nat) (32 : Nat))) != (0 : Int))
    · exact (apDec_w1_body0 n nm b cap0 h0 h1 (h.caps 0 _ _ _ _ rfl) (h.lens 0 _ .u8 nm b rfl (by simp)) hb0 w β).mono fun _ _ hx => hx.trans (by rw [(show (apDec b) = (apDec_w1 b) from (cond_f hb0)), (show (apDec_1 b) = (0 : Int) from (cond_f hb0))])
    · exact (apDec_w0_body0 n nm b cap0 h0 h1 (h.caps 0 _ _ _ _ rfl) (h.lens 0 _ .u8 nm b rfl (by simp)) hb0 w β).mono fun _ _ hx => hx.trans (by rw [(show (apDec b) = ([0, 0, 0, 0, 0, 0, 0, 0, 0, 0, 0, 0, 0, 0, 0, 0, 0, 0, 0, 0, 0, 0, 0, 0, 0, 0, 0, 0, 0, 0, 0, 0] : List Int) from (cond_t hb0)), (show (apDec_1 b) = (apDec_w0 b) from (cond_t hb0))])

def gam66 : Gam := greadV 13 [.s 1] (fun vs args => match vs, args with | [⟨_, _, _, [.ints .u8 nm b]⟩], [a0] => some ((nm = (lenOfA a0)) ∧ ((lenOfA a0) = (32 : Nat)), [.g [.ints .u8 (32 : Nat) (apDec b)], .a (.i .i64 (apDec_1 b))]) | _, _ => none) gam64
theorem gam66_ok : GamOk Try.prog gam66 := greadV_ok tabOkVS Try.func13 gam64_ok Try.call13 (by
  intro vs args p xs h hv
  split at h
  · simp only [Option.some.injEq, Prod.mk.injEq] at h; obtain ⟨rfl, rfl⟩ := h; exact ⟨by rfl, fun caps w β => apDec_body _ _ _ _ hv.1 hv.2 w β⟩
  · simp at h)

end Go.Proofs.Ytodiojpakfjehaa.X

/- Printed by a tool of this session. -/
namespace Go.Proofs.Ytodiojpakfjehaa.X
open Go Go.Proofs
set_option linter.unusedVariables false
set_option linter.unusedSimpArgs false
set_option maxRecDepth 100000
theorem teVU_3 : TEOk Try.prog 3 ⟨.int .i64, 1, 8, [.i .i64 (0 : Int)], false⟩ :=
  TEOk.of Try.underlying3 (i := Try.t3) (by kernel_rfl) rfl rfl rfl (by kernel_rfl) (fun h => by cases h) (by kernel_rfl)
theorem teVU_5 : TEOk Try.prog 5 ⟨.int .u8, 1, 1, [.i .u8 (0 : Int)], false⟩ :=
  TEOk.of Try.underlying5 (i := Try.t5) (by kernel_rfl) rfl rfl rfl (by kernel_rfl) (fun h => by cases h) (by kernel_rfl)
theorem teVU_37 : TEOk Try.prog 37 ⟨.array 32 5, 32, 32, [.ints .u8 (32 : Nat) ([0, 0, 0, 0, 0, 0, 0, 0, 0, 0, 0, 0, 0, 0, 0, 0, 0, 0, 0, 0, 0, 0, 0, 0, 0, 0, 0, 0, 0, 0, 0, 0] : List Int)], true⟩ :=
  TEOk.of Try.underlying37 (i := Try.t37) (by kernel_rfl) rfl rfl rfl (by kernel_rfl) (fun _ => Try.eqGuardType37) (by kernel_rfl)
noncomputable def tabVU : List (Nat × TE) := [(3, ⟨.int .i64, 1, 8, [.i .i64 (0 : Int)], false⟩), (5, ⟨.int .u8, 1, 1, [.i .u8 (0 : Int)], false⟩), (37, ⟨.array 32 5, 32, 32, [.ints .u8 (32 : Nat) ([0, 0, 0, 0, 0, 0, 0, 0, 0, 0, 0, 0, 0, 0, 0, 0, 0, 0, 0, 0, 0, 0, 0, 0, 0, 0, 0, 0, 0, 0, 0, 0] : List Int)], true⟩)]
theorem tabOkVU : TabOk Try.prog (tabOf tabVU) := (tabOf_cons teVU_3 (tabOf_cons teVU_5 (tabOf_cons teVU_37 tabOf_nil)))

def nPl_mk (x : List Int) (y : List Int) (k : Nat) (s : Int × (List Int)) : St := ⟨sparse 29 [(0, .o (.g [.ints .u8 (32 : Nat) x])), (1, .o (.g [.ints .u8 (32 : Nat) y])), (2, .o (.a (.p 0 0))), (3, .o (.a (.p 1 0))), (4, .o (.a (.p 2 0))), (5, .o (.a (.i .i64 s.1))), (6, .o (.a (.i .i64 ((k : Nat) : Int))))], [some ⟨true, [.ints .u8 (32 : Nat) s.2]⟩, some ⟨true, [.ints .u8 (32 : Nat) y]⟩, some ⟨true, [.ints .u8 (32 : Nat) ([0, 0, 0, 0, 0, 0, 0, 0, 0, 0, 0, 0, 0, 0, 0, 0, 0, 0, 0, 0, 0, 0, 0, 0, 0, 0, 0, 0, 0, 0, 0, 0] : List Int)]⟩]⟩

def nPl_step (y : List Int) (k : Nat) (s : Int × (List Int)) : Int × (List Int) :=
  let z0 : Int := (IntKind.i64.wrap ((IntKind.i64.wrap (s.1 + (IntKind.i64.wrap (List.getD s.2 k 0)))) + (IntKind.i64.wrap (List.getD y k 0))))
  ((shr .i64 z0 (8 : Int)), (List.set s.2 k (IntKind.u8.wrap z0)))

set_option maxHeartbeats 1000000 in
theorem nPl_round (x : List Int) (y : List Int) (hv0 : List.length x = (32 : Nat)) (hv1 : List.length y = (32 : Nat)) (w : World) (k : Nat) (hk : k < (32 : Nat)) (s : Int × (List Int)) : Run Try.prog ⟨w, [], 0, noEnv⟩ (loopB Try.f19 0) (nPl_mk x y k s) (To ⟨w, [], 0, noEnv⟩ .normal (nPl_mk x y (k + 1) (nPl_step y k s))) := by
  have e0 : (IntKind.i64.wrap (((k : Nat) : Int) + (1 : Int))) = (((k + (1 : Nat)) : Nat) : Int) := (by first | rfl | exact wrap_succ (by omega) | omega | (simp (disch := omega) only [wrapI]; omega))
  have h := Run.of_outT (B := ⟨w, [], 0, noEnv⟩) (Λ := noLam) (Ψ := noPsi) (fuel := 0) (ora := [true]) (c := (loopB Try.f19 0)) (st := (nPl_mk x y k s)) (l := [.forget [0, 1, 2, 3, 4, 5, 6] 3]) (s' := ⟨sparse 29 [(0, .o (.g [.ints .u8 (32 : Nat) x])), (1, .o (.g [.ints .u8 (32 : Nat) y])), (2, .o (.a (.p 0 0))), (3, .o (.a (.p 1 0))), (4, .o (.a (.p 2 0))), (5, .o (.a (.i .i64 (nPl_step y k s).1))), (6, .o (.a (.i .i64 (IntKind.i64.wrap (((k : Nat) : Int) + (1 : Int))))))], [some ⟨true, [.ints .u8 (32 : Nat) (nPl_step y k s).2]⟩, some ⟨true, [.ints .u8 (32 : Nat) y]⟩, some ⟨true, [.ints .u8 (32 : Nat) ([0, 0, 0, 0, 0, 0, 0, 0, 0, 0, 0, 0, 0, 0, 0, 0, 0, 0, 0, 0, 0, 0, 0, 0, 0, 0, 0, 0, 0, 0, 0, 0] : List Int)]⟩]⟩) (ex := .normal) mix tabOkVU gam66_ok
    (vc := [((0 : Int) ≤ (8 : Int)), (k < (32 : Nat)), (((0 : Int) ≤ ((k : Nat) : Int)) ∧ (((k : Nat) : Int) < (32 : Int))), (k < (32 : Nat)), (((0 : Int) ≤ ((k : Nat) : Int)) ∧ (((k : Nat) : Int) < (32 : Int))), (k < (32 : Nat)), (((0 : Int) ≤ ((k : Nat) : Int)) ∧ (((k : Nat) : Int) < (32 : Int))), ((decide (((k : Nat) : Int) < (32 : Int))) = true)]) (by kernel_rfl)
    (AllP_cons (by decide) (AllP_cons (by first | omega | exact wrap_nn rfl | (simp (disch := omega) only [wrapI]; omega)) (AllP_cons ⟨(by first | omega | exact wrap_nn rfl | (simp (disch := omega) only [wrapI]; omega)), (by first | omega | exact wrap_nn rfl | (simp (disch := omega) only [wrapI]; omega))⟩ (AllP_cons (by first | omega | exact wrap_nn rfl | (simp (disch := omega) only [wrapI]; omega)) (AllP_cons ⟨(by first | omega | exact wrap_nn rfl | (simp (disch := omega) only [wrapI]; omega)), (by first | omega | exact wrap_nn rfl | (simp (disch := omega) only [wrapI]; omega))⟩ (AllP_cons (by first | omega | exact wrap_nn rfl | (simp (disch := omega) only [wrapI]; omega)) (AllP_cons ⟨(by first | omega | exact wrap_nn rfl | (simp (disch := omega) only [wrapI]; omega)), (by first | omega | exact wrap_nn rfl | (simp (disch := omega) only [wrapI]; omega))⟩ (AllP_cons (decide_eq_true (by first | omega | exact wrap_nn rfl | (simp (disch := omega) only [wrapI]; omega))) (AllP_nil)))))))))
  rw [e0] at h
  exact h

set_option maxHeartbeats 1000000 in
theorem nPl_last (x : List Int) (y : List Int) (hv0 : List.length x = (32 : Nat)) (hv1 : List.length y = (32 : Nat)) (w : World) (s : Int × (List Int)) : Run Try.prog ⟨w, [], 0, noEnv⟩ (loopB Try.f19 0) (nPl_mk x y (32 : Nat) s) (To ⟨w, [], 0, noEnv⟩ (.exit 0) (nPl_mk x y (32 : Nat) s)) :=
  Run.of_outT (B := ⟨w, [], 0, noEnv⟩) (Λ := noLam) (Ψ := noPsi) (fuel := 0) (ora := [false]) (l := [.forget [0, 1, 2, 3, 4, 5, 6] 3]) mix tabOkVU gam66_ok
    (vc := [(false = false)]) (by kernel_rfl)
    (AllP_cons rfl (AllP_nil))

theorem nPl_loop (x : List Int) (y : List Int) (hv0 : List.length x = (32 : Nat)) (hv1 : List.length y = (32 : Nat)) (w : World) (s : Int × (List Int)) : Run Try.prog ⟨w, [], 0, noEnv⟩ (.block 0 (.loop (loopB Try.f19 0))) (nPl_mk x y 0 s) (To ⟨w, [], 0, noEnv⟩ .normal (nPl_mk x y (32 : Nat) (iter (nPl_step y) (32 : Nat) s))) :=
  Run.count (fun k => nPl_mk x y k (iter (nPl_step y) k s)) (32 : Nat) (fun k hk => nPl_round x y hv0 hv1 w k hk _) (ex := (.exit 0)) (by simp) (nPl_last x y hv0 hv1 w _)

def nPl_out1 (y : List Int) (i0 : Int) (i1 : List Int) : List Int := (iter (nPl_step y) (32 : Nat) (i0, i1)).2

def nPlus (x : List Int) (y : List Int) : List Int :=
  (nPl_out1 y (0 : Int) x)

set_option maxHeartbeats 1000000 in
theorem nPlus_body0 (x : List Int) (y : List Int) (hv0 : List.length x = (32 : Nat)) (hv1 : List.length y = (32 : Nat)) (w : World) : Body Try.prog (tabOf tabVU) Try.f19 ⟨w, [], 0, noEnv⟩ (toA [.g [.ints .u8 (32 : Nat) x], .g [.ints .u8 (32 : Nat) y]]) [] (fun ys _ => ys = [.g [.ints .u8 (32 : Nat) (nPlus x y)]]) :=
  Body.of_fin (Γ := gam66) (Λ := lamOf [(0, ⟨[.forget [0, 1, 2, 3, 4, 5, 6] 3], .normal, (nPl_mk x y (32 : Nat) (iter (nPl_step y) (32 : Nat) ((0 : Int), x)))⟩)]) (Ψ := noPsi) (fuel := 0) (m := 29) (c := (Try.f19.body.getD .skip)) mix tabOkVU gam66_ok rfl (rs := [.cell 4 37]) rfl rfl [] []
    (vc := [(Run Try.prog ⟨w, [], 0, noEnv⟩ (.block 0 (.loop (loopB Try.f19 0))) (nPl_mk x y 0 ((0 : Int), x)) (To ⟨w, [], 0, noEnv⟩ .normal (nPl_mk x y (32 : Nat) (iter (nPl_step y) (32 : Nat) ((0 : Int), x)))))]) (by kernel_rfl)
    (AllP_cons (nPl_loop x y hv0 hv1 w ((0 : Int), x)) (AllP_nil))

theorem nPlus_body (x : List Int) (y : List Int) (w : World) : Body Try.prog (tabOf tabVU) Try.f19 ⟨w, [], 0, noEnv⟩ (toA [.g [.ints .u8 (32 : Nat) x], .g [.ints .u8 (32 : Nat) y]]) [] (fun ys _ => ys = [.g [.ints .u8 (32 : Nat) (nPlus x y)]]) :=
  Body.lens (c := (Try.f19.body.getD .skip)) rfl fun h => nPlus_body0 x y (h.vals 0 _ _ _ rfl) (h.vals 1 _ _ _ rfl) w

theorem nPlus_pure (x : List Int) (y : List Int) : PureC Try.prog 19 [.g [.ints .u8 (32 : Nat) x], .g [.ints .u8 (32 : Nat) y]] [.g [.ints .u8 (32 : Nat) (nPlus x y)]] :=
  PureC.of_body tabOkVU Try.func19 rfl rfl fun w => nPlus_body x y w

def gam67 : Gam := gpure 19 (fun args => match args with | [.o (.g [.ints .u8 (32 : Nat) x]), .o (.g [.ints .u8 (32 : Nat) y])] => some (none, [.g [.ints .u8 (32 : Nat) (nPlus x y)]]) | _ => none) gam66
theorem gam67_ok : GamOk Try.prog gam67 := gpure_ok gam66_ok Try.call19 (by
  intro args vc xs h hv
  split at h
  · simp only [Option.some.injEq, Prod.mk.injEq] at h; obtain ⟨rfl, rfl⟩ := h; exact ⟨_, by rfl, nPlus_pure _ _⟩
  · simp at h)

end Go.Proofs.Ytodiojpakfjehaa.X

/- Numbers of bytes: sums and products. -/
namespace Go.Proofs.Ytodiojpakfjehaa.X
open Go Go.Proofs
set_option linter.unusedVariables false
set_option linter.unusedSimpArgs false
set_option maxRecDepth 100000

/-- the number of the first k bytes -/
def LE (s : List Int) : Nat → Int
  | 0 => 0
  | k + 1 => LE s k + 256 ^ k * List.getD s k 0
theorem BV_LE (s : List Int) : BV s = LE s 32 := by
  simp only [LE, BV, le8, Nat.zero_add, Nat.reduceAdd]
  omega
theorem getD_set_self {s : List Int} {i : Nat} (h : i < s.length) (v : Int) : List.getD (s.set i v) i 0 = v := by
  rw [List.getD_eq_getElem?_getD, List.getElem?_set_self h]; rfl
theorem LE_set_ge (s : List Int) (i : Nat) (v : Int) : ∀ k, k ≤ i → LE (s.set i v) k = LE s k
  | 0, _ => rfl
  | k + 1, h => by
    show LE (s.set i v) k + 256 ^ k * List.getD (s.set i v) k 0 = LE s k + 256 ^ k * List.getD s k 0
    rw [LE_set_ge s i v k (by omega), getD_set_ne (by omega)]
theorem LE_set {s : List Int} {i : Nat} (l : i < s.length) (v : Int) : ∀ k, i < k → LE (s.set i v) k = LE s k + 256 ^ i * (v - List.getD s i 0)
  | 0, h => absurd h (by omega)
  | k + 1, h => by
    show LE (s.set i v) k + 256 ^ k * List.getD (s.set i v) k 0 = LE s k + 256 ^ k * List.getD s k 0 + _
    by_cases e : i = k
    · subst e
      rw [LE_set_ge s i v i (Nat.le_refl _), getD_set_self l]
      grind
    · rw [LE_set l v k (by omega), getD_set_ne e]
      grind
theorem shr64i8 (x : Int) : shr .i64 x 8 = x / 256 := by
  have e : shr .i64 x 8 = x.fdiv 256 := rfl
  rw [e, Int.fdiv_eq_ediv_of_nonneg _ (by omega)]
theorem step_alg {A B P c t z q r xy : Int} (h : A = B + P * (r - t)) (e : z = 256 * q + r) (hz : z = c + t + xy) : A + P * 256 * q = B + P * c + P * xy := by
  subst h
  subst hz
  have e : r = c + t + xy - 256 * q := by omega
  subst e
  grind

-- plus
theorem nPl_inv {x y : List Int} (hx : Byt x) (hy : Byt y) (lx : x.length = 32) : ∀ k, k ≤ 32 →
    let s := iter (nPl_step y) k ((0 : Int), x)
    0 ≤ s.1 ∧ s.1 ≤ 1 ∧ s.2.length = 32 ∧ Byt s.2 ∧ LE s.2 32 + 256 ^ k * s.1 = LE x 32 + LE y k
  | 0, _ => ⟨Int.le_refl _, by show (0 : Int) ≤ 1; omega, lx, hx, by show LE x 32 + 256 ^ 0 * 0 = LE x 32 + 0; omega⟩
  | k + 1, hk => by
    obtain ⟨c0, c1, l, b, e⟩ := nPl_inv hx hy lx k (by omega)
    show _ ∧ _
    rw [show iter (nPl_step y) (k + 1) ((0 : Int), x) = nPl_step y k (iter (nPl_step y) k ((0 : Int), x)) from rfl]
    generalize iter (nPl_step y) k ((0 : Int), x) = s at c0 c1 l b e ⊢
    obtain ⟨c, s⟩ := s
    have b1 := byt_get b k
    have b2 := byt_get hy k
    simp only at c0 c1 l b e b1 ⊢
    have ez : (IntKind.i64.wrap ((IntKind.i64.wrap (c + (IntKind.i64.wrap (List.getD s k 0)))) + (IntKind.i64.wrap (List.getD y k 0)))) = c + List.getD s k 0 + List.getD y k 0 := by
      simp (disch := omega) only [wrapI]
    simp only [nPl_step, ez, shr64i8, wrap8]
    refine ⟨by omega, by omega, by rw [List.length_set]; exact l, byt_set b (by omega) k, ?_⟩
    rw [Int.pow_succ, step_alg (LE_set (by omega) _ 32 (by omega)) (z := c + List.getD s k 0 + List.getD y k 0) (by omega) rfl, e]
    show _ = LE x 32 + (LE y k + 256 ^ k * List.getD y k 0)
    omega
theorem nPlus_byt {x y : List Int} (hx : Byt x) (hy : Byt y) (lx : x.length = 32) : Byt (nPlus x y) ∧ (nPlus x y).length = 32 :=
  have k := nPl_inv hx hy lx 32 (Nat.le_refl _)
  ⟨k.2.2.2.1, k.2.2.1⟩
theorem nPlus_BV {x y : List Int} (hx : Byt x) (hy : Byt y) (lx : x.length = 32) (h : BV x + BV y < 115792089237316195423570985008687907853269984665640564039457584007913129639936) : BV (nPlus x y) = BV x + BV y := by
  obtain ⟨c0, c1, l, b, e⟩ := nPl_inv hx hy lx 32 (Nat.le_refl _)
  rw [← BV_LE, ← BV_LE, ← BV_LE] at e
  have r := BV_rng b
  show BV (iter (nPl_step y) 32 ((0 : Int), x)).2 = _
  have e' : BV (iter (nPl_step y) 32 ((0 : Int), x)).2 + 115792089237316195423570985008687907853269984665640564039457584007913129639936 * (iter (nPl_step y) 32 ((0 : Int), x)).1 = BV x + BV y := e
  omega

-- times
end Go.Proofs.Ytodiojpakfjehaa.X

/- Factors as numbers. -/
namespace Go.Proofs.Ytodiojpakfjehaa.X
open Go Go.Proofs
set_option linter.unusedVariables false
set_option linter.unusedSimpArgs false
set_option maxRecDepth 100000

theorem cut_lt (s : List Int) (h : Byt s) (l : s.length = 32) : 0 ≤ BV (cut s) ∧ BV (cut s) < 57896044618658097711785492504343953926634992332820282019728792003956564819968 := by
  rw [(cut_ok h l).2.2.1]; omega
section
variable {j k a b : List Int}
end
end Go.Proofs.Ytodiojpakfjehaa.X

/- Two parts of a point. -/
namespace Go.Proofs.Ytodiojpakfjehaa.X
open Go Go.Proofs
set_option linter.unusedVariables false
set_option linter.unusedSimpArgs false
set_option maxRecDepth 100000

theorem ad_can {x y t : E} (h : ad x t = ad y t) : x = y := by
  have k := congrArg (fun z => ad z (ng t)) h
  simp only [ad_assoc, ad_ng, ad_zero] at k
  exact k
/-- one of the eight taken off j times -/
noncomputable def dn (p : E) : Nat → E
  | 0 => p
  | j + 1 => ad (dn p j) (ng eT)
theorem dn_up (p : E) : ∀ j, ad (dn p j) (mu j eT) = p
  | 0 => ad_zero p
  | j + 1 => by
    show ad (ad (dn p j) (ng eT)) (mu (j + 1) eT) = p
    rw [Nat.add_comm j 1, mu_add, mu_one, ad_assoc, ← ad_assoc (ng eT), ad_comm (ng eT), ad_ng, ad_zero', dn_up p j]
theorem T_mod (n : Nat) : mu (n % 8) eT = mu n eT := mu_mod T8_zero n
theorem T_inj {m n : Nat} (h : mu m eT = mu n eT) : m % 8 = n % 8 := by
  have k : mu (m + (8 - n % 8)) eT = E0 := by
    rw [mu_add, h, ← T_mod n, ← mu_add, show n % 8 + (8 - n % 8) = 8 by omega, T8_zero]
  have := T_dvd k
  omega
theorem LN8 : LN % 8 = 5 := by decide +kernel
theorem LN_T (j : Nat) : mu (LN * j) eT = mu (5 * j) eT := by
  rw [← T_mod (LN * j), ← T_mod (5 * j), Nat.mul_mod, LN8, Nat.mul_mod 5 j]
theorem ti_ex (p : E) : ∃ i, i < 8 ∧ mu LN p = mu (5 * i) eT := by
  obtain ⟨k, _, rfl⟩ := e_cyclic p
  refine ⟨k % 8, Nat.mod_lt _ (by decide), ?_⟩
  rw [← mu_mul, Nat.mul_comm, mu_mul]
  have e : mu LN eg = mu LN eT := by
    unfold eg
    rw [mu_dist, LB_zero, ad_zero']
  rw [e, ← mu_mul, Nat.mul_comm, LN_T, ← T_mod (5 * k), ← T_mod (5 * (k % 8)), Nat.mul_mod 5 k, Nat.mul_mod 5 (k % 8), Nat.mod_mod]
/-- which of the eight a point holds -/
noncomputable def ti (p : E) : Nat := Classical.choose (ti_ex p)
theorem ti_lt (p : E) : ti p < 8 := (Classical.choose_spec (ti_ex p)).1
theorem ti_mu (p : E) : mu LN p = mu (5 * ti p) eT := (Classical.choose_spec (ti_ex p)).2
theorem ti_of {p : E} {j : Nat} (hj : j < 8) (h : mu LN p = mu (5 * j) eT) : j = ti p := by
  have k := T_inj (h.symm.trans (ti_mu p))
  have := ti_lt p
  omega
theorem dn_mu (p : E) (j : Nat) : ad (mu LN (dn p j)) (mu (5 * j) eT) = mu LN p := by
  rw [← LN_T, mu_mul, ← mu_dist, dn_up]
theorem dn_iff (p : E) {j : Nat} (hj : j < 8) : mu LN (dn p j) = E0 ↔ j = ti p := by
  constructor
  · intro h
    have k := dn_mu p j
    rw [h, ad_zero'] at k
    exact ti_of hj k.symm
  · intro h
    have k := dn_mu p j
    rw [ti_mu p, ← h] at k
    exact ad_can (k.trans (ad_zero' _).symm)
theorem dn_dec (p : E) {j : Nat} (hj : j < 8) : decide (mu LN (dn p j) = E0) = decide (j = ti p) := decide_eq_decide.2 (dn_iff p hj)
/-- the part in the subgroup -/
noncomputable def sp (p : E) : E := dn p (ti p)
theorem sp_LN (p : E) : mu LN (sp p) = E0 := (dn_iff p (ti_lt p)).2 rfl
theorem sp_up (p : E) : ad (sp p) (mu (ti p) eT) = p := dn_up p _
theorem ti_add (p q : E) : ti (ad p q) = (ti p + ti q) % 8 := by
  refine (ti_of (Nat.mod_lt _ (by decide)) ?_).symm
  rw [mu_dist, ti_mu, ti_mu, ← mu_add, ← T_mod, ← T_mod (5 * ((ti p + ti q) % 8)), Nat.mul_mod 5 ((ti p + ti q) % 8), Nat.mod_mod, ← Nat.mul_mod, Nat.mul_add]
theorem sp_add (p q : E) : sp (ad p q) = ad (sp p) (sp q) := by
  have k := sp_up (ad p q)
  rw [ti_add, T_mod, mu_add] at k
  refine ad_can (t := ad (mu (ti p) eT) (mu (ti q) eT)) (k.trans ?_)
  have a := sp_up p
  have b := sp_up q
  calc ad p q = ad (ad (sp p) (mu (ti p) eT)) (ad (sp q) (mu (ti q) eT)) := by rw [a, b]
    _ = ad (sp p) (ad (mu (ti p) eT) (ad (sp q) (mu (ti q) eT))) := ad_assoc _ _ _
    _ = ad (sp p) (ad (sp q) (ad (mu (ti p) eT) (mu (ti q) eT))) := by rw [← ad_assoc (mu (ti p) eT), ad_comm (mu (ti p) eT) (sp q), ad_assoc (sp q)]
    _ = _ := (ad_assoc _ _ _).symm
theorem prime_ti (p : E) : mu LN p = E0 ↔ ti p = 0 := by
  have k := dn_iff p (j := 0) (by decide)
  exact ⟨fun h => (k.1 h).symm, fun h => k.2 h.symm⟩
theorem small_sp (p : E) : mu 8 p = E0 ↔ sp p = E0 := by
  constructor
  · intro h
    have h8 : mu 8 (sp p) = E0 := by
      have k := congrArg (mu 8) (sp_up p)
      rw [mu_dist, h, ← mu_mul, Nat.mul_comm, mu_mul, T8_zero, mu_zero, ad_zero] at k
      exact k
    have h5 : mu 5 (sp p) = E0 := by
      rw [← LN8, mu_mod h8, sp_LN]
    have h25 : mu (5 * 5) (sp p) = E0 := by rw [mu_mul, h5, mu_zero]
    have h1 : mu (5 * 5 % 8) (sp p) = E0 := by rw [mu_mod h8, h25]
    rw [show 5 * 5 % 8 = 1 from rfl, mu_one] at h1
    exact h1
  · intro h
    have k := congrArg (mu 8) (sp_up p)
    rw [mu_dist, h, mu_zero, ad_zero', ← mu_mul, Nat.mul_comm, mu_mul, T8_zero, mu_zero] at k
    exact k.symm

-- what Parts answers
def dL (l : List Int) : Nat → List Int
  | 0 => l
  | j + 1 => ptAdd (dL l j) (ptNeg ptT)
theorem dL_ok {l : List Int} {p : E} (h : LP l p) : ∀ j, LP (dL l j) (dn p j)
  | 0 => h
  | j + 1 => lp_add (dL_ok h j) (lp_neg T_ok)
theorem parts_enc (p : E) : apParts (encE p) = encE (sp p) ∧ apParts_1 (encE p) = ((ti p : Nat) : Int) ∧ apParts_2 (encE p) = 0 := by
  have l := fun j => dL_ok (op2 p) j
  have q0 : ptIsId (ptMul (ptOpen (encE p)) [237, 211, 245, 92, 26, 99, 18, 88, 214, 156, 247, 162, 222, 249, 222, 20, 0, 0, 0, 0, 0, 0, 0, 0, 0, 0, 0, 0, 0, 0, 0, 16]) = decide (0 = ti p) := (mulL_ok (l 0)).trans (dn_dec p (by decide))
  have q1 : ptIsId (ptMul (ptAdd (ptOpen (encE p)) (ptNeg ptT)) [237, 211, 245, 92, 26, 99, 18, 88, 214, 156, 247, 162, 222, 249, 222, 20, 0, 0, 0, 0, 0, 0, 0, 0, 0, 0, 0, 0, 0, 0, 0, 16]) = decide (1 = ti p) := (mulL_ok (l 1)).trans (dn_dec p (by decide))
  have q2 : ptIsId (ptMul (ptAdd (ptAdd (ptOpen (encE p)) (ptNeg ptT)) (ptNeg ptT)) [237, 211, 245, 92, 26, 99, 18, 88, 214, 156, 247, 162, 222, 249, 222, 20, 0, 0, 0, 0, 0, 0, 0, 0, 0, 0, 0, 0, 0, 0, 0, 16]) = decide (2 = ti p) := (mulL_ok (l 2)).trans (dn_dec p (by decide))
  have q3 : ptIsId (ptMul (ptAdd (ptAdd (ptAdd (ptOpen (encE p)) (ptNeg ptT)) (ptNeg ptT)) (ptNeg ptT)) [237, 211, 245, 92, 26, 99, 18, 88, 214, 156, 247, 162, 222, 249, 222, 20, 0, 0, 0, 0, 0, 0, 0, 0, 0, 0, 0, 0, 0, 0, 0, 16]) = decide (3 = ti p) := (mulL_ok (l 3)).trans (dn_dec p (by decide))
  have q4 : ptIsId (ptMul (ptAdd (ptAdd (ptAdd (ptAdd (ptOpen (encE p)) (ptNeg ptT)) (ptNeg ptT)) (ptNeg ptT)) (ptNeg ptT)) [237, 211, 245, 92, 26, 99, 18, 88, 214, 156, 247, 162, 222, 249, 222, 20, 0, 0, 0, 0, 0, 0, 0, 0, 0, 0, 0, 0, 0, 0, 0, 16]) = decide (4 = ti p) := (mulL_ok (l 4)).trans (dn_dec p (by decide))
  have q5 : ptIsId (ptMul (ptAdd (ptAdd (ptAdd (ptAdd (ptAdd (ptOpen (encE p)) (ptNeg ptT)) (ptNeg ptT)) (ptNeg ptT)) (ptNeg ptT)) (ptNeg ptT)) [237, 211, 245, 92, 26, 99, 18, 88, 214, 156, 247, 162, 222, 249, 222, 20, 0, 0, 0, 0, 0, 0, 0, 0, 0, 0, 0, 0, 0, 0, 0, 16]) = decide (5 = ti p) := (mulL_ok (l 5)).trans (dn_dec p (by decide))
  have q6 : ptIsId (ptMul (ptAdd (ptAdd (ptAdd (ptAdd (ptAdd (ptAdd (ptOpen (encE p)) (ptNeg ptT)) (ptNeg ptT)) (ptNeg ptT)) (ptNeg ptT)) (ptNeg ptT)) (ptNeg ptT)) [237, 211, 245, 92, 26, 99, 18, 88, 214, 156, 247, 162, 222, 249, 222, 20, 0, 0, 0, 0, 0, 0, 0, 0, 0, 0, 0, 0, 0, 0, 0, 16]) = decide (6 = ti p) := (mulL_ok (l 6)).trans (dn_dec p (by decide))
  have q7 : ptIsId (ptMul (ptAdd (ptAdd (ptAdd (ptAdd (ptAdd (ptAdd (ptAdd (ptOpen (encE p)) (ptNeg ptT)) (ptNeg ptT)) (ptNeg ptT)) (ptNeg ptT)) (ptNeg ptT)) (ptNeg ptT)) (ptNeg ptT)) [237, 211, 245, 92, 26, 99, 18, 88, 214, 156, 247, 162, 222, 249, 222, 20, 0, 0, 0, 0, 0, 0, 0, 0, 0, 0, 0, 0, 0, 0, 0, 16]) = decide (7 = ti p) := (mulL_ok (l 7)).trans (dn_dec p (by decide))
  have e0 : apParts_w0 (encE p) = encE (dn p 0) := form_ok (l 0)
  have e1 : apParts_w1 (encE p) = encE (dn p 1) := form_ok (l 1)
  have e2 : apParts_w2 (encE p) = encE (dn p 2) := form_ok (l 2)
  have e3 : apParts_w3 (encE p) = encE (dn p 3) := form_ok (l 3)
  have e4 : apParts_w4 (encE p) = encE (dn p 4) := form_ok (l 4)
  have e5 : apParts_w5 (encE p) = encE (dn p 5) := form_ok (l 5)
  have e6 : apParts_w6 (encE p) = encE (dn p 6) := form_ok (l 6)
  have e7 : apParts_w7 (encE p) = encE (dn p 7) := form_ok (l 7)
  have op := op1 p
  clear l
  unfold sp
  have hi := ti_lt p
  generalize ti p = i at *
  obtain rfl | rfl | rfl | rfl | rfl | rfl | rfl | rfl : i = 0 ∨ i = 1 ∨ i = 2 ∨ i = 3 ∨ i = 4 ∨ i = 5 ∨ i = 6 ∨ i = 7 := by omega
  · exact ⟨(cond_t op).trans ((cond_t (q0.trans (by decide))).trans e0), (cond_t op).trans (cond_t (q0.trans (by decide))), (cond_t op).trans (cond_t (q0.trans (by decide)))⟩
  · exact ⟨(cond_t op).trans ((cond_f (q0.trans (by decide))).trans ((cond_t (q1.trans (by decide))).trans e1)), (cond_t op).trans ((cond_f (q0.trans (by decide))).trans (cond_t (q1.trans (by decide)))), (cond_t op).trans ((cond_f (q0.trans (by decide))).trans (cond_t (q1.trans (by decide))))⟩
  · exact ⟨(cond_t op).trans ((cond_f (q0.trans (by decide))).trans ((cond_f (q1.trans (by decide))).trans ((cond_t (q2.trans (by decide))).trans e2))), (cond_t op).trans ((cond_f (q0.trans (by decide))).trans ((cond_f (q1.trans (by decide))).trans (cond_t (q2.trans (by decide))))), (cond_t op).trans ((cond_f (q0.trans (by decide))).trans ((cond_f (q1.trans (by decide))).trans (cond_t (q2.trans (by decide)))))⟩
  · exact ⟨(cond_t op).trans ((cond_f (q0.trans (by decide))).trans ((cond_f (q1.trans (by decide))).trans ((cond_f (q2.trans (by decide))).trans ((cond_t (q3.trans (by decide))).trans e3)))), (cond_t op).trans ((cond_f (q0.trans (by decide))).trans ((cond_f (q1.trans (by decide))).trans ((cond_f (q2.trans (by decide))).trans (cond_t (q3.trans (by decide)))))), (cond_t op).trans ((cond_f (q0.trans (by decide))).trans ((cond_f (q1.trans (by decide))).trans ((cond_f (q2.trans (by decide))).trans (cond_t (q3.trans (by decide))))))⟩
  · exact ⟨(cond_t op).trans ((cond_f (q0.trans (by decide))).trans ((cond_f (q1.trans (by decide))).trans ((cond_f (q2.trans (by decide))).trans ((cond_f (q3.trans (by decide))).trans ((cond_t (q4.trans (by decide))).trans e4))))), (cond_t op).trans ((cond_f (q0.trans (by decide))).trans ((cond_f (q1.trans (by decide))).trans ((cond_f (q2.trans (by decide))).trans ((cond_f (q3.trans (by decide))).trans (cond_t (q4.trans (by decide))))))), (cond_t op).trans ((cond_f (q0.trans (by decide))).trans ((cond_f (q1.trans (by decide))).trans ((cond_f (q2.trans (by decide))).trans ((cond_f (q3.trans (by decide))).trans (cond_t (q4.trans (by decide)))))))⟩
  · exact ⟨(cond_t op).trans ((cond_f (q0.trans (by decide))).trans ((cond_f (q1.trans (by decide))).trans ((cond_f (q2.trans (by decide))).trans ((cond_f (q3.trans (by decide))).trans ((cond_f (q4.trans (by decide))).trans ((cond_t (q5.trans (by decide))).trans e5)))))), (cond_t op).trans ((cond_f (q0.trans (by decide))).trans ((cond_f (q1.trans (by decide))).trans ((cond_f (q2.trans (by decide))).trans ((cond_f (q3.trans (by decide))).trans ((cond_f (q4.trans (by decide))).trans (cond_t (q5.trans (by decide)))))))), (cond_t op).trans ((cond_f (q0.trans (by decide))).trans ((cond_f (q1.trans (by decide))).trans ((cond_f (q2.trans (by decide))).trans ((cond_f (q3.trans (by decide))).trans ((cond_f (q4.trans (by decide))).trans (cond_t (q5.trans (by decide))))))))⟩
  · exact ⟨(cond_t op).trans ((cond_f (q0.trans (by decide))).trans ((cond_f (q1.trans (by decide))).trans ((cond_f (q2.trans (by decide))).trans ((cond_f (q3.trans (by decide))).trans ((cond_f (q4.trans (by decide))).trans ((cond_f (q5.trans (by decide))).trans ((cond_t (q6.trans (by decide))).trans e6))))))), (cond_t op).trans ((cond_f (q0.trans (by decide))).trans ((cond_f (q1.trans (by decide))).trans ((cond_f (q2.trans (by decide))).trans ((cond_f (q3.trans (by decide))).trans ((cond_f (q4.trans (by decide))).trans ((cond_f (q5.trans (by decide))).trans (cond_t (q6.trans (by decide))))))))), (cond_t op).trans ((cond_f (q0.trans (by decide))).trans ((cond_f (q1.trans (by decide))).trans ((cond_f (q2.trans (by decide))).trans ((cond_f (q3.trans (by decide))).trans ((cond_f (q4.trans (by decide))).trans ((cond_f (q5.trans (by decide))).trans (cond_t (q6.trans (by decide)))))))))⟩
  · exact ⟨(cond_t op).trans ((cond_f (q0.trans (by decide))).trans ((cond_f (q1.trans (by decide))).trans ((cond_f (q2.trans (by decide))).trans ((cond_f (q3.trans (by decide))).trans ((cond_f (q4.trans (by decide))).trans ((cond_f (q5.trans (by decide))).trans ((cond_f (q6.trans (by decide))).trans ((cond_t (q7.trans (by decide))).trans e7)))))))), (cond_t op).trans ((cond_f (q0.trans (by decide))).trans ((cond_f (q1.trans (by decide))).trans ((cond_f (q2.trans (by decide))).trans ((cond_f (q3.trans (by decide))).trans ((cond_f (q4.trans (by decide))).trans ((cond_f (q5.trans (by decide))).trans ((cond_f (q6.trans (by decide))).trans (cond_t (q7.trans (by decide)))))))))), (cond_t op).trans ((cond_f (q0.trans (by decide))).trans ((cond_f (q1.trans (by decide))).trans ((cond_f (q2.trans (by decide))).trans ((cond_f (q3.trans (by decide))).trans ((cond_f (q4.trans (by decide))).trans ((cond_f (q5.trans (by decide))).trans ((cond_f (q6.trans (by decide))).trans (cond_t (q7.trans (by decide))))))))))⟩
theorem o8_sub {k : Nat} (h : k < 8) : sub apO8 (k * 32) 32 = encE (mu k eT) := by rw [o8_eq, encs_sub _ h]
theorem o8_ne {n o : Nat} (hn : n < 8) (ho : o < 8) (h : n ≠ o) : decide (sub apO8 (n * 32) 32 = sub apO8 (o * 32) 32) = false := by
  refine decide_eq_false fun e => ?_
  rw [o8_sub hn, o8_sub ho] at e
  have := T_inj (encE_inj e)
  omega
theorem o8_add {n : Nat} (hn : n < 8) : lwAdd (sub apO8 (n * 32) 32) (sub apO8 (1 * 32) 32) = sub apO8 ((n + 1) % 8 * 32) 32 := by
  rw [o8_sub hn, o8_sub (by decide), o8_sub (Nat.mod_lt _ (by decide)), lwAdd_enc, ← mu_add, T_mod]
section
variable {a b k : List Int}
theorem pa_1 (h : Byt a) (l : a.length = 32) : apParts (lwPt a) = encE (sp (ptF a)) := by rw [pt_ok h l]; exact (parts_enc _).1
theorem pa_2 (h : Byt a) (l : a.length = 32) : apParts_1 (lwPt a) = ((ti (ptF a) : Nat) : Int) := by rw [pt_ok h l]; exact (parts_enc _).2.1
theorem pa_3 (h : Byt a) (l : a.length = 32) : apParts_2 (lwPt a) = 0 := by rw [pt_ok h l]; exact (parts_enc _).2.2
theorem pa_i (h : Byt a) (l : a.length = 32) : 0 ≤ apParts_1 (lwPt a) ∧ apParts_1 (lwPt a) < 8 := by
  rw [pa_2 h l]
  have := ti_lt (ptF a)
  omega
theorem two_up (h : Byt a) (l : a.length = 32) : lwAdd (apParts (lwPt a)) (sub apO8 (Int.toNat (apParts_1 (lwPt a)) * 32) 32) = lwPt a := by
  rw [pa_1 h l, pa_2 h l, Int.toNat_natCast, o8_sub (ti_lt _), lwAdd_enc, sp_up, pt_ok h l]
theorem two_c (h : Byt a) (l : a.length = 32) (h1 : Byt b) (l1 : b.length = 32) : apParts_2 (lwAdd (lwPt a) (lwPt b)) = 0 := by
  rw [pt_ok h l, pt_ok h1 l1, lwAdd_enc]; exact (parts_enc _).2.2
theorem two_add (h : Byt a) (l : a.length = 32) (h1 : Byt b) (l1 : b.length = 32) : apParts (lwAdd (lwPt a) (lwPt b)) = lwAdd (apParts (lwPt a)) (apParts (lwPt b)) := by
  rw [pa_1 h l, pa_1 h1 l1, pt_ok h l, pt_ok h1 l1, lwAdd_enc, lwAdd_enc, ← sp_add]; exact (parts_enc _).1
theorem two_i (h : Byt a) (l : a.length = 32) (h1 : Byt b) (l1 : b.length = 32) : apParts_1 (lwAdd (lwPt a) (lwPt b)) = Int.tmod (IntKind.i64.wrap (apParts_1 (lwPt a) + apParts_1 (lwPt b))) 8 := by
  rw [pa_2 h l, pa_2 h1 l1, pt_ok h l, pt_ok h1 l1, lwAdd_enc, (parts_enc _).2.1, ti_add]
  have := ti_lt (ptF a)
  have := ti_lt (ptF b)
  rw [wrapI (by omega) (by omega)]
  generalize ti (ptF a) = m at *
  generalize ti (ptF b) = n at *
  rw [Int.tmod_eq_emod_of_nonneg (by omega)]
  omega
theorem two_prime (h : Byt a) (l : a.length = 32) : apPrime (lwPt a) = (apParts_1 (lwPt a) == (0 : Int)) := by
  rw [pa_2 h l, pt_ok h l, (prime_enc _).1]
  have e : decide (mu LN (ptF a) = E0) = decide (ti (ptF a) = 0) := decide_eq_decide.2 (prime_ti _)
  rw [e]
  generalize ti (ptF a) = n
  cases n <;> rfl
theorem two_small (h : Byt a) (l : a.length = 32) : apSmall (lwPt a) = decide (apParts (lwPt a) = apId) := by
  rw [pa_1 h l, pt_ok h l, (small_enc _).1, id_enc]
  exact decide_eq_decide.2 ((small_sp _).trans ⟨fun e => congrArg encE e, fun e => encE_inj e⟩)
theorem two_sub (h : Byt a) (l : a.length = 32) : apPrime (apParts (lwPt a)) = true := by
  rw [pa_1 h l, (prime_enc _).1]
  exact decide_eq_true (sp_LN _)
theorem more_byt (h : Byt k) (l : k.length = 32) : Byt (nPlus (cut k) [237, 211, 245, 92, 26, 99, 18, 88, 214, 156, 247, 162, 222, 249, 222, 20, 0, 0, 0, 0, 0, 0, 0, 0, 0, 0, 0, 0, 0, 0, 0, 16]) ∧ (nPlus (cut k) [237, 211, 245, 92, 26, 99, 18, 88, 214, 156, 247, 162, 222, 249, 222, 20, 0, 0, 0, 0, 0, 0, 0, 0, 0, 0, 0, 0, 0, 0, 0, 16]).length = 32 := nPlus_byt (cut_ok h l).1 ordL_byt (cut_ok h l).2.1
theorem more_BV (h : Byt k) (l : k.length = 32) : (BV (nPlus (cut k) [237, 211, 245, 92, 26, 99, 18, 88, 214, 156, 247, 162, 222, 249, 222, 20, 0, 0, 0, 0, 0, 0, 0, 0, 0, 0, 0, 0, 0, 0, 0, 16])).toNat = (BV (cut k)).toNat + LN := by
  have c := cut_lt k h l
  have o := ordL_BV
  have g : BV [237, 211, 245, 92, 26, 99, 18, 88, 214, 156, 247, 162, 222, 249, 222, 20, 0, 0, 0, 0, 0, 0, 0, 0, 0, 0, 0, 0, 0, 0, 0, 16] = 7237005577332262213973186563042994240857116359379907606001950938285454250989 := by decide +kernel
  rw [nPlus_BV (cut_ok h l).1 ordL_byt (cut_ok h l).2.1 (by rw [g]; omega)]
  rw [← o]
  generalize BV [237, 211, 245, 92, 26, 99, 18, 88, 214, 156, 247, 162, 222, 249, 222, 20, 0, 0, 0, 0, 0, 0, 0, 0, 0, 0, 0, 0, 0, 0, 0, 16] = z at *
  omega
theorem two_k (h : Byt k) (l : k.length = 32) (h1 : Byt a) (l1 : a.length = 32) : lwMul (nPlus (cut k) [237, 211, 245, 92, 26, 99, 18, 88, 214, 156, 247, 162, 222, 249, 222, 20, 0, 0, 0, 0, 0, 0, 0, 0, 0, 0, 0, 0, 0, 0, 0, 16]) (apParts (lwPt a)) = lwMul (cut k) (apParts (lwPt a)) := by
  have c := cut_ok h l
  have m := more_byt h l
  rw [pa_1 h1 l1, lwMul_enc m.1 m.2, lwMul_enc c.1 c.2.1, more_BV h l, mu_add, sp_LN, ad_zero]
theorem two_last (h : Byt k) (l : k.length = 32) (h1 : Byt a) (l1 : a.length = 32) : decide (lwMul (nPlus (cut k) [237, 211, 245, 92, 26, 99, 18, 88, 214, 156, 247, 162, 222, 249, 222, 20, 0, 0, 0, 0, 0, 0, 0, 0, 0, 0, 0, 0, 0, 0, 0, 16]) (lwPt a) = lwMul (cut k) (lwPt a)) = apPrime (lwPt a) := by
  have c := cut_ok h l
  have m := more_byt h l
  rw [pt_ok h1 l1, lwMul_enc m.1 m.2, lwMul_enc c.1 c.2.1, more_BV h l, mu_add, (prime_enc _).1]
  refine decide_eq_decide.2 ⟨fun e => ?_, fun e => by rw [e, ad_zero]⟩
  have e' := encE_inj e
  rw [ad_comm] at e'
  exact ad_can (e'.trans (ad_zero' _).symm)
end
end Go.Proofs.Ytodiojpakfjehaa.X

/- Printed by a tool of this session. -/
namespace Go.Proofs.Ytodiojpakfjehaa.X
open Go Go.Proofs
set_option linter.unusedVariables false
set_option linter.unusedSimpArgs false
set_option maxRecDepth 100000
theorem teVX_4 : TEOk Try.prog 4 ⟨.bool, 1, 1, [.b false], false⟩ :=
  TEOk.of Try.underlying4 (i := Try.t4) (by kernel_rfl) rfl rfl rfl (by kernel_rfl) (fun h => by cases h) (by kernel_rfl)
theorem teVX_5 : TEOk Try.prog 5 ⟨.int .u8, 1, 1, [.i .u8 (0 : Int)], false⟩ :=
  TEOk.of Try.underlying5 (i := Try.t5) (by kernel_rfl) rfl rfl rfl (by kernel_rfl) (fun h => by cases h) (by kernel_rfl)
theorem teVX_23 : TEOk Try.prog 23 ⟨.array 32 5, 32, 32, [.ints .u8 (32 : Nat) ([0, 0, 0, 0, 0, 0, 0, 0, 0, 0, 0, 0, 0, 0, 0, 0, 0, 0, 0, 0, 0, 0, 0, 0, 0, 0, 0, 0, 0, 0, 0, 0] : List Int)], true⟩ :=
  TEOk.of Try.underlying23 (i := Try.t23) (by kernel_rfl) rfl rfl rfl (by kernel_rfl) (fun _ => Try.eqGuardType23) (by kernel_rfl)
theorem teVX_37 : TEOk Try.prog 37 ⟨.array 32 5, 32, 32, [.ints .u8 (32 : Nat) ([0, 0, 0, 0, 0, 0, 0, 0, 0, 0, 0, 0, 0, 0, 0, 0, 0, 0, 0, 0, 0, 0, 0, 0, 0, 0, 0, 0, 0, 0, 0, 0] : List Int)], true⟩ :=
  TEOk.of Try.underlying37 (i := Try.t37) (by kernel_rfl) rfl rfl rfl (by kernel_rfl) (fun _ => Try.eqGuardType37) (by kernel_rfl)
theorem teVX_45 : TEOk Try.prog 45 ⟨.slice 23, 1, 24, [.raw (.slice none 0 0)], false⟩ :=
  TEOk.of Try.underlying45 (i := Try.t45) (by kernel_rfl) rfl rfl rfl (by kernel_rfl) (fun h => by cases h) (by kernel_rfl)
noncomputable def tabVX : List (Nat × TE) := [(4, ⟨.bool, 1, 1, [.b false], false⟩), (5, ⟨.int .u8, 1, 1, [.i .u8 (0 : Int)], false⟩), (23, ⟨.array 32 5, 32, 32, [.ints .u8 (32 : Nat) ([0, 0, 0, 0, 0, 0, 0, 0, 0, 0, 0, 0, 0, 0, 0, 0, 0, 0, 0, 0, 0, 0, 0, 0, 0, 0, 0, 0, 0, 0, 0, 0] : List Int)], true⟩), (37, ⟨.array 32 5, 32, 32, [.ints .u8 (32 : Nat) ([0, 0, 0, 0, 0, 0, 0, 0, 0, 0, 0, 0, 0, 0, 0, 0, 0, 0, 0, 0, 0, 0, 0, 0, 0, 0, 0, 0, 0, 0, 0, 0] : List Int)], true⟩), (45, ⟨.slice 23, 1, 24, [.raw (.slice none 0 0)], false⟩)]
theorem tabOkVX : TabOk Try.prog (tabOf tabVX) := (tabOf_cons teVX_4 (tabOf_cons teVX_5 (tabOf_cons teVX_23 (tabOf_cons teVX_37 (tabOf_cons teVX_45 tabOf_nil)))))

theorem two_v0 (a : List Int) (b : List Int) (k : List Int) (h0 : Byt a) (h1 : Byt b) (h2 : Byt k) (hv0 : List.length a = 32) (hv1 : List.length b = 32) (hv2 : List.length k = 32) : (((decide ((lwMul (nPlus (List.set k (31 : Nat) (bits2 .and .u8 (List.getD (sub k (31 : Nat) (1 : Nat)) (0 : Nat) 0) (127 : Int))) ([237, 211, 245, 92, 26, 99, 18, 88, 214, 156, 247, 162, 222, 249, 222, 20, 0, 0, 0, 0, 0, 0, 0, 0, 0, 0, 0, 0, 0, 0, 0, 16] : List Int)) (lwPt a)) = (lwMul (List.set k (31 : Nat) (bits2 .and .u8 (List.getD (sub k (31 : Nat) (1 : Nat)) (0 : Nat) 0) (127 : Int))) (lwPt a)))) == (apPrime (lwPt a))) = true) := (beq_iff_eq.2 (two_last h2 hv2 h0 hv0))
theorem two_v1 (a : List Int) (b : List Int) (k : List Int) (h0 : Byt a) (h1 : Byt b) (h2 : Byt k) (hv0 : List.length a = 32) (hv1 : List.length b = 32) (hv2 : List.length k = 32) : ((decide ((lwMul (nPlus (List.set k (31 : Nat) (bits2 .and .u8 (List.getD (sub k (31 : Nat) (1 : Nat)) (0 : Nat) 0) (127 : Int))) ([237, 211, 245, 92, 26, 99, 18, 88, 214, 156, 247, 162, 222, 249, 222, 20, 0, 0, 0, 0, 0, 0, 0, 0, 0, 0, 0, 0, 0, 0, 0, 16] : List Int)) (apParts (lwPt a))) = (lwMul (List.set k (31 : Nat) (bits2 .and .u8 (List.getD (sub k (31 : Nat) (1 : Nat)) (0 : Nat) 0) (127 : Int))) (apParts (lwPt a))))) = true) := (decide_eq_true (two_k h2 hv2 h0 hv0))
theorem two_v2 (a : List Int) (b : List Int) (k : List Int) (h0 : Byt a) (h1 : Byt b) (h2 : Byt k) (hv0 : List.length a = 32) (hv1 : List.length b = 32) (hv2 : List.length k = 32) : ((decide ((sub (apO8) (224 : Nat) (32 : Nat)) = (sub (apO8) (192 : Nat) (32 : Nat)))) = false) := (o8_ne (n := 7) (o := 6) (by decide) (by decide) (by decide))
theorem two_v3 (a : List Int) (b : List Int) (k : List Int) (h0 : Byt a) (h1 : Byt b) (h2 : Byt k) (hv0 : List.length a = 32) (hv1 : List.length b = 32) (hv2 : List.length k = 32) : ((decide ((sub (apO8) (224 : Nat) (32 : Nat)) = (sub (apO8) (160 : Nat) (32 : Nat)))) = false) := (o8_ne (n := 7) (o := 5) (by decide) (by decide) (by decide))
theorem two_v4 (a : List Int) (b : List Int) (k : List Int) (h0 : Byt a) (h1 : Byt b) (h2 : Byt k) (hv0 : List.length a = 32) (hv1 : List.length b = 32) (hv2 : List.length k = 32) : ((decide ((sub (apO8) (224 : Nat) (32 : Nat)) = (sub (apO8) (128 : Nat) (32 : Nat)))) = false) := (o8_ne (n := 7) (o := 4) (by decide) (by decide) (by decide))
theorem two_v5 (a : List Int) (b : List Int) (k : List Int) (h0 : Byt a) (h1 : Byt b) (h2 : Byt k) (hv0 : List.length a = 32) (hv1 : List.length b = 32) (hv2 : List.length k = 32) : ((decide ((sub (apO8) (224 : Nat) (32 : Nat)) = (sub (apO8) (96 : Nat) (32 : Nat)))) = false) := (o8_ne (n := 7) (o := 3) (by decide) (by decide) (by decide))
theorem two_v6 (a : List Int) (b : List Int) (k : List Int) (h0 : Byt a) (h1 : Byt b) (h2 : Byt k) (hv0 : List.length a = 32) (hv1 : List.length b = 32) (hv2 : List.length k = 32) : ((decide ((sub (apO8) (224 : Nat) (32 : Nat)) = (sub (apO8) (64 : Nat) (32 : Nat)))) = false) := (o8_ne (n := 7) (o := 2) (by decide) (by decide) (by decide))
theorem two_v7 (a : List Int) (b : List Int) (k : List Int) (h0 : Byt a) (h1 : Byt b) (h2 : Byt k) (hv0 : List.length a = 32) (hv1 : List.length b = 32) (hv2 : List.length k = 32) : ((decide ((sub (apO8) (224 : Nat) (32 : Nat)) = (sub (apO8) (32 : Nat) (32 : Nat)))) = false) := (o8_ne (n := 7) (o := 1) (by decide) (by decide) (by decide))
theorem two_v8 (a : List Int) (b : List Int) (k : List Int) (h0 : Byt a) (h1 : Byt b) (h2 : Byt k) (hv0 : List.length a = 32) (hv1 : List.length b = 32) (hv2 : List.length k = 32) : ((decide ((sub (apO8) (224 : Nat) (32 : Nat)) = (sub (apO8) (0 : Nat) (32 : Nat)))) = false) := (o8_ne (n := 7) (o := 0) (by decide) (by decide) (by decide))
theorem two_v9 (a : List Int) (b : List Int) (k : List Int) (h0 : Byt a) (h1 : Byt b) (h2 : Byt k) (hv0 : List.length a = 32) (hv1 : List.length b = 32) (hv2 : List.length k = 32) : ((!(decide ((lwAdd (sub (apO8) (224 : Nat) (32 : Nat)) (sub (apO8) (32 : Nat) (32 : Nat))) = (sub (apO8) (0 : Nat) (32 : Nat))))) = false) := (not_dec (o8_add (n := 7) (by decide)))
theorem two_v10 (a : List Int) (b : List Int) (k : List Int) (h0 : Byt a) (h1 : Byt b) (h2 : Byt k) (hv0 : List.length a = 32) (hv1 : List.length b = 32) (hv2 : List.length k = 32) : ((decide ((sub (apO8) (192 : Nat) (32 : Nat)) = (sub (apO8) (160 : Nat) (32 : Nat)))) = false) := (o8_ne (n := 6) (o := 5) (by decide) (by decide) (by decide))
theorem two_v11 (a : List Int) (b : List Int) (k : List Int) (h0 : Byt a) (h1 : Byt b) (h2 : Byt k) (hv0 : List.length a = 32) (hv1 : List.length b = 32) (hv2 : List.length k = 32) : ((decide ((sub (apO8) (192 : Nat) (32 : Nat)) = (sub (apO8) (128 : Nat) (32 : Nat)))) = false) := (o8_ne (n := 6) (o := 4) (by decide) (by decide) (by decide))
theorem two_v12 (a : List Int) (b : List Int) (k : List Int) (h0 : Byt a) (h1 : Byt b) (h2 : Byt k) (hv0 : List.length a = 32) (hv1 : List.length b = 32) (hv2 : List.length k = 32) : ((decide ((sub (apO8) (192 : Nat) (32 : Nat)) = (sub (apO8) (96 : Nat) (32 : Nat)))) = false) := (o8_ne (n := 6) (o := 3) (by decide) (by decide) (by decide))
theorem two_v13 (a : List Int) (b : List Int) (k : List Int) (h0 : Byt a) (h1 : Byt b) (h2 : Byt k) (hv0 : List.length a = 32) (hv1 : List.length b = 32) (hv2 : List.length k = 32) : ((decide ((sub (apO8) (192 : Nat) (32 : Nat)) = (sub (apO8) (64 : Nat) (32 : Nat)))) = false) := (o8_ne (n := 6) (o := 2) (by decide) (by decide) (by decide))
theorem two_v14 (a : List Int) (b : List Int) (k : List Int) (h0 : Byt a) (h1 : Byt b) (h2 : Byt k) (hv0 : List.length a = 32) (hv1 : List.length b = 32) (hv2 : List.length k = 32) : ((decide ((sub (apO8) (192 : Nat) (32 : Nat)) = (sub (apO8) (32 : Nat) (32 : Nat)))) = false) := (o8_ne (n := 6) (o := 1) (by decide) (by decide) (by decide))
theorem two_v15 (a : List Int) (b : List Int) (k : List Int) (h0 : Byt a) (h1 : Byt b) (h2 : Byt k) (hv0 : List.length a = 32) (hv1 : List.length b = 32) (hv2 : List.length k = 32) : ((decide ((sub (apO8) (192 : Nat) (32 : Nat)) = (sub (apO8) (0 : Nat) (32 : Nat)))) = false) := (o8_ne (n := 6) (o := 0) (by decide) (by decide) (by decide))
theorem two_v16 (a : List Int) (b : List Int) (k : List Int) (h0 : Byt a) (h1 : Byt b) (h2 : Byt k) (hv0 : List.length a = 32) (hv1 : List.length b = 32) (hv2 : List.length k = 32) : ((!(decide ((lwAdd (sub (apO8) (192 : Nat) (32 : Nat)) (sub (apO8) (32 : Nat) (32 : Nat))) = (sub (apO8) (224 : Nat) (32 : Nat))))) = false) := (not_dec (o8_add (n := 6) (by decide)))
theorem two_v17 (a : List Int) (b : List Int) (k : List Int) (h0 : Byt a) (h1 : Byt b) (h2 : Byt k) (hv0 : List.length a = 32) (hv1 : List.length b = 32) (hv2 : List.length k = 32) : ((decide ((sub (apO8) (160 : Nat) (32 : Nat)) = (sub (apO8) (128 : Nat) (32 : Nat)))) = false) := (o8_ne (n := 5) (o := 4) (by decide) (by decide) (by decide))
theorem two_v18 (a : List Int) (b : List Int) (k : List Int) (h0 : Byt a) (h1 : Byt b) (h2 : Byt k) (hv0 : List.length a = 32) (hv1 : List.length b = 32) (hv2 : List.length k = 32) : ((decide ((sub (apO8) (160 : Nat) (32 : Nat)) = (sub (apO8) (96 : Nat) (32 : Nat)))) = false) := (o8_ne (n := 5) (o := 3) (by decide) (by decide) (by decide))
theorem two_v19 (a : List Int) (b : List Int) (k : List Int) (h0 : Byt a) (h1 : Byt b) (h2 : Byt k) (hv0 : List.length a = 32) (hv1 : List.length b = 32) (hv2 : List.length k = 32) : ((decide ((sub (apO8) (160 : Nat) (32 : Nat)) = (sub (apO8) (64 : Nat) (32 : Nat)))) = false) := (o8_ne (n := 5) (o := 2) (by decide) (by decide) (by decide))
theorem two_v20 (a : List Int) (b : List Int) (k : List Int) (h0 : Byt a) (h1 : Byt b) (h2 : Byt k) (hv0 : List.length a = 32) (hv1 : List.length b = 32) (hv2 : List.length k = 32) : ((decide ((sub (apO8) (160 : Nat) (32 : Nat)) = (sub (apO8) (32 : Nat) (32 : Nat)))) = false) := (o8_ne (n := 5) (o := 1) (by decide) (by decide) (by decide))
theorem two_v21 (a : List Int) (b : List Int) (k : List Int) (h0 : Byt a) (h1 : Byt b) (h2 : Byt k) (hv0 : List.length a = 32) (hv1 : List.length b = 32) (hv2 : List.length k = 32) : ((decide ((sub (apO8) (160 : Nat) (32 : Nat)) = (sub (apO8) (0 : Nat) (32 : Nat)))) = false) := (o8_ne (n := 5) (o := 0) (by decide) (by decide) (by decide))
theorem two_v22 (a : List Int) (b : List Int) (k : List Int) (h0 : Byt a) (h1 : Byt b) (h2 : Byt k) (hv0 : List.length a = 32) (hv1 : List.length b = 32) (hv2 : List.length k = 32) : ((!(decide ((lwAdd (sub (apO8) (160 : Nat) (32 : Nat)) (sub (apO8) (32 : Nat) (32 : Nat))) = (sub (apO8) (192 : Nat) (32 : Nat))))) = false) := (not_dec (o8_add (n := 5) (by decide)))
theorem two_v23 (a : List Int) (b : List Int) (k : List Int) (h0 : Byt a) (h1 : Byt b) (h2 : Byt k) (hv0 : List.length a = 32) (hv1 : List.length b = 32) (hv2 : List.length k = 32) : ((decide ((sub (apO8) (128 : Nat) (32 : Nat)) = (sub (apO8) (96 : Nat) (32 : Nat)))) = false) := (o8_ne (n := 4) (o := 3) (by decide) (by decide) (by decide))
theorem two_v24 (a : List Int) (b : List Int) (k : List Int) (h0 : Byt a) (h1 : Byt b) (h2 : Byt k) (hv0 : List.length a = 32) (hv1 : List.length b = 32) (hv2 : List.length k = 32) : ((decide ((sub (apO8) (128 : Nat) (32 : Nat)) = (sub (apO8) (64 : Nat) (32 : Nat)))) = false) := (o8_ne (n := 4) (o := 2) (by decide) (by decide) (by decide))
theorem two_v25 (a : List Int) (b : List Int) (k : List Int) (h0 : Byt a) (h1 : Byt b) (h2 : Byt k) (hv0 : List.length a = 32) (hv1 : List.length b = 32) (hv2 : List.length k = 32) : ((decide ((sub (apO8) (128 : Nat) (32 : Nat)) = (sub (apO8) (32 : Nat) (32 : Nat)))) = false) := (o8_ne (n := 4) (o := 1) (by decide) (by decide) (by decide))
theorem two_v26 (a : List Int) (b : List Int) (k : List Int) (h0 : Byt a) (h1 : Byt b) (h2 : Byt k) (hv0 : List.length a = 32) (hv1 : List.length b = 32) (hv2 : List.length k = 32) : ((decide ((sub (apO8) (128 : Nat) (32 : Nat)) = (sub (apO8) (0 : Nat) (32 : Nat)))) = false) := (o8_ne (n := 4) (o := 0) (by decide) (by decide) (by decide))
theorem two_v27 (a : List Int) (b : List Int) (k : List Int) (h0 : Byt a) (h1 : Byt b) (h2 : Byt k) (hv0 : List.length a = 32) (hv1 : List.length b = 32) (hv2 : List.length k = 32) : ((!(decide ((lwAdd (sub (apO8) (128 : Nat) (32 : Nat)) (sub (apO8) (32 : Nat) (32 : Nat))) = (sub (apO8) (160 : Nat) (32 : Nat))))) = false) := (not_dec (o8_add (n := 4) (by decide)))
theorem two_v28 (a : List Int) (b : List Int) (k : List Int) (h0 : Byt a) (h1 : Byt b) (h2 : Byt k) (hv0 : List.length a = 32) (hv1 : List.length b = 32) (hv2 : List.length k = 32) : ((decide ((sub (apO8) (96 : Nat) (32 : Nat)) = (sub (apO8) (64 : Nat) (32 : Nat)))) = false) := (o8_ne (n := 3) (o := 2) (by decide) (by decide) (by decide))
theorem two_v29 (a : List Int) (b : List Int) (k : List Int) (h0 : Byt a) (h1 : Byt b) (h2 : Byt k) (hv0 : List.length a = 32) (hv1 : List.length b = 32) (hv2 : List.length k = 32) : ((decide ((sub (apO8) (96 : Nat) (32 : Nat)) = (sub (apO8) (32 : Nat) (32 : Nat)))) = false) := (o8_ne (n := 3) (o := 1) (by decide) (by decide) (by decide))
theorem two_v30 (a : List Int) (b : List Int) (k : List Int) (h0 : Byt a) (h1 : Byt b) (h2 : Byt k) (hv0 : List.length a = 32) (hv1 : List.length b = 32) (hv2 : List.length k = 32) : ((decide ((sub (apO8) (96 : Nat) (32 : Nat)) = (sub (apO8) (0 : Nat) (32 : Nat)))) = false) := (o8_ne (n := 3) (o := 0) (by decide) (by decide) (by decide))
theorem two_v31 (a : List Int) (b : List Int) (k : List Int) (h0 : Byt a) (h1 : Byt b) (h2 : Byt k) (hv0 : List.length a = 32) (hv1 : List.length b = 32) (hv2 : List.length k = 32) : ((!(decide ((lwAdd (sub (apO8) (96 : Nat) (32 : Nat)) (sub (apO8) (32 : Nat) (32 : Nat))) = (sub (apO8) (128 : Nat) (32 : Nat))))) = false) := (not_dec (o8_add (n := 3) (by decide)))
theorem two_v32 (a : List Int) (b : List Int) (k : List Int) (h0 : Byt a) (h1 : Byt b) (h2 : Byt k) (hv0 : List.length a = 32) (hv1 : List.length b = 32) (hv2 : List.length k = 32) : ((decide ((sub (apO8) (64 : Nat) (32 : Nat)) = (sub (apO8) (32 : Nat) (32 : Nat)))) = false) := (o8_ne (n := 2) (o := 1) (by decide) (by decide) (by decide))
theorem two_v33 (a : List Int) (b : List Int) (k : List Int) (h0 : Byt a) (h1 : Byt b) (h2 : Byt k) (hv0 : List.length a = 32) (hv1 : List.length b = 32) (hv2 : List.length k = 32) : ((decide ((sub (apO8) (64 : Nat) (32 : Nat)) = (sub (apO8) (0 : Nat) (32 : Nat)))) = false) := (o8_ne (n := 2) (o := 0) (by decide) (by decide) (by decide))
theorem two_v34 (a : List Int) (b : List Int) (k : List Int) (h0 : Byt a) (h1 : Byt b) (h2 : Byt k) (hv0 : List.length a = 32) (hv1 : List.length b = 32) (hv2 : List.length k = 32) : ((!(decide ((lwAdd (sub (apO8) (64 : Nat) (32 : Nat)) (sub (apO8) (32 : Nat) (32 : Nat))) = (sub (apO8) (96 : Nat) (32 : Nat))))) = false) := (not_dec (o8_add (n := 2) (by decide)))
theorem two_v35 (a : List Int) (b : List Int) (k : List Int) (h0 : Byt a) (h1 : Byt b) (h2 : Byt k) (hv0 : List.length a = 32) (hv1 : List.length b = 32) (hv2 : List.length k = 32) : ((decide ((sub (apO8) (32 : Nat) (32 : Nat)) = (sub (apO8) (0 : Nat) (32 : Nat)))) = false) := (o8_ne (n := 1) (o := 0) (by decide) (by decide) (by decide))
theorem two_v36 (a : List Int) (b : List Int) (k : List Int) (h0 : Byt a) (h1 : Byt b) (h2 : Byt k) (hv0 : List.length a = 32) (hv1 : List.length b = 32) (hv2 : List.length k = 32) : ((!(decide ((lwAdd (sub (apO8) (32 : Nat) (32 : Nat)) (sub (apO8) (32 : Nat) (32 : Nat))) = (sub (apO8) (64 : Nat) (32 : Nat))))) = false) := (not_dec (o8_add (n := 1) (by decide)))
theorem two_v37 (a : List Int) (b : List Int) (k : List Int) (h0 : Byt a) (h1 : Byt b) (h2 : Byt k) (hv0 : List.length a = 32) (hv1 : List.length b = 32) (hv2 : List.length k = 32) : ((!(decide ((lwAdd (sub (apO8) (0 : Nat) (32 : Nat)) (sub (apO8) (32 : Nat) (32 : Nat))) = (sub (apO8) (32 : Nat) (32 : Nat))))) = false) := (not_dec (o8_add (n := 0) (by decide)))
theorem two_v38 (a : List Int) (b : List Int) (k : List Int) (h0 : Byt a) (h1 : Byt b) (h2 : Byt k) (hv0 : List.length a = 32) (hv1 : List.length b = 32) (hv2 : List.length k = 32) : ((!(apPrime (apParts (lwPt a)))) = false) := (by rw [two_sub h0 hv0]; rfl)
theorem two_v39 (a : List Int) (b : List Int) (k : List Int) (h0 : Byt a) (h1 : Byt b) (h2 : Byt k) (hv0 : List.length a = 32) (hv1 : List.length b = 32) (hv2 : List.length k = 32) : ((!((apSmall (lwPt a)) == (decide ((apParts (lwPt a)) = (apId))))) = false) := (by rw [two_small h0 hv0]; exact congrArg not (beq_self_eq_true _))
theorem two_v40 (a : List Int) (b : List Int) (k : List Int) (h0 : Byt a) (h1 : Byt b) (h2 : Byt k) (hv0 : List.length a = 32) (hv1 : List.length b = 32) (hv2 : List.length k = 32) : ((!((apPrime (lwPt a)) == ((apParts_1 (lwPt a)) == (0 : Int)))) = false) := (by rw [two_prime h0 hv0]; exact congrArg not (beq_self_eq_true _))
theorem two_v41 (a : List Int) (b : List Int) (k : List Int) (h0 : Byt a) (h1 : Byt b) (h2 : Byt k) (hv0 : List.length a = 32) (hv1 : List.length b = 32) (hv2 : List.length k = 32) : (((apParts_1 (lwAdd (lwPt a) (lwPt b))) != (Int.tmod (IntKind.i64.wrap ((apParts_1 (lwPt a)) + (apParts_1 (lwPt b)))) (8 : Int))) = false) := (by rw [two_i h0 hv0 h1 hv1]; exact congrArg not (beq_self_eq_true _))
theorem two_v42 (a : List Int) (b : List Int) (k : List Int) (h0 : Byt a) (h1 : Byt b) (h2 : Byt k) (hv0 : List.length a = 32) (hv1 : List.length b = 32) (hv2 : List.length k = 32) : ((!(decide ((apParts (lwAdd (lwPt a) (lwPt b))) = (lwAdd (apParts (lwPt a)) (apParts (lwPt b)))))) = false) := (not_dec (two_add h0 hv0 h1 hv1))
theorem two_v43 (a : List Int) (b : List Int) (k : List Int) (h0 : Byt a) (h1 : Byt b) (h2 : Byt k) (hv0 : List.length a = 32) (hv1 : List.length b = 32) (hv2 : List.length k = 32) : ((!(decide ((lwAdd (apParts (lwPt a)) (sub (apO8) ((Int.toNat (apParts_1 (lwPt a))) * (32 : Nat)) (32 : Nat))) = (lwPt a)))) = false) := (not_dec (two_up h0 hv0))
theorem two_v44 (a : List Int) (b : List Int) (k : List Int) (h0 : Byt a) (h1 : Byt b) (h2 : Byt k) (hv0 : List.length a = 32) (hv1 : List.length b = 32) (hv2 : List.length k = 32) : ((decide ((apParts_1 (lwPt b)) > (7 : Int))) = false) := (decide_eq_false (by have q := pa_i h1 hv1; omega))
theorem two_v45 (a : List Int) (b : List Int) (k : List Int) (h0 : Byt a) (h1 : Byt b) (h2 : Byt k) (hv0 : List.length a = 32) (hv1 : List.length b = 32) (hv2 : List.length k = 32) : ((((Int.toNat (apParts_1 (lwPt a))) * (32 : Nat)) + (32 : Nat)) ≤ (256 : Nat)) := (by have q := pa_i h0 hv0; omega)
theorem two_v46 (a : List Int) (b : List Int) (k : List Int) (h0 : Byt a) (h1 : Byt b) (h2 : Byt k) (hv0 : List.length a = 32) (hv1 : List.length b = 32) (hv2 : List.length k = 32) : ((0 : Int) ≤ (apParts_1 (lwPt a))) := (by have q := pa_i h0 hv0; omega)
theorem two_v47 (a : List Int) (b : List Int) (k : List Int) (h0 : Byt a) (h1 : Byt b) (h2 : Byt k) (hv0 : List.length a = 32) (hv1 : List.length b = 32) (hv2 : List.length k = 32) : ((apParts_1 (lwPt a)) < (8 : Int)) := (by have q := pa_i h0 hv0; omega)
theorem two_v48 (a : List Int) (b : List Int) (k : List Int) (h0 : Byt a) (h1 : Byt b) (h2 : Byt k) (hv0 : List.length a = 32) (hv1 : List.length b = 32) (hv2 : List.length k = 32) : ((decide ((apParts_1 (lwPt b)) < (0 : Int))) = false) := (decide_eq_false (by have q := pa_i h1 hv1; omega))
theorem two_v49 (a : List Int) (b : List Int) (k : List Int) (h0 : Byt a) (h1 : Byt b) (h2 : Byt k) (hv0 : List.length a = 32) (hv1 : List.length b = 32) (hv2 : List.length k = 32) : ((decide ((apParts_1 (lwPt a)) > (7 : Int))) = false) := (decide_eq_false (by have q := pa_i h0 hv0; omega))
theorem two_v50 (a : List Int) (b : List Int) (k : List Int) (h0 : Byt a) (h1 : Byt b) (h2 : Byt k) (hv0 : List.length a = 32) (hv1 : List.length b = 32) (hv2 : List.length k = 32) : ((decide ((apParts_1 (lwPt a)) < (0 : Int))) = false) := (decide_eq_false (by have q := pa_i h0 hv0; omega))
theorem two_v51 (a : List Int) (b : List Int) (k : List Int) (h0 : Byt a) (h1 : Byt b) (h2 : Byt k) (hv0 : List.length a = 32) (hv1 : List.length b = 32) (hv2 : List.length k = 32) : (((apParts_2 (lwAdd (lwPt a) (lwPt b))) != (0 : Int)) = false) := (by rw [two_c h0 hv0 h1 hv1]; rfl)
theorem two_v52 (a : List Int) (b : List Int) (k : List Int) (h0 : Byt a) (h1 : Byt b) (h2 : Byt k) (hv0 : List.length a = 32) (hv1 : List.length b = 32) (hv2 : List.length k = 32) : (((apParts_2 (lwPt b)) != (0 : Int)) = false) := (by rw [pa_3 h1 hv1]; rfl)
theorem two_v53 (a : List Int) (b : List Int) (k : List Int) (h0 : Byt a) (h1 : Byt b) (h2 : Byt k) (hv0 : List.length a = 32) (hv1 : List.length b = 32) (hv2 : List.length k = 32) : (((apParts_2 (lwPt a)) != (0 : Int)) = false) := (by rw [pa_3 h0 hv0]; rfl)
set_option maxHeartbeats 1000000 in
theorem two_body0 (a : List Int) (b : List Int) (k : List Int) (h0 : (Byt a)) (h1 : (Byt b)) (h2 : (Byt k)) (hv0 : List.length a = (32 : Nat)) (hv1 : List.length b = (32 : Nat)) (hv2 : List.length k = (32 : Nat)) (w : World) : Body Try.prog (tabOf tabVX) Try.f8 ⟨w, [], 0, noEnv⟩ (toA [.g [.ints .u8 (32 : Nat) a], .g [.ints .u8 (32 : Nat) b], .g [.ints .u8 (32 : Nat) k]]) [] (fun ys _ => ys = [.a (.b true)]) :=
  Body.of_fin (Γ := gam67) (Λ := noLam) (Ψ := noPsi) (fuel := 9) (m := 199) (c := (Try.f8.body.getD .skip)) mix tabOkVX gam67_ok rfl (rs := [.tmp 6]) rfl rfl [false, true, true, false, true, true, false, true, true, false, true, true, false, true, true, false, true, true, false, true, true, false, true, true, true, true, true, true, true, true, false, true, true, true, true, true, false, true, true, true, true, true, true, false, true, true, true, true, false, true, true, true, true, true, false, true, true, false, false, true, false, false, true, false, true, false, false, true, false, true, false, true, false, false, true, false, true, false, true, false, true, false, false, true, false, true, false, true, false, true, false, true, false, false, true, false, true, false, true, false, true, false, true, false, true, false, false, true, false, true, false, true, false, true, false, true, false, true, false, true, false, false, true, false, true, false, true, false, true, false, true, false, true, false, true, false, true, false, false, false, true, true, true, true, true, true, true, true, true, true] [.eqS 6 (.o (.a (.b true)))]
    (vc := [((.o (.a (.b ((decide ((lwMul (nPlus (List.set k (31 : Nat) (bits2 .and .u8 (List.getD (sub k (31 : Nat) (1 : Nat)) (0 : Nat) 0) (127 : Int))) ([237, 211, 245, 92, 26, 99, 18, 88, 214, 156, 247, 162, 222, 249, 222, 20, 0, 0, 0, 0, 0, 0, 0, 0, 0, 0, 0, 0, 0, 0, 0, 16] : List Int)) (lwPt a)) = (lwMul (List.set k (31 : Nat) (bits2 .and .u8 (List.getD (sub k (31 : Nat) (1 : Nat)) (0 : Nat) 0) (127 : Int))) (lwPt a)))) == (apPrime (lwPt a))))) : AV) = .o (.a (.b true))), ((decide ((lwMul (nPlus (List.set k (31 : Nat) (bits2 .and .u8 (List.getD (sub k (31 : Nat) (1 : Nat)) (0 : Nat) 0) (127 : Int))) ([237, 211, 245, 92, 26, 99, 18, 88, 214, 156, 247, 162, 222, 249, 222, 20, 0, 0, 0, 0, 0, 0, 0, 0, 0, 0, 0, 0, 0, 0, 0, 16] : List Int)) (apParts (lwPt a))) = (lwMul (List.set k (31 : Nat) (bits2 .and .u8 (List.getD (sub k (31 : Nat) (1 : Nat)) (0 : Nat) 0) (127 : Int))) (apParts (lwPt a))))) = true), ((decide ((lwMul (nPlus (List.set k (31 : Nat) (bits2 .and .u8 (List.getD (sub k (31 : Nat) (1 : Nat)) (0 : Nat) 0) (127 : Int))) ([237, 211, 245, 92, 26, 99, 18, 88, 214, 156, 247, 162, 222, 249, 222, 20, 0, 0, 0, 0, 0, 0, 0, 0, 0, 0, 0, 0, 0, 0, 0, 16] : List Int)) (apParts (lwPt a))) = (lwMul (List.set k (31 : Nat) (bits2 .and .u8 (List.getD (sub k (31 : Nat) (1 : Nat)) (0 : Nat) 0) (127 : Int))) (apParts (lwPt a))))) = true), ((decide ((lwMul (nPlus (List.set k (31 : Nat) (bits2 .and .u8 (List.getD (sub k (31 : Nat) (1 : Nat)) (0 : Nat) 0) (127 : Int))) ([237, 211, 245, 92, 26, 99, 18, 88, 214, 156, 247, 162, 222, 249, 222, 20, 0, 0, 0, 0, 0, 0, 0, 0, 0, 0, 0, 0, 0, 0, 0, 16] : List Int)) (apParts (lwPt a))) = (lwMul (List.set k (31 : Nat) (bits2 .and .u8 (List.getD (sub k (31 : Nat) (1 : Nat)) (0 : Nat) 0) (127 : Int))) (apParts (lwPt a))))) = true), ((decide ((lwMul (nPlus (List.set k (31 : Nat) (bits2 .and .u8 (List.getD (sub k (31 : Nat) (1 : Nat)) (0 : Nat) 0) (127 : Int))) ([237, 211, 245, 92, 26, 99, 18, 88, 214, 156, 247, 162, 222, 249, 222, 20, 0, 0, 0, 0, 0, 0, 0, 0, 0, 0, 0, 0, 0, 0, 0, 16] : List Int)) (apParts (lwPt a))) = (lwMul (List.set k (31 : Nat) (bits2 .and .u8 (List.getD (sub k (31 : Nat) (1 : Nat)) (0 : Nat) 0) (127 : Int))) (apParts (lwPt a))))) = true), ((decide ((lwMul (nPlus (List.set k (31 : Nat) (bits2 .and .u8 (List.getD (sub k (31 : Nat) (1 : Nat)) (0 : Nat) 0) (127 : Int))) ([237, 211, 245, 92, 26, 99, 18, 88, 214, 156, 247, 162, 222, 249, 222, 20, 0, 0, 0, 0, 0, 0, 0, 0, 0, 0, 0, 0, 0, 0, 0, 16] : List Int)) (apParts (lwPt a))) = (lwMul (List.set k (31 : Nat) (bits2 .and .u8 (List.getD (sub k (31 : Nat) (1 : Nat)) (0 : Nat) 0) (127 : Int))) (apParts (lwPt a))))) = true), ((decide ((lwMul (nPlus (List.set k (31 : Nat) (bits2 .and .u8 (List.getD (sub k (31 : Nat) (1 : Nat)) (0 : Nat) 0) (127 : Int))) ([237, 211, 245, 92, 26, 99, 18, 88, 214, 156, 247, 162, 222, 249, 222, 20, 0, 0, 0, 0, 0, 0, 0, 0, 0, 0, 0, 0, 0, 0, 0, 16] : List Int)) (apParts (lwPt a))) = (lwMul (List.set k (31 : Nat) (bits2 .and .u8 (List.getD (sub k (31 : Nat) (1 : Nat)) (0 : Nat) 0) (127 : Int))) (apParts (lwPt a))))) = true), ((decide ((lwMul (nPlus (List.set k (31 : Nat) (bits2 .and .u8 (List.getD (sub k (31 : Nat) (1 : Nat)) (0 : Nat) 0) (127 : Int))) ([237, 211, 245, 92, 26, 99, 18, 88, 214, 156, 247, 162, 222, 249, 222, 20, 0, 0, 0, 0, 0, 0, 0, 0, 0, 0, 0, 0, 0, 0, 0, 16] : List Int)) (apParts (lwPt a))) = (lwMul (List.set k (31 : Nat) (bits2 .and .u8 (List.getD (sub k (31 : Nat) (1 : Nat)) (0 : Nat) 0) (127 : Int))) (apParts (lwPt a))))) = true), ((decide ((lwMul (nPlus (List.set k (31 : Nat) (bits2 .and .u8 (List.getD (sub k (31 : Nat) (1 : Nat)) (0 : Nat) 0) (127 : Int))) ([237, 211, 245, 92, 26, 99, 18, 88, 214, 156, 247, 162, 222, 249, 222, 20, 0, 0, 0, 0, 0, 0, 0, 0, 0, 0, 0, 0, 0, 0, 0, 16] : List Int)) (apParts (lwPt a))) = (lwMul (List.set k (31 : Nat) (bits2 .and .u8 (List.getD (sub k (31 : Nat) (1 : Nat)) (0 : Nat) 0) (127 : Int))) (apParts (lwPt a))))) = true), ((decide ((lwMul (nPlus (List.set k (31 : Nat) (bits2 .and .u8 (List.getD (sub k (31 : Nat) (1 : Nat)) (0 : Nat) 0) (127 : Int))) ([237, 211, 245, 92, 26, 99, 18, 88, 214, 156, 247, 162, 222, 249, 222, 20, 0, 0, 0, 0, 0, 0, 0, 0, 0, 0, 0, 0, 0, 0, 0, 16] : List Int)) (apParts (lwPt a))) = (lwMul (List.set k (31 : Nat) (bits2 .and .u8 (List.getD (sub k (31 : Nat) (1 : Nat)) (0 : Nat) 0) (127 : Int))) (apParts (lwPt a))))) = true), ((decide ((lwMul (nPlus (List.set k (31 : Nat) (bits2 .and .u8 (List.getD (sub k (31 : Nat) (1 : Nat)) (0 : Nat) 0) (127 : Int))) ([237, 211, 245, 92, 26, 99, 18, 88, 214, 156, 247, 162, 222, 249, 222, 20, 0, 0, 0, 0, 0, 0, 0, 0, 0, 0, 0, 0, 0, 0, 0, 16] : List Int)) (apParts (lwPt a))) = (lwMul (List.set k (31 : Nat) (bits2 .and .u8 (List.getD (sub k (31 : Nat) (1 : Nat)) (0 : Nat) 0) (127 : Int))) (apParts (lwPt a))))) = true), (false = false), (false = false), ((decide ((sub (apO8) (224 : Nat) (32 : Nat)) = (sub (apO8) (192 : Nat) (32 : Nat)))) = false), ((224 : Nat) ≤ (256 : Nat)), (((0 : Int) ≤ (6 : Int)) ∧ ((6 : Int) < (8 : Int))), ((256 : Nat) ≤ (256 : Nat)), (((0 : Int) ≤ (7 : Int)) ∧ ((7 : Int) < (8 : Int))), (true = true), ((decide ((sub (apO8) (224 : Nat) (32 : Nat)) = (sub (apO8) (160 : Nat) (32 : Nat)))) = false), ((192 : Nat) ≤ (256 : Nat)), (((0 : Int) ≤ (5 : Int)) ∧ ((5 : Int) < (8 : Int))), ((256 : Nat) ≤ (256 : Nat)), (((0 : Int) ≤ (7 : Int)) ∧ ((7 : Int) < (8 : Int))), (true = true), ((decide ((sub (apO8) (224 : Nat) (32 : Nat)) = (sub (apO8) (128 : Nat) (32 : Nat)))) = false), ((160 : Nat) ≤ (256 : Nat)), (((0 : Int) ≤ (4 : Int)) ∧ ((4 : Int) < (8 : Int))), ((256 : Nat) ≤ (256 : Nat)), (((0 : Int) ≤ (7 : Int)) ∧ ((7 : Int) < (8 : Int))), (true = true), ((decide ((sub (apO8) (224 : Nat) (32 : Nat)) = (sub (apO8) (96 : Nat) (32 : Nat)))) = false), ((128 : Nat) ≤ (256 : Nat)), (((0 : Int) ≤ (3 : Int)) ∧ ((3 : Int) < (8 : Int))), ((256 : Nat) ≤ (256 : Nat)), (((0 : Int) ≤ (7 : Int)) ∧ ((7 : Int) < (8 : Int))), (true = true), ((decide ((sub (apO8) (224 : Nat) (32 : Nat)) = (sub (apO8) (64 : Nat) (32 : Nat)))) = false), ((96 : Nat) ≤ (256 : Nat)), (((0 : Int) ≤ (2 : Int)) ∧ ((2 : Int) < (8 : Int))), ((256 : Nat) ≤ (256 : Nat)), (((0 : Int) ≤ (7 : Int)) ∧ ((7 : Int) < (8 : Int))), (true = true), ((decide ((sub (apO8) (224 : Nat) (32 : Nat)) = (sub (apO8) (32 : Nat) (32 : Nat)))) = false), ((64 : Nat) ≤ (256 : Nat)), (((0 : Int) ≤ (1 : Int)) ∧ ((1 : Int) < (8 : Int))), ((256 : Nat) ≤ (256 : Nat)), (((0 : Int) ≤ (7 : Int)) ∧ ((7 : Int) < (8 : Int))), (true = true), ((decide ((sub (apO8) (224 : Nat) (32 : Nat)) = (sub (apO8) (0 : Nat) (32 : Nat)))) = false), ((32 : Nat) ≤ (256 : Nat)), (((0 : Int) ≤ (0 : Int)) ∧ ((0 : Int) < (8 : Int))), ((256 : Nat) ≤ (256 : Nat)), (((0 : Int) ≤ (7 : Int)) ∧ ((7 : Int) < (8 : Int))), (true = true), ((!(decide ((lwAdd (sub (apO8) (224 : Nat) (32 : Nat)) (sub (apO8) (32 : Nat) (32 : Nat))) = (sub (apO8) (0 : Nat) (32 : Nat))))) = false), ((32 : Nat) ≤ (256 : Nat)), (((0 : Int) ≤ (0 : Int)) ∧ ((0 : Int) < (8 : Int))), ((8 : Int) ≠ 0), ((64 : Nat) ≤ (256 : Nat)), (((0 : Int) ≤ (1 : Int)) ∧ ((1 : Int) < (8 : Int))), ((256 : Nat) ≤ (256 : Nat)), (((0 : Int) ≤ (7 : Int)) ∧ ((7 : Int) < (8 : Int))), (true = true), (false = false), ((decide ((sub (apO8) (192 : Nat) (32 : Nat)) = (sub (apO8) (160 : Nat) (32 : Nat)))) = false), ((192 : Nat) ≤ (256 : Nat)), (((0 : Int) ≤ (5 : Int)) ∧ ((5 : Int) < (8 : Int))), ((224 : Nat) ≤ (256 : Nat)), (((0 : Int) ≤ (6 : Int)) ∧ ((6 : Int) < (8 : Int))), (true = true), ((decide ((sub (apO8) (192 : Nat) (32 : Nat)) = (sub (apO8) (128 : Nat) (32 : Nat)))) = false), ((160 : Nat) ≤ (256 : Nat)), (((0 : Int) ≤ (4 : Int)) ∧ ((4 : Int) < (8 : Int))), ((224 : Nat) ≤ (256 : Nat)), (((0 : Int) ≤ (6 : Int)) ∧ ((6 : Int) < (8 : Int))), (true = true), ((decide ((sub (apO8) (192 : Nat) (32 : Nat)) = (sub (apO8) (96 : Nat) (32 : Nat)))) = false), ((128 : Nat) ≤ (256 : Nat)), (((0 : Int) ≤ (3 : Int)) ∧ ((3 : Int) < (8 : Int))), ((224 : Nat) ≤ (256 : Nat)), (((0 : Int) ≤ (6 : Int)) ∧ ((6 : Int) < (8 : Int))), (true = true), ((decide ((sub (apO8) (192 : Nat) (32 : Nat)) = (sub (apO8) (64 : Nat) (32 : Nat)))) = false), ((96 : Nat) ≤ (256 : Nat)), (((0 : Int) ≤ (2 : Int)) ∧ ((2 : Int) < (8 : Int))), ((224 : Nat) ≤ (256 : Nat)), (((0 : Int) ≤ (6 : Int)) ∧ ((6 : Int) < (8 : Int))), (true = true), ((decide ((sub (apO8) (192 : Nat) (32 : Nat)) = (sub (apO8) (32 : Nat) (32 : Nat)))) = false), ((64 : Nat) ≤ (256 : Nat)), (((0 : Int) ≤ (1 : Int)) ∧ ((1 : Int) < (8 : Int))), ((224 : Nat) ≤ (256 : Nat)), (((0 : Int) ≤ (6 : Int)) ∧ ((6 : Int) < (8 : Int))), (true = true), ((decide ((sub (apO8) (192 : Nat) (32 : Nat)) = (sub (apO8) (0 : Nat) (32 : Nat)))) = false), ((32 : Nat) ≤ (256 : Nat)), (((0 : Int) ≤ (0 : Int)) ∧ ((0 : Int) < (8 : Int))), ((224 : Nat) ≤ (256 : Nat)), (((0 : Int) ≤ (6 : Int)) ∧ ((6 : Int) < (8 : Int))), (true = true), ((!(decide ((lwAdd (sub (apO8) (192 : Nat) (32 : Nat)) (sub (apO8) (32 : Nat) (32 : Nat))) = (sub (apO8) (224 : Nat) (32 : Nat))))) = false), ((256 : Nat) ≤ (256 : Nat)), (((0 : Int) ≤ (7 : Int)) ∧ ((7 : Int) < (8 : Int))), ((8 : Int) ≠ 0), ((64 : Nat) ≤ (256 : Nat)), (((0 : Int) ≤ (1 : Int)) ∧ ((1 : Int) < (8 : Int))), ((224 : Nat) ≤ (256 : Nat)), (((0 : Int) ≤ (6 : Int)) ∧ ((6 : Int) < (8 : Int))), (true = true), (false = false), ((decide ((sub (apO8) (160 : Nat) (32 : Nat)) = (sub (apO8) (128 : Nat) (32 : Nat)))) = false), ((160 : Nat) ≤ (256 : Nat)), (((0 : Int) ≤ (4 : Int)) ∧ ((4 : Int) < (8 : Int))), ((192 : Nat) ≤ (256 : Nat)), (((0 : Int) ≤ (5 : Int)) ∧ ((5 : Int) < (8 : Int))), (true = true), ((decide ((sub (apO8) (160 : Nat) (32 : Nat)) = (sub (apO8) (96 : Nat) (32 : Nat)))) = false), ((128 : Nat) ≤ (256 : Nat)), (((0 : Int) ≤ (3 : Int)) ∧ ((3 : Int) < (8 : Int))), ((192 : Nat) ≤ (256 : Nat)), (((0 : Int) ≤ (5 : Int)) ∧ ((5 : Int) < (8 : Int))), (true = true), ((decide ((sub (apO8) (160 : Nat) (32 : Nat)) = (sub (apO8) (64 : Nat) (32 : Nat)))) = false), ((96 : Nat) ≤ (256 : Nat)), (((0 : Int) ≤ (2 : Int)) ∧ ((2 : Int) < (8 : Int))), ((192 : Nat) ≤ (256 : Nat)), (((0 : Int) ≤ (5 : Int)) ∧ ((5 : Int) < (8 : Int))), (true = true), ((decide ((sub (apO8) (160 : Nat) (32 : Nat)) = (sub (apO8) (32 : Nat) (32 : Nat)))) = false), ((64 : Nat) ≤ (256 : Nat)), (((0 : Int) ≤ (1 : Int)) ∧ ((1 : Int) < (8 : Int))), ((192 : Nat) ≤ (256 : Nat)), (((0 : Int) ≤ (5 : Int)) ∧ ((5 : Int) < (8 : Int))), (true = true), ((decide ((sub (apO8) (160 : Nat) (32 : Nat)) = (sub (apO8) (0 : Nat) (32 : Nat)))) = false), ((32 : Nat) ≤ (256 : Nat)), (((0 : Int) ≤ (0 : Int)) ∧ ((0 : Int) < (8 : Int))), ((192 : Nat) ≤ (256 : Nat)), (((0 : Int) ≤ (5 : Int)) ∧ ((5 : Int) < (8 : Int))), (true = true), ((!(decide ((lwAdd (sub (apO8) (160 : Nat) (32 : Nat)) (sub (apO8) (32 : Nat) (32 : Nat))) = (sub (apO8) (192 : Nat) (32 : Nat))))) = false), ((224 : Nat) ≤ (256 : Nat)), (((0 : Int) ≤ (6 : Int)) ∧ ((6 : Int) < (8 : Int))), ((8 : Int) ≠ 0), ((64 : Nat) ≤ (256 : Nat)), (((0 : Int) ≤ (1 : Int)) ∧ ((1 : Int) < (8 : Int))), ((192 : Nat) ≤ (256 : Nat)), (((0 : Int) ≤ (5 : Int)) ∧ ((5 : Int) < (8 : Int))), (true = true), (false = false), ((decide ((sub (apO8) (128 : Nat) (32 : Nat)) = (sub (apO8) (96 : Nat) (32 : Nat)))) = false), ((128 : Nat) ≤ (256 : Nat)), (((0 : Int) ≤ (3 : Int)) ∧ ((3 : Int) < (8 : Int))), ((160 : Nat) ≤ (256 : Nat)), (((0 : Int) ≤ (4 : Int)) ∧ ((4 : Int) < (8 : Int))), (true = true), ((decide ((sub (apO8) (128 : Nat) (32 : Nat)) = (sub (apO8) (64 : Nat) (32 : Nat)))) = false), ((96 : Nat) ≤ (256 : Nat)), (((0 : Int) ≤ (2 : Int)) ∧ ((2 : Int) < (8 : Int))), ((160 : Nat) ≤ (256 : Nat)), (((0 : Int) ≤ (4 : Int)) ∧ ((4 : Int) < (8 : Int))), (true = true), ((decide ((sub (apO8) (128 : Nat) (32 : Nat)) = (sub (apO8) (32 : Nat) (32 : Nat)))) = false), ((64 : Nat) ≤ (256 : Nat)), (((0 : Int) ≤ (1 : Int)) ∧ ((1 : Int) < (8 : Int))), ((160 : Nat) ≤ (256 : Nat)), (((0 : Int) ≤ (4 : Int)) ∧ ((4 : Int) < (8 : Int))), (true = true), ((decide ((sub (apO8) (128 : Nat) (32 : Nat)) = (sub (apO8) (0 : Nat) (32 : Nat)))) = false), ((32 : Nat) ≤ (256 : Nat)), (((0 : Int) ≤ (0 : Int)) ∧ ((0 : Int) < (8 : Int))), ((160 : Nat) ≤ (256 : Nat)), (((0 : Int) ≤ (4 : Int)) ∧ ((4 : Int) < (8 : Int))), (true = true), ((!(decide ((lwAdd (sub (apO8) (128 : Nat) (32 : Nat)) (sub (apO8) (32 : Nat) (32 : Nat))) = (sub (apO8) (160 : Nat) (32 : Nat))))) = false), ((192 : Nat) ≤ (256 : Nat)), (((0 : Int) ≤ (5 : Int)) ∧ ((5 : Int) < (8 : Int))), ((8 : Int) ≠ 0), ((64 : Nat) ≤ (256 : Nat)), (((0 : Int) ≤ (1 : Int)) ∧ ((1 : Int) < (8 : Int))), ((160 : Nat) ≤ (256 : Nat)), (((0 : Int) ≤ (4 : Int)) ∧ ((4 : Int) < (8 : Int))), (true = true), (false = false), ((decide ((sub (apO8) (96 : Nat) (32 : Nat)) = (sub (apO8) (64 : Nat) (32 : Nat)))) = false), ((96 : Nat) ≤ (256 : Nat)), (((0 : Int) ≤ (2 : Int)) ∧ ((2 : Int) < (8 : Int))), ((128 : Nat) ≤ (256 : Nat)), (((0 : Int) ≤ (3 : Int)) ∧ ((3 : Int) < (8 : Int))), (true = true), ((decide ((sub (apO8) (96 : Nat) (32 : Nat)) = (sub (apO8) (32 : Nat) (32 : Nat)))) = false), ((64 : Nat) ≤ (256 : Nat)), (((0 : Int) ≤ (1 : Int)) ∧ ((1 : Int) < (8 : Int))), ((128 : Nat) ≤ (256 : Nat)), (((0 : Int) ≤ (3 : Int)) ∧ ((3 : Int) < (8 : Int))), (true = true), ((decide ((sub (apO8) (96 : Nat) (32 : Nat)) = (sub (apO8) (0 : Nat) (32 : Nat)))) = false), ((32 : Nat) ≤ (256 : Nat)), (((0 : Int) ≤ (0 : Int)) ∧ ((0 : Int) < (8 : Int))), ((128 : Nat) ≤ (256 : Nat)), (((0 : Int) ≤ (3 : Int)) ∧ ((3 : Int) < (8 : Int))), (true = true), ((!(decide ((lwAdd (sub (apO8) (96 : Nat) (32 : Nat)) (sub (apO8) (32 : Nat) (32 : Nat))) = (sub (apO8) (128 : Nat) (32 : Nat))))) = false), ((160 : Nat) ≤ (256 : Nat)), (((0 : Int) ≤ (4 : Int)) ∧ ((4 : Int) < (8 : Int))), ((8 : Int) ≠ 0), ((64 : Nat) ≤ (256 : Nat)), (((0 : Int) ≤ (1 : Int)) ∧ ((1 : Int) < (8 : Int))), ((128 : Nat) ≤ (256 : Nat)), (((0 : Int) ≤ (3 : Int)) ∧ ((3 : Int) < (8 : Int))), (true = true), (false = false), ((decide ((sub (apO8) (64 : Nat) (32 : Nat)) = (sub (apO8) (32 : Nat) (32 : Nat)))) = false), ((64 : Nat) ≤ (256 : Nat)), (((0 : Int) ≤ (1 : Int)) ∧ ((1 : Int) < (8 : Int))), ((96 : Nat) ≤ (256 : Nat)), (((0 : Int) ≤ (2 : Int)) ∧ ((2 : Int) < (8 : Int))), (true = true), ((decide ((sub (apO8) (64 : Nat) (32 : Nat)) = (sub (apO8) (0 : Nat) (32 : Nat)))) = false), ((32 : Nat) ≤ (256 : Nat)), (((0 : Int) ≤ (0 : Int)) ∧ ((0 : Int) < (8 : Int))), ((96 : Nat) ≤ (256 : Nat)), (((0 : Int) ≤ (2 : Int)) ∧ ((2 : Int) < (8 : Int))), (true = true), ((!(decide ((lwAdd (sub (apO8) (64 : Nat) (32 : Nat)) (sub (apO8) (32 : Nat) (32 : Nat))) = (sub (apO8) (96 : Nat) (32 : Nat))))) = false), ((128 : Nat) ≤ (256 : Nat)), (((0 : Int) ≤ (3 : Int)) ∧ ((3 : Int) < (8 : Int))), ((8 : Int) ≠ 0), ((64 : Nat) ≤ (256 : Nat)), (((0 : Int) ≤ (1 : Int)) ∧ ((1 : Int) < (8 : Int))), ((96 : Nat) ≤ (256 : Nat)), (((0 : Int) ≤ (2 : Int)) ∧ ((2 : Int) < (8 : Int))), (true = true), (false = false), ((decide ((sub (apO8) (32 : Nat) (32 : Nat)) = (sub (apO8) (0 : Nat) (32 : Nat)))) = false), ((32 : Nat) ≤ (256 : Nat)), (((0 : Int) ≤ (0 : Int)) ∧ ((0 : Int) < (8 : Int))), ((64 : Nat) ≤ (256 : Nat)), (((0 : Int) ≤ (1 : Int)) ∧ ((1 : Int) < (8 : Int))), (true = true), ((!(decide ((lwAdd (sub (apO8) (32 : Nat) (32 : Nat)) (sub (apO8) (32 : Nat) (32 : Nat))) = (sub (apO8) (64 : Nat) (32 : Nat))))) = false), ((96 : Nat) ≤ (256 : Nat)), (((0 : Int) ≤ (2 : Int)) ∧ ((2 : Int) < (8 : Int))), ((8 : Int) ≠ 0), ((64 : Nat) ≤ (256 : Nat)), (((0 : Int) ≤ (1 : Int)) ∧ ((1 : Int) < (8 : Int))), ((64 : Nat) ≤ (256 : Nat)), (((0 : Int) ≤ (1 : Int)) ∧ ((1 : Int) < (8 : Int))), (true = true), (false = false), ((!(decide ((lwAdd (sub (apO8) (0 : Nat) (32 : Nat)) (sub (apO8) (32 : Nat) (32 : Nat))) = (sub (apO8) (32 : Nat) (32 : Nat))))) = false), ((64 : Nat) ≤ (256 : Nat)), (((0 : Int) ≤ (1 : Int)) ∧ ((1 : Int) < (8 : Int))), ((8 : Int) ≠ 0), ((64 : Nat) ≤ (256 : Nat)), (((0 : Int) ≤ (1 : Int)) ∧ ((1 : Int) < (8 : Int))), ((32 : Nat) ≤ (256 : Nat)), (((0 : Int) ≤ (0 : Int)) ∧ ((0 : Int) < (8 : Int))), (true = true), ((!(apPrime (apParts (lwPt a)))) = false), ((!((apSmall (lwPt a)) == (decide ((apParts (lwPt a)) = (apId))))) = false), ((!((apSmall (lwPt a)) == (decide ((apParts (lwPt a)) = (apId))))) = false), ((!((apSmall (lwPt a)) == (decide ((apParts (lwPt a)) = (apId))))) = false), ((!((apPrime (lwPt a)) == ((apParts_1 (lwPt a)) == (0 : Int)))) = false), ((!((apPrime (lwPt a)) == ((apParts_1 (lwPt a)) == (0 : Int)))) = false), ((!((apPrime (lwPt a)) == ((apParts_1 (lwPt a)) == (0 : Int)))) = false), ((!((apPrime (lwPt a)) == ((apParts_1 (lwPt a)) == (0 : Int)))) = false), ((!((apPrime (lwPt a)) == ((apParts_1 (lwPt a)) == (0 : Int)))) = false), ((!((apPrime (lwPt a)) == ((apParts_1 (lwPt a)) == (0 : Int)))) = false), (((apParts_1 (lwAdd (lwPt a) (lwPt b))) != (Int.tmod (IntKind.i64.wrap ((apParts_1 (lwPt a)) + (apParts_1 (lwPt b)))) (8 : Int))) = false), (((apParts_1 (lwAdd (lwPt a) (lwPt b))) != (Int.tmod (IntKind.i64.wrap ((apParts_1 (lwPt a)) + (apParts_1 (lwPt b)))) (8 : Int))) = false), (((apParts_1 (lwAdd (lwPt a) (lwPt b))) != (Int.tmod (IntKind.i64.wrap ((apParts_1 (lwPt a)) + (apParts_1 (lwPt b)))) (8 : Int))) = false), (((apParts_1 (lwAdd (lwPt a) (lwPt b))) != (Int.tmod (IntKind.i64.wrap ((apParts_1 (lwPt a)) + (apParts_1 (lwPt b)))) (8 : Int))) = false), (((apParts_1 (lwAdd (lwPt a) (lwPt b))) != (Int.tmod (IntKind.i64.wrap ((apParts_1 (lwPt a)) + (apParts_1 (lwPt b)))) (8 : Int))) = false), ((!(decide ((apParts (lwAdd (lwPt a) (lwPt b))) = (lwAdd (apParts (lwPt a)) (apParts (lwPt b)))))) = false), ((!(decide ((apParts (lwAdd (lwPt a) (lwPt b))) = (lwAdd (apParts (lwPt a)) (apParts (lwPt b)))))) = false), ((8 : Int) ≠ 0), ((!(decide ((apParts (lwAdd (lwPt a) (lwPt b))) = (lwAdd (apParts (lwPt a)) (apParts (lwPt b)))))) = false), ((!(decide ((apParts (lwAdd (lwPt a) (lwPt b))) = (lwAdd (apParts (lwPt a)) (apParts (lwPt b)))))) = false), ((!(decide ((apParts (lwAdd (lwPt a) (lwPt b))) = (lwAdd (apParts (lwPt a)) (apParts (lwPt b)))))) = false), ((!(decide ((apParts (lwAdd (lwPt a) (lwPt b))) = (lwAdd (apParts (lwPt a)) (apParts (lwPt b)))))) = false), ((!(decide ((apParts (lwAdd (lwPt a) (lwPt b))) = (lwAdd (apParts (lwPt a)) (apParts (lwPt b)))))) = false), ((!(decide ((lwAdd (apParts (lwPt a)) (sub (apO8) ((Int.toNat (apParts_1 (lwPt a))) * (32 : Nat)) (32 : Nat))) = (lwPt a)))) = false), ((!(decide ((lwAdd (apParts (lwPt a)) (sub (apO8) ((Int.toNat (apParts_1 (lwPt a))) * (32 : Nat)) (32 : Nat))) = (lwPt a)))) = false), ((!(decide ((lwAdd (apParts (lwPt a)) (sub (apO8) ((Int.toNat (apParts_1 (lwPt a))) * (32 : Nat)) (32 : Nat))) = (lwPt a)))) = false), ((!(decide ((lwAdd (apParts (lwPt a)) (sub (apO8) ((Int.toNat (apParts_1 (lwPt a))) * (32 : Nat)) (32 : Nat))) = (lwPt a)))) = false), ((!(decide ((lwAdd (apParts (lwPt a)) (sub (apO8) ((Int.toNat (apParts_1 (lwPt a))) * (32 : Nat)) (32 : Nat))) = (lwPt a)))) = false), ((!(decide ((lwAdd (apParts (lwPt a)) (sub (apO8) ((Int.toNat (apParts_1 (lwPt a))) * (32 : Nat)) (32 : Nat))) = (lwPt a)))) = false), ((decide ((apParts_1 (lwPt b)) > (7 : Int))) = false), ((decide ((apParts_1 (lwPt b)) > (7 : Int))) = false), ((decide ((apParts_1 (lwPt b)) > (7 : Int))) = false), ((decide ((apParts_1 (lwPt b)) > (7 : Int))) = false), ((((Int.toNat (apParts_1 (lwPt a))) * (32 : Nat)) + (32 : Nat)) ≤ (256 : Nat)), ((decide ((apParts_1 (lwPt b)) > (7 : Int))) = false), (((0 : Int) ≤ (apParts_1 (lwPt a))) ∧ ((apParts_1 (lwPt a)) < (8 : Int))), ((decide ((apParts_1 (lwPt b)) > (7 : Int))) = false), ((decide ((apParts_1 (lwPt b)) > (7 : Int))) = false), ((decide ((apParts_1 (lwPt b)) > (7 : Int))) = false), ((decide ((apParts_1 (lwPt b)) > (7 : Int))) = false), ((decide ((apParts_1 (lwPt b)) < (0 : Int))) = false), ((decide ((apParts_1 (lwPt b)) < (0 : Int))) = false), ((decide ((apParts_1 (lwPt b)) < (0 : Int))) = false), ((decide ((apParts_1 (lwPt a)) > (7 : Int))) = false), ((decide ((apParts_1 (lwPt a)) > (7 : Int))) = false), ((decide ((apParts_1 (lwPt a)) > (7 : Int))) = false), ((decide ((apParts_1 (lwPt a)) < (0 : Int))) = false), ((decide ((apParts_1 (lwPt a)) < (0 : Int))) = false), ((decide ((apParts_1 (lwPt a)) < (0 : Int))) = false), (((apParts_2 (lwAdd (lwPt a) (lwPt b))) != (0 : Int)) = false), (((apParts_2 (lwAdd (lwPt a) (lwPt b))) != (0 : Int)) = false), (((apParts_2 (lwAdd (lwPt a) (lwPt b))) != (0 : Int)) = false), (((apParts_2 (lwPt b)) != (0 : Int)) = false), (((apParts_2 (lwPt b)) != (0 : Int)) = false), (((apParts_2 (lwPt b)) != (0 : Int)) = false), (((apParts_2 (lwPt a)) != (0 : Int)) = false), (((apParts_2 (lwPt a)) != (0 : Int)) = false), (((apParts_2 (lwPt a)) != (0 : Int)) = false), (false = false), (false = false), (false = false), (True ∧ True), (false = false)]) (by kernel_rfl)
    (AllP_cons ((congrArg (fun z => AV.o (.a (.b z))) (two_v0 a b k h0 h1 h2 hv0 hv1 hv2))) (AllP_cons (two_v1 a b k h0 h1 h2 hv0 hv1 hv2) (AllP_cons (two_v1 a b k h0 h1 h2 hv0 hv1 hv2) (AllP_cons (two_v1 a b k h0 h1 h2 hv0 hv1 hv2) (AllP_cons (two_v1 a b k h0 h1 h2 hv0 hv1 hv2) (AllP_cons (two_v1 a b k h0 h1 h2 hv0 hv1 hv2) (AllP_cons (two_v1 a b k h0 h1 h2 hv0 hv1 hv2) (AllP_cons (two_v1 a b k h0 h1 h2 hv0 hv1 hv2) (AllP_cons (two_v1 a b k h0 h1 h2 hv0 hv1 hv2) (AllP_cons (two_v1 a b k h0 h1 h2 hv0 hv1 hv2) (AllP_cons (two_v1 a b k h0 h1 h2 hv0 hv1 hv2) (AllP_cons rfl (AllP_cons rfl (AllP_cons (two_v2 a b k h0 h1 h2 hv0 hv1 hv2) (AllP_cons (by decide) (AllP_cons ⟨(by decide), (by decide)⟩ (AllP_cons (by decide) (AllP_cons ⟨(by decide), (by decide)⟩ (AllP_cons rfl (AllP_cons (two_v3 a b k h0 h1 h2 hv0 hv1 hv2) (AllP_cons (by decide) (AllP_cons ⟨(by decide), (by decide)⟩ (AllP_cons (by decide) (AllP_cons ⟨(by decide), (by decide)⟩ (AllP_cons rfl (AllP_cons (two_v4 a b k h0 h1 h2 hv0 hv1 hv2) (AllP_cons (by decide) (AllP_cons ⟨(by decide), (by decide)⟩ (AllP_cons (by decide) (AllP_cons ⟨(by decide), (by decide)⟩ (AllP_cons rfl (AllP_cons (two_v5 a b k h0 h1 h2 hv0 hv1 hv2) (AllP_cons (by decide) (AllP_cons ⟨(by decide), (by decide)⟩ (AllP_cons (by decide) (AllP_cons ⟨(by decide), (by decide)⟩ (AllP_cons rfl (AllP_cons (two_v6 a b k h0 h1 h2 hv0 hv1 hv2) (AllP_cons (by decide) (AllP_cons ⟨(by decide), (by decide)⟩ (AllP_cons (by decide) (AllP_cons ⟨(by decide), (by decide)⟩ (AllP_cons rfl (AllP_cons (two_v7 a b k h0 h1 h2 hv0 hv1 hv2) (AllP_cons (by decide) (AllP_cons ⟨(by decide), (by decide)⟩ (AllP_cons (by decide) (AllP_cons ⟨(by decide), (by decide)⟩ (AllP_cons rfl (AllP_cons (two_v8 a b k h0 h1 h2 hv0 hv1 hv2) (AllP_cons (by decide) (AllP_cons ⟨(by decide), (by decide)⟩ (AllP_cons (by decide) (AllP_cons ⟨(by decide), (by decide)⟩ (AllP_cons rfl (AllP_cons (two_v9 a b k h0 h1 h2 hv0 hv1 hv2) (AllP_cons (by decide) (AllP_cons ⟨(by decide), (by decide)⟩ (AllP_cons (by decide) (AllP_cons (by decide) (AllP_cons ⟨(by decide), (by decide)⟩ (AllP_cons (by decide) (AllP_cons ⟨(by decide), (by decide)⟩ (AllP_cons rfl (AllP_cons rfl (AllP_cons (two_v10 a b k h0 h1 h2 hv0 hv1 hv2) (AllP_cons (by decide) (AllP_cons ⟨(by decide), (by decide)⟩ (AllP_cons (by decide) (AllP_cons ⟨(by decide), (by decide)⟩ (AllP_cons rfl (AllP_cons (two_v11 a b k h0 h1 h2 hv0 hv1 hv2) (AllP_cons (by decide) (AllP_cons ⟨(by decide), (by decide)⟩ (AllP_cons (by decide) (AllP_cons ⟨(by decide), (by decide)⟩ (AllP_cons rfl (AllP_cons (two_v12 a b k h0 h1 h2 hv0 hv1 hv2) (AllP_cons (by decide) (AllP_cons ⟨(by decide), (by decide)⟩ (AllP_cons (by decide) (AllP_cons ⟨(by decide), (by decide)⟩ (AllP_cons rfl (AllP_cons (two_v13 a b k h0 h1 h2 hv0 hv1 hv2) (AllP_cons (by decide) (AllP_cons ⟨(by decide), (by decide)⟩ (AllP_cons (by decide) (AllP_cons ⟨(by decide), (by decide)⟩ (AllP_cons rfl (AllP_cons (two_v14 a b k h0 h1 h2 hv0 hv1 hv2) (AllP_cons (by decide) (AllP_cons ⟨(by decide), (by decide)⟩ (AllP_cons (by decide) (AllP_cons ⟨(by decide), (by decide)⟩ (AllP_cons rfl (AllP_cons (two_v15 a b k h0 h1 h2 hv0 hv1 hv2) (AllP_cons (by decide) (AllP_cons ⟨(by decide), (by decide)⟩ (AllP_cons (by decide) (AllP_cons ⟨(by decide), (by decide)⟩ (AllP_cons rfl (AllP_cons (two_v16 a b k h0 h1 h2 hv0 hv1 hv2) (AllP_cons (by decide) (AllP_cons ⟨(by decide), (by decide)⟩ (AllP_cons (by decide) (AllP_cons (by decide) (AllP_cons ⟨(by decide), (by decide)⟩ (AllP_cons (by decide) (AllP_cons ⟨(by decide), (by decide)⟩ (AllP_cons rfl (AllP_cons rfl (AllP_cons (two_v17 a b k h0 h1 h2 hv0 hv1 hv2) (AllP_cons (by decide) (AllP_cons ⟨(by decide), (by decide)⟩ (AllP_cons (by decide) (AllP_cons ⟨(by decide), (by decide)⟩ (AllP_cons rfl (AllP_cons (two_v18 a b k h0 h1 h2 hv0 hv1 hv2) (AllP_cons (by decide) (AllP_cons ⟨(by decide), (by decide)⟩ (AllP_cons (by decide) (AllP_cons ⟨(by decide), (by decide)⟩ (AllP_cons rfl (AllP_cons (two_v19 a b k h0 h1 h2 hv0 hv1 hv2) (AllP_cons (by decide) (AllP_cons ⟨(by decide), (by decide)⟩ (AllP_cons (by decide) (AllP_cons ⟨(by decide), (by decide)⟩ (AllP_cons rfl (AllP_cons (two_v20 a b k h0 h1 h2 hv0 hv1 hv2) (AllP_cons (by decide) (AllP_cons ⟨(by decide), (by decide)⟩ (AllP_cons (by decide) (AllP_cons ⟨(by decide), (by decide)⟩ (AllP_cons rfl (AllP_cons (two_v21 a b k h0 h1 h2 hv0 hv1 hv2) (AllP_cons (by decide) (AllP_cons ⟨(by decide), (by decide)⟩ (AllP_cons (by decide) (AllP_cons ⟨(by decide), (by decide)⟩ (AllP_cons rfl (AllP_cons (two_v22 a b k h0 h1 h2 hv0 hv1 hv2) (AllP_cons (by decide) (AllP_cons ⟨(by decide), (by decide)⟩ (AllP_cons (by decide) (AllP_cons (by decide) (AllP_cons ⟨(by decide), (by decide)⟩ (AllP_cons (by decide) (AllP_cons ⟨(by decide), (by decide)⟩ (AllP_cons rfl (AllP_cons rfl (AllP_cons (two_v23 a b k h0 h1 h2 hv0 hv1 hv2) (AllP_cons (by decide) (AllP_cons ⟨(by decide), (by decide)⟩ (AllP_cons (by decide) (AllP_cons ⟨(by decide), (by decide)⟩ (AllP_cons rfl (AllP_cons (two_v24 a b k h0 h1 h2 hv0 hv1 hv2) (AllP_cons (by decide) (AllP_cons ⟨(by decide), (by decide)⟩ (AllP_cons (by decide) (AllP_cons ⟨(by decide), (by decide)⟩ (AllP_cons rfl (AllP_cons (two_v25 a b k h0 h1 h2 hv0 hv1 hv2) (AllP_cons (by decide) (AllP_cons ⟨(by decide), (by decide)⟩ (AllP_cons (by decide) (AllP_cons ⟨(by decide), (by decide)⟩ (AllP_cons rfl (AllP_cons (two_v26 a b k h0 h1 h2 hv0 hv1 hv2) (AllP_cons (by decide) (AllP_cons ⟨(by decide), (by decide)⟩ (AllP_cons (by decide) (AllP_cons ⟨(by decide), (by decide)⟩ (AllP_cons rfl (AllP_cons (two_v27 a b k h0 h1 h2 hv0 hv1 hv2) (AllP_cons (by decide) (AllP_cons ⟨(by decide), (by decide)⟩ (AllP_cons (by decide) (AllP_cons (by decide) (AllP_cons ⟨(by decide), (by decide)⟩ (AllP_cons (by decide) (AllP_cons ⟨(by decide), (by decide)⟩ (AllP_cons rfl (AllP_cons rfl (AllP_cons (two_v28 a b k h0 h1 h2 hv0 hv1 hv2) (AllP_cons (by decide) (AllP_cons ⟨(by decide), (by decide)⟩ (AllP_cons (by decide) (AllP_cons ⟨(by decide), (by decide)⟩ (AllP_cons rfl (AllP_cons (two_v29 a b k h0 h1 h2 hv0 hv1 hv2) (AllP_cons (by decide) (AllP_cons ⟨(by decide), (by decide)⟩ (AllP_cons (by decide) (AllP_cons ⟨(by decide), (by decide)⟩ (AllP_cons rfl (AllP_cons (two_v30 a b k h0 h1 h2 hv0 hv1 hv2) (AllP_cons (by decide) (AllP_cons ⟨(by decide), (by decide)⟩ (AllP_cons (by decide) (AllP_cons ⟨(by decide), (by decide)⟩ (AllP_cons rfl (AllP_cons (two_v31 a b k h0 h1 h2 hv0 hv1 hv2) (AllP_cons (by decide) (AllP_cons ⟨(by decide), (by decide)⟩ (AllP_cons (by decide) (AllP_cons (by decide) (AllP_cons ⟨(by decide), (by decide)⟩ (AllP_cons (by decide) (AllP_cons ⟨(by decide), (by decide)⟩ (AllP_cons rfl (AllP_cons rfl (AllP_cons (two_v32 a b k h0 h1 h2 hv0 hv1 hv2) (AllP_cons (by decide) (AllP_cons ⟨(by decide), (by decide)⟩ (AllP_cons (by decide) (AllP_cons ⟨(by decide), (by decide)⟩ (AllP_cons rfl (AllP_cons (two_v33 a b k h0 h1 h2 hv0 hv1 hv2) (AllP_cons (by decide) (AllP_cons ⟨(by decide), (by decide)⟩ (AllP_cons (by decide) (AllP_cons ⟨(by decide), (by decide)⟩ (AllP_cons rfl (AllP_cons (two_v34 a b k h0 h1 h2 hv0 hv1 hv2) (AllP_cons (by decide) (AllP_cons ⟨(by decide), (by decide)⟩ (AllP_cons (by decide) (AllP_cons (by decide) (AllP_cons ⟨(by decide), (by decide)⟩ (AllP_cons (by decide) (AllP_cons ⟨(by decide), (by decide)⟩ (AllP_cons rfl (AllP_cons rfl (AllP_cons (two_v35 a b k h0 h1 h2 hv0 hv1 hv2) (AllP_cons (by decide) (AllP_cons ⟨(by decide), (by decide)⟩ (AllP_cons (by decide) (AllP_cons ⟨(by decide), (by decide)⟩ (AllP_cons rfl (AllP_cons (two_v36 a b k h0 h1 h2 hv0 hv1 hv2) (AllP_cons (by decide) (AllP_cons ⟨(by decide), (by decide)⟩ (AllP_cons (by decide) (AllP_cons (by decide) (AllP_cons ⟨(by decide), (by decide)⟩ (AllP_cons (by decide) (AllP_cons ⟨(by decide), (by decide)⟩ (AllP_cons rfl (AllP_cons rfl (AllP_cons (two_v37 a b k h0 h1 h2 hv0 hv1 hv2) (AllP_cons (by decide) (AllP_cons ⟨(by decide), (by decide)⟩ (AllP_cons (by decide) (AllP_cons (by decide) (AllP_cons ⟨(by decide), (by decide)⟩ (AllP_cons (by decide) (AllP_cons ⟨(by decide), (by decide)⟩ (AllP_cons rfl (AllP_cons (two_v38 a b k h0 h1 h2 hv0 hv1 hv2) (AllP_cons (two_v39 a b k h0 h1 h2 hv0 hv1 hv2) (AllP_cons (two_v39 a b k h0 h1 h2 hv0 hv1 hv2) (AllP_cons (two_v39 a b k h0 h1 h2 hv0 hv1 hv2) (AllP_cons (two_v40 a b k h0 h1 h2 hv0 hv1 hv2) (AllP_cons (two_v40 a b k h0 h1 h2 hv0 hv1 hv2) (AllP_cons (two_v40 a b k h0 h1 h2 hv0 hv1 hv2) (AllP_cons (two_v40 a b k h0 h1 h2 hv0 hv1 hv2) (AllP_cons (two_v40 a b k h0 h1 h2 hv0 hv1 hv2) (AllP_cons (two_v40 a b k h0 h1 h2 hv0 hv1 hv2) (AllP_cons (two_v41 a b k h0 h1 h2 hv0 hv1 hv2) (AllP_cons (two_v41 a b k h0 h1 h2 hv0 hv1 hv2) (AllP_cons (two_v41 a b k h0 h1 h2 hv0 hv1 hv2) (AllP_cons (two_v41 a b k h0 h1 h2 hv0 hv1 hv2) (AllP_cons (two_v41 a b k h0 h1 h2 hv0 hv1 hv2) (AllP_cons (two_v42 a b k h0 h1 h2 hv0 hv1 hv2) (AllP_cons (two_v42 a b k h0 h1 h2 hv0 hv1 hv2) (AllP_cons (by decide) (AllP_cons (two_v42 a b k h0 h1 h2 hv0 hv1 hv2) (AllP_cons (two_v42 a b k h0 h1 h2 hv0 hv1 hv2) (AllP_cons (two_v42 a b k h0 h1 h2 hv0 hv1 hv2) (AllP_cons (two_v42 a b k h0 h1 h2 hv0 hv1 hv2) (AllP_cons (two_v42 a b k h0 h1 h2 hv0 hv1 hv2) (AllP_cons (two_v43 a b k h0 h1 h2 hv0 hv1 hv2) (AllP_cons (two_v43 a b k h0 h1 h2 hv0 hv1 hv2) (AllP_cons (two_v43 a b k h0 h1 h2 hv0 hv1 hv2) (AllP_cons (two_v43 a b k h0 h1 h2 hv0 hv1 hv2) (AllP_cons (two_v43 a b k h0 h1 h2 hv0 hv1 hv2) (AllP_cons (two_v43 a b k h0 h1 h2 hv0 hv1 hv2) (AllP_cons (two_v44 a b k h0 h1 h2 hv0 hv1 hv2) (AllP_cons (two_v44 a b k h0 h1 h2 hv0 hv1 hv2) (AllP_cons (two_v44 a b k h0 h1 h2 hv0 hv1 hv2) (AllP_cons (two_v44 a b k h0 h1 h2 hv0 hv1 hv2) (AllP_cons (two_v45 a b k h0 h1 h2 hv0 hv1 hv2) (AllP_cons (two_v44 a b k h0 h1 h2 hv0 hv1 hv2) (AllP_cons ⟨(two_v46 a b k h0 h1 h2 hv0 hv1 hv2), (two_v47 a b k h0 h1 h2 hv0 hv1 hv2)⟩ (AllP_cons (two_v44 a b k h0 h1 h2 hv0 hv1 hv2) (AllP_cons (two_v44 a b k h0 h1 h2 hv0 hv1 hv2) (AllP_cons (two_v44 a b k h0 h1 h2 hv0 hv1 hv2) (AllP_cons (two_v44 a b k h0 h1 h2 hv0 hv1 hv2) (AllP_cons (two_v48 a b k h0 h1 h2 hv0 hv1 hv2) (AllP_cons (two_v48 a b k h0 h1 h2 hv0 hv1 hv2) (AllP_cons (two_v48 a b k h0 h1 h2 hv0 hv1 hv2) (AllP_cons (two_v49 a b k h0 h1 h2 hv0 hv1 hv2) (AllP_cons (two_v49 a b k h0 h1 h2 hv0 hv1 hv2) (AllP_cons (two_v49 a b k h0 h1 h2 hv0 hv1 hv2) (AllP_cons (two_v50 a b k h0 h1 h2 hv0 hv1 hv2) (AllP_cons (two_v50 a b k h0 h1 h2 hv0 hv1 hv2) (AllP_cons (two_v50 a b k h0 h1 h2 hv0 hv1 hv2) (AllP_cons (two_v51 a b k h0 h1 h2 hv0 hv1 hv2) (AllP_cons (two_v51 a b k h0 h1 h2 hv0 hv1 hv2) (AllP_cons (two_v51 a b k h0 h1 h2 hv0 hv1 hv2) (AllP_cons (two_v52 a b k h0 h1 h2 hv0 hv1 hv2) (AllP_cons (two_v52 a b k h0 h1 h2 hv0 hv1 hv2) (AllP_cons (two_v52 a b k h0 h1 h2 hv0 hv1 hv2) (AllP_cons (two_v53 a b k h0 h1 h2 hv0 hv1 hv2) (AllP_cons (two_v53 a b k h0 h1 h2 hv0 hv1 hv2) (AllP_cons (two_v53 a b k h0 h1 h2 hv0 hv1 hv2) (AllP_cons rfl (AllP_cons rfl (AllP_cons rfl (AllP_cons ⟨trivial, trivial⟩ (AllP_cons rfl (AllP_nil))))))))))))))))))))))))))))))))))))))))))))))))))))))))))))))))))))))))))))))))))))))))))))))))))))))))))))))))))))))))))))))))))))))))))))))))))))))))))))))))))))))))))))))))))))))))))))))))))))))))))))))))))))))))))))))))))))))))))))))))))))))))))))))))))))))))))))))))))))))))))))))))))))))))))))))))))))))))))))))))))))

theorem two_body (a : List Int) (b : List Int) (k : List Int) (h0 : (Byt a)) (h1 : (Byt b)) (h2 : (Byt k)) (w : World) : Body Try.prog (tabOf tabVX) Try.f8 ⟨w, [], 0, noEnv⟩ (toA [.g [.ints .u8 (32 : Nat) a], .g [.ints .u8 (32 : Nat) b], .g [.ints .u8 (32 : Nat) k]]) [] (fun ys _ => ys = [.a (.b true)]) :=
  Body.lens (c := (Try.f8.body.getD .skip)) rfl fun h => two_body0 a b k h0 h1 h2 (h.vals 0 _ _ _ rfl) (h.vals 1 _ _ _ rfl) (h.vals 2 _ _ _ rfl) w

end Go.Proofs.Ytodiojpakfjehaa.X

/- The core, part 5 of 5: blocks of memory known by number, and an evaluator over loaded code, shown sound. -/
/- Rows: a law that answers true and leaves what was there as it was: from its body to its post; arguments opened. -/
namespace Go.Proofs.Ytodiojpakfjehaa.R
open Go Go.Proofs Go.ChangeShapes Go.WideShapes Go.ChangeAt Go.RowKit Go.Proofs.Ytodiojpakfjehaa.X
set_option linter.unusedVariables false

theorem below {W W' : World} (g : Grow W W') : Below W.heap.size W W' := ⟨g.os, g.tape, g.output, g.size, g.old⟩

section post
variable {H : Type} {enc : TypeId × Value → H} {P : Program}

/-- types that read again -/
def Reads (P : Program) (ts : List TypeId) : Bool := laidOutB P && ts.all fun t => P.readableRec t && decide (t < P.types.size)

theorem trodAll_grow (hl : laidOutB P = true) {W W' : World} (g : Grow W W') {sp : Nat → Bool} : ∀ {ts : List TypeId} {vs : List Value} {ds : List (DataW H)} {ps : List MemPlace}, (ts.all fun t => P.readableRec t && decide (t < P.types.size)) = true →
    DataW.TrodAll enc P W 0 (fun _ => true) true ts vs ds ps → (∀ p ∈ ps, p.block < W.heap.size) → (∀ p ∈ ps, sp p.block = true) → DataW.TrodAll enc P W' 0 sp true ts vs ds ps
  | [], [], [], ps, _, h, _, _ => h
  | [], _ :: _, _, _, _, h, _, _ => h.elim
  | [], [], _ :: _, _, _, h, _, _ => h.elim
  | _ :: _, [], _, _, _, h, _, _ => h.elim
  | _ :: _, _ :: _, [], _, _, h, _, _ => h.elim
  | t :: ts, v :: vs, d :: ds, ps, ht, h, hlt, hsp => by
    obtain ⟨p, q, hd, hr, rfl⟩ := h
    simp only [List.all_cons, Bool.and_eq_true, decide_eq_true_eq] at ht
    exact ⟨p, q, WideElems.Trod_stays hl ht.1.1 ht.1.2 hd (fun x hx => (below g).same (hlt x (by simp [hx]))) (fun x hx => hsp x (by simp [hx])),
      trodAll_grow hl g ht.2 hr (fun x hx => hlt x (by simp [hx])) (fun x hx => hsp x (by simp [hx])), rfl⟩

theorem post_true {f : Func} {s : ChangeSpec} {W W' : World} {args : Array Value} {ds : List (DataW H)} {before : List MemPlace} {tb : TypeId}
    (hreads : Reads P f.params.toList = true) (hvars : s.vars = []) (hfn : s.fn H ds = { results := [.lit (.bool true)], args := ds }) (hrt : f.resultTypes = #[tb]) (htb : P.underlying tb = some .bool)
    (hW : DataW.Whole enc P f.params.toList s.vars false W args.toList ds [] before) (g : Grow W W') : s.post enc P f false true false false W args (.bool true) W' := by
  unfold Reads at hreads
  rw [Bool.and_eq_true] at hreads
  have hW0 := hW
  obtain ⟨p, q, hA, hV, rfl, hfz, hnd⟩ := hW
  rw [hvars] at hV
  obtain ⟨_, rfl⟩ := trodVars_none hV
  have hlt : ∀ x ∈ p ++ [], x.block < W.heap.size := fun x hx => by simpa using hW0.lt x hx
  have hfn' : s.fn H (ds ++ []) = { results := [.lit (.bool true)], args := ds } := by rw [List.append_nil]; exact hfn
  refine ⟨ds, [], p ++ [], [], p ++ [], [], hW0, ?_, ?_, ?_, (below g).frame _, fun h => by cases h⟩
  · rw [hfn', hrt]; exact trodAll_cons_mk (shut_bool htb _) trodAll_mk0
  · rw [hfn']
    rw [List.append_nil] at hlt ⊢
    exact trodAll_grow hreads.1 g hreads.2 hA hlt (fun x hx => by simpa using hlt x hx)
  · rw [hfn', hvars]; exact rfl
end post

/-- what a list of arguments is, abstractly, with blocks from the i-th on -/
def Opened (W : World) (i : Nat) (vs : List Value) (avs : List AV) (K : Know) : Prop :=
  ∃ ρ : List (Option Ref), ρ.length = K.length ∧ ∀ β : Env, (∀ j, j < ρ.length → β (i + j) = (ρ[j]?).join) →
    (∀ j b, K.at j = some b → b.own = false ∧ b.holds β W (i + j) ∧ ∀ r, β (i + j) = some r → r.blk < W.heap.size) ∧ allC β avs vs

theorem Opened.nil {W : World} {i : Nat} : Opened W i [] [] [] := ⟨[], rfl, fun β _ => ⟨fun j b h => by simp [Know.at] at h, rfl⟩⟩

theorem allC_app {β : Env} : ∀ {a b : List AV} {x y : List Value}, allC β a x → allC β b y → allC β (a ++ b) (x ++ y)
  | [], _, _, _, h, h' => by cases h; exact h'
  | _ :: _, _, _, _, ⟨v, r, hv, hc, hr⟩, h' => by subst hv; exact ⟨v, _, rfl, hc, allC_app hr h'⟩

theorem Opened.app {W : World} {i : Nat} {vs vs' : List Value} {avs avs' : List AV} {K K' : Know} (h : Opened W i vs avs K) (h' : Opened W (i + K.length) vs' avs' K') : Opened W i (vs ++ vs') (avs ++ avs') (K ++ K') := by
  obtain ⟨ρ, hl, hρ⟩ := h
  obtain ⟨ρ', hl', hρ'⟩ := h'
  refine ⟨ρ ++ ρ', by simp [hl, hl'], fun β hβ => ?_⟩
  obtain ⟨h1, h2⟩ := hρ β fun j hj => by rw [hβ j (by simp; omega), List.getElem?_append_left hj]
  obtain ⟨h3, h4⟩ := hρ' β fun j hj => by
    rw [Nat.add_assoc, hβ (K.length + j) (by simp; omega), List.getElem?_append_right (by omega)]
    congr 2; omega
  refine ⟨fun j b hb => ?_, allC_app h2 h4⟩
  by_cases hj : j < K.length
  · refine h1 j b ?_
    unfold Know.at at hb ⊢; rwa [List.getElem?_append_left hj] at hb
  · have := h3 (j - K.length) b (by unfold Know.at at hb ⊢; rwa [List.getElem?_append_right (by omega)] at hb)
    rw [show i + K.length + (j - K.length) = i + j from by omega] at this
    exact this

/-- a value without places -/
theorem Opened.val {W : World} {i : Nat} {v : Value} {x : V1} (h : ∀ β : Env, x.con β v) : Opened W i [v] [.o x] [] :=
  ⟨[], rfl, fun β _ => ⟨fun j b hb => by simp [Know.at] at hb, ⟨v, [], rfl, h β, rfl⟩⟩⟩

/-- a slice of integers -/
theorem Opened.sl {W : World} {i : Nat} {k : IntKind} {a0 : Option Addr} {len cap : Nat} {L : List Int} (hL : L.length = len) (hlc : len ≤ cap)
    (hc : 0 < cap → ∃ b off arr ty fr, a0 = some ⟨b, off, none⟩ ∧ W.heap[b]? = some (.cells arr ty fr) ∧ off + len ≤ arr.size ∧ ∀ i x, L[i]? = some x → arr[off + i]? = some (.int k x)) :
    Opened W i [.slice a0 len cap] [.o (.a (.sl i 0 len cap))] [some ⟨false, [.ints k len L]⟩] := by
  have hbk : ∀ j (bk : Blk), Know.at [some ⟨false, [.ints k len L]⟩] j = some bk → j = 0 ∧ bk = ⟨false, [.ints k len L]⟩ := by
    intro j bk hj
    match j, hj with
    | 0, hj => exact ⟨rfl, (Option.some.inj hj).symm⟩
    | j + 1, hj => simp [Know.at] at hj
  by_cases h0 : 0 < cap
  · obtain ⟨b, off, arr, ty, fr, rfl, hh, hs, hx⟩ := hc h0
    have hlt : b < W.heap.size := (Array.getElem?_eq_some_iff.1 hh).1
    refine ⟨[some ⟨b, off, arr.size⟩], rfl, fun β hβ => ?_⟩
    have hb := hβ 0 (by simp)
    rw [Nat.add_zero] at hb
    have hb : β i = some ⟨b, off, arr.size⟩ := hb
    refine ⟨fun j bk hj => ?_, _, [], rfl, ⟨_, rfl, hlc, fun _ => ⟨_, hb, rfl⟩⟩, rfl⟩
    obtain ⟨rfl, rfl⟩ := hbk j bk hj
    rw [Nat.add_zero]
    refine ⟨rfl, ⟨L.map (Value.int k), ⟨_, [], by simp, ⟨hL, rfl⟩, rfl⟩, .inr ⟨_, arr, ty, fr, hb, hh, rfl, by simp; omega, ?_, fun h => by cases h⟩⟩, fun r hr => by rw [hb] at hr; cases hr; exact hlt⟩
    intro i v hv
    rw [List.getElem?_map, Option.map_eq_some_iff] at hv
    obtain ⟨x, hx', rfl⟩ := hv
    exact hx i x hx'
  · have hn : L = [] := List.length_eq_zero_iff.1 (by omega)
    subst hn
    have hl0 : len = 0 := by omega
    subst hl0
    refine ⟨[none], rfl, fun β hβ => ?_⟩
    have hb : β i = none := hβ 0 (by simp)
    refine ⟨fun j bk hj => ?_, _, [], rfl, ⟨_, rfl, hlc, fun h => absurd h h0⟩, rfl⟩
    obtain ⟨rfl, rfl⟩ := hbk j bk hj
    rw [Nat.add_zero]
    exact ⟨rfl, ⟨[], ⟨[], [], rfl, ⟨rfl, rfl⟩, rfl⟩, .inl ⟨rfl, .inl rfl⟩⟩, fun r hr => by rw [hb] at hr; cases hr⟩

section args
variable {H : Type} {enc : TypeId × Value → H} {P : Program} {W : World} {base : Nat} {sp : Nat → Bool}

/-- an argument [n]int -/
theorem arr_arg {t e : TypeId} {n : Nat} {k : IntKind} {v : Value} {d : DataW H} {p : List MemPlace} (ht : P.underlying t = some (.array n e)) (he : P.underlying e = some (.int k)) (hc : P.cellsOf e = 1) (hn : P.cellsOf t = n)
    (hval : Value.okWide P W .any base t v) (h : DataW.Trod enc P W 0 (fun _ => true) true t v d p) :
    ∃ S : List Int, S.length = n ∧ (∀ x ∈ S, (Lit.int k x).wf = true) ∧ ∀ i, Opened W i [v] [.o (.g [.ints k n S])] [] := by
  have hv : ∃ cs : Array Value, v = .agg cs ∧ cs.size = n := by
    unfold Value.okWide at hval
    rw [ht] at hval
    obtain ⟨cs, rfl, hsz, _⟩ := hval
    exact ⟨cs, rfl, hsz.trans hn⟩
  obtain ⟨cs, rfl, hsz⟩ := hv
  obtain ⟨fuel, hf⟩ := h
  obtain ⟨xs, m, rfl, _, hlen, hxl, hel⟩ := DataW.trod_array ht hf
  have hcells : (Value.agg cs).cells.toList = cs.toList := rfl
  rw [hcells] at hel
  have key : ∀ j, j < n → ∃ z : Int, cs.toList[j]? = some (.int k z) ∧ (Lit.int k z).wf = true := by
    intro j hj
    have h1 := hel j hj
    rw [hc, Nat.mul_one] at h1
    have hjx : j < xs.length := by omega
    rw [List.getElem?_eq_getElem hjx] at h1
    obtain ⟨z, hz, _, hw⟩ := DataW.trod_int he h1
    refine ⟨z, ?_, hw⟩
    have := congrArg (·[0]?) hz
    simpa [List.getElem?_take, List.getElem?_drop] using this
  have hS : ∃ S : List Int, S.length = n ∧ cs.toList = S.map (Value.int k) ∧ ∀ x ∈ S, (Lit.int k x).wf = true := by
    have hl : cs.toList.length = n := by simpa using hsz
    revert key hl
    generalize cs.toList = l
    clear hel hxl hlen hsz hf hcells hval hn ht
    intro key hl
    induction l generalizing n with
    | nil => exact ⟨[], hl, rfl, by simp⟩
    | cons a l ih =>
      cases n with
      | zero => cases hl
      | succ n =>
        obtain ⟨z, hz, hw⟩ := key 0 (by omega)
        obtain ⟨S, h1, h2, h3⟩ := ih (n := n) (fun j hj => by simpa using key (j + 1) (by omega)) (by simpa using hl)
        simp only [List.getElem?_cons_zero, Option.some.injEq] at hz
        exact ⟨z :: S, by simp [h1], by simp [hz, h2], by simpa using ⟨hw, h3⟩⟩
  obtain ⟨S, h1, h2, h3⟩ := hS
  refine ⟨S, h1, h3, fun i => Opened.val fun β => ⟨cs.toList, by simp, _, [], by simp, ⟨h1, h2⟩, rfl⟩⟩
end args

end Go.Proofs.Ytodiojpakfjehaa.R

/- Arguments that are structs: opened cell by cell. -/
namespace Go.Proofs.Ytodiojpakfjehaa.R
open Go Go.Proofs Go.ChangeShapes Go.WideShapes Go.ChangeAt Go.RowKit Go.Proofs.Ytodiojpakfjehaa.X
set_option linter.unusedVariables false

/-- a row of cells, abstractly, with blocks from the i-th on -/
def OpenC (W : World) (i : Nat) (cs : List Value) (l : List Atom) (K : Know) : Prop :=
  ∃ ρ : List (Option Ref), ρ.length = K.length ∧ ∀ β : Env, (∀ j, j < ρ.length → β (i + j) = (ρ[j]?).join) →
    (∀ j b, K.at j = some b → b.own = false ∧ b.holds β W (i + j) ∧ ∀ r, β (i + j) = some r → r.blk < W.heap.size) ∧ cons β l cs

theorem OpenC.nil {W : World} {i : Nat} : OpenC W i [] [] [] := ⟨[], rfl, fun β _ => ⟨fun j b h => by simp [Know.at] at h, rfl⟩⟩

theorem cons_app {β : Env} : ∀ {a b : List Atom} {x y : List Value}, cons β a x → cons β b y → cons β (a ++ b) (x ++ y)
  | [], _, _, _, h, h' => by cases h; exact h'
  | _ :: _, _, _, _, ⟨v, r, hv, hc, hr⟩, h' => by subst hv; exact ⟨v, _, by rw [List.append_assoc], hc, cons_app hr h'⟩

theorem OpenC.app {W : World} {i : Nat} {vs vs' : List Value} {l l' : List Atom} {K K' : Know} (h : OpenC W i vs l K) (h' : OpenC W (i + K.length) vs' l' K') : OpenC W i (vs ++ vs') (l ++ l') (K ++ K') := by
  obtain ⟨ρ, hl, hρ⟩ := h
  obtain ⟨ρ', hl', hρ'⟩ := h'
  refine ⟨ρ ++ ρ', by simp [hl, hl'], fun β hβ => ?_⟩
  obtain ⟨h1, h2⟩ := hρ β fun j hj => by rw [hβ j (by simp; omega), List.getElem?_append_left hj]
  obtain ⟨h3, h4⟩ := hρ' β fun j hj => by
    rw [Nat.add_assoc, hβ (K.length + j) (by simp; omega), List.getElem?_append_right (by omega)]
    congr 2; omega
  refine ⟨fun j b hb => ?_, cons_app h2 h4⟩
  by_cases hj : j < K.length
  · refine h1 j b ?_
    unfold Know.at at hb ⊢; rwa [List.getElem?_append_left hj] at hb
  · have := h3 (j - K.length) b (by unfold Know.at at hb ⊢; rwa [List.getElem?_append_right (by omega)] at hb)
    rw [show i + K.length + (j - K.length) = i + j from by omega] at this
    exact this

theorem OpenC.agg {W : World} {i : Nat} {cs : Array Value} {l : List Atom} {K : Know} (h : OpenC W i cs.toList l K) : Opened W i [.agg cs] [.o (.g l)] K := by
  obtain ⟨ρ, hl, hρ⟩ := h
  refine ⟨ρ, hl, fun β hβ => ?_⟩
  obtain ⟨h1, h2⟩ := hρ β hβ
  exact ⟨h1, _, [], rfl, ⟨cs.toList, by simp, h2⟩, rfl⟩

theorem OpenC.one {W : World} {i : Nat} {v : Value} {x : Atom} {K : Know} (h : OpenC W i [v] [x] K) : Opened W i [v] [.o (.a x)] K := by
  obtain ⟨ρ, hl, hρ⟩ := h
  refine ⟨ρ, hl, fun β hβ => ?_⟩
  obtain ⟨h1, x, y, h2, h3, h4⟩ := hρ β hβ
  cases h4
  rw [List.append_nil] at h2
  subst h2
  exact ⟨h1, _, [], rfl, h3, rfl⟩

/-- cells without places -/
theorem OpenC.val {W : World} {i : Nat} {vs : List Value} {l : List Atom} (h : ∀ β : Env, cons β l vs) : OpenC W i vs l [] :=
  ⟨[], rfl, fun β _ => ⟨fun j b hb => by simp [Know.at] at hb, h β⟩⟩

section args
variable {H : Type} {enc : TypeId × Value → H} {P : Program} {W : World} {base : Nat} {sp : Nat → Bool}

theorem OpenC.ints {i : Nat} {k : IntKind} {n : Nat} {S : List Int} (h : S.length = n) : OpenC W i (S.map (Value.int k)) [.ints k n S] [] :=
  OpenC.val fun β => ⟨_, [], by simp, ⟨h, rfl⟩, rfl⟩

theorem OpenC.int {i : Nat} {k : IntKind} {n : Int} : OpenC W i [.int k n] [.i k n] [] := OpenC.val fun β => ⟨_, [], by simp, rfl, rfl⟩

end args
end Go.Proofs.Ytodiojpakfjehaa.R

/-
  FOR A PROOF OF AN '..UptoSaid': WHAT THE BOUND GIVES. Copy it as <Name>Bulk.lean (put your seat's Name for Ytodiojpakfjehaa, the bound of 'uptoSmall' for 1048576), name it in GOCLAIM.json's 'order' behind <Name>Rows. By an AI agent, Sun Nov 15 2026. No person has read it. No macro, syntax, notation, axiom, sorry.
-/
namespace Go.Proofs.Ytodiojpakfjehaa.bulks

theorem append {H : Type} (l r : List (DataW H)) : Rows.uptoBulkAll (l ++ r) = Rows.uptoBulkAll l + Rows.uptoBulkAll r := by
  induction l with
  | nil => simp [Rows.uptoBulkAll]
  | cons x l ih => simp only [List.cons_append, Rows.uptoBulkAll, ih]; omega

end Go.Proofs.Ytodiojpakfjehaa.bulks

