/- Texts of this session, put together (part 5), less what nothing uses. -/
import Derived.Test.YtodiojpakfjehaaZown4
import Derived.KernelRfl
import Derived.WalkKit
import Derived.ProofKit
import Derived.OpenShut
import Derived.JoinedCond
import Derived.Carry
/- The eight points; the points that bytes are made into. -/
namespace Go.Proofs.Ytodiojpakfjehaa.X
open Go Go.Proofs
set_option linter.unusedVariables false
set_option linter.unusedSimpArgs false
set_option maxRecDepth 100000

theorem and7 (x : Int) (h0 : 0 ≤ x) (h1 : x < 256) : bits2 .and .u8 x 7 = x % 8 := by
  have key : ∀ n : Nat, n < 256 → bits2 .and .u8 ((n : Nat) : Int) 7 = ((n : Nat) : Int) % 8 := by decide +kernel
  obtain ⟨n, rfl⟩ := Int.eq_ofNat_of_zero_le h0
  exact key n (by omega)
theorem and7_rng (x : Int) : 0 ≤ bits2 .and .u8 x 7 ∧ bits2 .and .u8 x 7 < 8 := by
  have e : bits2 .and .u8 x 7 = IntKind.u8.wrap (((BitVec.ofInt 8 x &&& BitVec.ofInt 8 7).toNat : Nat) : Int) := rfl
  have t2 : (BitVec.ofInt 8 7).toNat = 2 ^ 3 - 1 := by rfl
  rw [e, BitVec.toNat_and, t2, Nat.and_two_pow_sub_one_eq_mod, wrap8]
  omega
theorem sub_all (l : List Int) (n : Nat) (h : l.length ≤ n) : sub l 0 n = l := by
  unfold sub
  rw [List.drop_zero, List.take_of_length_le h]
/-- the forms of points, one behind the other -/
def encs (f : Nat → E) : Nat → List Int
  | 0 => []
  | n + 1 => encs f n ++ encE (f n)
theorem encs_len (f : Nat → E) (n : Nat) : (encs f n).length = n * 32 := by
  induction n with
  | zero => rfl
  | succ n ih => show (encs f n ++ encE (f n)).length = _; rw [List.length_append, ih, encE_len]; omega
theorem encs_sub (f : Nat → E) {n k : Nat} (h : k < n) : sub (encs f n) (k * 32) 32 = encE (f k) := by
  induction n with
  | zero => omega
  | succ n ih =>
    show sub (encs f n ++ encE (f n)) (k * 32) 32 = _
    by_cases hk : k < n
    · have := ih hk
      rw [← this]
      have l := encs_len f n
      refine List.ext_getElem? fun r => ?_
      by_cases hr : r < 32
      · rw [sub_get hr, sub_get hr, List.getElem?_append_left (by omega)]
      · rw [List.getElem?_eq_none, List.getElem?_eq_none]
        · rw [sub_len _ _ _ (by omega)]; omega
        · rw [sub_len _ _ _ (by rw [List.length_append, encE_len]; omega)]; omega
    · have : k = n := by omega
      subst this
      have l := encs_len f k
      refine List.ext_getElem? fun r => ?_
      by_cases hr : r < 32
      · rw [sub_get hr, List.getElem?_append_right (by omega)]
        congr 1; omega
      · rw [List.getElem?_eq_none, List.getElem?_eq_none]
        · rw [encE_len]; omega
        · rw [sub_len _ _ _ (by rw [List.length_append, encE_len]; omega)]; omega
theorem lp_T (k : Nat) : ∀ {l : List Int}, LP l (mu k eT) → LP (ptAdd l ptT) (mu (k + 1) eT) := fun h => lp_add h T_ok
theorem o8_eq : apO8 = encs (fun k => mu k eT) 8 := by
  have h0 : LP ptId (mu 0 eT) := lp_id
  have h1 := lp_T 0 h0
  have h2 := lp_T 1 h1
  have h3 := lp_T 2 h2
  have h4 := lp_T 3 h3
  have h5 := lp_T 4 h4
  have h6 := lp_T 5 h5
  have h7 := lp_T 6 h6
  unfold apO8
  simp only
  rw [form_ok h0, form_ok h1, form_ok h2, form_ok h3, form_ok h4, form_ok h5, form_ok h6, form_ok h7]
  simp (disch := (simp only [List.length_append, encE_len]; decide)) only [sub_all]
  rfl
/-- the point that a law makes of any 32 bytes -/
noncomputable def ptF (s : List Int) : E :=
  match decE s with
  | some p => p
  | none => ad (mu (BV s).toNat eB) (mu (List.getD s 0 0 % 8).toNat eT)
end Go.Proofs.Ytodiojpakfjehaa.X

/- Printed by a tool of this session. -/
namespace Go.Proofs.Ytodiojpakfjehaa.X
open Go Go.Proofs
set_option linter.unusedVariables false
set_option linter.unusedSimpArgs false
set_option maxRecDepth 100000
theorem teVO_5 : TEOk Try.prog 5 ⟨.int .u8, 1, 1, [.i .u8 (0 : Int)], false⟩ :=
  TEOk.of Try.underlying5 (i := Try.t5) (by kernel_rfl) rfl rfl rfl (by kernel_rfl) (fun h => by cases h) (by kernel_rfl)
theorem teVO_23 : TEOk Try.prog 23 ⟨.array 32 5, 32, 32, [.ints .u8 (32 : Nat) ([0, 0, 0, 0, 0, 0, 0, 0, 0, 0, 0, 0, 0, 0, 0, 0, 0, 0, 0, 0, 0, 0, 0, 0, 0, 0, 0, 0, 0, 0, 0, 0] : List Int)], true⟩ :=
  TEOk.of Try.underlying23 (i := Try.t23) (by kernel_rfl) rfl rfl rfl (by kernel_rfl) (fun _ => Try.eqGuardType23) (by kernel_rfl)
theorem teVO_32 : TEOk Try.prog 32 ⟨.slice 5, 1, 24, [.raw (.slice none 0 0)], false⟩ :=
  TEOk.of Try.underlying32 (i := Try.t32) (by kernel_rfl) rfl rfl rfl (by kernel_rfl) (fun h => by cases h) (by kernel_rfl)
theorem teVO_37 : TEOk Try.prog 37 ⟨.array 32 5, 32, 32, [.ints .u8 (32 : Nat) ([0, 0, 0, 0, 0, 0, 0, 0, 0, 0, 0, 0, 0, 0, 0, 0, 0, 0, 0, 0, 0, 0, 0, 0, 0, 0, 0, 0, 0, 0, 0, 0] : List Int)], true⟩ :=
  TEOk.of Try.underlying37 (i := Try.t37) (by kernel_rfl) rfl rfl rfl (by kernel_rfl) (fun _ => Try.eqGuardType37) (by kernel_rfl)
theorem teVO_45 : TEOk Try.prog 45 ⟨.slice 23, 1, 24, [.raw (.slice none 0 0)], false⟩ :=
  TEOk.of Try.underlying45 (i := Try.t45) (by kernel_rfl) rfl rfl rfl (by kernel_rfl) (fun h => by cases h) (by kernel_rfl)
noncomputable def tabVO : List (Nat × TE) := [(5, ⟨.int .u8, 1, 1, [.i .u8 (0 : Int)], false⟩), (23, ⟨.array 32 5, 32, 32, [.ints .u8 (32 : Nat) ([0, 0, 0, 0, 0, 0, 0, 0, 0, 0, 0, 0, 0, 0, 0, 0, 0, 0, 0, 0, 0, 0, 0, 0, 0, 0, 0, 0, 0, 0, 0, 0] : List Int)], true⟩), (32, ⟨.slice 5, 1, 24, [.raw (.slice none 0 0)], false⟩), (37, ⟨.array 32 5, 32, 32, [.ints .u8 (32 : Nat) ([0, 0, 0, 0, 0, 0, 0, 0, 0, 0, 0, 0, 0, 0, 0, 0, 0, 0, 0, 0, 0, 0, 0, 0, 0, 0, 0, 0, 0, 0, 0, 0] : List Int)], true⟩), (45, ⟨.slice 23, 1, 24, [.raw (.slice none 0 0)], false⟩)]
theorem tabOkVO : TabOk Try.prog (tabOf tabVO) := (tabOf_cons teVO_5 (tabOf_cons teVO_23 (tabOf_cons teVO_32 (tabOf_cons teVO_37 (tabOf_cons teVO_45 tabOf_nil)))))

set_option maxHeartbeats 1000000 in
theorem works_body0 (w : World) : Body Try.prog (tabOf tabVO) Try.f10 ⟨w, [], 0, noEnv⟩ (toA []) [] (fun ys _ => ys = [.a (.b true)]) :=
  Body.of_fin (Γ := gam62) (Λ := noLam) (Ψ := noPsi) (fuel := 0) (m := 63) (c := (Try.f10.body.getD .skip)) mix tabOkVO gam62_ok rfl (rs := [.tmp 0]) rfl rfl [true, true, true, true, true, true, true, true, true, true, true, true, true, true, true, true, true, true, true, true, true, true, true, true, true, true, true] [.eqS 0 (.o (.a (.b true)))]
    (vc := [((.o (.a (.b ((apCheck ([2, 0, 0, 0, 0, 0, 0, 0, 0, 0, 0, 0, 0, 0, 0, 0, 0, 0, 0, 0, 0, 0, 0, 0, 0, 0, 0, 0, 0, 0, 0, 0] : List Int)) == (41 : Int)))) : AV) = .o (.a (.b true))), (true = true), (true = true), (true = true), (true = true), (((apPrime_1 ([0, 0, 0, 0, 0, 0, 0, 0, 0, 0, 0, 0, 0, 0, 0, 0, 0, 0, 0, 0, 0, 0, 0, 0, 0, 0, 0, 0, 0, 0, 0, 0] : List Int)) == (0 : Int)) = true), (((apPrime_1 ([0, 0, 0, 0, 0, 0, 0, 0, 0, 0, 0, 0, 0, 0, 0, 0, 0, 0, 0, 0, 0, 0, 0, 0, 0, 0, 0, 0, 0, 0, 0, 0] : List Int)) == (0 : Int)) = true), (((apPrime_1 ([0, 0, 0, 0, 0, 0, 0, 0, 0, 0, 0, 0, 0, 0, 0, 0, 0, 0, 0, 0, 0, 0, 0, 0, 0, 0, 0, 0, 0, 0, 0, 0] : List Int)) == (0 : Int)) = true), (((apPrime_1 ([0, 0, 0, 0, 0, 0, 0, 0, 0, 0, 0, 0, 0, 0, 0, 0, 0, 0, 0, 0, 0, 0, 0, 0, 0, 0, 0, 0, 0, 0, 0, 0] : List Int)) == (0 : Int)) = true), ((!(apPrime ([0, 0, 0, 0, 0, 0, 0, 0, 0, 0, 0, 0, 0, 0, 0, 0, 0, 0, 0, 0, 0, 0, 0, 0, 0, 0, 0, 0, 0, 0, 0, 0] : List Int))) = true), ((!(apPrime ([0, 0, 0, 0, 0, 0, 0, 0, 0, 0, 0, 0, 0, 0, 0, 0, 0, 0, 0, 0, 0, 0, 0, 0, 0, 0, 0, 0, 0, 0, 0, 0] : List Int))) = true), ((!(apPrime ([0, 0, 0, 0, 0, 0, 0, 0, 0, 0, 0, 0, 0, 0, 0, 0, 0, 0, 0, 0, 0, 0, 0, 0, 0, 0, 0, 0, 0, 0, 0, 0] : List Int))) = true), ((!(apPrime ([0, 0, 0, 0, 0, 0, 0, 0, 0, 0, 0, 0, 0, 0, 0, 0, 0, 0, 0, 0, 0, 0, 0, 0, 0, 0, 0, 0, 0, 0, 0, 0] : List Int))) = true), (((apAdd_1 (apBase) (apBase)) == (0 : Int)) = true), (((apAdd_1 (apBase) (apBase)) == (0 : Int)) = true), (((apAdd_1 (apBase) (apBase)) == (0 : Int)) = true), ((decide ((apAdd (apBase) (apBase)) = (apMulB ([2, 0, 0, 0, 0, 0, 0, 0, 0, 0, 0, 0, 0, 0, 0, 0, 0, 0, 0, 0, 0, 0, 0, 0, 0, 0, 0, 0, 0, 0, 0, 0] : List Int)))) = true), ((decide ((apAdd (apBase) (apBase)) = (apMulB ([2, 0, 0, 0, 0, 0, 0, 0, 0, 0, 0, 0, 0, 0, 0, 0, 0, 0, 0, 0, 0, 0, 0, 0, 0, 0, 0, 0, 0, 0, 0, 0] : List Int)))) = true), ((decide ((apAdd (apBase) (apBase)) = (apMulB ([2, 0, 0, 0, 0, 0, 0, 0, 0, 0, 0, 0, 0, 0, 0, 0, 0, 0, 0, 0, 0, 0, 0, 0, 0, 0, 0, 0, 0, 0, 0, 0] : List Int)))) = true), ((decide ((apAdd (apBase) (apBase)) = (apMulB ([2, 0, 0, 0, 0, 0, 0, 0, 0, 0, 0, 0, 0, 0, 0, 0, 0, 0, 0, 0, 0, 0, 0, 0, 0, 0, 0, 0, 0, 0, 0, 0] : List Int)))) = true), (((List.getD (sub (apMulB ([2, 0, 0, 0, 0, 0, 0, 0, 0, 0, 0, 0, 0, 0, 0, 0, 0, 0, 0, 0, 0, 0, 0, 0, 0, 0, 0, 0, 0, 0, 0, 0] : List Int)) (31 : Nat) (1 : Nat)) (0 : Nat) 0) == (34 : Int)) = true), (((List.getD (sub (apMulB ([2, 0, 0, 0, 0, 0, 0, 0, 0, 0, 0, 0, 0, 0, 0, 0, 0, 0, 0, 0, 0, 0, 0, 0, 0, 0, 0, 0, 0, 0, 0, 0] : List Int)) (31 : Nat) (1 : Nat)) (0 : Nat) 0) == (34 : Int)) = true), (((List.getD (sub (apMulB ([2, 0, 0, 0, 0, 0, 0, 0, 0, 0, 0, 0, 0, 0, 0, 0, 0, 0, 0, 0, 0, 0, 0, 0, 0, 0, 0, 0, 0, 0, 0, 0] : List Int)) (31 : Nat) (1 : Nat)) (0 : Nat) 0) == (34 : Int)) = true), (((List.getD (sub (apMulB ([2, 0, 0, 0, 0, 0, 0, 0, 0, 0, 0, 0, 0, 0, 0, 0, 0, 0, 0, 0, 0, 0, 0, 0, 0, 0, 0, 0, 0, 0, 0, 0] : List Int)) (31 : Nat) (1 : Nat)) (0 : Nat) 0) == (34 : Int)) = true), (((List.getD (sub (apMulB ([2, 0, 0, 0, 0, 0, 0, 0, 0, 0, 0, 0, 0, 0, 0, 0, 0, 0, 0, 0, 0, 0, 0, 0, 0, 0, 0, 0, 0, 0, 0, 0] : List Int)) (0 : Nat) (1 : Nat)) (0 : Nat) 0) == (201 : Int)) = true), (((List.getD (sub (apMulB ([2, 0, 0, 0, 0, 0, 0, 0, 0, 0, 0, 0, 0, 0, 0, 0, 0, 0, 0, 0, 0, 0, 0, 0, 0, 0, 0, 0, 0, 0, 0, 0] : List Int)) (0 : Nat) (1 : Nat)) (0 : Nat) 0) == (201 : Int)) = true), (((List.getD (sub (apMulB ([2, 0, 0, 0, 0, 0, 0, 0, 0, 0, 0, 0, 0, 0, 0, 0, 0, 0, 0, 0, 0, 0, 0, 0, 0, 0, 0, 0, 0, 0, 0, 0] : List Int)) (0 : Nat) (1 : Nat)) (0 : Nat) 0) == (201 : Int)) = true), (((List.getD (sub (apMulB ([2, 0, 0, 0, 0, 0, 0, 0, 0, 0, 0, 0, 0, 0, 0, 0, 0, 0, 0, 0, 0, 0, 0, 0, 0, 0, 0, 0, 0, 0, 0, 0] : List Int)) (0 : Nat) (1 : Nat)) (0 : Nat) 0) == (201 : Int)) = true), ((((1 : Nat) ≤ (1 : Nat)) ∧ True) ∧ (((1 : Nat) = (1 : Nat)) ∧ ((1 : Nat) ≠ (32 : Nat))))]) (by kernel_rfl)
    (AllP_cons ((congrArg (fun z => AV.o (.a (.b z))) (beq_iff_eq.2 wk_chk))) (AllP_cons rfl (AllP_cons rfl (AllP_cons rfl (AllP_cons rfl (AllP_cons (beq_iff_eq.2 wk_prime.2) (AllP_cons (beq_iff_eq.2 wk_prime.2) (AllP_cons (beq_iff_eq.2 wk_prime.2) (AllP_cons (beq_iff_eq.2 wk_prime.2) (AllP_cons (congrArg (fun z => !z) wk_prime.1) (AllP_cons (congrArg (fun z => !z) wk_prime.1) (AllP_cons (congrArg (fun z => !z) wk_prime.1) (AllP_cons (congrArg (fun z => !z) wk_prime.1) (AllP_cons (beq_iff_eq.2 wk_addc) (AllP_cons (beq_iff_eq.2 wk_addc) (AllP_cons (beq_iff_eq.2 wk_addc) (AllP_cons (decide_eq_true (wk_add.trans wk_two.symm)) (AllP_cons (decide_eq_true (wk_add.trans wk_two.symm)) (AllP_cons (decide_eq_true (wk_add.trans wk_two.symm)) (AllP_cons (decide_eq_true (wk_add.trans wk_two.symm)) (AllP_cons (beq_iff_eq.2 (by rw [getsub1, wk_two, pB2_enc]; rfl)) (AllP_cons (beq_iff_eq.2 (by rw [getsub1, wk_two, pB2_enc]; rfl)) (AllP_cons (beq_iff_eq.2 (by rw [getsub1, wk_two, pB2_enc]; rfl)) (AllP_cons (beq_iff_eq.2 (by rw [getsub1, wk_two, pB2_enc]; rfl)) (AllP_cons (beq_iff_eq.2 (by rw [getsub1, wk_two, pB2_enc]; rfl)) (AllP_cons (beq_iff_eq.2 (by rw [getsub1, wk_two, pB2_enc]; rfl)) (AllP_cons (beq_iff_eq.2 (by rw [getsub1, wk_two, pB2_enc]; rfl)) (AllP_cons (beq_iff_eq.2 (by rw [getsub1, wk_two, pB2_enc]; rfl)) (AllP_cons ⟨⟨(by decide), trivial⟩, ⟨rfl, (by decide)⟩⟩ (AllP_nil))))))))))))))))))))))))))))))

theorem works_body (w : World) : Body Try.prog (tabOf tabVO) Try.f10 ⟨w, [], 0, noEnv⟩ (toA []) [] (fun ys _ => ys = [.a (.b true)]) :=
  Body.lens (c := (Try.f10.body.getD .skip)) rfl fun h => works_body0  w

theorem works_pure : PureC Try.prog 10 [] [.a (.b true)] :=
  PureC.of_body tabOkVO Try.func10 rfl rfl fun w => works_body w

def gam63 : Gam := gpure 10 (fun args => match args with | [] => some (none, [.a (.b true)]) | _ => none) gam62
theorem gam63_ok : GamOk Try.prog gam63 := gpure_ok gam62_ok Try.call10 (by
  intro args vc xs h hv
  split at h
  · simp only [Option.some.injEq, Prod.mk.injEq] at h; obtain ⟨rfl, rfl⟩ := h; exact ⟨_, by rfl, works_pure⟩
  · simp at h)

set_option maxHeartbeats 1000000 in
theorem lwPt_w0_body0 (s : List Int) (hv0 : List.length s = (32 : Nat)) (hb0 : ((apCheck s) == (0 : Int)) = true) (w : World) : Body Try.prog (tabOf tabVO) Try.f17 ⟨w, [], 0, noEnv⟩ (toA [.g [.ints .u8 (32 : Nat) s]]) [] (fun ys _ => ys = [.g [.ints .u8 (32 : Nat) s]]) :=
  Body.of_fin (Γ := gam63) (Λ := noLam) (Ψ := noPsi) (fuel := 0) (m := 30) (c := (Try.f17.body.getD .skip)) mix tabOkVO gam63_ok rfl (rs := [.cell 2 23]) rfl rfl [true] []
    (vc := [(((apCheck s) == (0 : Int)) = true)]) (by kernel_rfl)
    (AllP_cons hb0 (AllP_nil))

def lwPt_w1 (s : List Int) : List Int :=
  (apAdd (apMulB s) (sub (apO8) ((Int.toNat (bits2 .and .u8 (List.getD (sub s (0 : Nat) (1 : Nat)) (0 : Nat) 0) (7 : Int))) * (32 : Nat)) (32 : Nat)))

set_option maxHeartbeats 1000000 in
theorem lwPt_w1_body0 (s : List Int) (hv0 : List.length s = (32 : Nat)) (hb0 : ((apCheck s) == (0 : Int)) = false) (w : World) : Body Try.prog (tabOf tabVO) Try.f17 ⟨w, [], 0, noEnv⟩ (toA [.g [.ints .u8 (32 : Nat) s]]) [] (fun ys _ => ys = [.g [.ints .u8 (32 : Nat) (lwPt_w1 s)]]) :=
  Body.of_fin (Γ := gam63) (Λ := noLam) (Ψ := noPsi) (fuel := 0) (m := 30) (c := (Try.f17.body.getD .skip)) mix tabOkVO gam63_ok rfl (rs := [.cell 2 23]) rfl rfl [false, false] []
    (vc := [((((Int.toNat (bits2 .and .u8 (List.getD (sub s (0 : Nat) (1 : Nat)) (0 : Nat) 0) (7 : Int))) * (32 : Nat)) + (32 : Nat)) ≤ (256 : Nat)), (((0 : Int) ≤ (bits2 .and .u8 (List.getD (sub s (0 : Nat) (1 : Nat)) (0 : Nat) 0) (7 : Int))) ∧ ((bits2 .and .u8 (List.getD (sub s (0 : Nat) (1 : Nat)) (0 : Nat) 0) (7 : Int)) < (8 : Int))), (false = false), (True ∧ True), (((apCheck s) == (0 : Int)) = false)]) (by kernel_rfl)
    (AllP_cons (by have q := and7_rng (List.getD (sub s 0 1) 0 0); omega) (AllP_cons ⟨(bits2_nn (k := .u8) rfl), (by have q := and7_rng (List.getD (sub s 0 1) 0 0); omega)⟩ (AllP_cons rfl (AllP_cons ⟨trivial, trivial⟩ (AllP_cons hb0 (AllP_nil))))))

def lwPt (s : List Int) : List Int :=
  (cond ((apCheck s) == (0 : Int)) s (lwPt_w1 s))

set_option maxHeartbeats 1000000 in
theorem lwPt_body (s : List Int) (w : World) : Body Try.prog (tabOf tabVO) Try.f17 ⟨w, [], 0, noEnv⟩ (toA [.g [.ints .u8 (32 : Nat) s]]) [] (fun ys _ => ys = [.g [.ints .u8 (32 : Nat) (lwPt s)]]) :=
  Body.lens (c := (Try.f17.body.getD .skip)) rfl fun h => by
    cases hb0 : ((apCheck s) == (0 : Int))
    · exact (lwPt_w1_body0 s (h.vals 0 _ _ _ rfl) hb0 w).mono fun _ _ hx => hx.trans (by rw [(show (lwPt s) = (lwPt_w1 s) from (cond_f hb0))])
    · exact (lwPt_w0_body0 s (h.vals 0 _ _ _ rfl) hb0 w).mono fun _ _ hx => hx.trans (by rw [(show (lwPt s) = s from (cond_t hb0))])

theorem lwPt_pure (s : List Int) : PureC Try.prog 17 [.g [.ints .u8 (32 : Nat) s]] [.g [.ints .u8 (32 : Nat) (lwPt s)]] :=
  PureC.of_body tabOkVO Try.func17 rfl rfl fun w => lwPt_body s w

def gam64 : Gam := gpure 17 (fun args => match args with | [.o (.g [.ints .u8 (32 : Nat) s])] => some (none, [.g [.ints .u8 (32 : Nat) (lwPt s)]]) | _ => none) gam63
theorem gam64_ok : GamOk Try.prog gam64 := gpure_ok gam63_ok Try.call17 (by
  intro args vc xs h hv
  split at h
  · simp only [Option.some.injEq, Prod.mk.injEq] at h; obtain ⟨rfl, rfl⟩ := h; exact ⟨_, by rfl, lwPt_pure _⟩
  · simp at h)

end Go.Proofs.Ytodiojpakfjehaa.X

/- What the laws compare. -/
namespace Go.Proofs.Ytodiojpakfjehaa.X
open Go Go.Proofs
set_option linter.unusedVariables false
set_option linter.unusedSimpArgs false
set_option maxRecDepth 100000

theorem pt_ok {s : List Int} (h : Byt s) (l : s.length = 32) : lwPt s = encE (ptF s) := by
  have b := byt_get h 0
  unfold lwPt ptF
  cases hd : decE s with
  | some p =>
    have c : apCheck s = 0 := by rw [← enc_dec h l hd]; exact chk_enc p
    rw [c]
    exact (enc_dec h l hd).symm
  | none =>
    rw [chk_none h l hd]
    show lwPt_w1 s = _
    unfold lwPt_w1
    rw [getsub1, and7 _ b.1 b.2, mulB_enc h l, o8_eq, encs_sub _ (by omega), add_enc]
end Go.Proofs.Ytodiojpakfjehaa.X

/- The ladder, as multiples. -/
namespace Go.Proofs.Ytodiojpakfjehaa.X
open Go Go.Proofs
set_option linter.unusedVariables false
set_option linter.unusedSimpArgs false
set_option maxRecDepth 100000

/-- the bits of a number, the highest first -/
def bl (V : Nat) : Nat → List Bool
  | 0 => []
  | k + 1 => bl V k ++ [V / 2 ^ (255 - k) % 2 == 1]
end Go.Proofs.Ytodiojpakfjehaa.X

/- Printed by a tool of this session. -/
namespace Go.Proofs.Ytodiojpakfjehaa.X
open Go Go.Proofs
set_option linter.unusedVariables false
set_option linter.unusedSimpArgs false
set_option maxRecDepth 100000
theorem teVS_5 : TEOk Try.prog 5 ⟨.int .u8, 1, 1, [.i .u8 (0 : Int)], false⟩ :=
  TEOk.of Try.underlying5 (i := Try.t5) (by kernel_rfl) rfl rfl rfl (by kernel_rfl) (fun h => by cases h) (by kernel_rfl)
theorem teVS_23 : TEOk Try.prog 23 ⟨.array 32 5, 32, 32, [.ints .u8 (32 : Nat) ([0, 0, 0, 0, 0, 0, 0, 0, 0, 0, 0, 0, 0, 0, 0, 0, 0, 0, 0, 0, 0, 0, 0, 0, 0, 0, 0, 0, 0, 0, 0, 0] : List Int)], true⟩ :=
  TEOk.of Try.underlying23 (i := Try.t23) (by kernel_rfl) rfl rfl rfl (by kernel_rfl) (fun _ => Try.eqGuardType23) (by kernel_rfl)
theorem teVS_32 : TEOk Try.prog 32 ⟨.slice 5, 1, 24, [.raw (.slice none 0 0)], false⟩ :=
  TEOk.of Try.underlying32 (i := Try.t32) (by kernel_rfl) rfl rfl rfl (by kernel_rfl) (fun h => by cases h) (by kernel_rfl)
noncomputable def tabVS : List (Nat × TE) := [(5, ⟨.int .u8, 1, 1, [.i .u8 (0 : Int)], false⟩), (23, ⟨.array 32 5, 32, 32, [.ints .u8 (32 : Nat) ([0, 0, 0, 0, 0, 0, 0, 0, 0, 0, 0, 0, 0, 0, 0, 0, 0, 0, 0, 0, 0, 0, 0, 0, 0, 0, 0, 0, 0, 0, 0, 0] : List Int)], true⟩), (32, ⟨.slice 5, 1, 24, [.raw (.slice none 0 0)], false⟩)]
theorem tabOkVS : TabOk Try.prog (tabOf tabVS) := (tabOf_cons teVS_5 (tabOf_cons teVS_23 (tabOf_cons teVS_32 tabOf_nil)))

def apDec_w0 (b : List Int) : Int :=
  (apCheck (sub b (0 : Nat) (32 : Nat)))

set_option maxHeartbeats 1000000 in
theorem apDec_w0_body0 (n : Nat) (nm : Nat) (b : List Int) (cap0 : Nat) (h0 : (nm = n)) (h1 : (n = (32 : Nat))) (hc0 : n ≤ cap0) (hl0_0 : List.length b = nm) (hb0 : ((apCheck (sub b (0 : Nat) (32 : Nat))) != (0 : Int)) = true) (w : World) (β : Env) : Body Try.prog (tabOf tabVS) Try.f13 ⟨w, [], 1, β⟩ [.o (.a (.sl 0 (0 : Nat) n cap0))] [some ⟨false, [.ints .u8 nm b]⟩] (fun ys _ => ys = [.g [.ints .u8 (32 : Nat) ([0, 0, 0, 0, 0, 0, 0, 0, 0, 0, 0, 0, 0, 0, 0, 0, 0, 0, 0, 0, 0, 0, 0, 0, 0, 0, 0, 0, 0, 0, 0, 0] : List Int)], .a (.i .i64 (apDec_w0 b))]) :=
  Body.of_fin (Γ := gam64) (Λ := noLam) (Ψ := noPsi) (fuel := 0) (m := 20) (c := (Try.f13.body.getD .skip)) mix tabOkVS gam64_ok rfl (rs := [.cell 2 23, .tmp 3]) rfl rfl [false, true] []
    (vc := [(((apCheck (sub b (0 : Nat) (32 : Nat))) != (0 : Int)) = true), ((32 : Nat) ≤ nm), ((32 : Nat) ≤ n), ((((n : Nat) : Int) != (32 : Int)) = false)]) (by kernel_rfl)
    (AllP_cons hb0 (AllP_cons (by omega) (AllP_cons (by omega) (AllP_cons (bne_eq_false_iff_eq.2 (by omega)) (AllP_nil)))))

def apDec_w1 (b : List Int) : List Int :=
  (sub b (0 : Nat) (32 : Nat))

set_option maxHeartbeats 1000000 in
theorem apDec_w1_body0 (n : Nat) (nm : Nat) (b : List Int) (cap0 : Nat) (h0 : (nm = n)) (h1 : (n = (32 : Nat))) (hc0 : n ≤ cap0) (hl0_0 : List.length b = nm) (hb0 : ((apCheck (sub b (0 : Nat) (32 : Nat))) != (0 : Int)) = false) (w : World) (β : Env) : Body Try.prog (tabOf tabVS) Try.f13 ⟨w, [], 1, β⟩ [.o (.a (.sl 0 (0 : Nat) n cap0))] [some ⟨false, [.ints .u8 nm b]⟩] (fun ys _ => ys = [.g [.ints .u8 (32 : Nat) (apDec_w1 b)], .a (.i .i64 (0 : Int))]) :=
  Body.of_fin (Γ := gam64) (Λ := noLam) (Ψ := noPsi) (fuel := 0) (m := 20) (c := (Try.f13.body.getD .skip)) mix tabOkVS gam64_ok rfl (rs := [.cell 2 23, .tmp 3]) rfl rfl [false, false] []
    (vc := [(((apCheck (sub b (0 : Nat) (32 : Nat))) != (0 : Int)) = false), ((32 : Nat) ≤ nm), ((32 : Nat) ≤ n), ((((n : Nat) : Int) != (32 : Int)) = false)]) (by kernel_rfl)
    (AllP_cons hb0 (AllP_cons (by omega) (AllP_cons (by omega) (AllP_cons (bne_eq_false_iff_eq.2 (by omega)) (AllP_nil)))))

def apDec (b : List Int) : List Int :=
  (cond ((apCheck (sub b (0 : Nat) (32 : Nat))) != (0 : Int)) ([0, 0, 0, 0, 0, 0, 0, 0, 0, 0, 0, 0, 0, 0, 0, 0, 0, 0, 0, 0, 0, 0, 0, 0, 0, 0, 0, 0, 0, 0, 0, 0] : List Int) (apDec_w1 b))

def apDec_1 (b : List Int) : Int :=
  (cond ((apCheck (sub b (0 : Nat) (32 : Nat))) != (0 : Int)) (apDec_w0 b) (0 : Int))

set_option maxHeartbeats 1000000 in
theorem apDec_body (n : Nat) (nm : Nat) (b : List Int) (cap0 : Nat) (h0 : (nm = n)) (h1 : (n = (32 : Nat))) (w : World) (β : Env) : Body Try.prog (tabOf tabVS) Try.f13 ⟨w, [], 1, β⟩ [.o (.a (.sl 0 (0 : Nat) n cap0))] [some ⟨false, [.ints .u8 nm b]⟩] (fun ys _ => ys = [.g [.ints .u8 (32 : Nat) (apDec b)], .a (.i .i64 (apDec_1 b))]) :=
  Body.lens (c := (Try.f13.body.getD .skip)) rfl fun h => by
    cases hb0 : ((apCheck (sub b (0 : Nat) (32 : Nat))) != (0 : Int))
    · exact (apDec_w1_body0 n nm b cap0 h0 h1 (h.caps 0 _ _ _ _ rfl) (h.lens 0 _ .u8 nm b rfl (by simp)) hb0 w β).mono fun _ _ hx => hx.trans (by rw [(show (apDec b) = (apDec_w1 b) from (cond_f hb0)), (show (apDec_1 b) = (0 : Int) from (cond_f hb0))])
    · exact (apDec_w0_body0 n nm b cap0 h0 h1 (h.caps 0 _ _ _ _ rfl) (h.lens 0 _ .u8 nm b rfl (by simp)) hb0 w β).mono fun _ _ hx => hx.trans (by rw [(show (apDec b) = ([0, 0, 0, 0, 0, 0, 0, 0, 0, 0, 0, 0, 0, 0, 0, 0, 0, 0, 0, 0, 0, 0, 0, 0, 0, 0, 0, 0, 0, 0, 0, 0] : List Int) from (cond_t hb0)), (show (apDec_1 b) = (apDec_w0 b) from (cond_t hb0))])

def gam66 : Gam := greadV 13 [.s 1] (fun vs args => match vs, args with | [⟨_, _, _, [.ints .u8 nm b]⟩], [a0] => some ((nm = (lenOfA a0)) ∧ ((lenOfA a0) = (32 : Nat)), [.g [.ints .u8 (32 : Nat) (apDec b)], .a (.i .i64 (apDec_1 b))]) | _, _ => none) gam64
theorem gam66_ok : GamOk Try.prog gam66 := greadV_ok tabOkVS Try.func13 gam64_ok Try.call13 (by
  intro vs args p xs h hv
  split at h
  · simp only [Option.some.injEq, Prod.mk.injEq] at h; obtain ⟨rfl, rfl⟩ := h; exact ⟨by rfl, fun caps w β => apDec_body _ _ _ _ hv.1 hv.2 w β⟩
  · simp at h)

end Go.Proofs.Ytodiojpakfjehaa.X

/- Two parts of a point. -/
namespace Go.Proofs.Ytodiojpakfjehaa.X
open Go Go.Proofs
set_option linter.unusedVariables false
set_option linter.unusedSimpArgs false
set_option maxRecDepth 100000

/-- one of the eight taken off j times -/
noncomputable def dn (p : E) : Nat → E
  | 0 => p
  | j + 1 => ad (dn p j) (ng eT)
theorem T_mod (n : Nat) : mu (n % 8) eT = mu n eT := mu_mod T8_zero n
theorem LN8 : LN % 8 = 5 := by decide +kernel
theorem LN_T (j : Nat) : mu (LN * j) eT = mu (5 * j) eT := by
  rw [← T_mod (LN * j), ← T_mod (5 * j), Nat.mul_mod, LN8, Nat.mul_mod 5 j]
theorem ti_ex (p : E) : ∃ i, i < 8 ∧ mu LN p = mu (5 * i) eT := by
  obtain ⟨k, _, rfl⟩ := e_cyclic p
  refine ⟨k % 8, Nat.mod_lt _ (by decide), ?_⟩
  rw [← mu_mul, Nat.mul_comm, mu_mul]
  have e : mu LN eg = mu LN eT := by
    unfold eg
    rw [mu_dist, LB_zero, ad_zero']
  rw [e, ← mu_mul, Nat.mul_comm, LN_T, ← T_mod (5 * k), ← T_mod (5 * (k % 8)), Nat.mul_mod 5 k, Nat.mul_mod 5 (k % 8), Nat.mod_mod]
/-- which of the eight a point holds -/
noncomputable def ti (p : E) : Nat := Classical.choose (ti_ex p)
/-- the part in the subgroup -/
noncomputable def sp (p : E) : E := dn p (ti p)
-- what Parts answers
section
variable {a b k : List Int}
end
end Go.Proofs.Ytodiojpakfjehaa.X

/- Printed by a tool of this session. -/
namespace Go.Proofs.Ytodiojpakfjehaa.X
open Go Go.Proofs
set_option linter.unusedVariables false
set_option linter.unusedSimpArgs false
set_option maxRecDepth 100000
theorem teVY_5 : TEOk Try.prog 5 ⟨.int .u8, 1, 1, [.i .u8 (0 : Int)], false⟩ :=
  TEOk.of Try.underlying5 (i := Try.t5) (by kernel_rfl) rfl rfl rfl (by kernel_rfl) (fun h => by cases h) (by kernel_rfl)
theorem teVY_23 : TEOk Try.prog 23 ⟨.array 32 5, 32, 32, [.ints .u8 (32 : Nat) ([0, 0, 0, 0, 0, 0, 0, 0, 0, 0, 0, 0, 0, 0, 0, 0, 0, 0, 0, 0, 0, 0, 0, 0, 0, 0, 0, 0, 0, 0, 0, 0] : List Int)], true⟩ :=
  TEOk.of Try.underlying23 (i := Try.t23) (by kernel_rfl) rfl rfl rfl (by kernel_rfl) (fun _ => Try.eqGuardType23) (by kernel_rfl)
theorem teVY_37 : TEOk Try.prog 37 ⟨.array 32 5, 32, 32, [.ints .u8 (32 : Nat) ([0, 0, 0, 0, 0, 0, 0, 0, 0, 0, 0, 0, 0, 0, 0, 0, 0, 0, 0, 0, 0, 0, 0, 0, 0, 0, 0, 0, 0, 0, 0, 0] : List Int)], true⟩ :=
  TEOk.of Try.underlying37 (i := Try.t37) (by kernel_rfl) rfl rfl rfl (by kernel_rfl) (fun _ => Try.eqGuardType37) (by kernel_rfl)
theorem teVY_44 : TEOk Try.prog 44 ⟨.slice 37, 1, 24, [.raw (.slice none 0 0)], false⟩ :=
  TEOk.of Try.underlying44 (i := Try.t44) (by kernel_rfl) rfl rfl rfl (by kernel_rfl) (fun h => by cases h) (by kernel_rfl)
theorem teVY_45 : TEOk Try.prog 45 ⟨.slice 23, 1, 24, [.raw (.slice none 0 0)], false⟩ :=
  TEOk.of Try.underlying45 (i := Try.t45) (by kernel_rfl) rfl rfl rfl (by kernel_rfl) (fun h => by cases h) (by kernel_rfl)
theorem teVY_94 : TEOk Try.prog 94 ⟨Try.t93.desc, 20, 160, [.ints .u64 (20 : Nat) ([0, 0, 0, 0, 0, 0, 0, 0, 0, 0, 0, 0, 0, 0, 0, 0, 0, 0, 0, 0] : List Int)], false⟩ :=
  TEOk.of Try.underlying94 (i := Try.t94) (by kernel_rfl) rfl rfl rfl (by kernel_rfl) (fun h => by cases h) (by kernel_rfl)
noncomputable def tabVY : List (Nat × TE) := [(5, ⟨.int .u8, 1, 1, [.i .u8 (0 : Int)], false⟩), (23, ⟨.array 32 5, 32, 32, [.ints .u8 (32 : Nat) ([0, 0, 0, 0, 0, 0, 0, 0, 0, 0, 0, 0, 0, 0, 0, 0, 0, 0, 0, 0, 0, 0, 0, 0, 0, 0, 0, 0, 0, 0, 0, 0] : List Int)], true⟩), (37, ⟨.array 32 5, 32, 32, [.ints .u8 (32 : Nat) ([0, 0, 0, 0, 0, 0, 0, 0, 0, 0, 0, 0, 0, 0, 0, 0, 0, 0, 0, 0, 0, 0, 0, 0, 0, 0, 0, 0, 0, 0, 0, 0] : List Int)], true⟩), (44, ⟨.slice 37, 1, 24, [.raw (.slice none 0 0)], false⟩), (45, ⟨.slice 23, 1, 24, [.raw (.slice none 0 0)], false⟩), (94, ⟨Try.t93.desc, 20, 160, [.ints .u64 (20 : Nat) ([0, 0, 0, 0, 0, 0, 0, 0, 0, 0, 0, 0, 0, 0, 0, 0, 0, 0, 0, 0] : List Int)], false⟩)]
theorem tabOkVY : TabOk Try.prog (tabOf tabVY) := (tabOf_cons teVY_5 (tabOf_cons teVY_23 (tabOf_cons teVY_37 (tabOf_cons teVY_44 (tabOf_cons teVY_45 (tabOf_cons teVY_94 tabOf_nil))))))

def PtsIf (n m : Nat) (e : List Int) : Prop := n = m → ∀ k, k < m → ptOpen_1 (sub e (k * 32) 32) = true
theorem pts_at {n m : Nat} {e : List Int} (h : PtsIf n m e) (hb : ((((n : Nat) : Int) != ((m : Nat) : Int))) = false) {k : Nat} (hk : k < m) : ptOpen_1 (sub e (k * 32) 32) = true := h (by have := bne_eq_false_iff_eq.1 hb; omega) k hk

set_option maxHeartbeats 1000000 in
theorem apMulti_w0_body0 (n : Nat) (nm : Nat) (K : List Int) (m : Nat) (mm : Nat) (e : List Int) (cap0 : Nat) (cap1 : Nat) (h0 : (nm = (n * (32 : Nat)))) (h1 : (mm = (m * (32 : Nat)))) (h2 : (PtsIf n m e)) (h3 : (m ≤ (4398046510976 : Nat))) (hc0 : n ≤ cap0) (hc1 : m ≤ cap1) (hl0_0 : List.length K = nm) (hl1_0 : List.length e = mm) (hb0 : (((n : Nat) : Int) != ((m : Nat) : Int)) = true) (w : World) (β : Env) : Body Try.prog (tabOf tabVY) Try.f29 ⟨w, [], 2, β⟩ [.o (.a (.sl 0 (0 : Nat) n cap0)), .o (.a (.sl 1 (0 : Nat) m cap1))] [some ⟨false, [.ints .u8 nm K]⟩, some ⟨false, [.ints .u8 mm e]⟩] (fun ys _ => ys = [.g [.ints .u8 (32 : Nat) ([0, 0, 0, 0, 0, 0, 0, 0, 0, 0, 0, 0, 0, 0, 0, 0, 0, 0, 0, 0, 0, 0, 0, 0, 0, 0, 0, 0, 0, 0, 0, 0] : List Int)], .a (.i .i64 (8 : Int))]) :=
  Body.of_fin (Γ := gam66) (Λ := noLam) (Ψ := noPsi) (fuel := 0) (m := 44) (c := (Try.f29.body.getD .skip)) mix tabOkVY gam66_ok rfl (rs := [.cell 4 23, .tmp 5]) rfl rfl [true] []
    (vc := [((((n : Nat) : Int) != ((m : Nat) : Int)) = true)]) (by kernel_rfl)
    (AllP_cons hb0 (AllP_nil))

def muL_mk (n : Nat) (nm : Nat) (K : List Int) (m : Nat) (mm : Nat) (e : List Int) (cap0 : Nat) (cap1 : Nat) (k : Nat) (s : (List Int)) : St := ⟨sparse 44 [(0, .o (.a (.sl 0 (0 : Nat) n cap0))), (1, .o (.a (.sl 1 (0 : Nat) m cap1))), (4, .o (.a (.p 2 0))), (6, .o (.a (.p 3 0))), (11, .o (.a (.sl 0 (0 : Nat) n cap0))), (12, .o (.a (.i .i64 ((n : Nat) : Int)))), (13, .o (.a (.sl 1 (0 : Nat) m cap1))), (14, .o (.a (.i .i64 ((m : Nat) : Int)))), (15, .o (.a (.b (((n : Nat) : Int) != ((m : Nat) : Int))))), (17, .o (.g [.ints .u64 (20 : Nat) (ptId)])), (18, .o (.a (.sl 1 (0 : Nat) m cap1))), (19, .o (.a (.i .i64 ((m : Nat) : Int)))), (20, .o (.a (.i .i64 ((k : Nat) : Int))))], [some ⟨false, [.ints .u8 nm K]⟩, some ⟨false, [.ints .u8 mm e]⟩, some ⟨true, [.ints .u8 (32 : Nat) ([0, 0, 0, 0, 0, 0, 0, 0, 0, 0, 0, 0, 0, 0, 0, 0, 0, 0, 0, 0, 0, 0, 0, 0, 0, 0, 0, 0, 0, 0, 0, 0] : List Int)]⟩, some ⟨true, [.ints .u64 (20 : Nat) s]⟩]⟩

def muL_step (K : List Int) (e : List Int) (k : Nat) (s : (List Int)) : (List Int) :=
  ((ptAdd s (ptMul (ptOpen (sub e (k * (32 : Nat)) (32 : Nat))) (sub K (k * (32 : Nat)) (32 : Nat)))))

set_option maxHeartbeats 1000000 in
theorem muL_round (n : Nat) (nm : Nat) (K : List Int) (m : Nat) (mm : Nat) (e : List Int) (cap0 : Nat) (cap1 : Nat) (h0 : (nm = (n * (32 : Nat)))) (h1 : (mm = (m * (32 : Nat)))) (h2 : (PtsIf n m e)) (h3 : (m ≤ (4398046510976 : Nat))) (hc0 : n ≤ cap0) (hc1 : m ≤ cap1) (hl0_0 : List.length K = nm) (hl1_0 : List.length e = mm) (hb0 : (((n : Nat) : Int) != ((m : Nat) : Int)) = false) (w : World) (β : Env) (k : Nat) (hk : k < m) (s : (List Int)) : Run Try.prog ⟨w, [], 2, β⟩ (loopB Try.f29 0) (muL_mk n nm K m mm e cap0 cap1 k s) (To ⟨w, [], 2, β⟩ .normal (muL_mk n nm K m mm e cap0 cap1 (k + 1) (muL_step K e k s))) := by
  have e0 : (IntKind.i64.wrap (((k : Nat) : Int) + (1 : Int))) = (((k + (1 : Nat)) : Nat) : Int) := (by first | rfl | exact wrap_succ (by omega) | omega | (simp (disch := omega) only [wrapI]; omega))
  have h := Run.of_outT (B := ⟨w, [], 2, β⟩) (Λ := noLam) (Ψ := noPsi) (fuel := 0) (ora := [true, false]) (c := (loopB Try.f29 0)) (st := (muL_mk n nm K m mm e cap0 cap1 k s)) (l := [.forget [0, 1, 4, 6, 11, 12, 13, 14, 15, 17, 18, 19, 20] 4]) (s' := ⟨sparse 44 [(0, .o (.a (.sl 0 (0 : Nat) n cap0))), (1, .o (.a (.sl 1 (0 : Nat) m cap1))), (4, .o (.a (.p 2 0))), (6, .o (.a (.p 3 0))), (11, .o (.a (.sl 0 (0 : Nat) n cap0))), (12, .o (.a (.i .i64 ((n : Nat) : Int)))), (13, .o (.a (.sl 1 (0 : Nat) m cap1))), (14, .o (.a (.i .i64 ((m : Nat) : Int)))), (15, .o (.a (.b (((n : Nat) : Int) != ((m : Nat) : Int))))), (17, .o (.g [.ints .u64 (20 : Nat) (ptId)])), (18, .o (.a (.sl 1 (0 : Nat) m cap1))), (19, .o (.a (.i .i64 ((m : Nat) : Int)))), (20, .o (.a (.i .i64 (IntKind.i64.wrap (((k : Nat) : Int) + (1 : Int))))))], [some ⟨false, [.ints .u8 nm K]⟩, some ⟨false, [.ints .u8 mm e]⟩, some ⟨true, [.ints .u8 (32 : Nat) ([0, 0, 0, 0, 0, 0, 0, 0, 0, 0, 0, 0, 0, 0, 0, 0, 0, 0, 0, 0, 0, 0, 0, 0, 0, 0, 0, 0, 0, 0, 0, 0] : List Int)]⟩, some ⟨true, [.ints .u64 (20 : Nat) (muL_step K e k s)]⟩]⟩) (ex := .normal) mix tabOkVY gam66_ok
    (vc := [(((k * (32 : Nat)) + (32 : Nat)) ≤ nm), (((0 : Int) ≤ ((k : Nat) : Int)) ∧ (((k : Nat) : Int) < ((n : Nat) : Int))), ((!(ptOpen_1 (sub e (k * (32 : Nat)) (32 : Nat)))) = false), (((k * (32 : Nat)) + (32 : Nat)) ≤ mm), (((0 : Int) ≤ ((k : Nat) : Int)) ∧ (((k : Nat) : Int) < ((m : Nat) : Int))), ((decide (((k : Nat) : Int) < ((m : Nat) : Int))) = true)]) (by kernel_rfl)
    (AllP_cons (by first | omega | exact decide_eq_true (by omega) | exact decide_eq_false (by omega) | (have q := bne_eq_false_iff_eq.1 hb0; omega) | (simp (disch := omega) only [wrapI]; omega)) (AllP_cons ⟨(by first | omega | exact decide_eq_true (by omega) | exact decide_eq_false (by omega) | (have q := bne_eq_false_iff_eq.1 hb0; omega) | (simp (disch := omega) only [wrapI]; omega)), (by first | omega | exact decide_eq_true (by omega) | exact decide_eq_false (by omega) | (have q := bne_eq_false_iff_eq.1 hb0; omega) | (simp (disch := omega) only [wrapI]; omega))⟩ (AllP_cons (by rw [pts_at h2 hb0 hk]; rfl) (AllP_cons (by first | omega | exact decide_eq_true (by omega) | exact decide_eq_false (by omega) | (have q := bne_eq_false_iff_eq.1 hb0; omega) | (simp (disch := omega) only [wrapI]; omega)) (AllP_cons ⟨(by first | omega | exact decide_eq_true (by omega) | exact decide_eq_false (by omega) | (have q := bne_eq_false_iff_eq.1 hb0; omega) | (simp (disch := omega) only [wrapI]; omega)), (by first | omega | exact decide_eq_true (by omega) | exact decide_eq_false (by omega) | (have q := bne_eq_false_iff_eq.1 hb0; omega) | (simp (disch := omega) only [wrapI]; omega))⟩ (AllP_cons (decide_eq_true (by first | omega | exact decide_eq_true (by omega) | exact decide_eq_false (by omega) | (have q := bne_eq_false_iff_eq.1 hb0; omega) | (simp (disch := omega) only [wrapI]; omega))) (AllP_nil)))))))
  rw [e0] at h
  exact h

set_option maxHeartbeats 1000000 in
theorem muL_last (n : Nat) (nm : Nat) (K : List Int) (m : Nat) (mm : Nat) (e : List Int) (cap0 : Nat) (cap1 : Nat) (h0 : (nm = (n * (32 : Nat)))) (h1 : (mm = (m * (32 : Nat)))) (h2 : (PtsIf n m e)) (h3 : (m ≤ (4398046510976 : Nat))) (hc0 : n ≤ cap0) (hc1 : m ≤ cap1) (hl0_0 : List.length K = nm) (hl1_0 : List.length e = mm) (hb0 : (((n : Nat) : Int) != ((m : Nat) : Int)) = false) (w : World) (β : Env) (s : (List Int)) : Run Try.prog ⟨w, [], 2, β⟩ (loopB Try.f29 0) (muL_mk n nm K m mm e cap0 cap1 m s) (To ⟨w, [], 2, β⟩ (.exit 0) (muL_mk n nm K m mm e cap0 cap1 m s)) :=
  Run.of_outT (B := ⟨w, [], 2, β⟩) (Λ := noLam) (Ψ := noPsi) (fuel := 0) (ora := [false]) (l := [.forget [0, 1, 4, 6, 11, 12, 13, 14, 15, 17, 18, 19, 20] 4]) mix tabOkVY gam66_ok
    (vc := [((decide (((m : Nat) : Int) < ((m : Nat) : Int))) = false)]) (by kernel_rfl)
    (AllP_cons (decide_eq_false (by first | omega | exact decide_eq_true (by omega) | exact decide_eq_false (by omega) | (have q := bne_eq_false_iff_eq.1 hb0; omega) | (simp (disch := omega) only [wrapI]; omega))) (AllP_nil))

theorem muL_loop (n : Nat) (nm : Nat) (K : List Int) (m : Nat) (mm : Nat) (e : List Int) (cap0 : Nat) (cap1 : Nat) (h0 : (nm = (n * (32 : Nat)))) (h1 : (mm = (m * (32 : Nat)))) (h2 : (PtsIf n m e)) (h3 : (m ≤ (4398046510976 : Nat))) (hc0 : n ≤ cap0) (hc1 : m ≤ cap1) (hl0_0 : List.length K = nm) (hl1_0 : List.length e = mm) (hb0 : (((n : Nat) : Int) != ((m : Nat) : Int)) = false) (w : World) (β : Env) (s : (List Int)) : Run Try.prog ⟨w, [], 2, β⟩ (.block 0 (.loop (loopB Try.f29 0))) (muL_mk n nm K m mm e cap0 cap1 0 s) (To ⟨w, [], 2, β⟩ .normal (muL_mk n nm K m mm e cap0 cap1 m (iter (muL_step K e) m s))) :=
  Run.count (fun k => muL_mk n nm K m mm e cap0 cap1 k (iter (muL_step K e) k s)) m (fun k hk => muL_round n nm K m mm e cap0 cap1 h0 h1 h2 h3 hc0 hc1 hl0_0 hl1_0 hb0 w β k hk _) (ex := (.exit 0)) (by simp) (muL_last n nm K m mm e cap0 cap1 h0 h1 h2 h3 hc0 hc1 hl0_0 hl1_0 hb0 w β _)

def muL_out0 (K : List Int) (e : List Int) (m : Nat) (i0 : List Int) : List Int := (iter (muL_step K e) m (i0))

def apMulti_w1 (K : List Int) (m : Nat) (e : List Int) : List Int :=
  (ptForm (muL_out0 K e m (ptId)))

set_option maxHeartbeats 1000000 in
theorem apMulti_w1_body0 (n : Nat) (nm : Nat) (K : List Int) (m : Nat) (mm : Nat) (e : List Int) (cap0 : Nat) (cap1 : Nat) (h0 : (nm = (n * (32 : Nat)))) (h1 : (mm = (m * (32 : Nat)))) (h2 : (PtsIf n m e)) (h3 : (m ≤ (4398046510976 : Nat))) (hc0 : n ≤ cap0) (hc1 : m ≤ cap1) (hl0_0 : List.length K = nm) (hl1_0 : List.length e = mm) (hb0 : (((n : Nat) : Int) != ((m : Nat) : Int)) = false) (w : World) (β : Env) : Body Try.prog (tabOf tabVY) Try.f29 ⟨w, [], 2, β⟩ [.o (.a (.sl 0 (0 : Nat) n cap0)), .o (.a (.sl 1 (0 : Nat) m cap1))] [some ⟨false, [.ints .u8 nm K]⟩, some ⟨false, [.ints .u8 mm e]⟩] (fun ys _ => ys = [.g [.ints .u8 (32 : Nat) (apMulti_w1 K m e)], .a (.i .i64 (0 : Int))]) :=
  Body.of_fin (Γ := gam66) (Λ := lamOf [(0, ⟨[.forget [0, 1, 4, 6, 11, 12, 13, 14, 15, 17, 18, 19, 20] 4], .normal, (muL_mk n nm K m mm e cap0 cap1 m (iter (muL_step K e) m ((ptId))))⟩)]) (Ψ := noPsi) (fuel := 0) (m := 44) (c := (Try.f29.body.getD .skip)) mix tabOkVY gam66_ok rfl (rs := [.cell 4 23, .tmp 5]) rfl rfl [false] []
    (vc := [(Run Try.prog ⟨w, [], 2, β⟩ (.block 0 (.loop (loopB Try.f29 0))) (muL_mk n nm K m mm e cap0 cap1 0 ((ptId))) (To ⟨w, [], 2, β⟩ .normal (muL_mk n nm K m mm e cap0 cap1 m (iter (muL_step K e) m ((ptId)))))), ((((n : Nat) : Int) != ((m : Nat) : Int)) = false)]) (by kernel_rfl)
    (AllP_cons (muL_loop n nm K m mm e cap0 cap1 h0 h1 h2 h3 hc0 hc1 hl0_0 hl1_0 hb0 w β ((ptId))) (AllP_cons hb0 (AllP_nil)))

def apMulti (n : Nat) (K : List Int) (m : Nat) (e : List Int) : List Int :=
  (cond (((n : Nat) : Int) != ((m : Nat) : Int)) ([0, 0, 0, 0, 0, 0, 0, 0, 0, 0, 0, 0, 0, 0, 0, 0, 0, 0, 0, 0, 0, 0, 0, 0, 0, 0, 0, 0, 0, 0, 0, 0] : List Int) (apMulti_w1 K m e))

def apMulti_1 (n : Nat) (m : Nat) : Int :=
  (cond (((n : Nat) : Int) != ((m : Nat) : Int)) (8 : Int) (0 : Int))

set_option maxHeartbeats 1000000 in
theorem apMulti_body (n : Nat) (nm : Nat) (K : List Int) (m : Nat) (mm : Nat) (e : List Int) (cap0 : Nat) (cap1 : Nat) (h0 : (nm = (n * (32 : Nat)))) (h1 : (mm = (m * (32 : Nat)))) (h2 : (PtsIf n m e)) (h3 : (m ≤ (4398046510976 : Nat))) (w : World) (β : Env) : Body Try.prog (tabOf tabVY) Try.f29 ⟨w, [], 2, β⟩ [.o (.a (.sl 0 (0 : Nat) n cap0)), .o (.a (.sl 1 (0 : Nat) m cap1))] [some ⟨false, [.ints .u8 nm K]⟩, some ⟨false, [.ints .u8 mm e]⟩] (fun ys _ => ys = [.g [.ints .u8 (32 : Nat) (apMulti n K m e)], .a (.i .i64 (apMulti_1 n m))]) :=
  Body.lens (c := (Try.f29.body.getD .skip)) rfl fun h => by
    cases hb0 : (((n : Nat) : Int) != ((m : Nat) : Int))
    · exact (apMulti_w1_body0 n nm K m mm e cap0 cap1 h0 h1 h2 h3 (h.caps 0 _ _ _ _ rfl) (h.caps 1 _ _ _ _ rfl) (h.lens 0 _ .u8 nm K rfl (by simp)) (h.lens 1 _ .u8 mm e rfl (by simp)) hb0 w β).mono fun _ _ hx => hx.trans (by rw [(show (apMulti n K m e) = (apMulti_w1 K m e) from (cond_f hb0)), (show (apMulti_1 n m) = (0 : Int) from (cond_f hb0))])
    · exact (apMulti_w0_body0 n nm K m mm e cap0 cap1 h0 h1 h2 h3 (h.caps 0 _ _ _ _ rfl) (h.caps 1 _ _ _ _ rfl) (h.lens 0 _ .u8 nm K rfl (by simp)) (h.lens 1 _ .u8 mm e rfl (by simp)) hb0 w β).mono fun _ _ hx => hx.trans (by rw [(show (apMulti n K m e) = ([0, 0, 0, 0, 0, 0, 0, 0, 0, 0, 0, 0, 0, 0, 0, 0, 0, 0, 0, 0, 0, 0, 0, 0, 0, 0, 0, 0, 0, 0, 0, 0] : List Int) from (cond_t hb0)), (show (apMulti_1 n m) = (8 : Int) from (cond_t hb0))])

def gam70 : Gam := greadV 29 [.s 32, .s 32] (fun vs args => match vs, args with | [⟨_, _, _, [.ints .u8 nm K]⟩, ⟨_, _, _, [.ints .u8 mm e]⟩], [a0, a1] => some ((nm = ((lenOfA a0) * (32 : Nat))) ∧ (mm = ((lenOfA a1) * (32 : Nat))) ∧ (PtsIf (lenOfA a0) (lenOfA a1) e) ∧ ((lenOfA a1) ≤ (4398046510976 : Nat)), [.g [.ints .u8 (32 : Nat) (apMulti (lenOfA a0) K (lenOfA a1) e)], .a (.i .i64 (apMulti_1 (lenOfA a0) (lenOfA a1)))]) | _, _ => none) gam66
theorem gam70_ok : GamOk Try.prog gam70 := greadV_ok tabOkVY Try.func29 gam66_ok Try.call29 (by
  intro vs args p xs h hv
  split at h
  · simp only [Option.some.injEq, Prod.mk.injEq] at h; obtain ⟨rfl, rfl⟩ := h; exact ⟨by rfl, fun caps w β => apMulti_body _ _ _ _ _ _ _ _ hv.1 hv.2.1 hv.2.2.1 hv.2.2.2 w β⟩
  · simp at h)

end Go.Proofs.Ytodiojpakfjehaa.X

/- Sums over lists. -/
namespace Go.Proofs.Ytodiojpakfjehaa.X
open Go Go.Proofs
set_option linter.unusedVariables false
set_option linter.unusedSimpArgs false
set_option maxRecDepth 100000

/-- rows, one behind the other -/
def rowsL (f : Nat → List Int) : Nat → List Int
  | 0 => []
  | n + 1 => rowsL f n ++ f n
theorem rowsL_len {f : Nat → List Int} : ∀ {n : Nat}, (∀ j, j < n → (f j).length = 32) → (rowsL f n).length = n * 32
  | 0, _ => rfl
  | n + 1, h => by
    show (rowsL f n ++ f n).length = _
    rw [List.length_append, rowsL_len (fun j hj => h j (by omega)), h n (by omega)]; omega
theorem rowsL_sub {f : Nat → List Int} : ∀ {n k : Nat}, (∀ j, j < n → (f j).length = 32) → k < n → sub (rowsL f n) (k * 32) 32 = f k
  | 0, k, _, h => by omega
  | n + 1, k, hf, h => by
    show sub (rowsL f n ++ f n) (k * 32) 32 = _
    have l := rowsL_len (n := n) (fun j hj => hf j (by omega))
    have ln := hf n (by omega)
    by_cases hk : k < n
    · have ih := rowsL_sub (n := n) (fun j hj => hf j (by omega)) hk
      rw [← ih]
      refine List.ext_getElem? fun r => ?_
      by_cases hr : r < 32
      · rw [sub_get hr, sub_get hr, List.getElem?_append_left (by omega)]
      · rw [List.getElem?_eq_none, List.getElem?_eq_none]
        · rw [sub_len _ _ _ (by omega)]; omega
        · rw [sub_len _ _ _ (by rw [List.length_append, ln]; omega)]; omega
    · have : k = n := by omega
      subst this
      refine List.ext_getElem? fun r => ?_
      by_cases hr : r < 32
      · rw [sub_get hr, List.getElem?_append_right (by omega)]
        congr 1; omega
      · rw [List.getElem?_eq_none, List.getElem?_eq_none]
        · rw [ln]; omega
        · rw [sub_len _ _ _ (by rw [List.length_append, ln]; omega)]; omega
def eS (e : List Int) : Nat → List Int := rowsL (fun j => lwPt (sub e (j * 32) 32))
theorem byt_sub {b : List Int} (h : Byt b) (c m : Nat) : Byt (sub b c m) := fun x hx => h x (List.mem_of_mem_drop (List.mem_of_mem_take hx))
section
variable {K e : List Int} {n m : Nat}
theorem row_ok (hK : Byt K) (lK : List.length K = n * 32) {j : Nat} (hj : j < n) : Byt (sub K (j * 32) 32) ∧ (sub K (j * 32) 32).length = 32 := ⟨byt_sub hK _ _, sub_len _ _ _ (by omega)⟩
theorem row_pt (he : Byt e) (le : List.length e = m * 32) {j : Nat} (hj : j < m) : lwPt (sub e (j * 32) 32) = encE (ptF (sub e (j * 32) 32)) := pt_ok (row_ok he le hj).1 (row_ok he le hj).2
theorem row_pl (he : Byt e) (le : List.length e = m * 32) {j : Nat} (hj : j < m) : (lwPt (sub e (j * 32) 32)).length = 32 := by rw [row_pt he le hj]; exact encE_len _
theorem eS_sub (he : Byt e) (le : List.length e = m * 32) {N j : Nat} (hN : N ≤ m) (hj : j < N) : sub (eS e N) (j * 32) 32 = lwPt (sub e (j * 32) 32) :=
  rowsL_sub (fun i hi => row_pl he le (show i < m by omega)) hj
theorem eS_len (he : Byt e) (le : List.length e = m * 32) {N : Nat} (hN : N ≤ m) : (eS e N).length = N * 32 := rowsL_len (fun i hi => row_pl he le (show i < m by omega))
theorem rows_step {f : Nat → List Int} {k : Nat} (h : (rowsL f k).length = k * 32) (l : (f k).length = 32) : sub (rowsL f k) 0 (k * 32) ++ sub (f k) 0 32 = rowsL f (k + 1) := by
  rw [sub_all _ _ (Nat.le_of_eq h), sub_all _ _ (Nat.le_of_eq l)]; rfl
theorem eS_step (he : Byt e) (le : List.length e = m * 32) {k : Nat} (hk : k < m) : sub (eS e k) 0 (k * 32) ++ sub (lwPt (sub e (k * 32) 32)) 0 32 = eS e (k + 1) :=
  rows_step (f := fun j => lwPt (sub e (j * 32) 32)) (eS_len he le (Nat.le_of_lt hk)) (row_pl he le hk)
end

-- sums of points
noncomputable def gsumE (f : Nat → E) : Nat → E
  | 0 => E0
  | k + 1 => ad (gsumE f k) (f k)
theorem gsumE_congr {f g : Nat → E} : ∀ {n : Nat}, (∀ j, j < n → f j = g j) → gsumE f n = gsumE g n
  | 0, _ => rfl
  | n + 1, h => by
    show ad (gsumE f n) (f n) = ad (gsumE g n) (g n)
    rw [gsumE_congr (fun j hj => h j (by omega)), h n (by omega)]
section
variable {K e : List Int} {n m : Nat}
/-- what Multi answers for rows of points -/
theorem multi_enc {K' e' : List Int} {N : Nat} {p : Nat → E} (hK : ∀ j, j < N → Byt (sub K' (j * 32) 32) ∧ (sub K' (j * 32) 32).length = 32) (he : ∀ j, j < N → sub e' (j * 32) 32 = encE (p j)) : apMulti N K' N e' = encE (gsumE (fun j => mu (BV (sub K' (j * 32) 32)).toNat (p j)) N) := by
  have l : ∀ k, k ≤ N → LP (iter (muL_step K' e') k ptId) (gsumE (fun j => mu (BV (sub K' (j * 32) 32)).toNat (p j)) k) := by
    intro k
    induction k with
    | zero => intro _; exact lp_id
    | succ k ih =>
      intro h
      show LP (ptAdd (iter (muL_step K' e') k ptId) (ptMul (ptOpen (sub e' (k * 32) 32)) (sub K' (k * 32) 32))) (ad _ (mu _ (p k)))
      refine lp_add (ih (by omega)) (lp_mul ?_ (hK k (by omega)).1 (hK k (by omega)).2)
      rw [he k (by omega)]
      exact op2 (p k)
  exact (cond_f (bne_eq_false_iff_eq.2 rfl)).trans (form_ok (l N (Nat.le_refl _)))
theorem multi_code (N : Nat) : apMulti_1 N N = 0 := cond_f (bne_eq_false_iff_eq.2 rfl)
theorem pts_if {e' : List Int} {N N' : Nat} {p : Nat → E} (he : ∀ j, j < N → sub e' (j * 32) 32 = encE (p j)) : PtsIf N' N e' := fun _ k hk => by rw [he k hk]; exact op1 _
theorem ml_e (he : Byt e) (le : List.length e = m * 32) {N : Nat} (hN : N ≤ m) : ∀ j, j < N → sub (sub (eS e N) 0 (N * 32)) (j * 32) 32 = encE (ptF (sub e (j * 32) 32)) := fun j hj => by
  rw [sub_all _ _ (Nat.le_of_eq (eS_len he le hN)), eS_sub he le hN hj, row_pt he le (by omega)]
end
end Go.Proofs.Ytodiojpakfjehaa.X

/- The core, part 5 of 5: blocks of memory known by number, and an evaluator over loaded code, shown sound. -/
/- Rows: a law that answers true and leaves what was there as it was: from its body to its post; arguments opened. -/
namespace Go.Proofs.Ytodiojpakfjehaa.R
open Go Go.Proofs Go.ChangeShapes Go.WideShapes Go.ChangeAt Go.RowKit Go.Proofs.Ytodiojpakfjehaa.X
set_option linter.unusedVariables false

theorem below {W W' : World} (g : Grow W W') : Below W.heap.size W W' := ⟨g.os, g.tape, g.output, g.size, g.old⟩

section post
variable {H : Type} {enc : TypeId × Value → H} {P : Program}

/-- types that read again -/
def Reads (P : Program) (ts : List TypeId) : Bool := laidOutB P && ts.all fun t => P.readableRec t && decide (t < P.types.size)

theorem trodAll_grow (hl : laidOutB P = true) {W W' : World} (g : Grow W W') {sp : Nat → Bool} : ∀ {ts : List TypeId} {vs : List Value} {ds : List (DataW H)} {ps : List MemPlace}, (ts.all fun t => P.readableRec t && decide (t < P.types.size)) = true →
    DataW.TrodAll enc P W 0 (fun _ => true) true ts vs ds ps → (∀ p ∈ ps, p.block < W.heap.size) → (∀ p ∈ ps, sp p.block = true) → DataW.TrodAll enc P W' 0 sp true ts vs ds ps
  | [], [], [], ps, _, h, _, _ => h
  | [], _ :: _, _, _, _, h, _, _ => h.elim
  | [], [], _ :: _, _, _, h, _, _ => h.elim
  | _ :: _, [], _, _, _, h, _, _ => h.elim
  | _ :: _, _ :: _, [], _, _, h, _, _ => h.elim
  | t :: ts, v :: vs, d :: ds, ps, ht, h, hlt, hsp => by
    obtain ⟨p, q, hd, hr, rfl⟩ := h
    simp only [List.all_cons, Bool.and_eq_true, decide_eq_true_eq] at ht
    exact ⟨p, q, WideElems.Trod_stays hl ht.1.1 ht.1.2 hd (fun x hx => (below g).same (hlt x (by simp [hx]))) (fun x hx => hsp x (by simp [hx])),
      trodAll_grow hl g ht.2 hr (fun x hx => hlt x (by simp [hx])) (fun x hx => hsp x (by simp [hx])), rfl⟩

theorem post_true {f : Func} {s : ChangeSpec} {W W' : World} {args : Array Value} {ds : List (DataW H)} {before : List MemPlace} {tb : TypeId}
    (hreads : Reads P f.params.toList = true) (hvars : s.vars = []) (hfn : s.fn H ds = { results := [.lit (.bool true)], args := ds }) (hrt : f.resultTypes = #[tb]) (htb : P.underlying tb = some .bool)
    (hW : DataW.Whole enc P f.params.toList s.vars false W args.toList ds [] before) (g : Grow W W') : s.post enc P f false true false false W args (.bool true) W' := by
  unfold Reads at hreads
  rw [Bool.and_eq_true] at hreads
  have hW0 := hW
  obtain ⟨p, q, hA, hV, rfl, hfz, hnd⟩ := hW
  rw [hvars] at hV
  obtain ⟨_, rfl⟩ := trodVars_none hV
  have hlt : ∀ x ∈ p ++ [], x.block < W.heap.size := fun x hx => by simpa using hW0.lt x hx
  have hfn' : s.fn H (ds ++ []) = { results := [.lit (.bool true)], args := ds } := by rw [List.append_nil]; exact hfn
  refine ⟨ds, [], p ++ [], [], p ++ [], [], hW0, ?_, ?_, ?_, (below g).frame _, fun h => by cases h⟩
  · rw [hfn', hrt]; exact trodAll_cons_mk (shut_bool htb _) trodAll_mk0
  · rw [hfn']
    rw [List.append_nil] at hlt ⊢
    exact trodAll_grow hreads.1 g hreads.2 hA hlt (fun x hx => by simpa using hlt x hx)
  · rw [hfn', hvars]; exact rfl
end post

/-- what a list of arguments is, abstractly, with blocks from the i-th on -/
def Opened (W : World) (i : Nat) (vs : List Value) (avs : List AV) (K : Know) : Prop :=
  ∃ ρ : List (Option Ref), ρ.length = K.length ∧ ∀ β : Env, (∀ j, j < ρ.length → β (i + j) = (ρ[j]?).join) →
    (∀ j b, K.at j = some b → b.own = false ∧ b.holds β W (i + j) ∧ ∀ r, β (i + j) = some r → r.blk < W.heap.size) ∧ allC β avs vs

theorem Opened.nil {W : World} {i : Nat} : Opened W i [] [] [] := ⟨[], rfl, fun β _ => ⟨fun j b h => by simp [Know.at] at h, rfl⟩⟩

theorem allC_app {β : Env} : ∀ {a b : List AV} {x y : List Value}, allC β a x → allC β b y → allC β (a ++ b) (x ++ y)
  | [], _, _, _, h, h' => by cases h; exact h'
  | _ :: _, _, _, _, ⟨v, r, hv, hc, hr⟩, h' => by subst hv; exact ⟨v, _, rfl, hc, allC_app hr h'⟩

theorem Opened.app {W : World} {i : Nat} {vs vs' : List Value} {avs avs' : List AV} {K K' : Know} (h : Opened W i vs avs K) (h' : Opened W (i + K.length) vs' avs' K') : Opened W i (vs ++ vs') (avs ++ avs') (K ++ K') := by
  obtain ⟨ρ, hl, hρ⟩ := h
  obtain ⟨ρ', hl', hρ'⟩ := h'
  refine ⟨ρ ++ ρ', by simp [hl, hl'], fun β hβ => ?_⟩
  obtain ⟨h1, h2⟩ := hρ β fun j hj => by rw [hβ j (by simp; omega), List.getElem?_append_left hj]
  obtain ⟨h3, h4⟩ := hρ' β fun j hj => by
    rw [Nat.add_assoc, hβ (K.length + j) (by simp; omega), List.getElem?_append_right (by omega)]
    congr 2; omega
  refine ⟨fun j b hb => ?_, allC_app h2 h4⟩
  by_cases hj : j < K.length
  · refine h1 j b ?_
    unfold Know.at at hb ⊢; rwa [List.getElem?_append_left hj] at hb
  · have := h3 (j - K.length) b (by unfold Know.at at hb ⊢; rwa [List.getElem?_append_right (by omega)] at hb)
    rw [show i + K.length + (j - K.length) = i + j from by omega] at this
    exact this

theorem Opened.rel {W : World} {vs : List Value} {avs : List AV} {K : Know} (h : Opened W 0 vs avs K) : ∃ β : Env, RelW W [] β K W ∧ allC β avs vs := by
  obtain ⟨ρ, hl, hρ⟩ := h
  obtain ⟨h1, h2⟩ := hρ (fun j => (ρ[j]?).join) fun j hj => by rw [Nat.zero_add]
  refine ⟨_, RelW.ofRead fun j b hj => ?_, h2⟩
  have := h1 j b hj
  rw [Nat.zero_add] at this; exact this

/-- a value without places -/
theorem Opened.val {W : World} {i : Nat} {v : Value} {x : V1} (h : ∀ β : Env, x.con β v) : Opened W i [v] [.o x] [] :=
  ⟨[], rfl, fun β _ => ⟨fun j b hb => by simp [Know.at] at hb, ⟨v, [], rfl, h β, rfl⟩⟩⟩

/-- a slice of integers -/
theorem Opened.sl {W : World} {i : Nat} {k : IntKind} {a0 : Option Addr} {len cap : Nat} {L : List Int} (hL : L.length = len) (hlc : len ≤ cap)
    (hc : 0 < cap → ∃ b off arr ty fr, a0 = some ⟨b, off, none⟩ ∧ W.heap[b]? = some (.cells arr ty fr) ∧ off + len ≤ arr.size ∧ ∀ i x, L[i]? = some x → arr[off + i]? = some (.int k x)) :
    Opened W i [.slice a0 len cap] [.o (.a (.sl i 0 len cap))] [some ⟨false, [.ints k len L]⟩] := by
  have hbk : ∀ j (bk : Blk), Know.at [some ⟨false, [.ints k len L]⟩] j = some bk → j = 0 ∧ bk = ⟨false, [.ints k len L]⟩ := by
    intro j bk hj
    match j, hj with
    | 0, hj => exact ⟨rfl, (Option.some.inj hj).symm⟩
    | j + 1, hj => simp [Know.at] at hj
  by_cases h0 : 0 < cap
  · obtain ⟨b, off, arr, ty, fr, rfl, hh, hs, hx⟩ := hc h0
    have hlt : b < W.heap.size := (Array.getElem?_eq_some_iff.1 hh).1
    refine ⟨[some ⟨b, off, arr.size⟩], rfl, fun β hβ => ?_⟩
    have hb := hβ 0 (by simp)
    rw [Nat.add_zero] at hb
    have hb : β i = some ⟨b, off, arr.size⟩ := hb
    refine ⟨fun j bk hj => ?_, _, [], rfl, ⟨_, rfl, hlc, fun _ => ⟨_, hb, rfl⟩⟩, rfl⟩
    obtain ⟨rfl, rfl⟩ := hbk j bk hj
    rw [Nat.add_zero]
    refine ⟨rfl, ⟨L.map (Value.int k), ⟨_, [], by simp, ⟨hL, rfl⟩, rfl⟩, .inr ⟨_, arr, ty, fr, hb, hh, rfl, by simp; omega, ?_, fun h => by cases h⟩⟩, fun r hr => by rw [hb] at hr; cases hr; exact hlt⟩
    intro i v hv
    rw [List.getElem?_map, Option.map_eq_some_iff] at hv
    obtain ⟨x, hx', rfl⟩ := hv
    exact hx i x hx'
  · have hn : L = [] := List.length_eq_zero_iff.1 (by omega)
    subst hn
    have hl0 : len = 0 := by omega
    subst hl0
    refine ⟨[none], rfl, fun β hβ => ?_⟩
    have hb : β i = none := hβ 0 (by simp)
    refine ⟨fun j bk hj => ?_, _, [], rfl, ⟨_, rfl, hlc, fun h => absurd h h0⟩, rfl⟩
    obtain ⟨rfl, rfl⟩ := hbk j bk hj
    rw [Nat.add_zero]
    exact ⟨rfl, ⟨[], ⟨[], [], rfl, ⟨rfl, rfl⟩, rfl⟩, .inl ⟨rfl, .inl rfl⟩⟩, fun r hr => by rw [hb] at hr; cases hr⟩

section args
variable {H : Type} {enc : TypeId × Value → H} {P : Program} {W : World} {base : Nat} {sp : Nat → Bool}

end args

/-- a law whose body answers true -/
theorem calls_true {P : Program} {T : Tab} (hT : TabOk P T) {f : FuncId} {fn : Func} (hf : P.funcs[f]? = some fn) {W : World} {vs : List Value} {avs : List AV} {K : Know} (ho : Opened W 0 vs avs K)
    (h : ∀ β : Env, Body P T fn ⟨W, [], K.length, β⟩ avs K fun ys _ => ys = [.a (.b true)]) :
    Calls P f vs.toArray W fun e W' => e = .returned (.bool true) ∧ Grow W W' := by
  obtain ⟨β, hrel, hall⟩ := ho.rel
  refine Calls.mono (calls_of_body hT hf hall hrel (h β)) fun e W' h => ?_
  obtain ⟨xs, K, v, β', hx, rfl, hv, hr, _⟩ := h
  subst hx
  have hv : [v] = [Value.bool true] := hv
  simp only [List.cons.injEq, and_true] at hv
  subst hv
  exact ⟨rfl, hr.toGrow⟩
end Go.Proofs.Ytodiojpakfjehaa.R

/- Arguments that are structs: opened cell by cell. -/
namespace Go.Proofs.Ytodiojpakfjehaa.R
open Go Go.Proofs Go.ChangeShapes Go.WideShapes Go.ChangeAt Go.RowKit Go.Proofs.Ytodiojpakfjehaa.X
set_option linter.unusedVariables false

/-- a row of cells, abstractly, with blocks from the i-th on -/
def OpenC (W : World) (i : Nat) (cs : List Value) (l : List Atom) (K : Know) : Prop :=
  ∃ ρ : List (Option Ref), ρ.length = K.length ∧ ∀ β : Env, (∀ j, j < ρ.length → β (i + j) = (ρ[j]?).join) →
    (∀ j b, K.at j = some b → b.own = false ∧ b.holds β W (i + j) ∧ ∀ r, β (i + j) = some r → r.blk < W.heap.size) ∧ cons β l cs

theorem OpenC.nil {W : World} {i : Nat} : OpenC W i [] [] [] := ⟨[], rfl, fun β _ => ⟨fun j b h => by simp [Know.at] at h, rfl⟩⟩

theorem cons_app {β : Env} : ∀ {a b : List Atom} {x y : List Value}, cons β a x → cons β b y → cons β (a ++ b) (x ++ y)
  | [], _, _, _, h, h' => by cases h; exact h'
  | _ :: _, _, _, _, ⟨v, r, hv, hc, hr⟩, h' => by subst hv; exact ⟨v, _, by rw [List.append_assoc], hc, cons_app hr h'⟩

theorem OpenC.app {W : World} {i : Nat} {vs vs' : List Value} {l l' : List Atom} {K K' : Know} (h : OpenC W i vs l K) (h' : OpenC W (i + K.length) vs' l' K') : OpenC W i (vs ++ vs') (l ++ l') (K ++ K') := by
  obtain ⟨ρ, hl, hρ⟩ := h
  obtain ⟨ρ', hl', hρ'⟩ := h'
  refine ⟨ρ ++ ρ', by simp [hl, hl'], fun β hβ => ?_⟩
  obtain ⟨h1, h2⟩ := hρ β fun j hj => by rw [hβ j (by simp; omega), List.getElem?_append_left hj]
  obtain ⟨h3, h4⟩ := hρ' β fun j hj => by
    rw [Nat.add_assoc, hβ (K.length + j) (by simp; omega), List.getElem?_append_right (by omega)]
    congr 2; omega
  refine ⟨fun j b hb => ?_, cons_app h2 h4⟩
  by_cases hj : j < K.length
  · refine h1 j b ?_
    unfold Know.at at hb ⊢; rwa [List.getElem?_append_left hj] at hb
  · have := h3 (j - K.length) b (by unfold Know.at at hb ⊢; rwa [List.getElem?_append_right (by omega)] at hb)
    rw [show i + K.length + (j - K.length) = i + j from by omega] at this
    exact this

theorem OpenC.agg {W : World} {i : Nat} {cs : Array Value} {l : List Atom} {K : Know} (h : OpenC W i cs.toList l K) : Opened W i [.agg cs] [.o (.g l)] K := by
  obtain ⟨ρ, hl, hρ⟩ := h
  refine ⟨ρ, hl, fun β hβ => ?_⟩
  obtain ⟨h1, h2⟩ := hρ β hβ
  exact ⟨h1, _, [], rfl, ⟨cs.toList, by simp, h2⟩, rfl⟩

theorem OpenC.one {W : World} {i : Nat} {v : Value} {x : Atom} {K : Know} (h : OpenC W i [v] [x] K) : Opened W i [v] [.o (.a x)] K := by
  obtain ⟨ρ, hl, hρ⟩ := h
  refine ⟨ρ, hl, fun β hβ => ?_⟩
  obtain ⟨h1, x, y, h2, h3, h4⟩ := hρ β hβ
  cases h4
  rw [List.append_nil] at h2
  subst h2
  exact ⟨h1, _, [], rfl, h3, rfl⟩

/-- cells without places -/
theorem OpenC.val {W : World} {i : Nat} {vs : List Value} {l : List Atom} (h : ∀ β : Env, cons β l vs) : OpenC W i vs l [] :=
  ⟨[], rfl, fun β _ => ⟨fun j b hb => by simp [Know.at] at hb, h β⟩⟩

section args
variable {H : Type} {enc : TypeId × Value → H} {P : Program} {W : World} {base : Nat} {sp : Nat → Bool}

theorem OpenC.ints {i : Nat} {k : IntKind} {n : Nat} {S : List Int} (h : S.length = n) : OpenC W i (S.map (Value.int k)) [.ints k n S] [] :=
  OpenC.val fun β => ⟨_, [], by simp, ⟨h, rfl⟩, rfl⟩

theorem OpenC.int {i : Nat} {k : IntKind} {n : Int} : OpenC W i [.int k n] [.i k n] [] := OpenC.val fun β => ⟨_, [], by simp, rfl, rfl⟩

end args
end Go.Proofs.Ytodiojpakfjehaa.R

/- Arguments that are slices of whatever: their cells as values. -/
namespace Go.Proofs.Ytodiojpakfjehaa.R
open Go Go.Proofs Go.ChangeShapes Go.WideShapes Go.ChangeAt Go.RowKit Go.Proofs.Ytodiojpakfjehaa.X
set_option linter.unusedVariables false

theorem vals_open {W : World} {i : Nat} {a0 : Option Addr} {len cap N : Nat} {L : List Value} (hL : L.length = N) (hlc : len ≤ cap) (hone : ∀ v ∈ L, v.oneCell' = true) (h0 : cap = 0 → N = 0)
    (hc : 0 < cap → ∃ b off arr ty fr, a0 = some ⟨b, off, none⟩ ∧ W.heap[b]? = some (.cells arr ty fr) ∧ off + N ≤ arr.size ∧ ∀ i x, L[i]? = some x → arr[off + i]? = some x) :
    Opened W i [.slice a0 len cap] [.o (.a (.sl i 0 len cap))] [some ⟨false, [.vals N L]⟩] := by
  have hbk : ∀ j (bk : Blk), Know.at [some ⟨false, [.vals N L]⟩] j = some bk → j = 0 ∧ bk = ⟨false, [.vals N L]⟩ := by
    intro j bk hj
    match j, hj with
    | 0, hj => exact ⟨rfl, (Option.some.inj hj).symm⟩
    | j + 1, hj => simp [Know.at] at hj
  by_cases hcap : 0 < cap
  · obtain ⟨b, off, arr, ty, fr, rfl, hh, hs, hx⟩ := hc hcap
    have hlt : b < W.heap.size := (Array.getElem?_eq_some_iff.1 hh).1
    refine ⟨[some ⟨b, off, arr.size⟩], rfl, fun β hβ => ?_⟩
    have hb := hβ 0 (by simp)
    rw [Nat.add_zero] at hb
    have hb : β i = some ⟨b, off, arr.size⟩ := hb
    refine ⟨fun j bk hj => ?_, _, [], rfl, ⟨_, rfl, hlc, fun _ => ⟨_, hb, rfl⟩⟩, rfl⟩
    obtain ⟨rfl, rfl⟩ := hbk j bk hj
    rw [Nat.add_zero]
    exact ⟨rfl, ⟨L, ⟨_, [], by simp, ⟨hL, rfl, hone⟩, rfl⟩, .inr ⟨_, arr, ty, fr, hb, hh, rfl, by simp; omega, hx, fun h => by cases h⟩⟩, fun r hr => by rw [hb] at hr; cases hr; exact hlt⟩
  · have hN : N = 0 := h0 (by omega)
    have hn : L = [] := List.length_eq_zero_iff.1 (by omega)
    subst hn
    refine ⟨[none], rfl, fun β hβ => ?_⟩
    have hb : β i = none := hβ 0 (by simp)
    refine ⟨fun j bk hj => ?_, _, [], rfl, ⟨_, rfl, hlc, fun h => absurd h hcap⟩, rfl⟩
    obtain ⟨rfl, rfl⟩ := hbk j bk hj
    rw [Nat.add_zero]
    exact ⟨rfl, ⟨[], ⟨[], [], rfl, ⟨hL, rfl, by simp⟩, rfl⟩, .inl ⟨rfl, .inl rfl⟩⟩, fun r hr => by rw [hb] at hr; cases hr⟩

section args
variable {H : Type} {enc : TypeId × Value → H} {P : Program} {W : World} {base : Nat}

/-- a slice's cells, all its room -/
theorem slice_cells {t e : TypeId} {fuel : Nat} {cs : List Value} {x : DataW H × List MemPlace} (ht : P.underlying t = some (.slice e)) (hpos : 0 < P.cellsOf e) (h : DataW.trod enc P W 0 (fun _ => true) true fuel t cs = some x) :
    (cs = [.slice none 0 0] ∧ x.1 = .nil) ∨
    ∃ (a : Addr) (len cap n : Nat) (xs rest : List (DataW H × List MemPlace)) (A : List Value), cs = [.slice (some a) len cap] ∧ x.1 = .slice (xs.map (·.1)) (rest.map (·.1)) ∧ len ≤ cap ∧ cap ≤ maxLen ∧ xs.length = len ∧ A.length = cap * P.cellsOf e ∧
      (∀ i, i < cap * P.cellsOf e → W.cell? (a.add i) = A[i]?) ∧ ∀ i, i < cap → ∃ y, DataW.trod enc P W 0 (fun _ => true) true n e ((A.drop (i * P.cellsOf e)).take (P.cellsOf e)) = some y ∧ (i < len → xs[i]? = some y) := by
  rcases DataW.trod_slice ht h with ⟨h1, rfl⟩ | ⟨a, len, cap, elems, rest, n, _, rfl, rfl, _, hl, hm, hlen, hel, hsp, _⟩
  · exact .inl ⟨h1, rfl⟩
  obtain ⟨hrl, hr⟩ := hsp rfl
  have each : ∀ i, i < cap → ∃ y, (W.cells? 0 (a.add (i * P.cellsOf e)) (P.cellsOf e)).bind (DataW.trod enc P W 0 (fun _ => true) true n e) = some y ∧ (i < len → elems[i]? = some y) := by
    intro i hi
    by_cases h1 : i < len
    · have h2 : i < elems.length := by omega
      exact ⟨elems[i], by rw [hel i h1, List.getElem?_eq_getElem h2], fun _ => List.getElem?_eq_getElem h2⟩
    · have h2 : i - len < rest.length := by omega
      have := hr (i - len) (by omega)
      rw [show len + (i - len) = i by omega] at this
      exact ⟨rest[i - len], by rw [this, List.getElem?_eq_getElem h2], fun h => absurd h h1⟩
  have some_ : ∀ i, i < cap * P.cellsOf e → ∃ v, W.cell? (a.add i) = some v := by
    intro i hi
    have hq : i / P.cellsOf e < cap := (Nat.div_lt_iff_lt_mul hpos).2 hi
    obtain ⟨y, hy, _⟩ := each _ hq
    rw [Option.bind_eq_some_iff] at hy
    obtain ⟨ds, hds, _⟩ := hy
    obtain ⟨_, h2, h3⟩ := World.cells?_some hds
    have h4 := h3 (i % P.cellsOf e) (Nat.mod_lt _ hpos)
    rw [Addr.add_add, show i / P.cellsOf e * P.cellsOf e + i % P.cellsOf e = i from Nat.div_add_mod' _ _] at h4
    have h5 : i % P.cellsOf e < ds.length := by rw [h2]; exact Nat.mod_lt _ hpos
    exact ⟨ds[i % P.cellsOf e], by rw [h4, List.getElem?_eq_getElem h5]⟩
  refine .inr ⟨a, len, cap, n, elems, rest, (List.range (cap * P.cellsOf e)).map fun i => (W.cell? (a.add i)).getD undef, rfl, rfl, hl, hm, hlen, by simp, ?_, ?_⟩
  · intro i hi
    obtain ⟨v, hv⟩ := some_ i hi
    rw [List.getElem?_map, List.getElem?_range hi, hv]
    simp [hv]
  · intro i hi
    obtain ⟨y, hy, hy2⟩ := each i hi
    refine ⟨y, ?_, hy2⟩
    rw [Option.bind_eq_some_iff] at hy
    obtain ⟨ds, hds, hy3⟩ := hy
    obtain ⟨_, h2, h3⟩ := World.cells?_some hds
    have hle : i * P.cellsOf e + P.cellsOf e ≤ cap * P.cellsOf e := by
      have := Nat.mul_le_mul_right (P.cellsOf e) (Nat.succ_le_of_lt hi)
      rw [Nat.succ_mul] at this; exact this
    have : ((((List.range (cap * P.cellsOf e)).map fun i => (W.cell? (a.add i)).getD undef).drop (i * P.cellsOf e)).take (P.cellsOf e)) = ds := by
      refine List.ext_getElem? fun j => ?_
      by_cases hj : j < P.cellsOf e
      · rw [List.getElem?_take_of_lt hj, List.getElem?_drop, List.getElem?_map, List.getElem?_range (by omega)]
        have h4 := h3 j hj
        rw [Addr.add_add] at h4
        have h5 : j < ds.length := by omega
        simp only [Option.map_some]
        rw [h4, List.getElem?_eq_getElem h5]; rfl
      · rw [List.getElem?_eq_none (by simp; omega), List.getElem?_eq_none (by omega)]
    rw [this]; exact hy3

/-- a slice whose elements have c cells, opened -/
theorem vals_arg {t e : TypeId} {c : Nat} {v : Value} {d : DataW H} {p : List MemPlace} (ht : P.underlying t = some (.slice e)) (hcc : P.cellsOf e = c) (hpos : 0 < c)
    (hone : ∀ (n : Nat) (cs : List Value) (y : DataW H × List MemPlace), DataW.trod enc P W 0 (fun _ => true) true n e cs = some y → ∀ v ∈ cs, v.oneCell' = true)
    (hval : Value.okWide P W .any base t v) (h : DataW.Trod enc P W 0 (fun _ => true) true t v d p) :
    ∃ (len cap : Nat) (L : List Value), L.length = len * c ∧ len ≤ cap ∧ (∀ i, Opened W i [v] [.o (.a (.sl i 0 len cap))] [some ⟨false, [.vals (len * c) L]⟩]) ∧
      ((d = .nil ∧ len = 0) ∨ ∃ (n : Nat) (xs : List (DataW H × List MemPlace)) (s : List (DataW H)), d = .slice (xs.map (·.1)) s ∧ xs.length = len ∧
        ∀ i, i < len → ∃ y, DataW.trod enc P W 0 (fun _ => true) true n e ((L.drop (i * c)).take c) = some y ∧ xs[i]? = some y) := by
  subst hcc
  obtain ⟨a0, len, cap, rfl⟩ := okWide_slice ht hval
  obtain ⟨fuel, hf⟩ := h
  rcases slice_cells ht hpos hf with ⟨hcs, hx⟩ | ⟨a, len', cap', n, xs, rest, A, hcs, hx, hl, hm, hxl, hAl, hcell, hel⟩
  · simp [Value.cells] at hcs
    obtain ⟨rfl, rfl, rfl⟩ := hcs
    exact ⟨0, 0, [], by simp, Nat.le_refl _, fun i => vals_open (by simp) (Nat.le_refl _) (by simp) (fun _ => by simp) (fun h => absurd h (by omega)), .inl ⟨hx, rfl⟩⟩
  · simp [Value.cells] at hcs
    obtain ⟨rfl, rfl, rfl⟩ := hcs
    have hle : len * P.cellsOf e ≤ cap * P.cellsOf e := Nat.mul_le_mul_right _ hl
    refine ⟨len, cap, A.take (len * P.cellsOf e), by simp; omega, hl, fun i => vals_open (by simp; omega) hl ?_ ?_ fun hcap => ?_, .inr ⟨n, xs, _, hx, hxl, ?_⟩⟩
    · intro v hv
      obtain ⟨j, hj⟩ := List.getElem?_of_mem hv
      rw [List.getElem?_take] at hj
      split at hj
      · rename_i hjl
        have hq : j / P.cellsOf e < cap := (Nat.div_lt_iff_lt_mul hpos).2 (by omega)
        obtain ⟨y, hy, _⟩ := hel _ hq
        refine hone _ _ _ hy v (List.mem_of_getElem? (i := j % P.cellsOf e) ?_)
        rw [List.getElem?_take_of_lt (Nat.mod_lt _ hpos), List.getElem?_drop, Nat.div_add_mod']; exact hj
      · cases hj
    · intro hc0; have : len = 0 := by omega
      rw [this, Nat.zero_mul]
    · have hp : 0 < cap * P.cellsOf e := Nat.mul_pos hcap hpos
      have h0 := hcell 0 hp
      obtain ⟨v0, hv0⟩ : ∃ v0, A[0]? = some v0 := ⟨A[0], List.getElem?_eq_getElem (by omega)⟩
      rw [hv0] at h0
      obtain ⟨b, off, spot⟩ := a
      have hspot : spot = none := by simpa [Addr.add] using World.cell?_spot h0
      subst hspot
      have hc2 : ∀ j, j < cap * P.cellsOf e → W.cell? ⟨b, off + j, none⟩ = A[j]? := fun j hj => by rw [← Go.WideShapes.add_plain]; exact hcell j hj
      have h00 := hc2 0 hp
      rw [hv0] at h00
      unfold World.cell? at h00
      split at h00
      · rename_i arr ty fr hh
        have hget : ∀ j, j < cap * P.cellsOf e → arr[off + j]? = A[j]? := by
          intro j hj
          have h1 := hc2 j hj
          unfold World.cell? at h1
          rw [hh] at h1
          simpa using h1
        refine ⟨b, off, arr, ty, fr, rfl, hh, ?_, ?_⟩
        · by_cases hz : len * P.cellsOf e = 0
          · have := (Array.getElem?_eq_some_iff.1 ((hget 0 hp).trans hv0)).1
            omega
          · have h1 := hget (len * P.cellsOf e - 1) (by omega)
            rw [List.getElem?_eq_getElem (by omega)] at h1
            have := (Array.getElem?_eq_some_iff.1 h1).1
            omega
        · intro i x hix
          rw [List.getElem?_take] at hix
          split at hix
          · rw [hget i (by omega), hix]
          · cases hix
      · cases h00
    · intro i hi
      obtain ⟨y, hy, hy2⟩ := hel i (by omega)
      refine ⟨y, ?_, hy2 hi⟩
      rw [← hy]
      congr 1
      refine List.ext_getElem? fun j => ?_
      by_cases hj : j < P.cellsOf e
      · rw [List.getElem?_take_of_lt hj, List.getElem?_take_of_lt hj, List.getElem?_drop, List.getElem?_drop, List.getElem?_take_of_lt]
        have := Nat.mul_le_mul_right (P.cellsOf e) (Nat.succ_le_of_lt hi)
        rw [Nat.succ_mul] at this; omega
      · rw [List.getElem?_eq_none (by simp; omega), List.getElem?_eq_none (by simp; omega)]

end args
end Go.Proofs.Ytodiojpakfjehaa.R

/- Arguments that are slices of arrays of whole numbers. -/
namespace Go.Proofs.Ytodiojpakfjehaa.R
open Go Go.Proofs Go.ChangeShapes Go.WideShapes Go.ChangeAt Go.RowKit Go.Proofs.Ytodiojpakfjehaa.X
set_option linter.unusedVariables false

theorem vals_ints {W : World} {i m : Nat} {v : Value} {x : AV} {k : IntKind} {L : List Value} {l : List Int} (hL : L = l.map (Value.int k)) (h : Opened W i [v] [x] [some ⟨false, [.vals m L]⟩]) : Opened W i [v] [x] [some ⟨false, [.ints k m l]⟩] := by
  obtain ⟨ρ, hl, hρ⟩ := h
  refine ⟨ρ, hl, fun β hβ => ?_⟩
  obtain ⟨hb, ha⟩ := hρ β hβ
  refine ⟨fun j b hj => ?_, ha⟩
  have hj0 : j = 0 ∧ b = ⟨false, [.ints k m l]⟩ := by
    match j, hj with
    | 0, hj => exact ⟨rfl, (Option.some.inj hj).symm⟩
    | j + 1, hj => simp [Know.at] at hj
  obtain ⟨rfl, rfl⟩ := hj0
  obtain ⟨_, hh, hlt⟩ := hb 0 ⟨false, [.vals m L]⟩ rfl
  refine ⟨rfl, ?_, hlt⟩
  obtain ⟨cs, hc, hr⟩ := hh
  refine ⟨cs, ?_, hr⟩
  obtain ⟨a, b, rfl, hx, hy⟩ := hc
  refine ⟨a, b, rfl, ?_, hy⟩
  obtain ⟨h1, h2, _⟩ := hx
  exact ⟨by rw [← h1, hL, List.length_map], by rw [h2, hL]⟩

variable {H : Type} {enc : TypeId × Value → H} {P : Program} {W : World} {base : Nat}

theorem arr_ints {e b : TypeId} {k : IntKind} {z : Nat} (he : P.underlying e = some (.array z b)) (hb : P.underlying b = some (.int k)) (hcb : P.cellsOf b = 1) (hce : P.cellsOf e = z)
    {n : Nat} {cs : List Value} {y : DataW H × List MemPlace} (h : DataW.trod enc P W 0 (fun _ => true) true n e cs = some y) : ∀ v ∈ cs, ∃ x, v = .int k x ∧ (Lit.int k x).wf = true := by
  obtain ⟨xs, m, rfl, _, hlen, hxl, hel⟩ := DataW.trod_array he h
  intro v hv
  obtain ⟨j, hj⟩ := List.getElem?_of_mem hv
  have hjl : j < z := by
    have := (List.getElem?_eq_some_iff.1 hj).1
    omega
  have h1 := hel j hjl
  rw [hcb, Nat.mul_one] at h1
  have hjx : j < xs.length := by omega
  rw [List.getElem?_eq_getElem hjx] at h1
  obtain ⟨x, hx, _, hw⟩ := DataW.trod_int hb h1
  refine ⟨x, ?_, hw⟩
  have := congrArg (·[0]?) hx
  have e : cs[j]? = some (.int k x) := by simpa [List.getElem?_take, List.getElem?_drop] using this
  rw [hj] at e
  exact Option.some.inj e

def toI : Value → Int
  | .int _ x => x
  | _ => 0

/-- a slice of arrays of whole numbers, opened -/
theorem arrs_arg {t e b : TypeId} {k : IntKind} {z : Nat} {v : Value} {d : DataW H} {p : List MemPlace} (ht : P.underlying t = some (.slice e)) (he : P.underlying e = some (.array z b)) (hb : P.underlying b = some (.int k)) (hcb : P.cellsOf b = 1) (hce : P.cellsOf e = z) (hz : 0 < z)
    (hval : Value.okWide P W .any base t v) (h : DataW.Trod enc P W 0 (fun _ => true) true t v d p) :
    ∃ (len cap : Nat) (L : List Int), L.length = len * z ∧ len ≤ cap ∧ (∀ x ∈ L, (Lit.int k x).wf = true) ∧ (∀ i, Opened W i [v] [.o (.a (.sl i 0 len cap))] [some ⟨false, [.ints k (len * z) L]⟩]) ∧
      ((d = .nil ∧ len = 0) ∨ ∃ (xs s : List (DataW H)), d = .slice xs s ∧ xs.length = len) := by
  obtain ⟨len, cap, L, hl, hlc, ho, hd⟩ := vals_arg (c := z) ht hce hz (fun n cs y h v hv => by obtain ⟨x, rfl, _⟩ := arr_ints he hb hcb hce h v hv; rfl) hval h
  have key : ∀ v ∈ L, ∃ x, v = .int k x ∧ (Lit.int k x).wf = true := by
    intro v hv
    rcases hd with ⟨_, h0⟩ | ⟨n, xs, s, _, _, hx⟩
    · subst h0
      rw [Nat.zero_mul] at hl
      rw [List.length_eq_zero_iff.1 hl] at hv
      cases hv
    · obtain ⟨j, hj⟩ := List.getElem?_of_mem hv
      have hjl := (List.getElem?_eq_some_iff.1 hj).1
      have hq : j / z < len := (Nat.div_lt_iff_lt_mul hz).2 (by omega)
      obtain ⟨y, hy, _⟩ := hx _ hq
      refine arr_ints he hb hcb hce hy v (List.mem_of_getElem? (i := j % z) ?_)
      rw [List.getElem?_take_of_lt (Nat.mod_lt _ hz), List.getElem?_drop, Nat.div_add_mod']; exact hj
  have hmap : L = (L.map toI).map (Value.int k) := by
    rw [List.map_map]
    conv => lhs; rw [← List.map_id L]
    refine List.map_congr_left fun v hv => ?_
    obtain ⟨x, rfl, _⟩ := key v hv
    rfl
  refine ⟨len, cap, L.map toI, by rw [List.length_map]; exact hl, hlc, ?_, fun i => vals_ints hmap (ho i), ?_⟩
  · intro x hx
    obtain ⟨v, hv, rfl⟩ := List.mem_map.1 hx
    obtain ⟨y, rfl, hw⟩ := key v hv
    exact hw
  · rcases hd with h | ⟨n, xs, s, h1, h2, _⟩
    · exact .inl h
    · exact .inr ⟨xs.map (·.1), s, h1, by rw [List.length_map]; exact h2⟩
end Go.Proofs.Ytodiojpakfjehaa.R

/- A row that grows while its older view is read on: its room laid open; laid still. -/
namespace Go.Proofs.Ytodiojpakfjehaa.X
open Go
set_option linter.unusedVariables false

theorem RelW.rehold {w0 : World} {rw : List Nat} {β : Env} {K : Know} {w : World} (h : RelW w0 rw β K w) {j : Nat} {b : Blk} (hb : K.at j = some b) {own : Bool} {cells : List Atom} (ho : own = true → b.own = true) (hn : Blk.holds β w j ⟨own, cells⟩) :
    RelW w0 rw β (K.set1 j (some ⟨own, cells⟩)) w := by
  have hat : ∀ x c, (K.set1 j (some ⟨own, cells⟩)).at x = some c → (∃ d, K.at x = some d ∧ (c.own = true → d.own = true)) ∧ c.holds β w x := by
    intro x c hx
    rw [Know.at_set1] at hx
    split at hx
    · rename_i e; subst e; simp only [Option.some.injEq] at hx; subst hx; exact ⟨⟨b, hb, ho⟩, hn⟩
    · exact ⟨⟨c, hx, id⟩, h.holds x c hx⟩
  refine ⟨fun x c hx => (hat x c hx).2, ?_, ?_, ?_, h.old, h.size, h.os, h.tape, h.output⟩
  · intro x y c d r s hx hy ho
    obtain ⟨c', hc', ho'⟩ := (hat x c hx).1
    obtain ⟨d', hd', _⟩ := (hat y d hy).1
    exact h.apart x y c' d' r s hc' hd' (ho' ho)
  · intro x c r hx ho
    obtain ⟨c', hc', ho'⟩ := (hat x c hx).1
    exact h.mine x c' r hc' (ho' ho)
  · intro x c r hx
    obtain ⟨c', hc', _⟩ := (hat x c hx).1
    exact h.live x c' r hc'

/-- a row's room: so many more cells, whatever lies there -/
theorem Rel.opened {B : Bs} {β : Env} {slots : List AV} {K : Know} {a : Act} {w : World} (h : Rel B β ⟨slots, K⟩ a w) {t j c len z : Nat} (hs : slots.getD t .u = .o (.a (.rs j c len z))) {cells : List Atom} (hj : K.at j = some ⟨true, cells⟩)
    (hz : sizes cells = c + len * z) :
    ∃ cap J, len ≤ cap ∧ J.length = (cap - len) * z ∧ Rel B β ⟨slots.set t (.o (.a (.sl j c len cap))), K.set1 j (some ⟨true, cells ++ [.vals ((cap - len) * z) J]⟩)⟩ a w := by
  have hx := h.slot t
  simp only at hx
  rw [hs] at hx
  obtain ⟨base, cap, hv, hlc, hbase⟩ := hx
  simp only [List.cons.injEq, and_true] at hv
  obtain ⟨cs, hc, hd⟩ := h.relw.holds j _ hj
  change cons β cells cs at hc
  have hlen := cons_len hc
  rw [hz] at hlen
  have key : ∃ J : List Value, J.length = (cap - len) * z ∧ Blk.holds β w j ⟨true, cells ++ [.vals ((cap - len) * z) J]⟩ := by
    by_cases h0 : cap = 0
    · refine ⟨[], by subst h0; simp, cs, ?_, hd⟩
      have := cons_append (m := [.vals ((cap - len) * z) []]) (ds := []) hc ⟨[], [], rfl, ⟨by subst h0; simp, rfl, fun _ h => by cases h⟩, rfl⟩
      simpa using this
    · obtain ⟨r, hr, _, hroom⟩ := hbase (by omega)
      rcases hd with ⟨_, h2⟩ | ⟨r', arr, ty, fr, hr', hh, hsz, hl, ha, hf⟩
      · rcases h2 with h2 | h2
        · cases h2
        · rw [hr] at h2; cases h2
      · rw [hr] at hr'; cases hr'
        have hm : len * z + (cap - len) * z = cap * z := by rw [← Nat.add_mul]; congr 1; omega
        have hJl : ((arr.toList.drop (r.off + (c + len * z))).take ((cap - len) * z)).length = (cap - len) * z := by
          simp only [List.length_take, List.length_drop, Array.length_toList]; omega
        refine ⟨_, hJl, cs ++ _, cons_append hc (cons_single.2 ⟨hJl, rfl, fun v hv => (hf rfl).2 v (List.mem_of_mem_drop (List.mem_of_mem_take hv))⟩), .inr ⟨r, arr, ty, fr, hr, hh, hsz, ?_, ?_, hf⟩⟩
        · rw [List.length_append, hJl]; omega
        · intro i v hv
          by_cases hi : i < cs.length
          · rw [List.getElem?_append_left hi] at hv; exact ha i v hv
          · rw [List.getElem?_append_right (by omega), List.getElem?_take] at hv
            split at hv
            · rw [List.getElem?_drop, hlen] at hv
              rw [← hv, Array.getElem?_toList]
              congr 1; omega
            · cases hv
  obtain ⟨J, hJ, hhold⟩ := key
  refine ⟨cap, J, hlc, hJ, ?_⟩
  have h1 : Rel B β ⟨slots, K.set1 j (some ⟨true, cells ++ [.vals ((cap - len) * z) J]⟩)⟩ a w := ⟨h.relw.rehold hj (fun _ => rfl) hhold, h.defers, h.size, h.slot, h.fix, Nat.le_trans h.len (set1_length _ _ _)⟩
  exact h1.setSlot (t := t) (x := .o (.a (.sl j c len cap))) ⟨base, by rw [hv], hlc, fun hp => by obtain ⟨r, h1, h2, _⟩ := hbase hp; exact ⟨r, h1, h2⟩⟩

/-- cells of which the first ones are told -/
def Pre (β : Env) (cells c1 : List Atom) : Prop := ∀ cs, cons β cells cs → ∃ x y, cs = x ++ y ∧ cons β c1 x
theorem Pre.ints {β : Env} {k : IntKind} {n m : Nat} {L : List Int} (h : m ≤ n) (r : List Atom) : Pre β (.ints k n L :: r) [.ints k m (L.take m)] := by
  rintro cs ⟨x, y, rfl, ⟨hl, rfl⟩, _⟩
  refine ⟨(L.take m).map (Value.int k), (L.drop m).map (Value.int k) ++ y, ?_, cons_single.2 ⟨by simp; omega, rfl⟩⟩
  rw [← List.append_assoc, ← List.map_append, List.take_append_drop]
theorem Pre.all {β : Env} {k : IntKind} {n : Nat} {L : List Int} (r : List Atom) : Pre β (.ints k n L :: r) [.ints k n L] := by
  rintro cs ⟨x, y, rfl, h, _⟩
  exact ⟨x, y, rfl, cons_single.2 h⟩
theorem Pre.pref {β : Env} {k : IntKind} {n m : Nat} {L L' : List Int} (h : ∃ t, L' = L ++ t) (hl : L.length = m) (r : List Atom) : Pre β (.ints k n L' :: r) [.ints k m L] := by
  obtain ⟨t, rfl⟩ := h
  rintro cs ⟨x, y, rfl, ⟨_, rfl⟩, _⟩
  exact ⟨L.map (Value.int k), t.map (Value.int k) ++ y, by simp, cons_single.2 ⟨hl, rfl⟩⟩
theorem Rel.cast {B : Bs} {β : Env} {s s' : St} {a : Act} {w : World} (h : Rel B β s a w) (e : s = s') : Rel B β s' a w := e ▸ h
theorem Pre.holds {β : Env} {w : World} {j : Nat} {own : Bool} {cells c1 : List Atom} (hp : Pre β cells c1) (h : Blk.holds β w j ⟨own, cells⟩) : Blk.holds β w j ⟨false, c1⟩ := by
  obtain ⟨cs, hc, hd⟩ := h
  obtain ⟨x, y, rfl, hx⟩ := hp cs hc
  refine ⟨x, hx, ?_⟩
  rcases hd with ⟨h1, _⟩ | ⟨r, arr, ty, fr, hr, hh, hsz, hl, ha, _⟩
  · exact .inl ⟨(List.append_eq_nil_iff.1 h1).1, .inl rfl⟩
  · refine .inr ⟨r, arr, ty, fr, hr, hh, hsz, ?_, ?_, fun h => by cases h⟩
    · rw [List.length_append] at hl; omega
    · intro i v hv
      exact ha i v (by rw [List.getElem?_append_left (List.getElem?_eq_some_iff.1 hv).1]; exact hv)

/-- a block is read only from now on -/
theorem Rel.stilled {B : Bs} {β : Env} {slots : List AV} {K : Know} {a : Act} {w : World} (h : Rel B β ⟨slots, K⟩ a w) {j : Nat} {b : Blk} (hj : K.at j = some b) {c1 : List Atom} (hp : Pre β b.cells c1) :
    Rel B β ⟨slots, K.set1 j (some ⟨false, c1⟩)⟩ a w :=
  ⟨h.relw.rehold hj (fun h => by cases h) (hp.holds (own := b.own) (h.relw.holds j b hj)), h.defers, h.size, h.slot, h.fix, Nat.le_trans h.len (set1_length _ _ _)⟩

/-- a slice gets a block of its own to read from, which may be the same memory -/
theorem Rel.twin {B : Bs} {β : Env} {slots : List AV} {K : Know} {a : Act} {w : World} (h : Rel B β ⟨slots, K⟩ a w) (hn : K.nom K.length (K.length + 1) = true) (hsn : slots.all (AV.nom K.length (K.length + 1)) = true)
    {t j c len cap z : Nat} (hs : slots.getD t .u = .o (.a (.sl j c len cap))) {cells : List Atom} (hj : K.at j = some ⟨true, cells⟩) (hz : c + cap * z ≤ sizes cells) {c1 c2 : List Atom} (hp1 : Pre β cells c1) (hp2 : Pre β cells c2) (hn1 : nomL K.length (K.length + 1) c1 = true) (hn2 : nomL K.length (K.length + 1) c2 = true) :
    Rel B (β.upd K.length (β j)) ⟨slots.set t (.o (.a (.rs K.length c len z))), K.set1 j (some ⟨false, c1⟩) ++ [some ⟨false, c2⟩]⟩ a w := by
  have hjl : j < K.length := by
    unfold Know.at at hj
    rcases Nat.lt_or_ge j K.length with h | h
    · exact h
    · rw [List.getElem?_eq_none h] at hj; cases hj
  have hset : (K.set1 j (some ⟨false, c1⟩)).length = K.length := by unfold Know.set1; rw [if_pos hjl, List.length_set]
  have hag := Env.agree_upd β K.length (β j)
  have hself : (β.upd K.length (β j)) K.length = β j := by unfold Env.upd; rw [if_pos rfl]
  have hoth : ∀ t, t < K.length → (β.upd K.length (β j)) t = β t := fun t ht => by unfold Env.upd; rw [if_neg (by omega)]
  have hold := h.relw.holds j _ hj
  have h1 := h.stilled hj hp1
  have hK1 : (K.set1 j (some ⟨false, c1⟩)).nom K.length (K.length + 1) = true := Know.set1_nom hn j _ hn1
  have hat : ∀ x b, Know.at (K.set1 j (some ⟨false, c1⟩) ++ [some ⟨false, c2⟩]) x = some b → (x < K.length ∧ (K.set1 j (some ⟨false, c1⟩)).at x = some b) ∨ (x = K.length ∧ b = ⟨false, c2⟩) := by
    intro x b hb
    rcases at_append1 hb with ⟨h1, h2⟩ | ⟨h1, h2⟩
    · exact .inl ⟨by omega, h2⟩
    · exact .inr ⟨by omega, (Option.some.inj h2).symm⟩
  have hlive : ∀ r, β j = some r → r.blk < w.heap.size := fun r hr => h.relw.live j _ r hj hr
  have hR : Rel B (β.upd K.length (β j)) ⟨slots, K.set1 j (some ⟨false, c1⟩) ++ [some ⟨false, c2⟩]⟩ a w := by
    refine ⟨⟨?_, ?_, ?_, ?_, h.relw.old, h.relw.size, h.relw.os, h.relw.tape, h.relw.output⟩, h.defers, h.size, ?_, ?_, ?_⟩
    · intro x b hb
      rcases hat x b hb with ⟨hx, hb⟩ | ⟨rfl, rfl⟩
      · obtain ⟨cs, k1, k2⟩ := h1.relw.holds x b hb
        refine ⟨cs, cons_agree hag (Know.nom_at hK1 hb) k1, ?_⟩
        rw [hoth x hx]; exact k2
      · obtain ⟨cs, k1, k2⟩ := hp2.holds (own := true) hold
        refine ⟨cs, cons_agree hag hn2 k1, ?_⟩
        rcases k2 with ⟨k2, _⟩ | ⟨r, arr, ty, fr, hr, rest⟩
        · exact .inl ⟨k2, .inl rfl⟩
        · exact .inr ⟨r, arr, ty, fr, by rw [hself]; exact hr, rest⟩
    · intro x y b d r s hx hy ho hne e1 e2
      rcases hat x b hx with ⟨hx', hb⟩ | ⟨rfl, rfl⟩
      · rw [hoth _ hx'] at e1
        rcases hat y d hy with ⟨hy', hd⟩ | ⟨rfl, rfl⟩
        · rw [hoth _ hy'] at e2
          exact h1.relw.apart x y b d r s hb hd ho hne e1 e2
        · rw [hself] at e2
          have hxj : x ≠ j := fun e => by subst e; rw [Know.at_set1, if_pos rfl] at hb; cases hb; cases ho
          refine h1.relw.apart x j b ⟨false, c1⟩ r s hb ?_ ho hxj e1 e2
          rw [Know.at_set1, if_pos rfl]
      · cases ho
    · intro x b r hx ho e1
      rcases hat x b hx with ⟨hx', hb⟩ | ⟨rfl, rfl⟩
      · rw [hoth _ hx'] at e1; exact h1.relw.mine x b r hb ho e1
      · cases ho
    · intro x b r hx e1
      rcases hat x b hx with ⟨hx', hb⟩ | ⟨rfl, rfl⟩
      · rw [hoth _ hx'] at e1; exact h1.relw.live x b r hb e1
      · rw [hself] at e1; exact hlive r e1
    · intro s
      exact AV.con_agree hag (slots_nom (st := ⟨slots, K⟩) hsn s) (h.slot s)
    · intro s hs
      rw [hoth s (Nat.lt_of_lt_of_le hs h.len)]; exact h.fix s hs
    · have := h.len; simp only [List.length_append, hset] at *; simp; omega
  refine hR.setSlot (t := t) (x := .o (.a (.rs K.length c len z))) ?_
  have hx := h.slot t
  simp only at hx
  rw [hs] at hx
  obtain ⟨base, hv, hlc, hbase⟩ := hx
  refine ⟨base, cap, hv, hlc, fun hp => ?_⟩
  obtain ⟨r, hr, hb⟩ := hbase hp
  refine ⟨r, by rw [hself]; exact hr, hb, ?_⟩
  obtain ⟨cs, hc, hd⟩ := hold
  change cons β cells cs at hc
  have hlen := cons_len hc
  rcases hd with ⟨_, h2⟩ | ⟨r', arr, ty, fr, hr', hh, hsz, hl, ha, hf⟩
  · rcases h2 with h2 | h2
    · cases h2
    · rw [hr] at h2; cases h2
  · rw [hr] at hr'; cases hr'
    omega
end Go.Proofs.Ytodiojpakfjehaa.X

/- Printed by a tool of this session. -/
namespace Go.Proofs.Ytodiojpakfjehaa.X
open Go Go.Proofs
set_option linter.unusedVariables false
set_option linter.unusedSimpArgs false
set_option maxRecDepth 100000
theorem teSA_3 : TEOk Try.prog 3 ⟨.int .i64, 1, 8, [.i .i64 (0 : Int)], false⟩ :=
  TEOk.of Try.underlying3 (i := Try.t3) (by kernel_rfl) rfl rfl rfl (by kernel_rfl) (fun h => by cases h) (by kernel_rfl)
theorem teSA_5 : TEOk Try.prog 5 ⟨.int .u8, 1, 1, [.i .u8 (0 : Int)], false⟩ :=
  TEOk.of Try.underlying5 (i := Try.t5) (by kernel_rfl) rfl rfl rfl (by kernel_rfl) (fun h => by cases h) (by kernel_rfl)
theorem teSA_23 : TEOk Try.prog 23 ⟨.array 32 5, 32, 32, [.ints .u8 (32 : Nat) ([0, 0, 0, 0, 0, 0, 0, 0, 0, 0, 0, 0, 0, 0, 0, 0, 0, 0, 0, 0, 0, 0, 0, 0, 0, 0, 0, 0, 0, 0, 0, 0] : List Int)], true⟩ :=
  TEOk.of Try.underlying23 (i := Try.t23) (by kernel_rfl) rfl rfl rfl (by kernel_rfl) (fun _ => Try.eqGuardType23) (by kernel_rfl)
noncomputable def tabSA : List (Nat × TE) := [(3, ⟨.int .i64, 1, 8, [.i .i64 (0 : Int)], false⟩), (5, ⟨.int .u8, 1, 1, [.i .u8 (0 : Int)], false⟩), (23, ⟨.array 32 5, 32, 32, [.ints .u8 (32 : Nat) ([0, 0, 0, 0, 0, 0, 0, 0, 0, 0, 0, 0, 0, 0, 0, 0, 0, 0, 0, 0, 0, 0, 0, 0, 0, 0, 0, 0, 0, 0, 0, 0] : List Int)], true⟩)]
theorem tabOkSA : TabOk Try.prog (tabOf tabSA) := (tabOf_cons teSA_3 (tabOf_cons teSA_5 (tabOf_cons teSA_23 tabOf_nil)))

def mkEl (i : Int) (k : Int) : List Int :=
  ([(IntKind.u8.wrap i), (IntKind.u8.wrap (shr .i64 i (8 : Int))), (IntKind.u8.wrap k), (IntKind.u8.wrap (shr .i64 k (8 : Int))), 77, 0, 0, 0, 0, 0, 0, 0, 0, 0, 0, 0, 0, 0, 0, 0, 0, 0, 0, 0, 0, 0, 0, 0, 0, 0, 0, 0] : List Int)

set_option maxHeartbeats 1000000 in
theorem mkEl_body0 (i : Int) (k : Int) (w : World) : Body Try.prog (tabOf tabSA) Try.f102 ⟨w, [], 0, noEnv⟩ (toA [.a (.i .i64 i), .a (.i .i64 k)]) [] (fun ys _ => ys = [.g [.ints .u8 (32 : Nat) (mkEl i k)]]) :=
  Body.of_fin (Γ := gam70) (Λ := noLam) (Ψ := noPsi) (fuel := 0) (m := 16) (c := (Try.f102.body.getD .skip)) mix tabOkSA gam70_ok rfl (rs := [.cell 4 23]) rfl rfl [] []
    (vc := [((0 : Int) ≤ (8 : Int)), ((0 : Int) ≤ (8 : Int))]) (by kernel_rfl)
    (AllP_cons (by decide) (AllP_cons (by decide) (AllP_nil)))

theorem mkEl_body (i : Int) (k : Int) (w : World) : Body Try.prog (tabOf tabSA) Try.f102 ⟨w, [], 0, noEnv⟩ (toA [.a (.i .i64 i), .a (.i .i64 k)]) [] (fun ys _ => ys = [.g [.ints .u8 (32 : Nat) (mkEl i k)]]) :=
  Body.lens (c := (Try.f102.body.getD .skip)) rfl fun h => mkEl_body0 i k  w

theorem mkEl_pure (i : Int) (k : Int) : PureC Try.prog 102 [.a (.i .i64 i), .a (.i .i64 k)] [.g [.ints .u8 (32 : Nat) (mkEl i k)]] :=
  PureC.of_body tabOkSA Try.func102 rfl rfl fun w => mkEl_body i k w

def gam71 : Gam := gpure 102 (fun args => match args with | [.o (.a (.i .i64 i)), .o (.a (.i .i64 k))] => some (none, [.g [.ints .u8 (32 : Nat) (mkEl i k)]]) | _ => none) gam70
theorem gam71_ok : GamOk Try.prog gam71 := gpure_ok gam70_ok Try.call102 (by
  intro args vc xs h hv
  split at h
  · simp only [Option.some.injEq, Prod.mk.injEq] at h; obtain ⟨rfl, rfl⟩ := h; exact ⟨_, by rfl, mkEl_pure _ _⟩
  · simp at h)

def bkC (x : Atom) : List Atom := [.raw (.slice none 0 0), .raw (.slice none 0 0), .raw (.slice none 0 0), .raw (.slice none 0 0), .raw (.slice none 0 0), x, .raw (.slice none 0 0), .raw (.slice none 0 0), .raw (.slice none 0 0), .raw (.slice none 0 0), .raw (.slice none 0 0), .raw (.slice none 0 0), .raw (.slice none 0 0), .raw (.slice none 0 0), .raw (.slice none 0 0), .raw (.slice none 0 0), .raw (.slice none 0 0), .raw (.slice none 0 0), .raw (.slice none 0 0), .raw (.slice none 0 0), .raw (.slice none 0 0)]

end Go.Proofs.Ytodiojpakfjehaa.X

/- Rows of marks. -/
namespace Go.Proofs.Ytodiojpakfjehaa.X
open Go Go.Proofs
set_option linter.unusedVariables false
set_option maxRecDepth 100000

def rwM (i : Int) : Nat → List Int := rowsL (fun k => mkEl i ((k : Nat) : Int))
theorem mkEl_len (i k : Int) : (mkEl i k).length = 32 := rfl
theorem rwM_len (i : Int) (n : Nat) : (rwM i n).length = n * 32 := rowsL_len fun _ _ => mkEl_len _ _
theorem rwM_sub (i : Int) {n k : Nat} (h : k < n) : sub (rwM i n) (k * 32) 32 = mkEl i ((k : Nat) : Int) := rowsL_sub (fun _ _ => mkEl_len _ _) h
theorem rwM_pref (i : Int) (n : Nat) : ∀ k : Nat, ∃ t, rwM i (n + k) = rwM i n ++ t
  | 0 => ⟨[], (List.append_nil _).symm⟩
  | k + 1 => by
    obtain ⟨t, h⟩ := rwM_pref i n k
    refine ⟨t ++ mkEl i ((n + k : Nat) : Int), ?_⟩
    show rwM i (n + k) ++ mkEl i ((n + k : Nat) : Int) = _
    rw [h, List.append_assoc]
theorem rwM_grow (i : Int) (n : Nat) : sub (rwM i n) 0 (n * 32) ++ sub (mkEl i ((n : Nat) : Int)) 0 32 = rwM i (n + 1) := by
  rw [sub_all _ _ (Nat.le_of_eq (rwM_len i n)), sub_all _ _ (Nat.le_of_eq (mkEl_len i _))]; rfl
/-- a row of which the first k are marked -/
def mkP (L : List Int) (i : Int) (k : Nat) : List Int := rwM i k ++ L.drop (k * 32)
theorem mkP_step {L : List Int} {i : Int} {n k : Nat} (l : L.length = n) (h : k * 32 + 32 ≤ n) : splice (mkP L i k) (k * 32) 32 (mkEl i ((k : Nat) : Int)) = mkP L i (k + 1) := by
  have a := rwM_len i k
  show splice (rwM i k ++ L.drop (k * 32)) (k * 32) 32 _ = (rwM i k ++ mkEl i ((k : Nat) : Int)) ++ L.drop ((k + 1) * 32)
  rw [splice_at a, List.drop_drop]
  congr 2; omega
theorem mkP_all {L : List Int} {i : Int} {n : Nat} (l : L.length = n * 32) : mkP L i n = rwM i n := by
  unfold mkP
  rw [List.drop_of_length_le (by omega), List.append_nil]
end Go.Proofs.Ytodiojpakfjehaa.X

/- Printed by a tool of this session. -/
namespace Go.Proofs.Ytodiojpakfjehaa.X
open Go Go.Proofs
set_option linter.unusedVariables false
set_option linter.unusedSimpArgs false
set_option maxRecDepth 100000
theorem teSB_5 : TEOk Try.prog 5 ⟨.int .u8, 1, 1, [.i .u8 (0 : Int)], false⟩ :=
  TEOk.of Try.underlying5 (i := Try.t5) (by kernel_rfl) rfl rfl rfl (by kernel_rfl) (fun h => by cases h) (by kernel_rfl)
theorem teSB_23 : TEOk Try.prog 23 ⟨.array 32 5, 32, 32, [.ints .u8 (32 : Nat) ([0, 0, 0, 0, 0, 0, 0, 0, 0, 0, 0, 0, 0, 0, 0, 0, 0, 0, 0, 0, 0, 0, 0, 0, 0, 0, 0, 0, 0, 0, 0, 0] : List Int)], true⟩ :=
  TEOk.of Try.underlying23 (i := Try.t23) (by kernel_rfl) rfl rfl rfl (by kernel_rfl) (fun _ => Try.eqGuardType23) (by kernel_rfl)
theorem teSB_45 : TEOk Try.prog 45 ⟨.slice 23, 1, 24, [.raw (.slice none 0 0)], false⟩ :=
  TEOk.of Try.underlying45 (i := Try.t45) (by kernel_rfl) rfl rfl rfl (by kernel_rfl) (fun h => by cases h) (by kernel_rfl)
theorem teSB_51 : TEOk Try.prog 51 ⟨.slice 45, 1, 24, [.raw (.slice none 0 0)], false⟩ :=
  TEOk.of Try.underlying51 (i := Try.t51) (by kernel_rfl) rfl rfl rfl (by kernel_rfl) (fun h => by cases h) (by kernel_rfl)
theorem teSB_68 : TEOk Try.prog 68 ⟨Try.t67.desc, 21, 504, (bkC (.raw (.slice none 0 0))), false⟩ :=
  TEOk.of Try.underlying68 (i := Try.t68) (by kernel_rfl) rfl rfl rfl (by kernel_rfl) (fun h => by cases h) (by kernel_rfl)
noncomputable def tabSB : List (Nat × TE) := [(5, ⟨.int .u8, 1, 1, [.i .u8 (0 : Int)], false⟩), (23, ⟨.array 32 5, 32, 32, [.ints .u8 (32 : Nat) ([0, 0, 0, 0, 0, 0, 0, 0, 0, 0, 0, 0, 0, 0, 0, 0, 0, 0, 0, 0, 0, 0, 0, 0, 0, 0, 0, 0, 0, 0, 0, 0] : List Int)], true⟩), (45, ⟨.slice 23, 1, 24, [.raw (.slice none 0 0)], false⟩), (51, ⟨.slice 45, 1, 24, [.raw (.slice none 0 0)], false⟩), (68, ⟨Try.t67.desc, 21, 504, (bkC (.raw (.slice none 0 0))), false⟩)]
theorem tabOkSB : TabOk Try.prog (tabOf tabSB) := (tabOf_cons teSB_5 (tabOf_cons teSB_23 (tabOf_cons teSB_45 (tabOf_cons teSB_51 (tabOf_cons teSB_68 tabOf_nil)))))

def bkM0_mk (L0 : List Int) (L1 : List Int) (L2 : List Int) (k : Nat) (s : Unit) : St := ⟨sparse 113 [(0, .o (.a (.p 0 0))), (2, .o (.a (.b false))), (3, .o (.a (.rs 1 (0 : Nat) (3 : Nat) 1))), (4, .o (.a (.i .i64 (0 : Int)))), (5, .o (.a (.i .i64 ((k : Nat) : Int)))), (13, .o (.a (.p 0 0))), (14, .o (.a (.p 0 0))), (15, .o (.a (.p 0 5))), (16, .o (.a (.rs 1 (0 : Nat) (3 : Nat) 1))), (17, .o (.a (.i .i64 (0 : Int)))), (18, .o (.a (.rs 1 (0 : Nat) (3 : Nat) 1))), (19, .o (.a (.i .i64 (3 : Int)))), (20, .o (.a (.b true)))], [some ⟨true, (bkC (.rs 1 (0 : Nat) (3 : Nat) 1))⟩, some ⟨true, [.rs 2 (0 : Nat) (8 : Nat) 32, .rs 3 (0 : Nat) (8 : Nat) 32, .rs 4 (0 : Nat) (8 : Nat) 32]⟩, some ⟨true, [.ints .u8 (256 : Nat) (mkP L0 (0 : Int) k)]⟩, some ⟨true, [.ints .u8 (256 : Nat) L1]⟩, some ⟨true, [.ints .u8 (256 : Nat) L2]⟩]⟩

def bkM0_step (k : Nat) (s : Unit) : Unit :=
  ()

set_option maxHeartbeats 1000000 in
theorem bkM0_round (L0 : List Int) (L1 : List Int) (L2 : List Int) (hl2_0 : List.length L0 = (256 : Nat)) (hl3_0 : List.length L1 = (256 : Nat)) (hl4_0 : List.length L2 = (256 : Nat)) (w : World) (rw : List Nat) (β : Env) (k : Nat) (hk : k < (8 : Nat)) (s : Unit) : Run Try.prog ⟨w, rw, 5, β⟩ (loopB Try.f66 2) (bkM0_mk L0 L1 L2 k s) (To ⟨w, rw, 5, β⟩ .normal (bkM0_mk L0 L1 L2 (k + 1) (bkM0_step k s))) := by
  have e0 : (splice (mkP L0 (0 : Int) k) (k * (32 : Nat)) (32 : Nat) (mkEl (0 : Int) ((k : Nat) : Int))) = (mkP L0 (0 : Int) (k + (1 : Nat))) := (by first | exact wrap_succ (by omega) | exact mkP_step hl2_0 (by omega))
  have e1 : (IntKind.i64.wrap (((k : Nat) : Int) + (1 : Int))) = (((k + (1 : Nat)) : Nat) : Int) := (by first | exact wrap_succ (by omega) | exact mkP_step hl2_0 (by omega))
  have h := Run.of_outT (B := ⟨w, rw, 5, β⟩) (Λ := noLam) (Ψ := noPsi) (fuel := 0) (ora := [true]) (c := (loopB Try.f66 2)) (st := (bkM0_mk L0 L1 L2 k s)) (l := [.forget [0, 2, 3, 4, 5, 13, 14, 15, 16, 17, 18, 19, 20] 5]) (s' := ⟨sparse 113 [(0, .o (.a (.p 0 0))), (2, .o (.a (.b false))), (3, .o (.a (.rs 1 (0 : Nat) (3 : Nat) 1))), (4, .o (.a (.i .i64 (0 : Int)))), (5, .o (.a (.i .i64 (IntKind.i64.wrap (((k : Nat) : Int) + (1 : Int)))))), (13, .o (.a (.p 0 0))), (14, .o (.a (.p 0 0))), (15, .o (.a (.p 0 5))), (16, .o (.a (.rs 1 (0 : Nat) (3 : Nat) 1))), (17, .o (.a (.i .i64 (0 : Int)))), (18, .o (.a (.rs 1 (0 : Nat) (3 : Nat) 1))), (19, .o (.a (.i .i64 (3 : Int)))), (20, .o (.a (.b true)))], [some ⟨true, (bkC (.rs 1 (0 : Nat) (3 : Nat) 1))⟩, some ⟨true, [.rs 2 (0 : Nat) (8 : Nat) 32, .rs 3 (0 : Nat) (8 : Nat) 32, .rs 4 (0 : Nat) (8 : Nat) 32]⟩, some ⟨true, [.ints .u8 (256 : Nat) (splice (mkP L0 (0 : Int) k) (k * (32 : Nat)) (32 : Nat) (mkEl (0 : Int) ((k : Nat) : Int)))]⟩, some ⟨true, [.ints .u8 (256 : Nat) L1]⟩, some ⟨true, [.ints .u8 (256 : Nat) L2]⟩]⟩) (ex := .normal) mix tabOkSB gam71_ok
    (vc := [(((k * (32 : Nat)) + (32 : Nat)) ≤ (256 : Nat)), (((0 : Int) ≤ ((k : Nat) : Int)) ∧ (((k : Nat) : Int) < (8 : Int))), (((0 : Int) ≤ (0 : Int)) ∧ ((0 : Int) < (3 : Int))), ((decide (((k : Nat) : Int) < (8 : Int))) = true), (((0 : Int) ≤ (0 : Int)) ∧ ((0 : Int) < (3 : Int)))]) (by kernel_rfl)
    (AllP_cons (by first | omega | (simp (disch := omega) only [wrapI]; omega)) (AllP_cons ⟨(by first | omega | (simp (disch := omega) only [wrapI]; omega)), (by first | omega | (simp (disch := omega) only [wrapI]; omega))⟩ (AllP_cons ⟨(by decide), (by decide)⟩ (AllP_cons (decide_eq_true (by first | omega | (simp (disch := omega) only [wrapI]; omega))) (AllP_cons ⟨(by decide), (by decide)⟩ (AllP_nil))))))
  rw [e0, e1] at h
  exact h

set_option maxHeartbeats 1000000 in
theorem bkM0_last (L0 : List Int) (L1 : List Int) (L2 : List Int) (hl2_0 : List.length L0 = (256 : Nat)) (hl3_0 : List.length L1 = (256 : Nat)) (hl4_0 : List.length L2 = (256 : Nat)) (w : World) (rw : List Nat) (β : Env) (s : Unit) : Run Try.prog ⟨w, rw, 5, β⟩ (loopB Try.f66 2) (bkM0_mk L0 L1 L2 (8 : Nat) s) (To ⟨w, rw, 5, β⟩ (.exit 2) (bkM0_mk L0 L1 L2 (8 : Nat) s)) :=
  Run.of_outT (B := ⟨w, rw, 5, β⟩) (Λ := noLam) (Ψ := noPsi) (fuel := 0) (ora := [false]) (l := [.forget [0, 2, 3, 4, 5, 13, 14, 15, 16, 17, 18, 19, 20] 5]) mix tabOkSB gam71_ok
    (vc := [(false = false), (((0 : Int) ≤ (0 : Int)) ∧ ((0 : Int) < (3 : Int)))]) (by kernel_rfl)
    (AllP_cons rfl (AllP_cons ⟨(by decide), (by decide)⟩ (AllP_nil)))

theorem bkM0_loop (L0 : List Int) (L1 : List Int) (L2 : List Int) (hl2_0 : List.length L0 = (256 : Nat)) (hl3_0 : List.length L1 = (256 : Nat)) (hl4_0 : List.length L2 = (256 : Nat)) (w : World) (rw : List Nat) (β : Env) (s : Unit) : Run Try.prog ⟨w, rw, 5, β⟩ (.block 2 (.loop (loopB Try.f66 2))) (bkM0_mk L0 L1 L2 0 s) (To ⟨w, rw, 5, β⟩ .normal (bkM0_mk L0 L1 L2 (8 : Nat) (iter (bkM0_step) (8 : Nat) s))) :=
  Run.count (fun k => bkM0_mk L0 L1 L2 k (iter (bkM0_step) k s)) (8 : Nat) (fun k hk => bkM0_round L0 L1 L2 hl2_0 hl3_0 hl4_0 w rw β k hk _) (ex := (.exit 2)) (by simp) (bkM0_last L0 L1 L2 hl2_0 hl3_0 hl4_0 w rw β _)

def bkM1_mk (L0 : List Int) (L1 : List Int) (L2 : List Int) (k : Nat) (s : Unit) : St := ⟨sparse 113 [(0, .o (.a (.p 0 0))), (2, .o (.a (.b false))), (3, .o (.a (.rs 1 (0 : Nat) (3 : Nat) 1))), (4, .o (.a (.i .i64 (1 : Int)))), (5, .o (.a (.i .i64 ((k : Nat) : Int)))), (13, .o (.a (.p 0 0))), (14, .o (.a (.p 0 0))), (15, .o (.a (.p 0 5))), (16, .o (.a (.rs 1 (0 : Nat) (3 : Nat) 1))), (17, .o (.a (.i .i64 (1 : Int)))), (18, .o (.a (.rs 1 (0 : Nat) (3 : Nat) 1))), (19, .o (.a (.i .i64 (3 : Int)))), (20, .o (.a (.b true))), (21, .o (.a (.i .i64 (0 : Int)))), (22, .o (.a (.i .i64 (1 : Int))))], [some ⟨true, (bkC (.rs 1 (0 : Nat) (3 : Nat) 1))⟩, some ⟨true, [.rs 2 (0 : Nat) (8 : Nat) 32, .rs 3 (0 : Nat) (8 : Nat) 32, .rs 4 (0 : Nat) (8 : Nat) 32]⟩, some ⟨true, [.ints .u8 (256 : Nat) (mkP L0 (0 : Int) (8 : Nat))]⟩, some ⟨true, [.ints .u8 (256 : Nat) (mkP L1 (1 : Int) k)]⟩, some ⟨true, [.ints .u8 (256 : Nat) L2]⟩]⟩

def bkM1_step (k : Nat) (s : Unit) : Unit :=
  ()

set_option maxHeartbeats 1000000 in
theorem bkM1_round (L0 : List Int) (L1 : List Int) (L2 : List Int) (hl2_0 : List.length L0 = (256 : Nat)) (hl3_0 : List.length L1 = (256 : Nat)) (hl4_0 : List.length L2 = (256 : Nat)) (w : World) (rw : List Nat) (β : Env) (k : Nat) (hk : k < (8 : Nat)) (s : Unit) : Run Try.prog ⟨w, rw, 5, β⟩ (loopB Try.f66 2) (bkM1_mk L0 L1 L2 k s) (To ⟨w, rw, 5, β⟩ .normal (bkM1_mk L0 L1 L2 (k + 1) (bkM1_step k s))) := by
  have e0 : (splice (mkP L1 (1 : Int) k) (k * (32 : Nat)) (32 : Nat) (mkEl (1 : Int) ((k : Nat) : Int))) = (mkP L1 (1 : Int) (k + (1 : Nat))) := (by first | exact wrap_succ (by omega) | exact mkP_step hl3_0 (by omega))
  have e1 : (IntKind.i64.wrap (((k : Nat) : Int) + (1 : Int))) = (((k + (1 : Nat)) : Nat) : Int) := (by first | exact wrap_succ (by omega) | exact mkP_step hl3_0 (by omega))
  have h := Run.of_outT (B := ⟨w, rw, 5, β⟩) (Λ := noLam) (Ψ := noPsi) (fuel := 0) (ora := [true]) (c := (loopB Try.f66 2)) (st := (bkM1_mk L0 L1 L2 k s)) (l := [.forget [0, 2, 3, 4, 5, 13, 14, 15, 16, 17, 18, 19, 20, 21, 22] 5]) (s' := ⟨sparse 113 [(0, .o (.a (.p 0 0))), (2, .o (.a (.b false))), (3, .o (.a (.rs 1 (0 : Nat) (3 : Nat) 1))), (4, .o (.a (.i .i64 (1 : Int)))), (5, .o (.a (.i .i64 (IntKind.i64.wrap (((k : Nat) : Int) + (1 : Int)))))), (13, .o (.a (.p 0 0))), (14, .o (.a (.p 0 0))), (15, .o (.a (.p 0 5))), (16, .o (.a (.rs 1 (0 : Nat) (3 : Nat) 1))), (17, .o (.a (.i .i64 (1 : Int)))), (18, .o (.a (.rs 1 (0 : Nat) (3 : Nat) 1))), (19, .o (.a (.i .i64 (3 : Int)))), (20, .o (.a (.b true))), (21, .o (.a (.i .i64 (0 : Int)))), (22, .o (.a (.i .i64 (1 : Int))))], [some ⟨true, (bkC (.rs 1 (0 : Nat) (3 : Nat) 1))⟩, some ⟨true, [.rs 2 (0 : Nat) (8 : Nat) 32, .rs 3 (0 : Nat) (8 : Nat) 32, .rs 4 (0 : Nat) (8 : Nat) 32]⟩, some ⟨true, [.ints .u8 (256 : Nat) (mkP L0 (0 : Int) (8 : Nat))]⟩, some ⟨true, [.ints .u8 (256 : Nat) (splice (mkP L1 (1 : Int) k) (k * (32 : Nat)) (32 : Nat) (mkEl (1 : Int) ((k : Nat) : Int)))]⟩, some ⟨true, [.ints .u8 (256 : Nat) L2]⟩]⟩) (ex := .normal) mix tabOkSB gam71_ok
    (vc := [(((k * (32 : Nat)) + (32 : Nat)) ≤ (256 : Nat)), (((0 : Int) ≤ ((k : Nat) : Int)) ∧ (((k : Nat) : Int) < (8 : Int))), (((0 : Int) ≤ (1 : Int)) ∧ ((1 : Int) < (3 : Int))), ((decide (((k : Nat) : Int) < (8 : Int))) = true), (((0 : Int) ≤ (1 : Int)) ∧ ((1 : Int) < (3 : Int)))]) (by kernel_rfl)
    (AllP_cons (by first | omega | (simp (disch := omega) only [wrapI]; omega)) (AllP_cons ⟨(by first | omega | (simp (disch := omega) only [wrapI]; omega)), (by first | omega | (simp (disch := omega) only [wrapI]; omega))⟩ (AllP_cons ⟨(by decide), (by decide)⟩ (AllP_cons (decide_eq_true (by first | omega | (simp (disch := omega) only [wrapI]; omega))) (AllP_cons ⟨(by decide), (by decide)⟩ (AllP_nil))))))
  rw [e0, e1] at h
  exact h

set_option maxHeartbeats 1000000 in
theorem bkM1_last (L0 : List Int) (L1 : List Int) (L2 : List Int) (hl2_0 : List.length L0 = (256 : Nat)) (hl3_0 : List.length L1 = (256 : Nat)) (hl4_0 : List.length L2 = (256 : Nat)) (w : World) (rw : List Nat) (β : Env) (s : Unit) : Run Try.prog ⟨w, rw, 5, β⟩ (loopB Try.f66 2) (bkM1_mk L0 L1 L2 (8 : Nat) s) (To ⟨w, rw, 5, β⟩ (.exit 2) (bkM1_mk L0 L1 L2 (8 : Nat) s)) :=
  Run.of_outT (B := ⟨w, rw, 5, β⟩) (Λ := noLam) (Ψ := noPsi) (fuel := 0) (ora := [false]) (l := [.forget [0, 2, 3, 4, 5, 13, 14, 15, 16, 17, 18, 19, 20, 21, 22] 5]) mix tabOkSB gam71_ok
    (vc := [(false = false), (((0 : Int) ≤ (1 : Int)) ∧ ((1 : Int) < (3 : Int)))]) (by kernel_rfl)
    (AllP_cons rfl (AllP_cons ⟨(by decide), (by decide)⟩ (AllP_nil)))

theorem bkM1_loop (L0 : List Int) (L1 : List Int) (L2 : List Int) (hl2_0 : List.length L0 = (256 : Nat)) (hl3_0 : List.length L1 = (256 : Nat)) (hl4_0 : List.length L2 = (256 : Nat)) (w : World) (rw : List Nat) (β : Env) (s : Unit) : Run Try.prog ⟨w, rw, 5, β⟩ (.block 2 (.loop (loopB Try.f66 2))) (bkM1_mk L0 L1 L2 0 s) (To ⟨w, rw, 5, β⟩ .normal (bkM1_mk L0 L1 L2 (8 : Nat) (iter (bkM1_step) (8 : Nat) s))) :=
  Run.count (fun k => bkM1_mk L0 L1 L2 k (iter (bkM1_step) k s)) (8 : Nat) (fun k hk => bkM1_round L0 L1 L2 hl2_0 hl3_0 hl4_0 w rw β k hk _) (ex := (.exit 2)) (by simp) (bkM1_last L0 L1 L2 hl2_0 hl3_0 hl4_0 w rw β _)

def bkM2_mk (L0 : List Int) (L1 : List Int) (L2 : List Int) (k : Nat) (s : Unit) : St := ⟨sparse 113 [(0, .o (.a (.p 0 0))), (2, .o (.a (.b false))), (3, .o (.a (.rs 1 (0 : Nat) (3 : Nat) 1))), (4, .o (.a (.i .i64 (2 : Int)))), (5, .o (.a (.i .i64 ((k : Nat) : Int)))), (13, .o (.a (.p 0 0))), (14, .o (.a (.p 0 0))), (15, .o (.a (.p 0 5))), (16, .o (.a (.rs 1 (0 : Nat) (3 : Nat) 1))), (17, .o (.a (.i .i64 (2 : Int)))), (18, .o (.a (.rs 1 (0 : Nat) (3 : Nat) 1))), (19, .o (.a (.i .i64 (3 : Int)))), (20, .o (.a (.b true))), (21, .o (.a (.i .i64 (1 : Int)))), (22, .o (.a (.i .i64 (2 : Int))))], [some ⟨true, (bkC (.rs 1 (0 : Nat) (3 : Nat) 1))⟩, some ⟨true, [.rs 2 (0 : Nat) (8 : Nat) 32, .rs 3 (0 : Nat) (8 : Nat) 32, .rs 4 (0 : Nat) (8 : Nat) 32]⟩, some ⟨true, [.ints .u8 (256 : Nat) (mkP L0 (0 : Int) (8 : Nat))]⟩, some ⟨true, [.ints .u8 (256 : Nat) (mkP L1 (1 : Int) (8 : Nat))]⟩, some ⟨true, [.ints .u8 (256 : Nat) (mkP L2 (2 : Int) k)]⟩]⟩

def bkM2_step (k : Nat) (s : Unit) : Unit :=
  ()

set_option maxHeartbeats 1000000 in
theorem bkM2_round (L0 : List Int) (L1 : List Int) (L2 : List Int) (hl2_0 : List.length L0 = (256 : Nat)) (hl3_0 : List.length L1 = (256 : Nat)) (hl4_0 : List.length L2 = (256 : Nat)) (w : World) (rw : List Nat) (β : Env) (k : Nat) (hk : k < (8 : Nat)) (s : Unit) : Run Try.prog ⟨w, rw, 5, β⟩ (loopB Try.f66 2) (bkM2_mk L0 L1 L2 k s) (To ⟨w, rw, 5, β⟩ .normal (bkM2_mk L0 L1 L2 (k + 1) (bkM2_step k s))) := by
  have e0 : (splice (mkP L2 (2 : Int) k) (k * (32 : Nat)) (32 : Nat) (mkEl (2 : Int) ((k : Nat) : Int))) = (mkP L2 (2 : Int) (k + (1 : Nat))) := (by first | exact wrap_succ (by omega) | exact mkP_step hl4_0 (by omega))
  have e1 : (IntKind.i64.wrap (((k : Nat) : Int) + (1 : Int))) = (((k + (1 : Nat)) : Nat) : Int) := (by first | exact wrap_succ (by omega) | exact mkP_step hl4_0 (by omega))
  have h := Run.of_outT (B := ⟨w, rw, 5, β⟩) (Λ := noLam) (Ψ := noPsi) (fuel := 0) (ora := [true]) (c := (loopB Try.f66 2)) (st := (bkM2_mk L0 L1 L2 k s)) (l := [.forget [0, 2, 3, 4, 5, 13, 14, 15, 16, 17, 18, 19, 20, 21, 22] 5]) (s' := ⟨sparse 113 [(0, .o (.a (.p 0 0))), (2, .o (.a (.b false))), (3, .o (.a (.rs 1 (0 : Nat) (3 : Nat) 1))), (4, .o (.a (.i .i64 (2 : Int)))), (5, .o (.a (.i .i64 (IntKind.i64.wrap (((k : Nat) : Int) + (1 : Int)))))), (13, .o (.a (.p 0 0))), (14, .o (.a (.p 0 0))), (15, .o (.a (.p 0 5))), (16, .o (.a (.rs 1 (0 : Nat) (3 : Nat) 1))), (17, .o (.a (.i .i64 (2 : Int)))), (18, .o (.a (.rs 1 (0 : Nat) (3 : Nat) 1))), (19, .o (.a (.i .i64 (3 : Int)))), (20, .o (.a (.b true))), (21, .o (.a (.i .i64 (1 : Int)))), (22, .o (.a (.i .i64 (2 : Int))))], [some ⟨true, (bkC (.rs 1 (0 : Nat) (3 : Nat) 1))⟩, some ⟨true, [.rs 2 (0 : Nat) (8 : Nat) 32, .rs 3 (0 : Nat) (8 : Nat) 32, .rs 4 (0 : Nat) (8 : Nat) 32]⟩, some ⟨true, [.ints .u8 (256 : Nat) (mkP L0 (0 : Int) (8 : Nat))]⟩, some ⟨true, [.ints .u8 (256 : Nat) (mkP L1 (1 : Int) (8 : Nat))]⟩, some ⟨true, [.ints .u8 (256 : Nat) (splice (mkP L2 (2 : Int) k) (k * (32 : Nat)) (32 : Nat) (mkEl (2 : Int) ((k : Nat) : Int)))]⟩]⟩) (ex := .normal) mix tabOkSB gam71_ok
    (vc := [(((k * (32 : Nat)) + (32 : Nat)) ≤ (256 : Nat)), (((0 : Int) ≤ ((k : Nat) : Int)) ∧ (((k : Nat) : Int) < (8 : Int))), (((0 : Int) ≤ (2 : Int)) ∧ ((2 : Int) < (3 : Int))), ((decide (((k : Nat) : Int) < (8 : Int))) = true), (((0 : Int) ≤ (2 : Int)) ∧ ((2 : Int) < (3 : Int)))]) (by kernel_rfl)
    (AllP_cons (by first | omega | (simp (disch := omega) only [wrapI]; omega)) (AllP_cons ⟨(by first | omega | (simp (disch := omega) only [wrapI]; omega)), (by first | omega | (simp (disch := omega) only [wrapI]; omega))⟩ (AllP_cons ⟨(by decide), (by decide)⟩ (AllP_cons (decide_eq_true (by first | omega | (simp (disch := omega) only [wrapI]; omega))) (AllP_cons ⟨(by decide), (by decide)⟩ (AllP_nil))))))
  rw [e0, e1] at h
  exact h

set_option maxHeartbeats 1000000 in
theorem bkM2_last (L0 : List Int) (L1 : List Int) (L2 : List Int) (hl2_0 : List.length L0 = (256 : Nat)) (hl3_0 : List.length L1 = (256 : Nat)) (hl4_0 : List.length L2 = (256 : Nat)) (w : World) (rw : List Nat) (β : Env) (s : Unit) : Run Try.prog ⟨w, rw, 5, β⟩ (loopB Try.f66 2) (bkM2_mk L0 L1 L2 (8 : Nat) s) (To ⟨w, rw, 5, β⟩ (.exit 2) (bkM2_mk L0 L1 L2 (8 : Nat) s)) :=
  Run.of_outT (B := ⟨w, rw, 5, β⟩) (Λ := noLam) (Ψ := noPsi) (fuel := 0) (ora := [false]) (l := [.forget [0, 2, 3, 4, 5, 13, 14, 15, 16, 17, 18, 19, 20, 21, 22] 5]) mix tabOkSB gam71_ok
    (vc := [(false = false), (((0 : Int) ≤ (2 : Int)) ∧ ((2 : Int) < (3 : Int)))]) (by kernel_rfl)
    (AllP_cons rfl (AllP_cons ⟨(by decide), (by decide)⟩ (AllP_nil)))

theorem bkM2_loop (L0 : List Int) (L1 : List Int) (L2 : List Int) (hl2_0 : List.length L0 = (256 : Nat)) (hl3_0 : List.length L1 = (256 : Nat)) (hl4_0 : List.length L2 = (256 : Nat)) (w : World) (rw : List Nat) (β : Env) (s : Unit) : Run Try.prog ⟨w, rw, 5, β⟩ (.block 2 (.loop (loopB Try.f66 2))) (bkM2_mk L0 L1 L2 0 s) (To ⟨w, rw, 5, β⟩ .normal (bkM2_mk L0 L1 L2 (8 : Nat) (iter (bkM2_step) (8 : Nat) s))) :=
  Run.count (fun k => bkM2_mk L0 L1 L2 k (iter (bkM2_step) k s)) (8 : Nat) (fun k hk => bkM2_round L0 L1 L2 hl2_0 hl3_0 hl4_0 w rw β k hk _) (ex := (.exit 2)) (by simp) (bkM2_last L0 L1 L2 hl2_0 hl3_0 hl4_0 w rw β _)

def bkG0_mkA (L0 : List Int) (L1 : List Int) (L2 : List Int) (cap : Nat) (J : List Value) (k : Nat) : St := ⟨sparse 113 [(0, .o (.a (.p 0 0))), (3, .o (.a (.rs 1 (0 : Nat) (3 : Nat) 1))), (4, .o (.a (.i .i64 (3 : Int)))), (5, .o (.a (.i .i64 (8 : Int)))), (6, .o (.a (.raw (.slice none 0 0)))), (7, .o (.a (.i .i64 (0 : Int)))), (8, .o (.a (.sl 2 (0 : Nat) ((8 : Nat) + k) cap))), (9, .o (.a (.i .i64 ((k : Nat) : Int)))), (13, .o (.a (.p 0 0))), (14, .o (.a (.p 0 0))), (15, .o (.a (.p 0 5))), (16, .o (.a (.rs 1 (0 : Nat) (3 : Nat) 1))), (17, .o (.a (.i .i64 (3 : Int)))), (18, .o (.a (.rs 1 (0 : Nat) (3 : Nat) 1))), (19, .o (.a (.i .i64 (3 : Int)))), (20, .o (.a (.b false))), (21, .o (.a (.i .i64 (2 : Int)))), (22, .o (.a (.i .i64 (3 : Int)))), (41, .o (.a (.i .i64 (0 : Int)))), (42, .o (.a (.rs 1 (0 : Nat) (3 : Nat) 1))), (43, .o (.a (.i .i64 (3 : Int)))), (44, .o (.a (.b true))), (47, .o (.a (.rs 1 (0 : Nat) (3 : Nat) 1))), (48, .o (.a (.i .i64 (0 : Int)))), (49, .o (.a (.ps 1 (0 : Nat)))), (50, .o (.a (.rs 2 (0 : Nat) (8 : Nat) 32)))], [some ⟨true, (bkC (.rs 1 (0 : Nat) (3 : Nat) 1))⟩, some ⟨true, [.rs 2 (0 : Nat) (8 : Nat) 32, .rs 3 (0 : Nat) (8 : Nat) 32, .rs 4 (0 : Nat) (8 : Nat) 32]⟩, some ⟨true, [.ints .u8 (((8 : Nat) + k) * (32 : Nat)) (rwM (0 : Int) ((8 : Nat) + k)), .vals ((cap - ((8 : Nat) + k)) * (32 : Nat)) (List.drop (k * (32 : Nat)) J)]⟩, some ⟨true, [.ints .u8 (256 : Nat) (rwM (1 : Int) (8 : Nat))]⟩, some ⟨true, [.ints .u8 (256 : Nat) (rwM (2 : Int) (8 : Nat))]⟩]⟩

def bkG0_mkB (L0 : List Int) (L1 : List Int) (L2 : List Int) (k : Nat) : St := ⟨sparse 113 [(0, .o (.a (.p 0 0))), (3, .o (.a (.rs 1 (0 : Nat) (3 : Nat) 1))), (4, .o (.a (.i .i64 (3 : Int)))), (5, .o (.a (.i .i64 (8 : Int)))), (6, .o (.a (.raw (.slice none 0 0)))), (7, .o (.a (.i .i64 (0 : Int)))), (8, .o (.a (.rs 5 (0 : Nat) ((8 : Nat) + k) 32))), (9, .o (.a (.i .i64 ((k : Nat) : Int)))), (13, .o (.a (.p 0 0))), (14, .o (.a (.p 0 0))), (15, .o (.a (.p 0 5))), (16, .o (.a (.rs 1 (0 : Nat) (3 : Nat) 1))), (17, .o (.a (.i .i64 (3 : Int)))), (18, .o (.a (.rs 1 (0 : Nat) (3 : Nat) 1))), (19, .o (.a (.i .i64 (3 : Int)))), (20, .o (.a (.b false))), (21, .o (.a (.i .i64 (2 : Int)))), (22, .o (.a (.i .i64 (3 : Int)))), (41, .o (.a (.i .i64 (0 : Int)))), (42, .o (.a (.rs 1 (0 : Nat) (3 : Nat) 1))), (43, .o (.a (.i .i64 (3 : Int)))), (44, .o (.a (.b true))), (47, .o (.a (.rs 1 (0 : Nat) (3 : Nat) 1))), (48, .o (.a (.i .i64 (0 : Int)))), (49, .o (.a (.ps 1 (0 : Nat)))), (50, .o (.a (.rs 2 (0 : Nat) (8 : Nat) 32)))], [some ⟨true, (bkC (.rs 1 (0 : Nat) (3 : Nat) 1))⟩, some ⟨true, [.rs 2 (0 : Nat) (8 : Nat) 32, .rs 3 (0 : Nat) (8 : Nat) 32, .rs 4 (0 : Nat) (8 : Nat) 32]⟩, some ⟨false, [.ints .u8 (256 : Nat) (rwM (0 : Int) (8 : Nat))]⟩, some ⟨true, [.ints .u8 (256 : Nat) (rwM (1 : Int) (8 : Nat))]⟩, some ⟨true, [.ints .u8 (256 : Nat) (rwM (2 : Int) (8 : Nat))]⟩, some ⟨true, [.ints .u8 (((8 : Nat) + k) * (32 : Nat)) (rwM (0 : Int) ((8 : Nat) + k))]⟩]⟩

def bkG0_mkF (L0 : List Int) (L1 : List Int) (L2 : List Int) : St := ⟨sparse 113 [(0, .o (.a (.p 0 0))), (3, .o (.a (.rs 1 (0 : Nat) (3 : Nat) 1))), (4, .o (.a (.i .i64 (3 : Int)))), (5, .o (.a (.i .i64 (8 : Int)))), (6, .o (.a (.raw (.slice none 0 0)))), (7, .o (.a (.i .i64 (0 : Int)))), (8, .o (.a (.rs 5 (0 : Nat) (48 : Nat) 32))), (9, .o (.a (.i .i64 (40 : Int)))), (13, .o (.a (.p 0 0))), (14, .o (.a (.p 0 0))), (15, .o (.a (.p 0 5))), (16, .o (.a (.rs 1 (0 : Nat) (3 : Nat) 1))), (17, .o (.a (.i .i64 (3 : Int)))), (18, .o (.a (.rs 1 (0 : Nat) (3 : Nat) 1))), (19, .o (.a (.i .i64 (3 : Int)))), (20, .o (.a (.b false))), (21, .o (.a (.i .i64 (2 : Int)))), (22, .o (.a (.i .i64 (3 : Int)))), (41, .o (.a (.i .i64 (0 : Int)))), (42, .o (.a (.rs 1 (0 : Nat) (3 : Nat) 1))), (43, .o (.a (.i .i64 (3 : Int)))), (44, .o (.a (.b true))), (47, .o (.a (.rs 1 (0 : Nat) (3 : Nat) 1))), (48, .o (.a (.i .i64 (0 : Int)))), (49, .o (.a (.ps 1 (0 : Nat)))), (50, .o (.a (.rs 2 (0 : Nat) (8 : Nat) 32)))], [some ⟨true, (bkC (.rs 1 (0 : Nat) (3 : Nat) 1))⟩, some ⟨true, [.rs 2 (0 : Nat) (8 : Nat) 32, .rs 3 (0 : Nat) (8 : Nat) 32, .rs 4 (0 : Nat) (8 : Nat) 32]⟩, some ⟨false, [.ints .u8 (256 : Nat) (rwM (0 : Int) (8 : Nat))]⟩, some ⟨true, [.ints .u8 (256 : Nat) (rwM (1 : Int) (8 : Nat))]⟩, some ⟨true, [.ints .u8 (256 : Nat) (rwM (2 : Int) (8 : Nat))]⟩, some ⟨false, [.ints .u8 (1536 : Nat) (rwM (0 : Int) (48 : Nat))]⟩]⟩

def bkG0_mk0 (L0 : List Int) (L1 : List Int) (L2 : List Int) : St := ⟨sparse 113 [(0, .o (.a (.p 0 0))), (3, .o (.a (.rs 1 (0 : Nat) (3 : Nat) 1))), (4, .o (.a (.i .i64 (3 : Int)))), (5, .o (.a (.i .i64 (8 : Int)))), (6, .o (.a (.raw (.slice none 0 0)))), (7, .o (.a (.i .i64 (0 : Int)))), (8, .o (.a (.rs 2 (0 : Nat) (8 : Nat) 32))), (9, .o (.a (.i .i64 (0 : Int)))), (13, .o (.a (.p 0 0))), (14, .o (.a (.p 0 0))), (15, .o (.a (.p 0 5))), (16, .o (.a (.rs 1 (0 : Nat) (3 : Nat) 1))), (17, .o (.a (.i .i64 (3 : Int)))), (18, .o (.a (.rs 1 (0 : Nat) (3 : Nat) 1))), (19, .o (.a (.i .i64 (3 : Int)))), (20, .o (.a (.b false))), (21, .o (.a (.i .i64 (2 : Int)))), (22, .o (.a (.i .i64 (3 : Int)))), (41, .o (.a (.i .i64 (0 : Int)))), (42, .o (.a (.rs 1 (0 : Nat) (3 : Nat) 1))), (43, .o (.a (.i .i64 (3 : Int)))), (44, .o (.a (.b true))), (47, .o (.a (.rs 1 (0 : Nat) (3 : Nat) 1))), (48, .o (.a (.i .i64 (0 : Int)))), (49, .o (.a (.ps 1 (0 : Nat)))), (50, .o (.a (.rs 2 (0 : Nat) (8 : Nat) 32)))], [some ⟨true, (bkC (.rs 1 (0 : Nat) (3 : Nat) 1))⟩, some ⟨true, [.rs 2 (0 : Nat) (8 : Nat) 32, .rs 3 (0 : Nat) (8 : Nat) 32, .rs 4 (0 : Nat) (8 : Nat) 32]⟩, some ⟨true, [.ints .u8 (256 : Nat) (rwM (0 : Int) (8 : Nat))]⟩, some ⟨true, [.ints .u8 (256 : Nat) (rwM (1 : Int) (8 : Nat))]⟩, some ⟨true, [.ints .u8 (256 : Nat) (rwM (2 : Int) (8 : Nat))]⟩]⟩

set_option maxHeartbeats 1000000 in
theorem bkG0_rA (L0 : List Int) (L1 : List Int) (L2 : List Int) (hl2_0 : List.length L0 = (256 : Nat)) (hl3_0 : List.length L1 = (256 : Nat)) (hl4_0 : List.length L2 = (256 : Nat)) (w : World) (rw : List Nat) (β : Env) (cap : Nat) (J : List Value) (k : Nat) (hk : k < 40) (hc : ((8 : Nat) + (k + (1 : Nat))) ≤ cap) : Run Try.prog ⟨w, rw, 5, β⟩ (loopB Try.f66 6) (bkG0_mkA L0 L1 L2 cap J k) (To ⟨w, rw, 5, β⟩ .normal (bkG0_mkA L0 L1 L2 cap J (k + 1))) := by
  have e0 : ((rwM (0 : Int) ((8 : Nat) + k)) ++ (sub (mkEl (0 : Int) ((((8 : Nat) + k) : Nat) : Int)) (0 : Nat) (32 : Nat))) = (rwM (0 : Int) ((8 : Nat) + (k + (1 : Nat)))) := (by first | rfl | exact wrap_succ (by omega) | omega | exact rwM_grow _ _ | (rw [List.drop_drop]; congr 1; omega))
  have e1 : (((cap - ((8 : Nat) + k)) * (32 : Nat)) - (32 : Nat)) = ((cap - ((8 : Nat) + (k + (1 : Nat)))) * (32 : Nat)) := (by first | rfl | exact wrap_succ (by omega) | omega | exact rwM_grow _ _ | (rw [List.drop_drop]; congr 1; omega))
  have e2 : (List.drop (32 : Nat) (List.drop (k * (32 : Nat)) J)) = (List.drop ((k + (1 : Nat)) * (32 : Nat)) J) := (by first | rfl | exact wrap_succ (by omega) | omega | exact rwM_grow _ _ | (rw [List.drop_drop]; congr 1; omega))
  have e3 : (IntKind.i64.wrap (((k : Nat) : Int) + (1 : Int))) = (((k + (1 : Nat)) : Nat) : Int) := (by first | rfl | exact wrap_succ (by omega) | omega | exact rwM_grow _ _ | (rw [List.drop_drop]; congr 1; omega))
  have e4 : ((((8 : Nat) + k) * (32 : Nat)) + (32 : Nat)) = (((8 : Nat) + (k + (1 : Nat))) * (32 : Nat)) := (by first | rfl | exact wrap_succ (by omega) | omega | exact rwM_grow _ _ | (rw [List.drop_drop]; congr 1; omega))
  have e5 : (((8 : Nat) + k) + (1 : Nat)) = ((8 : Nat) + (k + (1 : Nat))) := (by first | rfl | exact wrap_succ (by omega) | omega | exact rwM_grow _ _ | (rw [List.drop_drop]; congr 1; omega))
  have h := Run.of_outT (B := ⟨w, rw, 5, β⟩) (Λ := noLam) (Ψ := noPsi) (fuel := 0) (ora := [true, true]) (c := (loopB Try.f66 6)) (st := (bkG0_mkA L0 L1 L2 cap J k)) (l := [.forget [0, 3, 4, 5, 6, 7, 8, 9, 13, 14, 15, 16, 17, 18, 19, 20, 21, 22, 41, 42, 43, 44, 47, 48, 49, 50] 5]) (s' := ⟨sparse 113 [(0, .o (.a (.p 0 0))), (3, .o (.a (.rs 1 (0 : Nat) (3 : Nat) 1))), (4, .o (.a (.i .i64 (3 : Int)))), (5, .o (.a (.i .i64 (8 : Int)))), (6, .o (.a (.raw (.slice none 0 0)))), (7, .o (.a (.i .i64 (0 : Int)))), (8, .o (.a (.sl 2 (0 : Nat) (((8 : Nat) + k) + (1 : Nat)) cap))), (9, .o (.a (.i .i64 (IntKind.i64.wrap (((k : Nat) : Int) + (1 : Int)))))), (13, .o (.a (.p 0 0))), (14, .o (.a (.p 0 0))), (15, .o (.a (.p 0 5))), (16, .o (.a (.rs 1 (0 : Nat) (3 : Nat) 1))), (17, .o (.a (.i .i64 (3 : Int)))), (18, .o (.a (.rs 1 (0 : Nat) (3 : Nat) 1))), (19, .o (.a (.i .i64 (3 : Int)))), (20, .o (.a (.b false))), (21, .o (.a (.i .i64 (2 : Int)))), (22, .o (.a (.i .i64 (3 : Int)))), (41, .o (.a (.i .i64 (0 : Int)))), (42, .o (.a (.rs 1 (0 : Nat) (3 : Nat) 1))), (43, .o (.a (.i .i64 (3 : Int)))), (44, .o (.a (.b true))), (47, .o (.a (.rs 1 (0 : Nat) (3 : Nat) 1))), (48, .o (.a (.i .i64 (0 : Int)))), (49, .o (.a (.ps 1 (0 : Nat)))), (50, .o (.a (.rs 2 (0 : Nat) (8 : Nat) 32)))], [some ⟨true, (bkC (.rs 1 (0 : Nat) (3 : Nat) 1))⟩, some ⟨true, [.rs 2 (0 : Nat) (8 : Nat) 32, .rs 3 (0 : Nat) (8 : Nat) 32, .rs 4 (0 : Nat) (8 : Nat) 32]⟩, some ⟨true, [.ints .u8 ((((8 : Nat) + k) * (32 : Nat)) + (32 : Nat)) ((rwM (0 : Int) ((8 : Nat) + k)) ++ (sub (mkEl (0 : Int) ((((8 : Nat) + k) : Nat) : Int)) (0 : Nat) (32 : Nat))), .vals (((cap - ((8 : Nat) + k)) * (32 : Nat)) - (32 : Nat)) (List.drop (32 : Nat) (List.drop (k * (32 : Nat)) J))]⟩, some ⟨true, [.ints .u8 (256 : Nat) (rwM (1 : Int) (8 : Nat))]⟩, some ⟨true, [.ints .u8 (256 : Nat) (rwM (2 : Int) (8 : Nat))]⟩]⟩) (ex := .normal) mix tabOkSB gam71_ok
    (vc := [((((1 : Nat) ≤ (1 : Nat)) ∧ ((32 : Nat) ≤ (32 : Nat))) ∧ (okP (some ((((0 : Nat) + (((8 : Nat) + k) * (32 : Nat))) = (((8 : Nat) + k) * (32 : Nat))) ∧ ((32 : Nat) ≤ ((cap - ((8 : Nat) + k)) * (32 : Nat)))))) ∧ ((((8 : Nat) + k) + (1 : Nat)) ≤ cap)), ((decide (((k : Nat) : Int) < (40 : Int))) = true)]) (by kernel_rfl)
    (AllP_cons ⟨⟨(by decide), (by decide)⟩, (show ((((0 : Nat) + (((8 : Nat) + k) * (32 : Nat))) = (((8 : Nat) + k) * (32 : Nat))) ∧ ((32 : Nat) ≤ ((cap - ((8 : Nat) + k)) * (32 : Nat)))) from ⟨(by first | omega | (simp (disch := omega) only [wrapI]; omega)), (by first | omega | (simp (disch := omega) only [wrapI]; omega))⟩), (by first | omega | (simp (disch := omega) only [wrapI]; omega))⟩ (AllP_cons (decide_eq_true (by first | omega | (simp (disch := omega) only [wrapI]; omega))) (AllP_nil)))
  rw [e0, e1, e2, e3, e4, e5] at h
  exact h

def bkG0_mkX (L0 : List Int) (L1 : List Int) (L2 : List Int) (cap : Nat) (J : List Value) (k : Nat) : St := ⟨sparse 113 [(0, .o (.a (.p 0 0))), (3, .o (.a (.rs 1 (0 : Nat) (3 : Nat) 1))), (4, .o (.a (.i .i64 (3 : Int)))), (5, .o (.a (.i .i64 (8 : Int)))), (6, .o (.a (.raw (.slice none 0 0)))), (7, .o (.a (.i .i64 (0 : Int)))), (8, .o (.a (.rs 5 (0 : Nat) ((8 : Nat) + (k + (1 : Nat))) 32))), (9, .o (.a (.i .i64 (((k + (1 : Nat)) : Nat) : Int)))), (13, .o (.a (.p 0 0))), (14, .o (.a (.p 0 0))), (15, .o (.a (.p 0 5))), (16, .o (.a (.rs 1 (0 : Nat) (3 : Nat) 1))), (17, .o (.a (.i .i64 (3 : Int)))), (18, .o (.a (.rs 1 (0 : Nat) (3 : Nat) 1))), (19, .o (.a (.i .i64 (3 : Int)))), (20, .o (.a (.b false))), (21, .o (.a (.i .i64 (2 : Int)))), (22, .o (.a (.i .i64 (3 : Int)))), (41, .o (.a (.i .i64 (0 : Int)))), (42, .o (.a (.rs 1 (0 : Nat) (3 : Nat) 1))), (43, .o (.a (.i .i64 (3 : Int)))), (44, .o (.a (.b true))), (47, .o (.a (.rs 1 (0 : Nat) (3 : Nat) 1))), (48, .o (.a (.i .i64 (0 : Int)))), (49, .o (.a (.ps 1 (0 : Nat)))), (50, .o (.a (.rs 2 (0 : Nat) (8 : Nat) 32)))], [some ⟨true, (bkC (.rs 1 (0 : Nat) (3 : Nat) 1))⟩, some ⟨true, [.rs 2 (0 : Nat) (8 : Nat) 32, .rs 3 (0 : Nat) (8 : Nat) 32, .rs 4 (0 : Nat) (8 : Nat) 32]⟩, some ⟨true, [.ints .u8 (((8 : Nat) + k) * (32 : Nat)) (rwM (0 : Int) ((8 : Nat) + k)), .vals ((cap - ((8 : Nat) + k)) * (32 : Nat)) (List.drop (k * (32 : Nat)) J)]⟩, some ⟨true, [.ints .u8 (256 : Nat) (rwM (1 : Int) (8 : Nat))]⟩, some ⟨true, [.ints .u8 (256 : Nat) (rwM (2 : Int) (8 : Nat))]⟩, some ⟨true, [.ints .u8 (((8 : Nat) + (k + (1 : Nat))) * (32 : Nat)) (rwM (0 : Int) ((8 : Nat) + (k + (1 : Nat))))]⟩]⟩

set_option maxHeartbeats 1000000 in
theorem bkG0_rX (L0 : List Int) (L1 : List Int) (L2 : List Int) (hl2_0 : List.length L0 = (256 : Nat)) (hl3_0 : List.length L1 = (256 : Nat)) (hl4_0 : List.length L2 = (256 : Nat)) (w : World) (rw : List Nat) (β : Env) (cap : Nat) (J : List Value) (k : Nat) (hk : k < 40) (hc : cap < ((8 : Nat) + (k + (1 : Nat)))) : Run Try.prog ⟨w, rw, 5, β⟩ (loopB Try.f66 6) (bkG0_mkA L0 L1 L2 cap J k) (To ⟨w, rw, 5, β⟩ .normal (bkG0_mkX L0 L1 L2 cap J k)) := by
  have e0 : ((sub (rwM (0 : Int) ((8 : Nat) + k)) (0 : Nat) (((8 : Nat) + k) * (32 : Nat))) ++ (sub (mkEl (0 : Int) ((((8 : Nat) + k) : Nat) : Int)) (0 : Nat) (32 : Nat))) = (rwM (0 : Int) ((8 : Nat) + (k + (1 : Nat)))) := (by first | rfl | exact wrap_succ (by omega) | omega | exact rwM_grow _ _ | (rw [List.drop_drop]; congr 1; omega))
  have e1 : (IntKind.i64.wrap (((k : Nat) : Int) + (1 : Int))) = (((k + (1 : Nat)) : Nat) : Int) := (by first | rfl | exact wrap_succ (by omega) | omega | exact rwM_grow _ _ | (rw [List.drop_drop]; congr 1; omega))
  have e2 : ((((8 : Nat) + k) * (32 : Nat)) + (32 : Nat)) = (((8 : Nat) + (k + (1 : Nat))) * (32 : Nat)) := (by first | rfl | exact wrap_succ (by omega) | omega | exact rwM_grow _ _ | (rw [List.drop_drop]; congr 1; omega))
  have e3 : (((8 : Nat) + k) + (1 : Nat)) = ((8 : Nat) + (k + (1 : Nat))) := (by first | rfl | exact wrap_succ (by omega) | omega | exact rwM_grow _ _ | (rw [List.drop_drop]; congr 1; omega))
  have h := Run.of_outT (B := ⟨w, rw, 5, β⟩) (Λ := noLam) (Ψ := noPsi) (fuel := 0) (ora := [true, false]) (c := (loopB Try.f66 6)) (st := (bkG0_mkA L0 L1 L2 cap J k)) (l := [.swap 5 6, .forget [0, 3, 4, 5, 6, 7, 8, 9, 13, 14, 15, 16, 17, 18, 19, 20, 21, 22, 41, 42, 43, 44, 47, 48, 49, 50] 6]) (s' := ⟨sparse 113 [(0, .o (.a (.p 0 0))), (3, .o (.a (.rs 1 (0 : Nat) (3 : Nat) 1))), (4, .o (.a (.i .i64 (3 : Int)))), (5, .o (.a (.i .i64 (8 : Int)))), (6, .o (.a (.raw (.slice none 0 0)))), (7, .o (.a (.i .i64 (0 : Int)))), (8, .o (.a (.rs 5 (0 : Nat) (((8 : Nat) + k) + (1 : Nat)) 32))), (9, .o (.a (.i .i64 (IntKind.i64.wrap (((k : Nat) : Int) + (1 : Int)))))), (13, .o (.a (.p 0 0))), (14, .o (.a (.p 0 0))), (15, .o (.a (.p 0 5))), (16, .o (.a (.rs 1 (0 : Nat) (3 : Nat) 1))), (17, .o (.a (.i .i64 (3 : Int)))), (18, .o (.a (.rs 1 (0 : Nat) (3 : Nat) 1))), (19, .o (.a (.i .i64 (3 : Int)))), (20, .o (.a (.b false))), (21, .o (.a (.i .i64 (2 : Int)))), (22, .o (.a (.i .i64 (3 : Int)))), (41, .o (.a (.i .i64 (0 : Int)))), (42, .o (.a (.rs 1 (0 : Nat) (3 : Nat) 1))), (43, .o (.a (.i .i64 (3 : Int)))), (44, .o (.a (.b true))), (47, .o (.a (.rs 1 (0 : Nat) (3 : Nat) 1))), (48, .o (.a (.i .i64 (0 : Int)))), (49, .o (.a (.ps 1 (0 : Nat)))), (50, .o (.a (.rs 2 (0 : Nat) (8 : Nat) 32)))], [some ⟨true, (bkC (.rs 1 (0 : Nat) (3 : Nat) 1))⟩, some ⟨true, [.rs 2 (0 : Nat) (8 : Nat) 32, .rs 3 (0 : Nat) (8 : Nat) 32, .rs 4 (0 : Nat) (8 : Nat) 32]⟩, some ⟨true, [.ints .u8 (((8 : Nat) + k) * (32 : Nat)) (rwM (0 : Int) ((8 : Nat) + k)), .vals ((cap - ((8 : Nat) + k)) * (32 : Nat)) (List.drop (k * (32 : Nat)) J)]⟩, some ⟨true, [.ints .u8 (256 : Nat) (rwM (1 : Int) (8 : Nat))]⟩, some ⟨true, [.ints .u8 (256 : Nat) (rwM (2 : Int) (8 : Nat))]⟩, some ⟨true, [.ints .u8 ((((8 : Nat) + k) * (32 : Nat)) + (32 : Nat)) ((sub (rwM (0 : Int) ((8 : Nat) + k)) (0 : Nat) (((8 : Nat) + k) * (32 : Nat))) ++ (sub (mkEl (0 : Int) ((((8 : Nat) + k) : Nat) : Int)) (0 : Nat) (32 : Nat)))]⟩]⟩) (ex := .normal) mix tabOkSB gam71_ok
    (vc := [((((0 : Nat) + (((8 : Nat) + k) * (32 : Nat))) ≤ (((8 : Nat) + k) * (32 : Nat))) ∧ (((1 : Nat) ≤ (1 : Nat)) ∧ ((32 : Nat) ≤ (32 : Nat))) ∧ (cap < (((8 : Nat) + k) + (1 : Nat))) ∧ (((((8 : Nat) + k) + (1 : Nat)) * (32 : Nat)) ≤ (140737488355328 : Nat))), ((decide (((k : Nat) : Int) < (40 : Int))) = true)]) (by kernel_rfl)
    (AllP_cons ⟨(by first | omega | (simp (disch := omega) only [wrapI]; omega)), ⟨(by decide), (by decide)⟩, (by first | omega | (simp (disch := omega) only [wrapI]; omega)), (by first | omega | (simp (disch := omega) only [wrapI]; omega))⟩ (AllP_cons (decide_eq_true (by first | omega | (simp (disch := omega) only [wrapI]; omega))) (AllP_nil)))
  rw [e0, e1, e2, e3] at h
  exact h

set_option maxHeartbeats 1000000 in
theorem bkG0_rB (L0 : List Int) (L1 : List Int) (L2 : List Int) (hl2_0 : List.length L0 = (256 : Nat)) (hl3_0 : List.length L1 = (256 : Nat)) (hl4_0 : List.length L2 = (256 : Nat)) (w : World) (rw : List Nat) (β : Env) (k : Nat) (hk : k < 40) : Run Try.prog ⟨w, rw, 5, β⟩ (loopB Try.f66 6) (bkG0_mkB L0 L1 L2 k) (To ⟨w, rw, 5, β⟩ .normal (bkG0_mkB L0 L1 L2 (k + 1))) := by
  have e0 : ((sub (rwM (0 : Int) ((8 : Nat) + k)) (0 : Nat) (((8 : Nat) + k) * (32 : Nat))) ++ (sub (mkEl (0 : Int) ((((8 : Nat) + k) : Nat) : Int)) (0 : Nat) (32 : Nat))) = (rwM (0 : Int) ((8 : Nat) + (k + (1 : Nat)))) := (by first | rfl | exact wrap_succ (by omega) | omega | exact rwM_grow _ _ | (rw [List.drop_drop]; congr 1; omega))
  have e1 : (IntKind.i64.wrap (((k : Nat) : Int) + (1 : Int))) = (((k + (1 : Nat)) : Nat) : Int) := (by first | rfl | exact wrap_succ (by omega) | omega | exact rwM_grow _ _ | (rw [List.drop_drop]; congr 1; omega))
  have e2 : ((((8 : Nat) + k) * (32 : Nat)) + (32 : Nat)) = (((8 : Nat) + (k + (1 : Nat))) * (32 : Nat)) := (by first | rfl | exact wrap_succ (by omega) | omega | exact rwM_grow _ _ | (rw [List.drop_drop]; congr 1; omega))
  have e3 : (((8 : Nat) + k) + (1 : Nat)) = ((8 : Nat) + (k + (1 : Nat))) := (by first | rfl | exact wrap_succ (by omega) | omega | exact rwM_grow _ _ | (rw [List.drop_drop]; congr 1; omega))
  have h := Run.of_outT (B := ⟨w, rw, 5, β⟩) (Λ := noLam) (Ψ := noPsi) (fuel := 0) (ora := [true, false]) (c := (loopB Try.f66 6)) (st := (bkG0_mkB L0 L1 L2 k)) (l := [.swap 5 7, .forget [0, 3, 4, 5, 6, 7, 8, 9, 13, 14, 15, 16, 17, 18, 19, 20, 21, 22, 41, 42, 43, 44, 47, 48, 49, 50] 6]) (s' := ⟨sparse 113 [(0, .o (.a (.p 0 0))), (3, .o (.a (.rs 1 (0 : Nat) (3 : Nat) 1))), (4, .o (.a (.i .i64 (3 : Int)))), (5, .o (.a (.i .i64 (8 : Int)))), (6, .o (.a (.raw (.slice none 0 0)))), (7, .o (.a (.i .i64 (0 : Int)))), (8, .o (.a (.rs 5 (0 : Nat) (((8 : Nat) + k) + (1 : Nat)) 32))), (9, .o (.a (.i .i64 (IntKind.i64.wrap (((k : Nat) : Int) + (1 : Int)))))), (13, .o (.a (.p 0 0))), (14, .o (.a (.p 0 0))), (15, .o (.a (.p 0 5))), (16, .o (.a (.rs 1 (0 : Nat) (3 : Nat) 1))), (17, .o (.a (.i .i64 (3 : Int)))), (18, .o (.a (.rs 1 (0 : Nat) (3 : Nat) 1))), (19, .o (.a (.i .i64 (3 : Int)))), (20, .o (.a (.b false))), (21, .o (.a (.i .i64 (2 : Int)))), (22, .o (.a (.i .i64 (3 : Int)))), (41, .o (.a (.i .i64 (0 : Int)))), (42, .o (.a (.rs 1 (0 : Nat) (3 : Nat) 1))), (43, .o (.a (.i .i64 (3 : Int)))), (44, .o (.a (.b true))), (47, .o (.a (.rs 1 (0 : Nat) (3 : Nat) 1))), (48, .o (.a (.i .i64 (0 : Int)))), (49, .o (.a (.ps 1 (0 : Nat)))), (50, .o (.a (.rs 2 (0 : Nat) (8 : Nat) 32)))], [some ⟨true, (bkC (.rs 1 (0 : Nat) (3 : Nat) 1))⟩, some ⟨true, [.rs 2 (0 : Nat) (8 : Nat) 32, .rs 3 (0 : Nat) (8 : Nat) 32, .rs 4 (0 : Nat) (8 : Nat) 32]⟩, some ⟨false, [.ints .u8 (256 : Nat) (rwM (0 : Int) (8 : Nat))]⟩, some ⟨true, [.ints .u8 (256 : Nat) (rwM (1 : Int) (8 : Nat))]⟩, some ⟨true, [.ints .u8 (256 : Nat) (rwM (2 : Int) (8 : Nat))]⟩, some ⟨true, [.ints .u8 ((((8 : Nat) + k) * (32 : Nat)) + (32 : Nat)) ((sub (rwM (0 : Int) ((8 : Nat) + k)) (0 : Nat) (((8 : Nat) + k) * (32 : Nat))) ++ (sub (mkEl (0 : Int) ((((8 : Nat) + k) : Nat) : Int)) (0 : Nat) (32 : Nat)))]⟩]⟩) (ex := .normal) mix tabOkSB gam71_ok
    (vc := [((((0 : Nat) + (((8 : Nat) + k) * (32 : Nat))) ≤ (((8 : Nat) + k) * (32 : Nat))) ∧ (((1 : Nat) ≤ (1 : Nat)) ∧ ((32 : Nat) ≤ (32 : Nat))) ∧ (((((8 : Nat) + k) + (1 : Nat)) * (32 : Nat)) ≤ (140737488355328 : Nat))), ((decide (((k : Nat) : Int) < (40 : Int))) = true)]) (by kernel_rfl)
    (AllP_cons ⟨(by first | omega | (simp (disch := omega) only [wrapI]; omega)), ⟨(by decide), (by decide)⟩, (by first | omega | (simp (disch := omega) only [wrapI]; omega))⟩ (AllP_cons (decide_eq_true (by first | omega | (simp (disch := omega) only [wrapI]; omega))) (AllP_nil)))
  rw [e0, e1, e2, e3] at h
  exact h

set_option maxHeartbeats 1000000 in
theorem bkG0_lA (L0 : List Int) (L1 : List Int) (L2 : List Int) (hl2_0 : List.length L0 = (256 : Nat)) (hl3_0 : List.length L1 = (256 : Nat)) (hl4_0 : List.length L2 = (256 : Nat)) (w : World) (rw : List Nat) (β : Env) (cap : Nat) (J : List Value) : Run Try.prog ⟨w, rw, 5, β⟩ (loopB Try.f66 6) (bkG0_mkA L0 L1 L2 cap J 40) (To ⟨w, rw, 5, β⟩ (.exit 6) (bkG0_mkA L0 L1 L2 cap J 40)) := by
  have h := Run.of_outT (B := ⟨w, rw, 5, β⟩) (Λ := noLam) (Ψ := noPsi) (fuel := 0) (ora := [false]) (c := (loopB Try.f66 6)) (st := (bkG0_mkA L0 L1 L2 cap J 40)) (l := [.forget [0, 3, 4, 5, 6, 7, 8, 9, 13, 14, 15, 16, 17, 18, 19, 20, 21, 22, 41, 42, 43, 44, 47, 48, 49, 50] 5]) (s' := ⟨sparse 113 [(0, .o (.a (.p 0 0))), (3, .o (.a (.rs 1 (0 : Nat) (3 : Nat) 1))), (4, .o (.a (.i .i64 (3 : Int)))), (5, .o (.a (.i .i64 (8 : Int)))), (6, .o (.a (.raw (.slice none 0 0)))), (7, .o (.a (.i .i64 (0 : Int)))), (8, .o (.a (.sl 2 (0 : Nat) (48 : Nat) cap))), (9, .o (.a (.i .i64 (40 : Int)))), (13, .o (.a (.p 0 0))), (14, .o (.a (.p 0 0))), (15, .o (.a (.p 0 5))), (16, .o (.a (.rs 1 (0 : Nat) (3 : Nat) 1))), (17, .o (.a (.i .i64 (3 : Int)))), (18, .o (.a (.rs 1 (0 : Nat) (3 : Nat) 1))), (19, .o (.a (.i .i64 (3 : Int)))), (20, .o (.a (.b false))), (21, .o (.a (.i .i64 (2 : Int)))), (22, .o (.a (.i .i64 (3 : Int)))), (41, .o (.a (.i .i64 (0 : Int)))), (42, .o (.a (.rs 1 (0 : Nat) (3 : Nat) 1))), (43, .o (.a (.i .i64 (3 : Int)))), (44, .o (.a (.b true))), (47, .o (.a (.rs 1 (0 : Nat) (3 : Nat) 1))), (48, .o (.a (.i .i64 (0 : Int)))), (49, .o (.a (.ps 1 (0 : Nat)))), (50, .o (.a (.rs 2 (0 : Nat) (8 : Nat) 32)))], [some ⟨true, (bkC (.rs 1 (0 : Nat) (3 : Nat) 1))⟩, some ⟨true, [.rs 2 (0 : Nat) (8 : Nat) 32, .rs 3 (0 : Nat) (8 : Nat) 32, .rs 4 (0 : Nat) (8 : Nat) 32]⟩, some ⟨true, [.ints .u8 (1536 : Nat) (rwM (0 : Int) (48 : Nat)), .vals ((cap - (48 : Nat)) * (32 : Nat)) (List.drop (1280 : Nat) J)]⟩, some ⟨true, [.ints .u8 (256 : Nat) (rwM (1 : Int) (8 : Nat))]⟩, some ⟨true, [.ints .u8 (256 : Nat) (rwM (2 : Int) (8 : Nat))]⟩]⟩) (ex := (.exit 6)) mix tabOkSB gam71_ok
    (vc := [(false = false)]) (by kernel_rfl)
    (AllP_cons rfl (AllP_nil))
  exact h

set_option maxHeartbeats 1000000 in
theorem bkG0_lB (L0 : List Int) (L1 : List Int) (L2 : List Int) (hl2_0 : List.length L0 = (256 : Nat)) (hl3_0 : List.length L1 = (256 : Nat)) (hl4_0 : List.length L2 = (256 : Nat)) (w : World) (rw : List Nat) (β : Env) : Run Try.prog ⟨w, rw, 5, β⟩ (loopB Try.f66 6) (bkG0_mkB L0 L1 L2 40) (To ⟨w, rw, 5, β⟩ (.exit 6) (bkG0_mkB L0 L1 L2 40)) := by
  have h := Run.of_outT (B := ⟨w, rw, 5, β⟩) (Λ := noLam) (Ψ := noPsi) (fuel := 0) (ora := [false]) (c := (loopB Try.f66 6)) (st := (bkG0_mkB L0 L1 L2 40)) (l := [.forget [0, 3, 4, 5, 6, 7, 8, 9, 13, 14, 15, 16, 17, 18, 19, 20, 21, 22, 41, 42, 43, 44, 47, 48, 49, 50] 6]) (s' := ⟨sparse 113 [(0, .o (.a (.p 0 0))), (3, .o (.a (.rs 1 (0 : Nat) (3 : Nat) 1))), (4, .o (.a (.i .i64 (3 : Int)))), (5, .o (.a (.i .i64 (8 : Int)))), (6, .o (.a (.raw (.slice none 0 0)))), (7, .o (.a (.i .i64 (0 : Int)))), (8, .o (.a (.rs 5 (0 : Nat) (48 : Nat) 32))), (9, .o (.a (.i .i64 (40 : Int)))), (13, .o (.a (.p 0 0))), (14, .o (.a (.p 0 0))), (15, .o (.a (.p 0 5))), (16, .o (.a (.rs 1 (0 : Nat) (3 : Nat) 1))), (17, .o (.a (.i .i64 (3 : Int)))), (18, .o (.a (.rs 1 (0 : Nat) (3 : Nat) 1))), (19, .o (.a (.i .i64 (3 : Int)))), (20, .o (.a (.b false))), (21, .o (.a (.i .i64 (2 : Int)))), (22, .o (.a (.i .i64 (3 : Int)))), (41, .o (.a (.i .i64 (0 : Int)))), (42, .o (.a (.rs 1 (0 : Nat) (3 : Nat) 1))), (43, .o (.a (.i .i64 (3 : Int)))), (44, .o (.a (.b true))), (47, .o (.a (.rs 1 (0 : Nat) (3 : Nat) 1))), (48, .o (.a (.i .i64 (0 : Int)))), (49, .o (.a (.ps 1 (0 : Nat)))), (50, .o (.a (.rs 2 (0 : Nat) (8 : Nat) 32)))], [some ⟨true, (bkC (.rs 1 (0 : Nat) (3 : Nat) 1))⟩, some ⟨true, [.rs 2 (0 : Nat) (8 : Nat) 32, .rs 3 (0 : Nat) (8 : Nat) 32, .rs 4 (0 : Nat) (8 : Nat) 32]⟩, some ⟨false, [.ints .u8 (256 : Nat) (rwM (0 : Int) (8 : Nat))]⟩, some ⟨true, [.ints .u8 (256 : Nat) (rwM (1 : Int) (8 : Nat))]⟩, some ⟨true, [.ints .u8 (256 : Nat) (rwM (2 : Int) (8 : Nat))]⟩, some ⟨true, [.ints .u8 (1536 : Nat) (rwM (0 : Int) (48 : Nat))]⟩]⟩) (ex := (.exit 6)) mix tabOkSB gam71_ok
    (vc := [(false = false)]) (by kernel_rfl)
    (AllP_cons rfl (AllP_nil))
  exact h

set_option maxHeartbeats 1000000 in
theorem bkG0_loop (L0 : List Int) (L1 : List Int) (L2 : List Int) (hl2_0 : List.length L0 = (256 : Nat)) (hl3_0 : List.length L1 = (256 : Nat)) (hl4_0 : List.length L2 = (256 : Nat)) (w : World) (rw : List Nat) (β : Env) : Run Try.prog ⟨w, rw, 5, β⟩ (.block 6 (.loop (loopB Try.f66 6))) (bkG0_mk0 L0 L1 L2) (To ⟨w, rw, 5, β⟩ .normal (bkG0_mkF L0 L1 L2)) := by
  intro b1 a1 w1 hR Q hq
  obtain ⟨cap, J, hc, hJ, hR⟩ := hR.opened (t := 8) (j := 2) (c := 0) (len := (8 : Nat)) (z := 32) (by rfl) (cells := [.ints .u8 (256 : Nat) (rwM (0 : Int) (8 : Nat))]) (by rfl) (by simp [sizes, Atom.size])
  have hR := hR.cast (s' := bkG0_mkA L0 L1 L2 cap J 0) (by kernel_rfl)
  have hX : bkG0_mkA L0 L1 L2 cap J 0 = (fun k => if ((8 : Nat) + k) ≤ cap then bkG0_mkA L0 L1 L2 cap J k else bkG0_mkB L0 L1 L2 k) 0 := by
    show _ = if (8 : Nat) ≤ cap then _ else _
    rw [if_pos hc]
  rw [hX] at hR
  refine Run.count (fun k => if ((8 : Nat) + k) ≤ cap then bkG0_mkA L0 L1 L2 cap J k else bkG0_mkB L0 L1 L2 k) 40 (ex := .exit 6) (post := (bkG0_mkF L0 L1 L2)) (fun k hk => ?_) (by simp) ?_ b1 a1 w1 hR Q ?_
  · show Run _ _ _ (if ((8 : Nat) + k) ≤ cap then _ else _) (To _ _ (if ((8 : Nat) + (k + (1 : Nat))) ≤ cap then _ else _))
    by_cases h1 : ((8 : Nat) + (k + (1 : Nat))) ≤ cap
    · rw [if_pos h1, if_pos (by omega)]
      exact bkG0_rA L0 L1 L2 hl2_0 hl3_0 hl4_0 w rw β cap J k hk h1
    · rw [if_neg h1]
      by_cases h2 : ((8 : Nat) + k) ≤ cap
      · rw [if_pos h2]
        exact (bkG0_rX L0 L1 L2 hl2_0 hl3_0 hl4_0 w rw β cap J k hk (by omega)).to_weak fun b1 a1 w1 h => ⟨b1, (Rel.stilled (j := 2) h (by rfl) (c1 := [.ints .u8 (256 : Nat) (rwM (0 : Int) (8 : Nat))]) (Pre.pref (rwM_pref 0 8 _) (rwM_len 0 8) _)).cast (by kernel_rfl)⟩
      · rw [if_neg h2]
        exact bkG0_rB L0 L1 L2 hl2_0 hl3_0 hl4_0 w rw β k hk
  · show Run _ _ _ (if (48 : Nat) ≤ cap then _ else _) _
    by_cases h1 : (48 : Nat) ≤ cap
    · rw [if_pos h1]
      exact (bkG0_lA L0 L1 L2 hl2_0 hl3_0 hl4_0 w rw β cap J).to_weak fun b1 a1 w1 h => ⟨_, (Rel.twin (t := 8) (j := 2) (c := 0) (len := (48 : Nat)) (cap := cap) (z := 32) h (by kernel_rfl) (by kernel_rfl) (by rfl) (by rfl) (by simp only [sizes, Atom.size, List.map_cons, List.map_nil, List.sum_cons, List.sum_nil]; omega) (c1 := [.ints .u8 (256 : Nat) (rwM (0 : Int) (8 : Nat))]) (c2 := [.ints .u8 (1536 : Nat) (rwM (0 : Int) (48 : Nat))]) (Pre.pref (rwM_pref 0 8 _) (rwM_len 0 8) _) (Pre.all _) (by rfl) (by rfl)).cast (by kernel_rfl)⟩
    · rw [if_neg h1]
      exact (bkG0_lB L0 L1 L2 hl2_0 hl3_0 hl4_0 w rw β).to_weak fun b1 a1 w1 h => ⟨b1, (Rel.stilled (j := 5) h (by rfl) (c1 := [.ints .u8 (1536 : Nat) (rwM (0 : Int) (48 : Nat))]) (Pre.all _)).cast (by kernel_rfl)⟩
  · exact hq

def bkG1_mkA (L0 : List Int) (L1 : List Int) (L2 : List Int) (cap : Nat) (J : List Value) (k : Nat) : St := ⟨sparse 113 [(0, .o (.a (.p 0 0))), (3, .o (.a (.rs 1 (0 : Nat) (3 : Nat) 1))), (4, .o (.a (.i .i64 (3 : Int)))), (5, .o (.a (.i .i64 (8 : Int)))), (6, .o (.a (.rs 7 (0 : Nat) (1 : Nat) 1))), (7, .o (.a (.i .i64 (1 : Int)))), (8, .o (.a (.sl 3 (0 : Nat) ((8 : Nat) + k) cap))), (9, .o (.a (.i .i64 ((k : Nat) : Int)))), (13, .o (.a (.p 0 0))), (14, .o (.a (.p 0 0))), (15, .o (.a (.p 0 5))), (16, .o (.a (.rs 1 (0 : Nat) (3 : Nat) 1))), (17, .o (.a (.i .i64 (3 : Int)))), (18, .o (.a (.rs 1 (0 : Nat) (3 : Nat) 1))), (19, .o (.a (.i .i64 (3 : Int)))), (20, .o (.a (.b false))), (21, .o (.a (.i .i64 (2 : Int)))), (22, .o (.a (.i .i64 (3 : Int)))), (41, .o (.a (.i .i64 (1 : Int)))), (42, .o (.a (.rs 1 (0 : Nat) (3 : Nat) 1))), (43, .o (.a (.i .i64 (3 : Int)))), (44, .o (.a (.b true))), (45, .o (.a (.i .i64 (0 : Int)))), (46, .o (.a (.i .i64 (1 : Int)))), (47, .o (.a (.rs 1 (0 : Nat) (3 : Nat) 1))), (48, .o (.a (.i .i64 (1 : Int)))), (49, .o (.a (.ps 1 (1 : Nat)))), (50, .o (.a (.rs 3 (0 : Nat) (8 : Nat) 32))), (62, .o (.a (.raw (.slice none 0 0)))), (63, .o (.a (.rs 5 (0 : Nat) (48 : Nat) 32))), (64, .o (.a (.sl 6 (0 : Nat) (1 : Nat) (1 : Nat)))), (65, .o (.a (.rs 7 (0 : Nat) (1 : Nat) 1)))], [some ⟨true, (bkC (.rs 1 (0 : Nat) (3 : Nat) 1))⟩, some ⟨true, [.rs 2 (0 : Nat) (8 : Nat) 32, .rs 3 (0 : Nat) (8 : Nat) 32, .rs 4 (0 : Nat) (8 : Nat) 32]⟩, some ⟨false, [.ints .u8 (256 : Nat) (rwM (0 : Int) (8 : Nat))]⟩, some ⟨true, [.ints .u8 (((8 : Nat) + k) * (32 : Nat)) (rwM (1 : Int) ((8 : Nat) + k)), .vals ((cap - ((8 : Nat) + k)) * (32 : Nat)) (List.drop (k * (32 : Nat)) J)]⟩, some ⟨true, [.ints .u8 (256 : Nat) (rwM (2 : Int) (8 : Nat))]⟩, some ⟨false, [.ints .u8 (1536 : Nat) (rwM (0 : Int) (48 : Nat))]⟩, some ⟨true, [.rs 5 (0 : Nat) (48 : Nat) 32]⟩, some ⟨true, [.rs 5 (0 : Nat) (48 : Nat) 32]⟩]⟩

def bkG1_mkB (L0 : List Int) (L1 : List Int) (L2 : List Int) (k : Nat) : St := ⟨sparse 113 [(0, .o (.a (.p 0 0))), (3, .o (.a (.rs 1 (0 : Nat) (3 : Nat) 1))), (4, .o (.a (.i .i64 (3 : Int)))), (5, .o (.a (.i .i64 (8 : Int)))), (6, .o (.a (.rs 7 (0 : Nat) (1 : Nat) 1))), (7, .o (.a (.i .i64 (1 : Int)))), (8, .o (.a (.rs 8 (0 : Nat) ((8 : Nat) + k) 32))), (9, .o (.a (.i .i64 ((k : Nat) : Int)))), (13, .o (.a (.p 0 0))), (14, .o (.a (.p 0 0))), (15, .o (.a (.p 0 5))), (16, .o (.a (.rs 1 (0 : Nat) (3 : Nat) 1))), (17, .o (.a (.i .i64 (3 : Int)))), (18, .o (.a (.rs 1 (0 : Nat) (3 : Nat) 1))), (19, .o (.a (.i .i64 (3 : Int)))), (20, .o (.a (.b false))), (21, .o (.a (.i .i64 (2 : Int)))), (22, .o (.a (.i .i64 (3 : Int)))), (41, .o (.a (.i .i64 (1 : Int)))), (42, .o (.a (.rs 1 (0 : Nat) (3 : Nat) 1))), (43, .o (.a (.i .i64 (3 : Int)))), (44, .o (.a (.b true))), (45, .o (.a (.i .i64 (0 : Int)))), (46, .o (.a (.i .i64 (1 : Int)))), (47, .o (.a (.rs 1 (0 : Nat) (3 : Nat) 1))), (48, .o (.a (.i .i64 (1 : Int)))), (49, .o (.a (.ps 1 (1 : Nat)))), (50, .o (.a (.rs 3 (0 : Nat) (8 : Nat) 32))), (62, .o (.a (.raw (.slice none 0 0)))), (63, .o (.a (.rs 5 (0 : Nat) (48 : Nat) 32))), (64, .o (.a (.sl 6 (0 : Nat) (1 : Nat) (1 : Nat)))), (65, .o (.a (.rs 7 (0 : Nat) (1 : Nat) 1)))], [some ⟨true, (bkC (.rs 1 (0 : Nat) (3 : Nat) 1))⟩, some ⟨true, [.rs 2 (0 : Nat) (8 : Nat) 32, .rs 3 (0 : Nat) (8 : Nat) 32, .rs 4 (0 : Nat) (8 : Nat) 32]⟩, some ⟨false, [.ints .u8 (256 : Nat) (rwM (0 : Int) (8 : Nat))]⟩, some ⟨false, [.ints .u8 (256 : Nat) (rwM (1 : Int) (8 : Nat))]⟩, some ⟨true, [.ints .u8 (256 : Nat) (rwM (2 : Int) (8 : Nat))]⟩, some ⟨false, [.ints .u8 (1536 : Nat) (rwM (0 : Int) (48 : Nat))]⟩, some ⟨true, [.rs 5 (0 : Nat) (48 : Nat) 32]⟩, some ⟨true, [.rs 5 (0 : Nat) (48 : Nat) 32]⟩, some ⟨true, [.ints .u8 (((8 : Nat) + k) * (32 : Nat)) (rwM (1 : Int) ((8 : Nat) + k))]⟩]⟩

def bkG1_mkF (L0 : List Int) (L1 : List Int) (L2 : List Int) : St := ⟨sparse 113 [(0, .o (.a (.p 0 0))), (3, .o (.a (.rs 1 (0 : Nat) (3 : Nat) 1))), (4, .o (.a (.i .i64 (3 : Int)))), (5, .o (.a (.i .i64 (8 : Int)))), (6, .o (.a (.rs 7 (0 : Nat) (1 : Nat) 1))), (7, .o (.a (.i .i64 (1 : Int)))), (8, .o (.a (.rs 8 (0 : Nat) (48 : Nat) 32))), (9, .o (.a (.i .i64 (40 : Int)))), (13, .o (.a (.p 0 0))), (14, .o (.a (.p 0 0))), (15, .o (.a (.p 0 5))), (16, .o (.a (.rs 1 (0 : Nat) (3 : Nat) 1))), (17, .o (.a (.i .i64 (3 : Int)))), (18, .o (.a (.rs 1 (0 : Nat) (3 : Nat) 1))), (19, .o (.a (.i .i64 (3 : Int)))), (20, .o (.a (.b false))), (21, .o (.a (.i .i64 (2 : Int)))), (22, .o (.a (.i .i64 (3 : Int)))), (41, .o (.a (.i .i64 (1 : Int)))), (42, .o (.a (.rs 1 (0 : Nat) (3 : Nat) 1))), (43, .o (.a (.i .i64 (3 : Int)))), (44, .o (.a (.b true))), (45, .o (.a (.i .i64 (0 : Int)))), (46, .o (.a (.i .i64 (1 : Int)))), (47, .o (.a (.rs 1 (0 : Nat) (3 : Nat) 1))), (48, .o (.a (.i .i64 (1 : Int)))), (49, .o (.a (.ps 1 (1 : Nat)))), (50, .o (.a (.rs 3 (0 : Nat) (8 : Nat) 32))), (62, .o (.a (.raw (.slice none 0 0)))), (63, .o (.a (.rs 5 (0 : Nat) (48 : Nat) 32))), (64, .o (.a (.sl 6 (0 : Nat) (1 : Nat) (1 : Nat)))), (65, .o (.a (.rs 7 (0 : Nat) (1 : Nat) 1)))], [some ⟨true, (bkC (.rs 1 (0 : Nat) (3 : Nat) 1))⟩, some ⟨true, [.rs 2 (0 : Nat) (8 : Nat) 32, .rs 3 (0 : Nat) (8 : Nat) 32, .rs 4 (0 : Nat) (8 : Nat) 32]⟩, some ⟨false, [.ints .u8 (256 : Nat) (rwM (0 : Int) (8 : Nat))]⟩, some ⟨false, [.ints .u8 (256 : Nat) (rwM (1 : Int) (8 : Nat))]⟩, some ⟨true, [.ints .u8 (256 : Nat) (rwM (2 : Int) (8 : Nat))]⟩, some ⟨false, [.ints .u8 (1536 : Nat) (rwM (0 : Int) (48 : Nat))]⟩, some ⟨true, [.rs 5 (0 : Nat) (48 : Nat) 32]⟩, some ⟨true, [.rs 5 (0 : Nat) (48 : Nat) 32]⟩, some ⟨false, [.ints .u8 (1536 : Nat) (rwM (1 : Int) (48 : Nat))]⟩]⟩

def bkG1_mk0 (L0 : List Int) (L1 : List Int) (L2 : List Int) : St := ⟨sparse 113 [(0, .o (.a (.p 0 0))), (3, .o (.a (.rs 1 (0 : Nat) (3 : Nat) 1))), (4, .o (.a (.i .i64 (3 : Int)))), (5, .o (.a (.i .i64 (8 : Int)))), (6, .o (.a (.rs 7 (0 : Nat) (1 : Nat) 1))), (7, .o (.a (.i .i64 (1 : Int)))), (8, .o (.a (.rs 3 (0 : Nat) (8 : Nat) 32))), (9, .o (.a (.i .i64 (0 : Int)))), (13, .o (.a (.p 0 0))), (14, .o (.a (.p 0 0))), (15, .o (.a (.p 0 5))), (16, .o (.a (.rs 1 (0 : Nat) (3 : Nat) 1))), (17, .o (.a (.i .i64 (3 : Int)))), (18, .o (.a (.rs 1 (0 : Nat) (3 : Nat) 1))), (19, .o (.a (.i .i64 (3 : Int)))), (20, .o (.a (.b false))), (21, .o (.a (.i .i64 (2 : Int)))), (22, .o (.a (.i .i64 (3 : Int)))), (41, .o (.a (.i .i64 (1 : Int)))), (42, .o (.a (.rs 1 (0 : Nat) (3 : Nat) 1))), (43, .o (.a (.i .i64 (3 : Int)))), (44, .o (.a (.b true))), (45, .o (.a (.i .i64 (0 : Int)))), (46, .o (.a (.i .i64 (1 : Int)))), (47, .o (.a (.rs 1 (0 : Nat) (3 : Nat) 1))), (48, .o (.a (.i .i64 (1 : Int)))), (49, .o (.a (.ps 1 (1 : Nat)))), (50, .o (.a (.rs 3 (0 : Nat) (8 : Nat) 32))), (62, .o (.a (.raw (.slice none 0 0)))), (63, .o (.a (.rs 5 (0 : Nat) (48 : Nat) 32))), (64, .o (.a (.sl 6 (0 : Nat) (1 : Nat) (1 : Nat)))), (65, .o (.a (.rs 7 (0 : Nat) (1 : Nat) 1)))], [some ⟨true, (bkC (.rs 1 (0 : Nat) (3 : Nat) 1))⟩, some ⟨true, [.rs 2 (0 : Nat) (8 : Nat) 32, .rs 3 (0 : Nat) (8 : Nat) 32, .rs 4 (0 : Nat) (8 : Nat) 32]⟩, some ⟨false, [.ints .u8 (256 : Nat) (rwM (0 : Int) (8 : Nat))]⟩, some ⟨true, [.ints .u8 (256 : Nat) (rwM (1 : Int) (8 : Nat))]⟩, some ⟨true, [.ints .u8 (256 : Nat) (rwM (2 : Int) (8 : Nat))]⟩, some ⟨false, [.ints .u8 (1536 : Nat) (rwM (0 : Int) (48 : Nat))]⟩, some ⟨true, [.rs 5 (0 : Nat) (48 : Nat) 32]⟩, some ⟨true, [.rs 5 (0 : Nat) (48 : Nat) 32]⟩]⟩

set_option maxHeartbeats 1000000 in
theorem bkG1_rA (L0 : List Int) (L1 : List Int) (L2 : List Int) (hl2_0 : List.length L0 = (256 : Nat)) (hl3_0 : List.length L1 = (256 : Nat)) (hl4_0 : List.length L2 = (256 : Nat)) (w : World) (rw : List Nat) (β : Env) (cap : Nat) (J : List Value) (k : Nat) (hk : k < 40) (hc : ((8 : Nat) + (k + (1 : Nat))) ≤ cap) : Run Try.prog ⟨w, rw, 5, β⟩ (loopB Try.f66 6) (bkG1_mkA L0 L1 L2 cap J k) (To ⟨w, rw, 5, β⟩ .normal (bkG1_mkA L0 L1 L2 cap J (k + 1))) := by
  have e0 : ((rwM (1 : Int) ((8 : Nat) + k)) ++ (sub (mkEl (1 : Int) ((((8 : Nat) + k) : Nat) : Int)) (0 : Nat) (32 : Nat))) = (rwM (1 : Int) ((8 : Nat) + (k + (1 : Nat)))) := (by first | rfl | exact wrap_succ (by omega) | omega | exact rwM_grow _ _ | (rw [List.drop_drop]; congr 1; omega))
  have e1 : (((cap - ((8 : Nat) + k)) * (32 : Nat)) - (32 : Nat)) = ((cap - ((8 : Nat) + (k + (1 : Nat)))) * (32 : Nat)) := (by first | rfl | exact wrap_succ (by omega) | omega | exact rwM_grow _ _ | (rw [List.drop_drop]; congr 1; omega))
  have e2 : (List.drop (32 : Nat) (List.drop (k * (32 : Nat)) J)) = (List.drop ((k + (1 : Nat)) * (32 : Nat)) J) := (by first | rfl | exact wrap_succ (by omega) | omega | exact rwM_grow _ _ | (rw [List.drop_drop]; congr 1; omega))
  have e3 : (IntKind.i64.wrap (((k : Nat) : Int) + (1 : Int))) = (((k + (1 : Nat)) : Nat) : Int) := (by first | rfl | exact wrap_succ (by omega) | omega | exact rwM_grow _ _ | (rw [List.drop_drop]; congr 1; omega))
  have e4 : ((((8 : Nat) + k) * (32 : Nat)) + (32 : Nat)) = (((8 : Nat) + (k + (1 : Nat))) * (32 : Nat)) := (by first | rfl | exact wrap_succ (by omega) | omega | exact rwM_grow _ _ | (rw [List.drop_drop]; congr 1; omega))
  have e5 : (((8 : Nat) + k) + (1 : Nat)) = ((8 : Nat) + (k + (1 : Nat))) := (by first | rfl | exact wrap_succ (by omega) | omega | exact rwM_grow _ _ | (rw [List.drop_drop]; congr 1; omega))
  have h := Run.of_outT (B := ⟨w, rw, 5, β⟩) (Λ := noLam) (Ψ := noPsi) (fuel := 0) (ora := [true, true]) (c := (loopB Try.f66 6)) (st := (bkG1_mkA L0 L1 L2 cap J k)) (l := [.forget [0, 3, 4, 5, 6, 7, 8, 9, 13, 14, 15, 16, 17, 18, 19, 20, 21, 22, 41, 42, 43, 44, 45, 46, 47, 48, 49, 50, 62, 63, 64, 65] 8]) (s' := ⟨sparse 113 [(0, .o (.a (.p 0 0))), (3, .o (.a (.rs 1 (0 : Nat) (3 : Nat) 1))), (4, .o (.a (.i .i64 (3 : Int)))), (5, .o (.a (.i .i64 (8 : Int)))), (6, .o (.a (.rs 7 (0 : Nat) (1 : Nat) 1))), (7, .o (.a (.i .i64 (1 : Int)))), (8, .o (.a (.sl 3 (0 : Nat) (((8 : Nat) + k) + (1 : Nat)) cap))), (9, .o (.a (.i .i64 (IntKind.i64.wrap (((k : Nat) : Int) + (1 : Int)))))), (13, .o (.a (.p 0 0))), (14, .o (.a (.p 0 0))), (15, .o (.a (.p 0 5))), (16, .o (.a (.rs 1 (0 : Nat) (3 : Nat) 1))), (17, .o (.a (.i .i64 (3 : Int)))), (18, .o (.a (.rs 1 (0 : Nat) (3 : Nat) 1))), (19, .o (.a (.i .i64 (3 : Int)))), (20, .o (.a (.b false))), (21, .o (.a (.i .i64 (2 : Int)))), (22, .o (.a (.i .i64 (3 : Int)))), (41, .o (.a (.i .i64 (1 : Int)))), (42, .o (.a (.rs 1 (0 : Nat) (3 : Nat) 1))), (43, .o (.a (.i .i64 (3 : Int)))), (44, .o (.a (.b true))), (45, .o (.a (.i .i64 (0 : Int)))), (46, .o (.a (.i .i64 (1 : Int)))), (47, .o (.a (.rs 1 (0 : Nat) (3 : Nat) 1))), (48, .o (.a (.i .i64 (1 : Int)))), (49, .o (.a (.ps 1 (1 : Nat)))), (50, .o (.a (.rs 3 (0 : Nat) (8 : Nat) 32))), (62, .o (.a (.raw (.slice none 0 0)))), (63, .o (.a (.rs 5 (0 : Nat) (48 : Nat) 32))), (64, .o (.a (.sl 6 (0 : Nat) (1 : Nat) (1 : Nat)))), (65, .o (.a (.rs 7 (0 : Nat) (1 : Nat) 1)))], [some ⟨true, (bkC (.rs 1 (0 : Nat) (3 : Nat) 1))⟩, some ⟨true, [.rs 2 (0 : Nat) (8 : Nat) 32, .rs 3 (0 : Nat) (8 : Nat) 32, .rs 4 (0 : Nat) (8 : Nat) 32]⟩, some ⟨false, [.ints .u8 (256 : Nat) (rwM (0 : Int) (8 : Nat))]⟩, some ⟨true, [.ints .u8 ((((8 : Nat) + k) * (32 : Nat)) + (32 : Nat)) ((rwM (1 : Int) ((8 : Nat) + k)) ++ (sub (mkEl (1 : Int) ((((8 : Nat) + k) : Nat) : Int)) (0 : Nat) (32 : Nat))), .vals (((cap - ((8 : Nat) + k)) * (32 : Nat)) - (32 : Nat)) (List.drop (32 : Nat) (List.drop (k * (32 : Nat)) J))]⟩, some ⟨true, [.ints .u8 (256 : Nat) (rwM (2 : Int) (8 : Nat))]⟩, some ⟨false, [.ints .u8 (1536 : Nat) (rwM (0 : Int) (48 : Nat))]⟩, some ⟨true, [.rs 5 (0 : Nat) (48 : Nat) 32]⟩, some ⟨true, [.rs 5 (0 : Nat) (48 : Nat) 32]⟩]⟩) (ex := .normal) mix tabOkSB gam71_ok
    (vc := [((((1 : Nat) ≤ (1 : Nat)) ∧ ((32 : Nat) ≤ (32 : Nat))) ∧ (okP (some ((((0 : Nat) + (((8 : Nat) + k) * (32 : Nat))) = (((8 : Nat) + k) * (32 : Nat))) ∧ ((32 : Nat) ≤ ((cap - ((8 : Nat) + k)) * (32 : Nat)))))) ∧ ((((8 : Nat) + k) + (1 : Nat)) ≤ cap)), ((decide (((k : Nat) : Int) < (40 : Int))) = true)]) (by kernel_rfl)
    (AllP_cons ⟨⟨(by decide), (by decide)⟩, (show ((((0 : Nat) + (((8 : Nat) + k) * (32 : Nat))) = (((8 : Nat) + k) * (32 : Nat))) ∧ ((32 : Nat) ≤ ((cap - ((8 : Nat) + k)) * (32 : Nat)))) from ⟨(by first | omega | (simp (disch := omega) only [wrapI]; omega)), (by first | omega | (simp (disch := omega) only [wrapI]; omega))⟩), (by first | omega | (simp (disch := omega) only [wrapI]; omega))⟩ (AllP_cons (decide_eq_true (by first | omega | (simp (disch := omega) only [wrapI]; omega))) (AllP_nil)))
  rw [e0, e1, e2, e3, e4, e5] at h
  exact h

def bkG1_mkX (L0 : List Int) (L1 : List Int) (L2 : List Int) (cap : Nat) (J : List Value) (k : Nat) : St := ⟨sparse 113 [(0, .o (.a (.p 0 0))), (3, .o (.a (.rs 1 (0 : Nat) (3 : Nat) 1))), (4, .o (.a (.i .i64 (3 : Int)))), (5, .o (.a (.i .i64 (8 : Int)))), (6, .o (.a (.rs 7 (0 : Nat) (1 : Nat) 1))), (7, .o (.a (.i .i64 (1 : Int)))), (8, .o (.a (.rs 8 (0 : Nat) ((8 : Nat) + (k + (1 : Nat))) 32))), (9, .o (.a (.i .i64 (((k + (1 : Nat)) : Nat) : Int)))), (13, .o (.a (.p 0 0))), (14, .o (.a (.p 0 0))), (15, .o (.a (.p 0 5))), (16, .o (.a (.rs 1 (0 : Nat) (3 : Nat) 1))), (17, .o (.a (.i .i64 (3 : Int)))), (18, .o (.a (.rs 1 (0 : Nat) (3 : Nat) 1))), (19, .o (.a (.i .i64 (3 : Int)))), (20, .o (.a (.b false))), (21, .o (.a (.i .i64 (2 : Int)))), (22, .o (.a (.i .i64 (3 : Int)))), (41, .o (.a (.i .i64 (1 : Int)))), (42, .o (.a (.rs 1 (0 : Nat) (3 : Nat) 1))), (43, .o (.a (.i .i64 (3 : Int)))), (44, .o (.a (.b true))), (45, .o (.a (.i .i64 (0 : Int)))), (46, .o (.a (.i .i64 (1 : Int)))), (47, .o (.a (.rs 1 (0 : Nat) (3 : Nat) 1))), (48, .o (.a (.i .i64 (1 : Int)))), (49, .o (.a (.ps 1 (1 : Nat)))), (50, .o (.a (.rs 3 (0 : Nat) (8 : Nat) 32))), (62, .o (.a (.raw (.slice none 0 0)))), (63, .o (.a (.rs 5 (0 : Nat) (48 : Nat) 32))), (64, .o (.a (.sl 6 (0 : Nat) (1 : Nat) (1 : Nat)))), (65, .o (.a (.rs 7 (0 : Nat) (1 : Nat) 1)))], [some ⟨true, (bkC (.rs 1 (0 : Nat) (3 : Nat) 1))⟩, some ⟨true, [.rs 2 (0 : Nat) (8 : Nat) 32, .rs 3 (0 : Nat) (8 : Nat) 32, .rs 4 (0 : Nat) (8 : Nat) 32]⟩, some ⟨false, [.ints .u8 (256 : Nat) (rwM (0 : Int) (8 : Nat))]⟩, some ⟨true, [.ints .u8 (((8 : Nat) + k) * (32 : Nat)) (rwM (1 : Int) ((8 : Nat) + k)), .vals ((cap - ((8 : Nat) + k)) * (32 : Nat)) (List.drop (k * (32 : Nat)) J)]⟩, some ⟨true, [.ints .u8 (256 : Nat) (rwM (2 : Int) (8 : Nat))]⟩, some ⟨false, [.ints .u8 (1536 : Nat) (rwM (0 : Int) (48 : Nat))]⟩, some ⟨true, [.rs 5 (0 : Nat) (48 : Nat) 32]⟩, some ⟨true, [.rs 5 (0 : Nat) (48 : Nat) 32]⟩, some ⟨true, [.ints .u8 (((8 : Nat) + (k + (1 : Nat))) * (32 : Nat)) (rwM (1 : Int) ((8 : Nat) + (k + (1 : Nat))))]⟩]⟩

set_option maxHeartbeats 1000000 in
theorem bkG1_rX (L0 : List Int) (L1 : List Int) (L2 : List Int) (hl2_0 : List.length L0 = (256 : Nat)) (hl3_0 : List.length L1 = (256 : Nat)) (hl4_0 : List.length L2 = (256 : Nat)) (w : World) (rw : List Nat) (β : Env) (cap : Nat) (J : List Value) (k : Nat) (hk : k < 40) (hc : cap < ((8 : Nat) + (k + (1 : Nat)))) : Run Try.prog ⟨w, rw, 5, β⟩ (loopB Try.f66 6) (bkG1_mkA L0 L1 L2 cap J k) (To ⟨w, rw, 5, β⟩ .normal (bkG1_mkX L0 L1 L2 cap J k)) := by
  have e0 : ((sub (rwM (1 : Int) ((8 : Nat) + k)) (0 : Nat) (((8 : Nat) + k) * (32 : Nat))) ++ (sub (mkEl (1 : Int) ((((8 : Nat) + k) : Nat) : Int)) (0 : Nat) (32 : Nat))) = (rwM (1 : Int) ((8 : Nat) + (k + (1 : Nat)))) := (by first | rfl | exact wrap_succ (by omega) | omega | exact rwM_grow _ _ | (rw [List.drop_drop]; congr 1; omega))
  have e1 : (IntKind.i64.wrap (((k : Nat) : Int) + (1 : Int))) = (((k + (1 : Nat)) : Nat) : Int) := (by first | rfl | exact wrap_succ (by omega) | omega | exact rwM_grow _ _ | (rw [List.drop_drop]; congr 1; omega))
  have e2 : ((((8 : Nat) + k) * (32 : Nat)) + (32 : Nat)) = (((8 : Nat) + (k + (1 : Nat))) * (32 : Nat)) := (by first | rfl | exact wrap_succ (by omega) | omega | exact rwM_grow _ _ | (rw [List.drop_drop]; congr 1; omega))
  have e3 : (((8 : Nat) + k) + (1 : Nat)) = ((8 : Nat) + (k + (1 : Nat))) := (by first | rfl | exact wrap_succ (by omega) | omega | exact rwM_grow _ _ | (rw [List.drop_drop]; congr 1; omega))
  have h := Run.of_outT (B := ⟨w, rw, 5, β⟩) (Λ := noLam) (Ψ := noPsi) (fuel := 0) (ora := [true, false]) (c := (loopB Try.f66 6)) (st := (bkG1_mkA L0 L1 L2 cap J k)) (l := [.swap 8 9, .forget [0, 3, 4, 5, 6, 7, 8, 9, 13, 14, 15, 16, 17, 18, 19, 20, 21, 22, 41, 42, 43, 44, 45, 46, 47, 48, 49, 50, 62, 63, 64, 65] 9]) (s' := ⟨sparse 113 [(0, .o (.a (.p 0 0))), (3, .o (.a (.rs 1 (0 : Nat) (3 : Nat) 1))), (4, .o (.a (.i .i64 (3 : Int)))), (5, .o (.a (.i .i64 (8 : Int)))), (6, .o (.a (.rs 7 (0 : Nat) (1 : Nat) 1))), (7, .o (.a (.i .i64 (1 : Int)))), (8, .o (.a (.rs 8 (0 : Nat) (((8 : Nat) + k) + (1 : Nat)) 32))), (9, .o (.a (.i .i64 (IntKind.i64.wrap (((k : Nat) : Int) + (1 : Int)))))), (13, .o (.a (.p 0 0))), (14, .o (.a (.p 0 0))), (15, .o (.a (.p 0 5))), (16, .o (.a (.rs 1 (0 : Nat) (3 : Nat) 1))), (17, .o (.a (.i .i64 (3 : Int)))), (18, .o (.a (.rs 1 (0 : Nat) (3 : Nat) 1))), (19, .o (.a (.i .i64 (3 : Int)))), (20, .o (.a (.b false))), (21, .o (.a (.i .i64 (2 : Int)))), (22, .o (.a (.i .i64 (3 : Int)))), (41, .o (.a (.i .i64 (1 : Int)))), (42, .o (.a (.rs 1 (0 : Nat) (3 : Nat) 1))), (43, .o (.a (.i .i64 (3 : Int)))), (44, .o (.a (.b true))), (45, .o (.a (.i .i64 (0 : Int)))), (46, .o (.a (.i .i64 (1 : Int)))), (47, .o (.a (.rs 1 (0 : Nat) (3 : Nat) 1))), (48, .o (.a (.i .i64 (1 : Int)))), (49, .o (.a (.ps 1 (1 : Nat)))), (50, .o (.a (.rs 3 (0 : Nat) (8 : Nat) 32))), (62, .o (.a (.raw (.slice none 0 0)))), (63, .o (.a (.rs 5 (0 : Nat) (48 : Nat) 32))), (64, .o (.a (.sl 6 (0 : Nat) (1 : Nat) (1 : Nat)))), (65, .o (.a (.rs 7 (0 : Nat) (1 : Nat) 1)))], [some ⟨true, (bkC (.rs 1 (0 : Nat) (3 : Nat) 1))⟩, some ⟨true, [.rs 2 (0 : Nat) (8 : Nat) 32, .rs 3 (0 : Nat) (8 : Nat) 32, .rs 4 (0 : Nat) (8 : Nat) 32]⟩, some ⟨false, [.ints .u8 (256 : Nat) (rwM (0 : Int) (8 : Nat))]⟩, some ⟨true, [.ints .u8 (((8 : Nat) + k) * (32 : Nat)) (rwM (1 : Int) ((8 : Nat) + k)), .vals ((cap - ((8 : Nat) + k)) * (32 : Nat)) (List.drop (k * (32 : Nat)) J)]⟩, some ⟨true, [.ints .u8 (256 : Nat) (rwM (2 : Int) (8 : Nat))]⟩, some ⟨false, [.ints .u8 (1536 : Nat) (rwM (0 : Int) (48 : Nat))]⟩, some ⟨true, [.rs 5 (0 : Nat) (48 : Nat) 32]⟩, some ⟨true, [.rs 5 (0 : Nat) (48 : Nat) 32]⟩, some ⟨true, [.ints .u8 ((((8 : Nat) + k) * (32 : Nat)) + (32 : Nat)) ((sub (rwM (1 : Int) ((8 : Nat) + k)) (0 : Nat) (((8 : Nat) + k) * (32 : Nat))) ++ (sub (mkEl (1 : Int) ((((8 : Nat) + k) : Nat) : Int)) (0 : Nat) (32 : Nat)))]⟩]⟩) (ex := .normal) mix tabOkSB gam71_ok
    (vc := [((((0 : Nat) + (((8 : Nat) + k) * (32 : Nat))) ≤ (((8 : Nat) + k) * (32 : Nat))) ∧ (((1 : Nat) ≤ (1 : Nat)) ∧ ((32 : Nat) ≤ (32 : Nat))) ∧ (cap < (((8 : Nat) + k) + (1 : Nat))) ∧ (((((8 : Nat) + k) + (1 : Nat)) * (32 : Nat)) ≤ (140737488355328 : Nat))), ((decide (((k : Nat) : Int) < (40 : Int))) = true)]) (by kernel_rfl)
    (AllP_cons ⟨(by first | omega | (simp (disch := omega) only [wrapI]; omega)), ⟨(by decide), (by decide)⟩, (by first | omega | (simp (disch := omega) only [wrapI]; omega)), (by first | omega | (simp (disch := omega) only [wrapI]; omega))⟩ (AllP_cons (decide_eq_true (by first | omega | (simp (disch := omega) only [wrapI]; omega))) (AllP_nil)))
  rw [e0, e1, e2, e3] at h
  exact h

set_option maxHeartbeats 1000000 in
theorem bkG1_rB (L0 : List Int) (L1 : List Int) (L2 : List Int) (hl2_0 : List.length L0 = (256 : Nat)) (hl3_0 : List.length L1 = (256 : Nat)) (hl4_0 : List.length L2 = (256 : Nat)) (w : World) (rw : List Nat) (β : Env) (k : Nat) (hk : k < 40) : Run Try.prog ⟨w, rw, 5, β⟩ (loopB Try.f66 6) (bkG1_mkB L0 L1 L2 k) (To ⟨w, rw, 5, β⟩ .normal (bkG1_mkB L0 L1 L2 (k + 1))) := by
  have e0 : ((sub (rwM (1 : Int) ((8 : Nat) + k)) (0 : Nat) (((8 : Nat) + k) * (32 : Nat))) ++ (sub (mkEl (1 : Int) ((((8 : Nat) + k) : Nat) : Int)) (0 : Nat) (32 : Nat))) = (rwM (1 : Int) ((8 : Nat) + (k + (1 : Nat)))) := (by first | rfl | exact wrap_succ (by omega) | omega | exact rwM_grow _ _ | (rw [List.drop_drop]; congr 1; omega))
  have e1 : (IntKind.i64.wrap (((k : Nat) : Int) + (1 : Int))) = (((k + (1 : Nat)) : Nat) : Int) := (by first | rfl | exact wrap_succ (by omega) | omega | exact rwM_grow _ _ | (rw [List.drop_drop]; congr 1; omega))
  have e2 : ((((8 : Nat) + k) * (32 : Nat)) + (32 : Nat)) = (((8 : Nat) + (k + (1 : Nat))) * (32 : Nat)) := (by first | rfl | exact wrap_succ (by omega) | omega | exact rwM_grow _ _ | (rw [List.drop_drop]; congr 1; omega))
  have e3 : (((8 : Nat) + k) + (1 : Nat)) = ((8 : Nat) + (k + (1 : Nat))) := (by first | rfl | exact wrap_succ (by omega) | omega | exact rwM_grow _ _ | (rw [List.drop_drop]; congr 1; omega))
  have h := Run.of_outT (B := ⟨w, rw, 5, β⟩) (Λ := noLam) (Ψ := noPsi) (fuel := 0) (ora := [true, false]) (c := (loopB Try.f66 6)) (st := (bkG1_mkB L0 L1 L2 k)) (l := [.swap 8 10, .forget [0, 3, 4, 5, 6, 7, 8, 9, 13, 14, 15, 16, 17, 18, 19, 20, 21, 22, 41, 42, 43, 44, 45, 46, 47, 48, 49, 50, 62, 63, 64, 65] 9]) (s' := ⟨sparse 113 [(0, .o (.a (.p 0 0))), (3, .o (.a (.rs 1 (0 : Nat) (3 : Nat) 1))), (4, .o (.a (.i .i64 (3 : Int)))), (5, .o (.a (.i .i64 (8 : Int)))), (6, .o (.a (.rs 7 (0 : Nat) (1 : Nat) 1))), (7, .o (.a (.i .i64 (1 : Int)))), (8, .o (.a (.rs 8 (0 : Nat) (((8 : Nat) + k) + (1 : Nat)) 32))), (9, .o (.a (.i .i64 (IntKind.i64.wrap (((k : Nat) : Int) + (1 : Int)))))), (13, .o (.a (.p 0 0))), (14, .o (.a (.p 0 0))), (15, .o (.a (.p 0 5))), (16, .o (.a (.rs 1 (0 : Nat) (3 : Nat) 1))), (17, .o (.a (.i .i64 (3 : Int)))), (18, .o (.a (.rs 1 (0 : Nat) (3 : Nat) 1))), (19, .o (.a (.i .i64 (3 : Int)))), (20, .o (.a (.b false))), (21, .o (.a (.i .i64 (2 : Int)))), (22, .o (.a (.i .i64 (3 : Int)))), (41, .o (.a (.i .i64 (1 : Int)))), (42, .o (.a (.rs 1 (0 : Nat) (3 : Nat) 1))), (43, .o (.a (.i .i64 (3 : Int)))), (44, .o (.a (.b true))), (45, .o (.a (.i .i64 (0 : Int)))), (46, .o (.a (.i .i64 (1 : Int)))), (47, .o (.a (.rs 1 (0 : Nat) (3 : Nat) 1))), (48, .o (.a (.i .i64 (1 : Int)))), (49, .o (.a (.ps 1 (1 : Nat)))), (50, .o (.a (.rs 3 (0 : Nat) (8 : Nat) 32))), (62, .o (.a (.raw (.slice none 0 0)))), (63, .o (.a (.rs 5 (0 : Nat) (48 : Nat) 32))), (64, .o (.a (.sl 6 (0 : Nat) (1 : Nat) (1 : Nat)))), (65, .o (.a (.rs 7 (0 : Nat) (1 : Nat) 1)))], [some ⟨true, (bkC (.rs 1 (0 : Nat) (3 : Nat) 1))⟩, some ⟨true, [.rs 2 (0 : Nat) (8 : Nat) 32, .rs 3 (0 : Nat) (8 : Nat) 32, .rs 4 (0 : Nat) (8 : Nat) 32]⟩, some ⟨false, [.ints .u8 (256 : Nat) (rwM (0 : Int) (8 : Nat))]⟩, some ⟨false, [.ints .u8 (256 : Nat) (rwM (1 : Int) (8 : Nat))]⟩, some ⟨true, [.ints .u8 (256 : Nat) (rwM (2 : Int) (8 : Nat))]⟩, some ⟨false, [.ints .u8 (1536 : Nat) (rwM (0 : Int) (48 : Nat))]⟩, some ⟨true, [.rs 5 (0 : Nat) (48 : Nat) 32]⟩, some ⟨true, [.rs 5 (0 : Nat) (48 : Nat) 32]⟩, some ⟨true, [.ints .u8 ((((8 : Nat) + k) * (32 : Nat)) + (32 : Nat)) ((sub (rwM (1 : Int) ((8 : Nat) + k)) (0 : Nat) (((8 : Nat) + k) * (32 : Nat))) ++ (sub (mkEl (1 : Int) ((((8 : Nat) + k) : Nat) : Int)) (0 : Nat) (32 : Nat)))]⟩]⟩) (ex := .normal) mix tabOkSB gam71_ok
    (vc := [((((0 : Nat) + (((8 : Nat) + k) * (32 : Nat))) ≤ (((8 : Nat) + k) * (32 : Nat))) ∧ (((1 : Nat) ≤ (1 : Nat)) ∧ ((32 : Nat) ≤ (32 : Nat))) ∧ (((((8 : Nat) + k) + (1 : Nat)) * (32 : Nat)) ≤ (140737488355328 : Nat))), ((decide (((k : Nat) : Int) < (40 : Int))) = true)]) (by kernel_rfl)
    (AllP_cons ⟨(by first | omega | (simp (disch := omega) only [wrapI]; omega)), ⟨(by decide), (by decide)⟩, (by first | omega | (simp (disch := omega) only [wrapI]; omega))⟩ (AllP_cons (decide_eq_true (by first | omega | (simp (disch := omega) only [wrapI]; omega))) (AllP_nil)))
  rw [e0, e1, e2, e3] at h
  exact h

set_option maxHeartbeats 1000000 in
theorem bkG1_lA (L0 : List Int) (L1 : List Int) (L2 : List Int) (hl2_0 : List.length L0 = (256 : Nat)) (hl3_0 : List.length L1 = (256 : Nat)) (hl4_0 : List.length L2 = (256 : Nat)) (w : World) (rw : List Nat) (β : Env) (cap : Nat) (J : List Value) : Run Try.prog ⟨w, rw, 5, β⟩ (loopB Try.f66 6) (bkG1_mkA L0 L1 L2 cap J 40) (To ⟨w, rw, 5, β⟩ (.exit 6) (bkG1_mkA L0 L1 L2 cap J 40)) := by
  have h := Run.of_outT (B := ⟨w, rw, 5, β⟩) (Λ := noLam) (Ψ := noPsi) (fuel := 0) (ora := [false]) (c := (loopB Try.f66 6)) (st := (bkG1_mkA L0 L1 L2 cap J 40)) (l := [.forget [0, 3, 4, 5, 6, 7, 8, 9, 13, 14, 15, 16, 17, 18, 19, 20, 21, 22, 41, 42, 43, 44, 45, 46, 47, 48, 49, 50, 62, 63, 64, 65] 8]) (s' := ⟨sparse 113 [(0, .o (.a (.p 0 0))), (3, .o (.a (.rs 1 (0 : Nat) (3 : Nat) 1))), (4, .o (.a (.i .i64 (3 : Int)))), (5, .o (.a (.i .i64 (8 : Int)))), (6, .o (.a (.rs 7 (0 : Nat) (1 : Nat) 1))), (7, .o (.a (.i .i64 (1 : Int)))), (8, .o (.a (.sl 3 (0 : Nat) (48 : Nat) cap))), (9, .o (.a (.i .i64 (40 : Int)))), (13, .o (.a (.p 0 0))), (14, .o (.a (.p 0 0))), (15, .o (.a (.p 0 5))), (16, .o (.a (.rs 1 (0 : Nat) (3 : Nat) 1))), (17, .o (.a (.i .i64 (3 : Int)))), (18, .o (.a (.rs 1 (0 : Nat) (3 : Nat) 1))), (19, .o (.a (.i .i64 (3 : Int)))), (20, .o (.a (.b false))), (21, .o (.a (.i .i64 (2 : Int)))), (22, .o (.a (.i .i64 (3 : Int)))), (41, .o (.a (.i .i64 (1 : Int)))), (42, .o (.a (.rs 1 (0 : Nat) (3 : Nat) 1))), (43, .o (.a (.i .i64 (3 : Int)))), (44, .o (.a (.b true))), (45, .o (.a (.i .i64 (0 : Int)))), (46, .o (.a (.i .i64 (1 : Int)))), (47, .o (.a (.rs 1 (0 : Nat) (3 : Nat) 1))), (48, .o (.a (.i .i64 (1 : Int)))), (49, .o (.a (.ps 1 (1 : Nat)))), (50, .o (.a (.rs 3 (0 : Nat) (8 : Nat) 32))), (62, .o (.a (.raw (.slice none 0 0)))), (63, .o (.a (.rs 5 (0 : Nat) (48 : Nat) 32))), (64, .o (.a (.sl 6 (0 : Nat) (1 : Nat) (1 : Nat)))), (65, .o (.a (.rs 7 (0 : Nat) (1 : Nat) 1)))], [some ⟨true, (bkC (.rs 1 (0 : Nat) (3 : Nat) 1))⟩, some ⟨true, [.rs 2 (0 : Nat) (8 : Nat) 32, .rs 3 (0 : Nat) (8 : Nat) 32, .rs 4 (0 : Nat) (8 : Nat) 32]⟩, some ⟨false, [.ints .u8 (256 : Nat) (rwM (0 : Int) (8 : Nat))]⟩, some ⟨true, [.ints .u8 (1536 : Nat) (rwM (1 : Int) (48 : Nat)), .vals ((cap - (48 : Nat)) * (32 : Nat)) (List.drop (1280 : Nat) J)]⟩, some ⟨true, [.ints .u8 (256 : Nat) (rwM (2 : Int) (8 : Nat))]⟩, some ⟨false, [.ints .u8 (1536 : Nat) (rwM (0 : Int) (48 : Nat))]⟩, some ⟨true, [.rs 5 (0 : Nat) (48 : Nat) 32]⟩, some ⟨true, [.rs 5 (0 : Nat) (48 : Nat) 32]⟩]⟩) (ex := (.exit 6)) mix tabOkSB gam71_ok
    (vc := [(false = false)]) (by kernel_rfl)
    (AllP_cons rfl (AllP_nil))
  exact h

set_option maxHeartbeats 1000000 in
theorem bkG1_lB (L0 : List Int) (L1 : List Int) (L2 : List Int) (hl2_0 : List.length L0 = (256 : Nat)) (hl3_0 : List.length L1 = (256 : Nat)) (hl4_0 : List.length L2 = (256 : Nat)) (w : World) (rw : List Nat) (β : Env) : Run Try.prog ⟨w, rw, 5, β⟩ (loopB Try.f66 6) (bkG1_mkB L0 L1 L2 40) (To ⟨w, rw, 5, β⟩ (.exit 6) (bkG1_mkB L0 L1 L2 40)) := by
  have h := Run.of_outT (B := ⟨w, rw, 5, β⟩) (Λ := noLam) (Ψ := noPsi) (fuel := 0) (ora := [false]) (c := (loopB Try.f66 6)) (st := (bkG1_mkB L0 L1 L2 40)) (l := [.forget [0, 3, 4, 5, 6, 7, 8, 9, 13, 14, 15, 16, 17, 18, 19, 20, 21, 22, 41, 42, 43, 44, 45, 46, 47, 48, 49, 50, 62, 63, 64, 65] 9]) (s' := ⟨sparse 113 [(0, .o (.a (.p 0 0))), (3, .o (.a (.rs 1 (0 : Nat) (3 : Nat) 1))), (4, .o (.a (.i .i64 (3 : Int)))), (5, .o (.a (.i .i64 (8 : Int)))), (6, .o (.a (.rs 7 (0 : Nat) (1 : Nat) 1))), (7, .o (.a (.i .i64 (1 : Int)))), (8, .o (.a (.rs 8 (0 : Nat) (48 : Nat) 32))), (9, .o (.a (.i .i64 (40 : Int)))), (13, .o (.a (.p 0 0))), (14, .o (.a (.p 0 0))), (15, .o (.a (.p 0 5))), (16, .o (.a (.rs 1 (0 : Nat) (3 : Nat) 1))), (17, .o (.a (.i .i64 (3 : Int)))), (18, .o (.a (.rs 1 (0 : Nat) (3 : Nat) 1))), (19, .o (.a (.i .i64 (3 : Int)))), (20, .o (.a (.b false))), (21, .o (.a (.i .i64 (2 : Int)))), (22, .o (.a (.i .i64 (3 : Int)))), (41, .o (.a (.i .i64 (1 : Int)))), (42, .o (.a (.rs 1 (0 : Nat) (3 : Nat) 1))), (43, .o (.a (.i .i64 (3 : Int)))), (44, .o (.a (.b true))), (45, .o (.a (.i .i64 (0 : Int)))), (46, .o (.a (.i .i64 (1 : Int)))), (47, .o (.a (.rs 1 (0 : Nat) (3 : Nat) 1))), (48, .o (.a (.i .i64 (1 : Int)))), (49, .o (.a (.ps 1 (1 : Nat)))), (50, .o (.a (.rs 3 (0 : Nat) (8 : Nat) 32))), (62, .o (.a (.raw (.slice none 0 0)))), (63, .o (.a (.rs 5 (0 : Nat) (48 : Nat) 32))), (64, .o (.a (.sl 6 (0 : Nat) (1 : Nat) (1 : Nat)))), (65, .o (.a (.rs 7 (0 : Nat) (1 : Nat) 1)))], [some ⟨true, (bkC (.rs 1 (0 : Nat) (3 : Nat) 1))⟩, some ⟨true, [.rs 2 (0 : Nat) (8 : Nat) 32, .rs 3 (0 : Nat) (8 : Nat) 32, .rs 4 (0 : Nat) (8 : Nat) 32]⟩, some ⟨false, [.ints .u8 (256 : Nat) (rwM (0 : Int) (8 : Nat))]⟩, some ⟨false, [.ints .u8 (256 : Nat) (rwM (1 : Int) (8 : Nat))]⟩, some ⟨true, [.ints .u8 (256 : Nat) (rwM (2 : Int) (8 : Nat))]⟩, some ⟨false, [.ints .u8 (1536 : Nat) (rwM (0 : Int) (48 : Nat))]⟩, some ⟨true, [.rs 5 (0 : Nat) (48 : Nat) 32]⟩, some ⟨true, [.rs 5 (0 : Nat) (48 : Nat) 32]⟩, some ⟨true, [.ints .u8 (1536 : Nat) (rwM (1 : Int) (48 : Nat))]⟩]⟩) (ex := (.exit 6)) mix tabOkSB gam71_ok
    (vc := [(false = false)]) (by kernel_rfl)
    (AllP_cons rfl (AllP_nil))
  exact h

set_option maxHeartbeats 1000000 in
theorem bkG1_loop (L0 : List Int) (L1 : List Int) (L2 : List Int) (hl2_0 : List.length L0 = (256 : Nat)) (hl3_0 : List.length L1 = (256 : Nat)) (hl4_0 : List.length L2 = (256 : Nat)) (w : World) (rw : List Nat) (β : Env) : Run Try.prog ⟨w, rw, 5, β⟩ (.block 6 (.loop (loopB Try.f66 6))) (bkG1_mk0 L0 L1 L2) (To ⟨w, rw, 5, β⟩ .normal (bkG1_mkF L0 L1 L2)) := by
  intro b1 a1 w1 hR Q hq
  obtain ⟨cap, J, hc, hJ, hR⟩ := hR.opened (t := 8) (j := 3) (c := 0) (len := (8 : Nat)) (z := 32) (by rfl) (cells := [.ints .u8 (256 : Nat) (rwM (1 : Int) (8 : Nat))]) (by rfl) (by simp [sizes, Atom.size])
  have hR := hR.cast (s' := bkG1_mkA L0 L1 L2 cap J 0) (by kernel_rfl)
  have hX : bkG1_mkA L0 L1 L2 cap J 0 = (fun k => if ((8 : Nat) + k) ≤ cap then bkG1_mkA L0 L1 L2 cap J k else bkG1_mkB L0 L1 L2 k) 0 := by
    show _ = if (8 : Nat) ≤ cap then _ else _
    rw [if_pos hc]
  rw [hX] at hR
  refine Run.count (fun k => if ((8 : Nat) + k) ≤ cap then bkG1_mkA L0 L1 L2 cap J k else bkG1_mkB L0 L1 L2 k) 40 (ex := .exit 6) (post := (bkG1_mkF L0 L1 L2)) (fun k hk => ?_) (by simp) ?_ b1 a1 w1 hR Q ?_
  · show Run _ _ _ (if ((8 : Nat) + k) ≤ cap then _ else _) (To _ _ (if ((8 : Nat) + (k + (1 : Nat))) ≤ cap then _ else _))
    by_cases h1 : ((8 : Nat) + (k + (1 : Nat))) ≤ cap
    · rw [if_pos h1, if_pos (by omega)]
      exact bkG1_rA L0 L1 L2 hl2_0 hl3_0 hl4_0 w rw β cap J k hk h1
    · rw [if_neg h1]
      by_cases h2 : ((8 : Nat) + k) ≤ cap
      · rw [if_pos h2]
        exact (bkG1_rX L0 L1 L2 hl2_0 hl3_0 hl4_0 w rw β cap J k hk (by omega)).to_weak fun b1 a1 w1 h => ⟨b1, (Rel.stilled (j := 3) h (by rfl) (c1 := [.ints .u8 (256 : Nat) (rwM (1 : Int) (8 : Nat))]) (Pre.pref (rwM_pref 1 8 _) (rwM_len 1 8) _)).cast (by kernel_rfl)⟩
      · rw [if_neg h2]
        exact bkG1_rB L0 L1 L2 hl2_0 hl3_0 hl4_0 w rw β k hk
  · show Run _ _ _ (if (48 : Nat) ≤ cap then _ else _) _
    by_cases h1 : (48 : Nat) ≤ cap
    · rw [if_pos h1]
      exact (bkG1_lA L0 L1 L2 hl2_0 hl3_0 hl4_0 w rw β cap J).to_weak fun b1 a1 w1 h => ⟨_, (Rel.twin (t := 8) (j := 3) (c := 0) (len := (48 : Nat)) (cap := cap) (z := 32) h (by kernel_rfl) (by kernel_rfl) (by rfl) (by rfl) (by simp only [sizes, Atom.size, List.map_cons, List.map_nil, List.sum_cons, List.sum_nil]; omega) (c1 := [.ints .u8 (256 : Nat) (rwM (1 : Int) (8 : Nat))]) (c2 := [.ints .u8 (1536 : Nat) (rwM (1 : Int) (48 : Nat))]) (Pre.pref (rwM_pref 1 8 _) (rwM_len 1 8) _) (Pre.all _) (by rfl) (by rfl)).cast (by kernel_rfl)⟩
    · rw [if_neg h1]
      exact (bkG1_lB L0 L1 L2 hl2_0 hl3_0 hl4_0 w rw β).to_weak fun b1 a1 w1 h => ⟨b1, (Rel.stilled (j := 8) h (by rfl) (c1 := [.ints .u8 (1536 : Nat) (rwM (1 : Int) (48 : Nat))]) (Pre.all _)).cast (by kernel_rfl)⟩
  · exact hq

def bkG2_mkA (L0 : List Int) (L1 : List Int) (L2 : List Int) (cap : Nat) (J : List Value) (k : Nat) : St := ⟨sparse 113 [(0, .o (.a (.p 0 0))), (3, .o (.a (.rs 1 (0 : Nat) (3 : Nat) 1))), (4, .o (.a (.i .i64 (3 : Int)))), (5, .o (.a (.i .i64 (8 : Int)))), (6, .o (.a (.rs 10 (0 : Nat) (2 : Nat) 1))), (7, .o (.a (.i .i64 (2 : Int)))), (8, .o (.a (.sl 4 (0 : Nat) ((8 : Nat) + k) cap))), (9, .o (.a (.i .i64 ((k : Nat) : Int)))), (13, .o (.a (.p 0 0))), (14, .o (.a (.p 0 0))), (15, .o (.a (.p 0 5))), (16, .o (.a (.rs 1 (0 : Nat) (3 : Nat) 1))), (17, .o (.a (.i .i64 (3 : Int)))), (18, .o (.a (.rs 1 (0 : Nat) (3 : Nat) 1))), (19, .o (.a (.i .i64 (3 : Int)))), (20, .o (.a (.b false))), (21, .o (.a (.i .i64 (2 : Int)))), (22, .o (.a (.i .i64 (3 : Int)))), (41, .o (.a (.i .i64 (2 : Int)))), (42, .o (.a (.rs 1 (0 : Nat) (3 : Nat) 1))), (43, .o (.a (.i .i64 (3 : Int)))), (44, .o (.a (.b true))), (45, .o (.a (.i .i64 (1 : Int)))), (46, .o (.a (.i .i64 (2 : Int)))), (47, .o (.a (.rs 1 (0 : Nat) (3 : Nat) 1))), (48, .o (.a (.i .i64 (2 : Int)))), (49, .o (.a (.ps 1 (2 : Nat)))), (50, .o (.a (.rs 4 (0 : Nat) (8 : Nat) 32))), (62, .o (.a (.rs 7 (0 : Nat) (1 : Nat) 1))), (63, .o (.a (.rs 8 (0 : Nat) (48 : Nat) 32))), (64, .o (.a (.sl 9 (0 : Nat) (1 : Nat) (1 : Nat)))), (65, .o (.a (.rs 10 (0 : Nat) (2 : Nat) 1)))], [some ⟨true, (bkC (.rs 1 (0 : Nat) (3 : Nat) 1))⟩, some ⟨true, [.rs 2 (0 : Nat) (8 : Nat) 32, .rs 3 (0 : Nat) (8 : Nat) 32, .rs 4 (0 : Nat) (8 : Nat) 32]⟩, some ⟨false, [.ints .u8 (256 : Nat) (rwM (0 : Int) (8 : Nat))]⟩, some ⟨false, [.ints .u8 (256 : Nat) (rwM (1 : Int) (8 : Nat))]⟩, some ⟨true, [.ints .u8 (((8 : Nat) + k) * (32 : Nat)) (rwM (2 : Int) ((8 : Nat) + k)), .vals ((cap - ((8 : Nat) + k)) * (32 : Nat)) (List.drop (k * (32 : Nat)) J)]⟩, some ⟨false, [.ints .u8 (1536 : Nat) (rwM (0 : Int) (48 : Nat))]⟩, some ⟨true, [.rs 5 (0 : Nat) (48 : Nat) 32]⟩, none, some ⟨false, [.ints .u8 (1536 : Nat) (rwM (1 : Int) (48 : Nat))]⟩, some ⟨true, [.rs 8 (0 : Nat) (48 : Nat) 32]⟩, some ⟨true, [.rs 5 (0 : Nat) (48 : Nat) 32, .rs 8 (0 : Nat) (48 : Nat) 32]⟩]⟩

def bkG2_mkB (L0 : List Int) (L1 : List Int) (L2 : List Int) (k : Nat) : St := ⟨sparse 113 [(0, .o (.a (.p 0 0))), (3, .o (.a (.rs 1 (0 : Nat) (3 : Nat) 1))), (4, .o (.a (.i .i64 (3 : Int)))), (5, .o (.a (.i .i64 (8 : Int)))), (6, .o (.a (.rs 10 (0 : Nat) (2 : Nat) 1))), (7, .o (.a (.i .i64 (2 : Int)))), (8, .o (.a (.rs 11 (0 : Nat) ((8 : Nat) + k) 32))), (9, .o (.a (.i .i64 ((k : Nat) : Int)))), (13, .o (.a (.p 0 0))), (14, .o (.a (.p 0 0))), (15, .o (.a (.p 0 5))), (16, .o (.a (.rs 1 (0 : Nat) (3 : Nat) 1))), (17, .o (.a (.i .i64 (3 : Int)))), (18, .o (.a (.rs 1 (0 : Nat) (3 : Nat) 1))), (19, .o (.a (.i .i64 (3 : Int)))), (20, .o (.a (.b false))), (21, .o (.a (.i .i64 (2 : Int)))), (22, .o (.a (.i .i64 (3 : Int)))), (41, .o (.a (.i .i64 (2 : Int)))), (42, .o (.a (.rs 1 (0 : Nat) (3 : Nat) 1))), (43, .o (.a (.i .i64 (3 : Int)))), (44, .o (.a (.b true))), (45, .o (.a (.i .i64 (1 : Int)))), (46, .o (.a (.i .i64 (2 : Int)))), (47, .o (.a (.rs 1 (0 : Nat) (3 : Nat) 1))), (48, .o (.a (.i .i64 (2 : Int)))), (49, .o (.a (.ps 1 (2 : Nat)))), (50, .o (.a (.rs 4 (0 : Nat) (8 : Nat) 32))), (62, .o (.a (.rs 7 (0 : Nat) (1 : Nat) 1))), (63, .o (.a (.rs 8 (0 : Nat) (48 : Nat) 32))), (64, .o (.a (.sl 9 (0 : Nat) (1 : Nat) (1 : Nat)))), (65, .o (.a (.rs 10 (0 : Nat) (2 : Nat) 1)))], [some ⟨true, (bkC (.rs 1 (0 : Nat) (3 : Nat) 1))⟩, some ⟨true, [.rs 2 (0 : Nat) (8 : Nat) 32, .rs 3 (0 : Nat) (8 : Nat) 32, .rs 4 (0 : Nat) (8 : Nat) 32]⟩, some ⟨false, [.ints .u8 (256 : Nat) (rwM (0 : Int) (8 : Nat))]⟩, some ⟨false, [.ints .u8 (256 : Nat) (rwM (1 : Int) (8 : Nat))]⟩, some ⟨false, [.ints .u8 (256 : Nat) (rwM (2 : Int) (8 : Nat))]⟩, some ⟨false, [.ints .u8 (1536 : Nat) (rwM (0 : Int) (48 : Nat))]⟩, some ⟨true, [.rs 5 (0 : Nat) (48 : Nat) 32]⟩, none, some ⟨false, [.ints .u8 (1536 : Nat) (rwM (1 : Int) (48 : Nat))]⟩, some ⟨true, [.rs 8 (0 : Nat) (48 : Nat) 32]⟩, some ⟨true, [.rs 5 (0 : Nat) (48 : Nat) 32, .rs 8 (0 : Nat) (48 : Nat) 32]⟩, some ⟨true, [.ints .u8 (((8 : Nat) + k) * (32 : Nat)) (rwM (2 : Int) ((8 : Nat) + k))]⟩]⟩

def bkG2_mkF (L0 : List Int) (L1 : List Int) (L2 : List Int) : St := ⟨sparse 113 [(0, .o (.a (.p 0 0))), (3, .o (.a (.rs 1 (0 : Nat) (3 : Nat) 1))), (4, .o (.a (.i .i64 (3 : Int)))), (5, .o (.a (.i .i64 (8 : Int)))), (6, .o (.a (.rs 10 (0 : Nat) (2 : Nat) 1))), (7, .o (.a (.i .i64 (2 : Int)))), (8, .o (.a (.rs 11 (0 : Nat) (48 : Nat) 32))), (9, .o (.a (.i .i64 (40 : Int)))), (13, .o (.a (.p 0 0))), (14, .o (.a (.p 0 0))), (15, .o (.a (.p 0 5))), (16, .o (.a (.rs 1 (0 : Nat) (3 : Nat) 1))), (17, .o (.a (.i .i64 (3 : Int)))), (18, .o (.a (.rs 1 (0 : Nat) (3 : Nat) 1))), (19, .o (.a (.i .i64 (3 : Int)))), (20, .o (.a (.b false))), (21, .o (.a (.i .i64 (2 : Int)))), (22, .o (.a (.i .i64 (3 : Int)))), (41, .o (.a (.i .i64 (2 : Int)))), (42, .o (.a (.rs 1 (0 : Nat) (3 : Nat) 1))), (43, .o (.a (.i .i64 (3 : Int)))), (44, .o (.a (.b true))), (45, .o (.a (.i .i64 (1 : Int)))), (46, .o (.a (.i .i64 (2 : Int)))), (47, .o (.a (.rs 1 (0 : Nat) (3 : Nat) 1))), (48, .o (.a (.i .i64 (2 : Int)))), (49, .o (.a (.ps 1 (2 : Nat)))), (50, .o (.a (.rs 4 (0 : Nat) (8 : Nat) 32))), (62, .o (.a (.rs 7 (0 : Nat) (1 : Nat) 1))), (63, .o (.a (.rs 8 (0 : Nat) (48 : Nat) 32))), (64, .o (.a (.sl 9 (0 : Nat) (1 : Nat) (1 : Nat)))), (65, .o (.a (.rs 10 (0 : Nat) (2 : Nat) 1)))], [some ⟨true, (bkC (.rs 1 (0 : Nat) (3 : Nat) 1))⟩, some ⟨true, [.rs 2 (0 : Nat) (8 : Nat) 32, .rs 3 (0 : Nat) (8 : Nat) 32, .rs 4 (0 : Nat) (8 : Nat) 32]⟩, some ⟨false, [.ints .u8 (256 : Nat) (rwM (0 : Int) (8 : Nat))]⟩, some ⟨false, [.ints .u8 (256 : Nat) (rwM (1 : Int) (8 : Nat))]⟩, some ⟨false, [.ints .u8 (256 : Nat) (rwM (2 : Int) (8 : Nat))]⟩, some ⟨false, [.ints .u8 (1536 : Nat) (rwM (0 : Int) (48 : Nat))]⟩, some ⟨true, [.rs 5 (0 : Nat) (48 : Nat) 32]⟩, none, some ⟨false, [.ints .u8 (1536 : Nat) (rwM (1 : Int) (48 : Nat))]⟩, some ⟨true, [.rs 8 (0 : Nat) (48 : Nat) 32]⟩, some ⟨true, [.rs 5 (0 : Nat) (48 : Nat) 32, .rs 8 (0 : Nat) (48 : Nat) 32]⟩, some ⟨false, [.ints .u8 (1536 : Nat) (rwM (2 : Int) (48 : Nat))]⟩]⟩

def bkG2_mk0 (L0 : List Int) (L1 : List Int) (L2 : List Int) : St := ⟨sparse 113 [(0, .o (.a (.p 0 0))), (3, .o (.a (.rs 1 (0 : Nat) (3 : Nat) 1))), (4, .o (.a (.i .i64 (3 : Int)))), (5, .o (.a (.i .i64 (8 : Int)))), (6, .o (.a (.rs 10 (0 : Nat) (2 : Nat) 1))), (7, .o (.a (.i .i64 (2 : Int)))), (8, .o (.a (.rs 4 (0 : Nat) (8 : Nat) 32))), (9, .o (.a (.i .i64 (0 : Int)))), (13, .o (.a (.p 0 0))), (14, .o (.a (.p 0 0))), (15, .o (.a (.p 0 5))), (16, .o (.a (.rs 1 (0 : Nat) (3 : Nat) 1))), (17, .o (.a (.i .i64 (3 : Int)))), (18, .o (.a (.rs 1 (0 : Nat) (3 : Nat) 1))), (19, .o (.a (.i .i64 (3 : Int)))), (20, .o (.a (.b false))), (21, .o (.a (.i .i64 (2 : Int)))), (22, .o (.a (.i .i64 (3 : Int)))), (41, .o (.a (.i .i64 (2 : Int)))), (42, .o (.a (.rs 1 (0 : Nat) (3 : Nat) 1))), (43, .o (.a (.i .i64 (3 : Int)))), (44, .o (.a (.b true))), (45, .o (.a (.i .i64 (1 : Int)))), (46, .o (.a (.i .i64 (2 : Int)))), (47, .o (.a (.rs 1 (0 : Nat) (3 : Nat) 1))), (48, .o (.a (.i .i64 (2 : Int)))), (49, .o (.a (.ps 1 (2 : Nat)))), (50, .o (.a (.rs 4 (0 : Nat) (8 : Nat) 32))), (62, .o (.a (.rs 7 (0 : Nat) (1 : Nat) 1))), (63, .o (.a (.rs 8 (0 : Nat) (48 : Nat) 32))), (64, .o (.a (.sl 9 (0 : Nat) (1 : Nat) (1 : Nat)))), (65, .o (.a (.rs 10 (0 : Nat) (2 : Nat) 1)))], [some ⟨true, (bkC (.rs 1 (0 : Nat) (3 : Nat) 1))⟩, some ⟨true, [.rs 2 (0 : Nat) (8 : Nat) 32, .rs 3 (0 : Nat) (8 : Nat) 32, .rs 4 (0 : Nat) (8 : Nat) 32]⟩, some ⟨false, [.ints .u8 (256 : Nat) (rwM (0 : Int) (8 : Nat))]⟩, some ⟨false, [.ints .u8 (256 : Nat) (rwM (1 : Int) (8 : Nat))]⟩, some ⟨true, [.ints .u8 (256 : Nat) (rwM (2 : Int) (8 : Nat))]⟩, some ⟨false, [.ints .u8 (1536 : Nat) (rwM (0 : Int) (48 : Nat))]⟩, some ⟨true, [.rs 5 (0 : Nat) (48 : Nat) 32]⟩, none, some ⟨false, [.ints .u8 (1536 : Nat) (rwM (1 : Int) (48 : Nat))]⟩, some ⟨true, [.rs 8 (0 : Nat) (48 : Nat) 32]⟩, some ⟨true, [.rs 5 (0 : Nat) (48 : Nat) 32, .rs 8 (0 : Nat) (48 : Nat) 32]⟩]⟩

set_option maxHeartbeats 1000000 in
theorem bkG2_rA (L0 : List Int) (L1 : List Int) (L2 : List Int) (hl2_0 : List.length L0 = (256 : Nat)) (hl3_0 : List.length L1 = (256 : Nat)) (hl4_0 : List.length L2 = (256 : Nat)) (w : World) (rw : List Nat) (β : Env) (cap : Nat) (J : List Value) (k : Nat) (hk : k < 40) (hc : ((8 : Nat) + (k + (1 : Nat))) ≤ cap) : Run Try.prog ⟨w, rw, 5, β⟩ (loopB Try.f66 6) (bkG2_mkA L0 L1 L2 cap J k) (To ⟨w, rw, 5, β⟩ .normal (bkG2_mkA L0 L1 L2 cap J (k + 1))) := by
  have e0 : ((rwM (2 : Int) ((8 : Nat) + k)) ++ (sub (mkEl (2 : Int) ((((8 : Nat) + k) : Nat) : Int)) (0 : Nat) (32 : Nat))) = (rwM (2 : Int) ((8 : Nat) + (k + (1 : Nat)))) := (by first | rfl | exact wrap_succ (by omega) | omega | exact rwM_grow _ _ | (rw [List.drop_drop]; congr 1; omega))
  have e1 : (((cap - ((8 : Nat) + k)) * (32 : Nat)) - (32 : Nat)) = ((cap - ((8 : Nat) + (k + (1 : Nat)))) * (32 : Nat)) := (by first | rfl | exact wrap_succ (by omega) | omega | exact rwM_grow _ _ | (rw [List.drop_drop]; congr 1; omega))
  have e2 : (List.drop (32 : Nat) (List.drop (k * (32 : Nat)) J)) = (List.drop ((k + (1 : Nat)) * (32 : Nat)) J) := (by first | rfl | exact wrap_succ (by omega) | omega | exact rwM_grow _ _ | (rw [List.drop_drop]; congr 1; omega))
  have e3 : (IntKind.i64.wrap (((k : Nat) : Int) + (1 : Int))) = (((k + (1 : Nat)) : Nat) : Int) := (by first | rfl | exact wrap_succ (by omega) | omega | exact rwM_grow _ _ | (rw [List.drop_drop]; congr 1; omega))
  have e4 : ((((8 : Nat) + k) * (32 : Nat)) + (32 : Nat)) = (((8 : Nat) + (k + (1 : Nat))) * (32 : Nat)) := (by first | rfl | exact wrap_succ (by omega) | omega | exact rwM_grow _ _ | (rw [List.drop_drop]; congr 1; omega))
  have e5 : (((8 : Nat) + k) + (1 : Nat)) = ((8 : Nat) + (k + (1 : Nat))) := (by first | rfl | exact wrap_succ (by omega) | omega | exact rwM_grow _ _ | (rw [List.drop_drop]; congr 1; omega))
  have h := Run.of_outT (B := ⟨w, rw, 5, β⟩) (Λ := noLam) (Ψ := noPsi) (fuel := 0) (ora := [true, true]) (c := (loopB Try.f66 6)) (st := (bkG2_mkA L0 L1 L2 cap J k)) (l := [.forget [0, 3, 4, 5, 6, 7, 8, 9, 13, 14, 15, 16, 17, 18, 19, 20, 21, 22, 41, 42, 43, 44, 45, 46, 47, 48, 49, 50, 62, 63, 64, 65] 11]) (s' := ⟨sparse 113 [(0, .o (.a (.p 0 0))), (3, .o (.a (.rs 1 (0 : Nat) (3 : Nat) 1))), (4, .o (.a (.i .i64 (3 : Int)))), (5, .o (.a (.i .i64 (8 : Int)))), (6, .o (.a (.rs 10 (0 : Nat) (2 : Nat) 1))), (7, .o (.a (.i .i64 (2 : Int)))), (8, .o (.a (.sl 4 (0 : Nat) (((8 : Nat) + k) + (1 : Nat)) cap))), (9, .o (.a (.i .i64 (IntKind.i64.wrap (((k : Nat) : Int) + (1 : Int)))))), (13, .o (.a (.p 0 0))), (14, .o (.a (.p 0 0))), (15, .o (.a (.p 0 5))), (16, .o (.a (.rs 1 (0 : Nat) (3 : Nat) 1))), (17, .o (.a (.i .i64 (3 : Int)))), (18, .o (.a (.rs 1 (0 : Nat) (3 : Nat) 1))), (19, .o (.a (.i .i64 (3 : Int)))), (20, .o (.a (.b false))), (21, .o (.a (.i .i64 (2 : Int)))), (22, .o (.a (.i .i64 (3 : Int)))), (41, .o (.a (.i .i64 (2 : Int)))), (42, .o (.a (.rs 1 (0 : Nat) (3 : Nat) 1))), (43, .o (.a (.i .i64 (3 : Int)))), (44, .o (.a (.b true))), (45, .o (.a (.i .i64 (1 : Int)))), (46, .o (.a (.i .i64 (2 : Int)))), (47, .o (.a (.rs 1 (0 : Nat) (3 : Nat) 1))), (48, .o (.a (.i .i64 (2 : Int)))), (49, .o (.a (.ps 1 (2 : Nat)))), (50, .o (.a (.rs 4 (0 : Nat) (8 : Nat) 32))), (62, .o (.a (.rs 7 (0 : Nat) (1 : Nat) 1))), (63, .o (.a (.rs 8 (0 : Nat) (48 : Nat) 32))), (64, .o (.a (.sl 9 (0 : Nat) (1 : Nat) (1 : Nat)))), (65, .o (.a (.rs 10 (0 : Nat) (2 : Nat) 1)))], [some ⟨true, (bkC (.rs 1 (0 : Nat) (3 : Nat) 1))⟩, some ⟨true, [.rs 2 (0 : Nat) (8 : Nat) 32, .rs 3 (0 : Nat) (8 : Nat) 32, .rs 4 (0 : Nat) (8 : Nat) 32]⟩, some ⟨false, [.ints .u8 (256 : Nat) (rwM (0 : Int) (8 : Nat))]⟩, some ⟨false, [.ints .u8 (256 : Nat) (rwM (1 : Int) (8 : Nat))]⟩, some ⟨true, [.ints .u8 ((((8 : Nat) + k) * (32 : Nat)) + (32 : Nat)) ((rwM (2 : Int) ((8 : Nat) + k)) ++ (sub (mkEl (2 : Int) ((((8 : Nat) + k) : Nat) : Int)) (0 : Nat) (32 : Nat))), .vals (((cap - ((8 : Nat) + k)) * (32 : Nat)) - (32 : Nat)) (List.drop (32 : Nat) (List.drop (k * (32 : Nat)) J))]⟩, some ⟨false, [.ints .u8 (1536 : Nat) (rwM (0 : Int) (48 : Nat))]⟩, some ⟨true, [.rs 5 (0 : Nat) (48 : Nat) 32]⟩, none, some ⟨false, [.ints .u8 (1536 : Nat) (rwM (1 : Int) (48 : Nat))]⟩, some ⟨true, [.rs 8 (0 : Nat) (48 : Nat) 32]⟩, some ⟨true, [.rs 5 (0 : Nat) (48 : Nat) 32, .rs 8 (0 : Nat) (48 : Nat) 32]⟩]⟩) (ex := .normal) mix tabOkSB gam71_ok
    (vc := [((((1 : Nat) ≤ (1 : Nat)) ∧ ((32 : Nat) ≤ (32 : Nat))) ∧ (okP (some ((((0 : Nat) + (((8 : Nat) + k) * (32 : Nat))) = (((8 : Nat) + k) * (32 : Nat))) ∧ ((32 : Nat) ≤ ((cap - ((8 : Nat) + k)) * (32 : Nat)))))) ∧ ((((8 : Nat) + k) + (1 : Nat)) ≤ cap)), ((decide (((k : Nat) : Int) < (40 : Int))) = true)]) (by kernel_rfl)
    (AllP_cons ⟨⟨(by decide), (by decide)⟩, (show ((((0 : Nat) + (((8 : Nat) + k) * (32 : Nat))) = (((8 : Nat) + k) * (32 : Nat))) ∧ ((32 : Nat) ≤ ((cap - ((8 : Nat) + k)) * (32 : Nat)))) from ⟨(by first | omega | (simp (disch := omega) only [wrapI]; omega)), (by first | omega | (simp (disch := omega) only [wrapI]; omega))⟩), (by first | omega | (simp (disch := omega) only [wrapI]; omega))⟩ (AllP_cons (decide_eq_true (by first | omega | (simp (disch := omega) only [wrapI]; omega))) (AllP_nil)))
  rw [e0, e1, e2, e3, e4, e5] at h
  exact h

def bkG2_mkX (L0 : List Int) (L1 : List Int) (L2 : List Int) (cap : Nat) (J : List Value) (k : Nat) : St := ⟨sparse 113 [(0, .o (.a (.p 0 0))), (3, .o (.a (.rs 1 (0 : Nat) (3 : Nat) 1))), (4, .o (.a (.i .i64 (3 : Int)))), (5, .o (.a (.i .i64 (8 : Int)))), (6, .o (.a (.rs 10 (0 : Nat) (2 : Nat) 1))), (7, .o (.a (.i .i64 (2 : Int)))), (8, .o (.a (.rs 11 (0 : Nat) ((8 : Nat) + (k + (1 : Nat))) 32))), (9, .o (.a (.i .i64 (((k + (1 : Nat)) : Nat) : Int)))), (13, .o (.a (.p 0 0))), (14, .o (.a (.p 0 0))), (15, .o (.a (.p 0 5))), (16, .o (.a (.rs 1 (0 : Nat) (3 : Nat) 1))), (17, .o (.a (.i .i64 (3 : Int)))), (18, .o (.a (.rs 1 (0 : Nat) (3 : Nat) 1))), (19, .o (.a (.i .i64 (3 : Int)))), (20, .o (.a (.b false))), (21, .o (.a (.i .i64 (2 : Int)))), (22, .o (.a (.i .i64 (3 : Int)))), (41, .o (.a (.i .i64 (2 : Int)))), (42, .o (.a (.rs 1 (0 : Nat) (3 : Nat) 1))), (43, .o (.a (.i .i64 (3 : Int)))), (44, .o (.a (.b true))), (45, .o (.a (.i .i64 (1 : Int)))), (46, .o (.a (.i .i64 (2 : Int)))), (47, .o (.a (.rs 1 (0 : Nat) (3 : Nat) 1))), (48, .o (.a (.i .i64 (2 : Int)))), (49, .o (.a (.ps 1 (2 : Nat)))), (50, .o (.a (.rs 4 (0 : Nat) (8 : Nat) 32))), (62, .o (.a (.rs 7 (0 : Nat) (1 : Nat) 1))), (63, .o (.a (.rs 8 (0 : Nat) (48 : Nat) 32))), (64, .o (.a (.sl 9 (0 : Nat) (1 : Nat) (1 : Nat)))), (65, .o (.a (.rs 10 (0 : Nat) (2 : Nat) 1)))], [some ⟨true, (bkC (.rs 1 (0 : Nat) (3 : Nat) 1))⟩, some ⟨true, [.rs 2 (0 : Nat) (8 : Nat) 32, .rs 3 (0 : Nat) (8 : Nat) 32, .rs 4 (0 : Nat) (8 : Nat) 32]⟩, some ⟨false, [.ints .u8 (256 : Nat) (rwM (0 : Int) (8 : Nat))]⟩, some ⟨false, [.ints .u8 (256 : Nat) (rwM (1 : Int) (8 : Nat))]⟩, some ⟨true, [.ints .u8 (((8 : Nat) + k) * (32 : Nat)) (rwM (2 : Int) ((8 : Nat) + k)), .vals ((cap - ((8 : Nat) + k)) * (32 : Nat)) (List.drop (k * (32 : Nat)) J)]⟩, some ⟨false, [.ints .u8 (1536 : Nat) (rwM (0 : Int) (48 : Nat))]⟩, some ⟨true, [.rs 5 (0 : Nat) (48 : Nat) 32]⟩, none, some ⟨false, [.ints .u8 (1536 : Nat) (rwM (1 : Int) (48 : Nat))]⟩, some ⟨true, [.rs 8 (0 : Nat) (48 : Nat) 32]⟩, some ⟨true, [.rs 5 (0 : Nat) (48 : Nat) 32, .rs 8 (0 : Nat) (48 : Nat) 32]⟩, some ⟨true, [.ints .u8 (((8 : Nat) + (k + (1 : Nat))) * (32 : Nat)) (rwM (2 : Int) ((8 : Nat) + (k + (1 : Nat))))]⟩]⟩

set_option maxHeartbeats 1000000 in
theorem bkG2_rX (L0 : List Int) (L1 : List Int) (L2 : List Int) (hl2_0 : List.length L0 = (256 : Nat)) (hl3_0 : List.length L1 = (256 : Nat)) (hl4_0 : List.length L2 = (256 : Nat)) (w : World) (rw : List Nat) (β : Env) (cap : Nat) (J : List Value) (k : Nat) (hk : k < 40) (hc : cap < ((8 : Nat) + (k + (1 : Nat)))) : Run Try.prog ⟨w, rw, 5, β⟩ (loopB Try.f66 6) (bkG2_mkA L0 L1 L2 cap J k) (To ⟨w, rw, 5, β⟩ .normal (bkG2_mkX L0 L1 L2 cap J k)) := by
  have e0 : ((sub (rwM (2 : Int) ((8 : Nat) + k)) (0 : Nat) (((8 : Nat) + k) * (32 : Nat))) ++ (sub (mkEl (2 : Int) ((((8 : Nat) + k) : Nat) : Int)) (0 : Nat) (32 : Nat))) = (rwM (2 : Int) ((8 : Nat) + (k + (1 : Nat)))) := (by first | rfl | exact wrap_succ (by omega) | omega | exact rwM_grow _ _ | (rw [List.drop_drop]; congr 1; omega))
  have e1 : (IntKind.i64.wrap (((k : Nat) : Int) + (1 : Int))) = (((k + (1 : Nat)) : Nat) : Int) := (by first | rfl | exact wrap_succ (by omega) | omega | exact rwM_grow _ _ | (rw [List.drop_drop]; congr 1; omega))
  have e2 : ((((8 : Nat) + k) * (32 : Nat)) + (32 : Nat)) = (((8 : Nat) + (k + (1 : Nat))) * (32 : Nat)) := (by first | rfl | exact wrap_succ (by omega) | omega | exact rwM_grow _ _ | (rw [List.drop_drop]; congr 1; omega))
  have e3 : (((8 : Nat) + k) + (1 : Nat)) = ((8 : Nat) + (k + (1 : Nat))) := (by first | rfl | exact wrap_succ (by omega) | omega | exact rwM_grow _ _ | (rw [List.drop_drop]; congr 1; omega))
  have h := Run.of_outT (B := ⟨w, rw, 5, β⟩) (Λ := noLam) (Ψ := noPsi) (fuel := 0) (ora := [true, false]) (c := (loopB Try.f66 6)) (st := (bkG2_mkA L0 L1 L2 cap J k)) (l := [.swap 11 12, .forget [0, 3, 4, 5, 6, 7, 8, 9, 13, 14, 15, 16, 17, 18, 19, 20, 21, 22, 41, 42, 43, 44, 45, 46, 47, 48, 49, 50, 62, 63, 64, 65] 12]) (s' := ⟨sparse 113 [(0, .o (.a (.p 0 0))), (3, .o (.a (.rs 1 (0 : Nat) (3 : Nat) 1))), (4, .o (.a (.i .i64 (3 : Int)))), (5, .o (.a (.i .i64 (8 : Int)))), (6, .o (.a (.rs 10 (0 : Nat) (2 : Nat) 1))), (7, .o (.a (.i .i64 (2 : Int)))), (8, .o (.a (.rs 11 (0 : Nat) (((8 : Nat) + k) + (1 : Nat)) 32))), (9, .o (.a (.i .i64 (IntKind.i64.wrap (((k : Nat) : Int) + (1 : Int)))))), (13, .o (.a (.p 0 0))), (14, .o (.a (.p 0 0))), (15, .o (.a (.p 0 5))), (16, .o (.a (.rs 1 (0 : Nat) (3 : Nat) 1))), (17, .o (.a (.i .i64 (3 : Int)))), (18, .o (.a (.rs 1 (0 : Nat) (3 : Nat) 1))), (19, .o (.a (.i .i64 (3 : Int)))), (20, .o (.a (.b false))), (21, .o (.a (.i .i64 (2 : Int)))), (22, .o (.a (.i .i64 (3 : Int)))), (41, .o (.a (.i .i64 (2 : Int)))), (42, .o (.a (.rs 1 (0 : Nat) (3 : Nat) 1))), (43, .o (.a (.i .i64 (3 : Int)))), (44, .o (.a (.b true))), (45, .o (.a (.i .i64 (1 : Int)))), (46, .o (.a (.i .i64 (2 : Int)))), (47, .o (.a (.rs 1 (0 : Nat) (3 : Nat) 1))), (48, .o (.a (.i .i64 (2 : Int)))), (49, .o (.a (.ps 1 (2 : Nat)))), (50, .o (.a (.rs 4 (0 : Nat) (8 : Nat) 32))), (62, .o (.a (.rs 7 (0 : Nat) (1 : Nat) 1))), (63, .o (.a (.rs 8 (0 : Nat) (48 : Nat) 32))), (64, .o (.a (.sl 9 (0 : Nat) (1 : Nat) (1 : Nat)))), (65, .o (.a (.rs 10 (0 : Nat) (2 : Nat) 1)))], [some ⟨true, (bkC (.rs 1 (0 : Nat) (3 : Nat) 1))⟩, some ⟨true, [.rs 2 (0 : Nat) (8 : Nat) 32, .rs 3 (0 : Nat) (8 : Nat) 32, .rs 4 (0 : Nat) (8 : Nat) 32]⟩, some ⟨false, [.ints .u8 (256 : Nat) (rwM (0 : Int) (8 : Nat))]⟩, some ⟨false, [.ints .u8 (256 : Nat) (rwM (1 : Int) (8 : Nat))]⟩, some ⟨true, [.ints .u8 (((8 : Nat) + k) * (32 : Nat)) (rwM (2 : Int) ((8 : Nat) + k)), .vals ((cap - ((8 : Nat) + k)) * (32 : Nat)) (List.drop (k * (32 : Nat)) J)]⟩, some ⟨false, [.ints .u8 (1536 : Nat) (rwM (0 : Int) (48 : Nat))]⟩, some ⟨true, [.rs 5 (0 : Nat) (48 : Nat) 32]⟩, none, some ⟨false, [.ints .u8 (1536 : Nat) (rwM (1 : Int) (48 : Nat))]⟩, some ⟨true, [.rs 8 (0 : Nat) (48 : Nat) 32]⟩, some ⟨true, [.rs 5 (0 : Nat) (48 : Nat) 32, .rs 8 (0 : Nat) (48 : Nat) 32]⟩, some ⟨true, [.ints .u8 ((((8 : Nat) + k) * (32 : Nat)) + (32 : Nat)) ((sub (rwM (2 : Int) ((8 : Nat) + k)) (0 : Nat) (((8 : Nat) + k) * (32 : Nat))) ++ (sub (mkEl (2 : Int) ((((8 : Nat) + k) : Nat) : Int)) (0 : Nat) (32 : Nat)))]⟩]⟩) (ex := .normal) mix tabOkSB gam71_ok
    (vc := [((((0 : Nat) + (((8 : Nat) + k) * (32 : Nat))) ≤ (((8 : Nat) + k) * (32 : Nat))) ∧ (((1 : Nat) ≤ (1 : Nat)) ∧ ((32 : Nat) ≤ (32 : Nat))) ∧ (cap < (((8 : Nat) + k) + (1 : Nat))) ∧ (((((8 : Nat) + k) + (1 : Nat)) * (32 : Nat)) ≤ (140737488355328 : Nat))), ((decide (((k : Nat) : Int) < (40 : Int))) = true)]) (by kernel_rfl)
    (AllP_cons ⟨(by first | omega | (simp (disch := omega) only [wrapI]; omega)), ⟨(by decide), (by decide)⟩, (by first | omega | (simp (disch := omega) only [wrapI]; omega)), (by first | omega | (simp (disch := omega) only [wrapI]; omega))⟩ (AllP_cons (decide_eq_true (by first | omega | (simp (disch := omega) only [wrapI]; omega))) (AllP_nil)))
  rw [e0, e1, e2, e3] at h
  exact h

set_option maxHeartbeats 1000000 in
theorem bkG2_rB (L0 : List Int) (L1 : List Int) (L2 : List Int) (hl2_0 : List.length L0 = (256 : Nat)) (hl3_0 : List.length L1 = (256 : Nat)) (hl4_0 : List.length L2 = (256 : Nat)) (w : World) (rw : List Nat) (β : Env) (k : Nat) (hk : k < 40) : Run Try.prog ⟨w, rw, 5, β⟩ (loopB Try.f66 6) (bkG2_mkB L0 L1 L2 k) (To ⟨w, rw, 5, β⟩ .normal (bkG2_mkB L0 L1 L2 (k + 1))) := by
  have e0 : ((sub (rwM (2 : Int) ((8 : Nat) + k)) (0 : Nat) (((8 : Nat) + k) * (32 : Nat))) ++ (sub (mkEl (2 : Int) ((((8 : Nat) + k) : Nat) : Int)) (0 : Nat) (32 : Nat))) = (rwM (2 : Int) ((8 : Nat) + (k + (1 : Nat)))) := (by first | rfl | exact wrap_succ (by omega) | omega | exact rwM_grow _ _ | (rw [List.drop_drop]; congr 1; omega))
  have e1 : (IntKind.i64.wrap (((k : Nat) : Int) + (1 : Int))) = (((k + (1 : Nat)) : Nat) : Int) := (by first | rfl | exact wrap_succ (by omega) | omega | exact rwM_grow _ _ | (rw [List.drop_drop]; congr 1; omega))
  have e2 : ((((8 : Nat) + k) * (32 : Nat)) + (32 : Nat)) = (((8 : Nat) + (k + (1 : Nat))) * (32 : Nat)) := (by first | rfl | exact wrap_succ (by omega) | omega | exact rwM_grow _ _ | (rw [List.drop_drop]; congr 1; omega))
  have e3 : (((8 : Nat) + k) + (1 : Nat)) = ((8 : Nat) + (k + (1 : Nat))) := (by first | rfl | exact wrap_succ (by omega) | omega | exact rwM_grow _ _ | (rw [List.drop_drop]; congr 1; omega))
  have h := Run.of_outT (B := ⟨w, rw, 5, β⟩) (Λ := noLam) (Ψ := noPsi) (fuel := 0) (ora := [true, false]) (c := (loopB Try.f66 6)) (st := (bkG2_mkB L0 L1 L2 k)) (l := [.swap 11 13, .forget [0, 3, 4, 5, 6, 7, 8, 9, 13, 14, 15, 16, 17, 18, 19, 20, 21, 22, 41, 42, 43, 44, 45, 46, 47, 48, 49, 50, 62, 63, 64, 65] 12]) (s' := ⟨sparse 113 [(0, .o (.a (.p 0 0))), (3, .o (.a (.rs 1 (0 : Nat) (3 : Nat) 1))), (4, .o (.a (.i .i64 (3 : Int)))), (5, .o (.a (.i .i64 (8 : Int)))), (6, .o (.a (.rs 10 (0 : Nat) (2 : Nat) 1))), (7, .o (.a (.i .i64 (2 : Int)))), (8, .o (.a (.rs 11 (0 : Nat) (((8 : Nat) + k) + (1 : Nat)) 32))), (9, .o (.a (.i .i64 (IntKind.i64.wrap (((k : Nat) : Int) + (1 : Int)))))), (13, .o (.a (.p 0 0))), (14, .o (.a (.p 0 0))), (15, .o (.a (.p 0 5))), (16, .o (.a (.rs 1 (0 : Nat) (3 : Nat) 1))), (17, .o (.a (.i .i64 (3 : Int)))), (18, .o (.a (.rs 1 (0 : Nat) (3 : Nat) 1))), (19, .o (.a (.i .i64 (3 : Int)))), (20, .o (.a (.b false))), (21, .o (.a (.i .i64 (2 : Int)))), (22, .o (.a (.i .i64 (3 : Int)))), (41, .o (.a (.i .i64 (2 : Int)))), (42, .o (.a (.rs 1 (0 : Nat) (3 : Nat) 1))), (43, .o (.a (.i .i64 (3 : Int)))), (44, .o (.a (.b true))), (45, .o (.a (.i .i64 (1 : Int)))), (46, .o (.a (.i .i64 (2 : Int)))), (47, .o (.a (.rs 1 (0 : Nat) (3 : Nat) 1))), (48, .o (.a (.i .i64 (2 : Int)))), (49, .o (.a (.ps 1 (2 : Nat)))), (50, .o (.a (.rs 4 (0 : Nat) (8 : Nat) 32))), (62, .o (.a (.rs 7 (0 : Nat) (1 : Nat) 1))), (63, .o (.a (.rs 8 (0 : Nat) (48 : Nat) 32))), (64, .o (.a (.sl 9 (0 : Nat) (1 : Nat) (1 : Nat)))), (65, .o (.a (.rs 10 (0 : Nat) (2 : Nat) 1)))], [some ⟨true, (bkC (.rs 1 (0 : Nat) (3 : Nat) 1))⟩, some ⟨true, [.rs 2 (0 : Nat) (8 : Nat) 32, .rs 3 (0 : Nat) (8 : Nat) 32, .rs 4 (0 : Nat) (8 : Nat) 32]⟩, some ⟨false, [.ints .u8 (256 : Nat) (rwM (0 : Int) (8 : Nat))]⟩, some ⟨false, [.ints .u8 (256 : Nat) (rwM (1 : Int) (8 : Nat))]⟩, some ⟨false, [.ints .u8 (256 : Nat) (rwM (2 : Int) (8 : Nat))]⟩, some ⟨false, [.ints .u8 (1536 : Nat) (rwM (0 : Int) (48 : Nat))]⟩, some ⟨true, [.rs 5 (0 : Nat) (48 : Nat) 32]⟩, none, some ⟨false, [.ints .u8 (1536 : Nat) (rwM (1 : Int) (48 : Nat))]⟩, some ⟨true, [.rs 8 (0 : Nat) (48 : Nat) 32]⟩, some ⟨true, [.rs 5 (0 : Nat) (48 : Nat) 32, .rs 8 (0 : Nat) (48 : Nat) 32]⟩, some ⟨true, [.ints .u8 ((((8 : Nat) + k) * (32 : Nat)) + (32 : Nat)) ((sub (rwM (2 : Int) ((8 : Nat) + k)) (0 : Nat) (((8 : Nat) + k) * (32 : Nat))) ++ (sub (mkEl (2 : Int) ((((8 : Nat) + k) : Nat) : Int)) (0 : Nat) (32 : Nat)))]⟩]⟩) (ex := .normal) mix tabOkSB gam71_ok
    (vc := [((((0 : Nat) + (((8 : Nat) + k) * (32 : Nat))) ≤ (((8 : Nat) + k) * (32 : Nat))) ∧ (((1 : Nat) ≤ (1 : Nat)) ∧ ((32 : Nat) ≤ (32 : Nat))) ∧ (((((8 : Nat) + k) + (1 : Nat)) * (32 : Nat)) ≤ (140737488355328 : Nat))), ((decide (((k : Nat) : Int) < (40 : Int))) = true)]) (by kernel_rfl)
    (AllP_cons ⟨(by first | omega | (simp (disch := omega) only [wrapI]; omega)), ⟨(by decide), (by decide)⟩, (by first | omega | (simp (disch := omega) only [wrapI]; omega))⟩ (AllP_cons (decide_eq_true (by first | omega | (simp (disch := omega) only [wrapI]; omega))) (AllP_nil)))
  rw [e0, e1, e2, e3] at h
  exact h

set_option maxHeartbeats 1000000 in
theorem bkG2_lA (L0 : List Int) (L1 : List Int) (L2 : List Int) (hl2_0 : List.length L0 = (256 : Nat)) (hl3_0 : List.length L1 = (256 : Nat)) (hl4_0 : List.length L2 = (256 : Nat)) (w : World) (rw : List Nat) (β : Env) (cap : Nat) (J : List Value) : Run Try.prog ⟨w, rw, 5, β⟩ (loopB Try.f66 6) (bkG2_mkA L0 L1 L2 cap J 40) (To ⟨w, rw, 5, β⟩ (.exit 6) (bkG2_mkA L0 L1 L2 cap J 40)) := by
  have h := Run.of_outT (B := ⟨w, rw, 5, β⟩) (Λ := noLam) (Ψ := noPsi) (fuel := 0) (ora := [false]) (c := (loopB Try.f66 6)) (st := (bkG2_mkA L0 L1 L2 cap J 40)) (l := [.forget [0, 3, 4, 5, 6, 7, 8, 9, 13, 14, 15, 16, 17, 18, 19, 20, 21, 22, 41, 42, 43, 44, 45, 46, 47, 48, 49, 50, 62, 63, 64, 65] 11]) (s' := ⟨sparse 113 [(0, .o (.a (.p 0 0))), (3, .o (.a (.rs 1 (0 : Nat) (3 : Nat) 1))), (4, .o (.a (.i .i64 (3 : Int)))), (5, .o (.a (.i .i64 (8 : Int)))), (6, .o (.a (.rs 10 (0 : Nat) (2 : Nat) 1))), (7, .o (.a (.i .i64 (2 : Int)))), (8, .o (.a (.sl 4 (0 : Nat) (48 : Nat) cap))), (9, .o (.a (.i .i64 (40 : Int)))), (13, .o (.a (.p 0 0))), (14, .o (.a (.p 0 0))), (15, .o (.a (.p 0 5))), (16, .o (.a (.rs 1 (0 : Nat) (3 : Nat) 1))), (17, .o (.a (.i .i64 (3 : Int)))), (18, .o (.a (.rs 1 (0 : Nat) (3 : Nat) 1))), (19, .o (.a (.i .i64 (3 : Int)))), (20, .o (.a (.b false))), (21, .o (.a (.i .i64 (2 : Int)))), (22, .o (.a (.i .i64 (3 : Int)))), (41, .o (.a (.i .i64 (2 : Int)))), (42, .o (.a (.rs 1 (0 : Nat) (3 : Nat) 1))), (43, .o (.a (.i .i64 (3 : Int)))), (44, .o (.a (.b true))), (45, .o (.a (.i .i64 (1 : Int)))), (46, .o (.a (.i .i64 (2 : Int)))), (47, .o (.a (.rs 1 (0 : Nat) (3 : Nat) 1))), (48, .o (.a (.i .i64 (2 : Int)))), (49, .o (.a (.ps 1 (2 : Nat)))), (50, .o (.a (.rs 4 (0 : Nat) (8 : Nat) 32))), (62, .o (.a (.rs 7 (0 : Nat) (1 : Nat) 1))), (63, .o (.a (.rs 8 (0 : Nat) (48 : Nat) 32))), (64, .o (.a (.sl 9 (0 : Nat) (1 : Nat) (1 : Nat)))), (65, .o (.a (.rs 10 (0 : Nat) (2 : Nat) 1)))], [some ⟨true, (bkC (.rs 1 (0 : Nat) (3 : Nat) 1))⟩, some ⟨true, [.rs 2 (0 : Nat) (8 : Nat) 32, .rs 3 (0 : Nat) (8 : Nat) 32, .rs 4 (0 : Nat) (8 : Nat) 32]⟩, some ⟨false, [.ints .u8 (256 : Nat) (rwM (0 : Int) (8 : Nat))]⟩, some ⟨false, [.ints .u8 (256 : Nat) (rwM (1 : Int) (8 : Nat))]⟩, some ⟨true, [.ints .u8 (1536 : Nat) (rwM (2 : Int) (48 : Nat)), .vals ((cap - (48 : Nat)) * (32 : Nat)) (List.drop (1280 : Nat) J)]⟩, some ⟨false, [.ints .u8 (1536 : Nat) (rwM (0 : Int) (48 : Nat))]⟩, some ⟨true, [.rs 5 (0 : Nat) (48 : Nat) 32]⟩, none, some ⟨false, [.ints .u8 (1536 : Nat) (rwM (1 : Int) (48 : Nat))]⟩, some ⟨true, [.rs 8 (0 : Nat) (48 : Nat) 32]⟩, some ⟨true, [.rs 5 (0 : Nat) (48 : Nat) 32, .rs 8 (0 : Nat) (48 : Nat) 32]⟩]⟩) (ex := (.exit 6)) mix tabOkSB gam71_ok
    (vc := [(false = false)]) (by kernel_rfl)
    (AllP_cons rfl (AllP_nil))
  exact h

set_option maxHeartbeats 1000000 in
theorem bkG2_lB (L0 : List Int) (L1 : List Int) (L2 : List Int) (hl2_0 : List.length L0 = (256 : Nat)) (hl3_0 : List.length L1 = (256 : Nat)) (hl4_0 : List.length L2 = (256 : Nat)) (w : World) (rw : List Nat) (β : Env) : Run Try.prog ⟨w, rw, 5, β⟩ (loopB Try.f66 6) (bkG2_mkB L0 L1 L2 40) (To ⟨w, rw, 5, β⟩ (.exit 6) (bkG2_mkB L0 L1 L2 40)) := by
  have h := Run.of_outT (B := ⟨w, rw, 5, β⟩) (Λ := noLam) (Ψ := noPsi) (fuel := 0) (ora := [false]) (c := (loopB Try.f66 6)) (st := (bkG2_mkB L0 L1 L2 40)) (l := [.forget [0, 3, 4, 5, 6, 7, 8, 9, 13, 14, 15, 16, 17, 18, 19, 20, 21, 22, 41, 42, 43, 44, 45, 46, 47, 48, 49, 50, 62, 63, 64, 65] 12]) (s' := ⟨sparse 113 [(0, .o (.a (.p 0 0))), (3, .o (.a (.rs 1 (0 : Nat) (3 : Nat) 1))), (4, .o (.a (.i .i64 (3 : Int)))), (5, .o (.a (.i .i64 (8 : Int)))), (6, .o (.a (.rs 10 (0 : Nat) (2 : Nat) 1))), (7, .o (.a (.i .i64 (2 : Int)))), (8, .o (.a (.rs 11 (0 : Nat) (48 : Nat) 32))), (9, .o (.a (.i .i64 (40 : Int)))), (13, .o (.a (.p 0 0))), (14, .o (.a (.p 0 0))), (15, .o (.a (.p 0 5))), (16, .o (.a (.rs 1 (0 : Nat) (3 : Nat) 1))), (17, .o (.a (.i .i64 (3 : Int)))), (18, .o (.a (.rs 1 (0 : Nat) (3 : Nat) 1))), (19, .o (.a (.i .i64 (3 : Int)))), (20, .o (.a (.b false))), (21, .o (.a (.i .i64 (2 : Int)))), (22, .o (.a (.i .i64 (3 : Int)))), (41, .o (.a (.i .i64 (2 : Int)))), (42, .o (.a (.rs 1 (0 : Nat) (3 : Nat) 1))), (43, .o (.a (.i .i64 (3 : Int)))), (44, .o (.a (.b true))), (45, .o (.a (.i .i64 (1 : Int)))), (46, .o (.a (.i .i64 (2 : Int)))), (47, .o (.a (.rs 1 (0 : Nat) (3 : Nat) 1))), (48, .o (.a (.i .i64 (2 : Int)))), (49, .o (.a (.ps 1 (2 : Nat)))), (50, .o (.a (.rs 4 (0 : Nat) (8 : Nat) 32))), (62, .o (.a (.rs 7 (0 : Nat) (1 : Nat) 1))), (63, .o (.a (.rs 8 (0 : Nat) (48 : Nat) 32))), (64, .o (.a (.sl 9 (0 : Nat) (1 : Nat) (1 : Nat)))), (65, .o (.a (.rs 10 (0 : Nat) (2 : Nat) 1)))], [some ⟨true, (bkC (.rs 1 (0 : Nat) (3 : Nat) 1))⟩, some ⟨true, [.rs 2 (0 : Nat) (8 : Nat) 32, .rs 3 (0 : Nat) (8 : Nat) 32, .rs 4 (0 : Nat) (8 : Nat) 32]⟩, some ⟨false, [.ints .u8 (256 : Nat) (rwM (0 : Int) (8 : Nat))]⟩, some ⟨false, [.ints .u8 (256 : Nat) (rwM (1 : Int) (8 : Nat))]⟩, some ⟨false, [.ints .u8 (256 : Nat) (rwM (2 : Int) (8 : Nat))]⟩, some ⟨false, [.ints .u8 (1536 : Nat) (rwM (0 : Int) (48 : Nat))]⟩, some ⟨true, [.rs 5 (0 : Nat) (48 : Nat) 32]⟩, none, some ⟨false, [.ints .u8 (1536 : Nat) (rwM (1 : Int) (48 : Nat))]⟩, some ⟨true, [.rs 8 (0 : Nat) (48 : Nat) 32]⟩, some ⟨true, [.rs 5 (0 : Nat) (48 : Nat) 32, .rs 8 (0 : Nat) (48 : Nat) 32]⟩, some ⟨true, [.ints .u8 (1536 : Nat) (rwM (2 : Int) (48 : Nat))]⟩]⟩) (ex := (.exit 6)) mix tabOkSB gam71_ok
    (vc := [(false = false)]) (by kernel_rfl)
    (AllP_cons rfl (AllP_nil))
  exact h

set_option maxHeartbeats 1000000 in
theorem bkG2_loop (L0 : List Int) (L1 : List Int) (L2 : List Int) (hl2_0 : List.length L0 = (256 : Nat)) (hl3_0 : List.length L1 = (256 : Nat)) (hl4_0 : List.length L2 = (256 : Nat)) (w : World) (rw : List Nat) (β : Env) : Run Try.prog ⟨w, rw, 5, β⟩ (.block 6 (.loop (loopB Try.f66 6))) (bkG2_mk0 L0 L1 L2) (To ⟨w, rw, 5, β⟩ .normal (bkG2_mkF L0 L1 L2)) := by
  intro b1 a1 w1 hR Q hq
  obtain ⟨cap, J, hc, hJ, hR⟩ := hR.opened (t := 8) (j := 4) (c := 0) (len := (8 : Nat)) (z := 32) (by rfl) (cells := [.ints .u8 (256 : Nat) (rwM (2 : Int) (8 : Nat))]) (by rfl) (by simp [sizes, Atom.size])
  have hR := hR.cast (s' := bkG2_mkA L0 L1 L2 cap J 0) (by kernel_rfl)
  have hX : bkG2_mkA L0 L1 L2 cap J 0 = (fun k => if ((8 : Nat) + k) ≤ cap then bkG2_mkA L0 L1 L2 cap J k else bkG2_mkB L0 L1 L2 k) 0 := by
    show _ = if (8 : Nat) ≤ cap then _ else _
    rw [if_pos hc]
  rw [hX] at hR
  refine Run.count (fun k => if ((8 : Nat) + k) ≤ cap then bkG2_mkA L0 L1 L2 cap J k else bkG2_mkB L0 L1 L2 k) 40 (ex := .exit 6) (post := (bkG2_mkF L0 L1 L2)) (fun k hk => ?_) (by simp) ?_ b1 a1 w1 hR Q ?_
  · show Run _ _ _ (if ((8 : Nat) + k) ≤ cap then _ else _) (To _ _ (if ((8 : Nat) + (k + (1 : Nat))) ≤ cap then _ else _))
    by_cases h1 : ((8 : Nat) + (k + (1 : Nat))) ≤ cap
    · rw [if_pos h1, if_pos (by omega)]
      exact bkG2_rA L0 L1 L2 hl2_0 hl3_0 hl4_0 w rw β cap J k hk h1
    · rw [if_neg h1]
      by_cases h2 : ((8 : Nat) + k) ≤ cap
      · rw [if_pos h2]
        exact (bkG2_rX L0 L1 L2 hl2_0 hl3_0 hl4_0 w rw β cap J k hk (by omega)).to_weak fun b1 a1 w1 h => ⟨b1, (Rel.stilled (j := 4) h (by rfl) (c1 := [.ints .u8 (256 : Nat) (rwM (2 : Int) (8 : Nat))]) (Pre.pref (rwM_pref 2 8 _) (rwM_len 2 8) _)).cast (by kernel_rfl)⟩
      · rw [if_neg h2]
        exact bkG2_rB L0 L1 L2 hl2_0 hl3_0 hl4_0 w rw β k hk
  · show Run _ _ _ (if (48 : Nat) ≤ cap then _ else _) _
    by_cases h1 : (48 : Nat) ≤ cap
    · rw [if_pos h1]
      exact (bkG2_lA L0 L1 L2 hl2_0 hl3_0 hl4_0 w rw β cap J).to_weak fun b1 a1 w1 h => ⟨_, (Rel.twin (t := 8) (j := 4) (c := 0) (len := (48 : Nat)) (cap := cap) (z := 32) h (by kernel_rfl) (by kernel_rfl) (by rfl) (by rfl) (by simp only [sizes, Atom.size, List.map_cons, List.map_nil, List.sum_cons, List.sum_nil]; omega) (c1 := [.ints .u8 (256 : Nat) (rwM (2 : Int) (8 : Nat))]) (c2 := [.ints .u8 (1536 : Nat) (rwM (2 : Int) (48 : Nat))]) (Pre.pref (rwM_pref 2 8 _) (rwM_len 2 8) _) (Pre.all _) (by rfl) (by rfl)).cast (by kernel_rfl)⟩
    · rw [if_neg h1]
      exact (bkG2_lB L0 L1 L2 hl2_0 hl3_0 hl4_0 w rw β).to_weak fun b1 a1 w1 h => ⟨b1, (Rel.stilled (j := 11) h (by rfl) (c1 := [.ints .u8 (1536 : Nat) (rwM (2 : Int) (48 : Nat))]) (Pre.all _)).cast (by kernel_rfl)⟩
  · exact hq

def bkC0_mk (L0 : List Int) (L1 : List Int) (L2 : List Int) (k : Nat) (s : Unit) : St := ⟨sparse 113 [(0, .o (.a (.p 0 0))), (3, .o (.a (.rs 1 (0 : Nat) (3 : Nat) 1))), (4, .o (.a (.i .i64 (3 : Int)))), (5, .o (.a (.i .i64 (8 : Int)))), (6, .o (.a (.rs 13 (0 : Nat) (3 : Nat) 1))), (7, .o (.a (.i .i64 (3 : Int)))), (8, .o (.a (.rs 11 (0 : Nat) (48 : Nat) 32))), (9, .o (.a (.i .i64 (40 : Int)))), (10, .o (.a (.i .i64 (0 : Int)))), (11, .o (.a (.i .i64 ((k : Nat) : Int)))), (13, .o (.a (.p 0 0))), (14, .o (.a (.p 0 0))), (15, .o (.a (.p 0 5))), (16, .o (.a (.rs 1 (0 : Nat) (3 : Nat) 1))), (17, .o (.a (.i .i64 (3 : Int)))), (18, .o (.a (.rs 1 (0 : Nat) (3 : Nat) 1))), (19, .o (.a (.i .i64 (3 : Int)))), (20, .o (.a (.b false))), (21, .o (.a (.i .i64 (2 : Int)))), (22, .o (.a (.i .i64 (3 : Int)))), (41, .o (.a (.i .i64 (3 : Int)))), (42, .o (.a (.rs 1 (0 : Nat) (3 : Nat) 1))), (43, .o (.a (.i .i64 (3 : Int)))), (44, .o (.a (.b false))), (45, .o (.a (.i .i64 (2 : Int)))), (46, .o (.a (.i .i64 (3 : Int)))), (47, .o (.a (.rs 1 (0 : Nat) (3 : Nat) 1))), (48, .o (.a (.i .i64 (2 : Int)))), (49, .o (.a (.ps 1 (2 : Nat)))), (50, .o (.a (.rs 4 (0 : Nat) (8 : Nat) 32))), (62, .o (.a (.rs 10 (0 : Nat) (2 : Nat) 1))), (63, .o (.a (.rs 11 (0 : Nat) (48 : Nat) 32))), (64, .o (.a (.sl 12 (0 : Nat) (1 : Nat) (1 : Nat)))), (65, .o (.a (.rs 13 (0 : Nat) (3 : Nat) 1))), (66, .o (.a (.i .i64 (0 : Int)))), (67, .o (.a (.rs 1 (0 : Nat) (3 : Nat) 1))), (68, .o (.a (.i .i64 (3 : Int)))), (69, .o (.a (.b true)))], [some ⟨true, (bkC (.rs 1 (0 : Nat) (3 : Nat) 1))⟩, some ⟨true, [.rs 2 (0 : Nat) (8 : Nat) 32, .rs 3 (0 : Nat) (8 : Nat) 32, .rs 4 (0 : Nat) (8 : Nat) 32]⟩, some ⟨false, [.ints .u8 (256 : Nat) (rwM (0 : Int) (8 : Nat))]⟩, some ⟨false, [.ints .u8 (256 : Nat) (rwM (1 : Int) (8 : Nat))]⟩, some ⟨false, [.ints .u8 (256 : Nat) (rwM (2 : Int) (8 : Nat))]⟩, some ⟨false, [.ints .u8 (1536 : Nat) (rwM (0 : Int) (48 : Nat))]⟩, some ⟨true, [.rs 5 (0 : Nat) (48 : Nat) 32]⟩, none, some ⟨false, [.ints .u8 (1536 : Nat) (rwM (1 : Int) (48 : Nat))]⟩, some ⟨true, [.rs 8 (0 : Nat) (48 : Nat) 32]⟩, none, some ⟨false, [.ints .u8 (1536 : Nat) (rwM (2 : Int) (48 : Nat))]⟩, some ⟨true, [.rs 11 (0 : Nat) (48 : Nat) 32]⟩, some ⟨true, [.rs 5 (0 : Nat) (48 : Nat) 32, .rs 8 (0 : Nat) (48 : Nat) 32, .rs 11 (0 : Nat) (48 : Nat) 32]⟩]⟩

def bkC0_step (k : Nat) (s : Unit) : Unit :=
  ()

set_option maxHeartbeats 1000000 in
theorem bkC0_round_0 (L0 : List Int) (L1 : List Int) (L2 : List Int) (hl2_0 : List.length L0 = (256 : Nat)) (hl3_0 : List.length L1 = (256 : Nat)) (hl4_0 : List.length L2 = (256 : Nat)) (w : World) (rw : List Nat) (β : Env) (k : Nat) (hk : k < (48 : Nat)) (s : Unit) (ha : k < 8) : Run Try.prog ⟨w, rw, 5, β⟩ (loopB Try.f66 10) (bkC0_mk L0 L1 L2 k s) (To ⟨w, rw, 5, β⟩ .normal (bkC0_mk L0 L1 L2 (k + 1) (bkC0_step k s))) := by
  have e0 : (IntKind.i64.wrap (((k : Nat) : Int) + (1 : Int))) = (((k + (1 : Nat)) : Nat) : Int) := (by first | rfl | exact wrap_succ (by omega) | omega | (simp (disch := omega) only [wrapI]; omega))
  have h := Run.of_outT (B := ⟨w, rw, 5, β⟩) (Λ := noLam) (Ψ := noPsi) (fuel := 0) (ora := [true, true, true, true, true, true, true, true, true, true, true, true, true, true, true, true, true, true, true, true, false, false]) (c := (loopB Try.f66 10)) (st := (bkC0_mk L0 L1 L2 k s)) (l := [.forget [0, 3, 4, 5, 6, 7, 8, 9, 10, 11, 13, 14, 15, 16, 17, 18, 19, 20, 21, 22, 41, 42, 43, 44, 45, 46, 47, 48, 49, 50, 62, 63, 64, 65, 66, 67, 68, 69] 14]) (s' := ⟨sparse 113 [(0, .o (.a (.p 0 0))), (3, .o (.a (.rs 1 (0 : Nat) (3 : Nat) 1))), (4, .o (.a (.i .i64 (3 : Int)))), (5, .o (.a (.i .i64 (8 : Int)))), (6, .o (.a (.rs 13 (0 : Nat) (3 : Nat) 1))), (7, .o (.a (.i .i64 (3 : Int)))), (8, .o (.a (.rs 11 (0 : Nat) (48 : Nat) 32))), (9, .o (.a (.i .i64 (40 : Int)))), (10, .o (.a (.i .i64 (0 : Int)))), (11, .o (.a (.i .i64 (IntKind.i64.wrap (((k : Nat) : Int) + (1 : Int)))))), (13, .o (.a (.p 0 0))), (14, .o (.a (.p 0 0))), (15, .o (.a (.p 0 5))), (16, .o (.a (.rs 1 (0 : Nat) (3 : Nat) 1))), (17, .o (.a (.i .i64 (3 : Int)))), (18, .o (.a (.rs 1 (0 : Nat) (3 : Nat) 1))), (19, .o (.a (.i .i64 (3 : Int)))), (20, .o (.a (.b false))), (21, .o (.a (.i .i64 (2 : Int)))), (22, .o (.a (.i .i64 (3 : Int)))), (41, .o (.a (.i .i64 (3 : Int)))), (42, .o (.a (.rs 1 (0 : Nat) (3 : Nat) 1))), (43, .o (.a (.i .i64 (3 : Int)))), (44, .o (.a (.b false))), (45, .o (.a (.i .i64 (2 : Int)))), (46, .o (.a (.i .i64 (3 : Int)))), (47, .o (.a (.rs 1 (0 : Nat) (3 : Nat) 1))), (48, .o (.a (.i .i64 (2 : Int)))), (49, .o (.a (.ps 1 (2 : Nat)))), (50, .o (.a (.rs 4 (0 : Nat) (8 : Nat) 32))), (62, .o (.a (.rs 10 (0 : Nat) (2 : Nat) 1))), (63, .o (.a (.rs 11 (0 : Nat) (48 : Nat) 32))), (64, .o (.a (.sl 12 (0 : Nat) (1 : Nat) (1 : Nat)))), (65, .o (.a (.rs 13 (0 : Nat) (3 : Nat) 1))), (66, .o (.a (.i .i64 (0 : Int)))), (67, .o (.a (.rs 1 (0 : Nat) (3 : Nat) 1))), (68, .o (.a (.i .i64 (3 : Int)))), (69, .o (.a (.b true)))], [some ⟨true, (bkC (.rs 1 (0 : Nat) (3 : Nat) 1))⟩, some ⟨true, [.rs 2 (0 : Nat) (8 : Nat) 32, .rs 3 (0 : Nat) (8 : Nat) 32, .rs 4 (0 : Nat) (8 : Nat) 32]⟩, some ⟨false, [.ints .u8 (256 : Nat) (rwM (0 : Int) (8 : Nat))]⟩, some ⟨false, [.ints .u8 (256 : Nat) (rwM (1 : Int) (8 : Nat))]⟩, some ⟨false, [.ints .u8 (256 : Nat) (rwM (2 : Int) (8 : Nat))]⟩, some ⟨false, [.ints .u8 (1536 : Nat) (rwM (0 : Int) (48 : Nat))]⟩, some ⟨true, [.rs 5 (0 : Nat) (48 : Nat) 32]⟩, none, some ⟨false, [.ints .u8 (1536 : Nat) (rwM (1 : Int) (48 : Nat))]⟩, some ⟨true, [.rs 8 (0 : Nat) (48 : Nat) 32]⟩, none, some ⟨false, [.ints .u8 (1536 : Nat) (rwM (2 : Int) (48 : Nat))]⟩, some ⟨true, [.rs 11 (0 : Nat) (48 : Nat) 32]⟩, some ⟨true, [.rs 5 (0 : Nat) (48 : Nat) 32, .rs 8 (0 : Nat) (48 : Nat) 32, .rs 11 (0 : Nat) (48 : Nat) 32]⟩]⟩) (ex := .normal) mix tabOkSB gam71_ok
    (vc := (let q0 : Prop := ((!(decide ((sub (rwM (0 : Int) (48 : Nat)) (k * (32 : Nat)) (32 : Nat)) = (mkEl (0 : Int) ((k : Nat) : Int))))) = false); [((!(decide ((sub (rwM (0 : Int) (8 : Nat)) (k * (32 : Nat)) (32 : Nat)) = (mkEl (0 : Int) ((k : Nat) : Int))))) = false), q0, ((decide (((k : Nat) : Int) < (8 : Int))) = true), q0, ((decide (((k : Nat) : Int) < (8 : Int))) = true), ((decide (((k : Nat) : Int) < (8 : Int))) = true), (((k * (32 : Nat)) + (32 : Nat)) ≤ (256 : Nat)), ((decide (((k : Nat) : Int) < (8 : Int))) = true), (((0 : Int) ≤ ((k : Nat) : Int)) ∧ (((k : Nat) : Int) < (8 : Int))), ((decide (((k : Nat) : Int) < (8 : Int))) = true), ((decide (((k : Nat) : Int) < (8 : Int))) = true), ((decide (((k : Nat) : Int) < (8 : Int))) = true), (((0 : Int) ≤ (0 : Int)) ∧ ((0 : Int) < (3 : Int))), ((decide (((k : Nat) : Int) < (8 : Int))) = true), ((decide (((k : Nat) : Int) < (8 : Int))) = true), ((decide (((k : Nat) : Int) < (8 : Int))) = true), q0, q0, q0, q0, (((0 : Int) ≤ (0 : Int)) ∧ ((0 : Int) < (3 : Int))), q0, q0, q0, q0, (((k * (32 : Nat)) + (32 : Nat)) ≤ (1536 : Nat)), (((0 : Int) ≤ ((k : Nat) : Int)) ∧ (((k : Nat) : Int) < (48 : Int))), (((0 : Int) ≤ (0 : Int)) ∧ ((0 : Int) < (3 : Int))), ((decide (((k : Nat) : Int) < (48 : Int))) = true), (((0 : Int) ≤ (0 : Int)) ∧ ((0 : Int) < (3 : Int)))])) (by kernel_rfl)
    (AllP_cons (not_dec (rwM_sub _ (by omega))) (AllP_cons (not_dec (rwM_sub _ (by omega))) (AllP_cons (decide_eq_true (by omega)) (AllP_cons (not_dec (rwM_sub _ (by omega))) (AllP_cons (decide_eq_true (by omega)) (AllP_cons (decide_eq_true (by omega)) (AllP_cons (by first | omega | (simp (disch := omega) only [wrapI]; omega)) (AllP_cons (decide_eq_true (by omega)) (AllP_cons ⟨(by first | omega | (simp (disch := omega) only [wrapI]; omega)), (by first | omega | (simp (disch := omega) only [wrapI]; omega))⟩ (AllP_cons (decide_eq_true (by omega)) (AllP_cons (decide_eq_true (by omega)) (AllP_cons (decide_eq_true (by omega)) (AllP_cons ⟨(by decide), (by decide)⟩ (AllP_cons (decide_eq_true (by omega)) (AllP_cons (decide_eq_true (by omega)) (AllP_cons (decide_eq_true (by omega)) (AllP_cons (not_dec (rwM_sub _ (by omega))) (AllP_cons (not_dec (rwM_sub _ (by omega))) (AllP_cons (not_dec (rwM_sub _ (by omega))) (AllP_cons (not_dec (rwM_sub _ (by omega))) (AllP_cons ⟨(by decide), (by decide)⟩ (AllP_cons (not_dec (rwM_sub _ (by omega))) (AllP_cons (not_dec (rwM_sub _ (by omega))) (AllP_cons (not_dec (rwM_sub _ (by omega))) (AllP_cons (not_dec (rwM_sub _ (by omega))) (AllP_cons (by first | omega | (simp (disch := omega) only [wrapI]; omega)) (AllP_cons ⟨(by first | omega | (simp (disch := omega) only [wrapI]; omega)), (by first | omega | (simp (disch := omega) only [wrapI]; omega))⟩ (AllP_cons ⟨(by decide), (by decide)⟩ (AllP_cons (decide_eq_true (by omega)) (AllP_cons ⟨(by decide), (by decide)⟩ (AllP_nil)))))))))))))))))))))))))))))))
  rw [e0] at h
  exact h

set_option maxHeartbeats 1000000 in
theorem bkC0_round_1 (L0 : List Int) (L1 : List Int) (L2 : List Int) (hl2_0 : List.length L0 = (256 : Nat)) (hl3_0 : List.length L1 = (256 : Nat)) (hl4_0 : List.length L2 = (256 : Nat)) (w : World) (rw : List Nat) (β : Env) (k : Nat) (hk : k < (48 : Nat)) (s : Unit) (ha : ¬ k < 8) : Run Try.prog ⟨w, rw, 5, β⟩ (loopB Try.f66 10) (bkC0_mk L0 L1 L2 k s) (To ⟨w, rw, 5, β⟩ .normal (bkC0_mk L0 L1 L2 (k + 1) (bkC0_step k s))) := by
  have e0 : (IntKind.i64.wrap (((k : Nat) : Int) + (1 : Int))) = (((k + (1 : Nat)) : Nat) : Int) := (by first | rfl | exact wrap_succ (by omega) | omega | (simp (disch := omega) only [wrapI]; omega))
  have h := Run.of_outT (B := ⟨w, rw, 5, β⟩) (Λ := noLam) (Ψ := noPsi) (fuel := 0) (ora := [true, true, true, true, true, true, true, true, true, false, false, false, false, false, false, false, false, false, true, false, false, false]) (c := (loopB Try.f66 10)) (st := (bkC0_mk L0 L1 L2 k s)) (l := [.forget [0, 3, 4, 5, 6, 7, 8, 9, 10, 11, 13, 14, 15, 16, 17, 18, 19, 20, 21, 22, 41, 42, 43, 44, 45, 46, 47, 48, 49, 50, 62, 63, 64, 65, 66, 67, 68, 69] 14]) (s' := ⟨sparse 113 [(0, .o (.a (.p 0 0))), (3, .o (.a (.rs 1 (0 : Nat) (3 : Nat) 1))), (4, .o (.a (.i .i64 (3 : Int)))), (5, .o (.a (.i .i64 (8 : Int)))), (6, .o (.a (.rs 13 (0 : Nat) (3 : Nat) 1))), (7, .o (.a (.i .i64 (3 : Int)))), (8, .o (.a (.rs 11 (0 : Nat) (48 : Nat) 32))), (9, .o (.a (.i .i64 (40 : Int)))), (10, .o (.a (.i .i64 (0 : Int)))), (11, .o (.a (.i .i64 (IntKind.i64.wrap (((k : Nat) : Int) + (1 : Int)))))), (13, .o (.a (.p 0 0))), (14, .o (.a (.p 0 0))), (15, .o (.a (.p 0 5))), (16, .o (.a (.rs 1 (0 : Nat) (3 : Nat) 1))), (17, .o (.a (.i .i64 (3 : Int)))), (18, .o (.a (.rs 1 (0 : Nat) (3 : Nat) 1))), (19, .o (.a (.i .i64 (3 : Int)))), (20, .o (.a (.b false))), (21, .o (.a (.i .i64 (2 : Int)))), (22, .o (.a (.i .i64 (3 : Int)))), (41, .o (.a (.i .i64 (3 : Int)))), (42, .o (.a (.rs 1 (0 : Nat) (3 : Nat) 1))), (43, .o (.a (.i .i64 (3 : Int)))), (44, .o (.a (.b false))), (45, .o (.a (.i .i64 (2 : Int)))), (46, .o (.a (.i .i64 (3 : Int)))), (47, .o (.a (.rs 1 (0 : Nat) (3 : Nat) 1))), (48, .o (.a (.i .i64 (2 : Int)))), (49, .o (.a (.ps 1 (2 : Nat)))), (50, .o (.a (.rs 4 (0 : Nat) (8 : Nat) 32))), (62, .o (.a (.rs 10 (0 : Nat) (2 : Nat) 1))), (63, .o (.a (.rs 11 (0 : Nat) (48 : Nat) 32))), (64, .o (.a (.sl 12 (0 : Nat) (1 : Nat) (1 : Nat)))), (65, .o (.a (.rs 13 (0 : Nat) (3 : Nat) 1))), (66, .o (.a (.i .i64 (0 : Int)))), (67, .o (.a (.rs 1 (0 : Nat) (3 : Nat) 1))), (68, .o (.a (.i .i64 (3 : Int)))), (69, .o (.a (.b true)))], [some ⟨true, (bkC (.rs 1 (0 : Nat) (3 : Nat) 1))⟩, some ⟨true, [.rs 2 (0 : Nat) (8 : Nat) 32, .rs 3 (0 : Nat) (8 : Nat) 32, .rs 4 (0 : Nat) (8 : Nat) 32]⟩, some ⟨false, [.ints .u8 (256 : Nat) (rwM (0 : Int) (8 : Nat))]⟩, some ⟨false, [.ints .u8 (256 : Nat) (rwM (1 : Int) (8 : Nat))]⟩, some ⟨false, [.ints .u8 (256 : Nat) (rwM (2 : Int) (8 : Nat))]⟩, some ⟨false, [.ints .u8 (1536 : Nat) (rwM (0 : Int) (48 : Nat))]⟩, some ⟨true, [.rs 5 (0 : Nat) (48 : Nat) 32]⟩, none, some ⟨false, [.ints .u8 (1536 : Nat) (rwM (1 : Int) (48 : Nat))]⟩, some ⟨true, [.rs 8 (0 : Nat) (48 : Nat) 32]⟩, none, some ⟨false, [.ints .u8 (1536 : Nat) (rwM (2 : Int) (48 : Nat))]⟩, some ⟨true, [.rs 11 (0 : Nat) (48 : Nat) 32]⟩, some ⟨true, [.rs 5 (0 : Nat) (48 : Nat) 32, .rs 8 (0 : Nat) (48 : Nat) 32, .rs 11 (0 : Nat) (48 : Nat) 32]⟩]⟩) (ex := .normal) mix tabOkSB gam71_ok
    (vc := (let q0 : Prop := ((!(decide ((sub (rwM (0 : Int) (48 : Nat)) (k * (32 : Nat)) (32 : Nat)) = (mkEl (0 : Int) ((k : Nat) : Int))))) = false); [(false = false), q0, ((decide (((k : Nat) : Int) < (8 : Int))) = false), q0, ((decide (((k : Nat) : Int) < (8 : Int))) = false), ((decide (((k : Nat) : Int) < (8 : Int))) = false), ((decide (((k : Nat) : Int) < (8 : Int))) = false), ((decide (((k : Nat) : Int) < (8 : Int))) = false), ((decide (((k : Nat) : Int) < (8 : Int))) = false), ((decide (((k : Nat) : Int) < (8 : Int))) = false), ((decide (((k : Nat) : Int) < (8 : Int))) = false), ((decide (((k : Nat) : Int) < (8 : Int))) = false), ((decide (((k : Nat) : Int) < (8 : Int))) = false), q0, q0, q0, q0, (((0 : Int) ≤ (0 : Int)) ∧ ((0 : Int) < (3 : Int))), q0, q0, q0, q0, (((k * (32 : Nat)) + (32 : Nat)) ≤ (1536 : Nat)), (((0 : Int) ≤ ((k : Nat) : Int)) ∧ (((k : Nat) : Int) < (48 : Int))), (((0 : Int) ≤ (0 : Int)) ∧ ((0 : Int) < (3 : Int))), ((decide (((k : Nat) : Int) < (48 : Int))) = true), (((0 : Int) ≤ (0 : Int)) ∧ ((0 : Int) < (3 : Int)))])) (by kernel_rfl)
    (AllP_cons rfl (AllP_cons (not_dec (rwM_sub _ (by omega))) (AllP_cons (decide_eq_false (by omega)) (AllP_cons (not_dec (rwM_sub _ (by omega))) (AllP_cons (decide_eq_false (by omega)) (AllP_cons (decide_eq_false (by omega)) (AllP_cons (decide_eq_false (by omega)) (AllP_cons (decide_eq_false (by omega)) (AllP_cons (decide_eq_false (by omega)) (AllP_cons (decide_eq_false (by omega)) (AllP_cons (decide_eq_false (by omega)) (AllP_cons (decide_eq_false (by omega)) (AllP_cons (decide_eq_false (by omega)) (AllP_cons (not_dec (rwM_sub _ (by omega))) (AllP_cons (not_dec (rwM_sub _ (by omega))) (AllP_cons (not_dec (rwM_sub _ (by omega))) (AllP_cons (not_dec (rwM_sub _ (by omega))) (AllP_cons ⟨(by decide), (by decide)⟩ (AllP_cons (not_dec (rwM_sub _ (by omega))) (AllP_cons (not_dec (rwM_sub _ (by omega))) (AllP_cons (not_dec (rwM_sub _ (by omega))) (AllP_cons (not_dec (rwM_sub _ (by omega))) (AllP_cons (by first | omega | (simp (disch := omega) only [wrapI]; omega)) (AllP_cons ⟨(by first | omega | (simp (disch := omega) only [wrapI]; omega)), (by first | omega | (simp (disch := omega) only [wrapI]; omega))⟩ (AllP_cons ⟨(by decide), (by decide)⟩ (AllP_cons (decide_eq_true (by omega)) (AllP_cons ⟨(by decide), (by decide)⟩ (AllP_nil))))))))))))))))))))))))))))
  rw [e0] at h
  exact h

theorem bkC0_round (L0 : List Int) (L1 : List Int) (L2 : List Int) (hl2_0 : List.length L0 = (256 : Nat)) (hl3_0 : List.length L1 = (256 : Nat)) (hl4_0 : List.length L2 = (256 : Nat)) (w : World) (rw : List Nat) (β : Env) (k : Nat) (hk : k < (48 : Nat)) (s : Unit) : Run Try.prog ⟨w, rw, 5, β⟩ (loopB Try.f66 10) (bkC0_mk L0 L1 L2 k s) (To ⟨w, rw, 5, β⟩ .normal (bkC0_mk L0 L1 L2 (k + 1) (bkC0_step k s))) := by
  by_cases ha : k < 8
  · exact bkC0_round_0 L0 L1 L2 hl2_0 hl3_0 hl4_0 w rw β k hk s ha
  · exact bkC0_round_1 L0 L1 L2 hl2_0 hl3_0 hl4_0 w rw β k hk s ha

set_option maxHeartbeats 1000000 in
theorem bkC0_last (L0 : List Int) (L1 : List Int) (L2 : List Int) (hl2_0 : List.length L0 = (256 : Nat)) (hl3_0 : List.length L1 = (256 : Nat)) (hl4_0 : List.length L2 = (256 : Nat)) (w : World) (rw : List Nat) (β : Env) (s : Unit) : Run Try.prog ⟨w, rw, 5, β⟩ (loopB Try.f66 10) (bkC0_mk L0 L1 L2 (48 : Nat) s) (To ⟨w, rw, 5, β⟩ (.exit 10) (bkC0_mk L0 L1 L2 (48 : Nat) s)) :=
  Run.of_outT (B := ⟨w, rw, 5, β⟩) (Λ := noLam) (Ψ := noPsi) (fuel := 0) (ora := [false]) (l := [.forget [0, 3, 4, 5, 6, 7, 8, 9, 10, 11, 13, 14, 15, 16, 17, 18, 19, 20, 21, 22, 41, 42, 43, 44, 45, 46, 47, 48, 49, 50, 62, 63, 64, 65, 66, 67, 68, 69] 14]) mix tabOkSB gam71_ok
    (vc := [(false = false), (((0 : Int) ≤ (0 : Int)) ∧ ((0 : Int) < (3 : Int)))]) (by kernel_rfl)
    (AllP_cons rfl (AllP_cons ⟨(by decide), (by decide)⟩ (AllP_nil)))

theorem bkC0_loop (L0 : List Int) (L1 : List Int) (L2 : List Int) (hl2_0 : List.length L0 = (256 : Nat)) (hl3_0 : List.length L1 = (256 : Nat)) (hl4_0 : List.length L2 = (256 : Nat)) (w : World) (rw : List Nat) (β : Env) (s : Unit) : Run Try.prog ⟨w, rw, 5, β⟩ (.block 10 (.loop (loopB Try.f66 10))) (bkC0_mk L0 L1 L2 0 s) (To ⟨w, rw, 5, β⟩ .normal (bkC0_mk L0 L1 L2 (48 : Nat) (iter (bkC0_step) (48 : Nat) s))) :=
  Run.count (fun k => bkC0_mk L0 L1 L2 k (iter (bkC0_step) k s)) (48 : Nat) (fun k hk => bkC0_round L0 L1 L2 hl2_0 hl3_0 hl4_0 w rw β k hk _) (ex := (.exit 10)) (by simp) (bkC0_last L0 L1 L2 hl2_0 hl3_0 hl4_0 w rw β _)

def bkC1_mk (L0 : List Int) (L1 : List Int) (L2 : List Int) (k : Nat) (s : Unit) : St := ⟨sparse 113 [(0, .o (.a (.p 0 0))), (3, .o (.a (.rs 1 (0 : Nat) (3 : Nat) 1))), (4, .o (.a (.i .i64 (3 : Int)))), (5, .o (.a (.i .i64 (8 : Int)))), (6, .o (.a (.rs 13 (0 : Nat) (3 : Nat) 1))), (7, .o (.a (.i .i64 (3 : Int)))), (8, .o (.a (.rs 11 (0 : Nat) (48 : Nat) 32))), (9, .o (.a (.i .i64 (40 : Int)))), (10, .o (.a (.i .i64 (1 : Int)))), (11, .o (.a (.i .i64 ((k : Nat) : Int)))), (13, .o (.a (.p 0 0))), (14, .o (.a (.p 0 0))), (15, .o (.a (.p 0 5))), (16, .o (.a (.rs 1 (0 : Nat) (3 : Nat) 1))), (17, .o (.a (.i .i64 (3 : Int)))), (18, .o (.a (.rs 1 (0 : Nat) (3 : Nat) 1))), (19, .o (.a (.i .i64 (3 : Int)))), (20, .o (.a (.b false))), (21, .o (.a (.i .i64 (2 : Int)))), (22, .o (.a (.i .i64 (3 : Int)))), (41, .o (.a (.i .i64 (3 : Int)))), (42, .o (.a (.rs 1 (0 : Nat) (3 : Nat) 1))), (43, .o (.a (.i .i64 (3 : Int)))), (44, .o (.a (.b false))), (45, .o (.a (.i .i64 (2 : Int)))), (46, .o (.a (.i .i64 (3 : Int)))), (47, .o (.a (.rs 1 (0 : Nat) (3 : Nat) 1))), (48, .o (.a (.i .i64 (2 : Int)))), (49, .o (.a (.ps 1 (2 : Nat)))), (50, .o (.a (.rs 4 (0 : Nat) (8 : Nat) 32))), (62, .o (.a (.rs 10 (0 : Nat) (2 : Nat) 1))), (63, .o (.a (.rs 11 (0 : Nat) (48 : Nat) 32))), (64, .o (.a (.sl 12 (0 : Nat) (1 : Nat) (1 : Nat)))), (65, .o (.a (.rs 13 (0 : Nat) (3 : Nat) 1))), (66, .o (.a (.i .i64 (1 : Int)))), (67, .o (.a (.rs 1 (0 : Nat) (3 : Nat) 1))), (68, .o (.a (.i .i64 (3 : Int)))), (69, .o (.a (.b true))), (70, .o (.a (.i .i64 (0 : Int)))), (71, .o (.a (.i .i64 (1 : Int))))], [some ⟨true, (bkC (.rs 1 (0 : Nat) (3 : Nat) 1))⟩, some ⟨true, [.rs 2 (0 : Nat) (8 : Nat) 32, .rs 3 (0 : Nat) (8 : Nat) 32, .rs 4 (0 : Nat) (8 : Nat) 32]⟩, some ⟨false, [.ints .u8 (256 : Nat) (rwM (0 : Int) (8 : Nat))]⟩, some ⟨false, [.ints .u8 (256 : Nat) (rwM (1 : Int) (8 : Nat))]⟩, some ⟨false, [.ints .u8 (256 : Nat) (rwM (2 : Int) (8 : Nat))]⟩, some ⟨false, [.ints .u8 (1536 : Nat) (rwM (0 : Int) (48 : Nat))]⟩, some ⟨true, [.rs 5 (0 : Nat) (48 : Nat) 32]⟩, none, some ⟨false, [.ints .u8 (1536 : Nat) (rwM (1 : Int) (48 : Nat))]⟩, some ⟨true, [.rs 8 (0 : Nat) (48 : Nat) 32]⟩, none, some ⟨false, [.ints .u8 (1536 : Nat) (rwM (2 : Int) (48 : Nat))]⟩, some ⟨true, [.rs 11 (0 : Nat) (48 : Nat) 32]⟩, some ⟨true, [.rs 5 (0 : Nat) (48 : Nat) 32, .rs 8 (0 : Nat) (48 : Nat) 32, .rs 11 (0 : Nat) (48 : Nat) 32]⟩]⟩

def bkC1_step (k : Nat) (s : Unit) : Unit :=
  ()

set_option maxHeartbeats 1000000 in
theorem bkC1_round_0 (L0 : List Int) (L1 : List Int) (L2 : List Int) (hl2_0 : List.length L0 = (256 : Nat)) (hl3_0 : List.length L1 = (256 : Nat)) (hl4_0 : List.length L2 = (256 : Nat)) (w : World) (rw : List Nat) (β : Env) (k : Nat) (hk : k < (48 : Nat)) (s : Unit) (ha : k < 8) : Run Try.prog ⟨w, rw, 5, β⟩ (loopB Try.f66 10) (bkC1_mk L0 L1 L2 k s) (To ⟨w, rw, 5, β⟩ .normal (bkC1_mk L0 L1 L2 (k + 1) (bkC1_step k s))) := by
  have e0 : (IntKind.i64.wrap (((k : Nat) : Int) + (1 : Int))) = (((k + (1 : Nat)) : Nat) : Int) := (by first | rfl | exact wrap_succ (by omega) | omega | (simp (disch := omega) only [wrapI]; omega))
  have h := Run.of_outT (B := ⟨w, rw, 5, β⟩) (Λ := noLam) (Ψ := noPsi) (fuel := 0) (ora := [true, true, true, true, true, true, true, true, true, true, true, true, true, true, true, true, true, true, true, true, false, false]) (c := (loopB Try.f66 10)) (st := (bkC1_mk L0 L1 L2 k s)) (l := [.forget [0, 3, 4, 5, 6, 7, 8, 9, 10, 11, 13, 14, 15, 16, 17, 18, 19, 20, 21, 22, 41, 42, 43, 44, 45, 46, 47, 48, 49, 50, 62, 63, 64, 65, 66, 67, 68, 69, 70, 71] 14]) (s' := ⟨sparse 113 [(0, .o (.a (.p 0 0))), (3, .o (.a (.rs 1 (0 : Nat) (3 : Nat) 1))), (4, .o (.a (.i .i64 (3 : Int)))), (5, .o (.a (.i .i64 (8 : Int)))), (6, .o (.a (.rs 13 (0 : Nat) (3 : Nat) 1))), (7, .o (.a (.i .i64 (3 : Int)))), (8, .o (.a (.rs 11 (0 : Nat) (48 : Nat) 32))), (9, .o (.a (.i .i64 (40 : Int)))), (10, .o (.a (.i .i64 (1 : Int)))), (11, .o (.a (.i .i64 (IntKind.i64.wrap (((k : Nat) : Int) + (1 : Int)))))), (13, .o (.a (.p 0 0))), (14, .o (.a (.p 0 0))), (15, .o (.a (.p 0 5))), (16, .o (.a (.rs 1 (0 : Nat) (3 : Nat) 1))), (17, .o (.a (.i .i64 (3 : Int)))), (18, .o (.a (.rs 1 (0 : Nat) (3 : Nat) 1))), (19, .o (.a (.i .i64 (3 : Int)))), (20, .o (.a (.b false))), (21, .o (.a (.i .i64 (2 : Int)))), (22, .o (.a (.i .i64 (3 : Int)))), (41, .o (.a (.i .i64 (3 : Int)))), (42, .o (.a (.rs 1 (0 : Nat) (3 : Nat) 1))), (43, .o (.a (.i .i64 (3 : Int)))), (44, .o (.a (.b false))), (45, .o (.a (.i .i64 (2 : Int)))), (46, .o (.a (.i .i64 (3 : Int)))), (47, .o (.a (.rs 1 (0 : Nat) (3 : Nat) 1))), (48, .o (.a (.i .i64 (2 : Int)))), (49, .o (.a (.ps 1 (2 : Nat)))), (50, .o (.a (.rs 4 (0 : Nat) (8 : Nat) 32))), (62, .o (.a (.rs 10 (0 : Nat) (2 : Nat) 1))), (63, .o (.a (.rs 11 (0 : Nat) (48 : Nat) 32))), (64, .o (.a (.sl 12 (0 : Nat) (1 : Nat) (1 : Nat)))), (65, .o (.a (.rs 13 (0 : Nat) (3 : Nat) 1))), (66, .o (.a (.i .i64 (1 : Int)))), (67, .o (.a (.rs 1 (0 : Nat) (3 : Nat) 1))), (68, .o (.a (.i .i64 (3 : Int)))), (69, .o (.a (.b true))), (70, .o (.a (.i .i64 (0 : Int)))), (71, .o (.a (.i .i64 (1 : Int))))], [some ⟨true, (bkC (.rs 1 (0 : Nat) (3 : Nat) 1))⟩, some ⟨true, [.rs 2 (0 : Nat) (8 : Nat) 32, .rs 3 (0 : Nat) (8 : Nat) 32, .rs 4 (0 : Nat) (8 : Nat) 32]⟩, some ⟨false, [.ints .u8 (256 : Nat) (rwM (0 : Int) (8 : Nat))]⟩, some ⟨false, [.ints .u8 (256 : Nat) (rwM (1 : Int) (8 : Nat))]⟩, some ⟨false, [.ints .u8 (256 : Nat) (rwM (2 : Int) (8 : Nat))]⟩, some ⟨false, [.ints .u8 (1536 : Nat) (rwM (0 : Int) (48 : Nat))]⟩, some ⟨true, [.rs 5 (0 : Nat) (48 : Nat) 32]⟩, none, some ⟨false, [.ints .u8 (1536 : Nat) (rwM (1 : Int) (48 : Nat))]⟩, some ⟨true, [.rs 8 (0 : Nat) (48 : Nat) 32]⟩, none, some ⟨false, [.ints .u8 (1536 : Nat) (rwM (2 : Int) (48 : Nat))]⟩, some ⟨true, [.rs 11 (0 : Nat) (48 : Nat) 32]⟩, some ⟨true, [.rs 5 (0 : Nat) (48 : Nat) 32, .rs 8 (0 : Nat) (48 : Nat) 32, .rs 11 (0 : Nat) (48 : Nat) 32]⟩]⟩) (ex := .normal) mix tabOkSB gam71_ok
    (vc := (let q0 : Prop := ((!(decide ((sub (rwM (1 : Int) (48 : Nat)) (k * (32 : Nat)) (32 : Nat)) = (mkEl (1 : Int) ((k : Nat) : Int))))) = false); [((!(decide ((sub (rwM (1 : Int) (8 : Nat)) (k * (32 : Nat)) (32 : Nat)) = (mkEl (1 : Int) ((k : Nat) : Int))))) = false), q0, ((decide (((k : Nat) : Int) < (8 : Int))) = true), q0, ((decide (((k : Nat) : Int) < (8 : Int))) = true), ((decide (((k : Nat) : Int) < (8 : Int))) = true), (((k * (32 : Nat)) + (32 : Nat)) ≤ (256 : Nat)), ((decide (((k : Nat) : Int) < (8 : Int))) = true), (((0 : Int) ≤ ((k : Nat) : Int)) ∧ (((k : Nat) : Int) < (8 : Int))), ((decide (((k : Nat) : Int) < (8 : Int))) = true), ((decide (((k : Nat) : Int) < (8 : Int))) = true), ((decide (((k : Nat) : Int) < (8 : Int))) = true), (((0 : Int) ≤ (1 : Int)) ∧ ((1 : Int) < (3 : Int))), ((decide (((k : Nat) : Int) < (8 : Int))) = true), ((decide (((k : Nat) : Int) < (8 : Int))) = true), ((decide (((k : Nat) : Int) < (8 : Int))) = true), q0, q0, q0, q0, (((0 : Int) ≤ (1 : Int)) ∧ ((1 : Int) < (3 : Int))), q0, q0, q0, q0, (((k * (32 : Nat)) + (32 : Nat)) ≤ (1536 : Nat)), (((0 : Int) ≤ ((k : Nat) : Int)) ∧ (((k : Nat) : Int) < (48 : Int))), (((0 : Int) ≤ (1 : Int)) ∧ ((1 : Int) < (3 : Int))), ((decide (((k : Nat) : Int) < (48 : Int))) = true), (((0 : Int) ≤ (1 : Int)) ∧ ((1 : Int) < (3 : Int)))])) (by kernel_rfl)
    (AllP_cons (not_dec (rwM_sub _ (by omega))) (AllP_cons (not_dec (rwM_sub _ (by omega))) (AllP_cons (decide_eq_true (by omega)) (AllP_cons (not_dec (rwM_sub _ (by omega))) (AllP_cons (decide_eq_true (by omega)) (AllP_cons (decide_eq_true (by omega)) (AllP_cons (by first | omega | (simp (disch := omega) only [wrapI]; omega)) (AllP_cons (decide_eq_true (by omega)) (AllP_cons ⟨(by first | omega | (simp (disch := omega) only [wrapI]; omega)), (by first | omega | (simp (disch := omega) only [wrapI]; omega))⟩ (AllP_cons (decide_eq_true (by omega)) (AllP_cons (decide_eq_true (by omega)) (AllP_cons (decide_eq_true (by omega)) (AllP_cons ⟨(by decide), (by decide)⟩ (AllP_cons (decide_eq_true (by omega)) (AllP_cons (decide_eq_true (by omega)) (AllP_cons (decide_eq_true (by omega)) (AllP_cons (not_dec (rwM_sub _ (by omega))) (AllP_cons (not_dec (rwM_sub _ (by omega))) (AllP_cons (not_dec (rwM_sub _ (by omega))) (AllP_cons (not_dec (rwM_sub _ (by omega))) (AllP_cons ⟨(by decide), (by decide)⟩ (AllP_cons (not_dec (rwM_sub _ (by omega))) (AllP_cons (not_dec (rwM_sub _ (by omega))) (AllP_cons (not_dec (rwM_sub _ (by omega))) (AllP_cons (not_dec (rwM_sub _ (by omega))) (AllP_cons (by first | omega | (simp (disch := omega) only [wrapI]; omega)) (AllP_cons ⟨(by first | omega | (simp (disch := omega) only [wrapI]; omega)), (by first | omega | (simp (disch := omega) only [wrapI]; omega))⟩ (AllP_cons ⟨(by decide), (by decide)⟩ (AllP_cons (decide_eq_true (by omega)) (AllP_cons ⟨(by decide), (by decide)⟩ (AllP_nil)))))))))))))))))))))))))))))))
  rw [e0] at h
  exact h

set_option maxHeartbeats 1000000 in
theorem bkC1_round_1 (L0 : List Int) (L1 : List Int) (L2 : List Int) (hl2_0 : List.length L0 = (256 : Nat)) (hl3_0 : List.length L1 = (256 : Nat)) (hl4_0 : List.length L2 = (256 : Nat)) (w : World) (rw : List Nat) (β : Env) (k : Nat) (hk : k < (48 : Nat)) (s : Unit) (ha : ¬ k < 8) : Run Try.prog ⟨w, rw, 5, β⟩ (loopB Try.f66 10) (bkC1_mk L0 L1 L2 k s) (To ⟨w, rw, 5, β⟩ .normal (bkC1_mk L0 L1 L2 (k + 1) (bkC1_step k s))) := by
  have e0 : (IntKind.i64.wrap (((k : Nat) : Int) + (1 : Int))) = (((k + (1 : Nat)) : Nat) : Int) := (by first | rfl | exact wrap_succ (by omega) | omega | (simp (disch := omega) only [wrapI]; omega))
  have h := Run.of_outT (B := ⟨w, rw, 5, β⟩) (Λ := noLam) (Ψ := noPsi) (fuel := 0) (ora := [true, true, true, true, true, true, true, true, true, false, false, false, false, false, false, false, false, false, true, false, false, false]) (c := (loopB Try.f66 10)) (st := (bkC1_mk L0 L1 L2 k s)) (l := [.forget [0, 3, 4, 5, 6, 7, 8, 9, 10, 11, 13, 14, 15, 16, 17, 18, 19, 20, 21, 22, 41, 42, 43, 44, 45, 46, 47, 48, 49, 50, 62, 63, 64, 65, 66, 67, 68, 69, 70, 71] 14]) (s' := ⟨sparse 113 [(0, .o (.a (.p 0 0))), (3, .o (.a (.rs 1 (0 : Nat) (3 : Nat) 1))), (4, .o (.a (.i .i64 (3 : Int)))), (5, .o (.a (.i .i64 (8 : Int)))), (6, .o (.a (.rs 13 (0 : Nat) (3 : Nat) 1))), (7, .o (.a (.i .i64 (3 : Int)))), (8, .o (.a (.rs 11 (0 : Nat) (48 : Nat) 32))), (9, .o (.a (.i .i64 (40 : Int)))), (10, .o (.a (.i .i64 (1 : Int)))), (11, .o (.a (.i .i64 (IntKind.i64.wrap (((k : Nat) : Int) + (1 : Int)))))), (13, .o (.a (.p 0 0))), (14, .o (.a (.p 0 0))), (15, .o (.a (.p 0 5))), (16, .o (.a (.rs 1 (0 : Nat) (3 : Nat) 1))), (17, .o (.a (.i .i64 (3 : Int)))), (18, .o (.a (.rs 1 (0 : Nat) (3 : Nat) 1))), (19, .o (.a (.i .i64 (3 : Int)))), (20, .o (.a (.b false))), (21, .o (.a (.i .i64 (2 : Int)))), (22, .o (.a (.i .i64 (3 : Int)))), (41, .o (.a (.i .i64 (3 : Int)))), (42, .o (.a (.rs 1 (0 : Nat) (3 : Nat) 1))), (43, .o (.a (.i .i64 (3 : Int)))), (44, .o (.a (.b false))), (45, .o (.a (.i .i64 (2 : Int)))), (46, .o (.a (.i .i64 (3 : Int)))), (47, .o (.a (.rs 1 (0 : Nat) (3 : Nat) 1))), (48, .o (.a (.i .i64 (2 : Int)))), (49, .o (.a (.ps 1 (2 : Nat)))), (50, .o (.a (.rs 4 (0 : Nat) (8 : Nat) 32))), (62, .o (.a (.rs 10 (0 : Nat) (2 : Nat) 1))), (63, .o (.a (.rs 11 (0 : Nat) (48 : Nat) 32))), (64, .o (.a (.sl 12 (0 : Nat) (1 : Nat) (1 : Nat)))), (65, .o (.a (.rs 13 (0 : Nat) (3 : Nat) 1))), (66, .o (.a (.i .i64 (1 : Int)))), (67, .o (.a (.rs 1 (0 : Nat) (3 : Nat) 1))), (68, .o (.a (.i .i64 (3 : Int)))), (69, .o (.a (.b true))), (70, .o (.a (.i .i64 (0 : Int)))), (71, .o (.a (.i .i64 (1 : Int))))], [some ⟨true, (bkC (.rs 1 (0 : Nat) (3 : Nat) 1))⟩, some ⟨true, [.rs 2 (0 : Nat) (8 : Nat) 32, .rs 3 (0 : Nat) (8 : Nat) 32, .rs 4 (0 : Nat) (8 : Nat) 32]⟩, some ⟨false, [.ints .u8 (256 : Nat) (rwM (0 : Int) (8 : Nat))]⟩, some ⟨false, [.ints .u8 (256 : Nat) (rwM (1 : Int) (8 : Nat))]⟩, some ⟨false, [.ints .u8 (256 : Nat) (rwM (2 : Int) (8 : Nat))]⟩, some ⟨false, [.ints .u8 (1536 : Nat) (rwM (0 : Int) (48 : Nat))]⟩, some ⟨true, [.rs 5 (0 : Nat) (48 : Nat) 32]⟩, none, some ⟨false, [.ints .u8 (1536 : Nat) (rwM (1 : Int) (48 : Nat))]⟩, some ⟨true, [.rs 8 (0 : Nat) (48 : Nat) 32]⟩, none, some ⟨false, [.ints .u8 (1536 : Nat) (rwM (2 : Int) (48 : Nat))]⟩, some ⟨true, [.rs 11 (0 : Nat) (48 : Nat) 32]⟩, some ⟨true, [.rs 5 (0 : Nat) (48 : Nat) 32, .rs 8 (0 : Nat) (48 : Nat) 32, .rs 11 (0 : Nat) (48 : Nat) 32]⟩]⟩) (ex := .normal) mix tabOkSB gam71_ok
    (vc := (let q0 : Prop := ((!(decide ((sub (rwM (1 : Int) (48 : Nat)) (k * (32 : Nat)) (32 : Nat)) = (mkEl (1 : Int) ((k : Nat) : Int))))) = false); [(false = false), q0, ((decide (((k : Nat) : Int) < (8 : Int))) = false), q0, ((decide (((k : Nat) : Int) < (8 : Int))) = false), ((decide (((k : Nat) : Int) < (8 : Int))) = false), ((decide (((k : Nat) : Int) < (8 : Int))) = false), ((decide (((k : Nat) : Int) < (8 : Int))) = false), ((decide (((k : Nat) : Int) < (8 : Int))) = false), ((decide (((k : Nat) : Int) < (8 : Int))) = false), ((decide (((k : Nat) : Int) < (8 : Int))) = false), ((decide (((k : Nat) : Int) < (8 : Int))) = false), ((decide (((k : Nat) : Int) < (8 : Int))) = false), q0, q0, q0, q0, (((0 : Int) ≤ (1 : Int)) ∧ ((1 : Int) < (3 : Int))), q0, q0, q0, q0, (((k * (32 : Nat)) + (32 : Nat)) ≤ (1536 : Nat)), (((0 : Int) ≤ ((k : Nat) : Int)) ∧ (((k : Nat) : Int) < (48 : Int))), (((0 : Int) ≤ (1 : Int)) ∧ ((1 : Int) < (3 : Int))), ((decide (((k : Nat) : Int) < (48 : Int))) = true), (((0 : Int) ≤ (1 : Int)) ∧ ((1 : Int) < (3 : Int)))])) (by kernel_rfl)
    (AllP_cons rfl (AllP_cons (not_dec (rwM_sub _ (by omega))) (AllP_cons (decide_eq_false (by omega)) (AllP_cons (not_dec (rwM_sub _ (by omega))) (AllP_cons (decide_eq_false (by omega)) (AllP_cons (decide_eq_false (by omega)) (AllP_cons (decide_eq_false (by omega)) (AllP_cons (decide_eq_false (by omega)) (AllP_cons (decide_eq_false (by omega)) (AllP_cons (decide_eq_false (by omega)) (AllP_cons (decide_eq_false (by omega)) (AllP_cons (decide_eq_false (by omega)) (AllP_cons (decide_eq_false (by omega)) (AllP_cons (not_dec (rwM_sub _ (by omega))) (AllP_cons (not_dec (rwM_sub _ (by omega))) (AllP_cons (not_dec (rwM_sub _ (by omega))) (AllP_cons (not_dec (rwM_sub _ (by omega))) (AllP_cons ⟨(by decide), (by decide)⟩ (AllP_cons (not_dec (rwM_sub _ (by omega))) (AllP_cons (not_dec (rwM_sub _ (by omega))) (AllP_cons (not_dec (rwM_sub _ (by omega))) (AllP_cons (not_dec (rwM_sub _ (by omega))) (AllP_cons (by first | omega | (simp (disch := omega) only [wrapI]; omega)) (AllP_cons ⟨(by first | omega | (simp (disch := omega) only [wrapI]; omega)), (by first | omega | (simp (disch := omega) only [wrapI]; omega))⟩ (AllP_cons ⟨(by decide), (by decide)⟩ (AllP_cons (decide_eq_true (by omega)) (AllP_cons ⟨(by decide), (by decide)⟩ (AllP_nil))))))))))))))))))))))))))))
  rw [e0] at h
  exact h

theorem bkC1_round (L0 : List Int) (L1 : List Int) (L2 : List Int) (hl2_0 : List.length L0 = (256 : Nat)) (hl3_0 : List.length L1 = (256 : Nat)) (hl4_0 : List.length L2 = (256 : Nat)) (w : World) (rw : List Nat) (β : Env) (k : Nat) (hk : k < (48 : Nat)) (s : Unit) : Run Try.prog ⟨w, rw, 5, β⟩ (loopB Try.f66 10) (bkC1_mk L0 L1 L2 k s) (To ⟨w, rw, 5, β⟩ .normal (bkC1_mk L0 L1 L2 (k + 1) (bkC1_step k s))) := by
  by_cases ha : k < 8
  · exact bkC1_round_0 L0 L1 L2 hl2_0 hl3_0 hl4_0 w rw β k hk s ha
  · exact bkC1_round_1 L0 L1 L2 hl2_0 hl3_0 hl4_0 w rw β k hk s ha

set_option maxHeartbeats 1000000 in
theorem bkC1_last (L0 : List Int) (L1 : List Int) (L2 : List Int) (hl2_0 : List.length L0 = (256 : Nat)) (hl3_0 : List.length L1 = (256 : Nat)) (hl4_0 : List.length L2 = (256 : Nat)) (w : World) (rw : List Nat) (β : Env) (s : Unit) : Run Try.prog ⟨w, rw, 5, β⟩ (loopB Try.f66 10) (bkC1_mk L0 L1 L2 (48 : Nat) s) (To ⟨w, rw, 5, β⟩ (.exit 10) (bkC1_mk L0 L1 L2 (48 : Nat) s)) :=
  Run.of_outT (B := ⟨w, rw, 5, β⟩) (Λ := noLam) (Ψ := noPsi) (fuel := 0) (ora := [false]) (l := [.forget [0, 3, 4, 5, 6, 7, 8, 9, 10, 11, 13, 14, 15, 16, 17, 18, 19, 20, 21, 22, 41, 42, 43, 44, 45, 46, 47, 48, 49, 50, 62, 63, 64, 65, 66, 67, 68, 69, 70, 71] 14]) mix tabOkSB gam71_ok
    (vc := [(false = false), (((0 : Int) ≤ (1 : Int)) ∧ ((1 : Int) < (3 : Int)))]) (by kernel_rfl)
    (AllP_cons rfl (AllP_cons ⟨(by decide), (by decide)⟩ (AllP_nil)))

theorem bkC1_loop (L0 : List Int) (L1 : List Int) (L2 : List Int) (hl2_0 : List.length L0 = (256 : Nat)) (hl3_0 : List.length L1 = (256 : Nat)) (hl4_0 : List.length L2 = (256 : Nat)) (w : World) (rw : List Nat) (β : Env) (s : Unit) : Run Try.prog ⟨w, rw, 5, β⟩ (.block 10 (.loop (loopB Try.f66 10))) (bkC1_mk L0 L1 L2 0 s) (To ⟨w, rw, 5, β⟩ .normal (bkC1_mk L0 L1 L2 (48 : Nat) (iter (bkC1_step) (48 : Nat) s))) :=
  Run.count (fun k => bkC1_mk L0 L1 L2 k (iter (bkC1_step) k s)) (48 : Nat) (fun k hk => bkC1_round L0 L1 L2 hl2_0 hl3_0 hl4_0 w rw β k hk _) (ex := (.exit 10)) (by simp) (bkC1_last L0 L1 L2 hl2_0 hl3_0 hl4_0 w rw β _)

def bkC2_mk (L0 : List Int) (L1 : List Int) (L2 : List Int) (k : Nat) (s : Unit) : St := ⟨sparse 113 [(0, .o (.a (.p 0 0))), (3, .o (.a (.rs 1 (0 : Nat) (3 : Nat) 1))), (4, .o (.a (.i .i64 (3 : Int)))), (5, .o (.a (.i .i64 (8 : Int)))), (6, .o (.a (.rs 13 (0 : Nat) (3 : Nat) 1))), (7, .o (.a (.i .i64 (3 : Int)))), (8, .o (.a (.rs 11 (0 : Nat) (48 : Nat) 32))), (9, .o (.a (.i .i64 (40 : Int)))), (10, .o (.a (.i .i64 (2 : Int)))), (11, .o (.a (.i .i64 ((k : Nat) : Int)))), (13, .o (.a (.p 0 0))), (14, .o (.a (.p 0 0))), (15, .o (.a (.p 0 5))), (16, .o (.a (.rs 1 (0 : Nat) (3 : Nat) 1))), (17, .o (.a (.i .i64 (3 : Int)))), (18, .o (.a (.rs 1 (0 : Nat) (3 : Nat) 1))), (19, .o (.a (.i .i64 (3 : Int)))), (20, .o (.a (.b false))), (21, .o (.a (.i .i64 (2 : Int)))), (22, .o (.a (.i .i64 (3 : Int)))), (41, .o (.a (.i .i64 (3 : Int)))), (42, .o (.a (.rs 1 (0 : Nat) (3 : Nat) 1))), (43, .o (.a (.i .i64 (3 : Int)))), (44, .o (.a (.b false))), (45, .o (.a (.i .i64 (2 : Int)))), (46, .o (.a (.i .i64 (3 : Int)))), (47, .o (.a (.rs 1 (0 : Nat) (3 : Nat) 1))), (48, .o (.a (.i .i64 (2 : Int)))), (49, .o (.a (.ps 1 (2 : Nat)))), (50, .o (.a (.rs 4 (0 : Nat) (8 : Nat) 32))), (62, .o (.a (.rs 10 (0 : Nat) (2 : Nat) 1))), (63, .o (.a (.rs 11 (0 : Nat) (48 : Nat) 32))), (64, .o (.a (.sl 12 (0 : Nat) (1 : Nat) (1 : Nat)))), (65, .o (.a (.rs 13 (0 : Nat) (3 : Nat) 1))), (66, .o (.a (.i .i64 (2 : Int)))), (67, .o (.a (.rs 1 (0 : Nat) (3 : Nat) 1))), (68, .o (.a (.i .i64 (3 : Int)))), (69, .o (.a (.b true))), (70, .o (.a (.i .i64 (1 : Int)))), (71, .o (.a (.i .i64 (2 : Int))))], [some ⟨true, (bkC (.rs 1 (0 : Nat) (3 : Nat) 1))⟩, some ⟨true, [.rs 2 (0 : Nat) (8 : Nat) 32, .rs 3 (0 : Nat) (8 : Nat) 32, .rs 4 (0 : Nat) (8 : Nat) 32]⟩, some ⟨false, [.ints .u8 (256 : Nat) (rwM (0 : Int) (8 : Nat))]⟩, some ⟨false, [.ints .u8 (256 : Nat) (rwM (1 : Int) (8 : Nat))]⟩, some ⟨false, [.ints .u8 (256 : Nat) (rwM (2 : Int) (8 : Nat))]⟩, some ⟨false, [.ints .u8 (1536 : Nat) (rwM (0 : Int) (48 : Nat))]⟩, some ⟨true, [.rs 5 (0 : Nat) (48 : Nat) 32]⟩, none, some ⟨false, [.ints .u8 (1536 : Nat) (rwM (1 : Int) (48 : Nat))]⟩, some ⟨true, [.rs 8 (0 : Nat) (48 : Nat) 32]⟩, none, some ⟨false, [.ints .u8 (1536 : Nat) (rwM (2 : Int) (48 : Nat))]⟩, some ⟨true, [.rs 11 (0 : Nat) (48 : Nat) 32]⟩, some ⟨true, [.rs 5 (0 : Nat) (48 : Nat) 32, .rs 8 (0 : Nat) (48 : Nat) 32, .rs 11 (0 : Nat) (48 : Nat) 32]⟩]⟩

def bkC2_step (k : Nat) (s : Unit) : Unit :=
  ()

set_option maxHeartbeats 1000000 in
theorem bkC2_round_0 (L0 : List Int) (L1 : List Int) (L2 : List Int) (hl2_0 : List.length L0 = (256 : Nat)) (hl3_0 : List.length L1 = (256 : Nat)) (hl4_0 : List.length L2 = (256 : Nat)) (w : World) (rw : List Nat) (β : Env) (k : Nat) (hk : k < (48 : Nat)) (s : Unit) (ha : k < 8) : Run Try.prog ⟨w, rw, 5, β⟩ (loopB Try.f66 10) (bkC2_mk L0 L1 L2 k s) (To ⟨w, rw, 5, β⟩ .normal (bkC2_mk L0 L1 L2 (k + 1) (bkC2_step k s))) := by
  have e0 : (IntKind.i64.wrap (((k : Nat) : Int) + (1 : Int))) = (((k + (1 : Nat)) : Nat) : Int) := (by first | rfl | exact wrap_succ (by omega) | omega | (simp (disch := omega) only [wrapI]; omega))
  have h := Run.of_outT (B := ⟨w, rw, 5, β⟩) (Λ := noLam) (Ψ := noPsi) (fuel := 0) (ora := [true, true, true, true, true, true, true, true, true, true, true, true, true, true, true, true, true, true, true, true, false, false]) (c := (loopB Try.f66 10)) (st := (bkC2_mk L0 L1 L2 k s)) (l := [.forget [0, 3, 4, 5, 6, 7, 8, 9, 10, 11, 13, 14, 15, 16, 17, 18, 19, 20, 21, 22, 41, 42, 43, 44, 45, 46, 47, 48, 49, 50, 62, 63, 64, 65, 66, 67, 68, 69, 70, 71] 14]) (s' := ⟨sparse 113 [(0, .o (.a (.p 0 0))), (3, .o (.a (.rs 1 (0 : Nat) (3 : Nat) 1))), (4, .o (.a (.i .i64 (3 : Int)))), (5, .o (.a (.i .i64 (8 : Int)))), (6, .o (.a (.rs 13 (0 : Nat) (3 : Nat) 1))), (7, .o (.a (.i .i64 (3 : Int)))), (8, .o (.a (.rs 11 (0 : Nat) (48 : Nat) 32))), (9, .o (.a (.i .i64 (40 : Int)))), (10, .o (.a (.i .i64 (2 : Int)))), (11, .o (.a (.i .i64 (IntKind.i64.wrap (((k : Nat) : Int) + (1 : Int)))))), (13, .o (.a (.p 0 0))), (14, .o (.a (.p 0 0))), (15, .o (.a (.p 0 5))), (16, .o (.a (.rs 1 (0 : Nat) (3 : Nat) 1))), (17, .o (.a (.i .i64 (3 : Int)))), (18, .o (.a (.rs 1 (0 : Nat) (3 : Nat) 1))), (19, .o (.a (.i .i64 (3 : Int)))), (20, .o (.a (.b false))), (21, .o (.a (.i .i64 (2 : Int)))), (22, .o (.a (.i .i64 (3 : Int)))), (41, .o (.a (.i .i64 (3 : Int)))), (42, .o (.a (.rs 1 (0 : Nat) (3 : Nat) 1))), (43, .o (.a (.i .i64 (3 : Int)))), (44, .o (.a (.b false))), (45, .o (.a (.i .i64 (2 : Int)))), (46, .o (.a (.i .i64 (3 : Int)))), (47, .o (.a (.rs 1 (0 : Nat) (3 : Nat) 1))), (48, .o (.a (.i .i64 (2 : Int)))), (49, .o (.a (.ps 1 (2 : Nat)))), (50, .o (.a (.rs 4 (0 : Nat) (8 : Nat) 32))), (62, .o (.a (.rs 10 (0 : Nat) (2 : Nat) 1))), (63, .o (.a (.rs 11 (0 : Nat) (48 : Nat) 32))), (64, .o (.a (.sl 12 (0 : Nat) (1 : Nat) (1 : Nat)))), (65, .o (.a (.rs 13 (0 : Nat) (3 : Nat) 1))), (66, .o (.a (.i .i64 (2 : Int)))), (67, .o (.a (.rs 1 (0 : Nat) (3 : Nat) 1))), (68, .o (.a (.i .i64 (3 : Int)))), (69, .o (.a (.b true))), (70, .o (.a (.i .i64 (1 : Int)))), (71, .o (.a (.i .i64 (2 : Int))))], [some ⟨true, (bkC (.rs 1 (0 : Nat) (3 : Nat) 1))⟩, some ⟨true, [.rs 2 (0 : Nat) (8 : Nat) 32, .rs 3 (0 : Nat) (8 : Nat) 32, .rs 4 (0 : Nat) (8 : Nat) 32]⟩, some ⟨false, [.ints .u8 (256 : Nat) (rwM (0 : Int) (8 : Nat))]⟩, some ⟨false, [.ints .u8 (256 : Nat) (rwM (1 : Int) (8 : Nat))]⟩, some ⟨false, [.ints .u8 (256 : Nat) (rwM (2 : Int) (8 : Nat))]⟩, some ⟨false, [.ints .u8 (1536 : Nat) (rwM (0 : Int) (48 : Nat))]⟩, some ⟨true, [.rs 5 (0 : Nat) (48 : Nat) 32]⟩, none, some ⟨false, [.ints .u8 (1536 : Nat) (rwM (1 : Int) (48 : Nat))]⟩, some ⟨true, [.rs 8 (0 : Nat) (48 : Nat) 32]⟩, none, some ⟨false, [.ints .u8 (1536 : Nat) (rwM (2 : Int) (48 : Nat))]⟩, some ⟨true, [.rs 11 (0 : Nat) (48 : Nat) 32]⟩, some ⟨true, [.rs 5 (0 : Nat) (48 : Nat) 32, .rs 8 (0 : Nat) (48 : Nat) 32, .rs 11 (0 : Nat) (48 : Nat) 32]⟩]⟩) (ex := .normal) mix tabOkSB gam71_ok
    (vc := (let q0 : Prop := ((!(decide ((sub (rwM (2 : Int) (48 : Nat)) (k * (32 : Nat)) (32 : Nat)) = (mkEl (2 : Int) ((k : Nat) : Int))))) = false); [((!(decide ((sub (rwM (2 : Int) (8 : Nat)) (k * (32 : Nat)) (32 : Nat)) = (mkEl (2 : Int) ((k : Nat) : Int))))) = false), q0, ((decide (((k : Nat) : Int) < (8 : Int))) = true), q0, ((decide (((k : Nat) : Int) < (8 : Int))) = true), ((decide (((k : Nat) : Int) < (8 : Int))) = true), (((k * (32 : Nat)) + (32 : Nat)) ≤ (256 : Nat)), ((decide (((k : Nat) : Int) < (8 : Int))) = true), (((0 : Int) ≤ ((k : Nat) : Int)) ∧ (((k : Nat) : Int) < (8 : Int))), ((decide (((k : Nat) : Int) < (8 : Int))) = true), ((decide (((k : Nat) : Int) < (8 : Int))) = true), ((decide (((k : Nat) : Int) < (8 : Int))) = true), (((0 : Int) ≤ (2 : Int)) ∧ ((2 : Int) < (3 : Int))), ((decide (((k : Nat) : Int) < (8 : Int))) = true), ((decide (((k : Nat) : Int) < (8 : Int))) = true), ((decide (((k : Nat) : Int) < (8 : Int))) = true), q0, q0, q0, q0, (((0 : Int) ≤ (2 : Int)) ∧ ((2 : Int) < (3 : Int))), q0, q0, q0, q0, (((k * (32 : Nat)) + (32 : Nat)) ≤ (1536 : Nat)), (((0 : Int) ≤ ((k : Nat) : Int)) ∧ (((k : Nat) : Int) < (48 : Int))), (((0 : Int) ≤ (2 : Int)) ∧ ((2 : Int) < (3 : Int))), ((decide (((k : Nat) : Int) < (48 : Int))) = true), (((0 : Int) ≤ (2 : Int)) ∧ ((2 : Int) < (3 : Int)))])) (by kernel_rfl)
    (AllP_cons (not_dec (rwM_sub _ (by omega))) (AllP_cons (not_dec (rwM_sub _ (by omega))) (AllP_cons (decide_eq_true (by omega)) (AllP_cons (not_dec (rwM_sub _ (by omega))) (AllP_cons (decide_eq_true (by omega)) (AllP_cons (decide_eq_true (by omega)) (AllP_cons (by first | omega | (simp (disch := omega) only [wrapI]; omega)) (AllP_cons (decide_eq_true (by omega)) (AllP_cons ⟨(by first | omega | (simp (disch := omega) only [wrapI]; omega)), (by first | omega | (simp (disch := omega) only [wrapI]; omega))⟩ (AllP_cons (decide_eq_true (by omega)) (AllP_cons (decide_eq_true (by omega)) (AllP_cons (decide_eq_true (by omega)) (AllP_cons ⟨(by decide), (by decide)⟩ (AllP_cons (decide_eq_true (by omega)) (AllP_cons (decide_eq_true (by omega)) (AllP_cons (decide_eq_true (by omega)) (AllP_cons (not_dec (rwM_sub _ (by omega))) (AllP_cons (not_dec (rwM_sub _ (by omega))) (AllP_cons (not_dec (rwM_sub _ (by omega))) (AllP_cons (not_dec (rwM_sub _ (by omega))) (AllP_cons ⟨(by decide), (by decide)⟩ (AllP_cons (not_dec (rwM_sub _ (by omega))) (AllP_cons (not_dec (rwM_sub _ (by omega))) (AllP_cons (not_dec (rwM_sub _ (by omega))) (AllP_cons (not_dec (rwM_sub _ (by omega))) (AllP_cons (by first | omega | (simp (disch := omega) only [wrapI]; omega)) (AllP_cons ⟨(by first | omega | (simp (disch := omega) only [wrapI]; omega)), (by first | omega | (simp (disch := omega) only [wrapI]; omega))⟩ (AllP_cons ⟨(by decide), (by decide)⟩ (AllP_cons (decide_eq_true (by omega)) (AllP_cons ⟨(by decide), (by decide)⟩ (AllP_nil)))))))))))))))))))))))))))))))
  rw [e0] at h
  exact h

set_option maxHeartbeats 1000000 in
theorem bkC2_round_1 (L0 : List Int) (L1 : List Int) (L2 : List Int) (hl2_0 : List.length L0 = (256 : Nat)) (hl3_0 : List.length L1 = (256 : Nat)) (hl4_0 : List.length L2 = (256 : Nat)) (w : World) (rw : List Nat) (β : Env) (k : Nat) (hk : k < (48 : Nat)) (s : Unit) (ha : ¬ k < 8) : Run Try.prog ⟨w, rw, 5, β⟩ (loopB Try.f66 10) (bkC2_mk L0 L1 L2 k s) (To ⟨w, rw, 5, β⟩ .normal (bkC2_mk L0 L1 L2 (k + 1) (bkC2_step k s))) := by
  have e0 : (IntKind.i64.wrap (((k : Nat) : Int) + (1 : Int))) = (((k + (1 : Nat)) : Nat) : Int) := (by first | rfl | exact wrap_succ (by omega) | omega | (simp (disch := omega) only [wrapI]; omega))
  have h := Run.of_outT (B := ⟨w, rw, 5, β⟩) (Λ := noLam) (Ψ := noPsi) (fuel := 0) (ora := [true, true, true, true, true, true, true, true, true, false, false, false, false, false, false, false, false, false, true, false, false, false]) (c := (loopB Try.f66 10)) (st := (bkC2_mk L0 L1 L2 k s)) (l := [.forget [0, 3, 4, 5, 6, 7, 8, 9, 10, 11, 13, 14, 15, 16, 17, 18, 19, 20, 21, 22, 41, 42, 43, 44, 45, 46, 47, 48, 49, 50, 62, 63, 64, 65, 66, 67, 68, 69, 70, 71] 14]) (s' := ⟨sparse 113 [(0, .o (.a (.p 0 0))), (3, .o (.a (.rs 1 (0 : Nat) (3 : Nat) 1))), (4, .o (.a (.i .i64 (3 : Int)))), (5, .o (.a (.i .i64 (8 : Int)))), (6, .o (.a (.rs 13 (0 : Nat) (3 : Nat) 1))), (7, .o (.a (.i .i64 (3 : Int)))), (8, .o (.a (.rs 11 (0 : Nat) (48 : Nat) 32))), (9, .o (.a (.i .i64 (40 : Int)))), (10, .o (.a (.i .i64 (2 : Int)))), (11, .o (.a (.i .i64 (IntKind.i64.wrap (((k : Nat) : Int) + (1 : Int)))))), (13, .o (.a (.p 0 0))), (14, .o (.a (.p 0 0))), (15, .o (.a (.p 0 5))), (16, .o (.a (.rs 1 (0 : Nat) (3 : Nat) 1))), (17, .o (.a (.i .i64 (3 : Int)))), (18, .o (.a (.rs 1 (0 : Nat) (3 : Nat) 1))), (19, .o (.a (.i .i64 (3 : Int)))), (20, .o (.a (.b false))), (21, .o (.a (.i .i64 (2 : Int)))), (22, .o (.a (.i .i64 (3 : Int)))), (41, .o (.a (.i .i64 (3 : Int)))), (42, .o (.a (.rs 1 (0 : Nat) (3 : Nat) 1))), (43, .o (.a (.i .i64 (3 : Int)))), (44, .o (.a (.b false))), (45, .o (.a (.i .i64 (2 : Int)))), (46, .o (.a (.i .i64 (3 : Int)))), (47, .o (.a (.rs 1 (0 : Nat) (3 : Nat) 1))), (48, .o (.a (.i .i64 (2 : Int)))), (49, .o (.a (.ps 1 (2 : Nat)))), (50, .o (.a (.rs 4 (0 : Nat) (8 : Nat) 32))), (62, .o (.a (.rs 10 (0 : Nat) (2 : Nat) 1))), (63, .o (.a (.rs 11 (0 : Nat) (48 : Nat) 32))), (64, .o (.a (.sl 12 (0 : Nat) (1 : Nat) (1 : Nat)))), (65, .o (.a (.rs 13 (0 : Nat) (3 : Nat) 1))), (66, .o (.a (.i .i64 (2 : Int)))), (67, .o (.a (.rs 1 (0 : Nat) (3 : Nat) 1))), (68, .o (.a (.i .i64 (3 : Int)))), (69, .o (.a (.b true))), (70, .o (.a (.i .i64 (1 : Int)))), (71, .o (.a (.i .i64 (2 : Int))))], [some ⟨true, (bkC (.rs 1 (0 : Nat) (3 : Nat) 1))⟩, some ⟨true, [.rs 2 (0 : Nat) (8 : Nat) 32, .rs 3 (0 : Nat) (8 : Nat) 32, .rs 4 (0 : Nat) (8 : Nat) 32]⟩, some ⟨false, [.ints .u8 (256 : Nat) (rwM (0 : Int) (8 : Nat))]⟩, some ⟨false, [.ints .u8 (256 : Nat) (rwM (1 : Int) (8 : Nat))]⟩, some ⟨false, [.ints .u8 (256 : Nat) (rwM (2 : Int) (8 : Nat))]⟩, some ⟨false, [.ints .u8 (1536 : Nat) (rwM (0 : Int) (48 : Nat))]⟩, some ⟨true, [.rs 5 (0 : Nat) (48 : Nat) 32]⟩, none, some ⟨false, [.ints .u8 (1536 : Nat) (rwM (1 : Int) (48 : Nat))]⟩, some ⟨true, [.rs 8 (0 : Nat) (48 : Nat) 32]⟩, none, some ⟨false, [.ints .u8 (1536 : Nat) (rwM (2 : Int) (48 : Nat))]⟩, some ⟨true, [.rs 11 (0 : Nat) (48 : Nat) 32]⟩, some ⟨true, [.rs 5 (0 : Nat) (48 : Nat) 32, .rs 8 (0 : Nat) (48 : Nat) 32, .rs 11 (0 : Nat) (48 : Nat) 32]⟩]⟩) (ex := .normal) mix tabOkSB gam71_ok
    (vc := (let q0 : Prop := ((!(decide ((sub (rwM (2 : Int) (48 : Nat)) (k * (32 : Nat)) (32 : Nat)) = (mkEl (2 : Int) ((k : Nat) : Int))))) = false); [(false = false), q0, ((decide (((k : Nat) : Int) < (8 : Int))) = false), q0, ((decide (((k : Nat) : Int) < (8 : Int))) = false), ((decide (((k : Nat) : Int) < (8 : Int))) = false), ((decide (((k : Nat) : Int) < (8 : Int))) = false), ((decide (((k : Nat) : Int) < (8 : Int))) = false), ((decide (((k : Nat) : Int) < (8 : Int))) = false), ((decide (((k : Nat) : Int) < (8 : Int))) = false), ((decide (((k : Nat) : Int) < (8 : Int))) = false), ((decide (((k : Nat) : Int) < (8 : Int))) = false), ((decide (((k : Nat) : Int) < (8 : Int))) = false), q0, q0, q0, q0, (((0 : Int) ≤ (2 : Int)) ∧ ((2 : Int) < (3 : Int))), q0, q0, q0, q0, (((k * (32 : Nat)) + (32 : Nat)) ≤ (1536 : Nat)), (((0 : Int) ≤ ((k : Nat) : Int)) ∧ (((k : Nat) : Int) < (48 : Int))), (((0 : Int) ≤ (2 : Int)) ∧ ((2 : Int) < (3 : Int))), ((decide (((k : Nat) : Int) < (48 : Int))) = true), (((0 : Int) ≤ (2 : Int)) ∧ ((2 : Int) < (3 : Int)))])) (by kernel_rfl)
    (AllP_cons rfl (AllP_cons (not_dec (rwM_sub _ (by omega))) (AllP_cons (decide_eq_false (by omega)) (AllP_cons (not_dec (rwM_sub _ (by omega))) (AllP_cons (decide_eq_false (by omega)) (AllP_cons (decide_eq_false (by omega)) (AllP_cons (decide_eq_false (by omega)) (AllP_cons (decide_eq_false (by omega)) (AllP_cons (decide_eq_false (by omega)) (AllP_cons (decide_eq_false (by omega)) (AllP_cons (decide_eq_false (by omega)) (AllP_cons (decide_eq_false (by omega)) (AllP_cons (decide_eq_false (by omega)) (AllP_cons (not_dec (rwM_sub _ (by omega))) (AllP_cons (not_dec (rwM_sub _ (by omega))) (AllP_cons (not_dec (rwM_sub _ (by omega))) (AllP_cons (not_dec (rwM_sub _ (by omega))) (AllP_cons ⟨(by decide), (by decide)⟩ (AllP_cons (not_dec (rwM_sub _ (by omega))) (AllP_cons (not_dec (rwM_sub _ (by omega))) (AllP_cons (not_dec (rwM_sub _ (by omega))) (AllP_cons (not_dec (rwM_sub _ (by omega))) (AllP_cons (by first | omega | (simp (disch := omega) only [wrapI]; omega)) (AllP_cons ⟨(by first | omega | (simp (disch := omega) only [wrapI]; omega)), (by first | omega | (simp (disch := omega) only [wrapI]; omega))⟩ (AllP_cons ⟨(by decide), (by decide)⟩ (AllP_cons (decide_eq_true (by omega)) (AllP_cons ⟨(by decide), (by decide)⟩ (AllP_nil))))))))))))))))))))))))))))
  rw [e0] at h
  exact h

theorem bkC2_round (L0 : List Int) (L1 : List Int) (L2 : List Int) (hl2_0 : List.length L0 = (256 : Nat)) (hl3_0 : List.length L1 = (256 : Nat)) (hl4_0 : List.length L2 = (256 : Nat)) (w : World) (rw : List Nat) (β : Env) (k : Nat) (hk : k < (48 : Nat)) (s : Unit) : Run Try.prog ⟨w, rw, 5, β⟩ (loopB Try.f66 10) (bkC2_mk L0 L1 L2 k s) (To ⟨w, rw, 5, β⟩ .normal (bkC2_mk L0 L1 L2 (k + 1) (bkC2_step k s))) := by
  by_cases ha : k < 8
  · exact bkC2_round_0 L0 L1 L2 hl2_0 hl3_0 hl4_0 w rw β k hk s ha
  · exact bkC2_round_1 L0 L1 L2 hl2_0 hl3_0 hl4_0 w rw β k hk s ha

set_option maxHeartbeats 1000000 in
theorem bkC2_last (L0 : List Int) (L1 : List Int) (L2 : List Int) (hl2_0 : List.length L0 = (256 : Nat)) (hl3_0 : List.length L1 = (256 : Nat)) (hl4_0 : List.length L2 = (256 : Nat)) (w : World) (rw : List Nat) (β : Env) (s : Unit) : Run Try.prog ⟨w, rw, 5, β⟩ (loopB Try.f66 10) (bkC2_mk L0 L1 L2 (48 : Nat) s) (To ⟨w, rw, 5, β⟩ (.exit 10) (bkC2_mk L0 L1 L2 (48 : Nat) s)) :=
  Run.of_outT (B := ⟨w, rw, 5, β⟩) (Λ := noLam) (Ψ := noPsi) (fuel := 0) (ora := [false]) (l := [.forget [0, 3, 4, 5, 6, 7, 8, 9, 10, 11, 13, 14, 15, 16, 17, 18, 19, 20, 21, 22, 41, 42, 43, 44, 45, 46, 47, 48, 49, 50, 62, 63, 64, 65, 66, 67, 68, 69, 70, 71] 14]) mix tabOkSB gam71_ok
    (vc := [(false = false), (((0 : Int) ≤ (2 : Int)) ∧ ((2 : Int) < (3 : Int)))]) (by kernel_rfl)
    (AllP_cons rfl (AllP_cons ⟨(by decide), (by decide)⟩ (AllP_nil)))

theorem bkC2_loop (L0 : List Int) (L1 : List Int) (L2 : List Int) (hl2_0 : List.length L0 = (256 : Nat)) (hl3_0 : List.length L1 = (256 : Nat)) (hl4_0 : List.length L2 = (256 : Nat)) (w : World) (rw : List Nat) (β : Env) (s : Unit) : Run Try.prog ⟨w, rw, 5, β⟩ (.block 10 (.loop (loopB Try.f66 10))) (bkC2_mk L0 L1 L2 0 s) (To ⟨w, rw, 5, β⟩ .normal (bkC2_mk L0 L1 L2 (48 : Nat) (iter (bkC2_step) (48 : Nat) s))) :=
  Run.count (fun k => bkC2_mk L0 L1 L2 k (iter (bkC2_step) k s)) (48 : Nat) (fun k hk => bkC2_round L0 L1 L2 hl2_0 hl3_0 hl4_0 w rw β k hk _) (ex := (.exit 10)) (by simp) (bkC2_last L0 L1 L2 hl2_0 hl3_0 hl4_0 w rw β _)

def apBk : List Int :=
  (rwM (0 : Int) (8 : Nat))

def apBk_1 : List Int :=
  (rwM (1 : Int) (8 : Nat))

def apBk_2 : List Int :=
  (rwM (2 : Int) (8 : Nat))

set_option maxHeartbeats 1000000 in
theorem apBk_body0 (L0 : List Int) (L1 : List Int) (L2 : List Int) (hl2_0 : List.length L0 = (256 : Nat)) (hl3_0 : List.length L1 = (256 : Nat)) (hl4_0 : List.length L2 = (256 : Nat)) (w : World) (rw : List Nat) (β : Env) : Body Try.prog (tabOf tabSB) Try.f66 ⟨w, rw, 5, β⟩ [.o (.a (.p 0 0))] [some ⟨true, (bkC (.rs 1 (0 : Nat) (3 : Nat) 1))⟩, some ⟨true, [.rs 2 (0 : Nat) (8 : Nat) 32, .rs 3 (0 : Nat) (8 : Nat) 32, .rs 4 (0 : Nat) (8 : Nat) 32]⟩, some ⟨true, [.ints .u8 (256 : Nat) L0]⟩, some ⟨true, [.ints .u8 (256 : Nat) L1]⟩, some ⟨true, [.ints .u8 (256 : Nat) L2]⟩] (fun ys K' => ys = [.a (.b true)] ∧ K' = [some ⟨true, (bkC (.rs 1 (0 : Nat) (3 : Nat) 1))⟩, some ⟨true, [.rs 2 (0 : Nat) (8 : Nat) 32, .rs 3 (0 : Nat) (8 : Nat) 32, .rs 4 (0 : Nat) (8 : Nat) 32]⟩, some ⟨false, [.ints .u8 (256 : Nat) (apBk)]⟩, some ⟨false, [.ints .u8 (256 : Nat) (apBk_1)]⟩, some ⟨false, [.ints .u8 (256 : Nat) (apBk_2)]⟩]) :=
  Body.of_finK (Γ := gam71) (Λ := lamIf [(2, some (4, 0), ⟨[.forget [0, 2, 3, 4, 5, 13, 14, 15, 16, 17, 18, 19, 20] 5], .normal, (bkM0_mk L0 L1 L2 (8 : Nat) (iter (bkM0_step) (8 : Nat) ()))⟩), (2, some (4, 1), ⟨[.forget [0, 2, 3, 4, 5, 13, 14, 15, 16, 17, 18, 19, 20, 21, 22] 5], .normal, (bkM1_mk L0 L1 L2 (8 : Nat) (iter (bkM1_step) (8 : Nat) ()))⟩), (2, some (4, 2), ⟨[.forget [0, 2, 3, 4, 5, 13, 14, 15, 16, 17, 18, 19, 20, 21, 22] 5], .normal, (bkM2_mk L0 L1 L2 (8 : Nat) (iter (bkM2_step) (8 : Nat) ()))⟩), (6, some (7, 0), ⟨[.forget [0, 3, 4, 5, 6, 7, 8, 9, 13, 14, 15, 16, 17, 18, 19, 20, 21, 22, 41, 42, 43, 44, 47, 48, 49, 50] 5], .normal, (bkG0_mkF L0 L1 L2)⟩), (6, some (7, 1), ⟨[.forget [0, 3, 4, 5, 6, 7, 8, 9, 13, 14, 15, 16, 17, 18, 19, 20, 21, 22, 41, 42, 43, 44, 45, 46, 47, 48, 49, 50, 62, 63, 64, 65] 8], .normal, (bkG1_mkF L0 L1 L2)⟩), (6, some (7, 2), ⟨[.forget [0, 3, 4, 5, 6, 7, 8, 9, 13, 14, 15, 16, 17, 18, 19, 20, 21, 22, 41, 42, 43, 44, 45, 46, 47, 48, 49, 50, 62, 63, 64, 65] 11], .normal, (bkG2_mkF L0 L1 L2)⟩), (10, some (10, 0), ⟨[.forget [0, 3, 4, 5, 6, 7, 8, 9, 10, 11, 13, 14, 15, 16, 17, 18, 19, 20, 21, 22, 41, 42, 43, 44, 45, 46, 47, 48, 49, 50, 62, 63, 64, 65, 66, 67, 68, 69] 14], .normal, (bkC0_mk L0 L1 L2 (48 : Nat) (iter (bkC0_step) (48 : Nat) ()))⟩), (10, some (10, 1), ⟨[.forget [0, 3, 4, 5, 6, 7, 8, 9, 10, 11, 13, 14, 15, 16, 17, 18, 19, 20, 21, 22, 41, 42, 43, 44, 45, 46, 47, 48, 49, 50, 62, 63, 64, 65, 66, 67, 68, 69, 70, 71] 14], .normal, (bkC1_mk L0 L1 L2 (48 : Nat) (iter (bkC1_step) (48 : Nat) ()))⟩), (10, some (10, 2), ⟨[.forget [0, 3, 4, 5, 6, 7, 8, 9, 10, 11, 13, 14, 15, 16, 17, 18, 19, 20, 21, 22, 41, 42, 43, 44, 45, 46, 47, 48, 49, 50, 62, 63, 64, 65, 66, 67, 68, 69, 70, 71] 14], .normal, (bkC2_mk L0 L1 L2 (48 : Nat) (iter (bkC2_step) (48 : Nat) ()))⟩)]) (Ψ := psiOf [(9, [.eqB 2 (⟨true, [.ints .u8 (256 : Nat) (rwM (0 : Int) (8 : Nat))]⟩), .eqB 3 (⟨true, [.ints .u8 (256 : Nat) (rwM (1 : Int) (8 : Nat))]⟩), .eqB 4 (⟨true, [.ints .u8 (256 : Nat) (rwM (2 : Int) (8 : Nat))]⟩)])]) (fuel := 4) (m := 113) (c := (Try.f66.body.getD .skip)) mix tabOkSB gam71_ok rfl (rs := [.tmp 2]) rfl rfl [true, true, true, false, true, false, true, false, true, false, false, true, true, true, false] [] 5
    (vc := [(false = false), (Run Try.prog ⟨w, rw, 5, β⟩ (.block 10 (.loop (loopB Try.f66 10))) (bkC2_mk L0 L1 L2 0 ()) (To ⟨w, rw, 5, β⟩ .normal (bkC2_mk L0 L1 L2 (48 : Nat) (iter (bkC2_step) (48 : Nat) ())))), (true = true), (Run Try.prog ⟨w, rw, 5, β⟩ (.block 10 (.loop (loopB Try.f66 10))) (bkC1_mk L0 L1 L2 0 ()) (To ⟨w, rw, 5, β⟩ .normal (bkC1_mk L0 L1 L2 (48 : Nat) (iter (bkC1_step) (48 : Nat) ())))), (true = true), (Run Try.prog ⟨w, rw, 5, β⟩ (.block 10 (.loop (loopB Try.f66 10))) (bkC0_mk L0 L1 L2 0 ()) (To ⟨w, rw, 5, β⟩ .normal (bkC0_mk L0 L1 L2 (48 : Nat) (iter (bkC0_step) (48 : Nat) ())))), (true = true), (false = false), (True ∧ (((1 : Nat) ≤ (1 : Nat)) ∧ True) ∧ ((72 : Nat) ≤ (140737488355328 : Nat))), (Run Try.prog ⟨w, rw, 5, β⟩ (.block 6 (.loop (loopB Try.f66 6))) (bkG2_mk0 L0 L1 L2) (To ⟨w, rw, 5, β⟩ .normal (bkG2_mkF L0 L1 L2))), (((0 : Int) ≤ (2 : Int)) ∧ ((2 : Int) < (3 : Int))), (true = true), (True ∧ (((1 : Nat) ≤ (1 : Nat)) ∧ True) ∧ ((48 : Nat) ≤ (140737488355328 : Nat))), (Run Try.prog ⟨w, rw, 5, β⟩ (.block 6 (.loop (loopB Try.f66 6))) (bkG1_mk0 L0 L1 L2) (To ⟨w, rw, 5, β⟩ .normal (bkG1_mkF L0 L1 L2))), (((0 : Int) ≤ (1 : Int)) ∧ ((1 : Int) < (3 : Int))), (true = true), ((((1 : Nat) ≤ (1 : Nat)) ∧ True) ∧ ((24 : Nat) ≤ (140737488355328 : Nat))), (Run Try.prog ⟨w, rw, 5, β⟩ (.block 6 (.loop (loopB Try.f66 6))) (bkG0_mk0 L0 L1 L2) (To ⟨w, rw, 5, β⟩ .normal (bkG0_mkF L0 L1 L2))), (((0 : Int) ≤ (0 : Int)) ∧ ((0 : Int) < (3 : Int))), (true = true), ((some ⟨true, [.ints .u8 (256 : Nat) (mkP L2 (2 : Int) (8 : Nat))]⟩ : Option Blk) = some ⟨true, [.ints .u8 (256 : Nat) (rwM (2 : Int) (8 : Nat))]⟩), ((some ⟨true, [.ints .u8 (256 : Nat) (mkP L1 (1 : Int) (8 : Nat))]⟩ : Option Blk) = some ⟨true, [.ints .u8 (256 : Nat) (rwM (1 : Int) (8 : Nat))]⟩), ((some ⟨true, [.ints .u8 (256 : Nat) (mkP L0 (0 : Int) (8 : Nat))]⟩ : Option Blk) = some ⟨true, [.ints .u8 (256 : Nat) (rwM (0 : Int) (8 : Nat))]⟩), (false = false), (Run Try.prog ⟨w, rw, 5, β⟩ (.block 2 (.loop (loopB Try.f66 2))) (bkM2_mk L0 L1 L2 0 ()) (To ⟨w, rw, 5, β⟩ .normal (bkM2_mk L0 L1 L2 (8 : Nat) (iter (bkM2_step) (8 : Nat) ())))), (true = true), (Run Try.prog ⟨w, rw, 5, β⟩ (.block 2 (.loop (loopB Try.f66 2))) (bkM1_mk L0 L1 L2 0 ()) (To ⟨w, rw, 5, β⟩ .normal (bkM1_mk L0 L1 L2 (8 : Nat) (iter (bkM1_step) (8 : Nat) ())))), (true = true), (Run Try.prog ⟨w, rw, 5, β⟩ (.block 2 (.loop (loopB Try.f66 2))) (bkM0_mk L0 L1 L2 0 ()) (To ⟨w, rw, 5, β⟩ .normal (bkM0_mk L0 L1 L2 (8 : Nat) (iter (bkM0_step) (8 : Nat) ())))), (true = true)]) (by kernel_rfl)
    (AllP_cons rfl (AllP_cons (bkC2_loop L0 L1 L2 hl2_0 hl3_0 hl4_0 w rw β ()) (AllP_cons rfl (AllP_cons (bkC1_loop L0 L1 L2 hl2_0 hl3_0 hl4_0 w rw β ()) (AllP_cons rfl (AllP_cons (bkC0_loop L0 L1 L2 hl2_0 hl3_0 hl4_0 w rw β ()) (AllP_cons rfl (AllP_cons rfl (AllP_cons ⟨trivial, ⟨(by decide), trivial⟩, (by decide)⟩ (AllP_cons (bkG2_loop L0 L1 L2 hl2_0 hl3_0 hl4_0 w rw β) (AllP_cons ⟨(by decide), (by decide)⟩ (AllP_cons rfl (AllP_cons ⟨trivial, ⟨(by decide), trivial⟩, (by decide)⟩ (AllP_cons (bkG1_loop L0 L1 L2 hl2_0 hl3_0 hl4_0 w rw β) (AllP_cons ⟨(by decide), (by decide)⟩ (AllP_cons rfl (AllP_cons ⟨⟨(by decide), trivial⟩, (by decide)⟩ (AllP_cons (bkG0_loop L0 L1 L2 hl2_0 hl3_0 hl4_0 w rw β) (AllP_cons ⟨(by decide), (by decide)⟩ (AllP_cons rfl (AllP_cons ((by rw [mkP_all hl4_0])) (AllP_cons ((by rw [mkP_all hl3_0])) (AllP_cons ((by rw [mkP_all hl2_0])) (AllP_cons rfl (AllP_cons (bkM2_loop L0 L1 L2 hl2_0 hl3_0 hl4_0 w rw β ()) (AllP_cons rfl (AllP_cons (bkM1_loop L0 L1 L2 hl2_0 hl3_0 hl4_0 w rw β ()) (AllP_cons rfl (AllP_cons (bkM0_loop L0 L1 L2 hl2_0 hl3_0 hl4_0 w rw β ()) (AllP_cons rfl (AllP_nil)))))))))))))))))))))))))))))))

theorem apBk_body (L0 : List Int) (L1 : List Int) (L2 : List Int) (w : World) (rw : List Nat) (β : Env) : Body Try.prog (tabOf tabSB) Try.f66 ⟨w, rw, 5, β⟩ [.o (.a (.p 0 0))] [some ⟨true, (bkC (.rs 1 (0 : Nat) (3 : Nat) 1))⟩, some ⟨true, [.rs 2 (0 : Nat) (8 : Nat) 32, .rs 3 (0 : Nat) (8 : Nat) 32, .rs 4 (0 : Nat) (8 : Nat) 32]⟩, some ⟨true, [.ints .u8 (256 : Nat) L0]⟩, some ⟨true, [.ints .u8 (256 : Nat) L1]⟩, some ⟨true, [.ints .u8 (256 : Nat) L2]⟩] (fun ys K' => ys = [.a (.b true)] ∧ K' = [some ⟨true, (bkC (.rs 1 (0 : Nat) (3 : Nat) 1))⟩, some ⟨true, [.rs 2 (0 : Nat) (8 : Nat) 32, .rs 3 (0 : Nat) (8 : Nat) 32, .rs 4 (0 : Nat) (8 : Nat) 32]⟩, some ⟨false, [.ints .u8 (256 : Nat) (apBk)]⟩, some ⟨false, [.ints .u8 (256 : Nat) (apBk_1)]⟩, some ⟨false, [.ints .u8 (256 : Nat) (apBk_2)]⟩]) :=
  Body.lens (c := (Try.f66.body.getD .skip)) rfl fun h => apBk_body0 L0 L1 L2 (h.lens 2 _ .u8 (256 : Nat) L0 rfl (by simp)) (h.lens 3 _ .u8 (256 : Nat) L1 rfl (by simp)) (h.lens 4 _ .u8 (256 : Nat) L2 rfl (by simp)) w rw β

def gam72 : Gam := gcall 66 [true, true, true, true, true] [.w] (fun wk vs args => match wk, vs, args with | [⟨true, [.raw (.slice none 0 0), .raw (.slice none 0 0), .raw (.slice none 0 0), .raw (.slice none 0 0), .raw (.slice none 0 0), .rs 1 (0 : Nat) (3 : Nat) 1, .raw (.slice none 0 0), .raw (.slice none 0 0), .raw (.slice none 0 0), .raw (.slice none 0 0), .raw (.slice none 0 0), .raw (.slice none 0 0), .raw (.slice none 0 0), .raw (.slice none 0 0), .raw (.slice none 0 0), .raw (.slice none 0 0), .raw (.slice none 0 0), .raw (.slice none 0 0), .raw (.slice none 0 0), .raw (.slice none 0 0), .raw (.slice none 0 0)]⟩, ⟨true, [.rs 2 (0 : Nat) (8 : Nat) 32, .rs 3 (0 : Nat) (8 : Nat) 32, .rs 4 (0 : Nat) (8 : Nat) 32]⟩, ⟨true, [.ints .u8 (256 : Nat) L0]⟩, ⟨true, [.ints .u8 (256 : Nat) L1]⟩, ⟨true, [.ints .u8 (256 : Nat) L2]⟩], [], [.o (.a (.p 0 0))] => some (True, [.a (.b true)], [some ⟨true, (bkC (.rs 1 (0 : Nat) (3 : Nat) 1))⟩, some ⟨true, [.rs 2 (0 : Nat) (8 : Nat) 32, .rs 3 (0 : Nat) (8 : Nat) 32, .rs 4 (0 : Nat) (8 : Nat) 32]⟩, some ⟨false, [.ints .u8 (256 : Nat) (apBk)]⟩, some ⟨false, [.ints .u8 (256 : Nat) (apBk_1)]⟩, some ⟨false, [.ints .u8 (256 : Nat) (apBk_2)]⟩]) | _, _, _ => none) gam71
theorem gam72_ok : GamOk Try.prog gam72 := gcall_ok tabOkSB Try.func66 gam71_ok Try.call66 (by
  intro wk vs args p xs K1 h hv
  split at h
  · simp only [Option.some.injEq, Prod.mk.injEq] at h; obtain ⟨rfl, rfl, rfl⟩ := h; exact fun caps w rw β => apBk_body _ _ _ w rw β
  · simp at h)

end Go.Proofs.Ytodiojpakfjehaa.X

