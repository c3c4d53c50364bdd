/- The law EdwardsTwo, over whatever arguments: true; what was there is as it was. -/
import Derived.Test.YtodiojpakfjehaaZtwo5
import Derived.SizedLaws
import Derived.KernelRfl
namespace Go.Proofs.Ytodiojpakfjehaa.edwardsTwo
open Go Go.Proofs Go.ChangeShapes Go.WideShapes Go.ChangeAt Go.RowKit Go.Proofs.Ytodiojpakfjehaa.X Go.Proofs.Ytodiojpakfjehaa.R
set_option linter.unusedVariables false
set_option maxRecDepth 100000

theorem calls_true0 {P : Program} {T : Tab} (hT : TabOk P T) {f : FuncId} {fn : Func} (hf : P.funcs[f]? = some fn) {W : World} {vs : List Value} {avs : List AV} (ho : Opened W 0 vs avs [])
    (h : Body P T fn ⟨W, [], 0, noEnv⟩ avs [] fun ys _ => ys = [.a (.b true)]) : Calls P f vs.toArray W fun e W' => e = .returned (.bool true) ∧ Grow W W' := by
  obtain ⟨ρ, hl, hρ⟩ := ho
  have hl : ρ.length = 0 := hl
  have hall := (hρ noEnv fun j hj => absurd hj (by omega)).2
  have hrel : RelW W [] noEnv [] W := RelW.ofRead fun j b hj => by simp [Know.at] at hj
  refine Calls.mono (calls_of_body hT hf hall hrel h) fun e W' h => ?_
  obtain ⟨xs, K, v, β', hx, rfl, hv, hr, _⟩ := h
  subst hx
  have hv : [v] = [Value.bool true] := hv
  simp only [List.cons.injEq, and_true] at hv
  subst hv
  exact ⟨rfl, hr.toGrow⟩

theorem wts_slice {H : Type} {P : Program} {t e : TypeId} {elems spare : List (DataW H)} (ht : P.underlying t = some (.slice e)) : (elems.length + spare.length) * P.bytesOf e ∈ (DataW.slice elems spare).weights P t := by
  simp only [DataW.weights, ht]
  exact List.mem_cons_self ..
theorem wts_each {H : Type} {P : Program} : ∀ {ts : List TypeId} {ds : List (DataW H)}, (DataW.weightsEach P ts ds).all (· ≤ reachBytes) = true → ∀ (i t : Nat) (d : DataW H), ts[i]? = some t → ds[i]? = some d → ∀ x ∈ d.weights P t, x ≤ reachBytes
  | [], _, _, _, _, _, h, _, _, _ => by simp at h
  | _ :: _, [], _, _, _, _, _, h, _, _ => by simp at h
  | t0 :: ts, d0 :: ds, hk, i, t, d, ht, hd, x, hx => by
    simp only [DataW.weightsEach, List.all_append, Bool.and_eq_true] at hk
    cases i with
    | zero =>
      simp only [List.getElem?_cons_zero, Option.some.injEq] at ht hd
      subst ht hd
      have := List.all_eq_true.1 hk.1 x hx
      simpa using this
    | succ i => exact wts_each hk.2 i t d (by simpa using ht) (by simpa using hd) x hx

theorem own : ownKnob Try.prog.godebug = none := by kernel_rfl

set_option maxHeartbeats 1000000 in
theorem contract (H : Type) (enc : TypeId × Value → H) (W : World) (base : Nat) (args : Array Value) (ds gs : List (DataW H)) (before : List MemPlace)
    (hval : ∀ (j : Nat) t v, Try.f8.params[j]? = some t → args[j]? = some v → Value.okWide Try.prog W .any base t v)
    (hW : DataW.Whole enc Try.prog Try.f8.params.toList Rows.edwardsTwoSpec.vars false W args.toList ds gs before) (hk : (DataW.weightsEach Try.prog (Try.f8.params.toList ++ Rows.edwardsTwoSpec.plain.varTypes Try.prog) (ds ++ gs)).all (· ≤ reachBytes) = true) :
    Calls Try.prog 8 args W fun e W' => ∃ v, e = .returned v ∧ Rows.edwardsTwoSpec.post enc Try.prog Try.f8 false true false false W args v W' := by
  have hW' := hW
  obtain ⟨p, q, hA0, hV, rfl, hfz, hnd⟩ := hW
  have hA : DataW.TrodAll enc Try.prog W 0 (fun _ => true) true Try.f8.params.toList args.toList ds p := hA0
  clear hA0
  rw [Try.params8] at hA hval
  obtain ⟨v0, vs0, d0, ds0, p0, q0, hargs, rfl, rfl, h0, r0⟩ := trodAll_cons hA
  obtain ⟨v1, vs1, d1, ds1, p1, q1, rfl, rfl, rfl, h1, r1⟩ := trodAll_cons r0
  obtain ⟨v2, vs2, d2, ds2, p2, q2, rfl, rfl, rfl, h2, r2⟩ := trodAll_cons r1
  obtain ⟨rfl, rfl, rfl⟩ := trodAll_nil r2
  obtain rfl : args = #[v0, v1, v2] := by cases args; simp_all
  obtain ⟨rfl, rfl⟩ := trodVars_none hV
  obtain ⟨a, hl_a, hw_a, o0⟩ := arr_arg Try.underlying23 Try.underlying5 (by kernel_rfl) (by kernel_rfl) (hval 0 23 v0 rfl rfl) h0
  obtain ⟨b, hl_b, hw_b, o1⟩ := arr_arg Try.underlying23 Try.underlying5 (by kernel_rfl) (by kernel_rfl) (hval 1 23 v1 rfl rfl) h1
  obtain ⟨k, hl_k, hw_k, o2⟩ := arr_arg Try.underlying37 Try.underlying5 (by kernel_rfl) (by kernel_rfl) (hval 2 37 v2 rfl rfl) h2
  have ho : Opened W 0 _ _ _ := ((o0 _).app ((o1 _).app ((o2 _).app Opened.nil)))
  refine (calls_true0 tabOkVX Try.func8 ho ?_).mono fun e W' ⟨he, hg⟩ => ⟨_, he, post_true (by kernel_rfl) rfl rfl rfl Try.underlying4 hW' hg⟩
  clear hval hA hV hW' hk
  have bta : Byt a := fun x hx => by have := bounds_u8 (hw_a x hx); omega
  have btb : Byt b := fun x hx => by have := bounds_u8 (hw_b x hx); omega
  have btk : Byt k := fun x hx => by have := bounds_u8 (hw_k x hx); omega
  exact two_body a b k bta btb btk W

theorem lifted (os : Os) (started : os.Started) (H : Type) (enc : TypeId × Value → H) :
    ReturnsInHanded {} Try.checked os 8 .any (Rows.edwardsTwoSpec.pre6 enc Try.prog Try.f8 Rows.edwardsTwoRow.domain false) (Rows.edwardsTwoSpec.post enc Try.prog Try.f8 false true false false) := by
  refine returnsInHanded_of_change_sized (C := Try.checked) (s := Rows.edwardsTwoSpec) own started (by kernel_rfl) Try.func8
    (ChangeSpec.witness6 (enc := enc) (C := Try.checked) (s := Rows.edwardsTwoSpec) false ⟨#[], #[.agg #[.int .u8 0, .int .u8 0, .int .u8 0, .int .u8 0, .int .u8 0, .int .u8 0, .int .u8 0, .int .u8 0, .int .u8 0, .int .u8 0, .int .u8 0, .int .u8 0, .int .u8 0, .int .u8 0, .int .u8 0, .int .u8 0, .int .u8 0, .int .u8 0, .int .u8 0, .int .u8 0, .int .u8 0, .int .u8 0, .int .u8 0, .int .u8 0, .int .u8 0, .int .u8 0, .int .u8 0, .int .u8 0, .int .u8 0, .int .u8 0, .int .u8 0, .int .u8 0], .agg #[.int .u8 0, .int .u8 0, .int .u8 0, .int .u8 0, .int .u8 0, .int .u8 0, .int .u8 0, .int .u8 0, .int .u8 0, .int .u8 0, .int .u8 0, .int .u8 0, .int .u8 0, .int .u8 0, .int .u8 0, .int .u8 0, .int .u8 0, .int .u8 0, .int .u8 0, .int .u8 0, .int .u8 0, .int .u8 0, .int .u8 0, .int .u8 0, .int .u8 0, .int .u8 0, .int .u8 0, .int .u8 0, .int .u8 0, .int .u8 0, .int .u8 0, .int .u8 0], .agg #[.int .u8 0, .int .u8 0, .int .u8 0, .int .u8 0, .int .u8 0, .int .u8 0, .int .u8 0, .int .u8 0, .int .u8 0, .int .u8 0, .int .u8 0, .int .u8 0, .int .u8 0, .int .u8 0, .int .u8 0, .int .u8 0, .int .u8 0, .int .u8 0, .int .u8 0, .int .u8 0, .int .u8 0, .int .u8 0, .int .u8 0, .int .u8 0, .int .u8 0, .int .u8 0, .int .u8 0, .int .u8 0, .int .u8 0, .int .u8 0, .int .u8 0, .int .u8 0]], []⟩ 8 (by kernel_rfl) (by kernel_rfl) (by kernel_rfl) (by kernel_rfl)) ?_
  intro W base args ds gs before hval hW _ hk _
  exact contract H enc W base args ds gs before hval hW hk

theorem over : Rows.edwardsTwoRow.holds Try.pinned (OpenSpec.ofChange Rows.edwardsTwoSpec) :=
  OpenClaim.holds_of_wide 8 Try.f8 rfl rfl rfl rfl rfl rfl rfl ⟨rfl, rfl, rfl, rfl, rfl⟩ rfl rfl rfl rfl rfl (by kernel_rfl) Try.func8 (by kernel_rfl)
    (of_decide_eq_true (by kernel_rfl)) (by unfold Func.isWrapper; first | (rw [if_pos (by decide +kernel)]; kernel_rfl) | (rw [if_neg (by decide +kernel)]; exact ⟨rfl, rfl⟩))
    (fun os started H enc _ => lifted os started H enc)

theorem proved : Rows.EdwardsTwoSaid :=
  over
end Go.Proofs.Ytodiojpakfjehaa.edwardsTwo
