/- The law EdwardsOwn, over whatever arguments: true; what was there is as it was. -/
import Derived.Test.YtodiojpakfjehaaZown6
import Derived.SizedLaws
import Derived.KernelRfl
namespace Go.Proofs.Ytodiojpakfjehaa.edwardsOwn
open Go Go.Proofs Go.ChangeShapes Go.WideShapes Go.ChangeAt Go.RowKit Go.Proofs.Ytodiojpakfjehaa.X Go.Proofs.Ytodiojpakfjehaa.R
set_option linter.unusedVariables false
set_option maxRecDepth 100000

theorem wts_slice {H : Type} {P : Program} {t e : TypeId} {elems spare : List (DataW H)} (ht : P.underlying t = some (.slice e)) : (elems.length + spare.length) * P.bytesOf e ∈ (DataW.slice elems spare).weights P t := by
  simp only [DataW.weights, ht]
  exact List.mem_cons_self ..
theorem wts_each {H : Type} {P : Program} : ∀ {ts : List TypeId} {ds : List (DataW H)}, (DataW.weightsEach P ts ds).all (· ≤ reachBytes) = true → ∀ (i t : Nat) (d : DataW H), ts[i]? = some t → ds[i]? = some d → ∀ x ∈ d.weights P t, x ≤ reachBytes
  | [], _, _, _, _, _, h, _, _, _ => by simp at h
  | _ :: _, [], _, _, _, _, _, h, _, _ => by simp at h
  | t0 :: ts, d0 :: ds, hk, i, t, d, ht, hd, x, hx => by
    simp only [DataW.weightsEach, List.all_append, Bool.and_eq_true] at hk
    cases i with
    | zero =>
      simp only [List.getElem?_cons_zero, Option.some.injEq] at ht hd
      subst ht hd
      have := List.all_eq_true.1 hk.1 x hx
      simpa using this
    | succ i => exact wts_each hk.2 i t d (by simpa using ht) (by simpa using hd) x hx

theorem own : ownKnob Try.prog.godebug = none := by kernel_rfl

set_option maxHeartbeats 1000000 in
theorem contract (H : Type) (enc : TypeId × Value → H) (W : World) (base : Nat) (args : Array Value) (ds gs : List (DataW H)) (before : List MemPlace)
    (hval : ∀ (j : Nat) t v, Try.f5.params[j]? = some t → args[j]? = some v → Value.okWide Try.prog W .any base t v)
    (hW : DataW.Whole enc Try.prog Try.f5.params.toList Rows.edwardsOwnSpec.vars false W args.toList ds gs before) (hk : (DataW.weightsEach Try.prog (Try.f5.params.toList ++ Rows.edwardsOwnSpec.plain.varTypes Try.prog) (ds ++ gs)).all (· ≤ reachBytes) = true) :
    Calls Try.prog 5 args W fun e W' => ∃ v, e = .returned v ∧ Rows.edwardsOwnSpec.post enc Try.prog Try.f5 false true false false W args v W' := by
  have hW' := hW
  obtain ⟨p, q, hA0, hV, rfl, hfz, hnd⟩ := hW
  have hA : DataW.TrodAll enc Try.prog W 0 (fun _ => true) true Try.f5.params.toList args.toList ds p := hA0
  clear hA0
  rw [Try.params5] at hA hval
  obtain ⟨v0, vs0, d0, ds0, p0, q0, hargs, rfl, rfl, h0, r0⟩ := trodAll_cons hA
  obtain ⟨v1, vs1, d1, ds1, p1, q1, rfl, rfl, rfl, h1, r1⟩ := trodAll_cons r0
  obtain ⟨rfl, rfl, rfl⟩ := trodAll_nil r1
  obtain rfl : args = #[v0, v1] := by cases args; simp_all
  obtain ⟨rfl, rfl⟩ := trodVars_none hV
  obtain ⟨n, cap0, K, hl_K, hc_K, hw_K, o0, e0⟩ := arrs_arg (z := 32) Try.underlying44 Try.underlying37 Try.underlying5 (by kernel_rfl) (by kernel_rfl) (by decide) (hval 0 44 v0 rfl rfl) h0
  have hn_n : n ≤ 4398046510976 := by
    have hb2 := wts_each hk 0 44 d0 (by kernel_rfl) rfl
    rcases e0 with ⟨_, h0⟩ | ⟨xs, s, rfl, hxl⟩
    · omega
    · have hb3 := hb2 _ (wts_slice Try.underlying44)
      rw [show Try.prog.bytesOf 37 = 32 by kernel_rfl] at hb3
      unfold reachBytes at hb3
      omega
  obtain ⟨m, cap1, e, hl_e, hc_e, hw_e, o1, e1⟩ := arrs_arg (z := 32) Try.underlying45 Try.underlying23 Try.underlying5 (by kernel_rfl) (by kernel_rfl) (by decide) (hval 1 45 v1 rfl rfl) h1
  have hn_m : m ≤ 4398046510976 := by
    have hb2 := wts_each hk 1 45 d1 (by kernel_rfl) rfl
    rcases e1 with ⟨_, h0⟩ | ⟨xs, s, rfl, hxl⟩
    · omega
    · have hb3 := hb2 _ (wts_slice Try.underlying45)
      rw [show Try.prog.bytesOf 23 = 32 by kernel_rfl] at hb3
      unfold reachBytes at hb3
      omega
  have ho : Opened W 0 _ _ _ := ((o0 _).app ((o1 _).app Opened.nil))
  refine (calls_true tabOkSE Try.func5 ho fun β => ?_).mono fun e W' ⟨he, hg⟩ => ⟨_, he, post_true (by kernel_rfl) rfl rfl rfl Try.underlying4 hW' hg⟩
  clear hval hA hV hW' hk
  have bl : Byt K := fun x hx => by have := bounds_u8 (hw_K x hx); omega
  have bk : Byt e := fun x hx => by have := bounds_u8 (hw_e x hx); omega
  exact own_body n (n * 32) K m (m * 32) e _ _ rfl rfl hn_n hn_m bl bk W β

theorem lifted (os : Os) (started : os.Started) (H : Type) (enc : TypeId × Value → H) :
    ReturnsInHanded {} Try.checked os 5 .any (Rows.edwardsOwnSpec.pre6 enc Try.prog Try.f5 Rows.edwardsOwnRow.domain false) (Rows.edwardsOwnSpec.post enc Try.prog Try.f5 false true false false) := by
  refine returnsInHanded_of_change_sized (C := Try.checked) (s := Rows.edwardsOwnSpec) own started (by kernel_rfl) Try.func5
    (ChangeSpec.witness6 (enc := enc) (C := Try.checked) (s := Rows.edwardsOwnSpec) false ⟨#[], #[.slice none 0 0, .slice none 0 0], []⟩ 8 (by kernel_rfl) (by kernel_rfl) (by kernel_rfl) (by kernel_rfl)) ?_
  intro W base args ds gs before hval hW _ hk _
  exact contract H enc W base args ds gs before hval hW hk

theorem over : Rows.edwardsOwnRow.holds Try.pinned (OpenSpec.ofChange Rows.edwardsOwnSpec) :=
  OpenClaim.holds_of_wide 5 Try.f5 rfl rfl rfl rfl rfl rfl rfl ⟨rfl, rfl, rfl, rfl, rfl⟩ rfl rfl rfl rfl rfl (by kernel_rfl) Try.func5 (by kernel_rfl)
    (of_decide_eq_true (by kernel_rfl)) (by unfold Func.isWrapper; first | (rw [if_pos (by decide +kernel)]; kernel_rfl) | (rw [if_neg (by decide +kernel)]; exact ⟨rfl, rfl⟩))
    (fun os started H enc _ => lifted os started H enc)

theorem proved : Rows.EdwardsOwnSaid :=
  over
end Go.Proofs.Ytodiojpakfjehaa.edwardsOwn
