/- The law ScalarReduces, over whatever arguments: true; what was there is as it was. -/
import Derived.Test.YtcpoldghkiiggaaZred4
import Derived.SizedLaws
import Derived.KernelRfl
namespace Go.Proofs.Ytcpoldghkiiggaa.scalarReduces
open Go Go.Proofs Go.ChangeShapes Go.WideShapes Go.ChangeAt Go.RowKit Go.Proofs.Ytcpoldghkiiggaa.X Go.Proofs.Ytcpoldghkiiggaa.R
set_option linter.unusedVariables false
set_option maxRecDepth 100000

theorem wts_slice {H : Type} {P : Program} {t e : TypeId} {elems spare : List (DataW H)} (ht : P.underlying t = some (.slice e)) : (elems.length + spare.length) * P.bytesOf e ∈ (DataW.slice elems spare).weights P t := by
  simp only [DataW.weights, ht]
  exact List.mem_cons_self ..
theorem wts_each {H : Type} {P : Program} : ∀ {ts : List TypeId} {ds : List (DataW H)}, (DataW.weightsEach P ts ds).all (· ≤ reachBytes) = true → ∀ (i t : Nat) (d : DataW H), ts[i]? = some t → ds[i]? = some d → ∀ x ∈ d.weights P t, x ≤ reachBytes
  | [], _, _, _, _, _, h, _, _, _ => by simp at h
  | _ :: _, [], _, _, _, _, _, h, _, _ => by simp at h
  | t0 :: ts, d0 :: ds, hk, i, t, d, ht, hd, x, hx => by
    simp only [DataW.weightsEach, List.all_append, Bool.and_eq_true] at hk
    cases i with
    | zero =>
      simp only [List.getElem?_cons_zero, Option.some.injEq] at ht hd
      subst ht hd
      have := List.all_eq_true.1 hk.1 x hx
      simpa using this
    | succ i => exact wts_each hk.2 i t d (by simpa using ht) (by simpa using hd) x hx

theorem own : ownKnob Try.prog.godebug = none := by kernel_rfl

set_option maxHeartbeats 1000000 in
theorem contract (H : Type) (enc : TypeId × Value → H) (W : World) (base : Nat) (args : Array Value) (ds gs : List (DataW H)) (before : List MemPlace)
    (hval : ∀ (j : Nat) t v, Try.f6.params[j]? = some t → args[j]? = some v → Value.okWide Try.prog W .any base t v)
    (hW : DataW.Whole enc Try.prog Try.f6.params.toList Rows.scalarReducesSpec.vars false W args.toList ds gs before) (hk : (DataW.weightsEach Try.prog (Try.f6.params.toList ++ Rows.scalarReducesSpec.plain.varTypes Try.prog) (ds ++ gs)).all (· ≤ reachBytes) = true) :
    Calls Try.prog 6 args W fun e W' => ∃ v, e = .returned v ∧ Rows.scalarReducesSpec.post enc Try.prog Try.f6 false true false false W args v W' := by
  have hW' := hW
  obtain ⟨p, q, hA0, hV, rfl, hfz, hnd⟩ := hW
  have hA : DataW.TrodAll enc Try.prog W 0 (fun _ => true) true Try.f6.params.toList args.toList ds p := hA0
  clear hA0
  rw [Try.params6] at hA hval
  obtain ⟨v0, vs0, d0, ds0, p0, q0, hargs, rfl, rfl, h0, r0⟩ := trodAll_cons hA
  obtain ⟨v1, vs1, d1, ds1, p1, q1, rfl, rfl, rfl, h1, r1⟩ := trodAll_cons r0
  obtain ⟨v2, vs2, d2, ds2, p2, q2, rfl, rfl, rfl, h2, r2⟩ := trodAll_cons r1
  obtain ⟨rfl, rfl, rfl⟩ := trodAll_nil r2
  obtain rfl : args = #[v0, v1, v2] := by cases args; simp_all
  obtain ⟨rfl, rfl⟩ := trodVars_none hV
  obtain ⟨n, cap0, b, hl_b, hc_b, hw_b, o0, e0⟩ := ints_arg Try.underlying22 Try.underlying5 (by kernel_rfl) (hval 0 22 v0 rfl rfl) h0
  have hn_n : n ≤ 140737488351232 := by
    have hb2 := wts_each hk 0 22 d0 (by kernel_rfl) rfl
    rcases e0 with ⟨_, h0⟩ | ⟨s, rfl⟩
    · omega
    · have hb3 := hb2 _ (wts_slice Try.underlying22)
      rw [show Try.prog.bytesOf 5 = 1 by kernel_rfl] at hb3
      have hb4 : (lits (H := H) .u8 b).length = n := by simp [lits, hl_b]
      unfold reachBytes at hb3
      omega
  obtain ⟨m, cap1, c, hl_c, hc_c, hw_c, o1, e1⟩ := ints_arg Try.underlying22 Try.underlying5 (by kernel_rfl) (hval 1 22 v1 rfl rfl) h1
  have hn_m : m ≤ 140737488351232 := by
    have hb2 := wts_each hk 1 22 d1 (by kernel_rfl) rfl
    rcases e1 with ⟨_, h0⟩ | ⟨s, rfl⟩
    · omega
    · have hb3 := hb2 _ (wts_slice Try.underlying22)
      rw [show Try.prog.bytesOf 5 = 1 by kernel_rfl] at hb3
      have hb4 : (lits (H := H) .u8 c).length = m := by simp [lits, hl_c]
      unfold reachBytes at hb3
      omega
  obtain ⟨N, hw_N, o2⟩ := int_arg Try.underlying25 (hval 2 25 v2 rfl rfl) h2
  have ho : Opened W 0 _ _ _ := ((o0 _).app ((o1 _).app ((o2 _).app Opened.nil)))
  refine (calls_true tabOkQV Try.func6 ho fun β => ?_).mono fun e W' ⟨he, hg⟩ => ⟨_, he, post_true (by kernel_rfl) rfl rfl rfl Try.underlying4 hW' hg⟩
  clear hval hA hV hW' hk
  have bb : Byt b := fun x hx => by have := bounds_u8 (hw_b x hx); omega
  have bc : Byt c := fun x hx => by have := bounds_u8 (hw_c x hx); omega
  have bn := bounds_u64 hw_N
  by_cases h300 : 300 < n
  · exact Body.lens (c := (Try.f6.body.getD .skip)) rfl fun h => rdcA_body0 n n b m m c N _ _ rfl rfl hn_n hn_m bb bc bn.1 (by omega) (h.caps 0 _ _ _ _ rfl) (h.caps 1 _ _ _ _ rfl) (h.lens 0 _ .u8 n b rfl (by simp)) (h.lens 1 _ .u8 m c rfl (by simp)) h300 W β
  · by_cases hn : n = 32
    · by_cases hd : BV b < LL
      · exact Body.lens (c := (Try.f6.body.getD .skip)) rfl fun h => rdcD_body0 n n b m m c N _ _ rfl rfl hn_n hn_m bb bc bn.1 (by omega) (h.caps 0 _ _ _ _ rfl) (h.caps 1 _ _ _ _ rfl) (h.lens 0 _ .u8 n b rfl (by simp)) (h.lens 1 _ .u8 m c rfl (by simp)) hn hd W β
      · exact Body.lens (c := (Try.f6.body.getD .skip)) rfl fun h => rdcC_body0 n n b m m c N _ _ rfl rfl hn_n hn_m bb bc bn.1 (by omega) (h.caps 0 _ _ _ _ rfl) (h.caps 1 _ _ _ _ rfl) (h.lens 0 _ .u8 n b rfl (by simp)) (h.lens 1 _ .u8 m c rfl (by simp)) hn hd W β
    · exact Body.lens (c := (Try.f6.body.getD .skip)) rfl fun h => rdcB_body0 n n b m m c N _ _ rfl rfl hn_n hn_m bb bc bn.1 (by omega) (h.caps 0 _ _ _ _ rfl) (h.caps 1 _ _ _ _ rfl) (h.lens 0 _ .u8 n b rfl (by simp)) (h.lens 1 _ .u8 m c rfl (by simp)) (by omega) hn W β

theorem lifted (os : Os) (started : os.Started) (H : Type) (enc : TypeId × Value → H) :
    ReturnsInHanded {} Try.checked os 6 .any (Rows.scalarReducesSpec.pre6 enc Try.prog Try.f6 Rows.scalarReducesRow.domain false) (Rows.scalarReducesSpec.post enc Try.prog Try.f6 false true false false) := by
  refine returnsInHanded_of_change_sized (C := Try.checked) (s := Rows.scalarReducesSpec) own started (by kernel_rfl) Try.func6
    (ChangeSpec.witness6 (enc := enc) (C := Try.checked) (s := Rows.scalarReducesSpec) false ⟨#[], #[.slice none 0 0, .slice none 0 0, .int .u64 0], []⟩ 8 (by kernel_rfl) (by kernel_rfl) (by kernel_rfl) (by kernel_rfl)) ?_
  intro W base args ds gs before hval hW _ hk _
  exact contract H enc W base args ds gs before hval hW hk

theorem over : Rows.scalarReducesRow.holds Try.pinned (OpenSpec.ofChange Rows.scalarReducesSpec) :=
  OpenClaim.holds_of_wide 6 Try.f6 rfl rfl rfl rfl rfl rfl rfl ⟨rfl, rfl, rfl, rfl, rfl⟩ rfl rfl rfl rfl rfl (by kernel_rfl) Try.func6 (by kernel_rfl)
    (of_decide_eq_true (by kernel_rfl)) (by unfold Func.isWrapper; first | (rw [if_pos (by decide +kernel)]; kernel_rfl) | (rw [if_neg (by decide +kernel)]; exact ⟨rfl, rfl⟩))
    (fun os started H enc _ => lifted os started H enc)

theorem proved : Rows.ScalarReducesSaid :=
  over
end Go.Proofs.Ytcpoldghkiiggaa.scalarReduces
