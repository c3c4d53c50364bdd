/- The law ScalarFermat, over whatever arguments: true; what was there is as it was. -/
import Derived.Test.YtcpoldghkiiggaaZfer6
import Derived.SizedLaws
import Derived.KernelRfl
namespace Go.Proofs.Ytcpoldghkiiggaa.scalarFermat
open Go Go.Proofs Go.ChangeShapes Go.WideShapes Go.ChangeAt Go.RowKit Go.Proofs.Ytcpoldghkiiggaa.X Go.Proofs.Ytcpoldghkiiggaa.R
set_option linter.unusedVariables false
set_option maxRecDepth 100000

theorem wts_slice {H : Type} {P : Program} {t e : TypeId} {elems spare : List (DataW H)} (ht : P.underlying t = some (.slice e)) : (elems.length + spare.length) * P.bytesOf e ∈ (DataW.slice elems spare).weights P t := by
  simp only [DataW.weights, ht]
  exact List.mem_cons_self ..
theorem wts_each {H : Type} {P : Program} : ∀ {ts : List TypeId} {ds : List (DataW H)}, (DataW.weightsEach P ts ds).all (· ≤ reachBytes) = true → ∀ (i t : Nat) (d : DataW H), ts[i]? = some t → ds[i]? = some d → ∀ x ∈ d.weights P t, x ≤ reachBytes
  | [], _, _, _, _, _, h, _, _, _ => by simp at h
  | _ :: _, [], _, _, _, _, _, h, _, _ => by simp at h
  | t0 :: ts, d0 :: ds, hk, i, t, d, ht, hd, x, hx => by
    simp only [DataW.weightsEach, List.all_append, Bool.and_eq_true] at hk
    cases i with
    | zero =>
      simp only [List.getElem?_cons_zero, Option.some.injEq] at ht hd
      subst ht hd
      have := List.all_eq_true.1 hk.1 x hx
      simpa using this
    | succ i => exact wts_each hk.2 i t d (by simpa using ht) (by simpa using hd) x hx

theorem own : ownKnob Try.prog.godebug = none := by kernel_rfl

set_option maxHeartbeats 1000000 in
theorem contract (H : Type) (enc : TypeId × Value → H) (W : World) (base : Nat) (args : Array Value) (ds gs : List (DataW H)) (before : List MemPlace)
    (hval : ∀ (j : Nat) t v, Try.f10.params[j]? = some t → args[j]? = some v → Value.okWide Try.prog W .any base t v)
    (hW : DataW.Whole enc Try.prog Try.f10.params.toList Rows.scalarFermatSpec.vars false W args.toList ds gs before) (hk : (DataW.weightsEach Try.prog (Try.f10.params.toList ++ Rows.scalarFermatSpec.plain.varTypes Try.prog) (ds ++ gs)).all (· ≤ reachBytes) = true) :
    Calls Try.prog 10 args W fun e W' => ∃ v, e = .returned v ∧ Rows.scalarFermatSpec.post enc Try.prog Try.f10 false true false false W args v W' := by
  have hW' := hW
  obtain ⟨p, q, hA0, hV, rfl, hfz, hnd⟩ := hW
  have hA : DataW.TrodAll enc Try.prog W 0 (fun _ => true) true Try.f10.params.toList args.toList ds p := hA0
  clear hA0
  rw [Try.params10] at hA hval
  obtain ⟨v0, vs0, d0, ds0, p0, q0, hargs, rfl, rfl, h0, r0⟩ := trodAll_cons hA
  obtain ⟨v1, vs1, d1, ds1, p1, q1, rfl, rfl, rfl, h1, r1⟩ := trodAll_cons r0
  obtain ⟨v2, vs2, d2, ds2, p2, q2, rfl, rfl, rfl, h2, r2⟩ := trodAll_cons r1
  obtain ⟨v3, vs3, d3, ds3, p3, q3, rfl, rfl, rfl, h3, r3⟩ := trodAll_cons r2
  obtain ⟨rfl, rfl, rfl⟩ := trodAll_nil r3
  obtain rfl : args = #[v0, v1, v2, v3] := by cases args; simp_all
  obtain ⟨rfl, rfl⟩ := trodVars_none hV
  obtain ⟨a, hl_a, hw_a, o0⟩ := arr_arg Try.underlying24 Try.underlying5 (by kernel_rfl) (by kernel_rfl) (hval 0 24 v0 rfl rfl) h0
  obtain ⟨b, hl_b, hw_b, o1⟩ := arr_arg Try.underlying24 Try.underlying5 (by kernel_rfl) (by kernel_rfl) (hval 1 24 v1 rfl rfl) h1
  obtain ⟨n, cap2, e, hl_e, hc_e, hw_e, o2, e2⟩ := ints_arg Try.underlying22 Try.underlying5 (by kernel_rfl) (hval 2 22 v2 rfl rfl) h2
  have hn_n : n ≤ 140737488351232 := by
    have hb2 := wts_each hk 2 22 d2 (by kernel_rfl) rfl
    rcases e2 with ⟨_, h0⟩ | ⟨s, rfl⟩
    · omega
    · have hb3 := hb2 _ (wts_slice Try.underlying22)
      rw [show Try.prog.bytesOf 5 = 1 by kernel_rfl] at hb3
      have hb4 : (lits (H := H) .u8 e).length = n := by simp [lits, hl_e]
      unfold reachBytes at hb3
      omega
  obtain ⟨m, cap3, f, hl_f, hc_f, hw_f, o3, e3⟩ := ints_arg Try.underlying22 Try.underlying5 (by kernel_rfl) (hval 3 22 v3 rfl rfl) h3
  have hn_m : m ≤ 140737488351232 := by
    have hb2 := wts_each hk 3 22 d3 (by kernel_rfl) rfl
    rcases e3 with ⟨_, h0⟩ | ⟨s, rfl⟩
    · omega
    · have hb3 := hb2 _ (wts_slice Try.underlying22)
      rw [show Try.prog.bytesOf 5 = 1 by kernel_rfl] at hb3
      have hb4 : (lits (H := H) .u8 f).length = m := by simp [lits, hl_f]
      unfold reachBytes at hb3
      omega
  have ho : Opened W 0 _ _ _ := ((o0 _).app ((o1 _).app ((o2 _).app ((o3 _).app Opened.nil))))
  refine (calls_true tabOkQY0 Try.func10 ho fun β => ?_).mono fun e W' ⟨he, hg⟩ => ⟨_, he, post_true (by kernel_rfl) rfl rfl rfl Try.underlying4 hW' hg⟩
  clear hval hA hV hW' hk
  have ba : Byt a := fun x hx => by have := bounds_u8 (hw_a x hx); omega
  have bb : Byt b := fun x hx => by have := bounds_u8 (hw_b x hx); omega
  have be : Byt e := fun x hx => by have := bounds_u8 (hw_e x hx); omega
  have bf : Byt f := fun x hx => by have := bounds_u8 (hw_f x hx); omega
  rcases euler (x := BV a) with hq | hq | hq
  · have hc := hP_zero.1 hq
    by_cases hx : 40 < n
    · by_cases hy : 40 < m
      · exact (Body.lens (c := (Try.f10.body.getD .skip)) rfl fun h => fm011_body0 a b n n e m m f _ _ rfl rfl ba bb hn_n hn_m be bf (h.caps 2 _ _ _ _ rfl) (h.caps 3 _ _ _ _ rfl) (h.lens 0 _ .u8 n e rfl (by simp)) (h.lens 1 _ .u8 m f rfl (by simp)) hl_a hl_b hc hx hy W β)
      · exact (Body.lens (c := (Try.f10.body.getD .skip)) rfl fun h => fm010_body0 a b n n e m m f _ _ rfl rfl ba bb hn_n hn_m be bf (h.caps 2 _ _ _ _ rfl) (h.caps 3 _ _ _ _ rfl) (h.lens 0 _ .u8 n e rfl (by simp)) (h.lens 1 _ .u8 m f rfl (by simp)) hl_a hl_b hc hx (Nat.not_lt.1 hy) W β)
    · by_cases hy : 40 < m
      · exact (Body.lens (c := (Try.f10.body.getD .skip)) rfl fun h => fm001_body0 a b n n e m m f _ _ rfl rfl ba bb hn_n hn_m be bf (h.caps 2 _ _ _ _ rfl) (h.caps 3 _ _ _ _ rfl) (h.lens 0 _ .u8 n e rfl (by simp)) (h.lens 1 _ .u8 m f rfl (by simp)) hl_a hl_b hc (Nat.not_lt.1 hx) hy W β)
      · exact (Body.lens (c := (Try.f10.body.getD .skip)) rfl fun h => fm000_body0 a b n n e m m f _ _ rfl rfl ba bb hn_n hn_m be bf (h.caps 2 _ _ _ _ rfl) (h.caps 3 _ _ _ _ rfl) (h.lens 0 _ .u8 n e rfl (by simp)) (h.lens 1 _ .u8 m f rfl (by simp)) hl_a hl_b hc (Nat.not_lt.1 hx) (Nat.not_lt.1 hy) W β)
  · by_cases hx : 40 < n
    · by_cases hy : 40 < m
      · exact (Body.lens (c := (Try.f10.body.getD .skip)) rfl fun h => fm111_body0 a b n n e m m f _ _ rfl rfl ba bb hn_n hn_m be bf (h.caps 2 _ _ _ _ rfl) (h.caps 3 _ _ _ _ rfl) (h.lens 0 _ .u8 n e rfl (by simp)) (h.lens 1 _ .u8 m f rfl (by simp)) hl_a hl_b hq hx hy W β)
      · exact (Body.lens (c := (Try.f10.body.getD .skip)) rfl fun h => fm110_body0 a b n n e m m f _ _ rfl rfl ba bb hn_n hn_m be bf (h.caps 2 _ _ _ _ rfl) (h.caps 3 _ _ _ _ rfl) (h.lens 0 _ .u8 n e rfl (by simp)) (h.lens 1 _ .u8 m f rfl (by simp)) hl_a hl_b hq hx (Nat.not_lt.1 hy) W β)
    · by_cases hy : 40 < m
      · exact (Body.lens (c := (Try.f10.body.getD .skip)) rfl fun h => fm101_body0 a b n n e m m f _ _ rfl rfl ba bb hn_n hn_m be bf (h.caps 2 _ _ _ _ rfl) (h.caps 3 _ _ _ _ rfl) (h.lens 0 _ .u8 n e rfl (by simp)) (h.lens 1 _ .u8 m f rfl (by simp)) hl_a hl_b hq (Nat.not_lt.1 hx) hy W β)
      · exact (Body.lens (c := (Try.f10.body.getD .skip)) rfl fun h => fm100_body0 a b n n e m m f _ _ rfl rfl ba bb hn_n hn_m be bf (h.caps 2 _ _ _ _ rfl) (h.caps 3 _ _ _ _ rfl) (h.lens 0 _ .u8 n e rfl (by simp)) (h.lens 1 _ .u8 m f rfl (by simp)) hl_a hl_b hq (Nat.not_lt.1 hx) (Nat.not_lt.1 hy) W β)
  · by_cases hx : 40 < n
    · by_cases hy : 40 < m
      · exact (Body.lens (c := (Try.f10.body.getD .skip)) rfl fun h => fm211_body0 a b n n e m m f _ _ rfl rfl ba bb hn_n hn_m be bf (h.caps 2 _ _ _ _ rfl) (h.caps 3 _ _ _ _ rfl) (h.lens 0 _ .u8 n e rfl (by simp)) (h.lens 1 _ .u8 m f rfl (by simp)) hl_a hl_b hq hx hy W β)
      · exact (Body.lens (c := (Try.f10.body.getD .skip)) rfl fun h => fm210_body0 a b n n e m m f _ _ rfl rfl ba bb hn_n hn_m be bf (h.caps 2 _ _ _ _ rfl) (h.caps 3 _ _ _ _ rfl) (h.lens 0 _ .u8 n e rfl (by simp)) (h.lens 1 _ .u8 m f rfl (by simp)) hl_a hl_b hq hx (Nat.not_lt.1 hy) W β)
    · by_cases hy : 40 < m
      · exact (Body.lens (c := (Try.f10.body.getD .skip)) rfl fun h => fm201_body0 a b n n e m m f _ _ rfl rfl ba bb hn_n hn_m be bf (h.caps 2 _ _ _ _ rfl) (h.caps 3 _ _ _ _ rfl) (h.lens 0 _ .u8 n e rfl (by simp)) (h.lens 1 _ .u8 m f rfl (by simp)) hl_a hl_b hq (Nat.not_lt.1 hx) hy W β)
      · exact (Body.lens (c := (Try.f10.body.getD .skip)) rfl fun h => fm200_body0 a b n n e m m f _ _ rfl rfl ba bb hn_n hn_m be bf (h.caps 2 _ _ _ _ rfl) (h.caps 3 _ _ _ _ rfl) (h.lens 0 _ .u8 n e rfl (by simp)) (h.lens 1 _ .u8 m f rfl (by simp)) hl_a hl_b hq (Nat.not_lt.1 hx) (Nat.not_lt.1 hy) W β)

theorem lifted (os : Os) (started : os.Started) (H : Type) (enc : TypeId × Value → H) :
    ReturnsInHanded {} Try.checked os 10 .any (Rows.scalarFermatSpec.pre6 enc Try.prog Try.f10 Rows.scalarFermatRow.domain false) (Rows.scalarFermatSpec.post enc Try.prog Try.f10 false true false false) := by
  refine returnsInHanded_of_change_sized (C := Try.checked) (s := Rows.scalarFermatSpec) own started (by kernel_rfl) Try.func10
    (ChangeSpec.witness6 (enc := enc) (C := Try.checked) (s := Rows.scalarFermatSpec) false ⟨#[], #[.agg #[.int .u8 0, .int .u8 0, .int .u8 0, .int .u8 0, .int .u8 0, .int .u8 0, .int .u8 0, .int .u8 0, .int .u8 0, .int .u8 0, .int .u8 0, .int .u8 0, .int .u8 0, .int .u8 0, .int .u8 0, .int .u8 0, .int .u8 0, .int .u8 0, .int .u8 0, .int .u8 0, .int .u8 0, .int .u8 0, .int .u8 0, .int .u8 0, .int .u8 0, .int .u8 0, .int .u8 0, .int .u8 0, .int .u8 0, .int .u8 0, .int .u8 0, .int .u8 0], .agg #[.int .u8 0, .int .u8 0, .int .u8 0, .int .u8 0, .int .u8 0, .int .u8 0, .int .u8 0, .int .u8 0, .int .u8 0, .int .u8 0, .int .u8 0, .int .u8 0, .int .u8 0, .int .u8 0, .int .u8 0, .int .u8 0, .int .u8 0, .int .u8 0, .int .u8 0, .int .u8 0, .int .u8 0, .int .u8 0, .int .u8 0, .int .u8 0, .int .u8 0, .int .u8 0, .int .u8 0, .int .u8 0, .int .u8 0, .int .u8 0, .int .u8 0, .int .u8 0], .slice none 0 0, .slice none 0 0], []⟩ 8 (by kernel_rfl) (by kernel_rfl) (by kernel_rfl) (by kernel_rfl)) ?_
  intro W base args ds gs before hval hW _ hk _
  exact contract H enc W base args ds gs before hval hW hk

theorem over : Rows.scalarFermatRow.holds Try.pinned (OpenSpec.ofChange Rows.scalarFermatSpec) :=
  OpenClaim.holds_of_wide 10 Try.f10 rfl rfl rfl rfl rfl rfl rfl ⟨rfl, rfl, rfl, rfl, rfl⟩ rfl rfl rfl rfl rfl (by kernel_rfl) Try.func10 (by kernel_rfl)
    (of_decide_eq_true (by kernel_rfl)) (by unfold Func.isWrapper; first | (rw [if_pos (by decide +kernel)]; kernel_rfl) | (rw [if_neg (by decide +kernel)]; exact ⟨rfl, rfl⟩))
    (fun os started H enc _ => lifted os started H enc)

theorem proved : Rows.ScalarFermatSaid :=
  over
end Go.Proofs.Ytcpoldghkiiggaa.scalarFermat
