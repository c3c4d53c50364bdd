/- The law Sha512Sums, over whatever arguments: true; what was there is as it was. -/
import Derived.Test.YtepimglipelpmaaGS5
import Derived.KernelRfl
namespace Go.Proofs.Ytepimglipelpmaa.sha512Sums
open Go Go.Proofs Go.ChangeShapes Go.WideShapes Go.ChangeAt Go.RowKit Go.Proofs.Ytepimglipelpmaa.X Go.Proofs.Ytepimglipelpmaa.R
set_option linter.unusedVariables false
set_option maxRecDepth 100000

section
variable {H : Type} {enc : TypeId × Value → H} {P : Program} {W : World}
theorem one_slice {e e' : TypeId} {n : Nat} {cs : List Value} {y : DataW H × List MemPlace} (he : P.underlying e = some (.slice e')) (h : DataW.trod enc P W 0 (fun _ => true) true n e cs = some y) : ∀ v ∈ cs, v.oneCell' = true := by
  intro v hv
  rcases DataW.trod_slice he h with ⟨rfl, _⟩ | ⟨_, _, _, _, _, _, _, rfl, _⟩ <;> (rw [List.mem_singleton] at hv; subst hv; rfl)
theorem one_bool {e : TypeId} {n : Nat} {cs : List Value} {y : DataW H × List MemPlace} (he : P.underlying e = some .bool) (h : DataW.trod enc P W 0 (fun _ => true) true n e cs = some y) : ∀ v ∈ cs, v.oneCell' = true := by
  intro v hv
  obtain ⟨b, rfl, _⟩ := DataW.trod_bool he h
  rw [List.mem_singleton] at hv; subst hv; rfl
theorem take_one {L : List Value} {i : Nat} (h : i < L.length) : (L.drop (i * 1)).take 1 = [L.getD i undef] := by
  refine List.ext_getElem? fun j => ?_
  cases j with
  | zero => rw [List.getElem?_take_of_lt (by omega), List.getElem?_drop, Nat.mul_one, Nat.add_zero, List.getD_eq_getElem?_getD, List.getElem?_eq_getElem h]; rfl
  | succ j => rw [List.getElem?_eq_none (by simp; omega), List.getElem?_eq_none (by simp)]
theorem parts_ok2 {e b : TypeId} {len n : Nat} {L : List Value} {xs : List (DataW H × List MemPlace)} (he : P.underlying e = some (.slice b)) (hb : P.underlying b = some (.int .u8)) (hc : P.cellsOf b = 1)
    (hx : ∀ i, i < len → ∃ y, DataW.trod enc P W 0 (fun _ => true) true n e ((L.drop (i * 1)).take 1) = some y ∧ xs[i]? = some y) (hxl : xs.length = len) (hbd : Rows.uptoBulkAll (xs.map (·.1)) ≤ 1048576) (hL : L.length = len * 1) : PartsOk W L len ∧ (catV W L len).length ≤ 1048576 := by
  have key : ∀ i, i < len → ∃ y, xs[i]? = some y ∧ (∀ (m : Nat) (β : Env), ImpOk ⟨W, [], m, β⟩ (L.getD i undef) .u8 (lenV (L.getD i undef)) (capV (L.getD i undef)) (contV W (L.getD i undef))) ∧ lenV (L.getD i undef) ≤ Rows.uptoBulk y.1 := by
    intro i hi
    obtain ⟨y, hy, hy2⟩ := hx i hi
    rw [take_one (by omega)] at hy
    obtain ⟨h1, h2⟩ := imp_of he hb hc hy
    refine ⟨y, hy2, h1, ?_⟩
    rcases h2 with ⟨_, h0⟩ | ⟨L', s, h3, h4⟩
    · omega
    · have h5 := bulks.slice_le (lits (H := H) .u8 L') s
      have h6 : (lits (H := H) .u8 L').length = L'.length := by simp [lits]
      rw [h3]; omega
  suffices hsm : (catV W L len).length ≤ 1048576 from ⟨⟨fun i hi => (key i hi).choose_spec.2.1, by omega⟩, hsm⟩
  have sum : ∀ k, k ≤ len → (catV W L k).length ≤ Rows.uptoBulkAll ((xs.take k).map (·.1)) := by
    intro k
    induction k with
    | zero => intro _; exact Nat.zero_le _
    | succ k ih =>
      intro hk
      obtain ⟨y, hy, himp, hle⟩ := key k (by omega)
      have ih := ih (by omega)
      obtain ⟨_, _, _, hlen, _⟩ := himp 0 noEnv
      rw [List.take_add_one, hy, List.map_append, bulks.append]
      show (catV W L k ++ _).length ≤ _
      rw [List.length_append, hlen]
      simp only [Option.toList, List.map_cons, List.map_nil, Rows.uptoBulkAll]
      omega
  have := sum len (Nat.le_refl _)
  rw [List.take_of_length_le (by omega)] at this
  omega
end

theorem own : ownKnob Try.prog.godebug = none := by kernel_rfl

set_option maxHeartbeats 1000000 in
theorem contract (H : Type) (enc : TypeId × Value → H) (W : World) (base : Nat) (args : Array Value) (ds gs : List (DataW H)) (before : List MemPlace)
    (hval : ∀ (j : Nat) t v, Try.f3.params[j]? = some t → args[j]? = some v → Value.okWide Try.prog W .any base t v)
    (hW : DataW.Whole enc Try.prog Try.f3.params.toList Rows.sha512SumsSpec.vars false W args.toList ds gs before) (hk : Rows.uptoSmall H (ds ++ gs) = true) :
    Calls Try.prog 3 args W fun e W' => ∃ v, e = .returned v ∧ Rows.sha512SumsSpec.post enc Try.prog Try.f3 false true false false W args v W' := by
  have hW' := hW
  obtain ⟨p, q, hA0, hV, rfl, hfz, hnd⟩ := hW
  have hA : DataW.TrodAll enc Try.prog W 0 (fun _ => true) true Try.f3.params.toList args.toList ds p := hA0
  clear hA0
  rw [Try.params3] at hA hval
  obtain ⟨v0, vs0, d0, ds0, p0, q0, hargs, rfl, rfl, h0, r0⟩ := trodAll_cons hA
  obtain ⟨v1, vs1, d1, ds1, p1, q1, rfl, rfl, rfl, h1, r1⟩ := trodAll_cons r0
  obtain ⟨rfl, rfl, rfl⟩ := trodAll_nil r1
  obtain rfl : args = #[v0, v1] := by cases args; simp_all
  obtain ⟨rfl, rfl⟩ := trodVars_none hV
  have hbd := bulks.bound hk
  obtain ⟨kn, cap0, key, hl_key, hc_key, hw_key, o0, e0⟩ := ints_arg Try.underlying22 Try.underlying5 (by kernel_rfl) (hval 0 22 v0 rfl rfl) h0
  have hn_kn : kn ≤ 1048576 := by
    have hb2 := bulks.part_le (d := d0) (l := [d0, d1] ++ []) (by simp)
    rcases e0 with ⟨_, rfl⟩ | ⟨s, rfl⟩
    · omega
    · have hb3 := bulks.slice_le (H := H) (lits .u8 key) s
      have hb4 : (lits (H := H) .u8 key).length = kn := by simp [lits, hl_key]
      omega
  obtain ⟨l, cap1, L, hl_L, hc_L, o1, e1⟩ := vals_arg (c := 1) Try.underlying23 (by kernel_rfl) (by decide) (fun _ _ _ h => one_slice Try.underlying22 h) (hval 1 23 v1 rfl rfl) h1
  have hp_L : (PartsOk W L l ∧ (catV W L l).length ≤ 1048576) ∧ l ≤ 1048576 := by
    have hb2 := bulks.part_le (d := d1) (l := [d0, d1] ++ []) (by simp)
    rcases e1 with ⟨_, h0⟩ | ⟨m0, xs, s0, rfl, hxl, hx⟩
    · subst h0; exact ⟨⟨⟨fun i hi => absurd hi (Nat.not_lt_zero i), by show 0 < _; decide⟩, Nat.zero_le _⟩, by omega⟩
    · have hb3 := bulks.slice_elems (H := H) (xs.map (·.1)) s0
      have hb4 := bulks.length_le (xs.map (·.1))
      simp only [List.length_map] at hb4
      exact ⟨parts_ok2 Try.underlying22 Try.underlying5 (by kernel_rfl) hx hxl (by omega) hl_L, by omega⟩
  simp only [Nat.mul_one] at o1
  have ho : Opened W 0 _ _ _ := ((o0 _).app ((o1 _).app Opened.nil))
  refine (calls_true tabOkUG Try.func3 ho fun β => ?_).mono fun e W' ⟨he, hg⟩ => ⟨_, he, post_true (by kernel_rfl) rfl rfl rfl Try.underlying4 hW' hg⟩
  clear hval hA hV hW' hk
  exact sm_body W kn key l L _ _ (by omega) (by omega) hp_L.1.1 (by omega) (by omega) β

theorem lifted (os : Os) (started : os.Started) (H : Type) (enc : TypeId × Value → H) (F : Stop.Interp) :
    ReturnsInHanded {} Try.checked os 3 .any ((Rows.OpenSpec.upto Rows.sha512SumsSpec).pre6 enc Try.prog Try.f3 Rows.sha512SumsUptoRow.domain false) (((Rows.OpenSpec.upto Rows.sha512SumsSpec).at F).post enc Try.prog Try.f3 false true false false) := by
  refine returnsInHanded_of_cond (C := Try.checked) (s := Rows.OpenSpec.upto Rows.sha512SumsSpec) (k := Rows.uptoSmall) rfl own started (by kernel_rfl) Try.func3
    (OpenSpec.witness (enc := enc) (C := Try.checked) (s := Rows.OpenSpec.upto Rows.sha512SumsSpec) (k := Rows.uptoSmall) rfl false ⟨#[], #[.slice none 0 0, .slice none 0 0], []⟩ 8 (by kernel_rfl) (by kernel_rfl) (by kernel_rfl)
      (x := ([.nil, .nil], [], [])) (by kernel_rfl) rfl (by kernel_rfl)) ?_
  intro W base args ds gs before hval hW _ hk _
  exact contract H enc W base args ds gs before hval hW hk

theorem over : Rows.sha512SumsUptoRow.holds Try.pinned (Rows.OpenSpec.upto Rows.sha512SumsSpec) :=
  OpenClaim.holds_of_cond 3 Try.f3 rfl rfl rfl rfl rfl rfl rfl ⟨rfl, rfl, rfl, rfl, rfl⟩ rfl rfl rfl rfl rfl (by kernel_rfl) Try.func3 (by kernel_rfl)
    (of_decide_eq_true (by kernel_rfl)) (by unfold Func.isWrapper; first | (rw [if_pos (by decide +kernel)]; kernel_rfl) | (rw [if_neg (by decide +kernel)]; exact ⟨rfl, rfl⟩))
    (fun os started H enc _ F => lifted os started H enc F)

theorem proved : Rows.Sha512SumsUptoSaid :=
  over
end Go.Proofs.Ytepimglipelpmaa.sha512Sums
