/- The law Sha512Hashes, over whatever arguments: true; what was there is as it was. -/
import Derived.Test.YtepimglipelpmaaTQ
import Derived.Test.YtepimglipelpmaaXZ
import Derived.Test.YtepimglipelpmaaBulk
import Derived.KernelRfl
namespace Go.Proofs.Ytepimglipelpmaa.sha512Hashes
open Go Go.Proofs Go.ChangeShapes Go.WideShapes Go.ChangeAt Go.RowKit Go.Proofs.Ytepimglipelpmaa.X Go.Proofs.Ytepimglipelpmaa.R
set_option linter.unusedVariables false
set_option maxRecDepth 100000

section
variable {H : Type} {enc : TypeId × Value → H} {P : Program} {W : World}
theorem two_cells {e : TypeId} {f0 f1 : Field} {n : Nat} {cs : List Value} {y : DataW H × List MemPlace} (he : P.underlying e = some (.struct #[f0, f1])) (o0 : f0.offset = 0) (o1 : f1.offset = 1) (ce : P.cellsOf e = 2) (c0 : P.cellsOf f0.type = 1) (c1 : P.cellsOf f1.type = 1)
    (h : DataW.trod enc P W 0 (fun _ => true) true n e cs = some y) : ∃ v0 v1 y0 y1 m, cs = [v0, v1] ∧ y = (.agg [y0.1, y1.1], y0.2 ++ y1.2) ∧ DataW.trod enc P W 0 (fun _ => true) true m f0.type [v0] = some y0 ∧ DataW.trod enc P W 0 (fun _ => true) true m f1.type [v1] = some y1 := by
  obtain ⟨y0, y1, m, hy, hl, h0, h1⟩ := trod_struct2 he h
  rw [ce] at hl
  rw [o0, c0] at h0
  rw [o1, c1] at h1
  match cs, hl with
  | [v0, v1], _ => exact ⟨v0, v1, y0, y1, m, rfl, hy, h0, h1⟩
theorem one_step {e b : TypeId} {k : IntKind} {f0 f1 : Field} {n : Nat} {cs : List Value} {y : DataW H × List MemPlace} (he : P.underlying e = some (.struct #[f0, f1])) (o0 : f0.offset = 0) (o1 : f1.offset = 1) (ce : P.cellsOf e = 2) (c0 : P.cellsOf f0.type = 1) (c1 : P.cellsOf f1.type = 1)
    (t0 : P.underlying f0.type = some (.int k)) (t1 : P.underlying f1.type = some (.slice b)) (h : DataW.trod enc P W 0 (fun _ => true) true n e cs = some y) : ∀ v ∈ cs, v.oneCell' = true := by
  obtain ⟨v0, v1, y0, y1, m, rfl, _, h0, h1⟩ := two_cells he o0 o1 ce c0 c1 h
  obtain ⟨z, hz, _⟩ := DataW.trod_int t0 h0
  simp only [List.cons.injEq, and_true] at hz
  intro v hv
  rcases List.mem_cons.1 hv with rfl | hv
  · rw [hz]; rfl
  · rw [List.mem_singleton] at hv
    subst hv
    rcases DataW.trod_slice t1 h1 with ⟨h2, _⟩ | ⟨_, _, _, _, _, _, _, h2, _⟩ <;> (simp only [List.cons.injEq, and_true] at h2; rw [h2]; rfl)
theorem take_two {L : List Value} {i len : Nat} {v0 v1 : Value} (hL : L.length = len * 2) (hi : i < len) (h : (L.drop (i * 2)).take 2 = [v0, v1]) : L.getD (i * 2) undef = v0 ∧ L.getD (i * 2 + 1) undef = v1 := by
  have h0 := congrArg (·[0]?) h
  have h1 := congrArg (·[1]?) h
  simp only [List.getElem?_cons_zero, List.getElem?_cons_succ] at h0 h1
  rw [List.getElem?_take_of_lt (by omega), List.getElem?_drop] at h0 h1
  exact ⟨by rw [List.getD_eq_getElem?_getD]; rw [Nat.add_zero] at h0; rw [h0]; rfl, by rw [List.getD_eq_getElem?_getD, h1]; rfl⟩
theorem steps_ok {e b : TypeId} {f0 f1 : Field} {len n : Nat} {L : List Value} {xs : List (DataW H × List MemPlace)} (he : P.underlying e = some (.struct #[f0, f1])) (o0 : f0.offset = 0) (o1 : f1.offset = 1) (ce : P.cellsOf e = 2) (c0 : P.cellsOf f0.type = 1) (c1 : P.cellsOf f1.type = 1)
    (t0 : P.underlying f0.type = some (.int .i64)) (t1 : P.underlying f1.type = some (.slice b)) (hb : P.underlying b = some (.int .u8)) (hc : P.cellsOf b = 1)
    (hx : ∀ i, i < len → ∃ y, DataW.trod enc P W 0 (fun _ => true) true n e ((L.drop (i * 2)).take 2) = some y ∧ xs[i]? = some y) (hxl : xs.length = len) (hbd : Rows.uptoBulkAll (xs.map (·.1)) ≤ 1048576) (hL : L.length = len * 2) : StepsOk W L len := by
  have key : ∀ i, i < len → ∃ y, xs[i]? = some y ∧ L.getD (i * 2) undef = .int .i64 (intV (L.getD (i * 2) undef)) ∧ (∀ (m : Nat) (β : Env), ImpOk ⟨W, [], m, β⟩ (L.getD (i * 2 + 1) undef) .u8 (lenV (L.getD (i * 2 + 1) undef)) (capV (L.getD (i * 2 + 1) undef)) (contV W (L.getD (i * 2 + 1) undef))) ∧ lenV (L.getD (i * 2 + 1) undef) ≤ Rows.uptoBulk y.1 := by
    intro i hi
    obtain ⟨y, hy, hy2⟩ := hx i hi
    obtain ⟨v0, v1, y0, y1, m, hcs, rfl, h0, h1⟩ := two_cells he o0 o1 ce c0 c1 hy
    obtain ⟨e0, e1⟩ := take_two hL hi hcs
    rw [e0, e1]
    obtain ⟨z, hz, _⟩ := DataW.trod_int t0 h0
    simp only [List.cons.injEq, and_true] at hz
    obtain ⟨g1, g2⟩ := imp_of t1 hb hc h1
    refine ⟨_, hy2, by rw [hz]; rfl, g1, ?_⟩
    simp only [Rows.uptoBulk, Rows.uptoBulkAll]
    rcases g2 with ⟨_, h0⟩ | ⟨L', s, h3, h4⟩
    · omega
    · have h5 := bulks.slice_le (lits (H := H) .u8 L') s
      have h6 : (lits (H := H) .u8 L').length = L'.length := by simp [lits]
      rw [h3]; omega
  refine ⟨fun i hi => (key i hi).choose_spec.2.1, fun i hi => (key i hi).choose_spec.2.2.1, fun k hk => ?_⟩
  have sum : ∀ k, k ≤ len → (stepD W L k).length ≤ Rows.uptoBulkAll ((xs.take k).map (·.1)) := by
    intro k
    induction k with
    | zero => intro _; exact Nat.zero_le _
    | succ k ih =>
      intro hk
      obtain ⟨y, hy, _, himp, hle⟩ := key k (by omega)
      have ih := ih (by omega)
      obtain ⟨_, _, _, hlen, _⟩ := himp 0 noEnv
      rw [List.take_add_one, hy, List.map_append, bulks.append]
      simp only [Option.toList, List.map_cons, List.map_nil, Rows.uptoBulkAll]
      show (if _ then _ else _ : List Int).length ≤ _
      split
      · rw [List.length_append, hlen]; omega
      · split
        · simp
        · omega
  have h1 := sum k hk
  have h2 : Rows.uptoBulkAll ((xs.take k).map (·.1)) ≤ Rows.uptoBulkAll (xs.map (·.1)) := by
    conv => rhs; rw [← List.take_append_drop k xs, List.map_append, bulks.append]
    omega
  omega
end

theorem own : ownKnob Try.prog.godebug = none := by kernel_rfl

set_option maxHeartbeats 1000000 in
theorem contract (H : Type) (enc : TypeId × Value → H) (W : World) (base : Nat) (args : Array Value) (ds gs : List (DataW H)) (before : List MemPlace)
    (hval : ∀ (j : Nat) t v, Try.f8.params[j]? = some t → args[j]? = some v → Value.okWide Try.prog W .any base t v)
    (hW : DataW.Whole enc Try.prog Try.f8.params.toList Rows.sha512HashesSpec.vars false W args.toList ds gs before) (hk : Rows.uptoSmall H (ds ++ gs) = true) :
    Calls Try.prog 8 args W fun e W' => ∃ v, e = .returned v ∧ Rows.sha512HashesSpec.post enc Try.prog Try.f8 false true false false W args v W' := by
  have hW' := hW
  obtain ⟨p, q, hA0, hV, rfl, hfz, hnd⟩ := hW
  have hA : DataW.TrodAll enc Try.prog W 0 (fun _ => true) true Try.f8.params.toList args.toList ds p := hA0
  clear hA0
  rw [Try.params8] at hA hval
  obtain ⟨v0, vs0, d0, ds0, p0, q0, hargs, rfl, rfl, h0, r0⟩ := trodAll_cons hA
  obtain ⟨rfl, rfl, rfl⟩ := trodAll_nil r0
  obtain rfl : args = #[v0] := by cases args; simp_all
  obtain ⟨rfl, rfl⟩ := trodVars_none hV
  have hbd := bulks.bound hk
  obtain ⟨n, cap0, L, hl_L, hc_L, o0, e0⟩ := vals_arg (c := 2) Try.underlying87 (by kernel_rfl) (by decide) (fun _ _ _ h => one_step Try.underlying90 rfl rfl (by kernel_rfl) (by kernel_rfl) (by kernel_rfl) Try.underlying3 Try.underlying22 h) (hval 0 87 v0 rfl rfl) h0
  have hp_L : StepsOk W L n ∧ n ≤ 1048576 := by
    have hb2 := bulks.part_le (d := d0) (l := [d0] ++ []) (by simp)
    rcases e0 with ⟨_, h0⟩ | ⟨m0, xs, s0, rfl, hxl, hx⟩
    · subst h0; exact ⟨⟨fun i hi => absurd hi (Nat.not_lt_zero i), fun i hi => absurd hi (Nat.not_lt_zero i), fun k hk => by have : k = 0 := Nat.le_zero.1 hk; subst this; show 0 < _; decide⟩, by omega⟩
    · have hb3 := bulks.slice_elems (H := H) (xs.map (·.1)) s0
      have hb4 := bulks.length_le (xs.map (·.1))
      simp only [List.length_map] at hb4
      exact ⟨steps_ok Try.underlying90 rfl rfl (by kernel_rfl) (by kernel_rfl) (by kernel_rfl) Try.underlying3 Try.underlying22 Try.underlying5 (by kernel_rfl) hx hxl (by omega) hl_L, by omega⟩
  have ho : Opened W 0 _ _ _ := ((o0 _).app Opened.nil)
  refine (calls_true tabOkTQ Try.func8 ho fun β => ?_).mono fun e W' ⟨he, hg⟩ => ⟨_, he, post_true (by kernel_rfl) rfl rfl rfl Try.underlying4 hW' hg⟩
  clear hval hA hV hW' hk
  exact hashes_body W L n cap0 (by omega) β hp_L.1

theorem lifted (os : Os) (started : os.Started) (H : Type) (enc : TypeId × Value → H) (F : Stop.Interp) :
    ReturnsInHanded {} Try.checked os 8 .any ((Rows.OpenSpec.upto Rows.sha512HashesSpec).pre6 enc Try.prog Try.f8 Rows.sha512HashesUptoRow.domain false) (((Rows.OpenSpec.upto Rows.sha512HashesSpec).at F).post enc Try.prog Try.f8 false true false false) := by
  refine returnsInHanded_of_cond (C := Try.checked) (s := Rows.OpenSpec.upto Rows.sha512HashesSpec) (k := Rows.uptoSmall) rfl own started (by kernel_rfl) Try.func8
    (OpenSpec.witness (enc := enc) (C := Try.checked) (s := Rows.OpenSpec.upto Rows.sha512HashesSpec) (k := Rows.uptoSmall) rfl false ⟨#[], #[.slice none 0 0], []⟩ 8 (by kernel_rfl) (by kernel_rfl) (by kernel_rfl)
      (x := ([.nil], [], [])) (by kernel_rfl) rfl (by kernel_rfl)) ?_
  intro W base args ds gs before hval hW _ hk _
  exact contract H enc W base args ds gs before hval hW hk

theorem over : Rows.sha512HashesUptoRow.holds Try.pinned (Rows.OpenSpec.upto Rows.sha512HashesSpec) :=
  OpenClaim.holds_of_cond 8 Try.f8 rfl rfl rfl rfl rfl rfl rfl ⟨rfl, rfl, rfl, rfl, rfl⟩ rfl rfl rfl rfl rfl (by kernel_rfl) Try.func8 (by kernel_rfl)
    (of_decide_eq_true (by kernel_rfl)) (by unfold Func.isWrapper; first | (rw [if_pos (by decide +kernel)]; kernel_rfl) | (rw [if_neg (by decide +kernel)]; exact ⟨rfl, rfl⟩))
    (fun os started H enc _ F => lifted os started H enc F)

theorem proved : Rows.Sha512HashesUptoSaid :=
  over
end Go.Proofs.Ytepimglipelpmaa.sha512Hashes
