/- The law StoreDisks, over whatever arguments: true; what was there is as it was. -/
import Derived.Test.YtjmfnjgcofpocaaGreatGD6
import Derived.KernelRfl
namespace Go.Proofs.YtjmfnjgcofpocaaGreat.storeDisks
open Go Go.Proofs Go.ChangeShapes Go.WideShapes Go.ChangeAt Go.RowKit Go.Proofs.YtjmfnjgcofpocaaGreat.X Go.Proofs.YtjmfnjgcofpocaaGreat.R
set_option linter.unusedVariables false
set_option maxRecDepth 100000

section
variable {H : Type} {enc : TypeId × Value → H} {P : Program} {W : World}
theorem three_cells {e : TypeId} {f0 f1 f2 : Field} {n : Nat} {cs : List Value} {y : DataW H × List MemPlace} (he : P.underlying e = some (.struct #[f0, f1, f2])) (o0 : f0.offset = 0) (o1 : f1.offset = 1) (o2 : f2.offset = 2)
    (ce : P.cellsOf e = 3) (c0 : P.cellsOf f0.type = 1) (c1 : P.cellsOf f1.type = 1) (c2 : P.cellsOf f2.type = 1)
    (h : DataW.trod enc P W 0 (fun _ => true) true n e cs = some y) : ∃ v0 v1 v2 y0 y1 y2 m, cs = [v0, v1, v2] ∧ y.1 = .agg [y0.1, y1.1, y2.1] ∧ DataW.trod enc P W 0 (fun _ => true) true m f0.type [v0] = some y0 ∧ DataW.trod enc P W 0 (fun _ => true) true m f1.type [v1] = some y1 ∧
      DataW.trod enc P W 0 (fun _ => true) true m f2.type [v2] = some y2 := by
  obtain ⟨xs, m, _, rfl, hl, hlen, hf⟩ := DataW.trod_struct he h
  match xs, hlen with
  | [y0, y1, y2], _ =>
    have h0 := hf 0 f0 rfl
    have h1 := hf 1 f1 rfl
    have h2 := hf 2 f2 rfl
    rw [o0, c0] at h0
    rw [o1, c1] at h1
    rw [o2, c2] at h2
    rw [ce] at hl
    match cs, hl with
    | [v0, v1, v2], _ => exact ⟨v0, v1, v2, y0, y1, y2, m, rfl, rfl, h0, h1, h2⟩
theorem one_of_slice {t b : TypeId} {m : Nat} {v : Value} {y : DataW H × List MemPlace} (t1 : P.underlying t = some (.slice b)) (h1 : DataW.trod enc P W 0 (fun _ => true) true m t [v] = some y) : v.oneCell' = true := by
  rcases DataW.trod_slice t1 h1 with ⟨h2, _⟩ | ⟨_, _, _, _, _, _, _, h2, _⟩ <;> (simp only [List.cons.injEq, and_true] at h2; rw [h2]; rfl)
theorem one_of_int {t : TypeId} {k : IntKind} {m : Nat} {v : Value} {y : DataW H × List MemPlace} (t0 : P.underlying t = some (.int k)) (h0 : DataW.trod enc P W 0 (fun _ => true) true m t [v] = some y) : v.oneCell' = true ∧ v = .int k (intV v) ∧ (Lit.int k (intV v)).wf = true := by
  obtain ⟨z, hz, _, hw⟩ := DataW.trod_int t0 h0
  simp only [List.cons.injEq, and_true] at hz
  rw [hz]; exact ⟨rfl, rfl, hw⟩
theorem one_sw {e b : TypeId} {k k' : IntKind} {f0 f1 f2 : Field} {n : Nat} {cs : List Value} {y : DataW H × List MemPlace} (he : P.underlying e = some (.struct #[f0, f1, f2])) (o0 : f0.offset = 0) (o1 : f1.offset = 1) (o2 : f2.offset = 2)
    (ce : P.cellsOf e = 3) (c0 : P.cellsOf f0.type = 1) (c1 : P.cellsOf f1.type = 1) (c2 : P.cellsOf f2.type = 1)
    (t0 : P.underlying f0.type = some (.int k)) (t1 : P.underlying f1.type = some (.int k')) (t2 : P.underlying f2.type = some (.slice b)) (h : DataW.trod enc P W 0 (fun _ => true) true n e cs = some y) : ∀ v ∈ cs, v.oneCell' = true := by
  obtain ⟨v0, v1, v2, y0, y1, y2, m, rfl, _, h0, h1, h2⟩ := three_cells he o0 o1 o2 ce c0 c1 c2 h
  intro v hv
  simp only [List.mem_cons, List.not_mem_nil, or_false] at hv
  rcases hv with rfl | rfl | rfl
  · exact (one_of_int t0 h0).1
  · exact (one_of_int t1 h1).1
  · exact one_of_slice t2 h2
theorem take_three {L : List Value} {i len : Nat} {v0 v1 v2 : Value} (hL : L.length = len * 3) (hi : i < len) (h : (L.drop (i * 3)).take 3 = [v0, v1, v2]) : L.getD (i * 3) undef = v0 ∧ L.getD (i * 3 + 1) undef = v1 ∧ L.getD (i * 3 + 2) undef = v2 := by
  have h0 := congrArg (·[0]?) h
  have h1 := congrArg (·[1]?) h
  have h2 := congrArg (·[2]?) h
  simp only [List.getElem?_cons_zero, List.getElem?_cons_succ] at h0 h1 h2
  rw [List.getElem?_take_of_lt (by omega), List.getElem?_drop] at h0 h1 h2
  rw [Nat.add_zero] at h0
  exact ⟨by rw [List.getD_eq_getElem?_getD, h0]; rfl, by rw [List.getD_eq_getElem?_getD, h1]; rfl, by rw [List.getD_eq_getElem?_getD, h2]; rfl⟩
theorem sw_none {L : List Value} : SwR W [] L 0 := ⟨fun i hi => absurd hi (Nat.not_lt_zero i), fun i hi => absurd hi (Nat.not_lt_zero i), fun i hi => absurd hi (Nat.not_lt_zero i), fun i hi => absurd hi (Nat.not_lt_zero i), fun i hi => absurd hi (Nat.not_lt_zero i)⟩
theorem len_bulk {t b : TypeId} {m : Nat} {v : Value} {y : DataW H × List MemPlace} (t1 : P.underlying t = some (.slice b)) (hb : P.underlying b = some (.int .u8)) (hc : P.cellsOf b = 1) (h1 : DataW.trod enc P W 0 (fun _ => true) true m t [v] = some y) :
    (∀ (q : Nat) (β : Env), ImpOk ⟨W, [], q, β⟩ v .u8 (lenV v) (capV v) (contV W v)) ∧ lenV v ≤ Rows.uptoBulk y.1 := by
  obtain ⟨g1, g2⟩ := imp_of t1 hb hc h1
  refine ⟨g1, ?_⟩
  rcases g2 with ⟨_, h0⟩ | ⟨L', s, h3, h4⟩
  · omega
  · have h5 := bulks.slice_le (lits (H := H) .u8 L') s
    have h6 : (lits (H := H) .u8 L').length = L'.length := by simp [lits]
    rw [h3]; omega
theorem sw_ok {e b : TypeId} {f0 f1 f2 : Field} {len n : Nat} {L : List Value} {xs : List (DataW H × List MemPlace)} (he : P.underlying e = some (.struct #[f0, f1, f2])) (o0 : f0.offset = 0) (o1 : f1.offset = 1) (o2 : f2.offset = 2)
    (ce : P.cellsOf e = 3) (c0 : P.cellsOf f0.type = 1) (c1 : P.cellsOf f1.type = 1) (c2 : P.cellsOf f2.type = 1)
    (t0 : P.underlying f0.type = some (.int .i64)) (t1 : P.underlying f1.type = some (.int .i64)) (t2 : P.underlying f2.type = some (.slice b)) (hb : P.underlying b = some (.int .u8)) (hc : P.cellsOf b = 1)
    (hx : ∀ i, i < len → ∃ y, DataW.trod enc P W 0 (fun _ => true) true n e ((L.drop (i * 3)).take 3) = some y ∧ xs[i]? = some y) (hbd : Rows.uptoBulkAll (xs.map (·.1)) ≤ 1048576) (hL : L.length = len * 3) : SwR W [] L len := by
  have key : ∀ i, i < len → L.getD (i * 3) undef = .int .i64 (intV (L.getD (i * 3) undef)) ∧ L.getD (i * 3 + 1) undef = .int .i64 (intV (L.getD (i * 3 + 1) undef)) ∧ (-9223372036854775808 ≤ intV (L.getD (i * 3 + 1) undef) ∧ intV (L.getD (i * 3 + 1) undef) < 9223372036854775808) ∧
      (∀ (q : Nat) (β : Env), ImpOk ⟨W, [], q, β⟩ (L.getD (i * 3 + 2) undef) .u8 (lenV (L.getD (i * 3 + 2) undef)) (capV (L.getD (i * 3 + 2) undef)) (contV W (L.getD (i * 3 + 2) undef))) ∧ lenV (L.getD (i * 3 + 2) undef) ≤ 1048576 := by
    intro i hi
    obtain ⟨y, hy, hy2⟩ := hx i hi
    obtain ⟨v0, v1, v2, y0, y1, y2, m, hcs, hyy, h0, h1, h2⟩ := three_cells he o0 o1 o2 ce c0 c1 c2 hy
    obtain ⟨e0, e1, e2⟩ := take_three hL hi hcs
    rw [e0, e1, e2]
    obtain ⟨a1, a2⟩ := len_bulk t2 hb hc h2
    have hmem : y.1 ∈ xs.map (·.1) := List.mem_map.2 ⟨y, List.mem_of_getElem? hy2, rfl⟩
    have hle := bulks.part_le hmem
    rw [hyy] at hle
    simp only [Rows.uptoBulk, Rows.uptoBulkAll] at hle
    have hw := bounds_i64 (one_of_int t1 h1).2.2
    exact ⟨(one_of_int t0 h0).2.1, (one_of_int t1 h1).2.1, ⟨hw.1, by omega⟩, a1, by omega⟩
  exact ⟨fun i hi => (key i hi).1, fun i hi => (key i hi).2.1, fun i hi => (key i hi).2.2.1, fun i hi => (key i hi).2.2.2.1, fun i hi => (key i hi).2.2.2.2⟩
end

theorem own : ownKnob Tryz.prog.godebug = none := by kernel_rfl

set_option maxHeartbeats 1000000 in
theorem contract (H : Type) (enc : TypeId × Value → H) (W : World) (base : Nat) (args : Array Value) (ds gs : List (DataW H)) (before : List MemPlace)
    (hval : ∀ (j : Nat) t v, Tryz.f3.params[j]? = some t → args[j]? = some v → Value.okWide Tryz.prog W .any base t v)
    (hW : DataW.Whole enc Tryz.prog Tryz.f3.params.toList Rows.storeDisksSpec.vars false W args.toList ds gs before) (hk : Rows.uptoSmall H (ds ++ gs) = true) :
    Calls Tryz.prog 3 args W fun e W' => ∃ v, e = .returned v ∧ Rows.storeDisksSpec.post enc Tryz.prog Tryz.f3 false true false false W args v W' := by
  have hW' := hW
  obtain ⟨p, q, hA0, hV, rfl, hfz, hnd⟩ := hW
  have hA : DataW.TrodAll enc Tryz.prog W 0 (fun _ => true) true Tryz.f3.params.toList args.toList ds p := hA0
  clear hA0
  rw [Tryz.params3] at hA hval
  obtain ⟨v0, vs0, d0, ds0, p0, q0, hargs, rfl, rfl, h0, r0⟩ := trodAll_cons hA
  obtain ⟨rfl, rfl, rfl⟩ := trodAll_nil r0
  obtain rfl : args = #[v0] := by cases args; simp_all
  obtain ⟨rfl, rfl⟩ := trodVars_none hV
  have hbd := bulks.bound hk
  obtain ⟨m, cap0, L, hl_L, hc_L, o0, e0⟩ := vals_arg (c := 3) Tryz.underlying22 (by kernel_rfl) (by decide) (fun _ _ _ h => one_sw Tryz.underlying48 rfl rfl rfl (by kernel_rfl) (by kernel_rfl) (by kernel_rfl) (by kernel_rfl) Tryz.underlying3 Tryz.underlying3 Tryz.underlying26 h) (hval 0 22 v0 rfl rfl) h0
  have hp_L : SwR W [] L m ∧ m ≤ 1048576 := by
    have hb2 := bulks.part_le (d := d0) (l := [d0] ++ []) (by simp)
    rcases e0 with ⟨_, h0⟩ | ⟨m0, xs, s0, rfl, hxl, hx⟩
    · subst h0; exact ⟨sw_none, by omega⟩
    · have hb3 := bulks.slice_elems (H := H) (xs.map (·.1)) s0
      have hb4 := bulks.length_le (xs.map (·.1))
      simp only [List.length_map] at hb4
      exact ⟨sw_ok Tryz.underlying48 rfl rfl rfl (by kernel_rfl) (by kernel_rfl) (by kernel_rfl) (by kernel_rfl) Tryz.underlying3 Tryz.underlying3 Tryz.underlying26 Tryz.underlying5 (by kernel_rfl) hx (by omega) hl_L, by omega⟩
  have ho : Opened W 0 _ _ _ := ((o0 _).app Opened.nil)
  refine (calls_true tabOkDI Tryz.func3 ho fun β => ?_).mono fun e W' ⟨he, hg⟩ => ⟨_, he, post_true (by kernel_rfl) rfl rfl rfl Tryz.underlying4 hW' hg⟩
  clear hval hA hV hW' hk
  exact di_body W m L _ (by omega) hp_L.1 β

theorem lifted (os : Os) (started : os.Started) (H : Type) (enc : TypeId × Value → H) (F : Stop.Interp) :
    ReturnsInHanded {} Tryz.checked os 3 .any ((Rows.OpenSpec.upto Rows.storeDisksSpec).pre6 enc Tryz.prog Tryz.f3 Rows.storeDisksUptoRow.domain false) (((Rows.OpenSpec.upto Rows.storeDisksSpec).at F).post enc Tryz.prog Tryz.f3 false true false false) := by
  refine returnsInHanded_of_cond (C := Tryz.checked) (s := Rows.OpenSpec.upto Rows.storeDisksSpec) (k := Rows.uptoSmall) rfl own started (by kernel_rfl) Tryz.func3
    (OpenSpec.witness (enc := enc) (C := Tryz.checked) (s := Rows.OpenSpec.upto Rows.storeDisksSpec) (k := Rows.uptoSmall) rfl false ⟨#[], #[.slice none 0 0], []⟩ 8 (by kernel_rfl) (by kernel_rfl) (by kernel_rfl)
      (x := ([.nil], [], [])) (by kernel_rfl) rfl (by kernel_rfl)) ?_
  intro W base args ds gs before hval hW _ hk _
  exact contract H enc W base args ds gs before hval hW hk

theorem over : Rows.storeDisksUptoRow.holds Tryz.pinned (Rows.OpenSpec.upto Rows.storeDisksSpec) :=
  OpenClaim.holds_of_cond 3 Tryz.f3 rfl rfl rfl rfl rfl rfl rfl ⟨rfl, rfl, rfl, rfl, rfl⟩ rfl rfl rfl rfl rfl (by kernel_rfl) Tryz.func3 (by kernel_rfl)
    (of_decide_eq_true (by kernel_rfl)) (by unfold Func.isWrapper; first | (rw [if_pos (by decide +kernel)]; kernel_rfl) | (rw [if_neg (by decide +kernel)]; exact ⟨rfl, rfl⟩))
    (fun os started H enc _ F => lifted os started H enc F)

theorem proved : Rows.StoreDisksUptoSaid :=
  over
end Go.Proofs.YtjmfnjgcofpocaaGreat.storeDisks
