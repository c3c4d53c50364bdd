/- The law DrbgDraws, over whatever arguments: true; what was there is as it was. -/
import Derived.Test.YtlmdhjojinkdbaaGW6
import Derived.KernelRfl
namespace Go.Proofs.Ytlmdhjojinkdbaa.drbgDraws
open Go Go.Proofs Go.ChangeShapes Go.WideShapes Go.ChangeAt Go.RowKit Go.Proofs.Ytlmdhjojinkdbaa.X Go.Proofs.Ytlmdhjojinkdbaa.R
set_option linter.unusedVariables false
set_option maxRecDepth 100000

section
variable {H : Type} {enc : TypeId × Value → H} {P : Program} {W : World}
theorem four_cells {e : TypeId} {f0 f1 f2 f3 : Field} {n : Nat} {cs : List Value} {y : DataW H × List MemPlace} (he : P.underlying e = some (.struct #[f0, f1, f2, f3])) (o0 : f0.offset = 0) (o1 : f1.offset = 1) (o2 : f2.offset = 2) (o3 : f3.offset = 3)
    (ce : P.cellsOf e = 4) (c0 : P.cellsOf f0.type = 1) (c1 : P.cellsOf f1.type = 1) (c2 : P.cellsOf f2.type = 1) (c3 : P.cellsOf f3.type = 1)
    (h : DataW.trod enc P W 0 (fun _ => true) true n e cs = some y) : ∃ v0 v1 v2 v3 y0 y1 y2 y3 m, cs = [v0, v1, v2, v3] ∧ y.1 = .agg [y0.1, y1.1, y2.1, y3.1] ∧ DataW.trod enc P W 0 (fun _ => true) true m f0.type [v0] = some y0 ∧ DataW.trod enc P W 0 (fun _ => true) true m f1.type [v1] = some y1 ∧
      DataW.trod enc P W 0 (fun _ => true) true m f2.type [v2] = some y2 ∧ DataW.trod enc P W 0 (fun _ => true) true m f3.type [v3] = some y3 := by
  obtain ⟨xs, m, _, rfl, hl, hlen, hf⟩ := DataW.trod_struct he h
  match xs, hlen with
  | [y0, y1, y2, y3], _ =>
    have h0 := hf 0 f0 rfl
    have h1 := hf 1 f1 rfl
    have h2 := hf 2 f2 rfl
    have h3 := hf 3 f3 rfl
    rw [o0, c0] at h0
    rw [o1, c1] at h1
    rw [o2, c2] at h2
    rw [o3, c3] at h3
    rw [ce] at hl
    match cs, hl with
    | [v0, v1, v2, v3], _ => exact ⟨v0, v1, v2, v3, y0, y1, y2, y3, m, rfl, rfl, h0, h1, h2, h3⟩
theorem one_of_slice {t b : TypeId} {m : Nat} {v : Value} {y : DataW H × List MemPlace} (t1 : P.underlying t = some (.slice b)) (h1 : DataW.trod enc P W 0 (fun _ => true) true m t [v] = some y) : v.oneCell' = true := by
  rcases DataW.trod_slice t1 h1 with ⟨h2, _⟩ | ⟨_, _, _, _, _, _, _, h2, _⟩ <;> (simp only [List.cons.injEq, and_true] at h2; rw [h2]; rfl)
theorem one_of_int {t : TypeId} {k : IntKind} {m : Nat} {v : Value} {y : DataW H × List MemPlace} (t0 : P.underlying t = some (.int k)) (h0 : DataW.trod enc P W 0 (fun _ => true) true m t [v] = some y) : v.oneCell' = true ∧ v = .int k (intV v) := by
  obtain ⟨z, hz, _⟩ := DataW.trod_int t0 h0
  simp only [List.cons.injEq, and_true] at hz
  rw [hz]; exact ⟨rfl, rfl⟩
theorem one_tw {e b b' : TypeId} {k k' : IntKind} {f0 f1 f2 f3 : Field} {n : Nat} {cs : List Value} {y : DataW H × List MemPlace} (he : P.underlying e = some (.struct #[f0, f1, f2, f3])) (o0 : f0.offset = 0) (o1 : f1.offset = 1) (o2 : f2.offset = 2) (o3 : f3.offset = 3)
    (ce : P.cellsOf e = 4) (c0 : P.cellsOf f0.type = 1) (c1 : P.cellsOf f1.type = 1) (c2 : P.cellsOf f2.type = 1) (c3 : P.cellsOf f3.type = 1)
    (t0 : P.underlying f0.type = some (.int k)) (t1 : P.underlying f1.type = some (.int k')) (t2 : P.underlying f2.type = some (.slice b)) (t3 : P.underlying f3.type = some (.slice b')) (h : DataW.trod enc P W 0 (fun _ => true) true n e cs = some y) : ∀ v ∈ cs, v.oneCell' = true := by
  obtain ⟨v0, v1, v2, v3, y0, y1, y2, y3, m, rfl, _, h0, h1, h2, h3⟩ := four_cells he o0 o1 o2 o3 ce c0 c1 c2 c3 h
  intro v hv
  simp only [List.mem_cons, List.not_mem_nil, or_false] at hv
  rcases hv with rfl | rfl | rfl | rfl
  · exact (one_of_int t0 h0).1
  · exact (one_of_int t1 h1).1
  · exact one_of_slice t2 h2
  · exact one_of_slice t3 h3
theorem take_four {L : List Value} {i len : Nat} {v0 v1 v2 v3 : Value} (hL : L.length = len * 4) (hi : i < len) (h : (L.drop (i * 4)).take 4 = [v0, v1, v2, v3]) : L.getD (i * 4) undef = v0 ∧ L.getD (i * 4 + 1) undef = v1 ∧ L.getD (i * 4 + 2) undef = v2 ∧ L.getD (i * 4 + 3) undef = v3 := by
  have h0 := congrArg (·[0]?) h
  have h1 := congrArg (·[1]?) h
  have h2 := congrArg (·[2]?) h
  have h3 := congrArg (·[3]?) h
  simp only [List.getElem?_cons_zero, List.getElem?_cons_succ] at h0 h1 h2 h3
  rw [List.getElem?_take_of_lt (by omega), List.getElem?_drop] at h0 h1 h2 h3
  rw [Nat.add_zero] at h0
  exact ⟨by rw [List.getD_eq_getElem?_getD, h0]; rfl, by rw [List.getD_eq_getElem?_getD, h1]; rfl, by rw [List.getD_eq_getElem?_getD, h2]; rfl, by rw [List.getD_eq_getElem?_getD, h3]; rfl⟩
theorem tw_none {L : List Value} : DwOk W L 0 := ⟨fun i hi => absurd hi (Nat.not_lt_zero i), fun i hi => absurd hi (Nat.not_lt_zero i), fun i hi => absurd hi (Nat.not_lt_zero i), fun i hi => absurd hi (Nat.not_lt_zero i), fun i hi => absurd hi (Nat.not_lt_zero i), fun i hi => absurd hi (Nat.not_lt_zero i)⟩
theorem len_bulk {t b : TypeId} {m : Nat} {v : Value} {y : DataW H × List MemPlace} (t1 : P.underlying t = some (.slice b)) (hb : P.underlying b = some (.int .u8)) (hc : P.cellsOf b = 1) (h1 : DataW.trod enc P W 0 (fun _ => true) true m t [v] = some y) :
    (∀ (q : Nat) (β : Env), ImpOk ⟨W, [], q, β⟩ v .u8 (lenV v) (capV v) (contV W v)) ∧ lenV v ≤ Rows.uptoBulk y.1 := by
  obtain ⟨g1, g2⟩ := imp_of t1 hb hc h1
  refine ⟨g1, ?_⟩
  rcases g2 with ⟨_, h0⟩ | ⟨L', s, h3, h4⟩
  · omega
  · have h5 := bulks.slice_le (lits (H := H) .u8 L') s
    have h6 : (lits (H := H) .u8 L').length = L'.length := by simp [lits]
    rw [h3]; omega
theorem tw_ok {e b : TypeId} {f0 f1 f2 f3 : Field} {len n : Nat} {L : List Value} {xs : List (DataW H × List MemPlace)} (he : P.underlying e = some (.struct #[f0, f1, f2, f3])) (o0 : f0.offset = 0) (o1 : f1.offset = 1) (o2 : f2.offset = 2) (o3 : f3.offset = 3)
    (ce : P.cellsOf e = 4) (c0 : P.cellsOf f0.type = 1) (c1 : P.cellsOf f1.type = 1) (c2 : P.cellsOf f2.type = 1) (c3 : P.cellsOf f3.type = 1)
    (t0 : P.underlying f0.type = some (.int .i64)) (t1 : P.underlying f1.type = some (.int .i64)) (t2 : P.underlying f2.type = some (.slice b)) (t3 : P.underlying f3.type = some (.slice b)) (hb : P.underlying b = some (.int .u8)) (hc : P.cellsOf b = 1)
    (hx : ∀ i, i < len → ∃ y, DataW.trod enc P W 0 (fun _ => true) true n e ((L.drop (i * 4)).take 4) = some y ∧ xs[i]? = some y) (hbd : Rows.uptoBulkAll (xs.map (·.1)) ≤ 1048576) (hL : L.length = len * 4) : DwOk W L len := by
  have key : ∀ i, i < len → L.getD (i * 4) undef = .int .i64 (intV (L.getD (i * 4) undef)) ∧ L.getD (i * 4 + 1) undef = .int .i64 (intV (L.getD (i * 4 + 1) undef)) ∧
      ((∀ (q : Nat) (β : Env), ImpOk ⟨W, [], q, β⟩ (L.getD (i * 4 + 2) undef) .u8 (lenV (L.getD (i * 4 + 2) undef)) (capV (L.getD (i * 4 + 2) undef)) (contV W (L.getD (i * 4 + 2) undef))) ∧ lenV (L.getD (i * 4 + 2) undef) < 8796093022208) ∧
      ((∀ (q : Nat) (β : Env), ImpOk ⟨W, [], q, β⟩ (L.getD (i * 4 + 3) undef) .u8 (lenV (L.getD (i * 4 + 3) undef)) (capV (L.getD (i * 4 + 3) undef)) (contV W (L.getD (i * 4 + 3) undef))) ∧ lenV (L.getD (i * 4 + 3) undef) < 8796093022208) := by
    intro i hi
    obtain ⟨y, hy, hy2⟩ := hx i hi
    obtain ⟨v0, v1, v2, v3, y0, y1, y2, y3, m, hcs, hyy, h0, h1, h2, h3⟩ := four_cells he o0 o1 o2 o3 ce c0 c1 c2 c3 hy
    obtain ⟨e0, e1, e2, e3⟩ := take_four hL hi hcs
    rw [e0, e1, e2, e3]
    obtain ⟨a1, a2⟩ := len_bulk t2 hb hc h2
    obtain ⟨b1, b2⟩ := len_bulk t3 hb hc h3
    have hmem : y.1 ∈ xs.map (·.1) := List.mem_map.2 ⟨y, List.mem_of_getElem? hy2, rfl⟩
    have hle := bulks.part_le hmem
    rw [hyy] at hle
    simp only [Rows.uptoBulk, Rows.uptoBulkAll] at hle
    exact ⟨(one_of_int t0 h0).2, (one_of_int t1 h1).2, ⟨a1, by omega⟩, ⟨b1, by omega⟩⟩
  exact ⟨fun i hi => (key i hi).1, fun i hi => (key i hi).2.1, fun i hi => (key i hi).2.2.1.1, fun i hi => (key i hi).2.2.2.1, fun i hi => (key i hi).2.2.1.2, fun i hi => (key i hi).2.2.2.2⟩
end

theorem own : ownKnob Try.prog.godebug = none := by kernel_rfl

set_option maxHeartbeats 1000000 in
theorem contract (H : Type) (enc : TypeId × Value → H) (W : World) (base : Nat) (args : Array Value) (ds gs : List (DataW H)) (before : List MemPlace)
    (hval : ∀ (j : Nat) t v, Try.f6.params[j]? = some t → args[j]? = some v → Value.okWide Try.prog W .any base t v)
    (hW : DataW.Whole enc Try.prog Try.f6.params.toList Rows.drbgDrawsSpec.vars false W args.toList ds gs before) (hk : Rows.uptoSmall H (ds ++ gs) = true) :
    Calls Try.prog 6 args W fun e W' => ∃ v, e = .returned v ∧ Rows.drbgDrawsSpec.post enc Try.prog Try.f6 false true false false W args v W' := by
  have hW' := hW
  obtain ⟨p, q, hA0, hV, rfl, hfz, hnd⟩ := hW
  have hA : DataW.TrodAll enc Try.prog W 0 (fun _ => true) true Try.f6.params.toList args.toList ds p := hA0
  clear hA0
  rw [Try.params6] at hA hval
  obtain ⟨v0, vs0, d0, ds0, p0, q0, hargs, rfl, rfl, h0, r0⟩ := trodAll_cons hA
  obtain ⟨v1, vs1, d1, ds1, p1, q1, rfl, rfl, rfl, h1, r1⟩ := trodAll_cons r0
  obtain ⟨v2, vs2, d2, ds2, p2, q2, rfl, rfl, rfl, h2, r2⟩ := trodAll_cons r1
  obtain ⟨v3, vs3, d3, ds3, p3, q3, rfl, rfl, rfl, h3, r3⟩ := trodAll_cons r2
  obtain ⟨rfl, rfl, rfl⟩ := trodAll_nil r3
  obtain rfl : args = #[v0, v1, v2, v3] := by cases args; simp_all
  obtain ⟨rfl, rfl⟩ := trodVars_none hV
  have hbd := bulks.bound hk
  obtain ⟨n, cap0, b, hl_b, hc_b, hw_b, o0, e0⟩ := ints_arg Try.underlying22 Try.underlying5 (by kernel_rfl) (hval 0 22 v0 rfl rfl) h0
  have hn_n : n ≤ 1048576 := by
    have hb2 := bulks.part_le (d := d0) (l := [d0, d1, d2, d3] ++ []) (by simp)
    rcases e0 with ⟨_, rfl⟩ | ⟨s, rfl⟩
    · omega
    · have hb3 := bulks.slice_le (H := H) (lits .u8 b) s
      have hb4 : (lits (H := H) .u8 b).length = n := by simp [lits, hl_b]
      omega
  obtain ⟨m, cap1, c, hl_c, hc_c, hw_c, o1, e1⟩ := ints_arg Try.underlying22 Try.underlying5 (by kernel_rfl) (hval 1 22 v1 rfl rfl) h1
  have hn_m : m ≤ 1048576 := by
    have hb2 := bulks.part_le (d := d1) (l := [d0, d1, d2, d3] ++ []) (by simp)
    rcases e1 with ⟨_, rfl⟩ | ⟨s, rfl⟩
    · omega
    · have hb3 := bulks.slice_le (H := H) (lits .u8 c) s
      have hb4 : (lits (H := H) .u8 c).length = m := by simp [lits, hl_c]
      omega
  obtain ⟨o, cap2, e, hl_e, hc_e, hw_e, o2, e2⟩ := ints_arg Try.underlying22 Try.underlying5 (by kernel_rfl) (hval 2 22 v2 rfl rfl) h2
  have hn_o : o ≤ 1048576 := by
    have hb2 := bulks.part_le (d := d2) (l := [d0, d1, d2, d3] ++ []) (by simp)
    rcases e2 with ⟨_, rfl⟩ | ⟨s, rfl⟩
    · omega
    · have hb3 := bulks.slice_le (H := H) (lits .u8 e) s
      have hb4 : (lits (H := H) .u8 e).length = o := by simp [lits, hl_e]
      omega
  obtain ⟨l, cap3, L, hl_L, hc_L, o3, e3⟩ := vals_arg (c := 4) Try.underlying56 (by kernel_rfl) (by decide) (fun _ _ _ h => one_tw Try.underlying61 rfl rfl rfl rfl (by kernel_rfl) (by kernel_rfl) (by kernel_rfl) (by kernel_rfl) (by kernel_rfl) Try.underlying3 Try.underlying3 Try.underlying22 Try.underlying22 h) (hval 3 56 v3 rfl rfl) h3
  have hp_L : DwOk W L l ∧ l ≤ 1048576 := by
    have hb2 := bulks.part_le (d := d3) (l := [d0, d1, d2, d3] ++ []) (by simp)
    rcases e3 with ⟨_, h0⟩ | ⟨m0, xs, s0, rfl, hxl, hx⟩
    · subst h0; exact ⟨tw_none, by omega⟩
    · have hb3 := bulks.slice_elems (H := H) (xs.map (·.1)) s0
      have hb4 := bulks.length_le (xs.map (·.1))
      simp only [List.length_map] at hb4
      exact ⟨tw_ok Try.underlying61 rfl rfl rfl rfl (by kernel_rfl) (by kernel_rfl) (by kernel_rfl) (by kernel_rfl) (by kernel_rfl) Try.underlying3 Try.underlying3 Try.underlying22 Try.underlying22 Try.underlying5 (by kernel_rfl) hx (by omega) hl_L, by omega⟩
  have ho : Opened W 0 _ _ _ := ((o0 _).app ((o1 _).app ((o2 _).app ((o3 _).app Opened.nil))))
  refine (calls_true tabOkKU Try.func6 ho fun β => ?_).mono fun e W' ⟨he, hg⟩ => ⟨_, he, post_true (by kernel_rfl) rfl rfl rfl Try.underlying4 hW' hg⟩
  clear hval hA hV hW' hk
  exact dw_body W n b m c o e l L _ _ _ _ (by omega) (by omega) (by omega) (by omega) hp_L.1 β

theorem lifted (os : Os) (started : os.Started) (H : Type) (enc : TypeId × Value → H) (F : Stop.Interp) :
    ReturnsInHanded {} Try.checked os 6 .any ((Rows.OpenSpec.upto Rows.drbgDrawsSpec).pre6 enc Try.prog Try.f6 Rows.drbgDrawsUptoRow.domain false) (((Rows.OpenSpec.upto Rows.drbgDrawsSpec).at F).post enc Try.prog Try.f6 false true false false) := by
  refine returnsInHanded_of_cond (C := Try.checked) (s := Rows.OpenSpec.upto Rows.drbgDrawsSpec) (k := Rows.uptoSmall) rfl own started (by kernel_rfl) Try.func6
    (OpenSpec.witness (enc := enc) (C := Try.checked) (s := Rows.OpenSpec.upto Rows.drbgDrawsSpec) (k := Rows.uptoSmall) rfl false ⟨#[], #[.slice none 0 0, .slice none 0 0, .slice none 0 0, .slice none 0 0], []⟩ 8 (by kernel_rfl) (by kernel_rfl) (by kernel_rfl)
      (x := ([.nil, .nil, .nil, .nil], [], [])) (by kernel_rfl) rfl (by kernel_rfl)) ?_
  intro W base args ds gs before hval hW _ hk _
  exact contract H enc W base args ds gs before hval hW hk

theorem over : Rows.drbgDrawsUptoRow.holds Try.pinned (Rows.OpenSpec.upto Rows.drbgDrawsSpec) :=
  OpenClaim.holds_of_cond 6 Try.f6 rfl rfl rfl rfl rfl rfl rfl ⟨rfl, rfl, rfl, rfl, rfl⟩ rfl rfl rfl rfl rfl (by kernel_rfl) Try.func6 (by kernel_rfl)
    (of_decide_eq_true (by kernel_rfl)) (by unfold Func.isWrapper; first | (rw [if_pos (by decide +kernel)]; kernel_rfl) | (rw [if_neg (by decide +kernel)]; exact ⟨rfl, rfl⟩))
    (fun os started H enc _ F => lifted os started H enc F)

theorem proved : Rows.DrbgDrawsUptoSaid :=
  over
end Go.Proofs.Ytlmdhjojinkdbaa.drbgDraws
