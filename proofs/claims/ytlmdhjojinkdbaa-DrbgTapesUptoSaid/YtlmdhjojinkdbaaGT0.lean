/- The law DrbgTapes, over whatever arguments: true; what was there is as it was. -/
import Derived.Test.YtlmdhjojinkdbaaGT6
import Derived.KernelRfl
namespace Go.Proofs.Ytlmdhjojinkdbaa.drbgTapes
open Go Go.Proofs Go.ChangeShapes Go.WideShapes Go.ChangeAt Go.RowKit Go.Proofs.Ytlmdhjojinkdbaa.X Go.Proofs.Ytlmdhjojinkdbaa.R
set_option linter.unusedVariables false
set_option maxRecDepth 100000

theorem own : ownKnob Try.prog.godebug = none := by kernel_rfl

set_option maxHeartbeats 1000000 in
theorem contract (H : Type) (enc : TypeId × Value → H) (W : World) (base : Nat) (args : Array Value) (ds gs : List (DataW H)) (before : List MemPlace)
    (hval : ∀ (j : Nat) t v, Try.f8.params[j]? = some t → args[j]? = some v → Value.okWide Try.prog W .any base t v)
    (hW : DataW.Whole enc Try.prog Try.f8.params.toList Rows.drbgTapesSpec.vars false W args.toList ds gs before) (hk : Rows.uptoSmall H (ds ++ gs) = true) :
    Calls Try.prog 8 args W fun e W' => ∃ v, e = .returned v ∧ Rows.drbgTapesSpec.post enc Try.prog Try.f8 false true false false W args v W' := by
  have hW' := hW
  obtain ⟨p, q, hA0, hV, rfl, hfz, hnd⟩ := hW
  have hA : DataW.TrodAll enc Try.prog W 0 (fun _ => true) true Try.f8.params.toList args.toList ds p := hA0
  clear hA0
  rw [Try.params8] at hA hval
  obtain ⟨v0, vs0, d0, ds0, p0, q0, hargs, rfl, rfl, h0, r0⟩ := trodAll_cons hA
  obtain ⟨v1, vs1, d1, ds1, p1, q1, rfl, rfl, rfl, h1, r1⟩ := trodAll_cons r0
  obtain ⟨rfl, rfl, rfl⟩ := trodAll_nil r1
  obtain rfl : args = #[v0, v1] := by cases args; simp_all
  obtain ⟨rfl, rfl⟩ := trodVars_none hV
  have hbd := bulks.bound hk
  obtain ⟨n, cap0, l, hl_l, hc_l, hw_l, o0, e0⟩ := arrs_arg (z := 32) Try.underlying91 Try.underlying72 Try.underlying5 (by kernel_rfl) (by kernel_rfl) (by decide) (hval 0 91 v0 rfl rfl) h0
  have hn_n : n ≤ 1048576 := by
    have hb2 := bulks.part_le (d := d0) (l := [d0, d1] ++ []) (by simp)
    rcases e0 with ⟨_, h0⟩ | ⟨xs, s, rfl, hxl⟩
    · omega
    · have hb3 := bulks.slice_le (H := H) xs s
      omega
  obtain ⟨p, cap1, A, hl_A, hc_A, hw_A, o1, e1⟩ := ints_arg Try.underlying92 Try.underlying3 (by kernel_rfl) (hval 1 92 v1 rfl rfl) h1
  have hn_p : p ≤ 1048576 := by
    have hb2 := bulks.part_le (d := d1) (l := [d0, d1] ++ []) (by simp)
    rcases e1 with ⟨_, rfl⟩ | ⟨s, rfl⟩
    · omega
    · have hb3 := bulks.slice_le (H := H) (lits .i64 A) s
      have hb4 : (lits (H := H) .i64 A).length = p := by simp [lits, hl_A]
      omega
  have ho : Opened W 0 _ _ _ := ((o0 _).app ((o1 _).app Opened.nil))
  refine (calls_true tabOkTH Try.func8 ho fun β => ?_).mono fun e W' ⟨he, hg⟩ => ⟨_, he, post_true (by kernel_rfl) rfl rfl rfl Try.underlying4 hW' hg⟩
  clear hval hA hV hW' hk
  have bl : V.Byt l := fun x hx => by have := bounds_u8 (hw_l x hx); omega
  exact tpL_body n (n * 32) l p p A _ _ rfl rfl (by omega) (by omega) bl hl_l W β

theorem lifted (os : Os) (started : os.Started) (H : Type) (enc : TypeId × Value → H) (F : Stop.Interp) :
    ReturnsInHanded {} Try.checked os 8 .any ((Rows.OpenSpec.upto Rows.drbgTapesSpec).pre6 enc Try.prog Try.f8 Rows.drbgTapesUptoRow.domain false) (((Rows.OpenSpec.upto Rows.drbgTapesSpec).at F).post enc Try.prog Try.f8 false true false false) := by
  refine returnsInHanded_of_cond (C := Try.checked) (s := Rows.OpenSpec.upto Rows.drbgTapesSpec) (k := Rows.uptoSmall) rfl own started (by kernel_rfl) Try.func8
    (OpenSpec.witness (enc := enc) (C := Try.checked) (s := Rows.OpenSpec.upto Rows.drbgTapesSpec) (k := Rows.uptoSmall) rfl false ⟨#[], #[.slice none 0 0, .slice none 0 0], []⟩ 8 (by kernel_rfl) (by kernel_rfl) (by kernel_rfl)
      (x := ([.nil, .nil], [], [])) (by kernel_rfl) rfl (by kernel_rfl)) ?_
  intro W base args ds gs before hval hW _ hk _
  exact contract H enc W base args ds gs before hval hW hk

theorem over : Rows.drbgTapesUptoRow.holds Try.pinned (Rows.OpenSpec.upto Rows.drbgTapesSpec) :=
  OpenClaim.holds_of_cond 8 Try.f8 rfl rfl rfl rfl rfl rfl rfl ⟨rfl, rfl, rfl, rfl, rfl⟩ rfl rfl rfl rfl rfl (by kernel_rfl) Try.func8 (by kernel_rfl)
    (of_decide_eq_true (by kernel_rfl)) (by unfold Func.isWrapper; first | (rw [if_pos (by decide +kernel)]; kernel_rfl) | (rw [if_neg (by decide +kernel)]; exact ⟨rfl, rfl⟩))
    (fun os started H enc _ F => lifted os started H enc F)

theorem proved : Rows.DrbgTapesUptoSaid :=
  over
end Go.Proofs.Ytlmdhjojinkdbaa.drbgTapes
