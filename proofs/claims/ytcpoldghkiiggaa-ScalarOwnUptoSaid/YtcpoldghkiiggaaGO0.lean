/- The law ScalarOwn, over whatever arguments: true; what was there is as it was. -/
import Derived.Test.YtcpoldghkiiggaaGO6
import Derived.KernelRfl
namespace Go.Proofs.Ytcpoldghkiiggaa.scalarOwn
open Go Go.Proofs Go.ChangeShapes Go.WideShapes Go.ChangeAt Go.RowKit Go.Proofs.Ytcpoldghkiiggaa.X Go.Proofs.Ytcpoldghkiiggaa.R
set_option linter.unusedVariables false
set_option maxRecDepth 100000

theorem own : ownKnob Try.prog.godebug = none := by kernel_rfl

set_option maxHeartbeats 1000000 in
theorem contract (H : Type) (enc : TypeId × Value → H) (W : World) (base : Nat) (args : Array Value) (ds gs : List (DataW H)) (before : List MemPlace)
    (hval : ∀ (j : Nat) t v, Try.f13.params[j]? = some t → args[j]? = some v → Value.okWide Try.prog W .any base t v)
    (hW : DataW.Whole enc Try.prog Try.f13.params.toList Rows.scalarOwnSpec.vars false W args.toList ds gs before) (hk : Rows.uptoSmall H (ds ++ gs) = true) :
    Calls Try.prog 13 args W fun e W' => ∃ v, e = .returned v ∧ Rows.scalarOwnSpec.post enc Try.prog Try.f13 false true false false W args v W' := by
  have hW' := hW
  obtain ⟨p, q, hA0, hV, rfl, hfz, hnd⟩ := hW
  have hA : DataW.TrodAll enc Try.prog W 0 (fun _ => true) true Try.f13.params.toList args.toList ds p := hA0
  clear hA0
  rw [Try.params13] at hA hval
  obtain ⟨v0, vs0, d0, ds0, p0, q0, hargs, rfl, rfl, h0, r0⟩ := trodAll_cons hA
  obtain ⟨v1, vs1, d1, ds1, p1, q1, rfl, rfl, rfl, h1, r1⟩ := trodAll_cons r0
  obtain ⟨v2, vs2, d2, ds2, p2, q2, rfl, rfl, rfl, h2, r2⟩ := trodAll_cons r1
  obtain ⟨rfl, rfl, rfl⟩ := trodAll_nil r2
  obtain rfl : args = #[v0, v1, v2] := by cases args; simp_all
  obtain ⟨rfl, rfl⟩ := trodVars_none hV
  have hbd := bulks.bound hk
  obtain ⟨n, cap0, l, hl_l, hc_l, hw_l, o0, e0⟩ := arrs_arg (z := 32) Try.underlying64 Try.underlying24 Try.underlying5 (by kernel_rfl) (by kernel_rfl) (by decide) (hval 0 64 v0 rfl rfl) h0
  have hn_n : n ≤ 1048576 := by
    have hb2 := bulks.part_le (d := d0) (l := [d0, d1, d2] ++ []) (by simp)
    rcases e0 with ⟨_, h0⟩ | ⟨xs, s, rfl, hxl⟩
    · omega
    · have hb3 := bulks.slice_le (H := H) xs s
      omega
  obtain ⟨m, cap1, M, hl_M, hc_M, hw_M, o1, e1⟩ := arrs_arg (z := 32) Try.underlying64 Try.underlying24 Try.underlying5 (by kernel_rfl) (by kernel_rfl) (by decide) (hval 1 64 v1 rfl rfl) h1
  have hn_m : m ≤ 1048576 := by
    have hb2 := bulks.part_le (d := d1) (l := [d0, d1, d2] ++ []) (by simp)
    rcases e1 with ⟨_, h0⟩ | ⟨xs, s, rfl, hxl⟩
    · omega
    · have hb3 := bulks.slice_le (H := H) xs s
      omega
  obtain ⟨a, hl_a, hw_a, o2⟩ := arr_arg Try.underlying24 Try.underlying5 (by kernel_rfl) (by kernel_rfl) (hval 2 24 v2 rfl rfl) h2
  have ho : Opened W 0 _ _ _ := ((o0 _).app ((o1 _).app ((o2 _).app Opened.nil)))
  refine (calls_true tabOkSL Try.func13 ho fun β => ?_).mono fun e W' ⟨he, hg⟩ => ⟨_, he, post_true (by kernel_rfl) rfl rfl rfl Try.underlying4 hW' hg⟩
  clear hval hA hV hW' hk
  have ba : Byt a := fun x hx => by have := bounds_u8 (hw_a x hx); omega
  have bl : Byt l := fun x hx => by have := bounds_u8 (hw_l x hx); omega
  have bM : Byt M := fun x hx => by have := bounds_u8 (hw_M x hx); omega
  exact so_body W n l m M a _ _ (by omega) (by omega) bl bM ba β

theorem lifted (os : Os) (started : os.Started) (H : Type) (enc : TypeId × Value → H) (F : Stop.Interp) :
    ReturnsInHanded {} Try.checked os 13 .any ((Rows.OpenSpec.upto Rows.scalarOwnSpec).pre6 enc Try.prog Try.f13 Rows.scalarOwnUptoRow.domain false) (((Rows.OpenSpec.upto Rows.scalarOwnSpec).at F).post enc Try.prog Try.f13 false true false false) := by
  refine returnsInHanded_of_cond (C := Try.checked) (s := Rows.OpenSpec.upto Rows.scalarOwnSpec) (k := Rows.uptoSmall) rfl own started (by kernel_rfl) Try.func13
    (OpenSpec.witness (enc := enc) (C := Try.checked) (s := Rows.OpenSpec.upto Rows.scalarOwnSpec) (k := Rows.uptoSmall) rfl false ⟨#[], #[.slice none 0 0, .slice none 0 0, .agg #[.int .u8 0, .int .u8 0, .int .u8 0, .int .u8 0, .int .u8 0, .int .u8 0, .int .u8 0, .int .u8 0, .int .u8 0, .int .u8 0, .int .u8 0, .int .u8 0, .int .u8 0, .int .u8 0, .int .u8 0, .int .u8 0, .int .u8 0, .int .u8 0, .int .u8 0, .int .u8 0, .int .u8 0, .int .u8 0, .int .u8 0, .int .u8 0, .int .u8 0, .int .u8 0, .int .u8 0, .int .u8 0, .int .u8 0, .int .u8 0, .int .u8 0, .int .u8 0]], []⟩ 8 (by kernel_rfl) (by kernel_rfl) (by kernel_rfl)
      (x := ([.nil, .nil, .agg [.lit (.int .u8 0), .lit (.int .u8 0), .lit (.int .u8 0), .lit (.int .u8 0), .lit (.int .u8 0), .lit (.int .u8 0), .lit (.int .u8 0), .lit (.int .u8 0), .lit (.int .u8 0), .lit (.int .u8 0), .lit (.int .u8 0), .lit (.int .u8 0), .lit (.int .u8 0), .lit (.int .u8 0), .lit (.int .u8 0), .lit (.int .u8 0), .lit (.int .u8 0), .lit (.int .u8 0), .lit (.int .u8 0), .lit (.int .u8 0), .lit (.int .u8 0), .lit (.int .u8 0), .lit (.int .u8 0), .lit (.int .u8 0), .lit (.int .u8 0), .lit (.int .u8 0), .lit (.int .u8 0), .lit (.int .u8 0), .lit (.int .u8 0), .lit (.int .u8 0), .lit (.int .u8 0), .lit (.int .u8 0)]], [], [])) (by kernel_rfl) rfl (by kernel_rfl)) ?_
  intro W base args ds gs before hval hW _ hk _
  exact contract H enc W base args ds gs before hval hW hk

theorem over : Rows.scalarOwnUptoRow.holds Try.pinned (Rows.OpenSpec.upto Rows.scalarOwnSpec) :=
  OpenClaim.holds_of_cond 13 Try.f13 rfl rfl rfl rfl rfl rfl rfl ⟨rfl, rfl, rfl, rfl, rfl⟩ rfl rfl rfl rfl rfl (by kernel_rfl) Try.func13 (by kernel_rfl)
    (of_decide_eq_true (by kernel_rfl)) (by unfold Func.isWrapper; first | (rw [if_pos (by decide +kernel)]; kernel_rfl) | (rw [if_neg (by decide +kernel)]; exact ⟨rfl, rfl⟩))
    (fun os started H enc _ F => lifted os started H enc F)

theorem proved : Rows.ScalarOwnUptoSaid :=
  over
end Go.Proofs.Ytcpoldghkiiggaa.scalarOwn
