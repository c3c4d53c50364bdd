/- The law Sha512Resumes, over whatever arguments: true; what was there is as it was. -/
import Derived.Test.YtepimglipelpmaaTG
import Derived.Test.YtepimglipelpmaaC5
import Derived.Test.YtepimglipelpmaaBulk
import Derived.KernelRfl
namespace Go.Proofs.Ytepimglipelpmaa.sha512Resumes
open Go Go.Proofs Go.ChangeShapes Go.WideShapes Go.ChangeAt Go.RowKit Go.Proofs.Ytepimglipelpmaa.X Go.Proofs.Ytepimglipelpmaa.R
set_option linter.unusedVariables false
set_option maxRecDepth 100000

theorem own : ownKnob Try.prog.godebug = none := by kernel_rfl

set_option maxHeartbeats 1000000 in
theorem contract (H : Type) (enc : TypeId × Value → H) (W : World) (base : Nat) (args : Array Value) (ds gs : List (DataW H)) (before : List MemPlace)
    (hval : ∀ (j : Nat) t v, Try.f5.params[j]? = some t → args[j]? = some v → Value.okWide Try.prog W .any base t v)
    (hW : DataW.Whole enc Try.prog Try.f5.params.toList Rows.sha512ResumesSpec.vars false W args.toList ds gs before) (hk : Rows.uptoSmall H (ds ++ gs) = true) :
    Calls Try.prog 5 args W fun e W' => ∃ v, e = .returned v ∧ Rows.sha512ResumesSpec.post enc Try.prog Try.f5 false true false false W args v W' := by
  have hW' := hW
  obtain ⟨p, q, hA0, hV, rfl, hfz, hnd⟩ := hW
  have hA : DataW.TrodAll enc Try.prog W 0 (fun _ => true) true Try.f5.params.toList args.toList ds p := hA0
  clear hA0
  rw [Try.params5] at hA hval
  obtain ⟨v0, vs0, d0, ds0, p0, q0, hargs, rfl, rfl, h0, r0⟩ := trodAll_cons hA
  obtain ⟨v1, vs1, d1, ds1, p1, q1, rfl, rfl, rfl, h1, r1⟩ := trodAll_cons r0
  obtain ⟨rfl, rfl, rfl⟩ := trodAll_nil r1
  obtain rfl : args = #[v0, v1] := by cases args; simp_all
  obtain ⟨rfl, rfl⟩ := trodVars_none hV
  have hbd := bulks.bound hk
  obtain ⟨S, n, b, N, hl_S, hl_b, hw_N, o0, x0, y0, z0, rfl, e0⟩ := mid_arg Try.underlying69 Try.underlying53 Try.underlying52 (by kernel_rfl) (by kernel_rfl) rfl Try.underlying22 Try.underlying5 (by kernel_rfl) (by kernel_rfl) rfl Try.underlying52 (by kernel_rfl) rfl (by kernel_rfl) (hval 0 69 v0 rfl rfl) h0
  have hn_n : n ≤ 1048576 := by
    have hb2 := bulks.part_le (d := DataW.agg [x0, y0, z0]) (l := [DataW.agg [x0, y0, z0], d1] ++ []) (by simp)
    have hb5 := bulks.part_le (d := y0) (l := [x0, y0, z0]) (by simp)
    simp only [Rows.uptoBulk] at hb2
    rcases e0 with ⟨_, rfl⟩ | ⟨s, rfl⟩
    · omega
    · have hb3 := bulks.slice_le (H := H) (lits .u8 b) s
      have hb4 : (lits (H := H) .u8 b).length = n := by simp [lits, hl_b]
      omega
  obtain ⟨n2, cap1, b2, hl_b2, hc_b2, hw_b2, o1, e1⟩ := ints_arg Try.underlying22 Try.underlying5 (by kernel_rfl) (hval 1 22 v1 rfl rfl) h1
  have hn_n2 : n2 ≤ 1048576 := by
    have hb2 := bulks.part_le (d := d1) (l := [DataW.agg [x0, y0, z0], d1] ++ []) (by simp)
    rcases e1 with ⟨_, rfl⟩ | ⟨s, rfl⟩
    · omega
    · have hb3 := bulks.slice_le (H := H) (lits .u8 b2) s
      have hb4 : (lits (H := H) .u8 b2).length = n2 := by simp [lits, hl_b2]
      omega
  have ho : Opened W 0 _ _ _ := ((o0 _).app ((o1 _).app Opened.nil))
  refine (calls_true tabOkTG Try.func5 ho fun β => ?_).mono fun e W' ⟨he, hg⟩ => ⟨_, he, post_true (by kernel_rfl) rfl rfl rfl Try.underlying4 hW' hg⟩
  have hb := bounds_u64 hw_N
  clear hval hA hV hW' hk
  by_cases h1 : N < 2305843009213693952
  · by_cases h2 : Int.tmod N 128 = ((n : Nat) : Int)
    · by_cases h3 : N + ((n2 : Nat) : Int) < 2305843009213693952
      · exact Body.mono (Body.lens (c := (Try.f5.body.getD .skip)) rfl fun h => resumesC_body0 n b S N n2 n2 b2 cap1 rfl hb.1 h1 (by omega) h2 h3 (by omega) (h.caps 1 _ _ _ _ rfl) (h.lens 0 _ .u8 n b rfl (by simp)) (h.lens 1 _ .u8 n2 b2 rfl (by simp)) hl_S W [] β) fun _ _ h => h.1
      · exact Body.mono (resumesB_body n b S N n2 n2 b2 cap1 rfl hb.1 h1 (by omega) h2 (by omega) (by omega) W [] β) fun _ _ h => h.1
    · exact Body.mono (resumesA2_body n b S N n2 n2 b2 cap1 rfl hb.1 h1 (by omega) h2 (by omega) W [] β) fun _ _ h => h.1
  · exact Body.mono (resumesA1_body n b S N n2 n2 b2 cap1 rfl (by omega) (by omega) (by omega) W [] β) fun _ _ h => h.1

theorem lifted (os : Os) (started : os.Started) (H : Type) (enc : TypeId × Value → H) (F : Stop.Interp) :
    ReturnsInHanded {} Try.checked os 5 .any ((Rows.OpenSpec.upto Rows.sha512ResumesSpec).pre6 enc Try.prog Try.f5 Rows.sha512ResumesUptoRow.domain false) (((Rows.OpenSpec.upto Rows.sha512ResumesSpec).at F).post enc Try.prog Try.f5 false true false false) := by
  refine returnsInHanded_of_cond (C := Try.checked) (s := Rows.OpenSpec.upto Rows.sha512ResumesSpec) (k := Rows.uptoSmall) rfl own started (by kernel_rfl) Try.func5
    (OpenSpec.witness (enc := enc) (C := Try.checked) (s := Rows.OpenSpec.upto Rows.sha512ResumesSpec) (k := Rows.uptoSmall) rfl false ⟨#[], #[.agg #[.int .u64 0, .int .u64 0, .int .u64 0, .int .u64 0, .int .u64 0, .int .u64 0, .int .u64 0, .int .u64 0, .slice none 0 0, .int .u64 0], .slice none 0 0], []⟩ 8 (by kernel_rfl) (by kernel_rfl) (by kernel_rfl)
      (x := ([.agg [.agg [.lit (.int .u64 0), .lit (.int .u64 0), .lit (.int .u64 0), .lit (.int .u64 0), .lit (.int .u64 0), .lit (.int .u64 0), .lit (.int .u64 0), .lit (.int .u64 0)], .nil, .lit (.int .u64 0)], .nil], [], [])) (by kernel_rfl) rfl (by kernel_rfl)) ?_
  intro W base args ds gs before hval hW _ hk _
  exact contract H enc W base args ds gs before hval hW hk

theorem over : Rows.sha512ResumesUptoRow.holds Try.pinned (Rows.OpenSpec.upto Rows.sha512ResumesSpec) :=
  OpenClaim.holds_of_cond 5 Try.f5 rfl rfl rfl rfl rfl rfl rfl ⟨rfl, rfl, rfl, rfl, rfl⟩ rfl rfl rfl rfl rfl (by kernel_rfl) Try.func5 (by kernel_rfl)
    (of_decide_eq_true (by kernel_rfl)) (by unfold Func.isWrapper; first | (rw [if_pos (by decide +kernel)]; kernel_rfl) | (rw [if_neg (by decide +kernel)]; exact ⟨rfl, rfl⟩))
    (fun os started H enc _ F => lifted os started H enc F)

theorem proved : Rows.Sha512ResumesUptoSaid :=
  over
end Go.Proofs.Ytepimglipelpmaa.sha512Resumes
