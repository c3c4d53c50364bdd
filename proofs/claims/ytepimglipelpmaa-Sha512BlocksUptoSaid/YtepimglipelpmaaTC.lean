/- The law Sha512Blocks, over whatever arguments: true; what was there is as it was. -/
import Derived.Test.YtepimglipelpmaaTB
import Derived.Test.YtepimglipelpmaaXV
import Derived.Test.YtepimglipelpmaaBulk
import Derived.KernelRfl
namespace Go.Proofs.Ytepimglipelpmaa.sha512Blocks
open Go Go.Proofs Go.ChangeShapes Go.WideShapes Go.ChangeAt Go.RowKit Go.Proofs.Ytepimglipelpmaa.X Go.Proofs.Ytepimglipelpmaa.R
set_option linter.unusedVariables false
set_option maxRecDepth 100000

theorem own : ownKnob Try.prog.godebug = none := by kernel_rfl

set_option maxHeartbeats 1000000 in
theorem contract (H : Type) (enc : TypeId × Value → H) (W : World) (base : Nat) (args : Array Value) (ds gs : List (DataW H)) (before : List MemPlace)
    (hval : ∀ (j : Nat) t v, Try.f4.params[j]? = some t → args[j]? = some v → Value.okWide Try.prog W .any base t v)
    (hW : DataW.Whole enc Try.prog Try.f4.params.toList Rows.sha512BlocksSpec.vars false W args.toList ds gs before) (hk : Rows.uptoSmall H (ds ++ gs) = true) :
    Calls Try.prog 4 args W fun e W' => ∃ v, e = .returned v ∧ Rows.sha512BlocksSpec.post enc Try.prog Try.f4 false true false false W args v W' := by
  have hW' := hW
  obtain ⟨p, q, hA0, hV, rfl, hfz, hnd⟩ := hW
  have hA : DataW.TrodAll enc Try.prog W 0 (fun _ => true) true Try.f4.params.toList args.toList ds p := hA0
  clear hA0
  rw [Try.params4] at hA hval
  obtain ⟨v0, vs0, d0, ds0, p0, q0, hargs, rfl, rfl, h0, r0⟩ := trodAll_cons hA
  obtain ⟨v1, vs1, d1, ds1, p1, q1, rfl, rfl, rfl, h1, r1⟩ := trodAll_cons r0
  obtain ⟨v2, vs2, d2, ds2, p2, q2, rfl, rfl, rfl, h2, r2⟩ := trodAll_cons r1
  obtain ⟨rfl, rfl, rfl⟩ := trodAll_nil r2
  obtain rfl : args = #[v0, v1, v2] := by cases args; simp_all
  obtain ⟨rfl, rfl⟩ := trodVars_none hV
  have hbd := bulks.bound hk
  obtain ⟨S, hl_S, hw_S, o0⟩ := arr_arg Try.underlying53 Try.underlying52 (by kernel_rfl) (by kernel_rfl) (hval 0 53 v0 rfl rfl) h0
  obtain ⟨n, cap1, b, hl_b, hc_b, hw_b, o1, e1⟩ := ints_arg Try.underlying22 Try.underlying5 (by kernel_rfl) (hval 1 22 v1 rfl rfl) h1
  have hn_n : n ≤ 1048576 := by
    have hb2 := bulks.part_le (d := d1) (l := [d0, d1, d2] ++ []) (by simp)
    rcases e1 with ⟨_, rfl⟩ | ⟨s, rfl⟩
    · omega
    · have hb3 := bulks.slice_le (H := H) (lits .u8 b) s
      have hb4 : (lits (H := H) .u8 b).length = n := by simp [lits, hl_b]
      omega
  obtain ⟨N, hw_N, o2⟩ := int_arg Try.underlying52 (hval 2 52 v2 rfl rfl) h2
  have ho : Opened W 0 _ _ _ := ((o0 _).app ((o1 _).app ((o2 _).app Opened.nil)))
  refine (calls_true tabOkTB Try.func4 ho fun β => ?_).mono fun e W' ⟨he, hg⟩ => ⟨_, he, post_true (by kernel_rfl) rfl rfl rfl Try.underlying4 hW' hg⟩
  have hb := bounds_u64 hw_N
  have hb2 : n < 70368744177664 := by omega
  clear hval hA hV hW' hk
  by_cases h1 : n = 128
  · by_cases h2 : N < 2305843009213693952
    · exact (blocks11_body S n n b N cap1 rfl hb2 h1 hb.1 h2 W β)
    · exact (blocks10_body S n n b N cap1 rfl hb2 h1 (by omega) W β)
  · by_cases h2 : N < 2305843009213693952
    · exact (blocks01_body S n n b N cap1 rfl hb2 h1 hb.1 h2 W β)
    · exact (blocks00_body S n n b N cap1 rfl hb2 h1 (by omega) W β)

theorem lifted (os : Os) (started : os.Started) (H : Type) (enc : TypeId × Value → H) (F : Stop.Interp) :
    ReturnsInHanded {} Try.checked os 4 .any ((Rows.OpenSpec.upto Rows.sha512BlocksSpec).pre6 enc Try.prog Try.f4 Rows.sha512BlocksUptoRow.domain false) (((Rows.OpenSpec.upto Rows.sha512BlocksSpec).at F).post enc Try.prog Try.f4 false true false false) := by
  refine returnsInHanded_of_cond (C := Try.checked) (s := Rows.OpenSpec.upto Rows.sha512BlocksSpec) (k := Rows.uptoSmall) rfl own started (by kernel_rfl) Try.func4
    (OpenSpec.witness (enc := enc) (C := Try.checked) (s := Rows.OpenSpec.upto Rows.sha512BlocksSpec) (k := Rows.uptoSmall) rfl false ⟨#[], #[.agg #[.int .u64 0, .int .u64 0, .int .u64 0, .int .u64 0, .int .u64 0, .int .u64 0, .int .u64 0, .int .u64 0], .slice none 0 0, .int .u64 0], []⟩ 8 (by kernel_rfl) (by kernel_rfl) (by kernel_rfl)
      (x := ([.agg [.lit (.int .u64 0), .lit (.int .u64 0), .lit (.int .u64 0), .lit (.int .u64 0), .lit (.int .u64 0), .lit (.int .u64 0), .lit (.int .u64 0), .lit (.int .u64 0)], .nil, .lit (.int .u64 0)], [], [])) (by kernel_rfl) rfl (by kernel_rfl)) ?_
  intro W base args ds gs before hval hW _ hk _
  exact contract H enc W base args ds gs before hval hW hk

theorem over : Rows.sha512BlocksUptoRow.holds Try.pinned (Rows.OpenSpec.upto Rows.sha512BlocksSpec) :=
  OpenClaim.holds_of_cond 4 Try.f4 rfl rfl rfl rfl rfl rfl rfl ⟨rfl, rfl, rfl, rfl, rfl⟩ rfl rfl rfl rfl rfl (by kernel_rfl) Try.func4 (by kernel_rfl)
    (of_decide_eq_true (by kernel_rfl)) (by unfold Func.isWrapper; first | (rw [if_pos (by decide +kernel)]; kernel_rfl) | (rw [if_neg (by decide +kernel)]; exact ⟨rfl, rfl⟩))
    (fun os started H enc _ F => lifted os started H enc F)

theorem proved : Rows.Sha512BlocksUptoSaid :=
  over
end Go.Proofs.Ytepimglipelpmaa.sha512Blocks
