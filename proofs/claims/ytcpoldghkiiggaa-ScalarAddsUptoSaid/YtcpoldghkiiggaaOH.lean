/- Bytes back to numbers; Sub and Compare of the reference. -/
import Derived.Test.YtcpoldghkiiggaaOG
namespace Go.Proofs.Ytcpoldghkiiggaa.X
open Go Go.Proofs
set_option linter.unusedVariables false

theorem dd2 (a : Int) {b c : Int} (h : 0 ≤ b) : a / b / c = a / (b * c) := by first | exact Int.ediv_ediv_of_nonneg h | exact Int.ediv_ediv_eq_ediv_mul a h | exact Int.ediv_ediv h
theorem bytes8 (u : Int) : u % 256 + 256 * (u / 256 % 256) + 65536 * (u / 65536 % 256) + 16777216 * (u / 16777216 % 256) + 4294967296 * (u / 4294967296 % 256) + 1099511627776 * (u / 1099511627776 % 256) + 281474976710656 * (u / 281474976710656 % 256) + 72057594037927936 * (u / 72057594037927936 % 256) = u % 18446744073709551616 := by
  have q2 : u / 65536 = u / 256 / 256 := (dd2 u (b := 256) (c := 256) (by omega)).symm
  have q3 : u / 16777216 = u / 65536 / 256 := (dd2 u (b := 65536) (c := 256) (by omega)).symm
  have q4 : u / 4294967296 = u / 16777216 / 256 := (dd2 u (b := 16777216) (c := 256) (by omega)).symm
  have q5 : u / 1099511627776 = u / 4294967296 / 256 := (dd2 u (b := 4294967296) (c := 256) (by omega)).symm
  have q6 : u / 281474976710656 = u / 1099511627776 / 256 := (dd2 u (b := 1099511627776) (c := 256) (by omega)).symm
  have q7 : u / 72057594037927936 = u / 281474976710656 / 256 := (dd2 u (b := 281474976710656) (c := 256) (by omega)).symm
  have q8 : u / 18446744073709551616 = u / 72057594037927936 / 256 := (dd2 u (b := 72057594037927936) (c := 256) (by omega)).symm
  have e : u % 18446744073709551616 = u - 18446744073709551616 * (u / 18446744073709551616) := by omega
  rw [e]
  have q1 : u = u % 256 + 256 * (u / 256) := by omega
  generalize u / 256 = z1 at *
  generalize u / 65536 = z2 at *
  generalize u / 16777216 = z3 at *
  generalize u / 4294967296 = z4 at *
  generalize u / 1099511627776 = z5 at *
  generalize u / 281474976710656 = z6 at *
  generalize u / 72057594037927936 = z7 at *
  generalize u / 18446744073709551616 = z8 at *
  omega

theorem le8_B32 (v : Int) : le8 (B32 v) 0 = v % 18446744073709551616 ∧ le8 (B32 v) 8 = v / 18446744073709551616 % 18446744073709551616 ∧ le8 (B32 v) 16 = v / 340282366920938463463374607431768211456 % 18446744073709551616 ∧ le8 (B32 v) 24 = v / 6277101735386680763835789423207666416102355444464034512896 % 18446744073709551616 := by
  refine ⟨bytes8 v, ?_, ?_, ?_⟩
  · rw [← bytes8]
    show (v / 18446744073709551616 % 256) + 256 * (v / 4722366482869645213696 % 256) + 65536 * (v / 1208925819614629174706176 % 256) + 16777216 * (v / 309485009821345068724781056 % 256) + 4294967296 * (v / 79228162514264337593543950336 % 256) + 1099511627776 * (v / 20282409603651670423947251286016 % 256) + 281474976710656 * (v / 5192296858534827628530496329220096 % 256) + 72057594037927936 * (v / 1329227995784915872903807060280344576 % 256) = _
    have d : ∀ c : Int, v / 18446744073709551616 / c = v / (18446744073709551616 * c) := fun c => dd2 v (by omega)
    simp only [d]
    rfl
  · rw [← bytes8]
    show (v / 340282366920938463463374607431768211456 % 256) + 256 * (v / 87112285931760246646623899502532662132736 % 256) + 65536 * (v / 22300745198530623141535718272648361505980416 % 256) + 16777216 * (v / 5708990770823839524233143877797980545530986496 % 256) + 4294967296 * (v / 1461501637330902918203684832716283019655932542976 % 256) + 1099511627776 * (v / 374144419156711147060143317175368453031918731001856 % 256) + 281474976710656 * (v / 95780971304118053647396689196894323976171195136475136 % 256) + 72057594037927936 * (v / 24519928653854221733733552434404946937899825954937634816 % 256) = _
    have d : ∀ c : Int, v / 340282366920938463463374607431768211456 / c = v / (340282366920938463463374607431768211456 * c) := fun c => dd2 v (by omega)
    simp only [d]
    rfl
  · rw [← bytes8]
    show (v / 6277101735386680763835789423207666416102355444464034512896 % 256) + 256 * (v / 1606938044258990275541962092341162602522202993782792835301376 % 256) + 65536 * (v / 411376139330301510538742295639337626245683966408394965837152256 % 256) + 16777216 * (v / 105312291668557186697918027683670432318895095400549111254310977536 % 256) + 4294967296 * (v / 26959946667150639794667015087019630673637144422540572481103610249216 % 256) + 1099511627776 * (v / 6901746346790563787434755862277025452451108972170386555162524223799296 % 256) + 281474976710656 * (v / 1766847064778384329583297500742918515827483896875618958121606201292619776 % 256) + 72057594037927936 * (v / 452312848583266388373324160190187140051835877600158453279131187530910662656 % 256) = _
    have d : ∀ c : Int, v / 6277101735386680763835789423207666416102355444464034512896 / c = v / (6277101735386680763835789423207666416102355444464034512896 * c) := fun c => dd2 v (by omega)
    simp only [d]
    rfl
theorem BV_B32 {v : Int} (h0 : 0 ≤ v) (h1 : v < 115792089237316195423570985008687907853269984665640564039457584007913129639936) : BV (B32 v) = v := by
  obtain ⟨e0, e1, e2, e3⟩ := le8_B32 v
  unfold BV
  rw [e0, e1, e2, e3]
  omega
theorem BV_modL (v : Int) : BV (B32 (modL v)) = modL v := BV_B32 (modL_rng v).1 (modL_rng v).2.2
theorem modL_addr (x y : Int) : modL (x + modL y) = modL (x + y) := by rw [Int.add_comm, modL_addl, Int.add_comm]

theorem subR_eq (a b : List Int) : subR_ a b = B32 (modL (BV a - BV b)) := by
  unfold subR_
  rw [BV_modL, modL_addr]; rfl

theorem cmpR_can (a b : List Int) (h0 : Byt a) (h1 : Byt b) (w : World) : Body Try.prog (tabOf tabOG) Try.f39 ⟨w, [], 0, noEnv⟩ (toA [.g [.ints .u8 (32 : Nat) a], .g [.ints .u8 (32 : Nat) b]]) [] (fun ys _ => ys = [.a (.i .i64 (cmpV (modL (BV a)) (modL (BV b))))]) :=
  Body.lens (c := (Try.f39.body.getD .skip)) rfl fun h => by
    have la := h.vals 0 _ _ _ rfl
    have lb := h.vals 1 _ _ _ rfl
    by_cases hc : V8 (W8 (modL (BV a))) < V8 (W8 (modL (BV b)))
    · refine (cmrA_body0 a b h0 h1 la lb hc w).mono fun xs K hx => ?_
      subst hx
      rw [V8_modL, V8_modL] at hc
      have e2 : cmpV (modL (BV a)) (modL (BV b)) = -1 := by unfold cmpV; rw [if_neg (by omega), if_pos hc]
      rw [e2]
    · by_cases hd : W8 (modL (BV a)) = W8 (modL (BV b))
      · refine (cmrB_body0 a b h0 h1 la lb hc hd w).mono fun xs K hx => ?_
        subst hx
        have e : modL (BV a) = modL (BV b) := by rw [← V8_modL (BV a), hd, V8_modL]
        have e2 : cmpV (modL (BV a)) (modL (BV b)) = 0 := by unfold cmpV; rw [if_pos e]
        rw [e2]
      · refine (cmrC_body0 a b h0 h1 la lb hc hd w).mono fun xs K hx => ?_
        subst hx
        have hne : modL (BV a) ≠ modL (BV b) := fun e => hd (by rw [e])
        rw [V8_modL, V8_modL] at hc
        have e2 : cmpV (modL (BV a)) (modL (BV b)) = 1 := by unfold cmpV; rw [if_neg hne, if_neg hc]
        rw [e2]
end Go.Proofs.Ytcpoldghkiiggaa.X
