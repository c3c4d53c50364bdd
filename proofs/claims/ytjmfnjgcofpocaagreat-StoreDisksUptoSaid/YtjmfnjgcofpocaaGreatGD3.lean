/- Texts of this session, put together (part 3), less what nothing uses. -/
import Derived.Test.YtjmfnjgcofpocaaGreatGD2
import Derived.KernelRfl
import Derived.Laws.Externs
/- Printed by a tool of this session. -/
namespace Go.Proofs.YtjmfnjgcofpocaaGreat.X
open Go Go.Proofs
set_option linter.unusedVariables false
set_option linter.unusedSimpArgs false
set_option maxRecDepth 100000
set_option maxHeartbeats 8000000
theorem teDA_3 : TEOk Tryz.prog 3 ⟨.int .i64, 1, 8, [.i .i64 (0 : Int)], false⟩ :=
 TEOk.of Tryz.underlying3 (i := Tryz.t3) (by kernel_rfl) rfl rfl rfl (by kernel_rfl) (fun h => by cases h) (by kernel_rfl) (by kernel_rfl)
theorem teDA_4 : TEOk Tryz.prog 4 ⟨.bool, 1, 1, [.b false], false⟩ :=
 TEOk.of Tryz.underlying4 (i := Tryz.t4) (by kernel_rfl) rfl rfl rfl (by kernel_rfl) (fun h => by cases h) (by kernel_rfl) (by kernel_rfl)
theorem teDA_5 : TEOk Tryz.prog 5 ⟨.int .u8, 1, 1, [.i .u8 (0 : Int)], false⟩ :=
 TEOk.of Tryz.underlying5 (i := Tryz.t5) (by kernel_rfl) rfl rfl rfl (by kernel_rfl) (fun h => by cases h) (by kernel_rfl) (by kernel_rfl)
theorem teDA_23 : TEOk Tryz.prog 23 ⟨.pointer 86, 1, 8, [.raw (.pointer none)], false⟩ :=
 TEOk.of Tryz.underlying23 (i := Tryz.t23) (by kernel_rfl) rfl rfl rfl (by kernel_rfl) (fun h => by cases h) (by kernel_rfl) (by kernel_rfl)
theorem teDA_26 : TEOk Tryz.prog 26 ⟨.slice 5, 1, 24, [.raw (.slice none 0 0)], false⟩ :=
 TEOk.of Tryz.underlying26 (i := Tryz.t26) (by kernel_rfl) rfl rfl rfl (by kernel_rfl) (fun h => by cases h) (by kernel_rfl) (by kernel_rfl)
theorem teDA_28 : TEOk Tryz.prog 28 ⟨Tryz.t27.desc, 5, 56, [.raw (.slice none 0 0), .i .i64 (0 : Int), .b false, .i .i64 (0 : Int), .b false], false⟩ :=
 TEOk.of Tryz.underlying28 (i := Tryz.t28) (by kernel_rfl) rfl rfl rfl (by kernel_rfl) (fun h => by cases h) (by kernel_rfl) (by kernel_rfl)
theorem teDA_86 : TEOk Tryz.prog 86 ⟨Tryz.t85.desc, 5, 48, [.raw (.slice none 0 0), .ints .i64 2 ([0, 0] : List Int), .b false, .b false], false⟩ :=
 TEOk.of Tryz.underlying86 (i := Tryz.t86) (by kernel_rfl) rfl rfl rfl (by kernel_rfl) (fun h => by cases h) (by kernel_rfl) (by kernel_rfl)
noncomputable def tabDA : List (Nat × TE) := [(3, ⟨.int .i64, 1, 8, [.i .i64 0], false⟩), (4, ⟨.bool, 1, 1, [.b false], false⟩), (5, ⟨.int .u8, 1, 1, [.i .u8 0], false⟩), (23, ⟨.pointer 86, 1, 8, [.raw (.pointer none)], false⟩), (26, ⟨.slice 5, 1, 24, [nlA], false⟩), (28, ⟨Tryz.t27.desc, 5, 56, [nlA, .i .i64 0, .b false, .i .i64 0, .b false], false⟩), (86, ⟨Tryz.t85.desc, 5, 48, [nlA, .ints .i64 2 ([0, 0] : List Int), .b false, .b false], false⟩)]
theorem tabOkDA : TabOk Tryz.prog (tabOf tabDA) := (tabOf_cons teDA_3 (tabOf_cons teDA_4 (tabOf_cons teDA_5 (tabOf_cons teDA_23 (tabOf_cons teDA_26 (tabOf_cons teDA_28 (tabOf_cons teDA_86 tabOf_nil)))))))

def dkE (fu : Int) (off : Bool) : Int := cond off 134 (if fu = 0 then 134 else 0)
def dkF (fu : Int) (off : Bool) : Int := cond off fu (if 0 < fu then fu - 1 else fu)
def dkO (fu : Int) (off : Bool) : Bool := cond off true (decide (fu = 0))
theorem dk_a (fu : Int) : dkE fu true = 134 ∧ dkF fu true = fu ∧ dkO fu true = true := ⟨rfl, rfl, rfl⟩
theorem dk_b : dkE 0 false = 134 ∧ dkF 0 false = 0 ∧ dkO 0 false = true := ⟨rfl, rfl, rfl⟩
theorem dk_c {fu : Int} (h : 0 < fu) : dkE fu false = 0 ∧ dkF fu false = fu - 1 ∧ dkO fu false = false :=
 ⟨if_neg (by omega), if_pos h, decide_eq_false (by omega)⟩
theorem dk_d {fu : Int} (h : fu < 0) : dkE fu false = 0 ∧ dkF fu false = fu ∧ dkO fu false = false :=
 ⟨if_neg (by omega), if_neg (by omega), decide_eq_false (by omega)⟩
def apN (fu : Int) (off : Bool) (n q : Nat) : Nat := if dkE fu off = 0 then n + q else n
def apL (fu : Int) (off : Bool) (l b : List Int) : List Int := if dkE fu off = 0 then l ++ b else l
def syS (fu : Int) (off : Bool) (s : Int) (n : Nat) : Int := if dkE fu off = 0 then (n : Int) else s
def rpN (fu : Int) (off : Bool) (n q : Nat) : Nat := if dkE fu off = 0 then q else n
def rpL (fu : Int) (off : Bool) (l b : List Int) : List Int := if dkE fu off = 0 then b else l
def crI (s k : Int) (n : Nat) : Int := s + (if k < 0 then 0 else if (n : Int) - s < k then (n : Int) - s else k)
theorem crI_rng {s : Int} (k : Int) {n : Nat} (h0 : 0 ≤ s) (h1 : s ≤ (n : Int)) : s ≤ crI s k n ∧ crI s k n ≤ (n : Int) := by
 unfold crI; split
 ·omega
 ·split <;> omega
def crN (s k : Int) (n : Nat) : Nat := (crI s k n).toNat
def crL (s k : Int) (n : Nat) (l : List Int) : List Int := sub l 0 (crN s k n)
theorem crI_eq {s : Int} (k : Int) {n : Nat} (h2 : n < 70368744177664) (h0 : 0 ≤ s) (h1 : s ≤ (n : Int)) :
  IntKind.i64.wrap (s + (if IntKind.i64.wrap ((n : Int) - s) < (if (0 : Int) > k then (0 : Int) else k) then IntKind.i64.wrap ((n : Int) - s) else (if (0 : Int) > k then (0 : Int) else k))) = crI s k n := by
 rw [wrapI (x := (n : Int) - s) (by omega) (by omega)]
 have : s + (if (n : Int) - s < (if (0 : Int) > k then (0 : Int) else k) then (n : Int) - s else (if (0 : Int) > k then (0 : Int) else k)) = crI s k n := by
  unfold crI
  by_cases hk : k < 0
  ·simp only [hk, gt_iff_lt, if_true]; split <;> omega
  ·simp only [hk, gt_iff_lt, if_false]
 rw [this]
 have := crI_rng k h0 h1
 exact wrapI (by omega) (by omega)
theorem ssub_all {α : Type} (L : List α) {n : Nat} (h : L.length = n) : sub L 0 n = L := by
 unfold sub; rw [List.drop_zero]; exact List.take_of_length_le (by omega)
theorem dkE_two (fu : Int) (off : Bool) : dkE fu off = 0 ∨ dkE fu off = 134 := by
 unfold dkE; cases off
 ·rw [cond_false]; split <;> simp
 ·exact .inr rfl
theorem spl_whole {l y : List Int} {n : Nat} (hl : l.length = n) (hy : y.length = n) : splice l 0 n y = y := by
 unfold splice
 rw [Nat.zero_add, List.take_zero, List.drop_of_length_le (by omega), List.append_nil, List.nil_append]
def rkG (fsd : Bool) (rf : Int) (off : Bool) : Bool := cond off false (cond fsd (if rf = 0 then false else true) true)
def rkF (fsd : Bool) (rf : Int) (off : Bool) : Int := cond off rf (cond fsd (if rf = 0 then rf else IntKind.i64.wrap (rf - 1)) rf)
def rkO (fsd : Bool) (rf : Int) (off : Bool) : Bool := cond off true (cond fsd (if rf = 0 then true else false) false)
theorem rk_a (fsd : Bool) (rf : Int) : rkG fsd rf true = false ∧ rkF fsd rf true = rf ∧ rkO fsd rf true = true := ⟨rfl, rfl, rfl⟩
theorem rk_b : rkG true 0 false = false ∧ rkF true 0 false = 0 ∧ rkO true 0 false = true := ⟨rfl, rfl, rfl⟩
theorem rk_c {rf : Int} (h : rf ≠ 0) : rkG true rf false = true ∧ rkF true rf false = IntKind.i64.wrap (rf - 1) ∧ rkO true rf false = false :=
 ⟨if_neg h, if_neg h, if_neg h⟩
theorem rk_d (rf : Int) : rkG false rf false = true ∧ rkF false rf false = rf ∧ rkO false rf false = false := ⟨rfl, rfl, rfl⟩
def raE (fsd : Bool) (rf : Int) (off : Bool) : Int := cond (rkG fsd rf off) 0 134
def raN (fsd : Bool) (rf : Int) (off : Bool) (n q : Nat) : Nat := cond (rkG fsd rf off) (n + q) n
def raL (fsd : Bool) (rf : Int) (off : Bool) (l b : List Int) : List Int := cond (rkG fsd rf off) (l ++ b) l
def rsS (fsd : Bool) (rf : Int) (off : Bool) (s : Int) (n : Nat) : Int := cond (rkG fsd rf off) (n : Int) s
def rpNR (fsd : Bool) (rf : Int) (off : Bool) (n q : Nat) : Nat := cond (rkG fsd rf off) q n
def rpLR (fsd : Bool) (rf : Int) (off : Bool) (l b : List Int) : List Int := cond (rkG fsd rf off) b l
theorem dIs_body0 (n : Nat) (s fu : Int) (off : Bool) (l : List Int) (hl0_1 : List.length ([s, fu] : List Int) = 2) (hl1_0 : l.length = n) (w : World) (rw : List Nat) (β : Env) : Body Tryz.prog (tabOf tabDA) Tryz.f33 ⟨w, rw, 2, β⟩ [.o (.a (.p 0 0))] [bT [.rs 1 0 n 1, .ints .i64 2 ([s, fu] : List Int), .b off, .b true], bT [.ints .u8 n l]] (fun ys K' => ys = [.a (.b true)] ∧ K' = [bT [.rs 1 0 n 1, .ints .i64 2 ([s, fu] : List Int), .b off, .b true], bT [.ints .u8 n l]]) :=
 Body.of_finK (Γ := gnil) (Λ := noLam) (Ψ := noPsi) (fuel := 0) (m := 11) (c := (Tryz.f33.body.getD .skip)) mix tabOkDA gnil_ok rfl (rs := [.tmp 2]) rfl rfl [true, true, true, true, true] [] 2
  (vc := [(true = true), (true = true), (true = true), (true = true), (true = true)]) (by kernel_rfl)
  (aC rfl (aC rfl (aC rfl (aC rfl (aC rfl (AllP_nil))))))

theorem dIs_body (n : Nat) (s fu : Int) (off : Bool) (l : List Int) (w : World) (rw : List Nat) (β : Env) : Body Tryz.prog (tabOf tabDA) Tryz.f33 ⟨w, rw, 2, β⟩ [.o (.a (.p 0 0))] [bT [.rs 1 0 n 1, .ints .i64 2 ([s, fu] : List Int), .b off, .b true], bT [.ints .u8 n l]] (fun ys K' => ys = [.a (.b true)] ∧ K' = [bT [.rs 1 0 n 1, .ints .i64 2 ([s, fu] : List Int), .b off, .b true], bT [.ints .u8 n l]]) :=
 Body.lens (c := (Tryz.f33.body.getD .skip)) rfl fun h => dIs_body0 n s fu off l (h.lens 0 _ .i64 2 ([s, fu] : List Int) rfl (by simp)) (h.lens 1 _ .u8 n l rfl (by simp)) w rw β

def gam401 : Gam := gcall 33 [true, true] [.w] (fun wk vs args => match wk, vs, args with | [⟨true, [.rs 1 0 n 1, .ints .i64 2 ([s, fu] : List Int), .b off, .b true]⟩, ⟨true, [.ints .u8 n_1 l]⟩], [], [.o (.a (.p 0 0))] => some ((n_1 = n), [.a (.b true)], [bT [.rs 1 0 n 1, .ints .i64 2 ([s, fu] : List Int), .b off, .b true], bT [.ints .u8 n l]]) | _, _, _ => none) gnil
theorem gam401_ok : GamOk Tryz.prog gam401 := gcall_ok tabOkDA Tryz.func33 gnil_ok Tryz.call33 (by
 intro wk vs args p xs K1 h hv
 split at h
 ·simp only [Option.some.injEq, Prod.mk.injEq] at h; obtain ⟨rfl, rfl, rfl⟩ := h; have g0 := hv; subst g0; exact fun caps w rw β => dIs_body _ _ _ _ _ w rw β
 ·simp at h)

theorem stA_body0 (n : Nat) (s fu : Int) (off : Bool) (l : List Int) (h0 : (fu < (9223372036854775808 : Int))) (h1 : ((-1 : Int) ≤ fu)) (hl0_1 : List.length ([s, fu] : List Int) = 2) (hl1_0 : l.length = n) (ho : off = true) (w : World) (rw : List Nat) (β : Env) : Body Tryz.prog (tabOf tabDA) Tryz.f34 ⟨w, rw, 2, β⟩ [.o (.a (.p 0 0))] [bT [.rs 1 0 n 1, .ints .i64 2 ([s, fu] : List Int), .b off, .b true], bT [.ints .u8 n l]] (fun ys K' => ys = [.a (.i .i64 (dkE fu off))] ∧ K' = [bT [.rs 1 0 n 1, .ints .i64 2 ([s, (dkF fu off)] : List Int), .b (dkO fu off), .b true], bT [.ints .u8 n l]]) :=
 Body.of_finK (Γ := gam401) (Λ := noLam) (Ψ := noPsi) (fuel := 0) (m := 34) (c := (Tryz.f34.body.getD .skip)) mix tabOkDA gam401_ok rfl (rs := [.tmp 2]) rfl rfl [false, true] [.eqS 2 (.o (.a (.i .i64 (dkE fu off)))), .eqB 0 (⟨true, [.rs 1 0 n 1, .ints .i64 2 ([s, (dkF fu off)] : List Int), .b (dkO fu off), .b true]⟩)] 2
  (vc := [((bT [.rs 1 0 n 1, .ints .i64 2 ([s, fu] : List Int), .b off, .b true] : Option Blk) = bT [.rs 1 0 n 1, .ints .i64 2 ([s, (dkF fu off)] : List Int), .b (dkO fu off), .b true]), ((.o (.a (.i .i64 134)) : AV) = .o (.a (.i .i64 (dkE fu off)))), (off = true), (false = false), ((True ∧ True) ∧ (n = n))]) (by kernel_rfl)
  (aC ((by subst ho; rw [(dk_a _).2.1, (dk_a _).2.2])) (aC ((by subst ho; rw [(dk_a _).1])) (aC ho (aC rfl (aC ⟨⟨trivial, trivial⟩, rfl⟩ (AllP_nil))))))

theorem stB_body0 (n : Nat) (s fu : Int) (off : Bool) (l : List Int) (h0 : (fu < (9223372036854775808 : Int))) (h1 : ((-1 : Int) ≤ fu)) (hl0_1 : List.length ([s, fu] : List Int) = 2) (hl1_0 : l.length = n) (ho : off = false) (hf : fu = 0) (w : World) (rw : List Nat) (β : Env) : Body Tryz.prog (tabOf tabDA) Tryz.f34 ⟨w, rw, 2, β⟩ [.o (.a (.p 0 0))] [bT [.rs 1 0 n 1, .ints .i64 2 ([s, fu] : List Int), .b off, .b true], bT [.ints .u8 n l]] (fun ys K' => ys = [.a (.i .i64 (dkE fu off))] ∧ K' = [bT [.rs 1 0 n 1, .ints .i64 2 ([s, (dkF fu off)] : List Int), .b (dkO fu off), .b true], bT [.ints .u8 n l]]) :=
 Body.of_finK (Γ := gam401) (Λ := noLam) (Ψ := noPsi) (fuel := 0) (m := 34) (c := (Tryz.f34.body.getD .skip)) mix tabOkDA gam401_ok rfl (rs := [.tmp 2]) rfl rfl [false, false, true] [.eqS 2 (.o (.a (.i .i64 (dkE fu off)))), .eqB 0 (⟨true, [.rs 1 0 n 1, .ints .i64 2 ([s, (dkF fu off)] : List Int), .b (dkO fu off), .b true]⟩)] 2
  (vc := [((bT [.rs 1 0 n 1, .ints .i64 2 ([s, fu] : List Int), .b true, .b true] : Option Blk) = bT [.rs 1 0 n 1, .ints .i64 2 ([s, (dkF fu off)] : List Int), .b (dkO fu off), .b true]), ((.o (.a (.i .i64 134)) : AV) = .o (.a (.i .i64 (dkE fu off)))), ((fu == (0 : Int)) = true), (off = false), (false = false), ((True ∧ True) ∧ (n = n))]) (by kernel_rfl)
  (aC ((by subst ho; subst hf; rw [(dk_b).2.1, (dk_b).2.2])) (aC ((by subst ho; subst hf; rw [(dk_b).1])) (aC (beq_iff_eq.2 (by first | omega | (simp (disch := omega) only [wrapI]; omega))) (aC ho (aC rfl (aC ⟨⟨trivial, trivial⟩, rfl⟩ (AllP_nil)))))))

theorem stC_body0 (n : Nat) (s fu : Int) (off : Bool) (l : List Int) (h0 : (fu < (9223372036854775808 : Int))) (h1 : ((-1 : Int) ≤ fu)) (hl0_1 : List.length ([s, fu] : List Int) = 2) (hl1_0 : l.length = n) (ho : off = false) (hf : 0 < fu) (w : World) (rw : List Nat) (β : Env) : Body Tryz.prog (tabOf tabDA) Tryz.f34 ⟨w, rw, 2, β⟩ [.o (.a (.p 0 0))] [bT [.rs 1 0 n 1, .ints .i64 2 ([s, fu] : List Int), .b off, .b true], bT [.ints .u8 n l]] (fun ys K' => ys = [.a (.i .i64 (dkE fu off))] ∧ K' = [bT [.rs 1 0 n 1, .ints .i64 2 ([s, (dkF fu off)] : List Int), .b (dkO fu off), .b true], bT [.ints .u8 n l]]) :=
 Body.of_finK (Γ := gam401) (Λ := noLam) (Ψ := noPsi) (fuel := 0) (m := 34) (c := (Tryz.f34.body.getD .skip)) mix tabOkDA gam401_ok rfl (rs := [.tmp 2]) rfl rfl [false, false, false, true] [.eqS 2 (.o (.a (.i .i64 (dkE fu off)))), .eqB 0 (⟨true, [.rs 1 0 n 1, .ints .i64 2 ([s, (dkF fu off)] : List Int), .b (dkO fu off), .b true]⟩)] 2
  (vc := [((bT [.rs 1 0 n 1, .ints .i64 2 ([s, (IntKind.i64.wrap (fu - (1 : Int)))] : List Int), .b off, .b true] : Option Blk) = bT [.rs 1 0 n 1, .ints .i64 2 ([s, (dkF fu off)] : List Int), .b (dkO fu off), .b true]), ((.o (.a (.i .i64 0)) : AV) = .o (.a (.i .i64 (dkE fu off)))), ((decide (fu > (0 : Int))) = true), ((fu == (0 : Int)) = false), (off = false), (false = false), ((True ∧ True) ∧ (n = n))]) (by kernel_rfl)
  (aC ((by subst ho; rw [(dk_c hf).2.1, (dk_c hf).2.2, wrapI (by omega) (by omega)])) (aC ((by subst ho; rw [(dk_c hf).1])) (aC (dt (by first|omega|(simp (disch:=omega) only [wrapI];omega))) (aC (beq_eq_false_iff_ne.2 (by first|omega|(simp (disch:=omega) only [wrapI];omega))) (aC ho (aC rfl (aC ⟨⟨trivial, trivial⟩, rfl⟩ (AllP_nil))))))))

theorem stD_body0 (n : Nat) (s fu : Int) (off : Bool) (l : List Int) (h0 : (fu < (9223372036854775808 : Int))) (h1 : ((-1 : Int) ≤ fu)) (hl0_1 : List.length ([s, fu] : List Int) = 2) (hl1_0 : l.length = n) (ho : off = false) (hf : fu < 0) (w : World) (rw : List Nat) (β : Env) : Body Tryz.prog (tabOf tabDA) Tryz.f34 ⟨w, rw, 2, β⟩ [.o (.a (.p 0 0))] [bT [.rs 1 0 n 1, .ints .i64 2 ([s, fu] : List Int), .b off, .b true], bT [.ints .u8 n l]] (fun ys K' => ys = [.a (.i .i64 (dkE fu off))] ∧ K' = [bT [.rs 1 0 n 1, .ints .i64 2 ([s, (dkF fu off)] : List Int), .b (dkO fu off), .b true], bT [.ints .u8 n l]]) :=
 Body.of_finK (Γ := gam401) (Λ := noLam) (Ψ := noPsi) (fuel := 0) (m := 34) (c := (Tryz.f34.body.getD .skip)) mix tabOkDA gam401_ok rfl (rs := [.tmp 2]) rfl rfl [false, false, false, false] [.eqS 2 (.o (.a (.i .i64 (dkE fu off)))), .eqB 0 (⟨true, [.rs 1 0 n 1, .ints .i64 2 ([s, (dkF fu off)] : List Int), .b (dkO fu off), .b true]⟩)] 2
  (vc := [((bT [.rs 1 0 n 1, .ints .i64 2 ([s, fu] : List Int), .b off, .b true] : Option Blk) = bT [.rs 1 0 n 1, .ints .i64 2 ([s, (dkF fu off)] : List Int), .b (dkO fu off), .b true]), ((.o (.a (.i .i64 0)) : AV) = .o (.a (.i .i64 (dkE fu off)))), ((decide (fu > (0 : Int))) = false), ((fu == (0 : Int)) = false), (off = false), (false = false), ((True ∧ True) ∧ (n = n))]) (by kernel_rfl)
  (aC ((by subst ho; rw [(dk_d hf).2.1, (dk_d hf).2.2])) (aC ((by subst ho; rw [(dk_d hf).1])) (aC (df (by first|omega|(simp (disch:=omega) only [wrapI];omega))) (aC (beq_eq_false_iff_ne.2 (by first|omega|(simp (disch:=omega) only [wrapI];omega))) (aC ho (aC rfl (aC ⟨⟨trivial, trivial⟩, rfl⟩ (AllP_nil))))))))

theorem dStep_body (n : Nat) (s fu : Int) (off : Bool) (l : List Int) (h0 : (fu < (9223372036854775808 : Int))) (h1 : ((-1 : Int) ≤ fu)) (w : World) (rw : List Nat) (β : Env) : Body Tryz.prog (tabOf tabDA) Tryz.f34 ⟨w, rw, 2, β⟩ [.o (.a (.p 0 0))] [bT [.rs 1 0 n 1, .ints .i64 2 ([s, fu] : List Int), .b off, .b true], bT [.ints .u8 n l]] (fun ys K' => ys = [.a (.i .i64 (dkE fu off))] ∧ K' = [bT [.rs 1 0 n 1, .ints .i64 2 ([s, (dkF fu off)] : List Int), .b (dkO fu off), .b true], bT [.ints .u8 n l]]) :=
 Body.lens (c := (Tryz.f34.body.getD .skip)) rfl fun h => by
 rcases Bool.eq_false_or_eq_true off with ho | ho
 ·exact stA_body0 n s fu off l h0 h1 (h.lens 0 _ .i64 2 ([s, fu] : List Int) rfl (by simp)) (h.lens 1 _ .u8 n l rfl (by simp)) ho w rw β
 ·rcases Int.lt_trichotomy fu 0 with hf | hf | hf
  ·exact stD_body0 n s fu off l h0 h1 (h.lens 0 _ .i64 2 ([s, fu] : List Int) rfl (by simp)) (h.lens 1 _ .u8 n l rfl (by simp)) ho hf w rw β
  ·exact stB_body0 n s fu off l h0 h1 (h.lens 0 _ .i64 2 ([s, fu] : List Int) rfl (by simp)) (h.lens 1 _ .u8 n l rfl (by simp)) ho hf w rw β
  ·exact stC_body0 n s fu off l h0 h1 (h.lens 0 _ .i64 2 ([s, fu] : List Int) rfl (by simp)) (h.lens 1 _ .u8 n l rfl (by simp)) ho hf w rw β

def gam402 : Gam := gcall 34 [true, true] [.w] (fun wk vs args => match wk, vs, args with | [⟨true, [.rs 1 0 n 1, .ints .i64 2 ([s, fu] : List Int), .b off, .b true]⟩, ⟨true, [.ints .u8 n_1 l]⟩], [], [.o (.a (.p 0 0))] => some ((n_1 = n) ∧ (fu < (9223372036854775808 : Int)) ∧ ((-1 : Int) ≤ fu), [.a (.i .i64 (dkE fu off))], [bT [.rs 1 0 n 1, .ints .i64 2 ([s, (dkF fu off)] : List Int), .b (dkO fu off), .b true], bT [.ints .u8 n l]]) | _, _, _ => none) gam401
theorem gam402_ok : GamOk Tryz.prog gam402 := gcall_ok tabOkDA Tryz.func34 gam401_ok Tryz.call34 (by
 intro wk vs args p xs K1 h hv
 split at h
 ·simp only [Option.some.injEq, Prod.mk.injEq] at h; obtain ⟨rfl, rfl, rfl⟩ := h; obtain ⟨g0, g1, g2⟩ := hv; subst g0; exact fun caps w rw β => dStep_body _ _ _ _ _ g1 g2 w rw β
 ·simp at h)

theorem apO_body0 (n : Nat) (s fu : Int) (off : Bool) (l : List Int) (q qm : Nat) (b : List Int) (cap2 : Nat) (h0 : (qm = q)) (h1 : (fu < (9223372036854775808 : Int))) (h2 : ((-1 : Int) ≤ fu)) (h3 : (n < 70368744177664)) (h4 : (q < 70368744177664)) (hc2 : q ≤ cap2) (hl0_1 : List.length ([s, fu] : List Int) = 2) (hl1_0 : l.length = n) (hl2_0 : b.length = qm) (he : dkE fu off = 0) (w : World) (rw : List Nat) (β : Env) : Body Tryz.prog (tabOf tabDA) Tryz.f10 ⟨w, rw, 3, β⟩ [.o (.a (.p 0 0)), .o (.a (.sl 2 0 q cap2))] [bT [.rs 1 0 n 1, .ints .i64 2 ([s, fu] : List Int), .b off, .b true], bT [.ints .u8 n l], bF [.ints .u8 qm b]] (fun ys K' => ys = [.a (.i .i64 (dkE fu off))] ∧ K' = [bT [.rs 3 0 (apN fu off n q) 1, .ints .i64 2 ([s, (dkF fu off)] : List Int), .b (dkO fu off), .b true], none, bF [.ints .u8 qm b], bT [.ints .u8 (apN fu off n q) (apL fu off l b)]]) :=
 Body.of_finK (Γ := gam402) (Λ := noLam) (Ψ := noPsi) (fuel := 0) (m := 20) (c := (Tryz.f10.body.getD .skip)) mix tabOkDA gam402_ok rfl (rs := [.tmp 4]) rfl rfl [true, false] [.eqB 0 (⟨true, [.rs 3 0 (apN fu off n q) 1, .ints .i64 2 ([s, (dkF fu off)] : List Int), .b (dkO fu off), .b true]⟩), .eqB 3 (⟨true, [.ints .u8 (apN fu off n q) (apL fu off l b)]⟩)] 4
  (vc := [((bT [.ints .u8 (n + q) ((sub l 0 n) ++ (sub b 0 q))] : Option Blk) = bT [.ints .u8 (apN fu off n q) (apL fu off l b)]), ((bT [.rs 3 0 (n + q) 1, .ints .i64 2 ([s, (dkF fu off)] : List Int), .b (dkO fu off), .b true] : Option Blk) = bT [.rs 3 0 (apN fu off n q) 1, .ints .i64 2 ([s, (dkF fu off)] : List Int), .b (dkO fu off), .b true]), (((0 + n) ≤ n) ∧ ((q ≤ q) ∧ ((0 + q) ≤ qm)) ∧ (((n + q) * 1) ≤ 140737488355328)), (((dkE fu off) == (0 : Int)) = true), ((True ∧ True) ∧ ((n = n) ∧ (fu < (9223372036854775808 : Int)) ∧ ((-1 : Int) ≤ fu)))]) (by kernel_rfl)
  (aC ((by unfold apN apL; rw [if_pos he, if_pos he, ssub_all l hl1_0, ssub_all b (hl2_0.trans h0)])) (aC ((by unfold apN; rw [if_pos he])) (aC ⟨(by first|omega|(simp (disch:=omega) only [wrapI];omega)), ⟨(by first|omega|(simp (disch:=omega) only [wrapI];omega)), (by first|omega|(simp (disch:=omega) only [wrapI];omega))⟩, (by first|omega|(simp (disch:=omega) only [wrapI];omega))⟩ (aC (beq_iff_eq.2 he) (aC ⟨⟨trivial, trivial⟩, ⟨rfl, h1, h2⟩⟩ (AllP_nil))))))

theorem apX_body0 (n : Nat) (s fu : Int) (off : Bool) (l : List Int) (q qm : Nat) (b : List Int) (cap2 : Nat) (h0 : (qm = q)) (h1 : (fu < (9223372036854775808 : Int))) (h2 : ((-1 : Int) ≤ fu)) (h3 : (n < 70368744177664)) (h4 : (q < 70368744177664)) (hc2 : q ≤ cap2) (hl0_1 : List.length ([s, fu] : List Int) = 2) (hl1_0 : l.length = n) (hl2_0 : b.length = qm) (he : dkE fu off ≠ 0) (w : World) (rw : List Nat) (β : Env) : Body Tryz.prog (tabOf tabDA) Tryz.f10 ⟨w, rw, 3, β⟩ [.o (.a (.p 0 0)), .o (.a (.sl 2 0 q cap2))] [bT [.rs 1 0 n 1, .ints .i64 2 ([s, fu] : List Int), .b off, .b true], bT [.ints .u8 n l], bF [.ints .u8 qm b]] (fun ys K' => ys = [.a (.i .i64 (dkE fu off))] ∧ K' = [bT [.rs 3 0 (apN fu off n q) 1, .ints .i64 2 ([s, (dkF fu off)] : List Int), .b (dkO fu off), .b true], none, bF [.ints .u8 qm b], bT [.ints .u8 (apN fu off n q) (apL fu off l b)]]) :=
 Body.of_finK (Γ := gam402) (Λ := noLam) (Ψ := noPsi) (fuel := 0) (m := 20) (c := (Tryz.f10.body.getD .skip)) mix tabOkDA gam402_ok rfl (rs := [.tmp 4]) rfl rfl [false] [.fresh 1, .eqB 0 (⟨true, [.rs 3 0 (apN fu off n q) 1, .ints .i64 2 ([s, (dkF fu off)] : List Int), .b (dkO fu off), .b true]⟩), .eqB 3 (⟨true, [.ints .u8 (apN fu off n q) (apL fu off l b)]⟩)] 4
  (vc := [((bT [.ints .u8 n l] : Option Blk) = bT [.ints .u8 (apN fu off n q) (apL fu off l b)]), ((bT [.rs 3 0 n 1, .ints .i64 2 ([s, (dkF fu off)] : List Int), .b (dkO fu off), .b true] : Option Blk) = bT [.rs 3 0 (apN fu off n q) 1, .ints .i64 2 ([s, (dkF fu off)] : List Int), .b (dkO fu off), .b true]), (((dkE fu off) == (0 : Int)) = false), ((True ∧ True) ∧ ((n = n) ∧ (fu < (9223372036854775808 : Int)) ∧ ((-1 : Int) ≤ fu)))]) (by kernel_rfl)
  (aC ((by unfold apN apL; rw [if_neg he, if_neg he])) (aC ((by unfold apN; rw [if_neg he])) (aC (beq_eq_false_iff_ne.2 he) (aC ⟨⟨trivial, trivial⟩, ⟨rfl, h1, h2⟩⟩ (AllP_nil)))))

theorem dApp_body (n : Nat) (s fu : Int) (off : Bool) (l : List Int) (q qm : Nat) (b : List Int) (cap2 : Nat) (h0 : (qm = q)) (h1 : (fu < (9223372036854775808 : Int))) (h2 : ((-1 : Int) ≤ fu)) (h3 : (n < 70368744177664)) (h4 : (q < 70368744177664)) (w : World) (rw : List Nat) (β : Env) : Body Tryz.prog (tabOf tabDA) Tryz.f10 ⟨w, rw, 3, β⟩ [.o (.a (.p 0 0)), .o (.a (.sl 2 0 q cap2))] [bT [.rs 1 0 n 1, .ints .i64 2 ([s, fu] : List Int), .b off, .b true], bT [.ints .u8 n l], bF [.ints .u8 qm b]] (fun ys K' => ys = [.a (.i .i64 (dkE fu off))] ∧ K' = [bT [.rs 3 0 (apN fu off n q) 1, .ints .i64 2 ([s, (dkF fu off)] : List Int), .b (dkO fu off), .b true], none, bF [.ints .u8 qm b], bT [.ints .u8 (apN fu off n q) (apL fu off l b)]]) :=
 Body.lens (c := (Tryz.f10.body.getD .skip)) rfl fun h => by
 by_cases he : dkE fu off = 0
 ·exact apO_body0 n s fu off l q qm b cap2 h0 h1 h2 h3 h4 (h.caps 1 _ _ _ _ rfl) (h.lens 0 _ .i64 2 ([s, fu] : List Int) rfl (by simp)) (h.lens 1 _ .u8 n l rfl (by simp)) (h.lens 2 _ .u8 qm b rfl (by simp)) he w rw β
 ·exact apX_body0 n s fu off l q qm b cap2 h0 h1 h2 h3 h4 (h.caps 1 _ _ _ _ rfl) (h.lens 0 _ .i64 2 ([s, fu] : List Int) rfl (by simp)) (h.lens 1 _ .u8 n l rfl (by simp)) (h.lens 2 _ .u8 qm b rfl (by simp)) he w rw β

theorem syO_body0 (n : Nat) (s fu : Int) (off : Bool) (l : List Int) (h0 : (fu < (9223372036854775808 : Int))) (h1 : ((-1 : Int) ≤ fu)) (hl0_1 : List.length ([s, fu] : List Int) = 2) (hl1_0 : l.length = n) (he : dkE fu off = 0) (w : World) (rw : List Nat) (β : Env) : Body Tryz.prog (tabOf tabDA) Tryz.f13 ⟨w, rw, 2, β⟩ [.o (.a (.p 0 0))] [bT [.rs 1 0 n 1, .ints .i64 2 ([s, fu] : List Int), .b off, .b true], bT [.ints .u8 n l]] (fun ys K' => ys = [.a (.i .i64 (dkE fu off))] ∧ K' = [bT [.rs 1 0 n 1, .ints .i64 2 ([(syS fu off s n), (dkF fu off)] : List Int), .b (dkO fu off), .b true], bT [.ints .u8 n l]]) :=
 Body.of_finK (Γ := gam402) (Λ := noLam) (Ψ := noPsi) (fuel := 0) (m := 17) (c := (Tryz.f13.body.getD .skip)) mix tabOkDA gam402_ok rfl (rs := [.tmp 2]) rfl rfl [true] [.eqB 0 (⟨true, [.rs 1 0 n 1, .ints .i64 2 ([(syS fu off s n), (dkF fu off)] : List Int), .b (dkO fu off), .b true]⟩)] 2
  (vc := [((bT [.rs 1 0 n 1, .ints .i64 2 ([(n : Int), (dkF fu off)] : List Int), .b (dkO fu off), .b true] : Option Blk) = bT [.rs 1 0 n 1, .ints .i64 2 ([(syS fu off s n), (dkF fu off)] : List Int), .b (dkO fu off), .b true]), (((dkE fu off) == (0 : Int)) = true), ((True ∧ True) ∧ ((n = n) ∧ (fu < (9223372036854775808 : Int)) ∧ ((-1 : Int) ≤ fu)))]) (by kernel_rfl)
  (aC ((by unfold syS; rw [if_pos he])) (aC (beq_iff_eq.2 he) (aC ⟨⟨trivial, trivial⟩, ⟨rfl, h0, h1⟩⟩ (AllP_nil))))

theorem syX_body0 (n : Nat) (s fu : Int) (off : Bool) (l : List Int) (h0 : (fu < (9223372036854775808 : Int))) (h1 : ((-1 : Int) ≤ fu)) (hl0_1 : List.length ([s, fu] : List Int) = 2) (hl1_0 : l.length = n) (he : dkE fu off ≠ 0) (w : World) (rw : List Nat) (β : Env) : Body Tryz.prog (tabOf tabDA) Tryz.f13 ⟨w, rw, 2, β⟩ [.o (.a (.p 0 0))] [bT [.rs 1 0 n 1, .ints .i64 2 ([s, fu] : List Int), .b off, .b true], bT [.ints .u8 n l]] (fun ys K' => ys = [.a (.i .i64 (dkE fu off))] ∧ K' = [bT [.rs 1 0 n 1, .ints .i64 2 ([(syS fu off s n), (dkF fu off)] : List Int), .b (dkO fu off), .b true], bT [.ints .u8 n l]]) :=
 Body.of_finK (Γ := gam402) (Λ := noLam) (Ψ := noPsi) (fuel := 0) (m := 17) (c := (Tryz.f13.body.getD .skip)) mix tabOkDA gam402_ok rfl (rs := [.tmp 2]) rfl rfl [false] [.eqB 0 (⟨true, [.rs 1 0 n 1, .ints .i64 2 ([(syS fu off s n), (dkF fu off)] : List Int), .b (dkO fu off), .b true]⟩)] 2
  (vc := [((bT [.rs 1 0 n 1, .ints .i64 2 ([s, (dkF fu off)] : List Int), .b (dkO fu off), .b true] : Option Blk) = bT [.rs 1 0 n 1, .ints .i64 2 ([(syS fu off s n), (dkF fu off)] : List Int), .b (dkO fu off), .b true]), (((dkE fu off) == (0 : Int)) = false), ((True ∧ True) ∧ ((n = n) ∧ (fu < (9223372036854775808 : Int)) ∧ ((-1 : Int) ≤ fu)))]) (by kernel_rfl)
  (aC ((by unfold syS; rw [if_neg he])) (aC (beq_eq_false_iff_ne.2 he) (aC ⟨⟨trivial, trivial⟩, ⟨rfl, h0, h1⟩⟩ (AllP_nil))))

theorem dSyn_body (n : Nat) (s fu : Int) (off : Bool) (l : List Int) (h0 : (fu < (9223372036854775808 : Int))) (h1 : ((-1 : Int) ≤ fu)) (w : World) (rw : List Nat) (β : Env) : Body Tryz.prog (tabOf tabDA) Tryz.f13 ⟨w, rw, 2, β⟩ [.o (.a (.p 0 0))] [bT [.rs 1 0 n 1, .ints .i64 2 ([s, fu] : List Int), .b off, .b true], bT [.ints .u8 n l]] (fun ys K' => ys = [.a (.i .i64 (dkE fu off))] ∧ K' = [bT [.rs 1 0 n 1, .ints .i64 2 ([(syS fu off s n), (dkF fu off)] : List Int), .b (dkO fu off), .b true], bT [.ints .u8 n l]]) :=
 Body.lens (c := (Tryz.f13.body.getD .skip)) rfl fun h => by
 by_cases he : dkE fu off = 0
 ·exact syO_body0 n s fu off l h0 h1 (h.lens 0 _ .i64 2 ([s, fu] : List Int) rfl (by simp)) (h.lens 1 _ .u8 n l rfl (by simp)) he w rw β
 ·exact syX_body0 n s fu off l h0 h1 (h.lens 0 _ .i64 2 ([s, fu] : List Int) rfl (by simp)) (h.lens 1 _ .u8 n l rfl (by simp)) he w rw β

theorem rpO_body0 (n : Nat) (s fu : Int) (off : Bool) (l : List Int) (q qm : Nat) (b : List Int) (cap2 : Nat) (h0 : (qm = q)) (h1 : (fu < (9223372036854775808 : Int))) (h2 : ((-1 : Int) ≤ fu)) (h3 : (n < 70368744177664)) (h4 : (q < 70368744177664)) (hc2 : q ≤ cap2) (hl0_1 : List.length ([s, fu] : List Int) = 2) (hl1_0 : l.length = n) (hl2_0 : b.length = qm) (he : dkE fu off = 0) (w : World) (rw : List Nat) (β : Env) : Body Tryz.prog (tabOf tabDA) Tryz.f15 ⟨w, rw, 3, β⟩ [.o (.a (.p 0 0)), .o (.a (.sl 2 0 q cap2))] [bT [.rs 1 0 n 1, .ints .i64 2 ([s, fu] : List Int), .b off, .b true], bT [.ints .u8 n l], bF [.ints .u8 qm b]] (fun ys K' => ys = [.a (.i .i64 (dkE fu off))] ∧ K' = [bT [.rs 3 0 (rpN fu off n q) 1, .ints .i64 2 ([(syS fu off s q), (dkF fu off)] : List Int), .b (dkO fu off), .b true], none, bF [.ints .u8 qm b], bT [.ints .u8 (rpN fu off n q) (rpL fu off l b)]]) :=
 Body.of_finK (Γ := gam402) (Λ := noLam) (Ψ := psiOf [(4, [.slrs 6 1])]) (fuel := 0) (m := 27) (c := (Tryz.f15.body.getD .skip)) mix tabOkDA gam402_ok rfl (rs := [.tmp 4]) rfl rfl [true] [.fresh 1, .eqB 0 (⟨true, [.rs 3 0 (rpN fu off n q) 1, .ints .i64 2 ([(syS fu off s q), (dkF fu off)] : List Int), .b (dkO fu off), .b true]⟩), .eqB 3 (⟨true, [.ints .u8 (rpN fu off n q) (rpL fu off l b)]⟩)] 4
  (vc := [((bT [.ints .u8 q (splice (List.replicate q (0 : Int)) 0 (min q q) (sub b 0 (min q q)))] : Option Blk) = bT [.ints .u8 (rpN fu off n q) (rpL fu off l b)]), ((bT [.rs 3 0 q 1, .ints .i64 2 ([(q : Int), (dkF fu off)] : List Int), .b (dkO fu off), .b true] : Option Blk) = bT [.rs 3 0 (rpN fu off n q) 1, .ints .i64 2 ([(syS fu off s q), (dkF fu off)] : List Int), .b (dkO fu off), .b true]), ((0 + q) ≤ q), ((((min q q) ≤ q) ∧ ((0 + (min q q)) ≤ qm)) ∧ (okP (some ((0 + (min q q)) ≤ q)))), ((0 ≤ (q : Int)) ∧ ((q : Int) ≤ (q : Int)) ∧ (((q : Int) * 1) ≤ 281474976710656)), (((dkE fu off) == (0 : Int)) = true), ((True ∧ True) ∧ ((n = n) ∧ (fu < (9223372036854775808 : Int)) ∧ ((-1 : Int) ≤ fu)))]) (by kernel_rfl)
  (aC ((by unfold rpN rpL; rw [if_pos he, if_pos he, Nat.min_self, spl_whole (by rw [List.length_replicate]) (sub_len b 0 q (by rw [hl2_0, h0]; omega)), ssub_all b (hl2_0.trans h0)])) (aC ((by unfold rpN syS; rw [if_pos he, if_pos he])) (aC (by first|omega|(simp (disch:=omega) only [wrapI];omega)) (aC ⟨⟨(by first|omega|(simp (disch:=omega) only [wrapI];omega)), (by first|omega|(simp (disch:=omega) only [wrapI];omega))⟩, (show ((0 + (min q q)) ≤ q) from (by first|omega|(simp (disch:=omega) only [wrapI];omega)))⟩ (aC ⟨(by first|omega|(simp (disch:=omega) only [wrapI];omega)), (by first|omega|(simp (disch:=omega) only [wrapI];omega)), (by first|omega|(simp (disch:=omega) only [wrapI];omega))⟩ (aC (beq_iff_eq.2 he) (aC ⟨⟨trivial, trivial⟩, ⟨rfl, h1, h2⟩⟩ (AllP_nil))))))))

theorem rpX_body0 (n : Nat) (s fu : Int) (off : Bool) (l : List Int) (q qm : Nat) (b : List Int) (cap2 : Nat) (h0 : (qm = q)) (h1 : (fu < (9223372036854775808 : Int))) (h2 : ((-1 : Int) ≤ fu)) (h3 : (n < 70368744177664)) (h4 : (q < 70368744177664)) (hc2 : q ≤ cap2) (hl0_1 : List.length ([s, fu] : List Int) = 2) (hl1_0 : l.length = n) (hl2_0 : b.length = qm) (he : dkE fu off ≠ 0) (w : World) (rw : List Nat) (β : Env) : Body Tryz.prog (tabOf tabDA) Tryz.f15 ⟨w, rw, 3, β⟩ [.o (.a (.p 0 0)), .o (.a (.sl 2 0 q cap2))] [bT [.rs 1 0 n 1, .ints .i64 2 ([s, fu] : List Int), .b off, .b true], bT [.ints .u8 n l], bF [.ints .u8 qm b]] (fun ys K' => ys = [.a (.i .i64 (dkE fu off))] ∧ K' = [bT [.rs 3 0 (rpN fu off n q) 1, .ints .i64 2 ([(syS fu off s q), (dkF fu off)] : List Int), .b (dkO fu off), .b true], none, bF [.ints .u8 qm b], bT [.ints .u8 (rpN fu off n q) (rpL fu off l b)]]) :=
 Body.of_finK (Γ := gam402) (Λ := noLam) (Ψ := noPsi) (fuel := 0) (m := 27) (c := (Tryz.f15.body.getD .skip)) mix tabOkDA gam402_ok rfl (rs := [.tmp 4]) rfl rfl [false] [.fresh 1, .eqB 0 (⟨true, [.rs 3 0 (rpN fu off n q) 1, .ints .i64 2 ([(syS fu off s q), (dkF fu off)] : List Int), .b (dkO fu off), .b true]⟩), .eqB 3 (⟨true, [.ints .u8 (rpN fu off n q) (rpL fu off l b)]⟩)] 4
  (vc := [((bT [.ints .u8 n l] : Option Blk) = bT [.ints .u8 (rpN fu off n q) (rpL fu off l b)]), ((bT [.rs 3 0 n 1, .ints .i64 2 ([s, (dkF fu off)] : List Int), .b (dkO fu off), .b true] : Option Blk) = bT [.rs 3 0 (rpN fu off n q) 1, .ints .i64 2 ([(syS fu off s q), (dkF fu off)] : List Int), .b (dkO fu off), .b true]), (((dkE fu off) == (0 : Int)) = false), ((True ∧ True) ∧ ((n = n) ∧ (fu < (9223372036854775808 : Int)) ∧ ((-1 : Int) ≤ fu)))]) (by kernel_rfl)
  (aC ((by unfold rpN rpL; rw [if_neg he, if_neg he])) (aC ((by unfold rpN syS; rw [if_neg he, if_neg he])) (aC (beq_eq_false_iff_ne.2 he) (aC ⟨⟨trivial, trivial⟩, ⟨rfl, h1, h2⟩⟩ (AllP_nil)))))

theorem dRep_body (n : Nat) (s fu : Int) (off : Bool) (l : List Int) (q qm : Nat) (b : List Int) (cap2 : Nat) (h0 : (qm = q)) (h1 : (fu < (9223372036854775808 : Int))) (h2 : ((-1 : Int) ≤ fu)) (h3 : (n < 70368744177664)) (h4 : (q < 70368744177664)) (w : World) (rw : List Nat) (β : Env) : Body Tryz.prog (tabOf tabDA) Tryz.f15 ⟨w, rw, 3, β⟩ [.o (.a (.p 0 0)), .o (.a (.sl 2 0 q cap2))] [bT [.rs 1 0 n 1, .ints .i64 2 ([s, fu] : List Int), .b off, .b true], bT [.ints .u8 n l], bF [.ints .u8 qm b]] (fun ys K' => ys = [.a (.i .i64 (dkE fu off))] ∧ K' = [bT [.rs 3 0 (rpN fu off n q) 1, .ints .i64 2 ([(syS fu off s q), (dkF fu off)] : List Int), .b (dkO fu off), .b true], none, bF [.ints .u8 qm b], bT [.ints .u8 (rpN fu off n q) (rpL fu off l b)]]) :=
 Body.lens (c := (Tryz.f15.body.getD .skip)) rfl fun h => by
 by_cases he : dkE fu off = 0
 ·exact rpO_body0 n s fu off l q qm b cap2 h0 h1 h2 h3 h4 (h.caps 1 _ _ _ _ rfl) (h.lens 0 _ .i64 2 ([s, fu] : List Int) rfl (by simp)) (h.lens 1 _ .u8 n l rfl (by simp)) (h.lens 2 _ .u8 qm b rfl (by simp)) he w rw β
 ·exact rpX_body0 n s fu off l q qm b cap2 h0 h1 h2 h3 h4 (h.caps 1 _ _ _ _ rfl) (h.lens 0 _ .i64 2 ([s, fu] : List Int) rfl (by simp)) (h.lens 1 _ .u8 n l rfl (by simp)) (h.lens 2 _ .u8 qm b rfl (by simp)) he w rw β

theorem dByt_body0 (n : Nat) (s fu : Int) (off : Bool) (l : List Int) (h0 : (n < 70368744177664)) (hl0_1 : List.length ([s, fu] : List Int) = 2) (hl1_0 : l.length = n) (w : World) (rw : List Nat) (β : Env) : Body Tryz.prog (tabOf tabDA) Tryz.f25 ⟨w, rw, 2, β⟩ [.o (.a (.p 0 0))] [bT [.rs 1 0 n 1, .ints .i64 2 ([s, fu] : List Int), .b off, .b true], bT [.ints .u8 n l]] (fun ys K' => ys = [.a (.rs 2 0 n 1)] ∧ K' = [bT [.rs 1 0 n 1, .ints .i64 2 ([s, fu] : List Int), .b off, .b true], bT [.ints .u8 n l], bT [.ints .u8 n l]]) :=
 Body.of_finK (Γ := gam402) (Λ := noLam) (Ψ := noPsi) (fuel := 0) (m := 11) (c := (Tryz.f25.body.getD .skip)) mix tabOkDA gam402_ok rfl (rs := [.tmp 2]) rfl rfl [false, false] [.eqB 2 (⟨true, [.ints .u8 n l]⟩)] 3
  (vc := [((some ⟨true, [.ints .u8 n (sub l 0 n)]⟩ : Option Blk) = some ⟨true, [.ints .u8 n l]⟩), (((n ≤ n) ∧ ((0 + n) ≤ n)) ∧ ((n * 1) ≤ 140737488355328)), (false = false), ((True ∧ True) ∧ (n = n))]) (by kernel_rfl)
  (aC ((by rw [ssub_all l hl1_0])) (aC ⟨⟨(by first|omega|(simp (disch:=omega) only [wrapI];omega)), (by first|omega|(simp (disch:=omega) only [wrapI];omega))⟩, (by first|omega|(simp (disch:=omega) only [wrapI];omega))⟩ (aC rfl (aC ⟨⟨trivial, trivial⟩, rfl⟩ (AllP_nil)))))

theorem dByt_body (n : Nat) (s fu : Int) (off : Bool) (l : List Int) (h0 : (n < 70368744177664)) (w : World) (rw : List Nat) (β : Env) : Body Tryz.prog (tabOf tabDA) Tryz.f25 ⟨w, rw, 2, β⟩ [.o (.a (.p 0 0))] [bT [.rs 1 0 n 1, .ints .i64 2 ([s, fu] : List Int), .b off, .b true], bT [.ints .u8 n l]] (fun ys K' => ys = [.a (.rs 2 0 n 1)] ∧ K' = [bT [.rs 1 0 n 1, .ints .i64 2 ([s, fu] : List Int), .b off, .b true], bT [.ints .u8 n l], bT [.ints .u8 n l]]) :=
 Body.lens (c := (Tryz.f25.body.getD .skip)) rfl fun h => dByt_body0 n s fu off l h0 (h.lens 0 _ .i64 2 ([s, fu] : List Int) rfl (by simp)) (h.lens 1 _ .u8 n l rfl (by simp)) w rw β

theorem dSyd_body0 (n : Nat) (s fu : Int) (off : Bool) (l : List Int) (hl0_1 : List.length ([s, fu] : List Int) = 2) (hl1_0 : l.length = n) (w : World) (rw : List Nat) (β : Env) : Body Tryz.prog (tabOf tabDA) Tryz.f37 ⟨w, rw, 2, β⟩ [.o (.a (.p 0 0))] [bT [.rs 1 0 n 1, .ints .i64 2 ([s, fu] : List Int), .b off, .b true], bT [.ints .u8 n l]] (fun ys K' => ys = [.a (.i .i64 s)] ∧ K' = [bT [.rs 1 0 n 1, .ints .i64 2 ([s, fu] : List Int), .b off, .b true], bT [.ints .u8 n l]]) :=
 Body.of_finK (Γ := gam402) (Λ := noLam) (Ψ := noPsi) (fuel := 0) (m := 10) (c := (Tryz.f37.body.getD .skip)) mix tabOkDA gam402_ok rfl (rs := [.tmp 2]) rfl rfl [false] [] 2
  (vc := [(false = false), ((True ∧ True) ∧ (n = n))]) (by kernel_rfl)
  (aC rfl (aC ⟨⟨trivial, trivial⟩, rfl⟩ (AllP_nil)))

theorem dSyd_body (n : Nat) (s fu : Int) (off : Bool) (l : List Int) (w : World) (rw : List Nat) (β : Env) : Body Tryz.prog (tabOf tabDA) Tryz.f37 ⟨w, rw, 2, β⟩ [.o (.a (.p 0 0))] [bT [.rs 1 0 n 1, .ints .i64 2 ([s, fu] : List Int), .b off, .b true], bT [.ints .u8 n l]] (fun ys K' => ys = [.a (.i .i64 s)] ∧ K' = [bT [.rs 1 0 n 1, .ints .i64 2 ([s, fu] : List Int), .b off, .b true], bT [.ints .u8 n l]]) :=
 Body.lens (c := (Tryz.f37.body.getD .skip)) rfl fun h => dSyd_body0 n s fu off l (h.lens 0 _ .i64 2 ([s, fu] : List Int) rfl (by simp)) (h.lens 1 _ .u8 n l rfl (by simp)) w rw β

theorem dOff_body0 (n : Nat) (s fu : Int) (off : Bool) (l : List Int) (hl0_1 : List.length ([s, fu] : List Int) = 2) (hl1_0 : l.length = n) (w : World) (rw : List Nat) (β : Env) : Body Tryz.prog (tabOf tabDA) Tryz.f38 ⟨w, rw, 2, β⟩ [.o (.a (.p 0 0))] [bT [.rs 1 0 n 1, .ints .i64 2 ([s, fu] : List Int), .b off, .b true], bT [.ints .u8 n l]] (fun ys K' => ys = [.a (.b off)] ∧ K' = [bT [.rs 1 0 n 1, .ints .i64 2 ([s, fu] : List Int), .b off, .b true], bT [.ints .u8 n l]]) :=
 Body.of_finK (Γ := gam402) (Λ := noLam) (Ψ := noPsi) (fuel := 0) (m := 11) (c := (Tryz.f38.body.getD .skip)) mix tabOkDA gam402_ok rfl (rs := [.tmp 2]) rfl rfl [true, true, true, true, true] [] 2
  (vc := [(true = true), (true = true), (true = true), (true = true), (true = true), ((True ∧ True) ∧ (n = n))]) (by kernel_rfl)
  (aC rfl (aC rfl (aC rfl (aC rfl (aC rfl (aC ⟨⟨trivial, trivial⟩, rfl⟩ (AllP_nil)))))))

theorem dOff_body (n : Nat) (s fu : Int) (off : Bool) (l : List Int) (w : World) (rw : List Nat) (β : Env) : Body Tryz.prog (tabOf tabDA) Tryz.f38 ⟨w, rw, 2, β⟩ [.o (.a (.p 0 0))] [bT [.rs 1 0 n 1, .ints .i64 2 ([s, fu] : List Int), .b off, .b true], bT [.ints .u8 n l]] (fun ys K' => ys = [.a (.b off)] ∧ K' = [bT [.rs 1 0 n 1, .ints .i64 2 ([s, fu] : List Int), .b off, .b true], bT [.ints .u8 n l]]) :=
 Body.lens (c := (Tryz.f38.body.getD .skip)) rfl fun h => dOff_body0 n s fu off l (h.lens 0 _ .i64 2 ([s, fu] : List Int) rfl (by simp)) (h.lens 1 _ .u8 n l rfl (by simp)) w rw β

def dFus (k : Int) : Int :=
 (if (-1 : Int) > k then (-1 : Int) else k)

theorem dFus_body0 (n : Nat) (s fu : Int) (off : Bool) (l : List Int) (k : Int) (hl0_1 : List.length ([s, fu] : List Int) = 2) (hl1_0 : l.length = n) (w : World) (rw : List Nat) (β : Env) : Body Tryz.prog (tabOf tabDA) Tryz.f6 ⟨w, rw, 2, β⟩ [.o (.a (.p 0 0)), .o (.a (.i .i64 k))] [bT [.rs 1 0 n 1, .ints .i64 2 ([s, fu] : List Int), .b off, .b true], bT [.ints .u8 n l]] (fun ys K' => ys = [] ∧ K' = [bT [.rs 1 0 n 1, .ints .i64 2 ([s, (dFus k)] : List Int), .b off, .b true], bT [.ints .u8 n l]]) :=
 Body.of_finK (Γ := gam402) (Λ := noLam) (Ψ := noPsi) (fuel := 0) (m := 11) (c := (Tryz.f6.body.getD .skip)) mix tabOkDA gam402_ok rfl (rs := []) rfl rfl [true] [] 2
  (vc := [(true = true), ((True ∧ True) ∧ (n = n))]) (by kernel_rfl)
  (aC rfl (aC ⟨⟨trivial, trivial⟩, rfl⟩ (AllP_nil)))

theorem dFus_body (n : Nat) (s fu : Int) (off : Bool) (l : List Int) (k : Int) (w : World) (rw : List Nat) (β : Env) : Body Tryz.prog (tabOf tabDA) Tryz.f6 ⟨w, rw, 2, β⟩ [.o (.a (.p 0 0)), .o (.a (.i .i64 k))] [bT [.rs 1 0 n 1, .ints .i64 2 ([s, fu] : List Int), .b off, .b true], bT [.ints .u8 n l]] (fun ys K' => ys = [] ∧ K' = [bT [.rs 1 0 n 1, .ints .i64 2 ([s, (dFus k)] : List Int), .b off, .b true], bT [.ints .u8 n l]]) :=
 Body.lens (c := (Tryz.f6.body.getD .skip)) rfl fun h => dFus_body0 n s fu off l k (h.lens 0 _ .i64 2 ([s, fu] : List Int) rfl (by simp)) (h.lens 1 _ .u8 n l rfl (by simp)) w rw β

theorem dCra_body0 (n : Nat) (s fu : Int) (off : Bool) (l : List Int) (k : Int) (h0 : (n < 70368744177664)) (h1 : ((0 : Int) ≤ s)) (h2 : (s ≤ (n : Int))) (hl0_1 : List.length ([s, fu] : List Int) = 2) (hl1_0 : l.length = n) (w : World) (rw : List Nat) (β : Env) : Body Tryz.prog (tabOf tabDA) Tryz.f8 ⟨w, rw, 2, β⟩ [.o (.a (.p 0 0)), .o (.a (.i .i64 k))] [bT [.rs 1 0 n 1, .ints .i64 2 ([s, fu] : List Int), .b off, .b true], bT [.ints .u8 n l]] (fun ys K' => ys = [] ∧ K' = [bT [.rs 1 0 (crN s k n) 1, .ints .i64 2 ([(crI s k n), (-1 : Int)] : List Int), .b false, .b true], bT [.ints .u8 (crN s k n) (crL s k n l)]]) :=
 Body.of_finK (Γ := gam402) (Λ := noLam) (Ψ := psiOf [(1, [.eqS 4 (.o (.a (.i .i64 (crI s k n))))])]) (fuel := 0) (m := 45) (c := (Tryz.f8.body.getD .skip)) mix tabOkDA gam402_ok rfl (rs := []) rfl rfl [false] [.cutB 1 (crN s k n), .eqB 1 (⟨true, [.ints .u8 (crN s k n) (crL s k n l)]⟩), .eqB 0 (⟨true, [.rs 1 0 (crN s k n) 1, .ints .i64 2 ([(crI s k n), (-1 : Int)] : List Int), .b false, .b true]⟩)] 2
  (vc := [((bT [.rs 1 0 (Int.toNat (crI s k n)) 1, .ints .i64 2 ([(crI s k n), (-1 : Int)] : List Int), .b false, .b true] : Option Blk) = bT [.rs 1 0 (crN s k n) 1, .ints .i64 2 ([(crI s k n), (-1 : Int)] : List Int), .b false, .b true]), ((bT [.ints .u8 (crN s k n) (sub l 0 (crN s k n))] : Option Blk) = bT [.ints .u8 (crN s k n) (crL s k n l)]), ((crN s k n) ≤ n), ((cZ 0) ∧ ((0 : Int) ≤ (crI s k n)) ∧ ((crI s k n) ≤ (n : Int))), ((.o (.a (.i .i64 (IntKind.i64.wrap (s + (if (IntKind.i64.wrap ((n : Int) - s)) < (if (0 : Int) > k then (0 : Int) else k) then (IntKind.i64.wrap ((n : Int) - s)) else (if (0 : Int) > k then (0 : Int) else k)))))) : AV) = .o (.a (.i .i64 (crI s k n)))), (false = false), ((True ∧ True) ∧ (n = n))]) (by kernel_rfl)
  (aC (rfl) (aC (rfl) (aC (by have hc := crI_rng k h1 h2; first | omega | (show (crI s k n).toNat ≤ n; omega)) (aC ⟨(dd rfl), (by have hc := crI_rng k h1 h2; first | omega | (show (crI s k n).toNat ≤ n; omega)), (by have hc := crI_rng k h1 h2; first | omega | (show (crI s k n).toNat ≤ n; omega))⟩ (aC ((congrArg (fun z => AV.o (.a (.i .i64 z))) (crI_eq k h0 h1 h2))) (aC rfl (aC ⟨⟨trivial, trivial⟩, rfl⟩ (AllP_nil))))))))

theorem dCra_body (n : Nat) (s fu : Int) (off : Bool) (l : List Int) (k : Int) (h0 : (n < 70368744177664)) (h1 : ((0 : Int) ≤ s)) (h2 : (s ≤ (n : Int))) (w : World) (rw : List Nat) (β : Env) : Body Tryz.prog (tabOf tabDA) Tryz.f8 ⟨w, rw, 2, β⟩ [.o (.a (.p 0 0)), .o (.a (.i .i64 k))] [bT [.rs 1 0 n 1, .ints .i64 2 ([s, fu] : List Int), .b off, .b true], bT [.ints .u8 n l]] (fun ys K' => ys = [] ∧ K' = [bT [.rs 1 0 (crN s k n) 1, .ints .i64 2 ([(crI s k n), (-1 : Int)] : List Int), .b false, .b true], bT [.ints .u8 (crN s k n) (crL s k n l)]]) :=
 Body.lens (c := (Tryz.f8.body.getD .skip)) rfl fun h => dCra_body0 n s fu off l k h0 h1 h2 (h.lens 0 _ .i64 2 ([s, fu] : List Int) rfl (by simp)) (h.lens 1 _ .u8 n l rfl (by simp)) w rw β

theorem dNew_body0 (w : World) (rw : List Nat) (β : Env) : Body Tryz.prog (tabOf tabDA) Tryz.f5 ⟨w, rw, 0, β⟩ [] [] (fun ys K' => ys = [.a (.p 0 0)] ∧ K' = [bT [.rs 1 0 0 1, .ints .i64 2 ([0, (-1 : Int)] : List Int), .b false, .b true], bT [.ints .u8 0 ([] : List Int)]]) :=
 Body.of_finK (Γ := gam402) (Λ := noLam) (Ψ := noPsi) (fuel := 0) (m := 3) (c := (Tryz.f5.body.getD .skip)) mix tabOkDA gam402_ok rfl (rs := [.tmp 0]) rfl rfl [] [.rowB 0 0 .u8 1] 2
  (vc := []) (by kernel_rfl)
  (AllP_nil)

theorem dNew_body (w : World) (rw : List Nat) (β : Env) : Body Tryz.prog (tabOf tabDA) Tryz.f5 ⟨w, rw, 0, β⟩ [] [] (fun ys K' => ys = [.a (.p 0 0)] ∧ K' = [bT [.rs 1 0 0 1, .ints .i64 2 ([0, (-1 : Int)] : List Int), .b false, .b true], bT [.ints .u8 0 ([] : List Int)]]) :=
 Body.lens (c := (Tryz.f5.body.getD .skip)) rfl fun h => dNew_body0  w rw β

theorem goA_body0 (n : Nat) (s : Int) (fsd : Bool) (rf : Int) (off : Bool) (l : List Int) (h0 : (rf < (9223372036854775808 : Int))) (h1 : ((-9223372036854775808 : Int) ≤ rf)) (hl1_0 : l.length = n) (ho : off = true) (w : World) (rw : List Nat) (β : Env) : Body Tryz.prog (tabOf tabDA) Tryz.f36 ⟨w, rw, 2, β⟩ [.o (.a (.p 0 0))] [bT [.rs 1 0 n 1, .i .i64 s, .b fsd, .i .i64 rf, .b off], bT [.ints .u8 n l]] (fun ys K' => ys = [.a (.b (rkG fsd rf off))] ∧ K' = [bT [.rs 1 0 n 1, .i .i64 s, .b fsd, .i .i64 (rkF fsd rf off), .b (rkO fsd rf off)], bT [.ints .u8 n l]]) :=
 Body.of_finK (Γ := gam402) (Λ := noLam) (Ψ := noPsi) (fuel := 0) (m := 26) (c := (Tryz.f36.body.getD .skip)) mix tabOkDA gam402_ok rfl (rs := [.tmp 2]) rfl rfl [true] [.eqS 2 (.o (.a (.b (rkG fsd rf off)))), .eqB 0 (⟨true, [.rs 1 0 n 1, .i .i64 s, .b fsd, .i .i64 (rkF fsd rf off), .b (rkO fsd rf off)]⟩)] 2
  (vc := [((bT [.rs 1 0 n 1, .i .i64 s, .b fsd, .i .i64 rf, .b off] : Option Blk) = bT [.rs 1 0 n 1, .i .i64 s, .b fsd, .i .i64 (rkF fsd rf off), .b (rkO fsd rf off)]), ((.o (.a (.b false)) : AV) = .o (.a (.b (rkG fsd rf off)))), (off = true)]) (by kernel_rfl)
  (aC ((by subst ho; rw [(rk_a _ _).2.1, (rk_a _ _).2.2])) (aC ((by subst ho; rw [(rk_a _ _).1])) (aC ho (AllP_nil))))

theorem goB_body0 (n : Nat) (s : Int) (fsd : Bool) (rf : Int) (off : Bool) (l : List Int) (h0 : (rf < (9223372036854775808 : Int))) (h1 : ((-9223372036854775808 : Int) ≤ rf)) (hl1_0 : l.length = n) (ho : off = false) (hs : fsd = true) (hf : rf = 0) (w : World) (rw : List Nat) (β : Env) : Body Tryz.prog (tabOf tabDA) Tryz.f36 ⟨w, rw, 2, β⟩ [.o (.a (.p 0 0))] [bT [.rs 1 0 n 1, .i .i64 s, .b fsd, .i .i64 rf, .b off], bT [.ints .u8 n l]] (fun ys K' => ys = [.a (.b (rkG fsd rf off))] ∧ K' = [bT [.rs 1 0 n 1, .i .i64 s, .b fsd, .i .i64 (rkF fsd rf off), .b (rkO fsd rf off)], bT [.ints .u8 n l]]) :=
 Body.of_finK (Γ := gam402) (Λ := noLam) (Ψ := noPsi) (fuel := 0) (m := 26) (c := (Tryz.f36.body.getD .skip)) mix tabOkDA gam402_ok rfl (rs := [.tmp 2]) rfl rfl [false, true, true] [.eqS 2 (.o (.a (.b (rkG fsd rf off)))), .eqB 0 (⟨true, [.rs 1 0 n 1, .i .i64 s, .b fsd, .i .i64 (rkF fsd rf off), .b (rkO fsd rf off)]⟩)] 2
  (vc := [((bT [.rs 1 0 n 1, .i .i64 s, .b fsd, .i .i64 rf, .b true] : Option Blk) = bT [.rs 1 0 n 1, .i .i64 s, .b fsd, .i .i64 (rkF fsd rf off), .b (rkO fsd rf off)]), ((.o (.a (.b false)) : AV) = .o (.a (.b (rkG fsd rf off)))), ((rf == (0 : Int)) = true), (fsd = true), (off = false)]) (by kernel_rfl)
  (aC ((by subst ho; subst hs; subst hf; rw [(rk_b).2.1, (rk_b).2.2])) (aC ((by subst ho; subst hs; subst hf; rw [(rk_b).1])) (aC (beq_iff_eq.2 (by first | omega | (simp (disch := omega) only [wrapI]; omega))) (aC hs (aC ho (AllP_nil))))))

theorem goC_body0 (n : Nat) (s : Int) (fsd : Bool) (rf : Int) (off : Bool) (l : List Int) (h0 : (rf < (9223372036854775808 : Int))) (h1 : ((-9223372036854775808 : Int) ≤ rf)) (hl1_0 : l.length = n) (ho : off = false) (hs : fsd = true) (hf : rf ≠ 0) (w : World) (rw : List Nat) (β : Env) : Body Tryz.prog (tabOf tabDA) Tryz.f36 ⟨w, rw, 2, β⟩ [.o (.a (.p 0 0))] [bT [.rs 1 0 n 1, .i .i64 s, .b fsd, .i .i64 rf, .b off], bT [.ints .u8 n l]] (fun ys K' => ys = [.a (.b (rkG fsd rf off))] ∧ K' = [bT [.rs 1 0 n 1, .i .i64 s, .b fsd, .i .i64 (rkF fsd rf off), .b (rkO fsd rf off)], bT [.ints .u8 n l]]) :=
 Body.of_finK (Γ := gam402) (Λ := noLam) (Ψ := noPsi) (fuel := 0) (m := 26) (c := (Tryz.f36.body.getD .skip)) mix tabOkDA gam402_ok rfl (rs := [.tmp 2]) rfl rfl [false, true, false] [.eqS 2 (.o (.a (.b (rkG fsd rf off)))), .eqB 0 (⟨true, [.rs 1 0 n 1, .i .i64 s, .b fsd, .i .i64 (rkF fsd rf off), .b (rkO fsd rf off)]⟩)] 2
  (vc := [((bT [.rs 1 0 n 1, .i .i64 s, .b fsd, .i .i64 (IntKind.i64.wrap (rf - (1 : Int))), .b off] : Option Blk) = bT [.rs 1 0 n 1, .i .i64 s, .b fsd, .i .i64 (rkF fsd rf off), .b (rkO fsd rf off)]), ((.o (.a (.b true)) : AV) = .o (.a (.b (rkG fsd rf off)))), ((rf == (0 : Int)) = false), (fsd = true), (off = false)]) (by kernel_rfl)
  (aC ((by subst ho; subst hs; rw [(rk_c hf).2.1, (rk_c hf).2.2])) (aC ((by subst ho; subst hs; rw [(rk_c hf).1])) (aC (beq_eq_false_iff_ne.2 (by first | omega | (simp (disch := omega) only [wrapI]; omega))) (aC hs (aC ho (AllP_nil))))))

theorem goD_body0 (n : Nat) (s : Int) (fsd : Bool) (rf : Int) (off : Bool) (l : List Int) (h0 : (rf < (9223372036854775808 : Int))) (h1 : ((-9223372036854775808 : Int) ≤ rf)) (hl1_0 : l.length = n) (ho : off = false) (hs : fsd = false) (w : World) (rw : List Nat) (β : Env) : Body Tryz.prog (tabOf tabDA) Tryz.f36 ⟨w, rw, 2, β⟩ [.o (.a (.p 0 0))] [bT [.rs 1 0 n 1, .i .i64 s, .b fsd, .i .i64 rf, .b off], bT [.ints .u8 n l]] (fun ys K' => ys = [.a (.b (rkG fsd rf off))] ∧ K' = [bT [.rs 1 0 n 1, .i .i64 s, .b fsd, .i .i64 (rkF fsd rf off), .b (rkO fsd rf off)], bT [.ints .u8 n l]]) :=
 Body.of_finK (Γ := gam402) (Λ := noLam) (Ψ := noPsi) (fuel := 0) (m := 26) (c := (Tryz.f36.body.getD .skip)) mix tabOkDA gam402_ok rfl (rs := [.tmp 2]) rfl rfl [false, false] [.eqS 2 (.o (.a (.b (rkG fsd rf off)))), .eqB 0 (⟨true, [.rs 1 0 n 1, .i .i64 s, .b fsd, .i .i64 (rkF fsd rf off), .b (rkO fsd rf off)]⟩)] 2
  (vc := [((bT [.rs 1 0 n 1, .i .i64 s, .b fsd, .i .i64 rf, .b off] : Option Blk) = bT [.rs 1 0 n 1, .i .i64 s, .b fsd, .i .i64 (rkF fsd rf off), .b (rkO fsd rf off)]), ((.o (.a (.b true)) : AV) = .o (.a (.b (rkG fsd rf off)))), (fsd = false), (off = false)]) (by kernel_rfl)
  (aC ((by subst ho; subst hs; rw [(rk_d _).2.1, (rk_d _).2.2])) (aC ((by subst ho; subst hs; rw [(rk_d _).1])) (aC hs (aC ho (AllP_nil)))))

theorem rGo_body (n : Nat) (s : Int) (fsd : Bool) (rf : Int) (off : Bool) (l : List Int) (h0 : (rf < (9223372036854775808 : Int))) (h1 : ((-9223372036854775808 : Int) ≤ rf)) (w : World) (rw : List Nat) (β : Env) : Body Tryz.prog (tabOf tabDA) Tryz.f36 ⟨w, rw, 2, β⟩ [.o (.a (.p 0 0))] [bT [.rs 1 0 n 1, .i .i64 s, .b fsd, .i .i64 rf, .b off], bT [.ints .u8 n l]] (fun ys K' => ys = [.a (.b (rkG fsd rf off))] ∧ K' = [bT [.rs 1 0 n 1, .i .i64 s, .b fsd, .i .i64 (rkF fsd rf off), .b (rkO fsd rf off)], bT [.ints .u8 n l]]) :=
 Body.lens (c := (Tryz.f36.body.getD .skip)) rfl fun h => by
 rcases Bool.eq_false_or_eq_true off with ho | ho
 ·exact goA_body0 n s fsd rf off l h0 h1 (h.lens 1 _ .u8 n l rfl (by simp)) ho w rw β
 ·rcases Bool.eq_false_or_eq_true fsd with hs | hs
  ·by_cases hf : rf = 0
   ·exact goB_body0 n s fsd rf off l h0 h1 (h.lens 1 _ .u8 n l rfl (by simp)) ho hs hf w rw β
   ·exact goC_body0 n s fsd rf off l h0 h1 (h.lens 1 _ .u8 n l rfl (by simp)) ho hs hf w rw β
  ·exact goD_body0 n s fsd rf off l h0 h1 (h.lens 1 _ .u8 n l rfl (by simp)) ho hs w rw β

def gam403 : Gam := gcall 36 [true, true] [.w] (fun wk vs args => match wk, vs, args with | [⟨true, [.rs 1 0 n 1, .i .i64 s, .b fsd, .i .i64 rf, .b off]⟩, ⟨true, [.ints .u8 n_1 l]⟩], [], [.o (.a (.p 0 0))] => some ((n_1 = n) ∧ (rf < (9223372036854775808 : Int)) ∧ ((-9223372036854775808 : Int) ≤ rf), [.a (.b (rkG fsd rf off))], [bT [.rs 1 0 n 1, .i .i64 s, .b fsd, .i .i64 (rkF fsd rf off), .b (rkO fsd rf off)], bT [.ints .u8 n l]]) | _, _, _ => none) gam402
theorem gam403_ok : GamOk Tryz.prog gam403 := gcall_ok tabOkDA Tryz.func36 gam402_ok Tryz.call36 (by
 intro wk vs args p xs K1 h hv
 split at h
 ·simp only [Option.some.injEq, Prod.mk.injEq] at h; obtain ⟨rfl, rfl, rfl⟩ := h; obtain ⟨g0, g1, g2⟩ := hv; subst g0; exact fun caps w rw β => rGo_body _ _ _ _ _ _ g1 g2 w rw β
 ·simp at h)

theorem rAppO_body0 (n : Nat) (s : Int) (fsd : Bool) (rf : Int) (off : Bool) (l : List Int) (q qm : Nat) (b : List Int) (cap2 : Nat) (h0 : (qm = q)) (h1 : (rf < (9223372036854775808 : Int))) (h2 : ((-9223372036854775808 : Int) ≤ rf)) (h3 : (n < 70368744177664)) (h4 : (q < 70368744177664)) (hc2 : q ≤ cap2) (hl1_0 : l.length = n) (hl2_0 : b.length = qm) (hg : rkG fsd rf off = true) (w : World) (rw : List Nat) (β : Env) : Body Tryz.prog (tabOf tabDA) Tryz.f12 ⟨w, rw, 3, β⟩ [.o (.a (.p 0 0)), .o (.a (.sl 2 0 q cap2))] [bT [.rs 1 0 n 1, .i .i64 s, .b fsd, .i .i64 rf, .b off], bT [.ints .u8 n l], bF [.ints .u8 qm b]] (fun ys K' => ys = [.a (.i .i64 (raE fsd rf off))] ∧ K' = [bT [.rs 3 0 (raN fsd rf off n q) 1, .i .i64 s, .b fsd, .i .i64 (rkF fsd rf off), .b (rkO fsd rf off)], none, bF [.ints .u8 qm b], bT [.ints .u8 (raN fsd rf off n q) (raL fsd rf off l b)]]) :=
 Body.of_finK (Γ := gam403) (Λ := noLam) (Ψ := noPsi) (fuel := 0) (m := 17) (c := (Tryz.f12.body.getD .skip)) mix tabOkDA gam403_ok rfl (rs := [.tmp 4]) rfl rfl [false, false] [.eqS 4 (.o (.a (.i .i64 (raE fsd rf off)))), .eqB 0 (⟨true, [.rs 3 0 (raN fsd rf off n q) 1, .i .i64 s, .b fsd, .i .i64 (rkF fsd rf off), .b (rkO fsd rf off)]⟩), .eqB 3 (⟨true, [.ints .u8 (raN fsd rf off n q) (raL fsd rf off l b)]⟩)] 4
  (vc := [((bT [.ints .u8 (n + q) ((sub l 0 n) ++ (sub b 0 q))] : Option Blk) = bT [.ints .u8 (raN fsd rf off n q) (raL fsd rf off l b)]), ((bT [.rs 3 0 (n + q) 1, .i .i64 s, .b fsd, .i .i64 (rkF fsd rf off), .b (rkO fsd rf off)] : Option Blk) = bT [.rs 3 0 (raN fsd rf off n q) 1, .i .i64 s, .b fsd, .i .i64 (rkF fsd rf off), .b (rkO fsd rf off)]), ((.o (.a (.i .i64 0)) : AV) = .o (.a (.i .i64 (raE fsd rf off)))), (((0 + n) ≤ n) ∧ ((q ≤ q) ∧ ((0 + q) ≤ qm)) ∧ (((n + q) * 1) ≤ 140737488355328)), ((!(rkG fsd rf off)) = false), ((True ∧ True) ∧ ((n = n) ∧ (rf < (9223372036854775808 : Int)) ∧ ((-9223372036854775808 : Int) ≤ rf)))]) (by kernel_rfl)
  (aC ((by unfold raN raL; rw [hg, ssub_all l hl1_0, ssub_all b (hl2_0.trans h0)]; rfl)) (aC ((by unfold raN; rw [hg]; rfl)) (aC ((by unfold raE; rw [hg]; rfl)) (aC ⟨(by first|omega|(simp (disch:=omega) only [wrapI];omega)), ⟨(by first|omega|(simp (disch:=omega) only [wrapI];omega)), (by first|omega|(simp (disch:=omega) only [wrapI];omega))⟩, (by first|omega|(simp (disch:=omega) only [wrapI];omega))⟩ (aC (by rw [hg]; rfl) (aC ⟨⟨trivial, trivial⟩, ⟨rfl, h1, h2⟩⟩ (AllP_nil)))))))

theorem rAppX_body0 (n : Nat) (s : Int) (fsd : Bool) (rf : Int) (off : Bool) (l : List Int) (q qm : Nat) (b : List Int) (cap2 : Nat) (h0 : (qm = q)) (h1 : (rf < (9223372036854775808 : Int))) (h2 : ((-9223372036854775808 : Int) ≤ rf)) (h3 : (n < 70368744177664)) (h4 : (q < 70368744177664)) (hc2 : q ≤ cap2) (hl1_0 : l.length = n) (hl2_0 : b.length = qm) (hg : rkG fsd rf off = false) (w : World) (rw : List Nat) (β : Env) : Body Tryz.prog (tabOf tabDA) Tryz.f12 ⟨w, rw, 3, β⟩ [.o (.a (.p 0 0)), .o (.a (.sl 2 0 q cap2))] [bT [.rs 1 0 n 1, .i .i64 s, .b fsd, .i .i64 rf, .b off], bT [.ints .u8 n l], bF [.ints .u8 qm b]] (fun ys K' => ys = [.a (.i .i64 (raE fsd rf off))] ∧ K' = [bT [.rs 3 0 (raN fsd rf off n q) 1, .i .i64 s, .b fsd, .i .i64 (rkF fsd rf off), .b (rkO fsd rf off)], none, bF [.ints .u8 qm b], bT [.ints .u8 (raN fsd rf off n q) (raL fsd rf off l b)]]) :=
 Body.of_finK (Γ := gam403) (Λ := noLam) (Ψ := noPsi) (fuel := 0) (m := 17) (c := (Tryz.f12.body.getD .skip)) mix tabOkDA gam403_ok rfl (rs := [.tmp 4]) rfl rfl [true] [.eqS 4 (.o (.a (.i .i64 (raE fsd rf off)))), .fresh 1, .eqB 0 (⟨true, [.rs 3 0 (raN fsd rf off n q) 1, .i .i64 s, .b fsd, .i .i64 (rkF fsd rf off), .b (rkO fsd rf off)]⟩), .eqB 3 (⟨true, [.ints .u8 (raN fsd rf off n q) (raL fsd rf off l b)]⟩)] 4
  (vc := [((bT [.ints .u8 n l] : Option Blk) = bT [.ints .u8 (raN fsd rf off n q) (raL fsd rf off l b)]), ((bT [.rs 3 0 n 1, .i .i64 s, .b fsd, .i .i64 (rkF fsd rf off), .b (rkO fsd rf off)] : Option Blk) = bT [.rs 3 0 (raN fsd rf off n q) 1, .i .i64 s, .b fsd, .i .i64 (rkF fsd rf off), .b (rkO fsd rf off)]), ((.o (.a (.i .i64 134)) : AV) = .o (.a (.i .i64 (raE fsd rf off)))), ((!(rkG fsd rf off)) = true), ((True ∧ True) ∧ ((n = n) ∧ (rf < (9223372036854775808 : Int)) ∧ ((-9223372036854775808 : Int) ≤ rf)))]) (by kernel_rfl)
  (aC ((by unfold raN raL; rw [hg]; rfl)) (aC ((by unfold raN; rw [hg]; rfl)) (aC ((by unfold raE; rw [hg]; rfl)) (aC (by rw [hg]; rfl) (aC ⟨⟨trivial, trivial⟩, ⟨rfl, h1, h2⟩⟩ (AllP_nil))))))

theorem rApp_body (n : Nat) (s : Int) (fsd : Bool) (rf : Int) (off : Bool) (l : List Int) (q qm : Nat) (b : List Int) (cap2 : Nat) (h0 : (qm = q)) (h1 : (rf < (9223372036854775808 : Int))) (h2 : ((-9223372036854775808 : Int) ≤ rf)) (h3 : (n < 70368744177664)) (h4 : (q < 70368744177664)) (w : World) (rw : List Nat) (β : Env) : Body Tryz.prog (tabOf tabDA) Tryz.f12 ⟨w, rw, 3, β⟩ [.o (.a (.p 0 0)), .o (.a (.sl 2 0 q cap2))] [bT [.rs 1 0 n 1, .i .i64 s, .b fsd, .i .i64 rf, .b off], bT [.ints .u8 n l], bF [.ints .u8 qm b]] (fun ys K' => ys = [.a (.i .i64 (raE fsd rf off))] ∧ K' = [bT [.rs 3 0 (raN fsd rf off n q) 1, .i .i64 s, .b fsd, .i .i64 (rkF fsd rf off), .b (rkO fsd rf off)], none, bF [.ints .u8 qm b], bT [.ints .u8 (raN fsd rf off n q) (raL fsd rf off l b)]]) :=
 Body.lens (c := (Tryz.f12.body.getD .skip)) rfl fun h => by
 rcases Bool.eq_false_or_eq_true (rkG fsd rf off) with hg | hg
 ·exact rAppO_body0 n s fsd rf off l q qm b cap2 h0 h1 h2 h3 h4 (h.caps 1 _ _ _ _ rfl) (h.lens 1 _ .u8 n l rfl (by simp)) (h.lens 2 _ .u8 qm b rfl (by simp)) hg w rw β
 ·exact rAppX_body0 n s fsd rf off l q qm b cap2 h0 h1 h2 h3 h4 (h.caps 1 _ _ _ _ rfl) (h.lens 1 _ .u8 n l rfl (by simp)) (h.lens 2 _ .u8 qm b rfl (by simp)) hg w rw β

theorem rSynO_body0 (n : Nat) (s : Int) (fsd : Bool) (rf : Int) (off : Bool) (l : List Int) (h0 : (rf < (9223372036854775808 : Int))) (h1 : ((-9223372036854775808 : Int) ≤ rf)) (hl1_0 : l.length = n) (hg : rkG fsd rf off = true) (w : World) (rw : List Nat) (β : Env) : Body Tryz.prog (tabOf tabDA) Tryz.f14 ⟨w, rw, 2, β⟩ [.o (.a (.p 0 0))] [bT [.rs 1 0 n 1, .i .i64 s, .b fsd, .i .i64 rf, .b off], bT [.ints .u8 n l]] (fun ys K' => ys = [.a (.i .i64 (raE fsd rf off))] ∧ K' = [bT [.rs 1 0 n 1, .i .i64 (rsS fsd rf off s n), .b fsd, .i .i64 (rkF fsd rf off), .b (rkO fsd rf off)], bT [.ints .u8 n l]]) :=
 Body.of_finK (Γ := gam403) (Λ := noLam) (Ψ := noPsi) (fuel := 0) (m := 14) (c := (Tryz.f14.body.getD .skip)) mix tabOkDA gam403_ok rfl (rs := [.tmp 2]) rfl rfl [false] [.eqS 2 (.o (.a (.i .i64 (raE fsd rf off)))), .eqB 0 (⟨true, [.rs 1 0 n 1, .i .i64 (rsS fsd rf off s n), .b fsd, .i .i64 (rkF fsd rf off), .b (rkO fsd rf off)]⟩)] 2
  (vc := [((bT [.rs 1 0 n 1, .i .i64 (n : Int), .b fsd, .i .i64 (rkF fsd rf off), .b (rkO fsd rf off)] : Option Blk) = bT [.rs 1 0 n 1, .i .i64 (rsS fsd rf off s n), .b fsd, .i .i64 (rkF fsd rf off), .b (rkO fsd rf off)]), ((.o (.a (.i .i64 0)) : AV) = .o (.a (.i .i64 (raE fsd rf off)))), ((!(rkG fsd rf off)) = false), ((True ∧ True) ∧ ((n = n) ∧ (rf < (9223372036854775808 : Int)) ∧ ((-9223372036854775808 : Int) ≤ rf)))]) (by kernel_rfl)
  (aC ((by unfold rsS; rw [hg]; rfl)) (aC ((by unfold raE; rw [hg]; rfl)) (aC (by rw [hg]; rfl) (aC ⟨⟨trivial, trivial⟩, ⟨rfl, h0, h1⟩⟩ (AllP_nil)))))

theorem rSynX_body0 (n : Nat) (s : Int) (fsd : Bool) (rf : Int) (off : Bool) (l : List Int) (h0 : (rf < (9223372036854775808 : Int))) (h1 : ((-9223372036854775808 : Int) ≤ rf)) (hl1_0 : l.length = n) (hg : rkG fsd rf off = false) (w : World) (rw : List Nat) (β : Env) : Body Tryz.prog (tabOf tabDA) Tryz.f14 ⟨w, rw, 2, β⟩ [.o (.a (.p 0 0))] [bT [.rs 1 0 n 1, .i .i64 s, .b fsd, .i .i64 rf, .b off], bT [.ints .u8 n l]] (fun ys K' => ys = [.a (.i .i64 (raE fsd rf off))] ∧ K' = [bT [.rs 1 0 n 1, .i .i64 (rsS fsd rf off s n), .b fsd, .i .i64 (rkF fsd rf off), .b (rkO fsd rf off)], bT [.ints .u8 n l]]) :=
 Body.of_finK (Γ := gam403) (Λ := noLam) (Ψ := noPsi) (fuel := 0) (m := 14) (c := (Tryz.f14.body.getD .skip)) mix tabOkDA gam403_ok rfl (rs := [.tmp 2]) rfl rfl [true] [.eqS 2 (.o (.a (.i .i64 (raE fsd rf off)))), .eqB 0 (⟨true, [.rs 1 0 n 1, .i .i64 (rsS fsd rf off s n), .b fsd, .i .i64 (rkF fsd rf off), .b (rkO fsd rf off)]⟩)] 2
  (vc := [((bT [.rs 1 0 n 1, .i .i64 s, .b fsd, .i .i64 (rkF fsd rf off), .b (rkO fsd rf off)] : Option Blk) = bT [.rs 1 0 n 1, .i .i64 (rsS fsd rf off s n), .b fsd, .i .i64 (rkF fsd rf off), .b (rkO fsd rf off)]), ((.o (.a (.i .i64 134)) : AV) = .o (.a (.i .i64 (raE fsd rf off)))), ((!(rkG fsd rf off)) = true), ((True ∧ True) ∧ ((n = n) ∧ (rf < (9223372036854775808 : Int)) ∧ ((-9223372036854775808 : Int) ≤ rf)))]) (by kernel_rfl)
  (aC ((by unfold rsS; rw [hg]; rfl)) (aC ((by unfold raE; rw [hg]; rfl)) (aC (by rw [hg]; rfl) (aC ⟨⟨trivial, trivial⟩, ⟨rfl, h0, h1⟩⟩ (AllP_nil)))))

theorem rSyn_body (n : Nat) (s : Int) (fsd : Bool) (rf : Int) (off : Bool) (l : List Int) (h0 : (rf < (9223372036854775808 : Int))) (h1 : ((-9223372036854775808 : Int) ≤ rf)) (w : World) (rw : List Nat) (β : Env) : Body Tryz.prog (tabOf tabDA) Tryz.f14 ⟨w, rw, 2, β⟩ [.o (.a (.p 0 0))] [bT [.rs 1 0 n 1, .i .i64 s, .b fsd, .i .i64 rf, .b off], bT [.ints .u8 n l]] (fun ys K' => ys = [.a (.i .i64 (raE fsd rf off))] ∧ K' = [bT [.rs 1 0 n 1, .i .i64 (rsS fsd rf off s n), .b fsd, .i .i64 (rkF fsd rf off), .b (rkO fsd rf off)], bT [.ints .u8 n l]]) :=
 Body.lens (c := (Tryz.f14.body.getD .skip)) rfl fun h => by
 rcases Bool.eq_false_or_eq_true (rkG fsd rf off) with hg | hg
 ·exact rSynO_body0 n s fsd rf off l h0 h1 (h.lens 1 _ .u8 n l rfl (by simp)) hg w rw β
 ·exact rSynX_body0 n s fsd rf off l h0 h1 (h.lens 1 _ .u8 n l rfl (by simp)) hg w rw β

theorem rRepO_body0 (n : Nat) (s : Int) (fsd : Bool) (rf : Int) (off : Bool) (l : List Int) (q qm : Nat) (b : List Int) (cap2 : Nat) (h0 : (qm = q)) (h1 : (rf < (9223372036854775808 : Int))) (h2 : ((-9223372036854775808 : Int) ≤ rf)) (h3 : (q < 70368744177664)) (hc2 : q ≤ cap2) (hl1_0 : l.length = n) (hl2_0 : b.length = qm) (hg : rkG fsd rf off = true) (w : World) (rw : List Nat) (β : Env) : Body Tryz.prog (tabOf tabDA) Tryz.f16 ⟨w, rw, 3, β⟩ [.o (.a (.p 0 0)), .o (.a (.sl 2 0 q cap2))] [bT [.rs 1 0 n 1, .i .i64 s, .b fsd, .i .i64 rf, .b off], bT [.ints .u8 n l], bF [.ints .u8 qm b]] (fun ys K' => ys = [.a (.i .i64 (raE fsd rf off))] ∧ K' = [bT [.rs 3 0 (rpNR fsd rf off n q) 1, .i .i64 (rsS fsd rf off s q), .b fsd, .i .i64 (rkF fsd rf off), .b (rkO fsd rf off)], none, bF [.ints .u8 qm b], bT [.ints .u8 (rpNR fsd rf off n q) (rpLR fsd rf off l b)]]) :=
 Body.of_finK (Γ := gam403) (Λ := noLam) (Ψ := noPsi) (fuel := 0) (m := 20) (c := (Tryz.f16.body.getD .skip)) mix tabOkDA gam403_ok rfl (rs := [.tmp 4]) rfl rfl [false, false] [.eqS 4 (.o (.a (.i .i64 (raE fsd rf off)))), .fresh 1, .eqB 0 (⟨true, [.rs 3 0 (rpNR fsd rf off n q) 1, .i .i64 (rsS fsd rf off s q), .b fsd, .i .i64 (rkF fsd rf off), .b (rkO fsd rf off)]⟩), .eqB 3 (⟨true, [.ints .u8 (rpNR fsd rf off n q) (rpLR fsd rf off l b)]⟩)] 4
  (vc := [((bT [.ints .u8 q (sub b 0 q)] : Option Blk) = bT [.ints .u8 (rpNR fsd rf off n q) (rpLR fsd rf off l b)]), ((bT [.rs 3 0 q 1, .i .i64 (q : Int), .b fsd, .i .i64 (rkF fsd rf off), .b (rkO fsd rf off)] : Option Blk) = bT [.rs 3 0 (rpNR fsd rf off n q) 1, .i .i64 (rsS fsd rf off s q), .b fsd, .i .i64 (rkF fsd rf off), .b (rkO fsd rf off)]), ((.o (.a (.i .i64 0)) : AV) = .o (.a (.i .i64 (raE fsd rf off)))), (((q ≤ q) ∧ ((0 + q) ≤ qm)) ∧ ((q * 1) ≤ 140737488355328)), ((!(rkG fsd rf off)) = false), ((True ∧ True) ∧ ((n = n) ∧ (rf < (9223372036854775808 : Int)) ∧ ((-9223372036854775808 : Int) ≤ rf)))]) (by kernel_rfl)
  (aC ((by unfold rpNR rpLR; rw [hg, ssub_all b (hl2_0.trans h0)]; rfl)) (aC ((by unfold rpNR rsS; rw [hg]; rfl)) (aC ((by unfold raE; rw [hg]; rfl)) (aC ⟨⟨(by first|omega|(simp (disch:=omega) only [wrapI];omega)), (by first|omega|(simp (disch:=omega) only [wrapI];omega))⟩, (by first|omega|(simp (disch:=omega) only [wrapI];omega))⟩ (aC (by rw [hg]; rfl) (aC ⟨⟨trivial, trivial⟩, ⟨rfl, h1, h2⟩⟩ (AllP_nil)))))))

theorem rRepX_body0 (n : Nat) (s : Int) (fsd : Bool) (rf : Int) (off : Bool) (l : List Int) (q qm : Nat) (b : List Int) (cap2 : Nat) (h0 : (qm = q)) (h1 : (rf < (9223372036854775808 : Int))) (h2 : ((-9223372036854775808 : Int) ≤ rf)) (h3 : (q < 70368744177664)) (hc2 : q ≤ cap2) (hl1_0 : l.length = n) (hl2_0 : b.length = qm) (hg : rkG fsd rf off = false) (w : World) (rw : List Nat) (β : Env) : Body Tryz.prog (tabOf tabDA) Tryz.f16 ⟨w, rw, 3, β⟩ [.o (.a (.p 0 0)), .o (.a (.sl 2 0 q cap2))] [bT [.rs 1 0 n 1, .i .i64 s, .b fsd, .i .i64 rf, .b off], bT [.ints .u8 n l], bF [.ints .u8 qm b]] (fun ys K' => ys = [.a (.i .i64 (raE fsd rf off))] ∧ K' = [bT [.rs 3 0 (rpNR fsd rf off n q) 1, .i .i64 (rsS fsd rf off s q), .b fsd, .i .i64 (rkF fsd rf off), .b (rkO fsd rf off)], none, bF [.ints .u8 qm b], bT [.ints .u8 (rpNR fsd rf off n q) (rpLR fsd rf off l b)]]) :=
 Body.of_finK (Γ := gam403) (Λ := noLam) (Ψ := noPsi) (fuel := 0) (m := 20) (c := (Tryz.f16.body.getD .skip)) mix tabOkDA gam403_ok rfl (rs := [.tmp 4]) rfl rfl [true] [.eqS 4 (.o (.a (.i .i64 (raE fsd rf off)))), .fresh 1, .eqB 0 (⟨true, [.rs 3 0 (rpNR fsd rf off n q) 1, .i .i64 (rsS fsd rf off s q), .b fsd, .i .i64 (rkF fsd rf off), .b (rkO fsd rf off)]⟩), .eqB 3 (⟨true, [.ints .u8 (rpNR fsd rf off n q) (rpLR fsd rf off l b)]⟩)] 4
  (vc := [((bT [.ints .u8 n l] : Option Blk) = bT [.ints .u8 (rpNR fsd rf off n q) (rpLR fsd rf off l b)]), ((bT [.rs 3 0 n 1, .i .i64 s, .b fsd, .i .i64 (rkF fsd rf off), .b (rkO fsd rf off)] : Option Blk) = bT [.rs 3 0 (rpNR fsd rf off n q) 1, .i .i64 (rsS fsd rf off s q), .b fsd, .i .i64 (rkF fsd rf off), .b (rkO fsd rf off)]), ((.o (.a (.i .i64 134)) : AV) = .o (.a (.i .i64 (raE fsd rf off)))), ((!(rkG fsd rf off)) = true), ((True ∧ True) ∧ ((n = n) ∧ (rf < (9223372036854775808 : Int)) ∧ ((-9223372036854775808 : Int) ≤ rf)))]) (by kernel_rfl)
  (aC ((by unfold rpNR rpLR; rw [hg]; rfl)) (aC ((by unfold rpNR rsS; rw [hg]; rfl)) (aC ((by unfold raE; rw [hg]; rfl)) (aC (by rw [hg]; rfl) (aC ⟨⟨trivial, trivial⟩, ⟨rfl, h1, h2⟩⟩ (AllP_nil))))))

theorem rRep_body (n : Nat) (s : Int) (fsd : Bool) (rf : Int) (off : Bool) (l : List Int) (q qm : Nat) (b : List Int) (cap2 : Nat) (h0 : (qm = q)) (h1 : (rf < (9223372036854775808 : Int))) (h2 : ((-9223372036854775808 : Int) ≤ rf)) (h3 : (q < 70368744177664)) (w : World) (rw : List Nat) (β : Env) : Body Tryz.prog (tabOf tabDA) Tryz.f16 ⟨w, rw, 3, β⟩ [.o (.a (.p 0 0)), .o (.a (.sl 2 0 q cap2))] [bT [.rs 1 0 n 1, .i .i64 s, .b fsd, .i .i64 rf, .b off], bT [.ints .u8 n l], bF [.ints .u8 qm b]] (fun ys K' => ys = [.a (.i .i64 (raE fsd rf off))] ∧ K' = [bT [.rs 3 0 (rpNR fsd rf off n q) 1, .i .i64 (rsS fsd rf off s q), .b fsd, .i .i64 (rkF fsd rf off), .b (rkO fsd rf off)], none, bF [.ints .u8 qm b], bT [.ints .u8 (rpNR fsd rf off n q) (rpLR fsd rf off l b)]]) :=
 Body.lens (c := (Tryz.f16.body.getD .skip)) rfl fun h => by
 rcases Bool.eq_false_or_eq_true (rkG fsd rf off) with hg | hg
 ·exact rRepO_body0 n s fsd rf off l q qm b cap2 h0 h1 h2 h3 (h.caps 1 _ _ _ _ rfl) (h.lens 1 _ .u8 n l rfl (by simp)) (h.lens 2 _ .u8 qm b rfl (by simp)) hg w rw β
 ·exact rRepX_body0 n s fsd rf off l q qm b cap2 h0 h1 h2 h3 (h.caps 1 _ _ _ _ rfl) (h.lens 1 _ .u8 n l rfl (by simp)) (h.lens 2 _ .u8 qm b rfl (by simp)) hg w rw β

def rFus (k : Int) : Bool :=
 (decide (k ≥ (0 : Int)))

theorem rFus_body0 (n : Nat) (s : Int) (fsd : Bool) (rf : Int) (off : Bool) (l : List Int) (k : Int) (hl1_0 : l.length = n) (w : World) (rw : List Nat) (β : Env) : Body Tryz.prog (tabOf tabDA) Tryz.f7 ⟨w, rw, 2, β⟩ [.o (.a (.p 0 0)), .o (.a (.i .i64 k))] [bT [.rs 1 0 n 1, .i .i64 s, .b fsd, .i .i64 rf, .b off], bT [.ints .u8 n l]] (fun ys K' => ys = [] ∧ K' = [bT [.rs 1 0 n 1, .i .i64 s, .b (rFus k), .i .i64 k, .b off], bT [.ints .u8 n l]]) :=
 Body.of_finK (Γ := gam403) (Λ := noLam) (Ψ := noPsi) (fuel := 0) (m := 13) (c := (Tryz.f7.body.getD .skip)) mix tabOkDA gam403_ok rfl (rs := []) rfl rfl [] [] 2
  (vc := []) (by kernel_rfl)
  (AllP_nil)

theorem rFus_body (n : Nat) (s : Int) (fsd : Bool) (rf : Int) (off : Bool) (l : List Int) (k : Int) (w : World) (rw : List Nat) (β : Env) : Body Tryz.prog (tabOf tabDA) Tryz.f7 ⟨w, rw, 2, β⟩ [.o (.a (.p 0 0)), .o (.a (.i .i64 k))] [bT [.rs 1 0 n 1, .i .i64 s, .b fsd, .i .i64 rf, .b off], bT [.ints .u8 n l]] (fun ys K' => ys = [] ∧ K' = [bT [.rs 1 0 n 1, .i .i64 s, .b (rFus k), .i .i64 k, .b off], bT [.ints .u8 n l]]) :=
 Body.lens (c := (Tryz.f7.body.getD .skip)) rfl fun h => rFus_body0 n s fsd rf off l k (h.lens 1 _ .u8 n l rfl (by simp)) w rw β

theorem rcA_body0 (n : Nat) (s : Int) (fsd : Bool) (rf : Int) (off : Bool) (l : List Int) (k : Int) (h0 : (n < 70368744177664)) (h1 : ((0 : Int) ≤ s)) (h2 : (s ≤ (n : Int))) (hl1_0 : l.length = n) (hk : k < 0) (w : World) (rw : List Nat) (β : Env) : Body Tryz.prog (tabOf tabDA) Tryz.f9 ⟨w, rw, 2, β⟩ [.o (.a (.p 0 0)), .o (.a (.i .i64 k))] [bT [.rs 1 0 n 1, .i .i64 s, .b fsd, .i .i64 rf, .b off], bT [.ints .u8 n l]] (fun ys K' => ys = [] ∧ K' = [bT [.rs 1 0 (crN s k n) 1, .i .i64 (crI s k n), .b false, .i .i64 rf, .b false], bT [.ints .u8 (crN s k n) (crL s k n l)]]) :=
 Body.of_finK (Γ := gam403) (Λ := noLam) (Ψ := noPsi) (fuel := 0) (m := 49) (c := (Tryz.f9.body.getD .skip)) mix tabOkDA gam403_ok rfl (rs := []) rfl rfl [true, false] [.cutB 1 (Int.toNat (IntKind.i64.wrap (s + (0 : Int)))), .eqB 1 (⟨true, [.ints .u8 (crN s k n) (crL s k n l)]⟩), .eqB 0 (⟨true, [.rs 1 0 (crN s k n) 1, .i .i64 (crI s k n), .b false, .i .i64 rf, .b false]⟩)] 2
  (vc := [((bT [.rs 1 0 (Int.toNat (IntKind.i64.wrap (s + (0 : Int)))) 1, .i .i64 (((Int.toNat (IntKind.i64.wrap (s + (0 : Int)))) : Nat) : Int), .b false, .i .i64 rf, .b false] : Option Blk) = bT [.rs 1 0 (crN s k n) 1, .i .i64 (crI s k n), .b false, .i .i64 rf, .b false]), ((bT [.ints .u8 (Int.toNat (IntKind.i64.wrap (s + (0 : Int)))) (sub l 0 (Int.toNat (IntKind.i64.wrap (s + (0 : Int)))))] : Option Blk) = bT [.ints .u8 (crN s k n) (crL s k n l)]), ((Int.toNat (IntKind.i64.wrap (s + (0 : Int)))) ≤ n), ((cZ 0) ∧ ((0 : Int) ≤ (IntKind.i64.wrap (s + (0 : Int)))) ∧ ((IntKind.i64.wrap (s + (0 : Int))) ≤ (n : Int))), ((decide ((0 : Int) > (IntKind.i64.wrap ((n : Int) - s)))) = false), ((decide (k < (0 : Int))) = true)]) (by kernel_rfl)
  (aC ((by rw [(show (((Int.toNat (IntKind.i64.wrap (s + (0 : Int)))) : Nat) : Int) = crI s k n from (by unfold crI; rw [if_pos hk]; (simp (disch := omega) only [wrapI]); omega)), (show (Int.toNat (IntKind.i64.wrap (s + (0 : Int)))) = crN s k n from (by unfold crN crI; rw [if_pos hk]; first | rfl | (simp (disch := omega) only [wrapI]; try omega) | omega))])) (aC ((by unfold crL; rw [(show (Int.toNat (IntKind.i64.wrap (s + (0 : Int)))) = crN s k n from (by unfold crN crI; rw [if_pos hk]; first | rfl | (simp (disch := omega) only [wrapI]; try omega) | omega))])) (aC (by first|omega|(simp (disch:=omega) only [wrapI];omega)) (aC ⟨(dd rfl), (by first|omega|(simp (disch:=omega) only [wrapI];omega)), (by first|omega|(simp (disch:=omega) only [wrapI];omega))⟩ (aC (df (by first|omega|(simp (disch:=omega) only [wrapI];omega))) (aC (dt (by first|omega|(simp (disch:=omega) only [wrapI];omega))) (AllP_nil)))))))

theorem rcB_body0 (n : Nat) (s : Int) (fsd : Bool) (rf : Int) (off : Bool) (l : List Int) (k : Int) (h0 : (n < 70368744177664)) (h1 : ((0 : Int) ≤ s)) (h2 : (s ≤ (n : Int))) (hl1_0 : l.length = n) (hk : ¬ k < 0) (hm : (n : Int) - s < k) (w : World) (rw : List Nat) (β : Env) : Body Tryz.prog (tabOf tabDA) Tryz.f9 ⟨w, rw, 2, β⟩ [.o (.a (.p 0 0)), .o (.a (.i .i64 k))] [bT [.rs 1 0 n 1, .i .i64 s, .b fsd, .i .i64 rf, .b off], bT [.ints .u8 n l]] (fun ys K' => ys = [] ∧ K' = [bT [.rs 1 0 (crN s k n) 1, .i .i64 (crI s k n), .b false, .i .i64 rf, .b false], bT [.ints .u8 (crN s k n) (crL s k n l)]]) :=
 Body.of_finK (Γ := gam403) (Λ := noLam) (Ψ := noPsi) (fuel := 0) (m := 49) (c := (Tryz.f9.body.getD .skip)) mix tabOkDA gam403_ok rfl (rs := []) rfl rfl [false, true] [.cutB 1 (Int.toNat (IntKind.i64.wrap (s + (IntKind.i64.wrap ((n : Int) - s))))), .eqB 1 (⟨true, [.ints .u8 (crN s k n) (crL s k n l)]⟩), .eqB 0 (⟨true, [.rs 1 0 (crN s k n) 1, .i .i64 (crI s k n), .b false, .i .i64 rf, .b false]⟩)] 2
  (vc := [((bT [.rs 1 0 (Int.toNat (IntKind.i64.wrap (s + (IntKind.i64.wrap ((n : Int) - s))))) 1, .i .i64 (((Int.toNat (IntKind.i64.wrap (s + (IntKind.i64.wrap ((n : Int) - s))))) : Nat) : Int), .b false, .i .i64 rf, .b false] : Option Blk) = bT [.rs 1 0 (crN s k n) 1, .i .i64 (crI s k n), .b false, .i .i64 rf, .b false]), ((bT [.ints .u8 (Int.toNat (IntKind.i64.wrap (s + (IntKind.i64.wrap ((n : Int) - s))))) (sub l 0 (Int.toNat (IntKind.i64.wrap (s + (IntKind.i64.wrap ((n : Int) - s))))))] : Option Blk) = bT [.ints .u8 (crN s k n) (crL s k n l)]), ((Int.toNat (IntKind.i64.wrap (s + (IntKind.i64.wrap ((n : Int) - s))))) ≤ n), ((cZ 0) ∧ ((0 : Int) ≤ (IntKind.i64.wrap (s + (IntKind.i64.wrap ((n : Int) - s))))) ∧ ((IntKind.i64.wrap (s + (IntKind.i64.wrap ((n : Int) - s)))) ≤ (n : Int))), ((decide (k > (IntKind.i64.wrap ((n : Int) - s)))) = true), ((decide (k < (0 : Int))) = false)]) (by kernel_rfl)
  (aC ((by rw [(show (((Int.toNat (IntKind.i64.wrap (s + (IntKind.i64.wrap (((n : Nat) : Int) - s))))) : Nat) : Int) = crI s k n from (by unfold crI; rw [if_neg hk, if_pos hm]; (simp (disch := omega) only [wrapI]); omega)), (show (Int.toNat (IntKind.i64.wrap (s + (IntKind.i64.wrap (((n : Nat) : Int) - s))))) = crN s k n from (by unfold crN crI; rw [if_neg hk, if_pos hm]; first | rfl | (simp (disch := omega) only [wrapI]; try omega) | omega))])) (aC ((by unfold crL; rw [(show (Int.toNat (IntKind.i64.wrap (s + (IntKind.i64.wrap (((n : Nat) : Int) - s))))) = crN s k n from (by unfold crN crI; rw [if_neg hk, if_pos hm]; first | rfl | (simp (disch := omega) only [wrapI]; try omega) | omega))])) (aC (by first|omega|(simp (disch:=omega) only [wrapI];omega)) (aC ⟨(dd rfl), (by first|omega|(simp (disch:=omega) only [wrapI];omega)), (by first|omega|(simp (disch:=omega) only [wrapI];omega))⟩ (aC (dt (by first|omega|(simp (disch:=omega) only [wrapI];omega))) (aC (df (by first|omega|(simp (disch:=omega) only [wrapI];omega))) (AllP_nil)))))))

theorem rcC_body0 (n : Nat) (s : Int) (fsd : Bool) (rf : Int) (off : Bool) (l : List Int) (k : Int) (h0 : (n < 70368744177664)) (h1 : ((0 : Int) ≤ s)) (h2 : (s ≤ (n : Int))) (hl1_0 : l.length = n) (hk : ¬ k < 0) (hm : ¬ (n : Int) - s < k) (w : World) (rw : List Nat) (β : Env) : Body Tryz.prog (tabOf tabDA) Tryz.f9 ⟨w, rw, 2, β⟩ [.o (.a (.p 0 0)), .o (.a (.i .i64 k))] [bT [.rs 1 0 n 1, .i .i64 s, .b fsd, .i .i64 rf, .b off], bT [.ints .u8 n l]] (fun ys K' => ys = [] ∧ K' = [bT [.rs 1 0 (crN s k n) 1, .i .i64 (crI s k n), .b false, .i .i64 rf, .b false], bT [.ints .u8 (crN s k n) (crL s k n l)]]) :=
 Body.of_finK (Γ := gam403) (Λ := noLam) (Ψ := noPsi) (fuel := 0) (m := 49) (c := (Tryz.f9.body.getD .skip)) mix tabOkDA gam403_ok rfl (rs := []) rfl rfl [false, false] [.cutB 1 (Int.toNat (IntKind.i64.wrap (s + k))), .eqB 1 (⟨true, [.ints .u8 (crN s k n) (crL s k n l)]⟩), .eqB 0 (⟨true, [.rs 1 0 (crN s k n) 1, .i .i64 (crI s k n), .b false, .i .i64 rf, .b false]⟩)] 2
  (vc := [((bT [.rs 1 0 (Int.toNat (IntKind.i64.wrap (s + k))) 1, .i .i64 (((Int.toNat (IntKind.i64.wrap (s + k))) : Nat) : Int), .b false, .i .i64 rf, .b false] : Option Blk) = bT [.rs 1 0 (crN s k n) 1, .i .i64 (crI s k n), .b false, .i .i64 rf, .b false]), ((bT [.ints .u8 (Int.toNat (IntKind.i64.wrap (s + k))) (sub l 0 (Int.toNat (IntKind.i64.wrap (s + k))))] : Option Blk) = bT [.ints .u8 (crN s k n) (crL s k n l)]), ((Int.toNat (IntKind.i64.wrap (s + k))) ≤ n), ((cZ 0) ∧ ((0 : Int) ≤ (IntKind.i64.wrap (s + k))) ∧ ((IntKind.i64.wrap (s + k)) ≤ (n : Int))), ((decide (k > (IntKind.i64.wrap ((n : Int) - s)))) = false), ((decide (k < (0 : Int))) = false)]) (by kernel_rfl)
  (aC ((by rw [(show (((Int.toNat (IntKind.i64.wrap (s + k))) : Nat) : Int) = crI s k n from (by unfold crI; rw [if_neg hk, if_neg hm]; (simp (disch := omega) only [wrapI]); omega)), (show (Int.toNat (IntKind.i64.wrap (s + k))) = crN s k n from (by unfold crN crI; rw [if_neg hk, if_neg hm]; first | rfl | (simp (disch := omega) only [wrapI]; try omega) | omega))])) (aC ((by unfold crL; rw [(show (Int.toNat (IntKind.i64.wrap (s + k))) = crN s k n from (by unfold crN crI; rw [if_neg hk, if_neg hm]; first | rfl | (simp (disch := omega) only [wrapI]; try omega) | omega))])) (aC (by first|omega|(simp (disch:=omega) only [wrapI];omega)) (aC ⟨(dd rfl), (by first|omega|(simp (disch:=omega) only [wrapI];omega)), (by first|omega|(simp (disch:=omega) only [wrapI];omega))⟩ (aC (df (by first|omega|(simp (disch:=omega) only [wrapI];omega))) (aC (df (by first|omega|(simp (disch:=omega) only [wrapI];omega))) (AllP_nil)))))))

theorem rCra_body (n : Nat) (s : Int) (fsd : Bool) (rf : Int) (off : Bool) (l : List Int) (k : Int) (h0 : (n < 70368744177664)) (h1 : ((0 : Int) ≤ s)) (h2 : (s ≤ (n : Int))) (w : World) (rw : List Nat) (β : Env) : Body Tryz.prog (tabOf tabDA) Tryz.f9 ⟨w, rw, 2, β⟩ [.o (.a (.p 0 0)), .o (.a (.i .i64 k))] [bT [.rs 1 0 n 1, .i .i64 s, .b fsd, .i .i64 rf, .b off], bT [.ints .u8 n l]] (fun ys K' => ys = [] ∧ K' = [bT [.rs 1 0 (crN s k n) 1, .i .i64 (crI s k n), .b false, .i .i64 rf, .b false], bT [.ints .u8 (crN s k n) (crL s k n l)]]) :=
 Body.lens (c := (Tryz.f9.body.getD .skip)) rfl fun h => by
 by_cases hk : k < 0
 ·exact rcA_body0 n s fsd rf off l k h0 h1 h2 (h.lens 1 _ .u8 n l rfl (by simp)) hk w rw β
 ·by_cases hm : (n : Int) - s < k
  ·exact rcB_body0 n s fsd rf off l k h0 h1 h2 (h.lens 1 _ .u8 n l rfl (by simp)) hk hm w rw β
  ·exact rcC_body0 n s fsd rf off l k h0 h1 h2 (h.lens 1 _ .u8 n l rfl (by simp)) hk hm w rw β

end Go.Proofs.YtjmfnjgcofpocaaGreat.X

/- Printed by a tool of this session. -/
namespace Go.Proofs.YtjmfnjgcofpocaaGreat.X
open Go Go.Proofs
set_option linter.unusedVariables false
set_option linter.unusedSimpArgs false
set_option maxRecDepth 100000
set_option maxHeartbeats 8000000
theorem teSA_164 : TEOk Tryz.prog 164 ⟨.int .u64, 1, 8, [.i .u64 (0 : Int)], false⟩ :=
 TEOk.of Tryz.underlying164 (i := Tryz.t164) (by kernel_rfl) rfl rfl rfl (by kernel_rfl) (fun h => by cases h) (by kernel_rfl) (by kernel_rfl)
theorem teSA_225 : TEOk Tryz.prog 225 ⟨.int .u64, 1, 8, [.i .u64 (0 : Int)], false⟩ :=
 TEOk.of Tryz.underlying225 (i := Tryz.t225) (by kernel_rfl) rfl rfl rfl (by kernel_rfl) (fun h => by cases h) (by kernel_rfl) (by kernel_rfl)
theorem teSA_239 : TEOk Tryz.prog 239 ⟨.array 80 164, 80, 640, [.ints .u64 80 (List.replicate 80 (0 : Int))], true⟩ :=
 TEOk.of Tryz.underlying239 (i := Tryz.t239) (by kernel_rfl) rfl rfl rfl (by kernel_rfl) (fun _ => ⟨Tryz.eqGuardType239, by kernel_rfl, by kernel_rfl⟩) (by kernel_rfl) (by kernel_rfl)
theorem teSA_241 : TEOk Tryz.prog 241 ⟨.array 8 164, 8, 64, [.ints .u64 8 ([0, 0, 0, 0, 0, 0, 0, 0] : List Int)], true⟩ :=
 TEOk.of Tryz.underlying241 (i := Tryz.t241) (by kernel_rfl) rfl rfl rfl (by kernel_rfl) (fun _ => ⟨Tryz.eqGuardType241, by kernel_rfl, by kernel_rfl⟩) (by kernel_rfl) (by kernel_rfl)
noncomputable def tabSA : List (Nat × TE) := [(3, ⟨.int .i64, 1, 8, [.i .i64 0], false⟩), (5, ⟨.int .u8, 1, 1, [.i .u8 0], false⟩), (26, ⟨.slice 5, 1, 24, [nlA], false⟩), (164, ⟨.int .u64, 1, 8, [.i .u64 0], false⟩), (225, ⟨.int .u64, 1, 8, [.i .u64 0], false⟩), (239, ⟨.array 80 164, 80, 640, [.ints .u64 80 (List.replicate 80 (0 : Int))], true⟩), (241, ⟨.array 8 164, 8, 64, [.ints .u64 8 ([0, 0, 0, 0, 0, 0, 0, 0] : List Int)], true⟩)]
theorem tabOkSA : TabOk Tryz.prog (tabOf tabSA) := (tabOf_cons teDA_3 (tabOf_cons teDA_5 (tabOf_cons teDA_26 (tabOf_cons teSA_164 (tabOf_cons teSA_225 (tabOf_cons teSA_239 (tabOf_cons teSA_241 tabOf_nil)))))))

def rotl (x k : Int) : Int :=
 (bits2 .or .u64 (shl .u64 x (bits2 .and .u64 (IntKind.u64.wrap k) (63 : Int))) (shr .u64 x (IntKind.u64.wrap ((64 : Int) - (bits2 .and .u64 (IntKind.u64.wrap k) (63 : Int))))))

theorem rotl_body0 (x k : Int) (w : World) : Body Tryz.prog (tabOf tabSA) Tryz.f155 ⟨w, [], 0, noEnv⟩ (toA [.a (.i .u64 x), .a (.i .i64 k)]) [] (fun ys _ => ys = [.a (.i .u64 (rotl x k))]) :=
 Body.of_fin (Γ := gnil) (Λ := noLam) (Ψ := noPsi) (fuel := 0) (m := 17) (c := (Tryz.f155.body.getD .skip)) mix tabOkSA gnil_ok rfl (rs := [.tmp 4]) rfl rfl [] []
  (vc := [((0 : Int) ≤ (IntKind.u64.wrap ((64 : Int) - (bits2 .and .u64 (IntKind.u64.wrap k) (63 : Int))))), ((0 : Int) ≤ (bits2 .and .u64 (IntKind.u64.wrap k) (63 : Int)))]) (by kernel_rfl)
  (aC (wrap_nn (k := .u64) rfl) (aC (bits2_nn (k := .u64) rfl) (AllP_nil)))

theorem rotl_body (x k : Int) (w : World) : Body Tryz.prog (tabOf tabSA) Tryz.f155 ⟨w, [], 0, noEnv⟩ (toA [.a (.i .u64 x), .a (.i .i64 k)]) [] (fun ys _ => ys = [.a (.i .u64 (rotl x k))]) :=
 Body.lens (c := (Tryz.f155.body.getD .skip)) rfl fun h => rotl_body0 x k  w

theorem rotl_pure (x k : Int) : PureC Tryz.prog 155 [.a (.i .u64 x), .a (.i .i64 k)] [.a (.i .u64 (rotl x k))] :=
 PureC.of_body tabOkSA Tryz.func155 rfl rfl fun w => rotl_body x k w

def gam1 : Gam := gpure 155 (fun args => match args with | [.o (.a (.i .u64 x)), .o (.a (.i .i64 k))] => some (none, [.a (.i .u64 (rotl x k))]) | _ => none) gnil
theorem gam1_ok : GamOk Tryz.prog gam1 := gpure_ok gnil_ok Tryz.call155 (by
 intro args vc xs h hv
 split at h
 ·simp only [Option.some.injEq, Prod.mk.injEq] at h; obtain ⟨rfl, rfl⟩ := h; exact ⟨_, by rfl, rotl_pure _ _⟩
 ·simp at h)

def ror (x n : Int) : Int :=
 (rotl x (IntKind.i64.wrap ((0 : Int) - n)))

theorem ror_body0 (x n : Int) (w : World) : Body Tryz.prog (tabOf tabSA) Tryz.f147 ⟨w, [], 0, noEnv⟩ (toA [.a (.i .u64 x), .a (.i .i64 n)]) [] (fun ys _ => ys = [.a (.i .u64 (ror x n))]) :=
 Body.of_fin (Γ := gam1) (Λ := noLam) (Ψ := noPsi) (fuel := 0) (m := 9) (c := (Tryz.f147.body.getD .skip)) mix tabOkSA gam1_ok rfl (rs := [.tmp 4]) rfl rfl [] []
  (vc := []) (by kernel_rfl)
  (AllP_nil)

theorem ror_body (x n : Int) (w : World) : Body Tryz.prog (tabOf tabSA) Tryz.f147 ⟨w, [], 0, noEnv⟩ (toA [.a (.i .u64 x), .a (.i .i64 n)]) [] (fun ys _ => ys = [.a (.i .u64 (ror x n))]) :=
 Body.lens (c := (Tryz.f147.body.getD .skip)) rfl fun h => ror_body0 x n  w

theorem ror_pure (x n : Int) : PureC Tryz.prog 147 [.a (.i .u64 x), .a (.i .i64 n)] [.a (.i .u64 (ror x n))] :=
 PureC.of_body tabOkSA Tryz.func147 rfl rfl fun w => ror_body x n w

def gam2 : Gam := gpure 147 (fun args => match args with | [.o (.a (.i .u64 x)), .o (.a (.i .i64 n))] => some (none, [.a (.i .u64 (ror x n))]) | _ => none) gam1
theorem gam2_ok : GamOk Tryz.prog gam2 := gpure_ok gam1_ok Tryz.call147 (by
 intro args vc xs h hv
 split at h
 ·simp only [Option.some.injEq, Prod.mk.injEq] at h; obtain ⟨rfl, rfl⟩ := h; exact ⟨_, by rfl, ror_pure _ _⟩
 ·simp at h)

def konst : List Int :=
 (List.set (List.set (List.set (List.set (List.set (List.set (List.set (List.set (List.set (List.set (List.set (List.set (List.set (List.set (List.set (List.set (List.set (List.set (List.set (List.set (List.set (List.set (List.set (List.set (List.set (List.set (List.set (List.set (List.set (List.set (List.set (List.set (List.set (List.set (List.set (List.set (List.set (List.set (List.set (List.set (List.set (List.set (List.set (List.set (List.set (List.set (List.set (List.set (List.set (List.set (List.set (List.set (List.set (List.set (List.set (List.set (List.set (List.set (List.set (List.set (List.set (List.set (List.set (List.set (List.set (List.set (List.set (List.set (List.set (List.set (List.set (List.set (List.set (List.set (List.set (List.set (List.set (List.set (List.set (List.set (List.replicate 80 (0 : Int)) 0 (4794697086780616226 : Int)) 1 (8158064640168781261 : Int)) 2 (13096744586834688815 : Int)) 3 (16840607885511220156 : Int)) 4 (4131703408338449720 : Int)) 5 (6480981068601479193 : Int)) 6 (10538285296894168987 : Int)) 7 (12329834152419229976 : Int)) 8 (15566598209576043074 : Int)) 9 (1334009975649890238 : Int)) 10 (2608012711638119052 : Int)) 11 (6128411473006802146 : Int)) 12 (8268148722764581231 : Int)) 13 (9286055187155687089 : Int)) 14 (11230858885718282805 : Int)) 15 (13951009754708518548 : Int)) 16 (16472876342353939154 : Int)) 17 (17275323862435702243 : Int)) 18 (1135362057144423861 : Int)) 19 (2597628984639134821 : Int)) 20 (3308224258029322869 : Int)) 21 (5365058923640841347 : Int)) 22 (6679025012923562964 : Int)) 23 (8573033837759648693 : Int)) 24 (10970295158949994411 : Int)) 25 (12119686244451234320 : Int)) 26 (12683024718118986047 : Int)) 27 (13788192230050041572 : Int)) 28 (14330467153632333762 : Int)) 29 (15395433587784984357 : Int)) 30 (489312712824947311 : Int)) 31 (1452737877330783856 : Int)) 32 (2861767655752347644 : Int)) 33 (3322285676063803686 : Int)) 34 (5560940570517711597 : Int)) 35 (5996557281743188959 : Int)) 36 (7280758554555802590 : Int)) 37 (8532644243296465576 : Int)) 38 (9350256976987008742 : Int)) 39 (10552545826968843579 : Int)) 40 (11727347734174303076 : Int)) 41 (12113106623233404929 : Int)) 42 (14000437183269869457 : Int)) 43 (14369950271660146224 : Int)) 44 (15101387698204529176 : Int)) 45 (15463397548674623760 : Int)) 46 (17586052441742319658 : Int)) 47 (1182934255886127544 : Int)) 48 (1847814050463011016 : Int)) 49 (2177327727835720531 : Int)) 50 (2830643537854262169 : Int)) 51 (3796741975233480872 : Int)) 52 (4115178125766777443 : Int)) 53 (5681478168544905931 : Int)) 54 (6601373596472566643 : Int)) 55 (7507060721942968483 : Int)) 56 (8399075790359081724 : Int)) 57 (8693463985226723168 : Int)) 58 (9568029438360202098 : Int)) 59 (10144078919501101548 : Int)) 60 (10430055236837252648 : Int)) 61 (11840083180663258601 : Int)) 62 (13761210420658862357 : Int)) 63 (14299343276471374635 : Int)) 64 (14566680578165727644 : Int)) 65 (15097957966210449927 : Int)) 66 (16922976911328602910 : Int)) 67 (17689382322260857208 : Int)) 68 (500013540394364858 : Int)) 69 (748580250866718886 : Int)) 70 (1242879168328830382 : Int)) 71 (1977374033974150939 : Int)) 72 (2944078676154940804 : Int)) 73 (3659926193048069267 : Int)) 74 (4368137639120453308 : Int)) 75 (4836135668995329356 : Int)) 76 (5532061633213252278 : Int)) 77 (6448918945643986474 : Int)) 78 (6902733635092675308 : Int)) 79 (7801388544844847127 : Int))

theorem konst_body0 (w : World) : Body Tryz.prog (tabOf tabSA) Tryz.f132 ⟨w, [], 0, noEnv⟩ (toA []) [] (fun ys _ => ys = [.g [.ints .u64 80 (konst)]]) :=
 Body.of_fin (Γ := gam2) (Λ := noLam) (Ψ := noPsi) (fuel := 0) (m := 2) (c := (Tryz.f132.body.getD .skip)) mix tabOkSA gam2_ok rfl (rs := [.cell 0 239]) rfl rfl [] []
  (vc := []) (by kernel_rfl)
  (AllP_nil)

theorem konst_body (w : World) : Body Tryz.prog (tabOf tabSA) Tryz.f132 ⟨w, [], 0, noEnv⟩ (toA []) [] (fun ys _ => ys = [.g [.ints .u64 80 (konst)]]) :=
 Body.lens (c := (Tryz.f132.body.getD .skip)) rfl fun h => konst_body0  w

theorem konst_pure : PureC Tryz.prog 132 [] [.g [.ints .u64 80 (konst)]] :=
 PureC.of_body tabOkSA Tryz.func132 rfl rfl fun w => konst_body w

def gam3 : Gam := gpure 132 (fun args => match args with | [] => some (none, [.g [.ints .u64 (80 : Nat) (konst)]]) | _ => none) gam2
theorem gam3_ok : GamOk Tryz.prog gam3 := gpure_ok gam2_ok Tryz.call132 (by
 intro args vc xs h hv
 split at h
 ·simp only [Option.some.injEq, Prod.mk.injEq] at h; obtain ⟨rfl, rfl⟩ := h; exact ⟨_, by rfl, konst_pure⟩
 ·simp at h)

theorem beg_body0 (w : World) : Body Tryz.prog (tabOf tabSA) Tryz.f133 ⟨w, [], 0, noEnv⟩ (toA []) [] (fun ys _ => ys = [.g [.ints .u64 8 ([7640891576956012808, 13503953896175478587, 4354685564936845355, 11912009170470909681, 5840696475078001361, 11170449401992604703, 2270897969802886507, 6620516959819538809] : List Int)]]) :=
 Body.of_fin (Γ := gam3) (Λ := noLam) (Ψ := noPsi) (fuel := 0) (m := 2) (c := (Tryz.f133.body.getD .skip)) mix tabOkSA gam3_ok rfl (rs := [.cell 0 241]) rfl rfl [] []
  (vc := []) (by kernel_rfl)
  (AllP_nil)

theorem beg_body (w : World) : Body Tryz.prog (tabOf tabSA) Tryz.f133 ⟨w, [], 0, noEnv⟩ (toA []) [] (fun ys _ => ys = [.g [.ints .u64 8 ([7640891576956012808, 13503953896175478587, 4354685564936845355, 11912009170470909681, 5840696475078001361, 11170449401992604703, 2270897969802886507, 6620516959819538809] : List Int)]]) :=
 Body.lens (c := (Tryz.f133.body.getD .skip)) rfl fun h => beg_body0  w

theorem beg_pure : PureC Tryz.prog 133 [] [.g [.ints .u64 8 ([7640891576956012808, 13503953896175478587, 4354685564936845355, 11912009170470909681, 5840696475078001361, 11170449401992604703, 2270897969802886507, 6620516959819538809] : List Int)]] :=
 PureC.of_body tabOkSA Tryz.func133 rfl rfl fun w => beg_body w

def gam4 : Gam := gpure 133 (fun args => match args with | [] => some (none, [.g [.ints .u64 8 ([7640891576956012808, 13503953896175478587, 4354685564936845355, 11912009170470909681, 5840696475078001361, 11170449401992604703, 2270897969802886507, 6620516959819538809] : List Int)]]) | _ => none) gam3
theorem gam4_ok : GamOk Tryz.prog gam4 := gpure_ok gam3_ok Tryz.call133 (by
 intro args vc xs h hv
 split at h
 ·simp only [Option.some.injEq, Prod.mk.injEq] at h; obtain ⟨rfl, rfl⟩ := h; exact ⟨_, by rfl, beg_pure⟩
 ·simp at h)

def bW1_mk (S : List Int) (n nm : Nat) (b C : List Int) (cap0 k : Nat) (s : (List Int)) : St := ⟨sparse 182 [(0, .o (.g [.ints .u64 8 S])), (1, .o (.a (.sl 0 0 n cap0))), (2, .o (.a (.p 1 0))), (3, .o (.a (.p 2 0))), (6, .o (.a (.p 3 0))), (7, .o (.a (.p 4 0))), (20, .o (.a (.i .i64 (k : Int))))], [bF [.ints .u8 nm b], bF [.ints .u64 80 C], bT [.ints .u64 8 S], bT [.ints .u64 8 ([0, 0, 0, 0, 0, 0, 0, 0] : List Int)], bT [.ints .u64 80 s]]⟩

def bW1_step (b : List Int) (k : Nat) (s : (List Int)) : (List Int) :=
 let z0 : Int := (IntKind.i64.wrap ((8 : Int) * (k : Int)))
 let z1 : List Int := (List.set s k (bits2 .or .u64 (shl .u64 (List.getD s k 0) (8 : Int)) (IntKind.u64.wrap (List.getD b (Int.toNat (IntKind.i64.wrap (z0 + (0 : Int)))) 0))))
 let z2 : List Int := (List.set z1 k (bits2 .or .u64 (shl .u64 (List.getD z1 k 0) (8 : Int)) (IntKind.u64.wrap (List.getD b (Int.toNat (IntKind.i64.wrap (z0 + (1 : Int)))) 0))))
 let z3 : List Int := (List.set z2 k (bits2 .or .u64 (shl .u64 (List.getD z2 k 0) (8 : Int)) (IntKind.u64.wrap (List.getD b (Int.toNat (IntKind.i64.wrap (z0 + (2 : Int)))) 0))))
 let z4 : List Int := (List.set z3 k (bits2 .or .u64 (shl .u64 (List.getD z3 k 0) (8 : Int)) (IntKind.u64.wrap (List.getD b (Int.toNat (IntKind.i64.wrap (z0 + (3 : Int)))) 0))))
 let z5 : List Int := (List.set z4 k (bits2 .or .u64 (shl .u64 (List.getD z4 k 0) (8 : Int)) (IntKind.u64.wrap (List.getD b (Int.toNat (IntKind.i64.wrap (z0 + (4 : Int)))) 0))))
 let z6 : List Int := (List.set z5 k (bits2 .or .u64 (shl .u64 (List.getD z5 k 0) (8 : Int)) (IntKind.u64.wrap (List.getD b (Int.toNat (IntKind.i64.wrap (z0 + (5 : Int)))) 0))))
 let z7 : List Int := (List.set z6 k (bits2 .or .u64 (shl .u64 (List.getD z6 k 0) (8 : Int)) (IntKind.u64.wrap (List.getD b (Int.toNat (IntKind.i64.wrap (z0 + (6 : Int)))) 0))))
 ((List.set z7 k (bits2 .or .u64 (shl .u64 (List.getD z7 k 0) (8 : Int)) (IntKind.u64.wrap (List.getD b (Int.toNat (IntKind.i64.wrap (z0 + (7 : Int)))) 0)))))

theorem bW1_round (S : List Int) (n nm : Nat) (b C : List Int) (cap0 : Nat) (h0 : (nm = n)) (h1 : (n = 128)) (hc0 : n ≤ cap0) (hl0_0 : b.length = nm) (hl1_0 : C.length = 80) (hv0 : S.length = 8) (w : World) (β : Env) (k : Nat) (hk : k < 16) (s : (List Int)) : Run Tryz.prog ⟨w, [], 2, β⟩ (loopB Tryz.f135 0) (bW1_mk S n nm b C cap0 k s) (To ⟨w, [], 2, β⟩ .normal (bW1_mk S n nm b C cap0 (k + 1) (bW1_step b k s))) := by
 have e0 := wrap_succ (n := k) (by omega)
 have h := Run.of_outT (B := ⟨w, [], 2, β⟩) (Λ := noLam) (Ψ := noPsi) (fuel := 9) (ora := [true, true, true, true, true, true, true, true, true, false]) (c := (loopB Tryz.f135 0)) (st := (bW1_mk S n nm b C cap0 k s)) (l := [.forget [0, 1, 2, 3, 6, 7, 20] 5]) (s' := ⟨sparse 182 [(0, .o (.g [.ints .u64 8 S])), (1, .o (.a (.sl 0 0 n cap0))), (2, .o (.a (.p 1 0))), (3, .o (.a (.p 2 0))), (6, .o (.a (.p 3 0))), (7, .o (.a (.p 4 0))), (20, .o (.a (.i .i64 (IntKind.i64.wrap ((k : Int) + 1)))))], [bF [.ints .u8 nm b], bF [.ints .u64 80 C], bT [.ints .u64 8 S], bT [.ints .u64 8 ([0, 0, 0, 0, 0, 0, 0, 0] : List Int)], bT [.ints .u64 80 (bW1_step b k s)]]⟩) (ex := .normal) mix tabOkSA gam4_ok
  (vc := (let p0_ : Prop := ((0 ≤ (k : Int)) ∧ ((k : Int) < 80)); [(false = false), (k < 80), p0_, ((Int.toNat (IntKind.i64.wrap ((IntKind.i64.wrap ((8 : Int) * (k : Int))) + 7))) < nm), (((0 : Int) ≤ (IntKind.i64.wrap ((IntKind.i64.wrap ((8 : Int) * (k : Int))) + 7))) ∧ ((IntKind.i64.wrap ((IntKind.i64.wrap ((8 : Int) * (k : Int))) + 7)) < (n : Int))), (cZ 8), (k < 80), p0_, cT, (k < 80), p0_, ((Int.toNat (IntKind.i64.wrap ((IntKind.i64.wrap ((8 : Int) * (k : Int))) + 6))) < nm), (((0 : Int) ≤ (IntKind.i64.wrap ((IntKind.i64.wrap ((8 : Int) * (k : Int))) + 6))) ∧ ((IntKind.i64.wrap ((IntKind.i64.wrap ((8 : Int) * (k : Int))) + 6)) < (n : Int))), (cZ 8), (k < 80), p0_, cT, (k < 80), p0_, ((Int.toNat (IntKind.i64.wrap ((IntKind.i64.wrap ((8 : Int) * (k : Int))) + 5))) < nm), (((0 : Int) ≤ (IntKind.i64.wrap ((IntKind.i64.wrap ((8 : Int) * (k : Int))) + 5))) ∧ ((IntKind.i64.wrap ((IntKind.i64.wrap ((8 : Int) * (k : Int))) + 5)) < (n : Int))), (cZ 8), (k < 80), p0_, cT, (k < 80), p0_, ((Int.toNat (IntKind.i64.wrap ((IntKind.i64.wrap ((8 : Int) * (k : Int))) + 4))) < nm), (((0 : Int) ≤ (IntKind.i64.wrap ((IntKind.i64.wrap ((8 : Int) * (k : Int))) + 4))) ∧ ((IntKind.i64.wrap ((IntKind.i64.wrap ((8 : Int) * (k : Int))) + 4)) < (n : Int))), (cZ 8), (k < 80), p0_, cT, (k < 80), p0_, ((Int.toNat (IntKind.i64.wrap ((IntKind.i64.wrap ((8 : Int) * (k : Int))) + 3))) < nm), (((0 : Int) ≤ (IntKind.i64.wrap ((IntKind.i64.wrap ((8 : Int) * (k : Int))) + 3))) ∧ ((IntKind.i64.wrap ((IntKind.i64.wrap ((8 : Int) * (k : Int))) + 3)) < (n : Int))), (cZ 8), (k < 80), p0_, cT, (k < 80), p0_, ((Int.toNat (IntKind.i64.wrap ((IntKind.i64.wrap ((8 : Int) * (k : Int))) + 2))) < nm), (((0 : Int) ≤ (IntKind.i64.wrap ((IntKind.i64.wrap ((8 : Int) * (k : Int))) + 2))) ∧ ((IntKind.i64.wrap ((IntKind.i64.wrap ((8 : Int) * (k : Int))) + 2)) < (n : Int))), (cZ 8), (k < 80), p0_, cT, (k < 80), p0_, ((Int.toNat (IntKind.i64.wrap ((IntKind.i64.wrap ((8 : Int) * (k : Int))) + 1))) < nm), (((0 : Int) ≤ (IntKind.i64.wrap ((IntKind.i64.wrap ((8 : Int) * (k : Int))) + 1))) ∧ ((IntKind.i64.wrap ((IntKind.i64.wrap ((8 : Int) * (k : Int))) + 1)) < (n : Int))), (cZ 8), (k < 80), p0_, cT, (k < 80), p0_, ((Int.toNat (IntKind.i64.wrap ((IntKind.i64.wrap ((8 : Int) * (k : Int))) + 0))) < nm), (((0 : Int) ≤ (IntKind.i64.wrap ((IntKind.i64.wrap ((8 : Int) * (k : Int))) + 0))) ∧ ((IntKind.i64.wrap ((IntKind.i64.wrap ((8 : Int) * (k : Int))) + 0)) < (n : Int))), (cZ 8), (k < 80), p0_, cT, ((decide ((k : Int) < 16)) = true)])) (by kernel_rfl)
  (aC rfl (aC (by first|omega|(simp (disch:=omega) only [wrapI];omega)) (aC ⟨(by first|omega|(simp (disch:=omega) only [wrapI];omega)), (by first|omega|(simp (disch:=omega) only [wrapI];omega))⟩ (aC (by first|omega|(simp (disch:=omega) only [wrapI];omega)) (aC ⟨(by first|omega|(simp (disch:=omega) only [wrapI];omega)), (by first|omega|(simp (disch:=omega) only [wrapI];omega))⟩ (aC (dd rfl) (aC (by first|omega|(simp (disch:=omega) only [wrapI];omega)) (aC ⟨(by first|omega|(simp (disch:=omega) only [wrapI];omega)), (by first|omega|(simp (disch:=omega) only [wrapI];omega))⟩ (aC rfl (aC (by first|omega|(simp (disch:=omega) only [wrapI];omega)) (aC ⟨(by first|omega|(simp (disch:=omega) only [wrapI];omega)), (by first|omega|(simp (disch:=omega) only [wrapI];omega))⟩ (aC (by first|omega|(simp (disch:=omega) only [wrapI];omega)) (aC ⟨(by first|omega|(simp (disch:=omega) only [wrapI];omega)), (by first|omega|(simp (disch:=omega) only [wrapI];omega))⟩ (aC (dd rfl) (aC (by first|omega|(simp (disch:=omega) only [wrapI];omega)) (aC ⟨(by first|omega|(simp (disch:=omega) only [wrapI];omega)), (by first|omega|(simp (disch:=omega) only [wrapI];omega))⟩ (aC rfl (aC (by first|omega|(simp (disch:=omega) only [wrapI];omega)) (aC ⟨(by first|omega|(simp (disch:=omega) only [wrapI];omega)), (by first|omega|(simp (disch:=omega) only [wrapI];omega))⟩ (aC (by first|omega|(simp (disch:=omega) only [wrapI];omega)) (aC ⟨(by first|omega|(simp (disch:=omega) only [wrapI];omega)), (by first|omega|(simp (disch:=omega) only [wrapI];omega))⟩ (aC (dd rfl) (aC (by first|omega|(simp (disch:=omega) only [wrapI];omega)) (aC ⟨(by first|omega|(simp (disch:=omega) only [wrapI];omega)), (by first|omega|(simp (disch:=omega) only [wrapI];omega))⟩ (aC rfl (aC (by first|omega|(simp (disch:=omega) only [wrapI];omega)) (aC ⟨(by first|omega|(simp (disch:=omega) only [wrapI];omega)), (by first|omega|(simp (disch:=omega) only [wrapI];omega))⟩ (aC (by first|omega|(simp (disch:=omega) only [wrapI];omega)) (aC ⟨(by first|omega|(simp (disch:=omega) only [wrapI];omega)), (by first|omega|(simp (disch:=omega) only [wrapI];omega))⟩ (aC (dd rfl) (aC (by first|omega|(simp (disch:=omega) only [wrapI];omega)) (aC ⟨(by first|omega|(simp (disch:=omega) only [wrapI];omega)), (by first|omega|(simp (disch:=omega) only [wrapI];omega))⟩ (aC rfl (aC (by first|omega|(simp (disch:=omega) only [wrapI];omega)) (aC ⟨(by first|omega|(simp (disch:=omega) only [wrapI];omega)), (by first|omega|(simp (disch:=omega) only [wrapI];omega))⟩ (aC (by first|omega|(simp (disch:=omega) only [wrapI];omega)) (aC ⟨(by first|omega|(simp (disch:=omega) only [wrapI];omega)), (by first|omega|(simp (disch:=omega) only [wrapI];omega))⟩ (aC (dd rfl) (aC (by first|omega|(simp (disch:=omega) only [wrapI];omega)) (aC ⟨(by first|omega|(simp (disch:=omega) only [wrapI];omega)), (by first|omega|(simp (disch:=omega) only [wrapI];omega))⟩ (aC rfl (aC (by first|omega|(simp (disch:=omega) only [wrapI];omega)) (aC ⟨(by first|omega|(simp (disch:=omega) only [wrapI];omega)), (by first|omega|(simp (disch:=omega) only [wrapI];omega))⟩ (aC (by first|omega|(simp (disch:=omega) only [wrapI];omega)) (aC ⟨(by first|omega|(simp (disch:=omega) only [wrapI];omega)), (by first|omega|(simp (disch:=omega) only [wrapI];omega))⟩ (aC (dd rfl) (aC (by first|omega|(simp (disch:=omega) only [wrapI];omega)) (aC ⟨(by first|omega|(simp (disch:=omega) only [wrapI];omega)), (by first|omega|(simp (disch:=omega) only [wrapI];omega))⟩ (aC rfl (aC (by first|omega|(simp (disch:=omega) only [wrapI];omega)) (aC ⟨(by first|omega|(simp (disch:=omega) only [wrapI];omega)), (by first|omega|(simp (disch:=omega) only [wrapI];omega))⟩ (aC (by first|omega|(simp (disch:=omega) only [wrapI];omega)) (aC ⟨(by first|omega|(simp (disch:=omega) only [wrapI];omega)), (by first|omega|(simp (disch:=omega) only [wrapI];omega))⟩ (aC (dd rfl) (aC (by first|omega|(simp (disch:=omega) only [wrapI];omega)) (aC ⟨(by first|omega|(simp (disch:=omega) only [wrapI];omega)), (by first|omega|(simp (disch:=omega) only [wrapI];omega))⟩ (aC rfl (aC (by first|omega|(simp (disch:=omega) only [wrapI];omega)) (aC ⟨(by first|omega|(simp (disch:=omega) only [wrapI];omega)), (by first|omega|(simp (disch:=omega) only [wrapI];omega))⟩ (aC (by first|omega|(simp (disch:=omega) only [wrapI];omega)) (aC ⟨(by first|omega|(simp (disch:=omega) only [wrapI];omega)), (by first|omega|(simp (disch:=omega) only [wrapI];omega))⟩ (aC (dd rfl) (aC (by first|omega|(simp (disch:=omega) only [wrapI];omega)) (aC ⟨(by first|omega|(simp (disch:=omega) only [wrapI];omega)), (by first|omega|(simp (disch:=omega) only [wrapI];omega))⟩ (aC rfl (aC (dt (by first|omega|(simp (disch:=omega) only [wrapI];omega))) (AllP_nil)))))))))))))))))))))))))))))))))))))))))))))))))))))))))))))))))))
 rw [e0] at h
 exact h

theorem bW1_last (S : List Int) (n nm : Nat) (b C : List Int) (cap0 : Nat) (h0 : (nm = n)) (h1 : (n = 128)) (hc0 : n ≤ cap0) (hl0_0 : b.length = nm) (hl1_0 : C.length = 80) (hv0 : S.length = 8) (w : World) (β : Env) (s : (List Int)) : Run Tryz.prog ⟨w, [], 2, β⟩ (loopB Tryz.f135 0) (bW1_mk S n nm b C cap0 16 s) (To ⟨w, [], 2, β⟩ (.exit 0) (bW1_mk S n nm b C cap0 16 s)) :=
 Run.of_outT (Λ := noLam) (Ψ := noPsi) (fuel := 0) (ora := [false]) (l := [.forget [0, 1, 2, 3, 6, 7, 20] 5]) mix tabOkSA gam4_ok
  (vc := [(false = false)]) (by kernel_rfl)
  (aC rfl (AllP_nil))

theorem bW1_loop (S : List Int) (n nm : Nat) (b C : List Int) (cap0 : Nat) (h0 : (nm = n)) (h1 : (n = 128)) (hc0 : n ≤ cap0) (hl0_0 : b.length = nm) (hl1_0 : C.length = 80) (hv0 : S.length = 8) (w : World) (β : Env) (s : (List Int)) : Run Tryz.prog ⟨w, [], 2, β⟩ (.block 0 (.loop (loopB Tryz.f135 0))) (bW1_mk S n nm b C cap0 0 s) (To ⟨w, [], 2, β⟩ .normal (bW1_mk S n nm b C cap0 16 (iter (bW1_step b) 16 s))) :=
 Run.count (fun k => bW1_mk S n nm b C cap0 k (iter (bW1_step b) k s)) 16 (fun k hk => bW1_round S n nm b C cap0 h0 h1 hc0 hl0_0 hl1_0 hv0 w β k hk _) (ex := (.exit 0)) (by simp) (bW1_last S n nm b C cap0 h0 h1 hc0 hl0_0 hl1_0 hv0 w β _)

def bW1_out0 (b i0 : List Int) : List Int := (iter (bW1_step b) 16 (i0))

def bW2_mk (S : List Int) (n nm : Nat) (b C : List Int) (cap0 k : Nat) (s : (List Int)) : St := ⟨sparse 182 [(0, .o (.g [.ints .u64 8 S])), (1, .o (.a (.sl 0 0 n cap0))), (2, .o (.a (.p 1 0))), (3, .o (.a (.p 2 0))), (6, .o (.a (.p 3 0))), (7, .o (.a (.p 4 0))), (10, .o (.a (.i .i64 (((16 + k) : Nat) : Int)))), (20, .o (.a (.i .i64 16)))], [bF [.ints .u8 nm b], bF [.ints .u64 80 C], bT [.ints .u64 8 S], bT [.ints .u64 8 ([0, 0, 0, 0, 0, 0, 0, 0] : List Int)], bT [.ints .u64 80 s]]⟩

def bW2_step (k : Nat) (s : (List Int)) : (List Int) :=
 let z0 : Int := (List.getD s (Int.toNat (IntKind.i64.wrap ((((16 + k) : Nat) : Int) - 2))) 0)
 let z1 : Int := (List.getD s (Int.toNat (IntKind.i64.wrap ((((16 + k) : Nat) : Int) - 15))) 0)
 ((List.set s (16 + k) (IntKind.u64.wrap ((IntKind.u64.wrap ((IntKind.u64.wrap ((List.getD s (Int.toNat (IntKind.i64.wrap ((((16 + k) : Nat) : Int) - 16))) 0) + (bits2 .xor .u64 (bits2 .xor .u64 (ror z1 (1 : Int)) (ror z1 (8 : Int))) (shr .u64 z1 (7 : Int))))) + (List.getD s (Int.toNat (IntKind.i64.wrap ((((16 + k) : Nat) : Int) - 7))) 0))) + (bits2 .xor .u64 (bits2 .xor .u64 (ror z0 (19 : Int)) (ror z0 (61 : Int))) (shr .u64 z0 (6 : Int)))))))

theorem bW2_round (S : List Int) (n nm : Nat) (b C : List Int) (cap0 : Nat) (h0 : (nm = n)) (h1 : (n = 128)) (hc0 : n ≤ cap0) (hl0_0 : b.length = nm) (hl1_0 : C.length = 80) (hv0 : S.length = 8) (w : World) (β : Env) (k : Nat) (hk : k < 64) (s : (List Int)) : Run Tryz.prog ⟨w, [], 2, β⟩ (loopB Tryz.f135 4) (bW2_mk S n nm b C cap0 k s) (To ⟨w, [], 2, β⟩ .normal (bW2_mk S n nm b C cap0 (k + 1) (bW2_step k s))) := by
 have e0 : (IntKind.i64.wrap (((((16 : Nat) + k) : Nat) : Int) + (1 : Int))) = ((((16 : Nat) + (k + (1 : Nat))) : Nat) : Int) := (by first | rfl | exact wrap_succ (by omega) | omega | (simp (disch := omega) only [wrapI]; omega))
 have h := Run.of_outT (B := ⟨w, [], 2, β⟩) (Λ := noLam) (Ψ := noPsi) (fuel := 0) (ora := [true]) (c := (loopB Tryz.f135 4)) (st := (bW2_mk S n nm b C cap0 k s)) (l := [.forget [0, 1, 2, 3, 6, 7, 10, 20] 5]) (s' := ⟨sparse 182 [(0, .o (.g [.ints .u64 8 S])), (1, .o (.a (.sl 0 0 n cap0))), (2, .o (.a (.p 1 0))), (3, .o (.a (.p 2 0))), (6, .o (.a (.p 3 0))), (7, .o (.a (.p 4 0))), (10, .o (.a (.i .i64 (IntKind.i64.wrap ((((16 + k) : Nat) : Int) + 1))))), (20, .o (.a (.i .i64 16)))], [bF [.ints .u8 nm b], bF [.ints .u64 80 C], bT [.ints .u64 8 S], bT [.ints .u64 8 ([0, 0, 0, 0, 0, 0, 0, 0] : List Int)], bT [.ints .u64 80 (bW2_step k s)]]⟩) (ex := .normal) mix tabOkSA gam4_ok
  (vc := [((16 + k) < 80), ((0 ≤ (((16 + k) : Nat) : Int)) ∧ ((((16 + k) : Nat) : Int) < 80)), (cZ 6), ((Int.toNat (IntKind.i64.wrap ((((16 + k) : Nat) : Int) - 7))) < 80), (((0 : Int) ≤ (IntKind.i64.wrap ((((16 + k) : Nat) : Int) - 7))) ∧ ((IntKind.i64.wrap ((((16 + k) : Nat) : Int) - 7)) < 80)), (cZ 7), ((Int.toNat (IntKind.i64.wrap ((((16 + k) : Nat) : Int) - 16))) < 80), (((0 : Int) ≤ (IntKind.i64.wrap ((((16 + k) : Nat) : Int) - 16))) ∧ ((IntKind.i64.wrap ((((16 + k) : Nat) : Int) - 16)) < 80)), ((Int.toNat (IntKind.i64.wrap ((((16 + k) : Nat) : Int) - 2))) < 80), (((0 : Int) ≤ (IntKind.i64.wrap ((((16 + k) : Nat) : Int) - 2))) ∧ ((IntKind.i64.wrap ((((16 + k) : Nat) : Int) - 2)) < 80)), ((Int.toNat (IntKind.i64.wrap ((((16 + k) : Nat) : Int) - 15))) < 80), (((0 : Int) ≤ (IntKind.i64.wrap ((((16 + k) : Nat) : Int) - 15))) ∧ ((IntKind.i64.wrap ((((16 + k) : Nat) : Int) - 15)) < 80)), ((decide ((((16 + k) : Nat) : Int) < 80)) = true)]) (by kernel_rfl)
  (aC (by first|omega|(simp (disch:=omega) only [wrapI];omega)) (aC ⟨(by first|omega|(simp (disch:=omega) only [wrapI];omega)), (by first|omega|(simp (disch:=omega) only [wrapI];omega))⟩ (aC (dd rfl) (aC (by first|omega|(simp (disch:=omega) only [wrapI];omega)) (aC ⟨(by first|omega|(simp (disch:=omega) only [wrapI];omega)), (by first|omega|(simp (disch:=omega) only [wrapI];omega))⟩ (aC (dd rfl) (aC (by first|omega|(simp (disch:=omega) only [wrapI];omega)) (aC ⟨(by first|omega|(simp (disch:=omega) only [wrapI];omega)), (by first|omega|(simp (disch:=omega) only [wrapI];omega))⟩ (aC (by first|omega|(simp (disch:=omega) only [wrapI];omega)) (aC ⟨(by first|omega|(simp (disch:=omega) only [wrapI];omega)), (by first|omega|(simp (disch:=omega) only [wrapI];omega))⟩ (aC (by first|omega|(simp (disch:=omega) only [wrapI];omega)) (aC ⟨(by first|omega|(simp (disch:=omega) only [wrapI];omega)), (by first|omega|(simp (disch:=omega) only [wrapI];omega))⟩ (aC (dt (by first|omega|(simp (disch:=omega) only [wrapI];omega))) (AllP_nil))))))))))))))
 rw [e0] at h
 exact h

theorem bW2_last (S : List Int) (n nm : Nat) (b C : List Int) (cap0 : Nat) (h0 : (nm = n)) (h1 : (n = 128)) (hc0 : n ≤ cap0) (hl0_0 : b.length = nm) (hl1_0 : C.length = 80) (hv0 : S.length = 8) (w : World) (β : Env) (s : (List Int)) : Run Tryz.prog ⟨w, [], 2, β⟩ (loopB Tryz.f135 4) (bW2_mk S n nm b C cap0 64 s) (To ⟨w, [], 2, β⟩ (.exit 4) (bW2_mk S n nm b C cap0 64 s)) :=
 Run.of_outT (Λ := noLam) (Ψ := noPsi) (fuel := 0) (ora := [false]) (l := [.forget [0, 1, 2, 3, 6, 7, 10, 20] 5]) mix tabOkSA gam4_ok
  (vc := [(false = false)]) (by kernel_rfl)
  (aC rfl (AllP_nil))

theorem bW2_loop (S : List Int) (n nm : Nat) (b C : List Int) (cap0 : Nat) (h0 : (nm = n)) (h1 : (n = 128)) (hc0 : n ≤ cap0) (hl0_0 : b.length = nm) (hl1_0 : C.length = 80) (hv0 : S.length = 8) (w : World) (β : Env) (s : (List Int)) : Run Tryz.prog ⟨w, [], 2, β⟩ (.block 4 (.loop (loopB Tryz.f135 4))) (bW2_mk S n nm b C cap0 0 s) (To ⟨w, [], 2, β⟩ .normal (bW2_mk S n nm b C cap0 64 (iter (bW2_step) 64 s))) :=
 Run.count (fun k => bW2_mk S n nm b C cap0 k (iter (bW2_step) k s)) 64 (fun k hk => bW2_round S n nm b C cap0 h0 h1 hc0 hl0_0 hl1_0 hv0 w β k hk _) (ex := (.exit 4)) (by simp) (bW2_last S n nm b C cap0 h0 h1 hc0 hl0_0 hl1_0 hv0 w β _)

def bW2_out0 (i0 : List Int) : List Int := (iter (bW2_step) 64 (i0))

def bT_mk (S : List Int) (n nm : Nat) (b C : List Int) (cap0 k : Nat) (s : (List Int)) : St := ⟨sparse 182 [(0, .o (.g [.ints .u64 8 S])), (1, .o (.a (.sl 0 0 n cap0))), (2, .o (.a (.p 1 0))), (3, .o (.a (.p 2 0))), (6, .o (.a (.p 3 0))), (7, .o (.a (.p 4 0))), (10, .o (.a (.i .i64 80))), (13, .o (.a (.p 5 0))), (20, .o (.a (.i .i64 16))), (84, .o (.g [.ints .u64 8 S])), (85, .o (.a (.i .i64 (k : Int))))], [bF [.ints .u8 nm b], bF [.ints .u64 80 C], bT [.ints .u64 8 S], bT [.ints .u64 8 ([0, 0, 0, 0, 0, 0, 0, 0] : List Int)], bT [.ints .u64 80 (bW2_out0 (bW1_out0 b (List.replicate 80 (0 : Int))))], bT [.ints .u64 8 s]]⟩

def bT_step (b C : List Int) (k : Nat) (s : (List Int)) : (List Int) :=
 let z0 : Int := (IntKind.u64.wrap ((IntKind.u64.wrap ((IntKind.u64.wrap ((IntKind.u64.wrap ((List.getD (sub s 7 1) 0 0) + (bits2 .xor .u64 (bits2 .xor .u64 (ror (List.getD (sub s 4 1) 0 0) (14 : Int)) (ror (List.getD (sub s 4 1) 0 0) (18 : Int))) (ror (List.getD (sub s 4 1) 0 0) (41 : Int))))) + (bits2 .xor .u64 (bits2 .and .u64 (List.getD (sub s 4 1) 0 0) (List.getD (sub s 5 1) 0 0)) (bits2 .and .u64 (bits2 .xor .u64 (18446744073709551615 : Int) (List.getD (sub s 4 1) 0 0)) (List.getD (sub s 6 1) 0 0))))) + (List.getD C k 0))) + (List.getD (bW2_out0 (bW1_out0 b (List.replicate 80 (0 : Int)))) k 0)))
 (([(IntKind.u64.wrap (z0 + (IntKind.u64.wrap ((bits2 .xor .u64 (bits2 .xor .u64 (ror (List.getD (sub s 0 1) 0 0) (28 : Int)) (ror (List.getD (sub s 0 1) 0 0) (34 : Int))) (ror (List.getD (sub s 0 1) 0 0) (39 : Int))) + (bits2 .xor .u64 (bits2 .xor .u64 (bits2 .and .u64 (List.getD (sub s 0 1) 0 0) (List.getD (sub s 1 1) 0 0)) (bits2 .and .u64 (List.getD (sub s 0 1) 0 0) (List.getD (sub s 2 1) 0 0))) (bits2 .and .u64 (List.getD (sub s 1 1) 0 0) (List.getD (sub s 2 1) 0 0))))))), (List.getD (sub s 0 1) 0 0), (List.getD (sub s 1 1) 0 0), (List.getD (sub s 2 1) 0 0), (IntKind.u64.wrap ((List.getD (sub s 3 1) 0 0) + z0)), (List.getD (sub s 4 1) 0 0), (List.getD (sub s 5 1) 0 0), (List.getD (sub s 6 1) 0 0)] : List Int))

theorem bT_round (S : List Int) (n nm : Nat) (b C : List Int) (cap0 : Nat) (h0 : (nm = n)) (h1 : (n = 128)) (hc0 : n ≤ cap0) (hl0_0 : b.length = nm) (hl1_0 : C.length = 80) (hv0 : S.length = 8) (w : World) (β : Env) (k : Nat) (hk : k < 80) (s : (List Int)) : Run Tryz.prog ⟨w, [], 2, β⟩ (loopB Tryz.f135 6) (bT_mk S n nm b C cap0 k s) (To ⟨w, [], 2, β⟩ .normal (bT_mk S n nm b C cap0 (k + 1) (bT_step b C k s))) := by
 have e0 := wrap_succ (n := k) (by omega)
 have h := Run.of_outT (B := ⟨w, [], 2, β⟩) (Λ := noLam) (Ψ := noPsi) (fuel := 0) (ora := [true]) (c := (loopB Tryz.f135 6)) (st := (bT_mk S n nm b C cap0 k s)) (l := [.forget [0, 1, 2, 3, 6, 7, 10, 13, 20, 84, 85] 6]) (s' := ⟨sparse 182 [(0, .o (.g [.ints .u64 8 S])), (1, .o (.a (.sl 0 0 n cap0))), (2, .o (.a (.p 1 0))), (3, .o (.a (.p 2 0))), (6, .o (.a (.p 3 0))), (7, .o (.a (.p 4 0))), (10, .o (.a (.i .i64 80))), (13, .o (.a (.p 5 0))), (20, .o (.a (.i .i64 16))), (84, .o (.g [.ints .u64 8 S])), (85, .o (.a (.i .i64 (IntKind.i64.wrap ((k : Int) + 1)))))], [bF [.ints .u8 nm b], bF [.ints .u64 80 C], bT [.ints .u64 8 S], bT [.ints .u64 8 ([0, 0, 0, 0, 0, 0, 0, 0] : List Int)], bT [.ints .u64 80 (bW2_out0 (bW1_out0 b (List.replicate 80 (0 : Int))))], bT [.ints .u64 8 (bT_step b C k s)]]⟩) (ex := .normal) mix tabOkSA gam4_ok
  (vc := [(k < 80), ((0 ≤ (k : Int)) ∧ ((k : Int) < 80)), (k < 80), ((0 ≤ (k : Int)) ∧ ((k : Int) < 80)), ((decide ((k : Int) < 80)) = true)]) (by kernel_rfl)
  (aC (by first|omega|(simp (disch:=omega) only [wrapI];omega)) (aC ⟨(by first|omega|(simp (disch:=omega) only [wrapI];omega)), (by first|omega|(simp (disch:=omega) only [wrapI];omega))⟩ (aC (by first|omega|(simp (disch:=omega) only [wrapI];omega)) (aC ⟨(by first|omega|(simp (disch:=omega) only [wrapI];omega)), (by first|omega|(simp (disch:=omega) only [wrapI];omega))⟩ (aC (dt (by first|omega|(simp (disch:=omega) only [wrapI];omega))) (AllP_nil))))))
 rw [e0] at h
 exact h

theorem bT_last (S : List Int) (n nm : Nat) (b C : List Int) (cap0 : Nat) (h0 : (nm = n)) (h1 : (n = 128)) (hc0 : n ≤ cap0) (hl0_0 : b.length = nm) (hl1_0 : C.length = 80) (hv0 : S.length = 8) (w : World) (β : Env) (s : (List Int)) : Run Tryz.prog ⟨w, [], 2, β⟩ (loopB Tryz.f135 6) (bT_mk S n nm b C cap0 80 s) (To ⟨w, [], 2, β⟩ (.exit 6) (bT_mk S n nm b C cap0 80 s)) :=
 Run.of_outT (Λ := noLam) (Ψ := noPsi) (fuel := 0) (ora := [false]) (l := [.forget [0, 1, 2, 3, 6, 7, 10, 13, 20, 84, 85] 6]) mix tabOkSA gam4_ok
  (vc := [(false = false)]) (by kernel_rfl)
  (aC rfl (AllP_nil))

theorem bT_loop (S : List Int) (n nm : Nat) (b C : List Int) (cap0 : Nat) (h0 : (nm = n)) (h1 : (n = 128)) (hc0 : n ≤ cap0) (hl0_0 : b.length = nm) (hl1_0 : C.length = 80) (hv0 : S.length = 8) (w : World) (β : Env) (s : (List Int)) : Run Tryz.prog ⟨w, [], 2, β⟩ (.block 6 (.loop (loopB Tryz.f135 6))) (bT_mk S n nm b C cap0 0 s) (To ⟨w, [], 2, β⟩ .normal (bT_mk S n nm b C cap0 80 (iter (bT_step b C) 80 s))) :=
 Run.count (fun k => bT_mk S n nm b C cap0 k (iter (bT_step b C) k s)) 80 (fun k hk => bT_round S n nm b C cap0 h0 h1 hc0 hl0_0 hl1_0 hv0 w β k hk _) (ex := (.exit 6)) (by simp) (bT_last S n nm b C cap0 h0 h1 hc0 hl0_0 hl1_0 hv0 w β _)

def bT_out0 (b C i0 : List Int) : List Int := (iter (bT_step b C) 80 (i0))

def blk (S b C : List Int) : List Int :=
 let z0 : List Int := (bT_out0 b C S)
 let z1 : List Int := (List.set S 0 (IntKind.u64.wrap ((List.getD S 0 0) + (List.getD z0 0 0))))
 let z2 : List Int := (List.set z1 1 (IntKind.u64.wrap ((List.getD z1 1 0) + (List.getD z0 1 0))))
 let z3 : List Int := (List.set z2 2 (IntKind.u64.wrap ((List.getD z2 2 0) + (List.getD z0 2 0))))
 let z4 : List Int := (List.set z3 3 (IntKind.u64.wrap ((List.getD z3 3 0) + (List.getD z0 3 0))))
 let z5 : List Int := (List.set z4 4 (IntKind.u64.wrap ((List.getD z4 4 0) + (List.getD z0 4 0))))
 let z6 : List Int := (List.set z5 5 (IntKind.u64.wrap ((List.getD z5 5 0) + (List.getD z0 5 0))))
 let z7 : List Int := (List.set z6 6 (IntKind.u64.wrap ((List.getD z6 6 0) + (List.getD z0 6 0))))
 (List.set z7 7 (IntKind.u64.wrap ((List.getD z7 7 0) + (List.getD z0 7 0))))

theorem blk_body0 (S : List Int) (n nm : Nat) (b C : List Int) (cap0 : Nat) (h0 : (nm = n)) (h1 : (n = 128)) (hc0 : n ≤ cap0) (hl0_0 : b.length = nm) (hl1_0 : C.length = 80) (hv0 : S.length = 8) (w : World) (β : Env) : Body Tryz.prog (tabOf tabSA) Tryz.f135 ⟨w, [], 2, β⟩ [.o (.g [.ints .u64 8 S]), .o (.a (.sl 0 0 n cap0)), .o (.a (.p 1 0))] [bF [.ints .u8 nm b], bF [.ints .u64 80 C]] (fun ys _ => ys = [.g [.ints .u64 8 (blk S b C)]]) :=
 Body.of_fin (Γ := gam4) (Λ := lamOf [(0, ⟨[.forget [0, 1, 2, 3, 6, 7, 20] 5], .normal, (bW1_mk S n nm b C cap0 16 (iter (bW1_step b) 16 ((List.replicate 80 (0 : Int)))))⟩), (4, ⟨[.forget [0, 1, 2, 3, 6, 7, 10, 20] 5], .normal, (bW2_mk S n nm b C cap0 64 (iter (bW2_step) 64 ((bW1_out0 b (List.replicate 80 (0 : Int))))))⟩), (6, ⟨[.forget [0, 1, 2, 3, 6, 7, 10, 13, 20, 84, 85] 6], .normal, (bT_mk S n nm b C cap0 80 (iter (bT_step b C) 80 (S)))⟩)]) (Ψ := noPsi) (fuel := 9) (m := 182) (c := (Tryz.f135.body.getD .skip)) mix tabOkSA gam4_ok rfl (rs := [.cell 6 241]) rfl rfl [true, true, true, true, true, true, true, true, false] []
  (vc := [(false = false), (cN 7 8), (cI 7 8), (cN 7 8), (cI 7 8), (cN 7 8), (cI 7 8), cT, (cN 6 8), (cI 6 8), (cN 6 8), (cI 6 8), (cN 6 8), (cI 6 8), cT, (cN 5 8), (cI 5 8), (cN 5 8), (cI 5 8), (cN 5 8), (cI 5 8), cT, (cN 4 8), (cI 4 8), (cN 4 8), (cI 4 8), (cN 4 8), (cI 4 8), cT, (cN 3 8), (cI 3 8), (cN 3 8), (cI 3 8), (cN 3 8), (cI 3 8), cT, (cN 2 8), (cI 2 8), (cN 2 8), (cI 2 8), (cN 2 8), (cI 2 8), cT, (cN 1 8), (cI 1 8), (cN 1 8), (cI 1 8), (cN 1 8), (cI 1 8), cT, (cN 0 8), (cI 0 8), (cN 0 8), (cI 0 8), (cN 0 8), (cI 0 8), cT, (Run Tryz.prog ⟨w, [], 2, β⟩ (.block 6 (.loop (loopB Tryz.f135 6))) (bT_mk S n nm b C cap0 0 (S)) (To ⟨w, [], 2, β⟩ .normal (bT_mk S n nm b C cap0 80 (iter (bT_step b C) 80 (S))))), (Run Tryz.prog ⟨w, [], 2, β⟩ (.block 4 (.loop (loopB Tryz.f135 4))) (bW2_mk S n nm b C cap0 0 ((bW1_out0 b (List.replicate 80 (0 : Int))))) (To ⟨w, [], 2, β⟩ .normal (bW2_mk S n nm b C cap0 64 (iter (bW2_step) 64 ((bW1_out0 b (List.replicate 80 (0 : Int)))))))), (Run Tryz.prog ⟨w, [], 2, β⟩ (.block 0 (.loop (loopB Tryz.f135 0))) (bW1_mk S n nm b C cap0 0 ((List.replicate 80 (0 : Int)))) (To ⟨w, [], 2, β⟩ .normal (bW1_mk S n nm b C cap0 16 (iter (bW1_step b) 16 ((List.replicate 80 (0 : Int)))))))]) (by kernel_rfl)
  (aC rfl (aC (dd rfl) (aC (dd rfl) (aC (dd rfl) (aC (dd rfl) (aC (dd rfl) (aC (dd rfl) (aC rfl (aC (dd rfl) (aC (dd rfl) (aC (dd rfl) (aC (dd rfl) (aC (dd rfl) (aC (dd rfl) (aC rfl (aC (dd rfl) (aC (dd rfl) (aC (dd rfl) (aC (dd rfl) (aC (dd rfl) (aC (dd rfl) (aC rfl (aC (dd rfl) (aC (dd rfl) (aC (dd rfl) (aC (dd rfl) (aC (dd rfl) (aC (dd rfl) (aC rfl (aC (dd rfl) (aC (dd rfl) (aC (dd rfl) (aC (dd rfl) (aC (dd rfl) (aC (dd rfl) (aC rfl (aC (dd rfl) (aC (dd rfl) (aC (dd rfl) (aC (dd rfl) (aC (dd rfl) (aC (dd rfl) (aC rfl (aC (dd rfl) (aC (dd rfl) (aC (dd rfl) (aC (dd rfl) (aC (dd rfl) (aC (dd rfl) (aC rfl (aC (dd rfl) (aC (dd rfl) (aC (dd rfl) (aC (dd rfl) (aC (dd rfl) (aC (dd rfl) (aC rfl (aC (bT_loop S n nm b C cap0 h0 h1 hc0 hl0_0 hl1_0 hv0 w β (S)) (aC (bW2_loop S n nm b C cap0 h0 h1 hc0 hl0_0 hl1_0 hv0 w β ((bW1_out0 b (List.replicate 80 (0 : Int))))) (aC (bW1_loop S n nm b C cap0 h0 h1 hc0 hl0_0 hl1_0 hv0 w β ((List.replicate 80 (0 : Int)))) (AllP_nil)))))))))))))))))))))))))))))))))))))))))))))))))))))))))))))

theorem blk_body (S : List Int) (n nm : Nat) (b C : List Int) (cap0 : Nat) (h0 : (nm = n)) (h1 : (n = 128)) (w : World) (β : Env) : Body Tryz.prog (tabOf tabSA) Tryz.f135 ⟨w, [], 2, β⟩ [.o (.g [.ints .u64 8 S]), .o (.a (.sl 0 0 n cap0)), .o (.a (.p 1 0))] [bF [.ints .u8 nm b], bF [.ints .u64 80 C]] (fun ys _ => ys = [.g [.ints .u64 8 (blk S b C)]]) :=
 Body.lens (c := (Tryz.f135.body.getD .skip)) rfl fun h => blk_body0 S n nm b C cap0 h0 h1 (h.caps 1 _ _ _ _ rfl) (h.lens 0 _ .u8 nm b rfl (by simp)) (h.lens 1 _ .u64 80 C rfl (by simp)) (h.vals 0 _ _ _ rfl) w β

def gam5 : Gam := greadV 135 [.v, .s 1, .p 80] (fun vs args => match vs, args with | [⟨_, _, _, [.ints .u8 nm b]⟩, ⟨_, _, _, [.ints .u64 80 C]⟩], [.o (.g [.ints .u64 8 S]), a0, _] => some ((nm = (lenOfA a0)) ∧ ((lenOfA a0) = 128), [.g [.ints .u64 8 (blk S b C)]]) | _, _ => none) gam4
theorem gam5_ok : GamOk Tryz.prog gam5 := greadV_ok tabOkSA Tryz.func135 gam4_ok Tryz.call135 (by
 intro vs args p xs h hv
 split at h
 ·simp only [Option.some.injEq, Prod.mk.injEq] at h; obtain ⟨rfl, rfl⟩ := h; exact ⟨by rfl, fun caps w β => blk_body _ _ _ _ _ _ hv.1 hv.2 w β⟩
 ·simp at h)

end Go.Proofs.YtjmfnjgcofpocaaGreat.X

/- Plain lemmas on numbers for the walks of the hash. -/
namespace Go.Proofs.YtjmfnjgcofpocaaGreat.X
open Go Go.Proofs

def padE (n : Int) : Int := IntKind.u64.wrap ((1 : Int) + (Int.tmod (IntKind.u64.wrap ((239 : Int) - (Int.tmod n (128 : Int)))) (128 : Int)))

theorem tmod_lt (n : Int) : -128 < Int.tmod n 128 ∧ Int.tmod n 128 < 128 := by
 rcases Int.le_total 0 n with h | h
 ·rw [Int.tmod_eq_emod_of_nonneg h]; omega
 ·obtain ⟨m, rfl⟩ : ∃ m, n = -m := ⟨-n, by omega⟩
  rw [Int.neg_tmod, Int.tmod_eq_emod_of_nonneg (by omega)]; omega

theorem padE_ok (n : Int) : 1 ≤ padE n ∧ padE n ≤ 128 := by
 have h1 := tmod_lt n
 have h2 : IntKind.u64.wrap (239 - Int.tmod n 128) = 239 - Int.tmod n 128 := wrapU (by omega) (by omega)
 unfold padE
 rw [h2]
 have h3 := tmod_lt (239 - Int.tmod n 128)
 have h4 : 0 ≤ Int.tmod (239 - Int.tmod n 128) 128 := Int.tmod_nonneg _ (by omega)
 rw [wrapU (by omega) (by omega)]
 omega

theorem wmin_small {tl n : Nat} (h : tl + n < 128) : (if (n : Int) < IntKind.i64.wrap ((128 : Int) - (tl : Int)) then (n : Int) else IntKind.i64.wrap ((128 : Int) - (tl : Int))) = (n : Int) := by
 rw [wrapI (by omega) (by omega), if_pos (by omega)]
theorem wmin_big {tl n : Nat} (h : 128 ≤ tl + n) (ht : tl < 128) : (if (n : Int) < IntKind.i64.wrap ((128 : Int) - (tl : Int)) then (n : Int) else IntKind.i64.wrap ((128 : Int) - (tl : Int))) = (((128 - tl : Nat) : Nat) : Int) := by
 rw [wrapI (by omega) (by omega)]; split <;> omega
end Go.Proofs.YtjmfnjgcofpocaaGreat.X

/- Printed by a tool of this session. -/
namespace Go.Proofs.YtjmfnjgcofpocaaGreat.X
open Go Go.Proofs
set_option linter.unusedVariables false
set_option linter.unusedSimpArgs false
set_option maxRecDepth 100000
set_option maxHeartbeats 8000000
theorem teSC_226 : TEOk Tryz.prog 226 ⟨.pointer 245, 1, 8, [.raw (.pointer none)], false⟩ :=
 TEOk.of Tryz.underlying226 (i := Tryz.t226) (by kernel_rfl) rfl rfl rfl (by kernel_rfl) (fun h => by cases h) (by kernel_rfl) (by kernel_rfl)
theorem teSC_243 : TEOk Tryz.prog 243 ⟨.pointer 239, 1, 8, [.raw (.pointer none)], false⟩ :=
 TEOk.of Tryz.underlying243 (i := Tryz.t243) (by kernel_rfl) rfl rfl rfl (by kernel_rfl) (fun h => by cases h) (by kernel_rfl) (by kernel_rfl)
theorem teSC_245 : TEOk Tryz.prog 245 ⟨Tryz.t244.desc, 11, 104, [.ints .u64 8 ([0, 0, 0, 0, 0, 0, 0, 0] : List Int), .raw (.slice none 0 0), .i .u64 (0 : Int), .raw (.pointer none)], false⟩ :=
 TEOk.of Tryz.underlying245 (i := Tryz.t245) (by kernel_rfl) rfl rfl rfl (by kernel_rfl) (fun h => by cases h) (by kernel_rfl) (by kernel_rfl)
noncomputable def tabSC : List (Nat × TE) := [(3, ⟨.int .i64, 1, 8, [.i .i64 0], false⟩), (5, ⟨.int .u8, 1, 1, [.i .u8 0], false⟩), (26, ⟨.slice 5, 1, 24, [nlA], false⟩), (164, ⟨.int .u64, 1, 8, [.i .u64 0], false⟩), (226, ⟨.pointer 245, 1, 8, [.raw (.pointer none)], false⟩), (239, ⟨.array 80 164, 80, 640, [.ints .u64 80 (List.replicate 80 (0 : Int))], true⟩), (241, ⟨.array 8 164, 8, 64, [.ints .u64 8 ([0, 0, 0, 0, 0, 0, 0, 0] : List Int)], true⟩), (243, ⟨.pointer 239, 1, 8, [.raw (.pointer none)], false⟩), (245, ⟨Tryz.t244.desc, 11, 104, [.ints .u64 8 ([0, 0, 0, 0, 0, 0, 0, 0] : List Int), nlA, .i .u64 0, .raw (.pointer none)], false⟩)]
theorem tabOkSC : TabOk Tryz.prog (tabOf tabSC) := (tabOf_cons teDA_3 (tabOf_cons teDA_5 (tabOf_cons teDA_26 (tabOf_cons teSA_164 (tabOf_cons teSC_226 (tabOf_cons teSA_239 (tabOf_cons teSA_241 (tabOf_cons teSC_243 (tabOf_cons teSC_245 tabOf_nil)))))))))

def pad (n : Int) : Nat :=
 ((Int.toNat (IntKind.u64.wrap ((1 : Int) + (Int.tmod (IntKind.u64.wrap ((239 : Int) - (Int.tmod n (128 : Int)))) (128 : Int))))) + 16)

def pad_1 (n : Int) : List Int :=
 let z0 : Nat := (Int.toNat (IntKind.u64.wrap ((1 : Int) + (Int.tmod (IntKind.u64.wrap ((239 : Int) - (Int.tmod n (128 : Int)))) (128 : Int)))))
 (splice (splice (splice (splice (splice (splice (splice (splice (splice (List.set (List.replicate 256 (0 : Int)) 0 (128 : Int)) (0 + z0) 8 (List.replicate 8 (0 : Int))) (0 + (z0 + 8)) 1 ([(IntKind.u8.wrap (shr .u64 (IntKind.u64.wrap (n * (8 : Int))) (56 : Int)))] : List Int)) (0 + (z0 + 9)) 1 ([(IntKind.u8.wrap (shr .u64 (IntKind.u64.wrap (n * (8 : Int))) (48 : Int)))] : List Int)) (0 + (z0 + 10)) 1 ([(IntKind.u8.wrap (shr .u64 (IntKind.u64.wrap (n * (8 : Int))) (40 : Int)))] : List Int)) (0 + (z0 + 11)) 1 ([(IntKind.u8.wrap (shr .u64 (IntKind.u64.wrap (n * (8 : Int))) (32 : Int)))] : List Int)) (0 + (z0 + 12)) 1 ([(IntKind.u8.wrap (shr .u64 (IntKind.u64.wrap (n * (8 : Int))) (24 : Int)))] : List Int)) (0 + (z0 + 13)) 1 ([(IntKind.u8.wrap (shr .u64 (IntKind.u64.wrap (n * (8 : Int))) (16 : Int)))] : List Int)) (0 + (z0 + 14)) 1 ([(IntKind.u8.wrap (shr .u64 (IntKind.u64.wrap (n * (8 : Int))) (8 : Int)))] : List Int)) (0 + (z0 + 15)) 1 ([(IntKind.u8.wrap (shr .u64 (IntKind.u64.wrap (n * (8 : Int))) (0 : Int)))] : List Int))

theorem pad_body0 (n : Int) (w : World) (rw : List Nat) (β : Env) : Body Tryz.prog (tabOf tabSC) Tryz.f136 ⟨w, rw, 0, β⟩ [.o (.a (.i .u64 n))] [] (fun ys K' => ys = [.a (.sl 0 0 (pad n) 256)] ∧ K' = [some ⟨true, [.ints .u8 256 (pad_1 n)]⟩]) :=
 Body.of_finK (Γ := gam5) (Λ := noLam) (Ψ := noPsi) (fuel := 9) (m := 29) (c := (Tryz.f136.body.getD .skip)) mix tabOkSC gam5_ok rfl (rs := [.tmp 2]) rfl rfl [true, true, true, true, true, true, true, true, true, true, true, true, true, true, true, true, true, false] [] 1
  (vc := [(false = false), (((1 ≤ 1) ∧ (1 ≤ 1)) ∧ (okP (some (((0 + ((Int.toNat (IntKind.u64.wrap ((1 : Int) + (Int.tmod (IntKind.u64.wrap ((239 : Int) - (Int.tmod n (128 : Int)))) (128 : Int))))) + 15)) + 1) ≤ 256))) ∧ (((Int.toNat (IntKind.u64.wrap ((1 : Int) + (Int.tmod (IntKind.u64.wrap ((239 : Int) - (Int.tmod n (128 : Int)))) (128 : Int))))) + 16) ≤ 256)), (cZ 0), cT, (((1 ≤ 1) ∧ (1 ≤ 1)) ∧ (okP (some (((0 + ((Int.toNat (IntKind.u64.wrap ((1 : Int) + (Int.tmod (IntKind.u64.wrap ((239 : Int) - (Int.tmod n (128 : Int)))) (128 : Int))))) + 14)) + 1) ≤ 256))) ∧ (((Int.toNat (IntKind.u64.wrap ((1 : Int) + (Int.tmod (IntKind.u64.wrap ((239 : Int) - (Int.tmod n (128 : Int)))) (128 : Int))))) + 15) ≤ 256)), (cZ 8), cT, (((1 ≤ 1) ∧ (1 ≤ 1)) ∧ (okP (some (((0 + ((Int.toNat (IntKind.u64.wrap ((1 : Int) + (Int.tmod (IntKind.u64.wrap ((239 : Int) - (Int.tmod n (128 : Int)))) (128 : Int))))) + 13)) + 1) ≤ 256))) ∧ (((Int.toNat (IntKind.u64.wrap ((1 : Int) + (Int.tmod (IntKind.u64.wrap ((239 : Int) - (Int.tmod n (128 : Int)))) (128 : Int))))) + 14) ≤ 256)), (cZ 16), cT, (((1 ≤ 1) ∧ (1 ≤ 1)) ∧ (okP (some (((0 + ((Int.toNat (IntKind.u64.wrap ((1 : Int) + (Int.tmod (IntKind.u64.wrap ((239 : Int) - (Int.tmod n (128 : Int)))) (128 : Int))))) + 12)) + 1) ≤ 256))) ∧ (((Int.toNat (IntKind.u64.wrap ((1 : Int) + (Int.tmod (IntKind.u64.wrap ((239 : Int) - (Int.tmod n (128 : Int)))) (128 : Int))))) + 13) ≤ 256)), (cZ 24), cT, (((1 ≤ 1) ∧ (1 ≤ 1)) ∧ (okP (some (((0 + ((Int.toNat (IntKind.u64.wrap ((1 : Int) + (Int.tmod (IntKind.u64.wrap ((239 : Int) - (Int.tmod n (128 : Int)))) (128 : Int))))) + 11)) + 1) ≤ 256))) ∧ (((Int.toNat (IntKind.u64.wrap ((1 : Int) + (Int.tmod (IntKind.u64.wrap ((239 : Int) - (Int.tmod n (128 : Int)))) (128 : Int))))) + 12) ≤ 256)), (cZ 32), cT, (((1 ≤ 1) ∧ (1 ≤ 1)) ∧ (okP (some (((0 + ((Int.toNat (IntKind.u64.wrap ((1 : Int) + (Int.tmod (IntKind.u64.wrap ((239 : Int) - (Int.tmod n (128 : Int)))) (128 : Int))))) + 10)) + 1) ≤ 256))) ∧ (((Int.toNat (IntKind.u64.wrap ((1 : Int) + (Int.tmod (IntKind.u64.wrap ((239 : Int) - (Int.tmod n (128 : Int)))) (128 : Int))))) + 11) ≤ 256)), (cZ 40), cT, (((1 ≤ 1) ∧ (1 ≤ 1)) ∧ (okP (some (((0 + ((Int.toNat (IntKind.u64.wrap ((1 : Int) + (Int.tmod (IntKind.u64.wrap ((239 : Int) - (Int.tmod n (128 : Int)))) (128 : Int))))) + 9)) + 1) ≤ 256))) ∧ (((Int.toNat (IntKind.u64.wrap ((1 : Int) + (Int.tmod (IntKind.u64.wrap ((239 : Int) - (Int.tmod n (128 : Int)))) (128 : Int))))) + 10) ≤ 256)), (cZ 48), cT, (((1 ≤ 1) ∧ (1 ≤ 1)) ∧ (okP (some (((0 + ((Int.toNat (IntKind.u64.wrap ((1 : Int) + (Int.tmod (IntKind.u64.wrap ((239 : Int) - (Int.tmod n (128 : Int)))) (128 : Int))))) + 8)) + 1) ≤ 256))) ∧ (((Int.toNat (IntKind.u64.wrap ((1 : Int) + (Int.tmod (IntKind.u64.wrap ((239 : Int) - (Int.tmod n (128 : Int)))) (128 : Int))))) + 9) ≤ 256)), (cZ 56), cT, (((cZ 8) ∧ ((8 : Int) ≤ 281474976710656)) ∧ (okP (some (((0 + (Int.toNat (IntKind.u64.wrap ((1 : Int) + (Int.tmod (IntKind.u64.wrap ((239 : Int) - (Int.tmod n (128 : Int)))) (128 : Int)))))) + 8) ≤ 256))) ∧ (((Int.toNat (IntKind.u64.wrap ((1 : Int) + (Int.tmod (IntKind.u64.wrap ((239 : Int) - (Int.tmod n (128 : Int)))) (128 : Int))))) + 8) ≤ 256)), (cN 0 256), ((cZ 0) ∧ (0 < (((Int.toNat (IntKind.u64.wrap ((1 : Int) + (Int.tmod (IntKind.u64.wrap ((239 : Int) - (Int.tmod n (128 : Int)))) (128 : Int))))) : Nat) : Int))), (((0 : Int) ≤ (IntKind.u64.wrap ((1 : Int) + (Int.tmod (IntKind.u64.wrap ((239 : Int) - (Int.tmod n (128 : Int)))) (128 : Int))))) ∧ ((IntKind.u64.wrap ((1 : Int) + (Int.tmod (IntKind.u64.wrap ((239 : Int) - (Int.tmod n (128 : Int)))) (128 : Int)))) ≤ 256) ∧ ((256 : Int) ≤ 281474976710656)), ((128 : Int) ≠ 0), ((128 : Int) ≠ 0)]) (by kernel_rfl)
  (aC rfl (aC ⟨(dd rfl), (show (((0 + ((Int.toNat (IntKind.u64.wrap ((1 : Int) + (Int.tmod (IntKind.u64.wrap ((239 : Int) - (Int.tmod n (128 : Int)))) (128 : Int))))) + 15)) + 1) ≤ 256) from (by have := padE_ok n; unfold padE at this; first | omega | (simp (disch := omega) only [wrapI]; omega))), (by have := padE_ok n; unfold padE at this; first | omega | (simp (disch := omega) only [wrapI]; omega))⟩ (aC (dd rfl) (aC rfl (aC ⟨(dd rfl), (show (((0 + ((Int.toNat (IntKind.u64.wrap ((1 : Int) + (Int.tmod (IntKind.u64.wrap ((239 : Int) - (Int.tmod n (128 : Int)))) (128 : Int))))) + 14)) + 1) ≤ 256) from (by have := padE_ok n; unfold padE at this; first | omega | (simp (disch := omega) only [wrapI]; omega))), (by have := padE_ok n; unfold padE at this; first | omega | (simp (disch := omega) only [wrapI]; omega))⟩ (aC (dd rfl) (aC rfl (aC ⟨(dd rfl), (show (((0 + ((Int.toNat (IntKind.u64.wrap ((1 : Int) + (Int.tmod (IntKind.u64.wrap ((239 : Int) - (Int.tmod n (128 : Int)))) (128 : Int))))) + 13)) + 1) ≤ 256) from (by have := padE_ok n; unfold padE at this; first | omega | (simp (disch := omega) only [wrapI]; omega))), (by have := padE_ok n; unfold padE at this; first | omega | (simp (disch := omega) only [wrapI]; omega))⟩ (aC (dd rfl) (aC rfl (aC ⟨(dd rfl), (show (((0 + ((Int.toNat (IntKind.u64.wrap ((1 : Int) + (Int.tmod (IntKind.u64.wrap ((239 : Int) - (Int.tmod n (128 : Int)))) (128 : Int))))) + 12)) + 1) ≤ 256) from (by have := padE_ok n; unfold padE at this; first | omega | (simp (disch := omega) only [wrapI]; omega))), (by have := padE_ok n; unfold padE at this; first | omega | (simp (disch := omega) only [wrapI]; omega))⟩ (aC (dd rfl) (aC rfl (aC ⟨(dd rfl), (show (((0 + ((Int.toNat (IntKind.u64.wrap ((1 : Int) + (Int.tmod (IntKind.u64.wrap ((239 : Int) - (Int.tmod n (128 : Int)))) (128 : Int))))) + 11)) + 1) ≤ 256) from (by have := padE_ok n; unfold padE at this; first | omega | (simp (disch := omega) only [wrapI]; omega))), (by have := padE_ok n; unfold padE at this; first | omega | (simp (disch := omega) only [wrapI]; omega))⟩ (aC (dd rfl) (aC rfl (aC ⟨(dd rfl), (show (((0 + ((Int.toNat (IntKind.u64.wrap ((1 : Int) + (Int.tmod (IntKind.u64.wrap ((239 : Int) - (Int.tmod n (128 : Int)))) (128 : Int))))) + 10)) + 1) ≤ 256) from (by have := padE_ok n; unfold padE at this; first | omega | (simp (disch := omega) only [wrapI]; omega))), (by have := padE_ok n; unfold padE at this; first | omega | (simp (disch := omega) only [wrapI]; omega))⟩ (aC (dd rfl) (aC rfl (aC ⟨(dd rfl), (show (((0 + ((Int.toNat (IntKind.u64.wrap ((1 : Int) + (Int.tmod (IntKind.u64.wrap ((239 : Int) - (Int.tmod n (128 : Int)))) (128 : Int))))) + 9)) + 1) ≤ 256) from (by have := padE_ok n; unfold padE at this; first | omega | (simp (disch := omega) only [wrapI]; omega))), (by have := padE_ok n; unfold padE at this; first | omega | (simp (disch := omega) only [wrapI]; omega))⟩ (aC (dd rfl) (aC rfl (aC ⟨(dd rfl), (show (((0 + ((Int.toNat (IntKind.u64.wrap ((1 : Int) + (Int.tmod (IntKind.u64.wrap ((239 : Int) - (Int.tmod n (128 : Int)))) (128 : Int))))) + 8)) + 1) ≤ 256) from (by have := padE_ok n; unfold padE at this; first | omega | (simp (disch := omega) only [wrapI]; omega))), (by have := padE_ok n; unfold padE at this; first | omega | (simp (disch := omega) only [wrapI]; omega))⟩ (aC (dd rfl) (aC rfl (aC ⟨(dd rfl), (show (((0 + (Int.toNat (IntKind.u64.wrap ((1 : Int) + (Int.tmod (IntKind.u64.wrap ((239 : Int) - (Int.tmod n (128 : Int)))) (128 : Int)))))) + 8) ≤ 256) from (by have := padE_ok n; unfold padE at this; first | omega | (simp (disch := omega) only [wrapI]; omega))), (by have := padE_ok n; unfold padE at this; first | omega | (simp (disch := omega) only [wrapI]; omega))⟩ (aC (dd rfl) (aC ⟨(dd rfl), (by have := padE_ok n; unfold padE at this; first | omega | (simp (disch := omega) only [wrapI]; omega))⟩ (aC ⟨(wrap_nn (k := .u64) rfl), (by have := padE_ok n; unfold padE at this; first | omega | (simp (disch := omega) only [wrapI]; omega)), (dd rfl)⟩ (aC (dd rfl) (aC (dd rfl) (AllP_nil))))))))))))))))))))))))))))))))

theorem pad_body (n : Int) (w : World) (rw : List Nat) (β : Env) : Body Tryz.prog (tabOf tabSC) Tryz.f136 ⟨w, rw, 0, β⟩ [.o (.a (.i .u64 n))] [] (fun ys K' => ys = [.a (.sl 0 0 (pad n) 256)] ∧ K' = [some ⟨true, [.ints .u8 256 (pad_1 n)]⟩]) :=
 Body.lens (c := (Tryz.f136.body.getD .skip)) rfl fun h => pad_body0 n  w rw β

def gam6 : Gam := gcall 136 [] [.w] (fun wk vs args => match wk, vs, args with | [], [], [.o (.a (.i .u64 n))] => some (True, [.a (.sl 0 0 (pad n) (256 : Nat))], [some ⟨true, [.ints .u8 (256 : Nat) (pad_1 n)]⟩]) | _, _, _ => none) gam5
theorem gam6_ok : GamOk Tryz.prog gam6 := gcall_ok tabOkSC Tryz.func136 gam5_ok Tryz.call136 (by
 intro wk vs args p xs K1 h hv
 split at h
 ·simp only [Option.some.injEq, Prod.mk.injEq] at h; obtain ⟨rfl, rfl, rfl⟩ := h; exact fun caps w rw β => pad_body _ w rw β
 ·simp at h)

theorem made_body0 (S : List Int) (tl : Nat) (N : Int) (L C : List Int) (hl0_0 : S.length = 8) (hl1_0 : L.length = tl) (hl2_0 : C.length = 80) (w : World) (rw : List Nat) (β : Env) : Body Tryz.prog (tabOf tabSC) Tryz.f134 ⟨w, rw, 3, β⟩ [.o (.a (.p 0 0))] [bF [.ints .u64 8 S, .rs 1 0 tl 1, .i .u64 N, .p 2 0], bF [.ints .u8 tl L], bF [.ints .u64 80 C]] (fun ys K' => ys = [.a (.b true)] ∧ K' = [bF [.ints .u64 8 S, .rs 1 0 tl 1, .i .u64 N, .p 2 0], bF [.ints .u8 tl L], bF [.ints .u64 80 C]]) :=
 Body.of_finK (Γ := gam6) (Λ := noLam) (Ψ := noPsi) (fuel := 0) (m := 12) (c := (Tryz.f134.body.getD .skip)) mix tabOkSC gam6_ok rfl (rs := [.tmp 2]) rfl rfl [true, true, true, true, true, true] [] 3
  (vc := [(true = true), (true = true), (true = true), (true = true), (true = true), (true = true)]) (by kernel_rfl)
  (aC rfl (aC rfl (aC rfl (aC rfl (aC rfl (aC rfl (AllP_nil)))))))

theorem made_body (S : List Int) (tl : Nat) (N : Int) (L C : List Int) (w : World) (rw : List Nat) (β : Env) : Body Tryz.prog (tabOf tabSC) Tryz.f134 ⟨w, rw, 3, β⟩ [.o (.a (.p 0 0))] [bF [.ints .u64 8 S, .rs 1 0 tl 1, .i .u64 N, .p 2 0], bF [.ints .u8 tl L], bF [.ints .u64 80 C]] (fun ys K' => ys = [.a (.b true)] ∧ K' = [bF [.ints .u64 8 S, .rs 1 0 tl 1, .i .u64 N, .p 2 0], bF [.ints .u8 tl L], bF [.ints .u64 80 C]]) :=
 Body.lens (c := (Tryz.f134.body.getD .skip)) rfl fun h => made_body0 S tl N L C (h.lens 0 _ .u64 8 S rfl (by simp)) (h.lens 1 _ .u8 tl L rfl (by simp)) (h.lens 2 _ .u64 80 C rfl (by simp)) w rw β

def gam7 : Gam := gcall 134 [false, false, false] [.w] (fun wk vs args => match wk, vs, args with | [⟨false, [.ints .u64 8 S, .rs 1 0 tl 1, .i .u64 N, .p 2 0]⟩, ⟨false, [.ints .u8 tl_1 L]⟩, ⟨false, [.ints .u64 80 C]⟩], [], [.o (.a (.p 0 0))] => some ((tl_1 = tl), [.a (.b true)], [bF [.ints .u64 8 S, .rs 1 0 tl 1, .i .u64 N, .p 2 0], bF [.ints .u8 tl L], bF [.ints .u64 80 C]]) | _, _, _ => none) gam6
theorem gam7_ok : GamOk Tryz.prog gam7 := gcall_ok tabOkSC Tryz.func134 gam6_ok Tryz.call134 (by
 intro wk vs args p xs K1 h hv
 split at h
 ·simp only [Option.some.injEq, Prod.mk.injEq] at h; obtain ⟨rfl, rfl, rfl⟩ := h; have g0 := hv; subst g0; exact fun caps w rw β => made_body _ _ _ _ _ w rw β
 ·simp at h)

theorem newH_body0 (w : World) (rw : List Nat) (β : Env) : Body Tryz.prog (tabOf tabSC) Tryz.f124 ⟨w, rw, 0, β⟩ [] [] (fun ys K' => ys = [.a (.p 1 0)] ∧ K' = [bT [.ints .u64 80 (konst)], bT [.ints .u64 8 ([7640891576956012808, 13503953896175478587, 4354685564936845355, 11912009170470909681, 5840696475078001361, 11170449401992604703, 2270897969802886507, 6620516959819538809] : List Int), .rs 2 0 0 1, .i .u64 0, .p 0 0], bT [.ints .u8 0 ([] : List Int)]]) :=
 Body.of_finK (Γ := gam7) (Λ := noLam) (Ψ := noPsi) (fuel := 0) (m := 6) (c := (Tryz.f124.body.getD .skip)) mix tabOkSC gam7_ok rfl (rs := [.tmp 0]) rfl rfl [] [.rowB 1 1 .u8 1] 3
  (vc := []) (by kernel_rfl)
  (AllP_nil)

theorem newH_body (w : World) (rw : List Nat) (β : Env) : Body Tryz.prog (tabOf tabSC) Tryz.f124 ⟨w, rw, 0, β⟩ [] [] (fun ys K' => ys = [.a (.p 1 0)] ∧ K' = [bT [.ints .u64 80 (konst)], bT [.ints .u64 8 ([7640891576956012808, 13503953896175478587, 4354685564936845355, 11912009170470909681, 5840696475078001361, 11170449401992604703, 2270897969802886507, 6620516959819538809] : List Int), .rs 2 0 0 1, .i .u64 0, .p 0 0], bT [.ints .u8 0 ([] : List Int)]]) :=
 Body.lens (c := (Tryz.f124.body.getD .skip)) rfl fun h => newH_body0  w rw β

def gam8 : Gam := gcall 124 [] [] (fun wk vs args => match wk, vs, args with | [], [], [] => some (True, [.a (.p 1 0)], [bT [.ints .u64 80 (konst)], bT [.ints .u64 8 ([7640891576956012808, 13503953896175478587, 4354685564936845355, 11912009170470909681, 5840696475078001361, 11170449401992604703, 2270897969802886507, 6620516959819538809] : List Int), .rs 2 0 0 1, .i .u64 0, .p 0 0], bT [.ints .u8 0 ([] : List Int)]]) | _, _, _ => none) gam7
theorem gam8_ok : GamOk Tryz.prog gam8 := gcall_ok tabOkSC Tryz.func124 gam7_ok Tryz.call124 (by
 intro wk vs args p xs K1 h hv
 split at h
 ·simp only [Option.some.injEq, Prod.mk.injEq] at h; obtain ⟨rfl, rfl, rfl⟩ := h; exact fun caps w rw β => newH_body w rw β
 ·simp at h)

end Go.Proofs.YtjmfnjgcofpocaaGreat.X

/- Printed by a tool of this session. -/
namespace Go.Proofs.YtjmfnjgcofpocaaGreat.X
open Go Go.Proofs
set_option linter.unusedVariables false
set_option linter.unusedSimpArgs false
set_option maxRecDepth 100000
set_option maxHeartbeats 8000000
noncomputable def tabSD : List (Nat × TE) := [(3, ⟨.int .i64, 1, 8, [.i .i64 0], false⟩), (5, ⟨.int .u8, 1, 1, [.i .u8 0], false⟩), (26, ⟨.slice 5, 1, 24, [nlA], false⟩), (164, ⟨.int .u64, 1, 8, [.i .u64 0], false⟩), (241, ⟨.array 8 164, 8, 64, [.ints .u64 8 ([0, 0, 0, 0, 0, 0, 0, 0] : List Int)], true⟩), (243, ⟨.pointer 239, 1, 8, [.raw (.pointer none)], false⟩), (245, ⟨Tryz.t244.desc, 11, 104, [.ints .u64 8 ([0, 0, 0, 0, 0, 0, 0, 0] : List Int), nlA, .i .u64 0, .raw (.pointer none)], false⟩)]
theorem tabOkSD : TabOk Tryz.prog (tabOf tabSD) := (tabOf_cons teDA_3 (tabOf_cons teDA_5 (tabOf_cons teDA_26 (tabOf_cons teSA_164 (tabOf_cons teSA_241 (tabOf_cons teSC_243 (tabOf_cons teSC_245 tabOf_nil)))))))

def wAL_mk (S : List Int) (tl : Nat) (N : Int) (L C : List Int) (n nm : Nat) (b : List Int) (cap3 k : Nat) (s : (List Int)) : St := ⟨sparse 105 [(0, .o (.a (.p 0 0))), (1, .o (.a (.sl 3 (128 * k) (n - (128 * k)) (cap3 - (128 * k))))), (5, .o (.a (.p 0 0))), (6, .o (.a (.b true))), (7, .o (.a (.b false))), (8, .o (.a (.p 0 0))), (9, .o (.a (.p 0 0))), (10, .o (.a (.p 0 9))), (11, .o (.a (.i .u64 N))), (12, .o (.a (.sl 3 0 n cap3))), (13, .o (.a (.i .i64 (n : Int)))), (14, .o (.a (.i .u64 (IntKind.u64.wrap (n : Int))))), (15, .o (.a (.i .u64 (IntKind.u64.wrap (N + (IntKind.u64.wrap (n : Int))))))), (16, .o (.a (.p 0 0))), (17, .o (.a (.p 0 9))), (18, .o (.a (.p 0 0))), (19, .o (.a (.p 0 0))), (20, .o (.a (.p 0 8))), (21, .o (.a (.rs 1 0 tl 1))), (22, .o (.a (.i .i64 (tl : Int)))), (23, .o (.a (.b (decide ((tl : Int) > (0 : Int))))))], [bT [.ints .u64 8 s, .rs 1 0 tl 1, .i .u64 (IntKind.u64.wrap (N + (IntKind.u64.wrap (n : Int)))), .p 2 0], bT [.ints .u8 tl L], bF [.ints .u64 80 C], bF [.ints .u8 nm b]]⟩

def wAL_step (C b : List Int) (k : Nat) (s : (List Int)) : (List Int) :=
 ((blk s (sub b (128 * k) 128) C))

theorem wAL_round (S : List Int) (tl : Nat) (N : Int) (L C : List Int) (n nm : Nat) (b : List Int) (cap3 : Nat) (h0 : (nm = n)) (h1 : (tl < 128)) (h2 : (n < 140737488355328)) (hc3 : n ≤ cap3) (hl0_0 : S.length = 8) (hl1_0 : L.length = tl) (hl2_0 : C.length = 80) (hl3_0 : b.length = nm) (hp : tl = 0) (w : World) (rw : List Nat) (β : Env) (k : Nat) (hk : k < (n / 128)) (s : (List Int)) : Run Tryz.prog ⟨w, rw, 4, β⟩ (loopB Tryz.f125 0) (wAL_mk S tl N L C n nm b cap3 k s) (To ⟨w, rw, 4, β⟩ .normal (wAL_mk S tl N L C n nm b cap3 (k + 1) (wAL_step C b k s))) := by
 have e0 : ((cap3 - ((128 : Nat) * k)) - (128 : Nat)) = (cap3 - ((128 : Nat) * (k + (1 : Nat)))) := (by first | rfl | exact wrap_succ (by omega) | omega | (simp (disch := omega) only [wrapI]; omega))
 have e1 : ((n - ((128 : Nat) * k)) - (128 : Nat)) = (n - ((128 : Nat) * (k + (1 : Nat)))) := (by first | rfl | exact wrap_succ (by omega) | omega | (simp (disch := omega) only [wrapI]; omega))
 have e2 : (((128 : Nat) * k) + (128 : Nat)) = ((128 : Nat) * (k + (1 : Nat))) := (by first | rfl | exact wrap_succ (by omega) | omega | (simp (disch := omega) only [wrapI]; omega))
 have h := Run.of_outT (B := ⟨w, rw, 4, β⟩) (Λ := noLam) (Ψ := noPsi) (fuel := 0) (ora := [true]) (c := (loopB Tryz.f125 0)) (st := (wAL_mk S tl N L C n nm b cap3 k s)) (l := [.forget [0, 1, 5, 6, 7, 8, 9, 10, 11, 12, 13, 14, 15, 16, 17, 18, 19, 20, 21, 22, 23] 4]) (s' := ⟨sparse 105 [(0, .o (.a (.p 0 0))), (1, .o (.a (.sl 3 ((128 * k) + 128) ((n - (128 * k)) - 128) ((cap3 - (128 * k)) - 128)))), (5, .o (.a (.p 0 0))), (6, .o (.a (.b true))), (7, .o (.a (.b false))), (8, .o (.a (.p 0 0))), (9, .o (.a (.p 0 0))), (10, .o (.a (.p 0 9))), (11, .o (.a (.i .u64 N))), (12, .o (.a (.sl 3 0 n cap3))), (13, .o (.a (.i .i64 (n : Int)))), (14, .o (.a (.i .u64 (IntKind.u64.wrap (n : Int))))), (15, .o (.a (.i .u64 (IntKind.u64.wrap (N + (IntKind.u64.wrap (n : Int))))))), (16, .o (.a (.p 0 0))), (17, .o (.a (.p 0 9))), (18, .o (.a (.p 0 0))), (19, .o (.a (.p 0 0))), (20, .o (.a (.p 0 8))), (21, .o (.a (.rs 1 0 tl 1))), (22, .o (.a (.i .i64 (tl : Int)))), (23, .o (.a (.b (decide ((tl : Int) > (0 : Int))))))], [bT [.ints .u64 8 (wAL_step C b k s), .rs 1 0 tl 1, .i .u64 (IntKind.u64.wrap (N + (IntKind.u64.wrap (n : Int)))), .p 2 0], bT [.ints .u8 tl L], bF [.ints .u64 80 C], bF [.ints .u8 nm b]]⟩) (ex := .normal) mix tabOkSD gam8_ok
  (vc := [((cZ 128) ∧ (128 ≤ (((n - (128 * k)) : Nat) : Int))), ((True ∧ ((((128 * k) + 128) ≤ nm) ∧ (True ∧ True))) ∧ ((128 = 128) ∧ (128 = 128))), ((cZ 0) ∧ (cZ 128) ∧ (128 ≤ (((cap3 - (128 * k)) : Nat) : Int))), ((decide ((((n - (128 * k)) : Nat) : Int) ≥ (128 : Int))) = true)]) (by kernel_rfl)
  (aC ⟨(dd rfl), (by first|omega|(simp (disch:=omega) only [wrapI];omega))⟩ (aC ⟨⟨trivial, ⟨(by first|omega|(simp (disch:=omega) only [wrapI];omega)), ⟨trivial, trivial⟩⟩⟩, ⟨rfl, rfl⟩⟩ (aC ⟨(dd rfl), (dd rfl), (by first|omega|(simp (disch:=omega) only [wrapI];omega))⟩ (aC (dt (by first|omega|(simp (disch:=omega) only [wrapI];omega))) (AllP_nil)))))
 rw [e0, e1, e2] at h
 exact h

theorem wAL_last (S : List Int) (tl : Nat) (N : Int) (L C : List Int) (n nm : Nat) (b : List Int) (cap3 : Nat) (h0 : (nm = n)) (h1 : (tl < 128)) (h2 : (n < 140737488355328)) (hc3 : n ≤ cap3) (hl0_0 : S.length = 8) (hl1_0 : L.length = tl) (hl2_0 : C.length = 80) (hl3_0 : b.length = nm) (hp : tl = 0) (w : World) (rw : List Nat) (β : Env) (s : (List Int)) : Run Tryz.prog ⟨w, rw, 4, β⟩ (loopB Tryz.f125 0) (wAL_mk S tl N L C n nm b cap3 (n / 128) s) (To ⟨w, rw, 4, β⟩ (.exit 0) (wAL_mk S tl N L C n nm b cap3 (n / 128) s)) :=
 Run.of_outT (Λ := noLam) (Ψ := noPsi) (fuel := 0) (ora := [false]) (l := [.forget [0, 1, 5, 6, 7, 8, 9, 10, 11, 12, 13, 14, 15, 16, 17, 18, 19, 20, 21, 22, 23] 4]) mix tabOkSD gam8_ok
  (vc := [((decide ((((n - (128 * (n / 128))) : Nat) : Int) ≥ (128 : Int))) = false)]) (by kernel_rfl)
  (aC (decide_eq_false (by first | omega | (simp (disch := omega) only [wrapI]; omega))) (AllP_nil))

theorem wAL_loop (S : List Int) (tl : Nat) (N : Int) (L C : List Int) (n nm : Nat) (b : List Int) (cap3 : Nat) (h0 : (nm = n)) (h1 : (tl < 128)) (h2 : (n < 140737488355328)) (hc3 : n ≤ cap3) (hl0_0 : S.length = 8) (hl1_0 : L.length = tl) (hl2_0 : C.length = 80) (hl3_0 : b.length = nm) (hp : tl = 0) (w : World) (rw : List Nat) (β : Env) (s : (List Int)) : Run Tryz.prog ⟨w, rw, 4, β⟩ (.block 0 (.loop (loopB Tryz.f125 0))) (wAL_mk S tl N L C n nm b cap3 0 s) (To ⟨w, rw, 4, β⟩ .normal (wAL_mk S tl N L C n nm b cap3 (n / 128) (iter (wAL_step C b) (n / 128) s))) :=
 Run.count (fun k => wAL_mk S tl N L C n nm b cap3 k (iter (wAL_step C b) k s)) (n / 128) (fun k hk => wAL_round S tl N L C n nm b cap3 h0 h1 h2 hc3 hl0_0 hl1_0 hl2_0 hl3_0 hp w rw β k hk _) (ex := (.exit 0)) (by simp) (wAL_last S tl N L C n nm b cap3 h0 h1 h2 hc3 hl0_0 hl1_0 hl2_0 hl3_0 hp w rw β _)

def wAL_out0 (C b : List Int) (n : Nat) (i0 : List Int) : List Int := (iter (wAL_step C b) (n / 128) (i0))

def wA (tl n : Nat) : Nat :=
 (tl + (n - (128 * (n / 128))))

def wA_1 (N : Int) (n : Nat) : Int :=
 (IntKind.u64.wrap (N + (IntKind.u64.wrap (n : Int))))

def wA_2 (tl : Nat) (L : List Int) (n : Nat) (b : List Int) : List Int :=
 ((sub L 0 tl) ++ (sub b (128 * (n / 128)) (n - (128 * (n / 128)))))

theorem wA_body0 (S : List Int) (tl : Nat) (N : Int) (L C : List Int) (n nm : Nat) (b : List Int) (cap3 : Nat) (h0 : (nm = n)) (h1 : (tl < 128)) (h2 : (n < 140737488355328)) (hc3 : n ≤ cap3) (hl0_0 : S.length = 8) (hl1_0 : L.length = tl) (hl2_0 : C.length = 80) (hl3_0 : b.length = nm) (hp : tl = 0) (w : World) (rw : List Nat) (β : Env) : Body Tryz.prog (tabOf tabSD) Tryz.f125 ⟨w, rw, 4, β⟩ [.o (.a (.p 0 0)), .o (.a (.sl 3 0 n cap3))] [bT [.ints .u64 8 S, .rs 1 0 tl 1, .i .u64 N, .p 2 0], bT [.ints .u8 tl L], bF [.ints .u64 80 C], bF [.ints .u8 nm b]] (fun ys K' => ys = [] ∧ K' = [bT [.ints .u64 8 (wAL_out0 C b n S), .rs 4 0 (wA tl n) 1, .i .u64 (wA_1 N n), .p 2 0], none, bF [.ints .u64 80 C], bF [.ints .u8 nm b], bT [.ints .u8 (wA tl n) (wA_2 tl L n b)]]) :=
 Body.of_finK (Γ := gam8) (Λ := lamOf [(0, ⟨[.forget [0, 1, 5, 6, 7, 8, 9, 10, 11, 12, 13, 14, 15, 16, 17, 18, 19, 20, 21, 22, 23] 4], .normal, (wAL_mk S tl N L C n nm b cap3 (n / 128) (iter (wAL_step C b) (n / 128) (S)))⟩)]) (Ψ := noPsi) (fuel := 0) (m := 105) (c := (Tryz.f125.body.getD .skip)) mix tabOkSD gam8_ok rfl (rs := []) rfl rfl [false, false, false] [] 5
  (vc := [(((0 + tl) ≤ tl) ∧ (((n - (128 * (n / 128))) ≤ (n - (128 * (n / 128)))) ∧ (((128 * (n / 128)) + (n - (128 * (n / 128)))) ≤ nm)) ∧ (((tl + (n - (128 * (n / 128)))) * 1) ≤ 140737488355328)), (Run Tryz.prog ⟨w, rw, 4, β⟩ (.block 0 (.loop (loopB Tryz.f125 0))) (wAL_mk S tl N L C n nm b cap3 0 (S)) (To ⟨w, rw, 4, β⟩ .normal (wAL_mk S tl N L C n nm b cap3 (n / 128) (iter (wAL_step C b) (n / 128) (S))))), ((decide ((tl : Int) > (0 : Int))) = false), (false = false), ((True ∧ True) ∧ (tl = tl))]) (by kernel_rfl)
  (aC ⟨(by first|omega|(simp (disch:=omega) only [wrapI];omega)), ⟨(by first|omega|(simp (disch:=omega) only [wrapI];omega)), (by first|omega|(simp (disch:=omega) only [wrapI];omega))⟩, (by first|omega|(simp (disch:=omega) only [wrapI];omega))⟩ (aC (wAL_loop S tl N L C n nm b cap3 h0 h1 h2 hc3 hl0_0 hl1_0 hl2_0 hl3_0 hp w rw β (S)) (aC (df (by first|omega|(simp (disch:=omega) only [wrapI];omega))) (aC rfl (aC ⟨⟨trivial, trivial⟩, rfl⟩ (AllP_nil))))))

def wB (tl n : Nat) : Nat :=
 (tl + n)

def wB_2 (tl : Nat) (L : List Int) (n : Nat) (b : List Int) : List Int :=
 ((sub L 0 tl) ++ (sub b 0 n))

theorem wB_body0 (S : List Int) (tl : Nat) (N : Int) (L C : List Int) (n nm : Nat) (b : List Int) (cap3 : Nat) (h0 : (nm = n)) (h1 : (tl < 128)) (h2 : (n < 140737488355328)) (hc3 : n ≤ cap3) (hl0_0 : S.length = 8) (hl1_0 : L.length = tl) (hl2_0 : C.length = 80) (hl3_0 : b.length = nm) (hp : 0 < tl) (hp2 : tl + n < 128) (w : World) (rw : List Nat) (β : Env) : Body Tryz.prog (tabOf tabSD) Tryz.f125 ⟨w, rw, 4, β⟩ [.o (.a (.p 0 0)), .o (.a (.sl 3 0 n cap3))] [bT [.ints .u64 8 S, .rs 1 0 tl 1, .i .u64 N, .p 2 0], bT [.ints .u8 tl L], bF [.ints .u64 80 C], bF [.ints .u8 nm b]] (fun ys K' => ys = [] ∧ K' = [bT [.ints .u64 8 S, .rs 4 0 (wB tl n) 1, .i .u64 (wA_1 N n), .p 2 0], none, bF [.ints .u64 80 C], bF [.ints .u8 nm b], bT [.ints .u8 (wB tl n) (wB_2 tl L n b)]]) :=
 Body.of_finK (Γ := gam8) (Λ := noLam) (Ψ := psiOf [(3, [.eqS 4 (.o (.a (.i .i64 (n : Int))))])]) (fuel := 0) (m := 105) (c := (Tryz.f125.body.getD .skip)) mix tabOkSD gam8_ok rfl (rs := []) rfl rfl [false, true, false, true] [] 5
  (vc := [((decide ((((tl + n) : Nat) : Int) < 128)) = true), ((0 ≤ (n : Int)) ∧ ((n : Int) ≤ (n : Int))), (((0 + tl) ≤ tl) ∧ ((n ≤ n) ∧ ((0 + n) ≤ nm)) ∧ (((tl + n) * 1) ≤ 140737488355328)), ((cZ 0) ∧ (0 ≤ (n : Int)) ∧ ((n : Int) ≤ (cap3 : Int))), ((.o (.a (.i .i64 (if (n : Int) < (IntKind.i64.wrap ((128 : Int) - (tl : Int))) then (n : Int) else (IntKind.i64.wrap ((128 : Int) - (tl : Int)))))) : AV) = .o (.a (.i .i64 (n : Int)))), ((decide ((tl : Int) > (0 : Int))) = true), (false = false), ((True ∧ True) ∧ (tl = tl))]) (by kernel_rfl)
  (aC (dt (by first|omega|(simp (disch:=omega) only [wrapI];omega))) (aC ⟨(by first|omega|(simp (disch:=omega) only [wrapI];omega)), (by first|omega|(simp (disch:=omega) only [wrapI];omega))⟩ (aC ⟨(by first|omega|(simp (disch:=omega) only [wrapI];omega)), ⟨(by first|omega|(simp (disch:=omega) only [wrapI];omega)), (by first|omega|(simp (disch:=omega) only [wrapI];omega))⟩, (by first|omega|(simp (disch:=omega) only [wrapI];omega))⟩ (aC ⟨(dd rfl), (by first|omega|(simp (disch:=omega) only [wrapI];omega)), (by first|omega|(simp (disch:=omega) only [wrapI];omega))⟩ (aC ((congrArg (fun z => AV.o (.a (.i .i64 z))) (wmin_small hp2))) (aC (dt (by first|omega|(simp (disch:=omega) only [wrapI];omega))) (aC rfl (aC ⟨⟨trivial, trivial⟩, rfl⟩ (AllP_nil)))))))))

def wCL_mk (S : List Int) (tl : Nat) (N : Int) (L C : List Int) (n nm : Nat) (b : List Int) (cap3 k : Nat) (s : (List Int)) : St := ⟨sparse 105 [(0, .o (.a (.p 0 0))), (1, .o (.a (.sl 3 ((0 + (128 - tl)) + (128 * k)) ((n - (128 - tl)) - (128 * k)) ((cap3 - (128 - tl)) - (128 * k))))), (4, .o (.a (.i .i64 (((128 - tl) : Nat) : Int)))), (5, .o (.a (.p 0 0))), (6, .o (.a (.b true))), (7, .o (.a (.b false))), (8, .o (.a (.p 0 0))), (9, .o (.a (.p 0 0))), (10, .o (.a (.p 0 9))), (11, .o (.a (.i .u64 N))), (12, .o (.a (.sl 3 0 n cap3))), (13, .o (.a (.i .i64 (n : Int)))), (14, .o (.a (.i .u64 (IntKind.u64.wrap (n : Int))))), (15, .o (.a (.i .u64 (IntKind.u64.wrap (N + (IntKind.u64.wrap (n : Int))))))), (16, .o (.a (.p 0 0))), (17, .o (.a (.p 0 9))), (18, .o (.a (.p 0 0))), (19, .o (.a (.p 0 0))), (20, .o (.a (.p 0 8))), (21, .o (.a (.rs 1 0 tl 1))), (22, .o (.a (.i .i64 (tl : Int)))), (23, .o (.a (.b (decide ((tl : Int) > (0 : Int)))))), (24, .o (.a (.p 0 0))), (25, .o (.a (.p 0 0))), (26, .o (.a (.p 0 8))), (27, .o (.a (.rs 1 0 tl 1))), (28, .o (.a (.i .i64 (tl : Int)))), (29, .o (.a (.i .i64 (IntKind.i64.wrap ((128 : Int) - (tl : Int)))))), (30, .o (.a (.sl 3 0 n cap3))), (31, .o (.a (.i .i64 (n : Int)))), (32, .o (.a (.i .i64 (if (n : Int) < (IntKind.i64.wrap ((128 : Int) - (tl : Int))) then (n : Int) else (IntKind.i64.wrap ((128 : Int) - (tl : Int))))))), (33, .o (.a (.p 0 0))), (34, .o (.a (.p 0 0))), (35, .o (.a (.p 0 0))), (36, .o (.a (.p 0 8))), (37, .o (.a (.rs 1 0 tl 1))), (38, .o (.a (.sl 3 0 n cap3))), (39, .o (.a (.i .i64 (((128 - tl) : Nat) : Int)))), (40, .o (.a (.sl 3 0 (128 - tl) cap3))), (41, .o (.a (.rs 4 0 (tl + (128 - tl)) 1))), (42, .o (.a (.sl 3 0 n cap3))), (43, .o (.a (.i .i64 (((128 - tl) : Nat) : Int)))), (44, .o (.a (.sl 3 (0 + (128 - tl)) (n - (128 - tl)) (cap3 - (128 - tl))))), (45, .o (.a (.p 0 0))), (46, .o (.a (.p 0 8))), (47, .o (.a (.p 0 0))), (48, .o (.a (.p 0 0))), (49, .o (.a (.p 0 8))), (50, .o (.a (.rs 4 0 (tl + (128 - tl)) 1))), (51, .o (.a (.i .i64 (((tl + (128 - tl)) : Nat) : Int)))), (52, .o (.a (.b (decide ((((tl + (128 - tl)) : Nat) : Int) < 128))))), (53, .o (.a (.p 0 0))), (54, .o (.a (.p 0 0))), (55, .o (.a (.p 0 0))), (56, .o (.a (.p 0 0))), (57, .o (.g [.ints .u64 8 S])), (58, .o (.a (.p 0 0))), (59, .o (.a (.p 0 0))), (60, .o (.a (.p 0 8))), (61, .o (.a (.rs 4 0 (tl + (128 - tl)) 1))), (62, .o (.a (.p 0 0))), (63, .o (.a (.p 0 0))), (64, .o (.a (.p 0 10))), (65, .o (.a (.p 2 0))), (66, .o (.g [.ints .u64 8 (blk S (sub ((sub L 0 tl) ++ (sub b 0 (128 - tl))) 0 (tl + (128 - tl))) C)])), (67, .o (.a (.p 0 0))), (68, .o (.a (.p 0 0))), (69, .o (.a (.p 0 0))), (70, .o (.a (.p 0 0))), (71, .o (.a (.p 0 0))), (72, .o (.a (.p 0 8))), (73, .o (.a (.rs 4 0 (tl + (128 - tl)) 1))), (74, .o (.a (.rs 4 0 0 1))), (75, .o (.a (.p 0 0))), (76, .o (.a (.p 0 8)))], [bT [.ints .u64 8 s, .rs 4 0 0 1, .i .u64 (IntKind.u64.wrap (N + (IntKind.u64.wrap (n : Int)))), .p 2 0], none, bF [.ints .u64 80 C], bF [.ints .u8 nm b], bT [.ints .u8 (tl + (128 - tl)) ((sub L 0 tl) ++ (sub b 0 (128 - tl)))]]⟩

def wCL_step (tl : Nat) (C b : List Int) (k : Nat) (s : (List Int)) : (List Int) :=
 ((blk s (sub b ((0 + (128 - tl)) + (128 * k)) 128) C))

theorem wCL_round (S : List Int) (tl : Nat) (N : Int) (L C : List Int) (n nm : Nat) (b : List Int) (cap3 : Nat) (h0 : (nm = n)) (h1 : (tl < 128)) (h2 : (n < 140737488355328)) (hc3 : n ≤ cap3) (hl0_0 : S.length = 8) (hl1_0 : L.length = tl) (hl2_0 : C.length = 80) (hl3_0 : b.length = nm) (hp : 0 < tl) (hp2 : 128 ≤ tl + n) (w : World) (rw : List Nat) (β : Env) (k : Nat) (hk : k < ((n - (128 - tl)) / 128)) (s : (List Int)) : Run Tryz.prog ⟨w, rw, 4, β⟩ (loopB Tryz.f125 0) (wCL_mk S tl N L C n nm b cap3 k s) (To ⟨w, rw, 4, β⟩ .normal (wCL_mk S tl N L C n nm b cap3 (k + 1) (wCL_step tl C b k s))) := by
 have e0 : ((((0 : Nat) + ((128 : Nat) - tl)) + ((128 : Nat) * k)) + (128 : Nat)) = (((0 : Nat) + ((128 : Nat) - tl)) + ((128 : Nat) * (k + (1 : Nat)))) := (by first | rfl | exact wrap_succ (by omega) | omega | (simp (disch := omega) only [wrapI]; omega))
 have e1 : (((cap3 - ((128 : Nat) - tl)) - ((128 : Nat) * k)) - (128 : Nat)) = ((cap3 - ((128 : Nat) - tl)) - ((128 : Nat) * (k + (1 : Nat)))) := (by first | rfl | exact wrap_succ (by omega) | omega | (simp (disch := omega) only [wrapI]; omega))
 have e2 : (((n - ((128 : Nat) - tl)) - ((128 : Nat) * k)) - (128 : Nat)) = ((n - ((128 : Nat) - tl)) - ((128 : Nat) * (k + (1 : Nat)))) := (by first | rfl | exact wrap_succ (by omega) | omega | (simp (disch := omega) only [wrapI]; omega))
 have h := Run.of_outT (B := ⟨w, rw, 4, β⟩) (Λ := noLam) (Ψ := noPsi) (fuel := 0) (ora := [true]) (c := (loopB Tryz.f125 0)) (st := (wCL_mk S tl N L C n nm b cap3 k s)) (l := [.forget [0, 1, 4, 5, 6, 7, 8, 9, 10, 11, 12, 13, 14, 15, 16, 17, 18, 19, 20, 21, 22, 23, 24, 25, 26, 27, 28, 29, 30, 31, 32, 33, 34, 35, 36, 37, 38, 39, 40, 41, 42, 43, 44, 45, 46, 47, 48, 49, 50, 51, 52, 53, 54, 55, 56, 57, 58, 59, 60, 61, 62, 63, 64, 65, 66, 67, 68, 69, 70, 71, 72, 73, 74, 75, 76] 5]) (s' := ⟨sparse 105 [(0, .o (.a (.p 0 0))), (1, .o (.a (.sl 3 (((0 + (128 - tl)) + (128 * k)) + 128) (((n - (128 - tl)) - (128 * k)) - 128) (((cap3 - (128 - tl)) - (128 * k)) - 128)))), (4, .o (.a (.i .i64 (((128 - tl) : Nat) : Int)))), (5, .o (.a (.p 0 0))), (6, .o (.a (.b true))), (7, .o (.a (.b false))), (8, .o (.a (.p 0 0))), (9, .o (.a (.p 0 0))), (10, .o (.a (.p 0 9))), (11, .o (.a (.i .u64 N))), (12, .o (.a (.sl 3 0 n cap3))), (13, .o (.a (.i .i64 (n : Int)))), (14, .o (.a (.i .u64 (IntKind.u64.wrap (n : Int))))), (15, .o (.a (.i .u64 (IntKind.u64.wrap (N + (IntKind.u64.wrap (n : Int))))))), (16, .o (.a (.p 0 0))), (17, .o (.a (.p 0 9))), (18, .o (.a (.p 0 0))), (19, .o (.a (.p 0 0))), (20, .o (.a (.p 0 8))), (21, .o (.a (.rs 1 0 tl 1))), (22, .o (.a (.i .i64 (tl : Int)))), (23, .o (.a (.b (decide ((tl : Int) > (0 : Int)))))), (24, .o (.a (.p 0 0))), (25, .o (.a (.p 0 0))), (26, .o (.a (.p 0 8))), (27, .o (.a (.rs 1 0 tl 1))), (28, .o (.a (.i .i64 (tl : Int)))), (29, .o (.a (.i .i64 (IntKind.i64.wrap ((128 : Int) - (tl : Int)))))), (30, .o (.a (.sl 3 0 n cap3))), (31, .o (.a (.i .i64 (n : Int)))), (32, .o (.a (.i .i64 (if (n : Int) < (IntKind.i64.wrap ((128 : Int) - (tl : Int))) then (n : Int) else (IntKind.i64.wrap ((128 : Int) - (tl : Int))))))), (33, .o (.a (.p 0 0))), (34, .o (.a (.p 0 0))), (35, .o (.a (.p 0 0))), (36, .o (.a (.p 0 8))), (37, .o (.a (.rs 1 0 tl 1))), (38, .o (.a (.sl 3 0 n cap3))), (39, .o (.a (.i .i64 (((128 - tl) : Nat) : Int)))), (40, .o (.a (.sl 3 0 (128 - tl) cap3))), (41, .o (.a (.rs 4 0 (tl + (128 - tl)) 1))), (42, .o (.a (.sl 3 0 n cap3))), (43, .o (.a (.i .i64 (((128 - tl) : Nat) : Int)))), (44, .o (.a (.sl 3 (0 + (128 - tl)) (n - (128 - tl)) (cap3 - (128 - tl))))), (45, .o (.a (.p 0 0))), (46, .o (.a (.p 0 8))), (47, .o (.a (.p 0 0))), (48, .o (.a (.p 0 0))), (49, .o (.a (.p 0 8))), (50, .o (.a (.rs 4 0 (tl + (128 - tl)) 1))), (51, .o (.a (.i .i64 (((tl + (128 - tl)) : Nat) : Int)))), (52, .o (.a (.b (decide ((((tl + (128 - tl)) : Nat) : Int) < 128))))), (53, .o (.a (.p 0 0))), (54, .o (.a (.p 0 0))), (55, .o (.a (.p 0 0))), (56, .o (.a (.p 0 0))), (57, .o (.g [.ints .u64 8 S])), (58, .o (.a (.p 0 0))), (59, .o (.a (.p 0 0))), (60, .o (.a (.p 0 8))), (61, .o (.a (.rs 4 0 (tl + (128 - tl)) 1))), (62, .o (.a (.p 0 0))), (63, .o (.a (.p 0 0))), (64, .o (.a (.p 0 10))), (65, .o (.a (.p 2 0))), (66, .o (.g [.ints .u64 8 (blk S (sub ((sub L 0 tl) ++ (sub b 0 (128 - tl))) 0 (tl + (128 - tl))) C)])), (67, .o (.a (.p 0 0))), (68, .o (.a (.p 0 0))), (69, .o (.a (.p 0 0))), (70, .o (.a (.p 0 0))), (71, .o (.a (.p 0 0))), (72, .o (.a (.p 0 8))), (73, .o (.a (.rs 4 0 (tl + (128 - tl)) 1))), (74, .o (.a (.rs 4 0 0 1))), (75, .o (.a (.p 0 0))), (76, .o (.a (.p 0 8)))], [bT [.ints .u64 8 (wCL_step tl C b k s), .rs 4 0 0 1, .i .u64 (IntKind.u64.wrap (N + (IntKind.u64.wrap (n : Int)))), .p 2 0], none, bF [.ints .u64 80 C], bF [.ints .u8 nm b], bT [.ints .u8 (tl + (128 - tl)) ((sub L 0 tl) ++ (sub b 0 (128 - tl)))]]⟩) (ex := .normal) mix tabOkSD gam8_ok
  (vc := [((cZ 128) ∧ (128 ≤ ((((n - (128 - tl)) - (128 * k)) : Nat) : Int))), ((True ∧ (((((0 + (128 - tl)) + (128 * k)) + 128) ≤ nm) ∧ (True ∧ True))) ∧ ((128 = 128) ∧ (128 = 128))), ((cZ 0) ∧ (cZ 128) ∧ (128 ≤ ((((cap3 - (128 - tl)) - (128 * k)) : Nat) : Int))), ((decide (((((n - (128 - tl)) - (128 * k)) : Nat) : Int) ≥ (128 : Int))) = true)]) (by kernel_rfl)
  (aC ⟨(dd rfl), (by first|omega|(simp (disch:=omega) only [wrapI];omega))⟩ (aC ⟨⟨trivial, ⟨(by first|omega|(simp (disch:=omega) only [wrapI];omega)), ⟨trivial, trivial⟩⟩⟩, ⟨rfl, rfl⟩⟩ (aC ⟨(dd rfl), (dd rfl), (by first|omega|(simp (disch:=omega) only [wrapI];omega))⟩ (aC (dt (by first|omega|(simp (disch:=omega) only [wrapI];omega))) (AllP_nil)))))
 rw [e0, e1, e2] at h
 exact h

theorem wCL_last (S : List Int) (tl : Nat) (N : Int) (L C : List Int) (n nm : Nat) (b : List Int) (cap3 : Nat) (h0 : (nm = n)) (h1 : (tl < 128)) (h2 : (n < 140737488355328)) (hc3 : n ≤ cap3) (hl0_0 : S.length = 8) (hl1_0 : L.length = tl) (hl2_0 : C.length = 80) (hl3_0 : b.length = nm) (hp : 0 < tl) (hp2 : 128 ≤ tl + n) (w : World) (rw : List Nat) (β : Env) (s : (List Int)) : Run Tryz.prog ⟨w, rw, 4, β⟩ (loopB Tryz.f125 0) (wCL_mk S tl N L C n nm b cap3 ((n - (128 - tl)) / 128) s) (To ⟨w, rw, 4, β⟩ (.exit 0) (wCL_mk S tl N L C n nm b cap3 ((n - (128 - tl)) / 128) s)) :=
 Run.of_outT (Λ := noLam) (Ψ := noPsi) (fuel := 0) (ora := [false]) (l := [.forget [0, 1, 4, 5, 6, 7, 8, 9, 10, 11, 12, 13, 14, 15, 16, 17, 18, 19, 20, 21, 22, 23, 24, 25, 26, 27, 28, 29, 30, 31, 32, 33, 34, 35, 36, 37, 38, 39, 40, 41, 42, 43, 44, 45, 46, 47, 48, 49, 50, 51, 52, 53, 54, 55, 56, 57, 58, 59, 60, 61, 62, 63, 64, 65, 66, 67, 68, 69, 70, 71, 72, 73, 74, 75, 76] 5]) mix tabOkSD gam8_ok
  (vc := [((decide (((((n - (128 - tl)) - (128 * ((n - (128 - tl)) / 128))) : Nat) : Int) ≥ (128 : Int))) = false)]) (by kernel_rfl)
  (aC (decide_eq_false (by first | omega | (simp (disch := omega) only [wrapI]; omega))) (AllP_nil))

theorem wCL_loop (S : List Int) (tl : Nat) (N : Int) (L C : List Int) (n nm : Nat) (b : List Int) (cap3 : Nat) (h0 : (nm = n)) (h1 : (tl < 128)) (h2 : (n < 140737488355328)) (hc3 : n ≤ cap3) (hl0_0 : S.length = 8) (hl1_0 : L.length = tl) (hl2_0 : C.length = 80) (hl3_0 : b.length = nm) (hp : 0 < tl) (hp2 : 128 ≤ tl + n) (w : World) (rw : List Nat) (β : Env) (s : (List Int)) : Run Tryz.prog ⟨w, rw, 4, β⟩ (.block 0 (.loop (loopB Tryz.f125 0))) (wCL_mk S tl N L C n nm b cap3 0 s) (To ⟨w, rw, 4, β⟩ .normal (wCL_mk S tl N L C n nm b cap3 ((n - (128 - tl)) / 128) (iter (wCL_step tl C b) ((n - (128 - tl)) / 128) s))) :=
 Run.count (fun k => wCL_mk S tl N L C n nm b cap3 k (iter (wCL_step tl C b) k s)) ((n - (128 - tl)) / 128) (fun k hk => wCL_round S tl N L C n nm b cap3 h0 h1 h2 hc3 hl0_0 hl1_0 hl2_0 hl3_0 hp hp2 w rw β k hk _) (ex := (.exit 0)) (by simp) (wCL_last S tl N L C n nm b cap3 h0 h1 h2 hc3 hl0_0 hl1_0 hl2_0 hl3_0 hp hp2 w rw β _)

def wCL_out0 (tl : Nat) (C b : List Int) (n : Nat) (i0 : List Int) : List Int := (iter (wCL_step tl C b) ((n - (128 - tl)) / 128) (i0))

def wC (S : List Int) (tl : Nat) (L C : List Int) (n : Nat) (b : List Int) : List Int :=
 (wCL_out0 tl C b n (blk S (sub ((sub L 0 tl) ++ (sub b 0 (128 - tl))) 0 (tl + (128 - tl))) C))

def wC_1 (tl n : Nat) : Nat :=
 let z0 : Nat := (n - (128 - tl))
 (0 + (z0 - (128 * (z0 / 128))))

def wC_3 (tl : Nat) (L : List Int) (n : Nat) (b : List Int) : List Int :=
 let z0 : Nat := (n - (128 - tl))
 let z1 : Nat := (128 * (z0 / 128))
 ((sub ((sub L 0 tl) ++ (sub b 0 (128 - tl))) 0 0) ++ (sub b ((0 + (128 - tl)) + z1) (z0 - z1)))

theorem wC_body0 (S : List Int) (tl : Nat) (N : Int) (L C : List Int) (n nm : Nat) (b : List Int) (cap3 : Nat) (h0 : (nm = n)) (h1 : (tl < 128)) (h2 : (n < 140737488355328)) (hc3 : n ≤ cap3) (hl0_0 : S.length = 8) (hl1_0 : L.length = tl) (hl2_0 : C.length = 80) (hl3_0 : b.length = nm) (hp : 0 < tl) (hp2 : 128 ≤ tl + n) (w : World) (rw : List Nat) (β : Env) : Body Tryz.prog (tabOf tabSD) Tryz.f125 ⟨w, rw, 4, β⟩ [.o (.a (.p 0 0)), .o (.a (.sl 3 0 n cap3))] [bT [.ints .u64 8 S, .rs 1 0 tl 1, .i .u64 N, .p 2 0], bT [.ints .u8 tl L], bF [.ints .u64 80 C], bF [.ints .u8 nm b]] (fun ys K' => ys = [] ∧ K' = [bT [.ints .u64 8 (wC S tl L C n b), .rs 4 0 (wC_1 tl n) 1, .i .u64 (wA_1 N n), .p 2 0], none, bF [.ints .u64 80 C], bF [.ints .u8 nm b], bT [.ints .u8 (wC_1 tl n) (wC_3 tl L n b)]]) :=
 Body.of_finK (Γ := gam8) (Λ := lamOf [(0, ⟨[.forget [0, 1, 4, 5, 6, 7, 8, 9, 10, 11, 12, 13, 14, 15, 16, 17, 18, 19, 20, 21, 22, 23, 24, 25, 26, 27, 28, 29, 30, 31, 32, 33, 34, 35, 36, 37, 38, 39, 40, 41, 42, 43, 44, 45, 46, 47, 48, 49, 50, 51, 52, 53, 54, 55, 56, 57, 58, 59, 60, 61, 62, 63, 64, 65, 66, 67, 68, 69, 70, 71, 72, 73, 74, 75, 76] 5], .normal, (wCL_mk S tl N L C n nm b cap3 ((n - (128 - tl)) / 128) (iter (wCL_step tl C b) ((n - (128 - tl)) / 128) ((blk S (sub ((sub L 0 tl) ++ (sub b 0 (128 - tl))) 0 (tl + (128 - tl))) C))))⟩)]) (Ψ := psiOf [(3, [.eqS 4 (.o (.a (.i .i64 (((128 - tl) : Nat) : Int))))])]) (fuel := 0) (m := 105) (c := (Tryz.f125.body.getD .skip)) mix tabOkSD gam8_ok rfl (rs := []) rfl rfl [false, true, false, false, false] [.swap 4 5, .forget [] 5] 5
  (vc := [((0 ≤ (tl + (128 - tl))) ∧ ((((n - (128 - tl)) - (128 * ((n - (128 - tl)) / 128))) ≤ ((n - (128 - tl)) - (128 * ((n - (128 - tl)) / 128)))) ∧ ((((0 + (128 - tl)) + (128 * ((n - (128 - tl)) / 128))) + ((n - (128 - tl)) - (128 * ((n - (128 - tl)) / 128)))) ≤ nm)) ∧ (((0 + ((n - (128 - tl)) - (128 * ((n - (128 - tl)) / 128)))) * 1) ≤ 140737488355328)), (Run Tryz.prog ⟨w, rw, 4, β⟩ (.block 0 (.loop (loopB Tryz.f125 0))) (wCL_mk S tl N L C n nm b cap3 0 ((blk S (sub ((sub L 0 tl) ++ (sub b 0 (128 - tl))) 0 (tl + (128 - tl))) C))) (To ⟨w, rw, 4, β⟩ .normal (wCL_mk S tl N L C n nm b cap3 ((n - (128 - tl)) / 128) (iter (wCL_step tl C b) ((n - (128 - tl)) / 128) ((blk S (sub ((sub L 0 tl) ++ (sub b 0 (128 - tl))) 0 (tl + (128 - tl))) C)))))), ((cZ 0) ∧ (cZ 0) ∧ (0 ≤ (((tl + (128 - tl)) : Nat) : Int))), ((True ∧ (((0 + (tl + (128 - tl))) ≤ (tl + (128 - tl))) ∧ (True ∧ True))) ∧ (((tl + (128 - tl)) = (tl + (128 - tl))) ∧ ((tl + (128 - tl)) = 128))), ((decide ((((tl + (128 - tl)) : Nat) : Int) < 128)) = false), ((0 ≤ (((128 - tl) : Nat) : Int)) ∧ ((((128 - tl) : Nat) : Int) ≤ (n : Int))), (((0 + tl) ≤ tl) ∧ (((128 - tl) ≤ (128 - tl)) ∧ ((0 + (128 - tl)) ≤ nm)) ∧ (((tl + (128 - tl)) * 1) ≤ 140737488355328)), ((cZ 0) ∧ (0 ≤ (((128 - tl) : Nat) : Int)) ∧ ((((128 - tl) : Nat) : Int) ≤ (cap3 : Int))), ((.o (.a (.i .i64 (if (n : Int) < (IntKind.i64.wrap ((128 : Int) - (tl : Int))) then (n : Int) else (IntKind.i64.wrap ((128 : Int) - (tl : Int)))))) : AV) = .o (.a (.i .i64 (((128 - tl) : Nat) : Int)))), ((decide ((tl : Int) > (0 : Int))) = true), (false = false), ((True ∧ True) ∧ (tl = tl))]) (by kernel_rfl)
  (aC ⟨(by first|omega|(simp (disch:=omega) only [wrapI];omega)), ⟨(by first|omega|(simp (disch:=omega) only [wrapI];omega)), (by first|omega|(simp (disch:=omega) only [wrapI];omega))⟩, (by first|omega|(simp (disch:=omega) only [wrapI];omega))⟩ (aC (wCL_loop S tl N L C n nm b cap3 h0 h1 h2 hc3 hl0_0 hl1_0 hl2_0 hl3_0 hp hp2 w rw β ((blk S (sub ((sub L 0 tl) ++ (sub b 0 (128 - tl))) 0 (tl + (128 - tl))) C))) (aC ⟨(dd rfl), (dd rfl), (by first|omega|(simp (disch:=omega) only [wrapI];omega))⟩ (aC ⟨⟨trivial, ⟨(by first|omega|(simp (disch:=omega) only [wrapI];omega)), ⟨trivial, trivial⟩⟩⟩, ⟨rfl, (by first|omega|(simp (disch:=omega) only [wrapI];omega))⟩⟩ (aC (df (by first|omega|(simp (disch:=omega) only [wrapI];omega))) (aC ⟨(by first|omega|(simp (disch:=omega) only [wrapI];omega)), (by first|omega|(simp (disch:=omega) only [wrapI];omega))⟩ (aC ⟨(by first|omega|(simp (disch:=omega) only [wrapI];omega)), ⟨(by first|omega|(simp (disch:=omega) only [wrapI];omega)), (by first|omega|(simp (disch:=omega) only [wrapI];omega))⟩, (by first|omega|(simp (disch:=omega) only [wrapI];omega))⟩ (aC ⟨(dd rfl), (by first|omega|(simp (disch:=omega) only [wrapI];omega)), (by first|omega|(simp (disch:=omega) only [wrapI];omega))⟩ (aC ((congrArg (fun z => AV.o (.a (.i .i64 z))) (wmin_big hp2 h1))) (aC (dt (by first|omega|(simp (disch:=omega) only [wrapI];omega))) (aC rfl (aC ⟨⟨trivial, trivial⟩, rfl⟩ (AllP_nil)))))))))))))

end Go.Proofs.YtjmfnjgcofpocaaGreat.X

/- A Hasher that takes some more bytes: what it holds then, in one form. -/
namespace Go.Proofs.YtjmfnjgcofpocaaGreat.X
open Go Go.Proofs
set_option linter.unusedVariables false

theorem iter_congr {α : Type} {f g : Nat → α → α} : ∀ {k : Nat} {s : α}, (∀ i s, i < k → f i s = g i s) → iter f k s = iter g k s
 | 0, _, _ => rfl
 | k + 1, s, h => by
  show f k (iter f k s) = g k (iter g k s)
  rw [iter_congr fun i s hi => h i s (by omega), h k _ (by omega)]

theorem iter_head {α : Type} {f : Nat → α → α} : ∀ {k : Nat} {s : α}, iter f (k + 1) s = iter (fun i => f (i + 1)) k (f 0 s)
 | 0, _ => rfl
 | k + 1, s => by
  show f (k + 1) (iter f (k + 1) s) = f (k + 1) (iter (fun i => f (i + 1)) k (f 0 s))
  rw [iter_head]

def absN (C D : List Int) (k : Nat) (S : List Int) : List Int := iter (fun i s => blk s (sub D (128 * i) 128) C) k S

theorem sub_all {α : Type} (l : List α) (m : Nat) (h : l.length ≤ m) : sub l 0 m = l := by
 simp [sub, List.take_of_length_le h]
theorem sub_drop {α : Type} (l : List α) (c m : Nat) (h : l.length ≤ c + m) : sub l c m = l.drop c := by
 unfold sub; rw [List.take_of_length_le (by simp; omega)]
theorem sub_zero {α : Type} (l : List α) (c : Nat) : sub l c 0 = [] := by simp [sub]

def wrS (C S L b : List Int) (tl n : Nat) : List Int := absN C (L ++ b) ((tl + n) / 128) S
def wrT (tl n : Nat) : Nat := (tl + n) % 128
def wrN (N : Int) (n : Nat) : Int := IntKind.u64.wrap (N + IntKind.u64.wrap (n : Int))
def wrL (L b : List Int) (tl n : Nat) : List Int := (L ++ b).drop (128 * ((tl + n) / 128))

theorem wr_body (S : List Int) (tl : Nat) (N : Int) (L C : List Int) (n nm : Nat) (b : List Int) (cap3 : Nat) (h0 : (nm = n)) (h1 : (tl < 128)) (h2 : (n < 140737488355328)) (w : World) (rw : List Nat) (β : Env) :
  Body Tryz.prog (tabOf tabSD) Tryz.f125 ⟨w, rw, 4, β⟩ [.o (.a (.p 0 0)), .o (.a (.sl 3 0 n cap3))] [bT [.ints .u64 8 S, .rs 1 0 tl 1, .i .u64 N, .p 2 0], bT [.ints .u8 tl L], bF [.ints .u64 80 C], bF [.ints .u8 nm b]]
   (fun ys K' => ys = [] ∧ K' = [bT [.ints .u64 8 (wrS C S L b tl n), .rs 4 0 (wrT tl n) 1, .i .u64 (wrN N n), .p 2 0], none, bF [.ints .u64 80 C], bF [.ints .u8 nm b], bT [.ints .u8 (wrT tl n) (wrL L b tl n)]]) := by
 refine Body.lens (c := (Tryz.f125.body.getD .skip)) rfl fun h => ?_
 have hc3 : n ≤ cap3 := h.caps 1 _ _ _ _ rfl
 have hS : S.length = 8 := h.lens 0 _ .u64 8 S rfl (by simp)
 have hL : L.length = tl := h.lens 1 _ .u8 tl L rfl (by simp)
 have hC : C.length = 80 := h.lens 2 _ .u64 80 C rfl (by simp)
 have hb : b.length = nm := h.lens 3 _ .u8 nm b rfl (by simp)
 subst h0
 by_cases hp : tl = 0
 ·refine (wA_body0 S tl N L C nm nm b cap3 rfl h1 h2 hc3 hS hL hC hb hp w rw β).mono fun xs K hx => ?_
  obtain ⟨rfl, rfl⟩ := hx
  have hnil : L = [] := List.length_eq_zero_iff.1 (by omega)
  have e1 : wAL_out0 C b nm S = wrS C S L b tl nm := by
   unfold wAL_out0 wrS absN
   rw [hp, hnil, Nat.zero_add]
   exact iter_congr fun i s hi => rfl
  have e2 : wA tl nm = wrT tl nm := by unfold wA wrT; omega
  have e3 : wA_2 tl L nm b = wrL L b tl nm := by
   unfold wA_2 wrL
   rw [hnil, hp, sub_zero, List.nil_append, List.nil_append, sub_drop _ _ _ (by omega), Nat.zero_add]
  have e4 : wA_1 N nm = wrN N nm := rfl
  rw [e1, e2, e3, e4]; exact ⟨rfl, rfl⟩
 ·by_cases hq : tl + nm < 128
  ·refine (wB_body0 S tl N L C nm nm b cap3 rfl h1 h2 hc3 hS hL hC hb (by omega) hq w rw β).mono fun xs K hx => ?_
   obtain ⟨rfl, rfl⟩ := hx
   have hd : (tl + nm) / 128 = 0 := by omega
   have e1 : S = wrS C S L b tl nm := by unfold wrS absN; rw [hd]; rfl
   have e2 : wB tl nm = wrT tl nm := by unfold wB wrT; omega
   have e3 : wB_2 tl L nm b = wrL L b tl nm := by
    unfold wB_2 wrL
    rw [hd, sub_all _ _ (by omega), sub_all _ _ (by omega)]; rfl
   have e4 : wA_1 N nm = wrN N nm := rfl
   rw [e2, e3, e4, ← e1]; exact ⟨rfl, rfl⟩
  ·refine (wC_body0 S tl N L C nm nm b cap3 rfl h1 h2 hc3 hS hL hC hb (by omega) (by omega) w rw β).mono fun xs K hx => ?_
   obtain ⟨rfl, rfl⟩ := hx
   have hd : (tl + nm) / 128 = (nm - (128 - tl)) / 128 + 1 := by omega
   have hfirst : sub ((sub L 0 tl) ++ (sub b 0 (128 - tl))) 0 (tl + (128 - tl)) = sub (L ++ b) 0 128 := by
    rw [sub_all L _ (by omega), sub_all _ _ (by simp [sub]; omega)]
    unfold sub
    simp only [List.drop_zero]
    rw [List.take_append, List.take_of_length_le (l := L) (by omega), hL]
   have e1 : wC S tl L C nm b = wrS C S L b tl nm := by
    unfold wC wCL_out0 wrS absN
    rw [hfirst, hd, iter_head]
    refine iter_congr fun i s hi => ?_
    show blk s _ C = blk s _ C
    congr 1
    unfold sub
    rw [List.drop_append, List.drop_of_length_le (l := L) (by omega), List.nil_append, hL]
    congr 2; omega
   have e2 : wC_1 tl nm = wrT tl nm := by unfold wC_1 wrT; simp only; omega
   have e3 : wC_3 tl L nm b = wrL L b tl nm := by
    unfold wC_3 wrL
    simp only
    rw [sub_zero, List.nil_append, hd, List.drop_append, List.drop_of_length_le (l := L) (by omega), List.nil_append, hL, sub_drop _ _ _ (by omega)]
    congr 1; omega
   have e4 : wA_1 N nm = wrN N nm := rfl
   rw [e1, e2, e3, e4]; exact ⟨rfl, rfl⟩
end Go.Proofs.YtjmfnjgcofpocaaGreat.X

/- Plain lemmas on the bytes behind a message, for the walk of a Hasher's Sum. -/
namespace Go.Proofs.YtjmfnjgcofpocaaGreat.X
open Go Go.Proofs

theorem pad_eq (N : Int) : pad N = (padE N).toNat + 16 := rfl

theorem pad_le (N : Int) : 17 ≤ pad N ∧ pad N ≤ 144 := by
 have := padE_ok N
 rw [pad_eq]; omega

theorem pad_mod {N : Int} {tl : Nat} (h0 : 0 ≤ N) (h : Int.tmod N 128 = (tl : Int)) : (tl + pad N) % 128 = 0 ∧ tl < 128 := by
 have h1 : Int.tmod N 128 = N % 128 := Int.tmod_eq_emod_of_nonneg h0
 have h2 : padE N = 1 + (239 - (tl : Int)) % 128 := by
  unfold padE
  rw [h]
  have : (tl : Int) < 128 := by omega
  rw [wrapU (x := 239 - (tl : Int)) (by omega) (by omega), Int.tmod_eq_emod_of_nonneg (by omega), wrapU (by omega) (by omega)]
 rw [pad_eq, h2]
 omega
end Go.Proofs.YtjmfnjgcofpocaaGreat.X

/- Printed by a tool of this session. -/
namespace Go.Proofs.YtjmfnjgcofpocaaGreat.X
open Go Go.Proofs
set_option linter.unusedVariables false
set_option linter.unusedSimpArgs false
set_option maxRecDepth 100000
set_option maxHeartbeats 8000000
theorem teSG_218 : TEOk Tryz.prog 218 ⟨.array 64 5, 64, 64, [.ints .u8 64 (List.replicate 64 0)], true⟩ :=
 TEOk.of Tryz.underlying218 (i := Tryz.t218) (by kernel_rfl) rfl rfl rfl (by kernel_rfl) (fun _ => ⟨Tryz.eqGuardType218, by kernel_rfl, by kernel_rfl⟩) (by kernel_rfl) (by kernel_rfl)
noncomputable def tabSG : List (Nat × TE) := [(3, ⟨.int .i64, 1, 8, [.i .i64 0], false⟩), (5, ⟨.int .u8, 1, 1, [.i .u8 0], false⟩), (26, ⟨.slice 5, 1, 24, [nlA], false⟩), (164, ⟨.int .u64, 1, 8, [.i .u64 0], false⟩), (218, ⟨.array 64 5, 64, 64, [.ints .u8 64 (List.replicate 64 0)], true⟩), (241, ⟨.array 8 164, 8, 64, [.ints .u64 8 ([0, 0, 0, 0, 0, 0, 0, 0] : List Int)], true⟩), (243, ⟨.pointer 239, 1, 8, [.raw (.pointer none)], false⟩), (245, ⟨Tryz.t244.desc, 11, 104, [.ints .u64 8 ([0, 0, 0, 0, 0, 0, 0, 0] : List Int), nlA, .i .u64 0, .raw (.pointer none)], false⟩)]
theorem tabOkSG : TabOk Tryz.prog (tabOf tabSG) := (tabOf_cons teDA_3 (tabOf_cons teDA_5 (tabOf_cons teDA_26 (tabOf_cons teSA_164 (tabOf_cons teSG_218 (tabOf_cons teSA_241 (tabOf_cons teSC_243 (tabOf_cons teSC_245 tabOf_nil))))))))

def gam9 : Gam := gcall 125 [true, true, false] [.w, .s 1] (fun wk vs args => match wk, vs, args with | [⟨true, [.ints .u64 8 S, .rs 1 0 tl 1, .i .u64 N, .p 2 0]⟩, ⟨true, [.ints .u8 tl_1 L]⟩, ⟨false, [.ints .u64 80 C]⟩], [⟨_, _, _, [.ints .u8 nm b]⟩], [.o (.a (.p 0 0)), .o (.a (.sl 3 0 n _))] => some ((tl_1 = tl) ∧ (nm = n) ∧ (tl < 128) ∧ (n < 140737488355328), [], [bT [.ints .u64 8 (wrS C S L b tl n), .rs 4 0 (wrT tl n) 1, .i .u64 (wrN N n), .p 2 0], none, bF [.ints .u64 80 C], bF [.ints .u8 nm b], bT [.ints .u8 (wrT tl n) (wrL L b tl n)]]) | _, _, _ => none) gam8
theorem gam9_ok : GamOk Tryz.prog gam9 := gcall_ok tabOkSG Tryz.func125 gam8_ok Tryz.call125 (by
 intro wk vs args p xs K1 h hv
 split at h
 ·simp only [Option.some.injEq, Prod.mk.injEq] at h; obtain ⟨rfl, rfl, rfl⟩ := h; obtain ⟨g0, g1, g2, g3⟩ := hv; subst g0; exact fun caps w rw β => wr_body _ _ _ _ _ _ _ _ _ g1 g2 g3 w rw β
 ·simp at h)

def sumL_mk (S : List Int) (tl : Nat) (N : Int) (L C : List Int) (k : Nat) (s : (List Int)) : St := ⟨sparse 64 [(0, .o (.a (.p 0 0))), (2, .o (.a (.p 3 0))), (3, .o (.a (.p 4 0))), (4, .o (.a (.p 5 0))), (5, .o (.a (.sl 6 (128 * k) ((tl + (pad N)) - (128 * k)) (512 - (128 * k))))), (7, .o (.a (.p 0 0))), (8, .o (.a (.b true))), (9, .o (.a (.b false))), (11, .o (.a (.p 0 0))), (12, .o (.a (.p 0 0))), (13, .o (.a (.p 0 0))), (14, .o (.g [.ints .u64 8 S])), (15, .o (.a (.p 0 0))), (16, .o (.a (.p 0 0))), (17, .o (.a (.p 0 8))), (18, .o (.a (.rs 1 0 tl 1))), (19, .o (.a (.i .i64 (tl : Int)))), (20, .o (.a (.sl 6 0 tl 512))), (21, .o (.a (.sl 6 0 tl 512))), (22, .o (.a (.p 0 0))), (23, .o (.a (.p 0 0))), (24, .o (.a (.p 0 8))), (25, .o (.a (.rs 1 0 tl 1))), (27, .o (.a (.sl 6 0 tl 512))), (28, .o (.a (.p 0 0))), (29, .o (.a (.p 0 0))), (30, .o (.a (.p 0 9))), (31, .o (.a (.i .u64 N))), (32, .o (.a (.sl 7 0 (pad N) 256))), (33, .o (.a (.sl 6 0 (tl + (pad N)) 512)))], [bF [.ints .u64 8 S, .rs 1 0 tl 1, .i .u64 N, .p 2 0], bF [.ints .u8 tl L], bF [.ints .u64 80 C], bT [.ints .u8 64 (List.replicate 64 0)], bT [.ints .u8 64 (List.replicate 64 0)], bT [.ints .u64 8 s], bT [.ints .u8 512 (splice (splice (List.replicate 512 (0 : Int)) 0 (min tl tl) (sub L 0 (min tl tl))) (0 + tl) (pad N) (sub (pad_1 N) 0 (pad N)))], bT [.ints .u8 256 (pad_1 N)]]⟩

def sumL_step (tl : Nat) (N : Int) (L C : List Int) (k : Nat) (s : (List Int)) : (List Int) :=
 ((blk s (sub (splice (splice (List.replicate 512 (0 : Int)) 0 (min tl tl) (sub L 0 (min tl tl))) (0 + tl) (pad N) (sub (pad_1 N) 0 (pad N))) (128 * k) 128) C))

theorem sumL_round (S : List Int) (tl : Nat) (N : Int) (L C : List Int) (h0 : ((0 : Int) ≤ N)) (h1 : ((Int.tmod N (128 : Int)) = (tl : Int))) (hl0_0 : S.length = 8) (hl1_0 : L.length = tl) (hl2_0 : C.length = 80) (w : World) (rw : List Nat) (β : Env) (k : Nat) (hk : k < ((tl + (pad N)) / 128)) (s : (List Int)) : Run Tryz.prog ⟨w, rw, 3, β⟩ (loopB Tryz.f126 0) (sumL_mk S tl N L C k s) (To ⟨w, rw, 3, β⟩ .normal (sumL_mk S tl N L C (k + 1) (sumL_step tl N L C k s))) := by
 have e0 : (((tl + (pad N)) - ((128 : Nat) * k)) - (128 : Nat)) = ((tl + (pad N)) - ((128 : Nat) * (k + (1 : Nat)))) := (by first | rfl | exact wrap_succ (by omega) | omega | (simp (disch := omega) only [wrapI]; omega))
 have e1 : (((512 : Nat) - ((128 : Nat) * k)) - (128 : Nat)) = ((512 : Nat) - ((128 : Nat) * (k + (1 : Nat)))) := (by first | rfl | exact wrap_succ (by omega) | omega | (simp (disch := omega) only [wrapI]; omega))
 have e2 : (((128 : Nat) * k) + (128 : Nat)) = ((128 : Nat) * (k + (1 : Nat))) := (by first | rfl | exact wrap_succ (by omega) | omega | (simp (disch := omega) only [wrapI]; omega))
 have h := Run.of_outT (B := ⟨w, rw, 3, β⟩) (Λ := noLam) (Ψ := noPsi) (fuel := 0) (ora := [true]) (c := (loopB Tryz.f126 0)) (st := (sumL_mk S tl N L C k s)) (l := [.forget [0, 2, 3, 4, 5, 7, 8, 9, 11, 12, 13, 14, 15, 16, 17, 18, 19, 20, 21, 22, 23, 24, 25, 27, 28, 29, 30, 31, 32, 33] 8]) (s' := ⟨sparse 64 [(0, .o (.a (.p 0 0))), (2, .o (.a (.p 3 0))), (3, .o (.a (.p 4 0))), (4, .o (.a (.p 5 0))), (5, .o (.a (.sl 6 ((128 * k) + 128) (((tl + (pad N)) - (128 * k)) - 128) ((512 - (128 * k)) - 128)))), (7, .o (.a (.p 0 0))), (8, .o (.a (.b true))), (9, .o (.a (.b false))), (11, .o (.a (.p 0 0))), (12, .o (.a (.p 0 0))), (13, .o (.a (.p 0 0))), (14, .o (.g [.ints .u64 8 S])), (15, .o (.a (.p 0 0))), (16, .o (.a (.p 0 0))), (17, .o (.a (.p 0 8))), (18, .o (.a (.rs 1 0 tl 1))), (19, .o (.a (.i .i64 (tl : Int)))), (20, .o (.a (.sl 6 0 tl 512))), (21, .o (.a (.sl 6 0 tl 512))), (22, .o (.a (.p 0 0))), (23, .o (.a (.p 0 0))), (24, .o (.a (.p 0 8))), (25, .o (.a (.rs 1 0 tl 1))), (27, .o (.a (.sl 6 0 tl 512))), (28, .o (.a (.p 0 0))), (29, .o (.a (.p 0 0))), (30, .o (.a (.p 0 9))), (31, .o (.a (.i .u64 N))), (32, .o (.a (.sl 7 0 (pad N) 256))), (33, .o (.a (.sl 6 0 (tl + (pad N)) 512)))], [bF [.ints .u64 8 S, .rs 1 0 tl 1, .i .u64 N, .p 2 0], bF [.ints .u8 tl L], bF [.ints .u64 80 C], bT [.ints .u8 64 (List.replicate 64 0)], bT [.ints .u8 64 (List.replicate 64 0)], bT [.ints .u64 8 (sumL_step tl N L C k s)], bT [.ints .u8 512 (splice (splice (List.replicate 512 (0 : Int)) 0 (min tl tl) (sub L 0 (min tl tl))) (0 + tl) (pad N) (sub (pad_1 N) 0 (pad N)))], bT [.ints .u8 256 (pad_1 N)]]⟩) (ex := .normal) mix tabOkSG gam9_ok
  (vc := [((cZ 128) ∧ (128 ≤ ((((tl + (pad N)) - (128 * k)) : Nat) : Int))), ((True ∧ ((((128 * k) + 128) ≤ 512) ∧ (True ∧ True))) ∧ ((128 = 128) ∧ (128 = 128))), ((cZ 0) ∧ (cZ 128) ∧ (128 ≤ (((512 - (128 * k)) : Nat) : Int))), ((decide (((((tl + (pad N)) - (128 * k)) : Nat) : Int) > (0 : Int))) = true)]) (by kernel_rfl)
  (aC ⟨(dd rfl), (by have hp1 := pad_le N; have hp2 := pad_mod h0 h1; first | omega | (simp (disch := omega) only [wrapI]; omega))⟩ (aC ⟨⟨trivial, ⟨(by have hp1 := pad_le N; have hp2 := pad_mod h0 h1; first | omega | (simp (disch := omega) only [wrapI]; omega)), ⟨trivial, trivial⟩⟩⟩, ⟨rfl, rfl⟩⟩ (aC ⟨(dd rfl), (dd rfl), (by have hp1 := pad_le N; have hp2 := pad_mod h0 h1; first | omega | (simp (disch := omega) only [wrapI]; omega))⟩ (aC (dt (by have hp1 := pad_le N; have hp2 := pad_mod h0 h1; first | omega | (simp (disch := omega) only [wrapI]; omega))) (AllP_nil)))))
 rw [e0, e1, e2] at h
 exact h

theorem sumL_last (S : List Int) (tl : Nat) (N : Int) (L C : List Int) (h0 : ((0 : Int) ≤ N)) (h1 : ((Int.tmod N (128 : Int)) = (tl : Int))) (hl0_0 : S.length = 8) (hl1_0 : L.length = tl) (hl2_0 : C.length = 80) (w : World) (rw : List Nat) (β : Env) (s : (List Int)) : Run Tryz.prog ⟨w, rw, 3, β⟩ (loopB Tryz.f126 0) (sumL_mk S tl N L C ((tl + (pad N)) / 128) s) (To ⟨w, rw, 3, β⟩ (.exit 0) (sumL_mk S tl N L C ((tl + (pad N)) / 128) s)) :=
 Run.of_outT (Λ := noLam) (Ψ := noPsi) (fuel := 0) (ora := [false]) (l := [.forget [0, 2, 3, 4, 5, 7, 8, 9, 11, 12, 13, 14, 15, 16, 17, 18, 19, 20, 21, 22, 23, 24, 25, 27, 28, 29, 30, 31, 32, 33] 8]) mix tabOkSG gam9_ok
  (vc := [((decide (((((tl + (pad N)) - (128 * ((tl + (pad N)) / 128))) : Nat) : Int) > (0 : Int))) = false)]) (by kernel_rfl)
  (aC (decide_eq_false (by have hp1 := pad_le N; have hp2 := pad_mod h0 h1; first | omega | (simp (disch := omega) only [wrapI]; omega))) (AllP_nil))

theorem sumL_loop (S : List Int) (tl : Nat) (N : Int) (L C : List Int) (h0 : ((0 : Int) ≤ N)) (h1 : ((Int.tmod N (128 : Int)) = (tl : Int))) (hl0_0 : S.length = 8) (hl1_0 : L.length = tl) (hl2_0 : C.length = 80) (w : World) (rw : List Nat) (β : Env) (s : (List Int)) : Run Tryz.prog ⟨w, rw, 3, β⟩ (.block 0 (.loop (loopB Tryz.f126 0))) (sumL_mk S tl N L C 0 s) (To ⟨w, rw, 3, β⟩ .normal (sumL_mk S tl N L C ((tl + (pad N)) / 128) (iter (sumL_step tl N L C) ((tl + (pad N)) / 128) s))) :=
 Run.count (fun k => sumL_mk S tl N L C k (iter (sumL_step tl N L C) k s)) ((tl + (pad N)) / 128) (fun k hk => sumL_round S tl N L C h0 h1 hl0_0 hl1_0 hl2_0 w rw β k hk _) (ex := (.exit 0)) (by simp) (sumL_last S tl N L C h0 h1 hl0_0 hl1_0 hl2_0 w rw β _)

def sumL_out0 (tl : Nat) (N : Int) (L C i0 : List Int) : List Int := (iter (sumL_step tl N L C) ((tl + (pad N)) / 128) (i0))

def hsum (S : List Int) (tl : Nat) (N : Int) (L C : List Int) : List Int :=
 let z0 : List Int := (sumL_out0 tl N L C S)
 let z1 : Int := (List.getD z0 7 0)
 let z2 : Int := (List.getD z0 6 0)
 let z3 : Int := (List.getD z0 5 0)
 let z4 : Int := (List.getD z0 4 0)
 let z5 : Int := (List.getD z0 3 0)
 let z6 : Int := (List.getD z0 2 0)
 let z7 : Int := (List.getD z0 1 0)
 let z8 : Int := (List.getD z0 0 0)
 ([(IntKind.u8.wrap (shr .u64 z8 (56 : Int))), (IntKind.u8.wrap (shr .u64 z8 (48 : Int))), (IntKind.u8.wrap (shr .u64 z8 (40 : Int))), (IntKind.u8.wrap (shr .u64 z8 (32 : Int))), (IntKind.u8.wrap (shr .u64 z8 (24 : Int))), (IntKind.u8.wrap (shr .u64 z8 (16 : Int))), (IntKind.u8.wrap (shr .u64 z8 (8 : Int))), (IntKind.u8.wrap (shr .u64 z8 (0 : Int))), (IntKind.u8.wrap (shr .u64 z7 (56 : Int))), (IntKind.u8.wrap (shr .u64 z7 (48 : Int))), (IntKind.u8.wrap (shr .u64 z7 (40 : Int))), (IntKind.u8.wrap (shr .u64 z7 (32 : Int))), (IntKind.u8.wrap (shr .u64 z7 (24 : Int))), (IntKind.u8.wrap (shr .u64 z7 (16 : Int))), (IntKind.u8.wrap (shr .u64 z7 (8 : Int))), (IntKind.u8.wrap (shr .u64 z7 (0 : Int))), (IntKind.u8.wrap (shr .u64 z6 (56 : Int))), (IntKind.u8.wrap (shr .u64 z6 (48 : Int))), (IntKind.u8.wrap (shr .u64 z6 (40 : Int))), (IntKind.u8.wrap (shr .u64 z6 (32 : Int))), (IntKind.u8.wrap (shr .u64 z6 (24 : Int))), (IntKind.u8.wrap (shr .u64 z6 (16 : Int))), (IntKind.u8.wrap (shr .u64 z6 (8 : Int))), (IntKind.u8.wrap (shr .u64 z6 (0 : Int))), (IntKind.u8.wrap (shr .u64 z5 (56 : Int))), (IntKind.u8.wrap (shr .u64 z5 (48 : Int))), (IntKind.u8.wrap (shr .u64 z5 (40 : Int))), (IntKind.u8.wrap (shr .u64 z5 (32 : Int))), (IntKind.u8.wrap (shr .u64 z5 (24 : Int))), (IntKind.u8.wrap (shr .u64 z5 (16 : Int))), (IntKind.u8.wrap (shr .u64 z5 (8 : Int))), (IntKind.u8.wrap (shr .u64 z5 (0 : Int))), (IntKind.u8.wrap (shr .u64 z4 (56 : Int))), (IntKind.u8.wrap (shr .u64 z4 (48 : Int))), (IntKind.u8.wrap (shr .u64 z4 (40 : Int))), (IntKind.u8.wrap (shr .u64 z4 (32 : Int))), (IntKind.u8.wrap (shr .u64 z4 (24 : Int))), (IntKind.u8.wrap (shr .u64 z4 (16 : Int))), (IntKind.u8.wrap (shr .u64 z4 (8 : Int))), (IntKind.u8.wrap (shr .u64 z4 (0 : Int))), (IntKind.u8.wrap (shr .u64 z3 (56 : Int))), (IntKind.u8.wrap (shr .u64 z3 (48 : Int))), (IntKind.u8.wrap (shr .u64 z3 (40 : Int))), (IntKind.u8.wrap (shr .u64 z3 (32 : Int))), (IntKind.u8.wrap (shr .u64 z3 (24 : Int))), (IntKind.u8.wrap (shr .u64 z3 (16 : Int))), (IntKind.u8.wrap (shr .u64 z3 (8 : Int))), (IntKind.u8.wrap (shr .u64 z3 (0 : Int))), (IntKind.u8.wrap (shr .u64 z2 (56 : Int))), (IntKind.u8.wrap (shr .u64 z2 (48 : Int))), (IntKind.u8.wrap (shr .u64 z2 (40 : Int))), (IntKind.u8.wrap (shr .u64 z2 (32 : Int))), (IntKind.u8.wrap (shr .u64 z2 (24 : Int))), (IntKind.u8.wrap (shr .u64 z2 (16 : Int))), (IntKind.u8.wrap (shr .u64 z2 (8 : Int))), (IntKind.u8.wrap (shr .u64 z2 (0 : Int))), (IntKind.u8.wrap (shr .u64 z1 (56 : Int))), (IntKind.u8.wrap (shr .u64 z1 (48 : Int))), (IntKind.u8.wrap (shr .u64 z1 (40 : Int))), (IntKind.u8.wrap (shr .u64 z1 (32 : Int))), (IntKind.u8.wrap (shr .u64 z1 (24 : Int))), (IntKind.u8.wrap (shr .u64 z1 (16 : Int))), (IntKind.u8.wrap (shr .u64 z1 (8 : Int))), (IntKind.u8.wrap (shr .u64 z1 (0 : Int)))] : List Int)

theorem hsum_body0 (S : List Int) (tl : Nat) (N : Int) (L C : List Int) (h0 : ((0 : Int) ≤ N)) (h1 : ((Int.tmod N (128 : Int)) = (tl : Int))) (hl0_0 : S.length = 8) (hl1_0 : L.length = tl) (hl2_0 : C.length = 80) (w : World) (rw : List Nat) (β : Env) : Body Tryz.prog (tabOf tabSG) Tryz.f126 ⟨w, rw, 3, β⟩ [.o (.a (.p 0 0))] [bF [.ints .u64 8 S, .rs 1 0 tl 1, .i .u64 N, .p 2 0], bF [.ints .u8 tl L], bF [.ints .u64 80 C]] (fun ys K' => ys = [.g [.ints .u8 64 (hsum S tl N L C)]] ∧ K' = [bF [.ints .u64 8 S, .rs 1 0 tl 1, .i .u64 N, .p 2 0], bF [.ints .u8 tl L], bF [.ints .u64 80 C]]) :=
 Body.of_finK (Γ := gam9) (Λ := lamOf [(0, ⟨[.forget [0, 2, 3, 4, 5, 7, 8, 9, 11, 12, 13, 14, 15, 16, 17, 18, 19, 20, 21, 22, 23, 24, 25, 27, 28, 29, 30, 31, 32, 33] 8], .normal, (sumL_mk S tl N L C ((tl + (pad N)) / 128) (iter (sumL_step tl N L C) ((tl + (pad N)) / 128) (S)))⟩)]) (Ψ := noPsi) (fuel := 65) (m := 64) (c := (Tryz.f126.body.getD .skip)) mix tabOkSG gam9_ok rfl (rs := [.cell 2 218]) rfl rfl [false, true, true, true, true, true, true, true, true, true, true, true, true, true, true, true, true, true, true, true, true, true, true, true, true, true, true, true, true, true, true, true, true, true, true, true, true, true, true, true, true, true, true, true, true, true, true, true, true, true, true, true, true, true, true, true, true, true, true, true, true, true, true, true, true, true, false] [] 3
  (vc := [(false = false), (cN 63 64), (cI 63 64), (cZ 0), ((8 : Int) ≠ 0), (cN 7 8), (cI 7 8), ((8 : Int) ≠ 0), cT, (cN 62 64), (cI 62 64), (cZ 8), ((8 : Int) ≠ 0), (cN 7 8), (cI 7 8), ((8 : Int) ≠ 0), cT, (cN 61 64), (cI 61 64), (cZ 16), ((8 : Int) ≠ 0), (cN 7 8), (cI 7 8), ((8 : Int) ≠ 0), cT, (cN 60 64), (cI 60 64), (cZ 24), ((8 : Int) ≠ 0), (cN 7 8), (cI 7 8), ((8 : Int) ≠ 0), cT, (cN 59 64), (cI 59 64), (cZ 32), ((8 : Int) ≠ 0), (cN 7 8), (cI 7 8), ((8 : Int) ≠ 0), cT, (cN 58 64), (cI 58 64), (cZ 40), ((8 : Int) ≠ 0), (cN 7 8), (cI 7 8), ((8 : Int) ≠ 0), cT, (cN 57 64), (cI 57 64), (cZ 48), ((8 : Int) ≠ 0), (cN 7 8), (cI 7 8), ((8 : Int) ≠ 0), cT, (cN 56 64), (cI 56 64), (cZ 56), ((8 : Int) ≠ 0), (cN 7 8), (cI 7 8), ((8 : Int) ≠ 0), cT, (cN 55 64), (cI 55 64), (cZ 0), ((8 : Int) ≠ 0), (cN 6 8), (cI 6 8), ((8 : Int) ≠ 0), cT, (cN 54 64), (cI 54 64), (cZ 8), ((8 : Int) ≠ 0), (cN 6 8), (cI 6 8), ((8 : Int) ≠ 0), cT, (cN 53 64), (cI 53 64), (cZ 16), ((8 : Int) ≠ 0), (cN 6 8), (cI 6 8), ((8 : Int) ≠ 0), cT, (cN 52 64), (cI 52 64), (cZ 24), ((8 : Int) ≠ 0), (cN 6 8), (cI 6 8), ((8 : Int) ≠ 0), cT, (cN 51 64), (cI 51 64), (cZ 32), ((8 : Int) ≠ 0), (cN 6 8), (cI 6 8), ((8 : Int) ≠ 0), cT, (cN 50 64), (cI 50 64), (cZ 40), ((8 : Int) ≠ 0), (cN 6 8), (cI 6 8), ((8 : Int) ≠ 0), cT, (cN 49 64), (cI 49 64), (cZ 48), ((8 : Int) ≠ 0), (cN 6 8), (cI 6 8), ((8 : Int) ≠ 0), cT, (cN 48 64), (cI 48 64), (cZ 56), ((8 : Int) ≠ 0), (cN 6 8), (cI 6 8), ((8 : Int) ≠ 0), cT, (cN 47 64), (cI 47 64), (cZ 0), ((8 : Int) ≠ 0), (cN 5 8), (cI 5 8), ((8 : Int) ≠ 0), cT, (cN 46 64), (cI 46 64), (cZ 8), ((8 : Int) ≠ 0), (cN 5 8), (cI 5 8), ((8 : Int) ≠ 0), cT, (cN 45 64), (cI 45 64), (cZ 16), ((8 : Int) ≠ 0), (cN 5 8), (cI 5 8), ((8 : Int) ≠ 0), cT, (cN 44 64), (cI 44 64), (cZ 24), ((8 : Int) ≠ 0), (cN 5 8), (cI 5 8), ((8 : Int) ≠ 0), cT, (cN 43 64), (cI 43 64), (cZ 32), ((8 : Int) ≠ 0), (cN 5 8), (cI 5 8), ((8 : Int) ≠ 0), cT, (cN 42 64), (cI 42 64), (cZ 40), ((8 : Int) ≠ 0), (cN 5 8), (cI 5 8), ((8 : Int) ≠ 0), cT, (cN 41 64), (cI 41 64), (cZ 48), ((8 : Int) ≠ 0), (cN 5 8), (cI 5 8), ((8 : Int) ≠ 0), cT, (cN 40 64), (cI 40 64), (cZ 56), ((8 : Int) ≠ 0), (cN 5 8), (cI 5 8), ((8 : Int) ≠ 0), cT, (cN 39 64), (cI 39 64), (cZ 0), ((8 : Int) ≠ 0), (cN 4 8), (cI 4 8), ((8 : Int) ≠ 0), cT, (cN 38 64), (cI 38 64), (cZ 8), ((8 : Int) ≠ 0), (cN 4 8), (cI 4 8), ((8 : Int) ≠ 0), cT, (cN 37 64), (cI 37 64), (cZ 16), ((8 : Int) ≠ 0), (cN 4 8), (cI 4 8), ((8 : Int) ≠ 0), cT, (cN 36 64), (cI 36 64), (cZ 24), ((8 : Int) ≠ 0), (cN 4 8), (cI 4 8), ((8 : Int) ≠ 0), cT, (cN 35 64), (cI 35 64), (cZ 32), ((8 : Int) ≠ 0), (cN 4 8), (cI 4 8), ((8 : Int) ≠ 0), cT, (cN 34 64), (cI 34 64), (cZ 40), ((8 : Int) ≠ 0), (cN 4 8), (cI 4 8), ((8 : Int) ≠ 0), cT, (cN 33 64), (cI 33 64), (cZ 48), ((8 : Int) ≠ 0), (cN 4 8), (cI 4 8), ((8 : Int) ≠ 0), cT, (cN 32 64), (cI 32 64), (cZ 56), ((8 : Int) ≠ 0), (cN 4 8), (cI 4 8), ((8 : Int) ≠ 0), cT, (cN 31 64), (cI 31 64), (cZ 0), ((8 : Int) ≠ 0), (cN 3 8), (cI 3 8), ((8 : Int) ≠ 0), cT, (cN 30 64), (cI 30 64), (cZ 8), ((8 : Int) ≠ 0), (cN 3 8), (cI 3 8), ((8 : Int) ≠ 0), cT, (cN 29 64), (cI 29 64), (cZ 16), ((8 : Int) ≠ 0), (cN 3 8), (cI 3 8), ((8 : Int) ≠ 0), cT, (cN 28 64), (cI 28 64), (cZ 24), ((8 : Int) ≠ 0), (cN 3 8), (cI 3 8), ((8 : Int) ≠ 0), cT, (cN 27 64), (cI 27 64), (cZ 32), ((8 : Int) ≠ 0), (cN 3 8), (cI 3 8), ((8 : Int) ≠ 0), cT, (cN 26 64), (cI 26 64), (cZ 40), ((8 : Int) ≠ 0), (cN 3 8), (cI 3 8), ((8 : Int) ≠ 0), cT, (cN 25 64), (cI 25 64), (cZ 48), ((8 : Int) ≠ 0), (cN 3 8), (cI 3 8), ((8 : Int) ≠ 0), cT, (cN 24 64), (cI 24 64), (cZ 56), ((8 : Int) ≠ 0), (cN 3 8), (cI 3 8), ((8 : Int) ≠ 0), cT, (cN 23 64), (cI 23 64), (cZ 0), ((8 : Int) ≠ 0), (cN 2 8), (cI 2 8), ((8 : Int) ≠ 0), cT, (cN 22 64), (cI 22 64), (cZ 8), ((8 : Int) ≠ 0), (cN 2 8), (cI 2 8), ((8 : Int) ≠ 0), cT, (cN 21 64), (cI 21 64), (cZ 16), ((8 : Int) ≠ 0), (cN 2 8), (cI 2 8), ((8 : Int) ≠ 0), cT, (cN 20 64), (cI 20 64), (cZ 24), ((8 : Int) ≠ 0), (cN 2 8), (cI 2 8), ((8 : Int) ≠ 0), cT, (cN 19 64), (cI 19 64), (cZ 32), ((8 : Int) ≠ 0), (cN 2 8), (cI 2 8), ((8 : Int) ≠ 0), cT, (cN 18 64), (cI 18 64), (cZ 40), ((8 : Int) ≠ 0), (cN 2 8), (cI 2 8), ((8 : Int) ≠ 0), cT, (cN 17 64), (cI 17 64), (cZ 48), ((8 : Int) ≠ 0), (cN 2 8), (cI 2 8), ((8 : Int) ≠ 0), cT, (cN 16 64), (cI 16 64), (cZ 56), ((8 : Int) ≠ 0), (cN 2 8), (cI 2 8), ((8 : Int) ≠ 0), cT, (cN 15 64), (cI 15 64), (cZ 0), ((8 : Int) ≠ 0), (cN 1 8), (cI 1 8), ((8 : Int) ≠ 0), cT, (cN 14 64), (cI 14 64), (cZ 8), ((8 : Int) ≠ 0), (cN 1 8), (cI 1 8), ((8 : Int) ≠ 0), cT, (cN 13 64), (cI 13 64), (cZ 16), ((8 : Int) ≠ 0), (cN 1 8), (cI 1 8), ((8 : Int) ≠ 0), cT, (cN 12 64), (cI 12 64), (cZ 24), ((8 : Int) ≠ 0), (cN 1 8), (cI 1 8), ((8 : Int) ≠ 0), cT, (cN 11 64), (cI 11 64), (cZ 32), ((8 : Int) ≠ 0), (cN 1 8), (cI 1 8), ((8 : Int) ≠ 0), cT, (cN 10 64), (cI 10 64), (cZ 40), ((8 : Int) ≠ 0), (cN 1 8), (cI 1 8), ((8 : Int) ≠ 0), cT, (cN 9 64), (cI 9 64), (cZ 48), ((8 : Int) ≠ 0), (cN 1 8), (cI 1 8), ((8 : Int) ≠ 0), cT, (cN 8 64), (cI 8 64), (cZ 56), ((8 : Int) ≠ 0), (cN 1 8), (cI 1 8), ((8 : Int) ≠ 0), cT, (cN 7 64), (cI 7 64), (cZ 0), ((8 : Int) ≠ 0), (cN 0 8), (cI 0 8), ((8 : Int) ≠ 0), cT, (cN 6 64), (cI 6 64), (cZ 8), ((8 : Int) ≠ 0), (cN 0 8), (cI 0 8), ((8 : Int) ≠ 0), cT, (cN 5 64), (cI 5 64), (cZ 16), ((8 : Int) ≠ 0), (cN 0 8), (cI 0 8), ((8 : Int) ≠ 0), cT, (cN 4 64), (cI 4 64), (cZ 24), ((8 : Int) ≠ 0), (cN 0 8), (cI 0 8), ((8 : Int) ≠ 0), cT, (cN 3 64), (cI 3 64), (cZ 32), ((8 : Int) ≠ 0), (cN 0 8), (cI 0 8), ((8 : Int) ≠ 0), cT, (cN 2 64), (cI 2 64), (cZ 40), ((8 : Int) ≠ 0), (cN 0 8), (cI 0 8), ((8 : Int) ≠ 0), cT, (cN 1 64), (cI 1 64), (cZ 48), ((8 : Int) ≠ 0), (cN 0 8), (cI 0 8), ((8 : Int) ≠ 0), cT, (cN 0 64), (cI 0 64), (cZ 56), ((8 : Int) ≠ 0), (cN 0 8), (cI 0 8), ((8 : Int) ≠ 0), cT, (Run Tryz.prog ⟨w, rw, 3, β⟩ (.block 0 (.loop (loopB Tryz.f126 0))) (sumL_mk S tl N L C 0 (S)) (To ⟨w, rw, 3, β⟩ .normal (sumL_mk S tl N L C ((tl + (pad N)) / 128) (iter (sumL_step tl N L C) ((tl + (pad N)) / 128) (S))))), ((((pad N) ≤ (pad N)) ∧ ((0 + (pad N)) ≤ 256)) ∧ (okP (some (((0 + tl) + (pad N)) ≤ 512))) ∧ ((tl + (pad N)) ≤ 512)), ((True ∧ True) ∧ True), ((((min tl tl) ≤ tl) ∧ ((0 + (min tl tl)) ≤ tl)) ∧ (okP (some ((0 + (min tl tl)) ≤ 512)))), ((0 ≤ (tl : Int)) ∧ ((tl : Int) ≤ 512) ∧ ((512 : Int) ≤ 281474976710656)), (false = false), ((True ∧ True) ∧ (tl = tl))]) (by kernel_rfl)
  (aC rfl (aC (dd rfl) (aC (dd rfl) (aC (dd rfl) (aC (dd rfl) (aC (dd rfl) (aC (dd rfl) (aC (dd rfl) (aC rfl (aC (dd rfl) (aC (dd rfl) (aC (dd rfl) (aC (dd rfl) (aC (dd rfl) (aC (dd rfl) (aC (dd rfl) (aC rfl (aC (dd rfl) (aC (dd rfl) (aC (dd rfl) (aC (dd rfl) (aC (dd rfl) (aC (dd rfl) (aC (dd rfl) (aC rfl (aC (dd rfl) (aC (dd rfl) (aC (dd rfl) (aC (dd rfl) (aC (dd rfl) (aC (dd rfl) (aC (dd rfl) (aC rfl (aC (dd rfl) (aC (dd rfl) (aC (dd rfl) (aC (dd rfl) (aC (dd rfl) (aC (dd rfl) (aC (dd rfl) (aC rfl (aC (dd rfl) (aC (dd rfl) (aC (dd rfl) (aC (dd rfl) (aC (dd rfl) (aC (dd rfl) (aC (dd rfl) (aC rfl (aC (dd rfl) (aC (dd rfl) (aC (dd rfl) (aC (dd rfl) (aC (dd rfl) (aC (dd rfl) (aC (dd rfl) (aC rfl (aC (dd rfl) (aC (dd rfl) (aC (dd rfl) (aC (dd rfl) (aC (dd rfl) (aC (dd rfl) (aC (dd rfl) (aC rfl (aC (dd rfl) (aC (dd rfl) (aC (dd rfl) (aC (dd rfl) (aC (dd rfl) (aC (dd rfl) (aC (dd rfl) (aC rfl (aC (dd rfl) (aC (dd rfl) (aC (dd rfl) (aC (dd rfl) (aC (dd rfl) (aC (dd rfl) (aC (dd rfl) (aC rfl (aC (dd rfl) (aC (dd rfl) (aC (dd rfl) (aC (dd rfl) (aC (dd rfl) (aC (dd rfl) (aC (dd rfl) (aC rfl (aC (dd rfl) (aC (dd rfl) (aC (dd rfl) (aC (dd rfl) (aC (dd rfl) (aC (dd rfl) (aC (dd rfl) (aC rfl (aC (dd rfl) (aC (dd rfl) (aC (dd rfl) (aC (dd rfl) (aC (dd rfl) (aC (dd rfl) (aC (dd rfl) (aC rfl (aC (dd rfl) (aC (dd rfl) (aC (dd rfl) (aC (dd rfl) (aC (dd rfl) (aC (dd rfl) (aC (dd rfl) (aC rfl (aC (dd rfl) (aC (dd rfl) (aC (dd rfl) (aC (dd rfl) (aC (dd rfl) (aC (dd rfl) (aC (dd rfl) (aC rfl (aC (dd rfl) (aC (dd rfl) (aC (dd rfl) (aC (dd rfl) (aC (dd rfl) (aC (dd rfl) (aC (dd rfl) (aC rfl (aC (dd rfl) (aC (dd rfl) (aC (dd rfl) (aC (dd rfl) (aC (dd rfl) (aC (dd rfl) (aC (dd rfl) (aC rfl (aC (dd rfl) (aC (dd rfl) (aC (dd rfl) (aC (dd rfl) (aC (dd rfl) (aC (dd rfl) (aC (dd rfl) (aC rfl (aC (dd rfl) (aC (dd rfl) (aC (dd rfl) (aC (dd rfl) (aC (dd rfl) (aC (dd rfl) (aC (dd rfl) (aC rfl (aC (dd rfl) (aC (dd rfl) (aC (dd rfl) (aC (dd rfl) (aC (dd rfl) (aC (dd rfl) (aC (dd rfl) (aC rfl (aC (dd rfl) (aC (dd rfl) (aC (dd rfl) (aC (dd rfl) (aC (dd rfl) (aC (dd rfl) (aC (dd rfl) (aC rfl (aC (dd rfl) (aC (dd rfl) (aC (dd rfl) (aC (dd rfl) (aC (dd rfl) (aC (dd rfl) (aC (dd rfl) (aC rfl (aC (dd rfl) (aC (dd rfl) (aC (dd rfl) (aC (dd rfl) (aC (dd rfl) (aC (dd rfl) (aC (dd rfl) (aC rfl (aC (dd rfl) (aC (dd rfl) (aC (dd rfl) (aC (dd rfl) (aC (dd rfl) (aC (dd rfl) (aC (dd rfl) (aC rfl (aC (dd rfl) (aC (dd rfl) (aC (dd rfl) (aC (dd rfl) (aC (dd rfl) (aC (dd rfl) (aC (dd rfl) (aC rfl (aC (dd rfl) (aC (dd rfl) (aC (dd rfl) (aC (dd rfl) (aC (dd rfl) (aC (dd rfl) (aC (dd rfl) (aC rfl (aC (dd rfl) (aC (dd rfl) (aC (dd rfl) (aC (dd rfl) (aC (dd rfl) (aC (dd rfl) (aC (dd rfl) (aC rfl (aC (dd rfl) (aC (dd rfl) (aC (dd rfl) (aC (dd rfl) (aC (dd rfl) (aC (dd rfl) (aC (dd rfl) (aC rfl (aC (dd rfl) (aC (dd rfl) (aC (dd rfl) (aC (dd rfl) (aC (dd rfl) (aC (dd rfl) (aC (dd rfl) (aC rfl (aC (dd rfl) (aC (dd rfl) (aC (dd rfl) (aC (dd rfl) (aC (dd rfl) (aC (dd rfl) (aC (dd rfl) (aC rfl (aC (dd rfl) (aC (dd rfl) (aC (dd rfl) (aC (dd rfl) (aC (dd rfl) (aC (dd rfl) (aC (dd rfl) (aC rfl (aC (dd rfl) (aC (dd rfl) (aC (dd rfl) (aC (dd rfl) (aC (dd rfl) (aC (dd rfl) (aC (dd rfl) (aC rfl (aC (dd rfl) (aC (dd rfl) (aC (dd rfl) (aC (dd rfl) (aC (dd rfl) (aC (dd rfl) (aC (dd rfl) (aC rfl (aC (dd rfl) (aC (dd rfl) (aC (dd rfl) (aC (dd rfl) (aC (dd rfl) (aC (dd rfl) (aC (dd rfl) (aC rfl (aC (dd rfl) (aC (dd rfl) (aC (dd rfl) (aC (dd rfl) (aC (dd rfl) (aC (dd rfl) (aC (dd rfl) (aC rfl (aC (dd rfl) (aC (dd rfl) (aC (dd rfl) (aC (dd rfl) (aC (dd rfl) (aC (dd rfl) (aC (dd rfl) (aC rfl (aC (dd rfl) (aC (dd rfl) (aC (dd rfl) (aC (dd rfl) (aC (dd rfl) (aC (dd rfl) (aC (dd rfl) (aC rfl (aC (dd rfl) (aC (dd rfl) (aC (dd rfl) (aC (dd rfl) (aC (dd rfl) (aC (dd rfl) (aC (dd rfl) (aC rfl (aC (dd rfl) (aC (dd rfl) (aC (dd rfl) (aC (dd rfl) (aC (dd rfl) (aC (dd rfl) (aC (dd rfl) (aC rfl (aC (dd rfl) (aC (dd rfl) (aC (dd rfl) (aC (dd rfl) (aC (dd rfl) (aC (dd rfl) (aC (dd rfl) (aC rfl (aC (dd rfl) (aC (dd rfl) (aC (dd rfl) (aC (dd rfl) (aC (dd rfl) (aC (dd rfl) (aC (dd rfl) (aC rfl (aC (dd rfl) (aC (dd rfl) (aC (dd rfl) (aC (dd rfl) (aC (dd rfl) (aC (dd rfl) (aC (dd rfl) (aC rfl (aC (dd rfl) (aC (dd rfl) (aC (dd rfl) (aC (dd rfl) (aC (dd rfl) (aC (dd rfl) (aC (dd rfl) (aC rfl (aC (dd rfl) (aC (dd rfl) (aC (dd rfl) (aC (dd rfl) (aC (dd rfl) (aC (dd rfl) (aC (dd rfl) (aC rfl (aC (dd rfl) (aC (dd rfl) (aC (dd rfl) (aC (dd rfl) (aC (dd rfl) (aC (dd rfl) (aC (dd rfl) (aC rfl (aC (dd rfl) (aC (dd rfl) (aC (dd rfl) (aC (dd rfl) (aC (dd rfl) (aC (dd rfl) (aC (dd rfl) (aC rfl (aC (dd rfl) (aC (dd rfl) (aC (dd rfl) (aC (dd rfl) (aC (dd rfl) (aC (dd rfl) (aC (dd rfl) (aC rfl (aC (dd rfl) (aC (dd rfl) (aC (dd rfl) (aC (dd rfl) (aC (dd rfl) (aC (dd rfl) (aC (dd rfl) (aC rfl (aC (dd rfl) (aC (dd rfl) (aC (dd rfl) (aC (dd rfl) (aC (dd rfl) (aC (dd rfl) (aC (dd rfl) (aC rfl (aC (dd rfl) (aC (dd rfl) (aC (dd rfl) (aC (dd rfl) (aC (dd rfl) (aC (dd rfl) (aC (dd rfl) (aC rfl (aC (dd rfl) (aC (dd rfl) (aC (dd rfl) (aC (dd rfl) (aC (dd rfl) (aC (dd rfl) (aC (dd rfl) (aC rfl (aC (dd rfl) (aC (dd rfl) (aC (dd rfl) (aC (dd rfl) (aC (dd rfl) (aC (dd rfl) (aC (dd rfl) (aC rfl (aC (dd rfl) (aC (dd rfl) (aC (dd rfl) (aC (dd rfl) (aC (dd rfl) (aC (dd rfl) (aC (dd rfl) (aC rfl (aC (dd rfl) (aC (dd rfl) (aC (dd rfl) (aC (dd rfl) (aC (dd rfl) (aC (dd rfl) (aC (dd rfl) (aC rfl (aC (dd rfl) (aC (dd rfl) (aC (dd rfl) (aC (dd rfl) (aC (dd rfl) (aC (dd rfl) (aC (dd rfl) (aC rfl (aC (dd rfl) (aC (dd rfl) (aC (dd rfl) (aC (dd rfl) (aC (dd rfl) (aC (dd rfl) (aC (dd rfl) (aC rfl (aC (dd rfl) (aC (dd rfl) (aC (dd rfl) (aC (dd rfl) (aC (dd rfl) (aC (dd rfl) (aC (dd rfl) (aC rfl (aC (dd rfl) (aC (dd rfl) (aC (dd rfl) (aC (dd rfl) (aC (dd rfl) (aC (dd rfl) (aC (dd rfl) (aC rfl (aC (dd rfl) (aC (dd rfl) (aC (dd rfl) (aC (dd rfl) (aC (dd rfl) (aC (dd rfl) (aC (dd rfl) (aC rfl (aC (dd rfl) (aC (dd rfl) (aC (dd rfl) (aC (dd rfl) (aC (dd rfl) (aC (dd rfl) (aC (dd rfl) (aC rfl (aC (dd rfl) (aC (dd rfl) (aC (dd rfl) (aC (dd rfl) (aC (dd rfl) (aC (dd rfl) (aC (dd rfl) (aC rfl (aC (dd rfl) (aC (dd rfl) (aC (dd rfl) (aC (dd rfl) (aC (dd rfl) (aC (dd rfl) (aC (dd rfl) (aC rfl (aC (dd rfl) (aC (dd rfl) (aC (dd rfl) (aC (dd rfl) (aC (dd rfl) (aC (dd rfl) (aC (dd rfl) (aC rfl (aC (dd rfl) (aC (dd rfl) (aC (dd rfl) (aC (dd rfl) (aC (dd rfl) (aC (dd rfl) (aC (dd rfl) (aC rfl (aC (sumL_loop S tl N L C h0 h1 hl0_0 hl1_0 hl2_0 w rw β (S)) (aC ⟨⟨(by have hp1 := pad_le N; have hp2 := pad_mod h0 h1; first | omega | (simp (disch := omega) only [wrapI]; omega)), (by have hp1 := pad_le N; have hp2 := pad_mod h0 h1; first | omega | (simp (disch := omega) only [wrapI]; omega))⟩, (show (((0 + tl) + (pad N)) ≤ 512) from (by have hp1 := pad_le N; have hp2 := pad_mod h0 h1; first | omega | (simp (disch := omega) only [wrapI]; omega))), (by have hp1 := pad_le N; have hp2 := pad_mod h0 h1; first | omega | (simp (disch := omega) only [wrapI]; omega))⟩ (aC ⟨⟨trivial, trivial⟩, trivial⟩ (aC ⟨⟨(by have hp1 := pad_le N; have hp2 := pad_mod h0 h1; first | omega | (simp (disch := omega) only [wrapI]; omega)), (by have hp1 := pad_le N; have hp2 := pad_mod h0 h1; first | omega | (simp (disch := omega) only [wrapI]; omega))⟩, (show ((0 + (min tl tl)) ≤ 512) from (by have hp1 := pad_le N; have hp2 := pad_mod h0 h1; first | omega | (simp (disch := omega) only [wrapI]; omega)))⟩ (aC ⟨(by have hp1 := pad_le N; have hp2 := pad_mod h0 h1; first | omega | (simp (disch := omega) only [wrapI]; omega)), (by have hp1 := pad_le N; have hp2 := pad_mod h0 h1; first | omega | (simp (disch := omega) only [wrapI]; omega)), (dd rfl)⟩ (aC rfl (aC ⟨⟨trivial, trivial⟩, rfl⟩ (AllP_nil)))))))))))))))))))))))))))))))))))))))))))))))))))))))))))))))))))))))))))))))))))))))))))))))))))))))))))))))))))))))))))))))))))))))))))))))))))))))))))))))))))))))))))))))))))))))))))))))))))))))))))))))))))))))))))))))))))))))))))))))))))))))))))))))))))))))))))))))))))))))))))))))))))))))))))))))))))))))))))))))))))))))))))))))))))))))))))))))))))))))))))))))))))))))))))))))))))))))))))))))))))))))))))))))))))))))))))))))))))))))))))))))))))))))))))))))))))))))))))))))))))))))))))))))))))))))))))))))))))))))))

theorem hsum_body (S : List Int) (tl : Nat) (N : Int) (L C : List Int) (h0 : ((0 : Int) ≤ N)) (h1 : ((Int.tmod N (128 : Int)) = (tl : Int))) (w : World) (rw : List Nat) (β : Env) : Body Tryz.prog (tabOf tabSG) Tryz.f126 ⟨w, rw, 3, β⟩ [.o (.a (.p 0 0))] [bF [.ints .u64 8 S, .rs 1 0 tl 1, .i .u64 N, .p 2 0], bF [.ints .u8 tl L], bF [.ints .u64 80 C]] (fun ys K' => ys = [.g [.ints .u8 64 (hsum S tl N L C)]] ∧ K' = [bF [.ints .u64 8 S, .rs 1 0 tl 1, .i .u64 N, .p 2 0], bF [.ints .u8 tl L], bF [.ints .u64 80 C]]) :=
 Body.lens (c := (Tryz.f126.body.getD .skip)) rfl fun h => hsum_body0 S tl N L C h0 h1 (h.lens 0 _ .u64 8 S rfl (by simp)) (h.lens 1 _ .u8 tl L rfl (by simp)) (h.lens 2 _ .u64 80 C rfl (by simp)) w rw β

def gam10 : Gam := gcall 126 [false, false, false] [.w] (fun wk vs args => match wk, vs, args with | [⟨false, [.ints .u64 8 S, .rs 1 0 tl 1, .i .u64 N, .p 2 0]⟩, ⟨false, [.ints .u8 tl_1 L]⟩, ⟨false, [.ints .u64 80 C]⟩], [], [.o (.a (.p 0 0))] => some ((tl_1 = tl) ∧ ((0 : Int) ≤ N) ∧ ((Int.tmod N (128 : Int)) = ((tl : Nat) : Int)), [.g [.ints .u8 64 (hsum S tl N L C)]], [bF [.ints .u64 8 S, .rs 1 0 tl 1, .i .u64 N, .p 2 0], bF [.ints .u8 tl L], bF [.ints .u64 80 C]]) | _, _, _ => none) gam9
theorem gam10_ok : GamOk Tryz.prog gam10 := gcall_ok tabOkSG Tryz.func126 gam9_ok Tryz.call126 (by
 intro wk vs args p xs K1 h hv
 split at h
 ·simp only [Option.some.injEq, Prod.mk.injEq] at h; obtain ⟨rfl, rfl, rfl⟩ := h; obtain ⟨g0, g1, g2⟩ := hv; subst g0; exact fun caps w rw β => hsum_body _ _ _ _ _ g1 g2 w rw β
 ·simp at h)

end Go.Proofs.YtjmfnjgcofpocaaGreat.X

/- Plain lemmas for the walk of the law of the chain. -/
namespace Go.Proofs.YtjmfnjgcofpocaaGreat.X
open Go Go.Proofs
set_option linter.unusedVariables false

theorem sub_left {α : Type} (x y : List α) (c m : Nat) (h : c + m ≤ x.length) : sub (x ++ y) c m = sub x c m := by
 unfold sub
 rw [List.drop_append_of_le_length (by omega), List.take_append_of_le_length (by simp; omega)]

theorem sub_of_drop {α : Type} (l : List α) (a c m : Nat) : sub (l.drop a) c m = sub l (a + c) m := by
 unfold sub; rw [List.drop_drop]

theorem absN_zero (C D S : List Int) : absN C D 0 S = S := rfl
theorem absN_succ (C D : List Int) (k : Nat) (S : List Int) : absN C D (k + 1) S = blk (absN C D k S) (sub D (128 * k) 128) C := rfl

theorem absN_add (C D : List Int) (k1 : Nat) : ∀ (k2 : Nat) (S : List Int), absN C D (k1 + k2) S = absN C (D.drop (128 * k1)) k2 (absN C D k1 S)
 | 0, S => by rw [Nat.add_zero, absN_zero]
 | k2 + 1, S => by
  rw [← Nat.add_assoc, absN_succ, absN_succ, absN_add C D k1 k2 S, sub_of_drop, show 128 * k1 + 128 * k2 = 128 * (k1 + k2) by omega]

theorem absN_left (C D E : List Int) (k : Nat) (S : List Int) (h : 128 * k ≤ D.length) : absN C (D ++ E) k S = absN C D k S :=
 iter_congr fun i s hi => by rw [sub_left _ _ _ _ (by omega)]

end Go.Proofs.YtjmfnjgcofpocaaGreat.X

/- What a digest of bytes is, as a function of the bytes; the document's is the program's. (drbg seat) -/
namespace Go.Proofs.YtjmfnjgcofpocaaGreat.X
open Go Go.Proofs
set_option linter.unusedVariables false

theorem wrN_eq {N : Int} {n : Nat} (h0 : 0 ≤ N) (h : N + (n : Int) < 2305843009213693952) : wrN N n = N + (n : Int) := by
 unfold wrN
 rw [wrapU (x := (n : Int)) (by omega) (by omega), wrapU (by omega) (by omega)]
def H0 : List Int := [7640891576956012808, 13503953896175478587, 4354685564936845355, 11912009170470909681, 5840696475078001361, 11170449401992604703, 2270897969802886507, 6620516959819538809]
def hS (D : List Int) : List Int := absN konst D (D.length / 128) H0
def hT (D : List Int) : Nat := D.length % 128
def hN (D : List Int) : Int := ((D.length : Nat) : Int)
def hL (D : List Int) : List Int := D.drop (128 * (D.length / 128))
def shaD (D : List Int) : List Int := hsum (hS D) (hT D) (hN D) (hL D) konst

theorem hT_lt (D : List Int) : hT D < 128 := by unfold hT; omega
theorem hN_nn (D : List Int) : 0 ≤ hN D := by unfold hN; omega
theorem hN_mod (D : List Int) : Int.tmod (hN D) 128 = ((hT D : Nat) : Int) := by
 unfold hN hT
 rw [Int.tmod_eq_emod_of_nonneg (by omega)]; omega
theorem hS_step {D c : List Int} {n : Nat} (hc : c.length = n) : wrS konst (hS D) (hL D) (sub c 0 n) (hT D) n = hS (D ++ c) := by
 rw [sub_all c n (by omega)]
 unfold wrS hS
 have e1 : hL D ++ c = (D ++ c).drop (128 * (D.length / 128)) := by
  unfold hL; rw [List.drop_append_of_le_length (by omega)]
 have e2 : (D ++ c).length / 128 = D.length / 128 + (hT D + n) / 128 := by
  rw [List.length_append, hc]; unfold hT; omega
 rw [e1, e2, absN_add, absN_left _ _ _ _ _ (by omega)]

theorem hT_step {D c : List Int} {n : Nat} (hc : c.length = n) : wrT (hT D) n = hT (D ++ c) := by
 unfold wrT hT; rw [List.length_append, hc]; omega
theorem hN_step {D c : List Int} {n : Nat} (hc : c.length = n) (h : (D ++ c).length < 1152921504606846976) : wrN (hN D) n = hN (D ++ c) := by
 rw [List.length_append] at h
 unfold hN
 rw [wrN_eq (by omega) (by omega), List.length_append, hc]
 omega
theorem hL_step {D c : List Int} {n : Nat} (hc : c.length = n) : wrL (hL D) (sub c 0 n) (hT D) n = hL (D ++ c) := by
 rw [sub_all c n (by omega)]
 unfold wrL
 have e1 : hL D ++ c = (D ++ c).drop (128 * (D.length / 128)) := by
  unfold hL; rw [List.drop_append_of_le_length (by omega)]
 rw [e1, List.drop_drop]
 unfold hL
 congr 1
 rw [List.length_append, hc]; unfold hT; omega

theorem PartsOk.step {w : World} {L : List Value} {n : Nat} (h : PartsOk w L n) {k : Nat} (hk : k < n) {c : List Int} (hc : c = contV w (L.getD k undef)) :
  wrS konst (hS (catV w L k)) (hL (catV w L k)) (sub c 0 (lenV (L.getD k undef))) (hT (catV w L k)) (lenV (L.getD k undef)) = hS (catV w L (k + 1)) ∧
   wrT (hT (catV w L k)) (lenV (L.getD k undef)) = hT (catV w L (k + 1)) ∧ wrN (hN (catV w L k)) (lenV (L.getD k undef)) = hN (catV w L (k + 1)) ∧
   wrL (hL (catV w L k)) (sub c 0 (lenV (L.getD k undef))) (hT (catV w L k)) (lenV (L.getD k undef)) = hL (catV w L (k + 1)) := by
 subst hc
 have h1 := h.len hk
 refine ⟨hS_step h1, hT_step h1, hN_step h1 ?_, hL_step h1⟩
 have := h.lt (i := k + 1) hk
 have h2 : (catV w L k ++ contV w (L.getD k undef)).length < 70368744177664 := this
 omega

end Go.Proofs.YtjmfnjgcofpocaaGreat.X

/- Printed by a tool of this session. -/
namespace Go.Proofs.YtjmfnjgcofpocaaGreat.X
open Go Go.Proofs
set_option linter.unusedVariables false
set_option linter.unusedSimpArgs false
set_option maxRecDepth 100000
set_option maxHeartbeats 8000000
theorem teHB_29 : TEOk Tryz.prog 29 ⟨.slice 26, 1, 24, [.raw (.slice none 0 0)], false⟩ :=
 TEOk.of Tryz.underlying29 (i := Tryz.t29) (by kernel_rfl) rfl rfl rfl (by kernel_rfl) (fun h => by cases h) (by kernel_rfl) (by kernel_rfl)
noncomputable def tabHB : List (Nat × TE) := [(26, ⟨.slice 5, 1, 24, [nlA], false⟩), (29, ⟨.slice 26, 1, 24, [nlA], false⟩), (218, ⟨.array 64 5, 64, 64, [.ints .u8 64 (List.replicate 64 0)], true⟩)]
theorem tabOkHB : TabOk Tryz.prog (tabOf tabHB) := (tabOf_cons teDA_26 (tabOf_cons teHB_29 (tabOf_cons teSG_218 tabOf_nil)))

def joL_mk (w : World) (n : Nat) (L : List Value) (cap0 k : Nat) (s : Unit) : St := ⟨sparse 19 [(0, .o (.a (.sl 0 0 n cap0))), (2, .o (.a (.p 1 0))), (3, .o (.a (.p 3 0))), (6, .o (.a (.p 3 0))), (7, .o (.a (.sl 0 0 n cap0))), (8, .o (.a (.i .i64 (n : Int)))), (9, .o (.a (.i .i64 (k : Int))))], [bF [.vals n L], bT [.ints .u8 64 (List.replicate 64 0)], bT [.ints .u64 80 (konst)], bT [.ints .u64 8 (hS (catV w L k)), .rs 4 0 (hT (catV w L k)) 1, .i .u64 (hN (catV w L k)), .p 2 0], bT [.ints .u8 (hT (catV w L k)) (hL (catV w L k))]]⟩

def joL_step (k : Nat) (s : Unit) : Unit :=
 ()

theorem joL_round (w : World) (n : Nat) (L : List Value) (cap0 : Nat) (h0 : (n < 70368744177664)) (β : Env) (hP : PartsOk w L n) (k : Nat) (hk : k < n) (s : Unit) : Run Tryz.prog ⟨w, [], 1, β⟩ (loopB Tryz.f117 0) (joL_mk w n L cap0 k s) (To ⟨w, [], 1, β⟩ .normal (joL_mk w n L cap0 (k + 1) (joL_step k s))) := by
 have e0 : (wrS (konst) (hS (catV w L k)) (hL (catV w L k)) (sub (contV w (List.getD L k undef)) 0 (lenV (List.getD L k undef))) (hT (catV w L k)) (lenV (List.getD L k undef))) = (hS (catV w L (k + 1))) := (by first | exact wrap_succ (by omega) | exact (PartsOk.step hP hk rfl).1 | exact (PartsOk.step hP hk rfl).2.1 | exact (PartsOk.step hP hk rfl).2.2.1 | exact (PartsOk.step hP hk rfl).2.2.2)
 have e1 : (wrL (hL (catV w L k)) (sub (contV w (List.getD L k undef)) 0 (lenV (List.getD L k undef))) (hT (catV w L k)) (lenV (List.getD L k undef))) = (hL (catV w L (k + 1))) := (by first | exact wrap_succ (by omega) | exact (PartsOk.step hP hk rfl).1 | exact (PartsOk.step hP hk rfl).2.1 | exact (PartsOk.step hP hk rfl).2.2.1 | exact (PartsOk.step hP hk rfl).2.2.2)
 have e2 : (wrT (hT (catV w L k)) (lenV (List.getD L k undef))) = (hT (catV w L (k + 1))) := (by first | exact wrap_succ (by omega) | exact (PartsOk.step hP hk rfl).1 | exact (PartsOk.step hP hk rfl).2.1 | exact (PartsOk.step hP hk rfl).2.2.1 | exact (PartsOk.step hP hk rfl).2.2.2)
 have e3 : (wrN (hN (catV w L k)) (lenV (List.getD L k undef))) = (hN (catV w L (k + 1))) := (by first | exact wrap_succ (by omega) | exact (PartsOk.step hP hk rfl).1 | exact (PartsOk.step hP hk rfl).2.1 | exact (PartsOk.step hP hk rfl).2.2.1 | exact (PartsOk.step hP hk rfl).2.2.2)
 have e4 := wrap_succ (n := k) (by omega)
 have h := Run.of_outTAt (B := ⟨w, [], 1, β⟩) (Λ := noLam) (Ψ := noPsi) (fuel := 0) (ora := [true]) (c := (loopB Tryz.f117 0)) (st := (joL_mk w n L cap0 k s)) (l := [.swap 4 6, .forget [0, 2, 3, 6, 7, 8, 9] 5]) (s' := ⟨sparse 19 [(0, .o (.a (.sl 0 0 n cap0))), (2, .o (.a (.p 1 0))), (3, .o (.a (.p 3 0))), (6, .o (.a (.p 3 0))), (7, .o (.a (.sl 0 0 n cap0))), (8, .o (.a (.i .i64 (n : Int)))), (9, .o (.a (.i .i64 (IntKind.i64.wrap ((k : Int) + 1)))))], [bF [.vals n L], bT [.ints .u8 64 (List.replicate 64 0)], bT [.ints .u64 80 (konst)], bT [.ints .u64 8 (wrS (konst) (hS (catV w L k)) (hL (catV w L k)) (sub (contV w (List.getD L k undef)) 0 (lenV (List.getD L k undef))) (hT (catV w L k)) (lenV (List.getD L k undef))), .rs 4 0 (wrT (hT (catV w L k)) (lenV (List.getD L k undef))) 1, .i .u64 (wrN (hN (catV w L k)) (lenV (List.getD L k undef))), .p 2 0], bT [.ints .u8 (wrT (hT (catV w L k)) (lenV (List.getD L k undef))) (wrL (hL (catV w L k)) (sub (contV w (List.getD L k undef)) 0 (lenV (List.getD L k undef))) (hT (catV w L k)) (lenV (List.getD L k undef)))]]⟩) (ex := .normal) mix tabOkHB (gimp_ok (t := 26) (mk := mkS ⟨w, [], 1, β⟩ .u8) (gam10_ok.at _ _) fun v m => mkS_ok v m)
  (vc := [((True ∧ (((0 + (lenV (List.getD L k undef))) ≤ (lenV (List.getD L k undef))) ∧ True)) ∧ (((hT (catV w L k)) = (hT (catV w L k))) ∧ ((lenV (List.getD L k undef)) = (lenV (List.getD L k undef))) ∧ ((hT (catV w L k)) < 128) ∧ ((lenV (List.getD L k undef)) < 140737488355328))), ((k < n) ∧ (ImpOk ⟨w, [], 1, β⟩ (List.getD L k undef) .u8 (lenV (List.getD L k undef)) (capV (List.getD L k undef)) (contV w (List.getD L k undef)))), ((0 ≤ (k : Int)) ∧ ((k : Int) < (n : Int))), ((decide ((k : Int) < (n : Int))) = true)]) (by kernel_rfl)
  (aC ⟨⟨trivial, ⟨(by have hh := hN_nn (catV w L n); have hm := hN_mod (catV w L n); have hq := hT_lt (catV w L k); have hl := hP.llt hk; first | omega | exact hm | (simp (disch := omega) only [wrapI]; omega)), trivial⟩⟩, ⟨rfl, rfl, (by have hh := hN_nn (catV w L n); have hm := hN_mod (catV w L n); have hq := hT_lt (catV w L k); have hl := hP.llt hk; first | omega | exact hm | (simp (disch := omega) only [wrapI]; omega)), (by have hh := hN_nn (catV w L n); have hm := hN_mod (catV w L n); have hq := hT_lt (catV w L k); have hl := hP.llt hk; first | omega | exact hm | (simp (disch := omega) only [wrapI]; omega))⟩⟩ (aC ⟨(by have hh := hN_nn (catV w L n); have hm := hN_mod (catV w L n); have hq := hT_lt (catV w L k); have hl := hP.llt hk; first | omega | exact hm | (simp (disch := omega) only [wrapI]; omega)), ((hP.imp k hk _ _))⟩ (aC ⟨(by have hh := hN_nn (catV w L n); have hm := hN_mod (catV w L n); have hq := hT_lt (catV w L k); have hl := hP.llt hk; first | omega | exact hm | (simp (disch := omega) only [wrapI]; omega)), (by have hh := hN_nn (catV w L n); have hm := hN_mod (catV w L n); have hq := hT_lt (catV w L k); have hl := hP.llt hk; first | omega | exact hm | (simp (disch := omega) only [wrapI]; omega))⟩ (aC (dt (by have hh := hN_nn (catV w L n); have hm := hN_mod (catV w L n); have hq := hT_lt (catV w L k); have hl := hP.llt hk; first | omega | exact hm | (simp (disch := omega) only [wrapI]; omega))) (AllP_nil)))))
 rw [e0, e1, e2, e3, e4] at h
 exact h

theorem joL_last (w : World) (n : Nat) (L : List Value) (cap0 : Nat) (h0 : (n < 70368744177664)) (β : Env) (hP : PartsOk w L n) (s : Unit) : Run Tryz.prog ⟨w, [], 1, β⟩ (loopB Tryz.f117 0) (joL_mk w n L cap0 n s) (To ⟨w, [], 1, β⟩ (.exit 0) (joL_mk w n L cap0 n s)) :=
 Run.of_outTAt (Λ := noLam) (Ψ := noPsi) (fuel := 0) (ora := [false]) (l := [.forget [0, 2, 3, 6, 7, 8, 9] 5]) mix tabOkHB (gimp_ok (t := 26) (mk := mkS ⟨w, [], 1, β⟩ .u8) (gam10_ok.at _ _) fun v m => mkS_ok v m)
  (vc := [((decide ((n : Int) < (n : Int))) = false)]) (by kernel_rfl)
  (aC (decide_eq_false (by omega)) (AllP_nil))

theorem joL_loop (w : World) (n : Nat) (L : List Value) (cap0 : Nat) (h0 : (n < 70368744177664)) (β : Env) (hP : PartsOk w L n) (s : Unit) : Run Tryz.prog ⟨w, [], 1, β⟩ (.block 0 (.loop (loopB Tryz.f117 0))) (joL_mk w n L cap0 0 s) (To ⟨w, [], 1, β⟩ .normal (joL_mk w n L cap0 n (iter (joL_step) n s))) :=
 Run.count (fun k => joL_mk w n L cap0 k (iter (joL_step) k s)) n (fun k hk => joL_round w n L cap0 h0 β hP k hk _) (ex := (.exit 0)) (by simp) (joL_last w n L cap0 h0 β hP _)

def joinP (w : World) (n : Nat) (L : List Value) : List Int :=
 let z0 : List Int := (catV w L n)
 (hsum (hS z0) (hT z0) (hN z0) (hL z0) (konst))

theorem joinP_body0 (w : World) (n : Nat) (L : List Value) (cap0 : Nat) (h0 : (n < 70368744177664)) (β : Env) (hP : PartsOk w L n) : Body Tryz.prog (tabOf tabHB) Tryz.f117 ⟨w, [], 1, β⟩ [.o (.a (.sl 0 0 n cap0))] [bF [.vals n L]] (fun ys _ => ys = [.g [.ints .u8 64 (joinP w n L)]]) :=
 Body.of_finAt (Γ := (gimp 26 (mkS ⟨w, [], 1, β⟩ .u8) gam10)) (Λ := lamOf [(0, ⟨[.forget [0, 2, 3, 6, 7, 8, 9] 5], .normal, (joL_mk w n L cap0 n (iter (joL_step) n ()))⟩)]) (Ψ := noPsi) (fuel := 0) (m := 19) (c := (Tryz.f117.body.getD .skip)) mix tabOkHB (gimp_ok (t := 26) (mk := mkS ⟨w, [], 1, β⟩ .u8) (gam10_ok.at _ _) fun v m => mkS_ok v m) rfl (rs := [.cell 2 218]) rfl rfl [] []
  (vc := [((True ∧ True) ∧ (((hT (catV w L n)) = (hT (catV w L n))) ∧ ((0 : Int) ≤ (hN (catV w L n))) ∧ ((Int.tmod (hN (catV w L n)) (128 : Int)) = (((hT (catV w L n)) : Nat) : Int)))), (Run Tryz.prog ⟨w, [], 1, β⟩ (.block 0 (.loop (loopB Tryz.f117 0))) (joL_mk w n L cap0 0 ()) (To ⟨w, [], 1, β⟩ .normal (joL_mk w n L cap0 n (iter (joL_step) n ())))), (True ∧ True)]) (by kernel_rfl)
  (aC ⟨⟨trivial, trivial⟩, ⟨rfl, (by have hh := hN_nn (catV w L n); have hm := hN_mod (catV w L n); have hq := hT_lt (catV w L n); first | omega | exact hm | (simp (disch := omega) only [wrapI]; omega)), (by have hh := hN_nn (catV w L n); have hm := hN_mod (catV w L n); have hq := hT_lt (catV w L n); first | omega | exact hm | (simp (disch := omega) only [wrapI]; omega))⟩⟩ (aC (joL_loop w n L cap0 h0 β hP ()) (aC ⟨trivial, trivial⟩ (AllP_nil))))

theorem joinP_body (w : World) (n : Nat) (L : List Value) (cap0 : Nat) (h0 : (n < 70368744177664)) (β : Env) (hP : PartsOk w L n) : Body Tryz.prog (tabOf tabHB) Tryz.f117 ⟨w, [], 1, β⟩ [.o (.a (.sl 0 0 n cap0))] [bF [.vals n L]] (fun ys _ => ys = [.g [.ints .u8 64 (joinP w n L)]]) :=
 Body.lens (c := (Tryz.f117.body.getD .skip)) rfl fun h => joinP_body0 w n L cap0 h0  β hP

end Go.Proofs.YtjmfnjgcofpocaaGreat.X

/- Printed by a tool of this session. -/
namespace Go.Proofs.YtjmfnjgcofpocaaGreat.X
open Go Go.Proofs
set_option linter.unusedVariables false
set_option linter.unusedSimpArgs false
set_option maxRecDepth 100000
set_option maxHeartbeats 8000000
def gjoin (w0 : World) (rw : List Nat) (rest : Gam) : Gam := gparts 117 [] w0 rw (fun vs args m D => match vs, args with | [], [] => some (m < 70368744177664, .g [.ints .u8 64 (shaD D)]) | _, _ => none) rest
theorem gjoin_ok {rest : Gam} {w0 : World} {rw : List Nat} (hr : GamAt Tryz.prog rest w0 rw) : GamAt Tryz.prog (gjoin w0 rw rest) w0 rw := gparts_ok tabOkHB Tryz.func117 Tryz.call117 hr (by
 intro vs args m D p y h hv
 split at h
 ·simp only [Option.some.injEq, Prod.mk.injEq] at h; obtain ⟨rfl, rfl⟩ := h
  refine ⟨rfl, fun caps cap L w β _ hP hD => ?_⟩
  subst hD
  exact joinP_body w m L cap hv β hP
 ·simp at h)

end Go.Proofs.YtjmfnjgcofpocaaGreat.X

/- The carry of math/bits.Add64, a function without a body, and its contract. -/
namespace Go.Proofs.YtjmfnjgcofpocaaGreat.X
open Go Go.Proofs
set_option linter.unusedVariables false

def ad64s (x y c : Int) : Int := (x + y + c) % 18446744073709551616
def ad64c (x y c : Int) : Int := (x + y + c) / 18446744073709551616
def gbits : Gam := gext 119 (fun args => match args with
  | [.o (.a (.i .u64 x)), .o (.a (.i .u64 y)), .o (.a (.i .u64 c))] => some (some (0 ≤ x ∧ 0 ≤ y ∧ 0 ≤ c ∧ c ≤ 1), [.a (.i .u64 (ad64s x y c)), .a (.i .u64 (ad64c x y c))])
  | _ => none) gnil

theorem three_args {β : Env} {k1 k2 k3 : IntKind} {x y z : Int} {vs : List Value} (h : allC β [.o (.a (.i k1 x)), .o (.a (.i k2 y)), .o (.a (.i k3 z))] vs) : vs = [.int k1 x, .int k2 y, .int k3 z] := by
 obtain ⟨a, r, rfl, h1, b, r2, rfl, h2, c, r3, rfl, h3, rfl⟩ := h
 have h1 : [a] = [Value.int k1 x] := h1
 have h2 : [b] = [Value.int k2 y] := h2
 have h3 : [c] = [Value.int k3 z] := h3
 simp only [List.cons.injEq, and_true] at h1 h2 h3
 rw [h1, h2, h3]

theorem gbits_ok : GamOk Tryz.prog gbits := by
 refine gext_ok gnil_ok ?_
 intro args vc xs h hvc β w vs ha
 split at h
 ·rename_i x y c
  simp only [Option.some.injEq, Prod.mk.injEq] at h; obtain ⟨rfl, rfl⟩ := h
  obtain ⟨h1, h2, h3, h4⟩ := hvc
  rw [three_args ha]
  refine ⟨.tuple #[.int .u64 (ad64s x y c), .int .u64 (ad64c x y c)], ?_, ?_⟩
  ·rw [run_callFunc_extern (e := add64Entry) Tryz.func119 (by kernel_rfl) (by kernel_rfl) (by kernel_rfl) (by kernel_rfl), run_add64 x y c h1 h2 h3 h4]; rfl
  ·exact ⟨_, rfl, _, _, rfl, rfl, _, _, rfl, rfl, rfl⟩
 ·simp at h
theorem ad64_rng (x y c : Int) : 0 ≤ ad64s x y c ∧ ad64s x y c < 18446744073709551616 := by unfold ad64s; omega
theorem ad64c_rng {x y c : Int} (hx : 0 ≤ x ∧ x < 18446744073709551616) (hy : 0 ≤ y ∧ y < 18446744073709551616) (hc : 0 ≤ c ∧ c ≤ 1) : 0 ≤ ad64c x y c ∧ ad64c x y c ≤ 1 := by unfold ad64c; omega
end Go.Proofs.YtjmfnjgcofpocaaGreat.X

/- Printed by a tool of this session. -/
namespace Go.Proofs.YtjmfnjgcofpocaaGreat.X
open Go Go.Proofs
set_option linter.unusedVariables false
set_option linter.unusedSimpArgs false
set_option maxRecDepth 100000
set_option maxHeartbeats 8000000
noncomputable def tabVA : List (Nat × TE) := []
theorem tabOkVA : TabOk Tryz.prog (tabOf tabVA) := tabOf_nil

def mul64 (x y : Int) : Int :=
 let z0 : Int := (IntKind.u64.wrap ((IntKind.u64.wrap ((shr .u64 x (32 : Int)) * (bits2 .and .u64 y (4294967295 : Int)))) + (shr .u64 (IntKind.u64.wrap ((bits2 .and .u64 x (4294967295 : Int)) * (bits2 .and .u64 y (4294967295 : Int)))) (32 : Int))))
 (IntKind.u64.wrap ((IntKind.u64.wrap ((IntKind.u64.wrap ((shr .u64 x (32 : Int)) * (shr .u64 y (32 : Int)))) + (shr .u64 z0 (32 : Int)))) + (shr .u64 (IntKind.u64.wrap ((bits2 .and .u64 z0 (4294967295 : Int)) + (IntKind.u64.wrap ((bits2 .and .u64 x (4294967295 : Int)) * (shr .u64 y (32 : Int)))))) (32 : Int))))

def mul64_1 (x y : Int) : Int :=
 (IntKind.u64.wrap (x * y))

theorem mul64_body0 (x y : Int) (w : World) : Body Tryz.prog (tabOf tabVA) Tryz.f156 ⟨w, [], 0, noEnv⟩ (toA [.a (.i .u64 x), .a (.i .u64 y)]) [] (fun ys _ => ys = [.a (.i .u64 (mul64 x y)), .a (.i .u64 (mul64_1 x y))]) :=
 Body.of_fin (Γ := gbits) (Λ := noLam) (Ψ := noPsi) (fuel := 0) (m := 51) (c := (Tryz.f156.body.getD .skip)) mix tabOkVA gbits_ok rfl (rs := [.tmp 4, .tmp 5]) rfl rfl [] []
  (vc := [((0 : Int) ≤ 32), ((0 : Int) ≤ 32), ((0 : Int) ≤ 32), ((0 : Int) ≤ 32), ((0 : Int) ≤ 32)]) (by kernel_rfl)
  (aC (by decide) (aC (by decide) (aC (by decide) (aC (by decide) (aC (by decide) (AllP_nil))))))

theorem mul64_body (x y : Int) (w : World) : Body Tryz.prog (tabOf tabVA) Tryz.f156 ⟨w, [], 0, noEnv⟩ (toA [.a (.i .u64 x), .a (.i .u64 y)]) [] (fun ys _ => ys = [.a (.i .u64 (mul64 x y)), .a (.i .u64 (mul64_1 x y))]) :=
 Body.lens (c := (Tryz.f156.body.getD .skip)) rfl fun h => mul64_body0 x y  w

theorem mul64_pure (x y : Int) : PureC Tryz.prog 156 [.a (.i .u64 x), .a (.i .u64 y)] [.a (.i .u64 (mul64 x y)), .a (.i .u64 (mul64_1 x y))] :=
 PureC.of_body tabOkVA Tryz.func156 rfl rfl fun w => mul64_body x y w

def gam201 : Gam := gpure 156 (fun args => match args with | [.o (.a (.i .u64 x)), .o (.a (.i .u64 y))] => some (none, [.a (.i .u64 (mul64 x y)), .a (.i .u64 (mul64_1 x y))]) | _ => none) gbits
theorem gam201_ok : GamOk Tryz.prog gam201 := gpure_ok gbits_ok Tryz.call156 (by
 intro args vc xs h hv
 split at h
 ·simp only [Option.some.injEq, Prod.mk.injEq] at h; obtain ⟨rfl, rfl⟩ := h; exact ⟨_, by rfl, mul64_pure _ _⟩
 ·simp at h)

end Go.Proofs.YtjmfnjgcofpocaaGreat.X

/- Bytes of numbers, numbers of bytes. -/
namespace Go.Proofs.YtjmfnjgcofpocaaGreat.X
open Go Go.Proofs
set_option linter.unusedVariables false
set_option linter.unusedSimpArgs false
set_option maxRecDepth 100000
set_option maxHeartbeats 8000000

theorem wrap64 (x : Int) : IntKind.u64.wrap x = x % 18446744073709551616 := by
 show (let m := x % (18446744073709551616 : Int); if (false && decide (m ≥ (9223372036854775808 : Int))) = true then m - 18446744073709551616 else m) = x % 18446744073709551616
 simp only [Bool.false_and, Bool.false_eq_true, if_false]
theorem wrap8 (x : Int) : IntKind.u8.wrap x = x % 256 := by
 show (let m := x % (256 : Int); if (false && decide (m ≥ (128 : Int))) = true then m - 256 else m) = x % 256
 simp only [Bool.false_and, Bool.false_eq_true, if_false]
theorem shr_0 (x : Int) : shr .u64 x 0 = x / 1 := by
 have e : shr .u64 x 0 = x.fdiv 1 := rfl
 rw [e, Int.fdiv_eq_ediv_of_nonneg _ (by omega)]
theorem shr_8 (x : Int) : shr .u64 x 8 = x / 256 := by
 have e : shr .u64 x 8 = x.fdiv 256 := rfl
 rw [e, Int.fdiv_eq_ediv_of_nonneg _ (by omega)]
theorem shr_16 (x : Int) : shr .u64 x 16 = x / 65536 := by
 have e : shr .u64 x 16 = x.fdiv 65536 := rfl
 rw [e, Int.fdiv_eq_ediv_of_nonneg _ (by omega)]
theorem shr_24 (x : Int) : shr .u64 x 24 = x / 16777216 := by
 have e : shr .u64 x 24 = x.fdiv 16777216 := rfl
 rw [e, Int.fdiv_eq_ediv_of_nonneg _ (by omega)]
theorem shr_32 (x : Int) : shr .u64 x 32 = x / 4294967296 := by
 have e : shr .u64 x 32 = x.fdiv 4294967296 := rfl
 rw [e, Int.fdiv_eq_ediv_of_nonneg _ (by omega)]
theorem shr_40 (x : Int) : shr .u64 x 40 = x / 1099511627776 := by
 have e : shr .u64 x 40 = x.fdiv 1099511627776 := rfl
 rw [e, Int.fdiv_eq_ediv_of_nonneg _ (by omega)]
theorem shr_48 (x : Int) : shr .u64 x 48 = x / 281474976710656 := by
 have e : shr .u64 x 48 = x.fdiv 281474976710656 := rfl
 rw [e, Int.fdiv_eq_ediv_of_nonneg _ (by omega)]
theorem shr_56 (x : Int) : shr .u64 x 56 = x / 72057594037927936 := by
 have e : shr .u64 x 56 = x.fdiv 72057594037927936 := rfl
 rw [e, Int.fdiv_eq_ediv_of_nonneg _ (by omega)]
theorem or_shl {a b : Int} {n : Nat} (hn : n ≤ 56) (h0 : 0 ≤ a) (h1 : a < ((2 ^ n : Nat) : Int)) (b0 : 0 ≤ b) (b1 : b < 256) : bits2 .or .u64 a (shl .u64 (IntKind.u64.wrap b) (n : Int)) = a + b * ((2 ^ n : Nat) : Int) := by
 obtain ⟨x, rfl⟩ := Int.eq_ofNat_of_zero_le h0
 obtain ⟨y, rfl⟩ := Int.eq_ofNat_of_zero_le b0
 have hx : x < 2 ^ n := by omega
 have hy : y < 256 := by omega
 have hp : 2 ^ n ≤ 2 ^ 56 := Nat.pow_le_pow_right (by omega) hn
 have hp0 : 0 < 2 ^ n := Nat.pow_pos (by omega)
 have hyp : y * 2 ^ n ≤ 255 * 2 ^ 56 := Nat.mul_le_mul (by omega) hp
 have e1 : shl .u64 (IntKind.u64.wrap (y : Int)) (n : Int) = ((y * 2 ^ n : Nat) : Int) := by
  have : shl .u64 (IntKind.u64.wrap (y : Int)) (n : Int) = IntKind.u64.wrap (IntKind.u64.wrap (y : Int) * 2 ^ (min n 64)) := rfl
  rw [this, Nat.min_eq_left (by omega), wrap64 (y : Int), Int.emod_eq_of_lt (by omega) (by omega), wrap64]
  have e : (y : Int) * 2 ^ n = ((y * 2 ^ n : Nat) : Int) := by rw [Int.natCast_mul, Int.natCast_pow]; rfl
  rw [e]
  exact Int.emod_eq_of_lt (by omega) (by omega)
 rw [e1]
 have e : bits2 .or .u64 ((x : Nat) : Int) ((y * 2 ^ n : Nat) : Int) = IntKind.u64.wrap (((BitVec.ofInt 64 ((x : Nat) : Int) ||| BitVec.ofInt 64 ((y * 2 ^ n : Nat) : Int)).toNat : Nat) : Int) := rfl
 have t : ∀ m : Nat, m < 18446744073709551616 → (BitVec.ofInt 64 (m : Int)).toNat = m := by
  intro m hm
  rw [BitVec.toNat_ofInt]
  show ((m : Int) % 18446744073709551616).toNat = m
  omega
 rw [e, BitVec.toNat_or, t x (by omega), t (y * 2 ^ n) (by omega), Nat.or_comm, Nat.mul_comm y, ← Nat.two_pow_add_eq_or_of_lt hx, wrap64]
 have : ((2 ^ n * y + x : Nat) : Int) % 18446744073709551616 = ((2 ^ n * y + x : Nat) : Int) := Int.emod_eq_of_lt (by omega) (by rw [Nat.mul_comm]; omega)
 rw [this, Int.natCast_add, Int.natCast_mul, Int.add_comm, Int.mul_comm]
def Byt (s : List Int) : Prop := ∀ x ∈ s, 0 ≤ x ∧ x < 256
theorem byt_get {s : List Int} (h : Byt s) (i : Nat) : 0 ≤ List.getD s i 0 ∧ List.getD s i 0 < 256 := by
 rw [List.getD_eq_getElem?_getD]
 by_cases hi : i < s.length
 ·rw [List.getElem?_eq_getElem hi]; exact h _ (List.getElem_mem hi)
 ·rw [List.getElem?_eq_none (by omega)]; simp
theorem word8 {b0 b1 b2 b3 b4 b5 b6 b7 : Int} (h0 : 0 ≤ b0 ∧ b0 < 256) (h1 : 0 ≤ b1 ∧ b1 < 256) (h2 : 0 ≤ b2 ∧ b2 < 256) (h3 : 0 ≤ b3 ∧ b3 < 256) (h4 : 0 ≤ b4 ∧ b4 < 256) (h5 : 0 ≤ b5 ∧ b5 < 256) (h6 : 0 ≤ b6 ∧ b6 < 256) (h7 : 0 ≤ b7 ∧ b7 < 256) : (bits2 .or .u64 (bits2 .or .u64 (bits2 .or .u64 (bits2 .or .u64 (bits2 .or .u64 (bits2 .or .u64 (bits2 .or .u64 (bits2 .or .u64 (0 : Int) (shl .u64 (IntKind.u64.wrap b0) (0 : Int))) (shl .u64 (IntKind.u64.wrap b1) (8 : Int))) (shl .u64 (IntKind.u64.wrap b2) (16 : Int))) (shl .u64 (IntKind.u64.wrap b3) (24 : Int))) (shl .u64 (IntKind.u64.wrap b4) (32 : Int))) (shl .u64 (IntKind.u64.wrap b5) (40 : Int))) (shl .u64 (IntKind.u64.wrap b6) (48 : Int))) (shl .u64 (IntKind.u64.wrap b7) (56 : Int))) = b0 + 256 * b1 + 65536 * b2 + 16777216 * b3 + 4294967296 * b4 + 1099511627776 * b5 + 281474976710656 * b6 + 72057594037927936 * b7 := by
 have e0 : bits2 .or .u64 ((0 : Int)) (shl .u64 (IntKind.u64.wrap b0) (0 : Int)) = b0 := by
  have q := or_shl (a := (0 : Int)) (b := b0) (n := 0) (by omega) (by omega) (show _ < (1 : Int) by omega) h0.1 h0.2
  have q : bits2 .or .u64 ((0 : Int)) (shl .u64 (IntKind.u64.wrap b0) (0 : Int)) = ((0 : Int)) + b0 * 1 := q
  rw [q]; omega
 have e1 : bits2 .or .u64 (b0) (shl .u64 (IntKind.u64.wrap b1) (8 : Int)) = b0 + 256 * b1 := by
  have q := or_shl (a := b0) (b := b1) (n := 8) (by omega) (by omega) (show _ < (256 : Int) by omega) h1.1 h1.2
  have q : bits2 .or .u64 (b0) (shl .u64 (IntKind.u64.wrap b1) (8 : Int)) = (b0) + b1 * 256 := q
  rw [q]; omega
 have e2 : bits2 .or .u64 (b0 + 256 * b1) (shl .u64 (IntKind.u64.wrap b2) (16 : Int)) = b0 + 256 * b1 + 65536 * b2 := by
  have q := or_shl (a := b0 + 256 * b1) (b := b2) (n := 16) (by omega) (by omega) (show _ < (65536 : Int) by omega) h2.1 h2.2
  have q : bits2 .or .u64 (b0 + 256 * b1) (shl .u64 (IntKind.u64.wrap b2) (16 : Int)) = (b0 + 256 * b1) + b2 * 65536 := q
  rw [q]; omega
 have e3 : bits2 .or .u64 (b0 + 256 * b1 + 65536 * b2) (shl .u64 (IntKind.u64.wrap b3) (24 : Int)) = b0 + 256 * b1 + 65536 * b2 + 16777216 * b3 := by
  have q := or_shl (a := b0 + 256 * b1 + 65536 * b2) (b := b3) (n := 24) (by omega) (by omega) (show _ < (16777216 : Int) by omega) h3.1 h3.2
  have q : bits2 .or .u64 (b0 + 256 * b1 + 65536 * b2) (shl .u64 (IntKind.u64.wrap b3) (24 : Int)) = (b0 + 256 * b1 + 65536 * b2) + b3 * 16777216 := q
  rw [q]; omega
 have e4 : bits2 .or .u64 (b0 + 256 * b1 + 65536 * b2 + 16777216 * b3) (shl .u64 (IntKind.u64.wrap b4) (32 : Int)) = b0 + 256 * b1 + 65536 * b2 + 16777216 * b3 + 4294967296 * b4 := by
  have q := or_shl (a := b0 + 256 * b1 + 65536 * b2 + 16777216 * b3) (b := b4) (n := 32) (by omega) (by omega) (show _ < (4294967296 : Int) by omega) h4.1 h4.2
  have q : bits2 .or .u64 (b0 + 256 * b1 + 65536 * b2 + 16777216 * b3) (shl .u64 (IntKind.u64.wrap b4) (32 : Int)) = (b0 + 256 * b1 + 65536 * b2 + 16777216 * b3) + b4 * 4294967296 := q
  rw [q]; omega
 have e5 : bits2 .or .u64 (b0 + 256 * b1 + 65536 * b2 + 16777216 * b3 + 4294967296 * b4) (shl .u64 (IntKind.u64.wrap b5) (40 : Int)) = b0 + 256 * b1 + 65536 * b2 + 16777216 * b3 + 4294967296 * b4 + 1099511627776 * b5 := by
  have q := or_shl (a := b0 + 256 * b1 + 65536 * b2 + 16777216 * b3 + 4294967296 * b4) (b := b5) (n := 40) (by omega) (by omega) (show _ < (1099511627776 : Int) by omega) h5.1 h5.2
  have q : bits2 .or .u64 (b0 + 256 * b1 + 65536 * b2 + 16777216 * b3 + 4294967296 * b4) (shl .u64 (IntKind.u64.wrap b5) (40 : Int)) = (b0 + 256 * b1 + 65536 * b2 + 16777216 * b3 + 4294967296 * b4) + b5 * 1099511627776 := q
  rw [q]; omega
 have e6 : bits2 .or .u64 (b0 + 256 * b1 + 65536 * b2 + 16777216 * b3 + 4294967296 * b4 + 1099511627776 * b5) (shl .u64 (IntKind.u64.wrap b6) (48 : Int)) = b0 + 256 * b1 + 65536 * b2 + 16777216 * b3 + 4294967296 * b4 + 1099511627776 * b5 + 281474976710656 * b6 := by
  have q := or_shl (a := b0 + 256 * b1 + 65536 * b2 + 16777216 * b3 + 4294967296 * b4 + 1099511627776 * b5) (b := b6) (n := 48) (by omega) (by omega) (show _ < (281474976710656 : Int) by omega) h6.1 h6.2
  have q : bits2 .or .u64 (b0 + 256 * b1 + 65536 * b2 + 16777216 * b3 + 4294967296 * b4 + 1099511627776 * b5) (shl .u64 (IntKind.u64.wrap b6) (48 : Int)) = (b0 + 256 * b1 + 65536 * b2 + 16777216 * b3 + 4294967296 * b4 + 1099511627776 * b5) + b6 * 281474976710656 := q
  rw [q]; omega
 have e7 : bits2 .or .u64 (b0 + 256 * b1 + 65536 * b2 + 16777216 * b3 + 4294967296 * b4 + 1099511627776 * b5 + 281474976710656 * b6) (shl .u64 (IntKind.u64.wrap b7) (56 : Int)) = b0 + 256 * b1 + 65536 * b2 + 16777216 * b3 + 4294967296 * b4 + 1099511627776 * b5 + 281474976710656 * b6 + 72057594037927936 * b7 := by
  have q := or_shl (a := b0 + 256 * b1 + 65536 * b2 + 16777216 * b3 + 4294967296 * b4 + 1099511627776 * b5 + 281474976710656 * b6) (b := b7) (n := 56) (by omega) (by omega) (show _ < (72057594037927936 : Int) by omega) h7.1 h7.2
  have q : bits2 .or .u64 (b0 + 256 * b1 + 65536 * b2 + 16777216 * b3 + 4294967296 * b4 + 1099511627776 * b5 + 281474976710656 * b6) (shl .u64 (IntKind.u64.wrap b7) (56 : Int)) = (b0 + 256 * b1 + 65536 * b2 + 16777216 * b3 + 4294967296 * b4 + 1099511627776 * b5 + 281474976710656 * b6) + b7 * 72057594037927936 := q
  rw [q]; omega
 rw [e0, e1, e2, e3, e4, e5, e6, e7]
def le8 (s : List Int) (o : Nat) : Int := List.getD s (o + 0) 0 + 256 * List.getD s (o + 1) 0 + 65536 * List.getD s (o + 2) 0 + 16777216 * List.getD s (o + 3) 0 + 4294967296 * List.getD s (o + 4) 0 + 1099511627776 * List.getD s (o + 5) 0 + 281474976710656 * List.getD s (o + 6) 0 + 72057594037927936 * List.getD s (o + 7) 0
def BV (s : List Int) : Int := le8 s 0 + 18446744073709551616 * le8 s 8 + 340282366920938463463374607431768211456 * le8 s 16 + 6277101735386680763835789423207666416102355444464034512896 * le8 s 24
theorem le8_rng {s : List Int} (h : Byt s) (o : Nat) : 0 ≤ le8 s o ∧ le8 s o < 18446744073709551616 := by
 have h0 := byt_get h (o + 0)
 have h1 := byt_get h (o + 1)
 have h2 := byt_get h (o + 2)
 have h3 := byt_get h (o + 3)
 have h4 := byt_get h (o + 4)
 have h5 := byt_get h (o + 5)
 have h6 := byt_get h (o + 6)
 have h7 := byt_get h (o + 7)
 unfold le8
 omega
theorem BV_rng {s : List Int} (h : Byt s) : 0 ≤ BV s ∧ BV s < 115792089237316195423570985008687907853269984665640564039457584007913129639936 := by
 have h0 := le8_rng h 0
 have h1 := le8_rng h 8
 have h2 := le8_rng h 16
 have h3 := le8_rng h 24
 unfold BV
 omega
def B32 (v : Int) : List Int := [v % 256, v / 256 % 256, v / 65536 % 256, v / 16777216 % 256, v / 4294967296 % 256, v / 1099511627776 % 256, v / 281474976710656 % 256, v / 72057594037927936 % 256, v / 18446744073709551616 % 256, v / 4722366482869645213696 % 256, v / 1208925819614629174706176 % 256, v / 309485009821345068724781056 % 256, v / 79228162514264337593543950336 % 256, v / 20282409603651670423947251286016 % 256, v / 5192296858534827628530496329220096 % 256, v / 1329227995784915872903807060280344576 % 256, v / 340282366920938463463374607431768211456 % 256, v / 87112285931760246646623899502532662132736 % 256, v / 22300745198530623141535718272648361505980416 % 256, v / 5708990770823839524233143877797980545530986496 % 256, v / 1461501637330902918203684832716283019655932542976 % 256, v / 374144419156711147060143317175368453031918731001856 % 256, v / 95780971304118053647396689196894323976171195136475136 % 256, v / 24519928653854221733733552434404946937899825954937634816 % 256, v / 6277101735386680763835789423207666416102355444464034512896 % 256, v / 1606938044258990275541962092341162602522202993782792835301376 % 256, v / 411376139330301510538742295639337626245683966408394965837152256 % 256, v / 105312291668557186697918027683670432318895095400549111254310977536 % 256, v / 26959946667150639794667015087019630673637144422540572481103610249216 % 256, v / 6901746346790563787434755862277025452451108972170386555162524223799296 % 256, v / 1766847064778384329583297500742918515827483896875618958121606201292619776 % 256, v / 452312848583266388373324160190187140051835877600158453279131187530910662656 % 256]
theorem byt_B32 (v : Int) : Byt (B32 v) := by
 intro x hx
 unfold B32 at hx
 simp only [List.mem_cons, List.not_mem_nil, or_false] at hx
 rcases hx with rfl | rfl | rfl | rfl | rfl | rfl | rfl | rfl | rfl | rfl | rfl | rfl | rfl | rfl | rfl | rfl | rfl | rfl | rfl | rfl | rfl | rfl | rfl | rfl | rfl | rfl | rfl | rfl | rfl | rfl | rfl | rfl <;> omega
end Go.Proofs.YtjmfnjgcofpocaaGreat.X

/- The product of two words in two words; words. -/
namespace Go.Proofs.YtjmfnjgcofpocaaGreat.X
open Go Go.Proofs
set_option linter.unusedVariables false
set_option linter.unusedSimpArgs false
set_option maxRecDepth 100000
set_option maxHeartbeats 8000000

def Wds (S : List Int) : Prop := ∀ x ∈ S, 0 ≤ x ∧ x < 18446744073709551616
theorem wds_get {S : List Int} (h : Wds S) (i : Nat) : 0 ≤ List.getD S i 0 ∧ List.getD S i 0 < 18446744073709551616 := by
 rw [List.getD_eq_getElem?_getD]
 by_cases hi : i < S.length
 ·rw [List.getElem?_eq_getElem hi]; exact h _ (List.getElem_mem hi)
 ·rw [List.getElem?_eq_none (by omega)]; simp
theorem cond_t {α : Type} {c : Bool} {a b : α} (h : c = true) : cond c a b = a := by rw [h]; rfl
theorem cond_f {α : Type} {c : Bool} {a b : α} (h : c = false) : cond c a b = b := by rw [h]; rfl
theorem wds_nil : Wds [] := fun x hx => by cases hx
theorem wds_cons {x : Int} {l : List Int} (h : 0 ≤ x ∧ x < 18446744073709551616) (hl : Wds l) : Wds (x :: l) := fun y hy => by
 rcases List.mem_cons.1 hy with rfl | hy
 ·exact h
 ·exact hl y hy
theorem wds_set {l : List Int} (hl : Wds l) {x : Int} (h : 0 ≤ x ∧ x < 18446744073709551616) (i : Nat) : Wds (List.set l i x) := fun y hy => by
 rcases List.mem_or_eq_of_mem_set hy with hy | rfl
 ·exact hl y hy
 ·exact h
theorem mul64_rng (x y : Int) : 0 ≤ mul64 x y ∧ mul64 x y < 18446744073709551616 := by
 unfold mul64
 simp only [wrap64]
 omega
theorem mul64_1_rng (x y : Int) : 0 ≤ mul64_1 x y ∧ mul64_1 x y < 18446744073709551616 := by
 unfold mul64_1
 simp only [wrap64]
 omega
def wlo (l a b : Int) : Int := ad64s l (mul64_1 a b) 0
def whi (h l a b : Int) : Int := ad64s h (mul64 a b) (ad64c l (mul64_1 a b) 0)
theorem wlo_rng (l a b : Int) : 0 ≤ wlo l a b ∧ wlo l a b < 18446744073709551616 := ad64_rng _ _ _
theorem whi_rng (h l a b : Int) : 0 ≤ whi h l a b ∧ whi h l a b < 18446744073709551616 := ad64_rng _ _ _
end Go.Proofs.YtjmfnjgcofpocaaGreat.X

/- Printed by a tool of this session. -/
namespace Go.Proofs.YtjmfnjgcofpocaaGreat.X
open Go Go.Proofs
set_option linter.unusedVariables false
set_option linter.unusedSimpArgs false
set_option maxRecDepth 100000
set_option maxHeartbeats 8000000
theorem teVC_258 : TEOk Tryz.prog 258 ⟨Tryz.t257.desc, 2, 16, [.ints .u64 2 ([0, 0] : List Int)], true⟩ :=
 TEOk.of Tryz.underlying258 (i := Tryz.t258) (by kernel_rfl) rfl rfl rfl (by kernel_rfl) (fun _ => ⟨Tryz.eqGuardType258, by kernel_rfl, by kernel_rfl⟩) (by kernel_rfl) (by kernel_rfl)
noncomputable def tabVC : List (Nat × TE) := [(164, ⟨.int .u64, 1, 8, [.i .u64 (0 : Int)], false⟩), (258, ⟨Tryz.t257.desc, 2, 16, [.ints .u64 2 ([0, 0] : List Int)], true⟩)]
theorem tabOkVC : TabOk Tryz.prog (tabOf tabVC) := (tabOf_cons teSA_164 (tabOf_cons teVC_258 tabOf_nil))

def addw (l : List Int) (c : Nat) (a b : Int) : List Int :=
 let z0 : Int := (List.getD l (c + 1) 0)
 let z1 : List Int := (List.set l (c + 1) (ad64s z0 (mul64_1 a b) (0 : Int)))
 (List.set z1 c (ad64s (List.getD z1 c 0) (mul64 a b) (ad64c z0 (mul64_1 a b) (0 : Int))))

theorem addw_body0 (n : Nat) (l : List Int) (c : Nat) (a b : Int) (h0 : ((c + 1) < n)) (h1 : (Wds l)) (hl0_0 : l.length = n) (w : World) (rw : List Nat) (β : Env) : Body Tryz.prog (tabOf tabVC) Tryz.f148 ⟨w, rw, 1, β⟩ [.o (.a (.ps 0 c)), .o (.a (.i .u64 a)), .o (.a (.i .u64 b))] [bT [.ints .u64 n l]] (fun ys K' => ys = [] ∧ K' = [bT [.ints .u64 n (addw l c a b)]]) :=
 Body.of_finK (Γ := gam201) (Λ := noLam) (Ψ := noPsi) (fuel := 0) (m := 40) (c := (Tryz.f148.body.getD .skip)) mix tabOkVC gam201_ok rfl (rs := []) rfl rfl [] [] 1
  (vc := [(c < n), (((0 : Int) ≤ (List.getD (List.set l (c + 1) (ad64s (List.getD l (c + 1) 0) (mul64_1 a b) (0 : Int))) c 0)) ∧ ((0 : Int) ≤ (mul64 a b)) ∧ ((0 : Int) ≤ (ad64c (List.getD l (c + 1) 0) (mul64_1 a b) (0 : Int))) ∧ ((ad64c (List.getD l (c + 1) 0) (mul64_1 a b) (0 : Int)) ≤ 1)), (c < n), ((c + 1) < n), (((0 : Int) ≤ (List.getD l (c + 1) 0)) ∧ ((0 : Int) ≤ (mul64_1 a b)) ∧ (cZ 0) ∧ (cZ 1)), ((c + 1) < n)]) (by kernel_rfl)
  (aC (by first | omega | exact (wds_get h1 _).1 | exact (mul64_rng _ _).1 | exact (mul64_1_rng _ _).1 | exact (ad64c_rng (wds_get h1 _) (mul64_1_rng _ _) (by omega)).1 | exact (ad64c_rng (wds_get h1 _) (mul64_1_rng _ _) (by omega)).2 | exact (wds_get (wds_set h1 (ad64_rng _ _ _) _) _).1) (aC ⟨(by first | omega | exact (wds_get h1 _).1 | exact (mul64_rng _ _).1 | exact (mul64_1_rng _ _).1 | exact (ad64c_rng (wds_get h1 _) (mul64_1_rng _ _) (by omega)).1 | exact (ad64c_rng (wds_get h1 _) (mul64_1_rng _ _) (by omega)).2 | exact (wds_get (wds_set h1 (ad64_rng _ _ _) _) _).1), (by first | omega | exact (wds_get h1 _).1 | exact (mul64_rng _ _).1 | exact (mul64_1_rng _ _).1 | exact (ad64c_rng (wds_get h1 _) (mul64_1_rng _ _) (by omega)).1 | exact (ad64c_rng (wds_get h1 _) (mul64_1_rng _ _) (by omega)).2 | exact (wds_get (wds_set h1 (ad64_rng _ _ _) _) _).1), (by first | omega | exact (wds_get h1 _).1 | exact (mul64_rng _ _).1 | exact (mul64_1_rng _ _).1 | exact (ad64c_rng (wds_get h1 _) (mul64_1_rng _ _) (by omega)).1 | exact (ad64c_rng (wds_get h1 _) (mul64_1_rng _ _) (by omega)).2 | exact (wds_get (wds_set h1 (ad64_rng _ _ _) _) _).1), (by first | omega | exact (wds_get h1 _).1 | exact (mul64_rng _ _).1 | exact (mul64_1_rng _ _).1 | exact (ad64c_rng (wds_get h1 _) (mul64_1_rng _ _) (by omega)).1 | exact (ad64c_rng (wds_get h1 _) (mul64_1_rng _ _) (by omega)).2 | exact (wds_get (wds_set h1 (ad64_rng _ _ _) _) _).1)⟩ (aC (by first | omega | exact (wds_get h1 _).1 | exact (mul64_rng _ _).1 | exact (mul64_1_rng _ _).1 | exact (ad64c_rng (wds_get h1 _) (mul64_1_rng _ _) (by omega)).1 | exact (ad64c_rng (wds_get h1 _) (mul64_1_rng _ _) (by omega)).2 | exact (wds_get (wds_set h1 (ad64_rng _ _ _) _) _).1) (aC h0 (aC ⟨(by first | omega | exact (wds_get h1 _).1 | exact (mul64_rng _ _).1 | exact (mul64_1_rng _ _).1 | exact (ad64c_rng (wds_get h1 _) (mul64_1_rng _ _) (by omega)).1 | exact (ad64c_rng (wds_get h1 _) (mul64_1_rng _ _) (by omega)).2 | exact (wds_get (wds_set h1 (ad64_rng _ _ _) _) _).1), (by first | omega | exact (wds_get h1 _).1 | exact (mul64_rng _ _).1 | exact (mul64_1_rng _ _).1 | exact (ad64c_rng (wds_get h1 _) (mul64_1_rng _ _) (by omega)).1 | exact (ad64c_rng (wds_get h1 _) (mul64_1_rng _ _) (by omega)).2 | exact (wds_get (wds_set h1 (ad64_rng _ _ _) _) _).1), (dd rfl), (dd rfl)⟩ (aC h0 (AllP_nil)))))))

theorem addw_body (n : Nat) (l : List Int) (c : Nat) (a b : Int) (h0 : ((c + 1) < n)) (h1 : (Wds l)) (w : World) (rw : List Nat) (β : Env) : Body Tryz.prog (tabOf tabVC) Tryz.f148 ⟨w, rw, 1, β⟩ [.o (.a (.ps 0 c)), .o (.a (.i .u64 a)), .o (.a (.i .u64 b))] [bT [.ints .u64 n l]] (fun ys K' => ys = [] ∧ K' = [bT [.ints .u64 n (addw l c a b)]]) :=
 Body.lens (c := (Tryz.f148.body.getD .skip)) rfl fun h => addw_body0 n l c a b h0 h1 (h.lens 0 _ .u64 n l rfl (by simp)) w rw β

end Go.Proofs.YtjmfnjgcofpocaaGreat.X

/- The sum of a product into a word pair of a list. -/
namespace Go.Proofs.YtjmfnjgcofpocaaGreat.X
open Go Go.Proofs
set_option linter.unusedVariables false
set_option linter.unusedSimpArgs false
set_option maxRecDepth 100000
set_option maxHeartbeats 8000000

theorem getD_set_ne {l : List Int} {i j : Nat} {x : Int} (h : i ≠ j) : List.getD (List.set l i x) j 0 = List.getD l j 0 := by
 rw [List.getD_eq_getElem?_getD, List.getD_eq_getElem?_getD, List.getElem?_set_ne h]
theorem addw_eq (l : List Int) (c : Nat) (a b : Int) : addw l c a b = List.set (List.set l (c + 1) (wlo (List.getD l (c + 1) 0) a b)) c (whi (List.getD l c 0) (List.getD l (c + 1) 0) a b) := by
 unfold addw
 simp only
 rw [getD_set_ne (by omega)]
 rfl
theorem addw_can (n : Nat) (l : List Int) (c : Nat) (a b : Int) (h0 : c + 1 < n) (h1 : Wds l) (w : World) (rw : List Nat) (β : Env) : Body Tryz.prog (tabOf tabVC) Tryz.f148 ⟨w, rw, 1, β⟩ [.o (.a (.ps 0 c)), .o (.a (.i .u64 a)), .o (.a (.i .u64 b))] [bT [.ints .u64 n l]] (fun ys K' => ys = [] ∧ K' = [bT [.ints .u64 n (List.set (List.set l (c + 1) (wlo (List.getD l (c + 1) 0) a b)) c (whi (List.getD l c 0) (List.getD l (c + 1) 0) a b))]]) :=
 addw_eq l c a b ▸ addw_body n l c a b h0 h1 w rw β
end Go.Proofs.YtjmfnjgcofpocaaGreat.X

