/- Texts of this session, put together (part 6), less what nothing uses. -/
import Derived.Test.YtjmfnjgcofpocaaGreatGD5
import Derived.KernelRfl
import Derived.Test.YtjmfnjgcofpocaaGreatRows
/- Printed by a tool of this session. -/
namespace Go.Proofs.YtjmfnjgcofpocaaGreat.X
open Go Go.Proofs
set_option linter.unusedVariables false
set_option linter.unusedSimpArgs false
set_option maxRecDepth 100000
set_option maxHeartbeats 8000000
theorem teDF_45 : TEOk Tryz.prog 45 ⟨Tryz.t44.desc, 30, 720, [nlA, nlA, nlA, nlA, nlA, nlA, nlA, nlA, nlA, nlA, nlA, nlA, nlA, nlA, nlA, nlA, nlA, nlA, nlA, nlA, nlA, nlA, nlA, nlA, nlA, nlA, nlA, nlA, nlA, nlA], false⟩ :=
 TEOk.of Tryz.underlying45 (i := Tryz.t45) (by kernel_rfl) rfl rfl rfl (by kernel_rfl) (fun h => by cases h) (by kernel_rfl) (by kernel_rfl)
noncomputable def tabDF : List (Nat × TE) := [(5, ⟨.int .u8, 1, 1, [.i .u8 0], false⟩), (26, ⟨.slice 5, 1, 24, [nlA], false⟩), (29, ⟨.slice 26, 1, 24, [nlA], false⟩), (45, ⟨Tryz.t44.desc, 30, 720, [nlA, nlA, nlA, nlA, nlA, nlA, nlA, nlA, nlA, nlA, nlA, nlA, nlA, nlA, nlA, nlA, nlA, nlA, nlA, nlA, nlA, nlA, nlA, nlA, nlA, nlA, nlA, nlA, nlA, nlA], false⟩)]
theorem tabOkDF : TabOk Tryz.prog (tabOf tabDF) := (tabOf_cons teDA_5 (tabOf_cons teDA_26 (tabOf_cons teHB_29 (tabOf_cons teDF_45 tabOf_nil))))

noncomputable def gam903 : Gam := gcall 21 [] [.s 1] (fun wk vs args => match wk, vs, args with | [], [⟨_, _, _, [.ints .u8 nm b]⟩], [.o (.a (.sl 0 0 n _))] => some ((nm = n) ∧ (n < 35184372088832), [.a (.rs 1 0 n 1)], [bF [.ints .u8 nm b], bT [.ints .u8 n (copyB n b)]]) | _, _, _ => none) gam901
theorem gam903_ok : GamOk Tryz.prog gam903 := gcall_ok tabOkDE Tryz.func21 gam901_ok Tryz.call21 (by
 intro wk vs args p xs K1 h hv
 split at h
 ·simp only [Option.some.injEq, Prod.mk.injEq] at h; obtain ⟨rfl, rfl, rfl⟩ := h; obtain ⟨g0, g1⟩ := hv; exact fun caps w rw β => copyB_body _ _ _ _ g0 g1 w rw β
 ·simp at h)

def gv0A_mk (q k_ : Nat) (L W : List Value) (n nm : Nat) (b : List Int) (cap3 j : Nat) (sj : Unit) : St := ⟨sparse 61 [(0, .o (.a (.p 0 0))), (1, .o (.a (.sl 3 0 n cap3))), (4, .o (.a nlA)), (5, .o (.a (.sl 4 0 (n + 3) (n + 3)))), (6, .o (.a (.i .i64 (j : Int))))], [bT [.rs 1 0 q 1, .rs 2 0 q 1, nlA, nlA, nlA, nlA, nlA, nlA, nlA, nlA, nlA, nlA, nlA, nlA, nlA, nlA, nlA, nlA, nlA, nlA, nlA, nlA, nlA, nlA, nlA, nlA, nlA, nlA, nlA, nlA], bT [.vals k_ L], bT [.vals k_ W], bF [.ints .u8 nm b], bT [.ints .u8 (n + 3) (mkP (List.replicate (n + 3) (0 : Int)) (987 : Int) j)]]⟩

def gv0A_step (j : Nat) (sj : Unit) : Unit :=
 ()

theorem gv0A_round (q k_ : Nat) (L W : List Value) (n nm : Nat) (b : List Int) (cap3 : Nat) (h0 : (nm = n)) (h1 : (n < 17592186044416)) (h2 : (q < 2199023255552)) (h3 : (q = k_)) (hc3 : n ≤ cap3) (hl3_0 : b.length = nm) (w : World) (rw : List Nat) (β : Env) (j : Nat) (hj : j < (n + 3)) (sj : Unit) : Run Tryz.prog ⟨w, rw, 4, β⟩ (loopB Tryz.f11 0) (gv0A_mk q k_ L W n nm b cap3 j sj) (To ⟨w, rw, 4, β⟩ .normal (gv0A_mk q k_ L W n nm b cap3 (j + 1) (gv0A_step j sj))) := by
 have e0 : (List.set (mkP (List.replicate (n + 3) (0 : Int)) (987 : Int) j) j (mkBy (987 : Int) ((j : Nat) : Int))) = (mkP (List.replicate (n + 3) (0 : Int)) (987 : Int) (j + 1)) := (by first | exact wrap_succ (by omega) | exact mkP_step (by rw [List.length_replicate]) (by omega))
 have e1 := wrap_succ (n := j) (by omega)
 have h := Run.of_outT (B := ⟨w, rw, 4, β⟩) (Λ := noLam) (Ψ := noPsi) (fuel := 0) (ora := [true]) (c := (loopB Tryz.f11 0)) (st := (gv0A_mk q k_ L W n nm b cap3 j sj)) (l := [.forget [0, 1, 4, 5, 6] 5]) (s' := ⟨sparse 61 [(0, .o (.a (.p 0 0))), (1, .o (.a (.sl 3 0 n cap3))), (4, .o (.a nlA)), (5, .o (.a (.sl 4 0 (n + 3) (n + 3)))), (6, .o (.a (.i .i64 (IntKind.i64.wrap ((j : Int) + 1)))))], [bT [.rs 1 0 q 1, .rs 2 0 q 1, nlA, nlA, nlA, nlA, nlA, nlA, nlA, nlA, nlA, nlA, nlA, nlA, nlA, nlA, nlA, nlA, nlA, nlA, nlA, nlA, nlA, nlA, nlA, nlA, nlA, nlA, nlA, nlA], bT [.vals k_ L], bT [.vals k_ W], bF [.ints .u8 nm b], bT [.ints .u8 (n + 3) (List.set (mkP (List.replicate (n + 3) (0 : Int)) (987 : Int) j) j (mkBy (987 : Int) (j : Int)))]]⟩) (ex := .normal) mix tabOkDF gam903_ok
  (vc := [(j < (n + 3)), ((0 ≤ (j : Int)) ∧ ((j : Int) < (((n + 3) : Nat) : Int))), ((decide ((j : Int) < (((n + 3) : Nat) : Int))) = true)]) (by kernel_rfl)
  (aC (by first|omega|(simp (disch:=omega) only [wrapI];omega)) (aC ⟨(by first|omega|(simp (disch:=omega) only [wrapI];omega)), (by first|omega|(simp (disch:=omega) only [wrapI];omega))⟩ (aC (dt (by first|omega|(simp (disch:=omega) only [wrapI];omega))) (AllP_nil))))
 rw [e0, e1] at h
 exact h

theorem gv0A_last (q k_ : Nat) (L W : List Value) (n nm : Nat) (b : List Int) (cap3 : Nat) (h0 : (nm = n)) (h1 : (n < 17592186044416)) (h2 : (q < 2199023255552)) (h3 : (q = k_)) (hc3 : n ≤ cap3) (hl3_0 : b.length = nm) (w : World) (rw : List Nat) (β : Env) (sj : Unit) : Run Tryz.prog ⟨w, rw, 4, β⟩ (loopB Tryz.f11 0) (gv0A_mk q k_ L W n nm b cap3 (n + 3) sj) (To ⟨w, rw, 4, β⟩ (.exit 0) (gv0A_mk q k_ L W n nm b cap3 (n + 3) sj)) :=
 Run.of_outT (Λ := noLam) (Ψ := noPsi) (fuel := 0) (ora := [false]) (l := [.forget [0, 1, 4, 5, 6] 5]) mix tabOkDF gam903_ok
  (vc := [((decide ((((n + 3) : Nat) : Int) < (((n + 3) : Nat) : Int))) = false)]) (by kernel_rfl)
  (aC (decide_eq_false (by omega)) (AllP_nil))

theorem gv0A_loop (q k_ : Nat) (L W : List Value) (n nm : Nat) (b : List Int) (cap3 : Nat) (h0 : (nm = n)) (h1 : (n < 17592186044416)) (h2 : (q < 2199023255552)) (h3 : (q = k_)) (hc3 : n ≤ cap3) (hl3_0 : b.length = nm) (w : World) (rw : List Nat) (β : Env) (sj : Unit) : Run Tryz.prog ⟨w, rw, 4, β⟩ (.block 0 (.loop (loopB Tryz.f11 0))) (gv0A_mk q k_ L W n nm b cap3 0 sj) (To ⟨w, rw, 4, β⟩ .normal (gv0A_mk q k_ L W n nm b cap3 (n + 3) (iter (gv0A_step) (n + 3) sj))) :=
 Run.count (fun j => gv0A_mk q k_ L W n nm b cap3 j (iter (gv0A_step) j sj)) (n + 3) (fun j hj => gv0A_round q k_ L W n nm b cap3 h0 h1 h2 h3 hc3 hl3_0 w rw β j hj _) (ex := (.exit 0)) (by simp) (gv0A_last q k_ L W n nm b cap3 h0 h1 h2 h3 hc3 hl3_0 w rw β _)

def gv0B_mk (q k_ : Nat) (L W : List Value) (n nm : Nat) (b : List Int) (cap3 j : Nat) (sj : Unit) : St := ⟨sparse 61 [(0, .o (.a (.p 0 0))), (1, .o (.a (.sl 3 0 n cap3))), (4, .o (.a nlA)), (5, .o (.a (.sl 4 0 (n + 3) (n + 3)))), (6, .o (.a (.i .i64 (((n + 3) : Nat) : Int)))), (7, .o (.a (.i .i64 (j : Int))))], [bT [.rs 1 0 q 1, .rs 2 0 q 1, nlA, nlA, nlA, nlA, nlA, nlA, nlA, nlA, nlA, nlA, nlA, nlA, nlA, nlA, nlA, nlA, nlA, nlA, nlA, nlA, nlA, nlA, nlA, nlA, nlA, nlA, nlA, nlA], bT [.vals k_ L], bT [.vals k_ W], bF [.ints .u8 nm b], bT [.ints .u8 (n + 3) (cpB b (rwB (987 : Int) (n + 3)) j)]]⟩

theorem gv0B_round (q k_ : Nat) (L W : List Value) (n nm : Nat) (b : List Int) (cap3 : Nat) (h0 : (nm = n)) (h1 : (n < 17592186044416)) (h2 : (q < 2199023255552)) (h3 : (q = k_)) (hc3 : n ≤ cap3) (hl3_0 : b.length = nm) (w : World) (rw : List Nat) (β : Env) (j : Nat) (hj : j < n) (sj : Unit) : Run Tryz.prog ⟨w, rw, 4, β⟩ (loopB Tryz.f11 2) (gv0B_mk q k_ L W n nm b cap3 j sj) (To ⟨w, rw, 4, β⟩ .normal (gv0B_mk q k_ L W n nm b cap3 (j + 1) (gv0A_step j sj))) := by
 have e0 : (List.set (cpB b (rwB (987 : Int) (n + (3 : Nat))) j) j (List.getD b j 0)) = (cpB b (rwB (987 : Int) (n + (3 : Nat))) (j + (1 : Nat))) := (by first | exact wrap_succ (by omega) | exact cpB_step (hl3_0.trans h0) (rwB_len _ _) (by omega) (by omega))
 have e1 := wrap_succ (n := j) (by omega)
 have h := Run.of_outT (B := ⟨w, rw, 4, β⟩) (Λ := noLam) (Ψ := noPsi) (fuel := 0) (ora := [true]) (c := (loopB Tryz.f11 2)) (st := (gv0B_mk q k_ L W n nm b cap3 j sj)) (l := [.forget [0, 1, 4, 5, 6, 7] 5]) (s' := ⟨sparse 61 [(0, .o (.a (.p 0 0))), (1, .o (.a (.sl 3 0 n cap3))), (4, .o (.a nlA)), (5, .o (.a (.sl 4 0 (n + 3) (n + 3)))), (6, .o (.a (.i .i64 (((n + 3) : Nat) : Int)))), (7, .o (.a (.i .i64 (IntKind.i64.wrap ((j : Int) + 1)))))], [bT [.rs 1 0 q 1, .rs 2 0 q 1, nlA, nlA, nlA, nlA, nlA, nlA, nlA, nlA, nlA, nlA, nlA, nlA, nlA, nlA, nlA, nlA, nlA, nlA, nlA, nlA, nlA, nlA, nlA, nlA, nlA, nlA, nlA, nlA], bT [.vals k_ L], bT [.vals k_ W], bF [.ints .u8 nm b], bT [.ints .u8 (n + 3) (List.set (cpB b (rwB (987 : Int) (n + 3)) j) j (List.getD b j 0))]]⟩) (ex := .normal) mix tabOkDF gam903_ok
  (vc := [(j < (n + 3)), ((0 ≤ (j : Int)) ∧ ((j : Int) < (((n + 3) : Nat) : Int))), (j < nm), ((0 ≤ (j : Int)) ∧ ((j : Int) < (n : Int))), ((decide ((j : Int) < (n : Int))) = true)]) (by kernel_rfl)
  (aC (by first|omega|(simp (disch:=omega) only [wrapI];omega)) (aC ⟨(by first|omega|(simp (disch:=omega) only [wrapI];omega)), (by first|omega|(simp (disch:=omega) only [wrapI];omega))⟩ (aC (by first|omega|(simp (disch:=omega) only [wrapI];omega)) (aC ⟨(by first|omega|(simp (disch:=omega) only [wrapI];omega)), (by first|omega|(simp (disch:=omega) only [wrapI];omega))⟩ (aC (dt (by first|omega|(simp (disch:=omega) only [wrapI];omega))) (AllP_nil))))))
 rw [e0, e1] at h
 exact h

theorem gv0B_last (q k_ : Nat) (L W : List Value) (n nm : Nat) (b : List Int) (cap3 : Nat) (h0 : (nm = n)) (h1 : (n < 17592186044416)) (h2 : (q < 2199023255552)) (h3 : (q = k_)) (hc3 : n ≤ cap3) (hl3_0 : b.length = nm) (w : World) (rw : List Nat) (β : Env) (sj : Unit) : Run Tryz.prog ⟨w, rw, 4, β⟩ (loopB Tryz.f11 2) (gv0B_mk q k_ L W n nm b cap3 n sj) (To ⟨w, rw, 4, β⟩ (.exit 2) (gv0B_mk q k_ L W n nm b cap3 n sj)) :=
 Run.of_outT (Λ := noLam) (Ψ := noPsi) (fuel := 0) (ora := [false]) (l := [.forget [0, 1, 4, 5, 6, 7] 5]) mix tabOkDF gam903_ok
  (vc := [((decide ((n : Int) < (n : Int))) = false)]) (by kernel_rfl)
  (aC (decide_eq_false (by omega)) (AllP_nil))

theorem gv0B_loop (q k_ : Nat) (L W : List Value) (n nm : Nat) (b : List Int) (cap3 : Nat) (h0 : (nm = n)) (h1 : (n < 17592186044416)) (h2 : (q < 2199023255552)) (h3 : (q = k_)) (hc3 : n ≤ cap3) (hl3_0 : b.length = nm) (w : World) (rw : List Nat) (β : Env) (sj : Unit) : Run Tryz.prog ⟨w, rw, 4, β⟩ (.block 2 (.loop (loopB Tryz.f11 2))) (gv0B_mk q k_ L W n nm b cap3 0 sj) (To ⟨w, rw, 4, β⟩ .normal (gv0B_mk q k_ L W n nm b cap3 n (iter (gv0A_step) n sj))) :=
 Run.count (fun j => gv0B_mk q k_ L W n nm b cap3 j (iter (gv0A_step) j sj)) n (fun j hj => gv0B_round q k_ L W n nm b cap3 h0 h1 h2 h3 hc3 hl3_0 w rw β j hj _) (ex := (.exit 2)) (by simp) (gv0B_last q k_ L W n nm b cap3 h0 h1 h2 h3 hc3 hl3_0 w rw β _)

def gv0 (n : Nat) : Nat :=
 (n + 3)

def gv0_1 (q : Nat) : Nat :=
 (q + 1)

theorem gv0_body0 (q k_ : Nat) (L W : List Value) (n nm : Nat) (b : List Int) (cap3 : Nat) (h0 : (nm = n)) (h1 : (n < 17592186044416)) (h2 : (q < 2199023255552)) (h3 : (q = k_)) (hc3 : n ≤ cap3) (hl3_0 : b.length = nm) (w : World) (rw : List Nat) (β : Env) : Body Tryz.prog (tabOf tabDF) Tryz.f11 ⟨w, rw, 4, β⟩ [.o (.a (.p 0 0)), .o (.a (.sl 3 0 n cap3))] [bT [.rs 1 0 q 1, .rs 2 0 q 1, nlA, nlA, nlA, nlA, nlA, nlA, nlA, nlA, nlA, nlA, nlA, nlA, nlA, nlA, nlA, nlA, nlA, nlA, nlA, nlA, nlA, nlA, nlA, nlA, nlA, nlA, nlA, nlA], bT [.vals k_ L], bT [.vals k_ W], bF [.ints .u8 nm b]] (fun ys K' => ys = [.a (.sl 6 0 n (gv0 n))] ∧ K' = [bT [.rs 4 0 (gv0_1 q) 1, .rs 5 0 (gv0_1 q) 1, nlA, nlA, nlA, nlA, nlA, nlA, nlA, nlA, nlA, nlA, nlA, nlA, nlA, nlA, nlA, nlA, nlA, nlA, nlA, nlA, nlA, nlA, nlA, nlA, nlA, nlA, nlA, nlA], none, none, bF [.ints .u8 nm b], bT [.vals q (sub L 0 q), .sl 6 0 (gv0 n) (gv0 n)], bT [.vals q (sub W 0 q), .rs 7 0 (gv0 n) 1], bT [.ints .u8 (gv0 n) (gvB n b)], bT [.ints .u8 (gv0 n) (gvB n b)]]) :=
 Body.of_finK (Γ := gam903) (Λ := lamOf [(0, ⟨[.forget [0, 1, 4, 5, 6] 5], .normal, (gv0A_mk q k_ L W n nm b cap3 (n + 3) (iter (gv0A_step) (n + 3) ()))⟩), (2, ⟨[.forget [0, 1, 4, 5, 6, 7] 5], .normal, (gv0B_mk q k_ L W n nm b cap3 n (iter (gv0A_step) n ()))⟩)]) (Ψ := psiOf [(1, [.eqS 5 (.o (.a (.sl 4 0 (n + 3) (n + 3)))), .eqB 4 (⟨true, [.ints .u8 (n + 3) (List.replicate (n + 3) (0 : Int))]⟩)]), (6, [.eqB 4 (⟨true, [.ints .u8 (n + 3) (rwB (987 : Int) (n + 3))]⟩)]), (10, [.eqB 4 (⟨true, [.ints .u8 (n + 3) (gvB n b)]⟩)]), (11, [.eqB 7 (⟨true, [.ints .u8 (n + 3) (gvB n b)]⟩)])]) (fuel := 0) (m := 61) (c := (Tryz.f11.body.getD .skip)) mix tabOkDF gam903_ok rfl (rs := [.tmp 4]) rfl rfl [false, false] [.swap 4 6, .swap 5 9] 8
  (vc := (let p0_ : Prop := (((0 + q) ≤ k_) ∧ ((1 ≤ 1) ∧ True) ∧ (((q + 1) * 24) ≤ 140737488355328)); [((cZ 0) ∧ (0 ≤ (n : Int)) ∧ ((n : Int) ≤ (((n + 3) : Nat) : Int))), ((bT [.ints .u8 (n + 3) (copyB (n + 3) (sub (gvB n b) 0 (n + 3)))] : Option Blk) = bT [.ints .u8 (n + 3) (gvB n b)]), p0_, ((((0 + (n + 3)) ≤ (n + 3)) ∧ True) ∧ (((n + 3) = (n + 3)) ∧ ((n + 3) < 35184372088832))), ((bT [.ints .u8 (n + 3) (cpB b (rwB (987 : Int) (n + 3)) n)] : Option Blk) = bT [.ints .u8 (n + 3) (gvB n b)]), p0_, (Run Tryz.prog ⟨w, rw, 4, β⟩ (.block 2 (.loop (loopB Tryz.f11 2))) (gv0B_mk q k_ L W n nm b cap3 0 ()) (To ⟨w, rw, 4, β⟩ .normal (gv0B_mk q k_ L W n nm b cap3 n (iter (gv0A_step) n ())))), ((bT [.ints .u8 (n + 3) (mkP (List.replicate (n + 3) (0 : Int)) (987 : Int) (n + 3))] : Option Blk) = bT [.ints .u8 (n + 3) (rwB (987 : Int) (n + 3))]), (Run Tryz.prog ⟨w, rw, 4, β⟩ (.block 0 (.loop (loopB Tryz.f11 0))) (gv0A_mk q k_ L W n nm b cap3 0 ()) (To ⟨w, rw, 4, β⟩ .normal (gv0A_mk q k_ L W n nm b cap3 (n + 3) (iter (gv0A_step) (n + 3) ())))), ((bT [.ints .u8 (Int.toNat (IntKind.i64.wrap ((n : Int) + 3))) (List.replicate (Int.toNat (IntKind.i64.wrap ((n : Int) + 3))) (0 : Int))] : Option Blk) = bT [.ints .u8 (n + 3) (List.replicate (n + 3) (0 : Int))]), ((.o (.a (.sl 4 0 (Int.toNat (IntKind.i64.wrap ((n : Int) + 3))) (Int.toNat (IntKind.i64.wrap ((n : Int) + 3))))) : AV) = .o (.a (.sl 4 0 (n + 3) (n + 3)))), (((0 : Int) ≤ (IntKind.i64.wrap ((n : Int) + 3))) ∧ ((IntKind.i64.wrap ((n : Int) + 3)) ≤ (IntKind.i64.wrap ((n : Int) + 3))) ∧ (((IntKind.i64.wrap ((n : Int) + 3)) * 1) ≤ 281474976710656))])) (by kernel_rfl)
  (aC ⟨(dd rfl), (by first|omega|(simp (disch:=omega) only [wrapI];omega)), (by first|omega|(simp (disch:=omega) only [wrapI];omega))⟩ (aC ((by rw [show copyB (n + 3) (sub (gvB n b) 0 (n + 3)) = gvB n b from gv_copy (hl3_0.trans h0)])) (aC ⟨(by first|omega|(simp (disch:=omega) only [wrapI];omega)), ⟨(dd rfl), trivial⟩, (by first|omega|(simp (disch:=omega) only [wrapI];omega))⟩ (aC ⟨⟨(by first|omega|(simp (disch:=omega) only [wrapI];omega)), trivial⟩, ⟨rfl, (by first|omega|(simp (disch:=omega) only [wrapI];omega))⟩⟩ (aC (rfl) (aC ⟨(by first|omega|(simp (disch:=omega) only [wrapI];omega)), ⟨(dd rfl), trivial⟩, (by first|omega|(simp (disch:=omega) only [wrapI];omega))⟩ (aC (gv0B_loop q k_ L W n nm b cap3 h0 h1 h2 h3 hc3 hl3_0 w rw β ()) (aC ((by rw [mkP_all (by rw [List.length_replicate])])) (aC (gv0A_loop q k_ L W n nm b cap3 h0 h1 h2 h3 hc3 hl3_0 w rw β ()) (aC ((by rw [wrapI (by omega) (by omega), show Int.toNat ((n : Int) + 3) = n + 3 from by omega])) (aC ((by rw [wrapI (by omega) (by omega), show Int.toNat ((n : Int) + 3) = n + 3 from by omega])) (aC ⟨(by first|omega|(simp (disch:=omega) only [wrapI];omega)), (by first|omega|(simp (disch:=omega) only [wrapI];omega)), (by first|omega|(simp (disch:=omega) only [wrapI];omega))⟩ (AllP_nil)))))))))))))

theorem gv0_body (q k_ : Nat) (L W : List Value) (n nm : Nat) (b : List Int) (cap3 : Nat) (h0 : (nm = n)) (h1 : (n < 17592186044416)) (h2 : (q < 2199023255552)) (h3 : (q = k_)) (w : World) (rw : List Nat) (β : Env) : Body Tryz.prog (tabOf tabDF) Tryz.f11 ⟨w, rw, 4, β⟩ [.o (.a (.p 0 0)), .o (.a (.sl 3 0 n cap3))] [bT [.rs 1 0 q 1, .rs 2 0 q 1, nlA, nlA, nlA, nlA, nlA, nlA, nlA, nlA, nlA, nlA, nlA, nlA, nlA, nlA, nlA, nlA, nlA, nlA, nlA, nlA, nlA, nlA, nlA, nlA, nlA, nlA, nlA, nlA], bT [.vals k_ L], bT [.vals k_ W], bF [.ints .u8 nm b]] (fun ys K' => ys = [.a (.sl 6 0 n (gv0 n))] ∧ K' = [bT [.rs 4 0 (gv0_1 q) 1, .rs 5 0 (gv0_1 q) 1, nlA, nlA, nlA, nlA, nlA, nlA, nlA, nlA, nlA, nlA, nlA, nlA, nlA, nlA, nlA, nlA, nlA, nlA, nlA, nlA, nlA, nlA, nlA, nlA, nlA, nlA, nlA, nlA], none, none, bF [.ints .u8 nm b], bT [.vals q (sub L 0 q), .sl 6 0 (gv0 n) (gv0 n)], bT [.vals q (sub W 0 q), .rs 7 0 (gv0 n) 1], bT [.ints .u8 (gv0 n) (gvB n b)], bT [.ints .u8 (gv0 n) (gvB n b)]]) :=
 Body.lens (c := (Tryz.f11.body.getD .skip)) rfl fun h => gv0_body0 q k_ L W n nm b cap3 h0 h1 h2 h3 (h.caps 1 _ _ _ _ rfl) (h.lens 3 _ .u8 nm b rfl (by simp)) w rw β

end Go.Proofs.YtjmfnjgcofpocaaGreat.X

/- Printed by a tool of this session. -/
namespace Go.Proofs.YtjmfnjgcofpocaaGreat.X
open Go Go.Proofs
set_option linter.unusedVariables false
set_option linter.unusedSimpArgs false
set_option maxRecDepth 100000
set_option maxHeartbeats 8000000
theorem teDG_30 : TEOk Tryz.prog 30 ⟨.slice 102, 1, 24, [.raw (.slice none 0 0)], false⟩ :=
 TEOk.of Tryz.underlying30 (i := Tryz.t30) (by kernel_rfl) rfl rfl rfl (by kernel_rfl) (fun h => by cases h) (by kernel_rfl) (by kernel_rfl)
theorem teDG_31 : TEOk Tryz.prog 31 ⟨.slice 104, 1, 24, [.raw (.slice none 0 0)], false⟩ :=
 TEOk.of Tryz.underlying31 (i := Tryz.t31) (by kernel_rfl) rfl rfl rfl (by kernel_rfl) (fun h => by cases h) (by kernel_rfl) (by kernel_rfl)
theorem teDG_32 : TEOk Tryz.prog 32 ⟨.slice 106, 1, 24, [.raw (.slice none 0 0)], false⟩ :=
 TEOk.of Tryz.underlying32 (i := Tryz.t32) (by kernel_rfl) rfl rfl rfl (by kernel_rfl) (fun h => by cases h) (by kernel_rfl) (by kernel_rfl)
theorem teDG_33 : TEOk Tryz.prog 33 ⟨.slice 108, 1, 24, [.raw (.slice none 0 0)], false⟩ :=
 TEOk.of Tryz.underlying33 (i := Tryz.t33) (by kernel_rfl) rfl rfl rfl (by kernel_rfl) (fun h => by cases h) (by kernel_rfl) (by kernel_rfl)
theorem teDG_34 : TEOk Tryz.prog 34 ⟨.slice 110, 1, 24, [.raw (.slice none 0 0)], false⟩ :=
 TEOk.of Tryz.underlying34 (i := Tryz.t34) (by kernel_rfl) rfl rfl rfl (by kernel_rfl) (fun h => by cases h) (by kernel_rfl) (by kernel_rfl)
theorem teDG_35 : TEOk Tryz.prog 35 ⟨.slice 112, 1, 24, [.raw (.slice none 0 0)], false⟩ :=
 TEOk.of Tryz.underlying35 (i := Tryz.t35) (by kernel_rfl) rfl rfl rfl (by kernel_rfl) (fun h => by cases h) (by kernel_rfl) (by kernel_rfl)
theorem teDG_36 : TEOk Tryz.prog 36 ⟨.slice 114, 1, 24, [.raw (.slice none 0 0)], false⟩ :=
 TEOk.of Tryz.underlying36 (i := Tryz.t36) (by kernel_rfl) rfl rfl rfl (by kernel_rfl) (fun h => by cases h) (by kernel_rfl) (by kernel_rfl)
theorem teDG_37 : TEOk Tryz.prog 37 ⟨.slice 116, 1, 24, [.raw (.slice none 0 0)], false⟩ :=
 TEOk.of Tryz.underlying37 (i := Tryz.t37) (by kernel_rfl) rfl rfl rfl (by kernel_rfl) (fun h => by cases h) (by kernel_rfl) (by kernel_rfl)
theorem teDG_38 : TEOk Tryz.prog 38 ⟨.slice 118, 1, 24, [.raw (.slice none 0 0)], false⟩ :=
 TEOk.of Tryz.underlying38 (i := Tryz.t38) (by kernel_rfl) rfl rfl rfl (by kernel_rfl) (fun h => by cases h) (by kernel_rfl) (by kernel_rfl)
theorem teDG_39 : TEOk Tryz.prog 39 ⟨.slice 120, 1, 24, [.raw (.slice none 0 0)], false⟩ :=
 TEOk.of Tryz.underlying39 (i := Tryz.t39) (by kernel_rfl) rfl rfl rfl (by kernel_rfl) (fun h => by cases h) (by kernel_rfl) (by kernel_rfl)
theorem teDG_40 : TEOk Tryz.prog 40 ⟨.slice 80, 1, 24, [.raw (.slice none 0 0)], false⟩ :=
 TEOk.of Tryz.underlying40 (i := Tryz.t40) (by kernel_rfl) rfl rfl rfl (by kernel_rfl) (fun h => by cases h) (by kernel_rfl) (by kernel_rfl)
theorem teDG_41 : TEOk Tryz.prog 41 ⟨.slice 122, 1, 24, [.raw (.slice none 0 0)], false⟩ :=
 TEOk.of Tryz.underlying41 (i := Tryz.t41) (by kernel_rfl) rfl rfl rfl (by kernel_rfl) (fun h => by cases h) (by kernel_rfl) (by kernel_rfl)
theorem teDG_42 : TEOk Tryz.prog 42 ⟨.slice 124, 1, 24, [.raw (.slice none 0 0)], false⟩ :=
 TEOk.of Tryz.underlying42 (i := Tryz.t42) (by kernel_rfl) rfl rfl rfl (by kernel_rfl) (fun h => by cases h) (by kernel_rfl) (by kernel_rfl)
theorem teDG_43 : TEOk Tryz.prog 43 ⟨.slice 126, 1, 24, [.raw (.slice none 0 0)], false⟩ :=
 TEOk.of Tryz.underlying43 (i := Tryz.t43) (by kernel_rfl) rfl rfl rfl (by kernel_rfl) (fun h => by cases h) (by kernel_rfl) (by kernel_rfl)
noncomputable def tabDG : List (Nat × TE) := [(26, ⟨.slice 5, 1, 24, [nlA], false⟩), (29, ⟨.slice 26, 1, 24, [nlA], false⟩), (30, ⟨.slice 102, 1, 24, [nlA], false⟩), (31, ⟨.slice 104, 1, 24, [nlA], false⟩), (32, ⟨.slice 106, 1, 24, [nlA], false⟩), (33, ⟨.slice 108, 1, 24, [nlA], false⟩), (34, ⟨.slice 110, 1, 24, [nlA], false⟩), (35, ⟨.slice 112, 1, 24, [nlA], false⟩), (36, ⟨.slice 114, 1, 24, [nlA], false⟩), (37, ⟨.slice 116, 1, 24, [nlA], false⟩), (38, ⟨.slice 118, 1, 24, [nlA], false⟩), (39, ⟨.slice 120, 1, 24, [nlA], false⟩), (40, ⟨.slice 80, 1, 24, [nlA], false⟩), (41, ⟨.slice 122, 1, 24, [nlA], false⟩), (42, ⟨.slice 124, 1, 24, [nlA], false⟩), (43, ⟨.slice 126, 1, 24, [nlA], false⟩), (45, ⟨Tryz.t44.desc, 30, 720, [nlA, nlA, nlA, nlA, nlA, nlA, nlA, nlA, nlA, nlA, nlA, nlA, nlA, nlA, nlA, nlA, nlA, nlA, nlA, nlA, nlA, nlA, nlA, nlA, nlA, nlA, nlA, nlA, nlA, nlA], false⟩)]
theorem tabOkDG : TabOk Tryz.prog (tabOf tabDG) := (tabOf_cons teDA_26 (tabOf_cons teHB_29 (tabOf_cons teDG_30 (tabOf_cons teDG_31 (tabOf_cons teDG_32 (tabOf_cons teDG_33 (tabOf_cons teDG_34 (tabOf_cons teDG_35 (tabOf_cons teDG_36 (tabOf_cons teDG_37 (tabOf_cons teDG_38 (tabOf_cons teDG_39 (tabOf_cons teDG_40 (tabOf_cons teDG_41 (tabOf_cons teDG_42 (tabOf_cons teDG_43 (tabOf_cons teDF_45 tabOf_nil)))))))))))))))))

def itL_mk (w : World) (q capL capW : Nat) (L W : List Value) (k : Nat) (s : Unit) : St := ⟨sparse 393 [(0, .o (.a (.p 0 0))), (3, .o (.a (.i .i64 (k : Int))))], [bF [.sl 1 0 q capL, .sl 2 0 q capW, nlA, nlA, nlA, nlA, nlA, nlA, nlA, nlA, nlA, nlA, nlA, nlA, nlA, nlA, nlA, nlA, nlA, nlA, nlA, nlA, nlA, nlA, nlA, nlA, nlA, nlA, nlA, nlA], bF [.vals q L], bF [.vals q W]]⟩

theorem itL_round (w : World) (q capL capW : Nat) (L W : List Value) (h0 : (q < 70368744177664)) (β : Env) (hL : ∀ k, k < q → ∀ (t : Nat) (β : Env), ImpOk ⟨w, [], t, β⟩ (List.getD L k undef) .u8 (lenV (List.getD L k undef)) (capV (List.getD L k undef)) (contV w (List.getD L k undef))) (hW : ∀ k, k < q → ∀ (t : Nat) (β : Env), ImpOk ⟨w, [], t, β⟩ (List.getD W k undef) .u8 (lenV (List.getD W k undef)) (capV (List.getD W k undef)) (contV w (List.getD W k undef))) (heq : ∀ k, k < q → contV w (List.getD L k undef) = contV w (List.getD W k undef)) (hlen : ∀ k, k < q → lenV (List.getD L k undef) = lenV (List.getD W k undef)) (hsm : ∀ k, k < q → lenV (List.getD L k undef) < 70368744177664) (k : Nat) (hk : k < q) (s : Unit) : Run Tryz.prog ⟨w, [], 3, β⟩ (loopB Tryz.f19 0) (itL_mk w q capL capW L W k s) (To ⟨w, [], 3, β⟩ .normal (itL_mk w q capL capW L W (k + 1) (joL_step k s))) := by
 have e0 := wrap_succ (n := k) (by omega)
 have h := Run.of_outTAt (B := ⟨w, [], 3, β⟩) (Λ := noLam) (Ψ := noPsi) (fuel := 0) (ora := [true, false]) (c := (loopB Tryz.f19 0)) (st := (itL_mk w q capL capW L W k s)) (l := [.forget [0, 3] 3]) (s' := ⟨sparse 393 [(0, .o (.a (.p 0 0))), (3, .o (.a (.i .i64 (IntKind.i64.wrap ((k : Int) + 1)))))], [bF [.sl 1 0 q capL, .sl 2 0 q capW, nlA, nlA, nlA, nlA, nlA, nlA, nlA, nlA, nlA, nlA, nlA, nlA, nlA, nlA, nlA, nlA, nlA, nlA, nlA, nlA, nlA, nlA, nlA, nlA, nlA, nlA, nlA, nlA], bF [.vals q L], bF [.vals q W]]⟩) (ex := .normal) mix tabOkDG (gimp_ok (t := 26) (mk := mkS ⟨w, [], 3, β⟩ .u8) (gam902_ok.at _ _) fun v m => mkS_ok v m)
  (vc := (let p0_ : Prop := ((0 ≤ (k : Int)) ∧ ((k : Int) < (q : Int))); [(false = false), ((((0 + (lenV (List.getD L k undef))) ≤ (lenV (List.getD L k undef))) ∧ (((0 + (lenV (List.getD W k undef))) ≤ (lenV (List.getD W k undef))) ∧ True)) ∧ (((lenV (List.getD L k undef)) = (lenV (List.getD L k undef))) ∧ ((lenV (List.getD W k undef)) = (lenV (List.getD W k undef))) ∧ ((lenV (List.getD W k undef)) = (lenV (List.getD L k undef))) ∧ ((sub (contV w (List.getD L k undef)) 0 (lenV (List.getD L k undef))) = (sub (contV w (List.getD W k undef)) 0 (lenV (List.getD W k undef)))) ∧ ((lenV (List.getD L k undef)) < 70368744177664))), ((k < q) ∧ (ImpOk ⟨w, [], 3, β⟩ (List.getD W k undef) .u8 (lenV (List.getD W k undef)) (capV (List.getD W k undef)) (contV w (List.getD W k undef)))), p0_, ((k < q) ∧ (ImpOk ⟨w, [], 3, β⟩ (List.getD L k undef) .u8 (lenV (List.getD L k undef)) (capV (List.getD L k undef)) (contV w (List.getD L k undef)))), p0_, ((decide ((k : Int) < (q : Int))) = true)])) (by kernel_rfl)
  (aC rfl (aC ⟨⟨(by rw [Nat.zero_add]; exact Nat.le_refl _), ⟨(by rw [Nat.zero_add]; exact Nat.le_refl _), trivial⟩⟩, ⟨rfl, rfl, (by rw [hlen k hk]), (by rw [heq k hk, hlen k hk]), (hsm k hk)⟩⟩ (aC ⟨(by first|omega|(simp (disch:=omega) only [wrapI];omega)), ((hW k hk _ _))⟩ (aC ⟨(by first|omega|(simp (disch:=omega) only [wrapI];omega)), (by first|omega|(simp (disch:=omega) only [wrapI];omega))⟩ (aC ⟨(by first|omega|(simp (disch:=omega) only [wrapI];omega)), ((hL k hk _ _))⟩ (aC ⟨(by first|omega|(simp (disch:=omega) only [wrapI];omega)), (by first|omega|(simp (disch:=omega) only [wrapI];omega))⟩ (aC (dt (by first|omega|(simp (disch:=omega) only [wrapI];omega))) (AllP_nil))))))))
 rw [e0] at h
 exact h

theorem itL_last (w : World) (q capL capW : Nat) (L W : List Value) (h0 : (q < 70368744177664)) (β : Env) (hL : ∀ k, k < q → ∀ (t : Nat) (β : Env), ImpOk ⟨w, [], t, β⟩ (List.getD L k undef) .u8 (lenV (List.getD L k undef)) (capV (List.getD L k undef)) (contV w (List.getD L k undef))) (hW : ∀ k, k < q → ∀ (t : Nat) (β : Env), ImpOk ⟨w, [], t, β⟩ (List.getD W k undef) .u8 (lenV (List.getD W k undef)) (capV (List.getD W k undef)) (contV w (List.getD W k undef))) (heq : ∀ k, k < q → contV w (List.getD L k undef) = contV w (List.getD W k undef)) (hlen : ∀ k, k < q → lenV (List.getD L k undef) = lenV (List.getD W k undef)) (hsm : ∀ k, k < q → lenV (List.getD L k undef) < 70368744177664) (s : Unit) : Run Tryz.prog ⟨w, [], 3, β⟩ (loopB Tryz.f19 0) (itL_mk w q capL capW L W q s) (To ⟨w, [], 3, β⟩ (.exit 0) (itL_mk w q capL capW L W q s)) :=
 Run.of_outTAt (Λ := noLam) (Ψ := noPsi) (fuel := 0) (ora := [false]) (l := [.forget [0, 3] 3]) mix tabOkDG (gimp_ok (t := 26) (mk := mkS ⟨w, [], 3, β⟩ .u8) (gam902_ok.at _ _) fun v m => mkS_ok v m)
  (vc := [((decide ((q : Int) < (q : Int))) = false)]) (by kernel_rfl)
  (aC (decide_eq_false (by omega)) (AllP_nil))

theorem itL_loop (w : World) (q capL capW : Nat) (L W : List Value) (h0 : (q < 70368744177664)) (β : Env) (hL : ∀ k, k < q → ∀ (t : Nat) (β : Env), ImpOk ⟨w, [], t, β⟩ (List.getD L k undef) .u8 (lenV (List.getD L k undef)) (capV (List.getD L k undef)) (contV w (List.getD L k undef))) (hW : ∀ k, k < q → ∀ (t : Nat) (β : Env), ImpOk ⟨w, [], t, β⟩ (List.getD W k undef) .u8 (lenV (List.getD W k undef)) (capV (List.getD W k undef)) (contV w (List.getD W k undef))) (heq : ∀ k, k < q → contV w (List.getD L k undef) = contV w (List.getD W k undef)) (hlen : ∀ k, k < q → lenV (List.getD L k undef) = lenV (List.getD W k undef)) (hsm : ∀ k, k < q → lenV (List.getD L k undef) < 70368744177664) (s : Unit) : Run Tryz.prog ⟨w, [], 3, β⟩ (.block 0 (.loop (loopB Tryz.f19 0))) (itL_mk w q capL capW L W 0 s) (To ⟨w, [], 3, β⟩ .normal (itL_mk w q capL capW L W q (iter (joL_step) q s))) :=
 Run.count (fun k => itL_mk w q capL capW L W k (iter (joL_step) k s)) q (fun k hk => itL_round w q capL capW L W h0 β hL hW heq hlen hsm k hk _) (ex := (.exit 0)) (by simp) (itL_last w q capL capW L W h0 β hL hW heq hlen hsm _)

theorem intact_body0 (w : World) (q capL capW : Nat) (L W : List Value) (h0 : (q < 70368744177664)) (β : Env) (hL : ∀ k, k < q → ∀ (t : Nat) (β : Env), ImpOk ⟨w, [], t, β⟩ (List.getD L k undef) .u8 (lenV (List.getD L k undef)) (capV (List.getD L k undef)) (contV w (List.getD L k undef))) (hW : ∀ k, k < q → ∀ (t : Nat) (β : Env), ImpOk ⟨w, [], t, β⟩ (List.getD W k undef) .u8 (lenV (List.getD W k undef)) (capV (List.getD W k undef)) (contV w (List.getD W k undef))) (heq : ∀ k, k < q → contV w (List.getD L k undef) = contV w (List.getD W k undef)) (hlen : ∀ k, k < q → lenV (List.getD L k undef) = lenV (List.getD W k undef)) (hsm : ∀ k, k < q → lenV (List.getD L k undef) < 70368744177664) : Body Tryz.prog (tabOf tabDG) Tryz.f19 ⟨w, [], 3, β⟩ [.o (.a (.p 0 0))] [bF [.sl 1 0 q capL, .sl 2 0 q capW, nlA, nlA, nlA, nlA, nlA, nlA, nlA, nlA, nlA, nlA, nlA, nlA, nlA, nlA, nlA, nlA, nlA, nlA, nlA, nlA, nlA, nlA, nlA, nlA, nlA, nlA, nlA, nlA], bF [.vals q L], bF [.vals q W]] (fun ys _ => ys = [.a (.b true)]) :=
 Body.of_finAt (Γ := (gimp 26 (mkS ⟨w, [], 3, β⟩ .u8) gam902)) (Λ := lamOf [(0, ⟨[.forget [0, 3] 3], .normal, (itL_mk w q capL capW L W q (iter (joL_step) q ()))⟩)]) (Ψ := noPsi) (fuel := 1) (m := 393) (c := (Tryz.f19.body.getD .skip)) mix tabOkDG (gimp_ok (t := 26) (mk := mkS ⟨w, [], 3, β⟩ .u8) (gam902_ok.at _ _) fun v m => mkS_ok v m) rfl (rs := [.tmp 2]) rfl rfl [false, false, false, false, false, false, false, false, false, false, false, false, false, false] []
  (vc := [(false = false), (false = false), (false = false), (false = false), (false = false), (false = false), (false = false), (false = false), (false = false), (false = false), (false = false), (false = false), (false = false), (false = false), (Run Tryz.prog ⟨w, [], 3, β⟩ (.block 0 (.loop (loopB Tryz.f19 0))) (itL_mk w q capL capW L W 0 ()) (To ⟨w, [], 3, β⟩ .normal (itL_mk w q capL capW L W q (iter (joL_step) q ()))))]) (by kernel_rfl)
  (aC rfl (aC rfl (aC rfl (aC rfl (aC rfl (aC rfl (aC rfl (aC rfl (aC rfl (aC rfl (aC rfl (aC rfl (aC rfl (aC rfl (aC (itL_loop w q capL capW L W h0 β hL hW heq hlen hsm ()) (AllP_nil))))))))))))))))

end Go.Proofs.YtjmfnjgcofpocaaGreat.X

/- Steps that lie in a world; families that grow by some at once; both disks go alike. -/
namespace Go.Proofs.YtjmfnjgcofpocaaGreat.X
open Go Go.Proofs
set_option linter.unusedVariables false
set_option maxRecDepth 100000
set_option maxHeartbeats 8000000

structure SwR (w : World) (rw : List Nat) (L : List Value) (n : Nat) : Prop where
 what : ∀ i, i < n → L.getD (i * 3) undef = .int .i64 (intV (L.getD (i * 3) undef))
 num : ∀ i, i < n → L.getD (i * 3 + 1) undef = .int .i64 (intV (L.getD (i * 3 + 1) undef))
 rng : ∀ i, i < n → -9223372036854775808 ≤ intV (L.getD (i * 3 + 1) undef) ∧ intV (L.getD (i * 3 + 1) undef) < 9223372036854775808
 imp : ∀ i, i < n → ∀ (k : Nat) (β : Env), ImpOk ⟨w, rw, k, β⟩ (L.getD (i * 3 + 2) undef) .u8 (lenV (L.getD (i * 3 + 2) undef)) (capV (L.getD (i * 3 + 2) undef)) (contV w (L.getD (i * 3 + 2) undef))
 small : ∀ i, i < n → lenV (L.getD (i * 3 + 2) undef) ≤ 1048576
theorem SwR.len {w : World} {rw : List Nat} {L : List Value} {n : Nat} (h : SwR w rw L n) {i : Nat} (hi : i < n) : (contV w (L.getD (i * 3 + 2) undef)).length = lenV (L.getD (i * 3 + 2) undef) := by
 obtain ⟨_, _, _, hl, _⟩ := h.imp i hi 0 noEnv
 exact hl

section move
variable {w0 w : World} {rw : List Nat} {β : Env} {K K' : Know} {kb : Nat}
theorem imp_move (hR : RelW w0 rw β K w) (hL : Less K K' kb) {v : Value} (h : ∀ (k : Nat) (β1 : Env), ImpOk ⟨w0, rw, k, β1⟩ v .u8 (lenV v) (capV v) (contV w0 v)) (k : Nat) (β1 : Env) : ImpOk ⟨w, ownBlks β K', k, β1⟩ v .u8 (lenV v) (capV v) (contV w v) := by
 rw [contV_move hR.old (h 0 noEnv)]
 obtain ⟨base, hv, hlc, hl, hb⟩ := h 0 noEnv
 refine ⟨base, hv, hlc, hl, fun h0 => ?_⟩
 obtain ⟨b, off, g1, g2, g3, g4⟩ := hb h0
 have g2 : b < w0.heap.size := g2
 refine ⟨b, off, g1, Nat.lt_of_lt_of_le g2 hR.size, hL.old hR g2 g3, fun hl0 => ?_⟩
 obtain ⟨arr, ty, fr, k1, k2⟩ := g4 hl0
 exact ⟨arr, ty, fr, (hR.old b g2 g3).trans k1, k2⟩
theorem SwR.move (hR : RelW w0 rw β K w) (hL : Less K K' kb) {L : List Value} {n : Nat} (h : SwR w0 rw L n) : SwR w (ownBlks β K') L n :=
 ⟨h.what, h.num, h.rng, fun i hi k β1 => imp_move hR hL (h.imp i hi) k β1, h.small⟩

def famX (K : Know) : List Atom → Option (Prop × List (List Int))
 | [] => some (True, [])
 | a :: r => (match famC K a with
  | some (p, l) => (match famX K r with
   | some (q, C) => some (p ∧ q, l :: C)
   | none => none)
  | none => none)
theorem famX_ok (hR : RelW w0 rw β K w) (hL : Less K K' kb) : ∀ {l : List Atom} {p : Prop} {C : List (List Int)} {cs : List Value}, famX K l = some (p, C) → l.all (farC K kb) = true → p → cons β l cs → FamR w (ownBlks β K') cs C
 | [], p, C, cs, h, _, hp, hc => by
  simp only [famX, Option.some.injEq, Prod.mk.injEq] at h; obtain ⟨rfl, rfl⟩ := h
  have hc : cs = [] := hc
  subst hc; exact FamR.nil
 | a :: l, p, C, cs, h, hf, hp, hc => by
  obtain ⟨x, y, rfl, ha, hr⟩ := hc
  rw [List.all_cons, Bool.and_eq_true] at hf
  simp only [famX] at h
  split at h
  ·rename_i p1 l1 h1
   split at h
   ·rename_i q D h2
    simp only [Option.some.injEq, Prod.mk.injEq] at h; obtain ⟨rfl, rfl⟩ := h
    exact (famC_ok hR hL h1 hf.1 hp.1 ha).app (famX_ok hR hL h2 hf.2 hp.2 hr)
   ·simp at h
  ·simp at h
theorem fam_many (hR : RelW w0 rw β K w) (hL : Less K K' kb) {L0 L : List Value} {C : List (List Int)} {k : Nat} (hF : FamR w0 rw L0 C) {xs : List Atom} {p : Prop} {ls : List (List Int)} (hx : famX K xs = some (p, ls)) (hf : xs.all (farC K kb) = true) (hp : p)
  (hc : cons β (.vals k L0 :: xs) L) : FamR w (ownBlks β K') L (C ++ ls) := by
 obtain ⟨u, v, rfl, ⟨_, rfl, _⟩, hv⟩ := hc
 exact (hF.move hR hL).app (famX_ok hR hL hx hf hp hv)
end move

theorem fam_intact0 {w : World} {rw : List Nat} {G W : List Value} {D : List (List Int)} {q : Nat} (hG : FamR w rw G D) (hW : FamR w rw W D) (hn : D.length = q) (hs : ∀ x ∈ D, x.length < 70368744177664) (hq : q < 70368744177664) :
  List.length (contL w G q ++ []) = q ∧ q = q ∧ (PartsI w rw G q ∧ True) ∧ (PartsI w rw W q ∧ True) ∧ contL w G q ++ [] = contL w W q ++ [] ∧ (∀ x ∈ contL w G q ++ [], x.length < 70368744177664) ∧ q < 70368744177664 := by
 rw [List.append_nil, List.append_nil, hG.contLeq hn.symm, hW.contLeq hn.symm]
 exact ⟨hn, rfl, ⟨by rw [← hn]; exact hG.imp, trivial⟩, ⟨by rw [← hn]; exact hW.imp, trivial⟩, rfl, hs, hq⟩
theorem cp_in {c : List Int} {n : Nat} (h : c.length = n) : sub (gvB n (sub c 0 n)) 0 n = c := by
 rw [sub_all c n (by omega)]; exact gvB_take h
def gintact (w0 : World) (rw : List Nat) (rest : Gam) : Gam := gtwo 19 28 w0 rw rest
theorem gintact_ok {rest : Gam} {w0 : World} {rw : List Nat} (hr : GamAt Tryz.prog rest w0 rw) : GamAt Tryz.prog (gintact w0 rw rest) w0 rw := gtwo_ok tabOkDG Tryz.func19 Tryz.call19 hr (by
 intro q capL capW L W w β hq hL hW heq hlen hsm
 exact intact_body0 w q capL capW L W hq β hL hW heq hlen hsm)
structure Alike (fu : Int) (off fsd : Bool) (rf : Int) : Prop where
 lo : -1 ≤ fu
 hi : fu < 9223372036854775808
 on : fsd = decide (0 ≤ fu)
 rlo : -9223372036854775808 ≤ rf
 rhi : rf < 9223372036854775808
 same : 0 ≤ fu → rf = fu
theorem Alike.cases {fu : Int} {off fsd : Bool} {rf : Int} (h : Alike fu off fsd rf) : rkG fsd rf off = decide (dkE fu off = 0) ∧ rkO fsd rf off = dkO fu off ∧ Alike (dkF fu off) (dkO fu off) fsd (rkF fsd rf off) := by
 have hlo := h.lo; have hhi := h.hi; have hon := h.on
 rcases Bool.eq_false_or_eq_true off with ho | ho
 ·subst ho; exact ⟨rfl, rfl, ⟨h.lo, h.hi, h.on, h.rlo, h.rhi, h.same⟩⟩
 ·subst ho
  rcases Int.lt_trichotomy fu 0 with hf | hf | hf
  ·have hs : fsd = false := by rw [hon]; exact decide_eq_false (by omega)
   subst hs
   obtain ⟨a, b, c⟩ := dk_d hf
   obtain ⟨a', b', c'⟩ := rk_d rf
   rw [a, b, c, a', b', c']
   exact ⟨rfl, rfl, ⟨h.lo, h.hi, h.on, h.rlo, h.rhi, h.same⟩⟩
  ·have hs : fsd = true := by rw [hon]; exact decide_eq_true (by omega)
   have hr : rf = 0 := (h.same (by omega)).trans hf
   subst hs; subst hf; subst hr
   obtain ⟨a, b, c⟩ := dk_b
   obtain ⟨a', b', c'⟩ := rk_b
   rw [a, b, c, a', b', c']
   exact ⟨rfl, rfl, ⟨by decide, by decide, rfl, by decide, by decide, fun _ => rfl⟩⟩
  ·have hs : fsd = true := by rw [hon]; exact decide_eq_true (by omega)
   have hr : rf = fu := h.same (by omega)
   subst hs; subst hr
   obtain ⟨a, b, c⟩ := dk_c hf
   obtain ⟨a', b', c'⟩ := rk_c (rf := rf) (by omega)
   rw [a, b, c, a', b', c', wrapI (by omega) (by omega)]
   exact ⟨rfl, rfl, ⟨by omega, by omega, (decide_eq_true (by omega)).symm, by omega, by omega, fun _ => rfl⟩⟩
theorem cond_dec {α : Type} (p : Prop) [Decidable p] (a b : α) : cond (decide p) a b = if p then a else b := by
 by_cases h : p
 ·rw [decide_eq_true h, if_pos h]; rfl
 ·rw [decide_eq_false h, if_neg h]; rfl
section alike
variable {fu : Int} {off fsd : Bool} {rf : Int}
theorem Alike.e (h : Alike fu off fsd rf) : raE fsd rf off = dkE fu off := by
 unfold raE; rw [h.cases.1, cond_dec]
 rcases dkE_two fu off with e | e <;> rw [e] <;> rfl
theorem Alike.aN (h : Alike fu off fsd rf) (n q : Nat) : raN fsd rf off n q = apN fu off n q := by unfold raN apN; rw [h.cases.1, cond_dec]
theorem Alike.aL (h : Alike fu off fsd rf) (l b : List Int) : raL fsd rf off l b = apL fu off l b := by unfold raL apL; rw [h.cases.1, cond_dec]
theorem Alike.sS (h : Alike fu off fsd rf) (s : Int) (n : Nat) : rsS fsd rf off s n = syS fu off s n := by unfold rsS syS; rw [h.cases.1, cond_dec]
theorem Alike.rN (h : Alike fu off fsd rf) (n q : Nat) : rpNR fsd rf off n q = rpN fu off n q := by unfold rpNR rpN; rw [h.cases.1, cond_dec]
theorem Alike.rL (h : Alike fu off fsd rf) (l b : List Int) : rpLR fsd rf off l b = rpL fu off l b := by unfold rpLR rpL; rw [h.cases.1, cond_dec]
theorem Alike.o (h : Alike fu off fsd rf) : rkO fsd rf off = dkO fu off := h.cases.2.1
end alike
theorem crN_cast {s : Int} (x : Int) {n : Nat} (h0 : 0 ≤ s) (h1 : s ≤ (n : Int)) : ((crN s x n : Nat) : Int) = crI s x n ∧ crN s x n ≤ n ∧ 0 ≤ crI s x n := by
 have := crI_rng x h0 h1
 have e : crN s x n = (crI s x n).toNat := rfl
 omega
theorem apN_le (fu : Int) (off : Bool) (n q : Nat) : n ≤ apN fu off n q ∧ apN fu off n q ≤ n + q := by unfold apN; split <;> omega
theorem rpN_le (fu : Int) (off : Bool) {n q : Nat} {s : Int} (h0 : 0 ≤ s) (h1 : s ≤ (n : Int)) : rpN fu off n q ≤ n + q ∧ 0 ≤ syS fu off s q ∧ syS fu off s q ≤ ((rpN fu off n q : Nat) : Int) := by
 unfold rpN syS; split <;> omega
theorem syS_le (fu : Int) (off : Bool) {n : Nat} {s : Int} (h0 : 0 ≤ s) (h1 : s ≤ (n : Int)) : 0 ≤ syS fu off s n ∧ syS fu off s n ≤ (n : Int) := by
 unfold syS; split <;> omega
end Go.Proofs.YtjmfnjgcofpocaaGreat.X

/- Printed by a tool of this session. -/
namespace Go.Proofs.YtjmfnjgcofpocaaGreat.X
open Go Go.Proofs
set_option linter.unusedVariables false
set_option linter.unusedSimpArgs false
set_option maxRecDepth 100000
set_option maxHeartbeats 8000000
set_option maxHeartbeats 8000000
theorem teDH_22 : TEOk Tryz.prog 22 ⟨.slice 48, 1, 24, [.raw (.slice none 0 0)], false⟩ :=
 TEOk.of Tryz.underlying22 (i := Tryz.t22) (by kernel_rfl) rfl rfl rfl (by kernel_rfl) (fun h => by cases h) (by kernel_rfl) (by kernel_rfl)
theorem teDH_48 : TEOk Tryz.prog 48 ⟨Tryz.t47.desc, 3, 40, [.ints .i64 2 ([0, 0] : List Int), .raw (.slice none 0 0)], false⟩ :=
 TEOk.of Tryz.underlying48 (i := Tryz.t48) (by kernel_rfl) rfl rfl rfl (by kernel_rfl) (fun h => by cases h) (by kernel_rfl) (by kernel_rfl)
noncomputable def tabDH : List (Nat × TE) := [(3, ⟨.int .i64, 1, 8, [.i .i64 (0 : Int)], false⟩), (22, ⟨.slice 48, 1, 24, [nlA], false⟩), (26, ⟨.slice 5, 1, 24, [nlA], false⟩), (48, ⟨Tryz.t47.desc, 3, 40, [.ints .i64 2 ([0, 0] : List Int), nlA], false⟩)]
theorem tabOkDH : TabOk Tryz.prog (tabOf tabDH) := (tabOf_cons teDA_3 (tabOf_cons teDH_22 (tabOf_cons teDA_26 (tabOf_cons teDH_48 tabOf_nil))))

noncomputable def gam961 : Gam := gpure 17 (fun args => match args with | [.o (.a (.i .i64 x))] => some (none, [.a (.i .i64 x)]) | _ => none) gam618
theorem gam961_ok : GamOk Tryz.prog gam961 := gpure_ok gam618_ok Tryz.call17 (by
 intro args vc xs h hv
 split at h
 ·simp only [Option.some.injEq, Prod.mk.injEq] at h; obtain ⟨rfl, rfl⟩ := h; exact ⟨_, by rfl, num_pure _⟩
 ·simp at h)

noncomputable def gam962 : Gam := gcall 18 [true, true, true, true] [.w, .w] (fun wk vs args => match wk, vs, args with | [⟨true, [.rs 1 0 n 1, .ints .i64 2 ([s, fu] : List Int), .b off, .b true]⟩, ⟨true, [.ints .u8 n_1 l]⟩, ⟨true, [.rs 3 0 n_2 1, .i .i64 s_1, .b fsd, .i .i64 rf, .b off_1]⟩, ⟨true, [.ints .u8 n_3 l_1]⟩], [], [.o (.a (.p 0 0)), .o (.a (.p 2 0))] => some ((n_1 = n) ∧ (n_2 = n) ∧ (s_1 = s) ∧ (off_1 = off) ∧ (n_3 = n) ∧ (l_1 = l) ∧ (n < 70368744177664), [.a (.b true)], [bT [.rs 1 0 n 1, .ints .i64 2 ([s, fu] : List Int), .b off, .b true], bT [.ints .u8 n l], bT [.rs 3 0 n 1, .i .i64 s, .b fsd, .i .i64 rf, .b off], bT [.ints .u8 n l]]) | _, _, _ => none) gam961
theorem gam962_ok : GamOk Tryz.prog gam962 := gcall_ok tabOkDE Tryz.func18 gam961_ok Tryz.call18 (by
 intro wk vs args p xs K1 h hv
 split at h
 ·simp only [Option.some.injEq, Prod.mk.injEq] at h; obtain ⟨rfl, rfl, rfl⟩ := h; obtain ⟨g0, g1, g2, g3, g4, g5, g6⟩ := hv; subst g0; subst g1; subst g2; subst g3; subst g4; subst g5; exact fun caps w rw β => same_body _ _ _ _ _ _ _ g6 w rw β
 ·simp at h)

noncomputable def gam963 : Gam := gcall 11 [true, true, true] [.w, .s 1] (fun wk vs args => match wk, vs, args with | [⟨true, [.rs 1 0 q 1, .rs 2 0 q_1 1, .raw (.slice none 0 0), .raw (.slice none 0 0), .raw (.slice none 0 0), .raw (.slice none 0 0), .raw (.slice none 0 0), .raw (.slice none 0 0), .raw (.slice none 0 0), .raw (.slice none 0 0), .raw (.slice none 0 0), .raw (.slice none 0 0), .raw (.slice none 0 0), .raw (.slice none 0 0), .raw (.slice none 0 0), .raw (.slice none 0 0), .raw (.slice none 0 0), .raw (.slice none 0 0), .raw (.slice none 0 0), .raw (.slice none 0 0), .raw (.slice none 0 0), .raw (.slice none 0 0), .raw (.slice none 0 0), .raw (.slice none 0 0), .raw (.slice none 0 0), .raw (.slice none 0 0), .raw (.slice none 0 0), .raw (.slice none 0 0), .raw (.slice none 0 0), .raw (.slice none 0 0)]⟩, ⟨true, [.vals k_ L]⟩, ⟨true, [.vals k__1 W]⟩], [⟨_, _, _, [.ints .u8 nm b]⟩], [.o (.a (.p 0 0)), .o (.a (.sl 3 0 n _))] => some ((q_1 = q) ∧ (k__1 = k_) ∧ (nm = n) ∧ (n < 17592186044416) ∧ (q < 2199023255552) ∧ (q = k_), [.a (.sl 6 0 n (gv0 n))], [bT [.rs 4 0 (gv0_1 q) 1, .rs 5 0 (gv0_1 q) 1, nlA, nlA, nlA, nlA, nlA, nlA, nlA, nlA, nlA, nlA, nlA, nlA, nlA, nlA, nlA, nlA, nlA, nlA, nlA, nlA, nlA, nlA, nlA, nlA, nlA, nlA, nlA, nlA], none, none, bF [.ints .u8 nm b], bT [.vals q (sub L 0 q), .sl 6 0 (gv0 n) (gv0 n)], bT [.vals q (sub W 0 q), .rs 7 0 (gv0 n) 1], bT [.ints .u8 (gv0 n) (gvB n b)], bT [.ints .u8 (gv0 n) (gvB n b)]]) | _, _, _ => none) gam962
theorem gam963_ok : GamOk Tryz.prog gam963 := gcall_ok tabOkDF Tryz.func11 gam962_ok Tryz.call11 (by
 intro wk vs args p xs K1 h hv
 split at h
 ·simp only [Option.some.injEq, Prod.mk.injEq] at h; obtain ⟨rfl, rfl, rfl⟩ := h; obtain ⟨g0, g1, g2, g3, g4, g5⟩ := hv; subst g0; subst g1; exact fun caps w rw β => gv0_body _ _ _ _ _ _ _ _ g2 g3 g4 g5 w rw β
 ·simp at h)

noncomputable def gam964 : Gam := gcall 20 [] [] (fun wk vs args => match wk, vs, args with | [], [], [] => some (True, [.a (.b true)], []) | _, _, _ => none) gam963
theorem gam964_ok : GamOk Tryz.prog gam964 := gcall_ok tabOkDD Tryz.func20 gam963_ok Tryz.call20 (by
 intro wk vs args p xs K1 h hv
 split at h
 ·simp only [Option.some.injEq, Prod.mk.injEq] at h; obtain ⟨rfl, rfl, rfl⟩ := h; exact fun caps w rw β => alive_body0 w rw β
 ·simp at h)

noncomputable def diMk (m : Nat) (L : List Value) (cap0 k : Nat) (s : (Nat × List Value × List Value) × (Nat × List Int × Int) × (Int × Bool) × Bool × Int) : St := ⟨sparse 111 [(0, .o (.a (.sl 0 0 m cap0))), (3, .o (.a (.p 4 0))), (4, .o (.a (.p 6 0))), (5, .o (.a (.p 1 0))), (6, .o (.a (.i .i64 (k : Int))))], [bF [.vals (m * 3) L], bT [.rs 2 0 s.1.1 1, .rs 3 0 s.1.1 1, nlA, nlA, nlA, nlA, nlA, nlA, nlA, nlA, nlA, nlA, nlA, nlA, nlA, nlA, nlA, nlA, nlA, nlA, nlA, nlA, nlA, nlA, nlA, nlA, nlA, nlA, nlA, nlA], bT [.vals s.1.1 s.1.2.1], bT [.vals s.1.1 s.1.2.2], bT [.rs 5 0 s.2.1.1 1, .ints .i64 2 ([s.2.1.2.2, s.2.2.1.1] : List Int), .b s.2.2.1.2, .b true], bT [.ints .u8 s.2.1.1 s.2.1.2.1], bT [.rs 7 0 s.2.1.1 1, .i .i64 s.2.1.2.2, .b s.2.2.2.1, .i .i64 s.2.2.2.2, .b s.2.2.1.2], bT [.ints .u8 s.2.1.1 s.2.1.2.1]]⟩

noncomputable def diC : Code := (loopB Tryz.f3 0)

noncomputable def diMd4 (m : Nat) (L : List Value) (cap0 : Nat) (w : World) (k q : Nat) (G W : List Value) (n : Nat) (l : List Int) (s fu : Int) (off fsd : Bool) (rf : Int) : St := ⟨sparse 111 [(0, .o (.a (.sl 0 0 m cap0))), (3, .o (.a (.p 4 0))), (4, .o (.a (.p 6 0))), (5, .o (.a (.p 1 0))), (6, .o (.a (.i .i64 (((k + 1) : Nat) : Int))))], [bF [.vals (m * 3) L], bT [.rs 2 0 q 1, .rs 3 0 q 1, nlA, nlA, nlA, nlA, nlA, nlA, nlA, nlA, nlA, nlA, nlA, nlA, nlA, nlA, nlA, nlA, nlA, nlA, nlA, nlA, nlA, nlA, nlA, nlA, nlA, nlA, nlA, nlA], bT [.vals q G], bT [.vals q W], bT [.rs 5 0 n 1, .ints .i64 2 ([s, (dFus (intV (List.getD L ((k * 3) + 1) undef)))] : List Int), .b off, .b true], bT [.ints .u8 n l], bT [.rs 7 0 n 1, .i .i64 s, .b (rFus (intV (List.getD L ((k * 3) + 1) undef))), .i .i64 (intV (List.getD L ((k * 3) + 1) undef)), .b off], bT [.ints .u8 n l]]⟩

theorem diR4 (w : World) (rw : List Nat) (β0 : Env) (m : Nat) (L : List Value) (cap0 : Nat) (hP : SwR w rw L m) (hm : m < 1099511627776) (k : Nat) (hk : k < m) (q : Nat) (G W : List Value) (n : Nat) (l : List Int) (s fu : Int) (off fsd : Bool) (rf : Int) (hq : q < 1099511627776) (hn : n < 4398046511104) (hs0 : 0 ≤ s) (hs1 : s ≤ (n : Int)) (hA : Alike fu off fsd rf) (a1 : -1 ≤ fu) (a2 : fu < 9223372036854775808) (a3 : -9223372036854775808 ≤ rf) (a4 : rf < 9223372036854775808) (hw : (intV (List.getD L (k * 3) undef)) = 4) : Run Tryz.prog ⟨w, rw, 1, β0⟩ diC (diMk m L cap0 k ((q, G, W), (n, l, s), (fu, off), fsd, rf)) (To ⟨w, rw, 1, β0⟩ .normal (diMd4 m L cap0 w k q G W n l s fu off fsd rf)) :=
 Run.of_outTAt (Λ := noLam) (Ψ := noPsi) (fuel := 0) (ora := [true, true, true, true, true, true, false, false]) (l := [.eqS 6 (.o (.a (.i .i64 (((k + 1) : Nat) : Int)))), .forget [0, 3, 4, 5, 6] 8]) mix tabOkDH (gimp_ok (t := 3) (mk := mkI .i64) (gimp_ok (t := 26) (mk := mkS ⟨w, rw, 1, β0⟩ .u8) (gam964_ok.at _ _) fun v m => mkS_ok v m) fun v m => mkI_ok v m)
  (vc := (let p0_ : Prop := ((True ∧ (True ∧ True)) ∧ (n = n)); let p1_ : Prop := ((((k * 3) + 1) < (m * 3)) ∧ ((List.getD L ((k * 3) + 1) undef) = .int .i64 (intV (List.getD L ((k * 3) + 1) undef)))); let p2_ : Prop := ((0 ≤ (k : Int)) ∧ ((k : Int) < (m : Int))); [((.o (.a (.i .i64 (IntKind.i64.wrap ((k : Int) + 1)))) : AV) = .o (.a (.i .i64 (((k + 1) : Nat) : Int)))), (false = false), (false = false), (false = false), ((True ∧ (True ∧ True)) ∧ ((n = n) ∧ (n = n) ∧ (s = s) ∧ (off = off) ∧ (n = n) ∧ (l = l) ∧ (n < 70368744177664))), (false = false), (false = false), (false = false), p0_, p1_, p2_, p0_, p1_, p2_, (((intV (List.getD L (k * 3) undef)) == (4 : Int)) = true), (((k * 3) < (m * 3)) ∧ ((List.getD L (k * 3) undef) = .int .i64 (intV (List.getD L (k * 3) undef)))), p2_, ((decide ((k : Int) < (m : Int))) = true)])) (by kernel_rfl)
  (aC ((congrArg (fun z => AV.o (.a (.i .i64 z))) (wrap_succ (by omega)))) (aC rfl (aC rfl (aC rfl (aC ⟨⟨trivial, ⟨trivial, trivial⟩⟩, ⟨rfl, rfl, rfl, rfl, rfl, rfl, (by first|omega|(simp (disch:=omega) only [wrapI];omega))⟩⟩ (aC rfl (aC rfl (aC rfl (aC ⟨⟨trivial, ⟨trivial, trivial⟩⟩, rfl⟩ (aC ⟨(by first|omega|(simp (disch:=omega) only [wrapI];omega)), ((hP.num k hk))⟩ (aC ⟨(by first|omega|(simp (disch:=omega) only [wrapI];omega)), (by first|omega|(simp (disch:=omega) only [wrapI];omega))⟩ (aC ⟨⟨trivial, ⟨trivial, trivial⟩⟩, rfl⟩ (aC ⟨(by first|omega|(simp (disch:=omega) only [wrapI];omega)), ((hP.num k hk))⟩ (aC ⟨(by first|omega|(simp (disch:=omega) only [wrapI];omega)), (by first|omega|(simp (disch:=omega) only [wrapI];omega))⟩ (aC (beq_iff_eq.2 hw) (aC ⟨(by first|omega|(simp (disch:=omega) only [wrapI];omega)), ((hP.what k hk))⟩ (aC ⟨(by first|omega|(simp (disch:=omega) only [wrapI];omega)), (by first|omega|(simp (disch:=omega) only [wrapI];omega))⟩ (aC (dt (by first|omega|(simp (disch:=omega) only [wrapI];omega))) (AllP_nil)))))))))))))))))))

noncomputable def diMd5 (m : Nat) (L : List Value) (cap0 : Nat) (w : World) (k q : Nat) (G W : List Value) (n : Nat) (l : List Int) (s fu : Int) (off fsd : Bool) (rf : Int) : St := ⟨sparse 111 [(0, .o (.a (.sl 0 0 m cap0))), (3, .o (.a (.p 4 0))), (4, .o (.a (.p 6 0))), (5, .o (.a (.p 1 0))), (6, .o (.a (.i .i64 (((k + 1) : Nat) : Int))))], [bF [.vals (m * 3) L], bT [.rs 2 0 q 1, .rs 3 0 q 1, nlA, nlA, nlA, nlA, nlA, nlA, nlA, nlA, nlA, nlA, nlA, nlA, nlA, nlA, nlA, nlA, nlA, nlA, nlA, nlA, nlA, nlA, nlA, nlA, nlA, nlA, nlA, nlA], bT [.vals q G], bT [.vals q W], bT [.rs 5 0 (crN s (intV (List.getD L ((k * 3) + 1) undef)) n) 1, .ints .i64 2 ([(crI s (intV (List.getD L ((k * 3) + 1) undef)) n), (-1 : Int)] : List Int), .b false, .b true], bT [.ints .u8 (crN s (intV (List.getD L ((k * 3) + 1) undef)) n) (crL s (intV (List.getD L ((k * 3) + 1) undef)) n l)], bT [.rs 7 0 (crN s (intV (List.getD L ((k * 3) + 1) undef)) n) 1, .i .i64 (crI s (intV (List.getD L ((k * 3) + 1) undef)) n), .b false, .i .i64 rf, .b false], bT [.ints .u8 (crN s (intV (List.getD L ((k * 3) + 1) undef)) n) (crL s (intV (List.getD L ((k * 3) + 1) undef)) n l)]]⟩

theorem diR5 (w : World) (rw : List Nat) (β0 : Env) (m : Nat) (L : List Value) (cap0 : Nat) (hP : SwR w rw L m) (hm : m < 1099511627776) (k : Nat) (hk : k < m) (q : Nat) (G W : List Value) (n : Nat) (l : List Int) (s fu : Int) (off fsd : Bool) (rf : Int) (hq : q < 1099511627776) (hn : n < 4398046511104) (hs0 : 0 ≤ s) (hs1 : s ≤ (n : Int)) (hA : Alike fu off fsd rf) (a1 : -1 ≤ fu) (a2 : fu < 9223372036854775808) (a3 : -9223372036854775808 ≤ rf) (a4 : rf < 9223372036854775808) (hw : (intV (List.getD L (k * 3) undef)) = 5) : Run Tryz.prog ⟨w, rw, 1, β0⟩ diC (diMk m L cap0 k ((q, G, W), (n, l, s), (fu, off), fsd, rf)) (To ⟨w, rw, 1, β0⟩ .normal (diMd5 m L cap0 w k q G W n l s fu off fsd rf)) :=
 Run.of_outTAt (Λ := noLam) (Ψ := noPsi) (fuel := 0) (ora := [true, false, true, true, true, true, true, false, false]) (l := [.eqS 6 (.o (.a (.i .i64 (((k + 1) : Nat) : Int)))), .forget [0, 3, 4, 5, 6] 8]) mix tabOkDH (gimp_ok (t := 3) (mk := mkI .i64) (gimp_ok (t := 26) (mk := mkS ⟨w, rw, 1, β0⟩ .u8) (gam964_ok.at _ _) fun v m => mkS_ok v m) fun v m => mkI_ok v m)
  (vc := (let p0_ : Prop := ((True ∧ (True ∧ True)) ∧ ((n = n) ∧ (n < 70368744177664) ∧ ((0 : Int) ≤ s) ∧ (s ≤ (n : Int)))); let p1_ : Prop := ((((k * 3) + 1) < (m * 3)) ∧ ((List.getD L ((k * 3) + 1) undef) = .int .i64 (intV (List.getD L ((k * 3) + 1) undef)))); let p2_ : Prop := ((0 ≤ (k : Int)) ∧ ((k : Int) < (m : Int))); [((.o (.a (.i .i64 (IntKind.i64.wrap ((k : Int) + 1)))) : AV) = .o (.a (.i .i64 (((k + 1) : Nat) : Int)))), (false = false), (false = false), (false = false), ((True ∧ (True ∧ True)) ∧ (((crN s (intV (List.getD L ((k * 3) + 1) undef)) n) = (crN s (intV (List.getD L ((k * 3) + 1) undef)) n)) ∧ ((crN s (intV (List.getD L ((k * 3) + 1) undef)) n) = (crN s (intV (List.getD L ((k * 3) + 1) undef)) n)) ∧ ((crI s (intV (List.getD L ((k * 3) + 1) undef)) n) = (crI s (intV (List.getD L ((k * 3) + 1) undef)) n)) ∧ (false = false) ∧ ((crN s (intV (List.getD L ((k * 3) + 1) undef)) n) = (crN s (intV (List.getD L ((k * 3) + 1) undef)) n)) ∧ ((crL s (intV (List.getD L ((k * 3) + 1) undef)) n l) = (crL s (intV (List.getD L ((k * 3) + 1) undef)) n l)) ∧ ((crN s (intV (List.getD L ((k * 3) + 1) undef)) n) < 70368744177664))), (false = false), (false = false), (false = false), p0_, p1_, p2_, p0_, p1_, p2_, (((intV (List.getD L (k * 3) undef)) == (5 : Int)) = true), (((intV (List.getD L (k * 3) undef)) == (4 : Int)) = false), (((k * 3) < (m * 3)) ∧ ((List.getD L (k * 3) undef) = .int .i64 (intV (List.getD L (k * 3) undef)))), p2_, ((decide ((k : Int) < (m : Int))) = true)])) (by kernel_rfl)
  (aC ((congrArg (fun z => AV.o (.a (.i .i64 z))) (wrap_succ (by omega)))) (aC rfl (aC rfl (aC rfl (aC ⟨⟨trivial, ⟨trivial, trivial⟩⟩, ⟨rfl, rfl, rfl, rfl, rfl, rfl, (by have := crN_cast (intV (List.getD L ((k * 3) + 1) undef)) hs0 hs1; omega)⟩⟩ (aC rfl (aC rfl (aC rfl (aC ⟨⟨trivial, ⟨trivial, trivial⟩⟩, ⟨rfl, (by first|omega|(simp (disch:=omega) only [wrapI];omega)), (by first|omega|(simp (disch:=omega) only [wrapI];omega)), (by first|omega|(simp (disch:=omega) only [wrapI];omega))⟩⟩ (aC ⟨(by first|omega|(simp (disch:=omega) only [wrapI];omega)), ((hP.num k hk))⟩ (aC ⟨(by first|omega|(simp (disch:=omega) only [wrapI];omega)), (by first|omega|(simp (disch:=omega) only [wrapI];omega))⟩ (aC ⟨⟨trivial, ⟨trivial, trivial⟩⟩, ⟨rfl, (by first|omega|(simp (disch:=omega) only [wrapI];omega)), (by first|omega|(simp (disch:=omega) only [wrapI];omega)), (by first|omega|(simp (disch:=omega) only [wrapI];omega))⟩⟩ (aC ⟨(by first|omega|(simp (disch:=omega) only [wrapI];omega)), ((hP.num k hk))⟩ (aC ⟨(by first|omega|(simp (disch:=omega) only [wrapI];omega)), (by first|omega|(simp (disch:=omega) only [wrapI];omega))⟩ (aC (beq_iff_eq.2 hw) (aC (beq_eq_false_iff_ne.2 (by omega)) (aC ⟨(by first|omega|(simp (disch:=omega) only [wrapI];omega)), ((hP.what k hk))⟩ (aC ⟨(by first|omega|(simp (disch:=omega) only [wrapI];omega)), (by first|omega|(simp (disch:=omega) only [wrapI];omega))⟩ (aC (dt (by first|omega|(simp (disch:=omega) only [wrapI];omega))) (AllP_nil))))))))))))))))))))

noncomputable def diMd6 (m : Nat) (L : List Value) (cap0 : Nat) (w : World) (k q : Nat) (G W : List Value) (n : Nat) (l : List Int) (s fu : Int) (off fsd : Bool) (rf : Int) : St := ⟨sparse 111 [(0, .o (.a (.sl 0 0 m cap0))), (3, .o (.a (.p 4 0))), (4, .o (.a (.p 6 0))), (5, .o (.a (.p 1 0))), (6, .o (.a (.i .i64 (((k + 1) : Nat) : Int))))], [bF [.vals (m * 3) L], bT [.rs 2 0 (gv0_1 q) 1, .rs 3 0 (gv0_1 q) 1, nlA, nlA, nlA, nlA, nlA, nlA, nlA, nlA, nlA, nlA, nlA, nlA, nlA, nlA, nlA, nlA, nlA, nlA, nlA, nlA, nlA, nlA, nlA, nlA, nlA, nlA, nlA, nlA], bT [.vals q (sub G 0 q), .sl 8 0 (gv0 (lenV (List.getD L ((k * 3) + 2) undef))) (gv0 (lenV (List.getD L ((k * 3) + 2) undef)))], bT [.vals q (sub W 0 q), .rs 9 0 (gv0 (lenV (List.getD L ((k * 3) + 2) undef))) 1], bT [.rs 5 0 (apN fu off n (lenV (List.getD L ((k * 3) + 2) undef))) 1, .ints .i64 2 ([s, (dkF fu off)] : List Int), .b (dkO fu off), .b true], bT [.ints .u8 (apN fu off n (lenV (List.getD L ((k * 3) + 2) undef))) (apL fu off l (sub (gvB (lenV (List.getD L ((k * 3) + 2) undef)) (sub (contV w (List.getD L ((k * 3) + 2) undef)) 0 (lenV (List.getD L ((k * 3) + 2) undef)))) 0 (lenV (List.getD L ((k * 3) + 2) undef))))], bT [.rs 7 0 (apN fu off n (lenV (List.getD L ((k * 3) + 2) undef))) 1, .i .i64 s, .b fsd, .i .i64 (rkF fsd rf off), .b (dkO fu off)], bT [.ints .u8 (apN fu off n (lenV (List.getD L ((k * 3) + 2) undef))) (apL fu off l (sub (gvB (lenV (List.getD L ((k * 3) + 2) undef)) (sub (contV w (List.getD L ((k * 3) + 2) undef)) 0 (lenV (List.getD L ((k * 3) + 2) undef)))) 0 (lenV (List.getD L ((k * 3) + 2) undef))))], bT [.ints .u8 (gv0 (lenV (List.getD L ((k * 3) + 2) undef))) (gvB (lenV (List.getD L ((k * 3) + 2) undef)) (sub (contV w (List.getD L ((k * 3) + 2) undef)) 0 (lenV (List.getD L ((k * 3) + 2) undef))))], bT [.ints .u8 (gv0 (lenV (List.getD L ((k * 3) + 2) undef))) (gvB (lenV (List.getD L ((k * 3) + 2) undef)) (sub (contV w (List.getD L ((k * 3) + 2) undef)) 0 (lenV (List.getD L ((k * 3) + 2) undef))))]]⟩

theorem diR6 (w : World) (rw : List Nat) (β0 : Env) (m : Nat) (L : List Value) (cap0 : Nat) (hP : SwR w rw L m) (hm : m < 1099511627776) (k : Nat) (hk : k < m) (q : Nat) (G W : List Value) (n : Nat) (l : List Int) (s fu : Int) (off fsd : Bool) (rf : Int) (hq : q < 1099511627776) (hn : n < 4398046511104) (hs0 : 0 ≤ s) (hs1 : s ≤ (n : Int)) (hA : Alike fu off fsd rf) (a1 : -1 ≤ fu) (a2 : fu < 9223372036854775808) (a3 : -9223372036854775808 ≤ rf) (a4 : rf < 9223372036854775808) (hw : (intV (List.getD L (k * 3) undef)) = 6) : Run Tryz.prog ⟨w, rw, 1, β0⟩ diC (diMk m L cap0 k ((q, G, W), (n, l, s), (fu, off), fsd, rf)) (To ⟨w, rw, 1, β0⟩ .normal (diMd6 m L cap0 w k q G W n l s fu off fsd rf)) :=
 Run.of_outTAt (Λ := noLam) (Ψ := noPsi) (fuel := 0) (ora := [true, false, false, true, true, true, true, true, false, false]) (l := [.eqS 6 (.o (.a (.i .i64 (((k + 1) : Nat) : Int)))), .swap 2 9, .swap 3 10, .swap 5 13, .swap 7 15, .swap 8 11, .swap 9 12, .forget [0, 3, 4, 5, 6] 10]) mix tabOkDH (gimp_ok (t := 3) (mk := mkI .i64) (gimp_ok (t := 26) (mk := mkS ⟨w, rw, 1, β0⟩ .u8) (gam964_ok.at _ _) fun v m => mkS_ok v m) fun v m => mkI_ok v m)
  (vc := (let p0_ : Prop := (((dkE fu off) != (raE fsd rf off)) = false); let p1_ : Prop := ((((k * 3) + 2) < (m * 3)) ∧ (ImpOk ⟨w, rw, 1, β0⟩ (List.getD L ((k * 3) + 2) undef) .u8 (lenV (List.getD L ((k * 3) + 2) undef)) (capV (List.getD L ((k * 3) + 2) undef)) (contV w (List.getD L ((k * 3) + 2) undef)))); let p2_ : Prop := ((0 ≤ (k : Int)) ∧ ((k : Int) < (m : Int))); [((.o (.a (.i .i64 (IntKind.i64.wrap ((k : Int) + 1)))) : AV) = .o (.a (.i .i64 (((k + 1) : Nat) : Int)))), (false = false), p0_, p0_, ((True ∧ (True ∧ True)) ∧ (((apN fu off n (lenV (List.getD L ((k * 3) + 2) undef))) = (apN fu off n (lenV (List.getD L ((k * 3) + 2) undef)))) ∧ ((raN fsd rf off n (lenV (List.getD L ((k * 3) + 2) undef))) = (apN fu off n (lenV (List.getD L ((k * 3) + 2) undef)))) ∧ (s = s) ∧ ((rkO fsd rf off) = (dkO fu off)) ∧ ((raN fsd rf off n (lenV (List.getD L ((k * 3) + 2) undef))) = (apN fu off n (lenV (List.getD L ((k * 3) + 2) undef)))) ∧ ((raL fsd rf off l (sub (contV w (List.getD L ((k * 3) + 2) undef)) 0 (lenV (List.getD L ((k * 3) + 2) undef)))) = (apL fu off l (sub (gvB (lenV (List.getD L ((k * 3) + 2) undef)) (sub (contV w (List.getD L ((k * 3) + 2) undef)) 0 (lenV (List.getD L ((k * 3) + 2) undef)))) 0 (lenV (List.getD L ((k * 3) + 2) undef))))) ∧ ((apN fu off n (lenV (List.getD L ((k * 3) + 2) undef))) < 70368744177664))), p0_, p0_, p0_, ((True ∧ (((0 + (lenV (List.getD L ((k * 3) + 2) undef))) ≤ (lenV (List.getD L ((k * 3) + 2) undef))) ∧ True)) ∧ ((n = n) ∧ ((lenV (List.getD L ((k * 3) + 2) undef)) = (lenV (List.getD L ((k * 3) + 2) undef))) ∧ (rf < (9223372036854775808 : Int)) ∧ ((-9223372036854775808 : Int) ≤ rf) ∧ (n < 70368744177664) ∧ ((lenV (List.getD L ((k * 3) + 2) undef)) < 70368744177664))), p1_, p2_, ((True ∧ (((0 + (lenV (List.getD L ((k * 3) + 2) undef))) ≤ (gv0 (lenV (List.getD L ((k * 3) + 2) undef)))) ∧ True)) ∧ ((n = n) ∧ ((lenV (List.getD L ((k * 3) + 2) undef)) = (lenV (List.getD L ((k * 3) + 2) undef))) ∧ (fu < (9223372036854775808 : Int)) ∧ ((-1 : Int) ≤ fu) ∧ (n < 70368744177664) ∧ ((lenV (List.getD L ((k * 3) + 2) undef)) < 70368744177664))), ((True ∧ (((0 + (lenV (List.getD L ((k * 3) + 2) undef))) ≤ (lenV (List.getD L ((k * 3) + 2) undef))) ∧ True)) ∧ ((q = q) ∧ (q = q) ∧ ((lenV (List.getD L ((k * 3) + 2) undef)) = (lenV (List.getD L ((k * 3) + 2) undef))) ∧ ((lenV (List.getD L ((k * 3) + 2) undef)) < 17592186044416) ∧ (q < 2199023255552) ∧ (q = q))), p1_, p2_, (((intV (List.getD L (k * 3) undef)) == (6 : Int)) = true), (((intV (List.getD L (k * 3) undef)) == (5 : Int)) = false), (((intV (List.getD L (k * 3) undef)) == (4 : Int)) = false), (((k * 3) < (m * 3)) ∧ ((List.getD L (k * 3) undef) = .int .i64 (intV (List.getD L (k * 3) undef)))), p2_, ((decide ((k : Int) < (m : Int))) = true)])) (by kernel_rfl)
  (aC ((congrArg (fun z => AV.o (.a (.i .i64 z))) (wrap_succ (by omega)))) (aC rfl (aC (by first | exact not_bne_self _ | (rw [hA.e]; exact not_bne_self _)) (aC (by first | exact not_bne_self _ | (rw [hA.e]; exact not_bne_self _)) (aC ⟨⟨trivial, ⟨trivial, trivial⟩⟩, ⟨rfl, (hA.aN _ _), rfl, hA.o, (hA.aN _ _), (by rw [hA.aL, cp_in (hP.len hk), sub_all _ _ (Nat.le_of_eq (hP.len hk))]), (by have := apN_le fu off n (lenV (List.getD L ((k * 3) + 2) undef)); have := hP.small k hk; omega)⟩⟩ (aC (by first | exact not_bne_self _ | (rw [hA.e]; exact not_bne_self _)) (aC (by first | exact not_bne_self _ | (rw [hA.e]; exact not_bne_self _)) (aC (by first | exact not_bne_self _ | (rw [hA.e]; exact not_bne_self _)) (aC ⟨⟨trivial, ⟨(by rw [Nat.zero_add]; exact Nat.le_refl _), trivial⟩⟩, ⟨rfl, rfl, (by first|omega|(simp (disch:=omega) only [wrapI];omega)), (by first|omega|(simp (disch:=omega) only [wrapI];omega)), (by first|omega|(simp (disch:=omega) only [wrapI];omega)), (by have := hP.small k hk; omega)⟩⟩ (aC ⟨(by first|omega|(simp (disch:=omega) only [wrapI];omega)), ((hP.imp k hk _ _))⟩ (aC ⟨(by first|omega|(simp (disch:=omega) only [wrapI];omega)), (by first|omega|(simp (disch:=omega) only [wrapI];omega))⟩ (aC ⟨⟨trivial, ⟨(by show 0 + _ ≤ _ + 3; omega), trivial⟩⟩, ⟨rfl, rfl, (by first|omega|(simp (disch:=omega) only [wrapI];omega)), (by first|omega|(simp (disch:=omega) only [wrapI];omega)), (by first|omega|(simp (disch:=omega) only [wrapI];omega)), (by have := hP.small k hk; omega)⟩⟩ (aC ⟨⟨trivial, ⟨(by rw [Nat.zero_add]; exact Nat.le_refl _), trivial⟩⟩, ⟨rfl, rfl, rfl, (by have := hP.small k hk; omega), (by first|omega|(simp (disch:=omega) only [wrapI];omega)), rfl⟩⟩ (aC ⟨(by first|omega|(simp (disch:=omega) only [wrapI];omega)), ((hP.imp k hk _ _))⟩ (aC ⟨(by first|omega|(simp (disch:=omega) only [wrapI];omega)), (by first|omega|(simp (disch:=omega) only [wrapI];omega))⟩ (aC (beq_iff_eq.2 hw) (aC (beq_eq_false_iff_ne.2 (by omega)) (aC (beq_eq_false_iff_ne.2 (by omega)) (aC ⟨(by first|omega|(simp (disch:=omega) only [wrapI];omega)), ((hP.what k hk))⟩ (aC ⟨(by first|omega|(simp (disch:=omega) only [wrapI];omega)), (by first|omega|(simp (disch:=omega) only [wrapI];omega))⟩ (aC (dt (by first|omega|(simp (disch:=omega) only [wrapI];omega))) (AllP_nil))))))))))))))))))))))

noncomputable def diMd7 (m : Nat) (L : List Value) (cap0 : Nat) (w : World) (k q : Nat) (G W : List Value) (n : Nat) (l : List Int) (s fu : Int) (off fsd : Bool) (rf : Int) : St := ⟨sparse 111 [(0, .o (.a (.sl 0 0 m cap0))), (3, .o (.a (.p 4 0))), (4, .o (.a (.p 6 0))), (5, .o (.a (.p 1 0))), (6, .o (.a (.i .i64 (((k + 1) : Nat) : Int))))], [bF [.vals (m * 3) L], bT [.rs 2 0 q 1, .rs 3 0 q 1, nlA, nlA, nlA, nlA, nlA, nlA, nlA, nlA, nlA, nlA, nlA, nlA, nlA, nlA, nlA, nlA, nlA, nlA, nlA, nlA, nlA, nlA, nlA, nlA, nlA, nlA, nlA, nlA], bT [.vals q G], bT [.vals q W], bT [.rs 5 0 n 1, .ints .i64 2 ([(syS fu off s n), (dkF fu off)] : List Int), .b (dkO fu off), .b true], bT [.ints .u8 n l], bT [.rs 7 0 n 1, .i .i64 (syS fu off s n), .b fsd, .i .i64 (rkF fsd rf off), .b (dkO fu off)], bT [.ints .u8 n l]]⟩

theorem diR7 (w : World) (rw : List Nat) (β0 : Env) (m : Nat) (L : List Value) (cap0 : Nat) (hP : SwR w rw L m) (hm : m < 1099511627776) (k : Nat) (hk : k < m) (q : Nat) (G W : List Value) (n : Nat) (l : List Int) (s fu : Int) (off fsd : Bool) (rf : Int) (hq : q < 1099511627776) (hn : n < 4398046511104) (hs0 : 0 ≤ s) (hs1 : s ≤ (n : Int)) (hA : Alike fu off fsd rf) (a1 : -1 ≤ fu) (a2 : fu < 9223372036854775808) (a3 : -9223372036854775808 ≤ rf) (a4 : rf < 9223372036854775808) (hw : (intV (List.getD L (k * 3) undef)) = 7) : Run Tryz.prog ⟨w, rw, 1, β0⟩ diC (diMk m L cap0 k ((q, G, W), (n, l, s), (fu, off), fsd, rf)) (To ⟨w, rw, 1, β0⟩ .normal (diMd7 m L cap0 w k q G W n l s fu off fsd rf)) :=
 Run.of_outTAt (Λ := noLam) (Ψ := noPsi) (fuel := 0) (ora := [true, false, false, false, true, true, true, true, true, false, false]) (l := [.eqS 6 (.o (.a (.i .i64 (((k + 1) : Nat) : Int)))), .forget [0, 3, 4, 5, 6] 8]) mix tabOkDH (gimp_ok (t := 3) (mk := mkI .i64) (gimp_ok (t := 26) (mk := mkS ⟨w, rw, 1, β0⟩ .u8) (gam964_ok.at _ _) fun v m => mkS_ok v m) fun v m => mkI_ok v m)
  (vc := (let p0_ : Prop := (((dkE fu off) != (raE fsd rf off)) = false); [((.o (.a (.i .i64 (IntKind.i64.wrap ((k : Int) + 1)))) : AV) = .o (.a (.i .i64 (((k + 1) : Nat) : Int)))), (false = false), p0_, p0_, ((True ∧ (True ∧ True)) ∧ ((n = n) ∧ (n = n) ∧ ((rsS fsd rf off s n) = (syS fu off s n)) ∧ ((rkO fsd rf off) = (dkO fu off)) ∧ (n = n) ∧ (l = l) ∧ (n < 70368744177664))), p0_, p0_, p0_, ((True ∧ True) ∧ ((n = n) ∧ (rf < (9223372036854775808 : Int)) ∧ ((-9223372036854775808 : Int) ≤ rf))), ((True ∧ True) ∧ ((n = n) ∧ (fu < (9223372036854775808 : Int)) ∧ ((-1 : Int) ≤ fu))), (((intV (List.getD L (k * 3) undef)) == (7 : Int)) = true), (((intV (List.getD L (k * 3) undef)) == (6 : Int)) = false), (((intV (List.getD L (k * 3) undef)) == (5 : Int)) = false), (((intV (List.getD L (k * 3) undef)) == (4 : Int)) = false), (((k * 3) < (m * 3)) ∧ ((List.getD L (k * 3) undef) = .int .i64 (intV (List.getD L (k * 3) undef)))), ((0 ≤ (k : Int)) ∧ ((k : Int) < (m : Int))), ((decide ((k : Int) < (m : Int))) = true)])) (by kernel_rfl)
  (aC ((congrArg (fun z => AV.o (.a (.i .i64 z))) (wrap_succ (by omega)))) (aC rfl (aC (by first | exact not_bne_self _ | (rw [hA.e]; exact not_bne_self _)) (aC (by first | exact not_bne_self _ | (rw [hA.e]; exact not_bne_self _)) (aC ⟨⟨trivial, ⟨trivial, trivial⟩⟩, ⟨rfl, rfl, (hA.sS _ _), hA.o, rfl, rfl, (by first|omega|(simp (disch:=omega) only [wrapI];omega))⟩⟩ (aC (by first | exact not_bne_self _ | (rw [hA.e]; exact not_bne_self _)) (aC (by first | exact not_bne_self _ | (rw [hA.e]; exact not_bne_self _)) (aC (by first | exact not_bne_self _ | (rw [hA.e]; exact not_bne_self _)) (aC ⟨⟨trivial, trivial⟩, ⟨rfl, (by first|omega|(simp (disch:=omega) only [wrapI];omega)), (by first|omega|(simp (disch:=omega) only [wrapI];omega))⟩⟩ (aC ⟨⟨trivial, trivial⟩, ⟨rfl, (by first|omega|(simp (disch:=omega) only [wrapI];omega)), (by first|omega|(simp (disch:=omega) only [wrapI];omega))⟩⟩ (aC (beq_iff_eq.2 hw) (aC (beq_eq_false_iff_ne.2 (by omega)) (aC (beq_eq_false_iff_ne.2 (by omega)) (aC (beq_eq_false_iff_ne.2 (by omega)) (aC ⟨(by first|omega|(simp (disch:=omega) only [wrapI];omega)), ((hP.what k hk))⟩ (aC ⟨(by first|omega|(simp (disch:=omega) only [wrapI];omega)), (by first|omega|(simp (disch:=omega) only [wrapI];omega))⟩ (aC (dt (by first|omega|(simp (disch:=omega) only [wrapI];omega))) (AllP_nil))))))))))))))))))

noncomputable def diMd8 (m : Nat) (L : List Value) (cap0 : Nat) (w : World) (k q : Nat) (G W : List Value) (n : Nat) (l : List Int) (s fu : Int) (off fsd : Bool) (rf : Int) : St := ⟨sparse 111 [(0, .o (.a (.sl 0 0 m cap0))), (3, .o (.a (.p 4 0))), (4, .o (.a (.p 6 0))), (5, .o (.a (.p 1 0))), (6, .o (.a (.i .i64 (((k + 1) : Nat) : Int))))], [bF [.vals (m * 3) L], bT [.rs 2 0 (gv0_1 q) 1, .rs 3 0 (gv0_1 q) 1, nlA, nlA, nlA, nlA, nlA, nlA, nlA, nlA, nlA, nlA, nlA, nlA, nlA, nlA, nlA, nlA, nlA, nlA, nlA, nlA, nlA, nlA, nlA, nlA, nlA, nlA, nlA, nlA], bT [.vals q (sub G 0 q), .sl 8 0 (gv0 (lenV (List.getD L ((k * 3) + 2) undef))) (gv0 (lenV (List.getD L ((k * 3) + 2) undef)))], bT [.vals q (sub W 0 q), .rs 9 0 (gv0 (lenV (List.getD L ((k * 3) + 2) undef))) 1], bT [.rs 5 0 (rpN fu off n (lenV (List.getD L ((k * 3) + 2) undef))) 1, .ints .i64 2 ([(syS fu off s (lenV (List.getD L ((k * 3) + 2) undef))), (dkF fu off)] : List Int), .b (dkO fu off), .b true], bT [.ints .u8 (rpN fu off n (lenV (List.getD L ((k * 3) + 2) undef))) (rpL fu off l (sub (gvB (lenV (List.getD L ((k * 3) + 2) undef)) (sub (contV w (List.getD L ((k * 3) + 2) undef)) 0 (lenV (List.getD L ((k * 3) + 2) undef)))) 0 (lenV (List.getD L ((k * 3) + 2) undef))))], bT [.rs 7 0 (rpN fu off n (lenV (List.getD L ((k * 3) + 2) undef))) 1, .i .i64 (syS fu off s (lenV (List.getD L ((k * 3) + 2) undef))), .b fsd, .i .i64 (rkF fsd rf off), .b (dkO fu off)], bT [.ints .u8 (rpN fu off n (lenV (List.getD L ((k * 3) + 2) undef))) (rpL fu off l (sub (gvB (lenV (List.getD L ((k * 3) + 2) undef)) (sub (contV w (List.getD L ((k * 3) + 2) undef)) 0 (lenV (List.getD L ((k * 3) + 2) undef)))) 0 (lenV (List.getD L ((k * 3) + 2) undef))))], bT [.ints .u8 (gv0 (lenV (List.getD L ((k * 3) + 2) undef))) (gvB (lenV (List.getD L ((k * 3) + 2) undef)) (sub (contV w (List.getD L ((k * 3) + 2) undef)) 0 (lenV (List.getD L ((k * 3) + 2) undef))))], bT [.ints .u8 (gv0 (lenV (List.getD L ((k * 3) + 2) undef))) (gvB (lenV (List.getD L ((k * 3) + 2) undef)) (sub (contV w (List.getD L ((k * 3) + 2) undef)) 0 (lenV (List.getD L ((k * 3) + 2) undef))))]]⟩

theorem diR8 (w : World) (rw : List Nat) (β0 : Env) (m : Nat) (L : List Value) (cap0 : Nat) (hP : SwR w rw L m) (hm : m < 1099511627776) (k : Nat) (hk : k < m) (q : Nat) (G W : List Value) (n : Nat) (l : List Int) (s fu : Int) (off fsd : Bool) (rf : Int) (hq : q < 1099511627776) (hn : n < 4398046511104) (hs0 : 0 ≤ s) (hs1 : s ≤ (n : Int)) (hA : Alike fu off fsd rf) (a1 : -1 ≤ fu) (a2 : fu < 9223372036854775808) (a3 : -9223372036854775808 ≤ rf) (a4 : rf < 9223372036854775808) (hw : (intV (List.getD L (k * 3) undef)) = 8) : Run Tryz.prog ⟨w, rw, 1, β0⟩ diC (diMk m L cap0 k ((q, G, W), (n, l, s), (fu, off), fsd, rf)) (To ⟨w, rw, 1, β0⟩ .normal (diMd8 m L cap0 w k q G W n l s fu off fsd rf)) :=
 Run.of_outTAt (Λ := noLam) (Ψ := noPsi) (fuel := 0) (ora := [true, false, false, false, false, true, true, true, true, true, false, false]) (l := [.eqS 6 (.o (.a (.i .i64 (((k + 1) : Nat) : Int)))), .swap 2 9, .swap 3 10, .swap 5 13, .swap 7 15, .swap 8 11, .swap 9 12, .forget [0, 3, 4, 5, 6] 10]) mix tabOkDH (gimp_ok (t := 3) (mk := mkI .i64) (gimp_ok (t := 26) (mk := mkS ⟨w, rw, 1, β0⟩ .u8) (gam964_ok.at _ _) fun v m => mkS_ok v m) fun v m => mkI_ok v m)
  (vc := (let p0_ : Prop := (((dkE fu off) != (raE fsd rf off)) = false); let p1_ : Prop := ((((k * 3) + 2) < (m * 3)) ∧ (ImpOk ⟨w, rw, 1, β0⟩ (List.getD L ((k * 3) + 2) undef) .u8 (lenV (List.getD L ((k * 3) + 2) undef)) (capV (List.getD L ((k * 3) + 2) undef)) (contV w (List.getD L ((k * 3) + 2) undef)))); let p2_ : Prop := ((0 ≤ (k : Int)) ∧ ((k : Int) < (m : Int))); [((.o (.a (.i .i64 (IntKind.i64.wrap ((k : Int) + 1)))) : AV) = .o (.a (.i .i64 (((k + 1) : Nat) : Int)))), (false = false), p0_, p0_, ((True ∧ (True ∧ True)) ∧ (((rpN fu off n (lenV (List.getD L ((k * 3) + 2) undef))) = (rpN fu off n (lenV (List.getD L ((k * 3) + 2) undef)))) ∧ ((rpNR fsd rf off n (lenV (List.getD L ((k * 3) + 2) undef))) = (rpN fu off n (lenV (List.getD L ((k * 3) + 2) undef)))) ∧ ((rsS fsd rf off s (lenV (List.getD L ((k * 3) + 2) undef))) = (syS fu off s (lenV (List.getD L ((k * 3) + 2) undef)))) ∧ ((rkO fsd rf off) = (dkO fu off)) ∧ ((rpNR fsd rf off n (lenV (List.getD L ((k * 3) + 2) undef))) = (rpN fu off n (lenV (List.getD L ((k * 3) + 2) undef)))) ∧ ((rpLR fsd rf off l (sub (contV w (List.getD L ((k * 3) + 2) undef)) 0 (lenV (List.getD L ((k * 3) + 2) undef)))) = (rpL fu off l (sub (gvB (lenV (List.getD L ((k * 3) + 2) undef)) (sub (contV w (List.getD L ((k * 3) + 2) undef)) 0 (lenV (List.getD L ((k * 3) + 2) undef)))) 0 (lenV (List.getD L ((k * 3) + 2) undef))))) ∧ ((rpN fu off n (lenV (List.getD L ((k * 3) + 2) undef))) < 70368744177664))), p0_, p0_, p0_, ((True ∧ (((0 + (lenV (List.getD L ((k * 3) + 2) undef))) ≤ (lenV (List.getD L ((k * 3) + 2) undef))) ∧ True)) ∧ ((n = n) ∧ ((lenV (List.getD L ((k * 3) + 2) undef)) = (lenV (List.getD L ((k * 3) + 2) undef))) ∧ (rf < (9223372036854775808 : Int)) ∧ ((-9223372036854775808 : Int) ≤ rf) ∧ ((lenV (List.getD L ((k * 3) + 2) undef)) < 70368744177664))), p1_, p2_, ((True ∧ (((0 + (lenV (List.getD L ((k * 3) + 2) undef))) ≤ (gv0 (lenV (List.getD L ((k * 3) + 2) undef)))) ∧ True)) ∧ ((n = n) ∧ ((lenV (List.getD L ((k * 3) + 2) undef)) = (lenV (List.getD L ((k * 3) + 2) undef))) ∧ (fu < (9223372036854775808 : Int)) ∧ ((-1 : Int) ≤ fu) ∧ (n < 70368744177664) ∧ ((lenV (List.getD L ((k * 3) + 2) undef)) < 70368744177664))), ((True ∧ (((0 + (lenV (List.getD L ((k * 3) + 2) undef))) ≤ (lenV (List.getD L ((k * 3) + 2) undef))) ∧ True)) ∧ ((q = q) ∧ (q = q) ∧ ((lenV (List.getD L ((k * 3) + 2) undef)) = (lenV (List.getD L ((k * 3) + 2) undef))) ∧ ((lenV (List.getD L ((k * 3) + 2) undef)) < 17592186044416) ∧ (q < 2199023255552) ∧ (q = q))), p1_, p2_, (((intV (List.getD L (k * 3) undef)) == (8 : Int)) = true), (((intV (List.getD L (k * 3) undef)) == (7 : Int)) = false), (((intV (List.getD L (k * 3) undef)) == (6 : Int)) = false), (((intV (List.getD L (k * 3) undef)) == (5 : Int)) = false), (((intV (List.getD L (k * 3) undef)) == (4 : Int)) = false), (((k * 3) < (m * 3)) ∧ ((List.getD L (k * 3) undef) = .int .i64 (intV (List.getD L (k * 3) undef)))), p2_, ((decide ((k : Int) < (m : Int))) = true)])) (by kernel_rfl)
  (aC ((congrArg (fun z => AV.o (.a (.i .i64 z))) (wrap_succ (by omega)))) (aC rfl (aC (by first | exact not_bne_self _ | (rw [hA.e]; exact not_bne_self _)) (aC (by first | exact not_bne_self _ | (rw [hA.e]; exact not_bne_self _)) (aC ⟨⟨trivial, ⟨trivial, trivial⟩⟩, ⟨rfl, (hA.rN _ _), (hA.sS _ _), hA.o, (hA.rN _ _), (by rw [hA.rL, cp_in (hP.len hk), sub_all _ _ (Nat.le_of_eq (hP.len hk))]), (by have := rpN_le fu off (q := (lenV (List.getD L ((k * 3) + 2) undef))) hs0 hs1; have := hP.small k hk; omega)⟩⟩ (aC (by first | exact not_bne_self _ | (rw [hA.e]; exact not_bne_self _)) (aC (by first | exact not_bne_self _ | (rw [hA.e]; exact not_bne_self _)) (aC (by first | exact not_bne_self _ | (rw [hA.e]; exact not_bne_self _)) (aC ⟨⟨trivial, ⟨(by rw [Nat.zero_add]; exact Nat.le_refl _), trivial⟩⟩, ⟨rfl, rfl, (by first|omega|(simp (disch:=omega) only [wrapI];omega)), (by first|omega|(simp (disch:=omega) only [wrapI];omega)), (by have := hP.small k hk; omega)⟩⟩ (aC ⟨(by first|omega|(simp (disch:=omega) only [wrapI];omega)), ((hP.imp k hk _ _))⟩ (aC ⟨(by first|omega|(simp (disch:=omega) only [wrapI];omega)), (by first|omega|(simp (disch:=omega) only [wrapI];omega))⟩ (aC ⟨⟨trivial, ⟨(by show 0 + _ ≤ _ + 3; omega), trivial⟩⟩, ⟨rfl, rfl, (by first|omega|(simp (disch:=omega) only [wrapI];omega)), (by first|omega|(simp (disch:=omega) only [wrapI];omega)), (by first|omega|(simp (disch:=omega) only [wrapI];omega)), (by have := hP.small k hk; omega)⟩⟩ (aC ⟨⟨trivial, ⟨(by rw [Nat.zero_add]; exact Nat.le_refl _), trivial⟩⟩, ⟨rfl, rfl, rfl, (by have := hP.small k hk; omega), (by first|omega|(simp (disch:=omega) only [wrapI];omega)), rfl⟩⟩ (aC ⟨(by first|omega|(simp (disch:=omega) only [wrapI];omega)), ((hP.imp k hk _ _))⟩ (aC ⟨(by first|omega|(simp (disch:=omega) only [wrapI];omega)), (by first|omega|(simp (disch:=omega) only [wrapI];omega))⟩ (aC (beq_iff_eq.2 hw) (aC (beq_eq_false_iff_ne.2 (by omega)) (aC (beq_eq_false_iff_ne.2 (by omega)) (aC (beq_eq_false_iff_ne.2 (by omega)) (aC (beq_eq_false_iff_ne.2 (by omega)) (aC ⟨(by first|omega|(simp (disch:=omega) only [wrapI];omega)), ((hP.what k hk))⟩ (aC ⟨(by first|omega|(simp (disch:=omega) only [wrapI];omega)), (by first|omega|(simp (disch:=omega) only [wrapI];omega))⟩ (aC (dt (by first|omega|(simp (disch:=omega) only [wrapI];omega))) (AllP_nil))))))))))))))))))))))))

noncomputable def diMd9 (m : Nat) (L : List Value) (cap0 : Nat) (w : World) (k q : Nat) (G W : List Value) (n : Nat) (l : List Int) (s fu : Int) (off fsd : Bool) (rf : Int) : St := ⟨sparse 111 [(0, .o (.a (.sl 0 0 m cap0))), (3, .o (.a (.p 4 0))), (4, .o (.a (.p 6 0))), (5, .o (.a (.p 1 0))), (6, .o (.a (.i .i64 (((k + 1) : Nat) : Int))))], [bF [.vals (m * 3) L], bT [.rs 2 0 q 1, .rs 3 0 q 1, nlA, nlA, nlA, nlA, nlA, nlA, nlA, nlA, nlA, nlA, nlA, nlA, nlA, nlA, nlA, nlA, nlA, nlA, nlA, nlA, nlA, nlA, nlA, nlA, nlA, nlA, nlA, nlA], bT [.vals q G], bT [.vals q W], bT [.rs 5 0 n 1, .ints .i64 2 ([s, fu] : List Int), .b off, .b true], bT [.ints .u8 n l], bT [.rs 7 0 n 1, .i .i64 s, .b fsd, .i .i64 rf, .b off], bT [.ints .u8 n l]]⟩

theorem diR9 (w : World) (rw : List Nat) (β0 : Env) (m : Nat) (L : List Value) (cap0 : Nat) (hP : SwR w rw L m) (hm : m < 1099511627776) (k : Nat) (hk : k < m) (q : Nat) (G W : List Value) (n : Nat) (l : List Int) (s fu : Int) (off fsd : Bool) (rf : Int) (hq : q < 1099511627776) (hn : n < 4398046511104) (hs0 : 0 ≤ s) (hs1 : s ≤ (n : Int)) (hA : Alike fu off fsd rf) (a1 : -1 ≤ fu) (a2 : fu < 9223372036854775808) (a3 : -9223372036854775808 ≤ rf) (a4 : rf < 9223372036854775808) (hw4 : (intV (List.getD L (k * 3) undef)) ≠ 4) (hw5 : (intV (List.getD L (k * 3) undef)) ≠ 5) (hw6 : (intV (List.getD L (k * 3) undef)) ≠ 6) (hw7 : (intV (List.getD L (k * 3) undef)) ≠ 7) (hw8 : (intV (List.getD L (k * 3) undef)) ≠ 8) : Run Tryz.prog ⟨w, rw, 1, β0⟩ diC (diMk m L cap0 k ((q, G, W), (n, l, s), (fu, off), fsd, rf)) (To ⟨w, rw, 1, β0⟩ .normal (diMd9 m L cap0 w k q G W n l s fu off fsd rf)) :=
 Run.of_outTAt (Λ := noLam) (Ψ := noPsi) (fuel := 0) (ora := [true, false, false, false, false, false, true, true, true, true, false, false]) (l := [.eqS 6 (.o (.a (.i .i64 (((k + 1) : Nat) : Int)))), .forget [0, 3, 4, 5, 6] 8]) mix tabOkDH (gimp_ok (t := 3) (mk := mkI .i64) (gimp_ok (t := 26) (mk := mkS ⟨w, rw, 1, β0⟩ .u8) (gam964_ok.at _ _) fun v m => mkS_ok v m) fun v m => mkI_ok v m)
  (vc := [((.o (.a (.i .i64 (IntKind.i64.wrap ((k : Int) + 1)))) : AV) = .o (.a (.i .i64 (((k + 1) : Nat) : Int)))), (false = false), (false = false), (false = false), ((True ∧ (True ∧ True)) ∧ ((n = n) ∧ (n = n) ∧ (s = s) ∧ (off = off) ∧ (n = n) ∧ (l = l) ∧ (n < 70368744177664))), (false = false), (false = false), (false = false), (((intV (List.getD L (k * 3) undef)) == (8 : Int)) = false), (((intV (List.getD L (k * 3) undef)) == (7 : Int)) = false), (((intV (List.getD L (k * 3) undef)) == (6 : Int)) = false), (((intV (List.getD L (k * 3) undef)) == (5 : Int)) = false), (((intV (List.getD L (k * 3) undef)) == (4 : Int)) = false), (((k * 3) < (m * 3)) ∧ ((List.getD L (k * 3) undef) = .int .i64 (intV (List.getD L (k * 3) undef)))), ((0 ≤ (k : Int)) ∧ ((k : Int) < (m : Int))), ((decide ((k : Int) < (m : Int))) = true)]) (by kernel_rfl)
  (aC ((congrArg (fun z => AV.o (.a (.i .i64 z))) (wrap_succ (by omega)))) (aC rfl (aC rfl (aC rfl (aC ⟨⟨trivial, ⟨trivial, trivial⟩⟩, ⟨rfl, rfl, rfl, rfl, rfl, rfl, (by first|omega|(simp (disch:=omega) only [wrapI];omega))⟩⟩ (aC rfl (aC rfl (aC rfl (aC (beq_eq_false_iff_ne.2 (by omega)) (aC (beq_eq_false_iff_ne.2 (by omega)) (aC (beq_eq_false_iff_ne.2 (by omega)) (aC (beq_eq_false_iff_ne.2 (by omega)) (aC (beq_eq_false_iff_ne.2 (by omega)) (aC ⟨(by first|omega|(simp (disch:=omega) only [wrapI];omega)), ((hP.what k hk))⟩ (aC ⟨(by first|omega|(simp (disch:=omega) only [wrapI];omega)), (by first|omega|(simp (disch:=omega) only [wrapI];omega))⟩ (aC (dt (by first|omega|(simp (disch:=omega) only [wrapI];omega))) (AllP_nil)))))))))))))))))

theorem diLast (w : World) (rw : List Nat) (β0 : Env) (m : Nat) (L : List Value) (cap0 q : Nat) (G W : List Value) (n : Nat) (l : List Int) (s fu : Int) (off fsd : Bool) (rf : Int) : Run Tryz.prog ⟨w, rw, 1, β0⟩ diC (diMk m L cap0 m ((q, G, W), (n, l, s), (fu, off), fsd, rf)) (To ⟨w, rw, 1, β0⟩ (.exit 0) (diMk m L cap0 m ((q, G, W), (n, l, s), (fu, off), fsd, rf))) :=
 Run.of_outTAt (Λ := noLam) (Ψ := noPsi) (fuel := 0) (ora := [false]) (l := [.forget [0, 3, 4, 5, 6] 8]) mix tabOkDH (gimp_ok (t := 3) (mk := mkI .i64) (gimp_ok (t := 26) (mk := mkS ⟨w, rw, 1, β0⟩ .u8) (gam964_ok.at _ _) fun v m => mkS_ok v m) fun v m => mkI_ok v m)
  (vc := [((decide ((m : Int) < (m : Int))) = false)]) (by kernel_rfl)
  (aC (decide_eq_false (by first | omega | (simp (disch := omega) only [wrapI]; omega))) (AllP_nil))

end Go.Proofs.YtjmfnjgcofpocaaGreat.X

/- Printed by a tool of this session. -/
namespace Go.Proofs.YtjmfnjgcofpocaaGreat.X
open Go Go.Proofs
set_option linter.unusedVariables false
set_option linter.unusedSimpArgs false
set_option maxRecDepth 100000
set_option maxHeartbeats 8000000
noncomputable def tabDI : List (Nat × TE) := [(3, ⟨.int .i64, 1, 8, [.i .i64 0], false⟩), (4, ⟨.bool, 1, 1, [.b false], false⟩), (23, ⟨.pointer 86, 1, 8, [.raw (.pointer none)], false⟩), (26, ⟨.slice 5, 1, 24, [nlA], false⟩), (28, ⟨Tryz.t27.desc, 5, 56, [nlA, .i .i64 0, .b false, .i .i64 0, .b false], false⟩), (45, ⟨Tryz.t44.desc, 30, 720, [nlA, nlA, nlA, nlA, nlA, nlA, nlA, nlA, nlA, nlA, nlA, nlA, nlA, nlA, nlA, nlA, nlA, nlA, nlA, nlA, nlA, nlA, nlA, nlA, nlA, nlA, nlA, nlA, nlA, nlA], false⟩)]
theorem tabOkDI : TabOk Tryz.prog (tabOf tabDI) := (tabOf_cons teDA_3 (tabOf_cons teDA_4 (tabOf_cons teDA_23 (tabOf_cons teDA_26 (tabOf_cons teDA_28 (tabOf_cons teDF_45 tabOf_nil))))))

noncomputable def diB : Code := Tryz.f3.body.getD .skip

noncomputable def diS0 (m : Nat) (L : List Value) (cap0 : Nat) : St := ⟨sparse 111 [(0, .o (.a (.sl 0 0 m cap0)))], [some ⟨false, [.vals (m * 3) L]⟩]⟩

noncomputable def diS1 (m : Nat) (L : List Value) (cap0 : Nat) : St := ⟨sparse 111 [(0, .o (.a (.sl 0 0 m cap0))), (2, .o (.a (.b false)))], [some ⟨false, [.vals (m * 3) L]⟩]⟩

theorem diP0 (w : World) (β : Env) (m : Nat) (L : List Value) (cap0 : Nat) : Run Tryz.prog ⟨w, [], 1, β⟩ (fstC diB) (diS0 m L cap0) (To ⟨w, [], 1, β⟩ .normal (diS1 m L cap0)) :=
 Run.of_outT (Λ := noLam) (Ψ := noPsi) (fuel := 0) (ora := []) (l := [.forget [0, 2] 1]) mix tabOkDI gam964_ok
  (vc := []) (by kernel_rfl)
  (AllP_nil)

noncomputable def diS2 (m : Nat) (L : List Value) (cap0 : Nat) : St := ⟨sparse 111 [(0, .o (.a (.sl 0 0 m cap0))), (2, .o (.a (.b false))), (3, .o (.a (.p 1 0))), (9, .o (.a (.p 1 0)))], [bF [.vals (m * 3) L], bT [.rs 2 0 0 1, .ints .i64 2 ([0, (-1 : Int)] : List Int), .b false, .b true], bT [.ints .u8 0 ([] : List Int)]]⟩

theorem diP1 (w : World) (β : Env) (m : Nat) (L : List Value) (cap0 : Nat) : Run Tryz.prog ⟨w, [], 1, β⟩ (fstC (sndC diB)) (diS1 m L cap0) (To ⟨w, [], 1, β⟩ .normal (diS2 m L cap0)) :=
 Run.of_outT (Λ := noLam) (Ψ := noPsi) (fuel := 0) (ora := []) (l := [.forget [0, 2, 3, 9] 3]) mix tabOkDI gam964_ok
  (vc := [(True ∧ True)]) (by kernel_rfl)
  (aC ⟨trivial, trivial⟩ (AllP_nil))

noncomputable def diS3 (m : Nat) (L : List Value) (cap0 : Nat) : St := ⟨sparse 111 [(0, .o (.a (.sl 0 0 m cap0))), (2, .o (.a (.b false))), (3, .o (.a (.p 1 0))), (9, .o (.a (.p 1 0))), (10, .o (.a (.p 1 0))), (11, .o (.a (.b false)))], [bF [.vals (m * 3) L], bT [.rs 2 0 0 1, .ints .i64 2 ([0, (-1 : Int)] : List Int), .b false, .b true], bT [.ints .u8 0 ([] : List Int)]]⟩

theorem diP2 (w : World) (β : Env) (m : Nat) (L : List Value) (cap0 : Nat) : Run Tryz.prog ⟨w, [], 1, β⟩ (fstC (sndC (sndC diB))) (diS2 m L cap0) (To ⟨w, [], 1, β⟩ .normal (diS3 m L cap0)) :=
 Run.of_outT (Λ := noLam) (Ψ := noPsi) (fuel := 0) (ora := [false]) (l := [.forget [0, 2, 3, 9, 10, 11] 3]) mix tabOkDI gam964_ok
  (vc := [(false = false)]) (by kernel_rfl)
  (aC rfl (AllP_nil))

noncomputable def diS4 (m : Nat) (L : List Value) (cap0 : Nat) : St := ⟨sparse 111 [(0, .o (.a (.sl 0 0 m cap0))), (2, .o (.a (.b false))), (3, .o (.a (.p 1 0))), (4, .o (.a (.p 3 0))), (9, .o (.a (.p 1 0))), (10, .o (.a (.p 1 0))), (11, .o (.a (.b false))), (12, .o (.g [nlA, .i .i64 0, .b false, .i .i64 0, .b false])), (13, .o (.a (.p 3 0)))], [bF [.vals (m * 3) L], bT [.rs 2 0 0 1, .ints .i64 2 ([0, (-1 : Int)] : List Int), .b false, .b true], bT [.ints .u8 0 ([] : List Int)], bT [.rs 4 0 0 1, .i .i64 0, .b false, .i .i64 0, .b false], bT [.ints .u8 0 ([] : List Int)]]⟩

theorem diP3 (w : World) (β : Env) (m : Nat) (L : List Value) (cap0 : Nat) : Run Tryz.prog ⟨w, [], 1, β⟩ (fstC (sndC (sndC (sndC diB)))) (diS3 m L cap0) (To ⟨w, [], 1, β⟩ .normal (diS4 m L cap0)) :=
 Run.of_outT (Λ := noLam) (Ψ := noPsi) (fuel := 0) (ora := []) (l := [.rowB 3 0 .u8 1, .forget [0, 2, 3, 4, 9, 10, 11, 12, 13] 5]) mix tabOkDI gam964_ok
  (vc := []) (by kernel_rfl)
  (AllP_nil)

noncomputable def diS5 (m : Nat) (L : List Value) (cap0 : Nat) : St := ⟨sparse 111 [(0, .o (.a (.sl 0 0 m cap0))), (2, .o (.a (.b false))), (3, .o (.a (.p 1 0))), (4, .o (.a (.p 3 0))), (5, .o (.a (.p 5 0))), (9, .o (.a (.p 1 0))), (10, .o (.a (.p 1 0))), (11, .o (.a (.b false))), (12, .o (.g [nlA, .i .i64 0, .b false, .i .i64 0, .b false])), (13, .o (.a (.p 3 0)))], [bF [.vals (m * 3) L], bT [.rs 2 0 0 1, .ints .i64 2 ([0, (-1 : Int)] : List Int), .b false, .b true], bT [.ints .u8 0 ([] : List Int)], bT [.rs 4 0 0 1, .i .i64 0, .b false, .i .i64 0, .b false], bT [.ints .u8 0 ([] : List Int)], bT [.rs 6 0 0 1, .rs 7 0 0 1, nlA, nlA, nlA, nlA, nlA, nlA, nlA, nlA, nlA, nlA, nlA, nlA, nlA, nlA, nlA, nlA, nlA, nlA, nlA, nlA, nlA, nlA, nlA, nlA, nlA, nlA, nlA, nlA], bT [.ints .u8 0 ([] : List Int)], bT [.ints .u8 0 ([] : List Int)]]⟩

theorem diP4 (w : World) (β : Env) (m : Nat) (L : List Value) (cap0 : Nat) : Run Tryz.prog ⟨w, [], 1, β⟩ (fstC (sndC (sndC (sndC (sndC diB))))) (diS4 m L cap0) (To ⟨w, [], 1, β⟩ .normal (diS5 m L cap0)) :=
 Run.of_outT (Λ := noLam) (Ψ := noPsi) (fuel := 0) (ora := []) (l := [.rowB 5 0 .u8 1, .rowB 5 1 .u8 1, .forget [0, 2, 3, 4, 5, 9, 10, 11, 12, 13] 8]) mix tabOkDI gam964_ok
  (vc := []) (by kernel_rfl)
  (AllP_nil)

noncomputable def diS6 (m : Nat) (L : List Value) (cap0 : Nat) : St := ⟨sparse 111 [(0, .o (.a (.sl 0 0 m cap0))), (2, .o (.a (.b false))), (3, .o (.a (.p 4 0))), (4, .o (.a (.p 6 0))), (5, .o (.a (.p 1 0))), (6, .o (.a (.i .i64 0))), (9, .o (.a (.p 4 0))), (10, .o (.a (.p 4 0))), (11, .o (.a (.b false))), (12, .o (.g [nlA, .i .i64 0, .b false, .i .i64 0, .b false])), (13, .o (.a (.p 6 0)))], [bF [.vals (m * 3) L], bT [.rs 2 0 0 1, .rs 3 0 0 1, nlA, nlA, nlA, nlA, nlA, nlA, nlA, nlA, nlA, nlA, nlA, nlA, nlA, nlA, nlA, nlA, nlA, nlA, nlA, nlA, nlA, nlA, nlA, nlA, nlA, nlA, nlA, nlA], bT [.ints .u8 0 ([] : List Int)], bT [.ints .u8 0 ([] : List Int)], bT [.rs 5 0 0 1, .ints .i64 2 ([0, (-1 : Int)] : List Int), .b false, .b true], bT [.ints .u8 0 ([] : List Int)], bT [.rs 7 0 0 1, .i .i64 0, .b false, .i .i64 0, .b false], bT [.ints .u8 0 ([] : List Int)]]⟩

theorem diP5 (w : World) (β : Env) (m : Nat) (L : List Value) (cap0 : Nat) : Run Tryz.prog ⟨w, [], 1, β⟩ (fstC (fstC (sndC (sndC (sndC (sndC (sndC diB))))))) (diS5 m L cap0) (To ⟨w, [], 1, β⟩ .normal (diS6 m L cap0)) :=
 Run.of_outT (Λ := noLam) (Ψ := noPsi) (fuel := 0) (ora := []) (l := [.swap 1 5, .swap 2 6, .swap 3 7, .swap 4 5, .swap 5 6, .swap 6 7, .forget [0, 2, 3, 4, 5, 6, 9, 10, 11, 12, 13] 8]) mix tabOkDI gam964_ok
  (vc := []) (by kernel_rfl)
  (AllP_nil)

noncomputable def diRest : Code := (sndC (sndC (sndC (sndC (sndC (sndC diB))))))

theorem diRun (w : World) (rw : List Nat) (β0 : Env) (m : Nat) (L : List Value) (cap0 q : Nat) (G W : List Value) (n : Nat) (l : List Int) (s fu : Int) (off fsd : Bool) (rf : Int) (D : List (List Int)) (hG : FamR w rw G D) (hW : FamR w rw W D) (hD : D.length = q) (hDs : ∀ x ∈ D, x.length < 70368744177664) (hq : q < 35184372088832) : Run Tryz.prog ⟨w, rw, 1, β0⟩ diRest (diMk m L cap0 m ((q, G, W), (n, l, s), (fu, off), fsd, rf)) (finP (tabOf tabDI) Tryz.f3 fun ys _ => ys = [.a (.b true)]) :=
 Run.of_finAt (Λ := noLam) (Ψ := noPsi) (fuel := 0) mix tabOkDI (gintact_ok (gam964_ok.at _ _)) (rs := [.tmp 2]) rfl [true, true] []
  (vc := [cT, (True ∧ True), cT, (List.length (contL w G q ++ []) = q ∧ q = q ∧ (PartsI w rw G q ∧ True) ∧ (PartsI w rw W q ∧ True) ∧ (contL w G q ++ []) = (contL w W q ++ []) ∧ (∀ l ∈ (contL w G q ++ []), l.length < 70368744177664) ∧ q < 70368744177664)]) (by kernel_rfl)
  (aC rfl (aC ⟨trivial, trivial⟩ (aC rfl (aC ((fam_intact0 hG hW hD hDs (by omega))) (AllP_nil)))))

end Go.Proofs.YtjmfnjgcofpocaaGreat.X

/- The law StoreDisks: its loop makes a family of copies; the disks go alike; the whole. -/
namespace Go.Proofs.YtjmfnjgcofpocaaGreat.X
open Go Go.Proofs
set_option linter.unusedVariables false
set_option maxRecDepth 100000
set_option maxHeartbeats 8000000
set_option maxHeartbeats 4000000

abbrev DSt := (Nat × List Value × List Value) × (Nat × List Int × Int) × (Int × Bool) × Bool × Int
def FInv (w : World) (rw : List Nat) (k q : Nat) (G W : List Value) : Prop :=
 ∃ D, FamR w rw G D ∧ FamR w rw W D ∧ D.length = q ∧ q ≤ k ∧ ∀ x ∈ D, x.length < 70368744177664
def NInv (k n : Nat) (s fu : Int) (off fsd : Bool) (rf : Int) : Prop := n ≤ k * 1048576 ∧ 0 ≤ s ∧ s ≤ (n : Int) ∧ Alike fu off fsd rf
def DInv (L : List Value) (m : Nat) (w : World) (rw : List Nat) (k : Nat) (s : DSt) : Prop :=
 SwR w rw L m ∧ FInv w rw k s.1.1 s.1.2.1 s.1.2.2 ∧ NInv k s.2.1.1 s.2.1.2.2 s.2.2.1.1 s.2.2.1.2 s.2.2.2.1 s.2.2.2.2

section conv
variable {m : Nat} {L : List Value} {cap0 : Nat} {w : World} {rw : List Nat} {β0 : Env} {k : Nat} {q : Nat} {G W : List Value} {n : Nat} {l : List Int} {s fu : Int} {off fsd : Bool} {rf : Int}

theorem di_conv0 {md : St} {n' : Nat} {l' : List Int} {s' fu' : Int} {off' fsd' : Bool} {rf' : Int} (he : md = diMk m L cap0 (k + 1) ((q, G, W), (n', l', s'), (fu', off'), fsd', rf')) (hn : NInv (k + 1) n' s' fu' off' fsd' rf') (hi : DInv L m w rw k ((q, G, W), (n, l, s), (fu, off), fsd, rf)) {β : Env} {a' : Act} {w' : World} (hR : Rel ⟨w, rw, 1, β0⟩ β md a' w') :
  ∃ β' s', Rel ⟨w, rw, 1, β0⟩ β' (diMk m L cap0 (k + 1) s') a' w' ∧ DInv L m w' (ownBlks β' (diMk m L cap0 (k + 1) s').K) (k + 1) s' := by
 subst he
 have hL : Less (diMk m L cap0 (k + 1) ((q, G, W), (n', l', s'), (fu', off'), fsd', rf')).K (diMk m L cap0 (k + 1) ((q, G, W), (n', l', s'), (fu', off'), fsd', rf')).K 8 := Less.of (by rfl)
 obtain ⟨h1, ⟨D, h2, h3, h4, h5, h6⟩, _⟩ := hi
 have h5 : q ≤ k := h5
 exact ⟨β, ((q, G, W), (n', l', s'), (fu', off'), fsd', rf'), hR, h1.move hR.relw hL, ⟨D, h2.move hR.relw hL, h3.move hR.relw hL, h4, by show q ≤ k + 1; omega, h6⟩, hn⟩

theorem di_conv6 (hn : NInv (k + 1) (apN fu off n (lenV (L.getD (k * 3 + 2) undef))) s (dkF fu off) (dkO fu off) fsd (rkF fsd rf off)) (hi : DInv L m w rw k ((q, G, W), (n, l, s), (fu, off), fsd, rf)) (hk : k < m) {β : Env} {a' : Act} {w' : World} (hR : Rel ⟨w, rw, 1, β0⟩ β (diMd6 m L cap0 w k q G W n l s fu off fsd rf) a' w') :
  ∃ β' s', Rel ⟨w, rw, 1, β0⟩ β' (diMk m L cap0 (k + 1) s') a' w' ∧ DInv L m w' (ownBlks β' (diMk m L cap0 (k + 1) s').K) (k + 1) s' := by
 obtain ⟨h1, ⟨D, h2, h3, h4, h5, h6⟩, _⟩ := hi
 have h5 : q ≤ k := h5
 have h4 : D.length = q := h4
 have eG : sub G 0 q = G := sub_len_all G (by rw [← h4]; exact h2.len)
 have eW : sub W 0 q = W := sub_len_all W (by rw [← h4]; exact h3.len)
 obtain ⟨G', hG', g1⟩ := Rel.valued (slots := (diMd6 m L cap0 w k q G W n l s fu off fsd rf).slots) (K := (diMd6 m L cap0 w k q G W n l s fu off fsd rf).K) hR (j := 2) (by rfl) (n := q + 1) (by rfl)
 obtain ⟨W', hW', g2⟩ := g1.valued (j := 3) (by rfl) (n := q + 1) (by rfl)
 have g3 := g2.forgot [0, 3, 4, 5, 6] 8 (by show 1 ≤ 8; decide)
 refine ⟨β, ((q + 1, G', W'), (apN fu off n (lenV (L.getD (k * 3 + 2) undef)), apL fu off l (sub (gvB (lenV (L.getD (k * 3 + 2) undef)) (sub (contV w (L.getD (k * 3 + 2) undef)) 0 (lenV (L.getD (k * 3 + 2) undef)))) 0 (lenV (L.getD (k * 3 + 2) undef))), s), (dkF fu off, dkO fu off), fsd, rkF fsd rf off), g3.cast (by rfl), ?_⟩
 have hrw := hR.relw
 have hs := h1.small k hk
 refine ⟨h1.move hrw (kb := 8) (Less.of (K' := (diMk m L cap0 (k + 1) ((q + 1, G', W'), (apN fu off n (lenV (L.getD (k * 3 + 2) undef)), apL fu off l (sub (gvB (lenV (L.getD (k * 3 + 2) undef)) (sub (contV w (L.getD (k * 3 + 2) undef)) 0 (lenV (L.getD (k * 3 + 2) undef)))) 0 (lenV (L.getD (k * 3 + 2) undef))), s), (dkF fu off, dkO fu off), fsd, rkF fsd rf off)).K) (by rfl)), ?_, hn⟩
 have a1 := fam_many hrw (kb := 8) (K' := (diMk m L cap0 (k + 1) ((q + 1, G', W'), (apN fu off n (lenV (L.getD (k * 3 + 2) undef)), apL fu off l (sub (gvB (lenV (L.getD (k * 3 + 2) undef)) (sub (contV w (L.getD (k * 3 + 2) undef)) 0 (lenV (L.getD (k * 3 + 2) undef)))) 0 (lenV (L.getD (k * 3 + 2) undef))), s), (dkF fu off, dkO fu off), fsd, rkF fsd rf off)).K) (Less.of (by rfl)) (L0 := sub G 0 q) (C := D) (by rw [eG]; exact h2) (xs := [_]) (p := (0 + gv0 (lenV (L.getD (k * 3 + 2) undef)) ≤ gv0 (lenV (L.getD (k * 3 + 2) undef))) ∧ True) (by rfl) (by rfl) ⟨by omega, trivial⟩ hG'
 have a2 := fam_many hrw (kb := 8) (K' := (diMk m L cap0 (k + 1) ((q + 1, G', W'), (apN fu off n (lenV (L.getD (k * 3 + 2) undef)), apL fu off l (sub (gvB (lenV (L.getD (k * 3 + 2) undef)) (sub (contV w (L.getD (k * 3 + 2) undef)) 0 (lenV (L.getD (k * 3 + 2) undef)))) 0 (lenV (L.getD (k * 3 + 2) undef))), s), (dkF fu off, dkO fu off), fsd, rkF fsd rf off)).K) (Less.of (by rfl)) (L0 := sub W 0 q) (C := D) (by rw [eW]; exact h3) (xs := [_]) (p := (0 + gv0 (lenV (L.getD (k * 3 + 2) undef)) ≤ gv0 (lenV (L.getD (k * 3 + 2) undef))) ∧ True) (by rfl) (by rfl) ⟨by omega, trivial⟩ hW'
 refine ⟨_, a1, a2, by rw [List.length_append, h4]; rfl, by show q + 1 ≤ k + 1; omega, fun x hx => ?_⟩
 rcases List.mem_append.1 hx with h | h
 ·exact h6 x h
 ·rw [List.mem_singleton.1 h]
  exact sub_lt (by show lenV _ + 3 < _; omega)

theorem di_conv8 (hn : NInv (k + 1) (rpN fu off n (lenV (L.getD (k * 3 + 2) undef))) (syS fu off s (lenV (L.getD (k * 3 + 2) undef))) (dkF fu off) (dkO fu off) fsd (rkF fsd rf off)) (hi : DInv L m w rw k ((q, G, W), (n, l, s), (fu, off), fsd, rf)) (hk : k < m) {β : Env} {a' : Act} {w' : World} (hR : Rel ⟨w, rw, 1, β0⟩ β (diMd8 m L cap0 w k q G W n l s fu off fsd rf) a' w') :
  ∃ β' s', Rel ⟨w, rw, 1, β0⟩ β' (diMk m L cap0 (k + 1) s') a' w' ∧ DInv L m w' (ownBlks β' (diMk m L cap0 (k + 1) s').K) (k + 1) s' := by
 obtain ⟨h1, ⟨D, h2, h3, h4, h5, h6⟩, _⟩ := hi
 have h5 : q ≤ k := h5
 have h4 : D.length = q := h4
 have eG : sub G 0 q = G := sub_len_all G (by rw [← h4]; exact h2.len)
 have eW : sub W 0 q = W := sub_len_all W (by rw [← h4]; exact h3.len)
 obtain ⟨G', hG', g1⟩ := Rel.valued (slots := (diMd8 m L cap0 w k q G W n l s fu off fsd rf).slots) (K := (diMd8 m L cap0 w k q G W n l s fu off fsd rf).K) hR (j := 2) (by rfl) (n := q + 1) (by rfl)
 obtain ⟨W', hW', g2⟩ := g1.valued (j := 3) (by rfl) (n := q + 1) (by rfl)
 have g3 := g2.forgot [0, 3, 4, 5, 6] 8 (by show 1 ≤ 8; decide)
 refine ⟨β, ((q + 1, G', W'), (rpN fu off n (lenV (L.getD (k * 3 + 2) undef)), rpL fu off l (sub (gvB (lenV (L.getD (k * 3 + 2) undef)) (sub (contV w (L.getD (k * 3 + 2) undef)) 0 (lenV (L.getD (k * 3 + 2) undef)))) 0 (lenV (L.getD (k * 3 + 2) undef))), syS fu off s (lenV (L.getD (k * 3 + 2) undef))), (dkF fu off, dkO fu off), fsd, rkF fsd rf off), g3.cast (by rfl), ?_⟩
 have hrw := hR.relw
 have hs := h1.small k hk
 refine ⟨h1.move hrw (kb := 8) (Less.of (K' := (diMk m L cap0 (k + 1) ((q + 1, G', W'), (rpN fu off n (lenV (L.getD (k * 3 + 2) undef)), rpL fu off l (sub (gvB (lenV (L.getD (k * 3 + 2) undef)) (sub (contV w (L.getD (k * 3 + 2) undef)) 0 (lenV (L.getD (k * 3 + 2) undef)))) 0 (lenV (L.getD (k * 3 + 2) undef))), syS fu off s (lenV (L.getD (k * 3 + 2) undef))), (dkF fu off, dkO fu off), fsd, rkF fsd rf off)).K) (by rfl)), ?_, hn⟩
 have a1 := fam_many hrw (kb := 8) (K' := (diMk m L cap0 (k + 1) ((q + 1, G', W'), (rpN fu off n (lenV (L.getD (k * 3 + 2) undef)), rpL fu off l (sub (gvB (lenV (L.getD (k * 3 + 2) undef)) (sub (contV w (L.getD (k * 3 + 2) undef)) 0 (lenV (L.getD (k * 3 + 2) undef)))) 0 (lenV (L.getD (k * 3 + 2) undef))), syS fu off s (lenV (L.getD (k * 3 + 2) undef))), (dkF fu off, dkO fu off), fsd, rkF fsd rf off)).K) (Less.of (by rfl)) (L0 := sub G 0 q) (C := D) (by rw [eG]; exact h2) (xs := [_]) (p := (0 + gv0 (lenV (L.getD (k * 3 + 2) undef)) ≤ gv0 (lenV (L.getD (k * 3 + 2) undef))) ∧ True) (by rfl) (by rfl) ⟨by omega, trivial⟩ hG'
 have a2 := fam_many hrw (kb := 8) (K' := (diMk m L cap0 (k + 1) ((q + 1, G', W'), (rpN fu off n (lenV (L.getD (k * 3 + 2) undef)), rpL fu off l (sub (gvB (lenV (L.getD (k * 3 + 2) undef)) (sub (contV w (L.getD (k * 3 + 2) undef)) 0 (lenV (L.getD (k * 3 + 2) undef)))) 0 (lenV (L.getD (k * 3 + 2) undef))), syS fu off s (lenV (L.getD (k * 3 + 2) undef))), (dkF fu off, dkO fu off), fsd, rkF fsd rf off)).K) (Less.of (by rfl)) (L0 := sub W 0 q) (C := D) (by rw [eW]; exact h3) (xs := [_]) (p := (0 + gv0 (lenV (L.getD (k * 3 + 2) undef)) ≤ gv0 (lenV (L.getD (k * 3 + 2) undef))) ∧ True) (by rfl) (by rfl) ⟨by omega, trivial⟩ hW'
 refine ⟨_, a1, a2, by rw [List.length_append, h4]; rfl, by show q + 1 ≤ k + 1; omega, fun x hx => ?_⟩
 rcases List.mem_append.1 hx with h | h
 ·exact h6 x h
 ·rw [List.mem_singleton.1 h]
  exact sub_lt (by show lenV _ + 3 < _; omega)

end conv

theorem fuse_alike (off : Bool) {N : Int} (h1 : -9223372036854775808 ≤ N) (h2 : N < 9223372036854775808) : Alike (dFus N) off (rFus N) N := by
 have e : dFus N = if N < -1 then -1 else N := rfl
 have e2 : rFus N = decide (0 ≤ N) := rfl
 rw [e, e2]
 split
 ·exact ⟨by decide, by decide, by rw [decide_eq_false (by omega), decide_eq_false (by omega)], h1, h2, fun h => by omega⟩
 ·exact ⟨by omega, h2, rfl, h1, h2, fun _ => rfl⟩
theorem crash_alike {rf : Int} (h1 : -9223372036854775808 ≤ rf) (h2 : rf < 9223372036854775808) : Alike (-1) false false rf :=
 ⟨by decide, by decide, rfl, h1, h2, fun h => absurd h (by decide)⟩
theorem di_body (w : World) (m : Nat) (L : List Value) (cap0 : Nat) (hm : m < 1048577) (hP : SwR w [] L m) (β : Env) :
  Body Tryz.prog (tabOf tabDI) Tryz.f3 ⟨w, [], 1, β⟩ [.o (.a (.sl 0 0 m cap0))] [some ⟨false, [.vals (m * 3) L]⟩] fun ys _ => ys = [.a (.b true)] := by
 refine Body.of_run (c := diB) rfl ?_
 rw [show diB = .seq (fstC diB) (.seq (fstC (sndC diB)) (.seq (fstC (sndC (sndC diB))) (.seq (fstC (sndC (sndC (sndC diB)))) (.seq (fstC (sndC (sndC (sndC (sndC diB))))) (.seq (.seq (fstC (fstC (sndC (sndC (sndC (sndC (sndC diB))))))) (.block 0 (.loop diC))) diRest))))) from by kernel_rfl]
 refine Run.seqTo (diP0 w β m L cap0) ?_
 refine Run.seqTo (diP1 w β m L cap0) ?_
 refine Run.seqTo (diP2 w β m L cap0) ?_
 refine Run.seqTo (diP3 w β m L cap0) ?_
 refine Run.seqTo (diP4 w β m L cap0) ?_
 refine Run.famPre (diMk m L cap0) (DInv L m) m 1 ?_ ?_ ?_ rfl ?_
 ·intro w1 rw1 β1 k s hk hi
  obtain ⟨⟨q, G, W⟩, ⟨n, l, s⟩, ⟨fu, off⟩, fsd, rf⟩ := s
  have hi0 := hi
  obtain ⟨hP1, ⟨D, h2, h3, h4, h5, h6⟩, b1, b2, b3, hA⟩ := hi0
  have h5 : q ≤ k := h5
  have b1 : n ≤ k * 1048576 := b1
  have b2 : 0 ≤ s := b2
  have b3 : s ≤ (n : Int) := b3
  have hA : Alike fu off fsd rf := hA
  have hq : q < 1099511627776 := by omega
  have hn : n < 4398046511104 := by omega
  have hm2 : m < 1099511627776 := by omega
  have hA2 := hA.cases.2.2
  have bk : n ≤ (k + 1) * 1048576 := Nat.le_trans b1 (Nat.mul_le_mul_right _ (Nat.le_succ k))
  have hsm := hP1.small k hk
  have hrg := hP1.rng k hk
  have fin : ∀ {md : St} {n' : Nat} {l' : List Int} {s' fu' : Int} {off' fsd' : Bool} {rf' : Int}, md = diMk m L cap0 (k + 1) ((q, G, W), (n', l', s'), (fu', off'), fsd', rf') → NInv (k + 1) n' s' fu' off' fsd' rf' →
    Run Tryz.prog ⟨w1, rw1, 1, β1⟩ diC (diMk m L cap0 k ((q, G, W), (n, l, s), (fu, off), fsd, rf)) (To ⟨w1, rw1, 1, β1⟩ .normal md) →
    Run Tryz.prog ⟨w1, rw1, 1, β1⟩ diC (diMk m L cap0 k ((q, G, W), (n, l, s), (fu, off), fsd, rf)) (fun e1 md => e1 = .normal ∧ ∀ β a' w', Rel ⟨w1, rw1, 1, β1⟩ β md a' w' → ∃ β' s', Rel ⟨w1, rw1, 1, β1⟩ β' (diMk m L cap0 (k + 1) s') a' w' ∧ DInv L m w' (ownBlks β' (diMk m L cap0 (k + 1) s').K) (k + 1) s') := by
   intro md n' l' s' fu' off' fsd' rf' hmd hN hrun
   refine hrun.mono fun e1 s1 hp => ⟨hp.1, fun β2 a w2 hR => ?_⟩
   obtain ⟨β3, hR3⟩ := hp.2 β2 a w2 hR
   exact di_conv0 hmd hN hi hR3
  by_cases w4 : intV (List.getD L (k * 3) undef) = 4
  ·exact fin (n' := n) (l' := l) (s' := s) (fu' := dFus (intV (List.getD L (k * 3 + 1) undef))) (off' := off) (fsd' := rFus (intV (List.getD L (k * 3 + 1) undef))) (rf' := (intV (List.getD L (k * 3 + 1) undef))) (by rfl) ⟨bk, b2, b3, fuse_alike off hrg.1 hrg.2⟩ (diR4 w1 rw1 β1 m L cap0 hP1 hm2 k hk q G W n l s fu off fsd rf hq hn b2 b3 hA hA.lo hA.hi hA.rlo hA.rhi w4)
  by_cases w5 : intV (List.getD L (k * 3) undef) = 5
  ·have hc := crN_cast (intV (List.getD L (k * 3 + 1) undef)) b2 b3
   exact fin (n' := crN s (intV (List.getD L (k * 3 + 1) undef)) n) (l' := crL s (intV (List.getD L (k * 3 + 1) undef)) n l) (s' := crI s (intV (List.getD L (k * 3 + 1) undef)) n) (fu' := -1) (off' := false) (fsd' := false) (rf' := rf) (by rfl) ⟨by omega, hc.2.2, by rw [hc.1]; exact Int.le_refl _, crash_alike hA.rlo hA.rhi⟩ (diR5 w1 rw1 β1 m L cap0 hP1 hm2 k hk q G W n l s fu off fsd rf hq hn b2 b3 hA hA.lo hA.hi hA.rlo hA.rhi w5)
  by_cases w6 : intV (List.getD L (k * 3) undef) = 6
  ·refine (diR6 w1 rw1 β1 m L cap0 hP1 hm2 k hk q G W n l s fu off fsd rf hq hn b2 b3 hA hA.lo hA.hi hA.rlo hA.rhi w6).mono fun e1 s1 hp => ⟨hp.1, fun β2 a w2 hR => ?_⟩
   obtain ⟨β3, hR3⟩ := hp.2 β2 a w2 hR
   have ha := apN_le fu off n (lenV (L.getD (k * 3 + 2) undef))
   exact di_conv6 ⟨by omega, b2, by omega, hA2⟩ hi hk hR3
  by_cases w7 : intV (List.getD L (k * 3) undef) = 7
  ·have hy := syS_le fu off b2 b3
   exact fin (n' := n) (l' := l) (s' := syS fu off s n) (fu' := dkF fu off) (off' := dkO fu off) (fsd' := fsd) (rf' := rkF fsd rf off) (by rfl) ⟨bk, hy.1, hy.2, hA2⟩ (diR7 w1 rw1 β1 m L cap0 hP1 hm2 k hk q G W n l s fu off fsd rf hq hn b2 b3 hA hA.lo hA.hi hA.rlo hA.rhi w7)
  by_cases w8 : intV (List.getD L (k * 3) undef) = 8
  ·refine (diR8 w1 rw1 β1 m L cap0 hP1 hm2 k hk q G W n l s fu off fsd rf hq hn b2 b3 hA hA.lo hA.hi hA.rlo hA.rhi w8).mono fun e1 s1 hp => ⟨hp.1, fun β2 a w2 hR => ?_⟩
   obtain ⟨β3, hR3⟩ := hp.2 β2 a w2 hR
   have ha := rpN_le fu off (q := lenV (L.getD (k * 3 + 2) undef)) b2 b3
   exact di_conv8 ⟨by omega, ha.2.1, ha.2.2, hA2⟩ hi hk hR3
  ·exact fin (n' := n) (l' := l) (s' := s) (fu' := fu) (off' := off) (fsd' := fsd) (rf' := rf) (by rfl) ⟨bk, b2, b3, hA⟩ (diR9 w1 rw1 β1 m L cap0 hP1 hm2 k hk q G W n l s fu off fsd rf hq hn b2 b3 hA hA.lo hA.hi hA.rlo hA.rhi w4 w5 w6 w7 w8)
 ·intro w1 rw1 β1 s hi
  exact diLast w1 rw1 β1 m L cap0 s.1.1 s.1.2.1 s.1.2.2 s.2.1.1 s.2.1.2.1 s.2.1.2.2 s.2.2.1.1 s.2.2.1.2 s.2.2.2.1 s.2.2.2.2
 ·intro w1 rw1 β1 s hi
  obtain ⟨_, ⟨D, h2, h3, h4, h5, h6⟩, _⟩ := hi
  exact diRun w1 rw1 β1 m L cap0 s.1.1 s.1.2.1 s.1.2.2 s.2.1.1 s.2.1.2.1 s.2.1.2.2 s.2.2.1.1 s.2.2.1.2 s.2.2.2.1 s.2.2.2.2 D h2 h3 h4 h6 (by omega)
 ·refine (diP5 w β m L cap0).mono fun e1 s1 hp => ⟨hp.1, fun β2 a w2 hR => ?_⟩
  obtain ⟨β3, hR3⟩ := hp.2 β2 a w2 hR
  have h1 := Rel.emptied (slots := (diS6 m L cap0).slots) (K := (diS6 m L cap0).K) hR3 (j := 2) (by rfl)
  have h2 := h1.emptied (j := 3) (by rfl)
  have h3 := h2.forgot [0, 3, 4, 5, 6] 8 (by show 1 ≤ 8; decide)
  refine ⟨β3, ((0, [], []), (0, [], 0), (-1, false), false, 0), h3.cast (by rfl), ?_⟩
  have hL : Less (diS6 m L cap0).K (diMk m L cap0 0 ((0, [], []), (0, [], 0), (-1, false), false, 0)).K 8 := Less.of (by rfl)
  exact ⟨hP.move hR3.relw hL, ⟨[], FamR.nil, FamR.nil, rfl, Nat.le_refl _, fun x hx => nomatch hx⟩, by show 0 ≤ 0 * 1048576; decide, by show (0 : Int) ≤ 0; decide, by show (0 : Int) ≤ ((0 : Nat) : Int); decide, crash_alike (by decide) (by decide)⟩
end Go.Proofs.YtjmfnjgcofpocaaGreat.X

/-
 FOR A PROOF OF AN '..UptoSaid': WHAT THE BOUND GIVES. Copy it as <Name>Bulk.lean (put your seat's Name for YtjmfnjgcofpocaaGreat, the bound of 'uptoSmall' for 1048576), name it in GOCLAIM.json's 'order' behind <Name>Rows. By an AI agent, Sun Nov 15 2026. No person has read it. No macro, syntax, notation, axiom, sorry.
-/
namespace Go.Proofs.YtjmfnjgcofpocaaGreat.bulks

theorem one_le {H : Type} (d : DataW H) : 1 ≤ Rows.uptoBulk d := by
 cases d with
 | lit l => cases l <;> simp [Rows.uptoBulk]
 | nil => simp [Rows.uptoBulk]
 | ptr d => simp [Rows.uptoBulk]
 | slice elems spare => simp [Rows.uptoBulk]
 | agg parts => simp [Rows.uptoBulk]
 | iface t d => simp [Rows.uptoBulk]
 | map entries => simp [Rows.uptoBulk]
 | held h => simp [Rows.uptoBulk]

theorem part_le {H : Type} {d : DataW H} {l : List (DataW H)} (h : d ∈ l) : Rows.uptoBulk d ≤ Rows.uptoBulkAll l := by
 induction l with
 | nil => cases h
 | cons x r ih =>
  simp only [Rows.uptoBulkAll]
  cases List.mem_cons.1 h with
  | inl e => subst e; omega
  | inr e => have := ih e; omega

theorem append {H : Type} (l r : List (DataW H)) : Rows.uptoBulkAll (l ++ r) = Rows.uptoBulkAll l + Rows.uptoBulkAll r := by
 induction l with
 | nil => simp [Rows.uptoBulkAll]
 | cons x l ih => simp only [List.cons_append, Rows.uptoBulkAll, ih]; omega

theorem length_le {H : Type} (l : List (DataW H)) : l.length ≤ Rows.uptoBulkAll l := by
 induction l with
 | nil => simp [Rows.uptoBulkAll]
 | cons x r ih => have := one_le x; simp only [Rows.uptoBulkAll, List.length_cons]; omega

theorem slice_le {H : Type} (elems spare : List (DataW H)) : elems.length + spare.length + 1 ≤ Rows.uptoBulk (.slice elems spare) := by
 have h1 := length_le elems
 have h2 := length_le spare
 simp only [Rows.uptoBulk]
 omega
theorem slice_elems {H : Type} (elems spare : List (DataW H)) : Rows.uptoBulkAll elems + 1 ≤ Rows.uptoBulk (.slice elems spare) := by
 simp only [Rows.uptoBulk]
 omega

theorem bound {H : Type} {l : List (DataW H)} (hk : Rows.uptoSmall H l = true) : Rows.uptoBulkAll l ≤ 1048576 := by
 simpa [Rows.uptoSmall] using hk

end Go.Proofs.YtjmfnjgcofpocaaGreat.bulks

