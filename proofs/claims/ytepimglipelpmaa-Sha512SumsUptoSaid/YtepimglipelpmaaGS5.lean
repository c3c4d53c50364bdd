/- Texts of this session, put together (part 5), less what nothing uses. -/
import Derived.Test.YtepimglipelpmaaGS4
import Derived.KernelRfl
import Derived.Test.YtepimglipelpmaaRows
/- Families of copies: what Given keeps, and what Intact asks behind some more. -/
namespace Go.Proofs.Ytepimglipelpmaa.X
open Go Go.Proofs
set_option linter.unusedVariables false
set_option maxRecDepth 100000

theorem take_succ' {α : Type} {C : List α} {k : Nat} {d : α} (h : k < C.length) : C.take k ++ [C.getD k d] = C.take (k + 1) := by
  rw [List.take_add_one, List.getElem?_eq_getElem h, List.getD_eq_getElem?_getD, List.getElem?_eq_getElem h]; rfl
def Gv (C : List (List Int)) (k : Nat) : List (List Int) := (C.take k).map fun c => gvB c.length c
theorem Gv_step {C : List (List Int)} {k : Nat} (h : k < C.length) : Gv C k ++ [gvB (C.getD k []).length (C.getD k [])] = Gv C (k + 1) := by
  unfold Gv
  rw [← take_succ' (d := []) h, List.map_append]; rfl
theorem Gv_len {C : List (List Int)} {k : Nat} (h : k ≤ C.length) : (Gv C k).length = k := by
  unfold Gv; rw [List.length_map, List.length_take]; omega
theorem Gv_small {C : List (List Int)} {k : Nat} {B : Nat} (h : ∀ c ∈ C, c.length < B) : ∀ x ∈ Gv C k, x.length < B + 3 := by
  intro x hx
  unfold Gv at hx
  obtain ⟨c, hc, rfl⟩ := List.mem_map.1 hx
  have := h c (List.mem_of_mem_take hc)
  rw [gvB_len rfl]; omega
theorem sub_len_all {α : Type} (L : List α) {n : Nat} (h : L.length = n) : sub L 0 n = L := by
  unfold sub; rw [List.drop_zero, ← h, List.take_length]

/-- what Intact asks where a family of n and some more were given -/
theorem fam_intact {w : World} {rw : List Nat} {G W : List Value} {D : List (List Int)} {n q : Nat} {l l2 : List (List Int)} {p p2 : Prop} (hG : FamR w rw G D) (hW : FamR w rw W D) (hn : D.length = n) (hq : n + l.length = q) (hll : l = l2)
    (hs : ∀ x ∈ D, x.length < 70368744177664) (hs2 : ∀ x ∈ l, x.length < 70368744177664) (hq2 : q < 70368744177664) (hp : p) (hp2 : p2) :
    List.length (contL w (sub G 0 n) n ++ l) = q ∧ q = q ∧ (PartsI w rw (sub G 0 n) n ∧ p) ∧ (PartsI w rw (sub W 0 n) n ∧ p2) ∧ contL w (sub G 0 n) n ++ l = contL w (sub W 0 n) n ++ l2 ∧ (∀ x ∈ contL w (sub G 0 n) n ++ l, x.length < 70368744177664) ∧ q < 70368744177664 := by
  subst hll
  have eG : sub G 0 n = G := sub_len_all G (by rw [hG.len, hn])
  have eW : sub W 0 n = W := sub_len_all W (by rw [hW.len, hn])
  rw [eG, eW, hG.contLeq hn.symm, hW.contLeq hn.symm]
  refine ⟨by rw [List.length_append, hn]; exact hq, rfl, ⟨by rw [← hn]; exact hG.imp, hp⟩, ⟨by rw [← hn]; exact hW.imp, hp2⟩, rfl, fun x hx => ?_, hq2⟩
  rcases List.mem_append.1 hx with h | h
  · exact hs x h
  · exact hs2 x h
theorem all1 {a : List Int} {B : Nat} (ha : a.length < B) : ∀ x ∈ a :: [], x.length < B := by
  intro x hx
  rcases List.mem_cons.1 hx with rfl | hx
  · exact ha
  · nomatch hx
theorem sub_lt {l : List Int} {a b B : Nat} (h : b < B) : (sub l a b).length < B := by
  unfold sub; rw [List.length_take]; omega
end Go.Proofs.Ytepimglipelpmaa.X

/- Printed by a tool of this session. -/
namespace Go.Proofs.Ytepimglipelpmaa.X
open Go Go.Proofs
set_option linter.unusedVariables false
set_option linter.unusedSimpArgs false
set_option maxRecDepth 100000
set_option maxHeartbeats 8000000
theorem teUG_5 : TEOk Try.prog 5 ⟨.int .u8, 1, 1, [.i .u8 (0 : Int)], false⟩ :=
  TEOk.of Try.underlying5 (i := Try.t5) (by kernel_rfl) rfl rfl rfl (by kernel_rfl) (fun h => by cases h) (by kernel_rfl)
theorem teUG_22 : TEOk Try.prog 22 ⟨.slice 5, 1, 24, [.raw (.slice none 0 0)], false⟩ :=
  TEOk.of Try.underlying22 (i := Try.t22) (by kernel_rfl) rfl rfl rfl (by kernel_rfl) (fun h => by cases h) (by kernel_rfl)
theorem teUG_23 : TEOk Try.prog 23 ⟨.slice 22, 1, 24, [.raw (.slice none 0 0)], false⟩ :=
  TEOk.of Try.underlying23 (i := Try.t23) (by kernel_rfl) rfl rfl rfl (by kernel_rfl) (fun h => by cases h) (by kernel_rfl)
theorem teUG_39 : TEOk Try.prog 39 ⟨Try.t38.desc, 30, 720, [.raw (.slice none 0 0), .raw (.slice none 0 0), .raw (.slice none 0 0), .raw (.slice none 0 0), .raw (.slice none 0 0), .raw (.slice none 0 0), .raw (.slice none 0 0), .raw (.slice none 0 0), .raw (.slice none 0 0), .raw (.slice none 0 0), .raw (.slice none 0 0), .raw (.slice none 0 0), .raw (.slice none 0 0), .raw (.slice none 0 0), .raw (.slice none 0 0), .raw (.slice none 0 0), .raw (.slice none 0 0), .raw (.slice none 0 0), .raw (.slice none 0 0), .raw (.slice none 0 0), .raw (.slice none 0 0), .raw (.slice none 0 0), .raw (.slice none 0 0), .raw (.slice none 0 0), .raw (.slice none 0 0), .raw (.slice none 0 0), .raw (.slice none 0 0), .raw (.slice none 0 0), .raw (.slice none 0 0), .raw (.slice none 0 0)], false⟩ :=
  TEOk.of Try.underlying39 (i := Try.t39) (by kernel_rfl) rfl rfl rfl (by kernel_rfl) (fun h => by cases h) (by kernel_rfl)
theorem teUG_42 : TEOk Try.prog 42 ⟨.array 64 5, 64, 64, [.ints .u8 (64 : Nat) ([0, 0, 0, 0, 0, 0, 0, 0, 0, 0, 0, 0, 0, 0, 0, 0, 0, 0, 0, 0, 0, 0, 0, 0, 0, 0, 0, 0, 0, 0, 0, 0, 0, 0, 0, 0, 0, 0, 0, 0, 0, 0, 0, 0, 0, 0, 0, 0, 0, 0, 0, 0, 0, 0, 0, 0, 0, 0, 0, 0, 0, 0, 0, 0] : List Int)], true⟩ :=
  TEOk.of Try.underlying42 (i := Try.t42) (by kernel_rfl) rfl rfl rfl (by kernel_rfl) (fun _ => Try.eqGuardType42) (by kernel_rfl)
theorem teUG_47 : TEOk Try.prog 47 ⟨.array 32 5, 32, 32, [.ints .u8 (32 : Nat) ([0, 0, 0, 0, 0, 0, 0, 0, 0, 0, 0, 0, 0, 0, 0, 0, 0, 0, 0, 0, 0, 0, 0, 0, 0, 0, 0, 0, 0, 0, 0, 0] : List Int)], true⟩ :=
  TEOk.of Try.underlying47 (i := Try.t47) (by kernel_rfl) rfl rfl rfl (by kernel_rfl) (fun _ => Try.eqGuardType47) (by kernel_rfl)
noncomputable def tabUG : List (Nat × TE) := [(5, ⟨.int .u8, 1, 1, [.i .u8 (0 : Int)], false⟩), (22, ⟨.slice 5, 1, 24, [.raw (.slice none 0 0)], false⟩), (23, ⟨.slice 22, 1, 24, [.raw (.slice none 0 0)], false⟩), (39, ⟨Try.t38.desc, 30, 720, [.raw (.slice none 0 0), .raw (.slice none 0 0), .raw (.slice none 0 0), .raw (.slice none 0 0), .raw (.slice none 0 0), .raw (.slice none 0 0), .raw (.slice none 0 0), .raw (.slice none 0 0), .raw (.slice none 0 0), .raw (.slice none 0 0), .raw (.slice none 0 0), .raw (.slice none 0 0), .raw (.slice none 0 0), .raw (.slice none 0 0), .raw (.slice none 0 0), .raw (.slice none 0 0), .raw (.slice none 0 0), .raw (.slice none 0 0), .raw (.slice none 0 0), .raw (.slice none 0 0), .raw (.slice none 0 0), .raw (.slice none 0 0), .raw (.slice none 0 0), .raw (.slice none 0 0), .raw (.slice none 0 0), .raw (.slice none 0 0), .raw (.slice none 0 0), .raw (.slice none 0 0), .raw (.slice none 0 0), .raw (.slice none 0 0)], false⟩), (42, ⟨.array 64 5, 64, 64, [.ints .u8 (64 : Nat) ([0, 0, 0, 0, 0, 0, 0, 0, 0, 0, 0, 0, 0, 0, 0, 0, 0, 0, 0, 0, 0, 0, 0, 0, 0, 0, 0, 0, 0, 0, 0, 0, 0, 0, 0, 0, 0, 0, 0, 0, 0, 0, 0, 0, 0, 0, 0, 0, 0, 0, 0, 0, 0, 0, 0, 0, 0, 0, 0, 0, 0, 0, 0, 0] : List Int)], true⟩), (47, ⟨.array 32 5, 32, 32, [.ints .u8 (32 : Nat) ([0, 0, 0, 0, 0, 0, 0, 0, 0, 0, 0, 0, 0, 0, 0, 0, 0, 0, 0, 0, 0, 0, 0, 0, 0, 0, 0, 0, 0, 0, 0, 0] : List Int)], true⟩)]
theorem tabOkUG : TabOk Try.prog (tabOf tabUG) := (tabOf_cons teUG_5 (tabOf_cons teUG_22 (tabOf_cons teUG_23 (tabOf_cons teUG_39 (tabOf_cons teUG_42 (tabOf_cons teUG_47 tabOf_nil))))))

noncomputable def ent623 : Know → Nat → List AV → Option Rx := gcallE [true, true, true] [.w, .s 1] (fun wk vs args => match wk, vs, args with | [⟨true, [.rs 1 0 q 1, .rs 2 0 q_1 1, .raw (.slice none 0 0), .raw (.slice none 0 0), .raw (.slice none 0 0), .raw (.slice none 0 0), .raw (.slice none 0 0), .raw (.slice none 0 0), .raw (.slice none 0 0), .raw (.slice none 0 0), .raw (.slice none 0 0), .raw (.slice none 0 0), .raw (.slice none 0 0), .raw (.slice none 0 0), .raw (.slice none 0 0), .raw (.slice none 0 0), .raw (.slice none 0 0), .raw (.slice none 0 0), .raw (.slice none 0 0), .raw (.slice none 0 0), .raw (.slice none 0 0), .raw (.slice none 0 0), .raw (.slice none 0 0), .raw (.slice none 0 0), .raw (.slice none 0 0), .raw (.slice none 0 0), .raw (.slice none 0 0), .raw (.slice none 0 0), .raw (.slice none 0 0), .raw (.slice none 0 0)]⟩, ⟨true, [.vals k_ L]⟩, ⟨true, [.vals k__1 W]⟩], [⟨_, _, _, [.ints .u8 nm b]⟩], [.o (.a (.p 0 0)), .o (.a (.sl 3 0 n _))] => some ((q_1 = q) ∧ (k__1 = k_) ∧ (nm = n) ∧ (n < (17592186044416 : Nat)) ∧ (q < (2199023255552 : Nat)) ∧ (q = k_), [.a (.sl 6 0 n (gv0 n))], [some ⟨true, [.rs 4 0 (gv0_1 q) 1, .rs 5 0 (gv0_1 q) 1, .raw (.slice none 0 0), .raw (.slice none 0 0), .raw (.slice none 0 0), .raw (.slice none 0 0), .raw (.slice none 0 0), .raw (.slice none 0 0), .raw (.slice none 0 0), .raw (.slice none 0 0), .raw (.slice none 0 0), .raw (.slice none 0 0), .raw (.slice none 0 0), .raw (.slice none 0 0), .raw (.slice none 0 0), .raw (.slice none 0 0), .raw (.slice none 0 0), .raw (.slice none 0 0), .raw (.slice none 0 0), .raw (.slice none 0 0), .raw (.slice none 0 0), .raw (.slice none 0 0), .raw (.slice none 0 0), .raw (.slice none 0 0), .raw (.slice none 0 0), .raw (.slice none 0 0), .raw (.slice none 0 0), .raw (.slice none 0 0), .raw (.slice none 0 0), .raw (.slice none 0 0)]⟩, none, none, some ⟨false, [.ints .u8 nm b]⟩, some ⟨true, [.vals q (sub L 0 q), .sl 6 0 (gv0 n) (gv0 n)]⟩, some ⟨true, [.vals q (sub W 0 q), .rs 7 0 (gv0 n) 1]⟩, some ⟨true, [.ints .u8 (gv0 n) (gvB n b)]⟩, some ⟨true, [.ints .u8 (gv0 n) (gvB n b)]⟩]) | _, _, _ => none)

theorem ent623_ok : EntOk Try.prog 10 ent623 := gcallE_ent tabOkKB Try.func10 (by
  intro wk vs args p xs K1 h hv
  split at h
  · simp only [Option.some.injEq, Prod.mk.injEq] at h; obtain ⟨rfl, rfl, rfl⟩ := h; obtain ⟨g0, g1, g2, g3, g4, g5⟩ := hv; subst g0; subst g1; exact fun caps w rw β => gv0_body _ _ _ _ _ _ _ _ g2 g3 g4 g5 w rw β
  · simp at h)

noncomputable def ent624 : Know → Nat → List AV → Option Rx := gcallE [true, true, true, true, true] [.w, .s 1] (fun wk vs args => match wk, vs, args with | [⟨true, [.rs 1 0 q 1, .rs 3 0 q_1 1, .raw (.slice none 0 0), .raw (.slice none 0 0), .raw (.slice none 0 0), .raw (.slice none 0 0), .raw (.slice none 0 0), .raw (.slice none 0 0), .raw (.slice none 0 0), .raw (.slice none 0 0), .raw (.slice none 0 0), .raw (.slice none 0 0), .raw (.slice none 0 0), .raw (.slice none 0 0), .raw (.slice none 0 0), .raw (.slice none 0 0), .raw (.slice none 0 0), .raw (.slice none 0 0), .raw (.slice none 0 0), .raw (.slice none 0 0), .raw (.slice none 0 0), .raw (.slice none 0 0), .raw (.slice none 0 0), .raw (.slice none 0 0), .raw (.slice none 0 0), .raw (.slice none 0 0), .raw (.slice none 0 0), .raw (.slice none 0 0), .raw (.slice none 0 0), .raw (.slice none 0 0)]⟩, ⟨true, [.vals k_ L, .sl 2 0 m0 m0_1]⟩, ⟨true, [.ints .u8 m0_2 B0]⟩, ⟨true, [.vals k__1 W, .rs 4 0 m0_3 1]⟩, ⟨true, [.ints .u8 m0_4 D0]⟩], [⟨_, _, _, [.ints .u8 nm b]⟩], [.o (.a (.p 0 0)), .o (.a (.sl 5 0 n _))] => some ((q_1 = q) ∧ (m0_1 = m0) ∧ (m0_2 = m0) ∧ (k__1 = k_) ∧ (m0_3 = m0) ∧ (m0_4 = m0) ∧ (nm = n) ∧ (n < (17592186044416 : Nat)) ∧ (q < (2199023255552 : Nat)) ∧ (q = (k_ + (1 : Nat))), [.a (.sl 8 0 n (gv1 n))], [some ⟨true, [.rs 6 0 (gv1_1 q) 1, .rs 7 0 (gv1_1 q) 1, .raw (.slice none 0 0), .raw (.slice none 0 0), .raw (.slice none 0 0), .raw (.slice none 0 0), .raw (.slice none 0 0), .raw (.slice none 0 0), .raw (.slice none 0 0), .raw (.slice none 0 0), .raw (.slice none 0 0), .raw (.slice none 0 0), .raw (.slice none 0 0), .raw (.slice none 0 0), .raw (.slice none 0 0), .raw (.slice none 0 0), .raw (.slice none 0 0), .raw (.slice none 0 0), .raw (.slice none 0 0), .raw (.slice none 0 0), .raw (.slice none 0 0), .raw (.slice none 0 0), .raw (.slice none 0 0), .raw (.slice none 0 0), .raw (.slice none 0 0), .raw (.slice none 0 0), .raw (.slice none 0 0), .raw (.slice none 0 0), .raw (.slice none 0 0), .raw (.slice none 0 0)]⟩, none, some ⟨true, [.ints .u8 m0 B0]⟩, none, some ⟨true, [.ints .u8 m0 D0]⟩, some ⟨false, [.ints .u8 nm b]⟩, some ⟨true, [.vals k_ L, .sl 2 0 m0 m0, .sl 8 0 (gv1 n) (gv1 n)]⟩, some ⟨true, [.vals k_ W, .rs 4 0 m0 1, .rs 9 0 (gv1 n) 1]⟩, some ⟨true, [.ints .u8 (gv1 n) (gvB n b)]⟩, some ⟨true, [.ints .u8 (gv1 n) (gvB n b)]⟩]) | _, _, _ => none)

theorem ent624_ok : EntOk Try.prog 10 ent624 := gcallE_ent tabOkKB Try.func10 (by
  intro wk vs args p xs K1 h hv
  split at h
  · simp only [Option.some.injEq, Prod.mk.injEq] at h; obtain ⟨rfl, rfl, rfl⟩ := h; obtain ⟨g0, g1, g2, g3, g4, g5, g6, g7, g8, g9⟩ := hv; subst g0; subst g1; subst g2; subst g3; subst g4; subst g5; exact fun caps w rw β => gv1_body _ _ _ _ _ _ _ _ _ _ _ g6 g7 g8 g9 w rw β
  · simp at h)

noncomputable def gam625 : Gam := gfull 10 (selE [.w, .s 1] 3 (ent623) (ent624)) gam19
theorem gam625_ok : GamOk Try.prog gam625 := gent_ok gam19_ok Try.call10 (selE_ent (ent623_ok) (ent624_ok))

noncomputable def gam626 : Gam := gcall 18 [] [] (fun wk vs args => match wk, vs, args with | [], [], [] => some (True, [.a (.b true)], []) | _, _, _ => none) gam625
theorem gam626_ok : GamOk Try.prog gam626 := gcall_ok tabOkUF Try.func18 gam625_ok Try.call18 (by
  intro wk vs args p xs K1 h hv
  split at h
  · simp only [Option.some.injEq, Prod.mk.injEq] at h; obtain ⟨rfl, rfl, rfl⟩ := h; exact fun caps w rw β => alive_body0 w rw β
  · simp at h)

noncomputable def gam627 : Gam := greadV 24 [.s 1, .s 1] (fun vs args => match vs, args with | [⟨_, _, _, [.ints .u8 nm b]⟩, ⟨_, _, _, [.ints .u8 mm c]⟩], [a0, a1] => some ((nm = (lenOfA a0)) ∧ (mm = (lenOfA a1)) ∧ ((lenOfA a1) = (lenOfA a0)) ∧ (b = c) ∧ ((lenOfA a0) < (70368744177664 : Nat)), [.a (.b true)]) | _, _ => none) gam626
theorem gam627_ok : GamOk Try.prog gam627 := greadV_ok tabOkUB Try.func24 gam626_ok Try.call24 (by
  intro vs args p xs h hv
  split at h
  · simp only [Option.some.injEq, Prod.mk.injEq] at h; obtain ⟨rfl, rfl⟩ := h; exact ⟨by rfl, fun caps w β => sameB_body _ _ _ _ _ _ _ _ hv.1 hv.2.1 hv.2.2.1 hv.2.2.2.1 hv.2.2.2.2 w β⟩
  · simp at h)

noncomputable def gam628 : Gam := greadV 12 [.s 1] (fun vs args => match vs, args with | [⟨_, _, _, [.ints .u8 nm b]⟩], [a0] => some ((nm = (lenOfA a0)) ∧ ((lenOfA a0) < (70368744177664 : Nat)), [.g [.ints .u8 (64 : Nat) (sumR (lenOfA a0) b)]]) | _, _ => none) gam627
theorem gam628_ok : GamOk Try.prog gam628 := greadV_ok tabOkKD Try.func12 gam627_ok Try.call12 (by
  intro vs args p xs h hv
  split at h
  · simp only [Option.some.injEq, Prod.mk.injEq] at h; obtain ⟨rfl, rfl⟩ := h; exact ⟨by rfl, fun caps w β => sumR_body _ _ _ _ hv.1 hv.2 w β⟩
  · simp at h)

def smMk (kn : Nat) (key : List Int) (n : Nat) (L : List Value) (cap0 cap1 k : Nat) (s : List Value × List Value × List Value) : St := ⟨sparse 48 [(0, .o (.a (.sl 0 0 kn cap0))), (1, .o (.a (.sl 1 0 n cap1))), (4, .o (.a (.b false))), (5, .o (.a (.p 2 0))), (6, .o (.a (.rs 5 0 k 1))), (7, .o (.a (.i .i64 ((k : Nat) : Int))))], [some ⟨false, [.ints .u8 kn key]⟩, some ⟨false, [.vals n L]⟩, some ⟨true, [.rs 3 0 k 1, .rs 4 0 k 1, .raw (.slice none 0 0), .raw (.slice none 0 0), .raw (.slice none 0 0), .raw (.slice none 0 0), .raw (.slice none 0 0), .raw (.slice none 0 0), .raw (.slice none 0 0), .raw (.slice none 0 0), .raw (.slice none 0 0), .raw (.slice none 0 0), .raw (.slice none 0 0), .raw (.slice none 0 0), .raw (.slice none 0 0), .raw (.slice none 0 0), .raw (.slice none 0 0), .raw (.slice none 0 0), .raw (.slice none 0 0), .raw (.slice none 0 0), .raw (.slice none 0 0), .raw (.slice none 0 0), .raw (.slice none 0 0), .raw (.slice none 0 0), .raw (.slice none 0 0), .raw (.slice none 0 0), .raw (.slice none 0 0), .raw (.slice none 0 0), .raw (.slice none 0 0), .raw (.slice none 0 0)]⟩, some ⟨true, [.vals k s.1]⟩, some ⟨true, [.vals k s.2.1]⟩, some ⟨true, [.vals k s.2.2]⟩]⟩

noncomputable def smC : Code := (loopB Try.f3 0)

def smMd (kn : Nat) (key : List Int) (n : Nat) (L : List Value) (cap0 cap1 : Nat) (w : World) (k : Nat) (G W S : List Value) : St := ⟨sparse 48 [(0, .o (.a (.sl 0 0 kn cap0))), (1, .o (.a (.sl 1 0 n cap1))), (4, .o (.a (.b false))), (5, .o (.a (.p 2 0))), (6, .o (.a (.rs 5 0 (k + (1 : Nat)) 1))), (7, .o (.a (.i .i64 (((k + (1 : Nat)) : Nat) : Int))))], [some ⟨false, [.ints .u8 kn key]⟩, some ⟨false, [.vals n L]⟩, some ⟨true, [.rs 3 0 (gv0_1 k) 1, .rs 4 0 (gv0_1 k) 1, .raw (.slice none 0 0), .raw (.slice none 0 0), .raw (.slice none 0 0), .raw (.slice none 0 0), .raw (.slice none 0 0), .raw (.slice none 0 0), .raw (.slice none 0 0), .raw (.slice none 0 0), .raw (.slice none 0 0), .raw (.slice none 0 0), .raw (.slice none 0 0), .raw (.slice none 0 0), .raw (.slice none 0 0), .raw (.slice none 0 0), .raw (.slice none 0 0), .raw (.slice none 0 0), .raw (.slice none 0 0), .raw (.slice none 0 0), .raw (.slice none 0 0), .raw (.slice none 0 0), .raw (.slice none 0 0), .raw (.slice none 0 0), .raw (.slice none 0 0), .raw (.slice none 0 0), .raw (.slice none 0 0), .raw (.slice none 0 0), .raw (.slice none 0 0), .raw (.slice none 0 0)]⟩, some ⟨true, [.vals k (sub G 0 k), .sl 6 0 (gv0 (lenV (List.getD L k undef))) (gv0 (lenV (List.getD L k undef)))]⟩, some ⟨true, [.vals k (sub W 0 k), .rs 7 0 (gv0 (lenV (List.getD L k undef))) 1]⟩, some ⟨true, [.vals k (sub S 0 k), .sl 6 0 (lenV (List.getD L k undef)) (gv0 (lenV (List.getD L k undef)))]⟩, some ⟨true, [.ints .u8 (gv0 (lenV (List.getD L k undef))) (gvB (lenV (List.getD L k undef)) (sub (contV w (List.getD L k undef)) (0 : Nat) (lenV (List.getD L k undef))))]⟩, some ⟨true, [.ints .u8 (gv0 (lenV (List.getD L k undef))) (gvB (lenV (List.getD L k undef)) (sub (contV w (List.getD L k undef)) (0 : Nat) (lenV (List.getD L k undef))))]⟩]⟩

set_option maxHeartbeats 1000000 in
theorem smRound (w : World) (rw : List Nat) (β0 : Env) (kn : Nat) (key : List Int) (n : Nat) (L : List Value) (cap0 cap1 : Nat) (hI : ∀ i, i < n → ∀ (t : Nat) (β : Env), ImpOk ⟨w, rw, t, β⟩ (List.getD L i undef) .u8 (lenV (List.getD L i undef)) (capV (List.getD L i undef)) (contV w (List.getD L i undef))) (hs : ∀ i, i < n → lenV (List.getD L i undef) < 17592186044416) (hn : n < 1099511627776) (k : Nat) (hk : k < n) (G W S : List Value) : Run Try.prog ⟨w, rw, 2, β0⟩ smC (smMk kn key n L cap0 cap1 k (G, W, S)) (To ⟨w, rw, 2, β0⟩ .normal (smMd kn key n L cap0 cap1 w k G W S)) :=
  Run.of_outTAt (B := ⟨w, rw, 2, β0⟩) (Λ := noLam) (Ψ := noPsi) (fuel := 0) (ora := [true, false]) (c := smC) (st := (smMk kn key n L cap0 cap1 k (G, W, S))) (l := [.eqS 7 (.o (.a (.i .i64 (((k + (1 : Nat)) : Nat) : Int)))), .swap 3 7, .swap 4 8, .swap 5 12, .swap 6 9, .swap 7 10, .forget [0, 1, 4, 5, 6, 7] 8]) (s' := (smMd kn key n L cap0 cap1 w k G W S)) (ex := .normal) mix tabOkUG (gimp_ok (t := 22) (mk := mkS ⟨w, rw, 2, β0⟩ .u8) (gam625_ok.at _ _) fun v m => mkS_ok v m)
    (vc := [((.o (.a (.i .i64 (IntKind.i64.wrap (((k : Nat) : Int) + (1 : Int))))) : AV) = .o (.a (.i .i64 (((k + (1 : Nat)) : Nat) : Int)))), ((((0 : Nat) + k) ≤ k) ∧ (((1 : Nat) ≤ (1 : Nat)) ∧ True) ∧ (((k + (1 : Nat)) * (24 : Nat)) ≤ (140737488355328 : Nat))), ((True ∧ ((((0 : Nat) + (lenV (List.getD L k undef))) ≤ (lenV (List.getD L k undef))) ∧ True)) ∧ ((k = k) ∧ (k = k) ∧ ((lenV (List.getD L k undef)) = (lenV (List.getD L k undef))) ∧ ((lenV (List.getD L k undef)) < (17592186044416 : Nat)) ∧ (k < (2199023255552 : Nat)) ∧ (k = k))), ((k < n) ∧ (ImpOk ⟨w, rw, 2, β0⟩ (List.getD L k undef) .u8 (lenV (List.getD L k undef)) (capV (List.getD L k undef)) (contV w (List.getD L k undef)))), (((0 : Int) ≤ ((k : Nat) : Int)) ∧ (((k : Nat) : Int) < ((n : Nat) : Int))), ((decide (((k : Nat) : Int) < ((n : Nat) : Int))) = true)]) (by kernel_rfl)
    (aC ((congrArg (fun z => AV.o (.a (.i .i64 z))) (wrap_succ (by omega)))) (aC ⟨(by first | omega | (simp (disch := omega) only [wrapI]; omega)), ⟨(by decide), trivial⟩, (by first | omega | (simp (disch := omega) only [wrapI]; omega))⟩ (aC ⟨⟨trivial, ⟨(by rw [Nat.zero_add]; exact Nat.le_refl _), trivial⟩⟩, ⟨rfl, rfl, rfl, (hs k hk), (by first | omega | (simp (disch := omega) only [wrapI]; omega)), rfl⟩⟩ (aC ⟨(by first | omega | (simp (disch := omega) only [wrapI]; omega)), ((hI k hk _ _))⟩ (aC ⟨(by first | omega | (simp (disch := omega) only [wrapI]; omega)), (by first | omega | (simp (disch := omega) only [wrapI]; omega))⟩ (aC (decide_eq_true (by first | omega | (simp (disch := omega) only [wrapI]; omega))) (AllP_nil)))))))

set_option maxHeartbeats 1000000 in
theorem smLast (w : World) (rw : List Nat) (β0 : Env) (kn : Nat) (key : List Int) (n : Nat) (L : List Value) (cap0 cap1 : Nat) (G W S : List Value) : Run Try.prog ⟨w, rw, 2, β0⟩ smC (smMk kn key n L cap0 cap1 n (G, W, S)) (To ⟨w, rw, 2, β0⟩ (.exit 0) ⟨sparse 48 [(0, .o (.a (.sl 0 0 kn cap0))), (1, .o (.a (.sl 1 0 n cap1))), (4, .o (.a (.b false))), (5, .o (.a (.p 2 0))), (6, .o (.a (.rs 5 0 n 1))), (7, .o (.a (.i .i64 ((n : Nat) : Int))))], [some ⟨false, [.ints .u8 kn key]⟩, some ⟨false, [.vals n L]⟩, some ⟨true, [.rs 3 0 n 1, .rs 4 0 n 1, .raw (.slice none 0 0), .raw (.slice none 0 0), .raw (.slice none 0 0), .raw (.slice none 0 0), .raw (.slice none 0 0), .raw (.slice none 0 0), .raw (.slice none 0 0), .raw (.slice none 0 0), .raw (.slice none 0 0), .raw (.slice none 0 0), .raw (.slice none 0 0), .raw (.slice none 0 0), .raw (.slice none 0 0), .raw (.slice none 0 0), .raw (.slice none 0 0), .raw (.slice none 0 0), .raw (.slice none 0 0), .raw (.slice none 0 0), .raw (.slice none 0 0), .raw (.slice none 0 0), .raw (.slice none 0 0), .raw (.slice none 0 0), .raw (.slice none 0 0), .raw (.slice none 0 0), .raw (.slice none 0 0), .raw (.slice none 0 0), .raw (.slice none 0 0), .raw (.slice none 0 0)]⟩, some ⟨true, [.vals n G]⟩, some ⟨true, [.vals n W]⟩, some ⟨true, [.vals n S]⟩]⟩) :=
  Run.of_outTAt (B := ⟨w, rw, 2, β0⟩) (Λ := noLam) (Ψ := noPsi) (fuel := 0) (ora := [false]) (c := smC) (st := (smMk kn key n L cap0 cap1 n (G, W, S))) (l := [.forget [0, 1, 4, 5, 6, 7] 6]) (s' := ⟨sparse 48 [(0, .o (.a (.sl 0 0 kn cap0))), (1, .o (.a (.sl 1 0 n cap1))), (4, .o (.a (.b false))), (5, .o (.a (.p 2 0))), (6, .o (.a (.rs 5 0 n 1))), (7, .o (.a (.i .i64 ((n : Nat) : Int))))], [some ⟨false, [.ints .u8 kn key]⟩, some ⟨false, [.vals n L]⟩, some ⟨true, [.rs 3 0 n 1, .rs 4 0 n 1, .raw (.slice none 0 0), .raw (.slice none 0 0), .raw (.slice none 0 0), .raw (.slice none 0 0), .raw (.slice none 0 0), .raw (.slice none 0 0), .raw (.slice none 0 0), .raw (.slice none 0 0), .raw (.slice none 0 0), .raw (.slice none 0 0), .raw (.slice none 0 0), .raw (.slice none 0 0), .raw (.slice none 0 0), .raw (.slice none 0 0), .raw (.slice none 0 0), .raw (.slice none 0 0), .raw (.slice none 0 0), .raw (.slice none 0 0), .raw (.slice none 0 0), .raw (.slice none 0 0), .raw (.slice none 0 0), .raw (.slice none 0 0), .raw (.slice none 0 0), .raw (.slice none 0 0), .raw (.slice none 0 0), .raw (.slice none 0 0), .raw (.slice none 0 0), .raw (.slice none 0 0)]⟩, some ⟨true, [.vals n G]⟩, some ⟨true, [.vals n W]⟩, some ⟨true, [.vals n S]⟩]⟩) (ex := (.exit 0)) mix tabOkUG (gimp_ok (t := 22) (mk := mkS ⟨w, rw, 2, β0⟩ .u8) (gam625_ok.at _ _) fun v m => mkS_ok v m)
    (vc := [((decide (((n : Nat) : Int) < ((n : Nat) : Int))) = false)]) (by kernel_rfl)
    (aC (decide_eq_false (by first | omega | (simp (disch := omega) only [wrapI]; omega))) (AllP_nil))

noncomputable def smS0 (kn : Nat) (key : List Int) (n : Nat) (L : List Value) (cap0 cap1 : Nat) : St := ⟨sparse 48 [(0, .o (.a (.sl 0 0 kn cap0))), (1, .o (.a (.sl 1 0 n cap1)))], [some ⟨false, [.ints .u8 kn key]⟩, some ⟨false, [.vals n L]⟩]⟩

noncomputable def smB : Code := Try.f3.body.getD .skip

noncomputable def smS1 (kn : Nat) (key : List Int) (n : Nat) (L : List Value) (cap0 cap1 : Nat) : St := ⟨sparse 48 [(0, .o (.a (.sl 0 0 kn cap0))), (1, .o (.a (.sl 1 0 n cap1))), (4, .o (.a (.b false)))], [some ⟨false, [.ints .u8 kn key]⟩, some ⟨false, [.vals n L]⟩]⟩

theorem smP0 (w : World) (β : Env) (kn : Nat) (key : List Int) (n : Nat) (L : List Value) (cap0 cap1 : Nat) : Run Try.prog ⟨w, [], 2, β⟩ (fstC smB) (smS0 kn key n L cap0 cap1) (To ⟨w, [], 2, β⟩ .normal (smS1 kn key n L cap0 cap1)) :=
  Run.of_outT (B := ⟨w, [], 2, β⟩) (Λ := noLam) (Ψ := noPsi) (fuel := 0) (ora := []) (c := (fstC smB)) (st := (smS0 kn key n L cap0 cap1)) (l := [.forget [0, 1, 4] 99]) (s' := (smS1 kn key n L cap0 cap1)) (ex := .normal) mix tabOkUG gam625_ok
    (vc := []) (by kernel_rfl)
    (AllP_nil)

noncomputable def smS2 (kn : Nat) (key : List Int) (n : Nat) (L : List Value) (cap0 cap1 : Nat) : St := ⟨sparse 48 [(0, .o (.a (.sl 0 0 kn cap0))), (1, .o (.a (.sl 1 0 n cap1))), (4, .o (.a (.b false))), (5, .o (.a (.p 2 0)))], [some ⟨false, [.ints .u8 kn key]⟩, some ⟨false, [.vals n L]⟩, some ⟨true, [.raw (.slice none 0 0), .raw (.slice none 0 0), .raw (.slice none 0 0), .raw (.slice none 0 0), .raw (.slice none 0 0), .raw (.slice none 0 0), .raw (.slice none 0 0), .raw (.slice none 0 0), .raw (.slice none 0 0), .raw (.slice none 0 0), .raw (.slice none 0 0), .raw (.slice none 0 0), .raw (.slice none 0 0), .raw (.slice none 0 0), .raw (.slice none 0 0), .raw (.slice none 0 0), .raw (.slice none 0 0), .raw (.slice none 0 0), .raw (.slice none 0 0), .raw (.slice none 0 0), .raw (.slice none 0 0), .raw (.slice none 0 0), .raw (.slice none 0 0), .raw (.slice none 0 0), .raw (.slice none 0 0), .raw (.slice none 0 0), .raw (.slice none 0 0), .raw (.slice none 0 0), .raw (.slice none 0 0), .raw (.slice none 0 0)]⟩]⟩

theorem smP1 (w : World) (β : Env) (kn : Nat) (key : List Int) (n : Nat) (L : List Value) (cap0 cap1 : Nat) : Run Try.prog ⟨w, [], 2, β⟩ (fstC (sndC smB)) (smS1 kn key n L cap0 cap1) (To ⟨w, [], 2, β⟩ .normal (smS2 kn key n L cap0 cap1)) :=
  Run.of_outT (B := ⟨w, [], 2, β⟩) (Λ := noLam) (Ψ := noPsi) (fuel := 0) (ora := []) (c := (fstC (sndC smB))) (st := (smS1 kn key n L cap0 cap1)) (l := [.forget [0, 1, 4, 5] 99]) (s' := (smS2 kn key n L cap0 cap1)) (ex := .normal) mix tabOkUG gam625_ok
    (vc := []) (by kernel_rfl)
    (AllP_nil)

noncomputable def smS3 (kn : Nat) (key : List Int) (n : Nat) (L : List Value) (cap0 cap1 : Nat) : St := ⟨sparse 48 [(0, .o (.a (.sl 0 0 kn cap0))), (1, .o (.a (.sl 1 0 n cap1))), (4, .o (.a (.b false))), (5, .o (.a (.p 2 0))), (6, .o (.a (.raw (.slice none 0 0))))], [some ⟨false, [.ints .u8 kn key]⟩, some ⟨false, [.vals n L]⟩, some ⟨true, [.raw (.slice none 0 0), .raw (.slice none 0 0), .raw (.slice none 0 0), .raw (.slice none 0 0), .raw (.slice none 0 0), .raw (.slice none 0 0), .raw (.slice none 0 0), .raw (.slice none 0 0), .raw (.slice none 0 0), .raw (.slice none 0 0), .raw (.slice none 0 0), .raw (.slice none 0 0), .raw (.slice none 0 0), .raw (.slice none 0 0), .raw (.slice none 0 0), .raw (.slice none 0 0), .raw (.slice none 0 0), .raw (.slice none 0 0), .raw (.slice none 0 0), .raw (.slice none 0 0), .raw (.slice none 0 0), .raw (.slice none 0 0), .raw (.slice none 0 0), .raw (.slice none 0 0), .raw (.slice none 0 0), .raw (.slice none 0 0), .raw (.slice none 0 0), .raw (.slice none 0 0), .raw (.slice none 0 0), .raw (.slice none 0 0)]⟩]⟩

theorem smP2 (w : World) (β : Env) (kn : Nat) (key : List Int) (n : Nat) (L : List Value) (cap0 cap1 : Nat) : Run Try.prog ⟨w, [], 2, β⟩ (fstC (sndC (sndC smB))) (smS2 kn key n L cap0 cap1) (To ⟨w, [], 2, β⟩ .normal (smS3 kn key n L cap0 cap1)) :=
  Run.of_outT (B := ⟨w, [], 2, β⟩) (Λ := noLam) (Ψ := noPsi) (fuel := 0) (ora := []) (c := (fstC (sndC (sndC smB)))) (st := (smS2 kn key n L cap0 cap1)) (l := [.forget [0, 1, 4, 5, 6] 99]) (s' := (smS3 kn key n L cap0 cap1)) (ex := .normal) mix tabOkUG gam625_ok
    (vc := []) (by kernel_rfl)
    (AllP_nil)

noncomputable def smS4 (kn : Nat) (key : List Int) (n : Nat) (L : List Value) (cap0 cap1 : Nat) : St := ⟨sparse 48 [(0, .o (.a (.sl 0 0 kn cap0))), (1, .o (.a (.sl 1 0 n cap1))), (4, .o (.a (.b false))), (5, .o (.a (.p 2 0))), (6, .o (.a (.rs 5 0 (0 : Nat) 1))), (7, .o (.a (.i .i64 (0 : Int))))], [some ⟨false, [.ints .u8 kn key]⟩, some ⟨false, [.vals n L]⟩, some ⟨true, [.rs 3 0 (0 : Nat) 1, .rs 4 0 (0 : Nat) 1, .raw (.slice none 0 0), .raw (.slice none 0 0), .raw (.slice none 0 0), .raw (.slice none 0 0), .raw (.slice none 0 0), .raw (.slice none 0 0), .raw (.slice none 0 0), .raw (.slice none 0 0), .raw (.slice none 0 0), .raw (.slice none 0 0), .raw (.slice none 0 0), .raw (.slice none 0 0), .raw (.slice none 0 0), .raw (.slice none 0 0), .raw (.slice none 0 0), .raw (.slice none 0 0), .raw (.slice none 0 0), .raw (.slice none 0 0), .raw (.slice none 0 0), .raw (.slice none 0 0), .raw (.slice none 0 0), .raw (.slice none 0 0), .raw (.slice none 0 0), .raw (.slice none 0 0), .raw (.slice none 0 0), .raw (.slice none 0 0), .raw (.slice none 0 0), .raw (.slice none 0 0)]⟩, some ⟨true, [.ints .u8 (0 : Nat) ([] : List Int)]⟩, some ⟨true, [.ints .u8 (0 : Nat) ([] : List Int)]⟩, some ⟨true, [.ints .u8 (0 : Nat) ([] : List Int)]⟩]⟩

theorem smP3 (w : World) (β : Env) (kn : Nat) (key : List Int) (n : Nat) (L : List Value) (cap0 cap1 : Nat) : Run Try.prog ⟨w, [], 2, β⟩ (fstC (fstC (sndC (sndC (sndC smB))))) (smS3 kn key n L cap0 cap1) (To ⟨w, [], 2, β⟩ .normal (smS4 kn key n L cap0 cap1)) :=
  Run.of_outT (B := ⟨w, [], 2, β⟩) (Λ := noLam) (Ψ := noPsi) (fuel := 0) (ora := []) (c := (fstC (fstC (sndC (sndC (sndC smB)))))) (st := (smS3 kn key n L cap0 cap1)) (l := [.rowB 2 0 .u8 1, .rowB 2 1 .u8 1, .rowS 6 .u8 1, .forget [0, 1, 4, 5, 6, 7] 99]) (s' := (smS4 kn key n L cap0 cap1)) (ex := .normal) mix tabOkUG gam625_ok
    (vc := []) (by kernel_rfl)
    (AllP_nil)

theorem smInt {rest : Gam} {w0 : World} {rw : List Nat} (hr : GamAt Try.prog rest w0 rw) : GamAt Try.prog (gtwo 17 28 w0 rw rest) w0 rw := gtwo_ok tabOkKC Try.func17 Try.call17 hr (by
  intro q capL capW L W w β hq hL hW heq hlen hsm
  exact intact_body0 w q capL capW L W hq β hL hW heq hlen hsm)

noncomputable def smRest : Code := (sndC (sndC (sndC (sndC smB))))

theorem smRun (w : World) (rw : List Nat) (β0 : Env) (kn : Nat) (key : List Int) (n : Nat) (L : List Value) (cap0 cap1 : Nat) (G W S : List Value) (hPS : PartsR w rw S n) (hPL : PartsR w rw L n) (hcat : catV w S n = catV w L n) (hcl : (catV w L n).length < 35184372088832) (hkn : kn < 17592186044416) (hn : n < 1099511627776) (D : List (List Int)) (hG : FamR w rw G D) (hW : FamR w rw W D) (hD : D.length = n) (hDs : ∀ x ∈ D, x.length < 70368744177664) (eK : sub (gvB kn key) 0 kn = key) (eKs : sub key 0 kn = key) (eSum : join1 kn key = sumR kn key) : Run Try.prog ⟨w, rw, 2, β0⟩ smRest (smMk kn key n L cap0 cap1 n (G, W, S)) (finP (tabOf tabUG) Try.f3 fun ys _ => ys = [.a (.b true)]) :=
  Run.of_finAt (Λ := noLam) (Ψ := noPsi) (fuel := 0) mix tabOkUG (smInt (gjoin_ok (grjoin_ok (gshort_ok (grshort_ok (gam628_ok.at _ _)))))) (rs := [.tmp 4]) rfl [true, true, true, true, true, true, true, true, true, true, true, true, true, true, true, true] []
    (vc := [(true = true), (True ∧ True), (true = true), ((decide ((shaH ((catV w S n) ++ ([] : List Int))) = (shaH ((catV w L n) ++ ([] : List Int))))) = true), (List.length (contL w (sub G 0 n) n ++ ((sub (gvB kn (sub key 0 kn)) (0 : Nat) (gv0 kn)) :: [])) = (gv0_1 n) ∧ (gv0_1 n) = (gv0_1 n) ∧ (PartsI w rw (sub G 0 n) n ∧ ((((0 : Nat) + (gv0 kn)) ≤ (gv0 kn)) ∧ True)) ∧ (PartsI w rw (sub W 0 n) n ∧ ((((0 : Nat) + (gv0 kn)) ≤ (gv0 kn)) ∧ True)) ∧ (contL w (sub G 0 n) n ++ ((sub (gvB kn (sub key 0 kn)) (0 : Nat) (gv0 kn)) :: [])) = (contL w (sub W 0 n) n ++ ((sub (gvB kn (sub key 0 kn)) (0 : Nat) (gv0 kn)) :: [])) ∧ (∀ l ∈ (contL w (sub G 0 n) n ++ ((sub (gvB kn (sub key 0 kn)) (0 : Nat) (gv0 kn)) :: [])), l.length < 70368744177664) ∧ (gv0_1 n) < 70368744177664), ((decide ((shaH ((catV w S n) ++ ([] : List Int))) = (shaH ((catV w L n) ++ ([] : List Int))))) = true), ((decide ((shaD ((catV w S n) ++ ([] : List Int))) = (shaD ((catV w L n) ++ ([] : List Int))))) = true), ((decide ((shaD ((catV w S n) ++ ([] : List Int))) = (shaD ((catV w L n) ++ ([] : List Int))))) = true), ((n = n) ∧ ((PartsR w rw L n) ∧ True) ∧ ((List.length ((catV w L n) ++ ([] : List Int))) < (70368744177664 : Nat)) ∧ True ∧ (n < (70368744177664 : Nat))), ((decide ((shaD ((catV w S n) ++ ([] : List Int))) = (shaD ((catV w L n) ++ ([] : List Int))))) = true), ((decide ((shaD ((catV w S n) ++ ([] : List Int))) = (shaD ((catV w L n) ++ ([] : List Int))))) = true), ((n = n) ∧ ((PartsR w rw S n) ∧ True) ∧ ((List.length ((catV w S n) ++ ([] : List Int))) < (70368744177664 : Nat)) ∧ True ∧ (n < (70368744177664 : Nat))), ((decide ((shaD ((catV w S n) ++ ([] : List Int))) = (shaD ((catV w L n) ++ ([] : List Int))))) = true), ((decide ((shaD ((catV w S n) ++ ([] : List Int))) = (shaD ((catV w L n) ++ ([] : List Int))))) = true), ((decide ((join1 kn (sub (gvB kn (sub key 0 kn)) (0 : Nat) kn)) = (sumR kn (sub key 0 kn)))) = true), ((decide ((join1 kn (sub (gvB kn (sub key 0 kn)) (0 : Nat) kn)) = (sumR kn (sub key 0 kn)))) = true), ((n = n) ∧ ((PartsR w rw L n) ∧ True) ∧ ((List.length ((catV w L n) ++ ([] : List Int))) < (70368744177664 : Nat)) ∧ True ∧ (n < (70368744177664 : Nat))), ((decide ((join1 kn (sub (gvB kn (sub key 0 kn)) (0 : Nat) kn)) = (sumR kn (sub key 0 kn)))) = true), ((decide ((join1 kn (sub (gvB kn (sub key 0 kn)) (0 : Nat) kn)) = (sumR kn (sub key 0 kn)))) = true), ((n = n) ∧ ((PartsR w rw S n) ∧ True) ∧ ((List.length ((catV w S n) ++ ([] : List Int))) < (70368744177664 : Nat)) ∧ True ∧ (n < (70368744177664 : Nat))), ((decide ((join1 kn (sub (gvB kn (sub key 0 kn)) (0 : Nat) kn)) = (sumR kn (sub key 0 kn)))) = true), ((decide ((join1 kn (sub (gvB kn (sub key 0 kn)) (0 : Nat) kn)) = (sumR kn (sub key 0 kn)))) = true), (((((0 : Nat) + kn) ≤ kn) ∧ True) ∧ ((kn = kn) ∧ (kn < (70368744177664 : Nat)))), (((((0 : Nat) + kn) ≤ (gv0 kn)) ∧ True) ∧ ((kn = kn) ∧ (kn < (140737488355328 : Nat)))), ((True ∧ ((((0 : Nat) + kn) ≤ kn) ∧ True)) ∧ ((n = n) ∧ (n = n) ∧ (kn = kn) ∧ (kn < (17592186044416 : Nat)) ∧ (n < (2199023255552 : Nat)) ∧ (n = n)))]) (by kernel_rfl)
    (aC rfl (aC ⟨trivial, trivial⟩ (aC rfl (aC (decide_eq_true (by simp only [hcat])) (aC ((fam_intact hG hW hD (by show n + 1 = _; rfl) rfl hDs (all1 (sub_lt (by show _ + 3 < _; omega))) (by show n + 1 < _; omega) (by simp only [gv0, Nat.zero_add, Nat.le_refl, true_and, and_true]) (by simp only [gv0, Nat.zero_add, Nat.le_refl, true_and, and_true]))) (aC (decide_eq_true (by simp only [hcat])) (aC (decide_eq_true (by simp only [hcat])) (aC (decide_eq_true (by simp only [hcat])) (aC ⟨rfl, ⟨(hPL), trivial⟩, (by rw [List.append_nil]; omega), trivial, (by first | rfl | omega | (simp only [gv0, gv0_1]; omega))⟩ (aC (decide_eq_true (by simp only [hcat])) (aC (decide_eq_true (by simp only [hcat])) (aC ⟨rfl, ⟨(hPS), trivial⟩, (by rw [List.append_nil, hcat]; omega), trivial, (by first | rfl | omega | (simp only [gv0, gv0_1]; omega))⟩ (aC (decide_eq_true (by simp only [hcat])) (aC (decide_eq_true (by simp only [hcat])) (aC (decide_eq_true (by simp only [eK, eKs]; first | exact eSum | exact eSum.symm)) (aC (decide_eq_true (by simp only [eK, eKs]; first | exact eSum | exact eSum.symm)) (aC ⟨rfl, ⟨(hPL), trivial⟩, (by rw [List.append_nil]; omega), trivial, (by first | rfl | omega | (simp only [gv0, gv0_1]; omega))⟩ (aC (decide_eq_true (by simp only [eK, eKs]; first | exact eSum | exact eSum.symm)) (aC (decide_eq_true (by simp only [eK, eKs]; first | exact eSum | exact eSum.symm)) (aC ⟨rfl, ⟨(hPS), trivial⟩, (by rw [List.append_nil, hcat]; omega), trivial, (by first | rfl | omega | (simp only [gv0, gv0_1]; omega))⟩ (aC (decide_eq_true (by simp only [eK, eKs]; first | exact eSum | exact eSum.symm)) (aC (decide_eq_true (by simp only [eK, eKs]; first | exact eSum | exact eSum.symm)) (aC ⟨⟨(by first | rfl | omega | (simp only [gv0, gv0_1]; omega)), trivial⟩, ⟨rfl, (by first | rfl | omega | (simp only [gv0, gv0_1]; omega))⟩⟩ (aC ⟨⟨(by first | rfl | omega | (simp only [gv0, gv0_1]; omega)), trivial⟩, ⟨rfl, (by first | rfl | omega | (simp only [gv0, gv0_1]; omega))⟩⟩ (aC ⟨⟨trivial, ⟨(by first | rfl | omega | (simp only [gv0, gv0_1]; omega)), trivial⟩⟩, ⟨rfl, rfl, rfl, (by first | rfl | omega | (simp only [gv0, gv0_1]; omega)), (by first | rfl | omega | (simp only [gv0, gv0_1]; omega)), rfl⟩⟩ (AllP_nil))))))))))))))))))))))))))

end Go.Proofs.Ytepimglipelpmaa.X

/- The law Sums: its loop makes a family of copies; the whole. -/
namespace Go.Proofs.Ytepimglipelpmaa.X
open Go Go.Proofs
set_option linter.unusedVariables false
set_option maxRecDepth 100000

def SInv (L : List Value) (C : List (List Int)) (w : World) (rw : List Nat) (k : Nat) (s : List Value × List Value × List Value) : Prop :=
  FamR w rw L C ∧ FamR w rw s.1 (Gv C k) ∧ FamR w rw s.2.1 (Gv C k) ∧ FamR w rw s.2.2 (C.take k)

theorem len_flatten {c : List Int} : ∀ {C : List (List Int)}, c ∈ C → c.length ≤ C.flatten.length
  | [], h => nomatch h
  | d :: C, h => by
    rw [List.flatten_cons, List.length_append]
    rcases List.mem_cons.1 h with rfl | h
    · omega
    · have := len_flatten h; omega
theorem sm_conv {kn : Nat} {key : List Int} {n : Nat} {L : List Value} {cap0 cap1 : Nat} {C : List (List Int)} {w : World} {rw : List Nat} {β0 : Env} {k : Nat} {G W S : List Value} (hC : C.length = n) (hk : k < n)
    (hi : SInv L C w rw k (G, W, S)) {β : Env} {a' : Act} {w' : World} (hR : Rel ⟨w, rw, 2, β0⟩ β (smMd kn key n L cap0 cap1 w k G W S) a' w') :
    ∃ β' s', Rel ⟨w, rw, 2, β0⟩ β' (smMk kn key n L cap0 cap1 (k + 1) s') a' w' ∧ SInv L C w' (ownBlks β' (smMk kn key n L cap0 cap1 (k + 1) s').K) (k + 1) s' := by
  have hkC : k < C.length := by omega
  have hc : contV w (L.getD k undef) = C.getD k [] := hi.1.cont k hkC
  have hlen : lenV (L.getD k undef) = (C.getD k []).length := by
    obtain ⟨_, _, _, hl, _⟩ := hi.1.imp k hkC 0 noEnv
    rw [← hl, hc]
  have eG : sub G 0 k = G := sub_len_all G (by have := hi.2.1.len; rw [Gv_len (by omega)] at this; exact this)
  have eW : sub W 0 k = W := sub_len_all W (by have := hi.2.2.1.len; rw [Gv_len (by omega)] at this; exact this)
  have eS : sub S 0 k = S := sub_len_all S (by have := hi.2.2.2.len; rw [List.length_take] at this; show S.length = k; have h2 : S.length = min k C.length := this; omega)
  obtain ⟨G', hG', h1⟩ := Rel.valued (slots := (smMd kn key n L cap0 cap1 w k G W S).slots) (K := (smMd kn key n L cap0 cap1 w k G W S).K) hR (j := 3) (by rfl) (n := k + 1) (by rfl)
  obtain ⟨W', hW', h2⟩ := h1.valued (j := 4) (by rfl) (n := k + 1) (by rfl)
  obtain ⟨S', hS', h3⟩ := h2.valued (j := 5) (by rfl) (n := k + 1) (by rfl)
  have h4 := h3.forgot [0, 1, 4, 5, 6, 7] 6 (by show 2 ≤ 6; decide)
  have hL : Less (smMd kn key n L cap0 cap1 w k G W S).K (smMk kn key n L cap0 cap1 (k + 1) (G', W', S')).K 6 := Less.of (by rfl)
  have hrw := hR.relw
  have hm3 : ∀ c : List Int, sub (gvB c.length (sub c 0 c.length)) 0 (c.length + 3) = gvB c.length c := fun c => by
    rw [sub_all c _ (Nat.le_refl _)]
    exact sub_all _ _ (by rw [gvB_len rfl]; exact Nat.le_refl _)
  refine ⟨β, (G', W', S'), h4.cast (by rfl), hi.1.move hrw hL, ?_, ?_, ?_⟩
  · have := fam_two hrw hL (L0 := sub G 0 k) (C := Gv C k) (by rw [eG]; exact hi.2.1) (x := .sl 6 0 (gv0 (lenV (L.getD k undef))) (gv0 (lenV (L.getD k undef)))) (p := 0 + gv0 (lenV (L.getD k undef)) ≤ gv0 (lenV (L.getD k undef))) (by rfl) (by rfl) (by omega) hG'
    rw [hlen, hc] at this
    rw [← Gv_step hkC, ← hm3]; exact this
  · have := fam_two hrw hL (L0 := sub W 0 k) (C := Gv C k) (by rw [eW]; exact hi.2.2.1) (x := .rs 7 0 (gv0 (lenV (L.getD k undef))) 1) (p := 0 + gv0 (lenV (L.getD k undef)) ≤ gv0 (lenV (L.getD k undef))) (by rfl) (by rfl) (by omega) hW'
    rw [hlen, hc] at this
    rw [← Gv_step hkC, ← hm3]; exact this
  · have := fam_two hrw hL (L0 := sub S 0 k) (C := C.take k) (by rw [eS]; exact hi.2.2.2) (x := .sl 6 0 (lenV (L.getD k undef)) (gv0 (lenV (L.getD k undef)))) (p := 0 + lenV (L.getD k undef) ≤ gv0 (lenV (L.getD k undef))) (by rfl) (by rfl) (by show 0 + _ ≤ _ + 3; omega) hS'
    rw [hlen, hc] at this
    rw [← take_succ' (d := []) hkC]
    have e : ∀ c : List Int, sub (gvB c.length (sub c 0 c.length)) 0 c.length = c := fun c => by
      rw [sub_all c _ (Nat.le_refl _)]; exact gvB_take rfl
    rw [← e (C.getD k [])] ; exact this

theorem sm_body (w : World) (kn : Nat) (key : List Int) (n : Nat) (L : List Value) (cap0 cap1 : Nat) (hkn : kn < 17592186044416) (hn : n < 1099511627776) (hP : PartsOk w L n) (hl : L.length = n) (hcl : (catV w L n).length < 17592186044416) (β : Env) :
    Body Try.prog (tabOf tabUG) Try.f3 ⟨w, [], 2, β⟩ [.o (.a (.sl 0 0 kn cap0)), .o (.a (.sl 1 0 n cap1))] [some ⟨false, [.ints .u8 kn key]⟩, some ⟨false, [.vals n L]⟩] fun ys _ => ys = [.a (.b true)] := by
  refine Body.lens (c := smB) rfl fun h => ?_
  have hl0 := h.lens 0 _ .u8 kn key rfl (by simp)
  let C := contL w L n
  have hF : FamR w [] L C := FamR.of hl hP.imp
  have hC : C.length = n := contL_len w L n
  have hcat : catV w L n = C.flatten := hF.catEq hC.symm
  have hfl : C.flatten.length < 17592186044416 := by rw [← hcat]; exact hcl
  have hsm : ∀ c ∈ C, c.length < 17592186044416 := fun c hc => Nat.lt_of_le_of_lt (len_flatten hc) hfl
  refine Body.of_run (c := smB) rfl ?_
  rw [show smB = .seq (fstC smB) (.seq (fstC (sndC smB)) (.seq (fstC (sndC (sndC smB))) (.seq (.seq (fstC (fstC (sndC (sndC (sndC smB))))) (.block 0 (.loop smC))) smRest))) from by kernel_rfl]
  refine Run.seqTo (st1 := smS1 kn key n L cap0 cap1) (smP0 w β kn key n L cap0 cap1) ?_
  refine Run.seqTo (smP1 w β kn key n L cap0 cap1) ?_
  refine Run.seqTo (smP2 w β kn key n L cap0 cap1) ?_
  refine Run.famPre (smMk kn key n L cap0 cap1) (SInv L C) n 2 ?_ ?_ ?_ rfl ?_
  · intro w1 rw1 β1 k s hk hi
    obtain ⟨G, W, S⟩ := s
    have hlen : ∀ i, i < n → lenV (L.getD i undef) < 17592186044416 := fun i hin => by
      obtain ⟨_, _, _, hl', _⟩ := hi.1.imp i (by omega) 0 noEnv
      rw [← hl', hi.1.cont i (by omega), List.getD_eq_getElem?_getD, List.getElem?_eq_getElem (by omega)]
      exact hsm _ (List.getElem_mem _)
    refine (smRound w1 rw1 β1 kn key n L cap0 cap1 (fun i hin => hi.1.imp i (by omega)) hlen hn k hk G W S).mono fun e s hp => ⟨hp.1, fun β a w hR => ?_⟩
    obtain ⟨β2, hR2⟩ := hp.2 β a w hR
    exact sm_conv hC hk hi hR2
  · intro w1 rw1 β1 s hi
    exact smLast w1 rw1 β1 kn key n L cap0 cap1 s.1 s.2.1 s.2.2
  · intro w1 rw1 β1 s hi
    obtain ⟨G, W, S⟩ := s
    have hS : FamR w1 rw1 S C := by have := hi.2.2.2; rw [List.take_of_length_le (by omega)] at this; exact this
    have ec : catV w1 S n = catV w1 L n := by rw [hS.catEq hC.symm, hi.1.catEq hC.symm]
    refine smRun w1 rw1 β1 kn key n L cap0 cap1 G W S (hS.toParts hC.symm (by omega)) (hi.1.toParts hC.symm (by omega)) ec (by rw [hi.1.catEq hC.symm]; omega) hkn hn (Gv C n) hi.2.1 hi.2.2.1 (Gv_len (by omega)) (fun x hx => Nat.lt_trans (Gv_small hsm x hx) (by decide)) (gvB_take hl0) (sub_all key kn (by omega)) (by rw [join1_sha hl0 (by omega), sumR_sha hl0 (by omega)])
  · refine (smP3 w β kn key n L cap0 cap1).mono fun e s hp => ⟨hp.1, fun β1 a w1 hR => ?_⟩
    obtain ⟨β2, hR2⟩ := hp.2 β1 a w1 hR
    have h1 := Rel.emptied (slots := (smS4 kn key n L cap0 cap1).slots) (K := (smS4 kn key n L cap0 cap1).K) hR2 (j := 3) (by rfl)
    have h2 := h1.emptied (j := 4) (by rfl)
    have h3 := h2.emptied (j := 5) (by rfl)
    refine ⟨β2, ([], [], []), h3.cast (by rfl), ?_⟩
    have hL : Less (smS4 kn key n L cap0 cap1).K (smMk kn key n L cap0 cap1 0 ([], [], [])).K 6 := Less.of (by rfl)
    exact ⟨hF.move hR2.relw hL, FamR.nil, FamR.nil, FamR.nil⟩
end Go.Proofs.Ytepimglipelpmaa.X

/-
  FOR A PROOF OF AN '..UptoSaid': WHAT THE BOUND GIVES. Copy it as <Name>Bulk.lean (put your seat's Name for Ytepimglipelpmaa, the bound of 'uptoSmall' for 1048576), name it in GOCLAIM.json's 'order' behind <Name>Rows. By an AI agent, Sun Nov 15 2026. No person has read it. No macro, syntax, notation, axiom, sorry.
-/
namespace Go.Proofs.Ytepimglipelpmaa.bulks

theorem one_le {H : Type} (d : DataW H) : 1 ≤ Rows.uptoBulk d := by
  cases d with
  | lit l => cases l <;> simp [Rows.uptoBulk]
  | nil => simp [Rows.uptoBulk]
  | ptr d => simp [Rows.uptoBulk]
  | slice elems spare => simp [Rows.uptoBulk]
  | agg parts => simp [Rows.uptoBulk]
  | iface t d => simp [Rows.uptoBulk]
  | map entries => simp [Rows.uptoBulk]
  | held h => simp [Rows.uptoBulk]

/-- a part's bulk is at most the whole's -/
theorem part_le {H : Type} {d : DataW H} {l : List (DataW H)} (h : d ∈ l) : Rows.uptoBulk d ≤ Rows.uptoBulkAll l := by
  induction l with
  | nil => cases h
  | cons x r ih =>
    simp only [Rows.uptoBulkAll]
    cases List.mem_cons.1 h with
    | inl e => subst e; omega
    | inr e => have := ih e; omega

theorem append {H : Type} (l r : List (DataW H)) : Rows.uptoBulkAll (l ++ r) = Rows.uptoBulkAll l + Rows.uptoBulkAll r := by
  induction l with
  | nil => simp [Rows.uptoBulkAll]
  | cons x l ih => simp only [List.cons_append, Rows.uptoBulkAll, ih]; omega

/-- so many values at the most -/
theorem length_le {H : Type} (l : List (DataW H)) : l.length ≤ Rows.uptoBulkAll l := by
  induction l with
  | nil => simp [Rows.uptoBulkAll]
  | cons x r ih => have := one_le x; simp only [Rows.uptoBulkAll, List.length_cons]; omega

/-- a slice's places, and what they hold -/
theorem slice_le {H : Type} (elems spare : List (DataW H)) : elems.length + spare.length + 1 ≤ Rows.uptoBulk (.slice elems spare) := by
  have h1 := length_le elems
  have h2 := length_le spare
  simp only [Rows.uptoBulk]
  omega
theorem slice_elems {H : Type} (elems spare : List (DataW H)) : Rows.uptoBulkAll elems + 1 ≤ Rows.uptoBulk (.slice elems spare) := by
  simp only [Rows.uptoBulk]
  omega

/-- THE BOUND, as the builder hands it over ('hk') -/
theorem bound {H : Type} {l : List (DataW H)} (hk : Rows.uptoSmall H l = true) : Rows.uptoBulkAll l ≤ 1048576 := by
  simpa [Rows.uptoSmall] using hk

end Go.Proofs.Ytepimglipelpmaa.bulks

