/- Texts of this session, put together (part 6), less what nothing uses. -/
import Derived.Test.YtlmdhjojinkdbaaGK5
import Derived.KernelRfl
import Derived.Test.YtlmdhjojinkdbaaRows
/- A contract by hand: two lists of slices, families in them or not, are looked at and found to show the same. -/
namespace Go.Proofs.Ytlmdhjojinkdbaa.X
open Go Go.Proofs
set_option linter.unusedVariables false

def PartsI (w : World) (rw : List Nat) (L : List Value) (n : Nat) : Prop := ∀ i, i < n → ∀ (k : Nat) (β : Env), ImpOk ⟨w, rw, k, β⟩ (L.getD i undef) .u8 (lenV (L.getD i undef)) (capV (L.getD i undef)) (contV w (L.getD i undef))
def contL (w : World) (L : List Value) (n : Nat) : List (List Int) := (List.range n).map fun i => contV w (L.getD i undef)
def famL (K : Know) (w0 : World) (rw : List Nat) : List Atom → Option (Prop × List (List Int))
  | [] => some (True, [])
  | .vals n L :: r => (match famL K w0 rw r with
    | some (q, C) => some (PartsI w0 rw L n ∧ q, contL w0 L n ++ C)
    | none => none)
  | a :: r => (match famC K a with
    | some (p, l) => (match famL K w0 rw r with
      | some (q, C) => some (p ∧ q, l :: C)
      | none => none)
    | none => none)

theorem famC_mono {K K' : Know} (hk : Knows K K') {a : Atom} {r : Prop × List Int} (h : famC K a = some r) : famC K' a = some r := by
  unfold famC at *
  split at h
  · split at h
    · rename_i b hb; rw [hk _ _ hb]; exact h
    · simp at h
  · split at h
    · rename_i b hb; rw [hk _ _ hb]; exact h
    · simp at h
  · exact h
  · simp at h
theorem famL_mono {K K' : Know} {w0 : World} {rw : List Nat} (hk : Knows K K') : ∀ {l : List Atom} {r : Prop × List (List Int)}, famL K w0 rw l = some r → famL K' w0 rw l = some r
  | [], _, h => h
  | a :: l, r, h => by
    have one : (match famC K a with
        | some (p, x) => (match famL K w0 rw l with
          | some (q, C) => some (p ∧ q, x :: C)
          | none => none)
        | none => none) = some r → (match famC K' a with
        | some (p, x) => (match famL K' w0 rw l with
          | some (q, C) => some (p ∧ q, x :: C)
          | none => none)
        | none => none) = some r := by
      intro h
      split at h
      · rename_i p x h1
        rw [famC_mono hk h1]
        simp only
        split at h
        · rename_i q C h2
          rw [famL_mono hk h2]; exact h
        · simp at h
      · simp at h
    cases a with
    | vals n L =>
      simp only [famL] at h ⊢
      split at h
      · rename_i q C h2
        rw [famL_mono hk h2]; exact h
      · simp at h
    | _ => exact one h

section fam
variable {w0 w : World} {rw : List Nat} {β : Env} {K : Know}

def AllI (w : World) (L : List Value) (C : List (List Int)) : Prop := L.length = C.length ∧ PartsI w [] L C.length ∧ ∀ i, i < C.length → contV w (L.getD i undef) = C.getD i []
theorem AllI.of {L : List Value} {C : List (List Int)} (h : FamR w [] L C) : AllI w L C := ⟨h.len, h.imp, h.cont⟩
theorem AllI.to {L : List Value} {C : List (List Int)} (h : AllI w L C) : FamR w [] L C := ⟨h.1, h.2.1, h.2.2⟩

theorem contL_len (w : World) (L : List Value) (n : Nat) : (contL w L n).length = n := by simp [contL]
theorem contL_get {w : World} {L : List Value} {n i : Nat} (h : i < n) : (contL w L n).getD i [] = contV w (L.getD i undef) := by
  unfold contL
  rw [List.getD_eq_getElem?_getD, List.getElem?_map, List.getElem?_range h]; rfl

theorem famC_all (hR : RelW w0 rw β K w) {a : Atom} {p : Prop} {l : List Int} {cs : List Value} (h : famC K a = some (p, l)) (hp : p) (hc : a.con β cs) : FamR w [] cs [l] := by
  have hpc : partC K w0 rw a = some (1, p, l) := by
    unfold famC at h
    unfold partC
    split at h
    · split at h
      · rename_i b hb
        split at h
        · rename_i hs
          simp only [Option.some.injEq, Prod.mk.injEq] at h; obtain ⟨rfl, rfl⟩ := h
          simp only [hb, hs]
        · simp at h
      · simp at h
    · split at h
      · rename_i b hb
        split at h
        · rename_i hs
          simp only [Option.some.injEq, Prod.mk.injEq] at h; obtain ⟨rfl, rfl⟩ := h
          simp only [hb, hs]
        · simp at h
      · simp at h
    · simp only [Option.some.injEq, Prod.mk.injEq] at h; obtain ⟨rfl, rfl⟩ := h; rfl
    · simp at h
  obtain ⟨h1, h2, h3⟩ := partC_ok hR hpc hp hc
  refine ⟨h1, fun i hi => h2 i hi, fun i hi => ?_⟩
  have : i = 0 := by simp at hi; omega
  subst this
  have : [] ++ contV w (cs.getD 0 undef) = l := h3
  simpa using this

theorem famL_ok (hR : RelW w0 rw β K w) : ∀ {l : List Atom} {p : Prop} {C : List (List Int)} {cs : List Value}, famL K w0 rw l = some (p, C) → p → cons β l cs → FamR w [] cs C
  | [], p, C, cs, h, hp, hc => by
    simp only [famL, Option.some.injEq, Prod.mk.injEq] at h; obtain ⟨rfl, rfl⟩ := h
    have hc : cs = [] := hc
    subst hc; exact FamR.nil
  | a :: l, p, C, cs, h, hp, hc => by
    obtain ⟨x, y, rfl, ha, hr⟩ := hc
    have one : (match famC K a with
        | some (p, x) => (match famL K w0 rw l with
          | some (q, C) => some (p ∧ q, x :: C)
          | none => none)
        | none => none) = some (p, C) → FamR w [] (x ++ y) C := by
      intro h
      split at h
      · rename_i p1 l1 h1
        split at h
        · rename_i q D h2
          simp only [Option.some.injEq, Prod.mk.injEq] at h; obtain ⟨rfl, rfl⟩ := h
          exact (famC_all hR h1 hp.1 ha).app (famL_ok hR h2 hp.2 hr)
        · simp at h
      · simp at h
    cases a with
    | vals n L =>
      simp only [famL] at h
      split at h
      · rename_i q D h2
        simp only [Option.some.injEq, Prod.mk.injEq] at h; obtain ⟨rfl, rfl⟩ := h
        obtain ⟨h3, rfl, _⟩ := ha
        refine FamR.app ?_ (famL_ok hR h2 hp.2 hr)
        have hc : ∀ i, i < n → contV w (x.getD i undef) = contV w0 (x.getD i undef) := fun i hi => contV_move hR.old (hp.1 i hi 0 noEnv)
        refine ⟨by rw [contL_len, h3], fun i hi k β1 => ?_, fun i hi => ?_⟩
        · rw [contL_len] at hi
          rw [hc i hi]
          obtain ⟨base, hv, hlc, hl, hb⟩ := hp.1 i hi 0 noEnv
          refine ⟨base, hv, hlc, hl, fun h0 => ?_⟩
          obtain ⟨b, off, g1, g2, g3, g4⟩ := hb h0
          have g2 : b < w0.heap.size := g2
          refine ⟨b, off, g1, Nat.lt_of_lt_of_le g2 hR.size, by simp, fun hl0 => ?_⟩
          obtain ⟨arr, ty, fr, k1, k2⟩ := g4 hl0
          exact ⟨arr, ty, fr, (hR.old b g2 g3).trans k1, k2⟩
        · rw [contL_len] at hi
          rw [hc i hi, contL_get hi]
      · simp at h
    | _ => exact one h
end fam

def nilsB (l : List Atom) : Bool := l.all fun a => match a with
  | .raw (.slice none 0 0) => true
  | _ => false
theorem nilsB_ok : ∀ {l : List Atom}, nilsB l = true → l = List.replicate l.length (.raw (.slice none 0 0))
  | [], _ => rfl
  | a :: l, h => by
    unfold nilsB at h
    rw [List.all_cons, Bool.and_eq_true] at h
    have h2 : l = List.replicate l.length (.raw (.slice none 0 0)) := nilsB_ok (l := l) h.2
    have h1 := h.1
    split at h1
    · rw [List.length_cons, List.replicate_succ, ← h2]
    · cases h1

def gtwoE (m : Nat) (w0 : World) (rw : List Nat) (K : Know) (args : List AV) : Option Rx :=
  match args with
  | [.o (.a (.p g 0))] => (match K.at g with
    | some ⟨_, .rs jl 0 q _ :: .rs jw 0 q' _ :: nils⟩ =>
      if nilsB nils = true ∧ nils.length = m then
        (match K.at jl with
        | some bl => (match K.at jw with
          | some bw => (match famL K w0 rw bl.cells with
            | some (p, C) => (match famL K w0 rw bw.cells with
              | some (p', C') => some ⟨some (C.length = q ∧ q' = q ∧ p ∧ p' ∧ C = C' ∧ (∀ l ∈ C, l.length < 70368744177664) ∧ q < 70368744177664), .o (.a (.b true)), [], 0⟩
              | none => none)
            | none => none)
          | none => none)
        | none => none)
      else none
    | _ => none)
  | _ => none
def gtwo (f : FuncId) (m : Nat) (w0 : World) (rw : List Nat) (rest : Gam) : Gam := fun g K n args => if f = g then gtwoE m w0 rw K args else rest g K n args

theorem gtwo_ok {P : Program} {T : Tab} (hT : TabOk P T) {f : FuncId} {fn : Func} (hf : P.funcs[f]? = some fn) (he : ∀ (xas : Array Value) (w : World), (callFunc f xas).run P w = .ok (.enter f xas) w) {m : Nat} {rest : Gam} {w0 : World} {rw : List Nat} (hr : GamAt P rest w0 rw)
    (h : ∀ (q capL capW : Nat) (L W : List Value) (w : World) (β : Env), q < 70368744177664 → PartsI w [] L q → PartsI w [] W q → (∀ k, k < q → contV w (L.getD k undef) = contV w (W.getD k undef)) → (∀ k, k < q → lenV (L.getD k undef) = lenV (W.getD k undef)) → (∀ k, k < q → lenV (L.getD k undef) < 70368744177664) →
      Body P T fn ⟨w, [], 3, β⟩ [.o (.a (.p 0 0))] [some ⟨false, .sl 1 0 q capL :: .sl 2 0 q capW :: List.replicate m (.raw (.slice none 0 0))⟩, some ⟨false, [.vals q L]⟩, some ⟨false, [.vals q W]⟩] fun ys _ => ys = [.a (.b true)])
    (hlt : f < impId := by decide) : GamAt P (gtwo f m w0 rw rest) w0 rw := by
  refine ⟨?_, ?_, ?_, ?_, ?_⟩
  · intro g K n args s hg hs
    unfold gtwo at hs
    split at hs
    · rename_i e; subst e; exact he
    · exact hr.enter _ _ _ _ _ hg hs
  · intro g0 K n args s hg hs hvc β w xs hx hR hn hK
    unfold gtwo at hs
    split at hs
    rotate_left
    · exact hr.calls _ _ _ _ _ hg hs hvc β w xs hx hR hn hK
    rename_i e; subst e
    unfold gtwoE at hs
    split at hs
    rotate_left
    · simp at hs
    rename_i g
    split at hs
    rotate_left
    · simp at hs
    rename_i own jl q z jw q' z' nils hg1
    split at hs
    rotate_left
    · simp at hs
    rename_i hnl
    split at hs
    rotate_left
    · simp at hs
    rename_i bl hbl
    split at hs
    rotate_left
    · simp at hs
    rename_i bw hbw
    split at hs
    rotate_left
    · simp at hs
    rename_i p C hC
    split at hs
    rotate_left
    · simp at hs
    rename_i p' C' hC'
    simp only [Option.some.injEq] at hs; subst hs
    obtain ⟨rfl, rfl, hp, hp', rfl, hsm, hq⟩ := hvc
    obtain ⟨v, rest', rfl, hv, hrest⟩ := hx
    cases hrest
    obtain ⟨L, hL, hdL⟩ := hR.holds jl bl hbl
    obtain ⟨W, hW, hdW⟩ := hR.holds jw bw hbw
    have fL := famL_ok hR hC hp hL
    have fW := famL_ok hR hC' hp' hW
    obtain ⟨G, hG, hdG⟩ := hR.holds g _ hg1
    have hG : cons β (.rs jl 0 C.length z :: .rs jw 0 C.length z' :: nils) G := hG
    obtain ⟨g1, G1, rfl, hg2, hG1⟩ := hG
    obtain ⟨g2, G2, rfl, hg3, hG2⟩ := hG1
    obtain ⟨base1, cap1, rfl, hc1, hb1⟩ := hg2
    obtain ⟨base2, cap2, rfl, hc2, hb2⟩ := hg3
    have hnils := nilsB_ok hnl.1
    rw [hnl.2] at hnils
    rw [hnils] at hG2
    let β' : Env := fun t => if t = 0 then β g else if t = 1 then β jl else if t = 2 then β jw else none
    have hflat : (List.replicate m (Atom.raw (.slice none 0 0))).all Atom.flat = true := by
      rw [List.all_eq_true]; intro x hx; rw [List.eq_of_mem_replicate hx]; rfl
    have hrel : RelW w [] β' [some ⟨false, .sl 1 0 C.length cap1 :: .sl 2 0 C.length cap2 :: List.replicate m (.raw (.slice none 0 0))⟩, some ⟨false, [.vals C.length L]⟩, some ⟨false, [.vals C.length W]⟩] w := by
      refine RelW.ofRead fun i bk hi => ?_
      have cases3 : (i = 0 ∧ bk = ⟨false, .sl 1 0 C.length cap1 :: .sl 2 0 C.length cap2 :: List.replicate m (.raw (.slice none 0 0))⟩) ∨ (i = 1 ∧ bk = ⟨false, [.vals C.length L]⟩) ∨ (i = 2 ∧ bk = ⟨false, [.vals C.length W]⟩) := by
        match i, hi with
        | 0, hi => exact .inl ⟨rfl, (Option.some.inj hi).symm⟩
        | 1, hi => exact .inr (.inl ⟨rfl, (Option.some.inj hi).symm⟩)
        | 2, hi => exact .inr (.inr ⟨rfl, (Option.some.inj hi).symm⟩)
        | i + 3, hi => simp [Know.at] at hi
      rcases cases3 with ⟨rfl, rfl⟩ | ⟨rfl, rfl⟩ | ⟨rfl, rfl⟩
      · refine ⟨rfl, ⟨_, ⟨_, _, rfl, ⟨base1, rfl, hc1, fun h0 => ?_⟩, ⟨_, _, rfl, ⟨base2, rfl, hc2, fun h0 => ?_⟩, cons_flat hflat hG2⟩⟩, ?_⟩, fun r hr' => hR.live g _ r hg1 hr'⟩
        · obtain ⟨r, k1, k2, _⟩ := hb1 h0; exact ⟨r, k1, k2⟩
        · obtain ⟨r, k1, k2, _⟩ := hb2 h0; exact ⟨r, k1, k2⟩
        · rcases hdG with ⟨k1, _⟩ | ⟨r, arr, ty, fr, k1, k2, k3, k4, k5, _⟩
          · exact .inl ⟨k1, .inl rfl⟩
          · exact .inr ⟨r, arr, ty, fr, k1, k2, k3, k4, k5, fun h => by cases h⟩
      · refine ⟨rfl, ⟨L, cons_single.2 ⟨fL.len, rfl, cons_one hL⟩, ?_⟩, fun r hr' => hR.live jl _ r hbl hr'⟩
        rcases hdL with ⟨k1, _⟩ | ⟨r, arr, ty, fr, k1, k2, k3, k4, k5, _⟩
        · exact .inl ⟨k1, .inl rfl⟩
        · exact .inr ⟨r, arr, ty, fr, k1, k2, k3, k4, k5, fun h => by cases h⟩
      · refine ⟨rfl, ⟨W, cons_single.2 ⟨fW.len, rfl, cons_one hW⟩, ?_⟩, fun r hr' => hR.live jw _ r hbw hr'⟩
        rcases hdW with ⟨k1, _⟩ | ⟨r, arr, ty, fr, k1, k2, k3, k4, k5, _⟩
        · exact .inl ⟨k1, .inl rfl⟩
        · exact .inr ⟨r, arr, ty, fr, k1, k2, k3, k4, k5, fun h => by cases h⟩
    have hall : allC β' [.o (.a (.p 0 0))] [v] := by
      refine ⟨v, [], rfl, ?_, rfl⟩
      obtain ⟨r, h1, h2⟩ := hv
      exact ⟨r, h1, h2⟩
    have hcl : ∀ (X : List Value), FamR w [] X C → ∀ k, k < C.length → lenV (X.getD k undef) = (C.getD k []).length := by
      intro X fX k hk
      obtain ⟨_, _, _, hl, _⟩ := fX.imp k hk 0 noEnv
      rw [← hl, fX.cont k hk]
    have hbody := h C.length cap1 cap2 L W w β' hq fL.imp fW.imp (fun k hk => by rw [fL.cont k hk, fW.cont k hk]) (fun k hk => by rw [hcl L fL k hk, hcl W fW k hk]) (fun k hk => by
      rw [hcl L fL k hk, List.getD_eq_getElem?_getD, List.getElem?_eq_getElem hk]
      exact hsm _ (List.getElem_mem hk))
    refine Calls.mono (calls_of_body hT hf (rw := []) hall hrel hbody) fun e w' he => ?_
    obtain ⟨ys, K', v', β1, rfl, rfl, hv', hrel', _⟩ := he
    exact ⟨v', β, rfl, agree_refl _ _ _, hv', hR.grow hrel'.toGrow⟩
  · intro g0 K K' n args s hg hs hk
    unfold gtwo at hs ⊢
    split at hs
    rotate_left
    · rename_i e; rw [if_neg e]; exact hr.mono _ _ _ _ _ _ hg hs hk
    rename_i e
    rw [if_pos e]
    unfold gtwoE at hs ⊢
    split at hs
    rotate_left
    · simp at hs
    rename_i g
    split at hs
    rotate_left
    · simp at hs
    rename_i own jl q z jw q' z' nils hg1
    simp only [hk _ _ hg1]
    split at hs
    rotate_left
    · simp at hs
    rename_i hnl
    rw [if_pos hnl]
    split at hs
    rotate_left
    · simp at hs
    rename_i bl hbl
    simp only [hk _ _ hbl]
    split at hs
    rotate_left
    · simp at hs
    rename_i bw hbw
    simp only [hk _ _ hbw]
    split at hs
    rotate_left
    · simp at hs
    rename_i p C hC
    simp only [famL_mono hk hC]
    split at hs
    rotate_left
    · simp at hs
    rename_i p' C' hC'
    simp only [famL_mono hk hC']
    exact hs
  · intro g n args s hs
    have hne : ¬ (f = extId + g) := fun e => by
      have h1 : extId ≤ extId + g := Nat.le_add_right _ _
      rw [← e] at h1
      exact Nat.lt_irrefl _ (Nat.lt_of_lt_of_le hlt (Nat.le_trans (by decide : impId ≤ extId) h1))
    unfold gtwo at hs
    rw [if_neg hne] at hs
    exact hr.ext _ _ _ _ hs
  · intro g n v s hg hg2 hs
    have hne : ¬ (f = g) := fun e => by
      have h1 := hlt
      rw [e] at h1
      exact Nat.lt_irrefl _ (Nat.lt_of_lt_of_le h1 hg)
    unfold gtwo at hs
    rw [if_neg hne] at hs
    exact hr.imp _ _ _ _ hg hg2 hs
end Go.Proofs.Ytlmdhjojinkdbaa.X

/- The document's keyed digest: its contract, for whatever list of parts; the same as the program's. -/
namespace Go.Proofs.Ytlmdhjojinkdbaa.X
open Go Go.Proofs
set_option linter.unusedVariables false
set_option maxRecDepth 100000

theorem refM_body (w : World) (kn : Nat) (key : List Int) (n : Nat) (L : List Value) (cap0 cap1 : Nat) (h0 : kn < 70368744177664) (h1 : n + 1 < 4398046511104) (h2 : (catV w L n).length + 128 < 70368744177664) (β : Env) (hP : PartsOk w L n) (hL : L.length = n) :
    Body Try.prog (tabOf tabKF) Try.f17 ⟨w, [], 2, β⟩ [.o (.a (.sl 0 0 kn cap0)), .o (.a (.sl 1 0 n cap1))] [some ⟨false, [.ints .u8 kn key]⟩, some ⟨false, [.vals n L]⟩] (fun ys _ => ys = [.g [.ints .u8 (64 : Nat) (macD key (catV w L n))]]) := by
  refine Body.lens (c := (Try.f17.body.getD .skip)) rfl fun h => ?_
  have hl := h.lens 0 _ .u8 kn key rfl (by simp)
  by_cases hk : kn ≤ 128
  · exact refM0_body0 w kn key n L cap0 cap1 h0 h1 h2 hl hk β hP hL
  · exact refM1_body0 w kn key n L cap0 cap1 h0 h1 h2 hl (by omega) β hP hL
def grmac (w0 : World) (rw : List Nat) (rest : Gam) : Gam := gparts 17 [.s 1] w0 rw (fun vs args m D => match vs, args with
  | [⟨_, _, _, [.ints .u8 knm key]⟩], [a] => some (knm = lenOfA a ∧ lenOfA a < 70368744177664 ∧ m + 1 < 4398046511104 ∧ D.length + 128 < 70368744177664, .g [.ints .u8 64 (macD key D)])
  | _, _ => none) rest
theorem grmac_ok {rest : Gam} {w0 : World} {rw : List Nat} (hr : GamAt Try.prog rest w0 rw) : GamAt Try.prog (grmac w0 rw rest) w0 rw := gparts_ok tabOkKF Try.func17 Try.call17 hr (by
  intro vs args m D p y h hv
  split at h
  · rename_i j c q knm key a
    simp only [Option.some.injEq, Prod.mk.injEq] at h; obtain ⟨rfl, rfl⟩ := h
    refine ⟨rfl, fun caps cap L w β hL hP hD => ?_⟩
    subst hD
    obtain ⟨rfl, h2, h3, h4⟩ := hv
    exact refM_body w _ key m L _ cap h2 h3 h4 β hP hL
  · simp at h)
/-- Intact, whatever was given -/
def gintact (w0 : World) (rw : List Nat) (rest : Gam) : Gam := gtwo 20 28 w0 rw rest
theorem gintact_ok {rest : Gam} {w0 : World} {rw : List Nat} (hr : GamAt Try.prog rest w0 rw) : GamAt Try.prog (gintact w0 rw rest) w0 rw := gtwo_ok tabOkKC Try.func20 Try.call20 hr (by
  intro q capL capW L W w β hq hL hW heq hlen hsm
  exact intact_body0 w q capL capW L W hq β hL hW heq hlen hsm)
end Go.Proofs.Ytlmdhjojinkdbaa.X

/- Printed by a tool of this session. -/
namespace Go.Proofs.Ytlmdhjojinkdbaa.X
open Go Go.Proofs
set_option linter.unusedVariables false
set_option linter.unusedSimpArgs false
set_option maxRecDepth 100000
theorem teKH_3 : TEOk Try.prog 3 ⟨.int .i64, 1, 8, [.i .i64 (0 : Int)], false⟩ :=
  TEOk.of Try.underlying3 (i := Try.t3) (by kernel_rfl) rfl rfl rfl (by kernel_rfl) (fun h => by cases h) (by kernel_rfl)
theorem teKH_5 : TEOk Try.prog 5 ⟨.int .u8, 1, 1, [.i .u8 (0 : Int)], false⟩ :=
  TEOk.of Try.underlying5 (i := Try.t5) (by kernel_rfl) rfl rfl rfl (by kernel_rfl) (fun h => by cases h) (by kernel_rfl)
theorem teKH_22 : TEOk Try.prog 22 ⟨.slice 5, 1, 24, [.raw (.slice none 0 0)], false⟩ :=
  TEOk.of Try.underlying22 (i := Try.t22) (by kernel_rfl) rfl rfl rfl (by kernel_rfl) (fun h => by cases h) (by kernel_rfl)
theorem teKH_23 : TEOk Try.prog 23 ⟨.slice 22, 1, 24, [.raw (.slice none 0 0)], false⟩ :=
  TEOk.of Try.underlying23 (i := Try.t23) (by kernel_rfl) rfl rfl rfl (by kernel_rfl) (fun h => by cases h) (by kernel_rfl)
theorem teKH_32 : TEOk Try.prog 32 ⟨.array 64 5, 64, 64, [.ints .u8 (64 : Nat) ([0, 0, 0, 0, 0, 0, 0, 0, 0, 0, 0, 0, 0, 0, 0, 0, 0, 0, 0, 0, 0, 0, 0, 0, 0, 0, 0, 0, 0, 0, 0, 0, 0, 0, 0, 0, 0, 0, 0, 0, 0, 0, 0, 0, 0, 0, 0, 0, 0, 0, 0, 0, 0, 0, 0, 0, 0, 0, 0, 0, 0, 0, 0, 0] : List Int)], true⟩ :=
  TEOk.of Try.underlying32 (i := Try.t32) (by kernel_rfl) rfl rfl rfl (by kernel_rfl) (fun _ => Try.eqGuardType32) (by kernel_rfl)
noncomputable def tabKH : List (Nat × TE) := [(3, ⟨.int .i64, 1, 8, [.i .i64 (0 : Int)], false⟩), (5, ⟨.int .u8, 1, 1, [.i .u8 (0 : Int)], false⟩), (22, ⟨.slice 5, 1, 24, [.raw (.slice none 0 0)], false⟩), (23, ⟨.slice 22, 1, 24, [.raw (.slice none 0 0)], false⟩), (32, ⟨.array 64 5, 64, 64, [.ints .u8 (64 : Nat) ([0, 0, 0, 0, 0, 0, 0, 0, 0, 0, 0, 0, 0, 0, 0, 0, 0, 0, 0, 0, 0, 0, 0, 0, 0, 0, 0, 0, 0, 0, 0, 0, 0, 0, 0, 0, 0, 0, 0, 0, 0, 0, 0, 0, 0, 0, 0, 0, 0, 0, 0, 0, 0, 0, 0, 0, 0, 0, 0, 0, 0, 0, 0, 0] : List Int)], true⟩)]
theorem tabOkKH : TabOk Try.prog (tabOf tabKH) := (tabOf_cons teKH_3 (tabOf_cons teKH_5 (tabOf_cons teKH_22 (tabOf_cons teKH_23 (tabOf_cons teKH_32 tabOf_nil)))))

set_option maxHeartbeats 1000000 in
theorem refExpN_body0 (kn knm : Nat) (key : List Int) (m mm : Nat) (info : List Int) (N : Int) (cap0 cap1 : Nat) (h0 : (knm = kn)) (h1 : (mm = m)) (h2 : (m < (35184372088832 : Nat))) (h3 : (kn < (35184372088832 : Nat))) (hc0 : kn ≤ cap0) (hc1 : m ≤ cap1) (hl0_0 : List.length key = knm) (hl1_0 : List.length info = mm) (hn : N < 0) (w : World) (rw : List Nat) (β : Env) : Body Try.prog (tabOf tabKH) Try.f16 ⟨w, rw, 2, β⟩ [.o (.a (.sl 0 0 kn cap0)), .o (.a (.sl 1 0 m cap1)), .o (.a (.i .i64 N))] [some ⟨false, [.ints .u8 knm key]⟩, some ⟨false, [.ints .u8 mm info]⟩] (fun ys K' => ys = [.a (.rs 2 0 (exN N) 1), .a (.i .i64 (exE N))] ∧ K' = [some ⟨false, [.ints .u8 knm key]⟩, some ⟨false, [.ints .u8 mm info]⟩, some ⟨true, [.ints .u8 (exM N) (exR key info N)]⟩]) :=
  Body.of_finKAt (Γ := (grmac w rw gam306)) (Λ := noLam) (Ψ := noPsi) (fuel := 0) (m := 37) (c := (Try.f16.body.getD .skip)) mix tabOkKH (grmac_ok (gam306_ok.at _ _)) rfl (rs := [.tmp 6, .tmp 7]) rfl rfl [true] [.rowS 6 .u8 1, .eqS 6 (.o (.a (.rs 2 0 (exN N) 1))), .eqS 7 (.o (.a (.i .i64 (exE N)))), .eqB 2 (⟨true, [.ints .u8 (exM N) (exR key info N)]⟩)] 3
    (vc := [((some ⟨true, [.ints .u8 (0 : Nat) ([] : List Int)]⟩ : Option Blk) = some ⟨true, [.ints .u8 (exM N) (exR key info N)]⟩), ((.o (.a (.i .i64 (1 : Int))) : AV) = .o (.a (.i .i64 (exE N)))), ((.o (.a (.rs 2 0 (0 : Nat) 1)) : AV) = .o (.a (.rs 2 0 (exN N) 1))), ((decide (N < (0 : Int))) = true)]) (by kernel_rfl)
    (aC ((by unfold exM exR; rw [ex_bad (by omega)]; rfl)) (aC ((congrArg (fun z => AV.o (.a (.i .i64 z))) (by unfold exE; (repeat' split) <;> omega))) (aC ((by unfold exN; rw [ex_bad (by omega)]; rfl)) (aC (decide_eq_true (by first | omega | (simp (disch := omega) only [wrapI]; omega))) (AllP_nil)))))

set_option maxHeartbeats 1000000 in
theorem refExpM_body0 (kn knm : Nat) (key : List Int) (m mm : Nat) (info : List Int) (N : Int) (cap0 cap1 : Nat) (h0 : (knm = kn)) (h1 : (mm = m)) (h2 : (m < (35184372088832 : Nat))) (h3 : (kn < (35184372088832 : Nat))) (hc0 : kn ≤ cap0) (hc1 : m ≤ cap1) (hl0_0 : List.length key = knm) (hl1_0 : List.length info = mm) (hn : 16320 < N) (w : World) (rw : List Nat) (β : Env) : Body Try.prog (tabOf tabKH) Try.f16 ⟨w, rw, 2, β⟩ [.o (.a (.sl 0 0 kn cap0)), .o (.a (.sl 1 0 m cap1)), .o (.a (.i .i64 N))] [some ⟨false, [.ints .u8 knm key]⟩, some ⟨false, [.ints .u8 mm info]⟩] (fun ys K' => ys = [.a (.rs 2 0 (exN N) 1), .a (.i .i64 (exE N))] ∧ K' = [some ⟨false, [.ints .u8 knm key]⟩, some ⟨false, [.ints .u8 mm info]⟩, some ⟨true, [.ints .u8 (exM N) (exR key info N)]⟩]) :=
  Body.of_finKAt (Γ := (grmac w rw gam306)) (Λ := noLam) (Ψ := noPsi) (fuel := 0) (m := 37) (c := (Try.f16.body.getD .skip)) mix tabOkKH (grmac_ok (gam306_ok.at _ _)) rfl (rs := [.tmp 6, .tmp 7]) rfl rfl [false, true] [.rowS 6 .u8 1, .eqS 6 (.o (.a (.rs 2 0 (exN N) 1))), .eqS 7 (.o (.a (.i .i64 (exE N)))), .eqB 2 (⟨true, [.ints .u8 (exM N) (exR key info N)]⟩)] 3
    (vc := [((some ⟨true, [.ints .u8 (0 : Nat) ([] : List Int)]⟩ : Option Blk) = some ⟨true, [.ints .u8 (exM N) (exR key info N)]⟩), ((.o (.a (.i .i64 (113 : Int))) : AV) = .o (.a (.i .i64 (exE N)))), ((.o (.a (.rs 2 0 (0 : Nat) 1)) : AV) = .o (.a (.rs 2 0 (exN N) 1))), ((decide (N > (16320 : Int))) = true), ((decide (N < (0 : Int))) = false)]) (by kernel_rfl)
    (aC ((by unfold exM exR; rw [ex_bad (by omega)]; rfl)) (aC ((congrArg (fun z => AV.o (.a (.i .i64 z))) (by unfold exE; (repeat' split) <;> omega))) (aC ((by unfold exN; rw [ex_bad (by omega)]; rfl)) (aC (decide_eq_true (by first | omega | (simp (disch := omega) only [wrapI]; omega))) (aC (decide_eq_false (by first | omega | (simp (disch := omega) only [wrapI]; omega))) (AllP_nil))))))

noncomputable def refExpZL_mk (kn knm : Nat) (key : List Int) (m mm : Nat) (info : List Int) (N : Int) (cap0 cap1 k : Nat) (s : Unit) : St := ⟨sparse 37 [(0, .o (.a (.sl 0 0 kn cap0))), (1, .o (.a (.sl 1 0 m cap1))), (2, .o (.a (.i .i64 N))), (6, .o (.a (.raw (.slice none 0 0)))), (7, .o (.a (.i .i64 (0 : Int)))), (8, .o (.a (.rs 2 0 ((64 : Nat) * k) 1))), (9, .o (.a (.rs 3 0 (exL k) 1))), (10, .o (.a (.i .i64 (((k + (1 : Nat)) : Nat) : Int))))], [some ⟨false, [.ints .u8 knm key]⟩, some ⟨false, [.ints .u8 mm info]⟩, some ⟨true, [.ints .u8 ((64 : Nat) * k) (exO key info k)]⟩, some ⟨true, [.ints .u8 (exL k) (exT key info k)]⟩]⟩

noncomputable def refExpZL_step (k : Nat) (s : Unit) : Unit :=
  ()

set_option maxHeartbeats 1000000 in
theorem refExpZL_round (kn knm : Nat) (key : List Int) (m mm : Nat) (info : List Int) (N : Int) (cap0 cap1 : Nat) (h0 : (knm = kn)) (h1 : (mm = m)) (h2 : (m < (35184372088832 : Nat))) (h3 : (kn < (35184372088832 : Nat))) (hc0 : kn ≤ cap0) (hc1 : m ≤ cap1) (hl0_0 : List.length key = knm) (hl1_0 : List.length info = mm) (ha : 0 ≤ N) (hb : N ≤ 16320) (w : World) (rw : List Nat) (β : Env) (k : Nat) (hk : k < (rnds N)) (s : Unit) : Run Try.prog ⟨w, rw, 2, β⟩ (loopB Try.f16 0) (refExpZL_mk kn knm key m mm info N cap0 cap1 k s) (To ⟨w, rw, 2, β⟩ .normal (refExpZL_mk kn knm key m mm info N cap0 cap1 (k + 1) (refExpZL_step k s))) := by
  have e0 : ((sub (exO key info k) (0 : Nat) ((64 : Nat) * k)) ++ (sub (exT key info (k + (1 : Nat))) (0 : Nat) (64 : Nat))) = (exO key info (k + (1 : Nat))) := (by have hw := rnds_eq N; first | rfl | omega | exact exO_step rfl | exact wrap_succ (by omega))
  have e1 : (IntKind.i64.wrap ((((k + (1 : Nat)) : Nat) : Int) + (1 : Int))) = (((k + (2 : Nat)) : Nat) : Int) := (by have hw := rnds_eq N; first | rfl | omega | exact exO_step rfl | exact wrap_succ (by omega))
  have e2 : (((64 : Nat) * k) + (64 : Nat)) = ((64 : Nat) * (k + (1 : Nat))) := (by have hw := rnds_eq N; first | rfl | omega | exact exO_step rfl | exact wrap_succ (by omega))
  have h := Run.of_outTAt (B := ⟨w, rw, 2, β⟩) (Λ := noLam) (Ψ := psiOf [(10, [.eqB 6 (⟨true, [.ints .u8 (64 : Nat) (exT key info (k + (1 : Nat)))]⟩)])]) (fuel := 0) (ora := [true, false]) (c := (loopB Try.f16 0)) (st := (refExpZL_mk kn knm key m mm info N cap0 cap1 k s)) (l := [.slrs 9 1, .eqS 9 (.o (.a (.rs 6 0 (exL (k + (1 : Nat))) 1))), .eqB 6 (⟨true, [.ints .u8 (exL (k + (1 : Nat))) (exT key info (k + (1 : Nat)))]⟩), .swap 2 7, .swap 3 6, .forget [0, 1, 2, 6, 7, 8, 9, 10] 4]) (s' := ⟨sparse 37 [(0, .o (.a (.sl 0 0 kn cap0))), (1, .o (.a (.sl 1 0 m cap1))), (2, .o (.a (.i .i64 N))), (6, .o (.a (.raw (.slice none 0 0)))), (7, .o (.a (.i .i64 (0 : Int)))), (8, .o (.a (.rs 2 0 (((64 : Nat) * k) + (64 : Nat)) 1))), (9, .o (.a (.rs 3 0 (exL (k + (1 : Nat))) 1))), (10, .o (.a (.i .i64 (IntKind.i64.wrap ((((k + (1 : Nat)) : Nat) : Int) + (1 : Int))))))], [some ⟨false, [.ints .u8 knm key]⟩, some ⟨false, [.ints .u8 mm info]⟩, some ⟨true, [.ints .u8 (((64 : Nat) * k) + (64 : Nat)) ((sub (exO key info k) (0 : Nat) ((64 : Nat) * k)) ++ (sub (exT key info (k + (1 : Nat))) (0 : Nat) (64 : Nat)))]⟩, some ⟨true, [.ints .u8 (exL (k + (1 : Nat))) (exT key info (k + (1 : Nat)))]⟩]⟩) (ex := .normal) mix tabOkKH (grmac_ok (gam306_ok.at _ _))
    (vc := [((some ⟨true, [.ints .u8 (64 : Nat) (exT key info (k + (1 : Nat)))]⟩ : Option Blk) = some ⟨true, [.ints .u8 (exL (k + (1 : Nat))) (exT key info (k + (1 : Nat)))]⟩), ((.o (.a (.rs 6 0 (64 : Nat) 1)) : AV) = .o (.a (.rs 6 0 (exL (k + (1 : Nat))) 1))), ((64 : Nat) ≤ (64 : Nat)), ((((0 : Nat) + ((64 : Nat) * k)) ≤ ((64 : Nat) * k)) ∧ (((64 : Nat) ≤ (64 : Nat)) ∧ ((64 : Nat) ≤ (64 : Nat))) ∧ (((((64 : Nat) * k) + (64 : Nat)) * (1 : Nat)) ≤ (140737488355328 : Nat))), (((0 : Int) ≤ (0 : Int)) ∧ ((0 : Int) ≤ (64 : Int))), ((some ⟨true, [.ints .u8 (64 : Nat) (macD (sub key 0 kn) ((sub (exT key info k) (0 : Nat) (exL k)) ++ ((sub info 0 m) ++ ([(IntKind.u8.wrap (((k + (1 : Nat)) : Nat) : Int))] : List Int))))]⟩ : Option Blk) = some ⟨true, [.ints .u8 (64 : Nat) (exT key info (k + (1 : Nat)))]⟩), (((3 : Nat) = (3 : Nat)) ∧ ((((0 : Nat) + (exL k)) ≤ (exL k)) ∧ ((((0 : Nat) + m) ≤ mm) ∧ (((1 : Nat) ≤ (1 : Nat)) ∧ True))) ∧ ((List.length ((sub (exT key info k) (0 : Nat) (exL k)) ++ ((sub info 0 m) ++ ([(IntKind.u8.wrap (((k + (1 : Nat)) : Nat) : Int))] : List Int)))) < (70368744177664 : Nat)) ∧ ((((0 : Nat) + kn) ≤ knm) ∧ True) ∧ ((kn = kn) ∧ (kn < (70368744177664 : Nat)) ∧ ((4 : Nat) < (4398046511104 : Nat)) ∧ (((List.length ((sub (exT key info k) (0 : Nat) (exL k)) ++ ((sub info 0 m) ++ ([(IntKind.u8.wrap (((k + (1 : Nat)) : Nat) : Int))] : List Int)))) + (128 : Nat)) < (70368744177664 : Nat)))), ((decide (((((64 : Nat) * k) : Nat) : Int) < N)) = true)]) (by kernel_rfl)
    (aC (rfl) (aC (rfl) (aC (by decide) (aC ⟨(by have hq := rnds_lt hk; have hw := rnds_eq N; have hy := exL_le k; first | omega | (simp (disch := omega) only [wrapI]; omega)), ⟨(by decide), (by decide)⟩, (by have hq := rnds_lt hk; have hw := rnds_eq N; have hy := exL_le k; first | omega | (simp (disch := omega) only [wrapI]; omega))⟩ (aC ⟨(by decide), (by decide)⟩ (aC ((by rw [ex_in (hl0_0.trans h0) (hl1_0.trans h1)])) (aC ⟨rfl, ⟨(by have hq := rnds_lt hk; have hw := rnds_eq N; have hy := exL_le k; first | omega | (simp (disch := omega) only [wrapI]; omega)), ⟨(by have hq := rnds_lt hk; have hw := rnds_eq N; have hy := exL_le k; first | omega | (simp (disch := omega) only [wrapI]; omega)), ⟨(by decide), trivial⟩⟩⟩, (ex_lt (hl1_0.trans h1) h2 _).1, ⟨(by have hq := rnds_lt hk; have hw := rnds_eq N; have hy := exL_le k; first | omega | (simp (disch := omega) only [wrapI]; omega)), trivial⟩, ⟨rfl, (by have hq := rnds_lt hk; have hw := rnds_eq N; have hy := exL_le k; first | omega | (simp (disch := omega) only [wrapI]; omega)), (by decide), (ex_lt (hl1_0.trans h1) h2 _).2⟩⟩ (aC (decide_eq_true (by have hq := rnds_lt hk; omega)) (AllP_nil)))))))))
  rw [e0, e1, e2] at h
  exact h

set_option maxHeartbeats 1000000 in
theorem refExpZL_last (kn knm : Nat) (key : List Int) (m mm : Nat) (info : List Int) (N : Int) (cap0 cap1 : Nat) (h0 : (knm = kn)) (h1 : (mm = m)) (h2 : (m < (35184372088832 : Nat))) (h3 : (kn < (35184372088832 : Nat))) (hc0 : kn ≤ cap0) (hc1 : m ≤ cap1) (hl0_0 : List.length key = knm) (hl1_0 : List.length info = mm) (ha : 0 ≤ N) (hb : N ≤ 16320) (w : World) (rw : List Nat) (β : Env) (s : Unit) : Run Try.prog ⟨w, rw, 2, β⟩ (loopB Try.f16 0) (refExpZL_mk kn knm key m mm info N cap0 cap1 (rnds N) s) (To ⟨w, rw, 2, β⟩ (.exit 0) (refExpZL_mk kn knm key m mm info N cap0 cap1 (rnds N) s)) :=
  Run.of_outTAt (B := ⟨w, rw, 2, β⟩) (Λ := noLam) (Ψ := noPsi) (fuel := 0) (ora := [false]) (l := [.forget [0, 1, 2, 6, 7, 8, 9, 10] 4]) mix tabOkKH (grmac_ok (gam306_ok.at _ _))
    (vc := [((decide (((((64 : Nat) * (rnds N)) : Nat) : Int) < N)) = false)]) (by kernel_rfl)
    (aC (decide_eq_false (by have hq := rnds_ge N; omega)) (AllP_nil))

theorem refExpZL_loop (kn knm : Nat) (key : List Int) (m mm : Nat) (info : List Int) (N : Int) (cap0 cap1 : Nat) (h0 : (knm = kn)) (h1 : (mm = m)) (h2 : (m < (35184372088832 : Nat))) (h3 : (kn < (35184372088832 : Nat))) (hc0 : kn ≤ cap0) (hc1 : m ≤ cap1) (hl0_0 : List.length key = knm) (hl1_0 : List.length info = mm) (ha : 0 ≤ N) (hb : N ≤ 16320) (w : World) (rw : List Nat) (β : Env) (s : Unit) : Run Try.prog ⟨w, rw, 2, β⟩ (.block 0 (.loop (loopB Try.f16 0))) (refExpZL_mk kn knm key m mm info N cap0 cap1 0 s) (To ⟨w, rw, 2, β⟩ .normal (refExpZL_mk kn knm key m mm info N cap0 cap1 (rnds N) (iter (refExpZL_step) (rnds N) s))) :=
  Run.count (fun k => refExpZL_mk kn knm key m mm info N cap0 cap1 k (iter (refExpZL_step) k s)) (rnds N) (fun k hk => refExpZL_round kn knm key m mm info N cap0 cap1 h0 h1 h2 h3 hc0 hc1 hl0_0 hl1_0 ha hb w rw β k hk _) (ex := (.exit 0)) (by simp) (refExpZL_last kn knm key m mm info N cap0 cap1 h0 h1 h2 h3 hc0 hc1 hl0_0 hl1_0 ha hb w rw β _)

set_option maxHeartbeats 1000000 in
theorem refExpZ_body0 (kn knm : Nat) (key : List Int) (m mm : Nat) (info : List Int) (N : Int) (cap0 cap1 : Nat) (h0 : (knm = kn)) (h1 : (mm = m)) (h2 : (m < (35184372088832 : Nat))) (h3 : (kn < (35184372088832 : Nat))) (hc0 : kn ≤ cap0) (hc1 : m ≤ cap1) (hl0_0 : List.length key = knm) (hl1_0 : List.length info = mm) (ha : 0 ≤ N) (hb : N ≤ 16320) (w : World) (rw : List Nat) (β : Env) : Body Try.prog (tabOf tabKH) Try.f16 ⟨w, rw, 2, β⟩ [.o (.a (.sl 0 0 kn cap0)), .o (.a (.sl 1 0 m cap1)), .o (.a (.i .i64 N))] [some ⟨false, [.ints .u8 knm key]⟩, some ⟨false, [.ints .u8 mm info]⟩] (fun ys K' => ys = [.a (.rs 2 0 (exN N) 1), .a (.i .i64 (exE N))] ∧ K' = [some ⟨false, [.ints .u8 knm key]⟩, some ⟨false, [.ints .u8 mm info]⟩, some ⟨true, [.ints .u8 (exM N) (exR key info N)]⟩]) :=
  Body.of_finKAt (Γ := (grmac w rw gam306)) (Λ := lamOf [(0, ⟨[.rowS 8 .u8 1, .rowS 9 .u8 1, .forget [0, 1, 2, 6, 7, 8, 9, 10] 4], .normal, (refExpZL_mk kn knm key m mm info N cap0 cap1 (rnds N) (iter (refExpZL_step) (rnds N) ()))⟩)]) (Ψ := noPsi) (fuel := 0) (m := 37) (c := (Try.f16.body.getD .skip)) mix tabOkKH (grmac_ok (gam306_ok.at _ _)) rfl (rs := [.tmp 6, .tmp 7]) rfl rfl [false, false] [.eqS 6 (.o (.a (.rs 2 0 (exN N) 1))), .eqS 7 (.o (.a (.i .i64 (exE N)))), .eqB 2 (⟨true, [.ints .u8 (exM N) (exR key info N)]⟩)] 3
    (vc := [((some ⟨true, [.ints .u8 ((64 : Nat) * (rnds N)) (exO key info (rnds N))]⟩ : Option Blk) = some ⟨true, [.ints .u8 (exM N) (exR key info N)]⟩), ((.o (.a (.i .i64 (0 : Int))) : AV) = .o (.a (.i .i64 (exE N)))), ((.o (.a (.rs 2 0 (Int.toNat N) 1)) : AV) = .o (.a (.rs 2 0 (exN N) 1))), (((0 : Int) ≤ (0 : Int)) ∧ ((0 : Int) ≤ N) ∧ (N ≤ ((((64 : Nat) * (rnds N)) : Nat) : Int))), (Run Try.prog ⟨w, rw, 2, β⟩ (.block 0 (.loop (loopB Try.f16 0))) (refExpZL_mk kn knm key m mm info N cap0 cap1 0 ()) (To ⟨w, rw, 2, β⟩ .normal (refExpZL_mk kn knm key m mm info N cap0 cap1 (rnds N) (iter (refExpZL_step) (rnds N) ())))), ((decide (N > (16320 : Int))) = false), ((decide (N < (0 : Int))) = false)]) (by kernel_rfl)
    (aC ((by unfold exM exR; rw [ex_ok ha hb]; rfl)) (aC ((congrArg (fun z => AV.o (.a (.i .i64 z))) (by unfold exE; (repeat' split) <;> omega))) (aC ((by unfold exN; rw [ex_ok ha hb]; rfl)) (aC ⟨(by decide), (by first | omega | (simp (disch := omega) only [wrapI]; omega)), (by have hq := rnds_ge N; omega)⟩ (aC (refExpZL_loop kn knm key m mm info N cap0 cap1 h0 h1 h2 h3 hc0 hc1 hl0_0 hl1_0 ha hb w rw β ()) (aC (decide_eq_false (by first | omega | (simp (disch := omega) only [wrapI]; omega))) (aC (decide_eq_false (by first | omega | (simp (disch := omega) only [wrapI]; omega))) (AllP_nil))))))))

theorem refExp_body (kn knm : Nat) (key : List Int) (m mm : Nat) (info : List Int) (N : Int) (cap0 cap1 : Nat) (h0 : (knm = kn)) (h1 : (mm = m)) (h2 : (m < (35184372088832 : Nat))) (h3 : (kn < (35184372088832 : Nat))) (w : World) (rw : List Nat) (β : Env) : Body Try.prog (tabOf tabKH) Try.f16 ⟨w, rw, 2, β⟩ [.o (.a (.sl 0 0 kn cap0)), .o (.a (.sl 1 0 m cap1)), .o (.a (.i .i64 N))] [some ⟨false, [.ints .u8 knm key]⟩, some ⟨false, [.ints .u8 mm info]⟩] (fun ys K' => ys = [.a (.rs 2 0 (exN N) 1), .a (.i .i64 (exE N))] ∧ K' = [some ⟨false, [.ints .u8 knm key]⟩, some ⟨false, [.ints .u8 mm info]⟩, some ⟨true, [.ints .u8 (exM N) (exR key info N)]⟩]) :=
  Body.lens (c := (Try.f16.body.getD .skip)) rfl fun h => by
  by_cases hn : N < 0
  · exact refExpN_body0 kn knm key m mm info N cap0 cap1 h0 h1 h2 h3 (h.caps 0 _ _ _ _ rfl) (h.caps 1 _ _ _ _ rfl) (h.lens 0 _ .u8 knm key rfl (by simp)) (h.lens 1 _ .u8 mm info rfl (by simp)) hn w rw β
  by_cases hm : 16320 < N
  · exact refExpM_body0 kn knm key m mm info N cap0 cap1 h0 h1 h2 h3 (h.caps 0 _ _ _ _ rfl) (h.caps 1 _ _ _ _ rfl) (h.lens 0 _ .u8 knm key rfl (by simp)) (h.lens 1 _ .u8 mm info rfl (by simp)) hm w rw β
  exact refExpZ_body0 kn knm key m mm info N cap0 cap1 h0 h1 h2 h3 (h.caps 0 _ _ _ _ rfl) (h.caps 1 _ _ _ _ rfl) (h.lens 0 _ .u8 knm key rfl (by simp)) (h.lens 1 _ .u8 mm info rfl (by simp)) (by omega) (by omega) w rw β

end Go.Proofs.Ytlmdhjojinkdbaa.X

/- Printed by a tool of this session. -/
namespace Go.Proofs.Ytlmdhjojinkdbaa.X
open Go Go.Proofs
set_option linter.unusedVariables false
set_option linter.unusedSimpArgs false
set_option maxRecDepth 100000
theorem teKI_22 : TEOk Try.prog 22 ⟨.slice 5, 1, 24, [.raw (.slice none 0 0)], false⟩ :=
  TEOk.of Try.underlying22 (i := Try.t22) (by kernel_rfl) rfl rfl rfl (by kernel_rfl) (fun h => by cases h) (by kernel_rfl)
theorem teKI_23 : TEOk Try.prog 23 ⟨.slice 22, 1, 24, [.raw (.slice none 0 0)], false⟩ :=
  TEOk.of Try.underlying23 (i := Try.t23) (by kernel_rfl) rfl rfl rfl (by kernel_rfl) (fun h => by cases h) (by kernel_rfl)
theorem teKI_32 : TEOk Try.prog 32 ⟨.array 64 5, 64, 64, [.ints .u8 (64 : Nat) ([0, 0, 0, 0, 0, 0, 0, 0, 0, 0, 0, 0, 0, 0, 0, 0, 0, 0, 0, 0, 0, 0, 0, 0, 0, 0, 0, 0, 0, 0, 0, 0, 0, 0, 0, 0, 0, 0, 0, 0, 0, 0, 0, 0, 0, 0, 0, 0, 0, 0, 0, 0, 0, 0, 0, 0, 0, 0, 0, 0, 0, 0, 0, 0] : List Int)], true⟩ :=
  TEOk.of Try.underlying32 (i := Try.t32) (by kernel_rfl) rfl rfl rfl (by kernel_rfl) (fun _ => Try.eqGuardType32) (by kernel_rfl)
noncomputable def tabKI : List (Nat × TE) := [(22, ⟨.slice 5, 1, 24, [.raw (.slice none 0 0)], false⟩), (23, ⟨.slice 22, 1, 24, [.raw (.slice none 0 0)], false⟩), (32, ⟨.array 64 5, 64, 64, [.ints .u8 (64 : Nat) ([0, 0, 0, 0, 0, 0, 0, 0, 0, 0, 0, 0, 0, 0, 0, 0, 0, 0, 0, 0, 0, 0, 0, 0, 0, 0, 0, 0, 0, 0, 0, 0, 0, 0, 0, 0, 0, 0, 0, 0, 0, 0, 0, 0, 0, 0, 0, 0, 0, 0, 0, 0, 0, 0, 0, 0, 0, 0, 0, 0, 0, 0, 0, 0] : List Int)], true⟩)]
theorem tabOkKI : TabOk Try.prog (tabOf tabKI) := (tabOf_cons teKI_22 (tabOf_cons teKI_23 (tabOf_cons teKI_32 tabOf_nil)))

set_option maxHeartbeats 1000000 in
theorem extract_body0 (sn snm : Nat) (salt : List Int) (kn knm : Nat) (key : List Int) (cap0 cap1 : Nat) (h0 : (snm = sn)) (h1 : (knm = kn)) (h2 : (sn < (35184372088832 : Nat))) (h3 : (kn < (35184372088832 : Nat))) (hc0 : sn ≤ cap0) (hc1 : kn ≤ cap1) (hl0_0 : List.length salt = snm) (hl1_0 : List.length key = knm) (w : World) (β : Env) : Body Try.prog (tabOf tabKI) Try.f18 ⟨w, [], 2, β⟩ [.o (.a (.sl 0 0 sn cap0)), .o (.a (.sl 1 0 kn cap1))] [some ⟨false, [.ints .u8 snm salt]⟩, some ⟨false, [.ints .u8 knm key]⟩] (fun ys _ => ys = [.g [.ints .u8 (64 : Nat) (macD salt key)]]) :=
  Body.of_finAt (Γ := (gmac w [] (grmac w [] gam306))) (Λ := noLam) (Ψ := noPsi) (fuel := 0) (m := 9) (c := (Try.f18.body.getD .skip)) mix tabOkKI (gmac_ok (grmac_ok (gam306_ok.at _ _))) rfl (rs := [.cell 4 32]) rfl rfl [] [.eqB 2 (⟨true, [.ints .u8 (64 : Nat) (macD salt key)]⟩)]
    (vc := [((some ⟨true, [.ints .u8 (64 : Nat) (macD (sub salt 0 sn) ((sub key 0 kn) ++ ([] : List Int)))]⟩ : Option Blk) = some ⟨true, [.ints .u8 (64 : Nat) (macD salt key)]⟩), (((1 : Nat) = (1 : Nat)) ∧ ((((0 : Nat) + kn) ≤ knm) ∧ True) ∧ ((List.length ((sub key 0 kn) ++ ([] : List Int))) < (70368744177664 : Nat)) ∧ ((((0 : Nat) + sn) ≤ snm) ∧ True) ∧ ((sn = sn) ∧ (sn < (70368744177664 : Nat)) ∧ ((2 : Nat) < (4398046511104 : Nat)) ∧ (((List.length ((sub key 0 kn) ++ ([] : List Int))) + (128 : Nat)) < (70368744177664 : Nat))))]) (by kernel_rfl)
    (aC ((by rw [List.append_nil, sub_all _ _ (Nat.le_of_eq (hl0_0.trans h0)), sub_all _ _ (Nat.le_of_eq (hl1_0.trans h1))])) (aC ⟨rfl, ⟨(by first | omega | (simp (disch := omega) only [wrapI]; omega)), trivial⟩, (by rw [List.append_nil, sub_all _ _ (Nat.le_of_eq (hl1_0.trans h1)), hl1_0]; omega), ⟨(by first | omega | (simp (disch := omega) only [wrapI]; omega)), trivial⟩, ⟨rfl, (by first | omega | (simp (disch := omega) only [wrapI]; omega)), (by decide), (by rw [List.append_nil, sub_all _ _ (Nat.le_of_eq (hl1_0.trans h1)), hl1_0]; omega)⟩⟩ (AllP_nil)))

theorem extract_body (sn snm : Nat) (salt : List Int) (kn knm : Nat) (key : List Int) (cap0 cap1 : Nat) (h0 : (snm = sn)) (h1 : (knm = kn)) (h2 : (sn < (35184372088832 : Nat))) (h3 : (kn < (35184372088832 : Nat))) (w : World) (β : Env) : Body Try.prog (tabOf tabKI) Try.f18 ⟨w, [], 2, β⟩ [.o (.a (.sl 0 0 sn cap0)), .o (.a (.sl 1 0 kn cap1))] [some ⟨false, [.ints .u8 snm salt]⟩, some ⟨false, [.ints .u8 knm key]⟩] (fun ys _ => ys = [.g [.ints .u8 (64 : Nat) (macD salt key)]]) :=
  Body.lens (c := (Try.f18.body.getD .skip)) rfl fun h => extract_body0 sn snm salt kn knm key cap0 cap1 h0 h1 h2 h3 (h.caps 0 _ _ _ _ rfl) (h.caps 1 _ _ _ _ rfl) (h.lens 0 _ .u8 snm salt rfl (by simp)) (h.lens 1 _ .u8 knm key rfl (by simp)) w β

set_option maxHeartbeats 1000000 in
theorem refExtract_body0 (sn snm : Nat) (salt : List Int) (kn knm : Nat) (key : List Int) (cap0 cap1 : Nat) (h0 : (snm = sn)) (h1 : (knm = kn)) (h2 : (sn < (35184372088832 : Nat))) (h3 : (kn < (35184372088832 : Nat))) (hc0 : sn ≤ cap0) (hc1 : kn ≤ cap1) (hl0_0 : List.length salt = snm) (hl1_0 : List.length key = knm) (w : World) (β : Env) : Body Try.prog (tabOf tabKI) Try.f19 ⟨w, [], 2, β⟩ [.o (.a (.sl 0 0 sn cap0)), .o (.a (.sl 1 0 kn cap1))] [some ⟨false, [.ints .u8 snm salt]⟩, some ⟨false, [.ints .u8 knm key]⟩] (fun ys _ => ys = [.g [.ints .u8 (64 : Nat) (macD salt key)]]) :=
  Body.of_finAt (Γ := (gmac w [] (grmac w [] gam306))) (Λ := noLam) (Ψ := noPsi) (fuel := 0) (m := 9) (c := (Try.f19.body.getD .skip)) mix tabOkKI (gmac_ok (grmac_ok (gam306_ok.at _ _))) rfl (rs := [.cell 4 32]) rfl rfl [] [.eqB 2 (⟨true, [.ints .u8 (64 : Nat) (macD salt key)]⟩)]
    (vc := [((some ⟨true, [.ints .u8 (64 : Nat) (macD (sub salt 0 sn) ((sub key 0 kn) ++ ([] : List Int)))]⟩ : Option Blk) = some ⟨true, [.ints .u8 (64 : Nat) (macD salt key)]⟩), (((1 : Nat) = (1 : Nat)) ∧ ((((0 : Nat) + kn) ≤ knm) ∧ True) ∧ ((List.length ((sub key 0 kn) ++ ([] : List Int))) < (70368744177664 : Nat)) ∧ ((((0 : Nat) + sn) ≤ snm) ∧ True) ∧ ((sn = sn) ∧ (sn < (70368744177664 : Nat)) ∧ ((2 : Nat) < (4398046511104 : Nat)) ∧ (((List.length ((sub key 0 kn) ++ ([] : List Int))) + (128 : Nat)) < (70368744177664 : Nat))))]) (by kernel_rfl)
    (aC ((by rw [List.append_nil, sub_all _ _ (Nat.le_of_eq (hl0_0.trans h0)), sub_all _ _ (Nat.le_of_eq (hl1_0.trans h1))])) (aC ⟨rfl, ⟨(by first | omega | (simp (disch := omega) only [wrapI]; omega)), trivial⟩, (by rw [List.append_nil, sub_all _ _ (Nat.le_of_eq (hl1_0.trans h1)), hl1_0]; omega), ⟨(by first | omega | (simp (disch := omega) only [wrapI]; omega)), trivial⟩, ⟨rfl, (by first | omega | (simp (disch := omega) only [wrapI]; omega)), (by decide), (by rw [List.append_nil, sub_all _ _ (Nat.le_of_eq (hl1_0.trans h1)), hl1_0]; omega)⟩⟩ (AllP_nil)))

theorem refExtract_body (sn snm : Nat) (salt : List Int) (kn knm : Nat) (key : List Int) (cap0 cap1 : Nat) (h0 : (snm = sn)) (h1 : (knm = kn)) (h2 : (sn < (35184372088832 : Nat))) (h3 : (kn < (35184372088832 : Nat))) (w : World) (β : Env) : Body Try.prog (tabOf tabKI) Try.f19 ⟨w, [], 2, β⟩ [.o (.a (.sl 0 0 sn cap0)), .o (.a (.sl 1 0 kn cap1))] [some ⟨false, [.ints .u8 snm salt]⟩, some ⟨false, [.ints .u8 knm key]⟩] (fun ys _ => ys = [.g [.ints .u8 (64 : Nat) (macD salt key)]]) :=
  Body.lens (c := (Try.f19.body.getD .skip)) rfl fun h => refExtract_body0 sn snm salt kn knm key cap0 cap1 h0 h1 h2 h3 (h.caps 0 _ _ _ _ rfl) (h.caps 1 _ _ _ _ rfl) (h.lens 0 _ .u8 snm salt rfl (by simp)) (h.lens 1 _ .u8 knm key rfl (by simp)) w β

end Go.Proofs.Ytlmdhjojinkdbaa.X

/- Families that a loop makes, told for the loop's block alone; what a family says to those that read it. -/
namespace Go.Proofs.Ytlmdhjojinkdbaa.X
open Go Go.Proofs
set_option linter.unusedVariables false

def fstC : Code → Code
  | .seq a _ => a
  | c => c
def sndC : Code → Code
  | .seq _ b => b
  | c => c

theorem Run.famQ {P : Program} {σ : Type} {c : Code} {id : Nat} (mk : Nat → σ → St) (Inv : World → List Nat → Nat → σ → Prop) (n kk : Nat)
    (hround : ∀ w rw β0 k s, k < n → Inv w rw k s → Run P ⟨w, rw, kk, β0⟩ c (mk k s) (fun e md => e = .normal ∧
      ∀ β a' w', Rel ⟨w, rw, kk, β0⟩ β md a' w' → ∃ β' s', Rel ⟨w, rw, kk, β0⟩ β' (mk (k + 1) s') a' w' ∧ Inv w' (ownBlks β' (mk (k + 1) s').K) (k + 1) s'))
    (hlast : ∀ w rw β0 s, Inv w rw n s → Run P ⟨w, rw, kk, β0⟩ c (mk n s) (To ⟨w, rw, kk, β0⟩ (.exit id) (mk n s)))
    {w0 : World} {rw0 : List Nat} {β0 : Env} {s0 : σ} (h0 : Inv w0 rw0 0 s0) {β : Env} {a : Act} {w : World} (hR : Rel ⟨w0, rw0, kk, β0⟩ β (mk 0 s0) a w) {Q : Exit → Act → World → Prop}
    (hQ : ∀ w1 rw1 β1 s β a w, Inv w1 rw1 n s → Rel ⟨w1, rw1, kk, β1⟩ β (mk n s) a w →
        (∀ β' st' a' w', Rel ⟨w1, rw1, kk, β1⟩ β' st' a' w' → Rel ⟨w0, rw0, kk, β0⟩ β' st' a' w') → Q .normal a w) : (Code.block id (.loop c)).wp P Q a w := by
  have key : ∀ Q1 : Exit → Act → World → Prop, (∀ w1 rw1 β1 s β a w, Inv w1 rw1 n s → Rel ⟨w1, rw1, kk, β1⟩ β (mk n s) a w →
        (∀ β' st' a' w', Rel ⟨w1, rw1, kk, β1⟩ β' st' a' w' → Rel ⟨w0, rw0, kk, β0⟩ β' st' a' w') → Q1 (.exit id) a w) → ∀ m k, k + m = n → ∀ w1 rw1 β1 s β a w, Inv w1 rw1 k s → Rel ⟨w1, rw1, kk, β1⟩ β (mk k s) a w →
      (∀ β' st' a' w', Rel ⟨w1, rw1, kk, β1⟩ β' st' a' w' → Rel ⟨w0, rw0, kk, β0⟩ β' st' a' w') → Code.rounds P c Q1 (m + 1) a w := by
    intro Q1 hQ1 m
    induction m with
    | zero =>
      intro k hk w1 rw1 β1 s β a w hi hR hback
      have : k = n := by omega
      subst this
      rw [rounds_succ]
      refine hlast w1 rw1 β1 s hi β a w hR _ fun e st' β' a' w' hp hR' => ?_
      obtain ⟨rfl, hw⟩ := hp
      obtain ⟨β2, hR2⟩ := hw β' a' w' hR'
      exact hQ1 w1 rw1 β1 s β2 a' w' hi hR2 hback
    | succ m ih =>
      intro k hk w1 rw1 β1 s β a w hi hR hback
      rw [rounds_succ]
      refine hround w1 rw1 β1 k s (by omega) hi β a w hR _ fun e st' β' a' w' hp hR' => ?_
      obtain ⟨rfl, hconv⟩ := hp
      obtain ⟨β3, s', hR3, hi'⟩ := hconv β' a' w' hR'
      exact ih (k + 1) (by omega) w' (ownBlks β3 (mk (k + 1) s').K) β3 s' β3 a' w' hi' hR3.anew fun β' st' a'' w'' h => hback _ _ _ _ (hR3.back h)
  refine wp_block (wp_loop_rounds (n + 1) (key _ ?_ n 0 (by omega) w0 rw0 β0 s0 β a w h0 hR fun _ _ _ _ h => h))
  intro w1 rw1 β1 s β2 a' w' hi hR2 hback
  show (if id = id then _ else _)
  rw [if_pos rfl]
  exact hQ w1 rw1 β1 s β2 a' w' hi hR2 hback

/-- what stands ahead of the loop, the loop, the rest -/
theorem Run.famPre {P : Program} {σ : Type} {pre c rest : Code} {id : Nat} {post : Ex → St → Prop} (mk : Nat → σ → St) (Inv : World → List Nat → Nat → σ → Prop) (n kk : Nat)
    (hround : ∀ w rw β0 k s, k < n → Inv w rw k s → Run P ⟨w, rw, kk, β0⟩ c (mk k s) (fun e md => e = .normal ∧
      ∀ β a' w', Rel ⟨w, rw, kk, β0⟩ β md a' w' → ∃ β' s', Rel ⟨w, rw, kk, β0⟩ β' (mk (k + 1) s') a' w' ∧ Inv w' (ownBlks β' (mk (k + 1) s').K) (k + 1) s'))
    (hlast : ∀ w rw β0 s, Inv w rw n s → Run P ⟨w, rw, kk, β0⟩ c (mk n s) (To ⟨w, rw, kk, β0⟩ (.exit id) (mk n s)))
    (hrest : ∀ w rw β0 s, Inv w rw n s → Run P ⟨w, rw, kk, β0⟩ rest (mk n s) post)
    {B : Bs} (hkk : B.k = kk) {st : St} (hpre : Run P B pre st (fun e md => e = .normal ∧ ∀ β a' w', Rel B β md a' w' → ∃ β' s', Rel B β' (mk 0 s') a' w' ∧ Inv w' (ownBlks β' (mk 0 s').K) 0 s')) :
    Run P B (.seq (.seq pre (.block id (.loop c))) rest) st post := by
  intro β a w hR Q hq
  refine wp_seq (wp_seq (hpre β a w hR _ fun e st' β' a' w' hp hR' => ?_))
  obtain ⟨rfl, hconv⟩ := hp
  obtain ⟨β2, s', hR2, hi⟩ := hconv β' a' w' hR'
  have hR3 := hR2.anew
  rw [hkk] at hR3
  refine Run.famQ mk Inv n kk hround hlast hi hR3 (fun w1 rw1 β1 s β3 a1 w1' hi1 hR4 hback => ?_)
  exact hrest w1 rw1 β1 s hi1 β3 a1 w1' hR4 Q fun e st5 β5 a5 w5 hp5 hR5 => hq e st5 β5 a5 w5 hp5 (hR2.back (by have := hback _ _ _ _ hR5; rw [hkk]; exact this))

theorem Rel.emptied {B : Bs} {β : Env} {slots : List AV} {K : Know} {a : Act} {w : World} (h : Rel B β ⟨slots, K⟩ a w) {j : Nat} {own : Bool} {k : IntKind} (hb : K.at j = some ⟨own, [.ints k 0 []]⟩) :
    Rel B β ⟨slots, K.set1 j (some ⟨own, [.vals 0 []]⟩)⟩ a w := by
  obtain ⟨L, hL, h1⟩ := h.valued hb (n := 0) rfl
  have : L = [] := List.length_eq_zero_iff.1 (cons_len hL)
  subst this
  exact h1

theorem FamR.contLeq {w : World} {rw : List Nat} {L : List Value} {C : List (List Int)} (h : FamR w rw L C) {n : Nat} (hn : n = C.length) : contL w L n = C := by
  subst hn
  refine List.ext_getElem? fun i => ?_
  by_cases hi : i < C.length
  · unfold contL
    rw [List.getElem?_map, List.getElem?_range hi, List.getElem?_eq_getElem hi]
    show some (contV w (L.getD i undef)) = _
    rw [h.cont i hi, List.getD_eq_getElem?_getD, List.getElem?_eq_getElem hi]; rfl
  · rw [List.getElem?_eq_none (by rw [contL_len]; omega), List.getElem?_eq_none (by omega)]
theorem FamR.catEq {w : World} {rw : List Nat} {L : List Value} {C : List (List Int)} (h : FamR w rw L C) {n : Nat} (hn : n = C.length) : catV w L n = C.flatten := by
  rw [h.parts n (by omega), hn, List.take_length]
theorem FamR.toParts {w : World} {rw : List Nat} {L : List Value} {C : List (List Int)} (h : FamR w rw L C) {n : Nat} (hn : n = C.length) (hs : C.flatten.length < 70368744177664) : PartsR w rw L n := by
  subst hn
  exact ⟨h.imp, by rw [h.catEq rfl]; exact hs⟩
theorem FamR.of {w : World} {rw : List Nat} {L : List Value} {n : Nat} (hl : L.length = n) (h : PartsI w rw L n) : FamR w rw L (contL w L n) :=
  ⟨by rw [contL_len, hl], fun i hi => h i (by rwa [contL_len] at hi), fun i hi => (contL_get (by rwa [contL_len] at hi)).symm⟩
end Go.Proofs.Ytlmdhjojinkdbaa.X

/- Printed by a tool of this session. -/
namespace Go.Proofs.Ytlmdhjojinkdbaa.X
open Go Go.Proofs
set_option linter.unusedVariables false
set_option linter.unusedSimpArgs false
set_option maxRecDepth 100000
set_option maxHeartbeats 8000000
noncomputable def ent606 : Know → Nat → List AV → Option Rx := gcallE [true, true, true] [.w, .s 1] (fun wk vs args => match wk, vs, args with | [⟨true, [.rs 1 0 q 1, .rs 2 0 q_1 1, .raw (.slice none 0 0), .raw (.slice none 0 0), .raw (.slice none 0 0), .raw (.slice none 0 0), .raw (.slice none 0 0), .raw (.slice none 0 0), .raw (.slice none 0 0), .raw (.slice none 0 0), .raw (.slice none 0 0), .raw (.slice none 0 0), .raw (.slice none 0 0), .raw (.slice none 0 0), .raw (.slice none 0 0), .raw (.slice none 0 0), .raw (.slice none 0 0), .raw (.slice none 0 0), .raw (.slice none 0 0), .raw (.slice none 0 0), .raw (.slice none 0 0), .raw (.slice none 0 0), .raw (.slice none 0 0), .raw (.slice none 0 0), .raw (.slice none 0 0), .raw (.slice none 0 0), .raw (.slice none 0 0), .raw (.slice none 0 0), .raw (.slice none 0 0), .raw (.slice none 0 0)]⟩, ⟨true, [.vals k_ L]⟩, ⟨true, [.vals k__1 W]⟩], [⟨_, _, _, [.ints .u8 nm b]⟩], [.o (.a (.p 0 0)), .o (.a (.sl 3 0 n _))] => some ((q_1 = q) ∧ (k__1 = k_) ∧ (nm = n) ∧ (n < (17592186044416 : Nat)) ∧ (q < (2199023255552 : Nat)) ∧ (q = k_), [.a (.sl 6 0 n (gv0 n))], [some ⟨true, [.rs 4 0 (gv0_1 q) 1, .rs 5 0 (gv0_1 q) 1, .raw (.slice none 0 0), .raw (.slice none 0 0), .raw (.slice none 0 0), .raw (.slice none 0 0), .raw (.slice none 0 0), .raw (.slice none 0 0), .raw (.slice none 0 0), .raw (.slice none 0 0), .raw (.slice none 0 0), .raw (.slice none 0 0), .raw (.slice none 0 0), .raw (.slice none 0 0), .raw (.slice none 0 0), .raw (.slice none 0 0), .raw (.slice none 0 0), .raw (.slice none 0 0), .raw (.slice none 0 0), .raw (.slice none 0 0), .raw (.slice none 0 0), .raw (.slice none 0 0), .raw (.slice none 0 0), .raw (.slice none 0 0), .raw (.slice none 0 0), .raw (.slice none 0 0), .raw (.slice none 0 0), .raw (.slice none 0 0), .raw (.slice none 0 0), .raw (.slice none 0 0)]⟩, none, none, some ⟨false, [.ints .u8 nm b]⟩, some ⟨true, [.vals q (sub L 0 q), .sl 6 0 (gv0 n) (gv0 n)]⟩, some ⟨true, [.vals q (sub W 0 q), .rs 7 0 (gv0 n) 1]⟩, some ⟨true, [.ints .u8 (gv0 n) (gvB n b)]⟩, some ⟨true, [.ints .u8 (gv0 n) (gvB n b)]⟩]) | _, _, _ => none)

theorem ent606_ok : EntOk Try.prog 15 ent606 := gcallE_ent tabOkKB Try.func15 (by
  intro wk vs args p xs K1 h hv
  split at h
  · simp only [Option.some.injEq, Prod.mk.injEq] at h; obtain ⟨rfl, rfl, rfl⟩ := h; obtain ⟨g0, g1, g2, g3, g4, g5⟩ := hv; subst g0; subst g1; exact fun caps w rw β => gv0_body _ _ _ _ _ _ _ _ g2 g3 g4 g5 w rw β
  · simp at h)

noncomputable def ent607 : Know → Nat → List AV → Option Rx := gcallE [true, true, true, true, true] [.w, .s 1] (fun wk vs args => match wk, vs, args with | [⟨true, [.rs 1 0 q 1, .rs 3 0 q_1 1, .raw (.slice none 0 0), .raw (.slice none 0 0), .raw (.slice none 0 0), .raw (.slice none 0 0), .raw (.slice none 0 0), .raw (.slice none 0 0), .raw (.slice none 0 0), .raw (.slice none 0 0), .raw (.slice none 0 0), .raw (.slice none 0 0), .raw (.slice none 0 0), .raw (.slice none 0 0), .raw (.slice none 0 0), .raw (.slice none 0 0), .raw (.slice none 0 0), .raw (.slice none 0 0), .raw (.slice none 0 0), .raw (.slice none 0 0), .raw (.slice none 0 0), .raw (.slice none 0 0), .raw (.slice none 0 0), .raw (.slice none 0 0), .raw (.slice none 0 0), .raw (.slice none 0 0), .raw (.slice none 0 0), .raw (.slice none 0 0), .raw (.slice none 0 0), .raw (.slice none 0 0)]⟩, ⟨true, [.vals k_ L, .sl 2 0 m0 m0_1]⟩, ⟨true, [.ints .u8 m0_2 B0]⟩, ⟨true, [.vals k__1 W, .rs 4 0 m0_3 1]⟩, ⟨true, [.ints .u8 m0_4 D0]⟩], [⟨_, _, _, [.ints .u8 nm b]⟩], [.o (.a (.p 0 0)), .o (.a (.sl 5 0 n _))] => some ((q_1 = q) ∧ (m0_1 = m0) ∧ (m0_2 = m0) ∧ (k__1 = k_) ∧ (m0_3 = m0) ∧ (m0_4 = m0) ∧ (nm = n) ∧ (n < (17592186044416 : Nat)) ∧ (q < (2199023255552 : Nat)) ∧ (q = (k_ + (1 : Nat))), [.a (.sl 8 0 n (gv1 n))], [some ⟨true, [.rs 6 0 (gv1_1 q) 1, .rs 7 0 (gv1_1 q) 1, .raw (.slice none 0 0), .raw (.slice none 0 0), .raw (.slice none 0 0), .raw (.slice none 0 0), .raw (.slice none 0 0), .raw (.slice none 0 0), .raw (.slice none 0 0), .raw (.slice none 0 0), .raw (.slice none 0 0), .raw (.slice none 0 0), .raw (.slice none 0 0), .raw (.slice none 0 0), .raw (.slice none 0 0), .raw (.slice none 0 0), .raw (.slice none 0 0), .raw (.slice none 0 0), .raw (.slice none 0 0), .raw (.slice none 0 0), .raw (.slice none 0 0), .raw (.slice none 0 0), .raw (.slice none 0 0), .raw (.slice none 0 0), .raw (.slice none 0 0), .raw (.slice none 0 0), .raw (.slice none 0 0), .raw (.slice none 0 0), .raw (.slice none 0 0), .raw (.slice none 0 0)]⟩, none, some ⟨true, [.ints .u8 m0 B0]⟩, none, some ⟨true, [.ints .u8 m0 D0]⟩, some ⟨false, [.ints .u8 nm b]⟩, some ⟨true, [.vals k_ L, .sl 2 0 m0 m0, .sl 8 0 (gv1 n) (gv1 n)]⟩, some ⟨true, [.vals k_ W, .rs 4 0 m0 1, .rs 9 0 (gv1 n) 1]⟩, some ⟨true, [.ints .u8 (gv1 n) (gvB n b)]⟩, some ⟨true, [.ints .u8 (gv1 n) (gvB n b)]⟩]) | _, _, _ => none)

theorem ent607_ok : EntOk Try.prog 15 ent607 := gcallE_ent tabOkKB Try.func15 (by
  intro wk vs args p xs K1 h hv
  split at h
  · simp only [Option.some.injEq, Prod.mk.injEq] at h; obtain ⟨rfl, rfl, rfl⟩ := h; obtain ⟨g0, g1, g2, g3, g4, g5, g6, g7, g8, g9⟩ := hv; subst g0; subst g1; subst g2; subst g3; subst g4; subst g5; exact fun caps w rw β => gv1_body _ _ _ _ _ _ _ _ _ _ _ g6 g7 g8 g9 w rw β
  · simp at h)

noncomputable def ent608 : Know → Nat → List AV → Option Rx := gcallE [true, true, true, true, true, true, true] [.w, .s 1] (fun wk vs args => match wk, vs, args with | [⟨true, [.rs 1 0 q 1, .rs 4 0 q_1 1, .raw (.slice none 0 0), .raw (.slice none 0 0), .raw (.slice none 0 0), .raw (.slice none 0 0), .raw (.slice none 0 0), .raw (.slice none 0 0), .raw (.slice none 0 0), .raw (.slice none 0 0), .raw (.slice none 0 0), .raw (.slice none 0 0), .raw (.slice none 0 0), .raw (.slice none 0 0), .raw (.slice none 0 0), .raw (.slice none 0 0), .raw (.slice none 0 0), .raw (.slice none 0 0), .raw (.slice none 0 0), .raw (.slice none 0 0), .raw (.slice none 0 0), .raw (.slice none 0 0), .raw (.slice none 0 0), .raw (.slice none 0 0), .raw (.slice none 0 0), .raw (.slice none 0 0), .raw (.slice none 0 0), .raw (.slice none 0 0), .raw (.slice none 0 0), .raw (.slice none 0 0)]⟩, ⟨true, [.vals k_ L, .sl 2 0 m0 m0_1, .sl 3 0 m1 m1_1]⟩, ⟨true, [.ints .u8 m0_2 B0]⟩, ⟨true, [.ints .u8 m1_2 B1]⟩, ⟨true, [.vals k__1 W, .rs 5 0 m0_3 1, .rs 6 0 m1_3 1]⟩, ⟨true, [.ints .u8 m0_4 D0]⟩, ⟨true, [.ints .u8 m1_4 D1]⟩], [⟨_, _, _, [.ints .u8 nm b]⟩], [.o (.a (.p 0 0)), .o (.a (.sl 7 0 n _))] => some ((q_1 = q) ∧ (m0_1 = m0) ∧ (m1_1 = m1) ∧ (m0_2 = m0) ∧ (m1_2 = m1) ∧ (k__1 = k_) ∧ (m0_3 = m0) ∧ (m1_3 = m1) ∧ (m0_4 = m0) ∧ (m1_4 = m1) ∧ (nm = n) ∧ (n < (17592186044416 : Nat)) ∧ (q < (2199023255552 : Nat)) ∧ (q = (k_ + (2 : Nat))), [.a (.sl 10 0 n (gv2 n))], [some ⟨true, [.rs 8 0 (gv2_1 q) 1, .rs 9 0 (gv2_1 q) 1, .raw (.slice none 0 0), .raw (.slice none 0 0), .raw (.slice none 0 0), .raw (.slice none 0 0), .raw (.slice none 0 0), .raw (.slice none 0 0), .raw (.slice none 0 0), .raw (.slice none 0 0), .raw (.slice none 0 0), .raw (.slice none 0 0), .raw (.slice none 0 0), .raw (.slice none 0 0), .raw (.slice none 0 0), .raw (.slice none 0 0), .raw (.slice none 0 0), .raw (.slice none 0 0), .raw (.slice none 0 0), .raw (.slice none 0 0), .raw (.slice none 0 0), .raw (.slice none 0 0), .raw (.slice none 0 0), .raw (.slice none 0 0), .raw (.slice none 0 0), .raw (.slice none 0 0), .raw (.slice none 0 0), .raw (.slice none 0 0), .raw (.slice none 0 0), .raw (.slice none 0 0)]⟩, none, some ⟨true, [.ints .u8 m0 B0]⟩, some ⟨true, [.ints .u8 m1 B1]⟩, none, some ⟨true, [.ints .u8 m0 D0]⟩, some ⟨true, [.ints .u8 m1 D1]⟩, some ⟨false, [.ints .u8 nm b]⟩, some ⟨true, [.vals k_ L, .sl 2 0 m0 m0, .sl 3 0 m1 m1, .sl 10 0 (gv2 n) (gv2 n)]⟩, some ⟨true, [.vals k_ W, .rs 5 0 m0 1, .rs 6 0 m1 1, .rs 11 0 (gv2 n) 1]⟩, some ⟨true, [.ints .u8 (gv2 n) (gvB n b)]⟩, some ⟨true, [.ints .u8 (gv2 n) (gvB n b)]⟩]) | _, _, _ => none)

theorem ent608_ok : EntOk Try.prog 15 ent608 := gcallE_ent tabOkKB Try.func15 (by
  intro wk vs args p xs K1 h hv
  split at h
  · simp only [Option.some.injEq, Prod.mk.injEq] at h; obtain ⟨rfl, rfl, rfl⟩ := h; obtain ⟨g0, g1, g2, g3, g4, g5, g6, g7, g8, g9, g10, g11, g12, g13⟩ := hv; subst g0; subst g1; subst g2; subst g3; subst g4; subst g5; subst g6; subst g7; subst g8; subst g9; exact fun caps w rw β => gv2_body _ _ _ _ _ _ _ _ _ _ _ _ _ _ g10 g11 g12 g13 w rw β
  · simp at h)

noncomputable def ent609 : Know → Nat → List AV → Option Rx := gcallE [true, true, true, true, true, true, true, true, true] [.w, .s 1] (fun wk vs args => match wk, vs, args with | [⟨true, [.rs 1 0 q 1, .rs 5 0 q_1 1, .raw (.slice none 0 0), .raw (.slice none 0 0), .raw (.slice none 0 0), .raw (.slice none 0 0), .raw (.slice none 0 0), .raw (.slice none 0 0), .raw (.slice none 0 0), .raw (.slice none 0 0), .raw (.slice none 0 0), .raw (.slice none 0 0), .raw (.slice none 0 0), .raw (.slice none 0 0), .raw (.slice none 0 0), .raw (.slice none 0 0), .raw (.slice none 0 0), .raw (.slice none 0 0), .raw (.slice none 0 0), .raw (.slice none 0 0), .raw (.slice none 0 0), .raw (.slice none 0 0), .raw (.slice none 0 0), .raw (.slice none 0 0), .raw (.slice none 0 0), .raw (.slice none 0 0), .raw (.slice none 0 0), .raw (.slice none 0 0), .raw (.slice none 0 0), .raw (.slice none 0 0)]⟩, ⟨true, [.vals k_ L, .sl 2 0 m0 m0_1, .sl 3 0 m1 m1_1, .sl 4 0 m2 m2_1]⟩, ⟨true, [.ints .u8 m0_2 B0]⟩, ⟨true, [.ints .u8 m1_2 B1]⟩, ⟨true, [.ints .u8 m2_2 B2]⟩, ⟨true, [.vals k__1 W, .rs 6 0 m0_3 1, .rs 7 0 m1_3 1, .rs 8 0 m2_3 1]⟩, ⟨true, [.ints .u8 m0_4 D0]⟩, ⟨true, [.ints .u8 m1_4 D1]⟩, ⟨true, [.ints .u8 m2_4 D2]⟩], [⟨_, _, _, [.ints .u8 nm b]⟩], [.o (.a (.p 0 0)), .o (.a (.sl 9 0 n _))] => some ((q_1 = q) ∧ (m0_1 = m0) ∧ (m1_1 = m1) ∧ (m2_1 = m2) ∧ (m0_2 = m0) ∧ (m1_2 = m1) ∧ (m2_2 = m2) ∧ (k__1 = k_) ∧ (m0_3 = m0) ∧ (m1_3 = m1) ∧ (m2_3 = m2) ∧ (m0_4 = m0) ∧ (m1_4 = m1) ∧ (m2_4 = m2) ∧ (nm = n) ∧ (n < (17592186044416 : Nat)) ∧ (q < (2199023255552 : Nat)) ∧ (q = (k_ + (3 : Nat))), [.a (.sl 12 0 n (gv3 n))], [some ⟨true, [.rs 10 0 (gv3_1 q) 1, .rs 11 0 (gv3_1 q) 1, .raw (.slice none 0 0), .raw (.slice none 0 0), .raw (.slice none 0 0), .raw (.slice none 0 0), .raw (.slice none 0 0), .raw (.slice none 0 0), .raw (.slice none 0 0), .raw (.slice none 0 0), .raw (.slice none 0 0), .raw (.slice none 0 0), .raw (.slice none 0 0), .raw (.slice none 0 0), .raw (.slice none 0 0), .raw (.slice none 0 0), .raw (.slice none 0 0), .raw (.slice none 0 0), .raw (.slice none 0 0), .raw (.slice none 0 0), .raw (.slice none 0 0), .raw (.slice none 0 0), .raw (.slice none 0 0), .raw (.slice none 0 0), .raw (.slice none 0 0), .raw (.slice none 0 0), .raw (.slice none 0 0), .raw (.slice none 0 0), .raw (.slice none 0 0), .raw (.slice none 0 0)]⟩, none, some ⟨true, [.ints .u8 m0 B0]⟩, some ⟨true, [.ints .u8 m1 B1]⟩, some ⟨true, [.ints .u8 m2 B2]⟩, none, some ⟨true, [.ints .u8 m0 D0]⟩, some ⟨true, [.ints .u8 m1 D1]⟩, some ⟨true, [.ints .u8 m2 D2]⟩, some ⟨false, [.ints .u8 nm b]⟩, some ⟨true, [.vals k_ L, .sl 2 0 m0 m0, .sl 3 0 m1 m1, .sl 4 0 m2 m2, .sl 12 0 (gv3 n) (gv3 n)]⟩, some ⟨true, [.vals k_ W, .rs 6 0 m0 1, .rs 7 0 m1 1, .rs 8 0 m2 1, .rs 13 0 (gv3 n) 1]⟩, some ⟨true, [.ints .u8 (gv3 n) (gvB n b)]⟩, some ⟨true, [.ints .u8 (gv3 n) (gvB n b)]⟩]) | _, _, _ => none)

theorem ent609_ok : EntOk Try.prog 15 ent609 := gcallE_ent tabOkKB Try.func15 (by
  intro wk vs args p xs K1 h hv
  split at h
  · simp only [Option.some.injEq, Prod.mk.injEq] at h; obtain ⟨rfl, rfl, rfl⟩ := h; obtain ⟨g0, g1, g2, g3, g4, g5, g6, g7, g8, g9, g10, g11, g12, g13, g14, g15, g16, g17⟩ := hv; subst g0; subst g1; subst g2; subst g3; subst g4; subst g5; subst g6; subst g7; subst g8; subst g9; subst g10; subst g11; subst g12; subst g13; exact fun caps w rw β => gv3_body _ _ _ _ _ _ _ _ _ _ _ _ _ _ _ _ _ g14 g15 g16 g17 w rw β
  · simp at h)

noncomputable def ent610 : Know → Nat → List AV → Option Rx := gcallE [true, true, true, true, true, true, true, true, true, true, true] [.w, .s 1] (fun wk vs args => match wk, vs, args with | [⟨true, [.rs 1 0 q 1, .rs 6 0 q_1 1, .raw (.slice none 0 0), .raw (.slice none 0 0), .raw (.slice none 0 0), .raw (.slice none 0 0), .raw (.slice none 0 0), .raw (.slice none 0 0), .raw (.slice none 0 0), .raw (.slice none 0 0), .raw (.slice none 0 0), .raw (.slice none 0 0), .raw (.slice none 0 0), .raw (.slice none 0 0), .raw (.slice none 0 0), .raw (.slice none 0 0), .raw (.slice none 0 0), .raw (.slice none 0 0), .raw (.slice none 0 0), .raw (.slice none 0 0), .raw (.slice none 0 0), .raw (.slice none 0 0), .raw (.slice none 0 0), .raw (.slice none 0 0), .raw (.slice none 0 0), .raw (.slice none 0 0), .raw (.slice none 0 0), .raw (.slice none 0 0), .raw (.slice none 0 0), .raw (.slice none 0 0)]⟩, ⟨true, [.vals k_ L, .sl 2 0 m0 m0_1, .sl 3 0 m1 m1_1, .sl 4 0 m2 m2_1, .sl 5 0 m3 m3_1]⟩, ⟨true, [.ints .u8 m0_2 B0]⟩, ⟨true, [.ints .u8 m1_2 B1]⟩, ⟨true, [.ints .u8 m2_2 B2]⟩, ⟨true, [.ints .u8 m3_2 B3]⟩, ⟨true, [.vals k__1 W, .rs 7 0 m0_3 1, .rs 8 0 m1_3 1, .rs 9 0 m2_3 1, .rs 10 0 m3_3 1]⟩, ⟨true, [.ints .u8 m0_4 D0]⟩, ⟨true, [.ints .u8 m1_4 D1]⟩, ⟨true, [.ints .u8 m2_4 D2]⟩, ⟨true, [.ints .u8 m3_4 D3]⟩], [⟨_, _, _, [.ints .u8 nm b]⟩], [.o (.a (.p 0 0)), .o (.a (.sl 11 0 n _))] => some ((q_1 = q) ∧ (m0_1 = m0) ∧ (m1_1 = m1) ∧ (m2_1 = m2) ∧ (m3_1 = m3) ∧ (m0_2 = m0) ∧ (m1_2 = m1) ∧ (m2_2 = m2) ∧ (m3_2 = m3) ∧ (k__1 = k_) ∧ (m0_3 = m0) ∧ (m1_3 = m1) ∧ (m2_3 = m2) ∧ (m3_3 = m3) ∧ (m0_4 = m0) ∧ (m1_4 = m1) ∧ (m2_4 = m2) ∧ (m3_4 = m3) ∧ (nm = n) ∧ (n < (17592186044416 : Nat)) ∧ (q < (2199023255552 : Nat)) ∧ (q = (k_ + (4 : Nat))), [.a (.sl 14 0 n (gv4 n))], [some ⟨true, [.rs 12 0 (gv4_1 q) 1, .rs 13 0 (gv4_1 q) 1, .raw (.slice none 0 0), .raw (.slice none 0 0), .raw (.slice none 0 0), .raw (.slice none 0 0), .raw (.slice none 0 0), .raw (.slice none 0 0), .raw (.slice none 0 0), .raw (.slice none 0 0), .raw (.slice none 0 0), .raw (.slice none 0 0), .raw (.slice none 0 0), .raw (.slice none 0 0), .raw (.slice none 0 0), .raw (.slice none 0 0), .raw (.slice none 0 0), .raw (.slice none 0 0), .raw (.slice none 0 0), .raw (.slice none 0 0), .raw (.slice none 0 0), .raw (.slice none 0 0), .raw (.slice none 0 0), .raw (.slice none 0 0), .raw (.slice none 0 0), .raw (.slice none 0 0), .raw (.slice none 0 0), .raw (.slice none 0 0), .raw (.slice none 0 0), .raw (.slice none 0 0)]⟩, none, some ⟨true, [.ints .u8 m0 B0]⟩, some ⟨true, [.ints .u8 m1 B1]⟩, some ⟨true, [.ints .u8 m2 B2]⟩, some ⟨true, [.ints .u8 m3 B3]⟩, none, some ⟨true, [.ints .u8 m0 D0]⟩, some ⟨true, [.ints .u8 m1 D1]⟩, some ⟨true, [.ints .u8 m2 D2]⟩, some ⟨true, [.ints .u8 m3 D3]⟩, some ⟨false, [.ints .u8 nm b]⟩, some ⟨true, [.vals k_ L, .sl 2 0 m0 m0, .sl 3 0 m1 m1, .sl 4 0 m2 m2, .sl 5 0 m3 m3, .sl 14 0 (gv4 n) (gv4 n)]⟩, some ⟨true, [.vals k_ W, .rs 7 0 m0 1, .rs 8 0 m1 1, .rs 9 0 m2 1, .rs 10 0 m3 1, .rs 15 0 (gv4 n) 1]⟩, some ⟨true, [.ints .u8 (gv4 n) (gvB n b)]⟩, some ⟨true, [.ints .u8 (gv4 n) (gvB n b)]⟩]) | _, _, _ => none)

theorem ent610_ok : EntOk Try.prog 15 ent610 := gcallE_ent tabOkKB Try.func15 (by
  intro wk vs args p xs K1 h hv
  split at h
  · simp only [Option.some.injEq, Prod.mk.injEq] at h; obtain ⟨rfl, rfl, rfl⟩ := h; obtain ⟨g0, g1, g2, g3, g4, g5, g6, g7, g8, g9, g10, g11, g12, g13, g14, g15, g16, g17, g18, g19, g20, g21⟩ := hv; subst g0; subst g1; subst g2; subst g3; subst g4; subst g5; subst g6; subst g7; subst g8; subst g9; subst g10; subst g11; subst g12; subst g13; subst g14; subst g15; subst g16; subst g17; exact fun caps w rw β => gv4_body _ _ _ _ _ _ _ _ _ _ _ _ _ _ _ _ _ _ _ _ g18 g19 g20 g21 w rw β
  · simp at h)

noncomputable def gam611 : Gam := gfull 15 (selE [.w, .s 1] 3 (ent606) (selE [.w, .s 1] 5 (ent607) (selE [.w, .s 1] 7 (ent608) (selE [.w, .s 1] 9 (ent609) (ent610))))) gam26
theorem gam611_ok : GamOk Try.prog gam611 := gent_ok gam26_ok Try.call15 (selE_ent (ent606_ok) (selE_ent (ent607_ok) (selE_ent (ent608_ok) (selE_ent (ent609_ok) (ent610_ok)))))

end Go.Proofs.Ytlmdhjojinkdbaa.X

/- Families of copies: what Given keeps, and what Intact asks behind some more. -/
namespace Go.Proofs.Ytlmdhjojinkdbaa.X
open Go Go.Proofs
set_option linter.unusedVariables false
set_option maxRecDepth 100000

theorem take_succ' {α : Type} {C : List α} {k : Nat} {d : α} (h : k < C.length) : C.take k ++ [C.getD k d] = C.take (k + 1) := by
  rw [List.take_add_one, List.getElem?_eq_getElem h, List.getD_eq_getElem?_getD, List.getElem?_eq_getElem h]; rfl
def Gv (C : List (List Int)) (k : Nat) : List (List Int) := (C.take k).map fun c => gvB c.length c
theorem Gv_step {C : List (List Int)} {k : Nat} (h : k < C.length) : Gv C k ++ [gvB (C.getD k []).length (C.getD k [])] = Gv C (k + 1) := by
  unfold Gv
  rw [← take_succ' (d := []) h, List.map_append]; rfl
theorem Gv_len {C : List (List Int)} {k : Nat} (h : k ≤ C.length) : (Gv C k).length = k := by
  unfold Gv; rw [List.length_map, List.length_take]; omega
theorem Gv_small {C : List (List Int)} {k : Nat} {B : Nat} (h : ∀ c ∈ C, c.length < B) : ∀ x ∈ Gv C k, x.length < B + 3 := by
  intro x hx
  unfold Gv at hx
  obtain ⟨c, hc, rfl⟩ := List.mem_map.1 hx
  have := h c (List.mem_of_mem_take hc)
  rw [gvB_len rfl]; omega
theorem sub_len_all {α : Type} (L : List α) {n : Nat} (h : L.length = n) : sub L 0 n = L := by
  unfold sub; rw [List.drop_zero, ← h, List.take_length]

/-- what Intact asks where a family of n and some more were given -/
theorem fam_intact {w : World} {rw : List Nat} {G W : List Value} {D : List (List Int)} {n q : Nat} {l l2 : List (List Int)} {p p2 : Prop} (hG : FamR w rw G D) (hW : FamR w rw W D) (hn : D.length = n) (hq : n + l.length = q) (hll : l = l2)
    (hs : ∀ x ∈ D, x.length < 70368744177664) (hs2 : ∀ x ∈ l, x.length < 70368744177664) (hq2 : q < 70368744177664) (hp : p) (hp2 : p2) :
    List.length (contL w (sub G 0 n) n ++ l) = q ∧ q = q ∧ (PartsI w rw (sub G 0 n) n ∧ p) ∧ (PartsI w rw (sub W 0 n) n ∧ p2) ∧ contL w (sub G 0 n) n ++ l = contL w (sub W 0 n) n ++ l2 ∧ (∀ x ∈ contL w (sub G 0 n) n ++ l, x.length < 70368744177664) ∧ q < 70368744177664 := by
  subst hll
  have eG : sub G 0 n = G := sub_len_all G (by rw [hG.len, hn])
  have eW : sub W 0 n = W := sub_len_all W (by rw [hW.len, hn])
  rw [eG, eW, hG.contLeq hn.symm, hW.contLeq hn.symm]
  refine ⟨by rw [List.length_append, hn]; exact hq, rfl, ⟨by rw [← hn]; exact hG.imp, hp⟩, ⟨by rw [← hn]; exact hW.imp, hp2⟩, rfl, fun x hx => ?_, hq2⟩
  rcases List.mem_append.1 hx with h | h
  · exact hs x h
  · exact hs2 x h
theorem all5 {a b c d e : List Int} {B : Nat} (ha : a.length < B) (hb : b.length < B) (hc : c.length < B) (hd : d.length < B) (he : e.length < B) : ∀ x ∈ a :: (b :: (c :: (d :: (e :: [])))), x.length < B := by
  intro x hx
  simp only [List.mem_cons, List.not_mem_nil, or_false] at hx
  rcases hx with rfl | rfl | rfl | rfl | rfl <;> assumption
theorem exN_lt (N : Int) : exN N ≤ 16320 := by
  unfold exN
  cases h : exOk N
  · exact Nat.zero_le _
  · have := of_decide_eq_true h
    show Int.toNat N ≤ _
    omega
theorem sub_lt {l : List Int} {a b B : Nat} (h : b < B) : (sub l a b).length < B := by
  unfold sub; rw [List.length_take]; omega
end Go.Proofs.Ytlmdhjojinkdbaa.X

/- Printed by a tool of this session. -/
namespace Go.Proofs.Ytlmdhjojinkdbaa.X
open Go Go.Proofs
set_option linter.unusedVariables false
set_option linter.unusedSimpArgs false
set_option maxRecDepth 100000
theorem teKK_5 : TEOk Try.prog 5 ⟨.int .u8, 1, 1, [.i .u8 (0 : Int)], false⟩ :=
  TEOk.of Try.underlying5 (i := Try.t5) (by kernel_rfl) rfl rfl rfl (by kernel_rfl) (fun h => by cases h) (by kernel_rfl)
theorem teKK_22 : TEOk Try.prog 22 ⟨.slice 5, 1, 24, [.raw (.slice none 0 0)], false⟩ :=
  TEOk.of Try.underlying22 (i := Try.t22) (by kernel_rfl) rfl rfl rfl (by kernel_rfl) (fun h => by cases h) (by kernel_rfl)
theorem teKK_23 : TEOk Try.prog 23 ⟨.slice 22, 1, 24, [.raw (.slice none 0 0)], false⟩ :=
  TEOk.of Try.underlying23 (i := Try.t23) (by kernel_rfl) rfl rfl rfl (by kernel_rfl) (fun h => by cases h) (by kernel_rfl)
theorem teKK_32 : TEOk Try.prog 32 ⟨.array 64 5, 64, 64, [.ints .u8 (64 : Nat) ([0, 0, 0, 0, 0, 0, 0, 0, 0, 0, 0, 0, 0, 0, 0, 0, 0, 0, 0, 0, 0, 0, 0, 0, 0, 0, 0, 0, 0, 0, 0, 0, 0, 0, 0, 0, 0, 0, 0, 0, 0, 0, 0, 0, 0, 0, 0, 0, 0, 0, 0, 0, 0, 0, 0, 0, 0, 0, 0, 0, 0, 0, 0, 0] : List Int)], true⟩ :=
  TEOk.of Try.underlying32 (i := Try.t32) (by kernel_rfl) rfl rfl rfl (by kernel_rfl) (fun _ => Try.eqGuardType32) (by kernel_rfl)
theorem teKK_50 : TEOk Try.prog 50 ⟨Try.t49.desc, 30, 720, [.raw (.slice none 0 0), .raw (.slice none 0 0), .raw (.slice none 0 0), .raw (.slice none 0 0), .raw (.slice none 0 0), .raw (.slice none 0 0), .raw (.slice none 0 0), .raw (.slice none 0 0), .raw (.slice none 0 0), .raw (.slice none 0 0), .raw (.slice none 0 0), .raw (.slice none 0 0), .raw (.slice none 0 0), .raw (.slice none 0 0), .raw (.slice none 0 0), .raw (.slice none 0 0), .raw (.slice none 0 0), .raw (.slice none 0 0), .raw (.slice none 0 0), .raw (.slice none 0 0), .raw (.slice none 0 0), .raw (.slice none 0 0), .raw (.slice none 0 0), .raw (.slice none 0 0), .raw (.slice none 0 0), .raw (.slice none 0 0), .raw (.slice none 0 0), .raw (.slice none 0 0), .raw (.slice none 0 0), .raw (.slice none 0 0)], false⟩ :=
  TEOk.of Try.underlying50 (i := Try.t50) (by kernel_rfl) rfl rfl rfl (by kernel_rfl) (fun h => by cases h) (by kernel_rfl)
noncomputable def tabKK : List (Nat × TE) := [(5, ⟨.int .u8, 1, 1, [.i .u8 (0 : Int)], false⟩), (22, ⟨.slice 5, 1, 24, [.raw (.slice none 0 0)], false⟩), (23, ⟨.slice 22, 1, 24, [.raw (.slice none 0 0)], false⟩), (32, ⟨.array 64 5, 64, 64, [.ints .u8 (64 : Nat) ([0, 0, 0, 0, 0, 0, 0, 0, 0, 0, 0, 0, 0, 0, 0, 0, 0, 0, 0, 0, 0, 0, 0, 0, 0, 0, 0, 0, 0, 0, 0, 0, 0, 0, 0, 0, 0, 0, 0, 0, 0, 0, 0, 0, 0, 0, 0, 0, 0, 0, 0, 0, 0, 0, 0, 0, 0, 0, 0, 0, 0, 0, 0, 0] : List Int)], true⟩), (50, ⟨Try.t49.desc, 30, 720, [.raw (.slice none 0 0), .raw (.slice none 0 0), .raw (.slice none 0 0), .raw (.slice none 0 0), .raw (.slice none 0 0), .raw (.slice none 0 0), .raw (.slice none 0 0), .raw (.slice none 0 0), .raw (.slice none 0 0), .raw (.slice none 0 0), .raw (.slice none 0 0), .raw (.slice none 0 0), .raw (.slice none 0 0), .raw (.slice none 0 0), .raw (.slice none 0 0), .raw (.slice none 0 0), .raw (.slice none 0 0), .raw (.slice none 0 0), .raw (.slice none 0 0), .raw (.slice none 0 0), .raw (.slice none 0 0), .raw (.slice none 0 0), .raw (.slice none 0 0), .raw (.slice none 0 0), .raw (.slice none 0 0), .raw (.slice none 0 0), .raw (.slice none 0 0), .raw (.slice none 0 0), .raw (.slice none 0 0), .raw (.slice none 0 0)], false⟩)]
theorem tabOkKK : TabOk Try.prog (tabOf tabKK) := (tabOf_cons teKK_5 (tabOf_cons teKK_22 (tabOf_cons teKK_23 (tabOf_cons teKK_32 (tabOf_cons teKK_50 tabOf_nil)))))

noncomputable def gam612 : Gam := gcall 9 [] [] (fun wk vs args => match wk, vs, args with | [], [], [] => some (True, [.a (.b true)], []) | _, _, _ => none) gam611
theorem gam612_ok : GamOk Try.prog gam612 := gcall_ok tabOkDK Try.func9 gam611_ok Try.call9 (by
  intro wk vs args p xs K1 h hv
  split at h
  · simp only [Option.some.injEq, Prod.mk.injEq] at h; obtain ⟨rfl, rfl, rfl⟩ := h; exact fun caps w rw β => alive_body0 w rw β
  · simp at h)

noncomputable def gam613 : Gam := greadV 12 [.s 1, .s 1] (fun vs args => match vs, args with | [⟨_, _, _, [.ints .u8 nm b]⟩, ⟨_, _, _, [.ints .u8 mm c]⟩], [a0, a1] => some ((nm = (lenOfA a0)) ∧ (mm = (lenOfA a1)) ∧ ((lenOfA a1) = (lenOfA a0)) ∧ (b = c) ∧ ((lenOfA a0) < (70368744177664 : Nat)), [.a (.b true)]) | _, _ => none) gam612
theorem gam613_ok : GamOk Try.prog gam613 := greadV_ok tabOkDK Try.func12 gam612_ok Try.call12 (by
  intro vs args p xs h hv
  split at h
  · simp only [Option.some.injEq, Prod.mk.injEq] at h; obtain ⟨rfl, rfl⟩ := h; exact ⟨by rfl, fun caps w β => sameB_body _ _ _ _ _ _ _ _ hv.1 hv.2.1 hv.2.2.1 hv.2.2.2.1 hv.2.2.2.2 w β⟩
  · simp at h)

noncomputable def gam614 : Gam := gcall 10 [] [.s 1, .s 1, .w] (fun wk vs args => match wk, vs, args with | [], [⟨_, _, _, [.ints .u8 knm key]⟩, ⟨_, _, _, [.ints .u8 mm info]⟩], [.o (.a (.sl 0 0 kn _)), .o (.a (.sl 1 0 m _)), .o (.a (.i .i64 N))] => some ((knm = kn) ∧ (mm = m) ∧ (m < (35184372088832 : Nat)) ∧ (kn < (35184372088832 : Nat)), [.a (.rs 2 0 (exN N) 1), .a (.i .i64 (exE N))], [some ⟨false, [.ints .u8 knm key]⟩, some ⟨false, [.ints .u8 mm info]⟩, some ⟨true, [.ints .u8 (exM N) (exR key info N)]⟩]) | _, _, _ => none) gam613
theorem gam614_ok : GamOk Try.prog gam614 := gcall_ok tabOkDP Try.func10 gam613_ok Try.call10 (by
  intro wk vs args p xs K1 h hv
  split at h
  · simp only [Option.some.injEq, Prod.mk.injEq] at h; obtain ⟨rfl, rfl, rfl⟩ := h; obtain ⟨g0, g1, g2, g3⟩ := hv; exact fun caps w rw β => expand_body _ _ _ _ _ _ _ _ _ g0 g1 g2 g3 w rw β
  · simp at h)

noncomputable def gam615 : Gam := gcall 16 [] [.s 1, .s 1, .w] (fun wk vs args => match wk, vs, args with | [], [⟨_, _, _, [.ints .u8 knm key]⟩, ⟨_, _, _, [.ints .u8 mm info]⟩], [.o (.a (.sl 0 0 kn _)), .o (.a (.sl 1 0 m _)), .o (.a (.i .i64 N))] => some ((knm = kn) ∧ (mm = m) ∧ (m < (35184372088832 : Nat)) ∧ (kn < (35184372088832 : Nat)), [.a (.rs 2 0 (exN N) 1), .a (.i .i64 (exE N))], [some ⟨false, [.ints .u8 knm key]⟩, some ⟨false, [.ints .u8 mm info]⟩, some ⟨true, [.ints .u8 (exM N) (exR key info N)]⟩]) | _, _, _ => none) gam614
theorem gam615_ok : GamOk Try.prog gam615 := gcall_ok tabOkKH Try.func16 gam614_ok Try.call16 (by
  intro wk vs args p xs K1 h hv
  split at h
  · simp only [Option.some.injEq, Prod.mk.injEq] at h; obtain ⟨rfl, rfl, rfl⟩ := h; obtain ⟨g0, g1, g2, g3⟩ := hv; exact fun caps w rw β => refExp_body _ _ _ _ _ _ _ _ _ g0 g1 g2 g3 w rw β
  · simp at h)

noncomputable def gam616 : Gam := greadV 18 [.s 1, .s 1] (fun vs args => match vs, args with | [⟨_, _, _, [.ints .u8 snm salt]⟩, ⟨_, _, _, [.ints .u8 knm key]⟩], [a0, a1] => some ((snm = (lenOfA a0)) ∧ (knm = (lenOfA a1)) ∧ ((lenOfA a0) < (35184372088832 : Nat)) ∧ ((lenOfA a1) < (35184372088832 : Nat)), [.g [.ints .u8 (64 : Nat) (macD salt key)]]) | _, _ => none) gam615
theorem gam616_ok : GamOk Try.prog gam616 := greadV_ok tabOkKI Try.func18 gam615_ok Try.call18 (by
  intro vs args p xs h hv
  split at h
  · simp only [Option.some.injEq, Prod.mk.injEq] at h; obtain ⟨rfl, rfl⟩ := h; exact ⟨by rfl, fun caps w β => extract_body _ _ _ _ _ _ _ _ hv.1 hv.2.1 hv.2.2.1 hv.2.2.2 w β⟩
  · simp at h)

noncomputable def gam617 : Gam := greadV 19 [.s 1, .s 1] (fun vs args => match vs, args with | [⟨_, _, _, [.ints .u8 snm salt]⟩, ⟨_, _, _, [.ints .u8 knm key]⟩], [a0, a1] => some ((snm = (lenOfA a0)) ∧ (knm = (lenOfA a1)) ∧ ((lenOfA a0) < (35184372088832 : Nat)) ∧ ((lenOfA a1) < (35184372088832 : Nat)), [.g [.ints .u8 (64 : Nat) (macD salt key)]]) | _, _ => none) gam616
theorem gam617_ok : GamOk Try.prog gam617 := greadV_ok tabOkKI Try.func19 gam616_ok Try.call19 (by
  intro vs args p xs h hv
  split at h
  · simp only [Option.some.injEq, Prod.mk.injEq] at h; obtain ⟨rfl, rfl⟩ := h; exact ⟨by rfl, fun caps w β => refExtract_body _ _ _ _ _ _ _ _ hv.1 hv.2.1 hv.2.2.1 hv.2.2.2 w β⟩
  · simp at h)

def kdMk (kn : Nat) (key : List Int) (n : Nat) (L : List Value) (m : Nat) (info : List Int) (N : Int) (cap0 cap1 cap2 k : Nat) (s : List Value × List Value × List Value) : St := ⟨sparse 82 [(0, .o (.a (.sl 0 0 kn cap0))), (1, .o (.a (.sl 1 0 n cap1))), (2, .o (.a (.sl 2 0 m cap2))), (3, .o (.a (.i .i64 N))), (8, .o (.a (.b false))), (9, .o (.a (.p 3 0))), (10, .o (.a (.rs 6 0 k 1))), (11, .o (.a (.i .i64 ((k : Nat) : Int))))], [some ⟨false, [.ints .u8 kn key]⟩, some ⟨false, [.vals n L]⟩, some ⟨false, [.ints .u8 m info]⟩, some ⟨true, [.rs 4 0 k 1, .rs 5 0 k 1, .raw (.slice none 0 0), .raw (.slice none 0 0), .raw (.slice none 0 0), .raw (.slice none 0 0), .raw (.slice none 0 0), .raw (.slice none 0 0), .raw (.slice none 0 0), .raw (.slice none 0 0), .raw (.slice none 0 0), .raw (.slice none 0 0), .raw (.slice none 0 0), .raw (.slice none 0 0), .raw (.slice none 0 0), .raw (.slice none 0 0), .raw (.slice none 0 0), .raw (.slice none 0 0), .raw (.slice none 0 0), .raw (.slice none 0 0), .raw (.slice none 0 0), .raw (.slice none 0 0), .raw (.slice none 0 0), .raw (.slice none 0 0), .raw (.slice none 0 0), .raw (.slice none 0 0), .raw (.slice none 0 0), .raw (.slice none 0 0), .raw (.slice none 0 0), .raw (.slice none 0 0)]⟩, some ⟨true, [.vals k s.1]⟩, some ⟨true, [.vals k s.2.1]⟩, some ⟨true, [.vals k s.2.2]⟩]⟩

noncomputable def kdC : Code := (loopB Try.f4 0)

def kdMd (kn : Nat) (key : List Int) (n : Nat) (L : List Value) (m : Nat) (info : List Int) (N : Int) (cap0 cap1 cap2 : Nat) (w : World) (k : Nat) (G W S : List Value) : St := ⟨sparse 82 [(0, .o (.a (.sl 0 0 kn cap0))), (1, .o (.a (.sl 1 0 n cap1))), (2, .o (.a (.sl 2 0 m cap2))), (3, .o (.a (.i .i64 N))), (8, .o (.a (.b false))), (9, .o (.a (.p 3 0))), (10, .o (.a (.rs 6 0 (k + (1 : Nat)) 1))), (11, .o (.a (.i .i64 (((k + (1 : Nat)) : Nat) : Int))))], [some ⟨false, [.ints .u8 kn key]⟩, some ⟨false, [.vals n L]⟩, some ⟨false, [.ints .u8 m info]⟩, some ⟨true, [.rs 4 0 (gv0_1 k) 1, .rs 5 0 (gv0_1 k) 1, .raw (.slice none 0 0), .raw (.slice none 0 0), .raw (.slice none 0 0), .raw (.slice none 0 0), .raw (.slice none 0 0), .raw (.slice none 0 0), .raw (.slice none 0 0), .raw (.slice none 0 0), .raw (.slice none 0 0), .raw (.slice none 0 0), .raw (.slice none 0 0), .raw (.slice none 0 0), .raw (.slice none 0 0), .raw (.slice none 0 0), .raw (.slice none 0 0), .raw (.slice none 0 0), .raw (.slice none 0 0), .raw (.slice none 0 0), .raw (.slice none 0 0), .raw (.slice none 0 0), .raw (.slice none 0 0), .raw (.slice none 0 0), .raw (.slice none 0 0), .raw (.slice none 0 0), .raw (.slice none 0 0), .raw (.slice none 0 0), .raw (.slice none 0 0), .raw (.slice none 0 0)]⟩, some ⟨true, [.vals k (sub G 0 k), .sl 7 0 (gv0 (lenV (List.getD L k undef))) (gv0 (lenV (List.getD L k undef)))]⟩, some ⟨true, [.vals k (sub W 0 k), .rs 8 0 (gv0 (lenV (List.getD L k undef))) 1]⟩, some ⟨true, [.vals k (sub S 0 k), .sl 7 0 (lenV (List.getD L k undef)) (gv0 (lenV (List.getD L k undef)))]⟩, some ⟨true, [.ints .u8 (gv0 (lenV (List.getD L k undef))) (gvB (lenV (List.getD L k undef)) (sub (contV w (List.getD L k undef)) (0 : Nat) (lenV (List.getD L k undef))))]⟩, some ⟨true, [.ints .u8 (gv0 (lenV (List.getD L k undef))) (gvB (lenV (List.getD L k undef)) (sub (contV w (List.getD L k undef)) (0 : Nat) (lenV (List.getD L k undef))))]⟩]⟩

set_option maxHeartbeats 1000000 in
theorem kdRound (w : World) (rw : List Nat) (β0 : Env) (kn : Nat) (key : List Int) (n : Nat) (L : List Value) (m : Nat) (info : List Int) (N : Int) (cap0 cap1 cap2 : Nat) (hI : ∀ i, i < n → ∀ (t : Nat) (β : Env), ImpOk ⟨w, rw, t, β⟩ (List.getD L i undef) .u8 (lenV (List.getD L i undef)) (capV (List.getD L i undef)) (contV w (List.getD L i undef))) (hs : ∀ i, i < n → lenV (List.getD L i undef) < 17592186044416) (hn : n < 1099511627776) (k : Nat) (hk : k < n) (G W S : List Value) : Run Try.prog ⟨w, rw, 3, β0⟩ kdC (kdMk kn key n L m info N cap0 cap1 cap2 k (G, W, S)) (To ⟨w, rw, 3, β0⟩ .normal (kdMd kn key n L m info N cap0 cap1 cap2 w k G W S)) :=
  Run.of_outTAt (B := ⟨w, rw, 3, β0⟩) (Λ := noLam) (Ψ := noPsi) (fuel := 0) (ora := [true, false]) (c := kdC) (st := (kdMk kn key n L m info N cap0 cap1 cap2 k (G, W, S))) (l := [.eqS 11 (.o (.a (.i .i64 (((k + (1 : Nat)) : Nat) : Int)))), .swap 4 8, .swap 5 9, .swap 6 13, .swap 7 10, .swap 8 11, .forget [0, 1, 2, 3, 8, 9, 10, 11] 9]) (s' := (kdMd kn key n L m info N cap0 cap1 cap2 w k G W S)) (ex := .normal) mix tabOkKK (gimp_ok (t := 22) (mk := mkS ⟨w, rw, 3, β0⟩ .u8) (gam611_ok.at _ _) fun v m => mkS_ok v m)
    (vc := [((.o (.a (.i .i64 (IntKind.i64.wrap (((k : Nat) : Int) + (1 : Int))))) : AV) = .o (.a (.i .i64 (((k + (1 : Nat)) : Nat) : Int)))), ((((0 : Nat) + k) ≤ k) ∧ (((1 : Nat) ≤ (1 : Nat)) ∧ True) ∧ (((k + (1 : Nat)) * (24 : Nat)) ≤ (140737488355328 : Nat))), ((True ∧ ((((0 : Nat) + (lenV (List.getD L k undef))) ≤ (lenV (List.getD L k undef))) ∧ True)) ∧ ((k = k) ∧ (k = k) ∧ ((lenV (List.getD L k undef)) = (lenV (List.getD L k undef))) ∧ ((lenV (List.getD L k undef)) < (17592186044416 : Nat)) ∧ (k < (2199023255552 : Nat)) ∧ (k = k))), ((k < n) ∧ (ImpOk ⟨w, rw, 3, β0⟩ (List.getD L k undef) .u8 (lenV (List.getD L k undef)) (capV (List.getD L k undef)) (contV w (List.getD L k undef)))), (((0 : Int) ≤ ((k : Nat) : Int)) ∧ (((k : Nat) : Int) < ((n : Nat) : Int))), ((decide (((k : Nat) : Int) < ((n : Nat) : Int))) = true)]) (by kernel_rfl)
    (aC ((congrArg (fun z => AV.o (.a (.i .i64 z))) (wrap_succ (by omega)))) (aC ⟨(by first | omega | (simp (disch := omega) only [wrapI]; omega)), ⟨(by decide), trivial⟩, (by first | omega | (simp (disch := omega) only [wrapI]; omega))⟩ (aC ⟨⟨trivial, ⟨(by rw [Nat.zero_add]; exact Nat.le_refl _), trivial⟩⟩, ⟨rfl, rfl, rfl, (hs k hk), (by first | omega | (simp (disch := omega) only [wrapI]; omega)), rfl⟩⟩ (aC ⟨(by first | omega | (simp (disch := omega) only [wrapI]; omega)), ((hI k hk _ _))⟩ (aC ⟨(by first | omega | (simp (disch := omega) only [wrapI]; omega)), (by first | omega | (simp (disch := omega) only [wrapI]; omega))⟩ (aC (decide_eq_true (by first | omega | (simp (disch := omega) only [wrapI]; omega))) (AllP_nil)))))))

set_option maxHeartbeats 1000000 in
theorem kdLast (w : World) (rw : List Nat) (β0 : Env) (kn : Nat) (key : List Int) (n : Nat) (L : List Value) (m : Nat) (info : List Int) (N : Int) (cap0 cap1 cap2 : Nat) (G W S : List Value) : Run Try.prog ⟨w, rw, 3, β0⟩ kdC (kdMk kn key n L m info N cap0 cap1 cap2 n (G, W, S)) (To ⟨w, rw, 3, β0⟩ (.exit 0) ⟨sparse 82 [(0, .o (.a (.sl 0 0 kn cap0))), (1, .o (.a (.sl 1 0 n cap1))), (2, .o (.a (.sl 2 0 m cap2))), (3, .o (.a (.i .i64 N))), (8, .o (.a (.b false))), (9, .o (.a (.p 3 0))), (10, .o (.a (.rs 6 0 n 1))), (11, .o (.a (.i .i64 ((n : Nat) : Int))))], [some ⟨false, [.ints .u8 kn key]⟩, some ⟨false, [.vals n L]⟩, some ⟨false, [.ints .u8 m info]⟩, some ⟨true, [.rs 4 0 n 1, .rs 5 0 n 1, .raw (.slice none 0 0), .raw (.slice none 0 0), .raw (.slice none 0 0), .raw (.slice none 0 0), .raw (.slice none 0 0), .raw (.slice none 0 0), .raw (.slice none 0 0), .raw (.slice none 0 0), .raw (.slice none 0 0), .raw (.slice none 0 0), .raw (.slice none 0 0), .raw (.slice none 0 0), .raw (.slice none 0 0), .raw (.slice none 0 0), .raw (.slice none 0 0), .raw (.slice none 0 0), .raw (.slice none 0 0), .raw (.slice none 0 0), .raw (.slice none 0 0), .raw (.slice none 0 0), .raw (.slice none 0 0), .raw (.slice none 0 0), .raw (.slice none 0 0), .raw (.slice none 0 0), .raw (.slice none 0 0), .raw (.slice none 0 0), .raw (.slice none 0 0), .raw (.slice none 0 0)]⟩, some ⟨true, [.vals n G]⟩, some ⟨true, [.vals n W]⟩, some ⟨true, [.vals n S]⟩]⟩) :=
  Run.of_outTAt (B := ⟨w, rw, 3, β0⟩) (Λ := noLam) (Ψ := noPsi) (fuel := 0) (ora := [false]) (c := kdC) (st := (kdMk kn key n L m info N cap0 cap1 cap2 n (G, W, S))) (l := [.forget [0, 1, 2, 3, 8, 9, 10, 11] 7]) (s' := ⟨sparse 82 [(0, .o (.a (.sl 0 0 kn cap0))), (1, .o (.a (.sl 1 0 n cap1))), (2, .o (.a (.sl 2 0 m cap2))), (3, .o (.a (.i .i64 N))), (8, .o (.a (.b false))), (9, .o (.a (.p 3 0))), (10, .o (.a (.rs 6 0 n 1))), (11, .o (.a (.i .i64 ((n : Nat) : Int))))], [some ⟨false, [.ints .u8 kn key]⟩, some ⟨false, [.vals n L]⟩, some ⟨false, [.ints .u8 m info]⟩, some ⟨true, [.rs 4 0 n 1, .rs 5 0 n 1, .raw (.slice none 0 0), .raw (.slice none 0 0), .raw (.slice none 0 0), .raw (.slice none 0 0), .raw (.slice none 0 0), .raw (.slice none 0 0), .raw (.slice none 0 0), .raw (.slice none 0 0), .raw (.slice none 0 0), .raw (.slice none 0 0), .raw (.slice none 0 0), .raw (.slice none 0 0), .raw (.slice none 0 0), .raw (.slice none 0 0), .raw (.slice none 0 0), .raw (.slice none 0 0), .raw (.slice none 0 0), .raw (.slice none 0 0), .raw (.slice none 0 0), .raw (.slice none 0 0), .raw (.slice none 0 0), .raw (.slice none 0 0), .raw (.slice none 0 0), .raw (.slice none 0 0), .raw (.slice none 0 0), .raw (.slice none 0 0), .raw (.slice none 0 0), .raw (.slice none 0 0)]⟩, some ⟨true, [.vals n G]⟩, some ⟨true, [.vals n W]⟩, some ⟨true, [.vals n S]⟩]⟩) (ex := (.exit 0)) mix tabOkKK (gimp_ok (t := 22) (mk := mkS ⟨w, rw, 3, β0⟩ .u8) (gam611_ok.at _ _) fun v m => mkS_ok v m)
    (vc := [((decide (((n : Nat) : Int) < ((n : Nat) : Int))) = false)]) (by kernel_rfl)
    (aC (decide_eq_false (by first | omega | (simp (disch := omega) only [wrapI]; omega))) (AllP_nil))

noncomputable def kdS0 (kn : Nat) (key : List Int) (n : Nat) (L : List Value) (m : Nat) (info : List Int) (N : Int) (cap0 cap1 cap2 : Nat) : St := ⟨sparse 82 [(0, .o (.a (.sl 0 0 kn cap0))), (1, .o (.a (.sl 1 0 n cap1))), (2, .o (.a (.sl 2 0 m cap2))), (3, .o (.a (.i .i64 N)))], [some ⟨false, [.ints .u8 kn key]⟩, some ⟨false, [.vals n L]⟩, some ⟨false, [.ints .u8 m info]⟩]⟩

noncomputable def kdB : Code := Try.f4.body.getD .skip

noncomputable def kdS1 (kn : Nat) (key : List Int) (n : Nat) (L : List Value) (m : Nat) (info : List Int) (N : Int) (cap0 cap1 cap2 : Nat) : St := ⟨sparse 82 [(0, .o (.a (.sl 0 0 kn cap0))), (1, .o (.a (.sl 1 0 n cap1))), (2, .o (.a (.sl 2 0 m cap2))), (3, .o (.a (.i .i64 N))), (8, .o (.a (.b false)))], [some ⟨false, [.ints .u8 kn key]⟩, some ⟨false, [.vals n L]⟩, some ⟨false, [.ints .u8 m info]⟩]⟩

theorem kdP0 (w : World) (β : Env) (kn : Nat) (key : List Int) (n : Nat) (L : List Value) (m : Nat) (info : List Int) (N : Int) (cap0 cap1 cap2 : Nat) : Run Try.prog ⟨w, [], 3, β⟩ (fstC kdB) (kdS0 kn key n L m info N cap0 cap1 cap2) (To ⟨w, [], 3, β⟩ .normal (kdS1 kn key n L m info N cap0 cap1 cap2)) :=
  Run.of_outT (B := ⟨w, [], 3, β⟩) (Λ := noLam) (Ψ := noPsi) (fuel := 0) (ora := []) (c := (fstC kdB)) (st := (kdS0 kn key n L m info N cap0 cap1 cap2)) (l := [.forget [0, 1, 2, 3, 8] 99]) (s' := (kdS1 kn key n L m info N cap0 cap1 cap2)) (ex := .normal) mix tabOkKK gam611_ok
    (vc := []) (by kernel_rfl)
    (AllP_nil)

noncomputable def kdS2 (kn : Nat) (key : List Int) (n : Nat) (L : List Value) (m : Nat) (info : List Int) (N : Int) (cap0 cap1 cap2 : Nat) : St := ⟨sparse 82 [(0, .o (.a (.sl 0 0 kn cap0))), (1, .o (.a (.sl 1 0 n cap1))), (2, .o (.a (.sl 2 0 m cap2))), (3, .o (.a (.i .i64 N))), (8, .o (.a (.b false))), (9, .o (.a (.p 3 0)))], [some ⟨false, [.ints .u8 kn key]⟩, some ⟨false, [.vals n L]⟩, some ⟨false, [.ints .u8 m info]⟩, some ⟨true, [.raw (.slice none 0 0), .raw (.slice none 0 0), .raw (.slice none 0 0), .raw (.slice none 0 0), .raw (.slice none 0 0), .raw (.slice none 0 0), .raw (.slice none 0 0), .raw (.slice none 0 0), .raw (.slice none 0 0), .raw (.slice none 0 0), .raw (.slice none 0 0), .raw (.slice none 0 0), .raw (.slice none 0 0), .raw (.slice none 0 0), .raw (.slice none 0 0), .raw (.slice none 0 0), .raw (.slice none 0 0), .raw (.slice none 0 0), .raw (.slice none 0 0), .raw (.slice none 0 0), .raw (.slice none 0 0), .raw (.slice none 0 0), .raw (.slice none 0 0), .raw (.slice none 0 0), .raw (.slice none 0 0), .raw (.slice none 0 0), .raw (.slice none 0 0), .raw (.slice none 0 0), .raw (.slice none 0 0), .raw (.slice none 0 0)]⟩]⟩

theorem kdP1 (w : World) (β : Env) (kn : Nat) (key : List Int) (n : Nat) (L : List Value) (m : Nat) (info : List Int) (N : Int) (cap0 cap1 cap2 : Nat) : Run Try.prog ⟨w, [], 3, β⟩ (fstC (sndC kdB)) (kdS1 kn key n L m info N cap0 cap1 cap2) (To ⟨w, [], 3, β⟩ .normal (kdS2 kn key n L m info N cap0 cap1 cap2)) :=
  Run.of_outT (B := ⟨w, [], 3, β⟩) (Λ := noLam) (Ψ := noPsi) (fuel := 0) (ora := []) (c := (fstC (sndC kdB))) (st := (kdS1 kn key n L m info N cap0 cap1 cap2)) (l := [.forget [0, 1, 2, 3, 8, 9] 99]) (s' := (kdS2 kn key n L m info N cap0 cap1 cap2)) (ex := .normal) mix tabOkKK gam611_ok
    (vc := []) (by kernel_rfl)
    (AllP_nil)

noncomputable def kdS3 (kn : Nat) (key : List Int) (n : Nat) (L : List Value) (m : Nat) (info : List Int) (N : Int) (cap0 cap1 cap2 : Nat) : St := ⟨sparse 82 [(0, .o (.a (.sl 0 0 kn cap0))), (1, .o (.a (.sl 1 0 n cap1))), (2, .o (.a (.sl 2 0 m cap2))), (3, .o (.a (.i .i64 N))), (8, .o (.a (.b false))), (9, .o (.a (.p 3 0))), (10, .o (.a (.raw (.slice none 0 0))))], [some ⟨false, [.ints .u8 kn key]⟩, some ⟨false, [.vals n L]⟩, some ⟨false, [.ints .u8 m info]⟩, some ⟨true, [.raw (.slice none 0 0), .raw (.slice none 0 0), .raw (.slice none 0 0), .raw (.slice none 0 0), .raw (.slice none 0 0), .raw (.slice none 0 0), .raw (.slice none 0 0), .raw (.slice none 0 0), .raw (.slice none 0 0), .raw (.slice none 0 0), .raw (.slice none 0 0), .raw (.slice none 0 0), .raw (.slice none 0 0), .raw (.slice none 0 0), .raw (.slice none 0 0), .raw (.slice none 0 0), .raw (.slice none 0 0), .raw (.slice none 0 0), .raw (.slice none 0 0), .raw (.slice none 0 0), .raw (.slice none 0 0), .raw (.slice none 0 0), .raw (.slice none 0 0), .raw (.slice none 0 0), .raw (.slice none 0 0), .raw (.slice none 0 0), .raw (.slice none 0 0), .raw (.slice none 0 0), .raw (.slice none 0 0), .raw (.slice none 0 0)]⟩]⟩

theorem kdP2 (w : World) (β : Env) (kn : Nat) (key : List Int) (n : Nat) (L : List Value) (m : Nat) (info : List Int) (N : Int) (cap0 cap1 cap2 : Nat) : Run Try.prog ⟨w, [], 3, β⟩ (fstC (sndC (sndC kdB))) (kdS2 kn key n L m info N cap0 cap1 cap2) (To ⟨w, [], 3, β⟩ .normal (kdS3 kn key n L m info N cap0 cap1 cap2)) :=
  Run.of_outT (B := ⟨w, [], 3, β⟩) (Λ := noLam) (Ψ := noPsi) (fuel := 0) (ora := []) (c := (fstC (sndC (sndC kdB)))) (st := (kdS2 kn key n L m info N cap0 cap1 cap2)) (l := [.forget [0, 1, 2, 3, 8, 9, 10] 99]) (s' := (kdS3 kn key n L m info N cap0 cap1 cap2)) (ex := .normal) mix tabOkKK gam611_ok
    (vc := []) (by kernel_rfl)
    (AllP_nil)

noncomputable def kdS4 (kn : Nat) (key : List Int) (n : Nat) (L : List Value) (m : Nat) (info : List Int) (N : Int) (cap0 cap1 cap2 : Nat) : St := ⟨sparse 82 [(0, .o (.a (.sl 0 0 kn cap0))), (1, .o (.a (.sl 1 0 n cap1))), (2, .o (.a (.sl 2 0 m cap2))), (3, .o (.a (.i .i64 N))), (8, .o (.a (.b false))), (9, .o (.a (.p 3 0))), (10, .o (.a (.rs 6 0 (0 : Nat) 1))), (11, .o (.a (.i .i64 (0 : Int))))], [some ⟨false, [.ints .u8 kn key]⟩, some ⟨false, [.vals n L]⟩, some ⟨false, [.ints .u8 m info]⟩, some ⟨true, [.rs 4 0 (0 : Nat) 1, .rs 5 0 (0 : Nat) 1, .raw (.slice none 0 0), .raw (.slice none 0 0), .raw (.slice none 0 0), .raw (.slice none 0 0), .raw (.slice none 0 0), .raw (.slice none 0 0), .raw (.slice none 0 0), .raw (.slice none 0 0), .raw (.slice none 0 0), .raw (.slice none 0 0), .raw (.slice none 0 0), .raw (.slice none 0 0), .raw (.slice none 0 0), .raw (.slice none 0 0), .raw (.slice none 0 0), .raw (.slice none 0 0), .raw (.slice none 0 0), .raw (.slice none 0 0), .raw (.slice none 0 0), .raw (.slice none 0 0), .raw (.slice none 0 0), .raw (.slice none 0 0), .raw (.slice none 0 0), .raw (.slice none 0 0), .raw (.slice none 0 0), .raw (.slice none 0 0), .raw (.slice none 0 0), .raw (.slice none 0 0)]⟩, some ⟨true, [.ints .u8 (0 : Nat) ([] : List Int)]⟩, some ⟨true, [.ints .u8 (0 : Nat) ([] : List Int)]⟩, some ⟨true, [.ints .u8 (0 : Nat) ([] : List Int)]⟩]⟩

theorem kdP3 (w : World) (β : Env) (kn : Nat) (key : List Int) (n : Nat) (L : List Value) (m : Nat) (info : List Int) (N : Int) (cap0 cap1 cap2 : Nat) : Run Try.prog ⟨w, [], 3, β⟩ (fstC (fstC (sndC (sndC (sndC kdB))))) (kdS3 kn key n L m info N cap0 cap1 cap2) (To ⟨w, [], 3, β⟩ .normal (kdS4 kn key n L m info N cap0 cap1 cap2)) :=
  Run.of_outT (B := ⟨w, [], 3, β⟩) (Λ := noLam) (Ψ := noPsi) (fuel := 0) (ora := []) (c := (fstC (fstC (sndC (sndC (sndC kdB)))))) (st := (kdS3 kn key n L m info N cap0 cap1 cap2)) (l := [.rowB 3 0 .u8 1, .rowB 3 1 .u8 1, .rowS 10 .u8 1, .forget [0, 1, 2, 3, 8, 9, 10, 11] 99]) (s' := (kdS4 kn key n L m info N cap0 cap1 cap2)) (ex := .normal) mix tabOkKK gam611_ok
    (vc := []) (by kernel_rfl)
    (AllP_nil)

noncomputable def kdRest : Code := sndC (sndC (sndC (sndC kdB)))

set_option maxHeartbeats 4000000 in
theorem kdRun (w : World) (rw : List Nat) (β0 : Env) (kn : Nat) (key : List Int) (n : Nat) (L : List Value) (m : Nat) (info : List Int) (N : Int) (cap0 cap1 cap2 : Nat) (G W S : List Value) (hPS : PartsR w rw S n) (hPL : PartsR w rw L n) (hcat : catV w S n = catV w L n) (hcl : (catV w L n).length < 35184372088832) (hkn : kn < 17592186044416) (hm : m < 17592186044416) (hn : n < 1099511627776) (D : List (List Int)) (hG : FamR w rw G D) (hW : FamR w rw W D) (hD : D.length = n) (hDs : ∀ x ∈ D, x.length < 70368744177664) (eK : sub (gvB kn key) 0 kn = key) (eKs : sub key 0 kn = key) (eI : sub (gvB m info) 0 m = info) (eIs : sub info 0 m = info) : Run Try.prog ⟨w, rw, 3, β0⟩ kdRest (kdMk kn key n L m info N cap0 cap1 cap2 n (G, W, S)) (finP (tabOf tabKK) Try.f4 fun ys _ => ys = [.a (.b true)]) :=
  Run.of_finAt (Λ := noLam) (Ψ := noPsi) (fuel := 0) mix tabOkKK (gintact_ok (gmac_ok (grmac_ok (gam617_ok.at _ _)))) (rs := [.tmp 8]) rfl [true, true, true, true, true, true, true, true, true, true, true, true, true, true, true, true, true, true, true, true, true, true, true] []
    (vc := [(true = true), (True ∧ True), (true = true), (((exE N) == (exE N)) = true), (List.length (contL w (sub G 0 n) n ++ ((sub (gvB kn (sub key 0 kn)) (0 : Nat) (gv0 kn)) :: ((sub (gvB m (sub info 0 m)) (0 : Nat) (gv1 m)) :: ((sub (gvB kn (sub key 0 kn)) (0 : Nat) (gv2 kn)) :: ((sub (gvB m (sub info 0 m)) (0 : Nat) (gv3 m)) :: ((sub (gvB kn (sub key 0 kn)) (0 : Nat) (gv4 kn)) :: [])))))) = (gv4_1 (gv3_1 (gv2_1 (gv1_1 (gv0_1 n))))) ∧ (gv4_1 (gv3_1 (gv2_1 (gv1_1 (gv0_1 n))))) = (gv4_1 (gv3_1 (gv2_1 (gv1_1 (gv0_1 n))))) ∧ (PartsI w rw (sub G 0 n) n ∧ ((((0 : Nat) + (gv0 kn)) ≤ (gv0 kn)) ∧ ((((0 : Nat) + (gv1 m)) ≤ (gv1 m)) ∧ ((((0 : Nat) + (gv2 kn)) ≤ (gv2 kn)) ∧ ((((0 : Nat) + (gv3 m)) ≤ (gv3 m)) ∧ ((((0 : Nat) + (gv4 kn)) ≤ (gv4 kn)) ∧ True)))))) ∧ (PartsI w rw (sub W 0 n) n ∧ ((((0 : Nat) + (gv0 kn)) ≤ (gv0 kn)) ∧ ((((0 : Nat) + (gv1 m)) ≤ (gv1 m)) ∧ ((((0 : Nat) + (gv2 kn)) ≤ (gv2 kn)) ∧ ((((0 : Nat) + (gv3 m)) ≤ (gv3 m)) ∧ ((((0 : Nat) + (gv4 kn)) ≤ (gv4 kn)) ∧ True)))))) ∧ (contL w (sub G 0 n) n ++ ((sub (gvB kn (sub key 0 kn)) (0 : Nat) (gv0 kn)) :: ((sub (gvB m (sub info 0 m)) (0 : Nat) (gv1 m)) :: ((sub (gvB kn (sub key 0 kn)) (0 : Nat) (gv2 kn)) :: ((sub (gvB m (sub info 0 m)) (0 : Nat) (gv3 m)) :: ((sub (gvB kn (sub key 0 kn)) (0 : Nat) (gv4 kn)) :: [])))))) = (contL w (sub W 0 n) n ++ ((sub (gvB kn (sub key 0 kn)) (0 : Nat) (gv0 kn)) :: ((sub (gvB m (sub info 0 m)) (0 : Nat) (gv1 m)) :: ((sub (gvB kn (sub key 0 kn)) (0 : Nat) (gv2 kn)) :: ((sub (gvB m (sub info 0 m)) (0 : Nat) (gv3 m)) :: ((sub (gvB kn (sub key 0 kn)) (0 : Nat) (gv4 kn)) :: [])))))) ∧ (∀ l ∈ (contL w (sub G 0 n) n ++ ((sub (gvB kn (sub key 0 kn)) (0 : Nat) (gv0 kn)) :: ((sub (gvB m (sub info 0 m)) (0 : Nat) (gv1 m)) :: ((sub (gvB kn (sub key 0 kn)) (0 : Nat) (gv2 kn)) :: ((sub (gvB m (sub info 0 m)) (0 : Nat) (gv3 m)) :: ((sub (gvB kn (sub key 0 kn)) (0 : Nat) (gv4 kn)) :: [])))))), l.length < 70368744177664) ∧ (gv4_1 (gv3_1 (gv2_1 (gv1_1 (gv0_1 n))))) < 70368744177664), (((exE N) == (exE N)) = true), (true = true), (true = true), (true = true), (true = true), (true = true), ((decide ((macD (sub (gvB m (sub info 0 m)) (0 : Nat) m) (sub (gvB kn (sub key 0 kn)) (0 : Nat) kn)) = (macD (sub info 0 m) (sub key 0 kn)))) = true), (((((0 : Nat) + (exN N)) ≤ (exM N)) ∧ ((((0 : Nat) + (exN N)) ≤ (exM N)) ∧ True)) ∧ (((exN N) = (exN N)) ∧ ((exN N) = (exN N)) ∧ ((exN N) = (exN N)) ∧ ((sub (exR (sub (gvB kn (sub key 0 kn)) (0 : Nat) kn) (sub (gvB m (sub info 0 m)) (0 : Nat) m) N) (0 : Nat) (exN N)) = (sub (exR (sub key 0 kn) (sub info 0 m) N) (0 : Nat) (exN N))) ∧ ((exN N) < (70368744177664 : Nat)))), ((decide ((macD (sub (gvB m (sub info 0 m)) (0 : Nat) m) (sub (gvB kn (sub key 0 kn)) (0 : Nat) kn)) = (macD (sub info 0 m) (sub key 0 kn)))) = true), ((decide ((macD (sub (gvB m (sub info 0 m)) (0 : Nat) m) (sub (gvB kn (sub key 0 kn)) (0 : Nat) kn)) = (macD (sub info 0 m) (sub key 0 kn)))) = true), ((decide ((macD (sub (gvB m (sub info 0 m)) (0 : Nat) m) (sub (gvB kn (sub key 0 kn)) (0 : Nat) kn)) = (macD (sub info 0 m) (sub key 0 kn)))) = true), ((decide ((macD (sub (gvB kn (sub key 0 kn)) (0 : Nat) kn) ((catV w S n) ++ ([] : List Int))) = (macD (sub key 0 kn) ((catV w L n) ++ ([] : List Int))))) = true), ((decide ((macD (sub (gvB kn (sub key 0 kn)) (0 : Nat) kn) ((catV w S n) ++ ([] : List Int))) = (macD (sub key 0 kn) ((catV w L n) ++ ([] : List Int))))) = true), (((((0 : Nat) + m) ≤ m) ∧ ((((0 : Nat) + kn) ≤ kn) ∧ True)) ∧ ((m = m) ∧ (kn = kn) ∧ (m < (35184372088832 : Nat)) ∧ (kn < (35184372088832 : Nat)))), ((decide ((macD (sub (gvB kn (sub key 0 kn)) (0 : Nat) kn) ((catV w S n) ++ ([] : List Int))) = (macD (sub key 0 kn) ((catV w L n) ++ ([] : List Int))))) = true), ((decide ((macD (sub (gvB kn (sub key 0 kn)) (0 : Nat) kn) ((catV w S n) ++ ([] : List Int))) = (macD (sub key 0 kn) ((catV w L n) ++ ([] : List Int))))) = true), ((decide ((macD (sub (gvB kn (sub key 0 kn)) (0 : Nat) kn) ((catV w S n) ++ ([] : List Int))) = (macD (sub key 0 kn) ((catV w L n) ++ ([] : List Int))))) = true), (((((0 : Nat) + m) ≤ (gv3 m)) ∧ ((((0 : Nat) + kn) ≤ (gv4 kn)) ∧ True)) ∧ ((m = m) ∧ (kn = kn) ∧ (m < (35184372088832 : Nat)) ∧ (kn < (35184372088832 : Nat)))), ((decide ((macD (sub (gvB kn (sub key 0 kn)) (0 : Nat) kn) ((catV w S n) ++ ([] : List Int))) = (macD (sub key 0 kn) ((catV w L n) ++ ([] : List Int))))) = true), ((True ∧ ((((0 : Nat) + kn) ≤ kn) ∧ True)) ∧ (((gv3_1 (gv2_1 (gv1_1 (gv0_1 n)))) = (gv3_1 (gv2_1 (gv1_1 (gv0_1 n))))) ∧ ((gv0 kn) = (gv0 kn)) ∧ ((gv1 m) = (gv1 m)) ∧ ((gv2 kn) = (gv2 kn)) ∧ ((gv3 m) = (gv3 m)) ∧ ((gv0 kn) = (gv0 kn)) ∧ ((gv1 m) = (gv1 m)) ∧ ((gv2 kn) = (gv2 kn)) ∧ ((gv3 m) = (gv3 m)) ∧ (n = n) ∧ ((gv0 kn) = (gv0 kn)) ∧ ((gv1 m) = (gv1 m)) ∧ ((gv2 kn) = (gv2 kn)) ∧ ((gv3 m) = (gv3 m)) ∧ ((gv0 kn) = (gv0 kn)) ∧ ((gv1 m) = (gv1 m)) ∧ ((gv2 kn) = (gv2 kn)) ∧ ((gv3 m) = (gv3 m)) ∧ (kn = kn) ∧ (kn < (17592186044416 : Nat)) ∧ ((gv3_1 (gv2_1 (gv1_1 (gv0_1 n)))) < (2199023255552 : Nat)) ∧ ((gv3_1 (gv2_1 (gv1_1 (gv0_1 n)))) = (n + (4 : Nat))))), ((decide ((macD (sub (gvB kn (sub key 0 kn)) (0 : Nat) kn) ((catV w S n) ++ ([] : List Int))) = (macD (sub key 0 kn) ((catV w L n) ++ ([] : List Int))))) = true), ((decide ((macD (sub (gvB kn (sub key 0 kn)) (0 : Nat) kn) ((catV w S n) ++ ([] : List Int))) = (macD (sub key 0 kn) ((catV w L n) ++ ([] : List Int))))) = true), ((True ∧ ((((0 : Nat) + m) ≤ m) ∧ True)) ∧ (((gv2_1 (gv1_1 (gv0_1 n))) = (gv2_1 (gv1_1 (gv0_1 n)))) ∧ ((gv0 kn) = (gv0 kn)) ∧ ((gv1 m) = (gv1 m)) ∧ ((gv2 kn) = (gv2 kn)) ∧ ((gv0 kn) = (gv0 kn)) ∧ ((gv1 m) = (gv1 m)) ∧ ((gv2 kn) = (gv2 kn)) ∧ (n = n) ∧ ((gv0 kn) = (gv0 kn)) ∧ ((gv1 m) = (gv1 m)) ∧ ((gv2 kn) = (gv2 kn)) ∧ ((gv0 kn) = (gv0 kn)) ∧ ((gv1 m) = (gv1 m)) ∧ ((gv2 kn) = (gv2 kn)) ∧ (m = m) ∧ (m < (17592186044416 : Nat)) ∧ ((gv2_1 (gv1_1 (gv0_1 n))) < (2199023255552 : Nat)) ∧ ((gv2_1 (gv1_1 (gv0_1 n))) = (n + (3 : Nat))))), ((decide ((macD (sub (gvB kn (sub key 0 kn)) (0 : Nat) kn) ((catV w S n) ++ ([] : List Int))) = (macD (sub key 0 kn) ((catV w L n) ++ ([] : List Int))))) = true), ((decide ((macD (sub (gvB kn (sub key 0 kn)) (0 : Nat) kn) ((catV w S n) ++ ([] : List Int))) = (macD (sub key 0 kn) ((catV w L n) ++ ([] : List Int))))) = true), ((n = n) ∧ ((PartsR w rw L n) ∧ True) ∧ ((List.length ((catV w L n) ++ ([] : List Int))) < (70368744177664 : Nat)) ∧ ((((0 : Nat) + kn) ≤ kn) ∧ True) ∧ ((kn = kn) ∧ (kn < (70368744177664 : Nat)) ∧ ((n + (1 : Nat)) < (4398046511104 : Nat)) ∧ (((List.length ((catV w L n) ++ ([] : List Int))) + (128 : Nat)) < (70368744177664 : Nat)))), ((n = n) ∧ ((PartsR w rw S n) ∧ True) ∧ ((List.length ((catV w S n) ++ ([] : List Int))) < (70368744177664 : Nat)) ∧ ((((0 : Nat) + kn) ≤ (gv2 kn)) ∧ True) ∧ ((kn = kn) ∧ (kn < (70368744177664 : Nat)) ∧ ((n + (1 : Nat)) < (4398046511104 : Nat)) ∧ (((List.length ((catV w S n) ++ ([] : List Int))) + (128 : Nat)) < (70368744177664 : Nat)))), ((True ∧ ((((0 : Nat) + kn) ≤ kn) ∧ True)) ∧ (((gv1_1 (gv0_1 n)) = (gv1_1 (gv0_1 n))) ∧ ((gv0 kn) = (gv0 kn)) ∧ ((gv1 m) = (gv1 m)) ∧ ((gv0 kn) = (gv0 kn)) ∧ ((gv1 m) = (gv1 m)) ∧ (n = n) ∧ ((gv0 kn) = (gv0 kn)) ∧ ((gv1 m) = (gv1 m)) ∧ ((gv0 kn) = (gv0 kn)) ∧ ((gv1 m) = (gv1 m)) ∧ (kn = kn) ∧ (kn < (17592186044416 : Nat)) ∧ ((gv1_1 (gv0_1 n)) < (2199023255552 : Nat)) ∧ ((gv1_1 (gv0_1 n)) = (n + (2 : Nat))))), (((((0 : Nat) + kn) ≤ kn) ∧ ((((0 : Nat) + m) ≤ m) ∧ (True ∧ True))) ∧ ((kn = kn) ∧ (m = m) ∧ (m < (35184372088832 : Nat)) ∧ (kn < (35184372088832 : Nat)))), (((((0 : Nat) + kn) ≤ (gv0 kn)) ∧ ((((0 : Nat) + m) ≤ (gv1 m)) ∧ (True ∧ True))) ∧ ((kn = kn) ∧ (m = m) ∧ (m < (35184372088832 : Nat)) ∧ (kn < (35184372088832 : Nat)))), ((True ∧ ((((0 : Nat) + m) ≤ m) ∧ True)) ∧ (((gv0_1 n) = (gv0_1 n)) ∧ ((gv0 kn) = (gv0 kn)) ∧ ((gv0 kn) = (gv0 kn)) ∧ (n = n) ∧ ((gv0 kn) = (gv0 kn)) ∧ ((gv0 kn) = (gv0 kn)) ∧ (m = m) ∧ (m < (17592186044416 : Nat)) ∧ ((gv0_1 n) < (2199023255552 : Nat)) ∧ ((gv0_1 n) = (n + (1 : Nat))))), ((True ∧ ((((0 : Nat) + kn) ≤ kn) ∧ True)) ∧ ((n = n) ∧ (n = n) ∧ (kn = kn) ∧ (kn < (17592186044416 : Nat)) ∧ (n < (2199023255552 : Nat)) ∧ (n = n)))]) (by kernel_rfl)
    (aC rfl (aC ⟨trivial, trivial⟩ (aC rfl (aC (beq_self_eq_true _) (aC ((fam_intact hG hW hD (by show n + 5 = _; rfl) rfl hDs (all5 (sub_lt (by show _ + 3 < _; omega)) (sub_lt (by show _ + 3 < _; omega)) (sub_lt (by show _ + 3 < _; omega)) (sub_lt (by show _ + 3 < _; omega)) (sub_lt (by show _ + 3 < _; omega))) (by show n + 5 < _; omega) (by simp only [gv0, gv1, gv2, gv3, gv4, Nat.zero_add, Nat.le_refl, true_and, and_true]) (by simp only [gv0, gv1, gv2, gv3, gv4, Nat.zero_add, Nat.le_refl, true_and, and_true]))) (aC (beq_self_eq_true _) (aC rfl (aC rfl (aC rfl (aC rfl (aC rfl (aC (decide_eq_true (by simp only [eK, eI, eKs, eIs, hcat, List.append_nil])) (aC ⟨⟨(by have hq1 := exN_le N; have hq2 := exN_lt N; omega), ⟨(by have hq1 := exN_le N; have hq2 := exN_lt N; omega), trivial⟩⟩, ⟨rfl, rfl, rfl, (by simp only [eK, eI, eKs, eIs]), (by have hq1 := exN_le N; have hq2 := exN_lt N; omega)⟩⟩ (aC (decide_eq_true (by simp only [eK, eI, eKs, eIs, hcat, List.append_nil])) (aC (decide_eq_true (by simp only [eK, eI, eKs, eIs, hcat, List.append_nil])) (aC (decide_eq_true (by simp only [eK, eI, eKs, eIs, hcat, List.append_nil])) (aC (decide_eq_true (by simp only [eK, eI, eKs, eIs, hcat, List.append_nil])) (aC (decide_eq_true (by simp only [eK, eI, eKs, eIs, hcat, List.append_nil])) (aC ⟨⟨(by first | rfl | omega | (simp only [gv0, gv0_1, gv1, gv1_1, gv2, gv2_1, gv3, gv3_1, gv4, gv4_1]; omega)), ⟨(by first | rfl | omega | (simp only [gv0, gv0_1, gv1, gv1_1, gv2, gv2_1, gv3, gv3_1, gv4, gv4_1]; omega)), trivial⟩⟩, ⟨rfl, rfl, (by first | rfl | omega | (simp only [gv0, gv0_1, gv1, gv1_1, gv2, gv2_1, gv3, gv3_1, gv4, gv4_1]; omega)), (by first | rfl | omega | (simp only [gv0, gv0_1, gv1, gv1_1, gv2, gv2_1, gv3, gv3_1, gv4, gv4_1]; omega))⟩⟩ (aC (decide_eq_true (by simp only [eK, eI, eKs, eIs, hcat, List.append_nil])) (aC (decide_eq_true (by simp only [eK, eI, eKs, eIs, hcat, List.append_nil])) (aC (decide_eq_true (by simp only [eK, eI, eKs, eIs, hcat, List.append_nil])) (aC ⟨⟨(by first | rfl | omega | (simp only [gv0, gv0_1, gv1, gv1_1, gv2, gv2_1, gv3, gv3_1, gv4, gv4_1]; omega)), ⟨(by first | rfl | omega | (simp only [gv0, gv0_1, gv1, gv1_1, gv2, gv2_1, gv3, gv3_1, gv4, gv4_1]; omega)), trivial⟩⟩, ⟨rfl, rfl, (by first | rfl | omega | (simp only [gv0, gv0_1, gv1, gv1_1, gv2, gv2_1, gv3, gv3_1, gv4, gv4_1]; omega)), (by first | rfl | omega | (simp only [gv0, gv0_1, gv1, gv1_1, gv2, gv2_1, gv3, gv3_1, gv4, gv4_1]; omega))⟩⟩ (aC (decide_eq_true (by simp only [eK, eI, eKs, eIs, hcat, List.append_nil])) (aC ⟨⟨trivial, ⟨(by first | rfl | omega | (simp only [gv0, gv0_1, gv1, gv1_1, gv2, gv2_1, gv3, gv3_1, gv4, gv4_1]; omega)), trivial⟩⟩, ⟨rfl, rfl, rfl, rfl, rfl, rfl, rfl, rfl, rfl, rfl, rfl, rfl, rfl, rfl, rfl, rfl, rfl, rfl, rfl, (by first | rfl | omega | (simp only [gv0, gv0_1, gv1, gv1_1, gv2, gv2_1, gv3, gv3_1, gv4, gv4_1]; omega)), (by first | rfl | omega | (simp only [gv0, gv0_1, gv1, gv1_1, gv2, gv2_1, gv3, gv3_1, gv4, gv4_1]; omega)), (by first | rfl | omega | (simp only [gv0, gv0_1, gv1, gv1_1, gv2, gv2_1, gv3, gv3_1, gv4, gv4_1]; omega))⟩⟩ (aC (decide_eq_true (by simp only [eK, eI, eKs, eIs, hcat, List.append_nil])) (aC (decide_eq_true (by simp only [eK, eI, eKs, eIs, hcat, List.append_nil])) (aC ⟨⟨trivial, ⟨(by first | rfl | omega | (simp only [gv0, gv0_1, gv1, gv1_1, gv2, gv2_1, gv3, gv3_1, gv4, gv4_1]; omega)), trivial⟩⟩, ⟨rfl, rfl, rfl, rfl, rfl, rfl, rfl, rfl, rfl, rfl, rfl, rfl, rfl, rfl, rfl, (by first | rfl | omega | (simp only [gv0, gv0_1, gv1, gv1_1, gv2, gv2_1, gv3, gv3_1, gv4, gv4_1]; omega)), (by first | rfl | omega | (simp only [gv0, gv0_1, gv1, gv1_1, gv2, gv2_1, gv3, gv3_1, gv4, gv4_1]; omega)), (by first | rfl | omega | (simp only [gv0, gv0_1, gv1, gv1_1, gv2, gv2_1, gv3, gv3_1, gv4, gv4_1]; omega))⟩⟩ (aC (decide_eq_true (by simp only [eK, eI, eKs, eIs, hcat, List.append_nil])) (aC (decide_eq_true (by simp only [eK, eI, eKs, eIs, hcat, List.append_nil])) (aC ⟨rfl, ⟨(hPL), trivial⟩, (by rw [List.append_nil]; omega), ⟨(by first | rfl | omega | (simp only [gv0, gv0_1, gv1, gv1_1, gv2, gv2_1, gv3, gv3_1, gv4, gv4_1]; omega)), trivial⟩, ⟨rfl, (by first | rfl | omega | (simp only [gv0, gv0_1, gv1, gv1_1, gv2, gv2_1, gv3, gv3_1, gv4, gv4_1]; omega)), (by first | rfl | omega | (simp only [gv0, gv0_1, gv1, gv1_1, gv2, gv2_1, gv3, gv3_1, gv4, gv4_1]; omega)), (by rw [List.append_nil]; omega)⟩⟩ (aC ⟨rfl, ⟨(hPS), trivial⟩, (by rw [List.append_nil, hcat]; omega), ⟨(by first | rfl | omega | (simp only [gv0, gv0_1, gv1, gv1_1, gv2, gv2_1, gv3, gv3_1, gv4, gv4_1]; omega)), trivial⟩, ⟨rfl, (by first | rfl | omega | (simp only [gv0, gv0_1, gv1, gv1_1, gv2, gv2_1, gv3, gv3_1, gv4, gv4_1]; omega)), (by first | rfl | omega | (simp only [gv0, gv0_1, gv1, gv1_1, gv2, gv2_1, gv3, gv3_1, gv4, gv4_1]; omega)), (by rw [List.append_nil, hcat]; omega)⟩⟩ (aC ⟨⟨trivial, ⟨(by first | rfl | omega | (simp only [gv0, gv0_1, gv1, gv1_1, gv2, gv2_1, gv3, gv3_1, gv4, gv4_1]; omega)), trivial⟩⟩, ⟨rfl, rfl, rfl, rfl, rfl, rfl, rfl, rfl, rfl, rfl, rfl, (by first | rfl | omega | (simp only [gv0, gv0_1, gv1, gv1_1, gv2, gv2_1, gv3, gv3_1, gv4, gv4_1]; omega)), (by first | rfl | omega | (simp only [gv0, gv0_1, gv1, gv1_1, gv2, gv2_1, gv3, gv3_1, gv4, gv4_1]; omega)), (by first | rfl | omega | (simp only [gv0, gv0_1, gv1, gv1_1, gv2, gv2_1, gv3, gv3_1, gv4, gv4_1]; omega))⟩⟩ (aC ⟨⟨(by first | rfl | omega | (simp only [gv0, gv0_1, gv1, gv1_1, gv2, gv2_1, gv3, gv3_1, gv4, gv4_1]; omega)), ⟨(by first | rfl | omega | (simp only [gv0, gv0_1, gv1, gv1_1, gv2, gv2_1, gv3, gv3_1, gv4, gv4_1]; omega)), ⟨trivial, trivial⟩⟩⟩, ⟨rfl, rfl, (by first | rfl | omega | (simp only [gv0, gv0_1, gv1, gv1_1, gv2, gv2_1, gv3, gv3_1, gv4, gv4_1]; omega)), (by first | rfl | omega | (simp only [gv0, gv0_1, gv1, gv1_1, gv2, gv2_1, gv3, gv3_1, gv4, gv4_1]; omega))⟩⟩ (aC ⟨⟨(by first | rfl | omega | (simp only [gv0, gv0_1, gv1, gv1_1, gv2, gv2_1, gv3, gv3_1, gv4, gv4_1]; omega)), ⟨(by first | rfl | omega | (simp only [gv0, gv0_1, gv1, gv1_1, gv2, gv2_1, gv3, gv3_1, gv4, gv4_1]; omega)), ⟨trivial, trivial⟩⟩⟩, ⟨rfl, rfl, (by first | rfl | omega | (simp only [gv0, gv0_1, gv1, gv1_1, gv2, gv2_1, gv3, gv3_1, gv4, gv4_1]; omega)), (by first | rfl | omega | (simp only [gv0, gv0_1, gv1, gv1_1, gv2, gv2_1, gv3, gv3_1, gv4, gv4_1]; omega))⟩⟩ (aC ⟨⟨trivial, ⟨(by first | rfl | omega | (simp only [gv0, gv0_1, gv1, gv1_1, gv2, gv2_1, gv3, gv3_1, gv4, gv4_1]; omega)), trivial⟩⟩, ⟨rfl, rfl, rfl, rfl, rfl, rfl, rfl, (by first | rfl | omega | (simp only [gv0, gv0_1, gv1, gv1_1, gv2, gv2_1, gv3, gv3_1, gv4, gv4_1]; omega)), (by first | rfl | omega | (simp only [gv0, gv0_1, gv1, gv1_1, gv2, gv2_1, gv3, gv3_1, gv4, gv4_1]; omega)), (by first | rfl | omega | (simp only [gv0, gv0_1, gv1, gv1_1, gv2, gv2_1, gv3, gv3_1, gv4, gv4_1]; omega))⟩⟩ (aC ⟨⟨trivial, ⟨(by first | rfl | omega | (simp only [gv0, gv0_1, gv1, gv1_1, gv2, gv2_1, gv3, gv3_1, gv4, gv4_1]; omega)), trivial⟩⟩, ⟨rfl, rfl, rfl, (by first | rfl | omega | (simp only [gv0, gv0_1, gv1, gv1_1, gv2, gv2_1, gv3, gv3_1, gv4, gv4_1]; omega)), (by first | rfl | omega | (simp only [gv0, gv0_1, gv1, gv1_1, gv2, gv2_1, gv3, gv3_1, gv4, gv4_1]; omega)), rfl⟩⟩ (AllP_nil))))))))))))))))))))))))))))))))))))))

end Go.Proofs.Ytlmdhjojinkdbaa.X

/- The law Keyed: its loop makes a family of copies; the whole. -/
namespace Go.Proofs.Ytlmdhjojinkdbaa.X
open Go Go.Proofs
set_option linter.unusedVariables false
set_option maxRecDepth 100000

def KInv (L : List Value) (C : List (List Int)) (w : World) (rw : List Nat) (k : Nat) (s : List Value × List Value × List Value) : Prop :=
  FamR w rw L C ∧ FamR w rw s.1 (Gv C k) ∧ FamR w rw s.2.1 (Gv C k) ∧ FamR w rw s.2.2 (C.take k)

theorem len_flatten {c : List Int} : ∀ {C : List (List Int)}, c ∈ C → c.length ≤ C.flatten.length
  | [], h => nomatch h
  | d :: C, h => by
    rw [List.flatten_cons, List.length_append]
    rcases List.mem_cons.1 h with rfl | h
    · omega
    · have := len_flatten h; omega
theorem kd_conv {kn : Nat} {key : List Int} {n : Nat} {L : List Value} {m : Nat} {info : List Int} {N : Int} {cap0 cap1 cap2 : Nat} {C : List (List Int)} {w : World} {rw : List Nat} {β0 : Env} {k : Nat} {G W S : List Value} (hC : C.length = n) (hk : k < n)
    (hi : KInv L C w rw k (G, W, S)) {β : Env} {a' : Act} {w' : World} (hR : Rel ⟨w, rw, 3, β0⟩ β (kdMd kn key n L m info N cap0 cap1 cap2 w k G W S) a' w') :
    ∃ β' s', Rel ⟨w, rw, 3, β0⟩ β' (kdMk kn key n L m info N cap0 cap1 cap2 (k + 1) s') a' w' ∧ KInv L C w' (ownBlks β' (kdMk kn key n L m info N cap0 cap1 cap2 (k + 1) s').K) (k + 1) s' := by
  have hkC : k < C.length := by omega
  have hc : contV w (L.getD k undef) = C.getD k [] := hi.1.cont k hkC
  have hlen : lenV (L.getD k undef) = (C.getD k []).length := by
    obtain ⟨_, _, _, hl, _⟩ := hi.1.imp k hkC 0 noEnv
    rw [← hl, hc]
  have eG : sub G 0 k = G := sub_len_all G (by have := hi.2.1.len; rw [Gv_len (by omega)] at this; exact this)
  have eW : sub W 0 k = W := sub_len_all W (by have := hi.2.2.1.len; rw [Gv_len (by omega)] at this; exact this)
  have eS : sub S 0 k = S := sub_len_all S (by have := hi.2.2.2.len; rw [List.length_take] at this; show S.length = k; have h2 : S.length = min k C.length := this; omega)
  obtain ⟨G', hG', h1⟩ := Rel.valued (slots := (kdMd kn key n L m info N cap0 cap1 cap2 w k G W S).slots) (K := (kdMd kn key n L m info N cap0 cap1 cap2 w k G W S).K) hR (j := 4) (by rfl) (n := k + 1) (by rfl)
  obtain ⟨W', hW', h2⟩ := h1.valued (j := 5) (by rfl) (n := k + 1) (by rfl)
  obtain ⟨S', hS', h3⟩ := h2.valued (j := 6) (by rfl) (n := k + 1) (by rfl)
  have h4 := h3.forgot [0, 1, 2, 3, 8, 9, 10, 11] 7 (by show 3 ≤ 7; decide)
  have hL : Less (kdMd kn key n L m info N cap0 cap1 cap2 w k G W S).K (kdMk kn key n L m info N cap0 cap1 cap2 (k + 1) (G', W', S')).K 7 := Less.of (by rfl)
  have hrw := hR.relw
  have hm3 : ∀ c : List Int, sub (gvB c.length (sub c 0 c.length)) 0 (c.length + 3) = gvB c.length c := fun c => by
    rw [sub_all c _ (Nat.le_refl _)]
    exact sub_all _ _ (by rw [gvB_len rfl]; exact Nat.le_refl _)
  refine ⟨β, (G', W', S'), h4.cast (by rfl), hi.1.move hrw hL, ?_, ?_, ?_⟩
  · have := fam_two hrw hL (L0 := sub G 0 k) (C := Gv C k) (by rw [eG]; exact hi.2.1) (x := .sl 7 0 (gv0 (lenV (L.getD k undef))) (gv0 (lenV (L.getD k undef)))) (p := 0 + gv0 (lenV (L.getD k undef)) ≤ gv0 (lenV (L.getD k undef))) (by rfl) (by rfl) (by omega) hG'
    rw [hlen, hc] at this
    rw [← Gv_step hkC, ← hm3]; exact this
  · have := fam_two hrw hL (L0 := sub W 0 k) (C := Gv C k) (by rw [eW]; exact hi.2.2.1) (x := .rs 8 0 (gv0 (lenV (L.getD k undef))) 1) (p := 0 + gv0 (lenV (L.getD k undef)) ≤ gv0 (lenV (L.getD k undef))) (by rfl) (by rfl) (by omega) hW'
    rw [hlen, hc] at this
    rw [← Gv_step hkC, ← hm3]; exact this
  · have := fam_two hrw hL (L0 := sub S 0 k) (C := C.take k) (by rw [eS]; exact hi.2.2.2) (x := .sl 7 0 (lenV (L.getD k undef)) (gv0 (lenV (L.getD k undef)))) (p := 0 + lenV (L.getD k undef) ≤ gv0 (lenV (L.getD k undef))) (by rfl) (by rfl) (by show 0 + _ ≤ _ + 3; omega) hS'
    rw [hlen, hc] at this
    rw [← take_succ' (d := []) hkC]
    have e : ∀ c : List Int, sub (gvB c.length (sub c 0 c.length)) 0 c.length = c := fun c => by
      rw [sub_all c _ (Nat.le_refl _)]; exact gvB_take rfl
    rw [← e (C.getD k [])] ; exact this

theorem kd_body (w : World) (kn : Nat) (key : List Int) (n : Nat) (L : List Value) (m : Nat) (info : List Int) (N : Int) (cap0 cap1 cap2 : Nat) (hkn : kn < 17592186044416) (hm : m < 17592186044416) (hn : n < 1099511627776) (hP : PartsOk w L n) (hl : L.length = n) (hcl : (catV w L n).length < 17592186044416) (β : Env) :
    Body Try.prog (tabOf tabKK) Try.f4 ⟨w, [], 3, β⟩ [.o (.a (.sl 0 0 kn cap0)), .o (.a (.sl 1 0 n cap1)), .o (.a (.sl 2 0 m cap2)), .o (.a (.i .i64 N))] [some ⟨false, [.ints .u8 kn key]⟩, some ⟨false, [.vals n L]⟩, some ⟨false, [.ints .u8 m info]⟩] fun ys _ => ys = [.a (.b true)] := by
  refine Body.lens (c := kdB) rfl fun h => ?_
  have hl0 := h.lens 0 _ .u8 kn key rfl (by simp)
  have hl2 := h.lens 2 _ .u8 m info rfl (by simp)
  let C := contL w L n
  have hF : FamR w [] L C := FamR.of hl hP.imp
  have hC : C.length = n := contL_len w L n
  have hcat : catV w L n = C.flatten := hF.catEq hC.symm
  have hfl : C.flatten.length < 17592186044416 := by rw [← hcat]; exact hcl
  have hsm : ∀ c ∈ C, c.length < 17592186044416 := fun c hc => Nat.lt_of_le_of_lt (len_flatten hc) hfl
  refine Body.of_run (c := kdB) rfl ?_
  rw [show kdB = .seq (fstC kdB) (.seq (fstC (sndC kdB)) (.seq (fstC (sndC (sndC kdB))) (.seq (.seq (fstC (fstC (sndC (sndC (sndC kdB))))) (.block 0 (.loop kdC))) kdRest))) from by kernel_rfl]
  refine Run.seqTo (st1 := kdS1 kn key n L m info N cap0 cap1 cap2) (kdP0 w β kn key n L m info N cap0 cap1 cap2) ?_
  refine Run.seqTo (kdP1 w β kn key n L m info N cap0 cap1 cap2) ?_
  refine Run.seqTo (kdP2 w β kn key n L m info N cap0 cap1 cap2) ?_
  refine Run.famPre (kdMk kn key n L m info N cap0 cap1 cap2) (KInv L C) n 3 ?_ ?_ ?_ rfl ?_
  · intro w1 rw1 β1 k s hk hi
    obtain ⟨G, W, S⟩ := s
    have hlen : ∀ i, i < n → lenV (L.getD i undef) < 17592186044416 := fun i hin => by
      obtain ⟨_, _, _, hl', _⟩ := hi.1.imp i (by omega) 0 noEnv
      rw [← hl', hi.1.cont i (by omega), List.getD_eq_getElem?_getD, List.getElem?_eq_getElem (by omega)]
      exact hsm _ (List.getElem_mem _)
    refine (kdRound w1 rw1 β1 kn key n L m info N cap0 cap1 cap2 (fun i hin => hi.1.imp i (by omega)) hlen hn k hk G W S).mono fun e s hp => ⟨hp.1, fun β a w hR => ?_⟩
    obtain ⟨β2, hR2⟩ := hp.2 β a w hR
    exact kd_conv hC hk hi hR2
  · intro w1 rw1 β1 s hi
    exact kdLast w1 rw1 β1 kn key n L m info N cap0 cap1 cap2 s.1 s.2.1 s.2.2
  · intro w1 rw1 β1 s hi
    obtain ⟨G, W, S⟩ := s
    have hS : FamR w1 rw1 S C := by have := hi.2.2.2; rw [List.take_of_length_le (by omega)] at this; exact this
    have ec : catV w1 S n = catV w1 L n := by rw [hS.catEq hC.symm, hi.1.catEq hC.symm]
    refine kdRun w1 rw1 β1 kn key n L m info N cap0 cap1 cap2 G W S (hS.toParts hC.symm (by omega)) (hi.1.toParts hC.symm (by omega)) ec (by rw [hi.1.catEq hC.symm]; omega) hkn hm hn (Gv C n) hi.2.1 hi.2.2.1 (Gv_len (by omega)) (fun x hx => Nat.lt_trans (Gv_small hsm x hx) (by decide)) ?_ ?_ ?_ ?_
    · exact gvB_take hl0
    · exact sub_all key kn (by omega)
    · exact gvB_take hl2
    · exact sub_all info m (by omega)
  · refine (kdP3 w β kn key n L m info N cap0 cap1 cap2).mono fun e s hp => ⟨hp.1, fun β1 a w1 hR => ?_⟩
    obtain ⟨β2, hR2⟩ := hp.2 β1 a w1 hR
    have h1 := Rel.emptied (slots := (kdS4 kn key n L m info N cap0 cap1 cap2).slots) (K := (kdS4 kn key n L m info N cap0 cap1 cap2).K) hR2 (j := 4) (by rfl)
    have h2 := h1.emptied (j := 5) (by rfl)
    have h3 := h2.emptied (j := 6) (by rfl)
    refine ⟨β2, ([], [], []), h3.cast (by rfl), ?_⟩
    have hL : Less (kdS4 kn key n L m info N cap0 cap1 cap2).K (kdMk kn key n L m info N cap0 cap1 cap2 0 ([], [], [])).K 7 := Less.of (by rfl)
    exact ⟨hF.move hR2.relw hL, FamR.nil, FamR.nil, FamR.nil⟩
end Go.Proofs.Ytlmdhjojinkdbaa.X

/-
  FOR A PROOF OF AN '..UptoSaid': WHAT THE BOUND GIVES. Copy it as <Name>Bulk.lean (put your seat's Name for Ytlmdhjojinkdbaa, the bound of 'uptoSmall' for 1048576), name it in GOCLAIM.json's 'order' behind <Name>Rows. By an AI agent, Sun Nov 15 2026. No person has read it. No macro, syntax, notation, axiom, sorry.
-/
namespace Go.Proofs.Ytlmdhjojinkdbaa.bulks

theorem one_le {H : Type} (d : DataW H) : 1 ≤ Rows.uptoBulk d := by
  cases d with
  | lit l => cases l <;> simp [Rows.uptoBulk]
  | nil => simp [Rows.uptoBulk]
  | ptr d => simp [Rows.uptoBulk]
  | slice elems spare => simp [Rows.uptoBulk]
  | agg parts => simp [Rows.uptoBulk]
  | iface t d => simp [Rows.uptoBulk]
  | map entries => simp [Rows.uptoBulk]
  | held h => simp [Rows.uptoBulk]

/-- a part's bulk is at most the whole's -/
theorem part_le {H : Type} {d : DataW H} {l : List (DataW H)} (h : d ∈ l) : Rows.uptoBulk d ≤ Rows.uptoBulkAll l := by
  induction l with
  | nil => cases h
  | cons x r ih =>
    simp only [Rows.uptoBulkAll]
    cases List.mem_cons.1 h with
    | inl e => subst e; omega
    | inr e => have := ih e; omega

theorem append {H : Type} (l r : List (DataW H)) : Rows.uptoBulkAll (l ++ r) = Rows.uptoBulkAll l + Rows.uptoBulkAll r := by
  induction l with
  | nil => simp [Rows.uptoBulkAll]
  | cons x l ih => simp only [List.cons_append, Rows.uptoBulkAll, ih]; omega

/-- so many values at the most -/
theorem length_le {H : Type} (l : List (DataW H)) : l.length ≤ Rows.uptoBulkAll l := by
  induction l with
  | nil => simp [Rows.uptoBulkAll]
  | cons x r ih => have := one_le x; simp only [Rows.uptoBulkAll, List.length_cons]; omega

/-- a slice's places, and what they hold -/
theorem slice_le {H : Type} (elems spare : List (DataW H)) : elems.length + spare.length + 1 ≤ Rows.uptoBulk (.slice elems spare) := by
  have h1 := length_le elems
  have h2 := length_le spare
  simp only [Rows.uptoBulk]
  omega
theorem slice_elems {H : Type} (elems spare : List (DataW H)) : Rows.uptoBulkAll elems + 1 ≤ Rows.uptoBulk (.slice elems spare) := by
  simp only [Rows.uptoBulk]
  omega

/-- THE BOUND, as the builder hands it over ('hk') -/
theorem bound {H : Type} {l : List (DataW H)} (hk : Rows.uptoSmall H l = true) : Rows.uptoBulkAll l ≤ 1048576 := by
  simpa [Rows.uptoSmall] using hk

end Go.Proofs.Ytlmdhjojinkdbaa.bulks

