/- Whole functions: from a run of the body to a contract of the call. -/
import Derived.Test.YtepimglipelpmaaXM
namespace Go.Proofs.Ytepimglipelpmaa.X
open Go

def res1 (T : Tab) (st : St) : ResultVar → Option V1
  | .tmp t => match st.slots.getD t .u with
    | .o x => some x
    | _ => none
  | .cell a t => match opLoad T st.K t (st.slots.getD a .u) with
    | some ⟨none, .o x, _, _⟩ => some x
    | _ => none

def resL (T : Tab) (st : St) : List ResultVar → Option (List V1)
  | [] => some []
  | r :: rs => match res1 T st r, resL T st rs with
    | some x, some xs => some (x :: xs)
    | _, _ => none

/-- the value that results make -/
def retOf : List V1 → AV
  | [x] => .o x
  | xs => .t xs

theorem retOf_con {β : Env} {xs : List V1} {vs : List Value} (h : all2 β xs vs) : (retOf xs).con β (if h : vs.toArray.size = 1 then vs.toArray[0] else .tuple vs.toArray) := by
  match xs, vs, h with
  | [], vs, h => simp only [all2] at h; subst h; exact ⟨[], rfl, rfl⟩
  | [x], vs, h =>
    obtain ⟨v, rest, rfl, hv, hr⟩ := h
    simp only [all2] at hr; subst hr
    exact hv
  | x :: y :: r, vs, h =>
    obtain ⟨v, rest, rfl, hv, hr⟩ := h
    obtain ⟨v2, rest2, rfl, hv2, hr2⟩ := hr
    rw [dif_neg (by simp)]
    exact ⟨_, rfl, v, _, rfl, hv, v2, rest2, rfl, hv2, hr2⟩

def rvOf (tmps : Array Value) : ResultVar → Sem Value
  | .tmp t => pure (tmps.getD t undef)
  | .cell q t => do loadVar t (← asAddr (tmps.getD q undef))

section sound
variable {P : Program} {T : Tab}

theorem results_eq (fn : Func) (tmps : Array Value) : results fn tmps = (do
    let vs ← fn.results.mapM (rvOf tmps)
    pure (if h : vs.size = 1 then vs[0] else .tuple vs)) := by
  unfold results
  congr 1

theorem res1_run (hT : TabOk P T) {st : St} {r : ResultVar} {x : V1} (h : res1 T st r = some x) {B : Bs} {β : Env} {a : Act} {w : World} (hR : Rel B β st a w) :
    ∃ v, (rvOf a.tmps r).run P w = .ok v w ∧ x.con β v := by
  cases r with
  | tmp t =>
    simp only [res1] at h
    split at h
    · rename_i y hy
      simp only [Option.some.injEq] at h; subst h
      have := hR.slot t
      rw [hy] at this
      exact ⟨_, rfl, this⟩
    · simp at h
  | cell q t =>
    simp only [res1] at h
    split at h
    · rename_i y ch al hl
      simp only [Option.some.injEq] at h; subst h
      -- a load changes nothing
      have hld : ∃ v, (Instr.loadAt t (a.tmps.getD q undef)).run P w = .ok v w ∧ y.con β v := by
        unfold opLoad at hl
        split at hl
        · rename_i e j c sym he hp
          obtain ⟨rr, hr, hv⟩ := ptr_con hp (hR.slot q)
          split at hl
          · simp at hl
          · rename_i b hb
            split at hl
            · simp at hl
            · rename_i hz
              split at hl
              · rename_i vc out hrng
                simp only [Option.map_eq_some_iff] at hl
                obtain ⟨y', hy, he'⟩ := hl
                simp only [Ox.mk.injEq, AV.o.injEq] at he'
                obtain ⟨rfl, rfl, _, _⟩ := he'
                obtain ⟨cs, hc, hd⟩ := Blk.cellsAt (hR.relw.holds j b hb) hr
                obtain ⟨ho, hl'⟩ := rng_con hrng trivial (by omega) hc
                obtain ⟨hy1, hy2⟩ := mk1_con hy ho (sub_len _ _ _ hl')
                refine ⟨_, ?_, hy1⟩
                rw [hv]
                show (loadVar t _).run P w = _
                refine run_load (hT t e he) _ _ (sub_len _ _ _ hl') hy2 ?_
                intro i v hv
                rw [addr_add, Nat.add_assoc]; exact hd _ _ (getElem?_sub _ _ _ _ _ hv)
              · simp at hl
        · simp at hl
      obtain ⟨v, hv, hyc⟩ := hld
      refine ⟨v, ?_, hyc⟩
      have hp : ∃ ad, a.tmps.getD q undef = .pointer (some ad) := by
        have hs := hR.slot q
        unfold opLoad at hl
        split at hl
        · rename_i e j c sym he hp
          obtain ⟨rr, hr, hv⟩ := ptr_con hp hs
          exact ⟨_, hv⟩
        · simp at hl
      obtain ⟨ad, had⟩ := hp
      rw [had] at hv
      show ((do loadVar t (← asAddr (a.tmps.getD q undef))) : Sem Value).run P w = .ok v w
      rw [had]
      simpa [Instr.loadAt, Instr.sureAddr, asAddr] using hv
    · simp at h

theorem resL_run (hT : TabOk P T) {st : St} {B : Bs} {β : Env} {a : Act} {w : World} (hR : Rel B β st a w) : ∀ {rs : List ResultVar} {xs : List V1}, resL T st rs = some xs →
    ∃ vs, (rs.mapM (rvOf a.tmps)).run P w = .ok vs w ∧ all2 β xs vs
  | [], xs, h => by simp only [resL, Option.some.injEq] at h; subst h; exact ⟨[], by simp, rfl⟩
  | r :: rs, xs, h => by
    simp only [resL] at h
    split at h
    · rename_i x ys hx hy
      simp only [Option.some.injEq] at h; subst h
      obtain ⟨v, hv, hvc⟩ := res1_run hT hx hR
      obtain ⟨vs, hvs, hvsc⟩ := resL_run hT hR hy
      refine ⟨v :: vs, ?_, v, vs, rfl, hvc, hvsc⟩
      rw [List.mapM_cons, Sem.run_bind, hv, Result.andThen_ok, Sem.run_bind, hvs]
      rfl
    · simp at h

theorem results_run (hT : TabOk P T) {fn : Func} {st : St} {xs : List V1} (h : resL T st fn.results.toList = some xs) {B : Bs} {β : Env} {a : Act} {w : World} (hR : Rel B β st a w) :
    ∃ v, (results fn a.tmps).run P w = .ok v w ∧ (retOf xs).con β v := by
  obtain ⟨vs, hvs, hc⟩ := resL_run hT hR h
  refine ⟨_, ?_, retOf_con hc⟩
  rw [results_eq, Sem.run_bind]
  have e : (fn.results.mapM (rvOf a.tmps)).run P w = .ok vs.toArray w := by
    rw [Array.mapM_eq_mapM_toList, Sem.run_map, hvs]; rfl
  rw [e]
  rfl

/-- a body that comes to what Fin says of its results and of the blocks behind it -/
def Body (P : Program) (T : Tab) (fn : Func) (B : Bs) (avs : List AV) (K0 : Know) (Fin : List V1 → Know → Prop) : Prop :=
  ∃ c, fn.body = some c ∧ Run P B c ⟨avs ++ List.replicate (fn.ntmps - avs.length) .u, K0⟩ fun e s => (e = .normal ∨ e = .ret) ∧ ∃ s', Weak B s s' ∧ ∃ xs m, resL T s' fn.results.toList = some xs ∧ Fin xs (s'.K.take m)

theorem allC_len {β : Env} : ∀ {avs : List AV} {vs : List Value}, allC β avs vs → vs.length = avs.length
  | [], vs, h => by simp [allC] at h; simp [h]
  | a :: r, vs, h => by obtain ⟨v, rest, rfl, _, hr⟩ := h; simp [allC_len hr]

theorem allC_getD {β : Env} : ∀ {avs : List AV} {vs : List Value}, allC β avs vs → ∀ t, (avs.getD t .u).con β (vs.getD t undef)
  | [], vs, h, t => by simp only [List.getD_nil]; trivial
  | a :: r, vs, h, t => by
    obtain ⟨v, rest, rfl, ha, hr⟩ := h
    cases t with
    | zero => exact ha
    | succ t => simpa using allC_getD hr t

theorem calls_of_body (hT : TabOk P T) {f : FuncId} {fn : Func} (hf : P.funcs[f]? = some fn) {w : World} {rw : List Nat} {β0 : Env} {K0 : Know} {avs : List AV} {vs : List Value} (ha : allC β0 avs vs) (hw : RelW w rw β0 K0 w)
    {Fin : List V1 → Know → Prop} (h : Body P T fn ⟨w, rw, K0.length, β0⟩ avs K0 Fin) :
    Calls P f vs.toArray w fun e w' => ∃ xs K v β', Fin xs K ∧ e = .returned v ∧ (retOf xs).con β' v ∧ RelW w rw β' K w' ∧ (∀ j, j < K0.length → β' j = β0 j) := by
  obtain ⟨c, hb, hrun⟩ := h
  have hlen := allC_len ha
  refine calls_of_wp hf hb (hrun β0 _ w ⟨hw, rfl, ?_, ?_, fun _ _ => rfl, Nat.le_refl _⟩ _ ?_)
  · simp [hlen]
  · intro t
    by_cases ht : t < avs.length
    · have h1 : (avs ++ List.replicate (fn.ntmps - avs.length) AV.u).getD t .u = avs.getD t .u := by
        simp only [List.getD_eq_getElem?_getD]; rw [List.getElem?_append_left ht]
      have h2 : (vs.toArray ++ Array.replicate (fn.ntmps - vs.toArray.size) undef).getD t undef = vs.getD t undef := by
        simp only [Array.getD_eq_getD_getElem?, List.getD_eq_getElem?_getD]
        rw [Array.getElem?_append_left (by simp; omega)]; simp
      rw [h1, h2]; exact allC_getD ha t
    · have h1 : (avs ++ List.replicate (fn.ntmps - avs.length) AV.u).getD t .u = .u := by
        simp only [List.getD_eq_getElem?_getD]; rw [List.getElem?_append_right (by omega)]
        rw [List.getElem?_replicate]; split <;> rfl
      rw [h1]; trivial
  · intro e st' β' a' w' hp hR
    obtain ⟨he, s', hweak, xs, m, hx, hfin⟩ := hp
    obtain ⟨β', hR⟩ := hweak _ _ _ hR
    obtain ⟨v, hv, hvc⟩ := results_run hT hx hR
    have : bodyPost P fn (fun e w' => ∃ xs K v β', Fin xs K ∧ e = .returned v ∧ (retOf xs).con β' v ∧ RelW w rw β' K w' ∧ (∀ j, j < K0.length → β' j = β0 j)) .normal a' w' :=
      ⟨hR.defers, v, hv, xs, s'.K.take m, v, β', hfin, rfl, hvc, hR.relw.less fun j b hj => Know.at_take _ _ _ _ hj, hR.fix⟩
    rcases he with rfl | rfl
    · exact this
    · exact this

theorem Body.mono {P : Program} {fn : Func} {B : Bs} {avs : List AV} {K0 : Know} {Fin Fin' : List V1 → Know → Prop} (h : Body P T fn B avs K0 Fin) (hf : ∀ xs K, Fin xs K → Fin' xs K) : Body P T fn B avs K0 Fin' := by
  obtain ⟨c, hb, hr⟩ := h
  refine ⟨c, hb, hr.mono fun e s hp => ?_⟩
  obtain ⟨he, s', hw, xs, m, hx, hfin⟩ := hp
  exact ⟨he, s', hw, xs, m, hx, hf _ _ hfin⟩

/-- the lists of the blocks have the lengths that they are said to have, the slices the room -/
structure lensOk (avs : List AV) (K : Know) : Prop where
  lens : ∀ (j : Nat) (b : Blk) (k : IntKind) (n : Nat) (L : List Int), K.at j = some b → Atom.ints k n L ∈ b.cells → L.length = n
  caps : ∀ (t j c n m : Nat), avs[t]? = some (AV.o (.a (.sl j c n m))) → n ≤ m
  vals : ∀ (t : Nat) (k : IntKind) (n : Nat) (L : List Int), avs[t]? = some (AV.o (.g [.ints k n L])) → L.length = n

theorem cons_lens {β : Env} : ∀ {l : List Atom} {cs : List Value}, cons β l cs → ∀ {k n L}, Atom.ints k n L ∈ l → L.length = n
  | [], _, _, _, _, _, h => by simp at h
  | a :: r, cs, hc, k, n, L, h => by
    obtain ⟨x, y, rfl, ha, hr⟩ := hc
    rcases List.mem_cons.1 h with h | h
    · subst h; exact ha.1
    · exact cons_lens hr h

theorem Body.lens {P : Program} {fn : Func} {B : Bs} {avs : List AV} {K0 : Know} {Fin : List V1 → Know → Prop} {c : Code} (hb : fn.body = some c) (h : lensOk avs K0 → Body P T fn B avs K0 Fin) : Body P T fn B avs K0 Fin := by
  by_cases hl : lensOk avs K0
  · exact h hl
  · refine ⟨c, hb, fun β a w hR => absurd ?_ hl⟩
    have hat : ∀ (t : Nat) (x : AV), avs[t]? = some x → x.con β (a.tmps.getD t undef) := by
      intro t x ht
      have h1 := hR.slot t
      have hlt := (List.getElem?_eq_some_iff.1 ht).1
      have h2 : (avs ++ List.replicate (fn.ntmps - avs.length) AV.u).getD t .u = x := by
        rw [List.getD_eq_getElem?_getD, List.getElem?_append_left hlt, ht]; rfl
      simp only [h2] at h1
      exact h1
    refine ⟨?_, ?_, ?_⟩
    · intro j b k n L hj hm
      obtain ⟨cs, hc, _⟩ := hR.relw.holds j b hj
      exact cons_lens hc hm
    · intro t j c n m ht
      obtain ⟨_, _, h3, _⟩ := hat t _ ht
      exact h3
    · intro t k n L ht
      obtain ⟨cs, _, hc⟩ := hat t _ ht
      exact cons_lens hc List.mem_cons_self

/-- the world has only grown -/
structure Grow (w w' : World) : Prop where
  old : ∀ b, b < w.heap.size → w'.heap[b]? = w.heap[b]?
  size : w.heap.size ≤ w'.heap.size
  os : w'.os = w.os
  tape : w'.tape = w.tape
  output : w'.output = w.output

theorem RelW.grow {w0 : World} {rw : List Nat} {β : Env} {K : Know} {w w' : World} (h : RelW w0 rw β K w) (g : Grow w w') : RelW w0 rw β K w' := by
  refine ⟨?_, h.apart, h.mine, fun j b r hj hr => Nat.lt_of_lt_of_le (h.live j b r hj hr) g.size, fun b hb hn => (g.old b (Nat.lt_of_lt_of_le hb h.size)).trans (h.old b hb hn), Nat.le_trans h.size g.size, g.os.trans h.os, g.tape.trans h.tape, g.output.trans h.output⟩
  intro j b hj
  obtain ⟨cs, hc, hd⟩ := h.holds j b hj
  refine ⟨cs, hc, hd.imp id ?_⟩
  rintro ⟨r, arr, ty, fr, hr, hh, rest⟩
  exact ⟨r, arr, ty, fr, hr, (g.old _ (h.live j b r hj hr)).trans hh, rest⟩

theorem RelW.toGrow {w : World} {β : Env} {K : Know} {w' : World} (h : RelW w [] β K w') : Grow w w' :=
  ⟨fun b hb => h.old b hb (by simp), h.size, h.os, h.tape, h.output⟩

/-- blocks that are only read, as a callee sees them -/
theorem RelW.ofRead {w : World} {β : Env} {K : Know} (h : ∀ j b, K.at j = some b → b.own = false ∧ b.holds β w j ∧ ∀ r, β j = some r → r.blk < w.heap.size) : RelW w [] β K w :=
  ⟨fun j b hj => (h j b hj).2.1, fun j k b c r s hj _ ho => (by rw [(h j b hj).1] at ho; cases ho), fun j b r hj ho => (by rw [(h j b hj).1] at ho; cases ho), fun j b r hj => (h j b hj).2.2 r, fun _ _ _ => rfl, Nat.le_refl _, rfl, rfl, rfl⟩
end sound
end Go.Proofs.Ytepimglipelpmaa.X
