/- The core, part 4 of 5: blocks of memory known by number, and an evaluator over loaded code, shown sound. -/
import Derived.Test.YtcpoldghkiiggaaC3
/- Whole functions: from a run of the body to a contract of the call. -/
namespace Go.Proofs.Ytcpoldghkiiggaa.X
open Go

def res1 (T : Tab) (st : St) : ResultVar → Option V1
  | .tmp t => match st.slots.getD t .u with
    | .o x => some x
    | _ => none
  | .cell a t => match opLoad T st.K t (st.slots.getD a .u) with
    | some ⟨none, .o x, _, _⟩ => some x
    | _ => none

def resL (T : Tab) (st : St) : List ResultVar → Option (List V1)
  | [] => some []
  | r :: rs => match res1 T st r, resL T st rs with
    | some x, some xs => some (x :: xs)
    | _, _ => none

/-- the value that results make -/
def retOf : List V1 → AV
  | [x] => .o x
  | xs => .t xs

theorem retOf_con {β : Env} {xs : List V1} {vs : List Value} (h : all2 β xs vs) : (retOf xs).con β (if h : vs.toArray.size = 1 then vs.toArray[0] else .tuple vs.toArray) := by
  match xs, vs, h with
  | [], vs, h => simp only [all2] at h; subst h; exact ⟨[], rfl, rfl⟩
  | [x], vs, h =>
    obtain ⟨v, rest, rfl, hv, hr⟩ := h
    simp only [all2] at hr; subst hr
    exact hv
  | x :: y :: r, vs, h =>
    obtain ⟨v, rest, rfl, hv, hr⟩ := h
    obtain ⟨v2, rest2, rfl, hv2, hr2⟩ := hr
    rw [dif_neg (by simp)]
    exact ⟨_, rfl, v, _, rfl, hv, v2, rest2, rfl, hv2, hr2⟩

def rvOf (tmps : Array Value) : ResultVar → Sem Value
  | .tmp t => pure (tmps.getD t undef)
  | .cell q t => do loadVar t (← asAddr (tmps.getD q undef))

section sound
variable {P : Program} {T : Tab}

theorem results_eq (fn : Func) (tmps : Array Value) : results fn tmps = (do
    let vs ← fn.results.mapM (rvOf tmps)
    pure (if h : vs.size = 1 then vs[0] else .tuple vs)) := by
  unfold results
  congr 1

theorem res1_run (hT : TabOk P T) {st : St} {r : ResultVar} {x : V1} (h : res1 T st r = some x) {B : Bs} {β : Env} {a : Act} {w : World} (hR : Rel B β st a w) :
    ∃ v, (rvOf a.tmps r).run P w = .ok v w ∧ x.con β v := by
  cases r with
  | tmp t =>
    simp only [res1] at h
    split at h
    · rename_i y hy
      simp only [Option.some.injEq] at h; subst h
      have := hR.slot t
      rw [hy] at this
      exact ⟨_, rfl, this⟩
    · simp at h
  | cell q t =>
    simp only [res1] at h
    split at h
    · rename_i y ch al hl
      simp only [Option.some.injEq] at h; subst h
      -- a load changes nothing
      have hld : ∃ v, (Instr.loadAt t (a.tmps.getD q undef)).run P w = .ok v w ∧ y.con β v := by
        unfold opLoad at hl
        split at hl
        · rename_i e j c sym he hp
          obtain ⟨rr, hr, hv⟩ := ptr_con hp (hR.slot q)
          split at hl
          · simp at hl
          · rename_i b hb
            split at hl
            · simp at hl
            · rename_i hz
              split at hl
              · rename_i vc out hrng
                simp only [Option.map_eq_some_iff] at hl
                obtain ⟨y', hy, he'⟩ := hl
                simp only [Ox.mk.injEq, AV.o.injEq] at he'
                obtain ⟨rfl, rfl, _, _⟩ := he'
                obtain ⟨cs, hc, hd⟩ := Blk.cellsAt (hR.relw.holds j b hb) hr
                obtain ⟨ho, hl'⟩ := rng_con hrng trivial (by omega) hc
                obtain ⟨hy1, hy2⟩ := mk1_con hy ho (sub_len _ _ _ hl')
                refine ⟨_, ?_, hy1⟩
                rw [hv]
                show (loadVar t _).run P w = _
                refine run_load (hT t e he) _ _ (sub_len _ _ _ hl') hy2 ?_
                intro i v hv
                rw [addr_add, Nat.add_assoc]; exact hd _ _ (getElem?_sub _ _ _ _ _ hv)
              · simp at hl
        · simp at hl
      obtain ⟨v, hv, hyc⟩ := hld
      refine ⟨v, ?_, hyc⟩
      have hp : ∃ ad, a.tmps.getD q undef = .pointer (some ad) := by
        have hs := hR.slot q
        unfold opLoad at hl
        split at hl
        · rename_i e j c sym he hp
          obtain ⟨rr, hr, hv⟩ := ptr_con hp hs
          exact ⟨_, hv⟩
        · simp at hl
      obtain ⟨ad, had⟩ := hp
      rw [had] at hv
      show ((do loadVar t (← asAddr (a.tmps.getD q undef))) : Sem Value).run P w = .ok v w
      rw [had]
      simpa [Instr.loadAt, Instr.sureAddr, asAddr] using hv
    · simp at h

theorem resL_run (hT : TabOk P T) {st : St} {B : Bs} {β : Env} {a : Act} {w : World} (hR : Rel B β st a w) : ∀ {rs : List ResultVar} {xs : List V1}, resL T st rs = some xs →
    ∃ vs, (rs.mapM (rvOf a.tmps)).run P w = .ok vs w ∧ all2 β xs vs
  | [], xs, h => by simp only [resL, Option.some.injEq] at h; subst h; exact ⟨[], by simp, rfl⟩
  | r :: rs, xs, h => by
    simp only [resL] at h
    split at h
    · rename_i x ys hx hy
      simp only [Option.some.injEq] at h; subst h
      obtain ⟨v, hv, hvc⟩ := res1_run hT hx hR
      obtain ⟨vs, hvs, hvsc⟩ := resL_run hT hR hy
      refine ⟨v :: vs, ?_, v, vs, rfl, hvc, hvsc⟩
      rw [List.mapM_cons, Sem.run_bind, hv, Result.andThen_ok, Sem.run_bind, hvs]
      rfl
    · simp at h

theorem results_run (hT : TabOk P T) {fn : Func} {st : St} {xs : List V1} (h : resL T st fn.results.toList = some xs) {B : Bs} {β : Env} {a : Act} {w : World} (hR : Rel B β st a w) :
    ∃ v, (results fn a.tmps).run P w = .ok v w ∧ (retOf xs).con β v := by
  obtain ⟨vs, hvs, hc⟩ := resL_run hT hR h
  refine ⟨_, ?_, retOf_con hc⟩
  rw [results_eq, Sem.run_bind]
  have e : (fn.results.mapM (rvOf a.tmps)).run P w = .ok vs.toArray w := by
    rw [Array.mapM_eq_mapM_toList, Sem.run_map, hvs]; rfl
  rw [e]
  rfl

/-- a body that comes to what Fin says of its results and of the blocks behind it -/
def Body (P : Program) (T : Tab) (fn : Func) (B : Bs) (avs : List AV) (K0 : Know) (Fin : List V1 → Know → Prop) : Prop :=
  ∃ c, fn.body = some c ∧ Run P B c ⟨avs ++ List.replicate (fn.ntmps - avs.length) .u, K0⟩ fun e s => (e = .normal ∨ e = .ret) ∧ ∃ s', Weak B s s' ∧ ∃ xs m, resL T s' fn.results.toList = some xs ∧ Fin xs (s'.K.take m)

theorem allC_len {β : Env} : ∀ {avs : List AV} {vs : List Value}, allC β avs vs → vs.length = avs.length
  | [], vs, h => by simp [allC] at h; simp [h]
  | a :: r, vs, h => by obtain ⟨v, rest, rfl, _, hr⟩ := h; simp [allC_len hr]

theorem allC_getD {β : Env} : ∀ {avs : List AV} {vs : List Value}, allC β avs vs → ∀ t, (avs.getD t .u).con β (vs.getD t undef)
  | [], vs, h, t => by simp only [List.getD_nil]; trivial
  | a :: r, vs, h, t => by
    obtain ⟨v, rest, rfl, ha, hr⟩ := h
    cases t with
    | zero => exact ha
    | succ t => simpa using allC_getD hr t

theorem calls_of_body (hT : TabOk P T) {f : FuncId} {fn : Func} (hf : P.funcs[f]? = some fn) {w : World} {rw : List Nat} {β0 : Env} {K0 : Know} {avs : List AV} {vs : List Value} (ha : allC β0 avs vs) (hw : RelW w rw β0 K0 w)
    {Fin : List V1 → Know → Prop} (h : Body P T fn ⟨w, rw, K0.length, β0⟩ avs K0 Fin) :
    Calls P f vs.toArray w fun e w' => ∃ xs K v β', Fin xs K ∧ e = .returned v ∧ (retOf xs).con β' v ∧ RelW w rw β' K w' ∧ (∀ j, j < K0.length → β' j = β0 j) := by
  obtain ⟨c, hb, hrun⟩ := h
  have hlen := allC_len ha
  refine calls_of_wp hf hb (hrun β0 _ w ⟨hw, rfl, ?_, ?_, fun _ _ => rfl, Nat.le_refl _⟩ _ ?_)
  · simp [hlen]
  · intro t
    by_cases ht : t < avs.length
    · have h1 : (avs ++ List.replicate (fn.ntmps - avs.length) AV.u).getD t .u = avs.getD t .u := by
        simp only [List.getD_eq_getElem?_getD]; rw [List.getElem?_append_left ht]
      have h2 : (vs.toArray ++ Array.replicate (fn.ntmps - vs.toArray.size) undef).getD t undef = vs.getD t undef := by
        simp only [Array.getD_eq_getD_getElem?, List.getD_eq_getElem?_getD]
        rw [Array.getElem?_append_left (by simp; omega)]; simp
      rw [h1, h2]; exact allC_getD ha t
    · have h1 : (avs ++ List.replicate (fn.ntmps - avs.length) AV.u).getD t .u = .u := by
        simp only [List.getD_eq_getElem?_getD]; rw [List.getElem?_append_right (by omega)]
        rw [List.getElem?_replicate]; split <;> rfl
      rw [h1]; trivial
  · intro e st' β' a' w' hp hR
    obtain ⟨he, s', hweak, xs, m, hx, hfin⟩ := hp
    obtain ⟨β', hR⟩ := hweak _ _ _ hR
    obtain ⟨v, hv, hvc⟩ := results_run hT hx hR
    have : bodyPost P fn (fun e w' => ∃ xs K v β', Fin xs K ∧ e = .returned v ∧ (retOf xs).con β' v ∧ RelW w rw β' K w' ∧ (∀ j, j < K0.length → β' j = β0 j)) .normal a' w' :=
      ⟨hR.defers, v, hv, xs, s'.K.take m, v, β', hfin, rfl, hvc, hR.relw.less fun j b hj => Know.at_take _ _ _ _ hj, hR.fix⟩
    rcases he with rfl | rfl
    · exact this
    · exact this

theorem Body.mono {P : Program} {fn : Func} {B : Bs} {avs : List AV} {K0 : Know} {Fin Fin' : List V1 → Know → Prop} (h : Body P T fn B avs K0 Fin) (hf : ∀ xs K, Fin xs K → Fin' xs K) : Body P T fn B avs K0 Fin' := by
  obtain ⟨c, hb, hr⟩ := h
  refine ⟨c, hb, hr.mono fun e s hp => ?_⟩
  obtain ⟨he, s', hw, xs, m, hx, hfin⟩ := hp
  exact ⟨he, s', hw, xs, m, hx, hf _ _ hfin⟩

/-- the lists of the blocks have the lengths that they are said to have, the slices the room -/
structure lensOk (avs : List AV) (K : Know) : Prop where
  lens : ∀ (j : Nat) (b : Blk) (k : IntKind) (n : Nat) (L : List Int), K.at j = some b → Atom.ints k n L ∈ b.cells → L.length = n
  caps : ∀ (t j c n m : Nat), avs[t]? = some (AV.o (.a (.sl j c n m))) → n ≤ m
  vals : ∀ (t : Nat) (k : IntKind) (n : Nat) (L : List Int), avs[t]? = some (AV.o (.g [.ints k n L])) → L.length = n

theorem cons_lens {β : Env} : ∀ {l : List Atom} {cs : List Value}, cons β l cs → ∀ {k n L}, Atom.ints k n L ∈ l → L.length = n
  | [], _, _, _, _, _, h => by simp at h
  | a :: r, cs, hc, k, n, L, h => by
    obtain ⟨x, y, rfl, ha, hr⟩ := hc
    rcases List.mem_cons.1 h with h | h
    · subst h; exact ha.1
    · exact cons_lens hr h

theorem Body.lens {P : Program} {fn : Func} {B : Bs} {avs : List AV} {K0 : Know} {Fin : List V1 → Know → Prop} {c : Code} (hb : fn.body = some c) (h : lensOk avs K0 → Body P T fn B avs K0 Fin) : Body P T fn B avs K0 Fin := by
  by_cases hl : lensOk avs K0
  · exact h hl
  · refine ⟨c, hb, fun β a w hR => absurd ?_ hl⟩
    have hat : ∀ (t : Nat) (x : AV), avs[t]? = some x → x.con β (a.tmps.getD t undef) := by
      intro t x ht
      have h1 := hR.slot t
      have hlt := (List.getElem?_eq_some_iff.1 ht).1
      have h2 : (avs ++ List.replicate (fn.ntmps - avs.length) AV.u).getD t .u = x := by
        rw [List.getD_eq_getElem?_getD, List.getElem?_append_left hlt, ht]; rfl
      simp only [h2] at h1
      exact h1
    refine ⟨?_, ?_, ?_⟩
    · intro j b k n L hj hm
      obtain ⟨cs, hc, _⟩ := hR.relw.holds j b hj
      exact cons_lens hc hm
    · intro t j c n m ht
      obtain ⟨_, _, h3, _⟩ := hat t _ ht
      exact h3
    · intro t k n L ht
      obtain ⟨cs, _, hc⟩ := hat t _ ht
      exact cons_lens hc List.mem_cons_self

/-- the world has only grown -/
structure Grow (w w' : World) : Prop where
  old : ∀ b, b < w.heap.size → w'.heap[b]? = w.heap[b]?
  size : w.heap.size ≤ w'.heap.size
  os : w'.os = w.os
  tape : w'.tape = w.tape
  output : w'.output = w.output

theorem RelW.grow {w0 : World} {rw : List Nat} {β : Env} {K : Know} {w w' : World} (h : RelW w0 rw β K w) (g : Grow w w') : RelW w0 rw β K w' := by
  refine ⟨?_, h.apart, h.mine, fun j b r hj hr => Nat.lt_of_lt_of_le (h.live j b r hj hr) g.size, fun b hb hn => (g.old b (Nat.lt_of_lt_of_le hb h.size)).trans (h.old b hb hn), Nat.le_trans h.size g.size, g.os.trans h.os, g.tape.trans h.tape, g.output.trans h.output⟩
  intro j b hj
  obtain ⟨cs, hc, hd⟩ := h.holds j b hj
  refine ⟨cs, hc, hd.imp id ?_⟩
  rintro ⟨r, arr, ty, fr, hr, hh, rest⟩
  exact ⟨r, arr, ty, fr, hr, (g.old _ (h.live j b r hj hr)).trans hh, rest⟩

theorem RelW.toGrow {w : World} {β : Env} {K : Know} {w' : World} (h : RelW w [] β K w') : Grow w w' :=
  ⟨fun b hb => h.old b hb (by simp), h.size, h.os, h.tape, h.output⟩

/-- blocks that are only read, as a callee sees them -/
theorem RelW.ofRead {w : World} {β : Env} {K : Know} (h : ∀ j b, K.at j = some b → b.own = false ∧ b.holds β w j ∧ ∀ r, β j = some r → r.blk < w.heap.size) : RelW w [] β K w :=
  ⟨fun j b hj => (h j b hj).2.1, fun j k b c r s hj _ ho => (by rw [(h j b hj).1] at ho; cases ho), fun j b r hj ho => (by rw [(h j b hj).1] at ho; cases ho), fun j b r hj => (h j b hj).2.2 r, fun _ _ _ => rfl, Nat.le_refl _, rfl, rfl, rfl⟩
end sound
end Go.Proofs.Ytcpoldghkiiggaa.X

/- Tables of types, checked by evaluation; small adaptors for contracts of functions. -/
namespace Go.Proofs.Ytcpoldghkiiggaa.X
open Go

def flatA : List Atom → Option (List Value)
  | [] => some []
  | .i k n :: r => (flatA r).map (.int k n :: ·)
  | .b x :: r => (flatA r).map (.bool x :: ·)
  | .raw v :: r => if v.oneCell' then (flatA r).map (v :: ·) else none
  | .ints k n l :: r => if l.length = n then (flatA r).map (l.map (Value.int k) ++ ·) else none
  | _ => none

theorem flatA_con {β : Env} : ∀ {l : List Atom} {cs : List Value}, flatA l = some cs → cons β l cs
  | [], cs, h => by simp only [flatA, Option.some.injEq] at h; subst h; rfl
  | a :: r, cs, h => by
    cases a <;> simp only [flatA, reduceCtorEq] at h
    case i k n =>
      simp only [Option.map_eq_some_iff] at h
      obtain ⟨ds, hd, rfl⟩ := h
      exact ⟨[_], ds, rfl, rfl, flatA_con hd⟩
    case b x =>
      simp only [Option.map_eq_some_iff] at h
      obtain ⟨ds, hd, rfl⟩ := h
      exact ⟨[_], ds, rfl, rfl, flatA_con hd⟩
    case raw v =>
      split at h
      · rename_i h1
        simp only [Option.map_eq_some_iff] at h
        obtain ⟨ds, hd, rfl⟩ := h
        exact ⟨[_], ds, rfl, ⟨rfl, h1⟩, flatA_con hd⟩
      · simp at h
    case ints k n l =>
      split at h
      · rename_i h1
        simp only [Option.map_eq_some_iff] at h
        obtain ⟨ds, hd, rfl⟩ := h
        exact ⟨_, ds, rfl, ⟨h1, rfl⟩, flatA_con hd⟩
      · simp at h

theorem TEOk.of {P : Program} {t : TypeId} {e : TE} (hu : P.underlying t = some e.d) {i : TypeInfo} (hi : P.info? t = some i) (hs : i.size = e.size) (hb : i.bytes = e.bytes) {z : Value} (hz : i.zero = some z)
    (hf : flatA e.zero = some z.cells.toList) (hq : e.eqok = true → P.eqGuardType P.depth t = false) (hzs : sizes e.zero = e.size) : TEOk P t e :=
  ⟨hu, ⟨i, z, hi, hs, hb, hz, fun _ => flatA_con hf⟩, hq, hzs⟩

def tabOf : List (Nat × TE) → Tab
  | [], _ => none
  | (n, e) :: r, t => if n = t then some e else tabOf r t

theorem tabOf_nil {P : Program} : TabOk P (tabOf []) := fun _ _ h => by simp [tabOf] at h
theorem tabOf_cons {P : Program} {n : Nat} {e : TE} {r : List (Nat × TE)} (h : TEOk P n e) (hr : TabOk P (tabOf r)) : TabOk P (tabOf ((n, e) :: r)) := by
  intro t e' h'
  simp only [tabOf] at h'
  split at h'
  · rename_i ht; subst ht; simp only [Option.some.injEq] at h'; subst h'; exact h
  · exact hr t e' h'

/- values without pointers -/
def Atom.flat : Atom → Bool
  | .p .. | .ps .. | .sl .. | .rs .. => false
  | _ => true
def V1.flat : V1 → Bool
  | .a x => x.flat
  | .g l => l.all Atom.flat

theorem Atom.flat_con {β β' : Env} {a : Atom} (h : a.flat = true) {cs : List Value} (hc : a.con β cs) : a.con β' cs := by
  cases a <;> simp only [Atom.flat, reduceCtorEq] at h <;> exact hc
theorem cons_flat {β β' : Env} : ∀ {l : List Atom}, l.all Atom.flat = true → ∀ {cs : List Value}, cons β l cs → cons β' l cs
  | [], _, _, hc => hc
  | a :: r, h, cs, hc => by
    simp only [List.all_cons, Bool.and_eq_true] at h
    obtain ⟨x, y, rfl, ha, hr⟩ := hc
    exact ⟨x, y, rfl, Atom.flat_con h.1 ha, cons_flat h.2 hr⟩
theorem V1.flat_con {β β' : Env} {x : V1} (h : x.flat = true) {v : Value} (hc : x.con β v) : x.con β' v := by
  cases x with
  | a x => exact Atom.flat_con h hc
  | g l => obtain ⟨cs, rfl, hc⟩ := hc; exact ⟨cs, rfl, cons_flat h hc⟩
theorem all2_flat {β β' : Env} : ∀ {l : List V1}, l.all V1.flat = true → ∀ {vs : List Value}, all2 β l vs → all2 β' l vs
  | [], _, _, hc => hc
  | x :: r, h, vs, hc => by
    simp only [List.all_cons, Bool.and_eq_true] at h
    obtain ⟨v, rest, rfl, hx, hr⟩ := hc
    exact ⟨v, rest, rfl, V1.flat_con h.1 hx, all2_flat h.2 hr⟩

/-- a function of values without pointers that answers such values and leaves the world alone but for growth -/
def PureC (P : Program) (f : FuncId) (args : List V1) (res : List V1) : Prop :=
  ∀ β w vs, all2 β args vs → Calls P f vs.toArray w fun e w' => ∃ v, e = .returned v ∧ (retOf res).con β v ∧ Grow w w'

def toA (l : List V1) : List AV := l.map .o

theorem allC_toA {β : Env} : ∀ {l : List V1} {vs : List Value}, all2 β l vs → allC β (toA l) vs
  | [], _, h => h
  | _ :: _, _, ⟨v, rest, hv, hx, hr⟩ => ⟨v, rest, hv, hx, allC_toA hr⟩

def noEnv : Env := fun _ => none

theorem PureC.of_body {P : Program} {T : Tab} (hT : TabOk P T) {f : FuncId} {fn : Func} (hf : P.funcs[f]? = some fn) {args res : List V1} (ha : args.all V1.flat = true) (hr : res.all V1.flat = true)
    (h : ∀ w, Body P T fn ⟨w, [], 0, noEnv⟩ (toA args) [] fun xs _ => xs = res) : PureC P f args res := by
  intro β w vs hvs
  have hvs' := all2_flat (β' := noEnv) ha hvs
  have hw : RelW w [] noEnv [] w := RelW.ofRead fun j b hj => by simp [Know.at] at hj
  refine Calls.mono (calls_of_body hT hf (rw := []) (allC_toA hvs') hw (h w)) fun e w' he => ?_
  obtain ⟨xs, K, v, β', rfl, rfl, hv, hrel, _⟩ := he
  refine ⟨v, rfl, ?_, hrel.toGrow⟩
  match xs, hr with
  | [], _ => exact hv
  | [x], hr =>
    simp only [List.all_cons, List.all_nil, Bool.and_true] at hr
    exact V1.flat_con hr hv
  | x :: y :: r, hr => obtain ⟨vs, rfl, hc⟩ := hv; exact ⟨vs, rfl, all2_flat hr hc⟩
end Go.Proofs.Ytcpoldghkiiggaa.X

/- Bodies by evaluation; tables of contracts. -/
namespace Go.Proofs.Ytcpoldghkiiggaa.X
open Go

structure FOut where
  ret : Bool
  vc : List Prop
  xs : List V1

def exRet : Ex → Bool
  | .exit _ => false
  | _ => true

def fin (B : Bs) (T : Tab) (rs : List ResultVar) (l : List Tr) (o : Option COut) : Option FOut :=
  match o with
  | some o => (match trs B l o.st o.vc with
    | some (vc, st) => (match resL T st rs with
      | some xs => some ⟨exRet o.ex, vc, xs⟩
      | none => none)
    | none => none)
  | none => none

/-- likewise, with the blocks behind it -/
structure FOutK where
  ret : Bool
  vc : List Prop
  xs : List V1
  K : Know

def finK (B : Bs) (T : Tab) (rs : List ResultVar) (l : List Tr) (mk : Nat) (o : Option COut) : Option FOutK :=
  match o with
  | some o => (match trs B l o.st o.vc with
    | some (vc, st) => (match resL T st rs with
      | some xs => some ⟨exRet o.ex, vc, xs, st.K.take mk⟩
      | none => none)
    | none => none)
  | none => none

theorem exRet_ok {e : Ex} (h : exRet e = true) : e = .normal ∨ e = .ret := by
  cases e <;> simp_all [exRet]

theorem Body.of_finKAt {P : Program} {T : Tab} {Γ : Gam} {B : Bs} {Λ : Lam} {Ψ : Psi} {fuel : Nat} (hmix : P.follows .mixedOrders = true) (hT : TabOk P T) (hΓ : GamAt P Γ B.w0 B.rw) {fn : Func} {c : Code} (hb : fn.body = some c) {rs : List ResultVar} (hrs : fn.results = rs.toArray) {m : Nat} (hm : fn.ntmps = m) (ora : List Bool) (l : List Tr) (mk : Nat) {avs : List AV} {K0 K : Know}
    {vc : List Prop} {xs : List V1} (h : finK B T rs l mk (execC P B T Γ Λ Ψ fuel c ora ⟨avs ++ List.replicate (m - avs.length) .u, K0⟩ []) = some ⟨true, vc, xs, K⟩) (hvc : AllP vc) : Body P T fn B avs K0 fun ys K' => ys = xs ∧ K' = K := by
  refine ⟨c, hb, ?_⟩
  rw [hm]
  unfold finK at h
  split at h
  · rename_i o ho
    split at h
    · rename_i vc1 st1 ht
      split at h
      · rename_i ys hys
        simp only [Option.some.injEq, FOutK.mk.injEq] at h
        obtain ⟨h1, rfl, rfl, rfl⟩ := h
        obtain ⟨h2, h3⟩ := trs_weak ht hvc
        exact Run.exec hmix hT hΓ Λ Ψ fuel ora ho h2 ⟨exRet_ok h1, _, h3, _, mk, by rw [hrs]; exact hys, rfl, rfl⟩
      · simp at h
    · simp at h
  · simp at h

theorem Body.of_finK {P : Program} {T : Tab} {Γ : Gam} {B : Bs} {Λ : Lam} {Ψ : Psi} {fuel : Nat} (hmix : P.follows .mixedOrders = true) (hT : TabOk P T) (hΓ : GamOk P Γ) {fn : Func} {c : Code} (hb : fn.body = some c) {rs : List ResultVar} (hrs : fn.results = rs.toArray) {m : Nat} (hm : fn.ntmps = m) (ora : List Bool) (l : List Tr) (mk : Nat) {avs : List AV} {K0 K : Know}
    {vc : List Prop} {xs : List V1} (h : finK B T rs l mk (execC P B T Γ Λ Ψ fuel c ora ⟨avs ++ List.replicate (m - avs.length) .u, K0⟩ []) = some ⟨true, vc, xs, K⟩) (hvc : AllP vc) : Body P T fn B avs K0 fun ys K' => ys = xs ∧ K' = K :=
  Body.of_finKAt hmix hT (hΓ.at _ _) hb hrs hm ora l mk h hvc

theorem Body.of_finAt {P : Program} {T : Tab} {Γ : Gam} {B : Bs} {Λ : Lam} {Ψ : Psi} {fuel : Nat} (hmix : P.follows .mixedOrders = true) (hT : TabOk P T) (hΓ : GamAt P Γ B.w0 B.rw) {fn : Func} {c : Code} (hb : fn.body = some c) {rs : List ResultVar} (hrs : fn.results = rs.toArray) {m : Nat} (hm : fn.ntmps = m) (ora : List Bool) (l : List Tr) {avs : List AV} {K0 : Know}
    {vc : List Prop} {xs : List V1} (h : fin B T rs l (execC P B T Γ Λ Ψ fuel c ora ⟨avs ++ List.replicate (m - avs.length) .u, K0⟩ []) = some ⟨true, vc, xs⟩) (hvc : AllP vc) : Body P T fn B avs K0 fun ys _ => ys = xs := by
  refine ⟨c, hb, ?_⟩
  rw [hm]
  unfold fin at h
  split at h
  · rename_i o ho
    split at h
    · rename_i vc1 st1 ht
      split at h
      · rename_i ys hys
        simp only [Option.some.injEq, FOut.mk.injEq] at h
        obtain ⟨h1, rfl, rfl⟩ := h
        obtain ⟨h2, h3⟩ := trs_weak ht hvc
        exact Run.exec hmix hT hΓ Λ Ψ fuel ora ho h2 ⟨exRet_ok h1, _, h3, _, 0, by rw [hrs]; exact hys, rfl⟩
      · simp at h
    · simp at h
  · simp at h

theorem Body.of_fin {P : Program} {T : Tab} {Γ : Gam} {B : Bs} {Λ : Lam} {Ψ : Psi} {fuel : Nat} (hmix : P.follows .mixedOrders = true) (hT : TabOk P T) (hΓ : GamOk P Γ) {fn : Func} {c : Code} (hb : fn.body = some c) {rs : List ResultVar} (hrs : fn.results = rs.toArray) {m : Nat} (hm : fn.ntmps = m) (ora : List Bool) (l : List Tr) {avs : List AV} {K0 : Know}
    {vc : List Prop} {xs : List V1} (h : fin B T rs l (execC P B T Γ Λ Ψ fuel c ora ⟨avs ++ List.replicate (m - avs.length) .u, K0⟩ []) = some ⟨true, vc, xs⟩) (hvc : AllP vc) : Body P T fn B avs K0 fun ys _ => ys = xs :=
  Body.of_finAt hmix hT (hΓ.at _ _) hb hrs hm ora l h hvc

/- tables of contracts -/
def gnil : Gam := fun _ _ _ _ => none
theorem gnil_ok {P : Program} : GamOk P gnil := ⟨fun _ _ _ _ _ _ h => by simp [gnil] at h, fun _ _ _ _ _ _ h => by simp [gnil] at h, fun _ _ _ _ _ _ _ h => by simp [gnil] at h, fun _ _ _ _ _ _ => rfl, fun _ _ _ _ h => by simp [gnil] at h⟩

/-- a function of values alone -/
def gpure (f : FuncId) (entry : List AV → Option (Option Prop × List V1)) (rest : Gam) : Gam := fun g K n args =>
  if f = g then (match entry args with | some (vc, xs) => some ⟨vc, retOf xs, [], 0⟩ | none => none) else rest g K n args

theorem toA_of {β : Env} : ∀ {l : List V1} {vs : List Value}, allC β (toA l) vs → all2 β l vs
  | [], _, h => h
  | _ :: _, _, ⟨v, rest, hv, hx, hr⟩ => ⟨v, rest, hv, hx, toA_of hr⟩

theorem gpure_ok {P : Program} {f : FuncId} {entry : List AV → Option (Option Prop × List V1)} {rest : Gam} (hr : GamOk P rest) (he : ∀ (as : Array Value) (w : World), (callFunc f as).run P w = .ok (.enter f as) w)
    (h : ∀ args vc xs, entry args = some (vc, xs) → okP vc → ∃ as, args = toA as ∧ PureC P f as xs) (hlt : f < impId := by decide) : GamOk P (gpure f entry rest) := by
  refine ⟨?_, ?_, ?_, fun g K n args hg hg2 => by unfold gpure; rw [if_neg (Nat.ne_of_lt (Nat.lt_of_lt_of_le hlt hg))]; exact hr.noimp _ _ _ _ hg hg2,
    fun g n args s hs => by
      unfold gpure at hs
      rw [if_neg (Nat.ne_of_lt (Nat.lt_of_lt_of_le hlt (Nat.le_trans (by decide : impId ≤ extId) (Nat.le_add_right _ _))))] at hs
      exact hr.ext _ _ _ _ hs⟩
  · intro g K n args s hf hs
    unfold gpure at hs
    split at hs
    · rename_i hg; subst hg; exact he
    · exact hr.enter _ _ _ _ _ hf hs
  · intro g K n args s hf hs hvc w0 rw β w xs hx hR hn hK
    unfold gpure at hs
    split at hs
    · rename_i hg; subst hg
      split at hs
      · rename_i vc ys hy
        simp only [Option.some.injEq] at hs; subst hs
        obtain ⟨as, rfl, hp⟩ := h _ _ _ hy hvc
        refine Calls.mono (hp β w xs (toA_of hx)) fun e w' he' => ?_
        obtain ⟨v, rfl, hv, hg⟩ := he'
        exact ⟨v, β, rfl, agree_refl _ _ _, hv, hR.grow hg⟩
      · simp at hs
    · exact hr.calls _ _ _ _ _ hf hs hvc w0 rw β w xs hx hR hn hK
  · intro g K K' n args s hf hs hk
    unfold gpure at hs ⊢
    split at hs
    · rename_i hg; rw [if_pos hg]; exact hs
    · rename_i hg; rw [if_neg hg]; exact hr.mono _ _ _ _ _ _ hf hs hk

/-- a function that reads known blocks and answers values without pointers into new memory -/
def ReadC (P : Program) (f : FuncId) (K : Know) (args : List AV) (res : List V1) : Prop :=
  ∀ w0 rw β w vs, RelW w0 rw β K w → allC β args vs → Calls P f vs.toArray w fun e w' => ∃ v, e = .returned v ∧ (retOf res).con β v ∧ Grow w w'

def gread (f : FuncId) (entry : Know → List AV → Option (Option Prop × List V1)) (rest : Gam) : Gam := fun g K n args =>
  if f = g then (match entry K args with | some (vc, xs) => some ⟨vc, retOf xs, [], 0⟩ | none => none) else rest g K n args

theorem gread_ok {P : Program} {f : FuncId} {entry : Know → List AV → Option (Option Prop × List V1)} {rest : Gam} (hr : GamOk P rest) (he : ∀ (as : Array Value) (w : World), (callFunc f as).run P w = .ok (.enter f as) w)
    (h : ∀ K args vc xs, entry K args = some (vc, xs) → okP vc → ReadC P f K args xs) (hm : ∀ K K' args r, entry K args = some r → Knows K K' → entry K' args = some r) (hlt : f < impId := by decide) : GamOk P (gread f entry rest) := by
  refine ⟨?_, ?_, ?_, fun g K n args hg hg2 => by unfold gread; rw [if_neg (Nat.ne_of_lt (Nat.lt_of_lt_of_le hlt hg))]; exact hr.noimp _ _ _ _ hg hg2,
    fun g n args s hs => by
      unfold gread at hs
      rw [if_neg (Nat.ne_of_lt (Nat.lt_of_lt_of_le hlt (Nat.le_trans (by decide : impId ≤ extId) (Nat.le_add_right _ _))))] at hs
      exact hr.ext _ _ _ _ hs⟩
  · intro g K n args s hf hs
    unfold gread at hs
    split at hs
    · rename_i hg; subst hg; exact he
    · exact hr.enter _ _ _ _ _ hf hs
  · intro g K n args s hf hs hvc w0 rw β w xs hx hR hn hK
    unfold gread at hs
    split at hs
    · rename_i hg; subst hg
      split at hs
      · rename_i vc ys hy
        simp only [Option.some.injEq] at hs; subst hs
        refine Calls.mono (h _ _ _ _ hy hvc w0 rw β w xs hR hx) fun e w' he' => ?_
        obtain ⟨v, rfl, hv, hg⟩ := he'
        exact ⟨v, β, rfl, agree_refl _ _ _, hv, hR.grow hg⟩
      · simp at hs
    · exact hr.calls _ _ _ _ _ hf hs hvc w0 rw β w xs hx hR hn hK
  · intro g K K' n args s hf hs hk
    unfold gread at hs ⊢
    split at hs
    · rename_i hg
      rw [if_pos hg]
      split at hs
      · rename_i vc ys hy
        rw [hm _ _ _ _ hy hk]; exact hs
      · simp at hs
    · rename_i hg; rw [if_neg hg]; exact hr.mono _ _ _ _ _ _ hf hs hk

/-- any function, by its whole effect -/
def gfull (f : FuncId) (entry : Know → Nat → List AV → Option Rx) (rest : Gam) : Gam := fun g K n args => if f = g then entry K n args else rest g K n args

def FullC (P : Program) (f : FuncId) (K : Know) (n : Nat) (args : List AV) (s : Rx) : Prop :=
  ∀ w0 rw β w xs, allC β args xs → RelW w0 rw β K w → (∀ i, i < s.fr → K.at (n + i) = none) → K.nom n (n + s.fr) = true →
    Calls P f xs.toArray w fun e w' => ∃ v β', e = .returned v ∧ Agree n (n + s.fr) β β' ∧ s.val.con β' v ∧ RelW w0 rw β' (app K s.ch) w'

theorem gfull_ok {P : Program} {f : FuncId} {entry : Know → Nat → List AV → Option Rx} {rest : Gam} (hr : GamOk P rest) (he : ∀ (as : Array Value) (w : World), (callFunc f as).run P w = .ok (.enter f as) w)
    (h : ∀ K n args s, entry K n args = some s → okP s.vc → FullC P f K n args s) (hm : ∀ K K' n args r, entry K n args = some r → Knows K K' → entry K' n args = some r) (hlt : f < impId := by decide) : GamOk P (gfull f entry rest) := by
  refine ⟨?_, ?_, ?_, fun g K n args hg hg2 => by unfold gfull; rw [if_neg (Nat.ne_of_lt (Nat.lt_of_lt_of_le hlt hg))]; exact hr.noimp _ _ _ _ hg hg2,
    fun g n args s hs => by
      unfold gfull at hs
      rw [if_neg (Nat.ne_of_lt (Nat.lt_of_lt_of_le hlt (Nat.le_trans (by decide : impId ≤ extId) (Nat.le_add_right _ _))))] at hs
      exact hr.ext _ _ _ _ hs⟩
  · intro g K n args s hf hs
    unfold gfull at hs
    split at hs
    · rename_i hg; subst hg; exact he
    · exact hr.enter _ _ _ _ _ hf hs
  · intro g K n args s hf hs hvc w0 rw β w xs hx hR hn hK
    unfold gfull at hs
    split at hs
    · rename_i hg; subst hg
      exact h _ _ _ _ hs hvc w0 rw β w xs hx hR hn hK
    · exact hr.calls _ _ _ _ _ hf hs hvc w0 rw β w xs hx hR hn hK
  · intro g K K' n args s hf hs hk
    unfold gfull at hs ⊢
    split at hs
    · rename_i hg; rw [if_pos hg]; exact hm _ _ _ _ _ hs hk
    · rename_i hg; rw [if_neg hg]; exact hr.mono _ _ _ _ _ _ hf hs hk

/-- a function without a body: of values alone -/
def gext (f : FuncId) (entry : List AV → Option (Option Prop × List V1)) (rest : Gam) : Gam := fun g K n args =>
  if extId + f = g then (match entry args with | some (vc, xs) => some ⟨vc, retOf xs, [], 0⟩ | none => none) else rest g K n args

theorem gext_ok {P : Program} {f : FuncId} {entry : List AV → Option (Option Prop × List V1)} {rest : Gam} (hr : GamOk P rest)
    (h : ∀ args vc xs, entry args = some (vc, xs) → okP vc → ∀ β (w : World) as, allC β args as → ∃ v, (callFunc f as.toArray).run P w = .ok (.value v) w ∧ (retOf xs).con β v) : GamOk P (gext f entry rest) := by
  have ne : ∀ g : Nat, g < extId → ¬ (extId + f = g) := fun g hg e => by
    have : extId ≤ g := e ▸ Nat.le_add_right _ _
    omega
  have lt : impId ≤ extId := by decide
  refine ⟨?_, ?_, ?_, ?_, ?_⟩
  · intro g K n args s hf hs
    unfold gext at hs; rw [if_neg (ne g (Nat.lt_of_lt_of_le hf lt))] at hs
    exact hr.enter _ _ _ _ _ hf hs
  · intro g K n args s hf hs
    unfold gext at hs; rw [if_neg (ne g (Nat.lt_of_lt_of_le hf lt))] at hs
    exact hr.calls _ _ _ _ _ hf hs
  · intro g K K' n args s hf hs hk
    unfold gext at hs ⊢; rw [if_neg (ne g (Nat.lt_of_lt_of_le hf lt))] at hs ⊢
    exact hr.mono _ _ _ _ _ _ hf hs hk
  · intro g K n args h1 h2
    unfold gext; rw [if_neg (ne g h2)]
    exact hr.noimp _ _ _ _ h1 h2
  · intro g n args s hs hvc β w xs hx
    unfold gext at hs
    split at hs
    · rename_i hg
      have hg : f = g := Nat.add_left_cancel hg
      subst hg
      split at hs
      · rename_i vc ys hy
        simp only [Option.some.injEq] at hs; subst hs
        obtain ⟨v, h1, h2⟩ := h _ _ _ hy hvc β w xs hx
        exact ⟨v, h1, h2, rfl, rfl⟩
      · cases hs
    · exact hr.ext _ _ _ _ hs hvc β w xs hx

/-- a state with few known slots -/
def look (l : List (Nat × AV)) (t : Nat) : AV :=
  match l with
  | [] => .u
  | (n, x) :: r => if n = t then x else look r t
def sparse (n : Nat) (l : List (Nat × AV)) : List AV := (List.range n).map (look l)

/-- lists as a loop leaves them behind k rounds -/
def iter {α : Type} (step : Nat → α → α) : Nat → α → α
  | 0, s => s
  | k + 1, s => step k (iter step k s)

theorem AllP_nil : AllP [] := fun _ h => by simp at h
theorem AllP_cons {p : Prop} {l : List Prop} (h : p) (hl : AllP l) : AllP (p :: l) := fun q hq => by
  rcases List.mem_cons.1 hq with rfl | hq
  · exact h
  · exact hl q hq

theorem wrap_nn {k : IntKind} {x : Int} (h : k.signed = false) : 0 ≤ k.wrap x := by
  unfold IntKind.wrap
  simp only [h, Bool.false_and, Bool.false_eq_true, if_false]
  exact Int.emod_nonneg _ (by cases k <;> decide)

theorem bits2_nn {op : BinOp} {k : IntKind} {x y : Int} (h : k.signed = false) : 0 ≤ bits2 op k x y := by
  unfold bits2
  cases op <;> exact wrap_nn h

/-- the body of the loop in the block of that number -/
def loopOf (id : Nat) : Code → Option Code
  | .block i c => if i = id then (match c with | .loop d => some d | _ => none) else loopOf id c
  | .seq a b => (match loopOf id a with | some c => some c | none => loopOf id b)
  | .cond _ a b => (match loopOf id a with | some c => some c | none => loopOf id b)
  | .loop c => loopOf id c
  | _ => none

noncomputable def loopB (fn : Func) (id : Nat) : Code := (loopOf id (fn.body.getD .skip)).getD .skip

def lamOf : List (Nat × Lp) → Lam
  | [], _ => none
  | (n, l) :: r, id => if n = id then some l else lamOf r id

theorem wrapI {x : Int} (h0 : -9223372036854775808 ≤ x) (h1 : x < 9223372036854775808) : IntKind.i64.wrap x = x := by
  show (let m := x % (18446744073709551616 : Int); if (true && decide (m ≥ (9223372036854775808 : Int))) = true then m - 18446744073709551616 else m) = x
  simp only [Bool.true_and, decide_eq_true_eq]
  split <;> omega

theorem wrap_succ {n : Nat} (h : n < 4611686018427387904) : IntKind.i64.wrap ((n : Int) + 1) = ((n + 1 : Nat) : Int) := by
  rw [wrapI (by omega) (by omega)]; rfl

theorem wrapU {x : Int} (h0 : 0 ≤ x) (h1 : x < 18446744073709551616) : IntKind.u64.wrap x = x := by
  show (let m := x % (18446744073709551616 : Int); if (false && decide (m ≥ (9223372036854775808 : Int))) = true then m - 18446744073709551616 else m) = x
  simp only [Bool.false_and, Bool.false_eq_true, if_false]
  omega
end Go.Proofs.Ytcpoldghkiiggaa.X

/- Contracts of functions that read known blocks: what the callee sees of them. -/
namespace Go.Proofs.Ytcpoldghkiiggaa.X
open Go

/-- of an argument: a value; a slice of elements of z cells; a pointer to m cells -/
inductive AS where
  | v
  | s (z : Nat)
  | p (m : Nat)

structure Vw where
  j : Nat
  c : Nat
  m : Nat
  cells : List Atom

def conjP : List Prop → Prop
  | [] => True
  | p :: r => p ∧ conjP r

/-- what the callee gets for one argument: a condition, a view, the value -/
def arg1 (K : Know) (sp : AS) (a : AV) (i cap : Nat) : Option (Prop × Option Vw × AV) :=
  match sp, a with
  | .v, .o y => if y.flat = true then some (True, none, .o y) else none
  | .s z, .o (.a (.sl j c len _)) =>
    (match K.at j with
     | some b => (match segR b.cells c (mulz len z) with
       | some (p, out) => if out.all Atom.flat = true then some (p, some ⟨j, c, mulz len z, out⟩, .o (.a (.sl i 0 len cap))) else none
       | none => none)
     | none => none)
  | .s z, .o (.a (.rs j c len _)) =>
    (match K.at j with
     | some b => (match segR b.cells c (mulz len z) with
       | some (p, out) => if out.all Atom.flat = true then some (p, some ⟨j, c, mulz len z, out⟩, .o (.a (.sl i 0 len cap))) else none
       | none => none)
     | none => none)
  | .p m, .o (.a (.p j c)) =>
    (match K.at j with
     | some b => (match takeC b.cells c m with
       | some out => if out.all Atom.flat = true ∧ m ≠ 0 then some (True, some ⟨j, c, m, out⟩, .o (.a (.p i 0))) else none
       | none => none)
     | none => none)
  | _, _ => none

def mkV (K : Know) : List AS → List AV → Nat → List Nat → Option (List Prop × List Vw × List AV)
  | [], [], _, _ => some ([], [], [])
  | sp :: ss, a :: r, i, caps =>
    (match arg1 K sp a i (caps.headD 0) with
     | some (p, some v, a') => (match mkV K ss r (i + 1) caps.tail with
       | some (ps, vs, as) => some (p :: ps, v :: vs, a' :: as)
       | none => none)
     | some (p, none, a') => (match mkV K ss r i caps.tail with
       | some (ps, vs, as) => some (p :: ps, vs, a' :: as)
       | none => none)
     | none => none)
  | _, _, _, _ => none

def knowV (vs : List Vw) : Know := vs.map fun v => some ⟨false, v.cells⟩

def shiftR (c : Nat) : Option Ref → Option Ref
  | some r => some ⟨r.blk, r.off + c, r.size⟩
  | none => none

def envV (β : Env) (vs : List Vw) : Env := fun i => match vs[i]? with
  | some v => shiftR v.c (β v.j)
  | none => none

def VwOk (β : Env) (K : Know) (v : Vw) : Prop := v.cells.all Atom.flat = true ∧ ∃ b, K.at v.j = some b ∧ ∀ cs, cons β b.cells cs → cons β v.cells (sub cs v.c v.m) ∧ (0 < v.m → v.c + v.m ≤ cs.length)

theorem views_rel {w0 : World} {rw : List Nat} {β : Env} {K : Know} {w : World} (h : RelW w0 rw β K w) {vs : List Vw} (hv : ∀ v ∈ vs, VwOk β K v) : RelW w [] (envV β vs) (knowV vs) w := by
  refine RelW.ofRead fun i b hb => ?_
  have : ∃ v, vs[i]? = some v ∧ b = ⟨false, v.cells⟩ := by
    unfold knowV Know.at at hb
    rw [List.getElem?_map] at hb
    cases hi : vs[i]? with
    | none => rw [hi] at hb; simp at hb
    | some v => rw [hi] at hb; simp at hb; exact ⟨v, rfl, hb.symm⟩
  obtain ⟨v, hi, rfl⟩ := this
  obtain ⟨hf, b0, hb0, hcs⟩ := hv v (List.mem_of_getElem? hi)
  have henv : envV β vs i = shiftR v.c (β v.j) := by unfold envV; rw [hi]
  refine ⟨rfl, ?_, ?_⟩
  · obtain ⟨cs, hc, hd⟩ := h.holds v.j b0 hb0
    obtain ⟨h1, h2⟩ := hcs cs hc
    refine ⟨_, cons_flat hf h1, ?_⟩
    by_cases hm : v.m = 0
    · exact .inl ⟨by rw [hm]; simp [sub], .inl rfl⟩
    · have h2 := h2 (by omega)
      rcases hd with ⟨rfl, _⟩ | ⟨r, arr, ty, fr, hr, hh, hs, hl, ha, _⟩
      · simp at h2; omega
      · refine .inr ⟨⟨r.blk, r.off + v.c, r.size⟩, arr, ty, fr, by rw [henv, hr]; rfl, hh, hs, ?_, ?_, fun h => by cases h⟩
        · rw [sub_len _ _ _ h2]; simp only; omega
        · intro k x hx
          have := ha _ _ (getElem?_sub _ _ _ _ _ hx)
          simp only; rw [Nat.add_assoc]; exact this
  · intro r hr
    rw [henv] at hr
    cases hb : β v.j with
    | none => rw [hb] at hr; simp [shiftR] at hr
    | some r0 =>
      rw [hb] at hr; simp only [shiftR, Option.some.injEq] at hr; subst hr
      exact h.live v.j b0 r0 hb0 hb

theorem envV_mid (β : Env) (pre : List Vw) (v : Vw) (post : List Vw) : envV β (pre ++ v :: post) pre.length = shiftR v.c (β v.j) := by
  unfold envV; simp

theorem arg1_ok {β : Env} {K : Know} {sp : AS} {a : AV} {i cap0 : Nat} {p : Prop} {vw : Option Vw} {a' : AV} {v : Value} (h : arg1 K sp a i cap0 = some (p, vw, a')) (hp : p) (hv : a.con β v) :
    (∀ x, vw = some x → VwOk β K x) ∧ ∃ cap a2, arg1 K sp a i cap = some (p, vw, a2) ∧ ∀ β' : Env, (∀ x, vw = some x → β' i = shiftR x.c (β x.j)) → a2.con β' v := by
  have slice : ∀ (j c len z : Nat) (b : Blk) (p : Prop) (out : List Atom), K.at j = some b → segR b.cells c (mulz len z) = some (p, out) → out.all Atom.flat = true → p → (∃ base cap, v = .slice base len cap ∧ len ≤ cap ∧ (0 < cap → ∃ r, β j = some r ∧ base = some ⟨r.blk, r.off + c, none⟩)) →
      VwOk β K ⟨j, c, mulz len z, out⟩ ∧ ∃ cap, ∀ β' : Env, β' i = shiftR c (β j) → (AV.o (.a (.sl i 0 len cap))).con β' v := by
    intro j c len z b p out hb hseg hfl hp hv
    obtain ⟨base, cap, rfl, hlc, hbase⟩ := hv
    refine ⟨⟨hfl, b, hb, fun cs hc => segR_con hseg hp hc⟩, cap, fun β' hβ => ⟨base, rfl, hlc, fun hc0 => ?_⟩⟩
    obtain ⟨rr, hrr, hbb⟩ := hbase hc0
    exact ⟨⟨rr.blk, rr.off + c, rr.size⟩, by rw [hβ, hrr]; rfl, by simpa using hbb⟩
  unfold arg1 at h
  split at h
  · rename_i y
    split at h
    · rename_i hy
      simp only [Option.some.injEq, Prod.mk.injEq] at h; obtain ⟨rfl, rfl, rfl⟩ := h
      exact ⟨(fun x hx => by cases hx), 0, .o y, by simp only [arg1, if_pos hy], fun β' _ => V1.flat_con hy hv⟩
    · simp at h
  · rename_i z j c len cap
    split at h
    · rename_i b hb
      split at h
      · rename_i p' out hseg
        split at h
        · rename_i hfl
          simp only [Option.some.injEq, Prod.mk.injEq] at h; obtain ⟨rfl, rfl, rfl⟩ := h
          obtain ⟨base, hvv, hlc, hbase⟩ := hv
          simp only [List.cons.injEq, and_true] at hvv
          obtain ⟨h1, cap1, h2⟩ := slice j c len z b p' out hb hseg hfl hp ⟨base, cap, hvv, hlc, hbase⟩
          exact ⟨(fun x hx => by cases hx; exact h1), cap1, .o (.a (.sl i 0 len cap1)), by simp only [arg1, hb, hseg, if_pos hfl], fun β' hx => h2 β' (hx _ rfl)⟩
        · simp at h
      · simp at h
    · simp at h
  · rename_i z j c len zz
    split at h
    · rename_i b hb
      split at h
      · rename_i p' out hseg
        split at h
        · rename_i hfl
          simp only [Option.some.injEq, Prod.mk.injEq] at h; obtain ⟨rfl, rfl, rfl⟩ := h
          obtain ⟨base, cap, hvv, hlc, hbase⟩ := hv
          simp only [List.cons.injEq, and_true] at hvv
          obtain ⟨h1, cap1, h2⟩ := slice j c len z b p' out hb hseg hfl hp ⟨base, cap, hvv, hlc, fun h0 => by obtain ⟨q, h1, h2, _⟩ := hbase h0; exact ⟨q, h1, h2⟩⟩
          exact ⟨(fun x hx => by cases hx; exact h1), cap1, .o (.a (.sl i 0 len cap1)), by simp only [arg1, hb, hseg, if_pos hfl], fun β' hx => h2 β' (hx _ rfl)⟩
        · simp at h
      · simp at h
    · simp at h
  · rename_i m j c
    split at h
    · rename_i b hb
      split at h
      · rename_i out htk
        split at h
        · rename_i hfl
          simp only [Option.some.injEq, Prod.mk.injEq] at h; obtain ⟨rfl, rfl, rfl⟩ := h
          obtain ⟨rr, hrr, hvv⟩ := hv
          simp only [List.cons.injEq, and_true] at hvv
          refine ⟨(fun x hx => by cases hx; exact ⟨hfl.1, b, hb, fun cs hc => takeC_con htk hc⟩), 0, .o (.a (.p i 0)), by simp only [arg1, hb, htk, if_pos hfl], fun β' hx => ⟨⟨rr.blk, rr.off + c, rr.size⟩, ?_, by simp [hvv]⟩⟩
          rw [hx _ rfl, hrr]; rfl
        · simp at h
      · simp at h
    · simp at h
  · simp at h

theorem mkV_ok {β : Env} {K : Know} : ∀ (ss : List AS) (args : List AV) (pre : List Vw) (caps0 : List Nat) (ps : List Prop) (vs : List Vw) (as0 : List AV) (vals : List Value), mkV K ss args pre.length caps0 = some (ps, vs, as0) → conjP ps → allC β args vals →
    (∀ v ∈ vs, VwOk β K v) ∧ ∃ caps : List Nat, ∃ as, mkV K ss args pre.length caps = some (ps, vs, as) ∧ ∀ post, allC (envV β (pre ++ vs ++ post)) as vals
  | [], [], pre, caps0, ps, vs, as0, vals, h, hp, ha => by
    simp only [mkV, Option.some.injEq, Prod.mk.injEq] at h; obtain ⟨rfl, rfl, rfl⟩ := h
    exact ⟨fun v hv => by simp at hv, [], [], rfl, fun _ => ha⟩
  | [], a :: r, pre, caps0, ps, vs, as0, vals, h, hp, ha => by simp [mkV] at h
  | sp :: ss, [], pre, caps0, ps, vs, as0, vals, h, hp, ha => by simp [mkV] at h
  | sp :: ss, a :: r, pre, caps0, ps, vs, as0, vals, h, hp, ha => by
    simp only [mkV] at h
    obtain ⟨v, rest, rfl, hv, hr⟩ := ha
    split at h
    · rename_i p vw a' h1
      split at h
      · rename_i ps1 vs1 as1 h2
        simp only [Option.some.injEq, Prod.mk.injEq] at h; obtain ⟨rfl, rfl, rfl⟩ := h
        obtain ⟨g1, cap, a2, g2, g3⟩ := arg1_ok h1 hp.1 hv
        obtain ⟨k1, caps, as, k2, k3⟩ := mkV_ok ss r (pre ++ [vw]) _ _ _ _ rest (by simpa using h2) hp.2 hr
        simp only [List.length_append, List.length_singleton] at k2
        refine ⟨?_, cap :: caps, a2 :: as, by simp only [mkV, List.headD_cons, g2, List.tail_cons, k2], fun post => ⟨v, rest, rfl, g3 _ fun x hx => ?_, ?_⟩⟩
        · intro w hw
          rcases List.mem_cons.1 hw with rfl | hw
          · exact g1 _ rfl
          · exact k1 w hw
        · cases hx
          rw [List.append_assoc, List.cons_append, envV_mid]
        · have := k3 post
          simpa using this
      · simp at h
    · rename_i p a' h1
      split at h
      · rename_i ps1 vs1 as1 h2
        simp only [Option.some.injEq, Prod.mk.injEq] at h; obtain ⟨rfl, rfl, rfl⟩ := h
        obtain ⟨g1, cap, a2, g2, g3⟩ := arg1_ok h1 hp.1 hv
        obtain ⟨k1, caps, as, k2, k3⟩ := mkV_ok ss r pre _ _ _ _ rest h2 hp.2 hr
        exact ⟨k1, cap :: caps, a2 :: as, by simp only [mkV, List.headD_cons, g2, List.tail_cons, k2], fun post => ⟨v, rest, rfl, g3 _ (fun x hx => by cases hx), k3 post⟩⟩
      · simp at h
    · simp at h

theorem arg1_mono {K K' : Know} (hk : Knows K K') {sp : AS} {a : AV} {i cap : Nat} {r : Prop × Option Vw × AV} (h : arg1 K sp a i cap = some r) : arg1 K' sp a i cap = some r := by
  unfold arg1 at *
  split at h
  · exact h
  · split at h
    · rename_i b hb; rw [hk _ _ hb]; exact h
    · simp at h
  · split at h
    · rename_i b hb; rw [hk _ _ hb]; exact h
    · simp at h
  · split at h
    · rename_i b hb; rw [hk _ _ hb]; exact h
    · simp at h
  · simp at h

theorem mkV_mono {K K' : Know} (hk : Knows K K') : ∀ {ss : List AS} {args : List AV} {i : Nat} {caps : List Nat} {r : List Prop × List Vw × List AV}, mkV K ss args i caps = some r → mkV K' ss args i caps = some r
  | [], [], _, _, _, h => h
  | [], _ :: _, _, _, _, h => by simp [mkV] at h
  | _ :: _, [], _, _, _, h => by simp [mkV] at h
  | sp :: ss, a :: q, i, caps, r, h => by
    simp only [mkV] at h ⊢
    split at h
    · rename_i h1
      rw [arg1_mono hk h1]
      simp only
      split at h
      · rename_i h2; rw [mkV_mono hk h2]; exact h
      · simp at h
    · rename_i h1
      rw [arg1_mono hk h1]
      simp only
      split at h
      · rename_i h2; rw [mkV_mono hk h2]; exact h
      · simp at h
    · simp at h

/-- a contract of a function that reads: from its body over the views -/
theorem ReadC.of_body {P : Program} {T : Tab} (hT : TabOk P T) {f : FuncId} {fn : Func} (hf : P.funcs[f]? = some fn) {K : Know} {ss : List AS} {args : List AV} {ps : List Prop} {vs : List Vw} {as0 : List AV} {res : List V1}
    (hm : mkV K ss args 0 [] = some (ps, vs, as0)) (hps : conjP ps) (hr : res.all V1.flat = true)
    (h : ∀ (caps : List Nat) (as : List AV) (w : World) (β : Env), mkV K ss args 0 caps = some (ps, vs, as) → Body P T fn ⟨w, [], vs.length, β⟩ as (knowV vs) fun xs _ => xs = res) : ReadC P f K args res := by
  intro w0 rw β w vals hR ha
  obtain ⟨h1, caps, as, h2, h3⟩ := mkV_ok ss args [] [] ps vs as0 vals hm hps ha
  have hw := views_rel hR h1
  have hlen : (knowV vs).length = vs.length := by simp [knowV]
  have hb := h caps as w (envV β vs) h2
  rw [← hlen] at hb
  have h3 := h3 []
  simp only [List.nil_append, List.append_nil] at h3
  refine Calls.mono (calls_of_body hT hf (rw := []) h3 hw hb) fun e w' he => ?_
  obtain ⟨xs, K', v, β', rfl, rfl, hv, hrel, _⟩ := he
  refine ⟨v, rfl, ?_, hrel.toGrow⟩
  match xs, hr with
  | [], _ => exact hv
  | [x], hr =>
    simp only [List.all_cons, List.all_nil, Bool.and_true] at hr
    exact V1.flat_con hr hv
  | x :: y :: r, hr => obtain ⟨vs, rfl, hc⟩ := hv; exact ⟨vs, rfl, all2_flat hr hc⟩

def lenOfA : AV → Nat
  | .o (.a (.sl _ _ l _)) => l
  | .o (.a (.rs _ _ l _)) => l
  | _ => 0

/-- the values that the callee is handed -/
def calleeArgs : List AS → List AV → Nat → List Nat → List AV
  | .v :: ss, a :: r, i, caps => a :: calleeArgs ss r i caps.tail
  | .s _ :: ss, a :: r, i, caps => .o (.a (.sl i 0 (lenOfA a) (caps.headD 0))) :: calleeArgs ss r (i + 1) caps.tail
  | .p _ :: ss, _ :: r, i, caps => .o (.a (.p i 0)) :: calleeArgs ss r (i + 1) caps.tail
  | _, _, _, _ => []

theorem arg1_v {K : Know} {a : AV} {i cap : Nat} {p : Prop} {vw : Option Vw} {a' : AV} (h : arg1 K .v a i cap = some (p, vw, a')) : vw = none ∧ a' = a := by
  cases a with
  | o y =>
    simp only [arg1] at h
    split at h
    · simp only [Option.some.injEq, Prod.mk.injEq] at h; obtain ⟨rfl, rfl, rfl⟩ := h; exact ⟨rfl, rfl⟩
    · simp at h
  | _ => simp [arg1] at h

theorem arg1_s {K : Know} {z : Nat} {a : AV} {i cap : Nat} {p : Prop} {vw : Option Vw} {a' : AV} (h : arg1 K (.s z) a i cap = some (p, vw, a')) : vw.isSome = true ∧ a' = .o (.a (.sl i 0 (lenOfA a) cap)) := by
  cases a with
  | o y =>
    cases y with
    | a x =>
      cases x with
      | sl j c len cap' =>
        simp only [arg1] at h
        split at h
        · split at h
          · split at h
            · simp only [Option.some.injEq, Prod.mk.injEq] at h; obtain ⟨rfl, rfl, rfl⟩ := h; exact ⟨rfl, rfl⟩
            · simp at h
          · simp at h
        · simp at h
      | rs j c len cap' =>
        simp only [arg1] at h
        split at h
        · split at h
          · split at h
            · simp only [Option.some.injEq, Prod.mk.injEq] at h; obtain ⟨rfl, rfl, rfl⟩ := h; exact ⟨rfl, rfl⟩
            · simp at h
          · simp at h
        · simp at h
      | _ => simp [arg1] at h
    | g l => simp [arg1] at h
  | _ => simp [arg1] at h

theorem arg1_p {K : Know} {m : Nat} {a : AV} {i cap : Nat} {p : Prop} {vw : Option Vw} {a' : AV} (h : arg1 K (.p m) a i cap = some (p, vw, a')) : vw.isSome = true ∧ a' = .o (.a (.p i 0)) := by
  cases a with
  | o y =>
    cases y with
    | a x =>
      cases x with
      | p j c =>
        simp only [arg1] at h
        split at h
        · split at h
          · split at h
            · simp only [Option.some.injEq, Prod.mk.injEq] at h; obtain ⟨rfl, rfl, rfl⟩ := h; exact ⟨rfl, rfl⟩
            · simp at h
          · simp at h
        · simp at h
      | _ => simp [arg1] at h
    | g l => simp [arg1] at h
  | _ => simp [arg1] at h

theorem mkV_args {K : Know} : ∀ {ss : List AS} {args : List AV} {i : Nat} {caps : List Nat} {ps : List Prop} {vs : List Vw} {as : List AV}, mkV K ss args i caps = some (ps, vs, as) → as = calleeArgs ss args i caps
  | [], [], _, _, _, _, _, h => by simp only [mkV, Option.some.injEq, Prod.mk.injEq] at h; obtain ⟨_, _, rfl⟩ := h; rfl
  | [], _ :: _, _, _, _, _, _, h => by simp [mkV] at h
  | _ :: _, [], _, _, _, _, _, h => by simp [mkV] at h
  | sp :: ss, a :: r, i, caps, ps, vs, as, h => by
    simp only [mkV] at h
    split at h
    · rename_i p v a' h1
      split at h
      · rename_i h2
        simp only [Option.some.injEq, Prod.mk.injEq] at h; obtain ⟨_, _, rfl⟩ := h
        have h4 := mkV_args h2
        cases sp with
        | v => have h3 := arg1_v h1; simp at h3
        | s z => rw [(arg1_s h1).2, h4]; rfl
        | p m => rw [(arg1_p h1).2, h4]; rfl
      · simp at h
    · rename_i p a' h1
      split at h
      · rename_i h2
        simp only [Option.some.injEq, Prod.mk.injEq] at h; obtain ⟨_, _, rfl⟩ := h
        have h4 := mkV_args h2
        cases sp with
        | v => rw [(arg1_v h1).2, h4]; rfl
        | s z => have h3 := arg1_s h1; simp at h3
        | p m => have h3 := arg1_p h1; simp at h3
      · simp at h
    · simp at h

/-- a function that reads: its table from the views -/
def greadV (f : FuncId) (ss : List AS) (entry : List Vw → List AV → Option (Prop × List V1)) (rest : Gam) : Gam :=
  gread f (fun K args => match mkV K ss args 0 [] with
    | some (ps, vs, _) => (match entry vs args with
      | some (p, xs) => some (some (conjP ps ∧ p), xs)
      | none => none)
    | none => none) rest

theorem greadV_ok {P : Program} {T : Tab} (hT : TabOk P T) {f : FuncId} {fn : Func} (hf : P.funcs[f]? = some fn) {ss : List AS} {entry : List Vw → List AV → Option (Prop × List V1)} {rest : Gam} (hr : GamOk P rest) (he : ∀ (as : Array Value) (w : World), (callFunc f as).run P w = .ok (.enter f as) w)
    (h : ∀ vs args p xs, entry vs args = some (p, xs) → p → xs.all V1.flat = true ∧ ∀ (caps : List Nat) (w : World) (β : Env), Body P T fn ⟨w, [], vs.length, β⟩ (calleeArgs ss args 0 caps) (knowV vs) fun ys _ => ys = xs) (hlt : f < impId := by decide) : GamOk P (greadV f ss entry rest) := by
  refine gread_ok hr he ?_ ?_ hlt
  · intro K args vc xs h1 hv
    split at h1
    · rename_i ps vs as hm
      split at h1
      · rename_i p ys hy
        simp only [Option.some.injEq, Prod.mk.injEq] at h1; obtain ⟨rfl, rfl⟩ := h1
        obtain ⟨h2, h3⟩ := h _ _ _ _ hy hv.2
        exact ReadC.of_body hT hf hm hv.1 h2 fun caps as w β hm' => by rw [mkV_args hm']; exact h3 caps w β
      · simp at h1
    · simp at h1
  · intro K K' args r h1 hk
    split at h1
    · rename_i ps vs as hm
      rw [mkV_mono hk hm]; exact h1
    · simp at h1
end Go.Proofs.Ytcpoldghkiiggaa.X

/- Contracts of functions that read and write blocks which they are handed: from the body over the callee's own names. -/
namespace Go.Proofs.Ytcpoldghkiiggaa.X
open Go

def Atom.idxs : Atom → List Nat
  | .p j _ | .ps j _ | .sl j _ _ _ | .rs j _ _ _ => [j]
  | _ => []
def V1.idxs : V1 → List Nat
  | .a x => x.idxs
  | .g l => l.flatMap Atom.idxs
def AV.idxs : AV → List Nat
  | .o x => x.idxs
  | .t l => l.flatMap V1.idxs
  | .f _ l => l.flatMap V1.idxs
  | .u => []

/-- the blocks that are reached from some, by their own pointers, in the order in which they are met -/
def reach (K : Know) : Nat → List Nat → List Nat → Option (List Nat)
  | 0, _, _ => none
  | _ + 1, [], acc => some acc
  | f + 1, j :: r, acc => if acc.contains j = true then reach K f r acc else (match K.at j with | some b => reach K f (b.cells.flatMap Atom.idxs ++ r) (acc ++ [j]) | none => none)

inductive AW where
  | w
  | s (z : Nat)
  | p (m : Nat)

def rootsOf : List AW → List AV → List Nat
  | .w :: ss, a :: r => a.idxs ++ rootsOf ss r
  | _ :: ss, _ :: r => rootsOf ss r
  | _, _ => []

def inPk (pk : List Nat) (j : Nat) : Bool := pk.contains j
def posn (pk : List Nat) (j : Nat) : Nat := pk.idxOf j

def wkOf (K : Know) (pk : List Nat) : List Nat → List Bool → Option (List Blk)
  | [], _ => some []
  | j :: r, ow =>
    (match K.at j with
     | some b => if ((b.own || !ow.headD false) && b.cells.all (Atom.allI (inPk pk))) = true then
         (match wkOf K pk r ow.tail with
          | some l => some (⟨ow.headD false, b.cells.map (Atom.ren (posn pk))⟩ :: l)
          | none => none) else none
     | none => none)

def mkW (K : Know) (pk : List Nat) : List AW → List AV → Nat → List Nat → Option (List Prop × List Vw × List AV)
  | [], [], _, _ => some ([], [], [])
  | .w :: ss, a :: r, i, caps =>
    if a.allI (inPk pk) = true then
      (match mkW K pk ss r i caps.tail with
       | some (ps, vs, as) => some (True :: ps, vs, a.ren (posn pk) :: as)
       | none => none) else none
  | .s z :: ss, a :: r, i, caps =>
    (match arg1 K (.s z) a i (caps.headD 0) with
     | some (p, some v, a') => (match mkW K pk ss r (i + 1) caps.tail with
       | some (ps, vs, as) => some (p :: ps, v :: vs, a' :: as)
       | none => none)
     | _ => none)
  | .p m :: ss, a :: r, i, caps =>
    (match arg1 K (.p m) a i (caps.headD 0) with
     | some (p, some v, a') => (match mkW K pk ss r (i + 1) caps.tail with
       | some (ps, vs, as) => some (p :: ps, v :: vs, a' :: as)
       | none => none)
     | _ => none)
  | _, _, _, _ => none

/-- arguments with other capacities -/
def recap : List AW → List AV → List Nat → List AV
  | .s _ :: ss, .o (.a (.sl j c l _)) :: r, caps => .o (.a (.sl j c l (caps.headD 0))) :: recap ss r caps.tail
  | _ :: ss, a :: r, caps => a :: recap ss r caps.tail
  | _, _, _ => []

def ownAt (wk : List Blk) (i : Nat) : Bool :=
  match wk[i]? with
  | some b => b.own
  | none => false

def viewsOk (pk : List Nat) (wk : List Blk) (vs : List Vw) : Bool := (List.range pk.length).all fun i => !ownAt wk i || vs.all fun v => decide (v.j ≠ pk.getD i 0)

def nodupB : List Nat → Bool
  | [] => true
  | x :: r => !r.contains x && nodupB r

def sgm (pk : List Nat) (l0 n i : Nat) : Nat := if i < l0 then pk.getD i 0 else n + (i - l0)
def okI (np l0 l1 i : Nat) : Bool := decide (i < np ∨ (l0 ≤ i ∧ i < l1))

def chOf (pk : List Nat) (wk : List Blk) (l0 n : Nat) (K1 : Know) : List (Nat × Option Blk) :=
  ((List.range pk.length).filter (ownAt wk)).map (fun i => (pk.getD i 0, (K1.at i).map (Blk.ren (sgm pk l0 n)))) ++ (List.range (K1.length - l0)).map (fun m => (n + m, (K1.at (l0 + m)).map (Blk.ren (sgm pk l0 n))))

def blkOk (np l0 l1 : Nat) : Option Blk → Bool
  | some b => b.cells.all (Atom.allI (okI np l0 l1))
  | none => true
def freshOwn : Option Blk → Bool
  | some b => b.own
  | none => true

def gcallE (ow : List Bool) (specs : List AW) (entry : List Blk → List Vw → List AV → Option (Prop × List V1 × Know)) (K : Know) (n : Nat) (args : List AV) : Option Rx :=
  match reach K 64 (rootsOf specs args) [] with
  | none => none
  | some pk =>
    (match wkOf K pk pk ow with
     | none => none
     | some wk =>
       (match mkW K pk specs args pk.length [] with
        | none => none
        | some (ps, vs, as) =>
          (match entry wk vs as with
           | none => none
           | some (p, xs, K1) =>
             if (viewsOk pk wk vs && nodupB pk && xs.all (V1.allI (okI pk.length (pk.length + vs.length) K1.length)) && K1.all (blkOk pk.length (pk.length + vs.length) K1.length) && (K1.drop (pk.length + vs.length)).all freshOwn && decide (pk.length + vs.length ≤ K1.length)) = true then
               some ⟨some (conjP ps ∧ p), (retOf xs).ren (sgm pk (pk.length + vs.length) n), chOf pk wk (pk.length + vs.length) n K1, K1.length - (pk.length + vs.length)⟩
             else none)))

/- renaming, back -/
section ren
variable {β β' : Env} {ρ : Nat → Nat} {p : Nat → Bool} (h : ∀ j, p j = true → β' (ρ j) = β j)
include h
theorem allC_ren : ∀ {l : List AV}, l.all (AV.allI p) = true → ∀ {vs : List Value}, allC β l vs → allC β' (l.map (AV.ren ρ)) vs
  | [], _, vs, hc => hc
  | x :: r, hn, vs, hc => by
    simp only [List.all_cons, Bool.and_eq_true] at hn
    obtain ⟨v, rest, rfl, hx, hr⟩ := hc
    exact ⟨v, rest, rfl, AV.con_ren h hn.1 hx, allC_ren hn.2 hr⟩
end ren

theorem nodupB_ok : ∀ {l : List Nat}, nodupB l = true → ∀ i j, i < l.length → j < l.length → l.getD i 0 = l.getD j 0 → i = j
  | [], _, i, j, hi, _, _ => by simp at hi
  | x :: r, h, i, j, hi, hj, he => by
    simp only [nodupB, Bool.and_eq_true, Bool.not_eq_true', List.contains_eq_mem, decide_eq_false_iff_not] at h
    obtain ⟨h1, h2⟩ := h
    have mem : ∀ k, k < r.length → r.getD k 0 ∈ r := fun k hk => by rw [List.getD_eq_getElem?_getD, List.getElem?_eq_getElem hk]; exact List.getElem_mem hk
    cases i with
    | zero =>
      cases j with
      | zero => rfl
      | succ j =>
        simp only [List.getD_cons_zero, List.getD_cons_succ, List.length_cons] at he hj
        exact absurd (he ▸ mem j (by omega)) h1
    | succ i =>
      cases j with
      | zero =>
        simp only [List.getD_cons_zero, List.getD_cons_succ, List.length_cons] at he hi
        exact absurd (he ▸ mem i (by omega)) h1
      | succ j =>
        simp only [List.getD_cons_succ, List.length_cons] at he hi hj
        rw [nodupB_ok h2 i j (by omega) (by omega) he]

/-- the callee's names -/
def envW (pk : List Nat) (β : Env) (vs : List Vw) : Env := fun i => if i < pk.length then β (pk.getD i 0) else envV β vs (i - pk.length)

theorem posn_ok {pk : List Nat} {j : Nat} (h : inPk pk j = true) : posn pk j < pk.length ∧ pk.getD (posn pk j) 0 = j := by
  simp only [inPk, List.contains_eq_mem, decide_eq_true_eq] at h
  have hl := List.idxOf_lt_length_of_mem h
  refine ⟨hl, ?_⟩
  unfold posn
  rw [List.getD_eq_getElem?_getD, List.getElem?_eq_getElem hl]
  simp

theorem envW_posn {pk : List Nat} {β : Env} {vs : List Vw} {j : Nat} (h : inPk pk j = true) : envW pk β vs (posn pk j) = β j := by
  obtain ⟨h1, h2⟩ := posn_ok h
  unfold envW; rw [if_pos h1, h2]

theorem wkOf_ok {K : Know} {pk : List Nat} : ∀ {l : List Nat} {ow : List Bool} {wk : List Blk}, wkOf K pk l ow = some wk → wk.length = l.length ∧ ∀ (i : Nat) (b : Blk), wk[i]? = some b → ∃ b', K.at (l.getD i 0) = some b' ∧ (b.own = true → b'.own = true) ∧ b'.cells.all (Atom.allI (inPk pk)) = true ∧ b.cells = b'.cells.map (Atom.ren (posn pk))
  | [], ow, wk, h => by simp only [wkOf, Option.some.injEq] at h; subst h; exact ⟨rfl, fun i b hi => by simp at hi⟩
  | j :: r, ow, wk, h => by
    simp only [wkOf] at h
    split at h
    · rename_i b hb
      split at h
      · rename_i hc
        simp only [Bool.and_eq_true] at hc
        split at h
        · rename_i l hl
          simp only [Option.some.injEq] at h; subst h
          obtain ⟨h1, h2⟩ := wkOf_ok hl
          refine ⟨by simp [h1], fun i c hi => ?_⟩
          cases i with
          | zero =>
            simp only [List.getElem?_cons_zero, Option.some.injEq] at hi; subst hi
            refine ⟨b, hb, fun ho => ?_, hc.2, rfl⟩
            have := hc.1
            simp only at ho
            rw [ho] at this; simpa using this
          | succ i => simp only [List.getElem?_cons_succ] at hi; simpa using h2 i c hi
        · simp at h
      · simp at h
    · simp at h

theorem envW_mid (pk : List Nat) (β : Env) (pre : List Vw) (v : Vw) (post : List Vw) : envW pk β (pre ++ v :: post) (pk.length + pre.length) = shiftR v.c (β v.j) := by
  unfold envW
  rw [if_neg (by omega), show pk.length + pre.length - pk.length = pre.length by omega, envV_mid]

theorem mkW_ok {β : Env} {K : Know} {pk : List Nat} : ∀ (ss : List AW) (args : List AV) (pre : List Vw) (caps0 : List Nat) (ps : List Prop) (vs : List Vw) (as0 : List AV) (vals : List Value), mkW K pk ss args (pk.length + pre.length) caps0 = some (ps, vs, as0) → conjP ps → allC β args vals →
    (∀ v ∈ vs, VwOk β K v) ∧ ∃ caps : List Nat, ∀ post, allC (envW pk β (pre ++ vs ++ post)) (recap ss as0 caps) vals
  | [], [], pre, caps0, ps, vs, as0, vals, h, hp, ha => by
    simp only [mkW, Option.some.injEq, Prod.mk.injEq] at h; obtain ⟨rfl, rfl, rfl⟩ := h
    exact ⟨fun v hv => by simp at hv, [], fun _ => ha⟩
  | [], a :: r, pre, caps0, ps, vs, as0, vals, h, hp, ha => by simp [mkW] at h
  | sp :: ss, [], pre, caps0, ps, vs, as0, vals, h, hp, ha => by cases sp <;> simp [mkW] at h
  | .w :: ss, a :: r, pre, caps0, ps, vs, as0, vals, h, hp, ha => by
    simp only [mkW] at h
    obtain ⟨v, rest, rfl, hv, hr⟩ := ha
    split at h
    · rename_i hall
      split at h
      · rename_i ps1 vs1 as1 h2
        simp only [Option.some.injEq, Prod.mk.injEq] at h; obtain ⟨rfl, rfl, rfl⟩ := h
        obtain ⟨k1, caps, k3⟩ := mkW_ok ss r pre _ _ _ _ rest h2 hp.2 hr
        exact ⟨k1, 0 :: caps, fun post => ⟨v, rest, rfl, AV.con_ren (fun j hj => envW_posn hj) hall hv, k3 post⟩⟩
      · simp at h
    · simp at h
  | .s z :: ss, a :: r, pre, caps0, ps, vs, as0, vals, h, hp, ha => by
    simp only [mkW] at h
    obtain ⟨v, rest, rfl, hv, hr⟩ := ha
    split at h
    · rename_i p vw a' h1
      split at h
      · rename_i ps1 vs1 as1 h2
        simp only [Option.some.injEq, Prod.mk.injEq] at h; obtain ⟨rfl, rfl, rfl⟩ := h
        obtain ⟨g1, cap, a2, g2, g3⟩ := arg1_ok h1 hp.1 hv
        obtain ⟨k1, caps, k3⟩ := mkW_ok ss r (pre ++ [vw]) _ _ _ _ rest (by simpa [Nat.add_assoc] using h2) hp.2 hr
        have e1 := (arg1_s h1).2
        have e2 := (arg1_s g2).2
        refine ⟨?_, cap :: caps, fun post => ?_⟩
        · intro w hw
          rcases List.mem_cons.1 hw with rfl | hw
          · exact g1 _ rfl
          · exact k1 w hw
        · subst e1
          refine ⟨v, rest, rfl, ?_, ?_⟩
          · have := g3 (envW pk β (pre ++ vw :: vs1 ++ post)) fun x hx => by
              cases hx
              rw [List.append_assoc, List.cons_append, envW_mid]
            rw [e2] at this
            simpa using this
          · have := k3 post
            simpa using this
      · simp at h
    · simp at h
  | .p m :: ss, a :: r, pre, caps0, ps, vs, as0, vals, h, hp, ha => by
    simp only [mkW] at h
    obtain ⟨v, rest, rfl, hv, hr⟩ := ha
    split at h
    · rename_i p vw a' h1
      split at h
      · rename_i ps1 vs1 as1 h2
        simp only [Option.some.injEq, Prod.mk.injEq] at h; obtain ⟨rfl, rfl, rfl⟩ := h
        obtain ⟨g1, cap, a2, g2, g3⟩ := arg1_ok h1 hp.1 hv
        obtain ⟨k1, caps, k3⟩ := mkW_ok ss r (pre ++ [vw]) _ _ _ _ rest (by simpa [Nat.add_assoc] using h2) hp.2 hr
        have e1 := (arg1_p h1).2
        have e2 := (arg1_p g2).2
        refine ⟨?_, cap :: caps, fun post => ?_⟩
        · intro w hw
          rcases List.mem_cons.1 hw with rfl | hw
          · exact g1 _ rfl
          · exact k1 w hw
        · subst e1
          refine ⟨v, rest, rfl, ?_, ?_⟩
          · have := g3 (envW pk β (pre ++ vw :: vs1 ++ post)) fun x hx => by
              cases hx
              rw [List.append_assoc, List.cons_append, envW_mid]
            rw [e2] at this
            exact this
          · have := k3 post
            simpa using this
      · simp at h
    · simp at h

theorem app_some : ∀ (ch : List (Nat × Option Blk)) (K : Know) (t : Nat) (b : Blk), (app K ch).at t = some b → (t, some b) ∈ ch ∨ (K.at t = some b ∧ ∀ x, (t, x) ∉ ch)
  | [], K, t, b, h => .inr ⟨h, fun x hx => by simp at hx⟩
  | (j, x) :: r, K, t, b, h => by
    rcases app_some r _ t b h with h1 | ⟨h1, h2⟩
    · exact .inl (List.mem_cons_of_mem _ h1)
    · rw [Know.at_set1] at h1
      split at h1
      · rename_i e; subst e; subst h1; exact .inl List.mem_cons_self
      · rename_i e
        refine .inr ⟨h1, fun y hy => ?_⟩
        rcases List.mem_cons.1 hy with hy | hy
        · cases hy; exact e rfl
        · exact h2 y hy
end Go.Proofs.Ytcpoldghkiiggaa.X

/- Contracts of functions that read and write blocks: the theorem. -/
namespace Go.Proofs.Ytcpoldghkiiggaa.X
open Go

theorem getD_mem {l : List Nat} {i : Nat} (h : i < l.length) : l[i]? = some (l.getD i 0) := by
  rw [List.getD_eq_getElem?_getD, List.getElem?_eq_getElem h]; rfl

theorem know_append_left {K K' : Know} {t : Nat} (h : t < K.length) : Know.at (K ++ K') t = K.at t := by
  unfold Know.at; rw [List.getElem?_append_left h]
theorem know_append_right {K K' : Know} {t : Nat} (h : K.length ≤ t) : Know.at (K ++ K') t = Know.at K' (t - K.length) := by
  unfold Know.at; rw [List.getElem?_append_right h]

theorem knowSome {wk : List Blk} {t : Nat} : Know.at (wk.map some) t = wk[t]? := by
  unfold Know.at; rw [List.getElem?_map]
  cases wk[t]? <;> rfl

theorem all_at {K : Know} {f : Option Blk → Bool} (h : K.all f = true) {t : Nat} {b : Blk} (hb : K.at t = some b) : f (some b) = true := by
  unfold Know.at at hb
  rw [Option.join_eq_some_iff] at hb
  exact List.all_eq_true.1 h _ (List.mem_of_getElem? hb)

section call
variable {K : Know} {pk : List Nat} {wk : List Blk} {vs : List Vw}

/-- the callee's blocks, in the caller's world -/
theorem callee_rel {w0 : World} {rw : List Nat} {β : Env} {w : World} (hR : RelW w0 rw β K w) {ow : List Bool} (hwk : wkOf K pk pk ow = some wk) (hvs : ∀ v ∈ vs, VwOk β K v) (hvk : viewsOk pk wk vs = true) (hnd : nodupB pk = true) :
    RelW w ((List.range pk.length).filterMap fun i => if ownAt wk i = true then (β (pk.getD i 0)).map Ref.blk else none) (envW pk β vs) (wk.map some ++ knowV vs) w := by
  obtain ⟨hlen, hw⟩ := wkOf_ok hwk
  have hviews := views_rel hR hvs
  have hat : ∀ t b, Know.at (wk.map some ++ knowV vs) t = some b → (t < pk.length ∧ wk[t]? = some b) ∨ (pk.length ≤ t ∧ (knowV vs).at (t - pk.length) = some b) := by
    intro t b hb
    by_cases ht : t < pk.length
    · rw [know_append_left (by simp; omega), knowSome] at hb; exact .inl ⟨ht, hb⟩
    · rw [know_append_right (by simp; omega)] at hb
      simp only [List.length_map, hlen] at hb
      exact .inr ⟨by omega, hb⟩
  have hl : ∀ t, t < pk.length → envW pk β vs t = β (pk.getD t 0) := fun t ht => by unfold envW; rw [if_pos ht]
  have hg : ∀ t, pk.length ≤ t → envW pk β vs t = envV β vs (t - pk.length) := fun t ht => by unfold envW; rw [if_neg (by omega)]
  have vown : ∀ t b, (knowV vs).at t = some b → b.own = false ∧ ∃ v ∈ vs, envV β vs t = shiftR v.c (β v.j) ∧ ∃ b0, K.at v.j = some b0 := by
    intro t b hb
    unfold knowV Know.at at hb
    rw [List.getElem?_map] at hb
    cases hi : vs[t]? with
    | none => rw [hi] at hb; simp at hb
    | some v =>
      rw [hi] at hb; simp at hb
      have hm := List.mem_of_getElem? hi
      obtain ⟨_, b0, hb0, _⟩ := hvs v hm
      refine ⟨by rw [← hb], v, hm, ?_, b0, hb0⟩
      unfold envV; rw [hi]
  refine ⟨?_, ?_, ?_, ?_, fun _ _ _ => rfl, Nat.le_refl _, rfl, rfl, rfl⟩
  · intro t b hb
    rcases hat t b hb with ⟨ht, hb⟩ | ⟨ht, hb⟩
    · obtain ⟨b', hb', ho, hall, hce⟩ := hw t b hb
      obtain ⟨cs, h1, h2⟩ := hR.holds _ _ hb'
      refine ⟨cs, ?_, ?_⟩
      · rw [hce]; exact cons_ren (fun j hj => envW_posn hj) hall h1
      · rw [hl t ht]
        rcases h2 with ⟨h3, h4⟩ | ⟨r, arr, ty, fr, g1, g2, g3, g4, g5, g6⟩
        · refine .inl ⟨h3, ?_⟩
          rcases h4 with h4 | h4
          · left
            cases hbo : b.own with
            | false => rfl
            | true => rw [ho hbo] at h4; cases h4
          · exact .inr h4
        · exact .inr ⟨r, arr, ty, fr, g1, g2, g3, g4, g5, fun h => g6 (ho h)⟩
    · obtain ⟨cs, h1, h2⟩ := hviews.holds _ _ hb
      have hf := (vown _ _ hb).1
      -- the views' cells name nothing
      have hflat : b.cells.all Atom.flat = true := by
        unfold knowV Know.at at hb
        rw [List.getElem?_map] at hb
        cases hi : vs[t - pk.length]? with
        | none => rw [hi] at hb; simp at hb
        | some v =>
          rw [hi] at hb; simp at hb; subst hb
          exact (hvs v (List.mem_of_getElem? hi)).1
      exact ⟨cs, cons_flat hflat h1, by rw [hg t ht]; exact h2⟩
  · intro x y b c r s hx hy ho hne h1 h2
    rcases hat x b hx with ⟨hx', hb⟩ | ⟨hx', hb⟩
    · obtain ⟨b', hb', hbo, _, _⟩ := hw x b hb
      rw [hl x hx'] at h1
      rcases hat y c hy with ⟨hy', hc⟩ | ⟨hy', hc⟩
      · obtain ⟨c', hc', _⟩ := hw y c hc
        rw [hl y hy'] at h2
        exact hR.apart _ _ b' c' r s hb' hc' (hbo ho) (fun e => hne (nodupB_ok hnd x y hx' hy' e)) h1 h2
      · obtain ⟨_, v, hv, he, b0, hb0⟩ := vown _ _ hc
        rw [hg y hy', he] at h2
        cases hq : β v.j with
        | none => rw [hq] at h2; simp [shiftR] at h2
        | some q =>
          rw [hq] at h2; simp only [shiftR, Option.some.injEq] at h2; subst h2
          have h3 := List.all_eq_true.1 hvk x (List.mem_range.2 hx')
          have hox : ownAt wk x = true := by unfold ownAt; rw [hb]; exact ho
          rw [hox] at h3
          simp only [Bool.not_true, Bool.false_or, List.all_eq_true, decide_eq_true_eq] at h3
          exact hR.apart _ _ b' b0 r q hb' hb0 (hbo ho) (fun e => h3 v hv e.symm) h1 hq
    · rw [(vown _ _ hb).1] at ho; cases ho
  · intro x b r hx ho h1
    rcases hat x b hx with ⟨hx', hb⟩ | ⟨hx', hb⟩
    · right
      rw [List.mem_filterMap]
      refine ⟨x, List.mem_range.2 hx', ?_⟩
      rw [hl x hx'] at h1
      have hox : ownAt wk x = true := by unfold ownAt; rw [hb]; exact ho
      rw [if_pos hox, h1]; rfl
    · rw [(vown _ _ hb).1] at ho; cases ho
  · intro x b r hx h1
    rcases hat x b hx with ⟨hx', hb⟩ | ⟨hx', hb⟩
    · obtain ⟨b', hb', _⟩ := hw x b hb
      rw [hl x hx'] at h1
      exact hR.live _ b' r hb' h1
    · rw [hg x hx'] at h1
      exact hviews.live _ _ r hb h1
end call

theorem gcall_full {P : Program} {T : Tab} (hT : TabOk P T) {f : FuncId} {fn : Func} (hf : P.funcs[f]? = some fn) {ow : List Bool} {specs : List AW} {entry : List Blk → List Vw → List AV → Option (Prop × List V1 × Know)}
    (h : ∀ wk vs as p xs K1, entry wk vs as = some (p, xs, K1) → p → ∀ (caps : List Nat) (w : World) (rw : List Nat) (β : Env), Body P T fn ⟨w, rw, wk.length + vs.length, β⟩ (recap specs as caps) (wk.map some ++ knowV vs) fun ys K' => ys = xs ∧ K' = K1)
    {K : Know} {n : Nat} {args : List AV} {s : Rx} (hs : gcallE ow specs entry K n args = some s) (hvc : okP s.vc) : FullC P f K n args s := by
  unfold gcallE at hs
  split at hs
  · simp at hs
  rename_i pk hpk
  split at hs
  · simp at hs
  rename_i wk hwk
  split at hs
  · simp at hs
  rename_i ps vs as hmk
  split at hs
  · simp at hs
  rename_i p xs K1 hen
  split at hs
  rotate_left
  · simp at hs
  rename_i hchk
  simp only [Option.some.injEq] at hs
  subst hs
  simp only [Bool.and_eq_true, decide_eq_true_eq] at hchk
  obtain ⟨⟨⟨⟨⟨hvk, hnd⟩, hxi⟩, hki⟩, hfo⟩, hle⟩ := hchk
  obtain ⟨hps, hp⟩ := hvc
  intro w0 rw β w vals ha hR hfree hnom
  simp only at hfree hnom
  obtain ⟨hlen, hw⟩ := wkOf_ok hwk
  obtain ⟨hvs, caps, hcaps⟩ := mkW_ok specs args [] [] ps vs as vals (by simpa using hmk) hps ha
  have hrelC := callee_rel hR hwk hvs hvk hnd
  have hcaps := hcaps []
  simp only [List.nil_append, List.append_nil] at hcaps
  have hl0 : (wk.map some ++ knowV vs : Know).length = pk.length + vs.length := by simp [knowV, hlen]
  have hbody := h wk vs as p xs K1 hen hp caps w ((List.range pk.length).filterMap fun i => if ownAt wk i = true then (β (pk.getD i 0)).map Ref.blk else none) (envW pk β vs)
  rw [show wk.length + vs.length = (wk.map some ++ knowV vs : Know).length by simp [knowV]] at hbody
  refine Calls.mono (calls_of_body hT hf hcaps hrelC hbody) fun e w' he => ?_
  obtain ⟨ys, K', v, β1, ⟨rfl, rfl⟩, rfl, hv, hrel, hfix⟩ := he
  rw [hl0] at hfix
  generalize hl : pk.length + vs.length = l0 at *
  -- the caller's names behind the call
  let β2 : Env := fun t => if n ≤ t ∧ t < n + (K'.length - l0) then β1 (l0 + (t - n)) else β t
  have hag : Agree n (n + (K'.length - l0)) β β2 := fun t ht => by
    show (if _ then _ else _) = _
    rw [if_neg (by omega)]
  have hpkf : ∀ i, i < pk.length → ¬(n ≤ pk.getD i 0 ∧ pk.getD i 0 < n + (K'.length - l0)) := by
    intro i hi hc
    obtain ⟨b, hb⟩ : ∃ b, wk[i]? = some b := ⟨wk[i], List.getElem?_eq_getElem (by omega)⟩
    obtain ⟨b', hb', _⟩ := hw i b hb
    have := hfree (pk.getD i 0 - n) (by omega)
    rw [show n + (pk.getD i 0 - n) = pk.getD i 0 by omega, hb'] at this
    cases this
  have hσ : ∀ i, okI pk.length l0 K'.length i = true → β2 (sgm pk l0 n i) = β1 i := by
    intro i hi
    simp only [okI, decide_eq_true_eq] at hi
    unfold sgm
    rcases hi with hi | ⟨h1, h2⟩
    · rw [if_pos (by omega)]
      show (if _ then _ else _) = _
      rw [if_neg (hpkf i hi), hfix i (by omega)]
      unfold envW; rw [if_pos hi]
    · rw [if_neg (by omega)]
      show (if _ then _ else _) = _
      rw [if_pos (by omega)]
      congr 1; omega
  have hown : ∀ i, ownAt wk i = true → i < pk.length ∧ ∃ b', K.at (pk.getD i 0) = some b' ∧ b'.own = true := by
    intro i hi
    unfold ownAt at hi
    split at hi
    · rename_i b hb
      obtain ⟨b', hb', ho, _⟩ := hw i b hb
      refine ⟨?_, b', hb', ho hi⟩
      have := (List.getElem?_eq_some_iff.1 hb).1
      omega
    · cases hi
  have hrwc : ∀ x, x ∈ ((List.range pk.length).filterMap fun i => if ownAt wk i = true then (β (pk.getD i 0)).map Ref.blk else none) → ∃ i r, ownAt wk i = true ∧ β (pk.getD i 0) = some r ∧ x = r.blk := by
    intro x hx
    obtain ⟨i, _, hi⟩ := List.mem_filterMap.1 hx
    split at hi
    · rename_i ho
      rw [Option.map_eq_some_iff] at hi
      obtain ⟨r, hr, rfl⟩ := hi
      exact ⟨i, r, ho, hr, rfl⟩
    · cases hi
  -- what the blocks behind the call are
  have hK2 : ∀ t b, (app K (chOf pk wk l0 n K')).at t = some b → (∃ i b1, okI pk.length l0 K'.length i = true ∧ (i < pk.length → ownAt wk i = true) ∧ t = sgm pk l0 n i ∧ K'.at i = some b1 ∧ b = b1.ren (sgm pk l0 n)) ∨
      (K.at t = some b ∧ (∀ i, ownAt wk i = true → t ≠ pk.getD i 0) ∧ (t < n ∨ n + (K'.length - l0) ≤ t)) := by
    intro t b hb
    rcases app_some _ _ _ _ hb with h1 | ⟨h1, h2⟩
    · left
      unfold chOf at h1
      rcases List.mem_append.1 h1 with h1 | h1
      · obtain ⟨i, hi, he⟩ := List.mem_map.1 h1
        simp only [Prod.mk.injEq] at he
        obtain ⟨rfl, he⟩ := he
        rw [Option.map_eq_some_iff] at he
        obtain ⟨b1, hb1, rfl⟩ := he
        obtain ⟨hi1, hi2⟩ := List.mem_filter.1 hi
        have hi1 := List.mem_range.1 hi1
        exact ⟨i, b1, by simp [okI, hi1], fun _ => hi2, by unfold sgm; rw [if_pos (by omega)], hb1, rfl⟩
      · obtain ⟨m, hm, he⟩ := List.mem_map.1 h1
        simp only [Prod.mk.injEq] at he
        obtain ⟨rfl, he⟩ := he
        rw [Option.map_eq_some_iff] at he
        obtain ⟨b1, hb1, rfl⟩ := he
        have hm := List.mem_range.1 hm
        refine ⟨l0 + m, b1, by simp [okI]; omega, fun h => by omega, by unfold sgm; rw [if_neg (by omega)]; omega, hb1, rfl⟩
    · right
      refine ⟨h1, fun i hi he => ?_, ?_⟩
      · obtain ⟨hlt, _⟩ := hown i hi
        refine h2 ((K'.at i).map (Blk.ren (sgm pk l0 n))) ?_
        unfold chOf
        refine List.mem_append_left _ (List.mem_map.2 ⟨i, List.mem_filter.2 ⟨List.mem_range.2 hlt, hi⟩, ?_⟩)
        rw [he]
      · by_cases hc : t < n ∨ n + (K'.length - l0) ≤ t
        · exact hc
        · have := hfree (t - n) (by omega)
          rw [show n + (t - n) = t by omega, h1] at this
          cases this
  have hmineC : ∀ i b1 r, K'.at i = some b1 → (i < pk.length → ownAt wk i = true) → okI pk.length l0 K'.length i = true → β1 i = some r → w.heap.size ≤ r.blk ∨ ∃ i' q, ownAt wk i' = true ∧ β (pk.getD i' 0) = some q ∧ r.blk = q.blk := by
    intro i b1 r hb1 ho hok hr
    by_cases hi : i < pk.length
    · rw [hfix i (by omega)] at hr
      unfold envW at hr; rw [if_pos hi] at hr
      exact .inr ⟨i, r, ho hi, hr, rfl⟩
    · simp only [okI, decide_eq_true_eq] at hok
      have hfr : freshOwn (some b1) = true := by
        refine all_at (K := K'.drop l0) hfo (t := i - l0) ?_
        unfold Know.at at hb1 ⊢
        rw [List.getElem?_drop, show l0 + (i - l0) = i by omega]; exact hb1
      rcases hrel.mine i b1 r hb1 hfr hr with h3 | h3
      · exact .inl h3
      · obtain ⟨i', q, h4, h5, h6⟩ := hrwc _ h3
        exact .inr ⟨i', q, h4, h5, h6⟩
  refine ⟨v, β2, rfl, hag, ?_, ?_⟩
  · have hall : (retOf ys).allI (okI pk.length l0 K'.length) = true := by
      match ys, hxi with
      | [], _ => rfl
      | [x], hxi =>
        simp only [List.all_cons, List.all_nil, Bool.and_true] at hxi
        exact hxi
      | x :: y :: r, hxi => exact hxi
    exact AV.con_ren hσ hall hv
  · refine ⟨?_, ?_, ?_, ?_, ?_, Nat.le_trans hR.size hrel.size, hrel.os.trans hR.os, hrel.tape.trans hR.tape, hrel.output.trans hR.output⟩
    · intro t b hb
      rcases hK2 t b hb with ⟨i, b1, hok, _, rfl, hb1, rfl⟩ | ⟨hb, hnk, hrange⟩
      · obtain ⟨cs, h1, h2⟩ := hrel.holds i b1 hb1
        exact ⟨cs, cons_ren hσ (all_at hki hb1) h1, by rw [hσ i hok]; exact h2⟩
      · obtain ⟨cs, h1, h2⟩ := hR.holds t b hb
        refine ⟨cs, cons_agree hag (Know.nom_at hnom hb) h1, ?_⟩
        rw [hag t hrange]
        rcases h2 with h2 | ⟨r, arr, ty, fr, hr, hh, rest⟩
        · exact .inl h2
        · refine .inr ⟨r, arr, ty, fr, hr, ?_, rest⟩
          refine (hrel.old r.blk (hR.live t b r hb hr) ?_).trans hh
          intro hm
          obtain ⟨i, q, h4, h5, h6⟩ := hrwc _ hm
          obtain ⟨_, b', hb', ho'⟩ := hown i h4
          exact hR.apart _ _ b' b q r hb' hb ho' (fun e => hnk i h4 e.symm) h5 hr h6.symm
    · intro x y b c r s hx hy ho hne h1 h2
      rcases hK2 x b hx with ⟨i, b1, hok, hoi, rfl, hb1, rfl⟩ | ⟨hb, hnk, hrange⟩
      · rw [hσ i hok] at h1
        rcases hK2 y c hy with ⟨i2, c1, hok2, hoi2, rfl, hc1, rfl⟩ | ⟨hc, hnk2, hrange2⟩
        · rw [hσ i2 hok2] at h2
          exact hrel.apart i i2 b1 c1 r s hb1 hc1 ho (fun e => hne (by rw [e])) h1 h2
        · rw [hag y hrange2] at h2
          rcases hmineC i b1 r hb1 hoi hok h1 with h3 | ⟨i', q, h4, h5, h6⟩
          · have := hR.live y c s hc h2; omega
          · obtain ⟨_, b', hb', ho'⟩ := hown i' h4
            rw [h6]
            exact hR.apart _ _ b' c q s hb' hc ho' (fun e => hnk2 i' h4 e.symm) h5 h2
      · rw [hag x hrange] at h1
        rcases hK2 y c hy with ⟨i2, c1, hok2, hoi2, rfl, hc1, rfl⟩ | ⟨hc, hnk2, hrange2⟩
        · rw [hσ i2 hok2] at h2
          rcases hmineC i2 c1 s hc1 hoi2 hok2 h2 with h3 | ⟨i', q, h4, h5, h6⟩
          · have := hR.live x b r hb h1; omega
          · obtain ⟨_, b', hb', ho'⟩ := hown i' h4
            rw [h6]
            exact hR.apart _ _ b b' r q hb hb' ho (hnk i' h4) h1 h5
        · rw [hag y hrange2] at h2
          exact hR.apart x y b c r s hb hc ho hne h1 h2
    · intro x b r hx ho h1
      rcases hK2 x b hx with ⟨i, b1, hok, hoi, rfl, hb1, rfl⟩ | ⟨hb, hnk, hrange⟩
      · rw [hσ i hok] at h1
        rcases hmineC i b1 r hb1 hoi hok h1 with h3 | ⟨i', q, h4, h5, h6⟩
        · exact .inl (Nat.le_trans hR.size h3)
        · obtain ⟨_, b', hb', ho'⟩ := hown i' h4
          rw [h6]; exact hR.mine _ b' q hb' ho' h5
      · rw [hag x hrange] at h1
        exact hR.mine x b r hb ho h1
    · intro x b r hx h1
      rcases hK2 x b hx with ⟨i, b1, hok, hoi, rfl, hb1, rfl⟩ | ⟨hb, hnk, hrange⟩
      · rw [hσ i hok] at h1
        exact hrel.live i b1 r hb1 h1
      · rw [hag x hrange] at h1
        exact Nat.lt_of_lt_of_le (hR.live x b r hb h1) hrel.size
    · intro b hb hnr
      refine (hrel.old b (Nat.lt_of_lt_of_le hb hR.size) ?_).trans (hR.old b hb hnr)
      intro hm
      obtain ⟨i, q, h4, h5, h6⟩ := hrwc _ hm
      obtain ⟨_, b', hb', ho'⟩ := hown i h4
      rcases hR.mine _ b' q hb' ho' h5 with h7 | h7
      · omega
      · rw [h6] at hnr; exact hnr h7

/- what more is known changes nothing -/
theorem reach_mono {K K' : Know} (hk : Knows K K') : ∀ {f : Nat} {todo acc pk : List Nat}, reach K f todo acc = some pk → reach K' f todo acc = some pk
  | 0, _, _, _, h => by simp [reach] at h
  | f + 1, [], acc, pk, h => h
  | f + 1, j :: r, acc, pk, h => by
    simp only [reach] at h ⊢
    split at h
    · rename_i hc; rw [if_pos hc]; exact reach_mono hk h
    · rename_i hc
      rw [if_neg hc]
      split at h
      · rename_i b hb; rw [hk _ _ hb]; exact reach_mono hk h
      · simp at h

theorem wkOf_mono {K K' : Know} (hk : Knows K K') {pk : List Nat} : ∀ {l : List Nat} {ow : List Bool} {wk : List Blk}, wkOf K pk l ow = some wk → wkOf K' pk l ow = some wk
  | [], _, _, h => h
  | j :: r, ow, wk, h => by
    simp only [wkOf] at h ⊢
    split at h
    · rename_i b hb
      rw [hk _ _ hb]
      simp only
      split at h
      · rename_i hc
        rw [if_pos hc]
        split at h
        · rename_i l hl; rw [wkOf_mono hk hl]; exact h
        · simp at h
      · simp at h
    · simp at h

theorem mkW_mono {K K' : Know} (hk : Knows K K') {pk : List Nat} : ∀ {ss : List AW} {args : List AV} {i : Nat} {caps : List Nat} {r : List Prop × List Vw × List AV}, mkW K pk ss args i caps = some r → mkW K' pk ss args i caps = some r
  | [], [], _, _, _, h => h
  | [], _ :: _, _, _, _, h => by simp [mkW] at h
  | sp :: _, [], _, _, _, h => by cases sp <;> simp [mkW] at h
  | .w :: ss, a :: q, i, caps, r, h => by
    simp only [mkW] at h ⊢
    split at h
    · rename_i hc
      rw [if_pos hc]
      split at h
      · rename_i h2; rw [mkW_mono hk h2]; exact h
      · simp at h
    · simp at h
  | .s z :: ss, a :: q, i, caps, r, h => by
    simp only [mkW] at h ⊢
    split at h
    · rename_i h1
      rw [arg1_mono hk h1]
      simp only
      split at h
      · rename_i h2; rw [mkW_mono hk h2]; exact h
      · simp at h
    · simp at h
  | .p m :: ss, a :: q, i, caps, r, h => by
    simp only [mkW] at h ⊢
    split at h
    · rename_i h1
      rw [arg1_mono hk h1]
      simp only
      split at h
      · rename_i h2; rw [mkW_mono hk h2]; exact h
      · simp at h
    · simp at h

theorem gcallE_mono {ow : List Bool} {specs : List AW} {entry : List Blk → List Vw → List AV → Option (Prop × List V1 × Know)} {K K' : Know} (hk : Knows K K') {n : Nat} {args : List AV} {s : Rx} (hs : gcallE ow specs entry K n args = some s) : gcallE ow specs entry K' n args = some s := by
  unfold gcallE at hs ⊢
  split at hs
  · simp at hs
  rename_i pk hpk
  rw [reach_mono hk hpk]
  simp only
  split at hs
  · simp at hs
  rename_i wk hwk
  rw [wkOf_mono hk hwk]
  simp only
  split at hs
  · simp at hs
  rename_i ps vs as hmk
  rw [mkW_mono hk hmk]
  exact hs

/-- a function with effects: its table -/
def gcall (f : FuncId) (ow : List Bool) (specs : List AW) (entry : List Blk → List Vw → List AV → Option (Prop × List V1 × Know)) (rest : Gam) : Gam := gfull f (gcallE ow specs entry) rest

theorem gcall_ok {P : Program} {T : Tab} (hT : TabOk P T) {f : FuncId} {fn : Func} (hf : P.funcs[f]? = some fn) {ow : List Bool} {specs : List AW} {entry : List Blk → List Vw → List AV → Option (Prop × List V1 × Know)} {rest : Gam} (hr : GamOk P rest) (he : ∀ (as : Array Value) (w : World), (callFunc f as).run P w = .ok (.enter f as) w)
    (h : ∀ wk vs as p xs K1, entry wk vs as = some (p, xs, K1) → p → ∀ (caps : List Nat) (w : World) (rw : List Nat) (β : Env), Body P T fn ⟨w, rw, wk.length + vs.length, β⟩ (recap specs as caps) (wk.map some ++ knowV vs) fun ys K' => ys = xs ∧ K' = K1) (hlt : f < impId := by decide) : GamOk P (gcall f ow specs entry rest) :=
  gfull_ok hr he (fun _ _ _ _ hs hv => gcall_full hT hf h hs hv) (fun _ _ _ _ _ hs hk => gcallE_mono hk hs) hlt
end Go.Proofs.Ytcpoldghkiiggaa.X

