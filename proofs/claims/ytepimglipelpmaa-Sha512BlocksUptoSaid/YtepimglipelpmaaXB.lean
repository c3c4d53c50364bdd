/- What it means that a world holds known blocks; reading, writing and making blocks keeps it. -/
import Derived.Test.YtepimglipelpmaaXA
namespace Go.Proofs.Ytepimglipelpmaa.X
open Go

inductive V1 where
  | a (x : Atom)
  | g (l : List Atom)

def V1.con (β : Env) : V1 → Value → Prop
  | .a x, v => x.con β [v]
  | .g l, v => ∃ cs : List Value, v = .agg cs.toArray ∧ cons β l cs

inductive AV where
  | u
  | o (x : V1)
  | t (l : List V1)
  | f (fn : FuncId) (caps : List V1)

def all2 (β : Env) : List V1 → List Value → Prop
  | [], vs => vs = []
  | x :: r, vs => ∃ v rest, vs = v :: rest ∧ x.con β v ∧ all2 β r rest

def AV.con (β : Env) : AV → Value → Prop
  | .u, _ => True
  | .o x, v => x.con β v
  | .t l, v => ∃ vs : List Value, v = .tuple vs.toArray ∧ all2 β l vs
  | .f fn caps, v => ∃ vs : List Value, v = .func (.func fn) #[] vs.toArray ∧ all2 β caps vs

/- no index in [lo, hi) is named -/
def Atom.nom (lo hi : Nat) : Atom → Bool
  | .p j _ | .ps j _ | .sl j _ _ _ | .rs j _ _ _ => decide (j < lo ∨ hi ≤ j)
  | _ => true
def nomL (lo hi : Nat) (l : List Atom) : Bool := l.all (Atom.nom lo hi)
def V1.nom (lo hi : Nat) : V1 → Bool
  | .a x => x.nom lo hi
  | .g l => nomL lo hi l
def AV.nom (lo hi : Nat) : AV → Bool
  | .u => true
  | .o x => x.nom lo hi
  | .t l => l.all (V1.nom lo hi)
  | .f _ l => l.all (V1.nom lo hi)

def Agree (lo hi : Nat) (β β' : Env) : Prop := ∀ j, (j < lo ∨ hi ≤ j) → β' j = β j

theorem Atom.con_agree {β β' : Env} {lo hi : Nat} (h : Agree lo hi β β') {a : Atom} (ha : a.nom lo hi = true) {cs : List Value} (hc : a.con β cs) : a.con β' cs := by
  cases a <;> simp only [Atom.nom, Atom.con, decide_eq_true_eq] at ha hc ⊢ <;> first | exact hc | (rw [h _ ha]; exact hc)

theorem cons_agree {β β' : Env} {lo hi : Nat} (h : Agree lo hi β β') : ∀ {l : List Atom}, nomL lo hi l = true → ∀ {cs : List Value}, cons β l cs → cons β' l cs
  | [], _, cs, hc => hc
  | a :: r, hn, cs, hc => by
    simp only [nomL, List.all_cons, Bool.and_eq_true] at hn
    obtain ⟨x, y, rfl, ha, hr⟩ := hc
    exact ⟨x, y, rfl, Atom.con_agree h hn.1 ha, cons_agree h (by simpa [nomL] using hn.2) hr⟩

theorem V1.con_agree {β β' : Env} {lo hi : Nat} (h : Agree lo hi β β') {x : V1} (hn : x.nom lo hi = true) {v : Value} (hc : x.con β v) : x.con β' v := by
  cases x with
  | a x => exact Atom.con_agree h hn hc
  | g l => obtain ⟨cs, rfl, hc⟩ := hc; exact ⟨cs, rfl, cons_agree h hn hc⟩

theorem all2_agree {β β' : Env} {lo hi : Nat} (h : Agree lo hi β β') : ∀ {l : List V1}, l.all (V1.nom lo hi) = true → ∀ {vs : List Value}, all2 β l vs → all2 β' l vs
  | [], _, vs, hc => hc
  | x :: r, hn, vs, hc => by
    simp only [List.all_cons, Bool.and_eq_true] at hn
    obtain ⟨v, rest, rfl, hx, hr⟩ := hc
    exact ⟨v, rest, rfl, V1.con_agree h hn.1 hx, all2_agree h hn.2 hr⟩

theorem AV.con_agree {β β' : Env} {lo hi : Nat} (h : Agree lo hi β β') {x : AV} (hn : x.nom lo hi = true) {v : Value} (hc : x.con β v) : x.con β' v := by
  cases x with
  | u => trivial
  | o x => exact V1.con_agree h hn hc
  | t l => obtain ⟨vs, rfl, hc⟩ := hc; exact ⟨vs, rfl, all2_agree h hn hc⟩
  | f fn l => obtain ⟨vs, rfl, hc⟩ := hc; exact ⟨vs, rfl, all2_agree h hn hc⟩

structure Blk where
  own : Bool
  cells : List Atom

def Blk.holds (β : Env) (w : World) (j : Nat) (b : Blk) : Prop :=
  ∃ cs, cons β b.cells cs ∧ ((cs = [] ∧ (b.own = false ∨ β j = none)) ∨
    ∃ r arr ty fr, β j = some r ∧ w.heap[r.blk]? = some (.cells arr ty fr) ∧ arr.size = r.size ∧ r.off + cs.length ≤ r.size ∧
      (∀ i v, cs[i]? = some v → arr[r.off + i]? = some v) ∧ (b.own = true → fr = (0, 0)))

abbrev Know := List (Option Blk)

def Know.at (K : Know) (j : Nat) : Option Blk := (K[j]?).join

structure RelW (w0 : World) (rw : List Nat) (β : Env) (K : Know) (w : World) : Prop where
  holds : ∀ j b, K.at j = some b → b.holds β w j
  apart : ∀ j k b c r s, K.at j = some b → K.at k = some c → b.own = true → j ≠ k → β j = some r → β k = some s → r.blk ≠ s.blk
  mine : ∀ j b r, K.at j = some b → b.own = true → β j = some r → w0.heap.size ≤ r.blk ∨ r.blk ∈ rw
  live : ∀ j b r, K.at j = some b → β j = some r → r.blk < w.heap.size
  old : ∀ b, b < w0.heap.size → b ∉ rw → w.heap[b]? = w0.heap[b]?
  size : w0.heap.size ≤ w.heap.size
  os : w.os = w0.os
  tape : w.tape = w0.tape
  output : w.output = w0.output

theorem RelW.drew {w0 : World} {rw : List Nat} {β : Env} {K : Know} {w : World} (h : RelW w0 rw β K w) (n : Nat) : RelW w0 rw β K { w with drawn := n } :=
  ⟨h.holds, h.apart, h.mine, h.live, h.old, h.size, h.os, h.tape, h.output⟩

def Know.set1 (K : Know) (j : Nat) (b : Option Blk) : Know := if j < K.length then K.set j b else K ++ List.replicate (j - K.length) none ++ [b]

theorem Know.at_set1 (K : Know) (j : Nat) (b : Option Blk) (k : Nat) : (K.set1 j b).at k = if k = j then b else K.at k := by
  unfold Know.set1 Know.at
  by_cases hj : j < K.length
  · rw [if_pos hj, List.getElem?_set]
    by_cases hk : k = j
    · subst hk; simp [hj]
    · rw [if_neg (fun h => hk h.symm), if_neg hk]
  · rw [if_neg hj]
    by_cases hk : k = j
    · subst hk
      rw [if_pos rfl, List.getElem?_append_right (by simp; omega)]
      have : k - (K ++ List.replicate (k - K.length) (none : Option Blk)).length = 0 := by simp; omega
      rw [this]; rfl
    · rw [if_neg hk]
      by_cases h1 : k < K.length
      · rw [List.append_assoc, List.getElem?_append_left h1]
      · rw [List.getElem?_eq_none (l := K) (by omega)]
        by_cases h2 : k < j
        · rw [List.getElem?_append_left (by simp; omega), List.getElem?_append_right (by omega), List.getElem?_replicate]
          rw [if_pos (by omega)]; rfl
        · rw [List.getElem?_eq_none (by simp; omega)]

/- reading -/
theorem Blk.cellsAt {β : Env} {w : World} {j : Nat} {b : Blk} (h : b.holds β w j) {r : Ref} (hr : β j = some r) :
    ∃ cs, cons β b.cells cs ∧ ∀ i v, cs[i]? = some v → w.cell? ⟨r.blk, r.off + i, none⟩ = some v := by
  obtain ⟨cs, hc, h⟩ := h
  refine ⟨cs, hc, fun i v hv => ?_⟩
  rcases h with ⟨rfl, _⟩ | ⟨r', arr, ty, fr, hr', hh, hs, hl, ha, _⟩
  · simp at hv
  · rw [hr] at hr'; cases hr'
    simp [World.cell?, hh, ha i v hv]

theorem addr_add (b o n : Nat) : (⟨b, o, none⟩ : Addr).add n = ⟨b, o + n, none⟩ := by unfold Addr.add; split <;> simp_all

theorem getElem?_sub {α : Type} (l : List α) (c m i : Nat) (v : α) (h : (sub l c m)[i]? = some v) : l[c + i]? = some v := by
  simp only [sub, List.getElem?_take, List.getElem?_drop] at h
  split at h
  · exact h
  · simp at h

def aggD : TypeDesc → Bool
  | .struct _ | .array _ _ => true
  | _ => false

section run
variable {P : Program}
theorem run_isAgg (w : World) {t : TypeId} {d : TypeDesc} (h : P.underlying t = some d) : (isAgg t).run P w = .ok (aggD d) w := by
  unfold isAgg
  rw [Sem.run_bind, run_underlying h w]
  cases d <;> rfl
theorem run_sizeOf' (w : World) {t : TypeId} {i : TypeInfo} (h : P.info? t = some i) : (sizeOf t).run P w = .ok i.size w := by
  simp [sizeOf, typeInfo, h]
theorem run_load_agg (w : World) {ty : TypeId} {d : TypeDesc} {i : TypeInfo} (hu : P.underlying ty = some d) (hd : aggD d = true) (hi : P.info? ty = some i) (a : Addr) (cs : List Value)
    (hl : cs.length = i.size) (hc : ∀ j v, cs[j]? = some v → w.cell? (a.add j) = some v) : (loadVar ty a).run P w = .ok (.agg cs.toArray) w := by
  unfold loadVar
  rw [Sem.run_bind, run_isAgg w hu, hd]
  simp only [Result.andThen_ok, if_true, Sem.run_bind, run_sizeOf' w hi, ← hl, run_loadCells_list w a cs hc, Sem.run_pure]
theorem run_load_one (w : World) {ty : TypeId} {d : TypeDesc} (hu : P.underlying ty = some d) (hd : aggD d = false) (a : Addr) (v : Value) (hc : w.cell? a = some v) : (loadVar ty a).run P w = .ok v w := by
  unfold loadVar
  rw [Sem.run_bind, run_isAgg w hu, hd]
  simp [hc]
end run

theorem getElem?_splice {α : Type} (l ys : List α) (c m : Nat) (h : c + m ≤ l.length) (hy : ys.length = m) (i : Nat) :
    (splice l c m ys)[i]? = if i < c then l[i]? else if i < c + m then ys[i - c]? else l[i]? := by
  have hlt : (l.take c).length = c := by simp; omega
  unfold splice
  by_cases h1 : i < c
  · rw [if_pos h1, List.append_assoc, List.getElem?_append_left (by omega), List.getElem?_take_of_lt h1]
  · rw [if_neg h1]
    by_cases h2 : i < c + m
    · rw [if_pos h2, List.append_assoc, List.getElem?_append_right (by omega), hlt, List.getElem?_append_left (by omega)]
    · rw [if_neg h2, List.getElem?_append_right (by simp; omega)]
      simp only [List.getElem?_drop, List.length_append, hlt]
      congr 1; omega

/- writing -/
theorem RelW.store {w0 : World} {rw : List Nat} {β : Env} {K : Know} {w : World} (P : Program) (h : RelW w0 rw β K w) {j : Nat} {b : Blk} (hb : K.at j = some b) (ho : b.own = true)
    {r : Ref} (hr : β j = some r) {c m : Nat} {new out : List Atom} {ds : List Value} (hp : ∀ cs, cons β b.cells cs → cons β out (splice cs c m ds) ∧ c + m ≤ cs.length) (hn : cons β new ds) (hm : ds.length = m) (hpos : 0 < m) :
    ∃ w', (storeCells ⟨r.blk, r.off + c, none⟩ ds).run P w = .ok () w' ∧ RelW w0 rw β (K.set1 j (some ⟨true, out⟩)) w' := by
  obtain ⟨cs, hc, hd⟩ := h.holds j b hb
  obtain ⟨hout, hin⟩ := hp cs hc
  rcases hd with ⟨rfl, _⟩ | ⟨r', arr, ty, fr, hr', hh, hs, hl, ha, hf⟩
  · simp at hin; omega
  · rw [hr] at hr'; cases hr'
    have hfr := hf ho; subst hfr
    have hrun := run_storeCells_at P r.blk (r.off + c) ty ds 0 arr w hh (by omega) (cons_one hn)
    refine ⟨_, hrun, ?_⟩
    simp only [Nat.add_zero]
    have hspl : (arr.toList.take (r.off + c) ++ ds ++ arr.toList.drop (r.off + c + ds.length)) = splice arr.toList (r.off + c) m ds := by rw [hm]; rfl
    rw [hspl]
    have hsl : (splice arr.toList (r.off + c) m ds).length = arr.size := by rw [splice_len _ _ _ _ (by simp; omega) hm]; simp
    refine ⟨?_, ?_, ?_, ?_, ?_, ?_, h.os, h.tape, h.output⟩
    · intro k b' hk
      rw [Know.at_set1] at hk
      by_cases hkj : k = j
      · subst hkj
        simp only [if_true, Option.some.injEq] at hk; subst hk
        refine ⟨_, hout, .inr ⟨r, _, ty, (0, 0), hr, setRow_heap w r.blk arr _ ty _ hh, by simpa [hsl] using hs, ?_, ?_, fun _ => rfl⟩⟩
        · rw [splice_len _ _ _ _ hin hm]; exact hl
        · intro i v hv
          rw [List.getElem?_toArray, getElem?_splice _ _ _ _ (by simp; omega) hm]
          rw [getElem?_splice _ _ _ _ hin hm] at hv
          by_cases h1 : i < c
          · rw [if_pos h1] at hv; rw [if_pos (by omega)]; simpa using ha i v hv
          · rw [if_neg h1] at hv; rw [if_neg (by omega)]
            by_cases h2 : i < c + m
            · rw [if_pos h2] at hv; rw [if_pos (by omega)]
              rw [show r.off + i - (r.off + c) = i - c by omega]; exact hv
            · rw [if_neg h2] at hv; rw [if_neg (by omega)]; simpa using ha i v hv
      · rw [if_neg hkj] at hk
        obtain ⟨cs', hc', hd'⟩ := h.holds k b' hk
        refine ⟨cs', hc', hd'.imp id ?_⟩
        rintro ⟨s, arr', ty', fr', hs', hh', rest⟩
        have hne := h.apart j k b b' r s hb hk ho (fun e => hkj e.symm) hr hs'
        exact ⟨s, arr', ty', fr', hs', by rw [setRow_other w r.blk s.blk _ (fun e => hne e.symm)]; exact hh', rest⟩
    · intro a k b1 c1 r1 s1 ha1 hk1 ho1 hne hr1 hs1
      rw [Know.at_set1] at ha1 hk1
      have key : ∀ x b2, (if x = j then some (⟨true, out⟩ : Blk) else K.at x) = some b2 → ∃ b3, K.at x = some b3 ∧ b3.own = b2.own := by
        intro x b2 hx
        by_cases hxj : x = j
        · subst hxj; simp only [if_true, Option.some.injEq] at hx; subst hx; exact ⟨b, hb, ho⟩
        · rw [if_neg hxj] at hx; exact ⟨b2, hx, rfl⟩
      obtain ⟨b3, hb3, e3⟩ := key a b1 ha1
      obtain ⟨c3, hc3, _⟩ := key k c1 hk1
      exact h.apart a k b3 c3 r1 s1 hb3 hc3 (e3.trans ho1) hne hr1 hs1
    · intro x b1 r1 hx ho1 hr1
      rw [Know.at_set1] at hx
      by_cases hxj : x = j
      · subst hxj; rw [hr] at hr1; cases hr1; exact h.mine x b r hb ho hr
      · rw [if_neg hxj] at hx; exact h.mine x b1 r1 hx ho1 hr1
    · intro x b1 r1 hx hr1
      rw [Know.at_set1] at hx
      rw [size_setRow]
      by_cases hxj : x = j
      · subst hxj; rw [hr] at hr1; cases hr1; exact h.live x b r hb hr
      · rw [if_neg hxj] at hx; exact h.live x b1 r1 hx hr1
    · intro b1 hb1 hb2
      have hne : b1 ≠ r.blk := by
        rcases h.mine j b r hb ho hr with hm' | hm'
        · omega
        · intro e; subst e; exact hb2 hm'
      rw [setRow_other w r.blk b1 _ hne]; exact h.old b1 hb1 hb2
    · rw [size_setRow]; exact h.size

def bnom (lo hi : Nat) : Option Blk → Bool
  | some b => nomL lo hi b.cells
  | none => true
def Know.nom (lo hi : Nat) (K : Know) : Bool := K.all (bnom lo hi)

theorem Know.nom_at {lo hi : Nat} {K : Know} (h : K.nom lo hi = true) {j : Nat} {b : Blk} (hb : K.at j = some b) : nomL lo hi b.cells = true := by
  unfold Know.nom at h
  unfold Know.at at hb
  rw [Option.join_eq_some_iff] at hb
  exact List.all_eq_true.1 h _ (List.mem_of_getElem? hb)

def Env.upd (β : Env) (j : Nat) (r : Option Ref) : Env := fun k => if k = j then r else β k
theorem Env.agree_upd (β : Env) (j : Nat) (r : Option Ref) : Agree j (j + 1) β (β.upd j r) := by
  intro k hk; unfold Env.upd; rw [if_neg (by omega)]

/- making -/
theorem RelW.new {w0 : World} {rw : List Nat} {β : Env} {K : Know} {w : World} (h : RelW w0 rw β K w) (n : Nat) (hn : K.at n = none) (hK : K.nom n (n + 1) = true)
    {cells : List Atom} {cs : List Value} (hc : cons β cells cs) (hcn : nomL n (n + 1) cells = true) (arr : List Value) (ty : TypeId) (harr : ∀ (i : Nat) (v : Value), cs[i]? = some v → arr[i]? = some v) (hlen : cs.length ≤ arr.length) :
    RelW w0 rw (β.upd n (some ⟨w.heap.size, 0, arr.length⟩)) (K.set1 n (some ⟨true, cells⟩)) { w with heap := w.heap.push (.cells arr.toArray ty) } := by
  have hag := Env.agree_upd β n (some ⟨w.heap.size, 0, arr.length⟩)
  have hother : ∀ k, k ≠ n → (β.upd n (some ⟨w.heap.size, 0, arr.length⟩)) k = β k := fun k hk => by unfold Env.upd; rw [if_neg hk]
  have hself : (β.upd n (some ⟨w.heap.size, 0, arr.length⟩)) n = some ⟨w.heap.size, 0, arr.length⟩ := by unfold Env.upd; rw [if_pos rfl]
  have hold : ∀ b, b < w.heap.size → (w.heap.push (.cells arr.toArray ty))[b]? = w.heap[b]? := fun b hb => by
    rw [Array.getElem?_push, if_neg (Nat.ne_of_lt hb)]
  refine ⟨?_, ?_, ?_, ?_, ?_, ?_, h.os, h.tape, h.output⟩
  · intro k b hk
    rw [Know.at_set1] at hk
    by_cases hkn : k = n
    · subst hkn
      simp only [if_true, Option.some.injEq] at hk; subst hk
      refine ⟨cs, cons_agree hag hcn hc, .inr ⟨_, arr.toArray, ty, (0, 0), hself, by simp, by simp, by simpa using hlen, ?_, fun _ => rfl⟩⟩
      intro i v hv; simpa using harr i v hv
    · rw [if_neg hkn] at hk
      obtain ⟨cs', hc', hd⟩ := h.holds k b hk
      refine ⟨cs', cons_agree hag (Know.nom_at hK hk) hc', ?_⟩
      rcases hd with ⟨h1, h2⟩ | ⟨r, a', t', f', hr, hh, rest⟩
      · exact .inl ⟨h1, by rw [hother k hkn]; exact h2⟩
      · exact .inr ⟨r, a', t', f', by rw [hother k hkn]; exact hr, (hold _ (h.live k b r hk hr)).trans hh, rest⟩
  · intro a k b c r s ha hk ho hne hr hs
    rw [Know.at_set1] at ha hk
    by_cases han : a = n
    · subst han
      rw [hself] at hr; cases hr
      rw [if_neg (fun e => hne e.symm)] at hk
      rw [hother k (fun e => hne e.symm)] at hs
      have := h.live k c s hk hs
      exact fun e => by simp at e; omega
    · rw [if_neg han] at ha
      rw [hother a han] at hr
      by_cases hkn : k = n
      · subst hkn
        rw [hself] at hs; cases hs
        have := h.live a b r ha hr
        exact fun e => by simp at e; omega
      · rw [if_neg hkn] at hk
        rw [hother k hkn] at hs
        exact h.apart a k b c r s ha hk ho hne hr hs
  · intro x b r hx ho hr
    rw [Know.at_set1] at hx
    by_cases hxn : x = n
    · subst hxn; rw [hself] at hr; cases hr; exact .inl h.size
    · rw [if_neg hxn] at hx; rw [hother x hxn] at hr; exact h.mine x b r hx ho hr
  · intro x b r hx hr
    rw [Know.at_set1] at hx
    simp only [Array.size_push]
    by_cases hxn : x = n
    · subst hxn; rw [hself] at hr; cases hr; simp
    · rw [if_neg hxn] at hx; rw [hother x hxn] at hr; have := h.live x b r hx hr; omega
  · intro b hb hb2
    have := h.size
    rw [hold b (by omega)]; exact h.old b hb hb2
  · have := h.size
    simp only [Array.size_push]; omega

theorem RelW.drop {w0 : World} {rw : List Nat} {β : Env} {K : Know} {w : World} (h : RelW w0 rw β K w) (j : Nat) : RelW w0 rw β (K.set1 j none) w := by
  have key : ∀ x b, (K.set1 j none).at x = some b → K.at x = some b := by
    intro x b hx
    rw [Know.at_set1] at hx
    split at hx
    · simp at hx
    · exact hx
  exact ⟨fun k b hk => h.holds k b (key _ _ hk), fun a k b c r s ha hk => h.apart a k b c r s (key _ _ ha) (key _ _ hk), fun x b r hx => h.mine x b r (key _ _ hx), fun x b r hx => h.live x b r (key _ _ hx), h.old, h.size, h.os, h.tape, h.output⟩
end Go.Proofs.Ytepimglipelpmaa.X
