/- One state says what another says: slots and blocks forgotten, blocks named anew, nil made a row, memory taken in from outside. -/
import Derived.Test.YtepimglipelpmaaXL
namespace Go.Proofs.Ytepimglipelpmaa.X
open Go

/- renaming -/
def Atom.ren (ρ : Nat → Nat) : Atom → Atom
  | .p j c => .p (ρ j) c
  | .ps j c => .ps (ρ j) c
  | .sl j c l m => .sl (ρ j) c l m
  | .rs j c l z => .rs (ρ j) c l z
  | a => a
def V1.ren (ρ : Nat → Nat) : V1 → V1
  | .a x => .a (x.ren ρ)
  | .g l => .g (l.map (Atom.ren ρ))
def AV.ren (ρ : Nat → Nat) : AV → AV
  | .u => .u
  | .o x => .o (x.ren ρ)
  | .t l => .t (l.map (V1.ren ρ))
  | .f fn l => .f fn (l.map (V1.ren ρ))
def Blk.ren (ρ : Nat → Nat) (b : Blk) : Blk := ⟨b.own, b.cells.map (Atom.ren ρ)⟩

def Atom.allI (p : Nat → Bool) : Atom → Bool
  | .p j _ | .ps j _ | .sl j _ _ _ | .rs j _ _ _ => p j
  | _ => true
def V1.allI (p : Nat → Bool) : V1 → Bool
  | .a x => x.allI p
  | .g l => l.all (Atom.allI p)
def AV.allI (p : Nat → Bool) : AV → Bool
  | .u => true
  | .o x => x.allI p
  | .t l => l.all (V1.allI p)
  | .f _ l => l.all (V1.allI p)

section ren
variable {β β' : Env} {ρ : Nat → Nat} {p : Nat → Bool} (h : ∀ j, p j = true → β' (ρ j) = β j)
include h

theorem Atom.con_ren {a : Atom} (ha : a.allI p = true) {cs : List Value} (hc : a.con β cs) : (a.ren ρ).con β' cs := by
  cases a <;> simp only [Atom.allI, Atom.con, Atom.ren] at ha hc ⊢ <;> first | exact hc | (rw [h _ ha]; exact hc)
theorem cons_ren : ∀ {l : List Atom}, l.all (Atom.allI p) = true → ∀ {cs : List Value}, cons β l cs → cons β' (l.map (Atom.ren ρ)) cs
  | [], _, cs, hc => hc
  | a :: r, hn, cs, hc => by
    simp only [List.all_cons, Bool.and_eq_true] at hn
    obtain ⟨x, y, rfl, ha, hr⟩ := hc
    exact ⟨x, y, rfl, Atom.con_ren h hn.1 ha, cons_ren hn.2 hr⟩
theorem V1.con_ren {x : V1} (hn : x.allI p = true) {v : Value} (hc : x.con β v) : (x.ren ρ).con β' v := by
  cases x with
  | a x => exact Atom.con_ren h hn hc
  | g l => obtain ⟨cs, rfl, hc⟩ := hc; exact ⟨cs, rfl, cons_ren h hn hc⟩
theorem all2_ren : ∀ {l : List V1}, l.all (V1.allI p) = true → ∀ {vs : List Value}, all2 β l vs → all2 β' (l.map (V1.ren ρ)) vs
  | [], _, vs, hc => hc
  | x :: r, hn, vs, hc => by
    simp only [List.all_cons, Bool.and_eq_true] at hn
    obtain ⟨v, rest, rfl, hx, hr⟩ := hc
    exact ⟨v, rest, rfl, V1.con_ren h hn.1 hx, all2_ren hn.2 hr⟩
theorem AV.con_ren {x : AV} (hn : x.allI p = true) {v : Value} (hc : x.con β v) : (x.ren ρ).con β' v := by
  cases x with
  | u => trivial
  | o x => exact V1.con_ren h hn hc
  | t l => obtain ⟨vs, rfl, hc⟩ := hc; exact ⟨vs, rfl, all2_ren h hn hc⟩
  | f fn l => obtain ⟨vs, rfl, hc⟩ := hc; exact ⟨vs, rfl, all2_ren h hn hc⟩
end ren

theorem Atom.allI_true (a : Atom) : a.allI (fun _ => true) = true := by cases a <;> rfl
theorem V1.allI_true (a : V1) : a.allI (fun _ => true) = true := by
  cases a with
  | a x => exact x.allI_true
  | g l => exact List.all_eq_true.2 fun x _ => x.allI_true
theorem AV.allI_true (a : AV) : a.allI (fun _ => true) = true := by
  cases a with
  | u => rfl
  | o x => exact x.allI_true
  | t l => exact List.all_eq_true.2 fun x _ => x.allI_true
  | f _ l => exact List.all_eq_true.2 fun x _ => x.allI_true

/-- all that one state says, another says -/
def Weak (B : Bs) (st st' : St) : Prop := ∀ β a w, Rel B β st a w → ∃ β', Rel B β' st' a w

theorem Weak.refl {B : Bs} {st : St} : Weak B st st := fun β _ _ h => ⟨β, h⟩
theorem Weak.trans {B : Bs} {s1 s2 s3 : St} (h1 : Weak B s1 s2) (h2 : Weak B s2 s3) : Weak B s1 s3 := fun β a w h => by
  obtain ⟨β', h'⟩ := h1 β a w h
  exact h2 β' a w h'

def keepL (keep : List Nat) : Nat → List AV → List AV
  | _, [] => []
  | i, x :: r => (if keep.contains i then x else .u) :: keepL keep (i + 1) r

def forget (keep : List Nat) (m : Nat) (st : St) : St := ⟨keepL keep 0 st.slots, st.K.take m⟩

theorem keepL_getD (keep : List Nat) : ∀ (l : List AV) (i t : Nat), (keepL keep i l).getD t .u = if keep.contains (i + t) then l.getD t .u else .u
  | [], i, t => by simp [keepL]
  | x :: r, i, 0 => by simp [keepL]
  | x :: r, i, t + 1 => by
    have := keepL_getD keep r (i + 1) t
    simp only [keepL, List.getD_cons_succ]
    rw [this, show i + 1 + t = i + (t + 1) by omega]

theorem keepL_length (keep : List Nat) : ∀ (l : List AV) (i : Nat), (keepL keep i l).length = l.length
  | [], _ => rfl
  | x :: r, i => by simp [keepL, keepL_length keep r (i + 1)]

theorem Know.at_take (K : Know) (m j : Nat) (b : Blk) (h : Know.at (K.take m) j = some b) : K.at j = some b := by
  unfold Know.at at *
  rw [List.getElem?_take] at h
  split at h
  · exact h
  · simp at h

theorem RelW.less {w0 : World} {rw : List Nat} {β : Env} {K K' : Know} {w : World} (h : RelW w0 rw β K w) (hs : ∀ j b, K'.at j = some b → K.at j = some b) : RelW w0 rw β K' w :=
  ⟨fun j b hj => h.holds j b (hs j b hj), fun j k b c r s hj hk => h.apart j k b c r s (hs _ _ hj) (hs _ _ hk), fun j b r hj => h.mine j b r (hs _ _ hj), fun j b r hj => h.live j b r (hs _ _ hj), h.old, h.size, h.os, h.tape, h.output⟩

theorem forget_weak (B : Bs) (keep : List Nat) (m : Nat) (st : St) (hk : B.k ≤ (st.K.take m).length) : Weak B st (forget keep m st) := by
  intro β a w h
  refine ⟨β, h.relw.less fun j b hj => Know.at_take _ _ _ _ hj, h.defers, by rw [forget, keepL_length]; exact h.size, fun t => ?_, h.fix, hk⟩
  rw [forget, keepL_getD]
  split
  · simpa using h.slot t
  · trivial

/- blocks change places -/
def swp (i j t : Nat) : Nat := if t = i then j else if t = j then i else t
theorem swp_swp (i j t : Nat) : swp i j (swp i j t) = t := by unfold swp; repeat' split
                                                              all_goals omega
def swapK (i j : Nat) (K : Know) : Know := (List.range K.length).map fun t => (K.at (swp i j t)).map (Blk.ren (swp i j))
def swapSt (i j : Nat) (st : St) : St := ⟨st.slots.map (AV.ren (swp i j)), swapK i j st.K⟩

theorem swapK_at {i j : Nat} {K : Know} (hi : i < K.length) (hj : j < K.length) (t : Nat) : (swapK i j K).at t = (K.at (swp i j t)).map (Blk.ren (swp i j)) := by
  by_cases ht : t < K.length
  · have : (swapK i j K)[t]? = some ((K.at (swp i j t)).map (Blk.ren (swp i j))) := by
      unfold swapK; rw [List.getElem?_map, List.getElem?_range ht]; rfl
    show Option.join ((swapK i j K)[t]?) = _
    rw [this]; rfl
  · have : (swapK i j K)[t]? = none := List.getElem?_eq_none (by simp [swapK]; omega)
    show Option.join ((swapK i j K)[t]?) = _
    rw [this]
    have h2 : swp i j t = t := by unfold swp; rw [if_neg (by omega), if_neg (by omega)]
    rw [h2, at_ge (by omega)]; rfl

theorem swap_weak (B : Bs) (i j : Nat) (st : St) (hi : i < st.K.length) (hj : j < st.K.length) (hbi : B.k ≤ i) (hbj : B.k ≤ j) : Weak B st (swapSt i j st) := by
  intro β a w h
  have hr : ∀ t, (fun _ : Nat => true) t = true → (β ∘ swp i j) (swp i j t) = β t := fun t _ => by simp [swp_swp]
  have hinv : ∀ t, (β ∘ swp i j) t = β (swp i j t) := fun t => rfl
  have hat : ∀ t b, (swapSt i j st).K.at t = some b → ∃ c, st.K.at (swp i j t) = some c ∧ b = c.ren (swp i j) := by
    intro t b hb
    rw [show (swapSt i j st).K = swapK i j st.K from rfl, swapK_at hi hj] at hb
    cases hc : st.K.at (swp i j t) with
    | none => rw [hc] at hb; simp at hb
    | some c => rw [hc] at hb; simp at hb; exact ⟨c, rfl, hb.symm⟩
  refine ⟨β ∘ swp i j, ⟨?_, ?_, ?_, ?_, h.relw.old, h.relw.size, h.relw.os, h.relw.tape, h.relw.output⟩, h.defers, ?_, ?_, ?_, ?_⟩
  · intro t b hb
    obtain ⟨c, hc, rfl⟩ := hat t b hb
    obtain ⟨cs, h1, h2⟩ := h.relw.holds _ _ hc
    exact ⟨cs, cons_ren hr (List.all_eq_true.2 fun x _ => x.allI_true) h1, h2⟩
  · intro x y b c r s hx hy ho hne h1 h2
    obtain ⟨b', hb', rfl⟩ := hat x b hx
    obtain ⟨c', hc', rfl⟩ := hat y c hy
    exact h.relw.apart _ _ b' c' r s hb' hc' ho (fun e => hne (by rw [← swp_swp i j x, e, swp_swp])) h1 h2
  · intro x b r hx ho h1
    obtain ⟨b', hb', rfl⟩ := hat x b hx
    exact h.relw.mine _ b' r hb' ho h1
  · intro x b r hx h1
    obtain ⟨b', hb', rfl⟩ := hat x b hx
    exact h.relw.live _ b' r hb' h1
  · rw [h.size]; simp [swapSt]
  · intro t
    have hs := AV.con_ren hr (AV.allI_true _) (h.slot t)
    have e : (swapSt i j st).slots.getD t .u = (st.slots.getD t .u).ren (swp i j) := by
      simp only [swapSt, List.getD_eq_getElem?_getD, List.getElem?_map]
      cases st.slots[t]? <;> rfl
    rw [e]; exact hs
  · intro t ht
    rw [hinv]
    have : swp i j t = t := by unfold swp; rw [if_neg (by omega), if_neg (by omega)]
    rw [this]; exact h.fix t ht
  · show B.k ≤ (swapK i j st.K).length
    simp [swapK]; exact h.len

/- nil is an empty row -/
theorem rowNil (B : Bs) {st : St} (hn : st.K.nom st.K.length (st.K.length + 1) = true) (hs : st.slots.all (AV.nom st.K.length (st.K.length + 1)) = true) (k : IntKind) {β : Env} {a : Act} {w : World} (h : Rel B β st a w) :
    Rel B (β.upd st.K.length none) ⟨st.slots, st.K ++ [some ⟨true, [.ints k 0 []]⟩]⟩ a w := by
  have hag := Env.agree_upd β st.K.length none
  have hat : ∀ t b, Know.at (st.K ++ [some ⟨true, [.ints k 0 []]⟩]) t = some b → (t < st.K.length ∧ st.K.at t = some b) ∨ (t = st.K.length ∧ b = ⟨true, [.ints k 0 []]⟩) := by
    intro t b hb
    by_cases ht : t < st.K.length
    · left; refine ⟨ht, ?_⟩
      simpa [Know.at, List.getElem?_append_left ht] using hb
    · right
      unfold Know.at at hb
      rw [List.getElem?_append_right (by omega)] at hb
      by_cases he : t - st.K.length = 0
      · rw [he] at hb; simp at hb; exact ⟨by omega, hb.symm⟩
      · rw [List.getElem?_eq_none (by simp; omega)] at hb; simp at hb
  have hself : (β.upd st.K.length none) st.K.length = none := by unfold Env.upd; rw [if_pos rfl]
  have hoth : ∀ t, t < st.K.length → (β.upd st.K.length none) t = β t := fun t ht => by unfold Env.upd; rw [if_neg (by omega)]
  refine ⟨⟨?_, ?_, ?_, ?_, h.relw.old, h.relw.size, h.relw.os, h.relw.tape, h.relw.output⟩, h.defers, h.size, ?_, ?_, ?_⟩
  · intro t b hb
    rcases hat t b hb with ⟨ht, hb⟩ | ⟨rfl, rfl⟩
    · obtain ⟨cs, h1, h2⟩ := h.relw.holds t b hb
      refine ⟨cs, cons_agree hag (Know.nom_at hn hb) h1, ?_⟩
      rw [hoth t ht]; exact h2
    · exact ⟨[], ⟨[], [], rfl, ⟨rfl, rfl⟩, rfl⟩, .inl ⟨rfl, .inr hself⟩⟩
  · intro x y b c r s hx hy ho hne h1 h2
    rcases hat x b hx with ⟨hx', hb⟩ | ⟨rfl, rfl⟩
    · rcases hat y c hy with ⟨hy', hc⟩ | ⟨rfl, rfl⟩
      · rw [hoth _ hx'] at h1; rw [hoth _ hy'] at h2
        exact h.relw.apart x y b c r s hb hc ho hne h1 h2
      · rw [hself] at h2; cases h2
    · rw [hself] at h1; cases h1
  · intro x b r hx ho h1
    rcases hat x b hx with ⟨hx', hb⟩ | ⟨rfl, rfl⟩
    · rw [hoth _ hx'] at h1; exact h.relw.mine x b r hb ho h1
    · rw [hself] at h1; cases h1
  · intro x b r hx h1
    rcases hat x b hx with ⟨hx', hb⟩ | ⟨rfl, rfl⟩
    · rw [hoth _ hx'] at h1; exact h.relw.live x b r hb h1
    · rw [hself] at h1; cases h1
  · intro t
    by_cases ht : t < st.slots.length
    · refine AV.con_agree hag ?_ (h.slot t)
      have hm : st.slots.getD t .u ∈ st.slots := by rw [List.getD_eq_getElem?_getD, List.getElem?_eq_getElem ht]; exact List.getElem_mem ht
      exact List.all_eq_true.1 hs _ hm
    · have : st.slots.getD t .u = .u := by rw [List.getD_eq_getElem?_getD, List.getElem?_eq_none (by omega)]; rfl
      show AV.con _ (st.slots.getD t .u) _
      rw [this]; trivial
  · intro t ht
    rw [hoth t (Nat.lt_of_lt_of_le ht h.len)]; exact h.fix t ht
  · have := h.len; simp; omega

/-- the nil slice as a row in the empty block n -/
theorem nil_rs {β : Env} {n z : Nat} {cs : List Value} (h : cs = [.slice none 0 0]) : Atom.con β (.rs n 0 0 z) cs := ⟨none, 0, h, Nat.le_refl _, fun h => absurd h (by omega)⟩

def isNil : Atom → Bool
  | .raw (.slice none 0 0) => true
  | _ => false
theorem isNil_con {β : Env} {a : Atom} (h : isNil a = true) {cs : List Value} (hc : a.con β cs) : cs = [.slice none 0 0] := by
  unfold isNil at h
  split at h
  · exact hc.1
  · simp at h

def nilAV : AV → Bool
  | .o (.a x) => isNil x
  | _ => false
theorem nilAV_con {β : Env} {x : AV} (h : nilAV x = true) {v : Value} (hc : x.con β v) : v = .slice none 0 0 := by
  unfold nilAV at h
  split at h
  · have := isNil_con h hc; simpa using this
  · simp at h

def nilAt (cells : List Atom) (p : Nat) : Bool :=
  match cells[p]? with
  | some x => isNil x
  | none => false

theorem cons_setNil {β : Env} {n z : Nat} : ∀ {l : List Atom} {p : Nat}, nilAt l p = true → ∀ {cs : List Value}, cons β l cs → cons β (l.set p (.rs n 0 0 z)) cs
  | [], p, h, _, _ => by simp [nilAt] at h
  | a :: r, 0, h, cs, hc => by
    obtain ⟨x, y, rfl, ha, hr⟩ := hc
    exact ⟨x, y, rfl, nil_rs (isNil_con h ha), hr⟩
  | a :: r, p + 1, h, cs, hc => by
    obtain ⟨x, y, rfl, ha, hr⟩ := hc
    exact ⟨x, y, rfl, ha, cons_setNil (p := p) (by simpa [nilAt] using h) hr⟩

/-- memory outside of the known blocks -/
def ImpOk (B : Bs) (v : Value) (k : IntKind) (len cap : Nat) (L : List Int) : Prop :=
  ∃ base, v = .slice base len cap ∧ len ≤ cap ∧ L.length = len ∧ (0 < cap → ∃ b off arr ty fr, base = some ⟨b, off, none⟩ ∧ b < B.w0.heap.size ∧ b ∉ B.rw ∧ B.w0.heap[b]? = some (.cells arr ty fr) ∧ off + len ≤ arr.size ∧ ∀ i x, L[i]? = some x → arr[off + i]? = some (.int k x))

inductive Tr where
  | forget (keep : List Nat) (kb : Nat)
  | swap (i j : Nat)
  | rowS (t : Nat) (k : IntKind) (z : Nat)
  | rowB (j p : Nat) (k : IntKind) (z : Nat)
  | imp (t : Nat) (v : Value) (k : IntKind) (len cap : Nat) (L : List Int)
  | eqS (t : Nat) (x : AV)
  | eqB (j : Nat) (b : Blk)
  | slrs (t z : Nat)

def isSl (x : AV) : Option (Nat × Nat × Nat × Nat) :=
  match x with
  | .o (.a (.sl j c len cap)) => some (j, c, len, cap)
  | _ => none
theorem isSl_ok {x : AV} {j c len cap : Nat} (h : isSl x = some (j, c, len, cap)) : x = .o (.a (.sl j c len cap)) := by
  unfold isSl at h
  split at h
  · simp only [Option.some.injEq, Prod.mk.injEq] at h; obtain ⟨rfl, rfl, rfl, rfl⟩ := h; rfl
  · simp at h

def isRaw (x : AV) : Option Value :=
  match x with
  | .o (.a (.raw v)) => some v
  | _ => none

def Tr.app (B : Bs) (t : Tr) (st : St) : Option (Option Prop × St) :=
  match t with
  | .forget keep kb => if B.k ≤ (st.K.take kb).length then some (none, X.forget keep kb st) else none
  | .swap i j => if i < st.K.length ∧ j < st.K.length ∧ B.k ≤ i ∧ B.k ≤ j then some (none, swapSt i j st) else none
  | .rowS t k z =>
    if (nilAV (st.slots.getD t .u) && st.K.nom st.K.length (st.K.length + 1) && st.slots.all (AV.nom st.K.length (st.K.length + 1))) = true then
      some (none, ⟨st.slots.set t (.o (.a (.rs st.K.length 0 0 z))), st.K ++ [some ⟨true, [.ints k 0 []]⟩]⟩) else none
  | .rowB j p k z =>
    (match st.K.at j with
     | some b =>
       if (nilAt b.cells p && st.K.nom st.K.length (st.K.length + 1) && st.slots.all (AV.nom st.K.length (st.K.length + 1))) = true then
         some (none, ⟨st.slots, (Know.set1 (st.K ++ [some ⟨true, [.ints k 0 []]⟩]) j (some ⟨b.own, b.cells.set p (.rs st.K.length 0 0 z)⟩))⟩) else none
     | none => none)
  | .imp t v k len cap L =>
    (match isRaw (st.slots.getD t .u) with
     | some v' =>
       if (st.K.nom st.K.length (st.K.length + 1) && st.slots.all (AV.nom st.K.length (st.K.length + 1))) = true then
         some (some (v' = v ∧ ImpOk B v k len cap L), ⟨st.slots.set t (.o (.a (.sl st.K.length 0 len cap))), st.K ++ [some ⟨false, [.ints k len L]⟩]⟩) else none
     | none => none)
  | .eqS t x => some (some (st.slots.getD t .u = x), ⟨st.slots.set t x, st.K⟩)
  | .eqB j b => some (some (st.K.at j = some b), ⟨st.slots, st.K.set1 j (some b)⟩)
  | .slrs t z =>
    (match isSl (st.slots.getD t .u) with
     | some (j, c, len, cap) =>
       (match st.K.at j with
        | some b => if 0 < z then some (some (c + mulz cap z ≤ sizes b.cells), ⟨st.slots.set t (.o (.a (.rs j c len z))), st.K⟩) else none
        | none => none)
     | none => none)

theorem slots_nom {st : St} {lo hi : Nat} (hs : st.slots.all (AV.nom lo hi) = true) (t : Nat) : (st.slots.getD t .u).nom lo hi = true := by
  by_cases ht : t < st.slots.length
  · have hm : st.slots.getD t .u ∈ st.slots := by rw [List.getD_eq_getElem?_getD, List.getElem?_eq_getElem ht]; exact List.getElem_mem ht
    exact List.all_eq_true.1 hs _ hm
  · rw [List.getD_eq_getElem?_getD, List.getElem?_eq_none (by omega)]; rfl

theorem Rel.setSlot {B : Bs} {β : Env} {st : St} {a : Act} {w : World} (h : Rel B β st a w) {t : Nat} {x : AV} (hx : x.con β (a.tmps.getD t undef)) : Rel B β ⟨st.slots.set t x, st.K⟩ a w := by
  refine ⟨h.relw, h.defers, by rw [h.size]; simp, fun s => ?_, h.fix, h.len⟩
  by_cases hs : s = t
  · subst hs
    by_cases hl : s < st.slots.length
    · have : (st.slots.set s x).getD s .u = x := by rw [List.getD_eq_getElem?_getD, List.getElem?_set]; simp [hl]
      rw [this]; exact hx
    · have : (st.slots.set s x).getD s .u = .u := by rw [List.getD_eq_getElem?_getD, List.getElem?_eq_none (by simp; omega)]; rfl
      rw [this]; trivial
  · have : (st.slots.set t x).getD s .u = st.slots.getD s .u := by
      rw [List.getD_eq_getElem?_getD, List.getElem?_set, if_neg (fun e => hs e.symm), List.getD_eq_getElem?_getD]
    rw [this]; exact h.slot s

theorem RelW.recell {w0 : World} {rw : List Nat} {β : Env} {K : Know} {w : World} (h : RelW w0 rw β K w) {j : Nat} {b : Blk} (hb : K.at j = some b) {cells : List Atom} (hc : ∀ cs, cons β b.cells cs → cons β cells cs) :
    RelW w0 rw β (K.set1 j (some ⟨b.own, cells⟩)) w := by
  have hat : ∀ x c, (K.set1 j (some ⟨b.own, cells⟩)).at x = some c → ∃ d, K.at x = some d ∧ d.own = c.own ∧ ∀ cs, cons β d.cells cs → cons β c.cells cs := by
    intro x c hx
    rw [Know.at_set1] at hx
    split at hx
    · rename_i e; subst e; simp only [Option.some.injEq] at hx; subst hx; exact ⟨b, hb, rfl, hc⟩
    · exact ⟨c, hx, rfl, fun _ h => h⟩
  refine ⟨?_, ?_, ?_, ?_, h.old, h.size, h.os, h.tape, h.output⟩
  · intro x c hx
    obtain ⟨d, hd, ho, hcs⟩ := hat x c hx
    obtain ⟨cs, h1, h2⟩ := h.holds x d hd
    exact ⟨cs, hcs cs h1, by rw [← ho]; exact h2⟩
  · intro x y c d r s hx hy ho
    obtain ⟨c', hc', ho', _⟩ := hat x c hx
    obtain ⟨d', hd', _, _⟩ := hat y d hy
    exact h.apart x y c' d' r s hc' hd' (ho'.trans ho)
  · intro x c r hx ho
    obtain ⟨c', hc', ho', _⟩ := hat x c hx
    exact h.mine x c' r hc' (ho'.trans ho)
  · intro x c r hx
    obtain ⟨c', hc', _, _⟩ := hat x c hx
    exact h.live x c' r hc'

theorem isRaw_ok {x : AV} {v : Value} (h : isRaw x = some v) {β : Env} {y : Value} (hc : x.con β y) : y = v := by
  unfold isRaw at h
  split at h
  · simp only [Option.some.injEq] at h; subst h
    have := hc.1; simpa using this
  · simp at h

theorem at_append1 {K : Know} {x : Option Blk} {t : Nat} {b : Blk} (hb : Know.at (K ++ [x]) t = some b) : (t < K.length ∧ K.at t = some b) ∨ (t = K.length ∧ x = some b) := by
  by_cases ht : t < K.length
  · left; refine ⟨ht, ?_⟩
    simpa [Know.at, List.getElem?_append_left ht] using hb
  · right
    unfold Know.at at hb
    rw [List.getElem?_append_right (by omega)] at hb
    by_cases he : t - K.length = 0
    · rw [he] at hb; simp at hb; exact ⟨by omega, hb⟩
    · rw [List.getElem?_eq_none (by simp; omega)] at hb; simp at hb

theorem imp_weak (B : Bs) {st : St} (hn : st.K.nom st.K.length (st.K.length + 1) = true) (hs : st.slots.all (AV.nom st.K.length (st.K.length + 1)) = true) {v : Value} {k : IntKind} {len cap : Nat} {L : List Int}
    (hi : ImpOk B v k len cap L) {β : Env} {a : Act} {w : World} (h : Rel B β st a w) :
    ∃ β', Rel B β' ⟨st.slots, st.K ++ [some ⟨false, [.ints k len L]⟩]⟩ a w ∧ (AV.o (.a (.sl st.K.length 0 len cap))).con β' v := by
  obtain ⟨base, rfl, hlc, hL, hb⟩ := hi
  have gen : ∀ rr : Option Ref, (∀ r, rr = some r → r.blk < B.w0.heap.size ∧ r.blk ∉ B.rw) →
      ((∃ r arr ty fr, rr = some r ∧ w.heap[r.blk]? = some (.cells arr ty fr) ∧ arr.size = r.size ∧ r.off + len ≤ r.size ∧ ∀ i x, L[i]? = some x → arr[r.off + i]? = some (.int k x)) ∨ len = 0) →
      Rel B (β.upd st.K.length rr) ⟨st.slots, st.K ++ [some ⟨false, [.ints k len L]⟩]⟩ a w := by
    intro rr hrr hold
    have hag := Env.agree_upd β st.K.length rr
    have hself : (β.upd st.K.length rr) st.K.length = rr := by unfold Env.upd; rw [if_pos rfl]
    have hoth : ∀ t, t < st.K.length → (β.upd st.K.length rr) t = β t := fun t ht => by unfold Env.upd; rw [if_neg (by omega)]
    have hsz := h.relw.size
    refine ⟨⟨?_, ?_, ?_, ?_, h.relw.old, h.relw.size, h.relw.os, h.relw.tape, h.relw.output⟩, h.defers, h.size, ?_, ?_, ?_⟩
    · intro t b hb
      rcases at_append1 hb with ⟨ht, hb2⟩ | ⟨rfl, hb2⟩
      · obtain ⟨cs, h1, h2⟩ := h.relw.holds t b hb2
        refine ⟨cs, cons_agree hag (Know.nom_at hn hb2) h1, ?_⟩
        rw [hoth t ht]; exact h2
      · simp only [Option.some.injEq] at hb2; subst hb2
        refine ⟨L.map (Value.int k), ⟨_, [], by simp, ⟨hL, rfl⟩, rfl⟩, ?_⟩
        rcases hold with ⟨r, arr, ty, fr, hr, hh, hsz, hl, ha⟩ | h0
        · refine .inr ⟨r, arr, ty, fr, by rw [hself]; exact hr, hh, hsz, by simp; omega, ?_, fun h => by cases h⟩
          intro i x hx
          rw [List.getElem?_map, Option.map_eq_some_iff] at hx
          obtain ⟨y, hy, rfl⟩ := hx
          exact ha i y hy
        · have : L = [] := List.length_eq_zero_iff.1 (by omega)
          subst this
          exact .inl ⟨rfl, .inl rfl⟩
    · intro x y b c r s hx hy ho hne h1 h2
      rcases at_append1 hx with ⟨hx', hb⟩ | ⟨rfl, hb⟩
      · rw [hoth _ hx'] at h1
        rcases at_append1 hy with ⟨hy', hc⟩ | ⟨rfl, hc⟩
        · rw [hoth _ hy'] at h2
          exact h.relw.apart x y b c r s hb hc ho hne h1 h2
        · rw [hself] at h2
          obtain ⟨g1, g2⟩ := hrr s h2
          rcases h.relw.mine x b r hb ho h1 with h3 | h3
          · omega
          · intro e; rw [e] at h3; exact g2 h3
      · simp only [Option.some.injEq] at hb; subst hb; cases ho
    · intro x b r hx ho h1
      rcases at_append1 hx with ⟨hx', hb⟩ | ⟨rfl, hb⟩
      · rw [hoth _ hx'] at h1; exact h.relw.mine x b r hb ho h1
      · simp only [Option.some.injEq] at hb; subst hb; cases ho
    · intro x b r hx h1
      rcases at_append1 hx with ⟨hx', hb⟩ | ⟨rfl, hb⟩
      · rw [hoth _ hx'] at h1; exact h.relw.live x b r hb h1
      · rw [hself] at h1
        exact Nat.lt_of_lt_of_le (hrr r h1).1 h.relw.size
    · intro t
      exact AV.con_agree hag (slots_nom hs t) (h.slot t)
    · intro t ht
      rw [hoth t (Nat.lt_of_lt_of_le ht h.len)]; exact h.fix t ht
    · have := h.len; simp; omega
  by_cases hc : 0 < cap
  · obtain ⟨b, off, arr, ty, fr, rfl, h1, h2, h3, h4, h5⟩ := hb hc
    refine ⟨_, gen (some ⟨b, off, arr.size⟩) (fun r hr => by cases hr; exact ⟨h1, h2⟩) (.inl ⟨_, arr, ty, fr, rfl, ?_, rfl, h4, h5⟩), _, rfl, hlc, fun _ => ⟨⟨b, off, arr.size⟩, ?_, rfl⟩⟩
    · show w.heap[b]? = _
      rw [h.relw.old b h1 h2]; exact h3
    · show (β.upd st.K.length (some ⟨b, off, arr.size⟩)) st.K.length = _
      unfold Env.upd; rw [if_pos rfl]
  · refine ⟨_, gen none (fun r hr => by cases hr) (.inr (by omega)), base, rfl, hlc, fun h => absurd h hc⟩

theorem Tr.weak {B : Bs} {t : Tr} {st st' : St} {vc : Option Prop} (h : t.app B st = some (vc, st')) (hv : okP vc) : Weak B st st' := by
  cases t with
  | forget keep kb =>
    simp only [Tr.app] at h
    split at h
    · rename_i hk
      simp only [Option.some.injEq, Prod.mk.injEq] at h; obtain ⟨rfl, rfl⟩ := h
      exact forget_weak B keep kb st hk
    · simp at h
  | swap i j =>
    simp only [Tr.app] at h
    split at h
    · rename_i hk
      simp only [Option.some.injEq, Prod.mk.injEq] at h; obtain ⟨rfl, rfl⟩ := h
      exact swap_weak B i j st hk.1 hk.2.1 hk.2.2.1 hk.2.2.2
    · simp at h
  | rowS t k z =>
    simp only [Tr.app] at h
    split at h
    · rename_i hk
      simp only [Bool.and_eq_true] at hk
      simp only [Option.some.injEq, Prod.mk.injEq] at h; obtain ⟨rfl, rfl⟩ := h
      intro β a w hR
      have h1 := rowNil B hk.1.2 hk.2 k hR
      refine ⟨_, Rel.setSlot h1 ?_⟩
      exact nil_rs (by rw [nilAV_con hk.1.1 (hR.slot t)])
    · simp at h
  | rowB j p k z =>
    simp only [Tr.app] at h
    split at h
    · rename_i b hb
      split at h
      · rename_i hk
        simp only [Bool.and_eq_true] at hk
        simp only [Option.some.injEq, Prod.mk.injEq] at h; obtain ⟨rfl, rfl⟩ := h
        intro β a w hR
        have h1 := rowNil B hk.1.2 hk.2 k hR
        have hj : j < st.K.length := by
          rcases Nat.lt_or_ge j st.K.length with h | h
          · exact h
          · rw [at_ge h] at hb; simp at hb
        have hb' : Know.at (st.K ++ [some ⟨true, [.ints k 0 []]⟩]) j = some b := by
          unfold Know.at at hb ⊢
          rw [List.getElem?_append_left hj]; exact hb
        refine ⟨_, RelW.recell h1.relw hb' (fun cs hc => cons_setNil hk.1.1 hc), h1.defers, h1.size, h1.slot, h1.fix, ?_⟩
        exact Nat.le_trans h1.len (set1_length _ _ _)
      · simp at h
    · simp at h
  | imp t v k len cap L =>
    simp only [Tr.app] at h
    split at h
    · rename_i v' hr
      split at h
      · rename_i hk
        simp only [Bool.and_eq_true] at hk
        simp only [Option.some.injEq, Prod.mk.injEq] at h; obtain ⟨rfl, rfl⟩ := h
        intro β a w hR
        obtain ⟨rfl, hi⟩ := hv
        obtain ⟨β', h1, h2⟩ := imp_weak B hk.1 hk.2 hi hR
        refine ⟨β', Rel.setSlot h1 ?_⟩
        rw [isRaw_ok hr (hR.slot t)]; exact h2
      · simp at h
    · simp at h

  | eqS t x =>
    simp only [Tr.app, Option.some.injEq, Prod.mk.injEq] at h
    obtain ⟨rfl, rfl⟩ := h
    intro β a w hR
    refine ⟨β, Rel.setSlot hR ?_⟩
    have hv : st.slots.getD t .u = x := hv
    rw [← hv]; exact hR.slot t
  | eqB j b =>
    simp only [Tr.app, Option.some.injEq, Prod.mk.injEq] at h
    obtain ⟨rfl, rfl⟩ := h
    intro β a w hR
    have hv : st.K.at j = some b := hv
    exact ⟨β, RelW.recell hR.relw hv (fun cs hc => hc), hR.defers, hR.size, hR.slot, hR.fix, Nat.le_trans hR.len (set1_length _ _ _)⟩

  | slrs t z =>
    simp only [Tr.app] at h
    split at h
    · rename_i j c len cap hsl
      split at h
      · rename_i b hb
        split at h
        · rename_i hz
          simp only [Option.some.injEq, Prod.mk.injEq] at h
          obtain ⟨rfl, rfl⟩ := h
          have hv : c + mulz cap z ≤ sizes b.cells := hv
          intro β a w hR
          refine ⟨β, Rel.setSlot hR ?_⟩
          have h1 := hR.slot t
          rw [isSl_ok hsl] at h1
          obtain ⟨base, hvv, hlc, hbase⟩ := h1
          refine ⟨base, cap, hvv, hlc, fun h0 => ?_⟩
          obtain ⟨r, hr, hb0⟩ := hbase h0
          refine ⟨r, hr, hb0, ?_⟩
          obtain ⟨cs, hc, hd⟩ := hR.relw.holds j b hb
          have hl := cons_len hc
          rw [mulz_eq] at hv
          have hpos : 0 < cap * z := Nat.mul_pos h0 hz
          rcases hd with ⟨rfl, _⟩ | ⟨r', arr, ty, fr, g1, g2, g3, g4, _⟩
          · simp at hl; omega
          · rw [hr] at g1; cases g1; omega
        · simp at h
      · simp at h
    · simp at h

def trs (B : Bs) : List Tr → St → List Prop → Option (List Prop × St)
  | [], st, vc => some (vc, st)
  | t :: r, st, vc =>
    (match t.app B st with
     | some (p, st') => trs B r st' (consP p vc)
     | none => none)

theorem trs_weak {B : Bs} : ∀ {l : List Tr} {st st' : St} {vc vc' : List Prop}, trs B l st vc = some (vc', st') → AllP vc' → AllP vc ∧ Weak B st st'
  | [], st, st', vc, vc', h, hv => by
    simp only [trs, Option.some.injEq, Prod.mk.injEq] at h; obtain ⟨rfl, rfl⟩ := h; exact ⟨hv, Weak.refl⟩
  | t :: r, st, st', vc, vc', h, hv => by
    simp only [trs] at h
    split at h
    · rename_i p st1 h1
      obtain ⟨h2, h3⟩ := trs_weak h hv
      obtain ⟨h4, h5⟩ := consP_sub h2
      exact ⟨h5, (Tr.weak h1 h4).trans h3⟩
    · simp at h
end Go.Proofs.Ytepimglipelpmaa.X
