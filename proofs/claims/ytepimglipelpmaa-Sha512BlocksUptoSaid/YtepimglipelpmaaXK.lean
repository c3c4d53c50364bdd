/- Regions that draw their order, second part: every order. -/
import Derived.Test.YtepimglipelpmaaXJ
namespace Go.Proofs.Ytepimglipelpmaa.X
open Go

def lkCh (b : Nat) : List (Nat × Option Blk) → Option Blk → Option Blk
  | [], x => x
  | (j, y) :: r, x => lkCh b r (if b = j then y else x)

theorem app_at (b : Nat) : ∀ (ch : List (Nat × Option Blk)) (K : Know), (app K ch).at b = lkCh b ch (K.at b)
  | [], K => rfl
  | (j, y) :: r, K => by rw [app, app_at b r, Know.at_set1]; rfl

def touches (ch : List (Nat × Option Blk)) (b : Nat) : Bool := ch.any fun x => x.1 == b

theorem lkCh_un {b : Nat} : ∀ {ch : List (Nat × Option Blk)}, touches ch b = false → ∀ x, lkCh b ch x = x
  | [], _, _ => rfl
  | (j, y) :: r, h, x => by
    simp only [touches, List.any_cons, Bool.or_eq_false_iff, beq_eq_false_iff_ne] at h
    rw [lkCh, if_neg (fun e => h.1 e.symm)]
    exact lkCh_un h.2 x

theorem lkCh_const {b : Nat} : ∀ {ch : List (Nat × Option Blk)}, touches ch b = true → ∀ x y, lkCh b ch x = lkCh b ch y
  | [], h, _, _ => by simp [touches] at h
  | (j, z) :: r, h, x, y => by
    rw [lkCh, lkCh]
    by_cases hj : b = j
    · rw [if_pos hj, if_pos hj]
    · rw [if_neg hj, if_neg hj]
      refine lkCh_const ?_ x y
      simp only [touches, List.any_cons, Bool.or_eq_true, beq_iff_eq] at h
      exact h.resolve_left fun e => hj e.symm

def KSl (p : Nat → Bool) (b : Nat) : Nat → List Dop → Option Blk → Option Blk
  | _, [], x => x
  | k, d :: r, x => KSl p b (k + 1) r (if p k then lkCh b d.ch x else x)

theorem KSf_at (p : Nat → Bool) (b : Nat) : ∀ (D : List Dop) (k : Nat) (K : Know), (KSf p k D K).at b = KSl p b k D (K.at b)
  | [], k, K => rfl
  | d :: D, k, K => by
    simp only [KSf, KSl]
    rw [KSf_at p b D]
    split
    · rw [app_at]
    · rfl

theorem KSl_congr {p q : Nat → Bool} {b : Nat} : ∀ {D : List Dop} {k : Nat}, (∀ (m : Nat) (d : Dop), D[m]? = some d → p (k + m) ≠ q (k + m) → touches d.ch b = false) → ∀ x, KSl p b k D x = KSl q b k D x
  | [], _, _, _ => rfl
  | d :: D, k, h, x => by
    simp only [KSl]
    have h0 : (if p k then lkCh b d.ch x else x) = (if q k then lkCh b d.ch x else x) := by
      by_cases e : p k = q k
      · rw [e]
      · have := h 0 d rfl e
        rw [lkCh_un this]; simp
    rw [h0]
    exact KSl_congr (fun m d' hd he => h (m + 1) d' hd (by rw [show k + (m + 1) = k + 1 + m by omega]; exact he)) _

theorem KSl_un {p : Nat → Bool} {b : Nat} : ∀ {D : List Dop} {k : Nat}, (∀ (m : Nat) (d : Dop), D[m]? = some d → p (k + m) = true → touches d.ch b = false) → ∀ x, KSl p b k D x = x
  | [], _, _, _ => rfl
  | d :: D, k, h, x => by
    simp only [KSl]
    have h0 : (if p k then lkCh b d.ch x else x) = x := by
      cases hp : p k with
      | false => rfl
      | true => rw [lkCh_un (h 0 d rfl hp)]; simp
    rw [h0]
    exact KSl_un (fun m d' hd he => h (m + 1) d' hd (by rw [show k + (m + 1) = k + 1 + m by omega]; exact he)) _

def addS (S : Nat → Bool) (i : Nat) : Nat → Bool := fun j => if j = i then true else S j

theorem KSl_ins {S : Nat → Bool} {b i : Nat} {d : Dop} (hS : S i = false) : ∀ {D : List Dop} {k : Nat}, k ≤ i → D[i - k]? = some d → (touches d.ch b = false ∨ ∀ (m : Nat) (e : Dop), D[m]? = some e → i < k + m → S (k + m) = true → touches e.ch b = false) →
    ∀ x, KSl (addS S i) b k D x = lkCh b d.ch (KSl S b k D x)
  | [], k, _, h, _, x => by simp at h
  | e :: D, k, hk, h, hc, x => by
    by_cases he : k = i
    · subst he
      rw [Nat.sub_self, List.getElem?_cons_zero, Option.some.injEq] at h
      subst h
      simp only [KSl, hS, addS, if_true, Bool.false_eq_true, if_false]
      have hcg : ∀ x, KSl (addS S k) b (k + 1) D x = KSl S b (k + 1) D x := fun x => KSl_congr (fun m _ _ hne => by
        exfalso; apply hne; unfold addS; rw [if_neg (by omega)]) x
      rw [hcg]
      rcases hc with hc | hc
      · rw [lkCh_un hc, lkCh_un hc]
      · have hu : ∀ x, KSl S b (k + 1) D x = x := KSl_un (fun m e' hm hs => hc (m + 1) e' hm (by omega) (by rw [show k + (m + 1) = k + 1 + m by omega]; exact hs))
        rw [hu, hu]
    · simp only [KSl]
      have h1 : (if addS S i k then lkCh b e.ch x else x) = (if S k then lkCh b e.ch x else x) := by unfold addS; rw [if_neg he]
      rw [h1]
      refine KSl_ins hS (by omega) ?_ ?_ _
      · rw [show i - k = (i - (k + 1)) + 1 by omega, List.getElem?_cons_succ] at h; exact h
      · exact hc.imp id fun hc m e' hm hlt hs => hc (m + 1) e' hm (by omega) (by rw [show k + (m + 1) = k + 1 + m by omega]; exact hs)

def inR (d : Dop) (b : Nat) : Bool := decide (d.lo ≤ b ∧ b < d.lo + d.fr)

def Dop.idle (d : Dop) : Bool := d.ch.isEmpty && d.fr == 0

/-- the checks, k over the operations that touch or make blocks -/
def drawOk (ops : List Oper) (masks : List Nat) (slots : List AV) (hs : List (List Nat)) (K0 : Know) (D : List Dop) (n0 F : Nat) : Bool :=
  let N := D.length
  let ks := (List.range N).filter fun k => !(D.getD k (.none 0)).idle
  let m (i j : Nat) : Bool := (masks.getD i 0).testBit j
  (ops.length == N) && (K0.length == n0) &&
  (ops.zipIdx.all fun x => (directs x.1).all fun e => decide (e < x.2)) &&
  decide (ops.filterMap (·.dst)).Nodup &&
  (ops.all fun o => match o.dst with | some d => decide (d < slots.length) | none => true) &&
  (slots.all (AV.nom n0 (n0 + F))) && (K0.nom n0 (n0 + F)) &&
  (ks.all fun k =>
    let d := D.getD k (.none 0)
    decide (n0 ≤ d.lo ∧ d.lo + d.fr ≤ n0 + F) &&
    (ks.all fun j => j == k || ((D.getD j (.none 0)).ch.all fun x => !inR d x.1 || m j k)) &&
    (ks.all fun j => !(decide (j < k)) || !((D.getD j (.none 0)).ch.any fun x => touches d.ch x.1) || m k j) &&
    (ops.zipIdx.all fun x => !(memOp x.1.op) || x.2 == k || m x.2 k || m k x.2 || d.ch.all fun y => inR d y.1 || (hs.getD x.2 []).contains y.1) &&
    ((List.range N).all fun i => i == k || m i k || d.fr == 0 || ((D.getD i (.none 0)).val.nom d.lo (d.lo + d.fr) && (D.getD i (.none 0)).ch.all fun x => bnom d.lo (d.lo + d.fr) x.2)) &&
    (ks.all fun j => ops.zipIdx.all fun x => !(memOp x.1.op) || !(m x.2 j) || !(m j k) || m x.2 k))

structure DrawOk (ops : List Oper) (masks : List Nat) (slots : List AV) (hs : List (List Nat)) (K0 : Know) (D : List Dop) (n0 F : Nat) : Prop where
  len : ops.length = D.length
  k0 : K0.length = n0
  lt : ∀ (i : Nat) (o : Oper), ops[i]? = some o → ∀ e ∈ directs o, e < i
  nodup : (ops.filterMap (·.dst)).Nodup
  inb : ∀ (i : Nat) (o : Oper) (d : Tmp), ops[i]? = some o → o.dst = some d → d < slots.length
  slots : slots.all (AV.nom n0 (n0 + F)) = true
  know : K0.nom n0 (n0 + F) = true
  range : ∀ (k : Nat) (d : Dop), D[k]? = some d → d.fr ≠ 0 → n0 ≤ d.lo ∧ d.lo + d.fr ≤ n0 + F
  own : ∀ (k j : Nat) (d e : Dop), D[k]? = some d → D[j]? = some e → j ≠ k → ∀ b, touches e.ch b = true → inR d b = true → (masks.getD j 0).testBit k = true
  pair : ∀ (k j : Nat) (d e : Dop), D[k]? = some d → D[j]? = some e → j < k → ∀ b, touches e.ch b = true → touches d.ch b = true → (masks.getD k 0).testBit j = true
  mem : ∀ (k : Nat) (d : Dop) (i : Nat) (o : Oper), D[k]? = some d → ops[i]? = some o → memOp o.op = true → i ≠ k → ∀ b, touches d.ch b = true → (masks.getD i 0).testBit k = true ∨ (masks.getD k 0).testBit i = true ∨ inR d b = true ∨ b ∈ hs.getD i []
  nom : ∀ (k : Nat) (d : Dop) (i : Nat) (e : Dop), D[k]? = some d → D[i]? = some e → i ≠ k → (masks.getD i 0).testBit k = false → d.fr ≠ 0 → e.val.nom d.lo (d.lo + d.fr) = true ∧ ∀ x ∈ e.ch, bnom d.lo (d.lo + d.fr) x.2 = true
  trans : ∀ (k j : Nat) (d e : Dop) (i : Nat) (o : Oper), D[k]? = some d → D[j]? = some e → ops[i]? = some o → memOp o.op = true → (∃ b, touches d.ch b = true) → (∃ b, touches e.ch b = true) → (masks.getD i 0).testBit j = true → (masks.getD j 0).testBit k = true → (masks.getD i 0).testBit k = true

theorem touches_idle {d : Dop} {b : Nat} (h : touches d.ch b = true) : d.idle = false := by
  unfold Dop.idle
  cases hc : d.ch with
  | nil => rw [hc] at h; simp [touches] at h
  | cons a r => simp

theorem drawOk_ok {ops : List Oper} {masks : List Nat} {slots : List AV} {hs : List (List Nat)} {K0 : Know} {D : List Dop} {n0 F : Nat} (h : drawOk ops masks slots hs K0 D n0 F = true) : DrawOk ops masks slots hs K0 D n0 F := by
  unfold drawOk at h
  simp only [Bool.and_eq_true, beq_iff_eq, decide_eq_true_eq] at h
  obtain ⟨⟨⟨⟨⟨⟨⟨h1, h2⟩, h3⟩, h4⟩, h5⟩, h6⟩, h7⟩, h8⟩ := h
  have memks : ∀ (k : Nat) (d : Dop), D[k]? = some d → d.idle = false → k ∈ (List.range D.length).filter (fun k => !(D.getD k (.none 0)).idle) := by
    intro k d hk hi
    rw [List.mem_filter]
    refine ⟨List.mem_range.2 (List.getElem?_eq_some_iff.1 hk).1, ?_⟩
    rw [List.getD_eq_getElem?_getD, hk]; simp [hi]
  have gd : ∀ (k : Nat) (d : Dop), D[k]? = some d → D.getD k (.none 0) = d := by
    intro k d hk; rw [List.getD_eq_getElem?_getD, hk]; rfl
  have zi : ∀ {p : Oper × Nat → Bool}, ops.zipIdx.all p = true → ∀ (i : Nat) (o : Oper), ops[i]? = some o → p (o, i) = true := by
    intro p hp i o ho
    have := List.all_eq_true.1 hp (o, i)
    exact this (List.mk_mem_zipIdx_iff_getElem?.2 ho)
  have h8 := List.all_eq_true.1 h8
  refine ⟨h1, h2, ?_, h4, ?_, h6, h7, ?_, ?_, ?_, ?_, ?_, ?_⟩
  · intro i o ho e he
    have := zi h3 i o ho
    have := List.all_eq_true.1 this e he
    simpa using this
  · intro i o d ho hd
    have := List.all_eq_true.1 h5 o (List.mem_of_getElem? ho)
    rw [hd] at this; simpa using this
  · intro k d hk hfr
    have := h8 k (memks k d hk (by simp [Dop.idle, hfr]))
    simp only [Bool.and_eq_true, decide_eq_true_eq, gd k d hk] at this
    exact this.1.1.1.1.1
  · intro k j d e hk hj hne b hb hr
    have hid : d.idle = false := by
      unfold Dop.idle
      simp only [inR, decide_eq_true_eq] at hr
      have : d.fr ≠ 0 := by omega
      simp [this]
    have := h8 k (memks k d hk hid)
    simp only [Bool.and_eq_true, gd k d hk] at this
    have := List.all_eq_true.1 this.1.1.1.1.2 j (memks j e hj (touches_idle hb))
    rw [gd j e hj] at this
    simp only [Bool.or_eq_true, beq_iff_eq] at this
    rcases this with h | h
    · exact absurd h hne
    · unfold touches at hb
      obtain ⟨x, hx, hxb⟩ := List.any_eq_true.1 hb
      have := List.all_eq_true.1 h x hx
      simp only [beq_iff_eq] at hxb
      rw [hxb, hr] at this
      simpa using this
  · intro k j d e hk hj hlt b hb hb2
    have := h8 k (memks k d hk (touches_idle hb2))
    simp only [Bool.and_eq_true, gd k d hk] at this
    have := List.all_eq_true.1 this.1.1.1.2 j (memks j e hj (touches_idle hb))
    rw [gd j e hj] at this
    simp only [Bool.or_eq_true, Bool.not_eq_true', decide_eq_false_iff_not] at this
    rcases this with (h | h) | h
    · exact absurd hlt h
    · exfalso
      unfold touches at hb
      obtain ⟨x, hx, hxb⟩ := List.any_eq_true.1 hb
      have := List.any_eq_false.1 h x hx
      simp only [beq_iff_eq] at hxb
      rw [hxb] at this; exact this hb2
    · exact h
  · intro k d i o hk ho hm hne b hb
    have := h8 k (memks k d hk (touches_idle hb))
    simp only [Bool.and_eq_true, gd k d hk] at this
    have := zi this.1.1.2 i o ho
    simp only [hm, Bool.or_eq_true, Bool.not_true, Bool.false_eq_true, false_or, beq_iff_eq] at this
    rcases this with ((h | h) | h) | h
    · exact absurd h hne
    · exact .inl h
    · exact .inr (.inl h)
    · unfold touches at hb
      obtain ⟨x, hx, hxb⟩ := List.any_eq_true.1 hb
      have := List.all_eq_true.1 h x hx
      simp only [beq_iff_eq] at hxb
      rw [hxb] at this
      rw [Bool.or_eq_true] at this
      rcases this with this | this
      · exact .inr (.inr (.inl this))
      · exact .inr (.inr (.inr (by simpa using this)))
  · intro k d i e hk hi hne hb hfr
    have := h8 k (memks k d hk (by simp [Dop.idle, hfr]))
    simp only [Bool.and_eq_true, gd k d hk] at this
    have := List.all_eq_true.1 this.1.2 i (List.mem_range.2 (List.getElem?_eq_some_iff.1 hi).1)
    simp only [gd i e hi, hb, Bool.or_eq_true, beq_iff_eq, Bool.false_eq_true, or_false, Bool.and_eq_true] at this
    rcases this with (h | h) | h
    · exact absurd h hne
    · exact absurd h hfr
    · exact ⟨h.1, fun x hx => List.all_eq_true.1 h.2 x hx⟩
  · intro k j d e i o hk hj ho hm hd he h1 h2
    obtain ⟨b, hb⟩ := hd
    obtain ⟨b', hb'⟩ := he
    have := h8 k (memks k d hk (touches_idle hb))
    simp only [Bool.and_eq_true, gd k d hk] at this
    have := List.all_eq_true.1 this.2 j (memks j e hj (touches_idle hb'))
    have := zi this i o ho
    simp only [hm, h1, h2, Bool.not_true, Bool.false_or] at this
    exact this

def slotS (ops : List Oper) (slots : List AV) (D : List Dop) (S : Nat → Bool) (t : Tmp) : AV :=
  match wIdx ops t with
  | some j => if S j then (D.getD j (.none 0)).val else slots.getD t .u
  | none => slots.getD t .u

theorem wIdx_spec {ops : List Oper} {t : Tmp} {j : Nat} (h : wIdx ops t = some j) : ∃ o, ops[j]? = some o ∧ o.dst = some t := by
  unfold wIdx at h
  rw [List.findIdx?_eq_some_iff_getElem] at h
  obtain ⟨hlt, hp, _⟩ := h
  exact ⟨ops[j], List.getElem?_eq_getElem hlt, by simpa using hp⟩

theorem nodup_dst : ∀ {ops : List Oper}, (ops.filterMap (·.dst)).Nodup → ∀ {i j : Nat} {o o' : Oper} {t : Tmp}, ops[i]? = some o → ops[j]? = some o' → o.dst = some t → o'.dst = some t → i = j
  | [], _, i, j, o, o', t, hi, _, _, _ => by simp at hi
  | a :: r, hn, i, j, o, o', t, hi, hj, ho, ho' => by
    have mem : ∀ (q : Nat) (x : Oper), r[q]? = some x → x.dst = some t → t ∈ r.filterMap (·.dst) := by
      intro q x hq hx
      exact List.mem_filterMap.2 ⟨x, List.mem_of_getElem? hq, hx⟩
    cases ha : a.dst with
    | none =>
      have hn' : (r.filterMap (·.dst)).Nodup := by simpa [ha] using hn
      cases i with
      | zero => simp at hi; subst hi; rw [ha] at ho; cases ho
      | succ i =>
        cases j with
        | zero => simp at hj; subst hj; rw [ha] at ho'; cases ho'
        | succ j => exact congrArg (· + 1) (nodup_dst hn' (by simpa using hi) (by simpa using hj) ho ho')
    | some d =>
      have hn' : d ∉ r.filterMap (·.dst) ∧ (r.filterMap (·.dst)).Nodup := by
        have : (a :: r).filterMap (·.dst) = d :: r.filterMap (·.dst) := by simp [ha]
        rw [this] at hn; exact List.nodup_cons.1 hn
      cases i with
      | zero =>
        simp at hi; subst hi
        cases j with
        | zero => rfl
        | succ j =>
          rw [ha] at ho; cases ho
          exact absurd (mem j o' (by simpa using hj) ho') hn'.1
      | succ i =>
        cases j with
        | zero =>
          simp at hj; subst hj
          rw [ha] at ho'; cases ho'
          exact absurd (mem i o (by simpa using hi) ho) hn'.1
        | succ j => exact congrArg (· + 1) (nodup_dst hn'.2 (by simpa using hi) (by simpa using hj) ho ho')

theorem wIdx_of {ops : List Oper} (hn : (ops.filterMap (·.dst)).Nodup) {i : Nat} {o : Oper} {t : Tmp} (hi : ops[i]? = some o) (ht : o.dst = some t) : wIdx ops t = some i := by
  cases h : wIdx ops t with
  | none =>
    unfold wIdx at h
    rw [List.findIdx?_eq_none_iff] at h
    have := h o (List.mem_of_getElem? hi)
    simp [ht] at this
  | some j =>
    obtain ⟨o', ho', ht'⟩ := wIdx_spec h
    rw [nodup_dst hn ho' hi ht' ht]

structure Inv (B : Bs) (ops : List Oper) (slots : List AV) (K0 : Know) (D : List Dop) (S : Nat → Bool) (β : Env) (a : Act) (w : World) : Prop where
  relw : RelW B.w0 B.rw β (KSf S 0 D K0) w
  defers : a.defers = []
  size : a.tmps.size = slots.length
  slot : ∀ t, (slotS ops slots D S t).con β (a.tmps.getD t undef)
  fix : ∀ j, j < B.k → β j = B.β0 j

theorem RelW.congr {w0 : World} {rw : List Nat} {β : Env} {K K' : Know} {w : World} (h : RelW w0 rw β K w) (he : ∀ j, K'.at j = K.at j) : RelW w0 rw β K' w :=
  ⟨fun j b hj => h.holds j b (he j ▸ hj), fun j k b c r s hj hk => h.apart j k b c r s (he j ▸ hj) (he k ▸ hk), fun j b r hj => h.mine j b r (he j ▸ hj), fun j b r hj => h.live j b r (he j ▸ hj), h.old, h.size, h.os, h.tape, h.output⟩

theorem Know.nom_of_at {lo hi : Nat} {K : Know} (h : ∀ j b, K.at j = some b → nomL lo hi b.cells = true) : K.nom lo hi = true := by
  unfold Know.nom
  rw [List.all_eq_true]
  intro x hx
  cases x with
  | none => rfl
  | some b =>
    obtain ⟨j, hj⟩ := List.mem_iff_getElem?.1 hx
    exact h j b (by unfold Know.at; rw [hj]; rfl)

theorem KSl_bnom {p : Nat → Bool} {b lo hi : Nat} : ∀ {D : List Dop} {k : Nat} {x : Option Blk}, bnom lo hi x = true → (∀ (m : Nat) (d : Dop), D[m]? = some d → p (k + m) = true → ∀ y ∈ d.ch, bnom lo hi y.2 = true) → bnom lo hi (KSl p b k D x) = true
  | [], _, _, hx, _ => hx
  | d :: D, k, x, hx, h => by
    simp only [KSl]
    refine KSl_bnom ?_ fun m e hm hp => h (m + 1) e hm (by rw [show k + (m + 1) = k + 1 + m by omega]; exact hp)
    split
    · rename_i hp
      have key : ∀ (ch : List (Nat × Option Blk)) (x : Option Blk), bnom lo hi x = true → (∀ y ∈ ch, bnom lo hi y.2 = true) → bnom lo hi (lkCh b ch x) = true := by
        intro ch
        induction ch with
        | nil => intro x hx _; exact hx
        | cons a r ih =>
          intro x hx hch
          obtain ⟨j, y⟩ := a
          rw [lkCh]
          refine ih _ ?_ fun z hz => hch z (by simp [hz])
          split
          · exact hch (j, y) (by simp)
          · exact hx
      exact key _ _ hx (h 0 d rfl hp)
    · exact hx

section sound
variable {P : Program} {T : Tab} {Γ : Gam} {B : Bs}

theorem draw_step (hT : TabOk P T) (hΓ : GamOk P Γ) {ops : List Oper} {masks : List Nat} {slots : List AV} {hs : List (List Nat)} {K0 : Know} {D : List Dop} {n0 F : Nat} (hm : MaskOk ops masks) (hok : DrawOk ops masks slots hs K0 D n0 F) (hk : B.k ≤ n0)
    (hcert : ∀ i, i < ops.length → Cert T Γ ops masks slots hs K0 D i) {S : Nat → Bool} (hcl : Closed ops S) {i : Nat} (hS : S i = false) (hready : ∀ o, ops[i]? = some o → ∀ e ∈ directs o, S e = true)
    {β : Env} {a : Act} {w : World} (hI : Inv B ops slots K0 D S β a w) {Q : Exit → Act → World → Prop} {next : Act → World → Prop} (hlt : i < ops.length)
    (hnext : ∀ β' a' w', Inv B ops slots K0 D (addS S i) β' a' w' → next a' w') : wpOp P ops.toArray Q i next a w := by
  obtain ⟨o, d, ho, hd, hc⟩ := hcert i hlt
  -- i's forerunners are done
  have hbef : ∀ j, (masks.getD i 0).testBit j = true → S j = true := by
    intro j hj
    have hcl2 : Closed ops (addS S i) := by
      intro q oq hq hSq e he
      unfold addS at hSq ⊢
      by_cases hqi : q = i
      · subst hqi; split; rfl; exact hready oq hq e he
      · rw [if_neg hqi] at hSq; split; rfl; exact hcl q oq hq hSq e he
    have h1 := (hm i j hj).1 (addS S i) hcl2 (by unfold addS; rw [if_pos rfl])
    have h2 := (hm i j hj).2 hok.lt
    unfold addS at h1
    rw [if_neg (by omega)] at h1; exact h1
  have haft : ∀ j, S j = true → (masks.getD j 0).testBit i = false := by
    intro j hj
    cases hb : (masks.getD j 0).testBit i with
    | false => rfl
    | true => have := (hm j i hb).1 S hcl hj; rw [hS] at this; cases this
  have hsub : ∀ (q : Nat) (e : Dop), D[q]? = some e → q < ops.length := fun q e hq => by rw [hok.len]; exact (List.getElem?_eq_some_iff.1 hq).1
  -- putting a value
  have putOk : ∀ (β' : Env) (v : Value) (w' : World) (lo hi : Nat), Agree lo hi β β' → (hi ≤ lo ∨ (lo = d.lo ∧ hi = d.lo + d.fr ∧ d.fr ≠ 0)) → d.val.con β' v → RelW B.w0 B.rw β' (KSf (addS S i) 0 D K0) w' → Inv B ops slots K0 D (addS S i) β' (a.put o.dst v) w' := by
    intro β' v w' lo hi hag hlh hv hrel
    have hnomslots : ∀ t, (slotS ops slots D S t).nom lo hi = true := by
      intro t
      rcases hlh with hlh | ⟨rfl, rfl, hfr⟩
      · have : ∀ a : Atom, a.nom lo hi = true := by intro a; cases a <;> simp [Atom.nom]; all_goals omega
        have hL : ∀ l : List Atom, nomL lo hi l = true := by intro l; unfold nomL; rw [List.all_eq_true]; intro x _; exact this x
        have hV : ∀ v : V1, v.nom lo hi = true := by intro v; cases v <;> simp [V1.nom, this, hL]
        cases slotS ops slots D S t <;> simp [AV.nom, hV]
      · have hr := hok.range i d hd hfr
        have hinit : (slots.getD t .u).nom d.lo (d.lo + d.fr) = true := by
          by_cases ht : t < slots.length
          · have hmem : slots.getD t .u ∈ slots := by rw [List.getD_eq_getElem?_getD, List.getElem?_eq_getElem ht]; exact List.getElem_mem ht
            have := List.all_eq_true.1 hok.slots _ hmem
            have key : ∀ a : Atom, a.nom n0 (n0 + F) = true → a.nom d.lo (d.lo + d.fr) = true := by
              intro a; cases a <;> simp [Atom.nom]; all_goals omega
            have keyL : ∀ l : List Atom, nomL n0 (n0 + F) l = true → nomL d.lo (d.lo + d.fr) l = true := by
              intro l h; unfold nomL at *; rw [List.all_eq_true] at *; exact fun x hx => key x (h x hx)
            have keyV : ∀ v : V1, v.nom n0 (n0 + F) = true → v.nom d.lo (d.lo + d.fr) = true := by
              intro v; cases v; exact key _; exact keyL _
            cases hx : slots.getD t .u with
            | u => rfl
            | o x => rw [hx] at this; exact keyV _ this
            | t l => rw [hx] at this; simp only [AV.nom, List.all_eq_true] at this ⊢; exact fun x hx => keyV _ (this x hx)
            | f fn l => rw [hx] at this; simp only [AV.nom, List.all_eq_true] at this ⊢; exact fun x hx => keyV _ (this x hx)
          · rw [List.getD_eq_getElem?_getD, List.getElem?_eq_none (Nat.le_of_not_lt ht)]; rfl
        unfold slotS
        split
        · rename_i j hj
          split
          · rename_i hSj
            obtain ⟨oj, hoj, _⟩ := wIdx_spec hj
            have hjl : j < D.length := by rw [← hok.len]; exact (List.getElem?_eq_some_iff.1 hoj).1
            have hDj := List.getElem?_eq_getElem hjl
            rw [List.getD_eq_getElem?_getD, hDj]
            exact (hok.nom i d j _ hd hDj (fun e => by subst e; rw [hS] at hSj; cases hSj) (haft j hSj) hfr).1
          · exact hinit
        · exact hinit
    refine ⟨hrel, ?_, ?_, ?_, ?_⟩
    · cases o.dst <;> exact hI.defers
    · cases hdst : o.dst with
      | none => exact hI.size
      | some t => simp [Act.put, hI.size]
    · intro t
      have hold : (slotS ops slots D S t).con β' (a.tmps.getD t undef) := AV.con_agree hag (hnomslots t) (hI.slot t)
      by_cases ht : o.dst = some t
      · have hw := wIdx_of hok.nodup ho ht
        have hin := hok.inb i o t ho ht
        unfold slotS
        rw [hw]
        simp only [addS, if_true]
        rw [List.getD_eq_getElem?_getD, hd, ht]
        have : (a.put (some t) v).tmps.getD t undef = v := by simp [Act.put, hI.size, hin]
        rw [this]; exact hv
      · have h1 : (a.put o.dst v).tmps.getD t undef = a.tmps.getD t undef := by
          cases hdst : o.dst with
          | none => rfl
          | some q =>
            have hne : q ≠ t := fun e => ht (by rw [hdst, e])
            simp [Act.put, Array.getElem?_setIfInBounds_ne hne]
        rw [h1]
        have h2 : slotS ops slots D (addS S i) t = slotS ops slots D S t := by
          unfold slotS
          split
          · rename_i j hj
            have hji : j ≠ i := by
              intro e; subst e
              obtain ⟨oj, hoj, hdj⟩ := wIdx_spec hj
              rw [ho] at hoj; cases hoj; exact ht hdj
            unfold addS; rw [if_neg hji]
          · rfl
        rw [h2]; exact hold
    · intro j hj
      rcases hlh with hlh | ⟨rfl, rfl, hfr⟩
      · rw [hag j (by omega)]; exact hI.fix j hj
      · have := (hok.range i d hd hfr).1
        rw [hag j (.inl (by omega))]; exact hI.fix j hj
  have hDlt : i < D.length := by rw [← hok.len]; exact hlt
  -- the blocks behind it
  have hins : ∀ b, (KSf (addS S i) 0 D K0).at b = lkCh b d.ch ((KSf S 0 D K0).at b) := by
    intro b
    rw [KSf_at, KSf_at]
    refine KSl_ins hS (Nat.zero_le _) (by simpa using hd) ?_ _
    cases ht : touches d.ch b with
    | false => exact .inl rfl
    | true =>
      refine .inr fun m e hm hlt' hSm => ?_
      cases ht' : touches e.ch b with
      | false => rfl
      | true =>
        simp only [Nat.zero_add] at hlt' hSm
        have := hok.pair m i e d hm hd hlt' b ht ht'
        rw [haft m hSm] at this; cases this
  unfold wpOp
  have hoa : ops.toArray[i]? = some o := by simpa using ho
  rw [hoa]
  simp only
  have yield : ∀ (j : Nat) (x : Bool), (masks.getD i 0).testBit j = true → ((ops[j]?).bind (·.dst)).isSome = true → boolD D j = some x → yielded ops.toArray a.tmps j = some x := by
    intro j x hj hdj hx
    cases hoj : ops[j]? with
    | none => rw [hoj] at hdj; simp at hdj
    | some oj =>
      rw [hoj] at hdj
      simp only [Option.bind_some] at hdj
      obtain ⟨t, ht⟩ := Option.isSome_iff_exists.1 hdj
      have hw := wIdx_of hok.nodup hoj ht
      have hcon := hI.slot t
      unfold slotS at hcon
      rw [hw] at hcon
      simp only [hbef j hj, if_true] at hcon
      unfold boolD at hx
      split at hx
      · rename_i y hy
        simp only [Option.some.injEq] at hx; subst hx
        rw [hy] at hcon
        simp only [AV.con, V1.con, Atom.con, List.cons.injEq, and_true] at hcon
        have hlt' : t < a.tmps.size := by rw [hI.size]; exact hok.inb j oj t hoj ht
        have e : a.tmps.getD t undef = a.tmps[t] := by simp [hlt']
        rw [e] at hcon
        unfold yielded
        have h1 : (ops.toArray[j]?).bind (·.dst) = some t := by simp [hoj, ht]
        rw [h1]
        simp [hlt', hcon]
      · simp at hx
  rcases hc with ⟨hg, bit, r, hr, hvc, hdr⟩ | ⟨⟨j, want, hg, hj, hdj, hx⟩, hdr⟩
  · have hwant : Region.wanted o (yielded ops.toArray a.tmps) = true := by
      unfold Region.wanted
      rcases hg with hg | ⟨j, want, hg, hj, hdj, hx⟩
      · rw [hg]
      · rw [hg]; simp [yield j want hj hdj hx]
    rw [if_pos hwant]
    left
    have hfre : d.fr = r.fr := by rw [hdr]
    have hche : d.ch = r.ch := by rw [hdr]
    have hvale : d.val = r.val := by rw [hdr]
    -- what it sees is known
    have hknow : Knows (viewD masks hs K0 D i o.op) (KSf S 0 D K0) := by
      unfold viewD
      cases hmo : memOp o.op with
      | false => intro j b hb; simp [Know.at] at hb
      | true =>
        simp only [if_true]
        intro b blk hb
        obtain ⟨hb, hnot⟩ := hide_at _ _ _ _ hb
        rw [KSf_at] at hb ⊢
        rw [← hb]
        refine KSl_congr (fun m e hm' hne => ?_) _
        simp only [Nat.zero_add] at hne
        cases ht : touches e.ch b with
        | false => rfl
        | true =>
          exfalso
          -- m is done, but no forerunner of i
          have hpm : (masks.getD i 0).testBit m = false ∧ S m = true := by
            cases h1 : (masks.getD i 0).testBit m with
            | true => rw [h1, hbef m h1] at hne; exact absurd rfl hne
            | false =>
              rw [h1] at hne
              cases h2 : S m with
              | true => exact ⟨rfl, rfl⟩
              | false => rw [h2] at hne; exact absurd rfl hne
          have hmi : i ≠ m := by intro e'; subst e'; rw [hS] at hpm; cases hpm.2
          rcases hok.mem m e i o hm' ho hmo hmi b ht with h | h | h | h
          · rw [hpm.1] at h; cases h
          · rw [haft m hpm.2] at h; cases h
          · have hfr : e.fr ≠ 0 := by simp only [inR, decide_eq_true_eq] at h; omega
            have hb0 : n0 ≤ b := by
              have := (hok.range m e hm' hfr).1
              simp only [inR, decide_eq_true_eq] at h; omega
            have hK0 : K0.at b = none := at_ge (by rw [hok.k0]; exact hb0)
            rw [KSl_un (fun q f hq hpq => ?_), hK0] at hb
            · cases hb
            · simp only [Nat.zero_add] at hpq
              cases htf : touches f.ch b with
              | false => rfl
              | true =>
                exfalso
                by_cases hqm : q = m
                · subst hqm; rw [hpm.1] at hpq; cases hpq
                · have h3 := hok.own m q e f hm' hq hqm b htf h
                  have h4 := hok.trans m q e f i o hm' hq ho hmo ⟨b, ht⟩ ⟨b, htf⟩ hpq h3
                  rw [hpm.1] at h4; cases h4
          · exact hnot h
    have hr' := opx_mono hΓ hknow hr
    refine opx_wp hT hΓ hr' hvc ?_ hI.relw ?_ ?_ ?_
    · intro x
      cases x with
      | tmp t =>
        have hs := hI.slot t
        unfold slotS at hs
        show AV.con β (rhoD ops masks slots D i (.tmp t)) (a.tmps.getD t undef)
        simp only [rhoD]
        split
        · rename_i hw; rw [hw] at hs; exact hs
        · rename_i j hw
          rw [hw] at hs
          simp only at hs
          split
          · rename_i hb; rw [hbef j hb] at hs; exact hs
          · split
            · rename_i hb
              have hSj : S j = false := by
                rcases hb with rfl | hb
                · exact hS
                · cases hSj : S j with
                  | false => rfl
                  | true => rw [haft j hSj] at hb; cases hb
              rw [hSj] at hs; exact hs
            · trivial
      | const v => exact constAV_con v
      | global g => exact ⟨rfl, rfl⟩
      | func f => exact ⟨[], rfl, rfl⟩
    · intro q hq
      have hfr : d.fr ≠ 0 := by omega
      have hrange := hok.range i d hd hfr
      rw [KSf_at]
      rw [KSl_un (fun m e hm' hSm => ?_)]
      · exact at_ge (by rw [hok.k0]; omega)
      · simp only [Nat.zero_add] at hSm
        cases ht : touches e.ch (d.lo + q) with
        | false => rfl
        | true =>
          have hmi : m ≠ i := by intro e'; subst e'; rw [hS] at hSm; cases hSm
          have := hok.own i m d e hd hm' hmi _ ht (by simp only [inR, decide_eq_true_eq]; omega)
          rw [haft m hSm] at this; cases this
    · by_cases hfr : d.fr = 0
      · have : ∀ a : Atom, a.nom d.lo (d.lo + r.fr) = true := by intro a; cases a <;> simp [Atom.nom]; all_goals omega
        exact Know.nom_of_at fun j b _ => by unfold nomL; rw [List.all_eq_true]; intro x _; exact this x
      · have hrange := hok.range i d hd hfr
        refine Know.nom_of_at fun j b hb => ?_
        rw [KSf_at] at hb
        have hx0 : bnom d.lo (d.lo + r.fr) (K0.at j) = true := by
          cases hk0 : K0.at j with
          | none => rfl
          | some b0 =>
            have := Know.nom_at hok.know hk0
            show nomL d.lo (d.lo + r.fr) b0.cells = true
            unfold nomL at *
            rw [List.all_eq_true] at *
            intro x hx
            have := this x hx
            revert this
            cases x <;> simp [Atom.nom]; all_goals omega
        have := KSl_bnom (p := S) (b := j) (k := 0) (D := D) hx0 (fun m e hm' hSm y hy => by
          simp only [Nat.zero_add] at hSm
          have hmi : m ≠ i := by intro e'; subst e'; rw [hS] at hSm; cases hSm
          have := (hok.nom i d m e hd hm' hmi (haft m hSm) hfr).2 y hy
          rw [hfre] at this; exact this)
        rw [hb] at this
        exact this
    · intro β' v w' hag hcon hrel
      have hcg : RelW B.w0 B.rw β' (KSf (addS S i) 0 D K0) w' := hrel.congr fun j => by rw [hins j, app_at, hche]
      refine hnext β' _ w' (putOk β' v w' d.lo (d.lo + d.fr) (by rw [hfre]; exact hag) ?_ (by rw [hvale]; exact hcon) hcg)
      by_cases hfr : d.fr = 0
      · exact .inl (by omega)
      · exact .inr ⟨rfl, rfl, hfr⟩
  · have hwant : Region.wanted o (yielded ops.toArray a.tmps) = false := by
      unfold Region.wanted
      rw [hg]; simp [yield j _ hj hdj hx]
    rw [if_neg (by simp [hwant])]
    have hcg : RelW B.w0 B.rw β (KSf (addS S i) 0 D K0) w := hI.relw.congr fun j => by rw [hins j, hdr]; rfl
    exact hnext β _ w (putOk β undef w 0 0 (agree_refl _ _ _) (.inl (Nat.le_refl _)) (by rw [hdr]; trivial) hcg)
end sound
end Go.Proofs.Ytepimglipelpmaa.X
