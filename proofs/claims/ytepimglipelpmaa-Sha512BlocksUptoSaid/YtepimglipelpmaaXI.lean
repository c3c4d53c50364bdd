/- Regions, in the text's order, and what a state of the walk says. -/
import Derived.Test.YtepimglipelpmaaXH
namespace Go.Proofs.Ytepimglipelpmaa.X
open Go

structure St where
  slots : List AV
  K : Know

structure Bs where
  w0 : World
  rw : List Nat
  k : Nat
  β0 : Env

structure Rel (B : Bs) (β : Env) (st : St) (a : Act) (w : World) : Prop where
  relw : RelW B.w0 B.rw β st.K w
  defers : a.defers = []
  size : a.tmps.size = st.slots.length
  slot : ∀ t, (st.slots.getD t .u).con β (a.tmps.getD t undef)
  fix : ∀ j, j < B.k → β j = B.β0 j
  len : B.k ≤ st.K.length

def put (slots : List AV) (dst : Option Tmp) (v : AV) : List AV :=
  match dst with
  | some d => slots.set d v
  | none => slots

theorem set1_length (K : Know) (j : Nat) (b : Option Blk) : K.length ≤ (K.set1 j b).length := by
  unfold Know.set1
  split
  · simp
  · simp

theorem app_length : ∀ (ch : List (Nat × Option Blk)) (K : Know), K.length ≤ (app K ch).length
  | [], _ => Nat.le_refl _
  | (j, b) :: r, K => Nat.le_trans (set1_length K j b) (app_length r _)

theorem at_ge {K : Know} {i : Nat} (h : K.length ≤ i) : K.at i = none := by
  unfold Know.at; rw [List.getElem?_eq_none h]; rfl

theorem Rel.put {B : Bs} {β β' : Env} {st : St} {a : Act} {w w' : World} (h : Rel B β st a w) {K' : Know} {dst : Option Tmp} {x : AV} {v : Value} {lo hi : Nat} (hag : Agree lo hi β β') (hlo : B.k ≤ lo)
    (hs : hi ≤ lo ∨ st.slots.all (AV.nom lo hi) = true) (hx : x.con β' v) (hw : RelW B.w0 B.rw β' K' w') (hl : st.K.length ≤ K'.length) : Rel B β' ⟨X.put st.slots dst x, K'⟩ (a.put dst v) w' := by
  have hslot : ∀ t, (st.slots.getD t .u).con β' (a.tmps.getD t undef) := by
    intro t
    refine AV.con_agree hag ?_ (h.slot t)
    by_cases ht : t < st.slots.length
    · have hm : st.slots.getD t .u ∈ st.slots := by rw [List.getD_eq_getElem?_getD, List.getElem?_eq_getElem ht]; exact List.getElem_mem ht
      rcases hs with hs | hs
      · have : ∀ a : Atom, a.nom lo hi = true := by intro a; cases a <;> simp [Atom.nom]; all_goals omega
        have hL : ∀ l : List Atom, nomL lo hi l = true := by intro l; unfold nomL; rw [List.all_eq_true]; intro x _; exact this x
        have hV : ∀ v : V1, v.nom lo hi = true := by intro v; cases v <;> simp [V1.nom, this, hL]
        cases st.slots.getD t .u <;> simp [AV.nom, hV]
      · exact List.all_eq_true.1 hs _ hm
    · rw [List.getD_eq_getElem?_getD, List.getElem?_eq_none (by omega)]; rfl
  refine ⟨hw, ?_, ?_, ?_, ?_, ?_⟩
  · cases dst <;> exact h.defers
  · cases dst with
    | none => exact h.size
    | some d => simp [Act.put, X.put, h.size]
  · intro t
    cases dst with
    | none => exact hslot t
    | some d =>
      simp only [Act.put, X.put]
      by_cases hd : d = t
      · subst hd
        by_cases hlt : d < st.slots.length
        · rw [List.getD_eq_getElem?_getD, List.getElem?_set_self hlt]
          have : (a.tmps.setIfInBounds d v).getD d undef = v := by simp [h.size, hlt]
          rw [this]; exact hx
        · have hge : (st.slots.set d x).length ≤ d := by rw [List.length_set]; exact Nat.le_of_not_lt hlt
          have : (st.slots.set d x).getD d .u = .u := by rw [List.getD_eq_getElem?_getD, List.getElem?_eq_none hge]; rfl
          rw [this]; trivial
      · rw [List.getD_eq_getElem?_getD, List.getElem?_set_ne hd, ← List.getD_eq_getElem?_getD]
        have : (a.tmps.setIfInBounds d v).getD t undef = a.tmps.getD t undef := by
          simp [Array.getElem?_setIfInBounds_ne hd]
        rw [this]; exact hslot t
  · intro j hj
    rw [hag j (.inl (by omega))]; exact h.fix j hj
  · exact Nat.le_trans h.len hl

def consP (p : Option Prop) (l : List Prop) : List Prop :=
  match p with
  | some p => p :: l
  | none => l

def needsBit : Op → Bool
  | .pick .. => true
  | .call ⟨.builtin .append, _, _⟩ => true
  | _ => false

structure Out where
  ora : List Bool
  vc : List Prop
  st : St

section exec
variable (T : Tab) (Γ : Gam)

def step1 (o : Oper) (bit : Bool) (st : St) (vc : List Prop) : Option (List Prop × St) :=
  match opx T Γ (ev st.slots) st.K st.K.length bit o.op with
  | none => none
  | some r =>
    match r.fr with
    | 0 => some (consP r.vc vc, ⟨put st.slots o.dst r.val, app st.K r.ch⟩)
    | fr + 1 =>
      if st.slots.all (AV.nom st.K.length (st.K.length + (fr + 1))) = true ∧ st.K.nom st.K.length (st.K.length + (fr + 1)) = true then
        some (consP r.vc vc, ⟨put st.slots o.dst r.val, app st.K r.ch⟩)
      else none

def guardOf (ops : List Oper) (j : Nat) (slots : List AV) : Option Bool :=
  match (ops[j]?).bind (·.dst) with
  | some d => (match slots.getD d .u with
    | .o (.a (.b x)) => some x
    | _ => none)
  | none => none

def execOps (ops : List Oper) : List Oper → List Bool → St → List Prop → Option Out
  | [], ora, st, vc => some ⟨ora, vc, st⟩
  | o :: rest, ora, st, vc =>
    match o.guard with
    | none =>
      (match needsBit o.op, ora with
       | true, b :: ora => (match step1 T Γ o b st vc with
         | some (vc, st) => execOps ops rest ora st vc
         | none => none)
       | true, [] => none
       | false, ora => (match step1 T Γ o false st vc with
         | some (vc, st) => execOps ops rest ora st vc
         | none => none))
    | some (j, want) =>
      (match ora, guardOf ops j st.slots with
       | true :: ora, some x =>
         (match needsBit o.op, ora with
          | true, b :: ora => (match step1 T Γ o b st ((x = want) :: vc) with
            | some (vc, st) => execOps ops rest ora st vc
            | none => none)
          | true, [] => none
          | false, ora => (match step1 T Γ o false st ((x = want) :: vc) with
            | some (vc, st) => execOps ops rest ora st vc
            | none => none))
       | false :: ora, some x => execOps ops rest ora ⟨put st.slots o.dst .u, st.K⟩ ((x = !want) :: vc)
       | _, _ => none)
end exec

def AllP (l : List Prop) : Prop := ∀ p ∈ l, p

theorem consP_sub {p : Option Prop} {l : List Prop} (h : AllP (consP p l)) : okP p ∧ AllP l := by
  cases p with
  | none => exact ⟨trivial, h⟩
  | some p => exact ⟨h p (by simp [consP]), fun q hq => h q (by simp [consP, hq])⟩

section sound
variable {P : Program} {T : Tab} {Γ : Gam} {B : Bs}

theorem step1_vc {o : Oper} {bit : Bool} {st st' : St} {vc vc' : List Prop} (h : step1 T Γ o bit st vc = some (vc', st')) (hvc : AllP vc') : AllP vc := by
  unfold step1 at h
  split at h
  · simp at h
  · split at h
    · simp only [Option.some.injEq, Prod.mk.injEq] at h; obtain ⟨rfl, rfl⟩ := h; exact (consP_sub hvc).2
    · split at h
      · simp only [Option.some.injEq, Prod.mk.injEq] at h; obtain ⟨rfl, rfl⟩ := h; exact (consP_sub hvc).2
      · simp at h

theorem step1_sound (hT : TabOk P T) (hΓ : GamOk P Γ) {o : Oper} {bit : Bool} {st st' : St} {vc vc' : List Prop} (h : step1 T Γ o bit st vc = some (vc', st')) (hvc : AllP vc') {β : Env} {a : Act} {w : World} (hR : Rel B β st a w)
    {next : Act → World → Prop} {Q : Exit → Act → World → Prop} (hnext : ∀ β' a' w', Rel B β' st' a' w' → next a' w') : o.wp P a w next Q := by
  unfold step1 at h
  split at h
  · simp at h
  · rename_i r hr
    have main : ∀ lo hi, lo = st.K.length → hi = st.K.length + r.fr → (hi ≤ lo ∨ (st.slots.all (AV.nom lo hi) = true ∧ st.K.nom lo hi = true)) → (consP r.vc vc, (⟨put st.slots o.dst r.val, app st.K r.ch⟩ : St)) = (vc', st') → o.wp P a w next Q := by
      intro lo hi hlo hhi hs heq
      simp only [Prod.mk.injEq] at heq
      obtain ⟨rfl, rfl⟩ := heq
      have h1 := (consP_sub hvc).1
      subst hlo
      have hKn : st.K.nom st.K.length (st.K.length + r.fr) = true := by
        rcases hs with hs | hs
        · have : ∀ a : Atom, a.nom st.K.length (st.K.length + r.fr) = true := by intro a; cases a <;> simp [Atom.nom]; all_goals omega
          unfold Know.nom
          rw [List.all_eq_true]
          intro b _
          cases b with
          | none => rfl
          | some b => unfold bnom nomL; rw [List.all_eq_true]; intro x _; exact this x
        · rw [hhi] at hs; exact hs.2
      refine opx_wp hT hΓ hr h1 (fun x => ev_con hR.slot x) hR.relw (fun i _ => at_ge (by omega)) hKn ?_
      intro β' v w' hag hcon hrel
      exact hnext β' _ w' (hR.put (lo := st.K.length) (hi := st.K.length + r.fr) hag hR.len (hs.imp (by rw [hhi]; exact id) (by rw [hhi]; exact fun h => h.1)) hcon hrel (app_length _ _))
    split at h
    · rename_i hfr
      simp only [Option.some.injEq] at h
      exact main _ _ rfl rfl (.inl (by omega)) h
    · rename_i fr hfr
      split at h
      · rename_i hc
        simp only [Option.some.injEq] at h
        exact main _ _ rfl rfl (.inr (by rw [hfr]; exact hc)) h
      · simp at h

theorem guardOf_ok {ops : List Oper} {j : Nat} {st : St} {x : Bool} (h : guardOf ops j st.slots = some x) {β : Env} {a : Act} {w : World} (hR : Rel B β st a w) : yielded ops.toArray a.tmps j = some x := by
  unfold guardOf at h
  unfold yielded
  split at h
  · rename_i d hd
    split at h
    · rename_i y hy
      simp only [Option.some.injEq] at h; subst h
      have hc := hR.slot d
      rw [hy] at hc
      simp only [AV.con, V1.con, Atom.con, List.cons.injEq, and_true] at hc
      have hlt : d < st.slots.length := by
        rcases Nat.lt_or_ge d st.slots.length with h | h
        · exact h
        · rw [List.getD_eq_getElem?_getD, List.getElem?_eq_none h] at hy; simp at hy
      have : a.tmps[d]? = some (.bool y) := by
        have hlt' : d < a.tmps.size := by rw [hR.size]; exact hlt
        rw [Array.getElem?_eq_getElem hlt']
        have e : a.tmps.getD d undef = a.tmps[d] := by simp [hlt']
        rw [e] at hc; rw [hc]
      have hd' : (ops.toArray[j]?).bind (·.dst) = some d := by simpa using hd
      rw [hd']
      simp [this]
    · simp at h
  · simp at h

/-- one operation and the rest -/
def stepRest (T : Tab) (Γ : Gam) (ops rest : List Oper) (o : Oper) (ora : List Bool) (st : St) (vc : List Prop) : Option Out :=
  match needsBit o.op, ora with
  | true, b :: ora => (match step1 T Γ o b st vc with
    | some (vc, st) => execOps T Γ ops rest ora st vc
    | none => none)
  | true, [] => none
  | false, ora => (match step1 T Γ o false st vc with
    | some (vc, st) => execOps T Γ ops rest ora st vc
    | none => none)

theorem stepRest_inv {ops rest : List Oper} {o : Oper} {ora : List Bool} {st : St} {vc : List Prop} {out : Out} (h : stepRest T Γ ops rest o ora st vc = some out) :
    ∃ bit ora' vc1 st1, step1 T Γ o bit st vc = some (vc1, st1) ∧ execOps T Γ ops rest ora' st1 vc1 = some out := by
  unfold stepRest at h
  split at h
  · split at h
    · rename_i hs; exact ⟨_, _, _, _, hs, h⟩
    · simp at h
  · simp at h
  · split at h
    · rename_i hs; exact ⟨_, _, _, _, hs, h⟩
    · simp at h

theorem execOps_cons (ops : List Oper) (o : Oper) (rest : List Oper) (ora : List Bool) (st : St) (vc : List Prop) :
    execOps T Γ ops (o :: rest) ora st vc = match o.guard with
      | none => stepRest T Γ ops rest o ora st vc
      | some (j, want) => (match ora, guardOf ops j st.slots with
        | true :: ora, some x => stepRest T Γ ops rest o ora st ((x = want) :: vc)
        | false :: ora, some x => execOps T Γ ops rest ora ⟨put st.slots o.dst .u, st.K⟩ ((x = !want) :: vc)
        | _, _ => none) := by
  rfl

theorem execOps_vc {ops : List Oper} : ∀ (l : List Oper) (ora : List Bool) (st : St) (vc : List Prop) (out : Out), execOps T Γ ops l ora st vc = some out → AllP out.vc → AllP vc
  | [], ora, st, vc, out, h, hvc => by
    simp only [execOps, Option.some.injEq] at h; subst h; exact hvc
  | o :: rest, ora, st, vc, out, h, hvc => by
    rw [execOps_cons] at h
    have sr : ∀ ora vc, stepRest T Γ ops rest o ora st vc = some out → AllP vc := by
      intro ora vc h
      obtain ⟨bit, ora', vc1, st1, hs, hr⟩ := stepRest_inv h
      exact step1_vc hs (execOps_vc rest _ _ _ _ hr hvc)
    split at h
    · exact sr _ _ h
    · split at h
      · have := sr _ _ h; exact fun p hp => this p (by simp [hp])
      · have := execOps_vc rest _ _ _ _ h hvc; exact fun p hp => this p (by simp [hp])
      · simp at h

theorem execOps_sound (hT : TabOk P T) (hΓ : GamOk P Γ) {ops : List Oper} {Q : Exit → Act → World → Prop} : ∀ (l : List Oper) (ora : List Bool) (st : St) (vc : List Prop) (out : Out), execOps T Γ ops l ora st vc = some out → AllP out.vc →
    ∀ {β : Env} {a : Act} {w : World}, Rel B β st a w → (∀ β' a' w', Rel B β' out.st a' w' → Q .normal a' w') → wpList P ops.toArray Q l a w
  | [], ora, st, vc, out, h, hvc, β, a, w, hR, hq => by
    simp only [execOps, Option.some.injEq] at h; subst h
    exact hq _ _ _ hR
  | o :: rest, ora, st, vc, out, h, hvc, β, a, w, hR, hq => by
    rw [execOps_cons] at h
    have sr : ∀ ora vc, stepRest T Γ ops rest o ora st vc = some out → o.wp P a w (wpList P ops.toArray Q rest) Q := by
      intro ora vc h
      obtain ⟨bit, ora', vc1, st1, hs, hr⟩ := stepRest_inv h
      exact step1_sound hT hΓ hs (execOps_vc rest _ _ _ _ hr hvc) hR fun β' a' w' hR' => execOps_sound hT hΓ rest _ _ _ _ hr hvc hR' hq
    split at h
    · rename_i hg
      unfold wpList
      rw [if_pos (by simp [Region.wanted, hg])]
      exact .inl (sr _ _ h)
    · rename_i j want hg
      split at h
      · rename_i ora' x hx
        have hy := guardOf_ok hx hR
        have hall : AllP ((x = want) :: vc) := by
          obtain ⟨bit, ora', vc1, st1, hs, hr⟩ := stepRest_inv h
          exact step1_vc hs (execOps_vc rest _ _ _ _ hr hvc)
        have hxw : x = want := hall _ (by simp)
        unfold wpList
        rw [if_pos (by simp [Region.wanted, hg, hy, hxw])]
        exact .inl (sr _ _ h)
      · rename_i ora' x hx
        have hy := guardOf_ok hx hR
        have hall := execOps_vc rest _ _ _ _ h hvc
        have hxw : x = !want := hall _ (by simp)
        unfold wpList
        rw [if_neg (by simp [Region.wanted, hg, hy, hxw])]
        refine execOps_sound hT hΓ rest _ _ _ _ h hvc (hR.put (lo := B.k) (hi := B.k) (agree_refl _ _ _) (Nat.le_refl _) (.inl (Nat.le_refl _)) trivial hR.relw (Nat.le_refl _)) hq
      · simp at h

theorem region_sound (hT : TabOk P T) (hΓ : GamOk P Γ) {Q : Exit → Act → World → Prop} {id : Nat} {ops : Array Oper} {ora : List Bool} {st : St} {vc : List Prop} {out : Out} (h : execOps T Γ ops.toList ops.toList ora st vc = some out) (hvc : AllP out.vc)
    {β : Env} {a : Act} {w : World} (hR : Rel B β st a w) (hq : ∀ β' a' w', Rel B β' out.st a' w' → Q .normal a' w') : (Code.region id ops false).wp P Q a w := by
  have := execOps_sound hT hΓ (Q := Q) _ _ _ _ _ h hvc hR hq
  rw [Array.toArray_toList] at this
  exact wp_region_list this
end sound
end Go.Proofs.Ytepimglipelpmaa.X
