/- Regions that draw their order: whatever order their edges allow, they come to what the text's order comes to. -/
import Derived.Test.YtepimglipelpmaaXI
namespace Go.Proofs.Ytepimglipelpmaa.X
open Go

def directs (o : Oper) : List Nat := (o.after.toList.filter (Region.binds .any)).map (·.on)

def masksOf : List Oper → List Nat → List Nat
  | [], acc => acc
  | o :: r, acc => masksOf r (acc ++ [(directs o).foldl (fun s e => s ||| 2 ^ e ||| acc.getD e 0) 0])

def Closed (ops : List Oper) (S : Nat → Bool) : Prop := ∀ i o, ops[i]? = some o → S i = true → ∀ e ∈ directs o, S e = true

theorem fold_bit (acc : List Nat) (j : Nat) : ∀ (l : List Nat) (s : Nat), (l.foldl (fun s e => s ||| 2 ^ e ||| acc.getD e 0) s).testBit j = true → s.testBit j = true ∨ ∃ e ∈ l, e = j ∨ (acc.getD e 0).testBit j = true
  | [], s, h => .inl h
  | e :: l, s, h => by
    rw [List.foldl_cons] at h
    rcases fold_bit acc j l _ h with h | ⟨e', he, h⟩
    · rw [Nat.testBit_or, Nat.testBit_or, Bool.or_eq_true, Bool.or_eq_true, Nat.testBit_two_pow] at h
      rcases h with (h | h) | h
      · exact .inl h
      · exact .inr ⟨e, by simp, .inl (by simpa using h)⟩
      · exact .inr ⟨e, by simp, .inr h⟩
    · exact .inr ⟨e', by simp [he], h⟩

/-- what a mask says, of any closed set; and that it names smaller numbers alone -/
def MaskOk (ops : List Oper) (acc : List Nat) : Prop :=
  ∀ i j, (acc.getD i 0).testBit j = true → (∀ S, Closed ops S → S i = true → S j = true) ∧ ((∀ i o, ops[i]? = some o → ∀ e ∈ directs o, e < i) → j < i)

theorem masksOf_ok (ops : List Oper) : ∀ (rest pre : List Oper) (acc : List Nat), ops = pre ++ rest → acc.length = pre.length → MaskOk ops acc → MaskOk ops (masksOf rest acc)
  | [], _, _, _, _, h => h
  | o :: rest, pre, acc, he, hl, h => by
    refine masksOf_ok ops rest (pre ++ [o]) _ (by simp [he]) (by simp [hl]) ?_
    intro i j hij
    rw [List.getD_eq_getElem?_getD] at hij
    by_cases hi : i < acc.length
    · rw [List.getElem?_append_left hi, ← List.getD_eq_getElem?_getD] at hij
      exact h i j hij
    · by_cases hi2 : i = acc.length
      · subst hi2
        rw [List.getElem?_append_right (Nat.le_refl _), Nat.sub_self] at hij
        have ho : ops[acc.length]? = some o := by rw [he, hl]; simp
        rcases fold_bit acc j (directs o) 0 hij with h0 | ⟨e, hem, h0⟩
        · simp at h0
        · rcases h0 with rfl | h0
          · exact ⟨fun S hS hi => hS _ _ ho hi _ hem, fun hlt => hlt _ _ ho _ hem⟩
          · have := h e j h0
            exact ⟨fun S hS hi => this.1 S hS (hS _ _ ho hi _ hem), fun hlt => Nat.lt_trans (this.2 hlt) (hlt _ _ ho _ hem)⟩
      · rw [List.getElem?_eq_none (by simp; omega)] at hij
        simp at hij

structure Dop where
  val : AV
  ch : List (Nat × Option Blk)
  lo : Nat
  fr : Nat

def Dop.none (n : Nat) : Dop := ⟨.u, [], n, 0⟩

def memOp : Op → Bool
  | .load .. | .store .. | .call _ => true
  | _ => false

def KSf (p : Nat → Bool) : Nat → List Dop → Know → Know
  | _, [], K => K
  | k, d :: r, K => KSf p (k + 1) r (if p k then app K d.ch else K)

def wIdx (ops : List Oper) (t : Tmp) : Option Nat := ops.findIdx? (fun o => o.dst == some t)

def rhoD (ops : List Oper) (masks : List Nat) (slots : List AV) (D : List Dop) (i : Nat) : Rho
  | .tmp t => match wIdx ops t with
    | none => slots.getD t .u
    | some j => if (masks.getD i 0).testBit j then (D.getD j (.none 0)).val else if j = i ∨ (masks.getD j 0).testBit i then slots.getD t .u else .u
  | x => ev slots x

/-- what is not to be looked at -/
def hide : List Nat → Know → Know
  | [], K => K
  | b :: r, K => hide r (K.set b none)

theorem hide_at : ∀ (h : List Nat) (K : Know) (b : Nat) (x : Blk), (hide h K).at b = some x → K.at b = some x ∧ b ∉ h
  | [], K, b, x, hx => ⟨hx, by simp⟩
  | c :: r, K, b, x, hx => by
    obtain ⟨h1, h2⟩ := hide_at r (K.set c none) b x hx
    have hne : c ≠ b := by
      rintro rfl
      simp only [Know.at, List.getElem?_set_self'] at h1
      cases hK : K[c]? <;> rw [hK] at h1 <;> simp at h1
    refine ⟨?_, by simp only [List.mem_cons, not_or]; exact ⟨fun e => hne e.symm, h2⟩⟩
    simp only [Know.at, List.getElem?_set_ne hne] at h1 ⊢
    exact h1

def viewD (masks : List Nat) (hs : List (List Nat)) (K0 : Know) (D : List Dop) (i : Nat) (o : Op) : Know :=
  if memOp o then hide (hs.getD i []) (KSf (fun k => (masks.getD i 0).testBit k) 0 D K0) else []

def boolD (D : List Dop) (j : Nat) : Option Bool :=
  match (D.getD j (.none 0)).val with
  | .o (.a (.b x)) => some x
  | _ => none

structure DOut where
  ora : List Bool
  vc : List Prop
  D : List Dop
  n : Nat

section exec
variable (T : Tab) (Γ : Gam) (ops : List Oper) (masks : List Nat) (slots : List AV) (hs : List (List Nat)) (K0 : Know)

def drawGo : List Oper → Nat → List Bool → List Dop → List Prop → Option DOut
  | [], n, ora, D, vc => some ⟨ora, vc, D, n⟩
  | o :: rest, n, ora, D, vc =>
    let go (ora : List Bool) (vc : List Prop) (bit : Bool) : Option DOut :=
      match opx T Γ (rhoD ops masks slots D D.length) (viewD masks hs K0 D D.length o.op) n bit o.op with
      | some r => drawGo rest (n + r.fr) ora (D ++ [⟨r.val, r.ch, n, r.fr⟩]) (consP r.vc vc)
      | none => none
    let bits (ora : List Bool) (vc : List Prop) : Option DOut :=
      match needsBit o.op, ora with
      | true, b :: ora => go ora vc b
      | true, [] => none
      | false, ora => go ora vc false
    match o.guard with
    | none => bits ora vc
    | some (j, want) =>
      match ora, (masks.getD D.length 0).testBit j, ((ops[j]?).bind (·.dst)).isSome, boolD D j with
      | true :: ora, true, true, some x => bits ora ((x = want) :: vc)
      | false :: ora, true, true, some x => drawGo rest n ora (D ++ [Dop.none n]) ((x = !want) :: vc)
      | _, _, _, _ => none
end exec

/-- what has been shown of operation i -/
def Cert (T : Tab) (Γ : Gam) (ops : List Oper) (masks : List Nat) (slots : List AV) (hs : List (List Nat)) (K0 : Know) (D : List Dop) (i : Nat) : Prop :=
  ∃ o d, ops[i]? = some o ∧ D[i]? = some d ∧
    ((o.guard = none ∨ ∃ j want, o.guard = some (j, want) ∧ (masks.getD i 0).testBit j = true ∧ ((ops[j]?).bind (·.dst)).isSome = true ∧ boolD D j = some want) ∧
        (∃ bit r, opx T Γ (rhoD ops masks slots D i) (viewD masks hs K0 D i o.op) d.lo bit o.op = some r ∧ okP r.vc ∧ d = ⟨r.val, r.ch, d.lo, r.fr⟩) ∨
     (∃ j want, o.guard = some (j, want) ∧ (masks.getD i 0).testBit j = true ∧ ((ops[j]?).bind (·.dst)).isSome = true ∧ boolD D j = some (!want)) ∧ d = Dop.none d.lo)

theorem KSf_append (p : Nat → Bool) : ∀ (D E : List Dop) (k : Nat) (K : Know), KSf p k (D ++ E) K = KSf p (k + D.length) E (KSf p k D K)
  | [], E, k, K => by simp [KSf]
  | d :: D, E, k, K => by
    simp only [List.cons_append, KSf, List.length_cons]
    rw [KSf_append p D E (k + 1)]
    congr 1; omega

theorem KSf_false (p : Nat → Bool) : ∀ (E : List Dop) (k : Nat) (K : Know), (∀ q, k ≤ q → p q = false) → KSf p k E K = K
  | [], k, K, _ => rfl
  | d :: E, k, K, h => by
    simp only [KSf, h k (Nat.le_refl _), Bool.false_eq_true, if_false]
    exact KSf_false p E (k + 1) K fun q hq => h q (by omega)

theorem drawGo_cert {T : Tab} {Γ : Gam} {ops : List Oper} {masks : List Nat} {slots : List AV} {hs : List (List Nat)} {K0 : Know} (hlt : ∀ i j, (masks.getD i 0).testBit j = true → j < i) :
    ∀ (rest : List Oper) (n : Nat) (ora : List Bool) (D : List Dop) (vc : List Prop) (out : DOut), drawGo T Γ ops masks slots hs K0 rest n ora D vc = some out → AllP out.vc → ops.drop D.length = rest →
      (∃ E, out.D = D ++ E ∧ E.length = rest.length) ∧ AllP vc ∧ ∀ i, D.length ≤ i → i < ops.length → Cert T Γ ops masks slots hs K0 out.D i
  | [], n, ora, D, vc, out, h, hvc, hd => by
    simp only [drawGo, Option.some.injEq] at h; subst h
    refine ⟨⟨[], by simp, rfl⟩, hvc, fun i h1 h2 => ?_⟩
    have := congrArg List.length hd
    simp at this; omega
  | o :: rest, n, ora, D, vc, out, h, hvc, hd => by
    have ho : ops[D.length]? = some o := by
      have := congrArg (·[0]?) hd
      simpa using this
    have hd' : ∀ d : Dop, ops.drop (D ++ [d]).length = rest := by
      intro d
      rw [List.length_append, List.length_singleton, ← List.drop_drop, hd]; rfl
    have getE : ∀ (d : Dop) (E : List Dop) (j : Nat), j < D.length → ((D ++ [d]) ++ E).getD j (.none 0) = D.getD j (.none 0) := by
      intro d E j hj
      simp only [List.getD_eq_getElem?_getD]
      rw [List.append_assoc, List.getElem?_append_left hj]
    have hrho : ∀ (d : Dop) (E : List Dop), rhoD ops masks slots ((D ++ [d]) ++ E) D.length = rhoD ops masks slots D D.length := by
      intro d E
      funext x
      cases x with
      | tmp t =>
        simp only [rhoD]
        split
        · rfl
        · rename_i j hj
          split
          · rename_i hb; rw [getE d E j (hlt _ _ hb)]
          · rfl
      | _ => rfl
    have hview : ∀ (d : Dop) (E : List Dop) (q : Op), viewD masks hs K0 ((D ++ [d]) ++ E) D.length q = viewD masks hs K0 D D.length q := by
      intro d E q
      unfold viewD
      split
      · rw [List.append_assoc, KSf_append, KSf_false _ ([d] ++ E) _ _ (fun q hq => by
          cases hb : (masks.getD D.length 0).testBit q with
          | false => rfl
          | true => have := hlt _ _ hb; omega)]
      · rfl
    have hbool : ∀ (d : Dop) (E : List Dop) (j : Nat), (masks.getD D.length 0).testBit j = true → boolD ((D ++ [d]) ++ E) j = boolD D j := by
      intro d E j hj
      unfold boolD
      rw [getE d E j (hlt _ _ hj)]
    -- one way on, common to the three
    have step : ∀ (d : Dop) (n' : Nat) (ora' : List Bool) (vc' : List Prop), drawGo T Γ ops masks slots hs K0 rest n' ora' (D ++ [d]) vc' = some out →
        (∀ E, AllP vc' → out.D = (D ++ [d]) ++ E → Cert T Γ ops masks slots hs K0 out.D D.length) → (AllP vc' → AllP vc) →
        (∃ E, out.D = D ++ E ∧ E.length = (o :: rest).length) ∧ AllP vc ∧ ∀ i, D.length ≤ i → i < ops.length → Cert T Γ ops masks slots hs K0 out.D i := by
      intro d n' ora' vc' hgo hcert hall
      obtain ⟨⟨E, hE, hEl⟩, hvc', hc⟩ := drawGo_cert hlt rest n' ora' (D ++ [d]) vc' out hgo hvc (hd' d)
      refine ⟨⟨d :: E, by rw [hE]; simp, by simp [hEl]⟩, hall hvc', fun i h1 h2 => ?_⟩
      by_cases hi : i = D.length
      · subst hi; exact hcert E hvc' hE
      · exact hc i (by simp; omega) h2
    have go : ∀ (ora' : List Bool) (vc' : List Prop) (bit : Bool), (match opx T Γ (rhoD ops masks slots D D.length) (viewD masks hs K0 D D.length o.op) n bit o.op with
        | some r => drawGo T Γ ops masks slots hs K0 rest (n + r.fr) ora' (D ++ [⟨r.val, r.ch, n, r.fr⟩]) (consP r.vc vc')
        | none => none) = some out → (AllP vc' → AllP vc) →
        (AllP vc' → ∀ (d : Dop) (E : List Dop), o.guard = none ∨ ∃ j want, o.guard = some (j, want) ∧ (masks.getD D.length 0).testBit j = true ∧ ((ops[j]?).bind (·.dst)).isSome = true ∧ boolD ((D ++ [d]) ++ E) j = some want) →
        (∃ E, out.D = D ++ E ∧ E.length = (o :: rest).length) ∧ AllP vc ∧ ∀ i, D.length ≤ i → i < ops.length → Cert T Γ ops masks slots hs K0 out.D i := by
      intro ora' vc' bit hgo hall hg
      split at hgo
      · rename_i r hr
        refine step _ _ _ _ hgo (fun E hv hE => ?_) (fun hv => hall (consP_sub hv).2)
        refine ⟨o, _, ho, by rw [hE, List.append_assoc, List.getElem?_append_right (Nat.le_refl _), Nat.sub_self]; rfl, .inl ⟨?_, bit, r, ?_, (consP_sub hv).1, rfl⟩⟩
        · rw [hE]; exact hg (consP_sub hv).2 _ E
        · rw [hE, hrho, hview]; exact hr
      · simp at hgo
    have bits : ∀ (ora' : List Bool) (vc' : List Prop), (match needsBit o.op, ora' with
        | true, b :: ora'' => (match opx T Γ (rhoD ops masks slots D D.length) (viewD masks hs K0 D D.length o.op) n b o.op with
          | some r => drawGo T Γ ops masks slots hs K0 rest (n + r.fr) ora'' (D ++ [⟨r.val, r.ch, n, r.fr⟩]) (consP r.vc vc')
          | none => none)
        | true, [] => none
        | false, ora'' => (match opx T Γ (rhoD ops masks slots D D.length) (viewD masks hs K0 D D.length o.op) n false o.op with
          | some r => drawGo T Γ ops masks slots hs K0 rest (n + r.fr) ora'' (D ++ [⟨r.val, r.ch, n, r.fr⟩]) (consP r.vc vc')
          | none => none)) = some out → (AllP vc' → AllP vc) →
        (AllP vc' → ∀ (d : Dop) (E : List Dop), o.guard = none ∨ ∃ j want, o.guard = some (j, want) ∧ (masks.getD D.length 0).testBit j = true ∧ ((ops[j]?).bind (·.dst)).isSome = true ∧ boolD ((D ++ [d]) ++ E) j = some want) →
        (∃ E, out.D = D ++ E ∧ E.length = (o :: rest).length) ∧ AllP vc ∧ ∀ i, D.length ≤ i → i < ops.length → Cert T Γ ops masks slots hs K0 out.D i := by
      intro ora' vc' h hall hg
      split at h
      · exact go _ _ _ h hall hg
      · simp at h
      · exact go _ _ _ h hall hg
    unfold drawGo at h
    simp only at h
    split at h
    · rename_i hg
      exact bits ora vc h id (fun _ _ _ => .inl hg)
    · rename_i j want hg
      split at h
      · rename_i ora' x hb hdst hx
        refine bits _ _ h (fun hv p hp => hv p (by simp [hp])) (fun hv d E => .inr ⟨j, want, hg, hb, hdst, ?_⟩)
        rw [hbool d E j hb, hx, hv (x = want) (by simp)]
      · rename_i ora' x hb hdst hx
        refine step _ _ _ _ h (fun E hv hE => ?_) (fun hv p hp => hv p (by simp [hp]))
        refine ⟨o, _, ho, by rw [hE, List.append_assoc, List.getElem?_append_right (Nat.le_refl _), Nat.sub_self]; rfl, .inr ⟨⟨j, want, hg, hb, hdst, ?_⟩, rfl⟩⟩
        rw [hE, hbool _ E j hb, hx, hv (x = !want) (by simp)]
      · simp at h
end Go.Proofs.Ytepimglipelpmaa.X
