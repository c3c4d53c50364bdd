/- The core, part 3 of 5: blocks of memory known by number, and an evaluator over loaded code, shown sound. -/
import Derived.Test.YtcpoldghkiiggaaC2
import Derived.LoopN
/- Regions that draw their order: whatever order their edges allow, they come to what the text's order comes to. -/
namespace Go.Proofs.Ytcpoldghkiiggaa.X
open Go

def directs (o : Oper) : List Nat := (o.after.toList.filter (Region.binds .any)).map (·.on)

def masksOf : List Oper → List Nat → List Nat
  | [], acc => acc
  | o :: r, acc => masksOf r (acc ++ [(directs o).foldl (fun s e => s ||| 2 ^ e ||| acc.getD e 0) 0])

def Closed (ops : List Oper) (S : Nat → Bool) : Prop := ∀ i o, ops[i]? = some o → S i = true → ∀ e ∈ directs o, S e = true

theorem fold_bit (acc : List Nat) (j : Nat) : ∀ (l : List Nat) (s : Nat), (l.foldl (fun s e => s ||| 2 ^ e ||| acc.getD e 0) s).testBit j = true → s.testBit j = true ∨ ∃ e ∈ l, e = j ∨ (acc.getD e 0).testBit j = true
  | [], s, h => .inl h
  | e :: l, s, h => by
    rw [List.foldl_cons] at h
    rcases fold_bit acc j l _ h with h | ⟨e', he, h⟩
    · rw [Nat.testBit_or, Nat.testBit_or, Bool.or_eq_true, Bool.or_eq_true, Nat.testBit_two_pow] at h
      rcases h with (h | h) | h
      · exact .inl h
      · exact .inr ⟨e, by simp, .inl (by simpa using h)⟩
      · exact .inr ⟨e, by simp, .inr h⟩
    · exact .inr ⟨e', by simp [he], h⟩

/-- what a mask says, of any closed set; and that it names smaller numbers alone -/
def MaskOk (ops : List Oper) (acc : List Nat) : Prop :=
  ∀ i j, (acc.getD i 0).testBit j = true → (∀ S, Closed ops S → S i = true → S j = true) ∧ ((∀ i o, ops[i]? = some o → ∀ e ∈ directs o, e < i) → j < i)

theorem masksOf_ok (ops : List Oper) : ∀ (rest pre : List Oper) (acc : List Nat), ops = pre ++ rest → acc.length = pre.length → MaskOk ops acc → MaskOk ops (masksOf rest acc)
  | [], _, _, _, _, h => h
  | o :: rest, pre, acc, he, hl, h => by
    refine masksOf_ok ops rest (pre ++ [o]) _ (by simp [he]) (by simp [hl]) ?_
    intro i j hij
    rw [List.getD_eq_getElem?_getD] at hij
    by_cases hi : i < acc.length
    · rw [List.getElem?_append_left hi, ← List.getD_eq_getElem?_getD] at hij
      exact h i j hij
    · by_cases hi2 : i = acc.length
      · subst hi2
        rw [List.getElem?_append_right (Nat.le_refl _), Nat.sub_self] at hij
        have ho : ops[acc.length]? = some o := by rw [he, hl]; simp
        rcases fold_bit acc j (directs o) 0 hij with h0 | ⟨e, hem, h0⟩
        · simp at h0
        · rcases h0 with rfl | h0
          · exact ⟨fun S hS hi => hS _ _ ho hi _ hem, fun hlt => hlt _ _ ho _ hem⟩
          · have := h e j h0
            exact ⟨fun S hS hi => this.1 S hS (hS _ _ ho hi _ hem), fun hlt => Nat.lt_trans (this.2 hlt) (hlt _ _ ho _ hem)⟩
      · rw [List.getElem?_eq_none (by simp; omega)] at hij
        simp at hij

structure Dop where
  val : AV
  ch : List (Nat × Option Blk)
  lo : Nat
  fr : Nat

def Dop.none (n : Nat) : Dop := ⟨.u, [], n, 0⟩

def memOp : Op → Bool
  | .load .. | .store .. | .call _ => true
  | _ => false

def KSf (p : Nat → Bool) : Nat → List Dop → Know → Know
  | _, [], K => K
  | k, d :: r, K => KSf p (k + 1) r (if p k then app K d.ch else K)

def wIdx (ops : List Oper) (t : Tmp) : Option Nat := ops.findIdx? (fun o => o.dst == some t)

def rhoD (ops : List Oper) (masks : List Nat) (slots : List AV) (D : List Dop) (i : Nat) : Rho
  | .tmp t => match wIdx ops t with
    | none => slots.getD t .u
    | some j => if (masks.getD i 0).testBit j then (D.getD j (.none 0)).val else if j = i ∨ (masks.getD j 0).testBit i then slots.getD t .u else .u
  | x => ev slots x

/-- what is not to be looked at -/
def hide : List Nat → Know → Know
  | [], K => K
  | b :: r, K => hide r (K.set b none)

theorem hide_at : ∀ (h : List Nat) (K : Know) (b : Nat) (x : Blk), (hide h K).at b = some x → K.at b = some x ∧ b ∉ h
  | [], K, b, x, hx => ⟨hx, by simp⟩
  | c :: r, K, b, x, hx => by
    obtain ⟨h1, h2⟩ := hide_at r (K.set c none) b x hx
    have hne : c ≠ b := by
      rintro rfl
      simp only [Know.at, List.getElem?_set_self'] at h1
      cases hK : K[c]? <;> rw [hK] at h1 <;> simp at h1
    refine ⟨?_, by simp only [List.mem_cons, not_or]; exact ⟨fun e => hne e.symm, h2⟩⟩
    simp only [Know.at, List.getElem?_set_ne hne] at h1 ⊢
    exact h1

def viewD (masks : List Nat) (hs : List (List Nat)) (K0 : Know) (D : List Dop) (i : Nat) (o : Op) : Know :=
  if memOp o then hide (hs.getD i []) (KSf (fun k => (masks.getD i 0).testBit k) 0 D K0) else []

def boolD (D : List Dop) (j : Nat) : Option Bool :=
  match (D.getD j (.none 0)).val with
  | .o (.a (.b x)) => some x
  | _ => none

structure DOut where
  ora : List Bool
  vc : List Prop
  D : List Dop
  n : Nat

section exec
variable (T : Tab) (Γ : Gam) (ops : List Oper) (masks : List Nat) (slots : List AV) (hs : List (List Nat)) (K0 : Know)

def drawGo : List Oper → Nat → List Bool → List Dop → List Prop → Option DOut
  | [], n, ora, D, vc => some ⟨ora, vc, D, n⟩
  | o :: rest, n, ora, D, vc =>
    let go (ora : List Bool) (vc : List Prop) (bit : Bool) : Option DOut :=
      match opx T Γ (rhoD ops masks slots D D.length) (viewD masks hs K0 D D.length o.op) n bit o.op with
      | some r => drawGo rest (n + r.fr) ora (D ++ [⟨r.val, r.ch, n, r.fr⟩]) (consP r.vc vc)
      | none => none
    let bits (ora : List Bool) (vc : List Prop) : Option DOut :=
      match needsBit o.op, ora with
      | true, b :: ora => go ora vc b
      | true, [] => none
      | false, ora => go ora vc false
    match o.guard with
    | none => bits ora vc
    | some (j, want) =>
      match ora, (masks.getD D.length 0).testBit j, ((ops[j]?).bind (·.dst)).isSome, boolD D j with
      | true :: ora, true, true, some x => bits ora ((x = want) :: vc)
      | false :: ora, true, true, some x => drawGo rest n ora (D ++ [Dop.none n]) ((x = !want) :: vc)
      | _, _, _, _ => none
end exec

/-- what has been shown of operation i -/
def Cert (T : Tab) (Γ : Gam) (ops : List Oper) (masks : List Nat) (slots : List AV) (hs : List (List Nat)) (K0 : Know) (D : List Dop) (i : Nat) : Prop :=
  ∃ o d, ops[i]? = some o ∧ D[i]? = some d ∧
    ((o.guard = none ∨ ∃ j want, o.guard = some (j, want) ∧ (masks.getD i 0).testBit j = true ∧ ((ops[j]?).bind (·.dst)).isSome = true ∧ boolD D j = some want) ∧
        (∃ bit r, opx T Γ (rhoD ops masks slots D i) (viewD masks hs K0 D i o.op) d.lo bit o.op = some r ∧ okP r.vc ∧ d = ⟨r.val, r.ch, d.lo, r.fr⟩) ∨
     (∃ j want, o.guard = some (j, want) ∧ (masks.getD i 0).testBit j = true ∧ ((ops[j]?).bind (·.dst)).isSome = true ∧ boolD D j = some (!want)) ∧ d = Dop.none d.lo)

theorem KSf_append (p : Nat → Bool) : ∀ (D E : List Dop) (k : Nat) (K : Know), KSf p k (D ++ E) K = KSf p (k + D.length) E (KSf p k D K)
  | [], E, k, K => by simp [KSf]
  | d :: D, E, k, K => by
    simp only [List.cons_append, KSf, List.length_cons]
    rw [KSf_append p D E (k + 1)]
    congr 1; omega

theorem KSf_false (p : Nat → Bool) : ∀ (E : List Dop) (k : Nat) (K : Know), (∀ q, k ≤ q → p q = false) → KSf p k E K = K
  | [], k, K, _ => rfl
  | d :: E, k, K, h => by
    simp only [KSf, h k (Nat.le_refl _), Bool.false_eq_true, if_false]
    exact KSf_false p E (k + 1) K fun q hq => h q (by omega)

theorem drawGo_cert {T : Tab} {Γ : Gam} {ops : List Oper} {masks : List Nat} {slots : List AV} {hs : List (List Nat)} {K0 : Know} (hlt : ∀ i j, (masks.getD i 0).testBit j = true → j < i) :
    ∀ (rest : List Oper) (n : Nat) (ora : List Bool) (D : List Dop) (vc : List Prop) (out : DOut), drawGo T Γ ops masks slots hs K0 rest n ora D vc = some out → AllP out.vc → ops.drop D.length = rest →
      (∃ E, out.D = D ++ E ∧ E.length = rest.length) ∧ AllP vc ∧ ∀ i, D.length ≤ i → i < ops.length → Cert T Γ ops masks slots hs K0 out.D i
  | [], n, ora, D, vc, out, h, hvc, hd => by
    simp only [drawGo, Option.some.injEq] at h; subst h
    refine ⟨⟨[], by simp, rfl⟩, hvc, fun i h1 h2 => ?_⟩
    have := congrArg List.length hd
    simp at this; omega
  | o :: rest, n, ora, D, vc, out, h, hvc, hd => by
    have ho : ops[D.length]? = some o := by
      have := congrArg (·[0]?) hd
      simpa using this
    have hd' : ∀ d : Dop, ops.drop (D ++ [d]).length = rest := by
      intro d
      rw [List.length_append, List.length_singleton, ← List.drop_drop, hd]; rfl
    have getE : ∀ (d : Dop) (E : List Dop) (j : Nat), j < D.length → ((D ++ [d]) ++ E).getD j (.none 0) = D.getD j (.none 0) := by
      intro d E j hj
      simp only [List.getD_eq_getElem?_getD]
      rw [List.append_assoc, List.getElem?_append_left hj]
    have hrho : ∀ (d : Dop) (E : List Dop), rhoD ops masks slots ((D ++ [d]) ++ E) D.length = rhoD ops masks slots D D.length := by
      intro d E
      funext x
      cases x with
      | tmp t =>
        simp only [rhoD]
        split
        · rfl
        · rename_i j hj
          split
          · rename_i hb; rw [getE d E j (hlt _ _ hb)]
          · rfl
      | _ => rfl
    have hview : ∀ (d : Dop) (E : List Dop) (q : Op), viewD masks hs K0 ((D ++ [d]) ++ E) D.length q = viewD masks hs K0 D D.length q := by
      intro d E q
      unfold viewD
      split
      · rw [List.append_assoc, KSf_append, KSf_false _ ([d] ++ E) _ _ (fun q hq => by
          cases hb : (masks.getD D.length 0).testBit q with
          | false => rfl
          | true => have := hlt _ _ hb; omega)]
      · rfl
    have hbool : ∀ (d : Dop) (E : List Dop) (j : Nat), (masks.getD D.length 0).testBit j = true → boolD ((D ++ [d]) ++ E) j = boolD D j := by
      intro d E j hj
      unfold boolD
      rw [getE d E j (hlt _ _ hj)]
    -- one way on, common to the three
    have step : ∀ (d : Dop) (n' : Nat) (ora' : List Bool) (vc' : List Prop), drawGo T Γ ops masks slots hs K0 rest n' ora' (D ++ [d]) vc' = some out →
        (∀ E, AllP vc' → out.D = (D ++ [d]) ++ E → Cert T Γ ops masks slots hs K0 out.D D.length) → (AllP vc' → AllP vc) →
        (∃ E, out.D = D ++ E ∧ E.length = (o :: rest).length) ∧ AllP vc ∧ ∀ i, D.length ≤ i → i < ops.length → Cert T Γ ops masks slots hs K0 out.D i := by
      intro d n' ora' vc' hgo hcert hall
      obtain ⟨⟨E, hE, hEl⟩, hvc', hc⟩ := drawGo_cert hlt rest n' ora' (D ++ [d]) vc' out hgo hvc (hd' d)
      refine ⟨⟨d :: E, by rw [hE]; simp, by simp [hEl]⟩, hall hvc', fun i h1 h2 => ?_⟩
      by_cases hi : i = D.length
      · subst hi; exact hcert E hvc' hE
      · exact hc i (by simp; omega) h2
    have go : ∀ (ora' : List Bool) (vc' : List Prop) (bit : Bool), (match opx T Γ (rhoD ops masks slots D D.length) (viewD masks hs K0 D D.length o.op) n bit o.op with
        | some r => drawGo T Γ ops masks slots hs K0 rest (n + r.fr) ora' (D ++ [⟨r.val, r.ch, n, r.fr⟩]) (consP r.vc vc')
        | none => none) = some out → (AllP vc' → AllP vc) →
        (AllP vc' → ∀ (d : Dop) (E : List Dop), o.guard = none ∨ ∃ j want, o.guard = some (j, want) ∧ (masks.getD D.length 0).testBit j = true ∧ ((ops[j]?).bind (·.dst)).isSome = true ∧ boolD ((D ++ [d]) ++ E) j = some want) →
        (∃ E, out.D = D ++ E ∧ E.length = (o :: rest).length) ∧ AllP vc ∧ ∀ i, D.length ≤ i → i < ops.length → Cert T Γ ops masks slots hs K0 out.D i := by
      intro ora' vc' bit hgo hall hg
      split at hgo
      · rename_i r hr
        refine step _ _ _ _ hgo (fun E hv hE => ?_) (fun hv => hall (consP_sub hv).2)
        refine ⟨o, _, ho, by rw [hE, List.append_assoc, List.getElem?_append_right (Nat.le_refl _), Nat.sub_self]; rfl, .inl ⟨?_, bit, r, ?_, (consP_sub hv).1, rfl⟩⟩
        · rw [hE]; exact hg (consP_sub hv).2 _ E
        · rw [hE, hrho, hview]; exact hr
      · simp at hgo
    have bits : ∀ (ora' : List Bool) (vc' : List Prop), (match needsBit o.op, ora' with
        | true, b :: ora'' => (match opx T Γ (rhoD ops masks slots D D.length) (viewD masks hs K0 D D.length o.op) n b o.op with
          | some r => drawGo T Γ ops masks slots hs K0 rest (n + r.fr) ora'' (D ++ [⟨r.val, r.ch, n, r.fr⟩]) (consP r.vc vc')
          | none => none)
        | true, [] => none
        | false, ora'' => (match opx T Γ (rhoD ops masks slots D D.length) (viewD masks hs K0 D D.length o.op) n false o.op with
          | some r => drawGo T Γ ops masks slots hs K0 rest (n + r.fr) ora'' (D ++ [⟨r.val, r.ch, n, r.fr⟩]) (consP r.vc vc')
          | none => none)) = some out → (AllP vc' → AllP vc) →
        (AllP vc' → ∀ (d : Dop) (E : List Dop), o.guard = none ∨ ∃ j want, o.guard = some (j, want) ∧ (masks.getD D.length 0).testBit j = true ∧ ((ops[j]?).bind (·.dst)).isSome = true ∧ boolD ((D ++ [d]) ++ E) j = some want) →
        (∃ E, out.D = D ++ E ∧ E.length = (o :: rest).length) ∧ AllP vc ∧ ∀ i, D.length ≤ i → i < ops.length → Cert T Γ ops masks slots hs K0 out.D i := by
      intro ora' vc' h hall hg
      split at h
      · exact go _ _ _ h hall hg
      · simp at h
      · exact go _ _ _ h hall hg
    unfold drawGo at h
    simp only at h
    split at h
    · rename_i hg
      exact bits ora vc h id (fun _ _ _ => .inl hg)
    · rename_i j want hg
      split at h
      · rename_i ora' x hb hdst hx
        refine bits _ _ h (fun hv p hp => hv p (by simp [hp])) (fun hv d E => .inr ⟨j, want, hg, hb, hdst, ?_⟩)
        rw [hbool d E j hb, hx, hv (x = want) (by simp)]
      · rename_i ora' x hb hdst hx
        refine step _ _ _ _ h (fun E hv hE => ?_) (fun hv p hp => hv p (by simp [hp]))
        refine ⟨o, _, ho, by rw [hE, List.append_assoc, List.getElem?_append_right (Nat.le_refl _), Nat.sub_self]; rfl, .inr ⟨⟨j, want, hg, hb, hdst, ?_⟩, rfl⟩⟩
        rw [hE, hbool _ E j hb, hx, hv (x = !want) (by simp)]
      · simp at h
end Go.Proofs.Ytcpoldghkiiggaa.X

/- Regions that draw their order, second part: every order. -/
namespace Go.Proofs.Ytcpoldghkiiggaa.X
open Go

def lkCh (b : Nat) : List (Nat × Option Blk) → Option Blk → Option Blk
  | [], x => x
  | (j, y) :: r, x => lkCh b r (if b = j then y else x)

theorem app_at (b : Nat) : ∀ (ch : List (Nat × Option Blk)) (K : Know), (app K ch).at b = lkCh b ch (K.at b)
  | [], K => rfl
  | (j, y) :: r, K => by rw [app, app_at b r, Know.at_set1]; rfl

def touches (ch : List (Nat × Option Blk)) (b : Nat) : Bool := ch.any fun x => x.1 == b

theorem lkCh_un {b : Nat} : ∀ {ch : List (Nat × Option Blk)}, touches ch b = false → ∀ x, lkCh b ch x = x
  | [], _, _ => rfl
  | (j, y) :: r, h, x => by
    simp only [touches, List.any_cons, Bool.or_eq_false_iff, beq_eq_false_iff_ne] at h
    rw [lkCh, if_neg (fun e => h.1 e.symm)]
    exact lkCh_un h.2 x

theorem lkCh_const {b : Nat} : ∀ {ch : List (Nat × Option Blk)}, touches ch b = true → ∀ x y, lkCh b ch x = lkCh b ch y
  | [], h, _, _ => by simp [touches] at h
  | (j, z) :: r, h, x, y => by
    rw [lkCh, lkCh]
    by_cases hj : b = j
    · rw [if_pos hj, if_pos hj]
    · rw [if_neg hj, if_neg hj]
      refine lkCh_const ?_ x y
      simp only [touches, List.any_cons, Bool.or_eq_true, beq_iff_eq] at h
      exact h.resolve_left fun e => hj e.symm

def KSl (p : Nat → Bool) (b : Nat) : Nat → List Dop → Option Blk → Option Blk
  | _, [], x => x
  | k, d :: r, x => KSl p b (k + 1) r (if p k then lkCh b d.ch x else x)

theorem KSf_at (p : Nat → Bool) (b : Nat) : ∀ (D : List Dop) (k : Nat) (K : Know), (KSf p k D K).at b = KSl p b k D (K.at b)
  | [], k, K => rfl
  | d :: D, k, K => by
    simp only [KSf, KSl]
    rw [KSf_at p b D]
    split
    · rw [app_at]
    · rfl

theorem KSl_congr {p q : Nat → Bool} {b : Nat} : ∀ {D : List Dop} {k : Nat}, (∀ (m : Nat) (d : Dop), D[m]? = some d → p (k + m) ≠ q (k + m) → touches d.ch b = false) → ∀ x, KSl p b k D x = KSl q b k D x
  | [], _, _, _ => rfl
  | d :: D, k, h, x => by
    simp only [KSl]
    have h0 : (if p k then lkCh b d.ch x else x) = (if q k then lkCh b d.ch x else x) := by
      by_cases e : p k = q k
      · rw [e]
      · have := h 0 d rfl e
        rw [lkCh_un this]; simp
    rw [h0]
    exact KSl_congr (fun m d' hd he => h (m + 1) d' hd (by rw [show k + (m + 1) = k + 1 + m by omega]; exact he)) _

theorem KSl_un {p : Nat → Bool} {b : Nat} : ∀ {D : List Dop} {k : Nat}, (∀ (m : Nat) (d : Dop), D[m]? = some d → p (k + m) = true → touches d.ch b = false) → ∀ x, KSl p b k D x = x
  | [], _, _, _ => rfl
  | d :: D, k, h, x => by
    simp only [KSl]
    have h0 : (if p k then lkCh b d.ch x else x) = x := by
      cases hp : p k with
      | false => rfl
      | true => rw [lkCh_un (h 0 d rfl hp)]; simp
    rw [h0]
    exact KSl_un (fun m d' hd he => h (m + 1) d' hd (by rw [show k + (m + 1) = k + 1 + m by omega]; exact he)) _

def addS (S : Nat → Bool) (i : Nat) : Nat → Bool := fun j => if j = i then true else S j

theorem KSl_ins {S : Nat → Bool} {b i : Nat} {d : Dop} (hS : S i = false) : ∀ {D : List Dop} {k : Nat}, k ≤ i → D[i - k]? = some d → (touches d.ch b = false ∨ ∀ (m : Nat) (e : Dop), D[m]? = some e → i < k + m → S (k + m) = true → touches e.ch b = false) →
    ∀ x, KSl (addS S i) b k D x = lkCh b d.ch (KSl S b k D x)
  | [], k, _, h, _, x => by simp at h
  | e :: D, k, hk, h, hc, x => by
    by_cases he : k = i
    · subst he
      rw [Nat.sub_self, List.getElem?_cons_zero, Option.some.injEq] at h
      subst h
      simp only [KSl, hS, addS, if_true, Bool.false_eq_true, if_false]
      have hcg : ∀ x, KSl (addS S k) b (k + 1) D x = KSl S b (k + 1) D x := fun x => KSl_congr (fun m _ _ hne => by
        exfalso; apply hne; unfold addS; rw [if_neg (by omega)]) x
      rw [hcg]
      rcases hc with hc | hc
      · rw [lkCh_un hc, lkCh_un hc]
      · have hu : ∀ x, KSl S b (k + 1) D x = x := KSl_un (fun m e' hm hs => hc (m + 1) e' hm (by omega) (by rw [show k + (m + 1) = k + 1 + m by omega]; exact hs))
        rw [hu, hu]
    · simp only [KSl]
      have h1 : (if addS S i k then lkCh b e.ch x else x) = (if S k then lkCh b e.ch x else x) := by unfold addS; rw [if_neg he]
      rw [h1]
      refine KSl_ins hS (by omega) ?_ ?_ _
      · rw [show i - k = (i - (k + 1)) + 1 by omega, List.getElem?_cons_succ] at h; exact h
      · exact hc.imp id fun hc m e' hm hlt hs => hc (m + 1) e' hm (by omega) (by rw [show k + (m + 1) = k + 1 + m by omega]; exact hs)

def inR (d : Dop) (b : Nat) : Bool := decide (d.lo ≤ b ∧ b < d.lo + d.fr)

def Dop.idle (d : Dop) : Bool := d.ch.isEmpty && d.fr == 0

/-- the checks, k over the operations that touch or make blocks -/
def drawOk (ops : List Oper) (masks : List Nat) (slots : List AV) (hs : List (List Nat)) (K0 : Know) (D : List Dop) (n0 F : Nat) : Bool :=
  let N := D.length
  let ks := (List.range N).filter fun k => !(D.getD k (.none 0)).idle
  let m (i j : Nat) : Bool := (masks.getD i 0).testBit j
  (ops.length == N) && (K0.length == n0) &&
  (ops.zipIdx.all fun x => (directs x.1).all fun e => decide (e < x.2)) &&
  decide (ops.filterMap (·.dst)).Nodup &&
  (ops.all fun o => match o.dst with | some d => decide (d < slots.length) | none => true) &&
  (slots.all (AV.nom n0 (n0 + F))) && (K0.nom n0 (n0 + F)) &&
  (ks.all fun k =>
    let d := D.getD k (.none 0)
    decide (n0 ≤ d.lo ∧ d.lo + d.fr ≤ n0 + F) &&
    (ks.all fun j => j == k || ((D.getD j (.none 0)).ch.all fun x => !inR d x.1 || m j k)) &&
    (ks.all fun j => !(decide (j < k)) || !((D.getD j (.none 0)).ch.any fun x => touches d.ch x.1) || m k j) &&
    (ops.zipIdx.all fun x => !(memOp x.1.op) || x.2 == k || m x.2 k || m k x.2 || d.ch.all fun y => inR d y.1 || (hs.getD x.2 []).contains y.1) &&
    ((List.range N).all fun i => i == k || m i k || d.fr == 0 || ((D.getD i (.none 0)).val.nom d.lo (d.lo + d.fr) && (D.getD i (.none 0)).ch.all fun x => bnom d.lo (d.lo + d.fr) x.2)) &&
    (ks.all fun j => ops.zipIdx.all fun x => !(memOp x.1.op) || !(m x.2 j) || !(m j k) || m x.2 k))

structure DrawOk (ops : List Oper) (masks : List Nat) (slots : List AV) (hs : List (List Nat)) (K0 : Know) (D : List Dop) (n0 F : Nat) : Prop where
  len : ops.length = D.length
  k0 : K0.length = n0
  lt : ∀ (i : Nat) (o : Oper), ops[i]? = some o → ∀ e ∈ directs o, e < i
  nodup : (ops.filterMap (·.dst)).Nodup
  inb : ∀ (i : Nat) (o : Oper) (d : Tmp), ops[i]? = some o → o.dst = some d → d < slots.length
  slots : slots.all (AV.nom n0 (n0 + F)) = true
  know : K0.nom n0 (n0 + F) = true
  range : ∀ (k : Nat) (d : Dop), D[k]? = some d → d.fr ≠ 0 → n0 ≤ d.lo ∧ d.lo + d.fr ≤ n0 + F
  own : ∀ (k j : Nat) (d e : Dop), D[k]? = some d → D[j]? = some e → j ≠ k → ∀ b, touches e.ch b = true → inR d b = true → (masks.getD j 0).testBit k = true
  pair : ∀ (k j : Nat) (d e : Dop), D[k]? = some d → D[j]? = some e → j < k → ∀ b, touches e.ch b = true → touches d.ch b = true → (masks.getD k 0).testBit j = true
  mem : ∀ (k : Nat) (d : Dop) (i : Nat) (o : Oper), D[k]? = some d → ops[i]? = some o → memOp o.op = true → i ≠ k → ∀ b, touches d.ch b = true → (masks.getD i 0).testBit k = true ∨ (masks.getD k 0).testBit i = true ∨ inR d b = true ∨ b ∈ hs.getD i []
  nom : ∀ (k : Nat) (d : Dop) (i : Nat) (e : Dop), D[k]? = some d → D[i]? = some e → i ≠ k → (masks.getD i 0).testBit k = false → d.fr ≠ 0 → e.val.nom d.lo (d.lo + d.fr) = true ∧ ∀ x ∈ e.ch, bnom d.lo (d.lo + d.fr) x.2 = true
  trans : ∀ (k j : Nat) (d e : Dop) (i : Nat) (o : Oper), D[k]? = some d → D[j]? = some e → ops[i]? = some o → memOp o.op = true → (∃ b, touches d.ch b = true) → (∃ b, touches e.ch b = true) → (masks.getD i 0).testBit j = true → (masks.getD j 0).testBit k = true → (masks.getD i 0).testBit k = true

theorem touches_idle {d : Dop} {b : Nat} (h : touches d.ch b = true) : d.idle = false := by
  unfold Dop.idle
  cases hc : d.ch with
  | nil => rw [hc] at h; simp [touches] at h
  | cons a r => simp

theorem drawOk_ok {ops : List Oper} {masks : List Nat} {slots : List AV} {hs : List (List Nat)} {K0 : Know} {D : List Dop} {n0 F : Nat} (h : drawOk ops masks slots hs K0 D n0 F = true) : DrawOk ops masks slots hs K0 D n0 F := by
  unfold drawOk at h
  simp only [Bool.and_eq_true, beq_iff_eq, decide_eq_true_eq] at h
  obtain ⟨⟨⟨⟨⟨⟨⟨h1, h2⟩, h3⟩, h4⟩, h5⟩, h6⟩, h7⟩, h8⟩ := h
  have memks : ∀ (k : Nat) (d : Dop), D[k]? = some d → d.idle = false → k ∈ (List.range D.length).filter (fun k => !(D.getD k (.none 0)).idle) := by
    intro k d hk hi
    rw [List.mem_filter]
    refine ⟨List.mem_range.2 (List.getElem?_eq_some_iff.1 hk).1, ?_⟩
    rw [List.getD_eq_getElem?_getD, hk]; simp [hi]
  have gd : ∀ (k : Nat) (d : Dop), D[k]? = some d → D.getD k (.none 0) = d := by
    intro k d hk; rw [List.getD_eq_getElem?_getD, hk]; rfl
  have zi : ∀ {p : Oper × Nat → Bool}, ops.zipIdx.all p = true → ∀ (i : Nat) (o : Oper), ops[i]? = some o → p (o, i) = true := by
    intro p hp i o ho
    have := List.all_eq_true.1 hp (o, i)
    exact this (List.mk_mem_zipIdx_iff_getElem?.2 ho)
  have h8 := List.all_eq_true.1 h8
  refine ⟨h1, h2, ?_, h4, ?_, h6, h7, ?_, ?_, ?_, ?_, ?_, ?_⟩
  · intro i o ho e he
    have := zi h3 i o ho
    have := List.all_eq_true.1 this e he
    simpa using this
  · intro i o d ho hd
    have := List.all_eq_true.1 h5 o (List.mem_of_getElem? ho)
    rw [hd] at this; simpa using this
  · intro k d hk hfr
    have := h8 k (memks k d hk (by simp [Dop.idle, hfr]))
    simp only [Bool.and_eq_true, decide_eq_true_eq, gd k d hk] at this
    exact this.1.1.1.1.1
  · intro k j d e hk hj hne b hb hr
    have hid : d.idle = false := by
      unfold Dop.idle
      simp only [inR, decide_eq_true_eq] at hr
      have : d.fr ≠ 0 := by omega
      simp [this]
    have := h8 k (memks k d hk hid)
    simp only [Bool.and_eq_true, gd k d hk] at this
    have := List.all_eq_true.1 this.1.1.1.1.2 j (memks j e hj (touches_idle hb))
    rw [gd j e hj] at this
    simp only [Bool.or_eq_true, beq_iff_eq] at this
    rcases this with h | h
    · exact absurd h hne
    · unfold touches at hb
      obtain ⟨x, hx, hxb⟩ := List.any_eq_true.1 hb
      have := List.all_eq_true.1 h x hx
      simp only [beq_iff_eq] at hxb
      rw [hxb, hr] at this
      simpa using this
  · intro k j d e hk hj hlt b hb hb2
    have := h8 k (memks k d hk (touches_idle hb2))
    simp only [Bool.and_eq_true, gd k d hk] at this
    have := List.all_eq_true.1 this.1.1.1.2 j (memks j e hj (touches_idle hb))
    rw [gd j e hj] at this
    simp only [Bool.or_eq_true, Bool.not_eq_true', decide_eq_false_iff_not] at this
    rcases this with (h | h) | h
    · exact absurd hlt h
    · exfalso
      unfold touches at hb
      obtain ⟨x, hx, hxb⟩ := List.any_eq_true.1 hb
      have := List.any_eq_false.1 h x hx
      simp only [beq_iff_eq] at hxb
      rw [hxb] at this; exact this hb2
    · exact h
  · intro k d i o hk ho hm hne b hb
    have := h8 k (memks k d hk (touches_idle hb))
    simp only [Bool.and_eq_true, gd k d hk] at this
    have := zi this.1.1.2 i o ho
    simp only [hm, Bool.or_eq_true, Bool.not_true, Bool.false_eq_true, false_or, beq_iff_eq] at this
    rcases this with ((h | h) | h) | h
    · exact absurd h hne
    · exact .inl h
    · exact .inr (.inl h)
    · unfold touches at hb
      obtain ⟨x, hx, hxb⟩ := List.any_eq_true.1 hb
      have := List.all_eq_true.1 h x hx
      simp only [beq_iff_eq] at hxb
      rw [hxb] at this
      rw [Bool.or_eq_true] at this
      rcases this with this | this
      · exact .inr (.inr (.inl this))
      · exact .inr (.inr (.inr (by simpa using this)))
  · intro k d i e hk hi hne hb hfr
    have := h8 k (memks k d hk (by simp [Dop.idle, hfr]))
    simp only [Bool.and_eq_true, gd k d hk] at this
    have := List.all_eq_true.1 this.1.2 i (List.mem_range.2 (List.getElem?_eq_some_iff.1 hi).1)
    simp only [gd i e hi, hb, Bool.or_eq_true, beq_iff_eq, Bool.false_eq_true, or_false, Bool.and_eq_true] at this
    rcases this with (h | h) | h
    · exact absurd h hne
    · exact absurd h hfr
    · exact ⟨h.1, fun x hx => List.all_eq_true.1 h.2 x hx⟩
  · intro k j d e i o hk hj ho hm hd he h1 h2
    obtain ⟨b, hb⟩ := hd
    obtain ⟨b', hb'⟩ := he
    have := h8 k (memks k d hk (touches_idle hb))
    simp only [Bool.and_eq_true, gd k d hk] at this
    have := List.all_eq_true.1 this.2 j (memks j e hj (touches_idle hb'))
    have := zi this i o ho
    simp only [hm, h1, h2, Bool.not_true, Bool.false_or] at this
    exact this

def slotS (ops : List Oper) (slots : List AV) (D : List Dop) (S : Nat → Bool) (t : Tmp) : AV :=
  match wIdx ops t with
  | some j => if S j then (D.getD j (.none 0)).val else slots.getD t .u
  | none => slots.getD t .u

theorem wIdx_spec {ops : List Oper} {t : Tmp} {j : Nat} (h : wIdx ops t = some j) : ∃ o, ops[j]? = some o ∧ o.dst = some t := by
  unfold wIdx at h
  rw [List.findIdx?_eq_some_iff_getElem] at h
  obtain ⟨hlt, hp, _⟩ := h
  exact ⟨ops[j], List.getElem?_eq_getElem hlt, by simpa using hp⟩

theorem nodup_dst : ∀ {ops : List Oper}, (ops.filterMap (·.dst)).Nodup → ∀ {i j : Nat} {o o' : Oper} {t : Tmp}, ops[i]? = some o → ops[j]? = some o' → o.dst = some t → o'.dst = some t → i = j
  | [], _, i, j, o, o', t, hi, _, _, _ => by simp at hi
  | a :: r, hn, i, j, o, o', t, hi, hj, ho, ho' => by
    have mem : ∀ (q : Nat) (x : Oper), r[q]? = some x → x.dst = some t → t ∈ r.filterMap (·.dst) := by
      intro q x hq hx
      exact List.mem_filterMap.2 ⟨x, List.mem_of_getElem? hq, hx⟩
    cases ha : a.dst with
    | none =>
      have hn' : (r.filterMap (·.dst)).Nodup := by simpa [ha] using hn
      cases i with
      | zero => simp at hi; subst hi; rw [ha] at ho; cases ho
      | succ i =>
        cases j with
        | zero => simp at hj; subst hj; rw [ha] at ho'; cases ho'
        | succ j => exact congrArg (· + 1) (nodup_dst hn' (by simpa using hi) (by simpa using hj) ho ho')
    | some d =>
      have hn' : d ∉ r.filterMap (·.dst) ∧ (r.filterMap (·.dst)).Nodup := by
        have : (a :: r).filterMap (·.dst) = d :: r.filterMap (·.dst) := by simp [ha]
        rw [this] at hn; exact List.nodup_cons.1 hn
      cases i with
      | zero =>
        simp at hi; subst hi
        cases j with
        | zero => rfl
        | succ j =>
          rw [ha] at ho; cases ho
          exact absurd (mem j o' (by simpa using hj) ho') hn'.1
      | succ i =>
        cases j with
        | zero =>
          simp at hj; subst hj
          rw [ha] at ho'; cases ho'
          exact absurd (mem i o (by simpa using hi) ho) hn'.1
        | succ j => exact congrArg (· + 1) (nodup_dst hn'.2 (by simpa using hi) (by simpa using hj) ho ho')

theorem wIdx_of {ops : List Oper} (hn : (ops.filterMap (·.dst)).Nodup) {i : Nat} {o : Oper} {t : Tmp} (hi : ops[i]? = some o) (ht : o.dst = some t) : wIdx ops t = some i := by
  cases h : wIdx ops t with
  | none =>
    unfold wIdx at h
    rw [List.findIdx?_eq_none_iff] at h
    have := h o (List.mem_of_getElem? hi)
    simp [ht] at this
  | some j =>
    obtain ⟨o', ho', ht'⟩ := wIdx_spec h
    rw [nodup_dst hn ho' hi ht' ht]

structure Inv (B : Bs) (ops : List Oper) (slots : List AV) (K0 : Know) (D : List Dop) (S : Nat → Bool) (β : Env) (a : Act) (w : World) : Prop where
  relw : RelW B.w0 B.rw β (KSf S 0 D K0) w
  defers : a.defers = []
  size : a.tmps.size = slots.length
  slot : ∀ t, (slotS ops slots D S t).con β (a.tmps.getD t undef)
  fix : ∀ j, j < B.k → β j = B.β0 j

theorem RelW.congr {w0 : World} {rw : List Nat} {β : Env} {K K' : Know} {w : World} (h : RelW w0 rw β K w) (he : ∀ j, K'.at j = K.at j) : RelW w0 rw β K' w :=
  ⟨fun j b hj => h.holds j b (he j ▸ hj), fun j k b c r s hj hk => h.apart j k b c r s (he j ▸ hj) (he k ▸ hk), fun j b r hj => h.mine j b r (he j ▸ hj), fun j b r hj => h.live j b r (he j ▸ hj), h.old, h.size, h.os, h.tape, h.output⟩

theorem Know.nom_of_at {lo hi : Nat} {K : Know} (h : ∀ j b, K.at j = some b → nomL lo hi b.cells = true) : K.nom lo hi = true := by
  unfold Know.nom
  rw [List.all_eq_true]
  intro x hx
  cases x with
  | none => rfl
  | some b =>
    obtain ⟨j, hj⟩ := List.mem_iff_getElem?.1 hx
    exact h j b (by unfold Know.at; rw [hj]; rfl)

theorem KSl_bnom {p : Nat → Bool} {b lo hi : Nat} : ∀ {D : List Dop} {k : Nat} {x : Option Blk}, bnom lo hi x = true → (∀ (m : Nat) (d : Dop), D[m]? = some d → p (k + m) = true → ∀ y ∈ d.ch, bnom lo hi y.2 = true) → bnom lo hi (KSl p b k D x) = true
  | [], _, _, hx, _ => hx
  | d :: D, k, x, hx, h => by
    simp only [KSl]
    refine KSl_bnom ?_ fun m e hm hp => h (m + 1) e hm (by rw [show k + (m + 1) = k + 1 + m by omega]; exact hp)
    split
    · rename_i hp
      have key : ∀ (ch : List (Nat × Option Blk)) (x : Option Blk), bnom lo hi x = true → (∀ y ∈ ch, bnom lo hi y.2 = true) → bnom lo hi (lkCh b ch x) = true := by
        intro ch
        induction ch with
        | nil => intro x hx _; exact hx
        | cons a r ih =>
          intro x hx hch
          obtain ⟨j, y⟩ := a
          rw [lkCh]
          refine ih _ ?_ fun z hz => hch z (by simp [hz])
          split
          · exact hch (j, y) (by simp)
          · exact hx
      exact key _ _ hx (h 0 d rfl hp)
    · exact hx

section sound
variable {P : Program} {T : Tab} {Γ : Gam} {B : Bs}

theorem draw_step (hT : TabOk P T) (hΓ : GamAt P Γ B.w0 B.rw) {ops : List Oper} {masks : List Nat} {slots : List AV} {hs : List (List Nat)} {K0 : Know} {D : List Dop} {n0 F : Nat} (hm : MaskOk ops masks) (hok : DrawOk ops masks slots hs K0 D n0 F) (hk : B.k ≤ n0)
    (hcert : ∀ i, i < ops.length → Cert T Γ ops masks slots hs K0 D i) {S : Nat → Bool} (hcl : Closed ops S) {i : Nat} (hS : S i = false) (hready : ∀ o, ops[i]? = some o → ∀ e ∈ directs o, S e = true)
    {β : Env} {a : Act} {w : World} (hI : Inv B ops slots K0 D S β a w) {Q : Exit → Act → World → Prop} {next : Act → World → Prop} (hlt : i < ops.length)
    (hnext : ∀ β' a' w', Inv B ops slots K0 D (addS S i) β' a' w' → next a' w') : wpOp P ops.toArray Q i next a w := by
  obtain ⟨o, d, ho, hd, hc⟩ := hcert i hlt
  -- i's forerunners are done
  have hbef : ∀ j, (masks.getD i 0).testBit j = true → S j = true := by
    intro j hj
    have hcl2 : Closed ops (addS S i) := by
      intro q oq hq hSq e he
      unfold addS at hSq ⊢
      by_cases hqi : q = i
      · subst hqi; split; rfl; exact hready oq hq e he
      · rw [if_neg hqi] at hSq; split; rfl; exact hcl q oq hq hSq e he
    have h1 := (hm i j hj).1 (addS S i) hcl2 (by unfold addS; rw [if_pos rfl])
    have h2 := (hm i j hj).2 hok.lt
    unfold addS at h1
    rw [if_neg (by omega)] at h1; exact h1
  have haft : ∀ j, S j = true → (masks.getD j 0).testBit i = false := by
    intro j hj
    cases hb : (masks.getD j 0).testBit i with
    | false => rfl
    | true => have := (hm j i hb).1 S hcl hj; rw [hS] at this; cases this
  have hsub : ∀ (q : Nat) (e : Dop), D[q]? = some e → q < ops.length := fun q e hq => by rw [hok.len]; exact (List.getElem?_eq_some_iff.1 hq).1
  -- putting a value
  have putOk : ∀ (β' : Env) (v : Value) (w' : World) (lo hi : Nat), Agree lo hi β β' → (hi ≤ lo ∨ (lo = d.lo ∧ hi = d.lo + d.fr ∧ d.fr ≠ 0)) → d.val.con β' v → RelW B.w0 B.rw β' (KSf (addS S i) 0 D K0) w' → Inv B ops slots K0 D (addS S i) β' (a.put o.dst v) w' := by
    intro β' v w' lo hi hag hlh hv hrel
    have hnomslots : ∀ t, (slotS ops slots D S t).nom lo hi = true := by
      intro t
      rcases hlh with hlh | ⟨rfl, rfl, hfr⟩
      · have : ∀ a : Atom, a.nom lo hi = true := by intro a; cases a <;> simp [Atom.nom]; all_goals omega
        have hL : ∀ l : List Atom, nomL lo hi l = true := by intro l; unfold nomL; rw [List.all_eq_true]; intro x _; exact this x
        have hV : ∀ v : V1, v.nom lo hi = true := by intro v; cases v <;> simp [V1.nom, this, hL]
        cases slotS ops slots D S t <;> simp [AV.nom, hV]
      · have hr := hok.range i d hd hfr
        have hinit : (slots.getD t .u).nom d.lo (d.lo + d.fr) = true := by
          by_cases ht : t < slots.length
          · have hmem : slots.getD t .u ∈ slots := by rw [List.getD_eq_getElem?_getD, List.getElem?_eq_getElem ht]; exact List.getElem_mem ht
            have := List.all_eq_true.1 hok.slots _ hmem
            have key : ∀ a : Atom, a.nom n0 (n0 + F) = true → a.nom d.lo (d.lo + d.fr) = true := by
              intro a; cases a <;> simp [Atom.nom]; all_goals omega
            have keyL : ∀ l : List Atom, nomL n0 (n0 + F) l = true → nomL d.lo (d.lo + d.fr) l = true := by
              intro l h; unfold nomL at *; rw [List.all_eq_true] at *; exact fun x hx => key x (h x hx)
            have keyV : ∀ v : V1, v.nom n0 (n0 + F) = true → v.nom d.lo (d.lo + d.fr) = true := by
              intro v; cases v; exact key _; exact keyL _
            cases hx : slots.getD t .u with
            | u => rfl
            | o x => rw [hx] at this; exact keyV _ this
            | t l => rw [hx] at this; simp only [AV.nom, List.all_eq_true] at this ⊢; exact fun x hx => keyV _ (this x hx)
            | f fn l => rw [hx] at this; simp only [AV.nom, List.all_eq_true] at this ⊢; exact fun x hx => keyV _ (this x hx)
          · rw [List.getD_eq_getElem?_getD, List.getElem?_eq_none (Nat.le_of_not_lt ht)]; rfl
        unfold slotS
        split
        · rename_i j hj
          split
          · rename_i hSj
            obtain ⟨oj, hoj, _⟩ := wIdx_spec hj
            have hjl : j < D.length := by rw [← hok.len]; exact (List.getElem?_eq_some_iff.1 hoj).1
            have hDj := List.getElem?_eq_getElem hjl
            rw [List.getD_eq_getElem?_getD, hDj]
            exact (hok.nom i d j _ hd hDj (fun e => by subst e; rw [hS] at hSj; cases hSj) (haft j hSj) hfr).1
          · exact hinit
        · exact hinit
    refine ⟨hrel, ?_, ?_, ?_, ?_⟩
    · cases o.dst <;> exact hI.defers
    · cases hdst : o.dst with
      | none => exact hI.size
      | some t => simp [Act.put, hI.size]
    · intro t
      have hold : (slotS ops slots D S t).con β' (a.tmps.getD t undef) := AV.con_agree hag (hnomslots t) (hI.slot t)
      by_cases ht : o.dst = some t
      · have hw := wIdx_of hok.nodup ho ht
        have hin := hok.inb i o t ho ht
        unfold slotS
        rw [hw]
        simp only [addS, if_true]
        rw [List.getD_eq_getElem?_getD, hd, ht]
        have : (a.put (some t) v).tmps.getD t undef = v := by simp [Act.put, hI.size, hin]
        rw [this]; exact hv
      · have h1 : (a.put o.dst v).tmps.getD t undef = a.tmps.getD t undef := by
          cases hdst : o.dst with
          | none => rfl
          | some q =>
            have hne : q ≠ t := fun e => ht (by rw [hdst, e])
            simp [Act.put, Array.getElem?_setIfInBounds_ne hne]
        rw [h1]
        have h2 : slotS ops slots D (addS S i) t = slotS ops slots D S t := by
          unfold slotS
          split
          · rename_i j hj
            have hji : j ≠ i := by
              intro e; subst e
              obtain ⟨oj, hoj, hdj⟩ := wIdx_spec hj
              rw [ho] at hoj; cases hoj; exact ht hdj
            unfold addS; rw [if_neg hji]
          · rfl
        rw [h2]; exact hold
    · intro j hj
      rcases hlh with hlh | ⟨rfl, rfl, hfr⟩
      · rw [hag j (by omega)]; exact hI.fix j hj
      · have := (hok.range i d hd hfr).1
        rw [hag j (.inl (by omega))]; exact hI.fix j hj
  have hDlt : i < D.length := by rw [← hok.len]; exact hlt
  -- the blocks behind it
  have hins : ∀ b, (KSf (addS S i) 0 D K0).at b = lkCh b d.ch ((KSf S 0 D K0).at b) := by
    intro b
    rw [KSf_at, KSf_at]
    refine KSl_ins hS (Nat.zero_le _) (by simpa using hd) ?_ _
    cases ht : touches d.ch b with
    | false => exact .inl rfl
    | true =>
      refine .inr fun m e hm hlt' hSm => ?_
      cases ht' : touches e.ch b with
      | false => rfl
      | true =>
        simp only [Nat.zero_add] at hlt' hSm
        have := hok.pair m i e d hm hd hlt' b ht ht'
        rw [haft m hSm] at this; cases this
  unfold wpOp
  have hoa : ops.toArray[i]? = some o := by simpa using ho
  rw [hoa]
  simp only
  have yield : ∀ (j : Nat) (x : Bool), (masks.getD i 0).testBit j = true → ((ops[j]?).bind (·.dst)).isSome = true → boolD D j = some x → yielded ops.toArray a.tmps j = some x := by
    intro j x hj hdj hx
    cases hoj : ops[j]? with
    | none => rw [hoj] at hdj; simp at hdj
    | some oj =>
      rw [hoj] at hdj
      simp only [Option.bind_some] at hdj
      obtain ⟨t, ht⟩ := Option.isSome_iff_exists.1 hdj
      have hw := wIdx_of hok.nodup hoj ht
      have hcon := hI.slot t
      unfold slotS at hcon
      rw [hw] at hcon
      simp only [hbef j hj, if_true] at hcon
      unfold boolD at hx
      split at hx
      · rename_i y hy
        simp only [Option.some.injEq] at hx; subst hx
        rw [hy] at hcon
        simp only [AV.con, V1.con, Atom.con, List.cons.injEq, and_true] at hcon
        have hlt' : t < a.tmps.size := by rw [hI.size]; exact hok.inb j oj t hoj ht
        have e : a.tmps.getD t undef = a.tmps[t] := by simp [hlt']
        rw [e] at hcon
        unfold yielded
        have h1 : (ops.toArray[j]?).bind (·.dst) = some t := by simp [hoj, ht]
        rw [h1]
        simp [hlt', hcon]
      · simp at hx
  rcases hc with ⟨hg, bit, r, hr, hvc, hdr⟩ | ⟨⟨j, want, hg, hj, hdj, hx⟩, hdr⟩
  · have hwant : Region.wanted o (yielded ops.toArray a.tmps) = true := by
      unfold Region.wanted
      rcases hg with hg | ⟨j, want, hg, hj, hdj, hx⟩
      · rw [hg]
      · rw [hg]; simp [yield j want hj hdj hx]
    rw [if_pos hwant]
    left
    have hfre : d.fr = r.fr := by rw [hdr]
    have hche : d.ch = r.ch := by rw [hdr]
    have hvale : d.val = r.val := by rw [hdr]
    -- what it sees is known
    have hknow : Knows (viewD masks hs K0 D i o.op) (KSf S 0 D K0) := by
      unfold viewD
      cases hmo : memOp o.op with
      | false => intro j b hb; simp [Know.at] at hb
      | true =>
        simp only [if_true]
        intro b blk hb
        obtain ⟨hb, hnot⟩ := hide_at _ _ _ _ hb
        rw [KSf_at] at hb ⊢
        rw [← hb]
        refine KSl_congr (fun m e hm' hne => ?_) _
        simp only [Nat.zero_add] at hne
        cases ht : touches e.ch b with
        | false => rfl
        | true =>
          exfalso
          -- m is done, but no forerunner of i
          have hpm : (masks.getD i 0).testBit m = false ∧ S m = true := by
            cases h1 : (masks.getD i 0).testBit m with
            | true => rw [h1, hbef m h1] at hne; exact absurd rfl hne
            | false =>
              rw [h1] at hne
              cases h2 : S m with
              | true => exact ⟨rfl, rfl⟩
              | false => rw [h2] at hne; exact absurd rfl hne
          have hmi : i ≠ m := by intro e'; subst e'; rw [hS] at hpm; cases hpm.2
          rcases hok.mem m e i o hm' ho hmo hmi b ht with h | h | h | h
          · rw [hpm.1] at h; cases h
          · rw [haft m hpm.2] at h; cases h
          · have hfr : e.fr ≠ 0 := by simp only [inR, decide_eq_true_eq] at h; omega
            have hb0 : n0 ≤ b := by
              have := (hok.range m e hm' hfr).1
              simp only [inR, decide_eq_true_eq] at h; omega
            have hK0 : K0.at b = none := at_ge (by rw [hok.k0]; exact hb0)
            rw [KSl_un (fun q f hq hpq => ?_), hK0] at hb
            · cases hb
            · simp only [Nat.zero_add] at hpq
              cases htf : touches f.ch b with
              | false => rfl
              | true =>
                exfalso
                by_cases hqm : q = m
                · subst hqm; rw [hpm.1] at hpq; cases hpq
                · have h3 := hok.own m q e f hm' hq hqm b htf h
                  have h4 := hok.trans m q e f i o hm' hq ho hmo ⟨b, ht⟩ ⟨b, htf⟩ hpq h3
                  rw [hpm.1] at h4; cases h4
          · exact hnot h
    have hr' := opx_mono hΓ hknow hr
    refine opx_wp hT hΓ hr' hvc ?_ hI.relw ?_ ?_ ?_
    · intro x
      cases x with
      | tmp t =>
        have hs := hI.slot t
        unfold slotS at hs
        show AV.con β (rhoD ops masks slots D i (.tmp t)) (a.tmps.getD t undef)
        simp only [rhoD]
        split
        · rename_i hw; rw [hw] at hs; exact hs
        · rename_i j hw
          rw [hw] at hs
          simp only at hs
          split
          · rename_i hb; rw [hbef j hb] at hs; exact hs
          · split
            · rename_i hb
              have hSj : S j = false := by
                rcases hb with rfl | hb
                · exact hS
                · cases hSj : S j with
                  | false => rfl
                  | true => rw [haft j hSj] at hb; cases hb
              rw [hSj] at hs; exact hs
            · trivial
      | const v => exact constAV_con v
      | global g => exact ⟨rfl, rfl⟩
      | func f => exact ⟨[], rfl, rfl⟩
    · intro q hq
      have hfr : d.fr ≠ 0 := by omega
      have hrange := hok.range i d hd hfr
      rw [KSf_at]
      rw [KSl_un (fun m e hm' hSm => ?_)]
      · exact at_ge (by rw [hok.k0]; omega)
      · simp only [Nat.zero_add] at hSm
        cases ht : touches e.ch (d.lo + q) with
        | false => rfl
        | true =>
          have hmi : m ≠ i := by intro e'; subst e'; rw [hS] at hSm; cases hSm
          have := hok.own i m d e hd hm' hmi _ ht (by simp only [inR, decide_eq_true_eq]; omega)
          rw [haft m hSm] at this; cases this
    · by_cases hfr : d.fr = 0
      · have : ∀ a : Atom, a.nom d.lo (d.lo + r.fr) = true := by intro a; cases a <;> simp [Atom.nom]; all_goals omega
        exact Know.nom_of_at fun j b _ => by unfold nomL; rw [List.all_eq_true]; intro x _; exact this x
      · have hrange := hok.range i d hd hfr
        refine Know.nom_of_at fun j b hb => ?_
        rw [KSf_at] at hb
        have hx0 : bnom d.lo (d.lo + r.fr) (K0.at j) = true := by
          cases hk0 : K0.at j with
          | none => rfl
          | some b0 =>
            have := Know.nom_at hok.know hk0
            show nomL d.lo (d.lo + r.fr) b0.cells = true
            unfold nomL at *
            rw [List.all_eq_true] at *
            intro x hx
            have := this x hx
            revert this
            cases x <;> simp [Atom.nom]; all_goals omega
        have := KSl_bnom (p := S) (b := j) (k := 0) (D := D) hx0 (fun m e hm' hSm y hy => by
          simp only [Nat.zero_add] at hSm
          have hmi : m ≠ i := by intro e'; subst e'; rw [hS] at hSm; cases hSm
          have := (hok.nom i d m e hd hm' hmi (haft m hSm) hfr).2 y hy
          rw [hfre] at this; exact this)
        rw [hb] at this
        exact this
    · intro β' v w' hag hcon hrel
      have hcg : RelW B.w0 B.rw β' (KSf (addS S i) 0 D K0) w' := hrel.congr fun j => by rw [hins j, app_at, hche]
      refine hnext β' _ w' (putOk β' v w' d.lo (d.lo + d.fr) (by rw [hfre]; exact hag) ?_ (by rw [hvale]; exact hcon) hcg)
      by_cases hfr : d.fr = 0
      · exact .inl (by omega)
      · exact .inr ⟨rfl, rfl, hfr⟩
  · have hwant : Region.wanted o (yielded ops.toArray a.tmps) = false := by
      unfold Region.wanted
      rw [hg]; simp [yield j _ hj hdj hx]
    rw [if_neg (by simp [hwant])]
    have hcg : RelW B.w0 B.rw β (KSf (addS S i) 0 D K0) w := hI.relw.congr fun j => by rw [hins j, hdr]; rfl
    exact hnext β _ w (putOk β undef w 0 0 (agree_refl _ _ _) (.inl (Nat.le_refl _)) (by rw [hdr]; trivial) hcg)
end sound
end Go.Proofs.Ytcpoldghkiiggaa.X

/- Regions that draw their order, third part: the whole; and code. -/
namespace Go.Proofs.Ytcpoldghkiiggaa.X
open Go

def putAll : List Oper → List Dop → List AV → List AV
  | o :: os, d :: ds, sl => putAll os ds (put sl o.dst d.val)
  | _, _, sl => sl

theorem put_length (sl : List AV) (dst : Option Tmp) (v : AV) : (put sl dst v).length = sl.length := by
  cases dst <;> simp [put]

theorem putAll_length : ∀ (ops : List Oper) (D : List Dop) (sl : List AV), (putAll ops D sl).length = sl.length
  | [], _, _ => by simp [putAll]
  | _ :: _, [], _ => by simp [putAll]
  | o :: os, d :: ds, sl => by rw [putAll, putAll_length os ds, put_length]

theorem putAll_other : ∀ (ops : List Oper) (D : List Dop) (sl : List AV) (t : Tmp), (∀ o ∈ ops, o.dst ≠ some t) → (putAll ops D sl).getD t .u = sl.getD t .u
  | [], _, _, _, _ => by simp [putAll]
  | _ :: _, [], _, _, _ => by simp [putAll]
  | o :: os, d :: ds, sl, t, h => by
    rw [putAll, putAll_other os ds _ t fun o ho => h o (by simp [ho])]
    have := h o (by simp)
    cases hd : o.dst with
    | none => rfl
    | some q =>
      have hne : q ≠ t := fun e => this (by rw [hd, e])
      simp only [put, List.getD_eq_getElem?_getD]
      rw [List.getElem?_set_ne hne]

theorem putAll_at : ∀ (ops : List Oper) (D : List Dop) (sl : List AV) (t : Tmp) (j : Nat) (o : Oper) (d : Dop), (ops.filterMap (·.dst)).Nodup → ops[j]? = some o → o.dst = some t → D[j]? = some d → t < sl.length → (putAll ops D sl).getD t .u = d.val
  | [], _, _, _, j, o, d, _, h, _, _, _ => by simp at h
  | _ :: _, [], _, _, j, o, d, _, _, _, h, _ => by simp at h
  | a :: os, e :: ds, sl, t, j, o, d, hn, ho, ht, hd, hl => by
    rw [putAll]
    cases j with
    | zero =>
      simp at ho hd; subst ho; subst hd
      have hno : ∀ o ∈ os, o.dst ≠ some t := by
        intro o ho ht'
        have : (a :: os).filterMap (·.dst) = t :: os.filterMap (·.dst) := by simp [ht]
        rw [this] at hn
        exact (List.nodup_cons.1 hn).1 (List.mem_filterMap.2 ⟨o, ho, ht'⟩)
      rw [putAll_other os ds _ t hno, ht]
      simp only [put, List.getD_eq_getElem?_getD]
      rw [List.getElem?_set_self hl]; rfl
    | succ j =>
      have hn' : (os.filterMap (·.dst)).Nodup := by
        cases hda : a.dst with
        | none => simpa [hda] using hn
        | some q =>
          have : (a :: os).filterMap (·.dst) = q :: os.filterMap (·.dst) := by simp [hda]
          rw [this] at hn; exact (List.nodup_cons.1 hn).2
      exact putAll_at os ds _ t j o d hn' (by simpa using ho) ht (by simpa using hd) (by rw [put_length]; exact hl)

theorem filter_addS {S : Nat → Bool} {i : Nat} (hS : S i = false) : ∀ {l : List Nat}, l.Nodup → i ∈ l → (l.filter fun j => !addS S i j).length + 1 = (l.filter fun j => !S j).length
  | [], _, h => by simp at h
  | a :: l, hn, h => by
    obtain ⟨h1, h2⟩ := List.nodup_cons.1 hn
    have other : i ∉ l → (l.filter fun j => !addS S i j) = l.filter fun j => !S j := by
      intro hi
      apply List.filter_congr
      intro j hj
      unfold addS
      rw [if_neg (fun e : j = i => hi (e ▸ hj))]
    by_cases ha : a = i
    · subst ha
      rw [List.filter_cons_of_neg (by simp [addS]), List.filter_cons_of_pos (by simp [hS]), other h1]
      rfl
    · have him : i ∈ l := by simpa [Ne.symm ha] using h
      have ih := filter_addS hS h2 him
      have e : addS S i a = S a := by unfold addS; rw [if_neg ha]
      cases hb : S a with
      | true => rw [List.filter_cons_of_neg (by simp [e, hb]), List.filter_cons_of_neg (by simp [hb])]; exact ih
      | false => rw [List.filter_cons_of_pos (by simp [e, hb]), List.filter_cons_of_pos (by simp [hb])]; simp only [List.length_cons]; omega

section sound
variable {P : Program} {T : Tab} {Γ : Gam} {B : Bs}

def setOf (listed : Array Bool) : Nat → Bool := fun i => listed.getD i false

theorem ready_spec {ops : List Oper} {listed : Array Bool} (hl : listed.size = ops.length) {i : Nat} (h : i ∈ Region.ready .any ops.toArray listed) :
    i < ops.length ∧ setOf listed i = false ∧ ∀ o, ops[i]? = some o → ∀ e ∈ directs o, setOf listed e = true := by
  unfold Region.ready at h
  rw [List.mem_filter] at h
  obtain ⟨h1, h2⟩ := h
  have hi : i < ops.length := by simpa using h1
  simp only [Bool.and_eq_true, Bool.not_eq_true'] at h2
  refine ⟨hi, ?_, fun o ho e he => ?_⟩
  · unfold setOf
    have := h2.1
    simp only [Array.getD_eq_getD_getElem?] at this ⊢
    have hlt : i < listed.size := by omega
    rw [Array.getElem?_eq_getElem hlt] at this ⊢
    exact this
  · have h3 := h2.2
    have hoa : ops.toArray[i]? = some o := by simpa using ho
    rw [hoa] at h3
    simp only [Option.map_some, Option.getD_some] at h3
    unfold directs at he
    simp only [List.mem_map, List.mem_filter] at he
    obtain ⟨x, ⟨hx, hb⟩, rfl⟩ := he
    rw [← Array.all_toList] at h3
    have := List.all_eq_true.1 h3 x hx
    simpa [hb, setOf] using this

theorem ready_nil {ops : List Oper} {listed : Array Bool} (hl : listed.size = ops.length) (hlt : ∀ (i : Nat) (o : Oper), ops[i]? = some o → ∀ e ∈ directs o, e < i) (h : Region.ready .any ops.toArray listed = []) : ∀ i, i < ops.length → setOf listed i = true := by
  intro i
  induction i using Nat.strongRecOn with
  | _ i ih =>
    intro hi
    cases hs : setOf listed i with
    | true => rfl
    | false =>
      exfalso
      have : i ∈ Region.ready .any ops.toArray listed := by
        unfold Region.ready
        rw [List.mem_filter]
        refine ⟨by simpa using hi, ?_⟩
        have ho : ops.toArray[i]? = some ops[i] := by simp [hi]
        rw [ho]
        simp only [Option.map_some, Option.getD_some, Bool.and_eq_true, Bool.not_eq_true']
        constructor
        · unfold setOf at hs
          simp only [Array.getD_eq_getD_getElem?] at hs ⊢
          have hlt' : i < listed.size := by omega
          rw [Array.getElem?_eq_getElem hlt'] at hs ⊢
          exact hs
        · rw [← Array.all_toList, List.all_eq_true]
          intro e he
          cases hb : Region.binds .any e with
          | false => simp
          | true =>
            have hd : e.on ∈ directs ops[i] := List.mem_map.2 ⟨e, List.mem_filter.2 ⟨he, hb⟩, rfl⟩
            have h1 := hlt i ops[i] (List.getElem?_eq_getElem hi) _ hd
            have := ih e.on h1 (by omega)
            simpa [setOf] using this
      rw [h] at this; simp at this

theorem setOf_set {listed : Array Bool} {i : Nat} (hi : i < listed.size) : setOf (listed.setIfInBounds i true) = addS (setOf listed) i := by
  funext j
  unfold setOf addS
  simp only [Array.getD_eq_getD_getElem?]
  by_cases h : j = i
  · subst h; simp [hi]
  · rw [Array.getElem?_setIfInBounds_ne (fun e => h e.symm), if_neg h]

theorem addS_closed {ops : List Oper} {S : Nat → Bool} {i : Nat} (hcl : Closed ops S) (hr : ∀ o, ops[i]? = some o → ∀ e ∈ directs o, S e = true) : Closed ops (addS S i) := by
  intro q oq hq hSq e he
  unfold addS at hSq ⊢
  by_cases hqi : q = i
  · subst hqi; split; rfl; exact hr oq hq e he
  · rw [if_neg hqi] at hSq; split; rfl; exact hcl q oq hq hSq e he

theorem draw_any (hT : TabOk P T) (hΓ : GamAt P Γ B.w0 B.rw) {ops : List Oper} {masks : List Nat} {slots : List AV} {hs : List (List Nat)} {K0 : Know} {D : List Dop} {n0 F : Nat} (hm : MaskOk ops masks) (hok : DrawOk ops masks slots hs K0 D n0 F) (hk : B.k ≤ n0)
    (hcert : ∀ i, i < ops.length → Cert T Γ ops masks slots hs K0 D i) {Q : Exit → Act → World → Prop} (hq : ∀ S β a w, (∀ i, i < ops.length → S i = true) → Inv B ops slots K0 D S β a w → Q .normal a w) :
    ∀ (fuel : Nat) (listed : Array Bool) (β : Env) (a : Act) (w : World), listed.size = ops.length → ((List.range ops.length).filter fun j => !setOf listed j).length ≤ fuel → Closed ops (setOf listed) → Inv B ops slots K0 D (setOf listed) β a w →
      wpAny P .any ops.toArray Q fuel listed a w
  | 0, listed, β, a, w, hl, hc, _, hI => by
    have hall : ∀ i, i < ops.length → setOf listed i = true := by
      intro i hi
      cases hs : setOf listed i with
      | true => rfl
      | false =>
        have : i ∈ (List.range ops.length).filter fun j => !setOf listed j := List.mem_filter.2 ⟨List.mem_range.2 hi, by simp [hs]⟩
        have := List.length_pos_of_mem this
        omega
    refine ⟨?_, hq _ β a w hall hI⟩
    cases hr : Region.ready .any ops.toArray listed with
    | nil => rfl
    | cons i r =>
      have := ready_spec hl (i := i) (by rw [hr]; simp)
      rw [hall i this.1] at this; cases this.2.1
  | fuel + 1, listed, β, a, w, hl, hc, hcl, hI => by
    refine ⟨fun hr => hq _ β a w (ready_nil hl hok.lt hr) hI, fun i hi => ?_⟩
    obtain ⟨h1, h2, h3⟩ := ready_spec hl hi
    refine draw_step hT hΓ hm hok hk hcert hcl h2 h3 hI h1 fun β' a' w' hI' => ?_
    have hsz : i < listed.size := by omega
    refine draw_any hT hΓ hm hok hk hcert hq fuel _ β' a' w' (by simp [hl]) ?_ ?_ ?_
    · rw [setOf_set hsz]
      have := filter_addS h2 (List.nodup_range (n := ops.length)) (List.mem_range.2 h1)
      omega
    · rw [setOf_set hsz]; exact addS_closed hcl h3
    · rw [setOf_set hsz]; exact hI'

/-- what each operation must not look at, found by a first run -/
def hidesOf (ops : List Oper) (masks : List Nat) (D : List Dop) : List (List Nat) :=
  let m (i j : Nat) : Bool := (masks.getD i 0).testBit j
  let ks := D.zipIdx.filter fun d => d.1.ch.any fun y => !inR d.1 y.1
  match ks with
  | [] => []
  | ks => ops.zipIdx.map fun x => if memOp x.1.op then ks.flatMap fun d => if x.2 == d.2 || m x.2 d.2 || m d.2 x.2 then [] else (d.1.ch.filter fun y => !inR d.1 y.1).map (·.1) else []

/-- the second run, or the first where nothing is hidden -/
def execDraw2 (T : Tab) (Γ : Gam) (ops : List Oper) (ora : List Bool) (st : St) (vc : List Prop) (masks : List Nat) (hs : List (List Nat)) (d : DOut) : Option Out :=
  if hs.all (·.isEmpty) then
    (if drawOk ops masks st.slots [] st.K d.D st.K.length (d.n - st.K.length) then some ⟨d.ora, d.vc, ⟨putAll ops d.D st.slots, KSf (fun _ => true) 0 d.D st.K⟩⟩ else none)
  else match drawGo T Γ ops masks st.slots hs st.K ops st.K.length ora [] vc with
  | some d => if drawOk ops masks st.slots hs st.K d.D st.K.length (d.n - st.K.length) then some ⟨d.ora, d.vc, ⟨putAll ops d.D st.slots, KSf (fun _ => true) 0 d.D st.K⟩⟩ else none
  | none => none

theorem execDraw2_some {T : Tab} {Γ : Gam} {ops : List Oper} {ora : List Bool} {st : St} {vc : List Prop} {masks : List Nat} {hs : List (List Nat)} {d : DOut} {out : Out} (h0 : drawGo T Γ ops masks st.slots [] st.K ops st.K.length ora [] vc = some d)
    (h : execDraw2 T Γ ops ora st vc masks hs d = some out) : ∃ hs d, drawGo T Γ ops masks st.slots hs st.K ops st.K.length ora [] vc = some d ∧ drawOk ops masks st.slots hs st.K d.D st.K.length (d.n - st.K.length) = true ∧ out = ⟨d.ora, d.vc, ⟨putAll ops d.D st.slots, KSf (fun _ => true) 0 d.D st.K⟩⟩ := by
  unfold execDraw2 at h
  split at h
  · split at h
    · rename_i hc
      simp only [Option.some.injEq] at h
      exact ⟨[], d, h0, hc, h.symm⟩
    · simp at h
  · split at h
    · rename_i d' hd'
      split at h
      · rename_i hc
        simp only [Option.some.injEq] at h
        exact ⟨hs, d', hd', hc, h.symm⟩
      · simp at h
    · simp at h

def execDraw (T : Tab) (Γ : Gam) (ops : List Oper) (ora : List Bool) (st : St) (vc : List Prop) : Option Out :=
  let masks := masksOf ops []
  match drawGo T Γ ops masks st.slots [] st.K ops st.K.length ora [] vc with
  | some d => execDraw2 T Γ ops ora st vc masks (hidesOf ops masks d.D) d
  | none => none

theorem KSf_length (p : Nat → Bool) : ∀ (D : List Dop) (k : Nat) (K : Know), K.length ≤ (KSf p k D K).length
  | [], _, _ => Nat.le_refl _
  | d :: D, k, K => by
    refine Nat.le_trans ?_ (KSf_length p D (k + 1) _)
    split
    · exact app_length _ _
    · exact Nat.le_refl _

theorem draw_sound (hmix : P.follows .mixedOrders = true) (hT : TabOk P T) (hΓ : GamAt P Γ B.w0 B.rw) {Q : Exit → Act → World → Prop} {id : Nat} {ops : Array Oper} {ora : List Bool} {st : St} {vc : List Prop} {out : Out} (h : execDraw T Γ ops.toList ora st vc = some out) (hvc : AllP out.vc)
    {β : Env} {a : Act} {w : World} (hR : Rel B β st a w) (hq : ∀ β' a' w', Rel B β' out.st a' w' → Q .normal a' w') : (Code.region id ops true).wp P Q a w := by
  unfold execDraw at h
  simp only at h
  split at h
  · rename_i d0 hd0
    obtain ⟨hs, d, hd, hchk, rfl⟩ := execDraw2_some hd0 h
    · have hok := drawOk_ok hchk
      have hm : MaskOk ops.toList (masksOf ops.toList []) := masksOf_ok _ _ [] [] (by simp) rfl (fun i j hij => by simp at hij)
      obtain ⟨_, hvc0, hc⟩ := drawGo_cert (fun i j hij => (hm i j hij).2 (by
        have := hok.lt; exact this)) _ _ _ _ _ _ hd hvc rfl
      have hcert : ∀ i, i < ops.toList.length → Cert T Γ ops.toList (masksOf ops.toList []) st.slots hs st.K d.D i := fun i hi => hc i (by simp) hi
      refine wp_region_any hmix ?_
      have hst : setOf (Array.replicate ops.size false) = fun _ => false := by
        funext i; unfold setOf; simp only [Array.getD_eq_getD_getElem?]
        by_cases hi : i < ops.size <;> simp [hi]
      have hKf : KSf (fun _ => false) 0 d.D st.K = st.K := KSf_false _ _ _ _ fun _ _ => rfl
      have := draw_any (B := B) hT hΓ (Q := Q) hm hok hR.len hcert (fun S β a w hall hI => hq β a w ?_) ops.size (Array.replicate ops.size false) β a { w with drawn := w.drawn + 1 } (by simp) ?_ ?_ ?_
      · rw [Array.toArray_toList] at this; exact this
      · -- the end
        have hS : ∀ (k : Nat) (e : Dop), d.D[k]? = some e → S k = true := fun k e hk => hall k (by rw [hok.len]; exact (List.getElem?_eq_some_iff.1 hk).1)
        refine ⟨hI.relw.congr fun j => ?_, hI.defers, by rw [putAll_length]; exact hI.size, fun t => ?_, hI.fix, Nat.le_trans hR.len (KSf_length _ _ _ _)⟩
        · rw [KSf_at, KSf_at]
          refine KSl_congr (fun m e hm' hne => ?_) _
          simp only [Nat.zero_add] at hne
          rw [hS m e hm'] at hne; exact absurd rfl hne
        · have hs := hI.slot t
          have e : (putAll ops.toList d.D st.slots).getD t .u = slotS ops.toList st.slots d.D S t := by
            unfold slotS
            split
            · rename_i j hj
              obtain ⟨o, ho, ht⟩ := wIdx_spec hj
              have hjl : j < d.D.length := by rw [← hok.len]; exact (List.getElem?_eq_some_iff.1 ho).1
              have hDj := List.getElem?_eq_getElem hjl
              rw [hS j _ hDj, if_pos rfl, putAll_at _ _ _ t j o _ hok.nodup ho ht hDj (hok.inb j o t ho ht), List.getD_eq_getElem?_getD, hDj]; rfl
            · rename_i hj
              refine putAll_other _ _ _ t fun o ho ht => ?_
              unfold wIdx at hj
              rw [List.findIdx?_eq_none_iff] at hj
              have := hj o ho
              simp [ht] at this
          rw [e]; exact hs
      · rw [hst]; refine Nat.le_trans (List.length_filter_le _ _) (by simp)
      · rw [hst]; intro i o _ hS; cases hS
      · rw [hst]
        refine ⟨by rw [hKf]; exact hR.relw.drew _, hR.defers, hR.size, fun t => ?_, hR.fix⟩
        have : slotS ops.toList st.slots d.D (fun _ => false) t = st.slots.getD t .u := by unfold slotS; split <;> rfl
        rw [this]; exact hR.slot t
  · simp at h
end sound
end Go.Proofs.Ytcpoldghkiiggaa.X

/- One state says what another says: slots and blocks forgotten, blocks named anew, nil made a row, memory taken in from outside. -/
namespace Go.Proofs.Ytcpoldghkiiggaa.X
open Go

/- renaming -/
def Atom.ren (ρ : Nat → Nat) : Atom → Atom
  | .p j c => .p (ρ j) c
  | .ps j c => .ps (ρ j) c
  | .sl j c l m => .sl (ρ j) c l m
  | .rs j c l z => .rs (ρ j) c l z
  | a => a
def V1.ren (ρ : Nat → Nat) : V1 → V1
  | .a x => .a (x.ren ρ)
  | .g l => .g (l.map (Atom.ren ρ))
def AV.ren (ρ : Nat → Nat) : AV → AV
  | .u => .u
  | .o x => .o (x.ren ρ)
  | .t l => .t (l.map (V1.ren ρ))
  | .f fn l => .f fn (l.map (V1.ren ρ))
def Blk.ren (ρ : Nat → Nat) (b : Blk) : Blk := ⟨b.own, b.cells.map (Atom.ren ρ)⟩

def Atom.allI (p : Nat → Bool) : Atom → Bool
  | .p j _ | .ps j _ | .sl j _ _ _ | .rs j _ _ _ => p j
  | _ => true
def V1.allI (p : Nat → Bool) : V1 → Bool
  | .a x => x.allI p
  | .g l => l.all (Atom.allI p)
def AV.allI (p : Nat → Bool) : AV → Bool
  | .u => true
  | .o x => x.allI p
  | .t l => l.all (V1.allI p)
  | .f _ l => l.all (V1.allI p)

section ren
variable {β β' : Env} {ρ : Nat → Nat} {p : Nat → Bool} (h : ∀ j, p j = true → β' (ρ j) = β j)
include h

theorem Atom.con_ren {a : Atom} (ha : a.allI p = true) {cs : List Value} (hc : a.con β cs) : (a.ren ρ).con β' cs := by
  cases a <;> simp only [Atom.allI, Atom.con, Atom.ren] at ha hc ⊢ <;> first | exact hc | (rw [h _ ha]; exact hc)
theorem cons_ren : ∀ {l : List Atom}, l.all (Atom.allI p) = true → ∀ {cs : List Value}, cons β l cs → cons β' (l.map (Atom.ren ρ)) cs
  | [], _, cs, hc => hc
  | a :: r, hn, cs, hc => by
    simp only [List.all_cons, Bool.and_eq_true] at hn
    obtain ⟨x, y, rfl, ha, hr⟩ := hc
    exact ⟨x, y, rfl, Atom.con_ren h hn.1 ha, cons_ren hn.2 hr⟩
theorem V1.con_ren {x : V1} (hn : x.allI p = true) {v : Value} (hc : x.con β v) : (x.ren ρ).con β' v := by
  cases x with
  | a x => exact Atom.con_ren h hn hc
  | g l => obtain ⟨cs, rfl, hc⟩ := hc; exact ⟨cs, rfl, cons_ren h hn hc⟩
theorem all2_ren : ∀ {l : List V1}, l.all (V1.allI p) = true → ∀ {vs : List Value}, all2 β l vs → all2 β' (l.map (V1.ren ρ)) vs
  | [], _, vs, hc => hc
  | x :: r, hn, vs, hc => by
    simp only [List.all_cons, Bool.and_eq_true] at hn
    obtain ⟨v, rest, rfl, hx, hr⟩ := hc
    exact ⟨v, rest, rfl, V1.con_ren h hn.1 hx, all2_ren hn.2 hr⟩
theorem AV.con_ren {x : AV} (hn : x.allI p = true) {v : Value} (hc : x.con β v) : (x.ren ρ).con β' v := by
  cases x with
  | u => trivial
  | o x => exact V1.con_ren h hn hc
  | t l => obtain ⟨vs, rfl, hc⟩ := hc; exact ⟨vs, rfl, all2_ren h hn hc⟩
  | f fn l => obtain ⟨vs, rfl, hc⟩ := hc; exact ⟨vs, rfl, all2_ren h hn hc⟩
end ren

theorem Atom.allI_true (a : Atom) : a.allI (fun _ => true) = true := by cases a <;> rfl
theorem V1.allI_true (a : V1) : a.allI (fun _ => true) = true := by
  cases a with
  | a x => exact x.allI_true
  | g l => exact List.all_eq_true.2 fun x _ => x.allI_true
theorem AV.allI_true (a : AV) : a.allI (fun _ => true) = true := by
  cases a with
  | u => rfl
  | o x => exact x.allI_true
  | t l => exact List.all_eq_true.2 fun x _ => x.allI_true
  | f _ l => exact List.all_eq_true.2 fun x _ => x.allI_true

/-- all that one state says, another says -/
def Weak (B : Bs) (st st' : St) : Prop := ∀ β a w, Rel B β st a w → ∃ β', Rel B β' st' a w

theorem Weak.refl {B : Bs} {st : St} : Weak B st st := fun β _ _ h => ⟨β, h⟩
theorem Weak.trans {B : Bs} {s1 s2 s3 : St} (h1 : Weak B s1 s2) (h2 : Weak B s2 s3) : Weak B s1 s3 := fun β a w h => by
  obtain ⟨β', h'⟩ := h1 β a w h
  exact h2 β' a w h'

def keepL (keep : List Nat) : Nat → List AV → List AV
  | _, [] => []
  | i, x :: r => (if keep.contains i then x else .u) :: keepL keep (i + 1) r

def forget (keep : List Nat) (m : Nat) (st : St) : St := ⟨keepL keep 0 st.slots, st.K.take m⟩

theorem keepL_getD (keep : List Nat) : ∀ (l : List AV) (i t : Nat), (keepL keep i l).getD t .u = if keep.contains (i + t) then l.getD t .u else .u
  | [], i, t => by simp [keepL]
  | x :: r, i, 0 => by simp [keepL]
  | x :: r, i, t + 1 => by
    have := keepL_getD keep r (i + 1) t
    simp only [keepL, List.getD_cons_succ]
    rw [this, show i + 1 + t = i + (t + 1) by omega]

theorem keepL_length (keep : List Nat) : ∀ (l : List AV) (i : Nat), (keepL keep i l).length = l.length
  | [], _ => rfl
  | x :: r, i => by simp [keepL, keepL_length keep r (i + 1)]

theorem Know.at_take (K : Know) (m j : Nat) (b : Blk) (h : Know.at (K.take m) j = some b) : K.at j = some b := by
  unfold Know.at at *
  rw [List.getElem?_take] at h
  split at h
  · exact h
  · simp at h

theorem RelW.less {w0 : World} {rw : List Nat} {β : Env} {K K' : Know} {w : World} (h : RelW w0 rw β K w) (hs : ∀ j b, K'.at j = some b → K.at j = some b) : RelW w0 rw β K' w :=
  ⟨fun j b hj => h.holds j b (hs j b hj), fun j k b c r s hj hk => h.apart j k b c r s (hs _ _ hj) (hs _ _ hk), fun j b r hj => h.mine j b r (hs _ _ hj), fun j b r hj => h.live j b r (hs _ _ hj), h.old, h.size, h.os, h.tape, h.output⟩

theorem forget_weak (B : Bs) (keep : List Nat) (m : Nat) (st : St) (hk : B.k ≤ (st.K.take m).length) : Weak B st (forget keep m st) := by
  intro β a w h
  refine ⟨β, h.relw.less fun j b hj => Know.at_take _ _ _ _ hj, h.defers, by rw [forget, keepL_length]; exact h.size, fun t => ?_, h.fix, hk⟩
  rw [forget, keepL_getD]
  split
  · simpa using h.slot t
  · trivial

/- blocks change places -/
def swp (i j t : Nat) : Nat := if t = i then j else if t = j then i else t
theorem swp_swp (i j t : Nat) : swp i j (swp i j t) = t := by unfold swp; repeat' split
                                                              all_goals omega
def swapK (i j : Nat) (K : Know) : Know := (List.range K.length).map fun t => (K.at (swp i j t)).map (Blk.ren (swp i j))
def swapSt (i j : Nat) (st : St) : St := ⟨st.slots.map (AV.ren (swp i j)), swapK i j st.K⟩

theorem swapK_at {i j : Nat} {K : Know} (hi : i < K.length) (hj : j < K.length) (t : Nat) : (swapK i j K).at t = (K.at (swp i j t)).map (Blk.ren (swp i j)) := by
  by_cases ht : t < K.length
  · have : (swapK i j K)[t]? = some ((K.at (swp i j t)).map (Blk.ren (swp i j))) := by
      unfold swapK; rw [List.getElem?_map, List.getElem?_range ht]; rfl
    show Option.join ((swapK i j K)[t]?) = _
    rw [this]; rfl
  · have : (swapK i j K)[t]? = none := List.getElem?_eq_none (by simp [swapK]; omega)
    show Option.join ((swapK i j K)[t]?) = _
    rw [this]
    have h2 : swp i j t = t := by unfold swp; rw [if_neg (by omega), if_neg (by omega)]
    rw [h2, at_ge (by omega)]; rfl

theorem swap_weak (B : Bs) (i j : Nat) (st : St) (hi : i < st.K.length) (hj : j < st.K.length) (hbi : B.k ≤ i) (hbj : B.k ≤ j) : Weak B st (swapSt i j st) := by
  intro β a w h
  have hr : ∀ t, (fun _ : Nat => true) t = true → (β ∘ swp i j) (swp i j t) = β t := fun t _ => by simp [swp_swp]
  have hinv : ∀ t, (β ∘ swp i j) t = β (swp i j t) := fun t => rfl
  have hat : ∀ t b, (swapSt i j st).K.at t = some b → ∃ c, st.K.at (swp i j t) = some c ∧ b = c.ren (swp i j) := by
    intro t b hb
    rw [show (swapSt i j st).K = swapK i j st.K from rfl, swapK_at hi hj] at hb
    cases hc : st.K.at (swp i j t) with
    | none => rw [hc] at hb; simp at hb
    | some c => rw [hc] at hb; simp at hb; exact ⟨c, rfl, hb.symm⟩
  refine ⟨β ∘ swp i j, ⟨?_, ?_, ?_, ?_, h.relw.old, h.relw.size, h.relw.os, h.relw.tape, h.relw.output⟩, h.defers, ?_, ?_, ?_, ?_⟩
  · intro t b hb
    obtain ⟨c, hc, rfl⟩ := hat t b hb
    obtain ⟨cs, h1, h2⟩ := h.relw.holds _ _ hc
    exact ⟨cs, cons_ren hr (List.all_eq_true.2 fun x _ => x.allI_true) h1, h2⟩
  · intro x y b c r s hx hy ho hne h1 h2
    obtain ⟨b', hb', rfl⟩ := hat x b hx
    obtain ⟨c', hc', rfl⟩ := hat y c hy
    exact h.relw.apart _ _ b' c' r s hb' hc' ho (fun e => hne (by rw [← swp_swp i j x, e, swp_swp])) h1 h2
  · intro x b r hx ho h1
    obtain ⟨b', hb', rfl⟩ := hat x b hx
    exact h.relw.mine _ b' r hb' ho h1
  · intro x b r hx h1
    obtain ⟨b', hb', rfl⟩ := hat x b hx
    exact h.relw.live _ b' r hb' h1
  · rw [h.size]; simp [swapSt]
  · intro t
    have hs := AV.con_ren hr (AV.allI_true _) (h.slot t)
    have e : (swapSt i j st).slots.getD t .u = (st.slots.getD t .u).ren (swp i j) := by
      simp only [swapSt, List.getD_eq_getElem?_getD, List.getElem?_map]
      cases st.slots[t]? <;> rfl
    rw [e]; exact hs
  · intro t ht
    rw [hinv]
    have : swp i j t = t := by unfold swp; rw [if_neg (by omega), if_neg (by omega)]
    rw [this]; exact h.fix t ht
  · show B.k ≤ (swapK i j st.K).length
    simp [swapK]; exact h.len

/- nil is an empty row -/
theorem rowNil (B : Bs) {st : St} (hn : st.K.nom st.K.length (st.K.length + 1) = true) (hs : st.slots.all (AV.nom st.K.length (st.K.length + 1)) = true) (k : IntKind) {β : Env} {a : Act} {w : World} (h : Rel B β st a w) :
    Rel B (β.upd st.K.length none) ⟨st.slots, st.K ++ [some ⟨true, [.ints k 0 []]⟩]⟩ a w := by
  have hag := Env.agree_upd β st.K.length none
  have hat : ∀ t b, Know.at (st.K ++ [some ⟨true, [.ints k 0 []]⟩]) t = some b → (t < st.K.length ∧ st.K.at t = some b) ∨ (t = st.K.length ∧ b = ⟨true, [.ints k 0 []]⟩) := by
    intro t b hb
    by_cases ht : t < st.K.length
    · left; refine ⟨ht, ?_⟩
      simpa [Know.at, List.getElem?_append_left ht] using hb
    · right
      unfold Know.at at hb
      rw [List.getElem?_append_right (by omega)] at hb
      by_cases he : t - st.K.length = 0
      · rw [he] at hb; simp at hb; exact ⟨by omega, hb.symm⟩
      · rw [List.getElem?_eq_none (by simp; omega)] at hb; simp at hb
  have hself : (β.upd st.K.length none) st.K.length = none := by unfold Env.upd; rw [if_pos rfl]
  have hoth : ∀ t, t < st.K.length → (β.upd st.K.length none) t = β t := fun t ht => by unfold Env.upd; rw [if_neg (by omega)]
  refine ⟨⟨?_, ?_, ?_, ?_, h.relw.old, h.relw.size, h.relw.os, h.relw.tape, h.relw.output⟩, h.defers, h.size, ?_, ?_, ?_⟩
  · intro t b hb
    rcases hat t b hb with ⟨ht, hb⟩ | ⟨rfl, rfl⟩
    · obtain ⟨cs, h1, h2⟩ := h.relw.holds t b hb
      refine ⟨cs, cons_agree hag (Know.nom_at hn hb) h1, ?_⟩
      rw [hoth t ht]; exact h2
    · exact ⟨[], ⟨[], [], rfl, ⟨rfl, rfl⟩, rfl⟩, .inl ⟨rfl, .inr hself⟩⟩
  · intro x y b c r s hx hy ho hne h1 h2
    rcases hat x b hx with ⟨hx', hb⟩ | ⟨rfl, rfl⟩
    · rcases hat y c hy with ⟨hy', hc⟩ | ⟨rfl, rfl⟩
      · rw [hoth _ hx'] at h1; rw [hoth _ hy'] at h2
        exact h.relw.apart x y b c r s hb hc ho hne h1 h2
      · rw [hself] at h2; cases h2
    · rw [hself] at h1; cases h1
  · intro x b r hx ho h1
    rcases hat x b hx with ⟨hx', hb⟩ | ⟨rfl, rfl⟩
    · rw [hoth _ hx'] at h1; exact h.relw.mine x b r hb ho h1
    · rw [hself] at h1; cases h1
  · intro x b r hx h1
    rcases hat x b hx with ⟨hx', hb⟩ | ⟨rfl, rfl⟩
    · rw [hoth _ hx'] at h1; exact h.relw.live x b r hb h1
    · rw [hself] at h1; cases h1
  · intro t
    by_cases ht : t < st.slots.length
    · refine AV.con_agree hag ?_ (h.slot t)
      have hm : st.slots.getD t .u ∈ st.slots := by rw [List.getD_eq_getElem?_getD, List.getElem?_eq_getElem ht]; exact List.getElem_mem ht
      exact List.all_eq_true.1 hs _ hm
    · have : st.slots.getD t .u = .u := by rw [List.getD_eq_getElem?_getD, List.getElem?_eq_none (by omega)]; rfl
      show AV.con _ (st.slots.getD t .u) _
      rw [this]; trivial
  · intro t ht
    rw [hoth t (Nat.lt_of_lt_of_le ht h.len)]; exact h.fix t ht
  · have := h.len; simp; omega

/-- the nil slice as a row in the empty block n -/
theorem nil_rs {β : Env} {n z : Nat} {cs : List Value} (h : cs = [.slice none 0 0]) : Atom.con β (.rs n 0 0 z) cs := ⟨none, 0, h, Nat.le_refl _, fun h => absurd h (by omega)⟩

def isNil : Atom → Bool
  | .raw (.slice none 0 0) => true
  | _ => false
theorem isNil_con {β : Env} {a : Atom} (h : isNil a = true) {cs : List Value} (hc : a.con β cs) : cs = [.slice none 0 0] := by
  unfold isNil at h
  split at h
  · exact hc.1
  · simp at h

def nilAV : AV → Bool
  | .o (.a x) => isNil x
  | _ => false
theorem nilAV_con {β : Env} {x : AV} (h : nilAV x = true) {v : Value} (hc : x.con β v) : v = .slice none 0 0 := by
  unfold nilAV at h
  split at h
  · have := isNil_con h hc; simpa using this
  · simp at h

def nilAt (cells : List Atom) (p : Nat) : Bool :=
  match cells[p]? with
  | some x => isNil x
  | none => false

theorem cons_setNil {β : Env} {n z : Nat} : ∀ {l : List Atom} {p : Nat}, nilAt l p = true → ∀ {cs : List Value}, cons β l cs → cons β (l.set p (.rs n 0 0 z)) cs
  | [], p, h, _, _ => by simp [nilAt] at h
  | a :: r, 0, h, cs, hc => by
    obtain ⟨x, y, rfl, ha, hr⟩ := hc
    exact ⟨x, y, rfl, nil_rs (isNil_con h ha), hr⟩
  | a :: r, p + 1, h, cs, hc => by
    obtain ⟨x, y, rfl, ha, hr⟩ := hc
    exact ⟨x, y, rfl, ha, cons_setNil (p := p) (by simpa [nilAt] using h) hr⟩

/-- memory outside of the known blocks -/
def ImpOk (B : Bs) (v : Value) (k : IntKind) (len cap : Nat) (L : List Int) : Prop :=
  ∃ base, v = .slice base len cap ∧ len ≤ cap ∧ L.length = len ∧ (0 < cap → ∃ b off arr ty fr, base = some ⟨b, off, none⟩ ∧ b < B.w0.heap.size ∧ b ∉ B.rw ∧ B.w0.heap[b]? = some (.cells arr ty fr) ∧ off + len ≤ arr.size ∧ ∀ i x, L[i]? = some x → arr[off + i]? = some (.int k x))

inductive Tr where
  | forget (keep : List Nat) (kb : Nat)
  | swap (i j : Nat)
  | rowS (t : Nat) (k : IntKind) (z : Nat)
  | rowB (j p : Nat) (k : IntKind) (z : Nat)
  | imp (t : Nat) (v : Value) (k : IntKind) (len cap : Nat) (L : List Int)
  | eqS (t : Nat) (x : AV)
  | eqB (j : Nat) (b : Blk)
  | slrs (t z : Nat)

def isSl (x : AV) : Option (Nat × Nat × Nat × Nat) :=
  match x with
  | .o (.a (.sl j c len cap)) => some (j, c, len, cap)
  | _ => none
theorem isSl_ok {x : AV} {j c len cap : Nat} (h : isSl x = some (j, c, len, cap)) : x = .o (.a (.sl j c len cap)) := by
  unfold isSl at h
  split at h
  · simp only [Option.some.injEq, Prod.mk.injEq] at h; obtain ⟨rfl, rfl, rfl, rfl⟩ := h; rfl
  · simp at h

def isRaw (x : AV) : Option Value :=
  match x with
  | .o (.a (.raw v)) => some v
  | _ => none

def Tr.app (B : Bs) (t : Tr) (st : St) : Option (Option Prop × St) :=
  match t with
  | .forget keep kb => if B.k ≤ (st.K.take kb).length then some (none, X.forget keep kb st) else none
  | .swap i j => if i < st.K.length ∧ j < st.K.length ∧ B.k ≤ i ∧ B.k ≤ j then some (none, swapSt i j st) else none
  | .rowS t k z =>
    if (nilAV (st.slots.getD t .u) && st.K.nom st.K.length (st.K.length + 1) && st.slots.all (AV.nom st.K.length (st.K.length + 1))) = true then
      some (none, ⟨st.slots.set t (.o (.a (.rs st.K.length 0 0 z))), st.K ++ [some ⟨true, [.ints k 0 []]⟩]⟩) else none
  | .rowB j p k z =>
    (match st.K.at j with
     | some b =>
       if (nilAt b.cells p && st.K.nom st.K.length (st.K.length + 1) && st.slots.all (AV.nom st.K.length (st.K.length + 1))) = true then
         some (none, ⟨st.slots, (Know.set1 (st.K ++ [some ⟨true, [.ints k 0 []]⟩]) j (some ⟨b.own, b.cells.set p (.rs st.K.length 0 0 z)⟩))⟩) else none
     | none => none)
  | .imp t v k len cap L =>
    (match isRaw (st.slots.getD t .u) with
     | some v' =>
       if (st.K.nom st.K.length (st.K.length + 1) && st.slots.all (AV.nom st.K.length (st.K.length + 1))) = true then
         some (some (v' = v ∧ ImpOk B v k len cap L), ⟨st.slots.set t (.o (.a (.sl st.K.length 0 len cap))), st.K ++ [some ⟨false, [.ints k len L]⟩]⟩) else none
     | none => none)
  | .eqS t x => some (some (st.slots.getD t .u = x), ⟨st.slots.set t x, st.K⟩)
  | .eqB j b => some (some (st.K.at j = some b), ⟨st.slots, st.K.set1 j (some b)⟩)
  | .slrs t z =>
    (match isSl (st.slots.getD t .u) with
     | some (j, c, len, cap) =>
       (match st.K.at j with
        | some b => if 0 < z then some (some (c + mulz cap z ≤ sizes b.cells), ⟨st.slots.set t (.o (.a (.rs j c len z))), st.K⟩) else none
        | none => none)
     | none => none)

theorem slots_nom {st : St} {lo hi : Nat} (hs : st.slots.all (AV.nom lo hi) = true) (t : Nat) : (st.slots.getD t .u).nom lo hi = true := by
  by_cases ht : t < st.slots.length
  · have hm : st.slots.getD t .u ∈ st.slots := by rw [List.getD_eq_getElem?_getD, List.getElem?_eq_getElem ht]; exact List.getElem_mem ht
    exact List.all_eq_true.1 hs _ hm
  · rw [List.getD_eq_getElem?_getD, List.getElem?_eq_none (by omega)]; rfl

theorem Rel.setSlot {B : Bs} {β : Env} {st : St} {a : Act} {w : World} (h : Rel B β st a w) {t : Nat} {x : AV} (hx : x.con β (a.tmps.getD t undef)) : Rel B β ⟨st.slots.set t x, st.K⟩ a w := by
  refine ⟨h.relw, h.defers, by rw [h.size]; simp, fun s => ?_, h.fix, h.len⟩
  by_cases hs : s = t
  · subst hs
    by_cases hl : s < st.slots.length
    · have : (st.slots.set s x).getD s .u = x := by rw [List.getD_eq_getElem?_getD, List.getElem?_set]; simp [hl]
      rw [this]; exact hx
    · have : (st.slots.set s x).getD s .u = .u := by rw [List.getD_eq_getElem?_getD, List.getElem?_eq_none (by simp; omega)]; rfl
      rw [this]; trivial
  · have : (st.slots.set t x).getD s .u = st.slots.getD s .u := by
      rw [List.getD_eq_getElem?_getD, List.getElem?_set, if_neg (fun e => hs e.symm), List.getD_eq_getElem?_getD]
    rw [this]; exact h.slot s

theorem RelW.recell {w0 : World} {rw : List Nat} {β : Env} {K : Know} {w : World} (h : RelW w0 rw β K w) {j : Nat} {b : Blk} (hb : K.at j = some b) {cells : List Atom} (hc : ∀ cs, cons β b.cells cs → cons β cells cs) :
    RelW w0 rw β (K.set1 j (some ⟨b.own, cells⟩)) w := by
  have hat : ∀ x c, (K.set1 j (some ⟨b.own, cells⟩)).at x = some c → ∃ d, K.at x = some d ∧ d.own = c.own ∧ ∀ cs, cons β d.cells cs → cons β c.cells cs := by
    intro x c hx
    rw [Know.at_set1] at hx
    split at hx
    · rename_i e; subst e; simp only [Option.some.injEq] at hx; subst hx; exact ⟨b, hb, rfl, hc⟩
    · exact ⟨c, hx, rfl, fun _ h => h⟩
  refine ⟨?_, ?_, ?_, ?_, h.old, h.size, h.os, h.tape, h.output⟩
  · intro x c hx
    obtain ⟨d, hd, ho, hcs⟩ := hat x c hx
    obtain ⟨cs, h1, h2⟩ := h.holds x d hd
    exact ⟨cs, hcs cs h1, by rw [← ho]; exact h2⟩
  · intro x y c d r s hx hy ho
    obtain ⟨c', hc', ho', _⟩ := hat x c hx
    obtain ⟨d', hd', _, _⟩ := hat y d hy
    exact h.apart x y c' d' r s hc' hd' (ho'.trans ho)
  · intro x c r hx ho
    obtain ⟨c', hc', ho', _⟩ := hat x c hx
    exact h.mine x c' r hc' (ho'.trans ho)
  · intro x c r hx
    obtain ⟨c', hc', _, _⟩ := hat x c hx
    exact h.live x c' r hc'

theorem isRaw_ok {x : AV} {v : Value} (h : isRaw x = some v) {β : Env} {y : Value} (hc : x.con β y) : y = v := by
  unfold isRaw at h
  split at h
  · simp only [Option.some.injEq] at h; subst h
    have := hc.1; simpa using this
  · simp at h

theorem at_append1 {K : Know} {x : Option Blk} {t : Nat} {b : Blk} (hb : Know.at (K ++ [x]) t = some b) : (t < K.length ∧ K.at t = some b) ∨ (t = K.length ∧ x = some b) := by
  by_cases ht : t < K.length
  · left; refine ⟨ht, ?_⟩
    simpa [Know.at, List.getElem?_append_left ht] using hb
  · right
    unfold Know.at at hb
    rw [List.getElem?_append_right (by omega)] at hb
    by_cases he : t - K.length = 0
    · rw [he] at hb; simp at hb; exact ⟨by omega, hb⟩
    · rw [List.getElem?_eq_none (by simp; omega)] at hb; simp at hb

theorem imp_weak (B : Bs) {st : St} (hn : st.K.nom st.K.length (st.K.length + 1) = true) (hs : st.slots.all (AV.nom st.K.length (st.K.length + 1)) = true) {v : Value} {k : IntKind} {len cap : Nat} {L : List Int}
    (hi : ImpOk B v k len cap L) {β : Env} {a : Act} {w : World} (h : Rel B β st a w) :
    ∃ β', Rel B β' ⟨st.slots, st.K ++ [some ⟨false, [.ints k len L]⟩]⟩ a w ∧ (AV.o (.a (.sl st.K.length 0 len cap))).con β' v := by
  obtain ⟨base, rfl, hlc, hL, hb⟩ := hi
  have gen : ∀ rr : Option Ref, (∀ r, rr = some r → r.blk < B.w0.heap.size ∧ r.blk ∉ B.rw) →
      ((∃ r arr ty fr, rr = some r ∧ w.heap[r.blk]? = some (.cells arr ty fr) ∧ arr.size = r.size ∧ r.off + len ≤ r.size ∧ ∀ i x, L[i]? = some x → arr[r.off + i]? = some (.int k x)) ∨ len = 0) →
      Rel B (β.upd st.K.length rr) ⟨st.slots, st.K ++ [some ⟨false, [.ints k len L]⟩]⟩ a w := by
    intro rr hrr hold
    have hag := Env.agree_upd β st.K.length rr
    have hself : (β.upd st.K.length rr) st.K.length = rr := by unfold Env.upd; rw [if_pos rfl]
    have hoth : ∀ t, t < st.K.length → (β.upd st.K.length rr) t = β t := fun t ht => by unfold Env.upd; rw [if_neg (by omega)]
    have hsz := h.relw.size
    refine ⟨⟨?_, ?_, ?_, ?_, h.relw.old, h.relw.size, h.relw.os, h.relw.tape, h.relw.output⟩, h.defers, h.size, ?_, ?_, ?_⟩
    · intro t b hb
      rcases at_append1 hb with ⟨ht, hb2⟩ | ⟨rfl, hb2⟩
      · obtain ⟨cs, h1, h2⟩ := h.relw.holds t b hb2
        refine ⟨cs, cons_agree hag (Know.nom_at hn hb2) h1, ?_⟩
        rw [hoth t ht]; exact h2
      · simp only [Option.some.injEq] at hb2; subst hb2
        refine ⟨L.map (Value.int k), ⟨_, [], by simp, ⟨hL, rfl⟩, rfl⟩, ?_⟩
        rcases hold with ⟨r, arr, ty, fr, hr, hh, hsz, hl, ha⟩ | h0
        · refine .inr ⟨r, arr, ty, fr, by rw [hself]; exact hr, hh, hsz, by simp; omega, ?_, fun h => by cases h⟩
          intro i x hx
          rw [List.getElem?_map, Option.map_eq_some_iff] at hx
          obtain ⟨y, hy, rfl⟩ := hx
          exact ha i y hy
        · have : L = [] := List.length_eq_zero_iff.1 (by omega)
          subst this
          exact .inl ⟨rfl, .inl rfl⟩
    · intro x y b c r s hx hy ho hne h1 h2
      rcases at_append1 hx with ⟨hx', hb⟩ | ⟨rfl, hb⟩
      · rw [hoth _ hx'] at h1
        rcases at_append1 hy with ⟨hy', hc⟩ | ⟨rfl, hc⟩
        · rw [hoth _ hy'] at h2
          exact h.relw.apart x y b c r s hb hc ho hne h1 h2
        · rw [hself] at h2
          obtain ⟨g1, g2⟩ := hrr s h2
          rcases h.relw.mine x b r hb ho h1 with h3 | h3
          · omega
          · intro e; rw [e] at h3; exact g2 h3
      · simp only [Option.some.injEq] at hb; subst hb; cases ho
    · intro x b r hx ho h1
      rcases at_append1 hx with ⟨hx', hb⟩ | ⟨rfl, hb⟩
      · rw [hoth _ hx'] at h1; exact h.relw.mine x b r hb ho h1
      · simp only [Option.some.injEq] at hb; subst hb; cases ho
    · intro x b r hx h1
      rcases at_append1 hx with ⟨hx', hb⟩ | ⟨rfl, hb⟩
      · rw [hoth _ hx'] at h1; exact h.relw.live x b r hb h1
      · rw [hself] at h1
        exact Nat.lt_of_lt_of_le (hrr r h1).1 h.relw.size
    · intro t
      exact AV.con_agree hag (slots_nom hs t) (h.slot t)
    · intro t ht
      rw [hoth t (Nat.lt_of_lt_of_le ht h.len)]; exact h.fix t ht
    · have := h.len; simp; omega
  by_cases hc : 0 < cap
  · obtain ⟨b, off, arr, ty, fr, rfl, h1, h2, h3, h4, h5⟩ := hb hc
    refine ⟨_, gen (some ⟨b, off, arr.size⟩) (fun r hr => by cases hr; exact ⟨h1, h2⟩) (.inl ⟨_, arr, ty, fr, rfl, ?_, rfl, h4, h5⟩), _, rfl, hlc, fun _ => ⟨⟨b, off, arr.size⟩, ?_, rfl⟩⟩
    · show w.heap[b]? = _
      rw [h.relw.old b h1 h2]; exact h3
    · show (β.upd st.K.length (some ⟨b, off, arr.size⟩)) st.K.length = _
      unfold Env.upd; rw [if_pos rfl]
  · refine ⟨_, gen none (fun r hr => by cases hr) (.inr (by omega)), base, rfl, hlc, fun h => absurd h hc⟩

theorem Tr.weak {B : Bs} {t : Tr} {st st' : St} {vc : Option Prop} (h : t.app B st = some (vc, st')) (hv : okP vc) : Weak B st st' := by
  cases t with
  | forget keep kb =>
    simp only [Tr.app] at h
    split at h
    · rename_i hk
      simp only [Option.some.injEq, Prod.mk.injEq] at h; obtain ⟨rfl, rfl⟩ := h
      exact forget_weak B keep kb st hk
    · simp at h
  | swap i j =>
    simp only [Tr.app] at h
    split at h
    · rename_i hk
      simp only [Option.some.injEq, Prod.mk.injEq] at h; obtain ⟨rfl, rfl⟩ := h
      exact swap_weak B i j st hk.1 hk.2.1 hk.2.2.1 hk.2.2.2
    · simp at h
  | rowS t k z =>
    simp only [Tr.app] at h
    split at h
    · rename_i hk
      simp only [Bool.and_eq_true] at hk
      simp only [Option.some.injEq, Prod.mk.injEq] at h; obtain ⟨rfl, rfl⟩ := h
      intro β a w hR
      have h1 := rowNil B hk.1.2 hk.2 k hR
      refine ⟨_, Rel.setSlot h1 ?_⟩
      exact nil_rs (by rw [nilAV_con hk.1.1 (hR.slot t)])
    · simp at h
  | rowB j p k z =>
    simp only [Tr.app] at h
    split at h
    · rename_i b hb
      split at h
      · rename_i hk
        simp only [Bool.and_eq_true] at hk
        simp only [Option.some.injEq, Prod.mk.injEq] at h; obtain ⟨rfl, rfl⟩ := h
        intro β a w hR
        have h1 := rowNil B hk.1.2 hk.2 k hR
        have hj : j < st.K.length := by
          rcases Nat.lt_or_ge j st.K.length with h | h
          · exact h
          · rw [at_ge h] at hb; simp at hb
        have hb' : Know.at (st.K ++ [some ⟨true, [.ints k 0 []]⟩]) j = some b := by
          unfold Know.at at hb ⊢
          rw [List.getElem?_append_left hj]; exact hb
        refine ⟨_, RelW.recell h1.relw hb' (fun cs hc => cons_setNil hk.1.1 hc), h1.defers, h1.size, h1.slot, h1.fix, ?_⟩
        exact Nat.le_trans h1.len (set1_length _ _ _)
      · simp at h
    · simp at h
  | imp t v k len cap L =>
    simp only [Tr.app] at h
    split at h
    · rename_i v' hr
      split at h
      · rename_i hk
        simp only [Bool.and_eq_true] at hk
        simp only [Option.some.injEq, Prod.mk.injEq] at h; obtain ⟨rfl, rfl⟩ := h
        intro β a w hR
        obtain ⟨rfl, hi⟩ := hv
        obtain ⟨β', h1, h2⟩ := imp_weak B hk.1 hk.2 hi hR
        refine ⟨β', Rel.setSlot h1 ?_⟩
        rw [isRaw_ok hr (hR.slot t)]; exact h2
      · simp at h
    · simp at h

  | eqS t x =>
    simp only [Tr.app, Option.some.injEq, Prod.mk.injEq] at h
    obtain ⟨rfl, rfl⟩ := h
    intro β a w hR
    refine ⟨β, Rel.setSlot hR ?_⟩
    have hv : st.slots.getD t .u = x := hv
    rw [← hv]; exact hR.slot t
  | eqB j b =>
    simp only [Tr.app, Option.some.injEq, Prod.mk.injEq] at h
    obtain ⟨rfl, rfl⟩ := h
    intro β a w hR
    have hv : st.K.at j = some b := hv
    exact ⟨β, RelW.recell hR.relw hv (fun cs hc => hc), hR.defers, hR.size, hR.slot, hR.fix, Nat.le_trans hR.len (set1_length _ _ _)⟩

  | slrs t z =>
    simp only [Tr.app] at h
    split at h
    · rename_i j c len cap hsl
      split at h
      · rename_i b hb
        split at h
        · rename_i hz
          simp only [Option.some.injEq, Prod.mk.injEq] at h
          obtain ⟨rfl, rfl⟩ := h
          have hv : c + mulz cap z ≤ sizes b.cells := hv
          intro β a w hR
          refine ⟨β, Rel.setSlot hR ?_⟩
          have h1 := hR.slot t
          rw [isSl_ok hsl] at h1
          obtain ⟨base, hvv, hlc, hbase⟩ := h1
          refine ⟨base, cap, hvv, hlc, fun h0 => ?_⟩
          obtain ⟨r, hr, hb0⟩ := hbase h0
          refine ⟨r, hr, hb0, ?_⟩
          obtain ⟨cs, hc, hd⟩ := hR.relw.holds j b hb
          have hl := cons_len hc
          rw [mulz_eq] at hv
          have hpos : 0 < cap * z := Nat.mul_pos h0 hz
          rcases hd with ⟨rfl, _⟩ | ⟨r', arr, ty, fr, g1, g2, g3, g4, _⟩
          · simp at hl; omega
          · rw [hr] at g1; cases g1; omega
        · simp at h
      · simp at h
    · simp at h

def trs (B : Bs) : List Tr → St → List Prop → Option (List Prop × St)
  | [], st, vc => some (vc, st)
  | t :: r, st, vc =>
    (match t.app B st with
     | some (p, st') => trs B r st' (consP p vc)
     | none => none)

theorem trs_weak {B : Bs} : ∀ {l : List Tr} {st st' : St} {vc vc' : List Prop}, trs B l st vc = some (vc', st') → AllP vc' → AllP vc ∧ Weak B st st'
  | [], st, st', vc, vc', h, hv => by
    simp only [trs, Option.some.injEq, Prod.mk.injEq] at h; obtain ⟨rfl, rfl⟩ := h; exact ⟨hv, Weak.refl⟩
  | t :: r, st, st', vc, vc', h, hv => by
    simp only [trs] at h
    split at h
    · rename_i p st1 h1
      obtain ⟨h2, h3⟩ := trs_weak h hv
      obtain ⟨h4, h5⟩ := consP_sub h2
      exact ⟨h5, (Tr.weak h1 h4).trans h3⟩
    · simp at h
end Go.Proofs.Ytcpoldghkiiggaa.X

/- Code: evaluation with loops given by their states before and behind; rules for loops; whole functions. -/
namespace Go.Proofs.Ytcpoldghkiiggaa.X
open Go

inductive Ex where
  | normal
  | exit (id : Nat)
  | ret

def Ex.to : Ex → Exit
  | .normal => .normal
  | .exit id => .exit id
  | .ret => .ret

/-- from the state st, code comes to what post says -/
def Run (P : Program) (B : Bs) (c : Code) (st : St) (post : Ex → St → Prop) : Prop :=
  ∀ β a w, Rel B β st a w → ∀ Q : Exit → Act → World → Prop, (∀ e st' β' a' w', post e st' → Rel B β' st' a' w' → Q e.to a' w') → c.wp P Q a w

/-- so it ends, and so the state is -/
def To (B : Bs) (ex : Ex) (post : St) : Ex → St → Prop := fun e s => e = ex ∧ Weak B s post

theorem Run.mono {P : Program} {B : Bs} {c : Code} {st : St} {post post' : Ex → St → Prop} (h : Run P B c st post) (hp : ∀ e s, post e s → post' e s) : Run P B c st post' :=
  fun β a w hR Q hq => h β a w hR Q fun e st' β' a' w' hpost hR' => hq e st' β' a' w' (hp _ _ hpost) hR'

theorem Run.weak {P : Program} {B : Bs} {c : Code} {st st' : St} {post : Ex → St → Prop} (hw : Weak B st st') (h : Run P B c st' post) : Run P B c st post :=
  fun β a w hR Q hq => by
    obtain ⟨β', hR'⟩ := hw β a w hR
    exact h β' a w hR' Q hq

theorem Run.to_weak {P : Program} {B : Bs} {c : Code} {st : St} {ex : Ex} {s1 s2 : St} (h : Run P B c st (To B ex s1)) (hw : Weak B s1 s2) : Run P B c st (To B ex s2) :=
  h.mono fun _ _ hp => ⟨hp.1, hp.2.trans hw⟩

/-- what a loop is told to do: how the state before it is seen, how it ends, and the state behind it -/
structure Lp where
  tr : List Tr
  ex : Ex
  post : St

abbrev Lam := Nat → Option Lp
abbrev Psi := Nat → List Tr
def noPsi : Psi := fun _ => []
def noLam : Lam := fun _ => none
def psiOf : List (Nat × List Tr) → Psi
  | [], _ => []
  | (n, l) :: r, id => if n = id then l else psiOf r id

structure COut where
  ex : Ex
  ora : List Bool
  vc : List Prop
  st : St

section exec
variable (P : Program) (B : Bs) (T : Tab) (Γ : Gam) (Λ : Lam) (Ψ : Psi) (fuel : Nat)

/-- rounds of a loop, one by one -/
def iterR (f : List Bool → St → List Prop → Option COut) : Nat → List Bool → St → List Prop → Option COut
  | 0, _, _, _ => none
  | n + 1, ora, st, vc =>
    match f ora st vc with
    | some ⟨.normal, ora, vc, st⟩ => iterR f n ora st vc
    | x => x

def afterR (id : Nat) (o : Option Out) : Option COut :=
  match o with
  | some o => (match trs B (Ψ id) o.st o.vc with | some (vc, st) => some ⟨.normal, o.ora, vc, st⟩ | none => none)
  | none => none

def execC : Code → List Bool → St → List Prop → Option COut
  | .skip, ora, st, vc => some ⟨.normal, ora, vc, st⟩
  | .region id ops draw, ora, st, vc =>
    (match draw with
     | true => afterR B Ψ id (execDraw T Γ ops.toList ora st vc)
     | false => afterR B Ψ id (execOps T Γ ops.toList ops.toList ora st vc))
  | .seq a b, ora, st, vc =>
    (match execC a ora st vc with
     | some ⟨.normal, ora, vc, st⟩ => execC b ora st vc
     | x => x)
  | .cond c t e, ora, st, vc =>
    (match ev st.slots c, ora with
     | .o (.a (.b x)), true :: ora => execC t ora st ((x = true) :: vc)
     | .o (.a (.b x)), false :: ora => execC e ora st ((x = false) :: vc)
     | _, _ => none)
  | .block id c, ora, st, vc =>
    (match Λ id with
     | some l =>
       (match trs B l.tr st vc with
        | some (vc', st') => some ⟨l.ex, ora, Run P B (.block id c) st' (To B l.ex l.post) :: vc', l.post⟩
        | none => none)
     | none =>
       (match execC c ora st vc with
        | some ⟨.exit id', ora, vc, st⟩ => if id' = id then some ⟨.normal, ora, vc, st⟩ else some ⟨.exit id', ora, vc, st⟩
        | x => x))
  | .loop c, ora, st, vc => iterR (execC c) fuel ora st vc
  | .exit id, ora, st, vc => some ⟨.exit id, ora, vc, st⟩
  | .ret, ora, st, vc => some ⟨.ret, ora, vc, st⟩
  | _, _, _, _ => none
end exec

section sound
variable {P : Program} {T : Tab} {Γ : Gam} {B : Bs} {Λ : Lam} {Ψ : Psi} {fuel : Nat}

theorem execDraw_vc {ops : List Oper} {ora : List Bool} {st : St} {vc : List Prop} {out : Out} (h : execDraw T Γ ops ora st vc = some out) (hvc : AllP out.vc) : AllP vc := by
  unfold execDraw at h
  simp only at h
  split at h
  · rename_i d0 hd0
    obtain ⟨hs, d, hd, hchk, rfl⟩ := execDraw2_some hd0 h
    · have hok := drawOk_ok hchk
      have hm : MaskOk ops (masksOf ops []) := masksOf_ok _ _ [] [] (by simp) rfl (fun i j hij => by simp at hij)
      exact (drawGo_cert (fun i j hij => (hm i j hij).2 hok.lt) _ _ _ _ _ _ hd hvc rfl).2.1
  · simp at h

theorem afterR_some {id : Nat} {o : Option Out} {out : COut} (h : afterR B Ψ id o = some out) : ∃ o', o = some o' ∧ out.ex = .normal ∧ (AllP out.vc → AllP o'.vc ∧ Weak B o'.st out.st) := by
  unfold afterR at h
  split at h
  · rename_i o'
    split at h
    · rename_i vc st ht
      simp only [Option.some.injEq] at h; subst h
      exact ⟨o', rfl, rfl, fun hv => trs_weak ht hv⟩
    · simp at h
  · simp at h

theorem execC_sound (hmix : P.follows .mixedOrders = true) (hT : TabOk P T) (hΓ : GamAt P Γ B.w0 B.rw) : ∀ (c : Code) (ora : List Bool) (st : St) (vc : List Prop) (out : COut), execC P B T Γ Λ Ψ fuel c ora st vc = some out → AllP out.vc →
    AllP vc ∧ ∀ β a w, Rel B β st a w → ∀ Q : Exit → Act → World → Prop, (∀ β' a' w', Rel B β' out.st a' w' → Q out.ex.to a' w') → c.wp P Q a w := by
  intro c
  induction c with
  | skip =>
    intro ora st vc out h hvc
    simp only [execC, Option.some.injEq] at h; subst h
    exact ⟨hvc, fun β a w hR Q hq => wp_skip (hq β a w hR)⟩
  | region id ops draw =>
    intro ora st vc out h hvc
    cases draw with
    | true =>
      simp only [execC] at h
      obtain ⟨o, ho, hex, hw⟩ := afterR_some h
      obtain ⟨h1, h2⟩ := hw hvc
      refine ⟨execDraw_vc ho h1, fun β a w hR Q hq => draw_sound hmix hT hΓ ho h1 hR fun β' a' w' hR' => ?_⟩
      obtain ⟨β'', hR''⟩ := h2 _ _ _ hR'
      have := hq β'' a' w' hR''
      rw [hex] at this; exact this
    | false =>
      simp only [execC] at h
      obtain ⟨o, ho, hex, hw⟩ := afterR_some h
      obtain ⟨h1, h2⟩ := hw hvc
      refine ⟨execOps_vc _ _ _ _ _ ho h1, fun β a w hR Q hq => region_sound hT hΓ ho h1 hR fun β' a' w' hR' => ?_⟩
      obtain ⟨β'', hR''⟩ := h2 _ _ _ hR'
      have := hq β'' a' w' hR''
      rw [hex] at this; exact this
  | seq x y ihx ihy =>
    intro ora st vc out h hvc
    simp only [execC] at h
    split at h
    · rename_i ora1 vc1 st1 hx
      obtain ⟨h1, h2⟩ := ihy _ _ _ _ h hvc
      obtain ⟨h3, h4⟩ := ihx _ _ _ _ hx h1
      refine ⟨h3, fun β a w hR Q hq => wp_seq (h4 β a w hR _ fun β' a' w' hR' => ?_)⟩
      exact h2 β' a' w' hR' Q hq
    · rename_i hne
      obtain ⟨h3, h4⟩ := ihx _ _ _ _ h hvc
      refine ⟨h3, fun β a w hR Q hq => wp_seq (h4 β a w hR _ fun β' a' w' hR' => ?_)⟩
      obtain ⟨ex, o, v, s⟩ := out
      cases ex with
      | normal => exact absurd h (hne o v s)
      | exit id => exact hq β' a' w' hR'
      | ret => exact hq β' a' w' hR'
  | cond c t e iht ihe =>
    intro ora st vc out h hvc
    simp only [execC] at h
    split at h
    · rename_i x ora1 hc
      obtain ⟨h1, h2⟩ := iht _ _ _ _ h hvc
      have hx : x = true := h1 _ (by simp)
      refine ⟨fun p hp => h1 p (by simp [hp]), fun β a w hR Q hq => ?_⟩
      have hcon := ev_con hR.slot c
      rw [hc] at hcon
      simp only [AV.con, V1.con, Atom.con, List.cons.injEq, and_true] at hcon
      exact wp_cond_true (by rw [hcon, hx]) (h2 β a w hR Q hq)
    · rename_i x ora1 hc
      obtain ⟨h1, h2⟩ := ihe _ _ _ _ h hvc
      have hx : x = false := h1 _ (by simp)
      refine ⟨fun p hp => h1 p (by simp [hp]), fun β a w hR Q hq => ?_⟩
      have hcon := ev_con hR.slot c
      rw [hc] at hcon
      simp only [AV.con, V1.con, Atom.con, List.cons.injEq, and_true] at hcon
      exact wp_cond_false (by rw [hcon, hx]) (h2 β a w hR Q hq)
    · simp at h
  | block id c ih =>
    intro ora st vc out h hvc
    simp only [execC] at h
    split at h
    · rename_i l hl
      split at h
      · rename_i vc' st' ht
        simp only [Option.some.injEq] at h; subst h
        have h1 : Run P B (.block id c) st' (To B l.ex l.post) := hvc _ (by simp)
        obtain ⟨h2, h3⟩ := trs_weak ht (fun p hp => hvc p (by simp [hp]))
        refine ⟨h2, fun β a w hR Q hq => ?_⟩
        obtain ⟨β1, hR1⟩ := h3 β a w hR
        refine h1 β1 a w hR1 Q fun e st' β' a' w' hp hR' => ?_
        obtain ⟨rfl, hw⟩ := hp
        obtain ⟨β2, hR2⟩ := hw β' a' w' hR'
        exact hq β2 a' w' hR2
      · simp at h
    · split at h
      · rename_i id' ora1 vc1 st1 hc
        obtain ⟨h1, h2⟩ := ih _ _ _ _ hc (by
          split at h <;> (simp only [Option.some.injEq] at h; subst h; exact hvc))
        refine ⟨h1, fun β a w hR Q hq => wp_block (h2 β a w hR _ fun β' a' w' hR' => ?_)⟩
        show (if id' = id then Q .normal a' w' else Q (.exit id') a' w')
        split at h
        · rename_i he
          rw [if_pos he]
          simp only [Option.some.injEq] at h; subst h
          exact hq β' a' w' hR'
        · rename_i he
          rw [if_neg he]
          simp only [Option.some.injEq] at h; subst h
          exact hq β' a' w' hR'
      · rename_i hne
        obtain ⟨h1, h2⟩ := ih _ _ _ _ h hvc
        refine ⟨h1, fun β a w hR Q hq => wp_block (h2 β a w hR _ fun β' a' w' hR' => ?_)⟩
        obtain ⟨ex, o, v, s⟩ := out
        cases ex with
        | normal => exact hq β' a' w' hR'
        | exit id' => exact absurd h (hne id' o v s)
        | ret => exact hq β' a' w' hR'
  | loop c ih =>
    intro ora st vc out h hvc
    simp only [execC] at h
    have key : ∀ (n : Nat) (ora : List Bool) (st : St) (vc : List Prop), iterR (execC P B T Γ Λ Ψ fuel c) n ora st vc = some out →
        AllP vc ∧ ∀ β a w, Rel B β st a w → ∀ Q : Exit → Act → World → Prop, (∀ β' a' w', Rel B β' out.st a' w' → Q out.ex.to a' w') → Code.rounds P c Q n a w := by
      intro n
      induction n with
      | zero => intro ora st vc h; simp [iterR] at h
      | succ n ihn =>
        intro ora st vc h
        simp only [iterR] at h
        split at h
        · rename_i ora1 vc1 st1 hc
          obtain ⟨h1, h2⟩ := ihn _ _ _ h
          obtain ⟨h3, h4⟩ := ih _ _ _ _ hc h1
          refine ⟨h3, fun β a w hR Q hq => ?_⟩
          rw [rounds_succ]
          exact h4 β a w hR _ fun β' a' w' hR' => h2 β' a' w' hR' Q hq
        · rename_i hne
          obtain ⟨h3, h4⟩ := ih _ _ _ _ h hvc
          refine ⟨h3, fun β a w hR Q hq => ?_⟩
          rw [rounds_succ]
          refine h4 β a w hR _ fun β' a' w' hR' => ?_
          obtain ⟨ex, o, v, s⟩ := out
          cases ex with
          | normal => exact absurd h (hne o v s)
          | exit id => exact hq β' a' w' hR'
          | ret => exact hq β' a' w' hR'
    obtain ⟨h1, h2⟩ := key fuel ora st vc h
    exact ⟨h1, fun β a w hR Q hq => wp_loop_rounds fuel (h2 β a w hR Q hq)⟩
  | exit id =>
    intro ora st vc out h hvc
    simp only [execC, Option.some.injEq] at h; subst h
    exact ⟨hvc, fun β a w hR Q hq => wp_exit (hq β a w hR)⟩
  | ret =>
    intro ora st vc out h hvc
    simp only [execC, Option.some.injEq] at h; subst h
    exact ⟨hvc, fun β a w hR Q hq => wp_ret (hq β a w hR)⟩
  | rangeFunc f p x y => intro ora st vc out h; simp [execC] at h
  | scope c => intro ora st vc out h; simp [execC] at h
  | label l => intro ora st vc out h; simp [execC] at h
  | goto l => intro ora st vc out h; simp [execC] at h
  | refuse w => intro ora st vc out h; simp [execC] at h

theorem Run.exec (hmix : P.follows .mixedOrders = true) (hT : TabOk P T) (hΓ : GamAt P Γ B.w0 B.rw) (Λ : Lam) (Ψ : Psi) (fuel : Nat) {c : Code} (ora : List Bool) {st : St} {out : COut} (h : execC P B T Γ Λ Ψ fuel c ora st [] = some out) (hvc : AllP out.vc)
    {post : Ex → St → Prop} (hp : post out.ex out.st) : Run P B c st post :=
  fun β a w hR Q hq => (execC_sound hmix hT hΓ c ora st [] out h hvc).2 β a w hR Q fun β' a' w' hR' => hq _ _ β' a' w' hp hR'

/-- a loop whose head is met with the states X 0, X 1, .., X n, and that is left out of the last -/
theorem Run.loop {c : Code} (X : Nat → St) (n : Nat) {post : Ex → St → Prop} (hround : ∀ k, k < n → Run P B c (X k) (To B .normal (X (k + 1))))
    (hlast : Run P B c (X n) fun e s => e ≠ .normal ∧ post e s) : Run P B (.loop c) (X 0) post := by
  intro β a w hR Q hq
  refine wp_loop_rounds (n + 1) ?_
  have key : ∀ m k, k + m = n → ∀ β a w, Rel B β (X k) a w → Code.rounds P c Q (m + 1) a w := by
    intro m
    induction m with
    | zero =>
      intro k hk β a w hR
      have : k = n := by omega
      subst this
      rw [rounds_succ]
      refine hlast β a w hR _ fun e st' β' a' w' hp hR' => ?_
      cases e with
      | normal => exact absurd rfl hp.1
      | exit id => exact hq _ _ _ _ _ hp.2 hR'
      | ret => exact hq _ _ _ _ _ hp.2 hR'
    | succ m ih =>
      intro k hk β a w hR
      rw [rounds_succ]
      refine hround k (by omega) β a w hR _ fun e st' β' a' w' hp hR' => ?_
      obtain ⟨rfl, hw⟩ := hp
      obtain ⟨β2, hR2⟩ := hw β' a' w' hR'
      exact ih (k + 1) (by omega) β2 a' w' hR2
  exact key n 0 (by omega) β a w hR

theorem Run.block {id : Nat} {c : Code} {st : St} {post : Ex → St → Prop} (h : Run P B c st fun e s => match e with | .exit id' => if id' = id then post .normal s else post (.exit id') s | e => post e s) : Run P B (.block id c) st post := by
  intro β a w hR Q hq
  refine wp_block (h β a w hR _ fun e st' β' a' w' hp hR' => ?_)
  cases e with
  | normal => exact hq _ _ _ _ _ hp hR'
  | ret => exact hq _ _ _ _ _ hp hR'
  | exit id' =>
    show (if id' = id then Q .normal a' w' else Q (.exit id') a' w')
    simp only at hp
    split
    · rename_i he; rw [if_pos he] at hp; exact hq .normal _ _ _ _ hp hR'
    · rename_i he; rw [if_neg he] at hp; exact hq (.exit id') _ _ _ _ hp hR'

structure WOut where
  ex : Ex
  vc : List Prop
  st : St

def outT (B : Bs) (l : List Tr) (o : Option COut) : Option WOut :=
  match o with
  | some o => (match trs B l o.st o.vc with | some (vc, st) => some ⟨o.ex, vc, st⟩ | none => none)
  | none => none

theorem Run.of_outTAt (hmix : P.follows .mixedOrders = true) (hT : TabOk P T) (hΓ : GamAt P Γ B.w0 B.rw) {Λ : Lam} {Ψ : Psi} {fuel : Nat} {c : Code} {ora : List Bool} {st s' : St} {l : List Tr} {ex : Ex} {vc : List Prop}
    (h : outT B l (execC P B T Γ Λ Ψ fuel c ora st []) = some ⟨ex, vc, s'⟩) (hvc : AllP vc) : Run P B c st (To B ex s') := by
  unfold outT at h
  split at h
  · rename_i o ho
    split at h
    · rename_i vc1 st1 ht
      simp only [Option.some.injEq, WOut.mk.injEq] at h
      obtain ⟨rfl, rfl, rfl⟩ := h
      obtain ⟨h1, h2⟩ := trs_weak ht hvc
      exact Run.exec hmix hT hΓ Λ Ψ fuel ora ho h1 ⟨rfl, h2⟩
    · simp at h
  · simp at h

theorem Run.of_outT (hmix : P.follows .mixedOrders = true) (hT : TabOk P T) (hΓ : GamOk P Γ) {Λ : Lam} {Ψ : Psi} {fuel : Nat} {c : Code} {ora : List Bool} {st s' : St} {l : List Tr} {ex : Ex} {vc : List Prop}
    (h : outT B l (execC P B T Γ Λ Ψ fuel c ora st []) = some ⟨ex, vc, s'⟩) (hvc : AllP vc) : Run P B c st (To B ex s') :=
  Run.of_outTAt hmix hT (hΓ.at _ _) h hvc

def blkEx (id : Nat) : Ex → Ex
  | .exit i => if i = id then .normal else .exit i
  | e => e

/-- a loop in its block: the states at its head, the last round, the state behind it -/
theorem Run.count {id : Nat} {c : Code} (X : Nat → St) (n : Nat) {ex : Ex} {post : St} (hround : ∀ k, k < n → Run P B c (X k) (To B .normal (X (k + 1)))) (he : ex ≠ .normal)
    (hlast : Run P B c (X n) (To B ex post)) : Run P B (.block id (.loop c)) (X 0) (To B (blkEx id ex) post) := by
  refine Run.block ?_
  refine Run.loop X n hround (hlast.mono fun e s h => ?_)
  obtain ⟨rfl, hw⟩ := h
  refine ⟨he, ?_⟩
  cases e with
  | normal => exact absurd rfl he
  | ret => exact ⟨rfl, hw⟩
  | exit i =>
    simp only
    split
    · rename_i h; exact ⟨by simp [blkEx, h], hw⟩
    · rename_i h; exact ⟨by simp [blkEx, h], hw⟩

end sound
end Go.Proofs.Ytcpoldghkiiggaa.X

