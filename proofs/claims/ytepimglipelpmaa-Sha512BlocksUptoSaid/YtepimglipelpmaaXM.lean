/- Code: evaluation with loops given by their states before and behind; rules for loops; whole functions. -/
import Derived.Test.YtepimglipelpmaaXT
import Derived.LoopN
namespace Go.Proofs.Ytepimglipelpmaa.X
open Go

inductive Ex where
  | normal
  | exit (id : Nat)
  | ret

def Ex.to : Ex → Exit
  | .normal => .normal
  | .exit id => .exit id
  | .ret => .ret

/-- from the state st, code comes to what post says -/
def Run (P : Program) (B : Bs) (c : Code) (st : St) (post : Ex → St → Prop) : Prop :=
  ∀ β a w, Rel B β st a w → ∀ Q : Exit → Act → World → Prop, (∀ e st' β' a' w', post e st' → Rel B β' st' a' w' → Q e.to a' w') → c.wp P Q a w

/-- so it ends, and so the state is -/
def To (B : Bs) (ex : Ex) (post : St) : Ex → St → Prop := fun e s => e = ex ∧ Weak B s post

theorem Run.mono {P : Program} {B : Bs} {c : Code} {st : St} {post post' : Ex → St → Prop} (h : Run P B c st post) (hp : ∀ e s, post e s → post' e s) : Run P B c st post' :=
  fun β a w hR Q hq => h β a w hR Q fun e st' β' a' w' hpost hR' => hq e st' β' a' w' (hp _ _ hpost) hR'

theorem Run.weak {P : Program} {B : Bs} {c : Code} {st st' : St} {post : Ex → St → Prop} (hw : Weak B st st') (h : Run P B c st' post) : Run P B c st post :=
  fun β a w hR Q hq => by
    obtain ⟨β', hR'⟩ := hw β a w hR
    exact h β' a w hR' Q hq

theorem Run.to_weak {P : Program} {B : Bs} {c : Code} {st : St} {ex : Ex} {s1 s2 : St} (h : Run P B c st (To B ex s1)) (hw : Weak B s1 s2) : Run P B c st (To B ex s2) :=
  h.mono fun _ _ hp => ⟨hp.1, hp.2.trans hw⟩

/-- what a loop is told to do: how the state before it is seen, how it ends, and the state behind it -/
structure Lp where
  tr : List Tr
  ex : Ex
  post : St

abbrev Lam := Nat → Option Lp
abbrev Psi := Nat → List Tr
def noPsi : Psi := fun _ => []
def noLam : Lam := fun _ => none
def psiOf : List (Nat × List Tr) → Psi
  | [], _ => []
  | (n, l) :: r, id => if n = id then l else psiOf r id

structure COut where
  ex : Ex
  ora : List Bool
  vc : List Prop
  st : St

section exec
variable (P : Program) (B : Bs) (T : Tab) (Γ : Gam) (Λ : Lam) (Ψ : Psi) (fuel : Nat)

/-- rounds of a loop, one by one -/
def iterR (f : List Bool → St → List Prop → Option COut) : Nat → List Bool → St → List Prop → Option COut
  | 0, _, _, _ => none
  | n + 1, ora, st, vc =>
    match f ora st vc with
    | some ⟨.normal, ora, vc, st⟩ => iterR f n ora st vc
    | x => x

def afterR (id : Nat) (o : Option Out) : Option COut :=
  match o with
  | some o => (match trs B (Ψ id) o.st o.vc with | some (vc, st) => some ⟨.normal, o.ora, vc, st⟩ | none => none)
  | none => none

def execC : Code → List Bool → St → List Prop → Option COut
  | .skip, ora, st, vc => some ⟨.normal, ora, vc, st⟩
  | .region id ops draw, ora, st, vc =>
    (match draw with
     | true => afterR B Ψ id (execDraw T Γ ops.toList ora st vc)
     | false => afterR B Ψ id (execOps T Γ ops.toList ops.toList ora st vc))
  | .seq a b, ora, st, vc =>
    (match execC a ora st vc with
     | some ⟨.normal, ora, vc, st⟩ => execC b ora st vc
     | x => x)
  | .cond c t e, ora, st, vc =>
    (match ev st.slots c, ora with
     | .o (.a (.b x)), true :: ora => execC t ora st ((x = true) :: vc)
     | .o (.a (.b x)), false :: ora => execC e ora st ((x = false) :: vc)
     | _, _ => none)
  | .block id c, ora, st, vc =>
    (match Λ id with
     | some l =>
       (match trs B l.tr st vc with
        | some (vc', st') => some ⟨l.ex, ora, Run P B (.block id c) st' (To B l.ex l.post) :: vc', l.post⟩
        | none => none)
     | none =>
       (match execC c ora st vc with
        | some ⟨.exit id', ora, vc, st⟩ => if id' = id then some ⟨.normal, ora, vc, st⟩ else some ⟨.exit id', ora, vc, st⟩
        | x => x))
  | .loop c, ora, st, vc => iterR (execC c) fuel ora st vc
  | .exit id, ora, st, vc => some ⟨.exit id, ora, vc, st⟩
  | .ret, ora, st, vc => some ⟨.ret, ora, vc, st⟩
  | _, _, _, _ => none
end exec

section sound
variable {P : Program} {T : Tab} {Γ : Gam} {B : Bs} {Λ : Lam} {Ψ : Psi} {fuel : Nat}

theorem execDraw_vc {ops : List Oper} {ora : List Bool} {st : St} {vc : List Prop} {out : Out} (h : execDraw T Γ ops ora st vc = some out) (hvc : AllP out.vc) : AllP vc := by
  unfold execDraw at h
  simp only at h
  split at h
  · rename_i d0 hd0
    obtain ⟨hs, d, hd, hchk, rfl⟩ := execDraw2_some hd0 h
    · have hok := drawOk_ok hchk
      have hm : MaskOk ops (masksOf ops []) := masksOf_ok _ _ [] [] (by simp) rfl (fun i j hij => by simp at hij)
      exact (drawGo_cert (fun i j hij => (hm i j hij).2 hok.lt) _ _ _ _ _ _ hd hvc rfl).2.1
  · simp at h

theorem afterR_some {id : Nat} {o : Option Out} {out : COut} (h : afterR B Ψ id o = some out) : ∃ o', o = some o' ∧ out.ex = .normal ∧ (AllP out.vc → AllP o'.vc ∧ Weak B o'.st out.st) := by
  unfold afterR at h
  split at h
  · rename_i o'
    split at h
    · rename_i vc st ht
      simp only [Option.some.injEq] at h; subst h
      exact ⟨o', rfl, rfl, fun hv => trs_weak ht hv⟩
    · simp at h
  · simp at h

theorem execC_sound (hmix : P.follows .mixedOrders = true) (hT : TabOk P T) (hΓ : GamOk P Γ) : ∀ (c : Code) (ora : List Bool) (st : St) (vc : List Prop) (out : COut), execC P B T Γ Λ Ψ fuel c ora st vc = some out → AllP out.vc →
    AllP vc ∧ ∀ β a w, Rel B β st a w → ∀ Q : Exit → Act → World → Prop, (∀ β' a' w', Rel B β' out.st a' w' → Q out.ex.to a' w') → c.wp P Q a w := by
  intro c
  induction c with
  | skip =>
    intro ora st vc out h hvc
    simp only [execC, Option.some.injEq] at h; subst h
    exact ⟨hvc, fun β a w hR Q hq => wp_skip (hq β a w hR)⟩
  | region id ops draw =>
    intro ora st vc out h hvc
    cases draw with
    | true =>
      simp only [execC] at h
      obtain ⟨o, ho, hex, hw⟩ := afterR_some h
      obtain ⟨h1, h2⟩ := hw hvc
      refine ⟨execDraw_vc ho h1, fun β a w hR Q hq => draw_sound hmix hT hΓ ho h1 hR fun β' a' w' hR' => ?_⟩
      obtain ⟨β'', hR''⟩ := h2 _ _ _ hR'
      have := hq β'' a' w' hR''
      rw [hex] at this; exact this
    | false =>
      simp only [execC] at h
      obtain ⟨o, ho, hex, hw⟩ := afterR_some h
      obtain ⟨h1, h2⟩ := hw hvc
      refine ⟨execOps_vc _ _ _ _ _ ho h1, fun β a w hR Q hq => region_sound hT hΓ ho h1 hR fun β' a' w' hR' => ?_⟩
      obtain ⟨β'', hR''⟩ := h2 _ _ _ hR'
      have := hq β'' a' w' hR''
      rw [hex] at this; exact this
  | seq x y ihx ihy =>
    intro ora st vc out h hvc
    simp only [execC] at h
    split at h
    · rename_i ora1 vc1 st1 hx
      obtain ⟨h1, h2⟩ := ihy _ _ _ _ h hvc
      obtain ⟨h3, h4⟩ := ihx _ _ _ _ hx h1
      refine ⟨h3, fun β a w hR Q hq => wp_seq (h4 β a w hR _ fun β' a' w' hR' => ?_)⟩
      exact h2 β' a' w' hR' Q hq
    · rename_i hne
      obtain ⟨h3, h4⟩ := ihx _ _ _ _ h hvc
      refine ⟨h3, fun β a w hR Q hq => wp_seq (h4 β a w hR _ fun β' a' w' hR' => ?_)⟩
      obtain ⟨ex, o, v, s⟩ := out
      cases ex with
      | normal => exact absurd h (hne o v s)
      | exit id => exact hq β' a' w' hR'
      | ret => exact hq β' a' w' hR'
  | cond c t e iht ihe =>
    intro ora st vc out h hvc
    simp only [execC] at h
    split at h
    · rename_i x ora1 hc
      obtain ⟨h1, h2⟩ := iht _ _ _ _ h hvc
      have hx : x = true := h1 _ (by simp)
      refine ⟨fun p hp => h1 p (by simp [hp]), fun β a w hR Q hq => ?_⟩
      have hcon := ev_con hR.slot c
      rw [hc] at hcon
      simp only [AV.con, V1.con, Atom.con, List.cons.injEq, and_true] at hcon
      exact wp_cond_true (by rw [hcon, hx]) (h2 β a w hR Q hq)
    · rename_i x ora1 hc
      obtain ⟨h1, h2⟩ := ihe _ _ _ _ h hvc
      have hx : x = false := h1 _ (by simp)
      refine ⟨fun p hp => h1 p (by simp [hp]), fun β a w hR Q hq => ?_⟩
      have hcon := ev_con hR.slot c
      rw [hc] at hcon
      simp only [AV.con, V1.con, Atom.con, List.cons.injEq, and_true] at hcon
      exact wp_cond_false (by rw [hcon, hx]) (h2 β a w hR Q hq)
    · simp at h
  | block id c ih =>
    intro ora st vc out h hvc
    simp only [execC] at h
    split at h
    · rename_i l hl
      split at h
      · rename_i vc' st' ht
        simp only [Option.some.injEq] at h; subst h
        have h1 : Run P B (.block id c) st' (To B l.ex l.post) := hvc _ (by simp)
        obtain ⟨h2, h3⟩ := trs_weak ht (fun p hp => hvc p (by simp [hp]))
        refine ⟨h2, fun β a w hR Q hq => ?_⟩
        obtain ⟨β1, hR1⟩ := h3 β a w hR
        refine h1 β1 a w hR1 Q fun e st' β' a' w' hp hR' => ?_
        obtain ⟨rfl, hw⟩ := hp
        obtain ⟨β2, hR2⟩ := hw β' a' w' hR'
        exact hq β2 a' w' hR2
      · simp at h
    · split at h
      · rename_i id' ora1 vc1 st1 hc
        obtain ⟨h1, h2⟩ := ih _ _ _ _ hc (by
          split at h <;> (simp only [Option.some.injEq] at h; subst h; exact hvc))
        refine ⟨h1, fun β a w hR Q hq => wp_block (h2 β a w hR _ fun β' a' w' hR' => ?_)⟩
        show (if id' = id then Q .normal a' w' else Q (.exit id') a' w')
        split at h
        · rename_i he
          rw [if_pos he]
          simp only [Option.some.injEq] at h; subst h
          exact hq β' a' w' hR'
        · rename_i he
          rw [if_neg he]
          simp only [Option.some.injEq] at h; subst h
          exact hq β' a' w' hR'
      · rename_i hne
        obtain ⟨h1, h2⟩ := ih _ _ _ _ h hvc
        refine ⟨h1, fun β a w hR Q hq => wp_block (h2 β a w hR _ fun β' a' w' hR' => ?_)⟩
        obtain ⟨ex, o, v, s⟩ := out
        cases ex with
        | normal => exact hq β' a' w' hR'
        | exit id' => exact absurd h (hne id' o v s)
        | ret => exact hq β' a' w' hR'
  | loop c ih =>
    intro ora st vc out h hvc
    simp only [execC] at h
    have key : ∀ (n : Nat) (ora : List Bool) (st : St) (vc : List Prop), iterR (execC P B T Γ Λ Ψ fuel c) n ora st vc = some out →
        AllP vc ∧ ∀ β a w, Rel B β st a w → ∀ Q : Exit → Act → World → Prop, (∀ β' a' w', Rel B β' out.st a' w' → Q out.ex.to a' w') → Code.rounds P c Q n a w := by
      intro n
      induction n with
      | zero => intro ora st vc h; simp [iterR] at h
      | succ n ihn =>
        intro ora st vc h
        simp only [iterR] at h
        split at h
        · rename_i ora1 vc1 st1 hc
          obtain ⟨h1, h2⟩ := ihn _ _ _ h
          obtain ⟨h3, h4⟩ := ih _ _ _ _ hc h1
          refine ⟨h3, fun β a w hR Q hq => ?_⟩
          rw [rounds_succ]
          exact h4 β a w hR _ fun β' a' w' hR' => h2 β' a' w' hR' Q hq
        · rename_i hne
          obtain ⟨h3, h4⟩ := ih _ _ _ _ h hvc
          refine ⟨h3, fun β a w hR Q hq => ?_⟩
          rw [rounds_succ]
          refine h4 β a w hR _ fun β' a' w' hR' => ?_
          obtain ⟨ex, o, v, s⟩ := out
          cases ex with
          | normal => exact absurd h (hne o v s)
          | exit id => exact hq β' a' w' hR'
          | ret => exact hq β' a' w' hR'
    obtain ⟨h1, h2⟩ := key fuel ora st vc h
    exact ⟨h1, fun β a w hR Q hq => wp_loop_rounds fuel (h2 β a w hR Q hq)⟩
  | exit id =>
    intro ora st vc out h hvc
    simp only [execC, Option.some.injEq] at h; subst h
    exact ⟨hvc, fun β a w hR Q hq => wp_exit (hq β a w hR)⟩
  | ret =>
    intro ora st vc out h hvc
    simp only [execC, Option.some.injEq] at h; subst h
    exact ⟨hvc, fun β a w hR Q hq => wp_ret (hq β a w hR)⟩
  | rangeFunc f p x y => intro ora st vc out h; simp [execC] at h
  | scope c => intro ora st vc out h; simp [execC] at h
  | label l => intro ora st vc out h; simp [execC] at h
  | goto l => intro ora st vc out h; simp [execC] at h
  | refuse w => intro ora st vc out h; simp [execC] at h

theorem Run.exec (hmix : P.follows .mixedOrders = true) (hT : TabOk P T) (hΓ : GamOk P Γ) (Λ : Lam) (Ψ : Psi) (fuel : Nat) {c : Code} (ora : List Bool) {st : St} {out : COut} (h : execC P B T Γ Λ Ψ fuel c ora st [] = some out) (hvc : AllP out.vc)
    {post : Ex → St → Prop} (hp : post out.ex out.st) : Run P B c st post :=
  fun β a w hR Q hq => (execC_sound hmix hT hΓ c ora st [] out h hvc).2 β a w hR Q fun β' a' w' hR' => hq _ _ β' a' w' hp hR'

/-- a loop whose head is met with the states X 0, X 1, .., X n, and that is left out of the last -/
theorem Run.loop {c : Code} (X : Nat → St) (n : Nat) {post : Ex → St → Prop} (hround : ∀ k, k < n → Run P B c (X k) (To B .normal (X (k + 1))))
    (hlast : Run P B c (X n) fun e s => e ≠ .normal ∧ post e s) : Run P B (.loop c) (X 0) post := by
  intro β a w hR Q hq
  refine wp_loop_rounds (n + 1) ?_
  have key : ∀ m k, k + m = n → ∀ β a w, Rel B β (X k) a w → Code.rounds P c Q (m + 1) a w := by
    intro m
    induction m with
    | zero =>
      intro k hk β a w hR
      have : k = n := by omega
      subst this
      rw [rounds_succ]
      refine hlast β a w hR _ fun e st' β' a' w' hp hR' => ?_
      cases e with
      | normal => exact absurd rfl hp.1
      | exit id => exact hq _ _ _ _ _ hp.2 hR'
      | ret => exact hq _ _ _ _ _ hp.2 hR'
    | succ m ih =>
      intro k hk β a w hR
      rw [rounds_succ]
      refine hround k (by omega) β a w hR _ fun e st' β' a' w' hp hR' => ?_
      obtain ⟨rfl, hw⟩ := hp
      obtain ⟨β2, hR2⟩ := hw β' a' w' hR'
      exact ih (k + 1) (by omega) β2 a' w' hR2
  exact key n 0 (by omega) β a w hR

theorem Run.block {id : Nat} {c : Code} {st : St} {post : Ex → St → Prop} (h : Run P B c st fun e s => match e with | .exit id' => if id' = id then post .normal s else post (.exit id') s | e => post e s) : Run P B (.block id c) st post := by
  intro β a w hR Q hq
  refine wp_block (h β a w hR _ fun e st' β' a' w' hp hR' => ?_)
  cases e with
  | normal => exact hq _ _ _ _ _ hp hR'
  | ret => exact hq _ _ _ _ _ hp hR'
  | exit id' =>
    show (if id' = id then Q .normal a' w' else Q (.exit id') a' w')
    simp only at hp
    split
    · rename_i he; rw [if_pos he] at hp; exact hq .normal _ _ _ _ hp hR'
    · rename_i he; rw [if_neg he] at hp; exact hq (.exit id') _ _ _ _ hp hR'

structure WOut where
  ex : Ex
  vc : List Prop
  st : St

def outT (B : Bs) (l : List Tr) (o : Option COut) : Option WOut :=
  match o with
  | some o => (match trs B l o.st o.vc with | some (vc, st) => some ⟨o.ex, vc, st⟩ | none => none)
  | none => none

theorem Run.of_outT (hmix : P.follows .mixedOrders = true) (hT : TabOk P T) (hΓ : GamOk P Γ) {Λ : Lam} {Ψ : Psi} {fuel : Nat} {c : Code} {ora : List Bool} {st s' : St} {l : List Tr} {ex : Ex} {vc : List Prop}
    (h : outT B l (execC P B T Γ Λ Ψ fuel c ora st []) = some ⟨ex, vc, s'⟩) (hvc : AllP vc) : Run P B c st (To B ex s') := by
  unfold outT at h
  split at h
  · rename_i o ho
    split at h
    · rename_i vc1 st1 ht
      simp only [Option.some.injEq, WOut.mk.injEq] at h
      obtain ⟨rfl, rfl, rfl⟩ := h
      obtain ⟨h1, h2⟩ := trs_weak ht hvc
      exact Run.exec hmix hT hΓ Λ Ψ fuel ora ho h1 ⟨rfl, h2⟩
    · simp at h
  · simp at h

def blkEx (id : Nat) : Ex → Ex
  | .exit i => if i = id then .normal else .exit i
  | e => e

/-- a loop in its block: the states at its head, the last round, the state behind it -/
theorem Run.count {id : Nat} {c : Code} (X : Nat → St) (n : Nat) {ex : Ex} {post : St} (hround : ∀ k, k < n → Run P B c (X k) (To B .normal (X (k + 1)))) (he : ex ≠ .normal)
    (hlast : Run P B c (X n) (To B ex post)) : Run P B (.block id (.loop c)) (X 0) (To B (blkEx id ex) post) := by
  refine Run.block ?_
  refine Run.loop X n hround (hlast.mono fun e s h => ?_)
  obtain ⟨rfl, hw⟩ := h
  refine ⟨he, ?_⟩
  cases e with
  | normal => exact absurd rfl he
  | ret => exact ⟨rfl, hw⟩
  | exit i =>
    simp only
    split
    · rename_i h; exact ⟨by simp [blkEx, h], hw⟩
    · rename_i h; exact ⟨by simp [blkEx, h], hw⟩

end sound
end Go.Proofs.Ytepimglipelpmaa.X
