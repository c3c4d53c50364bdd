/- Contracts of functions that read and write blocks which they are handed: from the body over the callee's own names. -/
import Derived.Test.YtepimglipelpmaaXQ
namespace Go.Proofs.Ytepimglipelpmaa.X
open Go

def Atom.idxs : Atom → List Nat
  | .p j _ | .ps j _ | .sl j _ _ _ | .rs j _ _ _ => [j]
  | _ => []
def V1.idxs : V1 → List Nat
  | .a x => x.idxs
  | .g l => l.flatMap Atom.idxs
def AV.idxs : AV → List Nat
  | .o x => x.idxs
  | .t l => l.flatMap V1.idxs
  | .f _ l => l.flatMap V1.idxs
  | .u => []

/-- the blocks that are reached from some, by their own pointers, in the order in which they are met -/
def reach (K : Know) : Nat → List Nat → List Nat → Option (List Nat)
  | 0, _, _ => none
  | _ + 1, [], acc => some acc
  | f + 1, j :: r, acc => if acc.contains j = true then reach K f r acc else (match K.at j with | some b => reach K f (b.cells.flatMap Atom.idxs ++ r) (acc ++ [j]) | none => none)

inductive AW where
  | w
  | s (z : Nat)
  | p (m : Nat)

def rootsOf : List AW → List AV → List Nat
  | .w :: ss, a :: r => a.idxs ++ rootsOf ss r
  | _ :: ss, _ :: r => rootsOf ss r
  | _, _ => []

def inPk (pk : List Nat) (j : Nat) : Bool := pk.contains j
def posn (pk : List Nat) (j : Nat) : Nat := pk.idxOf j

def wkOf (K : Know) (pk : List Nat) : List Nat → List Bool → Option (List Blk)
  | [], _ => some []
  | j :: r, ow =>
    (match K.at j with
     | some b => if ((b.own || !ow.headD false) && b.cells.all (Atom.allI (inPk pk))) = true then
         (match wkOf K pk r ow.tail with
          | some l => some (⟨ow.headD false, b.cells.map (Atom.ren (posn pk))⟩ :: l)
          | none => none) else none
     | none => none)

def mkW (K : Know) (pk : List Nat) : List AW → List AV → Nat → List Nat → Option (List Prop × List Vw × List AV)
  | [], [], _, _ => some ([], [], [])
  | .w :: ss, a :: r, i, caps =>
    if a.allI (inPk pk) = true then
      (match mkW K pk ss r i caps.tail with
       | some (ps, vs, as) => some (True :: ps, vs, a.ren (posn pk) :: as)
       | none => none) else none
  | .s z :: ss, a :: r, i, caps =>
    (match arg1 K (.s z) a i (caps.headD 0) with
     | some (p, some v, a') => (match mkW K pk ss r (i + 1) caps.tail with
       | some (ps, vs, as) => some (p :: ps, v :: vs, a' :: as)
       | none => none)
     | _ => none)
  | .p m :: ss, a :: r, i, caps =>
    (match arg1 K (.p m) a i (caps.headD 0) with
     | some (p, some v, a') => (match mkW K pk ss r (i + 1) caps.tail with
       | some (ps, vs, as) => some (p :: ps, v :: vs, a' :: as)
       | none => none)
     | _ => none)
  | _, _, _, _ => none

/-- arguments with other capacities -/
def recap : List AW → List AV → List Nat → List AV
  | .s _ :: ss, .o (.a (.sl j c l _)) :: r, caps => .o (.a (.sl j c l (caps.headD 0))) :: recap ss r caps.tail
  | _ :: ss, a :: r, caps => a :: recap ss r caps.tail
  | _, _, _ => []

def ownAt (wk : List Blk) (i : Nat) : Bool :=
  match wk[i]? with
  | some b => b.own
  | none => false

def viewsOk (pk : List Nat) (wk : List Blk) (vs : List Vw) : Bool := (List.range pk.length).all fun i => !ownAt wk i || vs.all fun v => decide (v.j ≠ pk.getD i 0)

def nodupB : List Nat → Bool
  | [] => true
  | x :: r => !r.contains x && nodupB r

def sgm (pk : List Nat) (l0 n i : Nat) : Nat := if i < l0 then pk.getD i 0 else n + (i - l0)
def okI (np l0 l1 i : Nat) : Bool := decide (i < np ∨ (l0 ≤ i ∧ i < l1))

def chOf (pk : List Nat) (wk : List Blk) (l0 n : Nat) (K1 : Know) : List (Nat × Option Blk) :=
  ((List.range pk.length).filter (ownAt wk)).map (fun i => (pk.getD i 0, (K1.at i).map (Blk.ren (sgm pk l0 n)))) ++ (List.range (K1.length - l0)).map (fun m => (n + m, (K1.at (l0 + m)).map (Blk.ren (sgm pk l0 n))))

def blkOk (np l0 l1 : Nat) : Option Blk → Bool
  | some b => b.cells.all (Atom.allI (okI np l0 l1))
  | none => true
def freshOwn : Option Blk → Bool
  | some b => b.own
  | none => true

def gcallE (ow : List Bool) (specs : List AW) (entry : List Blk → List Vw → List AV → Option (Prop × List V1 × Know)) (K : Know) (n : Nat) (args : List AV) : Option Rx :=
  match reach K 64 (rootsOf specs args) [] with
  | none => none
  | some pk =>
    (match wkOf K pk pk ow with
     | none => none
     | some wk =>
       (match mkW K pk specs args pk.length [] with
        | none => none
        | some (ps, vs, as) =>
          (match entry wk vs as with
           | none => none
           | some (p, xs, K1) =>
             if (viewsOk pk wk vs && nodupB pk && xs.all (V1.allI (okI pk.length (pk.length + vs.length) K1.length)) && K1.all (blkOk pk.length (pk.length + vs.length) K1.length) && (K1.drop (pk.length + vs.length)).all freshOwn && decide (pk.length + vs.length ≤ K1.length)) = true then
               some ⟨some (conjP ps ∧ p), (retOf xs).ren (sgm pk (pk.length + vs.length) n), chOf pk wk (pk.length + vs.length) n K1, K1.length - (pk.length + vs.length)⟩
             else none)))

/- renaming, back -/
section ren
variable {β β' : Env} {ρ : Nat → Nat} {p : Nat → Bool} (h : ∀ j, p j = true → β' (ρ j) = β j)
include h
theorem allC_ren : ∀ {l : List AV}, l.all (AV.allI p) = true → ∀ {vs : List Value}, allC β l vs → allC β' (l.map (AV.ren ρ)) vs
  | [], _, vs, hc => hc
  | x :: r, hn, vs, hc => by
    simp only [List.all_cons, Bool.and_eq_true] at hn
    obtain ⟨v, rest, rfl, hx, hr⟩ := hc
    exact ⟨v, rest, rfl, AV.con_ren h hn.1 hx, allC_ren hn.2 hr⟩
end ren

theorem nodupB_ok : ∀ {l : List Nat}, nodupB l = true → ∀ i j, i < l.length → j < l.length → l.getD i 0 = l.getD j 0 → i = j
  | [], _, i, j, hi, _, _ => by simp at hi
  | x :: r, h, i, j, hi, hj, he => by
    simp only [nodupB, Bool.and_eq_true, Bool.not_eq_true', List.contains_eq_mem, decide_eq_false_iff_not] at h
    obtain ⟨h1, h2⟩ := h
    have mem : ∀ k, k < r.length → r.getD k 0 ∈ r := fun k hk => by rw [List.getD_eq_getElem?_getD, List.getElem?_eq_getElem hk]; exact List.getElem_mem hk
    cases i with
    | zero =>
      cases j with
      | zero => rfl
      | succ j =>
        simp only [List.getD_cons_zero, List.getD_cons_succ, List.length_cons] at he hj
        exact absurd (he ▸ mem j (by omega)) h1
    | succ i =>
      cases j with
      | zero =>
        simp only [List.getD_cons_zero, List.getD_cons_succ, List.length_cons] at he hi
        exact absurd (he ▸ mem i (by omega)) h1
      | succ j =>
        simp only [List.getD_cons_succ, List.length_cons] at he hi hj
        rw [nodupB_ok h2 i j (by omega) (by omega) he]

/-- the callee's names -/
def envW (pk : List Nat) (β : Env) (vs : List Vw) : Env := fun i => if i < pk.length then β (pk.getD i 0) else envV β vs (i - pk.length)

theorem posn_ok {pk : List Nat} {j : Nat} (h : inPk pk j = true) : posn pk j < pk.length ∧ pk.getD (posn pk j) 0 = j := by
  simp only [inPk, List.contains_eq_mem, decide_eq_true_eq] at h
  have hl := List.idxOf_lt_length_of_mem h
  refine ⟨hl, ?_⟩
  unfold posn
  rw [List.getD_eq_getElem?_getD, List.getElem?_eq_getElem hl]
  simp

theorem envW_posn {pk : List Nat} {β : Env} {vs : List Vw} {j : Nat} (h : inPk pk j = true) : envW pk β vs (posn pk j) = β j := by
  obtain ⟨h1, h2⟩ := posn_ok h
  unfold envW; rw [if_pos h1, h2]

theorem wkOf_ok {K : Know} {pk : List Nat} : ∀ {l : List Nat} {ow : List Bool} {wk : List Blk}, wkOf K pk l ow = some wk → wk.length = l.length ∧ ∀ (i : Nat) (b : Blk), wk[i]? = some b → ∃ b', K.at (l.getD i 0) = some b' ∧ (b.own = true → b'.own = true) ∧ b'.cells.all (Atom.allI (inPk pk)) = true ∧ b.cells = b'.cells.map (Atom.ren (posn pk))
  | [], ow, wk, h => by simp only [wkOf, Option.some.injEq] at h; subst h; exact ⟨rfl, fun i b hi => by simp at hi⟩
  | j :: r, ow, wk, h => by
    simp only [wkOf] at h
    split at h
    · rename_i b hb
      split at h
      · rename_i hc
        simp only [Bool.and_eq_true] at hc
        split at h
        · rename_i l hl
          simp only [Option.some.injEq] at h; subst h
          obtain ⟨h1, h2⟩ := wkOf_ok hl
          refine ⟨by simp [h1], fun i c hi => ?_⟩
          cases i with
          | zero =>
            simp only [List.getElem?_cons_zero, Option.some.injEq] at hi; subst hi
            refine ⟨b, hb, fun ho => ?_, hc.2, rfl⟩
            have := hc.1
            simp only at ho
            rw [ho] at this; simpa using this
          | succ i => simp only [List.getElem?_cons_succ] at hi; simpa using h2 i c hi
        · simp at h
      · simp at h
    · simp at h

theorem envW_mid (pk : List Nat) (β : Env) (pre : List Vw) (v : Vw) (post : List Vw) : envW pk β (pre ++ v :: post) (pk.length + pre.length) = shiftR v.c (β v.j) := by
  unfold envW
  rw [if_neg (by omega), show pk.length + pre.length - pk.length = pre.length by omega, envV_mid]

theorem mkW_ok {β : Env} {K : Know} {pk : List Nat} : ∀ (ss : List AW) (args : List AV) (pre : List Vw) (caps0 : List Nat) (ps : List Prop) (vs : List Vw) (as0 : List AV) (vals : List Value), mkW K pk ss args (pk.length + pre.length) caps0 = some (ps, vs, as0) → conjP ps → allC β args vals →
    (∀ v ∈ vs, VwOk β K v) ∧ ∃ caps : List Nat, ∀ post, allC (envW pk β (pre ++ vs ++ post)) (recap ss as0 caps) vals
  | [], [], pre, caps0, ps, vs, as0, vals, h, hp, ha => by
    simp only [mkW, Option.some.injEq, Prod.mk.injEq] at h; obtain ⟨rfl, rfl, rfl⟩ := h
    exact ⟨fun v hv => by simp at hv, [], fun _ => ha⟩
  | [], a :: r, pre, caps0, ps, vs, as0, vals, h, hp, ha => by simp [mkW] at h
  | sp :: ss, [], pre, caps0, ps, vs, as0, vals, h, hp, ha => by cases sp <;> simp [mkW] at h
  | .w :: ss, a :: r, pre, caps0, ps, vs, as0, vals, h, hp, ha => by
    simp only [mkW] at h
    obtain ⟨v, rest, rfl, hv, hr⟩ := ha
    split at h
    · rename_i hall
      split at h
      · rename_i ps1 vs1 as1 h2
        simp only [Option.some.injEq, Prod.mk.injEq] at h; obtain ⟨rfl, rfl, rfl⟩ := h
        obtain ⟨k1, caps, k3⟩ := mkW_ok ss r pre _ _ _ _ rest h2 hp.2 hr
        exact ⟨k1, 0 :: caps, fun post => ⟨v, rest, rfl, AV.con_ren (fun j hj => envW_posn hj) hall hv, k3 post⟩⟩
      · simp at h
    · simp at h
  | .s z :: ss, a :: r, pre, caps0, ps, vs, as0, vals, h, hp, ha => by
    simp only [mkW] at h
    obtain ⟨v, rest, rfl, hv, hr⟩ := ha
    split at h
    · rename_i p vw a' h1
      split at h
      · rename_i ps1 vs1 as1 h2
        simp only [Option.some.injEq, Prod.mk.injEq] at h; obtain ⟨rfl, rfl, rfl⟩ := h
        obtain ⟨g1, cap, a2, g2, g3⟩ := arg1_ok h1 hp.1 hv
        obtain ⟨k1, caps, k3⟩ := mkW_ok ss r (pre ++ [vw]) _ _ _ _ rest (by simpa [Nat.add_assoc] using h2) hp.2 hr
        have e1 := (arg1_s h1).2
        have e2 := (arg1_s g2).2
        refine ⟨?_, cap :: caps, fun post => ?_⟩
        · intro w hw
          rcases List.mem_cons.1 hw with rfl | hw
          · exact g1 _ rfl
          · exact k1 w hw
        · subst e1
          refine ⟨v, rest, rfl, ?_, ?_⟩
          · have := g3 (envW pk β (pre ++ vw :: vs1 ++ post)) fun x hx => by
              cases hx
              rw [List.append_assoc, List.cons_append, envW_mid]
            rw [e2] at this
            simpa using this
          · have := k3 post
            simpa using this
      · simp at h
    · simp at h
  | .p m :: ss, a :: r, pre, caps0, ps, vs, as0, vals, h, hp, ha => by
    simp only [mkW] at h
    obtain ⟨v, rest, rfl, hv, hr⟩ := ha
    split at h
    · rename_i p vw a' h1
      split at h
      · rename_i ps1 vs1 as1 h2
        simp only [Option.some.injEq, Prod.mk.injEq] at h; obtain ⟨rfl, rfl, rfl⟩ := h
        obtain ⟨g1, cap, a2, g2, g3⟩ := arg1_ok h1 hp.1 hv
        obtain ⟨k1, caps, k3⟩ := mkW_ok ss r (pre ++ [vw]) _ _ _ _ rest (by simpa [Nat.add_assoc] using h2) hp.2 hr
        have e1 := (arg1_p h1).2
        have e2 := (arg1_p g2).2
        refine ⟨?_, cap :: caps, fun post => ?_⟩
        · intro w hw
          rcases List.mem_cons.1 hw with rfl | hw
          · exact g1 _ rfl
          · exact k1 w hw
        · subst e1
          refine ⟨v, rest, rfl, ?_, ?_⟩
          · have := g3 (envW pk β (pre ++ vw :: vs1 ++ post)) fun x hx => by
              cases hx
              rw [List.append_assoc, List.cons_append, envW_mid]
            rw [e2] at this
            exact this
          · have := k3 post
            simpa using this
      · simp at h
    · simp at h

theorem app_some : ∀ (ch : List (Nat × Option Blk)) (K : Know) (t : Nat) (b : Blk), (app K ch).at t = some b → (t, some b) ∈ ch ∨ (K.at t = some b ∧ ∀ x, (t, x) ∉ ch)
  | [], K, t, b, h => .inr ⟨h, fun x hx => by simp at hx⟩
  | (j, x) :: r, K, t, b, h => by
    rcases app_some r _ t b h with h1 | ⟨h1, h2⟩
    · exact .inl (List.mem_cons_of_mem _ h1)
    · rw [Know.at_set1] at h1
      split at h1
      · rename_i e; subst e; subst h1; exact .inl List.mem_cons_self
      · rename_i e
        refine .inr ⟨h1, fun y hy => ?_⟩
        rcases List.mem_cons.1 hy with hy | hy
        · cases hy; exact e rfl
        · exact h2 y hy
end Go.Proofs.Ytepimglipelpmaa.X
