/- Bodies by evaluation; tables of contracts. -/
import Derived.Test.YtepimglipelpmaaXO
namespace Go.Proofs.Ytepimglipelpmaa.X
open Go

structure FOut where
  ret : Bool
  vc : List Prop
  xs : List V1

def exRet : Ex → Bool
  | .exit _ => false
  | _ => true

def fin (B : Bs) (T : Tab) (rs : List ResultVar) (l : List Tr) (o : Option COut) : Option FOut :=
  match o with
  | some o => (match trs B l o.st o.vc with
    | some (vc, st) => (match resL T st rs with
      | some xs => some ⟨exRet o.ex, vc, xs⟩
      | none => none)
    | none => none)
  | none => none

/-- likewise, with the blocks behind it -/
structure FOutK where
  ret : Bool
  vc : List Prop
  xs : List V1
  K : Know

def finK (B : Bs) (T : Tab) (rs : List ResultVar) (l : List Tr) (mk : Nat) (o : Option COut) : Option FOutK :=
  match o with
  | some o => (match trs B l o.st o.vc with
    | some (vc, st) => (match resL T st rs with
      | some xs => some ⟨exRet o.ex, vc, xs, st.K.take mk⟩
      | none => none)
    | none => none)
  | none => none

theorem exRet_ok {e : Ex} (h : exRet e = true) : e = .normal ∨ e = .ret := by
  cases e <;> simp_all [exRet]

theorem Body.of_finK {P : Program} {T : Tab} {Γ : Gam} {B : Bs} {Λ : Lam} {Ψ : Psi} {fuel : Nat} (hmix : P.follows .mixedOrders = true) (hT : TabOk P T) (hΓ : GamOk P Γ) {fn : Func} {c : Code} (hb : fn.body = some c) {rs : List ResultVar} (hrs : fn.results = rs.toArray) {m : Nat} (hm : fn.ntmps = m) (ora : List Bool) (l : List Tr) (mk : Nat) {avs : List AV} {K0 K : Know}
    {vc : List Prop} {xs : List V1} (h : finK B T rs l mk (execC P B T Γ Λ Ψ fuel c ora ⟨avs ++ List.replicate (m - avs.length) .u, K0⟩ []) = some ⟨true, vc, xs, K⟩) (hvc : AllP vc) : Body P T fn B avs K0 fun ys K' => ys = xs ∧ K' = K := by
  refine ⟨c, hb, ?_⟩
  rw [hm]
  unfold finK at h
  split at h
  · rename_i o ho
    split at h
    · rename_i vc1 st1 ht
      split at h
      · rename_i ys hys
        simp only [Option.some.injEq, FOutK.mk.injEq] at h
        obtain ⟨h1, rfl, rfl, rfl⟩ := h
        obtain ⟨h2, h3⟩ := trs_weak ht hvc
        exact Run.exec hmix hT hΓ Λ Ψ fuel ora ho h2 ⟨exRet_ok h1, _, h3, _, mk, by rw [hrs]; exact hys, rfl, rfl⟩
      · simp at h
    · simp at h
  · simp at h

theorem Body.of_fin {P : Program} {T : Tab} {Γ : Gam} {B : Bs} {Λ : Lam} {Ψ : Psi} {fuel : Nat} (hmix : P.follows .mixedOrders = true) (hT : TabOk P T) (hΓ : GamOk P Γ) {fn : Func} {c : Code} (hb : fn.body = some c) {rs : List ResultVar} (hrs : fn.results = rs.toArray) {m : Nat} (hm : fn.ntmps = m) (ora : List Bool) (l : List Tr) {avs : List AV} {K0 : Know}
    {vc : List Prop} {xs : List V1} (h : fin B T rs l (execC P B T Γ Λ Ψ fuel c ora ⟨avs ++ List.replicate (m - avs.length) .u, K0⟩ []) = some ⟨true, vc, xs⟩) (hvc : AllP vc) : Body P T fn B avs K0 fun ys _ => ys = xs := by
  refine ⟨c, hb, ?_⟩
  rw [hm]
  unfold fin at h
  split at h
  · rename_i o ho
    split at h
    · rename_i vc1 st1 ht
      split at h
      · rename_i ys hys
        simp only [Option.some.injEq, FOut.mk.injEq] at h
        obtain ⟨h1, rfl, rfl⟩ := h
        obtain ⟨h2, h3⟩ := trs_weak ht hvc
        exact Run.exec hmix hT hΓ Λ Ψ fuel ora ho h2 ⟨exRet_ok h1, _, h3, _, 0, by rw [hrs]; exact hys, rfl⟩
      · simp at h
    · simp at h
  · simp at h

/- tables of contracts -/
def gnil : Gam := fun _ _ _ _ => none
theorem gnil_ok {P : Program} : GamOk P gnil := ⟨fun _ _ _ _ _ h => by simp [gnil] at h, fun _ _ _ _ _ h => by simp [gnil] at h, fun _ _ _ _ _ _ h => by simp [gnil] at h⟩

/-- a function of values alone -/
def gpure (f : FuncId) (entry : List AV → Option (Option Prop × List V1)) (rest : Gam) : Gam := fun g K n args =>
  if f = g then (match entry args with | some (vc, xs) => some ⟨vc, retOf xs, [], 0⟩ | none => none) else rest g K n args

theorem toA_of {β : Env} : ∀ {l : List V1} {vs : List Value}, allC β (toA l) vs → all2 β l vs
  | [], _, h => h
  | _ :: _, _, ⟨v, rest, hv, hx, hr⟩ => ⟨v, rest, hv, hx, toA_of hr⟩

theorem gpure_ok {P : Program} {f : FuncId} {entry : List AV → Option (Option Prop × List V1)} {rest : Gam} (hr : GamOk P rest) (he : ∀ (as : Array Value) (w : World), (callFunc f as).run P w = .ok (.enter f as) w)
    (h : ∀ args vc xs, entry args = some (vc, xs) → okP vc → ∃ as, args = toA as ∧ PureC P f as xs) : GamOk P (gpure f entry rest) := by
  refine ⟨?_, ?_, ?_⟩
  · intro g K n args s hs
    unfold gpure at hs
    split at hs
    · rename_i hg; subst hg; exact he
    · exact hr.enter _ _ _ _ _ hs
  · intro g K n args s hs hvc w0 rw β w xs hx hR hn hK
    unfold gpure at hs
    split at hs
    · rename_i hg; subst hg
      split at hs
      · rename_i vc ys hy
        simp only [Option.some.injEq] at hs; subst hs
        obtain ⟨as, rfl, hp⟩ := h _ _ _ hy hvc
        refine Calls.mono (hp β w xs (toA_of hx)) fun e w' he' => ?_
        obtain ⟨v, rfl, hv, hg⟩ := he'
        exact ⟨v, β, rfl, agree_refl _ _ _, hv, hR.grow hg⟩
      · simp at hs
    · exact hr.calls _ _ _ _ _ hs hvc w0 rw β w xs hx hR hn hK
  · intro g K K' n args s hs hk
    unfold gpure at hs ⊢
    split at hs
    · rename_i hg; rw [if_pos hg]; exact hs
    · rename_i hg; rw [if_neg hg]; exact hr.mono _ _ _ _ _ _ hs hk

/-- a function that reads known blocks and answers values without pointers into new memory -/
def ReadC (P : Program) (f : FuncId) (K : Know) (args : List AV) (res : List V1) : Prop :=
  ∀ w0 rw β w vs, RelW w0 rw β K w → allC β args vs → Calls P f vs.toArray w fun e w' => ∃ v, e = .returned v ∧ (retOf res).con β v ∧ Grow w w'

def gread (f : FuncId) (entry : Know → List AV → Option (Option Prop × List V1)) (rest : Gam) : Gam := fun g K n args =>
  if f = g then (match entry K args with | some (vc, xs) => some ⟨vc, retOf xs, [], 0⟩ | none => none) else rest g K n args

theorem gread_ok {P : Program} {f : FuncId} {entry : Know → List AV → Option (Option Prop × List V1)} {rest : Gam} (hr : GamOk P rest) (he : ∀ (as : Array Value) (w : World), (callFunc f as).run P w = .ok (.enter f as) w)
    (h : ∀ K args vc xs, entry K args = some (vc, xs) → okP vc → ReadC P f K args xs) (hm : ∀ K K' args r, entry K args = some r → Knows K K' → entry K' args = some r) : GamOk P (gread f entry rest) := by
  refine ⟨?_, ?_, ?_⟩
  · intro g K n args s hs
    unfold gread at hs
    split at hs
    · rename_i hg; subst hg; exact he
    · exact hr.enter _ _ _ _ _ hs
  · intro g K n args s hs hvc w0 rw β w xs hx hR hn hK
    unfold gread at hs
    split at hs
    · rename_i hg; subst hg
      split at hs
      · rename_i vc ys hy
        simp only [Option.some.injEq] at hs; subst hs
        refine Calls.mono (h _ _ _ _ hy hvc w0 rw β w xs hR hx) fun e w' he' => ?_
        obtain ⟨v, rfl, hv, hg⟩ := he'
        exact ⟨v, β, rfl, agree_refl _ _ _, hv, hR.grow hg⟩
      · simp at hs
    · exact hr.calls _ _ _ _ _ hs hvc w0 rw β w xs hx hR hn hK
  · intro g K K' n args s hs hk
    unfold gread at hs ⊢
    split at hs
    · rename_i hg
      rw [if_pos hg]
      split at hs
      · rename_i vc ys hy
        rw [hm _ _ _ _ hy hk]; exact hs
      · simp at hs
    · rename_i hg; rw [if_neg hg]; exact hr.mono _ _ _ _ _ _ hs hk

/-- any function, by its whole effect -/
def gfull (f : FuncId) (entry : Know → Nat → List AV → Option Rx) (rest : Gam) : Gam := fun g K n args => if f = g then entry K n args else rest g K n args

def FullC (P : Program) (f : FuncId) (K : Know) (n : Nat) (args : List AV) (s : Rx) : Prop :=
  ∀ w0 rw β w xs, allC β args xs → RelW w0 rw β K w → (∀ i, i < s.fr → K.at (n + i) = none) → K.nom n (n + s.fr) = true →
    Calls P f xs.toArray w fun e w' => ∃ v β', e = .returned v ∧ Agree n (n + s.fr) β β' ∧ s.val.con β' v ∧ RelW w0 rw β' (app K s.ch) w'

theorem gfull_ok {P : Program} {f : FuncId} {entry : Know → Nat → List AV → Option Rx} {rest : Gam} (hr : GamOk P rest) (he : ∀ (as : Array Value) (w : World), (callFunc f as).run P w = .ok (.enter f as) w)
    (h : ∀ K n args s, entry K n args = some s → okP s.vc → FullC P f K n args s) (hm : ∀ K K' n args r, entry K n args = some r → Knows K K' → entry K' n args = some r) : GamOk P (gfull f entry rest) := by
  refine ⟨?_, ?_, ?_⟩
  · intro g K n args s hs
    unfold gfull at hs
    split at hs
    · rename_i hg; subst hg; exact he
    · exact hr.enter _ _ _ _ _ hs
  · intro g K n args s hs hvc w0 rw β w xs hx hR hn hK
    unfold gfull at hs
    split at hs
    · rename_i hg; subst hg
      exact h _ _ _ _ hs hvc w0 rw β w xs hx hR hn hK
    · exact hr.calls _ _ _ _ _ hs hvc w0 rw β w xs hx hR hn hK
  · intro g K K' n args s hs hk
    unfold gfull at hs ⊢
    split at hs
    · rename_i hg; rw [if_pos hg]; exact hm _ _ _ _ _ hs hk
    · rename_i hg; rw [if_neg hg]; exact hr.mono _ _ _ _ _ _ hs hk

/-- a state with few known slots -/
def look (l : List (Nat × AV)) (t : Nat) : AV :=
  match l with
  | [] => .u
  | (n, x) :: r => if n = t then x else look r t
def sparse (n : Nat) (l : List (Nat × AV)) : List AV := (List.range n).map (look l)

/-- lists as a loop leaves them behind k rounds -/
def iter {α : Type} (step : Nat → α → α) : Nat → α → α
  | 0, s => s
  | k + 1, s => step k (iter step k s)

theorem AllP_nil : AllP [] := fun _ h => by simp at h
theorem AllP_cons {p : Prop} {l : List Prop} (h : p) (hl : AllP l) : AllP (p :: l) := fun q hq => by
  rcases List.mem_cons.1 hq with rfl | hq
  · exact h
  · exact hl q hq

theorem wrap_nn {k : IntKind} {x : Int} (h : k.signed = false) : 0 ≤ k.wrap x := by
  unfold IntKind.wrap
  simp only [h, Bool.false_and, Bool.false_eq_true, if_false]
  exact Int.emod_nonneg _ (by cases k <;> decide)

theorem bits2_nn {op : BinOp} {k : IntKind} {x y : Int} (h : k.signed = false) : 0 ≤ bits2 op k x y := by
  unfold bits2
  cases op <;> exact wrap_nn h

/-- the body of the loop in the block of that number -/
def loopOf (id : Nat) : Code → Option Code
  | .block i c => if i = id then (match c with | .loop d => some d | _ => none) else loopOf id c
  | .seq a b => (match loopOf id a with | some c => some c | none => loopOf id b)
  | .cond _ a b => (match loopOf id a with | some c => some c | none => loopOf id b)
  | .loop c => loopOf id c
  | _ => none

noncomputable def loopB (fn : Func) (id : Nat) : Code := (loopOf id (fn.body.getD .skip)).getD .skip

def lamOf : List (Nat × Lp) → Lam
  | [], _ => none
  | (n, l) :: r, id => if n = id then some l else lamOf r id

theorem wrapI {x : Int} (h0 : -9223372036854775808 ≤ x) (h1 : x < 9223372036854775808) : IntKind.i64.wrap x = x := by
  show (let m := x % (18446744073709551616 : Int); if (true && decide (m ≥ (9223372036854775808 : Int))) = true then m - 18446744073709551616 else m) = x
  simp only [Bool.true_and, decide_eq_true_eq]
  split <;> omega

theorem wrap_succ {n : Nat} (h : n < 4611686018427387904) : IntKind.i64.wrap ((n : Int) + 1) = ((n + 1 : Nat) : Int) := by
  rw [wrapI (by omega) (by omega)]; rfl

theorem wrapU {x : Int} (h0 : 0 ≤ x) (h1 : x < 18446744073709551616) : IntKind.u64.wrap x = x := by
  show (let m := x % (18446744073709551616 : Int); if (false && decide (m ≥ (9223372036854775808 : Int))) = true then m - 18446744073709551616 else m) = x
  simp only [Bool.false_and, Bool.false_eq_true, if_false]
  omega
end Go.Proofs.Ytepimglipelpmaa.X
