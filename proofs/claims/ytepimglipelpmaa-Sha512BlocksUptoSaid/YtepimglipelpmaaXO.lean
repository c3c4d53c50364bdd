/- Tables of types, checked by evaluation; small adaptors for contracts of functions. -/
import Derived.Test.YtepimglipelpmaaXN
namespace Go.Proofs.Ytepimglipelpmaa.X
open Go

def flatA : List Atom → Option (List Value)
  | [] => some []
  | .i k n :: r => (flatA r).map (.int k n :: ·)
  | .b x :: r => (flatA r).map (.bool x :: ·)
  | .raw v :: r => if v.oneCell' then (flatA r).map (v :: ·) else none
  | .ints k n l :: r => if l.length = n then (flatA r).map (l.map (Value.int k) ++ ·) else none
  | _ => none

theorem flatA_con {β : Env} : ∀ {l : List Atom} {cs : List Value}, flatA l = some cs → cons β l cs
  | [], cs, h => by simp only [flatA, Option.some.injEq] at h; subst h; rfl
  | a :: r, cs, h => by
    cases a <;> simp only [flatA, reduceCtorEq] at h
    case i k n =>
      simp only [Option.map_eq_some_iff] at h
      obtain ⟨ds, hd, rfl⟩ := h
      exact ⟨[_], ds, rfl, rfl, flatA_con hd⟩
    case b x =>
      simp only [Option.map_eq_some_iff] at h
      obtain ⟨ds, hd, rfl⟩ := h
      exact ⟨[_], ds, rfl, rfl, flatA_con hd⟩
    case raw v =>
      split at h
      · rename_i h1
        simp only [Option.map_eq_some_iff] at h
        obtain ⟨ds, hd, rfl⟩ := h
        exact ⟨[_], ds, rfl, ⟨rfl, h1⟩, flatA_con hd⟩
      · simp at h
    case ints k n l =>
      split at h
      · rename_i h1
        simp only [Option.map_eq_some_iff] at h
        obtain ⟨ds, hd, rfl⟩ := h
        exact ⟨_, ds, rfl, ⟨h1, rfl⟩, flatA_con hd⟩
      · simp at h

theorem TEOk.of {P : Program} {t : TypeId} {e : TE} (hu : P.underlying t = some e.d) {i : TypeInfo} (hi : P.info? t = some i) (hs : i.size = e.size) (hb : i.bytes = e.bytes) {z : Value} (hz : i.zero = some z)
    (hf : flatA e.zero = some z.cells.toList) (hq : e.eqok = true → P.eqGuardType P.depth t = false) (hzs : sizes e.zero = e.size) : TEOk P t e :=
  ⟨hu, ⟨i, z, hi, hs, hb, hz, fun _ => flatA_con hf⟩, hq, hzs⟩

def tabOf : List (Nat × TE) → Tab
  | [], _ => none
  | (n, e) :: r, t => if n = t then some e else tabOf r t

theorem tabOf_nil {P : Program} : TabOk P (tabOf []) := fun _ _ h => by simp [tabOf] at h
theorem tabOf_cons {P : Program} {n : Nat} {e : TE} {r : List (Nat × TE)} (h : TEOk P n e) (hr : TabOk P (tabOf r)) : TabOk P (tabOf ((n, e) :: r)) := by
  intro t e' h'
  simp only [tabOf] at h'
  split at h'
  · rename_i ht; subst ht; simp only [Option.some.injEq] at h'; subst h'; exact h
  · exact hr t e' h'

/- values without pointers -/
def Atom.flat : Atom → Bool
  | .p .. | .ps .. | .sl .. | .rs .. => false
  | _ => true
def V1.flat : V1 → Bool
  | .a x => x.flat
  | .g l => l.all Atom.flat

theorem Atom.flat_con {β β' : Env} {a : Atom} (h : a.flat = true) {cs : List Value} (hc : a.con β cs) : a.con β' cs := by
  cases a <;> simp only [Atom.flat, reduceCtorEq] at h <;> exact hc
theorem cons_flat {β β' : Env} : ∀ {l : List Atom}, l.all Atom.flat = true → ∀ {cs : List Value}, cons β l cs → cons β' l cs
  | [], _, _, hc => hc
  | a :: r, h, cs, hc => by
    simp only [List.all_cons, Bool.and_eq_true] at h
    obtain ⟨x, y, rfl, ha, hr⟩ := hc
    exact ⟨x, y, rfl, Atom.flat_con h.1 ha, cons_flat h.2 hr⟩
theorem V1.flat_con {β β' : Env} {x : V1} (h : x.flat = true) {v : Value} (hc : x.con β v) : x.con β' v := by
  cases x with
  | a x => exact Atom.flat_con h hc
  | g l => obtain ⟨cs, rfl, hc⟩ := hc; exact ⟨cs, rfl, cons_flat h hc⟩
theorem all2_flat {β β' : Env} : ∀ {l : List V1}, l.all V1.flat = true → ∀ {vs : List Value}, all2 β l vs → all2 β' l vs
  | [], _, _, hc => hc
  | x :: r, h, vs, hc => by
    simp only [List.all_cons, Bool.and_eq_true] at h
    obtain ⟨v, rest, rfl, hx, hr⟩ := hc
    exact ⟨v, rest, rfl, V1.flat_con h.1 hx, all2_flat h.2 hr⟩

/-- a function of values without pointers that answers such values and leaves the world alone but for growth -/
def PureC (P : Program) (f : FuncId) (args : List V1) (res : List V1) : Prop :=
  ∀ β w vs, all2 β args vs → Calls P f vs.toArray w fun e w' => ∃ v, e = .returned v ∧ (retOf res).con β v ∧ Grow w w'

def toA (l : List V1) : List AV := l.map .o

theorem allC_toA {β : Env} : ∀ {l : List V1} {vs : List Value}, all2 β l vs → allC β (toA l) vs
  | [], _, h => h
  | _ :: _, _, ⟨v, rest, hv, hx, hr⟩ => ⟨v, rest, hv, hx, allC_toA hr⟩

def noEnv : Env := fun _ => none

theorem PureC.of_body {P : Program} {T : Tab} (hT : TabOk P T) {f : FuncId} {fn : Func} (hf : P.funcs[f]? = some fn) {args res : List V1} (ha : args.all V1.flat = true) (hr : res.all V1.flat = true)
    (h : ∀ w, Body P T fn ⟨w, [], 0, noEnv⟩ (toA args) [] fun xs _ => xs = res) : PureC P f args res := by
  intro β w vs hvs
  have hvs' := all2_flat (β' := noEnv) ha hvs
  have hw : RelW w [] noEnv [] w := RelW.ofRead fun j b hj => by simp [Know.at] at hj
  refine Calls.mono (calls_of_body hT hf (rw := []) (allC_toA hvs') hw (h w)) fun e w' he => ?_
  obtain ⟨xs, K, v, β', rfl, rfl, hv, hrel, _⟩ := he
  refine ⟨v, rfl, ?_, hrel.toGrow⟩
  match xs, hr with
  | [], _ => exact hv
  | [x], hr =>
    simp only [List.all_cons, List.all_nil, Bool.and_true] at hr
    exact V1.flat_con hr hv
  | x :: y :: r, hr => obtain ⟨vs, rfl, hc⟩ := hv; exact ⟨vs, rfl, all2_flat hr hc⟩
end Go.Proofs.Ytepimglipelpmaa.X
