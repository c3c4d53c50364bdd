/- Contracts of functions that read known blocks: what the callee sees of them. -/
import Derived.Test.YtepimglipelpmaaXP
namespace Go.Proofs.Ytepimglipelpmaa.X
open Go

/-- of an argument: a value; a slice of elements of z cells; a pointer to m cells -/
inductive AS where
  | v
  | s (z : Nat)
  | p (m : Nat)

structure Vw where
  j : Nat
  c : Nat
  m : Nat
  cells : List Atom

def conjP : List Prop → Prop
  | [] => True
  | p :: r => p ∧ conjP r

/-- what the callee gets for one argument: a condition, a view, the value -/
def arg1 (K : Know) (sp : AS) (a : AV) (i cap : Nat) : Option (Prop × Option Vw × AV) :=
  match sp, a with
  | .v, .o y => if y.flat = true then some (True, none, .o y) else none
  | .s z, .o (.a (.sl j c len _)) =>
    (match K.at j with
     | some b => (match segR b.cells c (mulz len z) with
       | some (p, out) => if out.all Atom.flat = true then some (p, some ⟨j, c, mulz len z, out⟩, .o (.a (.sl i 0 len cap))) else none
       | none => none)
     | none => none)
  | .s z, .o (.a (.rs j c len _)) =>
    (match K.at j with
     | some b => (match segR b.cells c (mulz len z) with
       | some (p, out) => if out.all Atom.flat = true then some (p, some ⟨j, c, mulz len z, out⟩, .o (.a (.sl i 0 len cap))) else none
       | none => none)
     | none => none)
  | .p m, .o (.a (.p j c)) =>
    (match K.at j with
     | some b => (match takeC b.cells c m with
       | some out => if out.all Atom.flat = true ∧ m ≠ 0 then some (True, some ⟨j, c, m, out⟩, .o (.a (.p i 0))) else none
       | none => none)
     | none => none)
  | _, _ => none

def mkV (K : Know) : List AS → List AV → Nat → List Nat → Option (List Prop × List Vw × List AV)
  | [], [], _, _ => some ([], [], [])
  | sp :: ss, a :: r, i, caps =>
    (match arg1 K sp a i (caps.headD 0) with
     | some (p, some v, a') => (match mkV K ss r (i + 1) caps.tail with
       | some (ps, vs, as) => some (p :: ps, v :: vs, a' :: as)
       | none => none)
     | some (p, none, a') => (match mkV K ss r i caps.tail with
       | some (ps, vs, as) => some (p :: ps, vs, a' :: as)
       | none => none)
     | none => none)
  | _, _, _, _ => none

def knowV (vs : List Vw) : Know := vs.map fun v => some ⟨false, v.cells⟩

def shiftR (c : Nat) : Option Ref → Option Ref
  | some r => some ⟨r.blk, r.off + c, r.size⟩
  | none => none

def envV (β : Env) (vs : List Vw) : Env := fun i => match vs[i]? with
  | some v => shiftR v.c (β v.j)
  | none => none

def VwOk (β : Env) (K : Know) (v : Vw) : Prop := v.cells.all Atom.flat = true ∧ ∃ b, K.at v.j = some b ∧ ∀ cs, cons β b.cells cs → cons β v.cells (sub cs v.c v.m) ∧ (0 < v.m → v.c + v.m ≤ cs.length)

theorem views_rel {w0 : World} {rw : List Nat} {β : Env} {K : Know} {w : World} (h : RelW w0 rw β K w) {vs : List Vw} (hv : ∀ v ∈ vs, VwOk β K v) : RelW w [] (envV β vs) (knowV vs) w := by
  refine RelW.ofRead fun i b hb => ?_
  have : ∃ v, vs[i]? = some v ∧ b = ⟨false, v.cells⟩ := by
    unfold knowV Know.at at hb
    rw [List.getElem?_map] at hb
    cases hi : vs[i]? with
    | none => rw [hi] at hb; simp at hb
    | some v => rw [hi] at hb; simp at hb; exact ⟨v, rfl, hb.symm⟩
  obtain ⟨v, hi, rfl⟩ := this
  obtain ⟨hf, b0, hb0, hcs⟩ := hv v (List.mem_of_getElem? hi)
  have henv : envV β vs i = shiftR v.c (β v.j) := by unfold envV; rw [hi]
  refine ⟨rfl, ?_, ?_⟩
  · obtain ⟨cs, hc, hd⟩ := h.holds v.j b0 hb0
    obtain ⟨h1, h2⟩ := hcs cs hc
    refine ⟨_, cons_flat hf h1, ?_⟩
    by_cases hm : v.m = 0
    · exact .inl ⟨by rw [hm]; simp [sub], .inl rfl⟩
    · have h2 := h2 (by omega)
      rcases hd with ⟨rfl, _⟩ | ⟨r, arr, ty, fr, hr, hh, hs, hl, ha, _⟩
      · simp at h2; omega
      · refine .inr ⟨⟨r.blk, r.off + v.c, r.size⟩, arr, ty, fr, by rw [henv, hr]; rfl, hh, hs, ?_, ?_, fun h => by cases h⟩
        · rw [sub_len _ _ _ h2]; simp only; omega
        · intro k x hx
          have := ha _ _ (getElem?_sub _ _ _ _ _ hx)
          simp only; rw [Nat.add_assoc]; exact this
  · intro r hr
    rw [henv] at hr
    cases hb : β v.j with
    | none => rw [hb] at hr; simp [shiftR] at hr
    | some r0 =>
      rw [hb] at hr; simp only [shiftR, Option.some.injEq] at hr; subst hr
      exact h.live v.j b0 r0 hb0 hb

theorem envV_mid (β : Env) (pre : List Vw) (v : Vw) (post : List Vw) : envV β (pre ++ v :: post) pre.length = shiftR v.c (β v.j) := by
  unfold envV; simp

theorem arg1_ok {β : Env} {K : Know} {sp : AS} {a : AV} {i cap0 : Nat} {p : Prop} {vw : Option Vw} {a' : AV} {v : Value} (h : arg1 K sp a i cap0 = some (p, vw, a')) (hp : p) (hv : a.con β v) :
    (∀ x, vw = some x → VwOk β K x) ∧ ∃ cap a2, arg1 K sp a i cap = some (p, vw, a2) ∧ ∀ β' : Env, (∀ x, vw = some x → β' i = shiftR x.c (β x.j)) → a2.con β' v := by
  have slice : ∀ (j c len z : Nat) (b : Blk) (p : Prop) (out : List Atom), K.at j = some b → segR b.cells c (mulz len z) = some (p, out) → out.all Atom.flat = true → p → (∃ base cap, v = .slice base len cap ∧ len ≤ cap ∧ (0 < cap → ∃ r, β j = some r ∧ base = some ⟨r.blk, r.off + c, none⟩)) →
      VwOk β K ⟨j, c, mulz len z, out⟩ ∧ ∃ cap, ∀ β' : Env, β' i = shiftR c (β j) → (AV.o (.a (.sl i 0 len cap))).con β' v := by
    intro j c len z b p out hb hseg hfl hp hv
    obtain ⟨base, cap, rfl, hlc, hbase⟩ := hv
    refine ⟨⟨hfl, b, hb, fun cs hc => segR_con hseg hp hc⟩, cap, fun β' hβ => ⟨base, rfl, hlc, fun hc0 => ?_⟩⟩
    obtain ⟨rr, hrr, hbb⟩ := hbase hc0
    exact ⟨⟨rr.blk, rr.off + c, rr.size⟩, by rw [hβ, hrr]; rfl, by simpa using hbb⟩
  unfold arg1 at h
  split at h
  · rename_i y
    split at h
    · rename_i hy
      simp only [Option.some.injEq, Prod.mk.injEq] at h; obtain ⟨rfl, rfl, rfl⟩ := h
      exact ⟨(fun x hx => by cases hx), 0, .o y, by simp only [arg1, if_pos hy], fun β' _ => V1.flat_con hy hv⟩
    · simp at h
  · rename_i z j c len cap
    split at h
    · rename_i b hb
      split at h
      · rename_i p' out hseg
        split at h
        · rename_i hfl
          simp only [Option.some.injEq, Prod.mk.injEq] at h; obtain ⟨rfl, rfl, rfl⟩ := h
          obtain ⟨base, hvv, hlc, hbase⟩ := hv
          simp only [List.cons.injEq, and_true] at hvv
          obtain ⟨h1, cap1, h2⟩ := slice j c len z b p' out hb hseg hfl hp ⟨base, cap, hvv, hlc, hbase⟩
          exact ⟨(fun x hx => by cases hx; exact h1), cap1, .o (.a (.sl i 0 len cap1)), by simp only [arg1, hb, hseg, if_pos hfl], fun β' hx => h2 β' (hx _ rfl)⟩
        · simp at h
      · simp at h
    · simp at h
  · rename_i z j c len zz
    split at h
    · rename_i b hb
      split at h
      · rename_i p' out hseg
        split at h
        · rename_i hfl
          simp only [Option.some.injEq, Prod.mk.injEq] at h; obtain ⟨rfl, rfl, rfl⟩ := h
          obtain ⟨base, cap, hvv, hlc, hbase⟩ := hv
          simp only [List.cons.injEq, and_true] at hvv
          obtain ⟨h1, cap1, h2⟩ := slice j c len z b p' out hb hseg hfl hp ⟨base, cap, hvv, hlc, fun h0 => by obtain ⟨q, h1, h2, _⟩ := hbase h0; exact ⟨q, h1, h2⟩⟩
          exact ⟨(fun x hx => by cases hx; exact h1), cap1, .o (.a (.sl i 0 len cap1)), by simp only [arg1, hb, hseg, if_pos hfl], fun β' hx => h2 β' (hx _ rfl)⟩
        · simp at h
      · simp at h
    · simp at h
  · rename_i m j c
    split at h
    · rename_i b hb
      split at h
      · rename_i out htk
        split at h
        · rename_i hfl
          simp only [Option.some.injEq, Prod.mk.injEq] at h; obtain ⟨rfl, rfl, rfl⟩ := h
          obtain ⟨rr, hrr, hvv⟩ := hv
          simp only [List.cons.injEq, and_true] at hvv
          refine ⟨(fun x hx => by cases hx; exact ⟨hfl.1, b, hb, fun cs hc => takeC_con htk hc⟩), 0, .o (.a (.p i 0)), by simp only [arg1, hb, htk, if_pos hfl], fun β' hx => ⟨⟨rr.blk, rr.off + c, rr.size⟩, ?_, by simp [hvv]⟩⟩
          rw [hx _ rfl, hrr]; rfl
        · simp at h
      · simp at h
    · simp at h
  · simp at h

theorem mkV_ok {β : Env} {K : Know} : ∀ (ss : List AS) (args : List AV) (pre : List Vw) (caps0 : List Nat) (ps : List Prop) (vs : List Vw) (as0 : List AV) (vals : List Value), mkV K ss args pre.length caps0 = some (ps, vs, as0) → conjP ps → allC β args vals →
    (∀ v ∈ vs, VwOk β K v) ∧ ∃ caps : List Nat, ∃ as, mkV K ss args pre.length caps = some (ps, vs, as) ∧ ∀ post, allC (envV β (pre ++ vs ++ post)) as vals
  | [], [], pre, caps0, ps, vs, as0, vals, h, hp, ha => by
    simp only [mkV, Option.some.injEq, Prod.mk.injEq] at h; obtain ⟨rfl, rfl, rfl⟩ := h
    exact ⟨fun v hv => by simp at hv, [], [], rfl, fun _ => ha⟩
  | [], a :: r, pre, caps0, ps, vs, as0, vals, h, hp, ha => by simp [mkV] at h
  | sp :: ss, [], pre, caps0, ps, vs, as0, vals, h, hp, ha => by simp [mkV] at h
  | sp :: ss, a :: r, pre, caps0, ps, vs, as0, vals, h, hp, ha => by
    simp only [mkV] at h
    obtain ⟨v, rest, rfl, hv, hr⟩ := ha
    split at h
    · rename_i p vw a' h1
      split at h
      · rename_i ps1 vs1 as1 h2
        simp only [Option.some.injEq, Prod.mk.injEq] at h; obtain ⟨rfl, rfl, rfl⟩ := h
        obtain ⟨g1, cap, a2, g2, g3⟩ := arg1_ok h1 hp.1 hv
        obtain ⟨k1, caps, as, k2, k3⟩ := mkV_ok ss r (pre ++ [vw]) _ _ _ _ rest (by simpa using h2) hp.2 hr
        simp only [List.length_append, List.length_singleton] at k2
        refine ⟨?_, cap :: caps, a2 :: as, by simp only [mkV, List.headD_cons, g2, List.tail_cons, k2], fun post => ⟨v, rest, rfl, g3 _ fun x hx => ?_, ?_⟩⟩
        · intro w hw
          rcases List.mem_cons.1 hw with rfl | hw
          · exact g1 _ rfl
          · exact k1 w hw
        · cases hx
          rw [List.append_assoc, List.cons_append, envV_mid]
        · have := k3 post
          simpa using this
      · simp at h
    · rename_i p a' h1
      split at h
      · rename_i ps1 vs1 as1 h2
        simp only [Option.some.injEq, Prod.mk.injEq] at h; obtain ⟨rfl, rfl, rfl⟩ := h
        obtain ⟨g1, cap, a2, g2, g3⟩ := arg1_ok h1 hp.1 hv
        obtain ⟨k1, caps, as, k2, k3⟩ := mkV_ok ss r pre _ _ _ _ rest h2 hp.2 hr
        exact ⟨k1, cap :: caps, a2 :: as, by simp only [mkV, List.headD_cons, g2, List.tail_cons, k2], fun post => ⟨v, rest, rfl, g3 _ (fun x hx => by cases hx), k3 post⟩⟩
      · simp at h
    · simp at h

theorem arg1_mono {K K' : Know} (hk : Knows K K') {sp : AS} {a : AV} {i cap : Nat} {r : Prop × Option Vw × AV} (h : arg1 K sp a i cap = some r) : arg1 K' sp a i cap = some r := by
  unfold arg1 at *
  split at h
  · exact h
  · split at h
    · rename_i b hb; rw [hk _ _ hb]; exact h
    · simp at h
  · split at h
    · rename_i b hb; rw [hk _ _ hb]; exact h
    · simp at h
  · split at h
    · rename_i b hb; rw [hk _ _ hb]; exact h
    · simp at h
  · simp at h

theorem mkV_mono {K K' : Know} (hk : Knows K K') : ∀ {ss : List AS} {args : List AV} {i : Nat} {caps : List Nat} {r : List Prop × List Vw × List AV}, mkV K ss args i caps = some r → mkV K' ss args i caps = some r
  | [], [], _, _, _, h => h
  | [], _ :: _, _, _, _, h => by simp [mkV] at h
  | _ :: _, [], _, _, _, h => by simp [mkV] at h
  | sp :: ss, a :: q, i, caps, r, h => by
    simp only [mkV] at h ⊢
    split at h
    · rename_i h1
      rw [arg1_mono hk h1]
      simp only
      split at h
      · rename_i h2; rw [mkV_mono hk h2]; exact h
      · simp at h
    · rename_i h1
      rw [arg1_mono hk h1]
      simp only
      split at h
      · rename_i h2; rw [mkV_mono hk h2]; exact h
      · simp at h
    · simp at h

/-- a contract of a function that reads: from its body over the views -/
theorem ReadC.of_body {P : Program} {T : Tab} (hT : TabOk P T) {f : FuncId} {fn : Func} (hf : P.funcs[f]? = some fn) {K : Know} {ss : List AS} {args : List AV} {ps : List Prop} {vs : List Vw} {as0 : List AV} {res : List V1}
    (hm : mkV K ss args 0 [] = some (ps, vs, as0)) (hps : conjP ps) (hr : res.all V1.flat = true)
    (h : ∀ (caps : List Nat) (as : List AV) (w : World) (β : Env), mkV K ss args 0 caps = some (ps, vs, as) → Body P T fn ⟨w, [], vs.length, β⟩ as (knowV vs) fun xs _ => xs = res) : ReadC P f K args res := by
  intro w0 rw β w vals hR ha
  obtain ⟨h1, caps, as, h2, h3⟩ := mkV_ok ss args [] [] ps vs as0 vals hm hps ha
  have hw := views_rel hR h1
  have hlen : (knowV vs).length = vs.length := by simp [knowV]
  have hb := h caps as w (envV β vs) h2
  rw [← hlen] at hb
  have h3 := h3 []
  simp only [List.nil_append, List.append_nil] at h3
  refine Calls.mono (calls_of_body hT hf (rw := []) h3 hw hb) fun e w' he => ?_
  obtain ⟨xs, K', v, β', rfl, rfl, hv, hrel, _⟩ := he
  refine ⟨v, rfl, ?_, hrel.toGrow⟩
  match xs, hr with
  | [], _ => exact hv
  | [x], hr =>
    simp only [List.all_cons, List.all_nil, Bool.and_true] at hr
    exact V1.flat_con hr hv
  | x :: y :: r, hr => obtain ⟨vs, rfl, hc⟩ := hv; exact ⟨vs, rfl, all2_flat hr hc⟩

def lenOfA : AV → Nat
  | .o (.a (.sl _ _ l _)) => l
  | .o (.a (.rs _ _ l _)) => l
  | _ => 0

/-- the values that the callee is handed -/
def calleeArgs : List AS → List AV → Nat → List Nat → List AV
  | .v :: ss, a :: r, i, caps => a :: calleeArgs ss r i caps.tail
  | .s _ :: ss, a :: r, i, caps => .o (.a (.sl i 0 (lenOfA a) (caps.headD 0))) :: calleeArgs ss r (i + 1) caps.tail
  | .p _ :: ss, _ :: r, i, caps => .o (.a (.p i 0)) :: calleeArgs ss r (i + 1) caps.tail
  | _, _, _, _ => []

theorem arg1_v {K : Know} {a : AV} {i cap : Nat} {p : Prop} {vw : Option Vw} {a' : AV} (h : arg1 K .v a i cap = some (p, vw, a')) : vw = none ∧ a' = a := by
  cases a with
  | o y =>
    simp only [arg1] at h
    split at h
    · simp only [Option.some.injEq, Prod.mk.injEq] at h; obtain ⟨rfl, rfl, rfl⟩ := h; exact ⟨rfl, rfl⟩
    · simp at h
  | _ => simp [arg1] at h

theorem arg1_s {K : Know} {z : Nat} {a : AV} {i cap : Nat} {p : Prop} {vw : Option Vw} {a' : AV} (h : arg1 K (.s z) a i cap = some (p, vw, a')) : vw.isSome = true ∧ a' = .o (.a (.sl i 0 (lenOfA a) cap)) := by
  cases a with
  | o y =>
    cases y with
    | a x =>
      cases x with
      | sl j c len cap' =>
        simp only [arg1] at h
        split at h
        · split at h
          · split at h
            · simp only [Option.some.injEq, Prod.mk.injEq] at h; obtain ⟨rfl, rfl, rfl⟩ := h; exact ⟨rfl, rfl⟩
            · simp at h
          · simp at h
        · simp at h
      | rs j c len cap' =>
        simp only [arg1] at h
        split at h
        · split at h
          · split at h
            · simp only [Option.some.injEq, Prod.mk.injEq] at h; obtain ⟨rfl, rfl, rfl⟩ := h; exact ⟨rfl, rfl⟩
            · simp at h
          · simp at h
        · simp at h
      | _ => simp [arg1] at h
    | g l => simp [arg1] at h
  | _ => simp [arg1] at h

theorem arg1_p {K : Know} {m : Nat} {a : AV} {i cap : Nat} {p : Prop} {vw : Option Vw} {a' : AV} (h : arg1 K (.p m) a i cap = some (p, vw, a')) : vw.isSome = true ∧ a' = .o (.a (.p i 0)) := by
  cases a with
  | o y =>
    cases y with
    | a x =>
      cases x with
      | p j c =>
        simp only [arg1] at h
        split at h
        · split at h
          · split at h
            · simp only [Option.some.injEq, Prod.mk.injEq] at h; obtain ⟨rfl, rfl, rfl⟩ := h; exact ⟨rfl, rfl⟩
            · simp at h
          · simp at h
        · simp at h
      | _ => simp [arg1] at h
    | g l => simp [arg1] at h
  | _ => simp [arg1] at h

theorem mkV_args {K : Know} : ∀ {ss : List AS} {args : List AV} {i : Nat} {caps : List Nat} {ps : List Prop} {vs : List Vw} {as : List AV}, mkV K ss args i caps = some (ps, vs, as) → as = calleeArgs ss args i caps
  | [], [], _, _, _, _, _, h => by simp only [mkV, Option.some.injEq, Prod.mk.injEq] at h; obtain ⟨_, _, rfl⟩ := h; rfl
  | [], _ :: _, _, _, _, _, _, h => by simp [mkV] at h
  | _ :: _, [], _, _, _, _, _, h => by simp [mkV] at h
  | sp :: ss, a :: r, i, caps, ps, vs, as, h => by
    simp only [mkV] at h
    split at h
    · rename_i p v a' h1
      split at h
      · rename_i h2
        simp only [Option.some.injEq, Prod.mk.injEq] at h; obtain ⟨_, _, rfl⟩ := h
        have h4 := mkV_args h2
        cases sp with
        | v => have h3 := arg1_v h1; simp at h3
        | s z => rw [(arg1_s h1).2, h4]; rfl
        | p m => rw [(arg1_p h1).2, h4]; rfl
      · simp at h
    · rename_i p a' h1
      split at h
      · rename_i h2
        simp only [Option.some.injEq, Prod.mk.injEq] at h; obtain ⟨_, _, rfl⟩ := h
        have h4 := mkV_args h2
        cases sp with
        | v => rw [(arg1_v h1).2, h4]; rfl
        | s z => have h3 := arg1_s h1; simp at h3
        | p m => have h3 := arg1_p h1; simp at h3
      · simp at h
    · simp at h

/-- a function that reads: its table from the views -/
def greadV (f : FuncId) (ss : List AS) (entry : List Vw → List AV → Option (Prop × List V1)) (rest : Gam) : Gam :=
  gread f (fun K args => match mkV K ss args 0 [] with
    | some (ps, vs, _) => (match entry vs args with
      | some (p, xs) => some (some (conjP ps ∧ p), xs)
      | none => none)
    | none => none) rest

theorem greadV_ok {P : Program} {T : Tab} (hT : TabOk P T) {f : FuncId} {fn : Func} (hf : P.funcs[f]? = some fn) {ss : List AS} {entry : List Vw → List AV → Option (Prop × List V1)} {rest : Gam} (hr : GamOk P rest) (he : ∀ (as : Array Value) (w : World), (callFunc f as).run P w = .ok (.enter f as) w)
    (h : ∀ vs args p xs, entry vs args = some (p, xs) → p → xs.all V1.flat = true ∧ ∀ (caps : List Nat) (w : World) (β : Env), Body P T fn ⟨w, [], vs.length, β⟩ (calleeArgs ss args 0 caps) (knowV vs) fun ys _ => ys = xs) : GamOk P (greadV f ss entry rest) := by
  refine gread_ok hr he ?_ ?_
  · intro K args vc xs h1 hv
    split at h1
    · rename_i ps vs as hm
      split at h1
      · rename_i p ys hy
        simp only [Option.some.injEq, Prod.mk.injEq] at h1; obtain ⟨rfl, rfl⟩ := h1
        obtain ⟨h2, h3⟩ := h _ _ _ _ hy hv.2
        exact ReadC.of_body hT hf hm hv.1 h2 fun caps as w β hm' => by rw [mkV_args hm']; exact h3 caps w β
      · simp at h1
    · simp at h1
  · intro K K' args r h1 hk
    split at h1
    · rename_i ps vs as hm
      rw [mkV_mono hk hm]; exact h1
    · simp at h1
end Go.Proofs.Ytepimglipelpmaa.X
