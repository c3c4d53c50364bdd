/- One operation, whatever it is; regions in the text's order. -/
import Derived.Test.YtepimglipelpmaaXU
namespace Go.Proofs.Ytepimglipelpmaa.X
open Go

structure Rx where
  vc : Option Prop
  val : AV
  ch : List (Nat × Option Blk)
  fr : Nat

def ofOx (o : Option Ox) : Option Rx :=
  match o with
  | some x => some ⟨x.vc, x.val, x.ch, cond x.al 1 0⟩
  | none => none

abbrev Gam := FuncId → Know → Nat → List AV → Option Rx

def allC (β : Env) : List AV → List Value → Prop
  | [], xs => xs = []
  | a :: r, xs => ∃ v rest, xs = v :: rest ∧ a.con β v ∧ allC β r rest

/-- K' knows what K knows -/
def Knows (K K' : Know) : Prop := ∀ j b, K.at j = some b → K'.at j = some b

structure GamOk (P : Program) (Γ : Gam) : Prop where
  enter : ∀ f K n args s, Γ f K n args = some s → ∀ (as : Array Value) (w : World), (callFunc f as).run P w = .ok (.enter f as) w
  calls : ∀ f K n args s, Γ f K n args = some s → okP s.vc → ∀ w0 rw β w xs, allC β args xs → RelW w0 rw β K w → (∀ i, i < s.fr → K.at (n + i) = none) → K.nom n (n + s.fr) = true →
    Calls P f xs.toArray w fun e w' => ∃ v β', e = .returned v ∧ Agree n (n + s.fr) β β' ∧ s.val.con β' v ∧ RelW w0 rw β' (app K s.ch) w'
  mono : ∀ f K K' n args s, Γ f K n args = some s → Knows K K' → Γ f K' n args = some s

def isConst : Operand → Bool
  | .const _ => true
  | _ => false

def capsOf : List AV → Option (List V1)
  | [] => some []
  | .o x :: r => (match capsOf r with | some l => some (x :: l) | none => none)
  | _ => none

section ops
variable (T : Tab) (Γ : Gam) (ρ : Rho) (K : Know) (n : Nat) (bit : Bool)

def opNil (x : AV) : Option Rx :=
  match x with
  | .o (.a (.p _ _)) => some ⟨none, x, [], 0⟩
  | .o (.a (.ps _ _)) => some ⟨none, x, [], 0⟩
  | .f fn caps => some ⟨none, .f fn caps, [], 0⟩
  | _ => none

def opPick (c a b : AV) : Option Rx :=
  match c with
  | .o (.a (.b x)) => some ⟨some (x = bit), if bit then a else b, [], 0⟩
  | _ => none

def opBuiltin (b : Builtin) (args : List Operand) (ats : List TypeId) : Option Rx :=
  match b, args, ats with
  | .len, [x], [t] => ofOx (opLen T t (ρ x))
  | .cap, [x], [t] => ofOx (opCap T t (ρ x))
  | .min, [x, y], _ => ofOx (opMin (ρ x) (ρ y))
  | .max, [x, y], _ => ofOx (opMax (ρ x) (ρ y))
  | .copy, [x, y], [t, _] => ofOx (opCopy T K t (ρ x) (ρ y))
  | .append, [x, y], [t, u] => ofOx (opAppend T K n bit t u (ρ x) (ρ y))
  | _, _, _ => none

def opCall (c : Call) : Option Rx :=
  match c.callee with
  | .builtin b => opBuiltin T ρ K n bit b c.args.toList c.argTypes.toList
  | .value f =>
    (match ρ f with
     | .f fn caps => Γ fn K n (c.args.toList.map ρ ++ caps.map .o)
     | _ => none)
  | _ => none

def opx (o : Op) : Option Rx :=
  match o with
  | .move x => some ⟨none, ρ x, [], 0⟩
  | .assign x => some ⟨none, ρ x, [], 0⟩
  | .pick c a b => opPick bit (ρ c) (ρ a) (ρ b)
  | .alloc t => ofOx (opAlloc T n t)
  | .box _ x => ofOx (opBox n (ρ x))
  | .build t parts => ofOx (opBuild T ρ t parts.toList)
  | .buildSlice t len parts => ofOx (opBuildSlice T n ρ t len parts.toList)
  | .load t a => ofOx (opLoad T K t (ρ a))
  | .store t a x => ofOx (opStore T K t (ρ a) (ρ x))
  | .nilCheck x => opNil (ρ x)
  | .binOp op t x y _ => ofOx (opBin T op t (ρ x) (ρ y))
  | .unOp op _ x => ofOx (opUn op (ρ x))
  | .convert src dst x =>
    (match T src with
     | some e => (match e.d with
       | .slice _ => ofOx (opConvS T K src dst (ρ x))
       | _ => ofOx (opConvert T dst (ρ x)))
     | none => none)
  | .sliceToArrayPointer arr x => ofOx (opS2A T arr (ρ x))
  | .makeSlice t l c => ofOx (opMakeSlice T n t (ρ l) (ρ c))
  | .slice t x lo hi mx => ofOx (opSlice T t (ρ x) (lo.map ρ) (hi.map ρ) (mx.map ρ))
  | .fieldAddr s x f => ofOx (opFieldAddr T s (ρ x) f)
  | .field t x f => ofOx (opField T t (ρ x) f)
  | .indexAddr t x ix => ofOx (opIndexAddr T t (isConst ix) (ρ x) (ρ ix))
  | .extract x i => ofOx (opExtract (ρ x) i)
  | .makeFunc (.func fn) first captured =>
    if first.toList.isEmpty then (match capsOf (captured.toList.map ρ) with | some l => some ⟨none, .f fn l, [], 0⟩ | none => none) else none
  | .call c => opCall T Γ ρ K n bit c
  | _ => none
end ops

section sound
variable {P : Program} {T : Tab} {Γ : Gam} {w0 : World} {rw : List Nat} {β : Env} {K : Know} {w : World}

theorem ofOx_some {o : Option Ox} {r : Rx} (h : ofOx o = some r) : ∃ x, o = some x ∧ r = ⟨x.vc, x.val, x.ch, cond x.al 1 0⟩ := by
  cases o with
  | none => simp [ofOx] at h
  | some x => simp only [ofOx, Option.some.injEq] at h; exact ⟨x, rfl, h.symm⟩

theorem capsOf_con {ρ : Rho} {ev : Operand → Value} (hρ : ∀ x, (ρ x).con β (ev x)) : ∀ {l : List Operand} {caps : List V1}, capsOf (l.map ρ) = some caps → all2 β caps (l.map ev)
  | [], caps, h => by simp [capsOf] at h; subst h; rfl
  | x :: r, caps, h => by
    simp only [List.map_cons] at h
    have hx := hρ x
    cases hy : ρ x with
    | u => simp [hy, capsOf] at h
    | t l => simp [hy, capsOf] at h
    | f fn l => simp [hy, capsOf] at h
    | o y =>
      rw [hy] at h hx
      simp only [capsOf] at h
      split at h
      · rename_i l hl
        simp only [Option.some.injEq] at h; subst h
        exact ⟨_, _, rfl, hx, capsOf_con hρ hl⟩
      · simp at h

theorem allC_map {ρ : Rho} {ev : Operand → Value} (hρ : ∀ x, (ρ x).con β (ev x)) : ∀ (l : List Operand) {caps : List V1} {vs : List Value}, all2 β caps vs → allC β (l.map ρ ++ caps.map .o) (l.map ev ++ vs)
  | [], caps, vs, h => by
    simp only [List.map_nil, List.nil_append]
    induction caps generalizing vs with
    | nil => exact h
    | cons c r ih => obtain ⟨v, rest, rfl, h1, h2⟩ := h; exact ⟨v, rest, rfl, h1, ih _ h2⟩
  | x :: l, caps, vs, h => ⟨_, _, rfl, hρ x, allC_map hρ l h⟩

/-- what an operation makes of the world, in the walk's own words -/
theorem opx_wp (hT : TabOk P T) (hΓ : GamOk P Γ) {ρ : Rho} {n : Nat} {bit : Bool} {o : Oper} {r : Rx} {a : Act} (h : opx T Γ ρ K n bit o.op = some r) (hvc : okP r.vc) (hρ : ∀ x, (ρ x).con β (a.eval x)) (hR : RelW w0 rw β K w)
    (hn : ∀ i, i < r.fr → K.at (n + i) = none) (hK : K.nom n (n + r.fr) = true) {next : Act → World → Prop} {Q : Exit → Act → World → Prop}
    (hnext : ∀ β' v w', Agree n (n + r.fr) β β' → r.val.con β' v → RelW w0 rw β' (app K r.ch) w' → next (a.put o.dst v) w') : o.wp P a w next Q := by
  have value : ∀ (s : Sem Value) (x : Ox), r = ⟨x.vc, x.val, x.ch, cond x.al 1 0⟩ → Goes P w0 rw β K w n s x → (execOp a.eval o).run P w = ((do pure (.value (← s)) : Sem Next).run P w) → o.wp P a w next Q := by
    intro s x hr hg he
    subst hr
    obtain ⟨β', v, w', hrun, hag, hcon, hrel⟩ := hg
    unfold Oper.wp
    rw [he, Sem.run_bind, hrun]
    exact hnext β' v w' hag hcon hrel
  have quiet : ∀ (v : Value), r.ch = [] → r.val.con β v → (execOp a.eval o).run P w = .ok (.value v) w → o.wp P a w next Q := by
    intro v hc hv he
    unfold Oper.wp
    rw [he]
    exact hnext β v w (agree_refl _ _ _) hv (by rw [hc]; exact hR)
  have al1 : ∀ x : Ox, r = ⟨x.vc, x.val, x.ch, cond x.al 1 0⟩ → x.al = true → K.at n = none ∧ K.nom n (n + 1) = true := by
    intro x hr hx
    subst hr
    rw [hx] at hn hK
    exact ⟨hn 0 (by simp), hK⟩
  obtain ⟨dst, op, ty, pos, after, guard⟩ := o
  simp only at h
  cases op <;> simp only [opx, reduceCtorEq] at h
  case move x =>
    simp only [Option.some.injEq] at h; subst h
    exact quiet _ rfl (hρ x) rfl
  case assign x =>
    simp only [Option.some.injEq] at h; subst h
    exact quiet _ rfl (hρ x) rfl
  case pick c x y =>
    unfold opPick at h
    split at h
    · rename_i b hb
      simp only [Option.some.injEq] at h; subst h
      have hc := hρ c
      rw [hb] at hc
      simp only [AV.con, V1.con, Atom.con, List.cons.injEq, and_true] at hc
      have hvc : b = bit := hvc
      subst hvc
      refine quiet (if b then a.eval x else a.eval y) rfl ?_ ?_
      · cases b
        · exact hρ y
        · exact hρ x
      · simp only [execOp, Sem.run_bind, hc, asBool, Sem.run_pure, Result.andThen_ok]
    · simp at h
  case alloc t =>
    obtain ⟨x, hx, hr⟩ := ofOx_some h
    have hx0 := hx
    have hal : x.al = true := by
      unfold opAlloc at hx
      split at hx
      · split at hx
        · simp only [Option.some.injEq] at hx; subst hx; rfl
        · simp at hx
      · simp at hx
    obtain ⟨h1, h2⟩ := al1 x hr hal
    exact value _ x hr (opAlloc_ok hT hx0 h1 h2 hR) rfl
  case box t y =>
    obtain ⟨x, hx, hr⟩ := ofOx_some h
    have hx0 := hx
    have hal : x.al = true := by
      unfold opBox at hx
      split at hx
      · split at hx
        · simp only [Option.some.injEq] at hx; subst hx; rfl
        · simp at hx
      · simp at hx
    obtain ⟨h1, h2⟩ := al1 x hr hal
    exact value _ x hr (opBox_ok hx0 (hρ y) h1 h2 hR) rfl
  case build t parts =>
    obtain ⟨x, hx, hr⟩ := ofOx_some h
    exact value _ x hr (opBuild_ok hT hρ hx hR) rfl
  case buildSlice t len parts =>
    obtain ⟨x, hx, hr⟩ := ofOx_some h
    have hx0 := hx
    have hal : x.al = true := by
      unfold opBuildSlice at hx
      split at hx
      · split at hx
        · split at hx
          · split at hx
            · split at hx
              · simp only [Option.some.injEq] at hx; subst hx; rfl
              · simp at hx
            · simp at hx
          · simp at hx
        · simp at hx
      · simp at hx
    obtain ⟨h1, h2⟩ := al1 x hr hal
    exact value _ x hr (opBuildSlice_ok hT hρ hx0 h1 h2 hR) rfl
  case load t y =>
    obtain ⟨x, hx, hr⟩ := ofOx_some h
    exact value _ x hr (opLoad_ok hT hx (by rw [hr] at hvc; exact hvc) (hρ y) hR) rfl
  case store t y z =>
    obtain ⟨x, hx, hr⟩ := ofOx_some h
    obtain ⟨w', hrun, hu, hrel⟩ := opStore_ok hT hx (by rw [hr] at hvc; exact hvc) (hρ y) (hρ z) hR
    subst hr
    unfold Oper.wp
    have : (execOp a.eval ⟨dst, .store t y z, ty, pos, after, guard⟩).run P w = .ok .skip w' := by
      simp only [execOp, Sem.run_bind, hrun, Result.andThen_ok, Sem.run_pure]
    rw [this]
    exact hnext β undef w' (agree_refl _ _ _) (by rw [hu]; trivial) hrel
  case nilCheck y =>
    unfold opNil at h
    have hy := hρ y
    split at h
    · rename_i j c hb
      simp only [Option.some.injEq] at h; subst h
      obtain ⟨q, hq, hv⟩ := (by rw [hb] at hy; exact hy : (AV.o (.a (.p j c))).con β (a.eval y))
      simp only [List.cons.injEq, and_true] at hv
      exact quiet _ rfl hy (by simp only [execOp, hv]; rfl)
    · rename_i j c hb
      simp only [Option.some.injEq] at h; subst h
      obtain ⟨q, hq, hv⟩ := (by rw [hb] at hy; exact hy : (AV.o (.a (.ps j c))).con β (a.eval y))
      simp only [List.cons.injEq, and_true] at hv
      exact quiet _ rfl hy (by simp only [execOp, hv]; rfl)
    · rename_i fn caps hb
      simp only [Option.some.injEq] at h; subst h
      rw [hb] at hy
      have hy0 := hy
      obtain ⟨vs, hv, _⟩ := hy
      exact quiet _ rfl hy0 (by simp only [execOp, hv]; rfl)
    · simp at h
  case binOp op t y z yt =>
    obtain ⟨x, hx, hr⟩ := ofOx_some h
    exact value _ x hr (opBin_ok (X := y) (Y := z) hT hx (by rw [hr] at hvc; exact hvc) (hρ y) (hρ z) hR) rfl
  case unOp op t y =>
    obtain ⟨x, hx, hr⟩ := ofOx_some h
    exact value _ x hr (opUn_ok hx (hρ y) hR) rfl
  case convert src dst y =>
    split at h
    · rename_i e he
      split at h
      · obtain ⟨x, hx, hr⟩ := ofOx_some h
        exact value _ x hr (opConvS_ok hT hx (by rw [hr] at hvc; exact hvc) (hρ y) hR) rfl
      · obtain ⟨x, hx, hr⟩ := ofOx_some h
        exact value _ x hr (opConvert_ok hT (hT _ _ he).und hx (hρ y) hR) rfl
    · simp at h
  case sliceToArrayPointer arr y =>
    obtain ⟨x, hx, hr⟩ := ofOx_some h
    exact value _ x hr (opS2A_ok hT hx (by rw [hr] at hvc; exact hvc) (hρ y) hR) rfl
  case makeFunc fn first captured =>
    cases fn <;> simp only [reduceCtorEq] at h
    rename_i f
    split at h
    · rename_i hf
      split at h
      · rename_i l hl
        simp only [Option.some.injEq] at h; subst h
        have hc := capsOf_con hρ hl
        refine quiet (.func (.func f) #[] (captured.map a.eval)) rfl ⟨(captured.map a.eval).toList, by rw [Array.toArray_toList], by rw [Array.toList_map]; exact hc⟩ ?_
        have : first = #[] := by simpa using hf
        subst this
        simp [execOp, Instr.makeFunc]
      · simp at h
    · simp at h
  case makeSlice t y z =>
    obtain ⟨x, hx, hr⟩ := ofOx_some h
    have hx0 := hx
    have hal : x.al = true := by
      unfold opMakeSlice at hx
      split at hx
      · split at hx
        · split at hx
          · split at hx
            · simp only [Option.some.injEq] at hx; subst hx; rfl
            · simp at hx
          · simp at hx
        · simp at hx
      · simp at hx
    obtain ⟨h1, h2⟩ := al1 x hr hal
    exact value _ x hr (opMakeSlice_ok hT hx0 (by rw [hr] at hvc; exact hvc) (hρ y) (hρ z) h1 h2 hR) rfl
  case slice t y lo hi mx =>
    obtain ⟨x, hx, hr⟩ := ofOx_some h
    exact value _ x hr (opSlice_ok hT hρ hx (by rw [hr] at hvc; exact hvc) hR) rfl
  case fieldAddr s y f =>
    obtain ⟨x, hx, hr⟩ := ofOx_some h
    exact value _ x hr (opFieldAddr_ok hT hx (hρ y) hR) rfl
  case field t y f =>
    obtain ⟨x, hx, hr⟩ := ofOx_some h
    exact value _ x hr (opField_ok hT hx (hρ y) hR) rfl
  case indexAddr t y ix =>
    obtain ⟨x, hx, hr⟩ := ofOx_some h
    exact value _ x hr (opIndexAddr_ok hT hx (by rw [hr] at hvc; exact hvc) (hρ y) (hρ ix) hR) rfl
  case extract y i =>
    obtain ⟨x, hx, hr⟩ := ofOx_some h
    exact value _ x hr (opExtract_ok hx (hρ y) hR) rfl
  case call c =>
    obtain ⟨callee, args, ats⟩ := c
    have args1 : ∀ {y : Operand}, args.toList = [y] → args.map a.eval = #[a.eval y] := by
      intro y hy; apply Array.toList_inj.1; simp [hy]
    have args2 : ∀ {y z : Operand}, args.toList = [y, z] → args.map a.eval = #[a.eval y, a.eval z] := by
      intro y z hy; apply Array.toList_inj.1; simp [hy]
    have arr1 : ∀ {t : TypeId}, ats.toList = [t] → ats = #[t] := by
      intro t ht; apply Array.toList_inj.1; simp [ht]
    have arr2 : ∀ {t u : TypeId}, ats.toList = [t, u] → ats = #[t, u] := by
      intro t u ht; apply Array.toList_inj.1; simp [ht]
    unfold opCall at h
    cases callee with
    | invoke recv m => simp at h
    | builtin b =>
      simp only at h
      unfold opBuiltin at h
      split at h
      · rename_i y t ha ht
        obtain ⟨x, hx, hr⟩ := ofOx_some h
        refine value _ x hr (opLen_ok (ats := ats) (tt := ty) hT (by rw [arr1 ht]; rfl) hx (hρ y) hR) ?_
        simp only [execOp, resolve, invoke, builtin, args1 ha, pure_bind]
      · rename_i y t ha ht
        obtain ⟨x, hx, hr⟩ := ofOx_some h
        refine value _ x hr (opCap_ok (ats := ats) (tt := ty) hT (by rw [arr1 ht]; rfl) hx (hρ y) hR) ?_
        simp only [execOp, resolve, invoke, builtin, args1 ha, pure_bind]
      · rename_i y z ha
        obtain ⟨x, hx, hr⟩ := ofOx_some h
        refine value _ x hr (opMin_ok (ats := ats) (tt := ty) hx (hρ y) (hρ z) hR) ?_
        simp only [execOp, resolve, invoke, builtin, args2 ha, pure_bind]
      · rename_i y z ha
        obtain ⟨x, hx, hr⟩ := ofOx_some h
        refine value _ x hr (opMax_ok (ats := ats) (tt := ty) hx (hρ y) (hρ z) hR) ?_
        simp only [execOp, resolve, invoke, builtin, args2 ha, pure_bind]
      · rename_i y z t t' ha ht
        obtain ⟨x, hx, hr⟩ := ofOx_some h
        refine value _ x hr (opCopy_ok (t' := t') (tt := ty) hT hx (by rw [hr] at hvc; exact hvc) (hρ y) (hρ z) hR) ?_
        simp only [execOp, resolve, invoke, builtin, args2 ha, arr2 ht, pure_bind]
      · rename_i y z t t' ha ht
        obtain ⟨x, hx, hr⟩ := ofOx_some h
        refine value _ x hr (opAppend_ok (tt := ty) hT hx (by rw [hr] at hvc; exact hvc) (hρ y) (hρ z) (al1 x hr) hR) ?_
        simp only [execOp, resolve, invoke, builtin, args2 ha, arr2 ht, pure_bind]
      · simp at h
    | value f =>
      simp only at h
      split at h
      · rename_i fn caps hf
        have hfc := hρ f
        rw [hf] at hfc
        obtain ⟨vs, hv, hcaps⟩ := hfc
        have hall : allC β (args.toList.map ρ ++ caps.map .o) (args.toList.map a.eval ++ vs) := allC_map hρ _ hcaps
        have hcalls := hΓ.calls _ _ _ _ _ h hvc w0 rw β w _ hall hR hn hK
        have hrun : (execOp a.eval ⟨dst, .call ⟨.value f, args, ats⟩, ty, pos, after, guard⟩).run P w = .ok (.enter fn (args.toList.map a.eval ++ vs).toArray) w := by
          simp only [execOp, resolve, Deferred.ofValue, hv, pure_bind, invoke]
          rw [hΓ.enter _ _ _ _ _ h]
          congr 2
          apply Array.toList_inj.1
          simp
        unfold Oper.wp
        rw [hrun]
        refine Calls.mono hcalls fun e w' he => ?_
        obtain ⟨v, β', rfl, hag, hcon, hrel⟩ := he
        exact hnext β' v w' hag hcon hrel
      · simp at h

theorem srcOf_mono {K' : Know} (hs : Knows K K') {z cnt : Nat} {x : AV} {r : Prop × List Atom} (h : srcOf K z cnt x = some r) : srcOf K' z cnt x = some r := by
  unfold srcOf at *
  split at h
  · split at h
    · simp at h
    · rename_i b hb; rw [hs _ _ hb]; exact h
  · split at h
    · simp at h
    · rename_i b hb; rw [hs _ _ hb]; exact h
  · exact h
  · simp at h

theorem newOf_mono {K' : Know} (hs : Knows K K') {e : TE} {xT : TypeId} {x : AV} {r : Prop × Nat × List Atom} (h : newOf T K e xT x = some r) : newOf T K' e xT x = some r := by
  unfold newOf at *
  split at h
  · exact h
  · split at h
    · rename_i m hm
      split at h
      · rename_i hsrc
        rw [srcOf_mono hs hsrc]
        exact h
      · simp at h
    · simp at h
  · simp at h

theorem opLoad_mono {K' : Know} (hs : Knows K K') {t : TypeId} {x : AV} {r : Ox} (h : opLoad T K t x = some r) : opLoad T K' t x = some r := by
  unfold opLoad at *
  split at h
  · split at h
    · simp at h
    · rename_i b hb; rw [hs _ _ hb]; exact h
  · simp at h

theorem opStore_mono {K' : Know} (hs : Knows K K') {t : TypeId} {x y : AV} {r : Ox} (h : opStore T K t x y = some r) : opStore T K' t x y = some r := by
  unfold opStore at *
  split at h
  · split at h
    · simp at h
    · rename_i b hb; rw [hs _ _ hb]; exact h
  · simp at h

theorem opCopy_mono {K' : Know} (hs : Knows K K') {t : TypeId} {x y : AV} {r : Ox} (h : opCopy T K t x y = some r) : opCopy T K' t x y = some r := by
  unfold opCopy at *
  split at h
  · split at h
    · rename_i e m dl he hm hdl
      split at h
      · simp at h
      · rename_i hz
        simp only [if_neg hz]
        split at h
        · rename_i vs new hsrc
          rw [srcOf_mono hs hsrc]
          simp only
          split at h
          · split at h
            · rename_i b hb; rw [hs _ _ hb]; exact h
            · simp at h
          · simp at h
        · simp at h
    · simp at h
  · simp at h

theorem opAppend_mono {K' : Know} (hs : Knows K K') {n : Nat} {fit : Bool} {sT xT : TypeId} {x y : AV} {r : Ox} (h : opAppend T K n fit sT xT x y = some r) : opAppend T K' n fit sT xT x y = some r := by
  unfold opAppend at *
  split at h
  · split at h
    · rename_i e he
      split at h
      · simp at h
      · rename_i hz
        simp only [if_neg hz]
        split at h
        · rename_i vx m bs hnew
          rw [newOf_mono hs hnew]
          simp only
          split at h
          · rename_i hnb
            simp only [if_pos hnb]
            split at h
            · split at h
              · rename_i hzz
                simp only [if_pos hzz]
                split at h
                · rename_i b hb; rw [hs _ _ hb]; exact h
                · simp at h
              · simp at h
            · split at h
              · rename_i b hb; rw [hs _ _ hb]; exact h
              · simp at h
            · exact h
            · simp at h
          · simp at h
        · simp at h
    · simp at h
  · simp at h

theorem ofOx_mono {o o' : Option Ox} {r : Rx} (h : ofOx o = some r) (hh : ∀ x, o = some x → o' = some x) : ofOx o' = some r := by
  obtain ⟨x, hx, rfl⟩ := ofOx_some h
  rw [hh x hx]; rfl

theorem opx_mono (hΓ : GamOk P Γ) {K' : Know} (hs : Knows K K') {ρ : Rho} {n : Nat} {bit : Bool} {o : Op} {r : Rx} (h : opx T Γ ρ K n bit o = some r) : opx T Γ ρ K' n bit o = some r := by
  cases o
  case load => exact ofOx_mono h fun _ hx => opLoad_mono hs hx
  case store => exact ofOx_mono h fun _ hx => opStore_mono hs hx
  case convert src dst x =>
    simp only [opx] at h ⊢
    split at h
    · split at h
      · exact ofOx_mono h fun _ hx => opConvS_mono hs hx
      · exact h
    · simp at h
  case makeFunc fn _ _ => cases fn <;> exact h
  case call c =>
    have h : opCall T Γ ρ K n bit c = some r := h
    show opCall T Γ ρ K' n bit c = some r
    unfold opCall at *
    cases hc : c.callee with
    | invoke a b => simp [hc] at h
    | builtin b =>
      simp only [hc] at h ⊢
      unfold opBuiltin at *
      split at h <;> first | exact h | exact ofOx_mono h fun _ hx => opCopy_mono hs hx | exact ofOx_mono h fun _ hx => opAppend_mono hs hx
    | value f =>
      simp only [hc] at h ⊢
      split at h
      · exact hΓ.mono _ _ _ _ _ _ h hs
      · simp at h
  all_goals exact h
end sound
end Go.Proofs.Ytepimglipelpmaa.X
