/- The operations, fifth part: append and copy. -/
import Derived.Test.YtepimglipelpmaaXF
import Derived.Laws.AppendOwn
namespace Go.Proofs.Ytepimglipelpmaa.X
open Go

/-- cells c .. c + m, the lengths perhaps in letters only -/
def segR (cells : List Atom) (c m : Nat) : Option (Prop × List Atom) :=
  match cells with
  | [.ints k n l] => some (c + m ≤ n, [.ints k m (sub l c m)])
  | [.vals n l] => some (c + m ≤ n, [.vals m (sub l c m)])
  | cells => (takeC cells c m).map (True, ·)

theorem segR_con {β : Env} {cells : List Atom} {c m : Nat} {vc : Prop} {out : List Atom} {cs : List Value} (h : segR cells c m = some (vc, out)) (hv : vc) (hc : cons β cells cs) :
    cons β out (sub cs c m) ∧ (0 < m → c + m ≤ cs.length) := by
  unfold segR at h
  split at h
  · simp only [Option.some.injEq, Prod.mk.injEq] at h; obtain ⟨rfl, rfl⟩ := h
    rw [cons_single] at hc; obtain ⟨hl, rfl⟩ := hc
    rw [cons_single]
    exact ⟨⟨sub_len _ _ _ (by omega), by rw [sub_map]⟩, fun _ => by simp; omega⟩
  · simp only [Option.some.injEq, Prod.mk.injEq] at h; obtain ⟨rfl, rfl⟩ := h
    rw [cons_single] at hc; obtain ⟨hl, rfl, h1⟩ := hc
    rw [cons_single]
    exact ⟨⟨sub_len _ _ _ (by omega), rfl, fun v hv => h1 v (List.mem_of_mem_drop (List.mem_of_mem_take hv))⟩, fun _ => by omega⟩
  · simp only [Option.map_eq_some_iff, Prod.mk.injEq] at h
    obtain ⟨o, ho, rfl, rfl⟩ := h
    exact takeC_con ho hc

def joinA (a b : List Atom) : List Atom :=
  match a, b with
  | [.ints k n xs], [.ints k' m ys] => if k = k' then [.ints k (n + m) (xs ++ ys)] else a ++ b
  | [.vals n xs], [.vals m ys] => [.vals (n + m) (xs ++ ys)]
  | a, b => a ++ b

theorem joinA_con {β : Env} {a b : List Atom} {cs ds : List Value} (ha : cons β a cs) (hb : cons β b ds) : cons β (joinA a b) (cs ++ ds) := by
  unfold joinA
  split
  · split
    · rename_i hk; subst hk
      rw [cons_single] at ha hb
      obtain ⟨h1, rfl⟩ := ha
      obtain ⟨h2, rfl⟩ := hb
      rw [cons_single]
      exact ⟨by simp [h1, h2], by simp⟩
    · exact cons_append ha hb
  · rw [cons_single] at ha hb
    obtain ⟨h1, rfl, h3⟩ := ha
    obtain ⟨h2, rfl, h4⟩ := hb
    rw [cons_single]
    exact ⟨by simp [h1, h2], rfl, fun v hv => by rcases List.mem_append.1 hv with h | h; exact h3 v h; exact h4 v h⟩
  · exact cons_append ha hb

theorem nomL_append {lo hi : Nat} {a b : List Atom} (ha : nomL lo hi a = true) (hb : nomL lo hi b = true) : nomL lo hi (a ++ b) = true := by
  unfold nomL at *; rw [List.all_append, ha, hb]; rfl

theorem joinA_nom {lo hi : Nat} {a b : List Atom} (ha : nomL lo hi a = true) (hb : nomL lo hi b = true) : nomL lo hi (joinA a b) = true := by
  unfold joinA
  split
  · split
    · rfl
    · exact nomL_append ha hb
  · rfl
  · exact nomL_append ha hb

/-- the first cnt elements of a slice: what must hold, the cells -/
def srcOf (K : Know) (z cnt : Nat) (x : AV) : Option (Prop × List Atom) :=
  match x with
  | .o (.a (.sl j c m _)) =>
    (match K.at j with
     | none => none
     | some b => (match segR b.cells c (mulz cnt z) with
       | some (vc, out) => some (cnt ≤ m ∧ vc, out)
       | none => none))
  | .o (.a (.rs j c m _)) =>
    (match K.at j with
     | none => none
     | some b => (match segR b.cells c (mulz cnt z) with
       | some (vc, out) => some (cnt ≤ m ∧ vc, out)
       | none => none))
  | .o (.a (.raw (.slice none 0 0))) => some (cnt = 0, [])
  | _ => none

def lenA : AV → Option Nat
  | .o (.a (.sl _ _ m _)) => some m
  | .o (.a (.rs _ _ m _)) => some m
  | .o (.a (.raw (.slice none 0 0))) => some 0
  | _ => none

section sound
variable {P : Program} {T : Tab} {w0 : World} {rw : List Nat} {β : Env} {K : Know} {w : World}

theorem lenA_run {x : AV} {m : Nat} {v : Value} (h : lenA x = some m) (hx : x.con β v) (w : World) : (Builtin.lenOf v).run P w = .ok m w := by
  unfold lenA at h
  split at h <;> simp only [Option.some.injEq, reduceCtorEq] at h <;> subst h
  · obtain ⟨base, hv, _⟩ := hx; simp only [List.cons.injEq, and_true] at hv; subst hv; rfl
  · obtain ⟨base, cap, hv, _⟩ := hx; simp only [List.cons.injEq, and_true] at hv; subst hv; rfl
  · obtain ⟨hv, _⟩ := hx; simp only [List.cons.injEq, and_true] at hv; subst hv; rfl

theorem run_loadCells_world (a : Addr) (cs : List Value) (w w' : World) (hh : w'.heap = w.heap) (h : ∀ (i : Nat) (v : Value), cs[i]? = some v → w.cell? (a.add i) = some v) :
    (loadCells a cs.length).run P w' = .ok cs.toArray w' :=
  run_loadCells_list (P := P) w' a cs fun j v hv => by
    have := h j v hv
    unfold World.cell? at *
    rw [hh]; exact this

theorem seg_run {z cnt j c : Nat} {base : Option Addr} {vc : Prop} {b : Blk} {out : List Atom} (hb : K.at j = some b) (hs : segR b.cells c (cnt * z) = some (vc, out)) (hvc : vc) (hR : RelW w0 rw β K w)
    (hbase : 0 < cnt * z → ∃ r, β j = some r ∧ base = some ⟨r.blk, r.off + c, none⟩) (mm cc : Nat) :
    ∃ ds, cons β out ds ∧ ds.length = cnt * z ∧ ∀ w' : World, w'.heap = w.heap → (Builtin.firstCells z cnt (.slice base mm cc)).run P w' = .ok ds.toArray w' := by
  by_cases h0 : cnt * z = 0
  · obtain ⟨cs, hc, _⟩ := hR.holds j b hb
    obtain ⟨ho, _⟩ := segR_con hs hvc hc
    rw [h0] at ho
    have : sub cs c 0 = [] := by simp [sub]
    rw [this] at ho
    refine ⟨[], ho, by rw [h0]; rfl, fun w' _ => ?_⟩
    cases base <;> simp [Builtin.firstCells, h0, loadCells, loadCellsFrom]
  · obtain ⟨r, hr, rfl⟩ := hbase (by omega)
    obtain ⟨cs, hc, hcell⟩ := Blk.cellsAt (hR.holds j b hb) hr
    obtain ⟨ho, hl⟩ := segR_con hs hvc hc
    have hl := hl (by omega)
    refine ⟨_, ho, sub_len _ _ _ hl, fun w' hh => ?_⟩
    have := run_loadCells_world (P := P) ⟨r.blk, r.off + c, none⟩ (sub cs c (cnt * z)) w w' hh (fun i u hu => by
      rw [addr_add, Nat.add_assoc]; exact hcell _ _ (getElem?_sub _ _ _ _ _ hu))
    rw [sub_len _ _ _ hl] at this
    exact this

theorem src_run {z cnt : Nat} {x : AV} {vc : Prop} {out : List Atom} {v : Value} (h : srcOf K z cnt x = some (vc, out)) (hv : vc) (hx : x.con β v) (hR : RelW w0 rw β K w) :
    ∃ ds, cons β out ds ∧ ds.length = cnt * z ∧ ∀ w' : World, w'.heap = w.heap → (Builtin.firstCells z cnt v).run P w' = .ok ds.toArray w' := by
  have pos : ∀ {a : Nat}, 0 < cnt * z → cnt ≤ a → 0 < a := by
    intro a h1 h2
    rcases Nat.eq_zero_or_pos cnt with h | h
    · subst h; simp at h1
    · omega
  unfold srcOf at h
  split at h
  · split at h
    · simp at h
    · rename_i j c m cap _ b hb
      split at h
      · rename_i vc' out' hs
        simp only [Option.some.injEq, Prod.mk.injEq] at h; obtain ⟨rfl, rfl⟩ := h
        obtain ⟨base, hv', hmc, hbase⟩ := hx
        simp only [List.cons.injEq, and_true] at hv'; subst hv'
        rw [mulz_eq] at hs
        exact seg_run hb hs hv.2 hR (fun hp => hbase (by have := pos hp hv.1; omega)) _ _
      · simp at h
  · split at h
    · simp at h
    · rename_i j c m z' _ b hb
      split at h
      · rename_i vc' out' hs
        simp only [Option.some.injEq, Prod.mk.injEq] at h; obtain ⟨rfl, rfl⟩ := h
        obtain ⟨base, cap, hv', hmc, hbase⟩ := hx
        simp only [List.cons.injEq, and_true] at hv'; subst hv'
        rw [mulz_eq] at hs
        exact seg_run hb hs hv.2 hR (fun hp => by obtain ⟨r, h1, h2, _⟩ := hbase (by have := pos hp hv.1; omega); exact ⟨r, h1, h2⟩) _ _
      · simp at h
  · simp only [Option.some.injEq, Prod.mk.injEq] at h; obtain ⟨rfl, rfl⟩ := h
    subst hv
    obtain ⟨hv', _⟩ := hx
    simp only [List.cons.injEq, and_true] at hv'; subst hv'
    exact ⟨[], rfl, by simp, fun w' _ => rfl⟩
  · simp at h

theorem RelW.rephrase (h : RelW w0 rw β K w) {j : Nat} {b : Blk} (hb : K.at j = some b) {out : List Atom} (hc : ∀ cs, cons β b.cells cs → cons β out cs) : RelW w0 rw β (K.set1 j (some ⟨b.own, out⟩)) w := by
  have key : ∀ x b2, (K.set1 j (some ⟨b.own, out⟩)).at x = some b2 → ∃ b3, K.at x = some b3 ∧ b3.own = b2.own ∧ ∀ cs, cons β b3.cells cs → cons β b2.cells cs := by
    intro x b2 hx
    rw [Know.at_set1] at hx
    by_cases hxj : x = j
    · subst hxj; simp only [if_true, Option.some.injEq] at hx; subst hx; exact ⟨b, hb, rfl, hc⟩
    · rw [if_neg hxj] at hx; exact ⟨b2, hx, rfl, fun _ h => h⟩
  refine ⟨?_, ?_, ?_, ?_, h.old, h.size, h.os, h.tape, h.output⟩
  · intro x b2 hx
    obtain ⟨b3, h3, ho, hcc⟩ := key x b2 hx
    obtain ⟨cs, hc3, hd⟩ := h.holds x b3 h3
    exact ⟨cs, hcc cs hc3, by rw [← ho]; exact hd⟩
  · intro a k b2 c2 r s ha hk ho hne hr hs
    obtain ⟨b3, h3, ho3, _⟩ := key a b2 ha
    obtain ⟨c3, h4, _, _⟩ := key k c2 hk
    exact h.apart a k b3 c3 r s h3 h4 (ho3.trans ho) hne hr hs
  · intro x b2 r hx ho hr
    obtain ⟨b3, h3, ho3, _⟩ := key x b2 hx
    exact h.mine x b3 r h3 (ho3.trans ho) hr
  · intro x b2 r hx hr
    obtain ⟨b3, h3, _, _⟩ := key x b2 hx
    exact h.live x b3 r h3 hr

/-- writing some cells, perhaps none -/
theorem RelW.store0 (P : Program) (h : RelW w0 rw β K w) {j : Nat} {b : Blk} (hb : K.at j = some b) (ho : b.own = true) {c m : Nat} {new out : List Atom} {ds : List Value}
    (hp : ∀ cs, cons β b.cells cs → cons β out (splice cs c m ds) ∧ c + m ≤ cs.length) (hn : cons β new ds) (hm : ds.length = m) (a : Addr) (ha : 0 < m → ∃ r, β j = some r ∧ a = ⟨r.blk, r.off + c, none⟩) :
    ∃ w', (storeCells a ds).run P w = .ok () w' ∧ RelW w0 rw β (K.set1 j (some ⟨true, out⟩)) w' := by
  by_cases h0 : m = 0
  · subst h0
    have : ds = [] := List.eq_nil_of_length_eq_zero hm
    subst this
    refine ⟨w, rfl, ?_⟩
    have := h.rephrase hb (out := out) (fun cs hc => by
      have := (hp cs hc).1
      rwa [show splice cs c 0 [] = cs by simp [splice]] at this)
    rwa [ho] at this
  · obtain ⟨r, hr, rfl⟩ := ha (by omega)
    exact RelW.store P h hb ho hr hp hn hm (by omega)
end sound

section ops
variable (T : Tab) (K : Know) (n : Nat)

def opCopy (t : TypeId) (d s : AV) : Option Ox :=
  match T t with
  | some ⟨.slice el, _, _, _, _⟩ =>
    (match T el, lenA s, lenA d with
     | some e, some m, some dl =>
       if e.size = 0 then none else
       (match srcOf K e.size (min m dl) s with
        | some (vs, new) =>
          (match d with
           | .o (.a (.sl j c _ _)) =>
             (match K.at j with
              | some b => if b.own = true then
                  (match wrt true b.cells c (mulz (min m dl) e.size) new with
                   | some (vw, out) => some ⟨some (vs ∧ okP vw), .o (.a (.i .i64 (min m dl : Nat))), [(j, some ⟨true, out⟩)], false⟩
                   | none => none) else none
              | none => none)
           | _ => none)
        | none => none)
     | _, _, _ => none)
  | _ => none

/-- what is appended: what must hold, how many, the cells -/
def newOf (e : TE) (xT : TypeId) (x : AV) : Option (Prop × Nat × List Atom) :=
  match T xT with
  | some ⟨.int _, _, _, _, _⟩ => (match intAV x with
    | some i => (match repS i.toNat e with
      | some out => some (0 ≤ i ∧ i * e.bytes ≤ 281474976710656, i.toNat, out)
      | none => none)
    | none => none)
  | some ⟨.slice _, _, _, _, _⟩ => (match lenA x with
    | some m => (match srcOf K e.size m x with
      | some (vc, out) => some (vc, m, out)
      | none => none)
    | none => none)
  | _ => none

/-- fit: the room is known to suffice -/
def opAppend (fit : Bool) (sT xT : TypeId) (s x : AV) : Option Ox :=
  match T sT with
  | some ⟨.slice el, _, _, _, _⟩ =>
    (match T el with
     | some e =>
       if e.size = 0 ∨ e.bytes = 0 then none else
       (match newOf T K e xT x with
        | some (vx, m, bs) =>
          if nomL n (n + 1) bs = true then
          (match s with
           | .o (.a (.rs j c len z)) =>
             if z = e.size then
             (match K.at j with
              | some b => if b.own = true then
                 (match segR b.cells c (mulz len e.size) with
                  | some (vs, as) => if nomL n (n + 1) as = true ∧ j ≠ n then
                      some ⟨some (vs ∧ vx ∧ (len + m) * e.bytes ≤ 140737488355328), .o (.a (.rs n 0 (len + m) z)), [(j, none), (n, some ⟨true, joinA as bs⟩)], true⟩ else none
                  | none => none) else none
              | none => none) else none
           | .o (.a (.sl j c len cap)) =>
             (match K.at j with
              | some b =>
                if fit = true then
                  (if b.own = true then
                   (match wrt true b.cells (c + mulz len e.size) (mulz m e.size) bs with
                    | some (vw, out) => some ⟨some (vx ∧ okP vw ∧ len + m ≤ cap), .o (.a (.sl j c (len + m) cap)), [(j, some ⟨true, out⟩)], false⟩
                    | none => none) else none)
                else
                  (match segR b.cells c (mulz len e.size) with
                   | some (vs, as) => if nomL n (n + 1) as = true then
                       some ⟨some (vs ∧ vx ∧ cap < len + m ∧ (len + m) * e.bytes ≤ 140737488355328), .o (.a (.rs n 0 (len + m) e.size)), [(n, some ⟨true, joinA as bs⟩)], true⟩ else none
                   | none => none)
              | none => none)
           | .o (.a (.raw (.slice none 0 0))) => some ⟨some (vx ∧ m * e.bytes ≤ 140737488355328), .o (.a (.rs n 0 m e.size)), [(n, some ⟨true, bs⟩)], true⟩
           | _ => none) else none
        | none => none)
     | none => none)
  | _ => none
end ops

section sound
variable {P : Program} {T : Tab} {w0 : World} {rw : List Nat} {β : Env} {K : Know} {w : World}

theorem opCopy_ok (hT : TabOk P T) {n : Nat} {t tt t' : TypeId} {x y : AV} {o : Ox} {u v : Value} (h : opCopy T K t x y = some o) (hvc : okP o.vc) (hx : x.con β u) (hy : y.con β v) (hR : RelW w0 rw β K w) :
    Goes P w0 rw β K w n (Builtin.copy_ #[t, t'] tt #[u, v]) o := by
  unfold opCopy at h
  split at h
  · rename_i el _ _ _ _ ht
    split at h
    · rename_i e m dl he hm hdl
      split at h
      · simp at h
      · rename_i hz
        split at h
        · rename_i vs new hs
          split at h
          · rename_i j c l cap
            split at h
            · rename_i b hb
              split at h
              · rename_i ho
                split at h
                · rename_i vw out hw
                  simp only [Option.some.injEq] at h; subst h
                  have hvc : vs ∧ okP vw := hvc
                  obtain ⟨i, z, hi, hsz, _⟩ := (hT _ _ he).info
                  obtain ⟨ds, hds, hlen, hrun⟩ := src_run (P := P) hs hvc.1 hy hR
                  have hlr := lenA_run (P := P) hm hy w
                  simp only [lenA, Option.some.injEq] at hdl; subst hdl
                  obtain ⟨base, hv, hlc, hbase⟩ := hx
                  simp only [List.cons.injEq, and_true] at hv; subst hv
                  rw [mulz_eq] at hw
                  cases base with
                  | none =>
                    have hcap : cap = 0 := by
                      rcases Nat.eq_zero_or_pos cap with h | h
                      · exact h
                      · obtain ⟨r, _, h2⟩ := hbase h; cases h2
                    have hl0 : l = 0 := by omega
                    subst hl0
                    simp only [Nat.min_zero, Nat.zero_mul] at hlen hw
                    have hd0 : ds = [] := List.eq_nil_of_length_eq_zero hlen
                    subst hd0
                    refine ⟨β, .int .i64 ((min m 0 : Nat)), w, ?_, agree_refl _ _ _, rfl, ?_⟩
                    · simp only [Builtin.copy_, List.getElem?_toArray, List.getElem?_cons_zero, List.getElem?_cons_succ, Sem.run_bind, run_underlying (hT _ _ ht).und, Result.andThen_ok, hlr, run_sizeOf' w hi, hsz]
                      have := hrun w rfl
                      simp only [Nat.min_zero] at this
                      have e0 : Nat.min m 0 = 0 := Nat.min_zero m
                      simp [e0, this, goInt]
                    · have := hR.rephrase hb (out := out) (fun cs hc => by
                        have := (wrt_con hw hvc.2 hc hds hlen).1
                        rwa [show splice cs c 0 [] = cs by simp [splice]] at this)
                      rwa [ho] at this
                  | some a =>
                    obtain ⟨w', hst, hrel⟩ := RelW.store0 P hR hb ho (fun cs hc => wrt_con hw hvc.2 hc hds hlen) hds hlen a (fun hpos => by
                      have : 0 < l := by
                        rcases Nat.eq_zero_or_pos l with h | h
                        · subst h; simp at hpos
                        · exact h
                      obtain ⟨r, hr, h2⟩ := hbase (by omega)
                      exact ⟨r, hr, by simpa using h2⟩)
                    refine ⟨β, .int .i64 ((min m l : Nat)), w', ?_, agree_refl _ _ _, rfl, hrel⟩
                    simp only [Builtin.copy_, List.getElem?_toArray, List.getElem?_cons_zero, List.getElem?_cons_succ, Sem.run_bind, run_underlying (hT _ _ ht).und, Result.andThen_ok, hlr, run_sizeOf' w hi, hsz]
                    have := hrun w rfl
                    have e0 : Nat.min m l = min m l := rfl
                    simp [e0, this, goInt, hst]
                · simp at h
              · simp at h
            · simp at h
          · simp at h
        · simp at h
    · simp at h
  · simp at h

structure NewV (P : Program) (w : World) (i : TypeInfo) (z : Value) (xT : TypeId) (v : Value) (m : Nat) (ds : List Value) : Prop where
  len : ds.length = m * i.size
  how : ∃ dx, P.underlying xT = some dx ∧
    (((∃ k0, dx = .int k0) ∧ (∃ k, v = .int k (m : Int)) ∧ (m : Int) * i.bytes ≤ 281474976710656 ∧ (m : Int) ≤ 281474976710656 ∧ ds = (List.replicate m z.cells.toList).flatten) ∨
     ((∃ el, dx = .slice el) ∧ ∀ w' : World, w'.heap = w.heap → (Builtin.lenOf v).run P w' = .ok m w' ∧ (Builtin.firstCells i.size m v).run P w' = .ok ds.toArray w'))

theorem newOf_run (hT : TabOk P T) {e : TE} {el xT : TypeId} (he : T el = some e) (hb0 : e.bytes ≠ 0) {i : TypeInfo} {z : Value} (hs : i.size = e.size) (hby : i.bytes = e.bytes) (hzc : ∀ β, cons β e.zero z.cells.toList)
    {x : AV} {vc : Prop} {m : Nat} {bs : List Atom} {v : Value}
    (h : newOf T K e xT x = some (vc, m, bs)) (hv : vc) (hx : x.con β v) (hR : RelW w0 rw β K w) : ∃ ds, cons β bs ds ∧ NewV P w i z xT v m ds := by
  have hzl : z.cells.toList.length = e.size := by have := cons_len (hzc β); rw [(hT _ _ he).zsz] at this; exact this
  unfold newOf at h
  split at h
  · rename_i kk _ _ _ _ ht
    split at h
    · rename_i ii hia
      split at h
      · rename_i out hr
        simp only [Option.some.injEq, Prod.mk.injEq] at h; obtain ⟨rfl, rfl, rfl⟩ := h
        obtain ⟨k, rfl⟩ := intAV_con hia hx
        obtain ⟨hc, _⟩ := repS_con hr (hzc β)
        have hcb : ii ≤ 281474976710656 := by
          have h2 := hv.2
          have : ii * 1 ≤ ii * e.bytes := Int.mul_le_mul_of_nonneg_left (by omega) hv.1
          omega
        have hnn : ((ii.toNat : Nat) : Int) = ii := Int.toNat_of_nonneg hv.1
        refine ⟨_, hc, ⟨?_, ?_⟩⟩
        · simp only [List.length_flatten, List.map_replicate, List.sum_replicate_nat, hzl, hs]
        · exact ⟨_, (hT _ _ ht).und, .inl ⟨⟨_, rfl⟩, ⟨k, by rw [hnn]⟩, by rw [hnn, hby]; exact hv.2, by rw [hnn]; exact hcb, rfl⟩⟩
      · simp at h
    · simp at h
  · rename_i el2 _ _ _ _ hte
    split at h
    · rename_i mm hm
      split at h
      · rename_i vs out hsrc
        simp only [Option.some.injEq, Prod.mk.injEq] at h; obtain ⟨rfl, rfl, rfl⟩ := h
        obtain ⟨ds, hds, hlen, hrun⟩ := src_run (P := P) hsrc hv hx hR
        exact ⟨ds, hds, ⟨by rw [hs]; exact hlen, _, (hT _ _ hte).und, .inr ⟨⟨_, rfl⟩, fun w' hh => ⟨lenA_run hm hx w', by rw [hs]; exact hrun w' hh⟩⟩⟩⟩
      · simp at h
    · simp at h
  · simp at h

theorem zeroCells_list (z : Array Value) (m : Nat) : (Builtin.zeroCells z m).toList = (List.replicate m z.toList).flatten := range_rep z m

theorem run_append_fit {sT xT ty el : TypeId} {i : TypeInfo} {z v : Value} {m : Nat} {ds : List Value} (hu : P.underlying sT = some (.slice el)) (hi : P.info? el = some i) (hz : i.zero = some z) (hsz : i.size ≠ 0)
    (hn : NewV P w i z xT v m ds) {base : Option Addr} {sLen sCap : Nat} (hle : sLen + m ≤ sCap) {w' : World}
    (hst : match base with | some a => (storeCells (a.add (sLen * i.size)) ds).run P w = .ok () w' | none => w' = w) :
    (Builtin.append_ #[sT, xT] ty #[.slice base sLen sCap, v]).run P w = .ok (.slice base (sLen + m) sCap) w' := by
  obtain ⟨dx, hx, h⟩ := hn.how
  have hsize : ∀ w, (sizeOf el).run P w = .ok i.size w := fun w => run_sizeOf' w hi
  rcases h with ⟨⟨k0, rfl⟩, ⟨k, rfl⟩, h3, h4, rfl⟩ | ⟨⟨el2, rfl⟩, h2⟩
  · have hw : IntKind.i64.wrap (m : Int) = m := wrap64_id (by omega) h4
    have e1 : ¬ ((m : Int) < 0) := by omega
    have e2 : ¬ ((m : Int) * i.bytes > 2 ^ 48) := by omega
    unfold Builtin.append_
    simp only [List.getElem?_toArray, List.getElem?_cons_zero, List.getElem?_cons_succ, Sem.run_bind, run_underlying hu, run_underlying hx, Result.andThen_ok, hsize, Sem.run_pure, if_true, asInt, asIntOf, hw, if_neg e1, typeInfo, run_program, hi, if_neg e2, Int.toNat_natCast, Bool.not_true, Bool.false_eq_true, if_false, Sem.run_ite, if_pos hle]
    by_cases h0 : m * i.size = 0
    · have hm0 : m = 0 := by rcases Nat.mul_eq_zero.1 h0 with h | h; exact h; exact absurd h hsz
      subst hm0
      simp only [Nat.zero_mul, if_true, Result.andThen_ok]
      cases base with
      | none => subst hst; rfl
      | some a =>
        simp only [List.replicate_zero, List.flatten_nil, storeCells] at hst
        cases hst
        simp [storeCells]
    · have hzz : Builtin.zeroCells z.cells m = ((List.replicate m z.cells.toList).flatten).toArray := Array.toList_inj.1 (by rw [zeroCells_list])
      simp only [if_neg h0, Sem.run_bind, zeroValue, typeInfo, run_program, hi, hz, Sem.run_pure, Result.andThen_ok, hzz]
      cases base with
      | none => subst hst; rfl
      | some a => simp [hst]
  · obtain ⟨h5, h6⟩ := h2 w rfl
    unfold Builtin.append_
    simp only [List.getElem?_toArray, List.getElem?_cons_zero, List.getElem?_cons_succ, Sem.run_bind, run_underlying hu, run_underlying hx, Result.andThen_ok, hsize, Sem.run_pure, Bool.false_eq_true, if_false, h5, if_pos hle, Bool.not_false, if_true, h6, Sem.run_ite]
    cases base with
    | none => subst hst; rfl
    | some a => simp [hst]

theorem run_append_new {sT xT ty el : TypeId} {i : TypeInfo} {z v : Value} {m : Nat} {ds olds : List Value} (hu : P.underlying sT = some (.slice el)) (hi : P.info? el = some i) (hz : i.zero = some z) (hsz : i.size ≠ 0) (hb0 : i.bytes ≠ 0)
    (hn : NewV P w i z xT v m ds) {base : Option Addr} {sLen sCap : Nat} (hgt : sCap < sLen + m) (hb : (sLen + m) * i.bytes ≤ 140737488355328)
    (hold : ∀ w' : World, w'.heap = w.heap → (Builtin.firstCells i.size sLen (.slice base sLen sCap)).run P w' = .ok olds.toArray w') :
    (Builtin.append_ #[sT, xT] ty #[.slice base sLen sCap, v]).run P w =
      .ok (.slice (some ⟨w.heap.size, 0, none⟩) (sLen + m) (grownCap w (sLen + m) sCap el))
        { w.drew with heap := w.heap.push (.cells (olds ++ ds ++ (Builtin.zeroCells z.cells (grownCap w (sLen + m) sCap el - (sLen + m))).toList).toArray el) } := by
  obtain ⟨dx, hx, h⟩ := hn.how
  have hsize : ∀ w, (sizeOf el).run P w = .ok i.size w := fun w => run_sizeOf' w hi
  have hneed : sLen + m ≤ 140737488355328 := by
    have : (sLen + m) * 1 ≤ (sLen + m) * i.bytes := Nat.mul_le_mul_left _ (by omega)
    omega
  have hfits := growslice_fits hgt hb
  have hle : ¬ (sLen + m ≤ sCap) := by omega
  have e4 : ∀ q : Prop, ¬ (((sLen + m : Nat) : Int) > IntKind.i64.max ∧ q) := by intro q; simp [IntKind.max, IntKind.signed, IntKind.bits]; omega
  have e5 : ¬ (Builtin.nextslicecap (sLen + m) sCap * i.bytes > 2 ^ 48) := by omega
  have hch : ∀ w : World, (choose (.appendCap (sLen + m) sCap el)).run P w = .ok (grownCap w (sLen + m) sCap el) w.drew := by
    intro w; rw [run_choose]; rfl
  have harr : ∀ Z : Array Value, (olds ++ ds ++ Z.toList).toArray = olds.toArray ++ ds.toArray ++ Z := by intro Z; apply Array.toList_inj.1; simp
  rcases h with ⟨⟨k0, rfl⟩, ⟨k, rfl⟩, h3, h4, rfl⟩ | ⟨⟨el2, rfl⟩, h2⟩
  · have hw : IntKind.i64.wrap (m : Int) = m := wrap64_id (by omega) h4
    have e1 : ¬ ((m : Int) < 0) := by omega
    have e2 : ¬ ((m : Int) * i.bytes > 2 ^ 48) := by omega
    unfold Builtin.append_
    simp only [List.getElem?_toArray, List.getElem?_cons_zero, List.getElem?_cons_succ, Sem.run_bind, run_underlying hu, run_underlying hx, Result.andThen_ok, hsize, Sem.run_pure, if_true, asInt, asIntOf, hw, if_neg e1, typeInfo, run_program, hi, if_neg e2, Int.toNat_natCast, Bool.not_true, Bool.false_eq_true, if_false, Sem.run_ite, if_neg hle, if_neg (e4 _), if_neg e5, hch, run_askRoom, hold w.drew rfl]
    by_cases h0 : m * i.size = 0
    · have hm0 : m = 0 := by rcases Nat.mul_eq_zero.1 h0 with h | h; exact h; exact absurd h hsz
      subst hm0
      rw [harr]
      simp only [Nat.zero_mul, if_true, Sem.run_pure, Result.andThen_ok, zeroValue, typeInfo, Sem.run_bind, run_program, hi, hz, newRow, run_newObj, List.replicate_zero, List.flatten_nil]
      rfl
    · have hzz : Builtin.zeroCells z.cells m = ((List.replicate m z.cells.toList).flatten).toArray := Array.toList_inj.1 (by rw [zeroCells_list])
      simp only [if_neg h0, Sem.run_bind, zeroValue, typeInfo, run_program, hi, hz, Sem.run_pure, Result.andThen_ok, hzz, newRow, run_newObj, harr]
      rfl
  · obtain ⟨h5, _⟩ := h2 w rfl
    obtain ⟨_, h6⟩ := h2 w.drew rfl
    unfold Builtin.append_
    simp only [List.getElem?_toArray, List.getElem?_cons_zero, List.getElem?_cons_succ, Sem.run_bind, run_underlying hu, run_underlying hx, Result.andThen_ok, hsize, Sem.run_pure, Bool.false_eq_true, if_false, h5, if_neg hle, typeInfo, run_program, hi, if_neg (e4 _), if_neg e5, hch, run_askRoom, hold w.drew rfl, Bool.not_false, if_true, h6, Sem.run_ite, zeroValue, hz, newRow, run_newObj, harr]
    rfl

theorem grown_con {i : TypeInfo} {z : Value} (hzl : z.cells.toList.length = i.size) (w : World) (need old : Nat) (el : TypeId) (olds ds : List Value) (hlen : olds.length + ds.length = need * i.size) :
    (olds ++ ds ++ (Builtin.zeroCells z.cells (grownCap w need old el - need)).toList).length = grownCap w need old el * i.size := by
  have hge := grownCap_ge w need old el
  rw [zeroCells_list]
  simp only [List.length_append, List.length_flatten, List.map_replicate, List.sum_replicate_nat, hzl]
  rw [Nat.sub_mul]
  have : need * i.size ≤ grownCap w need old el * i.size := Nat.mul_le_mul_right _ hge
  omega

/-- a new array behind an append -/
theorem RelW.grown (hR : RelW w0 rw β K w) (n : Nat) (hn : K.at n = none) (hK : K.nom n (n + 1) = true) {as bs : List Atom} {olds ds rest : List Value} (hc1 : cons β as olds) (hc2 : cons β bs ds)
    (hn1 : nomL n (n + 1) as = true) (hn2 : nomL n (n + 1) bs = true) (el : TypeId) :
    RelW w0 rw (β.upd n (some ⟨w.heap.size, 0, (olds ++ ds ++ rest).length⟩)) (K.set1 n (some ⟨true, joinA as bs⟩)) { w.drew with heap := w.heap.push (.cells (olds ++ ds ++ rest).toArray el) } :=
  RelW.new (hR.drew (w.drawn + 1)) n hn hK (joinA_con hc1 hc2) (joinA_nom hn1 hn2) (olds ++ ds ++ rest) el
    (fun i v hv => by rw [List.getElem?_append_left (by have := (List.getElem?_eq_some_iff.1 hv).1; exact this)]; exact hv) (by simp)

theorem Know.set1_nom {lo hi : Nat} (h : K.nom lo hi = true) (j : Nat) (b : Option Blk) (hb : bnom lo hi b = true) : (K.set1 j b).nom lo hi = true := by
  unfold Know.nom Know.set1 at *
  split
  · rw [List.all_eq_true] at *
    intro x hx
    rcases List.mem_or_eq_of_mem_set hx with h1 | h1
    · exact h x h1
    · subst h1; exact hb
  · rw [List.all_append, List.all_append, h]
    simp only [Bool.true_and, List.all_cons, List.all_nil, Bool.and_true]
    rw [hb, Bool.and_true]
    rw [List.all_eq_true]; intro x hx; rw [(List.mem_replicate.1 hx).2]; rfl

/-- a nil row -/
theorem RelW.newNil (h : RelW w0 rw β K w) (n : Nat) (hK : K.nom n (n + 1) = true) {cells : List Atom} (hc : cons β cells []) (hcn : nomL n (n + 1) cells = true) (hn : K.at n = none) :
    RelW w0 rw (β.upd n none) (K.set1 n (some ⟨true, cells⟩)) w := by
  have hag := Env.agree_upd β n none
  have hother : ∀ k, k ≠ n → (β.upd n none) k = β k := fun k hk => by unfold Env.upd; rw [if_neg hk]
  have hself : (β.upd n none) n = none := by unfold Env.upd; rw [if_pos rfl]
  refine ⟨?_, ?_, ?_, ?_, h.old, h.size, h.os, h.tape, h.output⟩
  · intro k b hk
    rw [Know.at_set1] at hk
    by_cases hkn : k = n
    · subst hkn
      simp only [if_true, Option.some.injEq] at hk; subst hk
      exact ⟨[], cons_agree hag hcn hc, .inl ⟨rfl, .inr hself⟩⟩
    · rw [if_neg hkn] at hk
      obtain ⟨cs', hc', hd⟩ := h.holds k b hk
      exact ⟨cs', cons_agree hag (Know.nom_at hK hk) hc', by rw [hother k hkn]; exact hd⟩
  · intro a k b c r s ha hk ho hne hr hs
    rw [Know.at_set1] at ha hk
    by_cases han : a = n
    · subst han; rw [hself] at hr; cases hr
    · by_cases hkn : k = n
      · subst hkn; rw [hself] at hs; cases hs
      · rw [if_neg han] at ha; rw [if_neg hkn] at hk; rw [hother a han] at hr; rw [hother k hkn] at hs
        exact h.apart a k b c r s ha hk ho hne hr hs
  · intro x b r hx ho hr
    rw [Know.at_set1] at hx
    by_cases hxn : x = n
    · subst hxn; rw [hself] at hr; cases hr
    · rw [if_neg hxn] at hx; rw [hother x hxn] at hr; exact h.mine x b r hx ho hr
  · intro x b r hx hr
    rw [Know.at_set1] at hx
    by_cases hxn : x = n
    · subst hxn; rw [hself] at hr; cases hr
    · rw [if_neg hxn] at hx; rw [hother x hxn] at hr; exact h.live x b r hx hr

/-- a row goes over into another index, some cells behind its end being written -/
theorem RelW.move (P : Program) (h : RelW w0 rw β K w) {j n : Nat} {b : Blk} (hb : K.at j = some b) (ho : b.own = true) (hjn : j ≠ n) (hn : K.at n = none) (hK : K.nom n (n + 1) = true) {r : Ref} (hr : β j = some r)
    {c m : Nat} {as bs : List Atom} {olds ds : List Value} (hm : olds.length = m)
    (hoc : cons β as olds) (holdc : ∀ (i : Nat) (v : Value), olds[i]? = some v → w.cell? ⟨r.blk, r.off + c + i, none⟩ = some v) (hds : cons β bs ds) (hn1 : nomL n (n + 1) as = true) (hn2 : nomL n (n + 1) bs = true)
    (hin : r.off + c + m + ds.length ≤ r.size) :
    ∃ w', (storeCells ⟨r.blk, r.off + c + m, none⟩ ds).run P w = .ok () w' ∧ RelW w0 rw (β.upd n (some ⟨r.blk, r.off + c, r.size⟩)) ((K.set1 j none).set1 n (some ⟨true, joinA as bs⟩)) w' := by
  obtain ⟨cs, hc, hd⟩ := h.holds j b hb
  rcases hd with ⟨_, h2⟩ | ⟨r', arr, ty, fr, hr', hh, hs, hl, ha, hf⟩
  · rcases h2 with h2 | h2
    · rw [ho] at h2; cases h2
    · rw [hr] at h2; cases h2
  rw [hr] at hr'; cases hr'
  have hfr := hf ho; subst hfr
  have hrun := run_storeCells_at P r.blk (r.off + c + m) ty ds 0 arr w hh (by omega) (cons_one hds)
  refine ⟨_, hrun, ?_⟩
  simp only [Nat.add_zero]
  have hspl : (arr.toList.take (r.off + c + m) ++ ds ++ arr.toList.drop (r.off + c + m + ds.length)) = splice arr.toList (r.off + c + m) ds.length ds := rfl
  rw [hspl]
  have hsl : (splice arr.toList (r.off + c + m) ds.length ds).length = arr.size := by rw [splice_len _ _ _ _ (by simp; omega) rfl]; simp
  have hag := Env.agree_upd β n (some ⟨r.blk, r.off + c, r.size⟩)
  have hother : ∀ k, k ≠ n → (β.upd n (some ⟨r.blk, r.off + c, r.size⟩)) k = β k := fun k hk => by unfold Env.upd; rw [if_neg hk]
  have hself : (β.upd n (some ⟨r.blk, r.off + c, r.size⟩)) n = some ⟨r.blk, r.off + c, r.size⟩ := by unfold Env.upd; rw [if_pos rfl]
  have hat : ∀ k, ((K.set1 j none).set1 n (some ⟨true, joinA as bs⟩)).at k = if k = n then some ⟨true, joinA as bs⟩ else if k = j then none else K.at k := by
    intro k; rw [Know.at_set1, Know.at_set1]
  refine ⟨?_, ?_, ?_, ?_, ?_, ?_, h.os, h.tape, h.output⟩
  · intro k b' hk
    rw [hat] at hk
    by_cases hkn : k = n
    · subst hkn
      simp only [if_true, Option.some.injEq] at hk; subst hk
      refine ⟨olds ++ ds, cons_agree hag (joinA_nom hn1 hn2) (joinA_con hoc hds), .inr ⟨_, _, ty, (0, 0), hself, setRow_heap w r.blk arr _ ty _ hh, by simpa [hsl] using hs, ?_, ?_, fun _ => rfl⟩⟩
      · simp [hm]; omega
      · intro i v hv
        rw [List.getElem?_toArray, getElem?_splice _ _ _ _ (by simp; omega) rfl]
        simp only
        by_cases h1 : i < m
        · rw [if_pos (by omega)]
          rw [List.getElem?_append_left (by omega)] at hv
          have := holdc i v hv
          simpa [World.cell?, hh] using this
        · rw [if_neg (by omega)]
          rw [List.getElem?_append_right (by omega)] at hv
          have hlt := (List.getElem?_eq_some_iff.1 hv).1
          rw [if_pos (by omega)]
          rw [show r.off + c + i - (r.off + c + m) = i - olds.length by omega]; exact hv
    · rw [if_neg hkn] at hk
      split at hk
      · simp at hk
      · rename_i hkj
        obtain ⟨cs', hc', hd'⟩ := h.holds k b' hk
        refine ⟨cs', cons_agree hag (Know.nom_at hK hk) hc', ?_⟩
        rcases hd' with ⟨h1, h2⟩ | ⟨s, arr', ty', fr', hs', hh', rest⟩
        · exact .inl ⟨h1, by rw [hother k hkn]; exact h2⟩
        · have hne := h.apart j k b b' r s hb hk ho (fun e => hkj e.symm) hr hs'
          exact .inr ⟨s, arr', ty', fr', by rw [hother k hkn]; exact hs', by rw [setRow_other w r.blk s.blk _ (fun e => hne e.symm)]; exact hh', rest⟩
  · intro a k b1 c1 r1 s1 ha1 hk1 ho1 hne hr1 hs1
    rw [hat] at ha1 hk1
    by_cases han : a = n
    · subst han
      rw [hself] at hr1; cases hr1
      rw [if_neg (fun e => hne e.symm)] at hk1
      rw [hother k (fun e => hne e.symm)] at hs1
      split at hk1
      · simp at hk1
      · rename_i hkj
        exact h.apart j k b c1 r s1 hb hk1 ho (fun e => hkj e.symm) hr hs1
    · rw [if_neg han] at ha1
      rw [hother a han] at hr1
      split at ha1
      · simp at ha1
      · rename_i haj
        by_cases hkn : k = n
        · subst hkn
          rw [hself] at hs1; cases hs1
          have := h.apart j a b b1 r r1 hb ha1 ho (fun e => haj e.symm) hr hr1
          exact fun e => this e.symm
        · rw [if_neg hkn] at hk1
          rw [hother k hkn] at hs1
          split at hk1
          · simp at hk1
          · exact h.apart a k b1 c1 r1 s1 ha1 hk1 ho1 hne hr1 hs1
  · intro x b1 r1 hx ho1 hr1
    rw [hat] at hx
    by_cases hxn : x = n
    · subst hxn; rw [hself] at hr1; cases hr1; exact h.mine j b r hb ho hr
    · rw [if_neg hxn] at hx; rw [hother x hxn] at hr1
      split at hx
      · simp at hx
      · exact h.mine x b1 r1 hx ho1 hr1
  · intro x b1 r1 hx hr1
    rw [hat] at hx
    rw [size_setRow]
    by_cases hxn : x = n
    · subst hxn; rw [hself] at hr1; cases hr1; exact h.live j b r hb hr
    · rw [if_neg hxn] at hx; rw [hother x hxn] at hr1
      split at hx
      · simp at hx
      · exact h.live x b1 r1 hx hr1
  · intro b1 hb1 hb2
    have hne : b1 ≠ r.blk := by
      rcases h.mine j b r hb ho hr with hm' | hm'
      · omega
      · intro e; subst e; exact hb2 hm'
    rw [setRow_other w r.blk b1 _ hne]; exact h.old b1 hb1 hb2
  · rw [size_setRow]; exact h.size

theorem opAppend_ok (hT : TabOk P T) {n : Nat} {fit : Bool} {sT xT tt : TypeId} {x y : AV} {o : Ox} {u v : Value} (h : opAppend T K n fit sT xT x y = some o) (hvc : okP o.vc) (hx : x.con β u) (hy : y.con β v)
    (hn : o.al = true → K.at n = none ∧ K.nom n (n + 1) = true) (hR : RelW w0 rw β K w) : Goes P w0 rw β K w n (Builtin.append_ #[sT, xT] tt #[u, v]) o := by
  unfold opAppend at h
  split at h
  · rename_i el _ _ _ _ ht
    split at h
    · rename_i e he
      split at h
      · simp at h
      · rename_i hzb
        have hz : e.size ≠ 0 := fun e' => hzb (.inl e')
        have hb0 : e.bytes ≠ 0 := fun e' => hzb (.inr e')
        split at h
        · rename_i vx m bs hnew
          split at h
          · rename_i hnb
            obtain ⟨i, z, hi, hs, hby, hzv, hzc⟩ := (hT _ _ he).info
            have hzl : z.cells.toList.length = i.size := by have := cons_len (hzc β); rw [(hT _ _ he).zsz] at this; rw [hs]; exact this
            have hu := (hT _ _ ht).und
            split at h
            · rename_i j c len zz
              split at h
              · rename_i hzz; subst hzz
                split at h
                · rename_i b hb
                  split at h
                  · rename_i ho
                    split at h
                    · rename_i vs as hseg
                      split at h
                      · rename_i hna
                        obtain ⟨hna, hjn⟩ := hna
                        simp only [Option.some.injEq] at h; subst h
                        have hvc : vs ∧ vx ∧ (len + m) * e.bytes ≤ 140737488355328 := hvc
                        obtain ⟨hv1, hv2, hv3⟩ := hvc
                        obtain ⟨hn, hK⟩ := hn rfl
                        rw [mulz_eq] at hseg
                        obtain ⟨ds, hds, hnv⟩ := newOf_run hT he hb0 hs hby hzc hnew hv2 hy hR
                        obtain ⟨base, cap, hv, hlc, hbase⟩ := hx
                        simp only [List.cons.injEq, and_true] at hv; subst hv
                        have hdl : ds.length = m * e.size := by rw [hnv.len, hs]
                        have hnj : (K.set1 j none).at n = none := by rw [Know.at_set1, if_neg (fun e => hjn e.symm)]; exact hn
                        have hKj : (K.set1 j none).nom n (n + 1) = true := Know.set1_nom hK _ _ rfl
                        by_cases hfit : len + m ≤ cap
                        · by_cases hc0 : cap = 0
                          · have hl0 : len = 0 := by omega
                            have hm0 : m = 0 := by omega
                            subst hl0; subst hm0
                            have hd0 : ds = [] := List.eq_nil_of_length_eq_zero (by simpa using hdl)
                            subst hd0
                            have hrun := run_append_fit (ty := tt) hu hi hzv (by rw [hs]; exact hz) hnv (base := base) hfit (w' := w) (by cases base <;> simp [storeCells])
                            obtain ⟨cs, hcs, _⟩ := hR.holds j b hb
                            have has := (segR_con hseg hv1 hcs).1
                            rw [show sub cs c (0 * e.size) = [] by simp [sub]] at has
                            have hjoin := joinA_con has hds
                            refine ⟨β.upd n none, _, w, hrun, Env.agree_upd _ _ _, ?_, RelW.newNil (hR.drop j) n hKj hjoin (joinA_nom hna hnb) hnj⟩
                            exact ⟨base, cap, rfl, hfit, fun hp => by omega⟩
                          · obtain ⟨r, hr, rfl, hin⟩ := hbase (by omega)
                            obtain ⟨cs, hcs, hcell⟩ := Blk.cellsAt (hR.holds j b hb) hr
                            obtain ⟨has, hlen⟩ := segR_con hseg hv1 hcs
                            have hsl : (sub cs c (len * e.size)).length = len * e.size := by
                              by_cases h0 : len * e.size = 0
                              · rw [h0]; simp [sub]
                              · exact sub_len _ _ _ (hlen (by omega))
                            have hroom : (len + m) * e.size ≤ cap * e.size := Nat.mul_le_mul_right _ hfit
                            rw [Nat.add_mul] at hroom
                            obtain ⟨w', hst, hrel⟩ := RelW.move P hR hb ho hjn hn hK hr hsl has (fun k vv hvv => by
                              rw [Nat.add_assoc]; exact hcell _ _ (getElem?_sub _ _ _ _ _ hvv)) hds hna hnb (by rw [hdl]; omega)
                            have hrun := run_append_fit (ty := tt) hu hi hzv (by rw [hs]; exact hz) hnv (base := some ⟨r.blk, r.off + c, none⟩) hfit (w' := w') (by rw [hs]; simpa [addr_add] using hst)
                            refine ⟨_, _, w', hrun, Env.agree_upd _ _ _, ?_, hrel⟩
                            refine ⟨_, cap, rfl, hfit, fun hp => ⟨_, by unfold Env.upd; rw [if_pos rfl], by simp, by simp; omega⟩⟩
                        · obtain ⟨olds, hold, hol, hof⟩ := seg_run (P := P) hb hseg hv1 hR (base := base) (fun hp => by
                            have : 0 < len := by
                              rcases Nat.eq_zero_or_pos len with h | h
                              · subst h; simp at hp
                              · exact h
                            obtain ⟨r, h1, h2, _⟩ := hbase (by omega); exact ⟨r, h1, h2⟩) len cap
                          have hrun := run_append_new (ty := tt) hu hi hzv (by rw [hs]; exact hz) (by rw [hby]; exact hb0) hnv (base := base) (sLen := len) (sCap := cap) (olds := olds) (by omega) (by rw [hby]; exact hv3) (by rw [hs]; exact hof)
                          have hrel := RelW.grown (hR.drop j) n hnj hKj (rest := (Builtin.zeroCells z.cells (grownCap w (len + m) cap el - (len + m))).toList) hold hds hna hnb el
                          have hgl := grown_con hzl w (len + m) cap el olds ds (by rw [hol, hdl, hs, Nat.add_mul])
                          refine ⟨_, _, _, hrun, Env.agree_upd _ _ _, ?_, hrel⟩
                          refine ⟨_, _, rfl, grownCap_ge w _ _ _, fun hp => ⟨_, by unfold Env.upd; rw [if_pos rfl], by simp, ?_⟩⟩
                          simp only [hgl, hs]; omega
                      · simp at h
                    · simp at h
                  · simp at h
                · simp at h
              · simp at h
            · rename_i j c len cap
              split at h
              · rename_i b hb
                split at h
                · rename_i hfit
                  split at h
                  · rename_i ho
                    split at h
                    · rename_i vw out hw
                      simp only [Option.some.injEq] at h; subst h
                      have hvc : vx ∧ okP vw ∧ len + m ≤ cap := hvc
                      obtain ⟨hv1, hv2, hv3⟩ := hvc
                      rw [mulz_eq, mulz_eq] at hw
                      obtain ⟨ds, hds, hnv⟩ := newOf_run hT he hb0 hs hby hzc hnew hv1 hy hR
                      have hdl : ds.length = m * e.size := by rw [hnv.len, hs]
                      obtain ⟨base, hv, hlc, hbase⟩ := hx
                      simp only [List.cons.injEq, and_true] at hv; subst hv
                      cases base with
                      | none =>
                        have hcap : cap = 0 := by
                          rcases Nat.eq_zero_or_pos cap with h | h
                          · exact h
                          · obtain ⟨r, _, h2⟩ := hbase h; cases h2
                        have hm0 : m = 0 := by omega
                        subst hm0
                        have hd0 : ds = [] := List.eq_nil_of_length_eq_zero (by simpa using hdl)
                        subst hd0
                        have hrun := run_append_fit (ty := tt) hu hi hzv (by rw [hs]; exact hz) hnv (base := none) hv3 (w' := w) rfl
                        have hrel := hR.rephrase hb (out := out) (fun cs hc => by
                          have := (wrt_con hw hv2 hc hds hdl).1
                          rwa [show splice cs (c + len * e.size) (0 * e.size) [] = cs by simp [splice]] at this)
                        rw [ho] at hrel
                        refine ⟨β, _, w, hrun, agree_refl _ _ _, ⟨_, rfl, hv3, fun hp => by omega⟩, hrel⟩
                      | some a =>
                        obtain ⟨w', hst, hrel⟩ := RelW.store0 P hR hb ho (fun cs hc => wrt_con hw hv2 hc hds hdl) hds hdl (a.add (len * i.size)) (fun hpos => by
                          have : 0 < m := by
                            rcases Nat.eq_zero_or_pos m with h | h
                            · subst h; simp at hpos
                            · exact h
                          obtain ⟨r, hr, h2⟩ := hbase (by omega)
                          refine ⟨r, hr, ?_⟩
                          cases h2
                          rw [addr_add, hs, Nat.add_assoc])
                        have hrun := run_append_fit (ty := tt) hu hi hzv (by rw [hs]; exact hz) hnv (base := some a) hv3 (w' := w') hst
                        exact ⟨β, _, w', hrun, agree_refl _ _ _, ⟨_, rfl, hv3, fun hp => hbase hp⟩, hrel⟩
                    · simp at h
                  · simp at h
                · split at h
                  · rename_i vs as hseg
                    split at h
                    · rename_i hna
                      simp only [Option.some.injEq] at h; subst h
                      have hvc : vs ∧ vx ∧ cap < len + m ∧ (len + m) * e.bytes ≤ 140737488355328 := hvc
                      obtain ⟨hv1, hv2, hv3, hv4⟩ := hvc
                      obtain ⟨hn, hK⟩ := hn rfl
                      rw [mulz_eq] at hseg
                      obtain ⟨ds, hds, hnv⟩ := newOf_run hT he hb0 hs hby hzc hnew hv2 hy hR
                      have hdl : ds.length = m * e.size := by rw [hnv.len, hs]
                      obtain ⟨base, hv, hlc, hbase⟩ := hx
                      simp only [List.cons.injEq, and_true] at hv; subst hv
                      obtain ⟨olds, hold, hol, hof⟩ := seg_run (P := P) hb hseg hv1 hR (base := base) (fun hp => by
                        have : 0 < len := by
                          rcases Nat.eq_zero_or_pos len with h | h
                          · subst h; simp at hp
                          · exact h
                        exact hbase (by omega)) len cap
                      have hrun := run_append_new (ty := tt) hu hi hzv (by rw [hs]; exact hz) (by rw [hby]; exact hb0) hnv (base := base) (sLen := len) (sCap := cap) (olds := olds) hv3 (by rw [hby]; exact hv4) (by rw [hs]; exact hof)
                      have hrel := RelW.grown hR n hn hK (rest := (Builtin.zeroCells z.cells (grownCap w (len + m) cap el - (len + m))).toList) hold hds hna hnb el
                      have hgl := grown_con hzl w (len + m) cap el olds ds (by rw [hol, hdl, hs, Nat.add_mul])
                      refine ⟨_, _, _, hrun, Env.agree_upd _ _ _, ?_, hrel⟩
                      refine ⟨_, _, rfl, grownCap_ge w _ _ _, fun hp => ⟨_, by unfold Env.upd; rw [if_pos rfl], by simp, ?_⟩⟩
                      simp only [hgl, hs]; omega
                    · simp at h
                  · simp at h
              · simp at h
            · simp only [Option.some.injEq] at h; subst h
              have hvc : vx ∧ m * e.bytes ≤ 140737488355328 := hvc
              obtain ⟨hv1, hv2⟩ := hvc
              obtain ⟨hnn, hK⟩ := hn rfl
              obtain ⟨ds, hds, hnv⟩ := newOf_run hT he hb0 hs hby hzc hnew hv1 hy hR
              have hdl : ds.length = m * e.size := by rw [hnv.len, hs]
              obtain ⟨hv, _⟩ := hx
              simp only [List.cons.injEq, and_true] at hv; subst hv
              by_cases hm0 : m = 0
              · subst hm0
                have hd0 : ds = [] := List.eq_nil_of_length_eq_zero (by simpa using hdl)
                subst hd0
                have hrun := run_append_fit (ty := tt) hu hi hzv (by rw [hs]; exact hz) hnv (base := none) (sLen := 0) (sCap := 0) (Nat.le_refl _) (w' := w) rfl
                exact ⟨β.upd n none, _, w, hrun, Env.agree_upd _ _ _, ⟨none, 0, rfl, Nat.le_refl _, fun hp => by omega⟩, RelW.newNil hR n hK hds hnb hnn⟩
              · have hrun := run_append_new (ty := tt) hu hi hzv (by rw [hs]; exact hz) (by rw [hby]; exact hb0) hnv (base := none) (sLen := 0) (sCap := 0) (olds := []) (by omega) (by rw [hby]; simpa using hv2) (fun w' _ => rfl)
                have hrel := RelW.grown hR n hnn hK (rest := (Builtin.zeroCells z.cells (grownCap w (0 + m) 0 el - (0 + m))).toList) (as := []) (olds := []) rfl hds rfl hnb el
                have hgl := grown_con hzl w (0 + m) 0 el [] ds (by rw [hdl, hs]; simp)
                have hj : joinA [] bs = bs := by unfold joinA; rfl
                rw [hj] at hrel
                refine ⟨_, _, _, hrun, Env.agree_upd _ _ _, ?_, hrel⟩
                refine ⟨some ⟨w.heap.size, 0, none⟩, grownCap w (0 + m) 0 el, by simp, by have := grownCap_ge w (0 + m) 0 el; omega, fun hp => ⟨_, by unfold Env.upd; rw [if_pos rfl], by simp, ?_⟩⟩
                simp only [hgl, hs]; omega
            · simp at h
          · simp at h
        · simp at h
    · simp at h
  · simp at h
end sound
end Go.Proofs.Ytepimglipelpmaa.X
