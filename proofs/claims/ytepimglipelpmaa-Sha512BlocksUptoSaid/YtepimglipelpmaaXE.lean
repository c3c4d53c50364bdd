/- The operations, third part: composites, slices, lengths, copies. -/
import Derived.Test.YtepimglipelpmaaXD
namespace Go.Proofs.Ytepimglipelpmaa.X
open Go

theorem foldSet (off : Nat) : ∀ (l : List Value) (k : Nat) (cs : Array Value), off + k + l.length ≤ cs.size →
    ((l.zipIdx k).foldl (fun (cs : Array Value) (x : Value × Nat) => cs.setIfInBounds (off + x.2) x.1) cs).toList = splice cs.toList (off + k) l.length l
  | [], k, cs, h => by simp [splice]
  | v :: l, k, cs, h => by
    simp only [List.zipIdx_cons, List.foldl_cons]
    rw [foldSet off l (k + 1) _ (by simp at h ⊢; omega)]
    simp only [List.length_cons] at h ⊢
    apply List.ext_getElem?
    intro i
    rw [getElem?_splice _ _ _ _ (by simp; omega) rfl, getElem?_splice _ _ _ _ (by simp; omega) (by simp)]
    simp only [Array.toList_setIfInBounds, List.getElem?_set]
    by_cases h1 : i < off + k
    · rw [if_pos (by omega), if_pos h1, if_neg (by omega)]
    · rw [if_neg h1]
      by_cases h2 : i = off + k
      · subst h2
        rw [if_pos (by omega), if_pos rfl, if_pos (by simp; omega)]
        simp
      · rw [if_neg (by omega)]
        by_cases h3 : i < off + k + (l.length + 1)
        · rw [if_pos (by omega), if_pos h3]
          rw [show i - (off + k) = (i - (off + (k + 1))) + 1 by omega, List.getElem?_cons_succ]
        · rw [if_neg (by omega), if_neg h3, if_neg (by omega)]

def fillA (pl : Nat → Option (Nat × Nat)) (cells : List Atom) : List (Nat × AV) → Option (List Atom)
  | [] => some cells
  | (i, .o y) :: r =>
    (match pl i with
     | none => none
     | some (off, size) =>
       if sizes y.cells = size then
         (match putC cells off size y.cells with
          | some c => fillA pl c r
          | none => none)
       else none)
  | _ => none

theorem fillA_con {β : Env} (pl : Nat → Option (Nat × Nat)) (ρ : Rho) (ev : Operand → Value) (hρ : ∀ x, (ρ x).con β (ev x)) : ∀ (parts : List (Nat × Operand)) (cells out : List Atom) (cs : Array Value), fillA pl cells (parts.map fun x => (x.1, ρ x.2)) = some out → cons β cells cs.toList →
    ∃ ds, Instr.fill pl cs (parts.map fun x => (x.1, ev x.2)) = some ds ∧ cons β out ds.toList
  | [], cells, out, cs, h, hc => by simp only [List.map_nil, fillA, Option.some.injEq] at h; subst h; exact ⟨cs, rfl, hc⟩
  | (i, x) :: r, cells, out, cs, h, hc => by
    simp only [List.map_cons] at h
    have hx := hρ x
    cases hy : ρ x with
    | u => simp [hy, fillA] at h
    | t l => simp [hy, fillA] at h
    | f fn l => simp [hy, fillA] at h
    | o y =>
      rw [hy] at h hx
      simp only [fillA] at h
      split at h
      · simp at h
      · rename_i off size hpl
        split at h
        · rename_i hsz
          split at h
          · rename_i c hp
            have hyc := V1.con_cells hx
            have hlen : (ev x).cells.toList.length = size := by rw [cons_len hyc]; exact hsz
            have hlen' : (ev x).cells.size = size := by rw [← hlen]; simp
            obtain ⟨ho, hin⟩ := putC_con hp hc hyc hlen
            have hin : off + (ev x).cells.size ≤ cs.size := by rw [hlen']; simpa using hin
            have hfold : ((ev x).cells.zipIdx.foldl (fun cs (c, j) => cs.setIfInBounds (off + j) c) cs).toList = splice cs.toList off size (ev x).cells.toList := by
              have := foldSet off (ev x).cells.toList 0 cs (by simpa using hin)
              rw [← Array.foldl_toList, Array.toList_zipIdx]
              rw [hlen] at this
              exact this
            obtain ⟨ds, hds, hcon⟩ := fillA_con pl ρ ev hρ r c out _ h (by rw [hfold]; exact ho)
            refine ⟨ds, ?_, hcon⟩
            simp only [List.map_cons, Instr.fill, hpl]
            rw [if_neg (by simp [hlen']; omega)]
            exact hds
          · simp at h
        · simp at h

def placesOf (T : Tab) (fs : List Field) : Option (List (Nat × Nat)) := fs.mapM fun f => (T f.type).map fun e => (f.offset, e.size)

section ops
variable (T : Tab) (ρ : Rho) (K : Know) (n : Nat)

def opBuild (t : TypeId) (parts : List (Nat × Operand)) : Option Ox :=
  match T t with
  | some ⟨.array _ el, _, _, z, _⟩ =>
    (match T el with
     | some e => (fillA (fun i => some (i * e.size, e.size)) z (parts.map fun x => (x.1, ρ x.2))).map fun out => ⟨none, .o (.g out), [], false⟩
     | none => none)
  | some ⟨.struct fs, _, _, z, _⟩ =>
    (match placesOf T fs.toList with
     | some pl => (fillA (fun i => pl.toArray[i]?) z (parts.map fun x => (x.1, ρ x.2))).map fun out => ⟨none, .o (.g out), [], false⟩
     | none => none)
  | _ => none
end ops

section sound
variable {P : Program} {T : Tab} {w0 : World} {rw : List Nat} {β : Env} {K : Know} {w : World}

theorem placesOf_ok (hT : TabOk P T) : ∀ {fs : List Field} {pl : List (Nat × Nat)}, placesOf T fs = some pl → fs.mapM (fun f => (P.info? f.type).map fun i => (f.offset, i.size)) = some pl
  | [], pl, h => by simpa [placesOf] using h
  | f :: fs, pl, h => by
    simp only [placesOf, List.mapM_cons, Option.bind_eq_bind, Option.pure_def] at h ⊢
    simp only [Option.bind_eq_some_iff, Option.map_eq_some_iff, Option.some.injEq] at h ⊢
    obtain ⟨p, ⟨e, he, rfl⟩, r, hr, rfl⟩ := h
    obtain ⟨i, z, hi, hs, _⟩ := (hT _ _ he).info
    exact ⟨_, ⟨i, hi, by rw [hs]⟩, r, placesOf_ok hT hr, rfl⟩

theorem opBuild_ok (hT : TabOk P T) {n : Nat} {ρ : Rho} {ev : Operand → Value} (hρ : ∀ x, (ρ x).con β (ev x)) {t : TypeId} {parts : Array (Nat × Operand)} {o : Ox} (h : opBuild T ρ t parts.toList = some o) (hR : RelW w0 rw β K w) :
    Goes P w0 rw β K w n (Instr.build t (parts.map fun (i, x) => (i, ev x))) o := by
  have hparts : (parts.map fun (i, x) => (i, ev x)).toList = parts.toList.map fun x => (x.1, ev x.2) := by simp
  unfold opBuild at h
  split at h
  · rename_i len el _ _ z _ ht
    split at h
    · rename_i e he
      simp only [Option.map_eq_some_iff] at h
      obtain ⟨out, hf, rfl⟩ := h
      obtain ⟨it, zv, hit, _, _, hz, hzc⟩ := (hT _ _ ht).info
      obtain ⟨ie, _, hie, hs, _⟩ := (hT _ _ he).info
      obtain ⟨ds, hds, hcon⟩ := fillA_con _ ρ ev hρ _ _ _ _ hf (hzc β)
      refine Goes.quiet hR (v := .agg ds) (run_build w t _ ds ?_) ⟨ds.toList, by simp, hcon⟩ rfl
      unfold Program.built
      rw [hparts]
      simp only [hit, (hT _ _ ht).und, hz, hie, hs]
      exact hds
    · simp at h
  · rename_i fs _ _ z _ ht
    split at h
    · rename_i pl hpl
      simp only [Option.map_eq_some_iff] at h
      obtain ⟨out, hf, rfl⟩ := h
      obtain ⟨it, zv, hit, _, _, hz, hzc⟩ := (hT _ _ ht).info
      obtain ⟨ds, hds, hcon⟩ := fillA_con _ ρ ev hρ _ _ _ _ hf (hzc β)
      refine Goes.quiet hR (v := .agg ds) (run_build w t _ ds ?_) ⟨ds.toList, by simp, hcon⟩ rfl
      unfold Program.built
      rw [hparts]
      simp only [hit, (hT _ _ ht).und, hz, placesOf_ok hT hpl]
      exact hds
    · simp at h
  · simp at h
end sound

/- rows of equal parts -/
def repA (len : Nat) (z : List Atom) : List Atom :=
  match z with
  | [.i k x] => [.ints k len (List.replicate len x)]
  | [.ints k m l] => if l = List.replicate m 0 then [.ints k (len * m) (List.replicate (len * m) 0)] else [.ints k (len * m) (List.replicate len l).flatten]
  | z => (List.replicate len z).flatten

theorem cons_flatten {β : Env} {z : List Atom} {zs : List Value} (h : cons β z zs) : ∀ len, cons β (List.replicate len z).flatten (List.replicate len zs).flatten
  | 0 => rfl
  | len + 1 => by
    simp only [List.replicate_succ, List.flatten_cons]
    exact cons_append h (cons_flatten h len)

theorem flatten_one {α : Type} (x : α) (len : Nat) : (List.replicate len [x]).flatten = List.replicate len x := by
  induction len with
  | zero => rfl
  | succ n ih => simp [List.replicate_succ, ih]

theorem flatten_rep {α : Type} (x : α) (m len : Nat) : (List.replicate len (List.replicate m x)).flatten = List.replicate (len * m) x := by
  induction len with
  | zero => simp
  | succ n ih => rw [List.replicate_succ, List.flatten_cons, ih, List.replicate_append_replicate]; congr 1; rw [Nat.succ_mul, Nat.add_comm]

theorem repA_con {β : Env} {z : List Atom} {zs : List Value} (h : cons β z zs) (len : Nat) : cons β (repA len z) (List.replicate len zs).flatten := by
  unfold repA
  split
  · rw [cons_single] at h ⊢
    simp only [Atom.con] at h; subst h
    rw [flatten_one]
    exact ⟨by simp, by simp⟩
  · rename_i k m l
    rw [cons_single] at h
    obtain ⟨hl, rfl⟩ := h
    have hm : (List.replicate len (l.map (Value.int k))).flatten = ((List.replicate len l).flatten).map (Value.int k) := by
      rw [List.map_flatten, List.map_replicate]
    have hlen : (List.replicate len l).flatten.length = len * m := by simp [hl]
    split
    · rename_i he
      rw [cons_single, hm, he, flatten_rep]
      exact ⟨by simp, rfl⟩
    · rw [cons_single, hm]
      exact ⟨hlen, rfl⟩
  · exact cons_flatten h len

theorem range_rep (zs : Array Value) (len : Nat) : ((Array.range (len * zs.size)).map (fun i => zs[i % zs.size]!)).toList = (List.replicate len zs.toList).flatten := by
  rw [Array.toList_map, Array.toList_range]
  induction len with
  | zero => simp
  | succ n ih =>
    rw [Nat.succ_mul, List.replicate_succ', List.flatten_append, ← ih, List.range_add, List.map_append]
    congr 1
    simp only [List.map_map, List.flatten_cons, List.flatten_nil, List.append_nil]
    apply List.ext_getElem
    · simp
    · intro i h1 h2
      simp at h1
      have hmod : (n * zs.size + i) % zs.size = i := by rw [Nat.mul_comm, Nat.mul_add_mod]; exact Nat.mod_eq_of_lt h1
      simp [hmod, h1]

section ops2
variable (T : Tab) (K : Know) (n : Nat)

def opBuildSlice (ρ : Rho) (t : TypeId) (len : Nat) (parts : List (Nat × Operand)) : Option Ox :=
  match T t with
  | some ⟨.slice el, _, _, _, _⟩ =>
    (match T el with
     | some e =>
       if len * e.size ≤ 16777216 ∧ e.size ≠ 0 then
         (match fillA (fun i => some (i * e.size, e.size)) (repA len e.zero) (parts.map fun x => (x.1, ρ x.2)) with
          | some out => if nomL n (n + 1) out then some ⟨none, .o (.a (.sl n 0 len len)), [(n, some ⟨true, out⟩)], true⟩ else none
          | none => none)
       else none
     | none => none)
  | _ => none

/-- a row of cells for make: the length may be known in letters only -/
def repS (len : Nat) (e : TE) : Option (List Atom) :=
  match e.zero with
  | [.i k x] => if x = 0 then some [.ints k len (List.replicate len 0)] else none
  | [.ints k m l] => if l = List.replicate m 0 then some [.ints k (len * m) (List.replicate (len * m) 0)] else none
  | [.raw v] => some [.vals len (List.replicate len v)]
  | _ => none

def opMakeSlice (t : TypeId) (l c : AV) : Option Ox :=
  match T t, l, c with
  | some ⟨.slice el, _, _, _, _⟩, .o (.a (.i _ l)), .o (.a (.i _ c)) =>
    (match T el with
     | some e =>
       if e.bytes ≠ 0 ∧ e.size ≠ 0 then
         (match repS c.toNat e with
          | some cells => some ⟨some (0 ≤ l ∧ l ≤ c ∧ c * e.bytes ≤ 281474976710656), .o (.a (.sl n 0 l.toNat c.toNat)), [(n, some ⟨true, cells⟩)], true⟩
          | none => none)
       else none
     | none => none)
  | _, _, _ => none

def intAV : AV → Option Int
  | .o (.a (.i _ x)) => some x
  | _ => none

/-- the bounds of a slice expression: low, high, max as integers (none: left out) -/
def opSlice (t : TypeId) (x : AV) (lo hi mx : Option AV) : Option Ox :=
  let L : Option Int := match lo with | none => some 0 | some a => intAV a
  match T t, x, L with
  | some ⟨.array len el, _, _, _, _⟩, .o (.a (.p j c)), some l =>
    (match T el, mx with
     | some e, none =>
       (match hi with
        | none => some ⟨some (0 ≤ l ∧ l ≤ (len : Int)), .o (.a (.sl j (c + mulz l.toNat e.size) (len - l.toNat) (len - l.toNat))), [], false⟩
        | some h => (match intAV h with
          | some h => some ⟨some (0 ≤ l ∧ l ≤ h ∧ h ≤ (len : Int)), .o (.a (.sl j (c + mulz l.toNat e.size) (h.toNat - l.toNat) (len - l.toNat))), [], false⟩
          | none => none))
     | _, _ => none)
  | some ⟨.slice el, _, _, _, _⟩, .o (.a (.sl j c len cap)), some l =>
    (match T el, hi, mx with
     | some e, none, none => some ⟨some (0 ≤ l ∧ l ≤ (len : Int)), .o (.a (.sl j (c + mulz l.toNat e.size) (len - l.toNat) (cap - l.toNat))), [], false⟩
     | some e, some h, none => (match intAV h with
        | some h => some ⟨some (0 ≤ l ∧ l ≤ h ∧ h ≤ (cap : Int)), .o (.a (.sl j (c + mulz l.toNat e.size) (h.toNat - l.toNat) (cap - l.toNat))), [], false⟩
        | none => none)
     | some e, some h, some m => (match intAV h, intAV m with
        | some h, some m => some ⟨some (0 ≤ l ∧ l ≤ h ∧ h ≤ m ∧ m ≤ (cap : Int)), .o (.a (.sl j (c + mulz l.toNat e.size) (h.toNat - l.toNat) (m.toNat - l.toNat))), [], false⟩
        | _, _ => none)
     | _, _, _ => none)
  | some ⟨.slice el, _, _, _, _⟩, .o (.a (.rs j c len z)), some l =>
    (match T el, hi, mx with
     | some e, none, none => if e.size = z then some ⟨some (0 ≤ l ∧ l ≤ (len : Int)), .o (.a (.rs j (c + mulz l.toNat e.size) (len - l.toNat) z)), [], false⟩ else none
     | some e, some h, none => if e.size = z then (match intAV h with
        | some h => some ⟨some (0 ≤ l ∧ l ≤ h ∧ h ≤ (len : Int)), .o (.a (.rs j (c + mulz l.toNat e.size) (h.toNat - l.toNat) z)), [], false⟩
        | none => none) else none
     | some e, some h, some m => (match intAV h, intAV m with
        | some h, some m => some ⟨some (0 ≤ l ∧ l ≤ h ∧ h ≤ m ∧ m ≤ (len : Int)), .o (.a (.sl j (c + mulz l.toNat e.size) (h.toNat - l.toNat) (m.toNat - l.toNat))), [], false⟩
        | _, _ => none)
     | _, _, _ => none)
  | _, _, _ => none

def opS2A (arr : TypeId) (x : AV) : Option Ox :=
  match T arr, x with
  | some ⟨.array m _, _, _, _, _⟩, .o (.a (.sl j c len _)) => if 0 < m then some ⟨some (m ≤ len), .o (.a (.ps j c)), [], false⟩ else none
  | some ⟨.array m _, _, _, _, _⟩, .o (.a (.rs j c len _)) => if 0 < m then some ⟨some (m ≤ len), .o (.a (.ps j c)), [], false⟩ else none
  | _, _ => none

def opLen (t : TypeId) (x : AV) : Option Ox :=
  match T t, x with
  | some ⟨.slice _, _, _, _, _⟩, .o (.a (.sl _ _ len _)) => some ⟨none, .o (.a (.i .i64 len)), [], false⟩
  | some ⟨.slice _, _, _, _, _⟩, .o (.a (.rs _ _ len _)) => some ⟨none, .o (.a (.i .i64 len)), [], false⟩
  | some ⟨.slice _, _, _, _, _⟩, .o (.a (.raw (.slice none 0 0))) => some ⟨none, .o (.a (.i .i64 0)), [], false⟩
  | some ⟨.array m _, _, _, _, _⟩, _ => some ⟨none, .o (.a (.i .i64 m)), [], false⟩
  | _, _ => none

def opCap (t : TypeId) (x : AV) : Option Ox :=
  match T t, x with
  | some ⟨.slice _, _, _, _, _⟩, .o (.a (.sl _ _ _ cap)) => some ⟨none, .o (.a (.i .i64 cap)), [], false⟩
  | _, _ => none

def opMin (x y : AV) : Option Ox :=
  match x, y with
  | .o (.a (.i k a)), .o (.a (.i _ b)) => some ⟨none, .o (.a (.i k (if b < a then b else a))), [], false⟩
  | _, _ => none
def opMax (x y : AV) : Option Ox :=
  match x, y with
  | .o (.a (.i k a)), .o (.a (.i _ b)) => some ⟨none, .o (.a (.i k (if b > a then b else a))), [], false⟩
  | _, _ => none
end ops2

section sound2
variable {P : Program} {T : Tab} {w0 : World} {rw : List Nat} {β : Env} {K : Know} {w : World}

theorem Goes.made {n : Nat} {s : Sem Value} {cells : List Atom} {cs : List Value} {vc : Option Prop} {val : AV} {ty : TypeId} {v : Value} (hR : RelW w0 rw β K w) (hn : K.at n = none) (hK : K.nom n (n + 1) = true)
    (hc : cons β cells cs) (hcn : nomL n (n + 1) cells = true) (hrun : s.run P w = .ok v { w with heap := w.heap.push (.cells cs.toArray ty) })
    (hv : val.con (β.upd n (some ⟨w.heap.size, 0, cs.length⟩)) v) : Goes P w0 rw β K w n s ⟨vc, val, [(n, some ⟨true, cells⟩)], true⟩ :=
  ⟨_, v, _, hrun, Env.agree_upd _ _ _, hv, RelW.new hR n hn hK hc hcn cs ty (fun _ _ h => h) (Nat.le_refl _)⟩

theorem opBuildSlice_ok (hT : TabOk P T) {n : Nat} {ρ : Rho} {ev : Operand → Value} (hρ : ∀ x, (ρ x).con β (ev x)) {t : TypeId} {len : Nat} {parts : Array (Nat × Operand)} {o : Ox} (h : opBuildSlice T n ρ t len parts.toList = some o)
    (hn : K.at n = none) (hK : K.nom n (n + 1) = true) (hR : RelW w0 rw β K w) : Goes P w0 rw β K w n (Instr.buildSlice t len (parts.map fun (i, x) => (i, ev x))) o := by
  have hparts : (parts.map fun (i, x) => (i, ev x)).toList = parts.toList.map fun x => (x.1, ev x.2) := by simp
  unfold opBuildSlice at h
  split at h
  · rename_i el _ _ _ _ ht
    split at h
    · rename_i e he
      split at h
      · rename_i hsz
        split at h
        · rename_i out hf
          split at h
          · rename_i hnm
            simp only [Option.some.injEq] at h; subst h
            obtain ⟨i, z, hi, hs, hb, hz, hzc⟩ := (hT _ _ he).info
            have hzl : z.cells.size = e.size := by have := cons_len (hzc β); rw [(hT _ _ he).zsz] at this; simpa using this
            have hrep := repA_con (hzc β) len
            obtain ⟨ds, hds, hcon⟩ := fillA_con _ ρ ev hρ parts.toList _ _ ((List.replicate len z.cells.toList).flatten).toArray hf (by simpa using hrep)
            refine Goes.made hR hn hK hcon hnm (v := .slice (some ⟨w.heap.size, 0, none⟩) len len) (ty := el) ?_ ?_
            · have hbase : ∀ zz : Array Value, (len * e.size = 0 ∨ zz = z.cells) → (Array.range (len * e.size)).map (fun i => zz[i % zz.size]!) = ((List.replicate len z.cells.toList).flatten).toArray := by
                intro zz hzz
                apply Array.toList_inj.1
                by_cases h0 : len * e.size = 0
                · rw [h0]
                  have : len = 0 := by rcases Nat.mul_eq_zero.1 h0 with h | h; exact h; exact absurd h hsz.2
                  subst this; simp
                · rw [hzz.resolve_left h0, ← hzl]
                  exact range_rep z.cells len
              unfold Instr.buildSlice
              simp only [Sem.run_bind, run_underlying (hT _ _ ht).und, Result.andThen_ok, run_sizeOf' w hi, hs, Sem.run_ite]
              rw [if_neg (by omega)]
              by_cases h0 : len * e.size = 0
              · simp only [if_pos h0, Sem.run_pure, Result.andThen_ok, hbase #[] (.inl h0), hparts, hds, newRow, Sem.run_bind, run_newObj]
              · simp only [if_neg h0, Sem.run_bind, zeroValue, typeInfo, run_program, hi, hz, Sem.run_pure, Result.andThen_ok, hbase z.cells (.inr rfl), hparts, hds, newRow, run_newObj]
            · refine ⟨_, rfl, Nat.le_refl _, fun _ => ⟨_, by unfold Env.upd; rw [if_pos rfl], by simp⟩⟩
          · simp at h
        · simp at h
      · simp at h
    · simp at h
  · simp at h

theorem repS_con {e : TE} {zs : List Value} {len : Nat} {cells : List Atom} (h : repS len e = some cells) (hz : cons β e.zero zs) : cons β cells (List.replicate len zs).flatten ∧ (∀ lo hi, nomL lo hi cells = true) := by
  unfold repS at h
  split at h
  · rename_i k x hze
    split at h
    · rename_i hx; subst hx
      simp only [Option.some.injEq] at h; subst h
      rw [hze, cons_single] at hz
      simp only [Atom.con] at hz; subst hz
      rw [flatten_one, cons_single]
      exact ⟨⟨by simp, by simp⟩, fun _ _ => rfl⟩
    · simp at h
  · rename_i k m l hze
    split at h
    · rename_i hl
      simp only [Option.some.injEq] at h; subst h
      rw [hze, cons_single] at hz
      obtain ⟨hlen, rfl⟩ := hz
      rw [hl, List.map_replicate, flatten_rep, cons_single]
      exact ⟨⟨by simp, by simp⟩, fun _ _ => rfl⟩
    · simp at h
  · rename_i v hze
    simp only [Option.some.injEq] at h; subst h
    rw [hze, cons_single] at hz
    obtain ⟨rfl, h1⟩ := hz
    rw [flatten_one, cons_single]
    exact ⟨⟨by simp, rfl, fun v hv => by rw [(List.mem_replicate.1 hv).2]; exact h1⟩, fun _ _ => rfl⟩
  · simp at h

theorem wrap64_id {x : Int} (h0 : 0 ≤ x) (h1 : x ≤ 281474976710656) : IntKind.i64.wrap x = x := by
  have e : x % (18446744073709551616 : Int) = x := Int.emod_eq_of_lt h0 (by omega)
  show (let m := x % (18446744073709551616 : Int); if (true && decide (m ≥ (9223372036854775808 : Int))) = true then m - 18446744073709551616 else m) = x
  simp only [e]
  rw [if_neg]
  simp only [Bool.true_and, decide_eq_true_eq]; omega

theorem opMakeSlice_ok (hT : TabOk P T) {n : Nat} {t : TypeId} {x y : AV} {o : Ox} {u v : Value} (h : opMakeSlice T n t x y = some o) (hvc : okP o.vc) (hx : x.con β u) (hy : y.con β v)
    (hn : K.at n = none) (hK : K.nom n (n + 1) = true) (hR : RelW w0 rw β K w) : Goes P w0 rw β K w n (Instr.makeSlice t u v) o := by
  unfold opMakeSlice at h
  split at h
  · rename_i el _ _ _ _ k l k' c ht
    split at h
    · rename_i e he
      split at h
      · rename_i hsz
        split at h
        · rename_i cells hcells
          simp only [Option.some.injEq] at h; subst h
          simp only [AV.con, V1.con, Atom.con, List.cons.injEq, and_true] at hx hy; subst hx; subst hy
          have hvc : 0 ≤ l ∧ l ≤ c ∧ c * e.bytes ≤ 281474976710656 := hvc
          obtain ⟨h0, h1, h2⟩ := hvc
          obtain ⟨i, z, hi, hs, hb, hz, hzc⟩ := (hT _ _ he).info
          have hzl : z.cells.size = e.size := by have := cons_len (hzc β); rw [(hT _ _ he).zsz] at this; simpa using this
          obtain ⟨hcon, hnm⟩ := repS_con hcells (hzc β)
          have hcb : c ≤ 281474976710656 := by
            have : c * 1 ≤ c * e.bytes := Int.mul_le_mul_of_nonneg_left (by omega) (by omega)
            omega
          refine Goes.made hR hn hK hcon (hnm _ _) (v := .slice (some ⟨w.heap.size, 0, none⟩) l.toNat c.toNat) (ty := el) ?_ ?_
          · have hbase : ∀ zz : Array Value, (c.toNat * e.size = 0 ∨ zz = z.cells) → (Array.range (c.toNat * e.size)).map (fun i => zz[i % zz.size]!) = ((List.replicate c.toNat z.cells.toList).flatten).toArray := by
              intro zz hzz
              apply Array.toList_inj.1
              by_cases h0 : c.toNat * e.size = 0
              · rw [h0]
                have : c.toNat = 0 := by rcases Nat.mul_eq_zero.1 h0 with h | h; exact h; exact absurd h hsz.2
                rw [this]; simp
              · rw [hzz.resolve_left h0, ← hzl]
                exact range_rep z.cells _
            have hcb2 : (e.bytes : Int) * c = c * e.bytes := Int.mul_comm _ _
            unfold Instr.makeSlice
            simp only [Sem.run_bind, run_underlying (hT _ _ ht).und, Result.andThen_ok, asInt, asIntOf, Sem.run_pure, typeInfo, run_program, hi, hb, wrap64_id (show 0 ≤ l by omega) (by omega), wrap64_id (show 0 ≤ c by omega) hcb, Sem.run_ite]
            rw [if_neg (by simp; omega)]
            simp only [Sem.run_pure, Result.andThen_ok, run_askRoom, sizeOf, Sem.run_bind, typeInfo, run_program, hi, hs]
            by_cases h0 : c.toNat * e.size = 0
            · simp only [if_pos h0, Sem.run_pure, Result.andThen_ok, hbase #[] (.inl h0), newRow, Sem.run_bind, run_newObj]
            · simp only [if_neg h0, Sem.run_bind, zeroValue, typeInfo, run_program, hi, hz, Sem.run_pure, Result.andThen_ok, hbase z.cells (.inr rfl), newRow, run_newObj]
          · refine ⟨_, rfl, by omega, fun _ => ⟨_, by unfold Env.upd; rw [if_pos rfl], by simp⟩⟩
        · simp at h
      · simp at h
    · simp at h
  · simp at h

theorem opLen_ok (hT : TabOk P T) {n : Nat} {t tt : TypeId} {ats : Array TypeId} (ha : ats[0]? = some t) {x : AV} {o : Ox} {v : Value} (h : opLen T t x = some o) (hx : x.con β v) (hR : RelW w0 rw β K w) :
    Goes P w0 rw β K w n (Builtin.len_ ats tt #[v]) o := by
  unfold opLen at h
  split at h
  · rename_i el _ _ _ _ j c len cap ht
    simp only [Option.some.injEq] at h; subst h
    obtain ⟨base, hv, _⟩ := hx
    simp only [List.cons.injEq, and_true] at hv; subst hv
    refine Goes.quiet hR (v := .int .i64 len) ?_ rfl rfl
    simp [Builtin.len_, ha, run_underlying (hT _ _ ht).und, goInt]
  · rename_i el _ _ _ _ j c len cap ht
    simp only [Option.some.injEq] at h; subst h
    obtain ⟨base, cap, hv, _⟩ := hx
    simp only [List.cons.injEq, and_true] at hv; subst hv
    refine Goes.quiet hR (v := .int .i64 len) ?_ rfl rfl
    simp [Builtin.len_, ha, run_underlying (hT _ _ ht).und, goInt]
  · rename_i el _ _ _ _ ht
    simp only [Option.some.injEq] at h; subst h
    obtain ⟨hv, _⟩ := hx
    simp only [List.cons.injEq, and_true] at hv; subst hv
    refine Goes.quiet hR (v := .int .i64 0) ?_ rfl rfl
    simp [Builtin.len_, ha, run_underlying (hT _ _ ht).und, goInt]
  · rename_i m el _ _ _ _ ht
    simp only [Option.some.injEq] at h; subst h
    refine Goes.quiet hR (v := .int .i64 m) ?_ rfl rfl
    simp [Builtin.len_, ha, run_underlying (hT _ _ ht).und, goInt]
  · simp at h

theorem opCap_ok (hT : TabOk P T) {n : Nat} {t tt : TypeId} {ats : Array TypeId} (ha : ats[0]? = some t) {x : AV} {o : Ox} {v : Value} (h : opCap T t x = some o) (hx : x.con β v) (hR : RelW w0 rw β K w) :
    Goes P w0 rw β K w n (Builtin.cap_ ats tt #[v]) o := by
  unfold opCap at h
  split at h
  · rename_i el _ _ _ _ j c len cap ht
    simp only [Option.some.injEq] at h; subst h
    obtain ⟨base, hv, _⟩ := hx
    simp only [List.cons.injEq, and_true] at hv; subst hv
    refine Goes.quiet hR (v := .int .i64 cap) ?_ rfl rfl
    simp [Builtin.cap_, ha, run_underlying (hT _ _ ht).und, goInt]
  · simp at h

theorem opMin_ok {n : Nat} {tt : TypeId} {ats : Array TypeId} {x y : AV} {o : Ox} {u v : Value} (h : opMin x y = some o) (hx : x.con β u) (hy : y.con β v) (hR : RelW w0 rw β K w) :
    Goes P w0 rw β K w n (Builtin.min_ ats tt #[u, v]) o := by
  unfold opMin at h
  split at h
  · simp only [Option.some.injEq] at h; subst h
    simp only [AV.con, V1.con, Atom.con, List.cons.injEq, and_true] at hx hy; subst hx; subst hy
    exact Goes.quiet hR (v := .int _ _) rfl rfl rfl
  · simp at h

theorem opMax_ok {n : Nat} {tt : TypeId} {ats : Array TypeId} {x y : AV} {o : Ox} {u v : Value} (h : opMax x y = some o) (hx : x.con β u) (hy : y.con β v) (hR : RelW w0 rw β K w) :
    Goes P w0 rw β K w n (Builtin.max_ ats tt #[u, v]) o := by
  unfold opMax at h
  split at h
  · simp only [Option.some.injEq] at h; subst h
    simp only [AV.con, V1.con, Atom.con, List.cons.injEq, and_true] at hx hy; subst hx; subst hy
    exact Goes.quiet hR (v := .int _ _) rfl rfl rfl
  · simp at h
end sound2
end Go.Proofs.Ytepimglipelpmaa.X
