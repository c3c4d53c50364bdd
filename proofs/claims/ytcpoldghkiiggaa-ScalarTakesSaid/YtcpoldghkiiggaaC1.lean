/- The core, part 1 of 5: blocks of memory known by number, and an evaluator over loaded code, shown sound. -/
import Derived.Calls
import Derived.Orders
import Derived.Tactics
import Derived.Laws.Sem
import Derived.Laws.Cells
import Derived.Laws.CopyRow
import Derived.Laws.Tables
import Derived.Laws.Rows
import Derived.KernelRfl
import Derived.ChangeKeysEq
import Derived.Laws.StructEq
import Derived.Laws.Small
import Derived.Laws.Pointers
/- The words of an abstract memory for walking Go code by evaluation: values, blocks, and what it means that a world holds them. -/
namespace Go.Proofs.Ytcpoldghkiiggaa.X
open Go

structure Ref where
  blk : Nat
  off : Nat
  size : Nat

inductive Atom where
  | unk
  | i (k : IntKind) (n : Int)
  | b (x : Bool)
  | p (j c : Nat)
  | ps (j c : Nat)
  | sl (j c len cap : Nat)
  | rs (j c len z : Nat)
  | raw (v : Value)
  | ints (k : IntKind) (n : Nat) (l : List Int)
  | vals (n : Nat) (l : List Value)

def Atom.size : Atom → Nat
  | .ints _ n _ => n
  | .vals n _ => n
  | _ => 1

abbrev Env := Nat → Option Ref

def Atom.con (β : Env) : Atom → List Value → Prop
  | .unk, cs => ∃ v, cs = [v] ∧ v.oneCell' = true
  | .i k n, cs => cs = [.int k n]
  | .b x, cs => cs = [.bool x]
  | .p j c, cs => ∃ r, β j = some r ∧ cs = [.pointer (some ⟨r.blk, r.off + c, none⟩)]
  | .ps j c, cs => ∃ r, β j = some r ∧ cs = [.pointer (some ⟨r.blk, r.off + c, none⟩)]
  | .sl j c len cap, cs => ∃ base, cs = [.slice base len cap] ∧ len ≤ cap ∧ (0 < cap → ∃ r, β j = some r ∧ base = some ⟨r.blk, r.off + c, none⟩)
  | .rs j c len z, cs => ∃ base cap, cs = [.slice base len cap] ∧ len ≤ cap ∧ (0 < cap → ∃ r, β j = some r ∧ base = some ⟨r.blk, r.off + c, none⟩ ∧ r.off + c + cap * z ≤ r.size)
  | .raw v, cs => cs = [v] ∧ v.oneCell' = true
  | .ints k n l, cs => l.length = n ∧ cs = l.map (Value.int k)
  | .vals n l, cs => l.length = n ∧ cs = l ∧ ∀ v ∈ l, v.oneCell' = true

def cons (β : Env) : List Atom → List Value → Prop
  | [], cs => cs = []
  | a :: r, cs => ∃ x y, cs = x ++ y ∧ a.con β x ∧ cons β r y

theorem Atom.con_len {β : Env} {a : Atom} {cs : List Value} (h : a.con β cs) : cs.length = a.size := by
  cases a <;> simp only [Atom.con, Atom.size] at h ⊢
  case unk => obtain ⟨v, rfl, _⟩ := h; rfl
  case i => subst h; rfl
  case b => subst h; rfl
  case p => obtain ⟨r, _, rfl⟩ := h; rfl
  case ps => obtain ⟨r, _, rfl⟩ := h; rfl
  case sl => obtain ⟨r, rfl, _⟩ := h; rfl
  case rs => obtain ⟨r, c, rfl, _⟩ := h; rfl
  case raw => obtain ⟨rfl, _⟩ := h; rfl
  case ints => obtain ⟨h1, rfl⟩ := h; simpa using h1
  case vals => obtain ⟨h1, rfl, _⟩ := h; exact h1

theorem Atom.con_one {β : Env} {a : Atom} {cs : List Value} (h : a.con β cs) : ∀ v ∈ cs, v.oneCell' = true := by
  cases a <;> simp only [Atom.con] at h
  case unk => obtain ⟨v, rfl, h⟩ := h; simpa using h
  case i => subst h; simp [Value.oneCell']
  case b => subst h; simp [Value.oneCell']
  case p => obtain ⟨r, _, rfl⟩ := h; simp [Value.oneCell']
  case ps => obtain ⟨r, _, rfl⟩ := h; simp [Value.oneCell']
  case sl => obtain ⟨r, rfl, _⟩ := h; simp [Value.oneCell']
  case rs => obtain ⟨r, c, rfl, _⟩ := h; simp [Value.oneCell']
  case raw => obtain ⟨rfl, h⟩ := h; simpa using h
  case ints => obtain ⟨h1, rfl⟩ := h; intro v hv; simp at hv; obtain ⟨x, _, rfl⟩ := hv; rfl
  case vals => obtain ⟨h1, rfl, h⟩ := h; exact h

def sizes (l : List Atom) : Nat := (l.map Atom.size).sum

theorem cons_len {β : Env} : ∀ {l : List Atom} {cs : List Value}, cons β l cs → cs.length = sizes l
  | [], cs, h => by simp [cons] at h; simp [h, sizes]
  | a :: r, cs, h => by
    obtain ⟨x, y, rfl, ha, hr⟩ := h
    have := cons_len hr
    have := (Atom.con_len ha)
    simp [sizes] at *; omega

theorem cons_one {β : Env} : ∀ {l : List Atom} {cs : List Value}, cons β l cs → ∀ v ∈ cs, v.oneCell' = true
  | [], cs, h => by simp [cons] at h; simp [h]
  | a :: r, cs, h => by
    obtain ⟨x, y, rfl, ha, hr⟩ := h
    intro v hv
    rcases List.mem_append.1 hv with h | h
    · exact Atom.con_one ha v h
    · exact cons_one hr v h

theorem cons_append {β : Env} : ∀ {l m : List Atom} {cs ds : List Value}, cons β l cs → cons β m ds → cons β (l ++ m) (cs ++ ds)
  | [], m, cs, ds, h, h' => by simp [cons] at h; subst h; simpa using h'
  | a :: r, m, cs, ds, h, h' => by
    obtain ⟨x, y, rfl, ha, hr⟩ := h
    exact ⟨x, y ++ ds, by simp, ha, cons_append hr h'⟩

theorem cons_single {β : Env} {a : Atom} {cs : List Value} : cons β [a] cs ↔ a.con β cs := by
  constructor
  · rintro ⟨x, y, rfl, h, hy⟩; simp [cons] at hy; subst hy; simpa using h
  · intro h; exact ⟨cs, [], by simp, h, rfl⟩

/- ranges -/
def sub {α : Type} (l : List α) (c m : Nat) : List α := (l.drop c).take m
def splice {α : Type} (l : List α) (c m : Nat) (ys : List α) : List α := l.take c ++ ys ++ l.drop (c + m)

theorem sub_len {α : Type} (l : List α) (c m : Nat) (h : c + m ≤ l.length) : (sub l c m).length = m := by
  simp [sub]; omega
theorem splice_len {α : Type} (l : List α) (c m : Nat) (ys : List α) (h : c + m ≤ l.length) (hy : ys.length = m) : (splice l c m ys).length = l.length := by
  simp [splice]; omega
theorem sub_map {α γ : Type} (f : α → γ) (l : List α) (c m : Nat) : (sub l c m).map f = sub (l.map f) c m := by
  simp [sub, List.map_take, List.map_drop]
theorem splice_map {α γ : Type} (f : α → γ) (l : List α) (c m : Nat) (ys : List α) : (splice l c m ys).map f = splice (l.map f) c m (ys.map f) := by
  simp [splice, List.map_take, List.map_drop]

/-- the first m cells, from offset c inside the head on -/
def takeC : List Atom → Nat → Nat → Option (List Atom)
  | _, _, 0 => some []
  | [], _, _ + 1 => none
  | a :: r, c, m + 1 =>
    if a.size ≤ c then takeC r (c - a.size) (m + 1) else
    if c = 0 ∧ a.size ≤ m + 1 then (takeC r 0 (m + 1 - a.size)).map (a :: ·) else
    match a with
    | .ints k n l => let t := min (n - c) (m + 1); (takeC r 0 (m + 1 - t)).map (.ints k t (sub l c t) :: ·)
    | .vals n l => let t := min (n - c) (m + 1); (takeC r 0 (m + 1 - t)).map (.vals t (sub l c t) :: ·)
    | _ => none

theorem sub_append_right {α : Type} (x y : List α) (c m : Nat) (h : x.length ≤ c) : sub (x ++ y) c m = sub y (c - x.length) m := by
  simp [sub, List.drop_append, List.drop_of_length_le h]
theorem sub_append_left {α : Type} (x y : List α) (m : Nat) (h : x.length ≤ m) : sub (x ++ y) 0 m = x ++ sub y 0 (m - x.length) := by
  simp [sub, List.take_append, List.take_of_length_le h]
theorem sub_append_mid {α : Type} (x y : List α) (c m : Nat) (h : c ≤ x.length) : sub (x ++ y) c m = sub x c (min (x.length - c) m) ++ sub y 0 (m - min (x.length - c) m) := by
  simp only [sub, List.drop_append_of_le_length h, List.take_append, List.length_drop, List.drop_zero]
  congr 1
  · by_cases h2 : x.length - c ≤ m
    · rw [Nat.min_eq_left h2, List.take_of_length_le (by simp; omega), List.take_of_length_le (by simp)]
    · rw [Nat.min_eq_right (by omega)]
  · congr 1; omega

theorem takeC_con {β : Env} : ∀ {l : List Atom} {c m : Nat} {out : List Atom} {cs : List Value}, takeC l c m = some out → cons β l cs → cons β out (sub cs c m) ∧ (0 < m → c + m ≤ cs.length)
  | l, c, 0, out, cs, h, hc => by
    cases l <;> simp [takeC] at h <;> subst h <;> simp [cons, sub]
  | [], c, m + 1, out, cs, h, hc => by simp [takeC] at h
  | a :: r, c, m + 1, out, cs, h, hc => by
    obtain ⟨x, y, rfl, ha, hr⟩ := hc
    have hx := (Atom.con_len ha)
    unfold takeC at h
    split at h
    · rename_i hle
      have ih := takeC_con h hr
      rw [sub_append_right _ _ _ _ (by omega), hx]
      exact ⟨ih.1, fun hm => by have := ih.2 hm; simp; omega⟩
    · rename_i hle
      split at h
      · rename_i hz
        obtain ⟨rfl, hz⟩ := hz
        simp only [Option.map_eq_some_iff] at h
        obtain ⟨out', h', rfl⟩ := h
        have ih := takeC_con h' hr
        rw [sub_append_left _ _ _ (by omega)]
        refine ⟨⟨x, _, rfl, ha, by rw [hx]; exact ih.1⟩, fun _ => ?_⟩
        by_cases hmm : 0 < m + 1 - a.size
        · have := ih.2 hmm; simp; omega
        · simp; omega
      · cases a with
        | ints k n l =>
          simp only [Option.map_eq_some_iff] at h
          obtain ⟨out', h', rfl⟩ := h
          have ih := takeC_con h' hr
          simp only [Atom.size] at *
          obtain ⟨hl, rfl⟩ := ha
          rw [sub_append_mid _ _ _ _ (by omega), hx]
          refine ⟨⟨_, _, rfl, ⟨sub_len _ _ _ (by omega), by rw [sub_map]⟩, ih.1⟩, fun _ => ?_⟩
          by_cases hmm : 0 < m + 1 - min (n - c) (m + 1)
          · have := ih.2 hmm; simp at *; omega
          · simp at *; omega
        | vals n l =>
          simp only [Option.map_eq_some_iff] at h
          obtain ⟨out', h', rfl⟩ := h
          have ih := takeC_con h' hr
          simp only [Atom.size] at *
          obtain ⟨hl, rfl, h1⟩ := ha
          rw [sub_append_mid _ _ _ _ (by omega), hx]
          refine ⟨⟨_, _, rfl, ⟨sub_len _ _ _ (by omega), rfl, fun v hv => h1 v (List.mem_of_mem_drop (List.mem_of_mem_take hv))⟩, ih.1⟩, fun _ => ?_⟩
          by_cases hmm : 0 < m + 1 - min (n - c) (m + 1)
          · have := ih.2 hmm; simp at *; omega
          · simp at *; omega
        | _ => simp at h

/-- the cells behind the first m -/
def dropC : List Atom → Nat → Option (List Atom)
  | l, 0 => some l
  | [], _ + 1 => none
  | a :: r, m + 1 =>
    if a.size ≤ m + 1 then dropC r (m + 1 - a.size) else
    match a with
    | .ints k n l => some (.ints k (n - (m + 1)) (l.drop (m + 1)) :: r)
    | .vals n l => some (.vals (n - (m + 1)) (l.drop (m + 1)) :: r)
    | _ => none

theorem dropC_con {β : Env} : ∀ {l : List Atom} {m : Nat} {out : List Atom} {cs : List Value}, dropC l m = some out → cons β l cs → cons β out (cs.drop m) ∧ m ≤ cs.length
  | l, 0, out, cs, h, hc => by simp [dropC] at h; subst h; simpa using hc
  | [], m + 1, out, cs, h, hc => by simp [dropC] at h
  | a :: r, m + 1, out, cs, h, hc => by
    obtain ⟨x, y, rfl, ha, hr⟩ := hc
    have hx := (Atom.con_len ha)
    unfold dropC at h
    split at h
    · rename_i hle
      have ih := dropC_con h hr
      rw [List.drop_append, List.drop_of_length_le (by omega), hx]
      exact ⟨by simpa using ih.1, by simp; omega⟩
    · rename_i hle
      cases a with
      | ints k n l =>
        simp only [Option.some.injEq] at h; subst h
        simp only [Atom.size] at *
        obtain ⟨hl, rfl⟩ := ha
        rw [List.drop_append_of_le_length (by omega)]
        exact ⟨⟨_, _, rfl, ⟨by simp; omega, by simp [List.map_drop]⟩, hr⟩, by simp; omega⟩
      | vals n l =>
        simp only [Option.some.injEq] at h; subst h
        simp only [Atom.size] at *
        obtain ⟨hl, rfl, h1⟩ := ha
        rw [List.drop_append_of_le_length (by omega)]
        exact ⟨⟨_, _, rfl, ⟨by simp; omega, rfl, fun v hv => h1 v (List.mem_of_mem_drop hv)⟩, hr⟩, by simp; omega⟩
      | _ => simp at h

/-- int-like: one atom whose cells are all integers of one kind -/
def asInts : List Atom → Option (IntKind × List Int)
  | [.i k n] => some (k, [n])
  | [.ints k _ l] => some (k, l)
  | _ => none

theorem asInts_con {β : Env} {l : List Atom} {k : IntKind} {xs : List Int} {cs : List Value} (h : asInts l = some (k, xs)) (hc : cons β l cs) : cs = xs.map (Value.int k) := by
  unfold asInts at h
  split at h
  · simp only [Option.some.injEq, Prod.mk.injEq] at h; obtain ⟨rfl, rfl⟩ := h
    rw [cons_single] at hc; simpa [Atom.con] using hc
  · simp only [Option.some.injEq, Prod.mk.injEq] at h; obtain ⟨rfl, rfl⟩ := h
    rw [cons_single] at hc; exact hc.2
  · simp at h

/-- the cells from c on turned into new (m cells) -/
def putC : List Atom → Nat → Nat → List Atom → Option (List Atom)
  | [], c, m, new => if c = 0 ∧ m = 0 then some new else none
  | a :: r, c, m, new =>
    if a.size ≤ c then (putC r (c - a.size) m new).map (a :: ·) else
    match a, asInts new with
    | .ints k n l, some (k', ys) =>
      if k = k' ∧ c + m ≤ n then
        (match new with
         | [.i _ v] => some (.ints k n (l.set c v) :: r)
         | _ => if c = 0 ∧ m = n then some (.ints k n ys :: r) else some (.ints k n (splice l c m ys) :: r))
      else if c = 0 then (dropC (a :: r) m).map (new ++ ·) else none
    | _, _ => if c = 0 then (dropC (a :: r) m).map (new ++ ·) else none

theorem splice_append_right {α : Type} (x y ys : List α) (c m : Nat) (h : x.length ≤ c) : splice (x ++ y) c m ys = x ++ splice y (c - x.length) m ys := by
  have e : c + m - x.length = c - x.length + m := by omega
  simp [splice, List.take_append, List.drop_append, List.take_of_length_le h, List.drop_of_length_le (show x.length ≤ c + m by omega), e]
theorem splice_append_left {α : Type} (x y ys : List α) (c m : Nat) (h : c + m ≤ x.length) : splice (x ++ y) c m ys = splice x c m ys ++ y := by
  simp [splice, List.take_append_of_le_length (show c ≤ x.length by omega), List.drop_append_of_le_length h]
theorem splice_zero {α : Type} (x ys : List α) (m : Nat) : splice x 0 m ys = ys ++ x.drop m := by simp [splice]
theorem splice_one {α : Type} (l : List α) (c : Nat) (v : α) (h : c < l.length) : splice l c 1 [v] = l.set c v := by
  simp [splice, List.set_eq_take_append_cons_drop, h]
theorem splice_all {α : Type} {m : Nat} (l ys : List α) (h : l.length = m) : splice l 0 m ys = ys := by
  simp [splice, List.drop_of_length_le (show l.length ≤ m by omega)]

theorem putC_con {β : Env} : ∀ {l : List Atom} {c m : Nat} {new out : List Atom} {cs ds : List Value}, putC l c m new = some out → cons β l cs → cons β new ds → ds.length = m →
    cons β out (splice cs c m ds) ∧ c + m ≤ cs.length
  | [], c, m, new, out, cs, ds, h, hc, hn, hm => by
    simp only [putC] at h
    split at h
    · rename_i hz; obtain ⟨rfl, rfl⟩ := hz
      simp only [Option.some.injEq] at h; subst h
      simp only [cons] at hc; subst hc
      exact ⟨by simpa [splice] using hn, by simp⟩
    · simp at h
  | a :: r, c, m, new, out, cs, ds, h, hc, hn, hm => by
    have hc0 := hc
    obtain ⟨x, y, rfl, ha, hr⟩ := hc
    have hx := (Atom.con_len ha)
    unfold putC at h
    split at h
    · rename_i hle
      simp only [Option.map_eq_some_iff] at h
      obtain ⟨out', h', rfl⟩ := h
      have ih := putC_con h' hr hn hm
      rw [splice_append_right _ _ _ _ _ (by omega), hx]
      exact ⟨⟨x, _, rfl, ha, ih.1⟩, by simp; omega⟩
    · rename_i hle
      have gen : ∀ out, (if c = 0 then (dropC (a :: r) m).map (new ++ ·) else none) = some out → cons β out (splice (x ++ y) c m ds) ∧ c + m ≤ (x ++ y).length := by
        intro out2 h2
        split at h2
        · rename_i hz; subst hz
          simp only [Option.map_eq_some_iff] at h2
          obtain ⟨o, ho, rfl⟩ := h2
          have hd := dropC_con ho hc0
          rw [splice_zero]
          exact ⟨cons_append hn hd.1, by simpa using hd.2⟩
        · simp at h2
      split at h
      · rename_i k n l k' ys hai
        split at h
        · rename_i hk; obtain ⟨rfl, hk⟩ := hk
          have hds := asInts_con hai hn
          obtain ⟨hl, rfl⟩ := ha
          have hlen : c + m ≤ (l.map (Value.int k)).length := by simp; omega
          rw [splice_append_left _ _ _ _ _ hlen]
          have hys : ys.length = m := by rw [hds] at hm; simpa using hm
          refine ⟨?_, by simp; omega⟩
          split at h
          · rename_i k2 v
            simp only [asInts, Option.some.injEq, Prod.mk.injEq] at hai
            obtain ⟨rfl, rfl⟩ := hai
            simp only [Option.some.injEq] at h; subst h
            simp only [List.length_cons, List.length_nil] at hys
            subst hys
            exact ⟨_, _, rfl, ⟨by simpa using hl, by rw [hds, List.map_cons, List.map_nil, splice_one _ _ _ (by omega), List.map_set]⟩, hr⟩
          · split at h
            · rename_i hz; obtain ⟨rfl, rfl⟩ := hz
              simp only [Option.some.injEq] at h; subst h
              exact ⟨_, _, rfl, ⟨hys, by rw [splice_all _ _ (by simpa using hl), hds]⟩, hr⟩
            · simp only [Option.some.injEq] at h; subst h
              exact ⟨_, _, rfl, ⟨by rw [splice_len _ _ _ _ (by omega) hys]; exact hl, by rw [splice_map, hds]⟩, hr⟩
        · exact gen _ h
      · exact gen _ h
end Go.Proofs.Ytcpoldghkiiggaa.X

/- What it means that a world holds known blocks; reading, writing and making blocks keeps it. -/
namespace Go.Proofs.Ytcpoldghkiiggaa.X
open Go

inductive V1 where
  | a (x : Atom)
  | g (l : List Atom)

def V1.con (β : Env) : V1 → Value → Prop
  | .a x, v => x.con β [v]
  | .g l, v => ∃ cs : List Value, v = .agg cs.toArray ∧ cons β l cs

inductive AV where
  | u
  | o (x : V1)
  | t (l : List V1)
  | f (fn : FuncId) (caps : List V1)

def all2 (β : Env) : List V1 → List Value → Prop
  | [], vs => vs = []
  | x :: r, vs => ∃ v rest, vs = v :: rest ∧ x.con β v ∧ all2 β r rest

def AV.con (β : Env) : AV → Value → Prop
  | .u, _ => True
  | .o x, v => x.con β v
  | .t l, v => ∃ vs : List Value, v = .tuple vs.toArray ∧ all2 β l vs
  | .f fn caps, v => ∃ vs : List Value, v = .func (.func fn) #[] vs.toArray ∧ all2 β caps vs

/- no index in [lo, hi) is named -/
def Atom.nom (lo hi : Nat) : Atom → Bool
  | .p j _ | .ps j _ | .sl j _ _ _ | .rs j _ _ _ => decide (j < lo ∨ hi ≤ j)
  | _ => true
def nomL (lo hi : Nat) (l : List Atom) : Bool := l.all (Atom.nom lo hi)
def V1.nom (lo hi : Nat) : V1 → Bool
  | .a x => x.nom lo hi
  | .g l => nomL lo hi l
def AV.nom (lo hi : Nat) : AV → Bool
  | .u => true
  | .o x => x.nom lo hi
  | .t l => l.all (V1.nom lo hi)
  | .f _ l => l.all (V1.nom lo hi)

def Agree (lo hi : Nat) (β β' : Env) : Prop := ∀ j, (j < lo ∨ hi ≤ j) → β' j = β j

theorem Atom.con_agree {β β' : Env} {lo hi : Nat} (h : Agree lo hi β β') {a : Atom} (ha : a.nom lo hi = true) {cs : List Value} (hc : a.con β cs) : a.con β' cs := by
  cases a <;> simp only [Atom.nom, Atom.con, decide_eq_true_eq] at ha hc ⊢ <;> first | exact hc | (rw [h _ ha]; exact hc)

theorem cons_agree {β β' : Env} {lo hi : Nat} (h : Agree lo hi β β') : ∀ {l : List Atom}, nomL lo hi l = true → ∀ {cs : List Value}, cons β l cs → cons β' l cs
  | [], _, cs, hc => hc
  | a :: r, hn, cs, hc => by
    simp only [nomL, List.all_cons, Bool.and_eq_true] at hn
    obtain ⟨x, y, rfl, ha, hr⟩ := hc
    exact ⟨x, y, rfl, Atom.con_agree h hn.1 ha, cons_agree h (by simpa [nomL] using hn.2) hr⟩

theorem V1.con_agree {β β' : Env} {lo hi : Nat} (h : Agree lo hi β β') {x : V1} (hn : x.nom lo hi = true) {v : Value} (hc : x.con β v) : x.con β' v := by
  cases x with
  | a x => exact Atom.con_agree h hn hc
  | g l => obtain ⟨cs, rfl, hc⟩ := hc; exact ⟨cs, rfl, cons_agree h hn hc⟩

theorem all2_agree {β β' : Env} {lo hi : Nat} (h : Agree lo hi β β') : ∀ {l : List V1}, l.all (V1.nom lo hi) = true → ∀ {vs : List Value}, all2 β l vs → all2 β' l vs
  | [], _, vs, hc => hc
  | x :: r, hn, vs, hc => by
    simp only [List.all_cons, Bool.and_eq_true] at hn
    obtain ⟨v, rest, rfl, hx, hr⟩ := hc
    exact ⟨v, rest, rfl, V1.con_agree h hn.1 hx, all2_agree h hn.2 hr⟩

theorem AV.con_agree {β β' : Env} {lo hi : Nat} (h : Agree lo hi β β') {x : AV} (hn : x.nom lo hi = true) {v : Value} (hc : x.con β v) : x.con β' v := by
  cases x with
  | u => trivial
  | o x => exact V1.con_agree h hn hc
  | t l => obtain ⟨vs, rfl, hc⟩ := hc; exact ⟨vs, rfl, all2_agree h hn hc⟩
  | f fn l => obtain ⟨vs, rfl, hc⟩ := hc; exact ⟨vs, rfl, all2_agree h hn hc⟩

structure Blk where
  own : Bool
  cells : List Atom

def Blk.holds (β : Env) (w : World) (j : Nat) (b : Blk) : Prop :=
  ∃ cs, cons β b.cells cs ∧ ((cs = [] ∧ (b.own = false ∨ β j = none)) ∨
    ∃ r arr ty fr, β j = some r ∧ w.heap[r.blk]? = some (.cells arr ty fr) ∧ arr.size = r.size ∧ r.off + cs.length ≤ r.size ∧
      (∀ i v, cs[i]? = some v → arr[r.off + i]? = some v) ∧ (b.own = true → fr = (0, 0)))

abbrev Know := List (Option Blk)

def Know.at (K : Know) (j : Nat) : Option Blk := (K[j]?).join

structure RelW (w0 : World) (rw : List Nat) (β : Env) (K : Know) (w : World) : Prop where
  holds : ∀ j b, K.at j = some b → b.holds β w j
  apart : ∀ j k b c r s, K.at j = some b → K.at k = some c → b.own = true → j ≠ k → β j = some r → β k = some s → r.blk ≠ s.blk
  mine : ∀ j b r, K.at j = some b → b.own = true → β j = some r → w0.heap.size ≤ r.blk ∨ r.blk ∈ rw
  live : ∀ j b r, K.at j = some b → β j = some r → r.blk < w.heap.size
  old : ∀ b, b < w0.heap.size → b ∉ rw → w.heap[b]? = w0.heap[b]?
  size : w0.heap.size ≤ w.heap.size
  os : w.os = w0.os
  tape : w.tape = w0.tape
  output : w.output = w0.output

theorem RelW.drew {w0 : World} {rw : List Nat} {β : Env} {K : Know} {w : World} (h : RelW w0 rw β K w) (n : Nat) : RelW w0 rw β K { w with drawn := n } :=
  ⟨h.holds, h.apart, h.mine, h.live, h.old, h.size, h.os, h.tape, h.output⟩

def Know.set1 (K : Know) (j : Nat) (b : Option Blk) : Know := if j < K.length then K.set j b else K ++ List.replicate (j - K.length) none ++ [b]

theorem Know.at_set1 (K : Know) (j : Nat) (b : Option Blk) (k : Nat) : (K.set1 j b).at k = if k = j then b else K.at k := by
  unfold Know.set1 Know.at
  by_cases hj : j < K.length
  · rw [if_pos hj, List.getElem?_set]
    by_cases hk : k = j
    · subst hk; simp [hj]
    · rw [if_neg (fun h => hk h.symm), if_neg hk]
  · rw [if_neg hj]
    by_cases hk : k = j
    · subst hk
      rw [if_pos rfl, List.getElem?_append_right (by simp; omega)]
      have : k - (K ++ List.replicate (k - K.length) (none : Option Blk)).length = 0 := by simp; omega
      rw [this]; rfl
    · rw [if_neg hk]
      by_cases h1 : k < K.length
      · rw [List.append_assoc, List.getElem?_append_left h1]
      · rw [List.getElem?_eq_none (l := K) (by omega)]
        by_cases h2 : k < j
        · rw [List.getElem?_append_left (by simp; omega), List.getElem?_append_right (by omega), List.getElem?_replicate]
          rw [if_pos (by omega)]; rfl
        · rw [List.getElem?_eq_none (by simp; omega)]

/- reading -/
theorem Blk.cellsAt {β : Env} {w : World} {j : Nat} {b : Blk} (h : b.holds β w j) {r : Ref} (hr : β j = some r) :
    ∃ cs, cons β b.cells cs ∧ ∀ i v, cs[i]? = some v → w.cell? ⟨r.blk, r.off + i, none⟩ = some v := by
  obtain ⟨cs, hc, h⟩ := h
  refine ⟨cs, hc, fun i v hv => ?_⟩
  rcases h with ⟨rfl, _⟩ | ⟨r', arr, ty, fr, hr', hh, hs, hl, ha, _⟩
  · simp at hv
  · rw [hr] at hr'; cases hr'
    simp [World.cell?, hh, ha i v hv]

theorem addr_add (b o n : Nat) : (⟨b, o, none⟩ : Addr).add n = ⟨b, o + n, none⟩ := by unfold Addr.add; split <;> simp_all

theorem getElem?_sub {α : Type} (l : List α) (c m i : Nat) (v : α) (h : (sub l c m)[i]? = some v) : l[c + i]? = some v := by
  simp only [sub, List.getElem?_take, List.getElem?_drop] at h
  split at h
  · exact h
  · simp at h

def aggD : TypeDesc → Bool
  | .struct _ | .array _ _ => true
  | _ => false

section run
variable {P : Program}
theorem run_isAgg (w : World) {t : TypeId} {d : TypeDesc} (h : P.underlying t = some d) : (isAgg t).run P w = .ok (aggD d) w := by
  unfold isAgg
  rw [Sem.run_bind, run_underlying h w]
  cases d <;> rfl
theorem run_sizeOf' (w : World) {t : TypeId} {i : TypeInfo} (h : P.info? t = some i) : (sizeOf t).run P w = .ok i.size w := by
  simp [sizeOf, typeInfo, h]
theorem run_load_agg (w : World) {ty : TypeId} {d : TypeDesc} {i : TypeInfo} (hu : P.underlying ty = some d) (hd : aggD d = true) (hi : P.info? ty = some i) (a : Addr) (cs : List Value)
    (hl : cs.length = i.size) (hc : ∀ j v, cs[j]? = some v → w.cell? (a.add j) = some v) : (loadVar ty a).run P w = .ok (.agg cs.toArray) w := by
  unfold loadVar
  rw [Sem.run_bind, run_isAgg w hu, hd]
  simp only [Result.andThen_ok, if_true, Sem.run_bind, run_sizeOf' w hi, ← hl, run_loadCells_list w a cs hc, Sem.run_pure]
theorem run_load_one (w : World) {ty : TypeId} {d : TypeDesc} (hu : P.underlying ty = some d) (hd : aggD d = false) (a : Addr) (v : Value) (hc : w.cell? a = some v) : (loadVar ty a).run P w = .ok v w := by
  unfold loadVar
  rw [Sem.run_bind, run_isAgg w hu, hd]
  simp [hc]
end run

theorem getElem?_splice {α : Type} (l ys : List α) (c m : Nat) (h : c + m ≤ l.length) (hy : ys.length = m) (i : Nat) :
    (splice l c m ys)[i]? = if i < c then l[i]? else if i < c + m then ys[i - c]? else l[i]? := by
  have hlt : (l.take c).length = c := by simp; omega
  unfold splice
  by_cases h1 : i < c
  · rw [if_pos h1, List.append_assoc, List.getElem?_append_left (by omega), List.getElem?_take_of_lt h1]
  · rw [if_neg h1]
    by_cases h2 : i < c + m
    · rw [if_pos h2, List.append_assoc, List.getElem?_append_right (by omega), hlt, List.getElem?_append_left (by omega)]
    · rw [if_neg h2, List.getElem?_append_right (by simp; omega)]
      simp only [List.getElem?_drop, List.length_append, hlt]
      congr 1; omega

/- writing -/
theorem RelW.store {w0 : World} {rw : List Nat} {β : Env} {K : Know} {w : World} (P : Program) (h : RelW w0 rw β K w) {j : Nat} {b : Blk} (hb : K.at j = some b) (ho : b.own = true)
    {r : Ref} (hr : β j = some r) {c m : Nat} {new out : List Atom} {ds : List Value} (hp : ∀ cs, cons β b.cells cs → cons β out (splice cs c m ds) ∧ c + m ≤ cs.length) (hn : cons β new ds) (hm : ds.length = m) (hpos : 0 < m) :
    ∃ w', (storeCells ⟨r.blk, r.off + c, none⟩ ds).run P w = .ok () w' ∧ RelW w0 rw β (K.set1 j (some ⟨true, out⟩)) w' := by
  obtain ⟨cs, hc, hd⟩ := h.holds j b hb
  obtain ⟨hout, hin⟩ := hp cs hc
  rcases hd with ⟨rfl, _⟩ | ⟨r', arr, ty, fr, hr', hh, hs, hl, ha, hf⟩
  · simp at hin; omega
  · rw [hr] at hr'; cases hr'
    have hfr := hf ho; subst hfr
    have hrun := run_storeCells_at P r.blk (r.off + c) ty ds 0 arr w hh (by omega) (cons_one hn)
    refine ⟨_, hrun, ?_⟩
    simp only [Nat.add_zero]
    have hspl : (arr.toList.take (r.off + c) ++ ds ++ arr.toList.drop (r.off + c + ds.length)) = splice arr.toList (r.off + c) m ds := by rw [hm]; rfl
    rw [hspl]
    have hsl : (splice arr.toList (r.off + c) m ds).length = arr.size := by rw [splice_len _ _ _ _ (by simp; omega) hm]; simp
    refine ⟨?_, ?_, ?_, ?_, ?_, ?_, h.os, h.tape, h.output⟩
    · intro k b' hk
      rw [Know.at_set1] at hk
      by_cases hkj : k = j
      · subst hkj
        simp only [if_true, Option.some.injEq] at hk; subst hk
        refine ⟨_, hout, .inr ⟨r, _, ty, (0, 0), hr, setRow_heap w r.blk arr _ ty _ hh, by simpa [hsl] using hs, ?_, ?_, fun _ => rfl⟩⟩
        · rw [splice_len _ _ _ _ hin hm]; exact hl
        · intro i v hv
          rw [List.getElem?_toArray, getElem?_splice _ _ _ _ (by simp; omega) hm]
          rw [getElem?_splice _ _ _ _ hin hm] at hv
          by_cases h1 : i < c
          · rw [if_pos h1] at hv; rw [if_pos (by omega)]; simpa using ha i v hv
          · rw [if_neg h1] at hv; rw [if_neg (by omega)]
            by_cases h2 : i < c + m
            · rw [if_pos h2] at hv; rw [if_pos (by omega)]
              rw [show r.off + i - (r.off + c) = i - c by omega]; exact hv
            · rw [if_neg h2] at hv; rw [if_neg (by omega)]; simpa using ha i v hv
      · rw [if_neg hkj] at hk
        obtain ⟨cs', hc', hd'⟩ := h.holds k b' hk
        refine ⟨cs', hc', hd'.imp id ?_⟩
        rintro ⟨s, arr', ty', fr', hs', hh', rest⟩
        have hne := h.apart j k b b' r s hb hk ho (fun e => hkj e.symm) hr hs'
        exact ⟨s, arr', ty', fr', hs', by rw [setRow_other w r.blk s.blk _ (fun e => hne e.symm)]; exact hh', rest⟩
    · intro a k b1 c1 r1 s1 ha1 hk1 ho1 hne hr1 hs1
      rw [Know.at_set1] at ha1 hk1
      have key : ∀ x b2, (if x = j then some (⟨true, out⟩ : Blk) else K.at x) = some b2 → ∃ b3, K.at x = some b3 ∧ b3.own = b2.own := by
        intro x b2 hx
        by_cases hxj : x = j
        · subst hxj; simp only [if_true, Option.some.injEq] at hx; subst hx; exact ⟨b, hb, ho⟩
        · rw [if_neg hxj] at hx; exact ⟨b2, hx, rfl⟩
      obtain ⟨b3, hb3, e3⟩ := key a b1 ha1
      obtain ⟨c3, hc3, _⟩ := key k c1 hk1
      exact h.apart a k b3 c3 r1 s1 hb3 hc3 (e3.trans ho1) hne hr1 hs1
    · intro x b1 r1 hx ho1 hr1
      rw [Know.at_set1] at hx
      by_cases hxj : x = j
      · subst hxj; rw [hr] at hr1; cases hr1; exact h.mine x b r hb ho hr
      · rw [if_neg hxj] at hx; exact h.mine x b1 r1 hx ho1 hr1
    · intro x b1 r1 hx hr1
      rw [Know.at_set1] at hx
      rw [size_setRow]
      by_cases hxj : x = j
      · subst hxj; rw [hr] at hr1; cases hr1; exact h.live x b r hb hr
      · rw [if_neg hxj] at hx; exact h.live x b1 r1 hx hr1
    · intro b1 hb1 hb2
      have hne : b1 ≠ r.blk := by
        rcases h.mine j b r hb ho hr with hm' | hm'
        · omega
        · intro e; subst e; exact hb2 hm'
      rw [setRow_other w r.blk b1 _ hne]; exact h.old b1 hb1 hb2
    · rw [size_setRow]; exact h.size

def bnom (lo hi : Nat) : Option Blk → Bool
  | some b => nomL lo hi b.cells
  | none => true
def Know.nom (lo hi : Nat) (K : Know) : Bool := K.all (bnom lo hi)

theorem Know.nom_at {lo hi : Nat} {K : Know} (h : K.nom lo hi = true) {j : Nat} {b : Blk} (hb : K.at j = some b) : nomL lo hi b.cells = true := by
  unfold Know.nom at h
  unfold Know.at at hb
  rw [Option.join_eq_some_iff] at hb
  exact List.all_eq_true.1 h _ (List.mem_of_getElem? hb)

def Env.upd (β : Env) (j : Nat) (r : Option Ref) : Env := fun k => if k = j then r else β k
theorem Env.agree_upd (β : Env) (j : Nat) (r : Option Ref) : Agree j (j + 1) β (β.upd j r) := by
  intro k hk; unfold Env.upd; rw [if_neg (by omega)]

/- making -/
theorem RelW.new {w0 : World} {rw : List Nat} {β : Env} {K : Know} {w : World} (h : RelW w0 rw β K w) (n : Nat) (hn : K.at n = none) (hK : K.nom n (n + 1) = true)
    {cells : List Atom} {cs : List Value} (hc : cons β cells cs) (hcn : nomL n (n + 1) cells = true) (arr : List Value) (ty : TypeId) (harr : ∀ (i : Nat) (v : Value), cs[i]? = some v → arr[i]? = some v) (hlen : cs.length ≤ arr.length) :
    RelW w0 rw (β.upd n (some ⟨w.heap.size, 0, arr.length⟩)) (K.set1 n (some ⟨true, cells⟩)) { w with heap := w.heap.push (.cells arr.toArray ty) } := by
  have hag := Env.agree_upd β n (some ⟨w.heap.size, 0, arr.length⟩)
  have hother : ∀ k, k ≠ n → (β.upd n (some ⟨w.heap.size, 0, arr.length⟩)) k = β k := fun k hk => by unfold Env.upd; rw [if_neg hk]
  have hself : (β.upd n (some ⟨w.heap.size, 0, arr.length⟩)) n = some ⟨w.heap.size, 0, arr.length⟩ := by unfold Env.upd; rw [if_pos rfl]
  have hold : ∀ b, b < w.heap.size → (w.heap.push (.cells arr.toArray ty))[b]? = w.heap[b]? := fun b hb => by
    rw [Array.getElem?_push, if_neg (Nat.ne_of_lt hb)]
  refine ⟨?_, ?_, ?_, ?_, ?_, ?_, h.os, h.tape, h.output⟩
  · intro k b hk
    rw [Know.at_set1] at hk
    by_cases hkn : k = n
    · subst hkn
      simp only [if_true, Option.some.injEq] at hk; subst hk
      refine ⟨cs, cons_agree hag hcn hc, .inr ⟨_, arr.toArray, ty, (0, 0), hself, by simp, by simp, by simpa using hlen, ?_, fun _ => rfl⟩⟩
      intro i v hv; simpa using harr i v hv
    · rw [if_neg hkn] at hk
      obtain ⟨cs', hc', hd⟩ := h.holds k b hk
      refine ⟨cs', cons_agree hag (Know.nom_at hK hk) hc', ?_⟩
      rcases hd with ⟨h1, h2⟩ | ⟨r, a', t', f', hr, hh, rest⟩
      · exact .inl ⟨h1, by rw [hother k hkn]; exact h2⟩
      · exact .inr ⟨r, a', t', f', by rw [hother k hkn]; exact hr, (hold _ (h.live k b r hk hr)).trans hh, rest⟩
  · intro a k b c r s ha hk ho hne hr hs
    rw [Know.at_set1] at ha hk
    by_cases han : a = n
    · subst han
      rw [hself] at hr; cases hr
      rw [if_neg (fun e => hne e.symm)] at hk
      rw [hother k (fun e => hne e.symm)] at hs
      have := h.live k c s hk hs
      exact fun e => by simp at e; omega
    · rw [if_neg han] at ha
      rw [hother a han] at hr
      by_cases hkn : k = n
      · subst hkn
        rw [hself] at hs; cases hs
        have := h.live a b r ha hr
        exact fun e => by simp at e; omega
      · rw [if_neg hkn] at hk
        rw [hother k hkn] at hs
        exact h.apart a k b c r s ha hk ho hne hr hs
  · intro x b r hx ho hr
    rw [Know.at_set1] at hx
    by_cases hxn : x = n
    · subst hxn; rw [hself] at hr; cases hr; exact .inl h.size
    · rw [if_neg hxn] at hx; rw [hother x hxn] at hr; exact h.mine x b r hx ho hr
  · intro x b r hx hr
    rw [Know.at_set1] at hx
    simp only [Array.size_push]
    by_cases hxn : x = n
    · subst hxn; rw [hself] at hr; cases hr; simp
    · rw [if_neg hxn] at hx; rw [hother x hxn] at hr; have := h.live x b r hx hr; omega
  · intro b hb hb2
    have := h.size
    rw [hold b (by omega)]; exact h.old b hb hb2
  · have := h.size
    simp only [Array.size_push]; omega

theorem RelW.drop {w0 : World} {rw : List Nat} {β : Env} {K : Know} {w : World} (h : RelW w0 rw β K w) (j : Nat) : RelW w0 rw β (K.set1 j none) w := by
  have key : ∀ x b, (K.set1 j none).at x = some b → K.at x = some b := by
    intro x b hx
    rw [Know.at_set1] at hx
    split at hx
    · simp at hx
    · exact hx
  exact ⟨fun k b hk => h.holds k b (key _ _ hk), fun a k b c r s ha hk => h.apart a k b c r s (key _ _ ha) (key _ _ hk), fun x b r hx => h.mine x b r (key _ _ hx), fun x b r hx => h.live x b r (key _ _ hx), h.old, h.size, h.os, h.tape, h.output⟩
end Go.Proofs.Ytcpoldghkiiggaa.X

/- The operations, first part: moves, loads, stores, addresses, arithmetic. -/
namespace Go.Proofs.Ytcpoldghkiiggaa.X
open Go

/-- what must hold; none: nothing -/
def okP : Option Prop → Prop
  | none => True
  | some p => p

structure TE where
  d : TypeDesc
  size : Nat
  bytes : Nat
  zero : List Atom
  eqok : Bool

abbrev Tab := TypeId → Option TE

structure TEOk (P : Program) (t : TypeId) (e : TE) : Prop where
  und : P.underlying t = some e.d
  info : ∃ i z, P.info? t = some i ∧ i.size = e.size ∧ i.bytes = e.bytes ∧ i.zero = some z ∧ ∀ β, cons β e.zero z.cells.toList
  eqg : e.eqok = true → P.eqGuardType P.depth t = false
  zsz : sizes e.zero = e.size

def TabOk (P : Program) (T : Tab) : Prop := ∀ t e, T t = some e → TEOk P t e

structure Ox where
  vc : Option Prop
  val : AV
  ch : List (Nat × Option Blk)
  al : Bool

def app (K : Know) : List (Nat × Option Blk) → Know
  | [] => K
  | (j, b) :: r => app (K.set1 j b) r

abbrev Rho := Operand → AV

def AV.atom : AV → Option Atom
  | .o (.a x) => some x
  | _ => none

def V1.cells : V1 → List Atom
  | .a x => [x]
  | .g l => l

theorem V1.con_cells {β : Env} {x : V1} {v : Value} (h : x.con β v) : cons β x.cells v.cells.toList := by
  cases x with
  | a x =>
    have h1 := Atom.con_one h v (by simp)
    have : v.cells = #[v] := by cases v <;> simp_all [Value.cells, Value.oneCell']
    rw [this]; exact cons_single.2 h
  | g l => obtain ⟨cs, rfl, hc⟩ := h; simpa [Value.cells, V1.cells] using hc

def atomOf : Value → Atom
  | .int k n => .i k n
  | .bool x => .b x
  | v => .raw v

def intsOf (k : IntKind) : List Value → Option (List Int)
  | [] => some []
  | .int k' n :: r => if k' = k then (intsOf k r).map (n :: ·) else none
  | _ :: _ => none

theorem intsOf_spec {k : IntKind} : ∀ {l : List Value} {xs : List Int}, intsOf k l = some xs → l = xs.map (Value.int k)
  | [], xs, h => by simp [intsOf] at h; simp [h]
  | v :: r, xs, h => by
    cases v <;> simp only [intsOf] at h <;> try (simp at h; done)
    split at h
    · rename_i hk; subst hk
      simp only [Option.map_eq_some_iff] at h
      obtain ⟨ys, hy, rfl⟩ := h
      simp [← intsOf_spec hy]
    · simp at h

def packV (l : List Value) : List Atom :=
  match l with
  | .int k n :: r => (match intsOf k r with
    | some xs => [.ints k (xs.length + 1) (n :: xs)]
    | none => l.map atomOf)
  | _ => l.map atomOf

theorem atomOf_con {β : Env} {v : Value} (h : v.oneCell' = true) : (atomOf v).con β [v] := by
  cases v <;> simp_all [atomOf, Atom.con, Value.oneCell']

theorem cons_atomOf {β : Env} : ∀ {l : List Value}, l.all (·.oneCell') = true → cons β (l.map atomOf) l
  | [], _ => rfl
  | v :: r, h => by
    simp only [List.all_cons, Bool.and_eq_true] at h
    exact ⟨[v], r, rfl, atomOf_con h.1, cons_atomOf h.2⟩

theorem packV_con {β : Env} {l : List Value} (h : l.all (·.oneCell') = true) : cons β (packV l) l := by
  unfold packV
  split
  · rename_i k n r
    split
    · rename_i xs hxs
      rw [cons_single]
      have := intsOf_spec hxs
      exact ⟨by simp, by simp [this]⟩
    · exact cons_atomOf h
  · exact cons_atomOf h

def constAV : Value → AV
  | .int k n => .o (.a (.i k n))
  | .bool x => .o (.a (.b x))
  | .agg cs => if cs.toList.all (·.oneCell') then .o (.g (packV cs.toList)) else .u
  | .tuple _ => .u
  | v => .o (.a (.raw v))

theorem constAV_con {β : Env} (v : Value) : (constAV v).con β v := by
  cases v <;> simp only [constAV] <;> try (simp [AV.con, V1.con, Atom.con, Value.oneCell']; done)
  rename_i cs
  split
  · rename_i h; exact ⟨cs.toList, by simp, packV_con h⟩
  · trivial

def ev (slots : List AV) : Rho
  | .tmp t => slots.getD t .u
  | .const v => constAV v
  | .global g => .o (.a (.raw (.pointer (some ⟨g, 0, none⟩))))
  | .func f => .f f []

theorem ev_con {β : Env} {slots : List AV} {a : Act} (h : ∀ t, (slots.getD t .u).con β (a.tmps.getD t undef)) (x : Operand) : (ev slots x).con β (a.eval x) := by
  cases x with
  | tmp t => exact h t
  | const v => exact constAV_con v
  | global g => exact ⟨rfl, rfl⟩
  | func f => exact ⟨[], rfl, rfl⟩

def ptr : AV → Option (Nat × Nat × Bool)
  | .o (.a (.p j c)) => some (j, c, false)
  | .o (.a (.ps j c)) => some (j, c, true)
  | _ => none

theorem ptr_con {β : Env} {x : AV} {j c : Nat} {sym : Bool} {v : Value} (h : ptr x = some (j, c, sym)) (hc : x.con β v) : ∃ r, β j = some r ∧ v = .pointer (some ⟨r.blk, r.off + c, none⟩) := by
  unfold ptr at h
  split at h
  · simp only [Option.some.injEq, Prod.mk.injEq] at h; obtain ⟨rfl, rfl, rfl⟩ := h
    obtain ⟨r, hr, hv⟩ := hc; exact ⟨r, hr, by simpa using hv⟩
  · simp only [Option.some.injEq, Prod.mk.injEq] at h; obtain ⟨rfl, rfl, rfl⟩ := h
    obtain ⟨r, hr, hv⟩ := hc; exact ⟨r, hr, by simpa using hv⟩
  · simp at h

/-- cells c .. c + m; sym: the offset is not known in numbers -/
def rng (sym : Bool) (cells : List Atom) (c m : Nat) : Option (Option Prop × List Atom) :=
  match sym, cells, m with
  | true, [.ints k n l], 1 => some (some (c < n), [.i k (l.getD c 0)])
  | true, [.vals n l], 1 => some (some (c < n), [.raw (l.getD c undef)])
  | true, [.ints k n l], m => some (some (c + m ≤ n), [.ints k m (sub l c m)])
  | true, [.vals n l], m => some (some (c + m ≤ n), [.vals m (sub l c m)])
  | _, cells, m => (takeC cells c m).map (none, ·)

theorem sub_one {α : Type} (l : List α) (c : Nat) (d : α) (h : c < l.length) : sub l c 1 = [l.getD c d] := by
  have e : l.getD c d = l[c] := by simp [List.getD_eq_getElem?_getD, h]
  unfold sub
  rw [e, List.drop_eq_getElem_cons h, List.take_succ_cons, List.take_zero]

theorem rng_con {β : Env} {sym : Bool} {cells : List Atom} {c m : Nat} {vc : Option Prop} {out : List Atom} {cs : List Value} (h : rng sym cells c m = some (vc, out)) (hv : okP vc) (hm : 0 < m) (hc : cons β cells cs) :
    cons β out (sub cs c m) ∧ c + m ≤ cs.length := by
  unfold rng at h
  split at h
  · rename_i k n l
    simp only [Option.some.injEq, Prod.mk.injEq] at h; obtain ⟨rfl, rfl⟩ := h
    simp only [okP] at hv
    rw [cons_single] at hc; obtain ⟨hl, rfl⟩ := hc
    rw [cons_single]
    refine ⟨?_, by simp; omega⟩
    rw [← sub_map, sub_one l c 0 (by omega)]; rfl
  · rename_i n l
    simp only [Option.some.injEq, Prod.mk.injEq] at h; obtain ⟨rfl, rfl⟩ := h
    simp only [okP] at hv
    rw [cons_single] at hc; obtain ⟨hl, rfl, h1⟩ := hc
    rw [cons_single]
    refine ⟨?_, by omega⟩
    rw [sub_one _ c undef (by omega)]
    refine ⟨rfl, ?_⟩
    rw [List.getD_eq_getElem?_getD, List.getElem?_eq_getElem (by omega)]
    exact h1 _ (List.getElem_mem _)
  · rename_i k n l _ _
    simp only [Option.some.injEq, Prod.mk.injEq] at h; obtain ⟨rfl, rfl⟩ := h
    simp only [okP] at hv
    rw [cons_single] at hc; obtain ⟨hl, rfl⟩ := hc
    rw [cons_single]
    exact ⟨⟨sub_len _ _ _ (by omega), by rw [sub_map]⟩, by simp; omega⟩
  · rename_i n l _ _
    simp only [Option.some.injEq, Prod.mk.injEq] at h; obtain ⟨rfl, rfl⟩ := h
    simp only [okP] at hv
    rw [cons_single] at hc; obtain ⟨hl, rfl, h1⟩ := hc
    rw [cons_single]
    exact ⟨⟨sub_len _ _ _ (by omega), rfl, fun v hv => h1 v (List.mem_of_mem_drop (List.mem_of_mem_take hv))⟩, by omega⟩
  · simp only [Option.map_eq_some_iff, Prod.mk.injEq] at h
    obtain ⟨o, ho, rfl, rfl⟩ := h
    have := takeC_con ho hc
    exact ⟨this.1, this.2 hm⟩

/-- the value that cells make at a type -/
def mk1 (e : TE) (out : List Atom) : Option V1 :=
  if aggD e.d = true then some (.g out) else
  if e.size = 1 then
    match out with
    | [.ints k _ ys] => some (.a (.i k (ys.getD 0 0)))
    | [.vals _ ys] => some (.a (.raw (ys.getD 0 undef)))
    | [a] => some (.a a)
    | _ => none
  else none

def valOf (e : TE) (cs : List Value) : Value := if aggD e.d = true then .agg cs.toArray else cs.headD undef

theorem mk1_con {β : Env} {e : TE} {out : List Atom} {y : V1} {cs : List Value} (h : mk1 e out = some y) (hc : cons β out cs) (hl : cs.length = e.size) : y.con β (valOf e cs) ∧ (aggD e.d = false → cs.length = 1) := by
  unfold mk1 at h
  unfold valOf
  by_cases ha : aggD e.d = true
  · rw [if_pos ha] at h; cases h
    rw [if_pos ha]
    exact ⟨⟨cs, rfl, hc⟩, fun h => by rw [ha] at h; cases h⟩
  · rw [if_neg ha] at h
    rw [if_neg ha]
    split at h
    · rename_i h1
      rw [h1] at hl
      match cs, hl with
      | [v], _ =>
        refine ⟨?_, fun _ => rfl⟩
        split at h
        · cases h
          rw [cons_single] at hc; obtain ⟨hl, hv⟩ := hc
          rename_i k n ys
          cases ys with
          | nil => simp at hv
          | cons y ys => simp at hv; simp [V1.con, Atom.con, hv.1]
        · cases h
          rw [cons_single] at hc; obtain ⟨hl, hv, h1⟩ := hc
          subst hv
          simp [V1.con, Atom.con]
          simpa using h1
        · cases h
          exact cons_single.1 hc
        · simp at h
    · simp at h

def wrt (sym : Bool) (cells : List Atom) (c m : Nat) (new : List Atom) : Option (Option Prop × List Atom) :=
  match sym, cells, new with
  | true, [.ints k n l], [.i k' z] => if k = k' then some (some (c < n), [.ints k n (l.set c z)]) else none
  | true, [.ints k n l], [.ints k' m' ys] => if k = k' then some (some (c + m' ≤ n), [.ints k n (splice l c m' ys)]) else none
  | _, cells, new => (putC cells c m new).map (none, ·)

theorem wrt_con {β : Env} {sym : Bool} {cells new out : List Atom} {c m : Nat} {vc : Option Prop} {cs ds : List Value} (h : wrt sym cells c m new = some (vc, out)) (hv : okP vc) (hc : cons β cells cs) (hn : cons β new ds) (hm : ds.length = m) :
    cons β out (splice cs c m ds) ∧ c + m ≤ cs.length := by
  unfold wrt at h
  split at h
  · rename_i k n l k' z
    split at h
    · rename_i hk; subst hk
      simp only [Option.some.injEq, Prod.mk.injEq] at h; obtain ⟨rfl, rfl⟩ := h
      simp only [okP] at hv
      rw [cons_single] at hc hn; obtain ⟨hl, rfl⟩ := hc
      simp only [Atom.con] at hn; subst hn
      simp only [List.length_cons, List.length_nil] at hm; subst hm
      rw [cons_single, splice_one _ _ _ (by simp; omega)]
      exact ⟨⟨by simpa using hl, by simp⟩, by simp; omega⟩
    · simp at h
  · rename_i k n l k' m' ys
    split at h
    · rename_i hk; subst hk
      simp only [Option.some.injEq, Prod.mk.injEq] at h; obtain ⟨rfl, rfl⟩ := h
      simp only [okP] at hv
      rw [cons_single] at hc hn; obtain ⟨hl, rfl⟩ := hc
      obtain ⟨hy, rfl⟩ := hn
      simp only [List.length_map] at hm
      have : m = m' := by omega
      subst this
      rw [cons_single]
      exact ⟨⟨by rw [splice_len _ _ _ _ (by omega) hy]; exact hl, by rw [splice_map]⟩, by simp; omega⟩
    · simp at h
  · simp only [Option.map_eq_some_iff, Prod.mk.injEq] at h
    obtain ⟨o, ho, rfl, rfl⟩ := h
    exact putC_con ho hc hn hm

def mulz (a z : Nat) : Nat := match z with
  | 1 => a
  | z => a * z

theorem mulz_eq (a z : Nat) : mulz a z = a * z := by
  unfold mulz; split <;> simp

/-- c + s, where c is a number of the text -/
def addc (c s : Nat) : Nat := match c with
  | 0 => s
  | c => c + s

theorem addc_eq (c s : Nat) : addc c s = c + s := by
  unfold addc; split <;> simp

section ops
variable (T : Tab) (ρ : Rho) (K : Know) (n : Nat)

def opLoad (t : TypeId) (x : AV) : Option Ox :=
  match T t, ptr x with
  | some e, some (j, c, sym) =>
    (match K.at j with
     | none => none
     | some b =>
       if e.size = 0 then none else
       match rng sym b.cells c e.size with
       | some (vc, out) => (mk1 e out).map fun y => ⟨vc, .o y, [], false⟩
       | none => none)
  | _, _ => none

def opStore (t : TypeId) (x v : AV) : Option Ox :=
  match T t, ptr x, v with
  | some e, some (j, c, sym), .o y =>
    (match K.at j with
     | none => none
     | some b =>
       if b.own = true ∧ e.size ≠ 0 ∧ sizes y.cells = e.size then
         (match wrt sym b.cells c e.size y.cells with
          | some (vc, out) => some ⟨vc, .u, [(j, some ⟨true, out⟩)], false⟩
          | none => none)
       else none)
  | _, _, _ => none

def opFieldAddr (s : TypeId) (x : AV) (f : Nat) : Option Ox :=
  match T s with
  | some ⟨.struct fs, _, _, _, _⟩ =>
    (match fs[f]? with
     | none => none
     | some fd =>
       match T fd.type with
       | none => none
       | some e => if e.size = 0 then none else
         match x with
         | .o (.a (.p j c)) => some ⟨none, .o (.a (.p j (c + fd.offset))), [], false⟩
         | .o (.a (.ps j c)) => some ⟨none, .o (.a (.ps j (c + fd.offset))), [], false⟩
         | _ => none)
  | _ => none

/-- st: the index is a constant of the text -/
def opIndexAddr (t : TypeId) (st : Bool) (x ix : AV) : Option Ox :=
  match T t, x, ix with
  | some ⟨.array len el, _, _, _, _⟩, .o (.a (.p j c)), .o (.a (.i _ i)) =>
    (match T el with
     | none => none
     | some e =>
       if st = true then (if 0 ≤ i ∧ i < (len : Int) then some ⟨none, .o (.a (.p j (c + i.toNat * e.size))), [], false⟩ else none)
       else some ⟨some (0 ≤ i ∧ i < (len : Int)), .o (.a (.ps j (addc c (mulz i.toNat e.size)))), [], false⟩)
  | some ⟨.array len el, _, _, _, _⟩, .o (.a (.ps j c)), .o (.a (.i _ i)) =>
    (match T el with
     | none => none
     | some e => some ⟨some (0 ≤ i ∧ i < (len : Int)), .o (.a (.ps j (addc c (mulz i.toNat e.size)))), [], false⟩)
  | some ⟨.slice el, _, _, _, _⟩, .o (.a (.sl j c len _)), .o (.a (.i _ i)) =>
    (match T el with
     | none => none
     | some e => some ⟨some (0 ≤ i ∧ i < (len : Int)), .o (.a (.ps j (addc c (mulz i.toNat e.size)))), [], false⟩)
  | some ⟨.slice el, _, _, _, _⟩, .o (.a (.rs j c len _)), .o (.a (.i _ i)) =>
    (match T el with
     | none => none
     | some e => some ⟨some (0 ≤ i ∧ i < (len : Int)), .o (.a (.ps j (addc c (mulz i.toNat e.size)))), [], false⟩)
  | _, _, _ => none

def opField (t : TypeId) (x : AV) (f : Nat) : Option Ox :=
  match T t, x with
  | some ⟨.struct fs, _, _, _, _⟩, .o (.g l) =>
    (match fs[f]? with
     | none => none
     | some fd =>
       match T fd.type with
       | none => none
       | some e =>
         if e.size = 0 then none else
         match takeC l fd.offset e.size with
         | some out => (mk1 e out).map fun y => ⟨none, .o y, [], false⟩
         | none => none)
  | _, _ => none

def bits2 (op : BinOp) (k : IntKind) (x y : Int) : Int :=
  let a := BitVec.ofInt k.bits x
  let b := BitVec.ofInt k.bits y
  match op with
  | .and => k.wrap (a &&& b).toNat
  | .or => k.wrap (a ||| b).toNat
  | .xor => k.wrap (a ^^^ b).toNat
  | _ => k.wrap (a &&& ~~~b).toNat
def shl (k : IntKind) (x y : Int) : Int := k.wrap (x * 2 ^ (min y.toNat k.bits))
def shr (k : IntKind) (x y : Int) : Int := x.fdiv (2 ^ (min y.toNat k.bits))

def opBin (op : BinOp) (t : TypeId) (x y : AV) : Option Ox :=
  match op, x, y with
  | .shl, .o (.a (.i k a)), .o (.a (.i _ b)) => some ⟨some (0 ≤ b), .o (.a (.i k (shl k a b))), [], false⟩
  | .shr, .o (.a (.i k a)), .o (.a (.i _ b)) => some ⟨some (0 ≤ b), .o (.a (.i k (shr k a b))), [], false⟩
  | op, .o (.a (.i k a)), .o (.a (.i k' b)) =>
    if k ≠ k' then none else
    (match op with
     | .add => some ⟨none, .o (.a (.i k (k.wrap (a + b)))), [], false⟩
     | .sub => some ⟨none, .o (.a (.i k (k.wrap (a - b)))), [], false⟩
     | .mul => some ⟨none, .o (.a (.i k (k.wrap (a * b)))), [], false⟩
     | .quo => some ⟨some (b ≠ 0), .o (.a (.i k (k.wrap (a.tdiv b)))), [], false⟩
     | .rem => some ⟨some (b ≠ 0), .o (.a (.i k (a.tmod b))), [], false⟩
     | .and => some ⟨none, .o (.a (.i k (bits2 .and k a b))), [], false⟩
     | .or => some ⟨none, .o (.a (.i k (bits2 .or k a b))), [], false⟩
     | .xor => some ⟨none, .o (.a (.i k (bits2 .xor k a b))), [], false⟩
     | .andNot => some ⟨none, .o (.a (.i k (bits2 .andNot k a b))), [], false⟩
     | .eql => some ⟨none, .o (.a (.b (a == b))), [], false⟩
     | .neq => some ⟨none, .o (.a (.b (a != b))), [], false⟩
     | .lss => some ⟨none, .o (.a (.b (decide (a < b)))), [], false⟩
     | .leq => some ⟨none, .o (.a (.b (decide (a ≤ b)))), [], false⟩
     | .gtr => some ⟨none, .o (.a (.b (decide (a > b)))), [], false⟩
     | .geq => some ⟨none, .o (.a (.b (decide (a ≥ b)))), [], false⟩
     | _ => none)
  | op, .o (.a (.b a)), .o (.a (.b b)) =>
    (match T t, op with
     | some ⟨.bool, _, _, _, _⟩, .eql => some ⟨none, .o (.a (.b (a == b))), [], false⟩
     | some ⟨.bool, _, _, _, _⟩, .neq => some ⟨none, .o (.a (.b (!(a == b)))), [], false⟩
     | _, _ => none)
  | op, .o (.a (.raw (.pointer none))), .o (.a (.raw (.pointer none))) =>
    (match T t, op with
     | some ⟨.pointer _, _, _, _, _⟩, .eql => some ⟨none, .o (.a (.b true)), [], false⟩
     | some ⟨.pointer _, _, _, _, _⟩, .neq => some ⟨none, .o (.a (.b false)), [], false⟩
     | _, _ => none)
  | op, .o (.a (.p _ _)), .o (.a (.raw (.pointer none))) =>
    (match T t, op with
     | some ⟨.pointer _, _, _, _, _⟩, .eql => some ⟨none, .o (.a (.b false)), [], false⟩
     | some ⟨.pointer _, _, _, _, _⟩, .neq => some ⟨none, .o (.a (.b true)), [], false⟩
     | _, _ => none)
  | op, .o (.g [.ints k m xs]), .o (.g [.ints k' m' ys]) =>
    (match T t, op with
     | some ⟨.array len el, _, _, _, true⟩, .eql =>
       (match T el with
        | some ⟨.int _, 1, _, _, _⟩ => if k = k' ∧ m = len ∧ m' = len then some ⟨none, .o (.a (.b (decide (xs = ys)))), [], false⟩ else none
        | _ => none)
     | some ⟨.array len el, _, _, _, true⟩, .neq =>
       (match T el with
        | some ⟨.int _, 1, _, _, _⟩ => if k = k' ∧ m = len ∧ m' = len then some ⟨none, .o (.a (.b (!decide (xs = ys)))), [], false⟩ else none
        | _ => none)
     | _, _ => none)
  | _, _, _ => none

def opUn (op : UnOp) (x : AV) : Option Ox :=
  match op, x with
  | .neg, .o (.a (.i k a)) => some ⟨none, .o (.a (.i k (k.wrap (0 - a)))), [], false⟩
  | .xor, .o (.a (.i k a)) => some ⟨none, .o (.a (.i k (bits2 .xor k (if k.signed then -1 else k.max) a))), [], false⟩
  | .not, .o (.a (.b x)) => some ⟨none, .o (.a (.b (!x))), [], false⟩
  | _, _ => none

def opConvert (dst : TypeId) (x : AV) : Option Ox :=
  match T dst, x with
  | some ⟨.int k, _, _, _, _⟩, .o (.a (.i _ a)) => some ⟨none, .o (.a (.i k (k.wrap a))), [], false⟩
  | _, _ => none

def opExtract (x : AV) (i : Nat) : Option Ox :=
  match x with
  | .t l => (l[i]?).map fun v => ⟨none, .o v, [], false⟩
  | _ => none

def opAlloc (t : TypeId) : Option Ox :=
  match T t with
  | some e => if nomL n (n + 1) e.zero then some ⟨none, .o (.a (.p n 0)), [(n, some ⟨true, e.zero⟩)], true⟩ else none
  | none => none
def opBox (x : AV) : Option Ox :=
  match x with
  | .o y => if nomL n (n + 1) y.cells then some ⟨none, .o (.a (.p n 0)), [(n, some ⟨true, y.cells⟩)], true⟩ else none
  | _ => none
end ops

/- soundness -/
section sound
variable {P : Program} {T : Tab} {w0 : World} {rw : List Nat} {β : Env} {K : Know} {w : World}

def Goes (P : Program) (w0 : World) (rw : List Nat) (β : Env) (K : Know) (w : World) (n : Nat) (s : Sem Value) (x : Ox) : Prop :=
  ∃ β' v w', s.run P w = .ok v w' ∧ Agree n (n + cond x.al 1 0) β β' ∧ x.val.con β' v ∧ RelW w0 rw β' (app K x.ch) w'

theorem agree_refl (lo hi : Nat) (β : Env) : Agree lo hi β β := fun _ _ => rfl

theorem Goes.quiet {n : Nat} {s : Sem Value} {x : Ox} {v : Value} (hR : RelW w0 rw β K w) (h : s.run P w = .ok v w) (hv : x.val.con β v) (hx : x.ch = []) : Goes P w0 rw β K w n s x :=
  ⟨β, v, w, h, agree_refl _ _ _, hv, by rw [hx]; exact hR⟩

theorem run_load {t : TypeId} {e : TE} (hT : TEOk P t e) (a : Addr) (cs : List Value) (hl : cs.length = e.size) (h1 : aggD e.d = false → cs.length = 1) (hc : ∀ (i : Nat) (v : Value), cs[i]? = some v → w.cell? (a.add i) = some v) :
    (loadVar t a).run P w = .ok (valOf e cs) w := by
  obtain ⟨i, z, hi, hs, _⟩ := hT.info
  unfold valOf
  by_cases ha : aggD e.d = true
  · rw [if_pos ha]; exact run_load_agg w hT.und ha hi a cs (by omega) hc
  · have ha : aggD e.d = false := by simpa using ha
    rw [if_neg (by simp [ha])]
    match cs, h1 ha with
    | [v], _ =>
      have := hc 0 v rfl
      rw [show a.add 0 = a from rfl] at this
      exact run_load_one w hT.und ha a v this

theorem opLoad_ok (hT : TabOk P T) {n : Nat} {t : TypeId} {x : AV} {o : Ox} {v : Value} (h : opLoad T K t x = some o) (hvc : okP o.vc) (hx : x.con β v) (hR : RelW w0 rw β K w) :
    Goes P w0 rw β K w n (Instr.loadAt t v) o := by
  unfold opLoad at h
  split at h
  · rename_i e j c sym he hp
    obtain ⟨r, hr, rfl⟩ := ptr_con hp hx
    split at h
    · simp at h
    · rename_i b hb
      split at h
      · simp at h
      · rename_i hz
        split at h
        · rename_i vc out hrng
          simp only [Option.map_eq_some_iff] at h
          obtain ⟨y, hy, rfl⟩ := h
          obtain ⟨cs, hc, hd⟩ := Blk.cellsAt (hR.holds j b hb) hr
          obtain ⟨ho, hl⟩ := rng_con hrng hvc (by omega) hc
          obtain ⟨hy1, hy2⟩ := mk1_con hy ho (sub_len _ _ _ hl)
          refine Goes.quiet hR ?_ hy1 rfl
          show (loadVar t _).run P w = _
          refine run_load (hT t e he) _ _ (sub_len _ _ _ hl) hy2 ?_
          intro i v hv
          rw [addr_add, Nat.add_assoc]; exact hd _ _ (getElem?_sub _ _ _ _ _ hv)
        · simp at h
  · simp at h

theorem V1.cells_len {β : Env} {y : V1} {v : Value} (h : y.con β v) : v.cells.toList.length = sizes y.cells := cons_len (V1.con_cells h)

theorem opStore_ok (hT : TabOk P T) {t : TypeId} {x y : AV} {o : Ox} {v u : Value} (h : opStore T K t x y = some o) (hvc : okP o.vc) (hx : x.con β v) (hy : y.con β u) (hR : RelW w0 rw β K w) :
    ∃ w', (Instr.storeAt t v u).run P w = .ok () w' ∧ o.val = .u ∧ RelW w0 rw β (app K o.ch) w' := by
  unfold opStore at h
  split at h
  · rename_i e j c sym y he hp
    obtain ⟨r, hr, rfl⟩ := ptr_con hp hx
    split at h
    · simp at h
    · rename_i b hb
      split at h
      · rename_i hz
        obtain ⟨ho, hz, hsz⟩ := hz
        split at h
        · rename_i vc out hw
          simp only [Option.some.injEq] at h; subst h
          have hyc := V1.con_cells hy
          have hlen : u.cells.toList.length = e.size := by rw [cons_len hyc]; exact hsz
          obtain ⟨w', hrun, hrel⟩ := RelW.store P hR hb ho hr (fun cs hc => wrt_con hw hvc hc hyc hlen) hyc hlen (by omega)
          refine ⟨w', ?_, rfl, hrel⟩
          obtain ⟨i, z, hi, hs, _⟩ := (hT t e he).info
          have hl2 : u.cells.size = i.size := by rw [hs, ← hlen]; simp
          show (storeVar t _ u).run P w = _
          unfold storeVar
          simp only [Sem.run_bind, run_sizeOf' w hi, Result.andThen_ok, Sem.run_ite]
          rw [if_neg (by simp [hl2])]
          exact hrun
        · simp at h
      · simp at h
  · simp at h

theorem opFieldAddr_ok (hT : TabOk P T) {n : Nat} {s : TypeId} {f : Nat} {x : AV} {o : Ox} {v : Value} (h : opFieldAddr T s x f = some o) (hx : x.con β v) (hR : RelW w0 rw β K w) :
    Goes P w0 rw β K w n (Instr.fieldAt s v f) o := by
  unfold opFieldAddr at h
  split at h
  · rename_i fs sz by_ ze eo he
    split at h
    · simp at h
    · rename_i fd hf
      split at h
      · simp at h
      · rename_i e hfe
        split at h
        · simp at h
        · rename_i hz
          obtain ⟨i, z, hi, hs, _⟩ := (hT _ _ hfe).info
          have hu := (hT _ _ he).und
          have run : ∀ (bk c : Nat), (Instr.fieldAt s (.pointer (some ⟨bk, c, none⟩)) f).run P w = .ok (.pointer (some ⟨bk, c + fd.offset, none⟩)) w := by
            intro bk c
            unfold Instr.fieldAt
            simp only [Sem.run_bind, run_underlying hu, Result.andThen_ok, hf, Instr.sureAddr, Sem.run_pure, fieldPlace, run_sizeOf' w hi]
            rw [if_neg (by rw [hs]; exact hz)]
            simp [addr_add]
          split at h
          · simp only [Option.some.injEq] at h; subst h
            obtain ⟨r, hr, hv⟩ := hx
            simp only [List.cons.injEq, and_true] at hv; subst hv
            refine Goes.quiet hR (run _ _) ⟨r, hr, by simp [Nat.add_assoc]⟩ rfl
          · simp only [Option.some.injEq] at h; subst h
            obtain ⟨r, hr, hv⟩ := hx
            simp only [List.cons.injEq, and_true] at hv; subst hv
            refine Goes.quiet hR (run _ _) ⟨r, hr, by simp [Nat.add_assoc]⟩ rfl
          · simp at h
  · simp at h

theorem opIndexAddr_ok (hT : TabOk P T) {n : Nat} {t : TypeId} {st : Bool} {x ix : AV} {o : Ox} {v u : Value} (h : opIndexAddr T t st x ix = some o) (hvc : okP o.vc) (hx : x.con β v) (hi : ix.con β u) (hR : RelW w0 rw β K w) :
    Goes P w0 rw β K w n (Instr.indexAt t v u) o := by
  have arr : ∀ (len : Nat) (el : TypeId) (e : TE) (k : IntKind) (i : Int) (bk c : Nat), P.underlying t = some (.array len el) → T el = some e → 0 ≤ i → i < (len : Int) →
      (Instr.indexAt t (.pointer (some ⟨bk, c, none⟩)) (.int k i)).run P w = .ok (.pointer (some ⟨bk, c + i.toNat * e.size, none⟩)) w := by
    intro len el e k i bk c hu he h0 h1
    obtain ⟨ii, z, hii, hs, _⟩ := (hT _ _ he).info
    unfold Instr.indexAt
    simp only [asIntOf, pure_bind, Sem.run_bind, run_underlying hu, Result.andThen_ok, Instr.sureAddr, Sem.run_pure, Sem.run_ite, run_sizeOf' w hii]
    rw [if_pos ⟨h0, h1⟩, hs, addr_add]
  have slc : ∀ (len cap : Nat) (el : TypeId) (e : TE) (k : IntKind) (i : Int) (bk c : Nat), P.underlying t = some (.slice el) → T el = some e → 0 ≤ i → i < (len : Int) →
      (Instr.indexAt t (.slice (some ⟨bk, c, none⟩) len cap) (.int k i)).run P w = .ok (.pointer (some ⟨bk, c + i.toNat * e.size, none⟩)) w := by
    intro len cap el e k i bk c hu he h0 h1
    obtain ⟨ii, z, hii, hs, _⟩ := (hT _ _ he).info
    unfold Instr.indexAt
    simp only [asIntOf, pure_bind, Sem.run_bind, run_underlying hu, Result.andThen_ok, Instr.sureAddr, Sem.run_pure, Sem.run_ite, run_sizeOf' w hii]
    rw [if_pos ⟨h0, h1⟩, hs, addr_add]
  unfold opIndexAddr at h
  split at h
  · rename_i len el _ _ _ _ j c k i ht
    obtain ⟨r, hr, hv⟩ := hx
    simp only [List.cons.injEq, and_true] at hv; subst hv
    simp only [AV.con, V1.con, Atom.con, List.cons.injEq, and_true] at hi; subst hi
    split at h
    · simp at h
    · rename_i e he
      split at h
      · split at h
        · rename_i hb
          simp only [Option.some.injEq] at h; subst h
          exact Goes.quiet hR (arr len el e _ _ _ _ (hT _ _ ht).und he hb.1 hb.2) ⟨r, hr, by simp [Nat.add_assoc]⟩ rfl
        · simp at h
      · simp only [Option.some.injEq] at h; subst h
        exact Goes.quiet hR (arr len el e _ _ _ _ (hT _ _ ht).und he hvc.1 hvc.2) ⟨r, hr, by simp [Nat.add_assoc, addc_eq, mulz_eq]⟩ rfl
  · rename_i len el _ _ _ _ j c k i ht
    obtain ⟨r, hr, hv⟩ := hx
    simp only [List.cons.injEq, and_true] at hv; subst hv
    simp only [AV.con, V1.con, Atom.con, List.cons.injEq, and_true] at hi; subst hi
    split at h
    · simp at h
    · rename_i e he
      simp only [Option.some.injEq] at h; subst h
      exact Goes.quiet hR (arr len el e _ _ _ _ (hT _ _ ht).und he hvc.1 hvc.2) ⟨r, hr, by simp [Nat.add_assoc, addc_eq, mulz_eq]⟩ rfl
  · rename_i el _ _ _ _ j c len cap k i ht
    obtain ⟨base, hv, hlc, hb⟩ := hx
    simp only [List.cons.injEq, and_true] at hv; subst hv
    simp only [AV.con, V1.con, Atom.con, List.cons.injEq, and_true] at hi; subst hi
    split at h
    · simp at h
    · rename_i e he
      simp only [Option.some.injEq] at h; subst h
      have hvc' : 0 ≤ i ∧ i < (len : Int) := hvc
      obtain ⟨r, hr, rfl⟩ := hb (by omega)
      exact Goes.quiet hR (slc len _ el e _ _ _ _ (hT _ _ ht).und he hvc.1 hvc.2) ⟨r, hr, by simp [Nat.add_assoc, addc_eq, mulz_eq]⟩ rfl
  · rename_i el _ _ _ _ j c len z k i ht
    obtain ⟨base, cap, hv, hlc, hb⟩ := hx
    simp only [List.cons.injEq, and_true] at hv; subst hv
    simp only [AV.con, V1.con, Atom.con, List.cons.injEq, and_true] at hi; subst hi
    split at h
    · simp at h
    · rename_i e he
      simp only [Option.some.injEq] at h; subst h
      have hvc' : 0 ≤ i ∧ i < (len : Int) := hvc
      obtain ⟨r, hr, rfl, _⟩ := hb (by omega)
      exact Goes.quiet hR (slc len _ el e _ _ _ _ (hT _ _ ht).und he hvc.1 hvc.2) ⟨r, hr, by simp [Nat.add_assoc, addc_eq, mulz_eq]⟩ rfl
  · simp at h
end sound
end Go.Proofs.Ytcpoldghkiiggaa.X

/- The operations, second part: the rest of the plain ones are sound. -/
namespace Go.Proofs.Ytcpoldghkiiggaa.X
open Go

section sound
variable {P : Program} {T : Tab} {w0 : World} {rw : List Nat} {β : Env} {K : Know} {w : World}

theorem run_part {t : TypeId} {e : TE} (hT : TEOk P t e) (cs : Array Value) (off : Nat) (ds : List Value) (hl : ds.length = e.size) (h1 : aggD e.d = false → ds.length = 1) (hd : ds = sub cs.toList off e.size) :
    (part t cs off).run P w = .ok (valOf e ds) w := by
  obtain ⟨i, z, hi, hs, _⟩ := hT.info
  unfold part valOf
  rw [Sem.run_bind, run_isAgg w hT.und]
  by_cases ha : aggD e.d = true
  · rw [if_pos ha]
    simp only [ha, Result.andThen_ok, if_true, Sem.run_bind, run_sizeOf' w hi, Sem.run_pure, hs]
    congr 2
    apply Array.toList_inj.1
    simp [hd, sub]
  · rw [if_neg ha]
    have ha : aggD e.d = false := by simpa using ha
    have h1 := h1 ha
    rw [ha]
    simp only [Result.andThen_ok, Bool.false_eq_true, if_false]
    have : cs[off]? = some (ds.headD undef) := by
      match ds, h1 with
      | [v], _ =>
        have := getElem?_sub cs.toList off e.size 0 v (by rw [← hd]; rfl)
        simpa using this
    rw [this]; rfl

theorem opField_ok (hT : TabOk P T) {n : Nat} {t : TypeId} {f : Nat} {x : AV} {o : Ox} {v : Value} (h : opField T t x f = some o) (hx : x.con β v) (hR : RelW w0 rw β K w) :
    Goes P w0 rw β K w n (Instr.field t v f) o := by
  unfold opField at h
  split at h
  · rename_i fs _ _ _ _ l ht
    split at h
    · simp at h
    · rename_i fd hf
      split at h
      · simp at h
      · rename_i e he
        split at h
        · simp at h
        · rename_i hz
          split at h
          · rename_i out hout
            simp only [Option.map_eq_some_iff] at h
            obtain ⟨y, hy, rfl⟩ := h
            obtain ⟨cs, rfl, hc⟩ := hx
            obtain ⟨ho, hl⟩ := takeC_con hout hc
            have hl := hl (by omega)
            obtain ⟨hy1, hy2⟩ := mk1_con hy ho (sub_len _ _ _ hl)
            refine Goes.quiet hR (v := valOf e (sub cs fd.offset e.size)) ?_ hy1 rfl
            unfold Instr.field
            simp only [Sem.run_bind, run_underlying (hT _ _ ht).und, Result.andThen_ok, hf, asAgg, Sem.run_pure]
            exact run_part (hT _ _ he) _ _ _ (sub_len _ _ _ hl) hy2 (by simp)
          · simp at h
  · simp at h

theorem opUn_ok {n : Nat} {op : UnOp} {x : AV} {o : Ox} {v : Value} (h : opUn op x = some o) (hx : x.con β v) (hR : RelW w0 rw β K w) : Goes P w0 rw β K w n (Op.unary op v) o := by
  unfold opUn at h
  split at h <;> simp only [Option.some.injEq, reduceCtorEq] at h <;> subst h <;>
    simp only [AV.con, V1.con, Atom.con, List.cons.injEq, and_true] at hx <;> subst hx
  · exact Goes.quiet hR (v := .int _ _) rfl rfl rfl
  · exact Goes.quiet hR (v := .int _ _) rfl rfl rfl
  · exact Goes.quiet hR (v := .bool _) rfl rfl rfl

theorem opConvert_ok (hT : TabOk P T) {n : Nat} {src dst : TypeId} {d : TypeDesc} (hs : P.underlying src = some d) {x : AV} {o : Ox} {v : Value} (h : opConvert T dst x = some o) (hx : x.con β v) (hR : RelW w0 rw β K w) :
    Goes P w0 rw β K w n (convert src dst v) o := by
  unfold opConvert at h
  split at h
  · rename_i k _ _ _ _ k' a ht
    simp only [Option.some.injEq] at h; subst h
    simp only [AV.con, V1.con, Atom.con, List.cons.injEq, and_true] at hx; subst hx
    refine Goes.quiet hR (v := .int k (k.wrap a)) ?_ rfl rfl
    unfold convert
    simp only [Sem.run_bind, run_underlying hs, run_underlying (hT _ _ ht).und, Result.andThen_ok]
    rfl
  · simp at h

theorem opExtract_ok {n : Nat} {x : AV} {i : Nat} {o : Ox} {v : Value} (h : opExtract x i = some o) (hx : x.con β v) (hR : RelW w0 rw β K w) : Goes P w0 rw β K w n (Instr.extract v i) o := by
  unfold opExtract at h
  split at h
  · rename_i l
    simp only [Option.map_eq_some_iff] at h
    obtain ⟨y, hy, rfl⟩ := h
    obtain ⟨vs, rfl, hc⟩ := hx
    have key : ∀ (l : List V1) (vs : List Value) (i : Nat), all2 β l vs → l[i]? = some y → ∃ u, vs[i]? = some u ∧ y.con β u := by
      intro l
      induction l with
      | nil => intro vs i _ h; simp at h
      | cons a r ih =>
        rintro vs i ⟨u, rest, rfl, hu, hr⟩ h
        cases i with
        | zero => simp at h; subst h; exact ⟨u, rfl, hu⟩
        | succ i => simp at h; simpa using ih rest i hr h
    obtain ⟨u, hu, hcon⟩ := key l vs i hc hy
    refine Goes.quiet hR (v := u) ?_ hcon rfl
    unfold Instr.extract
    simp [hu]
  · simp at h

theorem run_items {e : TypeId} {k0 : IntKind} {bb : Nat} {zz : List Atom} {eo : Bool} (hT : TEOk P e ⟨.int k0, 1, bb, zz, eo⟩) (d : Nat) (k : IntKind) (xs ys : List Int) : ∀ (is : List Nat), (∀ i ∈ is, i < xs.length ∧ i < ys.length) →
    (Op.eqItems (d + 1) e 1 (xs.map (Value.int k)).toArray (ys.map (Value.int k)).toArray is).run P w = .ok (is.all fun i => xs.getD i 0 == ys.getD i 0) w
  | [], _ => rfl
  | i :: is, h => by
    have hi := h i (by simp)
    have p : ∀ (l : List Int), i < l.length → (part e (l.map (Value.int k)).toArray (i * 1)).run P w = .ok (.int k (l.getD i 0)) w := by
      intro l hl
      have := run_part (w := w) hT (l.map (Value.int k)).toArray (i * 1) [.int k (l.getD i 0)] rfl (fun _ => rfl) (by
        simp only [Nat.mul_one]
        rw [← sub_map, sub_one l i 0 hl]; rfl)
      exact this
    unfold Op.eqItems
    rw [Sem.run_bind, p xs hi.1, Result.andThen_ok, Sem.run_bind, p ys hi.2, Result.andThen_ok, Sem.run_bind, run_equalIn_int w d e k k0 _ _ hT.und, Result.andThen_ok]
    have ih := run_items hT d k xs ys is (fun j hj => h j (by simp [hj]))
    simp only [List.all_cons]
    cases hb : (xs.getD i 0 == ys.getD i 0)
    · simp
    · simpa using ih

theorem all_range_eq (xs ys : List Int) (n : Nat) (hx : xs.length = n) (hy : ys.length = n) : (List.range n).all (fun i => xs.getD i 0 == ys.getD i 0) = decide (xs = ys) := by
  rw [Bool.eq_iff_iff, decide_eq_true_eq, List.all_eq_true]
  constructor
  · intro h
    apply List.ext_getElem (by omega)
    intro i h1 h2
    have := h i (by simp; omega)
    simpa [List.getD_eq_getElem?_getD, h1, h2] using this
  · rintro rfl i _; simp

theorem run_eq_ints {t el : TypeId} {len s1 b1 bb : Nat} {z1 zz : List Atom} {eo1 eo : Bool} {k0 : IntKind} (hT : TEOk P t ⟨.array len el, s1, b1, z1, eo1⟩) (he : TEOk P el ⟨.int k0, 1, bb, zz, eo⟩) (k : IntKind) (xs ys : List Int) (hx : xs.length = len) (hy : ys.length = len) :
    (Op.equal t (.agg (xs.map (Value.int k)).toArray) (.agg (ys.map (Value.int k)).toArray)).run P w = .ok (decide (xs = ys)) w := by
  obtain ⟨i, z, hi, hs, _⟩ := he.info
  have hc : P.cellsOf el = 1 := by unfold Program.cellsOf; rw [hi]; exact hs
  unfold Op.equal
  rw [show Op.maxDepth = 9998 + 1 + 1 from rfl, run_equalIn_array w 9999 _ _ hT.und hi, hc, run_items he 9998 k xs ys _ (fun j hj => by simp at hj; omega), all_range_eq xs ys len hx hy]

theorem run_eq_ptr_nil {t el : TypeId} {s1 b1 : Nat} {z1 : List Atom} {eo1 : Bool} (hT : TEOk P t ⟨.pointer el, s1, b1, z1, eo1⟩) (x : Option Addr) : (Op.equal t (.pointer x) (.pointer none)).run P w = .ok x.isNone w := by
  exact run_equal_pointer_nil w t x (by rw [hT.und]; simp [Program.pointee, hT.und])

def binRun (P : Program) (op : BinOp) (t : TypeId) (x y : Operand) (u v : Value) (w : World) : Result Value :=
  (do eqGuard op t x y u v; binOp op t u v : Sem Value).run P w

theorem guard_agg {t : TypeId} {e : TE} (hT : TEOk P t e) (he : e.eqok = true) (op : BinOp) (x y : Operand) (xs ys : Array Value) : (eqGuard op t x y (.agg xs) (.agg ys)).run P w = .ok () w := run_eqGuard_agg w op t x y xs ys (hT.eqg he)

theorem guard_none (op : BinOp) (t : TypeId) (x y : Operand) (u v : Value) (h : (match u, v with | .nilIface, .nilIface => false | .agg _, .agg _ => false | _, _ => true) = true) : (eqGuard op t x y u v).run P w = .ok () w := by
  unfold eqGuard
  cases op <;> first | rfl | (cases u <;> cases v <;> first | rfl | (simp at h))

theorem opBin_ok (hT : TabOk P T) {n : Nat} {op : BinOp} {t : TypeId} {X Y : Operand} {x y : AV} {o : Ox} {u v : Value} (h : opBin T op t x y = some o) (hvc : okP o.vc) (hx : x.con β u) (hy : y.con β v) (hR : RelW w0 rw β K w) :
    Goes P w0 rw β K w n (do eqGuard op t X Y u v; binOp op t u v) o := by
  unfold opBin at h
  split at h
  · simp only [Option.some.injEq] at h; subst h
    simp only [AV.con, V1.con, Atom.con, List.cons.injEq, and_true] at hx hy; subst hx; subst hy
    rename_i k a k' b
    refine Goes.quiet hR (v := .int k (shl k a b)) ?_ rfl rfl
    rw [Sem.run_bind, guard_none _ _ _ _ _ _ rfl, Result.andThen_ok]
    have hvc : 0 ≤ b := hvc
    simp only [binOp, Op.shift, Sem.run_ite]
    rw [if_neg (by omega)]; rfl
  · simp only [Option.some.injEq] at h; subst h
    simp only [AV.con, V1.con, Atom.con, List.cons.injEq, and_true] at hx hy; subst hx; subst hy
    rename_i k a k' b
    refine Goes.quiet hR (v := .int k (shr k a b)) ?_ rfl rfl
    rw [Sem.run_bind, guard_none _ _ _ _ _ _ rfl, Result.andThen_ok]
    have hvc : 0 ≤ b := hvc
    simp only [binOp, Op.shift, Sem.run_ite]
    rw [if_neg (by omega)]; rfl
  · rename_i k a k' b h1 h2
    simp only [AV.con, V1.con, Atom.con, List.cons.injEq, and_true] at hx hy; subst hx; subst hy
    split at h
    · simp at h
    · rename_i hk
      simp only [ne_eq, Decidable.not_not] at hk; subst hk
      split at h <;> simp only [Option.some.injEq, reduceCtorEq] at h <;> subst h <;>
        (refine Goes.quiet hR ?_ rfl rfl; rw [Sem.run_bind, guard_none _ _ _ _ _ _ rfl, Result.andThen_ok]; try (simp [binOp, Op.intArith, Op.intCmp, Op.intBits, bits2]; done))
      · have hvc : b ≠ 0 := hvc
        simp [binOp, Op.intDiv, hvc]
      · have hvc : b ≠ 0 := hvc
        simp [binOp, Op.intDiv, hvc]
  · rename_i a b
    simp only [AV.con, V1.con, Atom.con, List.cons.injEq, and_true] at hx hy; subst hx; subst hy
    split at h <;> simp only [Option.some.injEq, reduceCtorEq] at h <;> subst h <;> rename_i ht <;>
      (refine Goes.quiet hR ?_ rfl rfl; rw [Sem.run_bind, guard_none _ _ _ _ _ _ rfl, Result.andThen_ok]
       simp [binOp, run_equal_bool w t _ _ (hT _ _ ht).und])
  · simp only [AV.con, V1.con, Atom.con, List.cons.injEq, and_true] at hx hy; obtain ⟨rfl, _⟩ := hx; obtain ⟨rfl, _⟩ := hy
    split at h <;> simp only [Option.some.injEq, reduceCtorEq] at h <;> subst h <;> rename_i ht <;>
      (refine Goes.quiet hR ?_ rfl rfl; rw [Sem.run_bind, guard_none _ _ _ _ _ _ rfl, Result.andThen_ok]
       simp only [binOp, Sem.run_bind, run_eq_ptr_nil (hT _ _ ht) _, Result.andThen_ok]; rfl)
  · simp only [AV.con, V1.con, Atom.con, List.cons.injEq, and_true] at hx hy; obtain ⟨r, _, rfl⟩ := hx; obtain ⟨rfl, _⟩ := hy
    split at h <;> simp only [Option.some.injEq, reduceCtorEq] at h <;> subst h <;> rename_i ht <;>
      (refine Goes.quiet hR ?_ rfl rfl; rw [Sem.run_bind, guard_none _ _ _ _ _ _ rfl, Result.andThen_ok]
       simp only [binOp, Sem.run_bind, run_eq_ptr_nil (hT _ _ ht) _, Result.andThen_ok]; rfl)
  · rename_i k m xs k' m' ys
    obtain ⟨cs, rfl, hcx⟩ := hx
    obtain ⟨ds, rfl, hcy⟩ := hy
    rw [cons_single] at hcx hcy
    obtain ⟨hlx, rfl⟩ := hcx
    obtain ⟨hly, rfl⟩ := hcy
    split at h
    · rename_i len el _ _ _ ht
      split at h
      · rename_i k0 bb zz eo he
        split at h
        · rename_i hk; obtain ⟨rfl, rfl, rfl⟩ := hk
          simp only [Option.some.injEq] at h; subst h
          refine Goes.quiet hR ?_ rfl rfl
          rw [Sem.run_bind, guard_agg (hT _ _ ht) rfl, Result.andThen_ok]
          simp only [binOp, Sem.run_bind, run_eq_ints (hT _ _ ht) (hT _ _ he) k xs ys hlx hly, Result.andThen_ok]
          rfl
        · simp at h
      · simp at h
    · rename_i len el _ _ _ ht
      split at h
      · rename_i k0 bb zz eo he
        split at h
        · rename_i hk; obtain ⟨rfl, rfl, rfl⟩ := hk
          simp only [Option.some.injEq] at h; subst h
          refine Goes.quiet hR ?_ rfl rfl
          rw [Sem.run_bind, guard_agg (hT _ _ ht) rfl, Result.andThen_ok]
          simp only [binOp, Sem.run_bind, run_eq_ints (hT _ _ ht) (hT _ _ he) k xs ys hlx hly, Result.andThen_ok]
          rfl
        · simp at h
      · simp at h
    · simp at h
  · simp at h

theorem opAlloc_ok (hT : TabOk P T) {n : Nat} {t : TypeId} {o : Ox} (h : opAlloc T n t = some o) (hn : K.at n = none) (hK : K.nom n (n + 1) = true) (hR : RelW w0 rw β K w) :
    Goes P w0 rw β K w n (Instr.alloc t true (.tuple #[])) o := by
  unfold opAlloc at h
  split at h
  · rename_i e he
    split at h
    · rename_i hnm
      simp only [Option.some.injEq] at h; subst h
      obtain ⟨i, z, hi, hs, hb, hz, hc⟩ := (hT _ _ he).info
      have := RelW.new hR n hn hK (hc β) hnm z.cells.toList t (fun _ _ h => h) (Nat.le_refl _)
      refine ⟨_, .pointer (some ⟨w.heap.size, 0, none⟩), _, ?_, Env.agree_upd _ _ _, ?_, this⟩
      · simp only [Instr.alloc, Sem.run_bind, zeroValue, typeInfo, run_program, Result.andThen_ok, hi, Sem.run_pure, hz, newVar, newRow, run_newObj]
      · exact ⟨_, by unfold Env.upd; rw [if_pos rfl], by simp⟩
    · simp at h
  · simp at h

theorem opBox_ok {n : Nat} {t : TypeId} {x : AV} {o : Ox} {v : Value} (h : opBox n x = some o) (hx : x.con β v) (hn : K.at n = none) (hK : K.nom n (n + 1) = true) (hR : RelW w0 rw β K w) :
    Goes P w0 rw β K w n (Instr.box t v) o := by
  unfold opBox at h
  split at h
  · rename_i y
    split at h
    · rename_i hnm
      simp only [Option.some.injEq] at h; subst h
      have := RelW.new hR n hn hK (V1.con_cells hx) hnm v.cells.toList t (fun _ _ h => h) (Nat.le_refl _)
      refine ⟨_, .pointer (some ⟨w.heap.size, 0, none⟩), _, ?_, Env.agree_upd _ _ _, ?_, this⟩
      · simp only [Instr.box, Sem.run_bind, Result.andThen_ok, Sem.run_pure, newVar, newRow, run_newObj]
      · exact ⟨_, by unfold Env.upd; rw [if_pos rfl], by simp⟩
    · simp at h
  · simp at h
end sound
end Go.Proofs.Ytcpoldghkiiggaa.X

/- The operations, third part: composites, slices, lengths, copies. -/
namespace Go.Proofs.Ytcpoldghkiiggaa.X
open Go

theorem foldSet (off : Nat) : ∀ (l : List Value) (k : Nat) (cs : Array Value), off + k + l.length ≤ cs.size →
    ((l.zipIdx k).foldl (fun (cs : Array Value) (x : Value × Nat) => cs.setIfInBounds (off + x.2) x.1) cs).toList = splice cs.toList (off + k) l.length l
  | [], k, cs, h => by simp [splice]
  | v :: l, k, cs, h => by
    simp only [List.zipIdx_cons, List.foldl_cons]
    rw [foldSet off l (k + 1) _ (by simp at h ⊢; omega)]
    simp only [List.length_cons] at h ⊢
    apply List.ext_getElem?
    intro i
    rw [getElem?_splice _ _ _ _ (by simp; omega) rfl, getElem?_splice _ _ _ _ (by simp; omega) (by simp)]
    simp only [Array.toList_setIfInBounds, List.getElem?_set]
    by_cases h1 : i < off + k
    · rw [if_pos (by omega), if_pos h1, if_neg (by omega)]
    · rw [if_neg h1]
      by_cases h2 : i = off + k
      · subst h2
        rw [if_pos (by omega), if_pos rfl, if_pos (by simp; omega)]
        simp
      · rw [if_neg (by omega)]
        by_cases h3 : i < off + k + (l.length + 1)
        · rw [if_pos (by omega), if_pos h3]
          rw [show i - (off + k) = (i - (off + (k + 1))) + 1 by omega, List.getElem?_cons_succ]
        · rw [if_neg (by omega), if_neg h3, if_neg (by omega)]

def fillA (pl : Nat → Option (Nat × Nat)) (cells : List Atom) : List (Nat × AV) → Option (List Atom)
  | [] => some cells
  | (i, .o y) :: r =>
    (match pl i with
     | none => none
     | some (off, size) =>
       if sizes y.cells = size then
         (match putC cells off size y.cells with
          | some c => fillA pl c r
          | none => none)
       else none)
  | _ => none

theorem fillA_con {β : Env} (pl : Nat → Option (Nat × Nat)) (ρ : Rho) (ev : Operand → Value) (hρ : ∀ x, (ρ x).con β (ev x)) : ∀ (parts : List (Nat × Operand)) (cells out : List Atom) (cs : Array Value), fillA pl cells (parts.map fun x => (x.1, ρ x.2)) = some out → cons β cells cs.toList →
    ∃ ds, Instr.fill pl cs (parts.map fun x => (x.1, ev x.2)) = some ds ∧ cons β out ds.toList
  | [], cells, out, cs, h, hc => by simp only [List.map_nil, fillA, Option.some.injEq] at h; subst h; exact ⟨cs, rfl, hc⟩
  | (i, x) :: r, cells, out, cs, h, hc => by
    simp only [List.map_cons] at h
    have hx := hρ x
    cases hy : ρ x with
    | u => simp [hy, fillA] at h
    | t l => simp [hy, fillA] at h
    | f fn l => simp [hy, fillA] at h
    | o y =>
      rw [hy] at h hx
      simp only [fillA] at h
      split at h
      · simp at h
      · rename_i off size hpl
        split at h
        · rename_i hsz
          split at h
          · rename_i c hp
            have hyc := V1.con_cells hx
            have hlen : (ev x).cells.toList.length = size := by rw [cons_len hyc]; exact hsz
            have hlen' : (ev x).cells.size = size := by rw [← hlen]; simp
            obtain ⟨ho, hin⟩ := putC_con hp hc hyc hlen
            have hin : off + (ev x).cells.size ≤ cs.size := by rw [hlen']; simpa using hin
            have hfold : ((ev x).cells.zipIdx.foldl (fun cs (c, j) => cs.setIfInBounds (off + j) c) cs).toList = splice cs.toList off size (ev x).cells.toList := by
              have := foldSet off (ev x).cells.toList 0 cs (by simpa using hin)
              rw [← Array.foldl_toList, Array.toList_zipIdx]
              rw [hlen] at this
              exact this
            obtain ⟨ds, hds, hcon⟩ := fillA_con pl ρ ev hρ r c out _ h (by rw [hfold]; exact ho)
            refine ⟨ds, ?_, hcon⟩
            simp only [List.map_cons, Instr.fill, hpl]
            rw [if_neg (by simp [hlen']; omega)]
            exact hds
          · simp at h
        · simp at h

def placesOf (T : Tab) (fs : List Field) : Option (List (Nat × Nat)) := fs.mapM fun f => (T f.type).map fun e => (f.offset, e.size)

section ops
variable (T : Tab) (ρ : Rho) (K : Know) (n : Nat)

def opBuild (t : TypeId) (parts : List (Nat × Operand)) : Option Ox :=
  match T t with
  | some ⟨.array _ el, _, _, z, _⟩ =>
    (match T el with
     | some e => (fillA (fun i => some (i * e.size, e.size)) z (parts.map fun x => (x.1, ρ x.2))).map fun out => ⟨none, .o (.g out), [], false⟩
     | none => none)
  | some ⟨.struct fs, _, _, z, _⟩ =>
    (match placesOf T fs.toList with
     | some pl => (fillA (fun i => pl.toArray[i]?) z (parts.map fun x => (x.1, ρ x.2))).map fun out => ⟨none, .o (.g out), [], false⟩
     | none => none)
  | _ => none
end ops

section sound
variable {P : Program} {T : Tab} {w0 : World} {rw : List Nat} {β : Env} {K : Know} {w : World}

theorem placesOf_ok (hT : TabOk P T) : ∀ {fs : List Field} {pl : List (Nat × Nat)}, placesOf T fs = some pl → fs.mapM (fun f => (P.info? f.type).map fun i => (f.offset, i.size)) = some pl
  | [], pl, h => by simpa [placesOf] using h
  | f :: fs, pl, h => by
    simp only [placesOf, List.mapM_cons, Option.bind_eq_bind, Option.pure_def] at h ⊢
    simp only [Option.bind_eq_some_iff, Option.map_eq_some_iff, Option.some.injEq] at h ⊢
    obtain ⟨p, ⟨e, he, rfl⟩, r, hr, rfl⟩ := h
    obtain ⟨i, z, hi, hs, _⟩ := (hT _ _ he).info
    exact ⟨_, ⟨i, hi, by rw [hs]⟩, r, placesOf_ok hT hr, rfl⟩

theorem opBuild_ok (hT : TabOk P T) {n : Nat} {ρ : Rho} {ev : Operand → Value} (hρ : ∀ x, (ρ x).con β (ev x)) {t : TypeId} {parts : Array (Nat × Operand)} {o : Ox} (h : opBuild T ρ t parts.toList = some o) (hR : RelW w0 rw β K w) :
    Goes P w0 rw β K w n (Instr.build t (parts.map fun (i, x) => (i, ev x))) o := by
  have hparts : (parts.map fun (i, x) => (i, ev x)).toList = parts.toList.map fun x => (x.1, ev x.2) := by simp
  unfold opBuild at h
  split at h
  · rename_i len el _ _ z _ ht
    split at h
    · rename_i e he
      simp only [Option.map_eq_some_iff] at h
      obtain ⟨out, hf, rfl⟩ := h
      obtain ⟨it, zv, hit, _, _, hz, hzc⟩ := (hT _ _ ht).info
      obtain ⟨ie, _, hie, hs, _⟩ := (hT _ _ he).info
      obtain ⟨ds, hds, hcon⟩ := fillA_con _ ρ ev hρ _ _ _ _ hf (hzc β)
      refine Goes.quiet hR (v := .agg ds) (run_build w t _ ds ?_) ⟨ds.toList, by simp, hcon⟩ rfl
      unfold Program.built
      rw [hparts]
      simp only [hit, (hT _ _ ht).und, hz, hie, hs]
      exact hds
    · simp at h
  · rename_i fs _ _ z _ ht
    split at h
    · rename_i pl hpl
      simp only [Option.map_eq_some_iff] at h
      obtain ⟨out, hf, rfl⟩ := h
      obtain ⟨it, zv, hit, _, _, hz, hzc⟩ := (hT _ _ ht).info
      obtain ⟨ds, hds, hcon⟩ := fillA_con _ ρ ev hρ _ _ _ _ hf (hzc β)
      refine Goes.quiet hR (v := .agg ds) (run_build w t _ ds ?_) ⟨ds.toList, by simp, hcon⟩ rfl
      unfold Program.built
      rw [hparts]
      simp only [hit, (hT _ _ ht).und, hz, placesOf_ok hT hpl]
      exact hds
    · simp at h
  · simp at h
end sound

/- rows of equal parts -/
def repA (len : Nat) (z : List Atom) : List Atom :=
  match z with
  | [.i k x] => [.ints k len (List.replicate len x)]
  | [.ints k m l] => if l = List.replicate m 0 then [.ints k (len * m) (List.replicate (len * m) 0)] else [.ints k (len * m) (List.replicate len l).flatten]
  | z => (List.replicate len z).flatten

theorem cons_flatten {β : Env} {z : List Atom} {zs : List Value} (h : cons β z zs) : ∀ len, cons β (List.replicate len z).flatten (List.replicate len zs).flatten
  | 0 => rfl
  | len + 1 => by
    simp only [List.replicate_succ, List.flatten_cons]
    exact cons_append h (cons_flatten h len)

theorem flatten_one {α : Type} (x : α) (len : Nat) : (List.replicate len [x]).flatten = List.replicate len x := by
  induction len with
  | zero => rfl
  | succ n ih => simp [List.replicate_succ, ih]

theorem flatten_rep {α : Type} (x : α) (m len : Nat) : (List.replicate len (List.replicate m x)).flatten = List.replicate (len * m) x := by
  induction len with
  | zero => simp
  | succ n ih => rw [List.replicate_succ, List.flatten_cons, ih, List.replicate_append_replicate]; congr 1; rw [Nat.succ_mul, Nat.add_comm]

theorem repA_con {β : Env} {z : List Atom} {zs : List Value} (h : cons β z zs) (len : Nat) : cons β (repA len z) (List.replicate len zs).flatten := by
  unfold repA
  split
  · rw [cons_single] at h ⊢
    simp only [Atom.con] at h; subst h
    rw [flatten_one]
    exact ⟨by simp, by simp⟩
  · rename_i k m l
    rw [cons_single] at h
    obtain ⟨hl, rfl⟩ := h
    have hm : (List.replicate len (l.map (Value.int k))).flatten = ((List.replicate len l).flatten).map (Value.int k) := by
      rw [List.map_flatten, List.map_replicate]
    have hlen : (List.replicate len l).flatten.length = len * m := by simp [hl]
    split
    · rename_i he
      rw [cons_single, hm, he, flatten_rep]
      exact ⟨by simp, rfl⟩
    · rw [cons_single, hm]
      exact ⟨hlen, rfl⟩
  · exact cons_flatten h len

theorem range_rep (zs : Array Value) (len : Nat) : ((Array.range (len * zs.size)).map (fun i => zs[i % zs.size]!)).toList = (List.replicate len zs.toList).flatten := by
  rw [Array.toList_map, Array.toList_range]
  induction len with
  | zero => simp
  | succ n ih =>
    rw [Nat.succ_mul, List.replicate_succ', List.flatten_append, ← ih, List.range_add, List.map_append]
    congr 1
    simp only [List.map_map, List.flatten_cons, List.flatten_nil, List.append_nil]
    apply List.ext_getElem
    · simp
    · intro i h1 h2
      simp at h1
      have hmod : (n * zs.size + i) % zs.size = i := by rw [Nat.mul_comm, Nat.mul_add_mod]; exact Nat.mod_eq_of_lt h1
      simp [hmod, h1]

section ops2
variable (T : Tab) (K : Know) (n : Nat)

def opBuildSlice (ρ : Rho) (t : TypeId) (len : Nat) (parts : List (Nat × Operand)) : Option Ox :=
  match T t with
  | some ⟨.slice el, _, _, _, _⟩ =>
    (match T el with
     | some e =>
       if len * e.size ≤ 16777216 ∧ e.size ≠ 0 then
         (match fillA (fun i => some (i * e.size, e.size)) (repA len e.zero) (parts.map fun x => (x.1, ρ x.2)) with
          | some out => if nomL n (n + 1) out then some ⟨none, .o (.a (.sl n 0 len len)), [(n, some ⟨true, out⟩)], true⟩ else none
          | none => none)
       else none
     | none => none)
  | _ => none

/-- a row of cells for make: the length may be known in letters only -/
def repS (len : Nat) (e : TE) : Option (List Atom) :=
  match e.zero with
  | [.i k x] => if x = 0 then some [.ints k len (List.replicate len 0)] else none
  | [.ints k m l] => if l = List.replicate m 0 then some [.ints k (len * m) (List.replicate (len * m) 0)] else none
  | [.raw v] => some [.vals len (List.replicate len v)]
  | _ => none

def opMakeSlice (t : TypeId) (l c : AV) : Option Ox :=
  match T t, l, c with
  | some ⟨.slice el, _, _, _, _⟩, .o (.a (.i _ l)), .o (.a (.i _ c)) =>
    (match T el with
     | some e =>
       if e.bytes ≠ 0 ∧ e.size ≠ 0 then
         (match repS c.toNat e with
          | some cells => some ⟨some (0 ≤ l ∧ l ≤ c ∧ c * e.bytes ≤ 281474976710656), .o (.a (.sl n 0 l.toNat c.toNat)), [(n, some ⟨true, cells⟩)], true⟩
          | none => none)
       else none
     | none => none)
  | _, _, _ => none

def intAV : AV → Option Int
  | .o (.a (.i _ x)) => some x
  | _ => none

/-- the bounds of a slice expression: low, high, max as integers (none: left out) -/
def opSlice (t : TypeId) (x : AV) (lo hi mx : Option AV) : Option Ox :=
  let L : Option Int := match lo with | none => some 0 | some a => intAV a
  match T t, x, L with
  | some ⟨.array len el, _, _, _, _⟩, .o (.a (.p j c)), some l =>
    (match T el, mx with
     | some e, none =>
       (match hi with
        | none => some ⟨some (0 ≤ l ∧ l ≤ (len : Int)), .o (.a (.sl j (c + mulz l.toNat e.size) (len - l.toNat) (len - l.toNat))), [], false⟩
        | some h => (match intAV h with
          | some h => some ⟨some (0 ≤ l ∧ l ≤ h ∧ h ≤ (len : Int)), .o (.a (.sl j (c + mulz l.toNat e.size) (h.toNat - l.toNat) (len - l.toNat))), [], false⟩
          | none => none))
     | _, _ => none)
  | some ⟨.slice el, _, _, _, _⟩, .o (.a (.sl j c len cap)), some l =>
    (match T el, hi, mx with
     | some e, none, none => some ⟨some (0 ≤ l ∧ l ≤ (len : Int)), .o (.a (.sl j (c + mulz l.toNat e.size) (len - l.toNat) (cap - l.toNat))), [], false⟩
     | some e, some h, none => (match intAV h with
        | some h => some ⟨some (0 ≤ l ∧ l ≤ h ∧ h ≤ (cap : Int)), .o (.a (.sl j (c + mulz l.toNat e.size) (h.toNat - l.toNat) (cap - l.toNat))), [], false⟩
        | none => none)
     | some e, some h, some m => (match intAV h, intAV m with
        | some h, some m => some ⟨some (0 ≤ l ∧ l ≤ h ∧ h ≤ m ∧ m ≤ (cap : Int)), .o (.a (.sl j (c + mulz l.toNat e.size) (h.toNat - l.toNat) (m.toNat - l.toNat))), [], false⟩
        | _, _ => none)
     | _, _, _ => none)
  | some ⟨.slice el, _, _, _, _⟩, .o (.a (.rs j c len z)), some l =>
    (match T el, hi, mx with
     | some e, none, none => if e.size = z then some ⟨some (0 ≤ l ∧ l ≤ (len : Int)), .o (.a (.rs j (c + mulz l.toNat e.size) (len - l.toNat) z)), [], false⟩ else none
     | some e, some h, none => if e.size = z then (match intAV h with
        | some h => some ⟨some (0 ≤ l ∧ l ≤ h ∧ h ≤ (len : Int)), .o (.a (.rs j (c + mulz l.toNat e.size) (h.toNat - l.toNat) z)), [], false⟩
        | none => none) else none
     | some e, some h, some m => (match intAV h, intAV m with
        | some h, some m => some ⟨some (0 ≤ l ∧ l ≤ h ∧ h ≤ m ∧ m ≤ (len : Int)), .o (.a (.sl j (c + mulz l.toNat e.size) (h.toNat - l.toNat) (m.toNat - l.toNat))), [], false⟩
        | _, _ => none)
     | _, _, _ => none)
  | _, _, _ => none

def opS2A (arr : TypeId) (x : AV) : Option Ox :=
  match T arr, x with
  | some ⟨.array m _, _, _, _, _⟩, .o (.a (.sl j c len _)) => if 0 < m then some ⟨some (m ≤ len), .o (.a (.ps j c)), [], false⟩ else none
  | some ⟨.array m _, _, _, _, _⟩, .o (.a (.rs j c len _)) => if 0 < m then some ⟨some (m ≤ len), .o (.a (.ps j c)), [], false⟩ else none
  | _, _ => none

def opLen (t : TypeId) (x : AV) : Option Ox :=
  match T t, x with
  | some ⟨.slice _, _, _, _, _⟩, .o (.a (.sl _ _ len _)) => some ⟨none, .o (.a (.i .i64 len)), [], false⟩
  | some ⟨.slice _, _, _, _, _⟩, .o (.a (.rs _ _ len _)) => some ⟨none, .o (.a (.i .i64 len)), [], false⟩
  | some ⟨.slice _, _, _, _, _⟩, .o (.a (.raw (.slice none 0 0))) => some ⟨none, .o (.a (.i .i64 0)), [], false⟩
  | some ⟨.array m _, _, _, _, _⟩, _ => some ⟨none, .o (.a (.i .i64 m)), [], false⟩
  | _, _ => none

def opCap (t : TypeId) (x : AV) : Option Ox :=
  match T t, x with
  | some ⟨.slice _, _, _, _, _⟩, .o (.a (.sl _ _ _ cap)) => some ⟨none, .o (.a (.i .i64 cap)), [], false⟩
  | _, _ => none

def opMin (x y : AV) : Option Ox :=
  match x, y with
  | .o (.a (.i k a)), .o (.a (.i _ b)) => some ⟨none, .o (.a (.i k (if b < a then b else a))), [], false⟩
  | _, _ => none
def opMax (x y : AV) : Option Ox :=
  match x, y with
  | .o (.a (.i k a)), .o (.a (.i _ b)) => some ⟨none, .o (.a (.i k (if b > a then b else a))), [], false⟩
  | _, _ => none
end ops2

section sound2
variable {P : Program} {T : Tab} {w0 : World} {rw : List Nat} {β : Env} {K : Know} {w : World}

theorem Goes.made {n : Nat} {s : Sem Value} {cells : List Atom} {cs : List Value} {vc : Option Prop} {val : AV} {ty : TypeId} {v : Value} (hR : RelW w0 rw β K w) (hn : K.at n = none) (hK : K.nom n (n + 1) = true)
    (hc : cons β cells cs) (hcn : nomL n (n + 1) cells = true) (hrun : s.run P w = .ok v { w with heap := w.heap.push (.cells cs.toArray ty) })
    (hv : val.con (β.upd n (some ⟨w.heap.size, 0, cs.length⟩)) v) : Goes P w0 rw β K w n s ⟨vc, val, [(n, some ⟨true, cells⟩)], true⟩ :=
  ⟨_, v, _, hrun, Env.agree_upd _ _ _, hv, RelW.new hR n hn hK hc hcn cs ty (fun _ _ h => h) (Nat.le_refl _)⟩

theorem opBuildSlice_ok (hT : TabOk P T) {n : Nat} {ρ : Rho} {ev : Operand → Value} (hρ : ∀ x, (ρ x).con β (ev x)) {t : TypeId} {len : Nat} {parts : Array (Nat × Operand)} {o : Ox} (h : opBuildSlice T n ρ t len parts.toList = some o)
    (hn : K.at n = none) (hK : K.nom n (n + 1) = true) (hR : RelW w0 rw β K w) : Goes P w0 rw β K w n (Instr.buildSlice t len (parts.map fun (i, x) => (i, ev x))) o := by
  have hparts : (parts.map fun (i, x) => (i, ev x)).toList = parts.toList.map fun x => (x.1, ev x.2) := by simp
  unfold opBuildSlice at h
  split at h
  · rename_i el _ _ _ _ ht
    split at h
    · rename_i e he
      split at h
      · rename_i hsz
        split at h
        · rename_i out hf
          split at h
          · rename_i hnm
            simp only [Option.some.injEq] at h; subst h
            obtain ⟨i, z, hi, hs, hb, hz, hzc⟩ := (hT _ _ he).info
            have hzl : z.cells.size = e.size := by have := cons_len (hzc β); rw [(hT _ _ he).zsz] at this; simpa using this
            have hrep := repA_con (hzc β) len
            obtain ⟨ds, hds, hcon⟩ := fillA_con _ ρ ev hρ parts.toList _ _ ((List.replicate len z.cells.toList).flatten).toArray hf (by simpa using hrep)
            refine Goes.made hR hn hK hcon hnm (v := .slice (some ⟨w.heap.size, 0, none⟩) len len) (ty := el) ?_ ?_
            · have hbase : ∀ zz : Array Value, (len * e.size = 0 ∨ zz = z.cells) → (Array.range (len * e.size)).map (fun i => zz[i % zz.size]!) = ((List.replicate len z.cells.toList).flatten).toArray := by
                intro zz hzz
                apply Array.toList_inj.1
                by_cases h0 : len * e.size = 0
                · rw [h0]
                  have : len = 0 := by rcases Nat.mul_eq_zero.1 h0 with h | h; exact h; exact absurd h hsz.2
                  subst this; simp
                · rw [hzz.resolve_left h0, ← hzl]
                  exact range_rep z.cells len
              unfold Instr.buildSlice
              simp only [Sem.run_bind, run_underlying (hT _ _ ht).und, Result.andThen_ok, run_sizeOf' w hi, hs, Sem.run_ite]
              rw [if_neg (by omega)]
              by_cases h0 : len * e.size = 0
              · simp only [if_pos h0, Sem.run_pure, Result.andThen_ok, hbase #[] (.inl h0), hparts, hds, newRow, Sem.run_bind, run_newObj]
              · simp only [if_neg h0, Sem.run_bind, zeroValue, typeInfo, run_program, hi, hz, Sem.run_pure, Result.andThen_ok, hbase z.cells (.inr rfl), hparts, hds, newRow, run_newObj]
            · refine ⟨_, rfl, Nat.le_refl _, fun _ => ⟨_, by unfold Env.upd; rw [if_pos rfl], by simp⟩⟩
          · simp at h
        · simp at h
      · simp at h
    · simp at h
  · simp at h

theorem repS_con {e : TE} {zs : List Value} {len : Nat} {cells : List Atom} (h : repS len e = some cells) (hz : cons β e.zero zs) : cons β cells (List.replicate len zs).flatten ∧ (∀ lo hi, nomL lo hi cells = true) := by
  unfold repS at h
  split at h
  · rename_i k x hze
    split at h
    · rename_i hx; subst hx
      simp only [Option.some.injEq] at h; subst h
      rw [hze, cons_single] at hz
      simp only [Atom.con] at hz; subst hz
      rw [flatten_one, cons_single]
      exact ⟨⟨by simp, by simp⟩, fun _ _ => rfl⟩
    · simp at h
  · rename_i k m l hze
    split at h
    · rename_i hl
      simp only [Option.some.injEq] at h; subst h
      rw [hze, cons_single] at hz
      obtain ⟨hlen, rfl⟩ := hz
      rw [hl, List.map_replicate, flatten_rep, cons_single]
      exact ⟨⟨by simp, by simp⟩, fun _ _ => rfl⟩
    · simp at h
  · rename_i v hze
    simp only [Option.some.injEq] at h; subst h
    rw [hze, cons_single] at hz
    obtain ⟨rfl, h1⟩ := hz
    rw [flatten_one, cons_single]
    exact ⟨⟨by simp, rfl, fun v hv => by rw [(List.mem_replicate.1 hv).2]; exact h1⟩, fun _ _ => rfl⟩
  · simp at h

theorem wrap64_id {x : Int} (h0 : 0 ≤ x) (h1 : x ≤ 281474976710656) : IntKind.i64.wrap x = x := by
  have e : x % (18446744073709551616 : Int) = x := Int.emod_eq_of_lt h0 (by omega)
  show (let m := x % (18446744073709551616 : Int); if (true && decide (m ≥ (9223372036854775808 : Int))) = true then m - 18446744073709551616 else m) = x
  simp only [e]
  rw [if_neg]
  simp only [Bool.true_and, decide_eq_true_eq]; omega

theorem opMakeSlice_ok (hT : TabOk P T) {n : Nat} {t : TypeId} {x y : AV} {o : Ox} {u v : Value} (h : opMakeSlice T n t x y = some o) (hvc : okP o.vc) (hx : x.con β u) (hy : y.con β v)
    (hn : K.at n = none) (hK : K.nom n (n + 1) = true) (hR : RelW w0 rw β K w) : Goes P w0 rw β K w n (Instr.makeSlice t u v) o := by
  unfold opMakeSlice at h
  split at h
  · rename_i el _ _ _ _ k l k' c ht
    split at h
    · rename_i e he
      split at h
      · rename_i hsz
        split at h
        · rename_i cells hcells
          simp only [Option.some.injEq] at h; subst h
          simp only [AV.con, V1.con, Atom.con, List.cons.injEq, and_true] at hx hy; subst hx; subst hy
          have hvc : 0 ≤ l ∧ l ≤ c ∧ c * e.bytes ≤ 281474976710656 := hvc
          obtain ⟨h0, h1, h2⟩ := hvc
          obtain ⟨i, z, hi, hs, hb, hz, hzc⟩ := (hT _ _ he).info
          have hzl : z.cells.size = e.size := by have := cons_len (hzc β); rw [(hT _ _ he).zsz] at this; simpa using this
          obtain ⟨hcon, hnm⟩ := repS_con hcells (hzc β)
          have hcb : c ≤ 281474976710656 := by
            have : c * 1 ≤ c * e.bytes := Int.mul_le_mul_of_nonneg_left (by omega) (by omega)
            omega
          refine Goes.made hR hn hK hcon (hnm _ _) (v := .slice (some ⟨w.heap.size, 0, none⟩) l.toNat c.toNat) (ty := el) ?_ ?_
          · have hbase : ∀ zz : Array Value, (c.toNat * e.size = 0 ∨ zz = z.cells) → (Array.range (c.toNat * e.size)).map (fun i => zz[i % zz.size]!) = ((List.replicate c.toNat z.cells.toList).flatten).toArray := by
              intro zz hzz
              apply Array.toList_inj.1
              by_cases h0 : c.toNat * e.size = 0
              · rw [h0]
                have : c.toNat = 0 := by rcases Nat.mul_eq_zero.1 h0 with h | h; exact h; exact absurd h hsz.2
                rw [this]; simp
              · rw [hzz.resolve_left h0, ← hzl]
                exact range_rep z.cells _
            have hcb2 : (e.bytes : Int) * c = c * e.bytes := Int.mul_comm _ _
            unfold Instr.makeSlice
            simp only [Sem.run_bind, run_underlying (hT _ _ ht).und, Result.andThen_ok, asInt, asIntOf, Sem.run_pure, typeInfo, run_program, hi, hb, wrap64_id (show 0 ≤ l by omega) (by omega), wrap64_id (show 0 ≤ c by omega) hcb, Sem.run_ite]
            rw [if_neg (by simp; omega)]
            simp only [Sem.run_pure, Result.andThen_ok, run_askRoom, sizeOf, Sem.run_bind, typeInfo, run_program, hi, hs]
            by_cases h0 : c.toNat * e.size = 0
            · simp only [if_pos h0, Sem.run_pure, Result.andThen_ok, hbase #[] (.inl h0), newRow, Sem.run_bind, run_newObj]
            · simp only [if_neg h0, Sem.run_bind, zeroValue, typeInfo, run_program, hi, hz, Sem.run_pure, Result.andThen_ok, hbase z.cells (.inr rfl), newRow, run_newObj]
          · refine ⟨_, rfl, by omega, fun _ => ⟨_, by unfold Env.upd; rw [if_pos rfl], by simp⟩⟩
        · simp at h
      · simp at h
    · simp at h
  · simp at h

theorem opLen_ok (hT : TabOk P T) {n : Nat} {t tt : TypeId} {ats : Array TypeId} (ha : ats[0]? = some t) {x : AV} {o : Ox} {v : Value} (h : opLen T t x = some o) (hx : x.con β v) (hR : RelW w0 rw β K w) :
    Goes P w0 rw β K w n (Builtin.len_ ats tt #[v]) o := by
  unfold opLen at h
  split at h
  · rename_i el _ _ _ _ j c len cap ht
    simp only [Option.some.injEq] at h; subst h
    obtain ⟨base, hv, _⟩ := hx
    simp only [List.cons.injEq, and_true] at hv; subst hv
    refine Goes.quiet hR (v := .int .i64 len) ?_ rfl rfl
    simp [Builtin.len_, ha, run_underlying (hT _ _ ht).und, goInt]
  · rename_i el _ _ _ _ j c len cap ht
    simp only [Option.some.injEq] at h; subst h
    obtain ⟨base, cap, hv, _⟩ := hx
    simp only [List.cons.injEq, and_true] at hv; subst hv
    refine Goes.quiet hR (v := .int .i64 len) ?_ rfl rfl
    simp [Builtin.len_, ha, run_underlying (hT _ _ ht).und, goInt]
  · rename_i el _ _ _ _ ht
    simp only [Option.some.injEq] at h; subst h
    obtain ⟨hv, _⟩ := hx
    simp only [List.cons.injEq, and_true] at hv; subst hv
    refine Goes.quiet hR (v := .int .i64 0) ?_ rfl rfl
    simp [Builtin.len_, ha, run_underlying (hT _ _ ht).und, goInt]
  · rename_i m el _ _ _ _ ht
    simp only [Option.some.injEq] at h; subst h
    refine Goes.quiet hR (v := .int .i64 m) ?_ rfl rfl
    simp [Builtin.len_, ha, run_underlying (hT _ _ ht).und, goInt]
  · simp at h

theorem opCap_ok (hT : TabOk P T) {n : Nat} {t tt : TypeId} {ats : Array TypeId} (ha : ats[0]? = some t) {x : AV} {o : Ox} {v : Value} (h : opCap T t x = some o) (hx : x.con β v) (hR : RelW w0 rw β K w) :
    Goes P w0 rw β K w n (Builtin.cap_ ats tt #[v]) o := by
  unfold opCap at h
  split at h
  · rename_i el _ _ _ _ j c len cap ht
    simp only [Option.some.injEq] at h; subst h
    obtain ⟨base, hv, _⟩ := hx
    simp only [List.cons.injEq, and_true] at hv; subst hv
    refine Goes.quiet hR (v := .int .i64 cap) ?_ rfl rfl
    simp [Builtin.cap_, ha, run_underlying (hT _ _ ht).und, goInt]
  · simp at h

theorem opMin_ok {n : Nat} {tt : TypeId} {ats : Array TypeId} {x y : AV} {o : Ox} {u v : Value} (h : opMin x y = some o) (hx : x.con β u) (hy : y.con β v) (hR : RelW w0 rw β K w) :
    Goes P w0 rw β K w n (Builtin.min_ ats tt #[u, v]) o := by
  unfold opMin at h
  split at h
  · simp only [Option.some.injEq] at h; subst h
    simp only [AV.con, V1.con, Atom.con, List.cons.injEq, and_true] at hx hy; subst hx; subst hy
    exact Goes.quiet hR (v := .int _ _) rfl rfl rfl
  · simp at h

theorem opMax_ok {n : Nat} {tt : TypeId} {ats : Array TypeId} {x y : AV} {o : Ox} {u v : Value} (h : opMax x y = some o) (hx : x.con β u) (hy : y.con β v) (hR : RelW w0 rw β K w) :
    Goes P w0 rw β K w n (Builtin.max_ ats tt #[u, v]) o := by
  unfold opMax at h
  split at h
  · simp only [Option.some.injEq] at h; subst h
    simp only [AV.con, V1.con, Atom.con, List.cons.injEq, and_true] at hx hy; subst hx; subst hy
    exact Goes.quiet hR (v := .int _ _) rfl rfl rfl
  · simp at h
end sound2
end Go.Proofs.Ytcpoldghkiiggaa.X

