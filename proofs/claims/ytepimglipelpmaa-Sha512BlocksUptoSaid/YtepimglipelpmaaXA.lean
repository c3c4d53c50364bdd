/- The words of an abstract memory for walking Go code by evaluation: values, blocks, and what it means that a world holds them. -/
import Derived.Calls
import Derived.Orders
import Derived.Tactics
import Derived.Laws.Sem
import Derived.Laws.Cells
import Derived.Laws.CopyRow
import Derived.Laws.Tables
import Derived.Laws.Rows
import Derived.KernelRfl
namespace Go.Proofs.Ytepimglipelpmaa.X
open Go

structure Ref where
  blk : Nat
  off : Nat
  size : Nat

inductive Atom where
  | unk
  | i (k : IntKind) (n : Int)
  | b (x : Bool)
  | p (j c : Nat)
  | ps (j c : Nat)
  | sl (j c len cap : Nat)
  | rs (j c len z : Nat)
  | raw (v : Value)
  | ints (k : IntKind) (n : Nat) (l : List Int)
  | vals (n : Nat) (l : List Value)

def Atom.size : Atom → Nat
  | .ints _ n _ => n
  | .vals n _ => n
  | _ => 1

abbrev Env := Nat → Option Ref

def Atom.con (β : Env) : Atom → List Value → Prop
  | .unk, cs => ∃ v, cs = [v] ∧ v.oneCell' = true
  | .i k n, cs => cs = [.int k n]
  | .b x, cs => cs = [.bool x]
  | .p j c, cs => ∃ r, β j = some r ∧ cs = [.pointer (some ⟨r.blk, r.off + c, none⟩)]
  | .ps j c, cs => ∃ r, β j = some r ∧ cs = [.pointer (some ⟨r.blk, r.off + c, none⟩)]
  | .sl j c len cap, cs => ∃ base, cs = [.slice base len cap] ∧ len ≤ cap ∧ (0 < cap → ∃ r, β j = some r ∧ base = some ⟨r.blk, r.off + c, none⟩)
  | .rs j c len z, cs => ∃ base cap, cs = [.slice base len cap] ∧ len ≤ cap ∧ (0 < cap → ∃ r, β j = some r ∧ base = some ⟨r.blk, r.off + c, none⟩ ∧ r.off + c + cap * z ≤ r.size)
  | .raw v, cs => cs = [v] ∧ v.oneCell' = true
  | .ints k n l, cs => l.length = n ∧ cs = l.map (Value.int k)
  | .vals n l, cs => l.length = n ∧ cs = l ∧ ∀ v ∈ l, v.oneCell' = true

def cons (β : Env) : List Atom → List Value → Prop
  | [], cs => cs = []
  | a :: r, cs => ∃ x y, cs = x ++ y ∧ a.con β x ∧ cons β r y

theorem Atom.con_len {β : Env} {a : Atom} {cs : List Value} (h : a.con β cs) : cs.length = a.size := by
  cases a <;> simp only [Atom.con, Atom.size] at h ⊢
  case unk => obtain ⟨v, rfl, _⟩ := h; rfl
  case i => subst h; rfl
  case b => subst h; rfl
  case p => obtain ⟨r, _, rfl⟩ := h; rfl
  case ps => obtain ⟨r, _, rfl⟩ := h; rfl
  case sl => obtain ⟨r, rfl, _⟩ := h; rfl
  case rs => obtain ⟨r, c, rfl, _⟩ := h; rfl
  case raw => obtain ⟨rfl, _⟩ := h; rfl
  case ints => obtain ⟨h1, rfl⟩ := h; simpa using h1
  case vals => obtain ⟨h1, rfl, _⟩ := h; exact h1

theorem Atom.con_one {β : Env} {a : Atom} {cs : List Value} (h : a.con β cs) : ∀ v ∈ cs, v.oneCell' = true := by
  cases a <;> simp only [Atom.con] at h
  case unk => obtain ⟨v, rfl, h⟩ := h; simpa using h
  case i => subst h; simp [Value.oneCell']
  case b => subst h; simp [Value.oneCell']
  case p => obtain ⟨r, _, rfl⟩ := h; simp [Value.oneCell']
  case ps => obtain ⟨r, _, rfl⟩ := h; simp [Value.oneCell']
  case sl => obtain ⟨r, rfl, _⟩ := h; simp [Value.oneCell']
  case rs => obtain ⟨r, c, rfl, _⟩ := h; simp [Value.oneCell']
  case raw => obtain ⟨rfl, h⟩ := h; simpa using h
  case ints => obtain ⟨h1, rfl⟩ := h; intro v hv; simp at hv; obtain ⟨x, _, rfl⟩ := hv; rfl
  case vals => obtain ⟨h1, rfl, h⟩ := h; exact h

def sizes (l : List Atom) : Nat := (l.map Atom.size).sum

theorem cons_len {β : Env} : ∀ {l : List Atom} {cs : List Value}, cons β l cs → cs.length = sizes l
  | [], cs, h => by simp [cons] at h; simp [h, sizes]
  | a :: r, cs, h => by
    obtain ⟨x, y, rfl, ha, hr⟩ := h
    have := cons_len hr
    have := (Atom.con_len ha)
    simp [sizes] at *; omega

theorem cons_one {β : Env} : ∀ {l : List Atom} {cs : List Value}, cons β l cs → ∀ v ∈ cs, v.oneCell' = true
  | [], cs, h => by simp [cons] at h; simp [h]
  | a :: r, cs, h => by
    obtain ⟨x, y, rfl, ha, hr⟩ := h
    intro v hv
    rcases List.mem_append.1 hv with h | h
    · exact Atom.con_one ha v h
    · exact cons_one hr v h

theorem cons_append {β : Env} : ∀ {l m : List Atom} {cs ds : List Value}, cons β l cs → cons β m ds → cons β (l ++ m) (cs ++ ds)
  | [], m, cs, ds, h, h' => by simp [cons] at h; subst h; simpa using h'
  | a :: r, m, cs, ds, h, h' => by
    obtain ⟨x, y, rfl, ha, hr⟩ := h
    exact ⟨x, y ++ ds, by simp, ha, cons_append hr h'⟩

theorem cons_single {β : Env} {a : Atom} {cs : List Value} : cons β [a] cs ↔ a.con β cs := by
  constructor
  · rintro ⟨x, y, rfl, h, hy⟩; simp [cons] at hy; subst hy; simpa using h
  · intro h; exact ⟨cs, [], by simp, h, rfl⟩

/- ranges -/
def sub {α : Type} (l : List α) (c m : Nat) : List α := (l.drop c).take m
def splice {α : Type} (l : List α) (c m : Nat) (ys : List α) : List α := l.take c ++ ys ++ l.drop (c + m)

theorem sub_len {α : Type} (l : List α) (c m : Nat) (h : c + m ≤ l.length) : (sub l c m).length = m := by
  simp [sub]; omega
theorem splice_len {α : Type} (l : List α) (c m : Nat) (ys : List α) (h : c + m ≤ l.length) (hy : ys.length = m) : (splice l c m ys).length = l.length := by
  simp [splice]; omega
theorem sub_map {α γ : Type} (f : α → γ) (l : List α) (c m : Nat) : (sub l c m).map f = sub (l.map f) c m := by
  simp [sub, List.map_take, List.map_drop]
theorem splice_map {α γ : Type} (f : α → γ) (l : List α) (c m : Nat) (ys : List α) : (splice l c m ys).map f = splice (l.map f) c m (ys.map f) := by
  simp [splice, List.map_take, List.map_drop]

/-- the first m cells, from offset c inside the head on -/
def takeC : List Atom → Nat → Nat → Option (List Atom)
  | _, _, 0 => some []
  | [], _, _ + 1 => none
  | a :: r, c, m + 1 =>
    if a.size ≤ c then takeC r (c - a.size) (m + 1) else
    if c = 0 ∧ a.size ≤ m + 1 then (takeC r 0 (m + 1 - a.size)).map (a :: ·) else
    match a with
    | .ints k n l => let t := min (n - c) (m + 1); (takeC r 0 (m + 1 - t)).map (.ints k t (sub l c t) :: ·)
    | .vals n l => let t := min (n - c) (m + 1); (takeC r 0 (m + 1 - t)).map (.vals t (sub l c t) :: ·)
    | _ => none

theorem sub_append_right {α : Type} (x y : List α) (c m : Nat) (h : x.length ≤ c) : sub (x ++ y) c m = sub y (c - x.length) m := by
  simp [sub, List.drop_append, List.drop_of_length_le h]
theorem sub_append_left {α : Type} (x y : List α) (m : Nat) (h : x.length ≤ m) : sub (x ++ y) 0 m = x ++ sub y 0 (m - x.length) := by
  simp [sub, List.take_append, List.take_of_length_le h]
theorem sub_append_mid {α : Type} (x y : List α) (c m : Nat) (h : c ≤ x.length) : sub (x ++ y) c m = sub x c (min (x.length - c) m) ++ sub y 0 (m - min (x.length - c) m) := by
  simp only [sub, List.drop_append_of_le_length h, List.take_append, List.length_drop, List.drop_zero]
  congr 1
  · by_cases h2 : x.length - c ≤ m
    · rw [Nat.min_eq_left h2, List.take_of_length_le (by simp; omega), List.take_of_length_le (by simp)]
    · rw [Nat.min_eq_right (by omega)]
  · congr 1; omega

theorem takeC_con {β : Env} : ∀ {l : List Atom} {c m : Nat} {out : List Atom} {cs : List Value}, takeC l c m = some out → cons β l cs → cons β out (sub cs c m) ∧ (0 < m → c + m ≤ cs.length)
  | l, c, 0, out, cs, h, hc => by
    cases l <;> simp [takeC] at h <;> subst h <;> simp [cons, sub]
  | [], c, m + 1, out, cs, h, hc => by simp [takeC] at h
  | a :: r, c, m + 1, out, cs, h, hc => by
    obtain ⟨x, y, rfl, ha, hr⟩ := hc
    have hx := (Atom.con_len ha)
    unfold takeC at h
    split at h
    · rename_i hle
      have ih := takeC_con h hr
      rw [sub_append_right _ _ _ _ (by omega), hx]
      exact ⟨ih.1, fun hm => by have := ih.2 hm; simp; omega⟩
    · rename_i hle
      split at h
      · rename_i hz
        obtain ⟨rfl, hz⟩ := hz
        simp only [Option.map_eq_some_iff] at h
        obtain ⟨out', h', rfl⟩ := h
        have ih := takeC_con h' hr
        rw [sub_append_left _ _ _ (by omega)]
        refine ⟨⟨x, _, rfl, ha, by rw [hx]; exact ih.1⟩, fun _ => ?_⟩
        by_cases hmm : 0 < m + 1 - a.size
        · have := ih.2 hmm; simp; omega
        · simp; omega
      · cases a with
        | ints k n l =>
          simp only [Option.map_eq_some_iff] at h
          obtain ⟨out', h', rfl⟩ := h
          have ih := takeC_con h' hr
          simp only [Atom.size] at *
          obtain ⟨hl, rfl⟩ := ha
          rw [sub_append_mid _ _ _ _ (by omega), hx]
          refine ⟨⟨_, _, rfl, ⟨sub_len _ _ _ (by omega), by rw [sub_map]⟩, ih.1⟩, fun _ => ?_⟩
          by_cases hmm : 0 < m + 1 - min (n - c) (m + 1)
          · have := ih.2 hmm; simp at *; omega
          · simp at *; omega
        | vals n l =>
          simp only [Option.map_eq_some_iff] at h
          obtain ⟨out', h', rfl⟩ := h
          have ih := takeC_con h' hr
          simp only [Atom.size] at *
          obtain ⟨hl, rfl, h1⟩ := ha
          rw [sub_append_mid _ _ _ _ (by omega), hx]
          refine ⟨⟨_, _, rfl, ⟨sub_len _ _ _ (by omega), rfl, fun v hv => h1 v (List.mem_of_mem_drop (List.mem_of_mem_take hv))⟩, ih.1⟩, fun _ => ?_⟩
          by_cases hmm : 0 < m + 1 - min (n - c) (m + 1)
          · have := ih.2 hmm; simp at *; omega
          · simp at *; omega
        | _ => simp at h

/-- the cells behind the first m -/
def dropC : List Atom → Nat → Option (List Atom)
  | l, 0 => some l
  | [], _ + 1 => none
  | a :: r, m + 1 =>
    if a.size ≤ m + 1 then dropC r (m + 1 - a.size) else
    match a with
    | .ints k n l => some (.ints k (n - (m + 1)) (l.drop (m + 1)) :: r)
    | .vals n l => some (.vals (n - (m + 1)) (l.drop (m + 1)) :: r)
    | _ => none

theorem dropC_con {β : Env} : ∀ {l : List Atom} {m : Nat} {out : List Atom} {cs : List Value}, dropC l m = some out → cons β l cs → cons β out (cs.drop m) ∧ m ≤ cs.length
  | l, 0, out, cs, h, hc => by simp [dropC] at h; subst h; simpa using hc
  | [], m + 1, out, cs, h, hc => by simp [dropC] at h
  | a :: r, m + 1, out, cs, h, hc => by
    obtain ⟨x, y, rfl, ha, hr⟩ := hc
    have hx := (Atom.con_len ha)
    unfold dropC at h
    split at h
    · rename_i hle
      have ih := dropC_con h hr
      rw [List.drop_append, List.drop_of_length_le (by omega), hx]
      exact ⟨by simpa using ih.1, by simp; omega⟩
    · rename_i hle
      cases a with
      | ints k n l =>
        simp only [Option.some.injEq] at h; subst h
        simp only [Atom.size] at *
        obtain ⟨hl, rfl⟩ := ha
        rw [List.drop_append_of_le_length (by omega)]
        exact ⟨⟨_, _, rfl, ⟨by simp; omega, by simp [List.map_drop]⟩, hr⟩, by simp; omega⟩
      | vals n l =>
        simp only [Option.some.injEq] at h; subst h
        simp only [Atom.size] at *
        obtain ⟨hl, rfl, h1⟩ := ha
        rw [List.drop_append_of_le_length (by omega)]
        exact ⟨⟨_, _, rfl, ⟨by simp; omega, rfl, fun v hv => h1 v (List.mem_of_mem_drop hv)⟩, hr⟩, by simp; omega⟩
      | _ => simp at h

/-- int-like: one atom whose cells are all integers of one kind -/
def asInts : List Atom → Option (IntKind × List Int)
  | [.i k n] => some (k, [n])
  | [.ints k _ l] => some (k, l)
  | _ => none

theorem asInts_con {β : Env} {l : List Atom} {k : IntKind} {xs : List Int} {cs : List Value} (h : asInts l = some (k, xs)) (hc : cons β l cs) : cs = xs.map (Value.int k) := by
  unfold asInts at h
  split at h
  · simp only [Option.some.injEq, Prod.mk.injEq] at h; obtain ⟨rfl, rfl⟩ := h
    rw [cons_single] at hc; simpa [Atom.con] using hc
  · simp only [Option.some.injEq, Prod.mk.injEq] at h; obtain ⟨rfl, rfl⟩ := h
    rw [cons_single] at hc; exact hc.2
  · simp at h

/-- the cells from c on turned into new (m cells) -/
def putC : List Atom → Nat → Nat → List Atom → Option (List Atom)
  | [], c, m, new => if c = 0 ∧ m = 0 then some new else none
  | a :: r, c, m, new =>
    if a.size ≤ c then (putC r (c - a.size) m new).map (a :: ·) else
    match a, asInts new with
    | .ints k n l, some (k', ys) =>
      if k = k' ∧ c + m ≤ n then
        (match new with
         | [.i _ v] => some (.ints k n (l.set c v) :: r)
         | _ => if c = 0 ∧ m = n then some (.ints k n ys :: r) else some (.ints k n (splice l c m ys) :: r))
      else if c = 0 then (dropC (a :: r) m).map (new ++ ·) else none
    | _, _ => if c = 0 then (dropC (a :: r) m).map (new ++ ·) else none

theorem splice_append_right {α : Type} (x y ys : List α) (c m : Nat) (h : x.length ≤ c) : splice (x ++ y) c m ys = x ++ splice y (c - x.length) m ys := by
  have e : c + m - x.length = c - x.length + m := by omega
  simp [splice, List.take_append, List.drop_append, List.take_of_length_le h, List.drop_of_length_le (show x.length ≤ c + m by omega), e]
theorem splice_append_left {α : Type} (x y ys : List α) (c m : Nat) (h : c + m ≤ x.length) : splice (x ++ y) c m ys = splice x c m ys ++ y := by
  simp [splice, List.take_append_of_le_length (show c ≤ x.length by omega), List.drop_append_of_le_length h]
theorem splice_zero {α : Type} (x ys : List α) (m : Nat) : splice x 0 m ys = ys ++ x.drop m := by simp [splice]
theorem splice_one {α : Type} (l : List α) (c : Nat) (v : α) (h : c < l.length) : splice l c 1 [v] = l.set c v := by
  simp [splice, List.set_eq_take_append_cons_drop, h]
theorem splice_all {α : Type} {m : Nat} (l ys : List α) (h : l.length = m) : splice l 0 m ys = ys := by
  simp [splice, List.drop_of_length_le (show l.length ≤ m by omega)]

theorem putC_con {β : Env} : ∀ {l : List Atom} {c m : Nat} {new out : List Atom} {cs ds : List Value}, putC l c m new = some out → cons β l cs → cons β new ds → ds.length = m →
    cons β out (splice cs c m ds) ∧ c + m ≤ cs.length
  | [], c, m, new, out, cs, ds, h, hc, hn, hm => by
    simp only [putC] at h
    split at h
    · rename_i hz; obtain ⟨rfl, rfl⟩ := hz
      simp only [Option.some.injEq] at h; subst h
      simp only [cons] at hc; subst hc
      exact ⟨by simpa [splice] using hn, by simp⟩
    · simp at h
  | a :: r, c, m, new, out, cs, ds, h, hc, hn, hm => by
    have hc0 := hc
    obtain ⟨x, y, rfl, ha, hr⟩ := hc
    have hx := (Atom.con_len ha)
    unfold putC at h
    split at h
    · rename_i hle
      simp only [Option.map_eq_some_iff] at h
      obtain ⟨out', h', rfl⟩ := h
      have ih := putC_con h' hr hn hm
      rw [splice_append_right _ _ _ _ _ (by omega), hx]
      exact ⟨⟨x, _, rfl, ha, ih.1⟩, by simp; omega⟩
    · rename_i hle
      have gen : ∀ out, (if c = 0 then (dropC (a :: r) m).map (new ++ ·) else none) = some out → cons β out (splice (x ++ y) c m ds) ∧ c + m ≤ (x ++ y).length := by
        intro out2 h2
        split at h2
        · rename_i hz; subst hz
          simp only [Option.map_eq_some_iff] at h2
          obtain ⟨o, ho, rfl⟩ := h2
          have hd := dropC_con ho hc0
          rw [splice_zero]
          exact ⟨cons_append hn hd.1, by simpa using hd.2⟩
        · simp at h2
      split at h
      · rename_i k n l k' ys hai
        split at h
        · rename_i hk; obtain ⟨rfl, hk⟩ := hk
          have hds := asInts_con hai hn
          obtain ⟨hl, rfl⟩ := ha
          have hlen : c + m ≤ (l.map (Value.int k)).length := by simp; omega
          rw [splice_append_left _ _ _ _ _ hlen]
          have hys : ys.length = m := by rw [hds] at hm; simpa using hm
          refine ⟨?_, by simp; omega⟩
          split at h
          · rename_i k2 v
            simp only [asInts, Option.some.injEq, Prod.mk.injEq] at hai
            obtain ⟨rfl, rfl⟩ := hai
            simp only [Option.some.injEq] at h; subst h
            simp only [List.length_cons, List.length_nil] at hys
            subst hys
            exact ⟨_, _, rfl, ⟨by simpa using hl, by rw [hds, List.map_cons, List.map_nil, splice_one _ _ _ (by omega), List.map_set]⟩, hr⟩
          · split at h
            · rename_i hz; obtain ⟨rfl, rfl⟩ := hz
              simp only [Option.some.injEq] at h; subst h
              exact ⟨_, _, rfl, ⟨hys, by rw [splice_all _ _ (by simpa using hl), hds]⟩, hr⟩
            · simp only [Option.some.injEq] at h; subst h
              exact ⟨_, _, rfl, ⟨by rw [splice_len _ _ _ _ (by omega) hys]; exact hl, by rw [splice_map, hds]⟩, hr⟩
        · exact gen _ h
      · exact gen _ h
end Go.Proofs.Ytepimglipelpmaa.X
