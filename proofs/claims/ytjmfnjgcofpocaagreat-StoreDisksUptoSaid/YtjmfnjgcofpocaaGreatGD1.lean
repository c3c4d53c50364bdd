/- Texts of this session, put together (part 1), less what nothing uses. -/
import Derived.Calls
import Derived.Orders
import Derived.Tactics
import Derived.Laws.Sem
import Derived.Laws.Cells
import Derived.Laws.CopyRow
import Derived.Laws.Tables
import Derived.Laws.Rows
import Derived.KernelRfl
import Derived.ChangeKeysEq
import Derived.Laws.StructEq
import Derived.Laws.Small
import Derived.Laws.Pointers
import Derived.Laws.AppendOwn
/- The core, part 1 of 5: blocks of memory known by number, and an evaluator over loaded code, shown sound. -/
/- The words of an abstract memory for walking Go code by evaluation: values, blocks, and what it means that a world holds them. -/
namespace Go.Proofs.YtjmfnjgcofpocaaGreat.X
open Go

structure Ref where
 blk : Nat
 off : Nat
 size : Nat

inductive Atom where
 | unk
 | i (k : IntKind) (n : Int)
 | b (x : Bool)
 | p (j c : Nat)
 | ps (j c : Nat)
 | ip (t : TypeId) (j c : Nat)
 | sl (j c len cap : Nat)
 | rs (j c len z : Nat)
 | raw (v : Value)
 | ints (k : IntKind) (n : Nat) (l : List Int)
 | vals (n : Nat) (l : List Value)
 | mv (j : Nat)
 | mp (n : Nat) (l : List (List Int × Int))

def Atom.size : Atom → Nat
 | .ints _ n _ => n
 | .vals n _ => n
 | .mp _ _ => 0
 | _ => 1

abbrev Env := Nat → Option Ref

def Atom.con (β : Env) : Atom → List Value → Prop
 | .unk, cs => ∃ v, cs = [v] ∧ v.oneCell' = true
 | .i k n, cs => cs = [.int k n]
 | .b x, cs => cs = [.bool x]
 | .p j c, cs => ∃ r, β j = some r ∧ cs = [.pointer (some ⟨r.blk, r.off + c, none⟩)]
 | .ps j c, cs => ∃ r, β j = some r ∧ cs = [.pointer (some ⟨r.blk, r.off + c, none⟩)]
 | .ip t j c, cs => ∃ r, β j = some r ∧ cs = [.iface t (.pointer (some ⟨r.blk, r.off + c, none⟩))]
 | .sl j c len cap, cs => ∃ base, cs = [.slice base len cap] ∧ len ≤ cap ∧ (0 < cap → ∃ r, β j = some r ∧ base = some ⟨r.blk, r.off + c, none⟩)
 | .rs j c len z, cs => ∃ base cap, cs = [.slice base len cap] ∧ len ≤ cap ∧ (0 < cap → ∃ r, β j = some r ∧ base = some ⟨r.blk, r.off + c, none⟩ ∧ r.off + c + cap * z ≤ r.size)
 | .raw v, cs => cs = [v] ∧ v.oneCell' = true
 | .ints k n l, cs => l.length = n ∧ cs = l.map (Value.int k)
 | .vals n l, cs => l.length = n ∧ cs = l ∧ ∀ v ∈ l, v.oneCell' = true
 | .mv j, cs => ∃ r, β j = some r ∧ r.off = 1 ∧ r.size = 0 ∧ cs = [.map (some r.blk)]
 | .mp _ _, cs => cs = []

def cons (β : Env) : List Atom → List Value → Prop
 | [], cs => cs = []
 | a :: r, cs => ∃ x y, cs = x ++ y ∧ a.con β x ∧ cons β r y

theorem Atom.con_len {β : Env} {a : Atom} {cs : List Value} (h : a.con β cs) : cs.length = a.size := by
 cases a <;> simp only [Atom.con, Atom.size] at h ⊢
 case unk => obtain ⟨v, rfl, _⟩ := h; rfl
 case i => subst h; rfl
 case b => subst h; rfl
 case p => obtain ⟨r, _, rfl⟩ := h; rfl
 case ps => obtain ⟨r, _, rfl⟩ := h; rfl
 case ip => obtain ⟨r, _, rfl⟩ := h; rfl
 case sl => obtain ⟨r, rfl, _⟩ := h; rfl
 case rs => obtain ⟨r, c, rfl, _⟩ := h; rfl
 case raw => obtain ⟨rfl, _⟩ := h; rfl
 case ints => obtain ⟨h1, rfl⟩ := h; simpa using h1
 case vals => obtain ⟨h1, rfl, _⟩ := h; exact h1
 case mv => obtain ⟨r, _, _, _, rfl⟩ := h; rfl
 case mp => subst h; rfl

theorem Atom.con_one {β : Env} {a : Atom} {cs : List Value} (h : a.con β cs) : ∀ v ∈ cs, v.oneCell' = true := by
 cases a <;> simp only [Atom.con] at h
 case unk => obtain ⟨v, rfl, h⟩ := h; simpa using h
 case i => subst h; simp [Value.oneCell']
 case b => subst h; simp [Value.oneCell']
 case p => obtain ⟨r, _, rfl⟩ := h; simp [Value.oneCell']
 case ps => obtain ⟨r, _, rfl⟩ := h; simp [Value.oneCell']
 case ip => obtain ⟨r, _, rfl⟩ := h; simp [Value.oneCell']
 case sl => obtain ⟨r, rfl, _⟩ := h; simp [Value.oneCell']
 case rs => obtain ⟨r, c, rfl, _⟩ := h; simp [Value.oneCell']
 case raw => obtain ⟨rfl, h⟩ := h; simpa using h
 case ints => obtain ⟨h1, rfl⟩ := h; intro v hv; simp at hv; obtain ⟨x, _, rfl⟩ := hv; rfl
 case vals => obtain ⟨h1, rfl, h⟩ := h; exact h
 case mv => obtain ⟨r, _, _, _, rfl⟩ := h; simp [Value.oneCell']
 case mp => subst h; simp

def sizes (l : List Atom) : Nat := (l.map Atom.size).sum

theorem cons_len {β : Env} : ∀ {l : List Atom} {cs : List Value}, cons β l cs → cs.length = sizes l
 | [], cs, h => by simp [cons] at h; simp [h, sizes]
 | a :: r, cs, h => by
  obtain ⟨x, y, rfl, ha, hr⟩ := h
  have := cons_len hr
  have := (Atom.con_len ha)
  simp [sizes] at *; omega

theorem cons_one {β : Env} : ∀ {l : List Atom} {cs : List Value}, cons β l cs → ∀ v ∈ cs, v.oneCell' = true
 | [], cs, h => by simp [cons] at h; simp [h]
 | a :: r, cs, h => by
  obtain ⟨x, y, rfl, ha, hr⟩ := h
  intro v hv
  rcases List.mem_append.1 hv with h | h
  ·exact Atom.con_one ha v h
  ·exact cons_one hr v h

theorem cons_append {β : Env} : ∀ {l m : List Atom} {cs ds : List Value}, cons β l cs → cons β m ds → cons β (l ++ m) (cs ++ ds)
 | [], m, cs, ds, h, h' => by simp [cons] at h; subst h; simpa using h'
 | a :: r, m, cs, ds, h, h' => by
  obtain ⟨x, y, rfl, ha, hr⟩ := h
  exact ⟨x, y ++ ds, by simp, ha, cons_append hr h'⟩

theorem cons_single {β : Env} {a : Atom} {cs : List Value} : cons β [a] cs ↔ a.con β cs := by
 constructor
 ·rintro ⟨x, y, rfl, h, hy⟩; simp [cons] at hy; subst hy; simpa using h
 ·intro h; exact ⟨cs, [], by simp, h, rfl⟩

/- ranges -/
def sub {α : Type} (l : List α) (c m : Nat) : List α := (l.drop c).take m
def splice {α : Type} (l : List α) (c m : Nat) (ys : List α) : List α := l.take c ++ ys ++ l.drop (c + m)

theorem sub_len {α : Type} (l : List α) (c m : Nat) (h : c + m ≤ l.length) : (sub l c m).length = m := by
 simp [sub]; omega
theorem splice_len {α : Type} (l : List α) (c m : Nat) (ys : List α) (h : c + m ≤ l.length) (hy : ys.length = m) : (splice l c m ys).length = l.length := by
 simp [splice]; omega
theorem sub_map {α γ : Type} (f : α → γ) (l : List α) (c m : Nat) : (sub l c m).map f = sub (l.map f) c m := by
 simp [sub, List.map_take, List.map_drop]
theorem splice_map {α γ : Type} (f : α → γ) (l : List α) (c m : Nat) (ys : List α) : (splice l c m ys).map f = splice (l.map f) c m (ys.map f) := by
 simp [splice, List.map_take, List.map_drop]

def takeC : List Atom → Nat → Nat → Option (List Atom)
 | _, _, 0 => some []
 | [], _, _ + 1 => none
 | a :: r, c, m + 1 =>
  if a.size ≤ c then takeC r (c - a.size) (m + 1) else
  if c = 0 ∧ a.size ≤ m + 1 then (takeC r 0 (m + 1 - a.size)).map (a :: ·) else
  match a with
  | .ints k n l => let t := min (n - c) (m + 1); (takeC r 0 (m + 1 - t)).map (.ints k t (sub l c t) :: ·)
  | .vals n l => let t := min (n - c) (m + 1); (takeC r 0 (m + 1 - t)).map (.vals t (sub l c t) :: ·)
  | _ => none

theorem sub_append_right {α : Type} (x y : List α) (c m : Nat) (h : x.length ≤ c) : sub (x ++ y) c m = sub y (c - x.length) m := by
 simp [sub, List.drop_append, List.drop_of_length_le h]
theorem sub_append_left {α : Type} (x y : List α) (m : Nat) (h : x.length ≤ m) : sub (x ++ y) 0 m = x ++ sub y 0 (m - x.length) := by
 simp [sub, List.take_append, List.take_of_length_le h]
theorem sub_append_mid {α : Type} (x y : List α) (c m : Nat) (h : c ≤ x.length) : sub (x ++ y) c m = sub x c (min (x.length - c) m) ++ sub y 0 (m - min (x.length - c) m) := by
 simp only [sub, List.drop_append_of_le_length h, List.take_append, List.length_drop, List.drop_zero]
 congr 1
 ·by_cases h2 : x.length - c ≤ m
  ·rw [Nat.min_eq_left h2, List.take_of_length_le (by simp; omega), List.take_of_length_le (by simp)]
  ·rw [Nat.min_eq_right (by omega)]
 ·congr 1; omega

theorem takeC_con {β : Env} : ∀ {l : List Atom} {c m : Nat} {out : List Atom} {cs : List Value}, takeC l c m = some out → cons β l cs → cons β out (sub cs c m) ∧ (0 < m → c + m ≤ cs.length)
 | l, c, 0, out, cs, h, hc => by
  cases l <;> simp [takeC] at h <;> subst h <;> simp [cons, sub]
 | [], c, m + 1, out, cs, h, hc => by simp [takeC] at h
 | a :: r, c, m + 1, out, cs, h, hc => by
  obtain ⟨x, y, rfl, ha, hr⟩ := hc
  have hx := (Atom.con_len ha)
  unfold takeC at h
  split at h
  ·rename_i hle
   have ih := takeC_con h hr
   rw [sub_append_right _ _ _ _ (by omega), hx]
   exact ⟨ih.1, fun hm => by have := ih.2 hm; simp; omega⟩
  ·rename_i hle
   split at h
   ·rename_i hz
    obtain ⟨rfl, hz⟩ := hz
    simp only [Option.map_eq_some_iff] at h
    obtain ⟨out', h', rfl⟩ := h
    have ih := takeC_con h' hr
    rw [sub_append_left _ _ _ (by omega)]
    refine ⟨⟨x, _, rfl, ha, by rw [hx]; exact ih.1⟩, fun _ => ?_⟩
    by_cases hmm : 0 < m + 1 - a.size
    ·have := ih.2 hmm; simp; omega
    ·simp; omega
   ·cases a with
    | ints k n l =>
     simp only [Option.map_eq_some_iff] at h
     obtain ⟨out', h', rfl⟩ := h
     have ih := takeC_con h' hr
     simp only [Atom.size] at *
     obtain ⟨hl, rfl⟩ := ha
     rw [sub_append_mid _ _ _ _ (by omega), hx]
     refine ⟨⟨_, _, rfl, ⟨sub_len _ _ _ (by omega), by rw [sub_map]⟩, ih.1⟩, fun _ => ?_⟩
     by_cases hmm : 0 < m + 1 - min (n - c) (m + 1)
     ·have := ih.2 hmm; simp at *; omega
     ·simp at *; omega
    | vals n l =>
     simp only [Option.map_eq_some_iff] at h
     obtain ⟨out', h', rfl⟩ := h
     have ih := takeC_con h' hr
     simp only [Atom.size] at *
     obtain ⟨hl, rfl, h1⟩ := ha
     rw [sub_append_mid _ _ _ _ (by omega), hx]
     refine ⟨⟨_, _, rfl, ⟨sub_len _ _ _ (by omega), rfl, fun v hv => h1 v (List.mem_of_mem_drop (List.mem_of_mem_take hv))⟩, ih.1⟩, fun _ => ?_⟩
     by_cases hmm : 0 < m + 1 - min (n - c) (m + 1)
     ·have := ih.2 hmm; simp at *; omega
     ·simp at *; omega
    | _ => simp at h

def dropC : List Atom → Nat → Option (List Atom)
 | l, 0 => some l
 | [], _ + 1 => none
 | a :: r, m + 1 =>
  if a.size ≤ m + 1 then dropC r (m + 1 - a.size) else
  match a with
  | .ints k n l => some (.ints k (n - (m + 1)) (l.drop (m + 1)) :: r)
  | .vals n l => some (.vals (n - (m + 1)) (l.drop (m + 1)) :: r)
  | _ => none

theorem dropC_con {β : Env} : ∀ {l : List Atom} {m : Nat} {out : List Atom} {cs : List Value}, dropC l m = some out → cons β l cs → cons β out (cs.drop m) ∧ m ≤ cs.length
 | l, 0, out, cs, h, hc => by simp [dropC] at h; subst h; simpa using hc
 | [], m + 1, out, cs, h, hc => by simp [dropC] at h
 | a :: r, m + 1, out, cs, h, hc => by
  obtain ⟨x, y, rfl, ha, hr⟩ := hc
  have hx := (Atom.con_len ha)
  unfold dropC at h
  split at h
  ·rename_i hle
   have ih := dropC_con h hr
   rw [List.drop_append, List.drop_of_length_le (by omega), hx]
   exact ⟨by simpa using ih.1, by simp; omega⟩
  ·rename_i hle
   cases a with
   | ints k n l =>
    simp only [Option.some.injEq] at h; subst h
    simp only [Atom.size] at *
    obtain ⟨hl, rfl⟩ := ha
    rw [List.drop_append_of_le_length (by omega)]
    exact ⟨⟨_, _, rfl, ⟨by simp; omega, by simp [List.map_drop]⟩, hr⟩, by simp; omega⟩
   | vals n l =>
    simp only [Option.some.injEq] at h; subst h
    simp only [Atom.size] at *
    obtain ⟨hl, rfl, h1⟩ := ha
    rw [List.drop_append_of_le_length (by omega)]
    exact ⟨⟨_, _, rfl, ⟨by simp; omega, rfl, fun v hv => h1 v (List.mem_of_mem_drop hv)⟩, hr⟩, by simp; omega⟩
   | _ => simp at h

def asInts : List Atom → Option (IntKind × List Int)
 | [.i k n] => some (k, [n])
 | [.ints k _ l] => some (k, l)
 | _ => none

theorem asInts_con {β : Env} {l : List Atom} {k : IntKind} {xs : List Int} {cs : List Value} (h : asInts l = some (k, xs)) (hc : cons β l cs) : cs = xs.map (Value.int k) := by
 unfold asInts at h
 split at h
 ·simp only [Option.some.injEq, Prod.mk.injEq] at h; obtain ⟨rfl, rfl⟩ := h
  rw [cons_single] at hc; simpa [Atom.con] using hc
 ·simp only [Option.some.injEq, Prod.mk.injEq] at h; obtain ⟨rfl, rfl⟩ := h
  rw [cons_single] at hc; exact hc.2
 ·simp at h

def putC : List Atom → Nat → Nat → List Atom → Option (List Atom)
  | [], c, m, new => if c = 0 ∧ m = 0 then some new else none
  | a :: r, c, m, new =>
    if a.size ≤ c then (putC r (c - a.size) m new).map (a :: ·) else
    match a, asInts new with
    | .ints k n l, some (k', ys) =>
      if k = k' ∧ c + m ≤ n then
        (match new with
         | [.i _ v] => some (.ints k n (l.set c v) :: r)
         | _ => if c = 0 ∧ m = n then some (.ints k n ys :: r) else some (.ints k n (splice l c m ys) :: r))
      else if c = 0 then (dropC (a :: r) m).map (new ++ ·) else none
    | _, _ => if c = 0 then (dropC (a :: r) m).map (new ++ ·) else none

theorem splice_append_right {α : Type} (x y ys : List α) (c m : Nat) (h : x.length ≤ c) : splice (x ++ y) c m ys = x ++ splice y (c - x.length) m ys := by
 have e : c + m - x.length = c - x.length + m := by omega
 simp [splice, List.take_append, List.drop_append, List.take_of_length_le h, List.drop_of_length_le (show x.length ≤ c + m by omega), e]
theorem splice_append_left {α : Type} (x y ys : List α) (c m : Nat) (h : c + m ≤ x.length) : splice (x ++ y) c m ys = splice x c m ys ++ y := by
 simp [splice, List.take_append_of_le_length (show c ≤ x.length by omega), List.drop_append_of_le_length h]
theorem splice_zero {α : Type} (x ys : List α) (m : Nat) : splice x 0 m ys = ys ++ x.drop m := by simp [splice]
theorem splice_one {α : Type} (l : List α) (c : Nat) (v : α) (h : c < l.length) : splice l c 1 [v] = l.set c v := by
 simp [splice, List.set_eq_take_append_cons_drop, h]
theorem splice_all {α : Type} {m : Nat} (l ys : List α) (h : l.length = m) : splice l 0 m ys = ys := by
 simp [splice, List.drop_of_length_le (show l.length ≤ m by omega)]

theorem putC_con {β : Env} : ∀ {l : List Atom} {c m : Nat} {new out : List Atom} {cs ds : List Value}, putC l c m new = some out → cons β l cs → cons β new ds → ds.length = m →
  cons β out (splice cs c m ds) ∧ c + m ≤ cs.length
 | [], c, m, new, out, cs, ds, h, hc, hn, hm => by
  simp only [putC] at h
  split at h
  ·rename_i hz; obtain ⟨rfl, rfl⟩ := hz
   simp only [Option.some.injEq] at h; subst h
   simp only [cons] at hc; subst hc
   exact ⟨by simpa [splice] using hn, by simp⟩
  ·simp at h
 | a :: r, c, m, new, out, cs, ds, h, hc, hn, hm => by
  have hc0 := hc
  obtain ⟨x, y, rfl, ha, hr⟩ := hc
  have hx := (Atom.con_len ha)
  unfold putC at h
  split at h
  ·rename_i hle
   simp only [Option.map_eq_some_iff] at h
   obtain ⟨out', h', rfl⟩ := h
   have ih := putC_con h' hr hn hm
   rw [splice_append_right _ _ _ _ _ (by omega), hx]
   exact ⟨⟨x, _, rfl, ha, ih.1⟩, by simp; omega⟩
  ·rename_i hle
   have gen : ∀ out, (if c = 0 then (dropC (a :: r) m).map (new ++ ·) else none) = some out → cons β out (splice (x ++ y) c m ds) ∧ c + m ≤ (x ++ y).length := by
    intro out2 h2
    split at h2
    ·rename_i hz; subst hz
     simp only [Option.map_eq_some_iff] at h2
     obtain ⟨o, ho, rfl⟩ := h2
     have hd := dropC_con ho hc0
     rw [splice_zero]
     exact ⟨cons_append hn hd.1, by simpa using hd.2⟩
    ·simp at h2
   split at h
   ·rename_i k n l k' ys hai
    split at h
    ·rename_i hk; obtain ⟨rfl, hk⟩ := hk
     have hds := asInts_con hai hn
     obtain ⟨hl, rfl⟩ := ha
     have hlen : c + m ≤ (l.map (Value.int k)).length := by simp; omega
     rw [splice_append_left _ _ _ _ _ hlen]
     have hys : ys.length = m := by rw [hds] at hm; simpa using hm
     refine ⟨?_, by simp; omega⟩
     split at h
     ·rename_i k2 v
      simp only [asInts, Option.some.injEq, Prod.mk.injEq] at hai
      obtain ⟨rfl, rfl⟩ := hai
      simp only [Option.some.injEq] at h; subst h
      simp only [List.length_cons, List.length_nil] at hys
      subst hys
      exact ⟨_, _, rfl, ⟨by simpa using hl, by rw [hds, List.map_cons, List.map_nil, splice_one _ _ _ (by omega), List.map_set]⟩, hr⟩
     ·split at h
      ·rename_i hz; obtain ⟨rfl, rfl⟩ := hz
       simp only [Option.some.injEq] at h; subst h
       exact ⟨_, _, rfl, ⟨hys, by rw [splice_all _ _ (by simpa using hl), hds]⟩, hr⟩
      ·simp only [Option.some.injEq] at h; subst h
       exact ⟨_, _, rfl, ⟨by rw [splice_len _ _ _ _ (by omega) hys]; exact hl, by rw [splice_map, hds]⟩, hr⟩
    ·exact gen _ h
   ·exact gen _ h
end Go.Proofs.YtjmfnjgcofpocaaGreat.X

/- What it means that a world holds known blocks; reading, writing and making blocks keeps it. -/
namespace Go.Proofs.YtjmfnjgcofpocaaGreat.X
open Go

inductive V1 where
 | a (x : Atom)
 | g (l : List Atom)

def V1.con (β : Env) : V1 → Value → Prop
 | .a x, v => x.con β [v]
 | .g l, v => ∃ cs : List Value, v = .agg cs.toArray ∧ cons β l cs

inductive AV where
 | u
 | o (x : V1)
 | t (l : List V1)
 | f (fn : FuncId) (bnd caps : List V1)

def all2 (β : Env) : List V1 → List Value → Prop
 | [], vs => vs = []
 | x :: r, vs => ∃ v rest, vs = v :: rest ∧ x.con β v ∧ all2 β r rest

def AV.con (β : Env) : AV → Value → Prop
 | .u, _ => True
 | .o x, v => x.con β v
 | .t l, v => ∃ vs : List Value, v = .tuple vs.toArray ∧ all2 β l vs
 | .f fn bnd caps, v => ∃ us vs : List Value, v = .func (.func fn) us.toArray vs.toArray ∧ all2 β bnd us ∧ all2 β caps vs

/- no index in [lo, hi) is named -/
def Atom.nom (lo hi : Nat) : Atom → Bool
 | .p j _ | .ps j _ | .ip _ j _ | .mv j | .sl j _ _ _ | .rs j _ _ _ => decide (j < lo ∨ hi ≤ j)
 | _ => true
def nomL (lo hi : Nat) (l : List Atom) : Bool := l.all (Atom.nom lo hi)
def V1.nom (lo hi : Nat) : V1 → Bool
 | .a x => x.nom lo hi
 | .g l => nomL lo hi l
def AV.nom (lo hi : Nat) : AV → Bool
 | .u => true
 | .o x => x.nom lo hi
 | .t l => l.all (V1.nom lo hi)
 | .f _ k l => k.all (V1.nom lo hi) && l.all (V1.nom lo hi)

def Agree (lo hi : Nat) (β β' : Env) : Prop := ∀ j, (j < lo ∨ hi ≤ j) → β' j = β j

theorem Atom.con_agree {β β' : Env} {lo hi : Nat} (h : Agree lo hi β β') {a : Atom} (ha : a.nom lo hi = true) {cs : List Value} (hc : a.con β cs) : a.con β' cs := by
 cases a <;> simp only [Atom.nom, Atom.con, decide_eq_true_eq] at ha hc ⊢ <;> first | exact hc | (rw [h _ ha]; exact hc)

theorem cons_agree {β β' : Env} {lo hi : Nat} (h : Agree lo hi β β') : ∀ {l : List Atom}, nomL lo hi l = true → ∀ {cs : List Value}, cons β l cs → cons β' l cs
 | [], _, cs, hc => hc
 | a :: r, hn, cs, hc => by
  simp only [nomL, List.all_cons, Bool.and_eq_true] at hn
  obtain ⟨x, y, rfl, ha, hr⟩ := hc
  exact ⟨x, y, rfl, Atom.con_agree h hn.1 ha, cons_agree h (by simpa [nomL] using hn.2) hr⟩

theorem V1.con_agree {β β' : Env} {lo hi : Nat} (h : Agree lo hi β β') {x : V1} (hn : x.nom lo hi = true) {v : Value} (hc : x.con β v) : x.con β' v := by
 cases x with
 | a x => exact Atom.con_agree h hn hc
 | g l => obtain ⟨cs, rfl, hc⟩ := hc; exact ⟨cs, rfl, cons_agree h hn hc⟩

theorem all2_agree {β β' : Env} {lo hi : Nat} (h : Agree lo hi β β') : ∀ {l : List V1}, l.all (V1.nom lo hi) = true → ∀ {vs : List Value}, all2 β l vs → all2 β' l vs
 | [], _, vs, hc => hc
 | x :: r, hn, vs, hc => by
  simp only [List.all_cons, Bool.and_eq_true] at hn
  obtain ⟨v, rest, rfl, hx, hr⟩ := hc
  exact ⟨v, rest, rfl, V1.con_agree h hn.1 hx, all2_agree h hn.2 hr⟩

theorem AV.con_agree {β β' : Env} {lo hi : Nat} (h : Agree lo hi β β') {x : AV} (hn : x.nom lo hi = true) {v : Value} (hc : x.con β v) : x.con β' v := by
 cases x with
 | u => trivial
 | o x => exact V1.con_agree h hn hc
 | t l => obtain ⟨vs, rfl, hc⟩ := hc; exact ⟨vs, rfl, all2_agree h hn hc⟩
 | f fn k l =>
  obtain ⟨us, vs, rfl, hb, hc⟩ := hc
  simp only [AV.nom, Bool.and_eq_true] at hn
  exact ⟨us, vs, rfl, all2_agree h hn.1 hb, all2_agree h hn.2 hc⟩

structure Blk where
 own : Bool
 cells : List Atom

def keyV (l : List Int) : Value := .agg (l.map (Value.int .u8)).toArray
def MapOk (n : Nat) (l : List (List Int × Int)) (es : List MapEntry) : Prop :=
 es.map (fun e => (e.key, e.val)) = l.map (fun p => (keyV p.1, Value.int .i64 p.2)) ∧ (∀ p ∈ l, p.1.length = n) ∧ (l.map (·.1)).Nodup
def MapAt (β : Env) (w : World) (j : Nat) (cells : List Atom) : Prop :=
 ∃ n l r es clk, cells = [.mp n l] ∧ β j = some r ∧ r.off = 1 ∧ r.size = 0 ∧ w.heap[r.blk]? = some (.map es clk) ∧ MapOk n l es.toList

theorem MapAt.move {β β' : Env} {w w' : World} {j i : Nat} {cells : List Atom} (h : MapAt β w j cells) (hβ : β' i = β j) (hw : ∀ r, β j = some r → w'.heap[r.blk]? = w.heap[r.blk]?) : MapAt β' w' i cells := by
 obtain ⟨n, l, r, es, clk, h1, h2, h3, h4, h5, h6⟩ := h
 exact ⟨n, l, r, es, clk, h1, hβ.trans h2, h3, h4, (hw r h2).trans h5, h6⟩

def NoCells (β : Env) (w : World) (j : Nat) (b : Blk) : Prop := b.own = false ∨ β j = none ∨ MapAt β w j b.cells
theorem NoCells.move {β β' : Env} {w w' : World} {j i : Nat} {b : Blk} (h : NoCells β w j b) (hβ : β' i = β j) (hw : ∀ r, β j = some r → w'.heap[r.blk]? = w.heap[r.blk]?) : NoCells β' w' i b :=
 h.imp id fun h => h.imp (fun h => hβ.trans h) fun h => h.move hβ hw

theorem NoCells.plain {β : Env} {w : World} {j : Nat} {b : Blk} (h : NoCells β w j b) (hm : ∀ n l, b.cells ≠ [.mp n l]) (cells : List Atom) : NoCells β w j ⟨b.own, cells⟩ :=
 h.imp id fun h => h.imp id fun ⟨n, l, _, _, _, e, _⟩ => absurd e (hm n l)

def Blk.holds (β : Env) (w : World) (j : Nat) (b : Blk) : Prop :=
 ∃ cs, cons β b.cells cs ∧ ((cs = [] ∧ NoCells β w j b) ∨
  ∃ r arr ty fr, β j = some r ∧ w.heap[r.blk]? = some (.cells arr ty fr) ∧ arr.size = r.size ∧ r.off + cs.length ≤ r.size ∧
   (∀ i v, cs[i]? = some v → arr[r.off + i]? = some v) ∧ (b.own = true → fr = (0, 0) ∧ ∀ v ∈ arr.toList, v.oneCell' = true))

abbrev Know := List (Option Blk)

def Know.at (K : Know) (j : Nat) : Option Blk := (K[j]?).join

structure RelW (w0 : World) (rw : List Nat) (β : Env) (K : Know) (w : World) : Prop where
 holds : ∀ j b, K.at j = some b → b.holds β w j
 apart : ∀ j k b c r s, K.at j = some b → K.at k = some c → b.own = true → j ≠ k → β j = some r → β k = some s → r.blk ≠ s.blk
 mine : ∀ j b r, K.at j = some b → b.own = true → β j = some r → w0.heap.size ≤ r.blk ∨ r.blk ∈ rw
 live : ∀ j b r, K.at j = some b → β j = some r → r.blk < w.heap.size
 old : ∀ b, b < w0.heap.size → b ∉ rw → w.heap[b]? = w0.heap[b]?
 size : w0.heap.size ≤ w.heap.size
 os : w.os = w0.os
 tape : w.tape = w0.tape
 output : w.output = w0.output

theorem RelW.drew {w0 : World} {rw : List Nat} {β : Env} {K : Know} {w : World} (h : RelW w0 rw β K w) (n : Nat) : RelW w0 rw β K { w with drawn := n } :=
 ⟨h.holds, h.apart, h.mine, h.live, h.old, h.size, h.os, h.tape, h.output⟩

def Know.set1 (K : Know) (j : Nat) (b : Option Blk) : Know := if j < K.length then K.set j b else K ++ List.replicate (j - K.length) none ++ [b]

theorem Know.at_set1 (K : Know) (j : Nat) (b : Option Blk) (k : Nat) : (K.set1 j b).at k = if k = j then b else K.at k := by
 unfold Know.set1 Know.at
 by_cases hj : j < K.length
 ·rw [if_pos hj, List.getElem?_set]
  by_cases hk : k = j
  ·subst hk; simp [hj]
  ·rw [if_neg (fun h => hk h.symm), if_neg hk]
 ·rw [if_neg hj]
  by_cases hk : k = j
  ·subst hk
   rw [if_pos rfl, List.getElem?_append_right (by simp; omega)]
   have : k - (K ++ List.replicate (k - K.length) (none : Option Blk)).length = 0 := by simp; omega
   rw [this]; rfl
  ·rw [if_neg hk]
   by_cases h1 : k < K.length
   ·rw [List.append_assoc, List.getElem?_append_left h1]
   ·rw [List.getElem?_eq_none (l := K) (by omega)]
    by_cases h2 : k < j
    ·rw [List.getElem?_append_left (by simp; omega), List.getElem?_append_right (by omega), List.getElem?_replicate]
     rw [if_pos (by omega)]; rfl
    ·rw [List.getElem?_eq_none (by simp; omega)]

/- reading -/
theorem Blk.cellsAt {β : Env} {w : World} {j : Nat} {b : Blk} (h : b.holds β w j) {r : Ref} (hr : β j = some r) :
  ∃ cs, cons β b.cells cs ∧ ∀ i v, cs[i]? = some v → w.cell? ⟨r.blk, r.off + i, none⟩ = some v := by
 obtain ⟨cs, hc, h⟩ := h
 refine ⟨cs, hc, fun i v hv => ?_⟩
 rcases h with ⟨rfl, _⟩ | ⟨r', arr, ty, fr, hr', hh, hs, hl, ha, _⟩
 ·simp at hv
 ·rw [hr] at hr'; cases hr'
  simp [World.cell?, hh, ha i v hv]

theorem addr_add (b o n : Nat) : (⟨b, o, none⟩ : Addr).add n = ⟨b, o + n, none⟩ := by unfold Addr.add; split <;> simp_all

theorem getElem?_sub {α : Type} (l : List α) (c m i : Nat) (v : α) (h : (sub l c m)[i]? = some v) : l[c + i]? = some v := by
 simp only [sub, List.getElem?_take, List.getElem?_drop] at h
 split at h
 ·exact h
 ·simp at h

def aggD : TypeDesc → Bool
 | .struct _ | .array _ _ => true
 | _ => false

section run
variable {P : Program}
theorem run_isAgg (w : World) {t : TypeId} {d : TypeDesc} (h : P.underlying t = some d) : (isAgg t).run P w = .ok (aggD d) w := by
 unfold isAgg
 rw [Sem.run_bind, run_underlying h w]
 cases d <;> rfl
theorem run_sizeOf' (w : World) {t : TypeId} {i : TypeInfo} (h : P.info? t = some i) : (sizeOf t).run P w = .ok i.size w := by
 simp [sizeOf, typeInfo, h]
theorem run_load_agg (w : World) {ty : TypeId} {d : TypeDesc} {i : TypeInfo} (hu : P.underlying ty = some d) (hd : aggD d = true) (hi : P.info? ty = some i) (a : Addr) (cs : List Value)
  (hl : cs.length = i.size) (hc : ∀ j v, cs[j]? = some v → w.cell? (a.add j) = some v) : (loadVar ty a).run P w = .ok (.agg cs.toArray) w := by
 unfold loadVar
 rw [Sem.run_bind, run_isAgg w hu, hd]
 simp only [Result.andThen_ok, if_true, Sem.run_bind, run_sizeOf' w hi, ← hl, run_loadCells_list w a cs hc, Sem.run_pure]
theorem run_load_one (w : World) {ty : TypeId} {d : TypeDesc} (hu : P.underlying ty = some d) (hd : aggD d = false) (a : Addr) (v : Value) (hc : w.cell? a = some v) : (loadVar ty a).run P w = .ok v w := by
 unfold loadVar
 rw [Sem.run_bind, run_isAgg w hu, hd]
 simp [hc]
end run

theorem getElem?_splice {α : Type} (l ys : List α) (c m : Nat) (h : c + m ≤ l.length) (hy : ys.length = m) (i : Nat) :
  (splice l c m ys)[i]? = if i < c then l[i]? else if i < c + m then ys[i - c]? else l[i]? := by
 have hlt : (l.take c).length = c := by simp; omega
 unfold splice
 by_cases h1 : i < c
 ·rw [if_pos h1, List.append_assoc, List.getElem?_append_left (by omega), List.getElem?_take_of_lt h1]
 ·rw [if_neg h1]
  by_cases h2 : i < c + m
  ·rw [if_pos h2, List.append_assoc, List.getElem?_append_right (by omega), hlt, List.getElem?_append_left (by omega)]
  ·rw [if_neg h2, List.getElem?_append_right (by simp; omega)]
   simp only [List.getElem?_drop, List.length_append, hlt]
   congr 1; omega

theorem splice_oneM {l ys : List Value} {c m : Nat} (h : ∀ v ∈ l, v.oneCell' = true) (hy : ∀ v ∈ ys, v.oneCell' = true) : ∀ v ∈ splice l c m ys, v.oneCell' = true := by
 intro v hv
 unfold splice at hv
 rcases List.mem_append.1 hv with hv | hv
 ·rcases List.mem_append.1 hv with hv | hv
  ·exact h v (List.mem_of_mem_take hv)
  ·exact hy v hv
 ·exact h v (List.mem_of_mem_drop hv)

/- writing -/
theorem RelW.store {w0 : World} {rw : List Nat} {β : Env} {K : Know} {w : World} (P : Program) (h : RelW w0 rw β K w) {j : Nat} {b : Blk} (hb : K.at j = some b) (ho : b.own = true)
  {r : Ref} (hr : β j = some r) {c m : Nat} {new out : List Atom} {ds : List Value} (hp : ∀ cs, cons β b.cells cs → cons β out (splice cs c m ds) ∧ c + m ≤ cs.length) (hn : cons β new ds) (hm : ds.length = m) (hpos : 0 < m) :
  ∃ w', (storeCells ⟨r.blk, r.off + c, none⟩ ds).run P w = .ok () w' ∧ RelW w0 rw β (K.set1 j (some ⟨true, out⟩)) w' := by
 obtain ⟨cs, hc, hd⟩ := h.holds j b hb
 obtain ⟨hout, hin⟩ := hp cs hc
 rcases hd with ⟨rfl, _⟩ | ⟨r', arr, ty, fr, hr', hh, hs, hl, ha, hf⟩
 ·simp at hin; omega
 ·rw [hr] at hr'; cases hr'
  obtain ⟨hfr, hone⟩ := hf ho; subst hfr
  have hrun := run_storeCells_at P r.blk (r.off + c) ty ds 0 arr w hh (by omega) (cons_one hn)
  refine ⟨_, hrun, ?_⟩
  simp only [Nat.add_zero]
  have hspl : (arr.toList.take (r.off + c) ++ ds ++ arr.toList.drop (r.off + c + ds.length)) = splice arr.toList (r.off + c) m ds := by rw [hm]; rfl
  rw [hspl]
  have hsl : (splice arr.toList (r.off + c) m ds).length = arr.size := by rw [splice_len _ _ _ _ (by simp; omega) hm]; simp
  refine ⟨?_, ?_, ?_, ?_, ?_, ?_, h.os, h.tape, h.output⟩
  ·intro k b' hk
   rw [Know.at_set1] at hk
   by_cases hkj : k = j
   ·subst hkj
    simp only [if_true, Option.some.injEq] at hk; subst hk
    refine ⟨_, hout, .inr ⟨r, _, ty, (0, 0), hr, setRow_heap w r.blk arr _ ty _ hh, by simpa [hsl] using hs, ?_, ?_, fun _ => ⟨rfl, splice_oneM hone (cons_one hn)⟩⟩⟩
    ·rw [splice_len _ _ _ _ hin hm]; exact hl
    ·intro i v hv
     rw [List.getElem?_toArray, getElem?_splice _ _ _ _ (by simp; omega) hm]
     rw [getElem?_splice _ _ _ _ hin hm] at hv
     by_cases h1 : i < c
     ·rw [if_pos h1] at hv; rw [if_pos (by omega)]; simpa using ha i v hv
     ·rw [if_neg h1] at hv; rw [if_neg (by omega)]
      by_cases h2 : i < c + m
      ·rw [if_pos h2] at hv; rw [if_pos (by omega)]
       rw [show r.off + i - (r.off + c) = i - c by omega]; exact hv
      ·rw [if_neg h2] at hv; rw [if_neg (by omega)]; simpa using ha i v hv
   ·rw [if_neg hkj] at hk
    obtain ⟨cs', hc', hd'⟩ := h.holds k b' hk
    have hne : ∀ s, β k = some s → s.blk ≠ r.blk := fun s hs' e => h.apart j k b b' r s hb hk ho (fun e => hkj e.symm) hr hs' e.symm
    refine ⟨cs', hc', hd'.imp (fun h => ⟨h.1, h.2.move rfl fun s hs' => setRow_other w r.blk s.blk _ (hne s hs')⟩) ?_⟩
    rintro ⟨s, arr', ty', fr', hs', hh', rest⟩
    exact ⟨s, arr', ty', fr', hs', (setRow_other w r.blk s.blk _ (hne s hs')).trans hh', rest⟩
  ·intro a k b1 c1 r1 s1 ha1 hk1 ho1 hne hr1 hs1
   rw [Know.at_set1] at ha1 hk1
   have key : ∀ x b2, (if x = j then some (⟨true, out⟩ : Blk) else K.at x) = some b2 → ∃ b3, K.at x = some b3 ∧ b3.own = b2.own := by
    intro x b2 hx
    by_cases hxj : x = j
    ·subst hxj; simp only [if_true, Option.some.injEq] at hx; subst hx; exact ⟨b, hb, ho⟩
    ·rw [if_neg hxj] at hx; exact ⟨b2, hx, rfl⟩
   obtain ⟨b3, hb3, e3⟩ := key a b1 ha1
   obtain ⟨c3, hc3, _⟩ := key k c1 hk1
   exact h.apart a k b3 c3 r1 s1 hb3 hc3 (e3.trans ho1) hne hr1 hs1
  ·intro x b1 r1 hx ho1 hr1
   rw [Know.at_set1] at hx
   by_cases hxj : x = j
   ·subst hxj; rw [hr] at hr1; cases hr1; exact h.mine x b r hb ho hr
   ·rw [if_neg hxj] at hx; exact h.mine x b1 r1 hx ho1 hr1
  ·intro x b1 r1 hx hr1
   rw [Know.at_set1] at hx
   rw [size_setRow]
   by_cases hxj : x = j
   ·subst hxj; rw [hr] at hr1; cases hr1; exact h.live x b r hb hr
   ·rw [if_neg hxj] at hx; exact h.live x b1 r1 hx hr1
  ·intro b1 hb1 hb2
   have hne : b1 ≠ r.blk := by
    rcases h.mine j b r hb ho hr with hm' | hm'
    ·omega
    ·intro e; subst e; exact hb2 hm'
   rw [setRow_other w r.blk b1 _ hne]; exact h.old b1 hb1 hb2
  ·rw [size_setRow]; exact h.size

def bnom (lo hi : Nat) : Option Blk → Bool
 | some b => nomL lo hi b.cells
 | none => true
def Know.nom (lo hi : Nat) (K : Know) : Bool := K.all (bnom lo hi)

theorem Know.nom_at {lo hi : Nat} {K : Know} (h : K.nom lo hi = true) {j : Nat} {b : Blk} (hb : K.at j = some b) : nomL lo hi b.cells = true := by
 unfold Know.nom at h
 unfold Know.at at hb
 rw [Option.join_eq_some_iff] at hb
 exact List.all_eq_true.1 h _ (List.mem_of_getElem? hb)

def Env.upd (β : Env) (j : Nat) (r : Option Ref) : Env := fun k => if k = j then r else β k
theorem Env.agree_upd (β : Env) (j : Nat) (r : Option Ref) : Agree j (j + 1) β (β.upd j r) := by
 intro k hk; unfold Env.upd; rw [if_neg (by omega)]

/- making -/
theorem RelW.new {w0 : World} {rw : List Nat} {β : Env} {K : Know} {w : World} (h : RelW w0 rw β K w) (n : Nat) (hn : K.at n = none) (hK : K.nom n (n + 1) = true)
  {cells : List Atom} {cs : List Value} (hc : cons β cells cs) (hcn : nomL n (n + 1) cells = true) (arr : List Value) (ty : TypeId) (harr : ∀ (i : Nat) (v : Value), cs[i]? = some v → arr[i]? = some v) (hlen : cs.length ≤ arr.length) (hone : ∀ v ∈ arr, v.oneCell' = true) :
  RelW w0 rw (β.upd n (some ⟨w.heap.size, 0, arr.length⟩)) (K.set1 n (some ⟨true, cells⟩)) { w with heap := w.heap.push (.cells arr.toArray ty) } := by
 have hag := Env.agree_upd β n (some ⟨w.heap.size, 0, arr.length⟩)
 have hother : ∀ k, k ≠ n → (β.upd n (some ⟨w.heap.size, 0, arr.length⟩)) k = β k := fun k hk => by unfold Env.upd; rw [if_neg hk]
 have hself : (β.upd n (some ⟨w.heap.size, 0, arr.length⟩)) n = some ⟨w.heap.size, 0, arr.length⟩ := by unfold Env.upd; rw [if_pos rfl]
 have hold : ∀ b, b < w.heap.size → (w.heap.push (.cells arr.toArray ty))[b]? = w.heap[b]? := fun b hb => by
  rw [Array.getElem?_push, if_neg (Nat.ne_of_lt hb)]
 refine ⟨?_, ?_, ?_, ?_, ?_, ?_, h.os, h.tape, h.output⟩
 ·intro k b hk
  rw [Know.at_set1] at hk
  by_cases hkn : k = n
  ·subst hkn
   simp only [if_true, Option.some.injEq] at hk; subst hk
   refine ⟨cs, cons_agree hag hcn hc, .inr ⟨_, arr.toArray, ty, (0, 0), hself, by simp, by simp, by simpa using hlen, ?_, fun _ => ⟨rfl, hone⟩⟩⟩
   intro i v hv; simpa using harr i v hv
  ·rw [if_neg hkn] at hk
   obtain ⟨cs', hc', hd⟩ := h.holds k b hk
   refine ⟨cs', cons_agree hag (Know.nom_at hK hk) hc', ?_⟩
   rcases hd with ⟨h1, h2⟩ | ⟨r, a', t', f', hr, hh, rest⟩
   ·exact .inl ⟨h1, h2.move (hother k hkn) fun r hr => hold _ (h.live k b r hk hr)⟩
   ·exact .inr ⟨r, a', t', f', by rw [hother k hkn]; exact hr, (hold _ (h.live k b r hk hr)).trans hh, rest⟩
 ·intro a k b c r s ha hk ho hne hr hs
  rw [Know.at_set1] at ha hk
  by_cases han : a = n
  ·subst han
   rw [hself] at hr; cases hr
   rw [if_neg (fun e => hne e.symm)] at hk
   rw [hother k (fun e => hne e.symm)] at hs
   have := h.live k c s hk hs
   exact fun e => by simp at e; omega
  ·rw [if_neg han] at ha
   rw [hother a han] at hr
   by_cases hkn : k = n
   ·subst hkn
    rw [hself] at hs; cases hs
    have := h.live a b r ha hr
    exact fun e => by simp at e; omega
   ·rw [if_neg hkn] at hk
    rw [hother k hkn] at hs
    exact h.apart a k b c r s ha hk ho hne hr hs
 ·intro x b r hx ho hr
  rw [Know.at_set1] at hx
  by_cases hxn : x = n
  ·subst hxn; rw [hself] at hr; cases hr; exact .inl h.size
  ·rw [if_neg hxn] at hx; rw [hother x hxn] at hr; exact h.mine x b r hx ho hr
 ·intro x b r hx hr
  rw [Know.at_set1] at hx
  simp only [Array.size_push]
  by_cases hxn : x = n
  ·subst hxn; rw [hself] at hr; cases hr; simp
  ·rw [if_neg hxn] at hx; rw [hother x hxn] at hr; have := h.live x b r hx hr; omega
 ·intro b hb hb2
  have := h.size
  rw [hold b (by omega)]; exact h.old b hb hb2
 ·have := h.size
  simp only [Array.size_push]; omega

theorem RelW.drop {w0 : World} {rw : List Nat} {β : Env} {K : Know} {w : World} (h : RelW w0 rw β K w) (j : Nat) : RelW w0 rw β (K.set1 j none) w := by
 have key : ∀ x b, (K.set1 j none).at x = some b → K.at x = some b := by
  intro x b hx
  rw [Know.at_set1] at hx
  split at hx
  ·simp at hx
  ·exact hx
 exact ⟨fun k b hk => h.holds k b (key _ _ hk), fun a k b c r s ha hk => h.apart a k b c r s (key _ _ ha) (key _ _ hk), fun x b r hx => h.mine x b r (key _ _ hx), fun x b r hx => h.live x b r (key _ _ hx), h.old, h.size, h.os, h.tape, h.output⟩
end Go.Proofs.YtjmfnjgcofpocaaGreat.X

/- The operations, first part: moves, loads, stores, addresses, arithmetic. -/
namespace Go.Proofs.YtjmfnjgcofpocaaGreat.X
open Go

def okP : Option Prop → Prop
 | none => True
 | some p => p

structure TE where
 d : TypeDesc
 size : Nat
 bytes : Nat
 zero : List Atom
 eqok : Bool

abbrev Tab := TypeId → Option TE

def namesOk : TypeDesc → Bool
 | .struct fs => fs.toList.all fun f => f.name != "_"
 | _ => true
def zintOk : TypeDesc → Value → Bool
 | .int k, .int k' z => (match k, k' with
  | .i64, .i64 => true
  | .i64, _ => false
  | _, _ => true) && z == 0
 | .int _, _ => false
 | _, _ => true
structure TEOk (P : Program) (t : TypeId) (e : TE) : Prop where
 und : P.underlying t = some e.d
 info : ∃ i z, P.info? t = some i ∧ i.size = e.size ∧ i.bytes = e.bytes ∧ i.zero = some z ∧ ∀ β, cons β e.zero z.cells.toList
 eqg : e.eqok = true → P.eqGuardType P.depth t = false ∧ P.stoodInHeld t = false ∧ namesOk e.d = true
 zsz : sizes e.zero = e.size
 zi : ∃ i z, P.info? t = some i ∧ i.zero = some z ∧ zintOk e.d z = true

def TabOk (P : Program) (T : Tab) : Prop := ∀ t e, T t = some e → TEOk P t e

structure Ox where
 vc : Option Prop
 val : AV
 ch : List (Nat × Option Blk)
 al : Bool

def app (K : Know) : List (Nat × Option Blk) → Know
 | [] => K
 | (j, b) :: r => app (K.set1 j b) r

abbrev Rho := Operand → AV

def V1.cells : V1 → List Atom
 | .a x => [x]
 | .g l => l

theorem V1.con_cells {β : Env} {x : V1} {v : Value} (h : x.con β v) : cons β x.cells v.cells.toList := by
 cases x with
 | a x =>
  have h1 := Atom.con_one h v (by simp)
  have : v.cells = #[v] := by cases v <;> simp_all [Value.cells, Value.oneCell']
  rw [this]; exact cons_single.2 h
 | g l => obtain ⟨cs, rfl, hc⟩ := h; simpa [Value.cells, V1.cells] using hc

def atomOf : Value → Atom
 | .int k n => .i k n
 | .bool x => .b x
 | v => .raw v

def intsOf (k : IntKind) : List Value → Option (List Int)
 | [] => some []
 | .int k' n :: r => if k' = k then (intsOf k r).map (n :: ·) else none
 | _ :: _ => none

theorem intsOf_spec {k : IntKind} : ∀ {l : List Value} {xs : List Int}, intsOf k l = some xs → l = xs.map (Value.int k)
 | [], xs, h => by simp [intsOf] at h; simp [h]
 | v :: r, xs, h => by
  cases v <;> simp only [intsOf] at h <;> try (simp at h; done)
  split at h
  ·rename_i hk; subst hk
   simp only [Option.map_eq_some_iff] at h
   obtain ⟨ys, hy, rfl⟩ := h
   simp [← intsOf_spec hy]
  ·simp at h

def packV (l : List Value) : List Atom :=
 match l with
 | .int k n :: r => (match intsOf k r with
  | some xs => [.ints k (xs.length + 1) (n :: xs)]
  | none => l.map atomOf)
 | _ => l.map atomOf

theorem atomOf_con {β : Env} {v : Value} (h : v.oneCell' = true) : (atomOf v).con β [v] := by
 cases v <;> simp_all [atomOf, Atom.con, Value.oneCell']

theorem cons_atomOf {β : Env} : ∀ {l : List Value}, l.all (·.oneCell') = true → cons β (l.map atomOf) l
 | [], _ => rfl
 | v :: r, h => by
  simp only [List.all_cons, Bool.and_eq_true] at h
  exact ⟨[v], r, rfl, atomOf_con h.1, cons_atomOf h.2⟩

theorem packV_con {β : Env} {l : List Value} (h : l.all (·.oneCell') = true) : cons β (packV l) l := by
 unfold packV
 split
 ·rename_i k n r
  split
  ·rename_i xs hxs
   rw [cons_single]
   have := intsOf_spec hxs
   exact ⟨by simp, by simp [this]⟩
  ·exact cons_atomOf h
 ·exact cons_atomOf h

def constAV : Value → AV
 | .int k n => .o (.a (.i k n))
 | .bool x => .o (.a (.b x))
 | .agg cs => if cs.toList.all (·.oneCell') then .o (.g (packV cs.toList)) else .u
 | .tuple _ => .u
 | v => .o (.a (.raw v))

theorem constAV_con {β : Env} (v : Value) : (constAV v).con β v := by
 cases v <;> simp only [constAV] <;> try (simp [AV.con, V1.con, Atom.con, Value.oneCell']; done)
 rename_i cs
 split
 ·rename_i h; exact ⟨cs.toList, by simp, packV_con h⟩
 ·trivial

def ev (slots : List AV) : Rho
 | .tmp t => slots.getD t .u
 | .const v => constAV v
 | .global g => .o (.a (.raw (.pointer (some ⟨g, 0, none⟩))))
 | .func f => .f f [] []

theorem ev_con {β : Env} {slots : List AV} {a : Act} (h : ∀ t, (slots.getD t .u).con β (a.tmps.getD t undef)) (x : Operand) : (ev slots x).con β (a.eval x) := by
 cases x with
 | tmp t => exact h t
 | const v => exact constAV_con v
 | global g => exact ⟨rfl, rfl⟩
 | func f => exact ⟨[], [], rfl, rfl, rfl⟩

def ptr : AV → Option (Nat × Nat × Bool)
 | .o (.a (.p j c)) => some (j, c, false)
 | .o (.a (.ps j c)) => some (j, c, true)
 | _ => none

theorem ptr_con {β : Env} {x : AV} {j c : Nat} {sym : Bool} {v : Value} (h : ptr x = some (j, c, sym)) (hc : x.con β v) : ∃ r, β j = some r ∧ v = .pointer (some ⟨r.blk, r.off + c, none⟩) := by
 unfold ptr at h
 split at h
 ·simp only [Option.some.injEq, Prod.mk.injEq] at h; obtain ⟨rfl, rfl, rfl⟩ := h
  obtain ⟨r, hr, hv⟩ := hc; exact ⟨r, hr, by simpa using hv⟩
 ·simp only [Option.some.injEq, Prod.mk.injEq] at h; obtain ⟨rfl, rfl, rfl⟩ := h
  obtain ⟨r, hr, hv⟩ := hc; exact ⟨r, hr, by simpa using hv⟩
 ·simp at h

def rng (sym : Bool) (cells : List Atom) (c m : Nat) : Option (Option Prop × List Atom) :=
 match sym, cells, m with
 | true, [.ints k n l], 1 => some (some (c < n), [.i k (l.getD c 0)])
 | true, [.vals n l], 1 => some (some (c < n), [.raw (l.getD c undef)])
 | true, [.ints k n l], m => some (some (c + m ≤ n), [.ints k m (sub l c m)])
 | true, [.vals n l], m => some (some (c + m ≤ n), [.vals m (sub l c m)])
 | _, cells, m => (takeC cells c m).map (none, ·)

theorem sub_one {α : Type} (l : List α) (c : Nat) (d : α) (h : c < l.length) : sub l c 1 = [l.getD c d] := by
 have e : l.getD c d = l[c] := by simp [List.getD_eq_getElem?_getD, h]
 unfold sub
 rw [e, List.drop_eq_getElem_cons h, List.take_succ_cons, List.take_zero]

theorem rng_con {β : Env} {sym : Bool} {cells : List Atom} {c m : Nat} {vc : Option Prop} {out : List Atom} {cs : List Value} (h : rng sym cells c m = some (vc, out)) (hv : okP vc) (hm : 0 < m) (hc : cons β cells cs) :
  cons β out (sub cs c m) ∧ c + m ≤ cs.length := by
 unfold rng at h
 split at h
 ·rename_i k n l
  simp only [Option.some.injEq, Prod.mk.injEq] at h; obtain ⟨rfl, rfl⟩ := h
  simp only [okP] at hv
  rw [cons_single] at hc; obtain ⟨hl, rfl⟩ := hc
  rw [cons_single]
  refine ⟨?_, by simp; omega⟩
  rw [← sub_map, sub_one l c 0 (by omega)]; rfl
 ·rename_i n l
  simp only [Option.some.injEq, Prod.mk.injEq] at h; obtain ⟨rfl, rfl⟩ := h
  simp only [okP] at hv
  rw [cons_single] at hc; obtain ⟨hl, rfl, h1⟩ := hc
  rw [cons_single]
  refine ⟨?_, by omega⟩
  rw [sub_one _ c undef (by omega)]
  refine ⟨rfl, ?_⟩
  rw [List.getD_eq_getElem?_getD, List.getElem?_eq_getElem (by omega)]
  exact h1 _ (List.getElem_mem _)
 ·rename_i k n l _ _
  simp only [Option.some.injEq, Prod.mk.injEq] at h; obtain ⟨rfl, rfl⟩ := h
  simp only [okP] at hv
  rw [cons_single] at hc; obtain ⟨hl, rfl⟩ := hc
  rw [cons_single]
  exact ⟨⟨sub_len _ _ _ (by omega), by rw [sub_map]⟩, by simp; omega⟩
 ·rename_i n l _ _
  simp only [Option.some.injEq, Prod.mk.injEq] at h; obtain ⟨rfl, rfl⟩ := h
  simp only [okP] at hv
  rw [cons_single] at hc; obtain ⟨hl, rfl, h1⟩ := hc
  rw [cons_single]
  exact ⟨⟨sub_len _ _ _ (by omega), rfl, fun v hv => h1 v (List.mem_of_mem_drop (List.mem_of_mem_take hv))⟩, by omega⟩
 ·simp only [Option.map_eq_some_iff, Prod.mk.injEq] at h
  obtain ⟨o, ho, rfl, rfl⟩ := h
  have := takeC_con ho hc
  exact ⟨this.1, this.2 hm⟩

def mk1 (e : TE) (out : List Atom) : Option V1 :=
 if aggD e.d = true then some (.g out) else
 if e.size = 1 then
  match out with
  | [.ints k _ ys] => some (.a (.i k (ys.getD 0 0)))
  | [.vals _ ys] => some (.a (.raw (ys.getD 0 undef)))
  | [a] => some (.a a)
  | _ => none
 else none

def valOf (e : TE) (cs : List Value) : Value := if aggD e.d = true then .agg cs.toArray else cs.headD undef

theorem mk1_con {β : Env} {e : TE} {out : List Atom} {y : V1} {cs : List Value} (h : mk1 e out = some y) (hc : cons β out cs) (hl : cs.length = e.size) : y.con β (valOf e cs) ∧ (aggD e.d = false → cs.length = 1) := by
 unfold mk1 at h
 unfold valOf
 by_cases ha : aggD e.d = true
 ·rw [if_pos ha] at h; cases h
  rw [if_pos ha]
  exact ⟨⟨cs, rfl, hc⟩, fun h => by rw [ha] at h; cases h⟩
 ·rw [if_neg ha] at h
  rw [if_neg ha]
  split at h
  ·rename_i h1
   rw [h1] at hl
   match cs, hl with
   | [v], _ =>
    refine ⟨?_, fun _ => rfl⟩
    split at h
    ·cases h
     rw [cons_single] at hc; obtain ⟨hl, hv⟩ := hc
     rename_i k n ys
     cases ys with
     | nil => simp at hv
     | cons y ys => simp at hv; simp [V1.con, Atom.con, hv.1]
    ·cases h
     rw [cons_single] at hc; obtain ⟨hl, hv, h1⟩ := hc
     subst hv
     simp [V1.con, Atom.con]
     simpa using h1
    ·cases h
     exact cons_single.1 hc
    ·simp at h
  ·simp at h

def wrt (sym : Bool) (cells : List Atom) (c m : Nat) (new : List Atom) : Option (Option Prop × List Atom) :=
 match sym, cells, new with
 | true, [.ints k n l], [.i k' z] => if k = k' then some (some (c < n), [.ints k n (l.set c z)]) else none
 | true, [.ints k n l], [.ints k' m' ys] => if k = k' then some (some (c + m' ≤ n), [.ints k n (splice l c m' ys)]) else none
 | true, [.ints k n l, .vals s v], [.ints k' m' ys] => if k = k' then some (some (c = n ∧ m' ≤ s), [.ints k (n + m') (l ++ ys), .vals (s - m') (v.drop m')]) else none
 | true, [.ints k n l, .vals s v], [.i k' z] => if k = k' then some (some (c = n ∧ 1 ≤ s), [.ints k (n + 1) (l ++ [z]), .vals (s - 1) (v.drop 1)]) else none
 | _, [.mp _ _], _ => none
 | _, cells, new => (putC cells c m new).map (none, ·)

theorem wrt_map {sym : Bool} {cells new : List Atom} {c m : Nat} {x : Option Prop × List Atom} (h : wrt sym cells c m new = some x) : ∀ n l, cells ≠ [.mp n l] := by
 rintro n l rfl
 cases sym <;> simp [wrt] at h

theorem splice_at {α : Type} {x y ds : List α} {n m : Nat} (hx : x.length = n) : splice (x ++ y) n m ds = (x ++ ds) ++ y.drop m := by
 subst hx
 simp [splice, List.drop_append]

theorem wrt_con {β : Env} {sym : Bool} {cells new out : List Atom} {c m : Nat} {vc : Option Prop} {cs ds : List Value} (h : wrt sym cells c m new = some (vc, out)) (hv : okP vc) (hc : cons β cells cs) (hn : cons β new ds) (hm : ds.length = m) :
  cons β out (splice cs c m ds) ∧ c + m ≤ cs.length := by
 unfold wrt at h
 split at h
 ·rename_i k n l k' z
  split at h
  ·rename_i hk; subst hk
   simp only [Option.some.injEq, Prod.mk.injEq] at h; obtain ⟨rfl, rfl⟩ := h
   simp only [okP] at hv
   rw [cons_single] at hc hn; obtain ⟨hl, rfl⟩ := hc
   simp only [Atom.con] at hn; subst hn
   simp only [List.length_cons, List.length_nil] at hm; subst hm
   rw [cons_single, splice_one _ _ _ (by simp; omega)]
   exact ⟨⟨by simpa using hl, by simp⟩, by simp; omega⟩
  ·simp at h
 ·rename_i k n l k' m' ys
  split at h
  ·rename_i hk; subst hk
   simp only [Option.some.injEq, Prod.mk.injEq] at h; obtain ⟨rfl, rfl⟩ := h
   simp only [okP] at hv
   rw [cons_single] at hc hn; obtain ⟨hl, rfl⟩ := hc
   obtain ⟨hy, rfl⟩ := hn
   simp only [List.length_map] at hm
   have : m = m' := by omega
   subst this
   rw [cons_single]
   exact ⟨⟨by rw [splice_len _ _ _ _ (by omega) hy]; exact hl, by rw [splice_map]⟩, by simp; omega⟩
  ·simp at h
 ·rename_i k n l s v k' m' ys
  split at h
  ·rename_i hk; subst hk
   simp only [Option.some.injEq, Prod.mk.injEq] at h; obtain ⟨rfl, rfl⟩ := h
   obtain ⟨rfl, hms⟩ := hv
   obtain ⟨x, y, rfl, ⟨hl, rfl⟩, hy⟩ := hc
   rw [cons_single] at hy hn
   obtain ⟨hvl, rfl, h1⟩ := hy
   obtain ⟨hy, rfl⟩ := hn
   simp only [List.length_map] at hm
   have : m = m' := by omega
   subst this
   rw [splice_at (by simpa using hl)]
   refine ⟨⟨_, _, rfl, ⟨by simp [hl, hy], by simp⟩, ?_⟩, by simp; omega⟩
   rw [cons_single]
   exact ⟨by simp; omega, rfl, fun z hz => h1 z (List.mem_of_mem_drop hz)⟩
  ·simp at h
 ·rename_i k n l s v k' z
  split at h
  ·rename_i hk; subst hk
   simp only [Option.some.injEq, Prod.mk.injEq] at h; obtain ⟨rfl, rfl⟩ := h
   obtain ⟨rfl, hms⟩ := hv
   obtain ⟨x, y, rfl, ⟨hl, rfl⟩, hy⟩ := hc
   rw [cons_single] at hy hn
   obtain ⟨hvl, rfl, h1⟩ := hy
   simp only [Atom.con] at hn; subst hn
   simp only [List.length_cons, List.length_nil] at hm; subst hm
   rw [splice_at (by simpa using hl)]
   refine ⟨⟨_, _, rfl, ⟨by simp [hl], by simp⟩, ?_⟩, by simp; omega⟩
   rw [cons_single]
   exact ⟨by simp; omega, rfl, fun z hz => h1 z (List.mem_of_mem_drop hz)⟩
  ·simp at h
 ·simp at h
 ·simp only [Option.map_eq_some_iff, Prod.mk.injEq] at h
  obtain ⟨o, ho, rfl, rfl⟩ := h
  exact putC_con ho hc hn hm

def mulz (a z : Nat) : Nat := match z with
 | 1 => a
 | z => a * z

theorem mulz_eq (a z : Nat) : mulz a z = a * z := by
 unfold mulz; split <;> simp

def addc (c s : Nat) : Nat := match c with
 | 0 => s
 | c => c + s

theorem addc_eq (c s : Nat) : addc c s = c + s := by
 unfold addc; split <;> simp

section ops
variable (T : Tab) (ρ : Rho) (K : Know) (n : Nat)

def opLoad (t : TypeId) (x : AV) : Option Ox :=
  match T t, ptr x with
  | some e, some (j, c, sym) =>
    (match K.at j with
     | none => none
     | some b =>
       if e.size = 0 then none else
       match rng sym b.cells c e.size with
       | some (vc, out) => (mk1 e out).map fun y => ⟨vc, .o y, [], false⟩
       | none => none)
  | _, _ => none

def opStore (t : TypeId) (x v : AV) : Option Ox :=
  match T t, ptr x, v with
  | some e, some (j, c, sym), .o y =>
    (match K.at j with
     | none => none
     | some b =>
       if b.own = true ∧ e.size ≠ 0 ∧ sizes y.cells = e.size then
         (match wrt sym b.cells c e.size y.cells with
          | some (vc, out) => some ⟨vc, .u, [(j, some ⟨true, out⟩)], false⟩
          | none => none)
       else none)
  | _, _, _ => none

def opFieldAddr (s : TypeId) (x : AV) (f : Nat) : Option Ox :=
  match T s with
  | some ⟨.struct fs, _, _, _, _⟩ =>
    (match fs[f]? with
     | none => none
     | some fd =>
       match T fd.type with
       | none => none
       | some e => if e.size = 0 then none else
         match x with
         | .o (.a (.p j c)) => some ⟨none, .o (.a (.p j (c + fd.offset))), [], false⟩
         | .o (.a (.ps j c)) => some ⟨none, .o (.a (.ps j (c + fd.offset))), [], false⟩
         | _ => none)
  | _ => none

def opIndexAddr (t : TypeId) (st : Bool) (x ix : AV) : Option Ox :=
  match T t, x, ix with
  | some ⟨.array len el, _, _, _, _⟩, .o (.a (.p j c)), .o (.a (.i _ i)) =>
    (match T el with
     | none => none
     | some e =>
       if st = true then (if 0 ≤ i ∧ i < (len : Int) then some ⟨none, .o (.a (.p j (c + i.toNat * e.size))), [], false⟩ else none)
       else some ⟨some (0 ≤ i ∧ i < (len : Int)), .o (.a (.ps j (addc c (mulz i.toNat e.size)))), [], false⟩)
  | some ⟨.array len el, _, _, _, _⟩, .o (.a (.ps j c)), .o (.a (.i _ i)) =>
    (match T el with
     | none => none
     | some e => some ⟨some (0 ≤ i ∧ i < (len : Int)), .o (.a (.ps j (addc c (mulz i.toNat e.size)))), [], false⟩)
  | some ⟨.slice el, _, _, _, _⟩, .o (.a (.sl j c len _)), .o (.a (.i _ i)) =>
    (match T el with
     | none => none
     | some e => some ⟨some (0 ≤ i ∧ i < (len : Int)), .o (.a (.ps j (addc c (mulz i.toNat e.size)))), [], false⟩)
  | some ⟨.slice el, _, _, _, _⟩, .o (.a (.rs j c len _)), .o (.a (.i _ i)) =>
    (match T el with
     | none => none
     | some e => some ⟨some (0 ≤ i ∧ i < (len : Int)), .o (.a (.ps j (addc c (mulz i.toNat e.size)))), [], false⟩)
  | _, _, _ => none

def opIndex (t : TypeId) (x ix : AV) : Option Ox :=
  match T t, x, ix with
  | some ⟨.array len el, _, _, _, _⟩, .o (.g l), .o (.a (.i _ i)) =>
    (match T el with
     | none => none
     | some e =>
       if e.size = 0 then none else
       match rng true l (mulz i.toNat e.size) e.size with
       | some (vc, out) => (mk1 e out).map fun y => ⟨some ((0 ≤ i ∧ i < (len : Int)) ∧ okP vc), .o y, [], false⟩
       | none => none)
  | _, _, _ => none

def opField (t : TypeId) (x : AV) (f : Nat) : Option Ox :=
  match T t, x with
  | some ⟨.struct fs, _, _, _, _⟩, .o (.g l) =>
    (match fs[f]? with
     | none => none
     | some fd =>
       match T fd.type with
       | none => none
       | some e =>
         if e.size = 0 then none else
         match takeC l fd.offset e.size with
         | some out => (mk1 e out).map fun y => ⟨none, .o y, [], false⟩
         | none => none)
  | _, _ => none

def bits2 (op : BinOp) (k : IntKind) (x y : Int) : Int :=
 let a := BitVec.ofInt k.bits x
 let b := BitVec.ofInt k.bits y
 match op with
 | .and => k.wrap (a &&& b).toNat
 | .or => k.wrap (a ||| b).toNat
 | .xor => k.wrap (a ^^^ b).toNat
 | _ => k.wrap (a &&& ~~~b).toNat
def shl (k : IntKind) (x y : Int) : Int := k.wrap (x * 2 ^ (min y.toNat k.bits))
def shr (k : IntKind) (x y : Int) : Int := x.fdiv (2 ^ (min y.toNat k.bits))

def opBin (op : BinOp) (t : TypeId) (x y : AV) : Option Ox :=
  match op, x, y with
  | .shl, .o (.a (.i k a)), .o (.a (.i _ b)) => some ⟨some (0 ≤ b), .o (.a (.i k (shl k a b))), [], false⟩
  | .shr, .o (.a (.i k a)), .o (.a (.i _ b)) => some ⟨some (0 ≤ b), .o (.a (.i k (shr k a b))), [], false⟩
  | op, .o (.a (.i k a)), .o (.a (.i k' b)) =>
    if k ≠ k' then none else
    (match op with
     | .add => some ⟨none, .o (.a (.i k (k.wrap (a + b)))), [], false⟩
     | .sub => some ⟨none, .o (.a (.i k (k.wrap (a - b)))), [], false⟩
     | .mul => some ⟨none, .o (.a (.i k (k.wrap (a * b)))), [], false⟩
     | .quo => some ⟨some (b ≠ 0), .o (.a (.i k (k.wrap (a.tdiv b)))), [], false⟩
     | .rem => some ⟨some (b ≠ 0), .o (.a (.i k (a.tmod b))), [], false⟩
     | .and => some ⟨none, .o (.a (.i k (bits2 .and k a b))), [], false⟩
     | .or => some ⟨none, .o (.a (.i k (bits2 .or k a b))), [], false⟩
     | .xor => some ⟨none, .o (.a (.i k (bits2 .xor k a b))), [], false⟩
     | .andNot => some ⟨none, .o (.a (.i k (bits2 .andNot k a b))), [], false⟩
     | .eql => some ⟨none, .o (.a (.b (a == b))), [], false⟩
     | .neq => some ⟨none, .o (.a (.b (a != b))), [], false⟩
     | .lss => some ⟨none, .o (.a (.b (decide (a < b)))), [], false⟩
     | .leq => some ⟨none, .o (.a (.b (decide (a ≤ b)))), [], false⟩
     | .gtr => some ⟨none, .o (.a (.b (decide (a > b)))), [], false⟩
     | .geq => some ⟨none, .o (.a (.b (decide (a ≥ b)))), [], false⟩
     | _ => none)
  | op, .o (.a (.b a)), .o (.a (.b b)) =>
    (match T t, op with
     | some ⟨.bool, _, _, _, _⟩, .eql => some ⟨none, .o (.a (.b (a == b))), [], false⟩
     | some ⟨.bool, _, _, _, _⟩, .neq => some ⟨none, .o (.a (.b (!(a == b)))), [], false⟩
     | _, _ => none)
  | op, .o (.a (.raw (.pointer none))), .o (.a (.raw (.pointer none))) =>
    (match T t, op with
     | some ⟨.pointer _, _, _, _, _⟩, .eql => some ⟨none, .o (.a (.b true)), [], false⟩
     | some ⟨.pointer _, _, _, _, _⟩, .neq => some ⟨none, .o (.a (.b false)), [], false⟩
     | _, _ => none)
  | op, .o (.a (.p _ _)), .o (.a (.raw (.pointer none))) =>
    (match T t, op with
     | some ⟨.pointer _, _, _, _, _⟩, .eql => some ⟨none, .o (.a (.b false)), [], false⟩
     | some ⟨.pointer _, _, _, _, _⟩, .neq => some ⟨none, .o (.a (.b true)), [], false⟩
     | _, _ => none)
  | op, .o (.a (.ip _ _ _)), .o (.a (.raw .nilIface)) =>
    (match T t, op with
     | some ⟨.interface _, _, _, _, _⟩, .eql => some ⟨none, .o (.a (.b false)), [], false⟩
     | some ⟨.interface _, _, _, _, _⟩, .neq => some ⟨none, .o (.a (.b true)), [], false⟩
     | _, _ => none)
  | op, .o (.g [.ints k m xs]), .o (.g [.ints k' m' ys]) =>
    (match T t, op with
     | some ⟨.array len el, _, _, _, true⟩, .eql =>
       (match T el with
        | some ⟨.int _, 1, _, _, _⟩ => if k = k' ∧ m = len ∧ m' = len then some ⟨none, .o (.a (.b (decide (xs = ys)))), [], false⟩ else none
        | _ => none)
     | some ⟨.array len el, _, _, _, true⟩, .neq =>
       (match T el with
        | some ⟨.int _, 1, _, _, _⟩ => if k = k' ∧ m = len ∧ m' = len then some ⟨none, .o (.a (.b (!decide (xs = ys)))), [], false⟩ else none
        | _ => none)
     | _, _ => none)
  | _, _, _ => none

def opUn (op : UnOp) (x : AV) : Option Ox :=
 match op, x with
 | .neg, .o (.a (.i k a)) => some ⟨none, .o (.a (.i k (k.wrap (0 - a)))), [], false⟩
 | .xor, .o (.a (.i k a)) => some ⟨none, .o (.a (.i k (bits2 .xor k (if k.signed then -1 else k.max) a))), [], false⟩
 | .not, .o (.a (.b x)) => some ⟨none, .o (.a (.b (!x))), [], false⟩
 | _, _ => none

def opConvert (dst : TypeId) (x : AV) : Option Ox :=
 match T dst, x with
 | some ⟨.int k, _, _, _, _⟩, .o (.a (.i _ a)) => some ⟨none, .o (.a (.i k (k.wrap a))), [], false⟩
 | _, _ => none

def opExtract (x : AV) (i : Nat) : Option Ox :=
 match x with
 | .t l => (l[i]?).map fun v => ⟨none, .o v, [], false⟩
 | _ => none

def opAlloc (t : TypeId) : Option Ox :=
 match T t with
 | some e => if nomL n (n + 1) e.zero then some ⟨none, .o (.a (.p n 0)), [(n, some ⟨true, e.zero⟩)], true⟩ else none
 | none => none
def opBox (x : AV) : Option Ox :=
 match x with
 | .o y => if nomL n (n + 1) y.cells then some ⟨none, .o (.a (.p n 0)), [(n, some ⟨true, y.cells⟩)], true⟩ else none
 | _ => none
end ops

/- soundness -/
section sound
variable {P : Program} {T : Tab} {w0 : World} {rw : List Nat} {β : Env} {K : Know} {w : World}

def Goes (P : Program) (w0 : World) (rw : List Nat) (β : Env) (K : Know) (w : World) (n : Nat) (s : Sem Value) (x : Ox) : Prop :=
 ∃ β' v w', s.run P w = .ok v w' ∧ Agree n (n + cond x.al 1 0) β β' ∧ x.val.con β' v ∧ RelW w0 rw β' (app K x.ch) w'

theorem agree_refl (lo hi : Nat) (β : Env) : Agree lo hi β β := fun _ _ => rfl

theorem Goes.quiet {n : Nat} {s : Sem Value} {x : Ox} {v : Value} (hR : RelW w0 rw β K w) (h : s.run P w = .ok v w) (hv : x.val.con β v) (hx : x.ch = []) : Goes P w0 rw β K w n s x :=
 ⟨β, v, w, h, agree_refl _ _ _, hv, by rw [hx]; exact hR⟩

theorem run_load {t : TypeId} {e : TE} (hT : TEOk P t e) (a : Addr) (cs : List Value) (hl : cs.length = e.size) (h1 : aggD e.d = false → cs.length = 1) (hc : ∀ (i : Nat) (v : Value), cs[i]? = some v → w.cell? (a.add i) = some v) :
  (loadVar t a).run P w = .ok (valOf e cs) w := by
 obtain ⟨i, z, hi, hs, _⟩ := hT.info
 unfold valOf
 by_cases ha : aggD e.d = true
 ·rw [if_pos ha]; exact run_load_agg w hT.und ha hi a cs (by omega) hc
 ·have ha : aggD e.d = false := by simpa using ha
  rw [if_neg (by simp [ha])]
  match cs, h1 ha with
  | [v], _ =>
   have := hc 0 v rfl
   rw [show a.add 0 = a from rfl] at this
   exact run_load_one w hT.und ha a v this

theorem opLoad_ok (hT : TabOk P T) {n : Nat} {t : TypeId} {x : AV} {o : Ox} {v : Value} (h : opLoad T K t x = some o) (hvc : okP o.vc) (hx : x.con β v) (hR : RelW w0 rw β K w) :
  Goes P w0 rw β K w n (Instr.loadAt t v) o := by
 unfold opLoad at h
 split at h
 ·rename_i e j c sym he hp
  obtain ⟨r, hr, rfl⟩ := ptr_con hp hx
  split at h
  ·simp at h
  ·rename_i b hb
   split at h
   ·simp at h
   ·rename_i hz
    split at h
    ·rename_i vc out hrng
     simp only [Option.map_eq_some_iff] at h
     obtain ⟨y, hy, rfl⟩ := h
     obtain ⟨cs, hc, hd⟩ := Blk.cellsAt (hR.holds j b hb) hr
     obtain ⟨ho, hl⟩ := rng_con hrng hvc (by omega) hc
     obtain ⟨hy1, hy2⟩ := mk1_con hy ho (sub_len _ _ _ hl)
     refine Goes.quiet hR ?_ hy1 rfl
     show (loadVar t _).run P w = _
     refine run_load (hT t e he) _ _ (sub_len _ _ _ hl) hy2 ?_
     intro i v hv
     rw [addr_add, Nat.add_assoc]; exact hd _ _ (getElem?_sub _ _ _ _ _ hv)
    ·simp at h
 ·simp at h

theorem opStore_ok (hT : TabOk P T) {t : TypeId} {x y : AV} {o : Ox} {v u : Value} (h : opStore T K t x y = some o) (hvc : okP o.vc) (hx : x.con β v) (hy : y.con β u) (hR : RelW w0 rw β K w) :
  ∃ w', (Instr.storeAt t v u).run P w = .ok () w' ∧ o.val = .u ∧ RelW w0 rw β (app K o.ch) w' := by
 unfold opStore at h
 split at h
 ·rename_i e j c sym y he hp
  obtain ⟨r, hr, rfl⟩ := ptr_con hp hx
  split at h
  ·simp at h
  ·rename_i b hb
   split at h
   ·rename_i hz
    obtain ⟨ho, hz, hsz⟩ := hz
    split at h
    ·rename_i vc out hw
     simp only [Option.some.injEq] at h; subst h
     have hyc := V1.con_cells hy
     have hlen : u.cells.toList.length = e.size := by rw [cons_len hyc]; exact hsz
     obtain ⟨w', hrun, hrel⟩ := RelW.store P hR hb ho hr (fun cs hc => wrt_con hw hvc hc hyc hlen) hyc hlen (by omega)
     refine ⟨w', ?_, rfl, hrel⟩
     obtain ⟨i, z, hi, hs, _⟩ := (hT t e he).info
     have hl2 : u.cells.size = i.size := by rw [hs, ← hlen]; simp
     show (storeVar t _ u).run P w = _
     unfold storeVar
     simp only [Sem.run_bind, run_sizeOf' w hi, Result.andThen_ok, Sem.run_ite]
     rw [if_neg (by simp [hl2])]
     exact hrun
    ·simp at h
   ·simp at h
 ·simp at h

theorem opFieldAddr_ok (hT : TabOk P T) {n : Nat} {s : TypeId} {f : Nat} {x : AV} {o : Ox} {v : Value} (h : opFieldAddr T s x f = some o) (hx : x.con β v) (hR : RelW w0 rw β K w) :
  Goes P w0 rw β K w n (Instr.fieldAt s v f) o := by
 unfold opFieldAddr at h
 split at h
 ·rename_i fs sz by_ ze eo he
  split at h
  ·simp at h
  ·rename_i fd hf
   split at h
   ·simp at h
   ·rename_i e hfe
    split at h
    ·simp at h
    ·rename_i hz
     obtain ⟨i, z, hi, hs, _⟩ := (hT _ _ hfe).info
     have hu := (hT _ _ he).und
     have run : ∀ (bk c : Nat), (Instr.fieldAt s (.pointer (some ⟨bk, c, none⟩)) f).run P w = .ok (.pointer (some ⟨bk, c + fd.offset, none⟩)) w := by
      intro bk c
      unfold Instr.fieldAt
      simp only [Sem.run_bind, run_underlying hu, Result.andThen_ok, hf, Instr.sureAddr, Sem.run_pure, fieldPlace, run_sizeOf' w hi]
      rw [if_neg (by rw [hs]; exact hz)]
      simp [addr_add]
     split at h
     ·simp only [Option.some.injEq] at h; subst h
      obtain ⟨r, hr, hv⟩ := hx
      simp only [List.cons.injEq, and_true] at hv; subst hv
      refine Goes.quiet hR (run _ _) ⟨r, hr, by simp [Nat.add_assoc]⟩ rfl
     ·simp only [Option.some.injEq] at h; subst h
      obtain ⟨r, hr, hv⟩ := hx
      simp only [List.cons.injEq, and_true] at hv; subst hv
      refine Goes.quiet hR (run _ _) ⟨r, hr, by simp [Nat.add_assoc]⟩ rfl
     ·simp at h
 ·simp at h

theorem opIndexAddr_ok (hT : TabOk P T) {n : Nat} {t : TypeId} {st : Bool} {x ix : AV} {o : Ox} {v u : Value} (h : opIndexAddr T t st x ix = some o) (hvc : okP o.vc) (hx : x.con β v) (hi : ix.con β u) (hR : RelW w0 rw β K w) :
  Goes P w0 rw β K w n (Instr.indexAt t v u) o := by
 have arr : ∀ (len : Nat) (el : TypeId) (e : TE) (k : IntKind) (i : Int) (bk c : Nat), P.underlying t = some (.array len el) → T el = some e → 0 ≤ i → i < (len : Int) →
   (Instr.indexAt t (.pointer (some ⟨bk, c, none⟩)) (.int k i)).run P w = .ok (.pointer (some ⟨bk, c + i.toNat * e.size, none⟩)) w := by
  intro len el e k i bk c hu he h0 h1
  obtain ⟨ii, z, hii, hs, _⟩ := (hT _ _ he).info
  unfold Instr.indexAt
  simp only [asIntOf, pure_bind, Sem.run_bind, run_underlying hu, Result.andThen_ok, Instr.sureAddr, Sem.run_pure, Sem.run_ite, run_sizeOf' w hii]
  rw [if_pos ⟨h0, h1⟩, hs, addr_add]
 have slc : ∀ (len cap : Nat) (el : TypeId) (e : TE) (k : IntKind) (i : Int) (bk c : Nat), P.underlying t = some (.slice el) → T el = some e → 0 ≤ i → i < (len : Int) →
   (Instr.indexAt t (.slice (some ⟨bk, c, none⟩) len cap) (.int k i)).run P w = .ok (.pointer (some ⟨bk, c + i.toNat * e.size, none⟩)) w := by
  intro len cap el e k i bk c hu he h0 h1
  obtain ⟨ii, z, hii, hs, _⟩ := (hT _ _ he).info
  unfold Instr.indexAt
  simp only [asIntOf, pure_bind, Sem.run_bind, run_underlying hu, Result.andThen_ok, Instr.sureAddr, Sem.run_pure, Sem.run_ite, run_sizeOf' w hii]
  rw [if_pos ⟨h0, h1⟩, hs, addr_add]
 unfold opIndexAddr at h
 split at h
 ·rename_i len el _ _ _ _ j c k i ht
  obtain ⟨r, hr, hv⟩ := hx
  simp only [List.cons.injEq, and_true] at hv; subst hv
  simp only [AV.con, V1.con, Atom.con, List.cons.injEq, and_true] at hi; subst hi
  split at h
  ·simp at h
  ·rename_i e he
   split at h
   ·split at h
    ·rename_i hb
     simp only [Option.some.injEq] at h; subst h
     exact Goes.quiet hR (arr len el e _ _ _ _ (hT _ _ ht).und he hb.1 hb.2) ⟨r, hr, by simp [Nat.add_assoc]⟩ rfl
    ·simp at h
   ·simp only [Option.some.injEq] at h; subst h
    exact Goes.quiet hR (arr len el e _ _ _ _ (hT _ _ ht).und he hvc.1 hvc.2) ⟨r, hr, by simp [Nat.add_assoc, addc_eq, mulz_eq]⟩ rfl
 ·rename_i len el _ _ _ _ j c k i ht
  obtain ⟨r, hr, hv⟩ := hx
  simp only [List.cons.injEq, and_true] at hv; subst hv
  simp only [AV.con, V1.con, Atom.con, List.cons.injEq, and_true] at hi; subst hi
  split at h
  ·simp at h
  ·rename_i e he
   simp only [Option.some.injEq] at h; subst h
   exact Goes.quiet hR (arr len el e _ _ _ _ (hT _ _ ht).und he hvc.1 hvc.2) ⟨r, hr, by simp [Nat.add_assoc, addc_eq, mulz_eq]⟩ rfl
 ·rename_i el _ _ _ _ j c len cap k i ht
  obtain ⟨base, hv, hlc, hb⟩ := hx
  simp only [List.cons.injEq, and_true] at hv; subst hv
  simp only [AV.con, V1.con, Atom.con, List.cons.injEq, and_true] at hi; subst hi
  split at h
  ·simp at h
  ·rename_i e he
   simp only [Option.some.injEq] at h; subst h
   have hvc' : 0 ≤ i ∧ i < (len : Int) := hvc
   obtain ⟨r, hr, rfl⟩ := hb (by omega)
   exact Goes.quiet hR (slc len _ el e _ _ _ _ (hT _ _ ht).und he hvc.1 hvc.2) ⟨r, hr, by simp [Nat.add_assoc, addc_eq, mulz_eq]⟩ rfl
 ·rename_i el _ _ _ _ j c len z k i ht
  obtain ⟨base, cap, hv, hlc, hb⟩ := hx
  simp only [List.cons.injEq, and_true] at hv; subst hv
  simp only [AV.con, V1.con, Atom.con, List.cons.injEq, and_true] at hi; subst hi
  split at h
  ·simp at h
  ·rename_i e he
   simp only [Option.some.injEq] at h; subst h
   have hvc' : 0 ≤ i ∧ i < (len : Int) := hvc
   obtain ⟨r, hr, rfl, _⟩ := hb (by omega)
   exact Goes.quiet hR (slc len _ el e _ _ _ _ (hT _ _ ht).und he hvc.1 hvc.2) ⟨r, hr, by simp [Nat.add_assoc, addc_eq, mulz_eq]⟩ rfl
 ·simp at h
end sound
end Go.Proofs.YtjmfnjgcofpocaaGreat.X

/- The operations, second part: the rest of the plain ones are sound. -/
namespace Go.Proofs.YtjmfnjgcofpocaaGreat.X
open Go

section sound
variable {P : Program} {T : Tab} {w0 : World} {rw : List Nat} {β : Env} {K : Know} {w : World}

theorem run_part {t : TypeId} {e : TE} (hT : TEOk P t e) (cs : Array Value) (off : Nat) (ds : List Value) (hl : ds.length = e.size) (h1 : aggD e.d = false → ds.length = 1) (hd : ds = sub cs.toList off e.size) :
  (part t cs off).run P w = .ok (valOf e ds) w := by
 obtain ⟨i, z, hi, hs, _⟩ := hT.info
 unfold part valOf
 rw [Sem.run_bind, run_isAgg w hT.und]
 by_cases ha : aggD e.d = true
 ·rw [if_pos ha]
  simp only [ha, Result.andThen_ok, if_true, Sem.run_bind, run_sizeOf' w hi, Sem.run_pure, hs]
  congr 2
  apply Array.toList_inj.1
  simp [hd, sub]
 ·rw [if_neg ha]
  have ha : aggD e.d = false := by simpa using ha
  have h1 := h1 ha
  rw [ha]
  simp only [Result.andThen_ok, Bool.false_eq_true, if_false]
  have : cs[off]? = some (ds.headD undef) := by
   match ds, h1 with
   | [v], _ =>
    have := getElem?_sub cs.toList off e.size 0 v (by rw [← hd]; rfl)
    simpa using this
  rw [this]; rfl

theorem opField_ok (hT : TabOk P T) {n : Nat} {t : TypeId} {f : Nat} {x : AV} {o : Ox} {v : Value} (h : opField T t x f = some o) (hx : x.con β v) (hR : RelW w0 rw β K w) :
  Goes P w0 rw β K w n (Instr.field t v f) o := by
 unfold opField at h
 split at h
 ·rename_i fs _ _ _ _ l ht
  split at h
  ·simp at h
  ·rename_i fd hf
   split at h
   ·simp at h
   ·rename_i e he
    split at h
    ·simp at h
    ·rename_i hz
     split at h
     ·rename_i out hout
      simp only [Option.map_eq_some_iff] at h
      obtain ⟨y, hy, rfl⟩ := h
      obtain ⟨cs, rfl, hc⟩ := hx
      obtain ⟨ho, hl⟩ := takeC_con hout hc
      have hl := hl (by omega)
      obtain ⟨hy1, hy2⟩ := mk1_con hy ho (sub_len _ _ _ hl)
      refine Goes.quiet hR (v := valOf e (sub cs fd.offset e.size)) ?_ hy1 rfl
      unfold Instr.field
      simp only [Sem.run_bind, run_underlying (hT _ _ ht).und, Result.andThen_ok, hf, asAgg, Sem.run_pure]
      exact run_part (hT _ _ he) _ _ _ (sub_len _ _ _ hl) hy2 (by simp)
     ·simp at h
 ·simp at h

theorem opIndex_ok (hT : TabOk P T) {n : Nat} {t : TypeId} {x ix : AV} {o : Ox} {v u : Value} (h : opIndex T t x ix = some o) (hvc : okP o.vc) (hx : x.con β v) (hi : ix.con β u) (hR : RelW w0 rw β K w) :
  Goes P w0 rw β K w n (Instr.index t v u) o := by
 unfold opIndex at h
 split at h
 ·rename_i len el _ _ _ _ l k i ht
  simp only [AV.con, V1.con, Atom.con, List.cons.injEq, and_true] at hi; subst hi
  split at h
  ·simp at h
  ·rename_i e he
   split at h
   ·simp at h
   ·rename_i hz
    split at h
    ·rename_i vc out hout
     simp only [Option.map_eq_some_iff] at h
     obtain ⟨y, hy, rfl⟩ := h
     obtain ⟨⟨h0, h1⟩, hv⟩ := (hvc : (0 ≤ i ∧ i < (len : Int)) ∧ okP vc)
     obtain ⟨cs, rfl, hc⟩ := hx
     obtain ⟨ho, hl⟩ := rng_con hout hv (by omega) hc
     obtain ⟨hy1, hy2⟩ := mk1_con hy ho (sub_len _ _ _ hl)
     obtain ⟨ii, z, hii, hs, _⟩ := (hT _ _ he).info
     refine Goes.quiet hR (v := valOf e (sub cs (mulz i.toNat e.size) e.size)) ?_ hy1 rfl
     unfold Instr.index
     simp only [asIntOf, pure_bind, Sem.run_bind, run_underlying (hT _ _ ht).und, Result.andThen_ok, Sem.run_ite, run_sizeOf' w hii]
     rw [if_pos ⟨h0, h1⟩, hs]
     exact run_part (hT _ _ he) _ _ _ (sub_len _ _ _ hl) hy2 (by simp [mulz_eq])
    ·simp at h
 ·simp at h

theorem opUn_ok {n : Nat} {op : UnOp} {x : AV} {o : Ox} {v : Value} (h : opUn op x = some o) (hx : x.con β v) (hR : RelW w0 rw β K w) : Goes P w0 rw β K w n (Op.unary op v) o := by
 unfold opUn at h
 split at h <;> simp only [Option.some.injEq, reduceCtorEq] at h <;> subst h <;>
  simp only [AV.con, V1.con, Atom.con, List.cons.injEq, and_true] at hx <;> subst hx
 ·exact Goes.quiet hR (v := .int _ _) rfl rfl rfl
 ·exact Goes.quiet hR (v := .int _ _) rfl rfl rfl
 ·exact Goes.quiet hR (v := .bool _) rfl rfl rfl

theorem opConvert_ok (hT : TabOk P T) {n : Nat} {src dst : TypeId} {d : TypeDesc} (hs : P.underlying src = some d) {x : AV} {o : Ox} {v : Value} (h : opConvert T dst x = some o) (hx : x.con β v) (hR : RelW w0 rw β K w) :
  Goes P w0 rw β K w n (convert src dst v) o := by
 unfold opConvert at h
 split at h
 ·rename_i k _ _ _ _ k' a ht
  simp only [Option.some.injEq] at h; subst h
  simp only [AV.con, V1.con, Atom.con, List.cons.injEq, and_true] at hx; subst hx
  refine Goes.quiet hR (v := .int k (k.wrap a)) ?_ rfl rfl
  unfold convert
  simp only [Sem.run_bind, run_underlying hs, run_underlying (hT _ _ ht).und, Result.andThen_ok]
  rfl
 ·simp at h

theorem opExtract_ok {n : Nat} {x : AV} {i : Nat} {o : Ox} {v : Value} (h : opExtract x i = some o) (hx : x.con β v) (hR : RelW w0 rw β K w) : Goes P w0 rw β K w n (Instr.extract v i) o := by
 unfold opExtract at h
 split at h
 ·rename_i l
  simp only [Option.map_eq_some_iff] at h
  obtain ⟨y, hy, rfl⟩ := h
  obtain ⟨vs, rfl, hc⟩ := hx
  have key : ∀ (l : List V1) (vs : List Value) (i : Nat), all2 β l vs → l[i]? = some y → ∃ u, vs[i]? = some u ∧ y.con β u := by
   intro l
   induction l with
   | nil => intro vs i _ h; simp at h
   | cons a r ih =>
    rintro vs i ⟨u, rest, rfl, hu, hr⟩ h
    cases i with
    | zero => simp at h; subst h; exact ⟨u, rfl, hu⟩
    | succ i => simp at h; simpa using ih rest i hr h
  obtain ⟨u, hu, hcon⟩ := key l vs i hc hy
  refine Goes.quiet hR (v := u) ?_ hcon rfl
  unfold Instr.extract
  simp [hu]
 ·simp at h

theorem run_items {e : TypeId} {k0 : IntKind} {bb : Nat} {zz : List Atom} {eo : Bool} (hT : TEOk P e ⟨.int k0, 1, bb, zz, eo⟩) (d : Nat) (k : IntKind) (xs ys : List Int) : ∀ (is : List Nat), (∀ i ∈ is, i < xs.length ∧ i < ys.length) →
  (Op.eqItems (d + 1) e 1 (xs.map (Value.int k)).toArray (ys.map (Value.int k)).toArray is).run P w = .ok (is.all fun i => xs.getD i 0 == ys.getD i 0) w
 | [], _ => rfl
 | i :: is, h => by
  have hi := h i (by simp)
  have p : ∀ (l : List Int), i < l.length → (part e (l.map (Value.int k)).toArray (i * 1)).run P w = .ok (.int k (l.getD i 0)) w := by
   intro l hl
   have := run_part (w := w) hT (l.map (Value.int k)).toArray (i * 1) [.int k (l.getD i 0)] rfl (fun _ => rfl) (by
    simp only [Nat.mul_one]
    rw [← sub_map, sub_one l i 0 hl]; rfl)
   exact this
  unfold Op.eqItems
  rw [Sem.run_bind, p xs hi.1, Result.andThen_ok, Sem.run_bind, p ys hi.2, Result.andThen_ok, Sem.run_bind, run_equalIn_int w d e k k0 _ _ hT.und, Result.andThen_ok]
  have ih := run_items hT d k xs ys is (fun j hj => h j (by simp [hj]))
  simp only [List.all_cons]
  cases hb : (xs.getD i 0 == ys.getD i 0)
  ·simp
  ·simpa using ih

theorem all_range_eq (xs ys : List Int) (n : Nat) (hx : xs.length = n) (hy : ys.length = n) : (List.range n).all (fun i => xs.getD i 0 == ys.getD i 0) = decide (xs = ys) := by
 rw [Bool.eq_iff_iff, decide_eq_true_eq, List.all_eq_true]
 constructor
 ·intro h
  apply List.ext_getElem (by omega)
  intro i h1 h2
  have := h i (by simp; omega)
  simpa [List.getD_eq_getElem?_getD, h1, h2] using this
 ·rintro rfl i _; simp

theorem run_eq_ints {t el : TypeId} {len s1 b1 bb : Nat} {z1 zz : List Atom} {eo1 eo : Bool} {k0 : IntKind} (hT : TEOk P t ⟨.array len el, s1, b1, z1, eo1⟩) (he : TEOk P el ⟨.int k0, 1, bb, zz, eo⟩) (k : IntKind) (xs ys : List Int) (hx : xs.length = len) (hy : ys.length = len) :
  (Op.equal t (.agg (xs.map (Value.int k)).toArray) (.agg (ys.map (Value.int k)).toArray)).run P w = .ok (decide (xs = ys)) w := by
 obtain ⟨i, z, hi, hs, _⟩ := he.info
 have hc : P.cellsOf el = 1 := by unfold Program.cellsOf; rw [hi]; exact hs
 unfold Op.equal
 rw [show Op.maxDepth = 9998 + 1 + 1 from rfl, run_equalIn_array w 9999 _ _ hT.und hi, hc, run_items he 9998 k xs ys _ (fun j hj => by simp at hj; omega), all_range_eq xs ys len hx hy]

theorem run_eq_ptr_nil {t el : TypeId} {s1 b1 : Nat} {z1 : List Atom} {eo1 : Bool} (hT : TEOk P t ⟨.pointer el, s1, b1, z1, eo1⟩) (x : Option Addr) : (Op.equal t (.pointer x) (.pointer none)).run P w = .ok x.isNone w := by
 exact run_equal_pointer_nil w t x (by rw [hT.und]; simp [Program.pointee, hT.und])

theorem run_eq_iface_nil {t : TypeId} {ms : _} {s1 b1 : Nat} {z1 : List Atom} {eo1 : Bool} (hT : TEOk P t ⟨.interface ms, s1, b1, z1, eo1⟩) (u : TypeId) (v : Value) : (Op.equal t (.iface u v) .nilIface).run P w = .ok false w := by
 unfold Op.equal
 rw [show Op.maxDepth = 9999 + 1 from rfl]
 unfold Op.equalIn
 simp only [Sem.run_bind, run_underlying hT.und w, Result.andThen_ok]
 rfl

theorem guard_agg {t : TypeId} {e : TE} (hT : TEOk P t e) (he : e.eqok = true) (op : BinOp) (x y : Operand) (xs ys : Array Value) : (eqGuard op t x y (.agg xs) (.agg ys)).run P w = .ok () w := run_eqGuard_agg w op t x y xs ys (hT.eqg he).1

theorem guard_none (op : BinOp) (t : TypeId) (x y : Operand) (u v : Value) (h : (match u, v with | .nilIface, .nilIface => false | .agg _, .agg _ => false | _, _ => true) = true) : (eqGuard op t x y u v).run P w = .ok () w := by
 unfold eqGuard
 cases op <;> first | rfl | (cases u <;> cases v <;> first | rfl | (simp at h))

theorem opBin_ok (hT : TabOk P T) {n : Nat} {op : BinOp} {t : TypeId} {X Y : Operand} {x y : AV} {o : Ox} {u v : Value} (h : opBin T op t x y = some o) (hvc : okP o.vc) (hx : x.con β u) (hy : y.con β v) (hR : RelW w0 rw β K w) :
    Goes P w0 rw β K w n (do eqGuard op t X Y u v; binOp op t u v) o := by
  unfold opBin at h
  split at h
  · simp only [Option.some.injEq] at h; subst h
    simp only [AV.con, V1.con, Atom.con, List.cons.injEq, and_true] at hx hy; subst hx; subst hy
    rename_i k a k' b
    refine Goes.quiet hR (v := .int k (shl k a b)) ?_ rfl rfl
    rw [Sem.run_bind, guard_none _ _ _ _ _ _ rfl, Result.andThen_ok]
    have hvc : 0 ≤ b := hvc
    simp only [binOp, Op.shift, Sem.run_ite]
    rw [if_neg (by omega)]; rfl
  · simp only [Option.some.injEq] at h; subst h
    simp only [AV.con, V1.con, Atom.con, List.cons.injEq, and_true] at hx hy; subst hx; subst hy
    rename_i k a k' b
    refine Goes.quiet hR (v := .int k (shr k a b)) ?_ rfl rfl
    rw [Sem.run_bind, guard_none _ _ _ _ _ _ rfl, Result.andThen_ok]
    have hvc : 0 ≤ b := hvc
    simp only [binOp, Op.shift, Sem.run_ite]
    rw [if_neg (by omega)]; rfl
  · rename_i k a k' b h1 h2
    simp only [AV.con, V1.con, Atom.con, List.cons.injEq, and_true] at hx hy; subst hx; subst hy
    split at h
    · simp at h
    · rename_i hk
      simp only [ne_eq, Decidable.not_not] at hk; subst hk
      split at h <;> simp only [Option.some.injEq, reduceCtorEq] at h <;> subst h <;>
        (refine Goes.quiet hR ?_ rfl rfl; rw [Sem.run_bind, guard_none _ _ _ _ _ _ rfl, Result.andThen_ok]; try (simp [binOp, Op.intArith, Op.intCmp, Op.intBits, bits2]; done))
      · have hvc : b ≠ 0 := hvc
        simp [binOp, Op.intDiv, hvc]
      · have hvc : b ≠ 0 := hvc
        simp [binOp, Op.intDiv, hvc]
  · rename_i a b
    simp only [AV.con, V1.con, Atom.con, List.cons.injEq, and_true] at hx hy; subst hx; subst hy
    split at h <;> simp only [Option.some.injEq, reduceCtorEq] at h <;> subst h <;> rename_i ht <;>
      (refine Goes.quiet hR ?_ rfl rfl; rw [Sem.run_bind, guard_none _ _ _ _ _ _ rfl, Result.andThen_ok]
       simp [binOp, run_equal_bool w t _ _ (hT _ _ ht).und])
  · simp only [AV.con, V1.con, Atom.con, List.cons.injEq, and_true] at hx hy; obtain ⟨rfl, _⟩ := hx; obtain ⟨rfl, _⟩ := hy
    split at h <;> simp only [Option.some.injEq, reduceCtorEq] at h <;> subst h <;> rename_i ht <;>
      (refine Goes.quiet hR ?_ rfl rfl; rw [Sem.run_bind, guard_none _ _ _ _ _ _ rfl, Result.andThen_ok]
       simp only [binOp, Sem.run_bind, run_eq_ptr_nil (hT _ _ ht) _, Result.andThen_ok]; rfl)
  · simp only [AV.con, V1.con, Atom.con, List.cons.injEq, and_true] at hx hy; obtain ⟨r, _, rfl⟩ := hx; obtain ⟨rfl, _⟩ := hy
    split at h <;> simp only [Option.some.injEq, reduceCtorEq] at h <;> subst h <;> rename_i ht <;>
      (refine Goes.quiet hR ?_ rfl rfl; rw [Sem.run_bind, guard_none _ _ _ _ _ _ rfl, Result.andThen_ok]
       simp only [binOp, Sem.run_bind, run_eq_ptr_nil (hT _ _ ht) _, Result.andThen_ok]; rfl)
  · simp only [AV.con, V1.con, Atom.con, List.cons.injEq, and_true] at hx hy; obtain ⟨r, _, rfl⟩ := hx; obtain ⟨rfl, _⟩ := hy
    split at h <;> simp only [Option.some.injEq, reduceCtorEq] at h <;> subst h <;> rename_i ht <;>
      (refine Goes.quiet hR ?_ rfl rfl; rw [Sem.run_bind, guard_none _ _ _ _ _ _ rfl, Result.andThen_ok]
       simp only [binOp, Sem.run_bind, run_eq_iface_nil (hT _ _ ht) _ _, Result.andThen_ok]; rfl)
  · rename_i k m xs k' m' ys
    obtain ⟨cs, rfl, hcx⟩ := hx
    obtain ⟨ds, rfl, hcy⟩ := hy
    rw [cons_single] at hcx hcy
    obtain ⟨hlx, rfl⟩ := hcx
    obtain ⟨hly, rfl⟩ := hcy
    split at h
    · rename_i len el _ _ _ ht
      split at h
      · rename_i k0 bb zz eo he
        split at h
        · rename_i hk; obtain ⟨rfl, rfl, rfl⟩ := hk
          simp only [Option.some.injEq] at h; subst h
          refine Goes.quiet hR ?_ rfl rfl
          rw [Sem.run_bind, guard_agg (hT _ _ ht) rfl, Result.andThen_ok]
          simp only [binOp, Sem.run_bind, run_eq_ints (hT _ _ ht) (hT _ _ he) k xs ys hlx hly, Result.andThen_ok]
          rfl
        · simp at h
      · simp at h
    · rename_i len el _ _ _ ht
      split at h
      · rename_i k0 bb zz eo he
        split at h
        · rename_i hk; obtain ⟨rfl, rfl, rfl⟩ := hk
          simp only [Option.some.injEq] at h; subst h
          refine Goes.quiet hR ?_ rfl rfl
          rw [Sem.run_bind, guard_agg (hT _ _ ht) rfl, Result.andThen_ok]
          simp only [binOp, Sem.run_bind, run_eq_ints (hT _ _ ht) (hT _ _ he) k xs ys hlx hly, Result.andThen_ok]
          rfl
        · simp at h
      · simp at h
    · simp at h
  · simp at h

theorem opAlloc_ok (hT : TabOk P T) {n : Nat} {t : TypeId} {o : Ox} (h : opAlloc T n t = some o) (hn : K.at n = none) (hK : K.nom n (n + 1) = true) (hR : RelW w0 rw β K w) :
  Goes P w0 rw β K w n (Instr.alloc t true (.tuple #[])) o := by
 unfold opAlloc at h
 split at h
 ·rename_i e he
  split at h
  ·rename_i hnm
   simp only [Option.some.injEq] at h; subst h
   obtain ⟨i, z, hi, hs, hb, hz, hc⟩ := (hT _ _ he).info
   have := RelW.new hR n hn hK (hc β) hnm z.cells.toList t (fun _ _ h => h) (Nat.le_refl _) (cons_one (hc β))
   refine ⟨_, .pointer (some ⟨w.heap.size, 0, none⟩), _, ?_, Env.agree_upd _ _ _, ?_, this⟩
   ·simp only [Instr.alloc, Sem.run_bind, zeroValue, typeInfo, run_program, Result.andThen_ok, hi, Sem.run_pure, hz, newVar, newRow, run_newObj]
   ·exact ⟨_, by unfold Env.upd; rw [if_pos rfl], by simp⟩
  ·simp at h
 ·simp at h

theorem opBox_ok {n : Nat} {t : TypeId} {x : AV} {o : Ox} {v : Value} (h : opBox n x = some o) (hx : x.con β v) (hn : K.at n = none) (hK : K.nom n (n + 1) = true) (hR : RelW w0 rw β K w) :
  Goes P w0 rw β K w n (Instr.box t v) o := by
 unfold opBox at h
 split at h
 ·rename_i y
  split at h
  ·rename_i hnm
   simp only [Option.some.injEq] at h; subst h
   have := RelW.new hR n hn hK (V1.con_cells hx) hnm v.cells.toList t (fun _ _ h => h) (Nat.le_refl _) (cons_one (V1.con_cells hx))
   refine ⟨_, .pointer (some ⟨w.heap.size, 0, none⟩), _, ?_, Env.agree_upd _ _ _, ?_, this⟩
   ·simp only [Instr.box, Sem.run_bind, Result.andThen_ok, Sem.run_pure, newVar, newRow, run_newObj]
   ·exact ⟨_, by unfold Env.upd; rw [if_pos rfl], by simp⟩
  ·simp at h
 ·simp at h
end sound
end Go.Proofs.YtjmfnjgcofpocaaGreat.X

/- The operations, third part: composites, slices, lengths, copies. -/
namespace Go.Proofs.YtjmfnjgcofpocaaGreat.X
open Go

theorem foldSet (off : Nat) : ∀ (l : List Value) (k : Nat) (cs : Array Value), off + k + l.length ≤ cs.size →
  ((l.zipIdx k).foldl (fun (cs : Array Value) (x : Value × Nat) => cs.setIfInBounds (off + x.2) x.1) cs).toList = splice cs.toList (off + k) l.length l
 | [], k, cs, h => by simp [splice]
 | v :: l, k, cs, h => by
  simp only [List.zipIdx_cons, List.foldl_cons]
  rw [foldSet off l (k + 1) _ (by simp at h ⊢; omega)]
  simp only [List.length_cons] at h ⊢
  apply List.ext_getElem?
  intro i
  rw [getElem?_splice _ _ _ _ (by simp; omega) rfl, getElem?_splice _ _ _ _ (by simp; omega) (by simp)]
  simp only [Array.toList_setIfInBounds, List.getElem?_set]
  by_cases h1 : i < off + k
  ·rw [if_pos (by omega), if_pos h1, if_neg (by omega)]
  ·rw [if_neg h1]
   by_cases h2 : i = off + k
   ·subst h2
    rw [if_pos (by omega), if_pos rfl, if_pos (by simp; omega)]
    simp
   ·rw [if_neg (by omega)]
    by_cases h3 : i < off + k + (l.length + 1)
    ·rw [if_pos (by omega), if_pos h3]
     rw [show i - (off + k) = (i - (off + (k + 1))) + 1 by omega, List.getElem?_cons_succ]
    ·rw [if_neg (by omega), if_neg h3, if_neg (by omega)]

def fillA (pl : Nat → Option (Nat × Nat)) (cells : List Atom) : List (Nat × AV) → Option (List Atom)
  | [] => some cells
  | (i, .o y) :: r =>
    (match pl i with
     | none => none
     | some (off, size) =>
       if sizes y.cells = size then
         (match putC cells off size y.cells with
          | some c => fillA pl c r
          | none => none)
       else none)
  | _ => none

theorem fillA_con {β : Env} (pl : Nat → Option (Nat × Nat)) (ρ : Rho) (ev : Operand → Value) (hρ : ∀ x, (ρ x).con β (ev x)) : ∀ (parts : List (Nat × Operand)) (cells out : List Atom) (cs : Array Value), fillA pl cells (parts.map fun x => (x.1, ρ x.2)) = some out → cons β cells cs.toList →
  ∃ ds, Instr.fill pl cs (parts.map fun x => (x.1, ev x.2)) = some ds ∧ cons β out ds.toList
 | [], cells, out, cs, h, hc => by simp only [List.map_nil, fillA, Option.some.injEq] at h; subst h; exact ⟨cs, rfl, hc⟩
 | (i, x) :: r, cells, out, cs, h, hc => by
  simp only [List.map_cons] at h
  have hx := hρ x
  cases hy : ρ x with
  | u => simp [hy, fillA] at h
  | t l => simp [hy, fillA] at h
  | f fn k l => simp [hy, fillA] at h
  | o y =>
   rw [hy] at h hx
   simp only [fillA] at h
   split at h
   ·simp at h
   ·rename_i off size hpl
    split at h
    ·rename_i hsz
     split at h
     ·rename_i c hp
      have hyc := V1.con_cells hx
      have hlen : (ev x).cells.toList.length = size := by rw [cons_len hyc]; exact hsz
      have hlen' : (ev x).cells.size = size := by rw [← hlen]; simp
      obtain ⟨ho, hin⟩ := putC_con hp hc hyc hlen
      have hin : off + (ev x).cells.size ≤ cs.size := by rw [hlen']; simpa using hin
      have hfold : ((ev x).cells.zipIdx.foldl (fun cs (c, j) => cs.setIfInBounds (off + j) c) cs).toList = splice cs.toList off size (ev x).cells.toList := by
       have := foldSet off (ev x).cells.toList 0 cs (by simpa using hin)
       rw [← Array.foldl_toList, Array.toList_zipIdx]
       rw [hlen] at this
       exact this
      obtain ⟨ds, hds, hcon⟩ := fillA_con pl ρ ev hρ r c out _ h (by rw [hfold]; exact ho)
      refine ⟨ds, ?_, hcon⟩
      simp only [List.map_cons, Instr.fill, hpl]
      rw [if_neg (by simp [hlen']; omega)]
      exact hds
     ·simp at h
    ·simp at h

def placesOf (T : Tab) (fs : List Field) : Option (List (Nat × Nat)) := fs.mapM fun f => (T f.type).map fun e => (f.offset, e.size)

section ops
variable (T : Tab) (ρ : Rho) (K : Know) (n : Nat)

def opBuild (t : TypeId) (parts : List (Nat × Operand)) : Option Ox :=
  match T t with
  | some ⟨.array _ el, _, _, z, _⟩ =>
    (match T el with
     | some e => (fillA (fun i => some (i * e.size, e.size)) z (parts.map fun x => (x.1, ρ x.2))).map fun out => ⟨none, .o (.g out), [], false⟩
     | none => none)
  | some ⟨.struct fs, _, _, z, _⟩ =>
    (match placesOf T fs.toList with
     | some pl => (fillA (fun i => pl.toArray[i]?) z (parts.map fun x => (x.1, ρ x.2))).map fun out => ⟨none, .o (.g out), [], false⟩
     | none => none)
  | _ => none
end ops

section sound
variable {P : Program} {T : Tab} {w0 : World} {rw : List Nat} {β : Env} {K : Know} {w : World}

theorem placesOf_ok (hT : TabOk P T) : ∀ {fs : List Field} {pl : List (Nat × Nat)}, placesOf T fs = some pl → fs.mapM (fun f => (P.info? f.type).map fun i => (f.offset, i.size)) = some pl
 | [], pl, h => by simpa [placesOf] using h
 | f :: fs, pl, h => by
  simp only [placesOf, List.mapM_cons, Option.bind_eq_bind, Option.pure_def] at h ⊢
  simp only [Option.bind_eq_some_iff, Option.map_eq_some_iff, Option.some.injEq] at h ⊢
  obtain ⟨p, ⟨e, he, rfl⟩, r, hr, rfl⟩ := h
  obtain ⟨i, z, hi, hs, _⟩ := (hT _ _ he).info
  exact ⟨_, ⟨i, hi, by rw [hs]⟩, r, placesOf_ok hT hr, rfl⟩

theorem opBuild_ok (hT : TabOk P T) {n : Nat} {ρ : Rho} {ev : Operand → Value} (hρ : ∀ x, (ρ x).con β (ev x)) {t : TypeId} {parts : Array (Nat × Operand)} {o : Ox} (h : opBuild T ρ t parts.toList = some o) (hR : RelW w0 rw β K w) :
  Goes P w0 rw β K w n (Instr.build t (parts.map fun (i, x) => (i, ev x))) o := by
 have hparts : (parts.map fun (i, x) => (i, ev x)).toList = parts.toList.map fun x => (x.1, ev x.2) := by simp
 unfold opBuild at h
 split at h
 ·rename_i len el _ _ z _ ht
  split at h
  ·rename_i e he
   simp only [Option.map_eq_some_iff] at h
   obtain ⟨out, hf, rfl⟩ := h
   obtain ⟨it, zv, hit, _, _, hz, hzc⟩ := (hT _ _ ht).info
   obtain ⟨ie, _, hie, hs, _⟩ := (hT _ _ he).info
   obtain ⟨ds, hds, hcon⟩ := fillA_con _ ρ ev hρ _ _ _ _ hf (hzc β)
   refine Goes.quiet hR (v := .agg ds) (run_build w t _ ds ?_) ⟨ds.toList, by simp, hcon⟩ rfl
   unfold Program.built
   rw [hparts]
   simp only [hit, (hT _ _ ht).und, hz, hie, hs]
   exact hds
  ·simp at h
 ·rename_i fs _ _ z _ ht
  split at h
  ·rename_i pl hpl
   simp only [Option.map_eq_some_iff] at h
   obtain ⟨out, hf, rfl⟩ := h
   obtain ⟨it, zv, hit, _, _, hz, hzc⟩ := (hT _ _ ht).info
   obtain ⟨ds, hds, hcon⟩ := fillA_con _ ρ ev hρ _ _ _ _ hf (hzc β)
   refine Goes.quiet hR (v := .agg ds) (run_build w t _ ds ?_) ⟨ds.toList, by simp, hcon⟩ rfl
   unfold Program.built
   rw [hparts]
   simp only [hit, (hT _ _ ht).und, hz, placesOf_ok hT hpl]
   exact hds
  ·simp at h
 ·simp at h
end sound

/- rows of equal parts -/
def repA (len : Nat) (z : List Atom) : List Atom :=
 match z with
 | [.i k x] => [.ints k len (List.replicate len x)]
 | [.ints k m l] => if l = List.replicate m 0 then [.ints k (len * m) (List.replicate (len * m) 0)] else [.ints k (len * m) (List.replicate len l).flatten]
 | z => (List.replicate len z).flatten

theorem cons_flatten {β : Env} {z : List Atom} {zs : List Value} (h : cons β z zs) : ∀ len, cons β (List.replicate len z).flatten (List.replicate len zs).flatten
 | 0 => rfl
 | len + 1 => by
  simp only [List.replicate_succ, List.flatten_cons]
  exact cons_append h (cons_flatten h len)

theorem flatten_one {α : Type} (x : α) (len : Nat) : (List.replicate len [x]).flatten = List.replicate len x := by
 induction len with
 | zero => rfl
 | succ n ih => simp [List.replicate_succ, ih]

theorem flatten_rep {α : Type} (x : α) (m len : Nat) : (List.replicate len (List.replicate m x)).flatten = List.replicate (len * m) x := by
 induction len with
 | zero => simp
 | succ n ih => rw [List.replicate_succ, List.flatten_cons, ih, List.replicate_append_replicate]; congr 1; rw [Nat.succ_mul, Nat.add_comm]

theorem repA_con {β : Env} {z : List Atom} {zs : List Value} (h : cons β z zs) (len : Nat) : cons β (repA len z) (List.replicate len zs).flatten := by
 unfold repA
 split
 ·rw [cons_single] at h ⊢
  simp only [Atom.con] at h; subst h
  rw [flatten_one]
  exact ⟨by simp, by simp⟩
 ·rename_i k m l
  rw [cons_single] at h
  obtain ⟨hl, rfl⟩ := h
  have hm : (List.replicate len (l.map (Value.int k))).flatten = ((List.replicate len l).flatten).map (Value.int k) := by
   rw [List.map_flatten, List.map_replicate]
  have hlen : (List.replicate len l).flatten.length = len * m := by simp [hl]
  split
  ·rename_i he
   rw [cons_single, hm, he, flatten_rep]
   exact ⟨by simp, rfl⟩
  ·rw [cons_single, hm]
   exact ⟨hlen, rfl⟩
 ·exact cons_flatten h len

theorem range_rep (zs : Array Value) (len : Nat) : ((Array.range (len * zs.size)).map (fun i => zs[i % zs.size]!)).toList = (List.replicate len zs.toList).flatten := by
 rw [Array.toList_map, Array.toList_range]
 induction len with
 | zero => simp
 | succ n ih =>
  rw [Nat.succ_mul, List.replicate_succ', List.flatten_append, ← ih, List.range_add, List.map_append]
  congr 1
  simp only [List.map_map, List.flatten_cons, List.flatten_nil, List.append_nil]
  apply List.ext_getElem
  ·simp
  ·intro i h1 h2
   simp at h1
   have hmod : (n * zs.size + i) % zs.size = i := by rw [Nat.mul_comm, Nat.mul_add_mod]; exact Nat.mod_eq_of_lt h1
   simp [hmod, h1]

section ops2
variable (T : Tab) (K : Know) (n : Nat)

def opBuildSlice (ρ : Rho) (t : TypeId) (len : Nat) (parts : List (Nat × Operand)) : Option Ox :=
  match T t with
  | some ⟨.slice el, _, _, _, _⟩ =>
    (match T el with
     | some e =>
       if len * e.size ≤ 16777216 ∧ e.size ≠ 0 then
         (match fillA (fun i => some (i * e.size, e.size)) (repA len e.zero) (parts.map fun x => (x.1, ρ x.2)) with
          | some out => if nomL n (n + 1) out then some ⟨none, .o (.a (.sl n 0 len len)), [(n, some ⟨true, out⟩)], true⟩ else none
          | none => none)
       else none
     | none => none)
  | _ => none

def repS (len : Nat) (e : TE) : Option (List Atom) :=
 match e.zero with
 | [.i k x] => if x = 0 then some [.ints k len (List.replicate len 0)] else none
 | [.ints k m l] => if l = List.replicate m 0 then some [.ints k (len * m) (List.replicate (len * m) 0)] else none
 | [.raw v] => some [.vals len (List.replicate len v)]
 | _ => none

def opMakeSlice (t : TypeId) (l c : AV) : Option Ox :=
  match T t, l, c with
  | some ⟨.slice el, _, _, _, _⟩, .o (.a (.i _ l)), .o (.a (.i _ c)) =>
    (match T el with
     | some e =>
       if e.bytes ≠ 0 ∧ e.size ≠ 0 then
         (match repS c.toNat e with
          | some cells => some ⟨some (0 ≤ l ∧ l ≤ c ∧ c * e.bytes ≤ 281474976710656), .o (.a (.sl n 0 l.toNat c.toNat)), [(n, some ⟨true, cells⟩)], true⟩
          | none => none)
       else none
     | none => none)
  | _, _, _ => none

def intAV : AV → Option Int
 | .o (.a (.i _ x)) => some x
 | _ => none

def opSlice (t : TypeId) (x : AV) (lo hi mx : Option AV) : Option Ox :=
  let L : Option Int := match lo with | none => some 0 | some a => intAV a
  match T t, x, L with
  | some ⟨.array len el, _, _, _, _⟩, .o (.a (.p j c)), some l =>
    (match T el, mx with
     | some e, none =>
       (match hi with
        | none => some ⟨some (0 ≤ l ∧ l ≤ (len : Int)), .o (.a (.sl j (c + mulz l.toNat e.size) (len - l.toNat) (len - l.toNat))), [], false⟩
        | some h => (match intAV h with
          | some h => some ⟨some (0 ≤ l ∧ l ≤ h ∧ h ≤ (len : Int)), .o (.a (.sl j (c + mulz l.toNat e.size) (h.toNat - l.toNat) (len - l.toNat))), [], false⟩
          | none => none))
     | _, _ => none)
  | some ⟨.slice el, _, _, _, _⟩, .o (.a (.sl j c len cap)), some l =>
    (match T el, hi, mx with
     | some e, none, none => some ⟨some (0 ≤ l ∧ l ≤ (len : Int)), .o (.a (.sl j (c + mulz l.toNat e.size) (len - l.toNat) (cap - l.toNat))), [], false⟩
     | some e, some h, none => (match intAV h with
        | some h => some ⟨some (0 ≤ l ∧ l ≤ h ∧ h ≤ (cap : Int)), .o (.a (.sl j (c + mulz l.toNat e.size) (h.toNat - l.toNat) (cap - l.toNat))), [], false⟩
        | none => none)
     | some e, some h, some m => (match intAV h, intAV m with
        | some h, some m => some ⟨some (0 ≤ l ∧ l ≤ h ∧ h ≤ m ∧ m ≤ (cap : Int)), .o (.a (.sl j (c + mulz l.toNat e.size) (h.toNat - l.toNat) (m.toNat - l.toNat))), [], false⟩
        | _, _ => none)
     | _, _, _ => none)
  | some ⟨.slice el, _, _, _, _⟩, .o (.a (.rs j c len z)), some l =>
    (match T el, hi, mx with
     | some e, none, none => if e.size = z then some ⟨some (0 ≤ l ∧ l ≤ (len : Int)), .o (.a (.rs j (c + mulz l.toNat e.size) (len - l.toNat) z)), [], false⟩ else none
     | some e, some h, none => if e.size = z then (match intAV h with
        | some h => some ⟨some (0 ≤ l ∧ l ≤ h ∧ h ≤ (len : Int)), .o (.a (.rs j (c + mulz l.toNat e.size) (h.toNat - l.toNat) z)), [], false⟩
        | none => none) else none
     | some e, some h, some m => (match intAV h, intAV m with
        | some h, some m => some ⟨some (0 ≤ l ∧ l ≤ h ∧ h ≤ m ∧ m ≤ (len : Int)), .o (.a (.sl j (c + mulz l.toNat e.size) (h.toNat - l.toNat) (m.toNat - l.toNat))), [], false⟩
        | _, _ => none)
     | _, _, _ => none)
  | _, _, _ => none

def opS2A (arr : TypeId) (x : AV) : Option Ox :=
 match T arr, x with
 | some ⟨.array m _, _, _, _, _⟩, .o (.a (.sl j c len _)) => if 0 < m then some ⟨some (m ≤ len), .o (.a (.ps j c)), [], false⟩ else none
 | some ⟨.array m _, _, _, _, _⟩, .o (.a (.rs j c len _)) => if 0 < m then some ⟨some (m ≤ len), .o (.a (.ps j c)), [], false⟩ else none
 | _, _ => none

def opLen (t : TypeId) (x : AV) : Option Ox :=
 match T t, x with
 | some ⟨.slice _, _, _, _, _⟩, .o (.a (.sl _ _ len _)) => some ⟨none, .o (.a (.i .i64 len)), [], false⟩
 | some ⟨.slice _, _, _, _, _⟩, .o (.a (.rs _ _ len _)) => some ⟨none, .o (.a (.i .i64 len)), [], false⟩
 | some ⟨.slice _, _, _, _, _⟩, .o (.a (.raw (.slice none 0 0))) => some ⟨none, .o (.a (.i .i64 0)), [], false⟩
 | some ⟨.array m _, _, _, _, _⟩, _ => some ⟨none, .o (.a (.i .i64 m)), [], false⟩
 | _, _ => none

def opCap (t : TypeId) (x : AV) : Option Ox :=
 match T t, x with
 | some ⟨.slice _, _, _, _, _⟩, .o (.a (.sl _ _ _ cap)) => some ⟨none, .o (.a (.i .i64 cap)), [], false⟩
 | _, _ => none

def opMin (x y : AV) : Option Ox :=
 match x, y with
 | .o (.a (.i k a)), .o (.a (.i _ b)) => some ⟨none, .o (.a (.i k (if b < a then b else a))), [], false⟩
 | _, _ => none
def opMin3 (x y z : AV) : Option Ox :=
 match x, y, z with
 | .o (.a (.i k a)), .o (.a (.i _ b)), .o (.a (.i _ c)) => some ⟨none, .o (.a (.i k (if c < (if b < a then b else a) then c else (if b < a then b else a)))), [], false⟩
 | _, _, _ => none
def opMax (x y : AV) : Option Ox :=
 match x, y with
 | .o (.a (.i k a)), .o (.a (.i _ b)) => some ⟨none, .o (.a (.i k (if b > a then b else a))), [], false⟩
 | _, _ => none
end ops2

section sound2
variable {P : Program} {T : Tab} {w0 : World} {rw : List Nat} {β : Env} {K : Know} {w : World}

theorem Goes.made {n : Nat} {s : Sem Value} {cells : List Atom} {cs : List Value} {vc : Option Prop} {val : AV} {ty : TypeId} {v : Value} (hR : RelW w0 rw β K w) (hn : K.at n = none) (hK : K.nom n (n + 1) = true)
  (hc : cons β cells cs) (hcn : nomL n (n + 1) cells = true) (hrun : s.run P w = .ok v { w with heap := w.heap.push (.cells cs.toArray ty) })
  (hv : val.con (β.upd n (some ⟨w.heap.size, 0, cs.length⟩)) v) : Goes P w0 rw β K w n s ⟨vc, val, [(n, some ⟨true, cells⟩)], true⟩ :=
 ⟨_, v, _, hrun, Env.agree_upd _ _ _, hv, RelW.new hR n hn hK hc hcn cs ty (fun _ _ h => h) (Nat.le_refl _) (cons_one hc)⟩

theorem opBuildSlice_ok (hT : TabOk P T) {n : Nat} {ρ : Rho} {ev : Operand → Value} (hρ : ∀ x, (ρ x).con β (ev x)) {t : TypeId} {len : Nat} {parts : Array (Nat × Operand)} {o : Ox} (h : opBuildSlice T n ρ t len parts.toList = some o)
    (hn : K.at n = none) (hK : K.nom n (n + 1) = true) (hR : RelW w0 rw β K w) : Goes P w0 rw β K w n (Instr.buildSlice t len (parts.map fun (i, x) => (i, ev x))) o := by
  have hparts : (parts.map fun (i, x) => (i, ev x)).toList = parts.toList.map fun x => (x.1, ev x.2) := by simp
  unfold opBuildSlice at h
  split at h
  · rename_i el _ _ _ _ ht
    split at h
    · rename_i e he
      split at h
      · rename_i hsz
        split at h
        · rename_i out hf
          split at h
          · rename_i hnm
            simp only [Option.some.injEq] at h; subst h
            obtain ⟨i, z, hi, hs, hb, hz, hzc⟩ := (hT _ _ he).info
            have hzl : z.cells.size = e.size := by have := cons_len (hzc β); rw [(hT _ _ he).zsz] at this; simpa using this
            have hrep := repA_con (hzc β) len
            obtain ⟨ds, hds, hcon⟩ := fillA_con _ ρ ev hρ parts.toList _ _ ((List.replicate len z.cells.toList).flatten).toArray hf (by simpa using hrep)
            refine Goes.made hR hn hK hcon hnm (v := .slice (some ⟨w.heap.size, 0, none⟩) len len) (ty := el) ?_ ?_
            · have hbase : ∀ zz : Array Value, (len * e.size = 0 ∨ zz = z.cells) → (Array.range (len * e.size)).map (fun i => zz[i % zz.size]!) = ((List.replicate len z.cells.toList).flatten).toArray := by
                intro zz hzz
                apply Array.toList_inj.1
                by_cases h0 : len * e.size = 0
                · rw [h0]
                  have : len = 0 := by rcases Nat.mul_eq_zero.1 h0 with h | h; exact h; exact absurd h hsz.2
                  subst this; simp
                · rw [hzz.resolve_left h0, ← hzl]
                  exact range_rep z.cells len
              unfold Instr.buildSlice
              simp only [Sem.run_bind, run_underlying (hT _ _ ht).und, Result.andThen_ok, run_sizeOf' w hi, hs, Sem.run_ite]
              rw [if_neg (by omega)]
              by_cases h0 : len * e.size = 0
              · simp only [if_pos h0, Sem.run_pure, Result.andThen_ok, hbase #[] (.inl h0), hparts, hds, newRow, Sem.run_bind, run_newObj]
              · simp only [if_neg h0, Sem.run_bind, zeroValue, typeInfo, run_program, hi, hz, Sem.run_pure, Result.andThen_ok, hbase z.cells (.inr rfl), hparts, hds, newRow, run_newObj]
            · refine ⟨_, rfl, Nat.le_refl _, fun _ => ⟨_, by unfold Env.upd; rw [if_pos rfl], by simp⟩⟩
          · simp at h
        · simp at h
      · simp at h
    · simp at h
  · simp at h

theorem repS_con {e : TE} {zs : List Value} {len : Nat} {cells : List Atom} (h : repS len e = some cells) (hz : cons β e.zero zs) : cons β cells (List.replicate len zs).flatten ∧ (∀ lo hi, nomL lo hi cells = true) := by
 unfold repS at h
 split at h
 ·rename_i k x hze
  split at h
  ·rename_i hx; subst hx
   simp only [Option.some.injEq] at h; subst h
   rw [hze, cons_single] at hz
   simp only [Atom.con] at hz; subst hz
   rw [flatten_one, cons_single]
   exact ⟨⟨by simp, by simp⟩, fun _ _ => rfl⟩
  ·simp at h
 ·rename_i k m l hze
  split at h
  ·rename_i hl
   simp only [Option.some.injEq] at h; subst h
   rw [hze, cons_single] at hz
   obtain ⟨hlen, rfl⟩ := hz
   rw [hl, List.map_replicate, flatten_rep, cons_single]
   exact ⟨⟨by simp, by simp⟩, fun _ _ => rfl⟩
  ·simp at h
 ·rename_i v hze
  simp only [Option.some.injEq] at h; subst h
  rw [hze, cons_single] at hz
  obtain ⟨rfl, h1⟩ := hz
  rw [flatten_one, cons_single]
  exact ⟨⟨by simp, rfl, fun v hv => by rw [(List.mem_replicate.1 hv).2]; exact h1⟩, fun _ _ => rfl⟩
 ·simp at h

theorem wrap64_id {x : Int} (h0 : 0 ≤ x) (h1 : x ≤ 281474976710656) : IntKind.i64.wrap x = x := by
 have e : x % (18446744073709551616 : Int) = x := Int.emod_eq_of_lt h0 (by omega)
 show (let m := x % (18446744073709551616 : Int); if (true && decide (m ≥ (9223372036854775808 : Int))) = true then m - 18446744073709551616 else m) = x
 simp only [e]
 rw [if_neg]
 simp only [Bool.true_and, decide_eq_true_eq]; omega

theorem opMakeSlice_ok (hT : TabOk P T) {n : Nat} {t : TypeId} {x y : AV} {o : Ox} {u v : Value} (h : opMakeSlice T n t x y = some o) (hvc : okP o.vc) (hx : x.con β u) (hy : y.con β v)
  (hn : K.at n = none) (hK : K.nom n (n + 1) = true) (hR : RelW w0 rw β K w) : Goes P w0 rw β K w n (Instr.makeSlice t u v) o := by
 unfold opMakeSlice at h
 split at h
 ·rename_i el _ _ _ _ k l k' c ht
  split at h
  ·rename_i e he
   split at h
   ·rename_i hsz
    split at h
    ·rename_i cells hcells
     simp only [Option.some.injEq] at h; subst h
     simp only [AV.con, V1.con, Atom.con, List.cons.injEq, and_true] at hx hy; subst hx; subst hy
     have hvc : 0 ≤ l ∧ l ≤ c ∧ c * e.bytes ≤ 281474976710656 := hvc
     obtain ⟨h0, h1, h2⟩ := hvc
     obtain ⟨i, z, hi, hs, hb, hz, hzc⟩ := (hT _ _ he).info
     have hzl : z.cells.size = e.size := by have := cons_len (hzc β); rw [(hT _ _ he).zsz] at this; simpa using this
     obtain ⟨hcon, hnm⟩ := repS_con hcells (hzc β)
     have hcb : c ≤ 281474976710656 := by
      have : c * 1 ≤ c * e.bytes := Int.mul_le_mul_of_nonneg_left (by omega) (by omega)
      omega
     refine Goes.made hR hn hK hcon (hnm _ _) (v := .slice (some ⟨w.heap.size, 0, none⟩) l.toNat c.toNat) (ty := el) ?_ ?_
     ·have hbase : ∀ zz : Array Value, (c.toNat * e.size = 0 ∨ zz = z.cells) → (Array.range (c.toNat * e.size)).map (fun i => zz[i % zz.size]!) = ((List.replicate c.toNat z.cells.toList).flatten).toArray := by
       intro zz hzz
       apply Array.toList_inj.1
       by_cases h0 : c.toNat * e.size = 0
       ·rw [h0]
        have : c.toNat = 0 := by rcases Nat.mul_eq_zero.1 h0 with h | h; exact h; exact absurd h hsz.2
        rw [this]; simp
       ·rw [hzz.resolve_left h0, ← hzl]
        exact range_rep z.cells _
      have hcb2 : (e.bytes : Int) * c = c * e.bytes := Int.mul_comm _ _
      unfold Instr.makeSlice
      simp only [Sem.run_bind, run_underlying (hT _ _ ht).und, Result.andThen_ok, asInt, asIntOf, Sem.run_pure, typeInfo, run_program, hi, hb, wrap64_id (show 0 ≤ l by omega) (by omega), wrap64_id (show 0 ≤ c by omega) hcb, Sem.run_ite]
      rw [if_neg (by simp; omega)]
      simp only [Sem.run_pure, Result.andThen_ok, run_askRoom, sizeOf, Sem.run_bind, typeInfo, run_program, hi, hs]
      by_cases h0 : c.toNat * e.size = 0
      ·simp only [if_pos h0, Sem.run_pure, Result.andThen_ok, hbase #[] (.inl h0), newRow, Sem.run_bind, run_newObj]
      ·simp only [if_neg h0, Sem.run_bind, zeroValue, typeInfo, run_program, hi, hz, Sem.run_pure, Result.andThen_ok, hbase z.cells (.inr rfl), newRow, run_newObj]
     ·refine ⟨_, rfl, by omega, fun _ => ⟨_, by unfold Env.upd; rw [if_pos rfl], by simp⟩⟩
    ·simp at h
   ·simp at h
  ·simp at h
 ·simp at h

theorem opLen_ok (hT : TabOk P T) {n : Nat} {t tt : TypeId} {ats : Array TypeId} (ha : ats[0]? = some t) {x : AV} {o : Ox} {v : Value} (h : opLen T t x = some o) (hx : x.con β v) (hR : RelW w0 rw β K w) :
  Goes P w0 rw β K w n (Builtin.len_ ats tt #[v]) o := by
 unfold opLen at h
 split at h
 ·rename_i el _ _ _ _ j c len cap ht
  simp only [Option.some.injEq] at h; subst h
  obtain ⟨base, hv, _⟩ := hx
  simp only [List.cons.injEq, and_true] at hv; subst hv
  refine Goes.quiet hR (v := .int .i64 len) ?_ rfl rfl
  simp [Builtin.len_, ha, run_underlying (hT _ _ ht).und, goInt]
 ·rename_i el _ _ _ _ j c len cap ht
  simp only [Option.some.injEq] at h; subst h
  obtain ⟨base, cap, hv, _⟩ := hx
  simp only [List.cons.injEq, and_true] at hv; subst hv
  refine Goes.quiet hR (v := .int .i64 len) ?_ rfl rfl
  simp [Builtin.len_, ha, run_underlying (hT _ _ ht).und, goInt]
 ·rename_i el _ _ _ _ ht
  simp only [Option.some.injEq] at h; subst h
  obtain ⟨hv, _⟩ := hx
  simp only [List.cons.injEq, and_true] at hv; subst hv
  refine Goes.quiet hR (v := .int .i64 0) ?_ rfl rfl
  simp [Builtin.len_, ha, run_underlying (hT _ _ ht).und, goInt]
 ·rename_i m el _ _ _ _ ht
  simp only [Option.some.injEq] at h; subst h
  refine Goes.quiet hR (v := .int .i64 m) ?_ rfl rfl
  simp [Builtin.len_, ha, run_underlying (hT _ _ ht).und, goInt]
 ·simp at h

theorem opCap_ok (hT : TabOk P T) {n : Nat} {t tt : TypeId} {ats : Array TypeId} (ha : ats[0]? = some t) {x : AV} {o : Ox} {v : Value} (h : opCap T t x = some o) (hx : x.con β v) (hR : RelW w0 rw β K w) :
  Goes P w0 rw β K w n (Builtin.cap_ ats tt #[v]) o := by
 unfold opCap at h
 split at h
 ·rename_i el _ _ _ _ j c len cap ht
  simp only [Option.some.injEq] at h; subst h
  obtain ⟨base, hv, _⟩ := hx
  simp only [List.cons.injEq, and_true] at hv; subst hv
  refine Goes.quiet hR (v := .int .i64 cap) ?_ rfl rfl
  simp [Builtin.cap_, ha, run_underlying (hT _ _ ht).und, goInt]
 ·simp at h

theorem opMin_ok {n : Nat} {tt : TypeId} {ats : Array TypeId} {x y : AV} {o : Ox} {u v : Value} (h : opMin x y = some o) (hx : x.con β u) (hy : y.con β v) (hR : RelW w0 rw β K w) :
  Goes P w0 rw β K w n (Builtin.min_ ats tt #[u, v]) o := by
 unfold opMin at h
 split at h
 ·simp only [Option.some.injEq] at h; subst h
  simp only [AV.con, V1.con, Atom.con, List.cons.injEq, and_true] at hx hy; subst hx; subst hy
  exact Goes.quiet hR (v := .int _ _) rfl rfl rfl
 ·simp at h

theorem opMin3_ok {n : Nat} {tt : TypeId} {ats : Array TypeId} {x y z : AV} {o : Ox} {u v t : Value} (h : opMin3 x y z = some o) (hx : x.con β u) (hy : y.con β v) (hz : z.con β t) (hR : RelW w0 rw β K w) :
  Goes P w0 rw β K w n (Builtin.min_ ats tt #[u, v, t]) o := by
 unfold opMin3 at h
 split at h
 ·simp only [Option.some.injEq] at h; subst h
  simp only [AV.con, V1.con, Atom.con, List.cons.injEq, and_true] at hx hy hz; subst hx; subst hy; subst hz
  exact Goes.quiet hR (v := .int _ _) rfl rfl rfl
 ·simp at h

theorem opMax_ok {n : Nat} {tt : TypeId} {ats : Array TypeId} {x y : AV} {o : Ox} {u v : Value} (h : opMax x y = some o) (hx : x.con β u) (hy : y.con β v) (hR : RelW w0 rw β K w) :
  Goes P w0 rw β K w n (Builtin.max_ ats tt #[u, v]) o := by
 unfold opMax at h
 split at h
 ·simp only [Option.some.injEq] at h; subst h
  simp only [AV.con, V1.con, Atom.con, List.cons.injEq, and_true] at hx hy; subst hx; subst hy
  exact Goes.quiet hR (v := .int _ _) rfl rfl rfl
 ·simp at h
end sound2
end Go.Proofs.YtjmfnjgcofpocaaGreat.X

/- The core, part 2 of 5: blocks of memory known by number, and an evaluator over loaded code, shown sound. -/
/- The operations, fourth part: slice expressions, copy, append. -/
namespace Go.Proofs.YtjmfnjgcofpocaaGreat.X
open Go

section sound
variable {P : Program} {T : Tab} {w0 : World} {rw : List Nat} {β : Env} {K : Know} {w : World}

theorem intAV_con {x : AV} {i : Int} {v : Value} (h : intAV x = some i) (hc : x.con β v) : ∃ k, v = .int k i := by
 unfold intAV at h
 split at h
 ·simp only [Option.some.injEq] at h; subst h
  rename_i k i
  exact ⟨k, by simpa [AV.con, V1.con, Atom.con] using hc⟩
 ·simp at h

theorem run_bound (k : IntKind) (i : Int) (y : Nat) (code : BoundsCode) (h0 : 0 ≤ i) (h1 : i ≤ (y : Int)) : (Instr.sliceBound (.int k i) y code).run P w = .ok i.toNat w := by
 unfold Instr.sliceBound
 simp only [asIntOf, pure_bind, Sem.run_ite, Sem.run_pure]
 rw [if_pos ⟨h0, h1⟩]

def loRun (lo : Option Value) : Int := match lo with | some (.int _ i) => i | _ => 0
def loOk (lo : Option Value) : Prop := lo = none ∨ ∃ k i, lo = some (.int k i)

theorem bounds_nn (s : Bool) (len cap : Nat) (lo : Option Value) (hlo : loOk lo) (h0 : 0 ≤ loRun lo) (h1 : loRun lo ≤ (len : Int)) : (Instr.sliceBounds s len cap lo none none).run P w = .ok ((loRun lo).toNat, len, cap) w := by
 unfold Instr.sliceBounds
 rcases hlo with rfl | ⟨k, i, rfl⟩
 ·simp [loRun]
 ·simp only [loRun] at h0 h1
  simp [run_bound k i len _ h0 h1, loRun]

theorem bounds_sn (s : Bool) (len cap : Nat) (lo : Option Value) (k : IntKind) (h : Int) (hlo : loOk lo) (h0 : 0 ≤ loRun lo) (h1 : loRun lo ≤ h) (h2 : h ≤ (cap : Int)) :
  (Instr.sliceBounds s len cap lo (some (.int k h)) none).run P w = .ok ((loRun lo).toNat, h.toNat, cap) w := by
 unfold Instr.sliceBounds
 have hh : 0 ≤ h := by omega
 rcases hlo with rfl | ⟨k', i, rfl⟩
 ·simp [loRun, run_bound k h cap _ hh h2]
 ·simp only [loRun] at h0 h1
  simp [run_bound k h cap _ hh h2, run_bound k' i h.toNat _ h0 (by omega), loRun]

theorem bounds_ss (len cap : Nat) (lo : Option Value) (k km : IntKind) (h m : Int) (hlo : loOk lo) (h0 : 0 ≤ loRun lo) (h1 : loRun lo ≤ h) (h2 : h ≤ m) (h3 : m ≤ (cap : Int)) :
  (Instr.sliceBounds true len cap lo (some (.int k h)) (some (.int km m))).run P w = .ok ((loRun lo).toNat, h.toNat, m.toNat) w := by
 unfold Instr.sliceBounds
 have hh : 0 ≤ h := by omega
 have hm : 0 ≤ m := by omega
 rcases hlo with rfl | ⟨k', i, rfl⟩
 ·simp [loRun, run_bound km m cap _ hm h3, run_bound k h m.toNat _ hh (by omega)]
 ·simp only [loRun] at h0 h1
  simp [run_bound km m cap _ hm h3, run_bound k h m.toNat _ hh (by omega), run_bound k' i h.toNat _ h0 (by omega), loRun]

theorem lo_con {ρ : Rho} {ev : Operand → Value} (hρ : ∀ x, (ρ x).con β (ev x)) (lo : Option Operand) {l : Int} (h : (match lo.map ρ with | none => some 0 | some a => intAV a) = some l) :
  loOk (lo.map ev) ∧ loRun (lo.map ev) = l := by
 cases lo with
 | none => simp at h; exact ⟨.inl rfl, by simp [loRun, h]⟩
 | some x =>
  simp only [Option.map_some] at h
  obtain ⟨k, hk⟩ := intAV_con h (hρ x)
  exact ⟨.inr ⟨k, l, by simp [hk]⟩, by simp [loRun, hk]⟩

theorem opSlice_ok (hT : TabOk P T) {n : Nat} {ρ : Rho} {ev : Operand → Value} (hρ : ∀ x, (ρ x).con β (ev x)) {t : TypeId} {x : Operand} {lo hi mx : Option Operand} {o : Ox}
  (h : opSlice T t (ρ x) (lo.map ρ) (hi.map ρ) (mx.map ρ) = some o) (hvc : okP o.vc) (hR : RelW w0 rw β K w) :
  Goes P w0 rw β K w n (Instr.sliceAt t (ev x) (lo.map ev) (hi.map ev) (mx.map ev)) o := by
 have hx := hρ x
 unfold opSlice at h
 simp only at h
 split at h
 ·rename_i len el _ _ _ _ j c l ht hxe hl
  rw [hxe] at hx
  obtain ⟨r, hr, hv⟩ := hx
  simp only [List.cons.injEq, and_true] at hv
  obtain ⟨hlo, hlr⟩ := lo_con hρ lo hl
  split at h
  ·rename_i e he hmx
   have hmx : mx = none := by cases mx <;> simp_all
   subst hmx
   obtain ⟨i, z, hi', hs, _⟩ := (hT _ _ he).info
   have fin : ∀ (hh mm : Nat), (Instr.sliceBounds false len len (lo.map ev) (hi.map ev) none).run P w = .ok (l.toNat, hh, mm) w →
     (Instr.sliceAt t (ev x) (lo.map ev) (hi.map ev) (Option.map ev none)).run P w = .ok (.slice (some (if mm = l.toNat then ⟨r.blk, r.off + c, none⟩ else (⟨r.blk, r.off + c, none⟩ : Addr).add (l.toNat * e.size))) (hh - l.toNat) (mm - l.toNat)) w := by
    intro hh mm hb
    unfold Instr.sliceAt
    simp only [hv, Option.map_none, Sem.run_bind, run_underlying (hT _ _ ht).und, Result.andThen_ok, Instr.sureAddr, Sem.run_pure, hb, run_sizeOf' w hi', hs]
   have con : ∀ (hh mm : Nat), hh ≤ mm → (AV.o (.a (.sl j (c + mulz l.toNat e.size) (hh - l.toNat) (mm - l.toNat)))).con β (.slice (some (if mm = l.toNat then ⟨r.blk, r.off + c, none⟩ else (⟨r.blk, r.off + c, none⟩ : Addr).add (l.toNat * e.size))) (hh - l.toNat) (mm - l.toNat)) := by
    intro hh mm hle
    refine ⟨_, rfl, by omega, fun hpos => ⟨r, hr, ?_⟩⟩
    rw [if_neg (by omega), addr_add, mulz_eq, Nat.add_assoc]
   split at h
   ·rename_i hhi
    have hhi : hi = none := by cases hi <;> simp_all
    subst hhi
    simp only [Option.some.injEq] at h; subst h
    have hvc : 0 ≤ l ∧ l ≤ (len : Int) := hvc
    have hb := bounds_nn (P := P) (w := w) false len len (lo.map ev) hlo (by omega) (by omega)
    rw [hlr] at hb
    exact Goes.quiet hR (fin _ _ hb) (con _ _ (Nat.le_refl _)) rfl
   ·rename_i hh hhi
    split at h
    ·rename_i h' hh'
     simp only [Option.some.injEq] at h; subst h
     cases hi with
     | none => simp at hhi
     | some hx' =>
      simp only [Option.map_some, Option.some.injEq] at hhi
      obtain ⟨k, hk⟩ := intAV_con hh' (hhi ▸ hρ hx')
      have hvc : 0 ≤ l ∧ l ≤ h' ∧ h' ≤ (len : Int) := hvc
      have hb := bounds_sn (P := P) (w := w) false len len (lo.map ev) k h' hlo (by omega) (by omega) hvc.2.2
      rw [hlr, ← hk] at hb
      exact Goes.quiet hR (fin _ _ hb) (con _ _ (by omega)) rfl
    ·simp at h
  ·simp at h
 ·rename_i el _ _ _ _ j c len cap l ht hxe hl
  rw [hxe] at hx
  obtain ⟨base, hv, hlc, hbase⟩ := hx
  simp only [List.cons.injEq, and_true] at hv
  obtain ⟨hlo, hlr⟩ := lo_con hρ lo hl
  have fin : ∀ (e : TE) (hh mm : Nat), T el = some e → (Instr.sliceBounds true len cap (lo.map ev) (hi.map ev) (mx.map ev)).run P w = .ok (l.toNat, hh, mm) w →
    (Instr.sliceAt t (ev x) (lo.map ev) (hi.map ev) (mx.map ev)).run P w = .ok (.slice (if mm = l.toNat then base else base.map (·.add (l.toNat * e.size))) (hh - l.toNat) (mm - l.toNat)) w := by
   intro e hh mm he hb
   obtain ⟨i, z, hi', hs, _⟩ := (hT _ _ he).info
   unfold Instr.sliceAt
   simp only [hv, Sem.run_bind, run_underlying (hT _ _ ht).und, Result.andThen_ok]
   unfold Instr.slice
   simp only [Sem.run_bind, run_underlying (hT _ _ ht).und, Result.andThen_ok, hb, run_sizeOf' w hi', hs, Sem.run_pure]
  have con : ∀ (e : TE) (hh mm : Nat), hh ≤ mm → mm ≤ cap → (AV.o (.a (.sl j (c + mulz l.toNat e.size) (hh - l.toNat) (mm - l.toNat)))).con β (.slice (if mm = l.toNat then base else base.map (·.add (l.toNat * e.size))) (hh - l.toNat) (mm - l.toNat)) := by
   intro e hh mm hle hle2
   refine ⟨_, rfl, by omega, fun hpos => ?_⟩
   obtain ⟨r, hr, hb⟩ := hbase (by omega)
   refine ⟨r, hr, ?_⟩
   rw [if_neg (by omega), hb, Option.map_some, addr_add, mulz_eq, Nat.add_assoc]
  split at h
  ·rename_i e he hhi hmx
   have hhi : hi = none := by cases hi <;> simp_all
   have hmx : mx = none := by cases mx <;> simp_all
   subst hhi; subst hmx
   simp only [Option.some.injEq] at h; subst h
   have hvc : 0 ≤ l ∧ l ≤ (len : Int) := hvc
   have hb := bounds_nn (P := P) (w := w) true len cap (lo.map ev) hlo (by omega) (by omega)
   rw [hlr] at hb
   exact Goes.quiet hR (fin e _ _ he hb) (con e _ _ hlc (Nat.le_refl _)) rfl
  ·rename_i e hh he hhi hmx
   have hmx : mx = none := by cases mx <;> simp_all
   subst hmx
   split at h
   ·rename_i h' hh'
    simp only [Option.some.injEq] at h; subst h
    cases hi with
    | none => simp at hhi
    | some hx' =>
     simp only [Option.map_some, Option.some.injEq] at hhi
     obtain ⟨k, hk⟩ := intAV_con hh' (hhi ▸ hρ hx')
     have hvc : 0 ≤ l ∧ l ≤ h' ∧ h' ≤ (cap : Int) := hvc
     have hb := bounds_sn (P := P) (w := w) true len cap (lo.map ev) k h' hlo (by omega) (by omega) hvc.2.2
     rw [hlr, ← hk] at hb
     exact Goes.quiet hR (fin e _ _ he hb) (con e _ _ (by omega) (Nat.le_refl _)) rfl
   ·simp at h
  ·rename_i e hh mm he hhi hmx
   split at h
   ·rename_i h' m' hh' hm'
    simp only [Option.some.injEq] at h; subst h
    cases hi with
    | none => simp at hhi
    | some hx' =>
     cases mx with
     | none => simp at hmx
     | some mx' =>
      simp only [Option.map_some, Option.some.injEq] at hhi hmx
      obtain ⟨k, hk⟩ := intAV_con hh' (hhi ▸ hρ hx')
      obtain ⟨km, hkm⟩ := intAV_con hm' (hmx ▸ hρ mx')
      have hvc : 0 ≤ l ∧ l ≤ h' ∧ h' ≤ m' ∧ m' ≤ (cap : Int) := hvc
      have hb := bounds_ss (P := P) (w := w) len cap (lo.map ev) k km h' m' hlo (by omega) (by omega) hvc.2.2.1 hvc.2.2.2
      rw [hlr, ← hk, ← hkm] at hb
      exact Goes.quiet hR (fin e _ _ he hb) (con e _ _ (by omega) (by omega)) rfl
   ·simp at h
  ·simp at h
 ·rename_i el _ _ _ _ j c len z l ht hxe hl
  rw [hxe] at hx
  obtain ⟨base, cap, hv, hlc, hbase⟩ := hx
  simp only [List.cons.injEq, and_true] at hv
  obtain ⟨hlo, hlr⟩ := lo_con hρ lo hl
  have fin : ∀ (e : TE) (hh mm : Nat), T el = some e → (Instr.sliceBounds true len cap (lo.map ev) (hi.map ev) (mx.map ev)).run P w = .ok (l.toNat, hh, mm) w →
    (Instr.sliceAt t (ev x) (lo.map ev) (hi.map ev) (mx.map ev)).run P w = .ok (.slice (if mm = l.toNat then base else base.map (·.add (l.toNat * e.size))) (hh - l.toNat) (mm - l.toNat)) w := by
   intro e hh mm he hb
   obtain ⟨i, z, hi', hs, _⟩ := (hT _ _ he).info
   unfold Instr.sliceAt
   simp only [hv, Sem.run_bind, run_underlying (hT _ _ ht).und, Result.andThen_ok]
   unfold Instr.slice
   simp only [Sem.run_bind, run_underlying (hT _ _ ht).und, Result.andThen_ok, hb, run_sizeOf' w hi', hs, Sem.run_pure]
  have con : ∀ (e : TE) (hh mm : Nat), hh ≤ mm → mm ≤ cap → (AV.o (.a (.sl j (c + mulz l.toNat e.size) (hh - l.toNat) (mm - l.toNat)))).con β (.slice (if mm = l.toNat then base else base.map (·.add (l.toNat * e.size))) (hh - l.toNat) (mm - l.toNat)) := by
   intro e hh mm hle hle2
   refine ⟨_, rfl, by omega, fun hpos => ?_⟩
   obtain ⟨r, hr, hb, _⟩ := hbase (by omega)
   refine ⟨r, hr, ?_⟩
   rw [if_neg (by omega), hb, Option.map_some, addr_add, mulz_eq, Nat.add_assoc]
  have conr : ∀ (e : TE) (hh : Nat), e.size = z → hh ≤ len → l.toNat ≤ hh → (AV.o (.a (.rs j (c + mulz l.toNat e.size) (hh - l.toNat) z))).con β (.slice (if cap = l.toNat then base else base.map (·.add (l.toNat * e.size))) (hh - l.toNat) (cap - l.toNat)) := by
   intro e hh hz hle hl2
   refine ⟨_, _, rfl, by omega, fun hpos => ?_⟩
   obtain ⟨r, hr, hb, hin⟩ := hbase (by omega)
   refine ⟨r, hr, ?_, ?_⟩
   ·rw [if_neg (by omega), hb, Option.map_some, addr_add, mulz_eq, Nat.add_assoc]
   ·rw [mulz_eq, hz]
    have : l.toNat * z + (cap - l.toNat) * z = cap * z := by rw [← Nat.add_mul]; congr 1; omega
    omega
  split at h
  ·rename_i e he hhi hmx
   have hhi : hi = none := by cases hi <;> simp_all
   have hmx : mx = none := by cases mx <;> simp_all
   subst hhi; subst hmx
   split at h
   ·rename_i hz
    simp only [Option.some.injEq] at h; subst h
    have hvc : 0 ≤ l ∧ l ≤ (len : Int) := hvc
    have hb := bounds_nn (P := P) (w := w) true len cap (lo.map ev) hlo (by omega) (by omega)
    rw [hlr] at hb
    exact Goes.quiet hR (fin e _ _ he hb) (conr e _ hz (Nat.le_refl _) (by omega)) rfl
   ·simp at h
  ·rename_i e hh he hhi hmx
   have hmx : mx = none := by cases mx <;> simp_all
   subst hmx
   split at h
   ·rename_i hz
    split at h
    ·rename_i h' hh'
     simp only [Option.some.injEq] at h; subst h
     cases hi with
     | none => simp at hhi
     | some hx' =>
      simp only [Option.map_some, Option.some.injEq] at hhi
      obtain ⟨k, hk⟩ := intAV_con hh' (hhi ▸ hρ hx')
      have hvc : 0 ≤ l ∧ l ≤ h' ∧ h' ≤ (len : Int) := hvc
      have hb := bounds_sn (P := P) (w := w) true len cap (lo.map ev) k h' hlo (by omega) (by omega) (by omega)
      rw [hlr, ← hk] at hb
      exact Goes.quiet hR (fin e _ _ he hb) (conr e _ hz (by omega) (by omega)) rfl
    ·simp at h
   ·simp at h
  ·rename_i e hh mm he hhi hmx
   split at h
   ·rename_i h' m' hh' hm'
    simp only [Option.some.injEq] at h; subst h
    cases hi with
    | none => simp at hhi
    | some hx' =>
     cases mx with
     | none => simp at hmx
     | some mx' =>
      simp only [Option.map_some, Option.some.injEq] at hhi hmx
      obtain ⟨k, hk⟩ := intAV_con hh' (hhi ▸ hρ hx')
      obtain ⟨km, hkm⟩ := intAV_con hm' (hmx ▸ hρ mx')
      have hvc : 0 ≤ l ∧ l ≤ h' ∧ h' ≤ m' ∧ m' ≤ (len : Int) := hvc
      have hb := bounds_ss (P := P) (w := w) len cap (lo.map ev) k km h' m' hlo (by omega) (by omega) hvc.2.2.1 (by omega)
      rw [hlr, ← hk, ← hkm] at hb
      exact Goes.quiet hR (fin e _ _ he hb) (con e _ _ (by omega) (by omega)) rfl
   ·simp at h
  ·simp at h
 ·simp at h

theorem opS2A_ok (hT : TabOk P T) {n : Nat} {arr : TypeId} {x : AV} {o : Ox} {v : Value} (h : opS2A T arr x = some o) (hvc : okP o.vc) (hx : x.con β v) (hR : RelW w0 rw β K w) :
  Goes P w0 rw β K w n (Instr.arrayAt arr v) o := by
 unfold opS2A at h
 split at h
 ·rename_i m el _ _ _ _ j c len cap ht
  obtain ⟨base, hv, hlc, hb⟩ := hx
  simp only [List.cons.injEq, and_true] at hv; subst hv
  split at h
  ·rename_i hm
   simp only [Option.some.injEq] at h; subst h
   have hvc : m ≤ len := hvc
   obtain ⟨r, hr, rfl⟩ := hb (by omega)
   refine Goes.quiet hR (v := .pointer (some ⟨r.blk, r.off + c, none⟩)) ?_ ⟨r, hr, rfl⟩ rfl
   unfold Instr.arrayAt
   simp only [Sem.run_bind, run_underlying (hT _ _ ht).und, Result.andThen_ok, Sem.run_ite]
   rw [if_neg (by omega)]; rfl
  ·simp at h
 ·rename_i m el _ _ _ _ j c len z ht
  obtain ⟨base, cap, hv, hlc, hb⟩ := hx
  simp only [List.cons.injEq, and_true] at hv; subst hv
  split at h
  ·rename_i hm
   simp only [Option.some.injEq] at h; subst h
   have hvc : m ≤ len := hvc
   obtain ⟨r, hr, rfl, _⟩ := hb (by omega)
   refine Goes.quiet hR (v := .pointer (some ⟨r.blk, r.off + c, none⟩)) ?_ ⟨r, hr, rfl⟩ rfl
   unfold Instr.arrayAt
   simp only [Sem.run_bind, run_underlying (hT _ _ ht).und, Result.andThen_ok, Sem.run_ite]
   rw [if_neg (by omega)]; rfl
  ·simp at h
 ·simp at h
end sound
end Go.Proofs.YtjmfnjgcofpocaaGreat.X

/- The operations, fifth part: append and copy. -/
namespace Go.Proofs.YtjmfnjgcofpocaaGreat.X
open Go

def segR (cells : List Atom) (c m : Nat) : Option (Prop × List Atom) :=
 match cells with
 | [.ints k n l] => some (c + m ≤ n, [.ints k m (sub l c m)])
 | [.vals n l] => some (c + m ≤ n, [.vals m (sub l c m)])
 | [.ints k n l, .vals _ _] => some (c + m ≤ n, [.ints k m (sub l c m)])
 | .vals n l :: a :: r => some (c = 0 ∧ m = sizes (.vals n l :: a :: r), .vals n l :: a :: r)
 | cells => (takeC cells c m).map (True, ·)

theorem segR_con {β : Env} {cells : List Atom} {c m : Nat} {vc : Prop} {out : List Atom} {cs : List Value} (h : segR cells c m = some (vc, out)) (hv : vc) (hc : cons β cells cs) :
  cons β out (sub cs c m) ∧ (0 < m → c + m ≤ cs.length) := by
 unfold segR at h
 split at h
 ·simp only [Option.some.injEq, Prod.mk.injEq] at h; obtain ⟨rfl, rfl⟩ := h
  rw [cons_single] at hc; obtain ⟨hl, rfl⟩ := hc
  rw [cons_single]
  exact ⟨⟨sub_len _ _ _ (by omega), by rw [sub_map]⟩, fun _ => by simp; omega⟩
 ·simp only [Option.some.injEq, Prod.mk.injEq] at h; obtain ⟨rfl, rfl⟩ := h
  rw [cons_single] at hc; obtain ⟨hl, rfl, h1⟩ := hc
  rw [cons_single]
  exact ⟨⟨sub_len _ _ _ (by omega), rfl, fun v hv => h1 v (List.mem_of_mem_drop (List.mem_of_mem_take hv))⟩, fun _ => by omega⟩
 ·rename_i k n l s v
  simp only [Option.some.injEq, Prod.mk.injEq] at h; obtain ⟨rfl, rfl⟩ := h
  obtain ⟨x, y, rfl, ⟨hl, rfl⟩, hy⟩ := hc
  rw [cons_single]
  have e : sub (l.map (Value.int k) ++ y) c m = sub (l.map (Value.int k)) c m := by
   unfold sub
   rw [List.drop_append_of_le_length (by simp; omega), List.take_append_of_le_length (by simp; omega)]
  rw [e]
  exact ⟨⟨sub_len _ _ _ (by omega), by rw [sub_map]⟩, fun _ => by simp; omega⟩
 ·simp only [Option.some.injEq, Prod.mk.injEq] at h; obtain ⟨rfl, rfl⟩ := h
  obtain ⟨rfl, hm⟩ := hv
  have hl := cons_len hc
  have e : sub cs 0 m = cs := by
   unfold sub; rw [List.drop_zero, List.take_of_length_le (by omega)]
  rw [e]
  exact ⟨hc, fun _ => by omega⟩
 ·simp only [Option.map_eq_some_iff, Prod.mk.injEq] at h
  obtain ⟨o, ho, rfl, rfl⟩ := h
  exact takeC_con ho hc

def joinA (a b : List Atom) : List Atom :=
 match a, b with
 | [.ints k n xs], [.ints k' m ys] => if k = k' then [.ints k (n + m) (xs ++ ys)] else a ++ b
 | [.vals n xs], [.vals m ys] => [.vals (n + m) (xs ++ ys)]
 | a, b => a ++ b

theorem joinA_con {β : Env} {a b : List Atom} {cs ds : List Value} (ha : cons β a cs) (hb : cons β b ds) : cons β (joinA a b) (cs ++ ds) := by
 unfold joinA
 split
 ·split
  ·rename_i hk; subst hk
   rw [cons_single] at ha hb
   obtain ⟨h1, rfl⟩ := ha
   obtain ⟨h2, rfl⟩ := hb
   rw [cons_single]
   exact ⟨by simp [h1, h2], by simp⟩
  ·exact cons_append ha hb
 ·rw [cons_single] at ha hb
  obtain ⟨h1, rfl, h3⟩ := ha
  obtain ⟨h2, rfl, h4⟩ := hb
  rw [cons_single]
  exact ⟨by simp [h1, h2], rfl, fun v hv => by rcases List.mem_append.1 hv with h | h; exact h3 v h; exact h4 v h⟩
 ·exact cons_append ha hb

theorem nomL_append {lo hi : Nat} {a b : List Atom} (ha : nomL lo hi a = true) (hb : nomL lo hi b = true) : nomL lo hi (a ++ b) = true := by
 unfold nomL at *; rw [List.all_append, ha, hb]; rfl

theorem joinA_nom {lo hi : Nat} {a b : List Atom} (ha : nomL lo hi a = true) (hb : nomL lo hi b = true) : nomL lo hi (joinA a b) = true := by
 unfold joinA
 split
 ·split
  ·rfl
  ·exact nomL_append ha hb
 ·rfl
 ·exact nomL_append ha hb

def srcOf (K : Know) (z cnt : Nat) (x : AV) : Option (Prop × List Atom) :=
  match x with
  | .o (.a (.sl j c m _)) =>
    (match K.at j with
     | none => none
     | some b => (match segR b.cells c (mulz cnt z) with
       | some (vc, out) => some (cnt ≤ m ∧ vc, out)
       | none => none))
  | .o (.a (.rs j c m _)) =>
    (match K.at j with
     | none => none
     | some b => (match segR b.cells c (mulz cnt z) with
       | some (vc, out) => some (cnt ≤ m ∧ vc, out)
       | none => none))
  | .o (.a (.raw (.slice none 0 0))) => some (cnt = 0, [])
  | _ => none

def lenA : AV → Option Nat
 | .o (.a (.sl _ _ m _)) => some m
 | .o (.a (.rs _ _ m _)) => some m
 | .o (.a (.raw (.slice none 0 0))) => some 0
 | _ => none

section sound
variable {P : Program} {T : Tab} {w0 : World} {rw : List Nat} {β : Env} {K : Know} {w : World}

theorem lenA_run {x : AV} {m : Nat} {v : Value} (h : lenA x = some m) (hx : x.con β v) (w : World) : (Builtin.lenOf v).run P w = .ok m w := by
 unfold lenA at h
 split at h <;> simp only [Option.some.injEq, reduceCtorEq] at h <;> subst h
 ·obtain ⟨base, hv, _⟩ := hx; simp only [List.cons.injEq, and_true] at hv; subst hv; rfl
 ·obtain ⟨base, cap, hv, _⟩ := hx; simp only [List.cons.injEq, and_true] at hv; subst hv; rfl
 ·obtain ⟨hv, _⟩ := hx; simp only [List.cons.injEq, and_true] at hv; subst hv; rfl

theorem run_loadCells_world (a : Addr) (cs : List Value) (w w' : World) (hh : w'.heap = w.heap) (h : ∀ (i : Nat) (v : Value), cs[i]? = some v → w.cell? (a.add i) = some v) :
  (loadCells a cs.length).run P w' = .ok cs.toArray w' :=
 run_loadCells_list (P := P) w' a cs fun j v hv => by
  have := h j v hv
  unfold World.cell? at *
  rw [hh]; exact this

theorem seg_run {z cnt j c : Nat} {base : Option Addr} {vc : Prop} {b : Blk} {out : List Atom} (hb : K.at j = some b) (hs : segR b.cells c (cnt * z) = some (vc, out)) (hvc : vc) (hR : RelW w0 rw β K w)
  (hbase : 0 < cnt * z → ∃ r, β j = some r ∧ base = some ⟨r.blk, r.off + c, none⟩) (mm cc : Nat) :
  ∃ ds, cons β out ds ∧ ds.length = cnt * z ∧ ∀ w' : World, w'.heap = w.heap → (Builtin.firstCells z cnt (.slice base mm cc)).run P w' = .ok ds.toArray w' := by
 by_cases h0 : cnt * z = 0
 ·obtain ⟨cs, hc, _⟩ := hR.holds j b hb
  obtain ⟨ho, _⟩ := segR_con hs hvc hc
  rw [h0] at ho
  have : sub cs c 0 = [] := by simp [sub]
  rw [this] at ho
  refine ⟨[], ho, by rw [h0]; rfl, fun w' _ => ?_⟩
  cases base <;> simp [Builtin.firstCells, h0, loadCells, loadCellsFrom]
 ·obtain ⟨r, hr, rfl⟩ := hbase (by omega)
  obtain ⟨cs, hc, hcell⟩ := Blk.cellsAt (hR.holds j b hb) hr
  obtain ⟨ho, hl⟩ := segR_con hs hvc hc
  have hl := hl (by omega)
  refine ⟨_, ho, sub_len _ _ _ hl, fun w' hh => ?_⟩
  have := run_loadCells_world (P := P) ⟨r.blk, r.off + c, none⟩ (sub cs c (cnt * z)) w w' hh (fun i u hu => by
   rw [addr_add, Nat.add_assoc]; exact hcell _ _ (getElem?_sub _ _ _ _ _ hu))
  rw [sub_len _ _ _ hl] at this
  exact this

theorem src_run {z cnt : Nat} {x : AV} {vc : Prop} {out : List Atom} {v : Value} (h : srcOf K z cnt x = some (vc, out)) (hv : vc) (hx : x.con β v) (hR : RelW w0 rw β K w) :
  ∃ ds, cons β out ds ∧ ds.length = cnt * z ∧ ∀ w' : World, w'.heap = w.heap → (Builtin.firstCells z cnt v).run P w' = .ok ds.toArray w' := by
 have pos : ∀ {a : Nat}, 0 < cnt * z → cnt ≤ a → 0 < a := by
  intro a h1 h2
  rcases Nat.eq_zero_or_pos cnt with h | h
  ·subst h; simp at h1
  ·omega
 unfold srcOf at h
 split at h
 ·split at h
  ·simp at h
  ·rename_i j c m cap _ b hb
   split at h
   ·rename_i vc' out' hs
    simp only [Option.some.injEq, Prod.mk.injEq] at h; obtain ⟨rfl, rfl⟩ := h
    obtain ⟨base, hv', hmc, hbase⟩ := hx
    simp only [List.cons.injEq, and_true] at hv'; subst hv'
    rw [mulz_eq] at hs
    exact seg_run hb hs hv.2 hR (fun hp => hbase (by have := pos hp hv.1; omega)) _ _
   ·simp at h
 ·split at h
  ·simp at h
  ·rename_i j c m z' _ b hb
   split at h
   ·rename_i vc' out' hs
    simp only [Option.some.injEq, Prod.mk.injEq] at h; obtain ⟨rfl, rfl⟩ := h
    obtain ⟨base, cap, hv', hmc, hbase⟩ := hx
    simp only [List.cons.injEq, and_true] at hv'; subst hv'
    rw [mulz_eq] at hs
    exact seg_run hb hs hv.2 hR (fun hp => by obtain ⟨r, h1, h2, _⟩ := hbase (by have := pos hp hv.1; omega); exact ⟨r, h1, h2⟩) _ _
   ·simp at h
 ·simp only [Option.some.injEq, Prod.mk.injEq] at h; obtain ⟨rfl, rfl⟩ := h
  subst hv
  obtain ⟨hv', _⟩ := hx
  simp only [List.cons.injEq, and_true] at hv'; subst hv'
  exact ⟨[], rfl, by simp, fun w' _ => rfl⟩
 ·simp at h

theorem RelW.rephrase (h : RelW w0 rw β K w) {j : Nat} {b : Blk} (hb : K.at j = some b) (hmp : ∀ n l, b.cells ≠ [.mp n l]) {out : List Atom} (hc : ∀ cs, cons β b.cells cs → cons β out cs) : RelW w0 rw β (K.set1 j (some ⟨b.own, out⟩)) w := by
 have key : ∀ x b2, (K.set1 j (some ⟨b.own, out⟩)).at x = some b2 → ∃ b3, K.at x = some b3 ∧ b3.own = b2.own ∧ (∀ cs, cons β b3.cells cs → cons β b2.cells cs) ∧ (NoCells β w x b3 → NoCells β w x b2) := by
  intro x b2 hx
  rw [Know.at_set1] at hx
  by_cases hxj : x = j
  ·subst hxj; simp only [if_true, Option.some.injEq] at hx; subst hx
   exact ⟨b, hb, rfl, hc, fun h => h.imp id fun h => h.imp id fun h => (by obtain ⟨n, l, _, _, _, h1, _⟩ := h; exact absurd h1 (hmp n l))⟩
  ·rw [if_neg hxj] at hx; exact ⟨b2, hx, rfl, fun _ h => h, fun h => h⟩
 refine ⟨?_, ?_, ?_, ?_, h.old, h.size, h.os, h.tape, h.output⟩
 ·intro x b2 hx
  obtain ⟨b3, h3, ho, hcc, hnc⟩ := key x b2 hx
  obtain ⟨cs, hc3, hd⟩ := h.holds x b3 h3
  exact ⟨cs, hcc cs hc3, hd.imp (fun h => ⟨h.1, hnc h.2⟩) (by rw [← ho]; exact id)⟩
 ·intro a k b2 c2 r s ha hk ho hne hr hs
  obtain ⟨b3, h3, ho3, _⟩ := key a b2 ha
  obtain ⟨c3, h4, _, _, _⟩ := key k c2 hk
  exact h.apart a k b3 c3 r s h3 h4 (ho3.trans ho) hne hr hs
 ·intro x b2 r hx ho hr
  obtain ⟨b3, h3, ho3, _⟩ := key x b2 hx
  exact h.mine x b3 r h3 (ho3.trans ho) hr
 ·intro x b2 r hx hr
  obtain ⟨b3, h3, _, _⟩ := key x b2 hx
  exact h.live x b3 r h3 hr

theorem RelW.store0 (P : Program) (h : RelW w0 rw β K w) {j : Nat} {b : Blk} (hb : K.at j = some b) (hmp : ∀ n l, b.cells ≠ [.mp n l]) (ho : b.own = true) {c m : Nat} {new out : List Atom} {ds : List Value}
  (hp : ∀ cs, cons β b.cells cs → cons β out (splice cs c m ds) ∧ c + m ≤ cs.length) (hn : cons β new ds) (hm : ds.length = m) (a : Addr) (ha : 0 < m → ∃ r, β j = some r ∧ a = ⟨r.blk, r.off + c, none⟩) :
  ∃ w', (storeCells a ds).run P w = .ok () w' ∧ RelW w0 rw β (K.set1 j (some ⟨true, out⟩)) w' := by
 by_cases h0 : m = 0
 ·subst h0
  have : ds = [] := List.eq_nil_of_length_eq_zero hm
  subst this
  refine ⟨w, rfl, ?_⟩
  have := h.rephrase hb hmp (out := out) (fun cs hc => by
   have := (hp cs hc).1
   rwa [show splice cs c 0 [] = cs by simp [splice]] at this)
  rwa [ho] at this
 ·obtain ⟨r, hr, rfl⟩ := ha (by omega)
  exact RelW.store P h hb ho hr hp hn hm (by omega)
end sound

section ops
variable (T : Tab) (K : Know) (n : Nat)

def opCopy (t : TypeId) (d s : AV) : Option Ox :=
  match T t with
  | some ⟨.slice el, _, _, _, _⟩ =>
    (match T el, lenA s, lenA d with
     | some e, some m, some dl =>
       if e.size = 0 then none else
       (match srcOf K e.size (min m dl) s with
        | some (vs, new) =>
          (match d with
           | .o (.a (.sl j c _ _)) =>
             (match K.at j with
              | some b => if b.own = true then
                  (match wrt true b.cells c (mulz (min m dl) e.size) new with
                   | some (vw, out) => some ⟨some (vs ∧ okP vw), .o (.a (.i .i64 (min m dl : Nat))), [(j, some ⟨true, out⟩)], false⟩
                   | none => none) else none
              | none => none)
           | _ => none)
        | none => none)
     | _, _, _ => none)
  | _ => none

def newOf (e : TE) (xT : TypeId) (x : AV) : Option (Prop × Nat × List Atom) :=
 match T xT with
 | some ⟨.int _, _, _, _, _⟩ => (match intAV x with
  | some i => (match repS i.toNat e with
   | some out => some (0 ≤ i ∧ i * e.bytes ≤ 281474976710656, i.toNat, out)
   | none => none)
  | none => none)
 | some ⟨.slice _, _, _, _, _⟩ => (match lenA x with
  | some m => (match srcOf K e.size m x with
   | some (vc, out) => some (vc, m, out)
   | none => none)
  | none => none)
 | _ => none

def opAppend (fit : Bool) (sT xT : TypeId) (s x : AV) : Option Ox :=
  match T sT with
  | some ⟨.slice el, _, _, _, _⟩ =>
    (match T el with
     | some e =>
       if e.size = 0 ∨ e.bytes = 0 then none else
       (match newOf T K e xT x with
        | some (vx, m, bs) =>
          if nomL n (n + 1) bs = true then
          (match s with
           | .o (.a (.rs j c len z)) =>
             if z = e.size then
             (match K.at j with
              | some b => if b.own = true then
                 (match segR b.cells c (mulz len e.size) with
                  | some (vs, xas) => if nomL n (n + 1) xas = true ∧ j ≠ n then
                      some ⟨some (vs ∧ vx ∧ (len + m) * e.bytes ≤ 140737488355328), .o (.a (.rs n 0 (len + m) z)), [(j, none), (n, some ⟨true, joinA xas bs⟩)], true⟩ else none
                  | none => none) else none
              | none => none) else none
           | .o (.a (.sl j c len cap)) =>
             (match K.at j with
              | some b =>
                if fit = true then
                  (if b.own = true then
                   (match wrt true b.cells (c + mulz len e.size) (mulz m e.size) bs with
                    | some (vw, out) => some ⟨some (vx ∧ okP vw ∧ len + m ≤ cap), .o (.a (.sl j c (len + m) cap)), [(j, some ⟨true, out⟩)], false⟩
                    | none => none) else none)
                else
                  (match segR b.cells c (mulz len e.size) with
                   | some (vs, xas) => if nomL n (n + 1) xas = true then
                       some ⟨some (vs ∧ vx ∧ cap < len + m ∧ (len + m) * e.bytes ≤ 140737488355328), .o (.a (.rs n 0 (len + m) e.size)), [(n, some ⟨true, joinA xas bs⟩)], true⟩ else none
                   | none => none)
              | none => none)
           | .o (.a (.raw (.slice none 0 0))) => some ⟨some (vx ∧ m * e.bytes ≤ 140737488355328), .o (.a (.rs n 0 m e.size)), [(n, some ⟨true, bs⟩)], true⟩
           | _ => none) else none
        | none => none)
     | none => none)
  | _ => none
end ops

section sound
variable {P : Program} {T : Tab} {w0 : World} {rw : List Nat} {β : Env} {K : Know} {w : World}

theorem opCopy_ok (hT : TabOk P T) {n : Nat} {t tt t' : TypeId} {x y : AV} {o : Ox} {u v : Value} (h : opCopy T K t x y = some o) (hvc : okP o.vc) (hx : x.con β u) (hy : y.con β v) (hR : RelW w0 rw β K w) :
    Goes P w0 rw β K w n (Builtin.copy_ #[t, t'] tt #[u, v]) o := by
  unfold opCopy at h
  split at h
  · rename_i el _ _ _ _ ht
    split at h
    · rename_i e m dl he hm hdl
      split at h
      · simp at h
      · rename_i hz
        split at h
        · rename_i vs new hs
          split at h
          · rename_i j c l cap
            split at h
            · rename_i b hb
              split at h
              · rename_i ho
                split at h
                · rename_i vw out hw
                  simp only [Option.some.injEq] at h; subst h
                  have hvc : vs ∧ okP vw := hvc
                  obtain ⟨i, z, hi, hsz, _⟩ := (hT _ _ he).info
                  obtain ⟨ds, hds, hlen, hrun⟩ := src_run (P := P) hs hvc.1 hy hR
                  have hlr := lenA_run (P := P) hm hy w
                  simp only [lenA, Option.some.injEq] at hdl; subst hdl
                  obtain ⟨base, hv, hlc, hbase⟩ := hx
                  simp only [List.cons.injEq, and_true] at hv; subst hv
                  rw [mulz_eq] at hw
                  cases base with
                  | none =>
                    have hcap : cap = 0 := by
                      rcases Nat.eq_zero_or_pos cap with h | h
                      · exact h
                      · obtain ⟨r, _, h2⟩ := hbase h; cases h2
                    have hl0 : l = 0 := by omega
                    subst hl0
                    simp only [Nat.min_zero, Nat.zero_mul] at hlen hw
                    have hd0 : ds = [] := List.eq_nil_of_length_eq_zero hlen
                    subst hd0
                    refine ⟨β, .int .i64 ((min m 0 : Nat)), w, ?_, agree_refl _ _ _, rfl, ?_⟩
                    · simp only [Builtin.copy_, List.getElem?_toArray, List.getElem?_cons_zero, List.getElem?_cons_succ, Sem.run_bind, run_underlying (hT _ _ ht).und, Result.andThen_ok, hlr, run_sizeOf' w hi, hsz]
                      have := hrun w rfl
                      simp only [Nat.min_zero] at this
                      have e0 : Nat.min m 0 = 0 := Nat.min_zero m
                      simp [e0, this, goInt]
                    · have := hR.rephrase hb (wrt_map hw) (out := out) (fun cs hc => by
                        have := (wrt_con hw hvc.2 hc hds hlen).1
                        rwa [show splice cs c 0 [] = cs by simp [splice]] at this)
                      rwa [ho] at this
                  | some a =>
                    obtain ⟨w', hst, hrel⟩ := RelW.store0 P hR hb (wrt_map hw) ho (fun cs hc => wrt_con hw hvc.2 hc hds hlen) hds hlen a (fun hpos => by
                      have : 0 < l := by
                        rcases Nat.eq_zero_or_pos l with h | h
                        · subst h; simp at hpos
                        · exact h
                      obtain ⟨r, hr, h2⟩ := hbase (by omega)
                      exact ⟨r, hr, by simpa using h2⟩)
                    refine ⟨β, .int .i64 ((min m l : Nat)), w', ?_, agree_refl _ _ _, rfl, hrel⟩
                    simp only [Builtin.copy_, List.getElem?_toArray, List.getElem?_cons_zero, List.getElem?_cons_succ, Sem.run_bind, run_underlying (hT _ _ ht).und, Result.andThen_ok, hlr, run_sizeOf' w hi, hsz]
                    have := hrun w rfl
                    have e0 : Nat.min m l = min m l := rfl
                    simp [e0, this, goInt, hst]
                · simp at h
              · simp at h
            · simp at h
          · simp at h
        · simp at h
    · simp at h
  · simp at h

structure NewV (P : Program) (w : World) (i : TypeInfo) (z : Value) (xT : TypeId) (v : Value) (m : Nat) (ds : List Value) : Prop where
  len : ds.length = m * i.size
  how : ∃ dx, P.underlying xT = some dx ∧
    (((∃ k0, dx = .int k0) ∧ (∃ k, v = .int k (m : Int)) ∧ (m : Int) * i.bytes ≤ 281474976710656 ∧ (m : Int) ≤ 281474976710656 ∧ ds = (List.replicate m z.cells.toList).flatten) ∨
     ((∃ el, dx = .slice el) ∧ ∀ w' : World, w'.heap = w.heap → (Builtin.lenOf v).run P w' = .ok m w' ∧ (Builtin.firstCells i.size m v).run P w' = .ok ds.toArray w'))

theorem newOf_run (hT : TabOk P T) {e : TE} {el xT : TypeId} (he : T el = some e) (hb0 : e.bytes ≠ 0) {i : TypeInfo} {z : Value} (hs : i.size = e.size) (hby : i.bytes = e.bytes) (hzc : ∀ β, cons β e.zero z.cells.toList)
  {x : AV} {vc : Prop} {m : Nat} {bs : List Atom} {v : Value}
  (h : newOf T K e xT x = some (vc, m, bs)) (hv : vc) (hx : x.con β v) (hR : RelW w0 rw β K w) : ∃ ds, cons β bs ds ∧ NewV P w i z xT v m ds := by
 have hzl : z.cells.toList.length = e.size := by have := cons_len (hzc β); rw [(hT _ _ he).zsz] at this; exact this
 unfold newOf at h
 split at h
 ·rename_i kk _ _ _ _ ht
  split at h
  ·rename_i ii hia
   split at h
   ·rename_i out hr
    simp only [Option.some.injEq, Prod.mk.injEq] at h; obtain ⟨rfl, rfl, rfl⟩ := h
    obtain ⟨k, rfl⟩ := intAV_con hia hx
    obtain ⟨hc, _⟩ := repS_con hr (hzc β)
    have hcb : ii ≤ 281474976710656 := by
     have h2 := hv.2
     have : ii * 1 ≤ ii * e.bytes := Int.mul_le_mul_of_nonneg_left (by omega) hv.1
     omega
    have hnn : ((ii.toNat : Nat) : Int) = ii := Int.toNat_of_nonneg hv.1
    refine ⟨_, hc, ⟨?_, ?_⟩⟩
    ·simp only [List.length_flatten, List.map_replicate, List.sum_replicate_nat, hzl, hs]
    ·exact ⟨_, (hT _ _ ht).und, .inl ⟨⟨_, rfl⟩, ⟨k, by rw [hnn]⟩, by rw [hnn, hby]; exact hv.2, by rw [hnn]; exact hcb, rfl⟩⟩
   ·simp at h
  ·simp at h
 ·rename_i el2 _ _ _ _ hte
  split at h
  ·rename_i mm hm
   split at h
   ·rename_i vs out hsrc
    simp only [Option.some.injEq, Prod.mk.injEq] at h; obtain ⟨rfl, rfl, rfl⟩ := h
    obtain ⟨ds, hds, hlen, hrun⟩ := src_run (P := P) hsrc hv hx hR
    exact ⟨ds, hds, ⟨by rw [hs]; exact hlen, _, (hT _ _ hte).und, .inr ⟨⟨_, rfl⟩, fun w' hh => ⟨lenA_run hm hx w', by rw [hs]; exact hrun w' hh⟩⟩⟩⟩
   ·simp at h
  ·simp at h
 ·simp at h

theorem zeroCells_list (z : Array Value) (m : Nat) : (Builtin.zeroCells z m).toList = (List.replicate m z.toList).flatten := range_rep z m

theorem run_append_fit {sT xT ty el : TypeId} {i : TypeInfo} {z v : Value} {m : Nat} {ds : List Value} (hu : P.underlying sT = some (.slice el)) (hi : P.info? el = some i) (hz : i.zero = some z) (hsz : i.size ≠ 0)
  (hn : NewV P w i z xT v m ds) {base : Option Addr} {sLen sCap : Nat} (hle : sLen + m ≤ sCap) {w' : World}
  (hst : match base with | some a => (storeCells (a.add (sLen * i.size)) ds).run P w = .ok () w' | none => w' = w) :
  (Builtin.append_ #[sT, xT] ty #[.slice base sLen sCap, v]).run P w = .ok (.slice base (sLen + m) sCap) w' := by
 obtain ⟨dx, hx, h⟩ := hn.how
 have hsize : ∀ w, (sizeOf el).run P w = .ok i.size w := fun w => run_sizeOf' w hi
 rcases h with ⟨⟨k0, rfl⟩, ⟨k, rfl⟩, h3, h4, rfl⟩ | ⟨⟨el2, rfl⟩, h2⟩
 ·have hw : IntKind.i64.wrap (m : Int) = m := wrap64_id (by omega) h4
  have e1 : ¬ ((m : Int) < 0) := by omega
  have e2 : ¬ ((m : Int) * i.bytes > 2 ^ 48) := by omega
  unfold Builtin.append_
  simp only [List.getElem?_toArray, List.getElem?_cons_zero, List.getElem?_cons_succ, Sem.run_bind, run_underlying hu, run_underlying hx, Result.andThen_ok, hsize, Sem.run_pure, if_true, asInt, asIntOf, hw, if_neg e1, typeInfo, run_program, hi, if_neg e2, Int.toNat_natCast, Bool.not_true, Bool.false_eq_true, if_false, Sem.run_ite, if_pos hle]
  by_cases h0 : m * i.size = 0
  ·have hm0 : m = 0 := by rcases Nat.mul_eq_zero.1 h0 with h | h; exact h; exact absurd h hsz
   subst hm0
   simp only [Nat.zero_mul, if_true, Result.andThen_ok]
   cases base with
   | none => subst hst; rfl
   | some a =>
    simp only [List.replicate_zero, List.flatten_nil, storeCells] at hst
    cases hst
    simp [storeCells]
  ·have hzz : Builtin.zeroCells z.cells m = ((List.replicate m z.cells.toList).flatten).toArray := Array.toList_inj.1 (by rw [zeroCells_list])
   simp only [if_neg h0, Sem.run_bind, zeroValue, typeInfo, run_program, hi, hz, Sem.run_pure, Result.andThen_ok, hzz]
   cases base with
   | none => subst hst; rfl
   | some a => simp [hst]
 ·obtain ⟨h5, h6⟩ := h2 w rfl
  unfold Builtin.append_
  simp only [List.getElem?_toArray, List.getElem?_cons_zero, List.getElem?_cons_succ, Sem.run_bind, run_underlying hu, run_underlying hx, Result.andThen_ok, hsize, Sem.run_pure, Bool.false_eq_true, if_false, h5, if_pos hle, Bool.not_false, if_true, h6, Sem.run_ite]
  cases base with
  | none => subst hst; rfl
  | some a => simp [hst]

theorem run_append_new {sT xT ty el : TypeId} {i : TypeInfo} {z v : Value} {m : Nat} {ds olds : List Value} (hu : P.underlying sT = some (.slice el)) (hi : P.info? el = some i) (hz : i.zero = some z) (hsz : i.size ≠ 0) (hb0 : i.bytes ≠ 0)
  (hn : NewV P w i z xT v m ds) {base : Option Addr} {sLen sCap : Nat} (hgt : sCap < sLen + m) (hb : (sLen + m) * i.bytes ≤ 140737488355328)
  (hold : ∀ w' : World, w'.heap = w.heap → (Builtin.firstCells i.size sLen (.slice base sLen sCap)).run P w' = .ok olds.toArray w') :
  (Builtin.append_ #[sT, xT] ty #[.slice base sLen sCap, v]).run P w =
   .ok (.slice (some ⟨w.heap.size, 0, none⟩) (sLen + m) (grownCap w (sLen + m) sCap el))
    { w.drew with heap := w.heap.push (.cells (olds ++ ds ++ (Builtin.zeroCells z.cells (grownCap w (sLen + m) sCap el - (sLen + m))).toList).toArray el) } := by
 obtain ⟨dx, hx, h⟩ := hn.how
 have hsize : ∀ w, (sizeOf el).run P w = .ok i.size w := fun w => run_sizeOf' w hi
 have hneed : sLen + m ≤ 140737488355328 := by
  have : (sLen + m) * 1 ≤ (sLen + m) * i.bytes := Nat.mul_le_mul_left _ (by omega)
  omega
 have hfits := growslice_fits hgt hb
 have hle : ¬ (sLen + m ≤ sCap) := by omega
 have e4 : ∀ q : Prop, ¬ (((sLen + m : Nat) : Int) > IntKind.i64.max ∧ q) := by intro q; simp [IntKind.max, IntKind.signed, IntKind.bits]; omega
 have e5 : ¬ (Builtin.nextslicecap (sLen + m) sCap * i.bytes > 2 ^ 48) := by omega
 have hch : ∀ w : World, (choose (.appendCap (sLen + m) sCap el)).run P w = .ok (grownCap w (sLen + m) sCap el) w.drew := by
  intro w; rw [run_choose]; rfl
 have harr : ∀ Z : Array Value, (olds ++ ds ++ Z.toList).toArray = olds.toArray ++ ds.toArray ++ Z := by intro Z; apply Array.toList_inj.1; simp
 rcases h with ⟨⟨k0, rfl⟩, ⟨k, rfl⟩, h3, h4, rfl⟩ | ⟨⟨el2, rfl⟩, h2⟩
 ·have hw : IntKind.i64.wrap (m : Int) = m := wrap64_id (by omega) h4
  have e1 : ¬ ((m : Int) < 0) := by omega
  have e2 : ¬ ((m : Int) * i.bytes > 2 ^ 48) := by omega
  unfold Builtin.append_
  simp only [List.getElem?_toArray, List.getElem?_cons_zero, List.getElem?_cons_succ, Sem.run_bind, run_underlying hu, run_underlying hx, Result.andThen_ok, hsize, Sem.run_pure, if_true, asInt, asIntOf, hw, if_neg e1, typeInfo, run_program, hi, if_neg e2, Int.toNat_natCast, Bool.not_true, Bool.false_eq_true, if_false, Sem.run_ite, if_neg hle, if_neg (e4 _), if_neg e5, hch, run_askRoom, hold w.drew rfl]
  by_cases h0 : m * i.size = 0
  ·have hm0 : m = 0 := by rcases Nat.mul_eq_zero.1 h0 with h | h; exact h; exact absurd h hsz
   subst hm0
   rw [harr]
   simp only [Nat.zero_mul, if_true, Sem.run_pure, Result.andThen_ok, zeroValue, typeInfo, Sem.run_bind, run_program, hi, hz, newRow, run_newObj, List.replicate_zero, List.flatten_nil]
   rfl
  ·have hzz : Builtin.zeroCells z.cells m = ((List.replicate m z.cells.toList).flatten).toArray := Array.toList_inj.1 (by rw [zeroCells_list])
   simp only [if_neg h0, Sem.run_bind, zeroValue, typeInfo, run_program, hi, hz, Sem.run_pure, Result.andThen_ok, hzz, newRow, run_newObj, harr]
   rfl
 ·obtain ⟨h5, _⟩ := h2 w rfl
  obtain ⟨_, h6⟩ := h2 w.drew rfl
  unfold Builtin.append_
  simp only [List.getElem?_toArray, List.getElem?_cons_zero, List.getElem?_cons_succ, Sem.run_bind, run_underlying hu, run_underlying hx, Result.andThen_ok, hsize, Sem.run_pure, Bool.false_eq_true, if_false, h5, if_neg hle, typeInfo, run_program, hi, if_neg (e4 _), if_neg e5, hch, run_askRoom, hold w.drew rfl, Bool.not_false, if_true, h6, Sem.run_ite, zeroValue, hz, newRow, run_newObj, harr]
  rfl

theorem zero_one {z : Value} {cells : List Atom} (h : cons β cells z.cells.toList) {m : Nat} : ∀ v ∈ (Builtin.zeroCells z.cells m).toList, v.oneCell' = true := by
 intro v hv
 rw [zeroCells_list] at hv
 obtain ⟨l, hl, hv⟩ := List.mem_flatten.1 hv
 rw [(List.mem_replicate.1 hl).2] at hv
 exact cons_one h v hv

theorem grown_con {i : TypeInfo} {z : Value} (hzl : z.cells.toList.length = i.size) (w : World) (need old : Nat) (el : TypeId) (olds ds : List Value) (hlen : olds.length + ds.length = need * i.size) :
  (olds ++ ds ++ (Builtin.zeroCells z.cells (grownCap w need old el - need)).toList).length = grownCap w need old el * i.size := by
 have hge := grownCap_ge w need old el
 rw [zeroCells_list]
 simp only [List.length_append, List.length_flatten, List.map_replicate, List.sum_replicate_nat, hzl]
 rw [Nat.sub_mul]
 have : need * i.size ≤ grownCap w need old el * i.size := Nat.mul_le_mul_right _ hge
 omega

theorem RelW.grown (hR : RelW w0 rw β K w) (n : Nat) (hn : K.at n = none) (hK : K.nom n (n + 1) = true) {xas bs : List Atom} {olds ds rest : List Value} (hc1 : cons β xas olds) (hc2 : cons β bs ds)
  (hn1 : nomL n (n + 1) xas = true) (hn2 : nomL n (n + 1) bs = true) (el : TypeId) (hrest : ∀ v ∈ rest, v.oneCell' = true) :
  RelW w0 rw (β.upd n (some ⟨w.heap.size, 0, (olds ++ ds ++ rest).length⟩)) (K.set1 n (some ⟨true, joinA xas bs⟩)) { w.drew with heap := w.heap.push (.cells (olds ++ ds ++ rest).toArray el) } :=
 RelW.new (hR.drew (w.drawn + 1)) n hn hK (joinA_con hc1 hc2) (joinA_nom hn1 hn2) (olds ++ ds ++ rest) el
  (fun i v hv => by rw [List.getElem?_append_left (by have := (List.getElem?_eq_some_iff.1 hv).1; exact this)]; exact hv) (by simp)
  (fun v hv => by
   rcases List.mem_append.1 hv with hv | hv
   ·exact cons_one (joinA_con hc1 hc2) v hv
   ·exact hrest v hv)

theorem Know.set1_nom {lo hi : Nat} (h : K.nom lo hi = true) (j : Nat) (b : Option Blk) (hb : bnom lo hi b = true) : (K.set1 j b).nom lo hi = true := by
 unfold Know.nom Know.set1 at *
 split
 ·rw [List.all_eq_true] at *
  intro x hx
  rcases List.mem_or_eq_of_mem_set hx with h1 | h1
  ·exact h x h1
  ·subst h1; exact hb
 ·rw [List.all_append, List.all_append, h]
  simp only [Bool.true_and, List.all_cons, List.all_nil, Bool.and_true]
  rw [hb, Bool.and_true]
  rw [List.all_eq_true]; intro x hx; rw [(List.mem_replicate.1 hx).2]; rfl

theorem RelW.newNil (h : RelW w0 rw β K w) (n : Nat) (hK : K.nom n (n + 1) = true) {cells : List Atom} (hc : cons β cells []) (hcn : nomL n (n + 1) cells = true) (hn : K.at n = none) :
  RelW w0 rw (β.upd n none) (K.set1 n (some ⟨true, cells⟩)) w := by
 have hag := Env.agree_upd β n none
 have hother : ∀ k, k ≠ n → (β.upd n none) k = β k := fun k hk => by unfold Env.upd; rw [if_neg hk]
 have hself : (β.upd n none) n = none := by unfold Env.upd; rw [if_pos rfl]
 refine ⟨?_, ?_, ?_, ?_, h.old, h.size, h.os, h.tape, h.output⟩
 ·intro k b hk
  rw [Know.at_set1] at hk
  by_cases hkn : k = n
  ·subst hkn
   simp only [if_true, Option.some.injEq] at hk; subst hk
   exact ⟨[], cons_agree hag hcn hc, .inl ⟨rfl, .inr (.inl hself)⟩⟩
  ·rw [if_neg hkn] at hk
   obtain ⟨cs', hc', hd⟩ := h.holds k b hk
   exact ⟨cs', cons_agree hag (Know.nom_at hK hk) hc', hd.imp (fun h => ⟨h.1, h.2.move (hother k hkn) fun _ _ => rfl⟩) (by rw [hother k hkn]; exact id)⟩
 ·intro a k b c r s ha hk ho hne hr hs
  rw [Know.at_set1] at ha hk
  by_cases han : a = n
  ·subst han; rw [hself] at hr; cases hr
  ·by_cases hkn : k = n
   ·subst hkn; rw [hself] at hs; cases hs
   ·rw [if_neg han] at ha; rw [if_neg hkn] at hk; rw [hother a han] at hr; rw [hother k hkn] at hs
    exact h.apart a k b c r s ha hk ho hne hr hs
 ·intro x b r hx ho hr
  rw [Know.at_set1] at hx
  by_cases hxn : x = n
  ·subst hxn; rw [hself] at hr; cases hr
  ·rw [if_neg hxn] at hx; rw [hother x hxn] at hr; exact h.mine x b r hx ho hr
 ·intro x b r hx hr
  rw [Know.at_set1] at hx
  by_cases hxn : x = n
  ·subst hxn; rw [hself] at hr; cases hr
  ·rw [if_neg hxn] at hx; rw [hother x hxn] at hr; exact h.live x b r hx hr

theorem RelW.move (P : Program) (h : RelW w0 rw β K w) {j n : Nat} {b : Blk} (hb : K.at j = some b) (ho : b.own = true) (hjn : j ≠ n) (hn : K.at n = none) (hK : K.nom n (n + 1) = true) {r : Ref} (hr : β j = some r)
  {c m : Nat} {xas bs : List Atom} {olds ds : List Value} (hm : olds.length = m)
  (hoc : cons β xas olds) (holdc : ∀ (i : Nat) (v : Value), olds[i]? = some v → w.cell? ⟨r.blk, r.off + c + i, none⟩ = some v) (hds : cons β bs ds) (hn1 : nomL n (n + 1) xas = true) (hn2 : nomL n (n + 1) bs = true)
  (hin : r.off + c + m + ds.length ≤ r.size) :
  ∃ w', (storeCells ⟨r.blk, r.off + c + m, none⟩ ds).run P w = .ok () w' ∧ RelW w0 rw (β.upd n (some ⟨r.blk, r.off + c, r.size⟩)) ((K.set1 j none).set1 n (some ⟨true, joinA xas bs⟩)) w' := by
 obtain ⟨cs, hc, hd⟩ := h.holds j b hb
 rcases hd with ⟨_, h2⟩ | ⟨r', arr, ty, fr, hr', hh, hs, hl, ha, hf⟩
 ·rcases h2 with h2 | h2 | ⟨_, _, r2, _, _, _, h2, h3, h4, _⟩
  ·rw [ho] at h2; cases h2
  ·rw [hr] at h2; cases h2
  ·rw [hr] at h2; cases h2; omega
 rw [hr] at hr'; cases hr'
 obtain ⟨hfr, hone⟩ := hf ho; subst hfr
 have hrun := run_storeCells_at P r.blk (r.off + c + m) ty ds 0 arr w hh (by omega) (cons_one hds)
 refine ⟨_, hrun, ?_⟩
 simp only [Nat.add_zero]
 have hspl : (arr.toList.take (r.off + c + m) ++ ds ++ arr.toList.drop (r.off + c + m + ds.length)) = splice arr.toList (r.off + c + m) ds.length ds := rfl
 rw [hspl]
 have hsl : (splice arr.toList (r.off + c + m) ds.length ds).length = arr.size := by rw [splice_len _ _ _ _ (by simp; omega) rfl]; simp
 have hag := Env.agree_upd β n (some ⟨r.blk, r.off + c, r.size⟩)
 have hother : ∀ k, k ≠ n → (β.upd n (some ⟨r.blk, r.off + c, r.size⟩)) k = β k := fun k hk => by unfold Env.upd; rw [if_neg hk]
 have hself : (β.upd n (some ⟨r.blk, r.off + c, r.size⟩)) n = some ⟨r.blk, r.off + c, r.size⟩ := by unfold Env.upd; rw [if_pos rfl]
 have hat : ∀ k, ((K.set1 j none).set1 n (some ⟨true, joinA xas bs⟩)).at k = if k = n then some ⟨true, joinA xas bs⟩ else if k = j then none else K.at k := by
  intro k; rw [Know.at_set1, Know.at_set1]
 refine ⟨?_, ?_, ?_, ?_, ?_, ?_, h.os, h.tape, h.output⟩
 ·intro k b' hk
  rw [hat] at hk
  by_cases hkn : k = n
  ·subst hkn
   simp only [if_true, Option.some.injEq] at hk; subst hk
   refine ⟨olds ++ ds, cons_agree hag (joinA_nom hn1 hn2) (joinA_con hoc hds), .inr ⟨_, _, ty, (0, 0), hself, setRow_heap w r.blk arr _ ty _ hh, by simpa [hsl] using hs, ?_, ?_, fun _ => ⟨rfl, splice_oneM hone (cons_one hds)⟩⟩⟩
   ·simp [hm]; omega
   ·intro i v hv
    rw [List.getElem?_toArray, getElem?_splice _ _ _ _ (by simp; omega) rfl]
    simp only
    by_cases h1 : i < m
    ·rw [if_pos (by omega)]
     rw [List.getElem?_append_left (by omega)] at hv
     have := holdc i v hv
     simpa [World.cell?, hh] using this
    ·rw [if_neg (by omega)]
     rw [List.getElem?_append_right (by omega)] at hv
     have hlt := (List.getElem?_eq_some_iff.1 hv).1
     rw [if_pos (by omega)]
     rw [show r.off + c + i - (r.off + c + m) = i - olds.length by omega]; exact hv
  ·rw [if_neg hkn] at hk
   split at hk
   ·simp at hk
   ·rename_i hkj
    obtain ⟨cs', hc', hd'⟩ := h.holds k b' hk
    refine ⟨cs', cons_agree hag (Know.nom_at hK hk) hc', ?_⟩
    rcases hd' with ⟨h1, h2⟩ | ⟨s, arr', ty', fr', hs', hh', rest⟩
    ·exact .inl ⟨h1, h2.move (hother k hkn) fun s hs' => setRow_other w r.blk s.blk _ (fun e => h.apart j k b b' r s hb hk ho (fun e => hkj e.symm) hr hs' e.symm)⟩
    ·have hne := h.apart j k b b' r s hb hk ho (fun e => hkj e.symm) hr hs'
     exact .inr ⟨s, arr', ty', fr', by rw [hother k hkn]; exact hs', by rw [setRow_other w r.blk s.blk _ (fun e => hne e.symm)]; exact hh', rest⟩
 ·intro a k b1 c1 r1 s1 ha1 hk1 ho1 hne hr1 hs1
  rw [hat] at ha1 hk1
  by_cases han : a = n
  ·subst han
   rw [hself] at hr1; cases hr1
   rw [if_neg (fun e => hne e.symm)] at hk1
   rw [hother k (fun e => hne e.symm)] at hs1
   split at hk1
   ·simp at hk1
   ·rename_i hkj
    exact h.apart j k b c1 r s1 hb hk1 ho (fun e => hkj e.symm) hr hs1
  ·rw [if_neg han] at ha1
   rw [hother a han] at hr1
   split at ha1
   ·simp at ha1
   ·rename_i haj
    by_cases hkn : k = n
    ·subst hkn
     rw [hself] at hs1; cases hs1
     have := h.apart j a b b1 r r1 hb ha1 ho (fun e => haj e.symm) hr hr1
     exact fun e => this e.symm
    ·rw [if_neg hkn] at hk1
     rw [hother k hkn] at hs1
     split at hk1
     ·simp at hk1
     ·exact h.apart a k b1 c1 r1 s1 ha1 hk1 ho1 hne hr1 hs1
 ·intro x b1 r1 hx ho1 hr1
  rw [hat] at hx
  by_cases hxn : x = n
  ·subst hxn; rw [hself] at hr1; cases hr1; exact h.mine j b r hb ho hr
  ·rw [if_neg hxn] at hx; rw [hother x hxn] at hr1
   split at hx
   ·simp at hx
   ·exact h.mine x b1 r1 hx ho1 hr1
 ·intro x b1 r1 hx hr1
  rw [hat] at hx
  rw [size_setRow]
  by_cases hxn : x = n
  ·subst hxn; rw [hself] at hr1; cases hr1; exact h.live j b r hb hr
  ·rw [if_neg hxn] at hx; rw [hother x hxn] at hr1
   split at hx
   ·simp at hx
   ·exact h.live x b1 r1 hx hr1
 ·intro b1 hb1 hb2
  have hne : b1 ≠ r.blk := by
   rcases h.mine j b r hb ho hr with hm' | hm'
   ·omega
   ·intro e; subst e; exact hb2 hm'
  rw [setRow_other w r.blk b1 _ hne]; exact h.old b1 hb1 hb2
 ·rw [size_setRow]; exact h.size

theorem opAppend_ok (hT : TabOk P T) {n : Nat} {fit : Bool} {sT xT tt : TypeId} {x y : AV} {o : Ox} {u v : Value} (h : opAppend T K n fit sT xT x y = some o) (hvc : okP o.vc) (hx : x.con β u) (hy : y.con β v)
    (hn : o.al = true → K.at n = none ∧ K.nom n (n + 1) = true) (hR : RelW w0 rw β K w) : Goes P w0 rw β K w n (Builtin.append_ #[sT, xT] tt #[u, v]) o := by
  unfold opAppend at h
  split at h
  · rename_i el _ _ _ _ ht
    split at h
    · rename_i e he
      split at h
      · simp at h
      · rename_i hzb
        have hz : e.size ≠ 0 := fun e' => hzb (.inl e')
        have hb0 : e.bytes ≠ 0 := fun e' => hzb (.inr e')
        split at h
        · rename_i vx m bs hnew
          split at h
          · rename_i hnb
            obtain ⟨i, z, hi, hs, hby, hzv, hzc⟩ := (hT _ _ he).info
            have hzl : z.cells.toList.length = i.size := by have := cons_len (hzc β); rw [(hT _ _ he).zsz] at this; rw [hs]; exact this
            have hu := (hT _ _ ht).und
            split at h
            · rename_i j c len zz
              split at h
              · rename_i hzz; subst hzz
                split at h
                · rename_i b hb
                  split at h
                  · rename_i ho
                    split at h
                    · rename_i vs xas hseg
                      split at h
                      · rename_i hna
                        obtain ⟨hna, hjn⟩ := hna
                        simp only [Option.some.injEq] at h; subst h
                        have hvc : vs ∧ vx ∧ (len + m) * e.bytes ≤ 140737488355328 := hvc
                        obtain ⟨hv1, hv2, hv3⟩ := hvc
                        obtain ⟨hn, hK⟩ := hn rfl
                        rw [mulz_eq] at hseg
                        obtain ⟨ds, hds, hnv⟩ := newOf_run hT he hb0 hs hby hzc hnew hv2 hy hR
                        obtain ⟨base, cap, hv, hlc, hbase⟩ := hx
                        simp only [List.cons.injEq, and_true] at hv; subst hv
                        have hdl : ds.length = m * e.size := by rw [hnv.len, hs]
                        have hnj : (K.set1 j none).at n = none := by rw [Know.at_set1, if_neg (fun e => hjn e.symm)]; exact hn
                        have hKj : (K.set1 j none).nom n (n + 1) = true := Know.set1_nom hK _ _ rfl
                        by_cases hfit : len + m ≤ cap
                        · by_cases hc0 : cap = 0
                          · have hl0 : len = 0 := by omega
                            have hm0 : m = 0 := by omega
                            subst hl0; subst hm0
                            have hd0 : ds = [] := List.eq_nil_of_length_eq_zero (by simpa using hdl)
                            subst hd0
                            have hrun := run_append_fit (ty := tt) hu hi hzv (by rw [hs]; exact hz) hnv (base := base) hfit (w' := w) (by cases base <;> simp [storeCells])
                            obtain ⟨cs, hcs, _⟩ := hR.holds j b hb
                            have has := (segR_con hseg hv1 hcs).1
                            rw [show sub cs c (0 * e.size) = [] by simp [sub]] at has
                            have hjoin := joinA_con has hds
                            refine ⟨β.upd n none, _, w, hrun, Env.agree_upd _ _ _, ?_, RelW.newNil (hR.drop j) n hKj hjoin (joinA_nom hna hnb) hnj⟩
                            exact ⟨base, cap, rfl, hfit, fun hp => by omega⟩
                          · obtain ⟨r, hr, rfl, hin⟩ := hbase (by omega)
                            obtain ⟨cs, hcs, hcell⟩ := Blk.cellsAt (hR.holds j b hb) hr
                            obtain ⟨has, hlen⟩ := segR_con hseg hv1 hcs
                            have hsl : (sub cs c (len * e.size)).length = len * e.size := by
                              by_cases h0 : len * e.size = 0
                              · rw [h0]; simp [sub]
                              · exact sub_len _ _ _ (hlen (by omega))
                            have hroom : (len + m) * e.size ≤ cap * e.size := Nat.mul_le_mul_right _ hfit
                            rw [Nat.add_mul] at hroom
                            obtain ⟨w', hst, hrel⟩ := RelW.move P hR hb ho hjn hn hK hr hsl has (fun k vv hvv => by
                              rw [Nat.add_assoc]; exact hcell _ _ (getElem?_sub _ _ _ _ _ hvv)) hds hna hnb (by rw [hdl]; omega)
                            have hrun := run_append_fit (ty := tt) hu hi hzv (by rw [hs]; exact hz) hnv (base := some ⟨r.blk, r.off + c, none⟩) hfit (w' := w') (by rw [hs]; simpa [addr_add] using hst)
                            refine ⟨_, _, w', hrun, Env.agree_upd _ _ _, ?_, hrel⟩
                            refine ⟨_, cap, rfl, hfit, fun hp => ⟨_, by unfold Env.upd; rw [if_pos rfl], by simp, by simp; omega⟩⟩
                        · obtain ⟨olds, hold, hol, hof⟩ := seg_run (P := P) hb hseg hv1 hR (base := base) (fun hp => by
                            have : 0 < len := by
                              rcases Nat.eq_zero_or_pos len with h | h
                              · subst h; simp at hp
                              · exact h
                            obtain ⟨r, h1, h2, _⟩ := hbase (by omega); exact ⟨r, h1, h2⟩) len cap
                          have hrun := run_append_new (ty := tt) hu hi hzv (by rw [hs]; exact hz) (by rw [hby]; exact hb0) hnv (base := base) (sLen := len) (sCap := cap) (olds := olds) (by omega) (by rw [hby]; exact hv3) (by rw [hs]; exact hof)
                          have hrel := RelW.grown (hR.drop j) n hnj hKj (rest := (Builtin.zeroCells z.cells (grownCap w (len + m) cap el - (len + m))).toList) hold hds hna hnb el (zero_one (hzc β))
                          have hgl := grown_con hzl w (len + m) cap el olds ds (by rw [hol, hdl, hs, Nat.add_mul])
                          refine ⟨_, _, _, hrun, Env.agree_upd _ _ _, ?_, hrel⟩
                          refine ⟨_, _, rfl, grownCap_ge w _ _ _, fun hp => ⟨_, by unfold Env.upd; rw [if_pos rfl], by simp, ?_⟩⟩
                          simp only [hgl, hs]; omega
                      · simp at h
                    · simp at h
                  · simp at h
                · simp at h
              · simp at h
            · rename_i j c len cap
              split at h
              · rename_i b hb
                split at h
                · rename_i hfit
                  split at h
                  · rename_i ho
                    split at h
                    · rename_i vw out hw
                      simp only [Option.some.injEq] at h; subst h
                      have hvc : vx ∧ okP vw ∧ len + m ≤ cap := hvc
                      obtain ⟨hv1, hv2, hv3⟩ := hvc
                      rw [mulz_eq, mulz_eq] at hw
                      obtain ⟨ds, hds, hnv⟩ := newOf_run hT he hb0 hs hby hzc hnew hv1 hy hR
                      have hdl : ds.length = m * e.size := by rw [hnv.len, hs]
                      obtain ⟨base, hv, hlc, hbase⟩ := hx
                      simp only [List.cons.injEq, and_true] at hv; subst hv
                      cases base with
                      | none =>
                        have hcap : cap = 0 := by
                          rcases Nat.eq_zero_or_pos cap with h | h
                          · exact h
                          · obtain ⟨r, _, h2⟩ := hbase h; cases h2
                        have hm0 : m = 0 := by omega
                        subst hm0
                        have hd0 : ds = [] := List.eq_nil_of_length_eq_zero (by simpa using hdl)
                        subst hd0
                        have hrun := run_append_fit (ty := tt) hu hi hzv (by rw [hs]; exact hz) hnv (base := none) hv3 (w' := w) rfl
                        have hrel := hR.rephrase hb (wrt_map hw) (out := out) (fun cs hc => by
                          have := (wrt_con hw hv2 hc hds hdl).1
                          rwa [show splice cs (c + len * e.size) (0 * e.size) [] = cs by simp [splice]] at this)
                        rw [ho] at hrel
                        refine ⟨β, _, w, hrun, agree_refl _ _ _, ⟨_, rfl, hv3, fun hp => by omega⟩, hrel⟩
                      | some a =>
                        obtain ⟨w', hst, hrel⟩ := RelW.store0 P hR hb (wrt_map hw) ho (fun cs hc => wrt_con hw hv2 hc hds hdl) hds hdl (a.add (len * i.size)) (fun hpos => by
                          have : 0 < m := by
                            rcases Nat.eq_zero_or_pos m with h | h
                            · subst h; simp at hpos
                            · exact h
                          obtain ⟨r, hr, h2⟩ := hbase (by omega)
                          refine ⟨r, hr, ?_⟩
                          cases h2
                          rw [addr_add, hs, Nat.add_assoc])
                        have hrun := run_append_fit (ty := tt) hu hi hzv (by rw [hs]; exact hz) hnv (base := some a) hv3 (w' := w') hst
                        exact ⟨β, _, w', hrun, agree_refl _ _ _, ⟨_, rfl, hv3, fun hp => hbase hp⟩, hrel⟩
                    · simp at h
                  · simp at h
                · split at h
                  · rename_i vs xas hseg
                    split at h
                    · rename_i hna
                      simp only [Option.some.injEq] at h; subst h
                      have hvc : vs ∧ vx ∧ cap < len + m ∧ (len + m) * e.bytes ≤ 140737488355328 := hvc
                      obtain ⟨hv1, hv2, hv3, hv4⟩ := hvc
                      obtain ⟨hn, hK⟩ := hn rfl
                      rw [mulz_eq] at hseg
                      obtain ⟨ds, hds, hnv⟩ := newOf_run hT he hb0 hs hby hzc hnew hv2 hy hR
                      have hdl : ds.length = m * e.size := by rw [hnv.len, hs]
                      obtain ⟨base, hv, hlc, hbase⟩ := hx
                      simp only [List.cons.injEq, and_true] at hv; subst hv
                      obtain ⟨olds, hold, hol, hof⟩ := seg_run (P := P) hb hseg hv1 hR (base := base) (fun hp => by
                        have : 0 < len := by
                          rcases Nat.eq_zero_or_pos len with h | h
                          · subst h; simp at hp
                          · exact h
                        exact hbase (by omega)) len cap
                      have hrun := run_append_new (ty := tt) hu hi hzv (by rw [hs]; exact hz) (by rw [hby]; exact hb0) hnv (base := base) (sLen := len) (sCap := cap) (olds := olds) hv3 (by rw [hby]; exact hv4) (by rw [hs]; exact hof)
                      have hrel := RelW.grown hR n hn hK (rest := (Builtin.zeroCells z.cells (grownCap w (len + m) cap el - (len + m))).toList) hold hds hna hnb el (zero_one (hzc β))
                      have hgl := grown_con hzl w (len + m) cap el olds ds (by rw [hol, hdl, hs, Nat.add_mul])
                      refine ⟨_, _, _, hrun, Env.agree_upd _ _ _, ?_, hrel⟩
                      refine ⟨_, _, rfl, grownCap_ge w _ _ _, fun hp => ⟨_, by unfold Env.upd; rw [if_pos rfl], by simp, ?_⟩⟩
                      simp only [hgl, hs]; omega
                    · simp at h
                  · simp at h
              · simp at h
            · simp only [Option.some.injEq] at h; subst h
              have hvc : vx ∧ m * e.bytes ≤ 140737488355328 := hvc
              obtain ⟨hv1, hv2⟩ := hvc
              obtain ⟨hnn, hK⟩ := hn rfl
              obtain ⟨ds, hds, hnv⟩ := newOf_run hT he hb0 hs hby hzc hnew hv1 hy hR
              have hdl : ds.length = m * e.size := by rw [hnv.len, hs]
              obtain ⟨hv, _⟩ := hx
              simp only [List.cons.injEq, and_true] at hv; subst hv
              by_cases hm0 : m = 0
              · subst hm0
                have hd0 : ds = [] := List.eq_nil_of_length_eq_zero (by simpa using hdl)
                subst hd0
                have hrun := run_append_fit (ty := tt) hu hi hzv (by rw [hs]; exact hz) hnv (base := none) (sLen := 0) (sCap := 0) (Nat.le_refl _) (w' := w) rfl
                exact ⟨β.upd n none, _, w, hrun, Env.agree_upd _ _ _, ⟨none, 0, rfl, Nat.le_refl _, fun hp => by omega⟩, RelW.newNil hR n hK hds hnb hnn⟩
              · have hrun := run_append_new (ty := tt) hu hi hzv (by rw [hs]; exact hz) (by rw [hby]; exact hb0) hnv (base := none) (sLen := 0) (sCap := 0) (olds := []) (by omega) (by rw [hby]; simpa using hv2) (fun w' _ => rfl)
                have hrel := RelW.grown hR n hnn hK (rest := (Builtin.zeroCells z.cells (grownCap w (0 + m) 0 el - (0 + m))).toList) (xas := []) (olds := []) rfl hds rfl hnb el (zero_one (hzc β))
                have hgl := grown_con hzl w (0 + m) 0 el [] ds (by rw [hdl, hs]; simp)
                have hj : joinA [] bs = bs := by unfold joinA; rfl
                rw [hj] at hrel
                refine ⟨_, _, _, hrun, Env.agree_upd _ _ _, ?_, hrel⟩
                refine ⟨some ⟨w.heap.size, 0, none⟩, grownCap w (0 + m) 0 el, by simp, by have := grownCap_ge w (0 + m) 0 el; omega, fun hp => ⟨_, by unfold Env.upd; rw [if_pos rfl], by simp, ?_⟩⟩
                simp only [hgl, hs]; omega
            · simp at h
          · simp at h
        · simp at h
    · simp at h
  · simp at h
end sound
end Go.Proofs.YtjmfnjgcofpocaaGreat.X

/- Conversion of a row of bytes to its own type: the row is only read from then on. -/
namespace Go.Proofs.YtjmfnjgcofpocaaGreat.X
open Go

def opConvS (T : Tab) (K : Know) (src dst : TypeId) (x : AV) : Option Ox :=
  match T dst, x with
  | some e, .o (.a (.sl j c len cap)) =>
    (match e.d with
     | .slice el => (match T el, K.at j with
        | some e2, some b => (match e2.d with
            | .int .u8 => if src = dst ∧ b.own = true then some ⟨some (0 < cap), .o (.a (.sl j c len cap)), [(j, some ⟨false, b.cells⟩)], false⟩ else none
            | _ => none)
        | _, _ => none)
     | _ => none)
  | _, _ => none

section sound
variable {P : Program} {T : Tab} {w0 : World} {rw : List Nat} {β : Env} {K : Know} {w : World}

theorem RelW.frozen (h : RelW w0 rw β K w) {j : Nat} {b : Blk} (hb : K.at j = some b) (ho : b.own = true) {r : Ref} (hr : β j = some r) (a : Addr) (ha : a.block = r.blk) (n : Nat) :
  RelW w0 rw β (K.set1 j (some ⟨false, b.cells⟩)) (w.freeze a n) := by
 unfold World.freeze
 split
 ·have hat : ∀ x c, (K.set1 j (some ⟨false, b.cells⟩)).at x = some c → ∃ d, K.at x = some d ∧ d.cells = c.cells ∧ (c.own = true → d.own = true) := by
   intro x c hx
   rw [Know.at_set1] at hx
   split at hx
   ·rename_i e; subst e; simp only [Option.some.injEq] at hx; subst hx; exact ⟨b, hb, rfl, fun h => by cases h⟩
   ·exact ⟨c, hx, rfl, fun h => h⟩
  refine ⟨?_, ?_, ?_, ?_, h.old, h.size, h.os, h.tape, h.output⟩
  ·intro x c hx
   obtain ⟨d, hd, hc, hown⟩ := hat x c hx
   obtain ⟨cs, h1, h2⟩ := h.holds x d hd
   refine ⟨cs, hc ▸ h1, ?_⟩
   rcases h2 with ⟨h3, h4⟩ | ⟨q, arr, ty, fr, g1, g2, g3, g4, g5, g6⟩
   ·refine .inl ⟨h3, ?_⟩
    rcases h4 with h4 | h4
    ·left
     cases hco : c.own with
     | false => rfl
     | true => rw [hown hco] at h4; cases h4
    ·exact .inr (h4.imp id (by rw [hc]; exact id))
   ·exact .inr ⟨q, arr, ty, fr, g1, g2, g3, g4, g5, fun h => g6 (hown h)⟩
  ·intro x y c d q s hx hy hown
   obtain ⟨c', hc', _, ho'⟩ := hat x c hx
   obtain ⟨d', hd', _, _⟩ := hat y d hy
   exact h.apart x y c' d' q s hc' hd' (ho' hown)
  ·intro x c q hx hown
   obtain ⟨c', hc', _, ho'⟩ := hat x c hx
   exact h.mine x c' q hc' (ho' hown)
  ·intro x c q hx
   obtain ⟨c', hc', _, _⟩ := hat x c hx
   exact h.live x c' q hc'
 ·have hne : ∀ x c q, (K.set1 j (some ⟨false, b.cells⟩)).at x = some c → x ≠ j → β x = some q → q.blk ≠ r.blk := by
   intro x c q hx hxj hq
   rw [Know.at_set1, if_neg hxj] at hx
   exact fun e => h.apart j x b c r q hb hx ho (fun e => hxj e.symm) hr hq e.symm
  have hsz : ∀ (f : Obj → Obj), (w.heap.modify a.block f).size = w.heap.size := fun f => by simp
  have hoth : ∀ (f : Obj → Obj) (x : Nat), x ≠ r.blk → (w.heap.modify a.block f)[x]? = w.heap[x]? := fun f x hx => by
   rw [Array.getElem?_modify, if_neg (by rw [ha]; exact fun e => hx e.symm)]
  refine ⟨?_, ?_, ?_, ?_, ?_, ?_, h.os, h.tape, h.output⟩
  ·intro x c hx
   by_cases hxj : x = j
   ·subst hxj
    rw [Know.at_set1, if_pos rfl] at hx
    simp only [Option.some.injEq] at hx; subst hx
    obtain ⟨cs, h1, h2⟩ := h.holds x b hb
    refine ⟨cs, h1, ?_⟩
    rcases h2 with ⟨h3, h4⟩ | ⟨q, arr, ty, fr, g1, g2, g3, g4, g5, g6⟩
    ·exact .inl ⟨h3, .inl rfl⟩
    ·rw [hr] at g1; cases g1
     obtain ⟨lo, hi⟩ := fr
     have hget : ∃ fr', (w.heap.modify a.block fun
       | .cells c elem (lo, hi) => .cells c elem (if lo == hi then (a.off, a.off + n) else (min lo a.off, max hi (a.off + n)))
       | o => o)[r.blk]? = some (.cells arr ty fr') := by
      rw [Array.getElem?_modify, if_pos ha, g2]; exact ⟨_, rfl⟩
     obtain ⟨fr', hf⟩ := hget
     exact .inr ⟨r, arr, ty, fr', hr, hf, g3, g4, g5, fun h => by cases h⟩
   ·have hx' := hx
    rw [Know.at_set1, if_neg hxj] at hx
    obtain ⟨cs, h1, h2⟩ := h.holds x c hx
    refine ⟨cs, h1, ?_⟩
    rcases h2 with h2 | ⟨q, arr, ty, fr, g1, g2, rest⟩
    ·exact .inl ⟨h2.1, h2.2.move rfl fun q g1 => hoth _ _ (hne x c q hx' hxj g1)⟩
    ·exact .inr ⟨q, arr, ty, fr, g1, (hoth _ _ (hne x c q hx' hxj g1)).trans g2, rest⟩
  ·intro x y c d q s hx hy hown hxy h1 h2
   rw [Know.at_set1] at hx hy
   split at hx
   ·simp only [Option.some.injEq] at hx; subst hx; cases hown
   ·split at hy
    ·rename_i _ e; subst e
     exact h.apart x y c b q s hx hb hown hxy h1 h2
    ·exact h.apart x y c d q s hx hy hown hxy h1 h2
  ·intro x c q hx hown h1
   rw [Know.at_set1] at hx
   split at hx
   ·simp only [Option.some.injEq] at hx; subst hx; cases hown
   ·exact h.mine x c q hx hown h1
  ·intro x c q hx h1
   simp only [hsz]
   rw [Know.at_set1] at hx
   split at hx
   ·rename_i e; subst e; exact h.live x b q hb h1
   ·exact h.live x c q hx h1
  ·intro x hx hnr
   refine (hoth _ x fun e => ?_).trans (h.old x hx hnr)
   rcases h.mine j b r hb ho hr with h1 | h1
   ·omega
   ·exact hnr (e ▸ h1)
  ·simp only [hsz]; exact h.size

theorem opConvS_ok (hT : TabOk P T) {n : Nat} {src dst : TypeId} {x : AV} {o : Ox} {v : Value} (h : opConvS T K src dst x = some o) (hv : okP o.vc) (hx : x.con β v) (hR : RelW w0 rw β K w) : Goes P w0 rw β K w n (convert src dst v) o := by
 unfold opConvS at h
 split at h
 ·rename_i e j c len cap he
  split at h
  ·rename_i el hel
   split at h
   ·rename_i e2 b he2 hb
    split at h
    ·rename_i hd2
     split at h
     ·rename_i hc
      obtain ⟨rfl, ho⟩ := hc
      simp only [Option.some.injEq] at h; subst h
      have hcap : 0 < cap := hv
      have hxx := hx
      obtain ⟨base, hvv, hlc, hbase⟩ := hx
      simp only [List.cons.injEq, and_true] at hvv; subst hvv
      obtain ⟨r, hr, rfl⟩ := hbase hcap
      have hu := (hT _ _ he).und
      have hu2 := (hT _ _ he2).und
      rw [hel] at hu; rw [hd2] at hu2
      have hsh : ∃ w', (markStringish ⟨r.blk, r.off + c, none⟩).run P w = .ok () w' ∧ RelW w0 rw β (K.set1 j (some ⟨false, b.cells⟩)) w' := by
       unfold markStringish
       simp only [Sem.run_bind, run_shape, Result.andThen_ok]
       cases hs : w.shape? r.blk with
       | none =>
        refine ⟨w, rfl, ?_⟩
        have := hR.frozen hb ho hr ⟨r.blk, 0, none⟩ rfl 0
        simpa [World.freeze] using this
       | some q =>
        obtain ⟨q1, q2⟩ := q
        exact ⟨_, rfl, hR.frozen hb ho hr ⟨r.blk, q2, none⟩ rfl 1⟩
      obtain ⟨w', hrun, hrel⟩ := hsh
      refine ⟨β, _, w', ?_, agree_refl _ _ _, hxx, hrel⟩
      unfold convert
      simp only [Sem.run_bind, run_underlying hu, Result.andThen_ok, beq_self_eq_true, run_underlying hu2, hrun, Sem.run_pure]
     ·simp at h
    ·simp at h
   ·simp at h
  ·simp at h
 ·simp at h

theorem opConvS_mono {K' : Know} (hs : ∀ j b, K.at j = some b → K'.at j = some b) {src dst : TypeId} {x : AV} {r : Ox} (h : opConvS T K src dst x = some r) : opConvS T K' src dst x = some r := by
 unfold opConvS at h ⊢
 split at h
 ·split at h
  ·split at h
   ·rename_i e2 b he2 hb
    rw [hs _ _ hb, he2]; exact h
   ·simp at h
  ·simp at h
 ·simp at h
end sound
end Go.Proofs.YtjmfnjgcofpocaaGreat.X

/- Maps from bytes to integers, and whether two structs are the same. -/
namespace Go.Proofs.YtjmfnjgcofpocaaGreat.X
open Go

theorem run_getMap {P : Program} {w : World} {r : Nat} {es : Array MapEntry} {clock : Nat} (hb : w.heap[r]? = some (.map es clock)) : (getObj r).run P w = .ok (.map es clock) w := by
 simp [getObj, Sem.run, hb]
theorem run_setMap {P : Program} {w : World} {r : Nat} {es : Array MapEntry} {clock : Nat} (o : Obj) (hb : w.heap[r]? = some (.map es clock)) : (setObj r o).run P w = .ok () { w with heap := w.heap.setIfInBounds r o } := by
 simp [setObj, Sem.run, hb]

section rel
variable {w0 : World} {rw : List Nat} {β : Env} {K : Know} {w : World}

theorem RelW.poke (h : RelW w0 rw β K w) {j : Nat} {b : Blk} (hb : K.at j = some b) (ho : b.own = true) {r : Ref} (hr : β j = some r) {w' : World}
  (hsz : w'.heap.size = w.heap.size) (hoth : ∀ x, x ≠ r.blk → w'.heap[x]? = w.heap[x]?) (h1 : w'.os = w.os) (h2 : w'.tape = w.tape) (h3 : w'.output = w.output) {b' : Blk} (ho' : b'.own = true) (hh : b'.holds β w' j) :
  RelW w0 rw β (K.set1 j (some b')) w' := by
 have hne : ∀ k c s, k ≠ j → K.at k = some c → β k = some s → s.blk ≠ r.blk := fun k c s hk hc hs e => h.apart j k b c r s hb hc ho (fun e => hk e.symm) hr hs e.symm
 refine ⟨?_, ?_, ?_, ?_, ?_, by rw [hsz]; exact h.size, h1.trans h.os, h2.trans h.tape, h3.trans h.output⟩
 ·intro k c hk
  rw [Know.at_set1] at hk
  by_cases hkj : k = j
  ·subst hkj; simp only [if_true, Option.some.injEq] at hk; subst hk; exact hh
  ·rw [if_neg hkj] at hk
   obtain ⟨cs, hc, hd⟩ := h.holds k c hk
   refine ⟨cs, hc, hd.imp (fun h => ⟨h.1, h.2.move rfl fun s hs => hoth _ (hne k c s hkj hk hs)⟩) ?_⟩
   rintro ⟨s, arr, ty, fr, hs, hh, rest⟩
   exact ⟨s, arr, ty, fr, hs, (hoth _ (hne k c s hkj hk hs)).trans hh, rest⟩
 ·intro a k b1 c1 r1 s1 ha1 hk1 ho1 hne1 hr1 hs1
  rw [Know.at_set1] at ha1 hk1
  have key : ∀ x b2, (if x = j then some b' else K.at x) = some b2 → ∃ b3, K.at x = some b3 ∧ b3.own = b2.own := by
   intro x b2 hx
   by_cases hxj : x = j
   ·subst hxj; simp only [if_true, Option.some.injEq] at hx; subst hx; exact ⟨b, hb, ho.trans ho'.symm⟩
   ·rw [if_neg hxj] at hx; exact ⟨b2, hx, rfl⟩
  obtain ⟨b3, hb3, e3⟩ := key a b1 ha1
  obtain ⟨c3, hc3, _⟩ := key k c1 hk1
  exact h.apart a k b3 c3 r1 s1 hb3 hc3 (e3.trans ho1) hne1 hr1 hs1
 ·intro x b1 r1 hx ho1 hr1
  rw [Know.at_set1] at hx
  by_cases hxj : x = j
  ·subst hxj; exact h.mine x b r1 hb ho hr1
  ·rw [if_neg hxj] at hx; exact h.mine x b1 r1 hx ho1 hr1
 ·intro x b1 r1 hx hr1
  rw [Know.at_set1] at hx
  rw [hsz]
  by_cases hxj : x = j
  ·subst hxj; exact h.live x b r1 hb hr1
  ·rw [if_neg hxj] at hx; exact h.live x b1 r1 hx hr1
 ·intro x hx hn
  refine (hoth x fun e => ?_).trans (h.old x hx hn)
  rcases h.mine j b r hb ho hr with hm | hm
  ·omega
  ·exact hn (e ▸ hm)

theorem RelW.newMap (h : RelW w0 rw β K w) (n : Nat) (hn : K.at n = none) (hK : K.nom n (n + 1) = true) (m : Nat) :
  RelW w0 rw (β.upd n (some ⟨w.heap.size, 1, 0⟩)) (K.set1 n (some ⟨true, [.mp m []]⟩)) { w with heap := w.heap.push (.map #[] 0) } := by
 have hag := Env.agree_upd β n (some ⟨w.heap.size, 1, 0⟩)
 have hother : ∀ k, k ≠ n → (β.upd n (some ⟨w.heap.size, 1, 0⟩)) k = β k := fun k hk => by unfold Env.upd; rw [if_neg hk]
 have hself : (β.upd n (some ⟨w.heap.size, 1, 0⟩)) n = some ⟨w.heap.size, 1, 0⟩ := by unfold Env.upd; rw [if_pos rfl]
 have hold : ∀ b, b < w.heap.size → (w.heap.push (.map #[] 0))[b]? = w.heap[b]? := fun b hb => by
  rw [Array.getElem?_push, if_neg (Nat.ne_of_lt hb)]
 refine ⟨?_, ?_, ?_, ?_, ?_, ?_, h.os, h.tape, h.output⟩
 ·intro k b hk
  rw [Know.at_set1] at hk
  by_cases hkn : k = n
  ·subst hkn
   simp only [if_true, Option.some.injEq] at hk; subst hk
   exact ⟨[], ⟨[], [], rfl, rfl, rfl⟩, .inl ⟨rfl, .inr (.inr ⟨m, [], _, #[], 0, rfl, hself, rfl, rfl, by simp, rfl, by simp, by simp⟩)⟩⟩
  ·rw [if_neg hkn] at hk
   obtain ⟨cs', hc', hd⟩ := h.holds k b hk
   refine ⟨cs', cons_agree hag (Know.nom_at hK hk) hc', ?_⟩
   rcases hd with ⟨h1, h2⟩ | ⟨r, a', t', f', hr, hh, rest⟩
   ·exact .inl ⟨h1, h2.move (hother k hkn) fun r hr => hold _ (h.live k b r hk hr)⟩
   ·exact .inr ⟨r, a', t', f', by rw [hother k hkn]; exact hr, (hold _ (h.live k b r hk hr)).trans hh, rest⟩
 ·intro a k b c r s ha hk ho hne hr hs
  rw [Know.at_set1] at ha hk
  by_cases han : a = n
  ·subst han
   rw [hself] at hr; cases hr
   rw [if_neg (fun e => hne e.symm)] at hk
   rw [hother k (fun e => hne e.symm)] at hs
   have := h.live k c s hk hs
   exact fun e => by simp at e; omega
  ·rw [if_neg han] at ha
   rw [hother a han] at hr
   by_cases hkn : k = n
   ·subst hkn
    rw [hself] at hs; cases hs
    have := h.live a b r ha hr
    exact fun e => by simp at e; omega
   ·rw [if_neg hkn] at hk
    rw [hother k hkn] at hs
    exact h.apart a k b c r s ha hk ho hne hr hs
 ·intro x b r hx ho hr
  rw [Know.at_set1] at hx
  by_cases hxn : x = n
  ·subst hxn; rw [hself] at hr; cases hr; exact .inl h.size
  ·rw [if_neg hxn] at hx; rw [hother x hxn] at hr; exact h.mine x b r hx ho hr
 ·intro x b r hx hr
  rw [Know.at_set1] at hx
  simp only [Array.size_push]
  by_cases hxn : x = n
  ·subst hxn; rw [hself] at hr; cases hr; simp
  ·rw [if_neg hxn] at hx; rw [hother x hxn] at hr; have := h.live x b r hx hr; omega
 ·intro b hb hb2
  have := h.size
  rw [hold b (by omega)]; exact h.old b hb hb2
 ·have := h.size
  simp only [Array.size_push]; omega

theorem RelW.mapAt (h : RelW w0 rw β K w) {j n : Nat} {l : List (List Int × Int)} (hb : K.at j = some ⟨true, [.mp n l]⟩) {r : Ref} (hr : β j = some r) (h1 : r.off = 1) (h2 : r.size = 0) :
  ∃ es clk, w.heap[r.blk]? = some (.map es clk) ∧ MapOk n l es.toList := by
 obtain ⟨cs, hc, hd⟩ := h.holds j _ hb
 rcases hd with ⟨_, hd | hd | ⟨n', l', r', es, clk, e, hr', _, _, hh, hm⟩⟩ | ⟨r', arr, ty, fr, hr', hh, hs, hl, _⟩
 ·cases hd
 ·rw [hr] at hd; cases hd
 ·rw [hr] at hr'; cases hr'
  simp only [List.cons.injEq, Atom.mp.injEq, and_true] at e
  obtain ⟨rfl, rfl⟩ := e
  exact ⟨es, clk, hh, hm⟩
 ·rw [hr] at hr'; cases hr'; omega
end rel

/- two structs -/
section eq
variable {P : Program} {T : Tab} {w : World}

theorem run_eqIn_ints {t el : TypeId} {len s1 b1 bb : Nat} {z1 zz : List Atom} {eo1 eo : Bool} {k0 : IntKind} (d : Nat) (hT : TEOk P t ⟨.array len el, s1, b1, z1, eo1⟩) (he : TEOk P el ⟨.int k0, 1, bb, zz, eo⟩) (k : IntKind) (xs ys : List Int) (hx : xs.length = len) (hy : ys.length = len) :
  (Op.equalIn (d + 2) t (.agg (xs.map (Value.int k)).toArray) (.agg (ys.map (Value.int k)).toArray)).run P w = .ok (decide (xs = ys)) w := by
 obtain ⟨i, z, hi, hs, _⟩ := he.info
 have hc : P.cellsOf el = 1 := by unfold Program.cellsOf; rw [hi]; exact hs
 rw [show d + 2 = (d + 1) + 1 from rfl, run_equalIn_array w (d + 1) _ _ hT.und hi, hc, run_items he d k xs ys _ (fun j hj => by simp at hj; omega), all_range_eq xs ys len hx hy]

def eqF1 (T : Tab) (f : Field) (la lb : List Atom) : Option Bool :=
  match T f.type with
  | none => none
  | some e =>
    match takeC la f.offset e.size, takeC lb f.offset e.size with
    | some [.i k a], some [.i k' b] =>
      (match e with
       | ⟨.int _, 1, _, _, _⟩ => if k = k' then some (a == b) else none
       | _ => none)
    | some [.ints k m xs], some [.ints k' m' ys] =>
      (match e with
       | ⟨.array len el, s, _, _, _⟩ =>
         (match T el with
          | some ⟨.int _, 1, _, _, _⟩ => if k = k' ∧ m = len ∧ m' = len ∧ s ≠ 0 then some (decide (xs = ys)) else none
          | _ => none)
       | _ => none)
    | _, _ => none
def eqFs (T : Tab) (la lb : List Atom) : List Field → Option Bool
 | [] => some true
 | f :: r =>
  match eqF1 T f la lb with
  | none => none
  | some b =>
   match r with
   | [] => some b
   | r => (match eqFs T la lb r with
    | some c => some (b && c)
    | none => none)

theorem eqF1_run (hT : TabOk P T) {β : Env} {f : Field} {la lb : List Atom} {b : Bool} {cs ds : List Value} (h : eqF1 T f la lb = some b) (ha : cons β la cs) (hb : cons β lb ds) (d : Nat) :
  ∃ u v, (part f.type cs.toArray f.offset).run P w = .ok u w ∧ (part f.type ds.toArray f.offset).run P w = .ok v w ∧ (Op.equalIn (d + 2) f.type u v).run P w = .ok b w := by
 unfold eqF1 at h
 split at h
 ·simp at h
 ·rename_i e he
  split at h
  ·rename_i k a k' a' ha1 hb1
   split at h
   ·rename_i k0 bb zz eo
    split at h
    ·rename_i hk; subst hk
     simp only [Option.some.injEq] at h; subst h
     obtain ⟨ca, la2⟩ := takeC_con ha1 ha
     obtain ⟨cb, lb2⟩ := takeC_con hb1 hb
     have la2 := la2 (by show (0:Nat) < 1; decide)
     have lb2 := lb2 (by show (0:Nat) < 1; decide)
     rw [cons_single] at ca cb
     have ca : sub cs f.offset 1 = [Value.int k a] := ca
     have cb : sub ds f.offset 1 = [Value.int k a'] := cb
     refine ⟨.int k a, .int k a', ?_, ?_, ?_⟩
     ·exact run_part (w := w) (hT _ _ he) cs.toArray f.offset [.int k a] rfl (fun _ => rfl) (by simpa using ca.symm)
     ·exact run_part (w := w) (hT _ _ he) ds.toArray f.offset [.int k a'] rfl (fun _ => rfl) (by simpa using cb.symm)
     ·exact run_equalIn_int w (d + 1) f.type k k0 a a' (hT _ _ he).und
    ·simp at h
   ·simp at h
  ·rename_i k m xs k' m' ys ha1 hb1
   split at h
   ·rename_i len el s bb zz eo
    split at h
    ·rename_i k0 b2 z2 eo2 hel
     split at h
     ·rename_i hk; obtain ⟨rfl, rfl, rfl, hs⟩ := hk
      simp only [Option.some.injEq] at h; subst h
      obtain ⟨ca, la2⟩ := takeC_con ha1 ha
      obtain ⟨cb, lb2⟩ := takeC_con hb1 hb
      have la2 := la2 (by show 0 < s; omega)
      have lb2 := lb2 (by show 0 < s; omega)
      rw [cons_single] at ca cb
      obtain ⟨hx, ca⟩ := ca
      obtain ⟨hy, cb⟩ := cb
      have ca : sub cs f.offset s = xs.map (Value.int k) := ca
      have cb : sub ds f.offset s = ys.map (Value.int k) := cb
      have lx : (xs.map (Value.int k)).length = s := by rw [← ca]; exact sub_len _ _ _ la2
      have ly : (ys.map (Value.int k)).length = s := by rw [← cb]; exact sub_len _ _ _ lb2
      refine ⟨.agg (xs.map (Value.int k)).toArray, .agg (ys.map (Value.int k)).toArray, ?_, ?_, ?_⟩
      ·exact run_part (w := w) (hT _ _ he) cs.toArray f.offset _ lx (fun h => by cases h) (by simpa using ca.symm)
      ·exact run_part (w := w) (hT _ _ he) ds.toArray f.offset _ ly (fun h => by cases h) (by simpa using cb.symm)
      ·exact run_eqIn_ints d (hT _ _ he) (hT _ _ hel) k xs ys hx hy
     ·simp at h
    ·simp at h
   ·simp at h
  ·simp at h

theorem eqFs_run (hT : TabOk P T) {β : Env} {la lb : List Atom} {cs ds : List Value} (ha : cons β la cs) (hb : cons β lb ds) (d : Nat) : ∀ (fs : List Field) {b : Bool}, eqFs T la lb fs = some b → (fs.all fun f => f.name != "_") = true →
  (Op.eqFields (d + 2) cs.toArray ds.toArray fs).run P w = .ok b w
 | [], b, h, _ => by simp [eqFs] at h; subst h; rfl
 | f :: r, b, h, hn => by
  simp only [List.all_cons, Bool.and_eq_true, bne_iff_ne] at hn
  unfold eqFs at h
  split at h
  ·simp at h
  ·rename_i b1 h1
   obtain ⟨u, v, hu, hv, he⟩ := eqF1_run (w := w) hT h1 ha hb d
   have step : ∀ c, (Op.eqFields (d + 2) cs.toArray ds.toArray r).run P w = .ok c w → (Op.eqFields (d + 2) cs.toArray ds.toArray (f :: r)).run P w = .ok (b1 && c) w := by
    intro c hc
    unfold Op.eqFields
    rw [if_pos hn.1]
    simp only [Sem.run_bind, hu, hv, he, Result.andThen_ok, Sem.run_ite]
    cases b1
    ·simp
    ·simp [hc]
   split at h
   ·simp only [Option.some.injEq] at h; subst h
    have := step true rfl
    rwa [Bool.and_true] at this
   ·split at h
    ·rename_i c hc
     simp only [Option.some.injEq] at h; subst h
     exact step c (eqFs_run hT ha hb d _ hc (by simpa using hn.2))
    ·simp at h

def opBinS (T : Tab) (op : BinOp) (t : TypeId) (x y : AV) : Option Ox :=
  match x, y with
  | .o (.g la), .o (.g lb) =>
    (match T t with
     | some ⟨.struct fs, _, _, _, true⟩ =>
       (match eqFs T la lb fs.toList, op with
        | some b, .eql => some ⟨none, .o (.a (.b b)), [], false⟩
        | some b, .neq => some ⟨none, .o (.a (.b (!b))), [], false⟩
        | _, _ => none)
     | _ => none)
  | _, _ => none

theorem run_eqS (hT : TabOk P T) {t : TypeId} {fs : Array Field} {s b : Nat} {z : List Atom} (ht : T t = some ⟨.struct fs, s, b, z, true⟩) {β : Env} {la lb : List Atom} {cs ds : List Value} (ha : cons β la cs) (hb : cons β lb ds) {c : Bool} (h : eqFs T la lb fs.toList = some c) (d : Nat) :
  (Op.equalIn (d + 3) t (.agg cs.toArray) (.agg ds.toArray)).run P w = .ok c w := by
 obtain ⟨_, h2, h3⟩ := (hT _ _ ht).eqg rfl
 have hu : P.underlying t = some (.struct fs) := (hT _ _ ht).und
 have hf : P.fieldsOf t = fs := by unfold Program.fieldsOf; rw [hu]
 rw [show d + 3 = (d + 2) + 1 from rfl, run_equalIn_struct w (d + 2) t _ _ (by rw [hf]; exact hu) h2, hf]
 exact eqFs_run hT ha hb d _ h h3

theorem opBinS_ok {w0 : World} {rw : List Nat} {β : Env} {K : Know} (hT : TabOk P T) {n : Nat} {op : BinOp} {t : TypeId} {X Y : Operand} {x y : AV} {o : Ox} {u v : Value} (h : opBinS T op t x y = some o) (hx : x.con β u) (hy : y.con β v) (hR : RelW w0 rw β K w) :
  Goes P w0 rw β K w n (do eqGuard op t X Y u v; binOp op t u v) o := by
 unfold opBinS at h
 split at h
 ·rename_i la lb
  obtain ⟨cs, rfl, hcx⟩ := hx
  obtain ⟨ds, rfl, hcy⟩ := hy
  split at h
  ·rename_i fs s b z ht
   have run : ∀ c, eqFs T la lb fs.toList = some c → (Op.equalIn 10000 t (.agg cs.toArray) (.agg ds.toArray)).run P w = .ok c w := fun c hc => run_eqS hT ht hcx hcy hc 9997
   have hg : ∀ op, (eqGuard op t X Y (.agg cs.toArray) (.agg ds.toArray)).run P w = .ok () w := fun op => run_eqGuard_agg w op t X Y _ _ ((hT _ _ ht).eqg rfl).1
   split at h
   ·rename_i c hc
    simp only [Option.some.injEq] at h; subst h
    refine Goes.quiet hR (v := .bool c) ?_ rfl rfl
    rw [Sem.run_bind, hg, Result.andThen_ok, run_eql_struct, run c hc]; rfl
   ·rename_i c hc
    simp only [Option.some.injEq] at h; subst h
    refine Goes.quiet hR (v := .bool (!c)) ?_ rfl rfl
    rw [Sem.run_bind, hg, Result.andThen_ok, run_neq_struct, run c hc]; rfl
   ·simp at h
  ·simp at h
 ·simp at h
/- the keys of a map: structs of rows of bytes -/
def mget : List (List Int × Int) → List Int → Int
 | [], _ => 0
 | p :: r, k => if p.1 = k then p.2 else mget r k
def mset : List (List Int × Int) → List Int → Int → List (List Int × Int)
 | [], k, v => [(k, v)]
 | p :: r, k, v => if p.1 = k then (k, v) :: r else p :: mset r k v

def cover (T : Tab) : List Field → Nat → Nat → Bool
  | [], a, n => Nat.beq a n
  | f :: r, a, n =>
    match T f.type with
    | some ⟨.array len el, s, _, _, _⟩ =>
      (match T el with
       | some ⟨.int _, 1, _, _, _⟩ => Nat.beq f.offset a && (Nat.beq s len && (Nat.ble 1 len && cover T r (a + len) n))
       | _ => false)
    | _ => false
def keyTy (T : Tab) (t : TypeId) : Option Nat :=
 match T t with
 | some ⟨.struct fs, n, _, _, true⟩ => if cover T fs.toList 0 n then some n else none
 | _ => none

theorem keyPart (hT : TabOk P T) {t : TypeId} {d : TypeDesc} {len b : Nat} {z : List Atom} {o : Bool} (ht : T t = some ⟨d, len, b, z, o⟩) (ha : aggD d = true) (xs : List Int) (c : Nat) (h : c + len ≤ xs.length) :
  (part t (xs.map (Value.int .u8)).toArray c).run P w = .ok (.agg ((sub xs c len).map (Value.int .u8)).toArray) w := by
 have := run_part (w := w) (hT _ _ ht) (xs.map (Value.int .u8)).toArray c ((sub xs c len).map (Value.int .u8)) (by rw [List.length_map]; exact sub_len _ _ _ h) (fun h => by rw [show aggD d = false from h] at ha; cases ha) (by rw [sub_map])
 rw [this]
 unfold valOf
 rw [if_pos ha]

theorem sub_split {xs ys : List Int} {a len : Nat} : decide (xs.drop a = ys.drop a) = (decide (sub xs a len = sub ys a len) && decide (xs.drop (a + len) = ys.drop (a + len))) := by
 rw [Bool.eq_iff_iff, Bool.and_eq_true, decide_eq_true_eq, decide_eq_true_eq, decide_eq_true_eq]
 constructor
 ·intro h
  refine ⟨by unfold sub; rw [h], ?_⟩
  rw [← List.drop_drop, ← List.drop_drop, h]
 ·rintro ⟨h1, h2⟩
  unfold sub at h1
  rw [← List.take_append_drop len (xs.drop a), ← List.take_append_drop len (ys.drop a), List.drop_drop, List.drop_drop, h1, h2]

theorem eqCover (hT : TabOk P T) {xs ys : List Int} {n : Nat} (hx : xs.length = n) (hy : ys.length = n) (d : Nat) : ∀ (fs : List Field) (a : Nat), cover T fs a n = true → (fs.all fun f => f.name != "_") = true → a ≤ n ∧
  (Op.eqFields (d + 2) (xs.map (Value.int .u8)).toArray (ys.map (Value.int .u8)).toArray fs).run P w = .ok (decide (xs.drop a = ys.drop a)) w
 | [], a, h, _ => by
  have h : a = n := by simpa [cover] using h
  subst h
  refine ⟨Nat.le_refl _, ?_⟩
  rw [List.drop_of_length_le (by omega), List.drop_of_length_le (by omega)]; rfl
 | f :: r, a, h, hn => by
  simp only [List.all_cons, Bool.and_eq_true, bne_iff_ne] at hn
  unfold cover at h
  split at h
  ·rename_i len el s bb zz eo he
   split at h
   ·rename_i k0 b2 z2 eo2 hel
    simp only [Bool.and_eq_true] at h
    obtain ⟨ho, hs, h1, h2⟩ := h
    have ho := Nat.eq_of_beq_eq_true ho
    have hs := Nat.eq_of_beq_eq_true hs
    have h1 := Nat.le_of_ble_eq_true h1
    subst hs
    obtain ⟨hle, ih⟩ := eqCover hT hx hy d r (a + s) h2 (by simpa using hn.2)
    refine ⟨by omega, ?_⟩
    unfold Op.eqFields
    rw [if_pos hn.1, ho]
    simp only [Sem.run_bind, keyPart hT he rfl xs a (by omega), keyPart hT he rfl ys a (by omega), Result.andThen_ok,
     run_eqIn_ints d (hT _ _ he) (hT _ _ hel) .u8 (sub xs a s) (sub ys a s) (sub_len _ _ _ (by omega)) (sub_len _ _ _ (by omega)), Sem.run_ite]
    rw [sub_split (len := s)]
    cases hb : decide (sub xs a s = sub ys a s)
    ·simp
    ·simp [ih]
   ·cases h
  ·cases h

theorem keyTy_some {t : TypeId} {n : Nat} (h : keyTy T t = some n) : ∃ fs b z, T t = some ⟨.struct fs, n, b, z, true⟩ ∧ cover T fs.toList 0 n = true := by
 unfold keyTy at h
 split at h
 ·rename_i fs n' b z ht
  split at h
  ·rename_i hc
   simp only [Option.some.injEq] at h; subst h
   exact ⟨fs, b, z, ht, hc⟩
  ·simp at h
 ·simp at h

theorem run_eqKey (hT : TabOk P T) {t : TypeId} {n : Nat} (h : keyTy T t = some n) {xs ys : List Int} (hx : xs.length = n) (hy : ys.length = n) : (Op.equal t (keyV xs) (keyV ys)).run P w = .ok (decide (xs = ys)) w := by
 obtain ⟨fs, b, z, ht, hc⟩ := keyTy_some h
 obtain ⟨_, h2, h3⟩ := (hT _ _ ht).eqg rfl
 have hu : P.underlying t = some (.struct fs) := (hT _ _ ht).und
 have hf : P.fieldsOf t = fs := by unfold Program.fieldsOf; rw [hu]
 unfold Op.equal keyV
 rw [show Op.maxDepth = 9999 + 1 from rfl, run_equalIn_struct w 9999 t _ _ (by rw [hf]; exact hu) h2, hf]
 exact (eqCover hT hx hy 9997 _ 0 hc h3).2

theorem run_checkInts {t el : TypeId} {len s1 b1 bb : Nat} {z1 zz : List Atom} {eo1 eo : Bool} {k0 : IntKind} (em : Bool) (d : Nat) (ht : TEOk P t ⟨.array len el, s1, b1, z1, eo1⟩) (he : TEOk P el ⟨.int k0, 1, bb, zz, eo⟩) (xs : List Int) (hx : xs.length = len) :
  (Instr.checkKey em (d + 2) t (.agg (xs.map (Value.int .u8)).toArray)).run P w = .ok () w := by
 obtain ⟨i, z, hi, hs, _⟩ := he.info
 have hi1 : i.size = 1 := hs
 rw [show d + 2 = (d + 1) + 1 from rfl, Instr.checkKey]
 simp only [Sem.run_bind, run_underlying ht.und, Result.andThen_ok]
 simp only [Std.Legacy.Range.forIn_eq_forIn_range', Std.Legacy.Range.size, Nat.sub_zero, Nat.add_one_sub_one, Nat.div_one]
 have hall : ∀ j ∈ List.range' 0 len, j < xs.length := fun j hj => by simp at hj; omega
 generalize List.range' 0 len = is at hall
 induction is with
 | nil => simp
 | cons j is ih =>
  have hj := hall j (by simp)
  have p : (part el (xs.map (Value.int .u8)).toArray (j * 1)).run P w = .ok (.int .u8 (xs.getD j 0)) w := by
   have := run_part (w := w) he (xs.map (Value.int .u8)).toArray (j * 1) [.int .u8 (xs.getD j 0)] rfl (fun _ => rfl) (by
    simp only [Nat.mul_one]
    rw [← sub_map, sub_one xs j 0 hj]; rfl)
   exact this
  have q : (Instr.checkKey em (d + 1) el (.int .u8 (xs.getD j 0))).run P w = .ok () w := by
   rw [Instr.checkKey]
   simp only [Sem.run_bind, run_underlying he.und, Result.andThen_ok]
   rfl
  simp only [List.forIn_cons, Sem.run_bind, run_sizeOf' w hi, hi1, Result.andThen_ok, p, q, Sem.run_pure]
  exact ih fun y hy => hall y (by simp [hy])

theorem cover_le : ∀ {fs : List Field} {a n : Nat}, cover T fs a n = true → a ≤ n
 | [], a, n, h => by
  have h : a = n := by simpa [cover] using h
  omega
 | f :: r, a, n, h => by
  unfold cover at h
  split at h
  ·split at h
   ·simp only [Bool.and_eq_true] at h
    have := cover_le h.2.2.2
    omega
   ·cases h
  ·cases h

theorem run_checkKeyT (hT : TabOk P T) {t : TypeId} {n : Nat} (h : keyTy T t = some n) {xs : List Int} (hx : xs.length = n) (em : Bool) : (Instr.checkKey em 10000 t (keyV xs)).run P w = .ok () w := by
 obtain ⟨fs, b, z, ht, hc⟩ := keyTy_some h
 obtain ⟨_, _, h3⟩ := (hT _ _ ht).eqg rfl
 have h3 : (fs.toList.all fun f => f.name != "_") = true := h3
 have hu : P.underlying t = some (.struct fs) := (hT _ _ ht).und
 unfold keyV
 rw [show (10000 : Nat) = 9999 + 1 from rfl, Instr.checkKey]
 simp only [Sem.run_bind, run_underlying hu, Result.andThen_ok]
 rw [← Array.forIn_toList]
 generalize fs.toList = L at hc h3
 generalize 0 = a at hc
 clear ht hu h
 induction L generalizing a with
 | nil => simp
 | cons f r ih =>
  simp only [List.all_cons, Bool.and_eq_true, bne_iff_ne] at h3
  unfold cover at hc
  split at hc
  ·rename_i len el s bb zz eo he
   split at hc
   ·rename_i k0 b2 z2 eo2 hel
    simp only [Bool.and_eq_true] at hc
    obtain ⟨ho, hs, h1, h2⟩ := hc
    have ho := Nat.eq_of_beq_eq_true ho
    have hs := Nat.eq_of_beq_eq_true hs
    subst hs
    have hle := cover_le h2
    rw [List.forIn_cons]
    simp only [Sem.run_bind, h3.1, ne_eq, not_false_eq_true, if_true, ho, keyPart hT he rfl xs a (by omega), Result.andThen_ok, run_checkInts em 9997 (hT _ _ he) (hT _ _ hel) (sub xs a s) (sub_len _ _ _ (by omega)), Sem.run_pure]
    exact ih (by simpa using h3.2) (a + s) h2
   ·cases hc
  ·cases hc

theorem run_find (hT : TabOk P T) {t : TypeId} {n : Nat} (h : keyTy T t = some n) {x : List Int} (hx : x.length = n) : ∀ (es : List MapEntry) (l : List (List Int × Int)) (i : Nat),
  es.map (fun e => (e.key, e.val)) = l.map (fun p => (keyV p.1, Value.int .i64 p.2)) → (∀ p ∈ l, p.1.length = n) →
  (Instr.findAsking t (keyV x) es i).run P w = .ok (match l.findIdx? (fun p => decide (p.1 = x)) with | some j => some (i + j, .int .i64 (mget l x)) | none => none) w
 | [], [], i, _, _ => rfl
 | [], _ :: _, i, h1, _ => by simp at h1
 | _ :: _, [], i, h1, _ => by simp at h1
 | e :: es, p :: l, i, h1, h2 => by
  simp only [List.map_cons, List.cons.injEq, Prod.mk.injEq] at h1
  obtain ⟨⟨hk, hv⟩, h1⟩ := h1
  unfold Instr.findAsking
  have hp := h2 p (by simp)
  rw [Sem.run_bind, hk, run_eqKey hT h hx hp, Result.andThen_ok, Sem.run_ite, List.findIdx?_cons]
  by_cases he : p.1 = x
  ·subst he
   simp [mget, hv]
  ·have he' : ¬ x = p.1 := fun h => he h.symm
   have ih := run_find hT h hx es l (i + 1) h1 (fun q hq => h2 q (by simp [hq]))
   simp only [he, he', decide_false, Bool.false_eq_true, if_false, ih, mget]
   cases l.findIdx? (fun p => decide (p.1 = x)) with
   | none => rfl
   | some j => simp; omega

theorem run_findKeyT (hT : TabOk P T) {t : TypeId} {n : Nat} (h : keyTy T t = some n) {x : List Int} (hx : x.length = n) {es : List MapEntry} {l : List (List Int × Int)} (hm : MapOk n l es) :
  (Instr.findKey t (keyV x) es).run P w = .ok (match l.findIdx? (fun p => decide (p.1 = x)) with | some j => some (j, .int .i64 (mget l x)) | none => none) w := by
 obtain ⟨fs, b, z, ht, hc⟩ := keyTy_some h
 have hu : P.underlying t = some (.struct fs) := (hT _ _ ht).und
 obtain ⟨h1, h2, _⟩ := hm
 unfold Instr.findKey
 simp only [Sem.run_bind, run_underlying hu, Result.andThen_ok]
 have hf := run_find (w := w) hT h hx es l 0 h1 h2
 simp only [Nat.zero_add] at hf
 cases es with
 | nil =>
  cases l with
  | nil => rfl
  | cons p l => simp at h1
 | cons e es =>
  have : Instr.findNow (.struct fs) (keyV x) (e :: es) 0 = none := by
   unfold Instr.findNow keyV
   cases e.key <;> rfl
  rw [this]
  exact hf

theorem mget_none : ∀ {l : List (List Int × Int)} {x : List Int}, l.findIdx? (fun p => decide (p.1 = x)) = none → mget l x = 0 ∧ ∀ v, mset l x v = l ++ [(x, v)]
 | [], _, _ => ⟨rfl, fun _ => rfl⟩
 | p :: l, x, h => by
  rw [List.findIdx?_cons] at h
  by_cases he : p.1 = x
  ·simp [he] at h
  ·simp only [he, decide_false, Option.map_eq_none_iff, Bool.false_eq_true, if_false] at h
   obtain ⟨h1, h2⟩ := mget_none h
   exact ⟨by simp [mget, he, h1], fun v => by simp [mset, he, h2]⟩

theorem mset_keys (l : List (List Int × Int)) (x : List Int) (v : Int) : ∀ y, y ∈ (mset l x v).map (·.1) ↔ y = x ∨ y ∈ l.map (·.1) := by
 induction l with
 | nil => intro y; simp [mset]
 | cons p l ih =>
  intro y
  unfold mset
  by_cases he : p.1 = x
  ·rw [if_pos he]; simp [he]
  ·rw [if_neg he]
   simp only [List.map_cons, List.mem_cons, ih y]
   constructor
   ·rintro (h | h | h)
    ·exact .inr (.inl h)
    ·exact .inl h
    ·exact .inr (.inr h)
   ·rintro (h | h | h)
    ·exact .inr (.inl h)
    ·exact .inl h
    ·exact .inr (.inr h)
theorem mset_nodup (l : List (List Int × Int)) (x : List Int) (v : Int) (h : (l.map (·.1)).Nodup) : ((mset l x v).map (·.1)).Nodup := by
 induction l with
 | nil => simp [mset]
 | cons p l ih =>
  unfold mset
  by_cases he : p.1 = x
  ·rw [if_pos he]; simp only [List.map_cons] at h ⊢; rw [he] at h; exact h
  ·rw [if_neg he]
   simp only [List.map_cons, List.nodup_cons] at h ⊢
   refine ⟨fun hm => ?_, ih h.2⟩
   rcases (mset_keys l x v p.1).1 hm with h1 | h1
   ·exact he h1
   ·exact h.1 h1
theorem mset_all {n : Nat} {l : List (List Int × Int)} {x : List Int} {v : Int} (h : ∀ p ∈ l, p.1.length = n) (hx : x.length = n) : ∀ p ∈ mset l x v, p.1.length = n := by
 intro p hp
 have : p.1 ∈ (mset l x v).map (·.1) := List.mem_map_of_mem hp
 rcases (mset_keys l x v p.1).1 this with h1 | h1
 ·rw [h1]; exact hx
 ·obtain ⟨q, hq, e⟩ := List.mem_map.1 h1
  rw [← e]; exact h q hq

theorem mset_some : ∀ {l : List (List Int × Int)} {x : List Int} {j : Nat} {es : List MapEntry} {v : Int} {f : MapEntry → MapEntry}, l.findIdx? (fun p => decide (p.1 = x)) = some j → (∀ e, (f e).key = keyV x ∧ (f e).val = .int .i64 v) →
  es.map (fun e => (e.key, e.val)) = l.map (fun p => (keyV p.1, Value.int .i64 p.2)) → (∃ e, es[j]? = some e ∧ e.key = keyV x) ∧ (es.modify j f).map (fun e => (e.key, e.val)) = (mset l x v).map (fun p => (keyV p.1, Value.int .i64 p.2))
 | [], x, j, es, v, f, h, _, _ => by simp at h
 | p :: l, x, j, [], v, f, h, _, h1 => by simp at h1
 | p :: l, x, j, e :: es, v, f, h, hf, h1 => by
  simp only [List.map_cons, List.cons.injEq, Prod.mk.injEq] at h1
  obtain ⟨⟨hk, hv⟩, h1⟩ := h1
  rw [List.findIdx?_cons] at h
  by_cases he : p.1 = x
  ·simp [he] at h
   subst h
   refine ⟨⟨e, rfl, by rw [hk, he]⟩, ?_⟩
   simp [mset, he, hf, h1]
  ·simp only [he, decide_false, Option.map_eq_some_iff, Bool.false_eq_true, if_false] at h
   obtain ⟨i, hi, rfl⟩ := h
   obtain ⟨⟨e', h2, h3⟩, ih⟩ := mset_some hi hf h1
   refine ⟨⟨e', by simpa using h2, h3⟩, ?_⟩
   simp [mset, he, hk, hv, ih]

theorem sameBits_ints (d : Nat) : ∀ (xs : List Int), ((xs.map (Value.int .u8)).zip (xs.map (Value.int .u8))).all (fun p => Instr.sameBits (d + 1) p.1 p.2) = true
 | [] => rfl
 | x :: r => by
  simp only [List.map_cons, List.zip_cons_cons, List.all_cons, Bool.and_eq_true]
  exact ⟨by simp [Instr.sameBits], sameBits_ints d r⟩
theorem run_stays (x : List Int) : (Instr.keyThatStays (keyV x) (keyV x)).run P w = .ok (keyV x) w := by
 have : Instr.sameBits 10000 (keyV x) (keyV x) = true := by
  unfold keyV
  rw [show (10000 : Nat) = 9999 + 1 from rfl, Instr.sameBits]
  simp only [BEq.rfl, Bool.true_and]
  exact sameBits_ints 9998 x
 unfold Instr.keyThatStays
 rw [this]; rfl

def keyL : List Atom → Option (Nat × List Int)
 | [.ints .u8 n l] => some (n, l)
 | .ints .u8 n l :: r => (match keyL r with
  | some (m, l') => some (n + m, l ++ l')
  | none => none)
 | _ => none
theorem keyL_con {β : Env} : ∀ {c : List Atom} {n : Nat} {l : List Int} {cs : List Value}, keyL c = some (n, l) → cons β c cs → l.length = n ∧ cs = l.map (Value.int .u8)
 | [], _, _, _, h, _ => by simp [keyL] at h
 | [a], n, l, cs, h, hc => by
  unfold keyL at h
  split at h
  ·rename_i n' l' e
   simp only [List.cons.injEq, and_true] at e; subst e
   simp only [Option.some.injEq, Prod.mk.injEq] at h; obtain ⟨rfl, rfl⟩ := h
   rw [cons_single] at hc
   exact hc
  ·rename_i n' l' r hne e
   simp only [List.cons.injEq] at e
   obtain ⟨rfl, rfl⟩ := e
   exact (hne rfl).elim
  ·simp at h
 | a :: b :: r, n, l, cs, h, hc => by
  unfold keyL at h
  split at h
  ·rename_i e; simp at e
  ·rename_i n' l' r' _ e
   simp only [List.cons.injEq] at e
   obtain ⟨rfl, rfl⟩ := e
   split at h
   ·rename_i m l2 hr
    simp only [Option.some.injEq, Prod.mk.injEq] at h; obtain ⟨rfl, rfl⟩ := h
    obtain ⟨x, y, rfl, ⟨hx1, hx2⟩, hy⟩ := hc
    obtain ⟨g1, g2⟩ := keyL_con hr hy
    subst hx2; subst g2
    exact ⟨by simp; omega, by simp⟩
   ·simp at h
  ·simp at h

section ops
variable (T : Tab) (K : Know) (n : Nat)

def mapTy (t : TypeId) : Option Nat :=
  match T t with
  | some ⟨.map k e, _, _, _, _⟩ =>
    (match T e with
     | some ⟨.int .i64, 1, _, _, _⟩ => keyTy T k
     | _ => none)
  | _ => none

def opMakeMap (t : TypeId) (r : Option Operand) : Option Ox :=
 match mapTy T t, r with
 | some m, none => some ⟨none, .o (.a (.mv n)), [(n, some ⟨true, [.mp m []]⟩)], true⟩
 | _, _ => none

def opLookup (t : TypeId) (x k : AV) (c : Bool) : Option Ox :=
  match mapTy T t, x, k, c with
  | some m, .o (.a (.mv j)), .o (.g kc), false =>
    (match K.at j, keyL kc with
     | some ⟨true, [.mp m1 L]⟩, some (m2, l) => if m1 = m ∧ m2 = m then some ⟨none, .o (.a (.i .i64 (mget L l))), [], false⟩ else none
     | _, _ => none)
  | _, _, _, _ => none

def opMapUpd (t : TypeId) (x k v : AV) : Option Ox :=
  match mapTy T t, x, k, v with
  | some m, .o (.a (.mv j)), .o (.g kc), .o (.a (.i .i64 z)) =>
    (match K.at j, keyL kc with
     | some ⟨true, [.mp m1 L]⟩, some (m2, l) => if m1 = m ∧ m2 = m then some ⟨none, .u, [(j, some ⟨true, [.mp m1 (mset L l z)]⟩)], false⟩ else none
     | _, _ => none)
  | _, _, _, _ => none
end ops

theorem mapTy_some {t : TypeId} {m : Nat} (h : mapTy T t = some m) : ∃ k e s b z o bb zz oo, T t = some ⟨.map k e, s, b, z, o⟩ ∧ T e = some ⟨.int .i64, 1, bb, zz, oo⟩ ∧ keyTy T k = some m := by
 unfold mapTy at h
 split at h
 ·rename_i k e s b z o ht
  split at h
  ·rename_i bb zz oo he
   exact ⟨k, e, s, b, z, o, bb, zz, oo, ht, he, h⟩
  ·simp at h
 ·simp at h

variable {w0 : World} {rw : List Nat} {β : Env} {K : Know}
theorem opMakeMap_ok {n : Nat} {t : TypeId} {r : Option Operand} {f : Operand → Value} {o : Ox} (h : opMakeMap T n t r = some o) (hn : K.at n = none) (hK : K.nom n (n + 1) = true) (hR : RelW w0 rw β K w) :
  Goes P w0 rw β K w n (Instr.makeMap t (r.map f)) o := by
 unfold opMakeMap at h
 split at h
 ·rename_i m hm
  simp only [Option.some.injEq] at h; subst h
  refine ⟨_, .map (some w.heap.size), _, ?_, Env.agree_upd _ _ _, ?_, RelW.newMap hR n hn hK m⟩
  ·unfold Instr.makeMap
   simp only [Option.map_none, Sem.run_bind, run_newObj, Sem.run_pure, Result.andThen_ok]
  ·exact ⟨_, by unfold Env.upd; rw [if_pos rfl], rfl, rfl, rfl⟩
 ·simp at h

theorem opLookup_ok (hT : TabOk P T) {n : Nat} {t : TypeId} {x k : AV} {c : Bool} {o : Ox} {u v : Value} (h : opLookup T K t x k c = some o) (hx : x.con β u) (hk : k.con β v) (hR : RelW w0 rw β K w) :
  Goes P w0 rw β K w n (Instr.lookup t u v c) o := by
 unfold opLookup at h
 split at h
 ·rename_i m j kc hm
  split at h
  ·rename_i m1 L m2 l hj hkl
   split at h
   ·rename_i he; obtain ⟨rfl, rfl⟩ := he
    simp only [Option.some.injEq] at h; subst h
    obtain ⟨kt, et, s, b, z, eo, bb, zz, oo, ht, he, hkt⟩ := mapTy_some hm
    obtain ⟨r, hr, h1, h2, hu⟩ := hx
    simp only [List.cons.injEq, and_true] at hu; subst hu
    obtain ⟨cs, rfl, hc⟩ := hk
    obtain ⟨hlen, rfl⟩ := keyL_con hkl hc
    obtain ⟨es, clk, hh, hmap⟩ := hR.mapAt hj hr h1 h2
    have hfind := run_findKeyT (w := w) hT hkt hlen hmap
    have hcheck := run_checkKeyT (w := w) hT hkt hlen es.isEmpty
    refine Goes.quiet hR (v := .int .i64 (mget L l)) ?_ rfl rfl
    unfold Instr.lookup
    simp only [Sem.run_bind, run_underlying (hT _ _ ht).und, Result.andThen_ok, run_getMap hh, Sem.run_pure]
    rw [show (Value.agg (l.map (Value.int .u8)).toArray) = keyV l from rfl, hcheck, Result.andThen_ok, hfind, Result.andThen_ok]
    cases hi : L.findIdx? (fun p => decide (p.1 = l)) with
    | some i => rfl
    | none =>
     obtain ⟨ii, zv, hii, hzv, hz⟩ := (hT _ _ he).zi
     have hzv2 : zv = .int .i64 0 := by
      cases zv <;> simp [zintOk] at hz
      rename_i k' y
      cases k' <;> simp at hz
      rw [hz]
     subst hzv2
     rw [(mget_none hi).1]
     simp [zeroValue, typeInfo, hii, hzv]
   ·simp at h
  ·simp at h
 ·simp at h

theorem opMapUpd_ok (hT : TabOk P T) {t : TypeId} {x k y : AV} {o : Ox} {u v q : Value} (h : opMapUpd T K t x k y = some o) (hx : x.con β u) (hk : k.con β v) (hy : y.con β q) (hR : RelW w0 rw β K w) :
  ∃ w', (Instr.mapUpdate t u v q).run P w = .ok () w' ∧ o.val = .u ∧ RelW w0 rw β (app K o.ch) w' := by
 unfold opMapUpd at h
 split at h
 ·rename_i m j kc zv hm
  split at h
  ·rename_i m1 L m2 l hj hkl
   split at h
   ·rename_i he; obtain ⟨rfl, rfl⟩ := he
    simp only [Option.some.injEq] at h; subst h
    obtain ⟨kt, et, s, b, z, eo, bb, zz, oo, ht, he, hkt⟩ := mapTy_some hm
    obtain ⟨r, hr, h1, h2, hu⟩ := hx
    simp only [List.cons.injEq, and_true] at hu; subst hu
    simp only [AV.con, V1.con, Atom.con, List.cons.injEq, and_true] at hy; subst hy
    obtain ⟨cs, rfl, hc⟩ := hk
    obtain ⟨hlen, rfl⟩ := keyL_con hkl hc
    obtain ⟨es, clk, hh, hmap⟩ := hR.mapAt hj hr h1 h2
    have hfind := run_findKeyT (w := w) hT hkt hlen hmap
    have hcheck := run_checkKeyT (w := w) hT hkt hlen false
    have hlt : r.blk < w.heap.size := hR.live j _ r hj hr
    have fin : ∀ (es' : Array MapEntry) (clk' : Nat), MapOk m2 (mset L l zv) es'.toList → RelW w0 rw β (K.set1 j (some ⟨true, [.mp m2 (mset L l zv)]⟩)) { w with heap := w.heap.setIfInBounds r.blk (.map es' clk') } := by
     intro es' clk' hok
     refine hR.poke (w' := { w with heap := w.heap.setIfInBounds r.blk (.map es' clk') }) (b' := ⟨true, [.mp m2 (mset L l zv)]⟩) hj rfl hr (by simp) (fun x hx => ?_) rfl rfl rfl rfl ⟨[], ⟨[], [], rfl, rfl, rfl⟩, .inl ⟨rfl, .inr (.inr ⟨m2, _, r, es', clk', rfl, hr, h1, h2, ?_, hok⟩)⟩⟩
     ·simp only [Array.getElem?_setIfInBounds]; rw [if_neg (fun e => hx e.symm)]
     ·simp [hlt]
    obtain ⟨g1, g2, g3⟩ := hmap
    cases hi : L.findIdx? (fun p => decide (p.1 = l)) with
    | some i =>
     rw [hi] at hfind
     obtain ⟨⟨e, he1, he2⟩, hmod⟩ := mset_some (v := zv) (f := fun e => { e with key := keyV l, val := .int .i64 zv }) hi (fun _ => ⟨rfl, rfl⟩) g1
     refine ⟨_, ?_, rfl, fin (es.modify i fun e => { e with key := keyV l, val := .int .i64 zv }) clk ⟨by rw [Array.toList_modify]; exact hmod, mset_all g2 hlen, mset_nodup _ _ _ g3⟩⟩
     unfold Instr.mapUpdate
     simp only [Sem.run_bind, run_underlying (hT _ _ ht).und, Result.andThen_ok, run_getMap hh]
     rw [show (Value.agg (l.map (Value.int .u8)).toArray) = keyV l from rfl, hcheck, Result.andThen_ok, hfind, Result.andThen_ok]
     have : (((es[i]?).map (·.key)).getD (keyV l)) = keyV l := by
      rw [← Array.getElem?_toList, he1]; exact he2
     simp only [this, Sem.run_bind, run_stays, Result.andThen_ok]
     exact run_setMap _ hh
    | none =>
     rw [hi] at hfind
     obtain ⟨_, hset⟩ := mget_none hi
     refine ⟨_, ?_, rfl, fin (es.push { key := keyV l, val := .int .i64 zv, born := clk }) (clk + 1) ⟨by rw [hset, Array.toList_push, List.map_append, List.map_append, g1]; rfl, mset_all g2 hlen, mset_nodup _ _ _ g3⟩⟩
     unfold Instr.mapUpdate
     simp only [Sem.run_bind, run_underlying (hT _ _ ht).und, Result.andThen_ok, run_getMap hh]
     rw [show (Value.agg (l.map (Value.int .u8)).toArray) = keyV l from rfl, hcheck, Result.andThen_ok, hfind, Result.andThen_ok]
     exact run_setMap _ hh
   ·simp at h
  ·simp at h
 ·simp at h

theorem opLookup_mono {K' : Know} (hs : ∀ j b, K.at j = some b → K'.at j = some b) {t : TypeId} {x k : AV} {c : Bool} {r : Ox} (h : opLookup T K t x k c = some r) : opLookup T K' t x k c = some r := by
 unfold opLookup at *
 split at h
 ·split at h
  ·rename_i hj hk
   rw [hs _ _ hj, hk]; exact h
  ·simp at h
 ·simp at h
theorem opMapUpd_mono {K' : Know} (hs : ∀ j b, K.at j = some b → K'.at j = some b) {t : TypeId} {x k v : AV} {r : Ox} (h : opMapUpd T K t x k v = some r) : opMapUpd T K' t x k v = some r := by
 unfold opMapUpd at *
 split at h
 ·split at h
  ·rename_i hj hk
   rw [hs _ _ hj, hk]; exact h
  ·simp at h
 ·simp at h

end eq
end Go.Proofs.YtjmfnjgcofpocaaGreat.X

/- One operation, whatever it is; regions in the text's order. -/
namespace Go.Proofs.YtjmfnjgcofpocaaGreat.X
open Go

structure Rx where
 vc : Option Prop
 val : AV
 ch : List (Nat × Option Blk)
 fr : Nat

def ofOx (o : Option Ox) : Option Rx :=
 match o with
 | some x => some ⟨x.vc, x.val, x.ch, cond x.al 1 0⟩
 | none => none

abbrev Gam := FuncId → Know → Nat → List AV → Option Rx

def allC (β : Env) : List AV → List Value → Prop
 | [], xs => xs = []
 | a :: r, xs => ∃ v rest, xs = v :: rest ∧ a.con β v ∧ allC β r rest

def Knows (K K' : Know) : Prop := ∀ j b, K.at j = some b → K'.at j = some b

def impId : Nat := 1000000
def extId : Nat := 2000000

def mthId : Nat := 1500000
structure GamOk (P : Program) (Γ : Gam) : Prop where
 enter : ∀ f K n args s, f < impId → Γ f K n args = some s → ∀ (xas : Array Value) (w : World), (callFunc f xas).run P w = .ok (.enter f xas) w
 calls : ∀ f K n args s, f < impId → Γ f K n args = some s → okP s.vc → ∀ w0 rw β w xs, allC β args xs → RelW w0 rw β K w → (∀ i, i < s.fr → K.at (n + i) = none) → K.nom n (n + s.fr) = true →
  Calls P f xs.toArray w fun e w' => ∃ v β', e = .returned v ∧ Agree n (n + s.fr) β β' ∧ s.val.con β' v ∧ RelW w0 rw β' (app K s.ch) w'
 mono : ∀ f K K' n args s, f < impId → Γ f K n args = some s → Knows K K' → Γ f K' n args = some s
 noimp : ∀ f K n args, impId ≤ f → f < extId → Γ f K n args = none
 ext : ∀ (f : Nat) n args s, Γ (extId + f) [] n args = some s → okP s.vc → ∀ β (w : World) xs, allC β args xs → ∃ v, (callFunc f xs.toArray).run P w = .ok (.value v) w ∧ s.val.con β v ∧ s.ch = [] ∧ s.fr = 0

structure GamAt (P : Program) (Γ : Gam) (w0 : World) (rw : List Nat) : Prop where
 meth : ∀ (t n : Nat) nm s, t < 500000 → Γ (mthId + t) [] n [.u, .o (.a (.raw (strVal nm)))] = some s → ∃ fn, s.val = .f fn [] [] ∧ ∀ v w args, (callMethod (.iface t v) nm args).run P w = (callFunc fn (#[v] ++ args)).run P w
 enter : ∀ f K n args s, f < impId → Γ f K n args = some s → ∀ (xas : Array Value) (w : World), (callFunc f xas).run P w = .ok (.enter f xas) w
 calls : ∀ f K n args s, f < impId → Γ f K n args = some s → okP s.vc → ∀ β w xs, allC β args xs → RelW w0 rw β K w → (∀ i, i < s.fr → K.at (n + i) = none) → K.nom n (n + s.fr) = true →
  Calls P f xs.toArray w fun e w' => ∃ v β', e = .returned v ∧ Agree n (n + s.fr) β β' ∧ s.val.con β' v ∧ RelW w0 rw β' (app K s.ch) w'
 mono : ∀ f K K' n args s, f < impId → Γ f K n args = some s → Knows K K' → Γ f K' n args = some s
 ext : ∀ (f : Nat) n args s, Γ (extId + f) [] n args = some s → okP s.vc → ∀ β (w : World) xs, allC β args xs → ∃ v, (callFunc f xs.toArray).run P w = .ok (.value v) w ∧ s.val.con β v ∧ s.ch = [] ∧ s.fr = 0
 imp : ∀ f n v s, impId ≤ f → f < extId → Γ f [] n [.o (.a (.raw v))] = some s → okP s.vc → ∀ β K w, RelW w0 rw β K w → (∀ i, i < s.fr → K.at (n + i) = none) → K.nom n (n + s.fr) = true →
  ∃ β', Agree n (n + s.fr) β β' ∧ s.val.con β' v ∧ RelW w0 rw β' (app K s.ch) w

theorem GamOk.at {P : Program} {Γ : Gam} (h : GamOk P Γ) (w0 : World) (rw : List Nat) : GamAt P Γ w0 rw :=
 ⟨fun t n nm s ht hs => (by rw [h.noimp (mthId + t) _ n _ (Nat.le_trans (by decide : impId ≤ mthId) (Nat.le_add_right _ _)) (Nat.lt_of_lt_of_eq (Nat.add_lt_add_left ht _) rfl)] at hs; cases hs), h.enter, fun f K n args s hf hs hvc β w xs => h.calls f K n args s hf hs hvc w0 rw β w xs, h.mono, h.ext,
  fun f n v s hf hf2 hs => by rw [h.noimp f _ n _ hf hf2] at hs; cases hs⟩

def andP : Option Prop → Option Prop → Option Prop
 | none, q => q
 | some p, none => some p
 | some p, some q => some (p ∧ q)

theorem andP_ok {p q : Option Prop} (h : okP (andP p q)) : okP p ∧ okP q := by
 cases p <;> cases q <;> simp_all [andP, okP]

def impL (Γ : Gam) (n : Nat) (t : TypeId) (o : Option Rx) : Option Rx :=
 match o with
 | some r => (match r.val with
  | .o (.a (.raw v)) => (match (if t < impId then Γ (impId + t) [] n [.o (.a (.raw v))] else none) with
   | some s => some ⟨andP r.vc s.vc, s.val, s.ch, s.fr⟩
   | none => some r)
  | _ => some r)
 | none => none

def isConst : Operand → Bool
 | .const _ => true
 | _ => false

def capsOf : List AV → Option (List V1)
 | [] => some []
 | .o x :: r => (match capsOf r with | some l => some (x :: l) | none => none)
 | _ => none

section ops
variable (T : Tab) (Γ : Gam) (ρ : Rho) (K : Know) (n : Nat) (bit : Bool)

def opNil (x : AV) : Option Rx :=
 match x with
 | .o (.a (.p _ _)) => some ⟨none, x, [], 0⟩
 | .o (.a (.ps _ _)) => some ⟨none, x, [], 0⟩
 | .f fn bnd caps => some ⟨none, .f fn bnd caps, [], 0⟩
 | _ => none

def opPick (c a b : AV) : Option Rx :=
 match c with
 | .o (.a (.b x)) => some ⟨some (x = bit), if bit then a else b, [], 0⟩
 | _ => none

def opBuiltin (b : Builtin) (args : List Operand) (ats : List TypeId) : Option Rx :=
 match b, args, ats with
 | .len, [x], [t] => ofOx (opLen T t (ρ x))
 | .cap, [x], [t] => ofOx (opCap T t (ρ x))
 | .min, [x, y], _ => ofOx (opMin (ρ x) (ρ y))
 | .min, [x, y, z], _ => ofOx (opMin3 (ρ x) (ρ y) (ρ z))
 | .max, [x, y], _ => ofOx (opMax (ρ x) (ρ y))
 | .copy, [x, y], [t, _] => ofOx (opCopy T K t (ρ x) (ρ y))
 | .append, [x, y], [t, u] => ofOx (opAppend T K n bit t u (ρ x) (ρ y))
 | _, _, _ => none

def opCall (c : Call) : Option Rx :=
  match c.callee with
  | .builtin b => opBuiltin T ρ K n bit b c.args.toList c.argTypes.toList
  | .value f =>
    (match ρ f with
     | .f fn bnd caps => (match Γ (extId + fn) [] n (bnd.map .o ++ (c.args.toList.map ρ ++ caps.map .o)) with
       | some s => some s
       | none => if fn < impId then Γ fn K n (bnd.map .o ++ (c.args.toList.map ρ ++ caps.map .o)) else none)
     | _ => none)
  | .invoke x m =>
    (match ρ x with
     | .o (.a (.ip t j k)) => (match (if t < 500000 then Γ (mthId + t) [] n [.u, .o (.a (.raw (strVal m)))] else none) with
       | some ⟨_, .f fn [] [], _, _⟩ => if fn < impId then Γ fn K n (.o (.a (.p j k)) :: c.args.toList.map ρ) else none
       | _ => none)
     | _ => none)

def opIface (t : TypeId) (x : AV) : Option Rx :=
 match T t, x with
 | some ⟨.pointer _, _, _, _, _⟩, .o (.a (.p j k)) => some ⟨none, .o (.a (.ip t j k)), [], 0⟩
 | _, _ => none

def opx (o : Op) : Option Rx :=
  match o with
  | .move x => some ⟨none, ρ x, [], 0⟩
  | .assign x => some ⟨none, ρ x, [], 0⟩
  | .pick c a b => opPick bit (ρ c) (ρ a) (ρ b)
  | .alloc t => ofOx (opAlloc T n t)
  | .box _ x => ofOx (opBox n (ρ x))
  | .build t parts => ofOx (opBuild T ρ t parts.toList)
  | .buildSlice t len parts => ofOx (opBuildSlice T n ρ t len parts.toList)
  | .load t a => impL Γ n t (ofOx (opLoad T K t (ρ a)))
  | .store t a x => ofOx (opStore T K t (ρ a) (ρ x))
  | .nilCheck x => opNil (ρ x)
  | .binOp op t x y _ => (match opBin T op t (ρ x) (ρ y) with
    | some r => ofOx (some r)
    | none => ofOx (opBinS T op t (ρ x) (ρ y)))
  | .unOp op _ x => ofOx (opUn op (ρ x))
  | .convert src dst x =>
    (match T src with
     | some e => (match e.d with
       | .slice _ => ofOx (opConvS T K src dst (ρ x))
       | _ => ofOx (opConvert T dst (ρ x)))
     | none => none)
  | .sliceToArrayPointer arr x => ofOx (opS2A T arr (ρ x))
  | .makeSlice t l c => ofOx (opMakeSlice T n t (ρ l) (ρ c))
  | .slice t x lo hi mx => ofOx (opSlice T t (ρ x) (lo.map ρ) (hi.map ρ) (mx.map ρ))
  | .fieldAddr s x f => ofOx (opFieldAddr T s (ρ x) f)
  | .field t x f => ofOx (opField T t (ρ x) f)
  | .indexAddr t x ix => ofOx (opIndexAddr T t (isConst ix) (ρ x) (ρ ix))
  | .index t x ix => ofOx (opIndex T t (ρ x) (ρ ix))
  | .extract x i => ofOx (opExtract (ρ x) i)
  | .makeFunc (.func fn) first captured =>
    (match capsOf (first.toList.map ρ), capsOf (captured.toList.map ρ) with | some k, some l => some ⟨none, .f fn k l, [], 0⟩ | _, _ => none)
  | .call c => opCall T Γ ρ K n bit c
  | .makeInterface t x => opIface T t (ρ x)
  | .makeMap t r => ofOx (opMakeMap T n t r)
  | .lookup t x k c => ofOx (opLookup T K t (ρ x) (ρ k) c)
  | .mapUpdate t x k v => ofOx (opMapUpd T K t (ρ x) (ρ k) (ρ v))
  | _ => none
end ops

section sound
variable {P : Program} {T : Tab} {Γ : Gam} {w0 : World} {rw : List Nat} {β : Env} {K : Know} {w : World}

theorem ofOx_some {o : Option Ox} {r : Rx} (h : ofOx o = some r) : ∃ x, o = some x ∧ r = ⟨x.vc, x.val, x.ch, cond x.al 1 0⟩ := by
 cases o with
 | none => simp [ofOx] at h
 | some x => simp only [ofOx, Option.some.injEq] at h; exact ⟨x, rfl, h.symm⟩

theorem capsOf_con {ρ : Rho} {ev : Operand → Value} (hρ : ∀ x, (ρ x).con β (ev x)) : ∀ {l : List Operand} {caps : List V1}, capsOf (l.map ρ) = some caps → all2 β caps (l.map ev)
 | [], caps, h => by simp [capsOf] at h; subst h; rfl
 | x :: r, caps, h => by
  simp only [List.map_cons] at h
  have hx := hρ x
  cases hy : ρ x with
  | u => simp [hy, capsOf] at h
  | t l => simp [hy, capsOf] at h
  | f fn k l => simp [hy, capsOf] at h
  | o y =>
   rw [hy] at h hx
   simp only [capsOf] at h
   split at h
   ·rename_i l hl
    simp only [Option.some.injEq] at h; subst h
    exact ⟨_, _, rfl, hx, capsOf_con hρ hl⟩
   ·simp at h

theorem allC_map {ρ : Rho} {ev : Operand → Value} (hρ : ∀ x, (ρ x).con β (ev x)) : ∀ (l : List Operand) {caps : List V1} {vs : List Value}, all2 β caps vs → allC β (l.map ρ ++ caps.map .o) (l.map ev ++ vs)
 | [], caps, vs, h => by
  simp only [List.map_nil, List.nil_append]
  induction caps generalizing vs with
  | nil => exact h
  | cons c r ih => obtain ⟨v, rest, rfl, h1, h2⟩ := h; exact ⟨v, rest, rfl, h1, ih _ h2⟩
 | x :: l, caps, vs, h => ⟨_, _, rfl, hρ x, allC_map hρ l h⟩
theorem allC_pre {xas : List AV} {xs : List Value} : ∀ {bnd : List V1} {us : List Value}, all2 β bnd us → allC β xas xs → allC β (bnd.map .o ++ xas) (us ++ xs)
 | [], us, hb, h => by
  have hb : us = [] := hb
  subst hb; exact h
 | x :: l, us, hb, h => by
  obtain ⟨v, rest, rfl, h1, h2⟩ := hb
  exact ⟨v, rest ++ xs, rfl, h1, allC_pre h2 h⟩

theorem opLoad_plain {t : TypeId} {x : AV} {o : Ox} (h : opLoad T K t x = some o) : o.ch = [] ∧ o.al = false := by
 unfold opLoad at h
 split at h
 ·split at h
  ·simp at h
  ·split at h
   ·simp at h
   ·split at h
    ·rw [Option.map_eq_some_iff] at h; obtain ⟨y, _, rfl⟩ := h; exact ⟨rfl, rfl⟩
    ·simp at h
 ·simp at h

theorem opx_wp (hT : TabOk P T) (hΓ : GamAt P Γ w0 rw) {ρ : Rho} {n : Nat} {bit : Bool} {o : Oper} {r : Rx} {a : Act} (h : opx T Γ ρ K n bit o.op = some r) (hvc : okP r.vc) (hρ : ∀ x, (ρ x).con β (a.eval x)) (hR : RelW w0 rw β K w)
    (hn : ∀ i, i < r.fr → K.at (n + i) = none) (hK : K.nom n (n + r.fr) = true) {next : Act → World → Prop} {Q : Exit → Act → World → Prop}
    (hnext : ∀ β' v w', Agree n (n + r.fr) β β' → r.val.con β' v → RelW w0 rw β' (app K r.ch) w' → next (a.put o.dst v) w') : o.wp P a w next Q := by
  have value : ∀ (s : Sem Value) (x : Ox), r = ⟨x.vc, x.val, x.ch, cond x.al 1 0⟩ → Goes P w0 rw β K w n s x → (execOp a.eval o).run P w = ((do pure (.value (← s)) : Sem Next).run P w) → o.wp P a w next Q := by
    intro s x hr hg he
    subst hr
    obtain ⟨β', v, w', hrun, hag, hcon, hrel⟩ := hg
    unfold Oper.wp
    rw [he, Sem.run_bind, hrun]
    exact hnext β' v w' hag hcon hrel
  have quiet : ∀ (v : Value), r.ch = [] → r.val.con β v → (execOp a.eval o).run P w = .ok (.value v) w → o.wp P a w next Q := by
    intro v hc hv he
    unfold Oper.wp
    rw [he]
    exact hnext β v w (agree_refl _ _ _) hv (by rw [hc]; exact hR)
  have al1 : ∀ x : Ox, r = ⟨x.vc, x.val, x.ch, cond x.al 1 0⟩ → x.al = true → K.at n = none ∧ K.nom n (n + 1) = true := by
    intro x hr hx
    subst hr
    rw [hx] at hn hK
    exact ⟨hn 0 (by simp), hK⟩
  obtain ⟨dst, op, ty, pos, after, guard⟩ := o
  simp only at h
  cases op <;> simp only [opx, reduceCtorEq] at h
  case move x =>
    simp only [Option.some.injEq] at h; subst h
    exact quiet _ rfl (hρ x) rfl
  case assign x =>
    simp only [Option.some.injEq] at h; subst h
    exact quiet _ rfl (hρ x) rfl
  case pick c x y =>
    unfold opPick at h
    split at h
    · rename_i b hb
      simp only [Option.some.injEq] at h; subst h
      have hc := hρ c
      rw [hb] at hc
      simp only [AV.con, V1.con, Atom.con, List.cons.injEq, and_true] at hc
      have hvc : b = bit := hvc
      subst hvc
      refine quiet (if b then a.eval x else a.eval y) rfl ?_ ?_
      · cases b
        · exact hρ y
        · exact hρ x
      · simp only [execOp, Sem.run_bind, hc, asBool, Sem.run_pure, Result.andThen_ok]
    · simp at h
  case alloc t =>
    obtain ⟨x, hx, hr⟩ := ofOx_some h
    have hx0 := hx
    have hal : x.al = true := by
      unfold opAlloc at hx
      split at hx
      · split at hx
        · simp only [Option.some.injEq] at hx; subst hx; rfl
        · simp at hx
      · simp at hx
    obtain ⟨h1, h2⟩ := al1 x hr hal
    exact value _ x hr (opAlloc_ok hT hx0 h1 h2 hR) rfl
  case box t y =>
    obtain ⟨x, hx, hr⟩ := ofOx_some h
    have hx0 := hx
    have hal : x.al = true := by
      unfold opBox at hx
      split at hx
      · split at hx
        · simp only [Option.some.injEq] at hx; subst hx; rfl
        · simp at hx
      · simp at hx
    obtain ⟨h1, h2⟩ := al1 x hr hal
    exact value _ x hr (opBox_ok hx0 (hρ y) h1 h2 hR) rfl
  case build t parts =>
    obtain ⟨x, hx, hr⟩ := ofOx_some h
    exact value _ x hr (opBuild_ok hT hρ hx hR) rfl
  case buildSlice t len parts =>
    obtain ⟨x, hx, hr⟩ := ofOx_some h
    have hx0 := hx
    have hal : x.al = true := by
      unfold opBuildSlice at hx
      split at hx
      · split at hx
        · split at hx
          · split at hx
            · split at hx
              · simp only [Option.some.injEq] at hx; subst hx; rfl
              · simp at hx
            · simp at hx
          · simp at hx
        · simp at hx
      · simp at hx
    obtain ⟨h1, h2⟩ := al1 x hr hal
    exact value _ x hr (opBuildSlice_ok hT hρ hx0 h1 h2 hR) rfl
  case load t y =>
    have plain : ofOx (opLoad T K t (ρ y)) = some r → (⟨dst, .load t y, ty, pos, after, guard⟩ : Oper).wp P a w next Q := by
      intro h
      obtain ⟨x, hx, hr⟩ := ofOx_some h
      exact value _ x hr (opLoad_ok hT hx (by rw [hr] at hvc; exact hvc) (hρ y) hR) rfl
    unfold impL at h
    split at h
    · rename_i r0 hr0
      split at h
      · rename_i v hv
        split at h
        · rename_i s hs
          simp only [Option.some.injEq] at h; subst h
          obtain ⟨x, hx, hr⟩ := ofOx_some hr0
          obtain ⟨hv1, hv2⟩ := andP_ok hvc
          obtain ⟨hch, hal⟩ := opLoad_plain hx
          obtain ⟨β', v', w', hrun, hag, hcon, hrel⟩ := opLoad_ok (n := n) hT hx (by rw [hr] at hv1; exact hv1) (hρ y) hR
          have hβ : β' = β := by
            funext j
            refine hag j ?_
            rw [hal]; simp only [cond_false, Nat.add_zero]; omega
          subst hβ
          rw [hch] at hrel
          have hxv : x.val = .o (.a (.raw v)) := by rw [hr] at hv; exact hv
          rw [hxv] at hcon
          have hv' : v' = v := by
            have := hcon.1
            simpa using this
          subst hv'
          have hrel : RelW w0 rw β' K w' := hrel
          have ht : t < impId := by
            by_cases ht : t < impId
            · exact ht
            · rw [if_neg ht] at hs; cases hs
          rw [if_pos ht] at hs
          obtain ⟨β2, g1, g2, g3⟩ := hΓ.imp _ _ _ _ (Nat.le_add_right _ _) (Nat.add_lt_add_left ht impId) hs hv2 β' K w' hrel hn hK
          unfold Oper.wp
          have he : (execOp a.eval ⟨dst, .load t y, ty, pos, after, guard⟩).run P w = ((do pure (.value (← Instr.loadAt t (a.eval y))) : Sem Next).run P w) := rfl
          rw [he, Sem.run_bind, hrun]
          exact hnext β2 v' w' g1 g2 g3
        · simp only [Option.some.injEq] at h; subst h; exact plain hr0
      · simp only [Option.some.injEq] at h; subst h; exact plain hr0
    · simp at h
  case store t y z =>
    obtain ⟨x, hx, hr⟩ := ofOx_some h
    obtain ⟨w', hrun, hu, hrel⟩ := opStore_ok hT hx (by rw [hr] at hvc; exact hvc) (hρ y) (hρ z) hR
    subst hr
    unfold Oper.wp
    have : (execOp a.eval ⟨dst, .store t y z, ty, pos, after, guard⟩).run P w = .ok .skip w' := by
      simp only [execOp, Sem.run_bind, hrun, Result.andThen_ok, Sem.run_pure]
    rw [this]
    exact hnext β undef w' (agree_refl _ _ _) (by rw [hu]; trivial) hrel
  case nilCheck y =>
    unfold opNil at h
    have hy := hρ y
    split at h
    · rename_i j c hb
      simp only [Option.some.injEq] at h; subst h
      obtain ⟨q, hq, hv⟩ := (by rw [hb] at hy; exact hy : (AV.o (.a (.p j c))).con β (a.eval y))
      simp only [List.cons.injEq, and_true] at hv
      exact quiet _ rfl hy (by simp only [execOp, hv]; rfl)
    · rename_i j c hb
      simp only [Option.some.injEq] at h; subst h
      obtain ⟨q, hq, hv⟩ := (by rw [hb] at hy; exact hy : (AV.o (.a (.ps j c))).con β (a.eval y))
      simp only [List.cons.injEq, and_true] at hv
      exact quiet _ rfl hy (by simp only [execOp, hv]; rfl)
    · rename_i fn bnd caps hb
      simp only [Option.some.injEq] at h; subst h
      rw [hb] at hy
      have hy0 := hy
      obtain ⟨us, vs, hv, _⟩ := hy
      exact quiet _ rfl hy0 (by simp only [execOp, hv]; rfl)
    · simp at h
  case binOp op t y z yt =>
    split at h
    rotate_left
    · obtain ⟨x, hx, hr⟩ := ofOx_some h
      exact value _ x hr (opBinS_ok (X := y) (Y := z) hT hx (hρ y) (hρ z) hR) rfl
    rename_i r0 hr0
    obtain ⟨x, hx, hr⟩ := ofOx_some h
    obtain rfl : r0 = x := Option.some.inj hx
    have hx := hr0
    exact value _ r0 hr (opBin_ok (X := y) (Y := z) hT hx (by rw [hr] at hvc; exact hvc) (hρ y) (hρ z) hR) rfl
  case unOp op t y =>
    obtain ⟨x, hx, hr⟩ := ofOx_some h
    exact value _ x hr (opUn_ok hx (hρ y) hR) rfl
  case convert src dst y =>
    split at h
    · rename_i e he
      split at h
      · obtain ⟨x, hx, hr⟩ := ofOx_some h
        exact value _ x hr (opConvS_ok hT hx (by rw [hr] at hvc; exact hvc) (hρ y) hR) rfl
      · obtain ⟨x, hx, hr⟩ := ofOx_some h
        exact value _ x hr (opConvert_ok hT (hT _ _ he).und hx (hρ y) hR) rfl
    · simp at h
  case sliceToArrayPointer arr y =>
    obtain ⟨x, hx, hr⟩ := ofOx_some h
    exact value _ x hr (opS2A_ok hT hx (by rw [hr] at hvc; exact hvc) (hρ y) hR) rfl
  case makeFunc fn first captured =>
    cases fn <;> simp only [reduceCtorEq] at h
    rename_i f
    split at h
    · rename_i k l hk hl
      simp only [Option.some.injEq] at h; subst h
      have hb := capsOf_con hρ hk
      have hc := capsOf_con hρ hl
      refine quiet (.func (.func f) (first.map a.eval) (captured.map a.eval)) rfl ⟨(first.map a.eval).toList, (captured.map a.eval).toList, by rw [Array.toArray_toList, Array.toArray_toList], by rw [Array.toList_map]; exact hb, by rw [Array.toList_map]; exact hc⟩ ?_
      simp [execOp, Instr.makeFunc]
    · simp at h
  case makeInterface t y =>
    unfold opIface at h
    split at h
    · rename_i el _ _ _ _ j k ht hy
      simp only [Option.some.injEq] at h; subst h
      have hc := hρ y
      rw [hy] at hc
      obtain ⟨rf, hrf, hv⟩ := hc
      simp only [List.cons.injEq, and_true] at hv
      refine quiet (.iface t (a.eval y)) rfl ⟨rf, hrf, by rw [hv]⟩ ?_
      simp only [execOp, Instr.makeInterface, Sem.run_bind, run_underlying (hT _ _ ht).und w, Result.andThen_ok]
      rfl
    · simp at h
  case makeMap t r' =>
    obtain ⟨x, hx, hr⟩ := ofOx_some h
    have hx0 := hx
    have hal : x.al = true := by
      unfold opMakeMap at hx
      split at hx
      · simp only [Option.some.injEq] at hx; subst hx; rfl
      · simp at hx
    obtain ⟨h1, h2⟩ := al1 x hr hal
    exact value _ x hr (opMakeMap_ok hx0 h1 h2 hR) rfl
  case lookup t y k c =>
    obtain ⟨x, hx, hr⟩ := ofOx_some h
    exact value _ x hr (opLookup_ok hT hx (hρ y) (hρ k) hR) rfl
  case mapUpdate t y k z =>
    obtain ⟨x, hx, hr⟩ := ofOx_some h
    obtain ⟨w', hrun, hu, hrel⟩ := opMapUpd_ok hT hx (hρ y) (hρ k) (hρ z) hR
    subst hr
    unfold Oper.wp
    have : (execOp a.eval ⟨dst, .mapUpdate t y k z, ty, pos, after, guard⟩).run P w = .ok .skip w' := by
      simp only [execOp, Sem.run_bind, hrun, Result.andThen_ok, Sem.run_pure]
    rw [this]
    exact hnext β undef w' (agree_refl _ _ _) (by rw [hu]; trivial) hrel
  case makeSlice t y z =>
    obtain ⟨x, hx, hr⟩ := ofOx_some h
    have hx0 := hx
    have hal : x.al = true := by
      unfold opMakeSlice at hx
      split at hx
      · split at hx
        · split at hx
          · split at hx
            · simp only [Option.some.injEq] at hx; subst hx; rfl
            · simp at hx
          · simp at hx
        · simp at hx
      · simp at hx
    obtain ⟨h1, h2⟩ := al1 x hr hal
    exact value _ x hr (opMakeSlice_ok hT hx0 (by rw [hr] at hvc; exact hvc) (hρ y) (hρ z) h1 h2 hR) rfl
  case slice t y lo hi mx =>
    obtain ⟨x, hx, hr⟩ := ofOx_some h
    exact value _ x hr (opSlice_ok hT hρ hx (by rw [hr] at hvc; exact hvc) hR) rfl
  case fieldAddr s y f =>
    obtain ⟨x, hx, hr⟩ := ofOx_some h
    exact value _ x hr (opFieldAddr_ok hT hx (hρ y) hR) rfl
  case field t y f =>
    obtain ⟨x, hx, hr⟩ := ofOx_some h
    exact value _ x hr (opField_ok hT hx (hρ y) hR) rfl
  case indexAddr t y ix =>
    obtain ⟨x, hx, hr⟩ := ofOx_some h
    exact value _ x hr (opIndexAddr_ok hT hx (by rw [hr] at hvc; exact hvc) (hρ y) (hρ ix) hR) rfl
  case index t y ix =>
    obtain ⟨x, hx, hr⟩ := ofOx_some h
    exact value _ x hr (opIndex_ok hT hx (by rw [hr] at hvc; exact hvc) (hρ y) (hρ ix) hR) rfl
  case extract y i =>
    obtain ⟨x, hx, hr⟩ := ofOx_some h
    exact value _ x hr (opExtract_ok hx (hρ y) hR) rfl
  case call c =>
    obtain ⟨callee, args, ats⟩ := c
    have args1 : ∀ {y : Operand}, args.toList = [y] → args.map a.eval = #[a.eval y] := by
      intro y hy; apply Array.toList_inj.1; simp [hy]
    have args2 : ∀ {y z : Operand}, args.toList = [y, z] → args.map a.eval = #[a.eval y, a.eval z] := by
      intro y z hy; apply Array.toList_inj.1; simp [hy]
    have args3 : ∀ {y z t : Operand}, args.toList = [y, z, t] → args.map a.eval = #[a.eval y, a.eval z, a.eval t] := by
      intro y z t hy; apply Array.toList_inj.1; simp [hy]
    have arr1 : ∀ {t : TypeId}, ats.toList = [t] → ats = #[t] := by
      intro t ht; apply Array.toList_inj.1; simp [ht]
    have arr2 : ∀ {t u : TypeId}, ats.toList = [t, u] → ats = #[t, u] := by
      intro t u ht; apply Array.toList_inj.1; simp [ht]
    unfold opCall at h
    cases callee with
    | invoke recv m =>
      simp only at h
      split at h
      · rename_i t j k hr
        split at h
        · rename_i vc' fn ch' fr' hm
          split at h
          · rename_i hfn
            split at hm
            · rename_i ht
              obtain ⟨fn', hf', hmeth⟩ := hΓ.meth _ _ _ _ ht hm
              simp only [AV.f.injEq, and_true] at hf'
              subst hf'
              have hrc := hρ recv
              rw [hr] at hrc
              obtain ⟨rf, hrf, hv⟩ := hrc
              simp only [List.cons.injEq, and_true] at hv
              have hall : allC β (AV.o (.a (.p j k)) :: args.toList.map ρ) (.pointer (some ⟨rf.blk, rf.off + k, none⟩) :: args.toList.map a.eval) :=
                ⟨_, _, rfl, ⟨rf, hrf, rfl⟩, by simpa using allC_map (caps := []) (vs := []) hρ args.toList rfl⟩
              have hcalls := hΓ.calls _ _ _ _ _ hfn h hvc β w _ hall hR hn hK
              have hrun : (execOp a.eval ⟨dst, .call ⟨.invoke recv m, args, ats⟩, ty, pos, after, guard⟩).run P w = .ok (.enter fn (.pointer (some ⟨rf.blk, rf.off + k, none⟩) :: args.toList.map a.eval).toArray) w := by
                simp only [execOp, resolve, hv, pure_bind, invoke]
                have h0 : ∀ (x : Value) (l : Array Value), (#[x] ++ l)[0]? = some x := fun x l => by
                  rw [Array.getElem?_append_left (by simp)]; rfl
                have h1 : ∀ (x : Value) (l : Array Value), (#[x] ++ l).extract 1 (#[x] ++ l).size = l := fun x l => by
                  apply Array.toList_inj.1
                  rw [Array.toList_extract]
                  simp [List.extract, List.take_of_length_le]
                simp only [h0, h1]
                rw [hmeth, hΓ.enter _ _ _ _ _ hfn h]
                congr 2
                apply Array.toList_inj.1
                simp
              unfold Oper.wp
              rw [hrun]
              refine Calls.mono hcalls fun e w' he => ?_
              obtain ⟨v, β', rfl, hag, hcon, hrel⟩ := he
              exact hnext β' v w' hag hcon hrel
            · cases hm
          · simp at h
        · simp at h
      · simp at h
    | builtin b =>
      simp only at h
      unfold opBuiltin at h
      split at h
      · rename_i y t ha ht
        obtain ⟨x, hx, hr⟩ := ofOx_some h
        refine value _ x hr (opLen_ok (ats := ats) (tt := ty) hT (by rw [arr1 ht]; rfl) hx (hρ y) hR) ?_
        simp only [execOp, resolve, invoke, builtin, args1 ha, pure_bind]
      · rename_i y t ha ht
        obtain ⟨x, hx, hr⟩ := ofOx_some h
        refine value _ x hr (opCap_ok (ats := ats) (tt := ty) hT (by rw [arr1 ht]; rfl) hx (hρ y) hR) ?_
        simp only [execOp, resolve, invoke, builtin, args1 ha, pure_bind]
      · rename_i y z ha
        obtain ⟨x, hx, hr⟩ := ofOx_some h
        refine value _ x hr (opMin_ok (ats := ats) (tt := ty) hx (hρ y) (hρ z) hR) ?_
        simp only [execOp, resolve, invoke, builtin, args2 ha, pure_bind]
      · rename_i y z y3 ha
        obtain ⟨x, hx, hr⟩ := ofOx_some h
        refine value _ x hr (opMin3_ok (ats := ats) (tt := ty) hx (hρ y) (hρ z) (hρ y3) hR) ?_
        simp only [execOp, resolve, invoke, builtin, args3 ha, pure_bind]
      · rename_i y z ha
        obtain ⟨x, hx, hr⟩ := ofOx_some h
        refine value _ x hr (opMax_ok (ats := ats) (tt := ty) hx (hρ y) (hρ z) hR) ?_
        simp only [execOp, resolve, invoke, builtin, args2 ha, pure_bind]
      · rename_i y z t t' ha ht
        obtain ⟨x, hx, hr⟩ := ofOx_some h
        refine value _ x hr (opCopy_ok (t' := t') (tt := ty) hT hx (by rw [hr] at hvc; exact hvc) (hρ y) (hρ z) hR) ?_
        simp only [execOp, resolve, invoke, builtin, args2 ha, arr2 ht, pure_bind]
      · rename_i y z t t' ha ht
        obtain ⟨x, hx, hr⟩ := ofOx_some h
        refine value _ x hr (opAppend_ok (tt := ty) hT hx (by rw [hr] at hvc; exact hvc) (hρ y) (hρ z) (al1 x hr) hR) ?_
        simp only [execOp, resolve, invoke, builtin, args2 ha, arr2 ht, pure_bind]
      · simp at h
    | value f =>
      simp only at h
      split at h
      · rename_i fn bnd caps hf
        have hfc := hρ f
        rw [hf] at hfc
        obtain ⟨us, vs, hv, hbnd, hcaps⟩ := hfc
        have hall : allC β (bnd.map .o ++ (args.toList.map ρ ++ caps.map .o)) (us ++ (args.toList.map a.eval ++ vs)) := allC_pre hbnd (allC_map hρ _ hcaps)
        split at h
        · rename_i s hs
          simp only [Option.some.injEq] at h; subst h
          obtain ⟨v, h1, h2, h3, h4⟩ := hΓ.ext _ _ _ _ hs hvc β w _ hall
          refine quiet v h3 h2 ?_
          simp only [execOp, resolve, Deferred.ofValue, hv, pure_bind, invoke]
          rw [← h1]
          congr 2
          apply Array.toList_inj.1
          simp
        split at h
        rotate_left
        · simp at h
        rename_i hfn
        have hcalls := hΓ.calls _ _ _ _ _ hfn h hvc β w _ hall hR hn hK
        have hrun : (execOp a.eval ⟨dst, .call ⟨.value f, args, ats⟩, ty, pos, after, guard⟩).run P w = .ok (.enter fn (us ++ (args.toList.map a.eval ++ vs)).toArray) w := by
          simp only [execOp, resolve, Deferred.ofValue, hv, pure_bind, invoke]
          rw [hΓ.enter _ _ _ _ _ hfn h]
          congr 2
          apply Array.toList_inj.1
          simp
        unfold Oper.wp
        rw [hrun]
        refine Calls.mono hcalls fun e w' he => ?_
        obtain ⟨v, β', rfl, hag, hcon, hrel⟩ := he
        exact hnext β' v w' hag hcon hrel
      · simp at h

theorem srcOf_mono {K' : Know} (hs : Knows K K') {z cnt : Nat} {x : AV} {r : Prop × List Atom} (h : srcOf K z cnt x = some r) : srcOf K' z cnt x = some r := by
 unfold srcOf at *
 split at h
 ·split at h
  ·simp at h
  ·rename_i b hb; rw [hs _ _ hb]; exact h
 ·split at h
  ·simp at h
  ·rename_i b hb; rw [hs _ _ hb]; exact h
 ·exact h
 ·simp at h

theorem newOf_mono {K' : Know} (hs : Knows K K') {e : TE} {xT : TypeId} {x : AV} {r : Prop × Nat × List Atom} (h : newOf T K e xT x = some r) : newOf T K' e xT x = some r := by
 unfold newOf at *
 split at h
 ·exact h
 ·split at h
  ·rename_i m hm
   split at h
   ·rename_i hsrc
    rw [srcOf_mono hs hsrc]
    exact h
   ·simp at h
  ·simp at h
 ·simp at h

theorem opLoad_mono {K' : Know} (hs : Knows K K') {t : TypeId} {x : AV} {r : Ox} (h : opLoad T K t x = some r) : opLoad T K' t x = some r := by
 unfold opLoad at *
 split at h
 ·split at h
  ·simp at h
  ·rename_i b hb; rw [hs _ _ hb]; exact h
 ·simp at h

theorem opStore_mono {K' : Know} (hs : Knows K K') {t : TypeId} {x y : AV} {r : Ox} (h : opStore T K t x y = some r) : opStore T K' t x y = some r := by
 unfold opStore at *
 split at h
 ·split at h
  ·simp at h
  ·rename_i b hb; rw [hs _ _ hb]; exact h
 ·simp at h

theorem opCopy_mono {K' : Know} (hs : Knows K K') {t : TypeId} {x y : AV} {r : Ox} (h : opCopy T K t x y = some r) : opCopy T K' t x y = some r := by
 unfold opCopy at *
 split at h
 ·split at h
  ·rename_i e m dl he hm hdl
   split at h
   ·simp at h
   ·rename_i hz
    simp only [if_neg hz]
    split at h
    ·rename_i vs new hsrc
     rw [srcOf_mono hs hsrc]
     simp only
     split at h
     ·split at h
      ·rename_i b hb; rw [hs _ _ hb]; exact h
      ·simp at h
     ·simp at h
    ·simp at h
  ·simp at h
 ·simp at h

theorem opAppend_mono {K' : Know} (hs : Knows K K') {n : Nat} {fit : Bool} {sT xT : TypeId} {x y : AV} {r : Ox} (h : opAppend T K n fit sT xT x y = some r) : opAppend T K' n fit sT xT x y = some r := by
 unfold opAppend at *
 split at h
 ·split at h
  ·rename_i e he
   split at h
   ·simp at h
   ·rename_i hz
    simp only [if_neg hz]
    split at h
    ·rename_i vx m bs hnew
     rw [newOf_mono hs hnew]
     simp only
     split at h
     ·rename_i hnb
      simp only [if_pos hnb]
      split at h
      ·split at h
       ·rename_i hzz
        simp only [if_pos hzz]
        split at h
        ·rename_i b hb; rw [hs _ _ hb]; exact h
        ·simp at h
       ·simp at h
      ·split at h
       ·rename_i b hb; rw [hs _ _ hb]; exact h
       ·simp at h
      ·exact h
      ·simp at h
     ·simp at h
    ·simp at h
  ·simp at h
 ·simp at h

theorem ofOx_mono {o o' : Option Ox} {r : Rx} (h : ofOx o = some r) (hh : ∀ x, o = some x → o' = some x) : ofOx o' = some r := by
 obtain ⟨x, hx, rfl⟩ := ofOx_some h
 rw [hh x hx]; rfl

theorem opx_mono {v0 : World} {vr : List Nat} (hΓ : GamAt P Γ v0 vr) {K' : Know} (hs : Knows K K') {ρ : Rho} {n : Nat} {bit : Bool} {o : Op} {r : Rx} (h : opx T Γ ρ K n bit o = some r) : opx T Γ ρ K' n bit o = some r := by
 cases o
 case load t y =>
  have h : impL Γ n t (ofOx (opLoad T K t (ρ y))) = some r := h
  show impL Γ n t (ofOx (opLoad T K' t (ρ y))) = some r
  have ho : ∃ r0, ofOx (opLoad T K t (ρ y)) = some r0 := by
   cases hc : ofOx (opLoad T K t (ρ y)) with
   | none => rw [hc] at h; simp [impL] at h
   | some r0 => exact ⟨r0, rfl⟩
  obtain ⟨r0, hr0⟩ := ho
  rw [ofOx_mono hr0 fun _ hx => opLoad_mono hs hx]
  rw [hr0] at h; exact h
 case store => exact ofOx_mono h fun _ hx => opStore_mono hs hx
 case lookup => exact ofOx_mono h fun _ hx => opLookup_mono hs hx
 case mapUpdate => exact ofOx_mono h fun _ hx => opMapUpd_mono hs hx
 case convert src dst x =>
  simp only [opx] at h ⊢
  split at h
  ·split at h
   ·exact ofOx_mono h fun _ hx => opConvS_mono hs hx
   ·exact h
  ·simp at h
 case makeFunc fn _ _ => cases fn <;> exact h
 case call c =>
  have h : opCall T Γ ρ K n bit c = some r := h
  show opCall T Γ ρ K' n bit c = some r
  unfold opCall at *
  cases hc : c.callee with
  | invoke x m =>
   simp only [hc] at h ⊢
   split at h
   ·split at h
    ·split at h
     ·rename_i hfn; simp only [if_pos hfn]; exact hΓ.mono _ _ _ _ _ _ hfn h hs
     ·simp at h
    ·simp at h
   ·simp at h
  | builtin b =>
   simp only [hc] at h ⊢
   unfold opBuiltin at *
   split at h <;> first | exact h | exact ofOx_mono h fun _ hx => opCopy_mono hs hx | exact ofOx_mono h fun _ hx => opAppend_mono hs hx
  | value f =>
   simp only [hc] at h ⊢
   split at h
   ·split at h
    ·exact h
    ·split at h
     ·rename_i hfn; rw [if_pos hfn]; exact hΓ.mono _ _ _ _ _ _ hfn h hs
     ·simp at h
   ·simp at h
 all_goals exact h
end sound
end Go.Proofs.YtjmfnjgcofpocaaGreat.X

/- Regions, in the text's order, and what a state of the walk says. -/
namespace Go.Proofs.YtjmfnjgcofpocaaGreat.X
open Go

structure St where
 slots : List AV
 K : Know

structure Bs where
 w0 : World
 rw : List Nat
 k : Nat
 β0 : Env

structure Rel (B : Bs) (β : Env) (st : St) (a : Act) (w : World) : Prop where
 relw : RelW B.w0 B.rw β st.K w
 defers : a.defers = []
 size : a.tmps.size = st.slots.length
 slot : ∀ t, (st.slots.getD t .u).con β (a.tmps.getD t undef)
 fix : ∀ j, j < B.k → β j = B.β0 j
 len : B.k ≤ st.K.length

def put (slots : List AV) (dst : Option Tmp) (v : AV) : List AV :=
 match dst with
 | some d => slots.set d v
 | none => slots

theorem set1_length (K : Know) (j : Nat) (b : Option Blk) : K.length ≤ (K.set1 j b).length := by
 unfold Know.set1
 split
 ·simp
 ·simp

theorem app_length : ∀ (ch : List (Nat × Option Blk)) (K : Know), K.length ≤ (app K ch).length
 | [], _ => Nat.le_refl _
 | (j, b) :: r, K => Nat.le_trans (set1_length K j b) (app_length r _)

theorem at_ge {K : Know} {i : Nat} (h : K.length ≤ i) : K.at i = none := by
 unfold Know.at; rw [List.getElem?_eq_none h]; rfl

theorem Rel.put {B : Bs} {β β' : Env} {st : St} {a : Act} {w w' : World} (h : Rel B β st a w) {K' : Know} {dst : Option Tmp} {x : AV} {v : Value} {lo hi : Nat} (hag : Agree lo hi β β') (hlo : B.k ≤ lo)
  (hs : hi ≤ lo ∨ st.slots.all (AV.nom lo hi) = true) (hx : x.con β' v) (hw : RelW B.w0 B.rw β' K' w') (hl : st.K.length ≤ K'.length) : Rel B β' ⟨X.put st.slots dst x, K'⟩ (a.put dst v) w' := by
 have hslot : ∀ t, (st.slots.getD t .u).con β' (a.tmps.getD t undef) := by
  intro t
  refine AV.con_agree hag ?_ (h.slot t)
  by_cases ht : t < st.slots.length
  ·have hm : st.slots.getD t .u ∈ st.slots := by rw [List.getD_eq_getElem?_getD, List.getElem?_eq_getElem ht]; exact List.getElem_mem ht
   rcases hs with hs | hs
   ·have : ∀ a : Atom, a.nom lo hi = true := by intro a; cases a <;> simp [Atom.nom]; all_goals omega
    have hL : ∀ l : List Atom, nomL lo hi l = true := by intro l; unfold nomL; rw [List.all_eq_true]; intro x _; exact this x
    have hV : ∀ v : V1, v.nom lo hi = true := by intro v; cases v <;> simp [V1.nom, this, hL]
    cases st.slots.getD t .u <;> simp [AV.nom, hV]
   ·exact List.all_eq_true.1 hs _ hm
  ·rw [List.getD_eq_getElem?_getD, List.getElem?_eq_none (by omega)]; rfl
 refine ⟨hw, ?_, ?_, ?_, ?_, ?_⟩
 ·cases dst <;> exact h.defers
 ·cases dst with
  | none => exact h.size
  | some d => simp [Act.put, X.put, h.size]
 ·intro t
  cases dst with
  | none => exact hslot t
  | some d =>
   simp only [Act.put, X.put]
   by_cases hd : d = t
   ·subst hd
    by_cases hlt : d < st.slots.length
    ·rw [List.getD_eq_getElem?_getD, List.getElem?_set_self hlt]
     have : (a.tmps.setIfInBounds d v).getD d undef = v := by simp [h.size, hlt]
     rw [this]; exact hx
    ·have hge : (st.slots.set d x).length ≤ d := by rw [List.length_set]; exact Nat.le_of_not_lt hlt
     have : (st.slots.set d x).getD d .u = .u := by rw [List.getD_eq_getElem?_getD, List.getElem?_eq_none hge]; rfl
     rw [this]; trivial
   ·rw [List.getD_eq_getElem?_getD, List.getElem?_set_ne hd, ← List.getD_eq_getElem?_getD]
    have : (a.tmps.setIfInBounds d v).getD t undef = a.tmps.getD t undef := by
     simp [Array.getElem?_setIfInBounds_ne hd]
    rw [this]; exact hslot t
 ·intro j hj
  rw [hag j (.inl (by omega))]; exact h.fix j hj
 ·exact Nat.le_trans h.len hl

def consP (p : Option Prop) (l : List Prop) : List Prop :=
 match p with
 | some p => p :: l
 | none => l

def needsBit : Op → Bool
 | .pick .. => true
 | .call ⟨.builtin .append, _, _⟩ => true
 | _ => false

structure Out where
 ora : List Bool
 vc : List Prop
 st : St

section exec
variable (T : Tab) (Γ : Gam)

def step1 (o : Oper) (bit : Bool) (st : St) (vc : List Prop) : Option (List Prop × St) :=
 match opx T Γ (ev st.slots) st.K st.K.length bit o.op with
 | none => none
 | some r =>
  match r.fr with
  | 0 => some (consP r.vc vc, ⟨put st.slots o.dst r.val, app st.K r.ch⟩)
  | fr + 1 =>
   if st.slots.all (AV.nom st.K.length (st.K.length + (fr + 1))) = true ∧ st.K.nom st.K.length (st.K.length + (fr + 1)) = true then
    some (consP r.vc vc, ⟨put st.slots o.dst r.val, app st.K r.ch⟩)
   else none

def guardOf (ops : List Oper) (j : Nat) (slots : List AV) : Option Bool :=
 match (ops[j]?).bind (·.dst) with
 | some d => (match slots.getD d .u with
  | .o (.a (.b x)) => some x
  | _ => none)
 | none => none

def skipOf (ops : List Oper) (j : Nat) (slots : List AV) : Bool :=
 match (ops[j]?).bind (·.dst) with
 | some d => (match slots.getD d .u with
  | .t [] => true
  | _ => false)
 | none => false

def execOps (ops : List Oper) : List Oper → List Bool → St → List Prop → Option Out
  | [], ora, st, vc => some ⟨ora, vc, st⟩
  | o :: rest, ora, st, vc =>
    match o.guard with
    | none =>
      (match needsBit o.op, ora with
       | true, b :: ora => (match step1 T Γ o b st vc with
         | some (vc, st) => execOps ops rest ora st vc
         | none => none)
       | true, [] => none
       | false, ora => (match step1 T Γ o false st vc with
         | some (vc, st) => execOps ops rest ora st vc
         | none => none))
    | some (j, want) =>
      match skipOf ops j st.slots with
      | true => execOps ops rest ora ⟨put st.slots o.dst (.t []), st.K⟩ vc
      | false =>
      (match ora, guardOf ops j st.slots with
       | true :: ora, some x =>
         (match needsBit o.op, ora with
          | true, b :: ora => (match step1 T Γ o b st ((x = want) :: vc) with
            | some (vc, st) => execOps ops rest ora st vc
            | none => none)
          | true, [] => none
          | false, ora => (match step1 T Γ o false st ((x = want) :: vc) with
            | some (vc, st) => execOps ops rest ora st vc
            | none => none))
       | false :: ora, some x => execOps ops rest ora ⟨put st.slots o.dst (.t []), st.K⟩ ((x = !want) :: vc)
       | _, _ => none)
end exec

def AllP (l : List Prop) : Prop := ∀ p ∈ l, p

theorem consP_sub {p : Option Prop} {l : List Prop} (h : AllP (consP p l)) : okP p ∧ AllP l := by
 cases p with
 | none => exact ⟨trivial, h⟩
 | some p => exact ⟨h p (by simp [consP]), fun q hq => h q (by simp [consP, hq])⟩

section sound
variable {P : Program} {T : Tab} {Γ : Gam} {B : Bs}

theorem step1_vc {o : Oper} {bit : Bool} {st st' : St} {vc vc' : List Prop} (h : step1 T Γ o bit st vc = some (vc', st')) (hvc : AllP vc') : AllP vc := by
 unfold step1 at h
 split at h
 ·simp at h
 ·split at h
  ·simp only [Option.some.injEq, Prod.mk.injEq] at h; obtain ⟨rfl, rfl⟩ := h; exact (consP_sub hvc).2
  ·split at h
   ·simp only [Option.some.injEq, Prod.mk.injEq] at h; obtain ⟨rfl, rfl⟩ := h; exact (consP_sub hvc).2
   ·simp at h

theorem step1_sound (hT : TabOk P T) (hΓ : GamAt P Γ B.w0 B.rw) {o : Oper} {bit : Bool} {st st' : St} {vc vc' : List Prop} (h : step1 T Γ o bit st vc = some (vc', st')) (hvc : AllP vc') {β : Env} {a : Act} {w : World} (hR : Rel B β st a w)
  {next : Act → World → Prop} {Q : Exit → Act → World → Prop} (hnext : ∀ β' a' w', Rel B β' st' a' w' → next a' w') : o.wp P a w next Q := by
 unfold step1 at h
 split at h
 ·simp at h
 ·rename_i r hr
  have main : ∀ lo hi, lo = st.K.length → hi = st.K.length + r.fr → (hi ≤ lo ∨ (st.slots.all (AV.nom lo hi) = true ∧ st.K.nom lo hi = true)) → (consP r.vc vc, (⟨put st.slots o.dst r.val, app st.K r.ch⟩ : St)) = (vc', st') → o.wp P a w next Q := by
   intro lo hi hlo hhi hs heq
   simp only [Prod.mk.injEq] at heq
   obtain ⟨rfl, rfl⟩ := heq
   have h1 := (consP_sub hvc).1
   subst hlo
   have hKn : st.K.nom st.K.length (st.K.length + r.fr) = true := by
    rcases hs with hs | hs
    ·have : ∀ a : Atom, a.nom st.K.length (st.K.length + r.fr) = true := by intro a; cases a <;> simp [Atom.nom]; all_goals omega
     unfold Know.nom
     rw [List.all_eq_true]
     intro b _
     cases b with
     | none => rfl
     | some b => unfold bnom nomL; rw [List.all_eq_true]; intro x _; exact this x
    ·rw [hhi] at hs; exact hs.2
   refine opx_wp hT hΓ hr h1 (fun x => ev_con hR.slot x) hR.relw (fun i _ => at_ge (by omega)) hKn ?_
   intro β' v w' hag hcon hrel
   exact hnext β' _ w' (hR.put (lo := st.K.length) (hi := st.K.length + r.fr) hag hR.len (hs.imp (by rw [hhi]; exact id) (by rw [hhi]; exact fun h => h.1)) hcon hrel (app_length _ _))
  split at h
  ·rename_i hfr
   simp only [Option.some.injEq] at h
   exact main _ _ rfl rfl (.inl (by omega)) h
  ·rename_i fr hfr
   split at h
   ·rename_i hc
    simp only [Option.some.injEq] at h
    exact main _ _ rfl rfl (.inr (by rw [hfr]; exact hc)) h
   ·simp at h

theorem guardOf_ok {ops : List Oper} {j : Nat} {st : St} {x : Bool} (h : guardOf ops j st.slots = some x) {β : Env} {a : Act} {w : World} (hR : Rel B β st a w) : yielded ops.toArray a.tmps j = some x := by
 unfold guardOf at h
 unfold yielded
 split at h
 ·rename_i d hd
  split at h
  ·rename_i y hy
   simp only [Option.some.injEq] at h; subst h
   have hc := hR.slot d
   rw [hy] at hc
   simp only [AV.con, V1.con, Atom.con, List.cons.injEq, and_true] at hc
   have hlt : d < st.slots.length := by
    rcases Nat.lt_or_ge d st.slots.length with h | h
    ·exact h
    ·rw [List.getD_eq_getElem?_getD, List.getElem?_eq_none h] at hy; simp at hy
   have : a.tmps[d]? = some (.bool y) := by
    have hlt' : d < a.tmps.size := by rw [hR.size]; exact hlt
    rw [Array.getElem?_eq_getElem hlt']
    have e : a.tmps.getD d undef = a.tmps[d] := by simp [hlt']
    rw [e] at hc; rw [hc]
   have hd' : (ops.toArray[j]?).bind (·.dst) = some d := by simpa using hd
   rw [hd']
   simp [this]
  ·simp at h
 ·simp at h

theorem undef_con {β : Env} : AV.con β (.t []) undef := ⟨[], rfl, rfl⟩
theorem con_undef {β : Env} {v : Value} (h : AV.con β (.t []) v) : v = undef := by
 obtain ⟨vs, rfl, hv⟩ := h
 have hv : vs = [] := hv
 subst hv; rfl
theorem skipOf_ok {ops : List Oper} {j : Nat} {st : St} (h : skipOf ops j st.slots = true) {β : Env} {a : Act} {w : World} (hR : Rel B β st a w) : yielded ops.toArray a.tmps j = none := by
 unfold skipOf at h
 unfold yielded
 split at h
 ·rename_i d hd
  have hd' : (ops.toArray[j]?).bind (·.dst) = some d := by simpa using hd
  split at h
  ·rename_i hy
   have hc := hR.slot d
   rw [hy] at hc
   have hc := con_undef hc
   rw [hd']
   by_cases hlt : d < a.tmps.size
   ·have e : a.tmps.getD d undef = a.tmps[d] := by simp [hlt]
    rw [e] at hc
    simp [hlt, hc, undef]
   ·simp [hlt]
  ·cases h
 ·cases h

def stepRest (T : Tab) (Γ : Gam) (ops rest : List Oper) (o : Oper) (ora : List Bool) (st : St) (vc : List Prop) : Option Out :=
 match needsBit o.op, ora with
 | true, b :: ora => (match step1 T Γ o b st vc with
  | some (vc, st) => execOps T Γ ops rest ora st vc
  | none => none)
 | true, [] => none
 | false, ora => (match step1 T Γ o false st vc with
  | some (vc, st) => execOps T Γ ops rest ora st vc
  | none => none)

theorem stepRest_inv {ops rest : List Oper} {o : Oper} {ora : List Bool} {st : St} {vc : List Prop} {out : Out} (h : stepRest T Γ ops rest o ora st vc = some out) :
  ∃ bit ora' vc1 st1, step1 T Γ o bit st vc = some (vc1, st1) ∧ execOps T Γ ops rest ora' st1 vc1 = some out := by
 unfold stepRest at h
 split at h
 ·split at h
  ·rename_i hs; exact ⟨_, _, _, _, hs, h⟩
  ·simp at h
 ·simp at h
 ·split at h
  ·rename_i hs; exact ⟨_, _, _, _, hs, h⟩
  ·simp at h

theorem execOps_cons (ops : List Oper) (o : Oper) (rest : List Oper) (ora : List Bool) (st : St) (vc : List Prop) :
  execOps T Γ ops (o :: rest) ora st vc = match o.guard with
   | none => stepRest T Γ ops rest o ora st vc
   | some (j, want) => match skipOf ops j st.slots with
    | true => execOps T Γ ops rest ora ⟨put st.slots o.dst (.t []), st.K⟩ vc
    | false => (match ora, guardOf ops j st.slots with
     | true :: ora, some x => stepRest T Γ ops rest o ora st ((x = want) :: vc)
     | false :: ora, some x => execOps T Γ ops rest ora ⟨put st.slots o.dst (.t []), st.K⟩ ((x = !want) :: vc)
     | _, _ => none) := by
 rfl

theorem execOps_vc {ops : List Oper} : ∀ (l : List Oper) (ora : List Bool) (st : St) (vc : List Prop) (out : Out), execOps T Γ ops l ora st vc = some out → AllP out.vc → AllP vc
 | [], ora, st, vc, out, h, hvc => by
  simp only [execOps, Option.some.injEq] at h; subst h; exact hvc
 | o :: rest, ora, st, vc, out, h, hvc => by
  rw [execOps_cons] at h
  have sr : ∀ ora vc, stepRest T Γ ops rest o ora st vc = some out → AllP vc := by
   intro ora vc h
   obtain ⟨bit, ora', vc1, st1, hs, hr⟩ := stepRest_inv h
   exact step1_vc hs (execOps_vc rest _ _ _ _ hr hvc)
  split at h
  ·exact sr _ _ h
  ·split at h
   ·exact execOps_vc rest _ _ _ _ h hvc
   ·split at h
    ·have := sr _ _ h; exact fun p hp => this p (by simp [hp])
    ·have := execOps_vc rest _ _ _ _ h hvc; exact fun p hp => this p (by simp [hp])
    ·simp at h

theorem execOps_sound (hT : TabOk P T) (hΓ : GamAt P Γ B.w0 B.rw) {ops : List Oper} {Q : Exit → Act → World → Prop} : ∀ (l : List Oper) (ora : List Bool) (st : St) (vc : List Prop) (out : Out), execOps T Γ ops l ora st vc = some out → AllP out.vc →
  ∀ {β : Env} {a : Act} {w : World}, Rel B β st a w → (∀ β' a' w', Rel B β' out.st a' w' → Q .normal a' w') → wpList P ops.toArray Q l a w
 | [], ora, st, vc, out, h, hvc, β, a, w, hR, hq => by
  simp only [execOps, Option.some.injEq] at h; subst h
  exact hq _ _ _ hR
 | o :: rest, ora, st, vc, out, h, hvc, β, a, w, hR, hq => by
  rw [execOps_cons] at h
  have sr : ∀ ora vc, stepRest T Γ ops rest o ora st vc = some out → o.wp P a w (wpList P ops.toArray Q rest) Q := by
   intro ora vc h
   obtain ⟨bit, ora', vc1, st1, hs, hr⟩ := stepRest_inv h
   exact step1_sound hT hΓ hs (execOps_vc rest _ _ _ _ hr hvc) hR fun β' a' w' hR' => execOps_sound hT hΓ rest _ _ _ _ hr hvc hR' hq
  split at h
  ·rename_i hg
   unfold wpList
   rw [if_pos (by simp [Region.wanted, hg])]
   exact .inl (sr _ _ h)
  ·rename_i j want hg
   split at h
   ·rename_i hs
    have hy := skipOf_ok hs hR
    unfold wpList
    rw [if_neg (by simp [Region.wanted, hg, hy])]
    refine execOps_sound hT hΓ rest _ _ _ _ h hvc (hR.put (lo := B.k) (hi := B.k) (agree_refl _ _ _) (Nat.le_refl _) (.inl (Nat.le_refl _)) undef_con hR.relw (Nat.le_refl _)) hq
   split at h
   ·rename_i ora' x hx
    have hy := guardOf_ok hx hR
    have hall : AllP ((x = want) :: vc) := by
     obtain ⟨bit, ora', vc1, st1, hs, hr⟩ := stepRest_inv h
     exact step1_vc hs (execOps_vc rest _ _ _ _ hr hvc)
    have hxw : x = want := hall _ (by simp)
    unfold wpList
    rw [if_pos (by simp [Region.wanted, hg, hy, hxw])]
    exact .inl (sr _ _ h)
   ·rename_i ora' x hx
    have hy := guardOf_ok hx hR
    have hall := execOps_vc rest _ _ _ _ h hvc
    have hxw : x = !want := hall _ (by simp)
    unfold wpList
    rw [if_neg (by simp [Region.wanted, hg, hy, hxw])]
    refine execOps_sound hT hΓ rest _ _ _ _ h hvc (hR.put (lo := B.k) (hi := B.k) (agree_refl _ _ _) (Nat.le_refl _) (.inl (Nat.le_refl _)) undef_con hR.relw (Nat.le_refl _)) hq
   ·simp at h

theorem region_sound (hT : TabOk P T) (hΓ : GamAt P Γ B.w0 B.rw) {Q : Exit → Act → World → Prop} {id : Nat} {ops : Array Oper} {ora : List Bool} {st : St} {vc : List Prop} {out : Out} (h : execOps T Γ ops.toList ops.toList ora st vc = some out) (hvc : AllP out.vc)
  {β : Env} {a : Act} {w : World} (hR : Rel B β st a w) (hq : ∀ β' a' w', Rel B β' out.st a' w' → Q .normal a' w') : (Code.region id ops false).wp P Q a w := by
 have := execOps_sound hT hΓ (Q := Q) _ _ _ _ _ h hvc hR hq
 rw [Array.toArray_toList] at this
 exact wp_region_list this
end sound
end Go.Proofs.YtjmfnjgcofpocaaGreat.X

