/- Arguments that are slices of whatever: their cells as values. -/
import Derived.Test.YtepimglipelpmaaC5
import Derived.Test.YtepimglipelpmaaXY
namespace Go.Proofs.Ytepimglipelpmaa.R
open Go Go.Proofs Go.ChangeShapes Go.WideShapes Go.ChangeAt Go.RowKit Go.Proofs.Ytepimglipelpmaa.X
set_option linter.unusedVariables false

theorem vals_open {W : World} {i : Nat} {a0 : Option Addr} {len cap N : Nat} {L : List Value} (hL : L.length = N) (hlc : len ≤ cap) (hone : ∀ v ∈ L, v.oneCell' = true) (h0 : cap = 0 → N = 0)
    (hc : 0 < cap → ∃ b off arr ty fr, a0 = some ⟨b, off, none⟩ ∧ W.heap[b]? = some (.cells arr ty fr) ∧ off + N ≤ arr.size ∧ ∀ i x, L[i]? = some x → arr[off + i]? = some x) :
    Opened W i [.slice a0 len cap] [.o (.a (.sl i 0 len cap))] [some ⟨false, [.vals N L]⟩] := by
  have hbk : ∀ j (bk : Blk), Know.at [some ⟨false, [.vals N L]⟩] j = some bk → j = 0 ∧ bk = ⟨false, [.vals N L]⟩ := by
    intro j bk hj
    match j, hj with
    | 0, hj => exact ⟨rfl, (Option.some.inj hj).symm⟩
    | j + 1, hj => simp [Know.at] at hj
  by_cases hcap : 0 < cap
  · obtain ⟨b, off, arr, ty, fr, rfl, hh, hs, hx⟩ := hc hcap
    have hlt : b < W.heap.size := (Array.getElem?_eq_some_iff.1 hh).1
    refine ⟨[some ⟨b, off, arr.size⟩], rfl, fun β hβ => ?_⟩
    have hb := hβ 0 (by simp)
    rw [Nat.add_zero] at hb
    have hb : β i = some ⟨b, off, arr.size⟩ := hb
    refine ⟨fun j bk hj => ?_, _, [], rfl, ⟨_, rfl, hlc, fun _ => ⟨_, hb, rfl⟩⟩, rfl⟩
    obtain ⟨rfl, rfl⟩ := hbk j bk hj
    rw [Nat.add_zero]
    exact ⟨rfl, ⟨L, ⟨_, [], by simp, ⟨hL, rfl, hone⟩, rfl⟩, .inr ⟨_, arr, ty, fr, hb, hh, rfl, by simp; omega, hx, fun h => by cases h⟩⟩, fun r hr => by rw [hb] at hr; cases hr; exact hlt⟩
  · have hN : N = 0 := h0 (by omega)
    have hn : L = [] := List.length_eq_zero_iff.1 (by omega)
    subst hn
    refine ⟨[none], rfl, fun β hβ => ?_⟩
    have hb : β i = none := hβ 0 (by simp)
    refine ⟨fun j bk hj => ?_, _, [], rfl, ⟨_, rfl, hlc, fun h => absurd h hcap⟩, rfl⟩
    obtain ⟨rfl, rfl⟩ := hbk j bk hj
    rw [Nat.add_zero]
    exact ⟨rfl, ⟨[], ⟨[], [], rfl, ⟨hL, rfl, by simp⟩, rfl⟩, .inl ⟨rfl, .inl rfl⟩⟩, fun r hr => by rw [hb] at hr; cases hr⟩

section args
variable {H : Type} {enc : TypeId × Value → H} {P : Program} {W : World} {base : Nat}

/-- a slice's cells, all its room -/
theorem slice_cells {t e : TypeId} {fuel : Nat} {cs : List Value} {x : DataW H × List MemPlace} (ht : P.underlying t = some (.slice e)) (hpos : 0 < P.cellsOf e) (h : DataW.trod enc P W 0 (fun _ => true) true fuel t cs = some x) :
    (cs = [.slice none 0 0] ∧ x.1 = .nil) ∨
    ∃ (a : Addr) (len cap n : Nat) (xs rest : List (DataW H × List MemPlace)) (A : List Value), cs = [.slice (some a) len cap] ∧ x.1 = .slice (xs.map (·.1)) (rest.map (·.1)) ∧ len ≤ cap ∧ cap ≤ maxLen ∧ xs.length = len ∧ A.length = cap * P.cellsOf e ∧
      (∀ i, i < cap * P.cellsOf e → W.cell? (a.add i) = A[i]?) ∧ ∀ i, i < cap → ∃ y, DataW.trod enc P W 0 (fun _ => true) true n e ((A.drop (i * P.cellsOf e)).take (P.cellsOf e)) = some y ∧ (i < len → xs[i]? = some y) := by
  rcases DataW.trod_slice ht h with ⟨h1, rfl⟩ | ⟨a, len, cap, elems, rest, n, _, rfl, rfl, _, hl, hm, hlen, hel, hsp, _⟩
  · exact .inl ⟨h1, rfl⟩
  obtain ⟨hrl, hr⟩ := hsp rfl
  have each : ∀ i, i < cap → ∃ y, (W.cells? 0 (a.add (i * P.cellsOf e)) (P.cellsOf e)).bind (DataW.trod enc P W 0 (fun _ => true) true n e) = some y ∧ (i < len → elems[i]? = some y) := by
    intro i hi
    by_cases h1 : i < len
    · have h2 : i < elems.length := by omega
      exact ⟨elems[i], by rw [hel i h1, List.getElem?_eq_getElem h2], fun _ => List.getElem?_eq_getElem h2⟩
    · have h2 : i - len < rest.length := by omega
      have := hr (i - len) (by omega)
      rw [show len + (i - len) = i by omega] at this
      exact ⟨rest[i - len], by rw [this, List.getElem?_eq_getElem h2], fun h => absurd h h1⟩
  have some_ : ∀ i, i < cap * P.cellsOf e → ∃ v, W.cell? (a.add i) = some v := by
    intro i hi
    have hq : i / P.cellsOf e < cap := (Nat.div_lt_iff_lt_mul hpos).2 hi
    obtain ⟨y, hy, _⟩ := each _ hq
    rw [Option.bind_eq_some_iff] at hy
    obtain ⟨ds, hds, _⟩ := hy
    obtain ⟨_, h2, h3⟩ := World.cells?_some hds
    have h4 := h3 (i % P.cellsOf e) (Nat.mod_lt _ hpos)
    rw [Addr.add_add, show i / P.cellsOf e * P.cellsOf e + i % P.cellsOf e = i from Nat.div_add_mod' _ _] at h4
    have h5 : i % P.cellsOf e < ds.length := by rw [h2]; exact Nat.mod_lt _ hpos
    exact ⟨ds[i % P.cellsOf e], by rw [h4, List.getElem?_eq_getElem h5]⟩
  refine .inr ⟨a, len, cap, n, elems, rest, (List.range (cap * P.cellsOf e)).map fun i => (W.cell? (a.add i)).getD undef, rfl, rfl, hl, hm, hlen, by simp, ?_, ?_⟩
  · intro i hi
    obtain ⟨v, hv⟩ := some_ i hi
    rw [List.getElem?_map, List.getElem?_range hi, hv]
    simp [hv]
  · intro i hi
    obtain ⟨y, hy, hy2⟩ := each i hi
    refine ⟨y, ?_, hy2⟩
    rw [Option.bind_eq_some_iff] at hy
    obtain ⟨ds, hds, hy3⟩ := hy
    obtain ⟨_, h2, h3⟩ := World.cells?_some hds
    have hle : i * P.cellsOf e + P.cellsOf e ≤ cap * P.cellsOf e := by
      have := Nat.mul_le_mul_right (P.cellsOf e) (Nat.succ_le_of_lt hi)
      rw [Nat.succ_mul] at this; exact this
    have : ((((List.range (cap * P.cellsOf e)).map fun i => (W.cell? (a.add i)).getD undef).drop (i * P.cellsOf e)).take (P.cellsOf e)) = ds := by
      refine List.ext_getElem? fun j => ?_
      by_cases hj : j < P.cellsOf e
      · rw [List.getElem?_take_of_lt hj, List.getElem?_drop, List.getElem?_map, List.getElem?_range (by omega)]
        have h4 := h3 j hj
        rw [Addr.add_add] at h4
        have h5 : j < ds.length := by omega
        simp only [Option.map_some]
        rw [h4, List.getElem?_eq_getElem h5]; rfl
      · rw [List.getElem?_eq_none (by simp; omega), List.getElem?_eq_none (by omega)]
    rw [this]; exact hy3

/-- a slice whose elements have c cells, opened -/
theorem vals_arg {t e : TypeId} {c : Nat} {v : Value} {d : DataW H} {p : List MemPlace} (ht : P.underlying t = some (.slice e)) (hcc : P.cellsOf e = c) (hpos : 0 < c)
    (hone : ∀ (n : Nat) (cs : List Value) (y : DataW H × List MemPlace), DataW.trod enc P W 0 (fun _ => true) true n e cs = some y → ∀ v ∈ cs, v.oneCell' = true)
    (hval : Value.okWide P W .any base t v) (h : DataW.Trod enc P W 0 (fun _ => true) true t v d p) :
    ∃ (len cap : Nat) (L : List Value), L.length = len * c ∧ len ≤ cap ∧ (∀ i, Opened W i [v] [.o (.a (.sl i 0 len cap))] [some ⟨false, [.vals (len * c) L]⟩]) ∧
      ((d = .nil ∧ len = 0) ∨ ∃ (n : Nat) (xs : List (DataW H × List MemPlace)) (s : List (DataW H)), d = .slice (xs.map (·.1)) s ∧ xs.length = len ∧
        ∀ i, i < len → ∃ y, DataW.trod enc P W 0 (fun _ => true) true n e ((L.drop (i * c)).take c) = some y ∧ xs[i]? = some y) := by
  subst hcc
  obtain ⟨a0, len, cap, rfl⟩ := okWide_slice ht hval
  obtain ⟨fuel, hf⟩ := h
  rcases slice_cells ht hpos hf with ⟨hcs, hx⟩ | ⟨a, len', cap', n, xs, rest, A, hcs, hx, hl, hm, hxl, hAl, hcell, hel⟩
  · simp [Value.cells] at hcs
    obtain ⟨rfl, rfl, rfl⟩ := hcs
    exact ⟨0, 0, [], by simp, Nat.le_refl _, fun i => vals_open (by simp) (Nat.le_refl _) (by simp) (fun _ => by simp) (fun h => absurd h (by omega)), .inl ⟨hx, rfl⟩⟩
  · simp [Value.cells] at hcs
    obtain ⟨rfl, rfl, rfl⟩ := hcs
    have hle : len * P.cellsOf e ≤ cap * P.cellsOf e := Nat.mul_le_mul_right _ hl
    refine ⟨len, cap, A.take (len * P.cellsOf e), by simp; omega, hl, fun i => vals_open (by simp; omega) hl ?_ ?_ fun hcap => ?_, .inr ⟨n, xs, _, hx, hxl, ?_⟩⟩
    · intro v hv
      obtain ⟨j, hj⟩ := List.getElem?_of_mem hv
      rw [List.getElem?_take] at hj
      split at hj
      · rename_i hjl
        have hq : j / P.cellsOf e < cap := (Nat.div_lt_iff_lt_mul hpos).2 (by omega)
        obtain ⟨y, hy, _⟩ := hel _ hq
        refine hone _ _ _ hy v (List.mem_of_getElem? (i := j % P.cellsOf e) ?_)
        rw [List.getElem?_take_of_lt (Nat.mod_lt _ hpos), List.getElem?_drop, Nat.div_add_mod']; exact hj
      · cases hj
    · intro hc0; have : len = 0 := by omega
      rw [this, Nat.zero_mul]
    · have hp : 0 < cap * P.cellsOf e := Nat.mul_pos hcap hpos
      have h0 := hcell 0 hp
      obtain ⟨v0, hv0⟩ : ∃ v0, A[0]? = some v0 := ⟨A[0], List.getElem?_eq_getElem (by omega)⟩
      rw [hv0] at h0
      obtain ⟨b, off, spot⟩ := a
      have hspot : spot = none := by simpa [Addr.add] using World.cell?_spot h0
      subst hspot
      have hc2 : ∀ j, j < cap * P.cellsOf e → W.cell? ⟨b, off + j, none⟩ = A[j]? := fun j hj => by rw [← Go.WideShapes.add_plain]; exact hcell j hj
      have h00 := hc2 0 hp
      rw [hv0] at h00
      unfold World.cell? at h00
      split at h00
      · rename_i arr ty fr hh
        have hget : ∀ j, j < cap * P.cellsOf e → arr[off + j]? = A[j]? := by
          intro j hj
          have h1 := hc2 j hj
          unfold World.cell? at h1
          rw [hh] at h1
          simpa using h1
        refine ⟨b, off, arr, ty, fr, rfl, hh, ?_, ?_⟩
        · by_cases hz : len * P.cellsOf e = 0
          · have := (Array.getElem?_eq_some_iff.1 ((hget 0 hp).trans hv0)).1
            omega
          · have h1 := hget (len * P.cellsOf e - 1) (by omega)
            rw [List.getElem?_eq_getElem (by omega)] at h1
            have := (Array.getElem?_eq_some_iff.1 h1).1
            omega
        · intro i x hix
          rw [List.getElem?_take] at hix
          split at hix
          · rw [hget i (by omega), hix]
          · cases hix
      · cases h00
    · intro i hi
      obtain ⟨y, hy, hy2⟩ := hel i (by omega)
      refine ⟨y, ?_, hy2 hi⟩
      rw [← hy]
      congr 1
      refine List.ext_getElem? fun j => ?_
      by_cases hj : j < P.cellsOf e
      · rw [List.getElem?_take_of_lt hj, List.getElem?_take_of_lt hj, List.getElem?_drop, List.getElem?_drop, List.getElem?_take_of_lt]
        have := Nat.mul_le_mul_right (P.cellsOf e) (Nat.succ_le_of_lt hi)
        rw [Nat.succ_mul] at this; omega
      · rw [List.getElem?_eq_none (by simp; omega), List.getElem?_eq_none (by simp; omega)]

/-- a slice of integers that lies in the world, as it is taken in -/
theorem imp_of {t e : TypeId} {k : IntKind} {n : Nat} {v : Value} {y : DataW H × List MemPlace} (ht : P.underlying t = some (.slice e)) (he : P.underlying e = some (.int k)) (hc : P.cellsOf e = 1)
    (h : DataW.trod enc P W 0 (fun _ => true) true n t [v] = some y) :
    (∀ (m : Nat) (β : Env), ImpOk ⟨W, [], m, β⟩ v k (lenV v) (capV v) (contV W v)) ∧ ((y.1 = .nil ∧ lenV v = 0) ∨ ∃ (L : List Int) (s : List (DataW H)), y.1 = .slice (lits k L) s ∧ L.length = lenV v) := by
  rcases open_ints ht he hc h with ⟨hcs, rfl⟩ | ⟨a, len, cap, zs, hcs, _, hl, hm, hz, rfl, hcell, hwz⟩
  · simp only [List.cons.injEq, and_true] at hcs
    subst hcs
    exact ⟨fun m β => ⟨none, rfl, Nat.le_refl _, rfl, fun h => absurd h (by simp [capV])⟩, .inl ⟨rfl, rfl⟩⟩
  · simp only [List.cons.injEq, and_true] at hcs
    subst hcs
    simp only [if_true] at hz
    refine ⟨fun m β => ?_, .inr ⟨_, _, rfl, by simp [lenV]; omega⟩⟩
    by_cases hcap : 0 < cap
    · obtain ⟨b, off, rfl, hcell2⟩ := ints_at hcell (by omega)
      have h00 := hcell2 0 (by omega)
      unfold World.cell? at h00
      split at h00
      · rename_i arr ty fr hh
        have hget : ∀ j, j < zs.length → arr[off + j]? = some (.int k (zs.getD j 0)) := by
          intro j hj
          have h1 := hcell2 j hj
          unfold World.cell? at h1
          rw [hh] at h1
          simpa using h1
        have hcont : contV W (.slice (some ⟨b, off, none⟩) len cap) = zs.take len := by
          unfold contV
          simp only [hh]
          refine List.ext_getElem? fun j => ?_
          by_cases hj : j < len
          · rw [List.getElem?_map, List.getElem?_range hj, List.getElem?_take_of_lt hj]
            have h1 := hget j (by omega)
            simp only [Option.map_some, Array.getD_eq_getD_getElem?, h1, Option.getD_some, intV]
            rw [List.getD_eq_getElem?_getD, List.getElem?_eq_getElem (by omega)]; rfl
          · rw [List.getElem?_eq_none (by simp; omega), List.getElem?_eq_none (by simp; omega)]
        refine ⟨_, rfl, hl, by rw [hcont]; simp [lenV]; omega, fun _ => ⟨b, off, arr, ty, fr, rfl, (Array.getElem?_eq_some_iff.1 hh).1, by simp, hh, ?_, ?_⟩⟩
        · have := (Array.getElem?_eq_some_iff.1 (hget (zs.length - 1) (by omega))).1
          simp only [lenV]; omega
        · intro i x hix
          rw [hcont, List.getElem?_take] at hix
          split at hix
          · have hlt := (List.getElem?_eq_some_iff.1 hix).1
            rw [hget i hlt, List.getD_eq_getElem?_getD, hix]; rfl
          · cases hix
      · cases h00
    · have h0 : len = 0 := by omega
      subst h0
      refine ⟨_, rfl, hl, ?_, fun h => absurd h hcap⟩
      unfold contV
      simp only [List.range_zero, List.map_nil, lenV]
      split <;> rfl
end args
end Go.Proofs.Ytepimglipelpmaa.R
