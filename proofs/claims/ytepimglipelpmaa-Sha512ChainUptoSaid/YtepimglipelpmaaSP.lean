/- The law of the chain, over whatever bytes: from the walk to the row. -/
import Derived.Test.YtepimglipelpmaaSN
import Derived.Test.YtepimglipelpmaaBulk
import Derived.WalkKit
import Derived.ProofKit
import Derived.OpenShut
import Derived.JoinedCond
namespace Go.Proofs.Ytepimglipelpmaa.X
open Go Go.Proofs Go.ChangeShapes Go.WideShapes Go.ChangeAt Go.RowKit
set_option linter.unusedVariables false
set_option maxRecDepth 100000

theorem Grow.kept {W W' : World} (g : Grow W W') (may : MemPlace → Prop) : W.keptBut W' may := by
  refine ⟨g.os, g.output, fun i hi => ?_⟩
  rw [g.old i hi]
  rcases W.heap[i]? with _ | o
  · rfl
  · cases o <;> simp

theorem Grow.frozen {W W' : World} (g : Grow W W') (a : Addr) (h : a.block < W.heap.size) : W'.frozen? a = W.frozen? a := by
  unfold World.frozen?; rw [g.old _ h]

theorem Grow.cell {W W' : World} (g : Grow W W') {a : Addr} {v : Value} (h : W.cell? a = some v) : W'.cell? a = some v := by
  have hlt : a.block < W.heap.size := by
    unfold World.cell? at h
    split at h
    · rename_i hh
      exact (Array.getElem?_eq_some_iff.1 hh).1
    · cases h
  unfold World.cell? at h ⊢
  rw [g.old _ hlt]; exact h

section post
variable {H : Type} {enc : TypeId × Value → H} {P : Program}
/-- what a law says, where the old blocks are as they were -/
theorem post_grow {f : Func} {s : ChangeSpec} {W W' : World} {args : Array Value} {v : Value} {ds : List (DataW H)} {before : List MemPlace} (hvars : s.vars = [])
    (hW : DataW.Whole enc P f.params.toList s.vars false W args.toList ds [] before)
    (hres : ∀ (b : Nat) (sp : Nat → Bool) (hd : Bool), DataW.TrodAll enc P W' b sp hd f.resultTypes.toList (v.resultList f.resultTypes.size) (s.fn H (ds ++ [])).results [])
    (hargs : ∀ sp : Nat → Bool, (∀ p ∈ before, sp p.block = true) → DataW.TrodAll enc P W' 0 sp true f.params.toList args.toList (s.fn H (ds ++ [])).args before)
    (hv : (s.fn H (ds ++ [])).vars = []) (g : Grow W W')
    (hok : ∀ (j : Nat) (t : TypeId) (r : Value), f.resultTypes[j]? = some t → (v.resultList f.resultTypes.size)[j]? = some r → Value.okWide P W' .any 0 t r) :
    s.post enc P f false true false false W args v W' := by
  have hlt : ∀ p ∈ before, p.block < W.heap.size := fun p hp => by simpa using hW.lt p hp
  have hold : ∀ p ∈ before, (fun b => decide (b < W.heap.size)) p.block = true := fun p hp => by simpa using hlt p hp
  have tv : ∀ sp, DataW.TrodVars enc P W' sp s.vars (s.fn H (ds ++ [])).vars [] := fun sp => by rw [hvars, hv]; exact rfl
  refine ⟨ds, [], before, [], before, [], hW, hres _ _ _, hargs _ hold, tv _, g.kept _, fun h => by cases h⟩
end post

/-- bytes of an argument, as one known block -/
def bytesK (n : Nat) (L : List Int) : Know := [some ⟨false, [.ints .u8 n L]⟩]

theorem bytes_rel {W : World} {a0 : Option Addr} {len cap : Nat} {L : List Int} (hL : L.length = len) (hlc : len ≤ cap)
    (hc : 0 < cap → ∃ b off arr ty fr, a0 = some ⟨b, off, none⟩ ∧ W.heap[b]? = some (.cells arr ty fr) ∧ off + len ≤ arr.size ∧ ∀ i x, L[i]? = some x → arr[off + i]? = some (.int .u8 x)) :
    ∃ β : Env, RelW W [] β (bytesK len L) W ∧ allC β [.o (.a (.sl 0 0 len cap))] [.slice a0 len cap] := by
  by_cases h0 : 0 < cap
  · obtain ⟨b, off, arr, ty, fr, rfl, hh, hs, hx⟩ := hc h0
    have hlt : b < W.heap.size := (Array.getElem?_eq_some_iff.1 hh).1
    refine ⟨fun _ => some ⟨b, off, arr.size⟩, RelW.ofRead fun j bk hj => ?_, _, [], rfl, ⟨_, rfl, hlc, fun _ => ⟨_, rfl, rfl⟩⟩, rfl⟩
    have hbk : j = 0 ∧ bk = ⟨false, [.ints .u8 len L]⟩ := by
      match j, hj with
      | 0, hj => exact ⟨rfl, (Option.some.inj hj).symm⟩
      | j + 1, hj => simp [Know.at, bytesK] at hj
    obtain ⟨rfl, rfl⟩ := hbk
    refine ⟨rfl, ⟨L.map (Value.int .u8), ⟨_, [], by simp, ⟨hL, rfl⟩, rfl⟩, .inr ⟨_, arr, ty, fr, rfl, hh, rfl, by simp; omega, ?_, fun h => by cases h⟩⟩, fun r hr => by cases hr; exact hlt⟩
    intro i v hv
    rw [List.getElem?_map, Option.map_eq_some_iff] at hv
    obtain ⟨x, hx', rfl⟩ := hv
    exact hx i x hx'
  · have hn : L = [] := List.length_eq_zero_iff.1 (by omega)
    subst hn
    have hl0 : len = 0 := by omega
    subst hl0
    refine ⟨fun _ => none, RelW.ofRead fun j bk hj => ?_, _, [], rfl, ⟨_, rfl, hlc, fun h => absurd h h0⟩, rfl⟩
    have hbk : j = 0 ∧ bk = ⟨false, [.ints .u8 0 []]⟩ := by
      match j, hj with
      | 0, hj => exact ⟨rfl, (Option.some.inj hj).symm⟩
      | j + 1, hj => simp [Know.at, bytesK] at hj
    obtain ⟨rfl, rfl⟩ := hbk
    exact ⟨rfl, ⟨[], ⟨[], [], rfl, ⟨rfl, rfl⟩, rfl⟩, .inl ⟨rfl, .inl rfl⟩⟩, fun r hr => by cases hr⟩

theorem chain_calls {W : World} {a0 : Option Addr} {len cap : Nat} {L : List Int} (hL : L.length = len) (hlc : len ≤ cap) (hn : len ≤ 1048576)
    (hc : 0 < cap → ∃ b off arr ty fr, a0 = some ⟨b, off, none⟩ ∧ W.heap[b]? = some (.cells arr ty fr) ∧ off + len ≤ arr.size ∧ ∀ i x, L[i]? = some x → arr[off + i]? = some (.int .u8 x)) :
    Calls Try.prog 6 #[.slice a0 len cap] W fun e W' => e = .returned (.bool true) ∧ Grow W W' := by
  obtain ⟨β, hrel, hall⟩ := bytes_rel hL hlc hc
  refine Calls.mono (calls_of_body tabOkSN Try.func6 hall hrel (chain_body len len L cap rfl (by omega) W β)) fun e W' h => ?_
  obtain ⟨xs, K, v, β', hx, rfl, hv, hr, _⟩ := h
  subst hx
  have hv : [v] = [Value.bool true] := hv
  simp only [List.cons.injEq, and_true] at hv
  subst hv
  exact ⟨rfl, hr.toGrow⟩
end Go.Proofs.Ytepimglipelpmaa.X

namespace Go.Proofs.Ytepimglipelpmaa.chain
open Go Go.Proofs Go.ChangeShapes Go.WideShapes Go.ChangeAt Go.RowKit X
set_option linter.unusedVariables false
set_option maxRecDepth 100000

theorem own : ownKnob Try.prog.godebug = none := by kernel_rfl

theorem contract (H : Type) (enc : TypeId × Value → H) (W : World) (base : Nat) (args : Array Value) (ds gs : List (DataW H)) (before : List MemPlace)
    (hval : ∀ (j : Nat) t v, Try.f6.params[j]? = some t → args[j]? = some v → Value.okWide Try.prog W .any base t v)
    (hW : DataW.Whole enc Try.prog Try.f6.params.toList Rows.sha512ChainSpec.vars false W args.toList ds gs before) (hk : Rows.uptoSmall H (ds ++ gs) = true) :
    Calls Try.prog 6 args W fun e W' => ∃ v, e = .returned v ∧ Rows.sha512ChainSpec.post enc Try.prog Try.f6 false true false false W args v W' := by
  have hW' := hW
  obtain ⟨p, q, hA0, hV, rfl, hfz, hnd⟩ := hW
  have hA : DataW.TrodAll enc Try.prog W 0 (fun _ => true) true Try.f6.params.toList args.toList ds p := hA0
  rw [Try.params6] at hA hval
  obtain ⟨v0, vs0, d0, ds0, p0, q0, hargs, rfl, rfl, h0, r0⟩ := trodAll_cons hA
  obtain ⟨rfl, rfl, rfl⟩ := trodAll_nil r0
  obtain rfl : args = #[v0] := by cases args; simp_all
  obtain ⟨rfl, rfl⟩ := trodVars_none hV
  obtain ⟨a0, len, cap, rfl⟩ := okWide_slice Try.underlying22 (hval 0 22 v0 rfl rfl)
  obtain ⟨fuel, hf⟩ := h0
  have hc5 : Try.prog.cellsOf 5 = 1 := by kernel_rfl
  clear hA0
  simp only [List.append_nil] at hW' hk
  have close : ∀ (L : List Int) (hL : L.length = len) (hlc : len ≤ cap) (hn : len ≤ 1048576)
      (hc : 0 < cap → ∃ b off arr ty fr, a0 = some ⟨b, off, none⟩ ∧ W.heap[b]? = some (.cells arr ty fr) ∧ off + len ≤ arr.size ∧ ∀ i x, L[i]? = some x → arr[off + i]? = some (.int .u8 x))
      (hre : ∀ (W' : World) (sp : Nat → Bool), Grow W W' → (∀ q ∈ p0, sp q.block = true) → DataW.Trod enc Try.prog W' 0 sp true 22 (.slice a0 len cap) d0 p0),
      Calls Try.prog 6 #[.slice a0 len cap] W fun e W' => ∃ v, e = .returned v ∧ Rows.sha512ChainSpec.post enc Try.prog Try.f6 false true false false W #[.slice a0 len cap] v W' := by
    intro L hL hlc hn hc hre
    refine (chain_calls hL hlc hn hc).mono fun e W' ⟨he, hg⟩ => ?_
    subst he
    refine ⟨_, rfl, post_grow rfl hW' (fun _ _ _ => trodAll_cons_mk (shut_bool Try.underlying4 _) trodAll_mk0) (fun sp hsp => trodAll_mk1 (hre W' sp hg hsp)) rfl hg (ok_one (by kernel_rfl) rfl (okWide_bool_mk Try.underlying4 _))⟩
  rcases open_ints Try.underlying22 Try.underlying5 hc5 hf with ⟨hcs, hx⟩ | ⟨a, len', cap', zs, hcs, _, hl, hm, hz, hx, hcell, hwz⟩
  · simp [Value.cells] at hcs
    obtain ⟨rfl, rfl, rfl⟩ := hcs
    simp only [Prod.mk.injEq] at hx
    obtain ⟨rfl, rfl⟩ := hx
    exact close [] rfl (Nat.le_refl _) (by omega) (fun h => absurd h (by omega)) (fun W' sp _ _ => shut_slice_nil Try.underlying22)
  · simp [Value.cells] at hcs
    obtain ⟨rfl, rfl, rfl⟩ := hcs
    simp only [Prod.mk.injEq] at hx
    obtain ⟨rfl, rfl⟩ := hx
    simp only [if_true] at hz
    have hb := bulks.bound hk
    have hb2 := bulks.part_le (d := DataW.slice (lits .u8 (zs.take len)) (lits .u8 (zs.drop len))) (l := [DataW.slice (H := H) (lits .u8 (zs.take len)) (lits .u8 (zs.drop len))]) (by simp)
    have hb3 := bulks.slice_le (H := H) (lits .u8 (zs.take len)) (lits .u8 (zs.drop len))
    have hlen : (lits (H := H) .u8 (zs.take len)).length = len := by simp [lits]; omega
    refine close (zs.take len) (by simp; omega) hl (by omega) (fun hpos => ?_) (fun W' sp hg hsp => ?_)
    · obtain ⟨b, off, rfl, hcell2⟩ := ints_at hcell (by omega)
      have h00 := hcell2 0 (by omega)
      unfold World.cell? at h00
      split at h00
      · rename_i arr ty fr hh
        have hget : ∀ j, j < zs.length → arr[off + j]? = some (.int .u8 (zs.getD j 0)) := by
          intro j hj
          have h1 := hcell2 j hj
          unfold World.cell? at h1
          rw [hh] at h1
          simpa using h1
        refine ⟨b, off, arr, ty, fr, rfl, hh, ?_, ?_⟩
        · have := (Array.getElem?_eq_some_iff.1 (hget (zs.length - 1) (by omega))).1
          omega
        · intro i x hix
          rw [List.getElem?_take] at hix
          split at hix
          · have hlt := (List.getElem?_eq_some_iff.1 hix).1
            rw [hget i hlt, List.getD_eq_getElem?_getD, hix]; rfl
          · cases hix
      · cases h00
    · by_cases hpos : 0 < zs.length
      · obtain ⟨b, off, rfl, hcell2⟩ := ints_at hcell hpos
        have hsb : sp b = true := hsp (.cell b off) (MemPlace.mem_row.2 ⟨0, hpos, by simp⟩)
        exact ⟨_, shut_ints' (m := 0) Try.underlying22 Try.underlying5 hc5 (Nat.zero_le _) hl hm (by rw [hsb]; simpa using hz) (fun i hi => hg.cell (hcell2 i hi)) hwz⟩
      · have hz0 : zs = [] := List.length_eq_zero_iff.1 (by omega)
        subst hz0
        exact ⟨_, shut_ints (m := 0) Try.underlying22 Try.underlying5 hc5 (Nat.zero_le _) hl hm (by simp at hz ⊢; split <;> omega) (fun i hi => by simp at hi) hwz⟩

theorem lifted (os : Os) (started : os.Started) (H : Type) (enc : TypeId × Value → H) (F : Stop.Interp) :
    ReturnsInHanded {} Try.checked os 6 .any ((Rows.OpenSpec.upto Rows.sha512ChainSpec).pre6 enc Try.prog Try.f6 Rows.sha512ChainUptoRow.domain false) (((Rows.OpenSpec.upto Rows.sha512ChainSpec).at F).post enc Try.prog Try.f6 false true false false) := by
  refine returnsInHanded_of_cond (C := Try.checked) (s := Rows.OpenSpec.upto Rows.sha512ChainSpec) (k := Rows.uptoSmall) rfl own started (by kernel_rfl) Try.func6
    (OpenSpec.witness (enc := enc) (C := Try.checked) (s := Rows.OpenSpec.upto Rows.sha512ChainSpec) (k := Rows.uptoSmall) rfl false ⟨#[], #[.slice none 0 0], []⟩ 8 (by kernel_rfl) (by kernel_rfl) (by kernel_rfl)
      (x := ([.nil], [], [])) (by kernel_rfl) rfl (by kernel_rfl)) ?_
  intro W base args ds gs before hval hW _ hk _
  exact contract H enc W base args ds gs before hval hW hk

theorem over : Rows.sha512ChainUptoRow.holds Try.pinned (Rows.OpenSpec.upto Rows.sha512ChainSpec) :=
  OpenClaim.holds_of_cond 6 Try.f6 rfl rfl rfl rfl rfl rfl rfl ⟨rfl, rfl, rfl, rfl, rfl⟩ rfl rfl rfl rfl rfl (by kernel_rfl) Try.func6 (by kernel_rfl)
    (of_decide_eq_true (by kernel_rfl)) (by unfold Func.isWrapper; first | (rw [if_pos (by decide +kernel)]; kernel_rfl) | (rw [if_neg (by decide +kernel)]; exact ⟨rfl, rfl⟩))
    (fun os started H enc _ F => lifted os started H enc F)

theorem proved : Rows.Sha512ChainUptoSaid :=
  over
end Go.Proofs.Ytepimglipelpmaa.chain
