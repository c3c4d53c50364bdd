/-
  No cell of these rows narrows 'for every input' (looked for: loops, veiled, ifaces, maps, wideKeys, modest, calm, conditions, laid).
  DERIVED. THE GIVEN ROWS OF THIS SEAT. 11 by the template 'for every input the law returns true; each argument reads behind the call as it read before'; 0 by the template 'total and deterministic' (their statements: YtcpoldghkiiggaaTotals.lean).
  GIVEN WITH THE SEED: the statements are not yours to turn. If you find one false, say at which input.
  Laid BY PROGRAM, IN A SANDBOX (cutbox-rows.mjs): the forced cells as the released guide's own fill.sh prints them over the translation 22e818ba809c4d77… (all of the seat's roots in one cut). By AI agents, Wed Nov 11 2026. No macro, syntax, notation, axiom, sorry.
-/
import Derived.Test.YtcpoldghkiiggaaChecked
import GoSem.Claim
import GoSem.ClaimJoined
import GoSem.ClaimMapViews
import Derived.JoinedTies
import Derived.KernelRfl
namespace Go.Proofs.Ytcpoldghkiiggaa
/- THE CELL 'sum', in the pinned program and in every row, IS THE sha256 OF THE DUMP (.gsa) THAT YtcpoldghkiiggaaProg.lean LOADS. Nothing in Lean hashes anything: it is a label: what it is worth is what the hold of that sum in a sandbox is worth. -/
noncomputable def Try.pinned : Pinned := { name := "ytcpoldghkiiggaa", sum := "22e818ba809c4d771789a8274e7b898f10c19a17f45475a33789f80648947906", checked := Try.checked }
namespace Rows
def none {H : Type} : Left H := { results := [], args := [] }

/-- 'rimelaw02.ScalarTakes': WHATEVER THE INPUT: true; the input reads as it did. -/
def scalarTakesSpec : ChangeSpec := { name := "scalarTakes", fn := fun _ => fun
  | [d1, d2, d3] => { results := [.lit (.bool true)], args := [d1, d2, d3] }
  | _ => none }
def scalarTakesRow : OpenClaim := { program := "ytcpoldghkiiggaa", sum := "22e818ba809c4d771789a8274e7b898f10c19a17f45475a33789f80648947906", func := "rime/rimelaw02.ScalarTakes", spec := "scalarTakes", inPlace := ["math/bits.Sub64", "math/bits.Add64"], apart := false }
def ScalarTakesSaid : Prop := scalarTakesRow.holds Try.pinned (OpenSpec.ofChange scalarTakesSpec)

/-- ITS FALSE NEIGHBOUR: 'it returns false'. Refute it at one input. -/
def scalarTakesWrong : ChangeSpec := { name := "scalarTakes", fn := fun _ => fun
  | [d1, d2, d3] => { results := [.lit (.bool false)], args := [d1, d2, d3] }
  | _ => none }
def ScalarTakesWrongFalsely : Prop := scalarTakesRow.holds Try.pinned (OpenSpec.ofChange scalarTakesWrong)

/-- 'rimelaw02.ScalarAdds': WHATEVER THE INPUT: true; the input reads as it did. -/
def scalarAddsSpec : ChangeSpec := { name := "scalarAdds", fn := fun _ => fun
  | [d1, d2, d3] => { results := [.lit (.bool true)], args := [d1, d2, d3] }
  | _ => none }
def scalarAddsRow : OpenClaim := { program := "ytcpoldghkiiggaa", sum := "22e818ba809c4d771789a8274e7b898f10c19a17f45475a33789f80648947906", func := "rime/rimelaw02.ScalarAdds", spec := "scalarAdds", inPlace := ["math/bits.Sub64", "math/bits.Add64"], apart := false }
def ScalarAddsSaid : Prop := scalarAddsRow.holds Try.pinned (OpenSpec.ofChange scalarAddsSpec)

/-- ITS FALSE NEIGHBOUR: 'it returns false'. Refute it at one input. -/
def scalarAddsWrong : ChangeSpec := { name := "scalarAdds", fn := fun _ => fun
  | [d1, d2, d3] => { results := [.lit (.bool false)], args := [d1, d2, d3] }
  | _ => none }
def ScalarAddsWrongFalsely : Prop := scalarAddsRow.holds Try.pinned (OpenSpec.ofChange scalarAddsWrong)

/-- 'rimelaw02.ScalarField': WHATEVER THE INPUT: true; the input reads as it did. -/
def scalarFieldSpec : ChangeSpec := { name := "scalarField", fn := fun _ => fun
  | [d1, d2, d3] => { results := [.lit (.bool true)], args := [d1, d2, d3] }
  | _ => none }
def scalarFieldRow : OpenClaim := { program := "ytcpoldghkiiggaa", sum := "22e818ba809c4d771789a8274e7b898f10c19a17f45475a33789f80648947906", func := "rime/rimelaw02.ScalarField", spec := "scalarField", inPlace := ["math/bits.Sub64", "math/bits.Add64"], apart := false }
def ScalarFieldSaid : Prop := scalarFieldRow.holds Try.pinned (OpenSpec.ofChange scalarFieldSpec)

/-- ITS FALSE NEIGHBOUR: 'it returns false'. Refute it at one input. -/
def scalarFieldWrong : ChangeSpec := { name := "scalarField", fn := fun _ => fun
  | [d1, d2, d3] => { results := [.lit (.bool false)], args := [d1, d2, d3] }
  | _ => none }
def ScalarFieldWrongFalsely : Prop := scalarFieldRow.holds Try.pinned (OpenSpec.ofChange scalarFieldWrong)

/-- 'rimelaw02.ScalarReduces': WHATEVER THE INPUT: true; the input reads as it did. -/
def scalarReducesSpec : ChangeSpec := { name := "scalarReduces", fn := fun _ => fun
  | [d1, d2, d3] => { results := [.lit (.bool true)], args := [d1, d2, d3] }
  | _ => none }
def scalarReducesRow : OpenClaim := { program := "ytcpoldghkiiggaa", sum := "22e818ba809c4d771789a8274e7b898f10c19a17f45475a33789f80648947906", func := "rime/rimelaw02.ScalarReduces", spec := "scalarReduces", inPlace := ["math/bits.Add64", "math/bits.Sub64"], apart := false }
def ScalarReducesSaid : Prop := scalarReducesRow.holds Try.pinned (OpenSpec.ofChange scalarReducesSpec)

/-- ITS FALSE NEIGHBOUR: 'it returns false'. Refute it at one input. -/
def scalarReducesWrong : ChangeSpec := { name := "scalarReduces", fn := fun _ => fun
  | [d1, d2, d3] => { results := [.lit (.bool false)], args := [d1, d2, d3] }
  | _ => none }
def ScalarReducesWrongFalsely : Prop := scalarReducesRow.holds Try.pinned (OpenSpec.ofChange scalarReducesWrong)

/-- 'rimelaw02.ScalarInverts': WHATEVER THE INPUT: true; the input reads as it did. -/
def scalarInvertsSpec : ChangeSpec := { name := "scalarInverts", fn := fun _ => fun
  | [d1, d2] => { results := [.lit (.bool true)], args := [d1, d2] }
  | _ => none }
def scalarInvertsRow : OpenClaim := { program := "ytcpoldghkiiggaa", sum := "22e818ba809c4d771789a8274e7b898f10c19a17f45475a33789f80648947906", func := "rime/rimelaw02.ScalarInverts", spec := "scalarInverts", inPlace := ["math/bits.Sub64", "math/bits.Add64"], apart := false }
def ScalarInvertsSaid : Prop := scalarInvertsRow.holds Try.pinned (OpenSpec.ofChange scalarInvertsSpec)

/-- ITS FALSE NEIGHBOUR: 'it returns false'. Refute it at one input. -/
def scalarInvertsWrong : ChangeSpec := { name := "scalarInverts", fn := fun _ => fun
  | [d1, d2] => { results := [.lit (.bool false)], args := [d1, d2] }
  | _ => none }
def ScalarInvertsWrongFalsely : Prop := scalarInvertsRow.holds Try.pinned (OpenSpec.ofChange scalarInvertsWrong)

/-- 'rimelaw02.ScalarLists': WHATEVER THE INPUT: true; the input reads as it did. -/
def scalarListsSpec : ChangeSpec := { name := "scalarLists", fn := fun _ => fun
  | [d1, d2] => { results := [.lit (.bool true)], args := [d1, d2] }
  | _ => none }
def scalarListsRow : OpenClaim := { program := "ytcpoldghkiiggaa", sum := "22e818ba809c4d771789a8274e7b898f10c19a17f45475a33789f80648947906", func := "rime/rimelaw02.ScalarLists", spec := "scalarLists", inPlace := ["math/bits.Sub64", "math/bits.Add64"], apart := false }
def ScalarListsSaid : Prop := scalarListsRow.holds Try.pinned (OpenSpec.ofChange scalarListsSpec)

/-- ITS FALSE NEIGHBOUR: 'it returns false'. Refute it at one input. -/
def scalarListsWrong : ChangeSpec := { name := "scalarLists", fn := fun _ => fun
  | [d1, d2] => { results := [.lit (.bool false)], args := [d1, d2] }
  | _ => none }
def ScalarListsWrongFalsely : Prop := scalarListsRow.holds Try.pinned (OpenSpec.ofChange scalarListsWrong)

/-- 'rimelaw02.ScalarPowers': WHATEVER THE INPUT: true; the input reads as it did. -/
def scalarPowersSpec : ChangeSpec := { name := "scalarPowers", fn := fun _ => fun
  | [d1, d2] => { results := [.lit (.bool true)], args := [d1, d2] }
  | _ => none }
def scalarPowersRow : OpenClaim := { program := "ytcpoldghkiiggaa", sum := "22e818ba809c4d771789a8274e7b898f10c19a17f45475a33789f80648947906", func := "rime/rimelaw02.ScalarPowers", spec := "scalarPowers", inPlace := ["math/bits.Sub64", "math/bits.Add64"], apart := false }
def ScalarPowersSaid : Prop := scalarPowersRow.holds Try.pinned (OpenSpec.ofChange scalarPowersSpec)

/-- ITS FALSE NEIGHBOUR: 'it returns false'. Refute it at one input. -/
def scalarPowersWrong : ChangeSpec := { name := "scalarPowers", fn := fun _ => fun
  | [d1, d2] => { results := [.lit (.bool false)], args := [d1, d2] }
  | _ => none }
def ScalarPowersWrongFalsely : Prop := scalarPowersRow.holds Try.pinned (OpenSpec.ofChange scalarPowersWrong)

/-- 'rimelaw02.ScalarFermat': WHATEVER THE INPUT: true; the input reads as it did. -/
def scalarFermatSpec : ChangeSpec := { name := "scalarFermat", fn := fun _ => fun
  | [d1, d2, d3, d4] => { results := [.lit (.bool true)], args := [d1, d2, d3, d4] }
  | _ => none }
def scalarFermatRow : OpenClaim := { program := "ytcpoldghkiiggaa", sum := "22e818ba809c4d771789a8274e7b898f10c19a17f45475a33789f80648947906", func := "rime/rimelaw02.ScalarFermat", spec := "scalarFermat", inPlace := ["math/bits.Sub64", "math/bits.Add64"], apart := false }
def ScalarFermatSaid : Prop := scalarFermatRow.holds Try.pinned (OpenSpec.ofChange scalarFermatSpec)

/-- ITS FALSE NEIGHBOUR: 'it returns false'. Refute it at one input. -/
def scalarFermatWrong : ChangeSpec := { name := "scalarFermat", fn := fun _ => fun
  | [d1, d2, d3, d4] => { results := [.lit (.bool false)], args := [d1, d2, d3, d4] }
  | _ => none }
def ScalarFermatWrongFalsely : Prop := scalarFermatRow.holds Try.pinned (OpenSpec.ofChange scalarFermatWrong)

/-- 'rimelaw02.ScalarDigits': WHATEVER THE INPUT: true; the input reads as it did. -/
def scalarDigitsSpec : ChangeSpec := { name := "scalarDigits", fn := fun _ => fun
  | [d1, d2] => { results := [.lit (.bool true)], args := [d1, d2] }
  | _ => none }
def scalarDigitsRow : OpenClaim := { program := "ytcpoldghkiiggaa", sum := "22e818ba809c4d771789a8274e7b898f10c19a17f45475a33789f80648947906", func := "rime/rimelaw02.ScalarDigits", spec := "scalarDigits", inPlace := ["math/bits.Sub64", "math/bits.Add64"], apart := false }
def ScalarDigitsSaid : Prop := scalarDigitsRow.holds Try.pinned (OpenSpec.ofChange scalarDigitsSpec)

/-- ITS FALSE NEIGHBOUR: 'it returns false'. Refute it at one input. -/
def scalarDigitsWrong : ChangeSpec := { name := "scalarDigits", fn := fun _ => fun
  | [d1, d2] => { results := [.lit (.bool false)], args := [d1, d2] }
  | _ => none }
def ScalarDigitsWrongFalsely : Prop := scalarDigitsRow.holds Try.pinned (OpenSpec.ofChange scalarDigitsWrong)

/-- 'rimelaw02.ScalarComes': WHATEVER THE INPUT: true; the input reads as it did. -/
def scalarComesSpec : ChangeSpec := { name := "scalarComes", fn := fun _ => fun
  | [d1, d2] => { results := [.lit (.bool true)], args := [d1, d2] }
  | _ => none }
def scalarComesRow : OpenClaim := { program := "ytcpoldghkiiggaa", sum := "22e818ba809c4d771789a8274e7b898f10c19a17f45475a33789f80648947906", func := "rime/rimelaw02.ScalarComes", spec := "scalarComes", inPlace := ["math/bits.Sub64", "math/bits.Add64"], apart := false }
def ScalarComesSaid : Prop := scalarComesRow.holds Try.pinned (OpenSpec.ofChange scalarComesSpec)

/-- ITS FALSE NEIGHBOUR: 'it returns false'. Refute it at one input. -/
def scalarComesWrong : ChangeSpec := { name := "scalarComes", fn := fun _ => fun
  | [d1, d2] => { results := [.lit (.bool false)], args := [d1, d2] }
  | _ => none }
def ScalarComesWrongFalsely : Prop := scalarComesRow.holds Try.pinned (OpenSpec.ofChange scalarComesWrong)

/-- 'rimelaw02.ScalarOwn': WHATEVER THE INPUT: true; the input reads as it did. -/
def scalarOwnSpec : ChangeSpec := { name := "scalarOwn", fn := fun _ => fun
  | [d1, d2, d3] => { results := [.lit (.bool true)], args := [d1, d2, d3] }
  | _ => none }
def scalarOwnRow : OpenClaim := { program := "ytcpoldghkiiggaa", sum := "22e818ba809c4d771789a8274e7b898f10c19a17f45475a33789f80648947906", func := "rime/rimelaw02.ScalarOwn", spec := "scalarOwn", inPlace := ["math/bits.Sub64", "math/bits.Add64"], apart := false }
def ScalarOwnSaid : Prop := scalarOwnRow.holds Try.pinned (OpenSpec.ofChange scalarOwnSpec)

/-- ITS FALSE NEIGHBOUR: 'it returns false'. Refute it at one input. -/
def scalarOwnWrong : ChangeSpec := { name := "scalarOwn", fn := fun _ => fun
  | [d1, d2, d3] => { results := [.lit (.bool false)], args := [d1, d2, d3] }
  | _ => none }
def ScalarOwnWrongFalsely : Prop := scalarOwnRow.holds Try.pinned (OpenSpec.ofChange scalarOwnWrong)

/- THE SECOND FORM. 'bulk': how many values and letters a reading holds, each counted each time it is reached (what is shared counts as often as it is met; a slice's spare places count too). A statement '..UptoSaid' is the law's where the arguments, and the package variables that the reading takes, are together of bulk at most 1048576: NARROWER than '..Said'. Prove '..Said' where nothing that the law and all that it calls make is longer than what came in: it says more and counts as full. Else prove '..UptoSaid'. A law counts once. -/
mutual
def uptoBulk {H : Type} : DataW H → Nat
  | .lit (.string bytes) => bytes.length + 1
  | .lit _ => 1
  | .nil => 1
  | .ptr d => uptoBulk d + 1
  | .slice elems spare => uptoBulkAll elems + uptoBulkAll spare + 1
  | .agg parts => uptoBulkAll parts + 1
  | .iface _ d => uptoBulk d + 1
  | .map entries => uptoBulkEntries entries + 1
  | .held _ => 1
def uptoBulkAll {H : Type} : List (DataW H) → Nat
  | [] => 0
  | d :: r => uptoBulk d + uptoBulkAll r
def uptoBulkEntries {H : Type} : List (Lit × DataW H) → Nat
  | [] => 0
  | x :: r => uptoBulkEntry x + uptoBulkEntries r
def uptoBulkEntry {H : Type} : Lit × DataW H → Nat
  | (.string bytes, d) => bytes.length + uptoBulk d + 1
  | (_, d) => uptoBulk d + 1
 end
def uptoSmall : (H : Type) → List (DataW H) → Bool := fun _ ds => decide (uptoBulkAll ds ≤ 1048576)
def OpenSpec.upto (s : _root_.Go.ChangeSpec) : _root_.Go.OpenSpec := { _root_.Go.OpenSpec.ofChange s with cond := some uptoSmall }

/-- 'rimelaw02.ScalarTakes', WHERE WHAT IT READS IS OF BULK AT MOST 1048576: true; the input reads as it did. -/
def scalarTakesUptoRow : OpenClaim := { program := "ytcpoldghkiiggaa", sum := "22e818ba809c4d771789a8274e7b898f10c19a17f45475a33789f80648947906", func := "rime/rimelaw02.ScalarTakes", spec := "scalarTakes", inPlace := ["math/bits.Sub64", "math/bits.Add64"], apart := false, narrowed := true }
def ScalarTakesUptoSaid : Prop := scalarTakesUptoRow.holds Try.pinned (OpenSpec.upto scalarTakesSpec)

/-- 'rimelaw02.ScalarAdds', WHERE WHAT IT READS IS OF BULK AT MOST 1048576: true; the input reads as it did. -/
def scalarAddsUptoRow : OpenClaim := { program := "ytcpoldghkiiggaa", sum := "22e818ba809c4d771789a8274e7b898f10c19a17f45475a33789f80648947906", func := "rime/rimelaw02.ScalarAdds", spec := "scalarAdds", inPlace := ["math/bits.Sub64", "math/bits.Add64"], apart := false, narrowed := true }
def ScalarAddsUptoSaid : Prop := scalarAddsUptoRow.holds Try.pinned (OpenSpec.upto scalarAddsSpec)

/-- 'rimelaw02.ScalarField', WHERE WHAT IT READS IS OF BULK AT MOST 1048576: true; the input reads as it did. -/
def scalarFieldUptoRow : OpenClaim := { program := "ytcpoldghkiiggaa", sum := "22e818ba809c4d771789a8274e7b898f10c19a17f45475a33789f80648947906", func := "rime/rimelaw02.ScalarField", spec := "scalarField", inPlace := ["math/bits.Sub64", "math/bits.Add64"], apart := false, narrowed := true }
def ScalarFieldUptoSaid : Prop := scalarFieldUptoRow.holds Try.pinned (OpenSpec.upto scalarFieldSpec)

/-- 'rimelaw02.ScalarReduces', WHERE WHAT IT READS IS OF BULK AT MOST 1048576: true; the input reads as it did. -/
def scalarReducesUptoRow : OpenClaim := { program := "ytcpoldghkiiggaa", sum := "22e818ba809c4d771789a8274e7b898f10c19a17f45475a33789f80648947906", func := "rime/rimelaw02.ScalarReduces", spec := "scalarReduces", inPlace := ["math/bits.Add64", "math/bits.Sub64"], apart := false, narrowed := true }
def ScalarReducesUptoSaid : Prop := scalarReducesUptoRow.holds Try.pinned (OpenSpec.upto scalarReducesSpec)

/-- 'rimelaw02.ScalarInverts', WHERE WHAT IT READS IS OF BULK AT MOST 1048576: true; the input reads as it did. -/
def scalarInvertsUptoRow : OpenClaim := { program := "ytcpoldghkiiggaa", sum := "22e818ba809c4d771789a8274e7b898f10c19a17f45475a33789f80648947906", func := "rime/rimelaw02.ScalarInverts", spec := "scalarInverts", inPlace := ["math/bits.Sub64", "math/bits.Add64"], apart := false, narrowed := true }
def ScalarInvertsUptoSaid : Prop := scalarInvertsUptoRow.holds Try.pinned (OpenSpec.upto scalarInvertsSpec)

/-- 'rimelaw02.ScalarLists', WHERE WHAT IT READS IS OF BULK AT MOST 1048576: true; the input reads as it did. -/
def scalarListsUptoRow : OpenClaim := { program := "ytcpoldghkiiggaa", sum := "22e818ba809c4d771789a8274e7b898f10c19a17f45475a33789f80648947906", func := "rime/rimelaw02.ScalarLists", spec := "scalarLists", inPlace := ["math/bits.Sub64", "math/bits.Add64"], apart := false, narrowed := true }
def ScalarListsUptoSaid : Prop := scalarListsUptoRow.holds Try.pinned (OpenSpec.upto scalarListsSpec)

/-- 'rimelaw02.ScalarPowers', WHERE WHAT IT READS IS OF BULK AT MOST 1048576: true; the input reads as it did. -/
def scalarPowersUptoRow : OpenClaim := { program := "ytcpoldghkiiggaa", sum := "22e818ba809c4d771789a8274e7b898f10c19a17f45475a33789f80648947906", func := "rime/rimelaw02.ScalarPowers", spec := "scalarPowers", inPlace := ["math/bits.Sub64", "math/bits.Add64"], apart := false, narrowed := true }
def ScalarPowersUptoSaid : Prop := scalarPowersUptoRow.holds Try.pinned (OpenSpec.upto scalarPowersSpec)

/-- 'rimelaw02.ScalarFermat', WHERE WHAT IT READS IS OF BULK AT MOST 1048576: true; the input reads as it did. -/
def scalarFermatUptoRow : OpenClaim := { program := "ytcpoldghkiiggaa", sum := "22e818ba809c4d771789a8274e7b898f10c19a17f45475a33789f80648947906", func := "rime/rimelaw02.ScalarFermat", spec := "scalarFermat", inPlace := ["math/bits.Sub64", "math/bits.Add64"], apart := false, narrowed := true }
def ScalarFermatUptoSaid : Prop := scalarFermatUptoRow.holds Try.pinned (OpenSpec.upto scalarFermatSpec)

/-- 'rimelaw02.ScalarDigits', WHERE WHAT IT READS IS OF BULK AT MOST 1048576: true; the input reads as it did. -/
def scalarDigitsUptoRow : OpenClaim := { program := "ytcpoldghkiiggaa", sum := "22e818ba809c4d771789a8274e7b898f10c19a17f45475a33789f80648947906", func := "rime/rimelaw02.ScalarDigits", spec := "scalarDigits", inPlace := ["math/bits.Sub64", "math/bits.Add64"], apart := false, narrowed := true }
def ScalarDigitsUptoSaid : Prop := scalarDigitsUptoRow.holds Try.pinned (OpenSpec.upto scalarDigitsSpec)

/-- 'rimelaw02.ScalarComes', WHERE WHAT IT READS IS OF BULK AT MOST 1048576: true; the input reads as it did. -/
def scalarComesUptoRow : OpenClaim := { program := "ytcpoldghkiiggaa", sum := "22e818ba809c4d771789a8274e7b898f10c19a17f45475a33789f80648947906", func := "rime/rimelaw02.ScalarComes", spec := "scalarComes", inPlace := ["math/bits.Sub64", "math/bits.Add64"], apart := false, narrowed := true }
def ScalarComesUptoSaid : Prop := scalarComesUptoRow.holds Try.pinned (OpenSpec.upto scalarComesSpec)

/-- 'rimelaw02.ScalarOwn', WHERE WHAT IT READS IS OF BULK AT MOST 1048576: true; the input reads as it did. -/
def scalarOwnUptoRow : OpenClaim := { program := "ytcpoldghkiiggaa", sum := "22e818ba809c4d771789a8274e7b898f10c19a17f45475a33789f80648947906", func := "rime/rimelaw02.ScalarOwn", spec := "scalarOwn", inPlace := ["math/bits.Sub64", "math/bits.Add64"], apart := false, narrowed := true }
def ScalarOwnUptoSaid : Prop := scalarOwnUptoRow.holds Try.pinned (OpenSpec.upto scalarOwnSpec)

end Rows
end Go.Proofs.Ytcpoldghkiiggaa
