/-
  No cell of these rows narrows 'for every input' (looked for: loops, veiled, ifaces, maps, wideKeys, modest, calm, conditions, laid).
  DERIVED. THE GIVEN ROWS OF THIS SEAT. 6 by the template 'for every input the law returns true; each argument reads behind the call as it read before'; 0 by the template 'total and deterministic' (their statements: YtlmdhjojinkdbaaTotals.lean).
  GIVEN WITH THE SEED: the statements are not yours to turn. If you find one false, say at which input.
  Laid BY PROGRAM, IN A SANDBOX (cutbox-rows.mjs): the forced cells as the released guide's own fill.sh prints them over the translation e34aa768accc1c5a… (all of the seat's roots in one cut). By AI agents, Wed Nov 11 2026. No macro, syntax, notation, axiom, sorry.
-/
import Derived.Test.YtlmdhjojinkdbaaChecked
import GoSem.Claim
import GoSem.ClaimJoined
import GoSem.ClaimMapViews
import Derived.JoinedTies
import Derived.KernelRfl
namespace Go.Proofs.Ytlmdhjojinkdbaa
/- THE CELL 'sum', in the pinned program and in every row, IS THE sha256 OF THE DUMP (.gsa) THAT YtlmdhjojinkdbaaProg.lean LOADS. Nothing in Lean hashes anything: it is a label: what it is worth is what the hold of that sum in a sandbox is worth. -/
noncomputable def Try.pinned : Pinned := { name := "ytlmdhjojinkdbaa", sum := "e34aa768accc1c5ac5a8f3b28f94e46b458eaaed7eeb3561e50c592e3bc9cfe9", checked := Try.checked }
namespace Rows
def none {H : Type} : Left H := { results := [], args := [] }

/-- 'rimelaw11.DrbgBegins': WHATEVER THE INPUT: true; the input reads as it did. -/
def drbgBeginsSpec : ChangeSpec := { name := "drbgBegins", fn := fun _ => fun
  | [d1, d2, d3, d4, d5, d6] => { results := [.lit (.bool true)], args := [d1, d2, d3, d4, d5, d6] }
  | _ => none }
def drbgBeginsRow : OpenClaim := { program := "ytlmdhjojinkdbaa", sum := "e34aa768accc1c5ac5a8f3b28f94e46b458eaaed7eeb3561e50c592e3bc9cfe9", func := "rime/rimelaw11.DrbgBegins", spec := "drbgBegins", apart := false }
def DrbgBeginsSaid : Prop := drbgBeginsRow.holds Try.pinned (OpenSpec.ofChange drbgBeginsSpec)

/-- ITS FALSE NEIGHBOUR: 'it returns false'. Refute it at one input. -/
def drbgBeginsWrong : ChangeSpec := { name := "drbgBegins", fn := fun _ => fun
  | [d1, d2, d3, d4, d5, d6] => { results := [.lit (.bool false)], args := [d1, d2, d3, d4, d5, d6] }
  | _ => none }
def DrbgBeginsWrongFalsely : Prop := drbgBeginsRow.holds Try.pinned (OpenSpec.ofChange drbgBeginsWrong)

/-- 'rimelaw11.DrbgKeyed': WHATEVER THE INPUT: true; the input reads as it did. -/
def drbgKeyedSpec : ChangeSpec := { name := "drbgKeyed", fn := fun _ => fun
  | [d1, d2, d3, d4] => { results := [.lit (.bool true)], args := [d1, d2, d3, d4] }
  | _ => none }
def drbgKeyedRow : OpenClaim := { program := "ytlmdhjojinkdbaa", sum := "e34aa768accc1c5ac5a8f3b28f94e46b458eaaed7eeb3561e50c592e3bc9cfe9", func := "rime/rimelaw11.DrbgKeyed", spec := "drbgKeyed", apart := false }
def DrbgKeyedSaid : Prop := drbgKeyedRow.holds Try.pinned (OpenSpec.ofChange drbgKeyedSpec)

/-- ITS FALSE NEIGHBOUR: 'it returns false'. Refute it at one input. -/
def drbgKeyedWrong : ChangeSpec := { name := "drbgKeyed", fn := fun _ => fun
  | [d1, d2, d3, d4] => { results := [.lit (.bool false)], args := [d1, d2, d3, d4] }
  | _ => none }
def DrbgKeyedWrongFalsely : Prop := drbgKeyedRow.holds Try.pinned (OpenSpec.ofChange drbgKeyedWrong)

/-- 'rimelaw11.DrbgTwins': WHATEVER THE INPUT: true; the input reads as it did. -/
def drbgTwinsSpec : ChangeSpec := { name := "drbgTwins", fn := fun _ => fun
  | [d1, d2, d3] => { results := [.lit (.bool true)], args := [d1, d2, d3] }
  | _ => none }
def drbgTwinsRow : OpenClaim := { program := "ytlmdhjojinkdbaa", sum := "e34aa768accc1c5ac5a8f3b28f94e46b458eaaed7eeb3561e50c592e3bc9cfe9", func := "rime/rimelaw11.DrbgTwins", spec := "drbgTwins", apart := false }
def DrbgTwinsSaid : Prop := drbgTwinsRow.holds Try.pinned (OpenSpec.ofChange drbgTwinsSpec)

/-- ITS FALSE NEIGHBOUR: 'it returns false'. Refute it at one input. -/
def drbgTwinsWrong : ChangeSpec := { name := "drbgTwins", fn := fun _ => fun
  | [d1, d2, d3] => { results := [.lit (.bool false)], args := [d1, d2, d3] }
  | _ => none }
def DrbgTwinsWrongFalsely : Prop := drbgTwinsRow.holds Try.pinned (OpenSpec.ofChange drbgTwinsWrong)

/-- 'rimelaw11.DrbgDraws': WHATEVER THE INPUT: true; the input reads as it did. -/
def drbgDrawsSpec : ChangeSpec := { name := "drbgDraws", fn := fun _ => fun
  | [d1, d2, d3, d4] => { results := [.lit (.bool true)], args := [d1, d2, d3, d4] }
  | _ => none }
def drbgDrawsRow : OpenClaim := { program := "ytlmdhjojinkdbaa", sum := "e34aa768accc1c5ac5a8f3b28f94e46b458eaaed7eeb3561e50c592e3bc9cfe9", func := "rime/rimelaw11.DrbgDraws", spec := "drbgDraws", apart := false }
def DrbgDrawsSaid : Prop := drbgDrawsRow.holds Try.pinned (OpenSpec.ofChange drbgDrawsSpec)

/-- ITS FALSE NEIGHBOUR: 'it returns false'. Refute it at one input. -/
def drbgDrawsWrong : ChangeSpec := { name := "drbgDraws", fn := fun _ => fun
  | [d1, d2, d3, d4] => { results := [.lit (.bool false)], args := [d1, d2, d3, d4] }
  | _ => none }
def DrbgDrawsWrongFalsely : Prop := drbgDrawsRow.holds Try.pinned (OpenSpec.ofChange drbgDrawsWrong)

/-- 'rimelaw11.DrbgOwn': WHATEVER THE INPUT: true; the input reads as it did. -/
def drbgOwnSpec : ChangeSpec := { name := "drbgOwn", fn := fun _ => fun
  | [d1, d2] => { results := [.lit (.bool true)], args := [d1, d2] }
  | _ => none }
def drbgOwnRow : OpenClaim := { program := "ytlmdhjojinkdbaa", sum := "e34aa768accc1c5ac5a8f3b28f94e46b458eaaed7eeb3561e50c592e3bc9cfe9", func := "rime/rimelaw11.DrbgOwn", spec := "drbgOwn", apart := false }
def DrbgOwnSaid : Prop := drbgOwnRow.holds Try.pinned (OpenSpec.ofChange drbgOwnSpec)

/-- ITS FALSE NEIGHBOUR: 'it returns false'. Refute it at one input. -/
def drbgOwnWrong : ChangeSpec := { name := "drbgOwn", fn := fun _ => fun
  | [d1, d2] => { results := [.lit (.bool false)], args := [d1, d2] }
  | _ => none }
def DrbgOwnWrongFalsely : Prop := drbgOwnRow.holds Try.pinned (OpenSpec.ofChange drbgOwnWrong)

/-- 'rimelaw11.DrbgTapes': WHATEVER THE INPUT: true; the input reads as it did. -/
def drbgTapesSpec : ChangeSpec := { name := "drbgTapes", fn := fun _ => fun
  | [d1, d2] => { results := [.lit (.bool true)], args := [d1, d2] }
  | _ => none }
def drbgTapesRow : OpenClaim := { program := "ytlmdhjojinkdbaa", sum := "e34aa768accc1c5ac5a8f3b28f94e46b458eaaed7eeb3561e50c592e3bc9cfe9", func := "rime/rimelaw11.DrbgTapes", spec := "drbgTapes", inPlace := ["math/bits.Add64", "math/bits.Sub64"], unfollowed := true, recurses := true, apart := false }
def DrbgTapesSaid : Prop := drbgTapesRow.holds Try.pinned (OpenSpec.ofChange drbgTapesSpec)

/-- ITS FALSE NEIGHBOUR: 'it returns false'. Refute it at one input. -/
def drbgTapesWrong : ChangeSpec := { name := "drbgTapes", fn := fun _ => fun
  | [d1, d2] => { results := [.lit (.bool false)], args := [d1, d2] }
  | _ => none }
def DrbgTapesWrongFalsely : Prop := drbgTapesRow.holds Try.pinned (OpenSpec.ofChange drbgTapesWrong)

/- THE SECOND FORM. 'bulk': how many values and letters a reading holds, each counted each time it is reached (what is shared counts as often as it is met; a slice's spare places count too). A statement '..UptoSaid' is the law's where the arguments, and the package variables that the reading takes, are together of bulk at most 1048576: NARROWER than '..Said'. Prove '..Said' where nothing that the law and all that it calls make is longer than what came in: it says more and counts as full. Else prove '..UptoSaid'. A law counts once. -/
mutual
def uptoBulk {H : Type} : DataW H → Nat
  | .lit (.string bytes) => bytes.length + 1
  | .lit _ => 1
  | .nil => 1
  | .ptr d => uptoBulk d + 1
  | .slice elems spare => uptoBulkAll elems + uptoBulkAll spare + 1
  | .agg parts => uptoBulkAll parts + 1
  | .iface _ d => uptoBulk d + 1
  | .map entries => uptoBulkEntries entries + 1
  | .held _ => 1
def uptoBulkAll {H : Type} : List (DataW H) → Nat
  | [] => 0
  | d :: r => uptoBulk d + uptoBulkAll r
def uptoBulkEntries {H : Type} : List (Lit × DataW H) → Nat
  | [] => 0
  | x :: r => uptoBulkEntry x + uptoBulkEntries r
def uptoBulkEntry {H : Type} : Lit × DataW H → Nat
  | (.string bytes, d) => bytes.length + uptoBulk d + 1
  | (_, d) => uptoBulk d + 1
 end
def uptoSmall : (H : Type) → List (DataW H) → Bool := fun _ ds => decide (uptoBulkAll ds ≤ 1048576)
def OpenSpec.upto (s : _root_.Go.ChangeSpec) : _root_.Go.OpenSpec := { _root_.Go.OpenSpec.ofChange s with cond := some uptoSmall }

/-- 'rimelaw11.DrbgBegins', WHERE WHAT IT READS IS OF BULK AT MOST 1048576: true; the input reads as it did. -/
def drbgBeginsUptoRow : OpenClaim := { program := "ytlmdhjojinkdbaa", sum := "e34aa768accc1c5ac5a8f3b28f94e46b458eaaed7eeb3561e50c592e3bc9cfe9", func := "rime/rimelaw11.DrbgBegins", spec := "drbgBegins", apart := false, narrowed := true }
def DrbgBeginsUptoSaid : Prop := drbgBeginsUptoRow.holds Try.pinned (OpenSpec.upto drbgBeginsSpec)

/-- 'rimelaw11.DrbgKeyed', WHERE WHAT IT READS IS OF BULK AT MOST 1048576: true; the input reads as it did. -/
def drbgKeyedUptoRow : OpenClaim := { program := "ytlmdhjojinkdbaa", sum := "e34aa768accc1c5ac5a8f3b28f94e46b458eaaed7eeb3561e50c592e3bc9cfe9", func := "rime/rimelaw11.DrbgKeyed", spec := "drbgKeyed", apart := false, narrowed := true }
def DrbgKeyedUptoSaid : Prop := drbgKeyedUptoRow.holds Try.pinned (OpenSpec.upto drbgKeyedSpec)

/-- 'rimelaw11.DrbgTwins', WHERE WHAT IT READS IS OF BULK AT MOST 1048576: true; the input reads as it did. -/
def drbgTwinsUptoRow : OpenClaim := { program := "ytlmdhjojinkdbaa", sum := "e34aa768accc1c5ac5a8f3b28f94e46b458eaaed7eeb3561e50c592e3bc9cfe9", func := "rime/rimelaw11.DrbgTwins", spec := "drbgTwins", apart := false, narrowed := true }
def DrbgTwinsUptoSaid : Prop := drbgTwinsUptoRow.holds Try.pinned (OpenSpec.upto drbgTwinsSpec)

/-- 'rimelaw11.DrbgDraws', WHERE WHAT IT READS IS OF BULK AT MOST 1048576: true; the input reads as it did. -/
def drbgDrawsUptoRow : OpenClaim := { program := "ytlmdhjojinkdbaa", sum := "e34aa768accc1c5ac5a8f3b28f94e46b458eaaed7eeb3561e50c592e3bc9cfe9", func := "rime/rimelaw11.DrbgDraws", spec := "drbgDraws", apart := false, narrowed := true }
def DrbgDrawsUptoSaid : Prop := drbgDrawsUptoRow.holds Try.pinned (OpenSpec.upto drbgDrawsSpec)

/-- 'rimelaw11.DrbgOwn', WHERE WHAT IT READS IS OF BULK AT MOST 1048576: true; the input reads as it did. -/
def drbgOwnUptoRow : OpenClaim := { program := "ytlmdhjojinkdbaa", sum := "e34aa768accc1c5ac5a8f3b28f94e46b458eaaed7eeb3561e50c592e3bc9cfe9", func := "rime/rimelaw11.DrbgOwn", spec := "drbgOwn", apart := false, narrowed := true }
def DrbgOwnUptoSaid : Prop := drbgOwnUptoRow.holds Try.pinned (OpenSpec.upto drbgOwnSpec)

/-- 'rimelaw11.DrbgTapes', WHERE WHAT IT READS IS OF BULK AT MOST 1048576: true; the input reads as it did. -/
def drbgTapesUptoRow : OpenClaim := { program := "ytlmdhjojinkdbaa", sum := "e34aa768accc1c5ac5a8f3b28f94e46b458eaaed7eeb3561e50c592e3bc9cfe9", func := "rime/rimelaw11.DrbgTapes", spec := "drbgTapes", inPlace := ["math/bits.Add64", "math/bits.Sub64"], unfollowed := true, recurses := true, apart := false, narrowed := true }
def DrbgTapesUptoSaid : Prop := drbgTapesUptoRow.holds Try.pinned (OpenSpec.upto drbgTapesSpec)

end Rows
end Go.Proofs.Ytlmdhjojinkdbaa
