/-
  No cell of these rows narrows 'for every input' (looked for: loops, veiled, ifaces, maps, wideKeys, modest, calm, conditions, laid).
  DERIVED. THE GIVEN ROWS OF THIS SEAT. 7 by the template 'for every input the law returns true; each argument reads behind the call as it read before'; 0 by the template 'total and deterministic' (their statements: YtodiojpakfjehaaTotals.lean).
  GIVEN WITH THE SEED: the statements are not yours to turn. If you find one false, say at which input.
  Laid BY PROGRAM, IN A SANDBOX (cutbox-rows.mjs): the forced cells as the released guide's own fill.sh prints them over the translation c703ec0786d027da… (all of the seat's roots in one cut). By AI agents, Wed Nov 11 2026. No macro, syntax, notation, axiom, sorry.
-/
import Derived.Test.YtodiojpakfjehaaChecked
import GoSem.Claim
import GoSem.ClaimJoined
import GoSem.ClaimMapViews
import Derived.JoinedTies
import Derived.KernelRfl
namespace Go.Proofs.Ytodiojpakfjehaa
/- THE CELL 'sum', in the pinned program and in every row, IS THE sha256 OF THE DUMP (.gsa) THAT YtodiojpakfjehaaProg.lean LOADS. Nothing in Lean hashes anything: it is a label: what it is worth is what the hold of that sum in a sandbox is worth. -/
noncomputable def Try.pinned : Pinned := { name := "ytodiojpakfjehaa", sum := "c703ec0786d027da1ab6e178ce954c84da93a646b9d6f863b48433f7641e844a", checked := Try.checked }
namespace Rows
def none {H : Type} : Left H := { results := [], args := [] }

/-- 'rimelaw04.EdwardsForm': WHATEVER THE INPUT: true; the input reads as it did. -/
def edwardsFormSpec : ChangeSpec := { name := "edwardsForm", fn := fun _ => fun
  | [d1, d2, d3] => { results := [.lit (.bool true)], args := [d1, d2, d3] }
  | _ => none }
def edwardsFormRow : OpenClaim := { program := "ytodiojpakfjehaa", sum := "c703ec0786d027da1ab6e178ce954c84da93a646b9d6f863b48433f7641e844a", func := "rime/rimelaw04.EdwardsForm", spec := "edwardsForm", inPlace := ["math/bits.Add64"], unfollowed := true, recurses := true, apart := false }
def EdwardsFormSaid : Prop := edwardsFormRow.holds Try.pinned (OpenSpec.ofChange edwardsFormSpec)

/-- ITS FALSE NEIGHBOUR: 'it returns false'. Refute it at one input. -/
def edwardsFormWrong : ChangeSpec := { name := "edwardsForm", fn := fun _ => fun
  | [d1, d2, d3] => { results := [.lit (.bool false)], args := [d1, d2, d3] }
  | _ => none }
def EdwardsFormWrongFalsely : Prop := edwardsFormRow.holds Try.pinned (OpenSpec.ofChange edwardsFormWrong)

/-- 'rimelaw04.EdwardsScalars': WHATEVER THE INPUT: true; the input reads as it did. -/
def edwardsScalarsSpec : ChangeSpec := { name := "edwardsScalars", fn := fun _ => fun
  | [d1, d2, d3, d4] => { results := [.lit (.bool true)], args := [d1, d2, d3, d4] }
  | _ => none }
def edwardsScalarsRow : OpenClaim := { program := "ytodiojpakfjehaa", sum := "c703ec0786d027da1ab6e178ce954c84da93a646b9d6f863b48433f7641e844a", func := "rime/rimelaw04.EdwardsScalars", spec := "edwardsScalars", inPlace := ["math/bits.Add64"], unfollowed := true, recurses := true, apart := false }
def EdwardsScalarsSaid : Prop := edwardsScalarsRow.holds Try.pinned (OpenSpec.ofChange edwardsScalarsSpec)

/-- ITS FALSE NEIGHBOUR: 'it returns false'. Refute it at one input. -/
def edwardsScalarsWrong : ChangeSpec := { name := "edwardsScalars", fn := fun _ => fun
  | [d1, d2, d3, d4] => { results := [.lit (.bool false)], args := [d1, d2, d3, d4] }
  | _ => none }
def EdwardsScalarsWrongFalsely : Prop := edwardsScalarsRow.holds Try.pinned (OpenSpec.ofChange edwardsScalarsWrong)

/-- 'rimelaw04.EdwardsOwn': WHATEVER THE INPUT: true; the input reads as it did. -/
def edwardsOwnSpec : ChangeSpec := { name := "edwardsOwn", fn := fun _ => fun
  | [d1, d2] => { results := [.lit (.bool true)], args := [d1, d2] }
  | _ => none }
def edwardsOwnRow : OpenClaim := { program := "ytodiojpakfjehaa", sum := "c703ec0786d027da1ab6e178ce954c84da93a646b9d6f863b48433f7641e844a", func := "rime/rimelaw04.EdwardsOwn", spec := "edwardsOwn", inPlace := ["math/bits.Add64"], unfollowed := true, recurses := true, apart := false }
def EdwardsOwnSaid : Prop := edwardsOwnRow.holds Try.pinned (OpenSpec.ofChange edwardsOwnSpec)

/-- ITS FALSE NEIGHBOUR: 'it returns false'. Refute it at one input. -/
def edwardsOwnWrong : ChangeSpec := { name := "edwardsOwn", fn := fun _ => fun
  | [d1, d2] => { results := [.lit (.bool false)], args := [d1, d2] }
  | _ => none }
def EdwardsOwnWrongFalsely : Prop := edwardsOwnRow.holds Try.pinned (OpenSpec.ofChange edwardsOwnWrong)

/-- 'rimelaw04.EdwardsMulti': WHATEVER THE INPUT: true; the input reads as it did. -/
def edwardsMultiSpec : ChangeSpec := { name := "edwardsMulti", fn := fun _ => fun
  | [d1, d2] => { results := [.lit (.bool true)], args := [d1, d2] }
  | _ => none }
def edwardsMultiRow : OpenClaim := { program := "ytodiojpakfjehaa", sum := "c703ec0786d027da1ab6e178ce954c84da93a646b9d6f863b48433f7641e844a", func := "rime/rimelaw04.EdwardsMulti", spec := "edwardsMulti", inPlace := ["math/bits.Add64"], unfollowed := true, recurses := true, apart := false }
def EdwardsMultiSaid : Prop := edwardsMultiRow.holds Try.pinned (OpenSpec.ofChange edwardsMultiSpec)

/-- ITS FALSE NEIGHBOUR: 'it returns false'. Refute it at one input. -/
def edwardsMultiWrong : ChangeSpec := { name := "edwardsMulti", fn := fun _ => fun
  | [d1, d2] => { results := [.lit (.bool false)], args := [d1, d2] }
  | _ => none }
def EdwardsMultiWrongFalsely : Prop := edwardsMultiRow.holds Try.pinned (OpenSpec.ofChange edwardsMultiWrong)

/-- 'rimelaw04.EdwardsGroup': WHATEVER THE INPUT: true; the input reads as it did. -/
def edwardsGroupSpec : ChangeSpec := { name := "edwardsGroup", fn := fun _ => fun
  | [d1, d2, d3] => { results := [.lit (.bool true)], args := [d1, d2, d3] }
  | _ => none }
def edwardsGroupRow : OpenClaim := { program := "ytodiojpakfjehaa", sum := "c703ec0786d027da1ab6e178ce954c84da93a646b9d6f863b48433f7641e844a", func := "rime/rimelaw04.EdwardsGroup", spec := "edwardsGroup", inPlace := ["math/bits.Add64"], unfollowed := true, recurses := true, apart := false }
def EdwardsGroupSaid : Prop := edwardsGroupRow.holds Try.pinned (OpenSpec.ofChange edwardsGroupSpec)

/-- ITS FALSE NEIGHBOUR: 'it returns false'. Refute it at one input. -/
def edwardsGroupWrong : ChangeSpec := { name := "edwardsGroup", fn := fun _ => fun
  | [d1, d2, d3] => { results := [.lit (.bool false)], args := [d1, d2, d3] }
  | _ => none }
def EdwardsGroupWrongFalsely : Prop := edwardsGroupRow.holds Try.pinned (OpenSpec.ofChange edwardsGroupWrong)

/-- 'rimelaw04.EdwardsTwo': WHATEVER THE INPUT: true; the input reads as it did. -/
def edwardsTwoSpec : ChangeSpec := { name := "edwardsTwo", fn := fun _ => fun
  | [d1, d2, d3] => { results := [.lit (.bool true)], args := [d1, d2, d3] }
  | _ => none }
def edwardsTwoRow : OpenClaim := { program := "ytodiojpakfjehaa", sum := "c703ec0786d027da1ab6e178ce954c84da93a646b9d6f863b48433f7641e844a", func := "rime/rimelaw04.EdwardsTwo", spec := "edwardsTwo", inPlace := ["math/bits.Add64"], unfollowed := true, recurses := true, apart := false }
def EdwardsTwoSaid : Prop := edwardsTwoRow.holds Try.pinned (OpenSpec.ofChange edwardsTwoSpec)

/-- ITS FALSE NEIGHBOUR: 'it returns false'. Refute it at one input. -/
def edwardsTwoWrong : ChangeSpec := { name := "edwardsTwo", fn := fun _ => fun
  | [d1, d2, d3] => { results := [.lit (.bool false)], args := [d1, d2, d3] }
  | _ => none }
def EdwardsTwoWrongFalsely : Prop := edwardsTwoRow.holds Try.pinned (OpenSpec.ofChange edwardsTwoWrong)

/-- 'rimelaw04.EdwardsMontgomery': WHATEVER THE INPUT: true; the input reads as it did. -/
def edwardsMontgomerySpec : ChangeSpec := { name := "edwardsMontgomery", fn := fun _ => fun
  | [d1, d2, d3] => { results := [.lit (.bool true)], args := [d1, d2, d3] }
  | _ => none }
def edwardsMontgomeryRow : OpenClaim := { program := "ytodiojpakfjehaa", sum := "c703ec0786d027da1ab6e178ce954c84da93a646b9d6f863b48433f7641e844a", func := "rime/rimelaw04.EdwardsMontgomery", spec := "edwardsMontgomery", inPlace := ["math/bits.Add64"], unfollowed := true, recurses := true, apart := false }
def EdwardsMontgomerySaid : Prop := edwardsMontgomeryRow.holds Try.pinned (OpenSpec.ofChange edwardsMontgomerySpec)

/-- ITS FALSE NEIGHBOUR: 'it returns false'. Refute it at one input. -/
def edwardsMontgomeryWrong : ChangeSpec := { name := "edwardsMontgomery", fn := fun _ => fun
  | [d1, d2, d3] => { results := [.lit (.bool false)], args := [d1, d2, d3] }
  | _ => none }
def EdwardsMontgomeryWrongFalsely : Prop := edwardsMontgomeryRow.holds Try.pinned (OpenSpec.ofChange edwardsMontgomeryWrong)

/- THE SECOND FORM. 'bulk': how many values and letters a reading holds, each counted each time it is reached (what is shared counts as often as it is met; a slice's spare places count too). A statement '..UptoSaid' is the law's where the arguments, and the package variables that the reading takes, are together of bulk at most 1048576: NARROWER than '..Said'. Prove '..Said' where nothing that the law and all that it calls make is longer than what came in: it says more and counts as full. Else prove '..UptoSaid'. A law counts once. -/
mutual
def uptoBulk {H : Type} : DataW H → Nat
  | .lit (.string bytes) => bytes.length + 1
  | .lit _ => 1
  | .nil => 1
  | .ptr d => uptoBulk d + 1
  | .slice elems spare => uptoBulkAll elems + uptoBulkAll spare + 1
  | .agg parts => uptoBulkAll parts + 1
  | .iface _ d => uptoBulk d + 1
  | .map entries => uptoBulkEntries entries + 1
  | .held _ => 1
def uptoBulkAll {H : Type} : List (DataW H) → Nat
  | [] => 0
  | d :: r => uptoBulk d + uptoBulkAll r
def uptoBulkEntries {H : Type} : List (Lit × DataW H) → Nat
  | [] => 0
  | x :: r => uptoBulkEntry x + uptoBulkEntries r
def uptoBulkEntry {H : Type} : Lit × DataW H → Nat
  | (.string bytes, d) => bytes.length + uptoBulk d + 1
  | (_, d) => uptoBulk d + 1
 end
def uptoSmall : (H : Type) → List (DataW H) → Bool := fun _ ds => decide (uptoBulkAll ds ≤ 1048576)
def OpenSpec.upto (s : _root_.Go.ChangeSpec) : _root_.Go.OpenSpec := { _root_.Go.OpenSpec.ofChange s with cond := some uptoSmall }

/-- 'rimelaw04.EdwardsForm', WHERE WHAT IT READS IS OF BULK AT MOST 1048576: true; the input reads as it did. -/
def edwardsFormUptoRow : OpenClaim := { program := "ytodiojpakfjehaa", sum := "c703ec0786d027da1ab6e178ce954c84da93a646b9d6f863b48433f7641e844a", func := "rime/rimelaw04.EdwardsForm", spec := "edwardsForm", inPlace := ["math/bits.Add64"], unfollowed := true, recurses := true, apart := false, narrowed := true }
def EdwardsFormUptoSaid : Prop := edwardsFormUptoRow.holds Try.pinned (OpenSpec.upto edwardsFormSpec)

/-- 'rimelaw04.EdwardsScalars', WHERE WHAT IT READS IS OF BULK AT MOST 1048576: true; the input reads as it did. -/
def edwardsScalarsUptoRow : OpenClaim := { program := "ytodiojpakfjehaa", sum := "c703ec0786d027da1ab6e178ce954c84da93a646b9d6f863b48433f7641e844a", func := "rime/rimelaw04.EdwardsScalars", spec := "edwardsScalars", inPlace := ["math/bits.Add64"], unfollowed := true, recurses := true, apart := false, narrowed := true }
def EdwardsScalarsUptoSaid : Prop := edwardsScalarsUptoRow.holds Try.pinned (OpenSpec.upto edwardsScalarsSpec)

/-- 'rimelaw04.EdwardsOwn', WHERE WHAT IT READS IS OF BULK AT MOST 1048576: true; the input reads as it did. -/
def edwardsOwnUptoRow : OpenClaim := { program := "ytodiojpakfjehaa", sum := "c703ec0786d027da1ab6e178ce954c84da93a646b9d6f863b48433f7641e844a", func := "rime/rimelaw04.EdwardsOwn", spec := "edwardsOwn", inPlace := ["math/bits.Add64"], unfollowed := true, recurses := true, apart := false, narrowed := true }
def EdwardsOwnUptoSaid : Prop := edwardsOwnUptoRow.holds Try.pinned (OpenSpec.upto edwardsOwnSpec)

/-- 'rimelaw04.EdwardsMulti', WHERE WHAT IT READS IS OF BULK AT MOST 1048576: true; the input reads as it did. -/
def edwardsMultiUptoRow : OpenClaim := { program := "ytodiojpakfjehaa", sum := "c703ec0786d027da1ab6e178ce954c84da93a646b9d6f863b48433f7641e844a", func := "rime/rimelaw04.EdwardsMulti", spec := "edwardsMulti", inPlace := ["math/bits.Add64"], unfollowed := true, recurses := true, apart := false, narrowed := true }
def EdwardsMultiUptoSaid : Prop := edwardsMultiUptoRow.holds Try.pinned (OpenSpec.upto edwardsMultiSpec)

/-- 'rimelaw04.EdwardsGroup', WHERE WHAT IT READS IS OF BULK AT MOST 1048576: true; the input reads as it did. -/
def edwardsGroupUptoRow : OpenClaim := { program := "ytodiojpakfjehaa", sum := "c703ec0786d027da1ab6e178ce954c84da93a646b9d6f863b48433f7641e844a", func := "rime/rimelaw04.EdwardsGroup", spec := "edwardsGroup", inPlace := ["math/bits.Add64"], unfollowed := true, recurses := true, apart := false, narrowed := true }
def EdwardsGroupUptoSaid : Prop := edwardsGroupUptoRow.holds Try.pinned (OpenSpec.upto edwardsGroupSpec)

/-- 'rimelaw04.EdwardsTwo', WHERE WHAT IT READS IS OF BULK AT MOST 1048576: true; the input reads as it did. -/
def edwardsTwoUptoRow : OpenClaim := { program := "ytodiojpakfjehaa", sum := "c703ec0786d027da1ab6e178ce954c84da93a646b9d6f863b48433f7641e844a", func := "rime/rimelaw04.EdwardsTwo", spec := "edwardsTwo", inPlace := ["math/bits.Add64"], unfollowed := true, recurses := true, apart := false, narrowed := true }
def EdwardsTwoUptoSaid : Prop := edwardsTwoUptoRow.holds Try.pinned (OpenSpec.upto edwardsTwoSpec)

/-- 'rimelaw04.EdwardsMontgomery', WHERE WHAT IT READS IS OF BULK AT MOST 1048576: true; the input reads as it did. -/
def edwardsMontgomeryUptoRow : OpenClaim := { program := "ytodiojpakfjehaa", sum := "c703ec0786d027da1ab6e178ce954c84da93a646b9d6f863b48433f7641e844a", func := "rime/rimelaw04.EdwardsMontgomery", spec := "edwardsMontgomery", inPlace := ["math/bits.Add64"], unfollowed := true, recurses := true, apart := false, narrowed := true }
def EdwardsMontgomeryUptoSaid : Prop := edwardsMontgomeryUptoRow.holds Try.pinned (OpenSpec.upto edwardsMontgomerySpec)

end Rows
end Go.Proofs.Ytodiojpakfjehaa
