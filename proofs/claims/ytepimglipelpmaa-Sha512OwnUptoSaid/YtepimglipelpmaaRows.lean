/-
  No cell of these rows narrows 'for every input' (looked for: loops, veiled, ifaces, maps, wideKeys, modest, calm, conditions, laid).
  DERIVED. THE GIVEN ROWS OF THIS SEAT. 7 by the template 'for every input the law returns true; each argument reads behind the call as it read before'; 0 by the template 'total and deterministic' (their statements: YtepimglipelpmaaTotals.lean).
  GIVEN WITH THE SEED: the statements are not yours to turn. If you find one false, say at which input.
  Laid BY PROGRAM, IN A SANDBOX (cutbox-rows.mjs): the forced cells as the released guide's own fill.sh prints them over the translation e56d9eeb47b733f5… (all of the seat's roots in one cut). By AI agents, Wed Nov 11 2026. No macro, syntax, notation, axiom, sorry.
-/
import Derived.Test.YtepimglipelpmaaChecked
import GoSem.Claim
import GoSem.ClaimJoined
import GoSem.ClaimMapViews
import Derived.JoinedTies
import Derived.KernelRfl
namespace Go.Proofs.Ytepimglipelpmaa
/- THE CELL 'sum', in the pinned program and in every row, IS THE sha256 OF THE DUMP (.gsa) THAT YtepimglipelpmaaProg.lean LOADS. Nothing in Lean hashes anything: it is a label: what it is worth is what the hold of that sum in a sandbox is worth. -/
noncomputable def Try.pinned : Pinned := { name := "ytepimglipelpmaa", sum := "e56d9eeb47b733f5ce0a91f08043a10e27fa323e7ffd6bba06bb2b23ffb48157", checked := Try.checked }
namespace Rows
def none {H : Type} : Left H := { results := [], args := [] }

/-- 'rimelaw03.Sha512Sums': WHATEVER THE INPUT: true; the input reads as it did. -/
def sha512SumsSpec : ChangeSpec := { name := "sha512Sums", fn := fun _ => fun
  | [d1, d2] => { results := [.lit (.bool true)], args := [d1, d2] }
  | _ => none }
def sha512SumsRow : OpenClaim := { program := "ytepimglipelpmaa", sum := "e56d9eeb47b733f5ce0a91f08043a10e27fa323e7ffd6bba06bb2b23ffb48157", func := "rime/rimelaw03.Sha512Sums", spec := "sha512Sums", apart := false }
def Sha512SumsSaid : Prop := sha512SumsRow.holds Try.pinned (OpenSpec.ofChange sha512SumsSpec)

/-- ITS FALSE NEIGHBOUR: 'it returns false'. Refute it at one input. -/
def sha512SumsWrong : ChangeSpec := { name := "sha512Sums", fn := fun _ => fun
  | [d1, d2] => { results := [.lit (.bool false)], args := [d1, d2] }
  | _ => none }
def Sha512SumsWrongFalsely : Prop := sha512SumsRow.holds Try.pinned (OpenSpec.ofChange sha512SumsWrong)

/-- 'rimelaw03.Sha512Blocks': WHATEVER THE INPUT: true; the input reads as it did. -/
def sha512BlocksSpec : ChangeSpec := { name := "sha512Blocks", fn := fun _ => fun
  | [d1, d2, d3] => { results := [.lit (.bool true)], args := [d1, d2, d3] }
  | _ => none }
def sha512BlocksRow : OpenClaim := { program := "ytepimglipelpmaa", sum := "e56d9eeb47b733f5ce0a91f08043a10e27fa323e7ffd6bba06bb2b23ffb48157", func := "rime/rimelaw03.Sha512Blocks", spec := "sha512Blocks", apart := false }
def Sha512BlocksSaid : Prop := sha512BlocksRow.holds Try.pinned (OpenSpec.ofChange sha512BlocksSpec)

/-- ITS FALSE NEIGHBOUR: 'it returns false'. Refute it at one input. -/
def sha512BlocksWrong : ChangeSpec := { name := "sha512Blocks", fn := fun _ => fun
  | [d1, d2, d3] => { results := [.lit (.bool false)], args := [d1, d2, d3] }
  | _ => none }
def Sha512BlocksWrongFalsely : Prop := sha512BlocksRow.holds Try.pinned (OpenSpec.ofChange sha512BlocksWrong)

/-- 'rimelaw03.Sha512Resumes': WHATEVER THE INPUT: true; the input reads as it did. -/
def sha512ResumesSpec : ChangeSpec := { name := "sha512Resumes", fn := fun _ => fun
  | [d1, d2] => { results := [.lit (.bool true)], args := [d1, d2] }
  | _ => none }
def sha512ResumesRow : OpenClaim := { program := "ytepimglipelpmaa", sum := "e56d9eeb47b733f5ce0a91f08043a10e27fa323e7ffd6bba06bb2b23ffb48157", func := "rime/rimelaw03.Sha512Resumes", spec := "sha512Resumes", apart := false }
def Sha512ResumesSaid : Prop := sha512ResumesRow.holds Try.pinned (OpenSpec.ofChange sha512ResumesSpec)

/-- ITS FALSE NEIGHBOUR: 'it returns false'. Refute it at one input. -/
def sha512ResumesWrong : ChangeSpec := { name := "sha512Resumes", fn := fun _ => fun
  | [d1, d2] => { results := [.lit (.bool false)], args := [d1, d2] }
  | _ => none }
def Sha512ResumesWrongFalsely : Prop := sha512ResumesRow.holds Try.pinned (OpenSpec.ofChange sha512ResumesWrong)

/-- 'rimelaw03.Sha512Chain': WHATEVER THE INPUT: true; the input reads as it did. -/
def sha512ChainSpec : ChangeSpec := { name := "sha512Chain", fn := fun _ => fun
  | [d] => { results := [.lit (.bool true)], args := [d] }
  | _ => none }
def sha512ChainRow : OpenClaim := { program := "ytepimglipelpmaa", sum := "e56d9eeb47b733f5ce0a91f08043a10e27fa323e7ffd6bba06bb2b23ffb48157", func := "rime/rimelaw03.Sha512Chain", spec := "sha512Chain", apart := false }
def Sha512ChainSaid : Prop := sha512ChainRow.holds Try.pinned (OpenSpec.ofChange sha512ChainSpec)

/-- ITS FALSE NEIGHBOUR: 'it returns false'. Refute it at one input. -/
def sha512ChainWrong : ChangeSpec := { name := "sha512Chain", fn := fun _ => fun
  | [d] => { results := [.lit (.bool false)], args := [d] }
  | _ => none }
def Sha512ChainWrongFalsely : Prop := sha512ChainRow.holds Try.pinned (OpenSpec.ofChange sha512ChainWrong)

/-- 'rimelaw03.Sha512Pieces': WHATEVER THE INPUT: true; the input reads as it did. -/
def sha512PiecesSpec : ChangeSpec := { name := "sha512Pieces", fn := fun _ => fun
  | [d1, d2] => { results := [.lit (.bool true)], args := [d1, d2] }
  | _ => none }
def sha512PiecesRow : OpenClaim := { program := "ytepimglipelpmaa", sum := "e56d9eeb47b733f5ce0a91f08043a10e27fa323e7ffd6bba06bb2b23ffb48157", func := "rime/rimelaw03.Sha512Pieces", spec := "sha512Pieces", apart := false }
def Sha512PiecesSaid : Prop := sha512PiecesRow.holds Try.pinned (OpenSpec.ofChange sha512PiecesSpec)

/-- ITS FALSE NEIGHBOUR: 'it returns false'. Refute it at one input. -/
def sha512PiecesWrong : ChangeSpec := { name := "sha512Pieces", fn := fun _ => fun
  | [d1, d2] => { results := [.lit (.bool false)], args := [d1, d2] }
  | _ => none }
def Sha512PiecesWrongFalsely : Prop := sha512PiecesRow.holds Try.pinned (OpenSpec.ofChange sha512PiecesWrong)

/-- 'rimelaw03.Sha512Hashes': WHATEVER THE INPUT: true; the input reads as it did. -/
def sha512HashesSpec : ChangeSpec := { name := "sha512Hashes", fn := fun _ => fun
  | [d] => { results := [.lit (.bool true)], args := [d] }
  | _ => none }
def sha512HashesRow : OpenClaim := { program := "ytepimglipelpmaa", sum := "e56d9eeb47b733f5ce0a91f08043a10e27fa323e7ffd6bba06bb2b23ffb48157", func := "rime/rimelaw03.Sha512Hashes", spec := "sha512Hashes", apart := false }
def Sha512HashesSaid : Prop := sha512HashesRow.holds Try.pinned (OpenSpec.ofChange sha512HashesSpec)

/-- ITS FALSE NEIGHBOUR: 'it returns false'. Refute it at one input. -/
def sha512HashesWrong : ChangeSpec := { name := "sha512Hashes", fn := fun _ => fun
  | [d] => { results := [.lit (.bool false)], args := [d] }
  | _ => none }
def Sha512HashesWrongFalsely : Prop := sha512HashesRow.holds Try.pinned (OpenSpec.ofChange sha512HashesWrong)

/-- 'rimelaw03.Sha512Own': WHATEVER THE INPUT: true; the input reads as it did. -/
def sha512OwnSpec : ChangeSpec := { name := "sha512Own", fn := fun _ => fun
  | [d1, d2] => { results := [.lit (.bool true)], args := [d1, d2] }
  | _ => none }
def sha512OwnRow : OpenClaim := { program := "ytepimglipelpmaa", sum := "e56d9eeb47b733f5ce0a91f08043a10e27fa323e7ffd6bba06bb2b23ffb48157", func := "rime/rimelaw03.Sha512Own", spec := "sha512Own", apart := false }
def Sha512OwnSaid : Prop := sha512OwnRow.holds Try.pinned (OpenSpec.ofChange sha512OwnSpec)

/-- ITS FALSE NEIGHBOUR: 'it returns false'. Refute it at one input. -/
def sha512OwnWrong : ChangeSpec := { name := "sha512Own", fn := fun _ => fun
  | [d1, d2] => { results := [.lit (.bool false)], args := [d1, d2] }
  | _ => none }
def Sha512OwnWrongFalsely : Prop := sha512OwnRow.holds Try.pinned (OpenSpec.ofChange sha512OwnWrong)

/- THE SECOND FORM. 'bulk': how many values and letters a reading holds, each counted each time it is reached (what is shared counts as often as it is met; a slice's spare places count too). A statement '..UptoSaid' is the law's where the arguments, and the package variables that the reading takes, are together of bulk at most 1048576: NARROWER than '..Said'. Prove '..Said' where nothing that the law and all that it calls make is longer than what came in: it says more and counts as full. Else prove '..UptoSaid'. A law counts once. -/
mutual
def uptoBulk {H : Type} : DataW H → Nat
  | .lit (.string bytes) => bytes.length + 1
  | .lit _ => 1
  | .nil => 1
  | .ptr d => uptoBulk d + 1
  | .slice elems spare => uptoBulkAll elems + uptoBulkAll spare + 1
  | .agg parts => uptoBulkAll parts + 1
  | .iface _ d => uptoBulk d + 1
  | .map entries => uptoBulkEntries entries + 1
  | .held _ => 1
def uptoBulkAll {H : Type} : List (DataW H) → Nat
  | [] => 0
  | d :: r => uptoBulk d + uptoBulkAll r
def uptoBulkEntries {H : Type} : List (Lit × DataW H) → Nat
  | [] => 0
  | x :: r => uptoBulkEntry x + uptoBulkEntries r
def uptoBulkEntry {H : Type} : Lit × DataW H → Nat
  | (.string bytes, d) => bytes.length + uptoBulk d + 1
  | (_, d) => uptoBulk d + 1
 end
def uptoSmall : (H : Type) → List (DataW H) → Bool := fun _ ds => decide (uptoBulkAll ds ≤ 1048576)
def OpenSpec.upto (s : _root_.Go.ChangeSpec) : _root_.Go.OpenSpec := { _root_.Go.OpenSpec.ofChange s with cond := some uptoSmall }

/-- 'rimelaw03.Sha512Sums', WHERE WHAT IT READS IS OF BULK AT MOST 1048576: true; the input reads as it did. -/
def sha512SumsUptoRow : OpenClaim := { program := "ytepimglipelpmaa", sum := "e56d9eeb47b733f5ce0a91f08043a10e27fa323e7ffd6bba06bb2b23ffb48157", func := "rime/rimelaw03.Sha512Sums", spec := "sha512Sums", apart := false, narrowed := true }
def Sha512SumsUptoSaid : Prop := sha512SumsUptoRow.holds Try.pinned (OpenSpec.upto sha512SumsSpec)

/-- 'rimelaw03.Sha512Blocks', WHERE WHAT IT READS IS OF BULK AT MOST 1048576: true; the input reads as it did. -/
def sha512BlocksUptoRow : OpenClaim := { program := "ytepimglipelpmaa", sum := "e56d9eeb47b733f5ce0a91f08043a10e27fa323e7ffd6bba06bb2b23ffb48157", func := "rime/rimelaw03.Sha512Blocks", spec := "sha512Blocks", apart := false, narrowed := true }
def Sha512BlocksUptoSaid : Prop := sha512BlocksUptoRow.holds Try.pinned (OpenSpec.upto sha512BlocksSpec)

/-- 'rimelaw03.Sha512Resumes', WHERE WHAT IT READS IS OF BULK AT MOST 1048576: true; the input reads as it did. -/
def sha512ResumesUptoRow : OpenClaim := { program := "ytepimglipelpmaa", sum := "e56d9eeb47b733f5ce0a91f08043a10e27fa323e7ffd6bba06bb2b23ffb48157", func := "rime/rimelaw03.Sha512Resumes", spec := "sha512Resumes", apart := false, narrowed := true }
def Sha512ResumesUptoSaid : Prop := sha512ResumesUptoRow.holds Try.pinned (OpenSpec.upto sha512ResumesSpec)

/-- 'rimelaw03.Sha512Chain', WHERE WHAT IT READS IS OF BULK AT MOST 1048576: true; the input reads as it did. -/
def sha512ChainUptoRow : OpenClaim := { program := "ytepimglipelpmaa", sum := "e56d9eeb47b733f5ce0a91f08043a10e27fa323e7ffd6bba06bb2b23ffb48157", func := "rime/rimelaw03.Sha512Chain", spec := "sha512Chain", apart := false, narrowed := true }
def Sha512ChainUptoSaid : Prop := sha512ChainUptoRow.holds Try.pinned (OpenSpec.upto sha512ChainSpec)

/-- 'rimelaw03.Sha512Pieces', WHERE WHAT IT READS IS OF BULK AT MOST 1048576: true; the input reads as it did. -/
def sha512PiecesUptoRow : OpenClaim := { program := "ytepimglipelpmaa", sum := "e56d9eeb47b733f5ce0a91f08043a10e27fa323e7ffd6bba06bb2b23ffb48157", func := "rime/rimelaw03.Sha512Pieces", spec := "sha512Pieces", apart := false, narrowed := true }
def Sha512PiecesUptoSaid : Prop := sha512PiecesUptoRow.holds Try.pinned (OpenSpec.upto sha512PiecesSpec)

/-- 'rimelaw03.Sha512Hashes', WHERE WHAT IT READS IS OF BULK AT MOST 1048576: true; the input reads as it did. -/
def sha512HashesUptoRow : OpenClaim := { program := "ytepimglipelpmaa", sum := "e56d9eeb47b733f5ce0a91f08043a10e27fa323e7ffd6bba06bb2b23ffb48157", func := "rime/rimelaw03.Sha512Hashes", spec := "sha512Hashes", apart := false, narrowed := true }
def Sha512HashesUptoSaid : Prop := sha512HashesUptoRow.holds Try.pinned (OpenSpec.upto sha512HashesSpec)

/-- 'rimelaw03.Sha512Own', WHERE WHAT IT READS IS OF BULK AT MOST 1048576: true; the input reads as it did. -/
def sha512OwnUptoRow : OpenClaim := { program := "ytepimglipelpmaa", sum := "e56d9eeb47b733f5ce0a91f08043a10e27fa323e7ffd6bba06bb2b23ffb48157", func := "rime/rimelaw03.Sha512Own", spec := "sha512Own", apart := false, narrowed := true }
def Sha512OwnUptoSaid : Prop := sha512OwnUptoRow.holds Try.pinned (OpenSpec.upto sha512OwnSpec)

end Rows
end Go.Proofs.Ytepimglipelpmaa
