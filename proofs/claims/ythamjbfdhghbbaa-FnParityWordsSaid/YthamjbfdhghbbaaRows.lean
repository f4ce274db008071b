/-
  No cell of these rows narrows 'for every input' (looked for: loops, veiled, ifaces, maps, wideKeys, modest, calm, conditions, laid).
  DERIVED. THE GIVEN ROWS OF THIS SEAT. 6 by the template 'for every input the law returns true; each argument reads behind the call as it read before'; 0 by the template 'total and deterministic' (their statements: YthamjbfdhghbbaaTotals.lean).
  GIVEN WITH THE SEED: the statements are not yours to turn. If you find one false, say at which input.
  Laid BY PROGRAM, IN A SANDBOX (cutbox-rows.mjs): the forced cells as the released guide's own fill.sh prints them over the translation 467a4eb393165a45… (all of the seat's roots in one cut). By AI agents, Wed Nov 11 2026. No macro, syntax, notation, axiom, sorry.
-/
import Derived.Test.YthamjbfdhghbbaaChecked
import GoSem.Claim
import GoSem.ClaimJoined
import GoSem.ClaimMapViews
import Derived.JoinedTies
import Derived.KernelRfl
namespace Go.Proofs.Ythamjbfdhghbbaa
/- THE CELL 'sum', in the pinned program and in every row, IS THE sha256 OF THE DUMP (.gsa) THAT YthamjbfdhghbbaaProg.lean LOADS. Nothing in Lean hashes anything: it is a label: what it is worth is what the hold of that sum in a sandbox is worth. -/
noncomputable def Try.pinned : Pinned := { name := "ythamjbfdhghbbaa", sum := "467a4eb393165a457b57c4ea19533e6c2c5dc5389217f0947392c629cc512407", checked := Try.checked }
namespace Rows
def none {H : Type} : Left H := { results := [], args := [] }

/-- 'laws.FnSumsOfDigitsRun': WHATEVER THE INPUT: true; the input reads as it did. -/
def fnSumsOfDigitsRunSpec : ChangeSpec := { name := "fnSumsOfDigitsRun", fn := fun _ => fun
  | [d1, d2] => { results := [.lit (.bool true)], args := [d1, d2] }
  | _ => none }
def fnSumsOfDigitsRunRow : OpenClaim := { program := "ythamjbfdhghbbaa", sum := "467a4eb393165a457b57c4ea19533e6c2c5dc5389217f0947392c629cc512407", func := "loop.example/g01151/laws.FnSumsOfDigitsRun", spec := "fnSumsOfDigitsRun", unfollowed := true, recurses := true, apart := false }
def FnSumsOfDigitsRunSaid : Prop := fnSumsOfDigitsRunRow.holds Try.pinned (OpenSpec.ofChange fnSumsOfDigitsRunSpec)

/-- ITS FALSE NEIGHBOUR: 'it returns false'. Refute it at one input. -/
def fnSumsOfDigitsRunWrong : ChangeSpec := { name := "fnSumsOfDigitsRun", fn := fun _ => fun
  | [d1, d2] => { results := [.lit (.bool false)], args := [d1, d2] }
  | _ => none }
def FnSumsOfDigitsRunWrongFalsely : Prop := fnSumsOfDigitsRunRow.holds Try.pinned (OpenSpec.ofChange fnSumsOfDigitsRunWrong)

/-- 'laws.FnParityWords': WHATEVER THE INPUT: true; the input reads as it did. -/
def fnParityWordsSpec : ChangeSpec := { name := "fnParityWords", fn := fun _ => fun
  | [d1, d2] => { results := [.lit (.bool true)], args := [d1, d2] }
  | _ => none }
def fnParityWordsRow : OpenClaim := { program := "ythamjbfdhghbbaa", sum := "467a4eb393165a457b57c4ea19533e6c2c5dc5389217f0947392c629cc512407", func := "loop.example/g01151/laws.FnParityWords", spec := "fnParityWords", recurses := true, apart := false }
def FnParityWordsSaid : Prop := fnParityWordsRow.holds Try.pinned (OpenSpec.ofChange fnParityWordsSpec)

/-- ITS FALSE NEIGHBOUR: 'it returns false'. Refute it at one input. -/
def fnParityWordsWrong : ChangeSpec := { name := "fnParityWords", fn := fun _ => fun
  | [d1, d2] => { results := [.lit (.bool false)], args := [d1, d2] }
  | _ => none }
def FnParityWordsWrongFalsely : Prop := fnParityWordsRow.holds Try.pinned (OpenSpec.ofChange fnParityWordsWrong)

/-- 'laws.FnHappyCounted': WHATEVER THE INPUT: true; the input reads as it did. -/
def fnHappyCountedSpec : ChangeSpec := { name := "fnHappyCounted", fn := fun _ => fun
  | [d1, d2] => { results := [.lit (.bool true)], args := [d1, d2] }
  | _ => none }
def fnHappyCountedRow : OpenClaim := { program := "ythamjbfdhghbbaa", sum := "467a4eb393165a457b57c4ea19533e6c2c5dc5389217f0947392c629cc512407", func := "loop.example/g01151/laws.FnHappyCounted", spec := "fnHappyCounted", unfollowed := true, recurses := true, apart := false }
def FnHappyCountedSaid : Prop := fnHappyCountedRow.holds Try.pinned (OpenSpec.ofChange fnHappyCountedSpec)

/-- ITS FALSE NEIGHBOUR: 'it returns false'. Refute it at one input. -/
def fnHappyCountedWrong : ChangeSpec := { name := "fnHappyCounted", fn := fun _ => fun
  | [d1, d2] => { results := [.lit (.bool false)], args := [d1, d2] }
  | _ => none }
def FnHappyCountedWrongFalsely : Prop := fnHappyCountedRow.holds Try.pinned (OpenSpec.ofChange fnHappyCountedWrong)

/-- 'laws.FnProperRuns': WHATEVER THE INPUT: true; the input reads as it did. -/
def fnProperRunsSpec : ChangeSpec := { name := "fnProperRuns", fn := fun _ => fun
  | [d1, d2] => { results := [.lit (.bool true)], args := [d1, d2] }
  | _ => none }
def fnProperRunsRow : OpenClaim := { program := "ythamjbfdhghbbaa", sum := "467a4eb393165a457b57c4ea19533e6c2c5dc5389217f0947392c629cc512407", func := "loop.example/g01151/laws.FnProperRuns", spec := "fnProperRuns", apart := false }
def FnProperRunsSaid : Prop := fnProperRunsRow.holds Try.pinned (OpenSpec.ofChange fnProperRunsSpec)

/-- ITS FALSE NEIGHBOUR: 'it returns false'. Refute it at one input. -/
def fnProperRunsWrong : ChangeSpec := { name := "fnProperRuns", fn := fun _ => fun
  | [d1, d2] => { results := [.lit (.bool false)], args := [d1, d2] }
  | _ => none }
def FnProperRunsWrongFalsely : Prop := fnProperRunsRow.holds Try.pinned (OpenSpec.ofChange fnProperRunsWrong)

/-- 'laws.FnAddedBackwards': WHATEVER THE INPUT: true; the input reads as it did. -/
def fnAddedBackwardsSpec : ChangeSpec := { name := "fnAddedBackwards", fn := fun _ => fun
  | [d1, d2] => { results := [.lit (.bool true)], args := [d1, d2] }
  | _ => none }
def fnAddedBackwardsRow : OpenClaim := { program := "ythamjbfdhghbbaa", sum := "467a4eb393165a457b57c4ea19533e6c2c5dc5389217f0947392c629cc512407", func := "loop.example/g01151/laws.FnAddedBackwards", spec := "fnAddedBackwards", unfollowed := true, recurses := true, apart := false }
def FnAddedBackwardsSaid : Prop := fnAddedBackwardsRow.holds Try.pinned (OpenSpec.ofChange fnAddedBackwardsSpec)

/-- ITS FALSE NEIGHBOUR: 'it returns false'. Refute it at one input. -/
def fnAddedBackwardsWrong : ChangeSpec := { name := "fnAddedBackwards", fn := fun _ => fun
  | [d1, d2] => { results := [.lit (.bool false)], args := [d1, d2] }
  | _ => none }
def FnAddedBackwardsWrongFalsely : Prop := fnAddedBackwardsRow.holds Try.pinned (OpenSpec.ofChange fnAddedBackwardsWrong)

/-- 'laws.FnDigitsTellNumbers': WHATEVER THE INPUT: true; the input reads as it did. -/
def fnDigitsTellNumbersSpec : ChangeSpec := { name := "fnDigitsTellNumbers", fn := fun _ => fun
  | [d1, d2] => { results := [.lit (.bool true)], args := [d1, d2] }
  | _ => none }
def fnDigitsTellNumbersRow : OpenClaim := { program := "ythamjbfdhghbbaa", sum := "467a4eb393165a457b57c4ea19533e6c2c5dc5389217f0947392c629cc512407", func := "loop.example/g01151/laws.FnDigitsTellNumbers", spec := "fnDigitsTellNumbers", unfollowed := true, recurses := true, apart := false }
def FnDigitsTellNumbersSaid : Prop := fnDigitsTellNumbersRow.holds Try.pinned (OpenSpec.ofChange fnDigitsTellNumbersSpec)

/-- ITS FALSE NEIGHBOUR: 'it returns false'. Refute it at one input. -/
def fnDigitsTellNumbersWrong : ChangeSpec := { name := "fnDigitsTellNumbers", fn := fun _ => fun
  | [d1, d2] => { results := [.lit (.bool false)], args := [d1, d2] }
  | _ => none }
def FnDigitsTellNumbersWrongFalsely : Prop := fnDigitsTellNumbersRow.holds Try.pinned (OpenSpec.ofChange fnDigitsTellNumbersWrong)

/- THE SECOND FORM. 'bulk': how many values and letters a reading holds, each counted each time it is reached (what is shared counts as often as it is met; a slice's spare places count too). A statement '..UptoSaid' is the law's where the arguments, and the package variables that the reading takes, are together of bulk at most 1048576: NARROWER than '..Said'. Prove '..Said' where nothing that the law and all that it calls make is longer than what came in: it says more and counts as full. Else prove '..UptoSaid'. A law counts once. -/
mutual
def uptoBulk {H : Type} : DataW H → Nat
  | .lit (.string bytes) => bytes.length + 1
  | .lit _ => 1
  | .nil => 1
  | .ptr d => uptoBulk d + 1
  | .slice elems spare => uptoBulkAll elems + uptoBulkAll spare + 1
  | .agg parts => uptoBulkAll parts + 1
  | .iface _ d => uptoBulk d + 1
  | .map entries => uptoBulkEntries entries + 1
  | .held _ => 1
def uptoBulkAll {H : Type} : List (DataW H) → Nat
  | [] => 0
  | d :: r => uptoBulk d + uptoBulkAll r
def uptoBulkEntries {H : Type} : List (Lit × DataW H) → Nat
  | [] => 0
  | x :: r => uptoBulkEntry x + uptoBulkEntries r
def uptoBulkEntry {H : Type} : Lit × DataW H → Nat
  | (.string bytes, d) => bytes.length + uptoBulk d + 1
  | (_, d) => uptoBulk d + 1
 end
def uptoSmall : (H : Type) → List (DataW H) → Bool := fun _ ds => decide (uptoBulkAll ds ≤ 1048576)
def OpenSpec.upto (s : _root_.Go.ChangeSpec) : _root_.Go.OpenSpec := { _root_.Go.OpenSpec.ofChange s with cond := some uptoSmall }

/-- 'laws.FnSumsOfDigitsRun', WHERE WHAT IT READS IS OF BULK AT MOST 1048576: true; the input reads as it did. -/
def fnSumsOfDigitsRunUptoRow : OpenClaim := { program := "ythamjbfdhghbbaa", sum := "467a4eb393165a457b57c4ea19533e6c2c5dc5389217f0947392c629cc512407", func := "loop.example/g01151/laws.FnSumsOfDigitsRun", spec := "fnSumsOfDigitsRun", unfollowed := true, recurses := true, apart := false, narrowed := true }
def FnSumsOfDigitsRunUptoSaid : Prop := fnSumsOfDigitsRunUptoRow.holds Try.pinned (OpenSpec.upto fnSumsOfDigitsRunSpec)

/-- 'laws.FnParityWords', WHERE WHAT IT READS IS OF BULK AT MOST 1048576: true; the input reads as it did. -/
def fnParityWordsUptoRow : OpenClaim := { program := "ythamjbfdhghbbaa", sum := "467a4eb393165a457b57c4ea19533e6c2c5dc5389217f0947392c629cc512407", func := "loop.example/g01151/laws.FnParityWords", spec := "fnParityWords", recurses := true, apart := false, narrowed := true }
def FnParityWordsUptoSaid : Prop := fnParityWordsUptoRow.holds Try.pinned (OpenSpec.upto fnParityWordsSpec)

/-- 'laws.FnHappyCounted', WHERE WHAT IT READS IS OF BULK AT MOST 1048576: true; the input reads as it did. -/
def fnHappyCountedUptoRow : OpenClaim := { program := "ythamjbfdhghbbaa", sum := "467a4eb393165a457b57c4ea19533e6c2c5dc5389217f0947392c629cc512407", func := "loop.example/g01151/laws.FnHappyCounted", spec := "fnHappyCounted", unfollowed := true, recurses := true, apart := false, narrowed := true }
def FnHappyCountedUptoSaid : Prop := fnHappyCountedUptoRow.holds Try.pinned (OpenSpec.upto fnHappyCountedSpec)

/-- 'laws.FnProperRuns', WHERE WHAT IT READS IS OF BULK AT MOST 1048576: true; the input reads as it did. -/
def fnProperRunsUptoRow : OpenClaim := { program := "ythamjbfdhghbbaa", sum := "467a4eb393165a457b57c4ea19533e6c2c5dc5389217f0947392c629cc512407", func := "loop.example/g01151/laws.FnProperRuns", spec := "fnProperRuns", apart := false, narrowed := true }
def FnProperRunsUptoSaid : Prop := fnProperRunsUptoRow.holds Try.pinned (OpenSpec.upto fnProperRunsSpec)

/-- 'laws.FnAddedBackwards', WHERE WHAT IT READS IS OF BULK AT MOST 1048576: true; the input reads as it did. -/
def fnAddedBackwardsUptoRow : OpenClaim := { program := "ythamjbfdhghbbaa", sum := "467a4eb393165a457b57c4ea19533e6c2c5dc5389217f0947392c629cc512407", func := "loop.example/g01151/laws.FnAddedBackwards", spec := "fnAddedBackwards", unfollowed := true, recurses := true, apart := false, narrowed := true }
def FnAddedBackwardsUptoSaid : Prop := fnAddedBackwardsUptoRow.holds Try.pinned (OpenSpec.upto fnAddedBackwardsSpec)

/-- 'laws.FnDigitsTellNumbers', WHERE WHAT IT READS IS OF BULK AT MOST 1048576: true; the input reads as it did. -/
def fnDigitsTellNumbersUptoRow : OpenClaim := { program := "ythamjbfdhghbbaa", sum := "467a4eb393165a457b57c4ea19533e6c2c5dc5389217f0947392c629cc512407", func := "loop.example/g01151/laws.FnDigitsTellNumbers", spec := "fnDigitsTellNumbers", unfollowed := true, recurses := true, apart := false, narrowed := true }
def FnDigitsTellNumbersUptoSaid : Prop := fnDigitsTellNumbersUptoRow.holds Try.pinned (OpenSpec.upto fnDigitsTellNumbersSpec)

end Rows
end Go.Proofs.Ythamjbfdhghbbaa
