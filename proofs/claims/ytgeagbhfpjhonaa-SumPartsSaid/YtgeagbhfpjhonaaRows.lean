/-
  No cell of these rows narrows 'for every input' (looked for: loops, veiled, ifaces, maps, wideKeys, modest, calm, conditions, laid).
  DERIVED. THE GIVEN ROWS OF THIS SEAT. 8 by the template 'for every input the law returns true; each argument reads behind the call as it read before'; 0 by the template 'total and deterministic' (their statements: YtgeagbhfpjhonaaTotals.lean).
  GIVEN WITH THE SEED: the statements are not yours to turn. If you find one false, say at which input.
  Laid BY PROGRAM, IN A SANDBOX (cutbox-rows.mjs): the forced cells as the released guide's own fill.sh prints them over the translation 682249aaff0fab67… (all of the seat's roots in one cut). By AI agents, Wed Nov 11 2026. No macro, syntax, notation, axiom, sorry.
-/
import Derived.Test.YtgeagbhfpjhonaaChecked
import GoSem.Claim
import GoSem.ClaimJoined
import GoSem.ClaimMapViews
import Derived.JoinedTies
import Derived.KernelRfl
namespace Go.Proofs.Ytgeagbhfpjhonaa
/- THE CELL 'sum', in the pinned program and in every row, IS THE sha256 OF THE DUMP (.gsa) THAT YtgeagbhfpjhonaaProg.lean LOADS. Nothing in Lean hashes anything: it is a label: what it is worth is what the hold of that sum in a sandbox is worth. -/
noncomputable def Try.pinned : Pinned := { name := "ytgeagbhfpjhonaa", sum := "682249aaff0fab678f2e77fddb956e136f6cfa4111778bef951ca1d08e80e4fa", checked := Try.checked }
namespace Rows
def none {H : Type} : Left H := { results := [], args := [] }

/-- 'shuntlaw2.SumCRC': WHATEVER THE INPUT: true; the input reads as it did. -/
def sumCRCSpec : ChangeSpec := { name := "sumCRC", fn := fun _ => fun
  | [d1, d2, d3] => { results := [.lit (.bool true)], args := [d1, d2, d3] }
  | _ => none }
def sumCRCRow : OpenClaim := { program := "ytgeagbhfpjhonaa", sum := "682249aaff0fab678f2e77fddb956e136f6cfa4111778bef951ca1d08e80e4fa", func := "shunt/shuntlaw2.SumCRC", spec := "sumCRC", apart := false }
def SumCRCSaid : Prop := sumCRCRow.holds Try.pinned (OpenSpec.ofChange sumCRCSpec)

/-- ITS FALSE NEIGHBOUR: 'it returns false'. Refute it at one input. -/
def sumCRCWrong : ChangeSpec := { name := "sumCRC", fn := fun _ => fun
  | [d1, d2, d3] => { results := [.lit (.bool false)], args := [d1, d2, d3] }
  | _ => none }
def SumCRCWrongFalsely : Prop := sumCRCRow.holds Try.pinned (OpenSpec.ofChange sumCRCWrong)

/-- 'shuntlaw2.SumSHA': WHATEVER THE INPUT: true; the input reads as it did. -/
def sumSHASpec : ChangeSpec := { name := "sumSHA", fn := fun _ => fun
  | [d] => { results := [.lit (.bool true)], args := [d] }
  | _ => none }
def sumSHARow : OpenClaim := { program := "ytgeagbhfpjhonaa", sum := "682249aaff0fab678f2e77fddb956e136f6cfa4111778bef951ca1d08e80e4fa", func := "shunt/shuntlaw2.SumSHA", spec := "sumSHA", apart := false }
def SumSHASaid : Prop := sumSHARow.holds Try.pinned (OpenSpec.ofChange sumSHASpec)

/-- ITS FALSE NEIGHBOUR: 'it returns false'. Refute it at one input. -/
def sumSHAWrong : ChangeSpec := { name := "sumSHA", fn := fun _ => fun
  | [d] => { results := [.lit (.bool false)], args := [d] }
  | _ => none }
def SumSHAWrongFalsely : Prop := sumSHARow.holds Try.pinned (OpenSpec.ofChange sumSHAWrong)

/-- 'shuntlaw2.SumSplit': WHATEVER THE INPUT: true; the input reads as it did. -/
def sumSplitSpec : ChangeSpec := { name := "sumSplit", fn := fun _ => fun
  | [d1, d2] => { results := [.lit (.bool true)], args := [d1, d2] }
  | _ => none }
def sumSplitRow : OpenClaim := { program := "ytgeagbhfpjhonaa", sum := "682249aaff0fab678f2e77fddb956e136f6cfa4111778bef951ca1d08e80e4fa", func := "shunt/shuntlaw2.SumSplit", spec := "sumSplit", apart := false }
def SumSplitSaid : Prop := sumSplitRow.holds Try.pinned (OpenSpec.ofChange sumSplitSpec)

/-- ITS FALSE NEIGHBOUR: 'it returns false'. Refute it at one input. -/
def sumSplitWrong : ChangeSpec := { name := "sumSplit", fn := fun _ => fun
  | [d1, d2] => { results := [.lit (.bool false)], args := [d1, d2] }
  | _ => none }
def SumSplitWrongFalsely : Prop := sumSplitRow.holds Try.pinned (OpenSpec.ofChange sumSplitWrong)

/-- 'shuntlaw2.SumTurned': WHATEVER THE INPUT: true; the input reads as it did. -/
def sumTurnedSpec : ChangeSpec := { name := "sumTurned", fn := fun _ => fun
  | [d1, d2, d3] => { results := [.lit (.bool true)], args := [d1, d2, d3] }
  | _ => none }
def sumTurnedRow : OpenClaim := { program := "ytgeagbhfpjhonaa", sum := "682249aaff0fab678f2e77fddb956e136f6cfa4111778bef951ca1d08e80e4fa", func := "shunt/shuntlaw2.SumTurned", spec := "sumTurned", apart := false }
def SumTurnedSaid : Prop := sumTurnedRow.holds Try.pinned (OpenSpec.ofChange sumTurnedSpec)

/-- ITS FALSE NEIGHBOUR: 'it returns false'. Refute it at one input. -/
def sumTurnedWrong : ChangeSpec := { name := "sumTurned", fn := fun _ => fun
  | [d1, d2, d3] => { results := [.lit (.bool false)], args := [d1, d2, d3] }
  | _ => none }
def SumTurnedWrongFalsely : Prop := sumTurnedRow.holds Try.pinned (OpenSpec.ofChange sumTurnedWrong)

/-- 'shuntlaw2.SumJoin': WHATEVER THE INPUT: true; the input reads as it did. -/
def sumJoinSpec : ChangeSpec := { name := "sumJoin", fn := fun _ => fun
  | [d1, d2, d3] => { results := [.lit (.bool true)], args := [d1, d2, d3] }
  | _ => none }
def sumJoinRow : OpenClaim := { program := "ytgeagbhfpjhonaa", sum := "682249aaff0fab678f2e77fddb956e136f6cfa4111778bef951ca1d08e80e4fa", func := "shunt/shuntlaw2.SumJoin", spec := "sumJoin", apart := false }
def SumJoinSaid : Prop := sumJoinRow.holds Try.pinned (OpenSpec.ofChange sumJoinSpec)

/-- ITS FALSE NEIGHBOUR: 'it returns false'. Refute it at one input. -/
def sumJoinWrong : ChangeSpec := { name := "sumJoin", fn := fun _ => fun
  | [d1, d2, d3] => { results := [.lit (.bool false)], args := [d1, d2, d3] }
  | _ => none }
def SumJoinWrongFalsely : Prop := sumJoinRow.holds Try.pinned (OpenSpec.ofChange sumJoinWrong)

/-- 'shuntlaw2.SumParts': WHATEVER THE INPUT: true; the input reads as it did. -/
def sumPartsSpec : ChangeSpec := { name := "sumParts", fn := fun _ => fun
  | [d1, d2] => { results := [.lit (.bool true)], args := [d1, d2] }
  | _ => none }
def sumPartsRow : OpenClaim := { program := "ytgeagbhfpjhonaa", sum := "682249aaff0fab678f2e77fddb956e136f6cfa4111778bef951ca1d08e80e4fa", func := "shunt/shuntlaw2.SumParts", spec := "sumParts", apart := false }
def SumPartsSaid : Prop := sumPartsRow.holds Try.pinned (OpenSpec.ofChange sumPartsSpec)

/-- ITS FALSE NEIGHBOUR: 'it returns false'. Refute it at one input. -/
def sumPartsWrong : ChangeSpec := { name := "sumParts", fn := fun _ => fun
  | [d1, d2] => { results := [.lit (.bool false)], args := [d1, d2] }
  | _ => none }
def SumPartsWrongFalsely : Prop := sumPartsRow.holds Try.pinned (OpenSpec.ofChange sumPartsWrong)

/-- 'shuntlaw2.SumLength': WHATEVER THE INPUT: true; the input reads as it did. -/
def sumLengthSpec : ChangeSpec := { name := "sumLength", fn := fun _ => fun
  | [d1, d2] => { results := [.lit (.bool true)], args := [d1, d2] }
  | _ => none }
def sumLengthRow : OpenClaim := { program := "ytgeagbhfpjhonaa", sum := "682249aaff0fab678f2e77fddb956e136f6cfa4111778bef951ca1d08e80e4fa", func := "shunt/shuntlaw2.SumLength", spec := "sumLength", apart := false }
def SumLengthSaid : Prop := sumLengthRow.holds Try.pinned (OpenSpec.ofChange sumLengthSpec)

/-- ITS FALSE NEIGHBOUR: 'it returns false'. Refute it at one input. -/
def sumLengthWrong : ChangeSpec := { name := "sumLength", fn := fun _ => fun
  | [d1, d2] => { results := [.lit (.bool false)], args := [d1, d2] }
  | _ => none }
def SumLengthWrongFalsely : Prop := sumLengthRow.holds Try.pinned (OpenSpec.ofChange sumLengthWrong)

/-- 'shuntlaw2.SumAgain': WHATEVER THE INPUT: true; the input reads as it did. -/
def sumAgainSpec : ChangeSpec := { name := "sumAgain", fn := fun _ => fun
  | [d1, d2] => { results := [.lit (.bool true)], args := [d1, d2] }
  | _ => none }
def sumAgainRow : OpenClaim := { program := "ytgeagbhfpjhonaa", sum := "682249aaff0fab678f2e77fddb956e136f6cfa4111778bef951ca1d08e80e4fa", func := "shunt/shuntlaw2.SumAgain", spec := "sumAgain", apart := false }
def SumAgainSaid : Prop := sumAgainRow.holds Try.pinned (OpenSpec.ofChange sumAgainSpec)

/-- ITS FALSE NEIGHBOUR: 'it returns false'. Refute it at one input. -/
def sumAgainWrong : ChangeSpec := { name := "sumAgain", fn := fun _ => fun
  | [d1, d2] => { results := [.lit (.bool false)], args := [d1, d2] }
  | _ => none }
def SumAgainWrongFalsely : Prop := sumAgainRow.holds Try.pinned (OpenSpec.ofChange sumAgainWrong)

/- THE SECOND FORM. 'bulk': how many values and letters a reading holds, each counted each time it is reached (what is shared counts as often as it is met; a slice's spare places count too). A statement '..UptoSaid' is the law's where the arguments, and the package variables that the reading takes, are together of bulk at most 1048576: NARROWER than '..Said'. Prove '..Said' where nothing that the law and all that it calls make is longer than what came in: it says more and counts as full. Else prove '..UptoSaid'. A law counts once. -/
mutual
def uptoBulk {H : Type} : DataW H → Nat
  | .lit (.string bytes) => bytes.length + 1
  | .lit _ => 1
  | .nil => 1
  | .ptr d => uptoBulk d + 1
  | .slice elems spare => uptoBulkAll elems + uptoBulkAll spare + 1
  | .agg parts => uptoBulkAll parts + 1
  | .iface _ d => uptoBulk d + 1
  | .map entries => uptoBulkEntries entries + 1
  | .held _ => 1
def uptoBulkAll {H : Type} : List (DataW H) → Nat
  | [] => 0
  | d :: r => uptoBulk d + uptoBulkAll r
def uptoBulkEntries {H : Type} : List (Lit × DataW H) → Nat
  | [] => 0
  | x :: r => uptoBulkEntry x + uptoBulkEntries r
def uptoBulkEntry {H : Type} : Lit × DataW H → Nat
  | (.string bytes, d) => bytes.length + uptoBulk d + 1
  | (_, d) => uptoBulk d + 1
 end
def uptoSmall : (H : Type) → List (DataW H) → Bool := fun _ ds => decide (uptoBulkAll ds ≤ 1048576)
def OpenSpec.upto (s : _root_.Go.ChangeSpec) : _root_.Go.OpenSpec := { _root_.Go.OpenSpec.ofChange s with cond := some uptoSmall }

/-- 'shuntlaw2.SumCRC', WHERE WHAT IT READS IS OF BULK AT MOST 1048576: true; the input reads as it did. -/
def sumCRCUptoRow : OpenClaim := { program := "ytgeagbhfpjhonaa", sum := "682249aaff0fab678f2e77fddb956e136f6cfa4111778bef951ca1d08e80e4fa", func := "shunt/shuntlaw2.SumCRC", spec := "sumCRC", apart := false, narrowed := true }
def SumCRCUptoSaid : Prop := sumCRCUptoRow.holds Try.pinned (OpenSpec.upto sumCRCSpec)

/-- 'shuntlaw2.SumSHA', WHERE WHAT IT READS IS OF BULK AT MOST 1048576: true; the input reads as it did. -/
def sumSHAUptoRow : OpenClaim := { program := "ytgeagbhfpjhonaa", sum := "682249aaff0fab678f2e77fddb956e136f6cfa4111778bef951ca1d08e80e4fa", func := "shunt/shuntlaw2.SumSHA", spec := "sumSHA", apart := false, narrowed := true }
def SumSHAUptoSaid : Prop := sumSHAUptoRow.holds Try.pinned (OpenSpec.upto sumSHASpec)

/-- 'shuntlaw2.SumSplit', WHERE WHAT IT READS IS OF BULK AT MOST 1048576: true; the input reads as it did. -/
def sumSplitUptoRow : OpenClaim := { program := "ytgeagbhfpjhonaa", sum := "682249aaff0fab678f2e77fddb956e136f6cfa4111778bef951ca1d08e80e4fa", func := "shunt/shuntlaw2.SumSplit", spec := "sumSplit", apart := false, narrowed := true }
def SumSplitUptoSaid : Prop := sumSplitUptoRow.holds Try.pinned (OpenSpec.upto sumSplitSpec)

/-- 'shuntlaw2.SumTurned', WHERE WHAT IT READS IS OF BULK AT MOST 1048576: true; the input reads as it did. -/
def sumTurnedUptoRow : OpenClaim := { program := "ytgeagbhfpjhonaa", sum := "682249aaff0fab678f2e77fddb956e136f6cfa4111778bef951ca1d08e80e4fa", func := "shunt/shuntlaw2.SumTurned", spec := "sumTurned", apart := false, narrowed := true }
def SumTurnedUptoSaid : Prop := sumTurnedUptoRow.holds Try.pinned (OpenSpec.upto sumTurnedSpec)

/-- 'shuntlaw2.SumJoin', WHERE WHAT IT READS IS OF BULK AT MOST 1048576: true; the input reads as it did. -/
def sumJoinUptoRow : OpenClaim := { program := "ytgeagbhfpjhonaa", sum := "682249aaff0fab678f2e77fddb956e136f6cfa4111778bef951ca1d08e80e4fa", func := "shunt/shuntlaw2.SumJoin", spec := "sumJoin", apart := false, narrowed := true }
def SumJoinUptoSaid : Prop := sumJoinUptoRow.holds Try.pinned (OpenSpec.upto sumJoinSpec)

/-- 'shuntlaw2.SumParts', WHERE WHAT IT READS IS OF BULK AT MOST 1048576: true; the input reads as it did. -/
def sumPartsUptoRow : OpenClaim := { program := "ytgeagbhfpjhonaa", sum := "682249aaff0fab678f2e77fddb956e136f6cfa4111778bef951ca1d08e80e4fa", func := "shunt/shuntlaw2.SumParts", spec := "sumParts", apart := false, narrowed := true }
def SumPartsUptoSaid : Prop := sumPartsUptoRow.holds Try.pinned (OpenSpec.upto sumPartsSpec)

/-- 'shuntlaw2.SumLength', WHERE WHAT IT READS IS OF BULK AT MOST 1048576: true; the input reads as it did. -/
def sumLengthUptoRow : OpenClaim := { program := "ytgeagbhfpjhonaa", sum := "682249aaff0fab678f2e77fddb956e136f6cfa4111778bef951ca1d08e80e4fa", func := "shunt/shuntlaw2.SumLength", spec := "sumLength", apart := false, narrowed := true }
def SumLengthUptoSaid : Prop := sumLengthUptoRow.holds Try.pinned (OpenSpec.upto sumLengthSpec)

/-- 'shuntlaw2.SumAgain', WHERE WHAT IT READS IS OF BULK AT MOST 1048576: true; the input reads as it did. -/
def sumAgainUptoRow : OpenClaim := { program := "ytgeagbhfpjhonaa", sum := "682249aaff0fab678f2e77fddb956e136f6cfa4111778bef951ca1d08e80e4fa", func := "shunt/shuntlaw2.SumAgain", spec := "sumAgain", apart := false, narrowed := true }
def SumAgainUptoSaid : Prop := sumAgainUptoRow.holds Try.pinned (OpenSpec.upto sumAgainSpec)

end Rows
end Go.Proofs.Ytgeagbhfpjhonaa
