/-
  No cell of these rows narrows 'for every input' (looked for: loops, veiled, ifaces, maps, wideKeys, modest, calm, conditions, laid).
  DERIVED. THE GIVEN ROWS OF THIS SEAT. 10 by the template 'for every input the law returns true; each argument reads behind the call as it read before'; 0 by the template 'total and deterministic' (their statements: YthfncgbkigmmcaaTotals.lean).
  GIVEN WITH THE SEED: the statements are not yours to turn. If you find one false, say at which input.
  Laid BY PROGRAM, IN A SANDBOX (cutbox-rows.mjs): the forced cells as the released guide's own fill.sh prints them over the translation 8766393c7ccd929a… (all of the seat's roots in one cut). By AI agents, Wed Nov 11 2026. No macro, syntax, notation, axiom, sorry.
-/
import Derived.Test.YthfncgbkigmmcaaChecked
import GoSem.Claim
import GoSem.ClaimJoined
import GoSem.ClaimMapViews
import Derived.JoinedTies
import Derived.KernelRfl
namespace Go.Proofs.Ythfncgbkigmmcaa
/- THE CELL 'sum', in the pinned program and in every row, IS THE sha256 OF THE DUMP (.gsa) THAT YthfncgbkigmmcaaProg.lean LOADS. Nothing in Lean hashes anything: it is a label: what it is worth is what the hold of that sum in a sandbox is worth. -/
noncomputable def Try.pinned : Pinned := { name := "ythfncgbkigmmcaa", sum := "8766393c7ccd929acd5ac2e829fff50c3264716cdfa7c8b2febe5a8f3f778a9c", checked := Try.checked }
namespace Rows
def none {H : Type} : Left H := { results := [], args := [] }

/-- 'shuntlaw4.LedgerMade': WHATEVER THE INPUT: true; the input reads as it did. -/
def ledgerMadeSpec : ChangeSpec := { name := "ledgerMade", fn := fun _ => fun
  | [d] => { results := [.lit (.bool true)], args := [d] }
  | _ => none }
def ledgerMadeRow : OpenClaim := { program := "ythfncgbkigmmcaa", sum := "8766393c7ccd929acd5ac2e829fff50c3264716cdfa7c8b2febe5a8f3f778a9c", func := "shunt/shuntlaw4.LedgerMade", spec := "ledgerMade", unfollowed := true, recurses := true, apart := false }
def LedgerMadeSaid : Prop := ledgerMadeRow.holds Try.pinned (OpenSpec.ofChange ledgerMadeSpec)

/-- ITS FALSE NEIGHBOUR: 'it returns false'. Refute it at one input. -/
def ledgerMadeWrong : ChangeSpec := { name := "ledgerMade", fn := fun _ => fun
  | [d] => { results := [.lit (.bool false)], args := [d] }
  | _ => none }
def LedgerMadeWrongFalsely : Prop := ledgerMadeRow.holds Try.pinned (OpenSpec.ofChange ledgerMadeWrong)

/-- 'shuntlaw4.LedgerDead': WHATEVER THE INPUT: true; the input reads as it did. -/
def ledgerDeadSpec : ChangeSpec := { name := "ledgerDead", fn := fun _ => fun
  | [d] => { results := [.lit (.bool true)], args := [d] }
  | _ => none }
def ledgerDeadRow : OpenClaim := { program := "ythfncgbkigmmcaa", sum := "8766393c7ccd929acd5ac2e829fff50c3264716cdfa7c8b2febe5a8f3f778a9c", func := "shunt/shuntlaw4.LedgerDead", spec := "ledgerDead", unfollowed := true, recurses := true, apart := false }
def LedgerDeadSaid : Prop := ledgerDeadRow.holds Try.pinned (OpenSpec.ofChange ledgerDeadSpec)

/-- ITS FALSE NEIGHBOUR: 'it returns false'. Refute it at one input. -/
def ledgerDeadWrong : ChangeSpec := { name := "ledgerDead", fn := fun _ => fun
  | [d] => { results := [.lit (.bool false)], args := [d] }
  | _ => none }
def LedgerDeadWrongFalsely : Prop := ledgerDeadRow.holds Try.pinned (OpenSpec.ofChange ledgerDeadWrong)

/-- 'shuntlaw4.LedgerFormat': WHATEVER THE INPUT: true; the input reads as it did. -/
def ledgerFormatSpec : ChangeSpec := { name := "ledgerFormat", fn := fun _ => fun
  | [d] => { results := [.lit (.bool true)], args := [d] }
  | _ => none }
def ledgerFormatRow : OpenClaim := { program := "ythfncgbkigmmcaa", sum := "8766393c7ccd929acd5ac2e829fff50c3264716cdfa7c8b2febe5a8f3f778a9c", func := "shunt/shuntlaw4.LedgerFormat", spec := "ledgerFormat", unfollowed := true, recurses := true, apart := false }
def LedgerFormatSaid : Prop := ledgerFormatRow.holds Try.pinned (OpenSpec.ofChange ledgerFormatSpec)

/-- ITS FALSE NEIGHBOUR: 'it returns false'. Refute it at one input. -/
def ledgerFormatWrong : ChangeSpec := { name := "ledgerFormat", fn := fun _ => fun
  | [d] => { results := [.lit (.bool false)], args := [d] }
  | _ => none }
def LedgerFormatWrongFalsely : Prop := ledgerFormatRow.holds Try.pinned (OpenSpec.ofChange ledgerFormatWrong)

/-- 'shuntlaw4.LedgerTwo': WHATEVER THE INPUT: true; the input reads as it did. -/
def ledgerTwoSpec : ChangeSpec := { name := "ledgerTwo", fn := fun _ => fun
  | [d1, d2] => { results := [.lit (.bool true)], args := [d1, d2] }
  | _ => none }
def ledgerTwoRow : OpenClaim := { program := "ythfncgbkigmmcaa", sum := "8766393c7ccd929acd5ac2e829fff50c3264716cdfa7c8b2febe5a8f3f778a9c", func := "shunt/shuntlaw4.LedgerTwo", spec := "ledgerTwo", unfollowed := true, recurses := true, apart := false }
def LedgerTwoSaid : Prop := ledgerTwoRow.holds Try.pinned (OpenSpec.ofChange ledgerTwoSpec)

/-- ITS FALSE NEIGHBOUR: 'it returns false'. Refute it at one input. -/
def ledgerTwoWrong : ChangeSpec := { name := "ledgerTwo", fn := fun _ => fun
  | [d1, d2] => { results := [.lit (.bool false)], args := [d1, d2] }
  | _ => none }
def LedgerTwoWrongFalsely : Prop := ledgerTwoRow.holds Try.pinned (OpenSpec.ofChange ledgerTwoWrong)

/-- 'shuntlaw4.LedgerAnew': WHATEVER THE INPUT: true; the input reads as it did. -/
def ledgerAnewSpec : ChangeSpec := { name := "ledgerAnew", fn := fun _ => fun
  | [d1, d2] => { results := [.lit (.bool true)], args := [d1, d2] }
  | _ => none }
def ledgerAnewRow : OpenClaim := { program := "ythfncgbkigmmcaa", sum := "8766393c7ccd929acd5ac2e829fff50c3264716cdfa7c8b2febe5a8f3f778a9c", func := "shunt/shuntlaw4.LedgerAnew", spec := "ledgerAnew", unfollowed := true, recurses := true, apart := false }
def LedgerAnewSaid : Prop := ledgerAnewRow.holds Try.pinned (OpenSpec.ofChange ledgerAnewSpec)

/-- ITS FALSE NEIGHBOUR: 'it returns false'. Refute it at one input. -/
def ledgerAnewWrong : ChangeSpec := { name := "ledgerAnew", fn := fun _ => fun
  | [d1, d2] => { results := [.lit (.bool false)], args := [d1, d2] }
  | _ => none }
def LedgerAnewWrongFalsely : Prop := ledgerAnewRow.holds Try.pinned (OpenSpec.ofChange ledgerAnewWrong)

/-- 'shuntlaw4.LedgerRaw': WHATEVER THE INPUT: true; the input reads as it did. -/
def ledgerRawSpec : ChangeSpec := { name := "ledgerRaw", fn := fun _ => fun
  | [d1, d2] => { results := [.lit (.bool true)], args := [d1, d2] }
  | _ => none }
def ledgerRawRow : OpenClaim := { program := "ythfncgbkigmmcaa", sum := "8766393c7ccd929acd5ac2e829fff50c3264716cdfa7c8b2febe5a8f3f778a9c", func := "shunt/shuntlaw4.LedgerRaw", spec := "ledgerRaw", unfollowed := true, recurses := true, apart := false }
def LedgerRawSaid : Prop := ledgerRawRow.holds Try.pinned (OpenSpec.ofChange ledgerRawSpec)

/-- ITS FALSE NEIGHBOUR: 'it returns false'. Refute it at one input. -/
def ledgerRawWrong : ChangeSpec := { name := "ledgerRaw", fn := fun _ => fun
  | [d1, d2] => { results := [.lit (.bool false)], args := [d1, d2] }
  | _ => none }
def LedgerRawWrongFalsely : Prop := ledgerRawRow.holds Try.pinned (OpenSpec.ofChange ledgerRawWrong)

/-- 'shuntlaw4.LedgerRow': WHATEVER THE INPUT: true; the input reads as it did. -/
def ledgerRowSpec : ChangeSpec := { name := "ledgerRow", fn := fun _ => fun
  | [d1, d2, d3, d4] => { results := [.lit (.bool true)], args := [d1, d2, d3, d4] }
  | _ => none }
def ledgerRowRow : OpenClaim := { program := "ythfncgbkigmmcaa", sum := "8766393c7ccd929acd5ac2e829fff50c3264716cdfa7c8b2febe5a8f3f778a9c", func := "shunt/shuntlaw4.LedgerRow", spec := "ledgerRow", unfollowed := true, recurses := true, apart := false }
def LedgerRowSaid : Prop := ledgerRowRow.holds Try.pinned (OpenSpec.ofChange ledgerRowSpec)

/-- ITS FALSE NEIGHBOUR: 'it returns false'. Refute it at one input. -/
def ledgerRowWrong : ChangeSpec := { name := "ledgerRow", fn := fun _ => fun
  | [d1, d2, d3, d4] => { results := [.lit (.bool false)], args := [d1, d2, d3, d4] }
  | _ => none }
def LedgerRowWrongFalsely : Prop := ledgerRowRow.holds Try.pinned (OpenSpec.ofChange ledgerRowWrong)

/-- 'shuntlaw4.LedgerCrashes': WHATEVER THE INPUT: true; the input reads as it did. -/
def ledgerCrashesSpec : ChangeSpec := { name := "ledgerCrashes", fn := fun _ => fun
  | [d] => { results := [.lit (.bool true)], args := [d] }
  | _ => none }
def ledgerCrashesRow : OpenClaim := { program := "ythfncgbkigmmcaa", sum := "8766393c7ccd929acd5ac2e829fff50c3264716cdfa7c8b2febe5a8f3f778a9c", func := "shunt/shuntlaw4.LedgerCrashes", spec := "ledgerCrashes", unfollowed := true, recurses := true, apart := false }
def LedgerCrashesSaid : Prop := ledgerCrashesRow.holds Try.pinned (OpenSpec.ofChange ledgerCrashesSpec)

/-- ITS FALSE NEIGHBOUR: 'it returns false'. Refute it at one input. -/
def ledgerCrashesWrong : ChangeSpec := { name := "ledgerCrashes", fn := fun _ => fun
  | [d] => { results := [.lit (.bool false)], args := [d] }
  | _ => none }
def LedgerCrashesWrongFalsely : Prop := ledgerCrashesRow.holds Try.pinned (OpenSpec.ofChange ledgerCrashesWrong)

/-- 'shuntlaw4.LedgerWhole': WHATEVER THE INPUT: true; the input reads as it did. -/
def ledgerWholeSpec : ChangeSpec := { name := "ledgerWhole", fn := fun _ => fun
  | [d1, d2, d3, d4] => { results := [.lit (.bool true)], args := [d1, d2, d3, d4] }
  | _ => none }
def ledgerWholeRow : OpenClaim := { program := "ythfncgbkigmmcaa", sum := "8766393c7ccd929acd5ac2e829fff50c3264716cdfa7c8b2febe5a8f3f778a9c", func := "shunt/shuntlaw4.LedgerWhole", spec := "ledgerWhole", unfollowed := true, recurses := true, apart := false }
def LedgerWholeSaid : Prop := ledgerWholeRow.holds Try.pinned (OpenSpec.ofChange ledgerWholeSpec)

/-- ITS FALSE NEIGHBOUR: 'it returns false'. Refute it at one input. -/
def ledgerWholeWrong : ChangeSpec := { name := "ledgerWhole", fn := fun _ => fun
  | [d1, d2, d3, d4] => { results := [.lit (.bool false)], args := [d1, d2, d3, d4] }
  | _ => none }
def LedgerWholeWrongFalsely : Prop := ledgerWholeRow.holds Try.pinned (OpenSpec.ofChange ledgerWholeWrong)

/-- 'shuntlaw4.LedgerSynced': WHATEVER THE INPUT: true; the input reads as it did. -/
def ledgerSyncedSpec : ChangeSpec := { name := "ledgerSynced", fn := fun _ => fun
  | [d1, d2, d3] => { results := [.lit (.bool true)], args := [d1, d2, d3] }
  | _ => none }
def ledgerSyncedRow : OpenClaim := { program := "ythfncgbkigmmcaa", sum := "8766393c7ccd929acd5ac2e829fff50c3264716cdfa7c8b2febe5a8f3f778a9c", func := "shunt/shuntlaw4.LedgerSynced", spec := "ledgerSynced", unfollowed := true, recurses := true, apart := false }
def LedgerSyncedSaid : Prop := ledgerSyncedRow.holds Try.pinned (OpenSpec.ofChange ledgerSyncedSpec)

/-- ITS FALSE NEIGHBOUR: 'it returns false'. Refute it at one input. -/
def ledgerSyncedWrong : ChangeSpec := { name := "ledgerSynced", fn := fun _ => fun
  | [d1, d2, d3] => { results := [.lit (.bool false)], args := [d1, d2, d3] }
  | _ => none }
def LedgerSyncedWrongFalsely : Prop := ledgerSyncedRow.holds Try.pinned (OpenSpec.ofChange ledgerSyncedWrong)

/- THE SECOND FORM. 'bulk': how many values and letters a reading holds, each counted each time it is reached (what is shared counts as often as it is met; a slice's spare places count too). A statement '..UptoSaid' is the law's where the arguments, and the package variables that the reading takes, are together of bulk at most 1048576: NARROWER than '..Said'. Prove '..Said' where nothing that the law and all that it calls make is longer than what came in: it says more and counts as full. Else prove '..UptoSaid'. A law counts once. -/
mutual
def uptoBulk {H : Type} : DataW H → Nat
  | .lit (.string bytes) => bytes.length + 1
  | .lit _ => 1
  | .nil => 1
  | .ptr d => uptoBulk d + 1
  | .slice elems spare => uptoBulkAll elems + uptoBulkAll spare + 1
  | .agg parts => uptoBulkAll parts + 1
  | .iface _ d => uptoBulk d + 1
  | .map entries => uptoBulkEntries entries + 1
  | .held _ => 1
def uptoBulkAll {H : Type} : List (DataW H) → Nat
  | [] => 0
  | d :: r => uptoBulk d + uptoBulkAll r
def uptoBulkEntries {H : Type} : List (Lit × DataW H) → Nat
  | [] => 0
  | x :: r => uptoBulkEntry x + uptoBulkEntries r
def uptoBulkEntry {H : Type} : Lit × DataW H → Nat
  | (.string bytes, d) => bytes.length + uptoBulk d + 1
  | (_, d) => uptoBulk d + 1
 end
def uptoSmall : (H : Type) → List (DataW H) → Bool := fun _ ds => decide (uptoBulkAll ds ≤ 1048576)
def OpenSpec.upto (s : _root_.Go.ChangeSpec) : _root_.Go.OpenSpec := { _root_.Go.OpenSpec.ofChange s with cond := some uptoSmall }

/-- 'shuntlaw4.LedgerMade', WHERE WHAT IT READS IS OF BULK AT MOST 1048576: true; the input reads as it did. -/
def ledgerMadeUptoRow : OpenClaim := { program := "ythfncgbkigmmcaa", sum := "8766393c7ccd929acd5ac2e829fff50c3264716cdfa7c8b2febe5a8f3f778a9c", func := "shunt/shuntlaw4.LedgerMade", spec := "ledgerMade", unfollowed := true, recurses := true, apart := false, narrowed := true }
def LedgerMadeUptoSaid : Prop := ledgerMadeUptoRow.holds Try.pinned (OpenSpec.upto ledgerMadeSpec)

/-- 'shuntlaw4.LedgerDead', WHERE WHAT IT READS IS OF BULK AT MOST 1048576: true; the input reads as it did. -/
def ledgerDeadUptoRow : OpenClaim := { program := "ythfncgbkigmmcaa", sum := "8766393c7ccd929acd5ac2e829fff50c3264716cdfa7c8b2febe5a8f3f778a9c", func := "shunt/shuntlaw4.LedgerDead", spec := "ledgerDead", unfollowed := true, recurses := true, apart := false, narrowed := true }
def LedgerDeadUptoSaid : Prop := ledgerDeadUptoRow.holds Try.pinned (OpenSpec.upto ledgerDeadSpec)

/-- 'shuntlaw4.LedgerFormat', WHERE WHAT IT READS IS OF BULK AT MOST 1048576: true; the input reads as it did. -/
def ledgerFormatUptoRow : OpenClaim := { program := "ythfncgbkigmmcaa", sum := "8766393c7ccd929acd5ac2e829fff50c3264716cdfa7c8b2febe5a8f3f778a9c", func := "shunt/shuntlaw4.LedgerFormat", spec := "ledgerFormat", unfollowed := true, recurses := true, apart := false, narrowed := true }
def LedgerFormatUptoSaid : Prop := ledgerFormatUptoRow.holds Try.pinned (OpenSpec.upto ledgerFormatSpec)

/-- 'shuntlaw4.LedgerTwo', WHERE WHAT IT READS IS OF BULK AT MOST 1048576: true; the input reads as it did. -/
def ledgerTwoUptoRow : OpenClaim := { program := "ythfncgbkigmmcaa", sum := "8766393c7ccd929acd5ac2e829fff50c3264716cdfa7c8b2febe5a8f3f778a9c", func := "shunt/shuntlaw4.LedgerTwo", spec := "ledgerTwo", unfollowed := true, recurses := true, apart := false, narrowed := true }
def LedgerTwoUptoSaid : Prop := ledgerTwoUptoRow.holds Try.pinned (OpenSpec.upto ledgerTwoSpec)

/-- 'shuntlaw4.LedgerAnew', WHERE WHAT IT READS IS OF BULK AT MOST 1048576: true; the input reads as it did. -/
def ledgerAnewUptoRow : OpenClaim := { program := "ythfncgbkigmmcaa", sum := "8766393c7ccd929acd5ac2e829fff50c3264716cdfa7c8b2febe5a8f3f778a9c", func := "shunt/shuntlaw4.LedgerAnew", spec := "ledgerAnew", unfollowed := true, recurses := true, apart := false, narrowed := true }
def LedgerAnewUptoSaid : Prop := ledgerAnewUptoRow.holds Try.pinned (OpenSpec.upto ledgerAnewSpec)

/-- 'shuntlaw4.LedgerRaw', WHERE WHAT IT READS IS OF BULK AT MOST 1048576: true; the input reads as it did. -/
def ledgerRawUptoRow : OpenClaim := { program := "ythfncgbkigmmcaa", sum := "8766393c7ccd929acd5ac2e829fff50c3264716cdfa7c8b2febe5a8f3f778a9c", func := "shunt/shuntlaw4.LedgerRaw", spec := "ledgerRaw", unfollowed := true, recurses := true, apart := false, narrowed := true }
def LedgerRawUptoSaid : Prop := ledgerRawUptoRow.holds Try.pinned (OpenSpec.upto ledgerRawSpec)

/-- 'shuntlaw4.LedgerRow', WHERE WHAT IT READS IS OF BULK AT MOST 1048576: true; the input reads as it did. -/
def ledgerRowUptoRow : OpenClaim := { program := "ythfncgbkigmmcaa", sum := "8766393c7ccd929acd5ac2e829fff50c3264716cdfa7c8b2febe5a8f3f778a9c", func := "shunt/shuntlaw4.LedgerRow", spec := "ledgerRow", unfollowed := true, recurses := true, apart := false, narrowed := true }
def LedgerRowUptoSaid : Prop := ledgerRowUptoRow.holds Try.pinned (OpenSpec.upto ledgerRowSpec)

/-- 'shuntlaw4.LedgerCrashes', WHERE WHAT IT READS IS OF BULK AT MOST 1048576: true; the input reads as it did. -/
def ledgerCrashesUptoRow : OpenClaim := { program := "ythfncgbkigmmcaa", sum := "8766393c7ccd929acd5ac2e829fff50c3264716cdfa7c8b2febe5a8f3f778a9c", func := "shunt/shuntlaw4.LedgerCrashes", spec := "ledgerCrashes", unfollowed := true, recurses := true, apart := false, narrowed := true }
def LedgerCrashesUptoSaid : Prop := ledgerCrashesUptoRow.holds Try.pinned (OpenSpec.upto ledgerCrashesSpec)

/-- 'shuntlaw4.LedgerWhole', WHERE WHAT IT READS IS OF BULK AT MOST 1048576: true; the input reads as it did. -/
def ledgerWholeUptoRow : OpenClaim := { program := "ythfncgbkigmmcaa", sum := "8766393c7ccd929acd5ac2e829fff50c3264716cdfa7c8b2febe5a8f3f778a9c", func := "shunt/shuntlaw4.LedgerWhole", spec := "ledgerWhole", unfollowed := true, recurses := true, apart := false, narrowed := true }
def LedgerWholeUptoSaid : Prop := ledgerWholeUptoRow.holds Try.pinned (OpenSpec.upto ledgerWholeSpec)

/-- 'shuntlaw4.LedgerSynced', WHERE WHAT IT READS IS OF BULK AT MOST 1048576: true; the input reads as it did. -/
def ledgerSyncedUptoRow : OpenClaim := { program := "ythfncgbkigmmcaa", sum := "8766393c7ccd929acd5ac2e829fff50c3264716cdfa7c8b2febe5a8f3f778a9c", func := "shunt/shuntlaw4.LedgerSynced", spec := "ledgerSynced", unfollowed := true, recurses := true, apart := false, narrowed := true }
def LedgerSyncedUptoSaid : Prop := ledgerSyncedUptoRow.holds Try.pinned (OpenSpec.upto ledgerSyncedSpec)

end Rows
end Go.Proofs.Ythfncgbkigmmcaa
