/-
  No cell of these rows narrows 'for every input' (looked for: loops, veiled, ifaces, maps, wideKeys, modest, calm, conditions, laid).
  DERIVED. THE GIVEN ROWS OF THIS SEAT. 10 by the template 'for every input the law returns true; each argument reads behind the call as it read before'; 0 by the template 'total and deterministic' (their statements: Qxb6500585aTotals.lean).
  GIVEN WITH THE SEED: the statements are not yours to turn. If you find one false, say at which input.
  Laid BY PROGRAM, IN A SANDBOX (cutbox-rows.mjs): the forced cells as the released guide's own fill.sh prints them over the translation c92c3a04bc2123f2… (all of the seat's roots in one cut). By AI agents, Wed Nov 11 2026. No macro, syntax, notation, axiom, sorry.
-/
import Derived.Test.Qxb6500585aChecked
import GoSem.Claim
import GoSem.ClaimJoined
import GoSem.ClaimMapViews
import Derived.JoinedTies
import Derived.KernelRfl
namespace Go.Proofs.Qxb6500585a
/- THE CELL 'sum', in the pinned program and in every row, IS THE sha256 OF THE DUMP (.gsa) THAT Qxb6500585aProg.lean LOADS. Nothing in Lean hashes anything: it is a label: what it is worth is what the hold of that sum in a sandbox is worth. -/
noncomputable def Try.pinned : Pinned := { name := "qxb6500585a", sum := "c92c3a04bc2123f22d154ebe919c85c92af82cc54471c793e1ae9817214e7b0e", checked := Try.checked }
namespace Rows
def none {H : Type} : Left H := { results := [], args := [] }

/-- 'muxlaw.EdgeFirstNone': WHATEVER THE INPUT: true; the input reads as it did. -/
def edgeFirstNoneSpec : ChangeSpec := { name := "edgeFirstNone", fn := fun _ => fun
  | [] => { results := [.lit (.bool true)], args := [] }
  | _ => none }
def edgeFirstNoneRow : OpenClaim := { program := "qxb6500585a", sum := "c92c3a04bc2123f22d154ebe919c85c92af82cc54471c793e1ae9817214e7b0e", func := "e2e/muxlaw.EdgeFirstNone", spec := "edgeFirstNone", apart := false }
def EdgeFirstNoneSaid : Prop := edgeFirstNoneRow.holds Try.pinned (OpenSpec.ofChange edgeFirstNoneSpec)

/-- ITS FALSE NEIGHBOUR: 'it returns false'. Refute it at one input. -/
def edgeFirstNoneWrong : ChangeSpec := { name := "edgeFirstNone", fn := fun _ => fun
  | [] => { results := [.lit (.bool false)], args := [] }
  | _ => none }
def EdgeFirstNoneWrongFalsely : Prop := edgeFirstNoneRow.holds Try.pinned (OpenSpec.ofChange edgeFirstNoneWrong)

/-- 'muxlaw.EdgeFirstAll': WHATEVER THE INPUT: true; the input reads as it did. -/
def edgeFirstAllSpec : ChangeSpec := { name := "edgeFirstAll", fn := fun _ => fun
  | [] => { results := [.lit (.bool true)], args := [] }
  | _ => none }
def edgeFirstAllRow : OpenClaim := { program := "qxb6500585a", sum := "c92c3a04bc2123f22d154ebe919c85c92af82cc54471c793e1ae9817214e7b0e", func := "e2e/muxlaw.EdgeFirstAll", spec := "edgeFirstAll", apart := false }
def EdgeFirstAllSaid : Prop := edgeFirstAllRow.holds Try.pinned (OpenSpec.ofChange edgeFirstAllSpec)

/-- ITS FALSE NEIGHBOUR: 'it returns false'. Refute it at one input. -/
def edgeFirstAllWrong : ChangeSpec := { name := "edgeFirstAll", fn := fun _ => fun
  | [] => { results := [.lit (.bool false)], args := [] }
  | _ => none }
def EdgeFirstAllWrongFalsely : Prop := edgeFirstAllRow.holds Try.pinned (OpenSpec.ofChange edgeFirstAllWrong)

/-- 'muxlaw.EdgeFirstLone': WHATEVER THE INPUT: true; the input reads as it did. -/
def edgeFirstLoneSpec : ChangeSpec := { name := "edgeFirstLone", fn := fun _ => fun
  | [] => { results := [.lit (.bool true)], args := [] }
  | _ => none }
def edgeFirstLoneRow : OpenClaim := { program := "qxb6500585a", sum := "c92c3a04bc2123f22d154ebe919c85c92af82cc54471c793e1ae9817214e7b0e", func := "e2e/muxlaw.EdgeFirstLone", spec := "edgeFirstLone", apart := false }
def EdgeFirstLoneSaid : Prop := edgeFirstLoneRow.holds Try.pinned (OpenSpec.ofChange edgeFirstLoneSpec)

/-- ITS FALSE NEIGHBOUR: 'it returns false'. Refute it at one input. -/
def edgeFirstLoneWrong : ChangeSpec := { name := "edgeFirstLone", fn := fun _ => fun
  | [] => { results := [.lit (.bool false)], args := [] }
  | _ => none }
def EdgeFirstLoneWrongFalsely : Prop := edgeFirstLoneRow.holds Try.pinned (OpenSpec.ofChange edgeFirstLoneWrong)

/-- 'muxlaw.EdgeFirstSplit': WHATEVER THE INPUT: true; the input reads as it did. -/
def edgeFirstSplitSpec : ChangeSpec := { name := "edgeFirstSplit", fn := fun _ => fun
  | [] => { results := [.lit (.bool true)], args := [] }
  | _ => none }
def edgeFirstSplitRow : OpenClaim := { program := "qxb6500585a", sum := "c92c3a04bc2123f22d154ebe919c85c92af82cc54471c793e1ae9817214e7b0e", func := "e2e/muxlaw.EdgeFirstSplit", spec := "edgeFirstSplit", apart := false }
def EdgeFirstSplitSaid : Prop := edgeFirstSplitRow.holds Try.pinned (OpenSpec.ofChange edgeFirstSplitSpec)

/-- ITS FALSE NEIGHBOUR: 'it returns false'. Refute it at one input. -/
def edgeFirstSplitWrong : ChangeSpec := { name := "edgeFirstSplit", fn := fun _ => fun
  | [] => { results := [.lit (.bool false)], args := [] }
  | _ => none }
def EdgeFirstSplitWrongFalsely : Prop := edgeFirstSplitRow.holds Try.pinned (OpenSpec.ofChange edgeFirstSplitWrong)

/-- 'muxlaw.EdgeFirstRefuses': WHATEVER THE INPUT: true; the input reads as it did. -/
def edgeFirstRefusesSpec : ChangeSpec := { name := "edgeFirstRefuses", fn := fun _ => fun
  | [] => { results := [.lit (.bool true)], args := [] }
  | _ => none }
def edgeFirstRefusesRow : OpenClaim := { program := "qxb6500585a", sum := "c92c3a04bc2123f22d154ebe919c85c92af82cc54471c793e1ae9817214e7b0e", func := "e2e/muxlaw.EdgeFirstRefuses", spec := "edgeFirstRefuses", apart := false }
def EdgeFirstRefusesSaid : Prop := edgeFirstRefusesRow.holds Try.pinned (OpenSpec.ofChange edgeFirstRefusesSpec)

/-- ITS FALSE NEIGHBOUR: 'it returns false'. Refute it at one input. -/
def edgeFirstRefusesWrong : ChangeSpec := { name := "edgeFirstRefuses", fn := fun _ => fun
  | [] => { results := [.lit (.bool false)], args := [] }
  | _ => none }
def EdgeFirstRefusesWrongFalsely : Prop := edgeFirstRefusesRow.holds Try.pinned (OpenSpec.ofChange edgeFirstRefusesWrong)

/-- 'muxlaw.EdgePairLone': WHATEVER THE INPUT: true; the input reads as it did. -/
def edgePairLoneSpec : ChangeSpec := { name := "edgePairLone", fn := fun _ => fun
  | [] => { results := [.lit (.bool true)], args := [] }
  | _ => none }
def edgePairLoneRow : OpenClaim := { program := "qxb6500585a", sum := "c92c3a04bc2123f22d154ebe919c85c92af82cc54471c793e1ae9817214e7b0e", func := "e2e/muxlaw.EdgePairLone", spec := "edgePairLone", apart := false }
def EdgePairLoneSaid : Prop := edgePairLoneRow.holds Try.pinned (OpenSpec.ofChange edgePairLoneSpec)

/-- ITS FALSE NEIGHBOUR: 'it returns false'. Refute it at one input. -/
def edgePairLoneWrong : ChangeSpec := { name := "edgePairLone", fn := fun _ => fun
  | [] => { results := [.lit (.bool false)], args := [] }
  | _ => none }
def EdgePairLoneWrongFalsely : Prop := edgePairLoneRow.holds Try.pinned (OpenSpec.ofChange edgePairLoneWrong)

/-- 'muxlaw.EdgePairBoth': WHATEVER THE INPUT: true; the input reads as it did. -/
def edgePairBothSpec : ChangeSpec := { name := "edgePairBoth", fn := fun _ => fun
  | [] => { results := [.lit (.bool true)], args := [] }
  | _ => none }
def edgePairBothRow : OpenClaim := { program := "qxb6500585a", sum := "c92c3a04bc2123f22d154ebe919c85c92af82cc54471c793e1ae9817214e7b0e", func := "e2e/muxlaw.EdgePairBoth", spec := "edgePairBoth", apart := false }
def EdgePairBothSaid : Prop := edgePairBothRow.holds Try.pinned (OpenSpec.ofChange edgePairBothSpec)

/-- ITS FALSE NEIGHBOUR: 'it returns false'. Refute it at one input. -/
def edgePairBothWrong : ChangeSpec := { name := "edgePairBoth", fn := fun _ => fun
  | [] => { results := [.lit (.bool false)], args := [] }
  | _ => none }
def EdgePairBothWrongFalsely : Prop := edgePairBothRow.holds Try.pinned (OpenSpec.ofChange edgePairBothWrong)

/-- 'muxlaw.EdgeTotalsFull': WHATEVER THE INPUT: true; the input reads as it did. -/
def edgeTotalsFullSpec : ChangeSpec := { name := "edgeTotalsFull", fn := fun _ => fun
  | [] => { results := [.lit (.bool true)], args := [] }
  | _ => none }
def edgeTotalsFullRow : OpenClaim := { program := "qxb6500585a", sum := "c92c3a04bc2123f22d154ebe919c85c92af82cc54471c793e1ae9817214e7b0e", func := "e2e/muxlaw.EdgeTotalsFull", spec := "edgeTotalsFull", apart := false }
def EdgeTotalsFullSaid : Prop := edgeTotalsFullRow.holds Try.pinned (OpenSpec.ofChange edgeTotalsFullSpec)

/-- ITS FALSE NEIGHBOUR: 'it returns false'. Refute it at one input. -/
def edgeTotalsFullWrong : ChangeSpec := { name := "edgeTotalsFull", fn := fun _ => fun
  | [] => { results := [.lit (.bool false)], args := [] }
  | _ => none }
def EdgeTotalsFullWrongFalsely : Prop := edgeTotalsFullRow.holds Try.pinned (OpenSpec.ofChange edgeTotalsFullWrong)

/-- 'muxlaw.EdgeTotalsEmpty': WHATEVER THE INPUT: true; the input reads as it did. -/
def edgeTotalsEmptySpec : ChangeSpec := { name := "edgeTotalsEmpty", fn := fun _ => fun
  | [] => { results := [.lit (.bool true)], args := [] }
  | _ => none }
def edgeTotalsEmptyRow : OpenClaim := { program := "qxb6500585a", sum := "c92c3a04bc2123f22d154ebe919c85c92af82cc54471c793e1ae9817214e7b0e", func := "e2e/muxlaw.EdgeTotalsEmpty", spec := "edgeTotalsEmpty", apart := false }
def EdgeTotalsEmptySaid : Prop := edgeTotalsEmptyRow.holds Try.pinned (OpenSpec.ofChange edgeTotalsEmptySpec)

/-- ITS FALSE NEIGHBOUR: 'it returns false'. Refute it at one input. -/
def edgeTotalsEmptyWrong : ChangeSpec := { name := "edgeTotalsEmpty", fn := fun _ => fun
  | [] => { results := [.lit (.bool false)], args := [] }
  | _ => none }
def EdgeTotalsEmptyWrongFalsely : Prop := edgeTotalsEmptyRow.holds Try.pinned (OpenSpec.ofChange edgeTotalsEmptyWrong)

/-- 'muxlaw.EdgeTotalsThenMerge': WHATEVER THE INPUT: true; the input reads as it did. -/
def edgeTotalsThenMergeSpec : ChangeSpec := { name := "edgeTotalsThenMerge", fn := fun _ => fun
  | [] => { results := [.lit (.bool true)], args := [] }
  | _ => none }
def edgeTotalsThenMergeRow : OpenClaim := { program := "qxb6500585a", sum := "c92c3a04bc2123f22d154ebe919c85c92af82cc54471c793e1ae9817214e7b0e", func := "e2e/muxlaw.EdgeTotalsThenMerge", spec := "edgeTotalsThenMerge", apart := false }
def EdgeTotalsThenMergeSaid : Prop := edgeTotalsThenMergeRow.holds Try.pinned (OpenSpec.ofChange edgeTotalsThenMergeSpec)

/-- ITS FALSE NEIGHBOUR: 'it returns false'. Refute it at one input. -/
def edgeTotalsThenMergeWrong : ChangeSpec := { name := "edgeTotalsThenMerge", fn := fun _ => fun
  | [] => { results := [.lit (.bool false)], args := [] }
  | _ => none }
def EdgeTotalsThenMergeWrongFalsely : Prop := edgeTotalsThenMergeRow.holds Try.pinned (OpenSpec.ofChange edgeTotalsThenMergeWrong)

end Rows
end Go.Proofs.Qxb6500585a
