/-
  No cell of these rows narrows 'for every input' (looked for: loops, veiled, ifaces, maps, wideKeys, modest, calm, conditions, laid).
  DERIVED. THE GIVEN ROWS OF THIS SEAT. 1 by the template 'for every input the law returns true; each argument reads behind the call as it read before'; 0 by the template 'total and deterministic' (their statements: Qxb6500612aTotals.lean).
  GIVEN WITH THE SEED: the statements are not yours to turn. If you find one false, say at which input.
  Laid BY PROGRAM, IN A SANDBOX (cutbox-rows.mjs): the forced cells as the released guide's own fill.sh prints them over the translation 05a295f8fddfbef2… (all of the seat's roots in one cut). By AI agents, Wed Nov 11 2026. No macro, syntax, notation, axiom, sorry.
-/
import Derived.Test.Qxb6500612aChecked
import GoSem.Claim
import GoSem.ClaimJoined
import GoSem.ClaimMapViews
import Derived.JoinedTies
import Derived.KernelRfl
namespace Go.Proofs.Qxb6500612a
/- THE CELL 'sum', in the pinned program and in every row, IS THE sha256 OF THE DUMP (.gsa) THAT Qxb6500612aProg.lean LOADS. Nothing in Lean hashes anything: it is a label: what it is worth is what the hold of that sum in a sandbox is worth. -/
noncomputable def Try.pinned : Pinned := { name := "qxb6500612a", sum := "05a295f8fddfbef2b0fce3993e07f9dff5f76e284835baec098adcb98738f243", checked := Try.checked }
namespace Rows
def none {H : Type} : Left H := { results := [], args := [] }

/-- 'internlaw.EdgeNil': WHATEVER THE INPUT: true; the input reads as it did. -/
def edgeNilSpec : ChangeSpec := { name := "edgeNil", fn := fun _ => fun
  | [] => { results := [.lit (.bool true)], args := [] }
  | _ => none }
def edgeNilRow : OpenClaim := { program := "qxb6500612a", sum := "05a295f8fddfbef2b0fce3993e07f9dff5f76e284835baec098adcb98738f243", func := "e2e/internlaw.EdgeNil", spec := "edgeNil", apart := false }
def EdgeNilSaid : Prop := edgeNilRow.holds Try.pinned (OpenSpec.ofChange edgeNilSpec)

/-- ITS FALSE NEIGHBOUR: 'it returns false'. Refute it at one input. -/
def edgeNilWrong : ChangeSpec := { name := "edgeNil", fn := fun _ => fun
  | [] => { results := [.lit (.bool false)], args := [] }
  | _ => none }
def EdgeNilWrongFalsely : Prop := edgeNilRow.holds Try.pinned (OpenSpec.ofChange edgeNilWrong)

end Rows
end Go.Proofs.Qxb6500612a
