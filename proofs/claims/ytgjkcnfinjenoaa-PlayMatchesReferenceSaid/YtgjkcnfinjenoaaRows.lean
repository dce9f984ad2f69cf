/-
  No cell of these rows narrows 'for every input' (looked for: loops, veiled, ifaces, maps, wideKeys, modest, calm, conditions, laid).
  DERIVED. THE GIVEN ROWS OF THIS SEAT. 6 by the template 'for every input the law returns true; each argument reads behind the call as it read before'; 0 by the template 'total and deterministic' (their statements: YtgjkcnfinjenoaaTotals.lean).
  GIVEN WITH THE SEED: the statements are not yours to turn. If you find one false, say at which input.
  Laid BY PROGRAM, IN A SANDBOX (cutbox-rows.mjs): the forced cells as the released guide's own fill.sh prints them over the translation 433eb68def41c135… (all of the seat's roots in one cut). By AI agents, Wed Nov 11 2026. No macro, syntax, notation, axiom, sorry.
-/
import Derived.Test.YtgjkcnfinjenoaaChecked
import GoSem.Claim
import GoSem.ClaimJoined
import GoSem.ClaimMapViews
import Derived.JoinedTies
import Derived.KernelRfl
namespace Go.Proofs.Ytgjkcnfinjenoaa
/- THE CELL 'sum', in the pinned program and in every row, IS THE sha256 OF THE DUMP (.gsa) THAT YtgjkcnfinjenoaaProg.lean LOADS. Nothing in Lean hashes anything: it is a label: what it is worth is what the hold of that sum in a sandbox is worth. -/
noncomputable def Try.pinned : Pinned := { name := "ytgjkcnfinjenoaa", sum := "433eb68def41c135145377c56a636dcd78e2ffbabdde15991b17f91a192d140c", checked := Try.checked }
namespace Rows
def none {H : Type} : Left H := { results := [], args := [] }

/-- 'bogielaw41.PlayMatchesReference': WHATEVER THE INPUT: true; the input reads as it did. -/
def playMatchesReferenceSpec : ChangeSpec := { name := "playMatchesReference", fn := fun _ => fun
  | [d1, d2, d3] => { results := [.lit (.bool true)], args := [d1, d2, d3] }
  | _ => none }
def playMatchesReferenceRow : OpenClaim := { program := "ytgjkcnfinjenoaa", sum := "433eb68def41c135145377c56a636dcd78e2ffbabdde15991b17f91a192d140c", func := "bogie/bogielaw41.PlayMatchesReference", spec := "playMatchesReference", unfollowed := true, recurses := true, plainKeys := false, apart := false }
def PlayMatchesReferenceSaid : Prop := playMatchesReferenceRow.holds Try.pinned (OpenSpec.ofChange playMatchesReferenceSpec)

/-- ITS FALSE NEIGHBOUR: 'it returns false'. Refute it at one input. -/
def playMatchesReferenceWrong : ChangeSpec := { name := "playMatchesReference", fn := fun _ => fun
  | [d1, d2, d3] => { results := [.lit (.bool false)], args := [d1, d2, d3] }
  | _ => none }
def PlayMatchesReferenceWrongFalsely : Prop := playMatchesReferenceRow.holds Try.pinned (OpenSpec.ofChange playMatchesReferenceWrong)

/-- 'bogielaw41.PlayWorst': WHATEVER THE INPUT: true; the input reads as it did. -/
def playWorstSpec : ChangeSpec := { name := "playWorst", fn := fun _ => fun
  | [d1, d2, d3] => { results := [.lit (.bool true)], args := [d1, d2, d3] }
  | _ => none }
def playWorstRow : OpenClaim := { program := "ytgjkcnfinjenoaa", sum := "433eb68def41c135145377c56a636dcd78e2ffbabdde15991b17f91a192d140c", func := "bogie/bogielaw41.PlayWorst", spec := "playWorst", unfollowed := true, recurses := true, plainKeys := false, apart := false }
def PlayWorstSaid : Prop := playWorstRow.holds Try.pinned (OpenSpec.ofChange playWorstSpec)

/-- ITS FALSE NEIGHBOUR: 'it returns false'. Refute it at one input. -/
def playWorstWrong : ChangeSpec := { name := "playWorst", fn := fun _ => fun
  | [d1, d2, d3] => { results := [.lit (.bool false)], args := [d1, d2, d3] }
  | _ => none }
def PlayWorstWrongFalsely : Prop := playWorstRow.holds Try.pinned (OpenSpec.ofChange playWorstWrong)

/-- 'bogielaw41.PlayPositions': WHATEVER THE INPUT: true; the input reads as it did. -/
def playPositionsSpec : ChangeSpec := { name := "playPositions", fn := fun _ => fun
  | [d1, d2, d3, d4] => { results := [.lit (.bool true)], args := [d1, d2, d3, d4] }
  | _ => none }
def playPositionsRow : OpenClaim := { program := "ytgjkcnfinjenoaa", sum := "433eb68def41c135145377c56a636dcd78e2ffbabdde15991b17f91a192d140c", func := "bogie/bogielaw41.PlayPositions", spec := "playPositions", unfollowed := true, recurses := true, plainKeys := false, apart := false }
def PlayPositionsSaid : Prop := playPositionsRow.holds Try.pinned (OpenSpec.ofChange playPositionsSpec)

/-- ITS FALSE NEIGHBOUR: 'it returns false'. Refute it at one input. -/
def playPositionsWrong : ChangeSpec := { name := "playPositions", fn := fun _ => fun
  | [d1, d2, d3, d4] => { results := [.lit (.bool false)], args := [d1, d2, d3, d4] }
  | _ => none }
def PlayPositionsWrongFalsely : Prop := playPositionsRow.holds Try.pinned (OpenSpec.ofChange playPositionsWrong)

/-- 'bogielaw41.PlayBegins': WHATEVER THE INPUT: true; the input reads as it did. -/
def playBeginsSpec : ChangeSpec := { name := "playBegins", fn := fun _ => fun
  | [d1, d2, d3, d4] => { results := [.lit (.bool true)], args := [d1, d2, d3, d4] }
  | _ => none }
def playBeginsRow : OpenClaim := { program := "ytgjkcnfinjenoaa", sum := "433eb68def41c135145377c56a636dcd78e2ffbabdde15991b17f91a192d140c", func := "bogie/bogielaw41.PlayBegins", spec := "playBegins", unfollowed := true, recurses := true, plainKeys := false, apart := false }
def PlayBeginsSaid : Prop := playBeginsRow.holds Try.pinned (OpenSpec.ofChange playBeginsSpec)

/-- ITS FALSE NEIGHBOUR: 'it returns false'. Refute it at one input. -/
def playBeginsWrong : ChangeSpec := { name := "playBegins", fn := fun _ => fun
  | [d1, d2, d3, d4] => { results := [.lit (.bool false)], args := [d1, d2, d3, d4] }
  | _ => none }
def PlayBeginsWrongFalsely : Prop := playBeginsRow.holds Try.pinned (OpenSpec.ofChange playBeginsWrong)

/-- 'bogielaw41.PlayCalm': WHATEVER THE INPUT: true; the input reads as it did. -/
def playCalmSpec : ChangeSpec := { name := "playCalm", fn := fun _ => fun
  | [d1, d2] => { results := [.lit (.bool true)], args := [d1, d2] }
  | _ => none }
def playCalmRow : OpenClaim := { program := "ytgjkcnfinjenoaa", sum := "433eb68def41c135145377c56a636dcd78e2ffbabdde15991b17f91a192d140c", func := "bogie/bogielaw41.PlayCalm", spec := "playCalm", unfollowed := true, recurses := true, plainKeys := false, apart := false }
def PlayCalmSaid : Prop := playCalmRow.holds Try.pinned (OpenSpec.ofChange playCalmSpec)

/-- ITS FALSE NEIGHBOUR: 'it returns false'. Refute it at one input. -/
def playCalmWrong : ChangeSpec := { name := "playCalm", fn := fun _ => fun
  | [d1, d2] => { results := [.lit (.bool false)], args := [d1, d2] }
  | _ => none }
def PlayCalmWrongFalsely : Prop := playCalmRow.holds Try.pinned (OpenSpec.ofChange playCalmWrong)

/-- 'bogielaw41.PlayPlans': WHATEVER THE INPUT: true; the input reads as it did. -/
def playPlansSpec : ChangeSpec := { name := "playPlans", fn := fun _ => fun
  | [d1, d2] => { results := [.lit (.bool true)], args := [d1, d2] }
  | _ => none }
def playPlansRow : OpenClaim := { program := "ytgjkcnfinjenoaa", sum := "433eb68def41c135145377c56a636dcd78e2ffbabdde15991b17f91a192d140c", func := "bogie/bogielaw41.PlayPlans", spec := "playPlans", unfollowed := true, recurses := true, plainKeys := false, apart := false }
def PlayPlansSaid : Prop := playPlansRow.holds Try.pinned (OpenSpec.ofChange playPlansSpec)

/-- ITS FALSE NEIGHBOUR: 'it returns false'. Refute it at one input. -/
def playPlansWrong : ChangeSpec := { name := "playPlans", fn := fun _ => fun
  | [d1, d2] => { results := [.lit (.bool false)], args := [d1, d2] }
  | _ => none }
def PlayPlansWrongFalsely : Prop := playPlansRow.holds Try.pinned (OpenSpec.ofChange playPlansWrong)

/- THE SECOND FORM. 'bulk': how many values and letters a reading holds, each counted each time it is reached (what is shared counts as often as it is met; a slice's spare places count too). A statement '..UptoSaid' is the law's where the arguments, and the package variables that the reading takes, are together of bulk at most 1048576: NARROWER than '..Said'. Prove '..Said' where nothing that the law and all that it calls make is longer than what came in: it says more and counts as full. Else prove '..UptoSaid'. A law counts once. -/
mutual
def uptoBulk {H : Type} : DataW H → Nat
  | .lit (.string bytes) => bytes.length + 1
  | .lit _ => 1
  | .nil => 1
  | .ptr d => uptoBulk d + 1
  | .slice elems spare => uptoBulkAll elems + uptoBulkAll spare + 1
  | .agg parts => uptoBulkAll parts + 1
  | .iface _ d => uptoBulk d + 1
  | .map entries => uptoBulkEntries entries + 1
  | .held _ => 1
def uptoBulkAll {H : Type} : List (DataW H) → Nat
  | [] => 0
  | d :: r => uptoBulk d + uptoBulkAll r
def uptoBulkEntries {H : Type} : List (Lit × DataW H) → Nat
  | [] => 0
  | x :: r => uptoBulkEntry x + uptoBulkEntries r
def uptoBulkEntry {H : Type} : Lit × DataW H → Nat
  | (.string bytes, d) => bytes.length + uptoBulk d + 1
  | (_, d) => uptoBulk d + 1
 end
def uptoSmall : (H : Type) → List (DataW H) → Bool := fun _ ds => decide (uptoBulkAll ds ≤ 1048576)
def OpenSpec.upto (s : _root_.Go.ChangeSpec) : _root_.Go.OpenSpec := { _root_.Go.OpenSpec.ofChange s with cond := some uptoSmall }

/-- 'bogielaw41.PlayMatchesReference', WHERE WHAT IT READS IS OF BULK AT MOST 1048576: true; the input reads as it did. -/
def playMatchesReferenceUptoRow : OpenClaim := { program := "ytgjkcnfinjenoaa", sum := "433eb68def41c135145377c56a636dcd78e2ffbabdde15991b17f91a192d140c", func := "bogie/bogielaw41.PlayMatchesReference", spec := "playMatchesReference", unfollowed := true, recurses := true, plainKeys := false, apart := false, narrowed := true }
def PlayMatchesReferenceUptoSaid : Prop := playMatchesReferenceUptoRow.holds Try.pinned (OpenSpec.upto playMatchesReferenceSpec)

/-- 'bogielaw41.PlayWorst', WHERE WHAT IT READS IS OF BULK AT MOST 1048576: true; the input reads as it did. -/
def playWorstUptoRow : OpenClaim := { program := "ytgjkcnfinjenoaa", sum := "433eb68def41c135145377c56a636dcd78e2ffbabdde15991b17f91a192d140c", func := "bogie/bogielaw41.PlayWorst", spec := "playWorst", unfollowed := true, recurses := true, plainKeys := false, apart := false, narrowed := true }
def PlayWorstUptoSaid : Prop := playWorstUptoRow.holds Try.pinned (OpenSpec.upto playWorstSpec)

/-- 'bogielaw41.PlayPositions', WHERE WHAT IT READS IS OF BULK AT MOST 1048576: true; the input reads as it did. -/
def playPositionsUptoRow : OpenClaim := { program := "ytgjkcnfinjenoaa", sum := "433eb68def41c135145377c56a636dcd78e2ffbabdde15991b17f91a192d140c", func := "bogie/bogielaw41.PlayPositions", spec := "playPositions", unfollowed := true, recurses := true, plainKeys := false, apart := false, narrowed := true }
def PlayPositionsUptoSaid : Prop := playPositionsUptoRow.holds Try.pinned (OpenSpec.upto playPositionsSpec)

/-- 'bogielaw41.PlayBegins', WHERE WHAT IT READS IS OF BULK AT MOST 1048576: true; the input reads as it did. -/
def playBeginsUptoRow : OpenClaim := { program := "ytgjkcnfinjenoaa", sum := "433eb68def41c135145377c56a636dcd78e2ffbabdde15991b17f91a192d140c", func := "bogie/bogielaw41.PlayBegins", spec := "playBegins", unfollowed := true, recurses := true, plainKeys := false, apart := false, narrowed := true }
def PlayBeginsUptoSaid : Prop := playBeginsUptoRow.holds Try.pinned (OpenSpec.upto playBeginsSpec)

/-- 'bogielaw41.PlayCalm', WHERE WHAT IT READS IS OF BULK AT MOST 1048576: true; the input reads as it did. -/
def playCalmUptoRow : OpenClaim := { program := "ytgjkcnfinjenoaa", sum := "433eb68def41c135145377c56a636dcd78e2ffbabdde15991b17f91a192d140c", func := "bogie/bogielaw41.PlayCalm", spec := "playCalm", unfollowed := true, recurses := true, plainKeys := false, apart := false, narrowed := true }
def PlayCalmUptoSaid : Prop := playCalmUptoRow.holds Try.pinned (OpenSpec.upto playCalmSpec)

/-- 'bogielaw41.PlayPlans', WHERE WHAT IT READS IS OF BULK AT MOST 1048576: true; the input reads as it did. -/
def playPlansUptoRow : OpenClaim := { program := "ytgjkcnfinjenoaa", sum := "433eb68def41c135145377c56a636dcd78e2ffbabdde15991b17f91a192d140c", func := "bogie/bogielaw41.PlayPlans", spec := "playPlans", unfollowed := true, recurses := true, plainKeys := false, apart := false, narrowed := true }
def PlayPlansUptoSaid : Prop := playPlansUptoRow.holds Try.pinned (OpenSpec.upto playPlansSpec)

end Rows
end Go.Proofs.Ytgjkcnfinjenoaa
