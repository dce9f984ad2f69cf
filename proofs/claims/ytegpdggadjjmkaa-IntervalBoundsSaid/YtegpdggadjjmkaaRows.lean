/-
  No cell of these rows narrows 'for every input' (looked for: loops, veiled, ifaces, maps, wideKeys, modest, calm, conditions, laid).
  DERIVED. THE GIVEN ROWS OF THIS SEAT. 7 by the template 'for every input the law returns true; each argument reads behind the call as it read before'; 0 by the template 'total and deterministic' (their statements: YtegpdggadjjmkaaTotals.lean).
  GIVEN WITH THE SEED: the statements are not yours to turn. If you find one false, say at which input.
  Laid BY PROGRAM, IN A SANDBOX (cutbox-rows.mjs): the forced cells as the released guide's own fill.sh prints them over the translation 663420688e0162c9… (all of the seat's roots in one cut). By AI agents, Wed Nov 11 2026. No macro, syntax, notation, axiom, sorry.
-/
import Derived.Test.YtegpdggadjjmkaaChecked
import GoSem.Claim
import GoSem.ClaimJoined
import GoSem.ClaimMapViews
import Derived.JoinedTies
import Derived.KernelRfl
namespace Go.Proofs.Ytegpdggadjjmkaa
/- THE CELL 'sum', in the pinned program and in every row, IS THE sha256 OF THE DUMP (.gsa) THAT YtegpdggadjjmkaaProg.lean LOADS. Nothing in Lean hashes anything: it is a label: what it is worth is what the hold of that sum in a sandbox is worth. -/
noncomputable def Try.pinned : Pinned := { name := "ytegpdggadjjmkaa", sum := "663420688e0162c98890416bd161bd36c7b5d1420712cfb524c2803bcecb3a1d", checked := Try.checked }
namespace Rows
def none {H : Type} : Left H := { results := [], args := [] }

/-- 'bogielaw04.IntervalOver': WHATEVER THE INPUT: true; the input reads as it did. -/
def intervalOverSpec : ChangeSpec := { name := "intervalOver", fn := fun _ => fun
  | [d1, d2, d3] => { results := [.lit (.bool true)], args := [d1, d2, d3] }
  | _ => none }
def intervalOverRow : OpenClaim := { program := "ytegpdggadjjmkaa", sum := "663420688e0162c98890416bd161bd36c7b5d1420712cfb524c2803bcecb3a1d", func := "bogie/bogielaw04.IntervalOver", spec := "intervalOver", unfollowed := true, recurses := true, apart := false }
def IntervalOverSaid : Prop := intervalOverRow.holds Try.pinned (OpenSpec.ofChange intervalOverSpec)

/-- ITS FALSE NEIGHBOUR: 'it returns false'. Refute it at one input. -/
def intervalOverWrong : ChangeSpec := { name := "intervalOver", fn := fun _ => fun
  | [d1, d2, d3] => { results := [.lit (.bool false)], args := [d1, d2, d3] }
  | _ => none }
def IntervalOverWrongFalsely : Prop := intervalOverRow.holds Try.pinned (OpenSpec.ofChange intervalOverWrong)

/-- 'bogielaw04.IntervalLogic': WHATEVER THE INPUT: true; the input reads as it did. -/
def intervalLogicSpec : ChangeSpec := { name := "intervalLogic", fn := fun _ => fun
  | [d1, d2, d3] => { results := [.lit (.bool true)], args := [d1, d2, d3] }
  | _ => none }
def intervalLogicRow : OpenClaim := { program := "ytegpdggadjjmkaa", sum := "663420688e0162c98890416bd161bd36c7b5d1420712cfb524c2803bcecb3a1d", func := "bogie/bogielaw04.IntervalLogic", spec := "intervalLogic", unfollowed := true, recurses := true, apart := false }
def IntervalLogicSaid : Prop := intervalLogicRow.holds Try.pinned (OpenSpec.ofChange intervalLogicSpec)

/-- ITS FALSE NEIGHBOUR: 'it returns false'. Refute it at one input. -/
def intervalLogicWrong : ChangeSpec := { name := "intervalLogic", fn := fun _ => fun
  | [d1, d2, d3] => { results := [.lit (.bool false)], args := [d1, d2, d3] }
  | _ => none }
def IntervalLogicWrongFalsely : Prop := intervalLogicRow.holds Try.pinned (OpenSpec.ofChange intervalLogicWrong)

/-- 'bogielaw04.IntervalElements': WHATEVER THE INPUT: true; the input reads as it did. -/
def intervalElementsSpec : ChangeSpec := { name := "intervalElements", fn := fun _ => fun
  | [d1, d2, d3, d4] => { results := [.lit (.bool true)], args := [d1, d2, d3, d4] }
  | _ => none }
def intervalElementsRow : OpenClaim := { program := "ytegpdggadjjmkaa", sum := "663420688e0162c98890416bd161bd36c7b5d1420712cfb524c2803bcecb3a1d", func := "bogie/bogielaw04.IntervalElements", spec := "intervalElements", unfollowed := true, recurses := true, apart := false }
def IntervalElementsSaid : Prop := intervalElementsRow.holds Try.pinned (OpenSpec.ofChange intervalElementsSpec)

/-- ITS FALSE NEIGHBOUR: 'it returns false'. Refute it at one input. -/
def intervalElementsWrong : ChangeSpec := { name := "intervalElements", fn := fun _ => fun
  | [d1, d2, d3, d4] => { results := [.lit (.bool false)], args := [d1, d2, d3, d4] }
  | _ => none }
def IntervalElementsWrongFalsely : Prop := intervalElementsRow.holds Try.pinned (OpenSpec.ofChange intervalElementsWrong)

/-- 'bogielaw04.IntervalBounds': WHATEVER THE INPUT: true; the input reads as it did. -/
def intervalBoundsSpec : ChangeSpec := { name := "intervalBounds", fn := fun _ => fun
  | [d1, d2] => { results := [.lit (.bool true)], args := [d1, d2] }
  | _ => none }
def intervalBoundsRow : OpenClaim := { program := "ytegpdggadjjmkaa", sum := "663420688e0162c98890416bd161bd36c7b5d1420712cfb524c2803bcecb3a1d", func := "bogie/bogielaw04.IntervalBounds", spec := "intervalBounds", unfollowed := true, recurses := true, apart := false }
def IntervalBoundsSaid : Prop := intervalBoundsRow.holds Try.pinned (OpenSpec.ofChange intervalBoundsSpec)

/-- ITS FALSE NEIGHBOUR: 'it returns false'. Refute it at one input. -/
def intervalBoundsWrong : ChangeSpec := { name := "intervalBounds", fn := fun _ => fun
  | [d1, d2] => { results := [.lit (.bool false)], args := [d1, d2] }
  | _ => none }
def IntervalBoundsWrongFalsely : Prop := intervalBoundsRow.holds Try.pinned (OpenSpec.ofChange intervalBoundsWrong)

/-- 'bogielaw04.IntervalOrder': WHATEVER THE INPUT: true; the input reads as it did. -/
def intervalOrderSpec : ChangeSpec := { name := "intervalOrder", fn := fun _ => fun
  | [d1, d2, d3] => { results := [.lit (.bool true)], args := [d1, d2, d3] }
  | _ => none }
def intervalOrderRow : OpenClaim := { program := "ytegpdggadjjmkaa", sum := "663420688e0162c98890416bd161bd36c7b5d1420712cfb524c2803bcecb3a1d", func := "bogie/bogielaw04.IntervalOrder", spec := "intervalOrder", unfollowed := true, recurses := true, apart := false }
def IntervalOrderSaid : Prop := intervalOrderRow.holds Try.pinned (OpenSpec.ofChange intervalOrderSpec)

/-- ITS FALSE NEIGHBOUR: 'it returns false'. Refute it at one input. -/
def intervalOrderWrong : ChangeSpec := { name := "intervalOrder", fn := fun _ => fun
  | [d1, d2, d3] => { results := [.lit (.bool false)], args := [d1, d2, d3] }
  | _ => none }
def IntervalOrderWrongFalsely : Prop := intervalOrderRow.holds Try.pinned (OpenSpec.ofChange intervalOrderWrong)

/-- 'bogielaw04.IntervalParts': WHATEVER THE INPUT: true; the input reads as it did. -/
def intervalPartsSpec : ChangeSpec := { name := "intervalParts", fn := fun _ => fun
  | [d1, d2, d3] => { results := [.lit (.bool true)], args := [d1, d2, d3] }
  | _ => none }
def intervalPartsRow : OpenClaim := { program := "ytegpdggadjjmkaa", sum := "663420688e0162c98890416bd161bd36c7b5d1420712cfb524c2803bcecb3a1d", func := "bogie/bogielaw04.IntervalParts", spec := "intervalParts", unfollowed := true, recurses := true, apart := false }
def IntervalPartsSaid : Prop := intervalPartsRow.holds Try.pinned (OpenSpec.ofChange intervalPartsSpec)

/-- ITS FALSE NEIGHBOUR: 'it returns false'. Refute it at one input. -/
def intervalPartsWrong : ChangeSpec := { name := "intervalParts", fn := fun _ => fun
  | [d1, d2, d3] => { results := [.lit (.bool false)], args := [d1, d2, d3] }
  | _ => none }
def IntervalPartsWrongFalsely : Prop := intervalPartsRow.holds Try.pinned (OpenSpec.ofChange intervalPartsWrong)

/-- 'bogielaw04.IntervalMatchesReference': WHATEVER THE INPUT: true; the input reads as it did. -/
def intervalMatchesReferenceSpec : ChangeSpec := { name := "intervalMatchesReference", fn := fun _ => fun
  | [d1, d2, d3, d4, d5] => { results := [.lit (.bool true)], args := [d1, d2, d3, d4, d5] }
  | _ => none }
def intervalMatchesReferenceRow : OpenClaim := { program := "ytegpdggadjjmkaa", sum := "663420688e0162c98890416bd161bd36c7b5d1420712cfb524c2803bcecb3a1d", func := "bogie/bogielaw04.IntervalMatchesReference", spec := "intervalMatchesReference", unfollowed := true, recurses := true, apart := false }
def IntervalMatchesReferenceSaid : Prop := intervalMatchesReferenceRow.holds Try.pinned (OpenSpec.ofChange intervalMatchesReferenceSpec)

/-- ITS FALSE NEIGHBOUR: 'it returns false'. Refute it at one input. -/
def intervalMatchesReferenceWrong : ChangeSpec := { name := "intervalMatchesReference", fn := fun _ => fun
  | [d1, d2, d3, d4, d5] => { results := [.lit (.bool false)], args := [d1, d2, d3, d4, d5] }
  | _ => none }
def IntervalMatchesReferenceWrongFalsely : Prop := intervalMatchesReferenceRow.holds Try.pinned (OpenSpec.ofChange intervalMatchesReferenceWrong)

/- THE SECOND FORM. 'bulk': how many values and letters a reading holds, each counted each time it is reached (what is shared counts as often as it is met; a slice's spare places count too). A statement '..UptoSaid' is the law's where the arguments, and the package variables that the reading takes, are together of bulk at most 1048576: NARROWER than '..Said'. Prove '..Said' where nothing that the law and all that it calls make is longer than what came in: it says more and counts as full. Else prove '..UptoSaid'. A law counts once. -/
mutual
def uptoBulk {H : Type} : DataW H → Nat
  | .lit (.string bytes) => bytes.length + 1
  | .lit _ => 1
  | .nil => 1
  | .ptr d => uptoBulk d + 1
  | .slice elems spare => uptoBulkAll elems + uptoBulkAll spare + 1
  | .agg parts => uptoBulkAll parts + 1
  | .iface _ d => uptoBulk d + 1
  | .map entries => uptoBulkEntries entries + 1
  | .held _ => 1
def uptoBulkAll {H : Type} : List (DataW H) → Nat
  | [] => 0
  | d :: r => uptoBulk d + uptoBulkAll r
def uptoBulkEntries {H : Type} : List (Lit × DataW H) → Nat
  | [] => 0
  | x :: r => uptoBulkEntry x + uptoBulkEntries r
def uptoBulkEntry {H : Type} : Lit × DataW H → Nat
  | (.string bytes, d) => bytes.length + uptoBulk d + 1
  | (_, d) => uptoBulk d + 1
 end
def uptoSmall : (H : Type) → List (DataW H) → Bool := fun _ ds => decide (uptoBulkAll ds ≤ 1048576)
def OpenSpec.upto (s : _root_.Go.ChangeSpec) : _root_.Go.OpenSpec := { _root_.Go.OpenSpec.ofChange s with cond := some uptoSmall }

/-- 'bogielaw04.IntervalOver', WHERE WHAT IT READS IS OF BULK AT MOST 1048576: true; the input reads as it did. -/
def intervalOverUptoRow : OpenClaim := { program := "ytegpdggadjjmkaa", sum := "663420688e0162c98890416bd161bd36c7b5d1420712cfb524c2803bcecb3a1d", func := "bogie/bogielaw04.IntervalOver", spec := "intervalOver", unfollowed := true, recurses := true, apart := false, narrowed := true }
def IntervalOverUptoSaid : Prop := intervalOverUptoRow.holds Try.pinned (OpenSpec.upto intervalOverSpec)

/-- 'bogielaw04.IntervalLogic', WHERE WHAT IT READS IS OF BULK AT MOST 1048576: true; the input reads as it did. -/
def intervalLogicUptoRow : OpenClaim := { program := "ytegpdggadjjmkaa", sum := "663420688e0162c98890416bd161bd36c7b5d1420712cfb524c2803bcecb3a1d", func := "bogie/bogielaw04.IntervalLogic", spec := "intervalLogic", unfollowed := true, recurses := true, apart := false, narrowed := true }
def IntervalLogicUptoSaid : Prop := intervalLogicUptoRow.holds Try.pinned (OpenSpec.upto intervalLogicSpec)

/-- 'bogielaw04.IntervalElements', WHERE WHAT IT READS IS OF BULK AT MOST 1048576: true; the input reads as it did. -/
def intervalElementsUptoRow : OpenClaim := { program := "ytegpdggadjjmkaa", sum := "663420688e0162c98890416bd161bd36c7b5d1420712cfb524c2803bcecb3a1d", func := "bogie/bogielaw04.IntervalElements", spec := "intervalElements", unfollowed := true, recurses := true, apart := false, narrowed := true }
def IntervalElementsUptoSaid : Prop := intervalElementsUptoRow.holds Try.pinned (OpenSpec.upto intervalElementsSpec)

/-- 'bogielaw04.IntervalBounds', WHERE WHAT IT READS IS OF BULK AT MOST 1048576: true; the input reads as it did. -/
def intervalBoundsUptoRow : OpenClaim := { program := "ytegpdggadjjmkaa", sum := "663420688e0162c98890416bd161bd36c7b5d1420712cfb524c2803bcecb3a1d", func := "bogie/bogielaw04.IntervalBounds", spec := "intervalBounds", unfollowed := true, recurses := true, apart := false, narrowed := true }
def IntervalBoundsUptoSaid : Prop := intervalBoundsUptoRow.holds Try.pinned (OpenSpec.upto intervalBoundsSpec)

/-- 'bogielaw04.IntervalOrder', WHERE WHAT IT READS IS OF BULK AT MOST 1048576: true; the input reads as it did. -/
def intervalOrderUptoRow : OpenClaim := { program := "ytegpdggadjjmkaa", sum := "663420688e0162c98890416bd161bd36c7b5d1420712cfb524c2803bcecb3a1d", func := "bogie/bogielaw04.IntervalOrder", spec := "intervalOrder", unfollowed := true, recurses := true, apart := false, narrowed := true }
def IntervalOrderUptoSaid : Prop := intervalOrderUptoRow.holds Try.pinned (OpenSpec.upto intervalOrderSpec)

/-- 'bogielaw04.IntervalParts', WHERE WHAT IT READS IS OF BULK AT MOST 1048576: true; the input reads as it did. -/
def intervalPartsUptoRow : OpenClaim := { program := "ytegpdggadjjmkaa", sum := "663420688e0162c98890416bd161bd36c7b5d1420712cfb524c2803bcecb3a1d", func := "bogie/bogielaw04.IntervalParts", spec := "intervalParts", unfollowed := true, recurses := true, apart := false, narrowed := true }
def IntervalPartsUptoSaid : Prop := intervalPartsUptoRow.holds Try.pinned (OpenSpec.upto intervalPartsSpec)

/-- 'bogielaw04.IntervalMatchesReference', WHERE WHAT IT READS IS OF BULK AT MOST 1048576: true; the input reads as it did. -/
def intervalMatchesReferenceUptoRow : OpenClaim := { program := "ytegpdggadjjmkaa", sum := "663420688e0162c98890416bd161bd36c7b5d1420712cfb524c2803bcecb3a1d", func := "bogie/bogielaw04.IntervalMatchesReference", spec := "intervalMatchesReference", unfollowed := true, recurses := true, apart := false, narrowed := true }
def IntervalMatchesReferenceUptoSaid : Prop := intervalMatchesReferenceUptoRow.holds Try.pinned (OpenSpec.upto intervalMatchesReferenceSpec)

end Rows
end Go.Proofs.Ytegpdggadjjmkaa
