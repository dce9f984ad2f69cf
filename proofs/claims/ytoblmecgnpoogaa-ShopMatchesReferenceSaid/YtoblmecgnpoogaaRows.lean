/-
  No cell of these rows narrows 'for every input' (looked for: loops, veiled, ifaces, maps, wideKeys, modest, calm, conditions, laid).
  DERIVED. THE GIVEN ROWS OF THIS SEAT. 7 by the template 'for every input the law returns true; each argument reads behind the call as it read before'; 0 by the template 'total and deterministic' (their statements: YtoblmecgnpoogaaTotals.lean).
  GIVEN WITH THE SEED: the statements are not yours to turn. If you find one false, say at which input.
  Laid BY PROGRAM, IN A SANDBOX (cutbox-rows.mjs): the forced cells as the released guide's own fill.sh prints them over the translation f7379e84b779abdc… (all of the seat's roots in one cut). By AI agents, Wed Nov 11 2026. No macro, syntax, notation, axiom, sorry.
-/
import Derived.Test.YtoblmecgnpoogaaChecked
import GoSem.Claim
import GoSem.ClaimJoined
import GoSem.ClaimMapViews
import Derived.JoinedTies
import Derived.KernelRfl
namespace Go.Proofs.Ytoblmecgnpoogaa
/- THE CELL 'sum', in the pinned program and in every row, IS THE sha256 OF THE DUMP (.gsa) THAT YtoblmecgnpoogaaProg.lean LOADS. Nothing in Lean hashes anything: it is a label: what it is worth is what the hold of that sum in a sandbox is worth. -/
noncomputable def Try.pinned : Pinned := { name := "ytoblmecgnpoogaa", sum := "f7379e84b779abdce174a12a2232faebe2091f780c2e17ea0eec82f674149f0d", checked := Try.checked }
namespace Rows
def none {H : Type} : Left H := { results := [], args := [] }

/-- 'bogielaw38.ShopMatchesReference': WHATEVER THE INPUT: true; the input reads as it did. -/
def shopMatchesReferenceSpec : ChangeSpec := { name := "shopMatchesReference", fn := fun _ => fun
  | [d1, d2, d3] => { results := [.lit (.bool true)], args := [d1, d2, d3] }
  | _ => none }
def shopMatchesReferenceRow : OpenClaim := { program := "ytoblmecgnpoogaa", sum := "f7379e84b779abdce174a12a2232faebe2091f780c2e17ea0eec82f674149f0d", func := "bogie/bogielaw38.ShopMatchesReference", spec := "shopMatchesReference", inPlace := ["slices.overlaps[int]"], unfollowed := true, recurses := true, apart := false }
def ShopMatchesReferenceSaid : Prop := shopMatchesReferenceRow.holds Try.pinned (OpenSpec.ofChange shopMatchesReferenceSpec)

/-- ITS FALSE NEIGHBOUR: 'it returns false'. Refute it at one input. -/
def shopMatchesReferenceWrong : ChangeSpec := { name := "shopMatchesReference", fn := fun _ => fun
  | [d1, d2, d3] => { results := [.lit (.bool false)], args := [d1, d2, d3] }
  | _ => none }
def ShopMatchesReferenceWrongFalsely : Prop := shopMatchesReferenceRow.holds Try.pinned (OpenSpec.ofChange shopMatchesReferenceWrong)

/-- 'bogielaw38.ShopPlans': WHATEVER THE INPUT: true; the input reads as it did. -/
def shopPlansSpec : ChangeSpec := { name := "shopPlans", fn := fun _ => fun
  | [d1, d2] => { results := [.lit (.bool true)], args := [d1, d2] }
  | _ => none }
def shopPlansRow : OpenClaim := { program := "ytoblmecgnpoogaa", sum := "f7379e84b779abdce174a12a2232faebe2091f780c2e17ea0eec82f674149f0d", func := "bogie/bogielaw38.ShopPlans", spec := "shopPlans", inPlace := ["slices.overlaps[int]"], unfollowed := true, recurses := true, apart := false }
def ShopPlansSaid : Prop := shopPlansRow.holds Try.pinned (OpenSpec.ofChange shopPlansSpec)

/-- ITS FALSE NEIGHBOUR: 'it returns false'. Refute it at one input. -/
def shopPlansWrong : ChangeSpec := { name := "shopPlans", fn := fun _ => fun
  | [d1, d2] => { results := [.lit (.bool false)], args := [d1, d2] }
  | _ => none }
def ShopPlansWrongFalsely : Prop := shopPlansRow.holds Try.pinned (OpenSpec.ofChange shopPlansWrong)

/-- 'bogielaw38.ShopWaits': WHATEVER THE INPUT: true; the input reads as it did. -/
def shopWaitsSpec : ChangeSpec := { name := "shopWaits", fn := fun _ => fun
  | [d1, d2, d3, d4] => { results := [.lit (.bool true)], args := [d1, d2, d3, d4] }
  | _ => none }
def shopWaitsRow : OpenClaim := { program := "ytoblmecgnpoogaa", sum := "f7379e84b779abdce174a12a2232faebe2091f780c2e17ea0eec82f674149f0d", func := "bogie/bogielaw38.ShopWaits", spec := "shopWaits", inPlace := ["slices.overlaps[int]"], unfollowed := true, recurses := true, apart := false }
def ShopWaitsSaid : Prop := shopWaitsRow.holds Try.pinned (OpenSpec.ofChange shopWaitsSpec)

/-- ITS FALSE NEIGHBOUR: 'it returns false'. Refute it at one input. -/
def shopWaitsWrong : ChangeSpec := { name := "shopWaits", fn := fun _ => fun
  | [d1, d2, d3, d4] => { results := [.lit (.bool false)], args := [d1, d2, d3, d4] }
  | _ => none }
def ShopWaitsWrongFalsely : Prop := shopWaitsRow.holds Try.pinned (OpenSpec.ofChange shopWaitsWrong)

/-- 'bogielaw38.ShopLater': WHATEVER THE INPUT: true; the input reads as it did. -/
def shopLaterSpec : ChangeSpec := { name := "shopLater", fn := fun _ => fun
  | [d1, d2, d3, d4, d5, d6] => { results := [.lit (.bool true)], args := [d1, d2, d3, d4, d5, d6] }
  | _ => none }
def shopLaterRow : OpenClaim := { program := "ytoblmecgnpoogaa", sum := "f7379e84b779abdce174a12a2232faebe2091f780c2e17ea0eec82f674149f0d", func := "bogie/bogielaw38.ShopLater", spec := "shopLater", inPlace := ["slices.overlaps[int]"], unfollowed := true, recurses := true, apart := false }
def ShopLaterSaid : Prop := shopLaterRow.holds Try.pinned (OpenSpec.ofChange shopLaterSpec)

/-- ITS FALSE NEIGHBOUR: 'it returns false'. Refute it at one input. -/
def shopLaterWrong : ChangeSpec := { name := "shopLater", fn := fun _ => fun
  | [d1, d2, d3, d4, d5, d6] => { results := [.lit (.bool false)], args := [d1, d2, d3, d4, d5, d6] }
  | _ => none }
def ShopLaterWrongFalsely : Prop := shopLaterRow.holds Try.pinned (OpenSpec.ofChange shopLaterWrong)

/-- 'bogielaw38.ShopFewer': WHATEVER THE INPUT: true; the input reads as it did. -/
def shopFewerSpec : ChangeSpec := { name := "shopFewer", fn := fun _ => fun
  | [d1, d2, d3] => { results := [.lit (.bool true)], args := [d1, d2, d3] }
  | _ => none }
def shopFewerRow : OpenClaim := { program := "ytoblmecgnpoogaa", sum := "f7379e84b779abdce174a12a2232faebe2091f780c2e17ea0eec82f674149f0d", func := "bogie/bogielaw38.ShopFewer", spec := "shopFewer", inPlace := ["slices.overlaps[int]"], unfollowed := true, recurses := true, apart := false }
def ShopFewerSaid : Prop := shopFewerRow.holds Try.pinned (OpenSpec.ofChange shopFewerSpec)

/-- ITS FALSE NEIGHBOUR: 'it returns false'. Refute it at one input. -/
def shopFewerWrong : ChangeSpec := { name := "shopFewer", fn := fun _ => fun
  | [d1, d2, d3] => { results := [.lit (.bool false)], args := [d1, d2, d3] }
  | _ => none }
def ShopFewerWrongFalsely : Prop := shopFewerRow.holds Try.pinned (OpenSpec.ofChange shopFewerWrong)

/-- 'bogielaw38.ShopBounds': WHATEVER THE INPUT: true; the input reads as it did. -/
def shopBoundsSpec : ChangeSpec := { name := "shopBounds", fn := fun _ => fun
  | [d1, d2] => { results := [.lit (.bool true)], args := [d1, d2] }
  | _ => none }
def shopBoundsRow : OpenClaim := { program := "ytoblmecgnpoogaa", sum := "f7379e84b779abdce174a12a2232faebe2091f780c2e17ea0eec82f674149f0d", func := "bogie/bogielaw38.ShopBounds", spec := "shopBounds", inPlace := ["slices.overlaps[int]"], unfollowed := true, recurses := true, apart := false }
def ShopBoundsSaid : Prop := shopBoundsRow.holds Try.pinned (OpenSpec.ofChange shopBoundsSpec)

/-- ITS FALSE NEIGHBOUR: 'it returns false'. Refute it at one input. -/
def shopBoundsWrong : ChangeSpec := { name := "shopBounds", fn := fun _ => fun
  | [d1, d2] => { results := [.lit (.bool false)], args := [d1, d2] }
  | _ => none }
def ShopBoundsWrongFalsely : Prop := shopBoundsRow.holds Try.pinned (OpenSpec.ofChange shopBoundsWrong)

/-- 'bogielaw38.ShopEnds': WHATEVER THE INPUT: true; the input reads as it did. -/
def shopEndsSpec : ChangeSpec := { name := "shopEnds", fn := fun _ => fun
  | [d1, d2, d3] => { results := [.lit (.bool true)], args := [d1, d2, d3] }
  | _ => none }
def shopEndsRow : OpenClaim := { program := "ytoblmecgnpoogaa", sum := "f7379e84b779abdce174a12a2232faebe2091f780c2e17ea0eec82f674149f0d", func := "bogie/bogielaw38.ShopEnds", spec := "shopEnds", inPlace := ["slices.overlaps[int]"], unfollowed := true, recurses := true, apart := false }
def ShopEndsSaid : Prop := shopEndsRow.holds Try.pinned (OpenSpec.ofChange shopEndsSpec)

/-- ITS FALSE NEIGHBOUR: 'it returns false'. Refute it at one input. -/
def shopEndsWrong : ChangeSpec := { name := "shopEnds", fn := fun _ => fun
  | [d1, d2, d3] => { results := [.lit (.bool false)], args := [d1, d2, d3] }
  | _ => none }
def ShopEndsWrongFalsely : Prop := shopEndsRow.holds Try.pinned (OpenSpec.ofChange shopEndsWrong)

/- THE SECOND FORM. 'bulk': how many values and letters a reading holds, each counted each time it is reached (what is shared counts as often as it is met; a slice's spare places count too). A statement '..UptoSaid' is the law's where the arguments, and the package variables that the reading takes, are together of bulk at most 1048576: NARROWER than '..Said'. Prove '..Said' where nothing that the law and all that it calls make is longer than what came in: it says more and counts as full. Else prove '..UptoSaid'. A law counts once. -/
mutual
def uptoBulk {H : Type} : DataW H → Nat
  | .lit (.string bytes) => bytes.length + 1
  | .lit _ => 1
  | .nil => 1
  | .ptr d => uptoBulk d + 1
  | .slice elems spare => uptoBulkAll elems + uptoBulkAll spare + 1
  | .agg parts => uptoBulkAll parts + 1
  | .iface _ d => uptoBulk d + 1
  | .map entries => uptoBulkEntries entries + 1
  | .held _ => 1
def uptoBulkAll {H : Type} : List (DataW H) → Nat
  | [] => 0
  | d :: r => uptoBulk d + uptoBulkAll r
def uptoBulkEntries {H : Type} : List (Lit × DataW H) → Nat
  | [] => 0
  | x :: r => uptoBulkEntry x + uptoBulkEntries r
def uptoBulkEntry {H : Type} : Lit × DataW H → Nat
  | (.string bytes, d) => bytes.length + uptoBulk d + 1
  | (_, d) => uptoBulk d + 1
 end
def uptoSmall : (H : Type) → List (DataW H) → Bool := fun _ ds => decide (uptoBulkAll ds ≤ 1048576)
def OpenSpec.upto (s : _root_.Go.ChangeSpec) : _root_.Go.OpenSpec := { _root_.Go.OpenSpec.ofChange s with cond := some uptoSmall }

/-- 'bogielaw38.ShopMatchesReference', WHERE WHAT IT READS IS OF BULK AT MOST 1048576: true; the input reads as it did. -/
def shopMatchesReferenceUptoRow : OpenClaim := { program := "ytoblmecgnpoogaa", sum := "f7379e84b779abdce174a12a2232faebe2091f780c2e17ea0eec82f674149f0d", func := "bogie/bogielaw38.ShopMatchesReference", spec := "shopMatchesReference", inPlace := ["slices.overlaps[int]"], unfollowed := true, recurses := true, apart := false, narrowed := true }
def ShopMatchesReferenceUptoSaid : Prop := shopMatchesReferenceUptoRow.holds Try.pinned (OpenSpec.upto shopMatchesReferenceSpec)

/-- 'bogielaw38.ShopPlans', WHERE WHAT IT READS IS OF BULK AT MOST 1048576: true; the input reads as it did. -/
def shopPlansUptoRow : OpenClaim := { program := "ytoblmecgnpoogaa", sum := "f7379e84b779abdce174a12a2232faebe2091f780c2e17ea0eec82f674149f0d", func := "bogie/bogielaw38.ShopPlans", spec := "shopPlans", inPlace := ["slices.overlaps[int]"], unfollowed := true, recurses := true, apart := false, narrowed := true }
def ShopPlansUptoSaid : Prop := shopPlansUptoRow.holds Try.pinned (OpenSpec.upto shopPlansSpec)

/-- 'bogielaw38.ShopWaits', WHERE WHAT IT READS IS OF BULK AT MOST 1048576: true; the input reads as it did. -/
def shopWaitsUptoRow : OpenClaim := { program := "ytoblmecgnpoogaa", sum := "f7379e84b779abdce174a12a2232faebe2091f780c2e17ea0eec82f674149f0d", func := "bogie/bogielaw38.ShopWaits", spec := "shopWaits", inPlace := ["slices.overlaps[int]"], unfollowed := true, recurses := true, apart := false, narrowed := true }
def ShopWaitsUptoSaid : Prop := shopWaitsUptoRow.holds Try.pinned (OpenSpec.upto shopWaitsSpec)

/-- 'bogielaw38.ShopLater', WHERE WHAT IT READS IS OF BULK AT MOST 1048576: true; the input reads as it did. -/
def shopLaterUptoRow : OpenClaim := { program := "ytoblmecgnpoogaa", sum := "f7379e84b779abdce174a12a2232faebe2091f780c2e17ea0eec82f674149f0d", func := "bogie/bogielaw38.ShopLater", spec := "shopLater", inPlace := ["slices.overlaps[int]"], unfollowed := true, recurses := true, apart := false, narrowed := true }
def ShopLaterUptoSaid : Prop := shopLaterUptoRow.holds Try.pinned (OpenSpec.upto shopLaterSpec)

/-- 'bogielaw38.ShopFewer', WHERE WHAT IT READS IS OF BULK AT MOST 1048576: true; the input reads as it did. -/
def shopFewerUptoRow : OpenClaim := { program := "ytoblmecgnpoogaa", sum := "f7379e84b779abdce174a12a2232faebe2091f780c2e17ea0eec82f674149f0d", func := "bogie/bogielaw38.ShopFewer", spec := "shopFewer", inPlace := ["slices.overlaps[int]"], unfollowed := true, recurses := true, apart := false, narrowed := true }
def ShopFewerUptoSaid : Prop := shopFewerUptoRow.holds Try.pinned (OpenSpec.upto shopFewerSpec)

/-- 'bogielaw38.ShopBounds', WHERE WHAT IT READS IS OF BULK AT MOST 1048576: true; the input reads as it did. -/
def shopBoundsUptoRow : OpenClaim := { program := "ytoblmecgnpoogaa", sum := "f7379e84b779abdce174a12a2232faebe2091f780c2e17ea0eec82f674149f0d", func := "bogie/bogielaw38.ShopBounds", spec := "shopBounds", inPlace := ["slices.overlaps[int]"], unfollowed := true, recurses := true, apart := false, narrowed := true }
def ShopBoundsUptoSaid : Prop := shopBoundsUptoRow.holds Try.pinned (OpenSpec.upto shopBoundsSpec)

/-- 'bogielaw38.ShopEnds', WHERE WHAT IT READS IS OF BULK AT MOST 1048576: true; the input reads as it did. -/
def shopEndsUptoRow : OpenClaim := { program := "ytoblmecgnpoogaa", sum := "f7379e84b779abdce174a12a2232faebe2091f780c2e17ea0eec82f674149f0d", func := "bogie/bogielaw38.ShopEnds", spec := "shopEnds", inPlace := ["slices.overlaps[int]"], unfollowed := true, recurses := true, apart := false, narrowed := true }
def ShopEndsUptoSaid : Prop := shopEndsUptoRow.holds Try.pinned (OpenSpec.upto shopEndsSpec)

end Rows
end Go.Proofs.Ytoblmecgnpoogaa
