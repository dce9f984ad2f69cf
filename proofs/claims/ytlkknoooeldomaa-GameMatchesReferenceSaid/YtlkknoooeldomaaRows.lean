/-
  No cell of these rows narrows 'for every input' (looked for: loops, veiled, ifaces, maps, wideKeys, modest, calm, conditions, laid).
  DERIVED. THE GIVEN ROWS OF THIS SEAT. 6 by the template 'for every input the law returns true; each argument reads behind the call as it read before'; 0 by the template 'total and deterministic' (their statements: YtlkknoooeldomaaTotals.lean).
  GIVEN WITH THE SEED: the statements are not yours to turn. If you find one false, say at which input.
  Laid BY PROGRAM, IN A SANDBOX (cutbox-rows.mjs): the forced cells as the released guide's own fill.sh prints them over the translation 03510086d17089c8… (all of the seat's roots in one cut). By AI agents, Wed Nov 11 2026. No macro, syntax, notation, axiom, sorry.
-/
import Derived.Test.YtlkknoooeldomaaChecked
import GoSem.Claim
import GoSem.ClaimJoined
import GoSem.ClaimMapViews
import Derived.JoinedTies
import Derived.KernelRfl
namespace Go.Proofs.Ytlkknoooeldomaa
/- THE CELL 'sum', in the pinned program and in every row, IS THE sha256 OF THE DUMP (.gsa) THAT YtlkknoooeldomaaProg.lean LOADS. Nothing in Lean hashes anything: it is a label: what it is worth is what the hold of that sum in a sandbox is worth. -/
noncomputable def Try.pinned : Pinned := { name := "ytlkknoooeldomaa", sum := "03510086d17089c805fff6fb18a77e148dbbd51e6ed7e8407daa095099670cb9", checked := Try.checked }
namespace Rows
def none {H : Type} : Left H := { results := [], args := [] }

/-- 'bogielaw40.GameMatchesReference': WHATEVER THE INPUT: true; the input reads as it did. -/
def gameMatchesReferenceSpec : ChangeSpec := { name := "gameMatchesReference", fn := fun _ => fun
  | [d] => { results := [.lit (.bool true)], args := [d] }
  | _ => none }
def gameMatchesReferenceRow : OpenClaim := { program := "ytlkknoooeldomaa", sum := "03510086d17089c805fff6fb18a77e148dbbd51e6ed7e8407daa095099670cb9", func := "bogie/bogielaw40.GameMatchesReference", spec := "gameMatchesReference", unfollowed := true, recurses := true, plainKeys := false, apart := false }
def GameMatchesReferenceSaid : Prop := gameMatchesReferenceRow.holds Try.pinned (OpenSpec.ofChange gameMatchesReferenceSpec)

/-- ITS FALSE NEIGHBOUR: 'it returns false'. Refute it at one input. -/
def gameMatchesReferenceWrong : ChangeSpec := { name := "gameMatchesReference", fn := fun _ => fun
  | [d] => { results := [.lit (.bool false)], args := [d] }
  | _ => none }
def GameMatchesReferenceWrongFalsely : Prop := gameMatchesReferenceRow.holds Try.pinned (OpenSpec.ofChange gameMatchesReferenceWrong)

/-- 'bogielaw40.GameMinimax': WHATEVER THE INPUT: true; the input reads as it did. -/
def gameMinimaxSpec : ChangeSpec := { name := "gameMinimax", fn := fun _ => fun
  | [d] => { results := [.lit (.bool true)], args := [d] }
  | _ => none }
def gameMinimaxRow : OpenClaim := { program := "ytlkknoooeldomaa", sum := "03510086d17089c805fff6fb18a77e148dbbd51e6ed7e8407daa095099670cb9", func := "bogie/bogielaw40.GameMinimax", spec := "gameMinimax", unfollowed := true, recurses := true, plainKeys := false, apart := false }
def GameMinimaxSaid : Prop := gameMinimaxRow.holds Try.pinned (OpenSpec.ofChange gameMinimaxSpec)

/-- ITS FALSE NEIGHBOUR: 'it returns false'. Refute it at one input. -/
def gameMinimaxWrong : ChangeSpec := { name := "gameMinimax", fn := fun _ => fun
  | [d] => { results := [.lit (.bool false)], args := [d] }
  | _ => none }
def GameMinimaxWrongFalsely : Prop := gameMinimaxRow.holds Try.pinned (OpenSpec.ofChange gameMinimaxWrong)

/-- 'bogielaw40.GameMore': WHATEVER THE INPUT: true; the input reads as it did. -/
def gameMoreSpec : ChangeSpec := { name := "gameMore", fn := fun _ => fun
  | [d1, d2, d3] => { results := [.lit (.bool true)], args := [d1, d2, d3] }
  | _ => none }
def gameMoreRow : OpenClaim := { program := "ytlkknoooeldomaa", sum := "03510086d17089c805fff6fb18a77e148dbbd51e6ed7e8407daa095099670cb9", func := "bogie/bogielaw40.GameMore", spec := "gameMore", unfollowed := true, recurses := true, plainKeys := false, apart := false }
def GameMoreSaid : Prop := gameMoreRow.holds Try.pinned (OpenSpec.ofChange gameMoreSpec)

/-- ITS FALSE NEIGHBOUR: 'it returns false'. Refute it at one input. -/
def gameMoreWrong : ChangeSpec := { name := "gameMore", fn := fun _ => fun
  | [d1, d2, d3] => { results := [.lit (.bool false)], args := [d1, d2, d3] }
  | _ => none }
def GameMoreWrongFalsely : Prop := gameMoreRow.holds Try.pinned (OpenSpec.ofChange gameMoreWrong)

/-- 'bogielaw40.GameBounds': WHATEVER THE INPUT: true; the input reads as it did. -/
def gameBoundsSpec : ChangeSpec := { name := "gameBounds", fn := fun _ => fun
  | [d] => { results := [.lit (.bool true)], args := [d] }
  | _ => none }
def gameBoundsRow : OpenClaim := { program := "ytlkknoooeldomaa", sum := "03510086d17089c805fff6fb18a77e148dbbd51e6ed7e8407daa095099670cb9", func := "bogie/bogielaw40.GameBounds", spec := "gameBounds", unfollowed := true, recurses := true, plainKeys := false, apart := false }
def GameBoundsSaid : Prop := gameBoundsRow.holds Try.pinned (OpenSpec.ofChange gameBoundsSpec)

/-- ITS FALSE NEIGHBOUR: 'it returns false'. Refute it at one input. -/
def gameBoundsWrong : ChangeSpec := { name := "gameBounds", fn := fun _ => fun
  | [d] => { results := [.lit (.bool false)], args := [d] }
  | _ => none }
def GameBoundsWrongFalsely : Prop := gameBoundsRow.holds Try.pinned (OpenSpec.ofChange gameBoundsWrong)

/-- 'bogielaw40.GamePlans': WHATEVER THE INPUT: true; the input reads as it did. -/
def gamePlansSpec : ChangeSpec := { name := "gamePlans", fn := fun _ => fun
  | [d] => { results := [.lit (.bool true)], args := [d] }
  | _ => none }
def gamePlansRow : OpenClaim := { program := "ytlkknoooeldomaa", sum := "03510086d17089c805fff6fb18a77e148dbbd51e6ed7e8407daa095099670cb9", func := "bogie/bogielaw40.GamePlans", spec := "gamePlans", unfollowed := true, recurses := true, plainKeys := false, apart := false }
def GamePlansSaid : Prop := gamePlansRow.holds Try.pinned (OpenSpec.ofChange gamePlansSpec)

/-- ITS FALSE NEIGHBOUR: 'it returns false'. Refute it at one input. -/
def gamePlansWrong : ChangeSpec := { name := "gamePlans", fn := fun _ => fun
  | [d] => { results := [.lit (.bool false)], args := [d] }
  | _ => none }
def GamePlansWrongFalsely : Prop := gamePlansRow.holds Try.pinned (OpenSpec.ofChange gamePlansWrong)

/-- 'bogielaw40.GameNames': WHATEVER THE INPUT: true; the input reads as it did. -/
def gameNamesSpec : ChangeSpec := { name := "gameNames", fn := fun _ => fun
  | [d] => { results := [.lit (.bool true)], args := [d] }
  | _ => none }
def gameNamesRow : OpenClaim := { program := "ytlkknoooeldomaa", sum := "03510086d17089c805fff6fb18a77e148dbbd51e6ed7e8407daa095099670cb9", func := "bogie/bogielaw40.GameNames", spec := "gameNames", unfollowed := true, recurses := true, plainKeys := false, apart := false }
def GameNamesSaid : Prop := gameNamesRow.holds Try.pinned (OpenSpec.ofChange gameNamesSpec)

/-- ITS FALSE NEIGHBOUR: 'it returns false'. Refute it at one input. -/
def gameNamesWrong : ChangeSpec := { name := "gameNames", fn := fun _ => fun
  | [d] => { results := [.lit (.bool false)], args := [d] }
  | _ => none }
def GameNamesWrongFalsely : Prop := gameNamesRow.holds Try.pinned (OpenSpec.ofChange gameNamesWrong)

/- THE SECOND FORM. 'bulk': how many values and letters a reading holds, each counted each time it is reached (what is shared counts as often as it is met; a slice's spare places count too). A statement '..UptoSaid' is the law's where the arguments, and the package variables that the reading takes, are together of bulk at most 1048576: NARROWER than '..Said'. Prove '..Said' where nothing that the law and all that it calls make is longer than what came in: it says more and counts as full. Else prove '..UptoSaid'. A law counts once. -/
mutual
def uptoBulk {H : Type} : DataW H → Nat
  | .lit (.string bytes) => bytes.length + 1
  | .lit _ => 1
  | .nil => 1
  | .ptr d => uptoBulk d + 1
  | .slice elems spare => uptoBulkAll elems + uptoBulkAll spare + 1
  | .agg parts => uptoBulkAll parts + 1
  | .iface _ d => uptoBulk d + 1
  | .map entries => uptoBulkEntries entries + 1
  | .held _ => 1
def uptoBulkAll {H : Type} : List (DataW H) → Nat
  | [] => 0
  | d :: r => uptoBulk d + uptoBulkAll r
def uptoBulkEntries {H : Type} : List (Lit × DataW H) → Nat
  | [] => 0
  | x :: r => uptoBulkEntry x + uptoBulkEntries r
def uptoBulkEntry {H : Type} : Lit × DataW H → Nat
  | (.string bytes, d) => bytes.length + uptoBulk d + 1
  | (_, d) => uptoBulk d + 1
 end
def uptoSmall : (H : Type) → List (DataW H) → Bool := fun _ ds => decide (uptoBulkAll ds ≤ 1048576)
def OpenSpec.upto (s : _root_.Go.ChangeSpec) : _root_.Go.OpenSpec := { _root_.Go.OpenSpec.ofChange s with cond := some uptoSmall }

/-- 'bogielaw40.GameMatchesReference', WHERE WHAT IT READS IS OF BULK AT MOST 1048576: true; the input reads as it did. -/
def gameMatchesReferenceUptoRow : OpenClaim := { program := "ytlkknoooeldomaa", sum := "03510086d17089c805fff6fb18a77e148dbbd51e6ed7e8407daa095099670cb9", func := "bogie/bogielaw40.GameMatchesReference", spec := "gameMatchesReference", unfollowed := true, recurses := true, plainKeys := false, apart := false, narrowed := true }
def GameMatchesReferenceUptoSaid : Prop := gameMatchesReferenceUptoRow.holds Try.pinned (OpenSpec.upto gameMatchesReferenceSpec)

/-- 'bogielaw40.GameMinimax', WHERE WHAT IT READS IS OF BULK AT MOST 1048576: true; the input reads as it did. -/
def gameMinimaxUptoRow : OpenClaim := { program := "ytlkknoooeldomaa", sum := "03510086d17089c805fff6fb18a77e148dbbd51e6ed7e8407daa095099670cb9", func := "bogie/bogielaw40.GameMinimax", spec := "gameMinimax", unfollowed := true, recurses := true, plainKeys := false, apart := false, narrowed := true }
def GameMinimaxUptoSaid : Prop := gameMinimaxUptoRow.holds Try.pinned (OpenSpec.upto gameMinimaxSpec)

/-- 'bogielaw40.GameMore', WHERE WHAT IT READS IS OF BULK AT MOST 1048576: true; the input reads as it did. -/
def gameMoreUptoRow : OpenClaim := { program := "ytlkknoooeldomaa", sum := "03510086d17089c805fff6fb18a77e148dbbd51e6ed7e8407daa095099670cb9", func := "bogie/bogielaw40.GameMore", spec := "gameMore", unfollowed := true, recurses := true, plainKeys := false, apart := false, narrowed := true }
def GameMoreUptoSaid : Prop := gameMoreUptoRow.holds Try.pinned (OpenSpec.upto gameMoreSpec)

/-- 'bogielaw40.GameBounds', WHERE WHAT IT READS IS OF BULK AT MOST 1048576: true; the input reads as it did. -/
def gameBoundsUptoRow : OpenClaim := { program := "ytlkknoooeldomaa", sum := "03510086d17089c805fff6fb18a77e148dbbd51e6ed7e8407daa095099670cb9", func := "bogie/bogielaw40.GameBounds", spec := "gameBounds", unfollowed := true, recurses := true, plainKeys := false, apart := false, narrowed := true }
def GameBoundsUptoSaid : Prop := gameBoundsUptoRow.holds Try.pinned (OpenSpec.upto gameBoundsSpec)

/-- 'bogielaw40.GamePlans', WHERE WHAT IT READS IS OF BULK AT MOST 1048576: true; the input reads as it did. -/
def gamePlansUptoRow : OpenClaim := { program := "ytlkknoooeldomaa", sum := "03510086d17089c805fff6fb18a77e148dbbd51e6ed7e8407daa095099670cb9", func := "bogie/bogielaw40.GamePlans", spec := "gamePlans", unfollowed := true, recurses := true, plainKeys := false, apart := false, narrowed := true }
def GamePlansUptoSaid : Prop := gamePlansUptoRow.holds Try.pinned (OpenSpec.upto gamePlansSpec)

/-- 'bogielaw40.GameNames', WHERE WHAT IT READS IS OF BULK AT MOST 1048576: true; the input reads as it did. -/
def gameNamesUptoRow : OpenClaim := { program := "ytlkknoooeldomaa", sum := "03510086d17089c805fff6fb18a77e148dbbd51e6ed7e8407daa095099670cb9", func := "bogie/bogielaw40.GameNames", spec := "gameNames", unfollowed := true, recurses := true, plainKeys := false, apart := false, narrowed := true }
def GameNamesUptoSaid : Prop := gameNamesUptoRow.holds Try.pinned (OpenSpec.upto gameNamesSpec)

end Rows
end Go.Proofs.Ytlkknoooeldomaa
