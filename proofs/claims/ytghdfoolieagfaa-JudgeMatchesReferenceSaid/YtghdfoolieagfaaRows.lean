/-
  No cell of these rows narrows 'for every input' (looked for: loops, veiled, ifaces, maps, wideKeys, modest, calm, conditions, laid).
  DERIVED. THE GIVEN ROWS OF THIS SEAT. 5 by the template 'for every input the law returns true; each argument reads behind the call as it read before'; 0 by the template 'total and deterministic' (their statements: YtghdfoolieagfaaTotals.lean).
  GIVEN WITH THE SEED: the statements are not yours to turn. If you find one false, say at which input.
  Laid BY PROGRAM, IN A SANDBOX (cutbox-rows.mjs): the forced cells as the released guide's own fill.sh prints them over the translation b83e0155906b5b00… (all of the seat's roots in one cut). By AI agents, Wed Nov 11 2026. No macro, syntax, notation, axiom, sorry.
-/
import Derived.Test.YtghdfoolieagfaaChecked
import GoSem.Claim
import GoSem.ClaimJoined
import GoSem.ClaimMapViews
import Derived.JoinedTies
import Derived.KernelRfl
namespace Go.Proofs.Ytghdfoolieagfaa
/- THE CELL 'sum', in the pinned program and in every row, IS THE sha256 OF THE DUMP (.gsa) THAT YtghdfoolieagfaaProg.lean LOADS. Nothing in Lean hashes anything: it is a label: what it is worth is what the hold of that sum in a sandbox is worth. -/
noncomputable def Try.pinned : Pinned := { name := "ytghdfoolieagfaa", sum := "b83e0155906b5b00c0ff32bf92b8729667738665e989b20e9a2e5e009ab8e9da", checked := Try.checked }
namespace Rows
def none {H : Type} : Left H := { results := [], args := [] }

/-- 'bogielaw42.JudgeMatchesReference': WHATEVER THE INPUT: true; the input reads as it did. -/
def judgeMatchesReferenceSpec : ChangeSpec := { name := "judgeMatchesReference", fn := fun _ => fun
  | [d1, d2, d3] => { results := [.lit (.bool true)], args := [d1, d2, d3] }
  | _ => none }
def judgeMatchesReferenceRow : OpenClaim := { program := "ytghdfoolieagfaa", sum := "b83e0155906b5b00c0ff32bf92b8729667738665e989b20e9a2e5e009ab8e9da", func := "bogie/bogielaw42.JudgeMatchesReference", spec := "judgeMatchesReference", unfollowed := true, recurses := true, plainKeys := false, apart := false }
def JudgeMatchesReferenceSaid : Prop := judgeMatchesReferenceRow.holds Try.pinned (OpenSpec.ofChange judgeMatchesReferenceSpec)

/-- ITS FALSE NEIGHBOUR: 'it returns false'. Refute it at one input. -/
def judgeMatchesReferenceWrong : ChangeSpec := { name := "judgeMatchesReference", fn := fun _ => fun
  | [d1, d2, d3] => { results := [.lit (.bool false)], args := [d1, d2, d3] }
  | _ => none }
def JudgeMatchesReferenceWrongFalsely : Prop := judgeMatchesReferenceRow.holds Try.pinned (OpenSpec.ofChange judgeMatchesReferenceWrong)

/-- 'bogielaw42.JudgeSound': WHATEVER THE INPUT: true; the input reads as it did. -/
def judgeSoundSpec : ChangeSpec := { name := "judgeSound", fn := fun _ => fun
  | [d1, d2, d3, d4] => { results := [.lit (.bool true)], args := [d1, d2, d3, d4] }
  | _ => none }
def judgeSoundRow : OpenClaim := { program := "ytghdfoolieagfaa", sum := "b83e0155906b5b00c0ff32bf92b8729667738665e989b20e9a2e5e009ab8e9da", func := "bogie/bogielaw42.JudgeSound", spec := "judgeSound", unfollowed := true, recurses := true, plainKeys := false, apart := false }
def JudgeSoundSaid : Prop := judgeSoundRow.holds Try.pinned (OpenSpec.ofChange judgeSoundSpec)

/-- ITS FALSE NEIGHBOUR: 'it returns false'. Refute it at one input. -/
def judgeSoundWrong : ChangeSpec := { name := "judgeSound", fn := fun _ => fun
  | [d1, d2, d3, d4] => { results := [.lit (.bool false)], args := [d1, d2, d3, d4] }
  | _ => none }
def JudgeSoundWrongFalsely : Prop := judgeSoundRow.holds Try.pinned (OpenSpec.ofChange judgeSoundWrong)

/-- 'bogielaw42.JudgeBounds': WHATEVER THE INPUT: true; the input reads as it did. -/
def judgeBoundsSpec : ChangeSpec := { name := "judgeBounds", fn := fun _ => fun
  | [d1, d2, d3, d4] => { results := [.lit (.bool true)], args := [d1, d2, d3, d4] }
  | _ => none }
def judgeBoundsRow : OpenClaim := { program := "ytghdfoolieagfaa", sum := "b83e0155906b5b00c0ff32bf92b8729667738665e989b20e9a2e5e009ab8e9da", func := "bogie/bogielaw42.JudgeBounds", spec := "judgeBounds", unfollowed := true, recurses := true, plainKeys := false, apart := false }
def JudgeBoundsSaid : Prop := judgeBoundsRow.holds Try.pinned (OpenSpec.ofChange judgeBoundsSpec)

/-- ITS FALSE NEIGHBOUR: 'it returns false'. Refute it at one input. -/
def judgeBoundsWrong : ChangeSpec := { name := "judgeBounds", fn := fun _ => fun
  | [d1, d2, d3, d4] => { results := [.lit (.bool false)], args := [d1, d2, d3, d4] }
  | _ => none }
def JudgeBoundsWrongFalsely : Prop := judgeBoundsRow.holds Try.pinned (OpenSpec.ofChange judgeBoundsWrong)

/-- 'bogielaw42.JudgeFurther': WHATEVER THE INPUT: true; the input reads as it did. -/
def judgeFurtherSpec : ChangeSpec := { name := "judgeFurther", fn := fun _ => fun
  | [d1, d2, d3, d4] => { results := [.lit (.bool true)], args := [d1, d2, d3, d4] }
  | _ => none }
def judgeFurtherRow : OpenClaim := { program := "ytghdfoolieagfaa", sum := "b83e0155906b5b00c0ff32bf92b8729667738665e989b20e9a2e5e009ab8e9da", func := "bogie/bogielaw42.JudgeFurther", spec := "judgeFurther", unfollowed := true, recurses := true, plainKeys := false, apart := false }
def JudgeFurtherSaid : Prop := judgeFurtherRow.holds Try.pinned (OpenSpec.ofChange judgeFurtherSpec)

/-- ITS FALSE NEIGHBOUR: 'it returns false'. Refute it at one input. -/
def judgeFurtherWrong : ChangeSpec := { name := "judgeFurther", fn := fun _ => fun
  | [d1, d2, d3, d4] => { results := [.lit (.bool false)], args := [d1, d2, d3, d4] }
  | _ => none }
def JudgeFurtherWrongFalsely : Prop := judgeFurtherRow.holds Try.pinned (OpenSpec.ofChange judgeFurtherWrong)

/-- 'bogielaw42.JudgeLost': WHATEVER THE INPUT: true; the input reads as it did. -/
def judgeLostSpec : ChangeSpec := { name := "judgeLost", fn := fun _ => fun
  | [d] => { results := [.lit (.bool true)], args := [d] }
  | _ => none }
def judgeLostRow : OpenClaim := { program := "ytghdfoolieagfaa", sum := "b83e0155906b5b00c0ff32bf92b8729667738665e989b20e9a2e5e009ab8e9da", func := "bogie/bogielaw42.JudgeLost", spec := "judgeLost", unfollowed := true, recurses := true, plainKeys := false, apart := false }
def JudgeLostSaid : Prop := judgeLostRow.holds Try.pinned (OpenSpec.ofChange judgeLostSpec)

/-- ITS FALSE NEIGHBOUR: 'it returns false'. Refute it at one input. -/
def judgeLostWrong : ChangeSpec := { name := "judgeLost", fn := fun _ => fun
  | [d] => { results := [.lit (.bool false)], args := [d] }
  | _ => none }
def JudgeLostWrongFalsely : Prop := judgeLostRow.holds Try.pinned (OpenSpec.ofChange judgeLostWrong)

/- THE SECOND FORM. 'bulk': how many values and letters a reading holds, each counted each time it is reached (what is shared counts as often as it is met; a slice's spare places count too). A statement '..UptoSaid' is the law's where the arguments, and the package variables that the reading takes, are together of bulk at most 1048576: NARROWER than '..Said'. Prove '..Said' where nothing that the law and all that it calls make is longer than what came in: it says more and counts as full. Else prove '..UptoSaid'. A law counts once. -/
mutual
def uptoBulk {H : Type} : DataW H → Nat
  | .lit (.string bytes) => bytes.length + 1
  | .lit _ => 1
  | .nil => 1
  | .ptr d => uptoBulk d + 1
  | .slice elems spare => uptoBulkAll elems + uptoBulkAll spare + 1
  | .agg parts => uptoBulkAll parts + 1
  | .iface _ d => uptoBulk d + 1
  | .map entries => uptoBulkEntries entries + 1
  | .held _ => 1
def uptoBulkAll {H : Type} : List (DataW H) → Nat
  | [] => 0
  | d :: r => uptoBulk d + uptoBulkAll r
def uptoBulkEntries {H : Type} : List (Lit × DataW H) → Nat
  | [] => 0
  | x :: r => uptoBulkEntry x + uptoBulkEntries r
def uptoBulkEntry {H : Type} : Lit × DataW H → Nat
  | (.string bytes, d) => bytes.length + uptoBulk d + 1
  | (_, d) => uptoBulk d + 1
 end
def uptoSmall : (H : Type) → List (DataW H) → Bool := fun _ ds => decide (uptoBulkAll ds ≤ 1048576)
def OpenSpec.upto (s : _root_.Go.ChangeSpec) : _root_.Go.OpenSpec := { _root_.Go.OpenSpec.ofChange s with cond := some uptoSmall }

/-- 'bogielaw42.JudgeMatchesReference', WHERE WHAT IT READS IS OF BULK AT MOST 1048576: true; the input reads as it did. -/
def judgeMatchesReferenceUptoRow : OpenClaim := { program := "ytghdfoolieagfaa", sum := "b83e0155906b5b00c0ff32bf92b8729667738665e989b20e9a2e5e009ab8e9da", func := "bogie/bogielaw42.JudgeMatchesReference", spec := "judgeMatchesReference", unfollowed := true, recurses := true, plainKeys := false, apart := false, narrowed := true }
def JudgeMatchesReferenceUptoSaid : Prop := judgeMatchesReferenceUptoRow.holds Try.pinned (OpenSpec.upto judgeMatchesReferenceSpec)

/-- 'bogielaw42.JudgeSound', WHERE WHAT IT READS IS OF BULK AT MOST 1048576: true; the input reads as it did. -/
def judgeSoundUptoRow : OpenClaim := { program := "ytghdfoolieagfaa", sum := "b83e0155906b5b00c0ff32bf92b8729667738665e989b20e9a2e5e009ab8e9da", func := "bogie/bogielaw42.JudgeSound", spec := "judgeSound", unfollowed := true, recurses := true, plainKeys := false, apart := false, narrowed := true }
def JudgeSoundUptoSaid : Prop := judgeSoundUptoRow.holds Try.pinned (OpenSpec.upto judgeSoundSpec)

/-- 'bogielaw42.JudgeBounds', WHERE WHAT IT READS IS OF BULK AT MOST 1048576: true; the input reads as it did. -/
def judgeBoundsUptoRow : OpenClaim := { program := "ytghdfoolieagfaa", sum := "b83e0155906b5b00c0ff32bf92b8729667738665e989b20e9a2e5e009ab8e9da", func := "bogie/bogielaw42.JudgeBounds", spec := "judgeBounds", unfollowed := true, recurses := true, plainKeys := false, apart := false, narrowed := true }
def JudgeBoundsUptoSaid : Prop := judgeBoundsUptoRow.holds Try.pinned (OpenSpec.upto judgeBoundsSpec)

/-- 'bogielaw42.JudgeFurther', WHERE WHAT IT READS IS OF BULK AT MOST 1048576: true; the input reads as it did. -/
def judgeFurtherUptoRow : OpenClaim := { program := "ytghdfoolieagfaa", sum := "b83e0155906b5b00c0ff32bf92b8729667738665e989b20e9a2e5e009ab8e9da", func := "bogie/bogielaw42.JudgeFurther", spec := "judgeFurther", unfollowed := true, recurses := true, plainKeys := false, apart := false, narrowed := true }
def JudgeFurtherUptoSaid : Prop := judgeFurtherUptoRow.holds Try.pinned (OpenSpec.upto judgeFurtherSpec)

/-- 'bogielaw42.JudgeLost', WHERE WHAT IT READS IS OF BULK AT MOST 1048576: true; the input reads as it did. -/
def judgeLostUptoRow : OpenClaim := { program := "ytghdfoolieagfaa", sum := "b83e0155906b5b00c0ff32bf92b8729667738665e989b20e9a2e5e009ab8e9da", func := "bogie/bogielaw42.JudgeLost", spec := "judgeLost", unfollowed := true, recurses := true, plainKeys := false, apart := false, narrowed := true }
def JudgeLostUptoSaid : Prop := judgeLostUptoRow.holds Try.pinned (OpenSpec.upto judgeLostSpec)

end Rows
end Go.Proofs.Ytghdfoolieagfaa
