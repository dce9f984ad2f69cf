

/- Package judge: the closure 'reach'. -/
import Derived.Test.YtgjkcnfinjenoaaJdgI
namespace Go.Proofs.Ytgjkcnfinjenoaa
open Go.RowKit

structure Apt (P D T mp md B : Nat) : Prop where
  hp : P < B
  hd : D < B
  ht : T < B
  hmp : mp < B
  hmd : md < B
  tp : P ≠ T
  td : D ≠ T
  mm : mp ≠ md
  pm : P ≠ md
  dm : D ≠ md
  tm : T ≠ md
  mt : mp ≠ T
def okB (plan : List Pos) (b : Int) (x : St) : Bool := match posAt plan x with | none => false | some p => decide (0 ≤ p.bound) && decide (p.bound ≤ b)
def reachB (plan : List Pos) (s : St) (b : Int) : Bool := (madeL s).all (okB plan b)
abbrev SR (md T : Nat) (v : Value) : Nat → Prop := fun k => k = md ∨ k = T ∨ v.ownBlock = some k
theorem okB_none {plan : List Pos} {b : Int} {x : St} (h : posAt plan x = none) : okB plan b x = false := by unfold okB; rw [h]
theorem okB_some {plan : List Pos} {b : Int} {x : St} {p : Pos} (h : posAt plan x = some p) : okB plan b x = (decide (0 ≤ p.bound) && decide (p.bound ≤ b)) := by unfold okB; rw [h]
theorem reachB_no {plan : List Pos} {s : St} {b : Int} {i : Nat} (hi : i < (madeL s).length) (h : okB plan b (madeL s)[i] = false) : reachB plan s b = false := by
  unfold reachB
  rw [List.all_eq_false]
  exact ⟨_, List.getElem_mem hi, by simp [h]⟩
theorem fresh_take (D l : List St) {i : Nat} (hi : i < l.length) : fresh D (l.take (i + 1)) = if l[i] ∈ D ++ fresh D (l.take i) then fresh D (l.take i) else fresh D (l.take i) ++ [l[i]] := by
  rw [List.take_succ_eq_append_getElem hi, fresh_snoc]
variable {w0 w w' : World} {D T md B t9 : Nat} {x : St} {f : Value → Option Value} {v0 : Value} {todo : List St} {b4 b5 : Value} {l4 l5 l6 l7 : Bool}

