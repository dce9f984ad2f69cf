

/- Contracts of package judge: what the adversary makes of a situation. -/
import Derived.Test.YtgjkcnfinjenoaaJdgE
import Derived.OwnWalk
import Derived.Laws.AppendOwn
namespace Go.Proofs.Ytgjkcnfinjenoaa
open Go.RowKit

theorem fit_of {p : Pos} (h6 : p.starts.length ≤ 6) (e : p.failed.length = p.starts.length) : Fit6 p.st := ⟨h6, e⟩
/-- the cells of a situation -/
def sitC (s : St) : List Value := [.int .i64 s.turn, .int .i64 s.budget, .int .i64 s.starts.length, .int .i64 (ig s.starts 0), .int .i64 (ig s.starts 1), .int .i64 (ig s.starts 2), .int .i64 (ig s.starts 3), .int .i64 (ig s.starts 4), .int .i64 (ig s.starts 5), .int .i64 (bitsU s.failed s.failed.length)]
theorem sitC_len (s : St) : (sitC s).length = 10 := rfl
theorem sitC_cells (l : List St) : (l.flatMap sitC).length = l.length * 10 := by
  induction l with
  | nil => rfl
  | cons s l ih => rw [List.flatMap_cons, List.length_append, ih, sitC_len, List.length_cons]; omega
def Hitting (s : St) (k : Nat) : List St := s :: ((List.range k).filter (fun v => !bg s.failed v)).map (hit s)
theorem hitting_succ (s : St) (k : Nat) : Hitting s (k + 1) = Hitting s k ++ if bg s.failed k then [] else [hit s k] := by
  unfold Hitting
  rw [List.range_succ, List.filter_append, List.map_append, List.cons_append]
  cases h : bg s.failed k <;> simp [h]
theorem hitting_all {s : St} (h : 0 < s.budget) : Hitting s s.failed.length = madeL s := by
  unfold Hitting madeL hits
  rw [if_pos h]
theorem hitting_none {s : St} (h : ¬ 0 < s.budget) : Hitting s 0 = madeL s := by
  unfold Hitting madeL hits
  rw [if_neg h]
  rfl

