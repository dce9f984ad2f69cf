
/- Contracts: slices.Backward over positions. -/
import Derived.RangeFuncNested
import Derived.RangeFuncBound
import Derived.RangeFuncCalls
import Derived.RangeFuncLeaves
import Derived.RangeFuncBox
import Derived.RangeFuncWrites
import Derived.RangeFuncKeeps
import Derived.Shelf.Abstract
import Derived.Shelf.RegionOpen
import Derived.WalkKit
import Derived.OwnWalkIn
import Derived.TacticsInMore
import Derived.LoopNIn
import Derived.LoopIn
import Derived.Test.YtgjkcnfinjenoaaMapsIn
import Derived.Test.YtgjkcnfinjenoaaJdgJ
namespace Go.Proofs.Ytgjkcnfinjenoaa
open Go.RowKit Go.Shelf

attribute [local go_sem] Oper.semAt_some

/-- what a round keeps: whatever lay below, and the list's own box -/
def Kp2 (n₀ Bs : Nat) (W W' : World) : Prop := Below n₀ W W' ∧ W'.cell? ⟨Bs, 0, none⟩ = W.cell? ⟨Bs, 0, none⟩
theorem Kp2.refl (n₀ Bs : Nat) (W : World) : Kp2 n₀ Bs W W := ⟨Below.refl _ _, rfl⟩
theorem Kp2.trans {n₀ Bs : Nat} {X Y Z : World} (h : Kp2 n₀ Bs X Y) (k : Kp2 n₀ Bs Y Z) : Kp2 n₀ Bs X Z := ⟨h.1.trans k.1, k.2.trans h.2⟩
theorem Kp2.drew {n₀ Bs : Nat} {X Y : World} (h : Kp2 n₀ Bs X Y) : Kp2 n₀ Bs X Y.drew := ⟨h.1.drew, h.2⟩
theorem Kp2.putObj {n₀ Bs : Nat} {w : World} (hn : n₀ ≤ w.heap.size) (hB : Bs < w.heap.size) (W : World) (l : Nat) (o o' : Obj) (hl : w.heap.size ≤ l) (h : W.heap[l]? = some o) (_ : o.isCells = false) (_ : o.isWalk = false) : Kp2 n₀ Bs W (W.putObj l o') := by
  refine ⟨belowK_b hn W l o o' hl h ‹_› ‹_›, ?_⟩
  unfold World.cell?
  rw [World.putObj_heap_other (by show Bs ≠ l; omega)]
/-- the six cells of a position in a list -/
structure PosCells (w : World) (b o : Nat) (p : Pos) (sa : Option Addr) (sc : Nat) (fa : Option Addr) (fc : Nat) : Prop where
  c0 : w.cell? ⟨b, o, none⟩ = some (.int .i64 p.turn)
  c1 : w.cell? ⟨b, o + 1, none⟩ = some (.slice sa p.starts.length sc)
  c2 : w.cell? ⟨b, o + 2, none⟩ = some (.slice fa p.failed.length fc)
  c3 : w.cell? ⟨b, o + 3, none⟩ = some (.int .i64 p.budget)
  c4 : w.cell? ⟨b, o + 4, none⟩ = some (.int .i64 p.choice)
  c5 : w.cell? ⟨b, o + 5, none⟩ = some (.int .i64 p.bound)
theorem PosCells.later {w w1 : World} {b o : Nat} {p : Pos} {sa fa : Option Addr} {sc fc : Nat} (h : PosCells w b o p sa sc fa fc) (hb : Below w.heap.size w w1) : PosCells w1 b o p sa sc fa fc :=
  ⟨cell_later hb h.c0, cell_later hb h.c1, cell_later hb h.c2, cell_later hb h.c3, cell_later hb h.c4, cell_later hb h.c5⟩
theorem PosCells.below {w w1 : World} {n b o : Nat} {p : Pos} {sa fa : Option Addr} {sc fc : Nat} (h : PosCells w b o p sa sc fa fc) (hb : Below n w w1) (hn : b < n) : PosCells w1 b o p sa sc fa fc :=
  ⟨(hb.cell hn).trans h.c0, (hb.cell hn).trans h.c1, (hb.cell hn).trans h.c2, (hb.cell hn).trans h.c3, (hb.cell hn).trans h.c4, (hb.cell hn).trans h.c5⟩
theorem PosCells.lt {w : World} {b o : Nat} {p : Pos} {sa fa : Option Addr} {sc fc : Nat} (h : PosCells w b o p sa sc fa fc) : b < w.heap.size := World.block_lt_of_cell? _ _ h.c0
/-- a list of positions lies at a; pv: the positions' values -/
def PlanAt (w : World) (a : Option Addr) (plan : List Pos) (pv : Nat → Value) : Prop := ∀ j (hj : j < plan.length), ∃ b off sa sc fa fc, a = some ⟨b, off, none⟩ ∧ pv j = psV plan[j] sa sc fa fc ∧ PosCells w b (off + j * 6) plan[j] sa sc fa fc ∧ PsAt w plan[j] sa fa
theorem PlanAt.later {w w1 : World} {a : Option Addr} {plan : List Pos} {pv : Nat → Value} (h : PlanAt w a plan pv) (hb : Below w.heap.size w w1) : PlanAt w1 a plan pv := fun j hj => by
  obtain ⟨b, off, sa, sc, fa, fc, h1, h2, h3, h4⟩ := h j hj
  exact ⟨b, off, sa, sc, fa, fc, h1, h2, h3.later hb, h4.later hb⟩
/-- the last k indices, from the end -/
def dn (n : Nat) : Nat → List (Fin n)
  | 0 => []
  | k + 1 => if h : k < n then dn n k ++ [⟨n - 1 - k, by omega⟩] else dn n k
theorem dn_succ {n k : Nat} (h : k < n) : dn n (k + 1) = dn n k ++ [⟨n - 1 - k, by omega⟩] := by rw [dn, dif_pos h]
theorem dn_length {n : Nat} : ∀ k, k ≤ n → (dn n k).length = k
  | 0, _ => rfl
  | k + 1, h => by rw [dn_succ (by omega), List.length_append, dn_length k (by omega)]; rfl
/-- numbers of the machine -/
structure PosIn (p : Pos) : Prop where
  t : inI p.turn
  b : inI p.budget
  s : ∀ i, inI (ig p.starts i)
  d : inI p.bound
open Classical in
noncomputable def putP (plan : List Pos) (pv : Nat → Value) (f : Value → Option Value) (x : Fin plan.length) : Value → Option Value := if Fit6 plan[x].st then putF f (sitV plan[x].st) (pv x) else f
noncomputable def foldP (plan : List Pos) (pv : Nat → Value) (l : List (Fin plan.length)) : Value → Option Value := l.foldl (putP plan pv) (fun _ => none)
theorem foldP_snoc (plan : List Pos) (pv : Nat → Value) (l : List (Fin plan.length)) (x : Fin plan.length) : foldP plan pv (l ++ [x]) = putP plan pv (foldP plan pv l) x := by unfold foldP; rw [List.foldl_append]; rfl
theorem putP_yes {plan : List Pos} {pv : Nat → Value} {f : Value → Option Value} {x : Fin plan.length} (h : Fit6 plan[x].st) : putP plan pv f x = putF f (sitV plan[x].st) (pv x) := by unfold putP; rw [if_pos h]
theorem putP_no {plan : List Pos} {pv : Nat → Value} {f : Value → Option Value} {x : Fin plan.length} (h : ¬ Fit6 plan[x].st) : putP plan pv f x = f := by unfold putP; rw [if_neg h]
theorem posAt_cons (p : Pos) (l : List Pos) (s : St) : posAt (p :: l) s = if p.st = s then some p else posAt l s := by
  unfold posAt
  rw [List.find?_cons]
  by_cases h : p.st = s
  · rw [if_pos h, decide_eq_true h]
  · rw [if_neg h, decide_eq_false h]
theorem posMap_fold {plan : List Pos} {pv : Nat → Value} (hv : ∀ j (hj : j < plan.length), ∃ sa sc fa fc, pv j = psV plan[j] sa sc fa fc) : ∀ k, k ≤ plan.length → PosMap (foldP plan pv (dn plan.length k)) (plan.drop (plan.length - k))
  | 0, _ => by
    rw [Nat.sub_zero, List.drop_length]
    intro s _
    rfl
  | k + 1, hk => by
    have ih := posMap_fold hv k (by omega)
    rw [dn_succ (by omega), foldP_snoc]
    have hlt : plan.length - 1 - k < plan.length := by omega
    have e : plan.drop (plan.length - (k + 1)) = plan[plan.length - 1 - k] :: plan.drop (plan.length - k) := by
      rw [show plan.length - (k + 1) = plan.length - 1 - k by omega, List.drop_eq_getElem_cons hlt, show plan.length - 1 - k + 1 = plan.length - k by omega]
    rw [e]
    intro s hs
    rw [posAt_cons]
    by_cases hf : Fit6 plan[plan.length - 1 - k].st
    · rw [putP_yes (x := ⟨plan.length - 1 - k, hlt⟩) hf]
      by_cases he : plan[plan.length - 1 - k].st = s
      · rw [if_pos he]
        obtain ⟨sa, sc, fa, fc, hpv⟩ := hv (plan.length - 1 - k) hlt
        refine ⟨sa, sc, fa, fc, ?_⟩
        subst he
        exact (putF_at _ _ _).trans (by rw [hpv])
      · rw [if_neg he]
        have hne : sitV s ≠ sitV plan[plan.length - 1 - k].st := fun e => he (sitV_inj hf hs e.symm)
        have hr : putF (foldP plan pv (dn plan.length k)) (sitV plan[plan.length - 1 - k].st) (pv (plan.length - 1 - k)) (sitV s) = foldP plan pv (dn plan.length k) (sitV s) := putF_ne _ _ hne
        have := ih s hs
        split at this
        · exact hr.trans this
        · obtain ⟨sa, sc, fa, fc, h⟩ := this
          exact ⟨sa, sc, fa, fc, hr.trans h⟩
    · rw [putP_no (x := ⟨plan.length - 1 - k, hlt⟩) hf]
      have he : ¬ plan[plan.length - 1 - k].st = s := fun e => hf (by rw [e]; exact hs)
      rw [if_neg he]
      exact ih s hs
theorem posMap_all {plan : List Pos} {pv : Nat → Value} (hv : ∀ j (hj : j < plan.length), ∃ sa sc fa fc, pv j = psV plan[j] sa sc fa fc) : PosMap (foldP plan pv (dn plan.length plan.length)) plan := by
  have := posMap_fold hv plan.length (Nat.le_refl _)
  rwa [Nat.sub_self, List.drop_zero] at this

