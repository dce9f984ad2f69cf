
/- Contracts: slices.Backward over positions. -/
import Derived.RangeFuncNested
import Derived.RangeFuncBound
import Derived.RangeFuncCalls
import Derived.RangeFuncLeaves
import Derived.RangeFuncBox
import Derived.RangeFuncWrites
import Derived.RangeFuncKeeps
import Derived.Shelf.Abstract
import Derived.Shelf.RegionOpen
import Derived.WalkKit
import Derived.OwnWalkIn
import Derived.TacticsInMore
import Derived.LoopNIn
import Derived.LoopIn
import Derived.Test.YtgccankekflchaaMapsIn
import Derived.Test.YtgccankekflchaaJdgJ
namespace Go.Proofs.Ytgccankekflchaa
open Go.RowKit Go.Shelf

attribute [local go_sem] Oper.semAt_some

/-- what a round keeps: whatever lay below, and the list's own box -/
def Kp2 (n₀ Bs : Nat) (W W' : World) : Prop := Below n₀ W W' ∧ W'.cell? ⟨Bs, 0, none⟩ = W.cell? ⟨Bs, 0, none⟩
theorem Kp2.refl (n₀ Bs : Nat) (W : World) : Kp2 n₀ Bs W W := ⟨Below.refl _ _, rfl⟩
theorem Kp2.trans {n₀ Bs : Nat} {X Y Z : World} (h : Kp2 n₀ Bs X Y) (k : Kp2 n₀ Bs Y Z) : Kp2 n₀ Bs X Z := ⟨h.1.trans k.1, k.2.trans h.2⟩
theorem Kp2.drew {n₀ Bs : Nat} {X Y : World} (h : Kp2 n₀ Bs X Y) : Kp2 n₀ Bs X Y.drew := ⟨h.1.drew, h.2⟩
theorem Kp2.putObj {n₀ Bs : Nat} {w : World} (hn : n₀ ≤ w.heap.size) (hB : Bs < w.heap.size) (W : World) (l : Nat) (o o' : Obj) (hl : w.heap.size ≤ l) (h : W.heap[l]? = some o) (_ : o.isCells = false) (_ : o.isWalk = false) : Kp2 n₀ Bs W (W.putObj l o') := by
  refine ⟨belowK_b hn W l o o' hl h ‹_› ‹_›, ?_⟩
  unfold World.cell?
  rw [World.putObj_heap_other (by show Bs ≠ l; omega)]
/-- the six cells of a position in a list -/
structure PosCells (w : World) (b o : Nat) (p : Pos) (sa : Option Addr) (sc : Nat) (fa : Option Addr) (fc : Nat) : Prop where
  c0 : w.cell? ⟨b, o, none⟩ = some (.int .i64 p.turn)
  c1 : w.cell? ⟨b, o + 1, none⟩ = some (.slice sa p.starts.length sc)
  c2 : w.cell? ⟨b, o + 2, none⟩ = some (.slice fa p.failed.length fc)
  c3 : w.cell? ⟨b, o + 3, none⟩ = some (.int .i64 p.budget)
  c4 : w.cell? ⟨b, o + 4, none⟩ = some (.int .i64 p.choice)
  c5 : w.cell? ⟨b, o + 5, none⟩ = some (.int .i64 p.bound)
theorem PosCells.later {w w1 : World} {b o : Nat} {p : Pos} {sa fa : Option Addr} {sc fc : Nat} (h : PosCells w b o p sa sc fa fc) (hb : Below w.heap.size w w1) : PosCells w1 b o p sa sc fa fc :=
  ⟨cell_later hb h.c0, cell_later hb h.c1, cell_later hb h.c2, cell_later hb h.c3, cell_later hb h.c4, cell_later hb h.c5⟩
theorem PosCells.below {w w1 : World} {n b o : Nat} {p : Pos} {sa fa : Option Addr} {sc fc : Nat} (h : PosCells w b o p sa sc fa fc) (hb : Below n w w1) (hn : b < n) : PosCells w1 b o p sa sc fa fc :=
  ⟨(hb.cell hn).trans h.c0, (hb.cell hn).trans h.c1, (hb.cell hn).trans h.c2, (hb.cell hn).trans h.c3, (hb.cell hn).trans h.c4, (hb.cell hn).trans h.c5⟩
theorem PosCells.lt {w : World} {b o : Nat} {p : Pos} {sa fa : Option Addr} {sc fc : Nat} (h : PosCells w b o p sa sc fa fc) : b < w.heap.size := World.block_lt_of_cell? _ _ h.c0
/-- a list of positions lies at a; pv: the positions' values -/
def PlanAt (w : World) (a : Option Addr) (plan : List Pos) (pv : Nat → Value) : Prop := ∀ j (hj : j < plan.length), ∃ b off sa sc fa fc, a = some ⟨b, off, none⟩ ∧ pv j = psV plan[j] sa sc fa fc ∧ PosCells w b (off + j * 6) plan[j] sa sc fa fc ∧ PsAt w plan[j] sa fa
theorem PlanAt.later {w w1 : World} {a : Option Addr} {plan : List Pos} {pv : Nat → Value} (h : PlanAt w a plan pv) (hb : Below w.heap.size w w1) : PlanAt w1 a plan pv := fun j hj => by
  obtain ⟨b, off, sa, sc, fa, fc, h1, h2, h3, h4⟩ := h j hj
  exact ⟨b, off, sa, sc, fa, fc, h1, h2, h3.later hb, h4.later hb⟩
/-- the last k indices, from the end -/
def dn (n : Nat) : Nat → List (Fin n)
  | 0 => []
  | k + 1 => if h : k < n then dn n k ++ [⟨n - 1 - k, by omega⟩] else dn n k
theorem dn_succ {n k : Nat} (h : k < n) : dn n (k + 1) = dn n k ++ [⟨n - 1 - k, by omega⟩] := by rw [dn, dif_pos h]
theorem dn_length {n : Nat} : ∀ k, k ≤ n → (dn n k).length = k
  | 0, _ => rfl
  | k + 1, h => by rw [dn_succ (by omega), List.length_append, dn_length k (by omega)]; rfl
set_option maxRecDepth 100000 in
set_option maxHeartbeats 2000000 in
theorem backward1_in (F : Fence) (n : Nat) (h7 : F.fn 52) (hro : F.round = none) (hn : 1 ≤ n) (l Bs n₀ cap : Nat) (sa : Option Addr) (plan : List Pos) (pv : Nat → Value) (hlen : plan.length ≤ 1000000)
    (J Jx : List (Fin plan.length) → World → Prop) (_hJd : ∀ pre W, J pre W → J pre W.drew)
    (hY : ∀ (pre : List (Fin plan.length)) (x : Fin plan.length) (W : World), J pre W → pre.length < plan.length → YieldAt F (n - 1) Try.prog l #[.int .i64 (x : Nat), pv x] W fun e W' =>
      (e = .returned (.bool true) ∧ J (pre ++ [x]) W' ∧ Kp2 n₀ Bs W W') ∨ (e = .returned (.bool false) ∧ Jx (pre ++ [x]) W'))
    (w0 W : World) (hW : Below w0.heap.size w0 W) (hn0 : w0.heap.size = n₀) (hBs : W.cell? ⟨Bs, 0, none⟩ = some (.slice sa plan.length cap)) (hc : PlanAt w0 sa plan pv) (h0 : J [] W) :
    CallsIn F n Try.prog 52 #[.func (.yield l) #[] #[], .pointer (some ⟨Bs, 0, none⟩)] W fun e W' => (∃ v, e = .returned v) ∧
      ((∃ ys, ys = dn plan.length plan.length ∧ J ys W') ∨ (∃ pre, (∃ k, k ≤ plan.length ∧ pre = dn plan.length k) ∧ Jx pre W')) := by
  refine callsIn_of_wp Try.func52 rfl h7 ?_ hro
  simp only [Try.ntmps52, List.size_toArray, List.length_cons, List.length_nil, Nat.reduceAdd, Nat.reduceSub, Array.replicate_succ, Array.replicate_zero, List.push_toArray, List.append_toArray, List.nil_append, List.cons_append]
  gi_wp2
  gi_loopw [3] (fun i wr => ∃ k : Nat, k ≤ plan.length ∧ i = .int .i64 ((plan.length : Int) - 1 - k) ∧ J (dn plan.length k) wr ∧ Kp2 n₀ Bs W wr)
    (fun i _ => (intOf i + 1).toNat)
  case atStart => exact ⟨0, by omega, by simp, h0, Kp2.refl _ _ _⟩
  case round =>
    obtain ⟨k, hk, rfl, hJs, hnx⟩ := hrel
    have hbs := hnx.2.trans hBs
    by_cases hlt : k < plan.length
    · obtain ⟨b, off, ra, rc, fa, fc, rfl, hpv, hcells, _⟩ := hc (plan.length - 1 - k) (by omega)
      have hbw : Below n₀ w0 wr := by rw [← hn0] at hnx ⊢; exact hW.trans hnx.1
      have hcells' := hcells.below hbw (by rw [← hn0]; exact hcells.lt)
      obtain ⟨p, hp⟩ : ∃ p, p = plan[plan.length - 1 - k] := ⟨_, rfl⟩
      rw [← hp] at hcells' hpv
      have hfb : plan.length - 1 - k < plan.length := by omega
      obtain ⟨fn, tmps, assign, body, hy, hR⟩ := hY _ (⟨plan.length - 1 - k, hfb⟩ : Fin plan.length) wr hJs (by rw [dn_length _ hk]; exact hlt)
      obtain ⟨q, hq⟩ : ∃ q : Nat, q = plan.length - 1 - k := ⟨_, rfl⟩
      have hqi : (plan.length : Int) - 1 - k = (q : Int) := by omega
      dsimp only at hy hR
      rw [← hq] at hcells' hpv hy
      rw [hqi]
      rw [hpv] at hy
      obtain ⟨c0, c1, c2, c3, c4, c5⟩ := hcells'
      have i1 : (q : Int) < (plan.length : Int) := by omega
      have i0 : (0 : Int) ≤ (q : Int) := by omega
      have HQI := Lib.hid hqi
      clear hqi hcells hq hp
      gi_wp2_with (refine hR.mono ?_; intro e W3 h3; obtain ⟨bb, rfl, hW3⟩ : ∃ bb : Bool, e = .returned (.bool bb) ∧ ((bb = true ∧ J (dn plan.length k ++ [⟨plan.length - 1 - k, hfb⟩]) W3 ∧ Kp2 n₀ Bs wr W3) ∨ (bb = false ∧ Jx (dn plan.length k ++ [⟨plan.length - 1 - k, hfb⟩]) W3)) := (by
        rcases h3 with ⟨h1, h2⟩ | ⟨h1, h2⟩
        · exact ⟨true, h1, .inl ⟨rfl, h2⟩⟩
        · exact ⟨false, h1, .inr ⟨rfl, h2⟩⟩))
      all_goals rcases hW3 with ⟨rfl, hJ3, hk3⟩ | ⟨rfl, hJx3⟩
      · exact absurd ‹(!true) = true› (by decide)
      · refine bodyPost_ret (results_none rfl _ _ _) rfl ?_
        exact ⟨⟨_, rfl⟩, .inr ⟨_, ⟨k + 1, by omega, rfl⟩, by rw [dn_succ hlt]; exact hJx3⟩⟩
      · refine ⟨⟨k + 1, by omega, by rw [← HQI.out]; congr 1; omega, by rw [dn_succ hlt]; exact hJ3, hnx.trans hk3⟩, ?_⟩
        simp [intOf]
      · exact absurd ‹(!false) = false› (by decide)
    · obtain rfl : k = plan.length := by omega
      have hqi : (plan.length : Int) - 1 - (plan.length : Int) = -1 := by omega
      rw [hqi]
      gi_wp2
      go_end0
      exact ⟨⟨_, rfl⟩, .inl ⟨_, rfl, hJs⟩⟩
theorem backward_stops (F : Fence) (n : Nat) (h7 : F.fn 52) (hro : F.round = none) (hn : 1 ≤ n) (Bs n₀ cap : Nat) (sa : Option Addr) (plan : List Pos) (pv : Nat → Value) (hlen : plan.length ≤ 1000000)
    (w0 w : World) (hw : Below w0.heap.size w0 w) (hBb : Bs < w.heap.size) (hn0 : w0.heap.size = n₀) (hBs : w.cell? ⟨Bs, 0, none⟩ = some (.slice sa plan.length cap)) (hc : PlanAt w0 sa plan pv) :
    SeqStopsK F n Try.prog 52 #[.pointer (some ⟨Bs, 0, none⟩)] (fun x : Fin plan.length => #[Value.int .i64 (x : Nat), pv x]) (Kp2 n₀ Bs) (fun ys => ys = dn plan.length plan.length)
      (fun pre => ∃ k, k ≤ plan.length ∧ pre = dn plan.length k) plan.length w := fun l J Jx W hW hJ _ hY h0 =>
  backward1_in F n h7 hro hn l Bs n₀ cap sa plan pv hlen J Jx (fun pre W' h => hJ pre W' W'.drew none h ⟨rfl, rfl, rfl, Nat.le_refl _, fun _ _ _ => rfl⟩ (fun r e => by cases e)) hY w0 W
    (hw.trans (hW.mono hw.size)) hn0 ((hW.cell (p := ⟨Bs, 0, none⟩) hBb).trans hBs) hc h0
theorem backward_any (sa : Option Addr) (len cap : Nat) (w : World) : Calls Try.prog 32 #[.slice sa len cap] w fun e w' => e = .returned (.func (.func 52) #[] #[.pointer (some ⟨w.heap.size, 0, none⟩)]) ∧ w' = w.alloc (.cells #[.slice sa len cap] 28) := by
  go_enter Try.func32, Try.ntmps32
  go_wp2_with fail
  go_ret
  exact ⟨rfl, rfl⟩

/-! ### the map that the positions make, from the end -/
/-- numbers of the machine -/
structure PosIn (p : Pos) : Prop where
  t : inI p.turn
  b : inI p.budget
  s : ∀ i, inI (ig p.starts i)
  d : inI p.bound
open Classical in
noncomputable def putP (plan : List Pos) (pv : Nat → Value) (f : Value → Option Value) (x : Fin plan.length) : Value → Option Value := if Fit6 plan[x].st then putF f (sitV plan[x].st) (pv x) else f
noncomputable def foldP (plan : List Pos) (pv : Nat → Value) (l : List (Fin plan.length)) : Value → Option Value := l.foldl (putP plan pv) (fun _ => none)
theorem foldP_snoc (plan : List Pos) (pv : Nat → Value) (l : List (Fin plan.length)) (x : Fin plan.length) : foldP plan pv (l ++ [x]) = putP plan pv (foldP plan pv l) x := by unfold foldP; rw [List.foldl_append]; rfl
theorem putP_yes {plan : List Pos} {pv : Nat → Value} {f : Value → Option Value} {x : Fin plan.length} (h : Fit6 plan[x].st) : putP plan pv f x = putF f (sitV plan[x].st) (pv x) := by unfold putP; rw [if_pos h]
theorem putP_no {plan : List Pos} {pv : Nat → Value} {f : Value → Option Value} {x : Fin plan.length} (h : ¬ Fit6 plan[x].st) : putP plan pv f x = f := by unfold putP; rw [if_neg h]
theorem posAt_cons (p : Pos) (l : List Pos) (s : St) : posAt (p :: l) s = if p.st = s then some p else posAt l s := by
  unfold posAt
  rw [List.find?_cons]
  by_cases h : p.st = s
  · rw [if_pos h, decide_eq_true h]
  · rw [if_neg h, decide_eq_false h]
theorem posMap_fold {plan : List Pos} {pv : Nat → Value} (hv : ∀ j (hj : j < plan.length), ∃ sa sc fa fc, pv j = psV plan[j] sa sc fa fc) : ∀ k, k ≤ plan.length → PosMap (foldP plan pv (dn plan.length k)) (plan.drop (plan.length - k))
  | 0, _ => by
    rw [Nat.sub_zero, List.drop_length]
    intro s _
    rfl
  | k + 1, hk => by
    have ih := posMap_fold hv k (by omega)
    rw [dn_succ (by omega), foldP_snoc]
    have hlt : plan.length - 1 - k < plan.length := by omega
    have e : plan.drop (plan.length - (k + 1)) = plan[plan.length - 1 - k] :: plan.drop (plan.length - k) := by
      rw [show plan.length - (k + 1) = plan.length - 1 - k by omega, List.drop_eq_getElem_cons hlt, show plan.length - 1 - k + 1 = plan.length - k by omega]
    rw [e]
    intro s hs
    rw [posAt_cons]
    by_cases hf : Fit6 plan[plan.length - 1 - k].st
    · rw [putP_yes (x := ⟨plan.length - 1 - k, hlt⟩) hf]
      by_cases he : plan[plan.length - 1 - k].st = s
      · rw [if_pos he]
        obtain ⟨sa, sc, fa, fc, hpv⟩ := hv (plan.length - 1 - k) hlt
        refine ⟨sa, sc, fa, fc, ?_⟩
        subst he
        exact (putF_at _ _ _).trans (by rw [hpv])
      · rw [if_neg he]
        have hne : sitV s ≠ sitV plan[plan.length - 1 - k].st := fun e => he (sitV_inj hf hs e.symm)
        have hr : putF (foldP plan pv (dn plan.length k)) (sitV plan[plan.length - 1 - k].st) (pv (plan.length - 1 - k)) (sitV s) = foldP plan pv (dn plan.length k) (sitV s) := putF_ne _ _ hne
        have := ih s hs
        split at this
        · exact hr.trans this
        · obtain ⟨sa, sc, fa, fc, h⟩ := this
          exact ⟨sa, sc, fa, fc, hr.trans h⟩
    · rw [putP_no (x := ⟨plan.length - 1 - k, hlt⟩) hf]
      have he : ¬ plan[plan.length - 1 - k].st = s := fun e => hf (by rw [e]; exact hs)
      rw [if_neg he]
      exact ih s hs
theorem posMap_all {plan : List Pos} {pv : Nat → Value} (hv : ∀ j (hj : j < plan.length), ∃ sa sc fa fc, pv j = psV plan[j] sa sc fa fc) : PosMap (foldP plan pv (dn plan.length plan.length)) plan := by
  have := posMap_fold hv plan.length (Nat.le_refl _)
  rwa [Nat.sub_self, List.drop_zero] at this
theorem key_pos {p : Pos} (hi : PosIn p) (hf : Fit6 p.st) : ∃ l, keyOf Try.prog 76 (sitV p.st) = some l := by
  have hF : bitsU p.failed p.failed.length < 64 := Nat.lt_of_lt_of_le (bitsU_lt _ _) (Nat.pow_le_pow_right (by decide) (by have h1 := hf.f; have h2 := hf.m; show p.failed.length ≤ 6; exact h1 ▸ h2) : 2 ^ p.failed.length ≤ 2 ^ 6)
  have hm : p.starts.length ≤ 6 := hf.m
  exact keySit hi.t hi.b (by unfold inI; show -9223372036854775808 ≤ (p.starts.length : Int) ∧ (p.starts.length : Int) < 9223372036854775808; omega) (hi.s 0) (hi.s 1) (hi.s 2) (hi.s 3) (hi.s 4) (hi.s 5) (by unfold inI; show -9223372036854775808 ≤ (bitsU p.failed p.failed.length : Int) ∧ (bitsU p.failed p.failed.length : Int) < 9223372036854775808; omega)
end Go.Proofs.Ytgccankekflchaa

