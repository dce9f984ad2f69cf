
/- Contracts: package migrate's iterator over the neighbours of a list. -/
import Derived.RangeFuncNested
import Derived.RangeFuncBound
import Derived.RangeFuncCalls
import Derived.RangeFuncLeaves
import Derived.RangeFuncBox
import Derived.RangeFuncWrites
import Derived.RangeFuncKeeps
import Derived.Shelf.Abstract
import Derived.Shelf.RegionOpen
import Derived.WalkKit
import Derived.OwnWalkIn
import Derived.TacticsInMore
import Derived.LoopNIn
import Derived.LoopIn
import Derived.StillTailTactics
import Derived.Test.YtknfpdccidhhkaaStillIn
namespace Go.Proofs.Ytknfpdccidhhkaa
open Go.RowKit Go.Shelf

attribute [local go_sem] Oper.semAt_some

/-- what has come when k rounds are over: f 0, .., f (k - 1) -/
def upto {α : Type} (f : Nat → α) (k : Nat) : List α := (List.range k).map f
theorem upto_succ {α : Type} (f : Nat → α) (k : Nat) : upto f (k + 1) = upto f k ++ [f k] := by simp [upto, List.range_succ]
theorem upto_length {α : Type} (f : Nat → α) (k : Nat) : (upto f k).length = k := by simp [upto]
/-- the neighbours at place j -/
def nb (zs : List Int) (j : Nat) : Int × Int := (zs[j]?.getD 0, zs[j + 1]?.getD 0)

/-- what a round keeps: whatever lay below, and the list's own box -/
def Kp2 (n₀ Bs : Nat) (W W' : World) : Prop := Below n₀ W W' ∧ W'.cell? ⟨Bs, 0, none⟩ = W.cell? ⟨Bs, 0, none⟩
theorem Kp2.refl (n₀ Bs : Nat) (W : World) : Kp2 n₀ Bs W W := ⟨Below.refl _ _, rfl⟩
theorem Kp2.trans {n₀ Bs : Nat} {X Y Z : World} (h : Kp2 n₀ Bs X Y) (k : Kp2 n₀ Bs Y Z) : Kp2 n₀ Bs X Z := ⟨h.1.trans k.1, k.2.trans h.2⟩
theorem Kp2.drew {n₀ Bs : Nat} {X Y : World} (h : Kp2 n₀ Bs X Y) : Kp2 n₀ Bs X Y.drew := ⟨h.1.drew, h.2⟩
theorem Kp2.putObj {n₀ Bs : Nat} {w : World} (hn : n₀ ≤ w.heap.size) (hB : Bs < w.heap.size) (W : World) (l : Nat) (o o' : Obj) (hl : w.heap.size ≤ l) (h : W.heap[l]? = some o) (_ : o.isCells = false) (_ : o.isWalk = false) : Kp2 n₀ Bs W (W.putObj l o') := by
  refine ⟨belowK_b hn W l o o' hl h ‹_› ‹_›, ?_⟩
  unfold World.cell?
  rw [World.putObj_heap_other (by show Bs ≠ l; omega)]

set_option maxRecDepth 100000 in
set_option maxHeartbeats 2000000 in
theorem pairs1_in (F : Fence) (n : Nat) (h7 : F.fn 31) (hro : F.round = none) (hn : 1 ≤ n) (l Bs n₀ b off len cap : Nat) (zs : List Int) (hlen : len ≤ 1000) (hl0 : 1 ≤ len) (hb : b < n₀) (J Jx : List (Int × Int) → World → Prop) (hJd : ∀ pre W, J pre W → J pre W.drew)
    (hY : ∀ pre x W, J pre W → pre.length < len - 1 → YieldAt F (n - 1) Try.prog l #[.int .i64 x.1, .int .i64 x.2] W fun e W' =>
      (e = .returned (.bool true) ∧ J (pre ++ [x]) W' ∧ Kp2 n₀ Bs W W') ∨ (e = .returned (.bool false) ∧ Jx (pre ++ [x]) W'))
    (W : World) (hBs : W.cell? ⟨Bs, 0, none⟩ = some (.slice (some ⟨b, off, none⟩) len cap)) (hc : ∀ j, j < len → W.cell? ⟨b, off + j, none⟩ = some (.int .i64 (zs[j]?.getD 0))) (h0 : J [] W) :
    CallsIn F n Try.prog 31 #[.func (.yield l) #[] #[], .pointer (some ⟨Bs, 0, none⟩)] W fun e W' => (∃ v, e = .returned v) ∧
      ((∃ ys, ys = upto (nb zs) (len - 1) ∧ J ys W') ∨ (∃ pre, (∃ k, k ≤ len - 1 ∧ pre = upto (nb zs) k) ∧ Jx pre W')) := by
  refine callsIn_of_wp Try.func31 rfl h7 ?_ hro
  simp only [Try.ntmps31, List.size_toArray, List.length_cons, List.length_nil, Nat.reduceAdd, Nat.reduceSub, Array.replicate_succ, Array.replicate_zero, List.push_toArray, List.append_toArray, List.nil_append, List.cons_append]
  gi_wp2
  gi_loopw [3] (fun i wr => ∃ k : Nat, k + 1 ≤ len ∧ i = .int .i64 ((k : Int) + 1) ∧ J (upto (nb zs) k) wr ∧ Kp2 n₀ Bs W wr)
    (fun i _ => len - (intOf i).toNat)
  case atStart => exact ⟨0, by omega, by simp, h0, Kp2.refl _ _ _⟩
  case round =>
    obtain ⟨k, hk, rfl, hJs, hnx⟩ := hrel
    have hbs := hnx.2.trans hBs
    by_cases hlt : k + 1 < len
    · have hc1 := (hnx.1.cell (p := ⟨b, off + k, none⟩) hb).trans (hc k (by omega))
      have hc2 := (hnx.1.cell (p := ⟨b, off + (k + 1), none⟩) hb).trans (hc (k + 1) hlt)
      obtain ⟨fn, tmps, assign, body, hy, hR⟩ := hY _ (nb zs k) wr.drew (hJd _ _ hJs) (by rw [upto_length]; omega)
      dsimp only [nb] at hy
      have i1 : (k : Int) < (len : Int) := by omega
      have i2 : (k : Int) + 1 < (len : Int) := by omega
      have i0 : (0 : Int) ≤ (k : Int) := by omega
      have hmx : Try.prog.follows .mixedOrders = true := by kernel_rfl
      have hsub : IntKind.i64.wrap ((k : Int) + 1 - 1) = (k : Int) := by
        rw [show (k : Int) + 1 - 1 = (k : Int) by omega]
        exact IntWalk.i64_in _ (by omega)
      have hw1 : wrap64 (k : Int) = (k : Int) := by unfold wrap64; omega
      have hw2 : IntKind.i64.wrap (k : Int) = (k : Int) := IntWalk.i64_in _ (by omega)
      have hw3 : wrap64 ((k : Int) + 1 - 1) = (k : Int) := by unfold wrap64; omega
      gi_wp2
      have i3 : (0 : Int) ≤ (k : Int) + 1 := by omega
      refine wpIn_region_still_tail 10 hro (by decide) hmx (by kernel_rfl) ?_
      simp only [List.take_succ_cons, List.take_zero, List.drop_succ_cons, List.drop_zero]
      repeat still_step
      try refine wpStill_nil ?_
      gi_wp2_with (refine hR.mono ?_; intro e W3 h3; obtain ⟨bb, rfl, hW3⟩ : ∃ bb : Bool, e = .returned (.bool bb) ∧ ((bb = true ∧ J (upto (nb zs) k ++ [nb zs k]) W3 ∧ Kp2 n₀ Bs wr.drew W3) ∨ (bb = false ∧ Jx (upto (nb zs) k ++ [nb zs k]) W3)) := (by
        rcases h3 with ⟨h1, h2⟩ | ⟨h1, h2⟩
        · exact ⟨true, h1, .inl ⟨rfl, h2⟩⟩
        · exact ⟨false, h1, .inr ⟨rfl, h2⟩⟩))
      all_goals rcases hW3 with ⟨rfl, hJ3, hk3⟩ | ⟨rfl, hJx3⟩
      · exact absurd ‹(!true) = true› (by decide)
      · refine bodyPost_ret (results_none rfl _ _ _) rfl ?_
        exact ⟨⟨_, rfl⟩, .inr ⟨_, ⟨k + 1, by omega, rfl⟩, by rw [upto_succ]; exact hJx3⟩⟩
      · refine ⟨⟨k + 1, by omega, by simp, by rw [upto_succ]; exact hJ3, hnx.drew.trans hk3⟩, ?_⟩
        simp [intOf]
        omega
      · exact absurd ‹(!false) = false› (by decide)
    · obtain rfl : len = k + 1 := by omega
      gi_wp2
      go_end0
      exact ⟨⟨_, rfl⟩, .inl ⟨_, rfl, hJs⟩⟩

theorem pairs_stops (F : Fence) (n : Nat) (h7 : F.fn 31) (hro : F.round = none) (hn : 1 ≤ n) (Bs n₀ b off len cap : Nat) (zs : List Int) (hlen : len ≤ 1000) (hl0 : 1 ≤ len) (hb : b < n₀) (w : World) (hBb : Bs < w.heap.size) (hn₀ : n₀ ≤ w.heap.size)
    (hBs : w.cell? ⟨Bs, 0, none⟩ = some (.slice (some ⟨b, off, none⟩) len cap)) (hc : ∀ j, j < len → w.cell? ⟨b, off + j, none⟩ = some (.int .i64 (zs[j]?.getD 0))) :
    SeqStopsK F n Try.prog 31 #[.pointer (some ⟨Bs, 0, none⟩)] (fun x : Int × Int => #[Value.int .i64 x.1, Value.int .i64 x.2]) (Kp2 n₀ Bs) (fun ys => ys = upto (nb zs) (len - 1))
      (fun pre => ∃ k, k ≤ len - 1 ∧ pre = upto (nb zs) k) (len - 1) w := fun l J Jx W hW hJ _ hY h0 =>
  pairs1_in F n h7 hro hn l Bs n₀ b off len cap zs hlen hl0 hb J Jx (fun pre W' h => hJ pre W' W'.drew none h ⟨rfl, rfl, rfl, Nat.le_refl _, fun _ _ _ => rfl⟩ (fun r e => by cases e)) hY W
    ((hW.cell (p := ⟨Bs, 0, none⟩) hBb).trans hBs) (fun j hj => (hW.cell (p := ⟨b, off + j, none⟩) (by show b < _; omega)).trans (hc j hj)) h0

theorem pairs_any (sa : Option Addr) (len cap : Nat) (w : World) : Calls Try.prog 26 #[.slice sa len cap] w fun e w' => e = .returned (.func (.func 31) #[] #[.pointer (some ⟨w.heap.size, 0, none⟩)]) ∧ w' = w.alloc (.cells #[.slice sa len cap] 24) := by
  go_enter Try.func26, Try.ntmps26
  go_wp2_with fail
  go_ret
  exact ⟨rfl, rfl⟩
end Go.Proofs.Ytknfpdccidhhkaa
