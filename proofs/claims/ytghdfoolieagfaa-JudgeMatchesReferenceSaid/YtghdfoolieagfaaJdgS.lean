

/- The judge's laws: the head. -/
import Derived.Test.YtghdfoolieagfaaJdgR
namespace Go.Proofs.Ytghdfoolieagfaa
open Go.RowKit

theorem ig_one : ig [1] 0 = 1 := rfl
theorem vg_ex {b : Int} (h0 : 0 ≤ b) (h3 : b ≤ 3) : VG (exG b) := by
  refine ⟨show (1 : Nat) ≤ 6 by decide, show (1 : Nat) ≤ 12 by decide, h0, h3, fun i hi => ?_, fun i hi => ?_⟩
  · obtain rfl : i = 0 := by simpa [exG] using hi
    show (0 : Int) ≤ 1 ∧ (1 : Int) ≤ 12
    decide
  · obtain rfl : i = 0 := by simpa [exG] using hi
    intro j hj
    obtain rfl : j = 0 := by simpa [exG, dg] using hj
    show (-1 : Int) < 0 ∧ (0 : Int) < (1 : Nat)
    decide
theorem rch_one {g : Gm} {plan : List Pos} (h1 : g.deps.length = 1) {s : St} (h : Rch g plan s) : s ∈ madeL (beginS g) ∧ s.turn = 0 := by
  induction h with
  | first hx =>
    refine ⟨hx, ?_⟩
    rcases mem_made.1 hx with rfl | ⟨v, _, _, _, rfl⟩ <;> rfl
  | next _ _ ht _ ih => exact absurd (by rw [ih.2, h1]; rfl) ht
theorem acc_one {g : Gm} {plan : List Pos} {bound : Int} (hv : VG g) (h1 : g.deps.length = 1) (h : ∀ x ∈ madeL (beginS g), ∃ p, posAt plan x = some p ∧ 0 ≤ p.bound ∧ p.bound ≤ bound ∧ can g x p.choice ∧ lostP p ≤ p.bound) : Acc g plan bound := by
  refine ⟨hv, fun e => absurd h1 (by rw [e]; decide), fun _ => ⟨fun x hx => ?_, fun s hs => ?_⟩⟩
  · obtain ⟨p, hp, h2, h3, _⟩ := h x hx
    exact ⟨p, hp, h2, h3⟩
  · obtain ⟨hx, ht⟩ := rch_one h1 hs
    obtain ⟨p, hp, _, _, hc, hl⟩ := h s hx
    exact ⟨p, hp, hc, fun _ => hl, fun h' => absurd (by rw [ht, h1]; rfl) h'⟩
def s00 : St := ⟨0, [1], [false], 0⟩
def s10 : St := ⟨0, [1], [false], 1⟩
def s11 : St := ⟨0, [1], [true], 0⟩
theorem made0 : madeL (beginS (exG 0)) = [s00] := by decide
theorem made1 : madeL (beginS (exG 1)) = [s10, s11] := by decide
theorem ex1 : Acc (exG 0) (exL 0) 0 := by
  refine acc_one (vg_ex (by omega) (by omega)) rfl fun x hx => ?_
  rw [made0] at hx
  obtain rfl : x = s00 := by simpa using hx
  exact ⟨exP0 0, rfl, by decide, by decide, .inr ⟨by decide, by decide, by decide⟩, by decide⟩
theorem ex2 : Acc (exG 1) (exL 1) 1 := by
  refine acc_one (vg_ex (by omega) (by omega)) rfl fun x hx => ?_
  rw [made1] at hx
  simp only [List.mem_cons, List.not_mem_nil, or_false] at hx
  rcases hx with rfl | rfl
  · exact ⟨exP0 1, rfl, by decide, by decide, .inr ⟨by decide, by decide, by decide⟩, by decide⟩
  · exact ⟨exP1 1, rfl, by decide, by decide, .inl rfl, by decide⟩
theorem ex3 : ¬ Acc (exG 1) (exL 1) 0 := fun h => by
  obtain ⟨p, hp, _, hb⟩ := (h.2.2 (by decide)).1 s11 (by rw [made1]; simp)
  have : posAt (exL 1) s11 = some (exP1 1) := rfl
  rw [this] at hp
  cases hp
  exact absurd hb (by decide)
theorem ex4 : ¬ Acc (exG 1) ((exL 1).take 1) 1 := fun h => by
  obtain ⟨p, hp, _, hb⟩ := (h.2.2 (by decide)).1 s11 (by rw [made1]; simp)
  have : posAt ((exL 1).take 1) s11 = none := rfl
  rw [this] at hp
  cases hp
theorem ex5 : ¬ Acc (exG 0) [] 5 := fun h => by
  obtain ⟨p, hp, _, hb⟩ := (h.2.2 (by decide)).1 s00 (by rw [made0]; simp)
  cases hp
def g00 : Gm := ⟨[], [], 0⟩
theorem vg_0 : VG g00 := ⟨by decide, by decide, by decide, by decide, fun i hi => absurd hi (by simp [g00]), fun i hi => absurd hi (by simp [g00])⟩
theorem ex6 : Acc g00 [] 0 := (vg_0.nodep rfl).2 (by decide)
theorem ex7 : ¬ Acc g00 [] (-1) := fun h => absurd ((vg_0.nodep rfl).1 h) (by decide)
theorem few_ex (b : Int) : GmFew (exG b) := ⟨show (1 : Nat) ≤ 1000 by decide, show (1 : Nat) ≤ 1000 by decide, fun j hj => by
  obtain rfl : j = 0 := by simpa [exG] using hj
  show (1 : Nat) ≤ 1000
  decide⟩
theorem few_0 : GmFew g00 := ⟨by decide, by decide, fun i hi => absurd hi (by simp [g00])⟩
theorem gm_0 (w : World) : GmAt w g00 none none := ⟨Ints.nil _ _, fun i hi => absurd hi (by simp [g00])⟩
theorem plan_0 (w : World) (a : Option Addr) (pv : Nat → Value) : PlanAt w a [] pv := fun j hj => absurd hj (by simp)
theorem inI_small {n : Int} (h1 : -1000 ≤ n) (h2 : n ≤ 1000) : inI n := by unfold inI; omega
theorem inI_one (j : Nat) : inI (ig [1] j) := inI_ig (fun m hm => by
  obtain rfl : m = 1 := by simpa using hm
  exact inI_small (by decide) (by decide)) j
theorem posIn_0 {b : Int} (h1 : -900 ≤ b) (h2 : b ≤ 900) : PosIn (exP0 b) :=
  ⟨show inI 0 from inI_small (by decide) (by decide), show inI b from inI_small (by omega) (by omega), inI_one, show inI 0 from inI_small (by decide) (by decide)⟩
theorem posIn_1 {b : Int} (h1 : -900 ≤ b) (h2 : b ≤ 900) : PosIn (exP1 b) :=
  ⟨show inI 0 from inI_small (by decide) (by decide), show inI (b - 1) from inI_small (by omega) (by omega), inI_one, show inI 1 from inI_small (by decide) (by decide)⟩
theorem posIn_L {b : Int} (h1 : -900 ≤ b) (h2 : b ≤ 900) : ∀ p ∈ exL b, PosIn p := fun p hp => by
  unfold exL at hp
  split at hp
  · simp only [List.mem_cons, List.not_mem_nil, or_false] at hp
    rcases hp with rfl | rfl
    · exact posIn_0 h1 h2
    · exact posIn_1 h1 h2
  · obtain rfl : p = exP0 b := by simpa using hp
    exact posIn_0 h1 h2
theorem PlanAt.take {w : World} {a : Option Addr} {plan : List Pos} {pv : Nat → Value} (h : PlanAt w a plan pv) (n : Nat) : PlanAt w a (plan.take n) pv := fun j hj => by
  have hj' : j < plan.length := by simp at hj; omega
  obtain ⟨b, off, sa, sc, fa, fc, h1, h2, h3, h4⟩ := h j hj'
  exact ⟨b, off, sa, sc, fa, fc, h1, by rw [List.getElem_take]; exact h2, by rw [List.getElem_take]; exact h3, by rw [List.getElem_take]; exact h4⟩
set_option maxRecDepth 100000 in
set_option maxHeartbeats 4000000 in
theorem head_any (w : World) : Calls Try.prog 8 #[] w (RetB (.bool true) w) := by
  go_enter Try.func8, Try.ntmps8
  go_wp2_with fail
  refine Calls.mono (example0 _) ?_
  rintro e w1 ⟨sa, da, pa, pc, pv, rfl, hg1, hp1, hc1, hb1⟩
  have HG1 := Lib.hid hg1
  have HP1 := Lib.hid hp1
  have hs1 := hb1.size
  clear hg1 hp1
  rw [show (exL 0).length = 1 from rfl]
  go_wp2_with fail
  refine Calls.mono (example1 _) ?_
  rintro e w2 ⟨sa2, da2, pa2, pc2, pv2, rfl, hg2, hp2, hc2, hb2⟩
  have HG2 := Lib.hid hg2
  have HP2 := Lib.hid hp2
  have hs2 := hb2.size
  clear hg2 hp2
  rw [show (exL 1).length = 2 from rfl]
  have c0 := cell_later hb2 (a := ⟨w1.heap.size, 0, none⟩) (v := .slice sa 1 1) (by simp [go_sem])
  have c1 := cell_later hb2 (a := ⟨w1.heap.size, 1, none⟩) (v := .slice da 1 1) (by simp [go_sem])
  have c2 := cell_later hb2 (a := ⟨w1.heap.size, 2, none⟩) (v := .int .i64 0) (by simp [go_sem])
  go_wp2_with fail
  have HA1 := Lib.hid (show ∀ wx, GmAt wx (exG 0) sa da → PlanAt wx pa (exL 0) pv → Calls Try.prog 10 #[.agg #[.slice sa 1 1, .slice da 1 1, .int .i64 0], .slice pa 1 pc, .int .i64 0] wx (RetB (.bool true) wx) from fun wx hg hp => by
    have h := accept_any (exG 0) sa da pa 1 1 pc (exL 0) pv (0) wx hg (few_ex 0) hp (posIn_L (by decide) (by decide)) (by decide)
    rw [accB_true ex1] at h
    exact h)
  have HA2 := Lib.hid (show ∀ wx, GmAt wx (exG 1) sa2 da2 → PlanAt wx pa2 (exL 1) pv2 → Calls Try.prog 10 #[.agg #[.slice sa2 1 1, .slice da2 1 1, .int .i64 1], .slice pa2 2 pc2, .int .i64 1] wx (RetB (.bool true) wx) from fun wx hg hp => by
    have h := accept_any (exG 1) sa2 da2 pa2 1 1 pc2 (exL 1) pv2 (1) wx hg (few_ex 1) hp (posIn_L (by decide) (by decide)) (by decide)
    rw [accB_true ex2] at h
    exact h)
  have HA3 := Lib.hid (show ∀ wx, GmAt wx (exG 1) sa2 da2 → PlanAt wx pa2 (exL 1) pv2 → Calls Try.prog 10 #[.agg #[.slice sa2 1 1, .slice da2 1 1, .int .i64 1], .slice pa2 2 pc2, .int .i64 0] wx (RetB (.bool false) wx) from fun wx hg hp => by
    have h := accept_any (exG 1) sa2 da2 pa2 1 1 pc2 (exL 1) pv2 (0) wx hg (few_ex 1) hp (posIn_L (by decide) (by decide)) (by decide)
    rw [accB_false ex3] at h
    exact h)
  have HA4 := Lib.hid (show ∀ wx, GmAt wx (exG 1) sa2 da2 → PlanAt wx pa2 (exL 1) pv2 → Calls Try.prog 10 #[.agg #[.slice sa2 1 1, .slice da2 1 1, .int .i64 1], .slice pa2 1 pc2, .int .i64 1] wx (RetB (.bool false) wx) from fun wx hg hp => by
    have h := accept_any (exG 1) sa2 da2 pa2 1 1 pc2 ((exL 1).take 1) pv2 (1) wx hg (few_ex 1) (hp.take 1) (fun p hp => posIn_L (by decide) (by decide) p (List.mem_of_mem_take hp)) (by decide)
    rw [accB_false ex4] at h
    exact h)
  have HA5 := Lib.hid (show ∀ wx, GmAt wx (exG 0) sa da → Calls Try.prog 10 #[.agg #[.slice sa 1 1, .slice da 1 1, .int .i64 0], .slice none 0 0, .int .i64 5] wx (RetB (.bool false) wx) from fun wx hg => by
    have h := accept_any (exG 0) sa da none 1 1 0 ([]) pv (5) wx hg (few_ex 0) (plan_0 _ _ _) (fun p hp => by cases hp) (by decide)
    rw [accB_false ex5] at h
    exact h)
  have HA6 := Lib.hid (show ∀ wx, Calls Try.prog 10 #[.agg #[.slice none 0 0, .slice none 0 0, .int .i64 0], .slice none 0 0, .int .i64 0] wx (RetB (.bool true) wx) from fun wx => by
    have h := accept_any (g00) none none none 0 0 0 ([]) pv (0) wx (gm_0 wx) (few_0) (plan_0 _ _ _) (fun p hp => by cases hp) (by decide)
    rw [accB_true ex6] at h
    exact h)
  have HA7 := Lib.hid (show ∀ wx, Calls Try.prog 10 #[.agg #[.slice none 0 0, .slice none 0 0, .int .i64 0], .slice none 0 0, .int .i64 (-1)] wx (RetB (.bool false) wx) from fun wx => by
    have h := accept_any (g00) none none none 0 0 0 ([]) pv (-1) wx (gm_0 wx) (few_0) (plan_0 _ _ _) (fun p hp => by cases hp) (by decide)
    rw [accB_false ex7] at h
    exact h)
  obtain ⟨wq, hwq⟩ : ∃ wq, wq = w2.alloc (Obj.cells #[.slice sa2 1 1, .slice da2 1 1, .int .i64 1] 25) := ⟨_, rfl⟩
  rw [← hwq]
  have hbq : Below w2.heap.size w2 wq := by rw [hwq]; exact (by repeat (first | exact Below.refl _ _ | assumption | refine Below.drew ?_ | refine below_drewN ?_ _ | refine Below.alloc ?_ (by first | omega | (simp; done) | (simp; omega)) _ | refine Below.setCell ?_ (by first | omega | (simp; done) | (simp; omega)) _ | refine Below.trans ?_ (Below.mono (by assumption) (by first | omega | (simp; done) | (simp; omega)))))
  have q0 : wq.cell? ⟨w2.heap.size, 0, none⟩ = some (.slice sa2 1 1) := by rw [hwq]; simp [go_sem]
  have q1 : wq.cell? ⟨w2.heap.size, 1, none⟩ = some (.slice da2 1 1) := by rw [hwq]; simp [go_sem]
  have q2 : wq.cell? ⟨w2.heap.size, 2, none⟩ = some (.int .i64 1) := by rw [hwq]; simp [go_sem]
  clear hwq
  have p0 := cell_later hbq c0
  have p1 := cell_later hbq c1
  have p2 := cell_later hbq c2
  have hb2' : Below w1.heap.size w1 w2 := (by repeat (first | exact Below.refl _ _ | assumption | refine Below.drew ?_ | refine below_drewN ?_ _ | refine Below.alloc ?_ (by first | omega | (simp; done) | (simp; omega)) _ | refine Below.setCell ?_ (by first | omega | (simp; done) | (simp; omega)) _ | refine Below.trans ?_ (Below.mono (by assumption) (by first | omega | (simp; done) | (simp; omega)))))
  have hbw : Below w.heap.size w w2 := hb1.trans (hb2'.mono hs1)
  have hg1 : GmAt wq (exG 0) sa da := (HG1.out.later hb2').later hbq
  have hp1 : PlanAt wq pa (exL 0) pv := (HP1.out.later hb2').later hbq
  have hg2 : GmAt wq (exG 1) sa2 da2 := HG2.out.later hbq
  have hp2 : PlanAt wq pa2 (exL 1) pv2 := HP2.out.later hbq
  have z1 : (1 : Nat) ≤ pc2 := by have : 2 ≤ pc2 := hc2; omega
  have z2 : (1 : Int) ≤ (pc2 : Int) := by omega
  have HBW := Lib.hid (show Below w.heap.size w wq from hbw.trans (hbq.mono hbw.size))
  have hS : ∀ wx : World, Below wq.heap.size wq wx → (wx.cell? ⟨w1.heap.size, 0, none⟩ = some (.slice sa 1 1) ∧ wx.cell? ⟨w1.heap.size, 1, none⟩ = some (.slice da 1 1) ∧ wx.cell? ⟨w1.heap.size, 2, none⟩ = some (.int .i64 0) ∧ wx.cell? ⟨w2.heap.size, 0, none⟩ = some (.slice sa2 1 1) ∧ wx.cell? ⟨w2.heap.size, 1, none⟩ = some (.slice da2 1 1) ∧ wx.cell? ⟨w2.heap.size, 2, none⟩ = some (.int .i64 1)) ∧
      GmAt wx (exG 0) sa da ∧ PlanAt wx pa (exL 0) pv ∧ GmAt wx (exG 1) sa2 da2 ∧ PlanAt wx pa2 (exL 1) pv2 := fun wx hx => ⟨⟨cell_later hx p0, cell_later hx p1, cell_later hx p2, cell_later hx q0, cell_later hx q1, cell_later hx q2⟩, hg1.later hx, hp1.later hx, hg2.later hx, hp2.later hx⟩
  clear hbq hb2' hbw hb1 hb2 hg1 hp1 hg2 hp2 hc1 hc2
  refine wp_flow_s [] [] (by kernel_rfl) (by kernel_rfl) (by kernel_rfl) ?_
  repeat (first | ((with_reducible refine Flow.pure hS StayG.nil (v := ?_) ?_ ?_ ?_ ?_); rotate_left 1; (focus kernel_rfl); (focus (intro _; rfl)); (focus (intro β wx hSw; (try dsimp only at hSw); go_simp; (try with_reducible rfl); done)); (try simp only [Act.put, List.setIfInBounds_toArray, List.set_cons_zero, List.set_cons_succ, Nat.reduceAdd])))
  ((with_reducible refine Flow.call hS StayG.nil (v := ?_) ?_ ?_ ?_ ?_); rotate_left 1; (focus kernel_rfl); (focus (intro _; rfl)); (focus (intro β L wx hI hat hSw K' hK; (try dsimp only at hSw); go_simp; go_at_call 10; refine Calls.mono (HA1.out _ hSw.2.1 hSw.2.2.1) ?_; rintro e w' ⟨rfl, hb'⟩; exact hK.out _ hb')); (try simp only [Act.put, List.setIfInBounds_toArray, List.set_cons_zero, List.set_cons_succ, Nat.reduceAdd]))
  repeat (first | ((with_reducible refine Flow.pure hS StayG.nil (v := ?_) ?_ ?_ ?_ ?_); rotate_left 1; (focus kernel_rfl); (focus (intro _; rfl)); (focus (intro β wx hSw; (try dsimp only at hSw); go_simp; (try with_reducible rfl); done)); (try simp only [Act.put, List.setIfInBounds_toArray, List.set_cons_zero, List.set_cons_succ, Nat.reduceAdd])))
  ((with_reducible refine Flow.call hS StayG.nil (v := ?_) ?_ ?_ ?_ ?_); rotate_left 1; (focus kernel_rfl); (focus (intro _; rfl)); (focus (intro β L wx hI hat hSw K' hK; (try dsimp only at hSw); go_simp; go_at_call 10; refine Calls.mono (HA2.out _ hSw.2.2.2.1 hSw.2.2.2.2) ?_; rintro e w' ⟨rfl, hb'⟩; exact hK.out _ hb')); (try simp only [Act.put, List.setIfInBounds_toArray, List.set_cons_zero, List.set_cons_succ, Nat.reduceAdd]))
  repeat (first | ((with_reducible refine Flow.pure hS StayG.nil (v := ?_) ?_ ?_ ?_ ?_); rotate_left 1; (focus kernel_rfl); (focus (intro _; rfl)); (focus (intro β wx hSw; (try dsimp only at hSw); go_simp; (try with_reducible rfl); done)); (try simp only [Act.put, List.setIfInBounds_toArray, List.set_cons_zero, List.set_cons_succ, Nat.reduceAdd])))
  ((with_reducible refine Flow.call hS StayG.nil (v := ?_) ?_ ?_ ?_ ?_); rotate_left 1; (focus kernel_rfl); (focus (intro _; rfl)); (focus (intro β L wx hI hat hSw K' hK; (try dsimp only at hSw); go_simp; go_at_call 10; refine Calls.mono (HA3.out _ hSw.2.2.2.1 hSw.2.2.2.2) ?_; rintro e w' ⟨rfl, hb'⟩; exact hK.out _ hb')); (try simp only [Act.put, List.setIfInBounds_toArray, List.set_cons_zero, List.set_cons_succ, Nat.reduceAdd]))
  repeat (first | ((with_reducible refine Flow.pure hS StayG.nil (v := ?_) ?_ ?_ ?_ ?_); rotate_left 1; (focus kernel_rfl); (focus (intro _; rfl)); (focus (intro β wx hSw; (try dsimp only at hSw); go_simp; (try with_reducible rfl); done)); (try simp only [Act.put, List.setIfInBounds_toArray, List.set_cons_zero, List.set_cons_succ, Nat.reduceAdd])))
  ((with_reducible refine Flow.call hS StayG.nil (v := ?_) ?_ ?_ ?_ ?_); rotate_left 1; (focus kernel_rfl); (focus (intro _; rfl)); (focus (intro β L wx hI hat hSw K' hK; (try dsimp only at hSw); go_simp; go_at_call 10; refine Calls.mono (HA4.out _ hSw.2.2.2.1 hSw.2.2.2.2) ?_; rintro e w' ⟨rfl, hb'⟩; exact hK.out _ hb')); (try simp only [Act.put, List.setIfInBounds_toArray, List.set_cons_zero, List.set_cons_succ, Nat.reduceAdd]))
  repeat (first | ((with_reducible refine Flow.pure hS StayG.nil (v := ?_) ?_ ?_ ?_ ?_); rotate_left 1; (focus kernel_rfl); (focus (intro _; rfl)); (focus (intro β wx hSw; (try dsimp only at hSw); go_simp; (try with_reducible rfl); done)); (try simp only [Act.put, List.setIfInBounds_toArray, List.set_cons_zero, List.set_cons_succ, Nat.reduceAdd])))
  ((with_reducible refine Flow.call hS StayG.nil (v := ?_) ?_ ?_ ?_ ?_); rotate_left 1; (focus kernel_rfl); (focus (intro _; rfl)); (focus (intro β L wx hI hat hSw K' hK; (try dsimp only at hSw); go_simp; go_at_call 10; refine Calls.mono (HA5.out _ hSw.2.1) ?_; rintro e w' ⟨rfl, hb'⟩; exact hK.out _ hb')); (try simp only [Act.put, List.setIfInBounds_toArray, List.set_cons_zero, List.set_cons_succ, Nat.reduceAdd]))
  repeat (first | ((with_reducible refine Flow.pure hS StayG.nil (v := ?_) ?_ ?_ ?_ ?_); rotate_left 1; (focus kernel_rfl); (focus (intro _; rfl)); (focus (intro β wx hSw; (try dsimp only at hSw); go_simp; (try with_reducible rfl); done)); (try simp only [Act.put, List.setIfInBounds_toArray, List.set_cons_zero, List.set_cons_succ, Nat.reduceAdd])))
  ((with_reducible refine Flow.call hS StayG.nil (v := ?_) ?_ ?_ ?_ ?_); rotate_left 1; (focus kernel_rfl); (focus (intro _; rfl)); (focus (intro β L wx hI hat hSw K' hK; (try dsimp only at hSw); go_simp; go_at_call 10; refine Calls.mono (HA6.out _) ?_; rintro e w' ⟨rfl, hb'⟩; exact hK.out _ hb')); (try simp only [Act.put, List.setIfInBounds_toArray, List.set_cons_zero, List.set_cons_succ, Nat.reduceAdd]))
  repeat (first | ((with_reducible refine Flow.pure hS StayG.nil (v := ?_) ?_ ?_ ?_ ?_); rotate_left 1; (focus kernel_rfl); (focus (intro _; rfl)); (focus (intro β wx hSw; (try dsimp only at hSw); go_simp; (try with_reducible rfl); done)); (try simp only [Act.put, List.setIfInBounds_toArray, List.set_cons_zero, List.set_cons_succ, Nat.reduceAdd])))
  ((with_reducible refine Flow.call hS StayG.nil (v := ?_) ?_ ?_ ?_ ?_); rotate_left 1; (focus kernel_rfl); (focus (intro _; rfl)); (focus (intro β L wx hI hat hSw K' hK; (try dsimp only at hSw); go_simp; go_at_call 10; refine Calls.mono (HA7.out _) ?_; rintro e w' ⟨rfl, hb'⟩; exact hK.out _ hb')); (try simp only [Act.put, List.setIfInBounds_toArray, List.set_cons_zero, List.set_cons_succ, Nat.reduceAdd]))
  repeat (first | ((with_reducible refine Flow.pure hS StayG.nil (v := ?_) ?_ ?_ ?_ ?_); rotate_left 1; (focus kernel_rfl); (focus (intro _; rfl)); (focus (intro β wx hSw; (try dsimp only at hSw); go_simp; (try with_reducible rfl); done)); (try simp only [Act.put, List.setIfInBounds_toArray, List.set_cons_zero, List.set_cons_succ, Nat.reduceAdd])))
  ((with_reducible refine Flow.stop ?_); dsimp only; intro β w8 hI)
  have hb8 := hI.below
  clear hS hI
  go_wp2_with fail
  go_ret
  exact retB rfl (HBW.out.trans (hb8.mono HBW.out.size))
end Go.Proofs.Ytghdfoolieagfaa
