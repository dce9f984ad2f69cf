

/- The judge's laws: bounds (the walk up to the two acceptances). -/
import Derived.Test.YtghdfoolieagfaaJdgW
namespace Go.Proofs.Ytghdfoolieagfaa
open Go.RowKit

theorem okAt.mono {plan : List Pos} {x : St} {a b : Int} (h : okAt plan x a) (hab : a ≤ b) : okAt plan x b := by
  obtain ⟨p, h1, h2, h3⟩ := h
  exact ⟨p, h1, h2, by omega⟩
theorem Acc.mono {g : Gm} {plan : List Pos} {a b : Int} (h : Acc g plan a) (hab : a ≤ b) : Acc g plan b :=
  ⟨h.1, fun e => by have := h.2.1 e; omega, fun e => ⟨fun x hx => ((h.2.2 e).1 x hx).mono hab, (h.2.2 e).2⟩⟩
theorem begin_made (g : Gm) : beginS g ∈ madeL (beginS g) := mem_made.2 (.inl rfl)
theorem Acc.first {g : Gm} {plan : List Pos} {a : Int} (h : Acc g plan a) (hd : g.deps ≠ []) : ∃ p, posAt plan (beginS g) = some p ∧ 0 ≤ p.bound ∧ p.bound ≤ a := (h.2.2 hd).1 _ (begin_made g)
theorem Acc.nonneg {g : Gm} {plan : List Pos} {a : Int} (h : Acc g plan a) : 0 ≤ a := by
  by_cases hd : g.deps = []
  · exact h.2.1 hd
  · obtain ⟨p, _, h1, h2⟩ := h.first hd
    omega
theorem no_less {g : Gm} {plan : List Pos} {p : Pos} (hd : g.deps ≠ []) (hp : posAt plan (beginS g) = some p) : ¬ Acc g plan (p.bound - 1) := fun h => by
  obtain ⟨q, hq, _, h2⟩ := h.first hd
  rw [hp] at hq
  cases hq
  omega
theorem no_rest {g : Gm} (plan : List Pos) {b : Int} (hd : g.deps ≠ []) : ¬ Acc g (plan.filter fun p => decide (p.st ≠ beginS g)) b := fun h => by
  obtain ⟨q, hq, _, _⟩ := h.first hd
  unfold posAt at hq
  have h1 := List.mem_of_find?_eq_some hq
  have h2 := List.find?_some hq
  simp at h1 h2
  exact h1.2 h2
theorem PlanAt.one {w : World} {a : Option Addr} {plan : List Pos} {pv : Nat → Value} (h : PlanAt w a plan pv) {k : Nat} (hk : k < plan.length) {b off : Nat} (ha : a = some ⟨b, off, none⟩) : PlanAt w (some ⟨b, off + k * 6, none⟩) [plan[k]] (fun _ => pv k) := fun j hj => by
  obtain rfl : j = 0 := by simpa using hj
  obtain ⟨b', off', sa, sc, fa, fc, h1, h2, h3, h4⟩ := h k hk
  rw [ha] at h1
  cases h1
  exact ⟨b, off + k * 6, sa, sc, fa, fc, rfl, h2, by simpa using h3, h4⟩
theorem findX_one_yes {p : Pos} {s : St} (h : p.st = s) : findX [p] s = 0 := findX_at (i := 0) (by simp) (fun j _ hj => absurd hj (by omega)) h
theorem findX_one_no {p : Pos} {s : St} (h : p.st ≠ s) : findX [p] s = -1 := findX_none fun j hj => by
  obtain rfl : j = 0 := by simpa using hj
  exact h
theorem own_nil (w : World) (B : Nat) : OwnP w B (.slice none 0 0) [] := World.ownsRow_nil _ _ _ _
set_option maxRecDepth 100000 in
set_option maxHeartbeats 4000000 in
theorem bounds_no (g : Gm) (sa da pa : Option Addr) (sc dc pc : Nat) (plan : List Pos) (pv : Nat → Value) (one two : Int) (w : World) (hG : GmAt w g sa da) (hP : PlanAt w pa plan pv) (hf : ¬ FewOk g plan 300) :
    Calls Try.prog 5 #[gmV g sa sc da dc, .slice pa plan.length pc, .int .i64 one, .int .i64 two] w (RetB (.bool true) w) := by
  have HF := Lib.hid (fewB_no hf)
  go_enter Try.func5, Try.ntmps5
  go_wp2_with fail
  refine Calls.mono (head_any _) ?_
  rintro e w1 ⟨rfl, hb1⟩; have hs1 := hb1.size; (try simp at hs1)
  have x0 : w1.cell? ⟨w.heap.size, 0, none⟩ = some (.slice sa g.starts.length sc) := cell_later hb1 (by first | assumption | (simp [go_sem, *]; done) | exact cell_later' (by assumption) (by repeat (first | exact Below.refl _ _ | assumption | refine Below.drew ?_ | refine below_drewN ?_ _ | refine Below.alloc ?_ (by first | omega | (simp; done) | (simp; omega)) _ | refine Below.setCell ?_ (by first | omega | (simp; done) | (simp; omega)) _ | refine Below.trans ?_ (Below.mono (by assumption) (by first | omega | (simp; done) | (simp; omega))))))
  have x1 : w1.cell? ⟨w.heap.size, 1, none⟩ = some (.slice da g.deps.length dc) := cell_later hb1 (by first | assumption | (simp [go_sem, *]; done) | exact cell_later' (by assumption) (by repeat (first | exact Below.refl _ _ | assumption | refine Below.drew ?_ | refine below_drewN ?_ _ | refine Below.alloc ?_ (by first | omega | (simp; done) | (simp; omega)) _ | refine Below.setCell ?_ (by first | omega | (simp; done) | (simp; omega)) _ | refine Below.trans ?_ (Below.mono (by assumption) (by first | omega | (simp; done) | (simp; omega))))))
  have x2 : w1.cell? ⟨w.heap.size, 2, none⟩ = some (.int .i64 g.budget) := cell_later hb1 (by first | assumption | (simp [go_sem, *]; done) | exact cell_later' (by assumption) (by repeat (first | exact Below.refl _ _ | assumption | refine Below.drew ?_ | refine below_drewN ?_ _ | refine Below.alloc ?_ (by first | omega | (simp; done) | (simp; omega)) _ | refine Below.setCell ?_ (by first | omega | (simp; done) | (simp; omega)) _ | refine Below.trans ?_ (Below.mono (by assumption) (by first | omega | (simp; done) | (simp; omega))))))
  have hbw : Below w.heap.size w w1 := (by repeat (first | exact Below.refl _ _ | assumption | refine Below.drew ?_ | refine below_drewN ?_ _ | refine Below.alloc ?_ (by first | omega | (simp; done) | (simp; omega)) _ | refine Below.setCell ?_ (by first | omega | (simp; done) | (simp; omega)) _ | refine Below.trans ?_ (Below.mono (by assumption) (by first | omega | (simp; done) | (simp; omega)))))
  go_wp2_with fail
  refine Calls.mono (few_any g sa da pa sc dc pc plan pv _ (hG.later hbw) (hP.later hbw)) ?_
  rw [HF.out]
  rintro e w2 ⟨rfl, hb2⟩
  have hbw2 : Below w.heap.size w w2 := hbw.trans (hb2.mono hbw.size)
  clear hb1 hb2 hbw
  go_wp2_with fail
  go_ret
  exact retB rfl hbw2
set_option maxRecDepth 100000 in
set_option maxHeartbeats 4000000 in
theorem bounds_start (g : Gm) (sa da pa : Option Addr) (sc dc pc : Nat) (plan : List Pos) (pv : Nat → Value) (one two lo hi : Int) (w : World) (hG : GmAt w g sa da) (hP : PlanAt w pa plan pv) (hpi : ∀ p ∈ plan, PosIn p) (hf : FewOk g plan 300) (hcap : plan.length ≤ pc)
    (m1 : (if two < one then two else one) = lo) (m2 : (if one < two then two else one) = hi) (hlh : lo ≤ hi) :
    Calls Try.prog 5 #[gmV g sa sc da dc, .slice pa plan.length pc, .int .i64 one, .int .i64 two] w (RetB (.bool true) w) := by
  have HF := Lib.hid (fewB_yes hf)
  have HG := Lib.hid hG
  have HP := Lib.hid hP
  have HPI := Lib.hid hpi
  have HCAP := Lib.hid hcap
  have HLH := Lib.hid hlh
  have hpl : plan.length ≤ 300 := hf.2.2.1
  have HA := Lib.hid (show ∀ wx b, GmAt wx g sa da → PlanAt wx pa plan pv → Calls Try.prog 10 #[gmV g sa sc da dc, .slice pa plan.length pc, .int .i64 b] wx (RetB (.bool (accB g plan b)) wx) from fun wx b h1 h2 => accept_any g sa da pa sc dc pc plan pv b wx h1 hf.gm h2 hpi (by omega))
  unfold gmV at HA
  have HFF := Lib.hid hf
  clear hG hP hpi hcap hlh hf
  go_enter Try.func5, Try.ntmps5
  go_wp2_with fail
  refine Calls.mono (head_any _) ?_
  rintro e w1 ⟨rfl, hb1⟩; have hs1 := hb1.size; (try simp at hs1)
  have x0 : w1.cell? ⟨w.heap.size, 0, none⟩ = some (.slice sa g.starts.length sc) := cell_later hb1 (by first | assumption | (simp [go_sem, *]; done) | exact cell_later' (by assumption) (by repeat (first | exact Below.refl _ _ | assumption | refine Below.drew ?_ | refine below_drewN ?_ _ | refine Below.alloc ?_ (by first | omega | (simp; done) | (simp; omega)) _ | refine Below.setCell ?_ (by first | omega | (simp; done) | (simp; omega)) _ | refine Below.trans ?_ (Below.mono (by assumption) (by first | omega | (simp; done) | (simp; omega))))))
  have x1 : w1.cell? ⟨w.heap.size, 1, none⟩ = some (.slice da g.deps.length dc) := cell_later hb1 (by first | assumption | (simp [go_sem, *]; done) | exact cell_later' (by assumption) (by repeat (first | exact Below.refl _ _ | assumption | refine Below.drew ?_ | refine below_drewN ?_ _ | refine Below.alloc ?_ (by first | omega | (simp; done) | (simp; omega)) _ | refine Below.setCell ?_ (by first | omega | (simp; done) | (simp; omega)) _ | refine Below.trans ?_ (Below.mono (by assumption) (by first | omega | (simp; done) | (simp; omega))))))
  have x2 : w1.cell? ⟨w.heap.size, 2, none⟩ = some (.int .i64 g.budget) := cell_later hb1 (by first | assumption | (simp [go_sem, *]; done) | exact cell_later' (by assumption) (by repeat (first | exact Below.refl _ _ | assumption | refine Below.drew ?_ | refine below_drewN ?_ _ | refine Below.alloc ?_ (by first | omega | (simp; done) | (simp; omega)) _ | refine Below.setCell ?_ (by first | omega | (simp; done) | (simp; omega)) _ | refine Below.trans ?_ (Below.mono (by assumption) (by first | omega | (simp; done) | (simp; omega))))))
  have hbw : Below w.heap.size w w1 := (by repeat (first | exact Below.refl _ _ | assumption | refine Below.drew ?_ | refine below_drewN ?_ _ | refine Below.alloc ?_ (by first | omega | (simp; done) | (simp; omega)) _ | refine Below.setCell ?_ (by first | omega | (simp; done) | (simp; omega)) _ | refine Below.trans ?_ (Below.mono (by assumption) (by first | omega | (simp; done) | (simp; omega)))))
  have lx : w.heap.size < w1.heap.size := by omega
  clear hb1
  go_wp2_with fail
  refine Calls.mono (few_any g sa da pa sc dc pc plan pv _ (HG.out.later hbw) (HP.out.later hbw)) ?_
  rw [HF.out]
  rintro e w2 ⟨rfl, hb2⟩
  have hbw2 : Below w.heap.size w w2 := hbw.trans (hb2.mono hbw.size)
  have ly := hb2.size
  have y0 := cell_later hb2 x0
  have y1 := cell_later hb2 x1
  have y2 := cell_later hb2 x2
  have hg2 := HG.out.later hbw2
  have hp2 := HP.out.later hbw2
  clear hb2 hbw x0 x1 x2
  go_wp2_with fail
  have hS : ∀ wy : World, Below w2.heap.size w2 wy → (wy.cell? ⟨w.heap.size, 0, none⟩ = some (.slice sa g.starts.length sc) ∧ wy.cell? ⟨w.heap.size, 1, none⟩ = some (.slice da g.deps.length dc) ∧ wy.cell? ⟨w.heap.size, 2, none⟩ = some (.int .i64 g.budget)) ∧ GmAt wy g sa da ∧ PlanAt wy pa plan pv := fun wy hy => ⟨⟨cell_later hy y0, cell_later hy y1, cell_later hy y2⟩, hg2.later hy, hp2.later hy⟩
  refine wp_flow_s [] [] (by kernel_rfl) (by kernel_rfl) (by kernel_rfl) ?_
  repeat (first | ((with_reducible refine Flow.pure hS StayG.nil (v := ?_) ?_ ?_ ?_ ?_); rotate_left 1; (focus kernel_rfl); (focus (intro _; rfl)); (focus (intro β wx hSw; (try dsimp only at hSw); go_simp; (try with_reducible rfl); done)); (try simp only [Act.put, List.setIfInBounds_toArray, List.set_cons_zero, List.set_cons_succ, Nat.reduceAdd])))
  ((with_reducible refine Flow.call hS StayG.nil (v := ?_) ?_ ?_ ?_ ?_); rotate_left 1; (focus kernel_rfl); (focus (intro _; rfl)); (focus (intro β L wx hI hat hSw K' hK; (try dsimp only at hSw); go_simp; go_at_call 10; refine Calls.mono (HA.out _ _ hSw.2.1 hSw.2.2) ?_; rintro e w' ⟨rfl, hb'⟩; exact hK.out _ hb')); (try simp only [Act.put, List.setIfInBounds_toArray, List.set_cons_zero, List.set_cons_succ, Nat.reduceAdd]))
  repeat (first | ((with_reducible refine Flow.pure hS StayG.nil (v := ?_) ?_ ?_ ?_ ?_); rotate_left 1; (focus kernel_rfl); (focus (intro _; rfl)); (focus (intro β wx hSw; (try dsimp only at hSw); go_simp; (try with_reducible rfl); done)); (try simp only [Act.put, List.setIfInBounds_toArray, List.set_cons_zero, List.set_cons_succ, Nat.reduceAdd])))
  ((with_reducible refine Flow.call hS StayG.nil (v := ?_) ?_ ?_ ?_ ?_); rotate_left 1; (focus kernel_rfl); (focus (intro _; rfl)); (focus (intro β L wx hI hat hSw K' hK; (try dsimp only at hSw); go_simp; go_at_call 10; refine Calls.mono (HA.out _ _ hSw.2.1 hSw.2.2) ?_; rintro e w' ⟨rfl, hb'⟩; exact hK.out _ hb')); (try simp only [Act.put, List.setIfInBounds_toArray, List.set_cons_zero, List.set_cons_succ, Nat.reduceAdd]))
  repeat (first | ((with_reducible refine Flow.pure hS StayG.nil (v := ?_) ?_ ?_ ?_ ?_); rotate_left 1; (focus kernel_rfl); (focus (intro _; rfl)); (focus (intro β wx hSw; (try dsimp only at hSw); go_simp; (try with_reducible rfl); done)); (try simp only [Act.put, List.setIfInBounds_toArray, List.set_cons_zero, List.set_cons_succ, Nat.reduceAdd])))
  ((with_reducible refine Flow.stop ?_); dsimp only; intro β w3 hI)
  have hb3 := hI.below
  have hbw3 : Below w.heap.size w w3 := hbw2.trans (hb3.mono hbw2.size)
  have lz := hb3.size
  have z0 := cell_later hb3 y0
  have z1 := cell_later hb3 y1
  have z2 := cell_later hb3 y2
  clear hS hI hb3 y0 y1 y2 hg2 hp2 hbw2
  by_cases hA : Acc g plan lo
  · have hlo := hA.nonneg
    rw [accB_true hA, accB_true (hA.mono HLH.out)]
    have e1 : decide (lo < 0) = false := decide_eq_false (by omega)
    have e2 : decide (0 ≤ lo) = true := decide_eq_true hlo
    by_cases hd : g.deps = []
    · have hd0 : g.deps.length = 0 := by rw [hd]; rfl
      rw [hd0] at z1
      go_wp2_with fail
      go_ret
      exact retB rfl hbw3
    · have hd1 : 0 < g.deps.length := List.length_pos_iff.2 hd
      have e3 : ((g.deps.length : Int) == 0) = false := by simp; omega
      have HD := Lib.hid hd
      have HAC := Lib.hid hA
      clear hd hA hd1
      go_wp2_with fail
      refine Calls.mono (begin_any g sa da sc dc _ (HG.out.later hbw3).s (by have := HFF.out.1; omega)) ?_
      rintro e w4 ⟨sa2, sc2, fa2, fc2, rfl, hps4, hb4⟩
      have hbw4 : Below w.heap.size w w4 := hbw3.trans (hb4.mono hbw3.size)
      have z0' := cell_later hb4 z0
      have z1' := cell_later hb4 z1
      have z2' := cell_later hb4 z2
      have l4 := hb4.size
      obtain ⟨s, hs⟩ : ∃ s, s = posB g := ⟨_, rfl⟩
      rw [← hs] at hps4 ⊢
      have HS := Lib.hid hs
      have HPS := Lib.hid hps4
      clear hs hps4 hb4 z0 z1 z2
      unfold psV
      go_wp2_with fail
      obtain ⟨wq, hwq⟩ : ∃ wq, wq = w4.alloc (Obj.cells #[.int .i64 s.turn, .slice sa2 s.starts.length sc2, .slice fa2 s.failed.length fc2, .int .i64 s.budget, .int .i64 s.choice, .int .i64 s.bound] 33) := ⟨_, rfl⟩
      rw [← hwq]
      have hbq : Below w4.heap.size w4 wq := by rw [hwq]; exact (by repeat (first | exact Below.refl _ _ | assumption | refine Below.drew ?_ | refine below_drewN ?_ _ | refine Below.alloc ?_ (by first | omega | (simp; done) | (simp; omega)) _ | refine Below.setCell ?_ (by first | omega | (simp; done) | (simp; omega)) _ | refine Below.trans ?_ (Below.mono (by assumption) (by first | omega | (simp; done) | (simp; omega)))))
      have a0 : wq.cell? ⟨w4.heap.size, 0, none⟩ = some (.int .i64 s.turn) := by rw [hwq]; simp [go_sem]
      have a1 : wq.cell? ⟨w4.heap.size, 1, none⟩ = some (.slice sa2 s.starts.length sc2) := by rw [hwq]; simp [go_sem]
      have a2 : wq.cell? ⟨w4.heap.size, 2, none⟩ = some (.slice fa2 s.failed.length fc2) := by rw [hwq]; simp [go_sem]
      have a3 : wq.cell? ⟨w4.heap.size, 3, none⟩ = some (.int .i64 s.budget) := by rw [hwq]; simp [go_sem]
      have a4 : wq.cell? ⟨w4.heap.size, 4, none⟩ = some (.int .i64 s.choice) := by rw [hwq]; simp [go_sem]
      have a5 : wq.cell? ⟨w4.heap.size, 5, none⟩ = some (.int .i64 s.bound) := by rw [hwq]; simp [go_sem]
      have l5 : w4.heap.size < wq.heap.size := by rw [hwq]; simp
      have hbwq : Below w.heap.size w wq := hbw4.trans (hbq.mono hbw4.size)
      have g0 := cell_later hbq z0'
      have g1 := cell_later hbq z1'
      have g2 := cell_later hbq z2'
      have HPQ := Lib.hid (HPS.out.later hbq)
      clear hwq hbq z0' z1' z2' hbw3 hbw4
      have hf := find_any plan pv pa pc s sa2 fa2 sc2 fc2 wq (HP.out.later hbwq) HPQ.out (HFF.out.plan (by decide))
      obtain ⟨p, hp, hp0, hp1⟩ := HAC.out.first HD.out
      have hst : s.st = beginS g := by rw [HS.out]; rfl
      rw [← hst] at hp
      obtain ⟨i, hii, hfi, hpi, _, _⟩ := findX_some hp
      rw [hfi] at hf
      unfold psV at hf
      refine Calls.mono hf ?_
      rintro e w5 ⟨rfl, hb5⟩
      have hbw5 : Below w.heap.size w w5 := hbwq.trans (hb5.mono hbwq.size)
      have l6 := hb5.size
      have b0 := cell_later hb5 g0
      have b1 := cell_later hb5 g1
      have b2 := cell_later hb5 g2
      have c0 := cell_later hb5 a0
      have c1 := cell_later hb5 a1
      have c2 := cell_later hb5 a2
      have c3 := cell_later hb5 a3
      have c4 := cell_later hb5 a4
      have c5 := cell_later hb5 a5
      have HPR := Lib.hid (HPQ.out.later hb5)
      have hpw := HP.out.later hbw5
      obtain ⟨pb, po, psa, psc, pfa, pfc, rfl, hcc⟩ := hpw i hii
      have hc := hcc.2.1
      clear hcc
      rw [hpi] at hc
      have k5 := hc.c5
      obtain ⟨m, hm⟩ : ∃ m, m = p.bound := ⟨_, rfl⟩
      have hin := (HPI.out p (by rw [← hpi]; exact List.getElem_mem hii)).d
      have h9 : IntKind.i64.wrap (m - 1) = p.bound - 1 := by rw [hm]; unfold inI at hin; exact IntWalk.i64_in _ (by omega)
      have HA9 := Lib.hid (show ∀ wx, GmAt wx g sa da → PlanAt wx (some ⟨pb, po, none⟩) plan pv → Calls Try.prog 10 #[.agg #[.slice sa g.starts.length sc, .slice da g.deps.length dc, .int .i64 g.budget], .slice (some ⟨pb, po, none⟩) plan.length pc, .int .i64 (IntKind.i64.wrap (m - 1))] wx (RetB (.bool false) wx) from fun wx h1 h2 => by
        have h := HA.out wx (IntKind.i64.wrap (m - 1)) h1 h2
        rw [show accB g plan (IntKind.i64.wrap (m - 1)) = false by rw [h9]; exact accB_false (no_less HD.out (by rw [← hst]; exact hp))] at h
        exact h)
      have e5 : decide (lo < m) = false := decide_eq_false (by omega)
      have n1 : (i : Int) < (plan.length : Int) := by omega
      have n0 : (0 : Int) ≤ (i : Int) := by omega
      have e4 : decide ((i : Int) < 0) = false := decide_eq_false (by omega)
      rw [← hm] at k5
      have HST := Lib.hid hst
      have hg5 := HG.out.later hbw5
      clear h9 hin hc hf hfi hp hpi hm hst a0 a1 a2 a3 a4 a5 hb5 hbwq g0 g1 g2 hp0 hp1
      go_wp2_with fail
      have hS : ∀ wy : World, Below w5.heap.size w5 wy → (wy.cell? ⟨w.heap.size, 0, none⟩ = some (.slice sa g.starts.length sc) ∧ wy.cell? ⟨w.heap.size, 1, none⟩ = some (.slice da g.deps.length dc) ∧ wy.cell? ⟨w.heap.size, 2, none⟩ = some (.int .i64 g.budget) ∧ wy.cell? ⟨pb, po + i * 6 + 5, none⟩ = some (.int .i64 m)) ∧ GmAt wy g sa da ∧ PlanAt wy (some ⟨pb, po, none⟩) plan pv := fun wy hy => ⟨⟨cell_later hy b0, cell_later hy b1, cell_later hy b2, cell_later hy k5⟩, hg5.later hy, hpw.later hy⟩
      refine wp_flow_s [] [] (by kernel_rfl) (by kernel_rfl) (by kernel_rfl) ?_
      repeat (first | ((with_reducible refine Flow.pure hS StayG.nil (v := ?_) ?_ ?_ ?_ ?_); rotate_left 1; (focus kernel_rfl); (focus (intro _; rfl)); (focus (intro β wx hSw; (try dsimp only at hSw); go_simp; (try with_reducible rfl); done)); (try simp only [Act.put, List.setIfInBounds_toArray, List.set_cons_zero, List.set_cons_succ, Nat.reduceAdd])))
      ((with_reducible refine Flow.call hS StayG.nil (v := ?_) ?_ ?_ ?_ ?_); rotate_left 1; (focus kernel_rfl); (focus (intro _; rfl)); (focus (intro β L wx hI hat hSw K' hK; (try dsimp only at hSw); go_simp; go_at_call 10; refine Calls.mono (HA9.out _ hSw.2.1 hSw.2.2) ?_; rintro e w' ⟨rfl, hb'⟩; exact hK.out _ hb')); (try simp only [Act.put, List.setIfInBounds_toArray, List.set_cons_zero, List.set_cons_succ, Nat.reduceAdd]))
      repeat (first | ((with_reducible refine Flow.pure hS StayG.nil (v := ?_) ?_ ?_ ?_ ?_); rotate_left 1; (focus kernel_rfl); (focus (intro _; rfl)); (focus (intro β wx hSw; (try dsimp only at hSw); go_simp; (try with_reducible rfl); done)); (try simp only [Act.put, List.setIfInBounds_toArray, List.set_cons_zero, List.set_cons_succ, Nat.reduceAdd])))
      ((with_reducible refine Flow.stop ?_); dsimp only; intro β9 w9 hI9)
      generalize IntKind.i64.wrap (m - 1) = mm
      have hb9 := hI9.below
      have hbw9 : Below w.heap.size w w9 := hbw5.trans (hb9.mono hbw5.size)
      have l9 := hb9.size
      have d0 := cell_later hb9 c0
      have d1 := cell_later hb9 c1
      have d2 := cell_later hb9 c2
      have d3 := cell_later hb9 c3
      have d4 := cell_later hb9 c4
      have d5 := cell_later hb9 c5
      have f0 := cell_later hb9 b0
      have f1 := cell_later hb9 b1
      have f2 := cell_later hb9 b2
      have HPT := Lib.hid (HPR.out.later hb9)
      clear hS hI9 hb9 c0 c1 c2 c3 c4 c5 b0 b1 b2 k5 hg5 hpw n1 n0 e4 e5 hii
      go_wp2_with fail
      have hp9 := HP.out.later hbw9
      have HP9 := Lib.hid hp9
      clear hp9
      obtain ⟨c0, hc0⟩ : ∃ c0, c0 = pc := ⟨_, rfl⟩
      go_loopg [14, 15] (plan.length + 1) (fun n v14 v15 wr => ∃ (k : Nat) (l : List PA), k ≤ plan.length ∧ n + k = plan.length + 1 ∧ v15 = .int .i64 k ∧ Below w9.heap.size w9 wr ∧ OwnP wr w9.heap.size v14 l ∧ PsAll w9 l ∧ l.map (·.1) = (plan.take k).filter (fun q => decide (q.st ≠ beginS g)))
      case atStart => exact ⟨0, [], by omega, by omega, rfl, Below.refl _ _, own_nil _ _, fun x hx => (by cases hx), by simp⟩
      case round =>
        obtain ⟨k, l, hk, hkn, rfl, bl, ow, hpa, hmap⟩ := hrel
        have OW := Lib.hid ow
        have PA1 := Lib.hid hpa
        have HM := Lib.hid hmap
        have BL := Lib.hid bl
        have hll : l.length ≤ 300 := by
          have h := congrArg List.length hmap
          rw [List.length_map] at h
          have h2 := List.length_filter_le (fun q : Pos => decide (q.st ≠ beginS g)) (plan.take k)
          rw [List.length_take] at h2
          omega
        clear ow hpa hmap
        have s0 := cell_later bl d0
        have s1 := cell_later bl d1
        have s2 := cell_later bl d2
        have s3 := cell_later bl d3
        have s4 := cell_later bl d4
        have s5 := cell_later bl d5
        have t0 := cell_later bl f0
        have t1 := cell_later bl f1
        have t2 := cell_later bl f2
        have lr := bl.size
        clear bl
        by_cases hlt : k < plan.length
        · obtain ⟨b', off', psa, psc, pfa, pfc, he, _, hc, hps⟩ := HP9.out k hlt
          cases he
          have hone := (HP9.out.later BL.out).one hlt rfl
          obtain ⟨q, hq⟩ : ∃ q, q = plan[k] := ⟨_, rfl⟩
          rw [← hq] at hc hps hone
          obtain ⟨k0, k1, k2, k3, k4, k5⟩ := hc.later BL.out
          have hpss := HPT.out.later BL.out
          have hfew : PlanFew [q] := ⟨by simp, fun j hj => by
            obtain rfl : j = 0 := by simpa using hj
            have := HFF.out.2.2.2.2 k hlt
            rw [← hq] at this
            simp only [List.getElem_cons_zero]
            omega, fun j hj => by
            obtain rfl : j = 0 := by simpa using hj
            have := HFF.out.2.2.2.2 k hlt
            rw [← hq] at this
            simp only [List.getElem_cons_zero]
            omega⟩
          have HC := Lib.hid (show ∀ wy, PlanAt wy (some ⟨pb, po + k * 6, none⟩) [q] (fun _ => pv k) → PsAt wy s sa2 fa2 → Calls Try.prog 13 #[.slice (some ⟨pb, po + k * 6, none⟩) 1 (pc - k), psV s sa2 sc2 fa2 fc2] wy (RetB (.int .i64 (findX [q] s.st)) wy) from fun wy h1 h2 => find_any [q] _ _ (pc - k) s sa2 fa2 sc2 fc2 wy h1 h2 hfew)
          unfold psV at HC
          have HQ := Lib.hid hq
          have HPSQ := Lib.hid hps
          have n1 : (k : Int) < (plan.length : Int) := by omega
          have n0 : (0 : Int) ≤ (k : Int) := by omega
          have n2 : k + 1 ≤ pc := by have := HCAP.out; omega
          have n3 : (k : Int) + 1 ≤ (pc : Int) := by omega
          have n4 : ¬ pc = k := by omega
          have n5 : (0 : Int) ≤ (k : Int) + 1 := by omega
          have nw : IntKind.i64.wrap ((k : Int) + 1) = (k : Int) + 1 := IntWalk.i64_in _ (by omega)
          clear hq hc hps hfew
          have hS : ∀ wy : World, Below wr.heap.size wr wy → (wy.cell? ⟨w4.heap.size, 0, none⟩ = some (.int .i64 s.turn) ∧ wy.cell? ⟨w4.heap.size, 1, none⟩ = some (.slice sa2 s.starts.length sc2) ∧ wy.cell? ⟨w4.heap.size, 2, none⟩ = some (.slice fa2 s.failed.length fc2) ∧ wy.cell? ⟨w4.heap.size, 3, none⟩ = some (.int .i64 s.budget) ∧ wy.cell? ⟨w4.heap.size, 4, none⟩ = some (.int .i64 s.choice) ∧ wy.cell? ⟨w4.heap.size, 5, none⟩ = some (.int .i64 s.bound)) ∧ PlanAt wy (some ⟨pb, po + k * 6, none⟩) [q] (fun _ => pv k) ∧ PsAt wy s sa2 fa2 := fun wy hy => ⟨⟨cell_later hy s0, cell_later hy s1, cell_later hy s2, cell_later hy s3, cell_later hy s4, cell_later hy s5⟩, hone.later hy, hpss.later hy⟩
          go_wp2_with fail
          refine wp_flow_s [] [] (by kernel_rfl) (by kernel_rfl) (by kernel_rfl) ?_
          repeat (first | ((with_reducible refine Flow.pure hS StayG.nil (v := ?_) ?_ ?_ ?_ ?_); rotate_left 1; (focus kernel_rfl); (focus (intro _; rfl)); (focus (intro β wx hSw; (try dsimp only at hSw); go_simp; (try with_reducible rfl); done)); (try simp only [Act.put, List.setIfInBounds_toArray, List.set_cons_zero, List.set_cons_succ, Nat.reduceAdd])))
          ((with_reducible refine Flow.call hS StayG.nil (v := ?_) ?_ ?_ ?_ ?_); rotate_left 1; (focus kernel_rfl); (focus (intro _; rfl)); (focus (intro β L wx hI hat hSw K' hK; (try dsimp only at hSw); go_simp; go_at_call 13; refine Calls.mono (HC.out _ hSw.2.1 hSw.2.2) ?_; rintro e w' ⟨rfl, hb'⟩; exact hK.out _ hb')); (try simp only [Act.put, List.setIfInBounds_toArray, List.set_cons_zero, List.set_cons_succ, Nat.reduceAdd]))
          repeat (first | ((with_reducible refine Flow.pure hS StayG.nil (v := ?_) ?_ ?_ ?_ ?_); rotate_left 1; (focus kernel_rfl); (focus (intro _; rfl)); (focus (intro β wx hSw; (try dsimp only at hSw); go_simp; (try with_reducible rfl); done)); (try simp only [Act.put, List.setIfInBounds_toArray, List.set_cons_zero, List.set_cons_succ, Nat.reduceAdd])))
          ((with_reducible refine Flow.stop ?_); dsimp only; intro β6 w6 hI6)
          have hb6 := hI6.below
          have l7 := hb6.size
          have bl6 : Below w9.heap.size w9 w6 := BL.out.trans (hb6.mono lr)
          have j0 := cell_later hb6 k0
          have j1 := cell_later hb6 k1
          have j2 := cell_later hb6 k2
          have j3 := cell_later hb6 k3
          have j4 := cell_later hb6 k4
          have j5 := cell_later hb6 k5
          have OW6 := Lib.hid (OW.out.later hb6)
          have BL6 := Lib.hid bl6
          clear hS hI6 hb6 bl6 s0 s1 s2 s3 s4 s5 t0 t1 t2 k0 k1 k2 k3 k4 k5 hone hpss n2 n3 n4 n5 nw d0 d1 d2 d3 d4 d5 f0 f1 f2
          by_cases hqs : q.st = s.st
          · rw [findX_one_yes hqs]
            go_wp2_with fail
            go_roundg (plan.length - k)
            case measure => omega
            case rel => exact ⟨k + 1, l, by omega, by omega, by go_num, BL6.out, OW6.out, PA1.out, by
              rw [List.take_succ_eq_append_getElem hlt, List.filter_append, ← HQ.out, ← HM.out]
              simp [hqs, HST.out]⟩
          · rw [findX_one_no hqs]
            have HQS := Lib.hid hqs
            clear hqs
            go_wp2_with (at_builtin; go_loud (refine append_poss _ rfl _ _ rfl w9.heap.size u14 l [(q, (psa, psc, pfa, pfc))] rfl ?_ _ _ rfl ?_ (by intro h; cases h) (by simp; omega) (by simp; omega) ?_; exact OW6.out.later (by repeat (first | exact Below.refl _ _ | assumption | refine Below.drew ?_ | refine below_drewN ?_ _ | refine Below.alloc ?_ (by first | omega | (simp; done) | (simp; omega)) _ | refine Below.setCell ?_ (by first | omega | (simp; done) | (simp; omega)) _ | refine Below.trans ?_ (Below.mono (by assumption) (by first | omega | (simp; done) | (simp; omega))))); (intro j u hu; exact ⟨_, 0, rfl, by match j, hu with | 0, hu => (simp at hu; subst hu; simp [go_sem]) | 1, hu => (simp at hu; subst hu; simp [go_sem]) | 2, hu => (simp at hu; subst hu; simp [go_sem]) | 3, hu => (simp at hu; subst hu; simp [go_sem]) | 4, hu => (simp at hu; subst hu; simp [go_sem]) | 5, hu => (simp at hu; subst hu; simp [go_sem]) | n + 6, hu => simp at hu⟩); intro v2 w2 ho2 hg2 hn2))
            have hw6 : Below w6.heap.size w6 (w6.alloc (.cells (psCs (q, (psa, psc, pfa, pfc))).toArray 33)) := (by repeat (first | exact Below.refl _ _ | assumption | refine Below.drew ?_ | refine below_drewN ?_ _ | refine Below.alloc ?_ (by first | omega | (simp; done) | (simp; omega)) _ | refine Below.setCell ?_ (by first | omega | (simp; done) | (simp; omega)) _ | refine Below.trans ?_ (Below.mono (by assumption) (by first | omega | (simp; done) | (simp; omega)))))
            have ow8 := OW6.out.later hw6
            have hbz : Below w9.heap.size w9 w2 := (BL6.out.trans (hw6.mono BL6.out.size)).grown hg2 (by simp; have := BL6.out.size; omega) (fun b hb => (World.ownsRow.lt ow8 b hb).1)
            go_roundg (plan.length - k)
            case measure => omega
            case rel => exact ⟨k + 1, l ++ [(q, (psa, psc, pfa, pfc))], by omega, by omega, by go_num, hbz, ho2, fun x hx => by
              rcases List.mem_append.1 hx with h | h
              · exact PA1.out x h
              · obtain rfl : x = (q, (psa, psc, pfa, pfc)) := by simpa using h
                exact HPSQ.out, by
              rw [List.take_succ_eq_append_getElem hlt, List.filter_append, ← HQ.out, List.map_append, HM.out]
              have := HQS.out
              rw [HST.out] at this
              simp [this]⟩
        · obtain rfl : k = plan.length := by omega
          obtain ⟨a, c, rfl, _, hpl2⟩ := OW.out.plan (PA1.out.later BL.out)
          have hbr : Below w.heap.size w wr := hbw9.trans (BL.out.mono hbw9.size)
          have hm := HM.out
          rw [List.take_length] at hm
          have hacc := accept_any g sa da a sc dc c (l.map (·.1)) (pvL l) hi wr (HG.out.later hbr) HFF.out.gm hpl2 (fun x hx => HPI.out x (by rw [hm] at hx; exact (List.mem_filter.1 hx).1)) (by rw [List.length_map]; omega)
          rw [accB_false (by rw [hm]; exact no_rest plan HD.out), List.length_map] at hacc
          unfold gmV at hacc
          have HACC := Lib.hid hacc
          clear hacc hm hpl2
          go_wp2_with fail
          refine Calls.mono HACC.out ?_
          rintro e w7 ⟨rfl, hb7⟩
          have hb77 := hbr.trans (hb7.mono hbr.size)
          go_wp2_with fail
          go_ret
          exact retB rfl hb77
  · rw [accB_false hA]
    go_wp2_with fail
    go_ret
    exact retB rfl hbw3
theorem bounds_any (g : Gm) (sa da pa : Option Addr) (sc dc pc : Nat) (plan : List Pos) (pv : Nat → Value) (one two : Int) (w : World) (hG : GmAt w g sa da) (hP : PlanAt w pa plan pv) (hpi : ∀ p ∈ plan, PosIn p) (hcap : plan.length ≤ pc) :
    Calls Try.prog 5 #[gmV g sa sc da dc, .slice pa plan.length pc, .int .i64 one, .int .i64 two] w (RetB (.bool true) w) := by
  by_cases hf : FewOk g plan 300
  · refine bounds_start g sa da pa sc dc pc plan pv one two _ _ w hG hP hpi hf hcap rfl rfl ?_
    split <;> split <;> omega
  · exact bounds_no g sa da pa sc dc pc plan pv one two w hG hP hf
end Go.Proofs.Ytghdfoolieagfaa
