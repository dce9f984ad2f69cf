

/- The reference: Find. -/
import Derived.Test.YtghdfoolieagfaaJdgU
namespace Go.Proofs.Ytghdfoolieagfaa
open Go.RowKit

def findX (plan : List Pos) (s : St) : Int := match plan.findIdx? (fun p => decide (p.st = s)) with | some i => (i : Int) | none => -1
theorem findX_at {plan : List Pos} {s : St} {i : Nat} (hi : i < plan.length) (h : ∀ j (hj : j < plan.length), j < i → plan[j].st ≠ s) (h' : plan[i].st = s) : findX plan s = i := by
  unfold findX
  have : plan.findIdx? (fun p => decide (p.st = s)) = some i := by
    rw [List.findIdx?_eq_some_iff_getElem]
    refine ⟨hi, decide_eq_true h', fun j hj => ?_⟩
    rw [decide_eq_false (h j (by omega) hj)]
    simp
  rw [this]
theorem findX_none {plan : List Pos} {s : St} (h : ∀ j (hj : j < plan.length), plan[j].st ≠ s) : findX plan s = -1 := by
  unfold findX
  have : plan.findIdx? (fun p => decide (p.st = s)) = none := by
    rw [List.findIdx?_eq_none_iff]
    intro x hx
    obtain ⟨j, hj, rfl⟩ := List.getElem_of_mem hx
    exact decide_eq_false (h j hj)
  rw [this]
theorem findX_some {plan : List Pos} {s : St} {p : Pos} (h : posAt plan s = some p) : ∃ i, ∃ hi : i < plan.length, findX plan s = (i : Int) ∧ plan[i] = p ∧ p.st = s ∧ plan.findIdx? (fun p => decide (p.st = s)) = some i := by
  have h1 := h
  unfold posAt at h1
  rw [List.find?_eq_some_iff_getElem] at h1
  obtain ⟨h2, i, hi, h3, h4⟩ := h1
  have h2' : p.st = s := by simpa using h2
  have : plan.findIdx? (fun p => decide (p.st = s)) = some i := by
    rw [List.findIdx?_eq_some_iff_getElem]
    exact ⟨hi, by rw [h3]; exact h2, fun j hj => by simpa using h4 j hj⟩
  exact ⟨i, hi, by unfold findX; rw [this], h3, h2', this⟩
theorem findX_no {plan : List Pos} {s : St} (h : posAt plan s = none) : findX plan s = -1 := by
  refine findX_none fun j hj e => ?_
  unfold posAt at h
  rw [List.find?_eq_none] at h
  exact h plan[j] (List.getElem_mem hj) (decide_eq_true e)
structure PlanFew (plan : List Pos) : Prop where
  n : plan.length ≤ 1000
  s : ∀ j (hj : j < plan.length), plan[j].starts.length ≤ 1000
  f : ∀ j (hj : j < plan.length), plan[j].failed.length ≤ 1000
theorem FewOk.plan {g : Gm} {plan : List Pos} {n : Nat} (h : FewOk g plan n) (hn : n ≤ 1000) : PlanFew plan := ⟨by have := h.2.2.1; omega, fun j hj => by have := (h.2.2.2.2 j hj).1; omega, fun j hj => by have := (h.2.2.2.2 j hj).2; omega⟩
set_option maxRecDepth 100000 in
set_option maxHeartbeats 4000000 in
theorem find_any (plan : List Pos) (pv : Nat → Value) (pa : Option Addr) (pc : Nat) (s : Pos) (ta ga : Option Addr) (tc gc : Nat) (w : World) (hP : PlanAt w pa plan pv) (hs : PsAt w s ta ga) (hF : PlanFew plan) :
    Calls Try.prog 13 #[.slice pa plan.length pc, psV s ta tc ga gc] w (RetB (.int .i64 (findX plan s.st)) w) := by
  have HP := Lib.hid hP
  have HS := Lib.hid hs
  have HF := Lib.hid hF
  have hn := hF.n
  clear hP hs hF
  go_enter Try.func13, Try.ntmps13
  go_wp2_with fail
  obtain ⟨wx, hwx⟩ : ∃ wx, wx = w.alloc (Obj.cells #[.int .i64 s.turn, .slice ta s.starts.length tc, .slice ga s.failed.length gc, .int .i64 s.budget, .int .i64 s.choice, .int .i64 s.bound] 33) := ⟨_, rfl⟩
  rw [← hwx]
  have hbx : Below w.heap.size w wx := by rw [hwx]; exact (by repeat (first | exact Below.refl _ _ | assumption | refine Below.drew ?_ | refine below_drewN ?_ _ | refine Below.alloc ?_ (by first | omega | (simp; done) | (simp; omega)) _ | refine Below.setCell ?_ (by first | omega | (simp; done) | (simp; omega)) _ | refine Below.trans ?_ (Below.mono (by assumption) (by first | omega | (simp; done) | (simp; omega)))))
  have b0 : wx.cell? ⟨w.heap.size, 0, none⟩ = some (.int .i64 s.turn) := by rw [hwx]; simp [go_sem]
  have b1 : wx.cell? ⟨w.heap.size, 1, none⟩ = some (.slice ta s.starts.length tc) := by rw [hwx]; simp [go_sem]
  have b2 : wx.cell? ⟨w.heap.size, 2, none⟩ = some (.slice ga s.failed.length gc) := by rw [hwx]; simp [go_sem]
  have b3 : wx.cell? ⟨w.heap.size, 3, none⟩ = some (.int .i64 s.budget) := by rw [hwx]; simp [go_sem]
  have b4 : wx.cell? ⟨w.heap.size, 4, none⟩ = some (.int .i64 s.choice) := by rw [hwx]; simp [go_sem]
  have b5 : wx.cell? ⟨w.heap.size, 5, none⟩ = some (.int .i64 s.bound) := by rw [hwx]; simp [go_sem]
  have HPX := Lib.hid (HP.out.later hbx)
  have HSX := Lib.hid (HS.out.later hbx)
  have HBX := Lib.hid hbx
  clear hwx hbx
  go_loopg [5] (plan.length + 1) (fun k v5 wr => ∃ i : Nat, i ≤ plan.length ∧ k + i = plan.length + 1 ∧ v5 = .int .i64 i ∧ Below wx.heap.size wx wr ∧ ∀ j (hj : j < plan.length), j < i → plan[j].st ≠ s.st)
  case atStart => exact ⟨0, by omega, by omega, rfl, Below.refl _ _, fun r _ hr => absurd hr (by omega)⟩
  case round =>
    obtain ⟨i, hi, hki, rfl, hbr, hall⟩ := hrel
    have HA := Lib.hid hall
    have HBR := Lib.hid hbr
    have hszr := hbr.size
    clear hall
    by_cases hlt : i < plan.length
    · obtain ⟨b, off, psa, psc, pfa, pfc, rfl, _, hc, hps⟩ := HPX.out i hlt
      obtain ⟨p, hp⟩ : ∃ p, p = plan[i] := ⟨_, rfl⟩
      have hp1 := HF.out.s i hlt
      have hp2 := HF.out.f i hlt
      rw [← hp] at hc hps hp1 hp2
      obtain ⟨k0, k1, k2, k3, k4, k5⟩ := hc.later hbr
      have hps' := hps.later hbr
      have hss' := HSX.out.later hbr
      have r0 := cell_later hbr b0
      have r1 := cell_later hbr b1
      have r2 := cell_later hbr b2
      have r3 := cell_later hbr b3
      have r4 := cell_later hbr b4
      have r5 := cell_later hbr b5
      have HPI := Lib.hid hp
      clear hp hc hps hbr
      have z1 : (i : Int) < (plan.length : Int) := by omega
      have z0 : (0 : Int) ≤ (i : Int) := by omega
      have HC := Lib.hid (show ∀ wy, PsAt wy p psa pfa → PsAt wy s ta ga → Calls Try.prog 27 #[psV p psa psc pfa pfc, psV s ta tc ga gc] wy (RetB (.bool (sameB p s)) wy) from fun wy h1 h2 => same_any p s psa pfa ta ga psc pfc tc gc wy h1 h2 hp1 hp2)
      go_wp2_with fail
      have hS : ∀ wy : World, Below wr.heap.size wr wy → (wy.cell? ⟨b, off + i * 6, none⟩ = some (.int .i64 p.turn) ∧ wy.cell? ⟨b, off + i * 6 + 1, none⟩ = some (.slice psa p.starts.length psc) ∧ wy.cell? ⟨b, off + i * 6 + 2, none⟩ = some (.slice pfa p.failed.length pfc) ∧ wy.cell? ⟨b, off + i * 6 + 3, none⟩ = some (.int .i64 p.budget) ∧ wy.cell? ⟨b, off + i * 6 + 4, none⟩ = some (.int .i64 p.choice) ∧ wy.cell? ⟨b, off + i * 6 + 5, none⟩ = some (.int .i64 p.bound) ∧
          wy.cell? ⟨w.heap.size, 0, none⟩ = some (.int .i64 s.turn) ∧ wy.cell? ⟨w.heap.size, 1, none⟩ = some (.slice ta s.starts.length tc) ∧ wy.cell? ⟨w.heap.size, 2, none⟩ = some (.slice ga s.failed.length gc) ∧ wy.cell? ⟨w.heap.size, 3, none⟩ = some (.int .i64 s.budget) ∧ wy.cell? ⟨w.heap.size, 4, none⟩ = some (.int .i64 s.choice) ∧ wy.cell? ⟨w.heap.size, 5, none⟩ = some (.int .i64 s.bound)) ∧
          PsAt wy p psa pfa ∧ PsAt wy s ta ga := fun wy hy => ⟨⟨cell_later hy k0, cell_later hy k1, cell_later hy k2, cell_later hy k3, cell_later hy k4, cell_later hy k5, cell_later hy r0, cell_later hy r1, cell_later hy r2, cell_later hy r3, cell_later hy r4, cell_later hy r5⟩, hps'.later hy, hss'.later hy⟩
      refine wp_flow_s [] [] (by kernel_rfl) (by kernel_rfl) (by kernel_rfl) ?_
      repeat (first | ((with_reducible refine Flow.pure hS StayG.nil (v := ?_) ?_ ?_ ?_ ?_); rotate_left 1; (focus kernel_rfl); (focus (intro _; rfl)); (focus (intro β wx hSw; (try dsimp only at hSw); go_simp; (try with_reducible rfl); done)); (try simp only [Act.put, List.setIfInBounds_toArray, List.set_cons_zero, List.set_cons_succ, Nat.reduceAdd])))
      ((with_reducible refine Flow.call hS StayG.nil (v := ?_) ?_ ?_ ?_ ?_); rotate_left 1; (focus kernel_rfl); (focus (intro _; rfl)); (focus (intro β L wx hI hat hSw K' hK; (try dsimp only at hSw); go_simp; go_at_call 27; refine Calls.mono (HC.out _ hSw.2.1 hSw.2.2) ?_; rintro e w' ⟨rfl, hb'⟩; exact hK.out _ hb')); (try simp only [Act.put, List.setIfInBounds_toArray, List.set_cons_zero, List.set_cons_succ, Nat.reduceAdd]))
      ((with_reducible refine Flow.stop ?_); dsimp only; intro β w8 hI)
      have hb8 := hI.below
      have HB8 := Lib.hid (HBR.out.trans (hb8.mono hszr))
      clear hS hI k0 k1 k2 k3 k4 k5 r0 r1 r2 r3 r4 r5 hb8 hps' hss'
      cases hsm : sameB p s
      · have HNE := Lib.hid (show p.st ≠ s.st from of_decide_eq_false hsm)
        clear hsm
        go_wp2_with fail
        go_roundg (plan.length - i)
        case measure => omega
        case rel => exact ⟨i + 1, by omega, by omega, by go_num, HB8.out, fun r hr' hr => by
          rcases Nat.lt_succ_iff_lt_or_eq.1 hr with h | h
          · exact HA.out r hr' h
          · subst h; rw [← HPI.out]; exact HNE.out⟩
      · have HY := Lib.hid (show findX plan s.st = i from findX_at hlt HA.out (by rw [← HPI.out]; exact of_decide_eq_true hsm))
        clear hsm
        go_wp2_with fail
        go_ret
        exact retB (vint HY.out.symm) (HBX.out.trans (HB8.out.mono HBX.out.size))
    · obtain rfl : i = plan.length := by omega
      have HY := Lib.hid (show findX plan s.st = -1 from findX_none fun j hj => HA.out j hj hj)
      go_wp2_with fail
      go_ret
      exact retB (vint HY.out.symm) (HBX.out.trans (HBR.out.mono HBX.out.size))
end Go.Proofs.Ytghdfoolieagfaa
