

/- The judge's laws: few. -/
import Derived.Test.YtghdfoolieagfaaJdgS
namespace Go.Proofs.Ytghdfoolieagfaa
open Go.RowKit

def FewOk (g : Gm) (plan : List Pos) (n : Nat) : Prop := g.starts.length ≤ 20 ∧ g.deps.length ≤ 20 ∧ plan.length ≤ n ∧ (∀ i, i < g.deps.length → (dg g i).length ≤ 20) ∧ ∀ j (hj : j < plan.length), plan[j].starts.length ≤ 20 ∧ plan[j].failed.length ≤ 20
noncomputable def fewB (g : Gm) (plan : List Pos) (n : Nat) : Bool := @decide (FewOk g plan n) (Classical.propDecidable _)
theorem fewB_yes {g : Gm} {plan : List Pos} {n : Nat} (h : FewOk g plan n) : fewB g plan n = true := @decide_eq_true _ (Classical.propDecidable _) h
theorem fewB_no {g : Gm} {plan : List Pos} {n : Nat} (h : ¬ FewOk g plan n) : fewB g plan n = false := @decide_eq_false _ (Classical.propDecidable _) h
theorem FewOk.gm {g : Gm} {plan : List Pos} {n : Nat} (h : FewOk g plan n) : GmFew g := ⟨by have := h.1; omega, by have := h.2.1; omega, fun i hi => by have := h.2.2.2.1 i hi; omega⟩
set_option maxRecDepth 100000 in
set_option maxHeartbeats 4000000 in
theorem Few_no (g : Gm) (sa da pa : Option Addr) (sc dc pc : Nat) (plan : List Pos) (n : Nat) (w : World) (h : 20 < g.starts.length ∨ g.starts.length ≤ 20 ∧ 20 < g.deps.length ∨ g.starts.length ≤ 20 ∧ g.deps.length ≤ 20 ∧ n < plan.length) :
    Calls Try.prog 18 #[gmV g sa sc da dc, .slice pa plan.length pc, .int .i64 n] w (RetB (.bool (fewB g plan n)) w) := by
  have HV := Lib.hid (show fewB g plan n = false from fewB_no fun hv => by
    obtain ⟨v1, v2, v3, _⟩ := hv
    omega)
  rcases h with h | ⟨h0, h⟩ | ⟨h0, h1, h⟩
  · have d1 : decide ((20 : Int) < (g.starts.length : Int)) = true := by simp; omega
    go_enter Try.func18, Try.ntmps18
    go_wp2_with fail
    go_ret
    exact retB (vbool HV.out.symm) (by repeat (first | exact Below.refl _ _ | assumption | refine Below.drew ?_ | refine below_drewN ?_ _ | refine Below.alloc ?_ (by first | omega | (simp; done) | (simp; omega)) _ | refine Below.setCell ?_ (by first | omega | (simp; done) | (simp; omega)) _ | refine Below.trans ?_ (Below.mono (by assumption) (by first | omega | (simp; done) | (simp; omega)))))
  · have d1 : decide ((20 : Int) < (g.starts.length : Int)) = false := by simp; omega
    have d2 : decide ((20 : Int) < (g.deps.length : Int)) = true := by simp; omega
    go_enter Try.func18, Try.ntmps18
    go_wp2_with fail
    go_ret
    exact retB (vbool HV.out.symm) (by repeat (first | exact Below.refl _ _ | assumption | refine Below.drew ?_ | refine below_drewN ?_ _ | refine Below.alloc ?_ (by first | omega | (simp; done) | (simp; omega)) _ | refine Below.setCell ?_ (by first | omega | (simp; done) | (simp; omega)) _ | refine Below.trans ?_ (Below.mono (by assumption) (by first | omega | (simp; done) | (simp; omega)))))
  · have d1 : decide ((20 : Int) < (g.starts.length : Int)) = false := by simp; omega
    have d2 : decide ((20 : Int) < (g.deps.length : Int)) = false := by simp; omega
    have d3 : decide ((n : Int) < (plan.length : Int)) = true := by simp; omega
    go_enter Try.func18, Try.ntmps18
    go_wp2_with fail
    go_ret
    exact retB (vbool HV.out.symm) (by repeat (first | exact Below.refl _ _ | assumption | refine Below.drew ?_ | refine below_drewN ?_ _ | refine Below.alloc ?_ (by first | omega | (simp; done) | (simp; omega)) _ | refine Below.setCell ?_ (by first | omega | (simp; done) | (simp; omega)) _ | refine Below.trans ?_ (Below.mono (by assumption) (by first | omega | (simp; done) | (simp; omega)))))
set_option maxRecDepth 100000 in
set_option maxHeartbeats 4000000 in
theorem Few_yes (g : Gm) (sa da pa : Option Addr) (sc dc pc : Nat) (plan : List Pos) (pv : Nat → Value) (n : Nat) (w : World) (hG : GmAt w g sa da) (hP : PlanAt w pa plan pv) (h1 : g.starts.length ≤ 20) (h2 : g.deps.length ≤ 20) (h3 : plan.length ≤ n) (hn : n ≤ 1000) :
    Calls Try.prog 18 #[gmV g sa sc da dc, .slice pa plan.length pc, .int .i64 n] w (RetB (.bool (fewB g plan n)) w) := by
  have d1 : decide ((20 : Int) < (g.starts.length : Int)) = false := by simp; omega
  have d2 : decide ((20 : Int) < (g.deps.length : Int)) = false := by simp; omega
  have d3 : decide ((n : Int) < (plan.length : Int)) = false := by simp; omega
  have HG := Lib.hid hG
  have HP := Lib.hid hP
  clear hG hP
  go_enter Try.func18, Try.ntmps18
  go_wp2_with fail
  go_loopg [7] (g.deps.length + 1) (fun k v7 wr => ∃ i : Nat, i ≤ g.deps.length ∧ k + i = g.deps.length + 1 ∧ v7 = .int .i64 i ∧ w.alloc (Obj.cells #[.slice sa g.starts.length sc, .slice da g.deps.length dc, .int .i64 g.budget] 25) = wr ∧ ∀ r, r < i → (dg g r).length ≤ 20)
  case atStart => exact ⟨0, by omega, by omega, rfl, rfl, fun r hr => absurd hr (by omega)⟩
  case round =>
    obtain ⟨i, hi, hki, rfl, rfl, hall⟩ := hrel
    have HA := Lib.hid hall
    clear hall
    by_cases hlt : i < g.deps.length
    · obtain ⟨lb, lo, ra, rc, hda, hcell, hrow⟩ := HG.out.d i hlt
      obtain ⟨l, hl⟩ : ∃ l, g.deps.getD i [] = l := ⟨_, rfl⟩
      rw [hl] at hcell
      have HL := Lib.hid (show dg g i = l from hl)
      have hcell' := cell_alloc hcell (Obj.cells #[.slice sa g.starts.length sc, .slice da g.deps.length dc, .int .i64 g.budget] 25)
      clear hl hcell hrow
      subst hda
      have z1 : (i : Int) < (g.deps.length : Int) := by omega
      have z0 : (0 : Int) ≤ (i : Int) := by omega
      by_cases h20 : l.length ≤ 20
      · have e1 : decide ((20 : Int) < (l.length : Int)) = false := by simp; omega
        go_wp2_with fail
        go_roundg (g.deps.length - i)
        case measure => omega
        case rel => exact ⟨i + 1, by omega, by omega, by go_num, rfl, fun r hr => by
          rcases Nat.lt_succ_iff_lt_or_eq.1 hr with h | h
          · exact HA.out r h
          · subst h; rw [HL.out]; exact h20⟩
      · have e1 : decide ((20 : Int) < (l.length : Int)) = true := by simp; omega
        have HN := Lib.hid (show fewB g plan n = false from fewB_no fun hv => by
          have := hv.2.2.2.1 i hlt
          rw [HL.out] at this
          omega)
        go_wp2_with fail
        go_ret
        exact retB (vbool HN.out.symm) (by repeat (first | exact Below.refl _ _ | assumption | refine Below.drew ?_ | refine below_drewN ?_ _ | refine Below.alloc ?_ (by first | omega | (simp; done) | (simp; omega)) _ | refine Below.setCell ?_ (by first | omega | (simp; done) | (simp; omega)) _ | refine Below.trans ?_ (Below.mono (by assumption) (by first | omega | (simp; done) | (simp; omega)))))
    · obtain rfl : i = g.deps.length := by omega
      go_wp2_with fail
      go_loopg [8] (plan.length + 1) (fun k v8 wr => ∃ j : Nat, j ≤ plan.length ∧ k + j = plan.length + 1 ∧ v8 = .int .i64 j ∧ w.alloc (Obj.cells #[.slice sa g.starts.length sc, .slice da g.deps.length dc, .int .i64 g.budget] 25) = wr ∧ ∀ r (hr : r < plan.length), r < j → plan[r].starts.length ≤ 20 ∧ plan[r].failed.length ≤ 20)
      case atStart => exact ⟨0, by omega, by omega, rfl, rfl, fun r _ hr => absurd hr (by omega)⟩
      case round =>
        obtain ⟨j, hj, hkj, rfl, rfl, hok⟩ := hrel
        have HK := Lib.hid hok
        clear hok
        by_cases hlj : j < plan.length
        · obtain ⟨b, off, psa, psc, pfa, pfc, rfl, _, hc, _⟩ := HP.out j hlj
          obtain ⟨p, hp⟩ : ∃ p, p = plan[j] := ⟨_, rfl⟩
          rw [← hp] at hc
          have k1 := cell_alloc hc.c1 (Obj.cells #[.slice sa g.starts.length sc, .slice da g.deps.length dc, .int .i64 g.budget] 25)
          have k2 := cell_alloc hc.c2 (Obj.cells #[.slice sa g.starts.length sc, .slice da g.deps.length dc, .int .i64 g.budget] 25)
          have HPJ := Lib.hid hp
          clear hp hc
          have y1 : (j : Int) < (plan.length : Int) := by omega
          have y0 : (0 : Int) ≤ (j : Int) := by omega
          by_cases hb : p.starts.length ≤ 20
          · have e1 : decide ((20 : Int) < (p.starts.length : Int)) = false := by simp; omega
            by_cases hb2 : p.failed.length ≤ 20
            · have e2 : decide ((20 : Int) < (p.failed.length : Int)) = false := by simp; omega
              go_wp2_with fail
              go_roundg (plan.length - j)
              case measure => omega
              case rel => exact ⟨j + 1, by omega, by omega, by go_num, rfl, fun r hr' hr => by
                rcases Nat.lt_succ_iff_lt_or_eq.1 hr with h | h
                · exact HK.out r hr' h
                · subst h; rw [← HPJ.out]; exact ⟨hb, hb2⟩⟩
            · have e2 : decide ((20 : Int) < (p.failed.length : Int)) = true := by simp; omega
              have HN := Lib.hid (show fewB g plan n = false from fewB_no fun hv => by
                have := (hv.2.2.2.2 j hlj).2
                rw [← HPJ.out] at this
                omega)
              go_wp2_with fail
              go_ret
              exact retB (vbool HN.out.symm) (by repeat (first | exact Below.refl _ _ | assumption | refine Below.drew ?_ | refine below_drewN ?_ _ | refine Below.alloc ?_ (by first | omega | (simp; done) | (simp; omega)) _ | refine Below.setCell ?_ (by first | omega | (simp; done) | (simp; omega)) _ | refine Below.trans ?_ (Below.mono (by assumption) (by first | omega | (simp; done) | (simp; omega)))))
          · have e1 : decide ((20 : Int) < (p.starts.length : Int)) = true := by simp; omega
            have HN := Lib.hid (show fewB g plan n = false from fewB_no fun hv => by
              have := (hv.2.2.2.2 j hlj).1
              rw [← HPJ.out] at this
              omega)
            go_wp2_with fail
            go_ret
            exact retB (vbool HN.out.symm) (by repeat (first | exact Below.refl _ _ | assumption | refine Below.drew ?_ | refine below_drewN ?_ _ | refine Below.alloc ?_ (by first | omega | (simp; done) | (simp; omega)) _ | refine Below.setCell ?_ (by first | omega | (simp; done) | (simp; omega)) _ | refine Below.trans ?_ (Below.mono (by assumption) (by first | omega | (simp; done) | (simp; omega)))))
        · obtain rfl : j = plan.length := by omega
          have HY := Lib.hid (show fewB g plan n = true from fewB_yes ⟨h1, h2, h3, HA.out, fun r hr => HK.out r hr hr⟩)
          go_wp2_with fail
          go_ret
          exact retB (vbool HY.out.symm) (by repeat (first | exact Below.refl _ _ | assumption | refine Below.drew ?_ | refine below_drewN ?_ _ | refine Below.alloc ?_ (by first | omega | (simp; done) | (simp; omega)) _ | refine Below.setCell ?_ (by first | omega | (simp; done) | (simp; omega)) _ | refine Below.trans ?_ (Below.mono (by assumption) (by first | omega | (simp; done) | (simp; omega)))))
theorem Few_any (g : Gm) (sa da pa : Option Addr) (sc dc pc : Nat) (plan : List Pos) (pv : Nat → Value) (n : Nat) (w : World) (hG : GmAt w g sa da) (hP : PlanAt w pa plan pv) (hn : n ≤ 1000) :
    Calls Try.prog 18 #[gmV g sa sc da dc, .slice pa plan.length pc, .int .i64 n] w (RetB (.bool (fewB g plan n)) w) := by
  by_cases h1 : g.starts.length ≤ 20
  · by_cases h2 : g.deps.length ≤ 20
    · by_cases h3 : plan.length ≤ n
      · exact Few_yes g sa da pa sc dc pc plan pv n w hG hP h1 h2 h3 hn
      · exact Few_no g sa da pa sc dc pc plan n w (.inr (.inr ⟨h1, h2, by omega⟩))
    · exact Few_no g sa da pa sc dc pc plan n w (.inr (.inl ⟨h1, by omega⟩))
  · exact Few_no g sa da pa sc dc pc plan n w (.inl (by omega))
theorem few_any (g : Gm) (sa da pa : Option Addr) (sc dc pc : Nat) (plan : List Pos) (pv : Nat → Value) (w : World) (hG : GmAt w g sa da) (hP : PlanAt w pa plan pv) :
    Calls Try.prog 9 #[gmV g sa sc da dc, .slice pa plan.length pc] w (RetB (.bool (fewB g plan 300)) w) := by
  go_enter Try.func9, Try.ntmps9
  go_wp2_with fail
  refine Calls.mono (Few_any g sa da pa sc dc pc plan pv 300 _ (hG.later (by repeat (first | exact Below.refl _ _ | assumption | refine Below.drew ?_ | refine below_drewN ?_ _ | refine Below.alloc ?_ (by first | omega | (simp; done) | (simp; omega)) _ | refine Below.setCell ?_ (by first | omega | (simp; done) | (simp; omega)) _ | refine Below.trans ?_ (Below.mono (by assumption) (by first | omega | (simp; done) | (simp; omega)))))) (hP.later (by repeat (first | exact Below.refl _ _ | assumption | refine Below.drew ?_ | refine below_drewN ?_ _ | refine Below.alloc ?_ (by first | omega | (simp; done) | (simp; omega)) _ | refine Below.setCell ?_ (by first | omega | (simp; done) | (simp; omega)) _ | refine Below.trans ?_ (Below.mono (by assumption) (by first | omega | (simp; done) | (simp; omega)))))) (by decide)) ?_
  rintro e w1 ⟨rfl, hb1⟩; have hs1 := hb1.size; (try simp at hs1)
  go_wp2_with fail
  go_ret
  exact retB rfl (by repeat (first | exact Below.refl _ _ | assumption | refine Below.drew ?_ | refine below_drewN ?_ _ | refine Below.alloc ?_ (by first | omega | (simp; done) | (simp; omega)) _ | refine Below.setCell ?_ (by first | omega | (simp; done) | (simp; omega)) _ | refine Below.trans ?_ (Below.mono (by assumption) (by first | omega | (simp; done) | (simp; omega)))))
end Go.Proofs.Ytghdfoolieagfaa
