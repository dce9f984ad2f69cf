

/- Contracts of package judge: valid. -/
import Derived.Test.YtgccankekflchaaJdgA
namespace Go.Proofs.Ytgccankekflchaa
open Go.RowKit

theorem no_odd {g : Gm} (h1 : g.starts.length ≤ 6) (h2 : g.deps.length ≤ 12) (h3 : 0 ≤ g.budget) (h4 : g.budget ≤ 3) (h5 : ∀ i, i < g.deps.length → okDep g.starts.length (dg g i)) : (!(g.starts.any odd12)) = vgB g := by
  cases h : g.starts.any odd12
  · symm
    refine vgB_true ⟨h1, h2, h3, h4, fun i hi => ?_, h5⟩
    have := List.any_eq_false.1 h _ (ig_mem hi)
    unfold odd12 at this
    simp at this
    omega
  · symm
    refine vgB_false fun hv => ?_
    obtain ⟨x, hx, ho⟩ := List.any_eq_true.1 h
    obtain ⟨j, hj, rfl⟩ := List.getElem_of_mem hx
    have := hv.2.2.2.2.1 j hj
    rw [ig_lt hj] at this
    unfold odd12 at ho
    simp at ho
    omega
set_option maxRecDepth 100000 in
set_option maxHeartbeats 4000000 in
theorem valid_no (g : Gm) (sa da : Option Addr) (sc dc : Nat) (w : World) (h : 6 < g.starts.length ∨ g.starts.length ≤ 6 ∧ 12 < g.deps.length ∨ g.starts.length ≤ 6 ∧ g.deps.length ≤ 12 ∧ g.budget < 0 ∨ g.starts.length ≤ 6 ∧ g.deps.length ≤ 12 ∧ 0 ≤ g.budget ∧ 3 < g.budget) :
    Calls Try.prog 31 #[gmV g sa sc da dc] w (RetB (.bool (vgB g)) w) := by
  have HV := Lib.hid (show vgB g = false from vgB_false fun hv => by
    obtain ⟨v1, v2, v3, v4, _⟩ := hv
    omega)
  rcases h with h | ⟨h0, h⟩ | ⟨h0, h1, h⟩ | ⟨h0, h1, h2, h⟩
  · have d1 : decide ((6 : Int) < (g.starts.length : Int)) = true := by simp; omega
    go_enter Try.func31, Try.ntmps31
    (go_wp2_with fail; go_ret; exact retB (vbool HV.out.symm) (by repeat (first | exact Below.refl _ _ | assumption | refine Below.drew ?_ | refine below_drewN ?_ _ | refine Below.alloc ?_ (by first | omega | (simp; done) | (simp; omega)) _ | refine Below.setCell ?_ (by first | omega | (simp; done) | (simp; omega)) _ | refine Below.trans ?_ (Below.mono (by assumption) (by first | omega | (simp; done) | (simp; omega))))))
  · have d1 : decide ((6 : Int) < (g.starts.length : Int)) = false := by simp; omega
    have d2 : decide ((12 : Int) < (g.deps.length : Int)) = true := by simp; omega
    go_enter Try.func31, Try.ntmps31
    (go_wp2_with fail; go_ret; exact retB (vbool HV.out.symm) (by repeat (first | exact Below.refl _ _ | assumption | refine Below.drew ?_ | refine below_drewN ?_ _ | refine Below.alloc ?_ (by first | omega | (simp; done) | (simp; omega)) _ | refine Below.setCell ?_ (by first | omega | (simp; done) | (simp; omega)) _ | refine Below.trans ?_ (Below.mono (by assumption) (by first | omega | (simp; done) | (simp; omega))))))
  · have d1 : decide ((6 : Int) < (g.starts.length : Int)) = false := by simp; omega
    have d2 : decide ((12 : Int) < (g.deps.length : Int)) = false := by simp; omega
    have d3 : decide (g.budget < (0 : Int)) = true := by simpa using h
    go_enter Try.func31, Try.ntmps31
    (go_wp2_with fail; go_ret; exact retB (vbool HV.out.symm) (by repeat (first | exact Below.refl _ _ | assumption | refine Below.drew ?_ | refine below_drewN ?_ _ | refine Below.alloc ?_ (by first | omega | (simp; done) | (simp; omega)) _ | refine Below.setCell ?_ (by first | omega | (simp; done) | (simp; omega)) _ | refine Below.trans ?_ (Below.mono (by assumption) (by first | omega | (simp; done) | (simp; omega))))))
  · have d1 : decide ((6 : Int) < (g.starts.length : Int)) = false := by simp; omega
    have d2 : decide ((12 : Int) < (g.deps.length : Int)) = false := by simp; omega
    have d3 : decide (g.budget < (0 : Int)) = false := by simp; omega
    have d4 : decide ((3 : Int) < g.budget) = true := by simpa using h
    go_enter Try.func31, Try.ntmps31
    (go_wp2_with fail; go_ret; exact retB (vbool HV.out.symm) (by repeat (first | exact Below.refl _ _ | assumption | refine Below.drew ?_ | refine below_drewN ?_ _ | refine Below.alloc ?_ (by first | omega | (simp; done) | (simp; omega)) _ | refine Below.setCell ?_ (by first | omega | (simp; done) | (simp; omega)) _ | refine Below.trans ?_ (Below.mono (by assumption) (by first | omega | (simp; done) | (simp; omega))))))
/-- the one before, or -1 -/
def prv (l : List Int) (i : Nat) : Int := if i = 0 then -1 else ig l (i - 1)
set_option maxRecDepth 100000 in
set_option maxHeartbeats 4000000 in
theorem valid_yes (g : Gm) (sa da : Option Addr) (sc dc : Nat) (w : World) (hG : GmAt w g sa da) (hF : GmFew g) (h1 : g.starts.length ≤ 6) (h2 : g.deps.length ≤ 12) (h3 : 0 ≤ g.budget) (h4 : g.budget ≤ 3) :
    Calls Try.prog 31 #[gmV g sa sc da dc] w (RetB (.bool (vgB g)) w) := by
  have d1 : decide ((6 : Int) < (g.starts.length : Int)) = false := by simp; omega
  have d2 : decide ((12 : Int) < (g.deps.length : Int)) = false := by simp; omega
  have d3 : decide (g.budget < (0 : Int)) = false := by simpa using h3
  have d4 : decide ((3 : Int) < g.budget) = false := by simpa using h4
  have HG := Lib.hid hG
  have HF := Lib.hid hF
  clear hG hF
  go_enter Try.func31, Try.ntmps31
  go_wp2_with fail
  go_loopg [31] (g.deps.length + 1) (fun k v31 wr => ∃ i : Nat, i ≤ g.deps.length ∧ k + i = g.deps.length + 1 ∧ v31 = .int .i64 i ∧ w.alloc (Obj.cells #[.slice sa g.starts.length sc, .slice da g.deps.length dc, .int .i64 g.budget] 25) = wr ∧ ∀ r, r < i → okDep g.starts.length (dg g r))
  case atStart => exact ⟨0, by omega, by omega, rfl, rfl, fun r hr => absurd hr (by omega)⟩
  case round =>
    obtain ⟨i, hi, hki, rfl, rfl, hall⟩ := hrel
    have HA := Lib.hid hall
    clear hall
    by_cases hlt : i < g.deps.length
    · obtain ⟨lb, lo, ra, rc, hda, hcell, hrow⟩ := HG.out.d i hlt
      obtain ⟨l, hl⟩ : ∃ l, g.deps.getD i [] = l := ⟨_, rfl⟩
      rw [hl] at hcell hrow
      have hlen : l.length ≤ 1000 := by rw [← hl]; exact HF.out.r i hlt
      have HL := Lib.hid (show dg g i = l from hl)
      clear hl
      have hcell' := cell_alloc hcell (Obj.cells #[.slice sa g.starts.length sc, .slice da g.deps.length dc, .int .i64 g.budget] 25)
      have HR := Lib.hid (hrow.later (Below.alloc (Below.refl _ _) (Nat.le_refl _) (Obj.cells #[.slice sa g.starts.length sc, .slice da g.deps.length dc, .int .i64 g.budget] 25)))
      clear hrow hcell
      subst hda
      have z1 : (i : Int) < (g.deps.length : Int) := by omega
      have z0 : (0 : Int) ≤ (i : Int) := by omega
      go_wp2_with fail
      go_loopg [37, 5] (l.length + 1) (fun k' v37 v5 wq => ∃ q : Nat, q ≤ l.length ∧ k' + q = l.length + 1 ∧ v37 = .int .i64 q ∧ v5 = .int .i64 (prv l q) ∧ w.alloc (Obj.cells #[.slice sa g.starts.length sc, .slice (some ⟨lb, lo, none⟩) g.deps.length dc, .int .i64 g.budget] 25) = wq ∧ ∀ r, r < q → prv l r < ig l r ∧ ig l r < g.starts.length)
      case atStart => exact ⟨0, by omega, by omega, rfl, rfl, rfl, fun r hr => absurd hr (by omega)⟩
      case round =>
        obtain ⟨q, hq, hkq, rfl, rfl, rfl, hok⟩ := hrel
        have HK := Lib.hid hok
        clear hok
        by_cases hlq : q < l.length
        · obtain ⟨rb, ro, rfl, fr⟩ := HR.out.fam (by omega)
          have hcq := fr q hlq
          clear fr
          have y1 : (q : Int) < (l.length : Int) := by omega
          have y0 : (0 : Int) ≤ (q : Int) := by omega
          obtain ⟨v, hv⟩ : ∃ v, ig l q = v := ⟨_, rfl⟩
          obtain ⟨u, hu⟩ : ∃ u, prv l q = u := ⟨_, rfl⟩
          rw [hv] at hcq
          have HVV := Lib.hid hv
          have HU := Lib.hid hu
          rw [hu]
          clear hv hu
          by_cases hb : u < v ∧ v < g.starts.length
          · have e1 : decide (v ≤ u) = false := by simp; omega
            have e2 : decide ((g.starts.length : Int) ≤ v) = false := by simp; omega
            go_wp2_with fail
            go_roundg (l.length - q)
            case measure => omega
            case rel => exact ⟨q + 1, by omega, by omega, by go_num, by unfold prv; rw [if_neg (by omega), Nat.add_sub_cancel, HVV.out], rfl, fun r hr => by
              rcases Nat.lt_succ_iff_lt_or_eq.1 hr with h | h
              · exact HK.out r h
              · subst h; rw [HU.out, HVV.out]; exact hb⟩
          · have HN := Lib.hid (show vgB g = false from vgB_false fun hvg => by
              have := (hvg.2.2.2.2.2 i hlt)
              rw [HL.out] at this
              have := this q hlq
              have e := HU.out
              unfold prv at e
              rw [e, HVV.out] at this
              exact hb this)
            by_cases e1 : v ≤ u
            · have e1' : decide (v ≤ u) = true := by simpa using e1
              go_wp2_with fail
              go_ret
              exact retB (vbool HN.out.symm) (by repeat (first | exact Below.refl _ _ | assumption | refine Below.drew ?_ | refine below_drewN ?_ _ | refine Below.alloc ?_ (by first | omega | (simp; done) | (simp; omega)) _ | refine Below.setCell ?_ (by first | omega | (simp; done) | (simp; omega)) _ | refine Below.trans ?_ (Below.mono (by assumption) (by first | omega | (simp; done) | (simp; omega)))))
            · have e1' : decide (v ≤ u) = false := by simpa using e1
              have e2 : decide ((g.starts.length : Int) ≤ v) = true := by simp; omega
              go_wp2_with fail
              go_ret
              exact retB (vbool HN.out.symm) (by repeat (first | exact Below.refl _ _ | assumption | refine Below.drew ?_ | refine below_drewN ?_ _ | refine Below.alloc ?_ (by first | omega | (simp; done) | (simp; omega)) _ | refine Below.setCell ?_ (by first | omega | (simp; done) | (simp; omega)) _ | refine Below.trans ?_ (Below.mono (by assumption) (by first | omega | (simp; done) | (simp; omega)))))
        · obtain rfl : q = l.length := by omega
          go_wp2_with fail
          go_roundg (g.deps.length - i)
          case measure => omega
          case rel => exact ⟨i + 1, by omega, by omega, by go_num, rfl, fun r hr => by
            rcases Nat.lt_succ_iff_lt_or_eq.1 hr with h | h
            · exact HA.out r h
            · subst h; rw [HL.out]; exact fun j hj => HK.out j hj⟩
    · obtain rfl : i = g.deps.length := by omega
      go_wp2_with fail
      refine Calls.mono (containsFunc_any g.starts sa sc _ (HG.out.s.later (by repeat (first | exact Below.refl _ _ | assumption | refine Below.drew ?_ | refine below_drewN ?_ _ | refine Below.alloc ?_ (by first | omega | (simp; done) | (simp; omega)) _ | refine Below.setCell ?_ (by first | omega | (simp; done) | (simp; omega)) _ | refine Below.trans ?_ (Below.mono (by assumption) (by first | omega | (simp; done) | (simp; omega)))))) HF.out.s) ?_
      rintro e w1 ⟨rfl, rfl⟩
      go_wp2_with fail
      go_ret
      exact retB (vbool (no_odd h1 h2 h3 h4 HA.out)) (by repeat (first | exact Below.refl _ _ | assumption | refine Below.drew ?_ | refine below_drewN ?_ _ | refine Below.alloc ?_ (by first | omega | (simp; done) | (simp; omega)) _ | refine Below.setCell ?_ (by first | omega | (simp; done) | (simp; omega)) _ | refine Below.trans ?_ (Below.mono (by assumption) (by first | omega | (simp; done) | (simp; omega)))))
theorem valid_any (g : Gm) (sa da : Option Addr) (sc dc : Nat) (w : World) (hG : GmAt w g sa da) (hF : GmFew g) : Calls Try.prog 31 #[gmV g sa sc da dc] w (RetB (.bool (vgB g)) w) := by
  by_cases h1 : g.starts.length ≤ 6
  · by_cases h2 : g.deps.length ≤ 12
    · by_cases h3 : 0 ≤ g.budget
      · by_cases h4 : g.budget ≤ 3
        · exact valid_yes g sa da sc dc w hG hF h1 h2 h3 h4
        · exact valid_no g sa da sc dc w (.inr (.inr (.inr ⟨h1, h2, h3, by omega⟩)))
      · exact valid_no g sa da sc dc w (.inr (.inr (.inl ⟨h1, h2, by omega⟩)))
    · exact valid_no g sa da sc dc w (.inr (.inl ⟨h1, by omega⟩))
  · exact valid_no g sa da sc dc w (.inl (by omega))
end Go.Proofs.Ytgccankekflchaa

