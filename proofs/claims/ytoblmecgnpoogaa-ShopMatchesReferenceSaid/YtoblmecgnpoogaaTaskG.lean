
/- Contracts of package task's reference: Order; comparing lists; sizes. -/
import Derived.Test.YtoblmecgnpoogaaTaskF
namespace Go.Proofs.Ytoblmecgnpoogaa
open Go.RowKit

theorem ints_ext {x y : List Int} (hl : x.length = y.length) (h : ∀ r, r < x.length → ig x r = ig y r) : x = y := by
  refine List.ext_getElem hl fun i h1 h2 => ?_
  have := h i h1
  rwa [ig_lt h1, ig_lt h2] at this
theorem bools_ext {x y : List Bool} (hl : x.length = y.length) (h : ∀ r, r < x.length → bg x r = bg y r) : x = y := by
  refine List.ext_getElem hl fun i h1 h2 => ?_
  have := h i h1
  rwa [bg_lt h1, bg_lt h2] at this

/-- at most 45 tasks, with at most 45 indices each -/
def FewT (l : List Tk) : Prop := l.length ≤ 45 ∧ ∀ i, i < l.length → (tg l i).after.length ≤ 45
/-- what the search downwards has found: the least one from j on that is ready -/
def Least (l : List Tk) (d : List Bool) (j : Nat) (x : Int) : Prop :=
  (x = -1 ∧ ∀ m, j ≤ m → m < l.length → rdy l d m = false) ∨ ∃ m : Nat, x = m ∧ j ≤ m ∧ m < l.length ∧ rdy l d m = true ∧ ∀ m', j ≤ m' → m' < m → rdy l d m' = false
theorem Least.yes {l : List Tk} {d : List Bool} {j : Nat} {x : Int} (_h : Least l d (j + 1) x) (hj : j < l.length) (hr : rdy l d j = true) : Least l d j j :=
  .inr ⟨j, rfl, Nat.le_refl _, hj, hr, fun m' h1 h2 => absurd h1 (by omega)⟩
theorem Least.no {l : List Tk} {d : List Bool} {j : Nat} {x : Int} (h : Least l d (j + 1) x) (hr : rdy l d j = false) : Least l d j x := by
  rcases h with ⟨rfl, h⟩ | ⟨m, rfl, h1, h2, h3, h4⟩
  · refine .inl ⟨rfl, fun m hm hl => ?_⟩
    by_cases e : m = j
    · rw [e]; exact hr
    · exact h m (by omega) hl
  · refine .inr ⟨m, rfl, by omega, h2, h3, fun m' hm hl => ?_⟩
    by_cases e : m' = j
    · rw [e]; exact hr
    · exact h4 m' (by omega) hl

set_option maxRecDepth 100000 in
set_option maxHeartbeats 4000000 in
theorem rorder_yes (l : List Tk) (a : Option Addr) (cap : Nat) (w : World) (hT : Tasks w a l) (hv : VT l) :
    Calls Try.prog 34 #[.slice a l.length cap] w (RetIE (ordL l) (ordE l) w) := by
  have HV := Lib.hid hv
  have h40 := hv.1
  have hbnd : ∀ i, i < l.length → (tg l i).after.length < 9223372036854775808 := fun i hi => by have := after_len hv hi; omega
  have HS := Lib.hid hbnd
  clear hv hbnd
  go_enter Try.func34, Try.ntmps34
  go_wp2_with fail
  refine Calls.mono (rvalid_any l a cap true _ hT (by omega) (fun _ => HS.out) (by simp [HV.out])) ?_
  rintro e w1 ⟨rfl, hb1⟩; have hs1 := hb1.size; (try simp at hs1)
  go_wp2_with (refine make_bool _ rfl _ _ rfl .i64 .i64 l.length rfl rfl (by omega) ?_; intro w2 hown hb2 hsz2)
  have hown' := hown.mono (B' := w.heap.size) (by have := hb1.size; omega)
  have hbw : Below w.heap.size w w2 := (by repeat (first | exact Below.refl _ _ | assumption | refine Below.drew ?_ | refine below_drewN ?_ _ | refine Below.alloc ?_ (by first | omega | (simp; done) | (simp; omega)) _ | refine Below.setCell ?_ (by first | omega | (simp; done) | (simp; omega)) _ | refine Below.trans ?_ (Below.mono (by assumption) (by first | omega | (simp; done) | (simp; omega)))))
  clear hown hb2
  generalize hg : w1.heap.size = g at *
  clear hg
  go_loopg [4] (l.length + 1) (fun k v4 wr => ∃ d out, k + out.length = l.length + 1 ∧ OwnI wr w.heap.size v4 out ∧ OwnB wr w.heap.size g d ∧ Mid l d out ∧ Below w.heap.size w wr)
  case atStart => exact ⟨_, [], by simp, OwnI.nil _ _, hown', Mid.start l, hbw⟩
  case round =>
    obtain ⟨wo, rfl⟩ : ∃ wo : World, wo = wr := ⟨_, rfl⟩
    obtain ⟨ko, rfl⟩ : ∃ ko : Nat, ko = gk := ⟨_, rfl⟩
    obtain ⟨d, out, hk, hi, hd, hm, hbel⟩ := hrel
    have hsz := hbel.size
    have HM := Lib.hid hm
    have HDL := Lib.hid hm.1
    have hol : out.length ≤ l.length := by have := hm.2.1; omega
    obtain ⟨va, vc, rfl⟩ := hi.len
    obtain ⟨hgB, hgl⟩ := hd.lt
    clear hm
    by_cases hlt : out.length < l.length
    · go_wp2_with fail
      go_loopg [6, 7] (l.length + 1) (fun k v6 v7 wr => ∃ (j : Nat) (x : Int), j ≤ l.length ∧ k = j + 1 ∧ v7 = .int .i64 ((j : Int) - 1) ∧ v6 = .int .i64 x ∧ wo = wr ∧ Least l d j x)
      case atStart => exact ⟨l.length, -1, by omega, rfl, rfl, rfl, rfl, .inl ⟨rfl, fun m h1 h2 => absurd h1 (by omega)⟩⟩
      case round =>
        obtain ⟨j, x, hj, hkj, rfl, rfl, rfl, hleast⟩ := hrel
        have HL := Lib.hid hleast
        clear hleast
        cases j with
        | succ j =>
          have e1 : ((j + 1 : Nat) : Int) - 1 = (j : Int) := by omega
          rw [e1]
          clear e1
          cases hr : rdy l d j
          · have HR := Lib.hid hr
            clear hr
            go_wp2_with fail
            refine Calls.mono (rready_at l d j _ _ false a _ cap _ _ (hT.later (by repeat (first | exact Below.refl _ _ | assumption | refine Below.drew ?_ | refine below_drewN ?_ _ | refine Below.alloc ?_ (by first | omega | (simp; done) | (simp; omega)) _ | refine Below.setCell ?_ (by first | omega | (simp; done) | (simp; omega)) _ | refine Below.trans ?_ (Below.mono (by assumption) (by first | omega | (simp; done) | (simp; omega)))))) hd.bools HV.out (by omega) rfl HDL.out rfl HR.out) ?_
            rintro e w1 ⟨rfl, rfl⟩
            go_wp2_with fail
            go_roundg (j + 1)
            case measure => omega
            case rel => exact ⟨j, x, by omega, rfl, by go_num, rfl, rfl, HL.out.no HR.out⟩
          · have HR := Lib.hid hr
            clear hr
            go_wp2_with fail
            refine Calls.mono (rready_at l d j _ _ true a _ cap _ _ (hT.later (by repeat (first | exact Below.refl _ _ | assumption | refine Below.drew ?_ | refine below_drewN ?_ _ | refine Below.alloc ?_ (by first | omega | (simp; done) | (simp; omega)) _ | refine Below.setCell ?_ (by first | omega | (simp; done) | (simp; omega)) _ | refine Below.trans ?_ (Below.mono (by assumption) (by first | omega | (simp; done) | (simp; omega)))))) hd.bools HV.out (by omega) rfl HDL.out rfl HR.out) ?_
            rintro e w1 ⟨rfl, rfl⟩
            go_wp2_with fail
            go_roundg (j + 1)
            case measure => omega
            case rel => exact ⟨j, j, by omega, rfl, by go_num, rfl, rfl, HL.out.yes (by omega) HR.out⟩
        | zero =>
          rcases HL.out with ⟨rfl, hnone⟩ | ⟨m, rfl, _, hml, hmr, hmin⟩
          · have ho := HM.out.done (nxt_none fun j hj => hnone j (by omega) hj)
            have e1 : ordL l = [] := by unfold ordL; rw [← ho, if_pos hlt]
            have e2 : ordE l = 24 := by unfold ordE; rw [← ho, if_pos hlt]
            have E1 := Lib.hid e1
            have E2 := Lib.hid e2
            clear e1 e2 ho hnone
            go_wp2_with fail
            go_ret2
            exact ⟨none, 0, by rw [E1.out, E2.out]; rfl, by rw [E1.out]; exact Ints.nil _ _, (by repeat (first | exact Below.refl _ _ | assumption | refine Below.drew ?_ | refine below_drewN ?_ _ | refine Below.alloc ?_ (by first | omega | (simp; done) | (simp; omega)) _ | refine Below.setCell ?_ (by first | omega | (simp; done) | (simp; omega)) _ | refine Below.trans ?_ (Below.mono (by assumption) (by first | omega | (simp; done) | (simp; omega)))))⟩
          · have hst := HM.out.step hml (nxt_at hml (fun j hj => hmin j (by omega) hj) hmr) hmr
            have HST := Lib.hid hst
            have hlm : m < d.length := by have := HDL.out; omega
            clear hst hmin hmr
            go_wp2_with (at_builtin; refine append_int _ rfl _ _ rfl w.heap.size (.slice va out.length vc) out (m : Int) rfl ?_ _ _ rfl ?_ (by omega) ?_ ?_; exact hi.later (by repeat (first | exact Below.refl _ _ | assumption | refine Below.drew ?_ | refine below_drewN ?_ _ | refine Below.alloc ?_ (by first | omega | (simp; done) | (simp; omega)) _ | refine Below.setCell ?_ (by first | omega | (simp; done) | (simp; omega)) _ | refine Below.trans ?_ (Below.mono (by assumption) (by first | omega | (simp; done) | (simp; omega))))); simp [go_sem]; (simp; omega); intro v2 w2 hi2 hg2; have hd2 := (hd.later (w1 := wo.alloc (.cells #[.int .i64 m] 3)) (by repeat (first | exact Below.refl _ _ | assumption | refine Below.drew ?_ | refine below_drewN ?_ _ | refine Below.alloc ?_ (by first | omega | (simp; done) | (simp; omega)) _ | refine Below.setCell ?_ (by first | omega | (simp; done) | (simp; omega)) _ | refine Below.trans ?_ (Below.mono (by assumption) (by first | omega | (simp; done) | (simp; omega)))))).grown (hi.later (w1 := wo.alloc (.cells #[.int .i64 m] 3)) (by repeat (first | exact Below.refl _ _ | assumption | refine Below.drew ?_ | refine below_drewN ?_ _ | refine Below.alloc ?_ (by first | omega | (simp; done) | (simp; omega)) _ | refine Below.setCell ?_ (by first | omega | (simp; done) | (simp; omega)) _ | refine Below.trans ?_ (Below.mono (by assumption) (by first | omega | (simp; done) | (simp; omega)))))) hg2; have hdc2 := hd2.cell hlm; have hdf2 := hd2.free m)
            have hbx : Below w.heap.size w (wo.alloc (.cells #[.int .i64 m] 3)) := (by repeat (first | exact Below.refl _ _ | assumption | refine Below.drew ?_ | refine below_drewN ?_ _ | refine Below.alloc ?_ (by first | omega | (simp; done) | (simp; omega)) _ | refine Below.setCell ?_ (by first | omega | (simp; done) | (simp; omega)) _ | refine Below.trans ?_ (Below.mono (by assumption) (by first | omega | (simp; done) | (simp; omega)))))
            have hio1 := hi.later (w1 := wo.alloc (.cells #[.int .i64 m] 3)) (by repeat (first | exact Below.refl _ _ | assumption | refine Below.drew ?_ | refine below_drewN ?_ _ | refine Below.alloc ?_ (by first | omega | (simp; done) | (simp; omega)) _ | refine Below.setCell ?_ (by first | omega | (simp; done) | (simp; omega)) _ | refine Below.trans ?_ (Below.mono (by assumption) (by first | omega | (simp; done) | (simp; omega)))))
            have hbz := hbx.grown hg2 (by simp; omega) (fun k hk => (World.ownsRow.lt hio1 k hk).1)
            go_roundg (ko - 1)
            case measure => omega
            case rel => exact ⟨d.set m true, out ++ [(m : Int)], by simp; omega, hi2.setOther hd2 m _, hd2.set m true, HST.out.1, hbz.setCell (by omega) _⟩
    · have hc0 : d.count false = 0 := by have := HM.out.2.1; omega
      have ho : out = orderOf l := by have h3 := HM.out.2.2; rw [hc0] at h3; exact h3
      have hoe : out.length = l.length := by omega
      have e1 : ordL l = out := by unfold ordL; rw [← ho, if_neg (by omega)]
      have e2 : ordE l = 0 := by unfold ordE; rw [← ho, if_neg (by omega)]
      have E1 := Lib.hid e1
      have E2 := Lib.hid e2
      obtain ⟨oa, oc, he, hI, _⟩ := hi.ints
      cases he
      clear e1 e2 ho hoe hc0
      go_wp2_with fail
      go_ret2
      exact ⟨va, vc, by rw [E1.out, E2.out]; rfl, by rw [E1.out]; exact hI, (by repeat (first | exact Below.refl _ _ | assumption | refine Below.drew ?_ | refine below_drewN ?_ _ | refine Below.alloc ?_ (by first | omega | (simp; done) | (simp; omega)) _ | refine Below.setCell ?_ (by first | omega | (simp; done) | (simp; omega)) _ | refine Below.trans ?_ (Below.mono (by assumption) (by first | omega | (simp; done) | (simp; omega)))))⟩
end Go.Proofs.Ytoblmecgnpoogaa

