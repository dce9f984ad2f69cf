
/- Contracts of package task: Order. -/
import Derived.Test.YtoblmecgnpoogaaTaskD
import Derived.Test.YtoblmecgnpoogaaOwn
import Derived.Deep.DeepMust
namespace Go.Proofs.Ytoblmecgnpoogaa
open Go.RowKit

/-- returned a slice of numbers and an error number; what was there is as it was -/
def RetIE (l : List Int) (n : Int) (w : World) (e : Ending) (w' : World) : Prop := ∃ a cap, e = .returned (.tuple #[.slice a l.length cap, .int .i64 n]) ∧ Ints w' a l ∧ Below w.heap.size w w'

/-- the first task that is ready -/
def nxt (l : List Tk) (d : List Bool) : Option Nat := (List.range l.length).find? (rdy l d)
def grd (l : List Tk) : Nat → List Bool → List Int → List Int
  | 0, _, out => out
  | n + 1, d, out => match nxt l d with
    | none => out
    | some i => grd l n (d.set i true) (out ++ [(i : Int)])
def orderOf (l : List Tk) : List Int := grd l l.length (List.replicate l.length false) []

theorem nxt_at {l : List Tk} {d : List Bool} {i : Nat} (hi : i < l.length) (h : ∀ j, j < i → rdy l d j = false) (h' : rdy l d i = true) : nxt l d = some i := by
  unfold nxt
  rw [List.find?_eq_some_iff_getElem]
  refine ⟨h', i, by simpa using hi, by simp, fun j hj => ?_⟩
  simp [h j hj]
theorem nxt_none {l : List Tk} {d : List Bool} (h : ∀ j, j < l.length → rdy l d j = false) : nxt l d = none := by
  unfold nxt
  rw [List.find?_eq_none]
  intro x hx
  simp at hx
  simp [h x hx]
theorem rdy_open {l : List Tk} {d : List Bool} {i : Nat} (h : rdy l d i = true) : bg d i = false := by
  unfold rdy at h
  cases hb : bg d i
  · rfl
  · rw [hb] at h; simp at h
theorem count_set {d : List Bool} {i : Nat} (hi : i < d.length) (h : bg d i = false) : d.count false = (d.set i true).count false + 1 := by
  rw [bg_lt hi] at h
  rw [List.count_set hi]
  have : 0 < d.count false := List.count_pos_iff.2 (h ▸ List.getElem_mem hi)
  simp [h]
  omega
/-- where the greedy search stands: d done, out in this order -/
def Mid (l : List Tk) (d : List Bool) (out : List Int) : Prop := d.length = l.length ∧ out.length + d.count false = l.length ∧ grd l (d.count false) d out = orderOf l
theorem Mid.start (l : List Tk) : Mid l (List.replicate l.length false) [] := by
  refine ⟨by simp, by simp, ?_⟩
  unfold orderOf
  simp
theorem Mid.step {l : List Tk} {d : List Bool} {out : List Int} {i : Nat} (h : Mid l d out) (hi : i < l.length) (hn : nxt l d = some i) (hr : rdy l d i = true) : Mid l (d.set i true) (out ++ [(i : Int)]) ∧ (d.set i true).count false + 1 = d.count false := by
  have hc := count_set (d := d) (i := i) (by rw [h.1]; exact hi) (rdy_open hr)
  refine ⟨⟨by simpa using h.1, by have := h.2.1; simp; omega, ?_⟩, hc.symm⟩
  have h3 := h.2.2
  rw [hc] at h3
  simp only [grd, hn] at h3
  exact h3
theorem Mid.done {l : List Tk} {d : List Bool} {out : List Int} (h : Mid l d out) (hn : nxt l d = none) : out = orderOf l := by
  have h3 := h.2.2
  cases hc : d.count false with
  | zero => rw [hc] at h3; exact h3
  | succ n => rw [hc] at h3; simp only [grd, hn] at h3; exact h3

theorem after_in {l : List Tk} (hv : VT l) {i : Nat} (hi : i < l.length) {d : List Bool} (hd : d.length = l.length) : ∀ r, r < (tg l i).after.length → 0 ≤ ig (tg l i).after r ∧ ig (tg l i).after r < d.length := fun r hr => by
  rw [hd]
  exact good_in ((hv.2 i hi).2.2.2.2) hr
theorem after_len {l : List Tk} (hv : VT l) {i : Nat} (hi : i < l.length) : (tg l i).after.length ≤ 40 := by
  have h1 := good_len ((hv.2 i hi).2.2.2.2)
  have h2 := hv.1
  omega

/-- at the label: the frame, and what it holds -/
def AtLabel (l : List Tk) (a : Option Addr) (cap : Nat) (w : World) (x : Act) (wl : World) : Prop :=
  ∃ (u1 u6 u7 u8 u9 u10 u11 u12 u13 u14 u15 u16 u17 u18 u19 u20 u21 u22 u23 u24 u25 u26 u27 u28 u29 u30 u31 u32 u33 u34 u35 u36 u37 u38 u39 u40 u41 u42 u43 u44 u45 : Value) (g : Nat) (v : Value) (d : List Bool) (out : List Int), x = ({ tmps := #[.slice a l.length cap, u1, .slice none 0 0, .int .i64 0, v, .slice (some ⟨g, 0, none⟩) l.length l.length, u6, u7, u8, u9, u10, u11, u12, u13, u14, u15, u16, u17, u18, u19, u20, u21, u22, u23, u24, u25, u26, u27, u28, u29, u30, u31, u32, u33, u34, u35, u36, u37, u38, u39, u40, u41, u42, u43, u44, u45], defers := [] } : Act) ∧
    Below w.heap.size w wl ∧ OwnB wl w.heap.size g d ∧ OwnI wl w.heap.size v out ∧ Mid l d out
/-- how many are not done, by the frame and the world: the length of what is collected -/
def outLen (x : Act) : Nat := match x.tmps.getD 4 undef with | .slice _ n _ => n | _ => 0

theorem waits_at (t : Tk) (d : List Bool) (r : Bool) (n : Nat) (a da : Option Addr) (cap dc : Nat) (w : World) (hL : Ints w a t.after) (hD : Bools w da d) (hl : t.after.length ≤ 1000) (hn : d.length = n) (hd : n ≤ 1000)
    (hin : ∀ r, r < t.after.length → 0 ≤ ig t.after r ∧ ig t.after r < d.length) (hr : allDone d t.after = !r) :
    Calls Try.prog 44 #[.agg #[.int .i64 t.hours, .int .i64 t.skill, .bool t.bay, .slice a t.after.length cap], .slice da n dc] w (RetB (.bool r) w) := by
  subst hn
  have := waits_any t d a da cap dc w hL hD hl hd hin
  rwa [hr, Bool.not_not] at this
def ordL (l : List Tk) : List Int := if (orderOf l).length < l.length then [] else orderOf l
def ordE (l : List Tk) : Int := if (orderOf l).length < l.length then 24 else 0

set_option maxRecDepth 100000 in
set_option maxHeartbeats 4000000 in
theorem order_yes (l : List Tk) (a : Option Addr) (cap : Nat) (w : World) (hT : Tasks w a l) (hl : l.length < 9223372036854775808) (hS : l.length ≤ 40 → ∀ i, i < l.length → (tg l i).after.length < 9223372036854775808) (hv : VT l) :
    Calls Try.prog 24 #[.slice a l.length cap] w (RetIE (ordL l) (ordE l) w) := by
  have HV := Lib.hid hv
  have HS := Lib.hid hS
  have h40 := hv.1
  clear hv hS
  go_enter Try.func24, Try.ntmps24
  go_wp2_with fail
  refine wp_scope_label 0 (AtLabel l a cap w) (fun x _ => l.length - outLen x) rfl ?_ ?_
  · intro x wl hx
    obtain ⟨u1, u6, u7, u8, u9, u10, u11, u12, u13, u14, u15, u16, u17, u18, u19, u20, u21, u22, u23, u24, u25, u26, u27, u28, u29, u30, u31, u32, u33, u34, u35, u36, u37, u38, u39, u40, u41, u42, u43, u44, u45, g, v, d, out, rfl, hbl, hd, hi, hm⟩ := hx
    have hszl := hbl.size
    have hm1 := hm.1
    obtain ⟨va, vc, hva⟩ := hi.len
    subst hva
    clear hm1
    have HM := Lib.hid hm
    have hdl : d.length = l.length := hm.1
    have hol : out.length ≤ l.length := by have := hm.2.1; omega
    have HDL := Lib.hid hdl
    clear hm hdl
    obtain ⟨hgB, hgl⟩ := hd.lt
    go_wp2_with fail
    go_loopg [4, 16] (l.length + 1) (fun k v4 v16 wr => ∃ i : Nat, i ≤ l.length ∧ k + i = l.length + 1 ∧ Value.slice va out.length vc = v4 ∧ v16 = .int .i64 i ∧ Below wl.heap.size wl wr ∧ ∀ j, j < i → rdy l d j = false)
    case atStart => exact ⟨0, by omega, by omega, rfl, rfl, Below.refl _ _, fun r hr => absurd hr (by omega)⟩
    case round =>
      obtain ⟨wo, rfl⟩ : ∃ wo : World, wo = wr := ⟨_, rfl⟩
      obtain ⟨i, hil, hk, rfl, rfl, hbel, hall⟩ := hrel
      have HA := Lib.hid hall
      clear hall
      have hsz := hbel.size
      by_cases hlt : i < l.length
      · have hT' := hT.later (w1 := wo) (by repeat (first | exact Below.refl _ _ | assumption | refine Below.drew ?_ | refine below_drewN ?_ _ | refine Below.alloc ?_ (by first | omega | (simp; done) | (simp; omega)) _ | refine Below.setCell ?_ (by first | omega | (simp; done) | (simp; omega)) _ | refine Below.trans ?_ (Below.mono (by assumption) (by first | omega | (simp; done) | (simp; omega)))))
        obtain ⟨b, off, aa, ac, rfl, c0, c1, c2, c3, hI⟩ := hT' i hlt
        have hai := after_in HV.out hlt HDL.out
        have hal := after_len HV.out hlt
        obtain ⟨t, ht⟩ : ∃ t, tg l i = t := ⟨_, rfl⟩
        rw [ht] at c0 c1 c2 c3 hI hai hal
        have HTt := Lib.hid ht
        have HAI := Lib.hid hai
        clear ht hT hT' hai
        have hdo := hd.later hbel
        have hio := hi.later hbel
        have hdc := hdo.cell (j := i) (by have := HDL.out; omega)
        have hdf := hdo.free i
        have hgo := hdo.lt.2
        cases hb : bg d i
        · rw [hb] at hdc
          cases hdn : allDone d t.after
          · have hr : rdy l d i = false := by unfold rdy; rw [HTt.out, hb, hdn]; rfl
            have HR := Lib.hid hr
            clear hr
            go_wp2_with fail
            refine Calls.mono (waits_at t d true l.length aa _ ac _ _ (hI.later (by repeat (first | exact Below.refl _ _ | assumption | refine Below.drew ?_ | refine below_drewN ?_ _ | refine Below.alloc ?_ (by first | omega | (simp; done) | (simp; omega)) _ | refine Below.setCell ?_ (by first | omega | (simp; done) | (simp; omega)) _ | refine Below.trans ?_ (Below.mono (by assumption) (by first | omega | (simp; done) | (simp; omega)))))) (hdo.bools.later (by repeat (first | exact Below.refl _ _ | assumption | refine Below.drew ?_ | refine below_drewN ?_ _ | refine Below.alloc ?_ (by first | omega | (simp; done) | (simp; omega)) _ | refine Below.setCell ?_ (by first | omega | (simp; done) | (simp; omega)) _ | refine Below.trans ?_ (Below.mono (by assumption) (by first | omega | (simp; done) | (simp; omega)))))) (by omega) HDL.out (by omega) HAI.out (by rw [hdn]; rfl)) ?_
            rintro e w1 ⟨rfl, hb1⟩; have hs1 := hb1.size; (try simp at hs1)
            go_wp2_with fail
            go_roundg (l.length - i)
            case measure => omega
            case rel => exact ⟨i + 1, by omega, by omega, rfl, by go_num, (by repeat (first | exact Below.refl _ _ | assumption | refine Below.drew ?_ | refine below_drewN ?_ _ | refine Below.alloc ?_ (by first | omega | (simp; done) | (simp; omega)) _ | refine Below.setCell ?_ (by first | omega | (simp; done) | (simp; omega)) _ | refine Below.trans ?_ (Below.mono (by assumption) (by first | omega | (simp; done) | (simp; omega))))), fun j hj => by
              rcases Nat.lt_succ_iff_lt_or_eq.1 hj with h | h
              · exact HA.out j h
              · subst h; exact HR.out⟩
          · have hr : rdy l d i = true := by unfold rdy; rw [HTt.out, hb, hdn]; rfl
            have hst := HM.out.step hlt (nxt_at hlt HA.out hr) hr
            have HST := Lib.hid hst
            clear hr hst
            go_wp2_with fail
            refine Calls.mono (waits_at t d false l.length aa _ ac _ _ (hI.later (by repeat (first | exact Below.refl _ _ | assumption | refine Below.drew ?_ | refine below_drewN ?_ _ | refine Below.alloc ?_ (by first | omega | (simp; done) | (simp; omega)) _ | refine Below.setCell ?_ (by first | omega | (simp; done) | (simp; omega)) _ | refine Below.trans ?_ (Below.mono (by assumption) (by first | omega | (simp; done) | (simp; omega)))))) (hdo.bools.later (by repeat (first | exact Below.refl _ _ | assumption | refine Below.drew ?_ | refine below_drewN ?_ _ | refine Below.alloc ?_ (by first | omega | (simp; done) | (simp; omega)) _ | refine Below.setCell ?_ (by first | omega | (simp; done) | (simp; omega)) _ | refine Below.trans ?_ (Below.mono (by assumption) (by first | omega | (simp; done) | (simp; omega)))))) (by omega) HDL.out (by omega) HAI.out (by rw [hdn]; rfl)) ?_
            rintro e w1 ⟨rfl, hb1⟩; have hs1 := hb1.size; (try simp at hs1)
            have hd1 := hdo.later (w1 := w1) (by repeat (first | exact Below.refl _ _ | assumption | refine Below.drew ?_ | refine below_drewN ?_ _ | refine Below.alloc ?_ (by first | omega | (simp; done) | (simp; omega)) _ | refine Below.setCell ?_ (by first | omega | (simp; done) | (simp; omega)) _ | refine Below.trans ?_ (Below.mono (by assumption) (by first | omega | (simp; done) | (simp; omega)))))
            have hi1 := hio.later (w1 := w1) (by repeat (first | exact Below.refl _ _ | assumption | refine Below.drew ?_ | refine below_drewN ?_ _ | refine Below.alloc ?_ (by first | omega | (simp; done) | (simp; omega)) _ | refine Below.setCell ?_ (by first | omega | (simp; done) | (simp; omega)) _ | refine Below.trans ?_ (Below.mono (by assumption) (by first | omega | (simp; done) | (simp; omega)))))
            have hdc1 := hd1.cell (j := i) (by have := HDL.out; omega)
            have hdf1 := hd1.free i
            rw [hb] at hdc1
            go_wp2_with (at_builtin; go_must (refine append_int _ rfl _ _ rfl w.heap.size (.slice va out.length vc) out (i : Int) rfl ?_ _ _ rfl ?_ (by omega) ?_ ?_); go_must (exact (hi1.setOther hd1 i (.bool true)).later (by repeat (first | exact Below.refl _ _ | assumption | refine Below.drew ?_ | refine below_drewN ?_ _ | refine Below.alloc ?_ (by first | omega | (simp; done) | (simp; omega)) _ | refine Below.setCell ?_ (by first | omega | (simp; done) | (simp; omega)) _ | refine Below.trans ?_ (Below.mono (by assumption) (by first | omega | (simp; done) | (simp; omega)))))); go_must (simp [go_sem]); go_must (simp; omega); intro v2 w2 hi2 hg2)
            go_step3
            go_wp2_with fail
            have hbx : Below w.heap.size w ((w1.setCell ⟨g, i, none⟩ (.bool true)).alloc (.cells #[.int .i64 i] 3)) := (by repeat (first | exact Below.refl _ _ | assumption | refine Below.drew ?_ | refine below_drewN ?_ _ | refine Below.alloc ?_ (by first | omega | (simp; done) | (simp; omega)) _ | refine Below.setCell ?_ (by first | omega | (simp; done) | (simp; omega)) _ | refine Below.trans ?_ (Below.mono (by assumption) (by first | omega | (simp; done) | (simp; omega)))))
            have hio1 := (hi1.setOther hd1 i (.bool true)).later (w1 := (w1.setCell ⟨g, i, none⟩ (.bool true)).alloc (.cells #[.int .i64 i] 3)) (by repeat (first | exact Below.refl _ _ | assumption | refine Below.drew ?_ | refine below_drewN ?_ _ | refine Below.alloc ?_ (by first | omega | (simp; done) | (simp; omega)) _ | refine Below.setCell ?_ (by first | omega | (simp; done) | (simp; omega)) _ | refine Below.trans ?_ (Below.mono (by assumption) (by first | omega | (simp; done) | (simp; omega)))))
            have hdo1 := (hd1.set i true).later (w1 := (w1.setCell ⟨g, i, none⟩ (.bool true)).alloc (.cells #[.int .i64 i] 3)) (by repeat (first | exact Below.refl _ _ | assumption | refine Below.drew ?_ | refine below_drewN ?_ _ | refine Below.alloc ?_ (by first | omega | (simp; done) | (simp; omega)) _ | refine Below.setCell ?_ (by first | omega | (simp; done) | (simp; omega)) _ | refine Below.trans ?_ (Below.mono (by assumption) (by first | omega | (simp; done) | (simp; omega)))))
            have hdo2 := hdo1.grown hio1 hg2
            have hbz := hbx.grown hg2 (by simp; omega) (fun k hk => (World.ownsRow.lt hio1 k hk).1)
            obtain ⟨a2, cc2, rfl⟩ := hi2.len
            change 0 = 0 ∧ (AtLabel _ _ _ _ _ _ ∧ _ < _)
            refine ⟨rfl, ?_, ?_⟩
            · unfold AtLabel
              (repeat apply Exists.intro)
              exact ⟨rfl, hbz, hdo2, hi2, HST.out.1⟩
            · have h1 := HM.out.2.1
              have h2 := HST.out.2
              simp [outLen]
              omega
        · rw [hb] at hdc
          have hr : rdy l d i = false := by unfold rdy; rw [hb]; rfl
          have HR := Lib.hid hr
          clear hr
          go_wp2_with fail
          go_roundg (l.length - i)
          case measure => omega
          case rel => exact ⟨i + 1, by omega, by omega, rfl, by go_num, (by repeat (first | exact Below.refl _ _ | assumption | refine Below.drew ?_ | refine below_drewN ?_ _ | refine Below.alloc ?_ (by first | omega | (simp; done) | (simp; omega)) _ | refine Below.setCell ?_ (by first | omega | (simp; done) | (simp; omega)) _ | refine Below.trans ?_ (Below.mono (by assumption) (by first | omega | (simp; done) | (simp; omega))))), fun j hj => by
            rcases Nat.lt_succ_iff_lt_or_eq.1 hj with h | h
            · exact HA.out j h
            · subst h; exact HR.out⟩
      · have hn : nxt l d = none := nxt_none fun j hj => HA.out j (by omega)
        have ho := HM.out.done hn
        have hio := hi.later hbel
        have HO := Lib.hid ho
        clear ho hn
        by_cases hc : out.length < l.length
        · have e1 : ordL l = [] := by unfold ordL; rw [← HO.out, if_pos hc]
          have e2 : ordE l = 24 := by unfold ordE; rw [← HO.out, if_pos hc]
          have E1 := Lib.hid e1
          have E2 := Lib.hid e2
          clear e1 e2
          go_wp2_with fail
          go_ret2
          exact ⟨none, 0, by rw [E1.out, E2.out]; rfl, by rw [E1.out]; exact Ints.nil _ _, (by repeat (first | exact Below.refl _ _ | assumption | refine Below.drew ?_ | refine below_drewN ?_ _ | refine Below.alloc ?_ (by first | omega | (simp; done) | (simp; omega)) _ | refine Below.setCell ?_ (by first | omega | (simp; done) | (simp; omega)) _ | refine Below.trans ?_ (Below.mono (by assumption) (by first | omega | (simp; done) | (simp; omega)))))⟩
        · have e1 : ordL l = out := by unfold ordL; rw [← HO.out, if_neg hc]
          have e2 : ordE l = 0 := by unfold ordE; rw [← HO.out, if_neg hc]
          have E1 := Lib.hid e1
          have E2 := Lib.hid e2
          obtain ⟨oa, oc, he, hI, _⟩ := hio.ints
          cases he
          clear e1 e2
          go_wp2_with fail
          go_ret2
          exact ⟨va, vc, by rw [E1.out, E2.out]; rfl, by rw [E1.out]; exact hI, (by repeat (first | exact Below.refl _ _ | assumption | refine Below.drew ?_ | refine below_drewN ?_ _ | refine Below.alloc ?_ (by first | omega | (simp; done) | (simp; omega)) _ | refine Below.setCell ?_ (by first | omega | (simp; done) | (simp; omega)) _ | refine Below.trans ?_ (Below.mono (by assumption) (by first | omega | (simp; done) | (simp; omega)))))⟩
  · intro hrest
    go_wp2_with fail
    refine Calls.mono (valid_any l a cap true _ hT hl HS.out (by simp [HV.out])) ?_
    rintro e w1 ⟨rfl, hb1⟩; have hs1 := hb1.size; (try simp at hs1)
    go_wp2_with (refine make_bool _ rfl _ _ rfl .i64 .i64 l.length rfl rfl (by omega) ?_; intro w2 hown hb2 hsz2)
    go_step3
    go_step
    go_step
    refine hrest _ _ ?_
    unfold AtLabel
    (repeat apply Exists.intro)
    exact ⟨rfl, (by repeat (first | exact Below.refl _ _ | assumption | refine Below.drew ?_ | refine below_drewN ?_ _ | refine Below.alloc ?_ (by first | omega | (simp; done) | (simp; omega)) _ | refine Below.setCell ?_ (by first | omega | (simp; done) | (simp; omega)) _ | refine Below.trans ?_ (Below.mono (by assumption) (by first | omega | (simp; done) | (simp; omega))))), hown.mono (by have := hb1.size; omega), OwnI.nil _ _, Mid.start l⟩
end Go.Proofs.Ytoblmecgnpoogaa

