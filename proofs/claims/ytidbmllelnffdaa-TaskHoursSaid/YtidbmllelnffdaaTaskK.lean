
/- Contracts of package task: the reference's Critical. -/
import Derived.Test.YtidbmllelnffdaaTaskJ
namespace Go.Proofs.Ytidbmllelnffdaa
open Go.RowKit

theorem mx_snoc_le (f : Nat → Int) (a : List Int) : 0 ≤ mx f a ∧ (∀ x ∈ a, f x.toNat ≤ mx f a) ∧ ∀ b, 0 ≤ b → (∀ x ∈ a, f x.toNat ≤ b) → mx f a ≤ b := by
  have h : ∀ n (a : List Int), a.length = n → 0 ≤ mx f a ∧ (∀ x ∈ a, f x.toNat ≤ mx f a) ∧ ∀ b, 0 ≤ b → (∀ x ∈ a, f x.toNat ≤ b) → mx f a ≤ b := by
    intro n
    induction n with
    | zero =>
      intro a ha
      have : a = [] := List.length_eq_zero_iff.1 ha
      subst this
      exact ⟨by simp [mx], by simp, fun b hb _ => by simpa [mx] using hb⟩
    | succ n ih =>
      intro a ha
      have hne : a ≠ [] := by intro e; subst e; simp at ha
      have e := List.dropLast_concat_getLast hne
      obtain ⟨i1, i2, i3⟩ := ih a.dropLast (by simp; omega)
      rw [← e, mx_snoc]
      refine ⟨by omega, fun x hx => ?_, fun b hb hx => ?_⟩
      · rw [List.mem_append] at hx
        rcases hx with hx | hx
        · have := i2 x hx; omega
        · simp at hx; subst hx; omega
      · have h1 := i3 b hb fun x hx' => hx x (by rw [List.mem_append]; exact .inl hx')
        have h2 := hx (a.getLast hne) (by simp)
        omega
  exact h _ a rfl
theorem mx_same (f : Nat → Int) {a b : List Int} (h : ∀ x, x ∈ a ↔ x ∈ b) : mx f a = mx f b := by
  obtain ⟨a1, a2, a3⟩ := mx_snoc_le f a
  obtain ⟨b1, b2, b3⟩ := mx_snoc_le f b
  have h1 := a3 _ b1 fun x hx => b2 x ((h x).1 hx)
  have h2 := b3 _ a1 fun x hx => a2 x ((h x).2 hx)
  omega
/-- an order that is whole -/
def Whole (l : List Tk) (o : List Int) : Prop := o.length = l.length ∧ (∀ r, r < o.length → ∃ i : Nat, ig o r = i ∧ i < l.length ∧ ∀ q, q < (tg l i).after.length → ∃ s, s < r ∧ ig o s = ig (tg l i).after q) ∧
  (∀ i, i < l.length → ∃ r, r < o.length ∧ ig o r = i) ∧ o.Nodup
theorem order_whole {l : List Tk} (hv' : VT l) (h : ¬ (orderOf l).length < l.length) : Whole l (orderOf l) := by
  have hle := order_le hv'
  have hfull := (order_full hv').1 (by omega)
  obtain ⟨d, hd, ⟨h1, h2, h3, h4, h5⟩, hn⟩ := order_built hv'
  refine ⟨by omega, h2, fun i hi => ?_, h5⟩
  obtain ⟨x, hx⟩ := hfull i hi
  exact h3 i hi (done_of hd hn hx)
theorem Whole.crit {l : List Tk} {o : List Int} (h : Whole l o) : mx (hv l) o = crit l := by
  obtain ⟨h1, h2, h3, h4⟩ := h
  refine mx_same _ fun x => ⟨fun hx => ?_, fun hx => ?_⟩
  · obtain ⟨r, hr, rfl⟩ := List.getElem_of_mem hx
    obtain ⟨i, hi, hil, _⟩ := h2 r hr
    rw [ig_lt hr] at hi
    rw [hi]
    exact List.mem_map.2 ⟨i, by simpa using hil, rfl⟩
  · obtain ⟨i, hi, rfl⟩ := List.mem_map.1 hx
    obtain ⟨r, hr, he⟩ := h3 i (by simpa using hi)
    rw [← he]
    exact ig_mem hr
/-- ahead of the p-th of the order -/
def RI (l : List Tk) (o : List Int) (p : Nat) (en : List Int) : Prop := en.length = l.length ∧ (∀ j, 0 ≤ ig en j ∧ ig en j ≤ 1000 * p) ∧ ∀ r, r < p → HV l (ig o r).toNat (ig en (ig o r).toNat)
theorem RI.start (l : List Tk) (o : List Int) : RI l o 0 (List.replicate l.length 0) := by
  refine ⟨by simp, fun j => ?_, fun r hr => absurd hr (by omega)⟩
  have : ig (List.replicate l.length 0) j = 0 := by
    by_cases h : j < l.length
    · rw [ig_lt (by simpa using h)]; simp
    · simp [ig, List.getD, show l.length ≤ j by omega]
  omega
theorem RI.dep {l : List Tk} {o en : List Int} {p i q m : Nat} (hw : Whole l o) (h : RI l o p en) (hp : p < o.length) (hi : ig o p = i) (hq : q < (tg l i).after.length) (hm : ig (tg l i).after q = m) : ig en m = hv l m := by
  obtain ⟨i', hi', _, hd⟩ := hw.2.1 p hp
  have : i' = i := by omega
  subst this
  obtain ⟨s, hs, he⟩ := hd q hq
  have := h.2.2 s hs
  rw [he, hm] at this
  exact (hv_eq this).symm
theorem RI.step {l : List Tk} {o en : List Int} {p i : Nat} (hv' : VT l) (hw : Whole l o) (h : RI l o p en) (hp : p < o.length) (hi : ig o p = i) : RI l o (p + 1) (en.set i (mx (hv l) (tg l i).after + (tg l i).hours)) ∧ i < l.length ∧ hv l i = mx (hv l) (tg l i).after + (tg l i).hours ∧ 0 ≤ mx (hv l) (tg l i).after ∧ mx (hv l) (tg l i).after ≤ 1000 * p := by
  obtain ⟨i', hi', hil, hd⟩ := hw.2.1 p hp
  have : i' = i := by omega
  subst this
  have hl := h.1
  have hH : ∀ r, r < (tg l i').after.length → HV l (ig (tg l i').after r).toNat (hv l (ig (tg l i').after r).toNat) := fun r hr => by
    obtain ⟨s, hs, he⟩ := hd r hr
    have := h.2.2 s hs
    rw [he] at this
    exact hv_spec ⟨_, this⟩
  have hHV := HV.step hil hH
  have hb := mx_bound (f := hv l) (a := (tg l i').after) (b := 1000 * p) (by omega) (fun r hr => by
    have hn := good_in ((hv'.2 i' hil).2.2.2.2) hr
    obtain ⟨m, hm⟩ : ∃ m : Nat, ig (tg l i').after r = (m : Int) := ⟨(ig (tg l i').after r).toNat, by omega⟩
    have := h.dep hw hp hi hr hm
    rw [hm, Int.toNat_natCast, ← this]
    exact (h.2.1 m).2) _ (Nat.le_refl _)
  rw [List.take_length] at hb
  obtain ⟨v1, v2, _⟩ := hv'.2 i' hil
  refine ⟨⟨by simpa using hl, fun j => ?_, fun r hr => ?_⟩, hil, hv_eq hHV, hb.1, hb.2⟩
  · rw [ig_set (by omega)]
    obtain ⟨g1, g2⟩ := h.2.1 j
    split
    · omega
    · push_cast; omega
  · rw [ig_set (by omega)]
    by_cases hlt : r < p
    · have hne : i' ≠ (ig o r).toNat := fun e => by
        obtain ⟨k, hk, hkl, _⟩ := hw.2.1 r (by omega)
        have hnd := hw.2.2.2
        have h1 : o[r]'(by omega) = o[p] := by
          rw [← ig_lt, ← ig_lt, hk, hi]
          rw [hk] at e
          simp at e
          omega
        exact List.pairwise_iff_getElem.1 hnd r p (by omega) hp hlt h1
      rw [if_neg hne]
      exact h.2.2 r hlt
    · have : r = p := by omega
      subst this
      rw [hi, Int.toNat_natCast, if_pos rfl]
      exact hHV

set_option maxHeartbeats 8000000 in
set_option maxRecDepth 100000 in
theorem rcritical_yes (l : List Tk) (a : Option Addr) (cap : Nat) (w : World) (hT : Tasks w a l) (hv' : VT l) :
    Calls Try.prog 14 #[.slice a l.length cap] w (RetNE (critL l) (ordE l) w) := by
  have HV' := Lib.hid hv'
  have h40 := hv'.1
  by_cases hc : (orderOf l).length < l.length
  · have e1 : critL l = 0 := by unfold critL; rw [if_pos hc]
    have e2 : ordE l = 24 := by unfold ordE; rw [if_pos hc]
    have E1 := Lib.hid e1
    have E2 := Lib.hid e2
    have hro := rorder_yes l a cap w hT hv'
    rw [e2] at hro
    clear hv' e1 e2 hc
    go_enter Try.func14, Try.ntmps14
    go_wp2_with fail
    refine Calls.mono hro ?_
    rintro e w1 ⟨oa, oc, rfl, hI, hb1⟩
    go_wp2_with fail
    go_ret2
    exact ⟨by rw [E1.out, E2.out]; rfl, (by repeat (first | exact Below.refl _ _ | assumption | refine Below.drew ?_ | refine below_drewN ?_ _ | refine Below.alloc ?_ (by first | omega | (simp; done) | (simp; omega)) _ | refine Below.setCell ?_ (by first | omega | (simp; done) | (simp; omega)) _ | refine Below.trans ?_ (Below.mono (by assumption) (by first | omega | (simp; done) | (simp; omega)))))⟩
  · have e1 : critL l = crit l := by unfold critL; rw [if_neg hc]
    have e2 : ordE l = 0 := by unfold ordE; rw [if_neg hc]
    have e3 : ordL l = orderOf l := by unfold ordL; rw [if_neg hc]
    have hw := order_whole hv' hc
    generalize orderOf l = o at *
    have HW := Lib.hid hw
    have HC := Lib.hid hw.crit
    have hol := hw.1
    have E1 := Lib.hid e1
    have E2 := Lib.hid e2
    have hro := rorder_yes l a cap w hT hv'
    rw [e2, e3] at hro
    clear hv' e1 e2 e3 hc hw
    go_enter Try.func14, Try.ntmps14
    go_wp2_with fail
    refine Calls.mono hro ?_
    rintro e w1 ⟨oa, oc, rfl, hI, hb1⟩
    have hs1 := hb1.size
    go_wp2_with (refine make_int _ rfl _ _ rfl .i64 .i64 l.length rfl rfl (by omega) ?_; intro w2 hown hb2 hsz2)
    have hown' := hown.mono (B' := w.heap.size) (by omega)
    have hbw : Below w.heap.size w w2 := (by repeat (first | exact Below.refl _ _ | assumption | refine Below.drew ?_ | refine below_drewN ?_ _ | refine Below.alloc ?_ (by first | omega | (simp; done) | (simp; omega)) _ | refine Below.setCell ?_ (by first | omega | (simp; done) | (simp; omega)) _ | refine Below.trans ?_ (Below.mono (by assumption) (by first | omega | (simp; done) | (simp; omega)))))
    clear hown
    generalize hg : w1.heap.size = g at *
    go_loopg [7, 8] (l.length + 1) (fun k v7 v8 wr => ∃ (p : Nat) (en : List Int), p ≤ l.length ∧ k + p = l.length + 1 ∧ v8 = .int .i64 p ∧ v7 = .int .i64 (mx (hv l) (o.take p)) ∧ Below w.heap.size w wr ∧ Below g w1 wr ∧ OwnN wr w.heap.size g en ∧ RI l o p en)
    case atStart => exact ⟨0, _, by omega, by omega, rfl, by rw [mx_zero], hbw, hb2, hown', RI.start l o⟩
    case round =>
      obtain ⟨wo, rfl⟩ : ∃ wo : World, wo = wr := ⟨_, rfl⟩
      obtain ⟨ko, rfl⟩ : ∃ ko : Nat, ko = gk := ⟨_, rfl⟩
      obtain ⟨p, en, hp, hk, rfl, rfl, hbel, hbg, hd, hR⟩ := hrel
      have hIo : Ints wo oa o := hI.later (by rw [hg]; exact hbg)
      have hsz := hbel.size
      have HR := Lib.hid hR
      have hel := hR.1
      have HD := Lib.hid hd
      obtain ⟨hgB, hgl⟩ := hd.lt
      have hdf := hd.free
      clear hR hbw hb2 hown'
      by_cases hlt : p < l.length
      · have hT' := hT.later hbel
        obtain ⟨ob, ooff, rfl, fo⟩ := hIo.fam (by omega)
        obtain ⟨i, hi, hil, _⟩ := HW.out.2.1 p (by omega)
        have co := fo p (by omega)
        rw [hi] at co
        obtain ⟨z1, z2, z3, z4, z5⟩ := HR.out.step HV'.out HW.out (by omega) hi
        have hmt := mx_take (hv l) o (q := p) (by omega)
        rw [hi, Int.toNat_natCast, z3] at hmt
        obtain ⟨b, off, aa, ac, rfl, t0, t1, t2, t3, hIa⟩ := hT' i hil
        have hai := fun r (hr : r < (tg l i).after.length) => good_in ((HV'.out.2 i hil).2.2.2.2) hr
        have hal := after_len HV'.out hil
        have hdep := fun q m (hq : q < (tg l i).after.length) (hm : ig (tg l i).after q = (m : Nat)) => HR.out.dep HW.out (by omega) hi hq hm
        obtain ⟨v1, v2, _⟩ := HV'.out.2 i hil
        generalize htt : tg l i = t at *
        have HT := Lib.hid htt
        have HI := Lib.hid hi
        have HMT := Lib.hid hmt
        have HZ1 := Lib.hid z1
        have HAI := Lib.hid hai
        have HDE := Lib.hid hdep
        have HIA := Lib.hid hIa
        clear htt hi hmt z1 z3 hai hdep hIa hT' fo hdf hd hIo
        go_wp2_with fail
        obtain ⟨wv, hwv⟩ : ∃ wv : World, wo.alloc (.cells #[.int .i64 t.hours, .int .i64 t.skill, .bool t.bay, .slice aa t.after.length ac] 41) = wv := ⟨_, rfl⟩
        have x0 : wv.cell? ⟨wo.heap.size, 0, none⟩ = some (.int .i64 t.hours) := by rw [← hwv]; simp [go_sem]
        have x3 : wv.cell? ⟨wo.heap.size, 3, none⟩ = some (.slice aa t.after.length ac) := by rw [← hwv]; simp [go_sem]
        have hbv : Below wo.heap.size wo wv := by rw [← hwv]; exact (by repeat (first | exact Below.refl _ _ | assumption | refine Below.drew ?_ | refine below_drewN ?_ _ | refine Below.alloc ?_ (by first | omega | (simp; done) | (simp; omega)) _ | refine Below.setCell ?_ (by first | omega | (simp; done) | (simp; omega)) _ | refine Below.trans ?_ (Below.mono (by assumption) (by first | omega | (simp; done) | (simp; omega)))))
        have hsv : wv.heap.size = wo.heap.size + 1 := by rw [← hwv]; simp
        have HWV := Lib.hid hwv
        have HDv := Lib.hid (HD.out.later hbv)
        have HIAv := Lib.hid (HIA.out.later hbv)
        have cov := cell_later hbv co
        clear co hwv
        go_loopg [10, 11] (t.after.length + 1) (fun k v10 v11 wr => ∃ q : Nat, q ≤ t.after.length ∧ k + q = t.after.length + 1 ∧ v11 = .int .i64 q ∧ v10 = .int .i64 (mx (hv l) (t.after.take q)) ∧ wv = wr)
        case atStart => exact ⟨0, by omega, by omega, rfl, by rw [mx_zero], HWV.out.symm⟩
        case round =>
          obtain ⟨q, hq, hkq, rfl, rfl, rfl⟩ := hrel
          by_cases hlq : q < t.after.length
          · obtain ⟨ab, aoff, rfl, fa⟩ := HIAv.out.fam (by omega)
            obtain ⟨g1, g2⟩ := HAI.out q hlq
            obtain ⟨m, hm⟩ : ∃ m : Nat, ig t.after q = (m : Int) := ⟨(ig t.after q).toNat, by omega⟩
            have hml : m < l.length := by omega
            have hcq : wv.cell? ⟨ab, aoff + q, none⟩ = some (.int .i64 (m : Int)) := by rw [fa q hlq, hm]
            have ce := HDv.out.cell (j := m) (by omega)
            rw [HDE.out q m hlq hm] at ce
            have hmq := mx_take (hv l) t.after hlq
            rw [hm, Int.toNat_natCast] at hmq
            have HMQ := Lib.hid hmq
            clear fa hm hmq
            go_wp2_with fail
            go_roundg (gk - 1)
            case measure => omega
            case rel => exact ⟨q + 1, by omega, by omega, by go_num, by rw [HMQ.out], rfl⟩
          · have he : mx (hv l) (t.after.take q) = mx (hv l) t.after := by rw [List.take_of_length_le (by omega)]
            rw [he]
            clear he
            generalize hxx : mx (hv l) t.after = x at *
            have HXX := Lib.hid hxx
            clear hxx
            have hfi := HDv.out.free i
            have ce := HDv.out.cell (j := i) (by omega)
            have hi0 : (0 : Int) ≤ (i : Int) := by omega
            have hi1 : (i : Int) < (l.length : Int) := by omega
            have hp0 : (0 : Int) ≤ (p : Int) := by omega
            have hp1 : (p : Int) < (l.length : Int) := by omega
            have hwr : IntKind.i64.wrap (x + t.hours) = x + t.hours := IntWalk.i64_in _ (by omega)
            go_wp2_with fail
            go_still_tail 10, (by kernel_rfl)
            change wpList _ _ _ _ _ wv.drew
            go_wp2
            go_roundg (ko - 1)
            case measure => omega
            case rel =>
              refine ⟨p + 1, en.set i (x + t.hours), by omega, by omega, by go_num, ?_, (by repeat (first | exact Below.refl _ _ | assumption | refine Below.drew ?_ | refine below_drewN ?_ _ | refine Below.alloc ?_ (by first | omega | (simp; done) | (simp; omega)) _ | refine Below.setCell ?_ (by first | omega | (simp; done) | (simp; omega)) _ | refine Below.trans ?_ (Below.mono (by assumption) (by first | omega | (simp; done) | (simp; omega))))), ?_, ?_, HZ1.out⟩
              · rw [HMT.out]
              · exact ((hbg.trans (hbv.mono (by omega))).setCell (by change g ≤ g; omega) _).drew
              · exact (HDv.out.set i (x + t.hours)).later (by repeat (first | exact Below.refl _ _ | assumption | refine Below.drew ?_ | refine below_drewN ?_ _ | refine Below.alloc ?_ (by first | omega | (simp; done) | (simp; omega)) _ | refine Below.setCell ?_ (by first | omega | (simp; done) | (simp; omega)) _ | refine Below.trans ?_ (Below.mono (by assumption) (by first | omega | (simp; done) | (simp; omega)))))
      · have he : mx (hv l) (o.take p) = critL l := by rw [E1.out, ← HC.out, List.take_of_length_le (by omega)]
        rw [he]
        have HEE := Lib.hid he
        clear he
        go_wp2_with fail
        go_ret2
        exact ⟨by rw [E2.out]; rfl, (by repeat (first | exact Below.refl _ _ | assumption | refine Below.drew ?_ | refine below_drewN ?_ _ | refine Below.alloc ?_ (by first | omega | (simp; done) | (simp; omega)) _ | refine Below.setCell ?_ (by first | omega | (simp; done) | (simp; omega)) _ | refine Below.trans ?_ (Below.mono (by assumption) (by first | omega | (simp; done) | (simp; omega)))))⟩
end Go.Proofs.Ytidbmllelnffdaa
