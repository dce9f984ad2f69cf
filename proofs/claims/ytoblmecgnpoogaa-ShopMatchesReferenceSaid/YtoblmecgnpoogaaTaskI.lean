
/- Contracts of package task: the search in Critical. -/
import Derived.Test.YtoblmecgnpoogaaTaskH
import Derived.StillTailTactics
import Derived.Deep.DeepMust
namespace Go.Proofs.Ytoblmecgnpoogaa
open Go.RowKit

/-- in the loop over what task i waits for, ahead of the q-th -/
def Lp (l : List Tk) (st en : List Int) (i q : Nat) (st1 en1 : List Int) : Prop :=
  MI l st1 en1 ∧ ig st1 i = 1 ∧ ig en1 i = mx (hv l) ((tg l i).after.take q) ∧ (∀ r, r < q → ig st1 (ig (tg l i).after r).toNat = 2) ∧
  (∀ j, ig st j ≠ 0 → ig st1 j = ig st j ∧ ig en1 j = ig en j) ∧ (∀ j, ig st1 j = 1 → ig st j = 1 ∨ j = i) ∧ st1.count 0 + 1 ≤ st.count 0 ∧ ig st i = 0
theorem Lp.start {l : List Tk} {st en : List Int} {i : Nat} (h : MI l st en) (hi : i < l.length) (h0 : ig st i = 0) : Lp l st en i 0 (st.set i 1) en := by
  obtain ⟨h1, h2⟩ := h.opened hi h0
  have hl := h.1
  refine ⟨h1, by rw [ig_set (by omega), if_pos rfl], ?_, fun r hr => absurd hr (by omega), fun j hj => ?_, fun j hj => ?_, by omega, h0⟩
  · obtain ⟨_, _, g⟩ := h.2.2 i hi
    rw [mx_zero]
    rcases g with g | g | g
    · exact g.2
    · omega
    · omega
  · rw [ig_set (by omega), if_neg (by intro e; subst e; exact hj h0)]
    exact ⟨rfl, rfl⟩
  · rw [ig_set (by omega)] at hj
    by_cases e : i = j
    · exact .inr e.symm
    · rw [if_neg e] at hj; exact .inl hj
theorem Lp.opens {l : List Tk} {st en st1 en1 : List Int} {i q k : Nat} (h : Lp l st en i q st1 en1) (ho : ∀ j, ig st j = 1 → Need l j i) (hq : q < (tg l i).after.length) (hk : ig (tg l i).after q = k) : ∀ j, ig st1 j = 1 → Need l j k := fun j hj => by
  have hd : Dep l i k := ⟨q, hq, by rw [hk]; rfl⟩
  rcases h.2.2.2.2.2.1 j hj with g | g
  · exact (ho j g).snoc hd
  · subst g; exact .one hd
theorem Lp.step {l : List Tk} {st en st1 en1 st2 en2 : List Int} {i q k : Nat} (h : Lp l st en i q st1 en1) (hi : i < l.length) (hk : k < l.length) (hq : q < (tg l i).after.length) (hka : ig (tg l i).after q = k)
    (h2 : MI l st2 en2) (h3 : Ext st1 en1 st2 en2) (h4 : ig st2 k = 2) : Lp l st en i (q + 1) st2 (en2.set i (max (ig en2 i) (ig en2 k))) := by
  obtain ⟨g1, g2, g3, g4, g5, g6, g7, g8⟩ := h
  obtain ⟨e1, e2, e3⟩ := h3
  have ei := e1 i (by omega)
  have hn2 : en2.length = l.length := h2.2.1
  have hki : i ≠ k := fun e => by subst e; omega
  refine ⟨h2.grow hi hk (by omega), by omega, ?_, fun r hr => ?_, fun j hj => ?_, fun j hj => g6 j (e2 j hj), by omega, g8⟩
  · rw [ig_set (by omega), if_pos rfl, mx_take _ _ hq, ← g3, hka, ei.2]
    obtain ⟨_, _, g⟩ := h2.2.2 k hk
    have : hv l (k : Int).toNat = ig en2 k := by
      rcases g with g | g | g
      · omega
      · omega
      · exact hv_eq g.2
    rw [this]
  · by_cases hlt : r < q
    · have := g4 r hlt
      rw [(e1 _ (by omega)).1, this]
    · have : r = q := by omega
      subst this
      rw [hka]
      exact h4
  · obtain ⟨f1, f2⟩ := g5 j hj
    obtain ⟨f3, f4⟩ := e1 j (by rw [f1]; exact hj)
    rw [ig_set (by omega)]
    by_cases e : i = j
    · subst e
      exact absurd g8 hj
    · rw [if_neg e]
      exact ⟨f3.trans f1, f4.trans f2⟩
theorem Lp.finish {l : List Tk} (hv' : VT l) {st en st1 en1 : List Int} {i : Nat} (h : Lp l st en i (tg l i).after.length st1 en1) (hi : i < l.length) :
    MI l (st1.set i 2) (en1.set i (ig en1 i + (tg l i).hours)) ∧ Ext st en (st1.set i 2) (en1.set i (ig en1 i + (tg l i).hours)) ∧ ig (st1.set i 2) i = 2 := by
  obtain ⟨g1, g2, g3, g4, g5, g6, g7, g8⟩ := h
  have hl1 := g1.1
  have hl2 := g1.2.1
  have c0 := count_put (st := st1) (i := i) (y := 2) (by omega) g2 0
  simp at c0
  refine ⟨g1.closed hv' hi g2 g4 (by rw [g3, List.take_length]), ⟨fun j hj => ?_, fun j hj => ?_, by omega⟩, by rw [ig_set (by omega), if_pos rfl]⟩
  · have e : i ≠ j := fun e => by subst e; exact hj g8
    rw [ig_set (by omega), ig_set (by omega), if_neg e, if_neg e]
    exact g5 j hj
  · rw [ig_set (by omega)] at hj
    by_cases e : i = j
    · rw [if_pos e] at hj; omega
    · rw [if_neg e] at hj
      rcases g6 j hj with g | g
      · exact g
      · omega
theorem MI.bound {l : List Tk} {st en : List Int} (h : MI l st en) {i : Nat} (hi : i < l.length) : 0 ≤ ig en i ∧ ig en i ≤ 1000 * l.length := by
  obtain ⟨h1, h2, _⟩ := h.2.2 i hi
  have := List.count_le_length (a := (2 : Int)) (l := st)
  have := h.1
  omega

/-- what the search finds in memory: the boxes of its variables, and the rows of states and hours -/
def CM (w0 w : World) (l : List Tk) (a : Option Addr) (cap bl gs bs ge bn be : Nat) (st en : List Int) : Prop :=
  Below w0.heap.size w0 w ∧ (w0.heap.size ≤ bl ∧ bl < gs ∧ gs < bs ∧ bs < ge ∧ ge < bn ∧ bn < be ∧ be < w.heap.size) ∧
  w.cell? ⟨bl, 0, none⟩ = some (.slice a l.length cap) ∧ w.cell? ⟨bs, 0, none⟩ = some (.slice (some ⟨gs, 0, none⟩) l.length l.length) ∧ w.cell? ⟨bn, 0, none⟩ = some (.slice (some ⟨ge, 0, none⟩) l.length l.length) ∧
  w.cell? ⟨be, 0, none⟩ = some (.func (.func 41) #[] #[.pointer (some ⟨bs, 0, none⟩), .pointer (some ⟨bl, 0, none⟩), .pointer (some ⟨be, 0, none⟩), .pointer (some ⟨bn, 0, none⟩)]) ∧
  OwnN w w0.heap.size gs st ∧ OwnN w w0.heap.size ge en
theorem CM.later {w0 w w1 : World} {l : List Tk} {a : Option Addr} {cap bl gs bs ge bn be : Nat} {st en : List Int} (h : CM w0 w l a cap bl gs bs ge bn be st en) (hb : Below w.heap.size w w1) : CM w0 w1 l a cap bl gs bs ge bn be st en := by
  obtain ⟨h1, h2, c1, c2, c3, c4, o1, o2⟩ := h
  have := hb.size
  have := h1.size
  exact ⟨h1.trans (hb.mono (by omega)), by omega, cell_later hb c1, cell_later hb c2, cell_later hb c3, cell_later hb c4, o1.later hb, o2.later hb⟩
theorem CM.setSt {w0 w : World} {l : List Tk} {a : Option Addr} {cap bl gs bs ge bn be : Nat} {st en : List Int} (h : CM w0 w l a cap bl gs bs ge bn be st en) (j : Nat) (x : Int) : CM w0 (w.setCell ⟨gs, j, none⟩ (.int .i64 x)) l a cap bl gs bs ge bn be (st.set j x) en := by
  obtain ⟨h1, h2, c1, c2, c3, c4, o1, o2⟩ := h
  have ne : ∀ {b : Nat} {v : Value}, gs ≠ b → w.cell? ⟨b, 0, none⟩ = some v → (w.setCell ⟨gs, j, none⟩ (.int .i64 x)).cell? ⟨b, 0, none⟩ = some v := fun hb hc => by
    simp [go_sem, hc]
  exact ⟨Below.setCell h1 (by change w0.heap.size ≤ gs; omega) _, by simpa using h2, ne (by omega) c1, ne (by omega) c2, ne (by omega) c3, ne (by omega) c4, o1.set j x, o2.setOther (by omega) j _⟩
theorem CM.setEn {w0 w : World} {l : List Tk} {a : Option Addr} {cap bl gs bs ge bn be : Nat} {st en : List Int} (h : CM w0 w l a cap bl gs bs ge bn be st en) (j : Nat) (x : Int) : CM w0 (w.setCell ⟨ge, j, none⟩ (.int .i64 x)) l a cap bl gs bs ge bn be st (en.set j x) := by
  obtain ⟨h1, h2, c1, c2, c3, c4, o1, o2⟩ := h
  have ne : ∀ {b : Nat} {v : Value}, ge ≠ b → w.cell? ⟨b, 0, none⟩ = some v → (w.setCell ⟨ge, j, none⟩ (.int .i64 x)).cell? ⟨b, 0, none⟩ = some v := fun hb hc => by
    simp [go_sem, hc]
  exact ⟨Below.setCell h1 (by change w0.heap.size ≤ ge; omega) _, by simpa using h2, ne (by omega) c1, ne (by omega) c2, ne (by omega) c3, ne (by omega) c4, o1.setOther (by omega) j _, o2.set j x⟩
def RetC (w0 : World) (l : List Tk) (a : Option Addr) (cap bl gs bs ge bn be : Nat) (st en : List Int) (i : Nat) (e : Ending) (w' : World) : Prop :=
  ∃ (r : Bool) (st' en' : List Int), e = .returned (.bool r) ∧ CM w0 w' l a cap bl gs bs ge bn be st' en' ∧ (r = true → MI l st' en' ∧ Ext st en st' en' ∧ ig st' i = 2) ∧ (r = false → ∃ j, Need l j j)

set_option maxHeartbeats 1000000 in
theorem crit1_old (w0 : World) (l : List Tk) (a : Option Addr) (cap bl gs bs ge bn be : Nat) (st en : List Int) (i : Nat) (w : World) (hCM : CM w0 w l a cap bl gs bs ge bn be st en) (hMI : MI l st en) (_h40 : l.length ≤ 40) (hi : i < l.length) (ho : ∀ j, ig st j = 1 → Need l j i) (hz : ig st i ≠ 0) :
    Calls Try.prog 41 #[.int .i64 i, .pointer (some ⟨bs, 0, none⟩), .pointer (some ⟨bl, 0, none⟩), .pointer (some ⟨be, 0, none⟩), .pointer (some ⟨bn, 0, none⟩)] w (RetC w0 l a cap bl gs bs ge bn be st en i) := by
  have HC := Lib.hid hCM
  have HM := Lib.hid hMI
  have HO := Lib.hid (ho i)
  have hsl := hMI.1
  obtain ⟨_, _, hst⟩ := hMI.2.2 i hi
  have hcase : ig st i = 1 ∨ ig st i = 2 := by
    rcases hst with g | g | g
    · exact absurd g.1 hz
    · exact .inl g
    · exact .inr g.1
  clear hMI ho hst hz
  obtain ⟨k1, k2, c1, c2, c3, c4, o1, o2⟩ := hCM
  have cs := o1.cell (j := i) (by omega)
  rcases hcase with h | h
  · have hn := HO.out h
    rw [h] at cs
    clear h
    go_enter Try.func41, Try.ntmps41
    go_wp2
    go_ret
    exact ⟨false, st, en, rfl, HC.out.later (by repeat (first | exact Below.refl _ _ | assumption | refine Below.drew ?_ | refine below_drewN ?_ _ | refine Below.alloc ?_ (by first | omega | (simp; done) | (simp; omega)) _ | refine Below.setCell ?_ (by first | omega | (simp; done) | (simp; omega)) _ | refine Below.trans ?_ (Below.mono (by assumption) (by first | omega | (simp; done) | (simp; omega))))), fun h => by (cases h), fun _ => ⟨i, hn⟩⟩
  · have H2 := Lib.hid h
    rw [h] at cs
    clear h
    go_enter Try.func41, Try.ntmps41
    go_wp2
    go_ret
    exact ⟨true, st, en, rfl, HC.out.later (by repeat (first | exact Below.refl _ _ | assumption | refine Below.drew ?_ | refine below_drewN ?_ _ | refine Below.alloc ?_ (by first | omega | (simp; done) | (simp; omega)) _ | refine Below.setCell ?_ (by first | omega | (simp; done) | (simp; omega)) _ | refine Below.trans ?_ (Below.mono (by assumption) (by first | omega | (simp; done) | (simp; omega))))), fun _ => ⟨HM.out, Ext.refl _ _, H2.out⟩, fun h => by (cases h)⟩

set_option maxHeartbeats 4000000 in
theorem crit1_any (w0 : World) (l : List Tk) (a : Option Addr) (cap bl gs bs ge bn be : Nat) (hT : Tasks w0 a l) (hv' : VT l) : ∀ (n : Nat) (st en : List Int) (i : Nat) (w : World), CM w0 w l a cap bl gs bs ge bn be st en → MI l st en → st.count 0 ≤ n → i < l.length → (∀ j, ig st j = 1 → Need l j i) →
    Calls Try.prog 41 #[.int .i64 i, .pointer (some ⟨bs, 0, none⟩), .pointer (some ⟨bl, 0, none⟩), .pointer (some ⟨be, 0, none⟩), .pointer (some ⟨bn, 0, none⟩)] w (RetC w0 l a cap bl gs bs ge bn be st en i) := by
  intro n
  induction n with
  | zero =>
    intro st en i w hCM hMI hn hi ho
    refine crit1_old w0 l a cap bl gs bs ge bn be st en i w hCM hMI hv'.1 hi ho fun e => ?_
    have hlt : i < st.length := by have := hMI.1; omega
    have : 0 < st.count 0 := List.count_pos_iff.2 (by rw [← e]; exact ig_mem hlt)
    omega
  | succ n ih =>
  intro st en i w hCM hMI hn hi ho
  by_cases hz : ig st i = 0
  case neg => exact crit1_old w0 l a cap bl gs bs ge bn be st en i w hCM hMI hv'.1 hi ho hz
  have HV' := Lib.hid hv'
  have HC := Lib.hid hCM
  have HM := Lib.hid hMI
  have HO := Lib.hid ho
  have HIH := Lib.hid ih
  have h40 := hv'.1
  have hsl := hMI.1
  have hel := hMI.2.1
  clear hv' hMI ho ih
  obtain ⟨k1, k2, c1, c2, c3, c4, o1, o2⟩ := hCM
  have cs := o1.cell (j := i) (by omega)
  have fs := o1.free i
  rw [hz] at cs
  obtain ⟨b, off, aa, ac, rfl, t0, t1, t2, t3, hI⟩ := hT i hi
  have t3' := cell_later k1 t3
  have hai := fun r (hr : r < (tg l i).after.length) => good_in ((HV'.out.2 i hi).2.2.2.2) hr
  have hal := after_len HV'.out hi
  have HAI := Lib.hid hai
  clear hai
  go_enter Try.func41, Try.ntmps41
  go_wp2_with fail
  go_loopg [28] ((tg l i).after.length + 1) (fun k v28 wr => ∃ (q : Nat) (st1 en1 : List Int), q ≤ (tg l i).after.length ∧ k + q = (tg l i).after.length + 1 ∧ v28 = .int .i64 q ∧ CM w0 wr l (some ⟨b, off, none⟩) cap bl gs bs ge bn be st1 en1 ∧ Lp l st en i q st1 en1)
  case atStart => exact ⟨0, st.set i 1, en, by omega, by omega, rfl, HC.out.setSt i 1, Lp.start HM.out hi hz⟩
  case round =>
    obtain ⟨wo, rfl⟩ : ∃ wo : World, wo = wr := ⟨_, rfl⟩
    obtain ⟨q, st1, en1, hq, hk, rfl, hC, hL⟩ := hrel
    have HC1 := Lib.hid hC
    have HL := Lib.hid hL
    have hb0 := hC.1
    clear hC hL c1 c2 c3 c4 o1 o2 cs fs HC HM t3'
    obtain ⟨j1, j2, d1, d2, d3, d4, o1, o2⟩ := HC1.out
    have hsl1 := HL.out.1.1
    have hel1 := HL.out.1.2.1
    have hz1 := HL.out.2.1
    by_cases hlt : q < (tg l i).after.length
    · obtain ⟨ab, aoff, rfl, fa⟩ := (hI.later j1).fam (by omega)
      obtain ⟨g1, g2⟩ := HAI.out q hlt
      obtain ⟨m, hm⟩ : ∃ m : Nat, ig (tg l i).after q = (m : Int) := ⟨(ig (tg l i).after q).toNat, by omega⟩
      have hml : m < l.length := by omega
      have hcq : wo.cell? ⟨ab, aoff + q, none⟩ = some (.int .i64 (m : Int)) := by rw [fa q hlt, hm]
      clear fa
      have HMM := Lib.hid hm
      have hcnt : st1.count 0 ≤ n := by have := HL.out.2.2.2.2.2.2.1; omega
      clear hm
      go_wp2_with fail
      refine Calls.mono (HIH.out st1 en1 m _ (HC1.out.later (by repeat (first | exact Below.refl _ _ | assumption | refine Below.drew ?_ | refine below_drewN ?_ _ | refine Below.alloc ?_ (by first | omega | (simp; done) | (simp; omega)) _ | refine Below.setCell ?_ (by first | omega | (simp; done) | (simp; omega)) _ | refine Below.trans ?_ (Below.mono (by assumption) (by first | omega | (simp; done) | (simp; omega)))))) HL.out.1 hcnt hml (HL.out.opens HO.out hlt HMM.out)) ?_
      rintro e w1 ⟨r, st2, en2, rfl, hC2, hyes, hno⟩
      have HC2 := Lib.hid hC2
      have HY := Lib.hid hyes
      have HNo := Lib.hid hno
      clear hC2 hyes hno d1 d2 d3 d4 o1 o2 hcq
      obtain ⟨j1', j2', d1, d2, d3, d4, o1, o2⟩ := HC2.out
      cases r
      · go_wp2_with fail
        go_ret
        exact ⟨false, st2, en2, rfl, HC2.out.later (by repeat (first | exact Below.refl _ _ | assumption | refine Below.drew ?_ | refine below_drewN ?_ _ | refine Below.alloc ?_ (by first | omega | (simp; done) | (simp; omega)) _ | refine Below.setCell ?_ (by first | omega | (simp; done) | (simp; omega)) _ | refine Below.trans ?_ (Below.mono (by assumption) (by first | omega | (simp; done) | (simp; omega))))), fun h => by (cases h), fun _ => by simpa using HNo.out⟩
      · obtain ⟨y1, y2, y3⟩ := HY.out rfl
        have hel2 := y1.2.1
        have fi := o2.cell (j := i) (by omega)
        have fm := o2.cell (j := m) (by omega)
        have ff := o2.free i
        have hm0 : (0 : Int) ≤ (m : Int) := by omega
        have hm1 : (m : Int) < (l.length : Int) := by omega
        have hi0 : (0 : Int) ≤ (i : Int) := by omega
        have hi1 : (i : Int) < (l.length : Int) := by omega
        go_wp2_with fail
        go_still_tail 12, (by kernel_rfl)
        change wpList _ _ _ _ _ w1.drew
        go_wp2
        go_roundg (gk - 1)
        case measure => omega
        case rel => exact ⟨q + 1, st2, en2.set i (max (ig en2 i) (ig en2 m)), by omega, by omega, by go_num, (HC2.out.setEn i _).later (by repeat (first | exact Below.refl _ _ | assumption | refine Below.drew ?_ | refine below_drewN ?_ _ | refine Below.alloc ?_ (by first | omega | (simp; done) | (simp; omega)) _ | refine Below.setCell ?_ (by first | omega | (simp; done) | (simp; omega)) _ | refine Below.trans ?_ (Below.mono (by assumption) (by first | omega | (simp; done) | (simp; omega))))), HL.out.step hi hml hlt HMM.out y1 y2 y3⟩
    · have hqe : q = (tg l i).after.length := by omega
      subst hqe
      obtain ⟨z1, z2, z3⟩ := HL.out.finish HV'.out hi
      obtain ⟨w2, w3⟩ := HL.out.1.bound hi
      obtain ⟨v1, v2, _⟩ := HV'.out.2 i hi
      have hi0 : (0 : Int) ≤ (i : Int) := by omega
      have hi1 : (i : Int) < (l.length : Int) := by omega
      have cs := o1.cell (j := i) (by omega)
      have fs := o1.free i
      have ce := o2.cell (j := i) (by omega)
      have fe := o2.free i
      rw [hz1] at cs
      have t0' := cell_later j1 t0
      have hwr : IntKind.i64.wrap (ig en1 i + (tg l i).hours) = ig en1 i + (tg l i).hours := IntWalk.i64_in _ (by omega)
      go_wp2_with fail
      go_still_tail 11, (by kernel_rfl)
      change wpList _ _ _ _ _ wo.drew
      go_wp2
      go_ret
      exact ⟨true, _, _, rfl, ((HC1.out.setEn i _).setSt i 2).later (by repeat (first | exact Below.refl _ _ | assumption | refine Below.drew ?_ | refine below_drewN ?_ _ | refine Below.alloc ?_ (by first | omega | (simp; done) | (simp; omega)) _ | refine Below.setCell ?_ (by first | omega | (simp; done) | (simp; omega)) _ | refine Below.trans ?_ (Below.mono (by assumption) (by first | omega | (simp; done) | (simp; omega))))), fun _ => ⟨z1, z2, z3⟩, fun h => by (cases h)⟩
end Go.Proofs.Ytoblmecgnpoogaa

