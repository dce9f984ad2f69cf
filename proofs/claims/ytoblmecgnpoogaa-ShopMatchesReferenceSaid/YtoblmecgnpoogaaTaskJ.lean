
/- Contracts of package task: Critical. -/
import Derived.Test.YtoblmecgnpoogaaTaskI
import Derived.Test.YtoblmecgnpoogaaTaskG
import Derived.Laws.EntriesVeiled
namespace Go.Proofs.Ytoblmecgnpoogaa
open Go.RowKit

/-- returned a number and an error number -/
def RetNE (x n : Int) (w : World) (e : Ending) (w' : World) : Prop := e = .returned (.tuple #[.int .i64 x, .int .i64 n]) ∧ Below w.heap.size w w'
noncomputable def critL (l : List Tk) : Int := if (orderOf l).length < l.length then 0 else crit l

theorem order_le {l : List Tk} (hv' : VT l) : (orderOf l).length ≤ l.length := by
  obtain ⟨d, hd, ⟨h1, h2, h3, h4, h5⟩, hn⟩ := order_built hv'
  have hsub : ∀ x ∈ orderOf l, x ∈ (List.range l.length).map (fun n : Nat => (n : Int)) := fun x hx => by
    obtain ⟨r, hr, rfl⟩ := List.getElem_of_mem hx
    obtain ⟨i, hi, hil, _⟩ := h2 r hr
    rw [ig_lt hr] at hi
    rw [hi]
    exact List.mem_map.2 ⟨i, by simpa using hil, rfl⟩
  have := nodup_le h5 hsub
  simpa using this
theorem Dep.lt {l : List Tk} {i k : Nat} (h : Dep l i k) : i < l.length := by
  obtain ⟨r, hr, _⟩ := h
  refine Classical.byContradiction fun hn => ?_
  have : tg l i = ⟨0, 0, false, []⟩ := by simp [tg, List.getD, show l.length ≤ i by omega]
  rw [this] at hr
  simp at hr
theorem Need.lt {l : List Tk} {i k : Nat} (h : Need l i k) : i < l.length := by
  cases h with
  | one h => exact h.lt
  | more h _ => exact h.lt
theorem order_cycle {l : List Tk} (hv' : VT l) (h : ∃ j, Need l j j) : (orderOf l).length < l.length := by
  obtain ⟨j, hj⟩ := h
  refine Classical.byContradiction fun hn => ?_
  obtain ⟨x, hx⟩ := (order_full hv').1 (by have := order_le hv'; omega) j hj.lt
  exact hx.irrefl hj
theorem critL_cycle {l : List Tk} (hv' : VT l) (h : ∃ j, Need l j j) : critL l = 0 ∧ ordE l = 24 := by
  unfold critL ordE
  rw [if_pos (order_cycle hv' h), if_pos (order_cycle hv' h)]
  exact ⟨rfl, rfl⟩
theorem critL_end {l : List Tk} (hv' : VT l) {st en : List Int} (h : MI l st en) (h2 : ∀ j, j < l.length → ig st j = 2) : critL l = most en ∧ ordE l = 0 := by
  have hH : ∀ i, i < l.length → HV l i (ig en i) := fun i hi => by
    obtain ⟨_, _, g⟩ := h.2.2 i hi
    have := h2 i hi
    rcases g with g | g | g
    · omega
    · omega
    · exact g.2
  have hn : ¬ (orderOf l).length < l.length := by
    have := (order_full hv').2 fun i hi => ⟨_, hH i hi⟩
    omega
  unfold critL ordE
  rw [if_neg hn, if_neg hn, crit_eq h.2.1 hH]
  exact ⟨rfl, rfl⟩
theorem most_zero (en : List Int) : most (en ++ [0]) = most en := by
  unfold most
  rw [List.foldl_append]
  have : ∀ (l : List Int) (m : Int), 0 ≤ m → 0 ≤ l.foldl max m := by
    intro l
    induction l with
    | nil => exact fun _ h => h
    | cons x l ih => exact fun m h => ih _ (by omega)
  have := this en 0 (by omega)
  change max (en.foldl max 0) 0 = _
  omega
theorem smax_at (l : List Int) (n : Nat) (a : Option Addr) (cap : Nat) (w : World) (hL : Ints w a l) (hl : 0 < l.length) (hl2 : l.length ≤ 1000) (h0 : 0 ≤ ig l 0) (hn : l.length = n) :
    Calls Try.prog 42 #[.slice a n cap] w (RetS (.int .i64 (most l)) w) := by
  subst hn
  exact smax_any l a cap w hL hl hl2 h0
set_option maxHeartbeats 4000000 in
theorem critical_yes (l : List Tk) (a : Option Addr) (cap : Nat) (w : World) (hT : Tasks w a l) (hl : l.length < 9223372036854775808) (hS : l.length ≤ 40 → ∀ i, i < l.length → (tg l i).after.length < 9223372036854775808) (hv' : VT l) :
    Calls Try.prog 21 #[.slice a l.length cap] w (RetNE (critL l) (ordE l) w) := by
  have HV' := Lib.hid hv'
  have HS := Lib.hid hS
  have h40 := hv'.1
  clear hv' hS
  go_enter Try.func21, Try.ntmps21
  go_wp2_with fail
  refine Calls.mono (valid_any l a cap true _ (hT.later (by repeat (first | exact Below.refl _ _ | assumption | refine Below.drew ?_ | refine below_drewN ?_ _ | refine Below.alloc ?_ (by first | omega | (simp; done) | (simp; omega)) _ | refine Below.setCell ?_ (by first | omega | (simp; done) | (simp; omega)) _ | refine Below.trans ?_ (Below.mono (by assumption) (by first | omega | (simp; done) | (simp; omega)))))) hl HS.out (by simp [HV'.out])) ?_
  rintro e w1 ⟨rfl, hb1⟩; have hs1 := hb1.size; (try simp at hs1)
  have cl : w1.cell? ⟨w.heap.size, 0, none⟩ = some (.slice a l.length cap) := cell_later hb1 (by first | assumption | (simp [go_sem, *]; done) | exact cell_later' (by assumption) (by repeat (first | exact Below.refl _ _ | assumption | refine Below.drew ?_ | refine below_drewN ?_ _ | refine Below.alloc ?_ (by first | omega | (simp; done) | (simp; omega)) _ | refine Below.setCell ?_ (by first | omega | (simp; done) | (simp; omega)) _ | refine Below.trans ?_ (Below.mono (by assumption) (by first | omega | (simp; done) | (simp; omega))))))
  go_wp2_with (first | (refine make_int _ rfl _ _ rfl .i64 .i64 l.length rfl rfl (by omega) ?_; intro w2 ho2 hb2 hsz2; have hs2 := hb2.size; have cl2 := cell_later hb2 cl; have hlt2 : w.heap.size < w2.heap.size := by omega) | (at_make; go_must (refine make_int _ rfl _ _ rfl .i64 .i64 l.length rfl rfl (by omega) ?_); go_must (intro w3 ho3 hb3 hsz3); go_must (have hs3 := hb3.size); go_must (simp at hs3 hsz3); go_must (have cl3 := cell_later hb3 (cell_later' cl2 (by repeat (first | exact Below.refl _ _ | assumption | refine Below.drew ?_ | refine below_drewN ?_ _ | refine Below.alloc ?_ (by first | omega | (simp; done) | (simp; omega)) _ | refine Below.setCell ?_ (by first | omega | (simp; done) | (simp; omega)) _ | refine Below.trans ?_ (Below.mono (by assumption) (by first | omega | (simp; done) | (simp; omega))))))); go_must (have cs3 : w3.cell? ⟨w2.heap.size, 0, none⟩ = some (.slice (some ⟨w1.heap.size, 0, none⟩) l.length l.length) := cell_later hb3 (by simp [go_sem])); go_must (have hlt3 : w.heap.size < w3.heap.size := by omega); go_must (have hlt4 : w2.heap.size < w3.heap.size := by omega)))
  have ho2' : OwnN w3 w.heap.size w1.heap.size (List.replicate l.length 0) := ((ho2.later (w1 := w2.alloc (.cells #[.slice (some ⟨w1.heap.size, 0, none⟩) l.length l.length] 23)) (by repeat (first | exact Below.refl _ _ | assumption | refine Below.drew ?_ | refine below_drewN ?_ _ | refine Below.alloc ?_ (by first | omega | (simp; done) | (simp; omega)) _ | refine Below.setCell ?_ (by first | omega | (simp; done) | (simp; omega)) _ | refine Below.trans ?_ (Below.mono (by assumption) (by first | omega | (simp; done) | (simp; omega)))))).later hb3).mono (by omega)
  have ho3' := ho3.mono (B' := w.heap.size) (by simp; omega)
  go_loopg [20] (l.length + 1) (fun k v20 wr => ∃ (q : Nat) (st en : List Int), q ≤ l.length ∧ k + q = l.length + 1 ∧ v20 = .int .i64 q ∧ CM w wr l a cap w.heap.size w1.heap.size w2.heap.size (w2.heap.size + 1) w3.heap.size (w3.heap.size + 1) st en ∧ MI l st en ∧ (∀ j, ig st j ≠ 1) ∧ ∀ j, j < q → ig st j = 2)
  case atStart =>
    refine ⟨0, _, _, by omega, by omega, rfl, ⟨(by repeat (first | exact Below.refl _ _ | assumption | refine Below.drew ?_ | refine below_drewN ?_ _ | refine Below.alloc ?_ (by first | omega | (simp; done) | (simp; omega)) _ | refine Below.setCell ?_ (by first | omega | (simp; done) | (simp; omega)) _ | refine Below.trans ?_ (Below.mono (by assumption) (by first | omega | (simp; done) | (simp; omega))))), ⟨by omega, by omega, by omega, by omega, by omega, by omega, by simp⟩, ?_, ?_, ?_, ?_, ho2'.later (by repeat (first | exact Below.refl _ _ | assumption | refine Below.drew ?_ | refine below_drewN ?_ _ | refine Below.alloc ?_ (by first | omega | (simp; done) | (simp; omega)) _ | refine Below.setCell ?_ (by first | omega | (simp; done) | (simp; omega)) _ | refine Below.trans ?_ (Below.mono (by assumption) (by first | omega | (simp; done) | (simp; omega))))), by simpa using ho3'.later (by repeat (first | exact Below.refl _ _ | assumption | refine Below.drew ?_ | refine below_drewN ?_ _ | refine Below.alloc ?_ (by first | omega | (simp; done) | (simp; omega)) _ | refine Below.setCell ?_ (by first | omega | (simp; done) | (simp; omega)) _ | refine Below.trans ?_ (Below.mono (by assumption) (by first | omega | (simp; done) | (simp; omega)))))⟩, MI.start l, fun j => ?_, fun j hj => absurd hj (by omega)⟩
    · exact cell_later' cl3 (by repeat (first | exact Below.refl _ _ | assumption | refine Below.drew ?_ | refine below_drewN ?_ _ | refine Below.alloc ?_ (by first | omega | (simp; done) | (simp; omega)) _ | refine Below.setCell ?_ (by first | omega | (simp; done) | (simp; omega)) _ | refine Below.trans ?_ (Below.mono (by assumption) (by first | omega | (simp; done) | (simp; omega)))))
    · exact cell_later' cs3 (by repeat (first | exact Below.refl _ _ | assumption | refine Below.drew ?_ | refine below_drewN ?_ _ | refine Below.alloc ?_ (by first | omega | (simp; done) | (simp; omega)) _ | refine Below.setCell ?_ (by first | omega | (simp; done) | (simp; omega)) _ | refine Below.trans ?_ (Below.mono (by assumption) (by first | omega | (simp; done) | (simp; omega)))))
    · simp [go_sem]
    · simp [go_sem]
    · by_cases hj : j < l.length
      · rw [ig_lt (by simpa using hj)]; simp
      · simp [ig, List.getD, show l.length ≤ j by omega]
  case round =>
    obtain ⟨wo, rfl⟩ : ∃ wo : World, wo = wr := ⟨_, rfl⟩
    obtain ⟨q, st, en, hq, hk, rfl, hC, hM, hno, hall⟩ := hrel
    have HC := Lib.hid hC
    have HM := Lib.hid hM
    have HN := Lib.hid hno
    have HA := Lib.hid hall
    have hst := hM.1
    have hel := hM.2.1
    clear hC hM hno hall cl cl2 cl3 cs3 ho2 ho3 ho2' ho3'
    obtain ⟨j1, j2, d1, d2, d3, d4, o1, o2⟩ := HC.out
    have hszo := j1.size
    by_cases hlt : q < l.length
    · go_wp2_with fail
      refine Calls.mono (crit1_any w l a cap _ _ _ _ _ _ hT HV'.out (st.count 0) st en q _ (HC.out.later (by repeat (first | exact Below.refl _ _ | assumption | refine Below.drew ?_ | refine below_drewN ?_ _ | refine Below.alloc ?_ (by first | omega | (simp; done) | (simp; omega)) _ | refine Below.setCell ?_ (by first | omega | (simp; done) | (simp; omega)) _ | refine Below.trans ?_ (Below.mono (by assumption) (by first | omega | (simp; done) | (simp; omega)))))) HM.out (Nat.le_refl _) hlt (fun j hj => absurd hj (HN.out j))) ?_
      rintro e w4 ⟨r, st2, en2, rfl, hC2, hyes, hcy⟩
      have HC2 := Lib.hid hC2
      have hbz := hC2.1
      clear hC2 d1 d2 d3 d4 o1 o2
      cases r
      · obtain ⟨e1, e2⟩ := critL_cycle HV'.out (hcy rfl)
        have E1 := Lib.hid e1
        have E2 := Lib.hid e2
        clear hyes hcy e1 e2
        go_wp2_with fail
        go_ret2
        exact ⟨by rw [E1.out, E2.out]; rfl, (by repeat (first | exact Below.refl _ _ | assumption | refine Below.drew ?_ | refine below_drewN ?_ _ | refine Below.alloc ?_ (by first | omega | (simp; done) | (simp; omega)) _ | refine Below.setCell ?_ (by first | omega | (simp; done) | (simp; omega)) _ | refine Below.trans ?_ (Below.mono (by assumption) (by first | omega | (simp; done) | (simp; omega)))))⟩
      · have HY := Lib.hid (hyes rfl)
        clear hyes hcy
        go_wp2_with fail
        go_roundg (gk - 1)
        case measure => omega
        case rel => exact ⟨q + 1, st2, en2, by omega, by omega, by go_num, HC2.out.later (by repeat (first | exact Below.refl _ _ | assumption | refine Below.drew ?_ | refine below_drewN ?_ _ | refine Below.alloc ?_ (by first | omega | (simp; done) | (simp; omega)) _ | refine Below.setCell ?_ (by first | omega | (simp; done) | (simp; omega)) _ | refine Below.trans ?_ (Below.mono (by assumption) (by first | omega | (simp; done) | (simp; omega))))), HY.out.1, fun j hj => HN.out j (HY.out.2.1.2.1 j hj), fun j hj => by
          rcases Nat.lt_succ_iff_lt_or_eq.1 hj with h | h
          · have h1 := HA.out j h
            rw [(HY.out.2.1.1 j (by omega)).1, h1]
          · subst h; exact HY.out.2.2⟩
    · obtain ⟨e1, e2⟩ := critL_end HV'.out HM.out (fun j hj => HA.out j (by omega))
      have E1 := Lib.hid e1
      have E2 := Lib.hid e2
      have hz : 0 ≤ ig (en ++ [0]) 0 := by
        rw [ig_snoc]
        by_cases h : 0 < en.length
        · rw [if_pos h]; exact (HM.out.bound (by omega)).1
        · rw [if_neg h]; split <;> omega
      have HZ := Lib.hid hz
      clear e1 e2 hz
      have ho : OwnI wo w.heap.size (.slice (some ⟨w2.heap.size + 1, 0, none⟩) l.length l.length) en := by have := o2; unfold OwnN at this; rw [hel] at this; unfold OwnI; rw [hel]; exact this
      go_wp2_with (at_builtin; go_must (refine append_int _ rfl _ _ rfl w.heap.size (.slice (some ⟨w2.heap.size + 1, 0, none⟩) l.length l.length) en 0 rfl ?_ _ _ rfl ?_ (by omega) ?_ ?_); go_must (exact ho.later (by repeat (first | exact Below.refl _ _ | assumption | refine Below.drew ?_ | refine below_drewN ?_ _ | refine Below.alloc ?_ (by first | omega | (simp; done) | (simp; omega)) _ | refine Below.setCell ?_ (by first | omega | (simp; done) | (simp; omega)) _ | refine Below.trans ?_ (Below.mono (by assumption) (by first | omega | (simp; done) | (simp; omega)))))); go_must (simp [go_sem]); go_must (simp; omega); intro v4 w4 ho4 hg4; obtain ⟨a4, c4, rfl, hI4, _⟩ := ho4.ints)
      refine Calls.mono (smax_at (en ++ [0]) _ a4 c4 _ (hI4.later (by repeat (first | exact Below.refl _ _ | assumption | refine Below.drew ?_ | refine below_drewN ?_ _ | refine Below.alloc ?_ (by first | omega | (simp; done) | (simp; omega)) _ | refine Below.setCell ?_ (by first | omega | (simp; done) | (simp; omega)) _ | refine Below.trans ?_ (Below.mono (by assumption) (by first | omega | (simp; done) | (simp; omega)))))) (by simp) (by simp; omega) HZ.out (by simp [hel])) ?_
      rintro e w5 ⟨rfl, rfl⟩
      have hbz : Below w.heap.size w w4 := (Below.alloc j1 (by omega) _).grown hg4 (by simp; omega) (fun k hk => by simp [Value.ownBlock] at hk; omega)
      go_wp2_with fail
      go_ret2
      exact ⟨by rw [E1.out, E2.out, ← most_zero en]; rfl, (by repeat (first | exact Below.refl _ _ | assumption | refine Below.drew ?_ | refine below_drewN ?_ _ | refine Below.alloc ?_ (by first | omega | (simp; done) | (simp; omega)) _ | refine Below.setCell ?_ (by first | omega | (simp; done) | (simp; omega)) _ | refine Below.trans ?_ (Below.mono (by assumption) (by first | omega | (simp; done) | (simp; omega)))))⟩
end Go.Proofs.Ytoblmecgnpoogaa

