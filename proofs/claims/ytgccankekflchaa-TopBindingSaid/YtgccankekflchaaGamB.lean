

/- Package game: after. -/
import Derived.Test.YtgccankekflchaaGamP
import Derived.Deep.MidRow
namespace Go.Proofs.Ytgccankekflchaa
open Go.RowKit

theorem results_cell {P : Program} {fn : Func} {a : Nat} {t : TypeId} (h : fn.results = #[.cell a t]) {tmps : Array Value} {p : Addr} (hp : tmps.getD a undef = .pointer (some p)) {v : Value} {w : World} (hl : (loadVar t p).run P w = .ok v w) : (results fn tmps).run P w = .ok v w := by
  unfold results
  rw [h]
  simp only [hp, asAddr, Array.mapM_eq_mapM_toList, List.mapM_cons, List.mapM_nil]
  simp [hl]
/-- the cells of a block, as a range -/
theorem range14 {w : World} {b : Nat} {t s0 s1 s2 s3 s4 s5 u : Int} {f0 f1 f2 f3 f4 f5 : Bool} (h : BoxAt w b (st14 t s0 s1 s2 s3 s4 s5 f0 f1 f2 f3 f4 f5 u)) : w.rangeAt b 0 (st14 t s0 s1 s2 s3 s4 s5 f0 f1 f2 f3 f4 f5 u) := fun j v hv => by
  have := (h j v hv).1
  rw [Nat.zero_add]
  exact this
set_option maxRecDepth 100000 in
set_option maxHeartbeats 4000000 in
theorem after_raw (t s0 s1 s2 s3 s4 s5 u : Int) (f0 f1 f2 f3 f4 f5 : Bool) (c : Int) (w : World) (ht : 0 ≤ t ∧ t ≤ 100) (h0 : -100 ≤ s0 ∧ s0 ≤ 100) (h1 : -100 ≤ s1 ∧ s1 ≤ 100) (h2 : -100 ≤ s2 ∧ s2 ≤ 100) (h3 : -100 ≤ s3 ∧ s3 ≤ 100) (h4 : -100 ≤ s4 ∧ s4 ≤ 100) (h5 : -100 ≤ s5 ∧ s5 ≤ 100)
    (hc : c = -1 ∨ c = 0 ∨ c = 1 ∨ c = 2 ∨ c = 3 ∨ c = 4 ∨ c = 5) :
    Calls Try.prog 21 #[.agg (st14 t s0 s1 s2 s3 s4 s5 f0 f1 f2 f3 f4 f5 u).toArray, .int .i64 c] w (RetB (.agg (st14 (t + 1) (if c = 0 then s0 - 1 else s0) (if c = 1 then s1 - 1 else s1) (if c = 2 then s2 - 1 else s2) (if c = 3 then s3 - 1 else s3) (if c = 4 then s4 - 1 else s4) (if c = 5 then s5 - 1 else s5) f0 f1 f2 f3 f4 f5 u).toArray) w) := by
  rcases hc with rfl | rfl | rfl | rfl | rfl | rfl | rfl
  · (
      go_enter Try.func21, Try.ntmps21
      go_wp2_with fail
      refine bodyPost_ret (results_cell rfl (p := ⟨w.heap.size + 1, 0, none⟩) rfl (run_loadVar_mid _ (w.heap.size + 1) 0 47 (st14 (t + 1) s0 s1 s2 s3 s4 s5 f0 f1 f2 f3 f4 f5 u) _ ?_ Try.underlying47 rfl (by kernel_rfl))) rfl ?_
      · intro j v hv
        match j, hv with
        | 0, hv => cases hv; simp [go_sem]
        | 1, hv => cases hv; simp [go_sem]
        | 2, hv => cases hv; simp [go_sem]
        | 3, hv => cases hv; simp [go_sem]
        | 4, hv => cases hv; simp [go_sem]
        | 5, hv => cases hv; simp [go_sem]
        | 6, hv => cases hv; simp [go_sem]
        | 7, hv => cases hv; simp [go_sem]
        | 8, hv => cases hv; simp [go_sem]
        | 9, hv => cases hv; simp [go_sem]
        | 10, hv => cases hv; simp [go_sem]
        | 11, hv => cases hv; simp [go_sem]
        | 12, hv => cases hv; simp [go_sem]
        | 13, hv => cases hv; simp [go_sem]
        | j + 14, hv => simp [st14] at hv
      · exact retB (rfl) (by repeat (first | exact Below.refl _ _ | assumption | refine Below.drew ?_ | refine below_drewN ?_ _ | refine Below.alloc ?_ (by first | omega | (simp; done) | (simp; omega)) _ | refine Below.setCell ?_ (by first | omega | (simp; done) | (simp; omega)) _ | refine Below.trans ?_ (Below.mono (by assumption) (by first | omega | (simp; done) | (simp; omega))))))
  · (
      go_enter Try.func21, Try.ntmps21
      go_wp2_with fail
      refine bodyPost_ret (results_cell rfl (p := ⟨w.heap.size + 1, 0, none⟩) rfl (run_loadVar_mid _ (w.heap.size + 1) 0 47 (st14 (t + 1) (s0 - 1) s1 s2 s3 s4 s5 f0 f1 f2 f3 f4 f5 u) _ ?_ Try.underlying47 rfl (by kernel_rfl))) rfl ?_
      · intro j v hv
        match j, hv with
        | 0, hv => cases hv; simp [go_sem]
        | 1, hv => cases hv; simp [go_sem]
        | 2, hv => cases hv; simp [go_sem]
        | 3, hv => cases hv; simp [go_sem]
        | 4, hv => cases hv; simp [go_sem]
        | 5, hv => cases hv; simp [go_sem]
        | 6, hv => cases hv; simp [go_sem]
        | 7, hv => cases hv; simp [go_sem]
        | 8, hv => cases hv; simp [go_sem]
        | 9, hv => cases hv; simp [go_sem]
        | 10, hv => cases hv; simp [go_sem]
        | 11, hv => cases hv; simp [go_sem]
        | 12, hv => cases hv; simp [go_sem]
        | 13, hv => cases hv; simp [go_sem]
        | j + 14, hv => simp [st14] at hv
      · exact retB (rfl) (by repeat (first | exact Below.refl _ _ | assumption | refine Below.drew ?_ | refine below_drewN ?_ _ | refine Below.alloc ?_ (by first | omega | (simp; done) | (simp; omega)) _ | refine Below.setCell ?_ (by first | omega | (simp; done) | (simp; omega)) _ | refine Below.trans ?_ (Below.mono (by assumption) (by first | omega | (simp; done) | (simp; omega))))))
  · (
      go_enter Try.func21, Try.ntmps21
      go_wp2_with fail
      refine bodyPost_ret (results_cell rfl (p := ⟨w.heap.size + 1, 0, none⟩) rfl (run_loadVar_mid _ (w.heap.size + 1) 0 47 (st14 (t + 1) s0 (s1 - 1) s2 s3 s4 s5 f0 f1 f2 f3 f4 f5 u) _ ?_ Try.underlying47 rfl (by kernel_rfl))) rfl ?_
      · intro j v hv
        match j, hv with
        | 0, hv => cases hv; simp [go_sem]
        | 1, hv => cases hv; simp [go_sem]
        | 2, hv => cases hv; simp [go_sem]
        | 3, hv => cases hv; simp [go_sem]
        | 4, hv => cases hv; simp [go_sem]
        | 5, hv => cases hv; simp [go_sem]
        | 6, hv => cases hv; simp [go_sem]
        | 7, hv => cases hv; simp [go_sem]
        | 8, hv => cases hv; simp [go_sem]
        | 9, hv => cases hv; simp [go_sem]
        | 10, hv => cases hv; simp [go_sem]
        | 11, hv => cases hv; simp [go_sem]
        | 12, hv => cases hv; simp [go_sem]
        | 13, hv => cases hv; simp [go_sem]
        | j + 14, hv => simp [st14] at hv
      · exact retB (rfl) (by repeat (first | exact Below.refl _ _ | assumption | refine Below.drew ?_ | refine below_drewN ?_ _ | refine Below.alloc ?_ (by first | omega | (simp; done) | (simp; omega)) _ | refine Below.setCell ?_ (by first | omega | (simp; done) | (simp; omega)) _ | refine Below.trans ?_ (Below.mono (by assumption) (by first | omega | (simp; done) | (simp; omega))))))
  · (
      go_enter Try.func21, Try.ntmps21
      go_wp2_with fail
      refine bodyPost_ret (results_cell rfl (p := ⟨w.heap.size + 1, 0, none⟩) rfl (run_loadVar_mid _ (w.heap.size + 1) 0 47 (st14 (t + 1) s0 s1 (s2 - 1) s3 s4 s5 f0 f1 f2 f3 f4 f5 u) _ ?_ Try.underlying47 rfl (by kernel_rfl))) rfl ?_
      · intro j v hv
        match j, hv with
        | 0, hv => cases hv; simp [go_sem]
        | 1, hv => cases hv; simp [go_sem]
        | 2, hv => cases hv; simp [go_sem]
        | 3, hv => cases hv; simp [go_sem]
        | 4, hv => cases hv; simp [go_sem]
        | 5, hv => cases hv; simp [go_sem]
        | 6, hv => cases hv; simp [go_sem]
        | 7, hv => cases hv; simp [go_sem]
        | 8, hv => cases hv; simp [go_sem]
        | 9, hv => cases hv; simp [go_sem]
        | 10, hv => cases hv; simp [go_sem]
        | 11, hv => cases hv; simp [go_sem]
        | 12, hv => cases hv; simp [go_sem]
        | 13, hv => cases hv; simp [go_sem]
        | j + 14, hv => simp [st14] at hv
      · exact retB (rfl) (by repeat (first | exact Below.refl _ _ | assumption | refine Below.drew ?_ | refine below_drewN ?_ _ | refine Below.alloc ?_ (by first | omega | (simp; done) | (simp; omega)) _ | refine Below.setCell ?_ (by first | omega | (simp; done) | (simp; omega)) _ | refine Below.trans ?_ (Below.mono (by assumption) (by first | omega | (simp; done) | (simp; omega))))))
  · (
      go_enter Try.func21, Try.ntmps21
      go_wp2_with fail
      refine bodyPost_ret (results_cell rfl (p := ⟨w.heap.size + 1, 0, none⟩) rfl (run_loadVar_mid _ (w.heap.size + 1) 0 47 (st14 (t + 1) s0 s1 s2 (s3 - 1) s4 s5 f0 f1 f2 f3 f4 f5 u) _ ?_ Try.underlying47 rfl (by kernel_rfl))) rfl ?_
      · intro j v hv
        match j, hv with
        | 0, hv => cases hv; simp [go_sem]
        | 1, hv => cases hv; simp [go_sem]
        | 2, hv => cases hv; simp [go_sem]
        | 3, hv => cases hv; simp [go_sem]
        | 4, hv => cases hv; simp [go_sem]
        | 5, hv => cases hv; simp [go_sem]
        | 6, hv => cases hv; simp [go_sem]
        | 7, hv => cases hv; simp [go_sem]
        | 8, hv => cases hv; simp [go_sem]
        | 9, hv => cases hv; simp [go_sem]
        | 10, hv => cases hv; simp [go_sem]
        | 11, hv => cases hv; simp [go_sem]
        | 12, hv => cases hv; simp [go_sem]
        | 13, hv => cases hv; simp [go_sem]
        | j + 14, hv => simp [st14] at hv
      · exact retB (rfl) (by repeat (first | exact Below.refl _ _ | assumption | refine Below.drew ?_ | refine below_drewN ?_ _ | refine Below.alloc ?_ (by first | omega | (simp; done) | (simp; omega)) _ | refine Below.setCell ?_ (by first | omega | (simp; done) | (simp; omega)) _ | refine Below.trans ?_ (Below.mono (by assumption) (by first | omega | (simp; done) | (simp; omega))))))
  · (
      go_enter Try.func21, Try.ntmps21
      go_wp2_with fail
      refine bodyPost_ret (results_cell rfl (p := ⟨w.heap.size + 1, 0, none⟩) rfl (run_loadVar_mid _ (w.heap.size + 1) 0 47 (st14 (t + 1) s0 s1 s2 s3 (s4 - 1) s5 f0 f1 f2 f3 f4 f5 u) _ ?_ Try.underlying47 rfl (by kernel_rfl))) rfl ?_
      · intro j v hv
        match j, hv with
        | 0, hv => cases hv; simp [go_sem]
        | 1, hv => cases hv; simp [go_sem]
        | 2, hv => cases hv; simp [go_sem]
        | 3, hv => cases hv; simp [go_sem]
        | 4, hv => cases hv; simp [go_sem]
        | 5, hv => cases hv; simp [go_sem]
        | 6, hv => cases hv; simp [go_sem]
        | 7, hv => cases hv; simp [go_sem]
        | 8, hv => cases hv; simp [go_sem]
        | 9, hv => cases hv; simp [go_sem]
        | 10, hv => cases hv; simp [go_sem]
        | 11, hv => cases hv; simp [go_sem]
        | 12, hv => cases hv; simp [go_sem]
        | 13, hv => cases hv; simp [go_sem]
        | j + 14, hv => simp [st14] at hv
      · exact retB (rfl) (by repeat (first | exact Below.refl _ _ | assumption | refine Below.drew ?_ | refine below_drewN ?_ _ | refine Below.alloc ?_ (by first | omega | (simp; done) | (simp; omega)) _ | refine Below.setCell ?_ (by first | omega | (simp; done) | (simp; omega)) _ | refine Below.trans ?_ (Below.mono (by assumption) (by first | omega | (simp; done) | (simp; omega))))))
  · (
      go_enter Try.func21, Try.ntmps21
      go_wp2_with fail
      refine bodyPost_ret (results_cell rfl (p := ⟨w.heap.size + 1, 0, none⟩) rfl (run_loadVar_mid _ (w.heap.size + 1) 0 47 (st14 (t + 1) s0 s1 s2 s3 s4 (s5 - 1) f0 f1 f2 f3 f4 f5 u) _ ?_ Try.underlying47 rfl (by kernel_rfl))) rfl ?_
      · intro j v hv
        match j, hv with
        | 0, hv => cases hv; simp [go_sem]
        | 1, hv => cases hv; simp [go_sem]
        | 2, hv => cases hv; simp [go_sem]
        | 3, hv => cases hv; simp [go_sem]
        | 4, hv => cases hv; simp [go_sem]
        | 5, hv => cases hv; simp [go_sem]
        | 6, hv => cases hv; simp [go_sem]
        | 7, hv => cases hv; simp [go_sem]
        | 8, hv => cases hv; simp [go_sem]
        | 9, hv => cases hv; simp [go_sem]
        | 10, hv => cases hv; simp [go_sem]
        | 11, hv => cases hv; simp [go_sem]
        | 12, hv => cases hv; simp [go_sem]
        | 13, hv => cases hv; simp [go_sem]
        | j + 14, hv => simp [st14] at hv
      · exact retB (rfl) (by repeat (first | exact Below.refl _ _ | assumption | refine Below.drew ?_ | refine below_drewN ?_ _ | refine Below.alloc ?_ (by first | omega | (simp; done) | (simp; omega)) _ | refine Below.setCell ?_ (by first | omega | (simp; done) | (simp; omega)) _ | refine Below.trans ?_ (Below.mono (by assumption) (by first | omega | (simp; done) | (simp; omega))))))
/-- numbers of a game -/
structure StS (s : St) : Prop where
  t : 0 ≤ s.turn ∧ s.turn ≤ 100
  s : ∀ i, -100 ≤ ig s.starts i ∧ ig s.starts i ≤ 100
theorem afterS_ig {m : Nat} {x : St} (h : Fit m x) {c : Int} (hc : c = -1 ∨ 0 ≤ c ∧ c < m) (i : Nat) : ig (afterS x c).starts i = if c = (i : Int) then ig x.starts i - 1 else ig x.starts i := by
  unfold afterS
  rcases hc with rfl | hc
  · simp only
    rw [if_neg (by omega), if_neg (by omega)]
  · simp only
    rw [if_pos hc.1, ig_set]
    have hl := h.ls
    by_cases e : c = (i : Int)
    · rw [if_pos ⟨by omega, by omega⟩, if_pos e, show c.toNat = i by omega]
    · rw [if_neg (fun hh => e (by omega)), if_neg e]
theorem after_anyG {m : Nat} (x : St) (c : Int) (w : World) (h : Fit m x) (hs : StS x) (hc : c = -1 ∨ 0 ≤ c ∧ c < m) : Calls Try.prog 21 #[stV x, .int .i64 c] w (RetB (stV (afterS x c)) w) := by
  have h6 := h.m6
  have := after_raw x.turn (ig x.starts 0) (ig x.starts 1) (ig x.starts 2) (ig x.starts 3) (ig x.starts 4) (ig x.starts 5) x.budget (bg x.failed 0) (bg x.failed 1) (bg x.failed 2) (bg x.failed 3) (bg x.failed 4) (bg x.failed 5) c w hs.t (hs.s 0) (hs.s 1) (hs.s 2) (hs.s 3) (hs.s 4) (hs.s 5) (by omega)
  have e : stV (afterS x c) = .agg (st14 (x.turn + 1) (if c = 0 then ig x.starts 0 - 1 else ig x.starts 0) (if c = 1 then ig x.starts 1 - 1 else ig x.starts 1) (if c = 2 then ig x.starts 2 - 1 else ig x.starts 2) (if c = 3 then ig x.starts 3 - 1 else ig x.starts 3) (if c = 4 then ig x.starts 4 - 1 else ig x.starts 4) (if c = 5 then ig x.starts 5 - 1 else ig x.starts 5) (bg x.failed 0) (bg x.failed 1) (bg x.failed 2) (bg x.failed 3) (bg x.failed 4) (bg x.failed 5) x.budget).toArray := by
    unfold stV stC
    rw [afterS_ig h hc 0, afterS_ig h hc 1, afterS_ig h hc 2, afterS_ig h hc 3, afterS_ig h hc 4, afterS_ig h hc 5]
    rfl
  rw [e]
  exact this
end Go.Proofs.Ytgccankekflchaa

