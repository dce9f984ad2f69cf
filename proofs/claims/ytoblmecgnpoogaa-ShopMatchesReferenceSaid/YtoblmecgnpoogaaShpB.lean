
/- Package shop: loads. -/
import Derived.Test.YtoblmecgnpoogaaShpA
import Derived.Test.YtoblmecgnpoogaaTaskC
import Derived.Test.YtoblmecgnpoogaaFlowS
import Derived.Deep.MidRow
namespace Go.Proofs.Ytoblmecgnpoogaa
open Go.RowKit

structure Sh where
  staff : List Int
  bays : Int
/-- what is busy: people by their skills, and bays -/
structure Ld where
  p : List Int
  b : Int
  hp : p.length = 8
abbrev ldC (x : Ld) : List Value := [.int .i64 (ig x.p 0), .int .i64 (ig x.p 1), .int .i64 (ig x.p 2), .int .i64 (ig x.p 3), .int .i64 (ig x.p 4), .int .i64 (ig x.p 5), .int .i64 (ig x.p 6), .int .i64 (ig x.p 7), .int .i64 x.b]
abbrev ldV (x : Ld) : Value := .agg (ldC x).toArray
def addL (x : Ld) (sk : Nat) (bay : Bool) (n : Int) : Ld := ⟨x.p.set sk (ig x.p sk + n), if bay then x.b + n else x.b, by rw [List.length_set]; exact x.hp⟩
theorem ig_setN (l : List Int) (i j : Nat) (v : Int) (hi : i < l.length) : ig (l.set i v) j = if i = j then v else ig l j := by
  unfold ig
  rw [List.getD_eq_getElem?_getD, List.getD_eq_getElem?_getD, List.getElem?_set]
  by_cases h : i = j
  · subst h; simp [hi]
  · simp [h]
abbrev tkV (t : Tk) (a : Option Addr) (cap : Nat) : Value := .agg #[.int .i64 t.hours, .int .i64 t.skill, .bool t.bay, .slice a t.after.length cap]
/-- small numbers -/
structure LdS (x : Ld) : Prop where
  p : ∀ k, -1000 ≤ ig x.p k ∧ ig x.p k ≤ 1000
  b : -1000 ≤ x.b ∧ x.b ≤ 1000
theorem results_cell {P : Program} {fn : Func} {a : Nat} {t : TypeId} (h : fn.results = #[.cell a t]) {tmps : Array Value} {p : Addr} (hp : tmps.getD a undef = .pointer (some p)) {v : Value} {w : World} (hl : (loadVar t p).run P w = .ok v w) : (results fn tmps).run P w = .ok v w := by
  unfold results
  rw [h]
  simp only [hp, asAddr, Array.mapM_eq_mapM_toList, List.mapM_cons, List.mapM_nil]
  simp [hl]
set_option maxRecDepth 100000 in
set_option maxHeartbeats 4000000 in
theorem add_any (x : Ld) (t : Tk) (a : Option Addr) (cap : Nat) (sk : Nat) (n : Int) (w : World) (hs : t.skill = sk) (h8 : sk < 8) (hx : LdS x) (hn : n = 1 ∨ n = -1) :
    Calls Try.prog 27 #[ldV x, tkV t a cap, .int .i64 n] w (RetB (ldV (addL x sk t.bay n)) w) := by
  have hb := hx.b
  have hp := hx.p
  obtain ⟨r, hr⟩ : ∃ r, r = addL x sk t.bay n := ⟨_, rfl⟩
  have hset : ∀ j, ig r.p j = if sk = j then ig x.p sk + n else ig x.p j := fun j => by
    rw [hr]
    exact ig_setN _ _ _ _ (by rw [x.hp]; exact h8)
  have hrb : r.b = if t.bay then x.b + n else x.b := by rw [hr]; rfl
  rw [← hr]
  have e0 := hset 0
  have e1 := hset 1
  have e2 := hset 2
  have e3 := hset 3
  have e4 := hset 4
  have e5 := hset 5
  have e6 := hset 6
  have e7 := hset 7
  have p0 := hp 0
  have p1 := hp 1
  have p2 := hp 2
  have p3 := hp 3
  have p4 := hp 4
  have p5 := hp 5
  have p6 := hp 6
  have p7 := hp 7
  unfold ldV ldC tkV
  obtain ⟨tb, htb⟩ : ∃ b, b = t.bay := ⟨_, rfl⟩
  obtain ⟨th, hth⟩ : ∃ b, b = t.hours := ⟨_, rfl⟩
  obtain ⟨tl, htl⟩ : ∃ b, b = t.after.length := ⟨_, rfl⟩
  rw [hs, ← htb, ← hth, ← htl]
  rw [← htb] at hrb
  have HR := Lib.hid (And.intro (And.intro e0 (And.intro e1 (And.intro e2 e3))) (And.intro (And.intro e4 (And.intro e5 (And.intro e6 e7))) hrb))
  clear hs hx hr hset hp htb hth htl e0 e1 e2 e3 e4 e5 e6 e7 hrb
  obtain ⟨x0, h0⟩ : ∃ b, b = ig x.p 0 := ⟨_, rfl⟩
  obtain ⟨x1, h1⟩ : ∃ b, b = ig x.p 1 := ⟨_, rfl⟩
  obtain ⟨x2, h2⟩ : ∃ b, b = ig x.p 2 := ⟨_, rfl⟩
  obtain ⟨x3, h3⟩ : ∃ b, b = ig x.p 3 := ⟨_, rfl⟩
  obtain ⟨x4, h4⟩ : ∃ b, b = ig x.p 4 := ⟨_, rfl⟩
  obtain ⟨x5, h5⟩ : ∃ b, b = ig x.p 5 := ⟨_, rfl⟩
  obtain ⟨x6, h6⟩ : ∃ b, b = ig x.p 6 := ⟨_, rfl⟩
  obtain ⟨x7, h7⟩ : ∃ b, b = ig x.p 7 := ⟨_, rfl⟩
  obtain ⟨xb, hxb⟩ : ∃ b, b = x.b := ⟨_, rfl⟩
  have HX := Lib.hid (And.intro (And.intro h0 (And.intro h1 (And.intro h2 h3))) (And.intro (And.intro h4 (And.intro h5 (And.intro h6 h7))) hxb))
  rw [← h0] at p0 ⊢
  rw [← h1] at p1 ⊢
  rw [← h2] at p2 ⊢
  rw [← h3] at p3 ⊢
  rw [← h4] at p4 ⊢
  rw [← h5] at p5 ⊢
  rw [← h6] at p6 ⊢
  rw [← h7] at p7 ⊢
  rw [← hxb] at hb ⊢
  clear h0 h1 h2 h3 h4 h5 h6 h7 hxb
  have hn1 : -1 ≤ n ∧ n ≤ 1 := by omega
  clear hn
  have hsk : sk = 0 ∨ sk = 1 ∨ sk = 2 ∨ sk = 3 ∨ sk = 4 ∨ sk = 5 ∨ sk = 6 ∨ sk = 7 := by omega
  clear h8
  rcases hsk with rfl | rfl | rfl | rfl | rfl | rfl | rfl | rfl
  · cases tb
    · (
      go_enter Try.func27, Try.ntmps27
      go_wp2_with fail
      refine bodyPost_ret (results_cell rfl (p := ⟨w.heap.size + 1 + 1, 0, none⟩) rfl (run_loadVar_mid _ (w.heap.size + 1 + 1) 0 49 [.int .i64 (x0 + n), .int .i64 x1, .int .i64 x2, .int .i64 x3, .int .i64 x4, .int .i64 x5, .int .i64 x6, .int .i64 x7, .int .i64 xb] _ ?_ Try.underlying49 rfl (by kernel_rfl))) rfl ?_
      · intro j v hv
        match j, hv with
        | 0, hv => cases hv; simp [go_sem]
        | 1, hv => cases hv; simp [go_sem]
        | 2, hv => cases hv; simp [go_sem]
        | 3, hv => cases hv; simp [go_sem]
        | 4, hv => cases hv; simp [go_sem]
        | 5, hv => cases hv; simp [go_sem]
        | 6, hv => cases hv; simp [go_sem]
        | 7, hv => cases hv; simp [go_sem]
        | 8, hv => cases hv; simp [go_sem]
        | j + 9, hv => simp at hv
      · obtain ⟨⟨a0, a1, a2, a3⟩, ⟨a4, a5, a6, a7⟩, a8⟩ := HX.out
        obtain ⟨⟨e0, e1, e2, e3⟩, ⟨e4, e5, e6, e7⟩, e8⟩ := HR.out
        refine retB ?_ (by repeat (first | exact Below.refl _ _ | assumption | refine Below.drew ?_ | refine below_drewN ?_ _ | refine Below.alloc ?_ (by first | omega | (simp; done) | (simp; omega)) _ | refine Below.setCell ?_ (by first | omega | (simp; done) | (simp; omega)) _ | refine Below.trans ?_ (Below.mono (by assumption) (by first | omega | (simp; done) | (simp; omega)))))
        rw [e0, e1, e2, e3, e4, e5, e6, e7, e8, ← a0, ← a1, ← a2, ← a3, ← a4, ← a5, ← a6, ← a7, ← a8]
        rfl)
    · (
      go_enter Try.func27, Try.ntmps27
      go_wp2_with fail
      refine bodyPost_ret (results_cell rfl (p := ⟨w.heap.size + 1 + 1, 0, none⟩) rfl (run_loadVar_mid _ (w.heap.size + 1 + 1) 0 49 [.int .i64 (x0 + n), .int .i64 x1, .int .i64 x2, .int .i64 x3, .int .i64 x4, .int .i64 x5, .int .i64 x6, .int .i64 x7, .int .i64 (xb + n)] _ ?_ Try.underlying49 rfl (by kernel_rfl))) rfl ?_
      · intro j v hv
        match j, hv with
        | 0, hv => cases hv; simp [go_sem]
        | 1, hv => cases hv; simp [go_sem]
        | 2, hv => cases hv; simp [go_sem]
        | 3, hv => cases hv; simp [go_sem]
        | 4, hv => cases hv; simp [go_sem]
        | 5, hv => cases hv; simp [go_sem]
        | 6, hv => cases hv; simp [go_sem]
        | 7, hv => cases hv; simp [go_sem]
        | 8, hv => cases hv; simp [go_sem]
        | j + 9, hv => simp at hv
      · obtain ⟨⟨a0, a1, a2, a3⟩, ⟨a4, a5, a6, a7⟩, a8⟩ := HX.out
        obtain ⟨⟨e0, e1, e2, e3⟩, ⟨e4, e5, e6, e7⟩, e8⟩ := HR.out
        refine retB ?_ (by repeat (first | exact Below.refl _ _ | assumption | refine Below.drew ?_ | refine below_drewN ?_ _ | refine Below.alloc ?_ (by first | omega | (simp; done) | (simp; omega)) _ | refine Below.setCell ?_ (by first | omega | (simp; done) | (simp; omega)) _ | refine Below.trans ?_ (Below.mono (by assumption) (by first | omega | (simp; done) | (simp; omega)))))
        rw [e0, e1, e2, e3, e4, e5, e6, e7, e8, ← a0, ← a1, ← a2, ← a3, ← a4, ← a5, ← a6, ← a7, ← a8]
        rfl)
  · cases tb
    · (
      go_enter Try.func27, Try.ntmps27
      go_wp2_with fail
      refine bodyPost_ret (results_cell rfl (p := ⟨w.heap.size + 1 + 1, 0, none⟩) rfl (run_loadVar_mid _ (w.heap.size + 1 + 1) 0 49 [.int .i64 x0, .int .i64 (x1 + n), .int .i64 x2, .int .i64 x3, .int .i64 x4, .int .i64 x5, .int .i64 x6, .int .i64 x7, .int .i64 xb] _ ?_ Try.underlying49 rfl (by kernel_rfl))) rfl ?_
      · intro j v hv
        match j, hv with
        | 0, hv => cases hv; simp [go_sem]
        | 1, hv => cases hv; simp [go_sem]
        | 2, hv => cases hv; simp [go_sem]
        | 3, hv => cases hv; simp [go_sem]
        | 4, hv => cases hv; simp [go_sem]
        | 5, hv => cases hv; simp [go_sem]
        | 6, hv => cases hv; simp [go_sem]
        | 7, hv => cases hv; simp [go_sem]
        | 8, hv => cases hv; simp [go_sem]
        | j + 9, hv => simp at hv
      · obtain ⟨⟨a0, a1, a2, a3⟩, ⟨a4, a5, a6, a7⟩, a8⟩ := HX.out
        obtain ⟨⟨e0, e1, e2, e3⟩, ⟨e4, e5, e6, e7⟩, e8⟩ := HR.out
        refine retB ?_ (by repeat (first | exact Below.refl _ _ | assumption | refine Below.drew ?_ | refine below_drewN ?_ _ | refine Below.alloc ?_ (by first | omega | (simp; done) | (simp; omega)) _ | refine Below.setCell ?_ (by first | omega | (simp; done) | (simp; omega)) _ | refine Below.trans ?_ (Below.mono (by assumption) (by first | omega | (simp; done) | (simp; omega)))))
        rw [e0, e1, e2, e3, e4, e5, e6, e7, e8, ← a0, ← a1, ← a2, ← a3, ← a4, ← a5, ← a6, ← a7, ← a8]
        rfl)
    · (
      go_enter Try.func27, Try.ntmps27
      go_wp2_with fail
      refine bodyPost_ret (results_cell rfl (p := ⟨w.heap.size + 1 + 1, 0, none⟩) rfl (run_loadVar_mid _ (w.heap.size + 1 + 1) 0 49 [.int .i64 x0, .int .i64 (x1 + n), .int .i64 x2, .int .i64 x3, .int .i64 x4, .int .i64 x5, .int .i64 x6, .int .i64 x7, .int .i64 (xb + n)] _ ?_ Try.underlying49 rfl (by kernel_rfl))) rfl ?_
      · intro j v hv
        match j, hv with
        | 0, hv => cases hv; simp [go_sem]
        | 1, hv => cases hv; simp [go_sem]
        | 2, hv => cases hv; simp [go_sem]
        | 3, hv => cases hv; simp [go_sem]
        | 4, hv => cases hv; simp [go_sem]
        | 5, hv => cases hv; simp [go_sem]
        | 6, hv => cases hv; simp [go_sem]
        | 7, hv => cases hv; simp [go_sem]
        | 8, hv => cases hv; simp [go_sem]
        | j + 9, hv => simp at hv
      · obtain ⟨⟨a0, a1, a2, a3⟩, ⟨a4, a5, a6, a7⟩, a8⟩ := HX.out
        obtain ⟨⟨e0, e1, e2, e3⟩, ⟨e4, e5, e6, e7⟩, e8⟩ := HR.out
        refine retB ?_ (by repeat (first | exact Below.refl _ _ | assumption | refine Below.drew ?_ | refine below_drewN ?_ _ | refine Below.alloc ?_ (by first | omega | (simp; done) | (simp; omega)) _ | refine Below.setCell ?_ (by first | omega | (simp; done) | (simp; omega)) _ | refine Below.trans ?_ (Below.mono (by assumption) (by first | omega | (simp; done) | (simp; omega)))))
        rw [e0, e1, e2, e3, e4, e5, e6, e7, e8, ← a0, ← a1, ← a2, ← a3, ← a4, ← a5, ← a6, ← a7, ← a8]
        rfl)
  · cases tb
    · (
      go_enter Try.func27, Try.ntmps27
      go_wp2_with fail
      refine bodyPost_ret (results_cell rfl (p := ⟨w.heap.size + 1 + 1, 0, none⟩) rfl (run_loadVar_mid _ (w.heap.size + 1 + 1) 0 49 [.int .i64 x0, .int .i64 x1, .int .i64 (x2 + n), .int .i64 x3, .int .i64 x4, .int .i64 x5, .int .i64 x6, .int .i64 x7, .int .i64 xb] _ ?_ Try.underlying49 rfl (by kernel_rfl))) rfl ?_
      · intro j v hv
        match j, hv with
        | 0, hv => cases hv; simp [go_sem]
        | 1, hv => cases hv; simp [go_sem]
        | 2, hv => cases hv; simp [go_sem]
        | 3, hv => cases hv; simp [go_sem]
        | 4, hv => cases hv; simp [go_sem]
        | 5, hv => cases hv; simp [go_sem]
        | 6, hv => cases hv; simp [go_sem]
        | 7, hv => cases hv; simp [go_sem]
        | 8, hv => cases hv; simp [go_sem]
        | j + 9, hv => simp at hv
      · obtain ⟨⟨a0, a1, a2, a3⟩, ⟨a4, a5, a6, a7⟩, a8⟩ := HX.out
        obtain ⟨⟨e0, e1, e2, e3⟩, ⟨e4, e5, e6, e7⟩, e8⟩ := HR.out
        refine retB ?_ (by repeat (first | exact Below.refl _ _ | assumption | refine Below.drew ?_ | refine below_drewN ?_ _ | refine Below.alloc ?_ (by first | omega | (simp; done) | (simp; omega)) _ | refine Below.setCell ?_ (by first | omega | (simp; done) | (simp; omega)) _ | refine Below.trans ?_ (Below.mono (by assumption) (by first | omega | (simp; done) | (simp; omega)))))
        rw [e0, e1, e2, e3, e4, e5, e6, e7, e8, ← a0, ← a1, ← a2, ← a3, ← a4, ← a5, ← a6, ← a7, ← a8]
        rfl)
    · (
      go_enter Try.func27, Try.ntmps27
      go_wp2_with fail
      refine bodyPost_ret (results_cell rfl (p := ⟨w.heap.size + 1 + 1, 0, none⟩) rfl (run_loadVar_mid _ (w.heap.size + 1 + 1) 0 49 [.int .i64 x0, .int .i64 x1, .int .i64 (x2 + n), .int .i64 x3, .int .i64 x4, .int .i64 x5, .int .i64 x6, .int .i64 x7, .int .i64 (xb + n)] _ ?_ Try.underlying49 rfl (by kernel_rfl))) rfl ?_
      · intro j v hv
        match j, hv with
        | 0, hv => cases hv; simp [go_sem]
        | 1, hv => cases hv; simp [go_sem]
        | 2, hv => cases hv; simp [go_sem]
        | 3, hv => cases hv; simp [go_sem]
        | 4, hv => cases hv; simp [go_sem]
        | 5, hv => cases hv; simp [go_sem]
        | 6, hv => cases hv; simp [go_sem]
        | 7, hv => cases hv; simp [go_sem]
        | 8, hv => cases hv; simp [go_sem]
        | j + 9, hv => simp at hv
      · obtain ⟨⟨a0, a1, a2, a3⟩, ⟨a4, a5, a6, a7⟩, a8⟩ := HX.out
        obtain ⟨⟨e0, e1, e2, e3⟩, ⟨e4, e5, e6, e7⟩, e8⟩ := HR.out
        refine retB ?_ (by repeat (first | exact Below.refl _ _ | assumption | refine Below.drew ?_ | refine below_drewN ?_ _ | refine Below.alloc ?_ (by first | omega | (simp; done) | (simp; omega)) _ | refine Below.setCell ?_ (by first | omega | (simp; done) | (simp; omega)) _ | refine Below.trans ?_ (Below.mono (by assumption) (by first | omega | (simp; done) | (simp; omega)))))
        rw [e0, e1, e2, e3, e4, e5, e6, e7, e8, ← a0, ← a1, ← a2, ← a3, ← a4, ← a5, ← a6, ← a7, ← a8]
        rfl)
  · cases tb
    · (
      go_enter Try.func27, Try.ntmps27
      go_wp2_with fail
      refine bodyPost_ret (results_cell rfl (p := ⟨w.heap.size + 1 + 1, 0, none⟩) rfl (run_loadVar_mid _ (w.heap.size + 1 + 1) 0 49 [.int .i64 x0, .int .i64 x1, .int .i64 x2, .int .i64 (x3 + n), .int .i64 x4, .int .i64 x5, .int .i64 x6, .int .i64 x7, .int .i64 xb] _ ?_ Try.underlying49 rfl (by kernel_rfl))) rfl ?_
      · intro j v hv
        match j, hv with
        | 0, hv => cases hv; simp [go_sem]
        | 1, hv => cases hv; simp [go_sem]
        | 2, hv => cases hv; simp [go_sem]
        | 3, hv => cases hv; simp [go_sem]
        | 4, hv => cases hv; simp [go_sem]
        | 5, hv => cases hv; simp [go_sem]
        | 6, hv => cases hv; simp [go_sem]
        | 7, hv => cases hv; simp [go_sem]
        | 8, hv => cases hv; simp [go_sem]
        | j + 9, hv => simp at hv
      · obtain ⟨⟨a0, a1, a2, a3⟩, ⟨a4, a5, a6, a7⟩, a8⟩ := HX.out
        obtain ⟨⟨e0, e1, e2, e3⟩, ⟨e4, e5, e6, e7⟩, e8⟩ := HR.out
        refine retB ?_ (by repeat (first | exact Below.refl _ _ | assumption | refine Below.drew ?_ | refine below_drewN ?_ _ | refine Below.alloc ?_ (by first | omega | (simp; done) | (simp; omega)) _ | refine Below.setCell ?_ (by first | omega | (simp; done) | (simp; omega)) _ | refine Below.trans ?_ (Below.mono (by assumption) (by first | omega | (simp; done) | (simp; omega)))))
        rw [e0, e1, e2, e3, e4, e5, e6, e7, e8, ← a0, ← a1, ← a2, ← a3, ← a4, ← a5, ← a6, ← a7, ← a8]
        rfl)
    · (
      go_enter Try.func27, Try.ntmps27
      go_wp2_with fail
      refine bodyPost_ret (results_cell rfl (p := ⟨w.heap.size + 1 + 1, 0, none⟩) rfl (run_loadVar_mid _ (w.heap.size + 1 + 1) 0 49 [.int .i64 x0, .int .i64 x1, .int .i64 x2, .int .i64 (x3 + n), .int .i64 x4, .int .i64 x5, .int .i64 x6, .int .i64 x7, .int .i64 (xb + n)] _ ?_ Try.underlying49 rfl (by kernel_rfl))) rfl ?_
      · intro j v hv
        match j, hv with
        | 0, hv => cases hv; simp [go_sem]
        | 1, hv => cases hv; simp [go_sem]
        | 2, hv => cases hv; simp [go_sem]
        | 3, hv => cases hv; simp [go_sem]
        | 4, hv => cases hv; simp [go_sem]
        | 5, hv => cases hv; simp [go_sem]
        | 6, hv => cases hv; simp [go_sem]
        | 7, hv => cases hv; simp [go_sem]
        | 8, hv => cases hv; simp [go_sem]
        | j + 9, hv => simp at hv
      · obtain ⟨⟨a0, a1, a2, a3⟩, ⟨a4, a5, a6, a7⟩, a8⟩ := HX.out
        obtain ⟨⟨e0, e1, e2, e3⟩, ⟨e4, e5, e6, e7⟩, e8⟩ := HR.out
        refine retB ?_ (by repeat (first | exact Below.refl _ _ | assumption | refine Below.drew ?_ | refine below_drewN ?_ _ | refine Below.alloc ?_ (by first | omega | (simp; done) | (simp; omega)) _ | refine Below.setCell ?_ (by first | omega | (simp; done) | (simp; omega)) _ | refine Below.trans ?_ (Below.mono (by assumption) (by first | omega | (simp; done) | (simp; omega)))))
        rw [e0, e1, e2, e3, e4, e5, e6, e7, e8, ← a0, ← a1, ← a2, ← a3, ← a4, ← a5, ← a6, ← a7, ← a8]
        rfl)
  · cases tb
    · (
      go_enter Try.func27, Try.ntmps27
      go_wp2_with fail
      refine bodyPost_ret (results_cell rfl (p := ⟨w.heap.size + 1 + 1, 0, none⟩) rfl (run_loadVar_mid _ (w.heap.size + 1 + 1) 0 49 [.int .i64 x0, .int .i64 x1, .int .i64 x2, .int .i64 x3, .int .i64 (x4 + n), .int .i64 x5, .int .i64 x6, .int .i64 x7, .int .i64 xb] _ ?_ Try.underlying49 rfl (by kernel_rfl))) rfl ?_
      · intro j v hv
        match j, hv with
        | 0, hv => cases hv; simp [go_sem]
        | 1, hv => cases hv; simp [go_sem]
        | 2, hv => cases hv; simp [go_sem]
        | 3, hv => cases hv; simp [go_sem]
        | 4, hv => cases hv; simp [go_sem]
        | 5, hv => cases hv; simp [go_sem]
        | 6, hv => cases hv; simp [go_sem]
        | 7, hv => cases hv; simp [go_sem]
        | 8, hv => cases hv; simp [go_sem]
        | j + 9, hv => simp at hv
      · obtain ⟨⟨a0, a1, a2, a3⟩, ⟨a4, a5, a6, a7⟩, a8⟩ := HX.out
        obtain ⟨⟨e0, e1, e2, e3⟩, ⟨e4, e5, e6, e7⟩, e8⟩ := HR.out
        refine retB ?_ (by repeat (first | exact Below.refl _ _ | assumption | refine Below.drew ?_ | refine below_drewN ?_ _ | refine Below.alloc ?_ (by first | omega | (simp; done) | (simp; omega)) _ | refine Below.setCell ?_ (by first | omega | (simp; done) | (simp; omega)) _ | refine Below.trans ?_ (Below.mono (by assumption) (by first | omega | (simp; done) | (simp; omega)))))
        rw [e0, e1, e2, e3, e4, e5, e6, e7, e8, ← a0, ← a1, ← a2, ← a3, ← a4, ← a5, ← a6, ← a7, ← a8]
        rfl)
    · (
      go_enter Try.func27, Try.ntmps27
      go_wp2_with fail
      refine bodyPost_ret (results_cell rfl (p := ⟨w.heap.size + 1 + 1, 0, none⟩) rfl (run_loadVar_mid _ (w.heap.size + 1 + 1) 0 49 [.int .i64 x0, .int .i64 x1, .int .i64 x2, .int .i64 x3, .int .i64 (x4 + n), .int .i64 x5, .int .i64 x6, .int .i64 x7, .int .i64 (xb + n)] _ ?_ Try.underlying49 rfl (by kernel_rfl))) rfl ?_
      · intro j v hv
        match j, hv with
        | 0, hv => cases hv; simp [go_sem]
        | 1, hv => cases hv; simp [go_sem]
        | 2, hv => cases hv; simp [go_sem]
        | 3, hv => cases hv; simp [go_sem]
        | 4, hv => cases hv; simp [go_sem]
        | 5, hv => cases hv; simp [go_sem]
        | 6, hv => cases hv; simp [go_sem]
        | 7, hv => cases hv; simp [go_sem]
        | 8, hv => cases hv; simp [go_sem]
        | j + 9, hv => simp at hv
      · obtain ⟨⟨a0, a1, a2, a3⟩, ⟨a4, a5, a6, a7⟩, a8⟩ := HX.out
        obtain ⟨⟨e0, e1, e2, e3⟩, ⟨e4, e5, e6, e7⟩, e8⟩ := HR.out
        refine retB ?_ (by repeat (first | exact Below.refl _ _ | assumption | refine Below.drew ?_ | refine below_drewN ?_ _ | refine Below.alloc ?_ (by first | omega | (simp; done) | (simp; omega)) _ | refine Below.setCell ?_ (by first | omega | (simp; done) | (simp; omega)) _ | refine Below.trans ?_ (Below.mono (by assumption) (by first | omega | (simp; done) | (simp; omega)))))
        rw [e0, e1, e2, e3, e4, e5, e6, e7, e8, ← a0, ← a1, ← a2, ← a3, ← a4, ← a5, ← a6, ← a7, ← a8]
        rfl)
  · cases tb
    · (
      go_enter Try.func27, Try.ntmps27
      go_wp2_with fail
      refine bodyPost_ret (results_cell rfl (p := ⟨w.heap.size + 1 + 1, 0, none⟩) rfl (run_loadVar_mid _ (w.heap.size + 1 + 1) 0 49 [.int .i64 x0, .int .i64 x1, .int .i64 x2, .int .i64 x3, .int .i64 x4, .int .i64 (x5 + n), .int .i64 x6, .int .i64 x7, .int .i64 xb] _ ?_ Try.underlying49 rfl (by kernel_rfl))) rfl ?_
      · intro j v hv
        match j, hv with
        | 0, hv => cases hv; simp [go_sem]
        | 1, hv => cases hv; simp [go_sem]
        | 2, hv => cases hv; simp [go_sem]
        | 3, hv => cases hv; simp [go_sem]
        | 4, hv => cases hv; simp [go_sem]
        | 5, hv => cases hv; simp [go_sem]
        | 6, hv => cases hv; simp [go_sem]
        | 7, hv => cases hv; simp [go_sem]
        | 8, hv => cases hv; simp [go_sem]
        | j + 9, hv => simp at hv
      · obtain ⟨⟨a0, a1, a2, a3⟩, ⟨a4, a5, a6, a7⟩, a8⟩ := HX.out
        obtain ⟨⟨e0, e1, e2, e3⟩, ⟨e4, e5, e6, e7⟩, e8⟩ := HR.out
        refine retB ?_ (by repeat (first | exact Below.refl _ _ | assumption | refine Below.drew ?_ | refine below_drewN ?_ _ | refine Below.alloc ?_ (by first | omega | (simp; done) | (simp; omega)) _ | refine Below.setCell ?_ (by first | omega | (simp; done) | (simp; omega)) _ | refine Below.trans ?_ (Below.mono (by assumption) (by first | omega | (simp; done) | (simp; omega)))))
        rw [e0, e1, e2, e3, e4, e5, e6, e7, e8, ← a0, ← a1, ← a2, ← a3, ← a4, ← a5, ← a6, ← a7, ← a8]
        rfl)
    · (
      go_enter Try.func27, Try.ntmps27
      go_wp2_with fail
      refine bodyPost_ret (results_cell rfl (p := ⟨w.heap.size + 1 + 1, 0, none⟩) rfl (run_loadVar_mid _ (w.heap.size + 1 + 1) 0 49 [.int .i64 x0, .int .i64 x1, .int .i64 x2, .int .i64 x3, .int .i64 x4, .int .i64 (x5 + n), .int .i64 x6, .int .i64 x7, .int .i64 (xb + n)] _ ?_ Try.underlying49 rfl (by kernel_rfl))) rfl ?_
      · intro j v hv
        match j, hv with
        | 0, hv => cases hv; simp [go_sem]
        | 1, hv => cases hv; simp [go_sem]
        | 2, hv => cases hv; simp [go_sem]
        | 3, hv => cases hv; simp [go_sem]
        | 4, hv => cases hv; simp [go_sem]
        | 5, hv => cases hv; simp [go_sem]
        | 6, hv => cases hv; simp [go_sem]
        | 7, hv => cases hv; simp [go_sem]
        | 8, hv => cases hv; simp [go_sem]
        | j + 9, hv => simp at hv
      · obtain ⟨⟨a0, a1, a2, a3⟩, ⟨a4, a5, a6, a7⟩, a8⟩ := HX.out
        obtain ⟨⟨e0, e1, e2, e3⟩, ⟨e4, e5, e6, e7⟩, e8⟩ := HR.out
        refine retB ?_ (by repeat (first | exact Below.refl _ _ | assumption | refine Below.drew ?_ | refine below_drewN ?_ _ | refine Below.alloc ?_ (by first | omega | (simp; done) | (simp; omega)) _ | refine Below.setCell ?_ (by first | omega | (simp; done) | (simp; omega)) _ | refine Below.trans ?_ (Below.mono (by assumption) (by first | omega | (simp; done) | (simp; omega)))))
        rw [e0, e1, e2, e3, e4, e5, e6, e7, e8, ← a0, ← a1, ← a2, ← a3, ← a4, ← a5, ← a6, ← a7, ← a8]
        rfl)
  · cases tb
    · (
      go_enter Try.func27, Try.ntmps27
      go_wp2_with fail
      refine bodyPost_ret (results_cell rfl (p := ⟨w.heap.size + 1 + 1, 0, none⟩) rfl (run_loadVar_mid _ (w.heap.size + 1 + 1) 0 49 [.int .i64 x0, .int .i64 x1, .int .i64 x2, .int .i64 x3, .int .i64 x4, .int .i64 x5, .int .i64 (x6 + n), .int .i64 x7, .int .i64 xb] _ ?_ Try.underlying49 rfl (by kernel_rfl))) rfl ?_
      · intro j v hv
        match j, hv with
        | 0, hv => cases hv; simp [go_sem]
        | 1, hv => cases hv; simp [go_sem]
        | 2, hv => cases hv; simp [go_sem]
        | 3, hv => cases hv; simp [go_sem]
        | 4, hv => cases hv; simp [go_sem]
        | 5, hv => cases hv; simp [go_sem]
        | 6, hv => cases hv; simp [go_sem]
        | 7, hv => cases hv; simp [go_sem]
        | 8, hv => cases hv; simp [go_sem]
        | j + 9, hv => simp at hv
      · obtain ⟨⟨a0, a1, a2, a3⟩, ⟨a4, a5, a6, a7⟩, a8⟩ := HX.out
        obtain ⟨⟨e0, e1, e2, e3⟩, ⟨e4, e5, e6, e7⟩, e8⟩ := HR.out
        refine retB ?_ (by repeat (first | exact Below.refl _ _ | assumption | refine Below.drew ?_ | refine below_drewN ?_ _ | refine Below.alloc ?_ (by first | omega | (simp; done) | (simp; omega)) _ | refine Below.setCell ?_ (by first | omega | (simp; done) | (simp; omega)) _ | refine Below.trans ?_ (Below.mono (by assumption) (by first | omega | (simp; done) | (simp; omega)))))
        rw [e0, e1, e2, e3, e4, e5, e6, e7, e8, ← a0, ← a1, ← a2, ← a3, ← a4, ← a5, ← a6, ← a7, ← a8]
        rfl)
    · (
      go_enter Try.func27, Try.ntmps27
      go_wp2_with fail
      refine bodyPost_ret (results_cell rfl (p := ⟨w.heap.size + 1 + 1, 0, none⟩) rfl (run_loadVar_mid _ (w.heap.size + 1 + 1) 0 49 [.int .i64 x0, .int .i64 x1, .int .i64 x2, .int .i64 x3, .int .i64 x4, .int .i64 x5, .int .i64 (x6 + n), .int .i64 x7, .int .i64 (xb + n)] _ ?_ Try.underlying49 rfl (by kernel_rfl))) rfl ?_
      · intro j v hv
        match j, hv with
        | 0, hv => cases hv; simp [go_sem]
        | 1, hv => cases hv; simp [go_sem]
        | 2, hv => cases hv; simp [go_sem]
        | 3, hv => cases hv; simp [go_sem]
        | 4, hv => cases hv; simp [go_sem]
        | 5, hv => cases hv; simp [go_sem]
        | 6, hv => cases hv; simp [go_sem]
        | 7, hv => cases hv; simp [go_sem]
        | 8, hv => cases hv; simp [go_sem]
        | j + 9, hv => simp at hv
      · obtain ⟨⟨a0, a1, a2, a3⟩, ⟨a4, a5, a6, a7⟩, a8⟩ := HX.out
        obtain ⟨⟨e0, e1, e2, e3⟩, ⟨e4, e5, e6, e7⟩, e8⟩ := HR.out
        refine retB ?_ (by repeat (first | exact Below.refl _ _ | assumption | refine Below.drew ?_ | refine below_drewN ?_ _ | refine Below.alloc ?_ (by first | omega | (simp; done) | (simp; omega)) _ | refine Below.setCell ?_ (by first | omega | (simp; done) | (simp; omega)) _ | refine Below.trans ?_ (Below.mono (by assumption) (by first | omega | (simp; done) | (simp; omega)))))
        rw [e0, e1, e2, e3, e4, e5, e6, e7, e8, ← a0, ← a1, ← a2, ← a3, ← a4, ← a5, ← a6, ← a7, ← a8]
        rfl)
  · cases tb
    · (
      go_enter Try.func27, Try.ntmps27
      go_wp2_with fail
      refine bodyPost_ret (results_cell rfl (p := ⟨w.heap.size + 1 + 1, 0, none⟩) rfl (run_loadVar_mid _ (w.heap.size + 1 + 1) 0 49 [.int .i64 x0, .int .i64 x1, .int .i64 x2, .int .i64 x3, .int .i64 x4, .int .i64 x5, .int .i64 x6, .int .i64 (x7 + n), .int .i64 xb] _ ?_ Try.underlying49 rfl (by kernel_rfl))) rfl ?_
      · intro j v hv
        match j, hv with
        | 0, hv => cases hv; simp [go_sem]
        | 1, hv => cases hv; simp [go_sem]
        | 2, hv => cases hv; simp [go_sem]
        | 3, hv => cases hv; simp [go_sem]
        | 4, hv => cases hv; simp [go_sem]
        | 5, hv => cases hv; simp [go_sem]
        | 6, hv => cases hv; simp [go_sem]
        | 7, hv => cases hv; simp [go_sem]
        | 8, hv => cases hv; simp [go_sem]
        | j + 9, hv => simp at hv
      · obtain ⟨⟨a0, a1, a2, a3⟩, ⟨a4, a5, a6, a7⟩, a8⟩ := HX.out
        obtain ⟨⟨e0, e1, e2, e3⟩, ⟨e4, e5, e6, e7⟩, e8⟩ := HR.out
        refine retB ?_ (by repeat (first | exact Below.refl _ _ | assumption | refine Below.drew ?_ | refine below_drewN ?_ _ | refine Below.alloc ?_ (by first | omega | (simp; done) | (simp; omega)) _ | refine Below.setCell ?_ (by first | omega | (simp; done) | (simp; omega)) _ | refine Below.trans ?_ (Below.mono (by assumption) (by first | omega | (simp; done) | (simp; omega)))))
        rw [e0, e1, e2, e3, e4, e5, e6, e7, e8, ← a0, ← a1, ← a2, ← a3, ← a4, ← a5, ← a6, ← a7, ← a8]
        rfl)
    · (
      go_enter Try.func27, Try.ntmps27
      go_wp2_with fail
      refine bodyPost_ret (results_cell rfl (p := ⟨w.heap.size + 1 + 1, 0, none⟩) rfl (run_loadVar_mid _ (w.heap.size + 1 + 1) 0 49 [.int .i64 x0, .int .i64 x1, .int .i64 x2, .int .i64 x3, .int .i64 x4, .int .i64 x5, .int .i64 x6, .int .i64 (x7 + n), .int .i64 (xb + n)] _ ?_ Try.underlying49 rfl (by kernel_rfl))) rfl ?_
      · intro j v hv
        match j, hv with
        | 0, hv => cases hv; simp [go_sem]
        | 1, hv => cases hv; simp [go_sem]
        | 2, hv => cases hv; simp [go_sem]
        | 3, hv => cases hv; simp [go_sem]
        | 4, hv => cases hv; simp [go_sem]
        | 5, hv => cases hv; simp [go_sem]
        | 6, hv => cases hv; simp [go_sem]
        | 7, hv => cases hv; simp [go_sem]
        | 8, hv => cases hv; simp [go_sem]
        | j + 9, hv => simp at hv
      · obtain ⟨⟨a0, a1, a2, a3⟩, ⟨a4, a5, a6, a7⟩, a8⟩ := HX.out
        obtain ⟨⟨e0, e1, e2, e3⟩, ⟨e4, e5, e6, e7⟩, e8⟩ := HR.out
        refine retB ?_ (by repeat (first | exact Below.refl _ _ | assumption | refine Below.drew ?_ | refine below_drewN ?_ _ | refine Below.alloc ?_ (by first | omega | (simp; done) | (simp; omega)) _ | refine Below.setCell ?_ (by first | omega | (simp; done) | (simp; omega)) _ | refine Below.trans ?_ (Below.mono (by assumption) (by first | omega | (simp; done) | (simp; omega)))))
        rw [e0, e1, e2, e3, e4, e5, e6, e7, e8, ← a0, ← a1, ← a2, ← a3, ← a4, ← a5, ← a6, ← a7, ← a8]
        rfl)
end Go.Proofs.Ytoblmecgnpoogaa

