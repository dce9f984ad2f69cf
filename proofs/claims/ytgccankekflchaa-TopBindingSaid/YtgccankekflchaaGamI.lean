


/- Package game: worst and best, every state; Value. -/
import Derived.Test.YtgccankekflchaaGamH
namespace Go.Proofs.Ytgccankekflchaa
open Go.RowKit Go.Maps Go.Shelf

theorem worst_all {g : Gm} (hv : VG g) (sa da : Option Addr) (sc dc M : Nat) : ∀ (k : Nat) (s : St), Dom g s → (g.deps.length : Int) - s.turn = k → WorstC g sa sc da dc M s
  | 0, s, _, hk => worst_end g sa da sc dc M s (by omega)
  | k + 1, s, hs, hk => by
    refine worst_on g sa da sc dc M s (by omega) (hs.fit hv) hs.t0 ⟨hs.b1, by have := hs.b0; have := hv.2.2.2.1; omega⟩ fun x hx => ?_
    have hxd := hs.made hx
    have ht := made_turn hx
    refine best_any g sa da sc dc M x hxd (by omega) hv fun c hc => worst_all hv sa da sc dc M k (afterS x c) (hxd.after (by omega) (hc.imp id fun h => h.2)) ?_
    show (g.deps.length : Int) - (x.turn + 1) = k
    omega
theorem worst_ok {g : Gm} (hv : VG g) (sa da : Option Addr) (sc dc M : Nat) {s : St} (hs : Dom g s) : WorstC g sa sc da dc M s :=
  worst_all hv sa da sc dc M ((g.deps.length : Int) - s.turn).toNat s hs (by have := hs.tn; omega)
theorem best_ok {g : Gm} (hv : VG g) (sa da : Option Addr) (sc dc M : Nat) {x : St} (hx : Dom g x) (ht : x.turn < g.deps.length) : BestC g sa sc da dc M x :=
  best_any g sa da sc dc M x hx ht hv fun _ hc => worst_ok hv sa da sc dc M (hx.after ht (hc.imp id fun h => h.2))
/-- what Value answers -/
noncomputable def valG (g : Gm) : Int × Int := open Classical in if VG g then if SmG g then (WG g (beginS g), 0) else (0, 7) else (0, 1)
theorem valG_bad {g : Gm} (h : ¬ VG g) : valG g = (0, 1) := by unfold valG; rw [if_neg h]
theorem valG_big {g : Gm} (h : VG g) (h2 : ¬ SmG g) : valG g = (0, 7) := by unfold valG; rw [if_pos h, if_neg h2]
theorem valG_ok {g : Gm} (h : VG g) (h2 : SmG g) : valG g = (WG g (beginS g), 0) := by unfold valG; rw [if_pos h, if_pos h2]
theorem memo_new {g : Gm} {w : World} {M : Nat} (h : MapIs Try.prog 47 w M 0 (fun _ => none)) : Memo g w M := ⟨0, _, h, fun _ _ e => by cases e⟩
set_option maxRecDepth 100000 in
set_option maxHeartbeats 4000000 in
theorem value_any (g : Gm) (sa da : Option Addr) (sc dc : Nat) (w : World) (hG : GmAt w g sa da) (hF : GmFew g) : Calls Try.prog 8 #[gmV g sa sc da dc] w (RetB (.tuple #[.int .i64 (valG g).1, .int .i64 (valG g).2]) w) := by
  have HS := Lib.hid (fun (wy : World) (hb : Below w.heap.size w wy) => set_any g sa da sc dc wy (hG.later hb) hF)
  have HG := Lib.hid hG
  clear hG hF
  go_enter Try.func8, Try.ntmps8
  go_wp2_with fail
  refine calls_named ?_
  intro w0 hw0
  have hb0 : Below w.heap.size w w0 := by rw [hw0]; exact (by repeat (first | exact Below.refl _ _ | assumption | refine Below.drew ?_ | refine below_drewN ?_ _ | refine Below.alloc ?_ (by first | omega | (simp; done) | (simp; omega)) _ | refine Below.setCell ?_ (by first | omega | (simp; done) | (simp; omega)) _ | refine Below.trans ?_ (Below.mono (by assumption) (by first | omega | (simp; done) | (simp; omega)))))
  clear hw0
  refine Calls.mono (HS.out w0 hb0) ?_
  have HB0 := Lib.hid hb0
  clear hb0
  rintro e w1 ⟨hb, ⟨h1, rfl⟩ | ⟨h1, h2, rfl⟩ | ⟨h1, h2, M, hM, rfl, hmp⟩⟩
  · have HVAL := Lib.hid (valG_bad h1)
    have HB := Lib.hid (HB0.out.trans (hb.mono HB0.out.size))
    clear hb
    go_wp2_with fail
    refine bodyPost_ret (v := .tuple #[.int .i64 0, .int .i64 1]) (by simp [results, Try.f8, go_sem]) rfl ?_
    exact retB (by rw [HVAL.out]) (HB.out.trans (Below.mono (by repeat (first | exact Below.refl _ _ | assumption | refine Below.drew ?_ | refine below_drewN ?_ _ | refine Below.alloc ?_ (by first | omega | (simp; done) | (simp; omega)) _ | refine Below.setCell ?_ (by first | omega | (simp; done) | (simp; omega)) _ | refine Below.trans ?_ (Below.mono (by assumption) (by first | omega | (simp; done) | (simp; omega))))) HB.out.size))
  · have HVAL := Lib.hid (valG_big h1 h2)
    have HB := Lib.hid (HB0.out.trans (hb.mono HB0.out.size))
    clear hb
    go_wp2_with fail
    refine bodyPost_ret (v := .tuple #[.int .i64 0, .int .i64 7]) (by simp [results, Try.f8, go_sem]) rfl ?_
    exact retB (by rw [HVAL.out]) (HB.out.trans (Below.mono (by repeat (first | exact Below.refl _ _ | assumption | refine Below.drew ?_ | refine below_drewN ?_ _ | refine Below.alloc ?_ (by first | omega | (simp; done) | (simp; omega)) _ | refine Below.setCell ?_ (by first | omega | (simp; done) | (simp; omega)) _ | refine Below.trans ?_ (Below.mono (by assumption) (by first | omega | (simp; done) | (simp; omega))))) HB.out.size))
  · have HVAL := Lib.hid (valG_ok h1 h2)
    have HB := Lib.hid (HB0.out.trans (hb.mono HB0.out.size))
    have HMM := Lib.hid (memo_new (g := g) hmp)
    have HW := Lib.hid (worst_ok h1 sa da sc dc M (Dom.begin h1))
    have HM := Lib.hid (Nat.le_trans HB0.out.size hM)
    clear hb hmp hM h1 h2
    unfold bdV stV stC st14 at *
    go_wp2_with fail
    refine calls_named ?_
    intro w2 hw2
    have hb2 : Below w1.heap.size w1 w2 := by rw [hw2]; exact (by repeat (first | exact Below.refl _ _ | assumption | refine Below.drew ?_ | refine below_drewN ?_ _ | refine Below.alloc ?_ (by first | omega | (simp; done) | (simp; omega)) _ | refine Below.setCell ?_ (by first | omega | (simp; done) | (simp; omega)) _ | refine Below.trans ?_ (Below.mono (by assumption) (by first | omega | (simp; done) | (simp; omega)))))
    clear hw2
    refine Calls.mono (HW.out w2 (HMM.out.later hb2) (HG.out.later (HB.out.trans (hb2.mono HB.out.size)))) ?_
    rintro e w3 ⟨rfl, hc, hm⟩
    have HC := Lib.hid ((HB.out.trans (hb2.mono HB.out.size)).trans (hc.below (Nat.le_trans HB.out.size hb2.size) fun k e => by rw [e]; exact HM.out))
    clear hc hm hb2
    go_wp2_with fail
    refine bodyPost_ret (v := .tuple #[.int .i64 (WG g (beginS g)), .int .i64 0]) (by simp [results, Try.f8, go_sem]) rfl ?_
    exact retB (by rw [HVAL.out]) HC.out
end Go.Proofs.Ytgccankekflchaa

