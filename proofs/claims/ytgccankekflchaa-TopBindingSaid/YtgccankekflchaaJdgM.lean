
/- Contracts of package judge: Accept where nothing is to be followed. -/
import Derived.Test.YtgccankekflchaaJdgL
namespace Go.Proofs.Ytgccankekflchaa
open Go.RowKit

set_option maxRecDepth 100000 in
set_option maxHeartbeats 4000000 in
theorem accept_no1 (g : Gm) (sa da pa : Option Addr) (sc dc pc : Nat) (plan : List Pos) (bound : Int) (w : World) (hG : GmAt w g sa da) (hF : GmFew g) (hv : ¬ VG g) :
    Calls Try.prog 9 #[gmV g sa sc da dc, .slice pa plan.length pc, .int .i64 bound] w (RetB (.bool (accB g plan bound)) w) := by
  have HN := Lib.hid (accB_false (g := g) (plan := plan) (bound := bound) fun h => hv h.1)
  have HV := Lib.hid (vgB_false hv)
  have HG := Lib.hid hG
  clear hv hG
  go_enter Try.func9, Try.ntmps9
  go_wp2_with fail
  refine Calls.mono (valid_any g sa da sc dc _ (HG.out.later (by repeat (first | exact Below.refl _ _ | assumption | refine Below.drew ?_ | refine below_drewN ?_ _ | refine Below.alloc ?_ (by first | omega | (simp; done) | (simp; omega)) _ | refine Below.setCell ?_ (by first | omega | (simp; done) | (simp; omega)) _ | refine Below.trans ?_ (Below.mono (by assumption) (by first | omega | (simp; done) | (simp; omega)))))) hF) ?_
  rw [HV.out]
  rintro e w1 ⟨rfl, hb1⟩; have hs1 := hb1.size; (try simp at hs1)
  go_wp2_with fail
  go_ret
  exact retB (vbool HN.out.symm) (by repeat (first | exact Below.refl _ _ | assumption | refine Below.drew ?_ | refine below_drewN ?_ _ | refine Below.alloc ?_ (by first | omega | (simp; done) | (simp; omega)) _ | refine Below.setCell ?_ (by first | omega | (simp; done) | (simp; omega)) _ | refine Below.trans ?_ (Below.mono (by assumption) (by first | omega | (simp; done) | (simp; omega)))))
set_option maxRecDepth 100000 in
set_option maxHeartbeats 4000000 in
theorem accept_no2 (g : Gm) (sa da pa : Option Addr) (sc dc pc : Nat) (plan : List Pos) (bound : Int) (w : World) (hG : GmAt w g sa da) (hF : GmFew g) (hv : VG g) (hd : g.deps = []) :
    Calls Try.prog 9 #[gmV g sa sc da dc, .slice pa plan.length pc, .int .i64 bound] w (RetB (.bool (accB g plan bound)) w) := by
  have hn : accB g plan bound = decide (0 ≤ bound) := by
    by_cases h : 0 ≤ bound
    · rw [decide_eq_true h]; exact accB_true ((hv.nodep hd).2 h)
    · rw [decide_eq_false h]; exact accB_false fun ha => h ((hv.nodep hd).1 ha)
  have HN := Lib.hid hn
  have hl : g.deps.length = 0 := by rw [hd]; rfl
  have HV := Lib.hid (vgB_true hv)
  have HG := Lib.hid hG
  clear hv hG hd hn
  unfold gmV
  rw [hl]
  go_enter Try.func9, Try.ntmps9
  go_wp2_with fail
  have hc := valid_any g sa da sc dc (w.alloc (Obj.cells #[.slice sa g.starts.length sc, .slice da 0 dc, .int .i64 g.budget] 25)) (HG.out.later (by repeat (first | exact Below.refl _ _ | assumption | refine Below.drew ?_ | refine below_drewN ?_ _ | refine Below.alloc ?_ (by first | omega | (simp; done) | (simp; omega)) _ | refine Below.setCell ?_ (by first | omega | (simp; done) | (simp; omega)) _ | refine Below.trans ?_ (Below.mono (by assumption) (by first | omega | (simp; done) | (simp; omega)))))) hF
  unfold gmV at hc
  rw [hl] at hc
  refine Calls.mono hc ?_
  rw [HV.out]
  rintro e w1 ⟨rfl, hb1⟩; have hs1 := hb1.size; (try simp at hs1)
  have c1 := cell_later hb1 (a := ⟨w.heap.size, 1, none⟩) (v := .slice da 0 dc) (by simp [go_sem])
  go_wp2_with fail
  go_ret
  exact retB (vbool HN.out.symm) (by repeat (first | exact Below.refl _ _ | assumption | refine Below.drew ?_ | refine below_drewN ?_ _ | refine Below.alloc ?_ (by first | omega | (simp; done) | (simp; omega)) _ | refine Below.setCell ?_ (by first | omega | (simp; done) | (simp; omega)) _ | refine Below.trans ?_ (Below.mono (by assumption) (by first | omega | (simp; done) | (simp; omega)))))
end Go.Proofs.Ytgccankekflchaa

