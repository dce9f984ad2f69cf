
/- Contract of the laws' helper needs. -/
import Derived.Test.YtidbmllelnffdaaMatB
import Derived.Test.YtidbmllelnffdaaTaskO
import Derived.StillTailTactics
import Derived.BigRegion
namespace Go.Proofs.Ytidbmllelnffdaa
open Go.RowKit

/-- the matrix of what each task needs -/
def RetM (l : List Tk) (w : World) (e : Ending) (w' : World) : Prop := ∃ B g R, e = .returned (.slice (some ⟨g, 0, none⟩) l.length l.length) ∧ Mat w' B g l.length R (nd l) l.length ∧ Below w.heap.size w w'
theorem Mat.any {w : World} {B g n q i : Nat} {R : Nat → Nat} {M : Nat → List Bool} (h : Mat w B g n R M q) (hn : i < n) : ∃ v, w.cell? ⟨g, i, none⟩ = some v := by
  obtain ⟨c, h1, h2, h3⟩ := h
  exact ⟨c[i]'(by omega), by rw [h2.cell (by omega), List.getElem?_eq_getElem]⟩
theorem Mat.congr {w : World} {B g n : Nat} {R : Nat → Nat} {M M' : Nat → List Bool} (h : Mat w B g n R M n) (he : ∀ i, i < n → M i = M' i) : Mat w B g n R M' n := by
  obtain ⟨c, h1, h2, h3⟩ := h
  exact ⟨c, h1, h2, fun i hi hn => by rw [← he i hn]; exact h3 i hi hn⟩
/-- the rows below i hold what their tasks wait for -/
def DepTo (l : List Tk) (i : Nat) (M : Nat → List Bool) : Prop := ∀ i' k, i' < i → k < l.length → (mg M i' k = true ↔ Dep l i' k)
/-- row i holds the first r -/
def DepRow (l : List Tk) (i r : Nat) (M : Nat → List Bool) : Prop := ∀ k, k < l.length → (mg M i k = true ↔ ∃ r', r' < r ∧ (ig (tg l i).after r').toNat = k)
theorem mg_set1 {n i k : Nat} {M : Nat → List Bool} (h : (M i).length = n) (hk : k < n) (x : Bool) (i' k' : Nat) : mg (mset M i k x) i' k' = if i' = i ∧ k' = k then x else mg M i' k' := by
  unfold mg mset
  by_cases e : i' = i
  · subst e
    rw [if_pos rfl, bg_set (by omega)]
    by_cases e' : k = k'
    · subst e'; simp
    · rw [if_neg e', if_neg (fun h => e' h.2.symm)]
  · rw [if_neg e, if_neg (fun h => e h.1)]
theorem DepTo.push {l : List Tk} {i : Nat} {M : Nat → List Bool} (h : DepTo l i M) (r : List Bool) : DepTo l i (fun j => if j = i then r else M j) := fun i' k hi hk => by
  change bg (if i' = i then r else M i') k = true ↔ _
  rw [if_neg (by omega)]
  exact h i' k hi hk
theorem DepRow.start {l : List Tk} {i n : Nat} {M : Nat → List Bool} : DepRow l i 0 (fun j => if j = i then List.replicate n false else M j) := fun k hk => by
  change bg (if i = i then List.replicate n false else M i) k = true ↔ _
  rw [if_pos rfl]
  constructor
  · intro h
    have e : bg (List.replicate n false) k = false := by
      simp [bg, List.getElem?_replicate]
      split <;> rfl
    rw [e] at h
    cases h
  · rintro ⟨r', h, _⟩
    omega
theorem DepTo.set {l : List Tk} {i m n : Nat} {M : Nat → List Bool} (h : DepTo l i M) (hl : (M i).length = n) (hm : m < n) (x : Bool) : DepTo l i (mset M i m x) := fun i' k hi hk => by
  rw [mg_set1 hl hm, if_neg (by omega)]
  exact h i' k hi hk
theorem DepRow.step {l : List Tk} {i r m n : Nat} {M : Nat → List Bool} (h : DepRow l i r M) (hl : (M i).length = n) (hm : m < n) (he : ig (tg l i).after r = (m : Int)) : DepRow l i (r + 1) (mset M i m true) := fun k hk => by
  rw [mg_set1 hl hm]
  by_cases e : k = m
  · subst e
    rw [if_pos ⟨rfl, rfl⟩]
    exact ⟨fun _ => ⟨r, by omega, by rw [he]; rfl⟩, fun _ => rfl⟩
  · rw [if_neg (fun h => e h.2), h k hk]
    constructor
    · rintro ⟨r', h1, h2⟩
      exact ⟨r', by omega, h2⟩
    · rintro ⟨r', h1, h2⟩
      refine ⟨r', ?_, h2⟩
      by_cases e' : r' = r
      · subst e'
        rw [he, Int.toNat_natCast] at h2
        exact absurd h2.symm e
      · omega
theorem DepTo.next {l : List Tk} {i : Nat} {M : Nat → List Bool} (h : DepTo l i M) (h' : DepRow l i (tg l i).after.length M) : DepTo l (i + 1) M := fun i' k hi hk => by
  by_cases e : i' = i
  · subst e
    exact h' k hk
  · exact h i' k (by omega) hk

set_option maxRecDepth 100000 in
set_option maxHeartbeats 8000000 in
theorem needs_any (l : List Tk) (a : Option Addr) (cap : Nat) (w : World) (hT : Tasks w a l) (hv : VT l) :
    Calls Try.prog 23 #[.slice a l.length cap] w (RetM l w) := by
  have HV := Lib.hid hv
  have h40 := hv.1
  clear hv
  go_enter Try.func23, Try.ntmps23
  go_wp2_with (at_make; go_must (refine make_rows _ rfl _ _ rfl .i64 .i64 l.length rfl rfl (by omega) ?_); intro w1 ho1 hb1 hsz1)
  have hs1 := hb1.size
  have hm1 : Mat w1 w.heap.size w.heap.size l.length (fun _ => 0) (fun _ => []) 0 := Mat.start ho1 (by simp)
  clear ho1
  go_loopg [4] (l.length + 1) (fun k v4 wr => ∃ (i : Nat) (R : Nat → Nat) (M : Nat → List Bool), i ≤ l.length ∧ k + i = l.length + 1 ∧ v4 = .int .i64 i ∧ Below w.heap.size w wr ∧ Mat wr w.heap.size w.heap.size l.length R M i ∧ DepTo l i M)
  case atStart => exact ⟨0, _, _, by omega, by omega, rfl, hb1, hm1, fun i' k hi => absurd hi (by omega)⟩
  case round =>
    obtain ⟨ko, rfl⟩ : ∃ ko : Nat, ko = gk := ⟨_, rfl⟩
    obtain ⟨wo, rfl⟩ : ∃ wo : World, wo = wr := ⟨_, rfl⟩
    obtain ⟨i, R, M, hil, hki, rfl, hbel, hm, hdt⟩ := hrel
    have hsz := hbel.size
    have HDT := Lib.hid hdt
    have hmB := hm.lt.2
    clear hdt hm1 hb1 hsz1
    by_cases hlt : i < l.length
    · have hi1 : (i : Int) < (l.length : Int) := by omega
      have hal := after_len HV.out hlt
      go_wp2_with (at_make; go_must (refine make_bool _ rfl _ _ rfl .i64 .i64 l.length rfl rfl (by omega) ?_); intro w2 ho2 hb2 hsz2; go_must (have hm2 := hm.later hb2); go_must (obtain ⟨vv, hvv⟩ := hm2.any hlt); go_must (have hff := hm2.free i))
      have hs2 := hb2.size
      have hpu := hm.push hlt (by simp) hb2 ho2
      have hbx : Below w.heap.size w (w2.setCell ⟨w.heap.size, i, none⟩ (.slice (some ⟨wo.heap.size, 0, none⟩) l.length l.length)) := (by repeat (first | exact Below.refl _ _ | assumption | refine Below.drew ?_ | refine below_drewN ?_ _ | refine Below.alloc ?_ (by first | omega | (simp; done) | (simp; omega)) _ | refine Below.setCell ?_ (by first | omega | (simp; done) | (simp; omega)) _ | refine Below.trans ?_ (Below.mono (by assumption) (by first | omega | (simp; done) | (simp; omega)))))
      have hszx : wo.heap.size < (w2.setCell ⟨w.heap.size, i, none⟩ (.slice (some ⟨wo.heap.size, 0, none⟩) l.length l.length)).heap.size := by simpa using hsz2
      have HD1 := Lib.hid (HDT.out.push (List.replicate l.length false))
      have HD2 := Lib.hid (DepRow.start (l := l) (i := i) (n := l.length) (M := M))
      obtain ⟨R', hR'⟩ : ∃ R', R' = fun j => if j = i then wo.heap.size else R j := ⟨_, rfl⟩
      obtain ⟨M0, hM0⟩ : ∃ M0, M0 = fun j => if j = i then List.replicate l.length false else M j := ⟨_, rfl⟩
      rw [← hR', ← hM0] at hpu
      have HM0 := Lib.hid hM0
      clear hR' hM0 hm2 hvv hff hm
      go_loopg [5] ((tg l i).after.length + 1) (fun k v5 wr => ∃ (r : Nat) (M : Nat → List Bool), r ≤ (tg l i).after.length ∧ k + r = (tg l i).after.length + 1 ∧ v5 = .int .i64 r ∧ Below w.heap.size w wr ∧ Mat wr w.heap.size w.heap.size l.length R' M (i + 1) ∧ DepTo l i M ∧ DepRow l i r M)
      case atStart => exact ⟨0, M0, by omega, by omega, rfl, hbx, hpu, by rw [HM0.out]; exact HD1.out, by rw [HM0.out]; exact HD2.out⟩
      case round =>
        obtain ⟨wq, rfl⟩ : ∃ wq : World, wq = wr := ⟨_, rfl⟩
        obtain ⟨r, M1, hrl, hkr, rfl, hbr, hmr, hd1, hd2⟩ := hrel
        have hszr := hbr.size
        have HE1 := Lib.hid hd1
        have HE2 := Lib.hid hd2
        clear hd1 hd2 hpu hbx
        obtain ⟨b, off, aa, ac, rfl, c0, c1, c2, c3, hIa⟩ := (hT.later hbr) i hlt
        by_cases hlr : r < (tg l i).after.length
        · obtain ⟨ab, aoff, rfl, fa⟩ := hIa.fam (by omega)
          have g12 := good_in ((HV.out.2 i hlt).2.2.2.2) hlr
          obtain ⟨m, hmm⟩ : ∃ m : Nat, ig (tg l i).after r = (m : Int) := ⟨(ig (tg l i).after r).toNat, by omega⟩
          have hml : m < l.length := by omega
          have hcq : wq.cell? ⟨ab, aoff + r, none⟩ = some (.int .i64 (m : Int)) := by rw [fa r hlr, hmm]
          have hcg := hmr.cell (i := i) (by omega) hlt
          have hcm := hmr.at (i := i) (by omega) hlt hml
          have hfm := hmr.atFree (i := i) (by omega) hlt m
          have hRB := hmr.rowLt (i := i) (by omega) hlt
          have hgB := hmr.lt
          have hrow := (hmr.row (i := i) (by omega) hlt).2
          have HN1 := Lib.hid (HE1.out.set hrow hml true)
          have HN2 := Lib.hid (HE2.out.step hrow hml hmm)
          have hm1 : (m : Int) < (l.length : Int) := by omega
          have hr1 : (r : Int) < ((tg l i).after.length : Int) := by omega
          have HMS := Lib.hid (hmr.set (i := i) (by omega) hlt m true)
          have HRW := Lib.hid hrow
          clear fa g12 hmm hrow
          go_wp2_with fail
          go_still_tail 13, (by kernel_rfl)
          change wpList _ _ _ _ _ wq.drew
          go_wp2
          go_roundg (gk - 1)
          case measure => omega
          case rel => exact ⟨r + 1, mset M1 i m true, by omega, by omega, by go_num, (by repeat (first | exact Below.refl _ _ | assumption | refine Below.drew ?_ | refine below_drewN ?_ _ | refine Below.alloc ?_ (by first | omega | (simp; done) | (simp; omega)) _ | refine Below.setCell ?_ (by first | omega | (simp; done) | (simp; omega)) _ | refine Below.trans ?_ (Below.mono (by assumption) (by first | omega | (simp; done) | (simp; omega))))), HMS.out.later (by repeat (first | exact Below.refl _ _ | assumption | refine Below.drew ?_ | refine below_drewN ?_ _ | refine Below.alloc ?_ (by first | omega | (simp; done) | (simp; omega)) _ | refine Below.setCell ?_ (by first | omega | (simp; done) | (simp; omega)) _ | refine Below.trans ?_ (Below.mono (by assumption) (by first | omega | (simp; done) | (simp; omega))))), HN1.out, HN2.out⟩
        · obtain rfl : r = (tg l i).after.length := by omega
          go_wp2_with fail
          go_roundg (ko - 1)
          case measure => omega
          case rel => exact ⟨i + 1, R', M1, by omega, by omega, by go_num, (by repeat (first | exact Below.refl _ _ | assumption | refine Below.drew ?_ | refine below_drewN ?_ _ | refine Below.alloc ?_ (by first | omega | (simp; done) | (simp; omega)) _ | refine Below.setCell ?_ (by first | omega | (simp; done) | (simp; omega)) _ | refine Below.trans ?_ (Below.mono (by assumption) (by first | omega | (simp; done) | (simp; omega))))), hmr, HE1.out.next HE2.out⟩
    · obtain rfl : i = l.length := by omega
      have hfp : FP l 0 M := FP.start (fun i hi => (hm.row hi hi).2) fun i k hi hk => HDT.out i k hi hk
      have HFP := Lib.hid hfp
      clear hfp
      go_wp2_with fail
      go_loopg [6] (l.length + 1) (fun k v6 wr => ∃ (p : Nat) (M : Nat → List Bool), p ≤ l.length ∧ k + p = l.length + 1 ∧ v6 = .int .i64 p ∧ Below w.heap.size w wr ∧ Mat wr w.heap.size w.heap.size l.length R M l.length ∧ FP l p M)
      case atStart => exact ⟨0, M, by omega, by omega, rfl, hbel, hm, HFP.out⟩
      case round =>
        obtain ⟨kp, rfl⟩ : ∃ kp : Nat, kp = gk := ⟨_, rfl⟩
        obtain ⟨wp, rfl⟩ : ∃ wp : World, wp = wr := ⟨_, rfl⟩
        obtain ⟨p, Mp, hpl, hkp, rfl, hbp, hmp, hfp⟩ := hrel
        have hszp := hbp.size
        have HFQ := Lib.hid hfp
        clear hfp hm hbel
        by_cases hlp : p < l.length
        · go_wp2_with fail
          go_loopg [7] (l.length + 1) (fun k v7 wr => ∃ (i : Nat) (M : Nat → List Bool), i ≤ l.length ∧ k + i = l.length + 1 ∧ v7 = .int .i64 i ∧ Below w.heap.size w wr ∧ Mat wr w.heap.size w.heap.size l.length R M l.length ∧ FS l p i 0 M)
          case atStart => exact ⟨0, Mp, by omega, by omega, rfl, hbp, hmp, HFQ.out⟩
          case round =>
            obtain ⟨kj, rfl⟩ : ∃ kj : Nat, kj = gk := ⟨_, rfl⟩
            obtain ⟨wj, rfl⟩ : ∃ wj : World, wj = wr := ⟨_, rfl⟩
            obtain ⟨i, Mi, hil, hki, rfl, hbi, hmi, hfs⟩ := hrel
            have hszi := hbi.size
            have HFI := Lib.hid hfs
            clear hfs hmp hbp
            by_cases hlt : i < l.length
            · go_wp2_with fail
              go_loopg [8] (l.length + 1) (fun k v8 wr => ∃ (c : Nat) (M : Nat → List Bool), c ≤ l.length ∧ k + c = l.length + 1 ∧ v8 = .int .i64 c ∧ Below w.heap.size w wr ∧ Mat wr w.heap.size w.heap.size l.length R M l.length ∧ FS l p i c M)
              case atStart => exact ⟨0, Mi, by omega, by omega, rfl, hbi, hmi, HFI.out⟩
              case round =>
                obtain ⟨wq, rfl⟩ : ∃ wq : World, wq = wr := ⟨_, rfl⟩
                obtain ⟨c, Mc, hcl, hkc, rfl, hbc, hmc, hfc⟩ := hrel
                have hszc := hbc.size
                have HFC := Lib.hid hfc
                clear hfc hmi hbi
                by_cases hlc : c < l.length
                · have hi1 : (i : Int) < (l.length : Int) := by omega
                  have hp1 : (p : Int) < (l.length : Int) := by omega
                  have hc1 : (c : Int) < (l.length : Int) := by omega
                  have cg := hmc.cell hlt hlt
                  have cp := hmc.cell hlp hlp
                  have cic := hmc.at hlt hlt hlc
                  have cip := hmc.at hlt hlt hlp
                  have cpc := hmc.at hlp hlp hlc
                  have fic := hmc.atFree hlt hlt c
                  have hRB := hmc.rowLt hlt hlt
                  have hRP := hmc.rowLt hlp hlp
                  have hgB := hmc.lt
                  have HST := Lib.hid (fun x (hx : x = (mg Mc i c || mg Mc i p && mg Mc p c)) => HFC.out.step hlp hlt hlc hx)
                  have HMS := Lib.hid (fun x => hmc.set hlt hlt c x)
                  obtain ⟨x, hx⟩ : ∃ x, mg Mc i c = x := ⟨_, rfl⟩
                  obtain ⟨y, hy⟩ : ∃ y, mg Mc i p = y := ⟨_, rfl⟩
                  obtain ⟨z, hz⟩ : ∃ z, mg Mc p c = z := ⟨_, rfl⟩
                  rw [hx] at cic
                  rw [hy] at cip
                  rw [hz] at cpc
                  have HX := Lib.hid hx
                  have HY := Lib.hid hy
                  have HZ := Lib.hid hz
                  clear hx hy hz
                  cases x
                  · cases y
                    · go_wp2_with fail
                      go_region
                      go_wp2
                      go_roundg (gk - 1)
                      case measure => omega
                      case rel => exact ⟨c + 1, mset Mc i c false, by omega, by omega, by go_num, (by repeat (first | exact Below.refl _ _ | assumption | refine Below.drew ?_ | refine below_drewN ?_ _ | refine Below.alloc ?_ (by first | omega | (simp; done) | (simp; omega)) _ | refine Below.setCell ?_ (by first | omega | (simp; done) | (simp; omega)) _ | refine Below.trans ?_ (Below.mono (by assumption) (by first | omega | (simp; done) | (simp; omega))))), (HMS.out false).later (by repeat (first | exact Below.refl _ _ | assumption | refine Below.drew ?_ | refine below_drewN ?_ _ | refine Below.alloc ?_ (by first | omega | (simp; done) | (simp; omega)) _ | refine Below.setCell ?_ (by first | omega | (simp; done) | (simp; omega)) _ | refine Below.trans ?_ (Below.mono (by assumption) (by first | omega | (simp; done) | (simp; omega))))), HST.out false (by
                        have h1 := HX.out
                        have h2 := HY.out
                        simp [h1, h2])⟩
                    · go_wp2_with fail
                      go_region
                      go_wp2
                      go_roundg (gk - 1)
                      case measure => omega
                      case rel => exact ⟨c + 1, mset Mc i c z, by omega, by omega, by go_num, (by repeat (first | exact Below.refl _ _ | assumption | refine Below.drew ?_ | refine below_drewN ?_ _ | refine Below.alloc ?_ (by first | omega | (simp; done) | (simp; omega)) _ | refine Below.setCell ?_ (by first | omega | (simp; done) | (simp; omega)) _ | refine Below.trans ?_ (Below.mono (by assumption) (by first | omega | (simp; done) | (simp; omega))))), (HMS.out z).later (by repeat (first | exact Below.refl _ _ | assumption | refine Below.drew ?_ | refine below_drewN ?_ _ | refine Below.alloc ?_ (by first | omega | (simp; done) | (simp; omega)) _ | refine Below.setCell ?_ (by first | omega | (simp; done) | (simp; omega)) _ | refine Below.trans ?_ (Below.mono (by assumption) (by first | omega | (simp; done) | (simp; omega))))), HST.out z (by
                        have h1 := HX.out
                        have h2 := HY.out
                        have h3 := HZ.out
                        simp [h1, h2, h3])⟩
                  · go_wp2_with fail
                    go_region
                    go_wp2
                    go_roundg (gk - 1)
                    case measure => omega
                    case rel => exact ⟨c + 1, mset Mc i c true, by omega, by omega, by go_num, (by repeat (first | exact Below.refl _ _ | assumption | refine Below.drew ?_ | refine below_drewN ?_ _ | refine Below.alloc ?_ (by first | omega | (simp; done) | (simp; omega)) _ | refine Below.setCell ?_ (by first | omega | (simp; done) | (simp; omega)) _ | refine Below.trans ?_ (Below.mono (by assumption) (by first | omega | (simp; done) | (simp; omega))))), (HMS.out true).later (by repeat (first | exact Below.refl _ _ | assumption | refine Below.drew ?_ | refine below_drewN ?_ _ | refine Below.alloc ?_ (by first | omega | (simp; done) | (simp; omega)) _ | refine Below.setCell ?_ (by first | omega | (simp; done) | (simp; omega)) _ | refine Below.trans ?_ (Below.mono (by assumption) (by first | omega | (simp; done) | (simp; omega))))), HST.out true (by
                        have h1 := HX.out
                        simp [h1])⟩
                · go_wp2_with fail
                  go_roundg (kj - 1)
                  case measure => omega
                  case rel => exact ⟨i + 1, Mc, by omega, by omega, by go_num, (by repeat (first | exact Below.refl _ _ | assumption | refine Below.drew ?_ | refine below_drewN ?_ _ | refine Below.alloc ?_ (by first | omega | (simp; done) | (simp; omega)) _ | refine Below.setCell ?_ (by first | omega | (simp; done) | (simp; omega)) _ | refine Below.trans ?_ (Below.mono (by assumption) (by first | omega | (simp; done) | (simp; omega))))), hmc, HFC.out.row (by omega)⟩
            · go_wp2_with fail
              go_roundg (kp - 1)
              case measure => omega
              case rel => exact ⟨p + 1, Mi, by omega, by omega, by go_num, (by repeat (first | exact Below.refl _ _ | assumption | refine Below.drew ?_ | refine below_drewN ?_ _ | refine Below.alloc ?_ (by first | omega | (simp; done) | (simp; omega)) _ | refine Below.setCell ?_ (by first | omega | (simp; done) | (simp; omega)) _ | refine Below.trans ?_ (Below.mono (by assumption) (by first | omega | (simp; done) | (simp; omega))))), hmi, HFI.out.phase (by omega)⟩
        · obtain rfl : p = l.length := by omega
          have hres := hmp.congr (M' := nd l) fun i hi => HFQ.out.done HV.out hi
          have HRS := Lib.hid hres
          clear hres
          go_wp2_with fail
          go_ret
          exact ⟨w.heap.size, w.heap.size, R, rfl, HRS.out, (by repeat (first | exact Below.refl _ _ | assumption | refine Below.drew ?_ | refine below_drewN ?_ _ | refine Below.alloc ?_ (by first | omega | (simp; done) | (simp; omega)) _ | refine Below.setCell ?_ (by first | omega | (simp; done) | (simp; omega)) _ | refine Below.trans ?_ (Below.mono (by assumption) (by first | omega | (simp; done) | (simp; omega)))))⟩
end Go.Proofs.Ytidbmllelnffdaa
