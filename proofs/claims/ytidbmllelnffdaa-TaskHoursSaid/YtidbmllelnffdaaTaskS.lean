
/- Contracts of package task: the reference's Undo, from the state of work on. -/
import Derived.Test.YtidbmllelnffdaaTaskQ
namespace Go.Proofs.Ytidbmllelnffdaa
open Go.RowKit

set_option maxRecDepth 100000 in
set_option maxHeartbeats 8000000 in
theorem rundo_five (l : List Tk) (d : List Bool) (t : Nat) (a da : Option Addr) (cap dc : Nat) (w : World) (hT : Tasks w a l) (hD : Bools w da d) (hv : VT l) (hd : d.length = l.length) (hc : ¬ (orderOf l).length < l.length) (ht : t < l.length) (h5 : ¬ (clo l d = true ∧ bg d t = true)) :
    Calls Try.prog 16 #[.slice a l.length cap, .slice da d.length dc, .int .i64 (t : Int)] w (RetBE [] 5 w) := by
  have HV := Lib.hid hv
  have h40 := hv.1
  have e : ((l.length : Int) != (d.length : Int)) = false := by simp; omega
  have e2 : decide (l.length ≤ t) = false := by simp; omega
  have e3 : decide ((t : Int) < 0) = false := by simp
  have hO : ordE l = 0 := by unfold ordE; rw [if_neg hc]
  have HO := Lib.hid hO
  have HDL := Lib.hid hd
  cases hcl : clo l d
  · have HCL := Lib.hid hcl
    clear hv hc hO h5 hd hcl
    go_enter Try.func16, Try.ntmps16
    go_wp2_with fail
    refine Calls.mono (valid_at l a cap _ hT HV.out).2 ?_
    rintro e w1 ⟨rfl, hb1⟩; have hs1 := hb1.size; (try simp at hs1)
    go_wp2_with fail
    refine Calls.mono (rorder_at l 0 a cap _ (hT.later (by repeat (first | exact Below.refl _ _ | assumption | refine Below.drew ?_ | refine below_drewN ?_ _ | refine Below.alloc ?_ (by first | omega | (simp; done) | (simp; omega)) _ | refine Below.setCell ?_ (by first | omega | (simp; done) | (simp; omega)) _ | refine Below.trans ?_ (Below.mono (by assumption) (by first | omega | (simp; done) | (simp; omega)))))) HV.out HO.out) ?_
    rintro e w2 ⟨oa, oc, rfl, hI, hb2⟩
    have hs2 := hb2.size
    have hbw : Below w.heap.size w w2 := (by repeat (first | exact Below.refl _ _ | assumption | refine Below.drew ?_ | refine below_drewN ?_ _ | refine Below.alloc ?_ (by first | omega | (simp; done) | (simp; omega)) _ | refine Below.setCell ?_ (by first | omega | (simp; done) | (simp; omega)) _ | refine Below.trans ?_ (Below.mono (by assumption) (by first | omega | (simp; done) | (simp; omega)))))
    go_wp2_with fail
    refine Calls.mono (rclosed_any l d _ a da cap dc _ (hT.later (by repeat (first | exact Below.refl _ _ | assumption | refine Below.drew ?_ | refine below_drewN ?_ _ | refine Below.alloc ?_ (by first | omega | (simp; done) | (simp; omega)) _ | refine Below.setCell ?_ (by first | omega | (simp; done) | (simp; omega)) _ | refine Below.trans ?_ (Below.mono (by assumption) (by first | omega | (simp; done) | (simp; omega)))))) (hD.later (by repeat (first | exact Below.refl _ _ | assumption | refine Below.drew ?_ | refine below_drewN ?_ _ | refine Below.alloc ?_ (by first | omega | (simp; done) | (simp; omega)) _ | refine Below.setCell ?_ (by first | omega | (simp; done) | (simp; omega)) _ | refine Below.trans ?_ (Below.mono (by assumption) (by first | omega | (simp; done) | (simp; omega)))))) HV.out HDL.out HDL.out) ?_
    rw [HCL.out]
    rintro e w3 ⟨rfl, rfl⟩
    go_wp2_with fail
    go_ret2
    exact ⟨none, 0, rfl, Bools.nil _ _, (by repeat (first | exact Below.refl _ _ | assumption | refine Below.drew ?_ | refine below_drewN ?_ _ | refine Below.alloc ?_ (by first | omega | (simp; done) | (simp; omega)) _ | refine Below.setCell ?_ (by first | omega | (simp; done) | (simp; omega)) _ | refine Below.trans ?_ (Below.mono (by assumption) (by first | omega | (simp; done) | (simp; omega)))))⟩
  · have hbt : bg d t = false := by
      cases hb : bg d t
      · rfl
      · exact absurd ⟨hcl, hb⟩ h5
    have HCL := Lib.hid hcl
    have HBT := Lib.hid hbt
    clear hv hc hO h5 hd hcl hbt
    go_enter Try.func16, Try.ntmps16
    go_wp2_with fail
    refine Calls.mono (valid_at l a cap _ hT HV.out).2 ?_
    rintro e w1 ⟨rfl, hb1⟩; have hs1 := hb1.size; (try simp at hs1)
    go_wp2_with fail
    refine Calls.mono (rorder_at l 0 a cap _ (hT.later (by repeat (first | exact Below.refl _ _ | assumption | refine Below.drew ?_ | refine below_drewN ?_ _ | refine Below.alloc ?_ (by first | omega | (simp; done) | (simp; omega)) _ | refine Below.setCell ?_ (by first | omega | (simp; done) | (simp; omega)) _ | refine Below.trans ?_ (Below.mono (by assumption) (by first | omega | (simp; done) | (simp; omega)))))) HV.out HO.out) ?_
    rintro e w2 ⟨oa, oc, rfl, hI, hb2⟩
    have hs2 := hb2.size
    have hbw : Below w.heap.size w w2 := (by repeat (first | exact Below.refl _ _ | assumption | refine Below.drew ?_ | refine below_drewN ?_ _ | refine Below.alloc ?_ (by first | omega | (simp; done) | (simp; omega)) _ | refine Below.setCell ?_ (by first | omega | (simp; done) | (simp; omega)) _ | refine Below.trans ?_ (Below.mono (by assumption) (by first | omega | (simp; done) | (simp; omega)))))
    go_wp2_with fail
    refine Calls.mono (rclosed_any l d _ a da cap dc _ (hT.later (by repeat (first | exact Below.refl _ _ | assumption | refine Below.drew ?_ | refine below_drewN ?_ _ | refine Below.alloc ?_ (by first | omega | (simp; done) | (simp; omega)) _ | refine Below.setCell ?_ (by first | omega | (simp; done) | (simp; omega)) _ | refine Below.trans ?_ (Below.mono (by assumption) (by first | omega | (simp; done) | (simp; omega)))))) (hD.later (by repeat (first | exact Below.refl _ _ | assumption | refine Below.drew ?_ | refine below_drewN ?_ _ | refine Below.alloc ?_ (by first | omega | (simp; done) | (simp; omega)) _ | refine Below.setCell ?_ (by first | omega | (simp; done) | (simp; omega)) _ | refine Below.trans ?_ (Below.mono (by assumption) (by first | omega | (simp; done) | (simp; omega)))))) HV.out HDL.out HDL.out) ?_
    rw [HCL.out]
    rintro e w3 ⟨rfl, rfl⟩
    obtain ⟨db, doff, rfl, fd⟩ := (hD.later hbw).fam (by have := HDL.out; omega)
    have hdt := fd t (by have := HDL.out; omega)
    rw [HBT.out] at hdt
    have hi1 : (t : Int) < (d.length : Int) := by have := HDL.out; omega
    clear fd
    go_wp2_with fail
    go_ret2
    exact ⟨none, 0, rfl, Bools.nil _ _, (by repeat (first | exact Below.refl _ _ | assumption | refine Below.drew ?_ | refine below_drewN ?_ _ | refine Below.alloc ?_ (by first | omega | (simp; done) | (simp; omega)) _ | refine Below.setCell ?_ (by first | omega | (simp; done) | (simp; omega)) _ | refine Below.trans ?_ (Below.mono (by assumption) (by first | omega | (simp; done) | (simp; omega)))))⟩

set_option maxRecDepth 100000 in
set_option maxHeartbeats 8000000 in
theorem rundo_ok (l : List Tk) (d : List Bool) (t : Nat) (a da : Option Addr) (cap dc : Nat) (w : World) (hT : Tasks w a l) (hD : Bools w da d) (hv : VT l) (hd : d.length = l.length) (hc : ¬ (orderOf l).length < l.length) (ht : t < l.length) (hcl : clo l d = true) (hbt : bg d t = true) :
    Calls Try.prog 16 #[.slice a l.length cap, .slice da d.length dc, .int .i64 (t : Int)] w (RetBE (und l d t) 0 w) := by
  have HV := Lib.hid hv
  have h40 := hv.1
  have e : ((l.length : Int) != (d.length : Int)) = false := by simp; omega
  have e2 : decide (l.length ≤ t) = false := by simp; omega
  have e3 : decide ((t : Int) < 0) = false := by simp
  have hO : ordE l = 0 := by unfold ordE; rw [if_neg hc]
  have HO := Lib.hid hO
  have HDL := Lib.hid hd
  have HCL := Lib.hid hcl
  have HBT := Lib.hid hbt
  clear hv hc hO hd hcl hbt
  go_enter Try.func16, Try.ntmps16
  go_wp2_with fail
  refine Calls.mono (valid_at l a cap _ hT HV.out).2 ?_
  rintro e w1 ⟨rfl, hb1⟩; have hs1 := hb1.size; (try simp at hs1)
  go_wp2_with fail
  refine Calls.mono (rorder_at l 0 a cap _ (hT.later (by repeat (first | exact Below.refl _ _ | assumption | refine Below.drew ?_ | refine below_drewN ?_ _ | refine Below.alloc ?_ (by first | omega | (simp; done) | (simp; omega)) _ | refine Below.setCell ?_ (by first | omega | (simp; done) | (simp; omega)) _ | refine Below.trans ?_ (Below.mono (by assumption) (by first | omega | (simp; done) | (simp; omega)))))) HV.out HO.out) ?_
  rintro e w2 ⟨oa, oc, rfl, hI, hb2⟩
  have hs2 := hb2.size
  have hbw : Below w.heap.size w w2 := (by repeat (first | exact Below.refl _ _ | assumption | refine Below.drew ?_ | refine below_drewN ?_ _ | refine Below.alloc ?_ (by first | omega | (simp; done) | (simp; omega)) _ | refine Below.setCell ?_ (by first | omega | (simp; done) | (simp; omega)) _ | refine Below.trans ?_ (Below.mono (by assumption) (by first | omega | (simp; done) | (simp; omega)))))
  clear hb1 hb2 hI
  go_wp2_with fail
  refine Calls.mono (rclosed_any l d _ a da cap dc _ (hT.later (by repeat (first | exact Below.refl _ _ | assumption | refine Below.drew ?_ | refine below_drewN ?_ _ | refine Below.alloc ?_ (by first | omega | (simp; done) | (simp; omega)) _ | refine Below.setCell ?_ (by first | omega | (simp; done) | (simp; omega)) _ | refine Below.trans ?_ (Below.mono (by assumption) (by first | omega | (simp; done) | (simp; omega)))))) (hD.later (by repeat (first | exact Below.refl _ _ | assumption | refine Below.drew ?_ | refine below_drewN ?_ _ | refine Below.alloc ?_ (by first | omega | (simp; done) | (simp; omega)) _ | refine Below.setCell ?_ (by first | omega | (simp; done) | (simp; omega)) _ | refine Below.trans ?_ (Below.mono (by assumption) (by first | omega | (simp; done) | (simp; omega)))))) HV.out HDL.out HDL.out) ?_
  rw [HCL.out]
  rintro e w3 ⟨rfl, rfl⟩
  have hDo := hD.later hbw
  obtain ⟨db, doff, rfl, fd⟩ := hDo.fam (by have := HDL.out; omega)
  have hdt := fd t (by have := HDL.out; omega)
  rw [HBT.out] at hdt
  have hi1 : (t : Int) < (d.length : Int) := by have := HDL.out; omega
  have hi2 : (t : Int) < (l.length : Int) := by omega
  have hrl : ((List.replicate l.length false).length : Int) = l.length := by simp
  clear fd
  go_wp2_with (at_make; go_must (refine make_bool _ rfl _ _ rfl .i64 .i64 l.length rfl rfl (by omega) ?_); intro w3 ho3 hb3 hsz3; go_must (have hdf := ho3.free t); go_must (have hdc := ho3.cell (j := t) (by simp; omega)))
  have hg0 := ho3.set t true
  have hbw3 : Below w.heap.size w (w3.setCell ⟨w2.heap.size, t, none⟩ (.bool true)) := (by repeat (first | exact Below.refl _ _ | assumption | refine Below.drew ?_ | refine below_drewN ?_ _ | refine Below.alloc ?_ (by first | omega | (simp; done) | (simp; omega)) _ | refine Below.setCell ?_ (by first | omega | (simp; done) | (simp; omega)) _ | refine Below.trans ?_ (Below.mono (by assumption) (by first | omega | (simp; done) | (simp; omega)))))
  go_loopg [11] (l.length + 1) (fun k v11 wr => ∃ (p : Nat) (gl : List Bool), p ≤ l.length ∧ k + p = l.length + 1 ∧ v11 = .int .i64 p ∧ Below w.heap.size w wr ∧ OwnB wr w.heap.size w2.heap.size gl ∧ GI l t gl ∧ PP l p gl)
  case atStart => exact ⟨0, _, by omega, by omega, rfl, (by repeat (first | exact Below.refl _ _ | assumption | refine Below.drew ?_ | refine below_drewN ?_ _ | refine Below.alloc ?_ (by first | omega | (simp; done) | (simp; omega)) _ | refine Below.setCell ?_ (by first | omega | (simp; done) | (simp; omega)) _ | refine Below.trans ?_ (Below.mono (by assumption) (by first | omega | (simp; done) | (simp; omega))))), hg0.mono (by omega), GI.start (by omega), PP.start (GI.start (by omega)) (by omega)⟩
  case round =>
    obtain ⟨ko, rfl⟩ : ∃ ko : Nat, ko = gk := ⟨_, rfl⟩
    obtain ⟨wo, rfl⟩ : ∃ wo : World, wo = wr := ⟨_, rfl⟩
    obtain ⟨p, gl, hp, hkp, rfl, hbel, hown, hgi, hpp⟩ := hrel
    have hsz := hbel.size
    have HGI := Lib.hid hgi
    have HPP := Lib.hid hpp
    have hgB := hown.lt.2
    clear hgi hpp ho3 hb3 hsz3 hg0 hbw3 hdt hDo hrl hdf hdc
    by_cases hlp : p < l.length
    · go_wp2_with fail
      go_loopg [12] (l.length + 1) (fun k v12 wr => ∃ (i : Nat) (gi : List Bool), i ≤ l.length ∧ k + i = l.length + 1 ∧ v12 = .int .i64 i ∧ Below w.heap.size w wr ∧ OwnB wr w.heap.size w2.heap.size gi ∧ GI l t gi ∧ PS l gl gi i 0)
      case atStart => exact ⟨0, gl, by omega, by omega, rfl, hbel, hown, HGI.out, PS.start l gl⟩
      case round =>
        obtain ⟨ki, rfl⟩ : ∃ ki : Nat, ki = gk := ⟨_, rfl⟩
        obtain ⟨wi, rfl⟩ : ∃ wi : World, wi = wr := ⟨_, rfl⟩
        obtain ⟨i, gi, hil, hki, rfl, hbi, howi, hgii, hps⟩ := hrel
        have hszi := hbi.size
        have HGJ := Lib.hid hgii
        have HPS := Lib.hid hps
        have hgBi := howi.lt.2
        clear hgii hps
        by_cases hlt : i < l.length
        · have hi1 : (i : Int) < (l.length : Int) := by omega
          have hal := after_len HV.out hlt
          go_wp2_with fail
          go_loopg [13] ((tg l i).after.length + 1) (fun k v13 wr => ∃ (r : Nat) (gr : List Bool), r ≤ (tg l i).after.length ∧ k + r = (tg l i).after.length + 1 ∧ v13 = .int .i64 r ∧ Below w.heap.size w wr ∧ OwnB wr w.heap.size w2.heap.size gr ∧ GI l t gr ∧ PS l gl gr i r)
          case atStart => exact ⟨0, gi, by omega, by omega, rfl, hbi, howi, HGJ.out, HPS.out⟩
          case round =>
            obtain ⟨wq, rfl⟩ : ∃ wq : World, wq = wr := ⟨_, rfl⟩
            obtain ⟨r, gr, hrl, hkr, rfl, hbr, howr, hgir, hpsr⟩ := hrel
            have hszr := hbr.size
            have HGR := Lib.hid hgir
            have HPR := Lib.hid hpsr
            have hgBr := howr.lt.2
            have HGL := Lib.hid hgir.1
            clear hgir hpsr
            obtain ⟨b, off, aa, ac, rfl, c0, c1, c2, c3, hIa⟩ := (hT.later hbr) i hlt
            by_cases hlr : r < (tg l i).after.length
            · obtain ⟨ab, aoff, rfl, fa⟩ := hIa.fam (by omega)
              have g12 := good_in ((HV.out.2 i hlt).2.2.2.2) hlr
              obtain ⟨m, hm⟩ : ∃ m : Nat, ig (tg l i).after r = (m : Int) := ⟨(ig (tg l i).after r).toNat, by omega⟩
              have hml : m < l.length := by omega
              have hcq : wq.cell? ⟨ab, aoff + r, none⟩ = some (.int .i64 (m : Int)) := by rw [fa r hlr, hm]
              have hdi := howr.cell (j := i) (by have := HGL.out; omega)
              have hdm := howr.cell (j := m) (by have := HGL.out; omega)
              have hdf := howr.free i
              have HM := Lib.hid hm
              have hmk : mark l gr i r = gr.set i (bg gr i || bg gr m) := by unfold mark; rw [hm, Int.toNat_natCast]
              have HMK := Lib.hid hmk
              have hr1 : (r : Int) < ((tg l i).after.length : Int) := by omega
              have hm1 : (m : Int) < (l.length : Int) := by omega
              obtain ⟨x, hx⟩ : ∃ x, bg gr m = x := ⟨_, rfl⟩
              rw [hx] at hdm
              have HX := Lib.hid hx
              have HGM := Lib.hid (GI.marked HV.out HGR.out hlt hlr)
              have HPM := Lib.hid (PS.step HPR.out HGL.out hlt hlr)
              clear fa hm g12 hmk hx
              cases hb : bg gr i
              · rw [hb] at hdi
                have HBI := Lib.hid hb
                clear hb
                go_wp2_with fail
                go_roundg (gk - 1)
                case measure => omega
                case rel => exact ⟨r + 1, mark l gr i r, by omega, by omega, by go_num, (by repeat (first | exact Below.refl _ _ | assumption | refine Below.drew ?_ | refine below_drewN ?_ _ | refine Below.alloc ?_ (by first | omega | (simp; done) | (simp; omega)) _ | refine Below.setCell ?_ (by first | omega | (simp; done) | (simp; omega)) _ | refine Below.trans ?_ (Below.mono (by assumption) (by first | omega | (simp; done) | (simp; omega))))), by
                  rw [HMK.out, show (bg gr i || bg gr m) = x by have h1 := HBI.out; rw [HX.out]; simp [h1]]; exact howr.set i x, HGM.out, HPM.out⟩
              · rw [hb] at hdi
                have HBI := Lib.hid hb
                clear hb
                go_wp2_with fail
                go_roundg (gk - 1)
                case measure => omega
                case rel => exact ⟨r + 1, mark l gr i r, by omega, by omega, by go_num, (by repeat (first | exact Below.refl _ _ | assumption | refine Below.drew ?_ | refine below_drewN ?_ _ | refine Below.alloc ?_ (by first | omega | (simp; done) | (simp; omega)) _ | refine Below.setCell ?_ (by first | omega | (simp; done) | (simp; omega)) _ | refine Below.trans ?_ (Below.mono (by assumption) (by first | omega | (simp; done) | (simp; omega))))), by
                  rw [HMK.out, show (bg gr i || bg gr m) = true by have h1 := HBI.out; simp [h1]]; exact howr.set i true, HGM.out, HPM.out⟩
            · go_wp2_with fail
              go_roundg (ki - 1)
              case measure => omega
              case rel => exact ⟨i + 1, gr, by omega, by omega, by go_num, (by repeat (first | exact Below.refl _ _ | assumption | refine Below.drew ?_ | refine below_drewN ?_ _ | refine Below.alloc ?_ (by first | omega | (simp; done) | (simp; omega)) _ | refine Below.setCell ?_ (by first | omega | (simp; done) | (simp; omega)) _ | refine Below.trans ?_ (Below.mono (by assumption) (by first | omega | (simp; done) | (simp; omega))))), howr, HGR.out, PS.next HPR.out (by omega)⟩
        · obtain rfl : i = l.length := by omega
          go_wp2_with fail
          go_roundg (ko - 1)
          case measure => omega
          case rel => exact ⟨p + 1, gi, by omega, by omega, by go_num, (by repeat (first | exact Below.refl _ _ | assumption | refine Below.drew ?_ | refine below_drewN ?_ _ | refine Below.alloc ?_ (by first | omega | (simp; done) | (simp; omega)) _ | refine Below.setCell ?_ (by first | omega | (simp; done) | (simp; omega)) _ | refine Below.trans ?_ (Below.mono (by assumption) (by first | omega | (simp; done) | (simp; omega))))), howi, HGJ.out, PP.step HPP.out HPS.out⟩
    · obtain rfl : p = l.length := by omega
      have hcls := PP.full HGI.out.1 HPP.out
      have hful : ∀ i, i < l.length → bg (und l d t) i = (bg d i && !bg gl i) := fun i hi => by rw [bg_und d t hi, GI.full HGI.out hcls hi]
      have HF := Lib.hid hful
      have HGL := Lib.hid HGI.out.1
      clear hcls hful
      go_wp2_with (at_make; go_must (refine make_bool _ rfl _ _ rfl .i64 .i64 l.length rfl rfl (by omega) ?_); intro w4 ho4 hb4 hsz4)
      have hs4 := hb4.size
      go_loopg [15] (l.length + 1) (fun k v15 wr => ∃ (i : Nat) (out : List Bool), i ≤ l.length ∧ k + i = l.length + 1 ∧ v15 = .int .i64 i ∧ Below wo.heap.size wo wr ∧ OwnB wr wo.heap.size wo.heap.size out ∧ out.length = l.length ∧ ∀ j, j < i → bg out j = bg (und l d t) j)
      case atStart => exact ⟨0, _, by omega, by omega, rfl, (by repeat (first | exact Below.refl _ _ | assumption | refine Below.drew ?_ | refine below_drewN ?_ _ | refine Below.alloc ?_ (by first | omega | (simp; done) | (simp; omega)) _ | refine Below.setCell ?_ (by first | omega | (simp; done) | (simp; omega)) _ | refine Below.trans ?_ (Below.mono (by assumption) (by first | omega | (simp; done) | (simp; omega))))), ho4, by simp, fun j hj => absurd hj (by omega)⟩
      case round =>
        obtain ⟨wq, rfl⟩ : ∃ wq : World, wq = wr := ⟨_, rfl⟩
        obtain ⟨i, out, hil, hki, rfl, hbi, howi, hol, hall⟩ := hrel
        have hszi := hbi.size
        have hbwq : Below w.heap.size w wq := (by repeat (first | exact Below.refl _ _ | assumption | refine Below.drew ?_ | refine below_drewN ?_ _ | refine Below.alloc ?_ (by first | omega | (simp; done) | (simp; omega)) _ | refine Below.setCell ?_ (by first | omega | (simp; done) | (simp; omega)) _ | refine Below.trans ?_ (Below.mono (by assumption) (by first | omega | (simp; done) | (simp; omega)))))
        have HOL := Lib.hid hol
        have HA := Lib.hid hall
        have hgBi := howi.lt.2
        clear hol hall ho4 hb4 hsz4
        by_cases hlt : i < l.length
        · have hog := hown.later hbi
          obtain ⟨_, _, hde, fd⟩ := (hD.later hbwq).fam (by have := HDL.out; omega)
          cases hde
          have hdi := fd i (by have := HDL.out; omega)
          have hgi := hog.cell (j := i) (by have := HGL.out; omega)
          have hoi := howi.cell (j := i) (by have := HOL.out; omega)
          have hof := howi.free i
          have hi1 : (i : Int) < (d.length : Int) := by have := HDL.out; omega
          have hi2 : (i : Int) < (l.length : Int) := by omega
          have hun := HF.out i hlt
          have hnx : ∀ z, z = bg (und l d t) i → ∀ j, j < i + 1 → bg (out.set i z) j = bg (und l d t) j := fun z hz j hj => by
            rw [bg_set (by have := HOL.out; omega)]
            by_cases e : i = j
            · subst e; rw [if_pos rfl]; exact hz
            · rw [if_neg e]; exact HA.out j (by omega)
          have HUN := Lib.hid hun
          have HNX := Lib.hid hnx
          clear hnx hun fd
          obtain ⟨x, hx⟩ : ∃ x, bg gl i = x := ⟨_, rfl⟩
          rw [hx] at hgi
          have HX := Lib.hid hx
          clear hx
          cases hb : bg d i
          · rw [hb] at hdi
            have HBI := Lib.hid hb
            clear hb
            go_wp2_with fail
            go_roundg (gk - 1)
            case measure => omega
            case rel => exact ⟨i + 1, out.set i false, by omega, by omega, by go_num, (by repeat (first | exact Below.refl _ _ | assumption | refine Below.drew ?_ | refine below_drewN ?_ _ | refine Below.alloc ?_ (by first | omega | (simp; done) | (simp; omega)) _ | refine Below.setCell ?_ (by first | omega | (simp; done) | (simp; omega)) _ | refine Below.trans ?_ (Below.mono (by assumption) (by first | omega | (simp; done) | (simp; omega))))), howi.set i false, by have := HOL.out; simpa using this, HNX.out false (by have h1 := HBI.out; rw [HUN.out]; simp [h1])⟩
          · rw [hb] at hdi
            have HBI := Lib.hid hb
            clear hb
            go_wp2_with fail
            go_roundg (gk - 1)
            case measure => omega
            case rel => exact ⟨i + 1, out.set i (!x), by omega, by omega, by go_num, (by repeat (first | exact Below.refl _ _ | assumption | refine Below.drew ?_ | refine below_drewN ?_ _ | refine Below.alloc ?_ (by first | omega | (simp; done) | (simp; omega)) _ | refine Below.setCell ?_ (by first | omega | (simp; done) | (simp; omega)) _ | refine Below.trans ?_ (Below.mono (by assumption) (by first | omega | (simp; done) | (simp; omega))))), howi.set i (!x), by have := HOL.out; simpa using this, HNX.out (!x) (by have h1 := HBI.out; have h2 := HX.out; rw [HUN.out]; simp [h1, h2])⟩
        · have hun : out = und l d t := bools_ext (by have := HOL.out; rw [und_len, this]) fun j hj => HA.out j (by have := HOL.out; omega)
          have HU := Lib.hid hun
          clear hun
          go_wp2_with fail
          go_ret2
          exact ⟨_, l.length, by rw [und_len]; rfl, by rw [← HU.out]; exact howi.bools, (by repeat (first | exact Below.refl _ _ | assumption | refine Below.drew ?_ | refine below_drewN ?_ _ | refine Below.alloc ?_ (by first | omega | (simp; done) | (simp; omega)) _ | refine Below.setCell ?_ (by first | omega | (simp; done) | (simp; omega)) _ | refine Below.trans ?_ (Below.mono (by assumption) (by first | omega | (simp; done) | (simp; omega)))))⟩
end Go.Proofs.Ytidbmllelnffdaa
