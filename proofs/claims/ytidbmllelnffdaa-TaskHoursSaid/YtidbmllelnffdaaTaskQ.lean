
/- Contracts of package task: Undo, from the state of work on. -/
import Derived.Test.YtidbmllelnffdaaTaskP
namespace Go.Proofs.Ytidbmllelnffdaa
open Go.RowKit

theorem waits_at2 (t : Tk) (d : List Bool) (r : Bool) (n : Nat) (a da : Option Addr) (cap dc : Nat) (w : World) (hL : Ints w a t.after) (hD : Bools w da d) (hl : t.after.length ≤ 1000) (hn : d.length = n) (hd : n ≤ 1000)
    (hin : ∀ r, r < t.after.length → 0 ≤ ig t.after r ∧ ig t.after r < n) (hr : allDone d t.after = !r) :
    Calls Try.prog 25 #[.agg #[.int .i64 t.hours, .int .i64 t.skill, .bool t.bay, .slice a t.after.length cap], .slice da n dc] w (RetB (.bool r) w) := by
  refine waits_at t d r n a da cap dc w hL hD hl hn hd (fun r hr => by have := hin r hr; omega) hr

set_option maxRecDepth 100000 in
set_option maxHeartbeats 8000000 in
theorem undo_five (l : List Tk) (d : List Bool) (t : Nat) (a da : Option Addr) (cap dc : Nat) (w : World) (hT : Tasks w a l) (hD : Bools w da d) (hv : VT l) (hd : d.length = l.length) (hc : ¬ (orderOf l).length < l.length) (ht : t < l.length) (h5 : ¬ (clo l d = true ∧ bg d t = true)) :
    Calls Try.prog 15 #[.slice a l.length cap, .slice da d.length dc, .int .i64 (t : Int)] w (RetBE [] 5 w) := by
  have HV := Lib.hid hv
  have h40 := hv.1
  have e : ((l.length : Int) != (d.length : Int)) = false := by simp; omega
  have e2 : decide (l.length ≤ t) = false := by simp; omega
  have e3 : decide ((t : Int) < 0) = false := by simp
  have hO : ordE l = 0 := by unfold ordE; rw [if_neg hc]
  have HO := Lib.hid hO
  have H5 := Lib.hid h5
  have HDL := Lib.hid hd
  clear hv hc hO h5 hd
  go_enter Try.func15, Try.ntmps15
  go_wp2_with fail
  apply wp_scope_straight
  go_wp2_with fail
  refine Calls.mono (valid_at l a cap _ hT HV.out).1 ?_
  rintro e w1 ⟨rfl, hb1⟩; have hs1 := hb1.size; (try simp at hs1)
  go_wp2_with fail
  refine Calls.mono (order_at l 0 a cap _ (hT.later (by repeat (first | exact Below.refl _ _ | assumption | refine Below.drew ?_ | refine below_drewN ?_ _ | refine Below.alloc ?_ (by first | omega | (simp; done) | (simp; omega)) _ | refine Below.setCell ?_ (by first | omega | (simp; done) | (simp; omega)) _ | refine Below.trans ?_ (Below.mono (by assumption) (by first | omega | (simp; done) | (simp; omega)))))) HV.out HO.out) ?_
  rintro e w2 ⟨oa, oc, rfl, hI, hb2⟩
  have hs2 := hb2.size
  have hbw : Below w.heap.size w w2 := (by repeat (first | exact Below.refl _ _ | assumption | refine Below.drew ?_ | refine below_drewN ?_ _ | refine Below.alloc ?_ (by first | omega | (simp; done) | (simp; omega)) _ | refine Below.setCell ?_ (by first | omega | (simp; done) | (simp; omega)) _ | refine Below.trans ?_ (Below.mono (by assumption) (by first | omega | (simp; done) | (simp; omega)))))
  go_wp2_with fail
  go_loopg [43] (l.length + 1) (fun k v43 wr => ∃ i : Nat, i ≤ l.length ∧ k + i = l.length + 1 ∧ v43 = .int .i64 i ∧ Below w.heap.size w wr ∧ ∀ j, j < i → bg d j = true → allDone d (tg l j).after = true)
  case atStart => exact ⟨0, by omega, by omega, rfl, hbw, fun j hj => absurd hj (by omega)⟩
  case round =>
    obtain ⟨wo, rfl⟩ : ∃ wo : World, wo = wr := ⟨_, rfl⟩
    obtain ⟨i, hil, hk, rfl, hbel, hall⟩ := hrel
    have hsz := hbel.size
    have HA := Lib.hid hall
    clear hall hb1 hb2 hbw hI
    by_cases hlt : i < l.length
    · have hT' := hT.later hbel
      have hDo := hD.later hbel
      obtain ⟨b, off, aa, ac, rfl, c0, c1, c2, c3, hIa⟩ := hT' i hlt
      obtain ⟨db, doff, rfl, fd⟩ := hDo.fam (by have := HDL.out; omega)
      have hdi := fd i (by have := HDL.out; omega)
      have hdb : db < wo.heap.size := World.block_lt_of_cell? _ _ hdi
      have hai := fun r (hr : r < (tg l i).after.length) => good_in ((HV.out.2 i hlt).2.2.2.2) hr
      have hal := after_len HV.out hlt
      obtain ⟨t', ht'⟩ : ∃ t', tg l i = t' := ⟨_, rfl⟩
      rw [ht'] at c0 c1 c2 c3 hIa hai hal
      have HT := Lib.hid ht'
      have HAI := Lib.hid hai
      clear ht' hai fd hT'
      have hi1 : (i : Int) < (d.length : Int) := by have := HDL.out; omega
      cases hbi : bg d i
      · rw [hbi] at hdi
        have HBI := Lib.hid hbi
        clear hbi
        go_wp2_with fail
        go_roundg (gk - 1)
        case measure => omega
        case rel => exact ⟨i + 1, by omega, by omega, by go_num, (by repeat (first | exact Below.refl _ _ | assumption | refine Below.drew ?_ | refine below_drewN ?_ _ | refine Below.alloc ?_ (by first | omega | (simp; done) | (simp; omega)) _ | refine Below.setCell ?_ (by first | omega | (simp; done) | (simp; omega)) _ | refine Below.trans ?_ (Below.mono (by assumption) (by first | omega | (simp; done) | (simp; omega))))), fun j hj hb => by
          rcases Nat.lt_succ_iff_lt_or_eq.1 hj with h | h
          · exact HA.out j h hb
          · subst h; rw [HBI.out] at hb; cases hb⟩
      · rw [hbi] at hdi
        have HBI := Lib.hid hbi
        clear hbi
        cases hdn : allDone d t'.after
        · have HDN := Lib.hid hdn
          clear hdn
          go_wp2_with fail
          refine Calls.mono (waits_at2 t' d true d.length aa _ ac _ _ (hIa.later (by repeat (first | exact Below.refl _ _ | assumption | refine Below.drew ?_ | refine below_drewN ?_ _ | refine Below.alloc ?_ (by first | omega | (simp; done) | (simp; omega)) _ | refine Below.setCell ?_ (by first | omega | (simp; done) | (simp; omega)) _ | refine Below.trans ?_ (Below.mono (by assumption) (by first | omega | (simp; done) | (simp; omega)))))) (hDo.later (by repeat (first | exact Below.refl _ _ | assumption | refine Below.drew ?_ | refine below_drewN ?_ _ | refine Below.alloc ?_ (by first | omega | (simp; done) | (simp; omega)) _ | refine Below.setCell ?_ (by first | omega | (simp; done) | (simp; omega)) _ | refine Below.trans ?_ (Below.mono (by assumption) (by first | omega | (simp; done) | (simp; omega)))))) (by omega) rfl (by have := HDL.out; omega) (by rw [HDL.out]; exact HAI.out) (by rw [HDN.out]; rfl)) ?_
          rintro e w1 ⟨rfl, hb1⟩; have hs1 := hb1.size; (try simp at hs1)
          go_wp2_with fail
          rw [Exit.noGoto_ret]
          go_ret2
          exact ⟨none, 0, rfl, Bools.nil _ _, (by repeat (first | exact Below.refl _ _ | assumption | refine Below.drew ?_ | refine below_drewN ?_ _ | refine Below.alloc ?_ (by first | omega | (simp; done) | (simp; omega)) _ | refine Below.setCell ?_ (by first | omega | (simp; done) | (simp; omega)) _ | refine Below.trans ?_ (Below.mono (by assumption) (by first | omega | (simp; done) | (simp; omega)))))⟩
        · have HDN := Lib.hid hdn
          clear hdn
          go_wp2_with fail
          refine Calls.mono (waits_at2 t' d false d.length aa _ ac _ _ (hIa.later (by repeat (first | exact Below.refl _ _ | assumption | refine Below.drew ?_ | refine below_drewN ?_ _ | refine Below.alloc ?_ (by first | omega | (simp; done) | (simp; omega)) _ | refine Below.setCell ?_ (by first | omega | (simp; done) | (simp; omega)) _ | refine Below.trans ?_ (Below.mono (by assumption) (by first | omega | (simp; done) | (simp; omega)))))) (hDo.later (by repeat (first | exact Below.refl _ _ | assumption | refine Below.drew ?_ | refine below_drewN ?_ _ | refine Below.alloc ?_ (by first | omega | (simp; done) | (simp; omega)) _ | refine Below.setCell ?_ (by first | omega | (simp; done) | (simp; omega)) _ | refine Below.trans ?_ (Below.mono (by assumption) (by first | omega | (simp; done) | (simp; omega)))))) (by omega) rfl (by have := HDL.out; omega) (by rw [HDL.out]; exact HAI.out) (by rw [HDN.out]; rfl)) ?_
          rintro e w1 ⟨rfl, hb1⟩; have hs1 := hb1.size; (try simp at hs1)
          go_wp2_with fail
          go_roundg (gk - 1)
          case measure => omega
          case rel => exact ⟨i + 1, by omega, by omega, by go_num, (by repeat (first | exact Below.refl _ _ | assumption | refine Below.drew ?_ | refine below_drewN ?_ _ | refine Below.alloc ?_ (by first | omega | (simp; done) | (simp; omega)) _ | refine Below.setCell ?_ (by first | omega | (simp; done) | (simp; omega)) _ | refine Below.trans ?_ (Below.mono (by assumption) (by first | omega | (simp; done) | (simp; omega))))), fun j hj hb => by
            rcases Nat.lt_succ_iff_lt_or_eq.1 hj with h | h
            · exact HA.out j h hb
            · subst h; rw [HT.out]; exact HDN.out⟩
    · have hcl : clo l d = true := clo_iff.2 fun j hj hb => HA.out j (by omega) hb
      have hbt : bg d t = false := by
        cases hb : bg d t
        · rfl
        · exact absurd ⟨hcl, hb⟩ H5.out
      obtain ⟨db, doff, rfl, fd⟩ := (hD.later hbel).fam (by have := HDL.out; omega)
      have hdt := fd t (by have := HDL.out; omega)
      rw [hbt] at hdt
      have hi1 : (t : Int) < (d.length : Int) := by have := HDL.out; omega
      clear fd hcl hbt
      go_wp2_with fail
      rw [Exit.noGoto_ret]
      go_ret2
      exact ⟨none, 0, rfl, Bools.nil _ _, (by repeat (first | exact Below.refl _ _ | assumption | refine Below.drew ?_ | refine below_drewN ?_ _ | refine Below.alloc ?_ (by first | omega | (simp; done) | (simp; omega)) _ | refine Below.setCell ?_ (by first | omega | (simp; done) | (simp; omega)) _ | refine Below.trans ?_ (Below.mono (by assumption) (by first | omega | (simp; done) | (simp; omega)))))⟩
end Go.Proofs.Ytidbmllelnffdaa
