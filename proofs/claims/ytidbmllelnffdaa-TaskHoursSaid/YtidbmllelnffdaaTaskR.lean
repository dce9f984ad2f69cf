
/- Contracts of package task: Undo, without an error. -/
import Derived.Test.YtidbmllelnffdaaTaskQ
namespace Go.Proofs.Ytidbmllelnffdaa
open Go.RowKit

def UndoAt (l : List Tk) (d : List Bool) (t : Nat) (a : Option Addr) (cap : Nat) (da : Option Addr) (dc : Nat) (w : World) (k : Nat) (x : Act) (wl : World) : Prop :=
  ∃ (u3 u4 u5 u6 u7 u8 u9 u10 u11 u13 u14 u15 u16 u17 u18 u19 u20 u21 u22 u23 u24 u25 u26 u27 u28 u29 u30 u31 u32 u33 u34 u35 u36 u37 u38 u39 u40 u41 u42 u43 u44 u45 u46 u47 u48 u49 u50 u51 u52 u53 u54 u55 u56 u57 u58 u59 u60 u61 u62 u63 u64 u65 u66 u67 u68 u69 u70 u71 u72 u73 u74 u75 u76 u77 u78 u79 u80 u81 u82 u83 u84 u85 u86 u87 u88 u89 u90 u91 u92 : Value) (g : Nat) (out : List Bool), x = ({ tmps := #[.slice a l.length cap, .slice da d.length dc, .int .i64 (t : Int), u3, u4, u5, u6, u7, u8, u9, u10, u11, .slice (some ⟨g, 0, none⟩) l.length l.length, u13, u14, u15, u16, u17, u18, u19, u20, u21, u22, u23, u24, u25, u26, u27, u28, u29, u30, u31, u32, u33, u34, u35, u36, u37, u38, u39, u40, u41, u42, u43, u44, u45, u46, u47, u48, u49, u50, u51, u52, u53, u54, u55, u56, u57, u58, u59, u60, u61, u62, u63, u64, u65, u66, u67, u68, u69, u70, u71, u72, u73, u74, u75, u76, u77, u78, u79, u80, u81, u82, u83, u84, u85, u86, u87, u88, u89, u90, u91, u92], defers := [] } : Act) ∧
    Below w.heap.size w wl ∧ OwnB wl w.heap.size g out ∧ UI l d t out ∧ out.count true = k

set_option maxRecDepth 100000 in
set_option maxHeartbeats 8000000 in
theorem undo_ok (l : List Tk) (d : List Bool) (t : Nat) (a da : Option Addr) (cap dc : Nat) (w : World) (hT : Tasks w a l) (hD : Bools w da d) (hv : VT l) (hd : d.length = l.length) (hc : ¬ (orderOf l).length < l.length) (ht : t < l.length) (hcl : clo l d = true) (hbt : bg d t = true) :
    Calls Try.prog 15 #[.slice a l.length cap, .slice da d.length dc, .int .i64 (t : Int)] w (RetBE (und l d t) 0 w) := by
  have HV := Lib.hid hv
  have h40 := hv.1
  have e : ((l.length : Int) != (d.length : Int)) = false := by simp; omega
  have e2 : decide (l.length ≤ t) = false := by simp; omega
  have e3 : decide ((t : Int) < 0) = false := by simp
  have hO : ordE l = 0 := by unfold ordE; rw [if_neg hc]
  have HO := Lib.hid hO
  have HCL := Lib.hid hcl
  have HBT := Lib.hid hbt
  have HDL := Lib.hid hd
  clear hv hc hO hcl hbt hd
  go_enter Try.func15, Try.ntmps15
  go_wp2_with fail
  refine wp_scope_labelk 0 (UndoAt l d t a cap da dc w) rfl ?_ ?_
  · intro k x wl hx
    obtain ⟨u3, u4, u5, u6, u7, u8, u9, u10, u11, u13, u14, u15, u16, u17, u18, u19, u20, u21, u22, u23, u24, u25, u26, u27, u28, u29, u30, u31, u32, u33, u34, u35, u36, u37, u38, u39, u40, u41, u42, u43, u44, u45, u46, u47, u48, u49, u50, u51, u52, u53, u54, u55, u56, u57, u58, u59, u60, u61, u62, u63, u64, u65, u66, u67, u68, u69, u70, u71, u72, u73, u74, u75, u76, u77, u78, u79, u80, u81, u82, u83, u84, u85, u86, u87, u88, u89, u90, u91, u92, g, out, rfl, hbl, hd, hu, hcnt⟩ := hx
    have hszl := hbl.size
    have HU := Lib.hid hu
    have HCN := Lib.hid hcnt
    have HOL := Lib.hid hu.1
    obtain ⟨hgB, hgl⟩ := hd.lt
    clear hu hcnt
    go_wp2_with fail
    go_loopg [74] (l.length + 1) (fun k v74 wr => ∃ i : Nat, i ≤ l.length ∧ k + i = l.length + 1 ∧ v74 = .int .i64 i ∧ Below wl.heap.size wl wr ∧ ∀ j, j < i → bg out j = true → allDone out (tg l j).after = true)
    case atStart => exact ⟨0, by omega, by omega, rfl, Below.refl _ _, fun j hj => absurd hj (by omega)⟩
    case round =>
      obtain ⟨wo, rfl⟩ : ∃ wo : World, wo = wr := ⟨_, rfl⟩
      obtain ⟨i, hil, hk, rfl, hbel, hall⟩ := hrel
      have HA := Lib.hid hall
      clear hall
      have hsz := hbel.size
      have hbo : Below w.heap.size w wo := (by repeat (first | exact Below.refl _ _ | assumption | refine Below.drew ?_ | refine below_drewN ?_ _ | refine Below.alloc ?_ (by first | omega | (simp; done) | (simp; omega)) _ | refine Below.setCell ?_ (by first | omega | (simp; done) | (simp; omega)) _ | refine Below.trans ?_ (Below.mono (by assumption) (by first | omega | (simp; done) | (simp; omega)))))
      have hdo := hd.later hbel
      by_cases hlt : i < l.length
      · obtain ⟨b, off, aa, ac, rfl, c0, c1, c2, c3, hIa⟩ := (hT.later hbo) i hlt
        have hai := fun r (hr : r < (tg l i).after.length) => good_in ((HV.out.2 i hlt).2.2.2.2) hr
        have hal := after_len HV.out hlt
        obtain ⟨t', ht'⟩ : ∃ t', tg l i = t' := ⟨_, rfl⟩
        rw [ht'] at c0 c1 c2 c3 hIa hai hal
        have HT := Lib.hid ht'
        have HAI := Lib.hid hai
        clear ht' hai
        have hdc := hdo.cell (j := i) (by have := HOL.out; omega)
        have hdf := hdo.free i
        have hgo := hdo.lt.2
        have hi1 : (i : Int) < (l.length : Int) := by omega
        cases hbi : bg out i
        · rw [hbi] at hdc
          have HBI := Lib.hid hbi
          clear hbi
          go_wp2_with fail
          go_roundg (gk - 1)
          case measure => omega
          case rel => exact ⟨i + 1, by omega, by omega, by go_num, (by repeat (first | exact Below.refl _ _ | assumption | refine Below.drew ?_ | refine below_drewN ?_ _ | refine Below.alloc ?_ (by first | omega | (simp; done) | (simp; omega)) _ | refine Below.setCell ?_ (by first | omega | (simp; done) | (simp; omega)) _ | refine Below.trans ?_ (Below.mono (by assumption) (by first | omega | (simp; done) | (simp; omega))))), fun j hj hb => by
            rcases Nat.lt_succ_iff_lt_or_eq.1 hj with h | h
            · exact HA.out j h hb
            · subst h; rw [HBI.out] at hb; cases hb⟩
        · rw [hbi] at hdc
          have HBI := Lib.hid hbi
          clear hbi
          cases hdn : allDone out t'.after
          · obtain ⟨z1, z2⟩ := HU.out.step HV.out HCL.out hlt HBI.out (by rw [HT.out]; exact hdn)
            have HZ1 := Lib.hid z1
            have HZ2 := Lib.hid z2
            have HDN := Lib.hid hdn
            clear hdn z1 z2
            go_wp2_with fail
            refine Calls.mono (waits_at2 t' out true l.length aa _ ac _ _ (hIa.later (by repeat (first | exact Below.refl _ _ | assumption | refine Below.drew ?_ | refine below_drewN ?_ _ | refine Below.alloc ?_ (by first | omega | (simp; done) | (simp; omega)) _ | refine Below.setCell ?_ (by first | omega | (simp; done) | (simp; omega)) _ | refine Below.trans ?_ (Below.mono (by assumption) (by first | omega | (simp; done) | (simp; omega)))))) (hdo.bools.later (by repeat (first | exact Below.refl _ _ | assumption | refine Below.drew ?_ | refine below_drewN ?_ _ | refine Below.alloc ?_ (by first | omega | (simp; done) | (simp; omega)) _ | refine Below.setCell ?_ (by first | omega | (simp; done) | (simp; omega)) _ | refine Below.trans ?_ (Below.mono (by assumption) (by first | omega | (simp; done) | (simp; omega)))))) (by omega) HOL.out (by omega) HAI.out (by rw [HDN.out]; rfl)) ?_
            rintro e w1 ⟨rfl, hb1⟩; have hs1 := hb1.size; (try simp at hs1)
            have hd1 := hdo.later (w1 := w1) (by repeat (first | exact Below.refl _ _ | assumption | refine Below.drew ?_ | refine below_drewN ?_ _ | refine Below.alloc ?_ (by first | omega | (simp; done) | (simp; omega)) _ | refine Below.setCell ?_ (by first | omega | (simp; done) | (simp; omega)) _ | refine Below.trans ?_ (Below.mono (by assumption) (by first | omega | (simp; done) | (simp; omega)))))
            have hdc1 := hd1.cell (j := i) (by have := HOL.out; omega)
            have hdf1 := hd1.free i
            rw [HBI.out] at hdc1
            go_wp2_with fail
            go_step3
            go_wp2_with fail
            change 0 = 0 ∧ (∃ k', k' < k ∧ UndoAt _ _ _ _ _ _ _ _ k' _ _)
            refine ⟨rfl, (out.set i false).count true, by have h1 := HZ2.out; have h2 := HCN.out; omega, ?_⟩
            unfold UndoAt
            (repeat apply Exists.intro)
            exact ⟨rfl, (by repeat (first | exact Below.refl _ _ | assumption | refine Below.drew ?_ | refine below_drewN ?_ _ | refine Below.alloc ?_ (by first | omega | (simp; done) | (simp; omega)) _ | refine Below.setCell ?_ (by first | omega | (simp; done) | (simp; omega)) _ | refine Below.trans ?_ (Below.mono (by assumption) (by first | omega | (simp; done) | (simp; omega))))), hd1.set i false, HZ1.out, rfl⟩
          · have HDN := Lib.hid hdn
            clear hdn
            go_wp2_with fail
            refine Calls.mono (waits_at2 t' out false l.length aa _ ac _ _ (hIa.later (by repeat (first | exact Below.refl _ _ | assumption | refine Below.drew ?_ | refine below_drewN ?_ _ | refine Below.alloc ?_ (by first | omega | (simp; done) | (simp; omega)) _ | refine Below.setCell ?_ (by first | omega | (simp; done) | (simp; omega)) _ | refine Below.trans ?_ (Below.mono (by assumption) (by first | omega | (simp; done) | (simp; omega)))))) (hdo.bools.later (by repeat (first | exact Below.refl _ _ | assumption | refine Below.drew ?_ | refine below_drewN ?_ _ | refine Below.alloc ?_ (by first | omega | (simp; done) | (simp; omega)) _ | refine Below.setCell ?_ (by first | omega | (simp; done) | (simp; omega)) _ | refine Below.trans ?_ (Below.mono (by assumption) (by first | omega | (simp; done) | (simp; omega)))))) (by omega) HOL.out (by omega) HAI.out (by rw [HDN.out]; rfl)) ?_
            rintro e w1 ⟨rfl, hb1⟩; have hs1 := hb1.size; (try simp at hs1)
            go_wp2_with fail
            go_roundg (gk - 1)
            case measure => omega
            case rel => exact ⟨i + 1, by omega, by omega, by go_num, (by repeat (first | exact Below.refl _ _ | assumption | refine Below.drew ?_ | refine below_drewN ?_ _ | refine Below.alloc ?_ (by first | omega | (simp; done) | (simp; omega)) _ | refine Below.setCell ?_ (by first | omega | (simp; done) | (simp; omega)) _ | refine Below.trans ?_ (Below.mono (by assumption) (by first | omega | (simp; done) | (simp; omega))))), fun j hj hb => by
              rcases Nat.lt_succ_iff_lt_or_eq.1 hj with h | h
              · exact HA.out j h hb
              · subst h; rw [HT.out]; exact HDN.out⟩
      · have he := HU.out.done ht (fun j hj hb => HA.out j (by omega) hb)
        have HE := Lib.hid he
        clear he
        go_wp2_with fail
        go_ret2
        exact ⟨_, _, by rw [← HE.out, HOL.out]; rfl, by rw [← HE.out]; exact hdo.bools.later (by repeat (first | exact Below.refl _ _ | assumption | refine Below.drew ?_ | refine below_drewN ?_ _ | refine Below.alloc ?_ (by first | omega | (simp; done) | (simp; omega)) _ | refine Below.setCell ?_ (by first | omega | (simp; done) | (simp; omega)) _ | refine Below.trans ?_ (Below.mono (by assumption) (by first | omega | (simp; done) | (simp; omega))))), (by repeat (first | exact Below.refl _ _ | assumption | refine Below.drew ?_ | refine below_drewN ?_ _ | refine Below.alloc ?_ (by first | omega | (simp; done) | (simp; omega)) _ | refine Below.setCell ?_ (by first | omega | (simp; done) | (simp; omega)) _ | refine Below.trans ?_ (Below.mono (by assumption) (by first | omega | (simp; done) | (simp; omega)))))⟩
  · intro hrest
    go_wp2_with fail
    refine Calls.mono (valid_at l a cap _ hT HV.out).1 ?_
    rintro e w1 ⟨rfl, hb1⟩; have hs1 := hb1.size; (try simp at hs1)
    go_wp2_with fail
    refine Calls.mono (order_at l 0 a cap _ (hT.later (by repeat (first | exact Below.refl _ _ | assumption | refine Below.drew ?_ | refine below_drewN ?_ _ | refine Below.alloc ?_ (by first | omega | (simp; done) | (simp; omega)) _ | refine Below.setCell ?_ (by first | omega | (simp; done) | (simp; omega)) _ | refine Below.trans ?_ (Below.mono (by assumption) (by first | omega | (simp; done) | (simp; omega)))))) HV.out HO.out) ?_
    rintro e w2 ⟨oa, oc, rfl, hI, hb2⟩
    have hs2 := hb2.size
    have hbw : Below w.heap.size w w2 := (by repeat (first | exact Below.refl _ _ | assumption | refine Below.drew ?_ | refine below_drewN ?_ _ | refine Below.alloc ?_ (by first | omega | (simp; done) | (simp; omega)) _ | refine Below.setCell ?_ (by first | omega | (simp; done) | (simp; omega)) _ | refine Below.trans ?_ (Below.mono (by assumption) (by first | omega | (simp; done) | (simp; omega)))))
    go_wp2_with fail
    go_loopg [43] (l.length + 1) (fun k v43 wr => ∃ i : Nat, i ≤ l.length ∧ k + i = l.length + 1 ∧ v43 = .int .i64 i ∧ Below w.heap.size w wr ∧ ∀ j, j < i → bg d j = true → allDone d (tg l j).after = true)
    case atStart => exact ⟨0, by omega, by omega, rfl, hbw, fun j hj => absurd hj (by omega)⟩
    case round =>
      obtain ⟨wo, rfl⟩ : ∃ wo : World, wo = wr := ⟨_, rfl⟩
      obtain ⟨i, hil, hk, rfl, hbel, hall⟩ := hrel
      have hsz := hbel.size
      have HA := Lib.hid hall
      clear hall hb1 hb2 hbw hI
      by_cases hlt : i < l.length
      · have hT' := hT.later hbel
        have hDo := hD.later hbel
        obtain ⟨b, off, aa, ac, rfl, c0, c1, c2, c3, hIa⟩ := hT' i hlt
        obtain ⟨db, doff, rfl, fd⟩ := hDo.fam (by have := HDL.out; omega)
        have hdi := fd i (by have := HDL.out; omega)
        have hdb : db < wo.heap.size := World.block_lt_of_cell? _ _ hdi
        have hai := fun r (hr : r < (tg l i).after.length) => good_in ((HV.out.2 i hlt).2.2.2.2) hr
        have hal := after_len HV.out hlt
        obtain ⟨t', ht'⟩ : ∃ t', tg l i = t' := ⟨_, rfl⟩
        rw [ht'] at c0 c1 c2 c3 hIa hai hal
        have HT := Lib.hid ht'
        have HAI := Lib.hid hai
        clear ht' hai fd hT'
        have hi1 : (i : Int) < (d.length : Int) := by have := HDL.out; omega
        cases hbi : bg d i
        · rw [hbi] at hdi
          have HBI := Lib.hid hbi
          clear hbi
          go_wp2_with fail
          go_roundg (gk - 1)
          case measure => omega
          case rel => exact ⟨i + 1, by omega, by omega, by go_num, (by repeat (first | exact Below.refl _ _ | assumption | refine Below.drew ?_ | refine below_drewN ?_ _ | refine Below.alloc ?_ (by first | omega | (simp; done) | (simp; omega)) _ | refine Below.setCell ?_ (by first | omega | (simp; done) | (simp; omega)) _ | refine Below.trans ?_ (Below.mono (by assumption) (by first | omega | (simp; done) | (simp; omega))))), fun j hj hb => by
            rcases Nat.lt_succ_iff_lt_or_eq.1 hj with h | h
            · exact HA.out j h hb
            · subst h; rw [HBI.out] at hb; cases hb⟩
        · rw [hbi] at hdi
          have HBI := Lib.hid hbi
          clear hbi
          have hdn : allDone d t'.after = true := by rw [← HT.out]; exact clo_iff.1 HCL.out i hlt HBI.out
          · have HDN := Lib.hid hdn
            clear hdn
            go_wp2_with fail
            refine Calls.mono (waits_at2 t' d false d.length aa _ ac _ _ (hIa.later (by repeat (first | exact Below.refl _ _ | assumption | refine Below.drew ?_ | refine below_drewN ?_ _ | refine Below.alloc ?_ (by first | omega | (simp; done) | (simp; omega)) _ | refine Below.setCell ?_ (by first | omega | (simp; done) | (simp; omega)) _ | refine Below.trans ?_ (Below.mono (by assumption) (by first | omega | (simp; done) | (simp; omega)))))) (hDo.later (by repeat (first | exact Below.refl _ _ | assumption | refine Below.drew ?_ | refine below_drewN ?_ _ | refine Below.alloc ?_ (by first | omega | (simp; done) | (simp; omega)) _ | refine Below.setCell ?_ (by first | omega | (simp; done) | (simp; omega)) _ | refine Below.trans ?_ (Below.mono (by assumption) (by first | omega | (simp; done) | (simp; omega)))))) (by omega) rfl (by have := HDL.out; omega) (by rw [HDL.out]; exact HAI.out) (by rw [HDN.out]; rfl)) ?_
            rintro e w1 ⟨rfl, hb1⟩; have hs1 := hb1.size; (try simp at hs1)
            go_wp2_with fail
            go_roundg (gk - 1)
            case measure => omega
            case rel => exact ⟨i + 1, by omega, by omega, by go_num, (by repeat (first | exact Below.refl _ _ | assumption | refine Below.drew ?_ | refine below_drewN ?_ _ | refine Below.alloc ?_ (by first | omega | (simp; done) | (simp; omega)) _ | refine Below.setCell ?_ (by first | omega | (simp; done) | (simp; omega)) _ | refine Below.trans ?_ (Below.mono (by assumption) (by first | omega | (simp; done) | (simp; omega))))), fun j hj hb => by
              rcases Nat.lt_succ_iff_lt_or_eq.1 hj with h | h
              · exact HA.out j h hb
              · subst h; rw [HT.out]; exact HDN.out⟩
      · obtain ⟨db, doff, rfl, fd⟩ := (hD.later hbel).fam (by have := HDL.out; omega)
        have hdt := fd t (by have := HDL.out; omega)
        rw [HBT.out] at hdt
        have hi1 : (t : Int) < (d.length : Int) := by have := HDL.out; omega
        clear fd
        go_wp2_with (first | (at_make; go_must (refine make_bool _ rfl _ _ rfl .i64 .i64 l.length rfl rfl (by omega) ?_); intro w3 ho3 hb3 hsz3) | ((with_reducible show wpList _ _ _ (⟨some 68, _, _, _, _, _⟩ :: _) _ _); go_must (refine copy_bool _ rfl _ _ rfl _ _ _ d _ l.length d.length dc rfl rfl HDL.out ho3 (by simp) HDL.out (by omega) (hD.later (by repeat (first | exact Below.refl _ _ | assumption | refine Below.drew ?_ | refine below_drewN ?_ _ | refine Below.alloc ?_ (by first | omega | (simp; done) | (simp; omega)) _ | refine Below.setCell ?_ (by first | omega | (simp; done) | (simp; omega)) _ | refine Below.trans ?_ (Below.mono (by assumption) (by first | omega | (simp; done) | (simp; omega)))))) ?_); intro w4 ho4 hb4; go_must (have hs4 := hb4.size); go_must (have hdf := ho4.free t); go_must (have hdc := ho4.cell (j := t) (by have := HDL.out; omega)); go_must (have hgl := ho4.lt.2)))
        go_step3
        go_step
        go_step
        have hs3 := hb3.size
        refine hrest (d.count true - 1) _ _ ?_
        unfold UndoAt
        (repeat apply Exists.intro)
        exact ⟨rfl, (by repeat (first | exact Below.refl _ _ | assumption | refine Below.drew ?_ | refine below_drewN ?_ _ | refine Below.alloc ?_ (by first | omega | (simp; done) | (simp; omega)) _ | refine Below.setCell ?_ (by first | omega | (simp; done) | (simp; omega)) _ | refine Below.trans ?_ (Below.mono (by assumption) (by first | omega | (simp; done) | (simp; omega))))), (ho4.set t false).mono (by omega), UI.start HDL.out ht, by
          have := bcount_put (d := d) (i := t) (y := false) (by have := HDL.out; omega) HBT.out
          simp at this
          omega⟩
end Go.Proofs.Ytidbmllelnffdaa
