

/- TaskOrders: for every valid tasks there is an order exactly if none needs itself; it has each task once, behind all that it needs; a task directly behind one with a greater index needs this one directly: the call of the law returns true, for every input. -/
import Derived.Test.YtidbmllelnffdaaTaskT
import Derived.Test.YtidbmllelnffdaaTaskX
import Derived.Test.YtidbmllelnffdaaAcyc
import Derived.Test.YtidbmllelnffdaaNeeds
import Derived.BigQuiet
namespace Go.Proofs.Ytidbmllelnffdaa
open Go.ChangeShapes Go.WideShapes Go.ChangeAt Go.RowKit Go.Joins

namespace TaskOrders
set_option maxRecDepth 100000 in
set_option maxHeartbeats 2000000 in
theorem no (w : World) (a : Option Addr) (cap : Nat) (l : List Tk) (hT : Tasks w a l) (hl : l.length < 9223372036854775808) (hS : ∀ i, i < l.length → (tg l i).after.length < 9223372036854775808) (hno : ¬ FewT l ∨ FewT l ∧ ¬ VT l) :
    Calls Try.prog 4 #[.slice a l.length cap] w (RetB (.bool true) w) := by
  have HS := Lib.hid (fun _ : l.length ≤ 45 => hS)
  have HS' := Lib.hid (fun _ : l.length ≤ 40 => hS)
  rcases hno with hf | ⟨hf, hv⟩
  · have HF := Lib.hid (show false = true ↔ FewT l by simp [hf])
    clear hf hS
    go_enter Try.func4, Try.ntmps4
    go_wp2_with fail
    refine Calls.mono (head_any _) ?_
    rintro e w1 ⟨rfl, hb1⟩; have hs1 := hb1.size; (try simp at hs1)
    go_wp2_with fail
    refine Calls.mono (few_any l false a cap _ (hT.later (by repeat (first | exact Below.refl _ _ | assumption | refine Below.drew ?_ | refine below_drewN ?_ _ | refine Below.alloc ?_ (by first | omega | (simp; done) | (simp; omega)) _ | refine Below.setCell ?_ (by first | omega | (simp; done) | (simp; omega)) _ | refine Below.trans ?_ (Below.mono (by assumption) (by first | omega | (simp; done) | (simp; omega)))))) hl HS.out HF.out) ?_
    rintro e w2 ⟨rfl, rfl⟩
    go_wp2_with fail
    go_ret
    exact retB rfl (by repeat (first | exact Below.refl _ _ | assumption | refine Below.drew ?_ | refine below_drewN ?_ _ | refine Below.alloc ?_ (by first | omega | (simp; done) | (simp; omega)) _ | refine Below.setCell ?_ (by first | omega | (simp; done) | (simp; omega)) _ | refine Below.trans ?_ (Below.mono (by assumption) (by first | omega | (simp; done) | (simp; omega)))))
  · have HF := Lib.hid (show true = true ↔ FewT l by simp [hf])
    have HV := Lib.hid (show false = true ↔ VT l by simp [hv])
    clear hf hS hv
    go_enter Try.func4, Try.ntmps4
    go_wp2_with fail
    refine Calls.mono (head_any _) ?_
    rintro e w1 ⟨rfl, hb1⟩; have hs1 := hb1.size; (try simp at hs1)
    go_wp2_with fail
    refine Calls.mono (few_any l true a cap _ (hT.later (by repeat (first | exact Below.refl _ _ | assumption | refine Below.drew ?_ | refine below_drewN ?_ _ | refine Below.alloc ?_ (by first | omega | (simp; done) | (simp; omega)) _ | refine Below.setCell ?_ (by first | omega | (simp; done) | (simp; omega)) _ | refine Below.trans ?_ (Below.mono (by assumption) (by first | omega | (simp; done) | (simp; omega)))))) hl HS.out (by simpa using HF.out)) ?_
    rintro e w2 ⟨rfl, rfl⟩
    go_wp2_with fail
    refine Calls.mono (rvalid_any l a cap false _ (hT.later (by repeat (first | exact Below.refl _ _ | assumption | refine Below.drew ?_ | refine below_drewN ?_ _ | refine Below.alloc ?_ (by first | omega | (simp; done) | (simp; omega)) _ | refine Below.setCell ?_ (by first | omega | (simp; done) | (simp; omega)) _ | refine Below.trans ?_ (Below.mono (by assumption) (by first | omega | (simp; done) | (simp; omega)))))) hl HS'.out (by simpa using HV.out)) ?_
    rintro e w3 ⟨rfl, hb3⟩
    have hs3 := hb3.size
    go_wp2_with fail
    go_ret
    exact retB rfl (by repeat (first | exact Below.refl _ _ | assumption | refine Below.drew ?_ | refine below_drewN ?_ _ | refine Below.alloc ?_ (by first | omega | (simp; done) | (simp; omega)) _ | refine Below.setCell ?_ (by first | omega | (simp; done) | (simp; omega)) _ | refine Below.trans ?_ (Below.mono (by assumption) (by first | omega | (simp; done) | (simp; omega)))))

open Classical in
set_option maxRecDepth 100000 in
set_option maxHeartbeats 8000000 in
theorem yes (w : World) (a : Option Addr) (cap : Nat) (l : List Tk) (hT : Tasks w a l) (hl : l.length < 9223372036854775808) (hS : ∀ i, i < l.length → (tg l i).after.length < 9223372036854775808) (hf : FewT l) (hv : VT l) : Calls Try.prog 4 #[.slice a l.length cap] w (RetB (.bool true) w) := by
  have HS := Lib.hid (fun _ : l.length ≤ 45 => hS)
  have HS' := Lib.hid (fun _ : l.length ≤ 40 => hS)
  have HF := Lib.hid (show true = true ↔ FewT l by simp [hf])
  have HV := Lib.hid hv
  have h40 := hv.1
  clear hf hS hv
  go_enter Try.func4, Try.ntmps4
  go_wp2_with fail
  refine Calls.mono (head_any _) ?_
  rintro e w1 ⟨rfl, hb1⟩; have hs1 := hb1.size; (try simp at hs1)
  go_wp2_with fail
  refine Calls.mono (few_any l true a cap _ (hT.later (by repeat (first | exact Below.refl _ _ | assumption | refine Below.drew ?_ | refine below_drewN ?_ _ | refine Below.alloc ?_ (by first | omega | (simp; done) | (simp; omega)) _ | refine Below.setCell ?_ (by first | omega | (simp; done) | (simp; omega)) _ | refine Below.trans ?_ (Below.mono (by assumption) (by first | omega | (simp; done) | (simp; omega)))))) hl HS.out (by simpa using HF.out)) ?_
  rintro e w2 ⟨rfl, rfl⟩
  go_wp2_with fail
  refine Calls.mono (rvalid_any l a cap true _ (hT.later (by repeat (first | exact Below.refl _ _ | assumption | refine Below.drew ?_ | refine below_drewN ?_ _ | refine Below.alloc ?_ (by first | omega | (simp; done) | (simp; omega)) _ | refine Below.setCell ?_ (by first | omega | (simp; done) | (simp; omega)) _ | refine Below.trans ?_ (Below.mono (by assumption) (by first | omega | (simp; done) | (simp; omega)))))) hl HS'.out (by simp [HV.out])) ?_
  rintro e w3 ⟨rfl, hb3⟩
  have hs3 := hb3.size
  have hk3 : Below w.heap.size w w3 := (by repeat (first | exact Below.refl _ _ | assumption | refine Below.drew ?_ | refine below_drewN ?_ _ | refine Below.alloc ?_ (by first | omega | (simp; done) | (simp; omega)) _ | refine Below.setCell ?_ (by first | omega | (simp; done) | (simp; omega)) _ | refine Below.trans ?_ (Below.mono (by assumption) (by first | omega | (simp; done) | (simp; omega)))))
  clear hb3 hb1
  go_wp2_with fail
  refine Calls.mono (needs_any l a cap _ (hT.later hk3) HV.out) ?_
  rintro e w5 ⟨B, g, R, rfl, hM5, hb5⟩
  have hs5 := hb5.size
  have hk5 : Below w.heap.size w w5 := (by repeat (first | exact Below.refl _ _ | assumption | refine Below.drew ?_ | refine below_drewN ?_ _ | refine Below.alloc ?_ (by first | omega | (simp; done) | (simp; omega)) _ | refine Below.setCell ?_ (by first | omega | (simp; done) | (simp; omega)) _ | refine Below.trans ?_ (Below.mono (by assumption) (by first | omega | (simp; done) | (simp; omega)))))
  clear hb5 hk3
  go_wp2_with fail
  go_loopg [5, 6] (l.length + 1) (fun k v5 v6 wr => ∃ (i : Nat) (b : Bool), i ≤ l.length ∧ k + i = l.length + 1 ∧ v5 = .bool b ∧ v6 = .int .i64 i ∧ Below w5.heap.size w5 wr ∧ (b = true ↔ ∃ j, j < i ∧ Need l j j))
  case atStart => exact ⟨0, false, by omega, by omega, rfl, rfl, Below.refl _ _, ⟨fun h => (by cases h), fun ⟨j, hj, _⟩ => absurd hj (by omega)⟩⟩
  case round =>
    obtain ⟨wo, rfl⟩ : ∃ wo : World, wo = wr := ⟨_, rfl⟩
    obtain ⟨i, b, hil, hk, rfl, rfl, hbel, hb⟩ := hrel
    have hsz := hbel.size
    have HB := Lib.hid hb
    clear hb
    by_cases hlt : i < l.length
    · have hMo := hM5.later hbel
      have hmc := hMo.cell hlt hlt
      have hmt := hMo.at hlt hlt hlt
      have hRB := hMo.rowLt hlt hlt
      have hgB := hMo.lt
      have hn : mg (nd l) i i = decide (Need l i i) := bg_nd i hlt
      have i3 : (i : Int) < (l.length : Int) := by omega
      clear hMo
      cases b
      · by_cases hni : Need l i i
        · simp [hni] at hn
          rw [hn] at hmt
          have HNI := Lib.hid hni
          clear hn hni
          go_wp2_with fail
          go_roundg (gk - 1)
          case measure => omega
          case rel => exact ⟨i + 1, true, by omega, by omega, rfl, by go_num, (by repeat (first | exact Below.refl _ _ | assumption | refine Below.drew ?_ | refine below_drewN ?_ _ | refine Below.alloc ?_ (by first | omega | (simp; done) | (simp; omega)) _ | refine Below.setCell ?_ (by first | omega | (simp; done) | (simp; omega)) _ | refine Below.trans ?_ (Below.mono (by assumption) (by first | omega | (simp; done) | (simp; omega))))), fun _ => ⟨i, by omega, HNI.out⟩, fun _ => rfl⟩
        · simp [hni] at hn
          rw [hn] at hmt
          have HNI := Lib.hid hni
          clear hn hni
          go_wp2_with fail
          go_roundg (gk - 1)
          case measure => omega
          case rel => exact ⟨i + 1, false, by omega, by omega, rfl, by go_num, (by repeat (first | exact Below.refl _ _ | assumption | refine Below.drew ?_ | refine below_drewN ?_ _ | refine Below.alloc ?_ (by first | omega | (simp; done) | (simp; omega)) _ | refine Below.setCell ?_ (by first | omega | (simp; done) | (simp; omega)) _ | refine Below.trans ?_ (Below.mono (by assumption) (by first | omega | (simp; done) | (simp; omega))))), fun h => (by cases h), fun ⟨j, hj, hjj⟩ => by
            by_cases e : j = i
            · subst e; exact absurd hjj HNI.out
            · have := HB.out.2 ⟨j, by omega, hjj⟩
              simp at this⟩
      · go_wp2_with fail
        go_roundg (gk - 1)
        case measure => omega
        case rel => exact ⟨i + 1, true, by omega, by omega, rfl, by go_num, (by repeat (first | exact Below.refl _ _ | assumption | refine Below.drew ?_ | refine below_drewN ?_ _ | refine Below.alloc ?_ (by first | omega | (simp; done) | (simp; omega)) _ | refine Below.setCell ?_ (by first | omega | (simp; done) | (simp; omega)) _ | refine Below.trans ?_ (Below.mono (by assumption) (by first | omega | (simp; done) | (simp; omega))))), fun _ => by
          obtain ⟨j, hj, hjj⟩ := HB.out.1 (by first | rfl | trivial)
          exact ⟨j, by omega, hjj⟩, fun _ => rfl⟩
    · have hko : Below w.heap.size w wo := (by repeat (first | exact Below.refl _ _ | assumption | refine Below.drew ?_ | refine below_drewN ?_ _ | refine Below.alloc ?_ (by first | omega | (simp; done) | (simp; omega)) _ | refine Below.setCell ?_ (by first | omega | (simp; done) | (simp; omega)) _ | refine Below.trans ?_ (Below.mono (by assumption) (by first | omega | (simp; done) | (simp; omega)))))
      have hMo := hM5.later hbel
      cases b
      · have hor : ¬ (orderOf l).length < l.length := order_acyc HV.out fun j hj hjj => by
          have := HB.out.2 ⟨j, by omega, hjj⟩
          simp at this
        have hO1 : ordL l = orderOf l := by unfold ordL; rw [if_neg hor]
        have hO2 : ordE l = 0 := by unfold ordE; rw [if_neg hor]
        obtain ⟨O, hO⟩ : ∃ O, O = orderOf l := ⟨_, rfl⟩
        rw [← hO] at hO1 hor
        have hOl : O.length = l.length := by have := order_le HV.out; rw [hO] at hor; rw [hO]; omega
        have c := order_at l 0 a cap wo (hT.later hko) HV.out hO2
        rw [hO1] at c
        have HO := Lib.hid hO
        have HOL := Lib.hid hOl
        have e1 : ((O.length : Int) != (l.length : Int)) = false := by simp; omega
        have hO40 : O.length ≤ 40 := by omega
        have HC := Lib.hid c
        clear hO1 hO2 hor hO hOl c hM5 hbel hk5
        go_wp2_with fail
        refine Calls.mono HC.out ?_
        rintro e w6 ⟨oa, oc, rfl, hI6, hb6⟩
        have hs6 := hb6.size
        have hk6 : Below w.heap.size w w6 := (by repeat (first | exact Below.refl _ _ | assumption | refine Below.drew ?_ | refine below_drewN ?_ _ | refine Below.alloc ?_ (by first | omega | (simp; done) | (simp; omega)) _ | refine Below.setCell ?_ (by first | omega | (simp; done) | (simp; omega)) _ | refine Below.trans ?_ (Below.mono (by assumption) (by first | omega | (simp; done) | (simp; omega)))))
        have hM6 := hMo.later hb6
        clear hb6 hko hMo HC
        go_wp2_with (at_make; go_must (refine make_bool _ rfl _ _ rfl .i64 .i64 l.length rfl rfl (by omega) ?_); intro w7 ho7 hb7 hsz7)
        have hs7 := hb7.size
        go_loopg [10] (O.length + 1) (fun k v10 wr => ∃ (r : Nat) (D : List Bool), r ≤ O.length ∧ k + r = O.length + 1 ∧ v10 = .int .i64 r ∧ Below w6.heap.size w6 wr ∧ OwnB wr w6.heap.size w6.heap.size D ∧ D.length = l.length ∧ ∀ k, k < l.length → (bg D k = true ↔ ∃ s, s < r ∧ ig O s = k))
        case atStart => exact ⟨0, _, by omega, by omega, rfl, hb7, ho7, by simp, fun k hk => ⟨fun h => (by
          have e : bg (List.replicate l.length false) k = false := by
            simp [bg, List.getElem?_replicate]
            split <;> rfl
          rw [e] at h
          cases h), fun ⟨s, h, _⟩ => absurd h (by omega)⟩⟩
        case round =>
          obtain ⟨kr, rfl⟩ : ∃ kr : Nat, kr = gk := ⟨_, rfl⟩
          obtain ⟨wp, rfl⟩ : ∃ wp : World, wp = wr := ⟨_, rfl⟩
          obtain ⟨r, D, hrl, hkr, rfl, hbq7, hown, hdl, hds⟩ := hrel
          have hszp := hbq7.size
          have HDL := Lib.hid hdl
          have HDS := Lib.hid hds
          have hgo := hown.lt
          have hbq6 := hbq7
          clear hdl hds ho7 hb7 hsz7
          by_cases hlr : r < O.length
          · obtain ⟨t, htt, htl, hfr, hne, hdir⟩ := order_like HV.out (r := r) (by rw [← HO.out]; exact hlr)
            rw [← HO.out] at htt hfr hne hdir
            obtain ⟨ob, ooff, rfl, fo⟩ := (hI6.later hbq7).fam (by omega)
            have hor := fo r hlr
            rw [htt] at hor
            have hop := fun r1 (h : r1 < O.length) => fo r1 h
            have HTT := Lib.hid htt
            have hal := after_len HV.out htl
            have hdt : bg D t = false := by
              cases hb : bg D t
              · rfl
              · obtain ⟨s, hs, he⟩ := (HDS.out t htl).1 hb
                exact absurd he (hfr s hs)
            have hct := hown.cell (j := t) (by have := HDL.out; omega)
            rw [hdt] at hct
            have HNE := Lib.hid hne
            have HDIR := Lib.hid hdir
            have HOP := Lib.hid hop
            have e3 : decide ((t : Int) < 0) = false := by simp
            have e4 : decide (l.length ≤ t) = false := by simp; omega
            have t1 : (t : Int) < (l.length : Int) := by omega
            have t2 : (t : Int) < (D.length : Int) := by have := HDL.out; omega
            have r1 : (r : Int) < (O.length : Int) := by omega
            have HLR := Lib.hid (show r + 1 ≤ O.length by omega)
            have HKR := Lib.hid (show kr - 1 + (r + 1) = O.length + 1 by omega)
            clear fo hop hdt htt hfr hne hdir
            go_wp2_with fail
            go_loopg [12] (l.length + 1) (fun k v12 wr => ∃ c : Nat, c ≤ l.length ∧ k + c = l.length + 1 ∧ v12 = .int .i64 c ∧ Below wp.heap.size wp wr)
            case atStart => exact ⟨0, by omega, by omega, rfl, Below.refl _ _⟩
            case round =>
              obtain ⟨wz, rfl⟩ : ∃ wz : World, wz = wr := ⟨_, rfl⟩
              obtain ⟨c, hcl, hkc, rfl, hbz⟩ := hrel
              have hszz := hbz.size
              have hkz : Below w.heap.size w wz := (hk6.trans (hbq7.mono (by omega))).trans (hbz.mono (by omega))
              by_cases hlc : c < l.length
              · have hMz := (hM6.later hbq7).later hbz
                have hmc := hMz.cell htl htl
                have hmt := hMz.at htl htl hlc
                have hRB := hMz.rowLt htl htl
                have hgB := hMz.lt
                have hn : mg (nd l) t c = decide (Need l t c) := bg_nd t hlc
                have hoz := hown.later hbz
                have hdc := hoz.cell (j := c) (by have := HDL.out; omega)
                have c1 : (c : Int) < (l.length : Int) := by omega
                clear hMz
                by_cases hni : Need l t c
                · simp [hni] at hn
                  rw [hn] at hmt
                  have hdd : bg D c = true := (HDS.out c hlc).2 (HNE.out c hni)
                  rw [hdd] at hdc
                  clear hn hni hdd
                  go_wp2_with fail
                  go_roundg (gk - 1)
                  case measure => omega
                  case rel => exact ⟨c + 1, by omega, by omega, by go_num, hbz⟩
                · simp [hni] at hn
                  rw [hn] at hmt
                  clear hn hni
                  go_wp2_with fail
                  go_roundg (gk - 1)
                  case measure => omega
                  case rel => exact ⟨c + 1, by omega, by omega, by go_num, hbz⟩
              · clear hor
                by_cases hr0 : r = 0
                · have hz0 : ((r : Int) == 0) = true := by simpa using hr0
                  · skip
                    obtain ⟨P, hP0, hP1, hP2⟩ : ∃ P : Prop, (P → true = false) ∧ (true = false → P) ∧ (P → ∃ r1, r1 + 1 = r ∧ Dep l t (ig O r1).toNat) := ⟨true = false, id, id, fun h => (by cases h)⟩
                    have HP0 := Lib.hid hP0
                    have HP1 := Lib.hid hP1
                    have HP2 := Lib.hid hP2
                    clear hP0 hP1 hP2
                    go_wp2_with fail
                    go_loopg [13, 14] ((tg l t).after.length + 1) (fun k v13 v14 wr => ∃ (q : Nat) (b : Bool), q ≤ (tg l t).after.length ∧ k + q = (tg l t).after.length + 1 ∧ v13 = .bool b ∧ v14 = .int .i64 q ∧ Below wz.heap.size wz wr ∧ (b = false → P ∧ ∀ q', q' < q → ig (tg l t).after q' ≠ ig O (r - 1)))
                    case atStart => exact ⟨0, true, by omega, by omega, rfl, rfl, Below.refl _ _, fun h => ⟨by first | exact HP1.out h | exact HP1.out | exact HP1.out trivial, fun q' h => absurd h (by omega)⟩⟩
                    case round =>
                      obtain ⟨wd, rfl⟩ : ∃ wd : World, wd = wr := ⟨_, rfl⟩
                      obtain ⟨q, b, hql, hkq, rfl, rfl, hbd, hno⟩ := hrel
                      have hszd := hbd.size
                      have hbz := hbz.trans (hbd.mono (by omega))
                      have hkd : Below w.heap.size w wd := hkz.trans (hbd.mono (by omega))
                      obtain ⟨bb, off, aa, ac, rfl, c0, c1, c2, c3, hIa⟩ := (hT.later hkd) t htl
                      have hod := hown.later hbz
                      have htf := hod.free t
                      have hdt := hod.cell (j := t) (by have := HDL.out; omega)
                      have hgo := hod.lt
                      have HNO := Lib.hid hno
                      have HIA := Lib.hid hIa
                      clear hno hkz hIa
                      cases b
                      · have hpp : P := by first | exact (HNO.out rfl).1 | exact (HNO.out trivial).1 | exact HNO.out.1
                        have hbf : true = false := by first | rfl | exact HP0.out hpp | exact absurd hpp HP0.out
                        clear hpp
                        cases hbf
                      · by_cases hq : q < (tg l t).after.length
                        · have q1 : (q : Int) < ((tg l t).after.length : Int) := by omega
                          go_wp2_with fail
                          go_roundg (kr - 1)
                          case measure => omega
                          case rel => exact ⟨r + 1, D.set t true, HLR.out, HKR.out, by go_num, (hbq7.trans (hbz.mono (by omega))).setCell (by change w6.heap.size ≤ w6.heap.size; omega) _, hod.set t true, by simpa using HDL.out, fun k hk => by
                            rw [bg_set (by have := HDL.out; omega)]
                            by_cases e : t = k
                            · subst e; rw [if_pos rfl]; exact ⟨fun _ => ⟨r, by omega, HTT.out⟩, fun _ => rfl⟩
                            · rw [if_neg e, HDS.out k hk]
                              constructor
                              · rintro ⟨s, h1, h2⟩; exact ⟨s, by omega, h2⟩
                              · rintro ⟨s, h1, h2⟩
                                refine ⟨s, ?_, h2⟩
                                by_cases e' : s = r
                                · subst e'; have := HTT.out; omega
                                · omega⟩
                        · go_wp2_with fail
                          go_roundg (kr - 1)
                          case measure => omega
                          case rel => exact ⟨r + 1, D.set t true, HLR.out, HKR.out, by go_num, (hbq7.trans (hbz.mono (by omega))).setCell (by change w6.heap.size ≤ w6.heap.size; omega) _, hod.set t true, by simpa using HDL.out, fun k hk => by
                            rw [bg_set (by have := HDL.out; omega)]
                            by_cases e : t = k
                            · subst e; rw [if_pos rfl]; exact ⟨fun _ => ⟨r, by omega, HTT.out⟩, fun _ => rfl⟩
                            · rw [if_neg e, HDS.out k hk]
                              constructor
                              · rintro ⟨s, h1, h2⟩; exact ⟨s, by omega, h2⟩
                              · rintro ⟨s, h1, h2⟩
                                refine ⟨s, ?_, h2⟩
                                by_cases e' : s = r
                                · subst e'; have := HTT.out; omega
                                · omega⟩
                · obtain ⟨r1, hr1⟩ : ∃ r1, r1 + 1 = r := ⟨r - 1, by omega⟩
                  have hp := cell_later hbz (HOP.out r1 (by omega))
                  have hz0 : ((r : Int) == 0) = false := by simpa using hr0
                  have hwr : IntKind.i64.wrap ((r : Int) - 1) = (r1 : Int) := by
                    rw [show (r : Int) - 1 = (r1 : Int) by omega]
                    exact IntWalk.i64_in _ (by have := HOL.out; omega)
                  have r1l : (r1 : Int) < (O.length : Int) := by omega
                  have hdr := HDIR.out (by omega)
                  rw [show r - 1 = r1 by omega] at hdr
                  obtain ⟨y, hy⟩ : ∃ y, ig O r1 = y := ⟨_, rfl⟩
                  rw [hy] at hp hdr
                  have HYY := Lib.hid hy
                  clear hy
                  by_cases hpt : y < (t : Int)
                  · have hlt : decide (y < (t : Int)) = true := by simpa using hpt
                    clear hpt hdr
                    obtain ⟨P, hP0, hP1, hP2⟩ : ∃ P : Prop, (P → true = false) ∧ (true = false → P) ∧ (P → ∃ r1, r1 + 1 = r ∧ Dep l t (ig O r1).toNat) := ⟨true = false, id, id, fun h => (by cases h)⟩
                    have HP0 := Lib.hid hP0
                    have HP1 := Lib.hid hP1
                    have HP2 := Lib.hid hP2
                    clear hP0 hP1 hP2
                    go_wp2_with fail
                    go_loopg [13, 14] ((tg l t).after.length + 1) (fun k v13 v14 wr => ∃ (q : Nat) (b : Bool), q ≤ (tg l t).after.length ∧ k + q = (tg l t).after.length + 1 ∧ v13 = .bool b ∧ v14 = .int .i64 q ∧ Below wz.heap.size wz wr ∧ (b = false → P ∧ ∀ q', q' < q → ig (tg l t).after q' ≠ ig O (r - 1)))
                    case atStart => exact ⟨0, true, by omega, by omega, rfl, rfl, Below.refl _ _, fun h => ⟨by first | exact HP1.out h | exact HP1.out | exact HP1.out trivial, fun q' h => absurd h (by omega)⟩⟩
                    case round =>
                      obtain ⟨wd, rfl⟩ : ∃ wd : World, wd = wr := ⟨_, rfl⟩
                      obtain ⟨q, b, hql, hkq, rfl, rfl, hbd, hno⟩ := hrel
                      have hszd := hbd.size
                      have hbz := hbz.trans (hbd.mono (by omega))
                      have hkd : Below w.heap.size w wd := hkz.trans (hbd.mono (by omega))
                      obtain ⟨bb, off, aa, ac, rfl, c0, c1, c2, c3, hIa⟩ := (hT.later hkd) t htl
                      have hod := hown.later hbz
                      have htf := hod.free t
                      have hdt := hod.cell (j := t) (by have := HDL.out; omega)
                      have hgo := hod.lt
                      have HNO := Lib.hid hno
                      have HIA := Lib.hid hIa
                      clear hno hkz hIa
                      cases b
                      · have hpp : P := by first | exact (HNO.out rfl).1 | exact (HNO.out trivial).1 | exact HNO.out.1
                        have hbf : true = false := by first | rfl | exact HP0.out hpp | exact absurd hpp HP0.out
                        clear hpp
                        cases hbf
                      · by_cases hq : q < (tg l t).after.length
                        · have q1 : (q : Int) < ((tg l t).after.length : Int) := by omega
                          go_wp2_with fail
                          go_roundg (kr - 1)
                          case measure => omega
                          case rel => exact ⟨r + 1, D.set t true, HLR.out, HKR.out, by go_num, (hbq7.trans (hbz.mono (by omega))).setCell (by change w6.heap.size ≤ w6.heap.size; omega) _, hod.set t true, by simpa using HDL.out, fun k hk => by
                            rw [bg_set (by have := HDL.out; omega)]
                            by_cases e : t = k
                            · subst e; rw [if_pos rfl]; exact ⟨fun _ => ⟨r, by omega, HTT.out⟩, fun _ => rfl⟩
                            · rw [if_neg e, HDS.out k hk]
                              constructor
                              · rintro ⟨s, h1, h2⟩; exact ⟨s, by omega, h2⟩
                              · rintro ⟨s, h1, h2⟩
                                refine ⟨s, ?_, h2⟩
                                by_cases e' : s = r
                                · subst e'; have := HTT.out; omega
                                · omega⟩
                        · go_wp2_with fail
                          go_roundg (kr - 1)
                          case measure => omega
                          case rel => exact ⟨r + 1, D.set t true, HLR.out, HKR.out, by go_num, (hbq7.trans (hbz.mono (by omega))).setCell (by change w6.heap.size ≤ w6.heap.size; omega) _, hod.set t true, by simpa using HDL.out, fun k hk => by
                            rw [bg_set (by have := HDL.out; omega)]
                            by_cases e : t = k
                            · subst e; rw [if_pos rfl]; exact ⟨fun _ => ⟨r, by omega, HTT.out⟩, fun _ => rfl⟩
                            · rw [if_neg e, HDS.out k hk]
                              constructor
                              · rintro ⟨s, h1, h2⟩; exact ⟨s, by omega, h2⟩
                              · rintro ⟨s, h1, h2⟩
                                refine ⟨s, ?_, h2⟩
                                by_cases e' : s = r
                                · subst e'; have := HTT.out; omega
                                · omega⟩
                  · have hlt : decide (y < (t : Int)) = false := by simpa using hpt
                    have hdr' : Dep l t y.toNat := hdr.resolve_left hpt
                    have HDR := Lib.hid hdr'
                    clear hpt hdr hdr'
                    obtain ⟨P, hP0, hP1, hP2⟩ : ∃ P : Prop, (P → false = false) ∧ (false = false → P) ∧ (P → ∃ r1, r1 + 1 = r ∧ Dep l t (ig O r1).toNat) := ⟨false = false, id, id, fun _ => ⟨r1, hr1, by rw [HYY.out]; exact HDR.out⟩⟩
                    have HP0 := Lib.hid hP0
                    have HP1 := Lib.hid hP1
                    have HP2 := Lib.hid hP2
                    clear hP0 hP1 hP2
                    go_wp2_with fail
                    go_loopg [13, 14] ((tg l t).after.length + 1) (fun k v13 v14 wr => ∃ (q : Nat) (b : Bool), q ≤ (tg l t).after.length ∧ k + q = (tg l t).after.length + 1 ∧ v13 = .bool b ∧ v14 = .int .i64 q ∧ Below wz.heap.size wz wr ∧ (b = false → P ∧ ∀ q', q' < q → ig (tg l t).after q' ≠ ig O (r - 1)))
                    case atStart => exact ⟨0, false, by omega, by omega, rfl, rfl, Below.refl _ _, fun h => ⟨by first | exact HP1.out h | exact HP1.out | exact HP1.out trivial, fun q' h => absurd h (by omega)⟩⟩
                    case round =>
                      obtain ⟨wd, rfl⟩ : ∃ wd : World, wd = wr := ⟨_, rfl⟩
                      obtain ⟨q, b, hql, hkq, rfl, rfl, hbd, hno⟩ := hrel
                      have hszd := hbd.size
                      have hbz := hbz.trans (hbd.mono (by omega))
                      have hkd : Below w.heap.size w wd := hkz.trans (hbd.mono (by omega))
                      obtain ⟨bb, off, aa, ac, rfl, c0, c1, c2, c3, hIa⟩ := (hT.later hkd) t htl
                      have hod := hown.later hbz
                      have htf := hod.free t
                      have hdt := hod.cell (j := t) (by have := HDL.out; omega)
                      have hgo := hod.lt
                      have HNO := Lib.hid hno
                      have HIA := Lib.hid hIa
                      clear hno hkz hIa
                      cases b
                      · have hpp : P := by first | exact (HNO.out rfl).1 | exact (HNO.out trivial).1 | exact HNO.out.1
                        have hbf : false = false := by first | rfl | exact HP0.out hpp | exact absurd hpp HP0.out
                        clear hpp
                        by_cases hq : q < (tg l t).after.length
                        · have q1 : (q : Int) < ((tg l t).after.length : Int) := by omega
                          obtain ⟨r2, hr2, _⟩ := HP2.out (by first | exact (HNO.out rfl).1 | exact (HNO.out trivial).1 | exact HNO.out.1)
                          obtain rfl : r2 = r1 := by omega
                          obtain ⟨ab, aoff, rfl, fa⟩ := HIA.out.fam (by omega)
                          have hcq := fa q hq
                          have hor1 := (hI6.later (hbq6.trans (hbz.mono (by omega)))) r2 (by omega)
                          obtain ⟨ob, ooff, hoe, hoc⟩ := hor1
                          have hre : ig O (r - 1) = ig O r2 := by rw [show r - 1 = r2 by omega]
                          obtain ⟨y, hy⟩ : ∃ y, ig O r2 = y := ⟨_, rfl⟩
                          obtain ⟨z, hz⟩ : ∃ z, ig (tg l t).after q = z := ⟨_, rfl⟩
                          rw [hy] at hoc hre
                          rw [hz] at hcq
                          cases hoe
                          have HY := Lib.hid hre
                          have HZ := Lib.hid hz
                          clear hy hz fa hre
                          by_cases hzy : z = y
                          · have heq : (z == y) = true := by simpa using hzy
                            clear hzy
                            go_wp2_with fail
                            go_quiet (fail)
                            go_wp2_with fail
                            go_roundg (gk - 1)
                            case measure => omega
                            case rel => exact ⟨q + 1, true, by omega, by omega, rfl, by go_num, (by repeat (first | exact Below.refl _ _ | assumption | refine Below.drew ?_ | refine below_drewN ?_ _ | refine Below.alloc ?_ (by first | omega | (simp; done) | (simp; omega)) _ | refine Below.setCell ?_ (by first | omega | (simp; done) | (simp; omega)) _ | refine Below.trans ?_ (Below.mono (by assumption) (by first | omega | (simp; done) | (simp; omega))))), fun h => (by cases h)⟩
                          · have heq : (z == y) = false := by simpa using hzy
                            have HZY := Lib.hid hzy
                            clear hzy
                            go_wp2_with fail
                            go_quiet (fail)
                            go_wp2_with fail
                            go_roundg (gk - 1)
                            case measure => omega
                            case rel => exact ⟨q + 1, false, by omega, by omega, rfl, by go_num, (by repeat (first | exact Below.refl _ _ | assumption | refine Below.drew ?_ | refine below_drewN ?_ _ | refine Below.alloc ?_ (by first | omega | (simp; done) | (simp; omega)) _ | refine Below.setCell ?_ (by first | omega | (simp; done) | (simp; omega)) _ | refine Below.trans ?_ (Below.mono (by assumption) (by first | omega | (simp; done) | (simp; omega))))), fun _ => ⟨by first | exact (HNO.out rfl).1 | exact (HNO.out trivial).1 | exact HNO.out.1, fun q' hq' => by
                              rcases Nat.lt_succ_iff_lt_or_eq.1 hq' with h | h
                              · first | exact (HNO.out rfl).2 q' h | exact (HNO.out trivial).2 q' h | exact HNO.out.2 q' h
                              · subst h; rw [HZ.out, HY.out]; exact HZY.out⟩⟩
                        · exfalso
                          obtain ⟨h1, h2⟩ : P ∧ ∀ q', q' < q → ig (tg l t).after q' ≠ ig O (r - 1) := by first | exact HNO.out rfl | exact HNO.out trivial | exact HNO.out
                          obtain ⟨r1, hr1, q', hq', he⟩ := HP2.out h1
                          have hin := good_in ((HV.out.2 t htl).2.2.2.2) hq'
                          have hpos : 0 ≤ ig O r1 := by
                            rw [HO.out]
                            obtain ⟨p, hp, _⟩ := order_like HV.out (r := r1) (by rw [← HO.out]; omega)
                            rw [hp]
                            omega
                          refine h2 q' (by omega) ?_
                          rw [show r - 1 = r1 by omega]
                          omega
                      · by_cases hq : q < (tg l t).after.length
                        · have q1 : (q : Int) < ((tg l t).after.length : Int) := by omega
                          go_wp2_with fail
                          go_roundg (kr - 1)
                          case measure => omega
                          case rel => exact ⟨r + 1, D.set t true, HLR.out, HKR.out, by go_num, (hbq7.trans (hbz.mono (by omega))).setCell (by change w6.heap.size ≤ w6.heap.size; omega) _, hod.set t true, by simpa using HDL.out, fun k hk => by
                            rw [bg_set (by have := HDL.out; omega)]
                            by_cases e : t = k
                            · subst e; rw [if_pos rfl]; exact ⟨fun _ => ⟨r, by omega, HTT.out⟩, fun _ => rfl⟩
                            · rw [if_neg e, HDS.out k hk]
                              constructor
                              · rintro ⟨s, h1, h2⟩; exact ⟨s, by omega, h2⟩
                              · rintro ⟨s, h1, h2⟩
                                refine ⟨s, ?_, h2⟩
                                by_cases e' : s = r
                                · subst e'; have := HTT.out; omega
                                · omega⟩
                        · go_wp2_with fail
                          go_roundg (kr - 1)
                          case measure => omega
                          case rel => exact ⟨r + 1, D.set t true, HLR.out, HKR.out, by go_num, (hbq7.trans (hbz.mono (by omega))).setCell (by change w6.heap.size ≤ w6.heap.size; omega) _, hod.set t true, by simpa using HDL.out, fun k hk => by
                            rw [bg_set (by have := HDL.out; omega)]
                            by_cases e : t = k
                            · subst e; rw [if_pos rfl]; exact ⟨fun _ => ⟨r, by omega, HTT.out⟩, fun _ => rfl⟩
                            · rw [if_neg e, HDS.out k hk]
                              constructor
                              · rintro ⟨s, h1, h2⟩; exact ⟨s, by omega, h2⟩
                              · rintro ⟨s, h1, h2⟩
                                refine ⟨s, ?_, h2⟩
                                by_cases e' : s = r
                                · subst e'; have := HTT.out; omega
                                · omega⟩
          · go_wp2_with fail
            go_ret
            exact retB rfl (by repeat (first | exact Below.refl _ _ | assumption | refine Below.drew ?_ | refine below_drewN ?_ _ | refine Below.alloc ?_ (by first | omega | (simp; done) | (simp; omega)) _ | refine Below.setCell ?_ (by first | omega | (simp; done) | (simp; omega)) _ | refine Below.trans ?_ (Below.mono (by assumption) (by first | omega | (simp; done) | (simp; omega)))))
      · have hor : (orderOf l).length < l.length := by
          obtain ⟨j, hj, hjj⟩ := HB.out.1 (by first | rfl | trivial)
          exact order_cycle HV.out ⟨j, hjj⟩
        have hO1 : ordL l = [] := by unfold ordL; rw [if_pos hor]
        have hO2 : ordE l = 24 := by unfold ordE; rw [if_pos hor]
        have c := order_at l 24 a cap wo (hT.later hko) HV.out hO2
        rw [hO1] at c
        have HC := Lib.hid c
        clear hO1 hO2 hor c hM5 hbel hk5
        go_wp2_with fail
        refine Calls.mono HC.out ?_
        rintro e w6 ⟨oa, oc, rfl, hI6, hb6⟩
        have hs6 := hb6.size
        go_wp2_with fail
        go_ret
        exact retB rfl (by repeat (first | exact Below.refl _ _ | assumption | refine Below.drew ?_ | refine below_drewN ?_ _ | refine Below.alloc ?_ (by first | omega | (simp; done) | (simp; omega)) _ | refine Below.setCell ?_ (by first | omega | (simp; done) | (simp; omega)) _ | refine Below.trans ?_ (Below.mono (by assumption) (by first | omega | (simp; done) | (simp; omega)))))
theorem walk (w : World) (a : Option Addr) (cap : Nat) (l : List Tk) (hT : Tasks w a l) (hl : l.length < 9223372036854775808) (hS : ∀ i, i < l.length → (tg l i).after.length < 9223372036854775808) : Calls Try.prog 4 #[.slice a l.length cap] w (RetB (.bool true) w) := by
  by_cases hf : FewT l
  · by_cases hv : VT l
    · exact yes w a cap l hT hl hS hf hv
    · exact no w a cap l hT hl hS (.inr ⟨hf, hv⟩)
  · exact no w a cap l hT hl hS (.inl hf)
end TaskOrders
namespace TaskOrders
set_option maxRecDepth 100000 in
theorem entry (H : Type) (enc : TypeId × Value → H) (W : World) (base : Nat) (args : Array Value) (ds : List (DataW H)) (p : List MemPlace)
    (hval : ∀ (j : Nat) t v, Try.f4.params[j]? = some t → args[j]? = some v → Value.okWide Try.prog W .any base t v)
    (hA : DataW.TrodAll enc Try.prog W 0 (fun _ => true) true Try.f4.params.toList args.toList ds p) :
    Calls Try.prog 4 args W (RetB (.bool true) W) := by
  rw [Try.params4] at hA hval
  obtain ⟨v0, vs0, d0, ds0, p0, q0, hargs, rfl, rfl, h0, r0⟩ := trodAll_cons hA
  obtain ⟨rfl, rfl, rfl⟩ := trodAll_nil r0
  obtain rfl : args = #[v0] := by cases args; simp_all
  obtain ⟨la, lc, l, rfl, lT, ll, ls⟩ := open_tasks (hval 0 22 v0 rfl rfl) h0
  exact walk W la lc l lT ll ls
end TaskOrders
/-! The step from the walk to the row of TaskOrders. -/
namespace TaskOrders
set_option maxRecDepth 100000 in
theorem lifted (os : Os) (started : os.Started) (H : Type) (enc : TypeId × Value → H) :
    ReturnsInHanded {} Try.checked os 4 .any (Rows.taskOrdersSpec.pre6 enc Try.prog Try.f4 Rows.taskOrdersRow.domain false) (Rows.taskOrdersSpec.post enc Try.prog Try.f4 false true false false) := by
  refine returnsInHanded_of_change (C := Try.checked) own started (by kernel_rfl) Try.func4
    (ChangeSpec.witness6 (enc := enc) (C := Try.checked) false ⟨#[], #[.slice none 0 0], []⟩ 8 (by kernel_rfl) (by kernel_rfl) (by kernel_rfl) (by kernel_rfl)) ?_
  intro W base args ds gs before hval0 hW hcnd _
  have hval : ∀ (j : Nat) t v, Try.f4.params[j]? = some t → args[j]? = some v → Value.okWide Try.prog W .any base t v := hval0
  have hW' := hW
  obtain ⟨p, q, hA0, hV, rfl, hfz, hnd⟩ := hW
  have hA : DataW.TrodAll enc Try.prog W 0 (fun _ => true) true Try.f4.params.toList args.toList ds p := hA0
  obtain ⟨rfl, rfl⟩ := trodVars_none hV
  have hlen := trodAll_len _ _ _ _ hA
  obtain ⟨d0, rfl⟩ : ∃ d0, ds = [d0] := by
    rw [Try.params4] at hlen
    exact list1 hlen
  refine (entry H enc W base args [d0] p hval hA).mono fun e W' ⟨he, bel⟩ => ?_
  subst he
  exact ⟨_, rfl, _, _, _, [], _, [], hW', trodAll_mk1 (shut_bool Try.underlying4 _), readback laidOut _ _ _ _ (by rw [Try.params4]; exact of_decide_eq_true (by kernel_rfl)) hA bel, rfl, bel.frame _, fun h => by cases h⟩

theorem over : Rows.taskOrdersRow.holds Try.pinned (OpenSpec.ofChange Rows.taskOrdersSpec) :=
  OpenClaim.holds_of_wide 4 Try.f4 rfl rfl rfl rfl rfl rfl rfl ⟨rfl, rfl, rfl, rfl, rfl⟩ rfl rfl rfl rfl rfl (by kernel_rfl) Try.func4 (by kernel_rfl)
    (of_decide_eq_true (by kernel_rfl)) (by unfold Func.isWrapper; first | (rw [if_pos (by decide +kernel)]; kernel_rfl) | (rw [if_neg (by decide +kernel)]; exact ⟨rfl, rfl⟩))
    (fun os started H enc _ => lifted os started H enc)

/-- THE STATEMENT -/
theorem proved : Rows.TaskOrdersSaid := over
end TaskOrders
#print axioms TaskOrders.proved
end Go.Proofs.Ytidbmllelnffdaa
