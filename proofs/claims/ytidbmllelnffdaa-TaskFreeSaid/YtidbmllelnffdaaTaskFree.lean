

/- TaskFree: for every valid tasks, without anything that they wait for, the order is that of the indices, all that is not done is ready, and the critical hours are those of the longest task; undoing one of them leaves all others as they are: the call of the law returns true, for every input. -/
import Derived.Test.YtidbmllelnffdaaFree
import Derived.BigQuiet
namespace Go.Proofs.Ytidbmllelnffdaa
open Go.ChangeShapes Go.WideShapes Go.ChangeAt Go.RowKit Go.Joins

section
variable {H : Type} {enc : TypeId × Value → H} {w : World} {held : Bool}
theorem open_u8 {b0 : Nat} {r : Reach} {v : Value} {d : DataW H} {p : List MemPlace} (hv : Value.okWide Try.prog w r b0 5 v) (h : DataW.Trod enc Try.prog w 0 (fun _ => true) held 5 v d p) :
    ∃ n : Int, v = .int .u8 n ∧ 0 ≤ n ∧ n < 256 := by
  obtain ⟨n, rfl, _, _, hw⟩ := open_int Try.underlying5 hv h
  have h1 := Bool.and_eq_true_iff.1 hw
  have h2 : 0 ≤ n := of_decide_eq_true h1.1
  have h3 : n ≤ 255 := of_decide_eq_true h1.2
  exact ⟨n, rfl, h2, by omega⟩
end

namespace TaskFree
set_option maxRecDepth 100000 in
set_option maxHeartbeats 2000000 in
theorem no (w : World) (a : Option Addr) (cap : Nat) (l : List Tk) (hT : Tasks w a l) (hl : l.length < 9223372036854775808) (hS : ∀ i, i < l.length → (tg l i).after.length < 9223372036854775808) (da : Option Addr) (dc : Nat) (d : List Bool) (raw : Int) (hno : ¬ FewT l ∨ FewT l ∧ ¬ VT l ∨ FewT l ∧ VT l ∧ d.length ≠ l.length) :
    Calls Try.prog 8 #[.slice a l.length cap, .slice da d.length dc, .int .u8 raw] w (RetB (.bool true) w) := by
  have HS := Lib.hid (fun _ : l.length ≤ 45 => hS)
  have HS' := Lib.hid (fun _ : l.length ≤ 40 => hS)
  rcases hno with hf | ⟨hf, hv⟩ | ⟨hf, hv, hne⟩
  · have HF := Lib.hid (show false = true ↔ FewT l by simp [hf])
    clear hf hS
    go_enter Try.func8, Try.ntmps8
    go_wp2_with fail
    refine Calls.mono (head_any _) ?_
    rintro e w1 ⟨rfl, hb1⟩; have hs1 := hb1.size; (try simp at hs1)
    go_wp2_with fail
    refine Calls.mono (few_any l false a cap _ (hT.later (by repeat (first | exact Below.refl _ _ | assumption | refine Below.drew ?_ | refine below_drewN ?_ _ | refine Below.alloc ?_ (by first | omega | (simp; done) | (simp; omega)) _ | refine Below.setCell ?_ (by first | omega | (simp; done) | (simp; omega)) _ | refine Below.trans ?_ (Below.mono (by assumption) (by first | omega | (simp; done) | (simp; omega)))))) hl HS.out HF.out) ?_
    rintro e w2 ⟨rfl, rfl⟩
    go_wp2_with fail
    go_ret
    exact retB rfl (by repeat (first | exact Below.refl _ _ | assumption | refine Below.drew ?_ | refine below_drewN ?_ _ | refine Below.alloc ?_ (by first | omega | (simp; done) | (simp; omega)) _ | refine Below.setCell ?_ (by first | omega | (simp; done) | (simp; omega)) _ | refine Below.trans ?_ (Below.mono (by assumption) (by first | omega | (simp; done) | (simp; omega)))))
  · have HF := Lib.hid (show true = true ↔ FewT l by simp [hf])
    have HV := Lib.hid (show false = true ↔ VT l by simp [hv])
    clear hf hS hv
    go_enter Try.func8, Try.ntmps8
    go_wp2_with fail
    refine Calls.mono (head_any _) ?_
    rintro e w1 ⟨rfl, hb1⟩; have hs1 := hb1.size; (try simp at hs1)
    go_wp2_with fail
    refine Calls.mono (few_any l true a cap _ (hT.later (by repeat (first | exact Below.refl _ _ | assumption | refine Below.drew ?_ | refine below_drewN ?_ _ | refine Below.alloc ?_ (by first | omega | (simp; done) | (simp; omega)) _ | refine Below.setCell ?_ (by first | omega | (simp; done) | (simp; omega)) _ | refine Below.trans ?_ (Below.mono (by assumption) (by first | omega | (simp; done) | (simp; omega)))))) hl HS.out (by simpa using HF.out)) ?_
    rintro e w2 ⟨rfl, rfl⟩
    go_wp2_with fail
    refine Calls.mono (rvalid_any l a cap false _ (hT.later (by repeat (first | exact Below.refl _ _ | assumption | refine Below.drew ?_ | refine below_drewN ?_ _ | refine Below.alloc ?_ (by first | omega | (simp; done) | (simp; omega)) _ | refine Below.setCell ?_ (by first | omega | (simp; done) | (simp; omega)) _ | refine Below.trans ?_ (Below.mono (by assumption) (by first | omega | (simp; done) | (simp; omega)))))) hl HS'.out (by simpa using HV.out)) ?_
    rintro e w3 ⟨rfl, hb3⟩
    have hs3 := hb3.size
    go_wp2_with fail
    go_ret
    exact retB rfl (by repeat (first | exact Below.refl _ _ | assumption | refine Below.drew ?_ | refine below_drewN ?_ _ | refine Below.alloc ?_ (by first | omega | (simp; done) | (simp; omega)) _ | refine Below.setCell ?_ (by first | omega | (simp; done) | (simp; omega)) _ | refine Below.trans ?_ (Below.mono (by assumption) (by first | omega | (simp; done) | (simp; omega)))))
  · have HF := Lib.hid (show true = true ↔ FewT l by simp [hf])
    have HV := Lib.hid (show true = true ↔ VT l by simp [hv])
    have e1 : ((d.length : Int) != (l.length : Int)) = true := by simp; omega
    clear hf hS hv hne
    go_enter Try.func8, Try.ntmps8
    go_wp2_with fail
    refine Calls.mono (head_any _) ?_
    rintro e w1 ⟨rfl, hb1⟩; have hs1 := hb1.size; (try simp at hs1)
    go_wp2_with fail
    refine Calls.mono (few_any l true a cap _ (hT.later (by repeat (first | exact Below.refl _ _ | assumption | refine Below.drew ?_ | refine below_drewN ?_ _ | refine Below.alloc ?_ (by first | omega | (simp; done) | (simp; omega)) _ | refine Below.setCell ?_ (by first | omega | (simp; done) | (simp; omega)) _ | refine Below.trans ?_ (Below.mono (by assumption) (by first | omega | (simp; done) | (simp; omega)))))) hl HS.out (by simpa using HF.out)) ?_
    rintro e w2 ⟨rfl, rfl⟩
    go_wp2_with fail
    refine Calls.mono (rvalid_any l a cap true _ (hT.later (by repeat (first | exact Below.refl _ _ | assumption | refine Below.drew ?_ | refine below_drewN ?_ _ | refine Below.alloc ?_ (by first | omega | (simp; done) | (simp; omega)) _ | refine Below.setCell ?_ (by first | omega | (simp; done) | (simp; omega)) _ | refine Below.trans ?_ (Below.mono (by assumption) (by first | omega | (simp; done) | (simp; omega)))))) hl HS'.out (by simpa using HV.out)) ?_
    rintro e w3 ⟨rfl, hb3⟩
    have hs3 := hb3.size
    go_wp2_with fail
    go_ret
    exact retB rfl (by repeat (first | exact Below.refl _ _ | assumption | refine Below.drew ?_ | refine below_drewN ?_ _ | refine Below.alloc ?_ (by first | omega | (simp; done) | (simp; omega)) _ | refine Below.setCell ?_ (by first | omega | (simp; done) | (simp; omega)) _ | refine Below.trans ?_ (Below.mono (by assumption) (by first | omega | (simp; done) | (simp; omega)))))

open Classical in
set_option maxRecDepth 100000 in
set_option maxHeartbeats 8000000 in
theorem yes (w : World) (a : Option Addr) (cap : Nat) (l : List Tk) (hT : Tasks w a l) (hl : l.length < 9223372036854775808) (hS : ∀ i, i < l.length → (tg l i).after.length < 9223372036854775808) (da : Option Addr) (dc : Nat) (d : List Bool) (hD : Bools w da d) (raw : Int) (hr0 : 0 ≤ raw ∧ raw < 256) (hf : FewT l) (hv : VT l) (hd : d.length = l.length) (hpos : 0 < l.length) : Calls Try.prog 8 #[.slice a l.length cap, .slice da l.length dc, .int .u8 raw] w (RetB (.bool true) w) := by
  have HS := Lib.hid (fun _ : l.length ≤ 45 => hS)
  have HS' := Lib.hid (fun _ : l.length ≤ 40 => hS)
  have HF := Lib.hid (show true = true ↔ FewT l by simp [hf])
  have HV := Lib.hid hv
  have HVF := Lib.hid (FL_valid hv)
  have HDL := Lib.hid hd
  have h40 := hv.1
  have hlz : ((l.length : Int) == 0) = false := by rw [beq_eq_false_iff_ne]; omega
  clear hf hS hv hd
  go_enter Try.func8, Try.ntmps8
  go_wp2_with fail
  refine Calls.mono (head_any _) ?_
  rintro e w1 ⟨rfl, hb1⟩; have hs1 := hb1.size; (try simp at hs1)
  go_wp2_with fail
  refine Calls.mono (few_any l true a cap _ (hT.later (by repeat (first | exact Below.refl _ _ | assumption | refine Below.drew ?_ | refine below_drewN ?_ _ | refine Below.alloc ?_ (by first | omega | (simp; done) | (simp; omega)) _ | refine Below.setCell ?_ (by first | omega | (simp; done) | (simp; omega)) _ | refine Below.trans ?_ (Below.mono (by assumption) (by first | omega | (simp; done) | (simp; omega)))))) hl HS.out (by simpa using HF.out)) ?_
  rintro e w2 ⟨rfl, rfl⟩
  go_wp2_with fail
  refine Calls.mono (rvalid_any l a cap true _ (hT.later (by repeat (first | exact Below.refl _ _ | assumption | refine Below.drew ?_ | refine below_drewN ?_ _ | refine Below.alloc ?_ (by first | omega | (simp; done) | (simp; omega)) _ | refine Below.setCell ?_ (by first | omega | (simp; done) | (simp; omega)) _ | refine Below.trans ?_ (Below.mono (by assumption) (by first | omega | (simp; done) | (simp; omega)))))) hl HS'.out (by simp [HV.out])) ?_
  rintro e w3 ⟨rfl, hb3⟩
  have hs3 := hb3.size
  have hk3 : Below w.heap.size w w3 := (by repeat (first | exact Below.refl _ _ | assumption | refine Below.drew ?_ | refine below_drewN ?_ _ | refine Below.alloc ?_ (by first | omega | (simp; done) | (simp; omega)) _ | refine Below.setCell ?_ (by first | omega | (simp; done) | (simp; omega)) _ | refine Below.trans ?_ (Below.mono (by assumption) (by first | omega | (simp; done) | (simp; omega)))))
  clear hb3 hb1
  go_wp2_with (at_builtin; go_must (refine append_tasks _ rfl _ _ rfl w3 rfl rfl l a cap rfl (hT.later hk3) hpos (by omega) ?_); intro g cp w4 L0 hL0 ho4 hb4)
  have hs4 := hb4.size
  have hft := FT.start hL0
  go_loopg [9, 10] (l.length + 1) (fun k v9 v10 wr => ∃ (i : Nat) (L : List TR), i ≤ l.length ∧ k + i = l.length + 1 ∧ v9 = .int .i64 (most ((hrs l).take i)) ∧ v10 = .int .i64 i ∧ Below w3.heap.size w3 wr ∧ OwnT wr w3.heap.size g cp L ∧ FT l i L)
  case atStart => exact ⟨0, L0, by omega, by omega, rfl, rfl, hb4, ho4, hft⟩
  case round =>
    obtain ⟨wo, rfl⟩ : ∃ wo : World, wo = wr := ⟨_, rfl⟩
    obtain ⟨i, L, hil, hk, rfl, rfl, hbel, hown, hfi⟩ := hrel
    have hsz := hbel.size
    have hgo := hown.lt
    have HFT := Lib.hid hfi
    have HLL := Lib.hid hfi.1
    clear hfi hft ho4 hb4
    by_cases hlt : i < l.length
    · have hiL : i < L.length := by have := HLL.out; omega
      have c3 : wo.cell? ⟨g, i * 4 + 3, none⟩ = some (.slice (rg L i).aa (rg L i).t.after.length (rg L i).ac) := hown.cell hiL (j := 3) (by omega)
      have c0 : wo.cell? ⟨g, i * 4, none⟩ = some (.int .i64 (rg L i).t.hours) := hown.cell hiL (j := 0) (by omega)
      have ht : (rg L i).t = tg l i := by have := HFT.out.2 i hlt; rwa [if_neg (by omega)] at this
      rw [ht] at c0
      have f3 := hown.free (i * 4 + 3)
      have i1 : (i : Int) < (l.length : Int) := by omega
      have hset := hown.set hiL [] none 0 (FarI.nil _ _ _)
      have HSET := Lib.hid hset
      have HMT := Lib.hid (show most ((hrs l).take (i + 1)) = max (most ((hrs l).take i)) (tg l i).hours by rw [most_take _ (by rw [hrs_len]; exact hlt), ig_hrs hlt])
      clear ht hset
      go_wp2_with fail
      go_roundg (gk - 1)
      case measure => omega
      case rel => exact ⟨i + 1, L.set i (upd (rg L i) [] none 0), by omega, by omega, by rw [HMT.out], by go_num, hbel.setCell (by change w3.heap.size ≤ g; omega) _, HSET.out, HFT.out.step hlt⟩
    · obtain rfl : i = l.length := by omega
      have hmo : most ((hrs l).take l.length) = most (hrs l) := by rw [List.take_of_length_le (by rw [hrs_len]; exact Nat.le_refl _)]
      rw [hmo]
      obtain ⟨M, hM⟩ : ∃ M, M = most (hrs l) := ⟨_, rfl⟩
      rw [← hM]
      have hTF : Tasks wo (some ⟨g, 0, none⟩) (FL l) := by rw [← HFT.out.done]; exact hown.tasks
      obtain ⟨O, hO⟩ : ∃ O, O = orderOf (FL l) := ⟨_, rfl⟩
      have hOl : O.length = l.length := by rw [hO]; exact FL_olen HV.out
      have c := order_at (FL l) 0 (some ⟨g, 0, none⟩) cp wo hTF HVF.out (FL_ordE HV.out)
      rw [FL_ordL HV.out, ← hO, FL_len] at c
      have HC1 := Lib.hid c
      have HM := Lib.hid hM
      have HOR := Lib.hid (show ∀ r, r < l.length → ig O r = r from fun r hr => by rw [hO]; exact FL_order HV.out hr)
      have HOL := Lib.hid hOl
      have hko : Below w.heap.size w wo := hk3.trans (hbel.mono (by omega))
      have HTF := Lib.hid hTF
      have e1 : ((O.length : Int) != (l.length : Int)) = false := by simp; omega
      clear c hM hmo hTF hO hOl hbel hown
      go_wp2_with fail
      refine Calls.mono HC1.out ?_
      rintro e w5 ⟨oa, oc, rfl, hI5, hb5⟩
      have hs5 := hb5.size
      have hT5 := HTF.out.later hb5
      have hk5 : Below w.heap.size w w5 := hko.trans (hb5.mono (by omega))
      have c := critical_yes (FL l) (some ⟨g, 0, none⟩) cp w5 hT5 (by rw [FL_len]; omega) (fun _ i _ => by rw [tg_FL]; simp [fr]) HVF.out
      rw [FL_len, FL_crit HV.out, FL_ordE HV.out, ← HM.out] at c
      have HC2 := Lib.hid c
      clear c hb5 hko HC1 HTF
      go_wp2_with fail
      refine Calls.mono HC2.out ?_
      rintro e w6 ⟨rfl, hb6⟩
      have hs6 := hb6.size
      have hT6 := hT5.later hb6
      have hI6 := hI5.later hb6
      have hk6 : Below w.heap.size w w6 := hk5.trans (hb6.mono (by omega))
      have hDr := hD.later hk6
      obtain ⟨C, hC⟩ : ∃ C, C = col (FL l) d l.length := ⟨_, rfl⟩
      have c := ready_yes (FL l) d (some ⟨g, 0, none⟩) da cp dc w6 hT6 hDr HVF.out (by rw [FL_len]; exact HDL.out)
      rw [FL_len, HDL.out, ← hC] at c
      have HC3 := Lib.hid c
      have HC := Lib.hid hC
      clear c hb6 hk5 HC2 hT5 hI5 hC
      go_wp2_with fail
      refine Calls.mono HC3.out ?_
      rintro e w7 ⟨ra, rc, rfl, hR7, hb7⟩
      have hs7 := hb7.size
      have hT7 := hT6.later hb7
      have hI7 := hI6.later hb7
      have hk7 : Below w.heap.size w w7 := hk6.trans (hb7.mono (by omega))
      have hD7 := hDr.later hb7
      clear hb7 hk6 HC3 hT6 hI6 hDr
      have hmm : (M != M) = false := by simp
      obtain ⟨ob, ooff, rfl, fo⟩ := hI7.fam (by have := HOL.out; omega)
      obtain ⟨db, doff, rfl, fd⟩ := hD7.fam (by have := HDL.out; omega)
      have HFO := Lib.hid fo
      have HFD := Lib.hid fd
      clear fo fd
      go_wp2_with fail
      go_loopg [16, 17] (l.length + 1) (fun k v16 v17 wr => ∃ i : Nat, i ≤ l.length ∧ k + i = l.length + 1 ∧ v16 = .int .i64 ((col (FL l) d i).length : Int) ∧ v17 = .int .i64 i ∧ Below w7.heap.size w7 wr)
      case atStart => exact ⟨0, by omega, by omega, rfl, rfl, Below.refl _ _⟩
      case round =>
        obtain ⟨wp, rfl⟩ : ∃ wp : World, wp = wr := ⟨_, rfl⟩
        obtain ⟨i, hil, hki, rfl, rfl, hbp⟩ := hrel
        have hszp := hbp.size
        by_cases hlt : i < l.length
        · have hoi := cell_later hbp (HFO.out i (by have := HOL.out; omega))
          rw [HOR.out i hlt] at hoi
          have hdi := cell_later hbp (HFD.out i (by have := HDL.out; omega))
          have i1 : (i : Int) < (l.length : Int) := by omega
          have i2 : (i : Int) < (O.length : Int) := by have := HOL.out; omega
          have hii : ((i : Int) != (i : Int)) = false := by simp
          obtain ⟨q, hq⟩ : ∃ q, q = (col (FL l) d i).length := ⟨_, rfl⟩
          rw [← hq]
          have hqi : q ≤ i := by rw [hq]; exact col_len _ _ _
          have HQ := Lib.hid hq
          clear hq
          cases hbd : bg d i
          · rw [hbd] at hdi
            have hrr : rdy (FL l) d i = true := by rw [FL_rdy, hbd]; rfl
            obtain ⟨n1, n2⟩ := col_next (n := l.length) hlt hrr
            rw [← HC.out, ← HQ.out] at n1 n2
            have HYES := Lib.hid (col_yes hrr)
            obtain ⟨rb, roff, hre, hrc⟩ := (hR7.later hbp) q n1
            rw [n2] at hrc
            subst hre
            have q1 : (q : Int) < (C.length : Int) := by omega
            have q2 : decide (C.length ≤ q) = false := by simp; omega
            clear hbd hrr n2
            go_wp2_with fail
            go_roundg (gk - 1)
            case measure => omega
            case rel => exact ⟨i + 1, by omega, by omega, by rw [HYES.out, List.length_append, ← HQ.out]; go_num, by go_num, hbp⟩
          · rw [hbd] at hdi
            have HNO := Lib.hid (show col (FL l) d (i + 1) = col (FL l) d i from col_no (by rw [FL_rdy, hbd]; rfl))
            clear hbd
            go_wp2_with fail
            go_roundg (gk - 1)
            case measure => omega
            case rel => exact ⟨i + 1, by omega, by omega, by rw [HNO.out, ← HQ.out], by go_num, hbp⟩
        · obtain rfl : i = l.length := by omega
          rw [← HC.out]
          have hcc : ((C.length : Int) != (C.length : Int)) = false := by simp
          have hm0 : 0 ≤ raw % (l.length : Int) := Int.emod_nonneg _ (by omega)
          have hm1 : raw % (l.length : Int) < (l.length : Int) := Int.emod_lt_of_pos _ (by omega)
          obtain ⟨q, hq⟩ : ∃ q : Nat, raw % (l.length : Int) = (q : Int) := ⟨(raw % (l.length : Int)).toNat, by omega⟩
          have hql : q < l.length := by omega
          have q1 : (q : Int) < (l.length : Int) := by omega
          have hdq := cell_later hbp (HFD.out q (by have := HDL.out; omega))
          have hTp := hT7.later hbp
          have hDp := hD7.later hbp
          have hkp : Below w.heap.size w wp := hk7.trans (hbp.mono (by omega))
          clear hm0 hm1 hT7 hD7 hR7 hI7
          cases hbq : bg d q
          · rw [hbq] at hdq
            have c := undo_five (FL l) d q (some ⟨g, 0, none⟩) (some ⟨db, doff, none⟩) cp dc wp hTp hDp HVF.out (by rw [FL_len]; exact HDL.out) (FL_acyc HV.out) (by rw [FL_len]; exact hql) (fun h => by rw [hbq] at h; exact absurd h.2 (by simp))
            rw [FL_len, HDL.out] at c
            have HC4 := Lib.hid c
            clear c hbq
            go_wp2_with fail
            refine Calls.mono HC4.out ?_
            rintro e w8 ⟨xa, xc, rfl, hX8, hb8⟩
            have hs8 := hb8.size
            have hdq := cell_later hb8 hdq
            go_wp2_with fail
            go_ret
            exact retB rfl (hkp.trans (hb8.mono (by omega)))
          · rw [hbq] at hdq
            have c := undo_ok (FL l) d q (some ⟨g, 0, none⟩) (some ⟨db, doff, none⟩) cp dc wp hTp hDp HVF.out (by rw [FL_len]; exact HDL.out) (FL_acyc HV.out) (by rw [FL_len]; exact hql) (FL_clo l d) hbq
            rw [FL_len, HDL.out] at c
            obtain ⟨X, hX⟩ : ∃ X, X = und (FL l) d q := ⟨_, rfl⟩
            have hXl : X.length = l.length := by rw [hX, und_len, FL_len]
            rw [← hX] at c
            have HC4 := Lib.hid c
            have HX := Lib.hid (show ∀ i, i < l.length → bg X i = (bg d i && !decide (i = q)) from fun i hi => by rw [hX]; exact FL_und d q hi)
            have HXL := Lib.hid hXl
            have ex : ((X.length : Int) == (l.length : Int)) = true := by simp; omega
            have hx40 : X.length ≤ 40 := by omega
            clear c hbq hX hXl
            go_wp2_with fail
            refine Calls.mono HC4.out ?_
            rintro e w8 ⟨xa, xc, rfl, hX8, hb8⟩
            have hs8 := hb8.size
            have hdq := cell_later hb8 hdq
            have hbd8 := hDp.later hb8
            have hk8 : Below w.heap.size w w8 := hkp.trans (hb8.mono (by omega))
            clear hb8 hTp hDp hkp hbp
            go_wp2_with fail
            go_loopg [21] (l.length + 1) (fun k v21 wr => ∃ i : Nat, i ≤ l.length ∧ k + i = l.length + 1 ∧ v21 = .int .i64 i ∧ Below w8.heap.size w8 wr)
            case atStart => exact ⟨0, by omega, by omega, rfl, Below.refl _ _⟩
            case round =>
              obtain ⟨wz, rfl⟩ : ∃ wz : World, wz = wr := ⟨_, rfl⟩
              obtain ⟨i, hil, hki, rfl, hbz⟩ := hrel
              have hszz := hbz.size
              by_cases hlt : i < l.length
              · obtain ⟨xb, xoff, rfl, fx⟩ := (hX8.later hbz).fam (by have := HXL.out; omega)
                have hxi := fx i (by have := HXL.out; omega)
                obtain ⟨_, _, hde, fdz⟩ := (hbd8.later hbz).fam (by have := HDL.out; omega)
                cases hde
                have hdi := fdz i (by have := HDL.out; omega)
                have hx := HX.out i hlt
                have i1 : (i : Int) < (l.length : Int) := by omega
                have i2 : (i : Int) < (X.length : Int) := by have := HXL.out; omega
                clear fx fdz
                cases hbd : bg d i
                · rw [hbd] at hdi hx
                  simp at hx
                  rw [hx] at hxi
                  clear hx hbd
                  go_wp2_with fail
                  go_quiet (fail)
                  go_wp2_with fail
                  go_roundg (gk - 1)
                  case measure => omega
                  case rel => exact ⟨i + 1, by omega, by omega, by go_num, (by repeat (first | exact Below.refl _ _ | assumption | refine Below.drew ?_ | refine below_drewN ?_ _ | refine Below.alloc ?_ (by first | omega | (simp; done) | (simp; omega)) _ | refine Below.setCell ?_ (by first | omega | (simp; done) | (simp; omega)) _ | refine Below.trans ?_ (Below.mono (by assumption) (by first | omega | (simp; done) | (simp; omega)))))⟩
                · rw [hbd] at hdi hx
                  by_cases hiq : i = q
                  · simp [hiq] at hx
                    rw [← hiq] at hx
                    rw [hx] at hxi
                    have hne : ((i : Int) != (q : Int)) = false := by simp; omega
                    clear hx hbd hiq
                    go_wp2_with fail
                    go_quiet (fail)
                    go_wp2_with fail
                    go_roundg (gk - 1)
                    case measure => omega
                    case rel => exact ⟨i + 1, by omega, by omega, by go_num, (by repeat (first | exact Below.refl _ _ | assumption | refine Below.drew ?_ | refine below_drewN ?_ _ | refine Below.alloc ?_ (by first | omega | (simp; done) | (simp; omega)) _ | refine Below.setCell ?_ (by first | omega | (simp; done) | (simp; omega)) _ | refine Below.trans ?_ (Below.mono (by assumption) (by first | omega | (simp; done) | (simp; omega)))))⟩
                  · simp [hiq] at hx
                    rw [hx] at hxi
                    have hne : ((i : Int) != (q : Int)) = true := by simp; omega
                    clear hx hbd hiq
                    go_wp2_with fail
                    go_quiet (fail)
                    go_wp2_with fail
                    go_roundg (gk - 1)
                    case measure => omega
                    case rel => exact ⟨i + 1, by omega, by omega, by go_num, (by repeat (first | exact Below.refl _ _ | assumption | refine Below.drew ?_ | refine below_drewN ?_ _ | refine Below.alloc ?_ (by first | omega | (simp; done) | (simp; omega)) _ | refine Below.setCell ?_ (by first | omega | (simp; done) | (simp; omega)) _ | refine Below.trans ?_ (Below.mono (by assumption) (by first | omega | (simp; done) | (simp; omega)))))⟩
              · have hxe : X.length ≤ i := by have := HXL.out; omega
                go_wp2_with fail
                go_ret
                exact retB rfl (hk8.trans (hbz.mono (by omega)))
theorem VT_nil : VT [] := ⟨by simp, fun i hi => absurd hi (by simp)⟩
theorem few_nil : FewT [] := ⟨by simp, fun i hi => absurd hi (by simp)⟩
theorem ord_nil : orderOf [] = [] := rfl
set_option maxRecDepth 100000 in
set_option maxHeartbeats 4000000 in
theorem nil (w : World) (a : Option Addr) (cap : Nat) (da : Option Addr) (dc : Nat) (raw : Int) : Calls Try.prog 8 #[.slice a 0 cap, .slice da 0 dc, .int .u8 raw] w (RetB (.bool true) w) := by
  have hT : ∀ w x, Tasks w x [] := fun _ _ i hi => absurd hi (by simp)
  have HT := Lib.hid hT
  clear hT
  go_enter Try.func8, Try.ntmps8
  go_wp2_with fail
  refine Calls.mono (head_any _) ?_
  rintro e w1 ⟨rfl, hb1⟩; have hs1 := hb1.size; (try simp at hs1)
  go_wp2_with fail
  refine Calls.mono (few_any [] true a cap _ (HT.out _ _) (by simp) (fun _ i hi => absurd hi (by simp)) (by simp [few_nil])) ?_
  rintro e w2 ⟨rfl, rfl⟩
  go_wp2_with fail
  refine Calls.mono (rvalid_any [] a cap true _ (HT.out _ _) (by simp) (fun _ i hi => absurd hi (by simp)) (by simp [VT_nil])) ?_
  rintro e w3 ⟨rfl, hb3⟩
  have hs3 := hb3.size
  have hk3 : Below w.heap.size w w3 := (by repeat (first | exact Below.refl _ _ | assumption | refine Below.drew ?_ | refine below_drewN ?_ _ | refine Below.alloc ?_ (by first | omega | (simp; done) | (simp; omega)) _ | refine Below.setCell ?_ (by first | omega | (simp; done) | (simp; omega)) _ | refine Below.trans ?_ (Below.mono (by assumption) (by first | omega | (simp; done) | (simp; omega)))))
  clear hb3 hb1
  have hcr : critL [] = 0 := (FL_crit VT_nil : critL (FL []) = most (hrs []))
  have hor : ordE [] = 0 := rfl
  have HCR := Lib.hid hcr
  have HOR := Lib.hid hor
  clear hcr hor
  cases a
  · go_wp2_with fail
    go_loopg [9, 10] 1 (fun _ v9 v10 wr => v9 = .int .i64 0 ∧ v10 = .int .i64 0 ∧ Below w3.heap.size w3 wr)
    case atStart => exact ⟨rfl, rfl, (by repeat (first | exact Below.refl _ _ | assumption | refine Below.drew ?_ | refine below_drewN ?_ _ | refine Below.alloc ?_ (by first | omega | (simp; done) | (simp; omega)) _ | refine Below.setCell ?_ (by first | omega | (simp; done) | (simp; omega)) _ | refine Below.trans ?_ (Below.mono (by assumption) (by first | omega | (simp; done) | (simp; omega)))))⟩
    case round =>
      obtain ⟨wo, rfl⟩ : ∃ wo : World, wo = wr := ⟨_, rfl⟩
      obtain ⟨rfl, rfl, hbel⟩ := hrel
      have hsz := hbel.size
      have hko : Below w.heap.size w wo := hk3.trans (hbel.mono (by omega))
      go_wp2_with fail
      refine Calls.mono (order_at [] 0 _ _ wo (HT.out _ _) VT_nil HOR.out) ?_
      rintro e w5 ⟨oa, oc, rfl, hI5, hb5⟩
      have hs5 := hb5.size
      have hk5 : Below w.heap.size w w5 := hko.trans (hb5.mono (by omega))
      go_wp2_with fail
      have c := critical_yes [] (some ⟨w3.heap.size, 0, none⟩) 0 w5 (HT.out _ _) (by simp) (fun _ i hi => absurd hi (by simp)) VT_nil
      rw [HCR.out, HOR.out] at c
      refine Calls.mono c ?_
      clear c
      rintro e w6 ⟨rfl, hb6⟩
      have hs6 := hb6.size
      have hk6 : Below w.heap.size w w6 := hk5.trans (hb6.mono (by omega))
      go_wp2_with fail
      refine Calls.mono (ready_yes [] [] (some ⟨w3.heap.size, 0, none⟩) da 0 dc w6 (HT.out _ _) (Bools.nil _ _) VT_nil rfl) ?_
      rintro e w7 ⟨ra, rc, rfl, hR7, hb7⟩
      have hs7 := hb7.size
      have hk7 : Below w.heap.size w w7 := hk6.trans (hb7.mono (by omega))
      go_wp2_with fail
      go_loopg [16, 17] 1 (fun _ v16 v17 wr => v16 = .int .i64 0 ∧ v17 = .int .i64 0 ∧ Below w7.heap.size w7 wr)
      case atStart => exact ⟨rfl, rfl, Below.refl _ _⟩
      case round =>
        obtain ⟨wp, rfl⟩ : ∃ wp : World, wp = wr := ⟨_, rfl⟩
        obtain ⟨rfl, rfl, hbp⟩ := hrel
        have hszp := hbp.size
        go_wp2_with fail
        go_ret
        exact retB rfl (hk7.trans (hbp.mono (by omega)))
  · go_wp2_with fail
    go_loopg [9, 10] 1 (fun _ v9 v10 wr => v9 = .int .i64 0 ∧ v10 = .int .i64 0 ∧ Below w3.heap.size w3 wr)
    case atStart => exact ⟨rfl, rfl, (by repeat (first | exact Below.refl _ _ | assumption | refine Below.drew ?_ | refine below_drewN ?_ _ | refine Below.alloc ?_ (by first | omega | (simp; done) | (simp; omega)) _ | refine Below.setCell ?_ (by first | omega | (simp; done) | (simp; omega)) _ | refine Below.trans ?_ (Below.mono (by assumption) (by first | omega | (simp; done) | (simp; omega)))))⟩
    case round =>
      obtain ⟨wo, rfl⟩ : ∃ wo : World, wo = wr := ⟨_, rfl⟩
      obtain ⟨rfl, rfl, hbel⟩ := hrel
      have hsz := hbel.size
      have hko : Below w.heap.size w wo := hk3.trans (hbel.mono (by omega))
      go_wp2_with fail
      refine Calls.mono (order_at [] 0 _ _ wo (HT.out _ _) VT_nil HOR.out) ?_
      rintro e w5 ⟨oa, oc, rfl, hI5, hb5⟩
      have hs5 := hb5.size
      have hk5 : Below w.heap.size w w5 := hko.trans (hb5.mono (by omega))
      go_wp2_with fail
      have c := critical_yes [] (some ⟨w3.heap.size, 0, none⟩) 0 w5 (HT.out _ _) (by simp) (fun _ i hi => absurd hi (by simp)) VT_nil
      rw [HCR.out, HOR.out] at c
      refine Calls.mono c ?_
      clear c
      rintro e w6 ⟨rfl, hb6⟩
      have hs6 := hb6.size
      have hk6 : Below w.heap.size w w6 := hk5.trans (hb6.mono (by omega))
      go_wp2_with fail
      refine Calls.mono (ready_yes [] [] (some ⟨w3.heap.size, 0, none⟩) da 0 dc w6 (HT.out _ _) (Bools.nil _ _) VT_nil rfl) ?_
      rintro e w7 ⟨ra, rc, rfl, hR7, hb7⟩
      have hs7 := hb7.size
      have hk7 : Below w.heap.size w w7 := hk6.trans (hb7.mono (by omega))
      go_wp2_with fail
      go_loopg [16, 17] 1 (fun _ v16 v17 wr => v16 = .int .i64 0 ∧ v17 = .int .i64 0 ∧ Below w7.heap.size w7 wr)
      case atStart => exact ⟨rfl, rfl, Below.refl _ _⟩
      case round =>
        obtain ⟨wp, rfl⟩ : ∃ wp : World, wp = wr := ⟨_, rfl⟩
        obtain ⟨rfl, rfl, hbp⟩ := hrel
        have hszp := hbp.size
        go_wp2_with fail
        go_ret
        exact retB rfl (hk7.trans (hbp.mono (by omega)))
theorem walk (w : World) (a : Option Addr) (cap : Nat) (l : List Tk) (hT : Tasks w a l) (hl : l.length < 9223372036854775808) (hS : ∀ i, i < l.length → (tg l i).after.length < 9223372036854775808) (da : Option Addr) (dc : Nat) (d : List Bool) (hD : Bools w da d) (_hd2 : d.length < 9223372036854775808) (raw : Int) (hr : 0 ≤ raw ∧ raw < 256) : Calls Try.prog 8 #[.slice a l.length cap, .slice da d.length dc, .int .u8 raw] w (RetB (.bool true) w) := by
  by_cases hf : FewT l
  · by_cases hv : VT l
    · by_cases hd : d.length = l.length
      · by_cases hpos : 0 < l.length
        · rw [hd]
          exact yes w a cap l hT hl hS da dc d hD raw hr hf hv hd hpos
        · have e1 : l.length = 0 := by omega
          rw [hd, e1]
          exact nil w a cap da dc raw
      · exact no w a cap l hT hl hS da dc d raw (.inr (.inr ⟨hf, hv, hd⟩))
    · exact no w a cap l hT hl hS da dc d raw (.inr (.inl ⟨hf, hv⟩))
  · exact no w a cap l hT hl hS da dc d raw (.inl hf)
end TaskFree
namespace TaskFree
set_option maxRecDepth 100000 in
theorem entry (H : Type) (enc : TypeId × Value → H) (W : World) (base : Nat) (args : Array Value) (ds : List (DataW H)) (p : List MemPlace)
    (hval : ∀ (j : Nat) t v, Try.f8.params[j]? = some t → args[j]? = some v → Value.okWide Try.prog W .any base t v)
    (hA : DataW.TrodAll enc Try.prog W 0 (fun _ => true) true Try.f8.params.toList args.toList ds p) :
    Calls Try.prog 8 args W (RetB (.bool true) W) := by
  rw [Try.params8] at hA hval
  obtain ⟨v0, vs0, d0, ds0, p0, q0, hargs, rfl, rfl, h0, r0⟩ := trodAll_cons hA
  obtain ⟨v1, vs1, d1, ds1, p1, q1, rfl, rfl, rfl, h1, r1⟩ := trodAll_cons r0
  obtain ⟨v2, vs2, d2, ds2, p2, q2, rfl, rfl, rfl, h2, r2⟩ := trodAll_cons r1
  obtain ⟨rfl, rfl, rfl⟩ := trodAll_nil r2
  obtain rfl : args = #[v0, v1, v2] := by cases args; simp_all
  obtain ⟨la, lc, l, rfl, lT, ll, ls⟩ := open_tasks (hval 0 22 v0 rfl rfl) h0
  obtain ⟨da, dc, d, rfl, dB, dl⟩ := open_bls (hval 1 23 v1 rfl rfl) h1
  obtain ⟨r, rfl, ro⟩ := open_u8 (hval 2 5 v2 rfl rfl) h2
  exact walk W la lc l lT ll ls da dc d dB dl r ro
end TaskFree
/-! The step from the walk to the row of TaskFree. -/
namespace TaskFree
set_option maxRecDepth 100000 in
theorem lifted (os : Os) (started : os.Started) (H : Type) (enc : TypeId × Value → H) :
    ReturnsInHanded {} Try.checked os 8 .any (Rows.taskFreeSpec.pre6 enc Try.prog Try.f8 Rows.taskFreeRow.domain false) (Rows.taskFreeSpec.post enc Try.prog Try.f8 false true false false) := by
  refine returnsInHanded_of_change (C := Try.checked) own started (by kernel_rfl) Try.func8
    (ChangeSpec.witness6 (enc := enc) (C := Try.checked) false ⟨#[], #[.slice none 0 0, .slice none 0 0, .int .u8 0], []⟩ 8 (by kernel_rfl) (by kernel_rfl) (by kernel_rfl) (by kernel_rfl)) ?_
  intro W base args ds gs before hval0 hW hcnd _
  have hval : ∀ (j : Nat) t v, Try.f8.params[j]? = some t → args[j]? = some v → Value.okWide Try.prog W .any base t v := hval0
  have hW' := hW
  obtain ⟨p, q, hA0, hV, rfl, hfz, hnd⟩ := hW
  have hA : DataW.TrodAll enc Try.prog W 0 (fun _ => true) true Try.f8.params.toList args.toList ds p := hA0
  obtain ⟨rfl, rfl⟩ := trodVars_none hV
  have hlen := trodAll_len _ _ _ _ hA
  obtain ⟨d0, d1, d2, rfl⟩ : ∃ d0 d1 d2, ds = [d0, d1, d2] := by
    rw [Try.params8] at hlen
    exact list3 hlen
  refine (entry H enc W base args [d0, d1, d2] p hval hA).mono fun e W' ⟨he, bel⟩ => ?_
  subst he
  exact ⟨_, rfl, _, _, _, [], _, [], hW', trodAll_mk1 (shut_bool Try.underlying4 _), readback laidOut _ _ _ _ (by rw [Try.params8]; exact of_decide_eq_true (by kernel_rfl)) hA bel, rfl, bel.frame _, fun h => by cases h⟩

theorem over : Rows.taskFreeRow.holds Try.pinned (OpenSpec.ofChange Rows.taskFreeSpec) :=
  OpenClaim.holds_of_wide 8 Try.f8 rfl rfl rfl rfl rfl rfl rfl ⟨rfl, rfl, rfl, rfl, rfl⟩ rfl rfl rfl rfl rfl (by kernel_rfl) Try.func8 (by kernel_rfl)
    (of_decide_eq_true (by kernel_rfl)) (by unfold Func.isWrapper; first | (rw [if_pos (by decide +kernel)]; kernel_rfl) | (rw [if_neg (by decide +kernel)]; exact ⟨rfl, rfl⟩))
    (fun os started H enc _ => lifted os started H enc)

/-- THE STATEMENT -/
theorem proved : Rows.TaskFreeSaid := over
end TaskFree
#print axioms TaskFree.proved
end Go.Proofs.Ytidbmllelnffdaa
