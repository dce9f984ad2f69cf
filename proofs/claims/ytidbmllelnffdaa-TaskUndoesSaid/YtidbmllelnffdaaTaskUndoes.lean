

/- TaskUndoes: for every valid tasks, state of work and index without an error: afterwards just those tasks are done that were done, are another one, and do not need the task; the task is ready again; undoing one of the others leaves the same as undoing it first: the call of the law returns true, for every input. -/
import Derived.Test.YtidbmllelnffdaaTaskT
import Derived.Test.YtidbmllelnffdaaTaskX
import Derived.Test.YtidbmllelnffdaaAcyc
import Derived.Test.YtidbmllelnffdaaNeeds
import Derived.BigQuiet
namespace Go.Proofs.Ytidbmllelnffdaa
open Go.ChangeShapes Go.WideShapes Go.ChangeAt Go.RowKit Go.Joins

namespace TaskUndoes
set_option maxRecDepth 100000 in
set_option maxHeartbeats 2000000 in
theorem no (w : World) (a : Option Addr) (cap : Nat) (l : List Tk) (hT : Tasks w a l) (hl : l.length < 9223372036854775808) (hS : ∀ i, i < l.length → (tg l i).after.length < 9223372036854775808) (da : Option Addr) (dc : Nat) (d : List Bool) (hD : Bools w da d) (hd : d.length < 9223372036854775808) (one : Int) (ho : -9223372036854775808 ≤ one ∧ one < 9223372036854775808) (two : Int) (hno : ¬ FewT l ∨ FewT l ∧ ¬ VT l ∨ FewT l ∧ VT l ∧ 60 < d.length ∨ FewT l ∧ VT l ∧ d.length ≤ 60 ∧ uE l d one ≠ 0) :
    Calls Try.prog 6 #[.slice a l.length cap, .slice da d.length dc, .int .i64 one, .int .i64 two] w (RetB (.bool true) w) := by
  have HS := Lib.hid (fun _ : l.length ≤ 45 => hS)
  have HS' := Lib.hid (fun _ : l.length ≤ 40 => hS)
  have HSS := Lib.hid hS
  have HO := Lib.hid ho
  rcases hno with hf | ⟨hf, hv⟩ | ⟨hf, hv, h60⟩ | ⟨hf, hv, h60, hu⟩
  · have HF := Lib.hid (show false = true ↔ FewT l by simp [hf])
    clear hf hS ho
    go_enter Try.func6, Try.ntmps6
    go_wp2_with fail
    refine Calls.mono (head_any _) ?_
    rintro e w1 ⟨rfl, hb1⟩; have hs1 := hb1.size; (try simp at hs1)
    go_wp2_with fail
    refine Calls.mono (few_any l false a cap _ (hT.later (by repeat (first | exact Below.refl _ _ | assumption | refine Below.drew ?_ | refine below_drewN ?_ _ | refine Below.alloc ?_ (by first | omega | (simp; done) | (simp; omega)) _ | refine Below.setCell ?_ (by first | omega | (simp; done) | (simp; omega)) _ | refine Below.trans ?_ (Below.mono (by assumption) (by first | omega | (simp; done) | (simp; omega)))))) hl HS.out HF.out) ?_
    rintro e w2 ⟨rfl, rfl⟩
    go_wp2_with fail
    go_ret
    exact retB rfl (by repeat (first | exact Below.refl _ _ | assumption | refine Below.drew ?_ | refine below_drewN ?_ _ | refine Below.alloc ?_ (by first | omega | (simp; done) | (simp; omega)) _ | refine Below.setCell ?_ (by first | omega | (simp; done) | (simp; omega)) _ | refine Below.trans ?_ (Below.mono (by assumption) (by first | omega | (simp; done) | (simp; omega)))))
  · have HF := Lib.hid (show true = true ↔ FewT l by simp [hf])
    have HV := Lib.hid (show false = true ↔ VT l by simp [hv])
    clear hf hS ho hv
    go_enter Try.func6, Try.ntmps6
    go_wp2_with fail
    refine Calls.mono (head_any _) ?_
    rintro e w1 ⟨rfl, hb1⟩; have hs1 := hb1.size; (try simp at hs1)
    go_wp2_with fail
    refine Calls.mono (few_any l true a cap _ (hT.later (by repeat (first | exact Below.refl _ _ | assumption | refine Below.drew ?_ | refine below_drewN ?_ _ | refine Below.alloc ?_ (by first | omega | (simp; done) | (simp; omega)) _ | refine Below.setCell ?_ (by first | omega | (simp; done) | (simp; omega)) _ | refine Below.trans ?_ (Below.mono (by assumption) (by first | omega | (simp; done) | (simp; omega)))))) hl HS.out (by simpa using HF.out)) ?_
    rintro e w2 ⟨rfl, rfl⟩
    go_wp2_with fail
    refine Calls.mono (rvalid_any l a cap false _ (hT.later (by repeat (first | exact Below.refl _ _ | assumption | refine Below.drew ?_ | refine below_drewN ?_ _ | refine Below.alloc ?_ (by first | omega | (simp; done) | (simp; omega)) _ | refine Below.setCell ?_ (by first | omega | (simp; done) | (simp; omega)) _ | refine Below.trans ?_ (Below.mono (by assumption) (by first | omega | (simp; done) | (simp; omega)))))) hl HS'.out (by simpa using HV.out)) ?_
    rintro e w3 ⟨rfl, hb3⟩
    have hs3 := hb3.size
    go_wp2_with fail
    go_ret
    exact retB rfl (by repeat (first | exact Below.refl _ _ | assumption | refine Below.drew ?_ | refine below_drewN ?_ _ | refine Below.alloc ?_ (by first | omega | (simp; done) | (simp; omega)) _ | refine Below.setCell ?_ (by first | omega | (simp; done) | (simp; omega)) _ | refine Below.trans ?_ (Below.mono (by assumption) (by first | omega | (simp; done) | (simp; omega)))))
  · have HF := Lib.hid (show true = true ↔ FewT l by simp [hf])
    have HV := Lib.hid (show true = true ↔ VT l by simp [hv])
    clear hf hS ho hv
    go_enter Try.func6, Try.ntmps6
    go_wp2_with fail
    refine Calls.mono (head_any _) ?_
    rintro e w1 ⟨rfl, hb1⟩; have hs1 := hb1.size; (try simp at hs1)
    go_wp2_with fail
    refine Calls.mono (few_any l true a cap _ (hT.later (by repeat (first | exact Below.refl _ _ | assumption | refine Below.drew ?_ | refine below_drewN ?_ _ | refine Below.alloc ?_ (by first | omega | (simp; done) | (simp; omega)) _ | refine Below.setCell ?_ (by first | omega | (simp; done) | (simp; omega)) _ | refine Below.trans ?_ (Below.mono (by assumption) (by first | omega | (simp; done) | (simp; omega)))))) hl HS.out (by simpa using HF.out)) ?_
    rintro e w2 ⟨rfl, rfl⟩
    go_wp2_with fail
    refine Calls.mono (rvalid_any l a cap true _ (hT.later (by repeat (first | exact Below.refl _ _ | assumption | refine Below.drew ?_ | refine below_drewN ?_ _ | refine Below.alloc ?_ (by first | omega | (simp; done) | (simp; omega)) _ | refine Below.setCell ?_ (by first | omega | (simp; done) | (simp; omega)) _ | refine Below.trans ?_ (Below.mono (by assumption) (by first | omega | (simp; done) | (simp; omega)))))) hl HS'.out (by simpa using HV.out)) ?_
    rintro e w3 ⟨rfl, hb3⟩
    have hs3 := hb3.size
    go_wp2_with fail
    go_ret
    exact retB rfl (by repeat (first | exact Below.refl _ _ | assumption | refine Below.drew ?_ | refine below_drewN ?_ _ | refine Below.alloc ?_ (by first | omega | (simp; done) | (simp; omega)) _ | refine Below.setCell ?_ (by first | omega | (simp; done) | (simp; omega)) _ | refine Below.trans ?_ (Below.mono (by assumption) (by first | omega | (simp; done) | (simp; omega)))))
  · have HF := Lib.hid (show true = true ↔ FewT l by simp [hf])
    have HV := Lib.hid (show true = true ↔ VT l by simp [hv])
    have HU := Lib.hid (show uL l d one = [] by
      unfold uL
      rw [if_neg]
      rintro ⟨_, h⟩
      unfold uE at hu
      rw [if_pos hv] at hu
      exact hu h)
    obtain ⟨x, hx⟩ : ∃ x, uE l d one = x := ⟨_, rfl⟩
    have HX := Lib.hid hx
    have hx0 : decide (x = 0) = false := by rw [← hx]; simpa using hu
    have hx1 : (x != 0) = true := by rw [← hx]; simpa using hu
    clear hf hS ho hv hu hx
    go_enter Try.func6, Try.ntmps6
    go_wp2_with fail
    refine Calls.mono (head_any _) ?_
    rintro e w1 ⟨rfl, hb1⟩; have hs1 := hb1.size; (try simp at hs1)
    go_wp2_with fail
    refine Calls.mono (few_any l true a cap _ (hT.later (by repeat (first | exact Below.refl _ _ | assumption | refine Below.drew ?_ | refine below_drewN ?_ _ | refine Below.alloc ?_ (by first | omega | (simp; done) | (simp; omega)) _ | refine Below.setCell ?_ (by first | omega | (simp; done) | (simp; omega)) _ | refine Below.trans ?_ (Below.mono (by assumption) (by first | omega | (simp; done) | (simp; omega)))))) hl HS.out (by simpa using HF.out)) ?_
    rintro e w2 ⟨rfl, rfl⟩
    go_wp2_with fail
    refine Calls.mono (rvalid_any l a cap true _ (hT.later (by repeat (first | exact Below.refl _ _ | assumption | refine Below.drew ?_ | refine below_drewN ?_ _ | refine Below.alloc ?_ (by first | omega | (simp; done) | (simp; omega)) _ | refine Below.setCell ?_ (by first | omega | (simp; done) | (simp; omega)) _ | refine Below.trans ?_ (Below.mono (by assumption) (by first | omega | (simp; done) | (simp; omega)))))) hl HS'.out (by simpa using HV.out)) ?_
    rintro e w3 ⟨rfl, hb3⟩
    have hs3 := hb3.size
    have hk3 : Below w.heap.size w w3 := (by repeat (first | exact Below.refl _ _ | assumption | refine Below.drew ?_ | refine below_drewN ?_ _ | refine Below.alloc ?_ (by first | omega | (simp; done) | (simp; omega)) _ | refine Below.setCell ?_ (by first | omega | (simp; done) | (simp; omega)) _ | refine Below.trans ?_ (Below.mono (by assumption) (by first | omega | (simp; done) | (simp; omega)))))
    clear hb3 hb1
    go_wp2_with fail
    refine Calls.mono (undo_all l a cap _ (hT.later hk3) hl HSS.out d da dc (hD.later hk3) one HO.out).1 ?_
    rw [HU.out, HX.out]
    rintro e w4 ⟨oa, oc, rfl, hB4, hb4⟩
    have hs4 := hb4.size
    go_wp2_with fail
    go_ret
    exact retB rfl (by repeat (first | exact Below.refl _ _ | assumption | refine Below.drew ?_ | refine below_drewN ?_ _ | refine Below.alloc ?_ (by first | omega | (simp; done) | (simp; omega)) _ | refine Below.setCell ?_ (by first | omega | (simp; done) | (simp; omega)) _ | refine Below.trans ?_ (Below.mono (by assumption) (by first | omega | (simp; done) | (simp; omega)))))
theorem of_ok {l : List Tk} {d : List Bool} {one : Int} (hv : VT l) (h : uE l d one = 0) : d.length = l.length ∧ ¬ (orderOf l).length < l.length ∧ clo l d = true ∧ ∃ t : Nat, one = t ∧ t < l.length ∧ bg d t = true := by
  unfold uE at h
  rw [if_pos hv] at h
  unfold undE at h
  by_cases h1 : d.length ≠ l.length
  · rw [if_pos h1] at h; cases h
  · rw [if_neg h1] at h
    by_cases h2 : (orderOf l).length < l.length
    · rw [if_pos h2] at h; cases h
    · rw [if_neg h2] at h
      by_cases h3 : one < 0 ∨ l.length ≤ one
      · rw [if_pos h3] at h; cases h
      · rw [if_neg h3] at h
        by_cases h4 : clo l d = true ∧ bg d one.toNat = true
        · exact ⟨by omega, h2, h4.1, one.toNat, by omega, by omega, h4.2⟩
        · rw [if_neg h4] at h; cases h
theorem col_has {l : List Tk} {d : List Bool} {t : Nat} (ht : t < l.length) (h : rdy l d t = true) : ∃ q, q < (col l d l.length).length ∧ ig (col l d l.length) q = t := by
  have : (t : Int) ∈ col l d l.length := by
    unfold col
    exact List.mem_map.2 ⟨t, List.mem_filter.2 ⟨by simpa using ht, h⟩, rfl⟩
  obtain ⟨q, hq, he⟩ := List.getElem_of_mem this
  exact ⟨q, hq, by rw [ig_lt hq, he]⟩

open Classical in
set_option maxRecDepth 100000 in
set_option maxHeartbeats 8000000 in
theorem yes (w : World) (a : Option Addr) (cap : Nat) (l : List Tk) (hT : Tasks w a l) (hl : l.length < 9223372036854775808) (hS : ∀ i, i < l.length → (tg l i).after.length < 9223372036854775808) (da : Option Addr) (dc : Nat) (d : List Bool) (hD : Bools w da d) (t : Nat) (two : Int) (ho2 : -9223372036854775808 ≤ two ∧ two < 9223372036854775808) (hf : FewT l) (hv : VT l) (h60 : d.length ≤ 60)
    (hd : d.length = l.length) (hor : ¬ (orderOf l).length < l.length) (hcl : clo l d = true) (ht : t < l.length) (hbt : bg d t = true) :
    Calls Try.prog 6 #[.slice a l.length cap, .slice da d.length dc, .int .i64 (t : Int), .int .i64 two] w (RetB (.bool true) w) := by
  have HS := Lib.hid (fun _ : l.length ≤ 45 => hS)
  have HS' := Lib.hid (fun _ : l.length ≤ 40 => hS)
  have HSS := Lib.hid hS
  have HO2 := Lib.hid ho2
  have HF := Lib.hid (show true = true ↔ FewT l by simp [hf])
  have HV := Lib.hid hv
  have HOR := Lib.hid hor
  have HCL := Lib.hid hcl
  have HBT := Lib.hid hbt
  have HDL := Lib.hid hd
  have h40 := hv.1
  obtain ⟨X, hX⟩ : ∃ X, X = und l d t := ⟨_, rfl⟩
  have hXl : X.length = l.length := by rw [hX, und_len]
  have HX := Lib.hid hX
  have HXL := Lib.hid hXl
  have e1 : ((X.length : Int) != (l.length : Int)) = false := by simp; omega
  have e2 : ((d.length : Int) != (l.length : Int)) = false := by simp; omega
  have e3 : decide ((t : Int) < 0) = false := by simp
  have e4 : decide (l.length ≤ t) = false := by simp; omega
  clear hf hS ho2 hv hor hcl hbt hd hXl hX
  go_enter Try.func6, Try.ntmps6
  go_wp2_with fail
  refine Calls.mono (head_any _) ?_
  rintro e w1 ⟨rfl, hb1⟩; have hs1 := hb1.size; (try simp at hs1)
  go_wp2_with fail
  refine Calls.mono (few_any l true a cap _ (hT.later (by repeat (first | exact Below.refl _ _ | assumption | refine Below.drew ?_ | refine below_drewN ?_ _ | refine Below.alloc ?_ (by first | omega | (simp; done) | (simp; omega)) _ | refine Below.setCell ?_ (by first | omega | (simp; done) | (simp; omega)) _ | refine Below.trans ?_ (Below.mono (by assumption) (by first | omega | (simp; done) | (simp; omega)))))) hl HS.out (by simpa using HF.out)) ?_
  rintro e w2 ⟨rfl, rfl⟩
  go_wp2_with fail
  refine Calls.mono (rvalid_any l a cap true _ (hT.later (by repeat (first | exact Below.refl _ _ | assumption | refine Below.drew ?_ | refine below_drewN ?_ _ | refine Below.alloc ?_ (by first | omega | (simp; done) | (simp; omega)) _ | refine Below.setCell ?_ (by first | omega | (simp; done) | (simp; omega)) _ | refine Below.trans ?_ (Below.mono (by assumption) (by first | omega | (simp; done) | (simp; omega)))))) hl HS'.out (by simp [HV.out])) ?_
  rintro e w3 ⟨rfl, hb3⟩
  have hs3 := hb3.size
  have hk3 : Below w.heap.size w w3 := (by repeat (first | exact Below.refl _ _ | assumption | refine Below.drew ?_ | refine below_drewN ?_ _ | refine Below.alloc ?_ (by first | omega | (simp; done) | (simp; omega)) _ | refine Below.setCell ?_ (by first | omega | (simp; done) | (simp; omega)) _ | refine Below.trans ?_ (Below.mono (by assumption) (by first | omega | (simp; done) | (simp; omega)))))
  clear hb3 hb1
  go_wp2_with fail
  refine Calls.mono (undo_ok l d t a da cap dc _ (hT.later hk3) (hD.later hk3) HV.out HDL.out HOR.out ht HCL.out HBT.out) ?_
  rw [← HX.out]
  rintro e w4 ⟨xa, xc, rfl, hX4, hb4⟩
  have hs4 := hb4.size
  have hk4 : Below w.heap.size w w4 := (by repeat (first | exact Below.refl _ _ | assumption | refine Below.drew ?_ | refine below_drewN ?_ _ | refine Below.alloc ?_ (by first | omega | (simp; done) | (simp; omega)) _ | refine Below.setCell ?_ (by first | omega | (simp; done) | (simp; omega)) _ | refine Below.trans ?_ (Below.mono (by assumption) (by first | omega | (simp; done) | (simp; omega)))))
  clear hb4 hk3
  go_wp2_with fail
  refine Calls.mono (needs_any l a cap _ (hT.later hk4) HV.out) ?_
  rintro e w5 ⟨B, g, R, rfl, hM5, hb5⟩
  have hs5 := hb5.size
  have hk5 : Below w.heap.size w w5 := (by repeat (first | exact Below.refl _ _ | assumption | refine Below.drew ?_ | refine below_drewN ?_ _ | refine Below.alloc ?_ (by first | omega | (simp; done) | (simp; omega)) _ | refine Below.setCell ?_ (by first | omega | (simp; done) | (simp; omega)) _ | refine Below.trans ?_ (Below.mono (by assumption) (by first | omega | (simp; done) | (simp; omega)))))
  have hX5 := hX4.later hb5
  clear hb5 hk4 hX4
  go_wp2_with fail
  go_loopg [13] (l.length + 1) (fun k v13 wr => ∃ i : Nat, i ≤ l.length ∧ k + i = l.length + 1 ∧ v13 = .int .i64 i ∧ Below w5.heap.size w5 wr)
  case atStart => exact ⟨0, by omega, by omega, rfl, Below.refl _ _⟩
  case round =>
    obtain ⟨wo, rfl⟩ : ∃ wo : World, wo = wr := ⟨_, rfl⟩
    obtain ⟨i, hil, hk, rfl, hbel⟩ := hrel
    have hsz := hbel.size
    have hko : Below w.heap.size w wo := (by repeat (first | exact Below.refl _ _ | assumption | refine Below.drew ?_ | refine below_drewN ?_ _ | refine Below.alloc ?_ (by first | omega | (simp; done) | (simp; omega)) _ | refine Below.setCell ?_ (by first | omega | (simp; done) | (simp; omega)) _ | refine Below.trans ?_ (Below.mono (by assumption) (by first | omega | (simp; done) | (simp; omega)))))
    by_cases hlt : i < l.length
    · have hMo := hM5.later hbel
      obtain ⟨xb, xoff, rfl, fx⟩ := (hX5.later hbel).fam (by have := HXL.out; omega)
      obtain ⟨db, doff, rfl, fd⟩ := (hD.later hko).fam (by have := HDL.out; omega)
      have hxi := fx i (by have := HXL.out; omega)
      have hdi := fd i (by have := HDL.out; omega)
      have hmc := hMo.cell hlt hlt
      have hmt := hMo.at hlt hlt ht
      have hxb : xb < wo.heap.size := World.block_lt_of_cell? _ _ hxi
      have hdb : db < wo.heap.size := World.block_lt_of_cell? _ _ hdi
      have hRB := hMo.rowLt hlt hlt
      have hgB := hMo.lt
      have hx : bg X i = (bg d i && !decide (i = t ∨ Need l i t)) := by rw [HX.out, bg_und d t hlt]
      have hn : mg (nd l) i t = decide (Need l i t) := bg_nd i ht
      have i1 : (i : Int) < (X.length : Int) := by have := HXL.out; omega
      have i2 : (i : Int) < (d.length : Int) := by have := HDL.out; omega
      have i3 : (i : Int) < (l.length : Int) := by omega
      have i4 : (t : Int) < (l.length : Int) := by omega
      clear fx fd hMo
      cases hbd : bg d i
      · rw [hbd] at hdi hx
        simp at hx
        rw [hx] at hxi
        clear hx hn hbd
        go_wp2_with fail
        go_quiet (fail)
        go_wp2_with fail
        go_roundg (gk - 1)
        case measure => omega
        case rel => exact ⟨i + 1, by omega, by omega, by go_num, (by repeat (first | exact Below.refl _ _ | assumption | refine Below.drew ?_ | refine below_drewN ?_ _ | refine Below.alloc ?_ (by first | omega | (simp; done) | (simp; omega)) _ | refine Below.setCell ?_ (by first | omega | (simp; done) | (simp; omega)) _ | refine Below.trans ?_ (Below.mono (by assumption) (by first | omega | (simp; done) | (simp; omega)))))⟩
      · rw [hbd] at hdi hx
        by_cases hit : i = t
        · subst hit
          simp at hx
          rw [hx] at hxi
          have hne : ((i : Int) != (i : Int)) = false := by simp
          clear hx hn hbd
          go_wp2_with fail
          go_quiet (fail)
          go_wp2_with fail
          go_roundg (gk - 1)
          case measure => omega
          case rel => exact ⟨i + 1, by omega, by omega, by go_num, (by repeat (first | exact Below.refl _ _ | assumption | refine Below.drew ?_ | refine below_drewN ?_ _ | refine Below.alloc ?_ (by first | omega | (simp; done) | (simp; omega)) _ | refine Below.setCell ?_ (by first | omega | (simp; done) | (simp; omega)) _ | refine Below.trans ?_ (Below.mono (by assumption) (by first | omega | (simp; done) | (simp; omega)))))⟩
        · have hne : ((i : Int) != (t : Int)) = true := by simp; omega
          by_cases hnd : Need l i t
          · simp [hnd] at hx hn
            rw [hx] at hxi
            rw [hn] at hmt
            clear hx hn hbd hnd hit
            go_wp2_with fail
            go_quiet (fail)
            go_wp2_with fail
            go_roundg (gk - 1)
            case measure => omega
            case rel => exact ⟨i + 1, by omega, by omega, by go_num, (by repeat (first | exact Below.refl _ _ | assumption | refine Below.drew ?_ | refine below_drewN ?_ _ | refine Below.alloc ?_ (by first | omega | (simp; done) | (simp; omega)) _ | refine Below.setCell ?_ (by first | omega | (simp; done) | (simp; omega)) _ | refine Below.trans ?_ (Below.mono (by assumption) (by first | omega | (simp; done) | (simp; omega)))))⟩
          · simp [hnd, hit] at hx hn
            rw [hx] at hxi
            rw [hn] at hmt
            clear hx hn hbd hnd hit
            go_wp2_with fail
            go_quiet (fail)
            go_wp2_with fail
            go_roundg (gk - 1)
            case measure => omega
            case rel => exact ⟨i + 1, by omega, by omega, by go_num, (by repeat (first | exact Below.refl _ _ | assumption | refine Below.drew ?_ | refine below_drewN ?_ _ | refine Below.alloc ?_ (by first | omega | (simp; done) | (simp; omega)) _ | refine Below.setCell ?_ (by first | omega | (simp; done) | (simp; omega)) _ | refine Below.trans ?_ (Below.mono (by assumption) (by first | omega | (simp; done) | (simp; omega)))))⟩
    · have hX6 := hX5.later hbel
      clear hX5 hM5 hk5 hbel
      have hrd : rdy l X t = true := by rw [HX.out]; exact und_ready HV.out HOR.out HCL.out ht HBT.out
      obtain ⟨C, hC⟩ : ∃ C, C = col l X l.length := ⟨_, rfl⟩
      have hhas : ∃ q, q < C.length ∧ ig C q = t := by rw [hC]; exact col_has ht hrd
      have hCl : C.length ≤ l.length := by rw [hC]; exact col_len _ _ _
      have HHAS := Lib.hid hhas
      have HC := Lib.hid hC
      clear hrd hC hhas
      go_wp2_with fail
      refine Calls.mono (ready_yes l X a xa cap xc _ (hT.later hko) hX6 HV.out HXL.out) ?_
      rw [← HC.out]
      rintro e w7 ⟨ra, rc, rfl, hR7, hb7⟩
      have hs7 := hb7.size
      have hk7 : Below w.heap.size w w7 := (by repeat (first | exact Below.refl _ _ | assumption | refine Below.drew ?_ | refine below_drewN ?_ _ | refine Below.alloc ?_ (by first | omega | (simp; done) | (simp; omega)) _ | refine Below.setCell ?_ (by first | omega | (simp; done) | (simp; omega)) _ | refine Below.trans ?_ (Below.mono (by assumption) (by first | omega | (simp; done) | (simp; omega)))))
      have hX7 := hX6.later hb7
      clear hb7 hko hX6
      go_wp2_with fail
      go_loopg [14, 16] (C.length + 1) (fun k v14 v16 wr => ∃ (q : Nat) (b : Bool), q ≤ C.length ∧ k + q = C.length + 1 ∧ v14 = .bool b ∧ v16 = .int .i64 q ∧ Below w7.heap.size w7 wr ∧ (b = false → ∀ j, j < q → ig C j ≠ t))
      case atStart => exact ⟨0, false, by omega, by omega, rfl, rfl, Below.refl _ _, fun _ j hj => absurd hj (by omega)⟩
      case round =>
        obtain ⟨wq, rfl⟩ : ∃ wq : World, wq = wr := ⟨_, rfl⟩
        obtain ⟨q, b, hql, hkq, rfl, rfl, hbq, hno⟩ := hrel
        have hszq := hbq.size
        have HNO := Lib.hid hno
        clear hno
        by_cases hlq : q < C.length
        · obtain ⟨rb, roff, rfl, fr⟩ := (hR7.later hbq).fam (by omega)
          have hrq := fr q hlq
          have q1 : (q : Int) < (C.length : Int) := by omega
          obtain ⟨y, hy⟩ : ∃ y, ig C q = y := ⟨_, rfl⟩
          rw [hy] at hrq
          have HY := Lib.hid hy
          clear fr hy
          cases b
          · by_cases hyt : y = (t : Int)
            · subst hyt
              have heq : ((t : Int) == (t : Int)) = true := by simp
              go_wp2_with fail
              go_roundg (gk - 1)
              case measure => omega
              case rel => exact ⟨q + 1, true, by omega, by omega, rfl, by go_num, (by repeat (first | exact Below.refl _ _ | assumption | refine Below.drew ?_ | refine below_drewN ?_ _ | refine Below.alloc ?_ (by first | omega | (simp; done) | (simp; omega)) _ | refine Below.setCell ?_ (by first | omega | (simp; done) | (simp; omega)) _ | refine Below.trans ?_ (Below.mono (by assumption) (by first | omega | (simp; done) | (simp; omega))))), fun h => by cases h⟩
            · have heq : (y == (t : Int)) = false := by simpa using hyt
              have HYT := Lib.hid hyt
              clear hyt
              go_wp2_with fail
              go_roundg (gk - 1)
              case measure => omega
              case rel => exact ⟨q + 1, false, by omega, by omega, rfl, by go_num, (by repeat (first | exact Below.refl _ _ | assumption | refine Below.drew ?_ | refine below_drewN ?_ _ | refine Below.alloc ?_ (by first | omega | (simp; done) | (simp; omega)) _ | refine Below.setCell ?_ (by first | omega | (simp; done) | (simp; omega)) _ | refine Below.trans ?_ (Below.mono (by assumption) (by first | omega | (simp; done) | (simp; omega))))), fun _ j hj => by
                rcases Nat.lt_succ_iff_lt_or_eq.1 hj with h | h
                · first | exact HNO.out rfl j h | exact HNO.out trivial j h
                · subst h; rw [HY.out]; exact HYT.out⟩
          · go_wp2_with fail
            go_roundg (gk - 1)
            case measure => omega
            case rel => exact ⟨q + 1, true, by omega, by omega, rfl, by go_num, (by repeat (first | exact Below.refl _ _ | assumption | refine Below.drew ?_ | refine below_drewN ?_ _ | refine Below.alloc ?_ (by first | omega | (simp; done) | (simp; omega)) _ | refine Below.setCell ?_ (by first | omega | (simp; done) | (simp; omega)) _ | refine Below.trans ?_ (Below.mono (by assumption) (by first | omega | (simp; done) | (simp; omega))))), fun h => by cases h⟩
        · obtain rfl : b = true := by
            cases b
            · obtain ⟨j, hj, hjt⟩ := HHAS.out
              exact absurd hjt (HNO.out rfl j (by omega))
            · rfl
          have hkq : Below w.heap.size w wq := (by repeat (first | exact Below.refl _ _ | assumption | refine Below.drew ?_ | refine below_drewN ?_ _ | refine Below.alloc ?_ (by first | omega | (simp; done) | (simp; omega)) _ | refine Below.setCell ?_ (by first | omega | (simp; done) | (simp; omega)) _ | refine Below.trans ?_ (Below.mono (by assumption) (by first | omega | (simp; done) | (simp; omega)))))
          have hX8 := hX7.later hbq
          clear hX7 hR7 hk7 hbq
          go_wp2_with fail
          refine Calls.mono (undo_all l a cap _ (hT.later hkq) hl HSS.out d da dc (hD.later hkq) two HO2.out).1 ?_
          by_cases h2 : uE l d two = 0
          · obtain ⟨_, _, _, u, rfl, hu, hbu⟩ := of_ok HV.out h2
            have hYe : uL l d u = und l d u := by
              unfold uL
              rw [if_pos ⟨HV.out, by
                unfold uE at h2
                rw [if_pos HV.out] at h2
                exact h2⟩, Int.toNat_natCast]
            obtain ⟨Y, hY⟩ : ∃ Y, Y = und l d u := ⟨_, rfl⟩
            have hYl : Y.length = l.length := by rw [hY, und_len]
            rw [hYe, h2, ← hY]
            rintro e w9 ⟨ya, yc, rfl, hY9, hb9⟩
            have hs9 := hb9.size
            have hk9 : Below w.heap.size w w9 := (by repeat (first | exact Below.refl _ _ | assumption | refine Below.drew ?_ | refine below_drewN ?_ _ | refine Below.alloc ?_ (by first | omega | (simp; done) | (simp; omega)) _ | refine Below.setCell ?_ (by first | omega | (simp; done) | (simp; omega)) _ | refine Below.trans ?_ (Below.mono (by assumption) (by first | omega | (simp; done) | (simp; omega)))))
            have hX9 := hX8.later hb9
            have HY := Lib.hid hY
            have HYL := Lib.hid hYl
            have f1 : ((Y.length : Int) != (l.length : Int)) = false := by simp; omega
            have f2 : IntKind.i64.wrap ((l.length : Int) - 1) = (l.length : Int) - 1 := IntWalk.i64_in _ (by omega)
            have f3 : decide ((u : Int) < 0) = false := by simp
            have f4 : decide (l.length ≤ u) = false := by simp; omega
            obtain ⟨xb, xoff, rfl, fx⟩ := hX9.fam (by have := HXL.out; omega)
            obtain ⟨yb, yoff, rfl, fy⟩ := hY9.fam (by have := HYL.out; omega)
            have hxu := fx u (by have := HXL.out; omega)
            have hyt := fy t (by have := HYL.out; omega)
            have u1 : (u : Int) < (X.length : Int) := by have := HXL.out; omega
            have t1 : (t : Int) < (Y.length : Int) := by have := HYL.out; omega
            have HBU := Lib.hid hbu
            clear fx fy hX8 hb9 hkq hYe h2 hY hYl hbu
            cases hxb : bg X u
            · rw [hxb] at hxu
              clear hxb
              go_wp2_with fail
              go_ret
              exact retB rfl (by repeat (first | exact Below.refl _ _ | assumption | refine Below.drew ?_ | refine below_drewN ?_ _ | refine Below.alloc ?_ (by first | omega | (simp; done) | (simp; omega)) _ | refine Below.setCell ?_ (by first | omega | (simp; done) | (simp; omega)) _ | refine Below.trans ?_ (Below.mono (by assumption) (by first | omega | (simp; done) | (simp; omega)))))
            · rw [hxb] at hxu
              have HXB := Lib.hid hxb
              clear hxb
              cases hyb : bg Y t
              · rw [hyb] at hyt
                clear hyb
                go_wp2_with fail
                go_ret
                exact retB rfl (by repeat (first | exact Below.refl _ _ | assumption | refine Below.drew ?_ | refine below_drewN ?_ _ | refine Below.alloc ?_ (by first | omega | (simp; done) | (simp; omega)) _ | refine Below.setCell ?_ (by first | omega | (simp; done) | (simp; omega)) _ | refine Below.trans ?_ (Below.mono (by assumption) (by first | omega | (simp; done) | (simp; omega)))))
              · rw [hyb] at hyt
                have HYB := Lib.hid hyb
                clear hyb
                go_wp2_with fail
                refine Calls.mono (undo_ok l X u a (some ⟨xb, xoff, none⟩) cap xc _ (hT.later hk9) hX9 HV.out HXL.out HOR.out hu (by rw [HX.out]; exact und_clo HV.out HCL.out) HXB.out) ?_
                rintro e w10 ⟨za, zc, rfl, hZ10, hb10⟩
                have hs10 := hb10.size
                have hk10 : Below w.heap.size w w10 := (by repeat (first | exact Below.refl _ _ | assumption | refine Below.drew ?_ | refine below_drewN ?_ _ | refine Below.alloc ?_ (by first | omega | (simp; done) | (simp; omega)) _ | refine Below.setCell ?_ (by first | omega | (simp; done) | (simp; omega)) _ | refine Below.trans ?_ (Below.mono (by assumption) (by first | omega | (simp; done) | (simp; omega)))))
                have hY10 := hY9.later hb10
                clear hb10 hk9
                go_wp2_with fail
                refine Calls.mono (undo_ok l Y t a (some ⟨yb, yoff, none⟩) cap yc _ (hT.later hk10) hY10 HV.out HYL.out HOR.out ht (by rw [HY.out]; exact und_clo HV.out HCL.out) HYB.out) ?_
                rintro e w11 ⟨va, vc, rfl, hV11, hb11⟩
                have hs11 := hb11.size
                have hk11 : Below w.heap.size w w11 := (by repeat (first | exact Below.refl _ _ | assumption | refine Below.drew ?_ | refine below_drewN ?_ _ | refine Below.alloc ?_ (by first | omega | (simp; done) | (simp; omega)) _ | refine Below.setCell ?_ (by first | omega | (simp; done) | (simp; omega)) _ | refine Below.trans ?_ (Below.mono (by assumption) (by first | omega | (simp; done) | (simp; omega)))))
                have hZ11 := hZ10.later hb11
                have HL1 := Lib.hid (und_len l X u)
                have HL2 := Lib.hid (und_len l Y t)
                clear hb11 hk10
                go_wp2_with fail
                refine Calls.mono (sameBools_any (und l X u) (und l Y t) true za va zc vc _ hZ11 hV11 (by have := HL1.out; omega) (by have := HL2.out; omega) (by
                  have : und l X u = und l Y t := by rw [HX.out, HY.out]; exact und_comm l d t u
                  simp [this])) ?_
                rintro e w12 ⟨rfl, hb12⟩
                have hs12 := hb12.size
                go_wp2_with fail
                go_ret
                exact retB rfl (by repeat (first | exact Below.refl _ _ | assumption | refine Below.drew ?_ | refine below_drewN ?_ _ | refine Below.alloc ?_ (by first | omega | (simp; done) | (simp; omega)) _ | refine Below.setCell ?_ (by first | omega | (simp; done) | (simp; omega)) _ | refine Below.trans ?_ (Below.mono (by assumption) (by first | omega | (simp; done) | (simp; omega)))))
          · have HU := Lib.hid (show uL l d two = [] by
              unfold uL
              rw [if_neg]
              rintro ⟨_, h⟩
              unfold uE at h2
              rw [if_pos HV.out] at h2
              exact h2 h)
            obtain ⟨z, hz⟩ : ∃ z, uE l d two = z := ⟨_, rfl⟩
            have hz1 : (z != 0) = true := by rw [← hz]; simpa using h2
            rw [HU.out, hz]
            clear h2 hz
            rintro e w9 ⟨ya, yc, rfl, hY9, hb9⟩
            have hs9 := hb9.size
            go_wp2_with fail
            go_ret
            exact retB rfl (by repeat (first | exact Below.refl _ _ | assumption | refine Below.drew ?_ | refine below_drewN ?_ _ | refine Below.alloc ?_ (by first | omega | (simp; done) | (simp; omega)) _ | refine Below.setCell ?_ (by first | omega | (simp; done) | (simp; omega)) _ | refine Below.trans ?_ (Below.mono (by assumption) (by first | omega | (simp; done) | (simp; omega)))))
theorem walk (w : World) (a : Option Addr) (cap : Nat) (l : List Tk) (hT : Tasks w a l) (hl : l.length < 9223372036854775808) (hS : ∀ i, i < l.length → (tg l i).after.length < 9223372036854775808) (da : Option Addr) (dc : Nat) (d : List Bool) (hD : Bools w da d) (hd : d.length < 9223372036854775808) (one : Int) (ho : -9223372036854775808 ≤ one ∧ one < 9223372036854775808) (two : Int) (ho2 : -9223372036854775808 ≤ two ∧ two < 9223372036854775808) :
    Calls Try.prog 6 #[.slice a l.length cap, .slice da d.length dc, .int .i64 one, .int .i64 two] w (RetB (.bool true) w) := by
  by_cases hf : FewT l
  · by_cases hv : VT l
    · by_cases h60 : d.length ≤ 60
      · by_cases hu : uE l d one = 0
        · obtain ⟨h1, h2, h3, t, rfl, ht, hbt⟩ := of_ok hv hu
          exact yes w a cap l hT hl hS da dc d hD t two ho2 hf hv h60 h1 h2 h3 ht hbt
        · exact no w a cap l hT hl hS da dc d hD hd one ho two (.inr (.inr (.inr ⟨hf, hv, h60, hu⟩)))
      · exact no w a cap l hT hl hS da dc d hD hd one ho two (.inr (.inr (.inl ⟨hf, hv, by omega⟩)))
    · exact no w a cap l hT hl hS da dc d hD hd one ho two (.inr (.inl ⟨hf, hv⟩))
  · exact no w a cap l hT hl hS da dc d hD hd one ho two (.inl hf)
end TaskUndoes
namespace TaskUndoes
set_option maxRecDepth 100000 in
theorem entry (H : Type) (enc : TypeId × Value → H) (W : World) (base : Nat) (args : Array Value) (ds : List (DataW H)) (p : List MemPlace)
    (hval : ∀ (j : Nat) t v, Try.f6.params[j]? = some t → args[j]? = some v → Value.okWide Try.prog W .any base t v)
    (hA : DataW.TrodAll enc Try.prog W 0 (fun _ => true) true Try.f6.params.toList args.toList ds p) :
    Calls Try.prog 6 args W (RetB (.bool true) W) := by
  rw [Try.params6] at hA hval
  obtain ⟨v0, vs0, d0, ds0, p0, q0, hargs, rfl, rfl, h0, r0⟩ := trodAll_cons hA
  obtain ⟨v1, vs1, d1, ds1, p1, q1, rfl, rfl, rfl, h1, r1⟩ := trodAll_cons r0
  obtain ⟨v2, vs2, d2, ds2, p2, q2, rfl, rfl, rfl, h2, r2⟩ := trodAll_cons r1
  obtain ⟨v3, vs3, d3, ds3, p3, q3, rfl, rfl, rfl, h3, r3⟩ := trodAll_cons r2
  obtain ⟨rfl, rfl, rfl⟩ := trodAll_nil r3
  obtain rfl : args = #[v0, v1, v2, v3] := by cases args; simp_all
  obtain ⟨la, lc, l, rfl, lT, ll, ls⟩ := open_tasks (hval 0 22 v0 rfl rfl) h0
  obtain ⟨da, dc, d, rfl, dB, dl⟩ := open_bls (hval 1 23 v1 rfl rfl) h1
  obtain ⟨one, rfl, oneo⟩ := open_i64 (hval 2 3 v2 rfl rfl) h2
  obtain ⟨two, rfl, twoo⟩ := open_i64 (hval 3 3 v3 rfl rfl) h3
  exact walk W la lc l lT ll ls da dc d dB dl one oneo two twoo
end TaskUndoes
/-! The step from the walk to the row of TaskUndoes. -/
namespace TaskUndoes
set_option maxRecDepth 100000 in
theorem lifted (os : Os) (started : os.Started) (H : Type) (enc : TypeId × Value → H) :
    ReturnsInHanded {} Try.checked os 6 .any (Rows.taskUndoesSpec.pre6 enc Try.prog Try.f6 Rows.taskUndoesRow.domain false) (Rows.taskUndoesSpec.post enc Try.prog Try.f6 false true false false) := by
  refine returnsInHanded_of_change (C := Try.checked) own started (by kernel_rfl) Try.func6
    (ChangeSpec.witness6 (enc := enc) (C := Try.checked) false ⟨#[], #[.slice none 0 0, .slice none 0 0, .int .i64 0, .int .i64 0], []⟩ 8 (by kernel_rfl) (by kernel_rfl) (by kernel_rfl) (by kernel_rfl)) ?_
  intro W base args ds gs before hval0 hW hcnd _
  have hval : ∀ (j : Nat) t v, Try.f6.params[j]? = some t → args[j]? = some v → Value.okWide Try.prog W .any base t v := hval0
  have hW' := hW
  obtain ⟨p, q, hA0, hV, rfl, hfz, hnd⟩ := hW
  have hA : DataW.TrodAll enc Try.prog W 0 (fun _ => true) true Try.f6.params.toList args.toList ds p := hA0
  obtain ⟨rfl, rfl⟩ := trodVars_none hV
  have hlen := trodAll_len _ _ _ _ hA
  obtain ⟨d0, d1, d2, d3, rfl⟩ : ∃ d0 d1 d2 d3, ds = [d0, d1, d2, d3] := by
    rw [Try.params6] at hlen
    exact list4 hlen
  refine (entry H enc W base args [d0, d1, d2, d3] p hval hA).mono fun e W' ⟨he, bel⟩ => ?_
  subst he
  exact ⟨_, rfl, _, _, _, [], _, [], hW', trodAll_mk1 (shut_bool Try.underlying4 _), readback laidOut _ _ _ _ (by rw [Try.params6]; exact of_decide_eq_true (by kernel_rfl)) hA bel, rfl, bel.frame _, fun h => by cases h⟩

theorem over : Rows.taskUndoesRow.holds Try.pinned (OpenSpec.ofChange Rows.taskUndoesSpec) :=
  OpenClaim.holds_of_wide 6 Try.f6 rfl rfl rfl rfl rfl rfl rfl ⟨rfl, rfl, rfl, rfl, rfl⟩ rfl rfl rfl rfl rfl (by kernel_rfl) Try.func6 (by kernel_rfl)
    (of_decide_eq_true (by kernel_rfl)) (by unfold Func.isWrapper; first | (rw [if_pos (by decide +kernel)]; kernel_rfl) | (rw [if_neg (by decide +kernel)]; exact ⟨rfl, rfl⟩))
    (fun os started H enc _ => lifted os started H enc)

/-- THE STATEMENT -/
theorem proved : Rows.TaskUndoesSaid := over
end TaskUndoes
#print axioms TaskUndoes.proved
end Go.Proofs.Ytidbmllelnffdaa
