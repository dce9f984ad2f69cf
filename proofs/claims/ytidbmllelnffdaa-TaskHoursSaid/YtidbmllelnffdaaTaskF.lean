
/- Contracts of package task and its reference: Ready; Order where the tasks are not valid. -/
import Derived.Test.YtidbmllelnffdaaTaskE
namespace Go.Proofs.Ytidbmllelnffdaa
open Go.RowKit

def RetI (l : List Int) (w : World) (e : Ending) (w' : World) : Prop := ∃ a cap, e = .returned (.slice a l.length cap) ∧ Ints w' a l ∧ Below w.heap.size w w'
/-- those below i that are ready -/
def col (l : List Tk) (d : List Bool) (i : Nat) : List Int := ((List.range i).filter (rdy l d)).map fun n : Nat => (n : Int)
theorem col_yes {l : List Tk} {d : List Bool} {i : Nat} (h : rdy l d i = true) : col l d (i + 1) = col l d i ++ [(i : Int)] := by
  simp [col, List.range_succ, List.filter_append, h]
theorem col_no {l : List Tk} {d : List Bool} {i : Nat} (h : rdy l d i = false) : col l d (i + 1) = col l d i := by
  simp [col, List.range_succ, List.filter_append, h]
theorem col_len (l : List Tk) (d : List Bool) (i : Nat) : (col l d i).length ≤ i := by
  have := List.length_filter_le (rdy l d) (List.range i)
  simp [col] at *
  exact this

theorem rready_at (l : List Tk) (d : List Bool) (i n m : Nat) (r : Bool) (a da : Option Addr) (cap dc : Nat) (w : World) (hT : Tasks w a l) (hD : Bools w da d) (hv : VT l) (hi : i < l.length) (hn : l.length = n) (hd : d.length = m) (hm : m = n) (hr : rdy l d i = r) :
    Calls Try.prog 26 #[.slice a n cap, .slice da m dc, .int .i64 i] w (RetS (.bool r) w) := by
  subst hn hd
  have h40 := hv.1
  have := rready_any l d i a da cap dc w hT hD (by omega) hi hm (by have := after_len hv hi; omega) (fun q hq => by have := after_in hv hi (d := d) hm q hq; rw [hm] at this; exact this)
  rwa [hr] at this

set_option maxRecDepth 100000 in
set_option maxHeartbeats 2000000 in
theorem ready_no (l : List Tk) (d : List Bool) (a da : Option Addr) (cap dc : Nat) (r : Bool) (w : World) (hT : Tasks w a l) (hl : l.length < 9223372036854775808) (hS : l.length ≤ 40 → ∀ i, i < l.length → (tg l i).after.length < 9223372036854775808)
    (hr : r = true ↔ VT l) (hno : r = false ∨ r = true ∧ l.length ≠ d.length) :
    (Calls Try.prog 21 #[.slice a l.length cap, .slice da d.length dc] w (RetI [] w)) ∧ (Calls Try.prog 22 #[.slice a l.length cap, .slice da d.length dc] w (RetI [] w)) := by
  have HR := Lib.hid hr
  have HS := Lib.hid hS
  clear hr hS
  constructor
  · rcases hno with rfl | ⟨rfl, hne⟩
    · go_enter Try.func21, Try.ntmps21
      go_wp2_with fail
      refine Calls.mono (valid_any l a cap false _ hT hl HS.out (by simpa using HR.out)) ?_
      rintro e w1 ⟨rfl, hb1⟩; have hs1 := hb1.size; (try simp at hs1)
      go_wp2_with fail
      go_ret
      exact ⟨none, 0, rfl, Ints.nil _ _, (by repeat (first | exact Below.refl _ _ | assumption | refine Below.drew ?_ | refine below_drewN ?_ _ | refine Below.alloc ?_ (by first | omega | (simp; done) | (simp; omega)) _ | refine Below.setCell ?_ (by first | omega | (simp; done) | (simp; omega)) _ | refine Below.trans ?_ (Below.mono (by assumption) (by first | omega | (simp; done) | (simp; omega)))))⟩
    · have e : ((l.length : Int) != (d.length : Int)) = true := by simp; omega
      go_enter Try.func21, Try.ntmps21
      go_wp2_with fail
      refine Calls.mono (valid_any l a cap true _ hT hl HS.out (by simpa using HR.out)) ?_
      rintro e w1 ⟨rfl, hb1⟩; have hs1 := hb1.size; (try simp at hs1)
      go_wp2_with fail
      go_ret
      exact ⟨none, 0, rfl, Ints.nil _ _, (by repeat (first | exact Below.refl _ _ | assumption | refine Below.drew ?_ | refine below_drewN ?_ _ | refine Below.alloc ?_ (by first | omega | (simp; done) | (simp; omega)) _ | refine Below.setCell ?_ (by first | omega | (simp; done) | (simp; omega)) _ | refine Below.trans ?_ (Below.mono (by assumption) (by first | omega | (simp; done) | (simp; omega)))))⟩
  · rcases hno with rfl | ⟨rfl, hne⟩
    · go_enter Try.func22, Try.ntmps22
      go_wp2_with fail
      refine Calls.mono (rvalid_any l a cap false _ hT hl HS.out (by simpa using HR.out)) ?_
      rintro e w1 ⟨rfl, hb1⟩; have hs1 := hb1.size; (try simp at hs1)
      go_wp2_with fail
      go_ret
      exact ⟨none, 0, rfl, Ints.nil _ _, (by repeat (first | exact Below.refl _ _ | assumption | refine Below.drew ?_ | refine below_drewN ?_ _ | refine Below.alloc ?_ (by first | omega | (simp; done) | (simp; omega)) _ | refine Below.setCell ?_ (by first | omega | (simp; done) | (simp; omega)) _ | refine Below.trans ?_ (Below.mono (by assumption) (by first | omega | (simp; done) | (simp; omega)))))⟩
    · have e : ((l.length : Int) != (d.length : Int)) = true := by simp; omega
      go_enter Try.func22, Try.ntmps22
      go_wp2_with fail
      refine Calls.mono (rvalid_any l a cap true _ hT hl HS.out (by simpa using HR.out)) ?_
      rintro e w1 ⟨rfl, hb1⟩; have hs1 := hb1.size; (try simp at hs1)
      go_wp2_with fail
      go_ret
      exact ⟨none, 0, rfl, Ints.nil _ _, (by repeat (first | exact Below.refl _ _ | assumption | refine Below.drew ?_ | refine below_drewN ?_ _ | refine Below.alloc ?_ (by first | omega | (simp; done) | (simp; omega)) _ | refine Below.setCell ?_ (by first | omega | (simp; done) | (simp; omega)) _ | refine Below.trans ?_ (Below.mono (by assumption) (by first | omega | (simp; done) | (simp; omega)))))⟩

set_option maxRecDepth 100000 in
set_option maxHeartbeats 2000000 in
theorem order_no (l : List Tk) (a : Option Addr) (cap : Nat) (w : World) (hT : Tasks w a l) (hl : l.length < 9223372036854775808) (hS : l.length ≤ 40 → ∀ i, i < l.length → (tg l i).after.length < 9223372036854775808) (hv : ¬ VT l) :
    (Calls Try.prog 11 #[.slice a l.length cap] w (RetIE [] 1 w)) ∧ (Calls Try.prog 12 #[.slice a l.length cap] w (RetIE [] 1 w)) := by
  have HV := Lib.hid (show false = true ↔ VT l by simp [hv])
  have HS := Lib.hid hS
  clear hS hv
  constructor
  · go_enter Try.func11, Try.ntmps11
    go_wp2_with fail
    apply wp_scope_straight
    go_wp2_with fail
    refine Calls.mono (valid_any l a cap false _ hT hl HS.out HV.out) ?_
    rintro e w1 ⟨rfl, hb1⟩; have hs1 := hb1.size; (try simp at hs1)
    go_wp2_with fail
    rw [Exit.noGoto_ret]
    go_ret2
    exact ⟨none, 0, rfl, Ints.nil _ _, (by repeat (first | exact Below.refl _ _ | assumption | refine Below.drew ?_ | refine below_drewN ?_ _ | refine Below.alloc ?_ (by first | omega | (simp; done) | (simp; omega)) _ | refine Below.setCell ?_ (by first | omega | (simp; done) | (simp; omega)) _ | refine Below.trans ?_ (Below.mono (by assumption) (by first | omega | (simp; done) | (simp; omega)))))⟩
  · go_enter Try.func12, Try.ntmps12
    go_wp2_with fail
    refine Calls.mono (rvalid_any l a cap false _ hT hl HS.out HV.out) ?_
    rintro e w1 ⟨rfl, hb1⟩; have hs1 := hb1.size; (try simp at hs1)
    go_wp2_with fail
    go_ret2
    exact ⟨none, 0, rfl, Ints.nil _ _, (by repeat (first | exact Below.refl _ _ | assumption | refine Below.drew ?_ | refine below_drewN ?_ _ | refine Below.alloc ?_ (by first | omega | (simp; done) | (simp; omega)) _ | refine Below.setCell ?_ (by first | omega | (simp; done) | (simp; omega)) _ | refine Below.trans ?_ (Below.mono (by assumption) (by first | omega | (simp; done) | (simp; omega)))))⟩

set_option maxRecDepth 100000 in
set_option maxHeartbeats 2000000 in
theorem ready_yes (l : List Tk) (d : List Bool) (a da : Option Addr) (cap dc : Nat) (w : World) (hT : Tasks w a l) (hD : Bools w da d) (hv : VT l) (hd : d.length = l.length) :
    Calls Try.prog 21 #[.slice a l.length cap, .slice da d.length dc] w (RetI (col l d l.length) w) := by
  have HV := Lib.hid hv
  have HDL := Lib.hid hd
  have h40 := hv.1
  have hbnd : ∀ i, i < l.length → (tg l i).after.length < 9223372036854775808 := fun i hi => by have := after_len hv hi; omega
  have HS := Lib.hid hbnd
  have e : ((l.length : Int) != (d.length : Int)) = false := by simp; omega
  clear hv hbnd hd
  go_enter Try.func21, Try.ntmps21
  go_wp2_with fail
  refine Calls.mono (valid_any l a cap true _ hT (by omega) (fun _ => HS.out) (by simp [HV.out])) ?_
  rintro e w1 ⟨rfl, hb1⟩; have hs1 := hb1.size; (try simp at hs1)
  go_wp2_with fail
  clear e
  go_loopg [5, 20] (l.length + 1) (fun k v5 v20 wr => ∃ i : Nat, i ≤ l.length ∧ k + i = l.length + 1 ∧ v20 = .int .i64 i ∧ Below w.heap.size w wr ∧ OwnI wr w.heap.size v5 (col l d i))
  case atStart => exact ⟨0, by omega, by omega, rfl, (by repeat (first | exact Below.refl _ _ | assumption | refine Below.drew ?_ | refine below_drewN ?_ _ | refine Below.alloc ?_ (by first | omega | (simp; done) | (simp; omega)) _ | refine Below.setCell ?_ (by first | omega | (simp; done) | (simp; omega)) _ | refine Below.trans ?_ (Below.mono (by assumption) (by first | omega | (simp; done) | (simp; omega))))), OwnI.nil _ _⟩
  case round =>
    obtain ⟨wo, rfl⟩ : ∃ wo : World, wo = wr := ⟨_, rfl⟩
    obtain ⟨i, hil, hk, rfl, hbel, hown⟩ := hrel
    have hsz := hbel.size
    have hcl := col_len l d i
    by_cases hlt : i < l.length
    · obtain ⟨db, doff, rfl, fd⟩ := hD.fam (by have := HDL.out; omega)
      obtain ⟨b, off, aa, ac, rfl, c0, c1, c2, c3, hI⟩ := (hT.later (w1 := wo) (by repeat (first | exact Below.refl _ _ | assumption | refine Below.drew ?_ | refine below_drewN ?_ _ | refine Below.alloc ?_ (by first | omega | (simp; done) | (simp; omega)) _ | refine Below.setCell ?_ (by first | omega | (simp; done) | (simp; omega)) _ | refine Below.trans ?_ (Below.mono (by assumption) (by first | omega | (simp; done) | (simp; omega)))))) i hlt
      have hai := after_in HV.out hlt HDL.out
      have hal := after_len HV.out hlt
      obtain ⟨t, ht⟩ : ∃ t, tg l i = t := ⟨_, rfl⟩
      rw [ht] at c0 c1 c2 c3 hI hai hal
      have HTt := Lib.hid ht
      have HAI := Lib.hid hai
      have hdi : i < d.length := by have := HDL.out; omega
      have hdc : (wo.alloc (.cells #[.int .i64 t.hours, .int .i64 t.skill, .bool t.bay, .slice aa t.after.length ac] 41)).cell? ⟨db, doff + i, none⟩ = some (.bool (bg d i)) := cell_later (w := w) (by repeat (first | exact Below.refl _ _ | assumption | refine Below.drew ?_ | refine below_drewN ?_ _ | refine Below.alloc ?_ (by first | omega | (simp; done) | (simp; omega)) _ | refine Below.setCell ?_ (by first | omega | (simp; done) | (simp; omega)) _ | refine Below.trans ?_ (Below.mono (by assumption) (by first | omega | (simp; done) | (simp; omega))))) (fd i hdi)
      clear ht hai fd
      cases hb : bg d i
      · rw [hb] at hdc
        cases hdn : allDone d t.after
        · have hr : rdy l d i = false := by unfold rdy; rw [HTt.out, hb, hdn]; rfl
          have HR := Lib.hid hr
          clear hr
          go_wp2_with fail
          refine Calls.mono (waits_at t d true d.length aa _ ac _ _ (hI.later (by repeat (first | exact Below.refl _ _ | assumption | refine Below.drew ?_ | refine below_drewN ?_ _ | refine Below.alloc ?_ (by first | omega | (simp; done) | (simp; omega)) _ | refine Below.setCell ?_ (by first | omega | (simp; done) | (simp; omega)) _ | refine Below.trans ?_ (Below.mono (by assumption) (by first | omega | (simp; done) | (simp; omega)))))) (hD.later (by repeat (first | exact Below.refl _ _ | assumption | refine Below.drew ?_ | refine below_drewN ?_ _ | refine Below.alloc ?_ (by first | omega | (simp; done) | (simp; omega)) _ | refine Below.setCell ?_ (by first | omega | (simp; done) | (simp; omega)) _ | refine Below.trans ?_ (Below.mono (by assumption) (by first | omega | (simp; done) | (simp; omega)))))) (by omega) rfl (by have := HDL.out; omega) HAI.out (by rw [hdn]; rfl)) ?_
          rintro e w1 ⟨rfl, hb1⟩; have hs1 := hb1.size; (try simp at hs1)
          go_wp2_with fail
          go_roundg (l.length - i)
          case measure => omega
          case rel => exact ⟨i + 1, by omega, by omega, by go_num, (by repeat (first | exact Below.refl _ _ | assumption | refine Below.drew ?_ | refine below_drewN ?_ _ | refine Below.alloc ?_ (by first | omega | (simp; done) | (simp; omega)) _ | refine Below.setCell ?_ (by first | omega | (simp; done) | (simp; omega)) _ | refine Below.trans ?_ (Below.mono (by assumption) (by first | omega | (simp; done) | (simp; omega))))), by rw [col_no HR.out]; exact hown.later (by repeat (first | exact Below.refl _ _ | assumption | refine Below.drew ?_ | refine below_drewN ?_ _ | refine Below.alloc ?_ (by first | omega | (simp; done) | (simp; omega)) _ | refine Below.setCell ?_ (by first | omega | (simp; done) | (simp; omega)) _ | refine Below.trans ?_ (Below.mono (by assumption) (by first | omega | (simp; done) | (simp; omega)))))⟩
        · have hr : rdy l d i = true := by unfold rdy; rw [HTt.out, hb, hdn]; rfl
          have HR := Lib.hid hr
          clear hr
          go_wp2_with fail
          refine Calls.mono (waits_at t d false d.length aa _ ac _ _ (hI.later (by repeat (first | exact Below.refl _ _ | assumption | refine Below.drew ?_ | refine below_drewN ?_ _ | refine Below.alloc ?_ (by first | omega | (simp; done) | (simp; omega)) _ | refine Below.setCell ?_ (by first | omega | (simp; done) | (simp; omega)) _ | refine Below.trans ?_ (Below.mono (by assumption) (by first | omega | (simp; done) | (simp; omega)))))) (hD.later (by repeat (first | exact Below.refl _ _ | assumption | refine Below.drew ?_ | refine below_drewN ?_ _ | refine Below.alloc ?_ (by first | omega | (simp; done) | (simp; omega)) _ | refine Below.setCell ?_ (by first | omega | (simp; done) | (simp; omega)) _ | refine Below.trans ?_ (Below.mono (by assumption) (by first | omega | (simp; done) | (simp; omega)))))) (by omega) rfl (by have := HDL.out; omega) HAI.out (by rw [hdn]; rfl)) ?_
          rintro e w1 ⟨rfl, hb1⟩; have hs1 := hb1.size; (try simp at hs1)
          have hown1 := hown.later (w1 := w1) (by repeat (first | exact Below.refl _ _ | assumption | refine Below.drew ?_ | refine below_drewN ?_ _ | refine Below.alloc ?_ (by first | omega | (simp; done) | (simp; omega)) _ | refine Below.setCell ?_ (by first | omega | (simp; done) | (simp; omega)) _ | refine Below.trans ?_ (Below.mono (by assumption) (by first | omega | (simp; done) | (simp; omega)))))
          go_wp2_with (at_builtin; refine append_int _ rfl _ _ rfl w.heap.size u5 (col l d i) (i : Int) rfl ?_ _ _ rfl ?_ (by omega) ?_ ?_; exact hown1.later (by repeat (first | exact Below.refl _ _ | assumption | refine Below.drew ?_ | refine below_drewN ?_ _ | refine Below.alloc ?_ (by first | omega | (simp; done) | (simp; omega)) _ | refine Below.setCell ?_ (by first | omega | (simp; done) | (simp; omega)) _ | refine Below.trans ?_ (Below.mono (by assumption) (by first | omega | (simp; done) | (simp; omega))))); simp [go_sem]; (simp; omega); intro v2 w2 hi2 hg2)
          have hown2 := hown1.later (w1 := w1.alloc (.cells #[.int .i64 i] 3)) (by repeat (first | exact Below.refl _ _ | assumption | refine Below.drew ?_ | refine below_drewN ?_ _ | refine Below.alloc ?_ (by first | omega | (simp; done) | (simp; omega)) _ | refine Below.setCell ?_ (by first | omega | (simp; done) | (simp; omega)) _ | refine Below.trans ?_ (Below.mono (by assumption) (by first | omega | (simp; done) | (simp; omega)))))
          have hbx : Below w.heap.size w (w1.alloc (.cells #[.int .i64 i] 3)) := (by repeat (first | exact Below.refl _ _ | assumption | refine Below.drew ?_ | refine below_drewN ?_ _ | refine Below.alloc ?_ (by first | omega | (simp; done) | (simp; omega)) _ | refine Below.setCell ?_ (by first | omega | (simp; done) | (simp; omega)) _ | refine Below.trans ?_ (Below.mono (by assumption) (by first | omega | (simp; done) | (simp; omega)))))
          have hbz := hbx.grown hg2 (by simp; omega) (fun k hk => (World.ownsRow.lt hown2 k hk).1)
          go_wp2_with fail
          go_roundg (l.length - i)
          case measure => omega
          case rel => exact ⟨i + 1, by omega, by omega, by go_num, hbz, by rw [col_yes HR.out]; exact hi2⟩
      · rw [hb] at hdc
        have hr : rdy l d i = false := by unfold rdy; rw [hb]; rfl
        have HR := Lib.hid hr
        clear hr
        go_wp2_with fail
        go_roundg (l.length - i)
        case measure => omega
        case rel => exact ⟨i + 1, by omega, by omega, by go_num, (by repeat (first | exact Below.refl _ _ | assumption | refine Below.drew ?_ | refine below_drewN ?_ _ | refine Below.alloc ?_ (by first | omega | (simp; done) | (simp; omega)) _ | refine Below.setCell ?_ (by first | omega | (simp; done) | (simp; omega)) _ | refine Below.trans ?_ (Below.mono (by assumption) (by first | omega | (simp; done) | (simp; omega))))), by rw [col_no HR.out]; exact hown.later (by repeat (first | exact Below.refl _ _ | assumption | refine Below.drew ?_ | refine below_drewN ?_ _ | refine Below.alloc ?_ (by first | omega | (simp; done) | (simp; omega)) _ | refine Below.setCell ?_ (by first | omega | (simp; done) | (simp; omega)) _ | refine Below.trans ?_ (Below.mono (by assumption) (by first | omega | (simp; done) | (simp; omega)))))⟩
    · have hie : i = l.length := by omega
      subst hie
      obtain ⟨oa, oc, rfl, hI, _⟩ := hown.ints
      go_wp2_with fail
      go_ret
      exact ⟨oa, oc, rfl, hI, (by repeat (first | exact Below.refl _ _ | assumption | refine Below.drew ?_ | refine below_drewN ?_ _ | refine Below.alloc ?_ (by first | omega | (simp; done) | (simp; omega)) _ | refine Below.setCell ?_ (by first | omega | (simp; done) | (simp; omega)) _ | refine Below.trans ?_ (Below.mono (by assumption) (by first | omega | (simp; done) | (simp; omega)))))⟩

set_option maxRecDepth 100000 in
set_option maxHeartbeats 2000000 in
theorem rreadyL_yes (l : List Tk) (d : List Bool) (a da : Option Addr) (cap dc : Nat) (w : World) (hT : Tasks w a l) (hD : Bools w da d) (hv : VT l) (hd : d.length = l.length) :
    Calls Try.prog 22 #[.slice a l.length cap, .slice da d.length dc] w (RetI (col l d l.length) w) := by
  have HV := Lib.hid hv
  have HDL := Lib.hid hd
  have h40 := hv.1
  have hbnd : ∀ i, i < l.length → (tg l i).after.length < 9223372036854775808 := fun i hi => by have := after_len hv hi; omega
  have HS := Lib.hid hbnd
  have e : ((l.length : Int) != (d.length : Int)) = false := by simp; omega
  clear hv hbnd hd
  go_enter Try.func22, Try.ntmps22
  go_wp2_with fail
  refine Calls.mono (rvalid_any l a cap true _ hT (by omega) (fun _ => HS.out) (by simp [HV.out])) ?_
  rintro e w1 ⟨rfl, hb1⟩; have hs1 := hb1.size; (try simp at hs1)
  go_wp2_with fail
  clear e
  go_loopg [5, 6] (l.length + 1) (fun k v5 v6 wr => ∃ i : Nat, i ≤ l.length ∧ k + i = l.length + 1 ∧ v6 = .int .i64 i ∧ Below w.heap.size w wr ∧ OwnI wr w.heap.size v5 (col l d i))
  case atStart => exact ⟨0, by omega, by omega, rfl, (by repeat (first | exact Below.refl _ _ | assumption | refine Below.drew ?_ | refine below_drewN ?_ _ | refine Below.alloc ?_ (by first | omega | (simp; done) | (simp; omega)) _ | refine Below.setCell ?_ (by first | omega | (simp; done) | (simp; omega)) _ | refine Below.trans ?_ (Below.mono (by assumption) (by first | omega | (simp; done) | (simp; omega))))), OwnI.nil _ _⟩
  case round =>
    obtain ⟨wo, rfl⟩ : ∃ wo : World, wo = wr := ⟨_, rfl⟩
    obtain ⟨i, hil, hk, rfl, hbel, hown⟩ := hrel
    have hsz := hbel.size
    have hcl := col_len l d i
    by_cases hlt : i < l.length
    · have hT' := hT.later (w1 := wo) (by repeat (first | exact Below.refl _ _ | assumption | refine Below.drew ?_ | refine below_drewN ?_ _ | refine Below.alloc ?_ (by first | omega | (simp; done) | (simp; omega)) _ | refine Below.setCell ?_ (by first | omega | (simp; done) | (simp; omega)) _ | refine Below.trans ?_ (Below.mono (by assumption) (by first | omega | (simp; done) | (simp; omega)))))
      have hD' := hD.later (w1 := wo) (by repeat (first | exact Below.refl _ _ | assumption | refine Below.drew ?_ | refine below_drewN ?_ _ | refine Below.alloc ?_ (by first | omega | (simp; done) | (simp; omega)) _ | refine Below.setCell ?_ (by first | omega | (simp; done) | (simp; omega)) _ | refine Below.trans ?_ (Below.mono (by assumption) (by first | omega | (simp; done) | (simp; omega)))))
      cases hr : rdy l d i
      · have HR := Lib.hid hr
        clear hr
        go_wp2_with fail
        refine Calls.mono (rready_at l d i _ _ false a da cap dc _ hT' hD' HV.out hlt rfl rfl HDL.out HR.out) ?_
        rintro e w1 ⟨rfl, rfl⟩
        go_wp2_with fail
        go_roundg (l.length - i)
        case measure => omega
        case rel => exact ⟨i + 1, by omega, by omega, by go_num, (by repeat (first | exact Below.refl _ _ | assumption | refine Below.drew ?_ | refine below_drewN ?_ _ | refine Below.alloc ?_ (by first | omega | (simp; done) | (simp; omega)) _ | refine Below.setCell ?_ (by first | omega | (simp; done) | (simp; omega)) _ | refine Below.trans ?_ (Below.mono (by assumption) (by first | omega | (simp; done) | (simp; omega))))), by rw [col_no HR.out]; exact hown⟩
      · have HR := Lib.hid hr
        clear hr
        go_wp2_with fail
        refine Calls.mono (rready_at l d i _ _ true a da cap dc _ hT' hD' HV.out hlt rfl rfl HDL.out HR.out) ?_
        rintro e w1 ⟨rfl, rfl⟩
        go_wp2_with (at_builtin; refine append_int _ rfl _ _ rfl w.heap.size u5 (col l d i) (i : Int) rfl ?_ _ _ rfl ?_ (by omega) ?_ ?_; exact hown.later (by repeat (first | exact Below.refl _ _ | assumption | refine Below.drew ?_ | refine below_drewN ?_ _ | refine Below.alloc ?_ (by first | omega | (simp; done) | (simp; omega)) _ | refine Below.setCell ?_ (by first | omega | (simp; done) | (simp; omega)) _ | refine Below.trans ?_ (Below.mono (by assumption) (by first | omega | (simp; done) | (simp; omega))))); simp [go_sem]; (simp; omega); intro v2 w2 hi2 hg2)
        have hown2 := hown.later (w1 := wo.alloc (.cells #[.int .i64 i] 3)) (by repeat (first | exact Below.refl _ _ | assumption | refine Below.drew ?_ | refine below_drewN ?_ _ | refine Below.alloc ?_ (by first | omega | (simp; done) | (simp; omega)) _ | refine Below.setCell ?_ (by first | omega | (simp; done) | (simp; omega)) _ | refine Below.trans ?_ (Below.mono (by assumption) (by first | omega | (simp; done) | (simp; omega)))))
        have hbx : Below w.heap.size w (wo.alloc (.cells #[.int .i64 i] 3)) := (by repeat (first | exact Below.refl _ _ | assumption | refine Below.drew ?_ | refine below_drewN ?_ _ | refine Below.alloc ?_ (by first | omega | (simp; done) | (simp; omega)) _ | refine Below.setCell ?_ (by first | omega | (simp; done) | (simp; omega)) _ | refine Below.trans ?_ (Below.mono (by assumption) (by first | omega | (simp; done) | (simp; omega)))))
        have hbz := hbx.grown hg2 (by simp; omega) (fun k hk => (World.ownsRow.lt hown2 k hk).1)
        go_wp2_with fail
        go_roundg (l.length - i)
        case measure => omega
        case rel => exact ⟨i + 1, by omega, by omega, by go_num, hbz, by rw [col_yes HR.out]; exact hi2⟩
    · have hie : i = l.length := by omega
      subst hie
      obtain ⟨oa, oc, rfl, hI, _⟩ := hown.ints
      go_wp2_with fail
      go_ret
      exact ⟨oa, oc, rfl, hI, (by repeat (first | exact Below.refl _ _ | assumption | refine Below.drew ?_ | refine below_drewN ?_ _ | refine Below.alloc ?_ (by first | omega | (simp; done) | (simp; omega)) _ | refine Below.setCell ?_ (by first | omega | (simp; done) | (simp; omega)) _ | refine Below.trans ?_ (Below.mono (by assumption) (by first | omega | (simp; done) | (simp; omega)))))⟩
end Go.Proofs.Ytidbmllelnffdaa
