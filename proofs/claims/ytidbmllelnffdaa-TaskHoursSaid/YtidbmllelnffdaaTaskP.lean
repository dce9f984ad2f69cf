
/- Contracts of package task: Undo. -/
import Derived.Test.YtidbmllelnffdaaTaskO
import Derived.Test.YtidbmllelnffdaaOwn2
namespace Go.Proofs.Ytidbmllelnffdaa
open Go.RowKit

noncomputable def undE (l : List Tk) (d : List Bool) (one : Int) : Int :=
  if d.length ≠ l.length then 1 else if (orderOf l).length < l.length then 24 else if one < 0 ∨ l.length ≤ one then 2 else if clo l d = true ∧ bg d one.toNat = true then 0 else 5

set_option maxRecDepth 100000 in
set_option maxHeartbeats 4000000 in
theorem undo_no (l : List Tk) (d : List Bool) (one : Int) (a da : Option Addr) (cap dc : Nat) (w : World) (hT : Tasks w a l) (hl : l.length < 9223372036854775808) (hS : l.length ≤ 40 → ∀ i, i < l.length → (tg l i).after.length < 9223372036854775808) (hv : ¬ VT l) :
    (Calls Try.prog 15 #[.slice a l.length cap, .slice da d.length dc, .int .i64 one] w (RetBE [] 1 w)) ∧ (Calls Try.prog 16 #[.slice a l.length cap, .slice da d.length dc, .int .i64 one] w (RetBE [] 1 w)) := by
  have HV := Lib.hid (show false = true ↔ VT l by simp [hv])
  have HS := Lib.hid hS
  clear hS hv
  constructor
  · go_enter Try.func15, Try.ntmps15
    go_wp2_with fail
    apply wp_scope_straight
    go_wp2_with fail
    refine Calls.mono (valid_any l a cap false _ hT hl HS.out HV.out) ?_
    rintro e w1 ⟨rfl, hb1⟩; have hs1 := hb1.size; (try simp at hs1)
    go_wp2_with fail
    rw [Exit.noGoto_ret]
    go_ret2
    exact ⟨none, 0, rfl, Bools.nil _ _, (by repeat (first | exact Below.refl _ _ | assumption | refine Below.drew ?_ | refine below_drewN ?_ _ | refine Below.alloc ?_ (by first | omega | (simp; done) | (simp; omega)) _ | refine Below.setCell ?_ (by first | omega | (simp; done) | (simp; omega)) _ | refine Below.trans ?_ (Below.mono (by assumption) (by first | omega | (simp; done) | (simp; omega)))))⟩
  · go_enter Try.func16, Try.ntmps16
    go_wp2_with fail
    refine Calls.mono (rvalid_any l a cap false _ hT hl HS.out HV.out) ?_
    rintro e w1 ⟨rfl, hb1⟩; have hs1 := hb1.size; (try simp at hs1)
    go_wp2_with fail
    go_ret2
    exact ⟨none, 0, rfl, Bools.nil _ _, (by repeat (first | exact Below.refl _ _ | assumption | refine Below.drew ?_ | refine below_drewN ?_ _ | refine Below.alloc ?_ (by first | omega | (simp; done) | (simp; omega)) _ | refine Below.setCell ?_ (by first | omega | (simp; done) | (simp; omega)) _ | refine Below.trans ?_ (Below.mono (by assumption) (by first | omega | (simp; done) | (simp; omega)))))⟩

theorem ordE_le {l : List Tk} (hv : VT l) : (ordL l).length ≤ 40 := by
  have := order_le hv
  have := hv.1
  unfold ordL
  split
  · simp
  · omega
theorem order_at (l : List Tk) (x : Int) (a : Option Addr) (cap : Nat) (w : World) (hT : Tasks w a l) (hv : VT l) (hx : ordE l = x) : Calls Try.prog 11 #[.slice a l.length cap] w (RetIE (ordL l) x w) := by
  have h40 := hv.1
  have := order_yes l a cap w hT (by omega) (fun _ i hi => by have := after_len hv hi; omega) hv
  rwa [hx] at this
theorem rorder_at (l : List Tk) (x : Int) (a : Option Addr) (cap : Nat) (w : World) (hT : Tasks w a l) (hv : VT l) (hx : ordE l = x) : Calls Try.prog 12 #[.slice a l.length cap] w (RetIE (ordL l) x w) := by
  have := rorder_yes l a cap w hT hv
  rwa [hx] at this
theorem valid_at (l : List Tk) (a : Option Addr) (cap : Nat) (w : World) (hT : Tasks w a l) (hv : VT l) : (Calls Try.prog 17 #[.slice a l.length cap] w (RetB (.bool true) w)) ∧ (Calls Try.prog 18 #[.slice a l.length cap] w (RetB (.bool true) w)) := by
  have h40 := hv.1
  exact ⟨valid_any l a cap true w hT (by omega) (fun _ i hi => by have := after_len hv hi; omega) (by simp [hv]), rvalid_any l a cap true w hT (by omega) (fun _ i hi => by have := after_len hv hi; omega) (by simp [hv])⟩
set_option maxRecDepth 100000 in
set_option maxHeartbeats 4000000 in
theorem undo_err (l : List Tk) (d : List Bool) (one : Int) (a da : Option Addr) (cap dc : Nat) (w : World) (hT : Tasks w a l) (hv : VT l) (ho : -9223372036854775808 ≤ one ∧ one < 9223372036854775808)
    (h : d.length ≠ l.length ∨ d.length = l.length ∧ (orderOf l).length < l.length ∨ d.length = l.length ∧ ¬ (orderOf l).length < l.length ∧ (one < 0 ∨ l.length ≤ one)) :
    (Calls Try.prog 15 #[.slice a l.length cap, .slice da d.length dc, .int .i64 one] w (RetBE [] (undE l d one) w)) ∧ (Calls Try.prog 16 #[.slice a l.length cap, .slice da d.length dc, .int .i64 one] w (RetBE [] (undE l d one) w)) := by
  have HV := Lib.hid hv
  have h40 := hv.1
  rcases h with hne | ⟨hd, hc⟩ | ⟨hd, hc, hr⟩
  · have e : ((l.length : Int) != (d.length : Int)) = true := by simp; omega
    have hE : undE l d one = 1 := by unfold undE; rw [if_pos hne]
    rw [hE]
    clear hv hE hne
    constructor
    · go_enter Try.func15, Try.ntmps15
      go_wp2_with fail
      apply wp_scope_straight
      go_wp2_with fail
      refine Calls.mono (valid_at l a cap _ hT HV.out).1 ?_
      rintro e w1 ⟨rfl, hb1⟩; have hs1 := hb1.size; (try simp at hs1)
      go_wp2_with fail
      rw [Exit.noGoto_ret]
      go_ret2
      exact ⟨none, 0, rfl, Bools.nil _ _, (by repeat (first | exact Below.refl _ _ | assumption | refine Below.drew ?_ | refine below_drewN ?_ _ | refine Below.alloc ?_ (by first | omega | (simp; done) | (simp; omega)) _ | refine Below.setCell ?_ (by first | omega | (simp; done) | (simp; omega)) _ | refine Below.trans ?_ (Below.mono (by assumption) (by first | omega | (simp; done) | (simp; omega)))))⟩
    · go_enter Try.func16, Try.ntmps16
      go_wp2_with fail
      refine Calls.mono (valid_at l a cap _ hT HV.out).2 ?_
      rintro e w1 ⟨rfl, hb1⟩; have hs1 := hb1.size; (try simp at hs1)
      go_wp2_with fail
      go_ret2
      exact ⟨none, 0, rfl, Bools.nil _ _, (by repeat (first | exact Below.refl _ _ | assumption | refine Below.drew ?_ | refine below_drewN ?_ _ | refine Below.alloc ?_ (by first | omega | (simp; done) | (simp; omega)) _ | refine Below.setCell ?_ (by first | omega | (simp; done) | (simp; omega)) _ | refine Below.trans ?_ (Below.mono (by assumption) (by first | omega | (simp; done) | (simp; omega)))))⟩
  · have e : ((l.length : Int) != (d.length : Int)) = false := by simp; omega
    have hE : undE l d one = 24 := by unfold undE; rw [if_neg (by omega), if_pos hc]
    have hO : ordE l = 24 := by unfold ordE; rw [if_pos hc]
    have HO := Lib.hid hO
    rw [hE]
    clear hv hE hd hc hO
    constructor
    · go_enter Try.func15, Try.ntmps15
      go_wp2_with fail
      apply wp_scope_straight
      go_wp2_with fail
      refine Calls.mono (valid_at l a cap _ hT HV.out).1 ?_
      rintro e w1 ⟨rfl, hb1⟩; have hs1 := hb1.size; (try simp at hs1)
      go_wp2_with fail
      refine Calls.mono (order_at l 24 a cap _ (hT.later (by repeat (first | exact Below.refl _ _ | assumption | refine Below.drew ?_ | refine below_drewN ?_ _ | refine Below.alloc ?_ (by first | omega | (simp; done) | (simp; omega)) _ | refine Below.setCell ?_ (by first | omega | (simp; done) | (simp; omega)) _ | refine Below.trans ?_ (Below.mono (by assumption) (by first | omega | (simp; done) | (simp; omega)))))) HV.out HO.out) ?_
      rintro e w2 ⟨oa, oc, rfl, hI, hb2⟩
      go_wp2_with fail
      rw [Exit.noGoto_ret]
      go_ret2
      exact ⟨none, 0, rfl, Bools.nil _ _, (by repeat (first | exact Below.refl _ _ | assumption | refine Below.drew ?_ | refine below_drewN ?_ _ | refine Below.alloc ?_ (by first | omega | (simp; done) | (simp; omega)) _ | refine Below.setCell ?_ (by first | omega | (simp; done) | (simp; omega)) _ | refine Below.trans ?_ (Below.mono (by assumption) (by first | omega | (simp; done) | (simp; omega)))))⟩
    · go_enter Try.func16, Try.ntmps16
      go_wp2_with fail
      refine Calls.mono (valid_at l a cap _ hT HV.out).2 ?_
      rintro e w1 ⟨rfl, hb1⟩; have hs1 := hb1.size; (try simp at hs1)
      go_wp2_with fail
      refine Calls.mono (rorder_at l 24 a cap _ (hT.later (by repeat (first | exact Below.refl _ _ | assumption | refine Below.drew ?_ | refine below_drewN ?_ _ | refine Below.alloc ?_ (by first | omega | (simp; done) | (simp; omega)) _ | refine Below.setCell ?_ (by first | omega | (simp; done) | (simp; omega)) _ | refine Below.trans ?_ (Below.mono (by assumption) (by first | omega | (simp; done) | (simp; omega)))))) HV.out HO.out) ?_
      rintro e w2 ⟨oa, oc, rfl, hI, hb2⟩
      go_wp2_with fail
      go_ret2
      exact ⟨none, 0, rfl, Bools.nil _ _, (by repeat (first | exact Below.refl _ _ | assumption | refine Below.drew ?_ | refine below_drewN ?_ _ | refine Below.alloc ?_ (by first | omega | (simp; done) | (simp; omega)) _ | refine Below.setCell ?_ (by first | omega | (simp; done) | (simp; omega)) _ | refine Below.trans ?_ (Below.mono (by assumption) (by first | omega | (simp; done) | (simp; omega)))))⟩
  · have e : ((l.length : Int) != (d.length : Int)) = false := by simp; omega
    have hE : undE l d one = 2 := by unfold undE; rw [if_neg (by omega), if_neg hc, if_pos hr]
    have hO : ordE l = 0 := by unfold ordE; rw [if_neg hc]
    have HO := Lib.hid hO
    rw [hE]
    clear hv hE hd hc hO
    constructor
    · rcases hr with hr | hr
      all_goals
        go_enter Try.func15, Try.ntmps15
        go_wp2_with fail
        apply wp_scope_straight
        go_wp2_with fail
        refine Calls.mono (valid_at l a cap _ hT HV.out).1 ?_
        rintro e w1 ⟨rfl, hb1⟩; have hs1 := hb1.size; (try simp at hs1)
        go_wp2_with fail
        refine Calls.mono (order_at l 0 a cap _ (hT.later (by repeat (first | exact Below.refl _ _ | assumption | refine Below.drew ?_ | refine below_drewN ?_ _ | refine Below.alloc ?_ (by first | omega | (simp; done) | (simp; omega)) _ | refine Below.setCell ?_ (by first | omega | (simp; done) | (simp; omega)) _ | refine Below.trans ?_ (Below.mono (by assumption) (by first | omega | (simp; done) | (simp; omega)))))) HV.out HO.out) ?_
        rintro e w2 ⟨oa, oc, rfl, hI, hb2⟩
        go_wp2_with fail
        rw [Exit.noGoto_ret]
        go_ret2
        exact ⟨none, 0, rfl, Bools.nil _ _, (by repeat (first | exact Below.refl _ _ | assumption | refine Below.drew ?_ | refine below_drewN ?_ _ | refine Below.alloc ?_ (by first | omega | (simp; done) | (simp; omega)) _ | refine Below.setCell ?_ (by first | omega | (simp; done) | (simp; omega)) _ | refine Below.trans ?_ (Below.mono (by assumption) (by first | omega | (simp; done) | (simp; omega)))))⟩
    · rcases hr with hr | hr
      all_goals
        go_enter Try.func16, Try.ntmps16
        go_wp2_with fail
        refine Calls.mono (valid_at l a cap _ hT HV.out).2 ?_
        rintro e w1 ⟨rfl, hb1⟩; have hs1 := hb1.size; (try simp at hs1)
        go_wp2_with fail
        refine Calls.mono (rorder_at l 0 a cap _ (hT.later (by repeat (first | exact Below.refl _ _ | assumption | refine Below.drew ?_ | refine below_drewN ?_ _ | refine Below.alloc ?_ (by first | omega | (simp; done) | (simp; omega)) _ | refine Below.setCell ?_ (by first | omega | (simp; done) | (simp; omega)) _ | refine Below.trans ?_ (Below.mono (by assumption) (by first | omega | (simp; done) | (simp; omega)))))) HV.out HO.out) ?_
        rintro e w2 ⟨oa, oc, rfl, hI, hb2⟩
        go_wp2_with fail
        go_ret2
        exact ⟨none, 0, rfl, Bools.nil _ _, (by repeat (first | exact Below.refl _ _ | assumption | refine Below.drew ?_ | refine below_drewN ?_ _ | refine Below.alloc ?_ (by first | omega | (simp; done) | (simp; omega)) _ | refine Below.setCell ?_ (by first | omega | (simp; done) | (simp; omega)) _ | refine Below.trans ?_ (Below.mono (by assumption) (by first | omega | (simp; done) | (simp; omega)))))⟩
end Go.Proofs.Ytidbmllelnffdaa
