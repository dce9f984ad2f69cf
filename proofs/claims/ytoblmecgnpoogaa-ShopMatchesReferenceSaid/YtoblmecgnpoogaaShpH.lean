

/- Package shop: the order and the critical hours of whatever tasks; Plan's first closure over the tasks. -/
import Derived.Test.YtoblmecgnpoogaaShpD
import Derived.Test.YtoblmecgnpoogaaTaskP
namespace Go.Proofs.Ytoblmecgnpoogaa
open Go.RowKit

open Classical in
noncomputable def oL (l : List Tk) : List Int := if VT l then ordL l else []
open Classical in
noncomputable def oE (l : List Tk) : Int := if VT l then ordE l else 1
open Classical in
noncomputable def cL (l : List Tk) : Int := if VT l then critL l else 0
set_option maxRecDepth 100000 in
set_option maxHeartbeats 2000000 in
theorem critical_not (l : List Tk) (a : Option Addr) (cap : Nat) (w : World) (hT : Tasks w a l) (hl : l.length < 9223372036854775808) (hS : l.length ≤ 40 → ∀ i, i < l.length → (tg l i).after.length < 9223372036854775808) (hv : ¬ VT l) : Calls Try.prog 21 #[.slice a l.length cap] w (RetNE 0 1 w) := by
  have HS := Lib.hid hS
  have HV := Lib.hid hv
  clear hS hv
  go_enter Try.func21, Try.ntmps21
  go_wp2_with fail
  refine Calls.mono (valid_any l a cap false _ (hT.later (by repeat (first | exact Below.refl _ _ | assumption | refine Below.drew ?_ | refine below_drewN ?_ _ | refine Below.alloc ?_ (by first | omega | (simp; done) | (simp; omega)) _ | refine Below.setCell ?_ (by first | omega | (simp; done) | (simp; omega)) _ | refine Below.trans ?_ (Below.mono (by assumption) (by first | omega | (simp; done) | (simp; omega)))))) hl HS.out (by simpa using HV.out)) ?_
  rintro e w1 ⟨rfl, hb1⟩; have hs1 := hb1.size; (try simp at hs1)
  go_wp2_with fail
  go_ret2
  exact ⟨rfl, (by repeat (first | exact Below.refl _ _ | assumption | refine Below.drew ?_ | refine below_drewN ?_ _ | refine Below.alloc ?_ (by first | omega | (simp; done) | (simp; omega)) _ | refine Below.setCell ?_ (by first | omega | (simp; done) | (simp; omega)) _ | refine Below.trans ?_ (Below.mono (by assumption) (by first | omega | (simp; done) | (simp; omega)))))⟩
theorem critical_any (l : List Tk) (a : Option Addr) (cap : Nat) (w : World) (hT : Tasks w a l) (hl : l.length < 9223372036854775808) (hS : l.length ≤ 40 → ∀ i, i < l.length → (tg l i).after.length < 9223372036854775808) : Calls Try.prog 21 #[.slice a l.length cap] w (RetNE (cL l) (oE l) w) := by
  unfold cL oE
  by_cases hv : VT l
  · rw [if_pos hv, if_pos hv]
    exact critical_yes l a cap w hT hl hS hv
  · rw [if_neg hv, if_neg hv]
    exact critical_not l a cap w hT hl hS hv
theorem order_any (l : List Tk) (a : Option Addr) (cap : Nat) (w : World) (hT : Tasks w a l) (hl : l.length < 9223372036854775808) (hS : l.length ≤ 40 → ∀ i, i < l.length → (tg l i).after.length < 9223372036854775808) : (Calls Try.prog 24 #[.slice a l.length cap] w (RetIE (oL l) (oE l) w)) ∧ (Calls Try.prog 34 #[.slice a l.length cap] w (RetIE (oL l) (oE l) w)) := by
  unfold oL oE
  by_cases hv : VT l
  · rw [if_pos hv, if_pos hv]
    exact ⟨order_at l _ a cap w hT hv rfl, rorder_at l _ a cap w hT hv rfl⟩
  · rw [if_neg hv, if_neg hv]
    exact order_no l a cap w hT hl hS hv
end Go.Proofs.Ytoblmecgnpoogaa

