
/- Contracts of package task and its reference: Ready; Order where the tasks are not valid. -/
import Derived.Test.YtoblmecgnpoogaaTaskE
namespace Go.Proofs.Ytoblmecgnpoogaa
open Go.RowKit

def RetI (l : List Int) (w : World) (e : Ending) (w' : World) : Prop := ∃ a cap, e = .returned (.slice a l.length cap) ∧ Ints w' a l ∧ Below w.heap.size w w'
/-- those below i that are ready -/
def col (l : List Tk) (d : List Bool) (i : Nat) : List Int := ((List.range i).filter (rdy l d)).map fun n : Nat => (n : Int)
theorem col_yes {l : List Tk} {d : List Bool} {i : Nat} (h : rdy l d i = true) : col l d (i + 1) = col l d i ++ [(i : Int)] := by
  simp [col, List.range_succ, List.filter_append, h]
theorem col_no {l : List Tk} {d : List Bool} {i : Nat} (h : rdy l d i = false) : col l d (i + 1) = col l d i := by
  simp [col, List.range_succ, List.filter_append, h]
theorem col_len (l : List Tk) (d : List Bool) (i : Nat) : (col l d i).length ≤ i := by
  have := List.length_filter_le (rdy l d) (List.range i)
  simp [col] at *
  exact this

theorem rready_at (l : List Tk) (d : List Bool) (i n m : Nat) (r : Bool) (a da : Option Addr) (cap dc : Nat) (w : World) (hT : Tasks w a l) (hD : Bools w da d) (hv : VT l) (hi : i < l.length) (hn : l.length = n) (hd : d.length = m) (hm : m = n) (hr : rdy l d i = r) :
    Calls Try.prog 51 #[.slice a n cap, .slice da m dc, .int .i64 i] w (RetS (.bool r) w) := by
  subst hn hd
  have h40 := hv.1
  have := rready_any l d i a da cap dc w hT hD (by omega) hi hm (by have := after_len hv hi; omega) (fun q hq => by have := after_in hv hi (d := d) hm q hq; rw [hm] at this; exact this)
  rwa [hr] at this

set_option maxRecDepth 100000 in
set_option maxHeartbeats 2000000 in
theorem order_no (l : List Tk) (a : Option Addr) (cap : Nat) (w : World) (hT : Tasks w a l) (hl : l.length < 9223372036854775808) (hS : l.length ≤ 40 → ∀ i, i < l.length → (tg l i).after.length < 9223372036854775808) (hv : ¬ VT l) :
    (Calls Try.prog 24 #[.slice a l.length cap] w (RetIE [] 1 w)) ∧ (Calls Try.prog 34 #[.slice a l.length cap] w (RetIE [] 1 w)) := by
  have HV := Lib.hid (show false = true ↔ VT l by simp [hv])
  have HS := Lib.hid hS
  clear hS hv
  constructor
  · go_enter Try.func24, Try.ntmps24
    go_wp2_with fail
    apply wp_scope_straight
    go_wp2_with fail
    refine Calls.mono (valid_any l a cap false _ hT hl HS.out HV.out) ?_
    rintro e w1 ⟨rfl, hb1⟩; have hs1 := hb1.size; (try simp at hs1)
    go_wp2_with fail
    rw [Exit.noGoto_ret]
    go_ret2
    exact ⟨none, 0, rfl, Ints.nil _ _, (by repeat (first | exact Below.refl _ _ | assumption | refine Below.drew ?_ | refine below_drewN ?_ _ | refine Below.alloc ?_ (by first | omega | (simp; done) | (simp; omega)) _ | refine Below.setCell ?_ (by first | omega | (simp; done) | (simp; omega)) _ | refine Below.trans ?_ (Below.mono (by assumption) (by first | omega | (simp; done) | (simp; omega)))))⟩
  · go_enter Try.func34, Try.ntmps34
    go_wp2_with fail
    refine Calls.mono (rvalid_any l a cap false _ hT hl HS.out HV.out) ?_
    rintro e w1 ⟨rfl, hb1⟩; have hs1 := hb1.size; (try simp at hs1)
    go_wp2_with fail
    go_ret2
    exact ⟨none, 0, rfl, Ints.nil _ _, (by repeat (first | exact Below.refl _ _ | assumption | refine Below.drew ?_ | refine below_drewN ?_ _ | refine Below.alloc ?_ (by first | omega | (simp; done) | (simp; omega)) _ | refine Below.setCell ?_ (by first | omega | (simp; done) | (simp; omega)) _ | refine Below.trans ?_ (Below.mono (by assumption) (by first | omega | (simp; done) | (simp; omega)))))⟩


