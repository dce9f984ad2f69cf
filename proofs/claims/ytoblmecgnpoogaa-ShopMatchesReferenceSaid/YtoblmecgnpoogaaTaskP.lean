
/- Contracts of package task: Undo. -/
import Derived.Test.YtoblmecgnpoogaaTaskO
import Derived.Test.YtoblmecgnpoogaaOwn2
namespace Go.Proofs.Ytoblmecgnpoogaa
open Go.RowKit

noncomputable def undE (l : List Tk) (d : List Bool) (one : Int) : Int :=
  if d.length ≠ l.length then 1 else if (orderOf l).length < l.length then 24 else if one < 0 ∨ l.length ≤ one then 2 else if clo l d = true ∧ bg d one.toNat = true then 0 else 5

theorem ordE_le {l : List Tk} (hv : VT l) : (ordL l).length ≤ 40 := by
  have := order_le hv
  have := hv.1
  unfold ordL
  split
  · simp
  · omega
theorem order_at (l : List Tk) (x : Int) (a : Option Addr) (cap : Nat) (w : World) (hT : Tasks w a l) (hv : VT l) (hx : ordE l = x) : Calls Try.prog 24 #[.slice a l.length cap] w (RetIE (ordL l) x w) := by
  have h40 := hv.1
  have := order_yes l a cap w hT (by omega) (fun _ i hi => by have := after_len hv hi; omega) hv
  rwa [hx] at this
theorem rorder_at (l : List Tk) (x : Int) (a : Option Addr) (cap : Nat) (w : World) (hT : Tasks w a l) (hv : VT l) (hx : ordE l = x) : Calls Try.prog 34 #[.slice a l.length cap] w (RetIE (ordL l) x w) := by
  have := rorder_yes l a cap w hT hv
  rwa [hx] at this
theorem valid_at (l : List Tk) (a : Option Addr) (cap : Nat) (w : World) (hT : Tasks w a l) (hv : VT l) : (Calls Try.prog 38 #[.slice a l.length cap] w (RetB (.bool true) w)) ∧ (Calls Try.prog 33 #[.slice a l.length cap] w (RetB (.bool true) w)) := by
  have h40 := hv.1
  exact ⟨valid_any l a cap true w hT (by omega) (fun _ i hi => by have := after_len hv hi; omega) (by simp [hv]), rvalid_any l a cap true w hT (by omega) (fun _ i hi => by have := after_len hv hi; omega) (by simp [hv])⟩

