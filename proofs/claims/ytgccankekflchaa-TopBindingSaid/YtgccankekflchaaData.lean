/- How lists lie in memory: slices of integers, of booleans; that they stay where nothing old is written. -/
import Derived.Test.YtgccankekflchaaBase
import Derived.CellFam
import Derived.Deep.LoopGhost
import Derived.Deep.RegionHeld3
namespace Go.Proofs.Ytgccankekflchaa
open Go.RowKit

def ig (l : List Int) (i : Nat) : Int := l.getD i 0
def bg (l : List Bool) (i : Nat) : Bool := l.getD i false
theorem ig_lt {l : List Int} {i : Nat} (h : i < l.length) : ig l i = l[i] := by simp [ig, List.getD, h]
theorem bg_lt {l : List Bool} {i : Nat} (h : i < l.length) : bg l i = l[i] := by simp [bg, List.getD, h]
theorem ig_mem {l : List Int} {i : Nat} (h : i < l.length) : ig l i ∈ l := by rw [ig_lt h]; exact List.getElem_mem h

/-- a slice whose first element lies at 'a' reads as these numbers -/
def Ints (w : World) (a : Option Addr) (l : List Int) : Prop := ∀ j, j < l.length → ∃ b off, a = some ⟨b, off, none⟩ ∧ w.cell? ⟨b, off + j, none⟩ = some (.int .i64 (ig l j))
def Bools (w : World) (a : Option Addr) (l : List Bool) : Prop := ∀ j, j < l.length → ∃ b off, a = some ⟨b, off, none⟩ ∧ w.cell? ⟨b, off + j, none⟩ = some (.bool (bg l j))

theorem Ints.later {w w1 : World} {a : Option Addr} {l : List Int} (h : Ints w a l) (hb : Below w.heap.size w w1) : Ints w1 a l := fun j hj => by
  obtain ⟨b, off, ha, hc⟩ := h j hj
  exact ⟨b, off, ha, cell_later hb hc⟩
theorem Bools.later {w w1 : World} {a : Option Addr} {l : List Bool} (h : Bools w a l) (hb : Below w.heap.size w w1) : Bools w1 a l := fun j hj => by
  obtain ⟨b, off, ha, hc⟩ := h j hj
  exact ⟨b, off, ha, cell_later hb hc⟩
theorem Ints.fam {w : World} {a : Option Addr} {l : List Int} (h : Ints w a l) (hl : 0 < l.length) : ∃ b off, a = some ⟨b, off, none⟩ ∧ ∀ j, j < l.length → w.cell? ⟨b, off + j, none⟩ = some (.int .i64 (ig l j)) := by
  obtain ⟨b, off, ha, _⟩ := h 0 hl
  refine ⟨b, off, ha, fun j hj => ?_⟩
  obtain ⟨b', off', ha', hc⟩ := h j hj
  rw [ha] at ha'
  cases ha'
  exact hc
theorem Bools.fam {w : World} {a : Option Addr} {l : List Bool} (h : Bools w a l) (hl : 0 < l.length) : ∃ b off, a = some ⟨b, off, none⟩ ∧ ∀ j, j < l.length → w.cell? ⟨b, off + j, none⟩ = some (.bool (bg l j)) := by
  obtain ⟨b, off, ha, _⟩ := h 0 hl
  refine ⟨b, off, ha, fun j hj => ?_⟩
  obtain ⟨b', off', ha', hc⟩ := h j hj
  rw [ha] at ha'
  cases ha'
  exact hc
theorem Ints.nil (w : World) (a : Option Addr) : Ints w a [] := fun j hj => absurd hj (by simp)
theorem Bools.nil (w : World) (a : Option Addr) : Bools w a [] := fun j hj => absurd hj (by simp)
theorem Ints.drew {w : World} {a : Option Addr} {l : List Int} (h : Ints w a l) : Ints w.drew a l := h
theorem Bools.drew {w : World} {a : Option Addr} {l : List Bool} (h : Bools w a l) : Bools w.drew a l := h
end Go.Proofs.Ytgccankekflchaa

