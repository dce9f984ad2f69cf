

/- Contracts of package judge: valid. -/
import Derived.Test.YtgjkcnfinjenoaaJdgP
import Derived.Test.YtgjkcnfinjenoaaFlowS
import Derived.Test.YtgjkcnfinjenoaaProg
namespace Go.Proofs.Ytgjkcnfinjenoaa
open Go.RowKit

/-- a slice of slices of numbers -/
def Rows2 (w : World) (a : Option Addr) (ll : List (List Int)) : Prop := ∀ i, i < ll.length → ∃ b off ra rc, a = some ⟨b, off, none⟩ ∧ w.cell? ⟨b, off + i, none⟩ = some (.slice ra (ll.getD i []).length rc) ∧ Ints w ra (ll.getD i [])
theorem Rows2.later {w w1 : World} {a : Option Addr} {ll : List (List Int)} (h : Rows2 w a ll) (hb : Below w.heap.size w w1) : Rows2 w1 a ll := fun i hi => by
  obtain ⟨b, off, ra, rc, ha, hc, hI⟩ := h i hi
  exact ⟨b, off, ra, rc, ha, cell_later hb hc, hI.later hb⟩
abbrev gmV (g : Gm) (sa : Option Addr) (sc : Nat) (da : Option Addr) (dc : Nat) : Value := .agg #[.slice sa g.starts.length sc, .slice da g.deps.length dc, .int .i64 g.budget]
structure GmAt (w : World) (g : Gm) (sa da : Option Addr) : Prop where
  s : Ints w sa g.starts
  d : Rows2 w da g.deps
theorem GmAt.later {w w1 : World} {g : Gm} {sa da : Option Addr} (h : GmAt w g sa da) (hb : Below w.heap.size w w1) : GmAt w1 g sa da := ⟨h.s.later hb, h.d.later hb⟩
/-- of a moderate size -/
structure GmFew (g : Gm) : Prop where
  s : g.starts.length ≤ 1000
  d : g.deps.length ≤ 1000
  r : ∀ i, i < g.deps.length → (dg g i).length ≤ 1000
noncomputable def vgB (g : Gm) : Bool := @decide (VG g) (Classical.propDecidable _)
theorem vgB_true {g : Gm} (h : VG g) : vgB g = true := @decide_eq_true _ (Classical.propDecidable _) h
theorem vgB_false {g : Gm} (h : ¬ VG g) : vgB g = false := @decide_eq_false _ (Classical.propDecidable _) h

def odd12 (n : Int) : Bool := decide (n < 0) || decide (12 < n)
def firstOdd (l : List Int) : Int := match l.findIdx? odd12 with | some i => (i : Int) | none => -1
theorem firstOdd_at {l : List Int} {i : Nat} (hi : i < l.length) (h : ∀ j, j < i → odd12 (ig l j) = false) (h' : odd12 (ig l i) = true) : firstOdd l = i := by
  unfold firstOdd
  have : l.findIdx? odd12 = some i := by
    rw [List.findIdx?_eq_some_iff_getElem]
    refine ⟨hi, by rw [← ig_lt hi]; exact h', fun j hj => ?_⟩
    rw [← ig_lt (by omega)]
    simp [h j hj]
  rw [this]
theorem firstOdd_none {l : List Int} (h : ∀ j, j < l.length → odd12 (ig l j) = false) : firstOdd l = -1 := by
  unfold firstOdd
  have : l.findIdx? odd12 = none := by
    rw [List.findIdx?_eq_none_iff]
    intro x hx
    obtain ⟨j, hj, rfl⟩ := List.getElem_of_mem hx
    rw [← ig_lt hj]
    exact h j hj
  rw [this]
theorem firstOdd_any (l : List Int) : decide ((0 : Int) ≤ firstOdd l) = l.any odd12 := by
  unfold firstOdd
  cases h : l.findIdx? odd12 with
  | none =>
    have : l.any odd12 = false := by
      rw [List.findIdx?_eq_none_iff] at h
      rw [List.any_eq_false]
      intro x hx
      simp [h x hx]
    rw [this]
    rfl
  | some i =>
    have : l.any odd12 = true := by
      rw [List.findIdx?_eq_some_iff_getElem] at h
      obtain ⟨hi, h1, _⟩ := h
      exact List.any_eq_true.2 ⟨l[i], List.getElem_mem hi, h1⟩
    rw [this]
    simp

