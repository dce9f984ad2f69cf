

/- Contracts of package judge: valid. -/
import Derived.Test.YtgccankekflchaaJdgP
import Derived.Test.YtgccankekflchaaFlowS
import Derived.Test.YtgccankekflchaaProg
namespace Go.Proofs.Ytgccankekflchaa
open Go.RowKit

/-- a slice of slices of numbers -/
def Rows2 (w : World) (a : Option Addr) (ll : List (List Int)) : Prop := ∀ i, i < ll.length → ∃ b off ra rc, a = some ⟨b, off, none⟩ ∧ w.cell? ⟨b, off + i, none⟩ = some (.slice ra (ll.getD i []).length rc) ∧ Ints w ra (ll.getD i [])
theorem Rows2.later {w w1 : World} {a : Option Addr} {ll : List (List Int)} (h : Rows2 w a ll) (hb : Below w.heap.size w w1) : Rows2 w1 a ll := fun i hi => by
  obtain ⟨b, off, ra, rc, ha, hc, hI⟩ := h i hi
  exact ⟨b, off, ra, rc, ha, cell_later hb hc, hI.later hb⟩
abbrev gmV (g : Gm) (sa : Option Addr) (sc : Nat) (da : Option Addr) (dc : Nat) : Value := .agg #[.slice sa g.starts.length sc, .slice da g.deps.length dc, .int .i64 g.budget]
structure GmAt (w : World) (g : Gm) (sa da : Option Addr) : Prop where
  s : Ints w sa g.starts
  d : Rows2 w da g.deps
theorem GmAt.later {w w1 : World} {g : Gm} {sa da : Option Addr} (h : GmAt w g sa da) (hb : Below w.heap.size w w1) : GmAt w1 g sa da := ⟨h.s.later hb, h.d.later hb⟩
/-- of a moderate size -/
structure GmFew (g : Gm) : Prop where
  s : g.starts.length ≤ 1000
  d : g.deps.length ≤ 1000
  r : ∀ i, i < g.deps.length → (dg g i).length ≤ 1000
noncomputable def vgB (g : Gm) : Bool := @decide (VG g) (Classical.propDecidable _)
theorem vgB_true {g : Gm} (h : VG g) : vgB g = true := @decide_eq_true _ (Classical.propDecidable _) h
theorem vgB_false {g : Gm} (h : ¬ VG g) : vgB g = false := @decide_eq_false _ (Classical.propDecidable _) h

def odd12 (n : Int) : Bool := decide (n < 0) || decide (12 < n)
theorem valid1_any (n : Int) (w : World) : Calls Try.prog 51 #[.int .i64 n] w (RetS (.bool (odd12 n)) w) := by
  go_enter Try.func51, Try.ntmps51
  go_wp2
  all_goals (go_ret; refine retS (vbool ?_); unfold odd12; first | (simp; done) | (simp; omega) | (rw [Bool.eq_iff_iff]; simp; omega))

def firstOdd (l : List Int) : Int := match l.findIdx? odd12 with | some i => (i : Int) | none => -1
theorem firstOdd_at {l : List Int} {i : Nat} (hi : i < l.length) (h : ∀ j, j < i → odd12 (ig l j) = false) (h' : odd12 (ig l i) = true) : firstOdd l = i := by
  unfold firstOdd
  have : l.findIdx? odd12 = some i := by
    rw [List.findIdx?_eq_some_iff_getElem]
    refine ⟨hi, by rw [← ig_lt hi]; exact h', fun j hj => ?_⟩
    rw [← ig_lt (by omega)]
    simp [h j hj]
  rw [this]
theorem firstOdd_none {l : List Int} (h : ∀ j, j < l.length → odd12 (ig l j) = false) : firstOdd l = -1 := by
  unfold firstOdd
  have : l.findIdx? odd12 = none := by
    rw [List.findIdx?_eq_none_iff]
    intro x hx
    obtain ⟨j, hj, rfl⟩ := List.getElem_of_mem hx
    rw [← ig_lt hj]
    exact h j hj
  rw [this]
set_option maxHeartbeats 1000000 in
theorem indexFunc_any (l : List Int) (a : Option Addr) (cap : Nat) (w : World) (hL : Ints w a l) (hl : l.length ≤ 1000) :
    Calls Try.prog 71 #[.slice a l.length cap, .func (.func 51) #[] #[]] w (RetS (.int .i64 (firstOdd l)) w) := by
  go_enter Try.func71, Try.ntmps71
  go_wp2
  go_loopg [8] (l.length + 1) (fun k v8 wr => ∃ q : Nat, q ≤ l.length ∧ k + q = l.length + 1 ∧ v8 = .int .i64 q ∧ w = wr ∧ ∀ r, r < q → odd12 (ig l r) = false)
  case atStart => exact ⟨0, by omega, by omega, rfl, rfl, fun r hr => absurd hr (by omega)⟩
  case round =>
    obtain ⟨q, hq, hk, rfl, rfl, hall⟩ := hrel
    have HA := Lib.hid hall
    clear hall
    by_cases hlt : q < l.length
    · obtain ⟨ab, aoff, rfl, fa⟩ := hL.fam (by omega)
      have hcq := fa q hlt
      clear fa
      cases hdm : odd12 (ig l q)
      · have HD := Lib.hid hdm
        clear hdm
        go_wp2_with fail
        refine Calls.mono (valid1_any _ _) ?_
        rintro e w1 ⟨rfl, rfl⟩
        rw [HD.out]
        go_wp2
        go_roundg (l.length - q)
        case measure => omega
        case rel => exact ⟨q + 1, by omega, by omega, by go_num, rfl, fun r hr => by
          rcases Nat.lt_succ_iff_lt_or_eq.1 hr with h | h
          · exact HA.out r h
          · subst h; exact HD.out⟩
      · have HD := Lib.hid hdm
        clear hdm
        go_wp2_with fail
        refine Calls.mono (valid1_any _ _) ?_
        rintro e w1 ⟨rfl, rfl⟩
        rw [HD.out]
        go_wp2
        go_ret
        exact retS (vint (firstOdd_at hlt HA.out HD.out).symm)
    · go_wp2
      go_ret
      exact retS (vint (firstOdd_none fun r hr => HA.out r (by omega)).symm)
theorem firstOdd_any (l : List Int) : decide ((0 : Int) ≤ firstOdd l) = l.any odd12 := by
  unfold firstOdd
  cases h : l.findIdx? odd12 with
  | none =>
    have : l.any odd12 = false := by
      rw [List.findIdx?_eq_none_iff] at h
      rw [List.any_eq_false]
      intro x hx
      simp [h x hx]
    rw [this]
    rfl
  | some i =>
    have : l.any odd12 = true := by
      rw [List.findIdx?_eq_some_iff_getElem] at h
      obtain ⟨hi, h1, _⟩ := h
      exact List.any_eq_true.2 ⟨l[i], List.getElem_mem hi, h1⟩
    rw [this]
    simp
theorem containsFunc_any (l : List Int) (a : Option Addr) (cap : Nat) (w : World) (hL : Ints w a l) (hl : l.length ≤ 1000) :
    Calls Try.prog 50 #[.slice a l.length cap, .func (.func 51) #[] #[]] w (RetS (.bool (l.any odd12)) w) := by
  go_enter Try.func50, Try.ntmps50
  go_wp2_with fail
  refine Calls.mono (indexFunc_any l a cap _ hL hl) ?_
  rintro e w1 ⟨rfl, rfl⟩
  go_wp2
  go_ret
  exact retS (vbool (firstOdd_any l))
end Go.Proofs.Ytgccankekflchaa

