/- Plain facts on the search for the longest way: states fresh 0, open 1, finished 2; no program in sight. -/
import Derived.Test.YtoblmecgnpoogaaTaskM
namespace Go.Proofs.Ytoblmecgnpoogaa
open Go.RowKit

open Classical in
/-- the hours that a task takes at least with all that it needs, or 0 -/
noncomputable def hv (l : List Tk) (k : Nat) : Int := if h : ∃ x, HV l k x then Classical.choose h else 0
theorem hv_spec {l : List Tk} {k : Nat} (h : ∃ x, HV l k x) : HV l k (hv l k) := by
  unfold hv
  rw [dif_pos h]
  exact Classical.choose_spec h
theorem hv_eq {l : List Tk} {k : Nat} {x : Int} (h : HV l k x) : hv l k = x := (hv_spec ⟨x, h⟩).uniq h
theorem HV.step {l : List Tk} {i : Nat} (hi : i < l.length) (h : ∀ r, r < (tg l i).after.length → HV l (ig (tg l i).after r).toNat (hv l (ig (tg l i).after r).toNat)) : HV l i (mx (hv l) (tg l i).after + (tg l i).hours) := HV.of hi h

/-- what the search holds -/
def MI (l : List Tk) (st en : List Int) : Prop := st.length = l.length ∧ en.length = l.length ∧ ∀ i, i < l.length → 0 ≤ ig en i ∧ ig en i ≤ 1000 * (st.count 2 : Int) ∧ (ig st i = 0 ∧ ig en i = 0 ∨ ig st i = 1 ∨ ig st i = 2 ∧ HV l i (ig en i))
/-- what a search leaves of what it found -/
def Ext (st en st' en' : List Int) : Prop := (∀ j, ig st j ≠ 0 → ig st' j = ig st j ∧ ig en' j = ig en j) ∧ (∀ j, ig st' j = 1 → ig st j = 1) ∧ st'.count 0 ≤ st.count 0
theorem Ext.refl (st en : List Int) : Ext st en st en := ⟨fun _ _ => ⟨rfl, rfl⟩, fun _ h => h, Nat.le_refl _⟩
theorem Ext.trans {a b a' b' a'' b'' : List Int} (h : Ext a b a' b') (h' : Ext a' b' a'' b'') : Ext a b a'' b'' := by
  refine ⟨fun j hj => ?_, fun j hj => h.2.1 j (h'.2.1 j hj), Nat.le_trans h'.2.2 h.2.2⟩
  obtain ⟨e1, e2⟩ := h.1 j hj
  obtain ⟨e3, e4⟩ := h'.1 j (by rw [e1]; exact hj)
  exact ⟨e3.trans e1, e4.trans e2⟩

theorem MI.start (l : List Tk) : MI l (List.replicate l.length 0) (List.replicate l.length 0) := by
  refine ⟨by simp, by simp, fun i hi => ?_⟩
  have e : ig (List.replicate l.length 0) i = 0 := by rw [ig_lt (by simpa using hi)]; simp
  rw [e]
  exact ⟨by omega, by omega, .inl ⟨rfl, rfl⟩⟩
theorem count_put {st : List Int} {i : Nat} {x y : Int} (hi : i < st.length) (h : ig st i = x) (z : Int) : (st.set i y).count z + (if x = z then 1 else 0) = st.count z + (if y = z then 1 else 0) := by
  rw [List.count_set hi]
  rw [ig_lt hi] at h
  rw [h]
  have hp : x = z → 0 < st.count z := fun e => List.count_pos_iff.2 (by rw [← e, ← h]; exact List.getElem_mem hi)
  by_cases e : x = z <;> by_cases e' : y = z <;> simp [e, e']
  · have := hp e; omega
  · have := hp e; omega
theorem MI.opened {l : List Tk} {st en : List Int} (h : MI l st en) {i : Nat} (hi : i < l.length) (h0 : ig st i = 0) : MI l (st.set i 1) en ∧ (st.set i 1).count 0 + 1 = st.count 0 := by
  obtain ⟨h1, h2, h3⟩ := h
  have c0 := count_put (st := st) (i := i) (y := 1) (by omega) h0 0
  have c2 := count_put (st := st) (i := i) (y := 1) (by omega) h0 2
  simp at c0 c2
  refine ⟨⟨by simpa using h1, h2, fun j hj => ?_⟩, c0⟩
  rw [c2, ig_set (by omega)]
  obtain ⟨g1, g2, g3⟩ := h3 j hj
  refine ⟨g1, g2, ?_⟩
  by_cases e : i = j
  · rw [if_pos e]; exact .inr (.inl rfl)
  · rw [if_neg e]; exact g3
theorem MI.grow {l : List Tk} {st en : List Int} (h : MI l st en) {i k : Nat} (hi : i < l.length) (hk : k < l.length) (h0 : ig st i = 1) : MI l st (en.set i (max (ig en i) (ig en k))) := by
  obtain ⟨h1, h2, h3⟩ := h
  refine ⟨h1, by simpa using h2, fun j hj => ?_⟩
  rw [ig_set (by omega)]
  obtain ⟨g1, g2, g3⟩ := h3 j hj
  by_cases e : i = j
  · subst e
    obtain ⟨k1, k2, _⟩ := h3 k hk
    rw [if_pos rfl]
    exact ⟨by omega, by omega, .inr (.inl h0)⟩
  · rw [if_neg e]; exact ⟨g1, g2, g3⟩
theorem MI.closed {l : List Tk} (hv' : VT l) {st en : List Int} (h : MI l st en) {i : Nat} (hi : i < l.length) (h0 : ig st i = 1) (hall : ∀ r, r < (tg l i).after.length → ig st (ig (tg l i).after r).toNat = 2) (he : ig en i = mx (hv l) (tg l i).after) :
    MI l (st.set i 2) (en.set i (ig en i + (tg l i).hours)) := by
  obtain ⟨h1, h2, h3⟩ := h
  have c2 := count_put (st := st) (i := i) (y := 2) (by omega) h0 2
  simp at c2
  obtain ⟨hh1, hh2, _⟩ := hv'.2 i hi
  refine ⟨by simpa using h1, by simpa using h2, fun j hj => ?_⟩
  rw [c2, ig_set (by omega), ig_set (by omega)]
  obtain ⟨g1, g2, g3⟩ := h3 j hj
  by_cases e : i = j
  · subst e
    rw [if_pos rfl, if_pos rfl]
    refine ⟨by omega, by push_cast; omega, .inr (.inr ⟨rfl, ?_⟩)⟩
    rw [he]
    refine HV.step hi fun r hr => ?_
    have hn := good_in ((hv'.2 i hi).2.2.2.2) hr
    obtain ⟨_, _, g⟩ := h3 (ig (tg l i).after r).toNat (by omega)
    have := hall r hr
    rcases g with g | g | g
    · omega
    · omega
    · exact hv_spec ⟨_, g.2⟩
  · rw [if_neg e, if_neg e]; exact ⟨g1, by push_cast; omega, g3⟩
/-- the critical hours -/
noncomputable def crit (l : List Tk) : Int := mx (hv l) ((List.range l.length).map (fun n : Nat => (n : Int)))
/-- the greatest of numbers and 0 -/
def most (en : List Int) : Int := en.foldl max 0
theorem foldl_max (f : Nat → Int) : ∀ (a : List Int) (m : Int), a.foldl (fun m k => max m (f k.toNat)) m = (a.map fun k => f k.toNat).foldl max m
  | [], _ => rfl
  | x :: a, m => by simp only [List.foldl_cons, List.map_cons]; exact foldl_max f a _
theorem mx_map (f : Nat → Int) (a : List Int) : mx f a = most (a.map fun k => f k.toNat) := foldl_max f a 0
theorem crit_eq {l : List Tk} {en : List Int} (he : en.length = l.length) (h : ∀ i, i < l.length → HV l i (ig en i)) : most en = crit l := by
  unfold crit
  rw [mx_map, List.map_map]
  congr 1
  apply List.ext_getElem
  · simp [he]
  · intro i h1 h2
    have := hv_eq (h i (by omega))
    rw [ig_lt h1] at this
    simp [this]
end Go.Proofs.Ytoblmecgnpoogaa

