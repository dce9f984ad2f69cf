
/- Contracts of package task: the reference's Critical. -/
import Derived.Test.YtoblmecgnpoogaaTaskJ
namespace Go.Proofs.Ytoblmecgnpoogaa
open Go.RowKit

theorem mx_snoc_le (f : Nat → Int) (a : List Int) : 0 ≤ mx f a ∧ (∀ x ∈ a, f x.toNat ≤ mx f a) ∧ ∀ b, 0 ≤ b → (∀ x ∈ a, f x.toNat ≤ b) → mx f a ≤ b := by
  have h : ∀ n (a : List Int), a.length = n → 0 ≤ mx f a ∧ (∀ x ∈ a, f x.toNat ≤ mx f a) ∧ ∀ b, 0 ≤ b → (∀ x ∈ a, f x.toNat ≤ b) → mx f a ≤ b := by
    intro n
    induction n with
    | zero =>
      intro a ha
      have : a = [] := List.length_eq_zero_iff.1 ha
      subst this
      exact ⟨by simp [mx], by simp, fun b hb _ => by simpa [mx] using hb⟩
    | succ n ih =>
      intro a ha
      have hne : a ≠ [] := by intro e; subst e; simp at ha
      have e := List.dropLast_concat_getLast hne
      obtain ⟨i1, i2, i3⟩ := ih a.dropLast (by simp; omega)
      rw [← e, mx_snoc]
      refine ⟨by omega, fun x hx => ?_, fun b hb hx => ?_⟩
      · rw [List.mem_append] at hx
        rcases hx with hx | hx
        · have := i2 x hx; omega
        · simp at hx; subst hx; omega
      · have h1 := i3 b hb fun x hx' => hx x (by rw [List.mem_append]; exact .inl hx')
        have h2 := hx (a.getLast hne) (by simp)
        omega
  exact h _ a rfl
theorem mx_same (f : Nat → Int) {a b : List Int} (h : ∀ x, x ∈ a ↔ x ∈ b) : mx f a = mx f b := by
  obtain ⟨a1, a2, a3⟩ := mx_snoc_le f a
  obtain ⟨b1, b2, b3⟩ := mx_snoc_le f b
  have h1 := a3 _ b1 fun x hx => b2 x ((h x).1 hx)
  have h2 := b3 _ a1 fun x hx => a2 x ((h x).2 hx)
  omega
/-- an order that is whole -/
def Whole (l : List Tk) (o : List Int) : Prop := o.length = l.length ∧ (∀ r, r < o.length → ∃ i : Nat, ig o r = i ∧ i < l.length ∧ ∀ q, q < (tg l i).after.length → ∃ s, s < r ∧ ig o s = ig (tg l i).after q) ∧
  (∀ i, i < l.length → ∃ r, r < o.length ∧ ig o r = i) ∧ o.Nodup
theorem order_whole {l : List Tk} (hv' : VT l) (h : ¬ (orderOf l).length < l.length) : Whole l (orderOf l) := by
  have hle := order_le hv'
  have hfull := (order_full hv').1 (by omega)
  obtain ⟨d, hd, ⟨h1, h2, h3, h4, h5⟩, hn⟩ := order_built hv'
  refine ⟨by omega, h2, fun i hi => ?_, h5⟩
  obtain ⟨x, hx⟩ := hfull i hi
  exact h3 i hi (done_of hd hn hx)
theorem Whole.crit {l : List Tk} {o : List Int} (h : Whole l o) : mx (hv l) o = crit l := by
  obtain ⟨h1, h2, h3, h4⟩ := h
  refine mx_same _ fun x => ⟨fun hx => ?_, fun hx => ?_⟩
  · obtain ⟨r, hr, rfl⟩ := List.getElem_of_mem hx
    obtain ⟨i, hi, hil, _⟩ := h2 r hr
    rw [ig_lt hr] at hi
    rw [hi]
    exact List.mem_map.2 ⟨i, by simpa using hil, rfl⟩
  · obtain ⟨i, hi, rfl⟩ := List.mem_map.1 hx
    obtain ⟨r, hr, he⟩ := h3 i (by simpa using hi)
    rw [← he]
    exact ig_mem hr
/-- ahead of the p-th of the order -/
def RI (l : List Tk) (o : List Int) (p : Nat) (en : List Int) : Prop := en.length = l.length ∧ (∀ j, 0 ≤ ig en j ∧ ig en j ≤ 1000 * p) ∧ ∀ r, r < p → HV l (ig o r).toNat (ig en (ig o r).toNat)
theorem RI.start (l : List Tk) (o : List Int) : RI l o 0 (List.replicate l.length 0) := by
  refine ⟨by simp, fun j => ?_, fun r hr => absurd hr (by omega)⟩
  have : ig (List.replicate l.length 0) j = 0 := by
    by_cases h : j < l.length
    · rw [ig_lt (by simpa using h)]; simp
    · simp [ig, List.getD, show l.length ≤ j by omega]
  omega
theorem RI.dep {l : List Tk} {o en : List Int} {p i q m : Nat} (hw : Whole l o) (h : RI l o p en) (hp : p < o.length) (hi : ig o p = i) (hq : q < (tg l i).after.length) (hm : ig (tg l i).after q = m) : ig en m = hv l m := by
  obtain ⟨i', hi', _, hd⟩ := hw.2.1 p hp
  have : i' = i := by omega
  subst this
  obtain ⟨s, hs, he⟩ := hd q hq
  have := h.2.2 s hs
  rw [he, hm] at this
  exact (hv_eq this).symm
theorem RI.step {l : List Tk} {o en : List Int} {p i : Nat} (hv' : VT l) (hw : Whole l o) (h : RI l o p en) (hp : p < o.length) (hi : ig o p = i) : RI l o (p + 1) (en.set i (mx (hv l) (tg l i).after + (tg l i).hours)) ∧ i < l.length ∧ hv l i = mx (hv l) (tg l i).after + (tg l i).hours ∧ 0 ≤ mx (hv l) (tg l i).after ∧ mx (hv l) (tg l i).after ≤ 1000 * p := by
  obtain ⟨i', hi', hil, hd⟩ := hw.2.1 p hp
  have : i' = i := by omega
  subst this
  have hl := h.1
  have hH : ∀ r, r < (tg l i').after.length → HV l (ig (tg l i').after r).toNat (hv l (ig (tg l i').after r).toNat) := fun r hr => by
    obtain ⟨s, hs, he⟩ := hd r hr
    have := h.2.2 s hs
    rw [he] at this
    exact hv_spec ⟨_, this⟩
  have hHV := HV.step hil hH
  have hb := mx_bound (f := hv l) (a := (tg l i').after) (b := 1000 * p) (by omega) (fun r hr => by
    have hn := good_in ((hv'.2 i' hil).2.2.2.2) hr
    obtain ⟨m, hm⟩ : ∃ m : Nat, ig (tg l i').after r = (m : Int) := ⟨(ig (tg l i').after r).toNat, by omega⟩
    have := h.dep hw hp hi hr hm
    rw [hm, Int.toNat_natCast, ← this]
    exact (h.2.1 m).2) _ (Nat.le_refl _)
  rw [List.take_length] at hb
  obtain ⟨v1, v2, _⟩ := hv'.2 i' hil
  refine ⟨⟨by simpa using hl, fun j => ?_, fun r hr => ?_⟩, hil, hv_eq hHV, hb.1, hb.2⟩
  · rw [ig_set (by omega)]
    obtain ⟨g1, g2⟩ := h.2.1 j
    split
    · omega
    · push_cast; omega
  · rw [ig_set (by omega)]
    by_cases hlt : r < p
    · have hne : i' ≠ (ig o r).toNat := fun e => by
        obtain ⟨k, hk, hkl, _⟩ := hw.2.1 r (by omega)
        have hnd := hw.2.2.2
        have h1 : o[r]'(by omega) = o[p] := by
          rw [← ig_lt, ← ig_lt, hk, hi]
          rw [hk] at e
          simp at e
          omega
        exact List.pairwise_iff_getElem.1 hnd r p (by omega) hp hlt h1
      rw [if_neg hne]
      exact h.2.2 r hlt
    · have : r = p := by omega
      subst this
      rw [hi, Int.toNat_natCast, if_pos rfl]
      exact hHV


