
/- Package shop: plain facts for the laws. -/
import Derived.Test.YtoblmecgnpoogaaShpU
namespace Go.Proofs.Ytoblmecgnpoogaa
open Go.RowKit

section
variable {l : List Tk} {s : Sh} {st : List Int}
theorem late_iff {h : Int} {i : Nat} : (tg l i).after.any (late l st h) = false ↔ ∀ a ∈ (tg l i).after, endAt l st a.toNat ≤ h := by
  rw [List.any_eq_false]
  constructor
  · intro hh a ha
    have := hh a ha
    unfold late at this
    unfold endAt
    simpa using this
  · intro hh a ha
    have := hh a ha
    unfold endAt at this
    unfold late
    simpa using this
theorem ended_T1 (hv : VT l) {h : Int} {i : Nat} (hi : i < l.length) : EndedAt l st (T1 l) h i ↔ ∀ a ∈ (tg l i).after, endAt l st a.toNat ≤ h := by
  unfold EndedAt
  constructor
  · intro hh a ha
    exact (hh a ha).2
  · intro hh a ha
    exact ⟨T1_bg (after_ok hv hi ha), hh a ha⟩
/-- what Plan answers can begin so -/
theorem Greedy.chk (hv : VT l) (hs : VS s) (g : Greedy l s st) : chkP l s st := by
  refine ⟨hv, hs, ⟨g.len, fun n hn => ?_⟩, fun i hi => ⟨late_iff.2 ((ended_T1 hv hi).1 (g.own hi).1), (fitsU_iff hv).2 ⟨fun sk hsk h0 => ?_, ?_⟩⟩⟩
  · obtain ⟨k, hk, rfl⟩ := List.getElem_of_mem hn
    have := g.pos k (by rw [← g.len]; exact hk)
    rw [ig_lt hk] at this
    omega
  · obtain ⟨j, hj, hp⟩ := cntP_pos h0
    simp only [Bool.and_eq_true] at hp
    have e : (tg l j).skill.toNat = sk := of_decide_eq_true hp.2
    have hlt := g.skill hv hj
    rw [e] at hlt
    have := g.capS hv hs (ig st i) l.length sk hlt
    rw [cB_R] at this
    exact ⟨hlt, this⟩
  · have := g.capB hv hs (ig st i) l.length
    rw [cB_R] at this
    exact this
end
end Go.Proofs.Ytoblmecgnpoogaa
