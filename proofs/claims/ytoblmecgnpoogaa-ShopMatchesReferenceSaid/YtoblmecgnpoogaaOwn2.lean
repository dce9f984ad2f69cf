/- copy into a row of booleans of the call's own. -/
import Derived.Test.YtoblmecgnpoogaaOwn
import Derived.Laws.CopyOwn
namespace Go.Proofs.Ytoblmecgnpoogaa
open Go.RowKit

theorem OwnB.heap {w : World} {B g : Nat} {l : List Bool} (h : OwnB w B g l) : w.heap[g]? = some (.cells (l.map Value.bool).toArray 4 (0, 0)) := by
  rcases h.2 with ⟨h0, _⟩ | ⟨g1, cap, cur, hv, _, hg, _, _, hs, ht⟩
  · cases h0
  · cases hv
    have e : cur.toList = l.map Value.bool := by
      rw [← ht, List.take_of_length_le]
      rw [Array.length_toList, hs]
      omega
    rw [hg, ← e]
theorem OwnB.of {w : World} {B g : Nat} {l : List Bool} (hB : B ≤ g) (hl : l.length ≤ maxLen) (h : w.heap[g]? = some (.cells (l.map Value.bool).toArray 4 (0, 0))) : OwnB w B g l := by
  refine ⟨by simp, .inr ⟨g, l.length, _, rfl, hB, h, Nat.le_refl _, hl, by simp, ?_⟩⟩
  rw [List.take_of_length_le] <;> simp
/-- copy(out, done): all of it -/
theorem copy_bool (w : World) {ops : Array Oper} {rest : List Oper} {o : Oper} {a : Act} {Q : Exit → Act → World → Prop} (hgd : o.guard = none) (d s : Operand)
    (ho : o.op = .call { callee := .builtin .copy, args := #[d, s], argTypes := #[52, 52] }) (B g : Nat) (cur D : List Bool) (da : Option Addr) (n m dc : Nat) (hd : a.eval d = .slice (some ⟨g, 0, none⟩) n n) (hs : a.eval s = .slice da m dc) (hm : m = n)
    (hown : OwnB w B g cur) (hn : cur.length = n) (hlen : D.length = n) (hl : n ≤ 1000000) (hD : Bools w da D) (h : ∀ w', OwnB w' B g D → Below g w w' → wpList Try.prog ops Q rest (a.put o.dst (.int .i64 n)) w') : wpList Try.prog ops Q (o :: rest) a w := by
  subst hm
  have hgB := hown.lt.1
  refine wpList_copy_splice hgd d s 52 52 ho 4 Try.underlying52 ?_ _ _ _ _ _ _ hd hs g 0 (cur.map Value.bool) 4 hown.heap (D.map Value.bool) (by simp [hlen]) ?_ (by simp [hn, hlen]) (fun v hv => by obtain ⟨x, _, rfl⟩ := List.mem_map.1 hv; rfl) g w (Below.refl _ _) (Nat.le_refl _) ?_
  · obtain ⟨i0, hi, hz0, hz1, hz2⟩ := info_parts info_bool
    rw [hi]
    simp [hz1]
  · intro hp
    refine ⟨rfl, ?_⟩
    simp at hp
    obtain ⟨b, off, rfl, hc⟩ := hD.fam hp
    refine ⟨_, rfl, fun j v hv => ?_⟩
    rw [List.getElem?_map] at hv
    by_cases hj : j < D.length
    · have := hc j hj
      rw [List.getElem?_eq_getElem hj] at hv
      simp at hv
      rw [bg_lt hj] at this
      rw [← hv, ← this]
      unfold Addr.add
      by_cases h0 : j = 0
      · rw [if_pos h0, h0]; rfl
      · rw [if_neg h0]
    · rw [List.getElem?_eq_none (by omega)] at hv
      cases hv
  · intro w' h1 h2
    have e : splice (cur.map Value.bool) 0 (D.map Value.bool) = D.map Value.bool := by
      simp [splice, hn, hlen]
    have h3 := h1.out
    rw [e] at h3
    have := h w' (OwnB.of hgB (by unfold maxLen; omega) h3) h2
    simpa [goInt, hlen] using this

theorem least_ex {P : Nat → Prop} : (∃ k, P k) → ∃ k, P k ∧ ∀ j, P j → k ≤ j := by
  rintro ⟨k, hk⟩
  induction k using Nat.strongRecOn with
  | _ k ih =>
    by_cases h : ∃ j, j < k ∧ P j
    · obtain ⟨j, h1, h2⟩ := h
      exact ih j h1 h2
    · exact ⟨k, hk, fun j hj => Nat.le_of_not_lt fun hlt => h ⟨j, hlt, hj⟩⟩
/-- a scope with a label that is jumped back to: what holds there is counted down -/
theorem wp_scope_labelk {P : Program} {Q : Exit → Act → World → Prop} {a : Act} {w : World} {c rest : Code} (l : Nat) (J : Nat → Act → World → Prop) (hf : findLabel c l = some (Code.skip.seq rest))
    (pass : ∀ k a w, J k a w → rest.wp P (Exit.jump l (fun a' w' => ∃ k', k' < k ∧ J k' a' w') Q) a w)
    (first : (∀ k a w, J k a w → rest.wp P (Exit.jump l (fun a w => ∃ k, J k a w) Q) a w) → c.wp P (Exit.jump l (fun a w => ∃ k, J k a w) Q) a w) : (Code.scope c).wp P Q a w := by
  classical
  refine wp_scope_label l (fun a w => ∃ k, J k a w) (fun a w => if h : ∃ k, J k a w then Classical.choose (least_ex h) else 0) hf ?_ ?_
  · intro a w h
    have hs := Classical.choose_spec (least_ex h)
    refine Code.wp_mono (fun e a' w' q => ?_) (pass _ a w hs.1)
    cases e <;> first | exact q | skip
    obtain ⟨q1, k', hk, hJ⟩ := q
    have hx : ∃ k, J k a' w' := ⟨k', hJ⟩
    refine ⟨q1, hx, ?_⟩
    simp only [hx, h, dite_true]
    have := (Classical.choose_spec (least_ex hx)).2 k' hJ
    omega
  · intro h
    exact first fun k a w hJ => h a w ⟨k, hJ⟩
end Go.Proofs.Ytoblmecgnpoogaa

