/- Which task needs which, by way of more and more tasks between; rows of booleans of the call's own. -/
import Derived.Test.YtidbmllelnffdaaTaskJ
namespace Go.Proofs.Ytidbmllelnffdaa
open Go.RowKit

/-- i leads to k by way of tasks below n -/
def Wr (l : List Tk) : Nat → Nat → Nat → Prop
  | 0, i, k => Dep l i k
  | n + 1, i, k => Wr l n i k ∨ Wr l n i n ∧ Wr l n n k
theorem Wr.toLast {l : List Tk} {n i : Nat} (h : Wr l (n + 1) i n) : Wr l n i n := by
  rcases h with h | h
  · exact h
  · exact h.1
theorem Wr.ofLast {l : List Tk} {n k : Nat} (h : Wr l (n + 1) n k) : Wr l n n k := by
  rcases h with h | h
  · exact h
  · exact h.2
theorem Wr.trans {l : List Tk} : ∀ (n i j k : Nat), j < n → Wr l n i j → Wr l n j k → Wr l n i k
  | 0, _, _, _, h, _, _ => absurd h (by omega)
  | n + 1, i, j, k, hj, h1, h2 => by
    by_cases e : j = n
    · subst e
      exact .inr ⟨h1.toLast, h2.ofLast⟩
    · have hj' : j < n := by omega
      rcases h1 with h1 | ⟨h1, h1'⟩ <;> rcases h2 with h2 | ⟨h2, h2'⟩
      · exact .inl (Wr.trans n i j k hj' h1 h2)
      · exact .inr ⟨Wr.trans n i j n hj' h1 h2, h2'⟩
      · exact .inr ⟨h1, Wr.trans n n j k hj' h1' h2⟩
      · exact .inr ⟨h1, h2'⟩
theorem Wr.of_dep {l : List Tk} {i k : Nat} (h : Dep l i k) : ∀ n, Wr l n i k
  | 0 => h
  | n + 1 => .inl (Wr.of_dep h n)
theorem Dep.lt2 {l : List Tk} (hv' : VT l) {i k : Nat} (h : Dep l i k) : k < l.length := by
  have hi := h.lt
  obtain ⟨r, hr, rfl⟩ := h
  have := good_in ((hv'.2 i hi).2.2.2.2) hr
  omega
theorem Need.wr {l : List Tk} (hv' : VT l) {i k : Nat} (h : Need l i k) : Wr l l.length i k := by
  induction h with
  | one h => exact Wr.of_dep h _
  | more h _ ih => exact Wr.trans _ _ _ _ (h.lt2 hv') (Wr.of_dep h _) ih
/-- entry k of row i -/
def mg (M : Nat → List Bool) (i k : Nat) : Bool := bg (M i) k
def mset (M : Nat → List Bool) (i k : Nat) (x : Bool) : Nat → List Bool := fun j => if j = i then (M i).set k x else M j
def Sq (n : Nat) (M : Nat → List Bool) : Prop := ∀ i, i < n → (M i).length = n
theorem Sq.set {n : Nat} {M : Nat → List Bool} (h : Sq n M) (i k : Nat) (x : Bool) : Sq n (mset M i k x) := fun j hj => by
  unfold mset
  by_cases e : j = i
  · subst e; rw [if_pos rfl, List.length_set]; exact h j hj
  · rw [if_neg e]; exact h j hj
theorem mg_set {n : Nat} {M : Nat → List Bool} (h : Sq n M) {i k : Nat} (hi : i < n) (hk : k < n) (x : Bool) (i' k' : Nat) : mg (mset M i k x) i' k' = if i' = i ∧ k' = k then x else mg M i' k' := by
  unfold mg mset
  by_cases e : i' = i
  · subst e
    rw [if_pos rfl, bg_set (by rw [h i' hi]; exact hk)]
    by_cases e' : k = k'
    · subst e'; simp
    · rw [if_neg e', if_neg (fun h => e' h.2.symm)]
  · rw [if_neg e, if_neg (fun h => e h.1)]

/-- while the ways through task p are laid: as far as row i, column k -/
def FS (l : List Tk) (p i k : Nat) (M : Nat → List Bool) : Prop := Sq l.length M ∧ (∀ i' k', i' < l.length → k' < l.length → mg M i' k' = true → Need l i' k') ∧
  (∀ i' k', i' < l.length → k' < l.length → Wr l p i' k' → mg M i' k' = true) ∧ ∀ i' k', (i' < i ∨ i' = i ∧ k' < k) → i' < l.length → k' < l.length → Wr l (p + 1) i' k' → mg M i' k' = true
def FP (l : List Tk) (p : Nat) (M : Nat → List Bool) : Prop := FS l p 0 0 M
theorem FP.start {l : List Tk} {M : Nat → List Bool} (h : Sq l.length M) (hd : ∀ i k, i < l.length → k < l.length → (mg M i k = true ↔ Dep l i k)) : FP l 0 M :=
  ⟨h, fun i k hi hk hm => .one ((hd i k hi hk).1 hm), fun i k hi hk hw => (hd i k hi hk).2 hw, fun i' k' h => by omega⟩
theorem FS.row {l : List Tk} {p i k : Nat} {M : Nat → List Bool} (h : FS l p i k M) (hk : l.length ≤ k) : FS l p (i + 1) 0 M := by
  obtain ⟨h1, h2, h3, h4⟩ := h
  refine ⟨h1, h2, h3, fun i' k' hik hi hk' hw => ?_⟩
  rcases hik with h | ⟨_, h⟩
  · by_cases e : i' = i
    · exact h4 i' k' (.inr ⟨e, by omega⟩) hi hk' hw
    · exact h4 i' k' (.inl (by omega)) hi hk' hw
  · omega
theorem FS.phase {l : List Tk} {p i : Nat} {M : Nat → List Bool} (h : FS l p i 0 M) (hi : l.length ≤ i) : FP l (p + 1) M := by
  obtain ⟨h1, h2, h3, h4⟩ := h
  exact ⟨h1, h2, fun i' k' hi' hk' hw => h4 i' k' (.inl (by omega)) hi' hk' hw, fun i' k' h => by omega⟩
theorem FS.step {l : List Tk} {p i k : Nat} {M : Nat → List Bool} {x : Bool} (h : FS l p i k M) (hp : p < l.length) (hi : i < l.length) (hk : k < l.length) (hx : x = (mg M i k || mg M i p && mg M p k)) : FS l p i (k + 1) (mset M i k x) := by
  obtain ⟨h1, h2, h3, h4⟩ := h
  have hg := mg_set h1 hi hk x
  refine ⟨h1.set i k x, fun i' k' hi' hk' hm => ?_, fun i' k' hi' hk' hw => ?_, fun i' k' hik hi' hk' hw => ?_⟩
  · rw [hg] at hm
    split at hm
    · rename_i e
      obtain ⟨rfl, rfl⟩ := e
      rw [hx] at hm
      rcases Bool.or_eq_true_iff.1 hm with hm | hm
      · exact h2 _ _ hi' hk' hm
      · obtain ⟨ha, hb⟩ := Bool.and_eq_true_iff.1 hm
        exact (h2 _ _ hi' hp ha).trans (h2 _ _ hp hk' hb)
    · exact h2 _ _ hi' hk' hm
  · rw [hg]
    split
    · rename_i e
      obtain ⟨rfl, rfl⟩ := e
      rw [hx, h3 _ _ hi' hk' hw]
      rfl
    · exact h3 _ _ hi' hk' hw
  · rw [hg]
    split
    · rename_i e
      obtain ⟨rfl, rfl⟩ := e
      rw [hx]
      rcases hw with hw | ⟨ha, hb⟩
      · rw [h3 _ _ hi' hk' hw]; rfl
      · rw [h3 _ _ hi' hp ha, h3 _ _ hp hk' hb]; simp
    · rename_i e
      refine h4 i' k' ?_ hi' hk' hw
      rcases hik with h | ⟨h, h'⟩
      · exact .inl h
      · exact .inr ⟨h, by
          by_cases e' : k' = k
          · exact absurd ⟨h, e'⟩ e
          · omega⟩
open Classical in
/-- which tasks task i needs -/
noncomputable def nd (l : List Tk) (i : Nat) : List Bool := (List.range l.length).map fun k => decide (Need l i k)
theorem nd_len (l : List Tk) (i : Nat) : (nd l i).length = l.length := by simp [nd]
open Classical in
theorem bg_nd {l : List Tk} (i : Nat) {k : Nat} (hk : k < l.length) : bg (nd l i) k = decide (Need l i k) := by
  rw [bg_lt (by rw [nd_len]; exact hk)]
  simp [nd]
open Classical in
theorem FP.done {l : List Tk} (hv' : VT l) {M : Nat → List Bool} (h : FP l l.length M) {i : Nat} (hi : i < l.length) : M i = nd l i := by
  obtain ⟨h1, h2, h3, h4⟩ := h
  refine bools_ext (by rw [nd_len, h1 i hi]) fun k hk => ?_
  have hk' : k < l.length := by rw [h1 i hi] at hk; exact hk
  rw [bg_nd i hk']
  change mg M i k = _
  cases hb : mg M i k
  · symm
    rw [decide_eq_false_iff_not]
    intro hn
    rw [h3 i k hi hk' (hn.wr hv')] at hb
    cases hb
  · symm
    rw [decide_eq_true_iff]
    exact h2 i k hi hk' hb
end Go.Proofs.Ytidbmllelnffdaa
