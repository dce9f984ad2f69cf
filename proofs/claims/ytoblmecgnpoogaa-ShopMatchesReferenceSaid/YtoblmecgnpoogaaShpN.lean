
/- Package shop: the tasks that end at an hour, and their release, in plain Lean. -/
import Derived.Test.YtoblmecgnpoogaaShpL
namespace Go.Proofs.Ytoblmecgnpoogaa
open Go.RowKit

/-- G y: those that run and end at y -/
structure EnL (l : List Tk) (st : List Int) (be dn : List Bool) (G : Int → List Int) : Prop where
  mem : ∀ y x, x ∈ G y ↔ ∃ k : Nat, x = k ∧ k < l.length ∧ runB be dn k = true ∧ endAt l st k = y
  nd : ∀ y, (G y).Nodup
section
variable {l : List Tk} {s : Sh} {hour : Int} {i : Nat} {st : List Int} {be dn : List Bool} {hs : List Int} {G : Int → List Int}
theorem EnL.at (h : EnL l st be dn G) (y : Int) {r : Nat} (hr : r < (G y).length) : ∃ k : Nat, ig (G y) r = k ∧ k < l.length ∧ runB be dn k = true ∧ endAt l st k = y :=
  (h.mem y _).1 (ig_mem hr)
theorem EnL.apart (h : EnL l st be dn G) (y : Int) {r r' : Nat} (hr : r < (G y).length) (hr' : r' < (G y).length) (hne : r ≠ r') : ig (G y) r ≠ ig (G y) r' := by
  rw [ig_lt hr, ig_lt hr']
  have := List.pairwise_iff_getElem.1 (h.nd y)
  rcases Nat.lt_or_gt_of_ne hne with hlt | hlt
  · exact this r r' hr hr' hlt
  · exact fun e => this r' r hr' hr hlt e.symm
def relD (dn : List Bool) (L : List Int) : Nat → List Bool
  | 0 => dn
  | j + 1 => (relD dn L j).set (ig L j).toNat true
theorem relD_len (dn : List Bool) (L : List Int) : ∀ j, (relD dn L j).length = dn.length
  | 0 => rfl
  | j + 1 => by unfold relD; rw [List.length_set, relD_len dn L j]
theorem relD_bg (h : EnL l st be dn G) (hd : dn.length = l.length) (y : Int) (k : Nat) : ∀ j, j ≤ (G y).length → (bg (relD dn (G y) j) k = true ↔ bg dn k = true ∨ ∃ r, r < j ∧ ig (G y) r = (k : Int))
  | 0, _ => by
    unfold relD
    constructor
    · exact .inl
    · rintro (h | ⟨r, hr, _⟩)
      · exact h
      · omega
  | j + 1, hj => by
    have ih := relD_bg h hd y k j (by omega)
    obtain ⟨m, hm, hml, _, _⟩ := h.at y (r := j) (by omega)
    unfold relD
    rw [bg_setN (by rw [relD_len, hd, hm, Int.toNat_natCast]; exact hml), hm, Int.toNat_natCast]
    by_cases e : m = k
    · subst e
      rw [if_pos rfl]
      exact ⟨fun _ => .inr ⟨j, by omega, hm⟩, fun _ => rfl⟩
    · rw [if_neg e, ih]
      constructor
      · rintro (h | ⟨r, hr, e2⟩)
        · exact .inl h
        · exact .inr ⟨r, by omega, e2⟩
      · rintro (h | ⟨r, hr, e2⟩)
        · exact .inl h
        · rcases Nat.lt_succ_iff_lt_or_eq.1 hr with h3 | h3
          · exact .inr ⟨r, h3, e2⟩
          · subst h3
            rw [hm] at e2
            exact absurd (by omega) e
/-- one release -/
theorem relD_step (hv : VT l) (h : EnL l st be dn G) (hd : dn.length = l.length) (y : Int) {j : Nat} (hj : j < (G y).length) : ∃ m : Nat, ig (G y) j = m ∧ m < l.length ∧ relD dn (G y) (j + 1) = (relD dn (G y) j).set m true ∧
    loadP l (runB be (relD dn (G y) (j + 1))) l.length = addL (loadP l (runB be (relD dn (G y) j)) l.length) (tg l m).skill.toNat (tg l m).bay (-1) := by
  obtain ⟨m, hm, hml, hr, _⟩ := h.at y hj
  have e : relD dn (G y) (j + 1) = (relD dn (G y) j).set m true := by show (relD dn (G y) j).set (ig (G y) j).toNat true = _; rw [hm, Int.toNat_natCast]
  refine ⟨m, hm, hml, e, ?_⟩
  unfold runB at hr
  rw [Bool.and_eq_true, Bool.not_eq_true'] at hr
  have h0 : bg (relD dn (G y) j) m = false := by
    cases hb : bg (relD dn (G y) j) m
    · rfl
    · rcases (relD_bg h hd y m j (by omega)).1 hb with h1 | ⟨r, hr1, h1⟩
      · rw [hr.2] at h1; cases h1
      · exact absurd (h1.trans hm.symm) (h.apart y (by omega) hj (by omega))
  have hset : ∀ k, bg (relD dn (G y) (j + 1)) k = if m = k then true else bg (relD dn (G y) j) k := fun k => by
    rw [e]
    exact bg_setN (by rw [relD_len, hd]; exact hml)
  refine loadP_sub hv hml (Nat.le_refl _) ?_ ?_ fun k _ hk => ?_
  · unfold runB
    rw [hset, if_pos rfl]
    simp
  · unfold runB
    rw [h0, hr.1]
    rfl
  · unfold runB
    rw [hset, if_neg (fun e' => hk e'.symm)]
/-- all of them released -/
theorem relD_all (h : EnL l st be dn G) (hd : dn.length = l.length) (y : Int) (k : Nat) (hk : k < l.length) : bg (relD dn (G y) (G y).length) k = (bg dn k || (runB be dn k && decide (endAt l st k = y))) := by
  have hi := relD_bg h hd y k _ (Nat.le_refl _)
  have hx : (bg dn k || (runB be dn k && decide (endAt l st k = y))) = true ↔ bg dn k = true ∨ ∃ r, r < (G y).length ∧ ig (G y) r = (k : Int) := by
    rw [Bool.or_eq_true, Bool.and_eq_true, decide_eq_true_eq]
    constructor
    · rintro (h1 | ⟨h1, h2⟩)
      · exact .inl h1
      · have : (k : Int) ∈ G y := (h.mem y _).2 ⟨k, rfl, hk, h1, h2⟩
        obtain ⟨r, hr, e⟩ := List.getElem_of_mem this
        exact .inr ⟨r, hr, by rw [ig_lt hr]; exact e⟩
    · rintro (h1 | ⟨r, hr, e⟩)
      · exact .inl h1
      · obtain ⟨m, hm, _, h2, h3⟩ := h.at y hr
        rw [e] at hm
        obtain rfl : k = m := by omega
        exact .inr ⟨h2, h3⟩
  cases hb : bg (relD dn (G y) (G y).length) k
  · cases hc : (bg dn k || (runB be dn k && decide (endAt l st k = y)))
    · rfl
    · rw [hi.2 (hx.1 hc)] at hb; cases hb
  · rw [hx.2 (hi.1 hb)]
theorem EnL.pop (h : EnL l st be dn G) (hd : dn.length = l.length) (y : Int) : EnL l st be (relD dn (G y) (G y).length) (fun z => if z = y then [] else G z) := by
  have hr : ∀ k, k < l.length → (runB be (relD dn (G y) (G y).length) k = true ↔ runB be dn k = true ∧ endAt l st k ≠ y) := fun k hk => by
    unfold runB
    rw [relD_all h hd y k hk]
    unfold runB
    cases bg be k <;> cases bg dn k <;> simp
  refine ⟨fun z x => ?_, fun z => ?_⟩
  · by_cases e : z = y
    · subst e
      simp only [if_true]
      constructor
      · intro h1; simp at h1
      · rintro ⟨k, rfl, hk, h1, h2⟩
        exact absurd h2 ((hr k hk).1 h1).2
    · simp only [e, if_false]
      rw [h.mem z x]
      constructor
      · rintro ⟨k, rfl, hk, h1, h2⟩
        exact ⟨k, rfl, hk, (hr k hk).2 ⟨h1, by omega⟩, h2⟩
      · rintro ⟨k, rfl, hk, h1, h2⟩
        exact ⟨k, rfl, hk, ((hr k hk).1 h1).1, h2⟩
  · by_cases e : z = y
    · subst e; simp
    · simp only [e, if_false]; exact h.nd z
theorem EnL.begin (h : EnL l st be dn G) (hi : i < l.length) (hsl : st.length = l.length) (hbl : be.length = l.length) (hb : bg be i = false) (hdi : bg dn i = false) :
    EnL l (st.set i hour) (be.set i true) dn (fun z => if z = hour + (tg l i).hours then G z ++ [(i : Int)] else G z) := by
  have eb : ∀ k, bg (be.set i true) k = if i = k then true else bg be k := fun k => bg_setN (by rw [hbl]; exact hi)
  have es : ∀ k, ig (st.set i hour) k = if i = k then hour else ig st k := fun k => ig_setN _ _ _ _ (by rw [hsl]; exact hi)
  have hr : ∀ k, k ≠ i → (runB (be.set i true) dn k = runB be dn k ∧ endAt l (st.set i hour) k = endAt l st k) := fun k hk => by
    unfold runB endAt
    rw [eb, es, if_neg (fun e => hk e.symm), if_neg (fun e => hk e.symm)]
    exact ⟨rfl, rfl⟩
  have hri : runB (be.set i true) dn i = true ∧ endAt l (st.set i hour) i = hour + (tg l i).hours := by
    unfold runB endAt
    rw [eb, es, if_pos rfl, if_pos rfl, hdi]
    exact ⟨rfl, rfl⟩
  have hnot : runB be dn i = false := by unfold runB; rw [hb]; rfl
  have hbase : ∀ z x, (∃ k : Nat, x = (k : Int) ∧ k < l.length ∧ runB (be.set i true) dn k = true ∧ endAt l (st.set i hour) k = z) ↔ (x = (i : Int) ∧ z = hour + (tg l i).hours) ∨ x ∈ G z := fun z x => by
    rw [h.mem z x]
    constructor
    · rintro ⟨k, rfl, hk, h1, h2⟩
      by_cases e : k = i
      · subst e
        exact .inl ⟨rfl, by rw [← h2]; exact hri.2⟩
      · rw [(hr k e).1] at h1
        rw [(hr k e).2] at h2
        exact .inr ⟨k, rfl, hk, h1, h2⟩
    · rintro (⟨rfl, rfl⟩ | ⟨k, rfl, hk, h1, h2⟩)
      · exact ⟨i, rfl, hi, hri.1, hri.2⟩
      · have e : k ≠ i := fun e => by subst e; rw [hnot] at h1; cases h1
        exact ⟨k, rfl, hk, by rw [(hr k e).1]; exact h1, by rw [(hr k e).2]; exact h2⟩
  refine ⟨fun z x => ?_, fun z => ?_⟩
  · rw [hbase]
    by_cases e : z = hour + (tg l i).hours
    · simp only [e, if_true, and_true, List.mem_append, List.mem_singleton]
      exact or_comm
    · simp only [e, if_false, and_false, false_or]
  · by_cases e : z = hour + (tg l i).hours
    · simp only [e, if_true]
      rw [List.nodup_append]
      refine ⟨h.nd _, by simp, fun a ha b hb2 e2 => ?_⟩
      rw [List.mem_singleton] at hb2
      subst e2 hb2
      obtain ⟨k, hk, _, h1, _⟩ := (h.mem _ _).1 ha
      obtain rfl : i = k := by omega
      rw [hnot] at h1
      cases h1
    · simp only [e, if_false]
      exact h.nd z
/-- one begun: the load -/
theorem load_begin (hv : VT l) (hi : i < l.length) (hbl : be.length = l.length) (hb : bg be i = false) (hdi : bg dn i = false) :
    loadP l (runB (be.set i true) dn) l.length = addL (loadP l (runB be dn) l.length) (tg l i).skill.toNat (tg l i).bay 1 := by
  have eb : ∀ k, bg (be.set i true) k = if i = k then true else bg be k := fun k => bg_setN (by rw [hbl]; exact hi)
  refine loadP_add hv hi (Nat.le_refl _) ?_ ?_ fun k _ hk => ?_
  · unfold runB; rw [hb]; rfl
  · unfold runB; rw [eb, if_pos rfl, hdi]; rfl
  · unfold runB; rw [eb, if_neg (fun e => hk e.symm)]
end
end Go.Proofs.Ytoblmecgnpoogaa

