/- The reference's All, plain: each hold by itself. -/
import Derived.Test.YtgoomcnaemfjcaaHldJ
namespace Go.Proofs.Ytgoomcnaemfjcaa

def st6 (h : Hd) (y : ByteArray × Rec) : Hd := if y.2.kind = 6 then backH y.2 h else h
def h0 (x : ByteArray × Rec) : Hd := ⟨x.1, x.2.name, x.2.members, []⟩
def hol (z : List (ByteArray × Rec)) (i : Nat) : Hd := match z[i]? with
  | some x => (z.drop (i + 1)).foldl st6 (h0 x)
  | none => ⟨⟨#[]⟩, ⟨#[]⟩, [], []⟩
noncomputable def refU (z : List (ByteArray × Rec)) (n : Nat) : List Hd := ((List.range n).filter (mkB z)).map (hol z)
theorem refU_succ (z : List (ByteArray × Rec)) (n : Nat) : refU z (n + 1) = refU z n ++ if mkB z n then [hol z n] else [] := by
  unfold refU
  rw [List.range_succ, List.filter_append, List.map_append]
  cases h : mkB z n <;> simp [List.filter, h]
theorem hol_snoc {z : List (ByteArray × Rec)} {x : ByteArray × Rec} {i : Nat} (hi : i < z.length) : hol (z ++ [x]) i = st6 (hol z i) x := by
  unfold hol
  rw [List.getElem?_append_left hi, List.getElem?_eq_getElem hi]
  show ((z ++ [x]).drop (i + 1)).foldl st6 _ = _
  rw [List.drop_append_of_le_length (by omega), List.foldl_append]
  rfl
theorem hol_last (z : List (ByteArray × Rec)) (x : ByteArray × Rec) : hol (z ++ [x]) z.length = h0 x := by
  unfold hol
  rw [List.getElem?_append_right (Nat.le_refl _)]
  simp
theorem mkAt_snoc {z : List (ByteArray × Rec)} {x : ByteArray × Rec} {i : Nat} (hi : i < z.length) : MkAt (z ++ [x]) i ↔ MkAt z i := by
  unfold MkAt
  constructor
  · rintro ⟨h, h1, h2⟩
    rw [List.getElem_append_left hi] at h1 h2
    refine ⟨hi, h1, fun j hj hm => ?_⟩
    have := h2 j hj
    rw [List.getElem_append_left (by omega)] at this
    exact this hm
  · rintro ⟨h, h1, h2⟩
    refine ⟨by simp; omega, by rw [List.getElem_append_left hi]; exact h1, fun j hj => ?_⟩
    rw [List.getElem_append_left hi, List.getElem_append_left (by omega)]
    exact h2 j hj
theorem mkAt_last {z : List (ByteArray × Rec)} {x : ByteArray × Rec} : MkAt (z ++ [x]) z.length ↔ mkP x ∧ ∀ y ∈ z, mkP y → y.1 ≠ x.1 := by
  have e : ∀ h, (z ++ [x])[z.length]'h = x := fun h => by simp
  unfold MkAt
  constructor
  · rintro ⟨h, h1, h2⟩
    rw [e] at h1 h2
    refine ⟨h1, fun y hy hm => ?_⟩
    obtain ⟨j, hj, rfl⟩ := List.getElem_of_mem hy
    have := h2 j hj
    rw [List.getElem_append_left hj] at this
    exact this hm
  · rintro ⟨h1, h2⟩
    refine ⟨by simp, by rw [e]; exact h1, fun j hj hm => ?_⟩
    rw [e]
    rw [List.getElem_append_left hj] at hm ⊢
    exact h2 _ (List.getElem_mem hj) hm
theorem dec_congr {p q : Prop} (h : p ↔ q) : @decide p (Classical.propDecidable _) = @decide q (Classical.propDecidable _) := by
  by_cases hq : q
  · rw [@decide_eq_true _ (Classical.propDecidable _) hq, @decide_eq_true _ (Classical.propDecidable _) (h.2 hq)]
  · rw [@decide_eq_false _ (Classical.propDecidable _) hq, @decide_eq_false _ (Classical.propDecidable _) (fun hp => hq (h.1 hp))]
theorem run_some (z : List (ByteArray × Rec)) (s : ByteArray) : (∃ h ∈ runH z, h.id = s) ↔ ∃ y ∈ z, mkP y ∧ y.1 = s := by
  have key : ∀ k (z : List (ByteArray × Rec)), z.length = k → ((∃ h ∈ runH z, h.id = s) ↔ ∃ y ∈ z, mkP y ∧ y.1 = s) := fun k => by
    induction k with
    | zero =>
      intro z hz
      obtain rfl := List.eq_nil_of_length_eq_zero hz
      simp [runH]
    | succ k ih =>
      intro z hz
      obtain ⟨y, x, rfl⟩ : ∃ y x, z = y ++ [x] := ⟨z.dropLast, z.getLast (by intro e; rw [e] at hz; simp at hz), (List.dropLast_concat_getLast _).symm⟩
      have ih := ih y (by simpa using hz)
      rw [runH_snoc]
      have hr : (∃ u ∈ y ++ [x], mkP u ∧ u.1 = s) ↔ ((∃ h ∈ runH y, h.id = s) ∨ (mkP x ∧ x.1 = s)) := by
        rw [ih]
        constructor
        · rintro ⟨u, hu, h⟩
          rcases List.mem_append.1 hu with hu | hu
          · exact .inl ⟨u, hu, h⟩
          · obtain rfl := List.mem_singleton.1 hu
            exact .inr h
        · rintro (⟨u, hu, h⟩ | h)
          · exact ⟨u, by simp [hu], h⟩
          · exact ⟨x, by simp, h⟩
      rw [hr]
      obtain ⟨t, r⟩ := x
      by_cases h5 : r.kind = 5
      · by_cases hm : r.members ≠ [] ∧ ∀ h ∈ runH y, h.id ≠ t
        · rw [step_new h5 hm.1 hm.2]
          constructor
          · rintro ⟨h, hh, e⟩
            rcases List.mem_append.1 hh with hh | hh
            · exact .inl ⟨h, hh, e⟩
            · obtain rfl := List.mem_singleton.1 hh
              exact .inr ⟨⟨h5, hm.1⟩, e⟩
          · rintro (⟨h, hh, e⟩ | ⟨_, e⟩)
            · exact ⟨h, by simp [hh], e⟩
            · exact ⟨⟨t, r.name, r.members, []⟩, by simp, e⟩
        · have e1 : stepH (runH y) (t, r) = runH y := by
            unfold stepH
            rw [if_pos h5, if_neg hm]
          rw [e1]
          constructor
          · exact .inl
          · rintro (h | ⟨h1, e⟩)
            · exact h
            · refine Classical.byContradiction fun hn => hm ⟨h1.2, fun h hh e2 => hn ⟨h, hh, e2.trans e⟩⟩
      · have hx : ¬ mkP (t, r) := fun h => h5 h.1
        by_cases h6 : r.kind = 6
        · rw [step_back h6]
          constructor
          · rintro ⟨h, hh, e⟩
            obtain ⟨k, hk, rfl⟩ := List.mem_map.1 hh
            exact .inl ⟨k, hk, by rw [← e, backH_id]⟩
          · rintro (⟨h, hh, e⟩ | ⟨h, _⟩)
            · exact ⟨backH r h, List.mem_map.2 ⟨h, hh, rfl⟩, by rw [backH_id, e]⟩
            · exact absurd h hx
        · rw [step_no h5 h6]
          exact ⟨.inl, fun h => h.elim id fun h => absurd h.1 hx⟩
  exact key _ z rfl
theorem refU_run (z : List (ByteArray × Rec)) : refU z z.length = runH z := by
  have key : ∀ k (z : List (ByteArray × Rec)), z.length = k → refU z z.length = runH z := fun k => by
    induction k with
    | zero =>
      intro z hz
      obtain rfl := List.eq_nil_of_length_eq_zero hz
      rfl
    | succ k ih =>
      intro z hz
      obtain ⟨y, x, rfl⟩ : ∃ y x, z = y ++ [x] := ⟨z.dropLast, z.getLast (by intro e; rw [e] at hz; simp at hz), (List.dropLast_concat_getLast _).symm⟩
      have ih := ih y (by simpa using hz)
      rw [runH_snoc, ← ih, show (y ++ [x]).length = y.length + 1 by simp, refU_succ, hol_last]
      have e1 : refU (y ++ [x]) y.length = (refU y y.length).map fun h => st6 h x := by
        unfold refU
        rw [List.map_map]
        have e2 : (List.range y.length).filter (mkB (y ++ [x])) = (List.range y.length).filter (mkB y) := List.filter_congr fun i hi => dec_congr (mkAt_snoc (List.mem_range.1 hi))
        rw [e2]
        refine List.map_congr_left fun i hi => ?_
        exact hol_snoc (List.mem_range.1 (List.mem_filter.1 hi).1)
      have e3 : mkB (y ++ [x]) y.length = @decide (mkP x ∧ ∀ u ∈ y, mkP u → u.1 ≠ x.1) (Classical.propDecidable _) := dec_congr mkAt_last
      rw [e1, e3]
      obtain ⟨t, r⟩ := x
      have hst : r.kind ≠ 6 → ((refU y y.length).map fun h => st6 h (t, r)) = refU y y.length := fun h => by
        conv => rhs; rw [← List.map_id (refU y y.length)]
        refine List.map_congr_left fun u _ => ?_
        exact if_neg h
      by_cases h5 : r.kind = 5
      · rw [hst (by omega)]
        by_cases hm : r.members ≠ [] ∧ ∀ h ∈ refU y y.length, h.id ≠ t
        · rw [step_new h5 hm.1 hm.2, @decide_eq_true _ (Classical.propDecidable _) ⟨⟨h5, hm.1⟩, fun u hu hmu e => by
            obtain ⟨h, hh, e2⟩ := (run_some y t).2 ⟨u, hu, hmu, e⟩
            rw [← ih] at hh
            exact hm.2 h hh e2⟩]
          rfl
        · have e4 : stepH (refU y y.length) (t, r) = refU y y.length := by
            unfold stepH
            rw [if_pos h5, if_neg hm]
          rw [e4, @decide_eq_false _ (Classical.propDecidable _) (fun ⟨h1, h2⟩ => hm ⟨h1.2, fun h hh e => by
            rw [ih] at hh
            obtain ⟨u, hu, hmu, e2⟩ := (run_some y t).1 ⟨h, hh, e⟩
            exact h2 u hu hmu e2⟩)]
          simp
      · rw [@decide_eq_false _ (Classical.propDecidable _) (fun ⟨h1, _⟩ => h5 h1.1)]
        by_cases h6 : r.kind = 6
        · rw [step_back h6]
          simp only [Bool.false_eq_true, if_false, List.append_nil]
          refine List.map_congr_left fun u _ => ?_
          exact if_pos h6
        · rw [hst h6, step_no h5 h6]
          simp
  exact key _ z rfl
end Go.Proofs.Ytgoomcnaemfjcaa
