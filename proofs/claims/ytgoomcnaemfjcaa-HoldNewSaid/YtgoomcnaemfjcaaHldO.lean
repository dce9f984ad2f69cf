/- Holds, plain: what records of one hold's members that give it back, at the end, make of it (for HoldEverybody). -/
import Derived.Test.YtgoomcnaemfjcaaHldI
namespace Go.Proofs.Ytgoomcnaemfjcaa

theorem backs_id (R : List Rec) (h : Hd) : (R.foldl (fun k r => backH r k) h).id = h.id ∧ (R.foldl (fun k r => backH r k) h).mem = h.mem := by
  induction R generalizing h with
  | nil => exact ⟨rfl, rfl⟩
  | cons r R ih =>
    rw [List.foldl_cons]
    obtain ⟨h1, h2⟩ := ih (backH r h)
    exact ⟨h1.trans (backH_id r h), h2.trans (backH_mem r h)⟩
theorem backs_mem (R : List Rec) (h : Hd) (hR : ∀ r ∈ R, r.target = h.id) (x : Int) : x ∈ (R.foldl (fun k r => backH r k) h).back ↔ x ∈ h.back ∨ (x ∈ R.map (·.author) ∧ x ∈ h.mem) := by
  induction R generalizing h with
  | nil => simp
  | cons r R ih =>
    rw [List.foldl_cons, ih (backH r h) (fun q hq => by rw [backH_id]; exact hR q (List.mem_cons_of_mem _ hq)), backH_mem]
    have ht := hR r (List.mem_cons_self ..)
    have e : x ∈ (backH r h).back ↔ x ∈ h.back ∨ (x = r.author ∧ x ∈ h.mem) := by
      unfold backH
      split
      · rename_i hc
        show x ∈ h.back ++ [r.author] ↔ _
        rw [List.mem_append, List.mem_singleton]
        constructor
        · rintro (k | k)
          · exact .inl k
          · exact .inr ⟨k, by rw [k]; exact hc.2.1⟩
        · rintro (k | ⟨k, _⟩)
          · exact .inl k
          · exact .inr k
      · rename_i hc
        constructor
        · exact .inl
        · rintro (k | ⟨k, k2⟩)
          · exact k
          · by_cases hx : x ∈ h.back
            · exact hx
            · exact absurd ⟨ht.symm, by rw [← k]; exact k2, by rw [← k]; exact hx⟩ hc
    rw [e, List.map_cons, List.mem_cons]
    constructor
    · rintro ((k | ⟨k, k2⟩) | ⟨k, k2⟩)
      · exact .inl k
      · exact .inr ⟨.inl k, k2⟩
      · exact .inr ⟨.inr k, k2⟩
    · rintro (k | ⟨k | k, k2⟩)
      · exact .inl (.inl k)
      · exact .inl (.inr ⟨k, k2⟩)
      · exact .inr ⟨k, k2⟩
theorem foldl_backs (Z : List (ByteArray × Rec)) (hZ : ∀ x ∈ Z, x.2.kind = 6) (hs : List Hd) : Z.foldl stepH hs = hs.map (fun h => (Z.map (·.2)).foldl (fun k r => backH r k) h) := by
  induction Z generalizing hs with
  | nil => simp
  | cons x Z ih =>
    obtain ⟨s, r⟩ := x
    rw [List.foldl_cons, step_back (hZ (s, r) (List.mem_cons_self ..)), ih (fun y hy => hZ y (List.mem_cons_of_mem _ hy)), List.map_map]
    rfl
theorem run_backs (z Z : List (ByteArray × Rec)) (hZ : ∀ x ∈ Z, x.2.kind = 6) : runH (z ++ Z) = (runH z).map (fun h => (Z.map (·.2)).foldl (fun k r => backH r k) h) := by
  unfold runH
  rw [List.foldl_append]
  exact foldl_backs Z hZ _
theorem run_mem (z : List (ByteArray × Rec)) : ∀ h ∈ runH z, h.mem ≠ [] := by
  have : ∀ (z : List (ByteArray × Rec)) hs, (∀ h ∈ hs, h.mem ≠ []) → ∀ h ∈ z.foldl stepH hs, h.mem ≠ [] := fun z => by
    induction z with
    | nil => exact fun _ h => h
    | cons x z ih =>
      intro hs h
      rw [List.foldl_cons]
      refine ih _ ?_
      unfold stepH
      split
      · split
        · rename_i hc
          intro k hk
          rcases List.mem_append.1 hk with hk | hk
          · exact h k hk
          · simp only [List.mem_singleton] at hk
            rw [hk]
            exact hc.1
        · exact h
      · split
        · intro k hk
          obtain ⟨y, hy, rfl⟩ := List.mem_map.1 hk
          rw [backH_mem]
          exact h y hy
        · exact h
  exact this z [] (fun h hh => by cases hh)
/-- with the records of all members but the last member's: out exactly if the last member had not given it back -/
theorem most_out {h : Hd} {R : List Rec} {a : Int} (hR : ∀ r ∈ R, r.target = h.id) (ha : a ∈ h.mem) (hm : ∀ x, x ∈ R.map (·.author) ↔ (x ∈ h.mem ∧ x ≠ a)) : outB (R.foldl (fun k r => backH r k) h) = !decide (a ∈ h.back) := by
  by_cases hb : a ∈ h.back
  · rw [decide_eq_true hb]
    refine outB_no ?_
    rintro ⟨m, h1, h2⟩
    rw [(backs_id R h).2] at h1
    refine h2 ((backs_mem R h hR m).2 ?_)
    by_cases e : m = a
    · exact .inl (e ▸ hb)
    · exact .inr ⟨(hm m).2 ⟨h1, e⟩, h1⟩
  · rw [decide_eq_false hb]
    refine outB_yes ⟨a, by rw [(backs_id R h).2]; exact ha, fun h1 => ?_⟩
    rcases (backs_mem R h hR a).1 h1 with k | ⟨k, _⟩
    · exact hb k
    · exact ((hm a).1 k).2 rfl
theorem full_out {h : Hd} {R : List Rec} (hR : ∀ r ∈ R, r.target = h.id) (hm : ∀ x ∈ h.mem, x ∈ R.map (·.author)) : outB (R.foldl (fun k r => backH r k) h) = false := by
  refine outB_no ?_
  rintro ⟨m, h1, h2⟩
  rw [(backs_id R h).2] at h1
  exact h2 ((backs_mem R h hR m).2 (.inr ⟨hm m h1, h1⟩))
end Go.Proofs.Ytgoomcnaemfjcaa
