/- Holds, plain: what the records make of them. -/
import Derived.Test.YtgoomcnaemfjcaaData
namespace Go.Proofs.Ytgoomcnaemfjcaa

structure Rec where
  kind : Int
  author : Int
  target : ByteArray
  name : ByteArray
  members : List Int
  ma : Option Addr
  mc : Nat
  cs : List Value
  hl : cs.length = 36
  h1 : ∀ u ∈ cs, u.oneCell' = true
/-- a hold -/
structure Hd where
  id : ByteArray
  veh : ByteArray
  mem : List Int
  back : List Int
def backH (r : Rec) (h : Hd) : Hd := if h.id = r.target ∧ r.author ∈ h.mem ∧ r.author ∉ h.back then { h with back := h.back ++ [r.author] } else h
def stepH (hs : List Hd) (x : ByteArray × Rec) : List Hd :=
  if x.2.kind = 5 then (if x.2.members ≠ [] ∧ ∀ h ∈ hs, h.id ≠ x.1 then hs ++ [⟨x.1, x.2.name, x.2.members, []⟩] else hs)
  else if x.2.kind = 6 then hs.map (backH x.2)
  else hs
def runH (z : List (ByteArray × Rec)) : List Hd := z.foldl stepH []
def allH (ids : List ByteArray) (l : List Rec) : List Hd := if ids.length = l.length then runH (ids.zip l) else []
def outH (h : Hd) : Prop := ∃ m ∈ h.mem, m ∉ h.back
noncomputable def outB (h : Hd) : Bool := @decide (outH h) (Classical.propDecidable _)
theorem outB_yes {h : Hd} (k : outH h) : outB h = true := @decide_eq_true _ (Classical.propDecidable _) k
theorem outB_no {h : Hd} (k : ¬ outH h) : outB h = false := @decide_eq_false _ (Classical.propDecidable _) k
def onH (v : ByteArray) (h : Hd) : Prop := h.veh = v ∧ outH h
noncomputable def onB (v : ByteArray) (h : Hd) : Bool := @decide (onH v h) (Classical.propDecidable _)
theorem onB_yes {v : ByteArray} {h : Hd} (k : onH v h) : onB v h = true := @decide_eq_true _ (Classical.propDecidable _) k
theorem onB_no {v : ByteArray} {h : Hd} (k : ¬ onH v h) : onB v h = false := @decide_eq_false _ (Classical.propDecidable _) k
theorem mem_ig {l : List Int} {x : Int} : x ∈ l ↔ ∃ j, j < l.length ∧ ig l j = x := by
  constructor
  · intro h
    obtain ⟨j, hj, e⟩ := List.getElem_of_mem h
    exact ⟨j, hj, by rw [ig_lt hj, e]⟩
  · rintro ⟨j, hj, rfl⟩
    exact ig_mem hj
theorem backH_id (r : Rec) (h : Hd) : (backH r h).id = h.id := by unfold backH; split <;> rfl
theorem backH_veh (r : Rec) (h : Hd) : (backH r h).veh = h.veh := by unfold backH; split <;> rfl
theorem backH_mem (r : Rec) (h : Hd) : (backH r h).mem = h.mem := by unfold backH; split <;> rfl
/-! ### no two holds have one Id -/
def Uniq (hs : List Hd) : Prop := (hs.map Hd.id).Nodup
theorem Uniq.step {hs : List Hd} (h : Uniq hs) (x : ByteArray × Rec) : Uniq (stepH hs x) := by
  unfold stepH
  split
  · split
    · rename_i hh
      unfold Uniq at h ⊢
      rw [List.map_append, List.nodup_append]
      refine ⟨h, by simp, ?_⟩
      intro a ha b hb
      simp at hb
      obtain ⟨y, hy, rfl⟩ := List.mem_map.1 ha
      rw [hb]
      exact hh.2 y hy
    · exact h
  · split
    · unfold Uniq at h ⊢
      rw [List.map_map]
      have e : Hd.id ∘ backH x.2 = Hd.id := funext fun y => backH_id x.2 y
      rw [e]
      exact h
    · exact h
theorem Uniq.run (z : List (ByteArray × Rec)) : Uniq (runH z) := by
  have : ∀ (z : List (ByteArray × Rec)) hs, Uniq hs → Uniq (z.foldl stepH hs) := fun z => by
    induction z with
    | nil => exact fun _ h => h
    | cons x z ih => exact fun hs h => ih _ (h.step x)
  exact this z [] (by simp [Uniq])
theorem stepH_ids (hs : List Hd) (x : ByteArray × Rec) : ∀ h ∈ stepH hs x, (∃ k ∈ hs, h.id = k.id) ∨ h.id = x.1 := by
  intro h hh
  unfold stepH at hh
  split at hh
  · split at hh
    · rcases List.mem_append.1 hh with h1 | h1
      · exact .inl ⟨h, h1, rfl⟩
      · simp at h1
        exact .inr (by rw [h1])
    · exact .inl ⟨h, hh, rfl⟩
  · split at hh
    · obtain ⟨k, hk, rfl⟩ := List.mem_map.1 hh
      exact .inl ⟨k, hk, backH_id _ _⟩
    · exact .inl ⟨h, hh, rfl⟩
theorem runH_ids (z : List (ByteArray × Rec)) : ∀ h ∈ runH z, ∃ x ∈ z, h.id = x.1 := by
  have : ∀ (z y : List (ByteArray × Rec)) hs, (∀ h ∈ hs, ∃ x ∈ y, h.id = x.1) → ∀ h ∈ z.foldl stepH hs, ∃ x ∈ y ++ z, h.id = x.1 := fun z => by
    induction z with
    | nil => intro y hs h0 h hh; simpa using h0 h hh
    | cons x z ih =>
      intro y hs h0 h hh
      have := ih (y ++ [x]) (stepH hs x) (fun k hk => by
        rcases stepH_ids hs x k hk with ⟨j, hj, e⟩ | e
        · obtain ⟨u, hu, e2⟩ := h0 j hj
          exact ⟨u, by simp [hu], e.trans e2⟩
        · exact ⟨x, by simp, e⟩) h hh
      simpa using this
  exact fun h hh => by simpa using this z [] [] (by simp) h hh
theorem runH_snoc (z : List (ByteArray × Rec)) (x : ByteArray × Rec) : runH (z ++ [x]) = stepH (runH z) x := by
  unfold runH
  rw [List.foldl_append]
  rfl
end Go.Proofs.Ytgoomcnaemfjcaa
