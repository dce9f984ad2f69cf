
/- Package shop: sort.SearchInts and slices.Insert of one number, from the kit's shelf. -/
import Derived.Test.YtoblmecgnpoogaaProg
import Derived.Test.YtoblmecgnpoogaaChg
import Derived.Test.YtoblmecgnpoogaaTaskA
import Derived.Shelf.SlSorted.Search
import Derived.Shelf.Spec.SlicesInsert
import Derived.Shelf.Spec.SlicesInsertGrow
import Derived.Shelf.Lay
import Derived.Ground.SlsoProg
import Derived.Ground.Names2Prog
namespace Go.Proofs.Ytoblmecgnpoogaa
open Go.RowKit Go.Shelf

shelf_lay SlLaysO.n14 Slso 14 at Try as Try.searchInts

shelf_lay Lays2.n21 Nm2 21 at Try as Try.insInt
/-- the hours that are left: a slice of the call's own, from its place off on -/
structure Hrs (w : World) (B g off cap : Nat) (hs : List Int) : Prop where
  lo : B ≤ g
  lt : g < w.heap.size
  le : hs.length ≤ cap
  cm : cap ≤ 9223372036854775807
  cell : ∀ j, j < hs.length → w.cell? ⟨g, off + j, none⟩ = some (.int .i64 (ig hs j))
  sp : ∀ j, j < cap → (w.cell? ⟨g, off + j, none⟩).isSome = true
  fz : ∀ j, j < cap → w.frozen? ⟨g, off + j, none⟩ = false
theorem Hrs.chg {S : Nat → Prop} {w w' : World} {B g off cap : Nat} {hs : List Int} (h : Hrs w B g off cap hs) (hc : Chg S w w') (hg : ¬ S g) : Hrs w' B g off cap hs where
  lo := h.lo
  lt := Nat.lt_of_lt_of_le h.lt hc.size
  le := h.le
  cm := h.cm
  cell := fun j hj => hc.cell (h.cell j hj) hg
  sp := fun j hj => by
    obtain ⟨v, hv⟩ := Option.isSome_iff_exists.1 (h.sp j hj)
    rw [hc.cell hv hg]
    rfl
  fz := fun j hj => (hc.frozen h.lt hg).trans (h.fz j hj)
def ins (k : Nat) (x : Int) (hs : List Int) : List Int := hs.take k ++ x :: hs.drop k
theorem ins_len {k : Nat} {x : Int} {hs : List Int} (hk : k ≤ hs.length) : (ins k x hs).length = hs.length + 1 := by
  unfold ins
  simp
  omega
theorem ins_ig {k : Nat} {x : Int} {hs : List Int} (hk : k ≤ hs.length) (j : Nat) : ig (ins k x hs) j = if j < k then ig hs j else if j = k then x else ig hs (j - 1) := by
  unfold ins ig
  rw [List.getD_eq_getElem?_getD, List.getD_eq_getElem?_getD, List.getD_eq_getElem?_getD, List.getElem?_append]
  have hl : (hs.take k).length = k := by simp; omega
  rw [hl]
  by_cases h : j < k
  · rw [if_pos h, if_pos h, List.getElem?_take, if_pos h]
  · rw [if_neg h, if_neg h]
    by_cases h2 : j = k
    · subst h2; simp
    · rw [if_neg h2]
      obtain ⟨d, rfl⟩ : ∃ d, j = k + d + 1 := ⟨j - k - 1, by omega⟩
      rw [show k + d + 1 - k = d + 1 by omega, List.getElem?_cons_succ, List.getElem?_drop, show k + d + 1 - 1 = k + d by omega]
theorem vs_get {hs : List Int} {j : Nat} {v : Value} (h : (hs.map (Value.int .i64))[j]? = some v) : j < hs.length ∧ v = .int .i64 (ig hs j) := by
  rw [List.getElem?_map] at h
  obtain ⟨y, hy, rfl⟩ := Option.map_eq_some_iff.1 h
  obtain ⟨hj, rfl⟩ := List.getElem?_eq_some_iff.1 hy
  exact ⟨hj, by rw [ig_lt hj]⟩
theorem vs_at {hs : List Int} (j : Nat) (hj : j < (hs.map (Value.int .i64)).length) : (hs.map (Value.int .i64))[j] = .int .i64 (ig hs j) := by
  rw [List.getElem_map, ig_lt (by simpa using hj)]
theorem dr_at {hs : List Int} (k j : Nat) (hj : j < ((hs.map (Value.int .i64)).drop k).length) : ((hs.map (Value.int .i64)).drop k)[j] = .int .i64 (ig hs (k + j)) := by
  rw [List.getElem_drop, vs_at]
theorem chg_setCells {S : Nat → Prop} {a w : World} (h : Chg S a w) (n k : Nat) (vs : List Value) (hn : n < a.heap.size → S n) : Chg S a (w.setCells n k vs) := by
  induction vs generalizing k w with
  | nil => exact h
  | cons v vs ih => exact ih (h.setCell (p := ⟨n, k, none⟩) hn v) (k + 1)
theorem one_at {x : Int} (j : Nat) (v : Value) (h : [Value.int .i64 x][j]? = some v) : j = 0 ∧ v = .int .i64 x := by
  match j, h with
  | 0, h => cases h; exact ⟨rfl, rfl⟩
  | j + 1, h => simp at h
theorem size_setCells (b : Nat) : ∀ (vs : List Value) (o : Nat) (w : World), (w.setCells b o vs).heap.size = w.heap.size
  | [], _, _ => rfl
  | v :: r, o, w => by rw [World.setCells, size_setCells b r, World.size_setCell]
/-- what slices.Insert leaves -/
def InsTo (w : World) (B g k : Nat) (x : Int) (hs : List Int) (e : Ending) (w' : World) : Prop :=
  ∃ g' off' cap', e = .returned (.slice (some ⟨g', off', none⟩) (hs.length + 1) cap') ∧ Hrs w' B g' off' cap' (ins k x hs) ∧ Chg (fun j => j = g) w w' ∧ (g' = g ∨ w.heap.size ≤ g')
theorem insert_shift (hs : List Int) (B g off cap k vb : Nat) (x : Int) (w : World) (h : Hrs w B g off cap hs) (hk : k < hs.length) (hr : hs.length + 1 ≤ cap)
    (hv : w.cell? ⟨vb, 0, none⟩ = some (.int .i64 x)) (hf : ∀ j, w.frozen? ⟨vb, j, none⟩ = false) (hvb : vb ≠ g) :
    Calls Try.prog 32 #[.slice (some ⟨g, off, none⟩) hs.length cap, .int .i64 k, .slice (some ⟨vb, 0, none⟩) 1 1] w (InsTo w B g k x hs) := by
  obtain ⟨tA, kA, hsa, _, _⟩ := World.shape?_of_cell? hv
  obtain ⟨tB, kB, hsb, hkB, _⟩ := World.shape?_of_cell? (h.cell 0 (by omega))
  have c := Any2.slices_Insert_int_shift Try.insInt g off hs.length cap k vb 0 1 1 (hs.map (Value.int .i64)) [.int .i64 x] w hk (by omega) hr h.cm hvb (by simp) rfl
    (fun j v hj => by obtain ⟨h1, rfl⟩ := vs_get hj; exact h.cell j h1) (fun j hj => h.sp j (by omega)) (fun j hj => h.fz j (by omega))
    (fun j v hj => by obtain ⟨rfl, rfl⟩ := one_at j v hj; exact hv) (by intro v hv; obtain ⟨y, _, rfl⟩ := List.mem_map.1 hv; rfl) (by intro v hv; cases List.mem_singleton.1 hv; rfl)
    tA tB kA kB hsa hsb (by simp at hkB; omega) (hf _) (hf _)
  refine Calls.mono c ?_
  rintro e w' ⟨rfl, rfl⟩
  have hdl : ((hs.map (Value.int .i64)).drop k).length = hs.length - k := by simp
  have i1 : ∀ j, j < ((hs.map (Value.int .i64)).drop k).length → (w.drew.cell? ⟨g, off + (k + 1) + j, none⟩).isSome = true := fun j hj => by
    rw [Nat.add_assoc]
    exact h.sp _ (by omega)
  have i2 : ∀ j, j < [Value.int .i64 x].length → ((w.drew.setCells g (off + (k + 1)) ((hs.map (Value.int .i64)).drop k)).cell? ⟨g, off + k + j, none⟩).isSome = true := fun j hj => by
    refine isSome_setCells g _ _ _ i1 _ ?_
    rw [Nat.add_assoc]
    exact h.sp _ (by simp at hj; omega)
  refine ⟨g, off, cap, rfl, ⟨h.lo, by rw [size_setCells, size_setCells]; exact h.lt, by rw [ins_len (by omega)]; exact hr, h.cm, fun j hj => ?_, fun j hj => ?_, fun j hj => ?_⟩, ?_, .inl rfl⟩
  · rw [ins_len (by omega)] at hj
    rw [ins_ig (by omega)]
    by_cases h1 : j < k
    · rw [if_pos h1, World.cell?_setCells_out _ _ _ _ _ (fun _ _ => Or.inl (by show off + j < off + k; omega)), World.cell?_setCells_out _ _ _ _ _ (fun _ _ => Or.inl (by show off + j < off + (k + 1); omega))]
      exact h.cell j (by omega)
    · rw [if_neg h1]
      by_cases h2 : j = k
      · subst h2
        rw [if_pos rfl]
        have := World.cell?_setCells_in g [Value.int .i64 x] (off + j) _ i2 0 (by simp)
        exact this
      · rw [if_neg h2, World.cell?_setCells_out _ _ _ _ _ (fun _ _ => Or.inr (by show off + k + 1 ≤ off + j; omega))]
        have := World.cell?_setCells_in g ((hs.map (Value.int .i64)).drop k) (off + (k + 1)) w.drew i1 (j - k - 1) (by omega)
        rw [dr_at, show off + (k + 1) + (j - k - 1) = off + j by omega, show k + (j - k - 1) = j - 1 by omega] at this
        exact this
  · exact isSome_setCells g _ _ _ i2 _ (isSome_setCells g _ _ _ i1 _ (h.sp j hj))
  · rw [World.frozen?_setCells, World.frozen?_setCells]
    exact h.fz j hj
  · exact chg_setCells (S := fun j => j = g) (chg_setCells (S := fun j => j = g) (Chg.refl _ w).drew g _ _ (fun _ => rfl)) g _ _ (fun _ => rfl)
theorem insert_end (hs : List Int) (B g off cap vb : Nat) (x : Int) (w : World) (h : Hrs w B g off cap hs) (hr : hs.length + 1 ≤ cap)
    (hv : w.cell? ⟨vb, 0, none⟩ = some (.int .i64 x)) :
    Calls Try.prog 32 #[.slice (some ⟨g, off, none⟩) hs.length cap, .int .i64 hs.length, .slice (some ⟨vb, 0, none⟩) 1 1] w (InsTo w B g hs.length x hs) := by
  have c := Any2.slices_Insert_int_end_room Try.insInt g off hs.length cap vb 0 1 1 [.int .i64 x] w (by omega) hr h.cm rfl
    (fun j hj => by rw [Nat.add_assoc]; exact h.sp _ (by omega)) (fun j hj => by rw [Nat.add_assoc]; exact h.fz _ (by omega))
    (fun j v hj => by obtain ⟨rfl, rfl⟩ := one_at j v hj; exact hv) (by intro v hv; cases List.mem_singleton.1 hv; rfl)
  refine Calls.mono c ?_
  rintro e w' ⟨rfl, rfl⟩
  have i2 : ∀ j, j < [Value.int .i64 x].length → (w.cell? ⟨g, off + hs.length + j, none⟩).isSome = true := fun j hj => by
    rw [Nat.add_assoc]
    exact h.sp _ (by simp at hj; omega)
  refine ⟨g, off, cap, rfl, ⟨h.lo, by rw [size_setCells]; exact h.lt, by rw [ins_len (by omega)]; exact hr, h.cm, fun j hj => ?_, fun j hj => ?_, fun j hj => ?_⟩, ?_, .inl rfl⟩
  · rw [ins_len (by omega)] at hj
    rw [ins_ig (by omega)]
    by_cases h1 : j < hs.length
    · rw [if_pos h1, World.cell?_setCells_out _ _ _ _ _ (fun _ _ => Or.inl (by show off + j < off + hs.length; omega))]
      exact h.cell j (by omega)
    · rw [if_neg h1]
      obtain rfl : j = hs.length := by omega
      rw [if_pos rfl]
      exact World.cell?_setCells_in g [Value.int .i64 x] (off + hs.length) _ i2 0 (by simp)
  · exact isSome_setCells g _ _ _ i2 _ (h.sp j hj)
  · rw [World.frozen?_setCells]
    exact h.fz j hj
  · exact chg_setCells (S := fun j => j = g) (Chg.refl _ w) g _ _ (fun _ => rfl)
theorem zc_size (n : Nat) : (Builtin.zeroCells (Value.int .i64 0).cells n).size = n := by
  unfold Builtin.zeroCells
  simp [Value.cells]
theorem drew_size (w : World) : w.drew.heap.size = w.heap.size := rfl
theorem insert_end_grow (hs : List Int) (B g off cap vb : Nat) (x : Int) (w : World) (h : Hrs w B g off cap hs) (hr : cap < hs.length + 1) (hn : hs.length ≤ 1000) (hB : B ≤ w.heap.size)
    (hv : w.cell? ⟨vb, 0, none⟩ = some (.int .i64 x)) :
    Calls Try.prog 32 #[.slice (some ⟨g, off, none⟩) hs.length cap, .int .i64 hs.length, .slice (some ⟨vb, 0, none⟩) 1 1] w (InsTo w B g hs.length x hs) := by
  have c := Any2.slices_Insert_int_end_grow Try.insInt (some ⟨g, off, none⟩) hs.length cap vb 0 1 1 (hs.map (Value.int .i64)) [.int .i64 x] w (by omega) h.le hr (by omega) (by simp) rfl (fun e => by cases e)
    (fun a ha j v hj => by cases ha; obtain ⟨h1, rfl⟩ := vs_get hj; rw [Addr.add_lit]; exact h.cell j h1)
    (fun j v hj => by obtain ⟨rfl, rfl⟩ := one_at j v hj; exact hv) (by intro v hv; cases List.mem_singleton.1 hv; rfl)
  refine Calls.mono c ?_
  rintro e w' ⟨rfl, rfl⟩
  have hge := grownCap_ge w (hs.length + 1) cap (Try.insInt_ren.t 3)
  have hle := grownCap_le_maxLen w (hs.length + 1) cap (Try.insInt_ren.t 3) (by unfold maxLen; omega)
  obtain ⟨cp, hcp⟩ : ∃ cp, cp = grownCap w (hs.length + 1) cap (Try.insInt_ren.t 3) := ⟨_, rfl⟩
  rw [← hcp] at hge hle ⊢
  have hnew : ∀ (C : Array Value) (t : TypeId) (j : Nat), (w.drew.alloc (.cells C t)).cell? ⟨w.heap.size, j, none⟩ = C[j]? := fun C t j => World.cell?_alloc_new (w := w.drew) C t j
  refine ⟨w.heap.size, 0, cp, rfl, ⟨hB, by rw [World.size_alloc]; exact Nat.lt_succ_self _, by rw [ins_len (by omega)]; exact hge, by unfold maxLen at hle; omega, fun j hj => ?_, fun j hj => ?_, fun j hj => ?_⟩, ?_, .inr (Nat.le_refl _)⟩
  · rw [ins_len (by omega)] at hj
    rw [ins_ig (by omega), Nat.zero_add, hnew, Array.getElem?_append_left (by simp; omega), List.getElem?_toArray]
    by_cases h1 : j < hs.length
    · rw [if_pos h1, List.getElem?_append_left (by simp; exact h1), List.getElem?_eq_getElem (by simp; exact h1), vs_at]
    · obtain rfl : j = hs.length := by omega
      rw [if_neg h1, if_pos rfl, List.getElem?_append_right (by simp)]
      simp
  · rw [Nat.zero_add, hnew, Array.getElem?_eq_getElem (by simp [zc_size]; omega)]
    rfl
  · rw [Nat.zero_add]
    exact World.frozen?_alloc_new (w := w.drew) _ _ _
  · exact (Chg.refl _ w).drew.alloc _
theorem insert_mid_grow (hs : List Int) (B g off cap k vb : Nat) (x : Int) (w : World) (h : Hrs w B g off cap hs) (hk : k < hs.length) (hr : cap < hs.length + 1) (hn : hs.length ≤ 1000) (hB : B ≤ w.heap.size)
    (hv : w.cell? ⟨vb, 0, none⟩ = some (.int .i64 x)) :
    Calls Try.prog 32 #[.slice (some ⟨g, off, none⟩) hs.length cap, .int .i64 k, .slice (some ⟨vb, 0, none⟩) 1 1] w (InsTo w B g k x hs) := by
  have c := Any2.slices_Insert_int_grow Try.insInt g off hs.length cap k vb 0 1 1 (hs.map (Value.int .i64)) [.int .i64 x] w hk (by omega) h.le hr (by omega) (by simp) rfl
    (fun j v hj => by obtain ⟨h1, rfl⟩ := vs_get hj; exact h.cell j h1)
    (fun j v hj => by obtain ⟨rfl, rfl⟩ := one_at j v hj; exact hv) (by intro v hv; obtain ⟨y, _, rfl⟩ := List.mem_map.1 hv; rfl) (by intro v hv; cases List.mem_singleton.1 hv; rfl)
  refine Calls.mono c ?_
  rintro e w' ⟨rfl, rfl⟩
  have hge := grownCap_ge w (hs.length + 1) cap (Try.insInt_ren.t 3)
  have hle := grownCap_le_maxLen w (hs.length + 1) cap (Try.insInt_ren.t 3) (by unfold maxLen; omega)
  obtain ⟨cp, hcp⟩ : ∃ cp, cp = grownCap w (hs.length + 1) cap (Try.insInt_ren.t 3) := ⟨_, rfl⟩
  rw [← hcp] at hge hle ⊢
  have hdl : ((hs.map (Value.int .i64)).drop k).length = hs.length - k := by simp
  obtain ⟨C, hC⟩ : ∃ C, C = ((hs.map (Value.int .i64)).take k).toArray ++ Builtin.zeroCells (Value.int .i64 0).cells (hs.length + 1 - k) ++ Builtin.zeroCells (Value.int .i64 0).cells (cp - (hs.length + 1)) := ⟨_, rfl⟩
  rw [← hC]
  have hCs : C.size = cp := by rw [hC]; simp [zc_size]; omega
  have hCj : ∀ j, j < k → C[j]? = some (.int .i64 (ig hs j)) := fun j hj => by
    rw [hC, Array.getElem?_append_left (by simp [zc_size]; omega), Array.getElem?_append_left (by simp; omega), List.getElem?_toArray, List.getElem?_take, if_pos hj, List.getElem?_eq_getElem (by simp; omega), vs_at]
  obtain ⟨w1, hw1⟩ : ∃ w1, w1 = w.alloc (.cells C (Try.insInt_ren.t 3)) := ⟨_, rfl⟩
  rw [← hw1]
  have hnew : ∀ j, w1.cell? ⟨w.heap.size, j, none⟩ = C[j]? := fun j => by rw [hw1]; exact World.cell?_alloc_new (w := w) C _ j
  have hsp : ∀ j, j < cp → (w1.cell? ⟨w.heap.size, j, none⟩).isSome = true := fun j hj => by
    rw [hnew, Array.getElem?_eq_getElem (by rw [hCs]; exact hj)]
    rfl
  have i1 : ∀ j, j < [Value.int .i64 x].length → (w1.drew.cell? ⟨w.heap.size, k + j, none⟩).isSome = true := fun j hj => hsp _ (by simp at hj; omega)
  have hsp2 : ∀ j, j < cp → ((w1.drew.setCells w.heap.size k [Value.int .i64 x]).drew.cell? ⟨w.heap.size, j, none⟩).isSome = true := fun j hj => isSome_setCells _ _ _ _ i1 _ (hsp j hj)
  have i2 : ∀ j, j < ((hs.map (Value.int .i64)).drop k).length → ((w1.drew.setCells w.heap.size k [Value.int .i64 x]).drew.cell? ⟨w.heap.size, k + 1 + j, none⟩).isSome = true := fun j hj => hsp2 _ (by omega)
  refine ⟨w.heap.size, 0, cp, rfl, ⟨hB, by rw [size_setCells, drew_size, size_setCells, drew_size, hw1, World.size_alloc]; exact Nat.lt_succ_self _, by rw [ins_len (by omega)]; exact hge, by unfold maxLen at hle; omega, fun j hj => ?_, fun j hj => ?_, fun j hj => ?_⟩, ?_, .inr (Nat.le_refl _)⟩
  · rw [ins_len (by omega)] at hj
    rw [ins_ig (by omega), Nat.zero_add]
    by_cases h1 : j < k
    · rw [if_pos h1, World.cell?_setCells_out _ _ _ _ _ (fun _ _ => Or.inl (by show j < k + 1; omega))]
      have := World.cell?_setCells_out w.heap.size [Value.int .i64 x] k w1.drew ⟨w.heap.size, j, none⟩ (fun _ _ => Or.inl h1)
      exact this.trans ((hnew j).trans (hCj j h1))
    · rw [if_neg h1]
      by_cases h2 : j = k
      · subst h2
        rw [if_pos rfl, World.cell?_setCells_out _ _ _ _ _ (fun _ _ => Or.inl (by show j < j + 1; omega))]
        exact World.cell?_setCells_in w.heap.size [Value.int .i64 x] j w1.drew i1 0 (by simp)
      · rw [if_neg h2]
        have := World.cell?_setCells_in w.heap.size ((hs.map (Value.int .i64)).drop k) (k + 1) _ i2 (j - k - 1) (by omega)
        rw [dr_at, show k + 1 + (j - k - 1) = j by omega, show k + (j - k - 1) = j - 1 by omega] at this
        exact this
  · rw [Nat.zero_add]
    exact isSome_setCells _ _ _ _ i2 _ (hsp2 j hj)
  · rw [Nat.zero_add, World.frozen?_setCells]
    refine (World.frozen?_setCells w.heap.size [Value.int .i64 x] k w1.drew _).trans ?_
    rw [hw1]
    exact World.frozen?_alloc_new (w := w) _ _ _
  · rw [hw1]
    exact chg_setCells (S := fun j => j = g) (chg_setCells (S := fun j => j = g) ((Chg.refl _ w).alloc _).drew w.heap.size _ _ (fun hh => absurd hh (Nat.lt_irrefl _))).drew w.heap.size _ _ (fun hh => absurd hh (Nat.lt_irrefl _))
/-- slices.Insert of one number, whatever its place and the room -/
theorem insert_any (hs : List Int) (B g off cap k vb : Nat) (x : Int) (w : World) (h : Hrs w B g off cap hs) (hk : k ≤ hs.length) (hn : hs.length ≤ 1000) (hB : B ≤ w.heap.size)
    (hv : w.cell? ⟨vb, 0, none⟩ = some (.int .i64 x)) (hf : ∀ j, w.frozen? ⟨vb, j, none⟩ = false) (hvb : vb ≠ g) :
    Calls Try.prog 32 #[.slice (some ⟨g, off, none⟩) hs.length cap, .int .i64 k, .slice (some ⟨vb, 0, none⟩) 1 1] w (InsTo w B g k x hs) := by
  by_cases hr : hs.length + 1 ≤ cap
  · by_cases h1 : k < hs.length
    · exact insert_shift hs B g off cap k vb x w h h1 hr hv hf hvb
    · obtain rfl : k = hs.length := by omega
      exact insert_end hs B g off cap vb x w h hr hv
  · by_cases h1 : k < hs.length
    · exact insert_mid_grow hs B g off cap k vb x w h h1 (by omega) hn hB hv
    · obtain rfl : k = hs.length := by omega
      exact insert_end_grow hs B g off cap vb x w h (by omega) hn hB hv
/-- how many are less -/
def srch (x : Int) (hs : List Int) : Nat := hs.countP fun y => !decide (x ≤ y)
theorem srch_le (x : Int) (hs : List Int) : srch x hs ≤ hs.length := List.countP_le_length
theorem srch_all {x : Int} : ∀ {hs : List Int}, hs.Pairwise (· < ·) → (∀ j, j < srch x hs → ig hs j < x) ∧ (∀ j, srch x hs ≤ j → j < hs.length → x ≤ ig hs j)
  | [], _ => ⟨fun j hj => absurd hj (by simp [srch]), fun j _ hj => absurd hj (by simp)⟩
  | y :: r, hp => by
    obtain ⟨h1, h2⟩ := List.pairwise_cons.1 hp
    obtain ⟨i1, i2⟩ := srch_all (x := x) h2
    have e : srch x (y :: r) = srch x r + if y < x then 1 else 0 := by
      unfold srch
      rw [List.countP_cons]
      by_cases h : y < x
      · have : decide (x ≤ y) = false := by simp; omega
        simp [this, h]
      · have : decide (x ≤ y) = true := by simp; omega
        simp [this, h]
    have g0 : ig (y :: r) 0 = y := rfl
    have gs : ∀ j, ig (y :: r) (j + 1) = ig r j := fun j => by unfold ig; simp
    rw [e]
    by_cases h : y < x
    · rw [if_pos h]
      refine ⟨fun j hj => ?_, fun j hj hl => ?_⟩
      · cases j with
        | zero => rw [g0]; exact h
        | succ j => rw [gs]; exact i1 j (by omega)
      · cases j with
        | zero => omega
        | succ j => rw [gs]; exact i2 j (by omega) (by simp at hl; omega)
    · rw [if_neg h]
      have hz : srch x r = 0 := by
        unfold srch
        rw [List.countP_eq_zero]
        intro z hz
        have := h1 z hz
        have : decide (x ≤ z) = true := by simp; omega
        simp [this]
      refine ⟨fun j hj => by omega, fun j hj hl => ?_⟩
      cases j with
      | zero => rw [g0]; omega
      | succ j => rw [gs]; exact i2 j (by omega) (by simp at hl; omega)
theorem search_any (hs : List Int) (B g off cap : Nat) (x : Int) (w : World) (h : Hrs w B g off cap hs) (hp : hs.Pairwise (· < ·)) (hn : hs.length ≤ 1000) :
    Calls Try.prog 31 #[.slice (some ⟨g, off, none⟩) hs.length cap, .int .i64 x] w (RetB (.int .i64 (srch x hs)) w) := by
  have hg : ∀ i, i < hs.length → hs.toArray[i]! = ig hs i := fun i hi => by
    rw [getElem!_pos hs.toArray i (by simpa using hi), ig_lt hi]
    simp
  have hm : ∀ a b, a ≤ b → b < hs.length → ig hs a ≤ ig hs b := fun a b hab hb => by
    rcases Nat.lt_or_eq_of_le hab with h1 | rfl
    · rw [ig_lt (by omega), ig_lt hb]
      exact Int.le_of_lt (List.pairwise_iff_getElem.1 hp a b (by omega) hb h1)
    · exact Int.le_refl _
  have c := Any.sort_SearchInts Try.searchInts g off cap hs.toArray x w (fun i hi => by rw [hg i (by simpa using hi)]; exact h.cell i (by simpa using hi)) h.lt (by simp; omega)
    (fun a b hab hb ha => by
      have hb' : b < hs.length := by simpa using hb
      rw [hg a (by omega)] at ha
      rw [hg b hb']
      have := of_decide_eq_true ha
      exact decide_eq_true (Int.le_trans this (hm a b hab hb')))
  rw [show hs.toArray.size = hs.length by simp] at c
  refine Calls.mono c ?_
  rintro e w' ⟨rfl, hb⟩
  exact retB rfl hb
/-- what insertion leaves of order and of members -/
theorem ins_mem {k : Nat} {x : Int} {hs : List Int} {y : Int} : y ∈ ins k x hs ↔ y = x ∨ y ∈ hs := by
  unfold ins
  rw [List.mem_append, List.mem_cons]
  have : y ∈ hs ↔ y ∈ hs.take k ∨ y ∈ hs.drop k := by rw [← List.mem_append, List.take_append_drop]
  rw [this]
  constructor
  · rintro (h | h | h) <;> simp [h]
  · rintro (h | h | h) <;> simp [h]
theorem ins_sorted {x : Int} {hs : List Int} (hp : hs.Pairwise (· < ·)) (hx : x ∉ hs) : (ins (srch x hs) x hs).Pairwise (· < ·) := by
  obtain ⟨h1, h2⟩ := srch_all (x := x) hp
  have hl := srch_le x hs
  rw [List.pairwise_iff_getElem]
  intro i j hi hj hij
  rw [← ig_lt hi, ← ig_lt hj, ins_ig hl, ins_ig hl]
  rw [ins_len hl] at hi hj
  have hm : ∀ a b, a < b → b < hs.length → ig hs a < ig hs b := fun a b hab hb => by
    rw [ig_lt (by omega), ig_lt hb]
    exact List.pairwise_iff_getElem.1 hp a b (by omega) hb hab
  have hne : ∀ a, a < hs.length → ig hs a ≠ x := fun a ha e => hx (by rw [← e]; exact ig_mem ha)
  split
  · split
    · exact hm i j hij (by omega)
    · split
      · exact h1 i (by omega)
      · have a := h1 i (by omega)
        have b := h2 (j - 1) (by omega) (by omega)
        omega
  · split
    · rw [if_neg (by omega), if_neg (by omega)]
      have b := h2 (j - 1) (by omega) (by omega)
      have c := hne (j - 1) (by omega)
      omega
    · rw [if_neg (by omega), if_neg (by omega)]
      exact hm _ _ (by omega) (by omega)
end Go.Proofs.Ytoblmecgnpoogaa

