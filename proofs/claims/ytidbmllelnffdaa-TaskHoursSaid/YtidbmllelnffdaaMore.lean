/- Plain facts: one task that waits for one more; what is ready before and behind. -/
import Derived.Test.YtidbmllelnffdaaHours
namespace Go.Proofs.Ytidbmllelnffdaa
open Go.RowKit

/-- among what task a waits for, or b -/
def inn (l : List Tk) (a b k : Nat) : Bool := decide (k = b) || (tg l a).after.any fun x => decide (x = (k : Int))
theorem inn_iff {l : List Tk} {a b k : Nat} : inn l a b k = true ↔ k = b ∨ ∃ q, q < (tg l a).after.length ∧ ig (tg l a).after q = k := by
  unfold inn
  rw [Bool.or_eq_true, decide_eq_true_iff, List.any_eq_true]
  constructor
  · rintro (h | ⟨x, hx, he⟩)
    · exact .inl h
    · obtain ⟨q, hq, rfl⟩ := List.getElem_of_mem hx
      exact .inr ⟨q, hq, by rw [ig_lt hq]; simpa using he⟩
  · rintro (h | ⟨q, hq, he⟩)
    · exact .inl h
    · exact .inr ⟨_, ig_mem hq, by simpa using he⟩
def aft (l : List Tk) (a b i : Nat) : List Int := ((List.range i).filter (inn l a b)).map fun n : Nat => (n : Int)
theorem aft_yes {l : List Tk} {a b i : Nat} (h : inn l a b i = true) : aft l a b (i + 1) = aft l a b i ++ [(i : Int)] := by simp [aft, List.range_succ, List.filter_append, h]
theorem aft_no {l : List Tk} {a b i : Nat} (h : inn l a b i = false) : aft l a b (i + 1) = aft l a b i := by simp [aft, List.range_succ, List.filter_append, h]
theorem aft_len (l : List Tk) (a b i : Nat) : (aft l a b i).length ≤ i := by
  unfold aft
  rw [List.length_map]
  exact Nat.le_trans (List.length_filter_le _ _) (by simp)
theorem aft_at {l : List Tk} {a b i r : Nat} (hr : r < (aft l a b i).length) : ∃ k : Nat, ig (aft l a b i) r = k ∧ k < i ∧ inn l a b k = true := by
  have hm : ig (aft l a b i) r ∈ ((List.range i).filter (inn l a b)).map fun n : Nat => (n : Int) := ig_mem hr
  obtain ⟨k, h1, h2⟩ := List.mem_map.1 hm
  obtain ⟨h3, h4⟩ := List.mem_filter.1 h1
  exact ⟨k, h2.symm, by simpa using h3, h4⟩
theorem aft_has {l : List Tk} {a b i k : Nat} (hk : k < i) (h : inn l a b k = true) : ∃ r, r < (aft l a b i).length ∧ ig (aft l a b i) r = k := by
  have : (k : Int) ∈ aft l a b i := List.mem_map.2 ⟨k, List.mem_filter.2 ⟨by simpa using hk, h⟩, rfl⟩
  obtain ⟨r, hr, he⟩ := List.getElem_of_mem this
  exact ⟨r, hr, by rw [ig_lt hr, he]⟩
theorem aft_inc {l : List Tk} {a b i r : Nat} (h0 : 0 < r) (hr : r < (aft l a b i).length) : ig (aft l a b i) (r - 1) < ig (aft l a b i) r := by
  have hp : (aft l a b i).Pairwise (fun x y => x < y) := by
    unfold aft
    rw [List.pairwise_map]
    exact List.Pairwise.imp (fun {x y} (h : x < y) => by omega) (List.Pairwise.filter _ List.pairwise_lt_range)
  rw [List.pairwise_iff_getElem] at hp
  rw [ig_lt (by omega), ig_lt hr]
  exact hp (r - 1) r (by omega) hr (by omega)
/-- the tasks, a waiting for b too -/
def exn (l : List Tk) (a b : Nat) : List Tk := l.set a ⟨(tg l a).hours, (tg l a).skill, (tg l a).bay, aft l a b l.length⟩
theorem exn_len (l : List Tk) (a b : Nat) : (exn l a b).length = l.length := by simp [exn]
theorem tg_exn {l : List Tk} {a b i : Nat} (ha : a < l.length) : tg (exn l a b) i = if i = a then ⟨(tg l a).hours, (tg l a).skill, (tg l a).bay, aft l a b l.length⟩ else tg l i := by
  by_cases e : i = a
  · subst e; rw [if_pos rfl]; simp [tg, exn, List.getD, ha]
  · rw [if_neg e]; simp [tg, exn, List.getD, Ne.symm e]
theorem exn_hours {l : List Tk} {a b : Nat} (ha : a < l.length) (i : Nat) : (tg (exn l a b) i).hours = (tg l i).hours := by
  rw [tg_exn ha]
  split
  · rename_i e; subst e; rfl
  · rfl
theorem exn_valid {l : List Tk} (hv' : VT l) {a b : Nat} (ha : a < l.length) : VT (exn l a b) := by
  refine ⟨by rw [exn_len]; exact hv'.1, fun i hi => ?_⟩
  rw [exn_len] at hi ⊢
  obtain ⟨h1, h2, h3, h4, h5⟩ := hv'.2 i hi
  rw [tg_exn ha]
  split
  · rename_i e
    subst e
    refine ⟨h1, h2, h3, h4, fun r hr => ?_⟩
    obtain ⟨k, hk, hki, _⟩ := aft_at hr
    refine ⟨?_, by rw [hk]; omega⟩
    unfold prv
    split
    · rw [hk]; omega
    · exact aft_inc (by omega) hr
  · exact ⟨h1, h2, h3, h4, h5⟩
theorem exn_dep {l : List Tk} (hv' : VT l) {a b : Nat} (ha : a < l.length) (i k : Nat) (h : Dep l i k) : Dep (exn l a b) i k := by
  have hk := h.lt2 hv'
  by_cases e : i = a
  · subst e
    obtain ⟨q, hq, he⟩ := h
    have hin := good_in ((hv'.2 i ha).2.2.2.2) hq
    obtain ⟨r, hr, hre⟩ := aft_has (b := b) hk (inn_iff.2 (.inr ⟨q, hq, by omega⟩))
    have et : (tg (exn l i b) i).after = aft l i b l.length := by rw [tg_exn ha, if_pos rfl]
    exact ⟨r, by rw [et]; exact hr, by rw [et, hre]; omega⟩
  · obtain ⟨q, hq, he⟩ := h
    have et : (tg (exn l a b) i).after = (tg l i).after := by rw [tg_exn ha, if_neg e]
    exact ⟨q, by rw [et]; exact hq, by rw [et]; exact he⟩
theorem exn_rdy {l : List Tk} (hv' : VT l) {a b : Nat} (ha : a < l.length) {d : List Bool} {i : Nat} (hi : i < l.length) (h : rdy (exn l a b) d i = true) : rdy l d i = true := by
  unfold rdy at *
  rw [Bool.and_eq_true] at *
  refine ⟨h.1, allDone_true fun q hq => ?_⟩
  have hin := good_in ((hv'.2 i hi).2.2.2.2) hq
  obtain ⟨r, hr, he⟩ := exn_dep hv' ha i _ ⟨q, hq, rfl⟩ (b := b)
  rw [← he]
  exact allDone_iff.1 h.2 r hr
/-- what is ready behind is some of what was ready before -/
theorem rL_filter {l : List Tk} (hv' : VT l) {a b : Nat} (ha : a < l.length) (d : List Bool) : rL (exn l a b) d = (rL l d).filter fun x => rdy (exn l a b) d x.toNat := by
  unfold rL
  by_cases hd : d.length = l.length
  · rw [if_pos ⟨exn_valid hv' ha, by rw [exn_len]; exact hd⟩, if_pos ⟨hv', hd⟩, exn_len]
    unfold col
    rw [List.filter_map, List.filter_filter]
    congr 1
    refine List.filter_congr fun x hx => ?_
    have hx' : x < l.length := by simpa using hx
    simp only [Function.comp, Int.toNat_natCast]
    cases hr : rdy (exn l a b) d x
    · simp
    · rw [exn_rdy hv' ha hx' hr]; rfl
  · rw [if_neg (fun h => hd (by have := h.2; rw [exn_len] at this; exact this)), if_neg (fun h => hd h.2)]
    rfl
def Jn (p : Int → Bool) (W : List Int) (i : Nat) : Nat := ((W.take i).filter p).length
theorem Jn_all (p : Int → Bool) (W : List Int) : Jn p W W.length = (W.filter p).length := by unfold Jn; rw [List.take_length]
theorem Jn_yes {p : Int → Bool} {W : List Int} {i : Nat} (hi : i < W.length) (h : p (ig W i) = true) : Jn p W (i + 1) = Jn p W i + 1 ∧ Jn p W i < (W.filter p).length ∧ ig (W.filter p) (Jn p W i) = ig W i := by
  rw [ig_lt hi] at h ⊢
  have e : W = W.take i ++ (W[i] :: W.drop (i + 1)) := by rw [← List.drop_eq_getElem_cons hi, List.take_append_drop]
  have ef : W.filter p = (W.take i).filter p ++ (W[i] :: (W.drop (i + 1)).filter p) := by
    conv => lhs; rw [e]
    rw [List.filter_append, List.filter_cons_of_pos h]
  refine ⟨?_, ?_, ?_⟩
  · unfold Jn
    rw [List.take_succ_eq_append_getElem hi, List.filter_append, List.length_append, List.filter_cons_of_pos h]
    rfl
  · rw [ef]; unfold Jn; simp
  · rw [ef]; unfold Jn; simp [ig]
theorem Jn_no {p : Int → Bool} {W : List Int} {i : Nat} (hi : i < W.length) (h : p (ig W i) = false) : Jn p W (i + 1) = Jn p W i ∧ ∀ q, q < (W.filter p).length → ig (W.filter p) q ≠ ig W i := by
  rw [ig_lt hi] at h ⊢
  refine ⟨?_, fun q hq he => ?_⟩
  · unfold Jn
    rw [List.take_succ_eq_append_getElem hi, List.filter_append, List.filter_cons_of_neg (by rw [h]; simp)]
    simp
  · have := (List.mem_filter.1 (ig_mem hq)).2
    rw [he, h] at this
    cases this
theorem Jn_le (p : Int → Bool) (W : List Int) (i : Nat) : Jn p W i ≤ i := by
  unfold Jn
  have h1 := List.length_filter_le p (W.take i)
  have h2 := List.length_take_le i W
  omega
end Go.Proofs.Ytidbmllelnffdaa
