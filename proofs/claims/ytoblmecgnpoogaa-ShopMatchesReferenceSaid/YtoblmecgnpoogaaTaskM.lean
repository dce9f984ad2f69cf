/- Plain facts on tasks that wait for others: longest hours, cycles; no program in sight. -/
import Derived.Test.YtoblmecgnpoogaaTaskG
namespace Go.Proofs.Ytoblmecgnpoogaa
open Go.RowKit

/-- task i waits for task k directly -/
def Dep (l : List Tk) (i k : Nat) : Prop := ∃ r, r < (tg l i).after.length ∧ (ig (tg l i).after r).toNat = k
inductive Need (l : List Tk) : Nat → Nat → Prop
  | one {i k : Nat} (h : Dep l i k) : Need l i k
  | more {i j k : Nat} (h : Dep l i j) (h' : Need l j k) : Need l i k
theorem Need.snoc {l : List Tk} {i j k : Nat} (h : Need l i j) (h' : Dep l j k) : Need l i k := by
  induction h with
  | one h => exact .more h (.one h')
  | more h _ ih => exact .more h (ih h')
theorem Need.trans {l : List Tk} {i j k : Nat} (h : Need l i j) (h' : Need l j k) : Need l i k := by
  induction h with
  | one h => exact .more h h'
  | more h _ ih => exact .more h (ih h')

/-- the greatest of the values, or 0 -/
def mx (f : Nat → Int) (a : List Int) : Int := a.foldl (fun m k => max m (f k.toNat)) 0
theorem mx_snoc (f : Nat → Int) (a : List Int) (k : Int) : mx f (a ++ [k]) = max (mx f a) (f k.toNat) := by simp [mx]
theorem mx_take (f : Nat → Int) (a : List Int) {q : Nat} (h : q < a.length) : mx f (a.take (q + 1)) = max (mx f (a.take q)) (f (ig a q).toNat) := by
  rw [List.take_succ_eq_append_getElem h, mx_snoc, ig_lt h]
theorem mx_zero (f : Nat → Int) (a : List Int) : mx f (a.take 0) = 0 := by simp [mx]
theorem mx_congr {f g : Nat → Int} {a : List Int} (h : ∀ r, r < a.length → f (ig a r).toNat = g (ig a r).toNat) : ∀ q, q ≤ a.length → mx f (a.take q) = mx g (a.take q)
  | 0, _ => by simp [mx]
  | q + 1, hq => by rw [mx_take f a (by omega), mx_take g a (by omega), mx_congr h q (by omega), h q (by omega)]
theorem mx_bound {f : Nat → Int} {a : List Int} {b : Int} (hb : 0 ≤ b) (h : ∀ r, r < a.length → f (ig a r).toNat ≤ b) : ∀ q, q ≤ a.length → 0 ≤ mx f (a.take q) ∧ mx f (a.take q) ≤ b
  | 0, _ => by simp [mx]; exact hb
  | q + 1, hq => by
    have h1 := mx_bound hb h q (by omega)
    have h2 := h q (by omega)
    rw [mx_take f a (by omega)]
    omega

/-- task i takes x hours at least, with all that it needs -/
inductive HV (l : List Tk) : Nat → Int → Prop
  | mk (i : Nat) (hi : i < l.length) (f : Nat → Int) (h : ∀ r, r < (tg l i).after.length → HV l (ig (tg l i).after r).toNat (f (ig (tg l i).after r).toNat)) : HV l i (mx f (tg l i).after + (tg l i).hours)
theorem HV.uniq {l : List Tk} {i : Nat} {x y : Int} (h : HV l i x) (h' : HV l i y) : x = y := by
  induction h generalizing y with
  | mk i hi f h ih =>
    cases h' with
    | mk _ _ g h' =>
      have e := mx_congr (f := f) (g := g) (a := (tg l i).after) (fun r hr => ih r hr (h' r hr)) _ (Nat.le_refl _)
      rw [List.take_length] at e
      rw [e]
theorem HV.lt {l : List Tk} {i : Nat} {x : Int} (h : HV l i x) : i < l.length := by cases h; assumption
theorem HV.dep {l : List Tk} {i k : Nat} {x : Int} (h : HV l i x) (hd : Dep l i k) : ∃ y, HV l k y := by
  cases h with
  | mk _ _ f h =>
    obtain ⟨r, hr, rfl⟩ := hd
    exact ⟨_, h r hr⟩
theorem HV.irrefl {l : List Tk} {i : Nat} {x : Int} (h : HV l i x) : ¬ Need l i i := by
  induction h with
  | mk i hi f h ih =>
    intro hn
    cases hn with
    | one hd =>
      have hd' := hd
      obtain ⟨r, hr, hk⟩ := hd'
      have := ih r hr
      rw [hk] at this
      exact this (.one hd)
    | more hd hn =>
      have hd' := hd
      obtain ⟨r, hr, hk⟩ := hd'
      have := ih r hr
      rw [hk] at this
      exact this (hn.snoc hd)
theorem HV.need {l : List Tk} {i k : Nat} {x : Int} (h : HV l i x) (hn : Need l i k) : ∃ y, HV l k y := by
  induction hn generalizing x with
  | one hd => exact h.dep hd
  | more hd _ ih =>
    obtain ⟨y, hy⟩ := h.dep hd
    exact ih hy
/-- from a value for all that it waits for -/
theorem HV.of {l : List Tk} {i : Nat} (hi : i < l.length) {f : Nat → Int} (h : ∀ r, r < (tg l i).after.length → HV l (ig (tg l i).after r).toNat (f (ig (tg l i).after r).toNat)) : HV l i (mx f (tg l i).after + (tg l i).hours) := HV.mk i hi f h

/-! the greedy order -/
theorem allDone_iff {d : List Bool} {a : List Int} : allDone d a = true ↔ ∀ r, r < a.length → bg d (ig a r).toNat = true := by
  constructor
  · intro h r hr
    cases hb : bg d (ig a r).toNat
    · rw [allDone_false hr hb] at h; cases h
    · rfl
  · exact allDone_true
/-- every done task has a value, and stands in the list behind what it waits for -/
def Built (l : List Tk) (d : List Bool) (out : List Int) : Prop :=
  (∀ i, i < l.length → bg d i = true → ∃ x, HV l i x) ∧
  (∀ r, r < out.length → ∃ i : Nat, ig out r = i ∧ i < l.length ∧ ∀ q, q < (tg l i).after.length → ∃ s, s < r ∧ ig out s = ig (tg l i).after q) ∧
  (∀ i, i < l.length → bg d i = true → ∃ r, r < out.length ∧ ig out r = i) ∧
  (∀ r, r < out.length → bg d (ig out r).toNat = true) ∧ out.Nodup
theorem bg_set {d : List Bool} {i j : Nat} {x : Bool} (hi : i < d.length) : bg (d.set i x) j = if i = j then x else bg d j := by
  by_cases h : i = j
  · subst h
    rw [if_pos rfl]
    simp [bg, hi]
  · rw [if_neg h]
    simp [bg, h]
theorem ig_set {d : List Int} {i j : Nat} {x : Int} (hi : i < d.length) : ig (d.set i x) j = if i = j then x else ig d j := by
  by_cases h : i = j
  · subst h
    rw [if_pos rfl]
    simp [ig, hi]
  · rw [if_neg h]
    simp [ig, h]
theorem ig_snoc (out : List Int) (y : Int) (r : Nat) : ig (out ++ [y]) r = if r < out.length then ig out r else if r = out.length then y else 0 := by
  by_cases h : r < out.length
  · rw [if_pos h]; simp [ig, List.getElem?_append_left h]
  · rw [if_neg h]
    by_cases h' : r = out.length
    · rw [if_pos h']; subst h'; simp [ig]
    · rw [if_neg h']
      have : out.length + 1 ≤ r := by omega
      simp [ig, this]
theorem nodup_le : ∀ {a b : List Int}, a.Nodup → (∀ x ∈ a, x ∈ b) → a.length ≤ b.length
  | [], _, _, _ => by simp
  | x :: a, b, hn, hs => by
    rw [List.nodup_cons] at hn
    have h1 := hs x (by simp)
    have h2 := nodup_le (a := a) (b := b.erase x) hn.2 fun y hy => by
      rw [List.mem_erase_of_ne (by intro e; subst e; exact hn.1 hy)]
      exact hs y (by simp [hy])
    rw [List.length_erase_of_mem h1] at h2
    have := List.length_pos_of_mem h1
    simp
    omega
theorem Built.start (l : List Tk) : Built l (List.replicate l.length false) [] := by
  have hb : ∀ i, bg (List.replicate l.length false) i = false := fun i => by
    simp [bg, List.getElem?_replicate]
    split <;> rfl
  unfold Built
  exact ⟨fun i _ h => (by rw [hb] at h; cases h), fun r hr => absurd hr (by simp), fun i _ h => (by rw [hb] at h; cases h), fun r hr => absurd hr (by simp), by simp⟩
open Classical in
theorem HV.ex {l : List Tk} {i : Nat} (hi : i < l.length) (h : ∀ r, r < (tg l i).after.length → ∃ x, HV l (ig (tg l i).after r).toNat x) : ∃ x, HV l i x := by
  refine ⟨_, HV.of hi (f := fun k => if h : ∃ x, HV l k x then Classical.choose h else 0) fun r hr => ?_⟩
  have hx := h r hr
  simp only [hx, dite_true]
  exact Classical.choose_spec hx
theorem Built.step {l : List Tk} (hv : VT l) {d : List Bool} {out : List Int} {i : Nat} (hd : d.length = l.length) (h : Built l d out) (hi : i < l.length) (hr : rdy l d i = true) : Built l (d.set i true) (out ++ [(i : Int)]) := by
  obtain ⟨h1, h2, h3, h4, h5⟩ := h
  have hda : ∀ r, r < (tg l i).after.length → bg d (ig (tg l i).after r).toNat = true := by
    unfold rdy at hr
    simp only [Bool.and_eq_true] at hr
    exact allDone_iff.1 hr.2
  have hin := fun r (hr : r < (tg l i).after.length) => after_in hv hi hd r hr
  have ho := rdy_open hr
  refine ⟨fun j hj hb => ?_, fun r hr' => ?_, fun j hj hb => ?_, fun r hr' => ?_, ?_⟩
  · rw [bg_set (by omega)] at hb
    by_cases e : i = j
    · subst e
      exact HV.ex hi fun r hr' => h1 _ (by have := hin r hr'; omega) (hda r hr')
    · rw [if_neg e] at hb
      exact h1 j hj hb
  · simp at hr'
    by_cases hlt : r < out.length
    · obtain ⟨j, hj, hjl, hq⟩ := h2 r hlt
      refine ⟨j, by rw [ig_snoc, if_pos hlt, hj], hjl, fun q hq' => ?_⟩
      obtain ⟨s, hs, hse⟩ := hq q hq'
      exact ⟨s, hs, by rw [ig_snoc, if_pos (by omega), hse]⟩
    · have hre : r = out.length := by omega
      refine ⟨i, by rw [ig_snoc, if_neg hlt, if_pos hre], hi, fun q hq => ?_⟩
      have hb := hda q hq
      have hn := hin q hq
      obtain ⟨s, hs, hse⟩ := h3 _ (by omega) hb
      exact ⟨s, by omega, by rw [ig_snoc, if_pos hs, hse]; omega⟩
  · rw [bg_set (by omega)] at hb
    by_cases e : i = j
    · subst e
      exact ⟨out.length, by simp, by rw [ig_snoc, if_neg (by omega), if_pos rfl]⟩
    · rw [if_neg e] at hb
      obtain ⟨r, hr', he⟩ := h3 j hj hb
      exact ⟨r, by simp; omega, by rw [ig_snoc, if_pos hr', he]⟩
  · simp at hr'
    rw [bg_set (by omega)]
    by_cases hlt : r < out.length
    · rw [ig_snoc, if_pos hlt]
      split
      · rfl
      · exact h4 r hlt
    · rw [ig_snoc, if_neg hlt, if_pos (by omega)]
  · rw [List.nodup_append]
    refine ⟨h5, by simp, fun x hx y hy => ?_⟩
    simp at hy
    subst hy
    intro e
    subst e
    obtain ⟨r, hr', he⟩ := List.getElem_of_mem hx
    have := h4 r hr'
    rw [ig_lt hr', he] at this
    rw [Int.toNat_natCast, ho] at this
    cases this

theorem grd_end {l : List Tk} (hv : VT l) : ∀ (n : Nat) (d : List Bool) (out : List Int), d.length = l.length → d.count false = n → Built l d out → ∃ d', d'.length = l.length ∧ Built l d' (grd l n d out) ∧ (nxt l d' = none ∨ d'.count false = 0)
  | 0, d, out, hd, hc, hb => ⟨d, hd, hb, .inr hc⟩
  | n + 1, d, out, hd, hc, hb => by
    unfold grd
    cases hn : nxt l d with
    | none => exact ⟨d, hd, hb, .inl hn⟩
    | some i =>
      have h1 := hn
      unfold nxt at h1
      have hr := List.find?_some h1
      have hm := List.mem_of_find?_eq_some h1
      simp at hm
      have hcs := count_set (d := d) (i := i) (by omega) (rdy_open hr)
      exact grd_end hv n _ _ (by simpa using hd) (by omega) (hb.step hv hd hm hr)
theorem order_built {l : List Tk} (hv : VT l) : ∃ d', d'.length = l.length ∧ Built l d' (orderOf l) ∧ (nxt l d' = none ∨ d'.count false = 0) :=
  grd_end hv _ _ _ (by simp) (by simp) (Built.start l)
theorem done_of {l : List Tk} {d : List Bool} (hd : d.length = l.length) (h : nxt l d = none ∨ d.count false = 0) {i : Nat} {x : Int} (hx : HV l i x) : bg d i = true := by
  rcases h with h | h
  · induction hx with
    | mk i hi f _ ih =>
      cases hb : bg d i
      · have hr : rdy l d i = true := by
          unfold rdy
          rw [hb, allDone_iff.2 fun r hr => ih r hr]
          rfl
        unfold nxt at h
        rw [List.find?_eq_none] at h
        exact absurd hr (h i (by simpa using hi))
      · rfl
  · have hi := hx.lt
    rw [bg_lt (by omega)]
    cases hb : d[i]
    · have : 0 < d.count false := List.count_pos_iff.2 (hb ▸ List.getElem_mem (by omega))
      omega
    · rfl
/-- the order is whole exactly if every task has a value -/
theorem order_full {l : List Tk} (hv : VT l) : (orderOf l).length = l.length ↔ ∀ i, i < l.length → ∃ x, HV l i x := by
  obtain ⟨d, hd, ⟨h1, h2, h3, h4, h5⟩, hn⟩ := order_built hv
  have hle : (orderOf l).length ≤ l.length := by
    have hsub : ∀ x ∈ orderOf l, x ∈ (List.range l.length).map (fun n : Nat => (n : Int)) := fun x hx => by
      obtain ⟨r, hr, rfl⟩ := List.getElem_of_mem hx
      obtain ⟨i, hi, hil, _⟩ := h2 r hr
      rw [ig_lt hr] at hi
      rw [hi]
      exact List.mem_map.2 ⟨i, by simpa using hil, rfl⟩
    have := nodup_le h5 hsub
    simpa using this
  constructor
  · intro hl i hi
    refine h1 i hi ?_
    cases hb : bg d i
    · exfalso
      have hsub : ∀ x ∈ orderOf l, x ∈ ((List.range l.length).erase i).map (fun n : Nat => (n : Int)) := fun x hx => by
        obtain ⟨r, hr, rfl⟩ := List.getElem_of_mem hx
        obtain ⟨j, hj, hjl, _⟩ := h2 r hr
        have hbj := h4 r hr
        rw [hj] at hbj
        rw [ig_lt hr] at hj
        rw [hj]
        refine List.mem_map.2 ⟨j, ?_, rfl⟩
        rw [List.Nodup.mem_erase_iff List.nodup_range]
        refine ⟨fun e => ?_, by simpa using hjl⟩
        subst e
        rw [Int.toNat_natCast, hb] at hbj
        cases hbj
      have := nodup_le h5 hsub
      rw [List.length_map, List.length_erase_of_mem (by simpa using hi), List.length_range] at this
      omega
    · rfl
  · intro h
    have hsub : ∀ x ∈ (List.range l.length).map (fun n : Nat => (n : Int)), x ∈ orderOf l := fun x hx => by
      simp at hx
      obtain ⟨i, hi, rfl⟩ := hx
      obtain ⟨x, hx⟩ := h i hi
      obtain ⟨r, hr, he⟩ := h3 i hi (done_of hd hn hx)
      rw [ig_lt hr] at he
      rw [← he]
      exact List.getElem_mem hr
    have hnd : ((List.range l.length).map (fun n : Nat => (n : Int))).Nodup := by
      exact List.Pairwise.map _ (fun a b h e => h (by omega)) (List.nodup_range (n := l.length))
    have := nodup_le hnd hsub
    simp at this
    omega
end Go.Proofs.Ytoblmecgnpoogaa

