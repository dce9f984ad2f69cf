/- Plain facts on the hours of tasks, and on one task that waits for one more. -/
import Derived.Test.YtidbmllelnffdaaFree
import Derived.Test.YtidbmllelnffdaaMat
namespace Go.Proofs.Ytidbmllelnffdaa
open Go.RowKit

theorem mx_ge {f : Nat → Int} {a : List Int} {r : Nat} (hr : r < a.length) : f (ig a r).toNat ≤ mx f a := by
  have h : ∀ q, q ≤ a.length → r < q → f (ig a r).toNat ≤ mx f (a.take q) := fun q => by
    induction q with
    | zero => intro _ h; omega
    | succ q ih =>
      intro h1 h2
      rw [mx_take f a (by omega)]
      by_cases e : r = q
      · subst e; omega
      · have := ih (by omega) (by omega)
        omega
  have := h a.length (Nat.le_refl _) hr
  rwa [List.take_length] at this
theorem mx_le {f : Nat → Int} {a : List Int} {b : Int} (hb : 0 ≤ b) (h : ∀ r, r < a.length → f (ig a r).toNat ≤ b) : 0 ≤ mx f a ∧ mx f a ≤ b := by
  have := mx_bound hb h a.length (Nat.le_refl _)
  rwa [List.take_length] at this
theorem mx_pos (f : Nat → Int) (a : List Int) : 0 ≤ mx f a := by
  have h : ∀ q, q ≤ a.length → 0 ≤ mx f (a.take q) := fun q => by
    induction q with
    | zero => intro _; rw [mx_zero]; omega
    | succ q ih =>
      intro h
      rw [mx_take f a (by omega)]
      have := ih (by omega)
      omega
  have := h a.length (Nat.le_refl _)
  rwa [List.take_length] at this
theorem HV.eq {l : List Tk} {i : Nat} {x : Int} (h : HV l i x) : x = mx (hv l) (tg l i).after + (tg l i).hours := by
  have hi := h.lt
  have := HV.step hi fun r hr => hv_spec (h.dep ⟨r, hr, rfl⟩)
  exact h.uniq this
theorem HV.dep_le {l : List Tk} {i k : Nat} {x : Int} (h : HV l i x) (hd : Dep l i k) : hv l k + (tg l i).hours ≤ x := by
  obtain ⟨r, hr, rfl⟩ := hd
  rw [h.eq]
  have := mx_ge (f := hv l) hr
  omega
theorem HV.own_le {l : List Tk} {i : Nat} {x : Int} (h : HV l i x) : (tg l i).hours ≤ x := by
  rw [h.eq]
  have := mx_pos (hv l) (tg l i).after
  omega
theorem crit_ge {l : List Tk} {i : Nat} (hi : i < l.length) : hv l i ≤ crit l := by
  unfold crit
  have := mx_ge (f := hv l) (a := (List.range l.length).map fun n : Nat => (n : Int)) (r := i) (by simpa using hi)
  have e : ig ((List.range l.length).map fun n : Nat => (n : Int)) i = i := by simp [ig, List.getD, hi]
  rw [e, Int.toNat_natCast] at this
  exact this
theorem crit_le {l : List Tk} {b : Int} (hb : 0 ≤ b) (h : ∀ i, i < l.length → hv l i ≤ b) : crit l ≤ b := by
  unfold crit
  refine (mx_le hb fun r hr => ?_).2
  have hr' : r < l.length := by simpa using hr
  have e : ig ((List.range l.length).map fun n : Nat => (n : Int)) r = r := by simp [ig, List.getD, hr']
  rw [e, Int.toNat_natCast]
  exact h r hr'
/-- all have a value -/
theorem all_hv {l : List Tk} (hv' : VT l) (h : ¬ (orderOf l).length < l.length) {i : Nat} (hi : i < l.length) : HV l i (hv l i) :=
  hv_spec ((order_full hv').1 (by have := order_le hv'; omega) i hi)
theorem crit_own {l : List Tk} (hv' : VT l) (h : ¬ (orderOf l).length < l.length) {i : Nat} (hi : i < l.length) : (tg l i).hours ≤ crit l := by
  have h1 := (all_hv hv' h hi).own_le
  have h2 := crit_ge hi
  omega
theorem crit_two {l : List Tk} (hv' : VT l) (h : ¬ (orderOf l).length < l.length) {i k : Nat} (hd : Dep l i k) : (tg l i).hours + (tg l k).hours ≤ crit l := by
  have hk := hd.lt2 hv'
  have h1 := (all_hv hv' h hd.lt).dep_le hd
  have h2 := (all_hv hv' h hk).own_le
  have h3 := crit_ge hd.lt
  omega
/-- the sum of all hours -/
def hsum (l : List Tk) (i : Nat) : Int := ((List.range i).map fun k => (tg l k).hours).sum
theorem hsum_succ (l : List Tk) (i : Nat) : hsum l (i + 1) = hsum l i + (tg l i).hours := by simp [hsum, List.range_succ]
theorem hsum_bound {l : List Tk} (hv' : VT l) : ∀ i, i ≤ l.length → 0 ≤ hsum l i ∧ hsum l i ≤ 1000 * i
  | 0, _ => by simp [hsum]
  | i + 1, hi => by
    obtain ⟨h1, h2, _⟩ := hv'.2 i (by omega)
    have := hsum_bound hv' i (by omega)
    rw [hsum_succ]
    omega
theorem sum_erase (f : Int → Int) {x : Int} : ∀ {b : List Int}, x ∈ b → (b.map f).sum = f x + ((b.erase x).map f).sum
  | [], h => absurd h (by simp)
  | y :: b, h => by
    by_cases e : y = x
    · subst e
      rw [List.erase_cons_head]
      simp only [List.map_cons, List.sum_cons]
    · rw [List.erase_cons_tail (by simpa using e)]
      have h' : x ∈ b := by
        rcases List.mem_cons.1 h with h | h
        · exact absurd h.symm e
        · exact h
      have := sum_erase f h'
      simp only [List.map_cons, List.sum_cons]
      omega
theorem nodup_sum {f : Int → Int} : ∀ {a b : List Int}, a.Nodup → (∀ x ∈ a, x ∈ b) → (∀ x ∈ b, 0 ≤ f x) → (a.map f).sum ≤ (b.map f).sum
  | [], b, _, _, hf => by
    have : ∀ b : List Int, (∀ x ∈ b, 0 ≤ f x) → 0 ≤ (b.map f).sum := fun b => by
      induction b with
      | nil => intro _; simp
      | cons y b ih =>
        intro h
        have h1 := h y (by simp)
        have h2 := ih fun x hx => h x (by simp [hx])
        simp
        omega
    simpa using this b hf
  | x :: a, b, hn, hs, hf => by
    rw [List.nodup_cons] at hn
    have h1 := hs x (by simp)
    have h2 := nodup_sum (f := f) (a := a) (b := b.erase x) hn.2 (fun y hy => by
      rw [List.mem_erase_of_ne (by intro e; subst e; exact hn.1 hy)]
      exact hs y (by simp [hy])) (fun y hy => hf y (List.mem_of_mem_erase hy))
    have h3 := sum_erase f h1
    simp only [List.map_cons, List.sum_cons]
    omega
/-- the critical hours are at most those of all -/
theorem crit_sum {l : List Tk} (hv' : VT l) (h : ¬ (orderOf l).length < l.length) : crit l ≤ hsum l l.length := by
  have hol : (orderOf l).length = l.length := by have := order_le hv'; omega
  have hh : ∀ i, i < l.length → 0 ≤ (tg l i).hours := fun i hi => by have := (hv'.2 i hi).1; omega
  -- by the place in the order
  have hpos : ∀ n r t, r < n → r < (orderOf l).length → ig (orderOf l) r = (t : Nat) → hv l t ≤ (((orderOf l).take (r + 1)).map fun x => (tg l x.toNat).hours).sum := fun n => by
    induction n with
    | zero => intro r _ h; omega
    | succ n ih =>
      intro r t hrn hr ht
      obtain ⟨t', ht', htl, _, hne, _⟩ := order_like hv' hr
      obtain rfl : t' = t := by omega
      have hv1 := (all_hv hv' h htl).eq
      rw [hv1, List.take_succ_eq_append_getElem hr, List.map_append, List.sum_append]
      have hx : (orderOf l)[r] = (t' : Int) := by rw [← ig_lt hr]; exact ht
      have hs0 : ∀ q, q ≤ (orderOf l).length → 0 ≤ (((orderOf l).take q).map fun x => (tg l x.toNat).hours).sum := fun q => by
        induction q with
        | zero => intro _; simp
        | succ q ihq =>
          intro hq
          obtain ⟨u, hu, hul, _⟩ := order_like hv' (r := q) (by omega)
          have hxu : (orderOf l)[q]'(by omega) = (u : Int) := by rw [← ig_lt (by omega)]; exact hu
          rw [List.take_succ_eq_append_getElem (by omega), List.map_append, List.sum_append, hxu]
          have := ihq (by omega)
          have := hh u hul
          simp only [List.map_cons, List.map_nil, List.sum_cons, List.sum_nil, Int.toNat_natCast]
          omega
      have hmono : ∀ p q, p ≤ q → q ≤ (orderOf l).length → (((orderOf l).take p).map fun x => (tg l x.toNat).hours).sum ≤ (((orderOf l).take q).map fun x => (tg l x.toNat).hours).sum := fun p q => by
        induction q with
        | zero => intro h1 _; have : p = 0 := by omega
                  subst this; exact Int.le_refl _
        | succ q ihq =>
          intro h1 hq
          by_cases e : p = q + 1
          · subst e; exact Int.le_refl _
          · obtain ⟨u, hu, hul, _⟩ := order_like hv' (r := q) (by omega)
            have hxu : (orderOf l)[q]'(by omega) = (u : Int) := by rw [← ig_lt (by omega)]; exact hu
            have := ihq (by omega) (by omega)
            have := hh u hul
            rw [List.take_succ_eq_append_getElem (by omega : q < (orderOf l).length), List.map_append, List.sum_append, hxu]
            simp only [List.map_cons, List.map_nil, List.sum_cons, List.sum_nil, Int.toNat_natCast]
            omega
      have hb := (mx_le (f := hv l) (a := (tg l t').after) (hs0 r (by omega)) fun q hq => by
        obtain ⟨s, hs, hse⟩ := hne _ (.one ⟨q, hq, rfl⟩)
        have h1 := ih s (ig (tg l t').after q).toNat (by omega) (by omega) hse
        have h2 := hmono (s + 1) r (by omega) (by omega)
        omega).2
      rw [hx]
      simp only [List.map_cons, List.map_nil, List.sum_cons, List.sum_nil, Int.toNat_natCast]
      omega
  have hall : (((orderOf l)).map fun x => (tg l x.toNat).hours).sum ≤ hsum l l.length := by
    obtain ⟨d, hd, ⟨_, _, _, _, h5⟩, _⟩ := order_built hv'
    have hsub : ∀ x ∈ orderOf l, x ∈ (List.range l.length).map (fun n : Nat => (n : Int)) := fun x hx => by
      obtain ⟨r, hr, rfl⟩ := List.getElem_of_mem hx
      obtain ⟨t, ht, htl, _⟩ := order_like hv' hr
      rw [ig_lt hr] at ht
      rw [ht]
      exact List.mem_map.2 ⟨t, by simpa using htl, rfl⟩
    have := nodup_sum (f := fun x => (tg l x.toNat).hours) h5 hsub fun x hx => by
      obtain ⟨t, ht, rfl⟩ := List.mem_map.1 hx
      exact hh t (by simpa using ht)
    rw [List.map_map] at this
    exact this
  have hb0 := (hsum_bound hv' l.length (Nat.le_refl _)).1
  refine crit_le hb0 fun i hi => ?_
  -- where task i stands
  obtain ⟨d, hd, ⟨h1, _, h3, _, _⟩, hn⟩ := order_built hv'
  obtain ⟨r, hr, he⟩ := h3 i hi (done_of hd hn (all_hv hv' h hi))
  have h2 := hpos (r + 1) r i (by omega) hr he
  have hsp : (((orderOf l).take (r + 1)).map fun x => (tg l x.toNat).hours).sum ≤ (((orderOf l)).map fun x => (tg l x.toNat).hours).sum := by
    have e : (orderOf l) = (orderOf l).take (r + 1) ++ (orderOf l).drop (r + 1) := (List.take_append_drop _ _).symm
    have hd0 : 0 ≤ (((orderOf l).drop (r + 1)).map fun x => (tg l x.toNat).hours).sum := by
      have : ∀ b : List Int, (∀ x ∈ b, 0 ≤ (tg l x.toNat).hours) → 0 ≤ (b.map fun x => (tg l x.toNat).hours).sum := fun b => by
        induction b with
        | nil => intro _; simp
        | cons y b ih =>
          intro h
          have h1 := h y (by simp)
          have h2 := ih fun x hx => h x (by simp [hx])
          simp
          omega
      refine this _ fun x hx => ?_
      obtain ⟨q, hq, rfl⟩ := List.getElem_of_mem (List.mem_of_mem_drop hx)
      obtain ⟨t, ht, htl, _⟩ := order_like hv' hq
      rw [ig_lt hq] at ht
      rw [ht]
      exact hh t htl
    have e2 : (((orderOf l)).map fun x => (tg l x.toNat).hours).sum = (((orderOf l).take (r + 1)).map fun x => (tg l x.toNat).hours).sum + (((orderOf l).drop (r + 1)).map fun x => (tg l x.toNat).hours).sum := by
      conv => lhs; rw [e]
      rw [List.map_append, List.sum_append]
    omega
  omega
/-- with more to wait for, no less hours -/
theorem HV.mono {l m : List Tk} (hd : ∀ i k, Dep l i k → Dep m i k) (hh : ∀ i, (tg m i).hours = (tg l i).hours) {i : Nat} {x : Int} (h : HV l i x) : ∀ y, HV m i y → x ≤ y := by
  induction h with
  | mk i hi f h ih =>
    intro y hy
    rw [hy.eq, hh]
    have := (mx_le (f := f) (a := (tg l i).after) (mx_pos (hv m) (tg m i).after) fun r hr => by
      have hdm := hd i _ ⟨r, hr, rfl⟩
      obtain ⟨z, hz⟩ := hy.dep hdm
      have h1 := ih r hr z hz
      rw [← hv_eq hz] at h1
      obtain ⟨r', hr', he⟩ := hdm
      have h2 := mx_ge (f := hv m) hr'
      rw [he] at h2
      omega).2
    omega
theorem crit_mono {l m : List Tk} (hvl : VT l) (hvm : VT m) (hlen : m.length = l.length) (hd : ∀ i k, Dep l i k → Dep m i k) (hh : ∀ i, (tg m i).hours = (tg l i).hours) (hl : ¬ (orderOf l).length < l.length) (hm : ¬ (orderOf m).length < m.length) : crit l ≤ crit m := by
  refine crit_le ?_ fun i hi => ?_
  · unfold crit
    exact mx_pos _ _
  · have h1 := (all_hv hvl hl hi).mono hd hh _ (all_hv hvm hm (by omega))
    have h2 := crit_ge (l := m) (i := i) (by omega)
    omega
end Go.Proofs.Ytidbmllelnffdaa
