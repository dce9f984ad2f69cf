/- Plain facts: where nothing is ready, every task that is left leads to a cycle; what the order is like; undoing twice. -/
import Derived.Test.YtidbmllelnffdaaTaskL
namespace Go.Proofs.Ytidbmllelnffdaa
open Go.RowKit

theorem pigeon {n : Nat} (s : Nat → Nat) (h : ∀ a, s a < n) : ∃ a b, a < b ∧ s a = s b := by
  refine Classical.byContradiction fun hn => ?_
  have hnd : ((List.range (n + 1)).map fun a => (s a : Int)).Nodup := by
    unfold List.Nodup
    rw [List.pairwise_map]
    refine List.Pairwise.imp (R := fun a b : Nat => a < b) (fun {a b} hab (e : (s a : Int) = (s b : Int)) => hn ⟨a, b, hab, by omega⟩) List.pairwise_lt_range
  have := nodup_le hnd (b := (List.range n).map fun a : Nat => (a : Int)) fun x hx => by
    obtain ⟨a, _, rfl⟩ := List.mem_map.1 hx
    exact List.mem_map.2 ⟨s a, by simpa using h a, rfl⟩
  simp at this
  omega
theorem nxt_all {l : List Tk} {d : List Bool} (h : nxt l d = none) : ∀ j, j < l.length → rdy l d j = false := fun j hj => by
  unfold nxt at h
  rw [List.find?_eq_none] at h
  simpa using h j (by simpa using hj)
theorem left_step {l : List Tk} (hv' : VT l) {d : List Bool} (hn : ∀ i, i < l.length → rdy l d i = false) {i : Nat} (hi : i < l.length) (hb : bg d i = false) : ∃ j, j < l.length ∧ bg d j = false ∧ Dep l i j := by
  have hr := hn i hi
  unfold rdy at hr
  rw [hb] at hr
  simp at hr
  refine Classical.byContradiction fun hx => ?_
  rw [allDone_true fun r hr' => ?_] at hr
  · cases hr
  · have hin := good_in ((hv'.2 i hi).2.2.2.2) hr'
    cases hc : bg d (ig (tg l i).after r).toNat
    · exact absurd ⟨_, by omega, hc, r, hr', rfl⟩ hx
    · rfl
/-- where nothing is ready, what is not done leads to a cycle -/
theorem stuck_of {l : List Tk} (hv' : VT l) {d : List Bool} (hn : ∀ i, i < l.length → rdy l d i = false) {i : Nat} (hi : i < l.length) (hb : bg d i = false) : ∃ k, k < l.length ∧ (k = i ∨ Need l i k) ∧ Need l k k := by
  classical
  have hstep : ∀ x : { j : Nat // j < l.length ∧ bg d j = false }, ∃ y : { j : Nat // j < l.length ∧ bg d j = false }, Dep l x.1 y.1 := fun x => by
    obtain ⟨j, h1, h2, h3⟩ := left_step hv' hn x.2.1 x.2.2
    exact ⟨⟨j, h1, h2⟩, h3⟩
  let s : Nat → { j : Nat // j < l.length ∧ bg d j = false } := fun n => Nat.rec ⟨i, hi, hb⟩ (fun _ x => Classical.choose (hstep x)) n
  have hs : ∀ n, Dep l (s n).1 (s (n + 1)).1 := fun n => Classical.choose_spec (hstep (s n))
  have hneed : ∀ a b, a < b → Need l (s a).1 (s b).1 := fun a b hab => by
    induction b with
    | zero => omega
    | succ b ih =>
      by_cases e : a = b
      · subst e; exact .one (hs a)
      · exact (ih (by omega)).snoc (hs b)
  obtain ⟨a, b, hab, he⟩ := pigeon (fun n => (s n).1) fun n => (s n).2.1
  refine ⟨(s a).1, (s a).2.1, ?_, ?_⟩
  · by_cases e : a = 0
    · subst e; exact .inl rfl
    · exact .inr (hneed 0 a (by omega))
  · have := hneed a b hab
    have he' : (s a).1 = (s b).1 := he
    rw [← he'] at this
    exact this
def Stuck (l : List Tk) (i : Nat) : Prop := Need l i i ∨ ∃ k, k < l.length ∧ Need l i k ∧ Need l k k
theorem end_done {l : List Tk} (hv' : VT l) {d : List Bool} (h1 : ∀ i, i < l.length → bg d i = true → ∃ x, HV l i x) (hn : ∀ i, i < l.length → rdy l d i = false) {i : Nat} (hi : i < l.length) : bg d i = true ↔ ¬ Stuck l i := by
  constructor
  · intro hb hs
    obtain ⟨x, hx⟩ := h1 i hi hb
    rcases hs with hs | ⟨k, _, h2, h3⟩
    · exact hx.irrefl hs
    · obtain ⟨y, hy⟩ := hx.need h2
      exact hy.irrefl h3
  · intro hs
    refine Classical.byContradiction fun hb => ?_
    obtain ⟨k, hk, h2, h3⟩ := stuck_of hv' hn hi (by simpa using hb)
    rcases h2 with rfl | h2
    · exact hs (.inl h3)
    · exact hs (.inr ⟨k, hk, h2, h3⟩)
theorem order_acyc {l : List Tk} (hv' : VT l) (h : ∀ i, i < l.length → ¬ Need l i i) : ¬ (orderOf l).length < l.length := by
  have := (order_full hv').2 fun i hi => ?_
  · omega
  · obtain ⟨d, hd, ⟨h1, _⟩, hn⟩ := order_built hv'
    cases hb : bg d i
    · exfalso
      rcases hn with hn | hn
      · obtain ⟨k, hk, _, h3⟩ := stuck_of hv' (nxt_all hn) hi hb
        exact h k hk h3
      · have hf : d[i]'(by omega) = false := by rw [← bg_lt]; exact hb
        have : 0 < d.count false := List.count_pos_iff.2 (hf ▸ List.getElem_mem (by omega))
        omega
    · exact h1 i hi hb
theorem no_cycle {l : List Tk} (hv' : VT l) (h : ¬ (orderOf l).length < l.length) (i : Nat) : ¬ Need l i i := fun hn => h (order_cycle hv' ⟨i, hn⟩)

/-- undoing twice -/
theorem und_clo {l : List Tk} (hv' : VT l) {d : List Bool} {t : Nat} (hc : clo l d = true) : clo l (und l d t) = true := by
  rw [clo_iff]
  intro i hi hb
  rw [bg_und d t hi] at hb
  simp at hb
  obtain ⟨hb1, hb2, hb3⟩ := hb
  refine allDone_iff.2 fun r hr => ?_
  have hin := good_in ((hv'.2 i hi).2.2.2.2) hr
  have hdr := allDone_iff.1 (clo_iff.1 hc i hi hb1) r hr
  rw [bg_und d t (by omega), hdr]
  have hdep : Dep l i (ig (tg l i).after r).toNat := ⟨r, hr, rfl⟩
  have h1 : ¬ ((ig (tg l i).after r).toNat = t ∨ Need l (ig (tg l i).after r).toNat t) := by
    rintro (e | hn)
    · exact hb3 (.one (e ▸ hdep))
    · exact hb3 (.more hdep hn)
  simp [h1]
open Classical in
theorem und_comm (l : List Tk) (d : List Bool) (t u : Nat) : und l (und l d t) u = und l (und l d u) t := by
  refine bools_ext (by rw [und_len, und_len]) fun i hi => ?_
  rw [und_len] at hi
  rw [bg_und _ _ hi, bg_und _ _ hi, bg_und _ _ hi, bg_und _ _ hi, Bool.and_assoc, Bool.and_assoc, Bool.and_comm (!decide (i = t ∨ Need l i t))]
theorem und_ready {l : List Tk} (hv' : VT l) {d : List Bool} {t : Nat} (ho : ¬ (orderOf l).length < l.length) (hc : clo l d = true) (ht : t < l.length) (hb : bg d t = true) : rdy l (und l d t) t = true := by
  unfold rdy
  have e1 : bg (und l d t) t = false := by rw [bg_und d t ht]; simp
  rw [e1, allDone_true fun r hr => ?_]
  · rfl
  · have hin := good_in ((hv'.2 t ht).2.2.2.2) hr
    rw [bg_und d t (by omega), allDone_iff.1 (clo_iff.1 hc t ht hb) r hr]
    have hdep : Dep l t (ig (tg l t).after r).toNat := ⟨r, hr, rfl⟩
    have h1 : ¬ ((ig (tg l t).after r).toNat = t ∨ Need l (ig (tg l t).after r).toNat t) := by
      rintro (e | hn)
      · rw [e] at hdep; exact no_cycle hv' ho t (.one hdep)
      · exact no_cycle hv' ho t (.more hdep hn)
    simp [h1]

/-- the greedy search takes a lesser task behind a greater one only where it waits for this one -/
def Gr (l : List Tk) (d : List Bool) (out : List Int) : Prop :=
  (∀ r, 0 < r → r < out.length → ig out (r - 1) < ig out r ∨ Dep l (ig out r).toNat (ig out (r - 1)).toNat) ∧
  ∀ n, out.length = n + 1 → (∃ i : Nat, ig out n = i ∧ bg d i = true) ∧ ∀ j : Nat, (j : Int) < ig out n → rdy l d j = true → Dep l j (ig out n).toNat
theorem Gr.start (l : List Tk) (d : List Bool) : Gr l d [] := ⟨fun r _ h => absurd h (by simp), fun n h => absurd h (by simp)⟩
theorem Gr.step {l : List Tk} {d : List Bool} {out : List Int} {i : Nat} (h : Gr l d out) (hd : d.length = l.length) (hi : i < l.length) (hn : nxt l d = some i) (hr : rdy l d i = true) : Gr l (d.set i true) (out ++ [(i : Int)]) := by
  obtain ⟨h1, h2⟩ := h
  unfold nxt at hn
  rw [List.find?_eq_some_iff_getElem] at hn
  obtain ⟨_, i', hi', hge, hlt⟩ := hn
  simp at hge
  subst hge
  have hlt' : ∀ j, j < i' → rdy l d j = false := fun j hj => by simpa using hlt j hj
  refine ⟨fun r h0 hr' => ?_, fun n hn' => ?_⟩
  · simp at hr'
    by_cases e : r < out.length
    · rw [ig_snoc, if_pos (by omega), ig_snoc, if_pos e]
      exact h1 r h0 e
    · have e' : r = out.length := by omega
      rw [ig_snoc, if_pos (by omega), ig_snoc, if_neg e, if_pos e']
      obtain ⟨⟨p, hp, hbp⟩, h3⟩ := h2 (r - 1) (by omega)
      by_cases hc : ig out (r - 1) < (i' : Int)
      · exact .inl hc
      · right
        have hne : i' ≠ p := fun e => by subst e; rw [rdy_open hr] at hbp; cases hbp
        exact h3 i' (by omega) hr
  · simp at hn'
    subst hn'
    rw [ig_snoc, if_neg (by omega), if_pos rfl]
    refine ⟨⟨i', rfl, by rw [bg_set (by omega), if_pos rfl]⟩, fun j hj hrj => ?_⟩
    have hj' : j < i' := by omega
    have hno := hlt' j hj'
    have hbj := rdy_open hrj
    rw [bg_set (by omega), if_neg (by omega)] at hbj
    unfold rdy at hno hrj
    rw [hbj] at hno
    simp at hno
    have hall : allDone (d.set i' true) (tg l j).after = true := by
      rw [Bool.and_eq_true] at hrj
      exact hrj.2
    rw [Int.toNat_natCast]
    refine Classical.byContradiction fun hx => ?_
    rw [allDone_true fun r hr' => ?_] at hno
    · cases hno
    · have hb := allDone_iff.1 hall r hr'
      rw [bg_set (by omega)] at hb
      by_cases e : i' = (ig (tg l j).after r).toNat
      · exact absurd ⟨r, hr', e.symm⟩ hx
      · rwa [if_neg e] at hb
theorem grd_gr {l : List Tk} (hv : VT l) : ∀ (n : Nat) (d : List Bool) (out : List Int), d.length = l.length → d.count false = n → Gr l d out → ∃ d', Gr l d' (grd l n d out)
  | 0, d, out, _, _, hb => ⟨d, hb⟩
  | n + 1, d, out, hd, hc, hb => by
    unfold grd
    cases hn : nxt l d with
    | none => exact ⟨d, hb⟩
    | some i =>
      have h1 := hn
      unfold nxt at h1
      have hr := List.find?_some h1
      have hm := List.mem_of_find?_eq_some h1
      simp at hm
      have hcs := count_set (d := d) (i := i) (by omega) (rdy_open hr)
      exact grd_gr hv n _ _ (by simpa using hd) (by omega) (hb.step hd hm hn hr)
/-- what the order is like -/
theorem order_like {l : List Tk} (hv' : VT l) {r : Nat} (hr : r < (orderOf l).length) : ∃ t : Nat, ig (orderOf l) r = t ∧ t < l.length ∧ (∀ s, s < r → ig (orderOf l) s ≠ t) ∧ (∀ k, Need l t k → ∃ s, s < r ∧ ig (orderOf l) s = k) ∧
    (0 < r → ig (orderOf l) (r - 1) < t ∨ Dep l t (ig (orderOf l) (r - 1)).toNat) := by
  obtain ⟨d, hd, ⟨h1, h2, h3, h4, h5⟩, _⟩ := order_built hv'
  obtain ⟨d', hg, _⟩ := grd_gr hv' l.length (List.replicate l.length false) [] (by simp) (by simp) (Gr.start l (List.replicate l.length false))
  have hg' : ∀ r, 0 < r → r < (orderOf l).length → ig (orderOf l) (r - 1) < ig (orderOf l) r ∨ Dep l (ig (orderOf l) r).toNat (ig (orderOf l) (r - 1)).toNat := hg
  have hneed : ∀ (t k : Nat), Need l t k → ∀ r, r < (orderOf l).length → ig (orderOf l) r = t → ∃ s, s < r ∧ ig (orderOf l) s = k := fun t k hn => by
    have hdep : ∀ (i j r : Nat), Dep l i j → r < (orderOf l).length → ig (orderOf l) r = i → ∃ s, s < r ∧ ig (orderOf l) s = j := fun i j r hij hr he => by
      obtain ⟨q, hq, rfl⟩ := hij
      obtain ⟨i', hi', hil, h⟩ := h2 r hr
      obtain rfl : i' = i := by omega
      obtain ⟨s, hs, hse⟩ := h q hq
      have hin := good_in ((hv'.2 i' hil).2.2.2.2) hq
      exact ⟨s, hs, by rw [hse]; omega⟩
    induction hn with
    | one h => exact fun r hr he => hdep _ _ r h hr he
    | more h _ ih =>
      intro r hr he
      obtain ⟨s, hs, hse⟩ := hdep _ _ r h hr he
      obtain ⟨s', hs', hse'⟩ := ih s (by omega) hse
      exact ⟨s', by omega, hse'⟩
  obtain ⟨t, ht, htl, _⟩ := h2 r hr
  refine ⟨t, ht, htl, fun s hs he => ?_, fun k hk => hneed t k hk r hr ht, fun h0 => ?_⟩
  · rw [← ht] at he
    rw [ig_lt (by omega), ig_lt hr] at he
    unfold List.Nodup at h5
    rw [List.pairwise_iff_getElem] at h5
    exact h5 s r (by omega) hr hs he
  · have := hg' r h0 hr
    rw [ht, Int.toNat_natCast] at this
    exact this
end Go.Proofs.Ytidbmllelnffdaa

