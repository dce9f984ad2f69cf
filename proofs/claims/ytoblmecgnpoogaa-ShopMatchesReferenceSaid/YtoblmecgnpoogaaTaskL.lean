/- Plain facts on undoing a task; no program in sight. -/
import Derived.Test.YtoblmecgnpoogaaTaskK
namespace Go.Proofs.Ytoblmecgnpoogaa
open Go.RowKit

open Classical in
/-- what is done when task t is undone -/
noncomputable def und (l : List Tk) (d : List Bool) (t : Nat) : List Bool := (List.range l.length).map fun i => bg d i && !decide (i = t ∨ Need l i t)
theorem und_len (l : List Tk) (d : List Bool) (t : Nat) : (und l d t).length = l.length := by simp [und]
open Classical in
theorem bg_und {l : List Tk} (d : List Bool) (t : Nat) {i : Nat} (hi : i < l.length) : bg (und l d t) i = (bg d i && !decide (i = t ∨ Need l i t)) := by
  rw [bg_lt (by rw [und_len]; exact hi)]
  simp [und]
def clo (l : List Tk) (d : List Bool) : Bool := (List.range l.length).all fun i => !bg d i || allDone d (tg l i).after
theorem clo_iff {l : List Tk} {d : List Bool} : clo l d = true ↔ ∀ i, i < l.length → bg d i = true → allDone d (tg l i).after = true := by
  unfold clo
  rw [List.all_eq_true]
  constructor
  · intro h i hi hb
    have := h i (by simpa using hi)
    rw [hb] at this
    simpa using this
  · intro h i hi
    cases hb : bg d i
    · rfl
    · rw [h i (by simpa using hi) hb]; rfl
theorem bcount_put {d : List Bool} {i : Nat} {x y : Bool} (hi : i < d.length) (h : bg d i = x) : (d.set i y).count true + (if x then 1 else 0) = d.count true + (if y then 1 else 0) := by
  rw [List.count_set hi]
  rw [bg_lt hi] at h
  rw [h]
  have hp : x = true → 0 < d.count true := fun e => List.count_pos_iff.2 (by rw [← e, ← h]; exact List.getElem_mem hi)
  cases x <;> cases y <;> simp
  · have := hp rfl; omega
  · have := hp rfl; omega

/-- while tasks are taken back -/
def UI (l : List Tk) (d : List Bool) (t : Nat) (out : List Bool) : Prop := out.length = l.length ∧ (∀ i, i < l.length → bg out i = true → bg d i = true) ∧ (∀ i, i < l.length → bg d i = true → bg out i = false → i = t ∨ Need l i t) ∧ bg out t = false
theorem UI.start {l : List Tk} {d : List Bool} {t : Nat} (hd : d.length = l.length) (ht : t < l.length) : UI l d t (d.set t false) := by
  refine ⟨by simpa using hd, fun i hi h => ?_, fun i hi h h' => ?_, ?_⟩
  · rw [bg_set (by omega)] at h
    split at h
    · cases h
    · exact h
  · rw [bg_set (by omega)] at h'
    split at h'
    · exact .inl (by omega)
    · rw [h] at h'; cases h'
  · rw [bg_set (by omega), if_pos rfl]
theorem UI.step {l : List Tk} (hv' : VT l) {d out : List Bool} {t i : Nat} (h : UI l d t out) (hc : clo l d = true) (hi : i < l.length) (hb : bg out i = true) (hw : allDone out (tg l i).after = false) : UI l d t (out.set i false) ∧ (out.set i false).count true + 1 = out.count true := by
  obtain ⟨h1, h2, h3, h4⟩ := h
  have hx : ∃ r, r < (tg l i).after.length ∧ bg out (ig (tg l i).after r).toNat = false := by
    refine Classical.byContradiction fun hn => ?_
    rw [allDone_true fun r hr => ?_] at hw
    · cases hw
    · cases hb : bg out (ig (tg l i).after r).toNat
      · exact absurd ⟨r, hr, hb⟩ hn
      · rfl
  obtain ⟨r, hr, hbr⟩ := hx
  have hin := good_in ((hv'.2 i hi).2.2.2.2) hr
  have hdr := allDone_iff.1 (clo_iff.1 hc i hi (h2 i hi hb)) r hr
  have hk := h3 _ (by omega) hdr hbr
  have hcnt := bcount_put (d := out) (i := i) (y := false) (by omega) hb
  simp at hcnt
  refine ⟨⟨by simpa using h1, fun j hj h => ?_, fun j hj h h' => ?_, ?_⟩, hcnt⟩
  · rw [bg_set (by omega)] at h
    split at h
    · cases h
    · exact h2 j hj h
  · rw [bg_set (by omega)] at h'
    by_cases e : i = j
    · subst e
      have hdep : Dep l i (ig (tg l i).after r).toNat := ⟨r, hr, rfl⟩
      rcases hk with e | hn
      · exact .inr (.one (e ▸ hdep))
      · exact .inr (.more hdep hn)
    · rw [if_neg e] at h'
      exact h3 j hj h h'
  · rw [bg_set (by omega)]
    split
    · rfl
    · exact h4
theorem UI.done {l : List Tk} {d out : List Bool} {t : Nat} (h : UI l d t out) (ht : t < l.length) (hc : ∀ i, i < l.length → bg out i = true → allDone out (tg l i).after = true) : out = und l d t := by
  obtain ⟨h1, h2, h3, h4⟩ := h
  have hup : ∀ i k, Need l i k → bg out i = true → bg out k = true := fun i k hn => by
    induction hn with
    | one hd =>
      intro hb
      obtain ⟨r, hr, rfl⟩ := hd
      exact allDone_iff.1 (hc _ (Dep.lt ⟨r, hr, rfl⟩) hb) r hr
    | more hd _ ih =>
      intro hb
      obtain ⟨r, hr, rfl⟩ := hd
      exact ih (allDone_iff.1 (hc _ (Dep.lt ⟨r, hr, rfl⟩) hb) r hr)
  refine bools_ext (by rw [und_len, h1]) fun i hi => ?_
  have hi' : i < l.length := by omega
  rw [bg_und d t hi']
  cases hb : bg out i
  · cases hd : bg d i
    · rfl
    · have := h3 i hi' hd hb
      simp [this]
  · have hd := h2 i hi' hb
    have hn : ¬ (i = t ∨ Need l i t) := by
      rintro (e | hn)
      · subst e; rw [h4] at hb; cases hb
      · have := hup i t hn hb; rw [h4] at this; cases this
    simp [hd, hn]

/-- while the tasks are marked that need t -/
def GI (l : List Tk) (t : Nat) (g : List Bool) : Prop := g.length = l.length ∧ bg g t = true ∧ ∀ i, i < l.length → bg g i = true → i = t ∨ Need l i t
def Cls (l : List Tk) (g : List Bool) : Prop := ∀ i r, i < l.length → r < (tg l i).after.length → bg g (ig (tg l i).after r).toNat = true → bg g i = true
def PS (l : List Tk) (g0 g : List Bool) (i r : Nat) : Prop :=
  (g = g0 ∧ ∀ i' r', (i' < i ∨ i' = i ∧ r' < r) → i' < l.length → r' < (tg l i').after.length → bg g (ig (tg l i').after r').toNat = true → bg g i' = true) ∨ ¬ Cls l g0 ∧ g0.count true < g.count true
theorem PS.start (l : List Tk) (g : List Bool) : PS l g g 0 0 := .inl ⟨rfl, fun i' r' h => by omega⟩
theorem PS.next {l : List Tk} {g0 g : List Bool} {i r : Nat} (h : PS l g0 g i r) (hr : (tg l i).after.length ≤ r) : PS l g0 g (i + 1) 0 := by
  rcases h with ⟨e, h⟩ | h
  · refine .inl ⟨e, fun i' r' h1 h2 h3 h4 => ?_⟩
    by_cases h5 : i' < i
    · exact h i' r' (.inl h5) h2 h3 h4
    · have : i' = i := by omega
      subst this
      exact h i' r' (.inr ⟨rfl, by omega⟩) h2 h3 h4
  · exact .inr h
def mark (l : List Tk) (g : List Bool) (i r : Nat) : List Bool := g.set i (bg g i || bg g (ig (tg l i).after r).toNat)
theorem mark_same {l : List Tk} {g : List Bool} {i r : Nat} (hi : i < g.length) (h : bg g (ig (tg l i).after r).toNat = true → bg g i = true) : mark l g i r = g := by
  unfold mark
  have : (bg g i || bg g (ig (tg l i).after r).toNat) = g[i] := by
    rw [← bg_lt hi]
    cases hb : bg g i
    · cases hc : bg g (ig (tg l i).after r).toNat
      · rfl
      · rw [h hc] at hb; cases hb
    · rfl
  rw [this, List.set_getElem_self]
theorem PS.step {l : List Tk} {g0 g : List Bool} {i r : Nat} (h : PS l g0 g i r) (hg : g.length = l.length) (hi : i < l.length) (hr : r < (tg l i).after.length) : PS l g0 (mark l g i r) i (r + 1) := by
  by_cases hx : bg g (ig (tg l i).after r).toNat = true → bg g i = true
  · rw [mark_same (by omega) hx]
    rcases h with ⟨e, h⟩ | h
    · refine .inl ⟨e, fun i' r' h1 h2 h3 h4 => ?_⟩
      by_cases h5 : i' < i ∨ i' = i ∧ r' < r
      · exact h i' r' h5 h2 h3 h4
      · have e1 : i' = i := by omega
        have e2 : r' = r := by omega
        subst e1
        subst e2
        exact hx h4
    · exact .inr h
  · have h1 : bg g (ig (tg l i).after r).toNat = true := Classical.byContradiction fun hn => hx fun h' => absurd h' hn
    have h2 : bg g i = false := by
      cases hb : bg g i
      · rfl
      · exact absurd (fun _ => hb) hx
    have hc := bcount_put (d := g) (i := i) (y := true) (by omega) h2
    simp at hc
    have hm : mark l g i r = g.set i true := by unfold mark; rw [h1, Bool.or_true]
    rw [hm]
    refine .inr ?_
    rcases h with ⟨e, h⟩ | ⟨h3, h4⟩
    · subst e
      refine ⟨fun hcl => ?_, by omega⟩
      have := hcl i r hi hr h1
      rw [h2] at this
      cases this
    · exact ⟨h3, by omega⟩
theorem GI.marked {l : List Tk} (hv' : VT l) {t : Nat} {g : List Bool} {i r : Nat} (h : GI l t g) (hi : i < l.length) (hr : r < (tg l i).after.length) : GI l t (mark l g i r) := by
  obtain ⟨h1, h2, h3⟩ := h
  have hin := good_in ((hv'.2 i hi).2.2.2.2) hr
  unfold mark
  refine ⟨by simpa using h1, ?_, fun j hj hb => ?_⟩
  · rw [bg_set (by omega)]
    split
    · rename_i e; subst e; rw [h2]; rfl
    · exact h2
  · rw [bg_set (by omega)] at hb
    by_cases e : i = j
    · subst e
      rw [if_pos rfl] at hb
      cases hbi : bg g i
      · rw [hbi] at hb
        have hdep : Dep l i (ig (tg l i).after r).toNat := ⟨r, hr, rfl⟩
        rcases h3 (ig (tg l i).after r).toNat (by omega) (by simpa using hb) with e | hn
        · exact .inr (.one (e ▸ hdep))
        · exact .inr (.more hdep hn)
      · exact h3 i hi hbi
    · rw [if_neg e] at hb
      exact h3 j hj hb
theorem GI.start {l : List Tk} {t : Nat} (ht : t < l.length) : GI l t ((List.replicate l.length false).set t true) := by
  have hb : ∀ i, bg (List.replicate l.length false) i = false := fun i => by
    simp [bg, List.getElem?_replicate]
    split <;> rfl
  refine ⟨by simp, by rw [bg_set (by simpa using ht), if_pos rfl], fun i hi h => ?_⟩
  rw [bg_set (by simpa using ht)] at h
  by_cases e : t = i
  · exact .inl e.symm
  · rw [if_neg e, hb] at h; cases h
def PP (l : List Tk) (p : Nat) (g : List Bool) : Prop := Cls l g ∨ p < g.count true
theorem PP.start {l : List Tk} {t : Nat} {g : List Bool} (h : GI l t g) (ht : t < l.length) : PP l 0 g := by
  refine .inr (List.count_pos_iff.2 ?_)
  have hl := h.1
  have := h.2.1
  rw [bg_lt (by omega)] at this
  rw [← this]
  exact List.getElem_mem (by omega)
theorem PP.step {l : List Tk} {p : Nat} {g0 g : List Bool} (h : PP l p g0) (hs : PS l g0 g l.length 0) : PP l (p + 1) g := by
  rcases hs with ⟨e, hs⟩ | ⟨h1, h2⟩
  · exact .inl fun i r hi hr hb => hs i r (.inl hi) hi hr hb
  · rcases h with h | h
    · exact absurd h h1
    · exact .inr (by omega)
theorem PP.full {l : List Tk} {g : List Bool} (hg : g.length = l.length) (h : PP l l.length g) : Cls l g := by
  rcases h with h | h
  · exact h
  · have := List.count_le_length (a := true) (l := g)
    omega
open Classical in
theorem GI.full {l : List Tk} {t : Nat} {g : List Bool} (h : GI l t g) (hc : Cls l g) {i : Nat} (hi : i < l.length) : bg g i = decide (i = t ∨ Need l i t) := by
  obtain ⟨h1, h2, h3⟩ := h
  have hup : ∀ i k, Need l i k → bg g k = true → bg g i = true := fun i k hn => by
    induction hn with
    | one hd =>
      intro hb
      obtain ⟨r, hr, rfl⟩ := hd
      exact hc _ r (Dep.lt ⟨r, hr, rfl⟩) hr hb
    | more hd _ ih =>
      intro hb
      obtain ⟨r, hr, rfl⟩ := hd
      exact hc _ r (Dep.lt ⟨r, hr, rfl⟩) hr (ih hb)
  cases hb : bg g i
  · symm
    rw [decide_eq_false_iff_not]
    rintro (e | hn)
    · subst e; rw [h2] at hb; cases hb
    · rw [hup i t hn h2] at hb; cases hb
  · symm
    rw [decide_eq_true_iff]
    exact h3 i hi hb
end Go.Proofs.Ytoblmecgnpoogaa

