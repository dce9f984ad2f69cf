
/- Package shop: plain facts on a plan that is greedy. -/
import Derived.Test.YtoblmecgnpoogaaShpT
namespace Go.Proofs.Ytoblmecgnpoogaa
open Go.RowKit

theorem cntP_pos {p : Nat → Bool} : ∀ {n}, 0 < cntP p n → ∃ j, j < n ∧ p j = true
  | 0, h => absurd h (by simp [cntP])
  | n + 1, h => by
    by_cases e : p n = true
    · exact ⟨n, by omega, e⟩
    · unfold cntP at h
      rw [if_neg e] at h
      obtain ⟨j, h1, h2⟩ := cntP_pos (n := n) (by omega)
      exact ⟨j, by omega, h2⟩
theorem cntP_one {p : Nat → Bool} {j n : Nat} (hj : j < n) (h : p j = true) : 0 < cntP p n := by
  refine Nat.pos_of_ne_zero fun h0 => ?_
  have : ∀ m, cntP p m = 0 → ∀ i, i < m → p i = false := fun m => by
    induction m with
    | zero => intro _ i hi; omega
    | succ m ih =>
      intro h i hi
      unfold cntP at h
      by_cases e : i = m
      · subst e
        cases hp : p i
        · rfl
        · rw [hp] at h; simp at h
      · exact ih (by omega) i (by omega)
  rw [this n h0 j hj] at h
  cases h
/-- but for one, all of p are of q, which does not have it -/
theorem cntP_but {p q : Nat → Bool} {i n : Nat} (hi : i < n) (hq : q i = false) (h : ∀ k, k < n → k ≠ i → p k = true → q k = true) : cntP p n ≤ cntP q n + 1 := by
  have h1 : cntP p n ≤ cntP (fun k => decide (k = i) || q k) n := cntP_mono fun k hk hp => by
    by_cases e : k = i
    · simp [e]
    · simp [h k hk e hp]
  have h2 : cntP (fun k => decide (k = i) || q k) n = cntP q n + 1 := cntP_set (i := i) hq (by simp) hi fun k _ hne => by simp [hne]
  omega
/-- the one that comes last by f, then by its place -/
theorem latest (p : Nat → Bool) (f : Nat → Int) : ∀ n, (∃ j, j < n ∧ p j = true) → ∃ j, j < n ∧ p j = true ∧ ∀ i, i < n → p i = true → i ≠ j → (f i < f j ∨ f i = f j ∧ i < j)
  | 0, ⟨j, h, _⟩ => absurd h (by omega)
  | n + 1, ⟨j, hj, hp⟩ => by
    by_cases he : ∃ j, j < n ∧ p j = true
    · obtain ⟨j0, h1, h2, h3⟩ := latest p f n he
      by_cases hn : p n = true ∧ f j0 ≤ f n
      · refine ⟨n, by omega, hn.1, fun i hi hpi hne => ?_⟩
        by_cases e : i = j0
        · subst e; omega
        · have := h3 i (by omega) hpi e
          omega
      · refine ⟨j0, by omega, h2, fun i hi hpi hne => ?_⟩
        by_cases e : i = n
        · subst e
          have : ¬ f j0 ≤ f i := fun h => hn ⟨hpi, h⟩
          omega
        · exact h3 i (by omega) hpi hne
    · have e : j = n := Classical.byContradiction fun h => he ⟨j, by omega, hp⟩
      subst e
      exact ⟨j, by omega, hp, fun i hi hpi hne => absurd ⟨i, by omega, hpi⟩ he⟩
section
variable {l : List Tk} {s : Sh} {st : List Int}
abbrev T1 (l : List Tk) : List Bool := List.replicate l.length true
theorem T1_bg {k : Nat} (hk : k < l.length) : bg (T1 l) k = true := by rw [bg_lt (by simpa using hk)]; simp
/-- runs at h, and was decided on before k at h -/
def rn (l : List Tk) (st : List Int) (h : Int) (k j : Nat) : Bool := (decide (ig st j < h) || decide (ig st j = h) && decide (j < k)) && decide (h < endAt l st j)
theorem busy_rn {h : Int} {k j : Nat} (hj : j < l.length) : busyAt l st (T1 l) h k j = rn l st h k j := by
  unfold busyAt rn
  rw [T1_bg hj, Bool.true_and]
theorem rn_iff {h : Int} {k j : Nat} : rn l st h k j = true ↔ (ig st j < h ∨ ig st j = h ∧ j < k) ∧ h < endAt l st j := by
  unfold rn
  simp [Bool.and_eq_true, Bool.or_eq_true, decide_eq_true_eq]
theorem runs_iff {h : Int} {j : Nat} : runs l st h j = true ↔ ig st j ≤ h ∧ h < endAt l st j := by
  unfold runs endAt
  simp [Bool.and_eq_true, decide_eq_true_eq]
theorem rn_runs {h : Int} {j : Nat} (hj : j < l.length) : rn l st h l.length j = runs l st h j := by
  rw [Bool.eq_iff_iff, rn_iff, runs_iff]
  omega
/-- how many of Q run -/
def cB (l : List Tk) (st : List Int) (h : Int) (k : Nat) (Q : Nat → Bool) : Nat := cntP (fun j => rn l st h k j && Q j) l.length
def cR (l : List Tk) (st : List Int) (h : Int) (Q : Nat → Bool) : Nat := cntP (fun j => runs l st h j && Q j) l.length
theorem cB_R {h : Int} {Q : Nat → Bool} : cB l st h l.length Q = cR l st h Q := cntP_congr fun k hk => by rw [rn_runs hk]
theorem end_gt (hv : VT l) {j : Nat} (hj : j < l.length) : ig st j < endAt l st j := by
  unfold endAt
  have := (hv.2 j hj).1
  omega
/-- what holds at each one's beginning, holds always -/
theorem cap_B {Q : Nat → Bool} {b : Int} (hb : 0 ≤ b) (h : ∀ j, j < l.length → Q j = true → (cB l st (ig st j) j Q : Int) + 1 ≤ b) (hour : Int) (k : Nat) : (cB l st hour k Q : Int) ≤ b := by
  by_cases h0 : cB l st hour k Q = 0
  · omega
  · obtain ⟨j0, h1, h2⟩ := cntP_pos (Nat.pos_of_ne_zero h0)
    obtain ⟨j, hj, hp, hl⟩ := latest (fun j => rn l st hour k j && Q j) (ig st) l.length ⟨j0, h1, h2⟩
    simp only [Bool.and_eq_true, rn_iff] at hp
    have hle : cB l st hour k Q ≤ cB l st (ig st j) j Q + 1 := cntP_but (i := j) hj (by
      have : rn l st (ig st j) j j = false := by
        cases e : rn l st (ig st j) j j
        · rfl
        · rw [rn_iff] at e; omega
      simp [this]) fun i hi hne hpi => by
        have hlt := hl i hi hpi hne
        simp only [Bool.and_eq_true, rn_iff] at hpi ⊢
        exact ⟨⟨hlt, by omega⟩, hpi.2⟩
    have := h j hj hp.2
    omega
theorem cap_R (hv : VT l) {Q : Nat → Bool} {b : Int} (hb : 0 ≤ b) (h : ∀ j, j < l.length → Q j = true → (cR l st (ig st j) Q : Int) ≤ b) (hour : Int) : (cR l st hour Q : Int) ≤ b := by
  by_cases h0 : cR l st hour Q = 0
  · omega
  · obtain ⟨j0, h1, h2⟩ := cntP_pos (Nat.pos_of_ne_zero h0)
    obtain ⟨j, hj, hp, hl⟩ := latest (fun j => runs l st hour j && Q j) (ig st) l.length ⟨j0, h1, h2⟩
    simp only [Bool.and_eq_true, runs_iff] at hp
    have hle : cR l st hour Q ≤ cR l st (ig st j) Q := cntP_mono fun i hi hpi => by
        by_cases e : i = j
        · subst e
          simp only [Bool.and_eq_true, runs_iff] at hpi ⊢
          exact ⟨⟨by omega, end_gt hv hi⟩, hpi.2⟩
        · have hlt := hl i hi hpi e
          simp only [Bool.and_eq_true, runs_iff] at hpi ⊢
          exact ⟨⟨by omega, by omega⟩, hpi.2⟩
    have := h j hj hp.2
    omega
/-- of a skill; with a bay -/
def isS (l : List Tk) (k : Nat) (j : Nat) : Bool := decide ((tg l j).skill.toNat = k)
def isB (l : List Tk) (j : Nat) : Bool := (tg l j).bay
theorem fitsBy_iff (hv : VT l) {h : Int} {k i : Nat} (hi : i < l.length) : fitsBy l s (busyAt l st (T1 l) h k) i ↔
    (∀ sk, sk < 8 → 0 < (cB l st h k (isS l sk) : Int) + (if (tg l i).skill.toNat = sk then 1 else 0) → sk < s.staff.length ∧ (cB l st h k (isS l sk) : Int) + (if (tg l i).skill.toNat = sk then 1 else 0) ≤ ig s.staff sk) ∧
    (cB l st h k (isB l) : Int) + (if (tg l i).bay then 1 else 0) ≤ s.bays := by
  unfold fitsBy
  rw [loadP_congr fun j hj => busy_rn (st := st) (h := h) (k := k) hj]
  have h8 := hv.skill hi
  have e1 : ∀ sk, ig (addL (loadP l (rn l st h k) l.length) (tg l i).skill.toNat (tg l i).bay 1).p sk = (cB l st h k (isS l sk) : Int) + (if (tg l i).skill.toNat = sk then 1 else 0) := fun sk => by
    rw [addL_ig _ _ _ _ h8, loadP_ig hv _ _ _ (Nat.le_refl _), loadP_ig hv _ _ _ (Nat.le_refl _)]
    by_cases e : (tg l i).skill.toNat = sk
    · rw [if_pos e, if_pos e, e]; rfl
    · rw [if_neg e, if_neg e, Int.add_zero]; rfl
  have e2 : (addL (loadP l (rn l st h k) l.length) (tg l i).skill.toNat (tg l i).bay 1).b = (cB l st h k (isB l) : Int) + (if (tg l i).bay then 1 else 0) := by
    show (if (tg l i).bay then (loadP l (rn l st h k) l.length).b + 1 else (loadP l (rn l st h k) l.length).b) = _
    rw [loadP_b]
    cases (tg l i).bay
    · simp [cB, isB]
    · simp [cB, isB]
  unfold fitsP
  rw [e2]
  constructor
  · rintro ⟨a, b⟩
    exact ⟨fun sk hsk h0 => by have := a sk hsk; rw [e1] at this; exact this h0, b⟩
  · rintro ⟨a, b⟩
    exact ⟨fun sk hsk h0 => by rw [e1] at h0 ⊢; exact a sk hsk h0, b⟩
theorem loadU_P (hour : Int) : ∀ k, loadU l st hour k = loadP l (runs l st hour) k
  | 0 => rfl
  | k + 1 => by
    unfold loadU loadP
    rw [loadU_P hour k]
theorem fitsU_iff (hv : VT l) {h : Int} : fitsP (loadU l st h l.length) s ↔ (∀ sk, sk < 8 → 0 < cR l st h (isS l sk) → sk < s.staff.length ∧ (cR l st h (isS l sk) : Int) ≤ ig s.staff sk) ∧ (cR l st h (isB l) : Int) ≤ s.bays := by
  rw [loadU_P]
  have e1 : ∀ sk, ig (loadP l (runs l st h) l.length).p sk = (cR l st h (isS l sk) : Int) := fun sk => loadP_ig hv _ _ _ (Nat.le_refl _)
  have e2 : (loadP l (runs l st h) l.length).b = (cR l st h (isB l) : Int) := loadP_b _ _
  unfold fitsP
  rw [e2]
  constructor
  · rintro ⟨a, b⟩
    exact ⟨fun sk hsk h0 => by have := a sk hsk; rw [e1] at this; exact this (by omega), b⟩
  · rintro ⟨a, b⟩
    exact ⟨fun sk hsk h0 => by rw [e1] at h0 ⊢; exact a sk hsk (by omega), b⟩
/-- at its own beginning each one's After has ended, and it fits -/
theorem Greedy.own (g : Greedy l s st) {k : Nat} (hk : k < l.length) : EndedAt l st (T1 l) (ig st k) k ∧ fitsBy l s (busyAt l st (T1 l) (ig st k) k) k :=
  ((g.dec (ig st k) k (g.pos k hk).1 hk).1 ⟨T1_bg hk, rfl⟩).2
theorem Greedy.before (g : Greedy l s st) {h : Int} {k : Nat} (h0 : 0 ≤ h) (hk : k < l.length) (hlt : h < ig st k) : ¬ (EndedAt l st (T1 l) h k ∧ fitsBy l s (busyAt l st (T1 l) h k) k) := fun hh => by
  have := (g.dec h k h0 hk).2 ⟨fun h2 => by omega, hh.1, hh.2⟩
  omega
/-- the capacity is never exceeded -/
theorem Greedy.capS (hv : VT l) (hs : VS s) (g : Greedy l s st) (h : Int) (k sk : Nat) (hsk : sk < s.staff.length) : (cB l st h k (isS l sk) : Int) ≤ ig s.staff sk := by
  refine cap_B (hs.2.1 _ (ig_mem hsk)).1 (fun j hj hq => ?_) h k
  have h1 := ((fitsBy_iff hv hj).1 (g.own hj).2).1 sk (by have := hs.1; omega)
  have hq' : (tg l j).skill.toNat = sk := of_decide_eq_true hq
  rw [if_pos hq'] at h1
  exact (h1 (by omega)).2
theorem Greedy.capB (hv : VT l) (hs : VS s) (g : Greedy l s st) (h : Int) (k : Nat) : (cB l st h k (isB l) : Int) ≤ s.bays := by
  refine cap_B hs.2.2.1 (fun j hj hq => ?_) h k
  have h1 := ((fitsBy_iff hv hj).1 (g.own hj).2).2
  have hq' : (tg l j).bay = true := hq
  rw [hq', if_pos rfl] at h1
  exact h1
theorem Greedy.skill (hv : VT l) (g : Greedy l s st) {j : Nat} (hj : j < l.length) : (tg l j).skill.toNat < s.staff.length := by
  have h1 := ((fitsBy_iff hv hj).1 (g.own hj).2).1 _ (hv.skill hj)
  rw [if_pos rfl] at h1
  exact (h1 (by omega)).1
/-- whether one more fits, by its own skill and bay alone -/
theorem Greedy.fits (hv : VT l) (hs : VS s) (g : Greedy l s st) {h : Int} {k i : Nat} (hi : i < l.length) : fitsBy l s (busyAt l st (T1 l) h k) i ↔
    (cB l st h k (isS l (tg l i).skill.toNat) : Int) < ig s.staff (tg l i).skill.toNat ∧ ((tg l i).bay = true → (cB l st h k (isB l) : Int) < s.bays) := by
  rw [fitsBy_iff hv hi]
  have h8 := hv.skill hi
  constructor
  · rintro ⟨a, b⟩
    have a1 := a _ h8
    rw [if_pos rfl] at a1
    have a2 := (a1 (by omega)).2
    exact ⟨by omega, fun hb => by rw [hb, if_pos rfl] at b; omega⟩
  · rintro ⟨a, b⟩
    refine ⟨fun sk hsk h0 => ?_, ?_⟩
    · by_cases e : (tg l i).skill.toNat = sk
      · subst e
        rw [if_pos rfl]
        exact ⟨g.skill hv hi, by omega⟩
      · rw [if_neg e] at h0 ⊢
        obtain ⟨j, hj, hp⟩ := cntP_pos (p := fun j => rn l st h k j && isS l sk j) (n := l.length) (by unfold cB at h0; omega)
        simp only [Bool.and_eq_true] at hp
        have e2 : (tg l j).skill.toNat = sk := of_decide_eq_true hp.2
        have hlt := g.skill hv hj
        rw [e2] at hlt
        have := g.capS hv hs h k sk hlt
        exact ⟨hlt, by omega⟩
    · cases hb : (tg l i).bay
      · have := g.capB hv hs h k
        simpa using this
      · have := b hb
        simp only [if_true]
        omega
/-- one greedy plan -/
theorem Greedy.uniq (hv : VT l) {st' : List Int} (g : Greedy l s st) (g' : Greedy l s st') : st = st' := by
  have key : ∀ m : Nat, ∀ h : Nat, ∀ k, k < l.length → h * l.length + k < m → (ig st k = (h : Int) ↔ ig st' k = (h : Int)) := fun m => by
    induction m with
    | zero => intro h k hk hm; omega
    | succ m ih =>
      intro h k hk hm
      have before : ∀ (h' : Nat) (j : Nat), j < l.length → (h' < h ∨ h' = h ∧ j < k) → (ig st j = (h' : Int) ↔ ig st' j = (h' : Int)) := fun h' j hj hlt => by
        refine ih h' j hj ?_
        rcases hlt with hlt | ⟨rfl, hlt⟩
        · have : (h' + 1) * l.length ≤ h * l.length := Nat.mul_le_mul_right _ hlt
          rw [Nat.add_mul, Nat.one_mul] at this
          omega
        · omega
      have lt : ∀ j, j < l.length → (ig st j < (h : Int) ↔ ig st' j < (h : Int)) := fun j hj => by
        have p1 := (g.pos j hj).1
        have p2 := (g'.pos j hj).1
        constructor
        · intro hlt
          have := (before (ig st j).toNat j hj (.inl (by omega))).1 (by omega)
          omega
        · intro hlt
          have := (before (ig st' j).toNat j hj (.inl (by omega))).2 (by omega)
          omega
      have eqv : ∀ j, j < l.length → (ig st j < (h : Int) ∨ ig st j = (h : Int) ∧ j < k) → ig st j = ig st' j := fun j hj hlt => by
        have p1 := (g.pos j hj).1
        have := (before (ig st j).toNat j hj (by omega)).1 (by omega)
        omega
      have eqv' : ∀ j, j < l.length → (ig st' j < (h : Int) ∨ ig st' j = (h : Int) ∧ j < k) → ig st j = ig st' j := fun j hj hlt => by
        have p1 := (g'.pos j hj).1
        have := (before (ig st' j).toNat j hj (by omega)).2 (by omega)
        omega
      have hE : EndedAt l st (T1 l) h k ↔ EndedAt l st' (T1 l) h k := by
        unfold EndedAt
        constructor
        · intro hh a ha
          have hal := after_ok hv hk ha
          obtain ⟨b1, b2⟩ := hh a ha
          have e := eqv a.toNat hal (.inl (by have := end_gt (st := st) hv hal; omega))
          refine ⟨b1, ?_⟩
          unfold endAt at b2 ⊢
          rw [← e]
          exact b2
        · intro hh a ha
          have hal := after_ok hv hk ha
          obtain ⟨b1, b2⟩ := hh a ha
          have e := eqv' a.toNat hal (.inl (by have := end_gt (st := st') hv hal; omega))
          refine ⟨b1, ?_⟩
          unfold endAt at b2 ⊢
          rw [e]
          exact b2
      have hF : fitsBy l s (busyAt l st (T1 l) h k) k ↔ fitsBy l s (busyAt l st' (T1 l) h k) k := fitsBy_congr fun j hj => by
        rw [busy_rn hj, busy_rn hj, Bool.eq_iff_iff, rn_iff, rn_iff]
        constructor
        · rintro ⟨a, b⟩
          have e := eqv j hj a
          unfold endAt at b ⊢
          rw [← e]
          exact ⟨a, b⟩
        · rintro ⟨a, b⟩
          have e := eqv' j hj a
          unfold endAt at b ⊢
          rw [e]
          exact ⟨a, b⟩
      have d1 := g.dec h k (by omega) hk
      have d2 := g'.dec h k (by omega) hk
      unfold Right at d1 d2
      rw [T1_bg hk] at d1 d2
      have lk := lt k hk
      constructor
      · intro e
        have := d1.1 ⟨rfl, e⟩
        exact (d2.2 ⟨fun hh => by omega, hE.1 this.2.1, hF.1 this.2.2⟩).2
      · intro e
        have := d2.1 ⟨rfl, e⟩
        exact (d1.2 ⟨fun hh => by omega, hE.2 this.2.1, hF.2 this.2.2⟩).2
  refine List.ext_getElem (by rw [g.len, g'.len]) fun k h1 h2 => ?_
  have hk : k < l.length := by rw [← g.len]; exact h1
  have := (key _ (ig st k).toNat k hk (Nat.lt_succ_self _)).1 (by have := (g.pos k hk).1; omega)
  rw [← ig_lt h1, ← ig_lt h2]
  have := (g.pos k hk).1
  omega
/-- a list is the greedy plan if each begins as soon as it can -/
theorem Greedy.of (hl : st.length = l.length) (hp : ∀ k, k < l.length → 0 ≤ ig st k ∧ ig st k ≤ 40000)
    (ho : ∀ k, k < l.length → EndedAt l st (T1 l) (ig st k) k ∧ fitsBy l s (busyAt l st (T1 l) (ig st k) k) k)
    (hb : ∀ k h, k < l.length → 0 ≤ h → h < ig st k → ¬ (EndedAt l st (T1 l) h k ∧ fitsBy l s (busyAt l st (T1 l) h k) k)) : Greedy l s st := by
  refine ⟨hl, hp, fun h k h0 hk => ?_⟩
  unfold Right
  rw [T1_bg hk]
  constructor
  · rintro ⟨_, rfl⟩
    exact ⟨fun hh => by omega, (ho k hk).1, (ho k hk).2⟩
  · rintro ⟨h1, h2, h3⟩
    refine ⟨rfl, ?_⟩
    rcases Int.lt_trichotomy (ig st k) h with h4 | h4 | h4
    · exact absurd ⟨rfl, h4⟩ h1
    · exact h4
    · exact absurd ⟨h2, h3⟩ (hb k h hk h0 h4)
end
end Go.Proofs.Ytoblmecgnpoogaa
