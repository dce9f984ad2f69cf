/- The reference's right, plain: what it answers with a list of positions that are done. -/
import Derived.Test.YtghdfoolieagfaaJdgMd
namespace Go.Proofs.Ytghdfoolieagfaa

def rgL (f : St → List Bool → Bool × List Bool) : List St → List Bool → Bool × List Bool
  | [], D => (true, D)
  | x :: l, D => if (f x D).1 = true then rgL f l (f x D).2 else (false, (f x D).2)
def ixP (plan : List Pos) (s : St) : Option Nat := plan.findIdx? (fun p => decide (p.st = s))
noncomputable def rgt (g : Gm) (plan : List Pos) : Nat → St → Int → List Bool → Bool × List Bool
  | 0, _, _, D => (false, D)
  | k + 1, s, b, D => match ixP plan s with
    | none => (false, D)
    | some i => match plan[i]? with
      | none => (false, D)
      | some p =>
        if p.bound < 0 ∨ b < p.bound then (false, D)
        else if bg D i = true then (true, D)
        else if possB g p = false then (false, D.set i true)
        else if p.turn + 1 = g.deps.length then (decide (lostP p ≤ p.bound), D.set i true)
        else rgL (fun x D => rgt g plan k x (p.bound - lostP p) D) (madeL (afterS s p.choice)) (D.set i true)
section
variable {g : Gm} {plan : List Pos}
theorem rgL_len {f : St → List Bool → Bool × List Bool} (hf : ∀ x D, (f x D).2.length = D.length) : ∀ l D, (rgL f l D).2.length = D.length
  | [], D => rfl
  | x :: l, D => by
    unfold rgL
    split
    · rw [rgL_len hf l, hf]
    · exact hf x D
theorem rgt_len : ∀ k s b D, (rgt g plan k s b D).2.length = D.length
  | 0, _, _, D => rfl
  | k + 1, s, b, D => by
    unfold rgt
    split
    · rfl
    · split
      · rfl
      · split
        · rfl
        · split
          · rfl
          · split
            · exact List.length_set ..
            · split
              · exact List.length_set ..
              · rw [rgL_len (fun x D => rgt_len k x _ D), List.length_set]
theorem ix_pos {s : St} {i : Nat} {p : Pos} (hi : ixP plan s = some i) (hp : plan[i]? = some p) : posAt plan s = some p ∧ p.st = s := by
  unfold ixP at hi
  rw [List.findIdx?_eq_some_iff_getElem] at hi
  obtain ⟨hlt, h1, h2⟩ := hi
  rw [List.getElem?_eq_getElem hlt] at hp
  cases hp
  refine ⟨?_, by simpa using h1⟩
  unfold posAt
  rw [List.find?_eq_some_iff_getElem]
  exact ⟨h1, i, hlt, rfl, fun j hj => by simpa using h2 j hj⟩
theorem ix_lt {s : St} {i : Nat} (hi : ixP plan s = some i) : i < plan.length := by
  unfold ixP at hi
  rw [List.findIdx?_eq_some_iff_getElem] at hi
  exact hi.1
theorem ix_none {s : St} (hi : ixP plan s = none) : posAt plan s = none := by
  unfold ixP at hi
  rw [List.findIdx?_eq_none_iff] at hi
  unfold posAt
  rw [List.find?_eq_none]
  exact fun x hx => by simpa using hi x hx
theorem poss_can {s : St} {p : Pos} (hp : p.st = s) (h : possP g p) : can g s p.choice := by
  subst hp
  rcases h with h | ⟨_, _, _, _, _, h1, h2, h3⟩
  · exact .inl h
  · exact .inr ⟨h1, h2, h3⟩
theorem dep_range (hv : VG g) {t : Nat} {c : Int} (hc : c ∈ dg g t) : 0 ≤ c ∧ c < g.starts.length := by
  have ht : t < g.deps.length := by
    rcases Nat.lt_or_ge t g.deps.length with h | h
    · exact h
    · exfalso
      unfold dg at hc
      rw [List.getD_eq_getElem?_getD, List.getElem?_eq_none h] at hc
      cases hc
  have hok := hv.2.2.2.2.2 t ht
  obtain ⟨j, hj, rfl⟩ := List.getElem_of_mem hc
  have h1 := okDep_pos hok j hj
  have h2 := (hok j hj).2
  rw [ig_lt hj] at h1 h2
  exact ⟨h1, h2⟩
theorem can_poss (hv : VG g) {s : St} {p : Pos} (hi : Inv g s) (hp : p.st = s) (h : can g s p.choice) : possP g p := by
  subst hp
  rcases h with h | ⟨h1, h2, h3⟩
  · exact .inl h
  · obtain ⟨h4, h5⟩ := dep_range hv h1
    have e1 : p.starts.length = g.starts.length := hi.ls
    have e2 : p.failed.length = g.starts.length := hi.lf
    exact .inr ⟨hi.t0, hi.tn, h4, by omega, by omega, h1, h2, h3⟩
/-- the position i is right, and what may follow is done -/
def Cl (g : Gm) (plan : List Pos) (D : List Bool) (i : Nat) : Prop := ∃ s p, ixP plan s = some i ∧ plan[i]? = some p ∧ Node g plan s ∧ (s.turn + 1 ≠ g.deps.length → ∀ x ∈ madeL (afterS s p.choice), ∃ j, ixP plan x = some j ∧ bg D j = true)
structure Tr (g : Gm) (plan : List Pos) (D D' : List Bool) : Prop where
  len : D'.length = D.length
  sub : ∀ i, bg D i = true → bg D' i = true
  cl : ∀ i, bg D' i = true → bg D i = false → Cl g plan D' i
theorem Cl.mono {D D' : List Bool} {i : Nat} (h : Cl g plan D i) (hs : ∀ i, bg D i = true → bg D' i = true) : Cl g plan D' i := by
  obtain ⟨s, p, h1, h2, h3, h4⟩ := h
  exact ⟨s, p, h1, h2, h3, fun e x hx => by
    obtain ⟨j, h5, h6⟩ := h4 e x hx
    exact ⟨j, h5, hs j h6⟩⟩
theorem Tr.refl (D : List Bool) : Tr g plan D D := ⟨rfl, fun _ h => h, fun i h1 h2 => by rw [h1] at h2; cases h2⟩
theorem Tr.trans {D D' D'' : List Bool} (h : Tr g plan D D') (k : Tr g plan D' D'') : Tr g plan D D'' := by
  refine ⟨k.len.trans h.len, fun i hi => k.sub i (h.sub i hi), fun i h1 h2 => ?_⟩
  cases hd : bg D' i
  · exact k.cl i h1 hd
  · exact (h.cl i hd h2).mono k.sub
theorem rgL_true {f : St → List Bool → Bool × List Bool} {b : Int} {m : Nat} : ∀ (l : List St), (∀ x ∈ l, ∀ D, D.length = m → (f x D).1 = true → okAt plan x b ∧ (∃ j, ixP plan x = some j ∧ bg (f x D).2 j = true) ∧ Tr g plan D (f x D).2) →
    ∀ D, D.length = m → (rgL f l D).1 = true → (∀ x ∈ l, okAt plan x b ∧ ∃ j, ixP plan x = some j ∧ bg (rgL f l D).2 j = true) ∧ Tr g plan D (rgL f l D).2
  | [], _, D, _, _ => ⟨fun x hx => (by cases hx), Tr.refl D⟩
  | x :: l, hf, D, hD, h => by
    unfold rgL at h ⊢
    by_cases h1 : (f x D).1 = true
    · rw [if_pos h1] at h ⊢
      obtain ⟨a1, ⟨j, a2, a3⟩, a4⟩ := hf x (List.mem_cons_self ..) D hD h1
      obtain ⟨b1, b2⟩ := rgL_true l (fun y hy => hf y (List.mem_cons_of_mem _ hy)) (f x D).2 (a4.len.trans hD) h
      refine ⟨fun y hy => ?_, a4.trans b2⟩
      rcases List.mem_cons.1 hy with rfl | hy
      · exact ⟨a1, j, a2, b2.sub j a3⟩
      · exact b1 y hy
    · rw [if_neg h1] at h
      cases h
theorem rgL_false {f : St → List Bool → Bool × List Bool} : ∀ (l : List St) (D : List Bool), (rgL f l D).1 = false → ∃ x ∈ l, ∃ D', (f x D').1 = false
  | [], D, h => by cases h
  | x :: l, D, h => by
    unfold rgL at h
    by_cases h1 : (f x D).1 = true
    · rw [if_pos h1] at h
      obtain ⟨y, hy, D', hD'⟩ := rgL_false l _ h
      exact ⟨y, List.mem_cons_of_mem _ hy, D', hD'⟩
    · exact ⟨x, List.mem_cons_self .., D, by simpa using h1⟩
theorem lost_nn (p : Pos) : 0 ≤ lostP p ∧ lostP p ≤ 1 := by unfold lostP; split <;> omega
theorem possB_iff {p : Pos} : possB g p = true ↔ possP g p := by
  by_cases h : possP g p
  · rw [possB_yes h]; exact ⟨fun _ => h, fun _ => rfl⟩
  · rw [possB_no h]; exact ⟨fun e => (by cases e), fun e => absurd e h⟩
theorem rgt_true (hv : VG g) : ∀ (k : Nat) (s : St) (b : Int) (D : List Bool), Inv g s → s.turn + k = g.deps.length → D.length = plan.length → (rgt g plan k s b D).1 = true →
    okAt plan s b ∧ (∃ j, ixP plan s = some j ∧ bg (rgt g plan k s b D).2 j = true) ∧ Tr g plan D (rgt g plan k s b D).2
  | 0, s, b, D, hi, ht, hD, h => by
    have := hi.tn
    omega
  | k + 1, s, b, D, hi, ht, hD, h => by
    unfold rgt at h ⊢
    cases hix : ixP plan s with
    | none => rw [hix] at h; cases h
    | some i =>
      rw [hix] at h
      simp only at h ⊢
      have hlt := ix_lt hix
      have hp : plan[i]? = some plan[i] := List.getElem?_eq_getElem hlt
      generalize plan[i] = p at hp
      obtain ⟨hpos, hst⟩ := ix_pos hix hp
      rw [hp] at h ⊢
      simp only at h ⊢
      by_cases h1 : p.bound < 0 ∨ b < p.bound
      · rw [if_pos h1] at h; cases h
      · rw [if_neg h1] at h ⊢
        have hok : okAt plan s b := ⟨p, hpos, by omega, by omega⟩
        by_cases h2 : bg D i = true
        · rw [if_pos h2] at h ⊢
          exact ⟨hok, ⟨i, rfl, h2⟩, Tr.refl D⟩
        · rw [if_neg h2] at h ⊢
          have hset : ∀ j, bg (D.set i true) j = if i = j then true else bg D j := fun j => bg_set D i j (by omega)
          by_cases h3 : possB g p = false
          · rw [if_pos h3] at h; cases h
          · rw [if_neg h3] at h ⊢
            have hposs : possP g p := possB_iff.1 (by simpa using h3)
            have hcan := poss_can hst hposs
            have htu : p.turn = s.turn := congrArg St.turn hst
            by_cases h4 : p.turn + 1 = g.deps.length
            · rw [if_pos h4] at h ⊢
              have hl := of_decide_eq_true h
              refine ⟨hok, ⟨i, rfl, by rw [hset, if_pos rfl]⟩, by rw [List.length_set], fun j hj => by rw [hset]; split <;> simp [*], fun j h5 h6 => ?_⟩
              rw [hset] at h5
              by_cases e : i = j
              · subst e
                exact ⟨s, p, hix, hp, ⟨p, hpos, hcan, fun _ => hl, fun e => absurd (by omega) e⟩, fun e => absurd (by omega) e⟩
              · rw [if_neg e, h6] at h5; cases h5
            · rw [if_neg h4] at h ⊢
              have hne : s.turn + 1 ≠ g.deps.length := by omega
              have hia := hi.after hcan hne
              obtain ⟨a1, a2⟩ := rgL_true (g := g) (plan := plan) (b := p.bound - lostP p) (m := plan.length) (madeL (afterS s p.choice)) (fun x hx D' hD' hx1 => by
                have hix' := hia.made hx
                have hxt : x.turn = s.turn + 1 := by
                  rcases mem_made.1 hx with rfl | ⟨v, _, _, _, rfl⟩ <;> rfl
                exact rgt_true hv k x _ D' hix' (by omega) hD' hx1) (D.set i true) (by rw [List.length_set]; exact hD) h
              refine ⟨hok, ⟨i, rfl, a2.sub i (by rw [hset, if_pos rfl])⟩, a2.len.trans (List.length_set ..), fun j hj => a2.sub j (by rw [hset]; split <;> simp [*]), fun j h5 h6 => ?_⟩
              by_cases e : i = j
              · subst e
                exact ⟨s, p, hix, hp, ⟨p, hpos, hcan, fun e => absurd e hne, fun _ x hx => (a1 x hx).1⟩, fun _ x hx => (a1 x hx).2⟩
              · exact a2.cl j h5 (by rw [hset, if_neg e]; exact h6)
theorem rgt_false (hv : VG g) : ∀ (k : Nat) (s : St) (b : Int) (D : List Bool), Inv g s → Rch g plan s → s.turn + k = g.deps.length → (rgt g plan k s b D).1 = false → ¬ okAt plan s b ∨ ∃ s', Rch g plan s' ∧ ¬ Node g plan s'
  | 0, s, b, D, hi, _, ht, h => by
    have := hi.tn
    omega
  | k + 1, s, b, D, hi, hr, ht, h => by
    unfold rgt at h
    cases hix : ixP plan s with
    | none =>
      refine .inl ?_
      rintro ⟨p, hp, _⟩
      rw [ix_none hix] at hp
      cases hp
    | some i =>
      rw [hix] at h
      simp only at h
      have hlt := ix_lt hix
      have hp : plan[i]? = some plan[i] := List.getElem?_eq_getElem hlt
      generalize plan[i] = p at hp
      obtain ⟨hpos, hst⟩ := ix_pos hix hp
      rw [hp] at h
      simp only at h
      by_cases h1 : p.bound < 0 ∨ b < p.bound
      · refine .inl ?_
        rintro ⟨q, hq, h5, h6⟩
        rw [hpos] at hq
        cases hq
        omega
      · rw [if_neg h1] at h
        by_cases h2 : bg D i = true
        · rw [if_pos h2] at h; cases h
        · rw [if_neg h2] at h
          have htu : p.turn = s.turn := congrArg St.turn hst
          by_cases h3 : possB g p = false
          · refine .inr ⟨s, hr, ?_⟩
            rintro ⟨q, hq, h5, _⟩
            rw [hpos] at hq
            cases hq
            rw [possB_yes (can_poss hv hi hst h5)] at h3
            cases h3
          · rw [if_neg h3] at h
            have hposs : possP g p := possB_iff.1 (by simpa using h3)
            have hcan := poss_can hst hposs
            by_cases h4 : p.turn + 1 = g.deps.length
            · rw [if_pos h4] at h
              refine .inr ⟨s, hr, ?_⟩
              rintro ⟨q, hq, _, h5, _⟩
              rw [hpos] at hq
              cases hq
              exact of_decide_eq_false h (h5 (by omega))
            · rw [if_neg h4] at h
              have hne : s.turn + 1 ≠ g.deps.length := by omega
              have hia := hi.after hcan hne
              obtain ⟨x, hx, D', hD'⟩ := rgL_false _ _ h
              have hxt : x.turn = s.turn + 1 := by
                rcases mem_made.1 hx with rfl | ⟨v, _, _, _, rfl⟩ <;> rfl
              rcases rgt_false hv k x _ D' (hia.made hx) (Rch.next hr hpos hne hx) (by omega) hD' with h5 | h5
              · refine .inr ⟨s, hr, ?_⟩
                rintro ⟨q, hq, _, _, h6⟩
                rw [hpos] at hq
                cases hq
                exact h5 (h6 hne x hx)
              · exact .inr h5
theorem bg_repl (n i : Nat) : bg (List.replicate n false) i = false := by
  unfold bg
  rw [List.getD_eq_getElem?_getD, List.getElem?_replicate]
  split <;> rfl
theorem rgt_acc (hv : VG g) (hd : g.deps ≠ []) (bound : Int) : (rgL (fun x D => rgt g plan g.deps.length x bound D) (madeL (beginS g)) (List.replicate plan.length false)).1 = accB g plan bound := by
  have hib := Inv.begin hv hd
  have hxt : ∀ x ∈ madeL (beginS g), x.turn + (g.deps.length : Int) = g.deps.length := fun x hx => by
    rcases mem_made.1 hx with rfl | ⟨v, _, _, _, rfl⟩
    · show (0 : Int) + _ = _; omega
    · show (0 : Int) + _ = _; omega
  cases h : (rgL (fun x D => rgt g plan g.deps.length x bound D) (madeL (beginS g)) (List.replicate plan.length false)).1
  · symm
    refine accB_false fun ⟨_, _, ha⟩ => ?_
    obtain ⟨ha1, ha2⟩ := ha hd
    obtain ⟨x, hx, D', hD'⟩ := rgL_false _ _ h
    rcases rgt_false hv _ x bound D' (hib.made hx) (Rch.first hx) (hxt x hx) hD' with h5 | ⟨s', h5, h6⟩
    · exact h5 (ha1 x hx)
    · exact h6 (ha2 s' h5)
  · symm
    obtain ⟨a1, a2⟩ := rgL_true (g := g) (plan := plan) (b := bound) (m := plan.length) (madeL (beginS g)) (fun x hx D' hD' hx1 => rgt_true hv _ x _ D' (hib.made hx) (hxt x hx) hD' hx1) _ (List.length_replicate ..) h
    have key : ∀ s, Rch g plan s → ∃ i, ixP plan s = some i ∧ bg (rgL (fun x D => rgt g plan g.deps.length x bound D) (madeL (beginS g)) (List.replicate plan.length false)).2 i = true := fun s hs => by
      induction hs with
      | first hx => exact (a1 _ hx).2
      | next _ hp hne hx ih =>
        obtain ⟨i, h1, h2⟩ := ih
        obtain ⟨s', p', h3, h4, _, h6⟩ := a2.cl i h2 (bg_repl _ _)
        have e1 := ix_pos h3 h4
        have e2 := ix_pos h1 h4
        have e : s' = _ := e1.2.symm.trans e2.2
        subst e
        rw [e1.1] at hp
        cases hp
        exact h6 hne _ hx
    refine accB_true ⟨hv, fun e => absurd e hd, fun _ => ⟨fun x hx => (a1 x hx).1, fun s hs => ?_⟩⟩
    obtain ⟨i, h1, h2⟩ := key s hs
    obtain ⟨s', p', h3, h4, h5, _⟩ := a2.cl i h2 (bg_repl _ _)
    have e : s' = s := (ix_pos h3 h4).2.symm.trans (ix_pos h1 h4).2
    rw [← e]
    exact h5
end
end Go.Proofs.Ytghdfoolieagfaa
