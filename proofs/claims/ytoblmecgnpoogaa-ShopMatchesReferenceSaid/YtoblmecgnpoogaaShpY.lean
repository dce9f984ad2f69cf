
/- Package shop: plain facts for the laws. -/
import Derived.Test.YtoblmecgnpoogaaShpU
namespace Go.Proofs.Ytoblmecgnpoogaa
open Go.RowKit

section
variable {l : List Tk} {s : Sh} {st : List Int}
theorem late_iff {h : Int} {i : Nat} : (tg l i).after.any (late l st h) = false ↔ ∀ a ∈ (tg l i).after, endAt l st a.toNat ≤ h := by
  rw [List.any_eq_false]
  constructor
  · intro hh a ha
    have := hh a ha
    unfold late at this
    unfold endAt
    simpa using this
  · intro hh a ha
    have := hh a ha
    unfold endAt at this
    unfold late
    simpa using this
theorem ended_T1 (hv : VT l) {h : Int} {i : Nat} (hi : i < l.length) : EndedAt l st (T1 l) h i ↔ ∀ a ∈ (tg l i).after, endAt l st a.toNat ≤ h := by
  unfold EndedAt
  constructor
  · intro hh a ha
    exact (hh a ha).2
  · intro hh a ha
    exact ⟨T1_bg (after_ok hv hi ha), hh a ha⟩
/-- what Plan answers can begin so -/
theorem Greedy.chk (hv : VT l) (hs : VS s) (g : Greedy l s st) : chkP l s st := by
  refine ⟨hv, hs, ⟨g.len, fun n hn => ?_⟩, fun i hi => ⟨late_iff.2 ((ended_T1 hv hi).1 (g.own hi).1), (fitsU_iff hv).2 ⟨fun sk hsk h0 => ?_, ?_⟩⟩⟩
  · obtain ⟨k, hk, rfl⟩ := List.getElem_of_mem hn
    have := g.pos k (by rw [← g.len]; exact hk)
    rw [ig_lt hk] at this
    omega
  · obtain ⟨j, hj, hp⟩ := cntP_pos h0
    simp only [Bool.and_eq_true] at hp
    have e : (tg l j).skill.toNat = sk := of_decide_eq_true hp.2
    have hlt := g.skill hv hj
    rw [e] at hlt
    have := g.capS hv hs (ig st i) l.length sk hlt
    rw [cB_R] at this
    exact ⟨hlt, this⟩
  · have := g.capB hv hs (ig st i) l.length
    rw [cB_R] at this
    exact this
/-- each one's After ends ahead of it -/
def AftOk (l : List Tk) (st : List Int) : Prop := ∀ i, i < l.length → 0 ≤ ig st i ∧ ∀ a ∈ (tg l i).after, endAt l st a.toNat ≤ ig st i
theorem chk_aft (h : chkP l s st) : AftOk l st := fun i hi => ⟨(h.2.2.1.2 _ (ig_mem (by rw [h.2.2.1.1]; exact hi))).1, late_iff.1 (h.2.2.2 i hi).1⟩
theorem Greedy.aft (hv : VT l) (g : Greedy l s st) : AftOk l st := fun i hi => ⟨(g.pos i hi).1, (ended_T1 hv hi).1 (g.own hi).1⟩
theorem aft_hv (hv : VT l) (h : AftOk l st) : ∀ m : Nat, ∀ i, i < l.length → (ig st i).toNat < m → ∃ x, HV l i x
  | 0, i, _, hm => absurd hm (by omega)
  | m + 1, i, hi, hm => HV.ex hi fun r hr => by
    have hm2 := ig_mem hr
    have hal := after_ok hv hi hm2
    refine aft_hv hv h m _ hal ?_
    have h1 := (h i hi).2 _ hm2
    have h2 := end_gt (st := st) hv hal
    have h3 := (h _ hal).1
    omega
theorem aft_order (hv : VT l) (h : AftOk l st) : ¬ (orderOf l).length < l.length := by
  have := (order_full hv).2 fun i hi => aft_hv hv h _ i hi (Nat.lt_succ_self _)
  omega
theorem aft_ord (hv : VT l) (h : AftOk l st) : oE l = 0 ∧ cL l = crit l := by
  unfold oE cL ordE critL
  rw [if_pos hv, if_pos hv, if_neg (aft_order hv h), if_neg (aft_order hv h)]
  exact ⟨rfl, rfl⟩
theorem lenU_ge : ∀ {n i : Nat}, i < n → endAt l st i ≤ lenU l st n
  | 0, _, h => absurd h (by omega)
  | n + 1, i, h => by
    unfold lenU
    by_cases e : i = n
    · subst e; unfold endAt; omega
    · have := lenU_ge (n := n) (i := i) (by omega); omega
theorem lenU_pos : ∀ n, 0 ≤ lenU l st n
  | 0 => Int.le_refl _
  | n + 1 => by
    have := lenU_pos n
    unfold lenU
    omega
theorem lenU_le {b : Int} (hb : 0 ≤ b) : ∀ {n}, (∀ i, i < n → endAt l st i ≤ b) → lenU l st n ≤ b
  | 0, _ => hb
  | n + 1, h => by
    have i := lenU_le hb (n := n) fun i hi => h i (by omega)
    have j := h n (by omega)
    unfold endAt at j
    unfold lenU
    omega
theorem hv_end (h : AftOk l st) {i : Nat} {x : Int} (hx : HV l i x) : x ≤ endAt l st i := by
  induction hx with
  | mk i hi f hA ih =>
    have h1 := h i hi
    have := (mx_bound (f := f) (a := (tg l i).after) h1.1 (fun r hr => by
      have a := ih r hr
      have b := h1.2 _ (ig_mem hr)
      omega) _ (Nat.le_refl _)).2
    rw [List.take_length] at this
    unfold endAt
    omega
theorem crit_of {b : Int} (hb : 0 ≤ b) (h : ∀ i, i < l.length → hv l i ≤ b) : 0 ≤ crit l ∧ crit l ≤ b := by
  have := mx_bound (f := hv l) (a := (List.range l.length).map fun n : Nat => (n : Int)) hb (fun r hr => by
    have hr' : r < l.length := by simpa using hr
    have e : ig ((List.range l.length).map fun n : Nat => (n : Int)) r = r := by simp [ig, List.getD, hr']
    rw [e, Int.toNat_natCast]
    exact h r hr') _ (Nat.le_refl _)
  rw [List.take_length] at this
  exact this
theorem crit_ge {i : Nat} (hi : i < l.length) : hv l i ≤ crit l := by
  unfold crit
  have h : ∀ (f : Nat → Int) (a : List Int) (m : Int), m ≤ a.foldl (fun m k => max m (f k.toNat)) m ∧ ∀ x ∈ a, f x.toNat ≤ a.foldl (fun m k => max m (f k.toNat)) m := fun f a => by
    induction a with
    | nil => intro m; exact ⟨Int.le_refl _, fun x hx => by simp at hx⟩
    | cons y a ih =>
      intro m
      obtain ⟨h1, h2⟩ := ih (max m (f y.toNat))
      refine ⟨by simp only [List.foldl_cons]; omega, fun x hx => ?_⟩
      simp only [List.foldl_cons]
      rcases List.mem_cons.1 hx with rfl | hx
      · omega
      · exact h2 x hx
  have := (h (hv l) ((List.range l.length).map fun n : Nat => (n : Int)) 0).2 (i : Int) (List.mem_map.2 ⟨i, by simpa using hi, rfl⟩)
  rw [Int.toNat_natCast] at this
  exact this
theorem crit_len (hv' : VT l) (h : AftOk l st) : crit l ≤ lenU l st l.length := by
  refine (crit_of (lenU_pos _) fun i hi => ?_).2
  have h1 := hv_end h (hv_spec (aft_hv hv' h _ i hi (Nat.lt_succ_self _)))
  have h2 := lenU_ge (l := l) (st := st) hi
  omega
/-- the hours of all together -/
def sumH (l : List Tk) : Nat → Int
  | 0 => 0
  | k + 1 => sumH l k + (tg l k).hours
/-- what has been done by an hour -/
def doneH (l : List Tk) (st : List Int) (h : Int) : Nat → Int
  | 0 => 0
  | k + 1 => doneH l st h k + max 0 (min (h - ig st k) (tg l k).hours)
theorem doneH_le (hv : VT l) (h : Int) : ∀ k, k ≤ l.length → doneH l st h k ≤ sumH l k
  | 0, _ => Int.le_refl _
  | k + 1, hk => by
    have := doneH_le hv h k (by omega)
    have := (hv.2 k (by omega)).1
    unfold doneH sumH
    omega
theorem doneH_pos (h : Int) : ∀ k, 0 ≤ doneH l st h k
  | 0 => Int.le_refl _
  | k + 1 => by
    have := doneH_pos h k
    unfold doneH
    omega
theorem doneH_mono (h : Int) : ∀ k, doneH l st h k ≤ doneH l st (h + 1) k
  | 0 => Int.le_refl _
  | k + 1 => by
    have := doneH_mono h k
    unfold doneH
    omega
theorem doneH_step {h : Int} {j : Nat} (hr : runs l st h j = true) : ∀ {k}, j < k → doneH l st h k + 1 ≤ doneH l st (h + 1) k
  | 0, hj => absurd hj (by omega)
  | k + 1, hj => by
    rw [runs_iff] at hr
    unfold endAt at hr
    unfold doneH
    by_cases e : j = k
    · subst e
      have := doneH_mono (l := l) (st := st) h j
      omega
    · have := doneH_step (h := h) (j := j) (k := k) (by rw [runs_iff]; unfold endAt; exact hr) (by omega)
      omega
theorem cB_none {h : Int} {k : Nat} {Q : Nat → Bool} (hn : ∀ j, j < l.length → rn l st h k j = false) : cB l st h k Q = 0 := by
  refine Classical.byContradiction fun h0 => ?_
  obtain ⟨j, hj, hp⟩ := cntP_pos (Nat.pos_of_ne_zero h0)
  simp only [hn j hj, Bool.false_and] at hp
  cases hp
theorem Greedy.room (hv : VT l) (g : Greedy l s st) {i : Nat} (hi : i < l.length) : 0 < ig s.staff (tg l i).skill.toNat ∧ ((tg l i).bay = true → 0 < s.bays) := by
  have h1 := (fitsBy_iff hv hi).1 (g.own hi).2
  have h2 := h1.1 _ (hv.skill hi)
  rw [if_pos rfl] at h2
  have h3 := (h2 (by omega)).2
  refine ⟨by omega, fun hb => ?_⟩
  have h4 := h1.2
  rw [hb, if_pos rfl] at h4
  omega
/-- as long as the work goes on, some task runs -/
theorem Greedy.busy (hv : VT l) (hs : VS s) (g : Greedy l s st) {h : Int} (h0 : 0 ≤ h) (hlt : h < lenU l st l.length) : ∃ j, j < l.length ∧ runs l st h j = true := by
  refine Classical.byContradiction fun hno => ?_
  have hnr : ∀ j, j < l.length → ¬ (ig st j ≤ h ∧ h < endAt l st j) := fun j hj hh => hno ⟨j, hj, runs_iff.2 hh⟩
  have key : ∀ i x, HV l i x → ¬ h < ig st i := fun i x hx => by
    induction hx with
    | mk i hi f hA ih =>
      intro hlt2
      refine g.before h0 hi hlt2 ⟨(ended_T1 hv hi).2 fun a ha => ?_, (g.fits hv hs hi).2 ?_⟩
      · have hal := after_ok hv hi ha
        obtain ⟨r, hr, e⟩ := List.getElem_of_mem ha
        rw [← ig_lt hr] at e
        have h1 := ih r hr
        rw [e] at h1
        have h2 := hnr a.toNat hal
        omega
      · have hz : ∀ Q, cB l st h i Q = 0 := fun Q => cB_none fun j hj => by
          cases e : rn l st h i j
          · rfl
          · rw [rn_iff] at e
            exact absurd ⟨by omega, e.2⟩ (hnr j hj)
        obtain ⟨r1, r2⟩ := g.room hv hi
        rw [hz, hz]
        exact ⟨by simpa using r1, fun hb => by simpa using r2 hb⟩
  have hall : ∀ i, i < l.length → endAt l st i ≤ h := fun i hi => by
    obtain ⟨x, hx⟩ := aft_hv hv (g.aft hv) _ i hi (Nat.lt_succ_self _)
    have h1 := key i x hx
    have h2 := hnr i hi
    omega
  have := lenU_le (l := l) (st := st) h0 hall
  omega
theorem Greedy.sum (hv : VT l) (hs : VS s) (g : Greedy l s st) : lenU l st l.length ≤ sumH l l.length := by
  have key : ∀ m : Nat, (m : Int) ≤ lenU l st l.length → (m : Int) ≤ doneH l st m l.length := fun m => by
    induction m with
    | zero => intro _; exact doneH_pos _ _
    | succ m ih =>
      intro hm
      obtain ⟨j, hj, hr⟩ := g.busy hv hs (h := (m : Int)) (by omega) (by omega)
      have h1 := doneH_step hr hj
      have h2 := ih (by omega)
      have e : ((m + 1 : Nat) : Int) = (m : Int) + 1 := by omega
      rw [e]
      omega
  have h0 := lenU_pos (l := l) (st := st) l.length
  have h1 := key (lenU l st l.length).toNat (by omega)
  have h2 := doneH_le (st := st) hv (((lenU l st l.length).toNat : Nat) : Int) l.length (Nat.le_refl _)
  omega
/-- with plenty of people and bays, each begins when its After has ended -/
theorem Greedy.free (hv' : VT l) (hs : VS s) (g : Greedy l s st) (hp : ∀ i, i < l.length → (40 : Int) < ig s.staff (tg l i).skill.toNat) (hb : 40 < s.bays) : lenU l st l.length ≤ crit l := by
  have hA := g.aft hv'
  have key : ∀ i x, HV l i x → endAt l st i ≤ x := fun i x hx => by
    induction hx with
    | mk i hi f hA' ih =>
      have hm0 : 0 ≤ mx f (tg l i).after := by
        have := (mx_bound (f := f) (a := (tg l i).after) (b := max 0 (mx f (tg l i).after)) (by omega) (fun r hr => by
          have a := ih r hr
          have hal := after_ok hv' hi (ig_mem hr)
          have := (mx_snoc_le f (tg l i).after).2.1 _ (ig_mem hr)
          omega) _ (Nat.le_refl _)).1
        rw [List.take_length] at this
        exact this
      have hle : ig st i ≤ mx f (tg l i).after := Classical.byContradiction fun hn => by
        refine g.before hm0 hi (by omega) ⟨(ended_T1 hv' hi).2 fun a ha => ?_, (g.fits hv' hs hi).2 ?_⟩
        · obtain ⟨r, hr, e⟩ := List.getElem_of_mem ha
          rw [← ig_lt hr] at e
          have h1 := ih r hr
          rw [e] at h1
          have h2 := (mx_snoc_le f (tg l i).after).2.1 a ha
          omega
        · have h40 := hv'.1
          have hc : ∀ k Q, cB l st (mx f (tg l i).after) k Q ≤ 40 := fun k Q => by
            have := cntP_le (fun j => rn l st (mx f (tg l i).after) k j && Q j) l.length
            unfold cB
            omega
          have h1 := hc i (isS l (tg l i).skill.toNat)
          have h2 := hc i (isB l)
          have h3 := hp i hi
          exact ⟨by omega, fun _ => by omega⟩
      unfold endAt
      omega
  have hc0 : 0 ≤ crit l := (crit_of (b := lenU l st l.length) (lenU_pos _) fun i hi => by
    have h1 := hv_end hA (hv_spec (aft_hv hv' hA _ i hi (Nat.lt_succ_self _)))
    have h2 := lenU_ge (l := l) (st := st) hi
    omega).1
  refine lenU_le hc0 fun i hi => ?_
  have h1 := key i _ (hv_spec (aft_hv hv' hA _ i hi (Nat.lt_succ_self _)))
  have h2 := crit_ge hi
  omega
/-- why one waits -/
theorem Greedy.waits (hv : VT l) (hs : VS s) (g : Greedy l s st) {h : Int} {i : Nat} (hi : i < l.length) (h0 : 0 ≤ h) (hlt : h < ig st i) (ha : ∀ a ∈ (tg l i).after, endAt l st a.toNat ≤ h) :
    ig s.staff (tg l i).skill.toNat ≤ (cntP (fun k => (!decide (k = i) && runs l st h k) && decide ((tg l k).skill = (tg l i).skill)) l.length : Int) ∨
    ((tg l i).bay = true ∧ s.bays ≤ (cntP (fun k => (!decide (k = i) && runs l st h k) && (tg l k).bay) l.length : Int)) := by
  have hn := g.before h0 hi hlt
  have hnf : ¬ fitsBy l s (busyAt l st (T1 l) h i) i := fun hf => hn ⟨(ended_T1 hv hi).2 ha, hf⟩
  rw [g.fits hv hs hi] at hnf
  have hrn : ∀ k, k < l.length → rn l st h i k = true → (!decide (k = i) && runs l st h k) = true := fun k hk hr => by
    rw [rn_iff] at hr
    rw [Bool.and_eq_true, Bool.not_eq_true', decide_eq_false_iff_not, runs_iff]
    exact ⟨fun e => by subst e; omega, by omega, hr.2⟩
  have m1 : cB l st h i (isS l (tg l i).skill.toNat) ≤ cntP (fun k => (!decide (k = i) && runs l st h k) && decide ((tg l k).skill = (tg l i).skill)) l.length := cntP_mono fun k hk hp => by
    rw [Bool.and_eq_true] at hp ⊢
    refine ⟨hrn k hk hp.1, decide_eq_true ?_⟩
    have := of_decide_eq_true hp.2
    have := (hv.2 k hk).2.2.1
    have := (hv.2 i hi).2.2.1
    omega
  have m2 : cB l st h i (isB l) ≤ cntP (fun k => (!decide (k = i) && runs l st h k) && (tg l k).bay) l.length := cntP_mono fun k hk hp => by
    rw [Bool.and_eq_true] at hp ⊢
    exact ⟨hrn k hk hp.1, hp.2⟩
  by_cases h1 : (cB l st h i (isS l (tg l i).skill.toNat) : Int) < ig s.staff (tg l i).skill.toNat
  · right
    by_cases h2 : (tg l i).bay = true
    · refine ⟨h2, ?_⟩
      have : ¬ (cB l st h i (isB l) : Int) < s.bays := fun h3 => hnf ⟨h1, fun _ => h3⟩
      omega
    · exact absurd ⟨h1, fun hb => absurd hb h2⟩ hnf
  · left
    omega
end
end Go.Proofs.Ytoblmecgnpoogaa
