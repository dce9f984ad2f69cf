
/- Package shop: the record that Plan keeps. -/
import Derived.Test.YtoblmecgnpoogaaShpK
namespace Go.Proofs.Ytoblmecgnpoogaa
open Go.RowKit

def endAt (l : List Tk) (st : List Int) (k : Nat) : Int := ig st k + (tg l k).hours
def cntB (l : List Tk) (be : List Bool) : Nat := cntP (bg be) l.length
/-- those that run beside k, where it is looked at at h -/
def busyAt (l : List Tk) (st : List Int) (be : List Bool) (h : Int) (k j : Nat) : Bool := bg be j && (decide (ig st j < h) || decide (ig st j = h) && decide (j < k)) && decide (h < endAt l st j)
def EndedAt (l : List Tk) (st : List Int) (be : List Bool) (h : Int) (k : Nat) : Prop := ∀ a ∈ (tg l k).after, bg be a.toNat = true ∧ endAt l st a.toNat ≤ h
def fitsBy (l : List Tk) (s : Sh) (p : Nat → Bool) (k : Nat) : Prop := fitsP (addL (loadP l p l.length) (tg l k).skill.toNat (tg l k).bay 1) s
/-- what was decided on k at h was right -/
def Right (l : List Tk) (s : Sh) (st : List Int) (be : List Bool) (h : Int) (k : Nat) : Prop :=
  (bg be k = true ∧ ig st k = h) ↔ ¬ (bg be k = true ∧ ig st k < h) ∧ EndedAt l st be h k ∧ fitsBy l s (busyAt l st be h k) k
theorem fitsBy_congr {l : List Tk} {s : Sh} {p q : Nat → Bool} {k : Nat} (h : ∀ j, j < l.length → p j = q j) : fitsBy l s p k ↔ fitsBy l s q k := by
  unfold fitsBy
  rw [loadP_congr h]
structure PI (l : List Tk) (s : Sh) (hour : Int) (i : Nat) (st : List Int) (be dn : List Bool) (hs : List Int) : Prop where
  stl : st.length = l.length
  bel : be.length = l.length
  dnl : dn.length = l.length
  ge : 0 ≤ hour
  sorted : hs.Pairwise (· < ·)
  gt : ∀ y ∈ hs, hour < y
  bd : ∀ y ∈ hs, y ≤ 1000 * cntB l be
  hb : hour ≤ 1000 * cntB l be
  le : ∀ k, k < l.length → bg be k = true → 0 ≤ ig st k ∧ (ig st k < hour ∨ ig st k = hour ∧ k < i)
  dnE : ∀ k, k < l.length → bg dn k = (bg be k && decide (endAt l st k ≤ hour))
  ev : ∀ k, k < l.length → bg be k = true → bg dn k = false → endAt l st k ∈ hs
  dec : ∀ h k, 0 ≤ h → k < l.length → (h < hour ∨ h = hour ∧ k < i) → Right l s st be h k
section
variable {l : List Tk} {s : Sh} {hour : Int} {i : Nat} {st : List Int} {be dn : List Bool} {hs : List Int}
/-- those that run -/
def runB (be dn : List Bool) (k : Nat) : Bool := bg be k && !bg dn k
theorem after_ok (hv : VT l) {k : Nat} (hk : k < l.length) {a : Int} (ha : a ∈ (tg l k).after) : a.toNat < l.length := by
  obtain ⟨r, hr, rfl⟩ := List.getElem_of_mem ha
  have := good_in ((hv.2 k hk).2.2.2.2) hr
  rw [ig_lt hr] at this
  omega
theorem PI.run (h : PI l s hour i st be dn hs) {j : Nat} (hj : j < l.length) : busyAt l st be hour i j = runB be dn j := by
  unfold busyAt runB
  rw [h.dnE j hj]
  cases hb : bg be j
  · rfl
  · have h1 := (h.le j hj hb).2
    by_cases h2 : endAt l st j ≤ hour
    · have : decide (hour < endAt l st j) = false := decide_eq_false (by omega)
      rw [this, decide_eq_true h2]
      simp
    · have : decide (hour < endAt l st j) = true := decide_eq_true (by omega)
      rw [this, decide_eq_false h2]
      rcases h1 with h1 | ⟨h1, h3⟩
      · rw [decide_eq_true h1]; rfl
      · rw [decide_eq_true h1, decide_eq_true h3]; simp
theorem PI.ended (hv : VT l) (h : PI l s hour i st be dn hs) {k : Nat} (hk : k < l.length) : EndedAt l st be hour k ↔ allDone dn (tg l k).after = true := by
  unfold EndedAt allDone
  rw [List.all_eq_true]
  constructor
  · intro h1 a ha
    obtain ⟨h2, h3⟩ := h1 a ha
    rw [h.dnE _ (after_ok hv hk ha), h2, decide_eq_true h3]
    rfl
  · intro h1 a ha
    have h2 := h1 a ha
    rw [h.dnE _ (after_ok hv hk ha), Bool.and_eq_true] at h2
    exact ⟨h2.1, of_decide_eq_true h2.2⟩
theorem PI.skip (hv : VT l) (h : PI l s hour i st be dn hs) (hi : i < l.length) (hno : bg be i = true ∨ ¬ (allDone dn (tg l i).after = true ∧ fitsBy l s (runB be dn) i)) : PI l s hour (i + 1) st be dn hs := by
  refine ⟨h.stl, h.bel, h.dnl, h.ge, h.sorted, h.gt, h.bd, h.hb, fun k hk hb => ?_, h.dnE, h.ev, fun h' k h0 hk hlt => ?_⟩
  · obtain ⟨h1, h2⟩ := h.le k hk hb
    exact ⟨h1, by omega⟩
  · by_cases e : h' = hour ∧ k = i
    · obtain ⟨rfl, rfl⟩ := e
      unfold Right
      rw [h.ended hv hi, fitsBy_congr fun j hj => h.run hj]
      rcases hno with hb | hn
      · have := (h.le k hk hb).2
        constructor
        · rintro ⟨_, h2⟩; omega
        · rintro ⟨h2, _⟩; exact absurd ⟨hb, by omega⟩ h2
      · constructor
        · rintro ⟨hb, h2⟩
          have := (h.le k hk hb).2
          omega
        · rintro ⟨_, h2⟩; exact absurd h2 hn
    · exact h.dec h' k h0 hk (by omega)
theorem bg_setN {be : List Bool} {i k : Nat} {v : Bool} (hi : i < be.length) : bg (be.set i v) k = if i = k then v else bg be k := by
  unfold bg
  rw [List.getD_eq_getElem?_getD, List.getD_eq_getElem?_getD, List.getElem?_set]
  by_cases h : i = k
  · subst h; simp [hi]
  · simp [h]
theorem PI.begin (hv : VT l) (h : PI l s hour i st be dn hs) (hi : i < l.length) (hb : bg be i = false) (hd : allDone dn (tg l i).after = true) (hf : fitsBy l s (runB be dn) i)
    {hs' : List Int} (hso : hs'.Pairwise (· < ·)) (hm : ∀ y, y ∈ hs' ↔ y = hour + (tg l i).hours ∨ y ∈ hs) : PI l s hour (i + 1) (st.set i hour) (be.set i true) dn hs' := by
  have ht := (hv.2 i hi).1
  have ht2 := (hv.2 i hi).2.1
  have eb : ∀ k, bg (be.set i true) k = if i = k then true else bg be k := fun k => bg_setN (by rw [h.bel]; exact hi)
  have es : ∀ k, ig (st.set i hour) k = if i = k then hour else ig st k := fun k => ig_setN _ _ _ _ (by rw [h.stl]; exact hi)
  have ee : ∀ k, k ≠ i → endAt l (st.set i hour) k = endAt l st k := fun k hk => by unfold endAt; rw [es, if_neg (fun e => hk e.symm)]
  have ei : endAt l (st.set i hour) i = hour + (tg l i).hours := by unfold endAt; rw [es, if_pos rfl]
  have hc : cntB l (be.set i true) = cntB l be + 1 := cntP_set hb (by rw [eb, if_pos rfl]) hi fun k _ hk => by rw [eb, if_neg (fun e => hk e.symm)]
  have hdi : bg dn i = false := by rw [h.dnE i hi, hb]; rfl
  -- what was ended at an hour up to this one, is
  have hE : ∀ h' k, k < l.length → h' ≤ hour → (EndedAt l (st.set i hour) (be.set i true) h' k ↔ EndedAt l st be h' k) := fun h' k hk hle => by
    unfold EndedAt
    refine ⟨fun h1 a ha => ?_, fun h1 a ha => ?_⟩
    · have h2 := h1 a ha
      by_cases e : a.toNat = i
      · rw [e, ei] at h2
        exact absurd h2.2 (by omega)
      · rw [ee _ e, eb, if_neg (fun e' => e e'.symm)] at h2
        exact h2
    · have h2 := h1 a ha
      by_cases e : a.toNat = i
      · rw [e, hb] at h2
        exact absurd h2.1 (by simp)
      · rw [ee _ e, eb, if_neg (fun e' => e e'.symm)]
        exact h2
  have hB : ∀ h' k j, j < l.length → (h' < hour ∨ h' = hour ∧ k ≤ i) → busyAt l (st.set i hour) (be.set i true) h' k j = busyAt l st be h' k j := fun h' k j hj hle => by
    unfold busyAt
    by_cases e : j = i
    · subst e
      rw [hb, es, if_pos rfl, eb, if_pos rfl]
      rcases hle with hle | ⟨rfl, hle⟩
      · rw [decide_eq_false (p := hour < h') (by omega), decide_eq_false (p := hour = h') (by omega)]
        rfl
      · rw [decide_eq_false (p := h' < h') (by omega), decide_eq_false (p := j < k) (by omega)]
        simp
    · rw [ee _ e, es, if_neg (fun e' => e e'.symm), eb, if_neg (fun e' => e e'.symm)]
  refine ⟨by rw [List.length_set]; exact h.stl, by rw [List.length_set]; exact h.bel, h.dnl, h.ge, hso, fun y hy => ?_, fun y hy => ?_, by rw [hc]; have := h.hb; omega, fun k hk hbk => ?_, fun k hk => ?_, fun k hk hbk hdk => ?_, fun h' k h0 hk hlt => ?_⟩
  · rcases (hm y).1 hy with rfl | hy
    · omega
    · exact h.gt y hy
  · rw [hc]
    rcases (hm y).1 hy with rfl | hy
    · have := h.hb; omega
    · have := h.bd y hy; omega
  · by_cases e : k = i
    · subst e
      rw [es, if_pos rfl]
      exact ⟨h.ge, by omega⟩
    · rw [eb, if_neg (fun e' => e e'.symm)] at hbk
      rw [es, if_neg (fun e' => e e'.symm)]
      obtain ⟨h1, h2⟩ := h.le k hk hbk
      exact ⟨h1, by omega⟩
  · by_cases e : k = i
    · subst e
      rw [hdi, ei, decide_eq_false (by omega)]
      simp
    · rw [eb, if_neg (fun e' => e e'.symm), ee _ e]
      exact h.dnE k hk
  · by_cases e : k = i
    · subst e
      rw [ei]
      exact (hm _).2 (.inl rfl)
    · rw [eb, if_neg (fun e' => e e'.symm)] at hbk
      rw [ee _ e]
      exact (hm _).2 (.inr (h.ev k hk hbk hdk))
  · by_cases e : h' = hour ∧ k = i
    · obtain ⟨rfl, rfl⟩ := e
      unfold Right
      rw [hE h' k hk (by omega), h.ended hv hi, fitsBy_congr (fun j hj => (hB h' k j hj (by omega)).trans (h.run hj)), eb, if_pos rfl, es, if_pos rfl]
      exact ⟨fun _ => ⟨fun h1 => absurd h1.2 (by omega), hd, hf⟩, fun _ => ⟨rfl, rfl⟩⟩
    · have hold := h.dec h' k h0 hk (by omega)
      unfold Right at hold ⊢
      rw [hE h' k hk (by omega), fitsBy_congr (fun j hj => hB h' k j hj (by omega))]
      by_cases e2 : k = i
      · subst e2
        rw [eb, if_pos rfl, es, if_pos rfl]
        rw [hb] at hold
        constructor
        · rintro ⟨_, h2⟩; omega
        · rintro ⟨_, h2⟩
          exact absurd (hold.2 ⟨by simp, h2⟩).1 (by simp)
      · rw [eb, if_neg (fun e' => e2 e'.symm), es, if_neg (fun e' => e2 e'.symm)]
        exact hold
/-- ahead of an hour's work -/
def Top (l : List Tk) (s : Sh) (st : List Int) (be dn : List Bool) (hs : List Int) : Prop :=
  (∃ hour, PI l s hour l.length st be dn hs) ∨ (st.length = l.length ∧ be.length = l.length ∧ dn.length = l.length ∧ (∀ k, bg be k = false) ∧ (∀ k, bg dn k = false) ∧ hs = [0])
theorem Top.pop (hv : VT l) {h' : Int} {r : List Int} (h : Top l s st be dn (h' :: r)) {dn' : List Bool} (hdl : dn'.length = l.length)
    (hd : ∀ k, k < l.length → bg dn' k = (bg dn k || (runB be dn k && decide (endAt l st k = h')))) : PI l s h' 0 st be dn' r := by
  rcases h with ⟨hour, h⟩ | ⟨h1, h2, h3, h4, h5, h6⟩
  · obtain ⟨p1, p2⟩ := List.pairwise_cons.1 h.sorted
    have hlt := h.gt h' (List.mem_cons_self ..)
    have hen : ∀ k, k < l.length → bg be k = true → bg dn k = false → h' ≤ endAt l st k := fun k hk hb hdk => by
      rcases List.mem_cons.1 (h.ev k hk hb hdk) with e | e
      · omega
      · have := p1 _ e; omega
    have hge := h.ge
    have hdn : ∀ k, k < l.length → bg dn' k = (bg be k && decide (endAt l st k ≤ h')) := fun k hk => by
      rw [hd k hk]
      unfold runB
      have he := h.dnE k hk
      cases hb : bg be k
      · rw [hb] at he
        rw [he]
        rfl
      · cases hdk : bg dn k
        · have := hen k hk hb hdk
          by_cases e : endAt l st k = h'
          · rw [decide_eq_true e, decide_eq_true (p := endAt l st k ≤ h') (by omega)]; rfl
          · rw [decide_eq_false e, decide_eq_false (p := endAt l st k ≤ h') (by omega)]; rfl
        · rw [hdk, hb] at he
          have : endAt l st k ≤ hour := by simpa using he.symm
          rw [decide_eq_true (p := endAt l st k ≤ h') (by omega)]; rfl
    refine ⟨h.stl, h.bel, hdl, by omega, p2, p1, fun y hy => h.bd y (List.mem_cons_of_mem _ hy), h.bd h' (List.mem_cons_self ..), fun k hk hb => ?_, hdn, fun k hk hb hdk => ?_, fun h2 k h0 hk hlt2 => ?_⟩
    · obtain ⟨a, b⟩ := h.le k hk hb
      exact ⟨a, by omega⟩
    · rw [hd k hk] at hdk
      rw [Bool.or_eq_false_iff] at hdk
      have hr : runB be dn k = true := by unfold runB; rw [hb, hdk.1]; rfl
      rw [hr, Bool.true_and] at hdk
      rcases List.mem_cons.1 (h.ev k hk hb hdk.1) with e | e
      · exact absurd e (of_decide_eq_false hdk.2)
      · exact e
    · by_cases hle : h2 ≤ hour
      · exact h.dec h2 k h0 hk (by omega)
      · have hlt3 : h2 < h' := by omega
        have hold := h.dec hour k hge hk (by omega)
        unfold Right at hold ⊢
        constructor
        · rintro ⟨hb, e⟩
          have := (h.le k hk hb).2
          omega
        · rintro ⟨hn, hE, hf⟩
          have hbk : bg be k = false := by
            cases hb : bg be k
            · rfl
            · exact absurd ⟨hb, by have := (h.le k hk hb).2; omega⟩ hn
          have := hold.2 ⟨fun hh => by rw [hbk] at hh; exact absurd hh.1 (by simp), fun a ha => ?_, fits_sub hv hk (fun j hj hB => ?_) hf⟩
          · rw [hbk] at this
            exact absurd this.1 (by simp)
          · obtain ⟨e1, e2⟩ := hE a ha
            refine ⟨e1, ?_⟩
            have hal := after_ok hv hk ha
            cases hda : bg dn a.toNat
            · have := hen _ hal e1 hda; omega
            · have := h.dnE _ hal
              rw [hda, e1] at this
              simpa using this.symm
          · unfold busyAt at hB ⊢
            simp only [Bool.and_eq_true, Bool.or_eq_true, decide_eq_true_eq] at hB ⊢
            obtain ⟨⟨b1, b2⟩, b3⟩ := hB
            have hj1 := (h.le j hj b1).2
            have hdj : bg dn j = false := by
              rw [h.dnE j hj, decide_eq_false (by omega)]
              simp
            have := hen j hj b1 hdj
            exact ⟨⟨b1, by omega⟩, by omega⟩
  · cases h6
    have hnb : ∀ k, bg be k = true → False := fun k hb => by rw [h4] at hb; cases hb
    refine ⟨h1, h2, hdl, Int.le_refl _, List.Pairwise.nil, fun y hy => by simp at hy, fun y hy => by simp at hy, by omega, fun k _ hb => absurd (hnb k hb) id, fun k hk => ?_, fun k _ hb => absurd (hnb k hb) id, fun h2 k h0 hk hlt2 => by omega⟩
    rw [hd k hk, h5]
    unfold runB
    rw [h4]
    rfl
/-- a plan that begins each task as soon as it can, in the order of hours and tasks -/
structure Greedy (l : List Tk) (s : Sh) (st : List Int) : Prop where
  len : st.length = l.length
  pos : ∀ k, k < l.length → 0 ≤ ig st k ∧ ig st k ≤ 40000
  dec : ∀ h k, 0 ≤ h → k < l.length → Right l s st (List.replicate l.length true) h k
theorem cntB_le (l : List Tk) (be : List Bool) : cntB l be ≤ l.length := cntP_le _ _
theorem Top.fin (hv : VT l) (ho : (orderOf l).length = l.length) (hc : ∀ k, k < l.length → canB s (tg l k) = true) (h : Top l s st be dn []) : Greedy l s st := by
  rcases h with ⟨hour, h⟩ | ⟨_, _, _, _, _, h6⟩
  · have hdone : ∀ k, k < l.length → bg be k = true → bg dn k = true := fun k hk hb => by
      cases hd : bg dn k
      · exact absurd (h.ev k hk hb hd) (by simp)
      · rfl
    have hall : ∀ k, k < l.length → bg be k = true := by
      intro k hk
      obtain ⟨x, hx⟩ := (order_full hv).1 ho k hk
      clear hk
      induction hx with
      | mk i hi f hA ih =>
        cases hb : bg be i
        · have hold := h.dec hour i h.ge hi (by omega)
          unfold Right at hold
          have hE : EndedAt l st be hour i := (h.ended hv hi).2 (allDone_true fun r hr => hdone _ (after_ok hv hi (ig_mem hr)) (ih r hr))
          have hf : fitsBy l s (busyAt l st be hour i) i := by
            have : loadP l (busyAt l st be hour i) l.length = ld0 := by
              refine Ld.ext' (fun j => ?_) ?_
              · rw [loadP_ig hv _ j _ (Nat.le_refl _), ld0_ig]
                have : cntP (fun k => busyAt l st be hour i k && decide ((tg l k).skill.toNat = j)) l.length = cntP (fun _ => false) l.length := cntP_congr fun k hk => by
                  have hz : busyAt l st be hour i k = false := by
                    unfold busyAt
                    cases hbk : bg be k
                    · rfl
                    · have := h.dnE k hk
                      rw [hdone k hk hbk, hbk] at this
                      have : endAt l st k ≤ hour := by simpa using this.symm
                      rw [decide_eq_false (p := hour < endAt l st k) (by omega)]
                      simp
                  rw [hz]
                  rfl
                rw [this]
                have hz : ∀ n, cntP (fun _ => false) n = 0 := fun n => by
                  induction n with
                  | zero => rfl
                  | succ n ih => unfold cntP; rw [ih]; rfl
                rw [hz]
                rfl
              · rw [loadP_b]
                have : cntP (fun k => busyAt l st be hour i k && (tg l k).bay) l.length = cntP (fun _ => false) l.length := cntP_congr fun k hk => by
                  have hz : busyAt l st be hour i k = false := by
                    unfold busyAt
                    cases hbk : bg be k
                    · rfl
                    · have := h.dnE k hk
                      rw [hdone k hk hbk, hbk] at this
                      have : endAt l st k ≤ hour := by simpa using this.symm
                      rw [decide_eq_false (p := hour < endAt l st k) (by omega)]
                      simp
                  rw [hz]
                  rfl
                rw [this]
                have hz : ∀ n, cntP (fun _ => false) n = 0 := fun n => by
                  induction n with
                  | zero => rfl
                  | succ n ih => unfold cntP; rw [ih]; rfl
                rw [hz]
                rfl
            unfold fitsBy
            rw [this]
            have hcan := hc i hi
            unfold canB at hcan
            refine Classical.byContradiction fun hn => ?_
            rw [fitsB_no hn] at hcan
            cases hcan
          have := hold.2 ⟨fun hh => by rw [hb] at hh; exact absurd hh.1 (by simp), hE, hf⟩
          rw [hb] at this
          exact absurd this.1 (by simp)
        · rfl
    have hrep : ∀ k, k < l.length → bg (List.replicate l.length true) k = true := fun k hk => by rw [bg_lt (by simpa using hk)]; simp
    have hcn := cntB_le l be
    have h40 := hv.1
    refine ⟨h.stl, fun k hk => ?_, fun h' k h0 hk => ?_⟩
    · have := h.le k hk (hall k hk)
      have := h.hb
      omega
    · have e1 : Right l s st (List.replicate l.length true) h' k ↔ Right l s st be h' k := by
        unfold Right
        rw [hrep k hk, hall k hk]
        have hE : EndedAt l st (List.replicate l.length true) h' k ↔ EndedAt l st be h' k := by
          unfold EndedAt
          constructor
          · intro hh a ha
            exact ⟨hall _ (after_ok hv hk ha), (hh a ha).2⟩
          · intro hh a ha
            exact ⟨hrep _ (after_ok hv hk ha), (hh a ha).2⟩
        rw [hE, fitsBy_congr (q := busyAt l st be h' k) fun j hj => by unfold busyAt; rw [hrep j hj, hall j hj]]
      rw [e1]
      by_cases hle : h' ≤ hour
      · exact h.dec h' k h0 hk (by omega)
      · have := (h.le k hk (hall k hk)).2
        unfold Right
        constructor
        · rintro ⟨_, e⟩; omega
        · rintro ⟨hn, _⟩
          exact absurd ⟨hall k hk, by omega⟩ hn
  · cases h6
end
end Go.Proofs.Ytoblmecgnpoogaa

