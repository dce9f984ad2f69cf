/- Plain facts on tasks that wait for nothing. -/
import Derived.Test.YtidbmllelnffdaaTaskT
import Derived.Test.YtidbmllelnffdaaTaskX
import Derived.Test.YtidbmllelnffdaaAcyc
import Derived.Test.YtidbmllelnffdaaOwnT
namespace Go.Proofs.Ytidbmllelnffdaa
open Go.ChangeShapes Go.WideShapes Go.ChangeAt Go.RowKit Go.Joins

def fr (t : Tk) : Tk := ⟨t.hours, t.skill, t.bay, []⟩
def FL (l : List Tk) : List Tk := l.map fr
theorem FL_len (l : List Tk) : (FL l).length = l.length := by simp [FL]
theorem tg_FL (l : List Tk) (i : Nat) : tg (FL l) i = fr (tg l i) := by
  unfold tg FL
  rw [List.getD, List.getD, List.getElem?_map]
  cases l[i]? <;> rfl
theorem FL_dep (l : List Tk) (i k : Nat) : ¬ Dep (FL l) i k := by
  rintro ⟨r, hr, _⟩
  rw [tg_FL] at hr
  exact absurd hr (by simp [fr])
theorem FL_need (l : List Tk) (i k : Nat) : ¬ Need (FL l) i k := by
  intro h
  cases h with
  | one h => exact FL_dep l _ _ h
  | more h _ => exact FL_dep l _ _ h
theorem FL_valid {l : List Tk} (hv : VT l) : VT (FL l) := by
  refine ⟨by rw [FL_len]; exact hv.1, fun i hi => ?_⟩
  rw [FL_len] at hi
  obtain ⟨h1, h2, h3, h4, _⟩ := hv.2 i hi
  rw [tg_FL]
  exact ⟨h1, h2, h3, h4, fun r hr => absurd hr (by simp [fr])⟩
theorem FL_acyc {l : List Tk} (hv : VT l) : ¬ (orderOf (FL l)).length < (FL l).length := order_acyc (FL_valid hv) fun i _ h => FL_need l i i h
theorem FL_olen {l : List Tk} (hv : VT l) : (orderOf (FL l)).length = l.length := by
  have h1 := FL_acyc hv
  have h2 := order_le (FL_valid hv)
  rw [FL_len] at h1 h2
  omega
theorem FL_order {l : List Tk} (hv : VT l) {r : Nat} (hr : r < l.length) : ig (orderOf (FL l)) r = r := by
  have hl := FL_olen hv
  have hinc : ∀ r, 0 < r → r < l.length → ig (orderOf (FL l)) (r - 1) < ig (orderOf (FL l)) r := fun r h0 hr => by
    obtain ⟨t, ht, _, _, _, hd⟩ := order_like (FL_valid hv) (r := r) (by omega)
    rw [ht]
    exact (hd h0).resolve_right (FL_dep l _ _)
  have hlo : ∀ r, r < l.length → (r : Int) ≤ ig (orderOf (FL l)) r := fun r => by
    induction r with
    | zero =>
      intro h
      obtain ⟨t, ht, _⟩ := order_like (FL_valid hv) (r := 0) (by omega)
      rw [ht]; omega
    | succ r ih =>
      intro h
      have h1 := ih (by omega)
      have h2 := hinc (r + 1) (by omega) h
      rw [Nat.add_sub_cancel] at h2
      omega
  have hhi : ∀ k r, r + k + 1 = l.length → ig (orderOf (FL l)) r ≤ r := fun k => by
    induction k with
    | zero =>
      intro r h
      obtain ⟨t, ht, htl, _⟩ := order_like (FL_valid hv) (r := r) (by omega)
      rw [FL_len] at htl
      rw [ht]; omega
    | succ k ih =>
      intro r h
      have h1 := ih (r + 1) (by omega)
      have h2 := hinc (r + 1) (by omega) (by omega)
      rw [Nat.add_sub_cancel] at h2
      omega
  have h1 := hlo r hr
  have h2 := hhi (l.length - r - 1) r (by omega)
  omega
def hrs (l : List Tk) : List Int := l.map (·.hours)
theorem hrs_len (l : List Tk) : (hrs l).length = l.length := by simp [hrs]
theorem ig_hrs {l : List Tk} {i : Nat} (hi : i < l.length) : ig (hrs l) i = (tg l i).hours := by simp [ig, hrs, tg, List.getD, hi]
theorem FL_crit {l : List Tk} (hv : VT l) : critL (FL l) = most (hrs l) := by
  unfold critL
  rw [if_neg (FL_acyc hv), ← crit_eq (l := FL l) (en := hrs l) (by rw [hrs_len, FL_len]) fun i hi => ?_]
  have := HV.of (l := FL l) (i := i) hi (f := fun _ => 0) (fun r hr => by rw [tg_FL] at hr; exact absurd hr (by simp [fr]))
  rw [FL_len] at hi
  rw [ig_hrs hi]
  have e : mx (fun _ => 0) (tg (FL l) i).after + (tg (FL l) i).hours = (tg l i).hours := by rw [tg_FL]; simp [fr, mx]
  rwa [e] at this
theorem FL_ordE {l : List Tk} (hv : VT l) : ordE (FL l) = 0 := by unfold ordE; rw [if_neg (FL_acyc hv)]
theorem FL_ordL {l : List Tk} (hv : VT l) : ordL (FL l) = orderOf (FL l) := by unfold ordL; rw [if_neg (FL_acyc hv)]
theorem FL_rdy (l : List Tk) (d : List Bool) (i : Nat) : rdy (FL l) d i = !bg d i := by
  unfold rdy
  rw [tg_FL]
  simp [fr, allDone]
theorem FL_clo (l : List Tk) (d : List Bool) : clo (FL l) d = true := clo_iff.2 fun i _ _ => by rw [tg_FL]; rfl
open Classical in
theorem FL_und {l : List Tk} (d : List Bool) (t : Nat) {i : Nat} (hi : i < l.length) : bg (und (FL l) d t) i = (bg d i && !decide (i = t)) := by
  rw [bg_und d t (by rw [FL_len]; exact hi)]
  have : (i = t ∨ Need (FL l) i t) ↔ i = t := ⟨fun h => h.resolve_right (FL_need l i t), .inl⟩
  simp only [this]
theorem col_pre (l : List Tk) (d : List Bool) : ∀ (k i : Nat), ∃ rest, col l d (i + k) = col l d i ++ rest
  | 0, i => ⟨[], by simp⟩
  | k + 1, i => by
    obtain ⟨rest, h⟩ := col_pre l d k i
    cases hr : rdy l d (i + k)
    · exact ⟨rest, by rw [← Nat.add_assoc, col_no hr, h]⟩
    · exact ⟨rest ++ [((i + k : Nat) : Int)], by rw [← Nat.add_assoc, col_yes hr, h, List.append_assoc]⟩
theorem col_next {l : List Tk} {d : List Bool} {i n : Nat} (hi : i < n) (hr : rdy l d i = true) : (col l d i).length < (col l d n).length ∧ ig (col l d n) (col l d i).length = i := by
  obtain ⟨rest, h⟩ := col_pre l d (n - (i + 1)) (i + 1)
  rw [show i + 1 + (n - (i + 1)) = n by omega, col_yes hr] at h
  rw [h]
  constructor
  · simp
  · simp [ig]
def FT (l : List Tk) (i : Nat) (L : List TR) : Prop := L.length = l.length ∧ ∀ j, j < l.length → (rg L j).t = if j < i then fr (tg l j) else tg l j
theorem FT.start {l : List Tk} {L : List TR} (h : L.map (·.t) = l) : FT l 0 L := by
  have hl : L.length = l.length := by rw [← h]; simp
  refine ⟨hl, fun j hj => ?_⟩
  rw [if_neg (by omega), ← h]
  simp [rg, tg, List.getD, hl, hj]
theorem FT.step {l : List Tk} {L : List TR} {i : Nat} (h : FT l i L) (hi : i < l.length) : FT l (i + 1) (L.set i (upd (rg L i) [] none 0)) := by
  obtain ⟨h1, h2⟩ := h
  refine ⟨by simpa using h1, fun j hj => ?_⟩
  have hjL : j < L.length := by omega
  by_cases e : i = j
  · subst e
    have : rg (L.set i (upd (rg L i) [] none 0)) i = upd (rg L i) [] none 0 := by simp [rg, List.getD, hjL]
    rw [this, if_pos (by omega)]
    have := h2 i hi
    rw [if_neg (by omega)] at this
    unfold upd fr
    rw [this]
  · have : rg (L.set i (upd (rg L i) [] none 0)) j = rg L j := by simp [rg, List.getD, e]
    rw [this, h2 j hj]
    by_cases e' : j < i
    · rw [if_pos e', if_pos (by omega)]
    · rw [if_neg e', if_neg (by omega)]
theorem FT.done {l : List Tk} {L : List TR} (h : FT l l.length L) : L.map (·.t) = FL l := by
  obtain ⟨h1, h2⟩ := h
  refine List.ext_getElem (by simp [FL, h1]) fun i h3 h4 => ?_
  have hi : i < l.length := by simpa [FL] using h4
  have := h2 i hi
  rw [if_pos hi, rg_lt (by omega)] at this
  simp [FL, this, tg, List.getD, hi]
end Go.Proofs.Ytidbmllelnffdaa
