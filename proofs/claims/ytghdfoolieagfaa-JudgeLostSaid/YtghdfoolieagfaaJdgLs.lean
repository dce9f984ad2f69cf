
/- The plan that never chooses a vehicle, plain: it is accepted with the number of departures, and with none that is less. -/
import Derived.Test.YtghdfoolieagfaaJdgVal
namespace Go.Proofs.Ytghdfoolieagfaa
open Go.RowKit

def fbit (b v : Nat) : Bool := decide (b / 2 ^ v % 2 = 1)
def flB (ns b : Nat) : List Bool := (List.range ns).map (fbit b)
def cntB (l : List Bool) : Nat := l.countP id
theorem flB_len (ns b : Nat) : (flB ns b).length = ns := by simp [flB]
theorem flB_succ (v b : Nat) : flB (v + 1) b = flB v b ++ [fbit b v] := by simp [flB, List.range_succ]
theorem cntB_le (l : List Bool) : cntB l ≤ l.length := List.countP_le_length
theorem cntB_succ (v b : Nat) : cntB (flB (v + 1) b) = cntB (flB v b) + if fbit b v then 1 else 0 := by
  rw [flB_succ]
  unfold cntB
  rw [List.countP_append]
  cases fbit b v <;> simp
theorem cntB_false (n : Nat) : cntB (List.replicate n false) = 0 := by
  unfold cntB
  rw [List.countP_replicate]
  simp
theorem cntB_set : ∀ (l : List Bool) (v : Nat), v < l.length → bg l v = false → cntB (l.set v true) = cntB l + 1
  | [], v, h, _ => by simp at h
  | a :: l, 0, _, hf => by
    have : a = false := by simpa [bg] using hf
    subst this
    simp [cntB]
  | a :: l, v + 1, h, hf => by
    have ih := cntB_set l v (by simpa using h) (by simpa [bg] using hf)
    unfold cntB at *
    rw [List.set_cons_succ, List.countP_cons, List.countP_cons, ih]
    omega
theorem flB_surj {ns : Nat} {F : List Bool} (hF : F.length = ns) : ∃ b, b < 2 ^ ns ∧ flB ns b = F := by
  refine ⟨bitsU F ns, bitsU_lt F ns, List.ext_getElem (by rw [flB_len, hF]) fun i h1 h2 => ?_⟩
  have hi : i < ns := by rw [flB_len] at h1; exact h1
  have h := bitsU_at F ns hi
  simp only [flB, List.getElem_map, List.getElem_range, fbit, h]
  have e : bg F i = F[i] := by
    unfold bg
    rw [List.getD_eq_getElem?_getD, List.getElem?_eq_getElem h2]
    rfl
  rw [e]
  cases F[i] <;> simp
def lostQ (g : Gm) (n t b : Nat) : Pos := ⟨t, g.starts, flB g.starts.length b, g.budget - cntB (flB g.starts.length b), -1, (n : Int) - t⟩
def rowQ (g : Gm) (n t k : Nat) : List Pos := (List.range k).map (lostQ g n t)
def planQ (g : Gm) (n t : Nat) : List Pos := (List.range t).flatMap (fun t => rowQ g n t (2 ^ g.starts.length))
theorem rowQ_succ (g : Gm) (n t k : Nat) : rowQ g n t (k + 1) = rowQ g n t k ++ [lostQ g n t k] := by simp [rowQ, List.range_succ]
theorem rowQ_len (g : Gm) (n t k : Nat) : (rowQ g n t k).length = k := by simp [rowQ]
theorem planQ_succ (g : Gm) (n t : Nat) : planQ g n (t + 1) = planQ g n t ++ rowQ g n t (2 ^ g.starts.length) := by simp [planQ, List.range_succ]
theorem planQ_len (g : Gm) (n t : Nat) : (planQ g n t).length = t * 2 ^ g.starts.length := by
  induction t with
  | zero => simp [planQ]
  | succ t ih => rw [planQ_succ, List.length_append, ih, rowQ_len, Nat.succ_mul]
theorem mem_planQ {g : Gm} {n m : Nat} {p : Pos} : p ∈ planQ g n m ↔ ∃ t b, t < m ∧ b < 2 ^ g.starts.length ∧ p = lostQ g n t b := by
  unfold planQ rowQ
  rw [List.mem_flatMap]
  constructor
  · rintro ⟨t, ht, hp⟩
    obtain ⟨b, hb, rfl⟩ := List.mem_map.1 hp
    exact ⟨t, b, List.mem_range.1 ht, List.mem_range.1 hb, rfl⟩
  · rintro ⟨t, b, ht, hb, rfl⟩
    exact ⟨t, List.mem_range.2 ht, List.mem_map.2 ⟨b, List.mem_range.2 hb, rfl⟩⟩
/-- what can come about with this plan -/
structure Lg (g : Gm) (n : Nat) (s : St) (t : Nat) : Prop where
  tn : t < n
  tt : s.turn = t
  st : s.starts = g.starts
  lf : s.failed.length = g.starts.length
  bu : s.budget = g.budget - cntB s.failed
theorem Lg.made {g : Gm} {n t : Nat} {s x : St} (h : Lg g n s t) (hx : x ∈ madeL s) : Lg g n x t := by
  rcases mem_made.1 hx with rfl | ⟨v, h1, h2, h3, rfl⟩
  · exact h
  · refine ⟨h.tn, h.tt, h.st, ?_, ?_⟩
    · show (s.failed.set v true).length = _
      rw [List.length_set]
      exact h.lf
    · show s.budget - 1 = g.budget - (cntB (s.failed.set v true) : Int)
      rw [cntB_set _ _ h1 h3, h.bu]
      omega
theorem Lg.after {g : Gm} {n t : Nat} {s : St} (h : Lg g n s t) (ht : t + 1 < n) : Lg g n (afterS s (-1)) (t + 1) := by
  refine ⟨ht, ?_, ?_, h.lf, h.bu⟩
  · show s.turn + 1 = _
    rw [h.tt]
    omega
  · unfold afterS
    simp only
    rw [if_neg (by omega)]
    exact h.st
theorem Lg.begin {g : Gm} {n : Nat} (hn : 0 < n) : Lg g n (beginS g) 0 := ⟨hn, rfl, rfl, by simp [beginS], by
  show g.budget = g.budget - (cntB (List.replicate g.starts.length false) : Int)
  rw [cntB_false]
  omega⟩
theorem Lg.pos {g : Gm} {n t : Nat} {s : St} (h : Lg g n s t) : ∃ p, posAt (planQ g n n) s = some p ∧ p.choice = -1 ∧ p.bound = (n : Int) - t := by
  obtain ⟨b, hb, hF⟩ := flB_surj h.lf
  have hmem : lostQ g n t b ∈ planQ g n n := mem_planQ.2 ⟨t, b, h.tn, hb, rfl⟩
  have hst : (lostQ g n t b).st = s := St.ext' h.tt.symm h.st.symm hF (by show g.budget - (cntB (flB g.starts.length b) : Int) = s.budget; rw [hF, h.bu])
  cases hp : posAt (planQ g n n) s with
  | none =>
    have := List.find?_eq_none.1 hp _ hmem
    simp [hst] at this
  | some p =>
    have h1 := List.find?_some hp
    have h2 := List.mem_of_find?_eq_some hp
    simp only [decide_eq_true_eq] at h1
    obtain ⟨t', b', ht', _, rfl⟩ := mem_planQ.1 h2
    have e : ((t' : Nat) : Int) = s.turn := congrArg St.turn h1
    rw [h.tt] at e
    have e' : t' = t := by omega
    subst e'
    exact ⟨_, rfl, rfl, rfl⟩
theorem lost_acc {g : Gm} (hv : VG g) : Acc g (planQ g g.deps.length g.deps.length) g.deps.length := by
  refine ⟨hv, fun _ => by omega, fun hd => ?_⟩
  have hn : 0 < g.deps.length := List.length_pos_iff.2 hd
  have hok : ∀ {t : Nat} {s : St} {b : Int}, Lg g g.deps.length s t → (g.deps.length : Int) - t ≤ b → okAt (planQ g g.deps.length g.deps.length) s b := fun h hb => by
    obtain ⟨p, h1, _, h3⟩ := h.pos
    have := h.tn
    exact ⟨p, h1, by omega, by omega⟩
  have hr : ∀ s, Rch g (planQ g g.deps.length g.deps.length) s → ∃ t, Lg g g.deps.length s t := fun s h => by
    induction h with
    | first hx => exact ⟨0, (Lg.begin hn).made hx⟩
    | next _ hp hne hx ih =>
      obtain ⟨t, h⟩ := ih
      obtain ⟨p', h1, h2, _⟩ := h.pos
      rw [hp] at h1
      cases h1
      rw [h2] at hx
      have := h.tt
      have := h.tn
      exact ⟨t + 1, (h.after (by omega)).made hx⟩
  refine ⟨fun x hx => hok ((Lg.begin hn).made hx) (by omega), fun s hs => ?_⟩
  obtain ⟨t, h⟩ := hr s hs
  obtain ⟨p, h1, h2, h3⟩ := h.pos
  have hl : lostP p = 1 := by unfold lostP; rw [if_pos h2]
  have ht := h.tt
  have htn := h.tn
  refine ⟨p, h1, .inl h2, fun e => by rw [hl, h3]; omega, fun e x hx => ?_⟩
  rw [h2] at hx
  exact hok ((h.after (by omega)).made hx) (by rw [hl, h3]; omega)
theorem lost_not {g : Gm} : ¬ Acc g (planQ g g.deps.length g.deps.length) ((g.deps.length : Int) - 1) := by
  rintro ⟨hv, h0, h1⟩
  by_cases hd : g.deps = []
  · have := h0 hd
    rw [hd] at this
    simp at this
  · have hn : 0 < g.deps.length := List.length_pos_iff.2 hd
    obtain ⟨p, hp, _, hb⟩ := (h1 hd).1 _ (mem_made.2 (.inl rfl))
    obtain ⟨p', h1', _, h3⟩ := (Lg.begin (g := g) hn).pos
    rw [hp] at h1'
    cases h1'
    omega
end Go.Proofs.Ytghdfoolieagfaa
