/- Plans for a game: what it means that a plan is accepted (plain). -/
import Derived.Test.YtgccankekflchaaData
namespace Go.Proofs.Ytgccankekflchaa

structure Pos where
  turn : Int
  starts : List Int
  failed : List Bool
  budget : Int
  choice : Int
  bound : Int
structure Gm where
  starts : List Int
  deps : List (List Int)
  budget : Int
/-- what there is when a vehicle has to be chosen -/
structure St where
  turn : Int
  starts : List Int
  failed : List Bool
  budget : Int
def Pos.st (p : Pos) : St := ⟨p.turn, p.starts, p.failed, p.budget⟩
theorem St.ext' {s t : St} (h1 : s.turn = t.turn) (h2 : s.starts = t.starts) (h3 : s.failed = t.failed) (h4 : s.budget = t.budget) : s = t := by
  cases s; cases t; simp_all
instance : DecidableEq St := fun s t =>
  if h : s.turn = t.turn ∧ s.starts = t.starts ∧ s.failed = t.failed ∧ s.budget = t.budget then isTrue (St.ext' h.1 h.2.1 h.2.2.1 h.2.2.2) else isFalse fun e => h (by subst e; exact ⟨rfl, rfl, rfl, rfl⟩)
/-- what the adversary can make of it: nothing first, then one vehicle -/
def hit (s : St) (v : Nat) : St := { s with failed := s.failed.set v true, budget := s.budget - 1 }
def hits (s : St) : List Nat := if 0 < s.budget then (List.range s.failed.length).filter (fun v => !bg s.failed v) else []
def madeL (s : St) : List St := s :: (hits s).map (hit s)
def beginS (g : Gm) : St := ⟨0, g.starts, List.replicate g.starts.length false, g.budget⟩
def posAt (plan : List Pos) (s : St) : Option Pos := plan.find? (fun p => decide (p.st = s))
def afterS (s : St) (c : Int) : St := { s with turn := s.turn + 1, starts := if 0 ≤ c then s.starts.set c.toNat (ig s.starts c.toNat - 1) else s.starts }
def lostP (p : Pos) : Int := if p.choice = -1 then 1 else 0
def dg (g : Gm) (t : Nat) : List Int := g.deps.getD t []
def can (g : Gm) (s : St) (c : Int) : Prop := c = -1 ∨ (c ∈ dg g s.turn.toNat ∧ bg s.failed c.toNat = false ∧ 0 < ig s.starts c.toNat)
/-- a valid game -/
def okDep (m : Nat) (l : List Int) : Prop := ∀ i, i < l.length → (if i = 0 then (-1 : Int) else ig l (i - 1)) < ig l i ∧ ig l i < m
def VG (g : Gm) : Prop := g.starts.length ≤ 6 ∧ g.deps.length ≤ 12 ∧ 0 ≤ g.budget ∧ g.budget ≤ 3 ∧ (∀ i, i < g.starts.length → 0 ≤ ig g.starts i ∧ ig g.starts i ≤ 12) ∧ ∀ i, i < g.deps.length → okDep g.starts.length (dg g i)
def okAt (plan : List Pos) (x : St) (b : Int) : Prop := ∃ p, posAt plan x = some p ∧ 0 ≤ p.bound ∧ p.bound ≤ b
inductive Rch (g : Gm) (plan : List Pos) : St → Prop
  | first {x : St} : x ∈ madeL (beginS g) → Rch g plan x
  | next {s x : St} {p : Pos} : Rch g plan s → posAt plan s = some p → s.turn + 1 ≠ g.deps.length → x ∈ madeL (afterS s p.choice) → Rch g plan x
def Node (g : Gm) (plan : List Pos) (s : St) : Prop := ∃ p, posAt plan s = some p ∧ can g s p.choice ∧ (s.turn + 1 = g.deps.length → lostP p ≤ p.bound) ∧ (s.turn + 1 ≠ g.deps.length → ∀ x ∈ madeL (afterS s p.choice), okAt plan x (p.bound - lostP p))
def Acc (g : Gm) (plan : List Pos) (bound : Int) : Prop := VG g ∧ (g.deps = [] → 0 ≤ bound) ∧ (g.deps ≠ [] → (∀ x ∈ madeL (beginS g), okAt plan x bound) ∧ ∀ s, Rch g plan s → Node g plan s)
noncomputable def accB (g : Gm) (plan : List Pos) (bound : Int) : Bool := open Classical in decide (Acc g plan bound)
theorem accB_true {g : Gm} {plan : List Pos} {bound : Int} (h : Acc g plan bound) : accB g plan bound = true := by unfold accB; exact @decide_eq_true _ (Classical.propDecidable _) h
theorem accB_false {g : Gm} {plan : List Pos} {bound : Int} (h : ¬ Acc g plan bound) : accB g plan bound = false := by unfold accB; exact @decide_eq_false _ (Classical.propDecidable _) h

/-! ### what is reached keeps its form -/
structure Inv (g : Gm) (s : St) : Prop where
  ls : s.starts.length = g.starts.length
  lf : s.failed.length = g.starts.length
  t0 : 0 ≤ s.turn
  tn : s.turn < g.deps.length
  b0 : s.budget ≤ g.budget
  b1 : 0 ≤ s.budget
  st : ∀ i, i < s.starts.length → 0 ≤ ig s.starts i ∧ ig s.starts i ≤ ig g.starts i
theorem mem_made {s x : St} : x ∈ madeL s ↔ x = s ∨ ∃ v, v < s.failed.length ∧ 0 < s.budget ∧ bg s.failed v = false ∧ x = hit s v := by
  unfold madeL hits
  rw [List.mem_cons, List.mem_map]
  constructor
  · rintro (h | ⟨v, hv, rfl⟩)
    · exact .inl h
    · split at hv
      · rename_i hb
        simp only [List.mem_filter, List.mem_range, Bool.not_eq_true'] at hv
        exact .inr ⟨v, hv.1, hb, hv.2, rfl⟩
      · simp at hv
  · rintro (h | ⟨v, h1, h2, h3, rfl⟩)
    · exact .inl h
    · refine .inr ⟨v, ?_, rfl⟩
      rw [if_pos h2]
      simp only [List.mem_filter, List.mem_range, Bool.not_eq_true']
      exact ⟨h1, h3⟩
theorem Inv.made {g : Gm} {s x : St} (h : Inv g s) (hx : x ∈ madeL s) : Inv g x := by
  rcases mem_made.1 hx with rfl | ⟨v, h1, h2, h3, rfl⟩
  · exact h
  · have h4 := h.b0
    exact ⟨h.ls, by show (s.failed.set v true).length = _; rw [List.length_set]; exact h.lf, h.t0, h.tn, by show s.budget - 1 ≤ _; omega, by show 0 ≤ s.budget - 1; omega, h.st⟩
theorem ig_at' (l : List Int) (j : Nat) : l[j]?.getD 0 = ig l j := by simp [ig]
theorem ig_set (l : List Int) (i j : Nat) (v : Int) : ig (l.set i v) j = if i = j ∧ i < l.length then v else ig l j := by
  rw [← ig_at', ← ig_at', List.getElem?_set]
  by_cases h : i = j
  · subst h
    by_cases h' : i < l.length
    · simp [h']
    · simp [h']
  · simp [h]
theorem Inv.after {g : Gm} {s : St} {c : Int} (h : Inv g s) (hc : can g s c) (hn : s.turn + 1 ≠ g.deps.length) : Inv g (afterS s c) := by
  have h1 := h.t0
  have h2 := h.tn
  refine ⟨?_, h.lf, by show 0 ≤ s.turn + 1; omega, by show s.turn + 1 < _; omega, h.b0, h.b1, fun i hi => ?_⟩
  · show (if 0 ≤ c then s.starts.set c.toNat (ig s.starts c.toNat - 1) else s.starts).length = _
    split
    · rw [List.length_set]; exact h.ls
    · exact h.ls
  · have e : (afterS s c).starts = if 0 ≤ c then s.starts.set c.toNat (ig s.starts c.toNat - 1) else s.starts := rfl
    rw [e] at hi ⊢
    split at hi
    · rename_i h0
      rw [if_pos h0, ig_set]
      rw [List.length_set] at hi
      have h3 := h.st i hi
      split
      · rename_i h4
        obtain ⟨rfl, h5⟩ := h4
        rcases hc with rfl | ⟨_, _, h6⟩
        · omega
        · omega
      · exact h3
    · rename_i h0
      rw [if_neg h0]
      exact h.st i hi
theorem Inv.begin {g : Gm} (hv : VG g) (hd : g.deps ≠ []) : Inv g (beginS g) := by
  obtain ⟨_, _, h3, _, h5, _⟩ := hv
  refine ⟨rfl, List.length_replicate, Int.le_refl _, ?_, Int.le_refl _, h3, fun i hi => ⟨(h5 i hi).1, Int.le_refl _⟩⟩
  show (0 : Int) < _
  have := List.length_pos_iff.2 hd
  omega
end Go.Proofs.Ytgccankekflchaa

