/- The plain law of JudgeSound: whoever follows an accepted plan keeps within the bound. -/
import Derived.Test.YtghdfoolieagfaaJdgZ
namespace Go.Proofs.Ytghdfoolieagfaa

/-- whatever the adversary makes of this situation, the plan has a position for it that fits in what is left -/
def Sd (g : Gm) (plan : List Pos) (bound : Int) (s : St) (lost : Int) : Prop := ∀ x ∈ madeL s, Rch g plan x ∧ Inv g x ∧ ∃ p, posAt plan x = some p ∧ 0 ≤ p.bound ∧ lost + p.bound ≤ bound
theorem Sd.begin {g : Gm} {plan : List Pos} {bound : Int} (h : Acc g plan bound) (hd : g.deps ≠ []) : Sd g plan bound (beginS g) 0 := fun x hx => by
  obtain ⟨p, h1, h2, h3⟩ := (h.2.2 hd).1 x hx
  exact ⟨.first hx, (Inv.begin h.1 hd).made hx, p, h1, h2, by omega⟩
theorem Sd.step {g : Gm} {plan : List Pos} {bound lost : Int} {s x : St} {p : Pos} (h : Acc g plan bound) (hd : g.deps ≠ []) (hs : Sd g plan bound s lost) (hx : x ∈ madeL s) (hp : posAt plan x = some p) (ht : x.turn + 1 ≠ g.deps.length) : Sd g plan bound (afterS x p.choice) (lost + lostP p) := fun y hy => by
  obtain ⟨hr, hi, q, hq, _, h3⟩ := hs x hx
  rw [hp] at hq
  cases hq
  obtain ⟨q, hq, hc, _, h5⟩ := (h.2.2 hd).2 x hr
  rw [hp] at hq
  cases hq
  obtain ⟨r, h6, h7, h8⟩ := h5 ht y hy
  exact ⟨.next hr hp ht hy, (hi.after hc ht).made hy, r, h6, h7, by omega⟩
theorem Sd.last {g : Gm} {plan : List Pos} {bound lost : Int} {s x : St} {p : Pos} (h : Acc g plan bound) (hd : g.deps ≠ []) (hs : Sd g plan bound s lost) (hx : x ∈ madeL s) (hp : posAt plan x = some p) (ht : x.turn + 1 = g.deps.length) : lost + lostP p ≤ bound := by
  obtain ⟨hr, _, q, hq, _, h3⟩ := hs x hx
  rw [hp] at hq
  cases hq
  obtain ⟨q, hq, _, h4, _⟩ := (h.2.2 hd).2 x hr
  rw [hp] at hq
  cases hq
  have := h4 ht
  omega
theorem mem_dep {g : Gm} (hv : VG g) {t : Nat} (ht : t < g.deps.length) {c : Int} (hc : c ∈ dg g t) : 0 ≤ c ∧ c < g.starts.length := by
  have hk := hv.2.2.2.2.2 t ht
  obtain ⟨j, hj, rfl⟩ := List.getElem_of_mem hc
  have hge : ∀ i, i < (dg g t).length → 0 ≤ ig (dg g t) i := fun i => by
    induction i with
    | zero => intro hi; have := (hk 0 hi).1; simp at this; omega
    | succ i ih =>
      intro hi
      have h1 := ih (by omega)
      have := (hk (i + 1) hi).1
      simp at this
      omega
  have h1 := hge j hj
  have h2 := (hk j hj).2
  rw [ig_lt hj] at h1 h2
  exact ⟨h1, h2⟩
theorem Sd.poss {g : Gm} {plan : List Pos} {bound lost : Int} {s x : St} {p : Pos} (h : Acc g plan bound) (hd : g.deps ≠ []) (hs : Sd g plan bound s lost) (hx : x ∈ madeL s) (hp : posAt plan x = some p) : p.st = x ∧ possP g p ∧ (p.choice = -1 ∨ 0 ≤ p.choice ∧ p.choice < p.starts.length ∧ 0 < ig p.starts p.choice.toNat) := by
  obtain ⟨hr, hi, _⟩ := hs x hx
  obtain ⟨q, hq, hc, _⟩ := (h.2.2 hd).2 x hr
  rw [hp] at hq
  cases hq
  have hst : p.st = x := by
    unfold posAt at hp
    simpa using List.find?_some hp
  refine ⟨hst, ?_⟩
  subst hst
  have i1 : p.starts.length = g.starts.length := hi.ls
  have i2 : p.failed.length = g.starts.length := hi.lf
  have i3 : 0 ≤ p.turn := hi.t0
  have i4 : p.turn < g.deps.length := hi.tn
  rcases hc with hc | ⟨h1, h2, h3⟩
  · exact ⟨.inl hc, .inl hc⟩
  · have h4 := mem_dep h.1 (t := p.turn.toNat) (by omega) h1
    exact ⟨.inr ⟨i3, i4, h4.1, by rw [i1]; exact h4.2, by rw [i2]; exact h4.2, h1, h2, h3⟩, .inr ⟨h4.1, by rw [i1]; exact h4.2, h3⟩⟩
end Go.Proofs.Ytghdfoolieagfaa
