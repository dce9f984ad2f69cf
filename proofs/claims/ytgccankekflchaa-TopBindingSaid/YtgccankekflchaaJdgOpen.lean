/- Games, lists of positions, numbers and bytes that came in, opened. -/
import Derived.Test.YtgccankekflchaaLift
import Derived.Test.YtgccankekflchaaJdgN
import Derived.Deep.Slices
import Derived.Deep.Fields
import Derived.Deep.Grids
import Derived.ChangeSame
namespace Go.Proofs.Ytgccankekflchaa
open Go.ChangeShapes Go.WideShapes Go.ChangeAt Go.RowKit Go.Joins Go.Deep

section
variable {H : Type} {enc : TypeId × Value → H} {P : Program} {w : World} {base : Nat} {spare : Nat → Bool} {held : Bool}
set_option maxRecDepth 100000 in
theorem open_slice_fields {t e : TypeId} {fs : Array Field} {fuel : Nat} {cs : List Value} {x : DataW H × List MemPlace} (ht : P.underlying t = some (.slice e)) (he : P.underlying e = some (.struct fs))
    (hone : oneCellFields P fs = true) (hC : P.cellsOf e = fs.size) (h : DataW.trod enc P w base spare held fuel t cs = some x) :
    (cs = [.slice none 0 0] ∧ x = (.nil, [])) ∨
    ∃ (a : Addr) (len cap m : Nat) (D : Nat → DataW H) (Pl : Nat → List MemPlace), cs = [.slice (some a) len cap] ∧ base ≤ a.block ∧ len ≤ cap ∧ cap ≤ maxLen ∧ m = (if spare a.block then cap else len) ∧
      x = (.slice ((List.range len).map D) ((List.range (m - len)).map fun j => D (len + j)), MemPlace.row a (m * fs.size) ++ (List.range m).flatMap Pl) ∧
      ∀ i, i < m → ∃ (ys : List (DataW H × List MemPlace)) (n : Nat), D i = .agg (ys.map (·.1)) ∧ Pl i = ys.flatMap (·.2) ∧ ys.length = fs.size ∧
        ∀ (j : Nat) (f : Field), fs[j]? = some f → ∃ (v : Value) (y : DataW H × List MemPlace), w.cell? (a.add (i * fs.size + j)) = some v ∧ ys[j]? = some y ∧ DataW.trod enc P w base spare held n f.type [v] = some y := by
  rcases open_slice ht h with h0 | ⟨a, len, cap, m, n, D, Pl, hcs, hb, hl, hm, hmm, hx, hi⟩
  · exact .inl h0
  · refine .inr ⟨a, len, cap, m, D, Pl, hcs, hb, hl, hm, hmm, by rw [hC] at hx; exact hx, fun i him => ?_⟩
    obtain ⟨cs', hc, ht'⟩ := hi i him
    rw [hC] at hc
    obtain ⟨ys, n', hn', hy, hlen, hyl, hf⟩ := DataW.trod_struct he ht'
    obtain ⟨_, hcl, hat⟩ := World.cells?_some hc
    simp only [Prod.mk.injEq] at hy
    refine ⟨ys, n', hy.1, hy.2, hyl, fun j f hj => ?_⟩
    obtain ⟨ho, hk⟩ := hone_of hone j f hj
    have hjl : j < fs.size := (Array.getElem?_eq_some_iff.1 hj).1
    have hcell := hat j hjl
    have hv : cs'[j]? = some (cs'[j]'(by omega)) := List.getElem?_eq_getElem (by omega)
    have h1 := hf j f hj
    rw [ho, hk] at h1
    have hone' : (cs'.drop j).take 1 = [cs'[j]'(by omega)] := by
      rw [List.drop_eq_getElem_cons (by omega)]
      rfl
    rw [hone'] at h1
    have hys : ys[j]? = some (ys[j]'(by omega)) := List.getElem?_eq_getElem (by omega)
    refine ⟨_, _, ?_, hys, h1.trans hys⟩
    rw [← Go.Deep.add_add, hcell, hv]
end

theorem cells_at {w : World} {a : Addr} {n : Nat} {f : Nat → Value} (hn : 0 < n) (h : ∀ i, i < n → w.cell? (a.add i) = some (f i)) : ∃ b off, a = ⟨b, off, none⟩ ∧ ∀ i, i < n → w.cell? ⟨b, off + i, none⟩ = some (f i) := by
  obtain ⟨b, off, spot⟩ := a
  have h0 := h 0 hn
  cases spot with
  | none =>
    refine ⟨b, off, rfl, fun i hi => ?_⟩
    have := h i hi
    unfold Addr.add at this
    by_cases e : i = 0
    · subst e; simpa using this
    · rw [if_neg e] at this; exact this
  | some s =>
    unfold Addr.add at h0
    rw [if_pos rfl] at h0
    unfold World.cell? at h0
    split at h0 <;> simp at h0


theorem inI_of {n : Int} (hw : (Lit.int .i64 n).wf = true) : inI n := by
  have h1 := Bool.and_eq_true_iff.1 hw
  have h2 : -9223372036854775808 ≤ n := of_decide_eq_true h1.1
  have h3 : n ≤ 9223372036854775807 := of_decide_eq_true h1.2
  exact ⟨h2, by omega⟩
theorem inI_ig {l : List Int} (h : ∀ n ∈ l, inI n) (i : Nat) : inI (ig l i) := by
  rcases Nat.lt_or_ge i l.length with hi | hi
  · rw [ig_lt hi]; exact h _ (List.getElem_mem hi)
  · have : ig l i = 0 := by simp [ig, List.getD_eq_getElem?_getD, List.getElem?_eq_none hi]
    rw [this]; unfold inI; omega
theorem choose_fn {α : Type} (d : α) {m : Nat} {R : Nat → α → Prop} (h : ∀ i, i < m → ∃ t, R i t) : ∃ f : Nat → α, ∀ i, i < m → R i (f i) := by
  classical
  exact ⟨fun i => if hi : i < m then Classical.choose (h i hi) else d, fun i hi => by simp only [dif_pos hi]; exact Classical.choose_spec (h i hi)⟩
section
variable {H : Type} {enc : TypeId × Value → H} {w : World} {held : Bool}
theorem read_ints {fuel : Nat} {cs : List Value} {x : DataW H × List MemPlace} (h : DataW.trod enc Try.prog w 0 (fun _ => true) held fuel 22 cs = some x) :
    ∃ (a : Option Addr) (cap : Nat) (l : List Int), cs = [.slice a l.length cap] ∧ Ints w a l ∧ l.length < 9223372036854775808 ∧ ∀ n ∈ l, inI n := by
  rcases open_ints Try.underlying22 Try.underlying3 (by kernel_rfl) h with ⟨rfl, _⟩ | ⟨a, len, cap, zs, rfl, _, hl, hm, hz, _, hc, hw⟩
  · exact ⟨none, 0, [], rfl, Ints.nil _ _, by simp, by simp⟩
  · simp at hz
    unfold maxLen at hm
    refine ⟨some a, cap, zs.take len, by simp; omega, fun j hj => ?_, by simp; omega, fun n hn => inI_of (hw n (List.mem_of_mem_take hn))⟩
    simp at hj
    obtain ⟨b, off, rfl, hc'⟩ := cells_at (n := zs.length) (by omega) hc
    refine ⟨b, off, rfl, ?_⟩
    rw [hc' j (by omega)]
    have h1 : j < len := by omega
    simp [ig, List.getD, h1]
theorem read_bools {fuel : Nat} {cs : List Value} {x : DataW H × List MemPlace} (h : DataW.trod enc Try.prog w 0 (fun _ => true) held fuel 55 cs = some x) :
    ∃ (a : Option Addr) (cap : Nat) (l : List Bool), cs = [.slice a l.length cap] ∧ Bools w a l ∧ l.length < 9223372036854775808 := by
  rcases open_bools Try.underlying55 Try.underlying4 (by kernel_rfl) h with ⟨rfl, _⟩ | ⟨a, len, cap, B, rfl, _, hl, hm, _, hc⟩
  · exact ⟨none, 0, [], rfl, Bools.nil _ _, by simp⟩
  · unfold maxLen at hm
    refine ⟨some a, cap, (List.range len).map B, by simp, fun j hj => ?_, by simp; omega⟩
    simp at hj
    obtain ⟨b, off, rfl, hc'⟩ := cells_at (n := cap) (f := fun i => .bool (B i)) (by omega) hc
    refine ⟨b, off, rfl, ?_⟩
    rw [hc' j (by omega)]
    simp [bg, List.getD, hj]
theorem read_rows {fuel : Nat} {cs : List Value} {x : DataW H × List MemPlace} (h : DataW.trod enc Try.prog w 0 (fun _ => true) held fuel 23 cs = some x) :
    ∃ (a : Option Addr) (cap : Nat) (l : List (List Int)), cs = [.slice a l.length cap] ∧ Rows2 w a l ∧ l.length < 9223372036854775808 ∧ ∀ i, i < l.length → (l.getD i []).length < 9223372036854775808 := by
  rcases open_slice Try.underlying23 h with ⟨rfl, _⟩ | ⟨a, len, cap, m, n, D, Pl, rfl, _, hl, hm, hmm, _, hi⟩
  · exact ⟨none, 0, [], rfl, fun i hi => absurd hi (by simp), by simp, fun i hi => absurd hi (by simp)⟩
  · simp at hmm
    subst hmm
    unfold maxLen at hm
    have hx : ∀ i, i < m → ∃ t : List Int, (∃ ra rc, w.cell? (a.add i) = some (.slice ra t.length rc) ∧ Ints w ra t) ∧ t.length < 9223372036854775808 := fun i him => by
      obtain ⟨cs', hc, ht⟩ := hi i him
      rw [show Try.prog.cellsOf 22 = 1 by kernel_rfl, Nat.mul_one] at hc
      obtain ⟨ra, rc, l, rfl, h1, h2, _⟩ := read_ints ht
      obtain ⟨_, _, hat⟩ := World.cells?_some hc
      have := hat 0 (by omega)
      rw [Go.Deep.add_add, Nat.add_zero] at this
      exact ⟨l, ⟨ra, rc, by simpa using this, h1⟩, h2⟩
    obtain ⟨f, hf⟩ := choose_fn ([] : List Int) hx
    have hg : ∀ i, i < len → ((List.range len).map f).getD i [] = f i := fun i hi => by simp [List.getD, hi]
    refine ⟨some a, m, (List.range len).map f, by simp, fun i hi => ?_, by simp; omega, fun i hi => ?_⟩
    · simp at hi
      obtain ⟨⟨ra, rc, c0, hI⟩, _⟩ := hf i (by omega)
      obtain ⟨⟨_, _, d0, _⟩, _⟩ := hf 0 (by omega)
      rw [hg i hi]
      obtain ⟨b, off, rfl, hcs⟩ := cells_at (w := w) (a := a) (n := m) (f := fun j => (w.cell? (a.add j)).getD undef) (by omega) (fun j hj => by
        obtain ⟨⟨_, _, e, _⟩, _⟩ := hf j hj
        rw [e]; rfl)
      refine ⟨b, off, ra, rc, rfl, ?_, hI⟩
      rw [hcs i (by omega), c0]
      rfl
    · simp at hi
      rw [hg i hi]
      exact (hf i (by omega)).2
theorem read_poss {fuel : Nat} {cs : List Value} {x : DataW H × List MemPlace} (h : DataW.trod enc Try.prog w 0 (fun _ => true) held fuel 28 cs = some x) :
    ∃ (a : Option Addr) (cap : Nat) (l : List Pos) (pv : Nat → Value), cs = [.slice a l.length cap] ∧ PlanAt w a l pv ∧ l.length < 9223372036854775808 ∧ l.length ≤ cap ∧ cap ≤ maxLen ∧ ∀ p ∈ l, PosIn p ∧ inI p.choice ∧ p.starts.length < 9223372036854775808 ∧ p.failed.length < 9223372036854775808 := by
  rcases open_slice_fields Try.underlying28 Try.underlying57 (by kernel_rfl) (by kernel_rfl) h with ⟨rfl, _⟩ | ⟨a, len, cap, m, D, Pl, rfl, _, hl, hm, hmm, _, hi⟩
  · exact ⟨none, 0, [], fun _ => undef, rfl, fun i hi => absurd hi (by simp), by simp, by simp, by unfold maxLen; omega, by simp⟩
  · simp at hmm
    subst hmm
    have hm' := hm
    unfold maxLen at hm
    have hx : ∀ i, i < m → ∃ t : Pos × AdP, (w.cell? (a.add (i * 6 + 0)) = some (.int .i64 t.1.turn) ∧ w.cell? (a.add (i * 6 + 1)) = some (.slice t.2.1 t.1.starts.length t.2.2.1) ∧ w.cell? (a.add (i * 6 + 2)) = some (.slice t.2.2.2.1 t.1.failed.length t.2.2.2.2) ∧ w.cell? (a.add (i * 6 + 3)) = some (.int .i64 t.1.budget) ∧ w.cell? (a.add (i * 6 + 4)) = some (.int .i64 t.1.choice) ∧ w.cell? (a.add (i * 6 + 5)) = some (.int .i64 t.1.bound)) ∧
        (PsAt w t.1 t.2.1 t.2.2.2.1 ∧ PosIn t.1 ∧ inI t.1.choice ∧ t.1.starts.length < 9223372036854775808 ∧ t.1.failed.length < 9223372036854775808) := fun i him => by
      obtain ⟨ys, n, _, _, _, hf⟩ := hi i him
      obtain ⟨v0, y0, c0, _, t0⟩ := hf 0 _ rfl
      obtain ⟨v1, y1, c1, _, t1⟩ := hf 1 _ rfl
      obtain ⟨v2, y2, c2, _, t2⟩ := hf 2 _ rfl
      obtain ⟨v3, y3, c3, _, t3⟩ := hf 3 _ rfl
      obtain ⟨v4, y4, c4, _, t4⟩ := hf 4 _ rfl
      obtain ⟨v5, y5, c5, _, t5⟩ := hf 5 _ rfl
      obtain ⟨z0, e0, _, w0⟩ := DataW.trod_int Try.underlying3 t0
      obtain ⟨a1, k1, l1, e1, h1, s1, i1⟩ := read_ints t1
      obtain ⟨a2, k2, l2, e2, h2, s2⟩ := read_bools t2
      obtain ⟨z3, e3, _, w3⟩ := DataW.trod_int Try.underlying3 t3
      obtain ⟨z4, e4, _, w4⟩ := DataW.trod_int Try.underlying3 t4
      obtain ⟨z5, e5, _, w5⟩ := DataW.trod_int Try.underlying3 t5
      simp at e0 e1 e2 e3 e4 e5
      subst e0 e1 e2 e3 e4 e5
      exact ⟨(⟨z0, l1, l2, z3, z4, z5⟩, (a1, k1, a2, k2)), ⟨c0, c1, c2, c3, c4, c5⟩, ⟨h1, h2⟩, ⟨inI_of w0, inI_of w3, inI_ig i1, inI_of w5⟩, inI_of w4, s1, s2⟩
    obtain ⟨f, hf⟩ := choose_fn ((⟨0, [], [], 0, 0, 0⟩, (none, 0, none, 0)) : Pos × AdP) hx
    refine ⟨some a, m, (List.range len).map (fun i => (f i).1), fun i => psV (f i).1 (f i).2.1 (f i).2.2.1 (f i).2.2.2.1 (f i).2.2.2.2, by simp, fun i hi => ?_, by simp; omega, by simp; omega, hm', fun p hp => ?_⟩
    · simp at hi
      obtain ⟨⟨c0, c1, c2, c3, c4, c5⟩, hps, _⟩ := hf i (by omega)
      obtain ⟨⟨d0, _⟩, _⟩ := hf 0 (by omega)
      obtain ⟨b, off, rfl, _⟩ := cells_at (w := w) (a := a) (n := 1) (f := fun _ => .int .i64 (f 0).1.turn) (by omega) (fun j hj => by
        obtain rfl : j = 0 := by omega
        simpa using d0)
      have hadd : ∀ k, w.cell? (Addr.add ⟨b, off, none⟩ k) = w.cell? ⟨b, off + k, none⟩ := fun k => by
        unfold Addr.add
        by_cases e : k = 0
        · subst e; rw [if_pos rfl]; rfl
        · rw [if_neg e]
      rw [hadd] at c0 c1 c2 c3 c4 c5
      simp only [List.getElem_map, List.getElem_range]
      exact ⟨b, off, (f i).2.1, (f i).2.2.1, (f i).2.2.2.1, (f i).2.2.2.2, rfl, rfl, ⟨c0, by rw [Nat.add_assoc]; exact c1, by rw [Nat.add_assoc]; exact c2, by rw [Nat.add_assoc]; exact c3, by rw [Nat.add_assoc]; exact c4, by rw [Nat.add_assoc]; exact c5⟩, hps⟩
    · simp only [List.mem_map, List.mem_range] at hp
      obtain ⟨i, hi, rfl⟩ := hp
      exact (hf i (by omega)).2.2
set_option maxRecDepth 100000 in
theorem open_poss {b0 : Nat} {r : Reach} {v : Value} {d : DataW H} {p : List MemPlace} (hv : Value.okWide Try.prog w r b0 28 v) (h : DataW.Trod enc Try.prog w 0 (fun _ => true) held 28 v d p) :
    ∃ (a : Option Addr) (cap : Nat) (l : List Pos) (pv : Nat → Value), v = .slice a l.length cap ∧ PlanAt w a l pv ∧ l.length < 9223372036854775808 ∧ l.length ≤ cap ∧ cap ≤ maxLen ∧ ∀ p ∈ l, PosIn p ∧ inI p.choice ∧ p.starts.length < 9223372036854775808 ∧ p.failed.length < 9223372036854775808 := by
  obtain ⟨a, len, cap, rfl⟩ := okWide_slice Try.underlying28 hv
  obtain ⟨fuel, hf⟩ := h
  obtain ⟨a', cap', l, pv, hcs, h1⟩ := read_poss hf
  simp [Value.cells] at hcs
  obtain ⟨rfl, rfl, rfl⟩ := hcs
  exact ⟨a, cap, l, pv, rfl, h1⟩
/-- a game that came in: its numbers, moderate or not -/
structure GmBig (g : Gm) : Prop where
  s : g.starts.length < 9223372036854775808
  d : g.deps.length < 9223372036854775808
  r : ∀ i, i < g.deps.length → (dg g i).length < 9223372036854775808
  b : inI g.budget
set_option maxRecDepth 100000 in
theorem open_game {b0 : Nat} {r : Reach} {v : Value} {d : DataW H} {p : List MemPlace} (hv : Value.okWide Try.prog w r b0 25 v) (h : DataW.Trod enc Try.prog w 0 (fun _ => true) held 25 v d p) :
    ∃ (g : Gm) (sa : Option Addr) (sc : Nat) (da : Option Addr) (dc : Nat), v = gmV g sa sc da dc ∧ GmAt w g sa da ∧ GmBig g := by
  obtain ⟨v0, v1, v2, y0, y1, y2, n, rfl, _, _, h0, h1, h2⟩ := open_agg3 Try.underlying25 (by kernel_rfl) (by kernel_rfl) hv h
  obtain ⟨sa, sc, l, e0, hI, hl, _⟩ := read_ints h0
  obtain ⟨da, dc, ll, e1, hR, hd, hr⟩ := read_rows h1
  obtain ⟨z, e2, _, wz⟩ := DataW.trod_int Try.underlying3 h2
  simp at e0 e1 e2
  subst e0 e1 e2
  exact ⟨⟨l, ll, z⟩, sa, sc, da, dc, rfl, ⟨hI, hR⟩, ⟨hl, hd, hr, inI_of wz⟩⟩
set_option maxRecDepth 100000 in
theorem open_i64 {b0 : Nat} {r : Reach} {v : Value} {d : DataW H} {p : List MemPlace} (hv : Value.okWide Try.prog w r b0 3 v) (h : DataW.Trod enc Try.prog w 0 (fun _ => true) held 3 v d p) :
    ∃ n : Int, v = .int .i64 n ∧ inI n := by
  obtain ⟨n, rfl, _, _, hw⟩ := open_int Try.underlying3 hv h
  exact ⟨n, rfl, inI_of hw⟩
end
end Go.Proofs.Ytgccankekflchaa

