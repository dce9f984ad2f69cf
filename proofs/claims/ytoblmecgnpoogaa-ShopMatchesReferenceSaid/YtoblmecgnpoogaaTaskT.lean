/- Tasks, booleans and numbers that came in, opened. -/
import Derived.Test.YtoblmecgnpoogaaLift
import Derived.Test.YtoblmecgnpoogaaTaskC
import Derived.Deep.Slices
import Derived.Deep.Fields
import Derived.Deep.Grids
import Derived.ChangeSame
namespace Go.Proofs.Ytoblmecgnpoogaa
open Go.ChangeShapes Go.WideShapes Go.ChangeAt Go.RowKit Go.Joins Go.Deep

section
variable {H : Type} {enc : TypeId × Value → H} {P : Program} {w : World} {base : Nat} {spare : Nat → Bool} {held : Bool}
theorem open_slice_fields {t e : TypeId} {fs : Array Field} {fuel : Nat} {cs : List Value} {x : DataW H × List MemPlace} (ht : P.underlying t = some (.slice e)) (he : P.underlying e = some (.struct fs))
    (hone : oneCellFields P fs = true) (hC : P.cellsOf e = fs.size) (h : DataW.trod enc P w base spare held fuel t cs = some x) :
    (cs = [.slice none 0 0] ∧ x = (.nil, [])) ∨
    ∃ (a : Addr) (len cap m : Nat) (D : Nat → DataW H) (Pl : Nat → List MemPlace), cs = [.slice (some a) len cap] ∧ base ≤ a.block ∧ len ≤ cap ∧ cap ≤ maxLen ∧ m = (if spare a.block then cap else len) ∧
      x = (.slice ((List.range len).map D) ((List.range (m - len)).map fun j => D (len + j)), MemPlace.row a (m * fs.size) ++ (List.range m).flatMap Pl) ∧
      ∀ i, i < m → ∃ (ys : List (DataW H × List MemPlace)) (n : Nat), D i = .agg (ys.map (·.1)) ∧ Pl i = ys.flatMap (·.2) ∧ ys.length = fs.size ∧
        ∀ (j : Nat) (f : Field), fs[j]? = some f → ∃ (v : Value) (y : DataW H × List MemPlace), w.cell? (a.add (i * fs.size + j)) = some v ∧ ys[j]? = some y ∧ DataW.trod enc P w base spare held n f.type [v] = some y := by
  rcases open_slice ht h with h0 | ⟨a, len, cap, m, n, D, Pl, hcs, hb, hl, hm, hmm, hx, hi⟩
  · exact .inl h0
  · refine .inr ⟨a, len, cap, m, D, Pl, hcs, hb, hl, hm, hmm, by rw [hC] at hx; exact hx, fun i him => ?_⟩
    obtain ⟨cs', hc, ht'⟩ := hi i him
    rw [hC] at hc
    obtain ⟨ys, n', hn', hy, hlen, hyl, hf⟩ := DataW.trod_struct he ht'
    obtain ⟨_, hcl, hat⟩ := World.cells?_some hc
    simp only [Prod.mk.injEq] at hy
    refine ⟨ys, n', hy.1, hy.2, hyl, fun j f hj => ?_⟩
    obtain ⟨ho, hk⟩ := hone_of hone j f hj
    have hjl : j < fs.size := (Array.getElem?_eq_some_iff.1 hj).1
    have hcell := hat j hjl
    have hv : cs'[j]? = some (cs'[j]'(by omega)) := List.getElem?_eq_getElem (by omega)
    have h1 := hf j f hj
    rw [ho, hk] at h1
    have hone' : (cs'.drop j).take 1 = [cs'[j]'(by omega)] := by
      rw [List.drop_eq_getElem_cons (by omega)]
      rfl
    rw [hone'] at h1
    have hys : ys[j]? = some (ys[j]'(by omega)) := List.getElem?_eq_getElem (by omega)
    refine ⟨_, _, ?_, hys, h1.trans hys⟩
    rw [← Go.Deep.add_add, hcell, hv]
end

theorem cells_at {w : World} {a : Addr} {n : Nat} {f : Nat → Value} (hn : 0 < n) (h : ∀ i, i < n → w.cell? (a.add i) = some (f i)) : ∃ b off, a = ⟨b, off, none⟩ ∧ ∀ i, i < n → w.cell? ⟨b, off + i, none⟩ = some (f i) := by
  obtain ⟨b, off, spot⟩ := a
  have h0 := h 0 hn
  cases spot with
  | none =>
    refine ⟨b, off, rfl, fun i hi => ?_⟩
    have := h i hi
    unfold Addr.add at this
    by_cases e : i = 0
    · subst e; simpa using this
    · rw [if_neg e] at this; exact this
  | some s =>
    unfold Addr.add at h0
    rw [if_pos rfl] at h0
    unfold World.cell? at h0
    split at h0 <;> simp at h0

section
variable {H : Type} {enc : TypeId × Value → H} {w : World} {held : Bool}
theorem read_ints {fuel : Nat} {cs : List Value} {x : DataW H × List MemPlace} (h : DataW.trod enc Try.prog w 0 (fun _ => true) held fuel 23 cs = some x) :
    ∃ (a : Option Addr) (cap : Nat) (l : List Int), cs = [.slice a l.length cap] ∧ Ints w a l ∧ l.length < 9223372036854775808 := by
  rcases open_ints Try.underlying23 Try.underlying3 (by kernel_rfl) h with ⟨rfl, _⟩ | ⟨a, len, cap, zs, rfl, _, hl, hm, hz, _, hc, _⟩
  · exact ⟨none, 0, [], rfl, Ints.nil _ _, by simp⟩
  · simp at hz
    unfold maxLen at hm
    refine ⟨some a, cap, zs.take len, by simp; omega, fun j hj => ?_, by simp; omega⟩
    simp at hj
    obtain ⟨b, off, rfl, hc'⟩ := cells_at (n := zs.length) (by omega) hc
    refine ⟨b, off, rfl, ?_⟩
    rw [hc' j (by omega)]
    have h1 : j < len := by omega
    simp [ig, List.getD, h1]
theorem open_bools' {fuel : Nat} {cs : List Value} {x : DataW H × List MemPlace} (h : DataW.trod enc Try.prog w 0 (fun _ => true) held fuel 52 cs = some x) :
    ∃ (a : Option Addr) (cap : Nat) (l : List Bool), cs = [.slice a l.length cap] ∧ Bools w a l ∧ l.length < 9223372036854775808 := by
  rcases open_bools Try.underlying52 Try.underlying4 (by kernel_rfl) h with ⟨rfl, _⟩ | ⟨a, len, cap, B, rfl, _, hl, hm, _, hc⟩
  · exact ⟨none, 0, [], rfl, Bools.nil _ _, by simp⟩
  · unfold maxLen at hm
    refine ⟨some a, cap, (List.range len).map B, by simp, fun j hj => ?_, by simp; omega⟩
    simp at hj
    obtain ⟨b, off, rfl, hc'⟩ := cells_at (n := cap) (f := fun i => .bool (B i)) (by omega) hc
    refine ⟨b, off, rfl, ?_⟩
    rw [hc' j (by omega)]
    simp [bg, List.getD, hj]

theorem open_tasks' {fuel : Nat} {cs : List Value} {x : DataW H × List MemPlace} (h : DataW.trod enc Try.prog w 0 (fun _ => true) held fuel 22 cs = some x) :
    ∃ (a : Option Addr) (cap : Nat) (l : List Tk), cs = [.slice a l.length cap] ∧ Tasks w a l ∧ l.length < 9223372036854775808 ∧ ∀ i, i < l.length → (tg l i).after.length < 9223372036854775808 := by
  rcases open_slice_fields Try.underlying22 Try.underlying38 (by kernel_rfl) (by kernel_rfl) h with ⟨rfl, _⟩ | ⟨a, len, cap, m, D, Pl, rfl, _, hl, hm, hmm, _, hi⟩
  · exact ⟨none, 0, [], rfl, fun i hi => absurd hi (by simp), by simp, fun i hi => absurd hi (by simp)⟩
  · simp at hmm
    subst hmm
    unfold maxLen at hm
    have hx : ∀ i, i < m → ∃ t : Tk, (∃ aa ac, w.cell? (a.add (i * 4 + 0)) = some (.int .i64 t.hours) ∧ w.cell? (a.add (i * 4 + 1)) = some (.int .i64 t.skill) ∧ w.cell? (a.add (i * 4 + 2)) = some (.bool t.bay) ∧ w.cell? (a.add (i * 4 + 3)) = some (.slice aa t.after.length ac) ∧ Ints w aa t.after) ∧ t.after.length < 9223372036854775808 := fun i him => by
      obtain ⟨ys, n, _, _, _, hf⟩ := hi i him
      obtain ⟨v0, y0, c0, _, t0⟩ := hf 0 _ rfl
      obtain ⟨v1, y1, c1, _, t1⟩ := hf 1 _ rfl
      obtain ⟨v2, y2, c2, _, t2⟩ := hf 2 _ rfl
      obtain ⟨v3, y3, c3, _, t3⟩ := hf 3 _ rfl
      obtain ⟨z0, e0, _, _⟩ := DataW.trod_int Try.underlying3 t0
      obtain ⟨z1, e1, _, _⟩ := DataW.trod_int Try.underlying3 t1
      obtain ⟨z2, e2, _⟩ := DataW.trod_bool Try.underlying4 t2
      obtain ⟨aa, ac, l3, e3, h3, s3⟩ := read_ints t3
      simp at e0 e1 e2 e3
      subst e0 e1 e2 e3
      exact ⟨⟨z0, z1, z2, l3⟩, ⟨aa, ac, c0, c1, c2, c3, h3⟩, s3⟩
    obtain ⟨f, hf⟩ : ∃ f : Nat → Tk, ∀ i, i < m → (∃ aa ac, w.cell? (a.add (i * 4 + 0)) = some (.int .i64 (f i).hours) ∧ w.cell? (a.add (i * 4 + 1)) = some (.int .i64 (f i).skill) ∧ w.cell? (a.add (i * 4 + 2)) = some (.bool (f i).bay) ∧ w.cell? (a.add (i * 4 + 3)) = some (.slice aa (f i).after.length ac) ∧ Ints w aa (f i).after) ∧ (f i).after.length < 9223372036854775808 := by
      classical
      exact ⟨fun i => if hi : i < m then Classical.choose (hx i hi) else ⟨0, 0, false, []⟩, fun i hi => by simp only [dif_pos hi]; exact Classical.choose_spec (hx i hi)⟩
    have hg : ∀ i, i < len → tg ((List.range len).map f) i = f i := fun i hi => by simp [tg, List.getD, hi]
    refine ⟨some a, m, (List.range len).map f, by simp, fun i hi => ?_, by simp; omega, fun i hi => ?_⟩
    · simp at hi
      obtain ⟨⟨aa, ac, c0, c1, c2, c3, hI⟩, hs⟩ := hf i (by omega)
      obtain ⟨⟨_, _, d0, _, _, _, _⟩, _⟩ := hf 0 (by omega)
      rw [hg i hi]
      obtain ⟨b, off, rfl, _⟩ := cells_at (w := w) (a := a) (n := 1) (f := fun _ => .int .i64 (f 0).hours) (by omega) (fun j hj => by
        obtain rfl : j = 0 := by omega
        simpa using d0)
      have hadd : ∀ k, w.cell? (Addr.add ⟨b, off, none⟩ k) = w.cell? ⟨b, off + k, none⟩ := fun k => by
        unfold Addr.add
        by_cases e : k = 0
        · subst e; rw [if_pos rfl]; rfl
        · rw [if_neg e]
      rw [hadd] at c0 c1 c2 c3
      exact ⟨b, off, aa, ac, rfl, c0, by rw [Nat.add_assoc]; exact c1, by rw [Nat.add_assoc]; exact c2, by rw [Nat.add_assoc]; exact c3, hI⟩
    · simp at hi
      rw [hg i hi]
      exact (hf i (by omega)).2

theorem open_tasks {b0 : Nat} {r : Reach} {v : Value} {d : DataW H} {p : List MemPlace} (hv : Value.okWide Try.prog w r b0 22 v) (h : DataW.Trod enc Try.prog w 0 (fun _ => true) held 22 v d p) :
    ∃ (a : Option Addr) (cap : Nat) (l : List Tk), v = .slice a l.length cap ∧ Tasks w a l ∧ l.length < 9223372036854775808 ∧ ∀ i, i < l.length → (tg l i).after.length < 9223372036854775808 := by
  obtain ⟨a, len, cap, rfl⟩ := okWide_slice Try.underlying22 hv
  obtain ⟨fuel, hf⟩ := h
  obtain ⟨a', cap', l, hcs, hT, h1, h2⟩ := open_tasks' hf
  simp [Value.cells] at hcs
  obtain ⟨rfl, rfl, rfl⟩ := hcs
  exact ⟨a, cap, l, rfl, hT, h1, h2⟩
theorem open_bls {b0 : Nat} {r : Reach} {v : Value} {d : DataW H} {p : List MemPlace} (hv : Value.okWide Try.prog w r b0 52 v) (h : DataW.Trod enc Try.prog w 0 (fun _ => true) held 52 v d p) :
    ∃ (a : Option Addr) (cap : Nat) (l : List Bool), v = .slice a l.length cap ∧ Bools w a l ∧ l.length < 9223372036854775808 := by
  obtain ⟨a, len, cap, rfl⟩ := okWide_slice Try.underlying52 hv
  obtain ⟨fuel, hf⟩ := h
  obtain ⟨a', cap', l, hcs, hT, h1⟩ := open_bools' hf
  simp [Value.cells] at hcs
  obtain ⟨rfl, rfl, rfl⟩ := hcs
  exact ⟨a, cap, l, rfl, hT, h1⟩
theorem open_i64 {b0 : Nat} {r : Reach} {v : Value} {d : DataW H} {p : List MemPlace} (hv : Value.okWide Try.prog w r b0 3 v) (h : DataW.Trod enc Try.prog w 0 (fun _ => true) held 3 v d p) :
    ∃ n : Int, v = .int .i64 n ∧ -9223372036854775808 ≤ n ∧ n < 9223372036854775808 := by
  obtain ⟨n, rfl, _, _, hw⟩ := open_int Try.underlying3 hv h
  have : -9223372036854775808 ≤ n ∧ n < 9223372036854775808 := by
    have h1 := Bool.and_eq_true_iff.1 hw
    have h2 : -9223372036854775808 ≤ n := of_decide_eq_true h1.1
    have h3 : n ≤ 9223372036854775807 := of_decide_eq_true h1.2
    exact ⟨h2, by omega⟩
  exact ⟨n, rfl, this⟩
end
end Go.Proofs.Ytoblmecgnpoogaa

