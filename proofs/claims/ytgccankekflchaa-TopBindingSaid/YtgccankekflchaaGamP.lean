

/- Package game: states as values and as keys; what a game is worth (plain); after. -/
import Derived.Test.YtgccankekflchaaGamA
import Derived.Test.YtgccankekflchaaMaps
import Derived.Test.YtgccankekflchaaChg
namespace Go.Proofs.Ytgccankekflchaa
open Go.RowKit Go.Maps

abbrev st14 (t s0 s1 s2 s3 s4 s5 : Int) (f0 f1 f2 f3 f4 f5 : Bool) (b : Int) : List Value := [.int .i64 t, .int .i64 s0, .int .i64 s1, .int .i64 s2, .int .i64 s3, .int .i64 s4, .int .i64 s5, .bool f0, .bool f1, .bool f2, .bool f3, .bool f4, .bool f5, .int .i64 b]
def stC (s : St) : List Value := st14 s.turn (ig s.starts 0) (ig s.starts 1) (ig s.starts 2) (ig s.starts 3) (ig s.starts 4) (ig s.starts 5) (bg s.failed 0) (bg s.failed 1) (bg s.failed 2) (bg s.failed 3) (bg s.failed 4) (bg s.failed 5) s.budget
abbrev stV (s : St) : Value := .agg (stC s).toArray
/-- states of a game of m vehicles -/
structure Fit (m : Nat) (s : St) : Prop where
  m6 : m ≤ 6
  ls : s.starts.length = m
  lf : s.failed.length = m
theorem lt6 {P : Nat → Prop} (h0 : P 0) (h1 : P 1) (h2 : P 2) (h3 : P 3) (h4 : P 4) (h5 : P 5) : ∀ i, i < 6 → P i
  | 0, _ => h0
  | 1, _ => h1
  | 2, _ => h2
  | 3, _ => h3
  | 4, _ => h4
  | 5, _ => h5
  | n + 6, h => by omega
theorem stV_inj {m : Nat} {s s' : St} (h : Fit m s) (h' : Fit m s') (e : stV s = stV s') : s = s' := by
  unfold stV stC st14 at e
  simp only [Value.agg.injEq, Array.mk.injEq, List.cons.injEq, Value.int.injEq, Value.bool.injEq, true_and, and_true] at e
  obtain ⟨e1, a0, a1, a2, a3, a4, a5, b0, b1, b2, b3, b4, b5, e2⟩ := e
  have hS : ∀ i, i < 6 → ig s.starts i = ig s'.starts i := lt6 a0 a1 a2 a3 a4 a5
  have hF : ∀ i, i < 6 → bg s.failed i = bg s'.failed i := lt6 b0 b1 b2 b3 b4 b5
  have hm := h.m6
  refine St.ext' e1 (List.ext_getElem (by rw [h.ls, h'.ls]) fun i h1 h2 => ?_) (List.ext_getElem (by rw [h.lf, h'.lf]) fun i h1 h2 => ?_) e2
  · rw [← ig_lt h1, ← ig_lt h2]
    exact hS i (by have := h.ls; omega)
  · rw [← bg_lt h1, ← bg_lt h2]
    exact hF i (by have := h.lf; omega)
theorem laidOutG : laidOutB Try.prog = true := by kernel_rfl
theorem lawSt : Keyed Try.prog 47 := Keyed.of_law (deep_law_laid laidOutG (m := 4) (by omega) (of_decide_eq_true (by kernel_rfl)) (by kernel_rfl) (by kernel_rfl))
def inIG (n : Int) : Prop := -9223372036854775808 ≤ n ∧ n < 9223372036854775808
theorem wf_ofG {n : Int} (h : inIG n) : (Lit.int .i64 n).wf = true := by
  unfold inIG at h
  exact Bool.and_eq_true_iff.2 ⟨decide_eq_true h.1, decide_eq_true (show n ≤ 9223372036854775807 by omega)⟩
theorem sizeTypesG : ∃ n, Try.prog.types.size = n + 4 := ⟨Try.prog.types.size - 4, by kernel_rfl⟩
theorem keySt {t b s0 s1 s2 s3 s4 s5 : Int} (f0 f1 f2 f3 f4 f5 : Bool) (ht : inIG t) (hb : inIG b) (h0 : inIG s0) (h1 : inIG s1) (h2 : inIG s2) (h3 : inIG s3) (h4 : inIG s4) (h5 : inIG s5) :
    ∃ l, keyOf Try.prog 47 (.agg (st14 t s0 s1 s2 s3 s4 s5 f0 f1 f2 f3 f4 f5 b).toArray) = some l := by
  have hk : Try.prog.keyType 47 = true := by kernel_rfl
  have c1 : Try.prog.cellsOf 47 = 14 := by kernel_rfl
  have c2 : Try.prog.cellsOf 44 = 6 := by kernel_rfl
  have c3 : Try.prog.cellsOf 3 = 1 := by kernel_rfl
  have c4 : Try.prog.cellsOf 45 = 6 := by kernel_rfl
  have c5 : Try.prog.cellsOf 4 = 1 := by kernel_rfl
  obtain ⟨n, hn⟩ := sizeTypesG
  unfold keyOf
  simp only [Try.underlying47]
  rw [hk, hn]
  simp [st14, Value.formed, Program.keyLits, Try.underlying47, Try.underlying44, Try.underlying45, Try.underlying3, Try.underlying4, c1, c2, c3, c4, c5, Value.cells, List.range_succ, wf_ofG ht, wf_ofG hb, wf_ofG h0, wf_ofG h1, wf_ofG h2, wf_ofG h3, wf_ofG h4, wf_ofG h5]
/-! ### what a state is worth -/
def maxL (l : List Int) : Int := l.foldl max 0
/-- one choice more to consider -/
def considerF (w : St → Int) (x : St) (o : Int × Int) (v : Int) : Int × Int :=
  if bg x.failed v.toNat = false ∧ 0 < ig x.starts v.toNat then (if w (afterS x v) < o.2 ∨ w (afterS x v) = o.2 ∧ o.1 < 0 then (v, w (afterS x v)) else o) else o
def bvF (g : Gm) (w : St → Int) (x : St) : Int × Int := (dg g x.turn.toNat).foldl (considerF w x) (-1, 1 + w (afterS x (-1)))
/-- worst, with so many turns left -/
def wv (g : Gm) : Nat → St → Int
  | 0 => fun _ => 0
  | k + 1 => fun s => maxL ((madeL s).map fun x => (bvF g (wv g k) x).2)
def bv (g : Gm) (k : Nat) (x : St) : Int × Int := bvF g (wv g k) x
end Go.Proofs.Ytgccankekflchaa

