

/- Contracts of package judge: situationOf. -/
import Derived.Test.YtgjkcnfinjenoaaJdgD
import Derived.Deep.LoopGhost
import Derived.Deep.Light
namespace Go.Proofs.Ytgjkcnfinjenoaa
open Go.RowKit

abbrev psV (p : Pos) (sa : Option Addr) (sc : Nat) (fa : Option Addr) (fc : Nat) : Value := .agg #[.int .i64 p.turn, .slice sa p.starts.length sc, .slice fa p.failed.length fc, .int .i64 p.budget, .int .i64 p.choice, .int .i64 p.bound]
structure PsAt (w : World) (p : Pos) (sa fa : Option Addr) : Prop where
  s : Ints w sa p.starts
  f : Bools w fa p.failed
theorem PsAt.later {w w1 : World} {p : Pos} {sa fa : Option Addr} (h : PsAt w p sa fa) (hb : Below w.heap.size w w1) : PsAt w1 p sa fa := ⟨h.s.later hb, h.f.later hb⟩

/-- the ten cells of a situation's block -/
structure SitBox (w : World) (B : Nat) (t b m s0 s1 s2 s3 s4 s5 f : Int) : Prop where
  c0 : w.cell? ⟨B, 0, none⟩ = some (.int .i64 t)
  c1 : w.cell? ⟨B, 1, none⟩ = some (.int .i64 b)
  c2 : w.cell? ⟨B, 2, none⟩ = some (.int .i64 m)
  c3 : w.cell? ⟨B, 3, none⟩ = some (.int .i64 s0)
  c4 : w.cell? ⟨B, 4, none⟩ = some (.int .i64 s1)
  c5 : w.cell? ⟨B, 5, none⟩ = some (.int .i64 s2)
  c6 : w.cell? ⟨B, 6, none⟩ = some (.int .i64 s3)
  c7 : w.cell? ⟨B, 7, none⟩ = some (.int .i64 s4)
  c8 : w.cell? ⟨B, 8, none⟩ = some (.int .i64 s5)
  c9 : w.cell? ⟨B, 9, none⟩ = some (.int .i64 f)
  fr : ∀ j, j < 10 → w.frozen? ⟨B, j, none⟩ = false
theorem SitBox.lt {w : World} {B : Nat} {t b m s0 s1 s2 s3 s4 s5 f : Int} (h : SitBox w B t b m s0 s1 s2 s3 s4 s5 f) : B < w.heap.size := World.block_lt_of_cell? _ _ h.c0
theorem SitBox.later {w w1 : World} {B : Nat} {t b m s0 s1 s2 s3 s4 s5 f : Int} (h : SitBox w B t b m s0 s1 s2 s3 s4 s5 f) (hb : Below w.heap.size w w1) : SitBox w1 B t b m s0 s1 s2 s3 s4 s5 f :=
  ⟨cell_later hb h.c0, cell_later hb h.c1, cell_later hb h.c2, cell_later hb h.c3, cell_later hb h.c4, cell_later hb h.c5, cell_later hb h.c6, cell_later hb h.c7, cell_later hb h.c8, cell_later hb h.c9, fun j hj => (hb.frozen (p := ⟨B, j, none⟩) h.lt).trans (h.fr j hj)⟩
theorem cell_ne {w : World} {n m o k : Nat} {v u : Value} (h : w.cell? ⟨n, o, none⟩ = some v) (hne : n ≠ m ∨ o ≠ k) : (w.setCell ⟨m, k, none⟩ u).cell? ⟨n, o, none⟩ = some v := by
  rw [World.cell?_setCell_other _ _ _ _ (by intro e; rcases hne with h | h; exact h (congrArg Addr.block e).symm; exact h (congrArg Addr.off e).symm)]
  exact h
theorem SitBox.other {w : World} {B M k : Nat} {u : Value} {t b m s0 s1 s2 s3 s4 s5 f : Int} (h : SitBox w B t b m s0 s1 s2 s3 s4 s5 f) (hne : B ≠ M) : SitBox (w.setCell ⟨M, k, none⟩ u) B t b m s0 s1 s2 s3 s4 s5 f :=
  ⟨cell_ne h.c0 (.inl hne), cell_ne h.c1 (.inl hne), cell_ne h.c2 (.inl hne), cell_ne h.c3 (.inl hne), cell_ne h.c4 (.inl hne), cell_ne h.c5 (.inl hne), cell_ne h.c6 (.inl hne), cell_ne h.c7 (.inl hne), cell_ne h.c8 (.inl hne), cell_ne h.c9 (.inl hne), fun j hj => by rw [World.frozen?_setCell]; exact h.fr j hj⟩
theorem SitBox.bits {w : World} {B : Nat} {t b m s0 s1 s2 s3 s4 s5 f : Int} (h : SitBox w B t b m s0 s1 s2 s3 s4 s5 f) (f' : Int) : SitBox (w.setCell ⟨B, 9, none⟩ (.int .i64 f')) B t b m s0 s1 s2 s3 s4 s5 f' :=
  ⟨cell_ne h.c0 (.inr (by decide)), cell_ne h.c1 (.inr (by decide)), cell_ne h.c2 (.inr (by decide)), cell_ne h.c3 (.inr (by decide)), cell_ne h.c4 (.inr (by decide)), cell_ne h.c5 (.inr (by decide)), cell_ne h.c6 (.inr (by decide)), cell_ne h.c7 (.inr (by decide)), cell_ne h.c8 (.inr (by decide)), World.cell?_setCell_same _ _ _ h.c9, fun j hj => by rw [World.frozen?_setCell]; exact h.fr j hj⟩
theorem SitBox.setCells {w : World} {B M k : Nat} {vs : List Value} {t b m s0 s1 s2 s3 s4 s5 f : Int} (h : SitBox w B t b m s0 s1 s2 s3 s4 s5 f) (hne : B ≠ M) : SitBox (w.setCells M k vs) B t b m s0 s1 s2 s3 s4 s5 f := by
  induction vs generalizing w k with
  | nil => exact h
  | cons v vs ih => exact ih (h.other hne)
/-- the starts are copied in -/
theorem SitBox.copied {w : World} {B : Nat} {t b m f : Int} {l : List Int} (h : SitBox w B t b m 0 0 0 0 0 0 f) (hl : l.length ≤ 6) : SitBox (w.setCells B 3 (l.map (Value.int .i64))) B t b m (ig l 0) (ig l 1) (ig l 2) (ig l 3) (ig l 4) (ig l 5) f := by
  have hs : ∀ j, j < (l.map (Value.int .i64)).length → (w.cell? ⟨B, 3 + j, none⟩).isSome = true := fun j hj => by
    simp at hj
    have : j = 0 ∨ j = 1 ∨ j = 2 ∨ j = 3 ∨ j = 4 ∨ j = 5 := by omega
    rcases this with rfl | rfl | rfl | rfl | rfl | rfl
    · rw [show 3 + 0 = 3 from rfl, h.c3]; rfl
    · rw [show 3 + 1 = 4 from rfl, h.c4]; rfl
    · rw [show 3 + 2 = 5 from rfl, h.c5]; rfl
    · rw [show 3 + 3 = 6 from rfl, h.c6]; rfl
    · rw [show 3 + 4 = 7 from rfl, h.c7]; rfl
    · rw [show 3 + 5 = 8 from rfl, h.c8]; rfl
  have inn : ∀ j, w.cell? ⟨B, 3 + j, none⟩ = some (.int .i64 0) → (w.setCells B 3 (l.map (Value.int .i64))).cell? ⟨B, 3 + j, none⟩ = some (.int .i64 (ig l j)) := fun j h0 => by
    by_cases hj : j < l.length
    · rw [World.cell?_setCells_in B _ 3 w hs j (by simpa using hj)]
      simp [ig_lt hj]
    · rw [World.cell?_setCells_out B _ 3 w _ (fun _ _ => .inr (by simp; omega)), h0]
      have : ig l j = 0 := by simp [ig, List.getD, List.getElem?_eq_none (Nat.le_of_not_lt hj)]
      rw [this]
  have out : ∀ j v, j < 3 ∨ 9 ≤ j → w.cell? ⟨B, j, none⟩ = some v → (w.setCells B 3 (l.map (Value.int .i64))).cell? ⟨B, j, none⟩ = some v := fun j v hj h0 => by
    rw [World.cell?_setCells_out B _ 3 w _ (fun _ _ => by simp; omega), h0]
  exact ⟨out 0 _ (by omega) h.c0, out 1 _ (by omega) h.c1, out 2 _ (by omega) h.c2, inn 0 h.c3, inn 1 h.c4, inn 2 h.c5, inn 3 h.c6, inn 4 h.c7, inn 5 h.c8, out 9 _ (by omega) h.c9, fun j hj => by rw [World.frozen?_setCells]; exact h.fr j hj⟩
/-- copy of numbers into the cells of a block -/
theorem run_copy_ints {dT sT ty : TypeId} (hu : Try.prog.underlying dT = some (.slice 3)) {w : World} {B o dLen dCap sCap : Nat} {sa : Option Addr} {l : List Int} (hI : Ints w sa l) (hl : l.length ≤ dLen)
    (hc : ∀ j, j < l.length → (w.cell? ⟨B, o + j, none⟩).isSome = true) (hf : ∀ j, j < l.length → w.frozen? ⟨B, o + j, none⟩ = false) :
    (Builtin.copy_ #[dT, sT] ty #[.slice (some ⟨B, o, none⟩) dLen dCap, .slice sa l.length sCap]).run Try.prog w = .ok (.int .i64 l.length) (w.setCells B o (l.map (Value.int .i64))) := by
  have hs : (Try.prog.info? 3).map (·.size) = some 1 := by kernel_rfl
  by_cases h0 : l.length = 0
  · obtain rfl : l = [] := List.eq_nil_of_length_eq_zero h0
    exact run_copy_none w dT sT ty 3 _ _ _ _ _ _ hu hs (by simp)
  · obtain ⟨b, off, rfl, fc⟩ := hI.fam (by omega)
    have := run_copy_cells (P := Try.prog) w dT sT ty 3 B o dLen dCap ⟨b, off, none⟩ l.length sCap (l.map (Value.int .i64)) hu hs (by rw [List.length_map]; exact (Nat.min_eq_left hl).symm) (fun j v hj => ?_) (by simpa using hc) (by simpa using hf) (by simp [Value.oneCell'])
    · simpa [goInt] using this
    · have hj' : j < l.length := by
        rcases Nat.lt_or_ge j l.length with h | h
        · exact h
        · rw [List.getElem?_eq_none (by simpa using h)] at hj; cases hj
      rw [List.getElem?_map, List.getElem?_eq_getElem hj'] at hj
      simp at hj
      subst hj
      have e : (Addr.add ⟨b, off, none⟩ j) = ⟨b, off + j, none⟩ := by
        unfold Addr.add
        by_cases hz : j = 0
        · subst hz; rw [if_pos rfl]; rfl
        · rw [if_neg hz]
      rw [e, fc j hj', ig_lt hj']
def sit0 (p : Pos) : Value := sit10 p.turn p.budget p.starts.length 0 0 0 0 0 0 0
theorem ret_sit0 {p : Pos} {v : Value} (h : v = sit0 p) : Ending.returned (.tuple #[v, .bool false]) = Ending.returned (.tuple #[sit0 p, .bool false]) := by rw [h]

