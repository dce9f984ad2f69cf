


/- IntervalBounds: for every two valid intervals each bound of what is made of them is made of two bounds: the call of the law returns true, for every input. -/
import Derived.Test.YtegpdggadjjmkaaIntOpen
import Derived.Test.YtegpdggadjjmkaaIntM
import Derived.Test.YtegpdggadjjmkaaFlowS
import Derived.Deep.LoopGhost
import Derived.Deep.CutRange
import Derived.Deep.DeepCutAuto
import Derived.BigRegion
namespace Go.Proofs.Ytegpdggadjjmkaa
open Go.ChangeShapes Go.WideShapes Go.ChangeAt Go.RowKit Go.Joins

namespace IntervalBounds

def X (a b : Int) (i : Nat) : Int := if i = 0 then a else b
/-- what is asked in round (x, y) -/
def T (x y p0 q0 p1 q1 p2 q2 p3 q3 : Int) (j : Nat) : Bool :=
  match j with
  | 0 => p0 == sat (x + y) | 1 => q0 == sat (x + y) | 2 => p1 == sat (x - y) | 3 => q1 == sat (x - y) | 4 => p2 == sat (x * y) | 5 => q2 == sat (x * y)
  | 6 => p3 == x || p3 == y | _ => q3 == x || q3 == y
/-- what was found in n rounds -/
def G (t : Nat → Nat → Bool) (n j : Nat) : Bool := (List.range n).any (fun m => t m j)
theorem G_succ (t : Nat → Nat → Bool) (n j : Nat) : G t (n + 1) j = (G t n j || t n j) := by unfold G; rw [List.range_succ, List.any_append]; simp
/-- the blocks: four results, both bounds of both, what was found -/
structure St (w : World) (n0 n1 n2 n3 nx ny nf : Nat) (a b c d p0 q0 p1 q1 p2 q2 p3 q3 : Int) (F : Nat → Bool) : Prop where
  r0 : w.cell? ⟨n0, 0, none⟩ = some (.int .i64 p0) ∧ w.cell? ⟨n0, 1, none⟩ = some (.int .i64 q0)
  r1 : w.cell? ⟨n1, 0, none⟩ = some (.int .i64 p1) ∧ w.cell? ⟨n1, 1, none⟩ = some (.int .i64 q1)
  r2 : w.cell? ⟨n2, 0, none⟩ = some (.int .i64 p2) ∧ w.cell? ⟨n2, 1, none⟩ = some (.int .i64 q2)
  r3 : w.cell? ⟨n3, 0, none⟩ = some (.int .i64 p3) ∧ w.cell? ⟨n3, 1, none⟩ = some (.int .i64 q3)
  x : ∀ i, i < 2 → w.cell? ⟨nx, i, none⟩ = some (.int .i64 (X a b i))
  y : ∀ i, i < 2 → w.cell? ⟨ny, i, none⟩ = some (.int .i64 (X c d i))
  f : ∀ j, j < 8 → w.cell? ⟨nf, j, none⟩ = some (.bool (F j)) ∧ w.frozen? ⟨nf, j, none⟩ = false
  ne : n0 ≠ nf ∧ n1 ≠ nf ∧ n2 ≠ nf ∧ n3 ≠ nf ∧ nx ≠ nf ∧ ny ≠ nf
section
variable {w w' : World} {n0 n1 n2 n3 nx ny nf : Nat} {a b c d p0 q0 p1 q1 p2 q2 p3 q3 : Int} {F : Nat → Bool}
theorem St.later (h : St w n0 n1 n2 n3 nx ny nf a b c d p0 q0 p1 q1 p2 q2 p3 q3 F) (hb : Below w.heap.size w w') : St w' n0 n1 n2 n3 nx ny nf a b c d p0 q0 p1 q1 p2 q2 p3 q3 F :=
  ⟨⟨cell_later hb h.r0.1, cell_later hb h.r0.2⟩, ⟨cell_later hb h.r1.1, cell_later hb h.r1.2⟩, ⟨cell_later hb h.r2.1, cell_later hb h.r2.2⟩, ⟨cell_later hb h.r3.1, cell_later hb h.r3.2⟩,
    fun i hi => cell_later hb (h.x i hi), fun i hi => cell_later hb (h.y i hi), fun j hj => ⟨cell_later hb (h.f j hj).1, (hb.frozen (World.block_lt_of_cell? _ _ (h.f j hj).1)).trans (h.f j hj).2⟩, h.ne⟩
theorem cell_other {w : World} {n m o k : Nat} {v u : Value} (h : w.cell? ⟨n, o, none⟩ = some v) (hne : n ≠ m) : (w.setCell ⟨m, k, none⟩ u).cell? ⟨n, o, none⟩ = some v := by
  rw [World.cell?_setCell_other _ _ _ _ (by intro e; exact hne (congrArg Addr.block e).symm)]
  exact h
theorem St.set (h : St w n0 n1 n2 n3 nx ny nf a b c d p0 q0 p1 q1 p2 q2 p3 q3 F) (j : Nat) (hj : j < 8) (v : Bool) : St (w.setCell ⟨nf, j, none⟩ (.bool v)) n0 n1 n2 n3 nx ny nf a b c d p0 q0 p1 q1 p2 q2 p3 q3 (fun m => if m = j then v else F m) := by
  obtain ⟨e0, e1, e2, e3, e4, e5⟩ := h.ne
  refine ⟨⟨cell_other h.r0.1 e0, cell_other h.r0.2 e0⟩, ⟨cell_other h.r1.1 e1, cell_other h.r1.2 e1⟩, ⟨cell_other h.r2.1 e2, cell_other h.r2.2 e2⟩, ⟨cell_other h.r3.1 e3, cell_other h.r3.2 e3⟩,
    fun i hi => cell_other (h.x i hi) e4, fun i hi => cell_other (h.y i hi) e5, fun m hm => ⟨?_, ?_⟩, h.ne⟩
  · by_cases e : m = j
    · subst e
      rw [World.cell?_setCell_same _ _ _ (h.f m hm).1, if_pos rfl]
    · rw [World.cell?_setCell_other _ _ _ _ (by intro e'; exact e (congrArg Addr.off e').symm), if_neg e]
      exact (h.f m hm).1
  · rw [World.frozen?_setCell]
    exact (h.f m hm).2
theorem St.congr {F' : Nat → Bool} (h : St w n0 n1 n2 n3 nx ny nf a b c d p0 q0 p1 q1 p2 q2 p3 q3 F) (e : ∀ j, j < 8 → F j = F' j) : St w n0 n1 n2 n3 nx ny nf a b c d p0 q0 p1 q1 p2 q2 p3 q3 F' :=
  ⟨h.r0, h.r1, h.r2, h.r3, h.x, h.y, fun j hj => by rw [← e j hj]; exact h.f j hj, h.ne⟩
end
/-- after the parts 0 .. n - 1 of a round -/
def Up (F : Nat → Bool) (t : Nat → Bool) (n : Nat) : Nat → Bool := fun j => if j < n then F j || t j else F j
theorem Up_next (F t : Nat → Bool) (n : Nat) : ∀ j, j < 8 → (if j = n then F n || t n else Up F t n j) = Up F t (n + 1) j := fun j _ => by
  unfold Up
  by_cases e : j = n
  · subst e; simp
  · by_cases e' : j < n
    · rw [if_neg e, if_pos e', if_pos (by omega)]
    · rw [if_neg e, if_neg e', if_neg (by omega)]
theorem Up_at (F t : Nat → Bool) (n : Nat) : Up F t n n = F n := by unfold Up; simp
theorem Up_none (F t : Nat → Bool) : Up F t 0 = F := by funext j; unfold Up; simp
theorem Up_all (F t : Nat → Bool) (j : Nat) (h : j < 8) : Up F t 8 j = (F j || t j) := by unfold Up; rw [if_pos h]

theorem St.part {w : World} {n0 n1 n2 n3 nx ny nf : Nat} {a b c d p0 q0 p1 q1 p2 q2 p3 q3 : Int} {F t : Nat → Bool} {n : Nat} (h : St w n0 n1 n2 n3 nx ny nf a b c d p0 q0 p1 q1 p2 q2 p3 q3 (Up F t n)) (hn : n < 8) (v : Bool) (hv : v = (F n || t n)) : St (w.setCell ⟨nf, n, none⟩ (.bool v)) n0 n1 n2 n3 nx ny nf a b c d p0 q0 p1 q1 p2 q2 p3 q3 (Up F t (n + 1)) :=
  (h.set n hn v).congr (by subst hv; exact Up_next F t n)
theorem St.drew {w : World} {n0 n1 n2 n3 nx ny nf : Nat} {a b c d p0 q0 p1 q1 p2 q2 p3 q3 : Int} {F : Nat → Bool} (h : St w n0 n1 n2 n3 nx ny nf a b c d p0 q0 p1 q1 p2 q2 p3 q3 F) : St w.drew n0 n1 n2 n3 nx ny nf a b c d p0 q0 p1 q1 p2 q2 p3 q3 F := ⟨h.r0, h.r1, h.r2, h.r3, h.x, h.y, h.f, h.ne⟩
theorem lt8 {P : Nat → Prop} (h0 : P 0) (h1 : P 1) (h2 : P 2) (h3 : P 3) (h4 : P 4) (h5 : P 5) (h6 : P 6) (h7 : P 7) : ∀ i, i < 8 → P i
  | 0, _ => h0
  | 1, _ => h1
  | 2, _ => h2
  | 3, _ => h3
  | 4, _ => h4
  | 5, _ => h5
  | 6, _ => h6
  | 7, _ => h7
  | n + 8, h => by omega
theorem lt2' {P : Nat → Prop} (h0 : P 0) (h1 : P 1) : ∀ i, i < 2 → P i
  | 0, _ => h0
  | 1, _ => h1
  | n + 2, h => by omega
theorem found_all {a b c d p0 q0 p1 q1 p2 q2 p3 q3 : Int} (e0 : sat (a + c) = p0) (f0 : sat (b + d) = q0) (e1 : sat (a - d) = p1) (f1 : sat (b - c) = q1) (e2 : mulL a b c d = p2) (f2 : mulH a b c d = q2) (e3 : min a c = p3) (f3 : max b d = q3) :
    ∀ j, j < 8 → G (fun m => T (X a b (m / 2)) (X c d (m % 2)) p0 q0 p1 q1 p2 q2 p3 q3) (2 * 2) j = true := by
  unfold mulL mn4 at e2
  unfold mulH mx4 at f2
  refine lt8 ?_ ?_ ?_ ?_ ?_ ?_ ?_ ?_ <;> simp [G, List.range_succ, T, X] <;> omega
theorem G_round {a b c d p0 q0 p1 q1 p2 q2 p3 q3 : Int} {F t : Nat → Bool} {i k : Nat} (hk : k < 2) (hF : F = G (fun m => T (X a b (m / 2)) (X c d (m % 2)) p0 q0 p1 q1 p2 q2 p3 q3) (2 * i + k)) (ht : t = T (X a b i) (X c d k) p0 q0 p1 q1 p2 q2 p3 q3) :
    ∀ j, j < 8 → Up F t 8 j = G (fun m => T (X a b (m / 2)) (X c d (m % 2)) p0 q0 p1 q1 p2 q2 p3 q3) (2 * i + (k + 1)) j := fun j hj => by
  rw [Up_all _ _ _ hj, ← Nat.add_assoc, G_succ, hF, ht]
  simp only [show (2 * i + k) / 2 = i by omega, show (2 * i + k) % 2 = k by omega]
theorem X_bd {a b : Int} {i : Nat} (h1 : -1000000000000 ≤ a) (h2 : a ≤ b) (h3 : b ≤ 1000000000000) : -1000000000000 ≤ X a b i ∧ X a b i ≤ 1000000000000 := by unfold X; split <;> omega
theorem ret_at {f : FuncId} {args : Array Value} {w : World} {x y p q : Int} (h : Calls Try.prog f args w (RetB (.agg #[.int .i64 x, .int .i64 y]) w)) (hx : x = p) (hy : y = q) : Calls Try.prog f args w (RetB (.agg #[.int .i64 p, .int .i64 q]) w) := by subst hx hy; exact h
set_option maxRecDepth 100000 in
set_option maxHeartbeats 1000000 in
theorem no (a b c d : Int) (w : World) (h : vld a b = false ∨ (vld a b = true ∧ vld c d = false)) :
    Calls Try.prog 6 #[.agg #[.int .i64 a, .int .i64 b], .agg #[.int .i64 c, .int .i64 d]] w (RetB (.bool true) w) := by
  rcases h with h | ⟨h, h'⟩
  · have HA := Lib.hid h
    clear h
    go_enter Try.func6, Try.ntmps6
    go_wp2_with fail; refine Calls.mono (head_any _) ?_; (rintro er w1 ⟨rfl, hb1⟩; have hs1 := hb1.size; (try simp at hs1); have _c0 : w1.cell? ⟨w.heap.size, 0, none⟩ = some (.int .i64 a) := cell_later hb1 (by first | assumption | (simp [go_sem, *]; done) | exact cell_later' (by assumption) (by repeat (first | exact Below.refl _ _ | assumption | refine Below.drew ?_ | refine below_drewN ?_ _ | refine Below.alloc ?_ (by first | omega | (simp; done) | (simp; omega)) _ | refine Below.setCell ?_ (by first | omega | (simp; done) | (simp; omega)) _ | refine Below.trans ?_ (Below.mono (by assumption) (by first | omega | (simp; done) | (simp; omega)))))); have _f0 : w1.frozen? ⟨w.heap.size, 0, none⟩ = false := (hb1.frozen (p := ⟨w.heap.size, 0, none⟩) (by first | omega | (simp; done) | (simp; omega))).trans (by first | assumption | (simp [go_sem, *]; done) | exact frozen_later' (by assumption) (by first | omega | (simp; done) | (simp; omega)) (by repeat (first | exact Below.refl _ _ | assumption | refine Below.drew ?_ | refine below_drewN ?_ _ | refine Below.alloc ?_ (by first | omega | (simp; done) | (simp; omega)) _ | refine Below.setCell ?_ (by first | omega | (simp; done) | (simp; omega)) _ | refine Below.trans ?_ (Below.mono (by assumption) (by first | omega | (simp; done) | (simp; omega)))))); have _c1 : w1.cell? ⟨w.heap.size, 1, none⟩ = some (.int .i64 b) := cell_later hb1 (by first | assumption | (simp [go_sem, *]; done) | exact cell_later' (by assumption) (by repeat (first | exact Below.refl _ _ | assumption | refine Below.drew ?_ | refine below_drewN ?_ _ | refine Below.alloc ?_ (by first | omega | (simp; done) | (simp; omega)) _ | refine Below.setCell ?_ (by first | omega | (simp; done) | (simp; omega)) _ | refine Below.trans ?_ (Below.mono (by assumption) (by first | omega | (simp; done) | (simp; omega)))))); have _f1 : w1.frozen? ⟨w.heap.size, 1, none⟩ = false := (hb1.frozen (p := ⟨w.heap.size, 1, none⟩) (by first | omega | (simp; done) | (simp; omega))).trans (by first | assumption | (simp [go_sem, *]; done) | exact frozen_later' (by assumption) (by first | omega | (simp; done) | (simp; omega)) (by repeat (first | exact Below.refl _ _ | assumption | refine Below.drew ?_ | refine below_drewN ?_ _ | refine Below.alloc ?_ (by first | omega | (simp; done) | (simp; omega)) _ | refine Below.setCell ?_ (by first | omega | (simp; done) | (simp; omega)) _ | refine Below.trans ?_ (Below.mono (by assumption) (by first | omega | (simp; done) | (simp; omega)))))); have _c0 : w1.cell? ⟨w.heap.size + 1, 0, none⟩ = some (.int .i64 c) := cell_later hb1 (by first | assumption | (simp [go_sem, *]; done) | exact cell_later' (by assumption) (by repeat (first | exact Below.refl _ _ | assumption | refine Below.drew ?_ | refine below_drewN ?_ _ | refine Below.alloc ?_ (by first | omega | (simp; done) | (simp; omega)) _ | refine Below.setCell ?_ (by first | omega | (simp; done) | (simp; omega)) _ | refine Below.trans ?_ (Below.mono (by assumption) (by first | omega | (simp; done) | (simp; omega)))))); have _f0 : w1.frozen? ⟨w.heap.size + 1, 0, none⟩ = false := (hb1.frozen (p := ⟨w.heap.size + 1, 0, none⟩) (by first | omega | (simp; done) | (simp; omega))).trans (by first | assumption | (simp [go_sem, *]; done) | exact frozen_later' (by assumption) (by first | omega | (simp; done) | (simp; omega)) (by repeat (first | exact Below.refl _ _ | assumption | refine Below.drew ?_ | refine below_drewN ?_ _ | refine Below.alloc ?_ (by first | omega | (simp; done) | (simp; omega)) _ | refine Below.setCell ?_ (by first | omega | (simp; done) | (simp; omega)) _ | refine Below.trans ?_ (Below.mono (by assumption) (by first | omega | (simp; done) | (simp; omega)))))); have _c1 : w1.cell? ⟨w.heap.size + 1, 1, none⟩ = some (.int .i64 d) := cell_later hb1 (by first | assumption | (simp [go_sem, *]; done) | exact cell_later' (by assumption) (by repeat (first | exact Below.refl _ _ | assumption | refine Below.drew ?_ | refine below_drewN ?_ _ | refine Below.alloc ?_ (by first | omega | (simp; done) | (simp; omega)) _ | refine Below.setCell ?_ (by first | omega | (simp; done) | (simp; omega)) _ | refine Below.trans ?_ (Below.mono (by assumption) (by first | omega | (simp; done) | (simp; omega)))))); have _f1 : w1.frozen? ⟨w.heap.size + 1, 1, none⟩ = false := (hb1.frozen (p := ⟨w.heap.size + 1, 1, none⟩) (by first | omega | (simp; done) | (simp; omega))).trans (by first | assumption | (simp [go_sem, *]; done) | exact frozen_later' (by assumption) (by first | omega | (simp; done) | (simp; omega)) (by repeat (first | exact Below.refl _ _ | assumption | refine Below.drew ?_ | refine below_drewN ?_ _ | refine Below.alloc ?_ (by first | omega | (simp; done) | (simp; omega)) _ | refine Below.setCell ?_ (by first | omega | (simp; done) | (simp; omega)) _ | refine Below.trans ?_ (Below.mono (by assumption) (by first | omega | (simp; done) | (simp; omega)))))))
    go_wp2_with fail; refine Calls.mono (valid_at HA.out _) ?_; (rintro er w1 ⟨rfl, hb1⟩; have hs1 := hb1.size; (try simp at hs1); have _c0 : w1.cell? ⟨w.heap.size, 0, none⟩ = some (.int .i64 a) := cell_later hb1 (by first | assumption | (simp [go_sem, *]; done) | exact cell_later' (by assumption) (by repeat (first | exact Below.refl _ _ | assumption | refine Below.drew ?_ | refine below_drewN ?_ _ | refine Below.alloc ?_ (by first | omega | (simp; done) | (simp; omega)) _ | refine Below.setCell ?_ (by first | omega | (simp; done) | (simp; omega)) _ | refine Below.trans ?_ (Below.mono (by assumption) (by first | omega | (simp; done) | (simp; omega)))))); have _f0 : w1.frozen? ⟨w.heap.size, 0, none⟩ = false := (hb1.frozen (p := ⟨w.heap.size, 0, none⟩) (by first | omega | (simp; done) | (simp; omega))).trans (by first | assumption | (simp [go_sem, *]; done) | exact frozen_later' (by assumption) (by first | omega | (simp; done) | (simp; omega)) (by repeat (first | exact Below.refl _ _ | assumption | refine Below.drew ?_ | refine below_drewN ?_ _ | refine Below.alloc ?_ (by first | omega | (simp; done) | (simp; omega)) _ | refine Below.setCell ?_ (by first | omega | (simp; done) | (simp; omega)) _ | refine Below.trans ?_ (Below.mono (by assumption) (by first | omega | (simp; done) | (simp; omega)))))); have _c1 : w1.cell? ⟨w.heap.size, 1, none⟩ = some (.int .i64 b) := cell_later hb1 (by first | assumption | (simp [go_sem, *]; done) | exact cell_later' (by assumption) (by repeat (first | exact Below.refl _ _ | assumption | refine Below.drew ?_ | refine below_drewN ?_ _ | refine Below.alloc ?_ (by first | omega | (simp; done) | (simp; omega)) _ | refine Below.setCell ?_ (by first | omega | (simp; done) | (simp; omega)) _ | refine Below.trans ?_ (Below.mono (by assumption) (by first | omega | (simp; done) | (simp; omega)))))); have _f1 : w1.frozen? ⟨w.heap.size, 1, none⟩ = false := (hb1.frozen (p := ⟨w.heap.size, 1, none⟩) (by first | omega | (simp; done) | (simp; omega))).trans (by first | assumption | (simp [go_sem, *]; done) | exact frozen_later' (by assumption) (by first | omega | (simp; done) | (simp; omega)) (by repeat (first | exact Below.refl _ _ | assumption | refine Below.drew ?_ | refine below_drewN ?_ _ | refine Below.alloc ?_ (by first | omega | (simp; done) | (simp; omega)) _ | refine Below.setCell ?_ (by first | omega | (simp; done) | (simp; omega)) _ | refine Below.trans ?_ (Below.mono (by assumption) (by first | omega | (simp; done) | (simp; omega)))))); have _c0 : w1.cell? ⟨w.heap.size + 1, 0, none⟩ = some (.int .i64 c) := cell_later hb1 (by first | assumption | (simp [go_sem, *]; done) | exact cell_later' (by assumption) (by repeat (first | exact Below.refl _ _ | assumption | refine Below.drew ?_ | refine below_drewN ?_ _ | refine Below.alloc ?_ (by first | omega | (simp; done) | (simp; omega)) _ | refine Below.setCell ?_ (by first | omega | (simp; done) | (simp; omega)) _ | refine Below.trans ?_ (Below.mono (by assumption) (by first | omega | (simp; done) | (simp; omega)))))); have _f0 : w1.frozen? ⟨w.heap.size + 1, 0, none⟩ = false := (hb1.frozen (p := ⟨w.heap.size + 1, 0, none⟩) (by first | omega | (simp; done) | (simp; omega))).trans (by first | assumption | (simp [go_sem, *]; done) | exact frozen_later' (by assumption) (by first | omega | (simp; done) | (simp; omega)) (by repeat (first | exact Below.refl _ _ | assumption | refine Below.drew ?_ | refine below_drewN ?_ _ | refine Below.alloc ?_ (by first | omega | (simp; done) | (simp; omega)) _ | refine Below.setCell ?_ (by first | omega | (simp; done) | (simp; omega)) _ | refine Below.trans ?_ (Below.mono (by assumption) (by first | omega | (simp; done) | (simp; omega)))))); have _c1 : w1.cell? ⟨w.heap.size + 1, 1, none⟩ = some (.int .i64 d) := cell_later hb1 (by first | assumption | (simp [go_sem, *]; done) | exact cell_later' (by assumption) (by repeat (first | exact Below.refl _ _ | assumption | refine Below.drew ?_ | refine below_drewN ?_ _ | refine Below.alloc ?_ (by first | omega | (simp; done) | (simp; omega)) _ | refine Below.setCell ?_ (by first | omega | (simp; done) | (simp; omega)) _ | refine Below.trans ?_ (Below.mono (by assumption) (by first | omega | (simp; done) | (simp; omega)))))); have _f1 : w1.frozen? ⟨w.heap.size + 1, 1, none⟩ = false := (hb1.frozen (p := ⟨w.heap.size + 1, 1, none⟩) (by first | omega | (simp; done) | (simp; omega))).trans (by first | assumption | (simp [go_sem, *]; done) | exact frozen_later' (by assumption) (by first | omega | (simp; done) | (simp; omega)) (by repeat (first | exact Below.refl _ _ | assumption | refine Below.drew ?_ | refine below_drewN ?_ _ | refine Below.alloc ?_ (by first | omega | (simp; done) | (simp; omega)) _ | refine Below.setCell ?_ (by first | omega | (simp; done) | (simp; omega)) _ | refine Below.trans ?_ (Below.mono (by assumption) (by first | omega | (simp; done) | (simp; omega)))))))
    go_wp2_with fail
    go_ret
    exact retB rfl (by repeat (first | exact Below.refl _ _ | assumption | refine Below.drew ?_ | refine below_drewN ?_ _ | refine Below.alloc ?_ (by first | omega | (simp; done) | (simp; omega)) _ | refine Below.setCell ?_ (by first | omega | (simp; done) | (simp; omega)) _ | refine Below.trans ?_ (Below.mono (by assumption) (by first | omega | (simp; done) | (simp; omega)))))
  · have HA := Lib.hid h
    have HB := Lib.hid h'
    clear h h'
    go_enter Try.func6, Try.ntmps6
    go_wp2_with fail; refine Calls.mono (head_any _) ?_; (rintro er w1 ⟨rfl, hb1⟩; have hs1 := hb1.size; (try simp at hs1); have _c0 : w1.cell? ⟨w.heap.size, 0, none⟩ = some (.int .i64 a) := cell_later hb1 (by first | assumption | (simp [go_sem, *]; done) | exact cell_later' (by assumption) (by repeat (first | exact Below.refl _ _ | assumption | refine Below.drew ?_ | refine below_drewN ?_ _ | refine Below.alloc ?_ (by first | omega | (simp; done) | (simp; omega)) _ | refine Below.setCell ?_ (by first | omega | (simp; done) | (simp; omega)) _ | refine Below.trans ?_ (Below.mono (by assumption) (by first | omega | (simp; done) | (simp; omega)))))); have _f0 : w1.frozen? ⟨w.heap.size, 0, none⟩ = false := (hb1.frozen (p := ⟨w.heap.size, 0, none⟩) (by first | omega | (simp; done) | (simp; omega))).trans (by first | assumption | (simp [go_sem, *]; done) | exact frozen_later' (by assumption) (by first | omega | (simp; done) | (simp; omega)) (by repeat (first | exact Below.refl _ _ | assumption | refine Below.drew ?_ | refine below_drewN ?_ _ | refine Below.alloc ?_ (by first | omega | (simp; done) | (simp; omega)) _ | refine Below.setCell ?_ (by first | omega | (simp; done) | (simp; omega)) _ | refine Below.trans ?_ (Below.mono (by assumption) (by first | omega | (simp; done) | (simp; omega)))))); have _c1 : w1.cell? ⟨w.heap.size, 1, none⟩ = some (.int .i64 b) := cell_later hb1 (by first | assumption | (simp [go_sem, *]; done) | exact cell_later' (by assumption) (by repeat (first | exact Below.refl _ _ | assumption | refine Below.drew ?_ | refine below_drewN ?_ _ | refine Below.alloc ?_ (by first | omega | (simp; done) | (simp; omega)) _ | refine Below.setCell ?_ (by first | omega | (simp; done) | (simp; omega)) _ | refine Below.trans ?_ (Below.mono (by assumption) (by first | omega | (simp; done) | (simp; omega)))))); have _f1 : w1.frozen? ⟨w.heap.size, 1, none⟩ = false := (hb1.frozen (p := ⟨w.heap.size, 1, none⟩) (by first | omega | (simp; done) | (simp; omega))).trans (by first | assumption | (simp [go_sem, *]; done) | exact frozen_later' (by assumption) (by first | omega | (simp; done) | (simp; omega)) (by repeat (first | exact Below.refl _ _ | assumption | refine Below.drew ?_ | refine below_drewN ?_ _ | refine Below.alloc ?_ (by first | omega | (simp; done) | (simp; omega)) _ | refine Below.setCell ?_ (by first | omega | (simp; done) | (simp; omega)) _ | refine Below.trans ?_ (Below.mono (by assumption) (by first | omega | (simp; done) | (simp; omega)))))); have _c0 : w1.cell? ⟨w.heap.size + 1, 0, none⟩ = some (.int .i64 c) := cell_later hb1 (by first | assumption | (simp [go_sem, *]; done) | exact cell_later' (by assumption) (by repeat (first | exact Below.refl _ _ | assumption | refine Below.drew ?_ | refine below_drewN ?_ _ | refine Below.alloc ?_ (by first | omega | (simp; done) | (simp; omega)) _ | refine Below.setCell ?_ (by first | omega | (simp; done) | (simp; omega)) _ | refine Below.trans ?_ (Below.mono (by assumption) (by first | omega | (simp; done) | (simp; omega)))))); have _f0 : w1.frozen? ⟨w.heap.size + 1, 0, none⟩ = false := (hb1.frozen (p := ⟨w.heap.size + 1, 0, none⟩) (by first | omega | (simp; done) | (simp; omega))).trans (by first | assumption | (simp [go_sem, *]; done) | exact frozen_later' (by assumption) (by first | omega | (simp; done) | (simp; omega)) (by repeat (first | exact Below.refl _ _ | assumption | refine Below.drew ?_ | refine below_drewN ?_ _ | refine Below.alloc ?_ (by first | omega | (simp; done) | (simp; omega)) _ | refine Below.setCell ?_ (by first | omega | (simp; done) | (simp; omega)) _ | refine Below.trans ?_ (Below.mono (by assumption) (by first | omega | (simp; done) | (simp; omega)))))); have _c1 : w1.cell? ⟨w.heap.size + 1, 1, none⟩ = some (.int .i64 d) := cell_later hb1 (by first | assumption | (simp [go_sem, *]; done) | exact cell_later' (by assumption) (by repeat (first | exact Below.refl _ _ | assumption | refine Below.drew ?_ | refine below_drewN ?_ _ | refine Below.alloc ?_ (by first | omega | (simp; done) | (simp; omega)) _ | refine Below.setCell ?_ (by first | omega | (simp; done) | (simp; omega)) _ | refine Below.trans ?_ (Below.mono (by assumption) (by first | omega | (simp; done) | (simp; omega)))))); have _f1 : w1.frozen? ⟨w.heap.size + 1, 1, none⟩ = false := (hb1.frozen (p := ⟨w.heap.size + 1, 1, none⟩) (by first | omega | (simp; done) | (simp; omega))).trans (by first | assumption | (simp [go_sem, *]; done) | exact frozen_later' (by assumption) (by first | omega | (simp; done) | (simp; omega)) (by repeat (first | exact Below.refl _ _ | assumption | refine Below.drew ?_ | refine below_drewN ?_ _ | refine Below.alloc ?_ (by first | omega | (simp; done) | (simp; omega)) _ | refine Below.setCell ?_ (by first | omega | (simp; done) | (simp; omega)) _ | refine Below.trans ?_ (Below.mono (by assumption) (by first | omega | (simp; done) | (simp; omega)))))))
    go_wp2_with fail; refine Calls.mono (valid_at HA.out _) ?_; (rintro er w1 ⟨rfl, hb1⟩; have hs1 := hb1.size; (try simp at hs1); have _c0 : w1.cell? ⟨w.heap.size, 0, none⟩ = some (.int .i64 a) := cell_later hb1 (by first | assumption | (simp [go_sem, *]; done) | exact cell_later' (by assumption) (by repeat (first | exact Below.refl _ _ | assumption | refine Below.drew ?_ | refine below_drewN ?_ _ | refine Below.alloc ?_ (by first | omega | (simp; done) | (simp; omega)) _ | refine Below.setCell ?_ (by first | omega | (simp; done) | (simp; omega)) _ | refine Below.trans ?_ (Below.mono (by assumption) (by first | omega | (simp; done) | (simp; omega)))))); have _f0 : w1.frozen? ⟨w.heap.size, 0, none⟩ = false := (hb1.frozen (p := ⟨w.heap.size, 0, none⟩) (by first | omega | (simp; done) | (simp; omega))).trans (by first | assumption | (simp [go_sem, *]; done) | exact frozen_later' (by assumption) (by first | omega | (simp; done) | (simp; omega)) (by repeat (first | exact Below.refl _ _ | assumption | refine Below.drew ?_ | refine below_drewN ?_ _ | refine Below.alloc ?_ (by first | omega | (simp; done) | (simp; omega)) _ | refine Below.setCell ?_ (by first | omega | (simp; done) | (simp; omega)) _ | refine Below.trans ?_ (Below.mono (by assumption) (by first | omega | (simp; done) | (simp; omega)))))); have _c1 : w1.cell? ⟨w.heap.size, 1, none⟩ = some (.int .i64 b) := cell_later hb1 (by first | assumption | (simp [go_sem, *]; done) | exact cell_later' (by assumption) (by repeat (first | exact Below.refl _ _ | assumption | refine Below.drew ?_ | refine below_drewN ?_ _ | refine Below.alloc ?_ (by first | omega | (simp; done) | (simp; omega)) _ | refine Below.setCell ?_ (by first | omega | (simp; done) | (simp; omega)) _ | refine Below.trans ?_ (Below.mono (by assumption) (by first | omega | (simp; done) | (simp; omega)))))); have _f1 : w1.frozen? ⟨w.heap.size, 1, none⟩ = false := (hb1.frozen (p := ⟨w.heap.size, 1, none⟩) (by first | omega | (simp; done) | (simp; omega))).trans (by first | assumption | (simp [go_sem, *]; done) | exact frozen_later' (by assumption) (by first | omega | (simp; done) | (simp; omega)) (by repeat (first | exact Below.refl _ _ | assumption | refine Below.drew ?_ | refine below_drewN ?_ _ | refine Below.alloc ?_ (by first | omega | (simp; done) | (simp; omega)) _ | refine Below.setCell ?_ (by first | omega | (simp; done) | (simp; omega)) _ | refine Below.trans ?_ (Below.mono (by assumption) (by first | omega | (simp; done) | (simp; omega)))))); have _c0 : w1.cell? ⟨w.heap.size + 1, 0, none⟩ = some (.int .i64 c) := cell_later hb1 (by first | assumption | (simp [go_sem, *]; done) | exact cell_later' (by assumption) (by repeat (first | exact Below.refl _ _ | assumption | refine Below.drew ?_ | refine below_drewN ?_ _ | refine Below.alloc ?_ (by first | omega | (simp; done) | (simp; omega)) _ | refine Below.setCell ?_ (by first | omega | (simp; done) | (simp; omega)) _ | refine Below.trans ?_ (Below.mono (by assumption) (by first | omega | (simp; done) | (simp; omega)))))); have _f0 : w1.frozen? ⟨w.heap.size + 1, 0, none⟩ = false := (hb1.frozen (p := ⟨w.heap.size + 1, 0, none⟩) (by first | omega | (simp; done) | (simp; omega))).trans (by first | assumption | (simp [go_sem, *]; done) | exact frozen_later' (by assumption) (by first | omega | (simp; done) | (simp; omega)) (by repeat (first | exact Below.refl _ _ | assumption | refine Below.drew ?_ | refine below_drewN ?_ _ | refine Below.alloc ?_ (by first | omega | (simp; done) | (simp; omega)) _ | refine Below.setCell ?_ (by first | omega | (simp; done) | (simp; omega)) _ | refine Below.trans ?_ (Below.mono (by assumption) (by first | omega | (simp; done) | (simp; omega)))))); have _c1 : w1.cell? ⟨w.heap.size + 1, 1, none⟩ = some (.int .i64 d) := cell_later hb1 (by first | assumption | (simp [go_sem, *]; done) | exact cell_later' (by assumption) (by repeat (first | exact Below.refl _ _ | assumption | refine Below.drew ?_ | refine below_drewN ?_ _ | refine Below.alloc ?_ (by first | omega | (simp; done) | (simp; omega)) _ | refine Below.setCell ?_ (by first | omega | (simp; done) | (simp; omega)) _ | refine Below.trans ?_ (Below.mono (by assumption) (by first | omega | (simp; done) | (simp; omega)))))); have _f1 : w1.frozen? ⟨w.heap.size + 1, 1, none⟩ = false := (hb1.frozen (p := ⟨w.heap.size + 1, 1, none⟩) (by first | omega | (simp; done) | (simp; omega))).trans (by first | assumption | (simp [go_sem, *]; done) | exact frozen_later' (by assumption) (by first | omega | (simp; done) | (simp; omega)) (by repeat (first | exact Below.refl _ _ | assumption | refine Below.drew ?_ | refine below_drewN ?_ _ | refine Below.alloc ?_ (by first | omega | (simp; done) | (simp; omega)) _ | refine Below.setCell ?_ (by first | omega | (simp; done) | (simp; omega)) _ | refine Below.trans ?_ (Below.mono (by assumption) (by first | omega | (simp; done) | (simp; omega)))))))
    go_wp2_with fail; refine Calls.mono (valid_at HB.out _) ?_; (rintro er w1 ⟨rfl, hb1⟩; have hs1 := hb1.size; (try simp at hs1); have _c0 : w1.cell? ⟨w.heap.size, 0, none⟩ = some (.int .i64 a) := cell_later hb1 (by first | assumption | (simp [go_sem, *]; done) | exact cell_later' (by assumption) (by repeat (first | exact Below.refl _ _ | assumption | refine Below.drew ?_ | refine below_drewN ?_ _ | refine Below.alloc ?_ (by first | omega | (simp; done) | (simp; omega)) _ | refine Below.setCell ?_ (by first | omega | (simp; done) | (simp; omega)) _ | refine Below.trans ?_ (Below.mono (by assumption) (by first | omega | (simp; done) | (simp; omega)))))); have _f0 : w1.frozen? ⟨w.heap.size, 0, none⟩ = false := (hb1.frozen (p := ⟨w.heap.size, 0, none⟩) (by first | omega | (simp; done) | (simp; omega))).trans (by first | assumption | (simp [go_sem, *]; done) | exact frozen_later' (by assumption) (by first | omega | (simp; done) | (simp; omega)) (by repeat (first | exact Below.refl _ _ | assumption | refine Below.drew ?_ | refine below_drewN ?_ _ | refine Below.alloc ?_ (by first | omega | (simp; done) | (simp; omega)) _ | refine Below.setCell ?_ (by first | omega | (simp; done) | (simp; omega)) _ | refine Below.trans ?_ (Below.mono (by assumption) (by first | omega | (simp; done) | (simp; omega)))))); have _c1 : w1.cell? ⟨w.heap.size, 1, none⟩ = some (.int .i64 b) := cell_later hb1 (by first | assumption | (simp [go_sem, *]; done) | exact cell_later' (by assumption) (by repeat (first | exact Below.refl _ _ | assumption | refine Below.drew ?_ | refine below_drewN ?_ _ | refine Below.alloc ?_ (by first | omega | (simp; done) | (simp; omega)) _ | refine Below.setCell ?_ (by first | omega | (simp; done) | (simp; omega)) _ | refine Below.trans ?_ (Below.mono (by assumption) (by first | omega | (simp; done) | (simp; omega)))))); have _f1 : w1.frozen? ⟨w.heap.size, 1, none⟩ = false := (hb1.frozen (p := ⟨w.heap.size, 1, none⟩) (by first | omega | (simp; done) | (simp; omega))).trans (by first | assumption | (simp [go_sem, *]; done) | exact frozen_later' (by assumption) (by first | omega | (simp; done) | (simp; omega)) (by repeat (first | exact Below.refl _ _ | assumption | refine Below.drew ?_ | refine below_drewN ?_ _ | refine Below.alloc ?_ (by first | omega | (simp; done) | (simp; omega)) _ | refine Below.setCell ?_ (by first | omega | (simp; done) | (simp; omega)) _ | refine Below.trans ?_ (Below.mono (by assumption) (by first | omega | (simp; done) | (simp; omega)))))); have _c0 : w1.cell? ⟨w.heap.size + 1, 0, none⟩ = some (.int .i64 c) := cell_later hb1 (by first | assumption | (simp [go_sem, *]; done) | exact cell_later' (by assumption) (by repeat (first | exact Below.refl _ _ | assumption | refine Below.drew ?_ | refine below_drewN ?_ _ | refine Below.alloc ?_ (by first | omega | (simp; done) | (simp; omega)) _ | refine Below.setCell ?_ (by first | omega | (simp; done) | (simp; omega)) _ | refine Below.trans ?_ (Below.mono (by assumption) (by first | omega | (simp; done) | (simp; omega)))))); have _f0 : w1.frozen? ⟨w.heap.size + 1, 0, none⟩ = false := (hb1.frozen (p := ⟨w.heap.size + 1, 0, none⟩) (by first | omega | (simp; done) | (simp; omega))).trans (by first | assumption | (simp [go_sem, *]; done) | exact frozen_later' (by assumption) (by first | omega | (simp; done) | (simp; omega)) (by repeat (first | exact Below.refl _ _ | assumption | refine Below.drew ?_ | refine below_drewN ?_ _ | refine Below.alloc ?_ (by first | omega | (simp; done) | (simp; omega)) _ | refine Below.setCell ?_ (by first | omega | (simp; done) | (simp; omega)) _ | refine Below.trans ?_ (Below.mono (by assumption) (by first | omega | (simp; done) | (simp; omega)))))); have _c1 : w1.cell? ⟨w.heap.size + 1, 1, none⟩ = some (.int .i64 d) := cell_later hb1 (by first | assumption | (simp [go_sem, *]; done) | exact cell_later' (by assumption) (by repeat (first | exact Below.refl _ _ | assumption | refine Below.drew ?_ | refine below_drewN ?_ _ | refine Below.alloc ?_ (by first | omega | (simp; done) | (simp; omega)) _ | refine Below.setCell ?_ (by first | omega | (simp; done) | (simp; omega)) _ | refine Below.trans ?_ (Below.mono (by assumption) (by first | omega | (simp; done) | (simp; omega)))))); have _f1 : w1.frozen? ⟨w.heap.size + 1, 1, none⟩ = false := (hb1.frozen (p := ⟨w.heap.size + 1, 1, none⟩) (by first | omega | (simp; done) | (simp; omega))).trans (by first | assumption | (simp [go_sem, *]; done) | exact frozen_later' (by assumption) (by first | omega | (simp; done) | (simp; omega)) (by repeat (first | exact Below.refl _ _ | assumption | refine Below.drew ?_ | refine below_drewN ?_ _ | refine Below.alloc ?_ (by first | omega | (simp; done) | (simp; omega)) _ | refine Below.setCell ?_ (by first | omega | (simp; done) | (simp; omega)) _ | refine Below.trans ?_ (Below.mono (by assumption) (by first | omega | (simp; done) | (simp; omega)))))))
    go_wp2_with fail
    go_ret
    exact retB rfl (by repeat (first | exact Below.refl _ _ | assumption | refine Below.drew ?_ | refine below_drewN ?_ _ | refine Below.alloc ?_ (by first | omega | (simp; done) | (simp; omega)) _ | refine Below.setCell ?_ (by first | omega | (simp; done) | (simp; omega)) _ | refine Below.trans ?_ (Below.mono (by assumption) (by first | omega | (simp; done) | (simp; omega)))))
set_option maxHeartbeats 8000000 in
set_option maxRecDepth 100000 in
theorem yes (a b c d p0 q0 p1 q1 p2 q2 p3 q3 : Int) (w : World) (h : vld a b = true) (h' : vld c d = true)
    (e0 : sat (a + c) = p0) (f0 : sat (b + d) = q0) (e1 : sat (a - d) = p1) (f1 : sat (b - c) = q1) (e2 : mulL a b c d = p2) (f2 : mulH a b c d = q2) (e3 : min a c = p3) (f3 : max b d = q3) :
    Calls Try.prog 6 #[.agg #[.int .i64 a, .int .i64 b], .agg #[.int .i64 c, .int .i64 d]] w (RetB (.bool true) w) := by
  obtain ⟨i1, i2, i3⟩ := vld_iff.1 h
  obtain ⟨i4, i5, i6⟩ := vld_iff.1 h'
  have HA := Lib.hid h
  have HB := Lib.hid h'
  have C0 := Lib.hid (fun w => ret_at (add_yes h h' w) e0 f0)
  have C1 := Lib.hid (fun w => ret_at (sub_yes h h' w) e1 f1)
  have C2 := Lib.hid (fun w => ret_at (mul_yes h h' w) e2 f2)
  have C3 := Lib.hid (fun w => ret_at (join_yes h h' w) e3 f3)
  have HALL := Lib.hid (show ∀ j, j < 8 → G (fun m => T (X a b (m / 2)) (X c d (m % 2)) p0 q0 p1 q1 p2 q2 p3 q3) (2 * 2) j = (fun _ => true) j from found_all e0 f0 e1 f1 e2 f2 e3 f3)
  clear e0 f0 e1 f1 e2 f2 e3 f3 h h'
  go_enter Try.func6, Try.ntmps6
  go_wp2_with fail; refine Calls.mono (head_any _) ?_; (rintro er w1 ⟨rfl, hb1⟩; have hs1 := hb1.size; (try simp at hs1); have _c0 : w1.cell? ⟨w.heap.size, 0, none⟩ = some (.int .i64 a) := cell_later hb1 (by first | assumption | (simp [go_sem, *]; done) | exact cell_later' (by assumption) (by repeat (first | exact Below.refl _ _ | assumption | refine Below.drew ?_ | refine below_drewN ?_ _ | refine Below.alloc ?_ (by first | omega | (simp; done) | (simp; omega)) _ | refine Below.setCell ?_ (by first | omega | (simp; done) | (simp; omega)) _ | refine Below.trans ?_ (Below.mono (by assumption) (by first | omega | (simp; done) | (simp; omega)))))); have _f0 : w1.frozen? ⟨w.heap.size, 0, none⟩ = false := (hb1.frozen (p := ⟨w.heap.size, 0, none⟩) (by first | omega | (simp; done) | (simp; omega))).trans (by first | assumption | (simp [go_sem, *]; done) | exact frozen_later' (by assumption) (by first | omega | (simp; done) | (simp; omega)) (by repeat (first | exact Below.refl _ _ | assumption | refine Below.drew ?_ | refine below_drewN ?_ _ | refine Below.alloc ?_ (by first | omega | (simp; done) | (simp; omega)) _ | refine Below.setCell ?_ (by first | omega | (simp; done) | (simp; omega)) _ | refine Below.trans ?_ (Below.mono (by assumption) (by first | omega | (simp; done) | (simp; omega)))))); have _c1 : w1.cell? ⟨w.heap.size, 1, none⟩ = some (.int .i64 b) := cell_later hb1 (by first | assumption | (simp [go_sem, *]; done) | exact cell_later' (by assumption) (by repeat (first | exact Below.refl _ _ | assumption | refine Below.drew ?_ | refine below_drewN ?_ _ | refine Below.alloc ?_ (by first | omega | (simp; done) | (simp; omega)) _ | refine Below.setCell ?_ (by first | omega | (simp; done) | (simp; omega)) _ | refine Below.trans ?_ (Below.mono (by assumption) (by first | omega | (simp; done) | (simp; omega)))))); have _f1 : w1.frozen? ⟨w.heap.size, 1, none⟩ = false := (hb1.frozen (p := ⟨w.heap.size, 1, none⟩) (by first | omega | (simp; done) | (simp; omega))).trans (by first | assumption | (simp [go_sem, *]; done) | exact frozen_later' (by assumption) (by first | omega | (simp; done) | (simp; omega)) (by repeat (first | exact Below.refl _ _ | assumption | refine Below.drew ?_ | refine below_drewN ?_ _ | refine Below.alloc ?_ (by first | omega | (simp; done) | (simp; omega)) _ | refine Below.setCell ?_ (by first | omega | (simp; done) | (simp; omega)) _ | refine Below.trans ?_ (Below.mono (by assumption) (by first | omega | (simp; done) | (simp; omega)))))); have _c0 : w1.cell? ⟨w.heap.size + 1, 0, none⟩ = some (.int .i64 c) := cell_later hb1 (by first | assumption | (simp [go_sem, *]; done) | exact cell_later' (by assumption) (by repeat (first | exact Below.refl _ _ | assumption | refine Below.drew ?_ | refine below_drewN ?_ _ | refine Below.alloc ?_ (by first | omega | (simp; done) | (simp; omega)) _ | refine Below.setCell ?_ (by first | omega | (simp; done) | (simp; omega)) _ | refine Below.trans ?_ (Below.mono (by assumption) (by first | omega | (simp; done) | (simp; omega)))))); have _f0 : w1.frozen? ⟨w.heap.size + 1, 0, none⟩ = false := (hb1.frozen (p := ⟨w.heap.size + 1, 0, none⟩) (by first | omega | (simp; done) | (simp; omega))).trans (by first | assumption | (simp [go_sem, *]; done) | exact frozen_later' (by assumption) (by first | omega | (simp; done) | (simp; omega)) (by repeat (first | exact Below.refl _ _ | assumption | refine Below.drew ?_ | refine below_drewN ?_ _ | refine Below.alloc ?_ (by first | omega | (simp; done) | (simp; omega)) _ | refine Below.setCell ?_ (by first | omega | (simp; done) | (simp; omega)) _ | refine Below.trans ?_ (Below.mono (by assumption) (by first | omega | (simp; done) | (simp; omega)))))); have _c1 : w1.cell? ⟨w.heap.size + 1, 1, none⟩ = some (.int .i64 d) := cell_later hb1 (by first | assumption | (simp [go_sem, *]; done) | exact cell_later' (by assumption) (by repeat (first | exact Below.refl _ _ | assumption | refine Below.drew ?_ | refine below_drewN ?_ _ | refine Below.alloc ?_ (by first | omega | (simp; done) | (simp; omega)) _ | refine Below.setCell ?_ (by first | omega | (simp; done) | (simp; omega)) _ | refine Below.trans ?_ (Below.mono (by assumption) (by first | omega | (simp; done) | (simp; omega)))))); have _f1 : w1.frozen? ⟨w.heap.size + 1, 1, none⟩ = false := (hb1.frozen (p := ⟨w.heap.size + 1, 1, none⟩) (by first | omega | (simp; done) | (simp; omega))).trans (by first | assumption | (simp [go_sem, *]; done) | exact frozen_later' (by assumption) (by first | omega | (simp; done) | (simp; omega)) (by repeat (first | exact Below.refl _ _ | assumption | refine Below.drew ?_ | refine below_drewN ?_ _ | refine Below.alloc ?_ (by first | omega | (simp; done) | (simp; omega)) _ | refine Below.setCell ?_ (by first | omega | (simp; done) | (simp; omega)) _ | refine Below.trans ?_ (Below.mono (by assumption) (by first | omega | (simp; done) | (simp; omega)))))))
  go_wp2_with fail; refine Calls.mono (valid_at HA.out _) ?_; (rintro er w1 ⟨rfl, hb1⟩; have hs1 := hb1.size; (try simp at hs1); have _c0 : w1.cell? ⟨w.heap.size, 0, none⟩ = some (.int .i64 a) := cell_later hb1 (by first | assumption | (simp [go_sem, *]; done) | exact cell_later' (by assumption) (by repeat (first | exact Below.refl _ _ | assumption | refine Below.drew ?_ | refine below_drewN ?_ _ | refine Below.alloc ?_ (by first | omega | (simp; done) | (simp; omega)) _ | refine Below.setCell ?_ (by first | omega | (simp; done) | (simp; omega)) _ | refine Below.trans ?_ (Below.mono (by assumption) (by first | omega | (simp; done) | (simp; omega)))))); have _f0 : w1.frozen? ⟨w.heap.size, 0, none⟩ = false := (hb1.frozen (p := ⟨w.heap.size, 0, none⟩) (by first | omega | (simp; done) | (simp; omega))).trans (by first | assumption | (simp [go_sem, *]; done) | exact frozen_later' (by assumption) (by first | omega | (simp; done) | (simp; omega)) (by repeat (first | exact Below.refl _ _ | assumption | refine Below.drew ?_ | refine below_drewN ?_ _ | refine Below.alloc ?_ (by first | omega | (simp; done) | (simp; omega)) _ | refine Below.setCell ?_ (by first | omega | (simp; done) | (simp; omega)) _ | refine Below.trans ?_ (Below.mono (by assumption) (by first | omega | (simp; done) | (simp; omega)))))); have _c1 : w1.cell? ⟨w.heap.size, 1, none⟩ = some (.int .i64 b) := cell_later hb1 (by first | assumption | (simp [go_sem, *]; done) | exact cell_later' (by assumption) (by repeat (first | exact Below.refl _ _ | assumption | refine Below.drew ?_ | refine below_drewN ?_ _ | refine Below.alloc ?_ (by first | omega | (simp; done) | (simp; omega)) _ | refine Below.setCell ?_ (by first | omega | (simp; done) | (simp; omega)) _ | refine Below.trans ?_ (Below.mono (by assumption) (by first | omega | (simp; done) | (simp; omega)))))); have _f1 : w1.frozen? ⟨w.heap.size, 1, none⟩ = false := (hb1.frozen (p := ⟨w.heap.size, 1, none⟩) (by first | omega | (simp; done) | (simp; omega))).trans (by first | assumption | (simp [go_sem, *]; done) | exact frozen_later' (by assumption) (by first | omega | (simp; done) | (simp; omega)) (by repeat (first | exact Below.refl _ _ | assumption | refine Below.drew ?_ | refine below_drewN ?_ _ | refine Below.alloc ?_ (by first | omega | (simp; done) | (simp; omega)) _ | refine Below.setCell ?_ (by first | omega | (simp; done) | (simp; omega)) _ | refine Below.trans ?_ (Below.mono (by assumption) (by first | omega | (simp; done) | (simp; omega)))))); have _c0 : w1.cell? ⟨w.heap.size + 1, 0, none⟩ = some (.int .i64 c) := cell_later hb1 (by first | assumption | (simp [go_sem, *]; done) | exact cell_later' (by assumption) (by repeat (first | exact Below.refl _ _ | assumption | refine Below.drew ?_ | refine below_drewN ?_ _ | refine Below.alloc ?_ (by first | omega | (simp; done) | (simp; omega)) _ | refine Below.setCell ?_ (by first | omega | (simp; done) | (simp; omega)) _ | refine Below.trans ?_ (Below.mono (by assumption) (by first | omega | (simp; done) | (simp; omega)))))); have _f0 : w1.frozen? ⟨w.heap.size + 1, 0, none⟩ = false := (hb1.frozen (p := ⟨w.heap.size + 1, 0, none⟩) (by first | omega | (simp; done) | (simp; omega))).trans (by first | assumption | (simp [go_sem, *]; done) | exact frozen_later' (by assumption) (by first | omega | (simp; done) | (simp; omega)) (by repeat (first | exact Below.refl _ _ | assumption | refine Below.drew ?_ | refine below_drewN ?_ _ | refine Below.alloc ?_ (by first | omega | (simp; done) | (simp; omega)) _ | refine Below.setCell ?_ (by first | omega | (simp; done) | (simp; omega)) _ | refine Below.trans ?_ (Below.mono (by assumption) (by first | omega | (simp; done) | (simp; omega)))))); have _c1 : w1.cell? ⟨w.heap.size + 1, 1, none⟩ = some (.int .i64 d) := cell_later hb1 (by first | assumption | (simp [go_sem, *]; done) | exact cell_later' (by assumption) (by repeat (first | exact Below.refl _ _ | assumption | refine Below.drew ?_ | refine below_drewN ?_ _ | refine Below.alloc ?_ (by first | omega | (simp; done) | (simp; omega)) _ | refine Below.setCell ?_ (by first | omega | (simp; done) | (simp; omega)) _ | refine Below.trans ?_ (Below.mono (by assumption) (by first | omega | (simp; done) | (simp; omega)))))); have _f1 : w1.frozen? ⟨w.heap.size + 1, 1, none⟩ = false := (hb1.frozen (p := ⟨w.heap.size + 1, 1, none⟩) (by first | omega | (simp; done) | (simp; omega))).trans (by first | assumption | (simp [go_sem, *]; done) | exact frozen_later' (by assumption) (by first | omega | (simp; done) | (simp; omega)) (by repeat (first | exact Below.refl _ _ | assumption | refine Below.drew ?_ | refine below_drewN ?_ _ | refine Below.alloc ?_ (by first | omega | (simp; done) | (simp; omega)) _ | refine Below.setCell ?_ (by first | omega | (simp; done) | (simp; omega)) _ | refine Below.trans ?_ (Below.mono (by assumption) (by first | omega | (simp; done) | (simp; omega)))))))
  go_wp2_with fail; refine Calls.mono (valid_at HB.out _) ?_; (rintro er w1 ⟨rfl, hb1⟩; have hs1 := hb1.size; (try simp at hs1); have _c0 : w1.cell? ⟨w.heap.size, 0, none⟩ = some (.int .i64 a) := cell_later hb1 (by first | assumption | (simp [go_sem, *]; done) | exact cell_later' (by assumption) (by repeat (first | exact Below.refl _ _ | assumption | refine Below.drew ?_ | refine below_drewN ?_ _ | refine Below.alloc ?_ (by first | omega | (simp; done) | (simp; omega)) _ | refine Below.setCell ?_ (by first | omega | (simp; done) | (simp; omega)) _ | refine Below.trans ?_ (Below.mono (by assumption) (by first | omega | (simp; done) | (simp; omega)))))); have _f0 : w1.frozen? ⟨w.heap.size, 0, none⟩ = false := (hb1.frozen (p := ⟨w.heap.size, 0, none⟩) (by first | omega | (simp; done) | (simp; omega))).trans (by first | assumption | (simp [go_sem, *]; done) | exact frozen_later' (by assumption) (by first | omega | (simp; done) | (simp; omega)) (by repeat (first | exact Below.refl _ _ | assumption | refine Below.drew ?_ | refine below_drewN ?_ _ | refine Below.alloc ?_ (by first | omega | (simp; done) | (simp; omega)) _ | refine Below.setCell ?_ (by first | omega | (simp; done) | (simp; omega)) _ | refine Below.trans ?_ (Below.mono (by assumption) (by first | omega | (simp; done) | (simp; omega)))))); have _c1 : w1.cell? ⟨w.heap.size, 1, none⟩ = some (.int .i64 b) := cell_later hb1 (by first | assumption | (simp [go_sem, *]; done) | exact cell_later' (by assumption) (by repeat (first | exact Below.refl _ _ | assumption | refine Below.drew ?_ | refine below_drewN ?_ _ | refine Below.alloc ?_ (by first | omega | (simp; done) | (simp; omega)) _ | refine Below.setCell ?_ (by first | omega | (simp; done) | (simp; omega)) _ | refine Below.trans ?_ (Below.mono (by assumption) (by first | omega | (simp; done) | (simp; omega)))))); have _f1 : w1.frozen? ⟨w.heap.size, 1, none⟩ = false := (hb1.frozen (p := ⟨w.heap.size, 1, none⟩) (by first | omega | (simp; done) | (simp; omega))).trans (by first | assumption | (simp [go_sem, *]; done) | exact frozen_later' (by assumption) (by first | omega | (simp; done) | (simp; omega)) (by repeat (first | exact Below.refl _ _ | assumption | refine Below.drew ?_ | refine below_drewN ?_ _ | refine Below.alloc ?_ (by first | omega | (simp; done) | (simp; omega)) _ | refine Below.setCell ?_ (by first | omega | (simp; done) | (simp; omega)) _ | refine Below.trans ?_ (Below.mono (by assumption) (by first | omega | (simp; done) | (simp; omega)))))); have _c0 : w1.cell? ⟨w.heap.size + 1, 0, none⟩ = some (.int .i64 c) := cell_later hb1 (by first | assumption | (simp [go_sem, *]; done) | exact cell_later' (by assumption) (by repeat (first | exact Below.refl _ _ | assumption | refine Below.drew ?_ | refine below_drewN ?_ _ | refine Below.alloc ?_ (by first | omega | (simp; done) | (simp; omega)) _ | refine Below.setCell ?_ (by first | omega | (simp; done) | (simp; omega)) _ | refine Below.trans ?_ (Below.mono (by assumption) (by first | omega | (simp; done) | (simp; omega)))))); have _f0 : w1.frozen? ⟨w.heap.size + 1, 0, none⟩ = false := (hb1.frozen (p := ⟨w.heap.size + 1, 0, none⟩) (by first | omega | (simp; done) | (simp; omega))).trans (by first | assumption | (simp [go_sem, *]; done) | exact frozen_later' (by assumption) (by first | omega | (simp; done) | (simp; omega)) (by repeat (first | exact Below.refl _ _ | assumption | refine Below.drew ?_ | refine below_drewN ?_ _ | refine Below.alloc ?_ (by first | omega | (simp; done) | (simp; omega)) _ | refine Below.setCell ?_ (by first | omega | (simp; done) | (simp; omega)) _ | refine Below.trans ?_ (Below.mono (by assumption) (by first | omega | (simp; done) | (simp; omega)))))); have _c1 : w1.cell? ⟨w.heap.size + 1, 1, none⟩ = some (.int .i64 d) := cell_later hb1 (by first | assumption | (simp [go_sem, *]; done) | exact cell_later' (by assumption) (by repeat (first | exact Below.refl _ _ | assumption | refine Below.drew ?_ | refine below_drewN ?_ _ | refine Below.alloc ?_ (by first | omega | (simp; done) | (simp; omega)) _ | refine Below.setCell ?_ (by first | omega | (simp; done) | (simp; omega)) _ | refine Below.trans ?_ (Below.mono (by assumption) (by first | omega | (simp; done) | (simp; omega)))))); have _f1 : w1.frozen? ⟨w.heap.size + 1, 1, none⟩ = false := (hb1.frozen (p := ⟨w.heap.size + 1, 1, none⟩) (by first | omega | (simp; done) | (simp; omega))).trans (by first | assumption | (simp [go_sem, *]; done) | exact frozen_later' (by assumption) (by first | omega | (simp; done) | (simp; omega)) (by repeat (first | exact Below.refl _ _ | assumption | refine Below.drew ?_ | refine below_drewN ?_ _ | refine Below.alloc ?_ (by first | omega | (simp; done) | (simp; omega)) _ | refine Below.setCell ?_ (by first | omega | (simp; done) | (simp; omega)) _ | refine Below.trans ?_ (Below.mono (by assumption) (by first | omega | (simp; done) | (simp; omega)))))))
  go_wp2_with fail; refine Calls.mono (rvalid_at HA.out _) ?_; (rintro er w1 ⟨rfl, hb1⟩; have hs1 := hb1.size; (try simp at hs1); have _c0 : w1.cell? ⟨w.heap.size, 0, none⟩ = some (.int .i64 a) := cell_later hb1 (by first | assumption | (simp [go_sem, *]; done) | exact cell_later' (by assumption) (by repeat (first | exact Below.refl _ _ | assumption | refine Below.drew ?_ | refine below_drewN ?_ _ | refine Below.alloc ?_ (by first | omega | (simp; done) | (simp; omega)) _ | refine Below.setCell ?_ (by first | omega | (simp; done) | (simp; omega)) _ | refine Below.trans ?_ (Below.mono (by assumption) (by first | omega | (simp; done) | (simp; omega)))))); have _f0 : w1.frozen? ⟨w.heap.size, 0, none⟩ = false := (hb1.frozen (p := ⟨w.heap.size, 0, none⟩) (by first | omega | (simp; done) | (simp; omega))).trans (by first | assumption | (simp [go_sem, *]; done) | exact frozen_later' (by assumption) (by first | omega | (simp; done) | (simp; omega)) (by repeat (first | exact Below.refl _ _ | assumption | refine Below.drew ?_ | refine below_drewN ?_ _ | refine Below.alloc ?_ (by first | omega | (simp; done) | (simp; omega)) _ | refine Below.setCell ?_ (by first | omega | (simp; done) | (simp; omega)) _ | refine Below.trans ?_ (Below.mono (by assumption) (by first | omega | (simp; done) | (simp; omega)))))); have _c1 : w1.cell? ⟨w.heap.size, 1, none⟩ = some (.int .i64 b) := cell_later hb1 (by first | assumption | (simp [go_sem, *]; done) | exact cell_later' (by assumption) (by repeat (first | exact Below.refl _ _ | assumption | refine Below.drew ?_ | refine below_drewN ?_ _ | refine Below.alloc ?_ (by first | omega | (simp; done) | (simp; omega)) _ | refine Below.setCell ?_ (by first | omega | (simp; done) | (simp; omega)) _ | refine Below.trans ?_ (Below.mono (by assumption) (by first | omega | (simp; done) | (simp; omega)))))); have _f1 : w1.frozen? ⟨w.heap.size, 1, none⟩ = false := (hb1.frozen (p := ⟨w.heap.size, 1, none⟩) (by first | omega | (simp; done) | (simp; omega))).trans (by first | assumption | (simp [go_sem, *]; done) | exact frozen_later' (by assumption) (by first | omega | (simp; done) | (simp; omega)) (by repeat (first | exact Below.refl _ _ | assumption | refine Below.drew ?_ | refine below_drewN ?_ _ | refine Below.alloc ?_ (by first | omega | (simp; done) | (simp; omega)) _ | refine Below.setCell ?_ (by first | omega | (simp; done) | (simp; omega)) _ | refine Below.trans ?_ (Below.mono (by assumption) (by first | omega | (simp; done) | (simp; omega)))))); have _c0 : w1.cell? ⟨w.heap.size + 1, 0, none⟩ = some (.int .i64 c) := cell_later hb1 (by first | assumption | (simp [go_sem, *]; done) | exact cell_later' (by assumption) (by repeat (first | exact Below.refl _ _ | assumption | refine Below.drew ?_ | refine below_drewN ?_ _ | refine Below.alloc ?_ (by first | omega | (simp; done) | (simp; omega)) _ | refine Below.setCell ?_ (by first | omega | (simp; done) | (simp; omega)) _ | refine Below.trans ?_ (Below.mono (by assumption) (by first | omega | (simp; done) | (simp; omega)))))); have _f0 : w1.frozen? ⟨w.heap.size + 1, 0, none⟩ = false := (hb1.frozen (p := ⟨w.heap.size + 1, 0, none⟩) (by first | omega | (simp; done) | (simp; omega))).trans (by first | assumption | (simp [go_sem, *]; done) | exact frozen_later' (by assumption) (by first | omega | (simp; done) | (simp; omega)) (by repeat (first | exact Below.refl _ _ | assumption | refine Below.drew ?_ | refine below_drewN ?_ _ | refine Below.alloc ?_ (by first | omega | (simp; done) | (simp; omega)) _ | refine Below.setCell ?_ (by first | omega | (simp; done) | (simp; omega)) _ | refine Below.trans ?_ (Below.mono (by assumption) (by first | omega | (simp; done) | (simp; omega)))))); have _c1 : w1.cell? ⟨w.heap.size + 1, 1, none⟩ = some (.int .i64 d) := cell_later hb1 (by first | assumption | (simp [go_sem, *]; done) | exact cell_later' (by assumption) (by repeat (first | exact Below.refl _ _ | assumption | refine Below.drew ?_ | refine below_drewN ?_ _ | refine Below.alloc ?_ (by first | omega | (simp; done) | (simp; omega)) _ | refine Below.setCell ?_ (by first | omega | (simp; done) | (simp; omega)) _ | refine Below.trans ?_ (Below.mono (by assumption) (by first | omega | (simp; done) | (simp; omega)))))); have _f1 : w1.frozen? ⟨w.heap.size + 1, 1, none⟩ = false := (hb1.frozen (p := ⟨w.heap.size + 1, 1, none⟩) (by first | omega | (simp; done) | (simp; omega))).trans (by first | assumption | (simp [go_sem, *]; done) | exact frozen_later' (by assumption) (by first | omega | (simp; done) | (simp; omega)) (by repeat (first | exact Below.refl _ _ | assumption | refine Below.drew ?_ | refine below_drewN ?_ _ | refine Below.alloc ?_ (by first | omega | (simp; done) | (simp; omega)) _ | refine Below.setCell ?_ (by first | omega | (simp; done) | (simp; omega)) _ | refine Below.trans ?_ (Below.mono (by assumption) (by first | omega | (simp; done) | (simp; omega)))))))
  go_wp2_with fail
  refine Calls.mono (rvalid_at HB.out _) ?_
  rintro er w2 ⟨rfl, hb2⟩
  have hs2 := hb2.size
  have ia0 : w2.cell? ⟨w.heap.size, 0, none⟩ = some (.int .i64 a) := cell_later hb2 (by (first | assumption | exact cell_alloc (by assumption) _ | (simp [go_sem, *]; done))); have ia1 : w2.cell? ⟨w.heap.size, 1, none⟩ = some (.int .i64 b) := cell_later hb2 (by (first | assumption | exact cell_alloc (by assumption) _ | (simp [go_sem, *]; done)))
  have ib0 : w2.cell? ⟨w.heap.size + 1, 0, none⟩ = some (.int .i64 c) := cell_later hb2 (by (first | assumption | exact cell_alloc (by assumption) _ | (simp [go_sem, *]; done))); have ib1 : w2.cell? ⟨w.heap.size + 1, 1, none⟩ = some (.int .i64 d) := cell_later hb2 (by (first | assumption | exact cell_alloc (by assumption) _ | (simp [go_sem, *]; done)))
  have hk2 : Below w.heap.size w w2 := (by repeat (first | exact Below.refl _ _ | assumption | refine Below.drew ?_ | refine below_drewN ?_ _ | refine Below.alloc ?_ (by first | omega | (simp; done) | (simp; omega)) _ | refine Below.setCell ?_ (by first | omega | (simp; done) | (simp; omega)) _ | refine Below.trans ?_ (Below.mono (by assumption) (by first | omega | (simp; done) | (simp; omega)))))
  go_wp2_with fail
  have hS : ∀ wx : World, Below w2.heap.size w2 wx → (wx.cell? ⟨w.heap.size, 0, none⟩ = some (.int .i64 a) ∧ wx.cell? ⟨w.heap.size, 1, none⟩ = some (.int .i64 b) ∧ wx.cell? ⟨w.heap.size + 1, 0, none⟩ = some (.int .i64 c) ∧ wx.cell? ⟨w.heap.size + 1, 1, none⟩ = some (.int .i64 d)) := by (intro wx hbx; (repeat' apply And.intro) <;> exact cell_later hbx (by (first | assumption | exact cell_alloc (by assumption) _ | (simp [go_sem, *]; done))))
  have hnd : (List.map Bx.k [PB 12 16 [.int .i64 0, .int .i64 0] [.int .i64 (p0), .int .i64 (q0)], PB 13 17 [.int .i64 0, .int .i64 0] [.int .i64 (p1), .int .i64 (q1)], PB 14 18 [.int .i64 0, .int .i64 0] [.int .i64 (p2), .int .i64 (q2)], PB 15 19 [.int .i64 0, .int .i64 0] [.int .i64 (p3), .int .i64 (q3)]]).Nodup := by simp
  refine wp_flow_s [PB 12 16 [.int .i64 0, .int .i64 0] [.int .i64 (p0), .int .i64 (q0)], PB 13 17 [.int .i64 0, .int .i64 0] [.int .i64 (p1), .int .i64 (q1)], PB 14 18 [.int .i64 0, .int .i64 0] [.int .i64 (p2), .int .i64 (q2)], PB 15 19 [.int .i64 0, .int .i64 0] [.int .i64 (p3), .int .i64 (q3)]] [] (by kernel_rfl) (by kernel_rfl) (by kernel_rfl) ?_
  repeat (first | ((with_reducible refine Flow.pure hS StayG.nil (v := ?_) ?_ ?_ ?_ ?_); rotate_left 1; (focus kernel_rfl); (focus (intro _; rfl)); (focus (intro β wx hSw; (try dsimp only at hSw); go_simp; (try with_reducible rfl); done)); (try simp only [Act.put, List.setIfInBounds_toArray, List.set_cons_zero, List.set_cons_succ, Nat.reduceAdd])) | ((with_reducible refine Flow.call hS StayG.nil (v := ?_) ?_ ?_ ?_ ?_); rotate_left 1; (focus kernel_rfl); (focus (intro _; rfl)); (focus (intro β L wx hI hat hSw K' hK; (try dsimp only at hSw); go_simp; go_at_call 18; refine Calls.mono (C0.out _) ?_; rintro e w' ⟨rfl, hb'⟩; exact hK.out _ hb')); (try simp only [Act.put, List.setIfInBounds_toArray, List.set_cons_zero, List.set_cons_succ, Nat.reduceAdd])) | ((with_reducible refine Flow.call hS StayG.nil (v := ?_) ?_ ?_ ?_ ?_); rotate_left 1; (focus kernel_rfl); (focus (intro _; rfl)); (focus (intro β L wx hI hat hSw K' hK; (try dsimp only at hSw); go_simp; go_at_call 19; refine Calls.mono (C1.out _) ?_; rintro e w' ⟨rfl, hb'⟩; exact hK.out _ hb')); (try simp only [Act.put, List.setIfInBounds_toArray, List.set_cons_zero, List.set_cons_succ, Nat.reduceAdd])) | ((with_reducible refine Flow.call hS StayG.nil (v := ?_) ?_ ?_ ?_ ?_); rotate_left 1; (focus kernel_rfl); (focus (intro _; rfl)); (focus (intro β L wx hI hat hSw K' hK; (try dsimp only at hSw); go_simp; go_at_call 20; refine Calls.mono (C2.out _) ?_; rintro e w' ⟨rfl, hb'⟩; exact hK.out _ hb')); (try simp only [Act.put, List.setIfInBounds_toArray, List.set_cons_zero, List.set_cons_succ, Nat.reduceAdd])) | ((with_reducible refine Flow.call hS StayG.nil (v := ?_) ?_ ?_ ?_ ?_); rotate_left 1; (focus kernel_rfl); (focus (intro _; rfl)); (focus (intro β L wx hI hat hSw K' hK; (try dsimp only at hSw); go_simp; go_at_call 21; refine Calls.mono (C3.out _) ?_; rintro e w' ⟨rfl, hb'⟩; exact hK.out _ hb')); (try simp only [Act.put, List.setIfInBounds_toArray, List.set_cons_zero, List.set_cons_succ, Nat.reduceAdd])) | ((with_reducible refine Flow.make hS StayG.nil (PB 12 16 [.int .i64 0, .int .i64 0] [.int .i64 (p0), .int .i64 (q0)]) 23 hnd ?_ ?_ ?_ ?_ ?_ ?_ ?_ ?_ ?_); (focus (simp; done)); (focus rfl); (focus kernel_rfl); (focus kernel_rfl); (focus (exact Or.inr ⟨_, rfl, by decide, by kernel_rfl⟩)); (focus (intro _; rfl)); (focus (intro _; rfl)); (focus (intro β wx hSw; (try dsimp only at hSw); go_simp; (try with_reducible rfl); done)); (try simp only [Act.put, List.setIfInBounds_toArray, List.set_cons_zero, List.set_cons_succ, Nat.reduceAdd])) | ((with_reducible refine Flow.make hS StayG.nil (PB 13 17 [.int .i64 0, .int .i64 0] [.int .i64 (p1), .int .i64 (q1)]) 23 hnd ?_ ?_ ?_ ?_ ?_ ?_ ?_ ?_ ?_); (focus (simp; done)); (focus rfl); (focus kernel_rfl); (focus kernel_rfl); (focus (exact Or.inr ⟨_, rfl, by decide, by kernel_rfl⟩)); (focus (intro _; rfl)); (focus (intro _; rfl)); (focus (intro β wx hSw; (try dsimp only at hSw); go_simp; (try with_reducible rfl); done)); (try simp only [Act.put, List.setIfInBounds_toArray, List.set_cons_zero, List.set_cons_succ, Nat.reduceAdd])) | ((with_reducible refine Flow.make hS StayG.nil (PB 14 18 [.int .i64 0, .int .i64 0] [.int .i64 (p2), .int .i64 (q2)]) 23 hnd ?_ ?_ ?_ ?_ ?_ ?_ ?_ ?_ ?_); (focus (simp; done)); (focus rfl); (focus kernel_rfl); (focus kernel_rfl); (focus (exact Or.inr ⟨_, rfl, by decide, by kernel_rfl⟩)); (focus (intro _; rfl)); (focus (intro _; rfl)); (focus (intro β wx hSw; (try dsimp only at hSw); go_simp; (try with_reducible rfl); done)); (try simp only [Act.put, List.setIfInBounds_toArray, List.set_cons_zero, List.set_cons_succ, Nat.reduceAdd])) | ((with_reducible refine Flow.make hS StayG.nil (PB 15 19 [.int .i64 0, .int .i64 0] [.int .i64 (p3), .int .i64 (q3)]) 23 hnd ?_ ?_ ?_ ?_ ?_ ?_ ?_ ?_ ?_); (focus (simp; done)); (focus rfl); (focus kernel_rfl); (focus kernel_rfl); (focus (exact Or.inr ⟨_, rfl, by decide, by kernel_rfl⟩)); (focus (intro _; rfl)); (focus (intro _; rfl)); (focus (intro β wx hSw; (try dsimp only at hSw); go_simp; (try with_reducible rfl); done)); (try simp only [Act.put, List.setIfInBounds_toArray, List.set_cons_zero, List.set_cons_succ, Nat.reduceAdd])) | ((with_reducible refine Flow.store hS (fun _ h => absurd h (by simp)) (PB 12 16 [.int .i64 0, .int .i64 0] [.int .i64 (p0), .int .i64 (q0)]) hnd ?_ ?_ ?_ ?_ ?_ ?_ ?_ ?_ ?_ ?_); (focus (simp; done)); (focus rfl); (focus rfl); (focus kernel_rfl); (focus kernel_rfl); (focus kernel_rfl); (focus kernel_rfl); (focus (intro _; rfl)); (focus (intro β n wx hSw hβ hc; (try dsimp only at hSw hβ); (have hc0 := hc 0 _ rfl; have hc1 := hc 1 _ rfl; obtain ⟨hc0, hf0⟩ := hc0; obtain ⟨hc1, hf1⟩ := hc1); clear hc; simp only [World.setCells]; go_simp; (try with_reducible rfl); done)); (try simp only [Act.put, Nat.reduceAdd])) | ((with_reducible refine Flow.store hS (fun _ h => absurd h (by simp)) (PB 13 17 [.int .i64 0, .int .i64 0] [.int .i64 (p1), .int .i64 (q1)]) hnd ?_ ?_ ?_ ?_ ?_ ?_ ?_ ?_ ?_ ?_); (focus (simp; done)); (focus rfl); (focus rfl); (focus kernel_rfl); (focus kernel_rfl); (focus kernel_rfl); (focus kernel_rfl); (focus (intro _; rfl)); (focus (intro β n wx hSw hβ hc; (try dsimp only at hSw hβ); (have hc0 := hc 0 _ rfl; have hc1 := hc 1 _ rfl; obtain ⟨hc0, hf0⟩ := hc0; obtain ⟨hc1, hf1⟩ := hc1); clear hc; simp only [World.setCells]; go_simp; (try with_reducible rfl); done)); (try simp only [Act.put, Nat.reduceAdd])) | ((with_reducible refine Flow.store hS (fun _ h => absurd h (by simp)) (PB 14 18 [.int .i64 0, .int .i64 0] [.int .i64 (p2), .int .i64 (q2)]) hnd ?_ ?_ ?_ ?_ ?_ ?_ ?_ ?_ ?_ ?_); (focus (simp; done)); (focus rfl); (focus rfl); (focus kernel_rfl); (focus kernel_rfl); (focus kernel_rfl); (focus kernel_rfl); (focus (intro _; rfl)); (focus (intro β n wx hSw hβ hc; (try dsimp only at hSw hβ); (have hc0 := hc 0 _ rfl; have hc1 := hc 1 _ rfl; obtain ⟨hc0, hf0⟩ := hc0; obtain ⟨hc1, hf1⟩ := hc1); clear hc; simp only [World.setCells]; go_simp; (try with_reducible rfl); done)); (try simp only [Act.put, Nat.reduceAdd])) | ((with_reducible refine Flow.store hS (fun _ h => absurd h (by simp)) (PB 15 19 [.int .i64 0, .int .i64 0] [.int .i64 (p3), .int .i64 (q3)]) hnd ?_ ?_ ?_ ?_ ?_ ?_ ?_ ?_ ?_ ?_); (focus (simp; done)); (focus rfl); (focus rfl); (focus kernel_rfl); (focus kernel_rfl); (focus kernel_rfl); (focus kernel_rfl); (focus (intro _; rfl)); (focus (intro β n wx hSw hβ hc; (try dsimp only at hSw hβ); (have hc0 := hc 0 _ rfl; have hc1 := hc 1 _ rfl; obtain ⟨hc0, hf0⟩ := hc0; obtain ⟨hc1, hf1⟩ := hc1); clear hc; simp only [World.setCells]; go_simp; (try with_reducible rfl); done)); (try simp only [Act.put, Nat.reduceAdd])))
  ((with_reducible refine Flow.stop ?_); dsimp only; intro β w3 hI3)
  obtain ⟨se, slo, shi, sq⟩ := (hI3).box (PB 12 16 [.int .i64 0, .int .i64 0] [.int .i64 (p0), .int .i64 (q0)]) (by simp) rfl; have sc0 := (sq 0 _ rfl).1; have sc1 := (sq 1 _ rfl).1; have sf0 := (sq 0 _ rfl).2; have sf1 := (sq 1 _ rfl).2; clear sq; obtain ⟨n0, sn⟩ : ∃ n, n = blk (β 12) := ⟨_, rfl⟩; dsimp only [PB] at se slo shi sc0 sc1 sf0 sf1; rw [← sn] at se slo shi sc0 sc1 sf0 sf1; rw [se]; clear se sn
  obtain ⟨te, tlo, thi, tq⟩ := (hI3).box (PB 13 17 [.int .i64 0, .int .i64 0] [.int .i64 (p1), .int .i64 (q1)]) (by simp) rfl; have tc0 := (tq 0 _ rfl).1; have tc1 := (tq 1 _ rfl).1; have tf0 := (tq 0 _ rfl).2; have tf1 := (tq 1 _ rfl).2; clear tq; obtain ⟨n1, tn⟩ : ∃ n, n = blk (β 13) := ⟨_, rfl⟩; dsimp only [PB] at te tlo thi tc0 tc1 tf0 tf1; rw [← tn] at te tlo thi tc0 tc1 tf0 tf1; rw [te]; clear te tn
  obtain ⟨ue, ulo, uhi, uq⟩ := (hI3).box (PB 14 18 [.int .i64 0, .int .i64 0] [.int .i64 (p2), .int .i64 (q2)]) (by simp) rfl; have uc0 := (uq 0 _ rfl).1; have uc1 := (uq 1 _ rfl).1; have uf0 := (uq 0 _ rfl).2; have uf1 := (uq 1 _ rfl).2; clear uq; obtain ⟨n2, un⟩ : ∃ n, n = blk (β 14) := ⟨_, rfl⟩; dsimp only [PB] at ue ulo uhi uc0 uc1 uf0 uf1; rw [← un] at ue ulo uhi uc0 uc1 uf0 uf1; rw [ue]; clear ue un
  obtain ⟨ve, vlo, vhi, vq⟩ := (hI3).box (PB 15 19 [.int .i64 0, .int .i64 0] [.int .i64 (p3), .int .i64 (q3)]) (by simp) rfl; have vc0 := (vq 0 _ rfl).1; have vc1 := (vq 1 _ rfl).1; have vf0 := (vq 0 _ rfl).2; have vf1 := (vq 1 _ rfl).2; clear vq; obtain ⟨n3, vn⟩ : ∃ n, n = blk (β 15) := ⟨_, rfl⟩; dsimp only [PB] at ve vlo vhi vc0 vc1 vf0 vf1; rw [← vn] at ve vlo vhi vc0 vc1 vf0 vf1; rw [ve]; clear ve vn
  have hb3 := hI3.below
  have hs3 := hb3.size
  have hk3 : Below w.heap.size w w3 := (by repeat (first | exact Below.refl _ _ | assumption | refine Below.drew ?_ | refine below_drewN ?_ _ | refine Below.alloc ?_ (by first | omega | (simp; done) | (simp; omega)) _ | refine Below.setCell ?_ (by first | omega | (simp; done) | (simp; omega)) _ | refine Below.trans ?_ (Below.mono (by assumption) (by first | omega | (simp; done) | (simp; omega)))))
  have ja0 : w3.cell? ⟨w.heap.size, 0, none⟩ = some (.int .i64 a) := cell_later hb3 (by (first | assumption | exact cell_alloc (by assumption) _ | (simp [go_sem, *]; done))); have ja1 : w3.cell? ⟨w.heap.size, 1, none⟩ = some (.int .i64 b) := cell_later hb3 (by (first | assumption | exact cell_alloc (by assumption) _ | (simp [go_sem, *]; done)))
  have jb0 : w3.cell? ⟨w.heap.size + 1, 0, none⟩ = some (.int .i64 c) := cell_later hb3 (by (first | assumption | exact cell_alloc (by assumption) _ | (simp [go_sem, *]; done))); have jb1 : w3.cell? ⟨w.heap.size + 1, 1, none⟩ = some (.int .i64 d) := cell_later hb3 (by (first | assumption | exact cell_alloc (by assumption) _ | (simp [go_sem, *]; done)))
  clear hS hnd hI3
  have l3 : w.heap.size < w3.heap.size := by omega
  have l3b : w.heap.size + 1 < w3.heap.size := by omega
  go_wp2_with fail
  obtain ⟨nx, hnx⟩ : ∃ nx, nx = w3.heap.size := ⟨_, rfl⟩
  rw [← hnx]
  have hst : St (((w3.alloc (Obj.cells #[.int .i64 a, .int .i64 b] 3)).alloc (Obj.cells #[.int .i64 c, .int .i64 d] 3)).alloc (Obj.cells #[.bool false, .bool false, .bool false, .bool false, .bool false, .bool false, .bool false, .bool false] 38)) n0 n1 n2 n3 nx (nx + 1) (nx + 1 + 1) a b c d p0 q0 p1 q1 p2 q2 p3 q3 (G (fun m => T (X a b (m / 2)) (X c d (m % 2)) p0 q0 p1 q1 p2 q2 p3 q3) (2 * 0)) := by
    subst hnx
    refine ⟨⟨cell_alloc (cell_alloc (cell_alloc sc0 _) _) _, cell_alloc (cell_alloc (cell_alloc sc1 _) _) _⟩, ⟨cell_alloc (cell_alloc (cell_alloc tc0 _) _) _, cell_alloc (cell_alloc (cell_alloc tc1 _) _) _⟩, ⟨cell_alloc (cell_alloc (cell_alloc uc0 _) _) _, cell_alloc (cell_alloc (cell_alloc uc1 _) _) _⟩, ⟨cell_alloc (cell_alloc (cell_alloc vc0 _) _) _, cell_alloc (cell_alloc (cell_alloc vc1 _) _) _⟩, ?_, ?_, ?_, by omega⟩
    · exact lt2' (by simp [go_sem, X]) (by simp [go_sem, X])
    · exact lt2' (by simp [go_sem, X]) (by simp [go_sem, X])
    · refine lt8 ?_ ?_ ?_ ?_ ?_ ?_ ?_ ?_ <;> exact ⟨by simp [go_sem, G], by simp [go_sem]⟩
  have hk4 : Below w.heap.size w (((w3.alloc (Obj.cells #[.int .i64 a, .int .i64 b] 3)).alloc (Obj.cells #[.int .i64 c, .int .i64 d] 3)).alloc (Obj.cells #[.bool false, .bool false, .bool false, .bool false, .bool false, .bool false, .bool false, .bool false] 38)) := (by repeat (first | exact Below.refl _ _ | assumption | refine Below.drew ?_ | refine below_drewN ?_ _ | refine Below.alloc ?_ (by first | omega | (simp; done) | (simp; omega)) _ | refine Below.setCell ?_ (by first | omega | (simp; done) | (simp; omega)) _ | refine Below.trans ?_ (Below.mono (by assumption) (by first | omega | (simp; done) | (simp; omega)))))
  have hnf : w.heap.size ≤ nx := by omega
  clear hnx sc0 sc1 tc0 tc1 uc0 uc1 vc0 vc1 sf0 sf1 tf0 tf1 uf0 uf1 vf0 vf1 slo shi tlo thi ulo uhi vlo vhi
  go_loopg [13] 3 (fun k v13 wr => ∃ i : Nat, i ≤ 2 ∧ k + i = 3 ∧ v13 = .int .i64 i ∧ Below w.heap.size w wr ∧ St wr n0 n1 n2 n3 nx (nx + 1) (nx + 1 + 1) a b c d p0 q0 p1 q1 p2 q2 p3 q3 (G (fun m => T (X a b (m / 2)) (X c d (m % 2)) p0 q0 p1 q1 p2 q2 p3 q3) (2 * i)))
  case atStart => exact ⟨0, by omega, by omega, rfl, hk4, hst⟩
  case round =>
    clear hst hk4
    obtain ⟨i, hi, hki, rfl, hwr, hst⟩ := hrel
    obtain ⟨wo, rfl⟩ : ∃ wo : World, wo = wr := ⟨_, rfl⟩
    have HST := Lib.hid hst
    clear hst
    by_cases hlt : i < 2
    · have z1 : (i : Int) < 2 := by omega
      go_wp2_with fail
      go_loopg [14] 3 (fun k' v14 wq => ∃ k : Nat, k ≤ 2 ∧ k' + k = 3 ∧ v14 = .int .i64 k ∧ Below w.heap.size w wq ∧ St wq n0 n1 n2 n3 nx (nx + 1) (nx + 1 + 1) a b c d p0 q0 p1 q1 p2 q2 p3 q3 (G (fun m => T (X a b (m / 2)) (X c d (m % 2)) p0 q0 p1 q1 p2 q2 p3 q3) (2 * i + k)))
      case atStart => exact ⟨0, by omega, by omega, rfl, hwr, HST.out⟩
      case round =>
        clear HST hwr
        obtain ⟨k, hk, hkk, rfl, hwq, hst⟩ := hrel
        by_cases hlt2 : k < 2
        · have z2 : (k : Int) < 2 := by omega
          have z3 : (0 : Int) ≤ (k : Int) := by omega
          have z4 : (0 : Int) ≤ (i : Int) := by omega
          have hx := hst.x i hlt
          have hy := hst.y k hlt2
          obtain ⟨bx1, bx2⟩ := X_bd (i := i) i1 i2 i3
          obtain ⟨by1, by2⟩ := X_bd (i := k) i4 i5 i6
          obtain ⟨xi, hxi⟩ : ∃ xi, X a b i = xi := ⟨_, rfl⟩
          obtain ⟨yk, hyk⟩ : ∃ yk, X c d k = yk := ⟨_, rfl⟩
          rw [hxi] at hx bx1 bx2
          rw [hyk] at hy by1 by2
          have HX := Lib.hid hxi
          have HY := Lib.hid hyk
          have HST := Lib.hid hst
          clear hxi hyk hst
          have g1 : IntKind.i64.wrap (xi + yk) = xi + yk := IntWalk.i64_in _ (by omega)
          have g2 : IntKind.i64.wrap (xi - yk) = xi - yk := IntWalk.i64_in _ (by omega)
          go_wp2_with fail
          have hS : ∀ wx : World, Below wr.heap.size wr wx → (wx.cell? ⟨nx, i, none⟩ = some (.int .i64 xi) ∧ wx.cell? ⟨nx + 1, k, none⟩ = some (.int .i64 yk)) := by (intro wx hbx; (repeat' apply And.intro) <;> exact cell_later hbx (by (first | assumption | exact cell_alloc (by assumption) _ | (simp [go_sem, *]; done))))
          refine wp_flow_s [] [] (by kernel_rfl) (by kernel_rfl) (by kernel_rfl) ?_
          repeat (first | ((with_reducible refine Flow.pure hS StayG.nil (v := ?_) ?_ ?_ ?_ ?_); rotate_left 1; (focus kernel_rfl); (focus (intro _; rfl)); (focus (intro β wx hSw; (try dsimp only at hSw); go_simp; (try with_reducible rfl); done)); (try simp only [Act.put, List.setIfInBounds_toArray, List.set_cons_zero, List.set_cons_succ, Nat.reduceAdd])) | ((with_reducible refine Flow.call hS StayG.nil (v := ?_) ?_ ?_ ?_ ?_); rotate_left 1; (focus kernel_rfl); (focus (intro _; rfl)); (focus (intro β L wx hI hat hSw K' hK; (try dsimp only at hSw); go_simp; go_at_call 22; refine Calls.mono (rsat_any _ _) ?_; rintro e w' ⟨rfl, rfl⟩; exact hK.out _ (Below.refl _ _))); (try simp only [Act.put, List.setIfInBounds_toArray, List.set_cons_zero, List.set_cons_succ, Nat.reduceAdd])) | ((with_reducible refine Flow.call hS StayG.nil (v := ?_) ?_ ?_ ?_ ?_); rotate_left 1; (focus kernel_rfl); (focus (intro _; rfl)); (focus (intro β L wx hI hat hSw K' hK; (try dsimp only at hSw); go_simp; go_at_call 23; refine Calls.mono (rtimes_any _ _ _ (by omega) (by omega) (by omega) (by omega)) ?_; rintro e w' ⟨rfl, rfl⟩; exact hK.out _ (Below.refl _ _))); (try simp only [Act.put, List.setIfInBounds_toArray, List.set_cons_zero, List.set_cons_succ, Nat.reduceAdd])))
          ((with_reducible refine Flow.stop ?_); dsimp only; intro β4 w4 hI4)
          have hw4 : Below w.heap.size w w4 := by
            have hb4 := hI4.below
            have hs4 := hb4.size
            exact hwq.trans (hb4.mono hwq.size)
          have hst := HST.out.later hI4.below
          obtain ⟨F, hF⟩ : ∃ F, F = (G (fun m => T (X a b (m / 2)) (X c d (m % 2)) p0 q0 p1 q1 p2 q2 p3 q3) (2 * i + k)) := ⟨_, rfl⟩
          obtain ⟨t, ht⟩ : ∃ t, t = T xi yk p0 q0 p1 q1 p2 q2 p3 q3 := ⟨_, rfl⟩
          rw [← hF] at hst
          rw [← Up_none F t] at hst
          have HF := Lib.hid hF
          have HT := Lib.hid ht
          clear hF ht hS hI4 HST hx hy hwq
          go_upto_region 15 with fail
          go_cut [15] from 64 to 192 (fun v15 wx => v15 = .int .i64 (sat (xi + yk)) ∧ Below w.heap.size w wx ∧ St wx n0 n1 n2 n3 nx (nx + 1) (nx + 1 + 1) a b c d p0 q0 p1 q1 p2 q2 p3 q3 (Up F t (0 + 1)))
          case first => as_aux_lemma =>
            have hf := (hst.f 0 (by decide)).1
            have hz := (hst.f 0 (by decide)).2
            rw [Up_at] at hf
            have hr := hst.r0.1
            have HST := Lib.hid hst
            clear hst
            cases hF0 : F 0
            all_goals
              rw [hF0] at hf
              have HF0 := Lib.hid hF0
              clear hF0
              go_wp2_with fail
              go_meet
              exact ⟨rfl, hw4.setCell (by show w.heap.size ≤ nx + 1 + 1; omega) _, HST.out.part (by decide) _ (by rw [HF0.out, HT.out]; rfl)⟩
          case rest => as_aux_lemma =>
          clear hw4 hst
          obtain ⟨rfl, hw5, hst5⟩ := hcut
          obtain ⟨w5, rfl⟩ : ∃ x : World, x = wc := ⟨_, rfl⟩
          go_upto_region 16 with fail
          go_cut [15] from 64 to 192 (fun v15 wx => v15 = .int .i64 (sat (xi + yk)) ∧ Below w.heap.size w wx ∧ St wx n0 n1 n2 n3 nx (nx + 1) (nx + 1 + 1) a b c d p0 q0 p1 q1 p2 q2 p3 q3 (Up F t (1 + 1)))
          case first => as_aux_lemma =>
            have hf := (hst5.f 1 (by decide)).1
            have hz := (hst5.f 1 (by decide)).2
            rw [Up_at] at hf
            have hr := hst5.r0.2
            have HST := Lib.hid hst5
            clear hst5
            cases hF0 : F 1
            all_goals
              rw [hF0] at hf
              have HF0 := Lib.hid hF0
              clear hF0
              go_wp2_with fail
              go_meet
              exact ⟨rfl, hw5.setCell (by show w.heap.size ≤ nx + 1 + 1; omega) _, HST.out.part (by decide) _ (by rw [HF0.out, HT.out]; rfl)⟩
          case rest => as_aux_lemma =>
          clear hw5 hst5
          obtain ⟨rfl, hw6, hst6⟩ := hcut
          obtain ⟨w6, rfl⟩ : ∃ x : World, x = wc := ⟨_, rfl⟩
          go_upto_region 17 with fail
          go_cut [15] from 64 to 192 (fun v15 wx => v15 = .int .i64 (sat (xi + yk)) ∧ Below w.heap.size w wx ∧ St wx n0 n1 n2 n3 nx (nx + 1) (nx + 1 + 1) a b c d p0 q0 p1 q1 p2 q2 p3 q3 (Up F t (2 + 1)))
          case first => as_aux_lemma =>
            have hf := (hst6.f 2 (by decide)).1
            have hz := (hst6.f 2 (by decide)).2
            rw [Up_at] at hf
            have hr := hst6.r1.1
            have HST := Lib.hid hst6
            clear hst6
            cases hF0 : F 2
            all_goals
              rw [hF0] at hf
              have HF0 := Lib.hid hF0
              clear hF0
              go_wp2_with fail
              go_meet
              exact ⟨rfl, hw6.setCell (by show w.heap.size ≤ nx + 1 + 1; omega) _, HST.out.part (by decide) _ (by rw [HF0.out, HT.out]; rfl)⟩
          case rest => as_aux_lemma =>
          clear hw6 hst6
          obtain ⟨rfl, hw7, hst7⟩ := hcut
          obtain ⟨w7, rfl⟩ : ∃ x : World, x = wc := ⟨_, rfl⟩
          go_upto_region 18 with fail
          go_cut [15] from 64 to 192 (fun v15 wx => v15 = .int .i64 (sat (xi + yk)) ∧ Below w.heap.size w wx ∧ St wx n0 n1 n2 n3 nx (nx + 1) (nx + 1 + 1) a b c d p0 q0 p1 q1 p2 q2 p3 q3 (Up F t (3 + 1)))
          case first => as_aux_lemma =>
            have hf := (hst7.f 3 (by decide)).1
            have hz := (hst7.f 3 (by decide)).2
            rw [Up_at] at hf
            have hr := hst7.r1.2
            have HST := Lib.hid hst7
            clear hst7
            cases hF0 : F 3
            all_goals
              rw [hF0] at hf
              have HF0 := Lib.hid hF0
              clear hF0
              go_wp2_with fail
              go_meet
              exact ⟨rfl, hw7.setCell (by show w.heap.size ≤ nx + 1 + 1; omega) _, HST.out.part (by decide) _ (by rw [HF0.out, HT.out]; rfl)⟩
          case rest => as_aux_lemma =>
          clear hw7 hst7
          obtain ⟨rfl, hw8, hst8⟩ := hcut
          obtain ⟨w8, rfl⟩ : ∃ x : World, x = wc := ⟨_, rfl⟩
          go_upto_region 19 with fail
          go_cut [15] from 64 to 192 (fun v15 wx => v15 = .int .i64 (sat (xi + yk)) ∧ Below w.heap.size w wx ∧ St wx n0 n1 n2 n3 nx (nx + 1) (nx + 1 + 1) a b c d p0 q0 p1 q1 p2 q2 p3 q3 (Up F t (4 + 1)))
          case first => as_aux_lemma =>
            have hf := (hst8.f 4 (by decide)).1
            have hz := (hst8.f 4 (by decide)).2
            rw [Up_at] at hf
            have hr := hst8.r2.1
            have HST := Lib.hid hst8
            clear hst8
            cases hF0 : F 4
            all_goals
              rw [hF0] at hf
              have HF0 := Lib.hid hF0
              clear hF0
              go_wp2_with fail
              go_meet
              exact ⟨rfl, hw8.setCell (by show w.heap.size ≤ nx + 1 + 1; omega) _, HST.out.part (by decide) _ (by rw [HF0.out, HT.out]; rfl)⟩
          case rest => as_aux_lemma =>
          clear hw8 hst8
          obtain ⟨rfl, hw9, hst9⟩ := hcut
          obtain ⟨w9, rfl⟩ : ∃ x : World, x = wc := ⟨_, rfl⟩
          go_upto_region 20 with fail
          go_cut [15] from 64 to 192 (fun v15 wx => v15 = .int .i64 (sat (xi + yk)) ∧ Below w.heap.size w wx ∧ St wx n0 n1 n2 n3 nx (nx + 1) (nx + 1 + 1) a b c d p0 q0 p1 q1 p2 q2 p3 q3 (Up F t (5 + 1)))
          case first => as_aux_lemma =>
            have hf := (hst9.f 5 (by decide)).1
            have hz := (hst9.f 5 (by decide)).2
            rw [Up_at] at hf
            have hr := hst9.r2.2
            have HST := Lib.hid hst9
            clear hst9
            cases hF0 : F 5
            all_goals
              rw [hF0] at hf
              have HF0 := Lib.hid hF0
              clear hF0
              go_wp2_with fail
              go_meet
              exact ⟨rfl, hw9.setCell (by show w.heap.size ≤ nx + 1 + 1; omega) _, HST.out.part (by decide) _ (by rw [HF0.out, HT.out]; rfl)⟩
          case rest => as_aux_lemma =>
          clear hw9 hst9
          obtain ⟨rfl, hw10, hst10⟩ := hcut
          obtain ⟨w10, rfl⟩ : ∃ x : World, x = wc := ⟨_, rfl⟩
          go_upto_region 21 with fail
          go_cut [15] from 64 to 192 (fun v15 wx => v15 = .int .i64 (sat (xi + yk)) ∧ Below w.heap.size w wx ∧ St wx n0 n1 n2 n3 nx (nx + 1) (nx + 1 + 1) a b c d p0 q0 p1 q1 p2 q2 p3 q3 (Up F t (6 + 1)))
          case first => as_aux_lemma =>
            have hf := (hst10.f 6 (by decide)).1
            have hz := (hst10.f 6 (by decide)).2
            rw [Up_at] at hf
            have hr := hst10.r3.1
            have hx := hst10.x i hlt
            have hy := hst10.y k hlt2
            rw [HX.out] at hx
            rw [HY.out] at hy
            have HST := Lib.hid hst10
            clear hst10
            cases hF0 : F 6
            · rw [hF0] at hf
              have HF0 := Lib.hid hF0
              clear hF0
              cases hE : (p3 == xi)
              · cases hE2 : (p3 == yk)
                · go_region
                  (go_wp2_with fail; go_meet; exact ⟨rfl, hw10.drew.setCell (by show w.heap.size ≤ nx + 1 + 1; omega) _, HST.out.drew.part (by decide) _ (by rw [HF0.out, HT.out]; first | rfl | (show _ = (_ || (_ || _)); simp [*]))⟩)
                · go_region
                  (go_wp2_with fail; go_meet; exact ⟨rfl, hw10.drew.setCell (by show w.heap.size ≤ nx + 1 + 1; omega) _, HST.out.drew.part (by decide) _ (by rw [HF0.out, HT.out]; first | rfl | (show _ = (_ || (_ || _)); simp [*]))⟩)
              · go_region
                (go_wp2_with fail; go_meet; exact ⟨rfl, hw10.drew.setCell (by show w.heap.size ≤ nx + 1 + 1; omega) _, HST.out.drew.part (by decide) _ (by rw [HF0.out, HT.out]; first | rfl | (show _ = (_ || (_ || _)); simp [*]))⟩)
            · rw [hF0] at hf
              have HF0 := Lib.hid hF0
              clear hF0
              go_region
              (go_wp2_with fail; go_meet; exact ⟨rfl, hw10.drew.setCell (by show w.heap.size ≤ nx + 1 + 1; omega) _, HST.out.drew.part (by decide) _ (by rw [HF0.out, HT.out]; first | rfl | (show _ = (_ || (_ || _)); simp [*]))⟩)
          case rest => as_aux_lemma =>
          clear hw10 hst10
          obtain ⟨rfl, hw11, hst11⟩ := hcut
          obtain ⟨w11, rfl⟩ : ∃ x : World, x = wc := ⟨_, rfl⟩
          have hf := (hst11.f 7 (by decide)).1
          have hz := (hst11.f 7 (by decide)).2
          rw [Up_at] at hf
          have hr := hst11.r3.2
          have hx := hst11.x i hlt
          have hy := hst11.y k hlt2
          rw [HX.out] at hx
          rw [HY.out] at hy
          have HST := Lib.hid hst11
          clear hst11
          go_upto_region 22 with fail
          cases hF0 : F 7
          · rw [hF0] at hf
            have HF0 := Lib.hid hF0
            clear hF0
            cases hE : (q3 == xi)
            · cases hE2 : (q3 == yk)
              · as_aux_lemma =>
                go_region
                (go_wp2_with fail; go_roundg (2 - k); (case measure => omega); (case rel => exact ⟨k + 1, by omega, by omega, by go_num, hw11.drew.setCell (by show w.heap.size ≤ nx + 1 + 1; omega) _, (HST.out.drew.part (by decide) _ (by rw [HF0.out, HT.out]; first | rfl | (show _ = (_ || (_ || _)); simp [*]))).congr (G_round hlt2 HF.out (by rw [HX.out, HY.out]; exact HT.out))⟩))
              · as_aux_lemma =>
                go_region
                (go_wp2_with fail; go_roundg (2 - k); (case measure => omega); (case rel => exact ⟨k + 1, by omega, by omega, by go_num, hw11.drew.setCell (by show w.heap.size ≤ nx + 1 + 1; omega) _, (HST.out.drew.part (by decide) _ (by rw [HF0.out, HT.out]; first | rfl | (show _ = (_ || (_ || _)); simp [*]))).congr (G_round hlt2 HF.out (by rw [HX.out, HY.out]; exact HT.out))⟩))
            · as_aux_lemma =>
              go_region
              (go_wp2_with fail; go_roundg (2 - k); (case measure => omega); (case rel => exact ⟨k + 1, by omega, by omega, by go_num, hw11.drew.setCell (by show w.heap.size ≤ nx + 1 + 1; omega) _, (HST.out.drew.part (by decide) _ (by rw [HF0.out, HT.out]; first | rfl | (show _ = (_ || (_ || _)); simp [*]))).congr (G_round hlt2 HF.out (by rw [HX.out, HY.out]; exact HT.out))⟩))
          · rw [hF0] at hf
            have HF0 := Lib.hid hF0
            clear hF0
            as_aux_lemma =>
            go_region
            (go_wp2_with fail; go_roundg (2 - k); (case measure => omega); (case rel => exact ⟨k + 1, by omega, by omega, by go_num, hw11.drew.setCell (by show w.heap.size ≤ nx + 1 + 1; omega) _, (HST.out.drew.part (by decide) _ (by rw [HF0.out, HT.out]; first | rfl | (show _ = (_ || (_ || _)); simp [*]))).congr (G_round hlt2 HF.out (by rw [HX.out, HY.out]; exact HT.out))⟩))
        · obtain rfl : k = 2 := by omega
          go_wp2_with fail
          go_roundg (2 - i)
          case measure => omega
          case rel => exact ⟨i + 1, by omega, by omega, by go_num, hwq, by rw [show 2 * (i + 1) = 2 * i + 2 by omega]; exact hst⟩
    · obtain rfl : i = 2 := by omega
      have hst := HST.out.congr HALL.out
      have k0 := hst.f 0 (by decide)
      have k1 := hst.f 1 (by decide)
      have k2 := hst.f 2 (by decide)
      have k3 := hst.f 3 (by decide)
      have k4 := hst.f 4 (by decide)
      have k5 := hst.f 5 (by decide)
      have k6 := hst.f 6 (by decide)
      have k7 := hst.f 7 (by decide)
      have heq : ∀ wx : World, Sem.run Try.prog (Op.equalIn 10000 38 (.agg #[.bool true, .bool true, .bool true, .bool true, .bool true, .bool true, .bool true, .bool true]) (.agg #[.bool true, .bool true, .bool true, .bool true, .bool true, .bool true, .bool true, .bool true])) wx = .ok true wx := fun _ => by kernel_rfl
      go_wp2_with fail
      go_ret
      exact retB rfl hwr
theorem walk (a b c d : Int) (w : World) : Calls Try.prog 6 #[.agg #[.int .i64 a, .int .i64 b], .agg #[.int .i64 c, .int .i64 d]] w (RetB (.bool true) w) := by
  cases h : vld a b
  · exact no a b c d w (.inl h)
  · cases h' : vld c d
    · exact no a b c d w (.inr ⟨h, h'⟩)
    · exact yes a b c d _ _ _ _ _ _ _ _ w h h' rfl rfl rfl rfl rfl rfl rfl rfl
end IntervalBounds
namespace IntervalBounds
set_option maxRecDepth 100000 in
theorem entry (H : Type) (enc : TypeId × Value → H) (W : World) (base : Nat) (args : Array Value) (ds : List (DataW H)) (p : List MemPlace)
    (hval : ∀ (j : Nat) t v, Try.f6.params[j]? = some t → args[j]? = some v → Value.okWide Try.prog W .any base t v)
    (hA : DataW.TrodAll enc Try.prog W 0 (fun _ => true) true Try.f6.params.toList args.toList ds p) :
    Calls Try.prog 6 args W (RetB (.bool true) W) := by
  rw [Try.params6] at hA hval
  obtain ⟨v0, vs0, d0, ds0, p0, q0, hargs, rfl, rfl, h0, r0⟩ := trodAll_cons hA
  obtain ⟨v1, vs1, d1, ds1, p1, q1, rfl, rfl, rfl, h1, r1⟩ := trodAll_cons r0
  obtain ⟨rfl, rfl, rfl⟩ := trodAll_nil r1
  obtain rfl : args = #[v0, v1] := by cases args; simp_all
  obtain ⟨a0, a1, rfl, _, _⟩ := open_interval (hval 0 23 v0 rfl rfl) h0
  obtain ⟨c0, c1, rfl, _, _⟩ := open_interval (hval 1 23 v1 rfl rfl) h1
  exact walk a0 a1 c0 c1 W
end IntervalBounds
/-! The step from the walk to the row of IntervalBounds. -/
namespace IntervalBounds
set_option maxRecDepth 100000 in
theorem lifted (os : Os) (started : os.Started) (H : Type) (enc : TypeId × Value → H) :
    ReturnsInHanded {} Try.checked os 6 .any (Rows.intervalBoundsSpec.pre6 enc Try.prog Try.f6 Rows.intervalBoundsRow.domain false) (Rows.intervalBoundsSpec.post enc Try.prog Try.f6 false true false false) := by
  refine returnsInHanded_of_change (C := Try.checked) own started (by kernel_rfl) Try.func6
    (ChangeSpec.witness6 (enc := enc) (C := Try.checked) false ⟨#[], #[.agg #[.int .i64 0, .int .i64 0], .agg #[.int .i64 0, .int .i64 0]], []⟩ 8 (by kernel_rfl) (by kernel_rfl) (by kernel_rfl) (by kernel_rfl)) ?_
  intro W base args ds gs before hval0 hW hcnd _
  have hval : ∀ (j : Nat) t v, Try.f6.params[j]? = some t → args[j]? = some v → Value.okWide Try.prog W .any base t v := hval0
  have hW' := hW
  obtain ⟨p, q, hA0, hV, rfl, hfz, hnd⟩ := hW
  have hA : DataW.TrodAll enc Try.prog W 0 (fun _ => true) true Try.f6.params.toList args.toList ds p := hA0
  obtain ⟨rfl, rfl⟩ := trodVars_none hV
  have hlen := trodAll_len _ _ _ _ hA
  obtain ⟨d0, d1, rfl⟩ : ∃ d0 d1, ds = [d0, d1] := by
    rw [Try.params6] at hlen
    exact list2 hlen
  refine (entry H enc W base args [d0, d1] p hval hA).mono fun e W' ⟨he, bel⟩ => ?_
  subst he
  exact ⟨_, rfl, _, _, _, [], _, [], hW', trodAll_mk1 (shut_bool Try.underlying4 _), readback laidOut _ _ _ _ (by rw [Try.params6]; exact of_decide_eq_true (by kernel_rfl)) hA bel, rfl, bel.frame _, fun h => by cases h⟩

theorem over : Rows.intervalBoundsRow.holds Try.pinned (OpenSpec.ofChange Rows.intervalBoundsSpec) :=
  OpenClaim.holds_of_wide 6 Try.f6 rfl rfl rfl rfl rfl rfl rfl ⟨rfl, rfl, rfl, rfl, rfl⟩ rfl rfl rfl rfl rfl (by kernel_rfl) Try.func6 (by kernel_rfl)
    (of_decide_eq_true (by kernel_rfl)) (by unfold Func.isWrapper; first | (rw [if_pos (by decide +kernel)]; kernel_rfl) | (rw [if_neg (by decide +kernel)]; exact ⟨rfl, rfl⟩))
    (fun os started H enc _ => lifted os started H enc)

/-- THE STATEMENT -/
theorem proved : Rows.IntervalBoundsSaid := over
end IntervalBounds
#print axioms IntervalBounds.proved
end Go.Proofs.Ytegpdggadjjmkaa
