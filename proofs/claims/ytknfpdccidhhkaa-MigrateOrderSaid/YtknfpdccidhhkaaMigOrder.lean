


/- MigrateOrder: a part of a used life becomes a part, and for the greater limit no less: the call of the law returns true, for every input. -/
import Derived.Test.YtknfpdccidhhkaaMigOpen
import Derived.Test.YtknfpdccidhhkaaMigT
import Derived.Test.YtknfpdccidhhkaaMigV
namespace Go.Proofs.Ytknfpdccidhhkaa
open Go.ChangeShapes Go.WideShapes Go.ChangeAt Go.RowKit Go.Joins

namespace MigrateOrder
theorem x_of {f : FuncId} {x : Int × Int × Int} {p q e : Int} {args : Array Value} {w : World} (h : Calls Try.prog f args w (RetX x w)) (hx : x = (p, q, e)) : Calls Try.prog f args w (fun e' w' => e' = .returned (.tuple #[.agg #[.int .i64 p, .int .i64 q], .int .i64 e]) ∧ Below w.heap.size w w') := by
  subst hx
  exact h
theorem part {a b c d n m p q e r s f : Int} (hx : scX a b n m = (p, q, e)) (hy : scX c d n m = (r, s, f)) (h1 : c ≤ a) (h2 : b ≤ d) (hf : f = 0) (hab : a ≤ b) : e = 0 ∧ r ≤ p ∧ q ≤ s := by
  rcases sc_parts c d n m with ⟨e', he, h⟩ | ⟨C, D, N, M, r', s', rfl, rfl, rfl, rfl, h, hs⟩
  · rw [h] at hy
    simp only [Prod.mk.injEq] at hy
    exact absurd (hy.2.2.trans hf) he
  · rw [h] at hy
    simp only [Prod.mk.injEq] at hy
    obtain ⟨hy1, hy2, _⟩ := hy
    obtain ⟨A, rfl⟩ := Int.eq_ofNat_of_zero_le (show 0 ≤ a by omega)
    obtain ⟨B, rfl⟩ := Int.eq_ofNat_of_zero_le (show 0 ≤ b by omega)
    obtain ⟨u, v, hs', i1, i2⟩ := hs.inner (a := A) (b := B) (by omega) (by omega) (by omega)
    rw [sc_make hs'] at hx
    simp only [Prod.mk.injEq] at hx
    obtain ⟨hx1, hx2, hx3⟩ := hx
    omega
theorem more {a b n m m' p q e u v g : Int} (hx : scX a b n m = (p, q, e)) (hz : scX a b n m' = (u, v, g)) (h : m ≤ m') (he : e = 0) (hg : g = 0) : p ≤ u ∧ q ≤ v := by
  rcases sc_parts a b n m with ⟨e', he', h0⟩ | ⟨A, B, N, M, r', s', rfl, rfl, rfl, rfl, h0, hs⟩
  · rw [h0] at hx
    simp only [Prod.mk.injEq] at hx
    exact absurd (hx.2.2.trans he) he'
  · rcases sc_parts A B N m' with ⟨e', he', h1⟩ | ⟨A', B', N', M', u', v', e1, e2, e3, rfl, h1, hs'⟩
    · rw [h1] at hz
      simp only [Prod.mk.injEq] at hz
      exact absurd (hz.2.2.trans hg) he'
    · rw [h0] at hx
      rw [h1] at hz
      simp only [Prod.mk.injEq] at hx hz
      obtain rfl : A = A' := by omega
      obtain rfl : B = B' := by omega
      obtain rfl : N = N' := by omega
      obtain ⟨i1, i2⟩ := hs.more hs' (by omega)
      omega
set_option maxRecDepth 100000 in
set_option maxHeartbeats 4000000 in
theorem no (a b c d n m m' : Int) (h : ¬ (c ≤ a ∧ b ≤ d ∧ m ≤ m')) (w : World) : Calls Try.prog 6 #[.agg #[.int .i64 a, .int .i64 b], .agg #[.int .i64 c, .int .i64 d], .int .i64 n, .int .i64 m, .int .i64 m'] w (RetB (.bool true) w) := by
  have H := Lib.hid h
  clear h
  go_enter Try.func6, Try.ntmps6
  go_wp2_with fail
  refine Calls.mono (head_any _) ?_
  rintro e w1 ⟨rfl, hb1⟩; have hs1 := hb1.size; (try simp at hs1)
  have _c0 : w1.cell? ⟨w.heap.size, 0, none⟩ = some (.int .i64 a) := cell_later hb1 (by first | assumption | (simp [go_sem, *]; done) | exact cell_later' (by assumption) (by repeat (first | exact Below.refl _ _ | assumption | refine Below.drew ?_ | refine below_drewN ?_ _ | refine Below.alloc ?_ (by first | omega | (simp; done) | (simp; omega)) _ | refine Below.setCell ?_ (by first | omega | (simp; done) | (simp; omega)) _ | refine Below.trans ?_ (Below.mono (by assumption) (by first | omega | (simp; done) | (simp; omega)))))); have _f0 : w1.frozen? ⟨w.heap.size, 0, none⟩ = false := (hb1.frozen (p := ⟨w.heap.size, 0, none⟩) (by first | omega | (simp; done) | (simp; omega))).trans (by first | assumption | (simp [go_sem, *]; done) | exact frozen_later' (by assumption) (by first | omega | (simp; done) | (simp; omega)) (by repeat (first | exact Below.refl _ _ | assumption | refine Below.drew ?_ | refine below_drewN ?_ _ | refine Below.alloc ?_ (by first | omega | (simp; done) | (simp; omega)) _ | refine Below.setCell ?_ (by first | omega | (simp; done) | (simp; omega)) _ | refine Below.trans ?_ (Below.mono (by assumption) (by first | omega | (simp; done) | (simp; omega)))))); have _c1 : w1.cell? ⟨w.heap.size, 1, none⟩ = some (.int .i64 b) := cell_later hb1 (by first | assumption | (simp [go_sem, *]; done) | exact cell_later' (by assumption) (by repeat (first | exact Below.refl _ _ | assumption | refine Below.drew ?_ | refine below_drewN ?_ _ | refine Below.alloc ?_ (by first | omega | (simp; done) | (simp; omega)) _ | refine Below.setCell ?_ (by first | omega | (simp; done) | (simp; omega)) _ | refine Below.trans ?_ (Below.mono (by assumption) (by first | omega | (simp; done) | (simp; omega)))))); have _f1 : w1.frozen? ⟨w.heap.size, 1, none⟩ = false := (hb1.frozen (p := ⟨w.heap.size, 1, none⟩) (by first | omega | (simp; done) | (simp; omega))).trans (by first | assumption | (simp [go_sem, *]; done) | exact frozen_later' (by assumption) (by first | omega | (simp; done) | (simp; omega)) (by repeat (first | exact Below.refl _ _ | assumption | refine Below.drew ?_ | refine below_drewN ?_ _ | refine Below.alloc ?_ (by first | omega | (simp; done) | (simp; omega)) _ | refine Below.setCell ?_ (by first | omega | (simp; done) | (simp; omega)) _ | refine Below.trans ?_ (Below.mono (by assumption) (by first | omega | (simp; done) | (simp; omega))))))
  have _c0 : w1.cell? ⟨w.heap.size + 1, 0, none⟩ = some (.int .i64 c) := cell_later hb1 (by first | assumption | (simp [go_sem, *]; done) | exact cell_later' (by assumption) (by repeat (first | exact Below.refl _ _ | assumption | refine Below.drew ?_ | refine below_drewN ?_ _ | refine Below.alloc ?_ (by first | omega | (simp; done) | (simp; omega)) _ | refine Below.setCell ?_ (by first | omega | (simp; done) | (simp; omega)) _ | refine Below.trans ?_ (Below.mono (by assumption) (by first | omega | (simp; done) | (simp; omega)))))); have _f0 : w1.frozen? ⟨w.heap.size + 1, 0, none⟩ = false := (hb1.frozen (p := ⟨w.heap.size + 1, 0, none⟩) (by first | omega | (simp; done) | (simp; omega))).trans (by first | assumption | (simp [go_sem, *]; done) | exact frozen_later' (by assumption) (by first | omega | (simp; done) | (simp; omega)) (by repeat (first | exact Below.refl _ _ | assumption | refine Below.drew ?_ | refine below_drewN ?_ _ | refine Below.alloc ?_ (by first | omega | (simp; done) | (simp; omega)) _ | refine Below.setCell ?_ (by first | omega | (simp; done) | (simp; omega)) _ | refine Below.trans ?_ (Below.mono (by assumption) (by first | omega | (simp; done) | (simp; omega)))))); have _c1 : w1.cell? ⟨w.heap.size + 1, 1, none⟩ = some (.int .i64 d) := cell_later hb1 (by first | assumption | (simp [go_sem, *]; done) | exact cell_later' (by assumption) (by repeat (first | exact Below.refl _ _ | assumption | refine Below.drew ?_ | refine below_drewN ?_ _ | refine Below.alloc ?_ (by first | omega | (simp; done) | (simp; omega)) _ | refine Below.setCell ?_ (by first | omega | (simp; done) | (simp; omega)) _ | refine Below.trans ?_ (Below.mono (by assumption) (by first | omega | (simp; done) | (simp; omega)))))); have _f1 : w1.frozen? ⟨w.heap.size + 1, 1, none⟩ = false := (hb1.frozen (p := ⟨w.heap.size + 1, 1, none⟩) (by first | omega | (simp; done) | (simp; omega))).trans (by first | assumption | (simp [go_sem, *]; done) | exact frozen_later' (by assumption) (by first | omega | (simp; done) | (simp; omega)) (by repeat (first | exact Below.refl _ _ | assumption | refine Below.drew ?_ | refine below_drewN ?_ _ | refine Below.alloc ?_ (by first | omega | (simp; done) | (simp; omega)) _ | refine Below.setCell ?_ (by first | omega | (simp; done) | (simp; omega)) _ | refine Below.trans ?_ (Below.mono (by assumption) (by first | omega | (simp; done) | (simp; omega))))))
  go_wp2_with fail
  all_goals
    first
    | (go_ret; exact retB rfl (by repeat (first | exact Below.refl _ _ | assumption | refine Below.drew ?_ | refine below_drewN ?_ _ | refine Below.alloc ?_ (by first | omega | (simp; done) | (simp; omega)) _ | refine Below.setCell ?_ (by first | omega | (simp; done) | (simp; omega)) _ | refine Below.trans ?_ (Below.mono (by assumption) (by first | omega | (simp; done) | (simp; omega))))))
    | (exfalso; have h := H.out; omega)
set_option maxRecDepth 100000 in
set_option maxHeartbeats 8000000 in
theorem yes (a b c d n m m' p q e r s f u v g : Int) (h1 : c ≤ a) (h2 : b ≤ d) (h3 : m ≤ m') (x1 : scX a b n m = (p, q, e)) (x2 : scX c d n m = (r, s, f)) (x3 : scX a b n m' = (u, v, g)) (w : World) : Calls Try.prog 6 #[.agg #[.int .i64 a, .int .i64 b], .agg #[.int .i64 c, .int .i64 d], .int .i64 n, .int .i64 m, .int .i64 m'] w (RetB (.bool true) w) := by
  have F1 := Lib.hid (part x1 x2 h1 h2)
  have F2 := Lib.hid (more x1 x3 h3)
  have H1 := Lib.hid x1
  have H2 := Lib.hid x2
  have H3 := Lib.hid x3
  clear x1 x2 x3
  go_enter Try.func6, Try.ntmps6
  go_wp2_with fail
  refine Calls.mono (head_any _) ?_
  rintro e w1 ⟨rfl, hb1⟩; have hs1 := hb1.size; (try simp at hs1)
  have _c0 : w1.cell? ⟨w.heap.size, 0, none⟩ = some (.int .i64 a) := cell_later hb1 (by first | assumption | (simp [go_sem, *]; done) | exact cell_later' (by assumption) (by repeat (first | exact Below.refl _ _ | assumption | refine Below.drew ?_ | refine below_drewN ?_ _ | refine Below.alloc ?_ (by first | omega | (simp; done) | (simp; omega)) _ | refine Below.setCell ?_ (by first | omega | (simp; done) | (simp; omega)) _ | refine Below.trans ?_ (Below.mono (by assumption) (by first | omega | (simp; done) | (simp; omega)))))); have _f0 : w1.frozen? ⟨w.heap.size, 0, none⟩ = false := (hb1.frozen (p := ⟨w.heap.size, 0, none⟩) (by first | omega | (simp; done) | (simp; omega))).trans (by first | assumption | (simp [go_sem, *]; done) | exact frozen_later' (by assumption) (by first | omega | (simp; done) | (simp; omega)) (by repeat (first | exact Below.refl _ _ | assumption | refine Below.drew ?_ | refine below_drewN ?_ _ | refine Below.alloc ?_ (by first | omega | (simp; done) | (simp; omega)) _ | refine Below.setCell ?_ (by first | omega | (simp; done) | (simp; omega)) _ | refine Below.trans ?_ (Below.mono (by assumption) (by first | omega | (simp; done) | (simp; omega)))))); have _c1 : w1.cell? ⟨w.heap.size, 1, none⟩ = some (.int .i64 b) := cell_later hb1 (by first | assumption | (simp [go_sem, *]; done) | exact cell_later' (by assumption) (by repeat (first | exact Below.refl _ _ | assumption | refine Below.drew ?_ | refine below_drewN ?_ _ | refine Below.alloc ?_ (by first | omega | (simp; done) | (simp; omega)) _ | refine Below.setCell ?_ (by first | omega | (simp; done) | (simp; omega)) _ | refine Below.trans ?_ (Below.mono (by assumption) (by first | omega | (simp; done) | (simp; omega)))))); have _f1 : w1.frozen? ⟨w.heap.size, 1, none⟩ = false := (hb1.frozen (p := ⟨w.heap.size, 1, none⟩) (by first | omega | (simp; done) | (simp; omega))).trans (by first | assumption | (simp [go_sem, *]; done) | exact frozen_later' (by assumption) (by first | omega | (simp; done) | (simp; omega)) (by repeat (first | exact Below.refl _ _ | assumption | refine Below.drew ?_ | refine below_drewN ?_ _ | refine Below.alloc ?_ (by first | omega | (simp; done) | (simp; omega)) _ | refine Below.setCell ?_ (by first | omega | (simp; done) | (simp; omega)) _ | refine Below.trans ?_ (Below.mono (by assumption) (by first | omega | (simp; done) | (simp; omega))))))
  have _c0 : w1.cell? ⟨w.heap.size + 1, 0, none⟩ = some (.int .i64 c) := cell_later hb1 (by first | assumption | (simp [go_sem, *]; done) | exact cell_later' (by assumption) (by repeat (first | exact Below.refl _ _ | assumption | refine Below.drew ?_ | refine below_drewN ?_ _ | refine Below.alloc ?_ (by first | omega | (simp; done) | (simp; omega)) _ | refine Below.setCell ?_ (by first | omega | (simp; done) | (simp; omega)) _ | refine Below.trans ?_ (Below.mono (by assumption) (by first | omega | (simp; done) | (simp; omega)))))); have _f0 : w1.frozen? ⟨w.heap.size + 1, 0, none⟩ = false := (hb1.frozen (p := ⟨w.heap.size + 1, 0, none⟩) (by first | omega | (simp; done) | (simp; omega))).trans (by first | assumption | (simp [go_sem, *]; done) | exact frozen_later' (by assumption) (by first | omega | (simp; done) | (simp; omega)) (by repeat (first | exact Below.refl _ _ | assumption | refine Below.drew ?_ | refine below_drewN ?_ _ | refine Below.alloc ?_ (by first | omega | (simp; done) | (simp; omega)) _ | refine Below.setCell ?_ (by first | omega | (simp; done) | (simp; omega)) _ | refine Below.trans ?_ (Below.mono (by assumption) (by first | omega | (simp; done) | (simp; omega)))))); have _c1 : w1.cell? ⟨w.heap.size + 1, 1, none⟩ = some (.int .i64 d) := cell_later hb1 (by first | assumption | (simp [go_sem, *]; done) | exact cell_later' (by assumption) (by repeat (first | exact Below.refl _ _ | assumption | refine Below.drew ?_ | refine below_drewN ?_ _ | refine Below.alloc ?_ (by first | omega | (simp; done) | (simp; omega)) _ | refine Below.setCell ?_ (by first | omega | (simp; done) | (simp; omega)) _ | refine Below.trans ?_ (Below.mono (by assumption) (by first | omega | (simp; done) | (simp; omega)))))); have _f1 : w1.frozen? ⟨w.heap.size + 1, 1, none⟩ = false := (hb1.frozen (p := ⟨w.heap.size + 1, 1, none⟩) (by first | omega | (simp; done) | (simp; omega))).trans (by first | assumption | (simp [go_sem, *]; done) | exact frozen_later' (by assumption) (by first | omega | (simp; done) | (simp; omega)) (by repeat (first | exact Below.refl _ _ | assumption | refine Below.drew ?_ | refine below_drewN ?_ _ | refine Below.alloc ?_ (by first | omega | (simp; done) | (simp; omega)) _ | refine Below.setCell ?_ (by first | omega | (simp; done) | (simp; omega)) _ | refine Below.trans ?_ (Below.mono (by assumption) (by first | omega | (simp; done) | (simp; omega))))))
  go_wp2_with fail
  refine Calls.mono (x_of (scale_any _ _ _ _ _) H1.out) ?_
  rintro e' w2 ⟨rfl, hb2⟩
  have hs2 := hb2.size
  have l2a : w.heap.size < w2.heap.size := by omega
  have l2b : w.heap.size + 1 < w2.heap.size := by omega
  have p20 : w2.cell? ⟨w.heap.size, 0, none⟩ = some (.int .i64 a) := cell_later hb2 (by (first | assumption | exact cell_alloc (by assumption) _ | (simp [go_sem, *]; done))); have p21 : w2.cell? ⟨w.heap.size, 1, none⟩ = some (.int .i64 b) := cell_later hb2 (by (first | assumption | exact cell_alloc (by assumption) _ | (simp [go_sem, *]; done))); have q20 : w2.cell? ⟨w.heap.size + 1, 0, none⟩ = some (.int .i64 c) := cell_later hb2 (by (first | assumption | exact cell_alloc (by assumption) _ | (simp [go_sem, *]; done))); have q21 : w2.cell? ⟨w.heap.size + 1, 1, none⟩ = some (.int .i64 d) := cell_later hb2 (by (first | assumption | exact cell_alloc (by assumption) _ | (simp [go_sem, *]; done)))
  go_wp2_with fail
  refine Calls.mono (x_of (scale_any _ _ _ _ _) H2.out) ?_
  rintro e' w3 ⟨rfl, hb3⟩
  have hs3 := hb3.size
  simp at hs3
  have l3a : w.heap.size < w3.heap.size := by omega
  have l3b : w.heap.size + 1 < w3.heap.size := by omega
  have l3c : w2.heap.size < w3.heap.size := by omega
  have p30 : w3.cell? ⟨w.heap.size, 0, none⟩ = some (.int .i64 a) := cell_later hb3 (by (first | assumption | exact cell_alloc (by assumption) _ | (simp [go_sem, *]; done))); have p31 : w3.cell? ⟨w.heap.size, 1, none⟩ = some (.int .i64 b) := cell_later hb3 (by (first | assumption | exact cell_alloc (by assumption) _ | (simp [go_sem, *]; done))); have q30 : w3.cell? ⟨w.heap.size + 1, 0, none⟩ = some (.int .i64 c) := cell_later hb3 (by (first | assumption | exact cell_alloc (by assumption) _ | (simp [go_sem, *]; done))); have q31 : w3.cell? ⟨w.heap.size + 1, 1, none⟩ = some (.int .i64 d) := cell_later hb3 (by (first | assumption | exact cell_alloc (by assumption) _ | (simp [go_sem, *]; done)))
  have r30 : w3.cell? ⟨w2.heap.size, 0, none⟩ = some (.int .i64 p) := cell_later hb3 (by (first | assumption | exact cell_alloc (by assumption) _ | (simp [go_sem, *]; done))); have r31 : w3.cell? ⟨w2.heap.size, 1, none⟩ = some (.int .i64 q) := cell_later hb3 (by (first | assumption | exact cell_alloc (by assumption) _ | (simp [go_sem, *]; done)))
  go_wp2_with fail
  refine Calls.mono (x_of (scale_any _ _ _ _ _) H3.out) ?_
  rintro e' w4 ⟨rfl, hb4⟩
  have hs4 := hb4.size
  simp at hs4
  have l4a : w.heap.size < w4.heap.size := by omega
  have l4b : w.heap.size + 1 < w4.heap.size := by omega
  have l4c : w2.heap.size < w4.heap.size := by omega
  have l4d : w3.heap.size < w4.heap.size := by omega
  have p40 : w4.cell? ⟨w.heap.size, 0, none⟩ = some (.int .i64 a) := cell_later hb4 (by (first | assumption | exact cell_alloc (by assumption) _ | (simp [go_sem, *]; done))); have p41 : w4.cell? ⟨w.heap.size, 1, none⟩ = some (.int .i64 b) := cell_later hb4 (by (first | assumption | exact cell_alloc (by assumption) _ | (simp [go_sem, *]; done))); have q40 : w4.cell? ⟨w.heap.size + 1, 0, none⟩ = some (.int .i64 c) := cell_later hb4 (by (first | assumption | exact cell_alloc (by assumption) _ | (simp [go_sem, *]; done))); have q41 : w4.cell? ⟨w.heap.size + 1, 1, none⟩ = some (.int .i64 d) := cell_later hb4 (by (first | assumption | exact cell_alloc (by assumption) _ | (simp [go_sem, *]; done)))
  have r40 : w4.cell? ⟨w2.heap.size, 0, none⟩ = some (.int .i64 p) := cell_later hb4 (by (first | assumption | exact cell_alloc (by assumption) _ | (simp [go_sem, *]; done))); have r41 : w4.cell? ⟨w2.heap.size, 1, none⟩ = some (.int .i64 q) := cell_later hb4 (by (first | assumption | exact cell_alloc (by assumption) _ | (simp [go_sem, *]; done)))
  have s40 : w4.cell? ⟨w3.heap.size, 0, none⟩ = some (.int .i64 r) := cell_later hb4 (by (first | assumption | exact cell_alloc (by assumption) _ | (simp [go_sem, *]; done))); have s41 : w4.cell? ⟨w3.heap.size, 1, none⟩ = some (.int .i64 s) := cell_later hb4 (by (first | assumption | exact cell_alloc (by assumption) _ | (simp [go_sem, *]; done)))
  have HB := Lib.hid (And.intro hb1 (And.intro hb2 (And.intro hb3 hb4)))
  clear hb1 hb2 hb3 hb4
  go_wp2_with fail
  all_goals
    first
    | (exfalso; have g1 := F1.out; have g2 := F2.out; omega)
    | (obtain ⟨hb1, hb2, hb3, hb4⟩ := HB.out; have g1 := F1.out; have g2 := F2.out; go_ret; exact retB (vbool (by first | (simp; done) | (simp; omega))) (by repeat (first | exact Below.refl _ _ | assumption | refine Below.drew ?_ | refine below_drewN ?_ _ | refine Below.alloc ?_ (by first | omega | (simp; done) | (simp; omega)) _ | refine Below.setCell ?_ (by first | omega | (simp; done) | (simp; omega)) _ | refine Below.trans ?_ (Below.mono (by assumption) (by first | omega | (simp; done) | (simp; omega))))))
theorem walk (a b : Int) (_ : (Lit.int .i64 a).wf = true) (_ : (Lit.int .i64 b).wf = true) (c d : Int) (_ : (Lit.int .i64 c).wf = true) (_ : (Lit.int .i64 d).wf = true) (n : Int) (_ : -9223372036854775808 ≤ n ∧ n < 9223372036854775808) (m : Int) (_ : -9223372036854775808 ≤ m ∧ m < 9223372036854775808) (m' : Int) (_ : -9223372036854775808 ≤ m' ∧ m' < 9223372036854775808) (w : World) :
    Calls Try.prog 6 #[.agg #[.int .i64 a, .int .i64 b], .agg #[.int .i64 c, .int .i64 d], .int .i64 n, .int .i64 m, .int .i64 m'] w (RetB (.bool true) w) := by
  by_cases h : c ≤ a ∧ b ≤ d ∧ m ≤ m'
  · obtain ⟨⟨p, q, e⟩, x1⟩ : ∃ x, scX a b n m = x := ⟨_, rfl⟩
    obtain ⟨⟨r, s, f⟩, x2⟩ : ∃ x, scX c d n m = x := ⟨_, rfl⟩
    obtain ⟨⟨u, v, g⟩, x3⟩ : ∃ x, scX a b n m' = x := ⟨_, rfl⟩
    exact yes a b c d n m m' p q e r s f u v g h.1 h.2.1 h.2.2 x1 x2 x3 w
  · exact no a b c d n m m' h w
end MigrateOrder
namespace MigrateOrder
set_option maxRecDepth 100000 in
theorem entry (H : Type) (enc : TypeId × Value → H) (W : World) (base : Nat) (args : Array Value) (ds : List (DataW H)) (p : List MemPlace)
    (hval : ∀ (j : Nat) t v, Try.f6.params[j]? = some t → args[j]? = some v → Value.okWide Try.prog W .any base t v)
    (hA : DataW.TrodAll enc Try.prog W 0 (fun _ => true) true Try.f6.params.toList args.toList ds p) :
    Calls Try.prog 6 args W (RetB (.bool true) W) := by
  rw [Try.params6] at hA hval
  obtain ⟨v0, vs0, d0, ds0, p0, q0, hargs, rfl, rfl, h0, r0⟩ := trodAll_cons hA
  obtain ⟨v1, vs1, d1, ds1, p1, q1, rfl, rfl, rfl, h1, r1⟩ := trodAll_cons r0
  obtain ⟨v2, vs2, d2, ds2, p2, q2, rfl, rfl, rfl, h2, r2⟩ := trodAll_cons r1
  obtain ⟨v3, vs3, d3, ds3, p3, q3, rfl, rfl, rfl, h3, r3⟩ := trodAll_cons r2
  obtain ⟨v4, vs4, d4, ds4, p4, q4, rfl, rfl, rfl, h4, r4⟩ := trodAll_cons r3
  obtain ⟨rfl, rfl, rfl⟩ := trodAll_nil r4
  obtain rfl : args = #[v0, v1, v2, v3, v4] := by cases args; simp_all
  obtain ⟨a0, a1, rfl, ax, ay⟩ := open_interval (hval 0 23 v0 rfl rfl) h0
  obtain ⟨c0, c1, rfl, cx, cy⟩ := open_interval (hval 1 23 v1 rfl rfl) h1
  obtain ⟨n, rfl, no⟩ := open_i64 (hval 2 3 v2 rfl rfl) h2
  obtain ⟨m, rfl, mo⟩ := open_i64 (hval 3 3 v3 rfl rfl) h3
  obtain ⟨k, rfl, ko⟩ := open_i64 (hval 4 3 v4 rfl rfl) h4
  exact walk a0 a1 ax ay c0 c1 cx cy n no m mo k ko W
end MigrateOrder
/-! The step from the walk to the row of MigrateOrder. -/
namespace MigrateOrder
set_option maxRecDepth 100000 in
theorem lifted (os : Os) (started : os.Started) (H : Type) (enc : TypeId × Value → H) :
    ReturnsInHanded {} Try.checked os 6 .any (Rows.migrateOrderSpec.pre6 enc Try.prog Try.f6 Rows.migrateOrderRow.domain false) (Rows.migrateOrderSpec.post enc Try.prog Try.f6 false true false false) := by
  refine returnsInHanded_of_change (C := Try.checked) own started (by kernel_rfl) Try.func6
    (ChangeSpec.witness6 (enc := enc) (C := Try.checked) false ⟨#[], #[.agg #[.int .i64 0, .int .i64 0], .agg #[.int .i64 0, .int .i64 0], .int .i64 0, .int .i64 0, .int .i64 0], []⟩ 8 (by kernel_rfl) (by kernel_rfl) (by kernel_rfl) (by kernel_rfl)) ?_
  intro W base args ds gs before hval0 hW hcnd _
  have hval : ∀ (j : Nat) t v, Try.f6.params[j]? = some t → args[j]? = some v → Value.okWide Try.prog W .any base t v := hval0
  have hW' := hW
  obtain ⟨p, q, hA0, hV, rfl, hfz, hnd⟩ := hW
  have hA : DataW.TrodAll enc Try.prog W 0 (fun _ => true) true Try.f6.params.toList args.toList ds p := hA0
  obtain ⟨rfl, rfl⟩ := trodVars_none hV
  have hlen := trodAll_len _ _ _ _ hA
  obtain ⟨d0, d1, d2, d3, d4, rfl⟩ : ∃ d0 d1 d2 d3 d4, ds = [d0, d1, d2, d3, d4] := by
    rw [Try.params6] at hlen
    exact list5 hlen
  refine (entry H enc W base args [d0, d1, d2, d3, d4] p hval hA).mono fun e W' ⟨he, bel⟩ => ?_
  subst he
  exact ⟨_, rfl, _, _, _, [], _, [], hW', trodAll_mk1 (shut_bool Try.underlying4 _), readback laidOut _ _ _ _ (by rw [Try.params6]; exact of_decide_eq_true (by kernel_rfl)) hA bel, rfl, bel.frame _, fun h => by cases h⟩

theorem over : Rows.migrateOrderRow.holds Try.pinned (OpenSpec.ofChange Rows.migrateOrderSpec) :=
  OpenClaim.holds_of_wide 6 Try.f6 rfl rfl rfl rfl rfl rfl rfl ⟨rfl, rfl, rfl, rfl, rfl⟩ rfl rfl rfl rfl rfl (by kernel_rfl) Try.func6 (by kernel_rfl)
    (of_decide_eq_true (by kernel_rfl)) (by unfold Func.isWrapper; first | (rw [if_pos (by decide +kernel)]; kernel_rfl) | (rw [if_neg (by decide +kernel)]; exact ⟨rfl, rfl⟩))
    (fun os started H enc _ => lifted os started H enc)

/-- THE STATEMENT -/
theorem proved : Rows.MigrateOrderSaid := over
end MigrateOrder
#print axioms MigrateOrder.proved
end Go.Proofs.Ytknfpdccidhhkaa
