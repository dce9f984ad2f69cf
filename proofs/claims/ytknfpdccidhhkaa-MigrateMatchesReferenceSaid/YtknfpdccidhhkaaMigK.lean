
/- Contracts: the reference's Chain. -/
import Derived.Test.YtknfpdccidhhkaaMigJ
import Derived.Test.YtknfpdccidhhkaaMigH
import Derived.Deep.RegionHeld3
namespace Go.Proofs.Ytknfpdccidhhkaa
open Go.RowKit Go.Shelf
/-- the two boxes of the reference's Chain: the life, the result -/
def Bx2 (W : World) (B : Nat) (x y p q : Int) : Prop :=
  (W.cell? ⟨B, 0, none⟩ = some (.int .i64 x) ∧ W.cell? ⟨B, 1, none⟩ = some (.int .i64 y) ∧ W.frozen? ⟨B, 0, none⟩ = false ∧ W.frozen? ⟨B, 1, none⟩ = false) ∧
  (W.cell? ⟨B + 1, 0, none⟩ = some (.int .i64 p) ∧ W.cell? ⟨B + 1, 1, none⟩ = some (.int .i64 q) ∧ W.frozen? ⟨B + 1, 0, none⟩ = false ∧ W.frozen? ⟨B + 1, 1, none⟩ = false)
theorem Bx2.later {W W1 : World} {B : Nat} {x y p q : Int} (h : Bx2 W B x y p q) (hb : Below W.heap.size W W1) : Bx2 W1 B x y p q := by
  obtain ⟨⟨c0, c1, f0, f1⟩, c2, c3, f2, f3⟩ := h
  exact ⟨⟨cell_later hb c0, cell_later hb c1, fr_later hb c0 f0, fr_later hb c1 f1⟩, cell_later hb c2, cell_later hb c3, fr_later hb c2 f2, fr_later hb c3 f3⟩
theorem Bx2.life {W : World} {B : Nat} {x y p q : Int} (h : Bx2 W B x y p q) (x' y' : Int) : Bx2 ((W.setCell ⟨B, 0, none⟩ (.int .i64 x')).setCell ⟨B, 1, none⟩ (.int .i64 y')) B x' y' p q := by
  obtain ⟨⟨c0, c1, f0, f1⟩, c2, c3, f2, f3⟩ := h
  unfold Bx2
  simp [go_sem, *]
theorem Bx2.lt {W : World} {B : Nat} {x y p q : Int} (h : Bx2 W B x y p q) : B + 1 < W.heap.size := World.block_lt_of_cell? _ _ h.2.1
set_option maxRecDepth 100000 in
set_option maxHeartbeats 4000000 in
theorem rchain_no1 (a b : Int) (sa : Option Addr) (cap : Nat) (zs : List Int) (h : usd a b = false ∨ usd a b = true ∧ zs.length = 0 ∨ usd a b = true ∧ 1 ≤ zs.length ∧ 60 < zs.length) (w : World) :
    Calls Try.prog 13 #[.agg #[.int .i64 a, .int .i64 b], .slice sa zs.length cap] w (RetX (chX a b zs) w) := by
  have hx : chX a b zs = (0, 0, 1) := chX_no (by
    unfold chOk
    rcases h with h | ⟨h, h'⟩ | ⟨h, _, h'⟩
    · rw [h]; rfl
    · rw [h, decide_eq_false (by omega)]; rfl
    · rw [decide_eq_false (p := zs.length ≤ 60) (by omega)]; simp)
  have HX := Lib.hid hx
  clear hx
  obtain ⟨m, hm⟩ : ∃ m, m = zs.length := ⟨_, rfl⟩
  have HM := Lib.hid hm
  rw [← hm] at h ⊢
  clear hm
  rcases h with h | ⟨h, h'⟩ | ⟨h, h'', h'⟩
  · have HU := Lib.hid h
    clear h
    go_enter Try.func13, Try.ntmps13
    go_wp2_with fail
    refine Calls.mono (rused_any a b _) ?_
    rw [HU.out]
    rintro e w1 ⟨rfl, hb1⟩; have hs1 := hb1.size; (try simp at hs1)
    have _c0 : w1.cell? ⟨w.heap.size, 0, none⟩ = some (.int .i64 a) := cell_later hb1 (by first | assumption | (simp [go_sem, *]; done) | exact cell_later' (by assumption) (by repeat (first | exact Below.refl _ _ | assumption | refine Below.drew ?_ | refine below_drewN ?_ _ | refine Below.alloc ?_ (by first | omega | (simp; done) | (simp; omega)) _ | refine Below.setCell ?_ (by first | omega | (simp; done) | (simp; omega)) _ | refine Below.trans ?_ (Below.mono (by assumption) (by first | omega | (simp; done) | (simp; omega)))))); have _f0 : w1.frozen? ⟨w.heap.size, 0, none⟩ = false := (hb1.frozen (p := ⟨w.heap.size, 0, none⟩) (by first | omega | (simp; done) | (simp; omega))).trans (by first | assumption | (simp [go_sem, *]; done) | exact frozen_later' (by assumption) (by first | omega | (simp; done) | (simp; omega)) (by repeat (first | exact Below.refl _ _ | assumption | refine Below.drew ?_ | refine below_drewN ?_ _ | refine Below.alloc ?_ (by first | omega | (simp; done) | (simp; omega)) _ | refine Below.setCell ?_ (by first | omega | (simp; done) | (simp; omega)) _ | refine Below.trans ?_ (Below.mono (by assumption) (by first | omega | (simp; done) | (simp; omega)))))); have _c1 : w1.cell? ⟨w.heap.size, 1, none⟩ = some (.int .i64 b) := cell_later hb1 (by first | assumption | (simp [go_sem, *]; done) | exact cell_later' (by assumption) (by repeat (first | exact Below.refl _ _ | assumption | refine Below.drew ?_ | refine below_drewN ?_ _ | refine Below.alloc ?_ (by first | omega | (simp; done) | (simp; omega)) _ | refine Below.setCell ?_ (by first | omega | (simp; done) | (simp; omega)) _ | refine Below.trans ?_ (Below.mono (by assumption) (by first | omega | (simp; done) | (simp; omega)))))); have _f1 : w1.frozen? ⟨w.heap.size, 1, none⟩ = false := (hb1.frozen (p := ⟨w.heap.size, 1, none⟩) (by first | omega | (simp; done) | (simp; omega))).trans (by first | assumption | (simp [go_sem, *]; done) | exact frozen_later' (by assumption) (by first | omega | (simp; done) | (simp; omega)) (by repeat (first | exact Below.refl _ _ | assumption | refine Below.drew ?_ | refine below_drewN ?_ _ | refine Below.alloc ?_ (by first | omega | (simp; done) | (simp; omega)) _ | refine Below.setCell ?_ (by first | omega | (simp; done) | (simp; omega)) _ | refine Below.trans ?_ (Below.mono (by assumption) (by first | omega | (simp; done) | (simp; omega)))))); have _c0 : w1.cell? ⟨w.heap.size + 1, 0, none⟩ = some (.int .i64 0) := cell_later hb1 (by first | assumption | (simp [go_sem, *]; done) | exact cell_later' (by assumption) (by repeat (first | exact Below.refl _ _ | assumption | refine Below.drew ?_ | refine below_drewN ?_ _ | refine Below.alloc ?_ (by first | omega | (simp; done) | (simp; omega)) _ | refine Below.setCell ?_ (by first | omega | (simp; done) | (simp; omega)) _ | refine Below.trans ?_ (Below.mono (by assumption) (by first | omega | (simp; done) | (simp; omega)))))); have _f0 : w1.frozen? ⟨w.heap.size + 1, 0, none⟩ = false := (hb1.frozen (p := ⟨w.heap.size + 1, 0, none⟩) (by first | omega | (simp; done) | (simp; omega))).trans (by first | assumption | (simp [go_sem, *]; done) | exact frozen_later' (by assumption) (by first | omega | (simp; done) | (simp; omega)) (by repeat (first | exact Below.refl _ _ | assumption | refine Below.drew ?_ | refine below_drewN ?_ _ | refine Below.alloc ?_ (by first | omega | (simp; done) | (simp; omega)) _ | refine Below.setCell ?_ (by first | omega | (simp; done) | (simp; omega)) _ | refine Below.trans ?_ (Below.mono (by assumption) (by first | omega | (simp; done) | (simp; omega)))))); have _c1 : w1.cell? ⟨w.heap.size + 1, 1, none⟩ = some (.int .i64 0) := cell_later hb1 (by first | assumption | (simp [go_sem, *]; done) | exact cell_later' (by assumption) (by repeat (first | exact Below.refl _ _ | assumption | refine Below.drew ?_ | refine below_drewN ?_ _ | refine Below.alloc ?_ (by first | omega | (simp; done) | (simp; omega)) _ | refine Below.setCell ?_ (by first | omega | (simp; done) | (simp; omega)) _ | refine Below.trans ?_ (Below.mono (by assumption) (by first | omega | (simp; done) | (simp; omega)))))); have _f1 : w1.frozen? ⟨w.heap.size + 1, 1, none⟩ = false := (hb1.frozen (p := ⟨w.heap.size + 1, 1, none⟩) (by first | omega | (simp; done) | (simp; omega))).trans (by first | assumption | (simp [go_sem, *]; done) | exact frozen_later' (by assumption) (by first | omega | (simp; done) | (simp; omega)) (by repeat (first | exact Below.refl _ _ | assumption | refine Below.drew ?_ | refine below_drewN ?_ _ | refine Below.alloc ?_ (by first | omega | (simp; done) | (simp; omega)) _ | refine Below.setCell ?_ (by first | omega | (simp; done) | (simp; omega)) _ | refine Below.trans ?_ (Below.mono (by assumption) (by first | omega | (simp; done) | (simp; omega))))))
    go_wp2_with fail
    (exact bodyPost_ret (v := .tuple #[.agg #[.int .i64 0, .int .i64 0], .int .i64 1]) (by simp [results, go_sem, *]) rfl ⟨by rw [HX.out], (by repeat (first | exact Below.refl _ _ | assumption | refine Below.drew ?_ | refine below_drewN ?_ _ | refine Below.alloc ?_ (by first | omega | (simp; done) | (simp; omega)) _ | refine Below.setCell ?_ (by first | omega | (simp; done) | (simp; omega)) _ | refine Below.trans ?_ (Below.mono (by assumption) (by first | omega | (simp; done) | (simp; omega)))))⟩)
  · have HU := Lib.hid h
    have d1 : decide ((m : Int) < 1) = true := by simp; omega
    clear h h'
    go_enter Try.func13, Try.ntmps13
    go_wp2_with fail
    refine Calls.mono (rused_any a b _) ?_
    rw [HU.out]
    rintro e w1 ⟨rfl, hb1⟩; have hs1 := hb1.size; (try simp at hs1)
    have _c0 : w1.cell? ⟨w.heap.size, 0, none⟩ = some (.int .i64 a) := cell_later hb1 (by first | assumption | (simp [go_sem, *]; done) | exact cell_later' (by assumption) (by repeat (first | exact Below.refl _ _ | assumption | refine Below.drew ?_ | refine below_drewN ?_ _ | refine Below.alloc ?_ (by first | omega | (simp; done) | (simp; omega)) _ | refine Below.setCell ?_ (by first | omega | (simp; done) | (simp; omega)) _ | refine Below.trans ?_ (Below.mono (by assumption) (by first | omega | (simp; done) | (simp; omega)))))); have _f0 : w1.frozen? ⟨w.heap.size, 0, none⟩ = false := (hb1.frozen (p := ⟨w.heap.size, 0, none⟩) (by first | omega | (simp; done) | (simp; omega))).trans (by first | assumption | (simp [go_sem, *]; done) | exact frozen_later' (by assumption) (by first | omega | (simp; done) | (simp; omega)) (by repeat (first | exact Below.refl _ _ | assumption | refine Below.drew ?_ | refine below_drewN ?_ _ | refine Below.alloc ?_ (by first | omega | (simp; done) | (simp; omega)) _ | refine Below.setCell ?_ (by first | omega | (simp; done) | (simp; omega)) _ | refine Below.trans ?_ (Below.mono (by assumption) (by first | omega | (simp; done) | (simp; omega)))))); have _c1 : w1.cell? ⟨w.heap.size, 1, none⟩ = some (.int .i64 b) := cell_later hb1 (by first | assumption | (simp [go_sem, *]; done) | exact cell_later' (by assumption) (by repeat (first | exact Below.refl _ _ | assumption | refine Below.drew ?_ | refine below_drewN ?_ _ | refine Below.alloc ?_ (by first | omega | (simp; done) | (simp; omega)) _ | refine Below.setCell ?_ (by first | omega | (simp; done) | (simp; omega)) _ | refine Below.trans ?_ (Below.mono (by assumption) (by first | omega | (simp; done) | (simp; omega)))))); have _f1 : w1.frozen? ⟨w.heap.size, 1, none⟩ = false := (hb1.frozen (p := ⟨w.heap.size, 1, none⟩) (by first | omega | (simp; done) | (simp; omega))).trans (by first | assumption | (simp [go_sem, *]; done) | exact frozen_later' (by assumption) (by first | omega | (simp; done) | (simp; omega)) (by repeat (first | exact Below.refl _ _ | assumption | refine Below.drew ?_ | refine below_drewN ?_ _ | refine Below.alloc ?_ (by first | omega | (simp; done) | (simp; omega)) _ | refine Below.setCell ?_ (by first | omega | (simp; done) | (simp; omega)) _ | refine Below.trans ?_ (Below.mono (by assumption) (by first | omega | (simp; done) | (simp; omega)))))); have _c0 : w1.cell? ⟨w.heap.size + 1, 0, none⟩ = some (.int .i64 0) := cell_later hb1 (by first | assumption | (simp [go_sem, *]; done) | exact cell_later' (by assumption) (by repeat (first | exact Below.refl _ _ | assumption | refine Below.drew ?_ | refine below_drewN ?_ _ | refine Below.alloc ?_ (by first | omega | (simp; done) | (simp; omega)) _ | refine Below.setCell ?_ (by first | omega | (simp; done) | (simp; omega)) _ | refine Below.trans ?_ (Below.mono (by assumption) (by first | omega | (simp; done) | (simp; omega)))))); have _f0 : w1.frozen? ⟨w.heap.size + 1, 0, none⟩ = false := (hb1.frozen (p := ⟨w.heap.size + 1, 0, none⟩) (by first | omega | (simp; done) | (simp; omega))).trans (by first | assumption | (simp [go_sem, *]; done) | exact frozen_later' (by assumption) (by first | omega | (simp; done) | (simp; omega)) (by repeat (first | exact Below.refl _ _ | assumption | refine Below.drew ?_ | refine below_drewN ?_ _ | refine Below.alloc ?_ (by first | omega | (simp; done) | (simp; omega)) _ | refine Below.setCell ?_ (by first | omega | (simp; done) | (simp; omega)) _ | refine Below.trans ?_ (Below.mono (by assumption) (by first | omega | (simp; done) | (simp; omega)))))); have _c1 : w1.cell? ⟨w.heap.size + 1, 1, none⟩ = some (.int .i64 0) := cell_later hb1 (by first | assumption | (simp [go_sem, *]; done) | exact cell_later' (by assumption) (by repeat (first | exact Below.refl _ _ | assumption | refine Below.drew ?_ | refine below_drewN ?_ _ | refine Below.alloc ?_ (by first | omega | (simp; done) | (simp; omega)) _ | refine Below.setCell ?_ (by first | omega | (simp; done) | (simp; omega)) _ | refine Below.trans ?_ (Below.mono (by assumption) (by first | omega | (simp; done) | (simp; omega)))))); have _f1 : w1.frozen? ⟨w.heap.size + 1, 1, none⟩ = false := (hb1.frozen (p := ⟨w.heap.size + 1, 1, none⟩) (by first | omega | (simp; done) | (simp; omega))).trans (by first | assumption | (simp [go_sem, *]; done) | exact frozen_later' (by assumption) (by first | omega | (simp; done) | (simp; omega)) (by repeat (first | exact Below.refl _ _ | assumption | refine Below.drew ?_ | refine below_drewN ?_ _ | refine Below.alloc ?_ (by first | omega | (simp; done) | (simp; omega)) _ | refine Below.setCell ?_ (by first | omega | (simp; done) | (simp; omega)) _ | refine Below.trans ?_ (Below.mono (by assumption) (by first | omega | (simp; done) | (simp; omega))))))
    go_wp2_with fail
    (exact bodyPost_ret (v := .tuple #[.agg #[.int .i64 0, .int .i64 0], .int .i64 1]) (by simp [results, go_sem, *]) rfl ⟨by rw [HX.out], (by repeat (first | exact Below.refl _ _ | assumption | refine Below.drew ?_ | refine below_drewN ?_ _ | refine Below.alloc ?_ (by first | omega | (simp; done) | (simp; omega)) _ | refine Below.setCell ?_ (by first | omega | (simp; done) | (simp; omega)) _ | refine Below.trans ?_ (Below.mono (by assumption) (by first | omega | (simp; done) | (simp; omega)))))⟩)
  · have HU := Lib.hid h
    have d1 : decide ((m : Int) < 1) = false := by simp; omega
    have d2 : decide ((60 : Int) < (m : Int)) = true := by simp; omega
    clear h h' h''
    go_enter Try.func13, Try.ntmps13
    go_wp2_with fail
    refine Calls.mono (rused_any a b _) ?_
    rw [HU.out]
    rintro e w1 ⟨rfl, hb1⟩; have hs1 := hb1.size; (try simp at hs1)
    have _c0 : w1.cell? ⟨w.heap.size, 0, none⟩ = some (.int .i64 a) := cell_later hb1 (by first | assumption | (simp [go_sem, *]; done) | exact cell_later' (by assumption) (by repeat (first | exact Below.refl _ _ | assumption | refine Below.drew ?_ | refine below_drewN ?_ _ | refine Below.alloc ?_ (by first | omega | (simp; done) | (simp; omega)) _ | refine Below.setCell ?_ (by first | omega | (simp; done) | (simp; omega)) _ | refine Below.trans ?_ (Below.mono (by assumption) (by first | omega | (simp; done) | (simp; omega)))))); have _f0 : w1.frozen? ⟨w.heap.size, 0, none⟩ = false := (hb1.frozen (p := ⟨w.heap.size, 0, none⟩) (by first | omega | (simp; done) | (simp; omega))).trans (by first | assumption | (simp [go_sem, *]; done) | exact frozen_later' (by assumption) (by first | omega | (simp; done) | (simp; omega)) (by repeat (first | exact Below.refl _ _ | assumption | refine Below.drew ?_ | refine below_drewN ?_ _ | refine Below.alloc ?_ (by first | omega | (simp; done) | (simp; omega)) _ | refine Below.setCell ?_ (by first | omega | (simp; done) | (simp; omega)) _ | refine Below.trans ?_ (Below.mono (by assumption) (by first | omega | (simp; done) | (simp; omega)))))); have _c1 : w1.cell? ⟨w.heap.size, 1, none⟩ = some (.int .i64 b) := cell_later hb1 (by first | assumption | (simp [go_sem, *]; done) | exact cell_later' (by assumption) (by repeat (first | exact Below.refl _ _ | assumption | refine Below.drew ?_ | refine below_drewN ?_ _ | refine Below.alloc ?_ (by first | omega | (simp; done) | (simp; omega)) _ | refine Below.setCell ?_ (by first | omega | (simp; done) | (simp; omega)) _ | refine Below.trans ?_ (Below.mono (by assumption) (by first | omega | (simp; done) | (simp; omega)))))); have _f1 : w1.frozen? ⟨w.heap.size, 1, none⟩ = false := (hb1.frozen (p := ⟨w.heap.size, 1, none⟩) (by first | omega | (simp; done) | (simp; omega))).trans (by first | assumption | (simp [go_sem, *]; done) | exact frozen_later' (by assumption) (by first | omega | (simp; done) | (simp; omega)) (by repeat (first | exact Below.refl _ _ | assumption | refine Below.drew ?_ | refine below_drewN ?_ _ | refine Below.alloc ?_ (by first | omega | (simp; done) | (simp; omega)) _ | refine Below.setCell ?_ (by first | omega | (simp; done) | (simp; omega)) _ | refine Below.trans ?_ (Below.mono (by assumption) (by first | omega | (simp; done) | (simp; omega)))))); have _c0 : w1.cell? ⟨w.heap.size + 1, 0, none⟩ = some (.int .i64 0) := cell_later hb1 (by first | assumption | (simp [go_sem, *]; done) | exact cell_later' (by assumption) (by repeat (first | exact Below.refl _ _ | assumption | refine Below.drew ?_ | refine below_drewN ?_ _ | refine Below.alloc ?_ (by first | omega | (simp; done) | (simp; omega)) _ | refine Below.setCell ?_ (by first | omega | (simp; done) | (simp; omega)) _ | refine Below.trans ?_ (Below.mono (by assumption) (by first | omega | (simp; done) | (simp; omega)))))); have _f0 : w1.frozen? ⟨w.heap.size + 1, 0, none⟩ = false := (hb1.frozen (p := ⟨w.heap.size + 1, 0, none⟩) (by first | omega | (simp; done) | (simp; omega))).trans (by first | assumption | (simp [go_sem, *]; done) | exact frozen_later' (by assumption) (by first | omega | (simp; done) | (simp; omega)) (by repeat (first | exact Below.refl _ _ | assumption | refine Below.drew ?_ | refine below_drewN ?_ _ | refine Below.alloc ?_ (by first | omega | (simp; done) | (simp; omega)) _ | refine Below.setCell ?_ (by first | omega | (simp; done) | (simp; omega)) _ | refine Below.trans ?_ (Below.mono (by assumption) (by first | omega | (simp; done) | (simp; omega)))))); have _c1 : w1.cell? ⟨w.heap.size + 1, 1, none⟩ = some (.int .i64 0) := cell_later hb1 (by first | assumption | (simp [go_sem, *]; done) | exact cell_later' (by assumption) (by repeat (first | exact Below.refl _ _ | assumption | refine Below.drew ?_ | refine below_drewN ?_ _ | refine Below.alloc ?_ (by first | omega | (simp; done) | (simp; omega)) _ | refine Below.setCell ?_ (by first | omega | (simp; done) | (simp; omega)) _ | refine Below.trans ?_ (Below.mono (by assumption) (by first | omega | (simp; done) | (simp; omega)))))); have _f1 : w1.frozen? ⟨w.heap.size + 1, 1, none⟩ = false := (hb1.frozen (p := ⟨w.heap.size + 1, 1, none⟩) (by first | omega | (simp; done) | (simp; omega))).trans (by first | assumption | (simp [go_sem, *]; done) | exact frozen_later' (by assumption) (by first | omega | (simp; done) | (simp; omega)) (by repeat (first | exact Below.refl _ _ | assumption | refine Below.drew ?_ | refine below_drewN ?_ _ | refine Below.alloc ?_ (by first | omega | (simp; done) | (simp; omega)) _ | refine Below.setCell ?_ (by first | omega | (simp; done) | (simp; omega)) _ | refine Below.trans ?_ (Below.mono (by assumption) (by first | omega | (simp; done) | (simp; omega))))))
    go_wp2_with fail
    (exact bodyPost_ret (v := .tuple #[.agg #[.int .i64 0, .int .i64 0], .int .i64 1]) (by simp [results, go_sem, *]) rfl ⟨by rw [HX.out], (by repeat (first | exact Below.refl _ _ | assumption | refine Below.drew ?_ | refine below_drewN ?_ _ | refine Below.alloc ?_ (by first | omega | (simp; done) | (simp; omega)) _ | refine Below.setCell ?_ (by first | omega | (simp; done) | (simp; omega)) _ | refine Below.trans ?_ (Below.mono (by assumption) (by first | omega | (simp; done) | (simp; omega)))))⟩)
set_option maxRecDepth 100000 in
set_option maxHeartbeats 4000000 in
theorem rchain_no2 (a b : Int) (sa : Option Addr) (cap : Nat) (zs : List Int) (h : usd a b = true) (h1 : 1 ≤ zs.length) (h2 : zs.length ≤ 60) (h3 : zs.all lmt = false) (w : World) (hI : Ints w sa zs) :
    Calls Try.prog 13 #[.agg #[.int .i64 a, .int .i64 b], .slice sa zs.length cap] w (RetX (chX a b zs) w) := by
  have hx : chX a b zs = (0, 0, 1) := chX_no (by unfold chOk; rw [h3]; simp)
  have HX := Lib.hid hx
  have H3 := Lib.hid h3
  clear hx h3
  have HU := Lib.hid h
  have d1 : decide ((zs.length : Int) < 1) = false := by simp; omega
  have d2 : decide ((60 : Int) < (zs.length : Int)) = false := by simp; omega
  clear h
  obtain ⟨lb, lo, rfl, hc⟩ := hI.fam (by omega)
  have HC := Lib.hid hc
  clear hc hI
  go_enter Try.func13, Try.ntmps13
  go_wp2_with fail
  refine Calls.mono (rused_any a b _) ?_
  rw [HU.out]
  rintro e w1 ⟨rfl, hb1⟩; have hs1 := hb1.size; (try simp at hs1)
  have _c0 : w1.cell? ⟨w.heap.size, 0, none⟩ = some (.int .i64 a) := cell_later hb1 (by first | assumption | (simp [go_sem, *]; done) | exact cell_later' (by assumption) (by repeat (first | exact Below.refl _ _ | assumption | refine Below.drew ?_ | refine below_drewN ?_ _ | refine Below.alloc ?_ (by first | omega | (simp; done) | (simp; omega)) _ | refine Below.setCell ?_ (by first | omega | (simp; done) | (simp; omega)) _ | refine Below.trans ?_ (Below.mono (by assumption) (by first | omega | (simp; done) | (simp; omega)))))); have _f0 : w1.frozen? ⟨w.heap.size, 0, none⟩ = false := (hb1.frozen (p := ⟨w.heap.size, 0, none⟩) (by first | omega | (simp; done) | (simp; omega))).trans (by first | assumption | (simp [go_sem, *]; done) | exact frozen_later' (by assumption) (by first | omega | (simp; done) | (simp; omega)) (by repeat (first | exact Below.refl _ _ | assumption | refine Below.drew ?_ | refine below_drewN ?_ _ | refine Below.alloc ?_ (by first | omega | (simp; done) | (simp; omega)) _ | refine Below.setCell ?_ (by first | omega | (simp; done) | (simp; omega)) _ | refine Below.trans ?_ (Below.mono (by assumption) (by first | omega | (simp; done) | (simp; omega)))))); have _c1 : w1.cell? ⟨w.heap.size, 1, none⟩ = some (.int .i64 b) := cell_later hb1 (by first | assumption | (simp [go_sem, *]; done) | exact cell_later' (by assumption) (by repeat (first | exact Below.refl _ _ | assumption | refine Below.drew ?_ | refine below_drewN ?_ _ | refine Below.alloc ?_ (by first | omega | (simp; done) | (simp; omega)) _ | refine Below.setCell ?_ (by first | omega | (simp; done) | (simp; omega)) _ | refine Below.trans ?_ (Below.mono (by assumption) (by first | omega | (simp; done) | (simp; omega)))))); have _f1 : w1.frozen? ⟨w.heap.size, 1, none⟩ = false := (hb1.frozen (p := ⟨w.heap.size, 1, none⟩) (by first | omega | (simp; done) | (simp; omega))).trans (by first | assumption | (simp [go_sem, *]; done) | exact frozen_later' (by assumption) (by first | omega | (simp; done) | (simp; omega)) (by repeat (first | exact Below.refl _ _ | assumption | refine Below.drew ?_ | refine below_drewN ?_ _ | refine Below.alloc ?_ (by first | omega | (simp; done) | (simp; omega)) _ | refine Below.setCell ?_ (by first | omega | (simp; done) | (simp; omega)) _ | refine Below.trans ?_ (Below.mono (by assumption) (by first | omega | (simp; done) | (simp; omega)))))); have _c0 : w1.cell? ⟨w.heap.size + 1, 0, none⟩ = some (.int .i64 0) := cell_later hb1 (by first | assumption | (simp [go_sem, *]; done) | exact cell_later' (by assumption) (by repeat (first | exact Below.refl _ _ | assumption | refine Below.drew ?_ | refine below_drewN ?_ _ | refine Below.alloc ?_ (by first | omega | (simp; done) | (simp; omega)) _ | refine Below.setCell ?_ (by first | omega | (simp; done) | (simp; omega)) _ | refine Below.trans ?_ (Below.mono (by assumption) (by first | omega | (simp; done) | (simp; omega)))))); have _f0 : w1.frozen? ⟨w.heap.size + 1, 0, none⟩ = false := (hb1.frozen (p := ⟨w.heap.size + 1, 0, none⟩) (by first | omega | (simp; done) | (simp; omega))).trans (by first | assumption | (simp [go_sem, *]; done) | exact frozen_later' (by assumption) (by first | omega | (simp; done) | (simp; omega)) (by repeat (first | exact Below.refl _ _ | assumption | refine Below.drew ?_ | refine below_drewN ?_ _ | refine Below.alloc ?_ (by first | omega | (simp; done) | (simp; omega)) _ | refine Below.setCell ?_ (by first | omega | (simp; done) | (simp; omega)) _ | refine Below.trans ?_ (Below.mono (by assumption) (by first | omega | (simp; done) | (simp; omega)))))); have _c1 : w1.cell? ⟨w.heap.size + 1, 1, none⟩ = some (.int .i64 0) := cell_later hb1 (by first | assumption | (simp [go_sem, *]; done) | exact cell_later' (by assumption) (by repeat (first | exact Below.refl _ _ | assumption | refine Below.drew ?_ | refine below_drewN ?_ _ | refine Below.alloc ?_ (by first | omega | (simp; done) | (simp; omega)) _ | refine Below.setCell ?_ (by first | omega | (simp; done) | (simp; omega)) _ | refine Below.trans ?_ (Below.mono (by assumption) (by first | omega | (simp; done) | (simp; omega)))))); have _f1 : w1.frozen? ⟨w.heap.size + 1, 1, none⟩ = false := (hb1.frozen (p := ⟨w.heap.size + 1, 1, none⟩) (by first | omega | (simp; done) | (simp; omega))).trans (by first | assumption | (simp [go_sem, *]; done) | exact frozen_later' (by assumption) (by first | omega | (simp; done) | (simp; omega)) (by repeat (first | exact Below.refl _ _ | assumption | refine Below.drew ?_ | refine below_drewN ?_ _ | refine Below.alloc ?_ (by first | omega | (simp; done) | (simp; omega)) _ | refine Below.setCell ?_ (by first | omega | (simp; done) | (simp; omega)) _ | refine Below.trans ?_ (Below.mono (by assumption) (by first | omega | (simp; done) | (simp; omega))))))
  have hB : Bx2 w1 w.heap.size a b 0 0 := by unfold Bx2; (repeat' apply And.intro) <;> assumption
  have HB := Lib.hid hB
  clear hB
  go_wp2_with fail
  go_loopg [6] (zs.length + 1) (fun k v6 wr => ∃ i : Nat, i ≤ zs.length ∧ k + i = zs.length + 1 ∧ v6 = .int .i64 i ∧ Below w1.heap.size w1 wr ∧ ∀ j, j < i → lmt (ig zs j) = true)
  case atStart => exact ⟨0, by omega, by omega, rfl, Below.refl _ _, fun r hr => absurd hr (by omega)⟩
  case round =>
    obtain ⟨i, hi, hki, rfl, hbr, hall⟩ := hrel
    have HA := Lib.hid hall
    clear hall
    have hsr := hbr.size
    have hwr : Below w.heap.size w wr := (by repeat (first | exact Below.refl _ _ | assumption | refine Below.drew ?_ | refine below_drewN ?_ _ | refine Below.alloc ?_ (by first | omega | (simp; done) | (simp; omega)) _ | refine Below.setCell ?_ (by first | omega | (simp; done) | (simp; omega)) _ | refine Below.trans ?_ (Below.mono (by assumption) (by first | omega | (simp; done) | (simp; omega)))))
    by_cases hlt : i < zs.length
    · have z1 : (i : Int) < (zs.length : Int) := by omega
      have z0 : (0 : Int) ≤ (i : Int) := by omega
      have fc := cell_later hwr (HC.out i hlt)
      obtain ⟨n, hn⟩ : ∃ n, n = ig zs i := ⟨_, rfl⟩
      rw [← hn] at fc
      have HN := Lib.hid hn
      clear hn
      cases hl : lmt n
      · have HL := Lib.hid hl
        clear hl
        obtain ⟨⟨c00, c01, f00, f01⟩, c10, c11, f10, f11⟩ := HB.out.later hbr
        go_wp2_with fail
        refine Calls.mono (rlimit_any n _) ?_
        rw [HL.out]
        rintro e w2 ⟨rfl, hb2⟩
        have hs2 := hb2.size
        obtain ⟨⟨c00, c01, f00, f01⟩, c10, c11, f10, f11⟩ := (HB.out.later hbr).later hb2
        have hw2 : Below w.heap.size w w2 := hwr.trans (hb2.mono (by omega))
        go_wp2_with fail
        (exact bodyPost_ret (v := .tuple #[.agg #[.int .i64 0, .int .i64 0], .int .i64 1]) (by simp [results, go_sem, *]) rfl ⟨by rw [HX.out], (by repeat (first | exact Below.refl _ _ | assumption | refine Below.drew ?_ | refine below_drewN ?_ _ | refine Below.alloc ?_ (by first | omega | (simp; done) | (simp; omega)) _ | refine Below.setCell ?_ (by first | omega | (simp; done) | (simp; omega)) _ | refine Below.trans ?_ (Below.mono (by assumption) (by first | omega | (simp; done) | (simp; omega)))))⟩)
      · have HL := Lib.hid hl
        clear hl
        go_wp2_with fail
        refine Calls.mono (rlimit_any n _) ?_
        rw [HL.out]
        rintro e w2 ⟨rfl, hb2⟩
        have hs2 := hb2.size
        have hw2 : Below w1.heap.size w1 w2 := hbr.trans (hb2.mono (by omega))
        go_wp2_with fail
        go_roundg (zs.length - i)
        case measure => omega
        case rel => exact ⟨i + 1, by omega, by omega, by go_num, (by repeat (first | exact Below.refl _ _ | assumption | refine Below.drew ?_ | refine below_drewN ?_ _ | refine Below.alloc ?_ (by first | omega | (simp; done) | (simp; omega)) _ | refine Below.setCell ?_ (by first | omega | (simp; done) | (simp; omega)) _ | refine Below.trans ?_ (Below.mono (by assumption) (by first | omega | (simp; done) | (simp; omega))))), fun r hr => by
          rcases Nat.lt_succ_iff_lt_or_eq.1 hr with h | h
          · exact HA.out r h
          · subst h; rw [← HN.out]; exact HL.out⟩
    · exfalso
      have : zs.all lmt = true := List.all_eq_true.2 fun x hx => by
        obtain ⟨j, hj, rfl⟩ := List.getElem_of_mem hx
        rw [← ig_lt hj]
        exact HA.out j (by omega)
      rw [H3.out] at this
      cases this
set_option maxRecDepth 100000 in
set_option maxHeartbeats 4000000 in
theorem rchain_yes (a b : Int) (sa : Option Addr) (cap : Nat) (zs : List Int) (h : usd a b = true) (h1 : 1 ≤ zs.length) (h2 : zs.length ≤ 60) (h3 : zs.all lmt = true) (w : World) (hI : Ints w sa zs) :
    Calls Try.prog 13 #[.agg #[.int .i64 a, .int .i64 b], .slice sa zs.length cap] w (RetX (chX a b zs) w) := by
  have hx : chX a b zs = fd a b (upto (nb zs) (zs.length - 1)) := chX_yes (by unfold chOk; rw [h, h3, decide_eq_true h1, decide_eq_true h2]; rfl)
  have HX := Lib.hid hx
  have H3 := Lib.hid h3
  clear hx h3
  have HU := Lib.hid h
  have d1 : decide ((zs.length : Int) < 1) = false := by simp; omega
  have d2 : decide ((60 : Int) < (zs.length : Int)) = false := by simp; omega
  clear h
  have hmx : Try.prog.follows .mixedOrders = true := by kernel_rfl
  obtain ⟨lb, lo, rfl, hc⟩ := hI.fam (by omega)
  have HC := Lib.hid hc
  clear hc hI
  go_enter Try.func13, Try.ntmps13
  go_wp2_with fail
  refine Calls.mono (rused_any a b _) ?_
  rw [HU.out]
  rintro e w1 ⟨rfl, hb1⟩; have hs1 := hb1.size; (try simp at hs1)
  have _c0 : w1.cell? ⟨w.heap.size, 0, none⟩ = some (.int .i64 a) := cell_later hb1 (by first | assumption | (simp [go_sem, *]; done) | exact cell_later' (by assumption) (by repeat (first | exact Below.refl _ _ | assumption | refine Below.drew ?_ | refine below_drewN ?_ _ | refine Below.alloc ?_ (by first | omega | (simp; done) | (simp; omega)) _ | refine Below.setCell ?_ (by first | omega | (simp; done) | (simp; omega)) _ | refine Below.trans ?_ (Below.mono (by assumption) (by first | omega | (simp; done) | (simp; omega)))))); have _f0 : w1.frozen? ⟨w.heap.size, 0, none⟩ = false := (hb1.frozen (p := ⟨w.heap.size, 0, none⟩) (by first | omega | (simp; done) | (simp; omega))).trans (by first | assumption | (simp [go_sem, *]; done) | exact frozen_later' (by assumption) (by first | omega | (simp; done) | (simp; omega)) (by repeat (first | exact Below.refl _ _ | assumption | refine Below.drew ?_ | refine below_drewN ?_ _ | refine Below.alloc ?_ (by first | omega | (simp; done) | (simp; omega)) _ | refine Below.setCell ?_ (by first | omega | (simp; done) | (simp; omega)) _ | refine Below.trans ?_ (Below.mono (by assumption) (by first | omega | (simp; done) | (simp; omega)))))); have _c1 : w1.cell? ⟨w.heap.size, 1, none⟩ = some (.int .i64 b) := cell_later hb1 (by first | assumption | (simp [go_sem, *]; done) | exact cell_later' (by assumption) (by repeat (first | exact Below.refl _ _ | assumption | refine Below.drew ?_ | refine below_drewN ?_ _ | refine Below.alloc ?_ (by first | omega | (simp; done) | (simp; omega)) _ | refine Below.setCell ?_ (by first | omega | (simp; done) | (simp; omega)) _ | refine Below.trans ?_ (Below.mono (by assumption) (by first | omega | (simp; done) | (simp; omega)))))); have _f1 : w1.frozen? ⟨w.heap.size, 1, none⟩ = false := (hb1.frozen (p := ⟨w.heap.size, 1, none⟩) (by first | omega | (simp; done) | (simp; omega))).trans (by first | assumption | (simp [go_sem, *]; done) | exact frozen_later' (by assumption) (by first | omega | (simp; done) | (simp; omega)) (by repeat (first | exact Below.refl _ _ | assumption | refine Below.drew ?_ | refine below_drewN ?_ _ | refine Below.alloc ?_ (by first | omega | (simp; done) | (simp; omega)) _ | refine Below.setCell ?_ (by first | omega | (simp; done) | (simp; omega)) _ | refine Below.trans ?_ (Below.mono (by assumption) (by first | omega | (simp; done) | (simp; omega)))))); have _c0 : w1.cell? ⟨w.heap.size + 1, 0, none⟩ = some (.int .i64 0) := cell_later hb1 (by first | assumption | (simp [go_sem, *]; done) | exact cell_later' (by assumption) (by repeat (first | exact Below.refl _ _ | assumption | refine Below.drew ?_ | refine below_drewN ?_ _ | refine Below.alloc ?_ (by first | omega | (simp; done) | (simp; omega)) _ | refine Below.setCell ?_ (by first | omega | (simp; done) | (simp; omega)) _ | refine Below.trans ?_ (Below.mono (by assumption) (by first | omega | (simp; done) | (simp; omega)))))); have _f0 : w1.frozen? ⟨w.heap.size + 1, 0, none⟩ = false := (hb1.frozen (p := ⟨w.heap.size + 1, 0, none⟩) (by first | omega | (simp; done) | (simp; omega))).trans (by first | assumption | (simp [go_sem, *]; done) | exact frozen_later' (by assumption) (by first | omega | (simp; done) | (simp; omega)) (by repeat (first | exact Below.refl _ _ | assumption | refine Below.drew ?_ | refine below_drewN ?_ _ | refine Below.alloc ?_ (by first | omega | (simp; done) | (simp; omega)) _ | refine Below.setCell ?_ (by first | omega | (simp; done) | (simp; omega)) _ | refine Below.trans ?_ (Below.mono (by assumption) (by first | omega | (simp; done) | (simp; omega)))))); have _c1 : w1.cell? ⟨w.heap.size + 1, 1, none⟩ = some (.int .i64 0) := cell_later hb1 (by first | assumption | (simp [go_sem, *]; done) | exact cell_later' (by assumption) (by repeat (first | exact Below.refl _ _ | assumption | refine Below.drew ?_ | refine below_drewN ?_ _ | refine Below.alloc ?_ (by first | omega | (simp; done) | (simp; omega)) _ | refine Below.setCell ?_ (by first | omega | (simp; done) | (simp; omega)) _ | refine Below.trans ?_ (Below.mono (by assumption) (by first | omega | (simp; done) | (simp; omega)))))); have _f1 : w1.frozen? ⟨w.heap.size + 1, 1, none⟩ = false := (hb1.frozen (p := ⟨w.heap.size + 1, 1, none⟩) (by first | omega | (simp; done) | (simp; omega))).trans (by first | assumption | (simp [go_sem, *]; done) | exact frozen_later' (by assumption) (by first | omega | (simp; done) | (simp; omega)) (by repeat (first | exact Below.refl _ _ | assumption | refine Below.drew ?_ | refine below_drewN ?_ _ | refine Below.alloc ?_ (by first | omega | (simp; done) | (simp; omega)) _ | refine Below.setCell ?_ (by first | omega | (simp; done) | (simp; omega)) _ | refine Below.trans ?_ (Below.mono (by assumption) (by first | omega | (simp; done) | (simp; omega))))))
  have hB : Bx2 w1 w.heap.size a b 0 0 := by unfold Bx2; (repeat' apply And.intro) <;> assumption
  have HB := Lib.hid hB
  clear hB
  go_wp2_with fail
  go_loopg [6] (zs.length + 1) (fun k v6 wr => ∃ i : Nat, i ≤ zs.length ∧ k + i = zs.length + 1 ∧ v6 = .int .i64 i ∧ Below w1.heap.size w1 wr)
  case atStart => exact ⟨0, by omega, by omega, rfl, Below.refl _ _⟩
  case round =>
    obtain ⟨i, hi, hki, rfl, hbr⟩ := hrel
    have hsr := hbr.size
    have hwr : Below w.heap.size w wr := (by repeat (first | exact Below.refl _ _ | assumption | refine Below.drew ?_ | refine below_drewN ?_ _ | refine Below.alloc ?_ (by first | omega | (simp; done) | (simp; omega)) _ | refine Below.setCell ?_ (by first | omega | (simp; done) | (simp; omega)) _ | refine Below.trans ?_ (Below.mono (by assumption) (by first | omega | (simp; done) | (simp; omega)))))
    by_cases hlt : i < zs.length
    · have z1 : (i : Int) < (zs.length : Int) := by omega
      have z0 : (0 : Int) ≤ (i : Int) := by omega
      have fc := cell_later hwr (HC.out i hlt)
      obtain ⟨n, hn⟩ : ∃ n, n = ig zs i := ⟨_, rfl⟩
      have hl : lmt n = true := by rw [hn, ig_lt hlt]; exact List.all_eq_true.1 H3.out _ (List.getElem_mem hlt)
      rw [← hn] at fc
      have HL := Lib.hid hl
      clear hn hl
      go_wp2_with fail
      refine Calls.mono (rlimit_any n _) ?_
      rw [HL.out]
      rintro e w2 ⟨rfl, hb2⟩
      have hs2 := hb2.size
      have hw2 : Below w1.heap.size w1 w2 := hbr.trans (hb2.mono (by omega))
      go_wp2_with fail
      go_roundg (zs.length - i)
      case measure => omega
      case rel => exact ⟨i + 1, by omega, by omega, by go_num, (by repeat (first | exact Below.refl _ _ | assumption | refine Below.drew ?_ | refine below_drewN ?_ _ | refine Below.alloc ?_ (by first | omega | (simp; done) | (simp; omega)) _ | refine Below.setCell ?_ (by first | omega | (simp; done) | (simp; omega)) _ | refine Below.trans ?_ (Below.mono (by assumption) (by first | omega | (simp; done) | (simp; omega)))))⟩
    · obtain rfl : i = zs.length := by omega
      clear hlt hi hki
      have HB3 := Lib.hid (HB.out.later hbr)
      have hsB : w.heap.size + 1 < wr.heap.size := HB3.out.lt
      go_wp2_with fail
      go_loopg [7] (zs.length + 1) (fun k v7 wq => ∃ j : Nat, j + 1 ≤ zs.length ∧ k + j = zs.length + 1 ∧ v7 = .int .i64 ((j : Int) + 1) ∧ Below w.heap.size w wq ∧ wr.heap.size ≤ wq.heap.size ∧ (fd a b (upto (nb zs) j)).2.2 = 0 ∧ Bx2 wq w.heap.size (fd a b (upto (nb zs) j)).1 (fd a b (upto (nb zs) j)).2.1 0 0)
      case atStart => exact ⟨0, by omega, by omega, rfl, hwr, Nat.le_refl _, rfl, HB3.out⟩
      case round =>
        obtain ⟨j, hj, hkj, rfl, hbw, hsq, hok, hB2⟩ := hrel
        have hsW := hB2.lt
        have hfdE := fd_snoc a b (upto (nb zs) j) (nb zs j)
        rw [← upto_succ] at hfdE
        unfold fdS at hfdE
        rw [if_pos hok] at hfdE
        by_cases hlt : j + 1 < zs.length
        · have fc1 := cell_later hbw (HC.out j (by omega))
          have fc2 := cell_later hbw (HC.out (j + 1) hlt)
          have hn12 : (nb zs j) = (ig zs j, ig zs (j + 1)) := rfl
          rw [hn12] at hfdE
          obtain ⟨n1, hn1⟩ : ∃ n1, n1 = ig zs j := ⟨_, rfl⟩
          obtain ⟨n2, hn2⟩ : ∃ n2, n2 = ig zs (j + 1) := ⟨_, rfl⟩
          rw [← hn1] at fc1 hfdE
          rw [← hn2] at fc2 hfdE
          clear hn1 hn2 hn12
          obtain ⟨p, hp⟩ : ∃ p, p = (fd a b (upto (nb zs) j)).1 := ⟨_, rfl⟩
          obtain ⟨q, hq⟩ : ∃ q, q = (fd a b (upto (nb zs) j)).2.1 := ⟨_, rfl⟩
          rw [← hp, ← hq] at hfdE hB2
          clear hp hq
          dsimp only at hfdE
          obtain ⟨t1, t2, t3, ht⟩ : ∃ t1 t2 t3, scX p q n1 n2 = (t1, t2, t3) := ⟨_, _, _, rfl⟩
          have c := fun W => rscale_any p q n1 n2 W
          simp only [ht] at c
          rw [ht] at hfdE
          have herr : t3 ≠ 0 → t1 = 0 ∧ t2 = 0 := fun h => by
            have := scX_err (a := p) (b := q) (n := n1) (m := n2)
            rw [ht] at this
            exact this h
          have HC1 := Lib.hid c
          have HFD := Lib.hid hfdE
          have HE := Lib.hid herr
          have HB2 := Lib.hid hB2
          clear hfdE c herr hB2 ht hok
          have i1 : (j : Int) < (zs.length : Int) := by omega
          have i2 : (j : Int) + 1 < (zs.length : Int) := by omega
          have i0 : (0 : Int) ≤ (j : Int) := by omega
          have i3 : (0 : Int) ≤ (j : Int) + 1 := by omega
          have hsub : IntKind.i64.wrap ((j : Int) + 1 - 1) = (j : Int) := by
            rw [show (j : Int) + 1 - 1 = (j : Int) by omega]
            exact IntWalk.i64_in _ (by omega)
          have hw1 : wrap64 (j : Int) = (j : Int) := by unfold wrap64; omega
          have hw2 : IntKind.i64.wrap (j : Int) = (j : Int) := IntWalk.i64_in _ (by omega)
          have hw3 : wrap64 ((j : Int) + 1 - 1) = (j : Int) := by unfold wrap64; omega
          by_cases h0 : t3 = 0
          · subst h0
            obtain ⟨⟨c00, c01, f00, f01⟩, c10, c11, f10, f11⟩ := HB2.out
            go_wp2_with fail
            go_region_held3 (fun wx => wx.cell? ⟨w.heap.size, 0, none⟩ = some (.int .i64 p) ∧ wx.cell? ⟨w.heap.size, 1, none⟩ = some (.int .i64 q) ∧ wx.cell? ⟨lb, lo + j, none⟩ = some (.int .i64 n1) ∧ wx.cell? ⟨lb, lo + (j + 1), none⟩ = some (.int .i64 n2)) ((repeat' apply And.intro) <;> first | assumption | (simp [go_sem, *]; done) | exact cell_later hb1 (by simp [go_sem, *]) | exact cell_later' (by assumption) (by repeat (first | exact Below.refl _ _ | assumption | refine Below.drew ?_ | refine below_drewN ?_ _ | refine Below.alloc ?_ (by first | omega | (simp; done) | (simp; omega)) _ | refine Below.setCell ?_ (by first | omega | (simp; done) | (simp; omega)) _ | refine Below.trans ?_ (Below.mono (by assumption) (by first | omega | (simp; done) | (simp; omega)))))) ((first | (go_at_call 11; refine Calls.mono (HC1.out _) ?_; rintro e w2 ⟨rfl, hbd⟩; have hs2 := hbd.size; (try simp at hs2); obtain ⟨k0, k1⟩ := bcell hbd)))
            · obtain ⟨G, hG⟩ : ∃ G, G = w2.heap.size := ⟨_, rfl⟩
              obtain ⟨w5, hw5⟩ : ∃ w5, w5 = w2.alloc (.cells #[.int .i64 t1, .int .i64 t2] 23) := ⟨_, rfl⟩
              have hb5 : Below wr.heap.size wr w5 := by rw [hw5]; exact (((Below.refl wr.heap.size wr).drew.trans hbd).alloc hs2 _)
              have hG5 : wr.heap.size ≤ G := by omega
              have c50 : w5.cell? ⟨G, 0, none⟩ = some (.int .i64 t1) := by rw [hw5, hG]; simp [go_sem]
              have c51 : w5.cell? ⟨G, 1, none⟩ = some (.int .i64 t2) := by rw [hw5, hG]; simp [go_sem]
              rw [← hw5, ← hG]
              clear hG hw5 hbd k0 k1 hs2
              have hs3 : w.heap.size < w5.heap.size := by have := hb5.size; omega
              clear c00 c01 f00 f01 c10 c11 f10 f11
              have HB5 := Lib.hid (HB2.out.later hb5)
              obtain ⟨⟨c00, c01, f00, f01⟩, c10, c11, f10, f11⟩ := HB5.out
              have hw5k : Below w.heap.size w w5 := hbw.trans (hb5.mono (by omega))
              go_wp2_with fail
              have hB6 : Below w.heap.size w5 ((w5.setCell ⟨w.heap.size, 0, none⟩ (.int .i64 t1)).setCell ⟨w.heap.size, 1, none⟩ (.int .i64 t2)) := (((Below.refl _ w5).setCell (p := ⟨w.heap.size, 0, none⟩) (Nat.le_refl _) _).setCell (p := ⟨w.heap.size, 1, none⟩) (Nat.le_refl _) _)
              go_roundg (zs.length - j)
              case measure => omega
              case rel => exact ⟨j + 1, by omega, by omega, by go_num, hw5k.trans hB6, Nat.le_trans hsq (Nat.le_trans hb5.size hB6.size), by rw [HFD.out], by rw [HFD.out]; exact HB5.out.life t1 t2⟩
            · obtain ⟨G, hG⟩ : ∃ G, G = wr.heap.size := ⟨_, rfl⟩
              obtain ⟨w5, hw5⟩ : ∃ w5, w5 = (w2.setCell ⟨wr.heap.size, 0, none⟩ (.int .i64 t1)).setCell ⟨wr.heap.size, 1, none⟩ (.int .i64 t2) := ⟨_, rfl⟩
              have d0 : w2.cell? ⟨wr.heap.size, 0, none⟩ = some (.int .i64 0) := cell_later hbd (by simp [go_sem])
              have d1 : w2.cell? ⟨wr.heap.size, 1, none⟩ = some (.int .i64 0) := cell_later hbd (by simp [go_sem])
              have hb5 : Below wr.heap.size wr w5 := by
                rw [hw5]
                exact ((((Below.refl wr.heap.size wr).alloc (Nat.le_refl _) _).drew.trans (hbd.mono (by simp))).setCell (p := ⟨wr.heap.size, 0, none⟩) (Nat.le_refl _) _).setCell (p := ⟨wr.heap.size, 1, none⟩) (Nat.le_refl _) _
              have hG5 : wr.heap.size ≤ G := by omega
              have c50 : w5.cell? ⟨G, 0, none⟩ = some (.int .i64 t1) := by rw [hw5, hG]; simp [go_sem, d0]
              have c51 : w5.cell? ⟨G, 1, none⟩ = some (.int .i64 t2) := by rw [hw5, hG]; simp [go_sem, d1]
              rw [← hw5]
              clear hw5 hbd k0 k1 hs2 d0 d1
              subst hG
              have hs3 : w.heap.size < w5.heap.size := by have := hb5.size; omega
              clear c00 c01 f00 f01 c10 c11 f10 f11
              have HB5 := Lib.hid (HB2.out.later hb5)
              obtain ⟨⟨c00, c01, f00, f01⟩, c10, c11, f10, f11⟩ := HB5.out
              have hw5k : Below w.heap.size w w5 := hbw.trans (hb5.mono (by omega))
              go_wp2_with fail
              have hB6 : Below w.heap.size w5 ((w5.setCell ⟨w.heap.size, 0, none⟩ (.int .i64 t1)).setCell ⟨w.heap.size, 1, none⟩ (.int .i64 t2)) := (((Below.refl _ w5).setCell (p := ⟨w.heap.size, 0, none⟩) (Nat.le_refl _) _).setCell (p := ⟨w.heap.size, 1, none⟩) (Nat.le_refl _) _)
              go_roundg (zs.length - j)
              case measure => omega
              case rel => exact ⟨j + 1, by omega, by omega, by go_num, hw5k.trans hB6, Nat.le_trans hsq (Nat.le_trans hb5.size hB6.size), by rw [HFD.out], by rw [HFD.out]; exact HB5.out.life t1 t2⟩
          · have z0 : (t3 != 0) = true := by simpa using h0
            obtain ⟨⟨c00, c01, f00, f01⟩, c10, c11, f10, f11⟩ := HB2.out
            go_wp2_with fail
            go_region_held3 (fun wx => wx.cell? ⟨w.heap.size, 0, none⟩ = some (.int .i64 p) ∧ wx.cell? ⟨w.heap.size, 1, none⟩ = some (.int .i64 q) ∧ wx.cell? ⟨lb, lo + j, none⟩ = some (.int .i64 n1) ∧ wx.cell? ⟨lb, lo + (j + 1), none⟩ = some (.int .i64 n2)) ((repeat' apply And.intro) <;> first | assumption | (simp [go_sem, *]; done) | exact cell_later hb1 (by simp [go_sem, *]) | exact cell_later' (by assumption) (by repeat (first | exact Below.refl _ _ | assumption | refine Below.drew ?_ | refine below_drewN ?_ _ | refine Below.alloc ?_ (by first | omega | (simp; done) | (simp; omega)) _ | refine Below.setCell ?_ (by first | omega | (simp; done) | (simp; omega)) _ | refine Below.trans ?_ (Below.mono (by assumption) (by first | omega | (simp; done) | (simp; omega)))))) ((first | (go_at_call 11; refine Calls.mono (HC1.out _) ?_; rintro e w2 ⟨rfl, hbd⟩; have hs2 := hbd.size; (try simp at hs2); obtain ⟨k0, k1⟩ := bcell hbd)))
            · obtain ⟨G, hG⟩ : ∃ G, G = w2.heap.size := ⟨_, rfl⟩
              obtain ⟨w5, hw5⟩ : ∃ w5, w5 = w2.alloc (.cells #[.int .i64 t1, .int .i64 t2] 23) := ⟨_, rfl⟩
              have hb5 : Below wr.heap.size wr w5 := by rw [hw5]; exact (((Below.refl wr.heap.size wr).drew.trans hbd).alloc hs2 _)
              have hG5 : wr.heap.size ≤ G := by omega
              have c50 : w5.cell? ⟨G, 0, none⟩ = some (.int .i64 t1) := by rw [hw5, hG]; simp [go_sem]
              have c51 : w5.cell? ⟨G, 1, none⟩ = some (.int .i64 t2) := by rw [hw5, hG]; simp [go_sem]
              rw [← hw5, ← hG]
              clear hG hw5 hbd k0 k1 hs2
              have hs3 : w.heap.size < w5.heap.size := by have := hb5.size; omega
              clear c00 c01 f00 f01 c10 c11 f10 f11
              have HB5 := Lib.hid (HB2.out.later hb5)
              obtain ⟨⟨c00, c01, f00, f01⟩, c10, c11, f10, f11⟩ := HB5.out
              have hw5k : Below w.heap.size w w5 := hbw.trans (hb5.mono (by omega))
              go_wp2_with fail
              obtain ⟨rfl, rfl⟩ := HE.out h0
              have hX' : chX a b zs = (0, 0, t3) := by rw [HX.out, fd_err (k := j + 1) (by omega) (by rw [HFD.out]; exact h0), HFD.out]
              exact bodyPost_ret (v := .tuple #[.agg #[.int .i64 0, .int .i64 0], .int .i64 t3]) (by simp [results, go_sem, *]) rfl ⟨by rw [hX'], (by repeat (first | exact Below.refl _ _ | assumption | refine Below.drew ?_ | refine below_drewN ?_ _ | refine Below.alloc ?_ (by first | omega | (simp; done) | (simp; omega)) _ | refine Below.setCell ?_ (by first | omega | (simp; done) | (simp; omega)) _ | refine Below.trans ?_ (Below.mono (by assumption) (by first | omega | (simp; done) | (simp; omega)))))⟩
            · obtain ⟨G, hG⟩ : ∃ G, G = wr.heap.size := ⟨_, rfl⟩
              obtain ⟨w5, hw5⟩ : ∃ w5, w5 = (w2.setCell ⟨wr.heap.size, 0, none⟩ (.int .i64 t1)).setCell ⟨wr.heap.size, 1, none⟩ (.int .i64 t2) := ⟨_, rfl⟩
              have d0 : w2.cell? ⟨wr.heap.size, 0, none⟩ = some (.int .i64 0) := cell_later hbd (by simp [go_sem])
              have d1 : w2.cell? ⟨wr.heap.size, 1, none⟩ = some (.int .i64 0) := cell_later hbd (by simp [go_sem])
              have hb5 : Below wr.heap.size wr w5 := by
                rw [hw5]
                exact ((((Below.refl wr.heap.size wr).alloc (Nat.le_refl _) _).drew.trans (hbd.mono (by simp))).setCell (p := ⟨wr.heap.size, 0, none⟩) (Nat.le_refl _) _).setCell (p := ⟨wr.heap.size, 1, none⟩) (Nat.le_refl _) _
              have hG5 : wr.heap.size ≤ G := by omega
              have c50 : w5.cell? ⟨G, 0, none⟩ = some (.int .i64 t1) := by rw [hw5, hG]; simp [go_sem, d0]
              have c51 : w5.cell? ⟨G, 1, none⟩ = some (.int .i64 t2) := by rw [hw5, hG]; simp [go_sem, d1]
              rw [← hw5]
              clear hw5 hbd k0 k1 hs2 d0 d1
              subst hG
              have hs3 : w.heap.size < w5.heap.size := by have := hb5.size; omega
              clear c00 c01 f00 f01 c10 c11 f10 f11
              have HB5 := Lib.hid (HB2.out.later hb5)
              obtain ⟨⟨c00, c01, f00, f01⟩, c10, c11, f10, f11⟩ := HB5.out
              have hw5k : Below w.heap.size w w5 := hbw.trans (hb5.mono (by omega))
              go_wp2_with fail
              obtain ⟨rfl, rfl⟩ := HE.out h0
              have hX' : chX a b zs = (0, 0, t3) := by rw [HX.out, fd_err (k := j + 1) (by omega) (by rw [HFD.out]; exact h0), HFD.out]
              exact bodyPost_ret (v := .tuple #[.agg #[.int .i64 0, .int .i64 0], .int .i64 t3]) (by simp [results, go_sem, *]) rfl ⟨by rw [hX'], (by repeat (first | exact Below.refl _ _ | assumption | refine Below.drew ?_ | refine below_drewN ?_ _ | refine Below.alloc ?_ (by first | omega | (simp; done) | (simp; omega)) _ | refine Below.setCell ?_ (by first | omega | (simp; done) | (simp; omega)) _ | refine Below.trans ?_ (Below.mono (by assumption) (by first | omega | (simp; done) | (simp; omega)))))⟩
        · have hX' : chX a b zs = fd a b (upto (nb zs) j) := by rw [HX.out, show zs.length - 1 = j by omega]
          have d3 : decide ((j : Int) + 1 < (zs.length : Int)) = false := by simp; omega
          clear hfdE
          obtain ⟨p, q, t, hpq⟩ : ∃ p q t, fd a b (upto (nb zs) j) = (p, q, t) := ⟨_, _, _, rfl⟩
          rw [hpq] at hX' hB2 hok
          dsimp only at hok hB2
          subst hok
          have HX2 := Lib.hid hX'
          clear hX' hpq
          obtain ⟨⟨c00, c01, f00, f01⟩, c10, c11, f10, f11⟩ := hB2
          go_wp2_with fail
          exact bodyPost_ret (v := .tuple #[.agg #[.int .i64 p, .int .i64 q], .int .i64 0]) (by simp [results, go_sem, *]) rfl ⟨by rw [HX2.out], (by repeat (first | exact Below.refl _ _ | assumption | refine Below.drew ?_ | refine below_drewN ?_ _ | refine Below.alloc ?_ (by first | omega | (simp; done) | (simp; omega)) _ | refine Below.setCell ?_ (by first | omega | (simp; done) | (simp; omega)) _ | refine Below.trans ?_ (Below.mono (by assumption) (by first | omega | (simp; done) | (simp; omega)))))⟩
theorem rchain_any (a b : Int) (sa : Option Addr) (cap : Nat) (zs : List Int) (w : World) (hI : Ints w sa zs) :
    Calls Try.prog 13 #[.agg #[.int .i64 a, .int .i64 b], .slice sa zs.length cap] w (RetX (chX a b zs) w) := by
  cases h : usd a b
  · exact rchain_no1 a b sa cap zs (.inl h) w
  · by_cases h0 : zs.length = 0
    · exact rchain_no1 a b sa cap zs (.inr (.inl ⟨h, h0⟩)) w
    · by_cases h6 : zs.length ≤ 60
      · cases h3 : zs.all lmt
        · exact rchain_no2 a b sa cap zs h (by omega) h6 h3 w hI
        · exact rchain_yes a b sa cap zs h (by omega) h6 h3 w hI
      · exact rchain_no1 a b sa cap zs (.inr (.inr ⟨h, by omega, by omega⟩)) w
end Go.Proofs.Ytknfpdccidhhkaa
