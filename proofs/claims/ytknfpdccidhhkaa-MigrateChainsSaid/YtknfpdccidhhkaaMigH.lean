
/- Contracts: package migrate's Chain, the loops. -/
import Derived.Test.YtknfpdccidhhkaaMigC
namespace Go.Proofs.Ytknfpdccidhhkaa
open Go.RowKit Go.Shelf

/-- the three boxes of Chain: the life, both results -/
def Bx3 (W : World) (B : Nat) (x y p q e : Int) : Prop :=
  (W.cell? ⟨B, 0, none⟩ = some (.int .i64 x) ∧ W.cell? ⟨B, 1, none⟩ = some (.int .i64 y) ∧ W.frozen? ⟨B, 0, none⟩ = false ∧ W.frozen? ⟨B, 1, none⟩ = false) ∧
  (W.cell? ⟨B + 1, 0, none⟩ = some (.int .i64 p) ∧ W.cell? ⟨B + 1, 1, none⟩ = some (.int .i64 q) ∧ W.frozen? ⟨B + 1, 0, none⟩ = false ∧ W.frozen? ⟨B + 1, 1, none⟩ = false) ∧
  (W.cell? ⟨B + 1 + 1, 0, none⟩ = some (.int .i64 e) ∧ W.frozen? ⟨B + 1 + 1, 0, none⟩ = false)
theorem fr_later {W W1 : World} {a : Addr} {v : Value} (hb : Below W.heap.size W W1) (hc : W.cell? a = some v) (hf : W.frozen? a = false) : W1.frozen? a = false :=
  (hb.frozen (World.block_lt_of_cell? _ _ hc)).trans hf
theorem Bx3.later {W W1 : World} {B : Nat} {x y p q e : Int} (h : Bx3 W B x y p q e) (hb : Below W.heap.size W W1) : Bx3 W1 B x y p q e := by
  obtain ⟨⟨c0, c1, f0, f1⟩, ⟨c2, c3, f2, f3⟩, c4, f4⟩ := h
  exact ⟨⟨cell_later hb c0, cell_later hb c1, fr_later hb c0 f0, fr_later hb c1 f1⟩, ⟨cell_later hb c2, cell_later hb c3, fr_later hb c2 f2, fr_later hb c3 f3⟩, cell_later hb c4, fr_later hb c4 f4⟩
theorem Bx3.kept {W W1 : World} {row : Option Nat} {B : Nat} {x y p q e : Int} (h : Bx3 W B x y p q e) (hg : W.grownBy W1 row) (hr : ∀ r, row = some r → ∃ o : Obj, W.heap[r]? = some o ∧ o.isCells = false) : Bx3 W1 B x y p q e := by
  obtain ⟨⟨c0, c1, f0, f1⟩, ⟨c2, c3, f2, f3⟩, c4, f4⟩ := h
  exact ⟨⟨cell_kept c0 hg hr, cell_kept c1 hg hr, (frozen_kept c0 hg hr).trans f0, (frozen_kept c1 hg hr).trans f1⟩, ⟨cell_kept c2 hg hr, cell_kept c3 hg hr, (frozen_kept c2 hg hr).trans f2, (frozen_kept c3 hg hr).trans f3⟩, cell_kept c4 hg hr, (frozen_kept c4 hg hr).trans f4⟩
theorem Bx3.life {W : World} {B : Nat} {x y p q e : Int} (h : Bx3 W B x y p q e) (x' y' : Int) : Bx3 ((W.setCell ⟨B, 0, none⟩ (.int .i64 x')).setCell ⟨B, 1, none⟩ (.int .i64 y')) B x' y' p q e := by
  obtain ⟨⟨c0, c1, f0, f1⟩, ⟨c2, c3, f2, f3⟩, c4, f4⟩ := h
  unfold Bx3
  simp [go_sem, *]
theorem Bx3.res {W : World} {B : Nat} {x y p q e : Int} (h : Bx3 W B x y p q e) (p' q' e' : Int) : Bx3 (((W.setCell ⟨B + 1, 0, none⟩ (.int .i64 p')).setCell ⟨B + 1, 1, none⟩ (.int .i64 q')).setCell ⟨B + 1 + 1, 0, none⟩ (.int .i64 e')) B x y p' q' e' := by
  obtain ⟨⟨c0, c1, f0, f1⟩, ⟨c2, c3, f2, f3⟩, c4, f4⟩ := h
  unfold Bx3
  simp [go_sem, *]
theorem keeps_below {B : Nat} {W W' : World} (h : Below W.heap.size W W') : KeepsFrom B W W' := ⟨h.size, fun k _ _ h0 _ => (h.block k (Array.getElem?_eq_some_iff.1 h0).1).trans h0⟩
theorem Bx3.lt {W : World} {B : Nat} {x y p q e : Int} (h : Bx3 W B x y p q e) : B + 1 + 1 < W.heap.size := World.block_lt_of_cell? _ _ h.2.2.1

set_option maxRecDepth 100000 in
set_option maxHeartbeats 4000000 in
theorem chain_no2 (a b : Int) (sa : Option Addr) (cap : Nat) (zs : List Int) (h : usd a b = true) (h1 : 1 ≤ zs.length) (h2 : zs.length ≤ 60) (h3 : zs.all lmt = false) (w : World) (hI : Ints w sa zs) :
    Calls Try.prog 12 #[.agg #[.int .i64 a, .int .i64 b], .slice sa zs.length cap] w (RetX (chX a b zs) w) := by
  have hx : chX a b zs = (0, 0, 1) := chX_no (by unfold chOk; rw [h3]; simp)
  have HX := Lib.hid hx
  have H3 := Lib.hid h3
  clear hx h3
  have HU := Lib.hid h
  have d1 : decide ((zs.length : Int) < 1) = false := by simp; omega
  have d2 : decide ((60 : Int) < (zs.length : Int)) = false := by simp; omega
  clear h
  obtain ⟨lb, lo, rfl, hc⟩ := hI.fam (by omega)
  have HC := Lib.hid hc
  clear hc hI
  go_enter Try.func12, Try.ntmps12
  go_wp2_with fail
  refine Calls.mono (used_any a b _) ?_
  rw [HU.out]
  rintro e w1 ⟨rfl, hb1⟩; have hs1 := hb1.size; (try simp at hs1)
  have _c0 : w1.cell? ⟨w.heap.size, 0, none⟩ = some (.int .i64 a) := cell_later hb1 (by first | assumption | (simp [go_sem, *]; done) | exact cell_later' (by assumption) (by repeat (first | exact Below.refl _ _ | assumption | refine Below.drew ?_ | refine below_drewN ?_ _ | refine Below.alloc ?_ (by first | omega | (simp; done) | (simp; omega)) _ | refine Below.setCell ?_ (by first | omega | (simp; done) | (simp; omega)) _ | refine Below.trans ?_ (Below.mono (by assumption) (by first | omega | (simp; done) | (simp; omega)))))); have _f0 : w1.frozen? ⟨w.heap.size, 0, none⟩ = false := (hb1.frozen (p := ⟨w.heap.size, 0, none⟩) (by first | omega | (simp; done) | (simp; omega))).trans (by first | assumption | (simp [go_sem, *]; done) | exact frozen_later' (by assumption) (by first | omega | (simp; done) | (simp; omega)) (by repeat (first | exact Below.refl _ _ | assumption | refine Below.drew ?_ | refine below_drewN ?_ _ | refine Below.alloc ?_ (by first | omega | (simp; done) | (simp; omega)) _ | refine Below.setCell ?_ (by first | omega | (simp; done) | (simp; omega)) _ | refine Below.trans ?_ (Below.mono (by assumption) (by first | omega | (simp; done) | (simp; omega)))))); have _c1 : w1.cell? ⟨w.heap.size, 1, none⟩ = some (.int .i64 b) := cell_later hb1 (by first | assumption | (simp [go_sem, *]; done) | exact cell_later' (by assumption) (by repeat (first | exact Below.refl _ _ | assumption | refine Below.drew ?_ | refine below_drewN ?_ _ | refine Below.alloc ?_ (by first | omega | (simp; done) | (simp; omega)) _ | refine Below.setCell ?_ (by first | omega | (simp; done) | (simp; omega)) _ | refine Below.trans ?_ (Below.mono (by assumption) (by first | omega | (simp; done) | (simp; omega)))))); have _f1 : w1.frozen? ⟨w.heap.size, 1, none⟩ = false := (hb1.frozen (p := ⟨w.heap.size, 1, none⟩) (by first | omega | (simp; done) | (simp; omega))).trans (by first | assumption | (simp [go_sem, *]; done) | exact frozen_later' (by assumption) (by first | omega | (simp; done) | (simp; omega)) (by repeat (first | exact Below.refl _ _ | assumption | refine Below.drew ?_ | refine below_drewN ?_ _ | refine Below.alloc ?_ (by first | omega | (simp; done) | (simp; omega)) _ | refine Below.setCell ?_ (by first | omega | (simp; done) | (simp; omega)) _ | refine Below.trans ?_ (Below.mono (by assumption) (by first | omega | (simp; done) | (simp; omega)))))); have _c0 : w1.cell? ⟨w.heap.size + 1, 0, none⟩ = some (.int .i64 0) := cell_later hb1 (by first | assumption | (simp [go_sem, *]; done) | exact cell_later' (by assumption) (by repeat (first | exact Below.refl _ _ | assumption | refine Below.drew ?_ | refine below_drewN ?_ _ | refine Below.alloc ?_ (by first | omega | (simp; done) | (simp; omega)) _ | refine Below.setCell ?_ (by first | omega | (simp; done) | (simp; omega)) _ | refine Below.trans ?_ (Below.mono (by assumption) (by first | omega | (simp; done) | (simp; omega)))))); have _f0 : w1.frozen? ⟨w.heap.size + 1, 0, none⟩ = false := (hb1.frozen (p := ⟨w.heap.size + 1, 0, none⟩) (by first | omega | (simp; done) | (simp; omega))).trans (by first | assumption | (simp [go_sem, *]; done) | exact frozen_later' (by assumption) (by first | omega | (simp; done) | (simp; omega)) (by repeat (first | exact Below.refl _ _ | assumption | refine Below.drew ?_ | refine below_drewN ?_ _ | refine Below.alloc ?_ (by first | omega | (simp; done) | (simp; omega)) _ | refine Below.setCell ?_ (by first | omega | (simp; done) | (simp; omega)) _ | refine Below.trans ?_ (Below.mono (by assumption) (by first | omega | (simp; done) | (simp; omega)))))); have _c1 : w1.cell? ⟨w.heap.size + 1, 1, none⟩ = some (.int .i64 0) := cell_later hb1 (by first | assumption | (simp [go_sem, *]; done) | exact cell_later' (by assumption) (by repeat (first | exact Below.refl _ _ | assumption | refine Below.drew ?_ | refine below_drewN ?_ _ | refine Below.alloc ?_ (by first | omega | (simp; done) | (simp; omega)) _ | refine Below.setCell ?_ (by first | omega | (simp; done) | (simp; omega)) _ | refine Below.trans ?_ (Below.mono (by assumption) (by first | omega | (simp; done) | (simp; omega)))))); have _f1 : w1.frozen? ⟨w.heap.size + 1, 1, none⟩ = false := (hb1.frozen (p := ⟨w.heap.size + 1, 1, none⟩) (by first | omega | (simp; done) | (simp; omega))).trans (by first | assumption | (simp [go_sem, *]; done) | exact frozen_later' (by assumption) (by first | omega | (simp; done) | (simp; omega)) (by repeat (first | exact Below.refl _ _ | assumption | refine Below.drew ?_ | refine below_drewN ?_ _ | refine Below.alloc ?_ (by first | omega | (simp; done) | (simp; omega)) _ | refine Below.setCell ?_ (by first | omega | (simp; done) | (simp; omega)) _ | refine Below.trans ?_ (Below.mono (by assumption) (by first | omega | (simp; done) | (simp; omega)))))); have _c2 : w1.cell? ⟨w.heap.size + 1 + 1, 0, none⟩ = some (.int .i64 0) := cell_later hb1 (by first | assumption | (simp [go_sem, *]; done) | exact cell_later' (by assumption) (by repeat (first | exact Below.refl _ _ | assumption | refine Below.drew ?_ | refine below_drewN ?_ _ | refine Below.alloc ?_ (by first | omega | (simp; done) | (simp; omega)) _ | refine Below.setCell ?_ (by first | omega | (simp; done) | (simp; omega)) _ | refine Below.trans ?_ (Below.mono (by assumption) (by first | omega | (simp; done) | (simp; omega)))))); have _f2 : w1.frozen? ⟨w.heap.size + 1 + 1, 0, none⟩ = false := (hb1.frozen (p := ⟨w.heap.size + 1 + 1, 0, none⟩) (by first | omega | (simp; done) | (simp; omega))).trans (by first | assumption | (simp [go_sem, *]; done) | exact frozen_later' (by assumption) (by first | omega | (simp; done) | (simp; omega)) (by repeat (first | exact Below.refl _ _ | assumption | refine Below.drew ?_ | refine below_drewN ?_ _ | refine Below.alloc ?_ (by first | omega | (simp; done) | (simp; omega)) _ | refine Below.setCell ?_ (by first | omega | (simp; done) | (simp; omega)) _ | refine Below.trans ?_ (Below.mono (by assumption) (by first | omega | (simp; done) | (simp; omega))))))
  have hB : Bx3 w1 w.heap.size a b 0 0 0 := by unfold Bx3; (repeat' apply And.intro) <;> assumption
  have HB := Lib.hid hB
  clear hB
  go_wp2_with fail
  go_loopg [28] (zs.length + 1) (fun k v28 wr => ∃ i : Nat, i ≤ zs.length ∧ k + i = zs.length + 1 ∧ v28 = .int .i64 i ∧ Below w1.heap.size w1 wr ∧ ∀ j, j < i → lmt (ig zs j) = true)
  case atStart => exact ⟨0, by omega, by omega, rfl, Below.refl _ _, fun r hr => absurd hr (by omega)⟩
  case round =>
    obtain ⟨i, hi, hki, rfl, hbr, hall⟩ := hrel
    have HA := Lib.hid hall
    clear hall
    have hsr := hbr.size
    have hwr : Below w.heap.size w wr := (by repeat (first | exact Below.refl _ _ | assumption | refine Below.drew ?_ | refine below_drewN ?_ _ | refine Below.alloc ?_ (by first | omega | (simp; done) | (simp; omega)) _ | refine Below.setCell ?_ (by first | omega | (simp; done) | (simp; omega)) _ | refine Below.trans ?_ (Below.mono (by assumption) (by first | omega | (simp; done) | (simp; omega)))))
    by_cases hlt : i < zs.length
    · have z1 : (i : Int) < (zs.length : Int) := by omega
      have z0 : (0 : Int) ≤ (i : Int) := by omega
      have fc := cell_later hwr (HC.out i hlt)
      obtain ⟨n, hn⟩ : ∃ n, n = ig zs i := ⟨_, rfl⟩
      rw [← hn] at fc
      have HN := Lib.hid hn
      clear hn
      cases hl : lmt n
      · have HL := Lib.hid hl
        clear hl
        obtain ⟨⟨c00, c01, f00, f01⟩, ⟨c10, c11, f10, f11⟩, c20, f20⟩ := HB.out.later hbr
        go_wp2_with fail
        refine Calls.mono (limit_any n _) ?_
        rw [HL.out]
        rintro e w2 ⟨rfl, hb2⟩
        have hs2 := hb2.size
        obtain ⟨⟨c00, c01, f00, f01⟩, ⟨c10, c11, f10, f11⟩, c20, f20⟩ := (HB.out.later hbr).later hb2
        have hw2 : Below w.heap.size w w2 := hwr.trans (hb2.mono (by omega))
        go_wp2_with fail
        (exact bodyPost_ret (v := .tuple #[.agg #[.int .i64 0, .int .i64 0], .int .i64 1]) (by simp [results, go_sem, *]) rfl ⟨by rw [HX.out], (by repeat (first | exact Below.refl _ _ | assumption | refine Below.drew ?_ | refine below_drewN ?_ _ | refine Below.alloc ?_ (by first | omega | (simp; done) | (simp; omega)) _ | refine Below.setCell ?_ (by first | omega | (simp; done) | (simp; omega)) _ | refine Below.trans ?_ (Below.mono (by assumption) (by first | omega | (simp; done) | (simp; omega)))))⟩)
      · have HL := Lib.hid hl
        clear hl
        go_wp2_with fail
        refine Calls.mono (limit_any n _) ?_
        rw [HL.out]
        rintro e w2 ⟨rfl, hb2⟩
        have hs2 := hb2.size
        have hw2 : Below w1.heap.size w1 w2 := hbr.trans (hb2.mono (by omega))
        go_wp2_with fail
        go_roundg (zs.length - i)
        case measure => omega
        case rel => exact ⟨i + 1, by omega, by omega, by go_num, (by repeat (first | exact Below.refl _ _ | assumption | refine Below.drew ?_ | refine below_drewN ?_ _ | refine Below.alloc ?_ (by first | omega | (simp; done) | (simp; omega)) _ | refine Below.setCell ?_ (by first | omega | (simp; done) | (simp; omega)) _ | refine Below.trans ?_ (Below.mono (by assumption) (by first | omega | (simp; done) | (simp; omega))))), fun r hr => by
          rcases Nat.lt_succ_iff_lt_or_eq.1 hr with h | h
          · exact HA.out r h
          · subst h; rw [← HN.out]; exact HL.out⟩
    · exfalso
      have : zs.all lmt = true := List.all_eq_true.2 fun x hx => by
        obtain ⟨j, hj, rfl⟩ := List.getElem_of_mem hx
        rw [← ig_lt hj]
        exact HA.out j (by omega)
      rw [H3.out] at this
      cases this
end Go.Proofs.Ytknfpdccidhhkaa
