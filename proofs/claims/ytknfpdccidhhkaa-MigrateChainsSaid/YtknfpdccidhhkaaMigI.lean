
/- Contracts: package migrate's Chain, all limits being limits. -/
import Derived.Test.YtknfpdccidhhkaaMigH
namespace Go.Proofs.Ytknfpdccidhhkaa
open Go.RowKit Go.Shelf

attribute [local go_sem] Oper.semAt_some
set_option maxRecDepth 100000 in
set_option maxHeartbeats 4000000 in
theorem chain_yes (a b : Int) (sa : Option Addr) (cap : Nat) (zs : List Int) (h : usd a b = true) (h1 : 1 ≤ zs.length) (h2 : zs.length ≤ 60) (h3 : zs.all lmt = true) (w : World) (hI : Ints w sa zs) :
    Calls Try.prog 12 #[.agg #[.int .i64 a, .int .i64 b], .slice sa zs.length cap] w (RetX (chX a b zs) w) := by
  have hx : chX a b zs = fd a b (upto (nb zs) (zs.length - 1)) := chX_yes (by unfold chOk; rw [h, h3, decide_eq_true h1, decide_eq_true h2]; rfl)
  have HX := Lib.hid hx
  have H3 := Lib.hid h3
  clear hx h3
  have HU := Lib.hid h
  have d1 : decide ((zs.length : Int) < 1) = false := by simp; omega
  have d2 : decide ((60 : Int) < (zs.length : Int)) = false := by simp; omega
  clear h
  obtain ⟨lb, lo, rfl, hc⟩ := hI.fam (by omega)
  have hlb : lb < w.heap.size := World.block_lt_of_cell? _ _ (hc 0 (by omega))
  have HC := Lib.hid hc
  clear hc hI
  refine (callsIn_wide (n := 3)).1 ?_
  refine callsIn_of_wp_marks Try.func12 rfl trivial ?_ rfl
  simp only [Try.ntmps12, List.size_toArray, List.length_cons, List.length_nil, Nat.reduceAdd, Nat.reduceSub, Array.replicate_succ, Array.replicate_zero, List.push_toArray, List.append_toArray, List.nil_append, List.cons_append]
  refine (wpIn_wide (n := 3)).2 ?_
  go_wp2_with fail
  refine Calls.mono (used_any a b _) ?_
  rw [HU.out]
  rintro e w1 ⟨rfl, hb1⟩; have hs1 := hb1.size; (try simp at hs1)
  have _c0 : w1.cell? ⟨w.heap.size, 0, none⟩ = some (.int .i64 a) := cell_later hb1 (by first | assumption | (simp [go_sem, *]; done) | exact cell_later' (by assumption) (by repeat (first | exact Below.refl _ _ | assumption | refine Below.drew ?_ | refine below_drewN ?_ _ | refine Below.alloc ?_ (by first | omega | (simp; done) | (simp; omega)) _ | refine Below.setCell ?_ (by first | omega | (simp; done) | (simp; omega)) _ | refine Below.trans ?_ (Below.mono (by assumption) (by first | omega | (simp; done) | (simp; omega)))))); have _f0 : w1.frozen? ⟨w.heap.size, 0, none⟩ = false := (hb1.frozen (p := ⟨w.heap.size, 0, none⟩) (by first | omega | (simp; done) | (simp; omega))).trans (by first | assumption | (simp [go_sem, *]; done) | exact frozen_later' (by assumption) (by first | omega | (simp; done) | (simp; omega)) (by repeat (first | exact Below.refl _ _ | assumption | refine Below.drew ?_ | refine below_drewN ?_ _ | refine Below.alloc ?_ (by first | omega | (simp; done) | (simp; omega)) _ | refine Below.setCell ?_ (by first | omega | (simp; done) | (simp; omega)) _ | refine Below.trans ?_ (Below.mono (by assumption) (by first | omega | (simp; done) | (simp; omega)))))); have _c1 : w1.cell? ⟨w.heap.size, 1, none⟩ = some (.int .i64 b) := cell_later hb1 (by first | assumption | (simp [go_sem, *]; done) | exact cell_later' (by assumption) (by repeat (first | exact Below.refl _ _ | assumption | refine Below.drew ?_ | refine below_drewN ?_ _ | refine Below.alloc ?_ (by first | omega | (simp; done) | (simp; omega)) _ | refine Below.setCell ?_ (by first | omega | (simp; done) | (simp; omega)) _ | refine Below.trans ?_ (Below.mono (by assumption) (by first | omega | (simp; done) | (simp; omega)))))); have _f1 : w1.frozen? ⟨w.heap.size, 1, none⟩ = false := (hb1.frozen (p := ⟨w.heap.size, 1, none⟩) (by first | omega | (simp; done) | (simp; omega))).trans (by first | assumption | (simp [go_sem, *]; done) | exact frozen_later' (by assumption) (by first | omega | (simp; done) | (simp; omega)) (by repeat (first | exact Below.refl _ _ | assumption | refine Below.drew ?_ | refine below_drewN ?_ _ | refine Below.alloc ?_ (by first | omega | (simp; done) | (simp; omega)) _ | refine Below.setCell ?_ (by first | omega | (simp; done) | (simp; omega)) _ | refine Below.trans ?_ (Below.mono (by assumption) (by first | omega | (simp; done) | (simp; omega)))))); have _c0 : w1.cell? ⟨w.heap.size + 1, 0, none⟩ = some (.int .i64 0) := cell_later hb1 (by first | assumption | (simp [go_sem, *]; done) | exact cell_later' (by assumption) (by repeat (first | exact Below.refl _ _ | assumption | refine Below.drew ?_ | refine below_drewN ?_ _ | refine Below.alloc ?_ (by first | omega | (simp; done) | (simp; omega)) _ | refine Below.setCell ?_ (by first | omega | (simp; done) | (simp; omega)) _ | refine Below.trans ?_ (Below.mono (by assumption) (by first | omega | (simp; done) | (simp; omega)))))); have _f0 : w1.frozen? ⟨w.heap.size + 1, 0, none⟩ = false := (hb1.frozen (p := ⟨w.heap.size + 1, 0, none⟩) (by first | omega | (simp; done) | (simp; omega))).trans (by first | assumption | (simp [go_sem, *]; done) | exact frozen_later' (by assumption) (by first | omega | (simp; done) | (simp; omega)) (by repeat (first | exact Below.refl _ _ | assumption | refine Below.drew ?_ | refine below_drewN ?_ _ | refine Below.alloc ?_ (by first | omega | (simp; done) | (simp; omega)) _ | refine Below.setCell ?_ (by first | omega | (simp; done) | (simp; omega)) _ | refine Below.trans ?_ (Below.mono (by assumption) (by first | omega | (simp; done) | (simp; omega)))))); have _c1 : w1.cell? ⟨w.heap.size + 1, 1, none⟩ = some (.int .i64 0) := cell_later hb1 (by first | assumption | (simp [go_sem, *]; done) | exact cell_later' (by assumption) (by repeat (first | exact Below.refl _ _ | assumption | refine Below.drew ?_ | refine below_drewN ?_ _ | refine Below.alloc ?_ (by first | omega | (simp; done) | (simp; omega)) _ | refine Below.setCell ?_ (by first | omega | (simp; done) | (simp; omega)) _ | refine Below.trans ?_ (Below.mono (by assumption) (by first | omega | (simp; done) | (simp; omega)))))); have _f1 : w1.frozen? ⟨w.heap.size + 1, 1, none⟩ = false := (hb1.frozen (p := ⟨w.heap.size + 1, 1, none⟩) (by first | omega | (simp; done) | (simp; omega))).trans (by first | assumption | (simp [go_sem, *]; done) | exact frozen_later' (by assumption) (by first | omega | (simp; done) | (simp; omega)) (by repeat (first | exact Below.refl _ _ | assumption | refine Below.drew ?_ | refine below_drewN ?_ _ | refine Below.alloc ?_ (by first | omega | (simp; done) | (simp; omega)) _ | refine Below.setCell ?_ (by first | omega | (simp; done) | (simp; omega)) _ | refine Below.trans ?_ (Below.mono (by assumption) (by first | omega | (simp; done) | (simp; omega)))))); have _c2 : w1.cell? ⟨w.heap.size + 1 + 1, 0, none⟩ = some (.int .i64 0) := cell_later hb1 (by first | assumption | (simp [go_sem, *]; done) | exact cell_later' (by assumption) (by repeat (first | exact Below.refl _ _ | assumption | refine Below.drew ?_ | refine below_drewN ?_ _ | refine Below.alloc ?_ (by first | omega | (simp; done) | (simp; omega)) _ | refine Below.setCell ?_ (by first | omega | (simp; done) | (simp; omega)) _ | refine Below.trans ?_ (Below.mono (by assumption) (by first | omega | (simp; done) | (simp; omega)))))); have _f2 : w1.frozen? ⟨w.heap.size + 1 + 1, 0, none⟩ = false := (hb1.frozen (p := ⟨w.heap.size + 1 + 1, 0, none⟩) (by first | omega | (simp; done) | (simp; omega))).trans (by first | assumption | (simp [go_sem, *]; done) | exact frozen_later' (by assumption) (by first | omega | (simp; done) | (simp; omega)) (by repeat (first | exact Below.refl _ _ | assumption | refine Below.drew ?_ | refine below_drewN ?_ _ | refine Below.alloc ?_ (by first | omega | (simp; done) | (simp; omega)) _ | refine Below.setCell ?_ (by first | omega | (simp; done) | (simp; omega)) _ | refine Below.trans ?_ (Below.mono (by assumption) (by first | omega | (simp; done) | (simp; omega))))))
  have hB : Bx3 w1 w.heap.size a b 0 0 0 := by unfold Bx3; (repeat' apply And.intro) <;> assumption
  have HB := Lib.hid hB
  clear hB
  go_wp2_with fail
  go_loopg [28] (zs.length + 1) (fun k v28 wr => ∃ i : Nat, i ≤ zs.length ∧ k + i = zs.length + 1 ∧ v28 = .int .i64 i ∧ Below w1.heap.size w1 wr)
  case atStart => exact ⟨0, by omega, by omega, rfl, Below.refl _ _⟩
  case round =>
    obtain ⟨i, hi, hki, rfl, hbr⟩ := hrel
    have hsr := hbr.size
    have hwr : Below w.heap.size w wr := (by repeat (first | exact Below.refl _ _ | assumption | refine Below.drew ?_ | refine below_drewN ?_ _ | refine Below.alloc ?_ (by first | omega | (simp; done) | (simp; omega)) _ | refine Below.setCell ?_ (by first | omega | (simp; done) | (simp; omega)) _ | refine Below.trans ?_ (Below.mono (by assumption) (by first | omega | (simp; done) | (simp; omega)))))
    by_cases hlt : i < zs.length
    · have z1 : (i : Int) < (zs.length : Int) := by omega
      have z0 : (0 : Int) ≤ (i : Int) := by omega
      have fc := cell_later hwr (HC.out i hlt)
      obtain ⟨n, hn⟩ : ∃ n, n = ig zs i := ⟨_, rfl⟩
      have hl : lmt n = true := by rw [hn, ig_lt hlt]; exact List.all_eq_true.1 H3.out _ (List.getElem_mem hlt)
      rw [← hn] at fc
      have HL := Lib.hid hl
      clear hn hl
      go_wp2_with fail
      refine Calls.mono (limit_any n _) ?_
      rw [HL.out]
      rintro e w2 ⟨rfl, hb2⟩
      have hs2 := hb2.size
      have hw2 : Below w1.heap.size w1 w2 := hbr.trans (hb2.mono (by omega))
      go_wp2_with fail
      go_roundg (zs.length - i)
      case measure => omega
      case rel => exact ⟨i + 1, by omega, by omega, by go_num, (by repeat (first | exact Below.refl _ _ | assumption | refine Below.drew ?_ | refine below_drewN ?_ _ | refine Below.alloc ?_ (by first | omega | (simp; done) | (simp; omega)) _ | refine Below.setCell ?_ (by first | omega | (simp; done) | (simp; omega)) _ | refine Below.trans ?_ (Below.mono (by assumption) (by first | omega | (simp; done) | (simp; omega)))))⟩
    · obtain rfl : i = zs.length := by omega
      go_wp2_with fail
      refine Calls.mono (pairs_any _ _ _ _) ?_
      rintro e w3 ⟨rfl, rfl⟩
      go_wp2_with fail
      refine (wpIn_wide (n := 3)).1 ?_
      have hBw := HB.out.later hbr
      refine' wpIn_rangeFunc_ownG (F := Fence.wide) (n := 3) rfl (by omega) (gf := 31) (lb := #[.pointer (some ⟨wr.heap.size, 0, none⟩)]) rfl trivial (enters_of Try.func31 (by kernel_rfl) rfl)
        (pairs_stops Fence.wide 2 trivial rfl (by omega) wr.heap.size w.heap.size lb lo zs.length cap zs (by omega) (by omega) hlb (wr.alloc (.cells #[.slice (some ⟨lb, lo, none⟩) zs.length cap] 24)) (by simp) (by simp; omega) (by simp [go_sem]) (fun j hj => cell_alloc (cell_later hwr (HC.out j hj)) _))
        (fun h k => Kp2.trans h k) (Kp2.putObj (by simp; omega) (by simp)) (Below.refl _ _) (fun _ => rfl)
        (fun pre W => (((fd a b pre).2.2 = 0 ∧ Bx3 W w.heap.size (fd a b pre).1 (fd a b pre).2.1 0 0 0) ∧ wr.heap.size < W.heap.size) ∧ Below w.heap.size w W)
        (fun c pre W => (c = .ret ∧ (fd a b pre).2.2 ≠ 0 ∧ ∃ x y, Bx3 W w.heap.size x y (fd a b pre).1 (fd a b pre).2.1 (fd a b pre).2.2) ∧ Below w.heap.size w W)
        (OwnFrom.and (Own.from (fun s A B row hs hg hr => ⟨⟨hs.1.1, hs.1.2.kept hg hr⟩, Nat.lt_of_lt_of_le hs.2 hg.size⟩) _) (ownFrom_below (Nat.le_refl _) (by simp; omega)))
        (fun c => OwnFrom.and (Own.from (fun s A B row hs hg hr => ⟨hs.1, hs.2.1, by obtain ⟨x, y, h⟩ := hs.2.2; exact ⟨x, y, h.kept hg hr⟩⟩) _) (ownFrom_below (Nat.le_refl _) (by simp; omega)))
        ⟨⟨⟨rfl, hBw.later ((Below.refl _ _).alloc (Nat.le_refl _) _)⟩, by simp⟩, hwr.alloc (by omega) _⟩ _ ?assign ?body ?done ?stop
      case assign =>
        intro l x W K hK
        gi_wp2
        exact hK
      case body =>
        rintro l pre ⟨x1, x2⟩ W ⟨⟨⟨hok, hB3⟩, hsz⟩, hbw⟩ _
        have hfd : fd a b (pre ++ [(x1, x2)]) = scX (fd a b pre).1 (fd a b pre).2.1 x1 x2 := by rw [fd_snoc]; unfold fdS; rw [if_pos hok]
        obtain ⟨p, hp⟩ : ∃ p, p = (fd a b pre).1 := ⟨_, rfl⟩
        obtain ⟨q, hq⟩ : ∃ q, q = (fd a b pre).2.1 := ⟨_, rfl⟩
        rw [← hp, ← hq] at hfd hB3
        obtain ⟨t1, t2, t3, ht⟩ : ∃ t1 t2 t3, scX p q x1 x2 = (t1, t2, t3) := ⟨_, _, _, rfl⟩
        have c := scale_any p q x1 x2 W
        rw [ht] at c
        rw [ht] at hfd
        have herr : t3 ≠ 0 → t1 = 0 ∧ t2 = 0 := fun h => by
          have := scX_err (a := p) (b := q) (n := x1) (m := x2)
          rw [ht] at this
          exact this h
        have HC1 := Lib.hid c
        have HFD := Lib.hid hfd
        have HE := Lib.hid herr
        have hsW : w.heap.size + 1 + 1 < W.heap.size := hB3.lt
        have HB3 := Lib.hid hB3
        clear hfd c herr hB3 hok hp hq ht
        by_cases h0 : t3 = 0
        · subst h0
          obtain ⟨⟨c00, c01, f00, f01⟩, ⟨c10, c11, f10, f11⟩, c20, f20⟩ := HB3.out
          gi_wp2_with fail
          refine ⟨trivial, (CallsIn.inRound l (callsIn_wide.2 HC1.out)).mono ?_⟩
          rintro e w2 ⟨rfl, hb2⟩
          have hs2 := hb2.size
          have hs3 : w.heap.size < w2.heap.size := by omega
          have hs4 : w.heap.size + 1 < w2.heap.size := by omega
          have hs5 : w.heap.size + 1 + 1 < w2.heap.size := by omega
          clear c00 c01 f00 f01 c10 c11 f10 f11 c20 f20
          obtain ⟨⟨c00, c01, f00, f01⟩, ⟨c10, c11, f10, f11⟩, c20, f20⟩ := HB3.out.later hb2
          gi_wp2_with fail
          have hb2' : Below w.heap.size W w2 := hb2.mono (by omega)
          have hB5 : Below w.heap.size W (((w2.setCell ⟨w.heap.size, 0, none⟩ (.int .i64 t1)).setCell ⟨w.heap.size, 1, none⟩ (.int .i64 t2)).alloc (.cells #[.int .i64 t1, .int .i64 t2] 23)) := ((hb2'.setCell (p := ⟨w.heap.size, 0, none⟩) (Nat.le_refl _) _).setCell (p := ⟨w.heap.size, 1, none⟩) (Nat.le_refl _) _).alloc (by simp; omega) _
          refine ⟨(keeps_below hb2).trans ((((KeepsOthers.setCell _ _ _).trans (KeepsOthers.setCell _ _ _)).trans (KeepsOthers.alloc _ _)).from _), ⟨hB5, ?_⟩, ⟨⟨by rw [HFD.out], ?_⟩, Nat.lt_of_lt_of_le hsz hB5.size⟩, hbw.trans hB5⟩
          · rw [World.cell?_alloc_lt _ _ _ (by simp; omega), World.cell?_setCell_far _ _ _ _ (by show w.heap.size ≠ wr.heap.size; omega), World.cell?_setCell_far _ _ _ _ (by show w.heap.size ≠ wr.heap.size; omega)]
            exact hb2.cell (p := ⟨wr.heap.size, 0, none⟩) hsz
          · rw [HFD.out]
            exact ((HB3.out.later hb2).life t1 t2).later ((Below.refl _ _).alloc (Nat.le_refl _) _)
        · have z0 : (t3 != 0) = true := by simpa using h0
          obtain ⟨⟨c00, c01, f00, f01⟩, ⟨c10, c11, f10, f11⟩, c20, f20⟩ := HB3.out
          gi_wp2_with fail
          refine ⟨trivial, (CallsIn.inRound l (callsIn_wide.2 HC1.out)).mono ?_⟩
          rintro e w2 ⟨rfl, hb2⟩
          have hs2 := hb2.size
          have hs3 : w.heap.size < w2.heap.size := by omega
          have hs4 : w.heap.size + 1 < w2.heap.size := by omega
          have hs5 : w.heap.size + 1 + 1 < w2.heap.size := by omega
          clear c00 c01 f00 f01 c10 c11 f10 f11 c20 f20
          obtain ⟨⟨c00, c01, f00, f01⟩, ⟨c10, c11, f10, f11⟩, c20, f20⟩ := HB3.out.later hb2
          gi_wp2_with fail
          obtain ⟨rfl, rfl⟩ := HE.out h0
          have hb2' : Below w.heap.size W w2 := hb2.mono (by omega)
          have hB5 : Below w.heap.size W ((((w2.setCell ⟨w.heap.size + 1, 0, none⟩ (.int .i64 0)).setCell ⟨w.heap.size + 1, 1, none⟩ (.int .i64 0)).setCell ⟨w.heap.size + 1 + 1, 0, none⟩ (.int .i64 t3)).alloc (.cells #[.int .i64 0, .int .i64 0] 23)) := (((hb2'.setCell (p := ⟨w.heap.size + 1, 0, none⟩) (by simp) _).setCell (p := ⟨w.heap.size + 1, 1, none⟩) (by simp) _).setCell (p := ⟨w.heap.size + 1 + 1, 0, none⟩) (by simp; omega) _).alloc (by simp; omega) _
          refine ⟨(keeps_below hb2).trans (((((KeepsOthers.setCell _ _ _).trans (KeepsOthers.setCell _ _ _)).trans (KeepsOthers.setCell _ _ _)).trans (KeepsOthers.alloc _ _)).from _), ⟨rfl, by rw [HFD.out]; exact h0, p, q, ?_⟩, hbw.trans hB5⟩
          rw [HFD.out]
          exact ((HB3.out.later hb2).res 0 0 t3).later ((Below.refl _ _).alloc (Nat.le_refl _) _)
      case done =>
        rintro D ys W hD rfl ⟨⟨⟨hok, hB3⟩, _⟩, hbw⟩ hK
        obtain ⟨⟨c00, c01, f00, f01⟩, ⟨c10, c11, f10, f11⟩, c20, f20⟩ := id hB3
        gi_wp2_with fail
        go_wp2_with fail
        have hK' := (((KeepsOthers.setCell W ⟨w.heap.size + 1, 0, none⟩ (.int .i64 (fd a b (upto (nb zs) (zs.length - 1))).1)).trans (KeepsOthers.setCell _ ⟨w.heap.size + 1, 1, none⟩ (.int .i64 (fd a b (upto (nb zs) (zs.length - 1))).2.1))).trans (KeepsOthers.setCell _ ⟨w.heap.size + 1 + 1, 0, none⟩ (.int .i64 0))).same D _ hK rfl
        have hb5 : Below w.heap.size w _ := ((hbw.setCell (p := ⟨w.heap.size + 1, 0, none⟩) (by simp) (.int .i64 (fd a b (upto (nb zs) (zs.length - 1))).1)).setCell (p := ⟨w.heap.size + 1, 1, none⟩) (by simp) (.int .i64 (fd a b (upto (nb zs) (zs.length - 1))).2.1)).setCell (p := ⟨w.heap.size + 1 + 1, 0, none⟩) (by simp; omega) (.int .i64 0)
        refine ⟨by simp, .inl ⟨_, _, rfl, run_takeDeferred hK', ?_⟩⟩
        have hB4 := (hB3.res (fd a b (upto (nb zs) (zs.length - 1))).1 (fd a b (upto (nb zs) (zs.length - 1))).2.1 0).kept (grownBy_putObj' _ D (.deferred none)) (fun r e => by cases e; exact ⟨_, hK', rfl⟩)
        have hb4 := hb5.trans (belowK_b (w := w) (Nat.le_refl _) _ D _ (.deferred none) (by simp at hD; omega) hK' rfl rfl)
        clear c00 c01 f00 f01 c10 c11 f10 f11 c20 f20
        obtain ⟨⟨c00, c01, f00, f01⟩, ⟨c10, c11, f10, f11⟩, c20, f20⟩ := hB4
        refine ⟨.tuple #[.agg #[.int .i64 (fd a b (upto (nb zs) (zs.length - 1))).1, .int .i64 (fd a b (upto (nb zs) (zs.length - 1))).2.1], .int .i64 0], ?_, by rw [HX.out, hok], hb4⟩
        simp [results, Try.f12, go_sem, c10, c11, c20]
      case stop =>
        rintro D c pre W hD ⟨k, hk, rfl⟩ ⟨⟨rfl, hne, x, y, hB3⟩, hbw⟩ hK
        gi_wp2_with fail
        refine ⟨by simp, .inl ⟨_, _, rfl, run_takeDeferred hK, ?_⟩⟩
        have hB4 := hB3.kept (grownBy_putObj' _ D (.deferred none)) (fun r e => by cases e; exact ⟨_, hK, rfl⟩)
        have hb4 := hbw.trans (belowK_b (w := w) (Nat.le_refl _) _ D _ (.deferred none) (by simp at hD; omega) hK rfl rfl)
        obtain ⟨⟨c00, c01, f00, f01⟩, ⟨c10, c11, f10, f11⟩, c20, f20⟩ := hB4
        rw [HX.out, fd_err (by omega) hne]
        refine ⟨.tuple #[.agg #[.int .i64 (fd a b (upto (nb zs) k)).1, .int .i64 (fd a b (upto (nb zs) k)).2.1], .int .i64 (fd a b (upto (nb zs) k)).2.2], ?_, rfl, hb4⟩
        simp [results, Try.f12, go_sem, c10, c11, c20]
/-- Chain, whatever is given -/
theorem chain_any (a b : Int) (sa : Option Addr) (cap : Nat) (zs : List Int) (w : World) (hI : Ints w sa zs) :
    Calls Try.prog 12 #[.agg #[.int .i64 a, .int .i64 b], .slice sa zs.length cap] w (RetX (chX a b zs) w) := by
  cases h : usd a b
  · exact chain_no1 a b sa cap zs (.inl h) w
  · by_cases h0 : zs.length = 0
    · exact chain_no1 a b sa cap zs (.inr (.inl ⟨h, h0⟩)) w
    · by_cases h6 : zs.length ≤ 60
      · cases h3 : zs.all lmt
        · exact chain_no2 a b sa cap zs h (by omega) h6 h3 w hI
        · exact chain_yes a b sa cap zs h (by omega) h6 h3 w hI
      · exact chain_no1 a b sa cap zs (.inr (.inr ⟨h, by omega, by omega⟩)) w
end Go.Proofs.Ytknfpdccidhhkaa
