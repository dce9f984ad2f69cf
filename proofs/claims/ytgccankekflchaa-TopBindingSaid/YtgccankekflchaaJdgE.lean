

/- Contracts of package judge: situationOf. -/
import Derived.Test.YtgccankekflchaaJdgD
import Derived.Deep.LoopGhost
import Derived.Deep.Light
namespace Go.Proofs.Ytgccankekflchaa
open Go.RowKit

abbrev psV (p : Pos) (sa : Option Addr) (sc : Nat) (fa : Option Addr) (fc : Nat) : Value := .agg #[.int .i64 p.turn, .slice sa p.starts.length sc, .slice fa p.failed.length fc, .int .i64 p.budget, .int .i64 p.choice, .int .i64 p.bound]
structure PsAt (w : World) (p : Pos) (sa fa : Option Addr) : Prop where
  s : Ints w sa p.starts
  f : Bools w fa p.failed
theorem PsAt.later {w w1 : World} {p : Pos} {sa fa : Option Addr} (h : PsAt w p sa fa) (hb : Below w.heap.size w w1) : PsAt w1 p sa fa := ⟨h.s.later hb, h.f.later hb⟩

/-- the ten cells of a situation's block -/
structure SitBox (w : World) (B : Nat) (t b m s0 s1 s2 s3 s4 s5 f : Int) : Prop where
  c0 : w.cell? ⟨B, 0, none⟩ = some (.int .i64 t)
  c1 : w.cell? ⟨B, 1, none⟩ = some (.int .i64 b)
  c2 : w.cell? ⟨B, 2, none⟩ = some (.int .i64 m)
  c3 : w.cell? ⟨B, 3, none⟩ = some (.int .i64 s0)
  c4 : w.cell? ⟨B, 4, none⟩ = some (.int .i64 s1)
  c5 : w.cell? ⟨B, 5, none⟩ = some (.int .i64 s2)
  c6 : w.cell? ⟨B, 6, none⟩ = some (.int .i64 s3)
  c7 : w.cell? ⟨B, 7, none⟩ = some (.int .i64 s4)
  c8 : w.cell? ⟨B, 8, none⟩ = some (.int .i64 s5)
  c9 : w.cell? ⟨B, 9, none⟩ = some (.int .i64 f)
  fr : ∀ j, j < 10 → w.frozen? ⟨B, j, none⟩ = false
theorem SitBox.lt {w : World} {B : Nat} {t b m s0 s1 s2 s3 s4 s5 f : Int} (h : SitBox w B t b m s0 s1 s2 s3 s4 s5 f) : B < w.heap.size := World.block_lt_of_cell? _ _ h.c0
theorem SitBox.later {w w1 : World} {B : Nat} {t b m s0 s1 s2 s3 s4 s5 f : Int} (h : SitBox w B t b m s0 s1 s2 s3 s4 s5 f) (hb : Below w.heap.size w w1) : SitBox w1 B t b m s0 s1 s2 s3 s4 s5 f :=
  ⟨cell_later hb h.c0, cell_later hb h.c1, cell_later hb h.c2, cell_later hb h.c3, cell_later hb h.c4, cell_later hb h.c5, cell_later hb h.c6, cell_later hb h.c7, cell_later hb h.c8, cell_later hb h.c9, fun j hj => (hb.frozen (p := ⟨B, j, none⟩) h.lt).trans (h.fr j hj)⟩
theorem cell_ne {w : World} {n m o k : Nat} {v u : Value} (h : w.cell? ⟨n, o, none⟩ = some v) (hne : n ≠ m ∨ o ≠ k) : (w.setCell ⟨m, k, none⟩ u).cell? ⟨n, o, none⟩ = some v := by
  rw [World.cell?_setCell_other _ _ _ _ (by intro e; rcases hne with h | h; exact h (congrArg Addr.block e).symm; exact h (congrArg Addr.off e).symm)]
  exact h
theorem SitBox.other {w : World} {B M k : Nat} {u : Value} {t b m s0 s1 s2 s3 s4 s5 f : Int} (h : SitBox w B t b m s0 s1 s2 s3 s4 s5 f) (hne : B ≠ M) : SitBox (w.setCell ⟨M, k, none⟩ u) B t b m s0 s1 s2 s3 s4 s5 f :=
  ⟨cell_ne h.c0 (.inl hne), cell_ne h.c1 (.inl hne), cell_ne h.c2 (.inl hne), cell_ne h.c3 (.inl hne), cell_ne h.c4 (.inl hne), cell_ne h.c5 (.inl hne), cell_ne h.c6 (.inl hne), cell_ne h.c7 (.inl hne), cell_ne h.c8 (.inl hne), cell_ne h.c9 (.inl hne), fun j hj => by rw [World.frozen?_setCell]; exact h.fr j hj⟩
theorem SitBox.bits {w : World} {B : Nat} {t b m s0 s1 s2 s3 s4 s5 f : Int} (h : SitBox w B t b m s0 s1 s2 s3 s4 s5 f) (f' : Int) : SitBox (w.setCell ⟨B, 9, none⟩ (.int .i64 f')) B t b m s0 s1 s2 s3 s4 s5 f' :=
  ⟨cell_ne h.c0 (.inr (by decide)), cell_ne h.c1 (.inr (by decide)), cell_ne h.c2 (.inr (by decide)), cell_ne h.c3 (.inr (by decide)), cell_ne h.c4 (.inr (by decide)), cell_ne h.c5 (.inr (by decide)), cell_ne h.c6 (.inr (by decide)), cell_ne h.c7 (.inr (by decide)), cell_ne h.c8 (.inr (by decide)), World.cell?_setCell_same _ _ _ h.c9, fun j hj => by rw [World.frozen?_setCell]; exact h.fr j hj⟩
theorem SitBox.setCells {w : World} {B M k : Nat} {vs : List Value} {t b m s0 s1 s2 s3 s4 s5 f : Int} (h : SitBox w B t b m s0 s1 s2 s3 s4 s5 f) (hne : B ≠ M) : SitBox (w.setCells M k vs) B t b m s0 s1 s2 s3 s4 s5 f := by
  induction vs generalizing w k with
  | nil => exact h
  | cons v vs ih => exact ih (h.other hne)
/-- the starts are copied in -/
theorem SitBox.copied {w : World} {B : Nat} {t b m f : Int} {l : List Int} (h : SitBox w B t b m 0 0 0 0 0 0 f) (hl : l.length ≤ 6) : SitBox (w.setCells B 3 (l.map (Value.int .i64))) B t b m (ig l 0) (ig l 1) (ig l 2) (ig l 3) (ig l 4) (ig l 5) f := by
  have hs : ∀ j, j < (l.map (Value.int .i64)).length → (w.cell? ⟨B, 3 + j, none⟩).isSome = true := fun j hj => by
    simp at hj
    have : j = 0 ∨ j = 1 ∨ j = 2 ∨ j = 3 ∨ j = 4 ∨ j = 5 := by omega
    rcases this with rfl | rfl | rfl | rfl | rfl | rfl
    · rw [show 3 + 0 = 3 from rfl, h.c3]; rfl
    · rw [show 3 + 1 = 4 from rfl, h.c4]; rfl
    · rw [show 3 + 2 = 5 from rfl, h.c5]; rfl
    · rw [show 3 + 3 = 6 from rfl, h.c6]; rfl
    · rw [show 3 + 4 = 7 from rfl, h.c7]; rfl
    · rw [show 3 + 5 = 8 from rfl, h.c8]; rfl
  have inn : ∀ j, w.cell? ⟨B, 3 + j, none⟩ = some (.int .i64 0) → (w.setCells B 3 (l.map (Value.int .i64))).cell? ⟨B, 3 + j, none⟩ = some (.int .i64 (ig l j)) := fun j h0 => by
    by_cases hj : j < l.length
    · rw [World.cell?_setCells_in B _ 3 w hs j (by simpa using hj)]
      simp [ig_lt hj]
    · rw [World.cell?_setCells_out B _ 3 w _ (fun _ _ => .inr (by simp; omega)), h0]
      have : ig l j = 0 := by simp [ig, List.getD, List.getElem?_eq_none (Nat.le_of_not_lt hj)]
      rw [this]
  have out : ∀ j v, j < 3 ∨ 9 ≤ j → w.cell? ⟨B, j, none⟩ = some v → (w.setCells B 3 (l.map (Value.int .i64))).cell? ⟨B, j, none⟩ = some v := fun j v hj h0 => by
    rw [World.cell?_setCells_out B _ 3 w _ (fun _ _ => by simp; omega), h0]
  exact ⟨out 0 _ (by omega) h.c0, out 1 _ (by omega) h.c1, out 2 _ (by omega) h.c2, inn 0 h.c3, inn 1 h.c4, inn 2 h.c5, inn 3 h.c6, inn 4 h.c7, inn 5 h.c8, out 9 _ (by omega) h.c9, fun j hj => by rw [World.frozen?_setCells]; exact h.fr j hj⟩
/-- copy of numbers into the cells of a block -/
theorem run_copy_ints {dT sT ty : TypeId} (hu : Try.prog.underlying dT = some (.slice 3)) {w : World} {B o dLen dCap sCap : Nat} {sa : Option Addr} {l : List Int} (hI : Ints w sa l) (hl : l.length ≤ dLen)
    (hc : ∀ j, j < l.length → (w.cell? ⟨B, o + j, none⟩).isSome = true) (hf : ∀ j, j < l.length → w.frozen? ⟨B, o + j, none⟩ = false) :
    (Builtin.copy_ #[dT, sT] ty #[.slice (some ⟨B, o, none⟩) dLen dCap, .slice sa l.length sCap]).run Try.prog w = .ok (.int .i64 l.length) (w.setCells B o (l.map (Value.int .i64))) := by
  have hs : (Try.prog.info? 3).map (·.size) = some 1 := by kernel_rfl
  by_cases h0 : l.length = 0
  · obtain rfl : l = [] := List.eq_nil_of_length_eq_zero h0
    exact run_copy_none w dT sT ty 3 _ _ _ _ _ _ hu hs (by simp)
  · obtain ⟨b, off, rfl, fc⟩ := hI.fam (by omega)
    have := run_copy_cells (P := Try.prog) w dT sT ty 3 B o dLen dCap ⟨b, off, none⟩ l.length sCap (l.map (Value.int .i64)) hu hs (by rw [List.length_map]; exact (Nat.min_eq_left hl).symm) (fun j v hj => ?_) (by simpa using hc) (by simpa using hf) (by simp [Value.oneCell'])
    · simpa [goInt] using this
    · have hj' : j < l.length := by
        rcases Nat.lt_or_ge j l.length with h | h
        · exact h
        · rw [List.getElem?_eq_none (by simpa using h)] at hj; cases hj
      rw [List.getElem?_map, List.getElem?_eq_getElem hj'] at hj
      simp at hj
      subst hj
      have e : (Addr.add ⟨b, off, none⟩ j) = ⟨b, off + j, none⟩ := by
        unfold Addr.add
        by_cases hz : j = 0
        · subst hz; rw [if_pos rfl]; rfl
        · rw [if_neg hz]
      rw [e, fc j hj', ig_lt hj']
set_option maxRecDepth 100000 in
set_option maxHeartbeats 4000000 in
theorem sitOf_yes (p : Pos) (sa fa : Option Addr) (sc fc : Nat) (w : World) (hP : PsAt w p sa fa) (hf : Fit6 p.st) :
    Calls Try.prog 33 #[psV p sa sc fa fc] w (RetB (.tuple #[sitV p.st, .bool true]) w) := by
  have hm : p.starts.length ≤ 6 := hf.m
  have hfl : p.failed.length = p.starts.length := hf.f
  have d1 : decide ((6 : Int) < (p.starts.length : Int)) = false := by simp; omega
  have HP := Lib.hid hP
  have HF := Lib.hid hfl
  clear hP hf
  unfold psV
  rw [hfl]
  clear hfl
  go_enter Try.func33, Try.ntmps33
  go_wp2_with fail
  obtain ⟨wx, hwx⟩ : ∃ wx, wx = ((w.alloc (Obj.cells #[.int .i64 p.turn, .slice sa p.starts.length sc, .slice fa p.starts.length fc, .int .i64 p.budget, .int .i64 p.choice, .int .i64 p.bound] 57)).alloc (Obj.cells #[.int .i64 0, .int .i64 0, .int .i64 0, .int .i64 0, .int .i64 0, .int .i64 0, .int .i64 0, .int .i64 0, .int .i64 0, .int .i64 0] 76)).alloc (Obj.cells #[.int .i64 p.turn, .int .i64 p.budget, .int .i64 p.starts.length, .int .i64 0, .int .i64 0, .int .i64 0, .int .i64 0, .int .i64 0, .int .i64 0, .int .i64 0] 76) := ⟨_, rfl⟩
  rw [← hwx]
  have hbx : Below w.heap.size w wx := by rw [hwx]; exact (by repeat (first | exact Below.refl _ _ | assumption | refine Below.drew ?_ | refine below_drewN ?_ _ | refine Below.alloc ?_ (by first | omega | (simp; done) | (simp; omega)) _ | refine Below.setCell ?_ (by first | omega | (simp; done) | (simp; omega)) _ | refine Below.trans ?_ (Below.mono (by assumption) (by first | omega | (simp; done) | (simp; omega)))))
  have hsz : wx.heap.size = w.heap.size + 1 + 1 + 1 := by rw [hwx]; simp
  have b1 : wx.cell? ⟨w.heap.size, 1, none⟩ = some (.slice sa p.starts.length sc) := by rw [hwx]; simp [go_sem]
  have b2 : wx.cell? ⟨w.heap.size, 2, none⟩ = some (.slice fa p.starts.length fc) := by rw [hwx]; simp [go_sem]
  have x1 : SitBox wx (w.heap.size + 1) 0 0 0 0 0 0 0 0 0 0 := by rw [hwx]; constructor <;> first | (simp [go_sem]; done) | (intro j _; simp [go_sem])
  have x2 : SitBox wx (w.heap.size + 1 + 1) p.turn p.budget p.starts.length 0 0 0 0 0 0 0 := by rw [hwx]; constructor <;> first | (simp [go_sem]; done) | (intro j _; simp [go_sem])
  clear hwx
  have hS : ∀ wy : World, Below wx.heap.size wx wy → wy.cell? ⟨w.heap.size, 1, none⟩ = some (.slice sa p.starts.length sc) := fun wy hy => cell_later hy b1
  (refine wp_flow_n 4 _ [] [] (fun w' w'' => w'' = w'.setCells (w.heap.size + 1 + 1) 3 (p.starts.map (Value.int .i64))) (.int .i64 p.starts.length) (by rfl) (by kernel_rfl) (by kernel_rfl) (by kernel_rfl) (by kernel_rfl) ?_); simp only [List.take_succ_cons, List.take_zero]
  repeat (first | ((with_reducible refine Flow.pure hS StayG.nil (v := ?_) ?_ ?_ ?_ ?_); rotate_left 1; (focus kernel_rfl); (focus (intro _; rfl)); (focus (intro β wx hSw; (try dsimp only at hSw); go_simp; (try with_reducible rfl); done)); (try simp only [Act.put, List.setIfInBounds_toArray, List.set_cons_zero, List.set_cons_succ, Nat.reduceAdd])))
  ((with_reducible refine Flow.stop ?_); dsimp only; intro β w3 hI)
  have hb3 := hI.below
  have y2 := x2.later hb3
  have hI3 : Ints w3 sa p.starts := (HP.out.s.later hbx).later hb3
  have hsm := hb3.size
  refine ⟨rfl, fun K' hK => ?_, fun w4 hE => ?_⟩
  · have hrun := run_copy_ints (dT := 22) (sT := 22) (ty := 3) Try.underlying22 (B := w.heap.size + 1 + 1) (o := 3) (dLen := 6) (dCap := 6) (sCap := sc) hI3 hm (fun j hj => ?_) (fun j hj => y2.fr _ (by omega))
    · have HR := Lib.hid hrun
      clear hrun
      go_simp
      rw [HR.out]
      exact hK.out _ rfl
    · have : j = 0 ∨ j = 1 ∨ j = 2 ∨ j = 3 ∨ j = 4 ∨ j = 5 := by omega
      rcases this with rfl | rfl | rfl | rfl | rfl | rfl
      · rw [show 3 + 0 = 3 from rfl, y2.c3]; rfl
      · rw [show 3 + 1 = 4 from rfl, y2.c4]; rfl
      · rw [show 3 + 2 = 5 from rfl, y2.c5]; rfl
      · rw [show 3 + 3 = 6 from rfl, y2.c6]; rfl
      · rw [show 3 + 4 = 7 from rfl, y2.c7]; rfl
      · rw [show 3 + 5 = 8 from rfl, y2.c8]; rfl
  · obtain ⟨w5, hw5⟩ : ∃ w5, w5 = w4 := ⟨_, rfl⟩
    rw [← hw5] at hE
    rw [← hw5]
    clear hw5
    have hs4 : w4.heap.size = w4.heap.size := rfl
    clear hs4
    have z1 : SitBox w5 (w.heap.size + 1) 0 0 0 0 0 0 0 0 0 0 := by rw [hE]; exact (x1.later hb3).setCells (by omega)
    have z2 : SitBox w5 (w.heap.size + 1 + 1) p.turn p.budget p.starts.length (ig p.starts 0) (ig p.starts 1) (ig p.starts 2) (ig p.starts 3) (ig p.starts 4) (ig p.starts 5) 0 := by rw [hE]; exact y2.copied hm
    have hk5 : Below w.heap.size w w5 := by
      rw [hE]
      exact below_setCells _ _ _ _ (hbx.trans (hb3.mono (by omega))) (by omega)
    have b5 : w5.cell? ⟨w.heap.size, 2, none⟩ = some (.slice fa p.starts.length fc) := by
      rw [hE, World.cell?_setCells_out _ _ _ _ _ (fun e => by exfalso; have : w.heap.size = w.heap.size + 1 + 1 := e; omega)]
      exact cell_later hb3 b2
    clear hE hI3 hI hb3 hsm x1 x2 y2 b1 b2 hbx hsz hS
    have Z1 := Lib.hid z1
    have Z2 := Lib.hid z2
    clear z1 z2
    simp only [List.setIfInBounds_toArray, List.set_cons_zero, List.set_cons_succ]
    go_wp2_with fail
    go_loopg [35] (p.starts.length + 1) (fun g v35 wr => ∃ k : Nat, k ≤ p.starts.length ∧ g + k = p.starts.length + 1 ∧ v35 = .int .i64 k ∧ Below w.heap.size w wr ∧ SitBox wr (w.heap.size + 1) 0 0 0 0 0 0 0 0 0 0 ∧ SitBox wr (w.heap.size + 1 + 1) p.turn p.budget p.starts.length (ig p.starts 0) (ig p.starts 1) (ig p.starts 2) (ig p.starts 3) (ig p.starts 4) (ig p.starts 5) (bitsU p.failed k))
    case atStart => exact ⟨0, by omega, by omega, rfl, hk5, Z1.out, Z2.out⟩
    case round =>
      obtain ⟨k, hk, hgk, rfl, hwr, q1, q2⟩ := hrel
      clear Z1 Z2 hk5 b5
      have Q1 := Lib.hid q1
      have Q2 := Lib.hid q2
      have hsr := hwr.size
      by_cases hlt : k < p.starts.length
      · obtain ⟨fb, fo, rfl, ff⟩ := HP.out.f.fam (show 0 < p.failed.length by rw [HF.out]; omega)
        have hcf := cell_later hwr (ff k (by rw [HF.out]; exact hlt))
        clear ff
        have g1 : (k : Int) < (p.starts.length : Int) := by omega
        have g0 : (0 : Int) ≤ (k : Int) := by omega
        cases hbk : bg p.failed k
        · rw [hbk] at hcf
          have HB := Lib.hid hbk
          clear hbk q1 q2
          go_wp2_with fail
          go_roundg (p.starts.length - k)
          case measure => omega
          case rel => exact ⟨k + 1, by omega, by omega, by go_num, hwr, Q1.out, by
            have := Q2.out
            rw [show bitsU p.failed (k + 1) = bitsU p.failed k by rw [bitsU_succ, HB.out]; rfl]
            exact this⟩
        · rw [hbk] at hcf
          have HB := Lib.hid hbk
          have q9 := q2.c9
          have f9 := q2.fr 9 (by decide)
          clear hbk q1 q2
          go_wp2_with fail
          have hS : ∀ wy : World, Below wr.heap.size wr wy → wy.cell? ⟨w.heap.size + 1 + 1, 9, none⟩ = some (.int .i64 (bitsU p.failed k)) := fun wy hy => cell_later hy q9
          (refine wp_flow_n 6 _ [] [] (fun w' w'' => w'' = w'.setCell ⟨w.heap.size + 1 + 1, 9, none⟩ (.int .i64 (bitsU p.failed (k + 1)))) (undef) (by rfl) (by kernel_rfl) (by kernel_rfl) (by kernel_rfl) (by kernel_rfl) ?_); simp only [List.take_succ_cons, List.take_zero]
          repeat (first | ((with_reducible refine Flow.pure hS StayG.nil (v := ?_) ?_ ?_ ?_ ?_); rotate_left 1; (focus kernel_rfl); (focus (intro _; rfl)); (focus (intro β wx hSw; (try dsimp only at hSw); go_simp; (try with_reducible rfl); done)); (try simp only [Act.put, List.setIfInBounds_toArray, List.set_cons_zero, List.set_cons_succ, Nat.reduceAdd])))
          ((with_reducible refine Flow.stop ?_); dsimp only; intro β6 w6 hI6)
          have hb6 := hI6.below
          have hs6 := hb6.size
          have r9 := cell_later hb6 q9
          have rf := (hb6.frozen (p := ⟨w.heap.size + 1 + 1, 9, none⟩) Q2.out.lt).trans f9
          have hbit := shl_or (bitsU_lt p.failed k) (show k < 6 by omega)
          have hbe : bitsU p.failed (k + 1) = bitsU p.failed k + 2 ^ k := by rw [bitsU_succ, HB.out]; rfl
          rw [hbit, hbe]
          clear hbit
          refine ⟨rfl, fun K' hK => ?_, fun w7 hE => ?_⟩
          · go_simp
            exact hK.out _ rfl
          · have Q1' := (Q1.out.later hb6).other (M := w.heap.size + 1 + 1) (k := 9) (u := .int .i64 ((bitsU p.failed k + 2 ^ k : Nat) : Int)) (by omega)
            have Q2' := (Q2.out.later hb6).bits ((bitsU p.failed k + 2 ^ k : Nat) : Int)
            have hw7 : Below w.heap.size w w7 := by rw [hE]; exact (hwr.trans (hb6.mono (by omega))).setCell (by show w.heap.size ≤ w.heap.size + 1 + 1; omega) _
            rw [← hE] at Q1' Q2'
            have HB' := Lib.hid hbe
            clear hE hS hI6 hb6 r9 rf hbe q9 f9
            (try simp only [Act.put, List.setIfInBounds_toArray, List.set_cons_zero, List.set_cons_succ, Nat.reduceAdd])
            go_wp2_with fail
            go_roundg (p.starts.length - k)
            case measure => omega
            case rel => exact ⟨k + 1, by omega, by omega, by go_num, hw7, Q1', by rw [HB'.out]; exact Q2'⟩
      · obtain rfl : k = p.starts.length := by omega
        have r0 := q2.c0
        have r1 := q2.c1
        have r2 := q2.c2
        have r3 := q2.c3
        have r4 := q2.c4
        have r5 := q2.c5
        have r6 := q2.c6
        have r7 := q2.c7
        have r8 := q2.c8
        have r9 := q2.c9
        have t0 := q1.c0
        have t1 := q1.c1
        have t2 := q1.c2
        have t3 := q1.c3
        have t4 := q1.c4
        have t5 := q1.c5
        have t6 := q1.c6
        have t7 := q1.c7
        have t8 := q1.c8
        have t9 := q1.c9
        have f0 := q1.fr 0 (by decide)
        have f1 := q1.fr 1 (by decide)
        have f2 := q1.fr 2 (by decide)
        have f3 := q1.fr 3 (by decide)
        have f4 := q1.fr 4 (by decide)
        have f5 := q1.fr 5 (by decide)
        have f6 := q1.fr 6 (by decide)
        have f7 := q1.fr 7 (by decide)
        have f8 := q1.fr 8 (by decide)
        have f9 := q1.fr 9 (by decide)
        clear q1 q2
        go_wp2_with fail
        refine bodyPost_ret (v := .tuple #[sit10 p.turn p.budget p.starts.length (ig p.starts 0) (ig p.starts 1) (ig p.starts 2) (ig p.starts 3) (ig p.starts 4) (ig p.starts 5) (bitsU p.failed p.starts.length), .bool true]) ?_ rfl ⟨?_, ?_⟩
        · go_light
          clear d1 HP Q1 Q2 HF
          simp [results, go_sem, *]
        · rw [show sitV p.st = sit10 p.turn p.budget p.starts.length (ig p.starts 0) (ig p.starts 1) (ig p.starts 2) (ig p.starts 3) (ig p.starts 4) (ig p.starts 5) (bitsU p.failed p.failed.length) from rfl, HF.out]
        · repeat (refine Below.setCell ?_ (by show w.heap.size ≤ w.heap.size + 1; omega) _)
          exact hwr
def sit0 (p : Pos) : Value := sit10 p.turn p.budget p.starts.length 0 0 0 0 0 0 0
theorem ret_sit0 {p : Pos} {v : Value} (h : v = sit0 p) : Ending.returned (.tuple #[v, .bool false]) = Ending.returned (.tuple #[sit0 p, .bool false]) := by rw [h]
set_option maxRecDepth 100000 in
set_option maxHeartbeats 4000000 in
theorem sitOf_no1 (p : Pos) (sa fa : Option Addr) (sc fc : Nat) (w : World) (h6 : p.starts.length ≤ 6) (d3 : ¬ p.failed.length = p.starts.length) :
    Calls Try.prog 33 #[psV p sa sc fa fc] w (RetB (.tuple #[sit0 p, .bool false]) w) := by
  have d1 : decide ((6 : Int) < (p.starts.length : Int)) = false := by simp; omega
  have d2 : ((p.failed.length : Int) != (p.starts.length : Int)) = true := by simp; omega
  obtain ⟨n, hn⟩ : ∃ n, n = p.starts.length := ⟨_, rfl⟩
  obtain ⟨m, hm⟩ : ∃ m, m = p.failed.length := ⟨_, rfl⟩
  have e : sit0 p = sit10 p.turn p.budget n 0 0 0 0 0 0 0 := by rw [hn]; rfl
  unfold psV
  rw [e, ← hn, ← hm]
  rw [← hn] at d1 d2 d3
  rw [← hm] at d2 d3
  clear e hn hm h6
  go_enter Try.func33, Try.ntmps33
  go_wp2_with fail
  obtain ⟨wx, hwx⟩ : ∃ wx, wx = ((w.alloc (Obj.cells #[.int .i64 p.turn, .slice sa n sc, .slice fa m fc, .int .i64 p.budget, .int .i64 p.choice, .int .i64 p.bound] 57)).alloc (Obj.cells #[.int .i64 p.turn, .int .i64 p.budget, .int .i64 n, .int .i64 0, .int .i64 0, .int .i64 0, .int .i64 0, .int .i64 0, .int .i64 0, .int .i64 0] 76)).alloc (Obj.cells #[.int .i64 p.turn, .int .i64 p.budget, .int .i64 n, .int .i64 0, .int .i64 0, .int .i64 0, .int .i64 0, .int .i64 0, .int .i64 0, .int .i64 0] 76) := ⟨_, rfl⟩
  rw [← hwx]
  have hbx : Below w.heap.size w wx := by rw [hwx]; exact (by repeat (first | exact Below.refl _ _ | assumption | refine Below.drew ?_ | refine below_drewN ?_ _ | refine Below.alloc ?_ (by first | omega | (simp; done) | (simp; omega)) _ | refine Below.setCell ?_ (by first | omega | (simp; done) | (simp; omega)) _ | refine Below.trans ?_ (Below.mono (by assumption) (by first | omega | (simp; done) | (simp; omega)))))
  have x1 : SitBox wx (w.heap.size + 1) p.turn p.budget n 0 0 0 0 0 0 0 := by rw [hwx]; constructor <;> first | (simp [go_sem]; done) | (intro j _; simp [go_sem])
  clear hwx
  have h0 := x1.c0
  have h1 := x1.c1
  have h2 := x1.c2
  have h3 := x1.c3
  have h4 := x1.c4
  have h5 := x1.c5
  have h6 := x1.c6
  have h7 := x1.c7
  have h8 := x1.c8
  have h9 := x1.c9
  clear x1 d1 d2 d3
  refine bodyPost_ret (v := .tuple #[sit10 p.turn p.budget n 0 0 0 0 0 0 0, .bool false]) ?_ rfl ?_
  · simp [results, go_sem, *]
  · exact ⟨rfl, hbx⟩
set_option maxRecDepth 100000 in
set_option maxHeartbeats 4000000 in
theorem sitOf_no2 (p : Pos) (sa fa : Option Addr) (sc fc : Nat) (w : World) (h6 : ¬ p.starts.length ≤ 6) :
    Calls Try.prog 33 #[psV p sa sc fa fc] w (RetB (.tuple #[sit0 p, .bool false]) w) := by
  have d1 : decide ((6 : Int) < (p.starts.length : Int)) = true := by simp; omega
  obtain ⟨n, hn⟩ : ∃ n, n = p.starts.length := ⟨_, rfl⟩
  obtain ⟨m, hm⟩ : ∃ m, m = p.failed.length := ⟨_, rfl⟩
  have e : sit0 p = sit10 p.turn p.budget n 0 0 0 0 0 0 0 := by rw [hn]; rfl
  unfold psV
  rw [e, ← hn, ← hm]
  rw [← hn] at d1
  clear e hn hm h6
  go_enter Try.func33, Try.ntmps33
  go_wp2_with fail
  obtain ⟨wx, hwx⟩ : ∃ wx, wx = ((w.alloc (Obj.cells #[.int .i64 p.turn, .slice sa n sc, .slice fa m fc, .int .i64 p.budget, .int .i64 p.choice, .int .i64 p.bound] 57)).alloc (Obj.cells #[.int .i64 p.turn, .int .i64 p.budget, .int .i64 n, .int .i64 0, .int .i64 0, .int .i64 0, .int .i64 0, .int .i64 0, .int .i64 0, .int .i64 0] 76)).alloc (Obj.cells #[.int .i64 p.turn, .int .i64 p.budget, .int .i64 n, .int .i64 0, .int .i64 0, .int .i64 0, .int .i64 0, .int .i64 0, .int .i64 0, .int .i64 0] 76) := ⟨_, rfl⟩
  rw [← hwx]
  have hbx : Below w.heap.size w wx := by rw [hwx]; exact (by repeat (first | exact Below.refl _ _ | assumption | refine Below.drew ?_ | refine below_drewN ?_ _ | refine Below.alloc ?_ (by first | omega | (simp; done) | (simp; omega)) _ | refine Below.setCell ?_ (by first | omega | (simp; done) | (simp; omega)) _ | refine Below.trans ?_ (Below.mono (by assumption) (by first | omega | (simp; done) | (simp; omega)))))
  have x1 : SitBox wx (w.heap.size + 1) p.turn p.budget n 0 0 0 0 0 0 0 := by rw [hwx]; constructor <;> first | (simp [go_sem]; done) | (intro j _; simp [go_sem])
  clear hwx
  have h0 := x1.c0
  have h1 := x1.c1
  have h2 := x1.c2
  have h3 := x1.c3
  have h4 := x1.c4
  have h5 := x1.c5
  have h6 := x1.c6
  have h7 := x1.c7
  have h8 := x1.c8
  have h9 := x1.c9
  clear x1 d1
  refine bodyPost_ret (v := .tuple #[sit10 p.turn p.budget n 0 0 0 0 0 0 0, .bool false]) ?_ rfl ?_
  · simp [results, go_sem, *]
  · exact ⟨rfl, hbx⟩
end Go.Proofs.Ytgccankekflchaa

