

/- The reference: Begin. -/
import Derived.Test.YtghdfoolieagfaaJdgV
import Derived.Laws.MakeOwn
namespace Go.Proofs.Ytghdfoolieagfaa
open Go.RowKit

theorem info_bool : (Try.prog.info? 4).map (fun i => (i.zero, i.size, i.bytes)) = some (some (.bool false), 1, 1) := by kernel_rfl
theorem mk_bools (n : Nat) (hn : n ≤ 1000000) (w : World) : (Instr.makeSlice 31 (.int .i64 n) (.int .i64 n)).run Try.prog w = .ok (.slice (some ⟨w.heap.size, 0, none⟩) n n) (w.alloc (.cells (List.replicate n (Value.bool false)).toArray 4)) := by
  obtain ⟨i0, hi, hz0, hz1, hz2⟩ := info_parts info_bool
  have hr := run_make (P := Try.prog) w 31 4 i0 (.bool false) Try.underlying31 hi hz0 .i64 .i64 n n (by omega) (Int.le_refl _) (by rw [hz2]; omega) (by omega)
  simp only [Int.toNat_natCast] at hr
  rw [hr]
  have e : madeCells (Value.cells (.bool false)) (n * i0.size) = (List.replicate n (Value.bool false)).toArray := by
    rw [hz1, Nat.mul_one]
    apply Array.toList_inj.1
    exact toList_madeCells_one _ _
  rw [e]
abbrev six (t : Int) (a : Option Addr) (n c : Nat) (f : Option Addr) (m d : Nat) (b x y : Int) : List Value := [.int .i64 t, .slice a n c, .slice f m d, .int .i64 b, .int .i64 x, .int .i64 y]
theorem Chg.set1' {b : Nat} {a w : World} (h : Chg (fun k => k = b) a w) (o : Nat) (u : Value) : Chg (fun k => k = b) a (w.setCell ⟨b, o, none⟩ u) := Chg.setCell (S := fun k => k = b) (p := ⟨b, o, none⟩) h (fun _ => rfl) u
structure BgJ (w0 : World) (R n : Nat) (fin : List Value) (l5 l9 : Bool) (w : World) : Prop where
  chg : Chg (fun k => k = R) w0 w
  size : w.heap.size = w0.heap.size + (if l5 then 1 else 0)
  arr : l5 = true → BoxAt w w0.heap.size (List.replicate n (.bool false))
  res : BoxAt w R (if l9 then fin else six 0 none 0 0 none 0 0 0 0 0)
theorem BgJ.done {w0 : World} {R n : Nat} {fin : List Value} {w : World} {a0 a1 a2 a3 a4 a5 : Value} (h : BgJ w0 R n fin true false w) (e : fin = [a0, a1, a2, a3, a4, a5]) (hl : fin.length = 6) (hR : R ≠ w0.heap.size) : BgJ w0 R n fin true true (w.setCells R 0 fin) := by
  refine ⟨?_, by rw [setCells_heap]; exact h.size, fun _ => (h.arr rfl).other hR.symm, ?_⟩
  · rw [e]
    exact ((((((h.chg.set1' 0 _).set1' 1 _).set1' 2 _).set1' 3 _).set1' 4 _).set1' 5 _)
  · have := h.res
    simp only [Bool.false_eq_true, if_false] at this
    exact this.stored hl
def posB (g : Gm) : Pos := ⟨0, g.starts, List.replicate g.starts.length false, g.budget, 0, 0⟩
theorem posB_st (g : Gm) : (posB g).st = beginS g := rfl
def PosR (p : Pos) (w : World) (e : Ending) (w' : World) : Prop := ∃ sa sc fa fc, e = .returned (psV p sa sc fa fc) ∧ PsAt w' p sa fa ∧ Below w.heap.size w w'
set_option maxRecDepth 100000 in
set_option maxHeartbeats 4000000 in
theorem begin_any (g : Gm) (sa da : Option Addr) (sc dc : Nat) (w : World) (hI : Ints w sa g.starts) (hn : g.starts.length ≤ 1000) :
    Calls Try.prog 12 #[gmV g sa sc da dc] w (PosR (posB g) w) := by
  have HI := Lib.hid hI
  have hmk := mk_bools g.starts.length (by omega)
  obtain ⟨n, hn'⟩ : ∃ n, n = g.starts.length := ⟨_, rfl⟩
  have HN := Lib.hid hn'
  unfold gmV
  rw [← hn'] at hmk hn ⊢
  clear hI hn'
  go_enter Try.func12, Try.ntmps12
  go_wp2_with fail
  obtain ⟨wx, hwx⟩ : ∃ wx, wx = (w.alloc (Obj.cells #[.slice sa n sc, .slice da g.deps.length dc, .int .i64 g.budget] 25)).alloc (Obj.cells (six 0 none 0 0 none 0 0 0 0 0).toArray 33) := ⟨_, rfl⟩
  rw [show ((w.alloc (Obj.cells #[.slice sa n sc, .slice da g.deps.length dc, .int .i64 g.budget] 25)).alloc (Obj.cells #[.int .i64 0, .slice none 0 0, .slice none 0 0, .int .i64 0, .int .i64 0, .int .i64 0] 33)) = wx from hwx.symm]
  have hbx : Below w.heap.size w wx := by rw [hwx]; exact (by repeat (first | exact Below.refl _ _ | assumption | refine Below.drew ?_ | refine below_drewN ?_ _ | refine Below.alloc ?_ (by first | omega | (simp; done) | (simp; omega)) _ | refine Below.setCell ?_ (by first | omega | (simp; done) | (simp; omega)) _ | refine Below.trans ?_ (Below.mono (by assumption) (by first | omega | (simp; done) | (simp; omega)))))
  have b0 : wx.cell? ⟨w.heap.size, 0, none⟩ = some (.slice sa n sc) := by rw [hwx]; simp [go_sem]
  have b2 : wx.cell? ⟨w.heap.size, 2, none⟩ = some (.int .i64 g.budget) := by rw [hwx]; simp [go_sem]
  have hR : BoxAt wx (w.heap.size + 1) (six 0 none 0 0 none 0 0 0 0 0) := by
    rw [hwx]
    have := BoxAt.new (w.alloc (Obj.cells #[.slice sa n sc, .slice da g.deps.length dc, .int .i64 g.budget] 25)) (six 0 none 0 0 none 0 0 0 0 0) 33
    rw [World.size_alloc] at this
    exact this
  have hsx : wx.heap.size = w.heap.size + 1 + 1 := by rw [hwx]; simp
  clear hwx
  obtain ⟨fin, hfin⟩ : ∃ fin, fin = six 0 sa n sc (some ⟨w.heap.size + 1 + 1, 0, none⟩) n n g.budget 0 0 := ⟨_, rfl⟩
  have HFIN := Lib.hid hfin
  refine wp_flow_j (fun β L' w' => BgJ wx (w.heap.size + 1) n fin (L' 5) (L' 9) w') (by kernel_rfl) (by kernel_rfl) ?h0 ?_
  case h0 => exact ⟨(Chg.refl _ _).drew, rfl, fun e => (by cases e), hR⟩
  clear hfin
  have hG0 : ∀ w', Chg (fun k => k = w.heap.size + 1) wx w' → w'.cell? ⟨w.heap.size, 0, none⟩ = some (.slice sa n sc) := fun w' h => h.cell b0 (by show ¬ w.heap.size = w.heap.size + 1; omega)
  have hG2 : ∀ w', Chg (fun k => k = w.heap.size + 1) wx w' → w'.cell? ⟨w.heap.size, 2, none⟩ = some (.int .i64 g.budget) := fun w' h => h.cell b2 (by show ¬ w.heap.size = w.heap.size + 1; omega)
  clear b0 b2
  iterate 5 (((with_reducible refine FlowJ.pure (v := ?_) ?_ ?_ ?_ ?_); rotate_left 1; (focus (intro _; rfl)); (focus (intro β L' w' hJ hat; (try dsimp only at hJ); (try dsimp only); simpa only [setL, Nat.reduceEqDiff, if_false] using hJ)); (focus (intro β L' w' hJ hat; (try dsimp only at hJ); (have y0 := hG0 _ hJ.chg); go_simp; (try with_reducible rfl); done)); (try simp only [Act.put, List.setIfInBounds_toArray, List.set_cons_zero, List.set_cons_succ, Nat.reduceAdd])))
  ((with_reducible refine FlowJ.call (v := ?_) ?_ ?_ ?_); rotate_left 1; (focus (intro _; rfl)); (focus (intro β L' w' hJ hat K' hK; (try dsimp only at hJ); ((have n9 := hat.not (j := 9) (by kernel_rfl)); have un := hat.un; simp only [un, n9] at hJ; have hsz := hJ.size; simp only [Bool.false_eq_true, if_false, Nat.add_zero] at hsz; go_simp; refine hK.out _ ?_; simp only [setL, Nat.reduceEqDiff, if_true, if_false, n9]; exact ⟨hJ.chg.alloc _, by rw [World.size_alloc, hsz]; rfl, fun _ => by rw [← hsz]; exact BoxAt.new _ _ _, hJ.res.later ((Below.refl _ _).alloc (Nat.le_refl _) _)⟩))); (try simp only [Act.put, List.setIfInBounds_toArray, List.set_cons_zero, List.set_cons_succ, Nat.reduceAdd]))
  iterate 3 (((with_reducible refine FlowJ.pure (v := ?_) ?_ ?_ ?_ ?_); rotate_left 1; (focus (intro _; rfl)); (focus (intro β L' w' hJ hat; (try dsimp only at hJ); (try dsimp only); simpa only [setL, Nat.reduceEqDiff, if_false] using hJ)); (focus (intro β L' w' hJ hat; (try dsimp only at hJ); (have y0 := hG2 _ hJ.chg); go_simp; (try with_reducible rfl); done)); (try simp only [Act.put, List.setIfInBounds_toArray, List.set_cons_zero, List.set_cons_succ, Nat.reduceAdd])))
  ((with_reducible refine FlowJ.eff ?_ ?_ ?_); (focus (intro _; rfl)); (focus (intro β L' w' hJ hat K' hK; (try dsimp only at hJ); ((have p8 := hat.pre 8 (by kernel_rfl)); have p5 := hat.down 8 5 p8 (by decide) (by kernel_rfl); have un := hat.un; simp only [un, p5] at hJ; have hr := hJ.res; simp only [Bool.false_eq_true, if_false] at hr; obtain ⟨c0, f0⟩ := hr 0 _ rfl; obtain ⟨c1, f1⟩ := hr 1 _ rfl; obtain ⟨c2, f2⟩ := hr 2 _ rfl; obtain ⟨c3, f3⟩ := hr 3 _ rfl; obtain ⟨c4, f4⟩ := hr 4 _ rfl; obtain ⟨c5, f5⟩ := hr 5 _ rfl; go_simp; refine hK.out _ ?_; simp only [setL, Nat.reduceEqDiff, if_true, if_false, p5]; have hd := hJ.done HFIN.out (by rw [HFIN.out]; rfl) (by omega); rw [HFIN.out] at hd ⊢; simp only [six, World.setCells, Nat.zero_add, Nat.reduceAdd] at hd; exact hd))); (try simp only [Act.put, Nat.reduceAdd]))
  refine FlowJ.stop ?_
  dsimp only
  intro β w5 hJ
  have hr := hJ.res
  have har := hJ.arr rfl
  have hb5 : Below w.heap.size w w5 := hbx.trans (hJ.chg.below hbx.size fun k hk => by omega)
  simp only [if_true] at hr
  rw [HFIN.out] at hr
  obtain ⟨c0, f0⟩ := hr 0 _ rfl
  obtain ⟨c1, f1⟩ := hr 1 _ rfl
  obtain ⟨c2, f2⟩ := hr 2 _ rfl
  obtain ⟨c3, f3⟩ := hr 3 _ rfl
  obtain ⟨c4, f4⟩ := hr 4 _ rfl
  obtain ⟨c5, f5⟩ := hr 5 _ rfl
  have HB5 := Lib.hid hb5
  have HAR := Lib.hid har
  clear hr har hb5 hJ hG0 hG2 hmk hR hbx
  go_wp2_with fail
  refine bodyPost_ret (v := .agg #[.int .i64 0, .slice sa n sc, .slice (some ⟨w.heap.size + 1 + 1, 0, none⟩) n n, .int .i64 g.budget, .int .i64 0, .int .i64 0]) (by simp [results, go_sem, *]) rfl ⟨sa, sc, some ⟨w.heap.size + 1 + 1, 0, none⟩, n, ?_, ⟨HI.out.later HB5.out, fun j hj => ?_⟩, HB5.out⟩
  · rw [HN.out]
    unfold posB psV
    rw [List.length_replicate]
  · have hj' : j < g.starts.length := by simpa [posB] using hj
    have := (HAR.out j (.bool false) (by rw [List.getElem?_replicate, if_pos (by rw [HN.out]; exact hj')])).1
    rw [hsx] at this
    refine ⟨w.heap.size + 1 + 1, 0, rfl, ?_⟩
    rw [Nat.zero_add, this]
    congr 2
    simp [posB, bg, List.getD_eq_getElem?_getD, hj']
end Go.Proofs.Ytghdfoolieagfaa
