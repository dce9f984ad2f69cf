


/- The reference: After. -/
import Derived.Test.YtghdfoolieagfaaJdgApp
namespace Go.Proofs.Ytghdfoolieagfaa
open Go.RowKit

theorem BoxAt.grown' {w w' : World} {n : Nat} {cs : List Value} {row : Option Nat} (h : BoxAt w n cs) (hg : w.grownBy w' row) (hn : row ≠ some n) : BoxAt w' n cs := fun o v ho => by
  have hb := hg.block n (World.block_lt_of_cell? _ _ (h o v ho).1) (fun e => hn e.symm)
  exact ⟨(World.cell?_of_block (w := w) (a := ⟨n, o, none⟩) hb).trans (h o v ho).1, (World.frozen?_of_block (w := w) (a := ⟨n, o, none⟩) hb).trans (h o v ho).2⟩
theorem grown_setCells : ∀ (vs : List Value) (n k : Nat) (w : World), w.grownBy (w.setCells n k vs) (some n)
  | [], _, _, w => World.grownBy.refl w _
  | v :: vs, n, k, w => by
    have h := grown_setCells vs n (k + 1) (w.setCell ⟨n, k, none⟩ v)
    refine ⟨h.os, h.tape, h.output, by rw [setCells_heap]; exact Nat.le_refl _, fun i hi hne => ?_⟩
    refine (h.block i (by rw [World.size_setCell]; exact hi) hne).trans ?_
    exact heap_setCell_other w ⟨n, k, none⟩ i v (fun e => hne (by simp [e]))
/-- the region that makes the new situation -/
structure AfJ (w0 : World) (l : List Int) (zero : List Value) (fin : Value → List Value) (b3 b6 b12 : Value) (l3 l6 l12 l13 : Bool) (w : World) : Prop where
  low : Below w0.heap.size w0 w
  e3 : l3 = true → l6 = false → w.ownsRow w0.heap.size 3 1 b3 0 []
  e6 : l6 = true → w.ownsRow w0.heap.size 3 1 b6 l.length (l.map (Value.int .i64))
  bx : l12 = true → ∃ b, b12 = .pointer (some ⟨b, 0, none⟩) ∧ w0.heap.size ≤ b ∧ b < w.heap.size ∧ BoxAt w b (if l13 then fin b6 else zero) ∧ (l3 = true → l6 = false → b3.ownBlock ≠ some b) ∧ (l6 = true → b6.ownBlock ≠ some b)
section
variable {w0 w w' : World} {l : List Int} {zero : List Value} {fin : Value → List Value} {b3 b6 b12 : Value} {l3 l6 l12 : Bool}
theorem AfJ.made (h : AfJ w0 l zero fin b3 b6 b12 false false l12 false w) : AfJ w0 l zero fin (.slice (some ⟨w.heap.size, 0, none⟩) 0 0) b6 b12 true false l12 false (w.alloc (.cells #[] 3)) := by
  refine ⟨h.low.alloc h.low.size _, fun _ _ => ?_, fun e => (by cases e), fun e => ?_⟩
  · have := World.ownsRow_lit (base := w0.heap.size) (e := 3) (size := 1) w #[] 0 h.low.size (by unfold maxLen; omega) rfl
    simpa using this
  · obtain ⟨b, h1, h2, h3, h4, h5, h6⟩ := h.bx e
    refine ⟨b, h1, h2, by rw [World.size_alloc]; omega, h4.alloc _, fun _ _ e => ?_, fun e => (by cases e)⟩
    have : w.heap.size = b := by simpa [Value.ownBlock] using e
    omega
theorem AfJ.app {v' : Value} (h : AfJ w0 l zero fin b3 b6 b12 true false l12 false w) (ho : w'.ownsRow w0.heap.size 3 1 v' l.length (l.map (Value.int .i64))) (hg : w.grownBy w' b3.ownBlock) (hn : ∀ b, v'.ownBlock = some b → b3.ownBlock = some b ∨ w.heap.size ≤ b) :
    AfJ w0 l zero fin b3 v' b12 true true l12 false w' := by
  have hr : ∀ k, b3.ownBlock = some k → w0.heap.size ≤ k := fun k hk => (World.ownsRow.lt (h.e3 rfl rfl) k hk).1
  refine ⟨h.low.grown hg h.low.size hr, fun _ e => (by cases e), fun _ => ho, fun e => ?_⟩
  obtain ⟨b, h1, h2, h3, h4, h5, h6⟩ := h.bx e
  refine ⟨b, h1, h2, Nat.lt_of_lt_of_le h3 hg.size, h4.grown' hg (h5 rfl rfl), fun _ e => (by cases e), fun _ e => ?_⟩
  rcases hn b e with h | h
  · exact h5 rfl rfl h
  · omega
theorem AfJ.new {o : List Value} {T : TypeId} (hz : zero = o) (h : AfJ w0 l zero fin b3 b6 b12 l3 l6 false false w) : AfJ w0 l zero fin b3 b6 (.pointer (some ⟨w.heap.size, 0, none⟩)) l3 l6 true false (w.alloc (.cells o.toArray T)) := by
  subst hz
  refine ⟨h.low.alloc h.low.size _, fun e e' => (h.e3 e e').alloc _, fun e => (h.e6 e).alloc _, fun _ => ⟨_, rfl, h.low.size, by rw [World.size_alloc]; omega, BoxAt.new _ _ _, fun e e' e2 => ?_, fun e e2 => ?_⟩⟩
  · have := (World.ownsRow.lt (h.e3 e e') _ e2).2
    omega
  · have := (World.ownsRow.lt (h.e6 e) _ e2).2
    omega
theorem AfJ.done {b : Nat} (h : AfJ w0 l zero fin b3 b6 b12 true true true false w) (hl : ∀ v, (fin v).length = zero.length) (hb : b12 = .pointer (some ⟨b, 0, none⟩)) : AfJ w0 l zero fin b3 b6 b12 true true true true (w.setCells b 0 (fin b6)) := by
  obtain ⟨b', h1, h2, h3, h4, h5, h6⟩ := h.bx rfl
  rw [hb] at h1
  obtain rfl : b = b' := by simpa using h1
  refine ⟨below_setCells _ _ _ _ h.low h2, fun _ e => (by cases e), fun _ => ?_, fun _ => ⟨b, hb, h2, by rw [setCells_heap]; exact h3, h4.stored (hl _), fun _ e => (by cases e), h6⟩⟩
  refine World.ownsRow.kept (h.e6 rfl) (row := some b) (grown_setCells _ _ _ _) ?_
  exact .inr (h6 rfl)
end
theorem wp_app_eq {w w' : World} {o : Oper} {a : Act} {K : Act → World → Prop} {Q : Exit → Act → World → Prop} {v' : Value} (s x : Operand) (t : TypeId)
    (ho : o.op = .call { callee := .builtin .append, args := #[s, x], argTypes := #[t, t] }) (v y : Value) (hs : a.eval s = v) (hx : a.eval x = y)
    (hr : (Builtin.append_ #[t, t] o.type #[v, y]).run Try.prog w = .ok v' w') (h : K (a.put o.dst v') w') : o.wp Try.prog a w K Q := by
  unfold Oper.wp execOp
  simp only [ho, resolve, invoke, builtin, Sem.run_bind, Sem.run_pure, Result.andThen_ok, List.map_toArray, List.map_cons, List.map_nil, hs, hx, hr]
  exact h
theorem own_shape {w : World} {B n : Nat} {v : Value} {e : TypeId} {xs : List Value} {size : Nat} (h : w.ownsRow B e size v n xs) : ∃ oa c, v = .slice oa n c := by
  rcases h.2 with ⟨e, e2⟩ | ⟨g, cap, cur, e, _⟩
  · exact ⟨_, _, by rw [e2]; exact e⟩
  · exact ⟨_, _, e⟩
theorem own_some {w : World} {B n : Nat} {v : Value} {e : TypeId} {xs : List Value} {size : Nat} (h : w.ownsRow B e size v n xs) (hn : 0 < n) : ∃ g c, v = .slice (some ⟨g, 0, none⟩) n c ∧ B ≤ g ∧ g < w.heap.size := by
  rcases h.2 with ⟨e, e2⟩ | ⟨g, cap, cur, e, hb, hg, _⟩
  · omega
  · exact ⟨g, cap, e, hb, (Array.getElem?_eq_some_iff.1 hg).1⟩
theorem own_ints {w : World} {B c : Nat} {oa : Option Addr} {l : List Int} (h : w.ownsRow B 3 1 (.slice oa l.length c) l.length (l.map (Value.int .i64))) : Ints w oa l := fun j hj => by
  obtain ⟨g, c', e, _⟩ := own_some h (by omega)
  simp only [Value.slice.injEq] at e
  obtain ⟨rfl, _, rfl⟩ := e
  refine ⟨g, 0, rfl, ?_⟩
  rw [Nat.zero_add, h.cellAt j (by omega), List.getElem?_map, List.getElem?_eq_getElem hj, ig_lt hj]
  rfl
/-- numbers that lie in blocks with a property -/
def IntsS (S : Nat → Prop) (w : World) (a : Option Addr) (l : List Int) : Prop := ∀ j, j < l.length → ∃ b off, a = some ⟨b, off, none⟩ ∧ S b ∧ w.cell? ⟨b, off + j, none⟩ = some (.int .i64 (ig l j))
def BoolsS (S : Nat → Prop) (w : World) (a : Option Addr) (l : List Bool) : Prop := ∀ j, j < l.length → ∃ b off, a = some ⟨b, off, none⟩ ∧ S b ∧ w.cell? ⟨b, off + j, none⟩ = some (.bool (bg l j))
theorem IntsS.ints {S : Nat → Prop} {w : World} {a : Option Addr} {l : List Int} (h : IntsS S w a l) : Ints w a l := fun j hj => by
  obtain ⟨b, off, e, _, hc⟩ := h j hj
  exact ⟨b, off, e, hc⟩
theorem BoolsS.bools {S : Nat → Prop} {w : World} {a : Option Addr} {l : List Bool} (h : BoolsS S w a l) : Bools w a l := fun j hj => by
  obtain ⟨b, off, e, _, hc⟩ := h j hj
  exact ⟨b, off, e, hc⟩
theorem IntsS.mono {S T : Nat → Prop} {w : World} {a : Option Addr} {l : List Int} (h : IntsS S w a l) (hs : ∀ b, S b → T b) : IntsS T w a l := fun j hj => by
  obtain ⟨b, off, e, h1, hc⟩ := h j hj
  exact ⟨b, off, e, hs b h1, hc⟩
theorem BoolsS.mono {S T : Nat → Prop} {w : World} {a : Option Addr} {l : List Bool} (h : BoolsS S w a l) (hs : ∀ b, S b → T b) : BoolsS T w a l := fun j hj => by
  obtain ⟨b, off, e, h1, hc⟩ := h j hj
  exact ⟨b, off, e, hs b h1, hc⟩
theorem IntsS.of {w : World} {a : Option Addr} {l : List Int} (h : Ints w a l) : IntsS (fun b => b < w.heap.size) w a l := fun j hj => by
  obtain ⟨b, off, e, hc⟩ := h j hj
  exact ⟨b, off, e, World.block_lt_of_cell? _ _ hc, hc⟩
theorem BoolsS.of {w : World} {a : Option Addr} {l : List Bool} (h : Bools w a l) : BoolsS (fun b => b < w.heap.size) w a l := fun j hj => by
  obtain ⟨b, off, e, hc⟩ := h j hj
  exact ⟨b, off, e, World.block_lt_of_cell? _ _ hc, hc⟩
theorem IntsS.later {S : Nat → Prop} {w w' : World} {a : Option Addr} {l : List Int} (h : IntsS S w a l) (hb : Below w.heap.size w w') : IntsS S w' a l := fun j hj => by
  obtain ⟨b, off, e, h1, hc⟩ := h j hj
  exact ⟨b, off, e, h1, cell_later hb hc⟩
theorem BoolsS.later {S : Nat → Prop} {w w' : World} {a : Option Addr} {l : List Bool} (h : BoolsS S w a l) (hb : Below w.heap.size w w') : BoolsS S w' a l := fun j hj => by
  obtain ⟨b, off, e, h1, hc⟩ := h j hj
  exact ⟨b, off, e, h1, cell_later hb hc⟩
theorem IntsS.grown {S : Nat → Prop} {w w' : World} {a : Option Addr} {l : List Int} {row : Option Nat} (h : IntsS S w a l) (hg : w.grownBy w' row) (hs : ∀ b, S b → row ≠ some b) : IntsS S w' a l := fun j hj => by
  obtain ⟨b, off, e, h1, hc⟩ := h j hj
  exact ⟨b, off, e, h1, hg.cell hc fun e => hs b h1 e.symm⟩
theorem BoolsS.grown {S : Nat → Prop} {w w' : World} {a : Option Addr} {l : List Bool} {row : Option Nat} (h : BoolsS S w a l) (hg : w.grownBy w' row) (hs : ∀ b, S b → row ≠ some b) : BoolsS S w' a l := fun j hj => by
  obtain ⟨b, off, e, h1, hc⟩ := h j hj
  exact ⟨b, off, e, h1, hg.cell hc fun e => hs b h1 e.symm⟩
theorem own_intsS {w : World} {B c : Nat} {oa : Option Addr} {l : List Int} (h : w.ownsRow B 3 1 (.slice oa l.length c) l.length (l.map (Value.int .i64))) : IntsS (fun b => B ≤ b) w oa l := fun j hj => by
  obtain ⟨g, c', e, hg, _⟩ := own_some h (by omega)
  simp only [Value.slice.injEq] at e
  obtain ⟨rfl, _, rfl⟩ := e
  refine ⟨g, 0, rfl, hg, ?_⟩
  rw [Nat.zero_add, h.cellAt j (by omega), List.getElem?_map, List.getElem?_eq_getElem hj, ig_lt hj]
  rfl
/-- a position whose starts lie in new memory, and whose failed vehicles where they lay -/
def PosN (fa : Option Addr) (fc : Nat) (p : Pos) (w : World) (e : Ending) (w' : World) : Prop := ∃ sa sc, e = .returned (psV p sa sc fa fc) ∧ IntsS (fun b => w.heap.size ≤ b) w' sa p.starts ∧ Below w.heap.size w w'
def posA (p : Pos) : Pos := ⟨p.turn + 1, (afterS p.st p.choice).starts, p.failed, p.budget, 0, 0⟩
theorem posA_st (p : Pos) : (posA p).st = afterS p.st p.choice := rfl
theorem posA_len (p : Pos) : (posA p).starts.length = p.starts.length := by
  show (if 0 ≤ p.choice then p.starts.set p.choice.toNat (ig p.starts p.choice.toNat - 1) else p.starts).length = _
  split
  · rw [List.length_set]
  · rfl
set_option maxRecDepth 100000 in
set_option maxHeartbeats 4000000 in
theorem after_any (p : Pos) (sa fa : Option Addr) (sc fc : Nat) (w : World) (hP : PsAt w p sa fa) (hl : p.starts.length ≤ 1000) (ht0 : 0 ≤ p.turn) (ht : p.turn ≤ 1000)
    (hc : p.choice = -1 ∨ ∃ c : Nat, p.choice = c ∧ c < p.starts.length ∧ 0 < ig p.starts c ∧ ig p.starts c ≤ 1000) :
    Calls Try.prog 15 #[psV p sa sc fa fc] w (PosN fa fc (posA p) w) := by
  have HP := Lib.hid hP
  have HC := Lib.hid hc
  have hw1 : IntKind.i64.wrap (p.turn + 1) = p.turn + 1 := IntWalk.i64_in _ (by omega)
  obtain ⟨t, het⟩ : ∃ t, t = p.turn := ⟨_, rfl⟩
  obtain ⟨ch, hch⟩ : ∃ ch, ch = p.choice := ⟨_, rfl⟩
  obtain ⟨n, hen⟩ : ∃ n, n = p.starts.length := ⟨_, rfl⟩
  have HN := Lib.hid hen
  have HT := Lib.hid het
  have HCH := Lib.hid hch
  have HW1 := Lib.hid hw1
  unfold psV
  rw [← het, ← hch, ← hen]
  clear hP hc hw1 het hch hen
  go_enter Try.func15, Try.ntmps15
  go_wp2_with fail
  obtain ⟨wx, hwx⟩ : ∃ wx, wx = (w.alloc (Obj.cells #[.int .i64 t, .slice sa n sc, .slice fa p.failed.length fc, .int .i64 p.budget, .int .i64 ch, .int .i64 p.bound] 33)).alloc (Obj.cells (six 0 none 0 0 none 0 0 0 0 0).toArray 33) := ⟨_, rfl⟩
  rw [show ((w.alloc (Obj.cells #[.int .i64 t, .slice sa n sc, .slice fa p.failed.length fc, .int .i64 p.budget, .int .i64 ch, .int .i64 p.bound] 33)).alloc (Obj.cells #[.int .i64 0, .slice none 0 0, .slice none 0 0, .int .i64 0, .int .i64 0, .int .i64 0] 33)) = wx from hwx.symm]
  have hbx : Below w.heap.size w wx := by rw [hwx]; exact (by repeat (first | exact Below.refl _ _ | assumption | refine Below.drew ?_ | refine below_drewN ?_ _ | refine Below.alloc ?_ (by first | omega | (simp; done) | (simp; omega)) _ | refine Below.setCell ?_ (by first | omega | (simp; done) | (simp; omega)) _ | refine Below.trans ?_ (Below.mono (by assumption) (by first | omega | (simp; done) | (simp; omega)))))
  have b0 : wx.cell? ⟨w.heap.size, 0, none⟩ = some (.int .i64 t) := by rw [hwx]; simp [go_sem]
  have b1 : wx.cell? ⟨w.heap.size, 1, none⟩ = some (.slice sa n sc) := by rw [hwx]; simp [go_sem]
  have b2 : wx.cell? ⟨w.heap.size, 2, none⟩ = some (.slice fa p.failed.length fc) := by rw [hwx]; simp [go_sem]
  have b3 : wx.cell? ⟨w.heap.size, 3, none⟩ = some (.int .i64 p.budget) := by rw [hwx]; simp [go_sem]
  have b4 : wx.cell? ⟨w.heap.size, 4, none⟩ = some (.int .i64 ch) := by rw [hwx]; simp [go_sem]
  have hR : BoxAt wx (w.heap.size + 1) (six 0 none 0 0 none 0 0 0 0 0) := by
    rw [hwx]
    have := BoxAt.new (w.alloc (Obj.cells #[.int .i64 t, .slice sa n sc, .slice fa p.failed.length fc, .int .i64 p.budget, .int .i64 ch, .int .i64 p.bound] 33)) (six 0 none 0 0 none 0 0 0 0 0) 33
    rw [World.size_alloc] at this
    exact this
  have hsx : wx.heap.size = w.heap.size + 1 + 1 := by rw [hwx]; simp
  clear hwx
  obtain ⟨fin, hfin⟩ : ∃ fin : Value → List Value, fin = fun v => [.int .i64 (IntKind.i64.wrap (t + 1)), v, .slice fa p.failed.length fc, .int .i64 p.budget, .int .i64 0, .int .i64 0] := ⟨_, rfl⟩
  have HFIN := Lib.hid hfin
  have HB := Lib.hid hbx
  have HR := Lib.hid hR
  have HI := Lib.hid (HP.out.s.later hbx)
  refine wp_flow_j (fun β L' w' => AfJ wx p.starts (six 0 none 0 0 none 0 0 0 0 0) fin (β 3) (β 6) (β 12) (L' 3) (L' 6) (L' 12) (L' 13) w') (by kernel_rfl) (by kernel_rfl) ?h0 ?_
  case h0 => exact ⟨(Below.refl _ _).drew, fun e => (by cases e), fun e => (by cases e), fun e => (by cases e)⟩
  clear hfin hbx hR
  iterate 3 (((with_reducible refine FlowJ.pure (v := ?_) ?_ ?_ ?_ ?_); rotate_left 1; (focus (intro _; rfl)); (focus (intro β L' w' hJ hat; (try dsimp only at hJ); (try dsimp only); simpa only [setL, Nat.reduceEqDiff, if_false] using hJ)); (focus (intro β L' w' hJ hat; (try dsimp only at hJ); (have y0 := cell_later hJ.low b0); go_simp; (try with_reducible rfl); done)); (try simp only [Act.put, List.setIfInBounds_toArray, List.set_cons_zero, List.set_cons_succ, Nat.reduceAdd])))
  ((with_reducible refine FlowJ.ghost ?_ ?_ ?_); (focus (intro _; rfl)); (focus (intro β L' w' hJ hat K' hK; (try dsimp only at hJ); ((have n6 := hat.not (j := 6) (by kernel_rfl)); (have n13 := hat.not (j := 13) (by kernel_rfl)); have un := hat.un; simp only [un, n6, n13] at hJ; go_simp; refine hK.out _ _ ?_; simp only [updG, setL, Nat.reduceEqDiff, if_true, if_false, n6, n13]; exact hJ.made))); (try simp only [Act.put, List.setIfInBounds_toArray, List.set_cons_zero, List.set_cons_succ, Nat.reduceAdd]))
  iterate 2 (((with_reducible refine FlowJ.pure (v := ?_) ?_ ?_ ?_ ?_); rotate_left 1; (focus (intro _; rfl)); (focus (intro β L' w' hJ hat; (try dsimp only at hJ); (try dsimp only); simpa only [setL, Nat.reduceEqDiff, if_false] using hJ)); (focus (intro β L' w' hJ hat; (try dsimp only at hJ); (have y0 := cell_later hJ.low b1); go_simp; (try with_reducible rfl); done)); (try simp only [Act.put, List.setIfInBounds_toArray, List.set_cons_zero, List.set_cons_succ, Nat.reduceAdd])))
  ((with_reducible refine FlowJ.ghost ?_ ?_ ?_); (focus (intro _; rfl)); (focus (intro β L' w' hJ hat K' hK; (try dsimp only at hJ); ((have p3 := hat.pre 3 (by kernel_rfl)); (have n13 := hat.not (j := 13) (by kernel_rfl)); have un := hat.un; simp only [un, p3, n13] at hJ; obtain ⟨v', w2, hr, ho, hg, hn⟩ := app_ints w' wx.heap.size (β 3) (hJ.e3 rfl rfl) sa sc p.starts (HI.out.later hJ.low) (by omega) hJ.low.size 22; rw [← HN.out] at hr; refine wp_app_eq (.tmp 7) (.tmp 9) 22 rfl _ _ rfl rfl hr ?_; refine hK.out _ _ ?_; simp only [updG, setL, Nat.reduceEqDiff, if_true, if_false, p3, n13]; exact hJ.app ho hg hn))); (try simp only [Act.put, List.setIfInBounds_toArray, List.set_cons_zero, List.set_cons_succ, Nat.reduceAdd]))
  iterate 2 (((with_reducible refine FlowJ.pure (v := ?_) ?_ ?_ ?_ ?_); rotate_left 1; (focus (intro _; rfl)); (focus (intro β L' w' hJ hat; (try dsimp only at hJ); (try dsimp only); simpa only [setL, Nat.reduceEqDiff, if_false] using hJ)); (focus (intro β L' w' hJ hat; (try dsimp only at hJ); (have y0 := cell_later hJ.low b2); go_simp; (try with_reducible rfl); done)); (try simp only [Act.put, List.setIfInBounds_toArray, List.set_cons_zero, List.set_cons_succ, Nat.reduceAdd])))
  iterate 2 (((with_reducible refine FlowJ.pure (v := ?_) ?_ ?_ ?_ ?_); rotate_left 1; (focus (intro _; rfl)); (focus (intro β L' w' hJ hat; (try dsimp only at hJ); (try dsimp only); simpa only [setL, Nat.reduceEqDiff, if_false] using hJ)); (focus (intro β L' w' hJ hat; (try dsimp only at hJ); (have y0 := cell_later hJ.low b3); go_simp; (try with_reducible rfl); done)); (try simp only [Act.put, List.setIfInBounds_toArray, List.set_cons_zero, List.set_cons_succ, Nat.reduceAdd])))
  refine FlowJ.pureG (v := fun β => .agg #[.int .i64 (IntKind.i64.wrap (t + 1)), β 6, .slice fa p.failed.length fc, .int .i64 p.budget, .int .i64 0, .int .i64 0]) (fun β k b hk => ?_) (fun β b => rfl) (fun _ => rfl) (fun β L' w' hJ hat => by simpa only [setL, Nat.reduceEqDiff, if_false] using hJ) (fun β L' w' hJ hat => ?_) ?_
  · have : updG β k b 6 = β 6 := updG_ne β b fun e => by subst e; exact Bool.false_ne_true (hk.symm.trans (by kernel_rfl))
    simp only [this]
  · have p6 := hat.pre 6 (by kernel_rfl)
    obtain ⟨oa, c2, e6⟩ := own_shape (hJ.e6 p6)
    go_simp
  (try simp only [Act.put, List.setIfInBounds_toArray, List.set_cons_zero, List.set_cons_succ, Nat.reduceAdd])
  ((with_reducible refine FlowJ.ghost ?_ ?_ ?_); (focus (intro _; rfl)); (focus (intro β L' w' hJ hat K' hK; (try dsimp only at hJ); ((have n13 := hat.not (j := 13) (by kernel_rfl)); have un := hat.un; simp only [un, n13] at hJ; go_simp; refine hK.out _ _ ?_; simp only [updG, setL, Nat.reduceEqDiff, if_true, if_false, n13]; exact hJ.new (o := six 0 none 0 0 none 0 0 0 0 0) rfl))); (try simp only [Act.put, List.setIfInBounds_toArray, List.set_cons_zero, List.set_cons_succ, Nat.reduceAdd]))
  ((with_reducible refine FlowJ.eff ?_ ?_ ?_); (focus (intro _; rfl)); (focus (intro β L' w' hJ hat K' hK; (try dsimp only at hJ); ((have p12 := hat.pre 12 (by kernel_rfl)); (have p11 := hat.pre 11 (by kernel_rfl)); have p6 := hat.down 11 6 p11 (by decide) (by kernel_rfl); have p3 := hat.down 6 3 p6 (by decide) (by kernel_rfl); have un := hat.un; simp only [un, p3, p6, p12] at hJ; obtain ⟨oa, c2, e6⟩ := own_shape (hJ.e6 rfl); obtain ⟨b, e12, hb1, hb2, hbx, hn3, hn6⟩ := hJ.bx rfl; simp only [Bool.false_eq_true, if_false] at hbx; obtain ⟨c0, f0⟩ := hbx 0 _ rfl; obtain ⟨c1, f1⟩ := hbx 1 _ rfl; obtain ⟨c2', f2⟩ := hbx 2 _ rfl; obtain ⟨c3, f3⟩ := hbx 3 _ rfl; obtain ⟨c4, f4⟩ := hbx 4 _ rfl; obtain ⟨c5, f5⟩ := hbx 5 _ rfl; have hd := hJ.done (by intro v; rw [HFIN.out]; rfl) e12; go_simp; rw [← e6, ← e12]; refine hK.out _ ?_; simp only [setL, Nat.reduceEqDiff, if_true, if_false, p3, p6, p12]; rw [HFIN.out] at hd ⊢; simp only [World.setCells, Nat.zero_add, Nat.reduceAdd] at hd; exact hd))); (try simp only [Act.put, Nat.reduceAdd]))
  refine FlowJ.stop ?_
  dsimp only
  intro β w5 hJ
  obtain ⟨b, e12, hb1, hb2, hbx, _, hne⟩ := hJ.bx rfl
  have ho := hJ.e6 rfl
  have hl5 := hJ.low
  have hne := hne rfl
  obtain ⟨oa, c2, e6⟩ := own_shape ho
  rw [e6] at ho hne
  simp only [if_true] at hbx
  rw [HFIN.out, e6] at hbx
  rw [e12, e6]
  have c0 := (hbx 0 _ rfl).1
  have c1 := (hbx 1 _ rfl).1
  have c2' := (hbx 2 _ rfl).1
  have c3 := (hbx 3 _ rfl).1
  have c4 := (hbx 4 _ rfl).1
  have c5 := (hbx 5 _ rfl).1
  have y4 := cell_later hl5 b4
  have r := HR.out.later hl5
  obtain ⟨r0, g0⟩ := r 0 _ rfl
  obtain ⟨r1, g1⟩ := r 1 _ rfl
  obtain ⟨r2, g2⟩ := r 2 _ rfl
  obtain ⟨r3, g3⟩ := r 3 _ rfl
  obtain ⟨r4, g4⟩ := r 4 _ rfl
  obtain ⟨r5, g5⟩ := r 5 _ rfl
  have hbw : Below w.heap.size w w5 := HB.out.trans (hl5.mono HB.out.size)
  have HO := Lib.hid ho
  have HRR := Lib.hid r
  have HBW := Lib.hid hbw
  obtain ⟨t1, ht1⟩ : ∃ t1, t1 = IntKind.i64.wrap (t + 1) := ⟨_, rfl⟩
  rw [← ht1] at c0 ⊢
  have HT1 := Lib.hid (show t1 = p.turn + 1 by rw [ht1, HT.out, HW1.out])
  clear ht1
  clear hJ hbx r b0 b1 b2 b3 b4 hl5 hbw e12 e6
  rcases HC.out with hc | ⟨c, hc, hcn, hu0, hu1⟩
  · have e : ch = -1 := HCH.out.trans hc
    have HPC := Lib.hid hc
    rw [e] at y4 ⊢
    clear hc e hne ho
    go_wp2_with fail
    obtain ⟨w6, hw6⟩ : ∃ w6, w6 = w5.setCells (w.heap.size + 1) 0 [.int .i64 t1, .slice oa p.starts.length c2, .slice fa p.failed.length fc, .int .i64 p.budget, .int .i64 0, .int .i64 0] := ⟨_, rfl⟩
    have hb6 : Below w.heap.size w w6 := by rw [hw6]; exact below_setCells _ _ _ _ HBW.out (by omega)
    have ho6 : w6.ownsRow wx.heap.size 3 1 (.slice oa p.starts.length c2) p.starts.length (p.starts.map (Value.int .i64)) := by
      rw [hw6]
      exact World.ownsRow.kept HO.out (grown_setCells _ _ _ _) (.inr fun e => by have := (World.ownsRow.lt HO.out _ e).1; omega)
    have hr6 : BoxAt w6 (w.heap.size + 1) [.int .i64 t1, .slice oa p.starts.length c2, .slice fa p.failed.length fc, .int .i64 p.budget, .int .i64 0, .int .i64 0] := by
      rw [hw6]
      exact HRR.out.stored rfl
    simp only [World.setCells, Nat.zero_add, Nat.reduceAdd] at hw6
    rw [← hw6]
    have q0 := (hr6 0 _ rfl).1
    have q1 := (hr6 1 _ rfl).1
    have q2 := (hr6 2 _ rfl).1
    have q3 := (hr6 3 _ rfl).1
    have q4 := (hr6 4 _ rfl).1
    have q5 := (hr6 5 _ rfl).1
    refine bodyPost_ret (v := .agg #[.int .i64 t1, .slice oa p.starts.length c2, .slice fa p.failed.length fc, .int .i64 p.budget, .int .i64 0, .int .i64 0]) (by simp [results, go_sem, q0, q1, q2, q3, q4, q5]) rfl ?_
    have hs : (posA p).starts = p.starts := by
      show (if 0 ≤ p.choice then p.starts.set p.choice.toNat (ig p.starts p.choice.toNat - 1) else p.starts) = _
      rw [if_neg (by rw [HPC.out]; decide)]
    refine ⟨oa, c2, ?_, ?_, hb6⟩
    · unfold psV
      rw [hs, HT1.out]
      rfl
    · rw [hs]
      exact (own_intsS ho6).mono fun b hb => by show w.heap.size ≤ b; have : wx.heap.size ≤ b := hb; omega
  · have e : ch = c := HCH.out.trans hc
    have HPC := Lib.hid hc
    obtain ⟨g, c3', e3, hg1, hg2⟩ := own_some ho (by omega)
    simp only [Value.slice.injEq, true_and] at e3
    obtain ⟨rfl, rfl⟩ := e3
    have hcell := ho.cellAt c (by omega)
    rw [List.getElem?_map, List.getElem?_eq_getElem hcn] at hcell
    have hfr := ho.frozenAt c
    obtain ⟨u, hu⟩ : ∃ u, u = ig p.starts c := ⟨_, rfl⟩
    rw [← ig_lt hcn, ← hu, Option.map_some] at hcell
    rw [← hu] at hu0 hu1
    have hst := ho.stored c (.int .i64 (u - 1))
    have hgb : ¬ g = b := fun e => hne (by rw [e]; rfl)
    have hbg : ¬ b = g := fun e => hgb e.symm
    have hwu : IntKind.i64.wrap (u - 1) = u - 1 := IntWalk.i64_in _ (by omega)
    have HST := Lib.hid hst.1
    have HU := Lib.hid hu
    have HCN := Lib.hid hcn
    rw [e] at y4 ⊢
    have n0 : (0 : Int) ≤ (c : Int) := by omega
    have n1 : (c : Int) < (p.starts.length : Int) := by omega
    have n2 : decide ((0 : Int) ≤ (c : Int)) = true := decide_eq_true n0
    have hgR : ¬ g = w.heap.size + 1 := by omega
    have hgW : ¬ g = w.heap.size := by omega
    clear hc e hne ho hst hu hcn
    go_wp2_with fail
    obtain ⟨wg, hwg⟩ : ∃ wg, wg = w5.setCell ⟨g, c, none⟩ (.int .i64 (u - 1)) := ⟨_, rfl⟩
    rw [← hwg]
    have hog := HST.out
    rw [← hwg] at hog
    have hbg' : Below w.heap.size w wg := by rw [hwg]; exact HBW.out.setCell (by show w.heap.size ≤ g; omega) _
    have hrg : BoxAt wg (w.heap.size + 1) (six 0 none 0 0 none 0 0 0 0 0) := fun o v h => by
      have h2 := HRR.out o v h
      rw [hwg]
      exact ⟨cell_ne h2.1 (.inl fun e => hgR e.symm), by rw [World.frozen?_setCell]; exact h2.2⟩
    have hll : (p.starts.map (Value.int .i64)).set c (Value.int .i64 (u - 1)) = (p.starts.set c (u - 1)).map (Value.int .i64) := by rw [List.map_set]
    rw [hll] at hog
    clear hll hwg HST
    obtain ⟨w6, hw6⟩ : ∃ w6, w6 = wg.setCells (w.heap.size + 1) 0 [.int .i64 t1, .slice (some ⟨g, 0, none⟩) p.starts.length c2, .slice fa p.failed.length fc, .int .i64 p.budget, .int .i64 0, .int .i64 0] := ⟨_, rfl⟩
    have hb6 : Below w.heap.size w w6 := by rw [hw6]; exact below_setCells _ _ _ _ hbg' (by omega)
    have ho6 : w6.ownsRow wx.heap.size 3 1 (.slice (some ⟨g, 0, none⟩) p.starts.length c2) p.starts.length ((p.starts.set c (u - 1)).map (Value.int .i64)) := by
      rw [hw6]
      exact World.ownsRow.kept hog (grown_setCells _ _ _ _) (.inr fun e => by have := (World.ownsRow.lt hog _ e).1; omega)
    have hr6 : BoxAt w6 (w.heap.size + 1) [.int .i64 t1, .slice (some ⟨g, 0, none⟩) p.starts.length c2, .slice fa p.failed.length fc, .int .i64 p.budget, .int .i64 0, .int .i64 0] := by
      rw [hw6]
      exact hrg.stored rfl
    simp only [World.setCells, Nat.zero_add, Nat.reduceAdd] at hw6
    rw [← hw6]
    have q0 := (hr6 0 _ rfl).1
    have q1 := (hr6 1 _ rfl).1
    have q2 := (hr6 2 _ rfl).1
    have q3 := (hr6 3 _ rfl).1
    have q4 := (hr6 4 _ rfl).1
    have q5 := (hr6 5 _ rfl).1
    refine bodyPost_ret (v := .agg #[.int .i64 t1, .slice (some ⟨g, 0, none⟩) p.starts.length c2, .slice fa p.failed.length fc, .int .i64 p.budget, .int .i64 0, .int .i64 0]) (by simp [results, go_sem, q0, q1, q2, q3, q4, q5]) rfl ?_
    have hs : (posA p).starts = p.starts.set c (u - 1) := by
      show (if 0 ≤ p.choice then p.starts.set p.choice.toNat (ig p.starts p.choice.toNat - 1) else p.starts) = _
      rw [if_pos (by rw [HPC.out]; omega), HPC.out, HU.out]
      rfl
    refine ⟨some ⟨g, 0, none⟩, c2, ?_, ?_, hb6⟩
    · unfold psV
      rw [posA_len, HT1.out]
      rfl
    · rw [hs]
      refine (own_intsS (B := wx.heap.size) (c := c2) ?_).mono fun b hb => by show w.heap.size ≤ b; have : wx.heap.size ≤ b := hb; omega
      rw [List.length_set]
      exact ho6
end Go.Proofs.Ytghdfoolieagfaa
