



/- Package bogielaw40: rest. -/
import Derived.Test.YtlkknoooeldomaaGamRc
import Derived.Test.YtlkknoooeldomaaGamV
namespace Go.Proofs.Ytlkknoooeldomaa
open Go.RowKit

/-- the region that makes the new situation -/
structure AfJ (w0 : World) (l : List Int) (zero : List Value) (fin : Value → List Value) (b3 b6 b12 : Value) (l3 l6 l12 l13 : Bool) (w : World) : Prop where
  low : Below w0.heap.size w0 w
  e3 : l3 = true → l6 = false → EI.Own w w0.heap.size b3 []
  e6 : l6 = true → EI.Own w w0.heap.size b6 l
  bx : l12 = true → ∃ b, b12 = .pointer (some ⟨b, 0, none⟩) ∧ w0.heap.size ≤ b ∧ b < w.heap.size ∧ BoxAt w b (if l13 then fin b6 else zero) ∧ (l3 = true → l6 = false → b3.ownBlock ≠ some b) ∧ (l6 = true → b6.ownBlock ≠ some b)
section
variable {w0 w w' : World} {l : List Int} {zero : List Value} {fin : Value → List Value} {b3 b6 b12 : Value} {l3 l6 l12 : Bool}
theorem AfJ.made (h : AfJ w0 l zero fin b3 b6 b12 false false l12 false w) : AfJ w0 l zero fin (.slice (some ⟨w.heap.size, 0, none⟩) 0 0) b6 b12 true false l12 false (w.alloc (.cells #[] 3)) := by
  refine ⟨h.low.alloc h.low.size _, fun _ _ => ?_, fun e => (by cases e), fun e => ?_⟩
  · exact El.Own.lit (E := EI) w w0.heap.size h.low.size [] (by simp) #[] rfl
  · obtain ⟨b, h1, h2, h3, h4, h5, h6⟩ := h.bx e
    refine ⟨b, h1, h2, by rw [World.size_alloc]; omega, h4.alloc _, fun _ _ e => ?_, fun e => (by cases e)⟩
    have : w.heap.size = b := by simpa [Value.ownBlock] using e
    omega
theorem AfJ.app {v' : Value} (h : AfJ w0 l zero fin b3 b6 b12 true false l12 false w) (ho : EI.Own w' w0.heap.size v' l) (hg : w.grownBy w' b3.ownBlock) (hn : ∀ b, v'.ownBlock = some b → b3.ownBlock = some b ∨ w.heap.size ≤ b) :
    AfJ w0 l zero fin b3 v' b12 true true l12 false w' := by
  have hr : ∀ k, b3.ownBlock = some k → w0.heap.size ≤ k := fun k hk => (World.ownsRow.lt (h.e3 rfl rfl) k hk).1
  refine ⟨h.low.grown hg h.low.size hr, fun _ e => (by cases e), fun _ => ho, fun e => ?_⟩
  obtain ⟨b, h1, h2, h3, h4, h5, h6⟩ := h.bx e
  refine ⟨b, h1, h2, Nat.lt_of_lt_of_le h3 hg.size, h4.grown' hg (h5 rfl rfl), fun _ e => (by cases e), fun _ e => ?_⟩
  rcases hn b e with h | h
  · exact h5 rfl rfl h
  · omega
theorem AfJ.new {o : List Value} {T : TypeId} (hz : zero = o) (h : AfJ w0 l zero fin b3 b6 b12 l3 l6 false false w) : AfJ w0 l zero fin b3 b6 (.pointer (some ⟨w.heap.size, 0, none⟩)) l3 l6 true false (w.alloc (.cells o.toArray T)) := by
  subst hz
  refine ⟨h.low.alloc h.low.size _, fun e e' => (h.e3 e e').later ((Below.refl _ _).alloc (Nat.le_refl _) _), fun e => (h.e6 e).later ((Below.refl _ _).alloc (Nat.le_refl _) _), fun _ => ⟨_, rfl, h.low.size, by rw [World.size_alloc]; omega, BoxAt.new _ _ _, fun e e' e2 => ?_, fun e e2 => ?_⟩⟩
  · have := (World.ownsRow.lt (h.e3 e e') _ e2).2
    omega
  · have := (World.ownsRow.lt (h.e6 e) _ e2).2
    omega
theorem AfJ.done {b : Nat} (h : AfJ w0 l zero fin b3 b6 b12 true true true false w) (hl : ∀ v, (fin v).length = zero.length) (hb : b12 = .pointer (some ⟨b, 0, none⟩)) : AfJ w0 l zero fin b3 b6 b12 true true true true (w.setCells b 0 (fin b6)) := by
  obtain ⟨b', h1, h2, h3, h4, h5, h6⟩ := h.bx rfl
  rw [hb] at h1
  obtain rfl : b = b' := by simpa using h1
  refine ⟨below_setCells _ _ _ _ h.low h2, fun _ e => (by cases e), fun _ => ?_, fun _ => ⟨b, hb, h2, by rw [setCells_heap]; exact h3, h4.stored (hl _), fun _ e => (by cases e), h6⟩⟩
  refine World.ownsRow.kept (h.e6 rfl) (row := some b) (grown_setCells _ _ _ _) ?_
  exact .inr (h6 rfl)
end
/-- the region of 'v = append(v, x)', v in the cell o of the block T -/
structure ApJ {α : Type} (E : El α) (X : Nat → Prop) (w0 : World) (B T o : Nat) (x : α) (v0 : Value) (l : List α) (bp bq : Value) (lp lq lr : Bool) (w : World) : Prop where
  chg : Chg (fun k => X k ∨ k = T ∨ v0.ownBlock = some k) w0 w
  cell : w.cell? ⟨T, o, none⟩ = some (if lr then bq else v0)
  fro : w.frozen? ⟨T, o, none⟩ = false
  rest : ∀ j, j ≠ o → w.cell? ⟨T, j, none⟩ = w0.cell? ⟨T, j, none⟩ ∧ w.frozen? ⟨T, j, none⟩ = w0.frozen? ⟨T, j, none⟩
  ty : ∀ U, IsTy w0 T U → IsTy w T U
  box : lp = true → ∃ n, bp = .slice (some ⟨n, 0, none⟩) 1 1 ∧ w0.heap.size ≤ n ∧ BoxAt w n (E.cf x)
  own : E.Own w B (if lq then bq else v0) (if lq then l ++ [x] else l)
  nb : lq = true → ∀ b, bq.ownBlock = some b → v0.ownBlock = some b ∨ w0.heap.size ≤ b
section
variable {α : Type} {E : El α} {X : Nat → Prop} {w0 w w' : World} {B T o : Nat} {x : α} {v0 : Value} {l : List α} {bp bq : Value} {lp lq lr : Bool}
theorem ApJ.start (hc : w0.cell? ⟨T, o, none⟩ = some v0) (hf : w0.frozen? ⟨T, o, none⟩ = false) (ho : E.Own w0 B v0 l) : ApJ E X w0 B T o x v0 l bp bq false false false w0.drew :=
  ⟨(Chg.refl _ _).drew, hc, hf, fun _ _ => ⟨rfl, rfl⟩, fun _ h => h, fun e => (by cases e), ho, fun e => (by cases e)⟩
theorem ApJ.made (h : ApJ E X w0 B T o x v0 l bp bq false false lr w) : ApJ E X w0 B T o x v0 l (.slice (some ⟨w.heap.size, 0, none⟩) 1 1) bq true false lr (w.alloc (.cells (E.cf x).toArray E.T)) := by
  have hb : Below w.heap.size w (w.alloc (.cells (E.cf x).toArray E.T)) := (Below.refl _ _).alloc (Nat.le_refl _) _
  have hT : T < w.heap.size := World.block_lt_of_cell? _ _ h.cell
  refine ⟨h.chg.alloc _, cell_later hb h.cell, (hb.frozen (p := ⟨T, o, none⟩) hT).trans h.fro, fun j hj => ?_, fun U hU => (h.ty U hU).block (hb.block _ hT), fun _ => ⟨_, rfl, h.chg.size, BoxAt.new _ _ _⟩, El.Own.later h.own hb, fun e => (by cases e)⟩
  exact ⟨(hb.cell (p := ⟨T, j, none⟩) hT).trans (h.rest j hj).1, (hb.frozen (p := ⟨T, j, none⟩) hT).trans (h.rest j hj).2⟩
theorem ApJ.app {v' : Value} (hv : v0.ownBlock ≠ some T) (h : ApJ E X w0 B T o x v0 l bp bq true false false w) (ho : E.Own w' B v' (l ++ [x])) (hg : w.grownBy w' v0.ownBlock) (hn : ∀ b, v'.ownBlock = some b → v0.ownBlock = some b ∨ w.heap.size ≤ b) (hlt : ∀ b, v0.ownBlock = some b → b < w0.heap.size) :
    ApJ E X w0 B T o x v0 l bp v' true true false w' := by
  have hT : T < w.heap.size := World.block_lt_of_cell? _ _ h.cell
  have hTb : w'.heap[T]? = w.heap[T]? := hg.block T hT (fun e => hv e.symm)
  refine ⟨h.chg.grown hg fun k hk _ => .inr (.inr hk), (World.cell?_of_block (w := w) (a := ⟨T, o, none⟩) hTb).trans h.cell, (World.frozen?_of_block (w := w) (a := ⟨T, o, none⟩) hTb).trans h.fro, fun j hj => ?_, fun U hU => (h.ty U hU).block hTb, fun e => ?_, ho, fun _ b hb => ?_⟩
  · exact ⟨(World.cell?_of_block (w := w) (a := ⟨T, j, none⟩) hTb).trans (h.rest j hj).1, (World.frozen?_of_block (w := w) (a := ⟨T, j, none⟩) hTb).trans (h.rest j hj).2⟩
  · obtain ⟨n, e, hlt', hbx⟩ := h.box rfl
    refine ⟨n, e, hlt', hbx.grown' hg fun e2 => ?_⟩
    have := hlt n e2
    omega
  · rcases hn b hb with h1 | h1
    · exact .inl h1
    · exact .inr (Nat.le_trans h.chg.size h1)
theorem ApJ.stored (hv : v0.ownBlock ≠ some T) (hT0 : T < w0.heap.size) (h : ApJ E X w0 B T o x v0 l bp bq true true false w) : ApJ E X w0 B T o x v0 l bp bq true true true (w.setCell ⟨T, o, none⟩ bq) := by
  have hbq : bq.ownBlock ≠ some T := fun e => by
    rcases h.nb rfl T e with h1 | h1
    · exact hv h1
    · omega
  refine ⟨h.chg.setCell (p := ⟨T, o, none⟩) (fun _ => .inr (.inl rfl)) _, World.cell?_setCell_same _ _ _ h.cell, by rw [World.frozen?_setCell]; exact h.fro, fun j hj => ?_, fun U hU => (h.ty U hU).setCell _ _ _, fun e => ?_, ?_, h.nb⟩
  · refine ⟨?_, by rw [World.frozen?_setCell]; exact (h.rest j hj).2⟩
    rw [World.cell?_setCell_other _ _ _ _ (by intro e; exact hj (congrArg Addr.off e).symm)]
    exact (h.rest j hj).1
  · obtain ⟨n, e, hlt, hbx⟩ := h.box rfl
    refine ⟨n, e, hlt, hbx.block (heap_setCell_other w ⟨T, o, none⟩ n bq ?_)⟩
    show ¬ n = T
    omega
  · exact El.Own.block h.own fun g hg => heap_setCell_other w ⟨T, o, none⟩ g bq (by intro e; exact hbq (hg.trans (congrArg some e)))
end
/-- rows, by where they lie -/
def ER : El (Option Addr × Nat × Nat) := ⟨22, 23, 1, 24, .slice none 0 0, fun x => [.slice x.1 x.2.1 x.2.2], Try.underlying23, by kernel_rfl, rfl, by decide, by decide, fun _ => rfl, fun x u hu => by simp at hu; subst hu; rfl⟩
theorem flatI_set (l : List Int) (q : Nat) (x : Int) : (l.flatMap EI.cf).set q (.int .i64 x) = (l.set q x).flatMap EI.cf := by
  induction l generalizing q with
  | nil => rfl
  | cons a l ih =>
    cases q with
    | zero => rfl
    | succ q =>
      show (Value.int .i64 a :: l.flatMap EI.cf).set (q + 1) _ = Value.int .i64 a :: (l.set q x).flatMap EI.cf
      rw [List.set_cons_succ, ih]
theorem own_set {w : World} {B g n cap : Nat} {l : List Int} (h : EI.Own w B (.slice (some ⟨g, 0, none⟩) n cap) l) (q : Nat) (x : Int) : EI.Own (w.setCell ⟨g, q, none⟩ (.int .i64 x)) B (.slice (some ⟨g, 0, none⟩) n cap) (l.set q x) := by
  obtain ⟨a, c, e, _⟩ := h.at
  cases e
  have h1 := World.ownsRow.stored h q (.int .i64 x)
  have h2 := h1.1
  unfold El.Own
  rw [flatI_set] at h2
  rw [List.length_set]
  exact h2
/-- what is left behind the first turn -/
def restG (g : Gm) (f c : Int) : Gm := ⟨if 0 ≤ c then dec (if 0 ≤ f then g.starts.set f.toNat 0 else g.starts) c else if 0 ≤ f then g.starts.set f.toNat 0 else g.starts, g.deps.tail, if 0 ≤ f then g.budget - 1 else g.budget⟩
def InL (L : List Int) : Prop := ∀ j, 0 ≤ ig L j ∧ ig L j ≤ 12
theorem InL.of {g : Gm} (h : VG g) : InL g.starts := fun j => by
  by_cases hj : j < g.starts.length
  · exact h.2.2.2.2.1 j hj
  · rw [ig_out (by omega)]; omega
theorem InL.zero {L : List Int} (h : InL L) (i : Nat) : InL (L.set i 0) := fun j => by
  rw [ig_set]
  split
  · omega
  · exact h j
/-- while what is left is laid -/
structure ReI (g : Gm) (sa : Option Addr) (sc : Nat) (da : Option Addr) (dc : Nat) (w : World) (O : Nat) (va : Value) (S : List Int) (vd : Value) (R : List (Option Addr × Nat × Nat)) (b : Int) (W : World) : Prop where
  bl : Below w.heap.size w W
  g : BoxAt W w.heap.size (gmC g sa sc da dc)
  r : BoxAt W (w.heap.size + 1) [.slice none 0 0, .slice none 0 0, .int .i64 0]
  o : BoxAt W O [va, vd, .int .i64 b]
  lo : w.heap.size + 1 < O
  s : EI.Own W (w.heap.size + 1 + 1) va S
  d : ER.Own W (w.heap.size + 1 + 1) vd R
  ns : va.ownBlock ≠ some O
  nd : vd.ownBlock ≠ some O
theorem ReI.store {g : Gm} {sa da : Option Addr} {sc dc O gb n cap : Nat} {w W : World} {S : List Int} {vd : Value} {R : List (Option Addr × Nat × Nat)} {b : Int} (h : ReI g sa sc da dc w O (.slice (some ⟨gb, 0, none⟩) n cap) S vd R b W) (q : Nat) (x : Int) :
    ReI g sa sc da dc w O (.slice (some ⟨gb, 0, none⟩) n cap) (S.set q x) vd R b (W.setCell ⟨gb, q, none⟩ (.int .i64 x)) := by
  have hlo := (h.s.lt gb rfl).1
  have hne : gb ≠ O := fun e => h.ns (by rw [e]; rfl)
  have hc : Chg (fun k => k = gb) W (W.setCell ⟨gb, q, none⟩ (.int .i64 x)) := Chg.setCell (S := fun k => k = gb) (Chg.refl _ _) (p := ⟨gb, q, none⟩) (fun _ => rfl) _
  refine ⟨h.bl.trans (hc.below h.bl.size fun k e => by rw [e]; omega), h.g.chg hc (by omega) h.g.lt, h.r.chg hc (by omega) h.r.lt, h.o.chg hc (fun e => hne e.symm) h.o.lt, h.lo, own_set h.s q x, ?_, h.ns, h.nd⟩
  exact h.d.block fun k hk => hc.block k (h.d.lt k hk).2 fun e => (h.d.ty hk).ne (h.s.ty (g := gb) rfl) (by decide) e
theorem ReI.budget {g : Gm} {sa da : Option Addr} {sc dc O : Nat} {w W : World} {S : List Int} {va vd : Value} {R : List (Option Addr × Nat × Nat)} {b : Int} (h : ReI g sa sc da dc w O va S vd R b W) (x : Int) : ReI g sa sc da dc w O va S vd R x (W.setCell ⟨O, 2, none⟩ (.int .i64 x)) := by
  have hlo := h.lo
  have hc : Chg (fun k => k = O) W (W.setCell ⟨O, 2, none⟩ (.int .i64 x)) := Chg.setCell (S := fun k => k = O) (Chg.refl _ _) (p := ⟨O, 2, none⟩) (fun _ => rfl) _
  refine ⟨h.bl.trans (hc.below h.bl.size fun k e => by rw [e]; omega), h.g.chg hc (by omega) h.g.lt, h.r.chg hc (by omega) h.r.lt, h.o.put 2 _ (by simp), h.lo, h.s.block fun k hk => hc.block k (h.s.lt k hk).2 fun e => h.ns (by rw [← e]; exact hk), h.d.block fun k hk => hc.block k (h.d.lt k hk).2 fun e => h.nd (by rw [← e]; exact hk), h.ns, h.nd⟩
/-- the rows of a game from the second on -/
def rowsTo (rw : Nat → Option Addr × Nat × Nat) (i : Nat) : List (Option Addr × Nat × Nat) := (List.range (i - 1)).map fun j => rw (j + 1)
set_option maxRecDepth 100000 in
set_option maxHeartbeats 8000000 in
theorem rest_any (g : Gm) (sa da : Option Addr) (sc dc : Nat) (f c : Int) (w : World) (hG : GmAt w g sa da) (hv : VG g) (h1 : 0 < g.deps.length) (hf : f = -1 ∨ 0 ≤ f ∧ f < g.starts.length) (hc : c = -1 ∨ 0 ≤ c ∧ c < g.starts.length) :
    Calls Try.prog 19 #[gmV g sa sc da dc, .int .i64 f, .int .i64 c] w fun e w' => ∃ sa' sc' da' dc', e = .returned (gmV (restG g f c) sa' sc' da' dc') ∧ GmAt w' (restG g f c) sa' da' ∧ Below w.heap.size w w' := by
  have HG := Lib.hid hG
  have HV := Lib.hid hv
  have H1 := Lib.hid h1
  obtain ⟨n, hn⟩ : ∃ n, n = g.starts.length := ⟨_, rfl⟩
  obtain ⟨bu, hbu⟩ : ∃ n, n = g.budget := ⟨_, rfl⟩
  have hb3 : 0 ≤ bu ∧ bu ≤ 3 := by rw [hbu]; exact ⟨hv.2.2.1, hv.2.2.2.1⟩
  rw [← hn] at hf hc
  have HN := Lib.hid hn
  have HBU := Lib.hid hbu
  have HFC := Lib.hid (And.intro hf hc)
  have hn6 : n ≤ 6 := by rw [hn]; exact hv.1
  clear hG hv h1 hn hbu hf hc
  go_enter Try.func19, Try.ntmps19
  go_upto_region 1 with fail
  refine wp_named ?_
  intro w1 hw1
  obtain ⟨hb1, hs1, ⟨hg, _⟩, hr, _⟩ := alloc2t w (gmC g sa sc da dc) [.slice none 0 0, .slice none 0 0, .int .i64 0] _ _ w1 hw1
  have HB1 := Lib.hid hb1
  have HS1 := Lib.hid hs1
  have HGB := Lib.hid hg
  have HRB := Lib.hid hr
  have b0 := (hg 0 _ rfl).1
  have b2 := (hg 2 _ rfl).1
  rw [← HN.out] at b0
  rw [← HBU.out] at b2
  have HI := Lib.hid (HG.out.s.later hb1)
  clear hw1 hb1 hs1 hg hr
  obtain ⟨fin, hfin⟩ : ∃ fin : Value → List Value, fin = fun v => [v, .slice none 0 0, .int .i64 bu] := ⟨_, rfl⟩
  have HFIN := Lib.hid (show ∀ v, fin v = [v, .slice none 0 0, .int .i64 bu] from fun v => by rw [hfin])
  refine wp_flow_j (fun β L' w' => AfJ w1 g.starts [.slice none 0 0, .slice none 0 0, .int .i64 0] fin (β 0) (β 3) (β 7) (L' 0) (L' 3) (L' 7) (L' 8) w') (by kernel_rfl) (by kernel_rfl) ?h0 ?_
  case h0 => exact ⟨(Below.refl _ _).drew, fun e => (by cases e), fun e => (by cases e), fun e => (by cases e)⟩
  clear hfin
  ((with_reducible refine FlowJ.ghost ?_ ?_ ?_); (focus (intro _; rfl)); (focus (intro β L' w' hJ hat K' hK; (try dsimp only at hJ); ((have n3 := hat.not (j := 3) (by kernel_rfl)); (have n8 := hat.not (j := 8) (by kernel_rfl)); have un := hat.un; simp only [un, n3, n8] at hJ; go_simp; refine hK.out _ _ ?_; simp only [updG, setL, Nat.reduceEqDiff, if_true, if_false, n3, n8]; exact hJ.made))); (try simp only [Act.put, List.setIfInBounds_toArray, List.set_cons_zero, List.set_cons_succ, Nat.reduceAdd]))
  iterate 2 (((with_reducible refine FlowJ.pure (v := ?_) ?_ ?_ ?_ ?_); rotate_left 1; (focus (intro _; rfl)); (focus (intro β L' w' hJ hat; (try dsimp only at hJ); (try dsimp only); simpa only [setL, Nat.reduceEqDiff, if_false] using hJ)); (focus (intro β L' w' hJ hat; (try dsimp only at hJ); (have y0 := cell_later hJ.low b0); go_simp; (try with_reducible rfl); done)); (try simp only [Act.put, List.setIfInBounds_toArray, List.set_cons_zero, List.set_cons_succ, Nat.reduceAdd])))
  ((with_reducible refine FlowJ.ghost ?_ ?_ ?_); (focus (intro _; rfl)); (focus (intro β L' w' hJ hat K' hK; (try dsimp only at hJ); ((have p0 := hat.pre 0 (by kernel_rfl)); (have n8 := hat.not (j := 8) (by kernel_rfl)); have un := hat.un; simp only [un, p0, n8] at hJ; obtain ⟨v', w2, hr, ho, hg, hnn⟩ := El.app (E := EI) w' w1.heap.size (β 0) [] g.starts (hJ.e3 rfl rfl) sa sc (Ints.el (HI.out.later hJ.low)) (by have := HN.out; simp; omega) hJ.low.size 22; rw [← HN.out] at hr; refine wp_app_eq (.tmp 9) (.tmp 11) 22 rfl _ _ rfl rfl hr ?_; refine hK.out _ _ ?_; simp only [updG, setL, Nat.reduceEqDiff, if_true, if_false, p0, n8]; exact hJ.app (by simpa using ho) hg hnn))); (try simp only [Act.put, List.setIfInBounds_toArray, List.set_cons_zero, List.set_cons_succ, Nat.reduceAdd]))
  iterate 2 (((with_reducible refine FlowJ.pure (v := ?_) ?_ ?_ ?_ ?_); rotate_left 1; (focus (intro _; rfl)); (focus (intro β L' w' hJ hat; (try dsimp only at hJ); (try dsimp only); simpa only [setL, Nat.reduceEqDiff, if_false] using hJ)); (focus (intro β L' w' hJ hat; (try dsimp only at hJ); (have y0 := cell_later hJ.low b2); go_simp; (try with_reducible rfl); done)); (try simp only [Act.put, List.setIfInBounds_toArray, List.set_cons_zero, List.set_cons_succ, Nat.reduceAdd])))
  refine FlowJ.pureG (v := fun β => .agg #[β 3, .slice none 0 0, .int .i64 bu]) (fun β k b hk => ?_) (fun β b => rfl) (fun _ => rfl) (fun β L' w' hJ hat => by simpa only [setL, Nat.reduceEqDiff, if_false] using hJ) (fun β L' w' hJ hat => ?_) ?_
  · have : updG β k b 3 = β 3 := updG_ne β b fun e => by subst e; exact Bool.false_ne_true (hk.symm.trans (by kernel_rfl))
    simp only [this]
  · have p3 := hat.pre 3 (by kernel_rfl)
    obtain ⟨oa, na, c2, e6⟩ := (hJ.e6 p3).shape
    rw [e6]
    clear hJ
    go_simp
    (try with_reducible rfl); done
  (try simp only [Act.put, List.setIfInBounds_toArray, List.set_cons_zero, List.set_cons_succ, Nat.reduceAdd])
  ((with_reducible refine FlowJ.ghost ?_ ?_ ?_); (focus (intro _; rfl)); (focus (intro β L' w' hJ hat K' hK; (try dsimp only at hJ); ((have n8 := hat.not (j := 8) (by kernel_rfl)); have un := hat.un; simp only [un, n8] at hJ; go_simp; refine hK.out _ _ ?_; simp only [updG, setL, Nat.reduceEqDiff, if_true, if_false, n8]; exact hJ.new (o := [.slice none 0 0, .slice none 0 0, .int .i64 0]) rfl))); (try simp only [Act.put, List.setIfInBounds_toArray, List.set_cons_zero, List.set_cons_succ, Nat.reduceAdd]))
  ((with_reducible refine FlowJ.eff ?_ ?_ ?_); (focus (intro _; rfl)); (focus (intro β L' w' hJ hat K' hK; (try dsimp only at hJ); ((have p7 := hat.pre 7 (by kernel_rfl)); (have p6 := hat.pre 6 (by kernel_rfl)); have p3 := hat.down 6 3 p6 (by decide) (by kernel_rfl); have p0 := hat.down 3 0 p3 (by decide) (by kernel_rfl); have un := hat.un; simp only [un, p0, p3, p7] at hJ; obtain ⟨oa, na, c2, e3⟩ := (hJ.e6 rfl).shape; obtain ⟨b, e7, hb1, hb2, hbx, hn3, hn6⟩ := hJ.bx rfl; simp only [Bool.false_eq_true, if_false] at hbx; obtain ⟨c0, f0⟩ := hbx 0 _ rfl; obtain ⟨c1, f1⟩ := hbx 1 _ rfl; obtain ⟨c2', f2⟩ := hbx 2 _ rfl; have hd := hJ.done (by intro v; rw [HFIN.out]; rfl) e7; rw [HFIN.out] at hd; simp only [World.setCells, Nat.zero_add, Nat.reduceAdd] at hd; rw [e3, e7]; rw [e3] at hd; go_simp; rw [← e3, ← e7]; rw [← e3] at hd; refine hK.out _ ?_; simp only [setL, Nat.reduceEqDiff, if_true, if_false, p0, p3, p7]; exact hd))); (try simp only [Act.put, Nat.reduceAdd]))
  refine FlowJ.stop ?_
  dsimp only
  intro β w4 hJ
  obtain ⟨O, e7, hO1, hO2, hbx, _, hno⟩ := hJ.bx rfl
  have ho := hJ.e6 rfl
  simp only [if_true] at hbx
  rw [HFIN.out] at hbx
  have hno := hno rfl
  have hl := hJ.low
  obtain ⟨va, hva⟩ : ∃ va, va = β 3 := ⟨_, rfl⟩
  rw [e7, ← hva]
  rw [← hva] at hbx ho hno
  have i4 : ReI g sa sc da dc w O va g.starts (.slice none 0 0) [] bu w4 := by
    have hs1 := HS1.out
    have hbw := HB1.out.trans (hl.mono HB1.out.size)
    refine ⟨hbw, HGB.out.later hl, HRB.out.later hl, hbx, by omega, ?_, El.Own.nil _ _ _, hno, fun e => by cases e⟩
    rw [hs1] at ho
    exact ho
  have HI4 := Lib.hid i4
  clear hJ e7 hO1 hO2 hbx hno ho hl hva i4 b0 b2
  have hrw : ∃ (db doff : Nat) (rws : Nat → Option Addr × Nat × Nat), da = some ⟨db, doff, none⟩ ∧ ∀ i, i < g.deps.length → w.cell? ⟨db, doff + i, none⟩ = some (.slice (rws i).1 (rws i).2.1 (rws i).2.2) ∧ (rws i).2.1 = (g.deps.getD i []).length ∧ Ints w (rws i).1 (g.deps.getD i []) := by
    obtain ⟨db, doff, _, _, e0, _⟩ := HG.out.d 0 H1.out
    obtain ⟨A, hA⟩ := Classical.axiomOfChoice (α := Fin g.deps.length) (β := fun _ => Option Addr × Nat × Nat) (r := fun x A => w.cell? ⟨db, doff + x, none⟩ = some (.slice A.1 A.2.1 A.2.2) ∧ A.2.1 = (g.deps.getD x []).length ∧ Ints w A.1 (g.deps.getD x [])) (fun x => by
      obtain ⟨b, off, ra, rc, ha, h2, h3⟩ := HG.out.d x x.2
      rw [e0] at ha
      cases ha
      exact ⟨(ra, _, rc), h2, rfl, h3⟩)
    refine ⟨db, doff, fun i => if hi : i < g.deps.length then A ⟨i, hi⟩ else (none, 0, 0), e0, fun i hi => ?_⟩
    simp only [dif_pos hi]
    exact hA ⟨i, hi⟩
  obtain ⟨db, doff, rws, rfl, hrw⟩ := hrw
  have HRW := Lib.hid hrw
  clear hrw
  -- the vehicle that failed
  rcases HFC.out.1 with hf | ⟨hf0, hfn⟩
  · subst hf
    go_upto_region 5 with fail
    obtain ⟨S1, hS1⟩ : ∃ S, S = g.starts := ⟨_, rfl⟩
    obtain ⟨b1, hb1⟩ : ∃ b, b = bu := ⟨_, rfl⟩
    obtain ⟨w5, hw5⟩ : ∃ w5, w5 = w4 := ⟨_, rfl⟩
    have HS1E := Lib.hid (show S1 = if 0 ≤ (-1 : Int) then g.starts.set (-1 : Int).toNat 0 else g.starts from by rw [hS1]; rfl)
    have HB1E := Lib.hid (show b1 = if 0 ≤ (-1 : Int) then g.budget - 1 else g.budget from by rw [hb1, HBU.out]; rfl)
    have HL1 := Lib.hid (show S1.length = n from by rw [hS1, HN.out])
    have HIN1 := Lib.hid (show InL S1 from by rw [hS1]; exact InL.of HV.out)
    have HI5 := HI4
    rw [← hS1, ← hb1, ← hw5] at HI5
    rw [← hw5]
    clear hS1 hb1 hw5
    rcases HFC.out.2 with hc | ⟨hc0, hcn⟩
    · subst hc
      go_upto_region 7 with fail
      obtain ⟨SS, hSS⟩ : ∃ S, S = S1 := ⟨_, rfl⟩
      obtain ⟨bb, hbb⟩ : ∃ b, b = b1 := ⟨_, rfl⟩
      have HSB := Lib.hid (show SS = (restG g (-1) (-1)).starts ∧ bb = (restG g (-1) (-1)).budget from ⟨by rw [hSS, HS1E.out]; rfl, by rw [hbb, HB1E.out]; rfl⟩)
      have HIX := HI5
      rw [← hSS, ← hbb] at HIX
      clear hSS hbb
      obtain ⟨nd, hnd⟩ : ∃ n, n = g.deps.length := ⟨_, rfl⟩
      have HND := Lib.hid hnd
      have k1 := (HIX.out.g 1 _ rfl).1
      rw [← hnd] at k1
      have hnd12 : nd ≤ 12 := by rw [hnd]; exact HV.out.2.1
      have hnd1 : 1 ≤ nd := by rw [hnd]; exact H1.out
      clear hnd
      go_wp2_with fail
      clear k1
      go_loopg [8] nd (fun gk v8 wr => ∃ (i : Nat) (vd : Value), 1 ≤ i ∧ i ≤ nd ∧ gk + i = nd + 1 ∧ v8 = .int .i64 i ∧ ReI g sa sc (some ⟨db, doff, none⟩) dc w O va SS vd (rowsTo rws i) bb wr)
      case atStart => exact ⟨1, _, by omega, by omega, by omega, rfl, HIX.out⟩
      case round =>
        obtain ⟨i, vd, hi1, hi, hgi, rfl, hI⟩ := hrel
        obtain ⟨wq, hwq⟩ : ∃ wq, wq = wr := ⟨_, rfl⟩
        subst hwq
        have k1 := (hI.g 1 _ rfl).1
        rw [← HND.out] at k1
        have o0 := (hI.o 0 _ rfl).1
        have o1 := (hI.o 1 _ rfl).1
        have o2 := (hI.o 2 _ rfl).1
        have r0 := (hI.r 0 _ rfl).1
        have hlo := hI.lo
        have HIQ := Lib.hid hI
        by_cases hlt : i < nd
        · obtain ⟨hrc, hrl, hri⟩ := HRW.out i (by rw [← HND.out]; exact hlt)
          have kr := cell_later hI.bl hrc
          have hdb : db < w.heap.size := World.block_lt_of_cell? _ _ hrc
          have HVB := Lib.hid (show ∀ b, b ≤ w.heap.size + 1 → ¬ ((fun _ => False) b ∨ b = O ∨ vd.ownBlock = some b) from fun b hb => by
            rintro (h | h | h)
            · exact h
            · omega
            · have := (hI.d.lt b h).1; omega)
          have hc0 := (hI.o 1 _ rfl).1
          have hf0 := (hI.o 1 _ rfl).2
          have hst : ApJ ER (fun _ => False) wq (w.heap.size + 1 + 1) O 1 (rws i) vd (rowsTo rws i) undef undef false false false wq.drew := ApJ.start hc0 hf0 hI.d
          have HST := Lib.hid hst
          have HVR := Lib.hid hI.nd
          have HWL := Lib.hid (fun b hb => (hI.d.lt b hb).2)
          have HOL := Lib.hid hI.o.lt
          have HDB := Lib.hid hdb
          have HLO := Lib.hid (show w.heap.size + 1 + 1 ≤ wq.heap.size from by have := hI.o.lt; omega)
          have m1 : (i : Int) < (nd : Int) := by omega
          have m0 : (0 : Int) ≤ (i : Int) := by omega
          obtain ⟨xr, hxr⟩ : ∃ x, x = rws i := ⟨_, rfl⟩
          rw [← hxr] at kr
          have HXR := Lib.hid hxr
          have HKR := Lib.hid kr
          have HK1 := Lib.hid k1
          clear hI hst hc0 hf0 hdb hrc hrl hri o0 o1 o2 r0 hlo hxr kr
          go_upto_region 10 with fail
          clear k1
          rw [← HXR.out] at HST
          refine wp_flow_j (fun β L' w' => ApJ ER (fun _ => False) wq (w.heap.size + 1 + 1) O 1 xr vd (rowsTo rws i) (β 7) (β 8) (L' 7) (L' 8) (L' 10) w') (by kernel_rfl) (by kernel_rfl) ?h0 ?_
          case h0 => exact HST.out
          iterate 2 (((with_reducible refine FlowJ.pure (v := ?_) ?_ ?_ ?_ ?_); rotate_left 1; (focus (intro _; rfl)); (focus (intro β L' w' hJ hat; (try dsimp only at hJ); (try dsimp only); simpa only [setL, Nat.reduceEqDiff, if_false] using hJ)); (focus (intro β L' w' hJ hat; (try dsimp only at hJ); ((have n10 := hat.not (j := 10) (by kernel_rfl)); have yc := hJ.cell; simp only [n10, Bool.false_eq_true, if_false] at yc); go_simp; (try with_reducible rfl); done)); (try simp only [Act.put, List.setIfInBounds_toArray, List.set_cons_zero, List.set_cons_succ, Nat.reduceAdd])))
          iterate 4 (((with_reducible refine FlowJ.pure (v := ?_) ?_ ?_ ?_ ?_); rotate_left 1; (focus (intro _; rfl)); (focus (intro β L' w' hJ hat; (try dsimp only at hJ); (try dsimp only); simpa only [setL, Nat.reduceEqDiff, if_false] using hJ)); (focus (intro β L' w' hJ hat; (try dsimp only at hJ); (have y1 := hJ.chg.cell HK1.out (HVB.out _ (by show w.heap.size ≤ _; omega))); go_simp; (try with_reducible rfl); done)); (try simp only [Act.put, List.setIfInBounds_toArray, List.set_cons_zero, List.set_cons_succ, Nat.reduceAdd])))
          ((with_reducible refine FlowJ.pure (v := ?_) ?_ ?_ ?_ ?_); rotate_left 1; (focus (intro _; rfl)); (focus (intro β L' w' hJ hat; (try dsimp only at hJ); (try dsimp only); simpa only [setL, Nat.reduceEqDiff, if_false] using hJ)); (focus (intro β L' w' hJ hat; (try dsimp only at hJ); (have y1 := hJ.chg.cell HKR.out (HVB.out _ (by show db ≤ _; have := HDB.out; omega))); go_simp; (try with_reducible rfl); done)); (try simp only [Act.put, List.setIfInBounds_toArray, List.set_cons_zero, List.set_cons_succ, Nat.reduceAdd]))
          ((with_reducible refine FlowJ.ghost ?_ ?_ ?_); (focus (intro _; rfl)); (focus (intro β L' w' hJ hat K' hK; (try dsimp only at hJ); ((have n8 := hat.not (j := 8) (by kernel_rfl)); (have n10 := hat.not (j := 10) (by kernel_rfl)); have un := hat.un; simp only [un, n8, n10] at hJ; go_simp; refine hK.out _ _ ?_; simp only [updG, setL, Nat.reduceEqDiff, if_true, if_false, n8, n10]; exact hJ.made))); (try simp only [Act.put, List.setIfInBounds_toArray, List.set_cons_zero, List.set_cons_succ, Nat.reduceAdd]))
          ((with_reducible refine FlowJ.ghost ?_ ?_ ?_); (focus (intro _; rfl)); (focus (intro β L' w' hJ hat K' hK; (try dsimp only at hJ); ((have p7 := hat.pre 7 (by kernel_rfl)); (have n10 := hat.not (j := 10) (by kernel_rfl)); have un := hat.un; simp only [un, p7, n10] at hJ; obtain ⟨nb, eb, hnb, hbx⟩ := hJ.box rfl; obtain ⟨v', w2, hr, ho, hg, hn⟩ := El.app (E := ER) w' (w.heap.size + 1 + 1) vd (rowsTo rws i) [xr] hJ.own (some ⟨nb, 0, none⟩) 1 (El.one_at hbx) (by simp [rowsTo]; omega) (by have := hJ.chg.size; have := HLO.out; omega) 23; refine wp_app_eq (.tmp 43) (.tmp 49) 23 rfl _ _ rfl (by show β 7 = _; exact eb) hr ?_; refine hK.out _ _ ?_; simp only [updG, setL, Nat.reduceEqDiff, if_true, if_false, p7, n10]; exact hJ.app HVR.out ho hg hn HWL.out))); (try simp only [Act.put, List.setIfInBounds_toArray, List.set_cons_zero, List.set_cons_succ, Nat.reduceAdd]))
          ((with_reducible refine FlowJ.pure (v := ?_) ?_ ?_ ?_ ?_); rotate_left 1; (focus (intro _; rfl)); (focus (intro β L' w' hJ hat; (try dsimp only at hJ); (try dsimp only); simpa only [setL, Nat.reduceEqDiff, if_false] using hJ)); (focus (intro β L' w' hJ hat; (try dsimp only at hJ); skip; go_simp; (try with_reducible rfl); done)); (try simp only [Act.put, List.setIfInBounds_toArray, List.set_cons_zero, List.set_cons_succ, Nat.reduceAdd]))
          ((with_reducible refine FlowJ.eff ?_ ?_ ?_); (focus (intro _; rfl)); (focus (intro β L' w' hJ hat K' hK; (try dsimp only at hJ); ((have p8 := hat.pre 8 (by kernel_rfl)); have p7 := hat.down 8 7 p8 (by decide) (by kernel_rfl); have un := hat.un; simp only [un, p7, p8] at hJ; have yc := hJ.cell; have yf := hJ.fro; simp only [Bool.false_eq_true, if_false] at yc; obtain ⟨oa, na, ca, e5⟩ := hJ.own.shape; simp only [if_true] at e5; rw [e5]; go_simp; rw [← e5]; refine hK.out _ ?_; simp only [setL, Nat.reduceEqDiff, if_true, if_false, p7, p8]; exact hJ.stored HVR.out HOL.out))); (try simp only [Act.put, Nat.reduceAdd]))
          refine FlowJ.stop ?_
          dsimp only
          intro β w5 hJ
          have hI := HIQ.out
          have hown := hJ.own
          simp only [if_true] at hown
          have hcell := hJ.cell
          simp only [if_true] at hcell
          have h0 := hJ.rest 0 (by decide)
          have h2 := hJ.rest 2 (by decide)
          have hne : ∀ b, (b = O ∨ vd.ownBlock = some b) → w.heap.size + 1 < b := fun b hb => by
            have := hI.lo
            rcases hb with h | h
            · omega
            · have := (hI.d.lt b h).1; omega
          have i5 : ReI g sa sc (some ⟨db, doff, none⟩) dc w O va SS (β 8) (rowsTo rws (i + 1)) bb w5 := by
            have e : rowsTo rws (i + 1) = rowsTo rws i ++ [xr] := by
              unfold rowsTo
              rw [show i + 1 - 1 = (i - 1) + 1 by omega, List.range_succ, List.map_append, List.map_singleton, show i - 1 + 1 = i by omega, HXR.out]
            have hst : ∀ b, va.ownBlock = some b → w5.heap[b]? = wq.heap[b]? := fun b hb => hJ.chg.block b (hI.s.lt b hb).2 (by
              rintro (h | h | h)
              · exact h
              · exact hI.ns (by rw [← h]; exact hb)
              · exact (hI.d.ty h).ne (hI.s.ty hb) (by decide) rfl)
            refine ⟨hI.bl.trans (hJ.chg.below hI.bl.size fun b hb => by
                rcases hb with h | h
                · exact h.elim
                · have := hne b h; omega), hI.g.chg hJ.chg (fun h => h.elim id fun h => by have := hne _ h; omega) hI.g.lt, hI.r.chg hJ.chg (fun h => h.elim id fun h => by have := hne _ h; omega) hI.r.lt, fun j u hu => ?_, hI.lo, hI.s.block hst, by rw [e]; exact hown, hI.ns, fun e' => ?_⟩
            · match j, hu with
              | 0, hu => cases hu; exact ⟨h0.1.trans (hI.o 0 _ rfl).1, h0.2.trans (hI.o 0 _ rfl).2⟩
              | 1, hu => cases hu; exact ⟨hcell, hJ.fro⟩
              | 2, hu => cases hu; exact ⟨h2.1.trans (hI.o 2 _ rfl).1, h2.2.trans (hI.o 2 _ rfl).2⟩
              | j + 3, hu => simp at hu
            · rcases hJ.nb rfl _ e' with h | h
              · exact hI.nd h
              · have := hI.o.lt; omega
          have HI5 := Lib.hid i5
          clear hJ hI hown hcell h0 h2 hne i5
          go_wp2_with fail
          go_roundg (nd - i)
          case measure => omega
          case rel => exact ⟨i + 1, β 8, by omega, by omega, by omega, by go_num, HI5.out⟩
        · obtain rfl : nd = i := by omega
          have HRES := Lib.hid (show ∀ w', BoxAt w' (w.heap.size + 1) [va, vd, .int .i64 bb] → Chg (fun k => k = w.heap.size + 1) wq w' → ∃ sa' sc' da' dc', Value.agg #[va, vd, .int .i64 bb] = gmV (restG g (-1) (-1)) sa' sc' da' dc' ∧ GmAt w' (restG g (-1) (-1)) sa' da' ∧ Below w.heap.size w w' from fun w' hbx hch => by
            have hI := HIQ.out
            have hs := hI.s.block (w' := w') fun b hb => hch.block b (hI.s.lt b hb).2 fun e => by have := (hI.s.lt b hb).1; omega
            have hd := hI.d.block (w' := w') fun b hb => hch.block b (hI.d.lt b hb).2 fun e => by have := (hI.d.lt b hb).1; omega
            have hbw : Below w.heap.size w w' := hI.bl.trans (hch.below hI.bl.size fun k e => by omega)
            obtain ⟨a1, c1, e1, _, _, hat1, _⟩ := hs.at
            obtain ⟨a2, c2, e2, _, _, hat2, _⟩ := hd.at
            have hlen : (rowsTo rws nd).length = (restG g (-1) (-1)).deps.length := by
              show _ = g.deps.tail.length
              rw [List.length_tail, ← HND.out]
              simp [rowsTo]
            refine ⟨a1, c1, a2, c2, ?_, ⟨?_, fun j hj => ?_⟩, hbw⟩
            · rw [e1, e2, hlen, HSB.out.1, HSB.out.2]
            · rw [← HSB.out.1]
              exact hat1.ints
            · have hj' : j + 1 < g.deps.length := by
                have h := hj
                rw [← hlen] at h
                simp [rowsTo] at h
                have := HND.out
                omega
              obtain ⟨hrc, hrl, hri⟩ := HRW.out (j + 1) hj'
              have hu : ((rowsTo rws nd).flatMap ER.cf)[j]? = some (.slice (rws (j + 1)).1 (rws (j + 1)).2.1 (rws (j + 1)).2.2) := by
                have hjl : j < (rowsTo rws nd).length := by rw [hlen]; exact hj
                have h := ER.fat (rowsTo rws nd) j hjl 0 (by decide)
                rw [show j * ER.S + 0 = j by show j * 1 + 0 = j; omega] at h
                rw [h]
                have e : (rowsTo rws nd)[j] = rws (j + 1) := by simp [rowsTo]
                rw [e]
                rfl
              obtain ⟨b, off, ea, hcell⟩ := hat2 j _ hu
              have et : (restG g (-1) (-1)).deps.getD j [] = g.deps.getD (j + 1) [] := by
                show g.deps.tail.getD j [] = _
                rw [List.getD_eq_getElem?_getD, List.getD_eq_getElem?_getD, List.getElem?_tail]
              refine ⟨b, off, (rws (j + 1)).1, (rws (j + 1)).2.2, ea, ?_, ?_⟩
              · rw [hcell, et, hrl]
              · rw [et]
                exact hri.later hbw)
          obtain ⟨a1, c1, e1, _⟩ := hI.s.at
          obtain ⟨a2, c2, e2, _⟩ := hI.d.at
          have HRX := Lib.hid hI.r
          have HOX := Lib.hid hI.o
          have q1 : va.oneCell' = true := by rw [e1]; rfl
          have q2 : vd.oneCell' = true := by rw [e2]; rfl
          have HQ := Lib.hid (show ∀ u ∈ [va, vd, Value.int .i64 bb], u.oneCell' = true from fun u hu => by
            simp only [List.mem_cons, List.not_mem_nil, or_false] at hu
            rcases hu with rfl | rfl | rfl
            · exact q1
            · exact q2
            · rfl)
          clear hI hlo e1 e2 q1 q2 o0 o1 o2 r0
          go_wp2_with first | (refine wpList_load_mid rfl 25 _ rfl O 0 rfl [va, vd, .int .i64 bb] _ (box_range HOX.out) Try.underlying25 rfl (by kernel_rfl) ?_) | (refine wpList_store_mid rfl 25 _ _ rfl (w.heap.size + 1) 0 #[va, vd, .int .i64 bb] rfl rfl (box_there HRX.out rfl) (by kernel_rfl) (all_oneCell_toArray (cs := [va, vd, .int .i64 bb]) HQ.out) ?_)
          have hch : Chg (fun k => k = w.heap.size + 1) wq (wq.setCells (w.heap.size + 1) 0 [va, vd, .int .i64 bb]) := chg_setCells (S := fun k => k = w.heap.size + 1) (Chg.refl _ _) _ _ _ (fun _ => rfl)
          have hbx : BoxAt (wq.setCells (w.heap.size + 1) 0 [va, vd, .int .i64 bb]) (w.heap.size + 1) [va, vd, .int .i64 bb] := HRX.out.stored rfl
          obtain ⟨sa', sc', da', dc', h1, h2, h3⟩ := HRES.out _ hbx hch
          exact bodyPost_ret (results_cell (p := ⟨w.heap.size + 1, 0, none⟩) rfl rfl (run_loadVar_mid _ (w.heap.size + 1) 0 25 [va, vd, .int .i64 bb] _ (box_range hbx) Try.underlying25 rfl (by kernel_rfl))) rfl ⟨sa', sc', da', dc', by rw [← h1], h2, h3⟩
    · obtain ⟨q, rfl⟩ : ∃ q : Nat, c = q := ⟨c.toNat, by omega⟩
      have hqn : q < n := by omega
      have hown := HI5.out.s
      obtain ⟨la, lc, hlv, _, _, hat, hcase⟩ := hown.at
      have hlb : ∃ gb, la = some ⟨gb, 0, none⟩ := by
        rcases hcase with ⟨_, _, e⟩ | ⟨gb, e, _⟩
        · have := HL1.out; rw [e] at this; simp at this; omega
        · exact ⟨gb, e⟩
      obtain ⟨gb, rfl⟩ := hlb
      rw [HL1.out] at hlv
      subst hlv
      obtain ⟨_, _, e2, cl⟩ := hat.ints q (by rw [HL1.out]; exact hqn)
      cases e2
      rw [Nat.zero_add] at cl
      have clf : w5.frozen? ⟨gb, q, none⟩ = false := by
        obtain ⟨cur, hcur⟩ := hown.ty (g := gb) rfl
        simp [World.frozen?, hcur]
      have o0 := (HI5.out.o 0 _ rfl).1
      obtain ⟨lq, hlq⟩ : ∃ x, x = ig S1 q := ⟨_, rfl⟩
      have hin := HIN1.out q
      rw [← hlq] at cl hin
      have wr1 : IntKind.i64.wrap (lq - 1) = lq - 1 := IntWalk.i64_in _ (by omega)
      have y1 : (q : Int) < (n : Int) := by omega
      have y0 : (0 : Int) ≤ (q : Int) := by omega
      have HLQ := Lib.hid hlq
      have HI6 := Lib.hid (HI5.out.store q (lq - 1))
      clear hown hat hcase hlq hin hqn hc0 hcn
      go_upto_region 7 with fail
      refine wp_named ?_
      intro w6 hw6
      have HIX0 := Lib.hid (show ReI g sa sc (some ⟨db, doff, none⟩) dc w O (.slice (some ⟨gb, 0, none⟩) n lc) (S1.set q (lq - 1)) (.slice none 0 0) [] b1 w6 from by rw [hw6]; exact HI6.out)
      clear hw6 cl clf o0
      obtain ⟨va, hva⟩ : ∃ va, va = Value.slice (some ⟨gb, 0, none⟩) n lc := ⟨_, rfl⟩
      obtain ⟨SS, hSS⟩ : ∃ S, S = S1.set q (lq - 1) := ⟨_, rfl⟩
      obtain ⟨bb, hbb⟩ : ∃ b, b = b1 := ⟨_, rfl⟩
      have HSB := Lib.hid (show SS = (restG g (-1) (q : Int)).starts ∧ bb = (restG g (-1) (q : Int)).budget from ⟨by
        have e : (restG g (-1) (q : Int)).starts = dec (if 0 ≤ (-1) then g.starts.set (-1).toNat 0 else g.starts) (q : Int) := by
          show (if 0 ≤ (q : Int) then dec (if 0 ≤ (-1) then g.starts.set (-1).toNat 0 else g.starts) (q : Int) else (if 0 ≤ (-1) then g.starts.set (-1).toNat 0 else g.starts)) = _
          rw [if_pos (Int.natCast_nonneg q)]
        rw [e, ← HS1E.out, hSS, HLQ.out]
        rfl, by rw [hbb, HB1E.out]; rfl⟩)
      have HIX := HIX0
      rw [← hva, ← hSS, ← hbb] at HIX
      clear hva hSS hbb HIX0
      obtain ⟨nd, hnd⟩ : ∃ n, n = g.deps.length := ⟨_, rfl⟩
      have HND := Lib.hid hnd
      have k1 := (HIX.out.g 1 _ rfl).1
      rw [← hnd] at k1
      have hnd12 : nd ≤ 12 := by rw [hnd]; exact HV.out.2.1
      have hnd1 : 1 ≤ nd := by rw [hnd]; exact H1.out
      clear hnd
      go_wp2_with fail
      clear k1
      go_loopg [8] nd (fun gk v8 wr => ∃ (i : Nat) (vd : Value), 1 ≤ i ∧ i ≤ nd ∧ gk + i = nd + 1 ∧ v8 = .int .i64 i ∧ ReI g sa sc (some ⟨db, doff, none⟩) dc w O va SS vd (rowsTo rws i) bb wr)
      case atStart => exact ⟨1, _, by omega, by omega, by omega, rfl, HIX.out⟩
      case round =>
        obtain ⟨i, vd, hi1, hi, hgi, rfl, hI⟩ := hrel
        obtain ⟨wq, hwq⟩ : ∃ wq, wq = wr := ⟨_, rfl⟩
        subst hwq
        have k1 := (hI.g 1 _ rfl).1
        rw [← HND.out] at k1
        have o0 := (hI.o 0 _ rfl).1
        have o1 := (hI.o 1 _ rfl).1
        have o2 := (hI.o 2 _ rfl).1
        have r0 := (hI.r 0 _ rfl).1
        have hlo := hI.lo
        have HIQ := Lib.hid hI
        by_cases hlt : i < nd
        · obtain ⟨hrc, hrl, hri⟩ := HRW.out i (by rw [← HND.out]; exact hlt)
          have kr := cell_later hI.bl hrc
          have hdb : db < w.heap.size := World.block_lt_of_cell? _ _ hrc
          have HVB := Lib.hid (show ∀ b, b ≤ w.heap.size + 1 → ¬ ((fun _ => False) b ∨ b = O ∨ vd.ownBlock = some b) from fun b hb => by
            rintro (h | h | h)
            · exact h
            · omega
            · have := (hI.d.lt b h).1; omega)
          have hc0 := (hI.o 1 _ rfl).1
          have hf0 := (hI.o 1 _ rfl).2
          have hst : ApJ ER (fun _ => False) wq (w.heap.size + 1 + 1) O 1 (rws i) vd (rowsTo rws i) undef undef false false false wq.drew := ApJ.start hc0 hf0 hI.d
          have HST := Lib.hid hst
          have HVR := Lib.hid hI.nd
          have HWL := Lib.hid (fun b hb => (hI.d.lt b hb).2)
          have HOL := Lib.hid hI.o.lt
          have HDB := Lib.hid hdb
          have HLO := Lib.hid (show w.heap.size + 1 + 1 ≤ wq.heap.size from by have := hI.o.lt; omega)
          have m1 : (i : Int) < (nd : Int) := by omega
          have m0 : (0 : Int) ≤ (i : Int) := by omega
          obtain ⟨xr, hxr⟩ : ∃ x, x = rws i := ⟨_, rfl⟩
          rw [← hxr] at kr
          have HXR := Lib.hid hxr
          have HKR := Lib.hid kr
          have HK1 := Lib.hid k1
          clear hI hst hc0 hf0 hdb hrc hrl hri o0 o1 o2 r0 hlo hxr kr
          go_upto_region 10 with fail
          clear k1
          rw [← HXR.out] at HST
          refine wp_flow_j (fun β L' w' => ApJ ER (fun _ => False) wq (w.heap.size + 1 + 1) O 1 xr vd (rowsTo rws i) (β 7) (β 8) (L' 7) (L' 8) (L' 10) w') (by kernel_rfl) (by kernel_rfl) ?h0 ?_
          case h0 => exact HST.out
          iterate 2 (((with_reducible refine FlowJ.pure (v := ?_) ?_ ?_ ?_ ?_); rotate_left 1; (focus (intro _; rfl)); (focus (intro β L' w' hJ hat; (try dsimp only at hJ); (try dsimp only); simpa only [setL, Nat.reduceEqDiff, if_false] using hJ)); (focus (intro β L' w' hJ hat; (try dsimp only at hJ); ((have n10 := hat.not (j := 10) (by kernel_rfl)); have yc := hJ.cell; simp only [n10, Bool.false_eq_true, if_false] at yc); go_simp; (try with_reducible rfl); done)); (try simp only [Act.put, List.setIfInBounds_toArray, List.set_cons_zero, List.set_cons_succ, Nat.reduceAdd])))
          iterate 4 (((with_reducible refine FlowJ.pure (v := ?_) ?_ ?_ ?_ ?_); rotate_left 1; (focus (intro _; rfl)); (focus (intro β L' w' hJ hat; (try dsimp only at hJ); (try dsimp only); simpa only [setL, Nat.reduceEqDiff, if_false] using hJ)); (focus (intro β L' w' hJ hat; (try dsimp only at hJ); (have y1 := hJ.chg.cell HK1.out (HVB.out _ (by show w.heap.size ≤ _; omega))); go_simp; (try with_reducible rfl); done)); (try simp only [Act.put, List.setIfInBounds_toArray, List.set_cons_zero, List.set_cons_succ, Nat.reduceAdd])))
          ((with_reducible refine FlowJ.pure (v := ?_) ?_ ?_ ?_ ?_); rotate_left 1; (focus (intro _; rfl)); (focus (intro β L' w' hJ hat; (try dsimp only at hJ); (try dsimp only); simpa only [setL, Nat.reduceEqDiff, if_false] using hJ)); (focus (intro β L' w' hJ hat; (try dsimp only at hJ); (have y1 := hJ.chg.cell HKR.out (HVB.out _ (by show db ≤ _; have := HDB.out; omega))); go_simp; (try with_reducible rfl); done)); (try simp only [Act.put, List.setIfInBounds_toArray, List.set_cons_zero, List.set_cons_succ, Nat.reduceAdd]))
          ((with_reducible refine FlowJ.ghost ?_ ?_ ?_); (focus (intro _; rfl)); (focus (intro β L' w' hJ hat K' hK; (try dsimp only at hJ); ((have n8 := hat.not (j := 8) (by kernel_rfl)); (have n10 := hat.not (j := 10) (by kernel_rfl)); have un := hat.un; simp only [un, n8, n10] at hJ; go_simp; refine hK.out _ _ ?_; simp only [updG, setL, Nat.reduceEqDiff, if_true, if_false, n8, n10]; exact hJ.made))); (try simp only [Act.put, List.setIfInBounds_toArray, List.set_cons_zero, List.set_cons_succ, Nat.reduceAdd]))
          ((with_reducible refine FlowJ.ghost ?_ ?_ ?_); (focus (intro _; rfl)); (focus (intro β L' w' hJ hat K' hK; (try dsimp only at hJ); ((have p7 := hat.pre 7 (by kernel_rfl)); (have n10 := hat.not (j := 10) (by kernel_rfl)); have un := hat.un; simp only [un, p7, n10] at hJ; obtain ⟨nb, eb, hnb, hbx⟩ := hJ.box rfl; obtain ⟨v', w2, hr, ho, hg, hn⟩ := El.app (E := ER) w' (w.heap.size + 1 + 1) vd (rowsTo rws i) [xr] hJ.own (some ⟨nb, 0, none⟩) 1 (El.one_at hbx) (by simp [rowsTo]; omega) (by have := hJ.chg.size; have := HLO.out; omega) 23; refine wp_app_eq (.tmp 43) (.tmp 49) 23 rfl _ _ rfl (by show β 7 = _; exact eb) hr ?_; refine hK.out _ _ ?_; simp only [updG, setL, Nat.reduceEqDiff, if_true, if_false, p7, n10]; exact hJ.app HVR.out ho hg hn HWL.out))); (try simp only [Act.put, List.setIfInBounds_toArray, List.set_cons_zero, List.set_cons_succ, Nat.reduceAdd]))
          ((with_reducible refine FlowJ.pure (v := ?_) ?_ ?_ ?_ ?_); rotate_left 1; (focus (intro _; rfl)); (focus (intro β L' w' hJ hat; (try dsimp only at hJ); (try dsimp only); simpa only [setL, Nat.reduceEqDiff, if_false] using hJ)); (focus (intro β L' w' hJ hat; (try dsimp only at hJ); skip; go_simp; (try with_reducible rfl); done)); (try simp only [Act.put, List.setIfInBounds_toArray, List.set_cons_zero, List.set_cons_succ, Nat.reduceAdd]))
          ((with_reducible refine FlowJ.eff ?_ ?_ ?_); (focus (intro _; rfl)); (focus (intro β L' w' hJ hat K' hK; (try dsimp only at hJ); ((have p8 := hat.pre 8 (by kernel_rfl)); have p7 := hat.down 8 7 p8 (by decide) (by kernel_rfl); have un := hat.un; simp only [un, p7, p8] at hJ; have yc := hJ.cell; have yf := hJ.fro; simp only [Bool.false_eq_true, if_false] at yc; obtain ⟨oa, na, ca, e5⟩ := hJ.own.shape; simp only [if_true] at e5; rw [e5]; go_simp; rw [← e5]; refine hK.out _ ?_; simp only [setL, Nat.reduceEqDiff, if_true, if_false, p7, p8]; exact hJ.stored HVR.out HOL.out))); (try simp only [Act.put, Nat.reduceAdd]))
          refine FlowJ.stop ?_
          dsimp only
          intro β w5 hJ
          have hI := HIQ.out
          have hown := hJ.own
          simp only [if_true] at hown
          have hcell := hJ.cell
          simp only [if_true] at hcell
          have h0 := hJ.rest 0 (by decide)
          have h2 := hJ.rest 2 (by decide)
          have hne : ∀ b, (b = O ∨ vd.ownBlock = some b) → w.heap.size + 1 < b := fun b hb => by
            have := hI.lo
            rcases hb with h | h
            · omega
            · have := (hI.d.lt b h).1; omega
          have i5 : ReI g sa sc (some ⟨db, doff, none⟩) dc w O va SS (β 8) (rowsTo rws (i + 1)) bb w5 := by
            have e : rowsTo rws (i + 1) = rowsTo rws i ++ [xr] := by
              unfold rowsTo
              rw [show i + 1 - 1 = (i - 1) + 1 by omega, List.range_succ, List.map_append, List.map_singleton, show i - 1 + 1 = i by omega, HXR.out]
            have hst : ∀ b, va.ownBlock = some b → w5.heap[b]? = wq.heap[b]? := fun b hb => hJ.chg.block b (hI.s.lt b hb).2 (by
              rintro (h | h | h)
              · exact h
              · exact hI.ns (by rw [← h]; exact hb)
              · exact (hI.d.ty h).ne (hI.s.ty hb) (by decide) rfl)
            refine ⟨hI.bl.trans (hJ.chg.below hI.bl.size fun b hb => by
                rcases hb with h | h
                · exact h.elim
                · have := hne b h; omega), hI.g.chg hJ.chg (fun h => h.elim id fun h => by have := hne _ h; omega) hI.g.lt, hI.r.chg hJ.chg (fun h => h.elim id fun h => by have := hne _ h; omega) hI.r.lt, fun j u hu => ?_, hI.lo, hI.s.block hst, by rw [e]; exact hown, hI.ns, fun e' => ?_⟩
            · match j, hu with
              | 0, hu => cases hu; exact ⟨h0.1.trans (hI.o 0 _ rfl).1, h0.2.trans (hI.o 0 _ rfl).2⟩
              | 1, hu => cases hu; exact ⟨hcell, hJ.fro⟩
              | 2, hu => cases hu; exact ⟨h2.1.trans (hI.o 2 _ rfl).1, h2.2.trans (hI.o 2 _ rfl).2⟩
              | j + 3, hu => simp at hu
            · rcases hJ.nb rfl _ e' with h | h
              · exact hI.nd h
              · have := hI.o.lt; omega
          have HI5 := Lib.hid i5
          clear hJ hI hown hcell h0 h2 hne i5
          go_wp2_with fail
          go_roundg (nd - i)
          case measure => omega
          case rel => exact ⟨i + 1, β 8, by omega, by omega, by omega, by go_num, HI5.out⟩
        · obtain rfl : nd = i := by omega
          have HRES := Lib.hid (show ∀ w', BoxAt w' (w.heap.size + 1) [va, vd, .int .i64 bb] → Chg (fun k => k = w.heap.size + 1) wq w' → ∃ sa' sc' da' dc', Value.agg #[va, vd, .int .i64 bb] = gmV (restG g (-1) ((q : Int))) sa' sc' da' dc' ∧ GmAt w' (restG g (-1) ((q : Int))) sa' da' ∧ Below w.heap.size w w' from fun w' hbx hch => by
            have hI := HIQ.out
            have hs := hI.s.block (w' := w') fun b hb => hch.block b (hI.s.lt b hb).2 fun e => by have := (hI.s.lt b hb).1; omega
            have hd := hI.d.block (w' := w') fun b hb => hch.block b (hI.d.lt b hb).2 fun e => by have := (hI.d.lt b hb).1; omega
            have hbw : Below w.heap.size w w' := hI.bl.trans (hch.below hI.bl.size fun k e => by omega)
            obtain ⟨a1, c1, e1, _, _, hat1, _⟩ := hs.at
            obtain ⟨a2, c2, e2, _, _, hat2, _⟩ := hd.at
            have hlen : (rowsTo rws nd).length = (restG g (-1) ((q : Int))).deps.length := by
              show _ = g.deps.tail.length
              rw [List.length_tail, ← HND.out]
              simp [rowsTo]
            refine ⟨a1, c1, a2, c2, ?_, ⟨?_, fun j hj => ?_⟩, hbw⟩
            · rw [e1, e2, hlen, HSB.out.1, HSB.out.2]
            · rw [← HSB.out.1]
              exact hat1.ints
            · have hj' : j + 1 < g.deps.length := by
                have h := hj
                rw [← hlen] at h
                simp [rowsTo] at h
                have := HND.out
                omega
              obtain ⟨hrc, hrl, hri⟩ := HRW.out (j + 1) hj'
              have hu : ((rowsTo rws nd).flatMap ER.cf)[j]? = some (.slice (rws (j + 1)).1 (rws (j + 1)).2.1 (rws (j + 1)).2.2) := by
                have hjl : j < (rowsTo rws nd).length := by rw [hlen]; exact hj
                have h := ER.fat (rowsTo rws nd) j hjl 0 (by decide)
                rw [show j * ER.S + 0 = j by show j * 1 + 0 = j; omega] at h
                rw [h]
                have e : (rowsTo rws nd)[j] = rws (j + 1) := by simp [rowsTo]
                rw [e]
                rfl
              obtain ⟨b, off, ea, hcell⟩ := hat2 j _ hu
              have et : (restG g (-1) ((q : Int))).deps.getD j [] = g.deps.getD (j + 1) [] := by
                show g.deps.tail.getD j [] = _
                rw [List.getD_eq_getElem?_getD, List.getD_eq_getElem?_getD, List.getElem?_tail]
              refine ⟨b, off, (rws (j + 1)).1, (rws (j + 1)).2.2, ea, ?_, ?_⟩
              · rw [hcell, et, hrl]
              · rw [et]
                exact hri.later hbw)
          obtain ⟨a1, c1, e1, _⟩ := hI.s.at
          obtain ⟨a2, c2, e2, _⟩ := hI.d.at
          have HRX := Lib.hid hI.r
          have HOX := Lib.hid hI.o
          have q1 : va.oneCell' = true := by rw [e1]; rfl
          have q2 : vd.oneCell' = true := by rw [e2]; rfl
          have HQ := Lib.hid (show ∀ u ∈ [va, vd, Value.int .i64 bb], u.oneCell' = true from fun u hu => by
            simp only [List.mem_cons, List.not_mem_nil, or_false] at hu
            rcases hu with rfl | rfl | rfl
            · exact q1
            · exact q2
            · rfl)
          clear hI hlo e1 e2 q1 q2 o0 o1 o2 r0
          go_wp2_with first | (refine wpList_load_mid rfl 25 _ rfl O 0 rfl [va, vd, .int .i64 bb] _ (box_range HOX.out) Try.underlying25 rfl (by kernel_rfl) ?_) | (refine wpList_store_mid rfl 25 _ _ rfl (w.heap.size + 1) 0 #[va, vd, .int .i64 bb] rfl rfl (box_there HRX.out rfl) (by kernel_rfl) (all_oneCell_toArray (cs := [va, vd, .int .i64 bb]) HQ.out) ?_)
          have hch : Chg (fun k => k = w.heap.size + 1) wq (wq.setCells (w.heap.size + 1) 0 [va, vd, .int .i64 bb]) := chg_setCells (S := fun k => k = w.heap.size + 1) (Chg.refl _ _) _ _ _ (fun _ => rfl)
          have hbx : BoxAt (wq.setCells (w.heap.size + 1) 0 [va, vd, .int .i64 bb]) (w.heap.size + 1) [va, vd, .int .i64 bb] := HRX.out.stored rfl
          obtain ⟨sa', sc', da', dc', h1, h2, h3⟩ := HRES.out _ hbx hch
          exact bodyPost_ret (results_cell (p := ⟨w.heap.size + 1, 0, none⟩) rfl rfl (run_loadVar_mid _ (w.heap.size + 1) 0 25 [va, vd, .int .i64 bb] _ (box_range hbx) Try.underlying25 rfl (by kernel_rfl))) rfl ⟨sa', sc', da', dc', by rw [← h1], h2, h3⟩
  · obtain ⟨p, rfl⟩ : ∃ p : Nat, f = p := ⟨f.toNat, by omega⟩
    have hpn : p < n := by omega
    have hown := HI4.out.s
    obtain ⟨la, lc, hlv, _, _, hat, hcase⟩ := hown.at
    have hlb : ∃ gb, la = some ⟨gb, 0, none⟩ := by
      rcases hcase with ⟨_, _, e⟩ | ⟨gb, e, _⟩
      · have := HN.out; rw [e] at this; simp at this; omega
      · exact ⟨gb, e⟩
    obtain ⟨gb, rfl⟩ := hlb
    rw [← HN.out] at hlv
    subst hlv
    obtain ⟨_, _, e2, cl⟩ := hat.ints p (by rw [← HN.out]; exact hpn)
    cases e2
    rw [Nat.zero_add] at cl
    have clf : w4.frozen? ⟨gb, p, none⟩ = false := by
      obtain ⟨cur, hcur⟩ := hown.ty (g := gb) rfl
      simp [World.frozen?, hcur]
    have o0 := (HI4.out.o 0 _ rfl).1
    have o2 := (HI4.out.o 2 _ rfl).1
    have o2f := (HI4.out.o 2 _ rfl).2
    have wr1 : IntKind.i64.wrap (bu - 1) = bu - 1 := IntWalk.i64_in _ (by omega)
    have y1 : (p : Int) < (n : Int) := by omega
    have y0 : (0 : Int) ≤ (p : Int) := by omega
    have hne : gb ≠ O := fun e => HI4.out.ns (by rw [e]; rfl)
    have HI6 := Lib.hid ((HI4.out.store p 0).budget (bu - 1))
    clear hown hat hcase hpn hf0 hfn
    go_upto_region 5 with fail
    refine wp_named ?_
    intro w5 hw5
    obtain ⟨S1, hS1⟩ : ∃ S, S = g.starts.set p 0 := ⟨_, rfl⟩
    obtain ⟨b1, hb1⟩ : ∃ b, b = bu - 1 := ⟨_, rfl⟩
    obtain ⟨va, hva⟩ : ∃ va, va = Value.slice (some ⟨gb, 0, none⟩) n lc := ⟨_, rfl⟩
    have HS1E := Lib.hid (show S1 = if 0 ≤ (p : Int) then g.starts.set (p : Int).toNat 0 else g.starts from by rw [hS1, if_pos (by omega)]; rfl)
    have HB1E := Lib.hid (show b1 = if 0 ≤ (p : Int) then g.budget - 1 else g.budget from by rw [hb1, HBU.out, if_pos (by omega)])
    have HL1 := Lib.hid (show S1.length = n from by rw [hS1, HN.out, List.length_set])
    have HIN1 := Lib.hid (show InL S1 from by rw [hS1]; exact (InL.of HV.out).zero p)
    have HI5 := Lib.hid (show ReI g sa sc (some ⟨db, doff, none⟩) dc w O va S1 (.slice none 0 0) [] b1 w5 from by rw [hw5, hS1, hb1, hva]; exact HI6.out)
    clear hS1 hb1 hw5 hva cl clf o0 o2 o2f hne HI6 wr1 y1 y0
    rcases HFC.out.2 with hc | ⟨hc0, hcn⟩
    · subst hc
      go_upto_region 7 with fail
      obtain ⟨SS, hSS⟩ : ∃ S, S = S1 := ⟨_, rfl⟩
      obtain ⟨bb, hbb⟩ : ∃ b, b = b1 := ⟨_, rfl⟩
      have HSB := Lib.hid (show SS = (restG g ((p : Int)) (-1)).starts ∧ bb = (restG g ((p : Int)) (-1)).budget from ⟨by rw [hSS, HS1E.out]; rfl, by rw [hbb, HB1E.out]; rfl⟩)
      have HIX := HI5
      rw [← hSS, ← hbb] at HIX
      clear hSS hbb
      obtain ⟨nd, hnd⟩ : ∃ n, n = g.deps.length := ⟨_, rfl⟩
      have HND := Lib.hid hnd
      have k1 := (HIX.out.g 1 _ rfl).1
      rw [← hnd] at k1
      have hnd12 : nd ≤ 12 := by rw [hnd]; exact HV.out.2.1
      have hnd1 : 1 ≤ nd := by rw [hnd]; exact H1.out
      clear hnd
      go_wp2_with fail
      clear k1
      go_loopg [8] nd (fun gk v8 wr => ∃ (i : Nat) (vd : Value), 1 ≤ i ∧ i ≤ nd ∧ gk + i = nd + 1 ∧ v8 = .int .i64 i ∧ ReI g sa sc (some ⟨db, doff, none⟩) dc w O va SS vd (rowsTo rws i) bb wr)
      case atStart => exact ⟨1, _, by omega, by omega, by omega, rfl, HIX.out⟩
      case round =>
        obtain ⟨i, vd, hi1, hi, hgi, rfl, hI⟩ := hrel
        obtain ⟨wq, hwq⟩ : ∃ wq, wq = wr := ⟨_, rfl⟩
        subst hwq
        have k1 := (hI.g 1 _ rfl).1
        rw [← HND.out] at k1
        have o0 := (hI.o 0 _ rfl).1
        have o1 := (hI.o 1 _ rfl).1
        have o2 := (hI.o 2 _ rfl).1
        have r0 := (hI.r 0 _ rfl).1
        have hlo := hI.lo
        have HIQ := Lib.hid hI
        by_cases hlt : i < nd
        · obtain ⟨hrc, hrl, hri⟩ := HRW.out i (by rw [← HND.out]; exact hlt)
          have kr := cell_later hI.bl hrc
          have hdb : db < w.heap.size := World.block_lt_of_cell? _ _ hrc
          have HVB := Lib.hid (show ∀ b, b ≤ w.heap.size + 1 → ¬ ((fun _ => False) b ∨ b = O ∨ vd.ownBlock = some b) from fun b hb => by
            rintro (h | h | h)
            · exact h
            · omega
            · have := (hI.d.lt b h).1; omega)
          have hc0 := (hI.o 1 _ rfl).1
          have hf0 := (hI.o 1 _ rfl).2
          have hst : ApJ ER (fun _ => False) wq (w.heap.size + 1 + 1) O 1 (rws i) vd (rowsTo rws i) undef undef false false false wq.drew := ApJ.start hc0 hf0 hI.d
          have HST := Lib.hid hst
          have HVR := Lib.hid hI.nd
          have HWL := Lib.hid (fun b hb => (hI.d.lt b hb).2)
          have HOL := Lib.hid hI.o.lt
          have HDB := Lib.hid hdb
          have HLO := Lib.hid (show w.heap.size + 1 + 1 ≤ wq.heap.size from by have := hI.o.lt; omega)
          have m1 : (i : Int) < (nd : Int) := by omega
          have m0 : (0 : Int) ≤ (i : Int) := by omega
          obtain ⟨xr, hxr⟩ : ∃ x, x = rws i := ⟨_, rfl⟩
          rw [← hxr] at kr
          have HXR := Lib.hid hxr
          have HKR := Lib.hid kr
          have HK1 := Lib.hid k1
          clear hI hst hc0 hf0 hdb hrc hrl hri o0 o1 o2 r0 hlo hxr kr
          go_upto_region 10 with fail
          clear k1
          rw [← HXR.out] at HST
          refine wp_flow_j (fun β L' w' => ApJ ER (fun _ => False) wq (w.heap.size + 1 + 1) O 1 xr vd (rowsTo rws i) (β 7) (β 8) (L' 7) (L' 8) (L' 10) w') (by kernel_rfl) (by kernel_rfl) ?h0 ?_
          case h0 => exact HST.out
          iterate 2 (((with_reducible refine FlowJ.pure (v := ?_) ?_ ?_ ?_ ?_); rotate_left 1; (focus (intro _; rfl)); (focus (intro β L' w' hJ hat; (try dsimp only at hJ); (try dsimp only); simpa only [setL, Nat.reduceEqDiff, if_false] using hJ)); (focus (intro β L' w' hJ hat; (try dsimp only at hJ); ((have n10 := hat.not (j := 10) (by kernel_rfl)); have yc := hJ.cell; simp only [n10, Bool.false_eq_true, if_false] at yc); go_simp; (try with_reducible rfl); done)); (try simp only [Act.put, List.setIfInBounds_toArray, List.set_cons_zero, List.set_cons_succ, Nat.reduceAdd])))
          iterate 4 (((with_reducible refine FlowJ.pure (v := ?_) ?_ ?_ ?_ ?_); rotate_left 1; (focus (intro _; rfl)); (focus (intro β L' w' hJ hat; (try dsimp only at hJ); (try dsimp only); simpa only [setL, Nat.reduceEqDiff, if_false] using hJ)); (focus (intro β L' w' hJ hat; (try dsimp only at hJ); (have y1 := hJ.chg.cell HK1.out (HVB.out _ (by show w.heap.size ≤ _; omega))); go_simp; (try with_reducible rfl); done)); (try simp only [Act.put, List.setIfInBounds_toArray, List.set_cons_zero, List.set_cons_succ, Nat.reduceAdd])))
          ((with_reducible refine FlowJ.pure (v := ?_) ?_ ?_ ?_ ?_); rotate_left 1; (focus (intro _; rfl)); (focus (intro β L' w' hJ hat; (try dsimp only at hJ); (try dsimp only); simpa only [setL, Nat.reduceEqDiff, if_false] using hJ)); (focus (intro β L' w' hJ hat; (try dsimp only at hJ); (have y1 := hJ.chg.cell HKR.out (HVB.out _ (by show db ≤ _; have := HDB.out; omega))); go_simp; (try with_reducible rfl); done)); (try simp only [Act.put, List.setIfInBounds_toArray, List.set_cons_zero, List.set_cons_succ, Nat.reduceAdd]))
          ((with_reducible refine FlowJ.ghost ?_ ?_ ?_); (focus (intro _; rfl)); (focus (intro β L' w' hJ hat K' hK; (try dsimp only at hJ); ((have n8 := hat.not (j := 8) (by kernel_rfl)); (have n10 := hat.not (j := 10) (by kernel_rfl)); have un := hat.un; simp only [un, n8, n10] at hJ; go_simp; refine hK.out _ _ ?_; simp only [updG, setL, Nat.reduceEqDiff, if_true, if_false, n8, n10]; exact hJ.made))); (try simp only [Act.put, List.setIfInBounds_toArray, List.set_cons_zero, List.set_cons_succ, Nat.reduceAdd]))
          ((with_reducible refine FlowJ.ghost ?_ ?_ ?_); (focus (intro _; rfl)); (focus (intro β L' w' hJ hat K' hK; (try dsimp only at hJ); ((have p7 := hat.pre 7 (by kernel_rfl)); (have n10 := hat.not (j := 10) (by kernel_rfl)); have un := hat.un; simp only [un, p7, n10] at hJ; obtain ⟨nb, eb, hnb, hbx⟩ := hJ.box rfl; obtain ⟨v', w2, hr, ho, hg, hn⟩ := El.app (E := ER) w' (w.heap.size + 1 + 1) vd (rowsTo rws i) [xr] hJ.own (some ⟨nb, 0, none⟩) 1 (El.one_at hbx) (by simp [rowsTo]; omega) (by have := hJ.chg.size; have := HLO.out; omega) 23; refine wp_app_eq (.tmp 43) (.tmp 49) 23 rfl _ _ rfl (by show β 7 = _; exact eb) hr ?_; refine hK.out _ _ ?_; simp only [updG, setL, Nat.reduceEqDiff, if_true, if_false, p7, n10]; exact hJ.app HVR.out ho hg hn HWL.out))); (try simp only [Act.put, List.setIfInBounds_toArray, List.set_cons_zero, List.set_cons_succ, Nat.reduceAdd]))
          ((with_reducible refine FlowJ.pure (v := ?_) ?_ ?_ ?_ ?_); rotate_left 1; (focus (intro _; rfl)); (focus (intro β L' w' hJ hat; (try dsimp only at hJ); (try dsimp only); simpa only [setL, Nat.reduceEqDiff, if_false] using hJ)); (focus (intro β L' w' hJ hat; (try dsimp only at hJ); skip; go_simp; (try with_reducible rfl); done)); (try simp only [Act.put, List.setIfInBounds_toArray, List.set_cons_zero, List.set_cons_succ, Nat.reduceAdd]))
          ((with_reducible refine FlowJ.eff ?_ ?_ ?_); (focus (intro _; rfl)); (focus (intro β L' w' hJ hat K' hK; (try dsimp only at hJ); ((have p8 := hat.pre 8 (by kernel_rfl)); have p7 := hat.down 8 7 p8 (by decide) (by kernel_rfl); have un := hat.un; simp only [un, p7, p8] at hJ; have yc := hJ.cell; have yf := hJ.fro; simp only [Bool.false_eq_true, if_false] at yc; obtain ⟨oa, na, ca, e5⟩ := hJ.own.shape; simp only [if_true] at e5; rw [e5]; go_simp; rw [← e5]; refine hK.out _ ?_; simp only [setL, Nat.reduceEqDiff, if_true, if_false, p7, p8]; exact hJ.stored HVR.out HOL.out))); (try simp only [Act.put, Nat.reduceAdd]))
          refine FlowJ.stop ?_
          dsimp only
          intro β w5 hJ
          have hI := HIQ.out
          have hown := hJ.own
          simp only [if_true] at hown
          have hcell := hJ.cell
          simp only [if_true] at hcell
          have h0 := hJ.rest 0 (by decide)
          have h2 := hJ.rest 2 (by decide)
          have hne : ∀ b, (b = O ∨ vd.ownBlock = some b) → w.heap.size + 1 < b := fun b hb => by
            have := hI.lo
            rcases hb with h | h
            · omega
            · have := (hI.d.lt b h).1; omega
          have i5 : ReI g sa sc (some ⟨db, doff, none⟩) dc w O va SS (β 8) (rowsTo rws (i + 1)) bb w5 := by
            have e : rowsTo rws (i + 1) = rowsTo rws i ++ [xr] := by
              unfold rowsTo
              rw [show i + 1 - 1 = (i - 1) + 1 by omega, List.range_succ, List.map_append, List.map_singleton, show i - 1 + 1 = i by omega, HXR.out]
            have hst : ∀ b, va.ownBlock = some b → w5.heap[b]? = wq.heap[b]? := fun b hb => hJ.chg.block b (hI.s.lt b hb).2 (by
              rintro (h | h | h)
              · exact h
              · exact hI.ns (by rw [← h]; exact hb)
              · exact (hI.d.ty h).ne (hI.s.ty hb) (by decide) rfl)
            refine ⟨hI.bl.trans (hJ.chg.below hI.bl.size fun b hb => by
                rcases hb with h | h
                · exact h.elim
                · have := hne b h; omega), hI.g.chg hJ.chg (fun h => h.elim id fun h => by have := hne _ h; omega) hI.g.lt, hI.r.chg hJ.chg (fun h => h.elim id fun h => by have := hne _ h; omega) hI.r.lt, fun j u hu => ?_, hI.lo, hI.s.block hst, by rw [e]; exact hown, hI.ns, fun e' => ?_⟩
            · match j, hu with
              | 0, hu => cases hu; exact ⟨h0.1.trans (hI.o 0 _ rfl).1, h0.2.trans (hI.o 0 _ rfl).2⟩
              | 1, hu => cases hu; exact ⟨hcell, hJ.fro⟩
              | 2, hu => cases hu; exact ⟨h2.1.trans (hI.o 2 _ rfl).1, h2.2.trans (hI.o 2 _ rfl).2⟩
              | j + 3, hu => simp at hu
            · rcases hJ.nb rfl _ e' with h | h
              · exact hI.nd h
              · have := hI.o.lt; omega
          have HI5 := Lib.hid i5
          clear hJ hI hown hcell h0 h2 hne i5
          go_wp2_with fail
          go_roundg (nd - i)
          case measure => omega
          case rel => exact ⟨i + 1, β 8, by omega, by omega, by omega, by go_num, HI5.out⟩
        · obtain rfl : nd = i := by omega
          have HRES := Lib.hid (show ∀ w', BoxAt w' (w.heap.size + 1) [va, vd, .int .i64 bb] → Chg (fun k => k = w.heap.size + 1) wq w' → ∃ sa' sc' da' dc', Value.agg #[va, vd, .int .i64 bb] = gmV (restG g ((p : Int)) (-1)) sa' sc' da' dc' ∧ GmAt w' (restG g ((p : Int)) (-1)) sa' da' ∧ Below w.heap.size w w' from fun w' hbx hch => by
            have hI := HIQ.out
            have hs := hI.s.block (w' := w') fun b hb => hch.block b (hI.s.lt b hb).2 fun e => by have := (hI.s.lt b hb).1; omega
            have hd := hI.d.block (w' := w') fun b hb => hch.block b (hI.d.lt b hb).2 fun e => by have := (hI.d.lt b hb).1; omega
            have hbw : Below w.heap.size w w' := hI.bl.trans (hch.below hI.bl.size fun k e => by omega)
            obtain ⟨a1, c1, e1, _, _, hat1, _⟩ := hs.at
            obtain ⟨a2, c2, e2, _, _, hat2, _⟩ := hd.at
            have hlen : (rowsTo rws nd).length = (restG g ((p : Int)) (-1)).deps.length := by
              show _ = g.deps.tail.length
              rw [List.length_tail, ← HND.out]
              simp [rowsTo]
            refine ⟨a1, c1, a2, c2, ?_, ⟨?_, fun j hj => ?_⟩, hbw⟩
            · rw [e1, e2, hlen, HSB.out.1, HSB.out.2]
            · rw [← HSB.out.1]
              exact hat1.ints
            · have hj' : j + 1 < g.deps.length := by
                have h := hj
                rw [← hlen] at h
                simp [rowsTo] at h
                have := HND.out
                omega
              obtain ⟨hrc, hrl, hri⟩ := HRW.out (j + 1) hj'
              have hu : ((rowsTo rws nd).flatMap ER.cf)[j]? = some (.slice (rws (j + 1)).1 (rws (j + 1)).2.1 (rws (j + 1)).2.2) := by
                have hjl : j < (rowsTo rws nd).length := by rw [hlen]; exact hj
                have h := ER.fat (rowsTo rws nd) j hjl 0 (by decide)
                rw [show j * ER.S + 0 = j by show j * 1 + 0 = j; omega] at h
                rw [h]
                have e : (rowsTo rws nd)[j] = rws (j + 1) := by simp [rowsTo]
                rw [e]
                rfl
              obtain ⟨b, off, ea, hcell⟩ := hat2 j _ hu
              have et : (restG g ((p : Int)) (-1)).deps.getD j [] = g.deps.getD (j + 1) [] := by
                show g.deps.tail.getD j [] = _
                rw [List.getD_eq_getElem?_getD, List.getD_eq_getElem?_getD, List.getElem?_tail]
              refine ⟨b, off, (rws (j + 1)).1, (rws (j + 1)).2.2, ea, ?_, ?_⟩
              · rw [hcell, et, hrl]
              · rw [et]
                exact hri.later hbw)
          obtain ⟨a1, c1, e1, _⟩ := hI.s.at
          obtain ⟨a2, c2, e2, _⟩ := hI.d.at
          have HRX := Lib.hid hI.r
          have HOX := Lib.hid hI.o
          have q1 : va.oneCell' = true := by rw [e1]; rfl
          have q2 : vd.oneCell' = true := by rw [e2]; rfl
          have HQ := Lib.hid (show ∀ u ∈ [va, vd, Value.int .i64 bb], u.oneCell' = true from fun u hu => by
            simp only [List.mem_cons, List.not_mem_nil, or_false] at hu
            rcases hu with rfl | rfl | rfl
            · exact q1
            · exact q2
            · rfl)
          clear hI hlo e1 e2 q1 q2 o0 o1 o2 r0
          go_wp2_with first | (refine wpList_load_mid rfl 25 _ rfl O 0 rfl [va, vd, .int .i64 bb] _ (box_range HOX.out) Try.underlying25 rfl (by kernel_rfl) ?_) | (refine wpList_store_mid rfl 25 _ _ rfl (w.heap.size + 1) 0 #[va, vd, .int .i64 bb] rfl rfl (box_there HRX.out rfl) (by kernel_rfl) (all_oneCell_toArray (cs := [va, vd, .int .i64 bb]) HQ.out) ?_)
          have hch : Chg (fun k => k = w.heap.size + 1) wq (wq.setCells (w.heap.size + 1) 0 [va, vd, .int .i64 bb]) := chg_setCells (S := fun k => k = w.heap.size + 1) (Chg.refl _ _) _ _ _ (fun _ => rfl)
          have hbx : BoxAt (wq.setCells (w.heap.size + 1) 0 [va, vd, .int .i64 bb]) (w.heap.size + 1) [va, vd, .int .i64 bb] := HRX.out.stored rfl
          obtain ⟨sa', sc', da', dc', h1, h2, h3⟩ := HRES.out _ hbx hch
          exact bodyPost_ret (results_cell (p := ⟨w.heap.size + 1, 0, none⟩) rfl rfl (run_loadVar_mid _ (w.heap.size + 1) 0 25 [va, vd, .int .i64 bb] _ (box_range hbx) Try.underlying25 rfl (by kernel_rfl))) rfl ⟨sa', sc', da', dc', by rw [← h1], h2, h3⟩
    · obtain ⟨q, rfl⟩ : ∃ q : Nat, c = q := ⟨c.toNat, by omega⟩
      have hqn : q < n := by omega
      have hown := HI5.out.s
      obtain ⟨la, lc, hlv, _, _, hat, hcase⟩ := hown.at
      have hlb : ∃ gb, la = some ⟨gb, 0, none⟩ := by
        rcases hcase with ⟨_, _, e⟩ | ⟨gb, e, _⟩
        · have := HL1.out; rw [e] at this; simp at this; omega
        · exact ⟨gb, e⟩
      obtain ⟨gb, rfl⟩ := hlb
      rw [HL1.out] at hlv
      subst hlv
      obtain ⟨_, _, e2, cl⟩ := hat.ints q (by rw [HL1.out]; exact hqn)
      cases e2
      rw [Nat.zero_add] at cl
      have clf : w5.frozen? ⟨gb, q, none⟩ = false := by
        obtain ⟨cur, hcur⟩ := hown.ty (g := gb) rfl
        simp [World.frozen?, hcur]
      have o0 := (HI5.out.o 0 _ rfl).1
      obtain ⟨lq, hlq⟩ : ∃ x, x = ig S1 q := ⟨_, rfl⟩
      have hin := HIN1.out q
      rw [← hlq] at cl hin
      have wr1 : IntKind.i64.wrap (lq - 1) = lq - 1 := IntWalk.i64_in _ (by omega)
      have y1 : (q : Int) < (n : Int) := by omega
      have y0 : (0 : Int) ≤ (q : Int) := by omega
      have HLQ := Lib.hid hlq
      have HI6 := Lib.hid (HI5.out.store q (lq - 1))
      clear hown hat hcase hlq hin hqn hc0 hcn
      go_upto_region 7 with fail
      refine wp_named ?_
      intro w6 hw6
      have HIX0 := Lib.hid (show ReI g sa sc (some ⟨db, doff, none⟩) dc w O (.slice (some ⟨gb, 0, none⟩) n lc) (S1.set q (lq - 1)) (.slice none 0 0) [] b1 w6 from by rw [hw6]; exact HI6.out)
      clear hw6 cl clf o0
      obtain ⟨va, hva⟩ : ∃ va, va = Value.slice (some ⟨gb, 0, none⟩) n lc := ⟨_, rfl⟩
      obtain ⟨SS, hSS⟩ : ∃ S, S = S1.set q (lq - 1) := ⟨_, rfl⟩
      obtain ⟨bb, hbb⟩ : ∃ b, b = b1 := ⟨_, rfl⟩
      have HSB := Lib.hid (show SS = (restG g ((p : Int)) (q : Int)).starts ∧ bb = (restG g ((p : Int)) (q : Int)).budget from ⟨by
        have e : (restG g ((p : Int)) (q : Int)).starts = dec (if 0 ≤ ((p : Int)) then g.starts.set ((p : Int)).toNat 0 else g.starts) (q : Int) := by
          show (if 0 ≤ (q : Int) then dec (if 0 ≤ ((p : Int)) then g.starts.set ((p : Int)).toNat 0 else g.starts) (q : Int) else (if 0 ≤ ((p : Int)) then g.starts.set ((p : Int)).toNat 0 else g.starts)) = _
          rw [if_pos (Int.natCast_nonneg q)]
        rw [e, ← HS1E.out, hSS, HLQ.out]
        rfl, by rw [hbb, HB1E.out]; rfl⟩)
      have HIX := HIX0
      rw [← hva, ← hSS, ← hbb] at HIX
      clear hva hSS hbb HIX0
      obtain ⟨nd, hnd⟩ : ∃ n, n = g.deps.length := ⟨_, rfl⟩
      have HND := Lib.hid hnd
      have k1 := (HIX.out.g 1 _ rfl).1
      rw [← hnd] at k1
      have hnd12 : nd ≤ 12 := by rw [hnd]; exact HV.out.2.1
      have hnd1 : 1 ≤ nd := by rw [hnd]; exact H1.out
      clear hnd
      go_wp2_with fail
      clear k1
      go_loopg [8] nd (fun gk v8 wr => ∃ (i : Nat) (vd : Value), 1 ≤ i ∧ i ≤ nd ∧ gk + i = nd + 1 ∧ v8 = .int .i64 i ∧ ReI g sa sc (some ⟨db, doff, none⟩) dc w O va SS vd (rowsTo rws i) bb wr)
      case atStart => exact ⟨1, _, by omega, by omega, by omega, rfl, HIX.out⟩
      case round =>
        obtain ⟨i, vd, hi1, hi, hgi, rfl, hI⟩ := hrel
        obtain ⟨wq, hwq⟩ : ∃ wq, wq = wr := ⟨_, rfl⟩
        subst hwq
        have k1 := (hI.g 1 _ rfl).1
        rw [← HND.out] at k1
        have o0 := (hI.o 0 _ rfl).1
        have o1 := (hI.o 1 _ rfl).1
        have o2 := (hI.o 2 _ rfl).1
        have r0 := (hI.r 0 _ rfl).1
        have hlo := hI.lo
        have HIQ := Lib.hid hI
        by_cases hlt : i < nd
        · obtain ⟨hrc, hrl, hri⟩ := HRW.out i (by rw [← HND.out]; exact hlt)
          have kr := cell_later hI.bl hrc
          have hdb : db < w.heap.size := World.block_lt_of_cell? _ _ hrc
          have HVB := Lib.hid (show ∀ b, b ≤ w.heap.size + 1 → ¬ ((fun _ => False) b ∨ b = O ∨ vd.ownBlock = some b) from fun b hb => by
            rintro (h | h | h)
            · exact h
            · omega
            · have := (hI.d.lt b h).1; omega)
          have hc0 := (hI.o 1 _ rfl).1
          have hf0 := (hI.o 1 _ rfl).2
          have hst : ApJ ER (fun _ => False) wq (w.heap.size + 1 + 1) O 1 (rws i) vd (rowsTo rws i) undef undef false false false wq.drew := ApJ.start hc0 hf0 hI.d
          have HST := Lib.hid hst
          have HVR := Lib.hid hI.nd
          have HWL := Lib.hid (fun b hb => (hI.d.lt b hb).2)
          have HOL := Lib.hid hI.o.lt
          have HDB := Lib.hid hdb
          have HLO := Lib.hid (show w.heap.size + 1 + 1 ≤ wq.heap.size from by have := hI.o.lt; omega)
          have m1 : (i : Int) < (nd : Int) := by omega
          have m0 : (0 : Int) ≤ (i : Int) := by omega
          obtain ⟨xr, hxr⟩ : ∃ x, x = rws i := ⟨_, rfl⟩
          rw [← hxr] at kr
          have HXR := Lib.hid hxr
          have HKR := Lib.hid kr
          have HK1 := Lib.hid k1
          clear hI hst hc0 hf0 hdb hrc hrl hri o0 o1 o2 r0 hlo hxr kr
          go_upto_region 10 with fail
          clear k1
          rw [← HXR.out] at HST
          refine wp_flow_j (fun β L' w' => ApJ ER (fun _ => False) wq (w.heap.size + 1 + 1) O 1 xr vd (rowsTo rws i) (β 7) (β 8) (L' 7) (L' 8) (L' 10) w') (by kernel_rfl) (by kernel_rfl) ?h0 ?_
          case h0 => exact HST.out
          iterate 2 (((with_reducible refine FlowJ.pure (v := ?_) ?_ ?_ ?_ ?_); rotate_left 1; (focus (intro _; rfl)); (focus (intro β L' w' hJ hat; (try dsimp only at hJ); (try dsimp only); simpa only [setL, Nat.reduceEqDiff, if_false] using hJ)); (focus (intro β L' w' hJ hat; (try dsimp only at hJ); ((have n10 := hat.not (j := 10) (by kernel_rfl)); have yc := hJ.cell; simp only [n10, Bool.false_eq_true, if_false] at yc); go_simp; (try with_reducible rfl); done)); (try simp only [Act.put, List.setIfInBounds_toArray, List.set_cons_zero, List.set_cons_succ, Nat.reduceAdd])))
          iterate 4 (((with_reducible refine FlowJ.pure (v := ?_) ?_ ?_ ?_ ?_); rotate_left 1; (focus (intro _; rfl)); (focus (intro β L' w' hJ hat; (try dsimp only at hJ); (try dsimp only); simpa only [setL, Nat.reduceEqDiff, if_false] using hJ)); (focus (intro β L' w' hJ hat; (try dsimp only at hJ); (have y1 := hJ.chg.cell HK1.out (HVB.out _ (by show w.heap.size ≤ _; omega))); go_simp; (try with_reducible rfl); done)); (try simp only [Act.put, List.setIfInBounds_toArray, List.set_cons_zero, List.set_cons_succ, Nat.reduceAdd])))
          ((with_reducible refine FlowJ.pure (v := ?_) ?_ ?_ ?_ ?_); rotate_left 1; (focus (intro _; rfl)); (focus (intro β L' w' hJ hat; (try dsimp only at hJ); (try dsimp only); simpa only [setL, Nat.reduceEqDiff, if_false] using hJ)); (focus (intro β L' w' hJ hat; (try dsimp only at hJ); (have y1 := hJ.chg.cell HKR.out (HVB.out _ (by show db ≤ _; have := HDB.out; omega))); go_simp; (try with_reducible rfl); done)); (try simp only [Act.put, List.setIfInBounds_toArray, List.set_cons_zero, List.set_cons_succ, Nat.reduceAdd]))
          ((with_reducible refine FlowJ.ghost ?_ ?_ ?_); (focus (intro _; rfl)); (focus (intro β L' w' hJ hat K' hK; (try dsimp only at hJ); ((have n8 := hat.not (j := 8) (by kernel_rfl)); (have n10 := hat.not (j := 10) (by kernel_rfl)); have un := hat.un; simp only [un, n8, n10] at hJ; go_simp; refine hK.out _ _ ?_; simp only [updG, setL, Nat.reduceEqDiff, if_true, if_false, n8, n10]; exact hJ.made))); (try simp only [Act.put, List.setIfInBounds_toArray, List.set_cons_zero, List.set_cons_succ, Nat.reduceAdd]))
          ((with_reducible refine FlowJ.ghost ?_ ?_ ?_); (focus (intro _; rfl)); (focus (intro β L' w' hJ hat K' hK; (try dsimp only at hJ); ((have p7 := hat.pre 7 (by kernel_rfl)); (have n10 := hat.not (j := 10) (by kernel_rfl)); have un := hat.un; simp only [un, p7, n10] at hJ; obtain ⟨nb, eb, hnb, hbx⟩ := hJ.box rfl; obtain ⟨v', w2, hr, ho, hg, hn⟩ := El.app (E := ER) w' (w.heap.size + 1 + 1) vd (rowsTo rws i) [xr] hJ.own (some ⟨nb, 0, none⟩) 1 (El.one_at hbx) (by simp [rowsTo]; omega) (by have := hJ.chg.size; have := HLO.out; omega) 23; refine wp_app_eq (.tmp 43) (.tmp 49) 23 rfl _ _ rfl (by show β 7 = _; exact eb) hr ?_; refine hK.out _ _ ?_; simp only [updG, setL, Nat.reduceEqDiff, if_true, if_false, p7, n10]; exact hJ.app HVR.out ho hg hn HWL.out))); (try simp only [Act.put, List.setIfInBounds_toArray, List.set_cons_zero, List.set_cons_succ, Nat.reduceAdd]))
          ((with_reducible refine FlowJ.pure (v := ?_) ?_ ?_ ?_ ?_); rotate_left 1; (focus (intro _; rfl)); (focus (intro β L' w' hJ hat; (try dsimp only at hJ); (try dsimp only); simpa only [setL, Nat.reduceEqDiff, if_false] using hJ)); (focus (intro β L' w' hJ hat; (try dsimp only at hJ); skip; go_simp; (try with_reducible rfl); done)); (try simp only [Act.put, List.setIfInBounds_toArray, List.set_cons_zero, List.set_cons_succ, Nat.reduceAdd]))
          ((with_reducible refine FlowJ.eff ?_ ?_ ?_); (focus (intro _; rfl)); (focus (intro β L' w' hJ hat K' hK; (try dsimp only at hJ); ((have p8 := hat.pre 8 (by kernel_rfl)); have p7 := hat.down 8 7 p8 (by decide) (by kernel_rfl); have un := hat.un; simp only [un, p7, p8] at hJ; have yc := hJ.cell; have yf := hJ.fro; simp only [Bool.false_eq_true, if_false] at yc; obtain ⟨oa, na, ca, e5⟩ := hJ.own.shape; simp only [if_true] at e5; rw [e5]; go_simp; rw [← e5]; refine hK.out _ ?_; simp only [setL, Nat.reduceEqDiff, if_true, if_false, p7, p8]; exact hJ.stored HVR.out HOL.out))); (try simp only [Act.put, Nat.reduceAdd]))
          refine FlowJ.stop ?_
          dsimp only
          intro β w5 hJ
          have hI := HIQ.out
          have hown := hJ.own
          simp only [if_true] at hown
          have hcell := hJ.cell
          simp only [if_true] at hcell
          have h0 := hJ.rest 0 (by decide)
          have h2 := hJ.rest 2 (by decide)
          have hne : ∀ b, (b = O ∨ vd.ownBlock = some b) → w.heap.size + 1 < b := fun b hb => by
            have := hI.lo
            rcases hb with h | h
            · omega
            · have := (hI.d.lt b h).1; omega
          have i5 : ReI g sa sc (some ⟨db, doff, none⟩) dc w O va SS (β 8) (rowsTo rws (i + 1)) bb w5 := by
            have e : rowsTo rws (i + 1) = rowsTo rws i ++ [xr] := by
              unfold rowsTo
              rw [show i + 1 - 1 = (i - 1) + 1 by omega, List.range_succ, List.map_append, List.map_singleton, show i - 1 + 1 = i by omega, HXR.out]
            have hst : ∀ b, va.ownBlock = some b → w5.heap[b]? = wq.heap[b]? := fun b hb => hJ.chg.block b (hI.s.lt b hb).2 (by
              rintro (h | h | h)
              · exact h
              · exact hI.ns (by rw [← h]; exact hb)
              · exact (hI.d.ty h).ne (hI.s.ty hb) (by decide) rfl)
            refine ⟨hI.bl.trans (hJ.chg.below hI.bl.size fun b hb => by
                rcases hb with h | h
                · exact h.elim
                · have := hne b h; omega), hI.g.chg hJ.chg (fun h => h.elim id fun h => by have := hne _ h; omega) hI.g.lt, hI.r.chg hJ.chg (fun h => h.elim id fun h => by have := hne _ h; omega) hI.r.lt, fun j u hu => ?_, hI.lo, hI.s.block hst, by rw [e]; exact hown, hI.ns, fun e' => ?_⟩
            · match j, hu with
              | 0, hu => cases hu; exact ⟨h0.1.trans (hI.o 0 _ rfl).1, h0.2.trans (hI.o 0 _ rfl).2⟩
              | 1, hu => cases hu; exact ⟨hcell, hJ.fro⟩
              | 2, hu => cases hu; exact ⟨h2.1.trans (hI.o 2 _ rfl).1, h2.2.trans (hI.o 2 _ rfl).2⟩
              | j + 3, hu => simp at hu
            · rcases hJ.nb rfl _ e' with h | h
              · exact hI.nd h
              · have := hI.o.lt; omega
          have HI5 := Lib.hid i5
          clear hJ hI hown hcell h0 h2 hne i5
          go_wp2_with fail
          go_roundg (nd - i)
          case measure => omega
          case rel => exact ⟨i + 1, β 8, by omega, by omega, by omega, by go_num, HI5.out⟩
        · obtain rfl : nd = i := by omega
          have HRES := Lib.hid (show ∀ w', BoxAt w' (w.heap.size + 1) [va, vd, .int .i64 bb] → Chg (fun k => k = w.heap.size + 1) wq w' → ∃ sa' sc' da' dc', Value.agg #[va, vd, .int .i64 bb] = gmV (restG g ((p : Int)) ((q : Int))) sa' sc' da' dc' ∧ GmAt w' (restG g ((p : Int)) ((q : Int))) sa' da' ∧ Below w.heap.size w w' from fun w' hbx hch => by
            have hI := HIQ.out
            have hs := hI.s.block (w' := w') fun b hb => hch.block b (hI.s.lt b hb).2 fun e => by have := (hI.s.lt b hb).1; omega
            have hd := hI.d.block (w' := w') fun b hb => hch.block b (hI.d.lt b hb).2 fun e => by have := (hI.d.lt b hb).1; omega
            have hbw : Below w.heap.size w w' := hI.bl.trans (hch.below hI.bl.size fun k e => by omega)
            obtain ⟨a1, c1, e1, _, _, hat1, _⟩ := hs.at
            obtain ⟨a2, c2, e2, _, _, hat2, _⟩ := hd.at
            have hlen : (rowsTo rws nd).length = (restG g ((p : Int)) ((q : Int))).deps.length := by
              show _ = g.deps.tail.length
              rw [List.length_tail, ← HND.out]
              simp [rowsTo]
            refine ⟨a1, c1, a2, c2, ?_, ⟨?_, fun j hj => ?_⟩, hbw⟩
            · rw [e1, e2, hlen, HSB.out.1, HSB.out.2]
            · rw [← HSB.out.1]
              exact hat1.ints
            · have hj' : j + 1 < g.deps.length := by
                have h := hj
                rw [← hlen] at h
                simp [rowsTo] at h
                have := HND.out
                omega
              obtain ⟨hrc, hrl, hri⟩ := HRW.out (j + 1) hj'
              have hu : ((rowsTo rws nd).flatMap ER.cf)[j]? = some (.slice (rws (j + 1)).1 (rws (j + 1)).2.1 (rws (j + 1)).2.2) := by
                have hjl : j < (rowsTo rws nd).length := by rw [hlen]; exact hj
                have h := ER.fat (rowsTo rws nd) j hjl 0 (by decide)
                rw [show j * ER.S + 0 = j by show j * 1 + 0 = j; omega] at h
                rw [h]
                have e : (rowsTo rws nd)[j] = rws (j + 1) := by simp [rowsTo]
                rw [e]
                rfl
              obtain ⟨b, off, ea, hcell⟩ := hat2 j _ hu
              have et : (restG g ((p : Int)) ((q : Int))).deps.getD j [] = g.deps.getD (j + 1) [] := by
                show g.deps.tail.getD j [] = _
                rw [List.getD_eq_getElem?_getD, List.getD_eq_getElem?_getD, List.getElem?_tail]
              refine ⟨b, off, (rws (j + 1)).1, (rws (j + 1)).2.2, ea, ?_, ?_⟩
              · rw [hcell, et, hrl]
              · rw [et]
                exact hri.later hbw)
          obtain ⟨a1, c1, e1, _⟩ := hI.s.at
          obtain ⟨a2, c2, e2, _⟩ := hI.d.at
          have HRX := Lib.hid hI.r
          have HOX := Lib.hid hI.o
          have q1 : va.oneCell' = true := by rw [e1]; rfl
          have q2 : vd.oneCell' = true := by rw [e2]; rfl
          have HQ := Lib.hid (show ∀ u ∈ [va, vd, Value.int .i64 bb], u.oneCell' = true from fun u hu => by
            simp only [List.mem_cons, List.not_mem_nil, or_false] at hu
            rcases hu with rfl | rfl | rfl
            · exact q1
            · exact q2
            · rfl)
          clear hI hlo e1 e2 q1 q2 o0 o1 o2 r0
          go_wp2_with first | (refine wpList_load_mid rfl 25 _ rfl O 0 rfl [va, vd, .int .i64 bb] _ (box_range HOX.out) Try.underlying25 rfl (by kernel_rfl) ?_) | (refine wpList_store_mid rfl 25 _ _ rfl (w.heap.size + 1) 0 #[va, vd, .int .i64 bb] rfl rfl (box_there HRX.out rfl) (by kernel_rfl) (all_oneCell_toArray (cs := [va, vd, .int .i64 bb]) HQ.out) ?_)
          have hch : Chg (fun k => k = w.heap.size + 1) wq (wq.setCells (w.heap.size + 1) 0 [va, vd, .int .i64 bb]) := chg_setCells (S := fun k => k = w.heap.size + 1) (Chg.refl _ _) _ _ _ (fun _ => rfl)
          have hbx : BoxAt (wq.setCells (w.heap.size + 1) 0 [va, vd, .int .i64 bb]) (w.heap.size + 1) [va, vd, .int .i64 bb] := HRX.out.stored rfl
          obtain ⟨sa', sc', da', dc', h1, h2, h3⟩ := HRES.out _ hbx hch
          exact bodyPost_ret (results_cell (p := ⟨w.heap.size + 1, 0, none⟩) rfl rfl (run_loadVar_mid _ (w.heap.size + 1) 0 25 [va, vd, .int .i64 bb] _ (box_range hbx) Try.underlying25 rfl (by kernel_rfl))) rfl ⟨sa', sc', da', dc', by rw [← h1], h2, h3⟩
end Go.Proofs.Ytlkknoooeldomaa

