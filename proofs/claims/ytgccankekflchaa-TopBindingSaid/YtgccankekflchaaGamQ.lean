


/- Package game: the closure that compares two positions; sorting. -/
import Derived.Test.YtgccankekflchaaGamO
import Derived.Shelf.SlSortCmp.NoneTotal
import Derived.Shelf.SlSortFuncK.HeapSortK
import Derived.Shelf.SlicesQ.Reverse
import Derived.Shelf.Lay
import Derived.Ground.SlsfProg
namespace Go.Proofs.Ytgccankekflchaa
open Go.RowKit Go.Sort

theorem grow3 (w : World) (a b c : Obj) : (((w.alloc a).alloc b).drew).alloc c = grow (w.drewN 1) #[a, b, c] := by
  rw [alloc_eq_grow, alloc_eq_grow, alloc_eq_grow, drew_grow, drew_grow, grow_grow, grow_grow]
  rfl
set_option maxRecDepth 100000 in
set_option maxHeartbeats 4000000 in
theorem cmpPos_any (x y : PA) (w : World) (hx : PsAt w x.1 x.2.1 x.2.2.2.1) (hy : PsAt w y.1 y.2.1 y.2.2.2.1) (h1 : x.1.starts.length ≤ 1000 ∧ x.1.failed.length ≤ 1000) (h2 : y.1.starts.length ≤ 1000 ∧ y.1.failed.length ≤ 1000) :
    Calls Try.prog 23 #[.agg (psCs x).toArray, .agg (psCs y).toArray] w fun e w' => e = .returned (.int .i64 (cmpP x.1 y.1)) ∧ ∃ q os', w' = grow (w.drewN q) os' := by
  obtain ⟨c1, hc1⟩ : ∃ c, c = cmpI x.1.turn y.1.turn := ⟨_, rfl⟩
  obtain ⟨c2, hc2⟩ : ∃ c, c = cmpL x.1.starts y.1.starts := ⟨_, rfl⟩
  obtain ⟨c3, hc3⟩ : ∃ c, c = cmpL (bitL x.1.failed) (bitL y.1.failed) := ⟨_, rfl⟩
  obtain ⟨c4, hc4⟩ : ∃ c, c = cmpI x.1.budget y.1.budget := ⟨_, rfl⟩
  have HC1 := Lib.hid hc1
  have HC2 := Lib.hid hc2
  have HC3 := Lib.hid hc3
  have HC4 := Lib.hid hc4
  have HRES := Lib.hid (show orL [c1, c2, c3, c4] = cmpP x.1 y.1 from by
    show or0 c1 (or0 c2 (or0 c3 (or0 c4 0))) = _
    rw [or0_zero, hc1, hc2, hc3, hc4]
    rfl)
  have HX := Lib.hid hx
  have HY := Lib.hid hy
  have H1 := Lib.hid h1
  have H2 := Lib.hid h2
  clear hc1 hc2 hc3 hc4 hx hy h1 h2
  go_enter Try.func23, Try.ntmps23
  go_upto_region 1 with fail
  refine wp_named ?_
  intro w1 hw1
  obtain ⟨hb1, hs1, b1, b2⟩ := alloc2 w (psCs x) (psCs y) _ _ w1 hw1
  have HW1 := Lib.hid hw1
  have HB1 := Lib.hid hb1
  have HX1 := Lib.hid b1
  have HY1 := Lib.hid b2
  have x2 := (b1 2 _ rfl).1
  have y2 := (b2 2 _ rfl).1
  clear hw1 hb1 hs1 b1 b2
  go_upto_region 2 with (go_at_call 24; refine Calls.mono (compareB_any x.1.failed y.1.failed _ _ _ _ w1 (HX.out.f.later HB1.out) (HY.out.f.later HB1.out) H1.out.2 H2.out.2) ?_; rintro e w' ⟨rfl, rfl⟩; rw [← HC3.out])
  clear x2 y2
  have e1 : w1.drew.heap.size = w1.heap.size := rfl
  have HXD := Lib.hid (show BoxAt w1.drew w.heap.size (psCs x) from HX1.out)
  have HYD := Lib.hid (show BoxAt w1.drew (w.heap.size + 1) (psCs y) from HY1.out)
  have HPX := Lib.hid (show PsAt w1.drew x.1 x.2.1 x.2.2.2.1 from HX.out.later HB1.out.drew)
  have HPY := Lib.hid (show PsAt w1.drew y.1 y.2.1 y.2.2.2.1 from HY.out.later HB1.out.drew)
  obtain ⟨wd, hwd⟩ : ∃ wd, wd = w1.drew := ⟨_, rfl⟩
  have HWD := Lib.hid hwd
  have HED := Lib.hid e1
  rw [← hwd] at HXD HYD HPX HPY
  clear e1
  refine wp_flow_j (fun β L' w' => (L' 16 = false → w' = wd) ∧ (L' 16 = true → w' = wd.alloc (.cells #[.int .i64 c1, .int .i64 c2, .int .i64 c3, .int .i64 c4] 3))) (by kernel_rfl) (by kernel_rfl) ?h0 ?_
  case h0 => exact ⟨fun _ => HWD.out.symm, fun e => by cases e⟩
  clear hwd
  ((with_reducible refine FlowJ.pure (v := ?_) ?_ ?_ ?_ ?_); rotate_left 1; (focus (intro _; rfl)); (focus (intro β L' w' hJ hat; (try dsimp only at hJ); (try dsimp only); simpa only [setL, Nat.reduceEqDiff, if_false] using hJ)); (focus (intro β L' w' hJ hat; (try dsimp only at hJ); skip; go_simp; (try with_reducible rfl); done)); (try simp only [Act.put, List.setIfInBounds_toArray, List.set_cons_zero, List.set_cons_succ, Nat.reduceAdd]))
  ((with_reducible refine FlowJ.pure (v := ?_) ?_ ?_ ?_ ?_); rotate_left 1; (focus (intro _; rfl)); (focus (intro β L' w' hJ hat; (try dsimp only at hJ); (try dsimp only); simpa only [setL, Nat.reduceEqDiff, if_false] using hJ)); (focus (intro β L' w' hJ hat; (try dsimp only at hJ); ((have n16 := hat.not (j := 16) (by kernel_rfl)); have e := hJ.1 n16; subst e; have h := (HXD.out 0 _ rfl).1); go_simp; (try with_reducible rfl); done)); (try simp only [Act.put, List.setIfInBounds_toArray, List.set_cons_zero, List.set_cons_succ, Nat.reduceAdd]))
  ((with_reducible refine FlowJ.pure (v := ?_) ?_ ?_ ?_ ?_); rotate_left 1; (focus (intro _; rfl)); (focus (intro β L' w' hJ hat; (try dsimp only at hJ); (try dsimp only); simpa only [setL, Nat.reduceEqDiff, if_false] using hJ)); (focus (intro β L' w' hJ hat; (try dsimp only at hJ); skip; go_simp; (try with_reducible rfl); done)); (try simp only [Act.put, List.setIfInBounds_toArray, List.set_cons_zero, List.set_cons_succ, Nat.reduceAdd]))
  ((with_reducible refine FlowJ.pure (v := ?_) ?_ ?_ ?_ ?_); rotate_left 1; (focus (intro _; rfl)); (focus (intro β L' w' hJ hat; (try dsimp only at hJ); (try dsimp only); simpa only [setL, Nat.reduceEqDiff, if_false] using hJ)); (focus (intro β L' w' hJ hat; (try dsimp only at hJ); ((have n16 := hat.not (j := 16) (by kernel_rfl)); have e := hJ.1 n16; subst e; have h := (HYD.out 0 _ rfl).1); go_simp; (try with_reducible rfl); done)); (try simp only [Act.put, List.setIfInBounds_toArray, List.set_cons_zero, List.set_cons_succ, Nat.reduceAdd]))
  ((with_reducible refine FlowJ.call (v := ?_) ?_ ?_ ?_); rotate_left 1; (focus (intro _; rfl)); (focus (intro β L' w' hJ hat K' hK; (try dsimp only at hJ); (go_simp; go_at_call 26; refine Calls.mono (cmp_any _ _ _) ?_; rintro e w' ⟨rfl, rfl⟩; rw [← HC1.out]; refine hK.out _ ?_; simpa only [setL, Nat.reduceEqDiff, if_false] using hJ))); (try simp only [Act.put, List.setIfInBounds_toArray, List.set_cons_zero, List.set_cons_succ, Nat.reduceAdd]))
  ((with_reducible refine FlowJ.pure (v := ?_) ?_ ?_ ?_ ?_); rotate_left 1; (focus (intro _; rfl)); (focus (intro β L' w' hJ hat; (try dsimp only at hJ); (try dsimp only); simpa only [setL, Nat.reduceEqDiff, if_false] using hJ)); (focus (intro β L' w' hJ hat; (try dsimp only at hJ); skip; go_simp; (try with_reducible rfl); done)); (try simp only [Act.put, List.setIfInBounds_toArray, List.set_cons_zero, List.set_cons_succ, Nat.reduceAdd]))
  ((with_reducible refine FlowJ.pure (v := ?_) ?_ ?_ ?_ ?_); rotate_left 1; (focus (intro _; rfl)); (focus (intro β L' w' hJ hat; (try dsimp only at hJ); (try dsimp only); simpa only [setL, Nat.reduceEqDiff, if_false] using hJ)); (focus (intro β L' w' hJ hat; (try dsimp only at hJ); ((have n16 := hat.not (j := 16) (by kernel_rfl)); have e := hJ.1 n16; subst e; have h := (HXD.out 1 _ rfl).1); go_simp; (try with_reducible rfl); done)); (try simp only [Act.put, List.setIfInBounds_toArray, List.set_cons_zero, List.set_cons_succ, Nat.reduceAdd]))
  ((with_reducible refine FlowJ.pure (v := ?_) ?_ ?_ ?_ ?_); rotate_left 1; (focus (intro _; rfl)); (focus (intro β L' w' hJ hat; (try dsimp only at hJ); (try dsimp only); simpa only [setL, Nat.reduceEqDiff, if_false] using hJ)); (focus (intro β L' w' hJ hat; (try dsimp only at hJ); skip; go_simp; (try with_reducible rfl); done)); (try simp only [Act.put, List.setIfInBounds_toArray, List.set_cons_zero, List.set_cons_succ, Nat.reduceAdd]))
  ((with_reducible refine FlowJ.pure (v := ?_) ?_ ?_ ?_ ?_); rotate_left 1; (focus (intro _; rfl)); (focus (intro β L' w' hJ hat; (try dsimp only at hJ); (try dsimp only); simpa only [setL, Nat.reduceEqDiff, if_false] using hJ)); (focus (intro β L' w' hJ hat; (try dsimp only at hJ); ((have n16 := hat.not (j := 16) (by kernel_rfl)); have e := hJ.1 n16; subst e; have h := (HYD.out 1 _ rfl).1); go_simp; (try with_reducible rfl); done)); (try simp only [Act.put, List.setIfInBounds_toArray, List.set_cons_zero, List.set_cons_succ, Nat.reduceAdd]))
  ((with_reducible refine FlowJ.call (v := ?_) ?_ ?_ ?_); rotate_left 1; (focus (intro _; rfl)); (focus (intro β L' w' hJ hat K' hK; (try dsimp only at hJ); ((have n16 := hat.not (j := 16) (by kernel_rfl)); have e := hJ.1 n16; have i1 := HPX.out.s; have i2 := HPY.out.s; rw [← e] at i1 i2; clear e n16; go_simp; go_at_call 29; refine Calls.mono (compare_any x.1.starts y.1.starts _ _ _ _ _ i1 i2 H1.out.1 H2.out.1) ?_; rintro e w9 ⟨rfl, rfl⟩; rw [← HC2.out]; refine hK.out _ ?_; simpa only [setL, Nat.reduceEqDiff, if_false] using hJ))); (try simp only [Act.put, List.setIfInBounds_toArray, List.set_cons_zero, List.set_cons_succ, Nat.reduceAdd]))
  iterate 2 (((with_reducible refine FlowJ.pure (v := ?_) ?_ ?_ ?_ ?_); rotate_left 1; (focus (intro _; rfl)); (focus (intro β L' w' hJ hat; (try dsimp only at hJ); (try dsimp only); simpa only [setL, Nat.reduceEqDiff, if_false] using hJ)); (focus (intro β L' w' hJ hat; (try dsimp only at hJ); skip; go_simp; (try with_reducible rfl); done)); (try simp only [Act.put, List.setIfInBounds_toArray, List.set_cons_zero, List.set_cons_succ, Nat.reduceAdd])))
  ((with_reducible refine FlowJ.pure (v := ?_) ?_ ?_ ?_ ?_); rotate_left 1; (focus (intro _; rfl)); (focus (intro β L' w' hJ hat; (try dsimp only at hJ); (try dsimp only); simpa only [setL, Nat.reduceEqDiff, if_false] using hJ)); (focus (intro β L' w' hJ hat; (try dsimp only at hJ); ((have n16 := hat.not (j := 16) (by kernel_rfl)); have e := hJ.1 n16; subst e; have h := (HXD.out 3 _ rfl).1); go_simp; (try with_reducible rfl); done)); (try simp only [Act.put, List.setIfInBounds_toArray, List.set_cons_zero, List.set_cons_succ, Nat.reduceAdd]))
  ((with_reducible refine FlowJ.pure (v := ?_) ?_ ?_ ?_ ?_); rotate_left 1; (focus (intro _; rfl)); (focus (intro β L' w' hJ hat; (try dsimp only at hJ); (try dsimp only); simpa only [setL, Nat.reduceEqDiff, if_false] using hJ)); (focus (intro β L' w' hJ hat; (try dsimp only at hJ); skip; go_simp; (try with_reducible rfl); done)); (try simp only [Act.put, List.setIfInBounds_toArray, List.set_cons_zero, List.set_cons_succ, Nat.reduceAdd]))
  ((with_reducible refine FlowJ.pure (v := ?_) ?_ ?_ ?_ ?_); rotate_left 1; (focus (intro _; rfl)); (focus (intro β L' w' hJ hat; (try dsimp only at hJ); (try dsimp only); simpa only [setL, Nat.reduceEqDiff, if_false] using hJ)); (focus (intro β L' w' hJ hat; (try dsimp only at hJ); ((have n16 := hat.not (j := 16) (by kernel_rfl)); have e := hJ.1 n16; subst e; have h := (HYD.out 3 _ rfl).1); go_simp; (try with_reducible rfl); done)); (try simp only [Act.put, List.setIfInBounds_toArray, List.set_cons_zero, List.set_cons_succ, Nat.reduceAdd]))
  ((with_reducible refine FlowJ.call (v := ?_) ?_ ?_ ?_); rotate_left 1; (focus (intro _; rfl)); (focus (intro β L' w' hJ hat K' hK; (try dsimp only at hJ); (go_simp; go_at_call 26; refine Calls.mono (cmp_any _ _ _) ?_; rintro e w' ⟨rfl, rfl⟩; rw [← HC4.out]; refine hK.out _ ?_; simpa only [setL, Nat.reduceEqDiff, if_false] using hJ))); (try simp only [Act.put, List.setIfInBounds_toArray, List.set_cons_zero, List.set_cons_succ, Nat.reduceAdd]))
  refine FlowJ.call (v := .slice (some ⟨wd.heap.size, 0, none⟩) 4 4) (fun _ => rfl) (fun β L' w' hJ hat K' hK => ?_) ?_
  · have e := hJ.1 hat.un
    subst e
    clear hJ
    go_simp
    exact hK.out _ ⟨fun h => absurd h (by simp [setL]), fun _ => rfl⟩
  (try simp only [Act.put, List.setIfInBounds_toArray, List.set_cons_zero, List.set_cons_succ, Nat.reduceAdd])
  ((with_reducible refine FlowJ.call (v := ?_) ?_ ?_ ?_); rotate_left 1; (focus (intro _; rfl)); (focus (intro β L' w' hJ hat K' hK; (try dsimp only at hJ); ((have p16 := hat.pre 16 (by kernel_rfl)); have e := hJ.2 p16; clear p16; have hI : Ints w' (some ⟨wd.heap.size, 0, none⟩) [c1, c2, c3, c4] := (by rw [e]; exact El.At.ints (El.at_lit' EI wd [c1, c2, c3, c4] _ 3 rfl)); have hor := or_any [c1, c2, c3, c4] _ 4 w' hI (by simp); rw [HRES.out] at hor; clear e; go_simp; go_at_call 28; refine Calls.mono hor ?_; rintro e w9 ⟨rfl, rfl⟩; refine hK.out _ ?_; simpa only [setL, Nat.reduceEqDiff, if_false] using hJ))); (try simp only [Act.put, List.setIfInBounds_toArray, List.set_cons_zero, List.set_cons_succ, Nat.reduceAdd]))
  ((with_reducible refine FlowJ.pure (v := ?_) ?_ ?_ ?_ ?_); rotate_left 1; (focus (intro _; rfl)); (focus (intro β L' w' hJ hat; (try dsimp only at hJ); (try dsimp only); simpa only [setL, Nat.reduceEqDiff, if_false] using hJ)); (focus (intro β L' w' hJ hat; (try dsimp only at hJ); skip; go_simp; (try with_reducible rfl); done)); (try simp only [Act.put, List.setIfInBounds_toArray, List.set_cons_zero, List.set_cons_succ, Nat.reduceAdd]))
  refine FlowJ.stop ?_
  dsimp only
  intro β w2 hJ
  have e := hJ.2 trivial
  have HE := Lib.hid e
  clear hJ e
  go_wp2_with fail
  go_ret
  have hg := HE.out
  rw [HWD.out, HW1.out, grow3] at hg
  exact ⟨rfl, 1, _, hg⟩
shelf_lay_g SlLaysF0.n6 Slsf 6 at Try 22 as Try.sortPos
theorem cellSW {α : Type} [Inhabited α] (enc : α → List Value) (k : Nat) (W : World) (blk off n : Nat) (dk : Array α) (os : Array Obj) {b : Nat} (h1 : b ≠ blk) (h2 : b < W.heap.size) (o : Nat) : (sortWorldK enc k W blk off n dk os).cell? ⟨b, o, none⟩ = W.cell? ⟨b, o, none⟩ := cell?_sortWorldK_other enc k W blk off n dk os ⟨b, o, none⟩ h1 h2
theorem intsSW {α : Type} [Inhabited α] (enc : α → List Value) (k : Nat) (W : World) (blk off n : Nat) (dk : Array α) (os : Array Obj) {a : Option Addr} {l : List Int} (h : Ints W a l) (hb : ∀ ad, a = some ad → ad.block ≠ blk) : Ints (sortWorldK enc k W blk off n dk os) a l := fun j hj => by
  obtain ⟨b, o, rfl, hc⟩ := h j hj
  exact ⟨b, o, rfl, (cellSW enc k W blk off n dk os (hb _ rfl) (World.block_lt_of_cell? _ ⟨b, o + j, none⟩ hc) (o + j)).trans hc⟩
theorem boolsSW {α : Type} [Inhabited α] (enc : α → List Value) (k : Nat) (W : World) (blk off n : Nat) (dk : Array α) (os : Array Obj) {a : Option Addr} {l : List Bool} (h : Bools W a l) (hb : ∀ ad, a = some ad → ad.block ≠ blk) : Bools (sortWorldK enc k W blk off n dk os) a l := fun j hj => by
  obtain ⟨b, o, rfl, hc⟩ := h j hj
  exact ⟨b, o, rfl, (cellSW enc k W blk off n dk os (hb _ rfl) (World.block_lt_of_cell? _ ⟨b, o + j, none⟩ hc) (o + j)).trans hc⟩
/-- lists of positions that lie, with their parts, apart from the block g -/
structure Apart (w : World) (g : Nat) (l : List PA) : Prop where
  ps : ∀ e ∈ l, PsAt w e.1 e.2.1 e.2.2.2.1
  s : ∀ e ∈ l, ∀ ad, e.2.1 = some ad → ad.block ≠ g
  f : ∀ e ∈ l, ∀ ad, e.2.2.2.1 = some ad → ad.block ≠ g
  n : ∀ e ∈ l, e.1.starts.length ≤ 1000 ∧ e.1.failed.length ≤ 1000
theorem cmpLays {α : Type} [Inhabited α] (f : α → PA) (l : List PA) (hf : ∀ x, f x ∈ l) (w : World) (g size : Nat) (h : Apart w g l) : CmpLays Try.prog 23 #[] (fun x => psCs (f x)) 6 (fun x y => cmpP (f x).1 (f y).1) g 0 size w :=
  fun _ _ _ _ x y => cmpPos_any (f x) (f y) _
    ⟨intsSW _ _ _ _ _ _ _ _ (h.ps _ (hf x)).s (h.s _ (hf x)), boolsSW _ _ _ _ _ _ _ _ (h.ps _ (hf x)).f (h.f _ (hf x))⟩
    ⟨intsSW _ _ _ _ _ _ _ _ (h.ps _ (hf y)).s (h.s _ (hf y)), boolsSW _ _ _ _ _ _ _ _ (h.ps _ (hf y)).f (h.f _ (hf y))⟩ (h.n _ (hf x)) (h.n _ (hf y))
theorem holdsK_at {α : Type} [Inhabited α] (f : α → PA) (d : Array α) {w : World} {g : Nat} (h : HoldsK (fun x => psCs (f x)) 6 w g 0 d) : EQ.At w (some ⟨g, 0, none⟩) (d.toList.map f) := fun j u hu => by
  have hj : j < (d.toList.map f).length * 6 := by have := (List.getElem?_eq_some_iff.1 hu).1; rwa [EQ.flen] at this
  rw [List.length_map, Array.length_toList] at hj
  have hk : j / 6 < d.size := by omega
  have e := EQ.fat (d.toList.map f) (j / 6) (by simpa using hk) (j % 6) (by show j % 6 < 6; omega)
  rw [show j / 6 * EQ.S + j % 6 = j by show j / 6 * 6 + j % 6 = j; omega, hu, List.getElem_map] at e
  refine ⟨g, 0, rfl, ?_⟩
  have hc := HoldsK.cells (enc := fun x => psCs (f x)) h (fun _ => rfl) hk (j % 6) u (by rw [getElem!_pos d _ hk]; exact e.symm)
  have ea : (Addr.add ⟨g, 0 + j / 6 * 6, none⟩ (j % 6)) = ⟨g, 0 + j, none⟩ := by
    unfold Addr.add
    split
    · rename_i h0; congr 1; omega
    · show (⟨g, 0 + j / 6 * 6 + j % 6, none⟩ : Addr) = _; congr 1; omega
  rw [ea] at hc
  exact hc
theorem at_holdsK {α : Type} [Inhabited α] (f : α → PA) (d : Array α) {w : World} {g : Nat} (h : EQ.At w (some ⟨g, 0, none⟩) (d.toList.map f)) (hz : ∀ o, w.frozen? ⟨g, o, none⟩ = false) : HoldsK (fun x => psCs (f x)) 6 w g 0 d := fun j hj => by
  refine ⟨?_, hz _⟩
  rw [size_flatK] at hj
  have hk : j / 6 < d.size := by omega
  have e := EQ.fat (d.toList.map f) (j / 6) (by simpa using hk) (j % 6) (by show j % 6 < 6; omega)
  rw [show j / 6 * EQ.S + j % 6 = j by show j / 6 * 6 + j % 6 = j; omega, List.getElem_map] at e
  have hl : (psCs (f d[j / 6])).length = 6 := rfl
  have e2 : (EQ.cf (f d.toList[j / 6]))[j % 6]? = some (psCs (f d[j / 6]))[j % 6] := by
    show (psCs (f d.toList[j / 6]))[j % 6]? = _
    rw [Array.getElem_toList]
    exact List.getElem?_eq_getElem (by rw [hl]; omega)
  rw [e2] at e
  obtain ⟨b, o, ha, hc⟩ := h j _ e
  cases ha
  rw [hc, get_flatK _ _ _ _ hj, getElem!_pos d _ hk]
  show some _ = some (id _)
  rw [getElem!_pos (psCs (f d[j / 6])) (j % 6) (by rw [hl]; omega)]
  rfl
theorem chgSW {α : Type} [Inhabited α] (enc : α → List Value) (k : Nat) (W : World) (blk off n : Nat) (dk : Array α) (os : Array Obj) : Chg (fun j => j = blk) W (sortWorldK enc k W blk off n dk os) := by
  refine ⟨rfl, rfl, rfl, ?_, fun b hb hne => ?_⟩
  · unfold sortWorldK
    rw [size_grow, size_putRowK]
    exact Nat.le_add_right _ _
  · unfold sortWorldK putRowK putRow mapBlock grow
    have hb' : b < (Sort.ahead W n).heap.size := hb
    simp only [Array.getElem?_append, Array.size_modify, if_pos hb', Array.getElem?_modify]
    rw [if_neg (fun e => hne e.symm)]
    rfl
theorem own_fro {w : World} {B g cap : Nat} {l : List PA} (h : EQ.Own w B (.slice (some ⟨g, 0, none⟩) l.length cap) l) (o : Nat) : w.frozen? ⟨g, o, none⟩ = false := by
  obtain ⟨cur, hc⟩ := h.ty (g := g) rfl
  simp [World.frozen?, hc]
set_option maxHeartbeats 1000000 in
theorem sort_any (l : List PA) (v : Value) (B : Nat) (w : World) (hown : EQ.Own w B v l) (hap : ∀ g, v.ownBlock = some g → Apart w g l) (hl : l.length ≤ 100000000000) :
    Calls Try.prog 22 #[v, .func (.func 23) #[] #[]] w fun e w' => e = .returned (.tuple #[]) ∧ ∃ a c l', v = .slice a l.length c ∧ l'.length = l.length ∧ l'.Perm l ∧ l'.Pairwise (fun x y => ¬ cmpP y.1 x.1 < 0) ∧ EQ.At w' a l' ∧ PsAll w' l' ∧ Chg (fun k => v.ownBlock = some k) w w' := by
  cases hl0 : l with
  | nil =>
    subst hl0
    obtain ⟨a, c, rfl, _⟩ := hown.at
    exact (AnyF.slices_SortFunc_none Try.sortPos a c _ w).mono fun e w' ⟨he, hw⟩ => ⟨he, a, c, [], rfl, rfl, List.Perm.refl _, List.Pairwise.nil, El.At.nil, (fun x hx => (by cases hx)), (by rw [hw]; exact Chg.refl _ _)⟩
  | cons x0 l0 =>
    rw [← hl0]
    have hne : 0 < l.length := by rw [hl0]; simp
    obtain ⟨a, c, rfl, hlc, hcm, hat, hcase⟩ := hown.at
    rcases hcase with ⟨_, _, e⟩ | ⟨g, rfl, hBg, hglt⟩
    · rw [e] at hne; cases hne
    · have hA := hap g rfl
      haveI : Inhabited {e // e ∈ l} := ⟨⟨x0, by rw [hl0]; simp⟩⟩
      have hd : l.attach.toArray.toList.map Subtype.val = l := List.attach_map_subtype_val l
      have hsz : l.attach.toArray.size = l.length := by simp
      have hH := at_holdsK (α := {e // e ∈ l}) Subtype.val l.attach.toArray (w := w) (g := g) (by rw [hd]; exact hat) (own_fro hown)
      have hcon := AnyQ.slices_SortFunc Try.sortPos 6 (by intro w; kernel_rfl) (by intro w; kernel_rfl) (fun x : {e // e ∈ l} => psCs x.1) (fun _ => rfl) (fun x u hu => psCs_one [x.1] u (by simpa using hu)) (fun x y => cmpP x.1.1 y.1.1) ((cmpP_tw.on fun x : {e // e ∈ l} => x.1.1).swo) 23 #[] g 0 c l.attach.toArray w
        (enters_of Try.func23 (by kernel_rfl) rfl) (cmpLays Subtype.val l (fun x => x.2) w g _ hA) hH hglt (by rw [hsz]; omega)
      rw [hsz] at hcon
      refine hcon.mono ?_
      rintro e w' ⟨he, d', n, os, ⟨hp1, _, hp3⟩, hsrt, rfl⟩
      have hds : d'.size = l.length := hp1.trans hsz
      have hperm : (d'.toList.map Subtype.val).Perm l := by
        have h1 : (d'.extract 0 l.length).toList = d'.toList := by rw [← hds]; simp
        have h2 : (l.attach.toArray.extract 0 l.length).toList = l.attach := by
          simp
          exact List.take_of_length_le (by simp)
        rw [h1, h2] at hp3
        have := hp3.map Subtype.val
        rw [List.attach_map_subtype_val] at this
        exact this
      refine ⟨he, _, _, d'.toList.map Subtype.val, rfl, by simpa using hds, hperm, ?_, ?_, ?_, ?_⟩
      · rw [List.pairwise_iff_getElem]
        intro i j hi hj hij
        simp only [List.length_map, Array.length_toList] at hi hj
        have := hsrt i j (Nat.zero_le _) hij (by omega)
        rw [getElem!_pos d' i (by omega), getElem!_pos d' j (by omega)] at this
        unfold ltOf at this
        simp only [decide_eq_false_iff_not] at this
        simp only [List.getElem_map, Array.getElem_toList]
        exact this
      · refine holdsK_at Subtype.val d' ?_
        exact holdsK_sortWorldK_c _ _ _ _ _ _ d' _ _ hH hglt hp1
      · intro x hx
        have hx' := hperm.mem_iff.1 hx
        exact ⟨intsSW _ _ _ _ _ _ _ _ (hA.ps x hx').s (hA.s x hx'), boolsSW _ _ _ _ _ _ _ _ (hA.ps x hx').f (hA.f x hx')⟩
      · exact (chgSW _ _ _ _ _ _ _ _).mono fun k _ h => by rw [h]; rfl
end Go.Proofs.Ytgccankekflchaa

