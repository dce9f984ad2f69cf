


/- 'v = append(v, x)' in a region that draws its order; the deferred closure of All. -/
import Derived.Test.YtgoomcnaemfjcaaHldR
import Derived.Defers
namespace Go.Proofs.Ytgoomcnaemfjcaa
open Go.RowKit

def IsTy (w : World) (b : Nat) (T : TypeId) : Prop := ∃ cur, w.heap[b]? = some (.cells cur T (0, 0))
theorem IsTy.block {w w' : World} {b : Nat} {T : TypeId} (h : IsTy w b T) (e : w'.heap[b]? = w.heap[b]?) : IsTy w' b T := by
  obtain ⟨cur, hc⟩ := h
  exact ⟨cur, e.trans hc⟩
theorem IsTy.setCell {w : World} {b : Nat} {T : TypeId} (h : IsTy w b T) (n o : Nat) (u : Value) : IsTy (w.setCell ⟨n, o, none⟩ u) b T := by
  obtain ⟨cur, hc⟩ := h
  by_cases e : b = n
  · subst e
    exact ⟨_, heap_setCell_same w b o cur T u hc⟩
  · exact ⟨cur, (heap_setCell_other w ⟨n, o, none⟩ b u e).trans hc⟩
theorem IsTy.lt {w : World} {b : Nat} {T : TypeId} (h : IsTy w b T) : b < w.heap.size := by
  obtain ⟨cur, hc⟩ := h
  exact (Array.getElem?_eq_some_iff.1 hc).1
theorem IsTy.ne {w : World} {b c : Nat} {T U : TypeId} (h : IsTy w b T) (k : IsTy w c U) (hne : T ≠ U) : b ≠ c := by
  rintro rfl
  obtain ⟨cur, hc⟩ := h
  obtain ⟨cur', hc'⟩ := k
  rw [hc] at hc'
  cases hc'
  exact hne rfl
theorem El.Own.ty {α : Type} {E : El α} {w : World} {B : Nat} {v : Value} {l : List α} (h : E.Own w B v l) {g : Nat} (hg : v.ownBlock = some g) : IsTy w g E.T := by
  rcases h.2 with ⟨rfl, _⟩ | ⟨g', cap, cur, rfl, _, hh, _⟩
  · cases hg
  · cases hg
    exact ⟨cur, hh⟩
theorem BoxAt.block {w w' : World} {n : Nat} {cs : List Value} (h : BoxAt w n cs) (e : w'.heap[n]? = w.heap[n]?) : BoxAt w' n cs := fun o v ho =>
  ⟨(World.cell?_of_block (w := w) (a := ⟨n, o, none⟩) e).trans (h o v ho).1, (World.frozen?_of_block (w := w) (a := ⟨n, o, none⟩) e).trans (h o v ho).2⟩
theorem El.Own.block {α : Type} {E : El α} {w w' : World} {B : Nat} {v : Value} {l : List α} (h : E.Own w B v l) (e : ∀ g, v.ownBlock = some g → w'.heap[g]? = w.heap[g]?) : E.Own w' B v l := by
  refine ⟨h.1, ?_⟩
  rcases h.2 with hn | ⟨g, cap, cur, rfl, hb, hg, rest⟩
  · exact .inl hn
  · exact .inr ⟨g, cap, cur, rfl, hb, (e g rfl).trans hg, rest⟩
/-- the region of 'v = append(v, x)', v in the cell o of the block T -/
structure ApJ {α : Type} (E : El α) (X : Nat → Prop) (w0 : World) (B T o : Nat) (x : α) (v0 : Value) (l : List α) (bp bq : Value) (lp lq lr : Bool) (w : World) : Prop where
  chg : Chg (fun k => X k ∨ k = T ∨ v0.ownBlock = some k) w0 w
  cell : w.cell? ⟨T, o, none⟩ = some (if lr then bq else v0)
  fro : w.frozen? ⟨T, o, none⟩ = false
  rest : ∀ j, j ≠ o → w.cell? ⟨T, j, none⟩ = w0.cell? ⟨T, j, none⟩ ∧ w.frozen? ⟨T, j, none⟩ = w0.frozen? ⟨T, j, none⟩
  ty : ∀ U, IsTy w0 T U → IsTy w T U
  box : lp = true → ∃ n, bp = .slice (some ⟨n, 0, none⟩) 1 1 ∧ w0.heap.size ≤ n ∧ BoxAt w n (E.cf x)
  own : E.Own w B (if lq then bq else v0) (if lq then l ++ [x] else l)
  nb : lq = true → ∀ b, bq.ownBlock = some b → v0.ownBlock = some b ∨ w0.heap.size ≤ b
section
variable {α : Type} {E : El α} {X : Nat → Prop} {w0 w w' : World} {B T o : Nat} {x : α} {v0 : Value} {l : List α} {bp bq : Value} {lp lq lr : Bool}
theorem ApJ.start (hc : w0.cell? ⟨T, o, none⟩ = some v0) (hf : w0.frozen? ⟨T, o, none⟩ = false) (ho : E.Own w0 B v0 l) : ApJ E X w0 B T o x v0 l bp bq false false false w0.drew :=
  ⟨(Chg.refl _ _).drew, hc, hf, fun _ _ => ⟨rfl, rfl⟩, fun _ h => h, fun e => (by cases e), ho, fun e => (by cases e)⟩
theorem ApJ.made (h : ApJ E X w0 B T o x v0 l bp bq false false lr w) : ApJ E X w0 B T o x v0 l (.slice (some ⟨w.heap.size, 0, none⟩) 1 1) bq true false lr (w.alloc (.cells (E.cf x).toArray E.T)) := by
  have hb : Below w.heap.size w (w.alloc (.cells (E.cf x).toArray E.T)) := (Below.refl _ _).alloc (Nat.le_refl _) _
  have hT : T < w.heap.size := World.block_lt_of_cell? _ _ h.cell
  refine ⟨h.chg.alloc _, cell_later hb h.cell, (hb.frozen (p := ⟨T, o, none⟩) hT).trans h.fro, fun j hj => ?_, fun U hU => (h.ty U hU).block (hb.block _ hT), fun _ => ⟨_, rfl, h.chg.size, BoxAt.new _ _ _⟩, El.Own.later h.own hb, fun e => (by cases e)⟩
  exact ⟨(hb.cell (p := ⟨T, j, none⟩) hT).trans (h.rest j hj).1, (hb.frozen (p := ⟨T, j, none⟩) hT).trans (h.rest j hj).2⟩
theorem ApJ.app {v' : Value} (hv : v0.ownBlock ≠ some T) (h : ApJ E X w0 B T o x v0 l bp bq true false false w) (ho : E.Own w' B v' (l ++ [x])) (hg : w.grownBy w' v0.ownBlock) (hn : ∀ b, v'.ownBlock = some b → v0.ownBlock = some b ∨ w.heap.size ≤ b) (hlt : ∀ b, v0.ownBlock = some b → b < w0.heap.size) :
    ApJ E X w0 B T o x v0 l bp v' true true false w' := by
  have hT : T < w.heap.size := World.block_lt_of_cell? _ _ h.cell
  have hTb : w'.heap[T]? = w.heap[T]? := hg.block T hT (fun e => hv e.symm)
  refine ⟨h.chg.grown hg fun k hk _ => .inr (.inr hk), (World.cell?_of_block (w := w) (a := ⟨T, o, none⟩) hTb).trans h.cell, (World.frozen?_of_block (w := w) (a := ⟨T, o, none⟩) hTb).trans h.fro, fun j hj => ?_, fun U hU => (h.ty U hU).block hTb, fun e => ?_, ho, fun _ b hb => ?_⟩
  · exact ⟨(World.cell?_of_block (w := w) (a := ⟨T, j, none⟩) hTb).trans (h.rest j hj).1, (World.frozen?_of_block (w := w) (a := ⟨T, j, none⟩) hTb).trans (h.rest j hj).2⟩
  · obtain ⟨n, e, hlt', hbx⟩ := h.box rfl
    refine ⟨n, e, hlt', hbx.grown' hg fun e2 => ?_⟩
    have := hlt n e2
    omega
  · rcases hn b hb with h1 | h1
    · exact .inl h1
    · exact .inr (Nat.le_trans h.chg.size h1)
theorem ApJ.stored (hv : v0.ownBlock ≠ some T) (hT0 : T < w0.heap.size) (h : ApJ E X w0 B T o x v0 l bp bq true true false w) : ApJ E X w0 B T o x v0 l bp bq true true true (w.setCell ⟨T, o, none⟩ bq) := by
  have hbq : bq.ownBlock ≠ some T := fun e => by
    rcases h.nb rfl T e with h1 | h1
    · exact hv h1
    · omega
  refine ⟨h.chg.setCell (p := ⟨T, o, none⟩) (fun _ => .inr (.inl rfl)) _, World.cell?_setCell_same _ _ _ h.cell, by rw [World.frozen?_setCell]; exact h.fro, fun j hj => ?_, fun U hU => (h.ty U hU).setCell _ _ _, fun e => ?_, ?_, h.nb⟩
  · refine ⟨?_, by rw [World.frozen?_setCell]; exact (h.rest j hj).2⟩
    rw [World.cell?_setCell_other _ _ _ _ (by intro e; exact hj (congrArg Addr.off e).symm)]
    exact (h.rest j hj).1
  · obtain ⟨n, e, hlt, hbx⟩ := h.box rfl
    refine ⟨n, e, hlt, hbx.block (heap_setCell_other w ⟨T, o, none⟩ n bq ?_)⟩
    show ¬ n = T
    omega
  · exact El.Own.block h.own fun g hg => heap_setCell_other w ⟨T, o, none⟩ g bq (by intro e; exact hbq (hg.trans (congrArg some e)))
end
theorem ApJ.other {α : Type} {E : El α} {X : Nat → Prop} {w0 w w' : World} {B T o M : Nat} {x : α} {v0 : Value} {l : List α} {bp bq : Value} {lp lq lr : Bool} (hX : X M) (hM : M < w0.heap.size) (hMT : M ≠ T) (hvM : v0.ownBlock ≠ some M) (hg : w.grownBy w' (some M)) (h : ApJ E X w0 B T o x v0 l bp bq lp lq lr w) : ApJ E X w0 B T o x v0 l bp bq lp lq lr w' := by
  have hT : T < w.heap.size := World.block_lt_of_cell? _ _ h.cell
  have hTb : w'.heap[T]? = w.heap[T]? := hg.block T hT (fun e => hMT (Option.some.inj e).symm)
  refine ⟨h.chg.grown hg fun k hk _ => .inl ((Option.some.inj hk).symm ▸ hX), (World.cell?_of_block (w := w) (a := ⟨T, o, none⟩) hTb).trans h.cell, (World.frozen?_of_block (w := w) (a := ⟨T, o, none⟩) hTb).trans h.fro, fun j hj => ?_, fun U hU => (h.ty U hU).block hTb, fun e => ?_, ?_, h.nb⟩
  · exact ⟨(World.cell?_of_block (w := w) (a := ⟨T, j, none⟩) hTb).trans (h.rest j hj).1, (World.frozen?_of_block (w := w) (a := ⟨T, j, none⟩) hTb).trans (h.rest j hj).2⟩
  · obtain ⟨n, e, hlt', hbx⟩ := h.box e
    exact ⟨n, e, hlt', hbx.grown' hg fun e2 => by have := Option.some.inj e2; omega⟩
  · refine World.ownsRow.kept h.own hg ?_
    cases e : (if lq = true then bq else v0).ownBlock with
    | none => exact .inl rfl
    | some k =>
      refine .inr fun e' => ?_
      have hk := Option.some.inj e'
      subst hk
      cases lq with
      | false => exact hvM e
      | true =>
        rcases h.nb rfl k e with h1 | h1
        · exact hvM h1
        · omega
theorem El.one_at {α : Type} {E : El α} {w : World} {n : Nat} {x : α} (h : BoxAt w n (E.cf x)) : E.At w (some ⟨n, 0, none⟩) [x] := fun j u hu => by
  refine ⟨n, 0, rfl, ?_⟩
  rw [Nat.zero_add]
  exact (h j u (by simpa using hu)).1
theorem El.Own.shape {α : Type} {E : El α} {w : World} {B : Nat} {v : Value} {l : List α} (h : E.Own w B v l) : ∃ oa n c, v = .slice oa n c := by
  obtain ⟨a, c, e, _⟩ := h.at
  exact ⟨a, l.length, c, e⟩
theorem El.Own.lt {α : Type} {E : El α} {w : World} {B : Nat} {v : Value} {l : List α} (h : E.Own w B v l) : ∀ b, v.ownBlock = some b → B ≤ b ∧ b < w.heap.size := World.ownsRow.lt h
/-- holds by pointers -/
structure HoldsB (w : World) (S : Nat) (L : List (HA × Nat)) : Prop where
  blk : ∀ x ∈ L, S ≤ x.2 ∧ IsTy w x.2 31 ∧ BoxAt w x.2 (haC x.1)
set_option maxRecDepth 100000 in
set_option maxHeartbeats 4000000 in
theorem alld_any (L : List (HA × Nat)) (R T S : Nat) (v : Value) (u : FrameMode) (w : World) (hL : L.length ≤ 100000) (hR : w.cell? ⟨R, 0, none⟩ = some (.slice none 0 0)) (hfR : w.frozen? ⟨R, 0, none⟩ = false) (hT : w.cell? ⟨T, 0, none⟩ = some v) (hRS : R < S)
    (hv : EP.Own w S v (L.map (·.2))) (hB : HoldsB w S L) :
    CallsD Try.prog 22 #[.pointer (some ⟨T, 0, none⟩), .pointer (some ⟨R, 0, none⟩)] u w fun e u' w' => u' = u ∧ (e = .returned (.tuple #[]) ∧ ∃ v', w'.cell? ⟨R, 0, none⟩ = some v' ∧ EH.Own w' w.heap.size v' (L.map (·.1)) ∧ Chg (fun k => k = R) w w') := by
  go_enter_d Try.func22, Try.ntmps22
  obtain ⟨a, c, rfl, hc1, hc2, hat, hwhere⟩ := hv.at
  rw [List.length_map] at hT
  obtain ⟨n, hn⟩ : ∃ n, n = L.length := ⟨_, rfl⟩
  have HN := Lib.hid hn
  have HAT := Lib.hid hat
  have HWH := Lib.hid hwhere
  have HB := Lib.hid hB
  rw [← hn] at hT hL
  have hRl : R < w.heap.size := World.block_lt_of_cell? _ _ hR
  clear hn hat hwhere hv hB hc1 hc2
  go_wp2_with fail
  go_loopg [6] (n + 1) (fun k v6 wr => ∃ (i : Nat) (v4 : Value), i ≤ n ∧ k + i = n + 1 ∧ v6 = .int .i64 i ∧ wr.cell? ⟨R, 0, none⟩ = some v4 ∧ wr.frozen? ⟨R, 0, none⟩ = false ∧ EH.Own wr w.heap.size v4 ((L.map (·.1)).take i) ∧ Chg (fun k => k = R) w wr)
  case atStart => exact ⟨0, .slice none 0 0, by omega, by omega, rfl, hR, hfR, El.Own.nil _ _ _, Chg.refl _ _⟩
  case round =>
    obtain ⟨i, v4, hi, hki, rfl, hc4, hf4, ho4, hch⟩ := hrel
    have HO4 := Lib.hid ho4
    have HCH := Lib.hid hch
    by_cases hlt : i < n
    · have hiL : i < L.length := by have := HN.out; omega
      have hab : ∃ g, a = some ⟨g, 0, none⟩ ∧ S ≤ g := by
        rcases HWH.out with ⟨_, _, e⟩ | ⟨g, e, h1, _⟩
        · have h0 : (L.map (·.2)).length = 0 := by rw [e]; rfl
          rw [List.length_map] at h0
          omega
        · exact ⟨g, e, h1⟩
      obtain ⟨g, rfl, hg⟩ := hab
      have hp : w.cell? ⟨g, 0 + i, none⟩ = some (.pointer (some ⟨L[i].2, 0, none⟩)) := by
        have := HAT.out.range (k := i) (by simpa using hiL) 0 _ rfl
        rw [show EP.S = 1 from rfl, Nat.mul_one] at this
        simpa using this
      rw [Nat.zero_add] at hp
      have hpr := hch.cell hp (by show ¬ g = R; omega)
      obtain ⟨hb1, hb2, hb3⟩ := HB.out.blk _ (List.getElem_mem hiL)
      have htk : (L.map (·.1)).take (i + 1) = (L.map (·.1)).take i ++ [L[i].1] := by
        rw [List.take_succ_eq_append_getElem (by simpa using hiL)]
        simp
      have HTK := Lib.hid htk
      obtain ⟨x, hx⟩ : ∃ x, x = L[i].1 := ⟨_, rfl⟩
      obtain ⟨b, hbe⟩ : ∃ b, b = L[i].2 := ⟨_, rfl⟩
      rw [← hbe] at hpr hb1 hb2 hb3
      rw [← hx] at hb3
      have HX := Lib.hid hx
      have hblt := hb2.lt
      have hbne : ¬ b = R := by omega
      have k0 := hch.cell (hb3 0 _ rfl).1 hbne
      have k1 := hch.cell (hb3 1 _ rfl).1 hbne
      have k2 := hch.cell (hb3 2 _ rfl).1 hbne
      have k3 := hch.cell (hb3 3 _ rfl).1 hbne
      have n1 : (i : Int) < (n : Int) := by omega
      have n0 : (0 : Int) ≤ (i : Int) := by omega
      have hwlt : ∀ b, v4.ownBlock = some b → w.heap.size ≤ b ∧ b < wr.heap.size := ho4.lt
      have hvR : v4.ownBlock ≠ some R := fun e => by have := (hwlt R e).1; omega
      have hvb : ¬ (False ∨ b = R ∨ v4.ownBlock = some b) := fun e => by
        rcases e with e | e | e
        · exact e
        · exact hbne e
        · have := (hwlt b e).1; omega
      have HWL := Lib.hid hwlt
      have HVR := Lib.hid hvR
      have HVB := Lib.hid hvb
      have hR0 : R < wr.heap.size := World.block_lt_of_cell? _ _ hc4
      have hsz := hch.size
      have HST := Lib.hid (ApJ.start (E := EH) (X := fun _ => False) (x := x) (bp := undef) (bq := undef) hc4 hf4 ho4)
      obtain ⟨l, hl⟩ : ∃ l, l = (L.map (·.1)).take i := ⟨_, rfl⟩
      have hll : l.length ≤ 100000 := by rw [hl, List.length_take]; omega
      rw [← hl] at HST HTK
      have HL1 := Lib.hid hl
      clear htk hp hx hbe hb1 hb2 hb3 hch ho4 hwlt hvR hvb hl
      go_wp2_with fail
      refine wp_flow_j (fun β L' w' => ApJ EH (fun _ => False) wr w.heap.size R 0 x v4 l (β 4) (β 5) (L' 4) (L' 5) (L' 6) w') (by kernel_rfl) (by kernel_rfl) ?h0 ?_
      case h0 => exact HST.out
      ((with_reducible refine FlowJ.pure (v := ?_) ?_ ?_ ?_ ?_); rotate_left 1; (focus (intro _; rfl)); (focus (intro β L' w' hJ hat; (try dsimp only at hJ); (try dsimp only); simpa only [setL, Nat.reduceEqDiff, if_false] using hJ)); (focus (intro β L' w' hJ hat; (try dsimp only at hJ); ((have n6 := hat.not (j := 6) (by kernel_rfl)); have yc := hJ.cell; simp only [n6, Bool.false_eq_true, if_false] at yc); go_simp; (try with_reducible rfl); done)); (try simp only [Act.put, List.setIfInBounds_toArray, List.set_cons_zero, List.set_cons_succ, Nat.reduceAdd]))
      iterate 3 (((with_reducible refine FlowJ.pure (v := ?_) ?_ ?_ ?_ ?_); rotate_left 1; (focus (intro _; rfl)); (focus (intro β L' w' hJ hat; (try dsimp only at hJ); (try dsimp only); simpa only [setL, Nat.reduceEqDiff, if_false] using hJ)); (focus (intro β L' w' hJ hat; (try dsimp only at hJ); (have y0 := hJ.chg.cell k0 HVB.out; have y1 := hJ.chg.cell k1 HVB.out; have y2 := hJ.chg.cell k2 HVB.out; have y3 := hJ.chg.cell k3 HVB.out); go_simp; (try with_reducible rfl); done)); (try simp only [Act.put, List.setIfInBounds_toArray, List.set_cons_zero, List.set_cons_succ, Nat.reduceAdd])))
      ((with_reducible refine FlowJ.ghost ?_ ?_ ?_); (focus (intro _; rfl)); (focus (intro β L' w' hJ hat K' hK; (try dsimp only at hJ); ((have n5 := hat.not (j := 5) (by kernel_rfl)); (have n6 := hat.not (j := 6) (by kernel_rfl)); have un := hat.un; simp only [un, n5, n6] at hJ; go_simp; refine hK.out _ _ ?_; simp only [updG, setL, Nat.reduceEqDiff, if_true, if_false, n5, n6]; exact hJ.made))); (try simp only [Act.put, List.setIfInBounds_toArray, List.set_cons_zero, List.set_cons_succ, Nat.reduceAdd]))
      ((with_reducible refine FlowJ.ghost ?_ ?_ ?_); (focus (intro _; rfl)); (focus (intro β L' w' hJ hat K' hK; (try dsimp only at hJ); ((have p4 := hat.pre 4 (by kernel_rfl)); (have n6 := hat.not (j := 6) (by kernel_rfl)); have un := hat.un; simp only [un, p4, n6] at hJ; obtain ⟨nb, eb, hnb, hbx⟩ := hJ.box rfl; obtain ⟨v', w2, hr, ho, hg, hn⟩ := El.app (E := EH) w' w.heap.size v4 l [x] hJ.own (some ⟨nb, 0, none⟩) 1 (El.one_at hbx) (by simp; omega) (by have := hJ.chg.size; omega) 26; refine wp_app_eq (.tmp 10) (.tmp 14) 26 rfl _ _ rfl (by show β 4 = _; exact eb) hr ?_; refine hK.out _ _ ?_; simp only [updG, setL, Nat.reduceEqDiff, if_true, if_false, p4, n6]; exact hJ.app HVR.out ho hg hn (fun b hb => (HWL.out b hb).2)))); (try simp only [Act.put, List.setIfInBounds_toArray, List.set_cons_zero, List.set_cons_succ, Nat.reduceAdd]))
      ((with_reducible refine FlowJ.eff ?_ ?_ ?_); (focus (intro _; rfl)); (focus (intro β L' w' hJ hat K' hK; (try dsimp only at hJ); ((have p5 := hat.pre 5 (by kernel_rfl)); have p4 := hat.down 5 4 p5 (by decide) (by kernel_rfl); have un := hat.un; simp only [un, p4, p5] at hJ; have yc := hJ.cell; have yf := hJ.fro; simp only [Bool.false_eq_true, if_false] at yc; obtain ⟨oa, na, ca, e5⟩ := hJ.own.shape; simp only [if_true] at e5; go_simp; rw [← e5]; refine hK.out _ ?_; simp only [setL, Nat.reduceEqDiff, if_true, if_false, p4, p5]; exact hJ.stored HVR.out hR0))); (try simp only [Act.put, Nat.reduceAdd]))
      refine FlowJ.stop ?_
      dsimp only
      intro β w5 hJ
      have HJ := Lib.hid hJ
      clear hJ k0 k1 k2 k3 hpr hc4 hf4 n1 n0
      go_wp2_with fail
      go_roundg (n - i)
      case measure => omega
      case rel =>
        refine ⟨i + 1, β 5, by omega, by omega, by go_num, HJ.out.cell, HJ.out.fro, ?_, HCH.out.trans' HJ.out.chg fun k hk hs => ?_⟩
        · rw [HTK.out, ← HX.out]
          exact HJ.out.own
        · rcases hs with h | h | h
          · exact h.elim
          · exact h
          · have := (HWL.out k h).1
            omega
    · obtain rfl : i = n := by omega
      have HO := Lib.hid (show EH.Own wr w.heap.size v4 (L.map (·.1)) from by
        have := HO4.out
        rwa [List.take_of_length_le (by rw [List.length_map, HN.out]; exact Nat.le_refl _)] at this)
      clear ho4 hch
      go_wp2_with fail
      refine ⟨rfl, .tuple #[], ?_, rfl, v4, hc4, HO.out, HCH.out⟩
      exact results_none rfl _ _ _
end Go.Proofs.Ytgoomcnaemfjcaa
