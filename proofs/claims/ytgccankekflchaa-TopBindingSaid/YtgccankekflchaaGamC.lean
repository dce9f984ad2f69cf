


/- Package game: set. -/
import Derived.Test.YtgccankekflchaaGamB
import Derived.Laws.MakeOwn
import Derived.Deep.CutRange
import Derived.Deep.LoopGhost
import Derived.Deep.Light
namespace Go.Proofs.Ytgccankekflchaa
open Go.RowKit

theorem chg_setCells {S : Nat → Prop} {a w : World} (h : Chg S a w) (n k : Nat) (vs : List Value) (hn : n < a.heap.size → S n) : Chg S a (w.setCells n k vs) := by
  induction vs generalizing k w with
  | nil => exact h
  | cons v vs ih => exact ih (h.setCell (p := ⟨n, k, none⟩) hn v) (k + 1)
theorem box_range {w : World} {X : Nat} {cs : List Value} (h : BoxAt w X cs) : w.rangeAt X 0 cs := fun j v hv => by rw [Nat.zero_add]; exact (h j v hv).1
theorem exec_load_mid {P : Program} {op : Oper} {eval : Operand → Value} {w : World} (ty : TypeId) (x : Operand) (ho : op.op = .load ty x) (b o : Nat) (hx : eval x = .pointer (some ⟨b, o, none⟩)) (cs : List Value) (d : TypeDesc) (hc : w.rangeAt b o cs)
    (hu : P.underlying ty = some d) (hd : d.isRow = true) (hi : (P.info? ty).map (·.size) = some cs.length) : (execOp eval op).run P w = .ok (.value (.agg cs.toArray)) w := by
  unfold execOp
  simp only [ho, hx, Instr.loadAt, Instr.sureAddr, Sem.run_bind, Sem.run_pure, Result.andThen_ok, run_loadVar_mid w b o ty cs d hc hu hd hi]
theorem box_there {w : World} {b : Nat} {cs : List Value} {n : Nat} (h : BoxAt w b cs) (hn : cs.length = n) : w.there b 0 n := fun j hj => by
  have hj' : j < cs.length := by omega
  obtain ⟨h1, h2⟩ := h j _ (List.getElem?_eq_getElem hj')
  rw [Nat.zero_add, h1]
  exact ⟨rfl, h2⟩
/-- copy of numbers into the cells of a block -/
theorem run_copy_intsG {dT sT ty : TypeId} (hu : Try.prog.underlying dT = some (.slice 3)) {w : World} {B o dLen dCap sCap : Nat} {sa : Option Addr} {l : List Int} (hI : Ints w sa l) (hl : l.length ≤ dLen)
    (hc : ∀ j, j < l.length → (w.cell? ⟨B, o + j, none⟩).isSome = true) (hf : ∀ j, j < l.length → w.frozen? ⟨B, o + j, none⟩ = false) :
    (Builtin.copy_ #[dT, sT] ty #[.slice (some ⟨B, o, none⟩) dLen dCap, .slice sa l.length sCap]).run Try.prog w = .ok (.int .i64 l.length) (w.setCells B o (l.map (Value.int .i64))) := by
  have hs : (Try.prog.info? 3).map (·.size) = some 1 := by kernel_rfl
  by_cases h0 : l.length = 0
  · obtain rfl : l = [] := List.eq_nil_of_length_eq_zero h0
    exact run_copy_none w dT sT ty 3 _ _ _ _ _ _ hu hs (by simp)
  · obtain ⟨b, off, rfl, fc⟩ := hI.fam (by omega)
    have := run_copy_cells (P := Try.prog) w dT sT ty 3 B o dLen dCap ⟨b, off, none⟩ l.length sCap (l.map (Value.int .i64)) hu hs (by rw [List.length_map]; exact (Nat.min_eq_left hl).symm) (fun j v hj => ?_) (by simpa using hc) (by simpa using hf) (by simp [Value.oneCell'])
    · simpa [goInt] using this
    · have hj' : j < l.length := by
        rcases Nat.lt_or_ge j l.length with h | h
        · exact h
        · rw [List.getElem?_eq_none (by simpa using h)] at hj; cases hj
      rw [List.getElem?_map, List.getElem?_eq_getElem hj'] at hj
      simp at hj
      subst hj
      have e : (Addr.add ⟨b, off, none⟩ j) = ⟨b, off + j, none⟩ := by
        unfold Addr.add
        by_cases hz : j = 0
        · subst hz; rw [if_pos rfl]; rfl
        · rw [if_neg hz]
      rw [e, fc j hj', ig_lt hj']
theorem results_set {P : Program} {fn : Func} {a b c : Nat} {t u : TypeId} (h : fn.results = #[.cell a t, .cell b u, .tmp c]) {tmps : Array Value} {p q : Addr} (hp : tmps.getD a undef = .pointer (some p)) (hq : tmps.getD b undef = .pointer (some q)) {v1 v2 : Value} {w : World} (h1 : (loadVar t p).run P w = .ok v1 w) (h2 : (loadVar u q).run P w = .ok v2 w) :
    (results fn tmps).run P w = .ok (.tuple #[v1, v2, tmps.getD c undef]) w := by
  unfold results
  rw [h]
  simp only [hp, hq, asAddr, Array.mapM_eq_mapM_toList, List.mapM_cons, List.mapM_nil]
  simp [h1, h2]
theorem set_world {w1 : World} {B B1 S1 : Nat} {b b' s s' : List Value} (hB : BoxAt w1 B1 b) (hS : BoxAt w1 S1 s) (hl : b'.length = b.length) (hl2 : s'.length = s.length) (hne : B1 ≠ S1) (hlo : B ≤ B1 ∧ B ≤ S1) :
    ∃ w', w' = (w1.setCells B1 0 b').setCells S1 0 s' ∧ BoxAt w' B1 b' ∧ BoxAt w' S1 s' ∧ Below B w1 w' :=
  ⟨_, rfl, (hB.stored hl).other hne, (hS.other (fun e => hne e.symm)).stored hl2, below_setCells _ _ _ _ (below_setCells _ _ _ _ (Below.refl _ _) hlo.1) hlo.2⟩
theorem range4 {w : World} {b : Nat} {v0 v1 v2 v3 : Value} (h : BoxAt w b [v0, v1, v2, v3]) : w.rangeAt b 0 [v0, v1, v2, v3] := fun j v hv => by
  have := (h j v hv).1
  rw [Nat.zero_add]
  exact this
/-- the starts are copied in -/
theorem box_copied {w : World} {b : Nat} {t u : Int} {f0 f1 f2 f3 f4 f5 : Bool} {l : List Int} (h : BoxAt w b (st14 t 0 0 0 0 0 0 f0 f1 f2 f3 f4 f5 u)) (hl : l.length ≤ 6) :
    BoxAt (w.setCells b 1 (l.map (Value.int .i64))) b (st14 t (ig l 0) (ig l 1) (ig l 2) (ig l 3) (ig l 4) (ig l 5) f0 f1 f2 f3 f4 f5 u) := by
  have hs : ∀ j, j < (l.map (Value.int .i64)).length → (w.cell? ⟨b, 1 + j, none⟩).isSome = true := fun j hj => by
    rw [List.length_map] at hj
    have hj6 : j < 6 := by omega
    have := (h (1 + j) ((st14 t 0 0 0 0 0 0 f0 f1 f2 f3 f4 f5 u)[1 + j]'(by simp [st14]; omega)) (List.getElem?_eq_getElem _)).1
    rw [this]
    rfl
  have out : ∀ o v, (o = 0 ∨ 7 ≤ o) → (st14 t 0 0 0 0 0 0 f0 f1 f2 f3 f4 f5 u)[o]? = some v → (w.setCells b 1 (l.map (Value.int .i64))).cell? ⟨b, o, none⟩ = some v := fun o v ho hv => by
    rw [World.cell?_setCells_out _ _ _ _ _ (fun _ _ => by rw [List.length_map]; show o < 1 ∨ 1 + l.length ≤ o; omega)]
    exact (h o v hv).1
  have inn : ∀ j, j < 6 → (w.setCells b 1 (l.map (Value.int .i64))).cell? ⟨b, 1 + j, none⟩ = some (.int .i64 (ig l j)) := fun j hj => by
    by_cases e : j < l.length
    · have := World.cell?_setCells_in b (l.map (Value.int .i64)) 1 w hs j (by rw [List.length_map]; exact e)
      rw [this, List.getElem_map, ig_lt e]
    · rw [World.cell?_setCells_out _ _ _ _ _ (fun _ _ => by rw [List.length_map]; show 1 + j < 1 ∨ 1 + l.length ≤ 1 + j; omega)]
      have hz : ig l j = 0 := by simp [ig, List.getD_eq_getElem?_getD, List.getElem?_eq_none (show l.length ≤ j by omega)]
      rw [hz]
      have : j = 0 ∨ j = 1 ∨ j = 2 ∨ j = 3 ∨ j = 4 ∨ j = 5 := by omega
      rcases this with rfl | rfl | rfl | rfl | rfl | rfl
      · exact (h 1 _ rfl).1
      · exact (h 2 _ rfl).1
      · exact (h 3 _ rfl).1
      · exact (h 4 _ rfl).1
      · exact (h 5 _ rfl).1
      · exact (h 6 _ rfl).1
  intro o v hv
  have hfz : ∀ o, o < 14 → (w.setCells b 1 (l.map (Value.int .i64))).frozen? ⟨b, o, none⟩ = false := fun o ho => by
    rw [World.frozen?_setCells]
    exact (h o ((st14 t 0 0 0 0 0 0 f0 f1 f2 f3 f4 f5 u)[o]'(by simp [st14]; omega)) (List.getElem?_eq_getElem _)).2
  match o, hv with
  | 0, hv => cases hv; exact ⟨out 0 _ (by omega) rfl, hfz 0 (by omega)⟩
  | 1, hv => cases hv; exact ⟨inn 0 (by omega), hfz 1 (by omega)⟩
  | 2, hv => cases hv; exact ⟨inn 1 (by omega), hfz 2 (by omega)⟩
  | 3, hv => cases hv; exact ⟨inn 2 (by omega), hfz 3 (by omega)⟩
  | 4, hv => cases hv; exact ⟨inn 3 (by omega), hfz 4 (by omega)⟩
  | 5, hv => cases hv; exact ⟨inn 4 (by omega), hfz 5 (by omega)⟩
  | 6, hv => cases hv; exact ⟨inn 5 (by omega), hfz 6 (by omega)⟩
  | 7, hv => cases hv; exact ⟨out 7 _ (by omega) rfl, hfz 7 (by omega)⟩
  | 8, hv => cases hv; exact ⟨out 8 _ (by omega) rfl, hfz 8 (by omega)⟩
  | 9, hv => cases hv; exact ⟨out 9 _ (by omega) rfl, hfz 9 (by omega)⟩
  | 10, hv => cases hv; exact ⟨out 10 _ (by omega) rfl, hfz 10 (by omega)⟩
  | 11, hv => cases hv; exact ⟨out 11 _ (by omega) rfl, hfz 11 (by omega)⟩
  | 12, hv => cases hv; exact ⟨out 12 _ (by omega) rfl, hfz 12 (by omega)⟩
  | 13, hv => cases hv; exact ⟨out 13 _ (by omega) rfl, hfz 13 (by omega)⟩
  | o + 14, hv => simp [st14] at hv
/-- the size of a game -/
def szG (g : Gm) : Nat → Int
  | 0 => max 1 (g.deps.length : Int) * (g.budget + 1)
  | i + 1 => szG g i * (2 * (ig g.starts i + 1))
theorem szG_in {g : Gm} (hv : VG g) : ∀ i, i ≤ g.starts.length → 1 ≤ szG g i ∧ szG g i ≤ 48 * 26 ^ i
  | 0, _ => by
    obtain ⟨_, h2, h3, h4, _⟩ := hv
    unfold szG
    have hd : (g.deps.length : Int) ≤ 12 := by omega
    have a1 : 1 ≤ max 1 (g.deps.length : Int) := by omega
    have a2 : max 1 (g.deps.length : Int) ≤ 12 := by omega
    have m1 := Int.mul_le_mul a1 (show 1 ≤ g.budget + 1 by omega) (by omega) (by omega)
    have m2 := Int.mul_le_mul a2 (show g.budget + 1 ≤ 4 by omega) (by omega) (by omega)
    omega
  | i + 1, hi => by
    obtain ⟨i1, i2⟩ := szG_in hv i (by omega)
    have hs := hv.2.2.2.2.1 i (by omega)
    unfold szG
    have m1 := Int.mul_le_mul i1 (show 1 ≤ 2 * (ig g.starts i + 1) by omega) (by omega) (by omega)
    have m2 := Int.mul_le_mul i2 (show 2 * (ig g.starts i + 1) ≤ 26 by omega) (by omega) (by omega)
    have e : (48 * 26 ^ (i + 1) : Int) = 48 * 26 ^ i * 26 := by rw [Int.pow_succ, Int.mul_assoc]
    rw [e]
    omega
/-- a small game -/
def SmG (g : Gm) : Prop := szG g g.starts.length ≤ 200000
theorem pow26 {i : Nat} (h : i ≤ 6) : (26 : Int) ^ i ≤ 308915776 := by
  have : i = 0 ∨ i = 1 ∨ i = 2 ∨ i = 3 ∨ i = 4 ∨ i = 5 ∨ i = 6 := by omega
  rcases this with rfl | rfl | rfl | rfl | rfl | rfl | rfl <;> decide
/-- what set answers -/
def bdV (g : Gm) (sa : Option Addr) (sc : Nat) (da : Option Addr) (dc : Nat) (M : Nat) : Value := .agg #[.slice sa g.starts.length sc, .slice da g.deps.length dc, .int .i64 g.budget, .map (some M)]
abbrev bd0 : Value := .agg #[.slice none 0 0, .slice none 0 0, .int .i64 0, .map none]
abbrev st0 : Value := .agg (st14 0 0 0 0 0 0 0 false false false false false false 0).toArray
def SetTo (g : Gm) (sa : Option Addr) (sc : Nat) (da : Option Addr) (dc : Nat) (w : World) (e : Ending) (w' : World) : Prop := Below w.heap.size w w' ∧
  ((¬ VG g ∧ e = .returned (.tuple #[bd0, st0, .int .i64 1])) ∨ (VG g ∧ ¬ SmG g ∧ e = .returned (.tuple #[bd0, st0, .int .i64 7])) ∨
    (VG g ∧ SmG g ∧ ∃ M, w.heap.size ≤ M ∧ e = .returned (.tuple #[bdV g sa sc da dc M, stV (beginS g), .int .i64 0]) ∧ MapIs Try.prog 47 w' M 0 (fun _ => none)))
theorem box_chg {w w' : World} {S : Nat → Prop} {n : Nat} {cs : List Value} (h : BoxAt w n cs) (hc : Chg S w w') (hn : ¬ S n) (hl : n < w.heap.size) : BoxAt w' n cs := fun o v ho => by
  obtain ⟨h1, h2⟩ := h o v ho
  exact ⟨hc.cell h1 hn, (hc.frozen hl hn).trans h2⟩
structure J13 (w0 : World) (B P T B1 S1 : Nat) (pcs scs bz sz : List Value) (x0 x1 x2 : Value) (β : Nat → Value) (l1 l4 l5 : Bool) (w : World) : Prop where
  bl : Below B w0 w
  p : BoxAt w P pcs
  t : BoxAt w T scs
  b : BoxAt w B1 (if l4 then [x0, x1, x2, β 1] else bz)
  s : BoxAt w S1 (if l5 then scs else sz)
  m : l1 = true → ∃ M, β 1 = .map (some M) ∧ B ≤ M ∧ M ≠ B1 ∧ M ≠ S1 ∧ MapIs Try.prog 47 w M 0 (fun _ => none)
  lt : P < w.heap.size ∧ T < w.heap.size ∧ B1 < w.heap.size ∧ S1 < w.heap.size ∧ B ≤ B1 ∧ B ≤ S1
  ne : P ≠ B1 ∧ P ≠ S1 ∧ T ≠ B1 ∧ T ≠ S1 ∧ B1 ≠ S1
section
variable {w0 w w' : World} {B P T B1 S1 : Nat} {pcs scs bz sz : List Value} {x0 x1 x2 : Value} {β : Nat → Value} {l1 l4 l5 : Bool}
theorem J13.same (h : J13 w0 B P T B1 S1 pcs scs bz sz x0 x1 x2 β l1 l4 l5 w) (hb : Below w.heap.size w w') : J13 w0 B P T B1 S1 pcs scs bz sz x0 x1 x2 β l1 l4 l5 w' := by
  obtain ⟨a1, a2, a3, a4, a5, a6⟩ := h.lt
  have hs := hb.size
  refine ⟨h.bl.trans (hb.mono (by omega)), h.p.later hb, h.t.later hb, h.b.later hb, h.s.later hb, fun e => ?_, by omega, h.ne⟩
  obtain ⟨M, b1, b2, b3, b4, b5⟩ := h.m e
  exact ⟨M, b1, b2, b3, b4, b5.later hb⟩
theorem J13.drew (h : J13 w0 B P T B1 S1 pcs scs bz sz x0 x1 x2 β l1 l4 l5 w) : J13 w0 B P T B1 S1 pcs scs bz sz x0 x1 x2 β l1 l4 l5 w.drew := h.same (Below.refl _ _).drew
theorem J13.make (h : J13 w0 B P T B1 S1 pcs scs bz sz x0 x1 x2 β false false l5 w) : J13 w0 B P T B1 S1 pcs scs bz sz x0 x1 x2 (updG β 1 (.map (some w.heap.size))) true false l5 (w.alloc (.map #[] 0)) := by
  have hb : Below w.heap.size w (w.alloc (.map #[] 0)) := (Below.refl _ _).alloc (Nat.le_refl _) _
  obtain ⟨a1, a2, a3, a4, a5, a6⟩ := h.lt
  have hs := hb.size
  exact ⟨h.bl.trans (hb.mono (by omega)), h.p.later hb, h.t.later hb, h.b.later hb, h.s.later hb, fun _ => ⟨_, updG_at _ _ _, by omega, by omega, by omega, MapIs.made _ _ _⟩, by omega, h.ne⟩
theorem J13.storeB (h : J13 w0 B P T B1 S1 pcs scs bz sz x0 x1 x2 β true false l5 w) (hl : bz.length = 4) : J13 w0 B P T B1 S1 pcs scs bz sz x0 x1 x2 β true true l5 (w.setCells B1 0 [x0, x1, x2, β 1]) := by
  have hc : Chg (fun j => j = B1) w (w.setCells B1 0 [x0, x1, x2, β 1]) := chg_setCells (S := fun j => j = B1) (Chg.refl _ w) B1 0 _ (fun _ => rfl)
  obtain ⟨a1, a2, a3, a4, a5, a6⟩ := h.lt
  obtain ⟨e1, e2, e3, e4, e5⟩ := h.ne
  have hs := hc.size
  refine ⟨h.bl.trans (hc.below (by omega) fun j e => by rw [e]; exact a5), box_chg h.p hc e1 a1, box_chg h.t hc e3 a2, BoxAt.stored h.b hl.symm, box_chg h.s hc (fun e => e5 e.symm) a4, fun e => ?_, by omega, h.ne⟩
  obtain ⟨M, b1, b2, b3, b4, b5⟩ := h.m e
  exact ⟨M, b1, b2, b3, b4, hc.map b5 b3⟩
theorem J13.storeS (h : J13 w0 B P T B1 S1 pcs scs bz sz x0 x1 x2 β l1 l4 false w) (hl : scs.length = sz.length) : J13 w0 B P T B1 S1 pcs scs bz sz x0 x1 x2 β l1 l4 true (w.setCells S1 0 scs) := by
  have hc : Chg (fun j => j = S1) w (w.setCells S1 0 scs) := chg_setCells (S := fun j => j = S1) (Chg.refl _ w) S1 0 _ (fun _ => rfl)
  obtain ⟨a1, a2, a3, a4, a5, a6⟩ := h.lt
  obtain ⟨e1, e2, e3, e4, e5⟩ := h.ne
  have hs := hc.size
  refine ⟨h.bl.trans (hc.below (by omega) fun j e => by rw [e]; exact a6), box_chg h.p hc e2 a1, box_chg h.t hc e4 a2, box_chg h.b hc e5 a3, BoxAt.stored h.s hl, fun e => ?_, by omega, h.ne⟩
  obtain ⟨M, b1, b2, b3, b4, b5⟩ := h.m e
  exact ⟨M, b1, b2, b3, b4, hc.map b5 b4⟩
end
set_option maxRecDepth 100000 in
set_option maxHeartbeats 4000000 in
theorem set_any (g : Gm) (sa da : Option Addr) (sc dc : Nat) (w : World) (hG : GmAt w g sa da) (hF : GmFew g) : Calls Try.prog 15 #[gmV g sa sc da dc] w (SetTo g sa sc da dc w) := by
  obtain ⟨m, hm⟩ : ∃ m, m = g.starts.length := ⟨_, rfl⟩
  obtain ⟨n, hn⟩ : ∃ n, n = g.deps.length := ⟨_, rfl⟩
  obtain ⟨bu, hbu⟩ : ∃ n, n = g.budget := ⟨_, rfl⟩
  obtain ⟨v, hv⟩ : ∃ r, r = vgB g := ⟨_, rfl⟩
  have HV := Lib.hid (show ∀ wy, Below w.heap.size w wy → Calls Try.prog 37 #[.agg #[.slice sa m sc, .slice da n dc, .int .i64 bu]] wy (RetB (.bool v) wy) from fun wy hy => by
    rw [hv, hm, hn, hbu]
    exact valid_anyG g sa da sc dc wy (hG.later hy) hF)
  have HG := Lib.hid hG
  have HM := Lib.hid hm
  have HN := Lib.hid hn
  have HBU := Lib.hid hbu
  have HVE := Lib.hid hv
  unfold gmV
  rw [← hm, ← hn, ← hbu]
  clear hG hF hm hn hbu hv
  go_enter Try.func15, Try.ntmps15
  go_upto_region 1 with fail
  obtain ⟨wX, P, B1, S1, hP, hbX, hBX, hB1, hS1, hwX⟩ : ∃ wX P B1 S1, (P = w.heap.size ∧ B1 = w.heap.size + 1 ∧ S1 = w.heap.size + 1 + 1) ∧ Below w.heap.size w wX ∧ BoxAt wX P [.slice sa m sc, .slice da n dc, .int .i64 bu] ∧ BoxAt wX B1 [.slice none 0 0, .slice none 0 0, .int .i64 0, .map none] ∧ BoxAt wX S1 (st14 0 0 0 0 0 0 0 false false false false false false 0) ∧ wX = ((w.alloc (.cells #[.slice sa m sc, .slice da n dc, .int .i64 bu] 25)).alloc (.cells #[.slice none 0 0, .slice none 0 0, .int .i64 0, .map none] 43)).alloc (.cells #[.int .i64 0, .int .i64 0, .int .i64 0, .int .i64 0, .int .i64 0, .int .i64 0, .int .i64 0, .bool false, .bool false, .bool false, .bool false, .bool false, .bool false, .int .i64 0] 47) := ⟨_, _, _, _, ⟨rfl, rfl, rfl⟩, (((Below.refl _ _).alloc (Nat.le_refl _) _).alloc (by simp) _).alloc (by simp; omega) _, ((BoxAt.new w _ _).alloc _).alloc _, by
    have h := (BoxAt.new (w.alloc (.cells #[.slice sa m sc, .slice da n dc, .int .i64 bu] 25)) [.slice none 0 0, .slice none 0 0, .int .i64 0, .map none] 43).alloc (.cells #[.int .i64 0, .int .i64 0, .int .i64 0, .int .i64 0, .int .i64 0, .int .i64 0, .int .i64 0, .bool false, .bool false, .bool false, .bool false, .bool false, .bool false, .int .i64 0] 47)
    rw [World.size_alloc] at h
    exact h, by
    have h := BoxAt.new ((w.alloc (.cells #[.slice sa m sc, .slice da n dc, .int .i64 bu] 25)).alloc (.cells #[.slice none 0 0, .slice none 0 0, .int .i64 0, .map none] 43)) (st14 0 0 0 0 0 0 0 false false false false false false 0) 47
    rw [World.size_alloc, World.size_alloc] at h
    exact h, rfl⟩
  rw [← hwX, ← hP.2.2, ← hP.2.1, ← hP.1]
  have HBX := Lib.hid hbX
  have HX := Lib.hid hBX
  have HB1 := Lib.hid hB1
  have HS1 := Lib.hid hS1
  have HNE := Lib.hid (show P ≠ B1 ∧ P ≠ S1 ∧ B1 ≠ S1 ∧ B1 < wX.heap.size ∧ S1 < wX.heap.size ∧ w.heap.size ≤ B1 ∧ w.heap.size ≤ S1 from by
    have : wX.heap.size = w.heap.size + 3 := by rw [hwX]; simp
    omega)
  have c0 := (hBX 0 _ rfl).1
  have c1 := (hBX 1 _ rfl).1
  have c2 := (hBX 2 _ rfl).1
  clear hP hbX hBX hB1 hS1 hwX
  go_wp2_with fail
  refine Calls.mono (HV.out wX HBX.out) ?_
  rintro e w1 ⟨rfl, hb1⟩
  have HBW := Lib.hid (HBX.out.trans (hb1.mono HBX.out.size))
  have HX1 := Lib.hid (HX.out.later hb1)
  have HB11 := Lib.hid (HB1.out.later hb1)
  have HS11 := Lib.hid (HS1.out.later hb1)
  have HNE1 := Lib.hid (show P ≠ B1 ∧ P ≠ S1 ∧ B1 ≠ S1 ∧ B1 < w1.heap.size ∧ S1 < w1.heap.size ∧ w.heap.size ≤ B1 ∧ w.heap.size ≤ S1 from by
    have := hb1.size
    have := HNE.out
    omega)
  clear hb1 c0 c1 c2 HX HB1 HS1 HNE HBX
  cases v
  · have HNV := Lib.hid (show ¬ VG g from fun h => by
      have := vgB_true h
      rw [← HVE.out] at this
      cases this)
    have hb := HB11.out
    have hs := HS11.out
    obtain ⟨b0, g0⟩ := hb 0 _ rfl
    obtain ⟨b1, g1⟩ := hb 1 _ rfl
    obtain ⟨b2, g2⟩ := hb 2 _ rfl
    obtain ⟨b3, g3⟩ := hb 3 _ rfl
    obtain ⟨s0, f0⟩ := hs 0 _ rfl
    obtain ⟨s1, f1⟩ := hs 1 _ rfl
    obtain ⟨s2, f2⟩ := hs 2 _ rfl
    obtain ⟨s3, f3⟩ := hs 3 _ rfl
    obtain ⟨s4, f4⟩ := hs 4 _ rfl
    obtain ⟨s5, f5⟩ := hs 5 _ rfl
    obtain ⟨s6, f6⟩ := hs 6 _ rfl
    obtain ⟨s7, f7⟩ := hs 7 _ rfl
    obtain ⟨s8, f8⟩ := hs 8 _ rfl
    obtain ⟨s9, f9⟩ := hs 9 _ rfl
    obtain ⟨s10, f10⟩ := hs 10 _ rfl
    obtain ⟨s11, f11⟩ := hs 11 _ rfl
    obtain ⟨s12, f12⟩ := hs 12 _ rfl
    obtain ⟨s13, f13⟩ := hs 13 _ rfl
    obtain ⟨n1, n2, n3, n4, n5, n6, n7⟩ := HNE1.out
    obtain ⟨w9, hw9, hB9, hS9, hb9⟩ := set_world (B := w.heap.size) (b' := [.slice none 0 0, .slice none 0 0, .int .i64 0, .map none]) (s' := st14 0 0 0 0 0 0 0 false false false false false false 0) hb hs rfl rfl n3 (by omega)
    simp only [World.setCells, Nat.zero_add, Nat.reduceAdd] at hw9
    have HW9 := Lib.hid hw9
    have HB9 := Lib.hid hB9
    have HS9 := Lib.hid hS9
    have HBL9 := Lib.hid hb9
    clear hb hs hw9 hB9 hS9 hb9
    go_wp2_with fail
    rw [← HW9.out]
    refine bodyPost_ret (results_set rfl (p := ⟨B1, 0, none⟩) (q := ⟨S1, 0, none⟩) rfl rfl (run_loadVar_mid _ B1 0 43 _ _ (range4 HB9.out) Try.underlying43 rfl (by kernel_rfl)) (run_loadVar_mid _ S1 0 47 _ _ (range14 HS9.out) Try.underlying47 rfl (by kernel_rfl))) rfl ?_
    exact ⟨HBW.out.trans HBL9.out, .inl ⟨HNV.out, rfl⟩⟩
  have hvg : VG g := Classical.byContradiction fun h => by
    have := vgB_false h
    rw [← HVE.out] at this
    cases this
  have HVG := Lib.hid hvg
  have hm6 : m ≤ 6 := by rw [HM.out]; exact hvg.1
  have hn12 : n ≤ 12 := by rw [HN.out]; exact hvg.2.1
  have hb0 : 0 ≤ bu := by rw [HBU.out]; exact hvg.2.2.1
  have hb3 : bu ≤ 3 := by rw [HBU.out]; exact hvg.2.2.2.1
  have c0 := (HX1.out 0 _ rfl).1
  have c1 := (HX1.out 1 _ rfl).1
  have c2 := (HX1.out 2 _ rfl).1
  have hwb : IntKind.i64.wrap (bu + 1) = bu + 1 := IntWalk.i64_in _ (by omega)
  clear hvg
  go_upto_region 3 with fail
  go_cut [5] from 12 to 50 (fun v5 wx => v5 = .int .i64 (szG g 0) ∧ wx = w1)
  case first =>
    have hzb := szG_in HVG.out 0 (Nat.zero_le _)
    have hz : szG g 0 = max 1 (n : Int) * (bu + 1) := by rw [HN.out, HBU.out]; rfl
    by_cases hn1 : 1 < (n : Int)
    · have e : (n : Int) * (bu + 1) = szG g 0 := by rw [hz, show max 1 (n : Int) = n by omega]
      have hw2 : IntKind.i64.wrap ((n : Int) * (bu + 1)) = (n : Int) * (bu + 1) := IntWalk.i64_in _ (by rw [e]; omega)
      have HE := Lib.hid e
      clear e hz hzb
      go_wp2_with fail
      go_meet
      exact ⟨by rw [HE.out], rfl⟩
    · have e : bu + 1 = szG g 0 := by rw [hz, show max 1 (n : Int) = 1 by omega, Int.one_mul]
      have HE := Lib.hid e
      clear e hz hzb
      go_wp2_with fail
      go_meet
      exact ⟨by rw [HE.out], rfl⟩
  case rest =>
  obtain ⟨rfl, rfl⟩ := hcut
  clear hwb
  go_upto_region 5 with fail
  go_loopg [5, 25] (m + 1) (fun gk v5 v25 wr => ∃ i : Nat, i ≤ m ∧ gk + i = m + 1 ∧ v25 = .int .i64 i ∧ v5 = .int .i64 (szG g i) ∧ wc = wr)
  case atStart => exact ⟨0, by omega, by omega, rfl, rfl, rfl⟩
  case round =>
    obtain ⟨i, hi, hgi, rfl, rfl, rfl⟩ := hrel
    have hzi := szG_in HVG.out i (by rw [← HM.out]; exact hi)
    have hp26 := pow26 (i := i) (by omega)
    by_cases hlt : i < m
    · have hiL : i < g.starts.length := by rw [← HM.out]; exact hlt
      obtain ⟨vb, vo, rfl, fv⟩ := (HG.out.s.later HBW.out).fam (by omega)
      have cv := fv i hiL
      have hsb := HVG.out.2.2.2.2.1 i hiL
      have hzn : szG g (i + 1) = szG g i * (2 * (ig g.starts i + 1)) := rfl
      obtain ⟨z, hz⟩ : ∃ z, z = szG g i := ⟨_, rfl⟩
      obtain ⟨x, hx⟩ : ∃ x, x = ig g.starts i := ⟨_, rfl⟩
      rw [← hx] at cv hsb hzn
      rw [← hz] at hzi hzn
      rw [← hz]
      have hzi1 := szG_in HVG.out (i + 1) (by omega)
      rw [hzn] at hzi1
      have hp261 := pow26 (i := i + 1) (by omega)
      have hw1 : IntKind.i64.wrap (x + 1) = x + 1 := IntWalk.i64_in _ (by omega)
      have hw2 : IntKind.i64.wrap (2 * (x + 1)) = 2 * (x + 1) := IntWalk.i64_in _ (by omega)
      have hw3 : IntKind.i64.wrap (z * (2 * (x + 1))) = z * (2 * (x + 1)) := IntWalk.i64_in _ (by omega)
      have HZN := Lib.hid hzn
      have n1 : (i : Int) < (m : Int) := by omega
      have n0 : (0 : Int) ≤ (i : Int) := by omega
      clear hz hx fv hsb hzi hzn hzi1 hp261 hp26 hiL
      go_wp2_with fail
      go_roundg (gk - 1)
      case measure => omega
      case rel => exact ⟨i + 1, by omega, by omega, by go_num, by rw [HZN.out], rfl⟩
    · obtain rfl : i = m := by omega
      obtain ⟨z, hz⟩ : ∃ z, z = szG g i := ⟨_, rfl⟩
      have HZ := Lib.hid hz
      rw [← hz]
      clear hz hzi hp26 hlt
      by_cases hbig : 200000 < z
      · have HNS := Lib.hid (show ¬ SmG g from fun h => by
          have h2 : szG g g.starts.length ≤ 200000 := h
          rw [← HM.out, ← HZ.out] at h2
          omega)
        have hb := HB11.out
        have hs := HS11.out
        obtain ⟨b0, g0⟩ := hb 0 _ rfl
        obtain ⟨b1, g1⟩ := hb 1 _ rfl
        obtain ⟨b2, g2⟩ := hb 2 _ rfl
        obtain ⟨b3, g3⟩ := hb 3 _ rfl
        obtain ⟨s0, f0⟩ := hs 0 _ rfl
        obtain ⟨s1, f1⟩ := hs 1 _ rfl
        obtain ⟨s2, f2⟩ := hs 2 _ rfl
        obtain ⟨s3, f3⟩ := hs 3 _ rfl
        obtain ⟨s4, f4⟩ := hs 4 _ rfl
        obtain ⟨s5, f5⟩ := hs 5 _ rfl
        obtain ⟨s6, f6⟩ := hs 6 _ rfl
        obtain ⟨s7, f7⟩ := hs 7 _ rfl
        obtain ⟨s8, f8⟩ := hs 8 _ rfl
        obtain ⟨s9, f9⟩ := hs 9 _ rfl
        obtain ⟨s10, f10⟩ := hs 10 _ rfl
        obtain ⟨s11, f11⟩ := hs 11 _ rfl
        obtain ⟨s12, f12⟩ := hs 12 _ rfl
        obtain ⟨s13, f13⟩ := hs 13 _ rfl
        obtain ⟨n1, n2, n3, n4, n5, n6, n7⟩ := HNE1.out
        obtain ⟨w9, hw9, hB9, hS9, hb9⟩ := set_world (B := w.heap.size) (b' := [.slice none 0 0, .slice none 0 0, .int .i64 0, .map none]) (s' := st14 0 0 0 0 0 0 0 false false false false false false 0) hb hs rfl rfl n3 (by omega)
        simp only [World.setCells, Nat.zero_add, Nat.reduceAdd] at hw9
        have HW9 := Lib.hid hw9
        have HB9 := Lib.hid hB9
        have HS9 := Lib.hid hS9
        have HBL9 := Lib.hid hb9
        clear hb hs hw9 hB9 hS9 hb9
        go_wp2_with fail
        rw [← HW9.out]
        refine bodyPost_ret (results_set rfl (p := ⟨B1, 0, none⟩) (q := ⟨S1, 0, none⟩) rfl rfl (run_loadVar_mid _ B1 0 43 _ _ (range4 HB9.out) Try.underlying43 rfl (by kernel_rfl)) (run_loadVar_mid _ S1 0 47 _ _ (range14 HS9.out) Try.underlying47 rfl (by kernel_rfl))) rfl ?_
        exact ⟨HBW.out.trans HBL9.out, .inr (.inl ⟨HVG.out, HNS.out, rfl⟩)⟩
      · have HSM := Lib.hid (show SmG g from by
          show szG g g.starts.length ≤ 200000
          rw [← HM.out, ← HZ.out]
          omega)
        go_upto_region 12 with fail
        obtain ⟨w12, T, hT, hb12, hT12, hw12⟩ : ∃ w12 T, T = wc.heap.size ∧ Below wc.heap.size wc w12 ∧ BoxAt w12 T (st14 0 0 0 0 0 0 0 false false false false false false bu) ∧ w12 = wc.alloc (.cells #[.int .i64 0, .int .i64 0, .int .i64 0, .int .i64 0, .int .i64 0, .int .i64 0, .int .i64 0, .bool false, .bool false, .bool false, .bool false, .bool false, .bool false, .int .i64 bu] 47) := ⟨_, _, rfl, (Below.refl _ _).alloc (Nat.le_refl _) _, BoxAt.new wc _ _, rfl⟩
        rw [← hw12, ← hT]
        have HB12 := Lib.hid hb12
        have HT12 := Lib.hid hT12
        have HTE := Lib.hid hT
        have q0 := ((HX1.out.later hb12) 0 _ rfl).1
        have hS : ∀ wy : World, Below w12.heap.size w12 wy → wy.cell? ⟨P, 0, none⟩ = some (.slice sa i sc) := fun wy hy => cell_later hy q0
        clear hT hb12 hT12 hw12 q0 c0 c1 c2
        (refine wp_flow_n 4 _ [] [] (fun w' w'' => w'' = w'.setCells T 1 (g.starts.map (Value.int .i64))) (.int .i64 i) (by rfl) (by kernel_rfl) (by kernel_rfl) (by kernel_rfl) (by kernel_rfl) ?_); simp only [List.take_succ_cons, List.take_zero]
        repeat (first | ((with_reducible refine Flow.pure hS StayG.nil (v := ?_) ?_ ?_ ?_ ?_); rotate_left 1; (focus kernel_rfl); (focus (intro _; rfl)); (focus (intro β wx hSw; (try dsimp only at hSw); go_simp; (try with_reducible rfl); done)); (try simp only [Act.put, List.setIfInBounds_toArray, List.set_cons_zero, List.set_cons_succ, Nat.reduceAdd])))
        ((with_reducible refine Flow.stop ?_); dsimp only; intro β w3 hI)
        have hb3 := hI.below
        have hT3 := HT12.out.later hb3
        have hI3 : Ints w3 sa g.starts := HG.out.s.later (HBW.out.trans ((HB12.out.trans (hb3.mono HB12.out.size)).mono HBW.out.size))
        have h6 : g.starts.length ≤ 6 := HVG.out.1
        refine ⟨rfl, fun K' hK => ?_, fun w5 hE => ?_⟩
        · have hrun := run_copy_intsG (dT := 22) (sT := 22) (ty := 3) Try.underlying22 (B := T) (o := 1) (dLen := 6) (dCap := 6) (sCap := sc) hI3 h6 (fun j hj => ?_) (fun j hj => ?_)
          · rw [← HM.out] at hrun
            have HR := Lib.hid hrun
            clear hrun
            go_simp
            rw [HR.out]
            exact hK.out _ rfl
          · have : j = 0 ∨ j = 1 ∨ j = 2 ∨ j = 3 ∨ j = 4 ∨ j = 5 := by omega
            rcases this with rfl | rfl | rfl | rfl | rfl | rfl
            · rw [(hT3 1 _ rfl).1]; rfl
            · rw [(hT3 2 _ rfl).1]; rfl
            · rw [(hT3 3 _ rfl).1]; rfl
            · rw [(hT3 4 _ rfl).1]; rfl
            · rw [(hT3 5 _ rfl).1]; rfl
            · rw [(hT3 6 _ rfl).1]; rfl
          · have : j = 0 ∨ j = 1 ∨ j = 2 ∨ j = 3 ∨ j = 4 ∨ j = 5 := by omega
            rcases this with rfl | rfl | rfl | rfl | rfl | rfl
            · exact (hT3 1 _ rfl).2
            · exact (hT3 2 _ rfl).2
            · exact (hT3 3 _ rfl).2
            · exact (hT3 4 _ rfl).2
            · exact (hT3 5 _ rfl).2
            · exact (hT3 6 _ rfl).2
        · have hT5 := box_copied hT3 h6
          rw [← hE] at hT5
          have HT5 := Lib.hid hT5
          have hc5 : Chg (fun j => j = T) w3 w5 := by rw [hE]; exact chg_setCells (S := fun j => j = T) (Chg.refl _ w3) T 1 _ (fun _ => rfl)
          have hbx : Below w12.heap.size w12 w3 := hb3
          obtain ⟨k1, k2, k3, k4, k5, k6, k7⟩ := HNE1.out
          have hz12 := HB12.out.size
          have hz3 := hbx.size
          have hPl : P < wc.heap.size := World.block_lt_of_cell? _ _ (HX1.out 0 _ rfl).1
          have hTl := HTE.out
          have hTl2 : T < w3.heap.size := World.block_lt_of_cell? _ _ (hT3 0 _ rfl).1
          have hsz5 := hc5.size
          have hbl5 : Below w.heap.size w w5 := (HBW.out.trans ((HB12.out.trans (hbx.mono hz12)).mono HBW.out.size)).trans (hc5.below (by have := HBW.out.size; omega) fun j e => by rw [e, hTl]; exact HBW.out.size)
          have HJ0 := Lib.hid (show J13 w w.heap.size P T B1 S1 [.slice sa i sc, .slice da n dc, .int .i64 bu] (st14 0 (ig g.starts 0) (ig g.starts 1) (ig g.starts 2) (ig g.starts 3) (ig g.starts 4) (ig g.starts 5) false false false false false false bu) [.slice none 0 0, .slice none 0 0, .int .i64 0, .map none] (st14 0 0 0 0 0 0 0 false false false false false false 0) (.slice sa i sc) (.slice da n dc) (.int .i64 bu) (fun _ => undef) false false false w5 from
            ⟨hbl5, box_chg ((HX1.out.later HB12.out).later hbx) hc5 (by omega) (by omega), hT5, box_chg ((HB11.out.later HB12.out).later hbx) hc5 (by omega) (by omega), box_chg ((HS11.out.later HB12.out).later hbx) hc5 (by omega) (by omega), fun e => (by cases e), by omega, by omega⟩)
          have hmm := @run_makeMap Try.prog
          clear hc5 hbx hz12 hz3 hPl hTl hTl2 hsz5 hbl5 hT3 hT5 hI3 h6 hE hb3 hS hI k1 k2 k4 k5 k6 k7
          go_upto_region 13 with fail
          refine wp_flow_j (fun β L' w' => J13 w w.heap.size P T B1 S1 [.slice sa i sc, .slice da n dc, .int .i64 bu] (st14 0 (ig g.starts 0) (ig g.starts 1) (ig g.starts 2) (ig g.starts 3) (ig g.starts 4) (ig g.starts 5) false false false false false false bu) [.slice none 0 0, .slice none 0 0, .int .i64 0, .map none] (st14 0 0 0 0 0 0 0 false false false false false false 0) (.slice sa i sc) (.slice da n dc) (.int .i64 bu) β (L' 1) (L' 4) (L' 5) w') (by kernel_rfl) (by kernel_rfl) ?h0 ?_
          case h0 => exact HJ0.out.drew
          ((with_reducible refine FlowJ.pure (v := .agg #[.slice sa i sc, .slice da n dc, .int .i64 bu]) ?_ ?_ ?_ ?_); (focus (intro _; rfl)); (focus (intro β L' w' hJ hat; (try dsimp only at hJ); (try dsimp only); simpa only [setL, Nat.reduceEqDiff, if_false] using hJ)); (focus (intro β L' w' hJ hat; (try dsimp only at hJ); (have b := hJ.p; have b0 := (b 0 _ rfl).1; have b1 := (b 1 _ rfl).1; have b2 := (b 2 _ rfl).1; clear b hJ; go_simp; (try with_reducible rfl); done))); (try simp only [Act.put, List.setIfInBounds_toArray, List.set_cons_zero, List.set_cons_succ, Nat.reduceAdd]))
          ((with_reducible refine FlowJ.ghost ?_ ?_ ?_); (focus (intro _; rfl)); (focus (intro β L' w' hJ hat K' hK; (try dsimp only at hJ); ((have n4 := hat.not (j := 4) (by kernel_rfl)); have un := hat.un; simp only [un, n4] at hJ; have hm := hmm; go_simp; refine hK.out _ _ ?_; simp only [setL, Nat.reduceEqDiff, if_true, if_false, n4]; exact hJ.make))); (try simp only [Act.put, List.setIfInBounds_toArray, List.set_cons_zero, List.set_cons_succ, Nat.reduceAdd]))
          refine FlowJ.pureG (v := fun β => .agg #[.slice sa i sc, .slice da n dc, .int .i64 bu, β 1]) (fun β k b hk => ?_) (fun β b => rfl) (fun _ => rfl) (fun β L' w' hJ hat => by simpa only [setL, Nat.reduceEqDiff, if_false] using hJ) (fun β L' w' hJ hat => ?_) ?_
          · have : updG β k b 1 = β 1 := updG_ne β b fun e => by subst e; exact Bool.false_ne_true (hk.symm.trans (by kernel_rfl))
            simp only [this]
          · (have p1 := hat.pre 1 (by kernel_rfl))
            obtain ⟨M, b1, b2, b3, b4, b5⟩ := hJ.m p1
            rw [b1]
            clear hJ
            go_simp
            (try with_reducible rfl); done
          (try simp only [Act.put, List.setIfInBounds_toArray, List.set_cons_zero, List.set_cons_succ, Nat.reduceAdd])
          ((with_reducible refine FlowJ.pure (v := .agg (st14 0 (ig g.starts 0) (ig g.starts 1) (ig g.starts 2) (ig g.starts 3) (ig g.starts 4) (ig g.starts 5) false false false false false false bu).toArray) ?_ ?_ ?_ ?_); (focus (intro _; rfl)); (focus (intro β L' w' hJ hat; (try dsimp only at hJ); (try dsimp only); simpa only [setL, Nat.reduceEqDiff, if_false] using hJ)); (focus (intro β L' w' hJ hat; (try dsimp only at hJ); (have b := box_range hJ.t; exact exec_load_mid 47 (.tmp 8) rfl T 0 rfl _ _ b Try.underlying47 rfl (by kernel_rfl)))); (try simp only [Act.put, List.setIfInBounds_toArray, List.set_cons_zero, List.set_cons_succ, Nat.reduceAdd]))
          ((with_reducible refine FlowJ.eff ?_ ?_ ?_); (focus (intro _; rfl)); (focus (intro β L' w' hJ hat K' hK; (try dsimp only at hJ); ((have p1 := hat.pre 1 (by kernel_rfl)); have un := hat.un; simp only [un, p1] at hJ; have hb := hJ.b; simp only [Bool.false_eq_true, if_false] at hb; obtain ⟨M, b1, b2, b3, b4, b5⟩ := hJ.m rfl; refine wp_store_mid 43 _ _ rfl B1 0 #[.slice sa i sc, .slice da n dc, .int .i64 bu, β 1] rfl rfl (box_there hb rfl) (by kernel_rfl) (by rw [b1]; simp [Value.oneCell']) ?_; refine hK.out _ ?_; simp only [setL, Nat.reduceEqDiff, if_true, if_false, p1]; exact hJ.storeB rfl))); (try simp only [Act.put, Nat.reduceAdd]))
          ((with_reducible refine FlowJ.eff ?_ ?_ ?_); (focus (intro _; rfl)); (focus (intro β L' w' hJ hat K' hK; (try dsimp only at hJ); (have un := hat.un; simp only [un] at hJ; have hb := hJ.s; simp only [Bool.false_eq_true, if_false] at hb; refine wp_store_mid 47 _ _ rfl S1 0 (st14 0 (ig g.starts 0) (ig g.starts 1) (ig g.starts 2) (ig g.starts 3) (ig g.starts 4) (ig g.starts 5) false false false false false false bu).toArray rfl rfl (box_there hb rfl) (by kernel_rfl) (by simp [st14, Value.oneCell']) ?_; refine hK.out _ ?_; simp only [setL, Nat.reduceEqDiff, if_true, if_false]; exact hJ.storeS rfl))); (try simp only [Act.put, Nat.reduceAdd]))
          ((with_reducible refine FlowJ.pure (v := ?_) ?_ ?_ ?_ ?_); rotate_left 1; (focus (intro _; rfl)); (focus (intro β L' w' hJ hat; (try dsimp only at hJ); (try dsimp only); simpa only [setL, Nat.reduceEqDiff, if_false] using hJ)); (focus (intro β L' w' hJ hat; (try dsimp only at hJ); skip; go_simp; (try with_reducible rfl); done)); (try simp only [Act.put, List.setIfInBounds_toArray, List.set_cons_zero, List.set_cons_succ, Nat.reduceAdd]))
          refine FlowJ.stop ?_
          dsimp only
          intro β w1 hJ
          obtain ⟨M, e1, hM, _, _, hmp⟩ := hJ.m rfl
          have hb9 := hJ.b
          have hs9 := hJ.s
          have HBL := Lib.hid hJ.bl
          simp only [if_true] at hb9 hs9
          rw [e1] at hb9
          have HB9 := Lib.hid hb9
          have HS9 := Lib.hid hs9
          have HMP := Lib.hid hmp
          have HML := Lib.hid hM
          clear hb9 hs9 hmp hM hJ
          go_wp2_with fail
          refine bodyPost_ret (results_set rfl (p := ⟨B1, 0, none⟩) (q := ⟨S1, 0, none⟩) rfl rfl (run_loadVar_mid _ B1 0 43 _ _ (range4 HB9.out) Try.underlying43 rfl (by kernel_rfl)) (run_loadVar_mid _ S1 0 47 _ _ (range14 HS9.out) Try.underlying47 rfl (by kernel_rfl))) rfl ?_
          refine ⟨HBL.out, .inr (.inr ⟨HVG.out, HSM.out, M, HML.out, ?_, HMP.out⟩)⟩
          unfold bdV stV stC beginS
          have hb0 : ∀ k, bg (List.replicate g.starts.length false) k = false := fun k => by simp [bg, List.getD_eq_getElem?_getD, List.getElem?_replicate]; split <;> rfl
          simp only [hb0]
          rw [← HM.out, ← HN.out, ← HBU.out]
          rfl
end Go.Proofs.Ytgccankekflchaa

