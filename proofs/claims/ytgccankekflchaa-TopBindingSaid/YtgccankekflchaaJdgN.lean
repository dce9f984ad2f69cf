

/- Contracts of package judge: Accept. -/
import Derived.Test.YtgccankekflchaaJdgM
import Derived.Test.YtgccankekflchaaRangeB
namespace Go.Proofs.Ytgccankekflchaa
open Go.RowKit Go.Shelf

attribute [local go_sem] Oper.semAt_some

theorem keeps_below {B : Nat} {W W' : World} (h : Below W.heap.size W W') : KeepsFrom B W W' := ⟨h.size, fun k _ _ h0 _ => (h.block k (Array.getElem?_eq_some_iff.1 h0).1).trans h0⟩
structure GBox (w : World) (G : Nat) (g : Gm) (sa : Option Addr) (sc : Nat) (da : Option Addr) (dc : Nat) : Prop where
  c0 : w.cell? ⟨G, 0, none⟩ = some (.slice sa g.starts.length sc)
  c1 : w.cell? ⟨G, 1, none⟩ = some (.slice da g.deps.length dc)
  c2 : w.cell? ⟨G, 2, none⟩ = some (.int .i64 g.budget)
theorem GBox.later {w w1 : World} {G : Nat} {g : Gm} {sa da : Option Addr} {sc dc : Nat} (h : GBox w G g sa sc da dc) (hb : Below w.heap.size w w1) : GBox w1 G g sa sc da dc := ⟨cell_later hb h.c0, cell_later hb h.c1, cell_later hb h.c2⟩
theorem GBox.kept {w w1 : World} {row : Option Nat} {G : Nat} {g : Gm} {sa da : Option Addr} {sc dc : Nat} (h : GBox w G g sa sc da dc) (hg : w.grownBy w1 row) (hr : ∀ r, row = some r → ∃ o : Obj, w.heap[r]? = some o ∧ o.isCells = false) : GBox w1 G g sa sc da dc := ⟨cell_kept h.c0 hg hr, cell_kept h.c1 hg hr, cell_kept h.c2 hg hr⟩
theorem bitsU_none (n k : Nat) : bitsU (List.replicate n false) k = 0 := by
  induction k with
  | zero => rfl
  | succ k ih =>
    unfold bitsU
    have : bg (List.replicate n false) k = false := by
      unfold bg
      rw [List.getD_eq_getElem?_getD, List.getElem?_replicate]
      split <;> rfl
    rw [ih, this]
    rfl
theorem sitV_begin (g : Gm) : sitV (beginS g) = sit10 0 g.budget g.starts.length (ig g.starts 0) (ig g.starts 1) (ig g.starts 2) (ig g.starts 3) (ig g.starts 4) (ig g.starts 5) 0 := by
  unfold sitV beginS
  simp only [bitsU_none]
  rfl
theorem VG.small {g : Gm} (hv : VG g) : ∀ i, i < g.starts.length → ig g.starts i ≤ 1000000 := fun i hi => by have := (hv.2.2.2.2.1 i hi).2; omega
theorem VG.key {g : Gm} (hv : VG g) {s : St} (hs : Inv g s) : ∃ l, keyOf Try.prog 76 (sitV s) = some l := key_st hs hv.1 (by have := hv.2.1; omega) (by have := hv.2.2.2.1; omega) hv.small
theorem ret_marks {P : Program} {fn : Func} {R : Ending → World → Prop} {ts : Array Value} {D : Nat} {w : World} {v : Value} (hd : w.heap[D]? = some (.deferred (some []))) (hr : (results fn ts).run P (w.putObj D (.deferred none)) = .ok v (w.putObj D (.deferred none))) (h : R (.returned v) (w.putObj D (.deferred none))) :
    bodyPostM Fence.wide 3 P fn R .ret { tmps := ts, defers := [{ target := .collected D, args := #[] }] } w := ⟨by simp, .inl ⟨_, _, rfl, run_takeDeferred hd, v, hr, h⟩⟩
theorem ret_below {w w' : World} {D : Nat} {v : Value} {v' : Value} (hv : v = v') (hb : Below w.heap.size w w') (hD : w.heap.size ≤ D) (hd : w'.heap[D]? = some (.deferred (some []))) : RetB v' w (.returned v) (w'.putObj D (.deferred none)) :=
  ⟨by rw [hv], hb.trans (belowK_b (w := w) (Nat.le_refl _) _ D _ (.deferred none) hD hd rfl rfl)⟩
theorem GBox.chg {S : Nat → Prop} {w w1 : World} {G : Nat} {g : Gm} {sa da : Option Addr} {sc dc : Nat} (h : GBox w G g sa sc da dc) (hc : Chg S w w1) (hs : ¬ S G) : GBox w1 G g sa sc da dc := ⟨hc.cell h.c0 hs, hc.cell h.c1 hs, hc.cell h.c2 hs⟩
theorem OwnS.pop {w : World} {B gb cap : Nat} {T : List St} {s : St} (h : OwnS w B (.slice (some ⟨gb, 0, none⟩) (T ++ [s]).length cap) (T ++ [s])) : OwnS w B (.slice (some ⟨gb, 0, none⟩) T.length cap) T := by
  obtain ⟨h1, ⟨h2, _⟩ | ⟨g, cap', cur, e, hb, hg, hn, hm, hc, ht⟩⟩ := h
  · cases h2
  · cases e
    refine ⟨sitC_cells T, .inr ⟨gb, cap, cur, rfl, hb, hg, by simp at hn; omega, hm, hc, ?_⟩⟩
    have := congrArg (List.take (T.length * 10)) ht
    have e2 : List.take (T.length * 10) (List.flatMap sitC T) = List.flatMap sitC T := List.take_of_length_le (by rw [sitC_cells]; omega)
    rw [List.take_take, List.flatMap_append, List.take_append_of_le_length (by rw [sitC_cells]; omega), e2, Nat.min_eq_left (by simp; omega)] at this
    exact this
/-- a situation's block -/
abbrev BoxSit (w : World) (B : Nat) (s : St) : Prop := SitBox w B s.turn s.budget s.starts.length (ig s.starts 0) (ig s.starts 1) (ig s.starts 2) (ig s.starts 3) (ig s.starts 4) (ig s.starts 5) (bitsU s.failed s.failed.length)
theorem BoxSit.on {w : World} {B : Nat} {s : St} (h : BoxSit w B s) : BoxSit (w.setCell ⟨B, 0, none⟩ (.int .i64 (s.turn + 1))) B (afterS s (-1)) := by
  rw [afterS_none]
  exact ⟨World.cell?_setCell_same _ _ _ h.c0, cell_ne h.c1 (.inr (by decide)), cell_ne h.c2 (.inr (by decide)), cell_ne h.c3 (.inr (by decide)), cell_ne h.c4 (.inr (by decide)), cell_ne h.c5 (.inr (by decide)), cell_ne h.c6 (.inr (by decide)), cell_ne h.c7 (.inr (by decide)), cell_ne h.c8 (.inr (by decide)), cell_ne h.c9 (.inr (by decide)), fun j hj => by rw [World.frozen?_setCell]; exact h.fr j hj⟩
theorem BoxSit.took {w : World} {B : Nat} {s : St} {q : Nat} (h : BoxSit w B (afterS s (-1))) (hq : q < s.starts.length) (h6 : s.starts.length ≤ 6) : BoxSit (w.setCell ⟨B, 3 + q, none⟩ (.int .i64 (ig s.starts q - 1))) B (afterS s q) := by
  rw [afterS_none] at h
  rw [afterS_some]
  have e : ∀ j, ig (s.starts.set q (ig s.starts q - 1)) j = if q = j then ig s.starts q - 1 else ig s.starts j := fun j => by
    rw [ig_set]
    by_cases hj : q = j
    · rw [if_pos ⟨hj, hq⟩, if_pos hj]
    · rw [if_neg (fun h => hj h.1), if_neg hj]
  have key : ∀ j, w.cell? ⟨B, 3 + j, none⟩ = some (.int .i64 (ig s.starts j)) → (w.setCell ⟨B, 3 + q, none⟩ (.int .i64 (ig s.starts q - 1))).cell? ⟨B, 3 + j, none⟩ = some (.int .i64 (ig (s.starts.set q (ig s.starts q - 1)) j)) := fun j hj => by
    rw [e]
    by_cases hqj : q = j
    · subst hqj
      rw [if_pos rfl]
      exact World.cell?_setCell_same _ _ _ hj
    · rw [if_neg hqj]
      exact cell_ne hj (.inr (by omega))
  refine ⟨cell_ne h.c0 (.inr (by omega)), cell_ne h.c1 (.inr (by omega)), ?_, key 0 h.c3, key 1 h.c4, key 2 h.c5, key 3 h.c6, key 4 h.c7, key 5 h.c8, cell_ne h.c9 (.inr (by omega)), fun j hj => by rw [World.frozen?_setCell]; exact h.fr j hj⟩
  show _ = some (Value.int .i64 ((s.starts.set q (ig s.starts q - 1)).length : Nat))
  rw [List.length_set]
  exact cell_ne h.c2 (.inr (by omega))
theorem snoc_or {α : Type} (l : List α) : l = [] ∨ ∃ l' x, l = l' ++ [x] := by
  induction l using snoc_ind with
  | h0 => exact .inl rfl
  | hs l x _ => exact .inr ⟨l, x, rfl⟩
theorem Rea.popped {w : World} {fpos : Value → Option Value} {P D T mp md B gb cap : Nat} {Dn T' : List St} {s : St} (hA : Apt P D T mp md B) (h : Rea w fpos P D T mp md B Dn (T' ++ [s]) (.slice (some ⟨gb, 0, none⟩) (T' ++ [s]).length cap)) :
    Rea (w.setCell ⟨T, 0, none⟩ (.slice (some ⟨gb, 0, none⟩) T'.length cap)) fpos P D T mp md B Dn T' (.slice (some ⟨gb, 0, none⟩) T'.length cap) := by
  obtain ⟨c1, ⟨n1, m1⟩, c2, ⟨n2, m2⟩, c3, f3, o, z⟩ := h
  exact ⟨cell_ne c1 (.inl hA.tp), ⟨n1, m1.setCell hA.mt _⟩, cell_ne c2 (.inl hA.td), ⟨n2, m2.setCell hA.tm.symm _⟩, World.cell?_setCell_same _ _ _ c3, by rw [World.frozen?_setCell]; exact f3, ownsRow_setCell_below o.pop hA.ht _, by rw [World.size_setCell]; exact z⟩
/-- what the loop keeps -/
structure Lk (w wr : World) (g : Gm) (sa : Option Addr) (sc : Nat) (da : Option Addr) (dc D : Nat) : Prop where
  b : Below w.heap.size w wr
  g : GBox wr w.heap.size g sa sc da dc
  d : wr.heap[D]? = some (.deferred (some []))
theorem Lk.later {w wr wx : World} {g : Gm} {sa : Option Addr} {sc : Nat} {da : Option Addr} {dc D : Nat} (h : Lk w wr g sa sc da dc D) (hb : Below wr.heap.size wr wx) : Lk w wx g sa sc da dc D :=
  ⟨h.b.trans (hb.mono h.b.size), h.g.later hb, (hb.block D (Array.getElem?_eq_some_iff.1 h.d).1).trans h.d⟩
theorem Lk.setCell {w wr : World} {g : Gm} {sa : Option Addr} {sc : Nat} {da : Option Addr} {dc D T : Nat} (h : Lk w wr g sa sc da dc D) (hT : w.heap.size < T) (hD : D ≠ T) (v : Value) : Lk w (wr.setCell ⟨T, 0, none⟩ v) g sa sc da dc D :=
  ⟨h.b.setCell (p := ⟨T, 0, none⟩) (Nat.le_of_lt hT) v, ⟨cell_ne h.g.c0 (.inl (by omega)), cell_ne h.g.c1 (.inl (by omega)), cell_ne h.g.c2 (.inl (by omega))⟩, (Below.heap_setCell _ _ _ _ hD).trans h.d⟩
theorem Lk.setCell' {w wr : World} {g : Gm} {sa : Option Addr} {sc : Nat} {da : Option Addr} {dc D T k : Nat} (h : Lk w wr g sa sc da dc D) (hT : w.heap.size < T) (hD : D ≠ T) (v : Value) : Lk w (wr.setCell ⟨T, k, none⟩ v) g sa sc da dc D :=
  ⟨h.b.setCell (p := ⟨T, k, none⟩) (Nat.le_of_lt hT) v, ⟨cell_ne h.g.c0 (.inl (by omega)), cell_ne h.g.c1 (.inl (by omega)), cell_ne h.g.c2 (.inl (by omega))⟩, (Below.heap_setCell _ _ _ _ hD).trans h.d⟩
theorem Rea.far {w : World} {fpos : Value → Option Value} {P D T mp md B gb n cap M k : Nat} {Dn T' : List St} (h : Rea w fpos P D T mp md B Dn T' (.slice (some ⟨gb, 0, none⟩) n cap)) (h1 : P ≠ M) (h2 : D ≠ M) (h3 : T ≠ M) (h4 : mp ≠ M) (h5 : md ≠ M) (h6 : gb ≠ M) (v : Value) :
    Rea (w.setCell ⟨M, k, none⟩ v) fpos P D T mp md B Dn T' (.slice (some ⟨gb, 0, none⟩) n cap) := by
  obtain ⟨c1, ⟨n1, m1⟩, c2, ⟨n2, m2⟩, c3, f3, o, z⟩ := h
  have hc : Chg (fun k => k = M) w (w.setCell ⟨M, k, none⟩ v) := Chg.setCell (S := fun j => j = M) (p := ⟨M, k, none⟩) (Chg.refl _ _) (fun _ => rfl) v
  exact ⟨cell_ne c1 (.inl h1), ⟨n1, m1.setCell h4 _⟩, cell_ne c2 (.inl h2), ⟨n2, m2.setCell h5 _⟩, cell_ne c3 (.inl h3), by rw [World.frozen?_setCell]; exact f3, hc.owns o (fun b hb e => by obtain rfl : gb = b := Option.some.inj hb; exact h6 e), by rw [World.size_setCell]; exact z⟩
theorem Lk.chg {S : Nat → Prop} {w wr wx : World} {g : Gm} {sa : Option Addr} {sc : Nat} {da : Option Addr} {dc D : Nat} (h : Lk w wr g sa sc da dc D) (hc : Chg S wr wx) (hs : ∀ k, S k → w.heap.size < k) (hD : ¬ S D) : Lk w wx g sa sc da dc D :=
  ⟨h.b.trans (hc.below h.b.size fun k hk => Nat.le_of_lt (hs k hk)), h.g.chg hc (fun hk => by have := hs _ hk; omega), (hc.block D (Array.getElem?_eq_some_iff.1 h.d).1 hD).trans h.d⟩
theorem BoxSit.start {w : World} {B : Nat} {s : St} {q : Nat} (h : BoxSit w B s) (hq : q < 6) : w.cell? ⟨B, 3 + q, none⟩ = some (.int .i64 (ig s.starts q)) := by
  have : q = 0 ∨ q = 1 ∨ q = 2 ∨ q = 3 ∨ q = 4 ∨ q = 5 := by omega
  rcases this with rfl | rfl | rfl | rfl | rfl | rfl
  · exact h.c3
  · exact h.c4
  · exact h.c5
  · exact h.c6
  · exact h.c7
  · exact h.c8
theorem okDep_dom {m : Nat} {l : List Int} {c : Int} (h : okDep m l) (hc : c ∈ l) : 0 ≤ c ∧ c < m := by
  obtain ⟨j, hj, rfl⟩ := List.getElem_of_mem hc
  rw [← ig_lt hj]
  refine ⟨?_, (h j hj).2⟩
  have : ∀ j, j < l.length → 0 ≤ ig l j := fun j => by
    induction j with
    | zero => intro h0; have := (h 0 h0).1; rw [if_pos rfl] at this; omega
    | succ j ih => intro h0; have h1 := (h (j + 1) h0).1; rw [if_neg (by omega), Nat.add_sub_cancel] at h1; have := ih (by omega); omega
  exact this j hj
theorem wpList_named {P : Program} {ops : Array Oper} {rest : List Oper} {o : Oper} {a : Act} {Q : Exit → Act → World → Prop} {w : World} (hg : o.guard = none) (R : World → Prop) (w1 : World) (hrun : (execOp a.eval o).run P w = .ok .skip w1) (hR : R w1) (hK : ∀ w', R w' → wpList P ops Q rest (a.put o.dst undef) w') :
    wpList P ops Q (o :: rest) a w := wpList_plain hg fun K hK' => by unfold Oper.wp; rw [hrun]; exact hK' _ _ (hK w1 hR)
abbrev AdP := Option Addr × Nat × Option Addr × Nat
theorem PlanAt.names {w : World} {a : Option Addr} {plan : List Pos} {pv : Nat → Value} (h : PlanAt w a plan pv) : ∃ A : Fin plan.length → AdP, ∀ x : Fin plan.length, pv x = psV plan[x] (A x).1 (A x).2.1 (A x).2.2.1 (A x).2.2.2 ∧ PsAt w plan[x] (A x).1 (A x).2.2.1 :=
  Classical.axiomOfChoice (α := Fin plan.length) (β := fun _ => AdP) (r := fun x A => pv x = psV plan[x] A.1 A.2.1 A.2.2.1 A.2.2.2 ∧ PsAt w plan[x] A.1 A.2.2.1) fun x => by
    obtain ⟨b, off, sa, sc, fa, fc, _, h1, _, h2⟩ := h x x.2
    exact ⟨(sa, sc, fa, fc), h1, h2⟩
abbrev psC (p : Pos) (A : AdP) : List Value := [.int .i64 p.turn, .slice A.1 p.starts.length A.2.1, .slice A.2.2.1 p.failed.length A.2.2.2, .int .i64 p.budget, .int .i64 p.choice, .int .i64 p.bound]
theorem BoxAt.kept {w w1 : World} {n : Nat} {cs : List Value} {row : Option Nat} (h : BoxAt w n cs) (hg : w.grownBy w1 row) (hr : ∀ r, row = some r → ∃ o : Obj, w.heap[r]? = some o ∧ o.isCells = false) : BoxAt w1 n cs := fun o v ho => ⟨cell_kept (h o v ho).1 hg hr, (frozen_kept (h o v ho).1 hg hr).trans (h o v ho).2⟩
set_option maxRecDepth 100000 in
set_option maxHeartbeats 8000000 in
theorem accept_yes (g : Gm) (sa da pa : Option Addr) (sc dc pc : Nat) (plan : List Pos) (pv : Nat → Value) (bound : Int) (w : World) (hG : GmAt w g sa da) (hF : GmFew g) (hP : PlanAt w pa plan pv) (hpi : ∀ p ∈ plan, PosIn p) (hpl : plan.length ≤ 100000) (hv : VG g) (hd : g.deps ≠ []) :
    Calls Try.prog 9 #[gmV g sa sc da dc, .slice pa plan.length pc, .int .i64 bound] w (RetB (.bool (accB g plan bound)) w) := by
  have h6 := hv.1
  have h12 := hv.2.1
  have hdl : 0 < g.deps.length := List.length_pos_iff.2 hd
  have d0 : ((g.deps.length : Int) == 0) = false := by simp; omega
  have HVV := Lib.hid hv
  have HV := Lib.hid (vgB_true hv)
  have HG := Lib.hid hG
  have HF := Lib.hid hF
  have HP := Lib.hid hP
  have HPI := Lib.hid hpi
  have HD := Lib.hid hd
  clear hv hG hF hP hpi hd
  have hmm := @run_makeMap Try.prog
  refine (callsIn_wide (n := 3)).1 ?_
  refine callsIn_of_wp_marks Try.func9 rfl trivial ?_ rfl
  simp only [Try.ntmps9, List.size_toArray, List.length_cons, List.length_nil, Nat.reduceAdd, Nat.reduceSub, Array.replicate_succ, Array.replicate_zero, List.push_toArray, List.append_toArray, List.nil_append, List.cons_append]
  refine (wpIn_wide (n := 3)).2 ?_
  go_wp2_with fail
  refine Calls.mono (valid_any g sa da sc dc _ (HG.out.later (by repeat (first | exact Below.refl _ _ | assumption | refine Below.drew ?_ | refine below_drewN ?_ _ | refine Below.alloc ?_ (by first | omega | (simp; done) | (simp; omega)) _ | refine Below.setCell ?_ (by first | omega | (simp; done) | (simp; omega)) _ | refine Below.trans ?_ (Below.mono (by assumption) (by first | omega | (simp; done) | (simp; omega)))))) HF.out) ?_
  rw [HV.out]
  rintro e w1 ⟨rfl, hb1⟩; have hs1 := hb1.size; (try simp at hs1)
  have gb : GBox w1 w.heap.size g sa sc da dc := ⟨cell_later hb1 (by simp [go_sem]), cell_later hb1 (by simp [go_sem]), cell_later hb1 (by simp [go_sem])⟩
  have HGB := Lib.hid gb
  have c1 := gb.c1
  have hbw : Below w.heap.size w w1 := (by repeat (first | exact Below.refl _ _ | assumption | refine Below.drew ?_ | refine below_drewN ?_ _ | refine Below.alloc ?_ (by first | omega | (simp; done) | (simp; omega)) _ | refine Below.setCell ?_ (by first | omega | (simp; done) | (simp; omega)) _ | refine Below.trans ?_ (Below.mono (by assumption) (by first | omega | (simp; done) | (simp; omega)))))
  have HBW := Lib.hid hbw
  clear gb hbw
  go_wp2_with fail
  refine Calls.mono (backward_any _ _ _ _) ?_
  rintro e w3 ⟨rfl, rfl⟩
  go_wp2_with fail
  refine (wpIn_wide (n := 3)).1 ?_
  obtain ⟨w4, hw4⟩ : ∃ w4, w4 = ((w1.alloc (Obj.map #[] 0)).alloc (Obj.cells #[.map (some w1.heap.size)] 71)).alloc (Obj.cells #[.slice pa plan.length pc] 28) := ⟨_, rfl⟩
  rw [← hw4]
  have hb4 : Below w1.heap.size w1 w4 := by rw [hw4]; exact (by repeat (first | exact Below.refl _ _ | assumption | refine Below.drew ?_ | refine below_drewN ?_ _ | refine Below.alloc ?_ (by first | omega | (simp; done) | (simp; omega)) _ | refine Below.setCell ?_ (by first | omega | (simp; done) | (simp; omega)) _ | refine Below.trans ?_ (Below.mono (by assumption) (by first | omega | (simp; done) | (simp; omega)))))
  have hs4 : w4.heap.size = w1.heap.size + 1 + 1 + 1 := by rw [hw4]; simp
  have m4 : MapIs Try.prog 76 w4 w1.heap.size 0 (fun _ => none) := by rw [hw4]; exact ((MapIs.made _ _ _).alloc _).alloc _
  have p4 : w4.cell? ⟨w1.heap.size + 1, 0, none⟩ = some (.map (some w1.heap.size)) := by rw [hw4]; simp [go_sem]
  have b4 : w4.cell? ⟨w1.heap.size + 1 + 1, 0, none⟩ = some (.slice pa plan.length pc) := by rw [hw4]; simp [go_sem]
  clear hw4
  have hbw4 : Below w.heap.size w w4 := HBW.out.trans (hb4.mono (by omega))
  obtain ⟨A, hA⟩ := HP.out.names
  have HA := Lib.hid hA
  clear hA
  refine' wpIn_rangeFunc_box (F := Fence.wide) (n := 3) rfl (by omega) (gf := 52) (lb := #[.pointer (some ⟨w1.heap.size + 1 + 1, 0, none⟩)]) rfl trivial (enters_of Try.func52 (by kernel_rfl) rfl)
    (backward_stops Fence.wide 2 trivial rfl (by omega) (w1.heap.size + 1 + 1) w.heap.size pc pa plan pv (by omega) w w4 hbw4 (by omega) rfl b4 HP.out)
    (fun h k => Kp2.trans h k) (Kp2.putObj (by have := hbw4.size; omega) (by omega)) (Below.refl _ _) (fun _ => rfl)
    (fun pre W => ((∃ n, MapIs Try.prog 76 W w1.heap.size n (foldP plan pv pre)) ∧ W.cell? ⟨w1.heap.size + 1, 0, none⟩ = some (.map (some w1.heap.size)) ∧ GBox W w.heap.size g sa sc da dc ∧ w4.heap.size ≤ W.heap.size) ∧ Below w.heap.size w W)
    (fun pre x W W' => (((∃ n, MapIs Try.prog 76 W' w1.heap.size n (foldP plan pv pre)) ∧ W'.cell? ⟨w1.heap.size + 1, 0, none⟩ = some (.map (some w1.heap.size)) ∧ GBox W' w.heap.size g sa sc da dc ∧ w4.heap.size ≤ W.heap.size ∧ W.heap.size < W'.heap.size ∧ BoxAt W' W.heap.size (psC plan[x] (A x))) ∧ Below w.heap.size w W'))
    (fun _ _ _ => False) ?own ?own2 (fun c s A B row h hg hr => h.elim) ⟨⟨⟨0, m4⟩, p4, HGB.out.later hb4, Nat.le_refl _⟩, hbw4⟩ _ ?assign ?body ?done ?stop
  case own =>
    rintro pre X Y row ⟨⟨⟨n, hm⟩, hp, hg, hs⟩, hb⟩ hgr hr
    have hr' := fun r e => (hr r e).2
    refine ⟨⟨⟨n, hm.block (hgr.block _ hm.lt fun e => by have := (hr _ e.symm).1; omega)⟩, cell_kept hp hgr hr', hg.kept hgr hr', Nat.le_trans hs hgr.size⟩, hb.trans ⟨hgr.os, hgr.tape, hgr.output, hgr.size, fun k hk => hgr.block k (by have := hb.size; omega) fun e => by have := (hr _ e.symm).1; have := hbw4.size; omega⟩⟩
  case own2 =>
    rintro W ⟨pre, x⟩ X Y row ⟨⟨⟨n, hm⟩, hp, hg, hs, hs', hx⟩, hb⟩ hgr hr
    have hr' := fun r e => (hr r e).2
    refine ⟨⟨⟨n, hm.block (hgr.block _ hm.lt fun e => by have := (hr _ e.symm).1; omega)⟩, cell_kept hp hgr hr', hg.kept hgr hr', hs, Nat.lt_of_lt_of_le hs' hgr.size, hx.kept hgr hr'⟩, hb.trans ⟨hgr.os, hgr.tape, hgr.output, hgr.size, fun k hk => hgr.block k (by have := hb.size; omega) fun e => by have := (hr _ e.symm).1; have := hbw4.size; omega⟩⟩
  case assign =>
    rintro l pre x W K ⟨⟨⟨n, hm⟩, hp, hg, hs⟩, hb⟩ hlt hK
    rw [(HA.out x).1]
    have HK := Lib.hid hK
    clear hK
    gi_wp2
    have hbW : Below W.heap.size W (W.alloc (Obj.cells (psC plan[x] (A x)).toArray 57)) := (Below.refl _ _).alloc (Nat.le_refl _) _
    refine HK.out _ (keeps_below hbW) ⟨hbW.mono (by have := hb.size; omega), hbW.cell (p := ⟨w1.heap.size + 1 + 1, 0, none⟩) (by show w1.heap.size + 1 + 1 < _; omega)⟩ ⟨⟨⟨n, hm.alloc _⟩, cell_later hbW hp, hg.later hbW, hs, by simp, BoxAt.new _ _ _⟩, hb.trans (hbW.mono (by have := hb.size; omega))⟩
  case body =>
    rintro l pre x W W' ⟨⟨⟨n, hm⟩, hp, hg, hs, hs', hx⟩, hb⟩ hlt
    obtain ⟨p, hpx⟩ : ∃ p, p = plan[x] := ⟨_, rfl⟩
    obtain ⟨ax, hax⟩ : ∃ ax, ax = A x := ⟨_, rfl⟩
    have hps := (HA.out x).2
    have hpv := (HA.out x).1
    have hpi := HPI.out plan[x] (List.getElem_mem _)
    rw [← hpx, ← hax] at hx hps hpv
    rw [← hpx] at hpi
    have hfold : Fit6 p.st → foldP plan pv (pre ++ [x]) = putF (foldP plan pv pre) (sitV p.st) (psV p ax.1 ax.2.1 ax.2.2.1 ax.2.2.2) := fun h => by
      rw [foldP_snoc, putP_yes (by rw [← hpx]; exact h), hpv, ← hpx]
    have hfold' : ¬ Fit6 p.st → foldP plan pv (pre ++ [x]) = foldP plan pv pre := fun h => by
      rw [foldP_snoc, putP_no (by rw [← hpx]; exact h)]
    obtain ⟨c0, c1, c2, c3, c4, c5⟩ : W'.cell? ⟨W.heap.size, 0, none⟩ = some (.int .i64 p.turn) ∧ W'.cell? ⟨W.heap.size, 1, none⟩ = some (.slice ax.1 p.starts.length ax.2.1) ∧ W'.cell? ⟨W.heap.size, 2, none⟩ = some (.slice ax.2.2.1 p.failed.length ax.2.2.2) ∧ W'.cell? ⟨W.heap.size, 3, none⟩ = some (.int .i64 p.budget) ∧ W'.cell? ⟨W.heap.size, 4, none⟩ = some (.int .i64 p.choice) ∧ W'.cell? ⟨W.heap.size, 5, none⟩ = some (.int .i64 p.bound) :=
      ⟨(hx 0 _ rfl).1, (hx 1 _ rfl).1, (hx 2 _ rfl).1, (hx 3 _ rfl).1, (hx 4 _ rfl).1, (hx 5 _ rfl).1⟩
    have HX := Lib.hid hx
    have HF1 := Lib.hid hfold
    have HF2 := Lib.hid hfold'
    have HM := Lib.hid hm
    have HGX := Lib.hid hg
    have HPS := Lib.hid hps
    have HPX := Lib.hid hpi
    clear hx hfold hfold' hpv hpx hm hg hps hpi hax
    by_cases hf : Fit6 p.st
    · have HFF := Lib.hid hf
      clear hf
      gi_wp2_with fail
      refine ⟨trivial, (CallsIn.inRound l (callsIn_wide.2 (sitOf_yes p ax.1 ax.2.2.1 ax.2.1 ax.2.2.2 W' (HPS.out.later hb) HFF.out))).mono ?_⟩
      rintro e W2 ⟨rfl, hb2⟩
      rw [show sitV p.st = sit10 p.turn p.budget p.starts.length (ig p.starts 0) (ig p.starts 1) (ig p.starts 2) (ig p.starts 3) (ig p.starts 4) (ig p.starts 5) (bitsU p.failed p.failed.length) from rfl]
      have hs2 := hb2.size
      have p2 := cell_later hb2 hp
      have hpl2 : w1.heap.size + 1 < W2.heap.size := World.block_lt_of_cell? _ _ p2
      have hWl2 : W.heap.size < W2.heap.size := by omega
      have b0 := cell_later hb2 c0
      have b1 := cell_later hb2 c1
      have b2 := cell_later hb2 c2
      have b3 := cell_later hb2 c3
      have b5 := cell_later hb2 c5
      have b6 := cell_later hb2 c4
      have HB2 := Lib.hid hb2
      have HP2 := Lib.hid p2
      obtain ⟨kl, hkl⟩ := key_pos HPX.out HFF.out
      have HKL := Lib.hid hkl
      clear c0 c1 c2 c3 c4 c5 hb2 hkl
      gi_wp2_with (gi_at_mapUpdate; refine wpListIn_put rfl _ _ _ _ rfl 76 57 lawSit Try.underlying71 w1.heap.size n (foldP plan pv pre) rfl ((HM.out.later HB2.out).alloc _) (sitV p.st) (psV p ax.1 ax.2.1 ax.2.2.1 ax.2.2.2) kl rfl rfl HKL.out ?_; intro W4 hm4 hg4 hsz4)
      obtain ⟨W3, hW3⟩ : ∃ W3, W3 = W2.alloc (Obj.cells #[.int .i64 p.turn, .int .i64 p.budget, .int .i64 p.starts.length, .int .i64 (ig p.starts 0), .int .i64 (ig p.starts 1), .int .i64 (ig p.starts 2), .int .i64 (ig p.starts 3), .int .i64 (ig p.starts 4), .int .i64 (ig p.starts 5), .int .i64 (bitsU p.failed p.failed.length)] 76) := ⟨_, rfl⟩
      rw [← hW3] at hg4
      have hb3 : Below W'.heap.size W' W3 := by rw [hW3]; exact HB2.out.alloc HB2.out.size _
      have hbw := hb.size
      have hne : ∀ k, k ≠ w1.heap.size → some k ≠ some w1.heap.size := fun k h e => h (Option.some.inj e)
      have hb5 : Below w.heap.size W' W4 := (hb3.mono (by omega)).grown hg4 (by have := hb3.size; omega) (fun k hk => by cases hk; have := HBW.out.size; omega)
      have hg3 := HGX.out.later hb3
      refine ⟨(keeps_below hb3).trans (KeepsFrom.of_grownBy hg4 fun j hj => by cases hj; omega), ⟨hb5, ?_⟩, ⟨⟨n + 1, ?_⟩, hg4.cell (cell_later hb3 hp) (hne _ (show w1.heap.size + 1 ≠ w1.heap.size by omega)), ⟨hg4.cell hg3.c0 (hne _ ?_), hg4.cell hg3.c1 (hne _ ?_), hg4.cell hg3.c2 (hne _ ?_)⟩, ?_⟩, hb.trans hb5⟩
      · rw [World.cell?_of_block (hg4.block (w1.heap.size + 1 + 1) (by have := hb3.size; omega) (hne _ (by omega)))]
        exact hb3.cell (p := ⟨w1.heap.size + 1 + 1, 0, none⟩) (by show w1.heap.size + 1 + 1 < _; omega)
      · rw [HF1.out HFF.out]; exact hm4
      · show w.heap.size ≠ w1.heap.size; omega
      · show w.heap.size ≠ w1.heap.size; omega
      · show w.heap.size ≠ w1.heap.size; omega
      · have := hb3.size; have := hg4.size; omega
    · have HFF := Lib.hid hf
      clear hf
      gi_wp2_with fail
      refine ⟨trivial, (CallsIn.inRound l (callsIn_wide.2 (sitOf_no p ax.1 ax.2.2.1 ax.2.1 ax.2.2.2 W' HFF.out))).mono ?_⟩
      rintro e W2 ⟨rfl, hb2⟩
      rw [show sit0 p = sit10 p.turn p.budget p.starts.length 0 0 0 0 0 0 0 from rfl]
      have HB2 := Lib.hid hb2
      clear c0 c1 c2 c3 c4 c5 hb2
      gi_wp2_with fail
      have hb3 : Below W'.heap.size W' (W2.alloc (Obj.cells #[.int .i64 p.turn, .int .i64 p.budget, .int .i64 p.starts.length, .int .i64 0, .int .i64 0, .int .i64 0, .int .i64 0, .int .i64 0, .int .i64 0, .int .i64 0] 76)) := HB2.out.alloc HB2.out.size _
      have hbw := hb.size
      refine ⟨keeps_below hb3, ⟨hb3.mono hbw, hb3.cell (p := ⟨w1.heap.size + 1 + 1, 0, none⟩) (by show w1.heap.size + 1 + 1 < _; omega)⟩, ⟨⟨n, ?_⟩, cell_later hb3 hp, HGX.out.later hb3, by have := hb3.size; omega⟩, hb.trans (hb3.mono hbw)⟩
      rw [HF2.out HFF.out]
      exact HM.out.later hb3
  case done =>
    rintro D xs W hD rfl ⟨⟨⟨n, hm⟩, hp, hg, hs⟩, hb⟩ hdef
    have HM := Lib.hid hm
    have HPM := Lib.hid (posMap_all (plan := plan) (pv := pv) fun j hj => ⟨_, _, _, _, (HA.out ⟨j, hj⟩).1⟩)
    have HDEF := Lib.hid hdef
    have HGX := Lib.hid hg
    obtain ⟨g0, g1, g2⟩ := hg
    have hgW : w.heap.size < W.heap.size := World.block_lt_of_cell? _ _ g0
    have hgW1 : w.heap.size < W.heap.size + 1 := by omega
    have hgW2 : w.heap.size < W.heap.size + 1 + 1 := by omega
    have hgW3 : w.heap.size < W.heap.size + 1 + 1 + 1 := by omega
    clear hm hdef
    gi_wp2_with fail
    go_wp2_with fail
    obtain ⟨wx, hwx⟩ : ∃ wx, wx = (((W.alloc (Obj.map #[] 0)).alloc (Obj.cells #[.map (some W.heap.size)] 79)).alloc (Obj.cells #[.slice none 0 0] 80)).alloc (Obj.cells #[.int .i64 0, .int .i64 g.budget, .int .i64 g.starts.length, .int .i64 0, .int .i64 0, .int .i64 0, .int .i64 0, .int .i64 0, .int .i64 0, .int .i64 0] 76) := ⟨_, rfl⟩
    rw [← hwx]
    have hbx : Below W.heap.size W wx := by rw [hwx]; exact ((((Below.refl _ _).alloc (Nat.le_refl _) _).alloc (by simp) _).alloc (by simp; omega) _).alloc (by simp; omega) _
    have hsx : wx.heap.size = W.heap.size + 1 + 1 + 1 + 1 := by rw [hwx]; simp
    have x1 : SitBox wx (W.heap.size + 1 + 1 + 1) 0 g.budget g.starts.length 0 0 0 0 0 0 0 := by rw [hwx]; constructor <;> first | (simp [go_sem]; done) | (intro j _; simp [go_sem])
    have xm : MapIs Try.prog 76 wx W.heap.size 0 (doneF []) := by rw [hwx]; exact ((((MapIs.made _ _ _).congr fun v => (doneF_nil v).symm).alloc _).alloc _).alloc _
    have xd : wx.cell? ⟨W.heap.size + 1, 0, none⟩ = some (.map (some W.heap.size)) := by rw [hwx]; simp [go_sem]
    have xt : wx.cell? ⟨W.heap.size + 1 + 1, 0, none⟩ = some (.slice none 0 0) := by rw [hwx]; simp [go_sem]
    have xf : wx.frozen? ⟨W.heap.size + 1 + 1, 0, none⟩ = false := by rw [hwx]; simp [go_sem]
    have y0 := cell_later hbx g0
    clear hwx
    have hI0 : Ints wx sa g.starts := (HG.out.s.later hb).later hbx
    have HX1 := Lib.hid x1
    have HXM := Lib.hid xm
    have HXD := Lib.hid xd
    have HXT := Lib.hid xt
    have HXF := Lib.hid xf
    have HBX := Lib.hid hbx
    have HI0 := Lib.hid hI0
    clear x1 xm xd xt xf hbx hI0
    have hS : ∀ wy : World, Below wx.heap.size wx wy → wy.cell? ⟨w.heap.size, 0, none⟩ = some (.slice sa g.starts.length sc) := fun wy hy => cell_later hy y0
    (refine wp_flow_n 4 _ [] [] (fun w' w'' => w'' = w'.setCells (W.heap.size + 1 + 1 + 1) 3 (g.starts.map (Value.int .i64))) (.int .i64 g.starts.length) (by rfl) (by kernel_rfl) (by kernel_rfl) (by kernel_rfl) (by kernel_rfl) ?_); simp only [List.take_succ_cons, List.take_zero]
    repeat (first | ((with_reducible refine Flow.pure hS StayG.nil (v := ?_) ?_ ?_ ?_ ?_); rotate_left 1; (focus kernel_rfl); (focus (intro _; rfl)); (focus (intro β wx hSw; (try dsimp only at hSw); go_simp; (try with_reducible rfl); done)); (try simp only [Act.put, List.setIfInBounds_toArray, List.set_cons_zero, List.set_cons_succ, Nat.reduceAdd])))
    ((with_reducible refine Flow.stop ?_); dsimp only; intro β w3 hI)
    have hb3 := hI.below
    have y2 := HX1.out.later hb3
    have hI3 : Ints w3 sa g.starts := HI0.out.later hb3
    have hsm := hb3.size
    refine ⟨rfl, fun K' hK => ?_, fun w5 hE => ?_⟩
    · have hrun := run_copy_ints (dT := 22) (sT := 22) (ty := 3) Try.underlying22 (B := W.heap.size + 1 + 1 + 1) (o := 3) (dLen := 6) (dCap := 6) (sCap := sc) hI3 h6 (fun j hj => ?_) (fun j hj => y2.fr _ (by omega))
      · have HR := Lib.hid hrun
        clear hrun
        go_simp
        rw [HR.out]
        exact hK.out _ rfl
      · have : j = 0 ∨ j = 1 ∨ j = 2 ∨ j = 3 ∨ j = 4 ∨ j = 5 := by omega
        rcases this with rfl | rfl | rfl | rfl | rfl | rfl
        · rw [show 3 + 0 = 3 from rfl, y2.c3]; rfl
        · rw [show 3 + 1 = 4 from rfl, y2.c4]; rfl
        · rw [show 3 + 2 = 5 from rfl, y2.c5]; rfl
        · rw [show 3 + 3 = 6 from rfl, y2.c6]; rfl
        · rw [show 3 + 4 = 7 from rfl, y2.c7]; rfl
        · rw [show 3 + 5 = 8 from rfl, y2.c8]; rfl
    · have z2 : SitBox w5 (W.heap.size + 1 + 1 + 1) 0 g.budget g.starts.length (ig g.starts 0) (ig g.starts 1) (ig g.starts 2) (ig g.starts 3) (ig g.starts 4) (ig g.starts 5) 0 := by rw [hE]; exact y2.copied h6
      have hk5 : Below (W.heap.size + 1 + 1 + 1) wx w5 := by
        rw [hE]
        exact below_setCells _ _ _ _ (hb3.mono (by omega)) (Nat.le_refl _)
      have hbw5 : Below W.heap.size W w5 := HBX.out.trans (hk5.mono (by omega))
      have hs5 := hk5.size
      have hR : Rea w5 (foldP plan pv (dn plan.length plan.length)) (w1.heap.size + 1) (W.heap.size + 1) (W.heap.size + 1 + 1) w1.heap.size W.heap.size (W.heap.size + 1 + 1 + 1 + 1) [] [] (.slice none 0 0) :=
        ⟨cell_later hbw5 hp, ⟨n, HM.out.later hbw5⟩, (hk5.cell (p := ⟨W.heap.size + 1, 0, none⟩) (by show W.heap.size + 1 < _; omega)).trans HXD.out, ⟨0, HXM.out.block (hk5.block _ (by omega))⟩, (hk5.cell (p := ⟨W.heap.size + 1 + 1, 0, none⟩) (by show W.heap.size + 1 + 1 < _; omega)).trans HXT.out,
          (hk5.frozen (p := ⟨W.heap.size + 1 + 1, 0, none⟩) (by show W.heap.size + 1 + 1 < _; omega)).trans HXF.out, World.ownsRow_nil _ _ _ _, by omega⟩
      have hAp : Apt (w1.heap.size + 1) (W.heap.size + 1) (W.heap.size + 1 + 1) w1.heap.size W.heap.size (W.heap.size + 1 + 1 + 1 + 1) := by constructor <;> omega
      have hib := Inv.begin HVV.out HD.out
      have hcall := reach_any plan _ _ _ _ _ _ _ [] [] _ (beginS g) bound w5 hAp hR HPM.out (hib.fit h6) (by have := HVV.out.2.2.2.1; show g.budget ≤ _; omega) (fun x hx => by cases hx) (fun x hx => (hib.made hx).fit h6) (fun x hx => HVV.out.key (hib.made hx)) (by simp)
      rw [sitV_begin] at hcall
      have HCALL := Lib.hid hcall
      have HAP := Lib.hid hAp
      have HK5 := Lib.hid hk5
      have HG5 := Lib.hid (show GBox w5 w.heap.size g sa sc da dc from (GBox.mk g0 g1 g2).later hbw5)
      have HDE5 := Lib.hid (show w5.heap[D]? = some (.deferred (some [])) from (hbw5.block D (Array.getElem?_eq_some_iff.1 HDEF.out).1).trans HDEF.out)
      have HBW5 := Lib.hid (show Below w.heap.size w w5 from hb.trans (hbw5.mono (by omega)))
      obtain ⟨e0, e1, e2, e3, e4, e5, e6, e7, e8, e9, _⟩ := z2
      clear hE hS hI hb3 y2 hI3 hsm hk5 hbw5 hR hAp hcall y0
      simp only [List.setIfInBounds_toArray, List.set_cons_zero, List.set_cons_succ]
      go_wp2_with fail
      refine Calls.mono HCALL.out ?_
      rintro e w6 ⟨rfl, hch6, hrea6⟩
      clear e0 e1 e2 e3 e4 e5 e6 e7 e8 e9
      cases hre : reachB plan (beginS g) bound
      · have HRE := Lib.hid hre
        clear hre hrea6
        go_wp2_with fail
        have hD6 : w6.heap[D]? = some (.deferred (some [])) := (hch6.block D (Array.getElem?_eq_some_iff.1 HDE5.out).1 (by
          have := (Array.getElem?_eq_some_iff.1 HDEF.out).1
          rintro (h | h | h)
          · omega
          · omega
          · cases h)).trans HDE5.out
        have hb6 : Below w.heap.size w w6 := HBW5.out.trans (hch6.below (by have := HBW5.out.size; omega) (by
          rintro k (h | h | h)
          · omega
          · omega
          · cases h))
        have hwD : w.heap.size ≤ D := by have := hbw4.size; omega
        refine ret_marks (v := .bool false) hD6 (by simp [results, Try.f9, go_sem]) (ret_below (vbool ?_) hb6 hwD hD6)
        exact (accB_false (acc_no_reach HD.out HRE.out)).symm
      · have HRE := Lib.hid hre
        clear hre
        go_wp2_with fail
        have hDlt : D < W.heap.size := (Array.getElem?_eq_some_iff.1 HDEF.out).1
        have hwD : w.heap.size ≤ D := by have := hbw4.size; omega
        have hwW : w.heap.size ≤ W.heap.size := by omega
        obtain ⟨v6, hr6⟩ := hrea6 HRE.out
        have hD6 : w6.heap[D]? = some (.deferred (some [])) := (hch6.block D (Array.getElem?_eq_some_iff.1 HDE5.out).1 (by
          rintro (h | h | h)
          · omega
          · omega
          · cases h)).trans HDE5.out
        have hb6 : Below w.heap.size w w6 := HBW5.out.trans (hch6.below (by have := HBW5.out.size; omega) (by
          rintro k (h | h | h)
          · omega
          · omega
          · cases h))
        have hg6 : GBox w6 w.heap.size g sa sc da dc := HG5.out.chg hch6 (by
          rintro (h | h | h)
          · omega
          · omega
          · cases h)
        have hwl := WL.start HVV.out HD.out HRE.out
        simp only [List.nil_append] at hr6
        go_loopg [61] (2 * (plan.length - (fresh [] (madeL (beginS g))).length) + (fresh [] (madeL (beginS g))).length + 1) (fun k v61 wr => ∃ (Dn Tn : List St) (v : Value), Rea wr (foldP plan pv (dn plan.length plan.length)) (w1.heap.size + 1) (W.heap.size + 1) (W.heap.size + 1 + 1) w1.heap.size W.heap.size (W.heap.size + 1 + 1 + 1 + 1) Dn Tn v ∧ WL g plan bound Dn Tn ∧ Lk w wr g sa sc da dc D ∧ k = 2 * (plan.length - Dn.length) + Tn.length + 1)
        case atStart => exact ⟨_, _, v6, hr6, hwl, ⟨hb6, hg6, hD6⟩, rfl⟩
        case round =>
          obtain ⟨Dn, Tn, v, hr, wl, lk, rfl⟩ := hrel
          have HR := Lib.hid hr
          have WLH := Lib.hid wl
          have HLK := Lib.hid lk
          have ct := hr.cT
          have ft := hr.fT
          clear hg6 hb6 hr6 hwl hD6 hch6 wl lk hrea6
          rcases snoc_or Tn with rfl | ⟨T', s, rfl⟩
          · obtain ⟨oa, c, rfl⟩ : ∃ oa c, v = .slice oa 0 c := by
              rcases HR.out.own.2 with ⟨e, _⟩ | ⟨g', cap', cur, e, _⟩
              · exact ⟨_, _, e⟩
              · exact ⟨_, _, e⟩
            go_wp2_with fail
            refine ret_marks (v := .bool true) HLK.out.d (by simp [results, Try.f9, go_sem]) (ret_below (vbool ?_) HLK.out.b hwD HLK.out.d)
            exact (accB_true (WLH.out.acc HVV.out HD.out)).symm
          · obtain ⟨gb, cap, rfl, hgb, hfam⟩ := HR.out.own.fam (by simp)
            have hsa := hfam T'.length (by simp)
            rw [List.getElem_append_right (Nat.le_refl _)] at hsa
            simp only [Nat.sub_self, List.getElem_cons_zero] at hsa
            obtain ⟨k0, k1, k2, k3, k4, k5, k6, k7, k8, k9⟩ := hsa
            have hlen : ((T' ++ [s]).length : Int) = (T'.length : Int) + 1 := by simp
            have hpop := HR.out.own.pop
            have i0 : (0 : Int) ≤ (T'.length : Int) := by omega
            have hmt : w1.heap.size ≠ W.heap.size + 1 + 1 := by omega
            have HMT := Lib.hid hmt
            clear hmt
            have htl := WLH.out.tlen
            have htl : T'.length + 1 ≤ 100000 := by simp at htl; omega
            have i1 : (T'.length : Int) < (T'.length : Int) + 1 := Int.lt_succ _
            have hgbr : gb < wr.heap.size := (World.ownsRow.lt HR.out.own gb rfl).2
            have hcap : T'.length ≤ cap := by
              rcases hpop.2 with ⟨e, _⟩ | ⟨_, _, _, e, _, _, hc, _⟩
              · cases e
              · cases e; exact hc
            have icap : (T'.length : Int) ≤ (cap : Int) := Int.ofNat_le.2 hcap
            have HPOP := Lib.hid hpop
            clear hfam hr hpop
            obtain ⟨p, hp, hpb⟩ := WLH.out.pos s (WLH.out.sub s (by simp))
            have hinv := WLH.out.inv s (WLH.out.sub s (by simp))
            have hft := hinv.fit h6
            have hpm := HPM.out s hft
            rw [hp] at hpm
            obtain ⟨psa, psc, pfa, pfc, hpx⟩ := hpm
            obtain ⟨kl, hkl⟩ := HVV.out.key hinv
            have HPX := Lib.hid hpx
            have HPIN := Lib.hid (HPI.out p (posAt_st hp).1)
            have HPO := Lib.hid hp
            have HIN := Lib.hid hinv
            have HFT := Lib.hid hft
            have HKL := Lib.hid hkl
            clear hpx hp hinv hft hkl
            have cP := HR.out.cP
            have hPr : w1.heap.size + 1 < wr.heap.size := World.block_lt_of_cell? _ _ cP
            have hTr : W.heap.size + 1 + 1 < wr.heap.size := World.block_lt_of_cell? _ _ ct
            obtain ⟨np, mP⟩ := HR.out.mP
            have HMP := Lib.hid mP
            clear mP
            rw [show (T' ++ [s]).length = T'.length + 1 by simp] at ct
            have ht0 := HIN.out.t0
            have htn := HIN.out.tn
            have g1r := HLK.out.g.c1
            have l0 : w.heap.size < wr.heap.size := World.block_lt_of_cell? _ _ g1r
            have l1 : w.heap.size < wr.heap.size + 1 := by omega
            have l2 : w.heap.size < wr.heap.size + 1 + 1 := by omega
            have lT : W.heap.size + 1 + 1 ≠ w.heap.size := by omega
            have hrc := WLH.out.rch s (WLH.out.sub s (by simp))
            have HRC := Lib.hid hrc
            have hDT : D ≠ W.heap.size + 1 + 1 := by omega
            have hwT : w.heap.size < W.heap.size + 1 + 1 := by omega
            have hb18 : ∀ (v1 v2 v3 : Array Value) (t1 t2 t3 : TypeId), Below (wr.setCell ⟨W.heap.size + 1 + 1, 0, none⟩ (.slice (some ⟨gb, 0, none⟩) T'.length cap)).heap.size (wr.setCell ⟨W.heap.size + 1 + 1, 0, none⟩ (.slice (some ⟨gb, 0, none⟩) T'.length cap)) ((((wr.setCell ⟨W.heap.size + 1 + 1, 0, none⟩ (.slice (some ⟨gb, 0, none⟩) T'.length cap)).alloc (.cells v1 t1)).alloc (.cells v2 t2)).alloc (.cells v3 t3)) := fun v1 v2 v3 t1 t2 t3 => (((Below.refl _ _).alloc (Nat.le_refl _) _).alloc (by simp) _).alloc (by simp; omega) _
            have HB18 := Lib.hid hb18
            have HSK := Lib.hid (show ∀ k, SR W.heap.size (W.heap.size + 1 + 1) (.slice (some ⟨gb, 0, none⟩) T'.length cap) k → w.heap.size < k from fun k h => by
              rcases h with h | h | h
              · rw [h]; exact hgW
              · rw [h]; exact hgW2
              · obtain rfl : gb = k := Option.some.inj h
                omega)
            have HSD := Lib.hid (show ¬ SR W.heap.size (W.heap.size + 1 + 1) (.slice (some ⟨gb, 0, none⟩) T'.length cap) D from fun h => by
              rcases h with h | h | h
              · omega
              · omega
              · obtain rfl : gb = D := Option.some.inj h
                omega)
            have HLQ := Lib.hid (HLK.out.setCell hwT hDT (.slice (some ⟨gb, 0, none⟩) T'.length cap))
            have HRQ := Lib.hid (HR.out.popped HAP.out)
            clear hb18 hrc hDT hwT
            by_cases hc : p.choice = -1
            · have dch : (p.choice != -1) = false := by simpa using hc
              have HC := Lib.hid hc
              have HLO := Lib.hid (show lostP p = 1 by unfold lostP; rw [if_pos hc])
              have HCAN := Lib.hid (show can g s p.choice from .inl hc)
              clear hc
              have HCQ := Lib.hid (show ∀ wx, Rea wx (foldP plan pv (dn plan.length plan.length)) (w1.heap.size + 1) (W.heap.size + 1) (W.heap.size + 1 + 1) w1.heap.size W.heap.size (W.heap.size + 1 + 1 + 1 + 1) Dn T' (.slice (some ⟨gb, 0, none⟩) T'.length cap) → ¬ s.turn + 1 = (g.deps.length : Int) →
                Calls Try.prog 34 #[sit10 (s.turn + 1) s.budget s.starts.length (ig s.starts 0) (ig s.starts 1) (ig s.starts 2) (ig s.starts 3) (ig s.starts 4) (ig s.starts 5) (bitsU s.failed s.failed.length), .int .i64 (p.bound - 1), .pointer (some ⟨w1.heap.size + 1, 0, none⟩), .pointer (some ⟨W.heap.size + 1, 0, none⟩), .pointer (some ⟨W.heap.size + 1 + 1, 0, none⟩)] wx (RchR plan (foldP plan pv (dn plan.length plan.length)) (w1.heap.size + 1) (W.heap.size + 1) (W.heap.size + 1 + 1) w1.heap.size W.heap.size (W.heap.size + 1 + 1 + 1 + 1) Dn T' (.slice (some ⟨gb, 0, none⟩) T'.length cap) (afterS s p.choice) (p.bound - lostP p) wx) from fun wx hrx htx => by
                  have hin := HIN.out.after HCAN.out htx
                  have h := reach_any plan _ _ _ _ _ _ _ Dn T' _ (afterS s p.choice) (p.bound - lostP p) wx HAP.out hrx HPM.out (hin.fit h6) (by have := HVV.out.2.2.2.1; have := hin.b0; omega) (fun x hx => (WLH.out.inv x hx).fit h6) (fun x hx => (hin.made hx).fit h6) (fun x hx => HVV.out.key (hin.made hx)) (by omega)
                  rw [show sitV (afterS s p.choice) = sit10 (s.turn + 1) s.budget s.starts.length (ig s.starts 0) (ig s.starts 1) (ig s.starts 2) (ig s.starts 3) (ig s.starts 4) (ig s.starts 5) (bitsU s.failed s.failed.length) by rw [HC.out, afterS_none]; rfl, show p.bound - lostP p = p.bound - 1 by rw [HLO.out]] at h
                  rw [HLO.out]
                  exact h)
              by_cases htu : s.turn + 1 = (g.deps.length : Int)
              · have dtu : (s.turn + 1 == (g.deps.length : Int)) = true := by simpa using htu
                have HTU := Lib.hid htu
                clear htu
                by_cases hbn : p.bound < 1
                · have dbn : decide (p.bound < 1) = true := decide_eq_true hbn
                  have HNO := Lib.hid (show ¬ Acc g plan bound from acc_no_node HD.out HRC.out (node_no_bound HPO.out HTU.out (by rw [HLO.out]; omega)))
                  clear hbn
                  go_wp2_with (at_lookup; refine wpList_look rfl _ _ _ rfl 76 57 lawSit Try.underlying71 psZ zeroPs w1.heap.size np (foldP plan pv (dn plan.length plan.length)) rfl ?_ (sitV s) kl rfl HKL.out ?_; exact (HMP.out.setCell (a := ⟨W.heap.size + 1 + 1, 0, none⟩) HMT.out _).alloc _; rw [HPX.out]; dsimp only [Option.getD, psV])
                  refine ret_marks (v := .bool false) ?lkd (by simp [results, Try.f9, go_sem]) (ret_below (vbool ?lkv) ?lkb hwD ?lkd)
                  case lkd => exact (HLQ.out.later (HB18.out _ _ _ _ _ _)).d
                  case lkb => exact (HLQ.out.later (HB18.out _ _ _ _ _ _)).b
                  case lkv => exact (accB_false HNO.out).symm
                · have dbn : decide (p.bound < 1) = false := decide_eq_false hbn
                  have HWL := Lib.hid (WLH.out.last HPO.out HCAN.out HTU.out (by rw [HLO.out]; omega))
                  clear hbn
                  go_wp2_with (at_lookup; refine wpList_look rfl _ _ _ rfl 76 57 lawSit Try.underlying71 psZ zeroPs w1.heap.size np (foldP plan pv (dn plan.length plan.length)) rfl ?_ (sitV s) kl rfl HKL.out ?_; exact (HMP.out.setCell (a := ⟨W.heap.size + 1 + 1, 0, none⟩) HMT.out _).alloc _; rw [HPX.out]; dsimp only [Option.getD, psV])
                  go_roundg (2 * (plan.length - Dn.length) + T'.length + 1)
                  case measure => simp <;> omega
                  case rel => exact ⟨Dn, T', _, HRQ.out.later (HB18.out _ _ _ _ _ _), HWL.out, HLQ.out.later (HB18.out _ _ _ _ _ _), rfl⟩
              · have dtu : (s.turn + 1 == (g.deps.length : Int)) = false := by simpa using htu
                have HTU := Lib.hid htu
                clear htu
                go_wp2_with (at_lookup; refine wpList_look rfl _ _ _ rfl 76 57 lawSit Try.underlying71 psZ zeroPs w1.heap.size np (foldP plan pv (dn plan.length plan.length)) rfl ?_ (sitV s) kl rfl HKL.out ?_; exact (HMP.out.setCell (a := ⟨W.heap.size + 1 + 1, 0, none⟩) HMT.out _).alloc _; rw [HPX.out]; dsimp only [Option.getD, psV])
                (rw [show wrap64 (p.bound - 1) = p.bound - 1 by have := HPIN.out.d; unfold inI at this; unfold wrap64; omega])
                refine Calls.mono (HCQ.out _ (HRQ.out.later (HB18.out _ _ _ _ _ _)) HTU.out) ?_
                rintro e w7 ⟨rfl, hch7, hrea7⟩
                have hlk := (HLQ.out.later (HB18.out _ _ _ _ _ _)).chg hch7 HSK.out HSD.out
                have HL7 := Lib.hid hlk
                clear hlk hch7
                cases hre7 : reachB plan (afterS s p.choice) (p.bound - lostP p)
                · have HRE7 := Lib.hid hre7
                  clear hre7 hrea7
                  go_wp2_with fail
                  refine ret_marks (v := .bool false) HL7.out.d (by simp [results, Try.f9, go_sem]) (ret_below (vbool ?_) HL7.out.b hwD HL7.out.d)
                  exact (accB_false (acc_no_node HD.out HRC.out (node_no_reach HPO.out HTU.out HRE7.out))).symm
                · obtain ⟨v7, hr7⟩ := hrea7 hre7
                  have HR7 := Lib.hid hr7
                  have hw7 := WLH.out.next HPO.out HCAN.out HTU.out hre7
                  have HW7 := Lib.hid hw7
                  have hle7 := hw7.len
                  clear hre7 hrea7 hr7 hw7
                  go_wp2_with fail
                  go_roundg (2 * (plan.length - (Dn ++ fresh Dn (madeL (afterS s p.choice))).length) + (T' ++ fresh Dn (madeL (afterS s p.choice))).length + 1)
                  case measure => simp at hle7 ⊢; omega
                  case rel => exact ⟨_, _, v7, HR7.out, HW7.out, HL7.out, rfl⟩
            · have dch : (p.choice != -1) = true := by simpa using hc
              have HC := Lib.hid hc
              have HLO := Lib.hid (show lostP p = 0 by unfold lostP; rw [if_neg hc])
              clear hc
              go_wp2_with (at_lookup; refine wpList_look rfl _ _ _ rfl 76 57 lawSit Try.underlying71 psZ zeroPs w1.heap.size np (foldP plan pv (dn plan.length plan.length)) rfl ?_ (sitV s) kl rfl HKL.out ?_; exact (HMP.out.setCell (a := ⟨W.heap.size + 1 + 1, 0, none⟩) HMT.out _).alloc _; rw [HPX.out]; dsimp only [Option.getD, psV])
              obtain ⟨wq, hwq⟩ : ∃ wq, wq = (((wr.setCell ⟨W.heap.size + 1 + 1, 0, none⟩ (.slice (some ⟨gb, 0, none⟩) T'.length cap)).alloc (Obj.cells #[.int .i64 s.turn, .int .i64 s.budget, .int .i64 s.starts.length, .int .i64 (ig s.starts 0), .int .i64 (ig s.starts 1), .int .i64 (ig s.starts 2), .int .i64 (ig s.starts 3), .int .i64 (ig s.starts 4), .int .i64 (ig s.starts 5), .int .i64 (bitsU s.failed s.failed.length)] 76)).alloc
                (Obj.cells #[.int .i64 p.turn, .slice psa p.starts.length psc, .slice pfa p.failed.length pfc, .int .i64 p.budget, .int .i64 p.choice, .int .i64 p.bound] 57)).alloc (Obj.cells #[.int .i64 (s.turn + 1), .int .i64 s.budget, .int .i64 s.starts.length, .int .i64 (ig s.starts 0), .int .i64 (ig s.starts 1), .int .i64 (ig s.starts 2), .int .i64 (ig s.starts 3), .int .i64 (ig s.starts 4), .int .i64 (ig s.starts 5), .int .i64 (bitsU s.failed s.failed.length)] 76) := ⟨_, rfl⟩
              rw [← hwq]
              have hlq : Lk w wq g sa sc da dc D := by rw [hwq]; exact HLQ.out.later (HB18.out _ _ _ _ _ _)
              have HRX := Lib.hid (show Rea wq (foldP plan pv (dn plan.length plan.length)) (w1.heap.size + 1) (W.heap.size + 1) (W.heap.size + 1 + 1) w1.heap.size W.heap.size (W.heap.size + 1 + 1 + 1 + 1) Dn T' (.slice (some ⟨gb, 0, none⟩) T'.length cap) by rw [hwq]; exact HRQ.out.later (HB18.out _ _ _ _ _ _))
              have b16 : BoxSit wq wr.heap.size s := by rw [hwq]; constructor <;> first | (simp [go_sem]; done) | (intro j _; simp [go_sem])
              have b18 : BoxSit wq (wr.heap.size + 1 + 1) (afterS s (-1)) := by rw [hwq, afterS_none]; constructor <;> first | (simp [go_sem]; done) | (intro j _; simp [go_sem])
              have q4 : wq.cell? ⟨wr.heap.size + 1, 4, none⟩ = some (.int .i64 p.choice) := by rw [hwq]; simp [go_sem]
              have q5 : wq.cell? ⟨wr.heap.size + 1, 5, none⟩ = some (.int .i64 p.bound) := by rw [hwq]; simp [go_sem]
              have hsq : wq.heap.size = wr.heap.size + 1 + 1 + 1 := by rw [hwq]; simp
              clear hwq
              obtain ⟨rb, ro, ra, rc, hda, hcell, hrow⟩ := HG.out.d s.turn.toNat (by omega)
              subst hda
              obtain ⟨row, hrw⟩ : ∃ row, row = g.deps.getD s.turn.toNat [] := ⟨_, rfl⟩
              have hlrow := HF.out.r s.turn.toNat (by omega)
              have hokd := HVV.out.2.2.2.2.2 s.turn.toNat (by omega)
              rw [show dg g s.turn.toNat = row from hrw.symm] at hlrow hokd
              rw [← hrw] at hcell hrow
              have HRW := Lib.hid (show dg g s.turn.toNat = row from hrw.symm)
              have r0 := cell_later hlq.b hcell
              have hrow' := hrow.later hlq.b
              have s0 := b16.c0
              have HOKD := Lib.hid hokd
              have HLQQ := Lib.hid hlq
              have H16 := Lib.hid b16
              have H18 := Lib.hid b18
              have c1q := hlq.g.c1
              clear hrw hcell hrow hokd b16 b18 hlq g1r
              by_cases hin : p.choice ∈ row
              · have hdom := okDep_dom HOKD.out hin
                obtain ⟨q, hq⟩ : ∃ q : Nat, p.choice = (q : Int) := ⟨p.choice.toNat, by omega⟩
                have hql : q < g.starts.length := by omega
                have hqs : q < s.starts.length := by rw [HIN.out.ls]; exact hql
                have hq6 : q < 6 := by omega
                have HIR := Lib.hid (show (q : Int) ∈ dg g s.turn.toNat by rw [HRW.out, ← hq]; exact hin)
                have HCON := Lib.hid (show ∀ wx, Ints wx ra row → Calls Try.prog 36 #[.slice ra row.length rc, .int .i64 (q : Int)] wx (RetS (.bool true) wx) from fun wx hi => by
                  have := contains_any row (q : Int) ra rc wx hi (by omega)
                  rwa [decide_eq_true (by rw [← hq]; exact hin)] at this)
                rw [hq] at q4
                have HQ := Lib.hid hq
                have u9 := H16.out.c9
                have u3 := H16.out.start hq6
                have hst := HIN.out.st q hqs
                have hgs := HVV.out.2.2.2.2.1 q hql
                obtain ⟨u, hu⟩ : ∃ u, u = ig s.starts q := ⟨_, rfl⟩
                rw [← hu] at u3 hst
                have HU := Lib.hid hu
                have qi0 : (0 : Int) ≤ (q : Int) := by omega
                have qi6 : (q : Int) < 6 := by omega
                have hat := bitsU_at s.failed s.failed.length (v := q) (by rw [HIN.out.lf]; exact hql)
                have hand : bits .and .i64 ((bitsU s.failed s.failed.length : Int) / 2 ^ q) 1 = ((bitsU s.failed s.failed.length / 2 ^ q % 2 : Nat) : Int) := by rw [and_one]; norm_cast
                rw [hat] at hand
                clear hat hq hin hdom hu
                have hS : ∀ wx : World, Below wq.heap.size wq wx → (wx.cell? ⟨w.heap.size, 1, none⟩ = some (.slice (some ⟨rb, ro, none⟩) g.deps.length dc) ∧ wx.cell? ⟨wr.heap.size, 0, none⟩ = some (.int .i64 s.turn) ∧ wx.cell? ⟨rb, ro + s.turn.toNat, none⟩ = some (.slice ra row.length rc) ∧ wx.cell? ⟨wr.heap.size + 1, 4, none⟩ = some (.int .i64 (q : Int)) ∧ wx.cell? ⟨wr.heap.size, 9, none⟩ = some (.int .i64 (bitsU s.failed s.failed.length)) ∧ wx.cell? ⟨wr.heap.size, 3 + q, none⟩ = some (.int .i64 u)) ∧ Ints wx ra row :=
                  fun wx hx => ⟨⟨cell_later hx c1q, cell_later hx s0, cell_later hx r0, cell_later hx q4, cell_later hx u9, cell_later hx u3⟩, hrow'.later hx⟩
                cases hbf : bg s.failed q
                · rw [hbf] at hand
                  have hand' : bits .and .i64 ((bitsU s.failed s.failed.length : Int) / 2 ^ q) 1 = 0 := hand
                  have HBF := Lib.hid hbf
                  clear hand hbf
                  by_cases hu0 : u ≤ 0
                  · have du : decide (u ≤ 0) = true := decide_eq_true hu0
                    have HNO := Lib.hid (show ¬ Acc g plan bound from acc_no_node HD.out HRC.out (node_no_can HPO.out fun h => by
                      rcases h with h | ⟨_, _, h⟩
                      · exact HC.out h
                      · rw [HQ.out] at h
                        have h' : 0 < ig s.starts q := h
                        rw [← HU.out] at h'
                        omega))
                    clear hu0 hst hgs
                    refine wp_flow_s [] [] (by kernel_rfl) (by kernel_rfl) (by kernel_rfl) ?_
                    repeat (first | ((with_reducible refine Flow.pure hS StayG.nil (v := ?_) ?_ ?_ ?_ ?_); rotate_left 1; (focus kernel_rfl); (focus (intro _; rfl)); (focus (intro β wx hSw; (try dsimp only at hSw); go_simp; (try with_reducible rfl); done)); (try simp only [Act.put, List.setIfInBounds_toArray, List.set_cons_zero, List.set_cons_succ, Nat.reduceAdd])) | ((with_reducible refine Flow.skip StayG.nil ?_ ?_ ?_); (focus kernel_rfl); (focus (intro _; rfl)); (try simp only [Act.put, List.setIfInBounds_toArray, List.set_cons_zero, List.set_cons_succ, Nat.reduceAdd])) | ((with_reducible refine Flow.call hS StayG.nil (v := ?_) ?_ ?_ ?_ ?_); rotate_left 1; (focus kernel_rfl); (focus (intro _; rfl)); (focus (intro β L wx hI hat hSw K' hK; (try dsimp only at hSw); go_simp; go_at_call 36; refine Calls.mono (HCON.out _ hSw.2) ?_; rintro e w' ⟨rfl, rfl⟩; exact hK.out _ (Below.refl _ _))); (try simp only [Act.put, List.setIfInBounds_toArray, List.set_cons_zero, List.set_cons_succ, Nat.reduceAdd])))
                    ((with_reducible refine Flow.stop ?_); dsimp only; intro β w8 hI)
                    have hb8 := hI.below
                    clear hS hI
                    go_wp2_with fail
                    have hl8 := HLQQ.out.later hb8
                    refine ret_marks (v := .bool false) hl8.d (by simp [results, Try.f9, go_sem]) (ret_below (vbool ?_) hl8.b hwD hl8.d)
                    exact (accB_false HNO.out).symm
                  · have du : decide (u ≤ 0) = false := decide_eq_false hu0
                    have hu12 : u ≤ 12 := by omega
                    have HCAN := Lib.hid (show can g s p.choice from .inr ⟨by rw [HQ.out]; exact HIR.out, by rw [HQ.out]; exact HBF.out, by rw [HQ.out]; show 0 < ig s.starts q; rw [← HU.out]; omega⟩)
                    have hu1 : 0 < u := by omega
                    clear hu0 hst hgs
                    refine wp_flow_s [] [] (by kernel_rfl) (by kernel_rfl) (by kernel_rfl) ?_
                    repeat (first | ((with_reducible refine Flow.pure hS StayG.nil (v := ?_) ?_ ?_ ?_ ?_); rotate_left 1; (focus kernel_rfl); (focus (intro _; rfl)); (focus (intro β wx hSw; (try dsimp only at hSw); go_simp; (try with_reducible rfl); done)); (try simp only [Act.put, List.setIfInBounds_toArray, List.set_cons_zero, List.set_cons_succ, Nat.reduceAdd])) | ((with_reducible refine Flow.skip StayG.nil ?_ ?_ ?_); (focus kernel_rfl); (focus (intro _; rfl)); (try simp only [Act.put, List.setIfInBounds_toArray, List.set_cons_zero, List.set_cons_succ, Nat.reduceAdd])) | ((with_reducible refine Flow.call hS StayG.nil (v := ?_) ?_ ?_ ?_ ?_); rotate_left 1; (focus kernel_rfl); (focus (intro _; rfl)); (focus (intro β L wx hI hat hSw K' hK; (try dsimp only at hSw); go_simp; go_at_call 36; refine Calls.mono (HCON.out _ hSw.2) ?_; rintro e w' ⟨rfl, rfl⟩; exact hK.out _ (Below.refl _ _))); (try simp only [Act.put, List.setIfInBounds_toArray, List.set_cons_zero, List.set_cons_succ, Nat.reduceAdd])))
                    ((with_reducible refine Flow.stop ?_); dsimp only; intro β w8 hI)
                    have hb8 := hI.below
                    clear hS hI
                    obtain ⟨s9, hs9⟩ : ∃ s9, s9 = afterS s (q : Int) := ⟨_, rfl⟩
                    have ht9 : s9.turn = s.turn + 1 := by rw [hs9]; rfl
                    have hu8 : w8.cell? ⟨wr.heap.size + 1 + 1, 3 + q, none⟩ = some (.int .i64 u) := by
                      have := BoxSit.start (H18.out.later hb8) hq6
                      rw [HU.out, this, afterS_none]
                    have hf8 := (H18.out.later hb8).fr (3 + q) (by omega)
                    have h48 := cell_later hb8 q4
                    obtain ⟨R9, hR9⟩ : ∃ R9 : World → Prop, R9 = fun w' => BoxSit w' (wr.heap.size + 1 + 1) s9 ∧ w'.cell? ⟨wr.heap.size + 1, 5, none⟩ = some (.int .i64 p.bound) ∧ Lk w w' g sa sc (some ⟨rb, ro, none⟩) dc D ∧ Rea w' (foldP plan pv (dn plan.length plan.length)) (w1.heap.size + 1) (W.heap.size + 1) (W.heap.size + 1 + 1) w1.heap.size W.heap.size (W.heap.size + 1 + 1 + 1 + 1) Dn T' (.slice (some ⟨gb, 0, none⟩) T'.length cap) := ⟨_, rfl⟩
                    have HR9 := Lib.hid (show R9 (w8.setCell ⟨wr.heap.size + 1 + 1, 3 + q, none⟩ (.int .i64 (u - 1))) by
                      rw [hR9]
                      refine ⟨by rw [hs9, HU.out]; exact BoxSit.took (H18.out.later hb8) hqs (by rw [HIN.out.ls]; exact h6), cell_ne (cell_later hb8 q5) (.inl (by omega)), (HLQQ.out.later hb8).setCell' (by omega) (by omega) _, ?_⟩
                      exact (HRX.out.later hb8).far (by omega) (by omega) (by omega) (by omega) (by omega) (by omega) _)
                    have hr9 := HR9.out
                    rw [hR9] at hr9
                    obtain ⟨⟨n0, n1, n2, n3, n4, n5, n6, n7, n8, n9, _⟩, nb, hl9, hre9⟩ := hr9
                    have HL9 := Lib.hid hl9
                    have HR99 := Lib.hid hre9
                    have gl9 := hl9.g.c1
                    rw [ht9] at n0
                    clear hl9 hre9 hR9 HR9
                    have HS9 := Lib.hid hs9
                    have HT9 := Lib.hid ht9
                    have HCQ := Lib.hid (show ∀ wx, Rea wx (foldP plan pv (dn plan.length plan.length)) (w1.heap.size + 1) (W.heap.size + 1) (W.heap.size + 1 + 1) w1.heap.size W.heap.size (W.heap.size + 1 + 1 + 1 + 1) Dn T' (.slice (some ⟨gb, 0, none⟩) T'.length cap) → ¬ s.turn + 1 = (g.deps.length : Int) →
                        Calls Try.prog 34 #[sit10 (s.turn + 1) s9.budget s9.starts.length (ig s9.starts 0) (ig s9.starts 1) (ig s9.starts 2) (ig s9.starts 3) (ig s9.starts 4) (ig s9.starts 5) (bitsU s9.failed s9.failed.length), .int .i64 p.bound, .pointer (some ⟨w1.heap.size + 1, 0, none⟩), .pointer (some ⟨W.heap.size + 1, 0, none⟩), .pointer (some ⟨W.heap.size + 1 + 1, 0, none⟩)] wx (RchR plan (foldP plan pv (dn plan.length plan.length)) (w1.heap.size + 1) (W.heap.size + 1) (W.heap.size + 1 + 1) w1.heap.size W.heap.size (W.heap.size + 1 + 1 + 1 + 1) Dn T' (.slice (some ⟨gb, 0, none⟩) T'.length cap) (afterS s p.choice) (p.bound - lostP p) wx) from fun wx hrx htx => by
                          have hin := HIN.out.after HCAN.out htx
                          have h := reach_any plan _ _ _ _ _ _ _ Dn T' _ (afterS s p.choice) (p.bound - lostP p) wx HAP.out hrx HPM.out (hin.fit h6) (by have := HVV.out.2.2.2.1; have := hin.b0; omega) (fun x hx => (WLH.out.inv x hx).fit h6) (fun x hx => (hin.made hx).fit h6) (fun x hx => HVV.out.key (hin.made hx)) (by omega)
                          rw [HQ.out, ← HS9.out] at h ⊢
                          rw [show sitV s9 = sit10 (s.turn + 1) s9.budget s9.starts.length (ig s9.starts 0) (ig s9.starts 1) (ig s9.starts 2) (ig s9.starts 3) (ig s9.starts 4) (ig s9.starts 5) (bitsU s9.failed s9.failed.length) by unfold sitV; rw [HT9.out], show p.bound - lostP p = p.bound by rw [HLO.out]; omega] at h
                          rw [show p.bound - lostP p = p.bound by rw [HLO.out]; omega]
                          exact h)
                    clear hs9 hb8
                    by_cases htu : s.turn + 1 = (g.deps.length : Int)
                    · have dtu : (s.turn + 1 == (g.deps.length : Int)) = true := by simpa using htu
                      have HTU := Lib.hid htu
                      clear htu
                      by_cases hbn : p.bound < 0
                      · exfalso; omega
                      · have dbn : decide (p.bound < 0) = false := decide_eq_false hbn
                        have HWL := Lib.hid (WLH.out.last HPO.out HCAN.out HTU.out (by rw [HLO.out]; omega))
                        clear hbn
                        go_wp2_with fail
                        go_roundg (2 * (plan.length - Dn.length) + T'.length + 1)
                        case measure => simp <;> omega
                        case rel => exact ⟨Dn, T', _, HR99.out, HWL.out, HL9.out, rfl⟩
                    · have dtu : (s.turn + 1 == (g.deps.length : Int)) = false := by simpa using htu
                      have HTU := Lib.hid htu
                      clear htu
                      go_wp2_with fail
                      (rw [show wrap64 p.bound = p.bound by have := HPIN.out.d; unfold inI at this; unfold wrap64; omega])
                      refine Calls.mono (HCQ.out _ (HR99.out) HTU.out) ?_
                      rintro e w7 ⟨rfl, hch7, hrea7⟩
                      have hlk := (HL9.out).chg hch7 HSK.out HSD.out
                      have HL7 := Lib.hid hlk
                      clear hlk hch7
                      cases hre7 : reachB plan (afterS s p.choice) (p.bound - lostP p)
                      · have HRE7 := Lib.hid hre7
                        clear hre7 hrea7
                        go_wp2_with fail
                        refine ret_marks (v := .bool false) HL7.out.d (by simp [results, Try.f9, go_sem]) (ret_below (vbool ?_) HL7.out.b hwD HL7.out.d)
                        exact (accB_false (acc_no_node HD.out HRC.out (node_no_reach HPO.out HTU.out HRE7.out))).symm
                      · obtain ⟨v7, hr7⟩ := hrea7 hre7
                        have HR7 := Lib.hid hr7
                        have hw7 := WLH.out.next HPO.out HCAN.out HTU.out hre7
                        have HW7 := Lib.hid hw7
                        have hle7 := hw7.len
                        clear hre7 hrea7 hr7 hw7
                        go_wp2_with fail
                        go_roundg (2 * (plan.length - (Dn ++ fresh Dn (madeL (afterS s p.choice))).length) + (T' ++ fresh Dn (madeL (afterS s p.choice))).length + 1)
                        case measure => simp at hle7 ⊢; omega
                        case rel => exact ⟨_, _, v7, HR7.out, HW7.out, HL7.out, rfl⟩
                · rw [hbf] at hand
                  have hand' : bits .and .i64 ((bitsU s.failed s.failed.length : Int) / 2 ^ q) 1 = 1 := hand
                  have HNO := Lib.hid (show ¬ Acc g plan bound from acc_no_node HD.out HRC.out (node_no_can HPO.out fun h => by
                    rcases h with h | ⟨_, h, _⟩
                    · exact HC.out h
                    · rw [HQ.out] at h
                      have h' : bg s.failed q = false := h
                      rw [hbf] at h'
                      cases h'))
                  clear hand hbf
                  refine wp_flow_s [] [] (by kernel_rfl) (by kernel_rfl) (by kernel_rfl) ?_
                  repeat (first | ((with_reducible refine Flow.pure hS StayG.nil (v := ?_) ?_ ?_ ?_ ?_); rotate_left 1; (focus kernel_rfl); (focus (intro _; rfl)); (focus (intro β wx hSw; (try dsimp only at hSw); go_simp; (try with_reducible rfl); done)); (try simp only [Act.put, List.setIfInBounds_toArray, List.set_cons_zero, List.set_cons_succ, Nat.reduceAdd])) | ((with_reducible refine Flow.skip StayG.nil ?_ ?_ ?_); (focus kernel_rfl); (focus (intro _; rfl)); (try simp only [Act.put, List.setIfInBounds_toArray, List.set_cons_zero, List.set_cons_succ, Nat.reduceAdd])) | ((with_reducible refine Flow.call hS StayG.nil (v := ?_) ?_ ?_ ?_ ?_); rotate_left 1; (focus kernel_rfl); (focus (intro _; rfl)); (focus (intro β L wx hI hat hSw K' hK; (try dsimp only at hSw); go_simp; go_at_call 36; refine Calls.mono (HCON.out _ hSw.2) ?_; rintro e w' ⟨rfl, rfl⟩; exact hK.out _ (Below.refl _ _))); (try simp only [Act.put, List.setIfInBounds_toArray, List.set_cons_zero, List.set_cons_succ, Nat.reduceAdd])))
                  ((with_reducible refine Flow.stop ?_); dsimp only; intro β w8 hI)
                  have hb8 := hI.below
                  clear hS hI
                  go_wp2_with fail
                  have hl8 := HLQQ.out.later hb8
                  refine ret_marks (v := .bool false) hl8.d (by simp [results, Try.f9, go_sem]) (ret_below (vbool ?_) hl8.b hwD hl8.d)
                  exact (accB_false HNO.out).symm
              · have HCON := Lib.hid (show ∀ wx, Ints wx ra row → Calls Try.prog 36 #[.slice ra row.length rc, .int .i64 p.choice] wx (RetS (.bool false) wx) from fun wx hi => by
                  have := contains_any row p.choice ra rc wx hi (by omega)
                  rwa [decide_eq_false hin] at this)
                have HNO := Lib.hid (show ¬ Acc g plan bound from acc_no_node HD.out HRC.out (node_no_can HPO.out fun h => by
                  rcases h with h | ⟨h, _⟩
                  · exact HC.out h
                  · rw [HRW.out] at h; exact hin h))
                clear hin
                have hS : ∀ wx : World, Below wq.heap.size wq wx → (wx.cell? ⟨w.heap.size, 1, none⟩ = some (.slice (some ⟨rb, ro, none⟩) g.deps.length dc) ∧ wx.cell? ⟨wr.heap.size, 0, none⟩ = some (.int .i64 s.turn) ∧ wx.cell? ⟨rb, ro + s.turn.toNat, none⟩ = some (.slice ra row.length rc) ∧ wx.cell? ⟨wr.heap.size + 1, 4, none⟩ = some (.int .i64 p.choice)) ∧ Ints wx ra row := fun wx hx => ⟨⟨cell_later hx c1q, cell_later hx s0, cell_later hx r0, cell_later hx q4⟩, hrow'.later hx⟩
                refine wp_flow_s [] [] (by kernel_rfl) (by kernel_rfl) (by kernel_rfl) ?_
                repeat (first | ((with_reducible refine Flow.pure hS StayG.nil (v := ?_) ?_ ?_ ?_ ?_); rotate_left 1; (focus kernel_rfl); (focus (intro _; rfl)); (focus (intro β wx hSw; (try dsimp only at hSw); go_simp; (try with_reducible rfl); done)); (try simp only [Act.put, List.setIfInBounds_toArray, List.set_cons_zero, List.set_cons_succ, Nat.reduceAdd])) | ((with_reducible refine Flow.skip StayG.nil ?_ ?_ ?_); (focus kernel_rfl); (focus (intro _; rfl)); (try simp only [Act.put, List.setIfInBounds_toArray, List.set_cons_zero, List.set_cons_succ, Nat.reduceAdd])) | ((with_reducible refine Flow.call hS StayG.nil (v := ?_) ?_ ?_ ?_ ?_); rotate_left 1; (focus kernel_rfl); (focus (intro _; rfl)); (focus (intro β L wx hI hat hSw K' hK; (try dsimp only at hSw); go_simp; go_at_call 36; refine Calls.mono (HCON.out _ hSw.2) ?_; rintro e w' ⟨rfl, rfl⟩; exact hK.out _ (Below.refl _ _))); (try simp only [Act.put, List.setIfInBounds_toArray, List.set_cons_zero, List.set_cons_succ, Nat.reduceAdd])))
                ((with_reducible refine Flow.stop ?_); dsimp only; intro β w8 hI)
                have hb8 := hI.below
                clear hS hI
                go_wp2_with fail
                have hl8 := HLQQ.out.later hb8
                refine ret_marks (v := .bool false) hl8.d (by simp [results, Try.f9, go_sem]) (ret_below (vbool ?_) hl8.b hwD hl8.d)
                exact (accB_false HNO.out).symm
  case stop =>
    intro D c pre W _ _ h
    exact h.elim
/-- Accept, whatever is given -/
theorem accept_any (g : Gm) (sa da pa : Option Addr) (sc dc pc : Nat) (plan : List Pos) (pv : Nat → Value) (bound : Int) (w : World) (hG : GmAt w g sa da) (hF : GmFew g) (hP : PlanAt w pa plan pv) (hpi : ∀ p ∈ plan, PosIn p) (hpl : plan.length ≤ 100000) :
    Calls Try.prog 9 #[gmV g sa sc da dc, .slice pa plan.length pc, .int .i64 bound] w (RetB (.bool (accB g plan bound)) w) := by
  by_cases hv : VG g
  · by_cases hd : g.deps = []
    · exact accept_no2 g sa da pa sc dc pc plan bound w hG hF hv hd
    · exact accept_yes g sa da pa sc dc pc plan pv bound w hG hF hP hpi hpl hv hd
  · exact accept_no1 g sa da pa sc dc pc plan bound w hG hF hv
end Go.Proofs.Ytgccankekflchaa

