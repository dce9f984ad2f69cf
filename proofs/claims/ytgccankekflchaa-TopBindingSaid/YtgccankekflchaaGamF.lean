


/- Package game: worst. -/
import Derived.Test.YtgccankekflchaaGamE
import Derived.Test.YtgccankekflchaaFlowIn
namespace Go.Proofs.Ytgccankekflchaa
open Go.RowKit Go.Maps Go.Shelf

attribute [local go_sem] Oper.semAt_some
theorem ret_marksG {P : Program} {fn : Func} {R : Ending → World → Prop} {ts : Array Value} {D : Nat} {w : World} {v : Value} (hd : w.heap[D]? = some (.deferred (some []))) (hr : (results fn ts).run P (w.putObj D (.deferred none)) = .ok v (w.putObj D (.deferred none))) (h : R (.returned v) (w.putObj D (.deferred none))) :
    bodyPostM Fence.wide 3 P fn R .ret { tmps := ts, defers := [{ target := .collected D, args := #[] }] } w := ⟨by simp, .inl ⟨_, _, rfl, run_takeDeferred hd, v, hr, h⟩⟩
theorem chg_mark {S : Nat → Prop} {w w' : World} {D : Nat} (hc : Chg S w w') (hD : w.heap.size ≤ D) (hd : w'.heap[D]? = some (.deferred (some []))) : Chg S w (w'.putObj D (.deferred none)) :=
  hc.trans' (Chg.put (S := fun k => k = D) w' _ hd rfl) fun k hk e => by omega
theorem moves_seq (n : Nat) (hn : 1 ≤ n) (Bs Bb : Nat) (g : Gm) (sa da : Option Addr) (sc dc M : Nat) (s : St) (hf : Fit g.starts.length s) (hu : 0 ≤ s.budget ∧ s.budget ≤ 100) (w : World) (hB : BoxAt w Bs (stC s)) (hb : BoxAt w Bb (bdC g sa sc da dc M)) (hne : Bs ≠ Bb) :
    SeqC Fence.wide n Try.prog 45 #[.pointer (some ⟨Bs, 0, none⟩), .pointer (some ⟨Bb, 0, none⟩)] (fun x => #[stV x]) (madeL s) (fun k => k = Bs) (fun k => k = Bs ∨ k = Bb) w :=
  fun l J W hbl hJ hY h0 => moves1_in Fence.wide n trivial rfl hn l Bs Bb g sa da sc dc M s hf hu J hJ hY W (hB.later hbl) (hb.later hbl) hne h0
set_option maxRecDepth 100000 in
set_option maxHeartbeats 2000000 in
theorem worst_end (g : Gm) (sa da : Option Addr) (sc dc M : Nat) (s : St) (ht : (g.deps.length : Int) ≤ s.turn) : WorstC g sa sc da dc M s := by
  intro w hM hG
  rw [WG_end ht]
  obtain ⟨t, h1⟩ : ∃ t, t = s.turn := ⟨_, rfl⟩
  obtain ⟨n, h2⟩ : ∃ n, n = g.deps.length := ⟨_, rfl⟩
  unfold bdV stV stC st14
  rw [← h1, ← h2]
  rw [← h1, ← h2] at ht
  have HM := Lib.hid hM
  clear hM hG h1 h2
  go_enter Try.func30, Try.ntmps30
  go_wp2_with fail
  go_ret
  have hb : ∀ w', Below w.heap.size w w' → Ending.returned (Value.int .i64 0) = Ending.returned (Value.int .i64 0) ∧ Chg (fun k => k = M) w w' ∧ Memo g w' M := fun w' hb => ⟨rfl, Chg.of_below hb, HM.out.later hb⟩
  exact hb _ (by repeat (first | exact Below.refl _ _ | assumption | refine Below.drew ?_ | refine below_drewN ?_ _ | refine Below.alloc ?_ (by first | omega | (simp; done) | (simp; omega)) _ | refine Below.setCell ?_ (by first | omega | (simp; done) | (simp; omega)) _ | refine Below.trans ?_ (Below.mono (by assumption) (by first | omega | (simp; done) | (simp; omega)))))
@[local go_sem high] theorem run_maxG (P : Program) (w : World) (ts : Array TypeId) (t : TypeId) (k k' : IntKind) (x y : Int) : (Builtin.max_ ts t #[.int k x, .int k' y]).run P w = .ok (.int k (max x y)) w := by
  simp [Builtin.max_, Builtin.max2, if_max]
theorem calls_named {P : Program} {f : FuncId} {args : Array Value} {W : World} {K : Ending → World → Prop} (h : ∀ w1, w1 = W → Calls P f args w1 K) : Calls P f args W K := h W rfl
theorem alloc3 (w : World) (a b c : List Value) (ta tb tc : TypeId) (w1 : World) (h : w1 = ((w.alloc (.cells a.toArray ta)).alloc (.cells b.toArray tb)).alloc (.cells c.toArray tc)) :
    Below w.heap.size w w1 ∧ w1.heap.size = w.heap.size + 1 + 1 + 1 ∧ BoxAt w1 w.heap.size a ∧ BoxAt w1 (w.heap.size + 1) b ∧ BoxAt w1 (w.heap.size + 1 + 1) c := by
  obtain ⟨x, hx⟩ : ∃ x, x = w.alloc (.cells a.toArray ta) := ⟨_, rfl⟩
  obtain ⟨y, hy⟩ : ∃ y, y = x.alloc (.cells b.toArray tb) := ⟨_, rfl⟩
  rw [← hx, ← hy] at h
  have sx : x.heap.size = w.heap.size + 1 := by rw [hx]; simp
  have sy : y.heap.size = w.heap.size + 1 + 1 := by rw [hy, World.size_alloc, sx]
  have bx : Below w.heap.size w x := by rw [hx]; exact (Below.refl _ _).alloc (Nat.le_refl _) _
  have by' : Below x.heap.size x y := by rw [hy]; exact (Below.refl _ _).alloc (Nat.le_refl _) _
  have bz : Below y.heap.size y w1 := by rw [h]; exact (Below.refl _ _).alloc (Nat.le_refl _) _
  have nx : BoxAt x w.heap.size a := by rw [hx]; exact BoxAt.new _ _ _
  have ny : BoxAt y x.heap.size b := by rw [hy]; exact BoxAt.new _ _ _
  have nz : BoxAt w1 y.heap.size c := by rw [h]; exact BoxAt.new _ _ _
  refine ⟨(bx.trans (by'.mono (by omega))).trans (bz.mono (by omega)), by rw [h, World.size_alloc, sy], (nx.later by').later bz, ?_, ?_⟩
  · rw [← sx]; exact ny.later bz
  · rw [← sy]; exact nz
theorem alloc2 (w : World) (a b : List Value) (ta tb : TypeId) (w1 : World) (h : w1 = (w.alloc (.cells a.toArray ta)).alloc (.cells b.toArray tb)) :
    Below w.heap.size w w1 ∧ w1.heap.size = w.heap.size + 1 + 1 ∧ BoxAt w1 w.heap.size a ∧ BoxAt w1 (w.heap.size + 1) b := by
  obtain ⟨x, hx⟩ : ∃ x, x = w.alloc (.cells a.toArray ta) := ⟨_, rfl⟩
  rw [← hx] at h
  have sx : x.heap.size = w.heap.size + 1 := by rw [hx]; simp
  have bx : Below w.heap.size w x := by rw [hx]; exact (Below.refl _ _).alloc (Nat.le_refl _) _
  have by' : Below x.heap.size x w1 := by rw [h]; exact (Below.refl _ _).alloc (Nat.le_refl _) _
  have nx : BoxAt x w.heap.size a := by rw [hx]; exact BoxAt.new _ _ _
  have ny : BoxAt w1 x.heap.size b := by rw [h]; exact BoxAt.new _ _ _
  refine ⟨bx.trans (by'.mono (by omega)), by rw [h, World.size_alloc, sx], nx.later by', ?_⟩
  rw [← sx]; exact ny
theorem moves_ok (g : Gm) (sa da : Option Addr) (sc dc M : Nat) (s : St) (w : World) : Calls Try.prog 17 #[bdV g sa sc da dc M, stV s] w fun e w' =>
    ∃ Bs Bb, e = .returned (.func (.func 45) #[] #[.pointer (some ⟨Bs, 0, none⟩), .pointer (some ⟨Bb, 0, none⟩)]) ∧ Below w.heap.size w w' ∧ w'.heap.size = w.heap.size + 1 + 1 ∧ Bs = w.heap.size + 1 ∧ Bb = w.heap.size ∧ BoxAt w' Bs (stC s) ∧ BoxAt w' Bb (bdC g sa sc da dc M) :=
  (moves_any g sa da sc dc M s w).mono fun e w' ⟨he, hw⟩ => by
    obtain ⟨h1, h2, h3, h4⟩ := alloc2 _ _ _ _ _ _ hw
    exact ⟨_, _, he, h1, h2, rfl, rfl, h4, h3⟩
/-- what a round of worst keeps -/
structure WoI (g : Gm) (sa : Option Addr) (sc : Nat) (da : Option Addr) (dc M : Nat) (w : World) (Q : Nat) (v : Int) (W : World) : Prop where
  c : Chg (fun k => k = M) w W
  m : Memo g W M
  b : BoxAt W w.heap.size (bdC g sa sc da dc M)
  q : BoxAt W Q [.int .i64 v]
theorem WoI.later {g : Gm} {sa : Option Addr} {sc : Nat} {da : Option Addr} {dc M : Nat} {w : World} {Q : Nat} {v : Int} {W W' : World} {S : Nat → Prop} (h : WoI g sa sc da dc M w Q v W) (hc : Chg S W W') (hM : ¬ S M) (hb : ¬ S w.heap.size) (hq : ¬ S Q) (hs : ∀ k, k < w.heap.size → ¬ S k) : WoI g sa sc da dc M w Q v W' :=
  ⟨h.c.trans' hc fun k hk e => absurd e (hs k hk), h.m.chg hc hM, h.b.chg hc hb h.b.lt, h.q.chg hc hq h.q.lt⟩
set_option maxRecDepth 100000 in
set_option maxHeartbeats 4000000 in
theorem worst_on (g : Gm) (sa da : Option Addr) (sc dc M : Nat) (s : St) (ht : s.turn < g.deps.length) (hf : Fit g.starts.length s) (ht0 : 0 ≤ s.turn) (hu : 0 ≤ s.budget ∧ s.budget ≤ 100) (hbest : ∀ x ∈ madeL s, BestC g sa sc da dc M x) : WorstC g sa sc da dc M s := by
  intro w hM hG
  obtain ⟨res, hres⟩ : ∃ res, res = WG g s := ⟨_, rfl⟩
  have HRES := Lib.hid (hres.trans (WG_on ht0 ht))
  rw [← hres]
  have HBEST := Lib.hid hbest
  have HMV := Lib.hid (moves_ok g sa da sc dc M s)
  have HF := Lib.hid hf
  have HU := Lib.hid hu
  have HM := Lib.hid hM
  have HG := Lib.hid hG
  clear hres hbest hf hu ht0 hM hG
  unfold bdV stV stC st14 at *
  obtain ⟨t, h1⟩ : ∃ t, t = s.turn := ⟨_, rfl⟩
  obtain ⟨n, h2⟩ : ∃ n, n = g.deps.length := ⟨_, rfl⟩
  rw [← h1, ← h2]
  rw [← h1, ← h2] at ht
  have HT := Lib.hid h1
  have HN := Lib.hid h2
  clear h1 h2
  refine (callsIn_wide (n := 3)).1 ?_
  refine callsIn_of_wp_marks Try.func30 rfl trivial ?_ rfl
  simp only [Try.ntmps30, List.size_toArray, List.length_cons, List.length_nil, Nat.reduceAdd, Nat.reduceSub, Array.replicate_succ, Array.replicate_zero, List.push_toArray, List.append_toArray, List.nil_append, List.cons_append]
  refine (wpIn_wide (n := 3)).2 ?_
  go_upto_region 4 with fail
  refine calls_named ?_
  intro w1 hw1
  obtain ⟨hb1, hs1, b1, b2, b3⟩ := alloc3 _ _ _ _ _ _ _ _ hw1
  clear hw1
  rw [HT.out, HN.out]
  refine Calls.mono (HMV.out w1) ?_
  rintro e w2 ⟨Bs, Bb, rfl, hb2, hs2, hBs, hBb, hbs, hbb⟩
  obtain ⟨Q, hQ⟩ : ∃ Q, Q = w.heap.size + 1 + 1 := ⟨_, rfl⟩
  rw [← hQ] at b3 ⊢
  have i0 : WoI g sa sc da dc M w Q 0 w2 := ⟨Chg.of_below (hb1.trans (hb2.mono hb1.size)), HM.out.later (hb1.trans (hb2.mono hb1.size)), ?_, b3.later hb2⟩
  rotate_left
  · have := b1.later hb2
    rw [HN.out] at this
    exact this
  have hG2 : GmAt w2 g sa da := HG.out.later (hb1.trans (hb2.mono hb1.size))
  have HI0 := Lib.hid i0
  have HG2 := Lib.hid hG2
  have HSS := Lib.hid hbs
  have HBB := Lib.hid hbb
  have HNUM := Lib.hid (show Q = w.heap.size + 2 ∧ Bs = w.heap.size + 4 ∧ Bb = w.heap.size + 3 ∧ w2.heap.size = w.heap.size + 5 ∧ M < w.heap.size from ⟨hQ, by omega, by omega, by omega, HM.out.lt⟩)
  clear i0 hG2 hbs hbb b1 b2 b3 hb1 hs1 hb2 hs2 hBs hBb hQ
  go_wp2_with fail
  refine (wpIn_wide (n := 3)).1 ?_
  refine' wpIn_rangeFunc_chg (F := Fence.wide) (n := 3) rfl (by omega) (gf := 45) (lb := #[.pointer (some ⟨Bs, 0, none⟩), .pointer (some ⟨Bb, 0, none⟩)]) rfl trivial (enters_of Try.func45 (by kernel_rfl) rfl)
    (moves_seq 2 (by omega) Bs Bb g sa da sc dc M s HF.out HU.out w2 HSS.out HBB.out (by have := HNUM.out; omega)) (Below.refl _ _) (by have := HNUM.out; rintro k (rfl | rfl) <;> omega) (by have := HNUM.out; rintro k rfl; omega) (fun _ => rfl)
    (fun pre W => WoI g sa sc da dc M w Q (maxL (pre.map fun x => (BG g x).2)) W)
    (fun pre x W W' => WoI g sa sc da dc M w Q (maxL (pre.map fun x => (BG g x).2)) W' ∧ w2.heap.size + 1 < W.heap.size ∧ BoxAt W' W.heap.size (stC x))
    ?own ?own2 HI0.out _ ?assign ?body ?done
  case own =>
    intro pre A B h hc
    have := HNUM.out
    exact h.later hc (by omega) (by omega) (by omega) (by omega)
  case own2 =>
    rintro pre x W A B ⟨h, hs, hx⟩ hc
    have := HNUM.out
    exact ⟨h.later hc (by omega) (by omega) (by omega) (by omega), hs, hx.chg hc (by omega) hx.lt⟩
  case assign =>
    intro l pre x W K h hs hpx hK
    have HK := Lib.hid hK
    have HH := Lib.hid h
    clear hK h
    unfold stV stC st14
    gi_wp2
    have hbW : Below W.heap.size W (W.alloc (Obj.cells (stC x).toArray 47)) := (Below.refl _ _).alloc (Nat.le_refl _) _
    refine HK.out _ (Chg.of_below hbW) ⟨HH.out.later (S := fun _ => False) (Chg.of_below hbW) (fun h => h) (fun h => h) (fun h => h) (fun _ _ h => h), hs, BoxAt.new _ _ _⟩
  case body =>
    rintro l pre x W W' ⟨h, hs, hx⟩ hlt hpx
    have hxm : x ∈ madeL s := hpx.subset (by simp)
    have HB := Lib.hid (HBEST.out x hxm)
    have HX := Lib.hid hx
    have HGG := Lib.hid (fun (w' : World) (h : Chg (fun k => k = M) w w') => HG.out.memo h HM.out)
    obtain ⟨old, ho⟩ : ∃ v, v = maxL (pre.map fun x => (BG g x).2) := ⟨_, rfl⟩
    obtain ⟨new, hn⟩ : ∃ v, v = (BG g x).2 := ⟨_, rfl⟩
    have hon : maxL ((pre ++ [x]).map fun x => (BG g x).2) = max old new := by rw [List.map_append, List.map_singleton, maxL_snoc, ← ho, ← hn]
    have HON := Lib.hid hon
    replace h : WoI g sa sc da dc M w Q old W' := by rw [ho]; exact h
    have HNEW := Lib.hid hn
    have HH := Lib.hid h
    have hMQ : M ≠ Q := by have := HNUM.out; omega
    have hWQ : ¬ (W.heap.size = M ∨ W.heap.size = Q) := by have := HNUM.out; omega
    have hbM : ¬ w.heap.size = M := by have := HNUM.out; omega
    have hQM : ¬ Q = M := by have := HNUM.out; omega
    have HS := Lib.hid (show w.heap.size < Q from by have := HNUM.out; omega)
    clear hxm hx ho hn hon h
    gi_upto_region 5 with fail
    refine wpIn_flow_j (fun β L' w' => WoI g sa sc da dc M w Q (if L' 6 then max old new else old) w' ∧ Chg (fun k => k = M ∨ k = Q) W' w') (by kernel_rfl) (by kernel_rfl) (by kernel_rfl) ?h0 ?_
    case h0 => exact ⟨HH.out.later (S := fun _ => False) ((Chg.refl _ _).drew) (fun h => h) (fun h => h) (fun h => h) (fun _ _ h => h), (Chg.refl _ _).drew⟩
    ((with_reducible refine FlowJ.pure (v := ?_) ?_ ?_ ?_ ?_); rotate_left 1; (focus (intro _; rfl)); (focus (intro β L' w' hJ hat; (try dsimp only at hJ); (try dsimp only); simpa only [setL, Nat.reduceEqDiff, if_false] using hJ)); (focus (intro β L' w' hJ hat; (try dsimp only at hJ); ((have n6 := hat.not (j := 6) (by kernel_rfl)); simp only [n6, Bool.false_eq_true, if_false] at hJ; have q0 := (hJ.1.q 0 _ rfl).1); go_simp; (try with_reducible rfl); done)); (try simp only [Act.put, List.setIfInBounds_toArray, List.set_cons_zero, List.set_cons_succ, Nat.reduceAdd]))
    ((with_reducible refine FlowJ.pure (v := bdV g sa sc da dc M) ?_ ?_ ?_ ?_); (focus (intro _; rfl)); (focus (intro β L' w' hJ hat; (try dsimp only at hJ); (try dsimp only); simpa only [setL, Nat.reduceEqDiff, if_false] using hJ)); (focus (intro β L' w' hJ hat; (try dsimp only at hJ); (exact exec_load_mid 43 (.tmp 2) rfl w.heap.size 0 rfl _ _ (box_range hJ.1.b) Try.underlying43 rfl (by kernel_rfl)))); (try simp only [Act.put, List.setIfInBounds_toArray, List.set_cons_zero, List.set_cons_succ, Nat.reduceAdd]))
    ((with_reducible refine FlowJ.pure (v := stV x) ?_ ?_ ?_ ?_); (focus (intro _; rfl)); (focus (intro β L' w' hJ hat; (try dsimp only at hJ); (try dsimp only); simpa only [setL, Nat.reduceEqDiff, if_false] using hJ)); (focus (intro β L' w' hJ hat; (try dsimp only at hJ); (exact exec_load_mid 47 (.tmp 6) rfl W.heap.size 0 rfl _ _ (box_range (HX.out.chg hJ.2 hWQ HX.out.lt)) Try.underlying47 rfl (by kernel_rfl)))); (try simp only [Act.put, List.setIfInBounds_toArray, List.set_cons_zero, List.set_cons_succ, Nat.reduceAdd]))
    ((with_reducible refine FlowJ.call (v := ?_) ?_ ?_ ?_); rotate_left 1; (focus (intro _; rfl)); (focus (intro β L' w' hJ hat K' hK; (try dsimp only at hJ); ((have n6 := hat.not (j := 6) (by kernel_rfl)); simp only [n6, Bool.false_eq_true, if_false] at hJ; go_simp; go_at_call 18; refine Calls.mono (HB.out w' hJ.1.m (HGG.out _ hJ.1.c)) ?_; rintro e w6 ⟨rfl, hc6, hm6⟩; refine hK.out _ ⟨?_, hJ.2.trans' hc6 (fun k _ h => .inl h)⟩; simp only [setL, Nat.reduceEqDiff, if_false, n6, Bool.false_eq_true]; exact ⟨hJ.1.c.trans hc6, hm6, hJ.1.b.chg hc6 hbM hJ.1.b.lt, hJ.1.q.chg hc6 hQM hJ.1.q.lt⟩))); (try simp only [Act.put, List.setIfInBounds_toArray, List.set_cons_zero, List.set_cons_succ, Nat.reduceAdd]))
    ((with_reducible refine FlowJ.pure (v := .int .i64 new) ?_ ?_ ?_ ?_); (focus (intro _; rfl)); (focus (intro β L' w' hJ hat; (try dsimp only at hJ); (try dsimp only); simpa only [setL, Nat.reduceEqDiff, if_false] using hJ)); (focus (intro β L' w' hJ hat; (try dsimp only at hJ); (rw [HNEW.out]; unfold cbV; kernel_rfl))); (try simp only [Act.put, List.setIfInBounds_toArray, List.set_cons_zero, List.set_cons_succ, Nat.reduceAdd]))
    ((with_reducible refine FlowJ.pure (v := ?_) ?_ ?_ ?_ ?_); rotate_left 1; (focus (intro _; rfl)); (focus (intro β L' w' hJ hat; (try dsimp only at hJ); (try dsimp only); simpa only [setL, Nat.reduceEqDiff, if_false] using hJ)); (focus (intro β L' w' hJ hat; (try dsimp only at hJ); skip; go_simp; (try with_reducible rfl); done)); (try simp only [Act.put, List.setIfInBounds_toArray, List.set_cons_zero, List.set_cons_succ, Nat.reduceAdd]))
    ((with_reducible refine FlowJ.eff ?_ ?_ ?_); (focus (intro _; rfl)); (focus (intro β L' w' hJ hat K' hK; (try dsimp only at hJ); (have un := hat.un; simp only [un, Bool.false_eq_true, if_false] at hJ; have q0 := (hJ.1.q 0 _ rfl).1; have q1 := (hJ.1.q 0 _ rfl).2; go_simp; refine hK.out _ ?_; simp only [setL, if_true]; have hc : Chg (fun k => k = Q) w' (w'.setCell ⟨Q, 0, none⟩ (.int .i64 (max old new))) := Chg.setCell (S := fun k => k = Q) (Chg.refl _ _) (p := ⟨Q, 0, none⟩) (fun _ => rfl) _; exact ⟨⟨hJ.1.c.trans' hc (fun k hk e => by have := HS.out; omega), hJ.1.m.chg hc hMQ, hJ.1.b.chg hc (fun e => by have := HS.out; omega) hJ.1.b.lt, hJ.1.q.set (k := 0) (by simp)⟩, hJ.2.trans' hc (fun k _ e => .inr e)⟩))); (try simp only [Act.put, Nat.reduceAdd]))
    refine FlowJ.stop ?_
    dsimp only
    intro β w5 hJ
    simp only [if_true] at hJ
    have HJ := Lib.hid hJ
    have HE := HON.out
    clear hJ
    refine ⟨HJ.out.2.size, fun k hk => HJ.out.2.block k ?_ ?_, ?_⟩
    · have := HNUM.out
      rcases hk with (h | h) | h | h <;> omega
    · have := HNUM.out
      rcases hk with (h | h) | h | h <;> omega
    · show WoI g sa sc da dc M w Q (maxL (List.map (fun x => (BG g x).2) (pre ++ [x]))) w5
      rw [HE]
      exact HJ.out.1
  case done =>
    intro D W hD h hdef
    have hq := (h.q 0 _ rfl).1
    rw [← HRES.out] at hq
    have HH := Lib.hid h
    have HDEF := Lib.hid hdef
    clear h hdef
    gi_wp2_with fail
    go_wp2_with fail
    refine ret_marksG (v := .int .i64 res) HDEF.out (by simp [results, Try.f30, go_sem]) ⟨rfl, ?_, ?_⟩
    · exact chg_mark HH.out.c (by have := HNUM.out; omega) HDEF.out
    · refine HH.out.m.chg (S := fun k => k = D) (Chg.put W _ HDEF.out rfl) (by have := HNUM.out; omega)
end Go.Proofs.Ytgccankekflchaa

