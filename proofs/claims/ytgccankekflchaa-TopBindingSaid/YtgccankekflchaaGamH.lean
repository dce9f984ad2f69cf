


/- Package game: best. -/
import Derived.Test.YtgccankekflchaaGamG
namespace Go.Proofs.Ytgccankekflchaa
open Go.RowKit Go.Maps Go.Shelf

theorem zeroCb (w : World) : (zeroValue 57).run Try.prog w = .ok (cbV (0, 0)) w := by kernel_rfl
theorem Dom.key {g : Gm} {x : St} (hx : Dom g x) (hv : VG g) : ∃ l, keyOf Try.prog 47 (stV x) = some l := by
  obtain ⟨h1, h2⟩ := hx.sts hv
  have h3 := hx.b0
  have h4 := hx.b1
  have h5 := hv.2.2.2.1
  exact keySt _ _ _ _ _ _ (by unfold inIG; omega) (by unfold inIG; omega) (by have := h2 0; unfold inIG; omega) (by have := h2 1; unfold inIG; omega) (by have := h2 2; unfold inIG; omega) (by have := h2 3; unfold inIG; omega) (by have := h2 4; unfold inIG; omega) (by have := h2 5; unfold inIG; omega)
theorem MemoF.put {g : Gm} {f : Value → Option Value} (h : MemoF g f) {x : St} (hx : Dom g x) (ht : x.turn < g.deps.length) : MemoF g (putF f (stV x) (cbV (BG g x))) := fun y v hy => by
  by_cases e : y = stV x
  · subst e
    rw [putF_at] at hy
    cases hy
    exact ⟨x, hx, ht, rfl, rfl⟩
  · rw [putF_ne f _ e] at hy
    exact h y v hy
theorem MemoF.at {g : Gm} {f : Value → Option Value} (h : MemoF g f) {x : St} (hx : Dom g x) (hv : VG g) {v : Value} (e : f (stV x) = some v) : v = cbV (BG g x) := by
  obtain ⟨s, h1, _, h2, h3⟩ := h _ _ e
  rw [h3, stV_inj (hx.fit hv) (h1.fit hv) h2]
/-- a result that lies in a cell of Position's size -/
theorem range6 {w : World} {b : Nat} {o : Int × Int} (h : BoxAt w b (cbC o)) : w.rangeAt b 0 (cbC o) := box_range h
theorem ret_pos {g : Gm} {w w' : World} {M : Nat} {ts : Array Value} {o : Int × Int} (hr : ts.getD 4 undef = .pointer (some ⟨w.heap.size + 1 + 1, 0, none⟩)) (hb : BoxAt w' (w.heap.size + 1 + 1) (cbC o)) (hc : Chg (fun k => k = M) w w') (hm : Memo g w' M) :
    bodyPost Try.prog Try.f18 (fun e w' => e = .returned (cbV o) ∧ Chg (fun k => k = M) w w' ∧ Memo g w' M) .ret { tmps := ts, defers := [] } w' :=
  bodyPost_ret (results_cell (p := ⟨w.heap.size + 1 + 1, 0, none⟩) rfl hr (run_loadVar_mid _ (w.heap.size + 1 + 1) 0 57 (cbC o) _ (box_range hb) Try.underlying57 rfl (by kernel_rfl))) rfl ⟨rfl, hc, hm⟩
theorem wp_named {P : Program} {c : Code} {Q : Exit → Act → World → Prop} {a : Act} {W : World} (h : ∀ w1, w1 = W → c.wp P Q a w1) : c.wp P Q a W := h W rfl
/-- what best keeps in its boxes -/
structure BeI (g : Gm) (sa : Option Addr) (sc : Nat) (da : Option Addr) (dc M : Nat) (x : St) (w : World) (O : Nat) (o : Int × Int) (W : World) : Prop where
  c : Chg (fun k => k = M) w W
  m : Memo g W M
  b : BoxAt W w.heap.size (bdC g sa sc da dc M)
  s : BoxAt W (w.heap.size + 1) (stC x)
  r : BoxAt W (w.heap.size + 1 + 1) (cbC (0, 0))
  o : BoxAt W O (cbC o)
  z : w.heap.size + 1 + 1 < O
theorem okDep_ge {m : Nat} {l : List Int} (h : okDep m l) : ∀ j, j < l.length → (j : Int) ≤ ig l j
  | 0, h0 => by have := (h 0 h0).1; rw [if_pos rfl] at this; omega
  | j + 1, h0 => by have h1 := (h (j + 1) h0).1; rw [if_neg (by omega), Nat.add_sub_cancel] at h1; have := okDep_ge h j (by omega); omega
theorem okDep_len {m : Nat} {l : List Int} (h : okDep m l) : l.length ≤ m := by
  by_cases h0 : l.length = 0
  · omega
  · have h1 := okDep_ge h (l.length - 1) (by omega)
    have h2 := (h (l.length - 1) (by omega)).2
    omega
theorem okDep_domG {m : Nat} {l : List Int} {c : Int} (h : okDep m l) (hc : c ∈ l) : 0 ≤ c ∧ c < m := by
  obtain ⟨j, hj, rfl⟩ := List.getElem_of_mem hc
  rw [← ig_lt hj]
  have := okDep_ge h j hj
  exact ⟨by omega, (h j hj).2⟩
theorem take_snoc {α : Type} {l : List α} {i : Nat} (h : i < l.length) : l.take (i + 1) = l.take i ++ [l[i]] := by
  rw [List.take_add_one, List.getElem?_eq_getElem h]; rfl
theorem st_start {x : St} {q : Nat} (hq : q < 6) : (stC x)[1 + q]? = some (.int .i64 (ig x.starts q)) := by
  have : q = 0 ∨ q = 1 ∨ q = 2 ∨ q = 3 ∨ q = 4 ∨ q = 5 := by omega
  rcases this with rfl | rfl | rfl | rfl | rfl | rfl <;> rfl
theorem st_fail {x : St} {q : Nat} (hq : q < 6) : (stC x)[7 + q]? = some (.bool (bg x.failed q)) := by
  have : q = 0 ∨ q = 1 ∨ q = 2 ∨ q = 3 ∨ q = 4 ∨ q = 5 := by omega
  rcases this with rfl | rfl | rfl | rfl | rfl | rfl <;> rfl
structure JB (g : Gm) (M : Nat) (w : World) (o : Int × Int) (β : Nat → Value) (l6 l7 : Bool) (W : World) : Prop where
  c : Chg (fun k => k = M) w W
  m : Memo g W M
  o : l6 = true → ∃ O, β 6 = .pointer (some ⟨O, 0, none⟩) ∧ w.heap.size ≤ O ∧ M < O ∧ BoxAt W O (if l7 then cbC o else cbC (0, 0))
theorem JB.same {g : Gm} {M : Nat} {w : World} {o : Int × Int} {β : Nat → Value} {l6 l7 : Bool} {W W' : World} (h : JB g M w o β l6 l7 W) (hc : Chg (fun k => k = M) W W') (hm : Memo g W' M) : JB g M w o β l6 l7 W' :=
  ⟨h.c.trans hc, hm, fun e => by obtain ⟨O, h1, h2, h3, h4⟩ := h.o e; exact ⟨O, h1, h2, h3, h4.chg hc (by omega) (by cases l7 <;> exact h4.lt)⟩⟩
theorem JB.make {g : Gm} {M : Nat} {w : World} {o : Int × Int} {β : Nat → Value} {W : World} (h : JB g M w o β false false W) : JB g M w o (updG β 6 (.pointer (some ⟨W.heap.size, 0, none⟩))) true false (W.alloc (.cells (cbC (0, 0)).toArray 57)) := by
  have hb : Below W.heap.size W (W.alloc (.cells (cbC (0, 0)).toArray 57)) := (Below.refl _ _).alloc (Nat.le_refl _) _
  exact ⟨h.c.trans (Chg.of_below hb), h.m.later hb, fun _ => ⟨_, updG_at _ _ _, h.c.size, h.m.lt, BoxAt.new _ _ _⟩⟩
theorem JB.store {g : Gm} {M O : Nat} {w : World} {o : Int × Int} {β : Nat → Value} {W : World} (h : JB g M w o β true false W) (e : β 6 = .pointer (some ⟨O, 0, none⟩)) : JB g M w o β true true (W.setCells O 0 (cbC o)) := by
  obtain ⟨O', h1, h2, h3, h4⟩ := h.o rfl
  rw [e] at h1
  cases h1
  have hc : Chg (fun k => k = O) W (W.setCells O 0 (cbC o)) := chg_setCells (S := fun k => k = O) (Chg.refl _ _) _ _ _ (fun _ => rfl)
  exact ⟨h.c.trans' hc (fun k hk e => by omega), h.m.chg hc (by omega), fun _ => ⟨O, e, h2, h3, BoxAt.stored h4 rfl⟩⟩
set_option maxRecDepth 100000 in
set_option maxHeartbeats 8000000 in
theorem best_any (g : Gm) (sa da : Option Addr) (sc dc M : Nat) (x : St) (hx : Dom g x) (ht : x.turn < g.deps.length) (hv : VG g) (hw : ∀ c, c = -1 ∨ (c ∈ dg g x.turn.toNat ∧ 0 < ig x.starts c.toNat) → WorstC g sa sc da dc M (afterS x c)) : BestC g sa sc da dc M x := by
  intro w hM hG
  obtain ⟨n, f, hm, hf⟩ := hM.h
  obtain ⟨kl, hkl⟩ := hx.key hv
  have HKL := Lib.hid hkl
  have HMM := Lib.hid hm
  have HMF := Lib.hid hf
  have HX := Lib.hid hx
  have HT := Lib.hid ht
  have HV := Lib.hid hv
  have HW := Lib.hid hw
  have HM := Lib.hid hM
  have HG := Lib.hid hG
  clear hkl hm hf hx ht hv hw hM hG
  go_enter Try.func18, Try.ntmps18
  go_upto_region 1 with fail
  refine wp_named ?_
  intro w1 hw1
  obtain ⟨hb1, hs1, b1, b2, b3⟩ := alloc3 w (bdC g sa sc da dc M) (stC x) (cbC (0, 0)) _ _ _ w1 hw1
  have b1l := b1.lt
  have b2l := b2.lt
  have b3l := b3.lt
  have c3 := (b1 3 _ rfl).1
  have HB1 := Lib.hid hb1
  have HS1 := Lib.hid hs1
  have HBX := Lib.hid b1
  have HSX := Lib.hid b2
  have HRX := Lib.hid b3
  clear hw1 hb1 hs1 b1 b2 b3
  cases hfx : f (stV x) with
  | some v =>
    obtain rfl := HMF.out.at HX.out HV.out hfx
    go_upto_region 2 with first | (refine wpList_load_mid rfl 47 _ rfl (w.heap.size + 1) 0 rfl (stC x) _ (box_range (HSX.out)) Try.underlying47 rfl (by kernel_rfl) ?_) | (at_lookup; refine wpList_look_ok rfl _ _ _ rfl 47 57 lawSt Try.underlying41 (cbV (0, 0)) zeroCb M n f rfl (HMM.out.later HB1.out) (stV x) kl rfl HKL.out ?_; rw [hfx]; dsimp only [Option.getD, Option.isSome])
    refine wp_named ?_
    intro w2 hw2
    have hb2 : Below w1.heap.size w1 w2 := by rw [hw2]; exact (Below.refl _ _).alloc (Nat.le_refl _) _
    have hn2 : BoxAt w2 w1.heap.size (cbC (BG g x)) := by rw [hw2]; exact BoxAt.new _ _ _
    have HB2 := Lib.hid hb2
    have HN2 := Lib.hid hn2
    have HR2 := Lib.hid (HRX.out.later hb2)
    obtain ⟨w3, hw3⟩ : ∃ w3, w3 = w2.setCells (w.heap.size + 1 + 1) 0 (cbC (BG g x)) := ⟨_, rfl⟩
    have HW3 := Lib.hid hw3
    clear hw2 hb2 hn2 hw3
    go_wp2_with first | (refine wpList_load_mid rfl 57 _ rfl (w1.heap.size) 0 rfl (cbC (BG g x)) _ (box_range (HN2.out)) Try.underlying57 rfl (by kernel_rfl) ?_) | (refine wpList_store_mid rfl 57 _ _ rfl (w.heap.size + 1 + 1) 0 (cbC (BG g x)).toArray rfl rfl (box_there (HR2.out) rfl) (by kernel_rfl) (by simp [Value.oneCell']) ?_)
    have hc3 : Chg (fun k => k = w.heap.size + 1 + 1) w2 (w2.setCells (w.heap.size + 1 + 1) 0 (cbC (BG g x))) := chg_setCells (S := fun k => k = w.heap.size + 1 + 1) (Chg.refl _ _) _ _ _ (fun _ => rfl)
    have hcw : Chg (fun k => k = M) w w2 := Chg.of_below (HB1.out.trans (HB2.out.mono HB1.out.size))
    have hMl := HM.out.lt
    exact ret_pos rfl (HR2.out.stored rfl) (hcw.trans' hc3 fun k hk e => by omega) ((HM.out.later (HB1.out.trans (HB2.out.mono HB1.out.size))).chg hc3 (by omega))
  | none =>
    go_upto_region 2 with first | (refine wpList_load_mid rfl 47 _ rfl (w.heap.size + 1) 0 rfl (stC x) _ (box_range (HSX.out)) Try.underlying47 rfl (by kernel_rfl) ?_) | (at_lookup; refine wpList_look_ok rfl _ _ _ rfl 47 57 lawSt Try.underlying41 (cbV (0, 0)) zeroCb M n f rfl (HMM.out.later HB1.out) (stV x) kl rfl HKL.out ?_; rw [hfx]; dsimp only [Option.getD, Option.isSome])
    refine wp_named ?_
    intro w2 hw2
    have hb2 : Below w1.heap.size w1 w2 := by rw [hw2]; exact (Below.refl _ _).alloc (Nat.le_refl _) _
    have hs2 : w2.heap.size = w1.heap.size + 1 := by rw [hw2]; simp
    have hbw : Below w.heap.size w w2 := HB1.out.trans (hb2.mono HB1.out.size)
    have HBW2 := Lib.hid hbw
    have HB2 := Lib.hid hb2
    have HNUM := Lib.hid (show w2.heap.size = w.heap.size + 4 ∧ M < w.heap.size from ⟨by have := HS1.out; omega, HM.out.lt⟩)
    clear hw2 hb2 hs2 hbw hfx
    obtain ⟨nw, hnw⟩ : ∃ n, n = WG g (afterS x (-1)) := ⟨_, rfl⟩
    have hnwi := WG_in HV.out (afterS x (-1))
    rw [← hnw] at hnwi
    have hwr : IntKind.i64.wrap (1 + nw) = 1 + nw := IntWalk.i64_in _ (by omega)
    have HNW := Lib.hid hnw
    have HW1 := Lib.hid (HW.out (-1) (.inl rfl))
    have HA1 := Lib.hid (fun w => after_anyG x (-1) w (HX.out.fit HV.out) (HX.out.sts HV.out) (.inl rfl))
    have hbM : ¬ w.heap.size = M := by have := HNUM.out; omega
    have hsM : ¬ w.heap.size + 1 = M := by have := HNUM.out; omega
    have HBS := Lib.hid (fun (W : World) (h : Chg (fun k => k = M) w2 W) => (HBX.out.later HB2.out).chg h hbM (HBX.out.later HB2.out).lt)
    have HSS := Lib.hid (fun (W : World) (h : Chg (fun k => k = M) w2 W) => (HSX.out.later HB2.out).chg h hsM (HSX.out.later HB2.out).lt)
    have HGG := Lib.hid (fun (W : World) (h : Chg (fun k => k = M) w2 W) => (HG.out.later HBW2.out).memo h (HM.out.later HBW2.out))
    have HMW := Lib.hid (HM.out.later HBW2.out)
    clear hnwi hnw hbM hsM
    go_upto_region 4 with fail
    refine wp_flow_j (fun β L' w' => JB g M w2 (-1, 1 + nw) β (L' 6) (L' 7) w') (by kernel_rfl) (by kernel_rfl) ?h0 ?_
    case h0 => exact ⟨(Chg.refl _ _).drew, HMW.out.chg (S := fun _ => False) (Chg.refl _ _).drew (fun h => h), fun e => by cases e⟩
    ((with_reducible refine FlowJ.pure (v := bdV g sa sc da dc M) ?_ ?_ ?_ ?_); (focus (intro _; rfl)); (focus (intro β L' w' hJ hat; (try dsimp only at hJ); (try dsimp only); simpa only [setL, Nat.reduceEqDiff, if_false] using hJ)); (focus (intro β L' w' hJ hat; (try dsimp only at hJ); (exact exec_load_mid 43 (.tmp 2) rfl w.heap.size 0 rfl _ _ (box_range (HBS.out _ hJ.c)) Try.underlying43 rfl (by kernel_rfl)))); (try simp only [Act.put, List.setIfInBounds_toArray, List.set_cons_zero, List.set_cons_succ, Nat.reduceAdd]))
    ((with_reducible refine FlowJ.pure (v := stV x) ?_ ?_ ?_ ?_); (focus (intro _; rfl)); (focus (intro β L' w' hJ hat; (try dsimp only at hJ); (try dsimp only); simpa only [setL, Nat.reduceEqDiff, if_false] using hJ)); (focus (intro β L' w' hJ hat; (try dsimp only at hJ); (exact exec_load_mid 47 (.tmp 3) rfl (w.heap.size + 1) 0 rfl _ _ (box_range (HSS.out _ hJ.c)) Try.underlying47 rfl (by kernel_rfl)))); (try simp only [Act.put, List.setIfInBounds_toArray, List.set_cons_zero, List.set_cons_succ, Nat.reduceAdd]))
    ((with_reducible refine FlowJ.call (v := ?_) ?_ ?_ ?_); rotate_left 1; (focus (intro _; rfl)); (focus (intro β L' w' hJ hat K' hK; (try dsimp only at hJ); (go_simp; go_at_call 21; refine Calls.mono (HA1.out w') ?_; rintro e w6 ⟨rfl, hc6⟩; refine hK.out _ ?_; simp only [setL, Nat.reduceEqDiff, if_false]; exact hJ.same (Chg.of_below hc6) (hJ.m.later hc6)))); (try simp only [Act.put, List.setIfInBounds_toArray, List.set_cons_zero, List.set_cons_succ, Nat.reduceAdd]))
    ((with_reducible refine FlowJ.call (v := ?_) ?_ ?_ ?_); rotate_left 1; (focus (intro _; rfl)); (focus (intro β L' w' hJ hat K' hK; (try dsimp only at hJ); (go_simp; go_at_call 30; refine Calls.mono (HW1.out w' hJ.m (HGG.out _ hJ.c)) ?_; rintro e w6 ⟨rfl, hc6, hm6⟩; rw [← HNW.out]; refine hK.out _ ?_; simp only [setL, Nat.reduceEqDiff, if_false]; exact hJ.same hc6 hm6))); (try simp only [Act.put, List.setIfInBounds_toArray, List.set_cons_zero, List.set_cons_succ, Nat.reduceAdd]))
    ((with_reducible refine FlowJ.pure (v := ?_) ?_ ?_ ?_ ?_); rotate_left 1; (focus (intro _; rfl)); (focus (intro β L' w' hJ hat; (try dsimp only at hJ); (try dsimp only); simpa only [setL, Nat.reduceEqDiff, if_false] using hJ)); (focus (intro β L' w' hJ hat; (try dsimp only at hJ); skip; go_simp; (try with_reducible rfl); done)); (try simp only [Act.put, List.setIfInBounds_toArray, List.set_cons_zero, List.set_cons_succ, Nat.reduceAdd]))
    ((with_reducible refine FlowJ.pure (v := ?_) ?_ ?_ ?_ ?_); rotate_left 1; (focus (intro _; rfl)); (focus (intro β L' w' hJ hat; (try dsimp only at hJ); (try dsimp only); simpa only [setL, Nat.reduceEqDiff, if_false] using hJ)); (focus (intro β L' w' hJ hat; (try dsimp only at hJ); skip; go_simp; (try with_reducible rfl); done)); (try simp only [Act.put, List.setIfInBounds_toArray, List.set_cons_zero, List.set_cons_succ, Nat.reduceAdd]))
    ((with_reducible refine FlowJ.ghost ?_ ?_ ?_); (focus (intro _; rfl)); (focus (intro β L' w' hJ hat K' hK; (try dsimp only at hJ); ((have n7 := hat.not (j := 7) (by kernel_rfl)); have un := hat.un; simp only [un, n7] at hJ; go_simp; refine hK.out _ _ ?_; simp only [setL, Nat.reduceEqDiff, if_true, if_false, n7]; exact hJ.make))); (try simp only [Act.put, List.setIfInBounds_toArray, List.set_cons_zero, List.set_cons_succ, Nat.reduceAdd]))
    ((with_reducible refine FlowJ.eff ?_ ?_ ?_); (focus (intro _; rfl)); (focus (intro β L' w' hJ hat K' hK; (try dsimp only at hJ); ((have p6 := hat.pre 6 (by kernel_rfl)); have un := hat.un; simp only [un, p6] at hJ; obtain ⟨O, b1, b2, b3, b4⟩ := hJ.o rfl; simp only [Bool.false_eq_true, if_false] at b4; refine wp_store_mid 57 _ _ rfl O 0 (cbC (-1, 1 + nw)).toArray b1 rfl (box_there b4 rfl) (by kernel_rfl) (by simp [Value.oneCell']) ?_; refine hK.out _ ?_; simp only [setL, Nat.reduceEqDiff, if_true, if_false, p6]; exact hJ.store b1))); (try simp only [Act.put, Nat.reduceAdd]))
    refine FlowJ.stop ?_
    dsimp only
    intro β w3 hJ
    obtain ⟨O, e1, hO1, hO2, hO3⟩ := hJ.o rfl
    simp only [if_true] at hO3
    rw [e1]
    have i3 : BeI g sa sc da dc M x w O (-1, 1 + nw) w3 := ⟨(Chg.of_below HBW2.out).trans hJ.c, hJ.m, HBS.out _ hJ.c, HSS.out _ hJ.c, ((HRX.out.later HB2.out).chg hJ.c (by have := HNUM.out; omega) (HRX.out.later HB2.out).lt), hO3, by have := HNUM.out; omega⟩
    have hG3 := HGG.out _ hJ.c
    have HI3 := Lib.hid i3
    have HG3 := Lib.hid hG3
    have HML := Lib.hid (show M < w.heap.size from HM.out.lt)
    clear i3 hG3 hJ e1 hO1 hO2 hO3 hwr
    clear HW1 HA1 HBS HSS HGG HMW HNUM HB2 HBW2 HB1 HS1 HBX HSX HRX HMM HMF b1l b2l b3l c3
    obtain ⟨tn, htn⟩ : ∃ tn : Nat, x.turn = tn := ⟨x.turn.toNat, by have := HX.out.t0; omega⟩
    have htl : tn < g.deps.length := by have := HT.out; omega
    obtain ⟨db, doff, ra, rc, rfl, hrow0, hI0⟩ := HG.out.d tn htl
    have hnc := fun k o v (h : k = M) => (show w.cell? ⟨k, o, none⟩ ≠ some v from fun hc => HM.out.noCells hc h)
    have hrow := HI3.out.c.cell hrow0 (fun h => hnc _ _ _ h hrow0)
    have hI := fun (W : World) (h : Chg (fun k => k = M) w W) => ints_chg hI0 h hnc
    obtain ⟨l, hl⟩ : ∃ l, l = g.deps.getD tn [] := ⟨_, rfl⟩
    rw [← hl] at hrow
    simp only [← hl] at hI
    have hdg : dg g x.turn.toNat = l := by rw [htn, hl]; rfl
    obtain ⟨n', hn'⟩ : ∃ n, n = g.deps.length := ⟨_, rfl⟩
    have k1 := (HI3.out.b 1 _ rfl).1
    have k0 := (HI3.out.s 0 _ rfl).1
    rw [htn] at k0
    rw [← hn'] at htl
    rw [← hn'] at k1
    have n1 : (tn : Int) < (n' : Int) := by omega
    have n0 : (0 : Int) ≤ (tn : Int) := by omega
    have HDG := Lib.hid hdg
    have HII := Lib.hid hI
    have HTN := Lib.hid htn
    clear htn hl hdg hn' hI hI0 hrow0 hnc
    have hmf : ∀ (fn : Fn) (first cap : Array Value) (w : World), (Instr.makeFunc fn first cap).run Try.prog w = .ok (.func fn first cap) w := fun _ _ _ _ => rfl
    have hok : okDep g.starts.length l := by
      have := HV.out.2.2.2.2.2 tn (by have := HT.out; have := HTN.out; omega)
      have e := HDG.out
      rw [HTN.out, Int.toNat_natCast] at e
      rwa [e] at this
    have hlen6 : l.length ≤ 6 := Nat.le_trans (okDep_len hok) HV.out.1
    have HOK := Lib.hid hok
    clear hok
    go_wp2_with fail
    go_loopg [35] (l.length + 1) (fun gk v35 wr => ∃ i : Nat, i ≤ l.length ∧ gk + i = l.length + 1 ∧ v35 = .int .i64 i ∧ BeI g sa sc (some ⟨db, doff, none⟩) dc M x w O ((l.take i).foldl (considerF (WG g) x) (-1, 1 + nw)) wr)
    case atStart => exact ⟨0, by omega, by omega, rfl, HI3.out⟩
    case round =>
      obtain ⟨i, hi, hgi, rfl, hI⟩ := hrel
      have hG : GmAt wr g sa (some ⟨db, doff, none⟩) := HG.out.memo hI.c HM.out
      clear hrow
      have HIR := Lib.hid hI
      have HGR := Lib.hid hG
      obtain ⟨o, ho⟩ : ∃ o, o = (l.take i).foldl (considerF (WG g) x) (-1, 1 + nw) := ⟨_, rfl⟩
      rw [← ho] at HIR
      have HO := Lib.hid ho
      clear ho
      by_cases hlt : i < l.length
      · have hsa := HII.out wr hI.c
        obtain ⟨ab, aoff, rfl, fa⟩ := hsa.fam (by omega)
        have ci := fa i hlt
        have hqq := okDep_domG HOK.out (ig_mem hlt)
        obtain ⟨q, hq⟩ : ∃ q : Nat, ig l i = q := ⟨(ig l i).toNat, by omega⟩
        rw [hq] at ci hqq
        have hq6 : q < 6 := by have := HV.out.1; omega
        have ks := (hI.s (1 + q) _ (st_start hq6)).1
        have kf := (hI.s (7 + q) _ (st_fail hq6)).1
        obtain ⟨sq, hsq⟩ : ∃ s, s = ig x.starts q := ⟨_, rfl⟩
        obtain ⟨fq, hfq⟩ : ∃ s, s = bg x.failed q := ⟨_, rfl⟩
        rw [← hsq] at ks
        rw [← hfq] at kf
        have m1 : (i : Int) < (l.length : Int) := by omega
        have m0 : (0 : Int) ≤ (i : Int) := by omega
        have m6 : (q : Int) < 6 := by omega
        have m5 : (0 : Int) ≤ (q : Int) := by omega
        have HSQ := Lib.hid hsq
        have HFQ := Lib.hid hfq
        have HQ := Lib.hid hq
        have HQM := Lib.hid hqq
        have HFO := Lib.hid (show (l.take (i + 1)).foldl (considerF (WG g) x) (-1, 1 + nw) = considerF (WG g) x o q from by
          rw [take_snoc hlt, List.foldl_append, ← HO.out, ← ig_lt hlt, hq]
          rfl)
        clear hI hG fa hq hsq hfq hqq hsa
        cases fq
        · by_cases hs0 : 0 < sq
          · have HCO := Lib.hid (consider_ok g sa (some ⟨db, doff, none⟩) sc dc M O (w.heap.size + 1) w.heap.size x o q HX.out HV.out HQM.out (by rw [Int.toNat_natCast, ← HFQ.out, ← HSQ.out]; exact ⟨rfl, hs0⟩)
              (HW.out q (.inr ⟨by rw [HDG.out, ← HQ.out]; exact ig_mem hlt, by rw [Int.toNat_natCast, ← HSQ.out]; exact hs0⟩)) (by have := HIR.out.z; have := HML.out; omega) wr HIR.out.m HGR.out HIR.out.b HIR.out.s HIR.out.o)
            go_wp2_with fail
            refine Calls.mono HCO.out ?_
            rintro e w5 ⟨rfl, hc5, hm5, ho5⟩
            have HC5 := Lib.hid hc5
            have HM5 := Lib.hid hm5
            have HO5 := Lib.hid ho5
            clear hc5 hm5 ho5
            go_wp2_with fail
            go_roundg (gk - 1)
            case measure => omega
            case rel =>
              have h1 := HIR.out
              have hz := h1.z
              have hml := HML.out
              refine ⟨i + 1, by omega, by omega, by go_num, ?_⟩
              rw [HFO.out]
              exact ⟨h1.c.trans' HC5.out (fun k hk e => by omega), HM5.out, h1.b.chg HC5.out (by omega) h1.b.lt, h1.s.chg HC5.out (by omega) h1.s.lt, h1.r.chg HC5.out (by omega) h1.r.lt, HO5.out, hz⟩
          · have HSAME := Lib.hid (show considerF (WG g) x o q = o from if_neg (fun h => hs0 (by rw [HSQ.out]; simpa using h.2)))
            go_wp2_with fail
            go_roundg (gk - 1)
            case measure => omega
            case rel =>
              refine ⟨i + 1, by omega, by omega, by go_num, ?_⟩
              rw [HFO.out, HSAME.out]
              exact HIR.out
        · have HSAME := Lib.hid (show considerF (WG g) x o q = o from if_neg (fun h => by have := h.1; rw [Int.toNat_natCast, ← HFQ.out] at this; cases this))
          go_wp2_with fail
          go_roundg (gk - 1)
          case measure => omega
          case rel =>
            refine ⟨i + 1, by omega, by omega, by go_num, ?_⟩
            rw [HFO.out, HSAME.out]
            exact HIR.out
      · obtain rfl : i = l.length := by omega
        have HBG := Lib.hid (show o = BG g x from by
          rw [HO.out, List.take_length, HNW.out, ← HDG.out]
          rfl)
        have c3 := (hI.b 3 _ rfl).1
        clear hI hG
        obtain ⟨nm, fm, hmm, hmf2⟩ := HIR.out.m.h
        have HMM := Lib.hid hmm
        have HMF := Lib.hid hmf2
        clear hmm hmf2
        go_upto_region 13 with first | (refine wpList_load_mid rfl 47 _ rfl (w.heap.size + 1) 0 rfl (stC x) _ (box_range (HIR.out.s)) Try.underlying47 rfl (by kernel_rfl) ?_) | (refine wpList_load_mid rfl 57 _ rfl (O) 0 rfl (cbC (o)) _ (box_range (HIR.out.o)) Try.underlying57 rfl (by kernel_rfl) ?_) | (at_mapUpdate; refine wpList_put rfl _ _ _ _ rfl 47 57 lawSt Try.underlying41 M nm fm rfl HMM.out (stV x) (cbV o) kl rfl rfl HKL.out ?_; intro w6 hm6 hg6 hs6)
        have hc6 : Chg (fun k => k = M) wr w6 := (Chg.refl _ _).grown hg6 (fun k e _ => by cases e; rfl)
        have h1 := HIR.out
        have hz := h1.z
        have hml := HML.out
        have HO6 := Lib.hid (h1.o.chg hc6 (by omega) h1.o.lt)
        have HR6 := Lib.hid (h1.r.chg hc6 (by omega) h1.r.lt)
        have HC6 := Lib.hid (h1.c.trans hc6)
        have HM6 := Lib.hid (show Memo g w6 M from ⟨nm + 1, _, hm6, by rw [HBG.out]; exact HMF.out.put HX.out HT.out⟩)
        clear hm6 hg6 hs6 hc6 h1 hz hml c3
        go_wp2_with first | (refine wpList_load_mid rfl 57 _ rfl (O) 0 rfl (cbC (o)) _ (box_range (HO6.out)) Try.underlying57 rfl (by kernel_rfl) ?_) | (refine wpList_store_mid rfl 57 _ _ rfl (w.heap.size + 1 + 1) 0 (cbC (o)).toArray rfl rfl (box_there (HR6.out) rfl) (by kernel_rfl) (by simp [Value.oneCell']) ?_)
        have hc7 : Chg (fun k => k = w.heap.size + 1 + 1) w6 (w6.setCells (w.heap.size + 1 + 1) 0 (cbC o)) := chg_setCells (S := fun k => k = w.heap.size + 1 + 1) (Chg.refl _ _) _ _ _ (fun _ => rfl)
        rw [← HBG.out]
        have hml := HML.out
        exact ret_pos rfl (HR6.out.stored rfl) (HC6.out.trans' hc7 fun k hk e => by omega) (HM6.out.chg hc7 (by omega))
end Go.Proofs.Ytgccankekflchaa

