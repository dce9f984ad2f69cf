


/- Package game: follow. -/
import Derived.Test.YtgccankekflchaaGamL
namespace Go.Proofs.Ytgccankekflchaa
open Go.RowKit Go.Maps Go.Shelf

attribute [local go_sem] Oper.semAt_some
theorem wpListIn_load_mid {F : Fence} {n : Nat} {P : Program} {ops : Array Oper} {rest : List Oper} {op : Oper} {a : Act} {w : World} {Q : Exit → Act → World → Prop} (hg : op.guard = none) (ty : TypeId) (x : Operand) (ho : op.op = .load ty x)
    (b o : Nat) (hx : a.eval x = .pointer (some ⟨b, o, none⟩)) (cs : List Value) (d : TypeDesc) (hc : w.rangeAt b o cs)
    (hu : P.underlying ty = some d) (hd : d.isRow = true) (hi : (P.info? ty).map (·.size) = some cs.length)
    (h : wpListIn F n P ops Q rest (a.put op.dst (.agg cs.toArray)) w) : wpListIn F n P ops Q (op :: rest) a w := by
  refine wpListIn_plain hg fun K' hK' => ?_
  unfold Oper.wpIn
  refine ⟨?_, ?_⟩
  · simp [Oper.about, ho]
  · rw [Oper.semAt_plain F _ _ (by rw [ho]; intro c hc'; cases hc'), exec_load_mid ty x ho b o hx cs d hc hu hd hi]
    exact hK' _ _ h
theorem wpIn_named {F : Fence} {n : Nat} {P : Program} {c : Code} {Q : Exit → Act → World → Prop} {a : Act} {W : World} (h : ∀ w1, w1 = W → c.wpIn F n P Q a w1) : c.wpIn F n P Q a W := h W rfl
def chS (K : FlK) (v : Value) (k : Nat) : Prop := k = K.M ∨ k = K.S ∨ k = K.Ob ∨ v.ownBlock = some k
abbrev stL (l : List PA) : List St := l.map (·.1.st)
/-- what follow does -/
structure FolP (K : FlK) (w : World) (v : Value) (l : List PA) (D : List St) (w' : World) : Prop where
  p : ∃ v' l', stL l' = D ∧ FlI K w' v' l' (stL l') ∧ (∀ b, Blk K v' l' b → Blk K v l b ∨ w.heap.size ≤ b) ∧ ∀ b, v'.ownBlock = some b → v.ownBlock = some b ∨ w.heap.size ≤ b
  c : Chg (chS K v) w w'
theorem FolP.from {K : FlK} {w wz w' : World} {v : Value} {l : List PA} {D : List St} (hb : Below w.heap.size w wz) (h : FolP K wz v l D w') : FolP K w v l D w' := by
  obtain ⟨v', l', h1, h2, h3, h4⟩ := h.p
  exact ⟨⟨v', l', h1, h2, fun b hB => (h3 b hB).imp id fun h => Nat.le_trans hb.size h, fun b hB => (h4 b hB).imp id fun h => Nat.le_trans hb.size h⟩, (Chg.of_below hb).trans h.c⟩
def FolC (K : FlK) (s : St) (k : Nat) : Prop := ∀ w v l, FlI K w v l (stL l) → l.length + NF k ≤ 50000000000 →
  Calls Try.prog 16 #[stV s, .pointer (some ⟨K.G, 0, none⟩), .pointer (some ⟨K.Bb, 0, none⟩), .pointer (some ⟨K.Sb, 0, none⟩), .pointer (some ⟨K.Ob, 0, none⟩), .pointer (some ⟨K.Fb, 0, none⟩)] w fun e w' => e = .returned (.tuple #[]) ∧ FolP K w v l (followL K.g k s (stL l)) w'
set_option maxRecDepth 100000 in
set_option maxHeartbeats 2000000 in
theorem fol_end (K : FlK) (s : St) (ht : s.turn = K.g.deps.length) : FolC K s 0 := by
  intro w v l hI _
  have hb0 : ∀ w', Below w.heap.size w w' → FolP K w v l (followL K.g 0 s (stL l)) w' := fun w' hb => ⟨⟨v, l, rfl, hI.later hb, fun _ h => .inl h, fun _ h => .inl h⟩, Chg.of_below hb⟩
  have HB0 := Lib.hid hb0
  obtain ⟨n, hn⟩ : ∃ n, n = K.g.deps.length := ⟨_, rfl⟩
  have c1 := (hI.g 1 _ rfl).1
  have hl := hI.tg.lt
  rw [← hn] at c1 ht
  have ht' : (s.turn == (n : Int)) = true := by simpa using ht
  clear hI hb0 hn
  unfold stV stC st14
  obtain ⟨t, htt⟩ : ∃ t, t = s.turn := ⟨_, rfl⟩
  rw [← htt] at ht ht' ⊢
  clear htt ht
  go_enter Try.func16, Try.ntmps16
  go_wp2_with fail
  refine bodyPost_ret (results_none rfl _ _ _) rfl ?_
  exact ⟨rfl, HB0.out _ (by repeat (first | exact Below.refl _ _ | assumption | refine Below.drew ?_ | refine below_drewN ?_ _ | refine Below.alloc ?_ (by first | omega | (simp; done) | (simp; omega)) _ | refine Below.setCell ?_ (by first | omega | (simp; done) | (simp; omega)) _ | refine Below.trans ?_ (Below.mono (by assumption) (by first | omega | (simp; done) | (simp; omega)))))⟩
theorem FlI.notMark {K : FlK} {w : World} {v : Value} {l : List PA} {D : List St} {m : Nat} {ds : Option (List Deferred)} (h : FlI K w v l D) (hd : w.heap[m]? = some (.deferred ds)) {b : Nat} (hb : Blk K v l b) (e : b = m) : False := by
  subst e
  by_cases h1 : b = K.M
  · subst h1
    obtain ⟨n, f, ⟨es, cl, hm, _⟩, _⟩ := h.m.h
    rw [hd] at hm
    cases hm
  · by_cases h2 : b = K.S
    · subst h2
      obtain ⟨n, es, cl, hm, _⟩ := h.s
      rw [hd] at hm
      cases hm
    · obtain ⟨U, cur, hc⟩ := h.blkTy hb h1 h2
      rw [hd] at hc
      cases hc
/-- what a round keeps -/
structure FoI (K : FlK) (w : World) (v : Value) (l : List PA) (H : Nat) (D : List St) (W : World) : Prop where
  p : ∃ v' l', stL l' = D ∧ FlI K W v' l' (stL l') ∧ (∀ b, Blk K v' l' b → Blk K v l b ∨ H + 1 < b) ∧ ∀ b, v'.ownBlock = some b → v.ownBlock = some b ∨ w.heap.size ≤ b
  c : Chg (chS K v) w W
theorem FoI.keep {K : FlK} {w : World} {v : Value} {l : List PA} {H : Nat} {D : List St} {A B : World} {T : Nat → Prop} (h : FoI K w v l H D A) (hw : FlI K w v l (stL l)) (hc : Chg T A B) (hT : ∀ k, T k → w.heap.size ≤ k ∧ k ≤ H + 1) : FoI K w v l H D B := by
  obtain ⟨v', l', e, hI, hb, hob⟩ := h.p
  refine ⟨⟨v', l', e, hI.chg hc (fun k hk => Nat.le_trans hw.bl.size (hT k hk).1) fun b hB hk => ?_, hb, hob⟩, h.c.trans' hc fun k hk e => by have := (hT k e).1; omega⟩
  have h1 := hT b hk
  rcases hb b hB with h2 | h2
  · have := hw.lt h2
    omega
  · omega
set_option maxRecDepth 100000 in
set_option maxHeartbeats 8000000 in
theorem fol_on (K : FlK) (hK : FlD K) (s : St) (k : Nat) (hs : Dom K.g s) (hk : s.turn + (k + 1) = K.g.deps.length) (hrec : ∀ s', Dom K.g s' → s'.turn + k = K.g.deps.length → FolC K s' k) : FolC K s (k + 1) := by
  intro w v l hI hlen
  have ht : s.turn < K.g.deps.length := by omega
  obtain ⟨DD, hDD⟩ : ∃ DD, DD = followL K.g (k + 1) s (stL l) := ⟨_, rfl⟩
  rw [← hDD]
  have HDD := Lib.hid (hDD.trans (followL_succ K.g k s (stL l)))
  have HMV := Lib.hid (moves_ok K.g K.sa K.da K.sc K.dc K.M s)
  have HREC := Lib.hid hrec
  have HK := Lib.hid hK
  have HS := Lib.hid hs
  have HKK := Lib.hid hk
  have HI := Lib.hid hI
  have HLEN := Lib.hid hlen
  have hf := hs.fit hK.vg
  have HF := Lib.hid hf
  have HU := Lib.hid (show 0 ≤ s.budget ∧ s.budget ≤ 100 from ⟨hs.b1, by have := hs.b0; have := hK.vg.2.2.2.1; omega⟩)
  obtain ⟨n, hn⟩ : ∃ n, n = K.g.deps.length := ⟨_, rfl⟩
  have c1 := (hI.g 1 _ rfl).1
  have b0 := (hI.b 0 _ rfl).1
  have b1 := (hI.b 1 _ rfl).1
  have b2 := (hI.b 2 _ rfl).1
  have b3 := (hI.b 3 _ rfl).1
  have lg := hI.tg.lt
  have lb := hI.tb.lt
  rw [← hn] at c1 ht b1
  obtain ⟨t, htt⟩ : ∃ t, t = s.turn := ⟨_, rfl⟩
  rw [← htt] at ht
  have ht' : (t == (n : Int)) = false := by simpa using (show t ≠ n by omega)
  have HT := Lib.hid htt
  have HN := Lib.hid hn
  unfold stV stC st14 at *
  rw [← htt]
  clear hDD hrec hK hs hk hI hlen hf hn htt ht
  refine (callsIn_wide (n := 3)).1 ?_
  refine callsIn_of_wp_marks Try.func16 rfl trivial ?_ rfl
  simp only [Try.ntmps16, List.size_toArray, List.length_cons, List.length_nil, Nat.reduceAdd, Nat.reduceSub, Array.replicate_succ, Array.replicate_zero, List.push_toArray, List.append_toArray, List.nil_append, List.cons_append]
  refine (wpIn_wide (n := 3)).2 ?_
  go_upto_region 4 with fail
  refine calls_named ?_
  intro w1 hw1
  have hb1 : Below w.heap.size w w1 := by rw [hw1]; exact (Below.refl _ _).alloc (Nat.le_refl _) _
  have hs1 : w1.heap.size = w.heap.size + 1 := by rw [hw1]; simp
  clear hw1
  rw [HT.out, HN.out]
  refine Calls.mono (HMV.out w1) ?_
  rintro e w2 ⟨Bs, Bb, rfl, hb2, hs2, hBs, hBb, hbs, hbb⟩
  have HI2 := Lib.hid (show FoI K w v l w2.heap.size (stL l) w2 from ⟨⟨v, l, rfl, HI.out.later (hb1.trans (hb2.mono hb1.size)), fun _ h => .inl h, fun _ h => .inl h⟩, Chg.of_below (hb1.trans (hb2.mono hb1.size))⟩)
  have HSS := Lib.hid hbs
  have HBB := Lib.hid hbb
  have HNUM := Lib.hid (show Bs = w.heap.size + 2 ∧ Bb = w.heap.size + 1 ∧ w2.heap.size = w.heap.size + 3 from ⟨by omega, by omega, by omega⟩)
  clear hbs hbb hb1 hs1 hb2 hs2 hBs hBb
  clear c1 b0 b1 b2 b3 lg lb ht'
  go_wp2_with fail
  refine (wpIn_wide (n := 3)).1 ?_
  refine' wpIn_rangeFunc_chg (F := Fence.wide) (n := 3) rfl (by omega) (gf := 45) (lb := #[.pointer (some ⟨Bs, 0, none⟩), .pointer (some ⟨Bb, 0, none⟩)]) rfl trivial (enters_of Try.func45 (by kernel_rfl) rfl)
    (moves_seq 2 (by omega) Bs Bb K.g K.sa K.da K.sc K.dc K.M s HF.out HU.out w2 HSS.out HBB.out (by have := HNUM.out; omega)) (Below.refl _ _) (by have := HNUM.out; rintro k (rfl | rfl) <;> omega) (by have := HNUM.out; rintro k rfl; omega) (fun _ => rfl)
    (fun pre W => FoI K w v l w2.heap.size (pre.foldl (folStep K.g k) (stL l)) W)
    (fun pre x W W' => FoI K w v l w2.heap.size (pre.foldl (folStep K.g k) (stL l)) W' ∧ w2.heap.size + 1 < W.heap.size ∧ BoxAt W' W.heap.size (stC x) ∧ IsTy W' W.heap.size 47)
    ?own ?own2 HI2.out _ ?assign ?body ?done
  case own =>
    intro pre A B h hc
    have := HNUM.out
    exact h.keep HI.out hc (by rintro k (rfl | rfl | rfl) <;> omega)
  case own2 =>
    rintro pre x W A B ⟨h, hs, hx, hxt⟩ hc
    have := HNUM.out
    exact ⟨h.keep HI.out hc (by rintro k rfl; omega), hs, hx.chg hc (by omega) hx.lt, hxt.block (hc.block _ hxt.lt (by omega))⟩
  case assign =>
    intro l' pre x W K' h hs hpx hK'
    have HK' := Lib.hid hK'
    have HH := Lib.hid h
    clear hK' h
    unfold stV stC st14
    gi_wp2
    have hbW : Below W.heap.size W (W.alloc (Obj.cells (stC x).toArray 47)) := (Below.refl _ _).alloc (Nat.le_refl _) _
    refine HK'.out _ (Chg.of_below hbW) ⟨HH.out.keep HI.out (T := fun _ => False) (Chg.of_below hbW) (fun _ h => h.elim), hs, BoxAt.new _ _ _, ⟨_, World.alloc_heap_new W (.cells (stC x).toArray 47)⟩⟩
  case done =>
    intro D W hD h hdef
    have HH := Lib.hid h
    have HDEF := Lib.hid hdef
    clear h hdef
    gi_wp2_with fail
    go_wp2_with fail
    have hDs : w.heap.size ≤ D := by have := HNUM.out; omega
    refine ret_marksG (v := .tuple #[]) HDEF.out (results_none rfl _ _ _) ⟨rfl, ?_, ?_⟩
    · obtain ⟨v', l'', e1, hI', hb', hob'⟩ := HH.out.p
      have hc := Chg.put (S := fun j => j = D) W (.deferred none) HDEF.out rfl
      refine ⟨v', l'', e1.trans HDD.out.symm, hI'.chg hc (fun j e => by have := HI.out.bl.size; omega) (fun b hb e => ?_), fun b hb => ?_, hob'⟩
      · rcases hb' b hb with h1 | h1
        · have := HI.out.lt h1; omega
        · exact hI'.notMark HDEF.out hb e
      · rcases hb' b hb with h1 | h1
        · exact .inl h1
        · exact .inr (by have := HNUM.out; omega)
    · exact HH.out.c.trans' (Chg.put (S := fun j => j = D) W (.deferred none) HDEF.out rfl) fun j hj e => by omega
  case body =>
    rintro l' pre x W W' ⟨h, hs, hx, hty⟩ hlt hpx
    have HTY := Lib.hid hty
    obtain ⟨v', lp, e1, hI', hb', hob'⟩ := h.p
    have HOB' := Lib.hid hob'
    have hlpl : lp.length + (1 + NF k) ≤ l.length + NF (k + 1) := by
      have h1 : (stL lp).length = lp.length := List.length_map _
      have h2 := fold_len HK.out.vg (k := k) HS.out (by have := HKK.out; omega) pre (stL l) (fun y hy => hpx.subset (by simp [hy]))
      have h3 := hpx.length_le
      have h4 := madeL_len HK.out.vg HS.out
      rw [List.length_append, List.length_singleton] at h3
      rw [← e1, h1, show (stL l).length = l.length from List.length_map _] at h2
      have h5 := Nat.mul_le_mul_right (1 + NF k) (show pre.length ≤ 6 by omega)
      show _ ≤ l.length + 7 * (1 + NF k)
      omega
    have HLPL := Lib.hid hlpl
    have hxm : x ∈ madeL s := hpx.subset (by simp)
    have hxd := HS.out.made hxm
    have hxt := made_turn hxm
    obtain ⟨DP, hDP⟩ : ∃ DP, DP = pre.foldl (folStep K.g k) (stL l) := ⟨_, rfl⟩
    have hstep : (pre ++ [x]).foldl (folStep K.g k) (stL l) = folStep K.g k DP x := by rw [List.foldl_append, hDP]; rfl
    rw [← hDP] at e1
    have HSTEP := Lib.hid hstep
    have HE1 := Lib.hid e1
    have HI' := Lib.hid hI'
    have HB' := Lib.hid hb'
    have HC' := Lib.hid h.c
    have HX := Lib.hid hx
    have HXD := Lib.hid hxd
    have HXT := Lib.hid hxt
    obtain ⟨ns, hns⟩ := hI'.s
    have HNS := Lib.hid hns
    obtain ⟨kl, hkl⟩ := hxd.key HK.out.vg
    have HKL := Lib.hid hkl
    have s0 := (hI'.sb 0 _ rfl).1
    clear hI' hb' hob' hlpl h hx hty hxm hxd hxt hDP hstep e1 hns hkl
    by_cases hin : x ∈ DP
    · have HIN := Lib.hid hin
      have hse : seenF (stL lp) (stV x) = some (.bool true) := seenF_in (by rw [HE1.out]; exact hin)
      clear hin
      gi_wp2_with first | (refine wpListIn_load_mid rfl 47 _ rfl W.heap.size 0 rfl (stC x) _ (box_range (HX.out)) Try.underlying47 rfl (by kernel_rfl) ?_) | (refine wpListIn_look rfl _ _ _ rfl 47 4 lawSt Try.underlying50 (.bool false) zeroBl K.S ns (seenF (stL lp)) rfl HNS.out (stV x) kl rfl HKL.out ?_; rw [hse]; dsimp only [Option.getD])
      refine ⟨Nat.le_refl _, fun _ _ => rfl, ?_⟩
      show FoI K w v l w2.heap.size ((pre ++ [x]).foldl (folStep K.g k) (stL l)) W'
      rw [HSTEP.out, folStep, if_pos HIN.out]
      exact ⟨⟨v', lp, HE1.out, HI'.out, HB'.out, HOB'.out⟩, HC'.out⟩
    · have hfd : ∀ y ∈ DP, Fit K.g.starts.length y := fun y hy => ((HI'.out.dom y (by rw [HE1.out]; exact hy)).1).fit HK.out.vg
      have hse : seenF (stL lp) (stV x) = none := seenF_out (HXD.out.fit HK.out.vg) (by rw [HE1.out]; exact hfd) (by rw [HE1.out]; exact hin)
      have HIN := Lib.hid hin
      clear hin hfd
      gi_upto_region 5 with first | (refine wpListIn_load_mid rfl 47 _ rfl W.heap.size 0 rfl (stC x) _ (box_range (HX.out)) Try.underlying47 rfl (by kernel_rfl) ?_) | (refine wpListIn_look rfl _ _ _ rfl 47 4 lawSt Try.underlying50 (.bool false) zeroBl K.S ns (seenF (stL lp)) rfl HNS.out (stV x) kl rfl HKL.out ?_; rw [hse]; dsimp only [Option.getD])
      clear hse
      gi_upto_region 6 with first | (refine wpListIn_load_mid rfl 47 _ rfl W.heap.size 0 rfl (stC x) _ (box_range (HX.out)) Try.underlying47 rfl (by kernel_rfl) ?_) | (gi_at_mapUpdate; refine wpListIn_put rfl _ _ _ _ rfl 47 4 lawSt Try.underlying50 K.S ns (seenF (stL lp)) rfl HNS.out (stV x) (.bool true) kl rfl rfl HKL.out ?_; intro W3 hm3 hg3 hs3)
      have hlS : K.S < w.heap.size := HI.out.lt (.inr (.inl rfl))
      have hlM : K.M < w.heap.size := HI.out.lt (.inl rfl)
      have hlO : K.Ob < w.heap.size := HI.out.tO.lt
      have hwW : w.heap.size < W.heap.size := by have := HNUM.out; omega
      have hc3 : Chg (fun k => k = K.S) W' W3 := (Chg.refl _ _).grown hg3 (fun k e _ => by cases e; rfl)
      have hI3 : FlI K W3 v' lp (stL lp ++ [x]) := HI'.out.seen HK.out hc3 (hm3.congr fun y => seenF_put _ _ _) fun y hy => by
        rcases List.mem_append.1 hy with hy | hy
        · exact HI'.out.dom y hy
        · rw [List.mem_singleton] at hy
          subst hy
          exact ⟨HXD.out, by have := HXT.out; have := HKK.out; omega⟩
      have hx3 := HX.out.chg hc3 (by omega) HX.out.lt
      have ht3 := HTY.out.block (hc3.block _ HTY.out.lt (by omega))
      have HNL := Lib.hid (And.intro hlS (And.intro hlM (And.intro hlO hwW)))
      have HC3 := Lib.hid hc3
      have HI3 := Lib.hid hI3
      have HX3 := Lib.hid hx3
      have HT3 := Lib.hid ht3
      have HBE := Lib.hid (best_ok HK.out.vg K.sa K.da K.sc K.dc K.M HXD.out (by have := HXT.out; have := HKK.out; omega) W3 hI3.m (HK.out.gm.later hI3.bl))
      clear hm3 hg3 hs3 hlS hlM hlO hwW hc3 hI3 hx3 ht3 s0
      gi_upto_region 7 with first | (refine wpListIn_load_mid rfl 47 _ rfl W.heap.size 0 rfl (stC x) _ (box_range (HX3.out)) Try.underlying47 rfl (by kernel_rfl) ?_) | (refine wpListIn_load_mid rfl 43 _ rfl K.Bb 0 rfl (bdC K.g K.sa K.sc K.da K.dc K.M) _ (box_range HI3.out.b) Try.underlying43 rfl (by kernel_rfl) ?_) | (refine ⟨trivial, (CallsIn.inRound l' (callsIn_wide.2 HBE.out)).mono ?_⟩; rintro e W4 ⟨rfl, hc4, hm4⟩)
      refine wpIn_named ?_
      intro w5 hw5
      have hb5 : Below W4.heap.size W4 w5 := by rw [hw5]; exact (Below.refl _ _).alloc (Nat.le_refl _) _
      have hp5 : BoxAt w5 W4.heap.size (cbC (BG K.g x)) := by rw [hw5]; exact BoxAt.new _ _ _
      have hs5 : w5.heap.size = W4.heap.size + 1 := by rw [hw5]; simp
      clear hw5
      have hI4 := HI3.out.memo HK.out hc4 hm4
      have hI5 := hI4.later hb5
      have hx5 := (HX3.out.chg hc4 (by have := HNL.out; omega) HX3.out.lt).later hb5
      have ht5 := (HT3.out.block (hc4.block _ HT3.out.lt (by have := HNL.out; omega))).block (hb5.block _ (by have h1 := HT3.out.lt; have h2 := hc4.size; omega))
      have HC5 := Lib.hid (show Chg (fun j => j = K.S ∨ j = K.M) W' w5 from (HC3.out.mono fun _ _ h => .inl h).trans' (hc4.trans (Chg.of_below hb5)) fun _ _ h => .inr h)
      have HI5 := Lib.hid hI5
      have HX5 := Lib.hid hx5
      have HT5 := Lib.hid ht5
      have HP5 := Lib.hid hp5
      have g0 := (hI5.g 0 _ rfl).1
      have hm6 : x.starts.length = K.g.starts.length := HXD.out.ls
      have hf6 : x.failed.length = K.g.starts.length := HXD.out.lf
      have h66 : K.g.starts.length ≤ 6 := HK.out.vg.1
      obtain ⟨m, hm⟩ : ∃ m, m = K.g.starts.length := ⟨_, rfl⟩
      rw [← hm] at g0 hm6 hf6 h66
      have HM6 := Lib.hid hm6
      have HF6 := Lib.hid hf6
      have HPL := Lib.hid (show w5.heap.size = W4.heap.size + 1 ∧ W'.heap.size ≤ W4.heap.size from ⟨hs5, Nat.le_trans HC3.out.size hc4.size⟩)
      clear hb5 hp5 hs5 hI4 hI5 hx5 ht5 hc4 hm4 hm6 hf6 hm
      gi_upto_region 8 with fail
      clear g0
      have hpM : ¬ (v'.ownBlock = some W4.heap.size ∨ W4.heap.size = K.Ob) := by
        have h1 := HNL.out
        have h2 := HPL.out
        have h3 := HX.out.lt
        rintro (h | h)
        · have := (HI'.out.own.lt _ h).2; omega
        · omega
      have hxM : ¬ (v'.ownBlock = some W.heap.size ∨ W.heap.size = K.Ob) := by
        have h1 := HNL.out
        rintro (h | h)
        · exact (HI5.out.own.ty h).ne HT5.out (by decide) rfl
        · omega
      have HPM := Lib.hid hpM
      have HLP := Lib.hid (show lp.length ≤ 50000000000 from by have := HLPL.out; have := HLEN.out; omega)
      have HXM := Lib.hid hxM
      have m66 : (m : Int) ≤ 6 := by omega
      clear hpM hxM
      refine wpIn_flow_j (fun β L' w' => FoJ K w5 v' lp x (β 6) (β 10) (β 18) (β 19) (L' 6) (L' 10) (L' 18) (L' 19) (L' 20) w') (by kernel_rfl) (by kernel_rfl) (by kernel_rfl) ?h0 ?_
      case h0 => exact FoJ.start HI5.out
      ((with_reducible refine FlowJ.pure (v := ?_) ?_ ?_ ?_ ?_); rotate_left 1; (focus (intro _; rfl)); (focus (intro β L' w' hJ hat; (try dsimp only at hJ); (try dsimp only); simpa only [setL, Nat.reduceEqDiff, if_false] using hJ)); (focus (intro β L' w' hJ hat; (try dsimp only at hJ); ((have n20 := hat.not (j := 20) (by kernel_rfl)); have o0 := (hJ.ob 0 _ rfl).1; simp only [n20, Bool.false_eq_true, if_false] at o0); go_simp; (try with_reducible rfl); done)); (try simp only [Act.put, List.setIfInBounds_toArray, List.set_cons_zero, List.set_cons_succ, Nat.reduceAdd]))
      ((with_reducible refine FlowJ.pure (v := ?_) ?_ ?_ ?_ ?_); rotate_left 1; (focus (intro _; rfl)); (focus (intro β L' w' hJ hat; (try dsimp only at hJ); (try dsimp only); simpa only [setL, Nat.reduceEqDiff, if_false] using hJ)); (focus (intro β L' w' hJ hat; (try dsimp only at hJ); skip; go_simp; (try with_reducible rfl); done)); (try simp only [Act.put, List.setIfInBounds_toArray, List.set_cons_zero, List.set_cons_succ, Nat.reduceAdd]))
      ((with_reducible refine FlowJ.pure (v := ?_) ?_ ?_ ?_ ?_); rotate_left 1; (focus (intro _; rfl)); (focus (intro β L' w' hJ hat; (try dsimp only at hJ); (try dsimp only); simpa only [setL, Nat.reduceEqDiff, if_false] using hJ)); (focus (intro β L' w' hJ hat; (try dsimp only at hJ); (have hx := HX5.out.chg hJ.c HXM.out HX5.out.lt; have x0 := (hx 0 _ rfl).1); go_simp; (try with_reducible rfl); done)); (try simp only [Act.put, List.setIfInBounds_toArray, List.set_cons_zero, List.set_cons_succ, Nat.reduceAdd]))
      iterate 3 (((with_reducible refine FlowJ.pure (v := ?_) ?_ ?_ ?_ ?_); rotate_left 1; (focus (intro _; rfl)); (focus (intro β L' w' hJ hat; (try dsimp only at hJ); (try dsimp only); simpa only [setL, Nat.reduceEqDiff, if_false] using hJ)); (focus (intro β L' w' hJ hat; (try dsimp only at hJ); skip; go_simp; (try with_reducible rfl); done)); (try simp only [Act.put, List.setIfInBounds_toArray, List.set_cons_zero, List.set_cons_succ, Nat.reduceAdd])))
      ((with_reducible refine FlowJ.ghost ?_ ?_ ?_); (focus (intro _; rfl)); (focus (intro β L' w' hJ hat K' hK; (try dsimp only at hJ); ((have n18 := hat.not (j := 18) (by kernel_rfl)); (have n19 := hat.not (j := 19) (by kernel_rfl)); have un := hat.un; simp only [un, n18, n19] at hJ; have hx := HX5.out.chg hJ.c HXM.out HX5.out.lt; have hcl := clone_ints x.starts W.heap.size 1 6 w' (box_starts hx (by have := HM6.out; omega)) (by have := HM6.out; omega); rw [HM6.out] at hcl; go_simp; go_at_call 19; refine Calls.mono hcl ?_; rintro e w6 ⟨a, q, rfl, ho, hb⟩; refine hK.out _ _ ?_; simp only [updG, setL, Nat.reduceEqDiff, if_true, if_false, n18, n19]; exact hJ.clone6 hb (by rw [HM6.out]) ho))); (try simp only [Act.put, List.setIfInBounds_toArray, List.set_cons_zero, List.set_cons_succ, Nat.reduceAdd]))
      iterate 3 (((with_reducible refine FlowJ.pure (v := ?_) ?_ ?_ ?_ ?_); rotate_left 1; (focus (intro _; rfl)); (focus (intro β L' w' hJ hat; (try dsimp only at hJ); (try dsimp only); simpa only [setL, Nat.reduceEqDiff, if_false] using hJ)); (focus (intro β L' w' hJ hat; (try dsimp only at hJ); skip; go_simp; (try with_reducible rfl); done)); (try simp only [Act.put, List.setIfInBounds_toArray, List.set_cons_zero, List.set_cons_succ, Nat.reduceAdd])))
      ((with_reducible refine FlowJ.ghost ?_ ?_ ?_); (focus (intro _; rfl)); (focus (intro β L' w' hJ hat K' hK; (try dsimp only at hJ); ((have n18 := hat.not (j := 18) (by kernel_rfl)); (have n19 := hat.not (j := 19) (by kernel_rfl)); have un := hat.un; simp only [un, n18, n19] at hJ; have hx := HX5.out.chg hJ.c HXM.out HX5.out.lt; have hcl := clone_bools x.failed W.heap.size 7 6 w' (box_failed hx (by have := HF6.out; omega)) (by have := HF6.out; omega); rw [HF6.out] at hcl; go_simp; go_at_call 20; refine Calls.mono hcl ?_; rintro e w6 ⟨a, q, rfl, ho, hb⟩; refine hK.out _ _ ?_; simp only [updG, setL, Nat.reduceEqDiff, if_true, if_false, n18, n19]; exact hJ.clone10 hb (by rw [HF6.out]) ho))); (try simp only [Act.put, List.setIfInBounds_toArray, List.set_cons_zero, List.set_cons_succ, Nat.reduceAdd]))
      ((with_reducible refine FlowJ.pure (v := ?_) ?_ ?_ ?_ ?_); rotate_left 1; (focus (intro _; rfl)); (focus (intro β L' w' hJ hat; (try dsimp only at hJ); (try dsimp only); simpa only [setL, Nat.reduceEqDiff, if_false] using hJ)); (focus (intro β L' w' hJ hat; (try dsimp only at hJ); skip; go_simp; (try with_reducible rfl); done)); (try simp only [Act.put, List.setIfInBounds_toArray, List.set_cons_zero, List.set_cons_succ, Nat.reduceAdd]))
      ((with_reducible refine FlowJ.pure (v := ?_) ?_ ?_ ?_ ?_); rotate_left 1; (focus (intro _; rfl)); (focus (intro β L' w' hJ hat; (try dsimp only at hJ); (try dsimp only); simpa only [setL, Nat.reduceEqDiff, if_false] using hJ)); (focus (intro β L' w' hJ hat; (try dsimp only at hJ); (have hx := HX5.out.chg hJ.c HXM.out HX5.out.lt; have x13 := (hx 13 _ rfl).1); go_simp; (try with_reducible rfl); done)); (try simp only [Act.put, List.setIfInBounds_toArray, List.set_cons_zero, List.set_cons_succ, Nat.reduceAdd]))
      ((with_reducible refine FlowJ.pure (v := ?_) ?_ ?_ ?_ ?_); rotate_left 1; (focus (intro _; rfl)); (focus (intro β L' w' hJ hat; (try dsimp only at hJ); (try dsimp only); simpa only [setL, Nat.reduceEqDiff, if_false] using hJ)); (focus (intro β L' w' hJ hat; (try dsimp only at hJ); skip; go_simp; (try with_reducible rfl); done)); (try simp only [Act.put, List.setIfInBounds_toArray, List.set_cons_zero, List.set_cons_succ, Nat.reduceAdd]))
      ((with_reducible refine FlowJ.pure (v := ?_) ?_ ?_ ?_ ?_); rotate_left 1; (focus (intro _; rfl)); (focus (intro β L' w' hJ hat; (try dsimp only at hJ); (try dsimp only); simpa only [setL, Nat.reduceEqDiff, if_false] using hJ)); (focus (intro β L' w' hJ hat; (try dsimp only at hJ); (have hp := HP5.out.chg hJ.c HPM.out HP5.out.lt; have p4 := (hp 4 _ rfl).1); go_simp; (try with_reducible rfl); done)); (try simp only [Act.put, List.setIfInBounds_toArray, List.set_cons_zero, List.set_cons_succ, Nat.reduceAdd]))
      ((with_reducible refine FlowJ.pure (v := ?_) ?_ ?_ ?_ ?_); rotate_left 1; (focus (intro _; rfl)); (focus (intro β L' w' hJ hat; (try dsimp only at hJ); (try dsimp only); simpa only [setL, Nat.reduceEqDiff, if_false] using hJ)); (focus (intro β L' w' hJ hat; (try dsimp only at hJ); skip; go_simp; (try with_reducible rfl); done)); (try simp only [Act.put, List.setIfInBounds_toArray, List.set_cons_zero, List.set_cons_succ, Nat.reduceAdd]))
      ((with_reducible refine FlowJ.pure (v := ?_) ?_ ?_ ?_ ?_); rotate_left 1; (focus (intro _; rfl)); (focus (intro β L' w' hJ hat; (try dsimp only at hJ); (try dsimp only); simpa only [setL, Nat.reduceEqDiff, if_false] using hJ)); (focus (intro β L' w' hJ hat; (try dsimp only at hJ); (have hp := HP5.out.chg hJ.c HPM.out HP5.out.lt; have p5 := (hp 5 _ rfl).1); go_simp; (try with_reducible rfl); done)); (try simp only [Act.put, List.setIfInBounds_toArray, List.set_cons_zero, List.set_cons_succ, Nat.reduceAdd]))
      refine FlowJ.pureG (v := fun β => .agg #[.int .i64 x.turn, β 6, β 10, .int .i64 x.budget, .int .i64 (BG K.g x).1, .int .i64 (BG K.g x).2]) (fun β k b hk => ?_) (fun β b => rfl) (fun _ => rfl) (fun β L' w' hJ hat => by simpa only [setL, Nat.reduceEqDiff, if_false] using hJ) (fun β L' w' hJ hat => ?_) ?_
      · have e6 : updG β k b 6 = β 6 := updG_ne β b fun e => by subst e; exact Bool.false_ne_true (hk.symm.trans (by kernel_rfl))
        have e10 : updG β k b 10 = β 10 := updG_ne β b fun e => by subst e; exact Bool.false_ne_true (hk.symm.trans (by kernel_rfl))
        simp only [e6, e10]
      · (have p6 := hat.pre 6 (by kernel_rfl))
        (have p10 := hat.pre 10 (by kernel_rfl))
        obtain ⟨a6, q6, e6, _⟩ := hJ.k6 p6
        obtain ⟨a10, q10, e10, _⟩ := hJ.k10 p10
        rw [e6, e10]
        clear hJ
        go_simp
        (try with_reducible rfl); done
      (try simp only [Act.put, List.setIfInBounds_toArray, List.set_cons_zero, List.set_cons_succ, Nat.reduceAdd])
      ((with_reducible refine FlowJ.ghost ?_ ?_ ?_); (focus (intro _; rfl)); (focus (intro β L' w' hJ hat K' hK; (try dsimp only at hJ); ((have p17 := hat.pre 17 (by kernel_rfl)); have p6 := hat.down 17 6 p17 (by decide) (by kernel_rfl); have p10 := hat.down 17 10 p17 (by decide) (by kernel_rfl); (have n19 := hat.not (j := 19) (by kernel_rfl)); have un := hat.un; simp only [un, n19, p6, p10] at hJ; obtain ⟨a6, q6, e6, _⟩ := hJ.k6 rfl; obtain ⟨a10, q10, e10, _⟩ := hJ.k10 rfl; have hm := hJ.made; have ec : psCs (eP K.g x (β 6) (β 10)) = [.int .i64 x.turn, β 6, β 10, .int .i64 x.budget, .int .i64 (BG K.g x).1, .int .i64 (BG K.g x).2] := (by unfold eP; rw [e6, e10]; rfl); rw [ec] at hm; rw [e6, e10]; go_simp; rw [← e6, ← e10]; refine hK.out _ _ ?_; simp only [updG, setL, Nat.reduceEqDiff, if_true, if_false, n19, p6, p10]; exact hm))); (try simp only [Act.put, List.setIfInBounds_toArray, List.set_cons_zero, List.set_cons_succ, Nat.reduceAdd]))
      ((with_reducible refine FlowJ.ghost ?_ ?_ ?_); (focus (intro _; rfl)); (focus (intro β L' w' hJ hat K' hK; (try dsimp only at hJ); ((have p18 := hat.pre 18 (by kernel_rfl)); have p17 := hat.down 18 17 p18 (by decide) (by kernel_rfl); have p6 := hat.down 17 6 p17 (by decide) (by kernel_rfl); have p10 := hat.down 17 10 p17 (by decide) (by kernel_rfl); (have n20 := hat.not (j := 20) (by kernel_rfl)); have un := hat.un; simp only [un, n20, p6, p10, p18] at hJ; obtain ⟨nb, e18, hnb, hbx⟩ := hJ.k18 rfl; obtain ⟨v2, w2', hr, ho, hg, hn⟩ := El.appBig (E := EQ) w' K.w0.heap.size v' lp [eP K.g x (β 6) (β 10)] hJ.own ⟨nb, 0, none⟩ 1 (El.one_at (E := EQ) hbx) (by have := HLP.out; simp; omega) (Nat.le_trans HI5.out.bl.size hJ.c.size) 28; refine wp_app_eq (.tmp 31) (.tmp 49) 28 rfl v' (β 18) rfl rfl (by rw [e18]; exact hr) ?_; refine hK.out _ _ ?_; simp only [updG, setL, Nat.reduceEqDiff, if_true, if_false, n20, p6, p10, p18]; exact hJ.app HI5.out ho hg hn))); (try simp only [Act.put, List.setIfInBounds_toArray, List.set_cons_zero, List.set_cons_succ, Nat.reduceAdd]))
      ((with_reducible refine FlowJ.eff ?_ ?_ ?_); (focus (intro _; rfl)); (focus (intro β L' w' hJ hat K' hK; (try dsimp only at hJ); ((have p19 := hat.pre 19 (by kernel_rfl)); have p18 := hat.down 19 18 p19 (by decide) (by kernel_rfl); have p17 := hat.down 18 17 p18 (by decide) (by kernel_rfl); have p6 := hat.down 17 6 p17 (by decide) (by kernel_rfl); have p10 := hat.down 17 10 p17 (by decide) (by kernel_rfl);  have un := hat.un; simp only [un, p6, p10, p18, p19] at hJ; have ho := hJ.ob; simp only [Bool.false_eq_true, if_false] at ho; have o0 := (ho 0 _ rfl).1; have o1 := (ho 0 _ rfl).2; have hst := hJ.store HI5.out; have hown := hJ.own; simp only [if_true] at hown; obtain ⟨oa, na, ca, e19⟩ := hown.shape; rw [e19]; go_simp; rw [← e19]; refine hK.out _ ?_; simp only [setL, Nat.reduceEqDiff, if_true, if_false, p6, p10, p18, p19]; exact hst))); (try simp only [Act.put, Nat.reduceAdd]))
      refine FlowJ.stop ?_
      dsimp only
      intro β w6 hJ
      have hI6 := hJ.done HI5.out HK.out.lo.2.2
      have hx6 := HX5.out.chg hJ.c HXM.out HX5.out.lt
      have hp6 := HP5.out.chg hJ.c HPM.out HP5.out.lt
      obtain ⟨v6, hv6⟩ : ∃ v6, v6 = β 19 := ⟨_, rfl⟩
      obtain ⟨l6, hl6⟩ : ∃ l6, l6 = lp ++ [eP K.g x (β 6) (β 10)] := ⟨_, rfl⟩
      have hst6 : stL l6 = stL lp ++ [x] := by rw [hl6]; simp [stL, eP, posS_st]
      rw [← hv6, ← hl6, ← hst6] at hI6
      have hblk : ∀ b, Blk K v6 l6 b → Blk K v' lp b ∨ w5.heap.size ≤ b := fun b hb => by
        rcases hb with h | h | h | h | h | h | h | h | ⟨e, he, h⟩
        · exact .inl (.inl h)
        · exact .inl (.inr (.inl h))
        · exact .inl (.inr (.inr (.inl h)))
        · exact .inl (.inr (.inr (.inr (.inl h))))
        · exact .inl (.inr (.inr (.inr (.inr (.inl h)))))
        · exact .inl (.inr (.inr (.inr (.inr (.inr (.inl h))))))
        · exact .inl (.inr (.inr (.inr (.inr (.inr (.inr (.inl h)))))))
        · rw [hv6] at h
          exact (hJ.nb rfl b h).imp (fun h => .inr (.inr (.inr (.inr (.inr (.inr (.inr (.inl h)))))))) id
        · rw [hl6] at he
          rcases List.mem_append.1 he with he | he
          · exact .inl (.inr (.inr (.inr (.inr (.inr (.inr (.inr (.inr ⟨e, he, h⟩))))))))
          · rw [List.mem_singleton] at he
            subst he
            obtain ⟨a6, q6, e6, o6⟩ := hJ.k6 rfl
            obtain ⟨a10, q10, e10, o10⟩ := hJ.k10 rfl
            refine .inr ?_
            rcases h with h | h
            · unfold eP at h
              rw [e6] at h o6
              exact (o6.lt b h).1
            · unfold eP at h
              rw [e10] at h o10
              exact (o10.lt b h).1
      have HI6 := Lib.hid hI6
      have HX6 := Lib.hid hx6
      have HP6 := Lib.hid hp6
      have HST6 := Lib.hid hst6
      have HLN := Lib.hid (show l6.length + NF k ≤ 50000000000 from by
        have h1 := HLPL.out
        have h2 := HLEN.out
        rw [hl6, List.length_append, List.length_singleton]
        omega)
      have HBL6 := Lib.hid hblk
      have HC6 := Lib.hid hJ.c
      have HNB := Lib.hid (show ∀ b, v6.ownBlock = some b → v'.ownBlock = some b ∨ w5.heap.size ≤ b from by rw [hv6]; exact hJ.nb rfl)
      have f0 := (hI6.f 0 _ rfl).1
      have p4 := (hp6 4 _ rfl).1
      have hcan : (BG K.g x).1 = -1 ∨ 0 ≤ (BG K.g x).1 ∧ (BG K.g x).1 < K.g.starts.length := by
        rcases BG_can K.g x with h | h
        · exact .inl h
        · exact .inr (okDep_domG (HK.out.vg.2.2.2.2.2 _ (by have := HXT.out; have := HKK.out; have := HXD.out.t0; omega)) h.1)
      have HAF := Lib.hid (fun w => after_anyG x (BG K.g x).1 w (HXD.out.fit HK.out.vg) (HXD.out.sts HK.out.vg) hcan)
      have HRE := Lib.hid (HREC.out (afterS x (BG K.g x).1) (HXD.out.next (by have := HXT.out; have := HKK.out; omega)) (by show x.turn + 1 + k = _; have := HXT.out; have := HKK.out; omega))
      have lF := hI6.tf.lt
      have lX := hx6.lt
      have lP := hp6.lt
      clear hI6 hx6 hp6 hst6 hblk hJ hcan hl6 hv6
      gi_upto_region 9 with fail
      refine wpIn_flow_j (fun β L' w' => (L' 5 = false → Below w6.heap.size w6 w') ∧ (L' 5 = true → FolP K w6 v6 l6 (followL K.g k (afterS x (BG K.g x).1) (stL l6)) w')) (by kernel_rfl) (by kernel_rfl) (by kernel_rfl) ?h9 ?_
      case h9 => exact ⟨fun _ => (Below.refl _ _).drew, fun e => by cases e⟩
      ((with_reducible refine FlowJ.pure (v := ?_) ?_ ?_ ?_ ?_); rotate_left 1; (focus (intro _; rfl)); (focus (intro β L' w' hJ hat; (try dsimp only at hJ); (try dsimp only); simpa only [setL, Nat.reduceEqDiff, if_false] using hJ)); (focus (intro β L' w' hJ hat; (try dsimp only at hJ); ((have n5 := hat.not (j := 5) (by kernel_rfl)); have hb := hJ.1 n5; have f1 := cell_later hb f0); go_simp; (try with_reducible rfl); done)); (try simp only [Act.put, List.setIfInBounds_toArray, List.set_cons_zero, List.set_cons_succ, Nat.reduceAdd]))
      ((with_reducible refine FlowJ.pure (v := stV x) ?_ ?_ ?_ ?_); (focus (intro _; rfl)); (focus (intro β L' w' hJ hat; (try dsimp only at hJ); (try dsimp only); simpa only [setL, Nat.reduceEqDiff, if_false] using hJ)); (focus (intro β L' w' hJ hat; (try dsimp only at hJ); ((have n5 := hat.not (j := 5) (by kernel_rfl)); have hb := hJ.1 n5; exact exec_load_mid 47 (.tmp 7) rfl W.heap.size 0 rfl _ _ (box_range (HX6.out.later hb)) Try.underlying47 rfl (by kernel_rfl)))); (try simp only [Act.put, List.setIfInBounds_toArray, List.set_cons_zero, List.set_cons_succ, Nat.reduceAdd]))
      ((with_reducible refine FlowJ.pure (v := ?_) ?_ ?_ ?_ ?_); rotate_left 1; (focus (intro _; rfl)); (focus (intro β L' w' hJ hat; (try dsimp only at hJ); (try dsimp only); simpa only [setL, Nat.reduceEqDiff, if_false] using hJ)); (focus (intro β L' w' hJ hat; (try dsimp only at hJ); skip; go_simp; (try with_reducible rfl); done)); (try simp only [Act.put, List.setIfInBounds_toArray, List.set_cons_zero, List.set_cons_succ, Nat.reduceAdd]))
      ((with_reducible refine FlowJ.pure (v := ?_) ?_ ?_ ?_ ?_); rotate_left 1; (focus (intro _; rfl)); (focus (intro β L' w' hJ hat; (try dsimp only at hJ); (try dsimp only); simpa only [setL, Nat.reduceEqDiff, if_false] using hJ)); (focus (intro β L' w' hJ hat; (try dsimp only at hJ); ((have n5 := hat.not (j := 5) (by kernel_rfl)); have hb := hJ.1 n5; have p5 := cell_later hb p4); go_simp; (try with_reducible rfl); done)); (try simp only [Act.put, List.setIfInBounds_toArray, List.set_cons_zero, List.set_cons_succ, Nat.reduceAdd]))
      ((with_reducible refine FlowJ.call (v := ?_) ?_ ?_ ?_); rotate_left 1; (focus (intro _; rfl)); (focus (intro β L' w' hJ hat K' hK; (try dsimp only at hJ); ((have n5 := hat.not (j := 5) (by kernel_rfl)); have hb := hJ.1 n5; go_simp; go_at_call 21; refine Calls.mono (HAF.out w') ?_; rintro e w7 ⟨rfl, hb7⟩; refine hK.out _ ?_; simp only [setL, Nat.reduceEqDiff, if_false, n5]; exact ⟨fun _ => hb.trans (hb7.mono hb.size), fun e => by cases e⟩))); (try simp only [Act.put, List.setIfInBounds_toArray, List.set_cons_zero, List.set_cons_succ, Nat.reduceAdd]))
      ((with_reducible refine FlowJ.call (v := ?_) ?_ ?_ ?_); rotate_left 1; (focus (intro _; rfl)); (focus (intro β L' w' hJ hat K' hK; (try dsimp only at hJ); (have un := hat.un; have hb := hJ.1 un; have hcl := HRE.out w' v6 l6 (HI6.out.later hb) HLN.out; go_simp; go_at_call 16; refine Calls.mono hcl ?_; rintro e w7 ⟨rfl, hp⟩; refine hK.out _ ⟨fun e => absurd e (by simp [setL]), fun _ => hp.from hb⟩))); (try simp only [Act.put, List.setIfInBounds_toArray, List.set_cons_zero, List.set_cons_succ, Nat.reduceAdd]))
      refine FlowJ.stop ?_
      dsimp only
      intro β9 w9 hJ
      have hP := hJ.2 trivial
      obtain ⟨v9, l9, e9, hI9, hb9, ho9⟩ := hP.p
      have hown : ∀ b, v'.ownBlock = some b → b < w.heap.size ∨ w2.heap.size + 1 < b := fun b hb => by
        rcases HB'.out b (.inr (.inr (.inr (.inr (.inr (.inr (.inr (.inl hb)))))))) with h | h
        · exact .inl (HI.out.lt h)
        · exact .inr h
      have hnum := HNUM.out
      have hnl := HNL.out
      have hpl := HPL.out
      have hs6 := HC6.out.size
      -- what may have changed since the round began
      have hcr : Chg (fun j => chS K v' j) W' w9 := by
        have h1 : Chg (chS K v') W' w6 := (HC5.out.mono fun j _ hj => hj.elim (fun h => .inr (.inl h)) fun h => .inl h).trans' HC6.out fun j _ hj => hj.elim (fun h => .inr (.inr (.inr h))) fun h => .inr (.inr (.inl h))
        refine h1.trans' hP.c fun j hj hc => ?_
        rcases hc with h | h | h | h
        · exact .inl h
        · exact .inr (.inl h)
        · exact .inr (.inr (.inl h))
        · rcases HNB.out j h with h2 | h2
          · exact .inr (.inr (.inr h2))
          · omega
      refine ⟨hcr.size, fun j hj => hcr.block j ?_ ?_, ?_⟩
      · rcases hj with (h | h) | h | h <;> omega
      · rintro (h | h | h | h)
        · rcases hj with (h' | h') | h' | h' <;> omega
        · rcases hj with (h' | h') | h' | h' <;> omega
        · rcases hj with (h' | h') | h' | h' <;> omega
        · have := hown j h
          rcases hj with (h' | h') | h' | h' <;> omega
      · show FoI K w v l w2.heap.size ((pre ++ [x]).foldl (folStep K.g k) (stL l)) w9
        rw [HSTEP.out, folStep, if_neg HIN.out]
        refine ⟨⟨v9, l9, ?_, hI9, fun b hb => ?_, fun b hb => ?_⟩, HC'.out.trans' hcr fun j hj hc => ?_⟩
        · rw [e9, HST6.out, HE1.out]
        · rcases hb9 b hb with h1 | h1
          · rcases HBL6.out b h1 with h2 | h2
            · exact HB'.out b h2
            · exact .inr (by omega)
          · exact .inr (by omega)
        · rcases ho9 b hb with h1 | h1
          · rcases HNB.out b h1 with h2 | h2
            · exact HOB'.out b h2
            · exact .inr (by have := HX.out.lt; omega)
          · exact .inr (by have := HX.out.lt; omega)
        · rcases hc with h | h | h | h
          · exact .inl h
          · exact .inr (.inl h)
          · exact .inr (.inr (.inl h))
          · rcases HOB'.out j h with h2 | h2
            · exact .inr (.inr (.inr h2))
            · omega
end Go.Proofs.Ytgccankekflchaa

