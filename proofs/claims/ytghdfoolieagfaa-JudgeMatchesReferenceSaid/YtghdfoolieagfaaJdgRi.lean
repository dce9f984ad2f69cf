


/- The reference: right. -/
import Derived.Test.YtghdfoolieagfaaJdgRg
namespace Go.Proofs.Ytghdfoolieagfaa
open Go.RowKit

theorem IntsS.chg {S C : Nat → Prop} {w w' : World} {a : Option Addr} {l : List Int} (h : IntsS S w a l) (hc : Chg C w w') (hs : ∀ b, S b → ¬ C b) : IntsS S w' a l := fun j hj => by
  obtain ⟨b, off, e, h1, h2⟩ := h j hj
  exact ⟨b, off, e, h1, hc.cell h2 (hs b h1)⟩
theorem BoolsS.chg {S C : Nat → Prop} {w w' : World} {a : Option Addr} {l : List Bool} (h : BoolsS S w a l) (hc : Chg C w w') (hs : ∀ b, S b → ¬ C b) : BoolsS S w' a l := fun j hj => by
  obtain ⟨b, off, e, h1, h2⟩ := h j hj
  exact ⟨b, off, e, h1, hc.cell h2 (hs b h1)⟩
def RetG (d0 : Nat) (r : Bool × List Bool) (w : World) (e : Ending) (w' : World) : Prop := e = .returned (.bool r.1) ∧ Chg (fun k => k = d0) w w' ∧ IsTy w' d0 4 ∧ BoxAt w' d0 (r.2.map Value.bool)
theorem ix_find {plan : List Pos} {s : St} : findX plan s = match ixP plan s with | some i => (i : Int) | none => -1 := rfl
/-- what a call of right needs -/
structure RiH (g : Gm) (plan : List Pos) (w0 : World) (k : Nat) (s : Pos) (ta fa : Option Addr) (D : List Bool) (d0 : Nat) (w : World) : Prop where
  lo : w0.heap.size ≤ d0
  bl : Below w0.heap.size w0 w
  sS : IntsS (fun b => b ≠ d0) w ta s.starts
  sF : BoolsS (fun b => b ≠ d0) w fa s.failed
  inv : Inv g s.st
  t : s.turn + k = g.deps.length
  len : D.length = plan.length
  ty : IsTy w d0 4
  bx : BoxAt w d0 (D.map Value.bool)
set_option maxRecDepth 100000 in
set_option maxHeartbeats 4000000 in
theorem right_step (g : Gm) (plan : List Pos) (pv : Nat → Value) (sa da pa : Option Addr) (sc dc pc : Nat) (w0 : World) (hG : GmAt w0 g sa da) (hF : GmFew g) (hv : VG g) (hP : PlanAt w0 pa plan pv) (hPF : PlanFew plan) (hpi : ∀ p ∈ plan, PosIn p) (k : Nat)
    (ih : ∀ (s : Pos) (ta fa : Option Addr) (tc fc : Nat) (b : Int) (D : List Bool) (d0 ec : Nat) (w : World), RiH g plan w0 k s ta fa D d0 w → Calls Try.prog 26 #[gmV g sa sc da dc, .slice pa plan.length pc, psV s ta tc fa fc, .int .i64 b, .slice (some ⟨d0, 0, none⟩) plan.length ec] w (RetG d0 (rgt g plan k s.st b D) w))
    (s : Pos) (ta fa : Option Addr) (tc fc : Nat) (b : Int) (D : List Bool) (d0 ec : Nat) (w : World) (h : RiH g plan w0 (k + 1) s ta fa D d0 w) :
    Calls Try.prog 26 #[gmV g sa sc da dc, .slice pa plan.length pc, psV s ta tc fa fc, .int .i64 b, .slice (some ⟨d0, 0, none⟩) plan.length ec] w (RetG d0 (rgt g plan (k + 1) s.st b D) w) := by
  have HG := Lib.hid hG
  have HF := Lib.hid hF
  have HV := Lib.hid hv
  have HP := Lib.hid hP
  have HPF := Lib.hid hPF
  have HPI := Lib.hid hpi
  have IH := Lib.hid ih
  have H := Lib.hid h
  obtain ⟨np, hnp⟩ : ∃ n, n = plan.length := ⟨_, rfl⟩
  obtain ⟨ns, hns⟩ : ∃ n, n = g.starts.length := ⟨_, rfl⟩
  obtain ⟨nd, hnd⟩ : ∃ n, n = g.deps.length := ⟨_, rfl⟩
  have HNP := Lib.hid hnp
  have HNS := Lib.hid hns
  have HND := Lib.hid hnd
  have hnp1 : np ≤ 1000 := by rw [hnp]; exact hPF.n
  have hnd1 : nd ≤ 12 := by rw [hnd]; exact hv.2.1
  have hd0 : d0 < w.heap.size := h.ty.lt
  have HFIND := Lib.hid (show ∀ wy, Below w.heap.size w wy → Calls Try.prog 13 #[.slice pa np pc, psV s ta tc fa fc] wy (RetB (.int .i64 (findX plan s.st)) wy) from fun wy hy => by
    have h1 := find_any plan pv pa pc s ta fa tc fc wy (hP.later (h.bl.trans (hy.mono h.bl.size))) ⟨h.sS.ints.later hy, h.sF.bools.later hy⟩ hPF
    rw [← hnp] at h1
    exact h1)
  obtain ⟨r, hr⟩ : ∃ r, r = rgt g plan (k + 1) s.st b D := ⟨_, rfl⟩
  have HR := Lib.hid hr
  unfold gmV
  rw [← hnp, ← hns, ← hnd, ← hr]
  clear hG hF hv hP hPF hpi ih h hnp hns hnd hr
  unfold psV
  obtain ⟨tu, htu⟩ : ∃ n, n = s.turn := ⟨_, rfl⟩
  obtain ⟨sl, hsl⟩ : ∃ n, n = s.starts.length := ⟨_, rfl⟩
  obtain ⟨fl, hfl⟩ : ∃ n, n = s.failed.length := ⟨_, rfl⟩
  obtain ⟨sb, hsb⟩ : ∃ n, n = s.budget := ⟨_, rfl⟩
  obtain ⟨sch, hsch⟩ : ∃ n, n = s.choice := ⟨_, rfl⟩
  obtain ⟨sbo, hsbo⟩ : ∃ n, n = s.bound := ⟨_, rfl⟩
  obtain ⟨gb, hgb⟩ : ∃ n, n = g.budget := ⟨_, rfl⟩
  unfold psV at HFIND
  rw [← htu, ← hsl, ← hfl, ← hsb, ← hsch, ← hsbo] at HFIND ⊢
  rw [← hgb]
  have HTU := Lib.hid htu
  have HGB := Lib.hid hgb
  clear htu hsl hfl hsb hsch hsbo hgb
  go_enter Try.func26, Try.ntmps26
  go_upto_region 1 with fail
  obtain ⟨wX, X, Y, hXY, hbX, hBX, hBY, hwX⟩ : ∃ wX X Y, (X = w.heap.size ∧ Y = w.heap.size + 1) ∧ Below w.heap.size w wX ∧ BoxAt wX X [.slice sa ns sc, .slice da nd dc, .int .i64 gb] ∧ BoxAt wX Y [.int .i64 tu, .slice ta sl tc, .slice fa fl fc, .int .i64 sb, .int .i64 sch, .int .i64 sbo] ∧ wX = (w.alloc (.cells #[.slice sa ns sc, .slice da nd dc, .int .i64 gb] 25)).alloc (.cells #[.int .i64 tu, .slice ta sl tc, .slice fa fl fc, .int .i64 sb, .int .i64 sch, .int .i64 sbo] 33) := ⟨_, _, _, ⟨rfl, rfl⟩, ((Below.refl _ _).alloc (Nat.le_refl _) _).alloc (by simp) _, (BoxAt.new w _ _).alloc _, by
    have h := BoxAt.new (w.alloc (.cells #[.slice sa ns sc, .slice da nd dc, .int .i64 gb] 25)) [.int .i64 tu, .slice ta sl tc, .slice fa fl fc, .int .i64 sb, .int .i64 sch, .int .i64 sbo] 33
    rw [World.size_alloc] at h
    exact h, rfl⟩
  rw [← hwX, ← hXY.2, ← hXY.1]
  have hsX : wX.heap.size = w.heap.size + 2 := by rw [hwX, World.size_alloc, World.size_alloc]
  have HSX := Lib.hid hsX
  have HXY := Lib.hid hXY
  have hXd : ¬ X = d0 := by have := hXY.1; omega
  have hXl : X < wX.heap.size := by have := hXY.1; omega
  have HBX := Lib.hid hBX
  have HBXW := Lib.hid hbX
  have y0 := (hBY 0 _ rfl).1
  have y1 := (hBY 1 _ rfl).1
  have y2 := (hBY 2 _ rfl).1
  have y3 := (hBY 3 _ rfl).1
  have y4 := (hBY 4 _ rfl).1
  have y5 := (hBY 5 _ rfl).1
  clear hwX hsX hXY hbX hBX hBY
  go_wp2_with fail
  refine Calls.mono (HFIND.out wX HBXW.out) ?_
  rintro e w1 ⟨rfl, hb1⟩
  have hbw := HBXW.out.trans (hb1.mono HBXW.out.size)
  have HBW := Lib.hid hbw
  have HB1 := Lib.hid hb1
  have HBX1 := Lib.hid (HBX.out.later hb1)
  have HTY1 := Lib.hid (H.out.ty.block (hbw.block d0 hd0))
  have HBD1 := Lib.hid (H.out.bx.later hbw)
  have hX1 : X < w1.heap.size := Nat.lt_of_lt_of_le hXl hb1.size
  have hz1 := hbw.size
  have HRW := Lib.hid (show ∀ (D' : List Bool) w', Chg (fun k => k = d0) w1 w' → IsTy w' d0 4 → BoxAt w' d0 (D'.map Value.bool) → Chg (fun k => k = d0) w w' ∧ IsTy w' d0 4 ∧ BoxAt w' d0 (D'.map Value.bool) from fun D' w' hc h1 h2 => ⟨(Chg.of_below hbw).trans hc, h1, h2⟩)
  clear y0 y1 y2 y3 y4 y5 hb1 hbw
  rw [ix_find]
  cases hix : ixP plan s.st with
  | none =>
    have HE := Lib.hid (show r = (false, D) from by rw [HR.out]; unfold rgt; rw [hix])
    clear hix
    go_wp2_with fail
    go_ret
    exact ⟨by rw [HE.out]; rfl, by rw [HE.out]; exact HRW.out D w1 (Chg.refl _ _) HTY1.out HBD1.out⟩
  | some i =>
    have hlt := ix_lt hix
    have hp0 : plan[i]? = some plan[i] := List.getElem?_eq_getElem hlt
    have hpin := HPI.out _ (List.getElem_mem hlt)
    obtain ⟨pb, po, psa, psc, pfa, pfc, rfl, _, hcel, hps⟩ := HP.out i hlt
    obtain ⟨p, hp⟩ : ∃ p, p = plan[i] := ⟨_, rfl⟩
    rw [← hp] at hp0 hpin hcel hps
    obtain ⟨hpos, hst⟩ := ix_pos hix hp0
    have HPS := Lib.hid hps
    have hpb : pb < w0.heap.size := World.block_lt_of_cell? _ _ hcel.c0
    have hpbd : ¬ pb = d0 := by have := H.out.lo; omega
    have HST := Lib.hid hst
    have HPIN := Lib.hid hpin
    have HRE := Lib.hid (show r = (if p.bound < 0 ∨ b < p.bound then (false, D) else if bg D i = true then (true, D) else if possB g p = false then (false, D.set i true) else if p.turn + 1 = g.deps.length then (decide (lostP p ≤ p.bound), D.set i true) else rgL (fun x D => rgt g plan k x (p.bound - lostP p) D) (madeL (afterS s.st p.choice)) (D.set i true)) from by
      rw [HR.out, rgt, hix]
      simp only [hp0])
    have hc1 := hcel.later (H.out.bl.trans (HBW.out.mono H.out.bl.size))
    obtain ⟨c0, c1, c2, c3, c4, c5⟩ := hc1
    have hiL : i < (D.map Value.bool).length := by rw [List.length_map, H.out.len]; exact hlt
    have hdc := (HBD1.out i _ (List.getElem?_eq_getElem hiL)).1
    have hdf := (HBD1.out i _ (List.getElem?_eq_getElem hiL)).2
    have hdv : (D.map Value.bool)[i] = .bool (bg D i) := by
      rw [List.getElem_map, bg_lt (by rw [List.length_map] at hiL; exact hiL)]
    rw [hdv] at hdc
    have HIL := Lib.hid hiL
    have n0 : (0 : Int) ≤ (i : Int) := by omega
    have n1 : (i : Int) < (np : Int) := by have := HNP.out; omega
    have e0 : decide ((i : Int) < 0) = false := by simp
    obtain ⟨tp, htp⟩ : ∃ n, n = p.turn := ⟨_, rfl⟩
    obtain ⟨pl, hpl⟩ : ∃ n, n = p.starts.length := ⟨_, rfl⟩
    obtain ⟨pf, hpf⟩ : ∃ n, n = p.failed.length := ⟨_, rfl⟩
    obtain ⟨pbu, hpbu⟩ : ∃ n, n = p.budget := ⟨_, rfl⟩
    obtain ⟨pch, hpch⟩ : ∃ n, n = p.choice := ⟨_, rfl⟩
    obtain ⟨pbo, hpbo⟩ : ∃ n, n = p.bound := ⟨_, rfl⟩
    rw [← htp] at c0 HRE
    rw [← hpl] at c1
    rw [← hpf] at c2
    rw [← hpbu] at c3
    rw [← hpch] at c4 HRE
    rw [← hpbo] at c5 HRE
    have HPF2 := Lib.hid (And.intro htp (And.intro hpl (And.intro hpf (And.intro hpbu (And.intro hpch hpbo)))))
    clear hix hp0 hpin hcel hps hp hpos hst hdv htp hpl hpf hpbu hpch hpbo hiL
    by_cases h1 : pbo < 0
    · have e1 : decide (pbo < 0) = true := decide_eq_true h1
      have HE := Lib.hid (show r = (false, D) from by rw [HRE.out, if_pos (.inl h1)])
      clear h1
      go_wp2_with fail
      go_ret
      exact ⟨by rw [HE.out]; rfl, by rw [HE.out]; exact HRW.out D w1 (Chg.refl _ _) HTY1.out HBD1.out⟩
    · have e1 : decide (pbo < 0) = false := decide_eq_false h1
      by_cases h2 : b < pbo
      · have e2 : decide (b < pbo) = true := decide_eq_true h2
        have HE := Lib.hid (show r = (false, D) from by rw [HRE.out, if_pos (.inr h2)])
        clear h1 h2
        go_wp2_with fail
        go_ret
        exact ⟨by rw [HE.out]; rfl, by rw [HE.out]; exact HRW.out D w1 (Chg.refl _ _) HTY1.out HBD1.out⟩
      · have e2 : decide (b < pbo) = false := decide_eq_false h2
        have hbo0 : 0 ≤ pbo := by omega
        have HRE2 := Lib.hid (HRE.out.trans (if_neg (by omega)))
        clear HRE h1 h2
        cases hbg : bg D i
        · have HRE3 := Lib.hid (HRE2.out.trans (if_neg (by rw [hbg]; decide)))
          rw [hbg] at hdc
          clear HRE2
          go_upto_region 7 with fail
          obtain ⟨w2, hch2, hbd2, hty2, hw2⟩ : ∃ w2, Chg (fun k => k = d0) w1 w2 ∧ BoxAt w2 d0 ((D.set i true).map Value.bool) ∧ IsTy w2 d0 4 ∧ w2 = w1.setCell ⟨d0, i, none⟩ (.bool true) := ⟨_, Chg.setCell (S := fun k => k = d0) (Chg.refl _ _) (p := ⟨d0, i, none⟩) (fun _ => rfl) _, by rw [List.map_set]; exact HBD1.out.put i _ HIL.out, HTY1.out.setCell _ _ _, rfl⟩
          rw [← hw2]
          have hz2 := hch2.size
          have f0 := hch2.cell c0 hpbd
          have f1 := hch2.cell c1 hpbd
          have f2 := hch2.cell c2 hpbd
          have f3 := hch2.cell c3 hpbd
          have f4 := hch2.cell c4 hpbd
          have f5 := hch2.cell c5 hpbd
          have hBX2 := HBX1.out.block (hch2.block X hX1 hXd)
          clear hw2 c0 c1 c2 c3 c4 c5 hdc hdf hbg
          go_upto_region 8 with fail
          obtain ⟨w3, T, hT, hb3, hBT, hw3⟩ : ∃ w3 T, T = w2.heap.size ∧ Below w2.heap.size w2 w3 ∧ BoxAt w3 T [.int .i64 tp, .slice psa pl psc, .slice pfa pf pfc, .int .i64 pbu, .int .i64 pch, .int .i64 pbo] ∧ w3 = w2.alloc (.cells #[.int .i64 tp, .slice psa pl psc, .slice pfa pf pfc, .int .i64 pbu, .int .i64 pch, .int .i64 pbo] 33) := ⟨_, _, rfl, (Below.refl _ _).alloc (Nat.le_refl _) _, BoxAt.new w2 _ _, rfl⟩
          rw [← hw3, ← hT]
          have hd2 : d0 < w2.heap.size := hty2.lt
          have HTY3 := Lib.hid (hty2.block (hb3.block d0 hd2))
          have HBD3 := Lib.hid (hbd2.later hb3)
          have hd3 : d0 < w3.heap.size := HTY3.out.lt
          have HFIN := Lib.hid (show ∀ (D' : List Bool) w', Chg (fun k => k = d0) w3 w' → IsTy w' d0 4 → BoxAt w' d0 (D'.map Value.bool) → Chg (fun k => k = d0) w w' ∧ IsTy w' d0 4 ∧ BoxAt w' d0 (D'.map Value.bool) from fun D' w' hc h1 h2 => HRW.out D' w' ((hch2.trans (Chg.of_below hb3)).trans hc) h1 h2)
          have HLOW := Lib.hid (show ∀ w', Chg (fun k => k = d0) w3 w' → Below w0.heap.size w0 w' from fun w' hc => (H.out.bl.trans (HBW.out.mono H.out.bl.size)).trans (((hch2.trans (Chg.of_below hb3)).trans hc).below (Nat.le_trans H.out.bl.size HBW.out.size) (fun k hk => by rw [hk]; exact H.out.lo)))
          have HBT := Lib.hid hBT
          have HBX3 := Lib.hid (hBX2.later hb3)
          have hTd : ¬ T = d0 := by omega
          have hTl : T < w3.heap.size := World.block_lt_of_cell? _ _ (hBT 0 _ rfl).1
          have hXl3 : X < w3.heap.size := World.block_lt_of_cell? _ _ ((hBX2.later hb3) 0 _ rfl).1
          have t0 := (hBT 0 _ rfl).1
          have t1 := (hBT 1 _ rfl).1
          have t2 := (hBT 2 _ rfl).1
          have t3 := (hBT 3 _ rfl).1
          have t4 := (hBT 4 _ rfl).1
          have t5 := (hBT 5 _ rfl).1
          have g0 := ((hBX2.later hb3) 0 _ rfl).1
          have g1 := ((hBX2.later hb3) 1 _ rfl).1
          have g2 := ((hBX2.later hb3) 2 _ rfl).1
          have HPO := Lib.hid (show ∀ wy, Below w3.heap.size w3 wy → Calls Try.prog 14 #[.agg #[.slice sa ns sc, .slice da nd dc, .int .i64 gb], .agg #[.int .i64 tp, .slice psa pl psc, .slice pfa pf pfc, .int .i64 pbu, .int .i64 pch, .int .i64 pbo]] wy (RetB (.bool (possB g p)) wy) from fun wy hy => by
            have hl := HLOW.out wy (Chg.of_below hy)
            have h1 := poss_any g p sa da psa pfa sc dc psc pfc wy (HG.out.later hl) (HPS.out.later hl) HF.out
            unfold gmV psV at h1
            rw [← HNS.out, ← HND.out, ← HGB.out, ← HPF2.out.1, ← HPF2.out.2.1, ← HPF2.out.2.2.1, ← HPF2.out.2.2.2.1, ← HPF2.out.2.2.2.2.1, ← HPF2.out.2.2.2.2.2] at h1
            exact h1)
          clear hw3 hT hb3 hBT hch2 hbd2 hty2 hBX2 f0 f1 f2 f3 f4 f5 hpb hpbd
          go_wp2_with fail
          refine Calls.mono (HPO.out w3 (Below.refl _ _)) ?_
          rintro e w4 ⟨rfl, hb4⟩
          have HB4 := Lib.hid hb4
          have s0 := cell_later hb4 t0
          have s1 := cell_later hb4 t1
          have s2 := cell_later hb4 t2
          have s3 := cell_later hb4 t3
          have s4 := cell_later hb4 t4
          have s5 := cell_later hb4 t5
          have k0 := cell_later hb4 g0
          have k1 := cell_later hb4 g1
          have k2 := cell_later hb4 g2
          have hz4 := hb4.size
          clear hb4 t0 t1 t2 t3 t4 t5 g0 g1 g2
          cases hpo : possB g p
          · have HE := Lib.hid (show r = (false, D.set i true) from HRE3.out.trans (if_pos hpo))
            clear hpo
            go_wp2_with fail
            go_ret
            exact ⟨by rw [HE.out]; rfl, by rw [HE.out]; exact HFIN.out _ _ (Chg.of_below HB4.out) (HTY3.out.block (HB4.out.block d0 hd3)) (HBD3.out.later HB4.out)⟩
          · have HRE4 := Lib.hid (HRE3.out.trans (if_neg (by rw [hpo]; decide)))
            have hposs := possB_iff.1 hpo
            have hinv := H.out.inv
            have htu : p.turn = s.turn := congrArg St.turn HST.out
            have hts : p.starts = s.starts := congrArg St.starts HST.out
            have htf : p.failed = s.failed := congrArg St.failed HST.out
            have hpt0 : 0 ≤ p.turn := by rw [htu]; exact hinv.t0
            have hptn : p.turn < nd := by rw [htu, HND.out]; exact hinv.tn
            have hwd : IntKind.i64.wrap ((nd : Int) - 1) = (nd : Int) - 1 := IntWalk.i64_in _ (by omega)
            have hls : p.starts.length = g.starts.length := by rw [hts]; exact hinv.ls
            have hns6 : g.starts.length ≤ 6 := HV.out.1
            have hchc : p.choice = -1 ∨ ∃ c : Nat, p.choice = c ∧ c < p.starts.length ∧ 0 < ig p.starts c ∧ ig p.starts c ≤ 1000 := by
              rcases hposs with h | ⟨_, _, h3, h4, _, _, _, h8⟩
              · exact .inl h
              · obtain ⟨c, hc⟩ := Int.eq_ofNat_of_zero_le h3
                rw [hc] at h4 h8
                have hcl : c < p.starts.length := by omega
                refine .inr ⟨c, hc, hcl, h8, ?_⟩
                have h9 := (hinv.st c (by rw [show s.st.starts = s.starts from rfl, ← hts]; exact hcl)).2
                rw [show s.st.starts = s.starts from rfl, ← hts] at h9
                have h10 := (HV.out.2.2.2.2.1 c (by omega)).2
                omega
            obtain ⟨q, hq⟩ : ∃ q, q = posA p := ⟨_, rfl⟩
            have HAF := Lib.hid (show ∀ wy, Below w3.heap.size w3 wy → Calls Try.prog 15 #[.agg #[.int .i64 tp, .slice psa pl psc, .slice pfa pf pfc, .int .i64 pbu, .int .i64 pch, .int .i64 pbo]] wy (PosN pfa pfc q wy) from fun wy hy => by
              have hl := HLOW.out wy (Chg.of_below hy)
              have h1 := after_any p psa pfa psc pfc wy (HPS.out.later hl) (by omega) hpt0 (by omega) hchc
              unfold psV at h1
              rw [← hq, ← HPF2.out.1, ← HPF2.out.2.1, ← HPF2.out.2.2.1, ← HPF2.out.2.2.2.1, ← HPF2.out.2.2.2.2.1, ← HPF2.out.2.2.2.2.2] at h1
              exact h1)
            have hqf : q.failed = p.failed := by rw [hq]; rfl
            have hqb : q.budget = p.budget := by rw [hq]; rfl
            have HMA := Lib.hid (show ∀ (qa : Option Addr) (qc : Nat) wy, Below w3.heap.size w3 wy → Ints wy qa q.starts → Calls Try.prog 25 #[psV q qa qc pfa pfc] wy (RetM q qa pfa wy) from fun qa qc wy hy hI => by
              have hl := HLOW.out wy (Chg.of_below hy)
              exact made_ref q qa pfa qc pfc wy ⟨hI, by rw [hqf]; exact (HPS.out.later hl).f⟩ (by rw [hqf, htf]; have := hinv.lf; rw [show s.st.failed = s.failed from rfl] at this; omega) (by rw [hqb, show p.budget = s.budget from congrArg St.budget HST.out]; have := hinv.b0; rw [show s.st.budget = s.budget from rfl] at this; have := HV.out.2.2.2.1; omega))
            have hptp := HPF2.out.1
            rw [← hptp] at hpt0 hptn
            have HQE := Lib.hid hq
            have HPOSS := Lib.hid hposs
            have HCAN := Lib.hid (show can g s.st p.choice from poss_can HST.out hposs)
            have HQST := Lib.hid (show q.st = afterS s.st p.choice from by rw [hq, posA_st, HST.out])
            have HPTU := Lib.hid htu
            have HQF := Lib.hid hqf
            have hin := HPIN.out.d
            rw [← HPF2.out.2.2.2.2.2] at hin
            have hw0 : IntKind.i64.wrap pbo = pbo := IntWalk.i64_in _ (by have := hin.2; omega)
            have hw1 : IntKind.i64.wrap (pbo - 1) = pbo - 1 := IntWalk.i64_in _ (by have := hin.2; omega)
            clear hin
            clear hpo hinv htu hts htf hls hchc hq hqf hqb hposs hptp
            by_cases hc1 : pch < 0
            · have hec : decide (pch < 0) = true := decide_eq_true hc1
              have HLO := Lib.hid (show lostP p = 1 from by
                unfold lostP
                rw [if_pos]
                have h1 := HPF2.out.2.2.2.2.1
                rcases HPOSS.out with h | ⟨_, _, h3, _⟩
                · exact h
                · omega)
              clear hc1
              (
              go_upto_region 13 with fail
              by_cases h4 : tp + 1 = nd
              · have e4 : (tp == (nd : Int) - 1) = true := by simp; omega
                have HE := Lib.hid (show r = (decide ((1 : Int) ≤ pbo), D.set i true) from by
                  rw [HRE4.out, if_pos (by rw [← HND.out]; exact h4), HLO.out])
                clear h4
                go_wp2_with fail
                go_ret
                exact ⟨by rw [HE.out]; first | (simp; done) | (simp; omega), by rw [HE.out]; exact HFIN.out _ _ (Chg.of_below HB4.out) (HTY3.out.block (HB4.out.block d0 hd3)) (HBD3.out.later HB4.out)⟩
              · have e4 : (tp == (nd : Int) - 1) = false := by simp; omega
                have HRE5 := Lib.hid (HRE4.out.trans (if_neg (by rw [← HND.out]; exact h4)))
                have HNL := Lib.hid h4
                clear h4
                go_wp2_with fail
                refine Calls.mono (HAF.out _ HB4.out) ?_
                rintro e w5 ⟨qa, qc, rfl, hq5, hb5⟩
                have HB5 := Lib.hid (HB4.out.trans (hb5.mono HB4.out.size))
                have HQ5 := Lib.hid hq5
                have hz5 := HB5.out.size
                have m5 := cell_later hb5 s5
                have l0 := cell_later hb5 k0
                have l1 := cell_later hb5 k1
                have l2 := cell_later hb5 k2
                clear hb5 hq5 s0 s1 s2 s3 s4 s5
                go_wp2_with fail
                refine Calls.mono (HMA.out qa qc w5 HB5.out (HQ5.out.ints)) ?_
                rintro e w6 ⟨aM, cM, l, rfl, hmap, hown, hmd, hb6⟩
                have hb36 := HB5.out.trans (hb6.mono HB5.out.size)
                have HB6 := Lib.hid hb36
                have HB56 := Lib.hid hb6
                have HMAP := Lib.hid hmap
                have HMD := Lib.hid hmd
                have HOWN := Lib.hid hown
                obtain ⟨ml, hml⟩ : ∃ n, n = l.length := ⟨_, rfl⟩
                have HML := Lib.hid hml
                have hml1 : ml ≤ 1000 := by
                  have h1 := congrArg List.length hmap
                  rw [List.length_map] at h1
                  have h2 : (hits q.st).length ≤ q.st.failed.length := hitU_len q.st q.st.failed.length
                  have h3 : q.st.failed.length = g.starts.length := by rw [HQST.out]; exact H.out.inv.lf
                  unfold madeL at h1
                  rw [List.length_cons, List.length_map] at h1
                  have := HV.out.1
                  omega
                have hml0 : 0 < l.length := by
                  have h1 := congrArg List.length hmap
                  rw [List.length_map] at h1
                  unfold madeL at h1
                  rw [List.length_cons] at h1
                  omega
                obtain ⟨_, _, e2, _, _, hatM, hwhM⟩ := (show EQ.Own w6 w5.heap.size (.slice aM l.length cM) l from hown).at
                simp only [Value.slice.injEq, true_and] at e2
                obtain ⟨rfl, rfl⟩ := e2
                obtain ⟨mb, rfl, hmb1, hmb2⟩ : ∃ mb, aM = some ⟨mb, 0, none⟩ ∧ w5.heap.size ≤ mb ∧ mb < w6.heap.size := by
                  rcases hwhM with ⟨_, _, h⟩ | h
                  · rw [h] at hml0; simp at hml0
                  · exact h
                have HMB := Lib.hid hatM
                have hmbd : ¬ mb = d0 := by omega
                have hz6 := hb36.size
                rw [← hml]
                have q5 := cell_later hb6 m5
                have i0 := cell_later hb6 l0
                have i1 := cell_later hb6 l1
                have i2 := cell_later hb6 l2
                have HTY6 := Lib.hid (HTY3.out.block (hb36.block d0 hd3))
                have HBD6 := Lib.hid (HBD3.out.later hb36)
                have HC6 := Lib.hid (show ∀ w', Chg (fun k => k = d0) w6 w' → Chg (fun k => k = d0) w3 w' from fun w' hc => (Chg.of_below hb36).trans hc)
                have HCALL := Lib.hid (show ∀ (j : Nat) (hj : j < l.length) (D' : List Bool) wy, Chg (fun k => k = d0) w6 wy → D'.length = plan.length → IsTy wy d0 4 → BoxAt wy d0 (D'.map Value.bool) → Calls Try.prog 26 #[.agg #[.slice sa ns sc, .slice da nd dc, .int .i64 gb], .slice (some ⟨pb, po, none⟩) np pc, .agg #[.int .i64 l[j].1.turn, .slice l[j].2.1 l[j].1.starts.length l[j].2.2.1, .slice l[j].2.2.2.1 l[j].1.failed.length l[j].2.2.2.2, .int .i64 l[j].1.budget, .int .i64 l[j].1.choice, .int .i64 l[j].1.bound], .int .i64 (pbo - 1), .slice (some ⟨d0, 0, none⟩) np ec] wy (RetG d0 (rgt g plan k l[j].1.st (p.bound - lostP p) D') wy) from fun j hj D' wy hc hD' hty hbx => by
                  have hm := HMD.out l[j] (List.getElem_mem hj)
                  have hxm : l[j].1.st ∈ madeL (afterS s.st p.choice) := by
                    rw [← HQST.out, ← HMAP.out]
                    exact List.mem_map.2 ⟨_, List.getElem_mem hj, rfl⟩
                  have hne : s.st.turn + 1 ≠ g.deps.length := by
                    have h1 := HNL.out
                    have h2 := HPTU.out
                    have h3 := HPF2.out.1
                    have h4 := HND.out
                    rw [show s.st.turn = s.turn from rfl]
                    omega
                  have hxt : l[j].1.st.turn = s.turn + 1 := by
                    rcases mem_made.1 hxm with h | ⟨v, _, _, _, h⟩ <;> rw [h] <;> rfl
                  have hst : l[j].1.starts = q.starts := hm.st
                  have hsS : IntsS (fun b => b ≠ d0) wy l[j].2.1 l[j].1.starts := by
                    rw [hm.a, hst]
                    have h1 := (HQ5.out.later hb6).chg hc (fun b hb => by omega)
                    exact h1.mono (fun b hb => by omega)
                  have hsF : BoolsS (fun b => b ≠ d0) wy l[j].2.2.2.1 l[j].1.failed := by
                    rcases hm.f with ⟨h1, h2⟩ | ⟨F, h1, h2, h3, h4⟩
                    · rw [h1, h2, HQF.out]
                      have h5 := (BoolsS.of HPS.out.f).later (HLOW.out wy (HC6.out wy hc))
                      exact h5.mono (fun b hb => by have := H.out.lo; omega)
                    · intro r hr'
                      have hFd : ¬ F = d0 := by omega
                      refine ⟨F, 0, h1, hFd, ?_⟩
                      rw [Nat.zero_add, bg_lt hr']
                      exact hc.cell (h4 r _ (by rw [List.getElem?_map, List.getElem?_eq_getElem hr']; rfl)).1 hFd
                  have h1 := IH.out l[j].1 l[j].2.1 l[j].2.2.2.1 l[j].2.2.1 l[j].2.2.2.2 (pbo - 1) D' d0 ec wy ⟨H.out.lo, HLOW.out wy (HC6.out wy hc), hsS, hsF, (H.out.inv.after HCAN.out hne).made hxm, by
                    have h3 := H.out.t
                    rw [show l[j].1.turn = l[j].1.st.turn from rfl, hxt]
                    push_cast at h3
                    omega, hD', hty, hbx⟩
                  unfold gmV psV at h1
                  rw [← HNP.out, ← HNS.out, ← HND.out, ← HGB.out] at h1
                  rw [show p.bound - lostP p = pbo - 1 from by rw [HLO.out, ← HPF2.out.2.2.2.2.2]; try omega]
                  exact h1)
                clear hmap hmd hown hb6 hb36 hml hml0 hatM hwhM m5 l0 l1 l2
                have hrd : r = rgL (fun x D => rgt g plan k x (p.bound - lostP p) D) (l.map (fun x : PA => x.1.st)) (D.set i true) := by
                  rw [HRE5.out, HMAP.out, HQST.out, HPF2.out.2.2.2.2.1, HPF2.out.2.2.2.2.2]
                have HRD := Lib.hid hrd
                clear hrd
                go_wp2_with fail
                go_loopg [15] (ml + 1) (fun n v15 wr => ∃ (j : Nat) (D' : List Bool), j ≤ ml ∧ n + j = ml + 1 ∧ v15 = .int .i64 j ∧ Chg (fun k => k = d0) w6 wr ∧ IsTy wr d0 4 ∧ BoxAt wr d0 (D'.map Value.bool) ∧ D'.length = plan.length ∧ r = rgL (fun x D => rgt g plan k x (p.bound - lostP p) D) ((l.map (fun x : PA => x.1.st)).drop j) D')
                case atStart => exact ⟨0, D.set i true, by omega, by omega, rfl, Chg.refl _ _, HTY6.out, HBD6.out, by rw [List.length_set]; exact H.out.len, HRD.out⟩
                case round =>
                  obtain ⟨j, D', hj, hnj, rfl, hch, hty, hbx, hlD, hrr⟩ := hrel
                  have HCH := Lib.hid hch
                  have HTYJ := Lib.hid hty
                  have HBXJ := Lib.hid hbx
                  have HLD := Lib.hid hlD
                  have HRR := Lib.hid hrr
                  have b0 := hch.cell i0 hXd
                  have b1 := hch.cell i1 hXd
                  have b2 := hch.cell i2 hXd
                  have b5 := hch.cell q5 hTd
                  have hzr := hch.size
                  have hdr : d0 < wr.heap.size := hty.lt
                  clear hty hbx hlD hrr
                  by_cases hlt2 : j < ml
                  · have hjL : j < l.length := by have := HML.out; omega
                    have hrng := HMB.out.range hjL
                    rw [show 0 + j * EQ.S = j * 6 from Nat.zero_add _] at hrng
                    have hdr2 : (l.map (fun x : PA => x.1.st)).drop j = l[j].1.st :: (l.map (fun x : PA => x.1.st)).drop (j + 1) := by
                      rw [List.drop_eq_getElem_cons (by rw [List.length_map]; exact hjL), List.getElem_map]
                    have hcl := HCALL.out j hjL D'
                    obtain ⟨x, hx⟩ : ∃ x, x = l[j] := ⟨_, rfl⟩
                    rw [← hx] at hrng hdr2 hcl
                    have x0 := hch.cell (hrng 0 _ rfl) hmbd
                    have x1 := hch.cell (hrng 1 _ rfl) hmbd
                    have x2 := hch.cell (hrng 2 _ rfl) hmbd
                    have x3 := hch.cell (hrng 3 _ rfl) hmbd
                    have x4 := hch.cell (hrng 4 _ rfl) hmbd
                    have x5 := hch.cell (hrng 5 _ rfl) hmbd
                    rw [Nat.add_zero] at x0
                    obtain ⟨r1, hr1⟩ : ∃ r1, r1 = rgt g plan k x.1.st (p.bound - lostP p) D' := ⟨_, rfl⟩
                    rw [← hr1] at hcl
                    have hrl : r1.2.length = plan.length := by rw [hr1, rgt_len]; exact HLD.out
                    have hr2 : r = if r1.1 = true then rgL (fun x D => rgt g plan k x (p.bound - lostP p) D) ((l.map (fun x : PA => x.1.st)).drop (j + 1)) r1.2 else (false, r1.2) := by
                      rw [HRR.out, hdr2, hr1]
                      rfl
                    obtain ⟨rb, rD⟩ := r1
                    simp only at hrl hr2
                    have HCL := Lib.hid (show ∀ wy, Below wr.heap.size wr wy → Calls Try.prog 26 #[.agg #[.slice sa ns sc, .slice da nd dc, .int .i64 gb], .slice (some ⟨pb, po, none⟩) np pc, .agg #[.int .i64 x.1.turn, .slice x.2.1 x.1.starts.length x.2.2.1, .slice x.2.2.2.1 x.1.failed.length x.2.2.2.2, .int .i64 x.1.budget, .int .i64 x.1.choice, .int .i64 x.1.bound], .int .i64 (pbo - 1), .slice (some ⟨d0, 0, none⟩) np ec] wy (RetG d0 (rb, rD) wy) from fun wy hy => hcl wy (HCH.out.trans (Chg.of_below hy)) HLD.out (HTYJ.out.block (hy.block d0 hdr)) (HBXJ.out.later hy))
                    have HS19 := Lib.hid (show ∀ wy, Below wr.heap.size wr wy → (wy.cell? ⟨X, 0, none⟩ = some (.slice sa ns sc) ∧ wy.cell? ⟨X, 1, none⟩ = some (.slice da nd dc) ∧ wy.cell? ⟨X, 2, none⟩ = some (.int .i64 gb)) ∧ (wy.cell? ⟨mb, j * 6, none⟩ = some (.int .i64 x.1.turn) ∧ wy.cell? ⟨mb, j * 6 + 1, none⟩ = some (.slice x.2.1 x.1.starts.length x.2.2.1) ∧ wy.cell? ⟨mb, j * 6 + 2, none⟩ = some (.slice x.2.2.2.1 x.1.failed.length x.2.2.2.2) ∧ wy.cell? ⟨mb, j * 6 + 3, none⟩ = some (.int .i64 x.1.budget) ∧ wy.cell? ⟨mb, j * 6 + 4, none⟩ = some (.int .i64 x.1.choice) ∧ wy.cell? ⟨mb, j * 6 + 5, none⟩ = some (.int .i64 x.1.bound)) ∧ wy.cell? ⟨T, 5, none⟩ = some (.int .i64 pbo) from fun wy hy => ⟨⟨cell_later hy b0, cell_later hy b1, cell_later hy b2⟩, ⟨cell_later hy x0, cell_later hy x1, cell_later hy x2, cell_later hy x3, cell_later hy x4, cell_later hy x5⟩, cell_later hy b5⟩)
                    have HRL := Lib.hid hrl
                    have HR2 := Lib.hid hr2
                    have p1 : (j : Int) < (ml : Int) := by omega
                    have p0 : (0 : Int) ≤ (j : Int) := by omega
                    clear hch hrng hdr2 hcl hx x0 x1 x2 x3 x4 x5 hr1 hrl hr2
                    go_wp2_with fail
                    refine wp_flow_j (fun β L' w' => (L' 11 = false → Below wr.heap.size wr w') ∧ (L' 11 = true → Chg (fun k => k = d0) wr w' ∧ IsTy w' d0 4 ∧ BoxAt w' d0 (rD.map Value.bool))) (by kernel_rfl) (by kernel_rfl) ?h19 ?_
                    case h19 => exact ⟨fun _ => (Below.refl _ _).drew, fun e => (by cases e)⟩
                    iterate 11 (((with_reducible refine FlowJ.pure (v := ?_) ?_ ?_ ?_ ?_); rotate_left 1; (focus (intro _; rfl)); (focus (intro β L' w' hJ hat; (try dsimp only at hJ); (try dsimp only); simpa only [setL, Nat.reduceEqDiff, if_false] using hJ)); (focus (intro β L' w' hJ hat; (try dsimp only at hJ); ((have n11 := hat.not (j := 11) (by kernel_rfl)); obtain ⟨⟨f0, f1, f2⟩, ⟨v0, v1, v2, v3, v4, v5⟩, f5⟩ := HS19.out _ (hJ.1 n11)); go_simp; (try with_reducible rfl); done)); (try simp only [Act.put, List.setIfInBounds_toArray, List.set_cons_zero, List.set_cons_succ, Nat.reduceAdd])))
                    ((with_reducible refine FlowJ.call (v := ?_) ?_ ?_ ?_); rotate_left 1; (focus (intro _; rfl)); (focus (intro β L' w' hJ hat K' hK; (try dsimp only at hJ); ((have n11 := hat.not (j := 11) (by kernel_rfl)); go_simp; go_at_call 26; refine Calls.mono (HCL.out w' (hJ.1 n11)) ?_; rintro e w'' ⟨rfl, hc, ht, hb⟩; refine hK.out _ ?_; simp only [setL, if_true]; exact ⟨fun e => (by cases e), fun _ => ⟨(Chg.of_below (hJ.1 n11)).trans hc, ht, hb⟩⟩))); (try simp only [Act.put, List.setIfInBounds_toArray, List.set_cons_zero, List.set_cons_succ, Nat.reduceAdd]))
                    ((with_reducible refine FlowJ.pure (v := ?_) ?_ ?_ ?_ ?_); rotate_left 1; (focus (intro _; rfl)); (focus (intro β L' w' hJ hat; (try dsimp only at hJ); (try dsimp only); simpa only [setL, Nat.reduceEqDiff, if_false] using hJ)); (focus (intro β L' w' hJ hat; (try dsimp only at hJ); skip; go_simp; (try with_reducible rfl); done)); (try simp only [Act.put, List.setIfInBounds_toArray, List.set_cons_zero, List.set_cons_succ, Nat.reduceAdd]))
                    refine FlowJ.stop ?_
                    dsimp only
                    intro β2 w9 hJ
                    obtain ⟨hc9, ht9, hb9⟩ := hJ.2 trivial
                    have HC9 := Lib.hid (HCH.out.trans hc9)
                    have HT9 := Lib.hid ht9
                    have HB9 := Lib.hid hb9
                    clear hJ hc9 ht9 hb9 b0 b1 b2 b5
                    cases rb
                    · have HE := Lib.hid (show r = (false, rD) from HR2.out)
                      go_wp2_with fail
                      go_ret
                      exact ⟨by rw [HE.out]; rfl, by rw [HE.out]; exact HFIN.out rD w9 (HC6.out w9 HC9.out) HT9.out HB9.out⟩
                    · go_wp2_with fail
                      go_roundg (ml - j)
                      case measure => omega
                      case rel => exact ⟨j + 1, rD, by omega, by omega, by go_num, HC9.out, HT9.out, HB9.out, HRL.out, HR2.out⟩
                  · obtain rfl : j = ml := by omega
                    have HE := Lib.hid (show r = (true, D') from by
                      rw [HRR.out, List.drop_of_length_le (by rw [List.length_map, ← HML.out]; exact Nat.le_refl _)]
                      rfl)
                    clear hch
                    go_wp2_with fail
                    go_ret
                    exact ⟨by rw [HE.out]; rfl, by rw [HE.out]; exact HFIN.out D' wr (HC6.out wr HCH.out) HTYJ.out HBXJ.out⟩)
            · have hec : decide (pch < 0) = false := decide_eq_false hc1
              have HLO := Lib.hid (show lostP p = 0 from by
                unfold lostP
                rw [if_neg]
                have h1 := HPF2.out.2.2.2.2.1
                omega)
              clear hc1
              (
              go_upto_region 13 with fail
              by_cases h4 : tp + 1 = nd
              · have e4 : (tp == (nd : Int) - 1) = true := by simp; omega
                have HE := Lib.hid (show r = (decide ((0 : Int) ≤ pbo), D.set i true) from by
                  rw [HRE4.out, if_pos (by rw [← HND.out]; exact h4), HLO.out])
                clear h4
                go_wp2_with fail
                go_ret
                exact ⟨by rw [HE.out]; first | (simp; done) | (simp; omega), by rw [HE.out]; exact HFIN.out _ _ (Chg.of_below HB4.out) (HTY3.out.block (HB4.out.block d0 hd3)) (HBD3.out.later HB4.out)⟩
              · have e4 : (tp == (nd : Int) - 1) = false := by simp; omega
                have HRE5 := Lib.hid (HRE4.out.trans (if_neg (by rw [← HND.out]; exact h4)))
                have HNL := Lib.hid h4
                clear h4
                go_wp2_with fail
                refine Calls.mono (HAF.out _ HB4.out) ?_
                rintro e w5 ⟨qa, qc, rfl, hq5, hb5⟩
                have HB5 := Lib.hid (HB4.out.trans (hb5.mono HB4.out.size))
                have HQ5 := Lib.hid hq5
                have hz5 := HB5.out.size
                have m5 := cell_later hb5 s5
                have l0 := cell_later hb5 k0
                have l1 := cell_later hb5 k1
                have l2 := cell_later hb5 k2
                clear hb5 hq5 s0 s1 s2 s3 s4 s5
                go_wp2_with fail
                refine Calls.mono (HMA.out qa qc w5 HB5.out (HQ5.out.ints)) ?_
                rintro e w6 ⟨aM, cM, l, rfl, hmap, hown, hmd, hb6⟩
                have hb36 := HB5.out.trans (hb6.mono HB5.out.size)
                have HB6 := Lib.hid hb36
                have HB56 := Lib.hid hb6
                have HMAP := Lib.hid hmap
                have HMD := Lib.hid hmd
                have HOWN := Lib.hid hown
                obtain ⟨ml, hml⟩ : ∃ n, n = l.length := ⟨_, rfl⟩
                have HML := Lib.hid hml
                have hml1 : ml ≤ 1000 := by
                  have h1 := congrArg List.length hmap
                  rw [List.length_map] at h1
                  have h2 : (hits q.st).length ≤ q.st.failed.length := hitU_len q.st q.st.failed.length
                  have h3 : q.st.failed.length = g.starts.length := by rw [HQST.out]; exact H.out.inv.lf
                  unfold madeL at h1
                  rw [List.length_cons, List.length_map] at h1
                  have := HV.out.1
                  omega
                have hml0 : 0 < l.length := by
                  have h1 := congrArg List.length hmap
                  rw [List.length_map] at h1
                  unfold madeL at h1
                  rw [List.length_cons] at h1
                  omega
                obtain ⟨_, _, e2, _, _, hatM, hwhM⟩ := (show EQ.Own w6 w5.heap.size (.slice aM l.length cM) l from hown).at
                simp only [Value.slice.injEq, true_and] at e2
                obtain ⟨rfl, rfl⟩ := e2
                obtain ⟨mb, rfl, hmb1, hmb2⟩ : ∃ mb, aM = some ⟨mb, 0, none⟩ ∧ w5.heap.size ≤ mb ∧ mb < w6.heap.size := by
                  rcases hwhM with ⟨_, _, h⟩ | h
                  · rw [h] at hml0; simp at hml0
                  · exact h
                have HMB := Lib.hid hatM
                have hmbd : ¬ mb = d0 := by omega
                have hz6 := hb36.size
                rw [← hml]
                have q5 := cell_later hb6 m5
                have i0 := cell_later hb6 l0
                have i1 := cell_later hb6 l1
                have i2 := cell_later hb6 l2
                have HTY6 := Lib.hid (HTY3.out.block (hb36.block d0 hd3))
                have HBD6 := Lib.hid (HBD3.out.later hb36)
                have HC6 := Lib.hid (show ∀ w', Chg (fun k => k = d0) w6 w' → Chg (fun k => k = d0) w3 w' from fun w' hc => (Chg.of_below hb36).trans hc)
                have HCALL := Lib.hid (show ∀ (j : Nat) (hj : j < l.length) (D' : List Bool) wy, Chg (fun k => k = d0) w6 wy → D'.length = plan.length → IsTy wy d0 4 → BoxAt wy d0 (D'.map Value.bool) → Calls Try.prog 26 #[.agg #[.slice sa ns sc, .slice da nd dc, .int .i64 gb], .slice (some ⟨pb, po, none⟩) np pc, .agg #[.int .i64 l[j].1.turn, .slice l[j].2.1 l[j].1.starts.length l[j].2.2.1, .slice l[j].2.2.2.1 l[j].1.failed.length l[j].2.2.2.2, .int .i64 l[j].1.budget, .int .i64 l[j].1.choice, .int .i64 l[j].1.bound], .int .i64 (pbo), .slice (some ⟨d0, 0, none⟩) np ec] wy (RetG d0 (rgt g plan k l[j].1.st (p.bound - lostP p) D') wy) from fun j hj D' wy hc hD' hty hbx => by
                  have hm := HMD.out l[j] (List.getElem_mem hj)
                  have hxm : l[j].1.st ∈ madeL (afterS s.st p.choice) := by
                    rw [← HQST.out, ← HMAP.out]
                    exact List.mem_map.2 ⟨_, List.getElem_mem hj, rfl⟩
                  have hne : s.st.turn + 1 ≠ g.deps.length := by
                    have h1 := HNL.out
                    have h2 := HPTU.out
                    have h3 := HPF2.out.1
                    have h4 := HND.out
                    rw [show s.st.turn = s.turn from rfl]
                    omega
                  have hxt : l[j].1.st.turn = s.turn + 1 := by
                    rcases mem_made.1 hxm with h | ⟨v, _, _, _, h⟩ <;> rw [h] <;> rfl
                  have hst : l[j].1.starts = q.starts := hm.st
                  have hsS : IntsS (fun b => b ≠ d0) wy l[j].2.1 l[j].1.starts := by
                    rw [hm.a, hst]
                    have h1 := (HQ5.out.later hb6).chg hc (fun b hb => by omega)
                    exact h1.mono (fun b hb => by omega)
                  have hsF : BoolsS (fun b => b ≠ d0) wy l[j].2.2.2.1 l[j].1.failed := by
                    rcases hm.f with ⟨h1, h2⟩ | ⟨F, h1, h2, h3, h4⟩
                    · rw [h1, h2, HQF.out]
                      have h5 := (BoolsS.of HPS.out.f).later (HLOW.out wy (HC6.out wy hc))
                      exact h5.mono (fun b hb => by have := H.out.lo; omega)
                    · intro r hr'
                      have hFd : ¬ F = d0 := by omega
                      refine ⟨F, 0, h1, hFd, ?_⟩
                      rw [Nat.zero_add, bg_lt hr']
                      exact hc.cell (h4 r _ (by rw [List.getElem?_map, List.getElem?_eq_getElem hr']; rfl)).1 hFd
                  have h1 := IH.out l[j].1 l[j].2.1 l[j].2.2.2.1 l[j].2.2.1 l[j].2.2.2.2 (pbo) D' d0 ec wy ⟨H.out.lo, HLOW.out wy (HC6.out wy hc), hsS, hsF, (H.out.inv.after HCAN.out hne).made hxm, by
                    have h3 := H.out.t
                    rw [show l[j].1.turn = l[j].1.st.turn from rfl, hxt]
                    push_cast at h3
                    omega, hD', hty, hbx⟩
                  unfold gmV psV at h1
                  rw [← HNP.out, ← HNS.out, ← HND.out, ← HGB.out] at h1
                  rw [show p.bound - lostP p = pbo from by rw [HLO.out, ← HPF2.out.2.2.2.2.2]; try omega]
                  exact h1)
                clear hmap hmd hown hb6 hb36 hml hml0 hatM hwhM m5 l0 l1 l2
                have hrd : r = rgL (fun x D => rgt g plan k x (p.bound - lostP p) D) (l.map (fun x : PA => x.1.st)) (D.set i true) := by
                  rw [HRE5.out, HMAP.out, HQST.out, HPF2.out.2.2.2.2.1, HPF2.out.2.2.2.2.2]
                have HRD := Lib.hid hrd
                clear hrd
                go_wp2_with fail
                go_loopg [15] (ml + 1) (fun n v15 wr => ∃ (j : Nat) (D' : List Bool), j ≤ ml ∧ n + j = ml + 1 ∧ v15 = .int .i64 j ∧ Chg (fun k => k = d0) w6 wr ∧ IsTy wr d0 4 ∧ BoxAt wr d0 (D'.map Value.bool) ∧ D'.length = plan.length ∧ r = rgL (fun x D => rgt g plan k x (p.bound - lostP p) D) ((l.map (fun x : PA => x.1.st)).drop j) D')
                case atStart => exact ⟨0, D.set i true, by omega, by omega, rfl, Chg.refl _ _, HTY6.out, HBD6.out, by rw [List.length_set]; exact H.out.len, HRD.out⟩
                case round =>
                  obtain ⟨j, D', hj, hnj, rfl, hch, hty, hbx, hlD, hrr⟩ := hrel
                  have HCH := Lib.hid hch
                  have HTYJ := Lib.hid hty
                  have HBXJ := Lib.hid hbx
                  have HLD := Lib.hid hlD
                  have HRR := Lib.hid hrr
                  have b0 := hch.cell i0 hXd
                  have b1 := hch.cell i1 hXd
                  have b2 := hch.cell i2 hXd
                  have b5 := hch.cell q5 hTd
                  have hzr := hch.size
                  have hdr : d0 < wr.heap.size := hty.lt
                  clear hty hbx hlD hrr
                  by_cases hlt2 : j < ml
                  · have hjL : j < l.length := by have := HML.out; omega
                    have hrng := HMB.out.range hjL
                    rw [show 0 + j * EQ.S = j * 6 from Nat.zero_add _] at hrng
                    have hdr2 : (l.map (fun x : PA => x.1.st)).drop j = l[j].1.st :: (l.map (fun x : PA => x.1.st)).drop (j + 1) := by
                      rw [List.drop_eq_getElem_cons (by rw [List.length_map]; exact hjL), List.getElem_map]
                    have hcl := HCALL.out j hjL D'
                    obtain ⟨x, hx⟩ : ∃ x, x = l[j] := ⟨_, rfl⟩
                    rw [← hx] at hrng hdr2 hcl
                    have x0 := hch.cell (hrng 0 _ rfl) hmbd
                    have x1 := hch.cell (hrng 1 _ rfl) hmbd
                    have x2 := hch.cell (hrng 2 _ rfl) hmbd
                    have x3 := hch.cell (hrng 3 _ rfl) hmbd
                    have x4 := hch.cell (hrng 4 _ rfl) hmbd
                    have x5 := hch.cell (hrng 5 _ rfl) hmbd
                    rw [Nat.add_zero] at x0
                    obtain ⟨r1, hr1⟩ : ∃ r1, r1 = rgt g plan k x.1.st (p.bound - lostP p) D' := ⟨_, rfl⟩
                    rw [← hr1] at hcl
                    have hrl : r1.2.length = plan.length := by rw [hr1, rgt_len]; exact HLD.out
                    have hr2 : r = if r1.1 = true then rgL (fun x D => rgt g plan k x (p.bound - lostP p) D) ((l.map (fun x : PA => x.1.st)).drop (j + 1)) r1.2 else (false, r1.2) := by
                      rw [HRR.out, hdr2, hr1]
                      rfl
                    obtain ⟨rb, rD⟩ := r1
                    simp only at hrl hr2
                    have HCL := Lib.hid (show ∀ wy, Below wr.heap.size wr wy → Calls Try.prog 26 #[.agg #[.slice sa ns sc, .slice da nd dc, .int .i64 gb], .slice (some ⟨pb, po, none⟩) np pc, .agg #[.int .i64 x.1.turn, .slice x.2.1 x.1.starts.length x.2.2.1, .slice x.2.2.2.1 x.1.failed.length x.2.2.2.2, .int .i64 x.1.budget, .int .i64 x.1.choice, .int .i64 x.1.bound], .int .i64 (pbo), .slice (some ⟨d0, 0, none⟩) np ec] wy (RetG d0 (rb, rD) wy) from fun wy hy => hcl wy (HCH.out.trans (Chg.of_below hy)) HLD.out (HTYJ.out.block (hy.block d0 hdr)) (HBXJ.out.later hy))
                    have HS19 := Lib.hid (show ∀ wy, Below wr.heap.size wr wy → (wy.cell? ⟨X, 0, none⟩ = some (.slice sa ns sc) ∧ wy.cell? ⟨X, 1, none⟩ = some (.slice da nd dc) ∧ wy.cell? ⟨X, 2, none⟩ = some (.int .i64 gb)) ∧ (wy.cell? ⟨mb, j * 6, none⟩ = some (.int .i64 x.1.turn) ∧ wy.cell? ⟨mb, j * 6 + 1, none⟩ = some (.slice x.2.1 x.1.starts.length x.2.2.1) ∧ wy.cell? ⟨mb, j * 6 + 2, none⟩ = some (.slice x.2.2.2.1 x.1.failed.length x.2.2.2.2) ∧ wy.cell? ⟨mb, j * 6 + 3, none⟩ = some (.int .i64 x.1.budget) ∧ wy.cell? ⟨mb, j * 6 + 4, none⟩ = some (.int .i64 x.1.choice) ∧ wy.cell? ⟨mb, j * 6 + 5, none⟩ = some (.int .i64 x.1.bound)) ∧ wy.cell? ⟨T, 5, none⟩ = some (.int .i64 pbo) from fun wy hy => ⟨⟨cell_later hy b0, cell_later hy b1, cell_later hy b2⟩, ⟨cell_later hy x0, cell_later hy x1, cell_later hy x2, cell_later hy x3, cell_later hy x4, cell_later hy x5⟩, cell_later hy b5⟩)
                    have HRL := Lib.hid hrl
                    have HR2 := Lib.hid hr2
                    have p1 : (j : Int) < (ml : Int) := by omega
                    have p0 : (0 : Int) ≤ (j : Int) := by omega
                    clear hch hrng hdr2 hcl hx x0 x1 x2 x3 x4 x5 hr1 hrl hr2
                    go_wp2_with fail
                    refine wp_flow_j (fun β L' w' => (L' 11 = false → Below wr.heap.size wr w') ∧ (L' 11 = true → Chg (fun k => k = d0) wr w' ∧ IsTy w' d0 4 ∧ BoxAt w' d0 (rD.map Value.bool))) (by kernel_rfl) (by kernel_rfl) ?h19 ?_
                    case h19 => exact ⟨fun _ => (Below.refl _ _).drew, fun e => (by cases e)⟩
                    iterate 11 (((with_reducible refine FlowJ.pure (v := ?_) ?_ ?_ ?_ ?_); rotate_left 1; (focus (intro _; rfl)); (focus (intro β L' w' hJ hat; (try dsimp only at hJ); (try dsimp only); simpa only [setL, Nat.reduceEqDiff, if_false] using hJ)); (focus (intro β L' w' hJ hat; (try dsimp only at hJ); ((have n11 := hat.not (j := 11) (by kernel_rfl)); obtain ⟨⟨f0, f1, f2⟩, ⟨v0, v1, v2, v3, v4, v5⟩, f5⟩ := HS19.out _ (hJ.1 n11)); go_simp; (try with_reducible rfl); done)); (try simp only [Act.put, List.setIfInBounds_toArray, List.set_cons_zero, List.set_cons_succ, Nat.reduceAdd])))
                    ((with_reducible refine FlowJ.call (v := ?_) ?_ ?_ ?_); rotate_left 1; (focus (intro _; rfl)); (focus (intro β L' w' hJ hat K' hK; (try dsimp only at hJ); ((have n11 := hat.not (j := 11) (by kernel_rfl)); go_simp; go_at_call 26; refine Calls.mono (HCL.out w' (hJ.1 n11)) ?_; rintro e w'' ⟨rfl, hc, ht, hb⟩; refine hK.out _ ?_; simp only [setL, if_true]; exact ⟨fun e => (by cases e), fun _ => ⟨(Chg.of_below (hJ.1 n11)).trans hc, ht, hb⟩⟩))); (try simp only [Act.put, List.setIfInBounds_toArray, List.set_cons_zero, List.set_cons_succ, Nat.reduceAdd]))
                    ((with_reducible refine FlowJ.pure (v := ?_) ?_ ?_ ?_ ?_); rotate_left 1; (focus (intro _; rfl)); (focus (intro β L' w' hJ hat; (try dsimp only at hJ); (try dsimp only); simpa only [setL, Nat.reduceEqDiff, if_false] using hJ)); (focus (intro β L' w' hJ hat; (try dsimp only at hJ); skip; go_simp; (try with_reducible rfl); done)); (try simp only [Act.put, List.setIfInBounds_toArray, List.set_cons_zero, List.set_cons_succ, Nat.reduceAdd]))
                    refine FlowJ.stop ?_
                    dsimp only
                    intro β2 w9 hJ
                    obtain ⟨hc9, ht9, hb9⟩ := hJ.2 trivial
                    have HC9 := Lib.hid (HCH.out.trans hc9)
                    have HT9 := Lib.hid ht9
                    have HB9 := Lib.hid hb9
                    clear hJ hc9 ht9 hb9 b0 b1 b2 b5
                    cases rb
                    · have HE := Lib.hid (show r = (false, rD) from HR2.out)
                      go_wp2_with fail
                      go_ret
                      exact ⟨by rw [HE.out]; rfl, by rw [HE.out]; exact HFIN.out rD w9 (HC6.out w9 HC9.out) HT9.out HB9.out⟩
                    · go_wp2_with fail
                      go_roundg (ml - j)
                      case measure => omega
                      case rel => exact ⟨j + 1, rD, by omega, by omega, by go_num, HC9.out, HT9.out, HB9.out, HRL.out, HR2.out⟩
                  · obtain rfl : j = ml := by omega
                    have HE := Lib.hid (show r = (true, D') from by
                      rw [HRR.out, List.drop_of_length_le (by rw [List.length_map, ← HML.out]; exact Nat.le_refl _)]
                      rfl)
                    clear hch
                    go_wp2_with fail
                    go_ret
                    exact ⟨by rw [HE.out]; rfl, by rw [HE.out]; exact HFIN.out D' wr (HC6.out wr HCH.out) HTYJ.out HBXJ.out⟩)
        · have HE := Lib.hid (show r = (true, D) from HRE2.out.trans (if_pos hbg))
          rw [hbg] at hdc
          clear HRE2 hbg
          go_wp2_with fail
          go_ret
          exact ⟨by rw [HE.out]; rfl, by rw [HE.out]; exact HRW.out D w1 (Chg.refl _ _) HTY1.out HBD1.out⟩
theorem right_any (g : Gm) (plan : List Pos) (pv : Nat → Value) (sa da pa : Option Addr) (sc dc pc : Nat) (w0 : World) (hG : GmAt w0 g sa da) (hF : GmFew g) (hv : VG g) (hP : PlanAt w0 pa plan pv) (hPF : PlanFew plan) (hpi : ∀ p ∈ plan, PosIn p) :
    ∀ (k : Nat) (s : Pos) (ta fa : Option Addr) (tc fc : Nat) (b : Int) (D : List Bool) (d0 ec : Nat) (w : World), RiH g plan w0 k s ta fa D d0 w → Calls Try.prog 26 #[gmV g sa sc da dc, .slice pa plan.length pc, psV s ta tc fa fc, .int .i64 b, .slice (some ⟨d0, 0, none⟩) plan.length ec] w (RetG d0 (rgt g plan k s.st b D) w)
  | 0, s, ta, fa, tc, fc, b, D, d0, ec, w, h => by
    have h1 := h.inv.tn
    have h2 := h.t
    rw [show s.st.turn = s.turn from rfl] at h1
    exfalso
    push_cast at h2
    omega
  | k + 1, s, ta, fa, tc, fc, b, D, d0, ec, w, h => right_step g plan pv sa da pa sc dc pc w0 hG hF hv hP hPF hpi k (right_any g plan pv sa da pa sc dc pc w0 hG hF hv hP hPF hpi k) s ta fa tc fc b D d0 ec w h
end Go.Proofs.Ytghdfoolieagfaa
