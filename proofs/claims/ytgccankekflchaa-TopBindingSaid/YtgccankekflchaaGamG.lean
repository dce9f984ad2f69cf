


/- Package game: consider. -/
import Derived.Test.YtgccankekflchaaGamF
namespace Go.Proofs.Ytgccankekflchaa
open Go.RowKit Go.Maps Go.Shelf

theorem stV_box {w : World} {B : Nat} {x : St} (h : BoxAt w B (stC x)) : w.rangeAt B 0 (stC x) := box_range h
set_option maxRecDepth 100000 in
set_option maxHeartbeats 4000000 in
theorem consider_ok (g : Gm) (sa da : Option Addr) (sc dc M O Bs Bb : Nat) (x : St) (o : Int × Int) (v : Int) (hx : Dom g x) (hv : VG g) (hc : 0 ≤ v ∧ v < g.starts.length) (hg : bg x.failed v.toNat = false ∧ 0 < ig x.starts v.toNat) (hw : WorstC g sa sc da dc M (afterS x v))
    (hO : O ≠ M ∧ O ≠ Bs ∧ O ≠ Bb) (w : World) (hM : Memo g w M) (hG : GmAt w g sa da) (hb : BoxAt w Bb (bdC g sa sc da dc M)) (hs : BoxAt w Bs (stC x)) (ho : BoxAt w O (cbC o)) :
    Calls Try.prog 46 #[.int .i64 v, .pointer (some ⟨Bb, 0, none⟩), .pointer (some ⟨Bs, 0, none⟩), .pointer (some ⟨O, 0, none⟩)] w fun e w' => e = .returned (.tuple #[]) ∧ Chg (fun k => k = M ∨ k = O) w w' ∧ Memo g w' M ∧ BoxAt w' O (cbC (considerF (WG g) x o v)) := by
  obtain ⟨nw, hnw⟩ : ∃ n, n = WG g (afterS x v) := ⟨_, rfl⟩
  have HCON := Lib.hid (show considerF (WG g) x o v = if nw < o.2 ∨ nw = o.2 ∧ o.1 < 0 then (v, nw) else o from by unfold considerF; rw [if_pos hg, ← hnw])
  have HA := Lib.hid (fun w => after_anyG x v w (hx.fit hv) (hx.sts hv) (.inr hc))
  have HW := Lib.hid hw
  have HNW := Lib.hid hnw
  have HM := Lib.hid hM
  have HG := Lib.hid hG
  have HB := Lib.hid hb
  have HS := Lib.hid hs
  have HO := Lib.hid ho
  have HNE := Lib.hid hO
  have HBM := Lib.hid (show Bb ≠ M from hM.noCells (hb 0 _ rfl).1)
  have HSM := Lib.hid (show Bs ≠ M from hM.noCells (hs 0 _ rfl).1)
  clear hnw hx hv hc hg hw hO hM hG hb hs ho
  go_enter Try.func46, Try.ntmps46
  go_upto_region 0 with fail
  refine wp_flow_j (fun β L' w' => Chg (fun k => k = M) w w' ∧ Memo g w' M) (by kernel_rfl) (by kernel_rfl) ?h0 ?_
  case h0 => exact ⟨(Chg.refl _ _).drew, HM.out.chg (S := fun _ => False) (Chg.refl _ _).drew (fun h => h)⟩
  ((with_reducible refine FlowJ.pure (v := bdV g sa sc da dc M) ?_ ?_ ?_ ?_); (focus (intro _; rfl)); (focus (intro β L' w' hJ hat; (try dsimp only at hJ); (try dsimp only); simpa only [setL, Nat.reduceEqDiff, if_false] using hJ)); (focus (intro β L' w' hJ hat; (try dsimp only at hJ); (exact exec_load_mid 43 (.tmp 1) rfl Bb 0 rfl _ _ (box_range (HB.out.chg hJ.1 HBM.out HB.out.lt)) Try.underlying43 rfl (by kernel_rfl)))); (try simp only [Act.put, List.setIfInBounds_toArray, List.set_cons_zero, List.set_cons_succ, Nat.reduceAdd]))
  ((with_reducible refine FlowJ.pure (v := stV x) ?_ ?_ ?_ ?_); (focus (intro _; rfl)); (focus (intro β L' w' hJ hat; (try dsimp only at hJ); (try dsimp only); simpa only [setL, Nat.reduceEqDiff, if_false] using hJ)); (focus (intro β L' w' hJ hat; (try dsimp only at hJ); (exact exec_load_mid 47 (.tmp 2) rfl Bs 0 rfl _ _ (box_range (HS.out.chg hJ.1 HSM.out HS.out.lt)) Try.underlying47 rfl (by kernel_rfl)))); (try simp only [Act.put, List.setIfInBounds_toArray, List.set_cons_zero, List.set_cons_succ, Nat.reduceAdd]))
  ((with_reducible refine FlowJ.pure (v := ?_) ?_ ?_ ?_ ?_); rotate_left 1; (focus (intro _; rfl)); (focus (intro β L' w' hJ hat; (try dsimp only at hJ); (try dsimp only); simpa only [setL, Nat.reduceEqDiff, if_false] using hJ)); (focus (intro β L' w' hJ hat; (try dsimp only at hJ); skip; go_simp; (try with_reducible rfl); done)); (try simp only [Act.put, List.setIfInBounds_toArray, List.set_cons_zero, List.set_cons_succ, Nat.reduceAdd]))
  ((with_reducible refine FlowJ.call (v := ?_) ?_ ?_ ?_); rotate_left 1; (focus (intro _; rfl)); (focus (intro β L' w' hJ hat K' hK; (try dsimp only at hJ); (go_simp; go_at_call 21; refine Calls.mono (HA.out w') ?_; rintro e w6 ⟨rfl, hc6⟩; refine hK.out _ ⟨hJ.1.trans (Chg.of_below hc6), hJ.2.later hc6⟩))); (try simp only [Act.put, List.setIfInBounds_toArray, List.set_cons_zero, List.set_cons_succ, Nat.reduceAdd]))
  ((with_reducible refine FlowJ.call (v := ?_) ?_ ?_ ?_); rotate_left 1; (focus (intro _; rfl)); (focus (intro β L' w' hJ hat K' hK; (try dsimp only at hJ); (go_simp; go_at_call 30; refine Calls.mono (HW.out w' hJ.2 (HG.out.memo hJ.1 HM.out)) ?_; rintro e w6 ⟨rfl, hc6, hm6⟩; rw [← HNW.out]; refine hK.out _ ⟨hJ.1.trans hc6, hm6⟩))); (try simp only [Act.put, List.setIfInBounds_toArray, List.set_cons_zero, List.set_cons_succ, Nat.reduceAdd]))
  ((with_reducible refine FlowJ.pure (v := ?_) ?_ ?_ ?_ ?_); rotate_left 1; (focus (intro _; rfl)); (focus (intro β L' w' hJ hat; (try dsimp only at hJ); (try dsimp only); simpa only [setL, Nat.reduceEqDiff, if_false] using hJ)); (focus (intro β L' w' hJ hat; (try dsimp only at hJ); skip; go_simp; (try with_reducible rfl); done)); (try simp only [Act.put, List.setIfInBounds_toArray, List.set_cons_zero, List.set_cons_succ, Nat.reduceAdd]))
  refine FlowJ.stop ?_
  dsimp only
  intro β w1 hJ
  obtain ⟨hc1, hm1⟩ := hJ
  have hO1 : BoxAt w1 O (cbC o) := HO.out.chg hc1 HNE.out.1 HO.out.lt
  obtain ⟨c, b⟩ := o
  obtain ⟨o0, f0⟩ := hO1 0 _ rfl
  obtain ⟨o1, f1⟩ := hO1 1 _ rfl
  obtain ⟨o2, f2⟩ := hO1 2 _ rfl
  obtain ⟨o3, f3⟩ := hO1 3 _ rfl
  obtain ⟨o4, f4⟩ := hO1 4 _ rfl
  obtain ⟨o5, f5⟩ := hO1 5 _ rfl
  dsimp only at o4 o5
  obtain ⟨w2, hw2⟩ : ∃ w2, w2 = w1.setCells O 0 (cbC (v, nw)) := ⟨_, rfl⟩
  have hO2 : BoxAt w2 O (cbC (v, nw)) := by rw [hw2]; exact hO1.stored rfl
  have hc2 : Chg (fun k => k = O) w1 w2 := by rw [hw2]; exact chg_setCells (Chg.refl _ _) _ _ _ (fun _ => rfl)
  have FIN2 := Lib.hid (show considerF (WG g) x (c, b) v = (v, nw) → Chg (fun k => k = M ∨ k = O) w w2 ∧ Memo g w2 M ∧ BoxAt w2 O (cbC (considerF (WG g) x (c, b) v)) from fun h =>
    ⟨(hc1.mono fun k _ h => .inl h).trans' hc2 (fun k _ h => .inr h), hm1.chg hc2 (fun h => HNE.out.1 h.symm), by rw [h]; exact hO2⟩)
  have FIN := Lib.hid (show considerF (WG g) x (c, b) v = (c, b) → Chg (fun k => k = M ∨ k = O) w w1 ∧ Memo g w1 M ∧ BoxAt w1 O (cbC (considerF (WG g) x (c, b) v)) from fun h =>
    ⟨hc1.mono fun k _ h => .inl h, hm1, by rw [h]; exact hO1⟩)
  simp only [World.setCells, Nat.zero_add, Nat.reduceAdd] at hw2
  have HW2 := Lib.hid hw2
  clear hO1 hw2 hO2 hc2 hc1 hm1
  by_cases h1 : nw < b
  · have HE := Lib.hid (HCON.out.trans (if_pos (.inl h1)))
    go_wp2_with fail
    rw [← HW2.out]
    go_end0
    exact ⟨rfl, FIN2.out HE.out⟩
  · by_cases h2 : nw = b
    · by_cases h3 : c < 0
      · have HE := Lib.hid (HCON.out.trans (if_pos (.inr ⟨h2, h3⟩)))
        have h4 : (nw == b) = true := by simpa using h2
        clear h2
        go_wp2_with fail
        rw [← HW2.out]
        go_end0
        exact ⟨rfl, FIN2.out HE.out⟩
      · have HE := Lib.hid (HCON.out.trans (if_neg (fun h => h.elim h1 fun h => h3 h.2)))
        have h4 : (nw == b) = true := by simpa using h2
        clear h2
        go_wp2_with fail
        go_end0
        exact ⟨rfl, FIN.out HE.out⟩
    · have HE := Lib.hid (HCON.out.trans (if_neg (fun h => h.elim h1 fun h => h2 h.1)))
      have h4 : (nw == b) = false := by simpa using h2
      clear h2
      go_wp2_with fail
      go_end0
      exact ⟨rfl, FIN.out HE.out⟩
end Go.Proofs.Ytgccankekflchaa

