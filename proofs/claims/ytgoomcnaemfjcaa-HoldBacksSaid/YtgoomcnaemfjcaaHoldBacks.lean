



/- HoldBacks: for all Ids, records and further record at the end that is no RecHold, the holds are as before, but for one author more in Back where the record gives back: the call of the law returns true, for every input. -/
import Derived.Test.YtgoomcnaemfjcaaHldS
namespace Go.Proofs.Ytgoomcnaemfjcaa
open Go.ChangeShapes Go.WideShapes Go.ChangeAt Go.RowKit Go.Joins

namespace HoldBacks
set_option maxRecDepth 100000 in
set_option maxHeartbeats 4000000 in
theorem all (ids : List ByteArray) (l : List Rec) (x : Rec) (s : ByteArray) (ia ra : Option Addr) (ic rc : Nat) (w : World) (hI : ES.At w ia ids) (hR : ER.At w ra l) (hA : RecAll w l) (hx : RecF x) (hxm : Ints w x.ma x.members)
    (hsi : ids.length * 16 ≤ 140737488351232) (hsl : l.length * 480 ≤ 140737488351232) :
    Calls Try.prog 4 #[.slice ia ids.length ic, .slice ra l.length rc, .agg x.cs.toArray, .string s] w (RetB (.bool true) w) := by
  have HI := Lib.hid hI
  have HR := Lib.hid hR
  have HRA := Lib.hid hA
  have HX := Lib.hid hx
  have HXM := Lib.hid hxm
  have HSI := Lib.hid hsi
  have HSL := Lib.hid hsl
  obtain ⟨n, hn⟩ : ∃ n, n = l.length := ⟨_, rfl⟩
  obtain ⟨q, hq⟩ : ∃ q, q = ids.length := ⟨_, rfl⟩
  have HN := Lib.hid hn
  have HQ := Lib.hid hq
  have hcl := x.hl
  rw [← hn, ← hq]
  clear hI hR hA hx hxm hsi hsl hn hq
  go_enter Try.func4, Try.ntmps4
  go_wp2_with fail
  obtain ⟨wx, X, hX, hbx, hBX, hwx⟩ : ∃ wx X, X = w.heap.size ∧ Below w.heap.size w wx ∧ BoxAt wx X x.cs ∧ wx = w.alloc (.cells x.cs.toArray 54) := ⟨_, _, rfl, (Below.refl _ _).alloc (Nat.le_refl _) _, BoxAt.new w x.cs _, rfl⟩
  rw [← hwx, ← hX]
  have HXE := Lib.hid hX
  have hXl : X < wx.heap.size := by rw [hwx, World.size_alloc]; omega
  clear hwx hX
  refine Calls.mono (head_any _) ?_
  rintro e w1 ⟨rfl, hb1⟩
  have HB1 := Lib.hid (hbx.trans (hb1.mono hbx.size))
  have HBX1 := Lib.hid (hBX.later hb1)
  have hX1 : X < w1.heap.size := Nat.lt_of_lt_of_le hXl hb1.size
  have HAT := Lib.hid (show ∀ w', Below w1.heap.size w1 w' → ER.At w' ra l from fun w' hb => HR.out.later (HB1.out.trans (hb.mono HB1.out.size)))
  have hfold := fold_rec x
  have hbig : (l.length + 1) * ER.by' ≤ 140737488355328 := by have := HSL.out; show (l.length + 1) * 480 ≤ _; omega
  have hbig0 : l.length * ER.by' ≤ 140737488355328 := by have := HSL.out; show l.length * 480 ≤ _; omega
  have HBG := Lib.hid hbig
  have HBG0 := Lib.hid hbig0
  clear hb1 hbx hBX hXl hbig hbig0
  go_wp2_with fail
  refine wp_flow_j (fun β L' w' => AaJ ER w1 l x (β 0) (β 2) (β 4) (β 5) (L' 0) (L' 2) (L' 4) (L' 5) w') (by kernel_rfl) (by kernel_rfl) ?h0 ?_
  case h0 => exact AaJ.start
  ((with_reducible refine FlowJ.ghost ?_ ?_ ?_); (focus (intro _; rfl)); (focus (intro β L' w' hJ hat K' hK; (try dsimp only at hJ); ((have n2 := hat.not (j := 2) (by kernel_rfl)); (have n5 := hat.not (j := 5) (by kernel_rfl)); have un := hat.un; simp only [un, n2, n5] at hJ; go_simp; refine hK.out _ _ ?_; simp only [updG, setL, Nat.reduceEqDiff, if_true, if_false, n2, n5]; exact hJ.nil))); (try simp only [Act.put, List.setIfInBounds_toArray, List.set_cons_zero, List.set_cons_succ, Nat.reduceAdd]))
  ((with_reducible refine FlowJ.pure (v := ?_) ?_ ?_ ?_ ?_); rotate_left 1; (focus (intro _; rfl)); (focus (intro β L' w' hJ hat; (try dsimp only at hJ); (try dsimp only); simpa only [setL, Nat.reduceEqDiff, if_false] using hJ)); (focus (intro β L' w' hJ hat; (try dsimp only at hJ); skip; go_simp; (try with_reducible rfl); done)); (try simp only [Act.put, List.setIfInBounds_toArray, List.set_cons_zero, List.set_cons_succ, Nat.reduceAdd]))
  ((with_reducible refine FlowJ.ghost ?_ ?_ ?_); (focus (intro _; rfl)); (focus (intro β L' w' hJ hat K' hK; (try dsimp only at hJ); ((have p0 := hat.pre 0 (by kernel_rfl)); (have n5 := hat.not (j := 5) (by kernel_rfl)); have un := hat.un; simp only [un, p0, n5] at hJ; obtain ⟨v', w2, hr, hs⟩ := hJ.run1 ra rc (HAT.out w' hJ.low) HBG0.out (by decide) 23; rw [← HN.out] at hr; refine wp_app_eq (.tmp 18) (.tmp 19) 23 rfl _ _ rfl rfl hr ?_; refine hK.out _ _ ?_; simp only [updG, setL, Nat.reduceEqDiff, if_true, if_false, p0, n5]; exact hs))); (try simp only [Act.put, List.setIfInBounds_toArray, List.set_cons_zero, List.set_cons_succ, Nat.reduceAdd]))
  ((with_reducible refine FlowJ.pure (v := .agg x.cs.toArray) ?_ ?_ ?_ ?_); (focus (intro _; rfl)); (focus (intro β L' w' hJ hat; (try dsimp only at hJ); (try dsimp only); simpa only [setL, Nat.reduceEqDiff, if_false] using hJ)); (focus (intro β L' w' hJ hat; (try dsimp only at hJ); exact exec_load_mid 54 (.tmp 6) rfl X 0 rfl x.cs _ (box_range (HBX1.out.later hJ.low)) Try.underlying54 rfl (rec_size x))); (try simp only [Act.put, List.setIfInBounds_toArray, List.set_cons_zero, List.set_cons_succ, Nat.reduceAdd]))
  ((with_reducible refine FlowJ.ghost ?_ ?_ ?_); (focus (intro _; rfl)); (focus (intro β L' w' hJ hat K' hK; (try dsimp only at hJ); ((have n5 := hat.not (j := 5) (by kernel_rfl)); have un := hat.un; simp only [un, n5] at hJ; go_simp; refine hK.out _ _ ?_; simp only [updG, setL, Nat.reduceEqDiff, if_true, if_false, n5]; exact hJ.one _ rfl))); (try simp only [Act.put, List.setIfInBounds_toArray, List.set_cons_zero, List.set_cons_succ, Nat.reduceAdd]))
  ((with_reducible refine FlowJ.ghost ?_ ?_ ?_); (focus (intro _; rfl)); (focus (intro β L' w' hJ hat K' hK; (try dsimp only at hJ); ((have p2 := hat.pre 2 (by kernel_rfl)); (have p4 := hat.pre 4 (by kernel_rfl)); have p0 := hat.down 2 0 p2 (by decide) (by kernel_rfl); have un := hat.un; simp only [un, p0, p2, p4] at hJ; obtain ⟨v', w2, hr, hs⟩ := hJ.run2 HBG.out (by decide) 23; refine wp_app_eq (.tmp 20) (.tmp 22) 23 rfl _ _ rfl rfl hr ?_; refine hK.out _ _ ?_; simp only [updG, setL, Nat.reduceEqDiff, if_true, if_false, p0, p2, p4]; exact hs))); (try simp only [Act.put, List.setIfInBounds_toArray, List.set_cons_zero, List.set_cons_succ, Nat.reduceAdd]))
  (refine FlowJ.pureG (v := fun β => β 5) (fun β k b hk => updG_ne β b (fun e => by subst e; exact Bool.false_ne_true (hk.symm.trans (by kernel_rfl)))) (fun β b => rfl) (fun _ => rfl) (fun β L' w' hJ hat => by simpa only [setL, Nat.reduceEqDiff, if_false] using hJ) (fun β L' w' hJ hat => by go_simp; (try with_reducible rfl); done) ?_; (try simp only [Act.put, List.setIfInBounds_toArray, List.set_cons_zero, List.set_cons_succ, Nat.reduceAdd]))
  refine FlowJ.stop ?_
  dsimp only
  intro β w2 hJ
  obtain ⟨v10, hv10⟩ : ∃ v, v = β 5 := ⟨_, rfl⟩
  have ho10 := hJ.e5 rfl
  rw [← hv10] at ho10 ⊢
  generalize β 0 = y0
  generalize β 2 = y2
  generalize β 4 = y4
  have hb2 := hJ.low
  have HB2 := Lib.hid hb2
  clear hJ hv10 hfold
  obtain ⟨r1, wr1, hr1, hs1⟩ := (AaJ.start0 (E := ES) (w0 := w2) (l := ids) (x := s) (b0 := undef) (b2 := undef) (b4 := undef) (b5 := undef)).nil.run1 ia ic ((HI.out.later (HB1.out.trans (hb2.mono HB1.out.size))).later ((Below.refl _ _).alloc (Nat.le_refl _) _)) (by have := HSI.out; show ids.length * 16 ≤ _; omega) (by decide) 22
  obtain ⟨v11, w5, hr2, hs2⟩ := (hs1.one #[.string s] rfl).run2 (by have := HSI.out; show (ids.length + 1) * 16 ≤ _; omega) (by decide) 22
  rw [← HQ.out] at hr1
  have HR1 := Lib.hid hr1
  have HR2 := Lib.hid hr2
  have hb5 := hs2.low
  have ho11 := (hs2.e5 rfl).mono hb2.size
  have HB5 := Lib.hid (hb2.trans (hb5.mono hb2.size))
  have ho15 := ho10.later hb5
  have HO10 := Lib.hid ho15
  have HO11 := Lib.hid ho11
  clear hr1 hr2 hs1 hs2 hb2 hb5 ho10 ho15 ho11
  go_wp2_with (at_builtin; first | (refine wpList_app_eq rfl _ _ _ rfl _ _ rfl rfl HR1.out ?_) | (refine wpList_app_eq rfl _ _ _ rfl _ _ rfl rfl HR2.out ?_))
  obtain ⟨fw, hfw⟩ : ∃ fw, fw = fewRB (ids ++ [s]) (l ++ [x]) 30 := ⟨_, rfl⟩
  have HRX := Lib.hid (show ∀ wy, Below w1.heap.size w1 wy → RecAll wy (l ++ [x]) from fun wy hb r hr => by
    have hbw := HB1.out.trans (hb.mono HB1.out.size)
    rcases List.mem_append.1 hr with hr | hr
    · exact (HRA.out.later hbw) r hr
    · rw [List.mem_singleton.1 hr]
      exact ⟨HX.out, HXM.out.later hbw⟩)
  have HFW := Lib.hid (show Calls Try.prog 10 #[v11, v10] w5 (RetS (.bool fw) w5) from by
    obtain ⟨an, cn, e1, _, _, hatN, _⟩ := HO11.out.at
    obtain ⟨ar, cr, e2, _, _, hatR, _⟩ := HO10.out.at
    rw [e1, e2, hfw]
    exact few_any _ _ an ar cn cr w5 hatN hatR (HRX.out w5 HB5.out))
  have hBX5 := HBX1.out.later HB5.out
  have k0 : w5.cell? ⟨X, 0, none⟩ = some (.int .i64 x.kind) := (hBX5 0 _ HX.out.f0).1
  have HBW5 := Lib.hid (HB1.out.trans (HB5.out.mono HB1.out.size))
  refine Calls.mono HFW.out ?_
  rintro e w6 ⟨rfl, rfl⟩
  clear HFW
  cases fw
  · clear hfw
    go_wp2_with fail
    go_ret
    exact retB rfl HBW5.out
  by_cases hno : ¬ q = n ∨ 28 < n ∨ x.kind = 5
  · clear hfw
    by_cases hq : q = n
    · by_cases h28 : 28 < n
      · have d1 : decide (28 < n) = true := decide_eq_true h28
        subst hq
        clear hno
        go_wp2_with fail
        all_goals (go_ret; exact retB rfl HBW5.out)
      · have h5 : x.kind = 5 := by
          rcases hno with h | h | h
          · exact absurd hq h
          · exact absurd h h28
          · exact h
        have d1 : decide (28 < n) = false := decide_eq_false h28
        rw [h5] at k0
        subst hq
        clear hno h28 h5
        go_wp2_with fail
        all_goals (go_ret; exact retB rfl HBW5.out)
    · have d1 : (q == n) = false := by simpa using hq
      have d2 : ((q : Int) == (n : Int)) = false := by simp; omega
      clear hno
      go_wp2_with fail
      all_goals (go_ret; exact retB rfl HBW5.out)
  · have hqn : q = n := by
      by_cases h : q = n
      · exact h
      · exact absurd (.inl h) hno
    have h28 : n ≤ 28 := by
      by_cases h : 28 < n
      · exact absurd (.inr (.inl h)) hno
      · omega
    have h5 : ¬ x.kind = 5 := fun h => hno (.inr (.inr h))
    have h5b : (x.kind == (5 : Int)) = false := by simpa using h5
    have HFE : Hid (FewR (ids ++ [s]) (l ++ [x]) 30) := Lib.hid (by
      refine Classical.byContradiction fun h => ?_
      rw [fewRB_no h] at hfw
      cases hfw)
    have HLEN := Lib.hid (show ids.length = l.length by rw [← HQ.out, ← HN.out, hqn])
    have HK5 := Lib.hid h5
    subst hqn
    clear hfw hno h5
    have d1 : decide (28 < q) = false := decide_eq_false (by omega)
    have HA1 := Lib.hid (show ∀ wy, Below w1.heap.size w1 wy → Calls Try.prog 11 #[.slice ia q ic, .slice ra q rc] wy (RetN l wy (runH (ids.zip l))) from fun wy hb => by
      have hbw := HB1.out.trans (hb.mono HB1.out.size)
      have h := all_new ids l ia ra ic rc wy (HI.out.later hbw) (HR.out.later hbw) (HRA.out.later hbw) ⟨by have := HN.out; omega, fun t ht => by have := HFE.out.2.2.2 t (List.mem_append_left _ ht); omega, fun r hr => by have := (HFE.out.2.2.1 r (List.mem_append_left _ hr)).2.2; omega⟩
      rw [show allH ids l = runH (ids.zip l) from if_pos HLEN.out, ← HQ.out, ← HN.out] at h
      exact h)
    obtain ⟨Z, hZ⟩ : ∃ Z, Z = runH (ids.zip l) := ⟨_, rfl⟩
    have HZB := Lib.hid (show ∀ h ∈ Z, h.back.length ≤ 1000 from fun h hh => by
      rw [hZ] at hh
      have h1 := run_back_len _ h hh
      rw [List.length_zip] at h1
      have := HN.out
      omega)
    rw [← hZ] at HA1
    have HA2 := Lib.hid (show ∀ wy vN vR, Below w1.heap.size w1 wy → ES.Own wy w1.heap.size vN (ids ++ [s]) → ER.Own wy w1.heap.size vR (l ++ [x]) → Calls Try.prog 11 #[vN, vR] wy (RetN (l ++ [x]) wy (Z.map (gH x))) from fun wy vN vR hb hoN hoR => by
      obtain ⟨an, cn, rfl, _, _, hatN, _⟩ := hoN.at
      obtain ⟨ar, cr, rfl, _, _, hatR, _⟩ := hoR.at
      have h := all_new _ _ an ar cn cr wy hatN hatR (HRX.out wy hb) (HFE.out.few (by omega))
      rw [allH_snoc HLEN.out, step_g HK5.out, ← hZ] at h
      exact h)
    have HA3 := Lib.hid (show ∀ wy vN vR, Below w1.heap.size w1 wy → ES.Own wy w1.heap.size vN (ids ++ [s] ++ [s]) → ER.Own wy w1.heap.size vR (l ++ [x] ++ [x]) → Calls Try.prog 11 #[vN, vR] wy (RetN (l ++ [x] ++ [x]) wy (Z.map (gH x))) from fun wy vN vR hb hoN hoR => by
      obtain ⟨an, cn, rfl, _, _, hatN, _⟩ := hoN.at
      obtain ⟨ar, cr, rfl, _, _, hatR, _⟩ := hoR.at
      have hf := HFE.out
      have hlx : ∀ r ∈ l ++ [x] ++ [x], r ∈ l ++ [x] := fun r hr => by
        rcases List.mem_append.1 hr with hr | hr
        · exact hr
        · exact List.mem_append_right _ hr
      have hls : ∀ r ∈ ids ++ [s] ++ [s], r ∈ ids ++ [s] := fun r hr => by
        rcases List.mem_append.1 hr with hr | hr
        · exact hr
        · exact List.mem_append_right _ hr
      have h := all_new _ _ an ar cn cr wy hatN hatR (fun r hr => HRX.out wy hb r (hlx r hr)) ⟨by have := HN.out; simp; omega, fun t ht => by have := hf.2.2.2 t (hls t ht); omega, fun r hr => by have := (hf.2.2.1 r (hlx r hr)).2.2; omega⟩
      rw [allH_snoc (by simp [HLEN.out]), List.zip_append HLEN.out, show ([s] : List ByteArray).zip [x] = [(s, x)] from rfl, runH_snoc, step_g HK5.out, step_g HK5.out, List.map_map, show gH x ∘ gH x = gH x from funext fun h => gH_twice x h, ← hZ] at h
      exact h)
    go_wp2_with fail
    refine Calls.mono (HA1.out w5 HB5.out) ?_
    rintro e wA ⟨aA, cA, LA, rfl, hA1, hA2, hA3, hbA⟩
    obtain ⟨m, hm⟩ : ∃ m, m = LA.length := ⟨_, rfl⟩
    have HM := Lib.hid hm
    have HAM := Lib.hid hA1
    have HAO := Lib.hid hA2
    have HAX := Lib.hid hA3
    have HBA := Lib.hid (HB5.out.trans (hbA.mono HB5.out.size))
    have HO10A := Lib.hid (HO10.out.later hbA)
    have HO11A := Lib.hid (HO11.out.later hbA)
    have hsA := hbA.size
    have hzl : Z.length ≤ 1000 := by
      have h1 := runH_len (ids.zip l)
      rw [List.length_zip] at h1
      have := HN.out
      rw [hZ]
      omega
    have hmz : m = Z.length := by rw [hm, ← hA1, List.length_map]
    have HMZ := Lib.hid hmz
    have hm1 : m ≤ 1000 := by omega
    have HLO := Lib.hid (show (∀ g, v10.ownBlock = some g → g < w5.heap.size) ∧ ∀ g, v11.ownBlock = some g → g < w5.heap.size from ⟨fun g hg => (HO10.out.lt g hg).2, fun g hg => (HO11.out.lt g hg).2⟩)
    rw [← hm]
    clear hA1 hA2 hA3 hbA hm HA1 hzl hmz hZ
    go_wp2_with fail
    refine Calls.mono (HA2.out wA v11 v10 HBA.out HO11A.out HO10A.out) ?_
    rintro e wB ⟨aB, cB, LB, rfl, hA1, hA2, hA3, hbB⟩
    have hmB : LB.length = m := by
      have h := congrArg List.length hA1
      rw [List.length_map, List.length_map] at h
      rw [h, HMZ.out]
    have HMB := Lib.hid hmB
    have HBM := Lib.hid hA1
    have HBO := Lib.hid hA2
    have HBX := Lib.hid hA3
    have HBB := Lib.hid (HBA.out.trans (hbB.mono HBA.out.size))
    have hBXB := HBX1.out.later HBB.out
    have HBXB := Lib.hid hBXB
    have ho10B := HO10A.out.later hbB
    have ho11B := HO11A.out.later hbB
    have HAB := Lib.hid hbB
    have hsB := hbB.size
    have HSR := Lib.hid (show Sd ER wB w1.heap.size v10 (l ++ [x]) x undef undef false false wB.drew from Sd.start ho10B)
    have HSN := Lib.hid (show Sd ES wB w1.heap.size v11 (ids ++ [s]) s undef undef false false wB.drew from Sd.start ho11B)
    have HV10 := Lib.hid (show ∀ g, v10.ownBlock = some g → w1.heap.size ≤ g ∧ g < wB.heap.size from fun g hg => ho10B.lt g hg)
    have HV11 := Lib.hid (show ∀ g, v11.ownBlock = some g → w1.heap.size ≤ g ∧ g < wB.heap.size from fun g hg => ho11B.lt g hg)
    have HLB := Lib.hid (show ∀ w', Chg (fun k => v10.ownBlock = some k ∨ v11.ownBlock = some k) wB w' → Below w1.heap.size w1 w' from fun w' hc => HBB.out.trans (hc.below HBB.out.size fun k hk => by
      rcases hk with e | e
      · exact (HV10.out k e).1
      · exact (HV11.out k e).1))
    have hl1 : (l ++ [x]).length ≤ 10000 := by have := HN.out; simp; omega
    have hl2 : (ids ++ [s]).length ≤ 10000 := by have := HQ.out; simp; omega
    have hz1 := HBB.out.size
    have hfold := fold_rec x
    rw [hmB]
    clear hA1 hA2 hA3 hbB hmB HA2 hBXB ho10B ho11B
    go_wp2_with fail
    refine wp_flow_j (fun β L' w' => Chg (fun k => v10.ownBlock = some k ∨ v11.ownBlock = some k) wB w' ∧ Sd ES wB w1.heap.size v11 (ids ++ [s]) s (β 2) (β 3) (L' 2) (L' 3) w' ∧ Sd ER wB w1.heap.size v10 (l ++ [x]) x (β 6) (β 7) (L' 6) (L' 7) w' ∧ (L' 8 = true → ∃ aC cC LC, β 8 = .slice aC LC.length cC ∧ LC.map (·.1) = Z.map (gH x) ∧ EH.Own w' wB.heap.size (.slice aC LC.length cC) LC ∧ ∀ y ∈ LC, y.1.mem.length < 9223372036854775808 ∧ (∃ r ∈ l ++ [x] ++ [x], y.2.1 = r.ma ∧ y.1.mem = r.members) ∧ EI.Own w' wB.heap.size (.slice y.2.2.2.1 y.1.back.length y.2.2.2.2) y.1.back)) (by kernel_rfl) (by kernel_rfl) ?h1 ?_
    case h1 => exact ⟨(Chg.refl _ _).drew, HSN.out, HSR.out, fun e => (by cases e)⟩
    ((with_reducible refine FlowJ.pure (v := ?_) ?_ ?_ ?_ ?_); rotate_left 1; (focus (intro _; rfl)); (focus (intro β L' w' hJ hat; (try dsimp only at hJ); (try dsimp only); simpa only [setL, Nat.reduceEqDiff, if_false] using hJ)); (focus (intro β L' w' hJ hat; (try dsimp only at hJ); skip; go_simp; (try with_reducible rfl); done)); (try simp only [Act.put, List.setIfInBounds_toArray, List.set_cons_zero, List.set_cons_succ, Nat.reduceAdd]))
    ((with_reducible refine FlowJ.pure (v := ?_) ?_ ?_ ?_ ?_); rotate_left 1; (focus (intro _; rfl)); (focus (intro β L' w' hJ hat; (try dsimp only at hJ); (try dsimp only); simpa only [setL, Nat.reduceEqDiff, if_false] using hJ)); (focus (intro β L' w' hJ hat; (try dsimp only at hJ); skip; go_simp; (try with_reducible rfl); done)); (try simp only [Act.put, List.setIfInBounds_toArray, List.set_cons_zero, List.set_cons_succ, Nat.reduceAdd]))
    ((with_reducible refine FlowJ.ghost ?_ ?_ ?_); (focus (intro _; rfl)); (focus (intro β L' w' hJ hat K' hK; (try dsimp only at hJ); ((have n3 := hat.not (j := 3) (by kernel_rfl)); (have n8 := hat.not (j := 8) (by kernel_rfl)); have un := hat.un; simp only [un, n3, n8] at hJ; go_simp; refine hK.out _ _ ?_; simp only [updG, setL, Nat.reduceEqDiff, if_true, if_false, n3, n8]; exact ⟨hJ.1.alloc _, hJ.2.1.made hJ.1.size _ rfl _, hJ.2.2.1.later ((Below.refl _ _).alloc (Nat.le_refl _) _), fun e => by cases e⟩))); (try simp only [Act.put, List.setIfInBounds_toArray, List.set_cons_zero, List.set_cons_succ, Nat.reduceAdd]))
    ((with_reducible refine FlowJ.ghost ?_ ?_ ?_); (focus (intro _; rfl)); (focus (intro β L' w' hJ hat K' hK; (try dsimp only at hJ); ((have p2 := hat.pre 2 (by kernel_rfl)); (have n8 := hat.not (j := 8) (by kernel_rfl)); have un := hat.un; simp only [un, p2, n8] at hJ; obtain ⟨v', w2, hr, hs, hg⟩ := hJ.2.1.run hl2 (by have := hJ.1.size; omega) 22; refine wp_app_eq (.tmp 58) (.tmp 60) 22 rfl _ _ rfl rfl hr ?_; refine hK.out _ _ ?_; simp only [updG, setL, Nat.reduceEqDiff, if_true, if_false, p2, n8]; exact ⟨hJ.1.grown hg fun k hk _ => .inr hk, hs, hJ.2.2.1.other hg (ownBlock_ty hJ.2.1) (by decide) (fun g hg => (HV11.out g hg).2), fun e => by cases e⟩))); (try simp only [Act.put, List.setIfInBounds_toArray, List.set_cons_zero, List.set_cons_succ, Nat.reduceAdd]))
    ((with_reducible refine FlowJ.pure (v := ?_) ?_ ?_ ?_ ?_); rotate_left 1; (focus (intro _; rfl)); (focus (intro β L' w' hJ hat; (try dsimp only at hJ); (try dsimp only); simpa only [setL, Nat.reduceEqDiff, if_false] using hJ)); (focus (intro β L' w' hJ hat; (try dsimp only at hJ); skip; go_simp; (try with_reducible rfl); done)); (try simp only [Act.put, List.setIfInBounds_toArray, List.set_cons_zero, List.set_cons_succ, Nat.reduceAdd]))
    ((with_reducible refine FlowJ.pure (v := .agg x.cs.toArray) ?_ ?_ ?_ ?_); (focus (intro _; rfl)); (focus (intro β L' w' hJ hat; (try dsimp only at hJ); (try dsimp only); simpa only [setL, Nat.reduceEqDiff, if_false] using hJ)); (focus (intro β L' w' hJ hat; (try dsimp only at hJ); exact exec_load_mid 54 (.tmp 6) rfl X 0 rfl x.cs _ (box_range (HBX1.out.later (HLB.out _ hJ.1))) Try.underlying54 rfl (rec_size x))); (try simp only [Act.put, List.setIfInBounds_toArray, List.set_cons_zero, List.set_cons_succ, Nat.reduceAdd]))
    ((with_reducible refine FlowJ.ghost ?_ ?_ ?_); (focus (intro _; rfl)); (focus (intro β L' w' hJ hat K' hK; (try dsimp only at hJ); ((have n7 := hat.not (j := 7) (by kernel_rfl)); (have n8 := hat.not (j := 8) (by kernel_rfl)); have un := hat.un; simp only [un, n7, n8] at hJ; go_simp; refine hK.out _ _ ?_; simp only [updG, setL, Nat.reduceEqDiff, if_true, if_false, n7, n8]; exact ⟨hJ.1.alloc _, hJ.2.1.later ((Below.refl _ _).alloc (Nat.le_refl _) _), hJ.2.2.1.made hJ.1.size _ rfl _, fun e => by cases e⟩))); (try simp only [Act.put, List.setIfInBounds_toArray, List.set_cons_zero, List.set_cons_succ, Nat.reduceAdd]))
    ((with_reducible refine FlowJ.ghost ?_ ?_ ?_); (focus (intro _; rfl)); (focus (intro β L' w' hJ hat K' hK; (try dsimp only at hJ); ((have p6 := hat.pre 6 (by kernel_rfl)); (have n8 := hat.not (j := 8) (by kernel_rfl)); have un := hat.un; simp only [un, p6, n8] at hJ; obtain ⟨v', w2, hr, hs, hg⟩ := hJ.2.2.1.run hl1 (by have := hJ.1.size; omega) 23; refine wp_app_eq (.tmp 62) (.tmp 64) 23 rfl _ _ rfl rfl hr ?_; refine hK.out _ _ ?_; simp only [updG, setL, Nat.reduceEqDiff, if_true, if_false, p6, n8]; exact ⟨hJ.1.grown hg fun k hk _ => .inl hk, hJ.2.1.other hg (ownBlock_ty hJ.2.2.1) (by decide) (fun g hg => (HV10.out g hg).2), hs, fun e => by cases e⟩))); (try simp only [Act.put, List.setIfInBounds_toArray, List.set_cons_zero, List.set_cons_succ, Nat.reduceAdd]))
    ((with_reducible refine FlowJ.ghost ?_ ?_ ?_); (focus (intro _; rfl)); (focus (intro β L' w' hJ hat K' hK; (try dsimp only at hJ); ((have p3 := hat.pre 3 (by kernel_rfl)); (have p7 := hat.pre 7 (by kernel_rfl)); have un := hat.un; simp only [un, p3, p7] at hJ; go_simp; go_at_call 11; refine Calls.mono (HA3.out w' (β 3) (β 7) (HLB.out w' hJ.1) (hJ.2.1.o1 rfl) (hJ.2.2.1.o1 rfl)) ?_; rintro e w'' ⟨aC, cC, LC, rfl, g1, g2, g3, hb'⟩; refine hK.out _ _ ?_; simp only [updG, setL, Nat.reduceEqDiff, if_true, if_false, p3, p7]; exact ⟨hJ.1.trans (Chg.of_below hb'), hJ.2.1.later hb', hJ.2.2.1.later hb', fun _ => ⟨aC, cC, LC, rfl, g1, g2.mono hJ.1.size, fun y hy => ⟨(g3 y hy).2.1, (g3 y hy).2.2.1, (g3 y hy).2.2.2.mono hJ.1.size⟩⟩⟩))); (try simp only [Act.put, List.setIfInBounds_toArray, List.set_cons_zero, List.set_cons_succ, Nat.reduceAdd]))
    (refine FlowJ.pureG (v := fun β => β 8) (fun β k b hk => updG_ne β b (fun e => by subst e; exact Bool.false_ne_true (hk.symm.trans (by kernel_rfl)))) (fun β b => rfl) (fun _ => rfl) (fun β L' w' hJ hat => by simpa only [setL, Nat.reduceEqDiff, if_false] using hJ) (fun β L' w' hJ hat => by go_simp; (try with_reducible rfl); done) ?_; (try simp only [Act.put, List.setIfInBounds_toArray, List.set_cons_zero, List.set_cons_succ, Nat.reduceAdd]))
    refine FlowJ.stop ?_
    dsimp only
    intro β2 wL hJ
    obtain ⟨hJ1, _, _, hJ4⟩ := hJ
    obtain ⟨aC, cC, LC, e15, hC1, hC2, hC3⟩ := hJ4 trivial
    have hbL := HLB.out wL hJ1
    have hbwL := HB1.out.trans (hbL.mono HB1.out.size)
    have hmem : ∀ r ∈ l ++ [x] ++ [x], Ints wL r.ma r.members := fun r hr => (HRX.out wL hbL r (by
      rcases List.mem_append.1 hr with hr | hr
      · exact hr
      · exact List.mem_append_right _ hr)).2
    obtain ⟨hAat, hAall, hAc1, hAc2⟩ := ret_keep (S := fun k => v10.ownBlock = some k ∨ v11.ownBlock = some k) (B := w5.heap.size) (HAO.out.later HAB.out) (fun y hy => ⟨(HAX.out y hy).2.1, (HAX.out y hy).2.2.1, (HAX.out y hy).2.2.2.later HAB.out⟩) hJ1 (fun k hk => by
      rcases hk with e | e
      · exact HLO.out.1 k e
      · exact HLO.out.2 k e) (fun r hr => hmem r (List.mem_append_left _ (List.mem_append_left _ hr)))
    obtain ⟨hBat, hBall, hBc1, hBc2⟩ := ret_keep (S := fun k => v10.ownBlock = some k ∨ v11.ownBlock = some k) (B := wA.heap.size) HBO.out (fun y hy => ⟨(HBX.out y hy).2.1, (HBX.out y hy).2.2.1, (HBX.out y hy).2.2.2⟩) hJ1 (fun k hk => by
      rcases hk with e | e
      · have := HLO.out.1 k e; omega
      · have := HLO.out.2 k e; omega) (fun r hr => hmem r (List.mem_append_left _ hr))
    obtain ⟨hCat, hCall, hCc1, hCc2⟩ := ret_keep (S := fun _ => False) (B := wB.heap.size) hC2 hC3 (Chg.refl _ _) (fun k hk => hk.elim) hmem
    have hmC : LC.length = m := by
      have h := congrArg List.length hC1
      rw [List.length_map, List.length_map] at h
      rw [h, HMZ.out]
    rw [e15, hmC]
    have HCM := Lib.hid hC1
    have HSM := Lib.hid (show ∀ wy, Below wL.heap.size wL wy → Calls Try.prog 15 #[.slice aB m cB, .slice aC m cC] wy (RetB (.bool true) wy) from fun wy hy => by
      have h := same_any LB LC aB aC cB cC wy (hBat.later hy) (hCat.later hy) (hBall.later hy) (hCall.later hy) (by have := HMB.out; omega)
      rw [sameB_yes (by rw [HBM.out, HCM.out]), HMB.out, hmC] at h
      exact h)
    have HAat := Lib.hid hAat
    have HAall := Lib.hid hAall
    have HBat := Lib.hid hBat
    have HBall := Lib.hid hBall
    have HBL := Lib.hid hbL
    have HBWL := Lib.hid hbwL
    have HBXL := Lib.hid (HBX1.out.later hbL)
    generalize β2 2 = y22
    generalize β2 3 = y23
    generalize β2 6 = y26
    generalize β2 7 = y27
    have em : ((m : Int) == (m : Int)) = true := by simp
    rw [← HM.out] at hAc1
    rw [HMB.out] at hBc1
    clear hJ1 hJ4 e15 hC1 hC2 hC3 hbL hbwL hmem hAat hAall hBat hBall hCat hCall hmC HSR HSN HV10 HV11 HLB HA3 hfold hl1 hl2 HLO HO10 HO11 HO10A HO11A HAO HAX HBO HBX HAT HBG HBG0 HR1 HR2
    go_wp2_with fail
    refine Calls.mono (HSM.out wL (Below.refl _ _)) ?_
    rintro e wS ⟨rfl, hbS⟩
    have HBS := Lib.hid hbS
    clear hbS
    go_wp2_with fail
    go_loopg [15] (m + 1) (fun k v15 wr => ∃ i : Nat, i ≤ m ∧ k + i = m + 1 ∧ v15 = .int .i64 i ∧ Below wL.heap.size wL wr)
    case atStart => exact ⟨0, by omega, by omega, rfl, HBS.out⟩
    case round =>
      obtain ⟨i, hi, hki, rfl, hbr⟩ := hrel
      by_cases hlt : i < m
      · have hiA : i < LA.length := by have := HM.out; omega
        have hiB : i < LB.length := by have := HMB.out; omega
        have hatA := HAat.out.later hbr
        have hatB := HBat.out.later hbr
        obtain ⟨ab, ao, rfl, _⟩ := hatA.head (by omega)
        obtain ⟨bb, bo, rfl, _⟩ := hatB.head (by omega)
        obtain ⟨c0, c1, c2, c3⟩ := hd_cells hatA hiA
        have hxA := (HAall.out _ (List.getElem_mem hiA)).later hbr
        have hsB := hatB.sub i 1
        rw [List.drop_eq_getElem_cons hiB, show (LB[i] :: LB.drop (i + 1)).take 1 = [LB[i]] from rfl, show EH.S = 4 from rfl] at hsB
        have hgB : LB[i].1 = gH x LA[i].1 := by
          have e1 := congrArg (fun (z : List Hd) => z[i]?) HBM.out
          have e2 := congrArg (fun (z : List Hd) => z[i]?) HAM.out
          simp only [List.getElem?_map, List.getElem?_eq_getElem hiB] at e1
          simp only [List.getElem?_map, List.getElem?_eq_getElem hiA, Option.map_some] at e2
          rw [← e2] at e1
          simpa using e1
        have hyb : LA[i].1.back.length ≤ 1000 := HZB.out _ (by rw [← HAM.out]; exact List.mem_map.2 ⟨_, List.getElem_mem hiA, rfl⟩)
        obtain ⟨y, hy⟩ : ∃ y, y = LA[i] := ⟨_, rfl⟩
        rw [← hy] at c0 c1 c2 c3 hxA hgB hyb
        have HYB := Lib.hid hyb
        clear hyb
        have HY := Lib.hid hxA
        have HGB := Lib.hid hgB
        have HSB := Lib.hid hsB
        have HBR := Lib.hid hbr
        have HBXR := Lib.hid (HBXL.out.later hbr)
        have HBRW := hbr.size
        have n1 : (i : Int) < (m : Int) := by omega
        have n0 : (0 : Int) ≤ (i : Int) := by omega
        have n3 : (i : Int) + 1 ≤ (cB : Int) := by omega
        have n5 : ¬ cB = i := by omega
        have n6 : (0 : Int) ≤ (i : Int) + 1 := by omega
        have n8 : i + 1 ≤ cB := by omega
        have nw : IntKind.i64.wrap ((i : Int) + 1) = (i : Int) + 1 := IntWalk.i64_in _ (by omega)
        clear hatA hatB hxA hgB hsB hy hbr
        go_upto_region 15 with fail
        obtain ⟨w8, T, hT, hb8, hTY, hBX8, hw8⟩ : ∃ w8 T, T = wr.heap.size ∧ Below wr.heap.size wr w8 ∧ IsTy w8 T 31 ∧ BoxAt w8 T (haC y) ∧ w8 = wr.alloc (.cells #[.string y.1.id, .string y.1.veh, .slice y.2.1 y.1.mem.length y.2.2.1, .slice y.2.2.2.1 y.1.back.length y.2.2.2.2] 31) := ⟨_, _, rfl, (Below.refl _ _).alloc (Nat.le_refl _) _, ⟨_, heap_alloc_new wr _⟩, BoxAt.new wr (haC y) _, rfl⟩
        rw [← hw8, ← hT]
        have HTR := Lib.hid hT
        have HB8 := Lib.hid hb8
        have HTY8 := Lib.hid hTY
        have HBX8 := Lib.hid hBX8
        have HY8 := Lib.hid (HY.out.later hb8)
        have hbxx := HBXR.out.later hb8
        have x0 := (hbxx 0 _ HX.out.f0).1
        have x1 := (hbxx 1 _ HX.out.f1).1
        have x5 := (hbxx 5 _ HX.out.f5).1
        have t0 := (hBX8 0 _ rfl).1
        have t2 := (hBX8 2 _ rfl).1
        have t3 := (hBX8 3 _ rfl).1
        (try simp only at t0 t2 t3)
        have HC1 := Lib.hid (in_any y.1.mem y.2.1 y.2.2.1 x.author w8 HY8.out.m HY8.out.ml)
        have HC2 := Lib.hid (in_any y.1.back y.2.2.2.1 y.2.2.2.2 x.author w8 HY8.out.b HY8.out.bl)
        clear hw8 hT hb8 hTY hBX8 hbxx c0 c1 c2 c3
        cases e6 : (x.kind == (6 : Int))
        · have e6' : ¬ x.kind = 6 := by simpa using e6
          have HEQ := Lib.hid (show LB[i].1 = y.1 from by rw [HGB.out]; exact if_neg e6')
          clear t0 t2 t3
          (
        have HSM17 := Lib.hid (show ∀ wy v, Below (w8).heap.size (w8) wy → (∃ k, v = Value.slice (some ⟨k, 0, none⟩) 1 1 ∧ EH.At wy (some ⟨k, 0, none⟩) [y]) → Calls Try.prog 15 #[.slice (some ⟨bb, bo + i * 4, none⟩) 1 (cB - i), v] wy (RetB (.bool true) wy) from fun wy v hy ⟨k, hv, hat⟩ => by
          rw [hv]
          have h := same_any [LB[i]] [y] _ _ (cB - i) 1 wy (HSB.out.later ((HB8).out.trans (hy.mono (HB8).out.size))) hat (fun u hu => by obtain rfl := List.mem_singleton.1 hu; exact (HBall.out _ (List.getElem_mem hiB)).later (HBR.out.trans (((HB8).out.trans (hy.mono (HB8).out.size)).mono HBR.out.size))) (fun u hu => by obtain rfl := List.mem_singleton.1 hu; exact (HY8).out.later hy) (by simp)
          rw [sameB_yes (by
            show [LB[i].1] = [(y).1]
            rw [(HEQ).out])] at h
          exact h)
        have HTC := Lib.hid (show ∀ wy, Below (w8).heap.size (w8) wy → wy.cell? ⟨T, 0, none⟩ = some (.string (y).1.id) ∧ wy.cell? ⟨T, 1, none⟩ = some (.string (y).1.veh) ∧ wy.cell? ⟨T, 2, none⟩ = some (.slice (y).2.1 (y).1.mem.length (y).2.2.1) ∧ wy.cell? ⟨T, 3, none⟩ = some (.slice (y).2.2.2.1 (y).1.back.length (y).2.2.2.2) from fun wy hy => by
          have hb := (HBX8).out.later hy
          exact ⟨(hb 0 _ rfl).1, (hb 1 _ rfl).1, (hb 2 _ rfl).1, (hb 3 _ rfl).1⟩)
        go_wp2_with fail
        refine wp_flow_j (fun β L' w' => Below (w8).heap.size (w8) w' ∧ (L' 6 = true → ∃ k, β 6 = Value.slice (some ⟨k, 0, none⟩) 1 1 ∧ EH.At w' (some ⟨k, 0, none⟩) [y])) (by kernel_rfl) (by kernel_rfl) ?h17 ?_
        case h17 => exact ⟨(Below.refl _ _).drew, fun e => (by cases e)⟩
        iterate 5 (((with_reducible refine FlowJ.pure (v := ?_) ?_ ?_ ?_ ?_); rotate_left 1; (focus (intro _; rfl)); (focus (intro β L' w' hJ hat; (try dsimp only at hJ); (try dsimp only); simpa only [setL, Nat.reduceEqDiff, if_false] using hJ)); (focus (intro β L' w' hJ hat; (try dsimp only at hJ); skip; go_simp; (try with_reducible rfl); done)); (try simp only [Act.put, List.setIfInBounds_toArray, List.set_cons_zero, List.set_cons_succ, Nat.reduceAdd])))
        ((with_reducible refine FlowJ.pure (v := ?_) ?_ ?_ ?_ ?_); rotate_left 1; (focus (intro _; rfl)); (focus (intro β L' w' hJ hat; (try dsimp only at hJ); (try dsimp only); simpa only [setL, Nat.reduceEqDiff, if_false] using hJ)); (focus (intro β L' w' hJ hat; (try dsimp only at hJ); (obtain ⟨t0, t1, t2, t3⟩ := HTC.out _ hJ.1); go_simp; (try with_reducible rfl); done)); (try simp only [Act.put, List.setIfInBounds_toArray, List.set_cons_zero, List.set_cons_succ, Nat.reduceAdd]))
        ((with_reducible refine FlowJ.ghost ?_ ?_ ?_); (focus (intro _; rfl)); (focus (intro β L' w' hJ hat K' hK; (try dsimp only at hJ); (have un := hat.un; simp only [un] at hJ; go_simp; refine hK.out _ _ ?_; simp only [updG, setL, Nat.reduceEqDiff, if_true, if_false]; exact ⟨hJ.1.trans (((Below.refl _ _).alloc (Nat.le_refl _) _).mono hJ.1.size), fun _ => ⟨_, rfl, El.at_lit' EH w' [y] _ _ rfl⟩⟩))); (try simp only [Act.put, List.setIfInBounds_toArray, List.set_cons_zero, List.set_cons_succ, Nat.reduceAdd]))
        ((with_reducible refine FlowJ.call (v := ?_) ?_ ?_ ?_); rotate_left 1; (focus (intro _; rfl)); (focus (intro β L' w' hJ hat K' hK; (try dsimp only at hJ); ((have p6 := hat.pre 6 (by kernel_rfl)); have un := hat.un; simp only [un, p6] at hJ; go_simp; go_at_call 15; refine Calls.mono (HSM17.out w' (β 6) hJ.1 (hJ.2 trivial)) ?_; rintro e w'' ⟨rfl, hb'⟩; refine hK.out _ ?_; simp only [setL, Nat.reduceEqDiff, if_true, if_false, p6]; exact ⟨hJ.1.trans (hb'.mono hJ.1.size), fun _ => (by obtain ⟨k, e1, e2⟩ := hJ.2 trivial; exact ⟨k, e1, e2.later hb'⟩)⟩))); (try simp only [Act.put, List.setIfInBounds_toArray, List.set_cons_zero, List.set_cons_succ, Nat.reduceAdd]))
        ((with_reducible refine FlowJ.pure (v := ?_) ?_ ?_ ?_ ?_); rotate_left 1; (focus (intro _; rfl)); (focus (intro β L' w' hJ hat; (try dsimp only at hJ); (try dsimp only); simpa only [setL, Nat.reduceEqDiff, if_false] using hJ)); (focus (intro β L' w' hJ hat; (try dsimp only at hJ); skip; go_simp; (try with_reducible rfl); done)); (try simp only [Act.put, List.setIfInBounds_toArray, List.set_cons_zero, List.set_cons_succ, Nat.reduceAdd]))
        refine FlowJ.stop ?_
        dsimp only
        intro β6 w17 hJ
        have HB17 := Lib.hid (HBR.out.trans (((HB8).out.trans (hJ.1.mono (HB8).out.size)).mono HBR.out.size))
        generalize β6 6 = y66
        clear hJ
        go_wp2_with fail
        go_roundg (m - i)
        case measure => omega
        case rel => exact ⟨i + 1, by omega, by omega, by go_num, HB17.out⟩)
        · have H6 := Lib.hid (show x.kind = 6 from by simpa using e6)
          rw [H6.out] at x0
          clear e6
          cases e7 : (x.target.toList == y.1.id.toList)
          · have HEQ := Lib.hid (show LB[i].1 = y.1 from by
              rw [HGB.out]
              refine (if_pos H6.out).trans (if_neg ?_)
              rintro ⟨h1, _⟩
              exact (of_decide_eq_false (str_eq.symm.trans e7)) h1.symm)
            clear t2 t3
            (
        have HSM17 := Lib.hid (show ∀ wy v, Below (w8).heap.size (w8) wy → (∃ k, v = Value.slice (some ⟨k, 0, none⟩) 1 1 ∧ EH.At wy (some ⟨k, 0, none⟩) [y]) → Calls Try.prog 15 #[.slice (some ⟨bb, bo + i * 4, none⟩) 1 (cB - i), v] wy (RetB (.bool true) wy) from fun wy v hy ⟨k, hv, hat⟩ => by
          rw [hv]
          have h := same_any [LB[i]] [y] _ _ (cB - i) 1 wy (HSB.out.later ((HB8).out.trans (hy.mono (HB8).out.size))) hat (fun u hu => by obtain rfl := List.mem_singleton.1 hu; exact (HBall.out _ (List.getElem_mem hiB)).later (HBR.out.trans (((HB8).out.trans (hy.mono (HB8).out.size)).mono HBR.out.size))) (fun u hu => by obtain rfl := List.mem_singleton.1 hu; exact (HY8).out.later hy) (by simp)
          rw [sameB_yes (by
            show [LB[i].1] = [(y).1]
            rw [(HEQ).out])] at h
          exact h)
        have HTC := Lib.hid (show ∀ wy, Below (w8).heap.size (w8) wy → wy.cell? ⟨T, 0, none⟩ = some (.string (y).1.id) ∧ wy.cell? ⟨T, 1, none⟩ = some (.string (y).1.veh) ∧ wy.cell? ⟨T, 2, none⟩ = some (.slice (y).2.1 (y).1.mem.length (y).2.2.1) ∧ wy.cell? ⟨T, 3, none⟩ = some (.slice (y).2.2.2.1 (y).1.back.length (y).2.2.2.2) from fun wy hy => by
          have hb := (HBX8).out.later hy
          exact ⟨(hb 0 _ rfl).1, (hb 1 _ rfl).1, (hb 2 _ rfl).1, (hb 3 _ rfl).1⟩)
        go_wp2_with fail
        refine wp_flow_j (fun β L' w' => Below (w8).heap.size (w8) w' ∧ (L' 6 = true → ∃ k, β 6 = Value.slice (some ⟨k, 0, none⟩) 1 1 ∧ EH.At w' (some ⟨k, 0, none⟩) [y])) (by kernel_rfl) (by kernel_rfl) ?h17 ?_
        case h17 => exact ⟨(Below.refl _ _).drew, fun e => (by cases e)⟩
        iterate 5 (((with_reducible refine FlowJ.pure (v := ?_) ?_ ?_ ?_ ?_); rotate_left 1; (focus (intro _; rfl)); (focus (intro β L' w' hJ hat; (try dsimp only at hJ); (try dsimp only); simpa only [setL, Nat.reduceEqDiff, if_false] using hJ)); (focus (intro β L' w' hJ hat; (try dsimp only at hJ); skip; go_simp; (try with_reducible rfl); done)); (try simp only [Act.put, List.setIfInBounds_toArray, List.set_cons_zero, List.set_cons_succ, Nat.reduceAdd])))
        ((with_reducible refine FlowJ.pure (v := ?_) ?_ ?_ ?_ ?_); rotate_left 1; (focus (intro _; rfl)); (focus (intro β L' w' hJ hat; (try dsimp only at hJ); (try dsimp only); simpa only [setL, Nat.reduceEqDiff, if_false] using hJ)); (focus (intro β L' w' hJ hat; (try dsimp only at hJ); (obtain ⟨t0, t1, t2, t3⟩ := HTC.out _ hJ.1); go_simp; (try with_reducible rfl); done)); (try simp only [Act.put, List.setIfInBounds_toArray, List.set_cons_zero, List.set_cons_succ, Nat.reduceAdd]))
        ((with_reducible refine FlowJ.ghost ?_ ?_ ?_); (focus (intro _; rfl)); (focus (intro β L' w' hJ hat K' hK; (try dsimp only at hJ); (have un := hat.un; simp only [un] at hJ; go_simp; refine hK.out _ _ ?_; simp only [updG, setL, Nat.reduceEqDiff, if_true, if_false]; exact ⟨hJ.1.trans (((Below.refl _ _).alloc (Nat.le_refl _) _).mono hJ.1.size), fun _ => ⟨_, rfl, El.at_lit' EH w' [y] _ _ rfl⟩⟩))); (try simp only [Act.put, List.setIfInBounds_toArray, List.set_cons_zero, List.set_cons_succ, Nat.reduceAdd]))
        ((with_reducible refine FlowJ.call (v := ?_) ?_ ?_ ?_); rotate_left 1; (focus (intro _; rfl)); (focus (intro β L' w' hJ hat K' hK; (try dsimp only at hJ); ((have p6 := hat.pre 6 (by kernel_rfl)); have un := hat.un; simp only [un, p6] at hJ; go_simp; go_at_call 15; refine Calls.mono (HSM17.out w' (β 6) hJ.1 (hJ.2 trivial)) ?_; rintro e w'' ⟨rfl, hb'⟩; refine hK.out _ ?_; simp only [setL, Nat.reduceEqDiff, if_true, if_false, p6]; exact ⟨hJ.1.trans (hb'.mono hJ.1.size), fun _ => (by obtain ⟨k, e1, e2⟩ := hJ.2 trivial; exact ⟨k, e1, e2.later hb'⟩)⟩))); (try simp only [Act.put, List.setIfInBounds_toArray, List.set_cons_zero, List.set_cons_succ, Nat.reduceAdd]))
        ((with_reducible refine FlowJ.pure (v := ?_) ?_ ?_ ?_ ?_); rotate_left 1; (focus (intro _; rfl)); (focus (intro β L' w' hJ hat; (try dsimp only at hJ); (try dsimp only); simpa only [setL, Nat.reduceEqDiff, if_false] using hJ)); (focus (intro β L' w' hJ hat; (try dsimp only at hJ); skip; go_simp; (try with_reducible rfl); done)); (try simp only [Act.put, List.setIfInBounds_toArray, List.set_cons_zero, List.set_cons_succ, Nat.reduceAdd]))
        refine FlowJ.stop ?_
        dsimp only
        intro β6 w17 hJ
        have HB17 := Lib.hid (HBR.out.trans (((HB8).out.trans (hJ.1.mono (HB8).out.size)).mono HBR.out.size))
        generalize β6 6 = y66
        clear hJ
        go_wp2_with fail
        go_roundg (m - i)
        case measure => omega
        case rel => exact ⟨i + 1, by omega, by omega, by go_num, HB17.out⟩)
          · have H7 := Lib.hid (show x.target = y.1.id from of_decide_eq_true (str_eq.symm.trans e7))
            cases e8 : decide (x.author ∈ y.1.mem)
            · rw [e8] at HC1
              have HEQ := Lib.hid (show LB[i].1 = y.1 from by
                rw [HGB.out]
                refine (if_pos H6.out).trans (if_neg ?_)
                rintro ⟨_, h1, _⟩
                exact (of_decide_eq_false e8) h1)
              clear e8
              go_wp2_with fail
              refine Calls.mono HC1.out ?_
              rintro e w9 ⟨rfl, rfl⟩
              clear HC1 HC2 t0 t2 t3
              (
        have HSM17 := Lib.hid (show ∀ wy v, Below (w8).heap.size (w8) wy → (∃ k, v = Value.slice (some ⟨k, 0, none⟩) 1 1 ∧ EH.At wy (some ⟨k, 0, none⟩) [y]) → Calls Try.prog 15 #[.slice (some ⟨bb, bo + i * 4, none⟩) 1 (cB - i), v] wy (RetB (.bool true) wy) from fun wy v hy ⟨k, hv, hat⟩ => by
          rw [hv]
          have h := same_any [LB[i]] [y] _ _ (cB - i) 1 wy (HSB.out.later ((HB8).out.trans (hy.mono (HB8).out.size))) hat (fun u hu => by obtain rfl := List.mem_singleton.1 hu; exact (HBall.out _ (List.getElem_mem hiB)).later (HBR.out.trans (((HB8).out.trans (hy.mono (HB8).out.size)).mono HBR.out.size))) (fun u hu => by obtain rfl := List.mem_singleton.1 hu; exact (HY8).out.later hy) (by simp)
          rw [sameB_yes (by
            show [LB[i].1] = [(y).1]
            rw [(HEQ).out])] at h
          exact h)
        have HTC := Lib.hid (show ∀ wy, Below (w8).heap.size (w8) wy → wy.cell? ⟨T, 0, none⟩ = some (.string (y).1.id) ∧ wy.cell? ⟨T, 1, none⟩ = some (.string (y).1.veh) ∧ wy.cell? ⟨T, 2, none⟩ = some (.slice (y).2.1 (y).1.mem.length (y).2.2.1) ∧ wy.cell? ⟨T, 3, none⟩ = some (.slice (y).2.2.2.1 (y).1.back.length (y).2.2.2.2) from fun wy hy => by
          have hb := (HBX8).out.later hy
          exact ⟨(hb 0 _ rfl).1, (hb 1 _ rfl).1, (hb 2 _ rfl).1, (hb 3 _ rfl).1⟩)
        go_wp2_with fail
        refine wp_flow_j (fun β L' w' => Below (w8).heap.size (w8) w' ∧ (L' 6 = true → ∃ k, β 6 = Value.slice (some ⟨k, 0, none⟩) 1 1 ∧ EH.At w' (some ⟨k, 0, none⟩) [y])) (by kernel_rfl) (by kernel_rfl) ?h17 ?_
        case h17 => exact ⟨(Below.refl _ _).drew, fun e => (by cases e)⟩
        iterate 5 (((with_reducible refine FlowJ.pure (v := ?_) ?_ ?_ ?_ ?_); rotate_left 1; (focus (intro _; rfl)); (focus (intro β L' w' hJ hat; (try dsimp only at hJ); (try dsimp only); simpa only [setL, Nat.reduceEqDiff, if_false] using hJ)); (focus (intro β L' w' hJ hat; (try dsimp only at hJ); skip; go_simp; (try with_reducible rfl); done)); (try simp only [Act.put, List.setIfInBounds_toArray, List.set_cons_zero, List.set_cons_succ, Nat.reduceAdd])))
        ((with_reducible refine FlowJ.pure (v := ?_) ?_ ?_ ?_ ?_); rotate_left 1; (focus (intro _; rfl)); (focus (intro β L' w' hJ hat; (try dsimp only at hJ); (try dsimp only); simpa only [setL, Nat.reduceEqDiff, if_false] using hJ)); (focus (intro β L' w' hJ hat; (try dsimp only at hJ); (obtain ⟨t0, t1, t2, t3⟩ := HTC.out _ hJ.1); go_simp; (try with_reducible rfl); done)); (try simp only [Act.put, List.setIfInBounds_toArray, List.set_cons_zero, List.set_cons_succ, Nat.reduceAdd]))
        ((with_reducible refine FlowJ.ghost ?_ ?_ ?_); (focus (intro _; rfl)); (focus (intro β L' w' hJ hat K' hK; (try dsimp only at hJ); (have un := hat.un; simp only [un] at hJ; go_simp; refine hK.out _ _ ?_; simp only [updG, setL, Nat.reduceEqDiff, if_true, if_false]; exact ⟨hJ.1.trans (((Below.refl _ _).alloc (Nat.le_refl _) _).mono hJ.1.size), fun _ => ⟨_, rfl, El.at_lit' EH w' [y] _ _ rfl⟩⟩))); (try simp only [Act.put, List.setIfInBounds_toArray, List.set_cons_zero, List.set_cons_succ, Nat.reduceAdd]))
        ((with_reducible refine FlowJ.call (v := ?_) ?_ ?_ ?_); rotate_left 1; (focus (intro _; rfl)); (focus (intro β L' w' hJ hat K' hK; (try dsimp only at hJ); ((have p6 := hat.pre 6 (by kernel_rfl)); have un := hat.un; simp only [un, p6] at hJ; go_simp; go_at_call 15; refine Calls.mono (HSM17.out w' (β 6) hJ.1 (hJ.2 trivial)) ?_; rintro e w'' ⟨rfl, hb'⟩; refine hK.out _ ?_; simp only [setL, Nat.reduceEqDiff, if_true, if_false, p6]; exact ⟨hJ.1.trans (hb'.mono hJ.1.size), fun _ => (by obtain ⟨k, e1, e2⟩ := hJ.2 trivial; exact ⟨k, e1, e2.later hb'⟩)⟩))); (try simp only [Act.put, List.setIfInBounds_toArray, List.set_cons_zero, List.set_cons_succ, Nat.reduceAdd]))
        ((with_reducible refine FlowJ.pure (v := ?_) ?_ ?_ ?_ ?_); rotate_left 1; (focus (intro _; rfl)); (focus (intro β L' w' hJ hat; (try dsimp only at hJ); (try dsimp only); simpa only [setL, Nat.reduceEqDiff, if_false] using hJ)); (focus (intro β L' w' hJ hat; (try dsimp only at hJ); skip; go_simp; (try with_reducible rfl); done)); (try simp only [Act.put, List.setIfInBounds_toArray, List.set_cons_zero, List.set_cons_succ, Nat.reduceAdd]))
        refine FlowJ.stop ?_
        dsimp only
        intro β6 w17 hJ
        have HB17 := Lib.hid (HBR.out.trans (((HB8).out.trans (hJ.1.mono (HB8).out.size)).mono HBR.out.size))
        generalize β6 6 = y66
        clear hJ
        go_wp2_with fail
        go_roundg (m - i)
        case measure => omega
        case rel => exact ⟨i + 1, by omega, by omega, by go_num, HB17.out⟩)
            · rw [e8] at HC1
              have H8 := Lib.hid (of_decide_eq_true e8)
              clear e8
              cases e9 : decide (x.author ∈ y.1.back)
              · rw [e9] at HC2
                have H9 := Lib.hid (of_decide_eq_false e9)
                clear e9
                go_wp2_with fail
                refine Calls.mono HC1.out ?_
                rintro e w9 ⟨rfl, rfl⟩
                go_wp2_with fail
                refine Calls.mono HC2.out ?_
                rintro e w9 ⟨rfl, rfl⟩
                have hTn : T < w8.heap.size := HTY8.out.lt
                have hXT : ¬ X = T := by have := HTR.out; have := HBL.out.size; omega
                have HST := Lib.hid (RbJ.start (n := x.author) (l := y.1.back) (b0 := undef) (b3 := undef) (b9 := undef) (b10 := undef) (HBX8.out 3 _ rfl).1 (HBX8.out 3 _ rfl).2)
                have HX1 := Lib.hid x1
                have hbl := HY8.out.bl
                have HBBL := Lib.hid (show ∀ w', Chg (fun k => k = T) w8 w' → EI.At w' y.2.2.2.1 y.1.back from fun w' hc => (HY.out.b.later (HB8.out.trans (hc.below HB8.out.size fun k hk => by have := HTR.out; omega))).el)
                have hbk : y.1.back.length + 1 ≤ 100000 := by have := HYB.out; omega
                clear HC1 HC2 t0 t2 t3
                go_wp2_with fail
                refine wp_flow_j (fun β L' w' => RbJ w8 T x.author (.slice y.2.2.2.1 y.1.back.length y.2.2.2.2) y.1.back (β 0) (β 3) (β 6) (β 7) (L' 0) (L' 3) (L' 6) (L' 7) (L' 9) w') (by kernel_rfl) (by kernel_rfl) ?h2 ?_
                case h2 => exact HST.out
                ((with_reducible refine FlowJ.ghost ?_ ?_ ?_); (focus (intro _; rfl)); (focus (intro β L' w' hJ hat K' hK; (try dsimp only at hJ); ((have n3 := hat.not (j := 3) (by kernel_rfl)); (have n7 := hat.not (j := 7) (by kernel_rfl)); have un := hat.un; simp only [un, n3, n7] at hJ; go_simp; refine hK.out _ _ ?_; simp only [updG, setL, Nat.reduceEqDiff, if_true, if_false, n3, n7]; exact hJ.nil))); (try simp only [Act.put, List.setIfInBounds_toArray, List.set_cons_zero, List.set_cons_succ, Nat.reduceAdd]))
                ((with_reducible refine FlowJ.pure (v := ?_) ?_ ?_ ?_ ?_); rotate_left 1; (focus (intro _; rfl)); (focus (intro β L' w' hJ hat; (try dsimp only at hJ); (try dsimp only); simpa only [setL, Nat.reduceEqDiff, if_false] using hJ)); (focus (intro β L' w' hJ hat; (try dsimp only at hJ); skip; go_simp; (try with_reducible rfl); done)); (try simp only [Act.put, List.setIfInBounds_toArray, List.set_cons_zero, List.set_cons_succ, Nat.reduceAdd]))
                ((with_reducible refine FlowJ.pure (v := ?_) ?_ ?_ ?_ ?_); rotate_left 1; (focus (intro _; rfl)); (focus (intro β L' w' hJ hat; (try dsimp only at hJ); (try dsimp only); simpa only [setL, Nat.reduceEqDiff, if_false] using hJ)); (focus (intro β L' w' hJ hat; (try dsimp only at hJ); ((have n9 := hat.not (j := 9) (by kernel_rfl)); have yc := hJ.cell; simp only [n9, Bool.false_eq_true, if_false] at yc); go_simp; (try with_reducible rfl); done)); (try simp only [Act.put, List.setIfInBounds_toArray, List.set_cons_zero, List.set_cons_succ, Nat.reduceAdd]))
                ((with_reducible refine FlowJ.ghost ?_ ?_ ?_); (focus (intro _; rfl)); (focus (intro β L' w' hJ hat K' hK; (try dsimp only at hJ); ((have p0 := hat.pre 0 (by kernel_rfl)); (have n7 := hat.not (j := 7) (by kernel_rfl)); have un := hat.un; simp only [un, p0, n7] at hJ; obtain ⟨v', w2, hr, ho, hg, hn⟩ := El.app (E := EI) w' w8.heap.size (β 0) [] y.1.back (hJ.e0 rfl rfl) y.2.2.2.1 y.2.2.2.2 (HBBL.out w' hJ.chg) (by simp; omega) hJ.chg.size 29; refine wp_app_eq (.tmp 113) (.tmp 115) 29 rfl _ _ rfl rfl hr ?_; refine hK.out _ _ ?_; simp only [updG, setL, Nat.reduceEqDiff, if_true, if_false, p0, n7]; exact hJ.app1 hTn (by simpa using ho) hg hn))); (try simp only [Act.put, List.setIfInBounds_toArray, List.set_cons_zero, List.set_cons_succ, Nat.reduceAdd]))
                ((with_reducible refine FlowJ.pure (v := ?_) ?_ ?_ ?_ ?_); rotate_left 1; (focus (intro _; rfl)); (focus (intro β L' w' hJ hat; (try dsimp only at hJ); (try dsimp only); simpa only [setL, Nat.reduceEqDiff, if_false] using hJ)); (focus (intro β L' w' hJ hat; (try dsimp only at hJ); skip; go_simp; (try with_reducible rfl); done)); (try simp only [Act.put, List.setIfInBounds_toArray, List.set_cons_zero, List.set_cons_succ, Nat.reduceAdd]))
                ((with_reducible refine FlowJ.pure (v := ?_) ?_ ?_ ?_ ?_); rotate_left 1; (focus (intro _; rfl)); (focus (intro β L' w' hJ hat; (try dsimp only at hJ); (try dsimp only); simpa only [setL, Nat.reduceEqDiff, if_false] using hJ)); (focus (intro β L' w' hJ hat; (try dsimp only at hJ); (have y1 := hJ.chg.cell HX1.out hXT); go_simp; (try with_reducible rfl); done)); (try simp only [Act.put, List.setIfInBounds_toArray, List.set_cons_zero, List.set_cons_succ, Nat.reduceAdd]))
                ((with_reducible refine FlowJ.ghost ?_ ?_ ?_); (focus (intro _; rfl)); (focus (intro β L' w' hJ hat K' hK; (try dsimp only at hJ); ((have n7 := hat.not (j := 7) (by kernel_rfl)); have un := hat.un; simp only [un, n7] at hJ; go_simp; refine hK.out _ _ ?_; simp only [updG, setL, Nat.reduceEqDiff, if_true, if_false, n7]; exact hJ.one))); (try simp only [Act.put, List.setIfInBounds_toArray, List.set_cons_zero, List.set_cons_succ, Nat.reduceAdd]))
                ((with_reducible refine FlowJ.ghost ?_ ?_ ?_); (focus (intro _; rfl)); (focus (intro β L' w' hJ hat K' hK; (try dsimp only at hJ); ((have p3 := hat.pre 3 (by kernel_rfl)); (have p6 := hat.pre 6 (by kernel_rfl)); have p0 := hat.down 3 0 p3 (by decide) (by kernel_rfl); (have n9 := hat.not (j := 9) (by kernel_rfl)); have un := hat.un; simp only [un, p0, p3, p6, n9] at hJ; obtain ⟨nb, eb, _, _, hbx, _⟩ := hJ.bx rfl rfl; obtain ⟨v', w2, hr, ho, hg, hn⟩ := El.app (E := EI) w' w8.heap.size (β 3) y.1.back [x.author] (hJ.e3 rfl rfl) (some ⟨nb, 0, none⟩) 1 (El.one_at hbx) (by simp; omega) hJ.chg.size 29; refine wp_app_eq (.tmp 116) (.tmp 119) 29 rfl _ _ rfl (by show β 6 = _; exact eb) hr ?_; refine hK.out _ _ ?_; simp only [updG, setL, Nat.reduceEqDiff, if_true, if_false, p0, p3, p6, n9]; exact hJ.app2 hTn ho hg))); (try simp only [Act.put, List.setIfInBounds_toArray, List.set_cons_zero, List.set_cons_succ, Nat.reduceAdd]))
                ((with_reducible refine FlowJ.pure (v := ?_) ?_ ?_ ?_ ?_); rotate_left 1; (focus (intro _; rfl)); (focus (intro β L' w' hJ hat; (try dsimp only at hJ); (try dsimp only); simpa only [setL, Nat.reduceEqDiff, if_false] using hJ)); (focus (intro β L' w' hJ hat; (try dsimp only at hJ); skip; go_simp; (try with_reducible rfl); done)); (try simp only [Act.put, List.setIfInBounds_toArray, List.set_cons_zero, List.set_cons_succ, Nat.reduceAdd]))
                ((with_reducible refine FlowJ.eff ?_ ?_ ?_); (focus (intro _; rfl)); (focus (intro β L' w' hJ hat K' hK; (try dsimp only at hJ); ((have p7 := hat.pre 7 (by kernel_rfl)); have p6 := hat.down 7 6 p7 (by decide) (by kernel_rfl); have p3 := hat.down 7 3 p7 (by decide) (by kernel_rfl); have p0 := hat.down 3 0 p3 (by decide) (by kernel_rfl); have un := hat.un; simp only [un, p0, p3, p6, p7] at hJ; have yc := hJ.cell; have yf := hJ.fro; simp only [Bool.false_eq_true, if_false] at yc; obtain ⟨oa, na, ca, e5⟩ := (hJ.e10 rfl).shape; go_simp; rw [← e5]; refine hK.out _ ?_; simp only [setL, Nat.reduceEqDiff, if_true, if_false, p0, p3, p6, p7]; exact hJ.stored hTn))); (try simp only [Act.put, Nat.reduceAdd]))
                refine FlowJ.stop ?_
                dsimp only
                intro β2 w9 hJ
                have hcell := hJ.cell
                simp only [if_true] at hcell
                obtain ⟨ba', bc', e10, _, hc2', hat', _⟩ := (hJ.e10 rfl).at
                rw [e10] at hcell
                obtain ⟨u, hu⟩ : ∃ u : HA, u = (⟨y.1.id, y.1.veh, y.1.mem, y.1.back ++ [x.author]⟩, (y.2.1, y.2.2.1, ba', bc')) := ⟨_, rfl⟩
                have hb9 : Below wr.heap.size wr w9 := HB8.out.trans (hJ.chg.below HB8.out.size fun k hk => by have := HTR.out; omega)
                have HB9 := Lib.hid hb9
                have HBX9 := Lib.hid (show BoxAt w9 T (haC u) from fun o v ho => by
                  rw [hu] at ho
                  match o, ho with
                  | 0, ho => exact ⟨(hJ.rest 0 (by decide)).1.trans (HBX8.out 0 v ho).1, (hJ.rest 0 (by decide)).2.trans (HBX8.out 0 v ho).2⟩
                  | 1, ho => exact ⟨(hJ.rest 1 (by decide)).1.trans (HBX8.out 1 v ho).1, (hJ.rest 1 (by decide)).2.trans (HBX8.out 1 v ho).2⟩
                  | 2, ho => exact ⟨(hJ.rest 2 (by decide)).1.trans (HBX8.out 2 v ho).1, (hJ.rest 2 (by decide)).2.trans (HBX8.out 2 v ho).2⟩
                  | 3, ho => cases ho; exact ⟨hcell, hJ.fro⟩
                  | k + 4, ho => simp at ho)
                have HY9 := Lib.hid (show HdAt w9 u.1 u.2.1 u.2.2.2.1 from by
                  rw [hu]
                  exact ⟨HY.out.m.later hb9, hat'.ints, HY.out.ml, by unfold maxLen at hc2'; simp only [List.length_append, List.length_singleton]; omega⟩)
                have HEQ9 := Lib.hid (show LB[i].1 = u.1 from by
                  rw [HGB.out, hu]
                  exact (if_pos H6.out).trans (if_pos ⟨H7.out.symm, H8.out, H9.out⟩))
                generalize β2 0 = z0
                generalize β2 3 = z3
                generalize β2 6 = z6
                generalize β2 7 = z7
                clear hJ hcell e10 hc2' hat' hu hb9
                (
        have HSM17 := Lib.hid (show ∀ wy v, Below (w9).heap.size (w9) wy → (∃ k, v = Value.slice (some ⟨k, 0, none⟩) 1 1 ∧ EH.At wy (some ⟨k, 0, none⟩) [u]) → Calls Try.prog 15 #[.slice (some ⟨bb, bo + i * 4, none⟩) 1 (cB - i), v] wy (RetB (.bool true) wy) from fun wy v hy ⟨k, hv, hat⟩ => by
          rw [hv]
          have h := same_any [LB[i]] [u] _ _ (cB - i) 1 wy (HSB.out.later ((HB9).out.trans (hy.mono (HB9).out.size))) hat (fun u hu => by obtain rfl := List.mem_singleton.1 hu; exact (HBall.out _ (List.getElem_mem hiB)).later (HBR.out.trans (((HB9).out.trans (hy.mono (HB9).out.size)).mono HBR.out.size))) (fun u hu => by obtain rfl := List.mem_singleton.1 hu; exact (HY9).out.later hy) (by simp)
          rw [sameB_yes (by
            show [LB[i].1] = [(u).1]
            rw [(HEQ9).out])] at h
          exact h)
        have HTC := Lib.hid (show ∀ wy, Below (w9).heap.size (w9) wy → wy.cell? ⟨T, 0, none⟩ = some (.string (u).1.id) ∧ wy.cell? ⟨T, 1, none⟩ = some (.string (u).1.veh) ∧ wy.cell? ⟨T, 2, none⟩ = some (.slice (u).2.1 (u).1.mem.length (u).2.2.1) ∧ wy.cell? ⟨T, 3, none⟩ = some (.slice (u).2.2.2.1 (u).1.back.length (u).2.2.2.2) from fun wy hy => by
          have hb := (HBX9).out.later hy
          exact ⟨(hb 0 _ rfl).1, (hb 1 _ rfl).1, (hb 2 _ rfl).1, (hb 3 _ rfl).1⟩)
        go_wp2_with fail
        refine wp_flow_j (fun β L' w' => Below (w9).heap.size (w9) w' ∧ (L' 6 = true → ∃ k, β 6 = Value.slice (some ⟨k, 0, none⟩) 1 1 ∧ EH.At w' (some ⟨k, 0, none⟩) [u])) (by kernel_rfl) (by kernel_rfl) ?h17 ?_
        case h17 => exact ⟨(Below.refl _ _).drew, fun e => (by cases e)⟩
        iterate 5 (((with_reducible refine FlowJ.pure (v := ?_) ?_ ?_ ?_ ?_); rotate_left 1; (focus (intro _; rfl)); (focus (intro β L' w' hJ hat; (try dsimp only at hJ); (try dsimp only); simpa only [setL, Nat.reduceEqDiff, if_false] using hJ)); (focus (intro β L' w' hJ hat; (try dsimp only at hJ); skip; go_simp; (try with_reducible rfl); done)); (try simp only [Act.put, List.setIfInBounds_toArray, List.set_cons_zero, List.set_cons_succ, Nat.reduceAdd])))
        ((with_reducible refine FlowJ.pure (v := ?_) ?_ ?_ ?_ ?_); rotate_left 1; (focus (intro _; rfl)); (focus (intro β L' w' hJ hat; (try dsimp only at hJ); (try dsimp only); simpa only [setL, Nat.reduceEqDiff, if_false] using hJ)); (focus (intro β L' w' hJ hat; (try dsimp only at hJ); (obtain ⟨t0, t1, t2, t3⟩ := HTC.out _ hJ.1); go_simp; (try with_reducible rfl); done)); (try simp only [Act.put, List.setIfInBounds_toArray, List.set_cons_zero, List.set_cons_succ, Nat.reduceAdd]))
        ((with_reducible refine FlowJ.ghost ?_ ?_ ?_); (focus (intro _; rfl)); (focus (intro β L' w' hJ hat K' hK; (try dsimp only at hJ); (have un := hat.un; simp only [un] at hJ; go_simp; refine hK.out _ _ ?_; simp only [updG, setL, Nat.reduceEqDiff, if_true, if_false]; exact ⟨hJ.1.trans (((Below.refl _ _).alloc (Nat.le_refl _) _).mono hJ.1.size), fun _ => ⟨_, rfl, El.at_lit' EH w' [u] _ _ rfl⟩⟩))); (try simp only [Act.put, List.setIfInBounds_toArray, List.set_cons_zero, List.set_cons_succ, Nat.reduceAdd]))
        ((with_reducible refine FlowJ.call (v := ?_) ?_ ?_ ?_); rotate_left 1; (focus (intro _; rfl)); (focus (intro β L' w' hJ hat K' hK; (try dsimp only at hJ); ((have p6 := hat.pre 6 (by kernel_rfl)); have un := hat.un; simp only [un, p6] at hJ; go_simp; go_at_call 15; refine Calls.mono (HSM17.out w' (β 6) hJ.1 (hJ.2 trivial)) ?_; rintro e w'' ⟨rfl, hb'⟩; refine hK.out _ ?_; simp only [setL, Nat.reduceEqDiff, if_true, if_false, p6]; exact ⟨hJ.1.trans (hb'.mono hJ.1.size), fun _ => (by obtain ⟨k, e1, e2⟩ := hJ.2 trivial; exact ⟨k, e1, e2.later hb'⟩)⟩))); (try simp only [Act.put, List.setIfInBounds_toArray, List.set_cons_zero, List.set_cons_succ, Nat.reduceAdd]))
        ((with_reducible refine FlowJ.pure (v := ?_) ?_ ?_ ?_ ?_); rotate_left 1; (focus (intro _; rfl)); (focus (intro β L' w' hJ hat; (try dsimp only at hJ); (try dsimp only); simpa only [setL, Nat.reduceEqDiff, if_false] using hJ)); (focus (intro β L' w' hJ hat; (try dsimp only at hJ); skip; go_simp; (try with_reducible rfl); done)); (try simp only [Act.put, List.setIfInBounds_toArray, List.set_cons_zero, List.set_cons_succ, Nat.reduceAdd]))
        refine FlowJ.stop ?_
        dsimp only
        intro β6 w17 hJ
        have HB17 := Lib.hid (HBR.out.trans (((HB9).out.trans (hJ.1.mono (HB9).out.size)).mono HBR.out.size))
        generalize β6 6 = y66
        clear hJ
        go_wp2_with fail
        go_roundg (m - i)
        case measure => omega
        case rel => exact ⟨i + 1, by omega, by omega, by go_num, HB17.out⟩)
              · rw [e9] at HC2
                have HEQ := Lib.hid (show LB[i].1 = y.1 from by
                  rw [HGB.out]
                  refine (if_pos H6.out).trans (if_neg ?_)
                  rintro ⟨_, _, h1⟩
                  exact h1 (of_decide_eq_true e9))
                clear e9
                go_wp2_with fail
                refine Calls.mono HC1.out ?_
                rintro e w9 ⟨rfl, rfl⟩
                go_wp2_with fail
                refine Calls.mono HC2.out ?_
                rintro e w9 ⟨rfl, rfl⟩
                clear HC1 HC2 t0 t2 t3
                (
        have HSM17 := Lib.hid (show ∀ wy v, Below (w8).heap.size (w8) wy → (∃ k, v = Value.slice (some ⟨k, 0, none⟩) 1 1 ∧ EH.At wy (some ⟨k, 0, none⟩) [y]) → Calls Try.prog 15 #[.slice (some ⟨bb, bo + i * 4, none⟩) 1 (cB - i), v] wy (RetB (.bool true) wy) from fun wy v hy ⟨k, hv, hat⟩ => by
          rw [hv]
          have h := same_any [LB[i]] [y] _ _ (cB - i) 1 wy (HSB.out.later ((HB8).out.trans (hy.mono (HB8).out.size))) hat (fun u hu => by obtain rfl := List.mem_singleton.1 hu; exact (HBall.out _ (List.getElem_mem hiB)).later (HBR.out.trans (((HB8).out.trans (hy.mono (HB8).out.size)).mono HBR.out.size))) (fun u hu => by obtain rfl := List.mem_singleton.1 hu; exact (HY8).out.later hy) (by simp)
          rw [sameB_yes (by
            show [LB[i].1] = [(y).1]
            rw [(HEQ).out])] at h
          exact h)
        have HTC := Lib.hid (show ∀ wy, Below (w8).heap.size (w8) wy → wy.cell? ⟨T, 0, none⟩ = some (.string (y).1.id) ∧ wy.cell? ⟨T, 1, none⟩ = some (.string (y).1.veh) ∧ wy.cell? ⟨T, 2, none⟩ = some (.slice (y).2.1 (y).1.mem.length (y).2.2.1) ∧ wy.cell? ⟨T, 3, none⟩ = some (.slice (y).2.2.2.1 (y).1.back.length (y).2.2.2.2) from fun wy hy => by
          have hb := (HBX8).out.later hy
          exact ⟨(hb 0 _ rfl).1, (hb 1 _ rfl).1, (hb 2 _ rfl).1, (hb 3 _ rfl).1⟩)
        go_wp2_with fail
        refine wp_flow_j (fun β L' w' => Below (w8).heap.size (w8) w' ∧ (L' 6 = true → ∃ k, β 6 = Value.slice (some ⟨k, 0, none⟩) 1 1 ∧ EH.At w' (some ⟨k, 0, none⟩) [y])) (by kernel_rfl) (by kernel_rfl) ?h17 ?_
        case h17 => exact ⟨(Below.refl _ _).drew, fun e => (by cases e)⟩
        iterate 5 (((with_reducible refine FlowJ.pure (v := ?_) ?_ ?_ ?_ ?_); rotate_left 1; (focus (intro _; rfl)); (focus (intro β L' w' hJ hat; (try dsimp only at hJ); (try dsimp only); simpa only [setL, Nat.reduceEqDiff, if_false] using hJ)); (focus (intro β L' w' hJ hat; (try dsimp only at hJ); skip; go_simp; (try with_reducible rfl); done)); (try simp only [Act.put, List.setIfInBounds_toArray, List.set_cons_zero, List.set_cons_succ, Nat.reduceAdd])))
        ((with_reducible refine FlowJ.pure (v := ?_) ?_ ?_ ?_ ?_); rotate_left 1; (focus (intro _; rfl)); (focus (intro β L' w' hJ hat; (try dsimp only at hJ); (try dsimp only); simpa only [setL, Nat.reduceEqDiff, if_false] using hJ)); (focus (intro β L' w' hJ hat; (try dsimp only at hJ); (obtain ⟨t0, t1, t2, t3⟩ := HTC.out _ hJ.1); go_simp; (try with_reducible rfl); done)); (try simp only [Act.put, List.setIfInBounds_toArray, List.set_cons_zero, List.set_cons_succ, Nat.reduceAdd]))
        ((with_reducible refine FlowJ.ghost ?_ ?_ ?_); (focus (intro _; rfl)); (focus (intro β L' w' hJ hat K' hK; (try dsimp only at hJ); (have un := hat.un; simp only [un] at hJ; go_simp; refine hK.out _ _ ?_; simp only [updG, setL, Nat.reduceEqDiff, if_true, if_false]; exact ⟨hJ.1.trans (((Below.refl _ _).alloc (Nat.le_refl _) _).mono hJ.1.size), fun _ => ⟨_, rfl, El.at_lit' EH w' [y] _ _ rfl⟩⟩))); (try simp only [Act.put, List.setIfInBounds_toArray, List.set_cons_zero, List.set_cons_succ, Nat.reduceAdd]))
        ((with_reducible refine FlowJ.call (v := ?_) ?_ ?_ ?_); rotate_left 1; (focus (intro _; rfl)); (focus (intro β L' w' hJ hat K' hK; (try dsimp only at hJ); ((have p6 := hat.pre 6 (by kernel_rfl)); have un := hat.un; simp only [un, p6] at hJ; go_simp; go_at_call 15; refine Calls.mono (HSM17.out w' (β 6) hJ.1 (hJ.2 trivial)) ?_; rintro e w'' ⟨rfl, hb'⟩; refine hK.out _ ?_; simp only [setL, Nat.reduceEqDiff, if_true, if_false, p6]; exact ⟨hJ.1.trans (hb'.mono hJ.1.size), fun _ => (by obtain ⟨k, e1, e2⟩ := hJ.2 trivial; exact ⟨k, e1, e2.later hb'⟩)⟩))); (try simp only [Act.put, List.setIfInBounds_toArray, List.set_cons_zero, List.set_cons_succ, Nat.reduceAdd]))
        ((with_reducible refine FlowJ.pure (v := ?_) ?_ ?_ ?_ ?_); rotate_left 1; (focus (intro _; rfl)); (focus (intro β L' w' hJ hat; (try dsimp only at hJ); (try dsimp only); simpa only [setL, Nat.reduceEqDiff, if_false] using hJ)); (focus (intro β L' w' hJ hat; (try dsimp only at hJ); skip; go_simp; (try with_reducible rfl); done)); (try simp only [Act.put, List.setIfInBounds_toArray, List.set_cons_zero, List.set_cons_succ, Nat.reduceAdd]))
        refine FlowJ.stop ?_
        dsimp only
        intro β6 w17 hJ
        have HB17 := Lib.hid (HBR.out.trans (((HB8).out.trans (hJ.1.mono (HB8).out.size)).mono HBR.out.size))
        generalize β6 6 = y66
        clear hJ
        go_wp2_with fail
        go_roundg (m - i)
        case measure => omega
        case rel => exact ⟨i + 1, by omega, by omega, by go_num, HB17.out⟩)
      · obtain rfl : i = m := by omega
        have HBW := Lib.hid (HBWL.out.trans (hbr.mono HBWL.out.size))
        clear hbr
        go_wp2_with fail
        go_ret
        exact retB rfl HBW.out
end HoldBacks
namespace HoldBacks
set_option maxRecDepth 100000 in
theorem entry (H : Type) (enc : TypeId × Value → H) (W : World) (base : Nat) (args : Array Value) (ds : List (DataW H)) (p : List MemPlace)
    (hval : ∀ (j : Nat) t v, Try.f4.params[j]? = some t → args[j]? = some v → Value.okWide Try.prog W .any base t v)
    (hA : DataW.TrodAll enc Try.prog W 0 (fun _ => true) true Try.f4.params.toList args.toList ds p) (hsz : (DataW.weightsEach Try.prog Try.f4.params.toList ds).all (· ≤ reachBytes) = true) :
    Calls Try.prog 4 args W (RetB (.bool true) W) := by
  rw [Try.params4] at hA hval hsz
  obtain ⟨v0, vs0, d0, ds0, p0, q0, hargs, rfl, rfl, h0, r0⟩ := trodAll_cons hA
  obtain ⟨v1, vs1, d1, ds1, p1, q1, rfl, rfl, rfl, h1, r1⟩ := trodAll_cons r0
  obtain ⟨v2, vs2, d2, ds2, p2, q2, rfl, rfl, rfl, h2, r2⟩ := trodAll_cons r1
  obtain ⟨v3, vs3, d3, ds3, p3, q3, rfl, rfl, rfl, h3, r3⟩ := trodAll_cons r2
  obtain ⟨rfl, rfl, rfl⟩ := trodAll_nil r3
  obtain rfl : args = #[v0, v1, v2, v3] := by cases args; simp_all
  obtain ⟨ia, ic, i, rfl, iV⟩ := open_strs (hval 0 22 v0 rfl rfl) h0
  obtain ⟨ra, rc, r, rfl, rR, rA⟩ := open_recs (hval 1 23 v1 rfl rfl) h1
  obtain ⟨x, rfl, xF, xI⟩ := open_rec (hval 2 54 v2 rfl rfl) h2
  obtain ⟨s, rfl, rfl, rfl, _⟩ := Go.ChangeMaps.open_string Try.underlying9 (hval 3 9 v3 rfl rfl) h3
  exact all i r x s ia ra ic rc W iV rR rA xF xI (slice_sized hsz (j := 0) rfl rfl Try.underlying22 h0 16 (by kernel_rfl)) (slice_sized hsz (j := 1) rfl rfl Try.underlying23 h1 480 (by kernel_rfl))
end HoldBacks
/-! The step from the walk to the row of HoldBacks, with the reach of what came in. -/
namespace HoldBacks
set_option maxRecDepth 100000 in
theorem lifted (os : Os) (started : os.Started) (H : Type) (enc : TypeId × Value → H) :
    ReturnsInHanded {} Try.checked os 4 .any (Rows.holdBacksSpec.pre6 enc Try.prog Try.f4 Rows.holdBacksRow.domain false) (Rows.holdBacksSpec.post enc Try.prog Try.f4 false true false false) := by
  refine returnsInHanded_of_change_sized (C := Try.checked) own started (by kernel_rfl) Try.func4
    (ChangeSpec.witness6 (enc := enc) (C := Try.checked) false ⟨#[], #[.slice none 0 0, .slice none 0 0, .agg #[.int .i64 0, .int .i64 0, .int .i64 0, .string ⟨#[]⟩, .int .i64 0, .string ⟨#[]⟩, .string ⟨#[]⟩, .string ⟨#[]⟩, .slice none 0 0, .slice none 0 0, .bool false, .int .i64 0, .int .i64 0, .int .i64 0, .bool false, .string ⟨#[]⟩, .string ⟨#[]⟩, .int .i64 0, .string ⟨#[]⟩, .string ⟨#[]⟩, .int .i64 0, .int .i64 0, .slice none 0 0, .string ⟨#[]⟩, .string ⟨#[]⟩, .int .i64 0, .string ⟨#[]⟩, .string ⟨#[]⟩, .int .i64 0, .int .i64 0, .string ⟨#[]⟩, .string ⟨#[]⟩, .int .i64 0, .int .i64 0, .slice none 0 0, .slice none 0 0], .string ByteArray.empty], []⟩ 8 (by kernel_rfl) (by kernel_rfl) (by kernel_rfl) (by kernel_rfl)) ?_
  intro W base args ds gs before hval0 hW hcnd hsz0 _
  have hval : ∀ (j : Nat) t v, Try.f4.params[j]? = some t → args[j]? = some v → Value.okWide Try.prog W .any base t v := hval0
  have hW' := hW
  obtain ⟨p, q, hA0, hV, rfl, hfz, hnd⟩ := hW
  have hA : DataW.TrodAll enc Try.prog W 0 (fun _ => true) true Try.f4.params.toList args.toList ds p := hA0
  obtain ⟨rfl, rfl⟩ := trodVars_none hV
  have hsz : (DataW.weightsEach Try.prog Try.f4.params.toList ds).all (· ≤ reachBytes) = true := by
    have h : (DataW.weightsEach Try.prog (Try.f4.params.toList ++ []) (ds ++ [])).all (· ≤ reachBytes) = true := hsz0
    rw [List.append_nil, List.append_nil] at h
    exact h
  have hlen := trodAll_len _ _ _ _ hA
  obtain ⟨d0, d1, d2, d3, rfl⟩ : ∃ d0 d1 d2 d3, ds = [d0, d1, d2, d3] := by
    rw [Try.params4] at hlen
    exact list4 hlen
  refine (entry H enc W base args [d0, d1, d2, d3] p hval hA hsz).mono fun e W' ⟨he, bel⟩ => ?_
  subst he
  exact ⟨_, rfl, _, _, _, [], _, [], hW', trodAll_mk1 (shut_bool Try.underlying4 _), readback laidOut _ _ _ _ (by rw [Try.params4]; exact of_decide_eq_true (by kernel_rfl)) hA bel, rfl, bel.frame _, fun h => by cases h⟩

theorem over : Rows.holdBacksRow.holds Try.pinned (OpenSpec.ofChange Rows.holdBacksSpec) :=
  OpenClaim.holds_of_wide 4 Try.f4 rfl rfl rfl rfl rfl rfl rfl ⟨rfl, rfl, rfl, rfl, rfl⟩ rfl rfl rfl rfl rfl (by kernel_rfl) Try.func4 (by kernel_rfl)
    (of_decide_eq_true (by kernel_rfl)) (by unfold Func.isWrapper; first | (rw [if_pos (by decide +kernel)]; kernel_rfl) | (rw [if_neg (by decide +kernel)]; exact ⟨rfl, rfl⟩))
    (fun os started H enc _ => lifted os started H enc)

/-- THE STATEMENT -/
theorem proved : Rows.HoldBacksSaid := over
end HoldBacks
#print axioms HoldBacks.proved
end Go.Proofs.Ytgoomcnaemfjcaa
