



/- HoldNew: for all Ids, records and further RecHold at the end with members and an Id that no other record has, the holds before are the same, and the new one has nothing in Back and is out, so it is one of those on its vehicle: the call of the law returns true, for every input. -/
import Derived.Test.YtgoomcnaemfjcaaHldS
namespace Go.Proofs.Ytgoomcnaemfjcaa
open Go.ChangeShapes Go.WideShapes Go.ChangeAt Go.RowKit Go.Joins

namespace HoldNew
theorem onL_map (v : ByteArray) (L : List HA) : (onL v L).map (·.1) = (L.map (·.1)).filter (onB v) := by
  rw [List.filter_map]
  rfl
set_option maxRecDepth 100000 in
set_option maxHeartbeats 4000000 in
theorem all (ids : List ByteArray) (l : List Rec) (x : Rec) (s : ByteArray) (ia ra : Option Addr) (ic rc : Nat) (w : World) (hI : ES.At w ia ids) (hR : ER.At w ra l) (hA : RecAll w l) (hx : RecF x) (hxm : Ints w x.ma x.members)
    (hsi : ids.length * 16 ≤ 140737488351232) (hsl : l.length * 480 ≤ 140737488351232) :
    Calls Try.prog 7 #[.slice ia ids.length ic, .slice ra l.length rc, .agg x.cs.toArray, .string s] w (RetB (.bool true) w) := by
  have HI := Lib.hid hI
  have HR := Lib.hid hR
  have HRA := Lib.hid hA
  have HX := Lib.hid hx
  have HXM := Lib.hid hxm
  have HSI := Lib.hid hsi
  have HSL := Lib.hid hsl
  obtain ⟨n, hn⟩ : ∃ n, n = l.length := ⟨_, rfl⟩
  obtain ⟨q, hq⟩ : ∃ q, q = ids.length := ⟨_, rfl⟩
  have HN := Lib.hid hn
  have HQ := Lib.hid hq
  have hcl := x.hl
  rw [← hn, ← hq]
  clear hI hR hA hx hxm hsi hsl hn hq
  go_enter Try.func7, Try.ntmps7
  go_wp2_with fail
  obtain ⟨wx, X, hX, hbx, hBX, hwx⟩ : ∃ wx X, X = w.heap.size ∧ Below w.heap.size w wx ∧ BoxAt wx X x.cs ∧ wx = w.alloc (.cells x.cs.toArray 54) := ⟨_, _, rfl, (Below.refl _ _).alloc (Nat.le_refl _) _, BoxAt.new w x.cs _, rfl⟩
  rw [← hwx, ← hX]
  have HXE := Lib.hid hX
  have hXl : X < wx.heap.size := by rw [hwx, World.size_alloc]; omega
  clear hwx hX
  refine Calls.mono (head_any _) ?_
  rintro e w1 ⟨rfl, hb1⟩
  have HB1 := Lib.hid (hbx.trans (hb1.mono hbx.size))
  have HBX1 := Lib.hid (hBX.later hb1)
  have hX1 : X < w1.heap.size := Nat.lt_of_lt_of_le hXl hb1.size
  have HAT := Lib.hid (show ∀ w', Below w1.heap.size w1 w' → ER.At w' ra l from fun w' hb => HR.out.later (HB1.out.trans (hb.mono HB1.out.size)))
  have hfold := fold_rec x
  have hbig : (l.length + 1) * ER.by' ≤ 140737488355328 := by have := HSL.out; show (l.length + 1) * 480 ≤ _; omega
  have hbig0 : l.length * ER.by' ≤ 140737488355328 := by have := HSL.out; show l.length * 480 ≤ _; omega
  have HBG := Lib.hid hbig
  have HBG0 := Lib.hid hbig0
  clear hb1 hbx hBX hXl hbig hbig0
  go_wp2_with fail
  refine wp_flow_j (fun β L' w' => AaJ ER w1 l x (β 0) (β 2) (β 4) (β 5) (L' 0) (L' 2) (L' 4) (L' 5) w') (by kernel_rfl) (by kernel_rfl) ?h0 ?_
  case h0 => exact AaJ.start
  ((with_reducible refine FlowJ.ghost ?_ ?_ ?_); (focus (intro _; rfl)); (focus (intro β L' w' hJ hat K' hK; (try dsimp only at hJ); ((have n2 := hat.not (j := 2) (by kernel_rfl)); (have n5 := hat.not (j := 5) (by kernel_rfl)); have un := hat.un; simp only [un, n2, n5] at hJ; go_simp; refine hK.out _ _ ?_; simp only [updG, setL, Nat.reduceEqDiff, if_true, if_false, n2, n5]; exact hJ.nil))); (try simp only [Act.put, List.setIfInBounds_toArray, List.set_cons_zero, List.set_cons_succ, Nat.reduceAdd]))
  ((with_reducible refine FlowJ.pure (v := ?_) ?_ ?_ ?_ ?_); rotate_left 1; (focus (intro _; rfl)); (focus (intro β L' w' hJ hat; (try dsimp only at hJ); (try dsimp only); simpa only [setL, Nat.reduceEqDiff, if_false] using hJ)); (focus (intro β L' w' hJ hat; (try dsimp only at hJ); skip; go_simp; (try with_reducible rfl); done)); (try simp only [Act.put, List.setIfInBounds_toArray, List.set_cons_zero, List.set_cons_succ, Nat.reduceAdd]))
  ((with_reducible refine FlowJ.ghost ?_ ?_ ?_); (focus (intro _; rfl)); (focus (intro β L' w' hJ hat K' hK; (try dsimp only at hJ); ((have p0 := hat.pre 0 (by kernel_rfl)); (have n5 := hat.not (j := 5) (by kernel_rfl)); have un := hat.un; simp only [un, p0, n5] at hJ; obtain ⟨v', w2, hr, hs⟩ := hJ.run1 ra rc (HAT.out w' hJ.low) HBG0.out (by decide) 23; rw [← HN.out] at hr; refine wp_app_eq (.tmp 18) (.tmp 19) 23 rfl _ _ rfl rfl hr ?_; refine hK.out _ _ ?_; simp only [updG, setL, Nat.reduceEqDiff, if_true, if_false, p0, n5]; exact hs))); (try simp only [Act.put, List.setIfInBounds_toArray, List.set_cons_zero, List.set_cons_succ, Nat.reduceAdd]))
  ((with_reducible refine FlowJ.pure (v := .agg x.cs.toArray) ?_ ?_ ?_ ?_); (focus (intro _; rfl)); (focus (intro β L' w' hJ hat; (try dsimp only at hJ); (try dsimp only); simpa only [setL, Nat.reduceEqDiff, if_false] using hJ)); (focus (intro β L' w' hJ hat; (try dsimp only at hJ); exact exec_load_mid 54 (.tmp 6) rfl X 0 rfl x.cs _ (box_range (HBX1.out.later hJ.low)) Try.underlying54 rfl (rec_size x))); (try simp only [Act.put, List.setIfInBounds_toArray, List.set_cons_zero, List.set_cons_succ, Nat.reduceAdd]))
  ((with_reducible refine FlowJ.ghost ?_ ?_ ?_); (focus (intro _; rfl)); (focus (intro β L' w' hJ hat K' hK; (try dsimp only at hJ); ((have n5 := hat.not (j := 5) (by kernel_rfl)); have un := hat.un; simp only [un, n5] at hJ; go_simp; refine hK.out _ _ ?_; simp only [updG, setL, Nat.reduceEqDiff, if_true, if_false, n5]; exact hJ.one _ rfl))); (try simp only [Act.put, List.setIfInBounds_toArray, List.set_cons_zero, List.set_cons_succ, Nat.reduceAdd]))
  ((with_reducible refine FlowJ.ghost ?_ ?_ ?_); (focus (intro _; rfl)); (focus (intro β L' w' hJ hat K' hK; (try dsimp only at hJ); ((have p2 := hat.pre 2 (by kernel_rfl)); (have p4 := hat.pre 4 (by kernel_rfl)); have p0 := hat.down 2 0 p2 (by decide) (by kernel_rfl); have un := hat.un; simp only [un, p0, p2, p4] at hJ; obtain ⟨v', w2, hr, hs⟩ := hJ.run2 HBG.out (by decide) 23; refine wp_app_eq (.tmp 20) (.tmp 22) 23 rfl _ _ rfl rfl hr ?_; refine hK.out _ _ ?_; simp only [updG, setL, Nat.reduceEqDiff, if_true, if_false, p0, p2, p4]; exact hs))); (try simp only [Act.put, List.setIfInBounds_toArray, List.set_cons_zero, List.set_cons_succ, Nat.reduceAdd]))
  (refine FlowJ.pureG (v := fun β => β 5) (fun β k b hk => updG_ne β b (fun e => by subst e; exact Bool.false_ne_true (hk.symm.trans (by kernel_rfl)))) (fun β b => rfl) (fun _ => rfl) (fun β L' w' hJ hat => by simpa only [setL, Nat.reduceEqDiff, if_false] using hJ) (fun β L' w' hJ hat => by go_simp; (try with_reducible rfl); done) ?_; (try simp only [Act.put, List.setIfInBounds_toArray, List.set_cons_zero, List.set_cons_succ, Nat.reduceAdd]))
  refine FlowJ.stop ?_
  dsimp only
  intro β w2 hJ
  obtain ⟨v10, hv10⟩ : ∃ v, v = β 5 := ⟨_, rfl⟩
  have ho10 := hJ.e5 rfl
  rw [← hv10] at ho10 ⊢
  generalize β 0 = y0
  generalize β 2 = y2
  generalize β 4 = y4
  have hb2 := hJ.low
  have HB2 := Lib.hid hb2
  clear hJ hv10 hfold
  obtain ⟨r1, wr1, hr1, hs1⟩ := (AaJ.start0 (E := ES) (w0 := w2) (l := ids) (x := s) (b0 := undef) (b2 := undef) (b4 := undef) (b5 := undef)).nil.run1 ia ic ((HI.out.later (HB1.out.trans (hb2.mono HB1.out.size))).later ((Below.refl _ _).alloc (Nat.le_refl _) _)) (by have := HSI.out; show ids.length * 16 ≤ _; omega) (by decide) 22
  obtain ⟨v11, w5, hr2, hs2⟩ := (hs1.one #[.string s] rfl).run2 (by have := HSI.out; show (ids.length + 1) * 16 ≤ _; omega) (by decide) 22
  rw [← HQ.out] at hr1
  have HR1 := Lib.hid hr1
  have HR2 := Lib.hid hr2
  have hb5 := hs2.low
  have ho11 := (hs2.e5 rfl).mono hb2.size
  have HB5 := Lib.hid (hb2.trans (hb5.mono hb2.size))
  have ho15 := ho10.later hb5
  have HO10 := Lib.hid ho15
  have HO11 := Lib.hid ho11
  clear hr1 hr2 hs1 hs2 hb2 hb5 ho10 ho15 ho11
  go_wp2_with (at_builtin; first | (refine wpList_app_eq rfl _ _ _ rfl _ _ rfl rfl HR1.out ?_) | (refine wpList_app_eq rfl _ _ _ rfl _ _ rfl rfl HR2.out ?_))
  obtain ⟨fw, hfw⟩ : ∃ fw, fw = fewRB (ids ++ [s]) (l ++ [x]) 30 := ⟨_, rfl⟩
  have HRX := Lib.hid (show ∀ wy, Below w1.heap.size w1 wy → RecAll wy (l ++ [x]) from fun wy hb r hr => by
    have hbw := HB1.out.trans (hb.mono HB1.out.size)
    rcases List.mem_append.1 hr with hr | hr
    · exact (HRA.out.later hbw) r hr
    · rw [List.mem_singleton.1 hr]
      exact ⟨HX.out, HXM.out.later hbw⟩)
  have HFW := Lib.hid (show Calls Try.prog 10 #[v11, v10] w5 (RetS (.bool fw) w5) from by
    obtain ⟨an, cn, e1, _, _, hatN, _⟩ := HO11.out.at
    obtain ⟨ar, cr, e2, _, _, hatR, _⟩ := HO10.out.at
    rw [e1, e2, hfw]
    exact few_any _ _ an ar cn cr w5 hatN hatR (HRX.out w5 HB5.out))
  have hBX5 := HBX1.out.later HB5.out
  have k0 : w5.cell? ⟨X, 0, none⟩ = some (.int .i64 x.kind) := (hBX5 0 _ HX.out.f0).1
  have HBW5 := Lib.hid (HB1.out.trans (HB5.out.mono HB1.out.size))
  refine Calls.mono HFW.out ?_
  rintro e w6 ⟨rfl, rfl⟩
  clear HFW
  cases fw
  · clear hfw
    go_wp2_with fail
    go_ret
    exact retB rfl HBW5.out
  have k8 : w5.cell? ⟨X, 8, none⟩ = some (.slice x.ma x.members.length x.mc) := (hBX5 8 _ HX.out.f8).1
  obtain ⟨ml, hml⟩ : ∃ ml, ml = x.members.length := ⟨_, rfl⟩
  rw [← hml] at k8
  have HML := Lib.hid hml
  clear hml
  by_cases hno : ¬ q = n ∨ ¬ x.kind = 5 ∨ ml = 0
  · clear hfw
    by_cases hq : q = n
    · subst hq
      by_cases h5 : x.kind = 5
      · have h0 : ml = 0 := by
          rcases hno with h | h | h
          · exact absurd rfl h
          · exact absurd h5 h
          · exact h
        rw [h5] at k0
        rw [h0] at k8
        clear hno h0 h5
        go_wp2_with fail
        all_goals (go_ret; exact retB rfl HBW5.out)
      · have d1 : (x.kind == (5 : Int)) = false := by simpa using h5
        clear hno
        go_wp2_with fail
        all_goals (go_ret; exact retB rfl HBW5.out)
    · have d1 : (q == n) = false := by simpa using hq
      have d2 : ((q : Int) == (n : Int)) = false := by simp; omega
      clear hno
      go_wp2_with fail
      all_goals (go_ret; exact retB rfl HBW5.out)
  · have hqn : q = n := by
      by_cases h : q = n
      · exact h
      · exact absurd (.inl h) hno
    have h5 : x.kind = 5 := by
      by_cases h : x.kind = 5
      · exact h
      · exact absurd (.inr (.inl h)) hno
    have h0 : ¬ ml = 0 := fun h => hno (.inr (.inr h))
    have h0b : (ml == 0) = false := by simpa using h0
    have HFE : Hid (FewR (ids ++ [s]) (l ++ [x]) 30) := Lib.hid (by
      refine Classical.byContradiction fun h => ?_
      rw [fewRB_no h] at hfw
      cases hfw)
    have HLEN := Lib.hid (show ids.length = l.length by rw [← HQ.out, ← HN.out, hqn])
    have HK5 := Lib.hid h5
    have HM0 := Lib.hid (show x.members ≠ [] from fun e => h0 (by rw [HML.out, e]; rfl))
    have hq30 : q ≤ 1000 := by
      have h1 := HFE.out.2.1
      have := HQ.out
      rw [List.length_append, List.length_singleton] at h1
      omega
    rw [h5] at k0
    subst hqn
    clear hfw hno h5
    go_wp2_with fail
    go_loopg [12] (q + 1) (fun k v12 wr => ∃ i : Nat, i ≤ q ∧ k + i = q + 1 ∧ v12 = .int .i64 i ∧ wr = w5 ∧ ∀ j (hj : j < ids.length), j < i → ids[j] ≠ s)
    case atStart => exact ⟨0, by omega, by omega, rfl, rfl, fun j _ h => absurd h (by omega)⟩
    case round =>
      obtain ⟨i, hi, hki, rfl, rfl, hall⟩ := hrel
      have HALL := Lib.hid hall
      clear hall
      by_cases hlt : i < q
      · have hiI : i < ids.length := by have := HQ.out; omega
        have hatI := HI.out.later HBW5.out
        obtain ⟨ib, io, rfl, _⟩ := hatI.head (by omega)
        have hsc := str_cell hatI hiI
        obtain ⟨y, hy⟩ : ∃ y, y = ids[i] := ⟨_, rfl⟩
        rw [← hy] at hsc
        have HYE := Lib.hid hy
        have n1 : (i : Int) < (q : Int) := by omega
        have n0 : (0 : Int) ≤ (i : Int) := by omega
        clear hatI hy
        cases es : (y.toList == s.toList)
        · have HNE := Lib.hid (show y ≠ s from of_decide_eq_false (str_eq.symm.trans es))
          go_wp2_with fail
          go_roundg (q - i)
          case measure => omega
          case rel => exact ⟨i + 1, by omega, by omega, by go_num, rfl, fun j hj hji => by
            rcases Nat.lt_succ_iff_lt_or_eq.1 hji with h | h
            · exact HALL.out j hj h
            · subst h
              rw [← HYE.out]
              exact HNE.out⟩
        · go_wp2_with fail
          go_ret
          exact retB rfl HBW5.out
      · obtain rfl : i = q := by omega
        have HNO := Lib.hid (show ∀ t ∈ ids, t ≠ s from fun t ht => by
          obtain ⟨j, hj, rfl⟩ := List.getElem_of_mem ht
          exact HALL.out j hj (by rw [HQ.out]; exact hj))
        obtain ⟨Z, hZ⟩ : ∃ Z, Z = runH (ids.zip l) := ⟨_, rfl⟩
        have HA1 := Lib.hid (show ∀ wy, Below w1.heap.size w1 wy → Calls Try.prog 11 #[.slice ia i ic, .slice ra i rc] wy (RetH wy Z) from fun wy hb => by
          have hbw := HB1.out.trans (hb.mono HB1.out.size)
          have h := all_any ids l ia ra ic rc wy (HI.out.later hbw) (HR.out.later hbw) (HRA.out.later hbw) ⟨by have := HN.out; omega, fun t ht => by have := HFE.out.2.2.2 t (List.mem_append_left _ ht); omega, fun r hr => by have := (HFE.out.2.2.1 r (List.mem_append_left _ hr)).2.2; omega⟩
          rw [show allH ids l = runH (ids.zip l) from if_pos HLEN.out, ← HQ.out, ← HN.out, ← hZ] at h
          exact h)
        have HA2 := Lib.hid (show ∀ wy vN vR, Below w1.heap.size w1 wy → ES.Own wy w1.heap.size vN (ids ++ [s]) → ER.Own wy w1.heap.size vR (l ++ [x]) → Calls Try.prog 11 #[vN, vR] wy (RetH wy (Z ++ [⟨s, x.name, x.members, []⟩])) from fun wy vN vR hb hoN hoR => by
          obtain ⟨an, cn, rfl, _, _, hatN, _⟩ := hoN.at
          obtain ⟨ar, cr, rfl, _, _, hatR, _⟩ := hoR.at
          have h := all_any _ _ an ar cn cr wy hatN hatR (HRX.out wy hb) (HFE.out.few (by omega))
          rw [allH_snoc HLEN.out, step_new HK5.out HM0.out (fun h hh => by
            obtain ⟨y, hy, e⟩ := runH_ids _ h hh
            rw [e]
            exact HNO.out _ (List.of_mem_zip hy).1), ← hZ] at h
          exact h)
        have hzl : Z.length ≤ 1000 := by
          have h1 := runH_len (ids.zip l)
          rw [List.length_zip] at h1
          have := HN.out
          rw [hZ]
          omega
        clear hZ
        go_wp2_with fail
        refine Calls.mono (HA1.out wr HB5.out) ?_
        rintro e wA ⟨aA, cA, LA, rfl, hA1, hA2, hA3, hA4, hA5, _, hbA⟩
        obtain ⟨m, hm⟩ : ∃ m, m = LA.length := ⟨_, rfl⟩
        have hmz : m = Z.length := by rw [hm, ← hA1, List.length_map]
        have HM := Lib.hid hm
        have HMZ := Lib.hid hmz
        have hm1 : m ≤ 1000 := by omega
        have HAM := Lib.hid hA1
        have HAat := Lib.hid hA2
        have HAall := Lib.hid hA3
        have HBA := Lib.hid (HB5.out.trans (hbA.mono HB5.out.size))
        have HO10A := Lib.hid (HO10.out.later hbA)
        have HO11A := Lib.hid (HO11.out.later hbA)
        rw [← hm]
        clear hA1 hA2 hA3 hbA hm HA1 hzl hmz
        go_wp2_with fail
        refine Calls.mono (HA2.out wA v11 v10 HBA.out HO11A.out HO10A.out) ?_
        rintro e wB ⟨aB, cB, LB, rfl, hA1, hA2, hA3, hB4, hB5, _, hbB⟩
        obtain ⟨m1, hm1e⟩ : ∃ m1, m1 = LB.length := ⟨_, rfl⟩
        have hmm : m1 = m + 1 := by rw [hm1e, HMZ.out, ← List.length_map (f := fun x : HA => x.1), hA1]; simp
        have HM1 := Lib.hid hm1e
        have HMM := Lib.hid hmm
        have HBM := Lib.hid hA1
        have HBB := Lib.hid (HBA.out.trans (hbB.mono HBA.out.size))
        have HAatB := Lib.hid (HAat.out.later hbB)
        have HAallB := Lib.hid (HAall.out.later hbB)
        obtain ⟨bb, bo, rfl, _⟩ := hA2.head (by omega)
        have HBat := Lib.hid hA2
        have HBall := Lib.hid hA3
        have hbxB := HBX1.out.later HBB.out
        have x6 := (hbxB 6 _ HX.out.f6).1
        have x8 := (hbxB 8 _ HX.out.f8).1
        have HBXB := Lib.hid hbxB
        rw [← hm1e] at hB4 ⊢
        have hw1 : IntKind.i64.wrap ((m : Int) + 1) = (m1 : Int) := by rw [IntWalk.i64_in _ (by omega)]; omega
        have em1 : ((m1 : Int) == (m1 : Int)) = true := by simp
        obtain ⟨u, hu⟩ : ∃ u : HA, u = (⟨s, x.name, x.members, []⟩, (x.ma, x.mc, none, 0)) := ⟨_, rfl⟩
        have hmB : m < LB.length := by omega
        have hnew : LB[m].1 = u.1 := by
          have e1 := congrArg (fun (z : List Hd) => z[m]?) HBM.out
          simp only [List.getElem?_map, List.getElem?_eq_getElem hmB, Option.map_some] at e1
          rw [show (Z ++ [(⟨s, x.name, x.members, []⟩ : Hd)])[m]? = some ⟨s, x.name, x.members, []⟩ from by rw [HMZ.out]; simp] at e1
          rw [hu]
          simpa using e1
        have hdrop : LB.drop m = [LB[m]] := by
          rw [List.drop_eq_getElem_cons hmB, List.drop_eq_nil_of_le (by omega)]
        have htake : (LB.take m).map (·.1) = LA.map (·.1) := by
          rw [List.map_take, HBM.out, HAM.out, HMZ.out, List.take_left']
          rfl
        have hx8 : wB.cell? ⟨X, 8, none⟩ = some (.slice u.2.1 u.1.mem.length u.2.2.1) := by rw [hu]; exact x8
        have hx6 : wB.cell? ⟨X, 6, none⟩ = some (.string u.1.veh) := by rw [hu]; exact x6
        have hui : s = u.1.id := by rw [hu]
        have hub : u.2.2.2 = (none, 0) ∧ u.1.back = [] := by rw [hu]; exact ⟨rfl, rfl⟩
        have hud : HdAt wB u.1 u.2.1 u.2.2.2.1 := by
          rw [hu]
          exact ⟨HXM.out.later (HB1.out.trans (HBB.out.mono HB1.out.size)), fun j hj => absurd hj (by simp), HX.out.ml, by simp⟩
        have huo : outB u.1 = true := by
          rw [hu]
          refine outB_yes ?_
          obtain ⟨a, ha⟩ := List.exists_mem_of_ne_nil _ HM0.out
          exact ⟨a, ha, by simp⟩
        have huv : u.1.veh.size ≤ 100 := by rw [hu]; exact (HFE.out.2.2.1 x (List.mem_append_right _ (List.mem_singleton.2 rfl))).2.1
        have HNEW := Lib.hid hnew
        have HUB := Lib.hid hub
        have HUD := Lib.hid hud
        have HUO := Lib.hid huo
        have HTK := Lib.hid htake
        have HDR := Lib.hid hdrop
        rw [hui]
        clear hA1 hA2 hA3 hbB hm1e HA2 hbxB hmm hu hui x6 x8 hnew hub hud huo htake hdrop huv
        go_upto_region 16 with fail
        obtain ⟨w8, T, hT, hb8, hBX8, hw8⟩ : ∃ w8 T, T = wB.heap.size ∧ Below wB.heap.size wB w8 ∧ BoxAt w8 T (haC u) ∧ w8 = wB.alloc (.cells #[.string u.1.id, .string u.1.veh, .slice u.2.1 u.1.mem.length u.2.2.1, .slice none 0 0] 31) := ⟨_, _, rfl, (Below.refl _ _).alloc (Nat.le_refl _) _, by
          have h := BoxAt.new wB [.string u.1.id, .string u.1.veh, .slice u.2.1 u.1.mem.length u.2.2.1, .slice none 0 0] 31
          unfold haC
          rw [HUB.out.1, HUB.out.2]
          exact h, rfl⟩
        rw [← hw8, ← hT]
        have HTR := Lib.hid hT
        have HB8 := Lib.hid hb8
        have HBX8 := Lib.hid hBX8
        have hx6' := cell_later hb8 hx6
        obtain ⟨K1, hK1⟩ : ∃ K, K = onL u.1.veh LB := ⟨_, rfl⟩
        obtain ⟨K2, hK2⟩ : ∃ K, K = onL u.1.veh LA := ⟨_, rfl⟩
        obtain ⟨k1, hk1⟩ : ∃ k, k = K1.length := ⟨_, rfl⟩
        obtain ⟨k2, hk2⟩ : ∃ k, k = K2.length := ⟨_, rfl⟩
        have hkk : k1 = k2 + 1 := by
          have e1 : K1.map (·.1) = (LB.map (·.1)).filter (onB u.1.veh) := by rw [hK1]; exact onL_map _ _
          have e2 : K2.map (·.1) = (LA.map (·.1)).filter (onB u.1.veh) := by rw [hK2]; exact onL_map _ _
          have e3 : LB.map (·.1) = LA.map (·.1) ++ [u.1] := by
            rw [← HTK.out, ← HNEW.out]
            conv => lhs; rw [← List.take_append_drop m LB, HDR.out, List.map_append]
            rfl
          have e4 : onB u.1.veh u.1 = true := onB_yes ⟨rfl, by
            refine Classical.byContradiction fun h => ?_
            have := HUO.out
            rw [outB_no h] at this
            cases this⟩
          have e5 := congrArg List.length e1
          have e6 := congrArg List.length e2
          rw [List.length_map] at e5 e6
          rw [hk1, hk2, e5, e6, e3, List.filter_append, List.filter_cons_of_pos e4]
          simp
        have hk2l : k2 ≤ 1000 := by
          rw [hk2, hK2]
          have h := List.length_filter_le (fun x : HA => onB u.1.veh x.1) LA
          have := HM.out
          show (List.filter (fun x : HA => onB u.1.veh x.1) LA).length ≤ _
          omega
        have hwk : IntKind.i64.wrap ((k2 : Int) + 1) = (k1 : Int) := by rw [IntWalk.i64_in _ (by omega)]; omega
        have HON1 := Lib.hid (show Calls Try.prog 16 #[.slice (some ⟨bb, bo, none⟩) m1 cB, .string u.1.veh] w8 (fun e w' => ∃ a c, e = .returned (.slice a k1 c) ∧ Below w8.heap.size w8 w') from by
          have h := on_any LB u.1.veh (some ⟨bb, bo, none⟩) cB w8 (HBat.out.later hb8) (HBall.out.later hb8) (by have := HM1.out; have := HMM.out; omega)
          rw [← HM1.out] at h
          refine h.mono fun e w' ⟨a, c, e1, _, e3⟩ => ⟨a, c, ?_, e3⟩
          rw [e1, hk1, hK1])
        have HON2 := Lib.hid (show ∀ wy, Below w8.heap.size w8 wy → Calls Try.prog 16 #[.slice aA m cA, .string u.1.veh] wy (fun e w' => ∃ a c, e = .returned (.slice a k2 c) ∧ Below wy.heap.size wy w') from fun wy hy => by
          have h := on_any LA u.1.veh aA cA wy ((HAatB.out.later hb8).later hy) ((HAallB.out.later hb8).later hy) (by have := HM.out; omega)
          rw [← HM.out] at h
          refine h.mono fun e w' ⟨a, c, e1, _, e3⟩ => ⟨a, c, ?_, e3⟩
          rw [e1, hk2, hK2])
        have HS1 := Lib.hid (show ∀ wy, Below w8.heap.size w8 wy → Calls Try.prog 15 #[.slice (some ⟨bb, bo, none⟩) m cB, .slice aA m cA] wy (RetB (.bool true) wy) from fun wy hy => by
          have hs := ((HBat.out.later hb8).later hy).sub 0 m
          rw [Nat.zero_mul, Nat.add_zero, List.drop_zero] at hs
          have h := same_any (LB.take m) LA _ _ cB cA wy hs ((HAatB.out.later hb8).later hy) (fun y hy' => ((HBall.out y (List.mem_of_mem_take hy')).later hb8).later hy) ((HAallB.out.later hb8).later hy) (by rw [List.length_take]; omega)
          rw [sameB_yes HTK.out, ← HM.out, show (LB.take m).length = m from by rw [List.length_take]; omega] at h
          exact h)
        have HS2 := Lib.hid (show ∀ wy v, Below w8.heap.size w8 wy → (∃ k, v = Value.slice (some ⟨k, 0, none⟩) 1 1 ∧ EH.At wy (some ⟨k, 0, none⟩) [u]) → Calls Try.prog 15 #[.slice (some ⟨bb, bo + m * 4, none⟩) 1 (cB - m), v] wy (RetB (.bool true) wy) from fun wy v hy ⟨k, hv, hat⟩ => by
          have hs := ((HBat.out.later hb8).later hy).sub m 1
          rw [HDR.out, show EH.S = 4 from rfl, show [LB[m]].take 1 = [LB[m]] from rfl] at hs
          rw [hv]
          have h := same_any [LB[m]] [u] _ _ (cB - m) 1 wy hs hat (fun y hy' => by obtain rfl := List.mem_singleton.1 hy'; exact ((HBall.out _ (List.getElem_mem hmB)).later hb8).later hy) (fun y hy' => by obtain rfl := List.mem_singleton.1 hy'; exact (HUD.out.later hb8).later hy) (by simp)
          rw [sameB_yes (by
            show [LB[m].1] = [u.1]
            rw [HNEW.out])] at h
          exact h)
        have HOU := Lib.hid (show ∀ wy, Below w8.heap.size w8 wy → Calls Try.prog 13 #[.agg #[.string u.1.id, .string u.1.veh, .slice u.2.1 u.1.mem.length u.2.2.1, .slice u.2.2.2.1 u.1.back.length u.2.2.2.2]] wy (RetB (.bool true) wy) from fun wy hy => by
          have h := out_any u.1 _ u.2.2.2.1 u.2.2.1 u.2.2.2.2 wy ((HUD.out.later hb8).later hy)
          rw [HUO.out] at h
          exact h)
        have HTC := Lib.hid (show ∀ wy, Below w8.heap.size w8 wy → (wy.cell? ⟨T, 0, none⟩ = some (.string u.1.id) ∧ wy.cell? ⟨T, 1, none⟩ = some (.string u.1.veh) ∧ wy.cell? ⟨T, 2, none⟩ = some (.slice u.2.1 u.1.mem.length u.2.2.1) ∧ wy.cell? ⟨T, 3, none⟩ = some (.slice u.2.2.2.1 u.1.back.length u.2.2.2.2)) ∧ wy.cell? ⟨X, 6, none⟩ = some (.string u.1.veh) from fun wy hy => by
          have hb := HBX8.out.later hy
          exact ⟨⟨(hb 0 _ rfl).1, (hb 1 _ rfl).1, (hb 2 _ rfl).1, (hb 3 _ rfl).1⟩, cell_later hy hx6'⟩)
        have HBW8 := Lib.hid (HB1.out.trans ((HBB.out.trans (hb8.mono HBB.out.size)).mono HB1.out.size))
        have s1 : (m : Int) ≤ (cB : Int) := by have := HMM.out; omega
        have s2 : m ≤ cB := by omega
        have s3 : ¬ cB = m := by have := HMM.out; omega
        have s4 : (0 : Int) ≤ (m : Int) := by omega
        have s5 : (m : Int) ≤ (m1 : Int) := by have := HMM.out; omega
        have s6 : m1 - m = 1 := by have := HMM.out; omega
        have s7 : (m1 : Int) ≤ (cB : Int) := by omega
        have s8 : (m1 : Int) - (m : Int) = 1 := by have := HMM.out; omega
        have s9 : ¬ cB = 0 := by have := HMM.out; omega
        have ekk : ((k1 : Int) == (k1 : Int)) = true := by simp
        clear hw8 hT hb8 hBX8 hx6 hx8 hK1 hK2 hk1 hk2 hkk hk2l
        go_wp2_with fail
        refine Calls.mono HON1.out ?_
        rintro e w9 ⟨a16, c16, rfl, hb9⟩
        have HB9 := Lib.hid hb9
        have hz9 := hb9.size
        clear hx6' hb9
        go_wp2_with fail
        refine wp_flow_j (fun β L' w' => Below w9.heap.size w9 w' ∧ (L' 15 = true → ∃ k, β 15 = Value.slice (some ⟨k, 0, none⟩) 1 1 ∧ EH.At w' (some ⟨k, 0, none⟩) [u]) ∧ (L' 28 = true → ∃ a c, β 28 = Value.slice a k2 c)) (by kernel_rfl) (by kernel_rfl) ?h17 ?_
        case h17 => exact ⟨(Below.refl _ _).drew, fun e => (by cases e), fun e => (by cases e)⟩
        iterate 7 (((with_reducible refine FlowJ.pure (v := ?_) ?_ ?_ ?_ ?_); rotate_left 1; (focus (intro _; rfl)); (focus (intro β L' w' hJ hat; (try dsimp only at hJ); (try dsimp only); simpa only [setL, Nat.reduceEqDiff, if_false] using hJ)); (focus (intro β L' w' hJ hat; (try dsimp only at hJ); skip; go_simp; (try with_reducible rfl); done)); (try simp only [Act.put, List.setIfInBounds_toArray, List.set_cons_zero, List.set_cons_succ, Nat.reduceAdd])))
        ((with_reducible refine FlowJ.call (v := ?_) ?_ ?_ ?_); rotate_left 1; (focus (intro _; rfl)); (focus (intro β L' w' hJ hat K' hK; (try dsimp only at hJ); (go_simp; go_at_call 15; refine Calls.mono (HS1.out w' (HB9.out.trans (hJ.1.mono hz9))) ?_; rintro e w'' ⟨rfl, hb'⟩; refine hK.out _ ?_; simp only [setL, Nat.reduceEqDiff, if_false]; exact ⟨hJ.1.trans (hb'.mono hJ.1.size), fun h => (by obtain ⟨k, e1, e2⟩ := hJ.2.1 h; exact ⟨k, e1, e2.later hb'⟩), hJ.2.2⟩))); (try simp only [Act.put, List.setIfInBounds_toArray, List.set_cons_zero, List.set_cons_succ, Nat.reduceAdd]))
        iterate 6 (((with_reducible refine FlowJ.pure (v := ?_) ?_ ?_ ?_ ?_); rotate_left 1; (focus (intro _; rfl)); (focus (intro β L' w' hJ hat; (try dsimp only at hJ); (try dsimp only); simpa only [setL, Nat.reduceEqDiff, if_false] using hJ)); (focus (intro β L' w' hJ hat; (try dsimp only at hJ); skip; go_simp; (try with_reducible rfl); done)); (try simp only [Act.put, List.setIfInBounds_toArray, List.set_cons_zero, List.set_cons_succ, Nat.reduceAdd])))
        ((with_reducible refine FlowJ.pure (v := ?_) ?_ ?_ ?_ ?_); rotate_left 1; (focus (intro _; rfl)); (focus (intro β L' w' hJ hat; (try dsimp only at hJ); (try dsimp only); simpa only [setL, Nat.reduceEqDiff, if_false] using hJ)); (focus (intro β L' w' hJ hat; (try dsimp only at hJ); (obtain ⟨⟨f0, f1, f2, f3⟩, f6⟩ := HTC.out _ (HB9.out.trans (hJ.1.mono hz9))); go_simp; (try with_reducible rfl); done)); (try simp only [Act.put, List.setIfInBounds_toArray, List.set_cons_zero, List.set_cons_succ, Nat.reduceAdd]))
        ((with_reducible refine FlowJ.ghost ?_ ?_ ?_); (focus (intro _; rfl)); (focus (intro β L' w' hJ hat K' hK; (try dsimp only at hJ); (have un := hat.un; simp only [un] at hJ; go_simp; refine hK.out _ _ ?_; simp only [updG, setL, Nat.reduceEqDiff, if_true, if_false]; exact ⟨hJ.1.trans (((Below.refl _ _).alloc (Nat.le_refl _) _).mono hJ.1.size), fun _ => ⟨_, rfl, El.at_lit' EH w' [u] _ _ rfl⟩, hJ.2.2⟩))); (try simp only [Act.put, List.setIfInBounds_toArray, List.set_cons_zero, List.set_cons_succ, Nat.reduceAdd]))
        ((with_reducible refine FlowJ.call (v := ?_) ?_ ?_ ?_); rotate_left 1; (focus (intro _; rfl)); (focus (intro β L' w' hJ hat K' hK; (try dsimp only at hJ); ((have p15 := hat.pre 15 (by kernel_rfl)); go_simp; go_at_call 15; refine Calls.mono (HS2.out w' (β 15) (HB9.out.trans (hJ.1.mono hz9)) (hJ.2.1 p15)) ?_; rintro e w'' ⟨rfl, hb'⟩; refine hK.out _ ?_; simp only [setL, Nat.reduceEqDiff, if_false]; exact ⟨hJ.1.trans (hb'.mono hJ.1.size), fun h => (by obtain ⟨k, e1, e2⟩ := hJ.2.1 h; exact ⟨k, e1, e2.later hb'⟩), hJ.2.2⟩))); (try simp only [Act.put, List.setIfInBounds_toArray, List.set_cons_zero, List.set_cons_succ, Nat.reduceAdd]))
        iterate 2 (((with_reducible refine FlowJ.pure (v := ?_) ?_ ?_ ?_ ?_); rotate_left 1; (focus (intro _; rfl)); (focus (intro β L' w' hJ hat; (try dsimp only at hJ); (try dsimp only); simpa only [setL, Nat.reduceEqDiff, if_false] using hJ)); (focus (intro β L' w' hJ hat; (try dsimp only at hJ); skip; go_simp; (try with_reducible rfl); done)); (try simp only [Act.put, List.setIfInBounds_toArray, List.set_cons_zero, List.set_cons_succ, Nat.reduceAdd])))
        ((with_reducible refine FlowJ.pure (v := ?_) ?_ ?_ ?_ ?_); rotate_left 1; (focus (intro _; rfl)); (focus (intro β L' w' hJ hat; (try dsimp only at hJ); (try dsimp only); simpa only [setL, Nat.reduceEqDiff, if_false] using hJ)); (focus (intro β L' w' hJ hat; (try dsimp only at hJ); (obtain ⟨⟨f0, f1, f2, f3⟩, f6⟩ := HTC.out _ (HB9.out.trans (hJ.1.mono hz9))); go_simp; (try with_reducible rfl); done)); (try simp only [Act.put, List.setIfInBounds_toArray, List.set_cons_zero, List.set_cons_succ, Nat.reduceAdd]))
        ((with_reducible refine FlowJ.call (v := ?_) ?_ ?_ ?_); rotate_left 1; (focus (intro _; rfl)); (focus (intro β L' w' hJ hat K' hK; (try dsimp only at hJ); (go_simp; go_at_call 13; refine Calls.mono (HOU.out w' (HB9.out.trans (hJ.1.mono hz9))) ?_; rintro e w'' ⟨rfl, hb'⟩; refine hK.out _ ?_; simp only [setL, Nat.reduceEqDiff, if_false]; exact ⟨hJ.1.trans (hb'.mono hJ.1.size), fun h => (by obtain ⟨k, e1, e2⟩ := hJ.2.1 h; exact ⟨k, e1, e2.later hb'⟩), hJ.2.2⟩))); (try simp only [Act.put, List.setIfInBounds_toArray, List.set_cons_zero, List.set_cons_succ, Nat.reduceAdd]))
        iterate 6 (((with_reducible refine FlowJ.pure (v := ?_) ?_ ?_ ?_ ?_); rotate_left 1; (focus (intro _; rfl)); (focus (intro β L' w' hJ hat; (try dsimp only at hJ); (try dsimp only); simpa only [setL, Nat.reduceEqDiff, if_false] using hJ)); (focus (intro β L' w' hJ hat; (try dsimp only at hJ); skip; go_simp; (try with_reducible rfl); done)); (try simp only [Act.put, List.setIfInBounds_toArray, List.set_cons_zero, List.set_cons_succ, Nat.reduceAdd])))
        ((with_reducible refine FlowJ.pure (v := ?_) ?_ ?_ ?_ ?_); rotate_left 1; (focus (intro _; rfl)); (focus (intro β L' w' hJ hat; (try dsimp only at hJ); (try dsimp only); simpa only [setL, Nat.reduceEqDiff, if_false] using hJ)); (focus (intro β L' w' hJ hat; (try dsimp only at hJ); (obtain ⟨⟨f0, f1, f2, f3⟩, f6⟩ := HTC.out _ (HB9.out.trans (hJ.1.mono hz9))); go_simp; (try with_reducible rfl); done)); (try simp only [Act.put, List.setIfInBounds_toArray, List.set_cons_zero, List.set_cons_succ, Nat.reduceAdd]))
        ((with_reducible refine FlowJ.ghost ?_ ?_ ?_); (focus (intro _; rfl)); (focus (intro β L' w' hJ hat K' hK; (try dsimp only at hJ); (go_simp; go_at_call 16; refine Calls.mono (HON2.out w' (HB9.out.trans (hJ.1.mono hz9))) ?_; rintro e w'' ⟨a28, c28, rfl, hb'⟩; refine hK.out _ _ ?_; simp only [updG, setL, Nat.reduceEqDiff, if_true, if_false]; exact ⟨hJ.1.trans (hb'.mono hJ.1.size), fun h => (by obtain ⟨k, e1, e2⟩ := hJ.2.1 h; exact ⟨k, e1, e2.later hb'⟩), fun _ => ⟨a28, c28, rfl⟩⟩))); (try simp only [Act.put, List.setIfInBounds_toArray, List.set_cons_zero, List.set_cons_succ, Nat.reduceAdd]))
        ((with_reducible refine FlowJ.pure (v := ?_) ?_ ?_ ?_ ?_); rotate_left 1; (focus (intro _; rfl)); (focus (intro β L' w' hJ hat; (try dsimp only at hJ); (try dsimp only); simpa only [setL, Nat.reduceEqDiff, if_false] using hJ)); (focus (intro β L' w' hJ hat; (try dsimp only at hJ); ((have p28 := hat.pre 28 (by kernel_rfl)); obtain ⟨a28, c28, e28⟩ := hJ.2.2 p28); go_simp; (try with_reducible rfl); done)); (try simp only [Act.put, List.setIfInBounds_toArray, List.set_cons_zero, List.set_cons_succ, Nat.reduceAdd]))
        iterate 4 (((with_reducible refine FlowJ.pure (v := ?_) ?_ ?_ ?_ ?_); rotate_left 1; (focus (intro _; rfl)); (focus (intro β L' w' hJ hat; (try dsimp only at hJ); (try dsimp only); simpa only [setL, Nat.reduceEqDiff, if_false] using hJ)); (focus (intro β L' w' hJ hat; (try dsimp only at hJ); skip; go_simp; (try with_reducible rfl); done)); (try simp only [Act.put, List.setIfInBounds_toArray, List.set_cons_zero, List.set_cons_succ, Nat.reduceAdd])))
        refine FlowJ.stop ?_
        dsimp only
        intro β2 w17 hJ
        have HBW := Lib.hid (HBW8.out.trans ((HB9.out.trans (hJ.1.mono hz9)).mono HBW8.out.size))
        generalize β2 15 = z15
        generalize β2 28 = z28
        clear hJ
        go_wp2_with fail
        go_ret
        exact retB rfl HBW.out
end HoldNew
namespace HoldNew
set_option maxRecDepth 100000 in
theorem entry (H : Type) (enc : TypeId × Value → H) (W : World) (base : Nat) (args : Array Value) (ds : List (DataW H)) (p : List MemPlace)
    (hval : ∀ (j : Nat) t v, Try.f7.params[j]? = some t → args[j]? = some v → Value.okWide Try.prog W .any base t v)
    (hA : DataW.TrodAll enc Try.prog W 0 (fun _ => true) true Try.f7.params.toList args.toList ds p) (hsz : (DataW.weightsEach Try.prog Try.f7.params.toList ds).all (· ≤ reachBytes) = true) :
    Calls Try.prog 7 args W (RetB (.bool true) W) := by
  rw [Try.params7] at hA hval hsz
  obtain ⟨v0, vs0, d0, ds0, p0, q0, hargs, rfl, rfl, h0, r0⟩ := trodAll_cons hA
  obtain ⟨v1, vs1, d1, ds1, p1, q1, rfl, rfl, rfl, h1, r1⟩ := trodAll_cons r0
  obtain ⟨v2, vs2, d2, ds2, p2, q2, rfl, rfl, rfl, h2, r2⟩ := trodAll_cons r1
  obtain ⟨v3, vs3, d3, ds3, p3, q3, rfl, rfl, rfl, h3, r3⟩ := trodAll_cons r2
  obtain ⟨rfl, rfl, rfl⟩ := trodAll_nil r3
  obtain rfl : args = #[v0, v1, v2, v3] := by cases args; simp_all
  obtain ⟨ia, ic, i, rfl, iV⟩ := open_strs (hval 0 22 v0 rfl rfl) h0
  obtain ⟨ra, rc, r, rfl, rR, rA⟩ := open_recs (hval 1 23 v1 rfl rfl) h1
  obtain ⟨x, rfl, xF, xI⟩ := open_rec (hval 2 54 v2 rfl rfl) h2
  obtain ⟨s, rfl, rfl, rfl, _⟩ := Go.ChangeMaps.open_string Try.underlying9 (hval 3 9 v3 rfl rfl) h3
  exact all i r x s ia ra ic rc W iV rR rA xF xI (slice_sized hsz (j := 0) rfl rfl Try.underlying22 h0 16 (by kernel_rfl)) (slice_sized hsz (j := 1) rfl rfl Try.underlying23 h1 480 (by kernel_rfl))
end HoldNew
/-! The step from the walk to the row of HoldNew, with the reach of what came in. -/
namespace HoldNew
set_option maxRecDepth 100000 in
theorem lifted (os : Os) (started : os.Started) (H : Type) (enc : TypeId × Value → H) :
    ReturnsInHanded {} Try.checked os 7 .any (Rows.holdNewSpec.pre6 enc Try.prog Try.f7 Rows.holdNewRow.domain false) (Rows.holdNewSpec.post enc Try.prog Try.f7 false true false false) := by
  refine returnsInHanded_of_change_sized (C := Try.checked) own started (by kernel_rfl) Try.func7
    (ChangeSpec.witness6 (enc := enc) (C := Try.checked) false ⟨#[], #[.slice none 0 0, .slice none 0 0, .agg #[.int .i64 0, .int .i64 0, .int .i64 0, .string ⟨#[]⟩, .int .i64 0, .string ⟨#[]⟩, .string ⟨#[]⟩, .string ⟨#[]⟩, .slice none 0 0, .slice none 0 0, .bool false, .int .i64 0, .int .i64 0, .int .i64 0, .bool false, .string ⟨#[]⟩, .string ⟨#[]⟩, .int .i64 0, .string ⟨#[]⟩, .string ⟨#[]⟩, .int .i64 0, .int .i64 0, .slice none 0 0, .string ⟨#[]⟩, .string ⟨#[]⟩, .int .i64 0, .string ⟨#[]⟩, .string ⟨#[]⟩, .int .i64 0, .int .i64 0, .string ⟨#[]⟩, .string ⟨#[]⟩, .int .i64 0, .int .i64 0, .slice none 0 0, .slice none 0 0], .string ByteArray.empty], []⟩ 8 (by kernel_rfl) (by kernel_rfl) (by kernel_rfl) (by kernel_rfl)) ?_
  intro W base args ds gs before hval0 hW hcnd hsz0 _
  have hval : ∀ (j : Nat) t v, Try.f7.params[j]? = some t → args[j]? = some v → Value.okWide Try.prog W .any base t v := hval0
  have hW' := hW
  obtain ⟨p, q, hA0, hV, rfl, hfz, hnd⟩ := hW
  have hA : DataW.TrodAll enc Try.prog W 0 (fun _ => true) true Try.f7.params.toList args.toList ds p := hA0
  obtain ⟨rfl, rfl⟩ := trodVars_none hV
  have hsz : (DataW.weightsEach Try.prog Try.f7.params.toList ds).all (· ≤ reachBytes) = true := by
    have h : (DataW.weightsEach Try.prog (Try.f7.params.toList ++ []) (ds ++ [])).all (· ≤ reachBytes) = true := hsz0
    rw [List.append_nil, List.append_nil] at h
    exact h
  have hlen := trodAll_len _ _ _ _ hA
  obtain ⟨d0, d1, d2, d3, rfl⟩ : ∃ d0 d1 d2 d3, ds = [d0, d1, d2, d3] := by
    rw [Try.params7] at hlen
    exact list4 hlen
  refine (entry H enc W base args [d0, d1, d2, d3] p hval hA hsz).mono fun e W' ⟨he, bel⟩ => ?_
  subst he
  exact ⟨_, rfl, _, _, _, [], _, [], hW', trodAll_mk1 (shut_bool Try.underlying4 _), readback laidOut _ _ _ _ (by rw [Try.params7]; exact of_decide_eq_true (by kernel_rfl)) hA bel, rfl, bel.frame _, fun h => by cases h⟩

theorem over : Rows.holdNewRow.holds Try.pinned (OpenSpec.ofChange Rows.holdNewSpec) :=
  OpenClaim.holds_of_wide 7 Try.f7 rfl rfl rfl rfl rfl rfl rfl ⟨rfl, rfl, rfl, rfl, rfl⟩ rfl rfl rfl rfl rfl (by kernel_rfl) Try.func7 (by kernel_rfl)
    (of_decide_eq_true (by kernel_rfl)) (by unfold Func.isWrapper; first | (rw [if_pos (by decide +kernel)]; kernel_rfl) | (rw [if_neg (by decide +kernel)]; exact ⟨rfl, rfl⟩))
    (fun os started H enc _ => lifted os started H enc)

/-- THE STATEMENT -/
theorem proved : Rows.HoldNewSaid := over
end HoldNew
#print axioms HoldNew.proved
end Go.Proofs.Ytgoomcnaemfjcaa
