


/- The reference's All, walked. -/
import Derived.Test.YtgoomcnaemfjcaaHldL
namespace Go.Proofs.Ytgoomcnaemfjcaa
open Go.RowKit

def BK (w wr : World) (K : List HA) : Prop := ∀ x ∈ K, (Ints w x.2.1 x.1.mem ∧ x.1.mem.length < 9223372036854775808) ∧ EI.Own wr w.heap.size (.slice x.2.2.2.1 x.1.back.length x.2.2.2.2) x.1.back
theorem BK.later {w wr w' : World} {K : List HA} (h : BK w wr K) (hb : Below wr.heap.size wr w') : BK w w' K := fun x hx => ⟨(h x hx).1, El.Own.later (h x hx).2 hb⟩
theorem BK.block {w wr w' : World} {K : List HA} (h : BK w wr K) (hb : ∀ g, IsTy wr g 3 → w'.heap[g]? = wr.heap[g]?) : BK w w' K := fun x hx => ⟨(h x hx).1, (h x hx).2.block fun g hg => hb g ((h x hx).2.ty hg)⟩
theorem st6_step {z : List (ByteArray × Rec)} {i k : Nat} (hk : k < z.length) (hik : i < k) (h : Hd) : ((z.drop (i + 1)).take (k + 1 - (i + 1))).foldl st6 h = st6 (((z.drop (i + 1)).take (k - (i + 1))).foldl st6 h) z[k] := by
  rw [show k + 1 - (i + 1) = (k - (i + 1)) + 1 by omega, List.take_succ_eq_append_getElem (by rw [List.length_drop]; omega), List.foldl_append]
  simp only [List.getElem_drop, List.foldl_cons, List.foldl_nil]
  congr 2
  omega
set_option maxRecDepth 100000 in
set_option maxHeartbeats 4000000 in
theorem rall_any (ids : List ByteArray) (l : List Rec) (ia ra : Option Addr) (ic rc : Nat) (w : World) (hlen : ids.length = l.length) (hI : ES.At w ia ids) (hR : ER.At w ra l) (hA : RecAll w l) (hl : l.length ≤ 1000) :
    Calls Try.prog 12 #[.slice ia ids.length ic, .slice ra l.length rc] w (RetH w (allH ids l)) := by
  obtain ⟨z, hz⟩ : ∃ z, z = ids.zip l := ⟨_, rfl⟩
  have HD := Lib.hid (show allH ids l = refU z z.length from by
    rw [refU_run, hz]
    exact if_pos hlen)
  obtain ⟨n, hn⟩ : ∃ n, n = l.length := ⟨_, rfl⟩
  have hzl : z.length = n := by rw [hz, List.length_zip]; omega
  have hzat : ∀ j (hj : j < z.length) (h1 : j < ids.length) (h2 : j < l.length), z[j] = (ids[j], l[j]) := fun j hj h1 h2 => by simp [hz]
  have HZ := Lib.hid hz
  have HZL := Lib.hid hzl
  have HZA := Lib.hid hzat
  have HI := Lib.hid hI
  have HR := Lib.hid hR
  have HRA := Lib.hid hA
  have HLEN := Lib.hid hlen
  have HN := Lib.hid hn
  have HMK := Lib.hid (show ∀ i wy, i < n → ES.At wy ia ids → ER.At wy ra l → RecAll wy l → Calls Try.prog 24 #[.slice ia n ic, .slice ra n rc, .int .i64 i] wy (RetB (.bool (mkB z i)) wy) from fun i wy hi h1 h2 h3 => by
    rw [hz]
    exact rmade_any ids l ia ra ic rc n i wy hlen hn (by omega) h1 h2 h3 hi)
  rw [hlen, ← hn]
  rw [← hn] at hl
  clear hz hzl hzat hI hR hA hlen hn
  have e0 : ((n : Int) == (n : Int)) = true := by simp
  go_enter Try.func12, Try.ntmps12
  go_wp2_with fail
  go_loopg [5, 6] (n + 1) (fun g v5 v6 wr => ∃ (i : Nat) (K : List HA), i ≤ n ∧ g + i = n + 1 ∧ v6 = .int .i64 i ∧ Below w.heap.size w wr ∧ EH.Own wr w.heap.size v5 K ∧ K.map (·.1) = refU z i ∧ BK w wr K ∧ K.length ≤ i)
  case atStart => exact ⟨0, [], by omega, by omega, rfl, Below.refl _ _, El.Own.nil _ _ _, rfl, fun x hx => (by cases hx), by simp⟩
  case round =>
    obtain ⟨i, K, hi, hgi, rfl, hbr, hown, hK, hbk, hKl⟩ := hrel
    have HBR := Lib.hid hbr
    have HOWN := Lib.hid hown
    have HK := Lib.hid hK
    have HBK := Lib.hid hbk
    by_cases hlt : i < n
    · have n1 : (i : Int) < (n : Int) := by omega
      have n0 : (0 : Int) ≤ (i : Int) := by omega
      have hmk := HMK.out i wr hlt (HI.out.later hbr) (HR.out.later hbr) (HRA.out.later hbr)
      cases hm : mkB z i
      · rw [hm] at hmk
        have HM := Lib.hid hmk
        have HMB := Lib.hid hm
        clear hmk hm hown hK hbk hbr
        go_wp2_with fail
        refine Calls.mono HM.out ?_
        rintro e w1 ⟨rfl, hb1⟩
        have HB1 := Lib.hid hb1
        clear hb1
        go_wp2_with fail
        go_roundg (n - i)
        case measure => omega
        case rel => exact ⟨i + 1, K, by omega, by omega, by go_num, HBR.out.trans (HB1.out.mono HBR.out.size), HOWN.out.later HB1.out, by rw [refU_succ, HMB.out, HK.out]; simp, HBK.out.later HB1.out, by omega⟩
      · rw [hm] at hmk
        have HM := Lib.hid hmk
        have HMB := Lib.hid hm
        have hiI : i < ids.length := by have := HLEN.out; have := HN.out; omega
        have hiL : i < l.length := by have := HN.out; omega
        obtain ⟨ib, io, rfl, _⟩ := HI.out.head (by omega)
        obtain ⟨rb, ro, rfl, _⟩ := HR.out.head (by omega)
        have hsc0 := str_cell HI.out hiI
        obtain ⟨_, _, _, k6, k8⟩ := rc_cells HR.out HRA.out hiL
        obtain ⟨hrf, hrm⟩ := HRA.out _ (List.getElem_mem hiL)
        have hzi := HZA.out i (by have := HZL.out; omega) hiI hiL
        obtain ⟨r, hr⟩ : ∃ r, r = l[i] := ⟨_, rfl⟩
        obtain ⟨s, hs⟩ : ∃ s, s = ids[i] := ⟨_, rfl⟩
        rw [← hr] at k6 k8 hrf hrm hzi
        rw [← hs] at hsc0 hzi
        have HZI := Lib.hid hzi
        have HRF := Lib.hid hrf
        have HRM := Lib.hid hrm
        clear hmk hm hown hK hbk hr hs hzi hrf hrm
        go_wp2_with fail
        refine Calls.mono HM.out ?_
        rintro e w1 ⟨rfl, hb1⟩
        have HB1 := Lib.hid (HBR.out.trans (hb1.mono HBR.out.size))
        have HO1 := Lib.hid (HOWN.out.later hb1)
        have HK1 := Lib.hid (HBK.out.later hb1)
        have s0 := cell_later HB1.out hsc0
        have s6 := cell_later HB1.out k6
        have s8 := cell_later HB1.out k8
        clear hb1 hbr
        go_upto_region 8 with fail
        refine wp_flow_j (fun β L' w' => Below w1.heap.size w1 w' ∧ (L' 15 = true → ∃ hb, β 15 = ptr hb ∧ w1.heap.size ≤ hb ∧ IsTy w' hb 31 ∧ BoxAt w' hb (if L' 16 then haC (⟨s, r.name, r.members, []⟩, (r.ma, r.mc, none, 0)) else [.string ⟨#[]⟩, .string ⟨#[]⟩, .slice none 0 0, .slice none 0 0]))) (by kernel_rfl) (by kernel_rfl) ?h0 ?_
        case h0 => exact ⟨(Below.refl _ _).drew, fun e => (by cases e)⟩
        iterate 15 (((with_reducible refine FlowJ.pure (v := ?_) ?_ ?_ ?_ ?_); rotate_left 1; (focus (intro _; rfl)); (focus (intro β L' w' hJ hat; (try dsimp only at hJ); (try dsimp only); simpa only [setL, Nat.reduceEqDiff, if_false] using hJ)); (focus (intro β L' w' hJ hat; (try dsimp only at hJ); (have y0 := cell_later hJ.1 s0; have y6 := cell_later hJ.1 s6; have y8 := cell_later hJ.1 s8); go_simp; (try with_reducible rfl); done)); (try simp only [Act.put, List.setIfInBounds_toArray, List.set_cons_zero, List.set_cons_succ, Nat.reduceAdd])))
        ((with_reducible refine FlowJ.ghost ?_ ?_ ?_); (focus (intro _; rfl)); (focus (intro β L' w' hJ hat K' hK; (try dsimp only at hJ); ((have n16 := hat.not (j := 16) (by kernel_rfl)); have un := hat.un; simp only [un, n16] at hJ; go_simp; refine hK.out _ _ ?_; simp only [updG, setL, Nat.reduceEqDiff, if_true, if_false, n16]; exact ⟨hJ.1.alloc hJ.1.size _, fun _ => ⟨w'.heap.size, rfl, hJ.1.size, ⟨_, heap_alloc_new w' _⟩, BoxAt.new w' [.string ⟨#[]⟩, .string ⟨#[]⟩, .slice none 0 0, .slice none 0 0] 31⟩⟩))); (try simp only [Act.put, List.setIfInBounds_toArray, List.set_cons_zero, List.set_cons_succ, Nat.reduceAdd]))
        ((with_reducible refine FlowJ.eff ?_ ?_ ?_); (focus (intro _; rfl)); (focus (intro β L' w' hJ hat K' hK; (try dsimp only at hJ); ((have p15 := hat.pre 15 (by kernel_rfl)); have un := hat.un; simp only [un, p15] at hJ; obtain ⟨hb, e15, g1, g2, g3⟩ := hJ.2 trivial; have e15' : β 15 = Value.pointer (some ⟨hb, 0, none⟩) := e15; simp only [Bool.false_eq_true, if_false] at g3; obtain ⟨c0, f0⟩ := g3 0 _ rfl; obtain ⟨c1, f1⟩ := g3 1 _ rfl; obtain ⟨c2, f2⟩ := g3 2 _ rfl; obtain ⟨c3, f3⟩ := g3 3 _ rfl; have hd := g3.stored (vs := haC (⟨s, r.name, r.members, []⟩, (r.ma, r.mc, none, 0))) rfl; simp only [haC, World.setCells, Nat.zero_add, Nat.reduceAdd] at hd; clear e15; go_simp; rw [← e15']; refine hK.out _ ?_; simp only [setL, if_true]; refine ⟨?_, fun _ => ⟨hb, e15', g1, (((g2.setCell _ _ _).setCell _ _ _).setCell _ _ _).setCell _ _ _, hd⟩⟩; (repeat refine Below.setCell ?_ g1 _); exact hJ.1))); (try simp only [Act.put, Nat.reduceAdd]))
        refine FlowJ.stop ?_
        dsimp only
        intro β w2 hJ
        obtain ⟨hb12, hbx⟩ := hJ
        obtain ⟨hb, e15, hb1, hb2, hb3⟩ := hbx trivial
        simp only [if_true] at hb3
        rw [e15]
        have HB2 := Lib.hid (HB1.out.trans (hb12.mono HB1.out.size))
        have HO2 := Lib.hid (HO1.out.later hb12)
        have HK2 := Lib.hid (HK1.out.later hb12)
        have HTY := Lib.hid hb2
        have HBOX := Lib.hid hb3
        have HNE := Lib.hid (show ∀ g, u5.ownBlock = some g → g ≠ hb from fun g hg => by have := (HO1.out.lt g hg).2; omega)
        have hbw : w.heap.size ≤ hb := by have := HB1.out.size; omega
        clear hb12 hbx e15 hb2 hb3 s0 s6 s8
        go_wp2_with fail
        go_loopg [8] (n - i) (fun g v8 wr => ∃ (k : Nat) (b : List Int) (ba : Option Addr) (bc : Nat), i < k ∧ k ≤ n ∧ g + k = n + 1 ∧ v8 = .int .i64 k ∧ Below w.heap.size w wr ∧ EH.Own wr w.heap.size u5 K ∧ BK w wr K ∧ IsTy wr hb 31 ∧ BoxAt wr hb (haC (⟨s, r.name, r.members, b⟩, (r.ma, r.mc, ba, bc))) ∧ EI.Own wr w.heap.size (.slice ba b.length bc) b ∧ (⟨s, r.name, r.members, b⟩ : Hd) = ((z.drop (i + 1)).take (k - (i + 1))).foldl st6 (h0 (s, r)) ∧ b.length ≤ k)
        case atStart => exact ⟨i + 1, [], none, 0, by omega, by omega, by omega, by go_num, HB2.out, HO2.out, HK2.out, HTY.out, HBOX.out, El.Own.nil _ _ _, by simp [h0], by simp⟩
        case round =>
          obtain ⟨k, b, ba, bc, hik, hkn, hgk, rfl, hbr2, ho2, hk2, hty2, hbox2, hob2, heq2, hbl2⟩ := hrel
          have HBR2 := Lib.hid hbr2
          have HOW2 := Lib.hid ho2
          have HKK2 := Lib.hid hk2
          have HTY2 := Lib.hid hty2
          have HBOX2 := Lib.hid hbox2
          have HOB2 := Lib.hid hob2
          have HEQ2 := Lib.hid heq2
          obtain ⟨q0, _⟩ := hbox2 0 _ rfl
          obtain ⟨q1, _⟩ := hbox2 1 _ rfl
          obtain ⟨q2, _⟩ := hbox2 2 _ rfl
          obtain ⟨q3, f3⟩ := hbox2 3 _ rfl
          simp only at q0 q1 q2 q3
          by_cases hlt2 : k < n
          · have hkL : k < l.length := by have := HN.out; omega
            have hkI : k < ids.length := by have := HN.out; have := HLEN.out; omega
            have hkz : k < z.length := by have := HZL.out; omega
            obtain ⟨m0, m1, m5, _, _⟩ := rc_cells (HR.out.later hbr2) (HRA.out.later hbr2) hkL
            have hzk := HZA.out k hkz hkI hkL
            obtain ⟨rk, hrk⟩ : ∃ x, x = l[k] := ⟨_, rfl⟩
            obtain ⟨sk, hsk⟩ : ∃ x, x = ids[k] := ⟨_, rfl⟩
            rw [← hrk] at m0 m1 m5 hzk
            rw [← hsk] at hzk
            obtain ⟨X, hX⟩ : ∃ X : Hd, X = ⟨s, r.name, r.members, b⟩ := ⟨_, rfl⟩
            have HSTEP := Lib.hid (show ((z.drop (i + 1)).take (k + 1 - (i + 1))).foldl st6 (h0 (s, r)) = st6 X (sk, rk) from by
              rw [st6_step hkz hik, ← HEQ2.out, hzk, hX])
            have HXX := Lib.hid hX
            have hint := hob2.at
            obtain ⟨a', c', e', hl1, hl2, hat', _⟩ := hint
            simp only [Value.slice.injEq, true_and] at e'
            obtain ⟨rfl, rfl⟩ := e'
            have HMZ := Lib.hid (HRM.out.later hbr2)
            have HBZ := Lib.hid hat'.ints
            have HC1 := Lib.hid (show ∀ wy, Ints wy r.ma r.members → Calls Try.prog 18 #[.slice r.ma r.members.length r.mc, .int .i64 rk.author] wy (RetS (.bool (decide (rk.author ∈ r.members))) wy) from fun wy h => in_any _ _ _ _ wy h HRF.out.ml)
            have HC2 := Lib.hid (show ∀ wy, Ints wy ba b → Calls Try.prog 18 #[.slice ba b.length bc, .int .i64 rk.author] wy (RetS (.bool (decide (rk.author ∈ b))) wy) from fun wy h => in_any _ _ _ _ wy h (by omega))
            have p1 : (k : Int) < (n : Int) := by omega
            have p0 : (0 : Int) ≤ (k : Int) := by omega
            have hS : ∀ wy : World, Below wr.heap.size wr wy → (wy.cell? ⟨rb, ro + k * 36, none⟩ = some (.int .i64 rk.kind) ∧ wy.cell? ⟨rb, ro + k * 36 + 1, none⟩ = some (.int .i64 rk.author) ∧ wy.cell? ⟨rb, ro + k * 36 + 5, none⟩ = some (.string rk.target) ∧ wy.cell? ⟨hb, 0, none⟩ = some (.string s) ∧ wy.cell? ⟨hb, 2, none⟩ = some (.slice r.ma r.members.length r.mc) ∧ wy.cell? ⟨hb, 3, none⟩ = some (.slice ba b.length bc)) ∧ Ints wy r.ma r.members ∧ Ints wy ba b := fun wy hy => ⟨⟨cell_later hy m0, cell_later hy m1, cell_later hy m5, cell_later hy q0, cell_later hy q2, cell_later hy q3⟩, HMZ.out.later hy, HBZ.out.later hy⟩
            clear hrk hsk hzk hX hat' hl1 hl2 hbr2 ho2 hk2 hty2 hbox2 hob2 heq2
            cases e6 : (rk.kind == (6 : Int))
            · have HNC := Lib.hid (show st6 X (sk, rk) = ⟨s, r.name, r.members, b⟩ from by
                rw [← HXX.out]
                exact if_neg (by simpa using e6))
              go_upto_region 12 with fail
              refine wp_flow_s [] [] (by kernel_rfl) (by kernel_rfl) (by kernel_rfl) ?_
              repeat (first | ((with_reducible refine Flow.pure hS StayG.nil (v := ?_) ?_ ?_ ?_ ?_); rotate_left 1; (focus kernel_rfl); (focus (intro _; rfl)); (focus (intro β wx hSw; (try dsimp only at hSw); go_simp; (try with_reducible rfl); done)); (try simp only [Act.put, List.setIfInBounds_toArray, List.set_cons_zero, List.set_cons_succ, Nat.reduceAdd])) | ((with_reducible refine Flow.skip StayG.nil ?_ ?_ ?_); (focus kernel_rfl); (focus (intro _; rfl)); (try simp only [Act.put, List.setIfInBounds_toArray, List.set_cons_zero, List.set_cons_succ, Nat.reduceAdd])))
              ((with_reducible refine Flow.stop ?_); dsimp only; intro β8 w8 hI8)
              have hb8 := hI8.below
              have HB8 := Lib.hid (HBR2.out.trans (hb8.mono HBR2.out.size))
              have HO8 := Lib.hid (HOW2.out.later hb8)
              have HK8 := Lib.hid (HKK2.out.later hb8)
              have HT8 := Lib.hid (HTY2.out.block (hb8.block hb HTY2.out.lt))
              have HX8 := Lib.hid (HBOX2.out.later hb8)
              have HE8 := Lib.hid (HOB2.out.later hb8)
              clear hS hI8 hb8 q0 q1 q2 q3 f3 m0 m1 m5
              go_wp2_with fail
              go_roundg (n - k)
              case measure => omega
              case rel => exact ⟨k + 1, b, ba, bc, by omega, by omega, by omega, by go_num, HB8.out, HO8.out, HK8.out, HT8.out, HX8.out, HE8.out, by rw [HSTEP.out, HNC.out], by omega⟩
            · have H6 := Lib.hid (show rk.kind = 6 from by simpa using e6)
              cases e7 : (rk.target.toList == s.toList)
              · have HNC := Lib.hid (show st6 X (sk, rk) = ⟨s, r.name, r.members, b⟩ from by
                  rw [← HXX.out]
                  unfold st6
                  rw [if_pos H6.out]
                  unfold backH
                  rw [if_neg]
                  rintro ⟨h1, _⟩
                  rw [HXX.out] at h1
                  exact (of_decide_eq_false (str_eq.symm.trans e7)) h1.symm)
                go_upto_region 12 with fail
                refine wp_flow_s [] [] (by kernel_rfl) (by kernel_rfl) (by kernel_rfl) ?_
                repeat (first | ((with_reducible refine Flow.pure hS StayG.nil (v := ?_) ?_ ?_ ?_ ?_); rotate_left 1; (focus kernel_rfl); (focus (intro _; rfl)); (focus (intro β wx hSw; (try dsimp only at hSw); go_simp; (try with_reducible rfl); done)); (try simp only [Act.put, List.setIfInBounds_toArray, List.set_cons_zero, List.set_cons_succ, Nat.reduceAdd])) | ((with_reducible refine Flow.skip StayG.nil ?_ ?_ ?_); (focus kernel_rfl); (focus (intro _; rfl)); (try simp only [Act.put, List.setIfInBounds_toArray, List.set_cons_zero, List.set_cons_succ, Nat.reduceAdd])))
                ((with_reducible refine Flow.stop ?_); dsimp only; intro β8 w8 hI8)
                have hb8 := hI8.below
                have HB8 := Lib.hid (HBR2.out.trans (hb8.mono HBR2.out.size))
                have HO8 := Lib.hid (HOW2.out.later hb8)
                have HK8 := Lib.hid (HKK2.out.later hb8)
                have HT8 := Lib.hid (HTY2.out.block (hb8.block hb HTY2.out.lt))
                have HX8 := Lib.hid (HBOX2.out.later hb8)
                have HE8 := Lib.hid (HOB2.out.later hb8)
                clear hS hI8 hb8 q0 q1 q2 q3 f3 m0 m1 m5
                go_wp2_with fail
                go_roundg (n - k)
                case measure => omega
                case rel => exact ⟨k + 1, b, ba, bc, by omega, by omega, by omega, by go_num, HB8.out, HO8.out, HK8.out, HT8.out, HX8.out, HE8.out, by rw [HSTEP.out, HNC.out], by omega⟩
              · have H7 := Lib.hid (show rk.target = s from of_decide_eq_true (str_eq.symm.trans e7))
                cases e8 : decide (rk.author ∈ r.members)
                · rw [e8] at HC1
                  have HNC := Lib.hid (show st6 X (sk, rk) = ⟨s, r.name, r.members, b⟩ from by
                    rw [← HXX.out]
                    unfold st6
                    rw [if_pos H6.out]
                    unfold backH
                    rw [if_neg]
                    rintro ⟨_, h1, _⟩
                    rw [HXX.out] at h1
                    exact (of_decide_eq_false e8) h1)
                  clear e8
                  go_upto_region 12 with fail
                  refine wp_flow_s [] [] (by kernel_rfl) (by kernel_rfl) (by kernel_rfl) ?_
                  repeat (first | ((with_reducible refine Flow.pure hS StayG.nil (v := ?_) ?_ ?_ ?_ ?_); rotate_left 1; (focus kernel_rfl); (focus (intro _; rfl)); (focus (intro β wx hSw; (try dsimp only at hSw); go_simp; (try with_reducible rfl); done)); (try simp only [Act.put, List.setIfInBounds_toArray, List.set_cons_zero, List.set_cons_succ, Nat.reduceAdd])) | ((with_reducible refine Flow.skip StayG.nil ?_ ?_ ?_); (focus kernel_rfl); (focus (intro _; rfl)); (try simp only [Act.put, List.setIfInBounds_toArray, List.set_cons_zero, List.set_cons_succ, Nat.reduceAdd])))
                  ((with_reducible refine Flow.call hS StayG.nil (v := ?_) ?_ ?_ ?_ ?_); rotate_left 1; (focus kernel_rfl); (focus (intro _; rfl)); (focus (intro β L wx hI hat hSw K' hK; (try dsimp only at hSw); go_simp; go_at_call 18; refine Calls.mono (HC1.out _ hSw.2.1) ?_; rintro e w' ⟨rfl, rfl⟩; exact hK.out _ (Below.refl _ _))); (try simp only [Act.put, List.setIfInBounds_toArray, List.set_cons_zero, List.set_cons_succ, Nat.reduceAdd]))
                  repeat (first | ((with_reducible refine Flow.pure hS StayG.nil (v := ?_) ?_ ?_ ?_ ?_); rotate_left 1; (focus kernel_rfl); (focus (intro _; rfl)); (focus (intro β wx hSw; (try dsimp only at hSw); go_simp; (try with_reducible rfl); done)); (try simp only [Act.put, List.setIfInBounds_toArray, List.set_cons_zero, List.set_cons_succ, Nat.reduceAdd])) | ((with_reducible refine Flow.skip StayG.nil ?_ ?_ ?_); (focus kernel_rfl); (focus (intro _; rfl)); (try simp only [Act.put, List.setIfInBounds_toArray, List.set_cons_zero, List.set_cons_succ, Nat.reduceAdd])))
                  ((with_reducible refine Flow.stop ?_); dsimp only; intro β8 w8 hI8)
                  have hb8 := hI8.below
                  have HB8 := Lib.hid (HBR2.out.trans (hb8.mono HBR2.out.size))
                  have HO8 := Lib.hid (HOW2.out.later hb8)
                  have HK8 := Lib.hid (HKK2.out.later hb8)
                  have HT8 := Lib.hid (HTY2.out.block (hb8.block hb HTY2.out.lt))
                  have HX8 := Lib.hid (HBOX2.out.later hb8)
                  have HE8 := Lib.hid (HOB2.out.later hb8)
                  clear hS hI8 hb8 q0 q1 q2 q3 f3 m0 m1 m5
                  go_wp2_with fail
                  go_roundg (n - k)
                  case measure => omega
                  case rel => exact ⟨k + 1, b, ba, bc, by omega, by omega, by omega, by go_num, HB8.out, HO8.out, HK8.out, HT8.out, HX8.out, HE8.out, by rw [HSTEP.out, HNC.out], by omega⟩
                · rw [e8] at HC1
                  have H8 := Lib.hid (of_decide_eq_true e8)
                  clear e8
                  cases e9 : decide (rk.author ∈ b)
                  · rw [e9] at HC2
                    have H9 := Lib.hid (of_decide_eq_false e9)
                    clear e9
                    go_upto_region 12 with fail
                    refine wp_flow_s [] [] (by kernel_rfl) (by kernel_rfl) (by kernel_rfl) ?_
                    repeat (first | ((with_reducible refine Flow.pure hS StayG.nil (v := ?_) ?_ ?_ ?_ ?_); rotate_left 1; (focus kernel_rfl); (focus (intro _; rfl)); (focus (intro β wx hSw; (try dsimp only at hSw); go_simp; (try with_reducible rfl); done)); (try simp only [Act.put, List.setIfInBounds_toArray, List.set_cons_zero, List.set_cons_succ, Nat.reduceAdd])) | ((with_reducible refine Flow.skip StayG.nil ?_ ?_ ?_); (focus kernel_rfl); (focus (intro _; rfl)); (try simp only [Act.put, List.setIfInBounds_toArray, List.set_cons_zero, List.set_cons_succ, Nat.reduceAdd])))
                    ((with_reducible refine Flow.call hS StayG.nil (v := ?_) ?_ ?_ ?_ ?_); rotate_left 1; (focus kernel_rfl); (focus (intro _; rfl)); (focus (intro β L wx hI hat hSw K' hK; (try dsimp only at hSw); go_simp; go_at_call 18; refine Calls.mono (HC1.out _ hSw.2.1) ?_; rintro e w' ⟨rfl, rfl⟩; exact hK.out _ (Below.refl _ _))); (try simp only [Act.put, List.setIfInBounds_toArray, List.set_cons_zero, List.set_cons_succ, Nat.reduceAdd]))
                    repeat (first | ((with_reducible refine Flow.pure hS StayG.nil (v := ?_) ?_ ?_ ?_ ?_); rotate_left 1; (focus kernel_rfl); (focus (intro _; rfl)); (focus (intro β wx hSw; (try dsimp only at hSw); go_simp; (try with_reducible rfl); done)); (try simp only [Act.put, List.setIfInBounds_toArray, List.set_cons_zero, List.set_cons_succ, Nat.reduceAdd])) | ((with_reducible refine Flow.skip StayG.nil ?_ ?_ ?_); (focus kernel_rfl); (focus (intro _; rfl)); (try simp only [Act.put, List.setIfInBounds_toArray, List.set_cons_zero, List.set_cons_succ, Nat.reduceAdd])))
                    ((with_reducible refine Flow.call hS StayG.nil (v := ?_) ?_ ?_ ?_ ?_); rotate_left 1; (focus kernel_rfl); (focus (intro _; rfl)); (focus (intro β L wx hI hat hSw K' hK; (try dsimp only at hSw); go_simp; go_at_call 18; refine Calls.mono (HC2.out _ hSw.2.2) ?_; rintro e w' ⟨rfl, rfl⟩; exact hK.out _ (Below.refl _ _))); (try simp only [Act.put, List.setIfInBounds_toArray, List.set_cons_zero, List.set_cons_succ, Nat.reduceAdd]))
                    repeat (first | ((with_reducible refine Flow.pure hS StayG.nil (v := ?_) ?_ ?_ ?_ ?_); rotate_left 1; (focus kernel_rfl); (focus (intro _; rfl)); (focus (intro β wx hSw; (try dsimp only at hSw); go_simp; (try with_reducible rfl); done)); (try simp only [Act.put, List.setIfInBounds_toArray, List.set_cons_zero, List.set_cons_succ, Nat.reduceAdd])) | ((with_reducible refine Flow.skip StayG.nil ?_ ?_ ?_); (focus kernel_rfl); (focus (intro _; rfl)); (try simp only [Act.put, List.setIfInBounds_toArray, List.set_cons_zero, List.set_cons_succ, Nat.reduceAdd])))
                    ((with_reducible refine Flow.stop ?_); dsimp only; intro β8 w8 hI8)
                    have hb8 := hI8.below
                    have HB8 := Lib.hid (HBR2.out.trans (hb8.mono HBR2.out.size))
                    have HO8 := Lib.hid (HOW2.out.later hb8)
                    have HK8 := Lib.hid (HKK2.out.later hb8)
                    have HT8 := Lib.hid (HTY2.out.block (hb8.block hb HTY2.out.lt))
                    have HX8 := Lib.hid (HBOX2.out.later hb8)
                    have HE8 := Lib.hid (HOB2.out.later hb8)
                    have HJ1 := Lib.hid (cell_later hb8 m1)
                    obtain ⟨g3c, g3f⟩ := HX8.out 3 _ rfl
                    simp only at g3c
                    have HST := Lib.hid (RbJ.start (n := rk.author) (l := b) (b0 := undef) (b3 := undef) (b9 := undef) (b10 := undef) g3c g3f)
                    have hbt : hb < w8.heap.size := HT8.out.lt
                    have HRBH := Lib.hid (show ¬ rb = hb from fun e => by
                      have h1 : rb < w.heap.size := World.block_lt_of_cell? _ _ (rc_cells HR.out HRA.out hkL).c0
                      omega)
                    have HBBL := Lib.hid (show ∀ w', Chg (fun k => k = hb) w8 w' → EI.At w' ba b from fun w' hc => by
                      obtain ⟨a', c', e', _, _, hat', _⟩ := (HE8.out.block fun g hg => hc.block g (HE8.out.lt g hg).2 fun e => absurd e ((HE8.out.ty hg).ne HT8.out (by decide))).at
                      simp only [Value.slice.injEq, true_and] at e'
                      obtain ⟨rfl, rfl⟩ := e'
                      exact hat')
                    clear hS hI8 hb8 q0 q1 q2 q3 f3 m0 m1 m5 g3c g3f
                    go_upto_region 13 with fail
                    refine wp_flow_j (fun β L' w' => RbJ w8 hb rk.author (.slice ba b.length bc) b (β 0) (β 3) (β 9) (β 10) (L' 0) (L' 3) (L' 9) (L' 10) (L' 12) w') (by kernel_rfl) (by kernel_rfl) ?h2 ?_
                    case h2 => exact HST.out
                    ((with_reducible refine FlowJ.ghost ?_ ?_ ?_); (focus (intro _; rfl)); (focus (intro β L' w' hJ hat K' hK; (try dsimp only at hJ); ((have n3 := hat.not (j := 3) (by kernel_rfl)); (have n10 := hat.not (j := 10) (by kernel_rfl)); have un := hat.un; simp only [un, n3, n10] at hJ; go_simp; refine hK.out _ _ ?_; simp only [updG, setL, Nat.reduceEqDiff, if_true, if_false, n3, n10]; exact hJ.nil))); (try simp only [Act.put, List.setIfInBounds_toArray, List.set_cons_zero, List.set_cons_succ, Nat.reduceAdd]))
                    ((with_reducible refine FlowJ.pure (v := ?_) ?_ ?_ ?_ ?_); rotate_left 1; (focus (intro _; rfl)); (focus (intro β L' w' hJ hat; (try dsimp only at hJ); (try dsimp only); simpa only [setL, Nat.reduceEqDiff, if_false] using hJ)); (focus (intro β L' w' hJ hat; (try dsimp only at hJ); skip; go_simp; (try with_reducible rfl); done)); (try simp only [Act.put, List.setIfInBounds_toArray, List.set_cons_zero, List.set_cons_succ, Nat.reduceAdd]))
                    ((with_reducible refine FlowJ.pure (v := ?_) ?_ ?_ ?_ ?_); rotate_left 1; (focus (intro _; rfl)); (focus (intro β L' w' hJ hat; (try dsimp only at hJ); (try dsimp only); simpa only [setL, Nat.reduceEqDiff, if_false] using hJ)); (focus (intro β L' w' hJ hat; (try dsimp only at hJ); ((have n12 := hat.not (j := 12) (by kernel_rfl)); have yc := hJ.cell; simp only [n12, Bool.false_eq_true, if_false] at yc); go_simp; (try with_reducible rfl); done)); (try simp only [Act.put, List.setIfInBounds_toArray, List.set_cons_zero, List.set_cons_succ, Nat.reduceAdd]))
                    ((with_reducible refine FlowJ.ghost ?_ ?_ ?_); (focus (intro _; rfl)); (focus (intro β L' w' hJ hat K' hK; (try dsimp only at hJ); ((have p0 := hat.pre 0 (by kernel_rfl)); (have n10 := hat.not (j := 10) (by kernel_rfl)); have un := hat.un; simp only [un, p0, n10] at hJ; obtain ⟨v', w2, hr, ho, hg, hn⟩ := El.app (E := EI) w' w8.heap.size (β 0) [] b (hJ.e0 rfl rfl) ba bc (HBBL.out w' hJ.chg) (by simp; omega) hJ.chg.size 29; refine wp_app_eq (.tmp 85) (.tmp 87) 29 rfl _ _ rfl rfl hr ?_; refine hK.out _ _ ?_; simp only [updG, setL, Nat.reduceEqDiff, if_true, if_false, p0, n10]; exact hJ.app1 hbt (by simpa using ho) hg hn))); (try simp only [Act.put, List.setIfInBounds_toArray, List.set_cons_zero, List.set_cons_succ, Nat.reduceAdd]))
                    iterate 4 (((with_reducible refine FlowJ.pure (v := ?_) ?_ ?_ ?_ ?_); rotate_left 1; (focus (intro _; rfl)); (focus (intro β L' w' hJ hat; (try dsimp only at hJ); (try dsimp only); simpa only [setL, Nat.reduceEqDiff, if_false] using hJ)); (focus (intro β L' w' hJ hat; (try dsimp only at hJ); skip; go_simp; (try with_reducible rfl); done)); (try simp only [Act.put, List.setIfInBounds_toArray, List.set_cons_zero, List.set_cons_succ, Nat.reduceAdd])))
                    ((with_reducible refine FlowJ.pure (v := ?_) ?_ ?_ ?_ ?_); rotate_left 1; (focus (intro _; rfl)); (focus (intro β L' w' hJ hat; (try dsimp only at hJ); (try dsimp only); simpa only [setL, Nat.reduceEqDiff, if_false] using hJ)); (focus (intro β L' w' hJ hat; (try dsimp only at hJ); (have y1 := hJ.chg.cell HJ1.out HRBH.out); go_simp; (try with_reducible rfl); done)); (try simp only [Act.put, List.setIfInBounds_toArray, List.set_cons_zero, List.set_cons_succ, Nat.reduceAdd]))
                    ((with_reducible refine FlowJ.ghost ?_ ?_ ?_); (focus (intro _; rfl)); (focus (intro β L' w' hJ hat K' hK; (try dsimp only at hJ); ((have n10 := hat.not (j := 10) (by kernel_rfl)); have un := hat.un; simp only [un, n10] at hJ; go_simp; refine hK.out _ _ ?_; simp only [updG, setL, Nat.reduceEqDiff, if_true, if_false, n10]; exact hJ.one))); (try simp only [Act.put, List.setIfInBounds_toArray, List.set_cons_zero, List.set_cons_succ, Nat.reduceAdd]))
                    ((with_reducible refine FlowJ.ghost ?_ ?_ ?_); (focus (intro _; rfl)); (focus (intro β L' w' hJ hat K' hK; (try dsimp only at hJ); ((have p3 := hat.pre 3 (by kernel_rfl)); (have p9 := hat.pre 9 (by kernel_rfl)); have p0 := hat.down 3 0 p3 (by decide) (by kernel_rfl); (have n12 := hat.not (j := 12) (by kernel_rfl)); have un := hat.un; simp only [un, p0, p3, p9, n12] at hJ; obtain ⟨nb, eb, _, _, hbx, _⟩ := hJ.bx rfl rfl; obtain ⟨v', w2, hr, ho, hg, hn⟩ := El.app (E := EI) w' w8.heap.size (β 3) b [rk.author] (hJ.e3 rfl rfl) (some ⟨nb, 0, none⟩) 1 (El.one_at hbx) (by simp; omega) hJ.chg.size 29; refine wp_app_eq (.tmp 88) (.tmp 94) 29 rfl _ _ rfl (by show β 9 = _; exact eb) hr ?_; refine hK.out _ _ ?_; simp only [updG, setL, Nat.reduceEqDiff, if_true, if_false, p0, p3, p9, n12]; exact hJ.app2 hbt ho hg))); (try simp only [Act.put, List.setIfInBounds_toArray, List.set_cons_zero, List.set_cons_succ, Nat.reduceAdd]))
                    ((with_reducible refine FlowJ.pure (v := ?_) ?_ ?_ ?_ ?_); rotate_left 1; (focus (intro _; rfl)); (focus (intro β L' w' hJ hat; (try dsimp only at hJ); (try dsimp only); simpa only [setL, Nat.reduceEqDiff, if_false] using hJ)); (focus (intro β L' w' hJ hat; (try dsimp only at hJ); skip; go_simp; (try with_reducible rfl); done)); (try simp only [Act.put, List.setIfInBounds_toArray, List.set_cons_zero, List.set_cons_succ, Nat.reduceAdd]))
                    ((with_reducible refine FlowJ.eff ?_ ?_ ?_); (focus (intro _; rfl)); (focus (intro β L' w' hJ hat K' hK; (try dsimp only at hJ); ((have p10 := hat.pre 10 (by kernel_rfl)); have p9 := hat.down 10 9 p10 (by decide) (by kernel_rfl); have p3 := hat.down 10 3 p10 (by decide) (by kernel_rfl); have p0 := hat.down 3 0 p3 (by decide) (by kernel_rfl); have un := hat.un; simp only [un, p0, p3, p9, p10] at hJ; have yc := hJ.cell; have yf := hJ.fro; simp only [Bool.false_eq_true, if_false] at yc; obtain ⟨oa, na, ca, e5⟩ := (hJ.e10 rfl).shape; go_simp; rw [← e5]; refine hK.out _ ?_; simp only [setL, Nat.reduceEqDiff, if_true, if_false, p0, p3, p9, p10]; exact hJ.stored hbt))); (try simp only [Act.put, Nat.reduceAdd]))
                    refine FlowJ.stop ?_
                    dsimp only
                    intro β2 w9 hJ
                    have hcell := hJ.cell
                    simp only [if_true] at hcell
                    obtain ⟨ba', bc', e10, _⟩ := (hJ.e10 rfl).at
                    rw [e10] at hcell
                    have hb9 : EI.Own w9 w.heap.size (.slice ba' (b ++ [rk.author]).length bc') (b ++ [rk.author]) := by
                      have := hJ.e10 rfl
                      rw [e10] at this
                      exact this.mono HB8.out.size
                    have hkeep : ∀ g U, IsTy w8 g U → g ≠ hb → w9.heap[g]? = w8.heap[g]? := fun g U hg hne => hJ.chg.block g hg.lt hne
                    have HBE := Lib.hid hb9
                    have HB9 := Lib.hid (HB8.out.trans (hJ.chg.below HB8.out.size fun k hk => by omega))
                    have HO9 := Lib.hid (HO8.out.block fun g hg => hkeep g _ (HO8.out.ty hg) (HNE.out g hg))
                    have HK9 := Lib.hid (HK8.out.block fun g hg => hkeep g _ hg (hg.ne HT8.out (by decide)))
                    have HT9 := Lib.hid (hJ.ty _ HT8.out)
                    have HX9 := Lib.hid (show BoxAt w9 hb (haC (⟨s, r.name, r.members, b ++ [rk.author]⟩, (r.ma, r.mc, ba', bc'))) from fun o u ho => by
                      match o, ho with
                      | 0, ho => exact ⟨(hJ.rest 0 (by decide)).1.trans (HX8.out 0 u ho).1, (hJ.rest 0 (by decide)).2.trans (HX8.out 0 u ho).2⟩
                      | 1, ho => exact ⟨(hJ.rest 1 (by decide)).1.trans (HX8.out 1 u ho).1, (hJ.rest 1 (by decide)).2.trans (HX8.out 1 u ho).2⟩
                      | 2, ho => exact ⟨(hJ.rest 2 (by decide)).1.trans (HX8.out 2 u ho).1, (hJ.rest 2 (by decide)).2.trans (HX8.out 2 u ho).2⟩
                      | 3, ho => cases ho; exact ⟨hcell, hJ.fro⟩
                      | k + 4, ho => simp at ho)
                    have HNC := Lib.hid (show st6 X (sk, rk) = ⟨s, r.name, r.members, b ++ [rk.author]⟩ from by
                      rw [HXX.out]
                      unfold st6
                      rw [if_pos H6.out]
                      unfold backH
                      rw [if_pos ⟨H7.out.symm, H8.out, H9.out⟩])
                    clear hJ hcell e10 hb9 hkeep
                    go_wp2_with fail
                    go_roundg (n - k)
                    case measure => omega
                    case rel => exact ⟨k + 1, b ++ [rk.author], ba', bc', by omega, by omega, by omega, by go_num, HB9.out, HO9.out, HK9.out, HT9.out, HX9.out, HBE.out, by rw [HSTEP.out, HNC.out], by simp; omega⟩
                  · rw [e9] at HC2
                    have HNC := Lib.hid (show st6 X (sk, rk) = ⟨s, r.name, r.members, b⟩ from by
                      rw [← HXX.out]
                      unfold st6
                      rw [if_pos H6.out]
                      unfold backH
                      rw [if_neg]
                      rintro ⟨_, _, h1⟩
                      rw [HXX.out] at h1
                      exact h1 (of_decide_eq_true e9))
                    clear e9
                    go_upto_region 12 with fail
                    refine wp_flow_s [] [] (by kernel_rfl) (by kernel_rfl) (by kernel_rfl) ?_
                    repeat (first | ((with_reducible refine Flow.pure hS StayG.nil (v := ?_) ?_ ?_ ?_ ?_); rotate_left 1; (focus kernel_rfl); (focus (intro _; rfl)); (focus (intro β wx hSw; (try dsimp only at hSw); go_simp; (try with_reducible rfl); done)); (try simp only [Act.put, List.setIfInBounds_toArray, List.set_cons_zero, List.set_cons_succ, Nat.reduceAdd])) | ((with_reducible refine Flow.skip StayG.nil ?_ ?_ ?_); (focus kernel_rfl); (focus (intro _; rfl)); (try simp only [Act.put, List.setIfInBounds_toArray, List.set_cons_zero, List.set_cons_succ, Nat.reduceAdd])))
                    ((with_reducible refine Flow.call hS StayG.nil (v := ?_) ?_ ?_ ?_ ?_); rotate_left 1; (focus kernel_rfl); (focus (intro _; rfl)); (focus (intro β L wx hI hat hSw K' hK; (try dsimp only at hSw); go_simp; go_at_call 18; refine Calls.mono (HC1.out _ hSw.2.1) ?_; rintro e w' ⟨rfl, rfl⟩; exact hK.out _ (Below.refl _ _))); (try simp only [Act.put, List.setIfInBounds_toArray, List.set_cons_zero, List.set_cons_succ, Nat.reduceAdd]))
                    repeat (first | ((with_reducible refine Flow.pure hS StayG.nil (v := ?_) ?_ ?_ ?_ ?_); rotate_left 1; (focus kernel_rfl); (focus (intro _; rfl)); (focus (intro β wx hSw; (try dsimp only at hSw); go_simp; (try with_reducible rfl); done)); (try simp only [Act.put, List.setIfInBounds_toArray, List.set_cons_zero, List.set_cons_succ, Nat.reduceAdd])) | ((with_reducible refine Flow.skip StayG.nil ?_ ?_ ?_); (focus kernel_rfl); (focus (intro _; rfl)); (try simp only [Act.put, List.setIfInBounds_toArray, List.set_cons_zero, List.set_cons_succ, Nat.reduceAdd])))
                    ((with_reducible refine Flow.call hS StayG.nil (v := ?_) ?_ ?_ ?_ ?_); rotate_left 1; (focus kernel_rfl); (focus (intro _; rfl)); (focus (intro β L wx hI hat hSw K' hK; (try dsimp only at hSw); go_simp; go_at_call 18; refine Calls.mono (HC2.out _ hSw.2.2) ?_; rintro e w' ⟨rfl, rfl⟩; exact hK.out _ (Below.refl _ _))); (try simp only [Act.put, List.setIfInBounds_toArray, List.set_cons_zero, List.set_cons_succ, Nat.reduceAdd]))
                    repeat (first | ((with_reducible refine Flow.pure hS StayG.nil (v := ?_) ?_ ?_ ?_ ?_); rotate_left 1; (focus kernel_rfl); (focus (intro _; rfl)); (focus (intro β wx hSw; (try dsimp only at hSw); go_simp; (try with_reducible rfl); done)); (try simp only [Act.put, List.setIfInBounds_toArray, List.set_cons_zero, List.set_cons_succ, Nat.reduceAdd])) | ((with_reducible refine Flow.skip StayG.nil ?_ ?_ ?_); (focus kernel_rfl); (focus (intro _; rfl)); (try simp only [Act.put, List.setIfInBounds_toArray, List.set_cons_zero, List.set_cons_succ, Nat.reduceAdd])))
                    ((with_reducible refine Flow.stop ?_); dsimp only; intro β8 w8 hI8)
                    have hb8 := hI8.below
                    have HB8 := Lib.hid (HBR2.out.trans (hb8.mono HBR2.out.size))
                    have HO8 := Lib.hid (HOW2.out.later hb8)
                    have HK8 := Lib.hid (HKK2.out.later hb8)
                    have HT8 := Lib.hid (HTY2.out.block (hb8.block hb HTY2.out.lt))
                    have HX8 := Lib.hid (HBOX2.out.later hb8)
                    have HE8 := Lib.hid (HOB2.out.later hb8)
                    clear hS hI8 hb8 q0 q1 q2 q3 f3 m0 m1 m5
                    go_wp2_with fail
                    go_roundg (n - k)
                    case measure => omega
                    case rel => exact ⟨k + 1, b, ba, bc, by omega, by omega, by omega, by go_num, HB8.out, HO8.out, HK8.out, HT8.out, HX8.out, HE8.out, by rw [HSTEP.out, HNC.out], by omega⟩
          · obtain rfl : k = n := by omega
            obtain ⟨x, hx⟩ : ∃ x : Hd × (Option Addr × Nat × Option Addr × Nat), x = (⟨s, r.name, r.members, b⟩, (r.ma, r.mc, ba, bc)) := ⟨_, rfl⟩
            have hfinal : (K ++ [x]).map (·.1) = refU z (i + 1) := by
              rw [refU_succ, HMB.out, List.map_append, HK.out, hx]
              simp only [List.map_cons, List.map_nil, if_true]
              congr 2
              rw [heq2]
              unfold hol
              rw [List.getElem?_eq_getElem (by have := HZL.out; omega), HZI.out, List.take_of_length_le (by rw [List.length_drop, HZL.out]; omega)]
            have hbA : Below wr.heap.size wr (wr.alloc (.cells #[.string s, .string r.name, .slice r.ma r.members.length r.mc, .slice ba b.length bc] 31)) := (by repeat (first | exact Below.refl _ _ | assumption | refine Below.drew ?_ | refine below_drewN ?_ _ | refine Below.alloc ?_ (by first | omega | (simp; done) | (simp; omega)) _ | refine Below.setCell ?_ (by first | omega | (simp; done) | (simp; omega)) _ | refine Below.trans ?_ (Below.mono (by assumption) (by first | omega | (simp; done) | (simp; omega)))))
            have hsr := hbr2.size
            obtain ⟨v2, w2, hr2, hoo2, hg2, hn2⟩ := El.app (E := EH) (wr.alloc (.cells #[.string s, .string r.name, .slice r.ma r.members.length r.mc, .slice ba b.length bc] 31)) w.heap.size _ _ [x] (ho2.later hbA) (some ⟨wr.heap.size, 0, none⟩) 1 (El.at_lit' EH wr [x] _ 31 (by rw [hx]; rfl)) (by simp; omega) (by simp; omega) 26
            have HB3 := Lib.hid (show Below w.heap.size w w2 from (hbr2.trans (hbA.mono hbr2.size)).grown hg2 (by simp; omega) (fun g hg => (ho2.lt g hg).1))
            have HR2 := Lib.hid hr2
            have HOO2 := Lib.hid hoo2
            have hbkx : BK w wr (K ++ [x]) := fun y hy => by
              rcases List.mem_append.1 hy with hy | hy
              · exact hk2 y hy
              · obtain rfl := List.mem_singleton.1 hy
                rw [hx]
                exact ⟨⟨HRM.out, HRF.out.ml⟩, hob2⟩
            have HBK3 := Lib.hid (show BK w w2 (K ++ [x]) from (hbkx.later hbA).block fun g hg => hg2.block g hg.lt fun e => by
              exact absurd rfl (hg.ne ((ho2.later hbA).ty e.symm) (by decide)))
            have HFIN := Lib.hid hfinal
            have hlK : (K ++ [x]).length ≤ i + 1 := by simp; omega
            clear hx hfinal hbA hr2 hoo2 hg2 hn2 hbkx hbr2 ho2 hk2 hty2 hbox2 hob2 heq2
            go_wp2_with (at_builtin; go_loud (refine wpList_app_eq rfl _ _ _ rfl _ _ rfl rfl HR2.out ?_))
            go_roundg (k - i)
            case measure => omega
            case rel => exact ⟨i + 1, _, by omega, by omega, by go_num, HB3.out, HOO2.out, HFIN.out, HBK3.out, hlK⟩
    · obtain rfl : i = n := by omega
      obtain ⟨oa, oc, rfl, h1, h2, hat, hwh⟩ := hown.at
      have hfin : K.map (·.1) = allH ids l := by rw [hK, HD.out, HZL.out]
      have HAT := Lib.hid hat
      have HFIN := Lib.hid hfin
      have HC := Lib.hid (And.intro h1 h2)
      have HWH := Lib.hid hwh
      clear hown hK hbk hat hfin h1 h2 hwh hbr
      go_wp2_with fail
      go_ret
      refine ⟨oa, oc, K, rfl, HFIN.out, HAT.out, fun x hx => ?_, HC.out.1, HC.out.2, fun e => ?_, HBR.out⟩
      · obtain ⟨⟨h1, h2⟩, h3⟩ := HBK.out x hx
        obtain ⟨a', c', e', hl1, hl2, hat', _⟩ := h3.at
        simp only [Value.slice.injEq, true_and] at e'
        obtain ⟨rfl, rfl⟩ := e'
        exact ⟨h1.later HBR.out, hat'.ints, h2, by unfold maxLen at hl2; omega⟩
      · rcases HWH.out with ⟨_, h, _⟩ | ⟨g, h, _⟩
        · exact h
        · rw [e] at h; cases h
end Go.Proofs.Ytgoomcnaemfjcaa
