


/- The reference of package game: Compare, Moves, Next; find and after of GamePlans; what a plan holds. -/
import Derived.Test.YtlkknoooeldomaaGamT
namespace Go.Proofs.Ytlkknoooeldomaa
section
open Go.RowKit Go.Sort

def sgnI (b : Bool) : Int := if b then -1 else 1
theorem sign_any (b : Bool) (w : World) : Calls Try.prog 50 #[.bool b] w (RetS (.int .i64 (sgnI b)) w) := by
  go_enter Try.func50, Try.ntmps50
  cases b <;> (go_wp2_with fail; go_ret; exact retS rfl)
theorem ig_bit {l : List Bool} {i : Nat} (h : i < l.length) : ig (bitL l) i = bitI (bg l i) := by
  unfold bitL
  rw [ig_lt (by simpa using h), List.getElem_map, bg_lt h]
theorem cmpI_sign {a b : Int} (h : ¬ a = b) : cmpI a b = sgnI (decide (a < b)) := by
  unfold sgnI
  have := cmpI_cases a b
  by_cases h2 : a < b
  · simp only [h2, decide_true, if_true]; omega
  · simp only [h2, decide_false, Bool.false_eq_true, if_false]; omega
set_option maxRecDepth 100000 in
set_option maxHeartbeats 8000000 in
theorem rcmp_any (x y : PA) (w : World) (hx : PsAt w x.1 x.2.1 x.2.2.2.1) (hy : PsAt w y.1 y.2.1 y.2.2.2.1) (hs : y.1.starts.length = x.1.starts.length) (hf : y.1.failed.length = x.1.failed.length) (h1 : x.1.starts.length ≤ 1000 ∧ x.1.failed.length ≤ 1000) :
    Calls Try.prog 23 #[.agg (psCs x).toArray, .agg (psCs y).toArray] w (RetB (.int .i64 (cmpP x.1 y.1)) w) := by
  obtain ⟨⟨xt, xs, xf, xb, xc, xd⟩, sa, sc, fa, fc⟩ := x
  obtain ⟨⟨yt, ys, yf, yb, yc, yd⟩, sb, sd, fb, fd⟩ := y
  simp only at hs hf h1 hx hy
  obtain ⟨n, hn⟩ : ∃ n, n = xs.length := ⟨_, rfl⟩
  obtain ⟨m, hm⟩ : ∃ m, m = xf.length := ⟨_, rfl⟩
  obtain ⟨r, hr⟩ : ∃ r, r = cmpP ⟨xt, xs, xf, xb, xc, xd⟩ ⟨yt, ys, yf, yb, yc, yd⟩ := ⟨_, rfl⟩
  have hr2 : r = or0 (cmpI xt yt) (or0 (cmpL xs ys) (or0 (cmpL (bitL xf) (bitL yf)) (cmpI xb yb))) := hr
  have hn1 : n ≤ 1000 := by omega
  have hm1 : m ≤ 1000 := by omega
  rw [← hn] at hs
  rw [← hm] at hf
  have e1 : (psCs (⟨xt, xs, xf, xb, xc, xd⟩, sa, sc, fa, fc) : List Value) = [.int .i64 xt, .slice sa n sc, .slice fa m fc, .int .i64 xb, .int .i64 xc, .int .i64 xd] := by rw [hn, hm]
  have e2 : (psCs (⟨yt, ys, yf, yb, yc, yd⟩, sb, sd, fb, fd) : List Value) = [.int .i64 yt, .slice sb n sd, .slice fb m fd, .int .i64 yb, .int .i64 yc, .int .i64 yd] := by rw [← hs, ← hf]
  rw [e1, e2]
  show Calls _ _ _ _ (RetB (.int .i64 (cmpP ⟨xt, xs, xf, xb, xc, xd⟩ ⟨yt, ys, yf, yb, yc, yd⟩)) w)
  rw [← hr]
  have HR := Lib.hid hr2
  have HN := Lib.hid hn
  have HM := Lib.hid hm
  have HNS := Lib.hid hs
  have HMF := Lib.hid hf
  have HX := Lib.hid hx
  have HY := Lib.hid hy
  clear e1 e2 hr hr2 hn hm hs hf hx hy h1
  go_enter Try.func23, Try.ntmps23
  go_upto_region 1 with fail
  refine wp_named ?_
  intro w1 hw1
  obtain ⟨hb1, hs1, b1, b2⟩ := alloc2 w [.int .i64 xt, .slice sa n sc, .slice fa m fc, .int .i64 xb, .int .i64 xc, .int .i64 xd] [.int .i64 yt, .slice sb n sd, .slice fb m fd, .int .i64 yb, .int .i64 yc, .int .i64 yd] _ _ w1 hw1
  have HB1 := Lib.hid hb1
  have x0 := (b1 0 _ rfl).1
  have x1 := (b1 1 _ rfl).1
  have x2 := (b1 2 _ rfl).1
  have x3 := (b1 3 _ rfl).1
  have y0 := (b2 0 _ rfl).1
  have y1 := (b2 1 _ rfl).1
  have y2 := (b2 2 _ rfl).1
  have y3 := (b2 3 _ rfl).1
  clear hw1 hb1 hs1 b1 b2
  by_cases ht : xt = yt
  · subst ht
    have HR1 := Lib.hid (show r = or0 (cmpL xs ys) (or0 (cmpL (bitL xf) (bitL yf)) (cmpI xb yb)) from by
      rw [HR.out, cmpI_zero.2 rfl]
      rfl)
    have HX1 := Lib.hid x1
    have HX2 := Lib.hid x2
    have HX3 := Lib.hid x3
    have HY1 := Lib.hid y1
    have HY2 := Lib.hid y2
    have HY3 := Lib.hid y3
    go_wp2_with fail
    clear x0 x1 x2 x3 y0 y1 y2 y3
    go_loopg [5] (n + 1) (fun gk v5 wr => ∃ i : Nat, i ≤ n ∧ gk + i = n + 1 ∧ v5 = .int .i64 i ∧ Below w1.heap.size w1 wr ∧ cmpL xs ys = cmpL (xs.drop i) (ys.drop i))
    case atStart => exact ⟨0, by omega, by omega, rfl, Below.refl _ _, rfl⟩
    case round =>
      obtain ⟨i, hi, hgi, rfl, hbr, he⟩ := hrel
      obtain ⟨wq, hwq⟩ : ∃ wq, wq = wr := ⟨_, rfl⟩
      subst hwq
      have HE := Lib.hid he
      have HBR := Lib.hid hbr
      have x1 := cell_later hbr HX1.out
      have y1 := cell_later hbr HY1.out
      clear he hbr
      by_cases hlt : i < n
      · obtain ⟨ab, ao, rfl, fp⟩ := HX.out.s.fam (show 0 < xs.length by have := HN.out; omega)
        obtain ⟨bb, bo, rfl, fq⟩ := HY.out.s.fam (show 0 < ys.length by have := HNS.out; omega)
        have cx := cell_later HBR.out (cell_later HB1.out (fp i (show i < xs.length by have := HN.out; omega)))
        have cy := cell_later HBR.out (cell_later HB1.out (fq i (show i < ys.length by have := HNS.out; omega)))
        obtain ⟨a, ha⟩ : ∃ a, a = ig xs i := ⟨_, rfl⟩
        obtain ⟨b, hb⟩ : ∃ b, b = ig ys i := ⟨_, rfl⟩
        simp only at cx cy
        rw [← ha] at cx
        rw [← hb] at cy
        have HST := Lib.hid (show cmpL xs ys = if cmpI a b = 0 then cmpL (xs.drop (i + 1)) (ys.drop (i + 1)) else cmpI a b from by
          rw [HE.out, ha, hb]
          exact cmpL_step (by have := HN.out; omega) (by have := HNS.out; omega))
        have i1 : (i : Int) < (n : Int) := by omega
        have i0 : (0 : Int) ≤ (i : Int) := by omega
        have HLT := Lib.hid hlt
        clear fp fq ha hb hlt hi
        have hS : ∀ wy : World, Below wq.heap.size wq wy → wy.cell? ⟨w.heap.size, 1, none⟩ = some (.slice (some ⟨ab, ao, none⟩) n sc) ∧ wy.cell? ⟨w.heap.size + 1, 1, none⟩ = some (.slice (some ⟨bb, bo, none⟩) n sd) ∧ wy.cell? ⟨ab, ao + i, none⟩ = some (.int .i64 a) ∧ wy.cell? ⟨bb, bo + i, none⟩ = some (.int .i64 b) := fun wy hy => ⟨cell_later hy x1, cell_later hy y1, cell_later hy cx, cell_later hy cy⟩
        by_cases hab : a = b
        · have e1 : (a == b) = true := by simpa using hab
          have HNX := Lib.hid (show cmpL xs ys = cmpL (xs.drop (i + 1)) (ys.drop (i + 1)) from by rw [HST.out, if_pos (cmpI_zero.2 hab)])
          have hnab : ¬ ¬ a = b := not_not_intro hab
          go_upto_region 6 with fail
          refine wp_flow_s [] [] (by kernel_rfl) (by kernel_rfl) (by kernel_rfl) ?_
          repeat (first | ((with_reducible refine Flow.pure hS StayG.nil (v := ?_) ?_ ?_ ?_ ?_); rotate_left 1; (focus kernel_rfl); (focus (intro _; rfl)); (focus (intro β wx hSw; (try dsimp only at hSw); go_simp; (try with_reducible rfl); done)); (try simp only [Act.put, List.setIfInBounds_toArray, List.set_cons_zero, List.set_cons_succ, Nat.reduceAdd])) | ((with_reducible refine Flow.skip StayG.nil ?_ ?_ ?_); (focus kernel_rfl); (focus (intro _; rfl)); (try simp only [Act.put, List.setIfInBounds_toArray, List.set_cons_zero, List.set_cons_succ, Nat.reduceAdd])))
          ((with_reducible refine Flow.stop ?_); dsimp only; intro β w4 hI4)
          have HB4 := Lib.hid (HBR.out.trans (hI4.below.mono HBR.out.size))
          clear hS hI4 x1 y1 cx cy
          go_wp2_with fail
          go_roundg (n - i)
          case measure => have := HLT.out; omega
          case rel => exact ⟨i + 1, HLT.out, by have := HLT.out; omega, by go_num, HB4.out, HNX.out⟩
        · have e1 : (a == b) = false := by simpa using hab
          have HRE := Lib.hid (show r = sgnI (decide (a < b)) from by
            have h1 := cmpI_cases a b
            rw [HR1.out, HST.out, ← cmpI_sign hab]
            unfold or0
            rw [if_neg (by omega), if_neg (by omega)])
          go_upto_region 6 with fail
          refine wp_flow_s [] [] (by kernel_rfl) (by kernel_rfl) (by kernel_rfl) ?_
          repeat (first | ((with_reducible refine Flow.pure hS StayG.nil (v := ?_) ?_ ?_ ?_ ?_); rotate_left 1; (focus kernel_rfl); (focus (intro _; rfl)); (focus (intro β wx hSw; (try dsimp only at hSw); go_simp; (try with_reducible rfl); done)); (try simp only [Act.put, List.setIfInBounds_toArray, List.set_cons_zero, List.set_cons_succ, Nat.reduceAdd])) | ((with_reducible refine Flow.skip StayG.nil ?_ ?_ ?_); (focus kernel_rfl); (focus (intro _; rfl)); (try simp only [Act.put, List.setIfInBounds_toArray, List.set_cons_zero, List.set_cons_succ, Nat.reduceAdd])))
          ((with_reducible refine Flow.stop ?_); dsimp only; intro β w4 hI4)
          have HB4 := Lib.hid (HBR.out.trans (hI4.below.mono HBR.out.size))
          have hS4 := hS
          replace hS : ∀ wy : World, Below w4.heap.size w4 wy → wy.cell? ⟨w.heap.size, 1, none⟩ = some (.slice (some ⟨ab, ao, none⟩) n sc) ∧ wy.cell? ⟨w.heap.size + 1, 1, none⟩ = some (.slice (some ⟨bb, bo, none⟩) n sd) ∧ wy.cell? ⟨ab, ao + i, none⟩ = some (.int .i64 a) ∧ wy.cell? ⟨bb, bo + i, none⟩ = some (.int .i64 b) := fun wy hy => hS4 wy (hI4.below.trans (hy.mono hI4.below.size))
          clear hS4 hI4 x1 y1 cx cy
          go_upto_region 7 with fail
          rw [show (a != b) = true from by simpa using hab]
          clear e1 hab
          refine wp_flow_s [] [] (by kernel_rfl) (by kernel_rfl) (by kernel_rfl) ?_
          repeat (first | ((with_reducible refine Flow.pure hS StayG.nil (v := ?_) ?_ ?_ ?_ ?_); rotate_left 1; (focus kernel_rfl); (focus (intro _; rfl)); (focus (intro β wx hSw; (try dsimp only at hSw); go_simp; (try with_reducible rfl); done)); (try simp only [Act.put, List.setIfInBounds_toArray, List.set_cons_zero, List.set_cons_succ, Nat.reduceAdd])) | ((with_reducible refine Flow.skip StayG.nil ?_ ?_ ?_); (focus kernel_rfl); (focus (intro _; rfl)); (try simp only [Act.put, List.setIfInBounds_toArray, List.set_cons_zero, List.set_cons_succ, Nat.reduceAdd])))
          ((with_reducible refine Flow.call hS StayG.nil (v := ?_) ?_ ?_ ?_ ?_); rotate_left 1; (focus kernel_rfl); (focus (intro _; rfl)); (focus (intro β L wx hI hat hSw K' hK; (try dsimp only at hSw); go_simp; go_at_call 50; refine Calls.mono (sign_any _ _) ?_; rintro e w' ⟨rfl, rfl⟩; exact hK.out _ (Below.refl _ _))); (try simp only [Act.put, List.setIfInBounds_toArray, List.set_cons_zero, List.set_cons_succ, Nat.reduceAdd]))
          repeat (first | ((with_reducible refine Flow.pure hS StayG.nil (v := ?_) ?_ ?_ ?_ ?_); rotate_left 1; (focus kernel_rfl); (focus (intro _; rfl)); (focus (intro β wx hSw; (try dsimp only at hSw); go_simp; (try with_reducible rfl); done)); (try simp only [Act.put, List.setIfInBounds_toArray, List.set_cons_zero, List.set_cons_succ, Nat.reduceAdd])) | ((with_reducible refine Flow.skip StayG.nil ?_ ?_ ?_); (focus kernel_rfl); (focus (intro _; rfl)); (try simp only [Act.put, List.setIfInBounds_toArray, List.set_cons_zero, List.set_cons_succ, Nat.reduceAdd])))
          ((with_reducible refine Flow.stop ?_); dsimp only; intro β2 w5 hI5)
          have HB5 := Lib.hid (HB1.out.trans ((HB4.out.trans (hI5.below.mono HB4.out.size)).mono HB1.out.size))
          clear hS hI5
          rw [← HRE.out]
          go_wp2_with fail
          go_ret
          exact retB rfl HB5.out
      · obtain rfl : n = i := by omega
        have HR2 := Lib.hid (show r = or0 (cmpL (bitL xf) (bitL yf)) (cmpI xb yb) from by
          rw [HR1.out, HE.out]
          have h := cmpL_both (l := xs) (m := ys) (by have := HN.out; have := HNS.out; omega)
          rw [← HN.out] at h
          rw [h]
          rfl)
        have HBW := Lib.hid (HB1.out.trans (HBR.out.mono HB1.out.size))
        have HX2q := Lib.hid (cell_later HBR.out HX2.out)
        have HY2q := Lib.hid (cell_later HBR.out HY2.out)
        have HX3q := Lib.hid (cell_later HBR.out HX3.out)
        have HY3q := Lib.hid (cell_later HBR.out HY3.out)
        clear hi hgi hlt
        go_wp2_with fail
        clear x1 y1
        go_loopg [6] (m + 1) (fun gk v6 wr => ∃ i : Nat, i ≤ m ∧ gk + i = m + 1 ∧ v6 = .int .i64 i ∧ Below wq.heap.size wq wr ∧ cmpL (bitL xf) (bitL yf) = cmpL ((bitL xf).drop i) ((bitL yf).drop i))
        case atStart => exact ⟨0, by omega, by omega, rfl, Below.refl _ _, rfl⟩
        case round =>
          obtain ⟨i, hi, hgi, rfl, hbr, he⟩ := hrel
          obtain ⟨wz, hwz⟩ : ∃ wz, wz = wr := ⟨_, rfl⟩
          subst hwz
          have HE2 := Lib.hid he
          have HBZ := Lib.hid hbr
          have x2 := cell_later hbr HX2q.out
          have y2 := cell_later hbr HY2q.out
          have x3 := cell_later hbr HX3q.out
          have y3 := cell_later hbr HY3q.out
          clear he hbr
          by_cases hlt : i < m
          · obtain ⟨ab, ao, rfl, fp⟩ := HX.out.f.fam (show 0 < xf.length by have := HM.out; omega)
            obtain ⟨bb, bo, rfl, fq⟩ := HY.out.f.fam (show 0 < yf.length by have := HMF.out; omega)
            have cx := cell_later HBZ.out (cell_later HBW.out (fp i (show i < xf.length by have := HM.out; omega)))
            have cy := cell_later HBZ.out (cell_later HBW.out (fq i (show i < yf.length by have := HMF.out; omega)))
            obtain ⟨a, ha⟩ : ∃ a, a = bg xf i := ⟨_, rfl⟩
            obtain ⟨b, hb⟩ : ∃ b, b = bg yf i := ⟨_, rfl⟩
            simp only at cx cy
            rw [← ha] at cx
            rw [← hb] at cy
            have HST := Lib.hid (show cmpL (bitL xf) (bitL yf) = if cmpI (bitI a) (bitI b) = 0 then cmpL ((bitL xf).drop (i + 1)) ((bitL yf).drop (i + 1)) else cmpI (bitI a) (bitI b) from by
              have e1 : ig (bitL xf) i = bitI a := by rw [ha]; exact ig_bit (by have := HM.out; omega)
              have e2 : ig (bitL yf) i = bitI b := by rw [hb]; exact ig_bit (by have := HMF.out; omega)
              rw [HE2.out, ← e1, ← e2]
              exact cmpL_step (by have := HM.out; simp [bitL]; omega) (by have := HMF.out; simp [bitL]; omega))
            have i1 : (i : Int) < (m : Int) := by omega
            have i0 : (0 : Int) ≤ (i : Int) := by omega
            have HLT := Lib.hid hlt
            clear fp fq ha hb hlt hi
            have hS : ∀ wy : World, Below wz.heap.size wz wy → wy.cell? ⟨w.heap.size, 2, none⟩ = some (.slice (some ⟨ab, ao, none⟩) m fc) ∧ wy.cell? ⟨w.heap.size + 1, 2, none⟩ = some (.slice (some ⟨bb, bo, none⟩) m fd) ∧ wy.cell? ⟨ab, ao + i, none⟩ = some (.bool a) ∧ wy.cell? ⟨bb, bo + i, none⟩ = some (.bool b) := fun wy hy => ⟨cell_later hy x2, cell_later hy y2, cell_later hy cx, cell_later hy cy⟩
            by_cases hab : a = b
            · subst hab
              have HNX := Lib.hid (show cmpL (bitL xf) (bitL yf) = cmpL ((bitL xf).drop (i + 1)) ((bitL yf).drop (i + 1)) from by rw [HST.out, if_pos (cmpI_zero.2 rfl)])
              clear x3 y3
              go_upto_region 11 with fail
              refine wp_flow_s [] [] (by kernel_rfl) (by kernel_rfl) (by kernel_rfl) ?_
              repeat (first | ((with_reducible refine Flow.pure hS StayG.nil (v := ?_) ?_ ?_ ?_ ?_); rotate_left 1; (focus kernel_rfl); (focus (intro _; rfl)); (focus (intro β wx hSw; (try dsimp only at hSw); go_simp; (try with_reducible rfl); done)); (try simp only [Act.put, List.setIfInBounds_toArray, List.set_cons_zero, List.set_cons_succ, Nat.reduceAdd])) | ((with_reducible refine Flow.skip StayG.nil ?_ ?_ ?_); (focus kernel_rfl); (focus (intro _; rfl)); (try simp only [Act.put, List.setIfInBounds_toArray, List.set_cons_zero, List.set_cons_succ, Nat.reduceAdd])))
              ((with_reducible refine Flow.stop ?_); dsimp only; intro β w4 hI4)
              have HB4 := Lib.hid (HBZ.out.trans (hI4.below.mono HBZ.out.size))
              clear hS hI4 x2 y2 cx cy
              go_wp2_with fail
              go_roundg (m - i)
              case measure => have := HLT.out; omega
              case rel => exact ⟨i + 1, HLT.out, by have := HLT.out; omega, by go_num, HB4.out, HNX.out⟩
            · have HRE := Lib.hid (show r = sgnI b from by
                rw [HR2.out, HST.out]
                cases a <;> cases b <;> first | exact absurd rfl hab | rfl)
              have e1 : (a == b) = false := by simpa using hab
              clear x3 y3
              go_upto_region 11 with fail
              refine wp_flow_s [] [] (by kernel_rfl) (by kernel_rfl) (by kernel_rfl) ?_
              repeat (first | ((with_reducible refine Flow.pure hS StayG.nil (v := ?_) ?_ ?_ ?_ ?_); rotate_left 1; (focus kernel_rfl); (focus (intro _; rfl)); (focus (intro β wx hSw; (try dsimp only at hSw); go_simp; (try with_reducible rfl); done)); (try simp only [Act.put, List.setIfInBounds_toArray, List.set_cons_zero, List.set_cons_succ, Nat.reduceAdd])) | ((with_reducible refine Flow.skip StayG.nil ?_ ?_ ?_); (focus kernel_rfl); (focus (intro _; rfl)); (try simp only [Act.put, List.setIfInBounds_toArray, List.set_cons_zero, List.set_cons_succ, Nat.reduceAdd])))
              ((with_reducible refine Flow.stop ?_); dsimp only; intro β w4 hI4)
              have HB4 := Lib.hid (HBW.out.trans ((HBZ.out.trans (hI4.below.mono HBZ.out.size)).mono HBW.out.size))
              obtain ⟨z1, z2, z3, z4⟩ := hS w4 hI4.below
              clear hS hI4 x2 y2 cx cy
              go_wp2_with fail
              refine Calls.mono (sign_any b w4) ?_
              rintro e w5 ⟨rfl, rfl⟩
              rw [← HRE.out]
              go_wp2_with fail
              go_ret
              exact retB rfl HB4.out
          · obtain rfl : m = i := by omega
            have HR3 := Lib.hid (show r = cmpI xb yb from by
              rw [HR2.out, HE2.out]
              have h := cmpL_both (l := bitL xf) (m := bitL yf) (by have := HM.out; have := HMF.out; simp [bitL]; omega)
              rw [show (bitL xf).length = m by have := HM.out; simp [bitL]; omega] at h
              rw [h]
              rfl)
            have HBE := Lib.hid (HBW.out.trans (HBZ.out.mono HBW.out.size))
            clear hi hgi hlt
            by_cases hab : xb = yb
            · have e1 : (xb == yb) = true := by simpa using hab
              have e2 : r = 0 := by rw [HR3.out]; exact cmpI_zero.2 hab
              subst e2
              go_wp2_with fail
              go_ret
              exact retB rfl HBE.out
            · have e1 : (xb == yb) = false := by simpa using hab
              obtain ⟨B, hB⟩ : ∃ B, B = decide (xb < yb) := ⟨_, rfl⟩
              have f1 := hB.symm
              have HRE := Lib.hid (show r = sgnI B from by rw [HR3.out, hB, ← cmpI_sign hab])
              clear hB
              go_wp2_with fail
              refine Calls.mono (sign_any B wz) ?_
              rintro e w5 ⟨rfl, rfl⟩
              rw [← HRE.out]
              go_wp2_with fail
              go_ret
              exact retB rfl HBE.out
  · have ht2 : (xt == yt) = false := by simpa using ht
    obtain ⟨B, hB⟩ : ∃ B, B = decide (xt < yt) := ⟨_, rfl⟩
    have f1 := hB.symm
    have HRE := Lib.hid (show r = sgnI B from by
      rw [HR.out, hB, ← cmpI_sign ht]
      have := cmpI_cases xt yt
      unfold or0
      rw [if_neg (by omega)])
    clear hB
    go_wp2_with fail
    refine Calls.mono (sign_any B w1) ?_
    rintro e w2 ⟨rfl, rfl⟩
    rw [← HRE.out]
    go_wp2_with fail
    go_ret
    exact retB rfl HB1.out
/-- in order and of different states: strictly in order -/
theorem strict_of {l : List Pos} (hp : l.Pairwise (fun x y => ¬ cmpP y x < 0)) (hn : (l.map Pos.st).Nodup) : l.Pairwise (fun x y => cmpP x y < 0) := by
  have h2 : l.Pairwise (fun x y => x.st ≠ y.st) := List.pairwise_map.1 hn
  exact (hp.and h2).imp fun {x y} ⟨a, b⟩ => by
    have e := cmpP_tw.anti x y
    have z : cmpP x y ≠ 0 := fun h => b (cmpP_zero h)
    omega
end
section
open Go.RowKit

theorem copyE {α : Type} {E : El α} (W : World) (l : List α) (a : Option Addr) (c : Nat) (h : E.At W a l) (hl : l.length ≤ 100) (h0 : 0 < l.length) (ty : TypeId) :
    ∃ gb lc w7, (Builtin.append_ #[E.TS, E.TS] ty #[.slice (some ⟨W.heap.size, 0, none⟩) 0 0, .slice a l.length c]).run Try.prog (W.alloc (.cells #[] E.T)) = .ok (.slice (some ⟨gb, 0, none⟩) l.length lc) w7 ∧ E.Own w7 W.heap.size (.slice (some ⟨gb, 0, none⟩) l.length lc) l ∧ Below W.heap.size W w7 := by
  have hA := El.Own.lit (E := E) W W.heap.size (Nat.le_refl _) [] (by simp) #[] rfl
  have hbA : Below W.heap.size W (W.alloc (.cells #[] E.T)) := (Below.refl _ _).alloc (Nat.le_refl _) _
  obtain ⟨v1, w7, hr, ho, hg, _⟩ := El.app (E := E) _ W.heap.size _ [] l hA a c (h.later hbA) (by simp; omega) hbA.size ty
  rw [List.nil_append] at ho
  obtain ⟨la, lc, e1, _, _, _, hcase⟩ := ho.at
  have hlb : ∃ gb, la = some ⟨gb, 0, none⟩ := by
    rcases hcase with ⟨_, _, e⟩ | ⟨gb, e, _⟩
    · rw [e] at h0; simp at h0
    · exact ⟨gb, e⟩
  obtain ⟨gb, rfl⟩ := hlb
  subst e1
  exact ⟨gb, lc, w7, hr, ho, hbA.grown hg hbA.size fun b hb => (hA.lt b hb).1⟩
theorem stE {α : Type} {E : El α} {W5 W6 W7 : World} {O : Nat} {l : List α} {v1 : Value} {c : Value} {cs : List Value} (hb6 : Below W5.heap.size W5 W6) (hO : O = W5.heap.size) (hs6 : W6.heap.size = O + 1) (hx6 : BoxAt W6 O (c :: cs)) (k : Nat) (hk : k < (c :: cs).length) (hb7 : Below W6.heap.size W6 W7) (ho : E.Own W7 W6.heap.size v1 l) :
    Below W5.heap.size W5 (W7.setCell ⟨O, k, none⟩ v1) ∧ BoxAt (W7.setCell ⟨O, k, none⟩ v1) O ((c :: cs).set k v1) ∧ E.Own (W7.setCell ⟨O, k, none⟩ v1) (O + 1) v1 l :=
  ⟨(hb6.trans (hb7.mono (by omega))).setCell (p := ⟨O, k, none⟩) (show W5.heap.size ≤ O by omega) _, (hx6.later hb7).put k v1 hk, (ho.block fun b hb => heap_setCell_other W7 ⟨O, k, none⟩ b v1 (by have := (ho.lt b hb).1; intro e; have e' : b = O := e; omega)).mono (by omega)⟩
theorem flatB_set (l : List Bool) (q : Nat) (x : Bool) : (l.flatMap EB.cf).set q (.bool x) = (l.set q x).flatMap EB.cf := by
  rw [flatB, flatB, List.map_set]
theorem own_setB {w : World} {B g n cap : Nat} {l : List Bool} (h : EB.Own w B (.slice (some ⟨g, 0, none⟩) n cap) l) (q : Nat) (x : Bool) : EB.Own (w.setCell ⟨g, q, none⟩ (.bool x)) B (.slice (some ⟨g, 0, none⟩) n cap) (l.set q x) := by
  obtain ⟨a, c, e, _⟩ := h.at
  cases e
  have h1 := World.ownsRow.stored h q (.bool x)
  have h2 := h1.1
  unfold El.Own
  rw [flatB_set] at h2
  rw [List.length_set]
  exact h2
theorem ownB_cell {w : World} {B g n cap : Nat} {l : List Bool} (h : EB.Own w B (.slice (some ⟨g, 0, none⟩) n cap) l) {q : Nat} (hq : q < l.length) : w.cell? ⟨g, q, none⟩ = some (.bool (bg l q)) ∧ w.frozen? ⟨g, q, none⟩ = false := by
  constructor
  · obtain ⟨a, c, e, _, _, hat, _⟩ := h.at
    cases e
    obtain ⟨_, _, e2, cl⟩ := hat.bools q hq
    cases e2
    rwa [Nat.zero_add] at cl
  · obtain ⟨cur, hcur⟩ := h.ty (g := g) rfl
    simp [World.frozen?, hcur]
/-- one element of what Moves gives back -/
structure MdE (B : Nat) (w : World) (s : Pos) (sa fa : Option Addr) (x : PA) : Prop where
  a : x.2.1 = sa
  st : x.1.starts = s.starts
  f : (x.2.2.2.1 = fa ∧ x.1.failed = s.failed) ∨ EB.Own w B (.slice x.2.2.2.1 x.1.failed.length x.2.2.2.2) x.1.failed
theorem MdE.block {B : Nat} {w w' : World} {s : Pos} {sa fa : Option Addr} {x : PA} (h : MdE B w s sa fa x) (e : ∀ F, IsTy w F 4 → w'.heap[F]? = w.heap[F]?) : MdE B w' s sa fa x := by
  refine ⟨h.a, h.st, ?_⟩
  rcases h.f with hf | hf
  · exact .inl hf
  · exact .inr (hf.block fun g hg => e g (hf.ty hg))
theorem MdE.ps {B : Nat} {w : World} {s : Pos} {sa fa : Option Addr} {x : PA} (h : MdE B w s sa fa x) (hP : PsAt w s sa fa) : PsAt w x.1 x.2.1 x.2.2.2.1 := by
  refine ⟨?_, ?_⟩
  · rw [h.a, h.st]; exact hP.s
  · rcases h.f with ⟨e1, e2⟩ | hf
    · rw [e1, e2]; exact hP.f
    · obtain ⟨a, c, e, _, _, hat, _⟩ := hf.at
      cases e
      exact hat.bools
def RetMv (s : Pos) (w : World) (e : Ending) (w' : World) : Prop := ∃ a c l, e = .returned (.slice a l.length c) ∧ l.map (fun x : PA => x.1.st) = madeL s.st ∧ EQ.At w' a l ∧ PsAll w' l ∧ Below w.heap.size w w'
def hitU (s : St) (v : Nat) : List Nat := if 0 < s.budget then (List.range v).filter (fun v => !bg s.failed v) else []
theorem hitU_succ (s : St) (v : Nat) : hitU s (v + 1) = hitU s v ++ if 0 < s.budget ∧ bg s.failed v = false then [v] else [] := by
  unfold hitU
  by_cases h : 0 < s.budget
  · rw [if_pos h, if_pos h, List.range_succ, List.filter_append]
    cases hb : bg s.failed v <;> simp [h, hb]
  · rw [if_neg h, if_neg h, if_neg (fun e => h e.1)]
    rfl
theorem hitU_full (s : St) : hitU s s.failed.length = hits s := rfl
theorem hitU_none {s : St} (h : ¬ 0 < s.budget) (v : Nat) : hitU s v = hits s := by
  unfold hitU hits
  rw [if_neg h, if_neg h]
theorem hitU_len (s : St) (v : Nat) : (hitU s v).length ≤ v := by
  unfold hitU
  split
  · have := List.length_filter_le (fun v => !bg s.failed v) (List.range v)
    rw [List.length_range] at this
    exact this
  · simp
set_option maxRecDepth 100000 in
set_option maxHeartbeats 4000000 in
theorem rmoves_any (s : Pos) (sa fa : Option Addr) (sc fc : Nat) (w : World) (hP : PsAt w s sa fa) (hl : s.failed.length ≤ 50) (hb : s.budget ≤ 1000) :
    Calls Try.prog 21 #[psV s sa sc fa fc] w (RetMv s w) := by
  have HP := Lib.hid hP
  obtain ⟨nf, hnf⟩ : ∃ n, n = s.failed.length := ⟨_, rfl⟩
  obtain ⟨nl, hnl⟩ : ∃ n, n = s.starts.length := ⟨_, rfl⟩
  obtain ⟨bu, hbu⟩ : ∃ n, n = s.budget := ⟨_, rfl⟩
  obtain ⟨tu, htu⟩ : ∃ n, n = s.turn := ⟨_, rfl⟩
  obtain ⟨ch, hch⟩ : ∃ n, n = s.choice := ⟨_, rfl⟩
  obtain ⟨bo, hbo⟩ : ∃ n, n = s.bound := ⟨_, rfl⟩
  have HNF := Lib.hid hnf
  have HNL := Lib.hid hnl
  have HBU := Lib.hid hbu
  have HFS := Lib.hid (show s = ⟨tu, s.starts, s.failed, bu, ch, bo⟩ from by rw [htu, hbu, hch, hbo])
  rw [← hnf] at hl
  rw [← hbu] at hb
  unfold psV
  rw [← hnf, ← hnl, ← hbu, ← htu, ← hch, ← hbo]
  clear hP hnf hnl hbu htu hch hbo
  go_enter Try.func21, Try.ntmps21
  go_upto_region 1 with fail
  obtain ⟨x0, hx0⟩ : ∃ x0 : PA, x0 = (s, (sa, sc, fa, fc)) := ⟨_, rfl⟩
  have hcs0 : EQ.cf x0 = [.int .i64 tu, .slice sa nl sc, .slice fa nf fc, .int .i64 bu, .int .i64 ch, .int .i64 bo] := by
    rw [hx0, HFS.out, HNF.out, HNL.out]
    rfl
  refine wp_named ?_
  intro wX hwX
  obtain ⟨X, hX⟩ : ∃ X, X = w.heap.size := ⟨_, rfl⟩
  obtain ⟨hbX, hsX, hBX, _⟩ := alloc1 w [.int .i64 tu, .slice sa nl sc, .slice fa nf fc, .int .i64 bu, .int .i64 ch, .int .i64 bo] _ wX hwX
  rw [← hX] at hBX
  rw [← hX]
  have hown : EQ.Own (wX.alloc (.cells #[.int .i64 tu, .slice sa nl sc, .slice fa nf fc, .int .i64 bu, .int .i64 ch, .int .i64 bo] 40)) wX.heap.size (.slice (some ⟨wX.heap.size, 0, none⟩) 1 1) [x0] := El.Own.lit (E := EQ) wX wX.heap.size (Nat.le_refl _) [x0] (by simp) _ (by rw [List.flatMap_singleton, hcs0])
  have hbA : Below wX.heap.size wX (wX.alloc (.cells #[.int .i64 tu, .slice sa nl sc, .slice fa nf fc, .int .i64 bu, .int .i64 ch, .int .i64 bo] 40)) := (Below.refl _ _).alloc (Nat.le_refl _) _
  have HXL := Lib.hid (show X < wX.heap.size ∧ w.heap.size ≤ wX.heap.size from ⟨by omega, by omega⟩)
  have HM0 := Lib.hid (show ∀ wy, MdE wX.heap.size wy s sa fa x0 from fun wy => by rw [hx0]; exact ⟨rfl, rfl, .inl ⟨rfl, rfl⟩⟩)
  have HX0 := Lib.hid (show x0.1 = s from by rw [hx0])
  have HBX := Lib.hid hbX
  have HPX := Lib.hid (HP.out.later hbX)
  have HOWN := Lib.hid hown
  have HBA := Lib.hid hbA
  have HBXA := Lib.hid (hBX.later hbA)
  have z0 := (hBX 0 _ rfl).1
  have z1 := (hBX 1 _ rfl).1
  have z2 := (hBX 2 _ rfl).1
  have z3 := (hBX 3 _ rfl).1
  have z4 := (hBX 4 _ rfl).1
  have z5 := (hBX 5 _ rfl).1
  have zl : X < wX.heap.size := by omega
  clear hwX hx0 hcs0 hX hbX hBX hsX hown hbA
  go_upto_region 2 with fail
  clear z0 z1 z2 z3 z4 z5 zl
  go_wp2_with fail
  go_loopg [3, 4] (nf + 1) (fun k v3 v4 wr => ∃ (v : Nat) (l : List PA), v ≤ nf ∧ k + v = nf + 1 ∧ v4 = .int .i64 v ∧ Below wX.heap.size wX wr ∧ BoxAt wr X [.int .i64 tu, .slice sa nl sc, .slice fa nf fc, .int .i64 bu, .int .i64 ch, .int .i64 bo] ∧ EQ.Own wr wX.heap.size v3 l ∧ l.map (fun x : PA => x.1.st) = s.st :: (hitU s.st v).map (hit s.st) ∧ ∀ x ∈ l, MdE wX.heap.size wr s sa fa x)
  case atStart => exact ⟨0, [x0], by omega, by omega, rfl, HBA.out, HBXA.out, HOWN.out, by simp [hitU, HX0.out], fun x hx => by rw [List.mem_singleton.1 hx]; exact HM0.out _⟩
  case round =>
    obtain ⟨v, l, hv, hkv, rfl, hbr, hbx, hown, hmap, hmd⟩ := hrel
    obtain ⟨wq, hwq⟩ : ∃ wq, wq = wr := ⟨_, rfl⟩
    subst hwq
    obtain ⟨a, c, e3, hlc, hcm, hat, _⟩ := hown.at
    subst e3
    have HBR := Lib.hid hbr
    have HBXR := Lib.hid hbx
    have HOW := Lib.hid hown
    have HMAP := Lib.hid hmap
    have HMD := Lib.hid hmd
    have HAT := Lib.hid hat
    have y0 := (hbx 0 _ rfl).1
    have y1 := (hbx 1 _ rfl).1
    have y2 := (hbx 2 _ rfl).1
    have y3 := (hbx 3 _ rfl).1
    have y4 := (hbx 4 _ rfl).1
    have y5 := (hbx 5 _ rfl).1
    have hll : l.length ≤ 2000 := by
      have h := congrArg List.length hmap
      rw [List.length_map, List.length_cons, List.length_map] at h
      have := hitU_len s.st v
      omega
    have hfin : madeL s.st = s.st :: (hitU s.st v).map (hit s.st) → RetMv s w (.returned (.slice a l.length c)) wq := fun h =>
      ⟨a, c, l, rfl, hmap.trans h.symm, hat, fun x hx => (hmd x hx).ps (HPX.out.later hbr), HBX.out.trans (hbr.mono HXL.out.2)⟩
    have HFIN := Lib.hid hfin
    obtain ⟨ll, hll2⟩ : ∃ n, n = l.length := ⟨_, rfl⟩
    have HLL := Lib.hid hll2
    rw [← hll2] at hll ⊢
    clear hbr hbx hown hmap hmd hat hfin hll2 hlc hcm
    by_cases hlt : v < nf
    · have n1 : (v : Int) < (nf : Int) := by omega
      have n0 : (0 : Int) ≤ (v : Int) := by omega
      by_cases hb0 : 0 < bu
      · obtain ⟨fb, fo, rfl, hfc⟩ := (HPX.out.later HBR.out).f v (by have := HNF.out; omega)
        obtain ⟨d, hd⟩ : ∃ d, d = bg s.failed v := ⟨_, rfl⟩
        rw [← hd] at hfc
        have HSU := Lib.hid (hitU_succ s.st v)
        have HD := Lib.hid hd
        clear hd
        cases d
        · have hwb : IntKind.i64.wrap (bu - 1) = bu - 1 := IntWalk.i64_in _ (by omega)
          go_upto_region 7 with fail
          refine wp_named ?_
          intro w6 hw6
          obtain ⟨T, hT⟩ : ∃ O, O = wq.heap.size := ⟨_, rfl⟩
          obtain ⟨hb6, hs6, hx6, _⟩ := alloc1 wq [.int .i64 tu, .slice sa nl sc, .slice (some ⟨fb, fo, none⟩) nf fc, .int .i64 bu, .int .i64 ch, .int .i64 bo] 40 w6 hw6
          rw [← hT] at hx6 ⊢
          obtain ⟨gb, lc, w7, hr, ho, hb7⟩ := copyE (E := EB) w6 s.failed (some ⟨fb, fo, none⟩) fc (Bools.el (HPX.out.later (HBR.out.trans (hb6.mono HBR.out.size))).f) (by have := HNF.out; omega) (by have := HNF.out; omega) 38
          rw [← HNF.out] at hr ho
          obtain ⟨hb8, hx8, ho8⟩ := stE hb6 hT (by omega) hx6 2 (by simp) hb7 ho
          have hc7 := ((hx6.later hb7) 2 _ rfl).1
          have hf7 := ((hx6.later hb7) 2 _ rfl).2
          have y2' := cell_later hb6 y2
          have hlX : X < w6.heap.size := World.block_lt_of_cell? _ _ y2'
          have HR := Lib.hid hr
          have HX8 := Lib.hid hx8
          have HO8 := Lib.hid ho8
          have HB8 := Lib.hid hb8
          have HT := Lib.hid hT
          clear hr ho hb7 hb8 hx8 ho8 hx6 hw6 y0 y1 y2 y3 y4 y5 hs6 hb6 hT hfc
          go_upto_region 8 with (at_builtin; go_loud (refine wpList_app_eq rfl _ _ _ rfl _ _ rfl rfl HR.out ?_))
          refine wp_named ?_
          intro w8 hw8
          rw [← hw8] at HX8 HO8 HB8
          clear hw8 hc7 hf7 y2' hlX
          obtain ⟨cv, cf⟩ := ownB_cell HO8.out (q := v) (by have := HNF.out; omega)
          have q2 := (HX8.out 2 _ rfl).1
          have hgT : gb ≠ T := by have := (HO8.out.lt gb rfl).1; omega
          have HGT := Lib.hid hgT
          clear hgT
          go_upto_region 9 with fail
          refine wp_named ?_
          intro w9 hw9
          have hch9 : Chg (fun k => k = gb) w8 w9 := by rw [hw9]; exact Chg.setCell (S := fun k => k = gb) (Chg.refl _ _) (p := ⟨gb, v, none⟩) (fun _ => rfl) _
          have ho9 : EB.Own w9 (T + 1) (.slice (some ⟨gb, 0, none⟩) nf lc) (s.failed.set v true) := by rw [hw9]; exact own_setB HO8.out v true
          have hx9 := HX8.out.chg hch9 (fun e => HGT.out e.symm) HX8.out.lt
          have hb9 : Below wq.heap.size wq w9 := HB8.out.trans (hch9.below HB8.out.size fun k e => by have := (HO8.out.lt gb rfl).1; have := HT.out; omega)
          have q3 := (hx9 3 _ rfl).1
          have q3f := (hx9 3 _ rfl).2
          have HO9 := Lib.hid ho9
          have HX9 := Lib.hid hx9
          have HB9 := Lib.hid hb9
          clear hw9 hch9 ho9 hx9 hb9 cv cf q2
          go_upto_region 10 with fail
          refine wp_named ?_
          intro wA hwA
          have hxA : BoxAt wA T [.int .i64 tu, .slice sa nl sc, .slice (some ⟨gb, 0, none⟩) nf lc, .int .i64 (bu - 1), .int .i64 ch, .int .i64 bo] := by rw [hwA]; exact HX9.out.put 3 _ (by simp)
          have hchA : Chg (fun k => k = T) w9 wA := by rw [hwA]; exact Chg.setCell (S := fun k => k = T) (Chg.refl _ _) (p := ⟨T, 3, none⟩) (fun _ => rfl) _
          have hoA := HO9.out.block (w' := wA) fun b hb => hchA.block b (HO9.out.lt b hb).2 fun e => by have := (HO9.out.lt b hb).1; omega
          have hbA : Below wq.heap.size wq wA := HB9.out.trans (hchA.below HB9.out.size fun k e => by have := HT.out; omega)
          obtain ⟨x, hx⟩ : ∃ x : PA, x = (⟨tu, s.starts, s.failed.set v true, bu - 1, ch, bo⟩, (sa, sc, some ⟨gb, 0, none⟩, lc)) := ⟨_, rfl⟩
          have hcs : EQ.cf x = [.int .i64 tu, .slice sa nl sc, .slice (some ⟨gb, 0, none⟩) nf lc, .int .i64 (bu - 1), .int .i64 ch, .int .i64 bo] := by
            rw [hx, HNF.out, HNL.out]
            show [Value.int .i64 tu, Value.slice sa s.starts.length sc, Value.slice (some ⟨gb, 0, none⟩) (s.failed.set v true).length lc, Value.int .i64 (bu - 1), Value.int .i64 ch, Value.int .i64 bo] = _
            rw [List.length_set]
          have hxm : MdE wX.heap.size wA s sa (some ⟨fb, fo, none⟩) x := by
            rw [hx]
            refine ⟨rfl, rfl, .inr ?_⟩
            show EB.Own wA wX.heap.size (.slice (some ⟨gb, 0, none⟩) (s.failed.set v true).length lc) (s.failed.set v true)
            rw [List.length_set, ← HNF.out]
            exact hoA.mono (by have := HT.out; have := HBR.out.size; omega)
          have hxs : x.1.st = hit s.st v := by
            rw [hx, HBU.out, show tu = s.turn from congrArg Pos.turn HFS.out.symm]
            rfl
          have hbB : Below wA.heap.size wA (wA.alloc (.cells #[.int .i64 tu, .slice sa nl sc, .slice (some ⟨gb, 0, none⟩) nf lc, .int .i64 (bu - 1), .int .i64 ch, .int .i64 bo] 40)) := (Below.refl _ _).alloc (Nat.le_refl _) _
          have hoB := (HOW.out.later hbA).later hbB
          have hsz := hbA.size
          have hsr := HBR.out.size
          obtain ⟨v2, w2, hr2, ho2, hg2, _⟩ := El.app (E := EQ) _ wX.heap.size _ l [x] hoB (some ⟨wA.heap.size, 0, none⟩) 1 (El.at_lit' EQ wA [x] _ _ (by rw [List.flatMap_singleton, hcs])) (by have := HLL.out; simp; omega) (by simp; omega) 31
          rw [← HLL.out] at hr2
          simp only [List.length_cons, List.length_nil, Nat.zero_add] at hr2
          have hr0 : ∀ g, (Value.slice a l.length c).ownBlock = some g → wX.heap.size ≤ g := fun g hg => (HOW.out.lt g hg).1
          have HB2 := Lib.hid ((HBR.out.trans ((hbA.trans (hbB.mono hsz)).mono HBR.out.size)).grown hg2 (by simp; omega) hr0)
          have HBX2 := Lib.hid (((HBXR.out.later hbA).later hbB).block (hg2.block X (by have := HXL.out.1; simp; omega) (fun e => by have := hr0 X e.symm; have := HXL.out.1; omega)))
          have HMD2 := Lib.hid (show ∀ y ∈ l ++ [x], MdE wX.heap.size w2 s sa (some ⟨fb, fo, none⟩) y from fun y hy => by
            have h1 : MdE wX.heap.size wA s sa (some ⟨fb, fo, none⟩) y := by
              rcases List.mem_append.1 hy with hy | hy
              · exact (HMD.out y hy).block fun F' hF' => hbA.block F' hF'.lt
              · rw [List.mem_singleton.1 hy]
                exact hxm
            exact (h1.block fun F' hF' => hbB.block F' hF'.lt).block fun F' hF' => hg2.block F' hF'.lt fun e => absurd rfl ((hoB.ty e.symm).ne hF' (by decide)))
          have HMAP2 := Lib.hid (show (l ++ [x]).map (fun x : PA => x.1.st) = s.st :: (hitU s.st (v + 1)).map (hit s.st) from by
            rw [HSU.out, if_pos ⟨by show 0 < s.budget; rw [← HBU.out]; exact hb0, HD.out.symm⟩, List.map_append, List.map_append, HMAP.out]
            simp [hxs])
          have HO2 := Lib.hid ho2
          have HR2 := Lib.hid hr2
          have t0 := (hxA 0 _ rfl).1
          have t1 := (hxA 1 _ rfl).1
          have t2 := (hxA 2 _ rfl).1
          have t3 := (hxA 3 _ rfl).1
          have t4 := (hxA 4 _ rfl).1
          have t5 := (hxA 5 _ rfl).1
          clear hwA hxA hchA hoA hbA hx hcs hxm hxs hbB hoB hr2 ho2 hg2 hr0 hsz hsr q3 q3f
          go_wp2_with (at_builtin; go_loud (refine wpList_app_eq rfl _ _ _ rfl _ _ rfl rfl HR2.out ?_))
          go_roundg (nf - v)
          case measure => omega
          case rel => exact ⟨v + 1, l ++ [x], by omega, by omega, by go_num, HB2.out, HBX2.out, HO2.out, HMAP2.out, HMD2.out⟩
        · have HNH := Lib.hid (show hitU s.st (v + 1) = hitU s.st v from by
            rw [HSU.out, if_neg (fun e => by have h := e.2; rw [show s.st.failed = s.failed from rfl, ← HD.out] at h; cases h), List.append_nil])
          go_wp2_with fail
          go_roundg (nf - v)
          case measure => omega
          case rel => exact ⟨v + 1, l, by omega, by omega, by go_num, HBR.out, HBXR.out, by rw [HLL.out]; exact HOW.out, by rw [HNH.out]; exact HMAP.out, HMD.out⟩
      · have e1 : decide (0 < bu) = false := by simp; omega
        have HE := Lib.hid (HFIN.out (by rw [hitU_none (by show ¬ 0 < s.budget; rw [← HBU.out]; exact hb0)]; rfl))
        go_wp2_with fail
        go_ret
        rw [HLL.out]
        exact HE.out
    · obtain rfl : v = nf := by omega
      have HE := Lib.hid (HFIN.out (by rw [HNF.out]; rfl))
      clear y0 y1 y3 y4 y5
      go_wp2_with fail
      go_ret
      rw [HLL.out]
      exact HE.out
end
section
open Go.RowKit

def posN (p : Pos) (c : Int) : Pos := ⟨p.turn + 1, (afterS p.st c).starts, p.failed, p.budget, 0, 0⟩
theorem posN_st (p : Pos) (c : Int) : (posN p c).st = afterS p.st c := rfl
theorem posN_len (p : Pos) (c : Int) : (posN p c).starts.length = p.starts.length := by
  show (if 0 ≤ c then p.starts.set c.toNat (ig p.starts c.toNat - 1) else p.starts).length = _
  split
  · rw [List.length_set]
  · rfl
def RetNx (p : Pos) (c : Int) (fa : Option Addr) (fc : Nat) (w : World) (e : Ending) (w' : World) : Prop := ∃ sa sc, e = .returned (psV (posN p c) sa sc fa fc) ∧ PsAt w' (posN p c) sa fa ∧ Below w.heap.size w w'
set_option maxRecDepth 100000 in
set_option maxHeartbeats 4000000 in
theorem rnext_any (p : Pos) (c : Int) (sa fa : Option Addr) (sc fc : Nat) (w : World) (hP : PsAt w p sa fa) (hl : p.starts.length ≤ 50) (ht : 0 ≤ p.turn ∧ p.turn ≤ 1000)
    (hc : c = -1 ∨ ∃ k : Nat, c = k ∧ k < p.starts.length ∧ 0 ≤ ig p.starts k ∧ ig p.starts k ≤ 1000) :
    Calls Try.prog 24 #[psV p sa sc fa fc, .int .i64 c] w (RetNx p c fa fc w) := by
  have HP := Lib.hid hP
  have HC := Lib.hid hc
  have hw1 : IntKind.i64.wrap (p.turn + 1) = p.turn + 1 := IntWalk.i64_in _ (by omega)
  obtain ⟨t, het⟩ : ∃ t, t = p.turn := ⟨_, rfl⟩
  obtain ⟨ch, hch⟩ : ∃ ch, ch = p.choice := ⟨_, rfl⟩
  obtain ⟨n, hen⟩ : ∃ n, n = p.starts.length := ⟨_, rfl⟩
  obtain ⟨m, hem⟩ : ∃ n, n = p.failed.length := ⟨_, rfl⟩
  obtain ⟨bu, hbu⟩ : ∃ n, n = p.budget := ⟨_, rfl⟩
  obtain ⟨bo, hbo⟩ : ∃ n, n = p.bound := ⟨_, rfl⟩
  have HN := Lib.hid hen
  have HM := Lib.hid hem
  have HT := Lib.hid het
  have HBU := Lib.hid hbu
  have HW1 := Lib.hid hw1
  have HL := Lib.hid hl
  unfold psV
  rw [← het, ← hch, ← hen, ← hem, ← hbu, ← hbo]
  clear hP hc hw1 het hch hen hem hbu hbo hl ht
  go_enter Try.func24, Try.ntmps24
  go_upto_region 1 with fail
  refine wp_named ?_
  intro w1 hw1
  obtain ⟨hb1, hs1, ⟨hg, _⟩, hr, _⟩ := alloc2t w [.int .i64 t, .slice sa n sc, .slice fa m fc, .int .i64 bu, .int .i64 ch, .int .i64 bo] [.int .i64 0, .slice none 0 0, .slice none 0 0, .int .i64 0, .int .i64 0, .int .i64 0] _ _ w1 hw1
  have HB := Lib.hid hb1
  have HS1 := Lib.hid hs1
  have HR := Lib.hid hr
  have b0 := (hg 0 _ rfl).1
  have b1 := (hg 1 _ rfl).1
  have b2 := (hg 2 _ rfl).1
  have b3 := (hg 3 _ rfl).1
  have HI := Lib.hid (HP.out.s.later hb1)
  clear hw1 hb1 hs1 hg hr
  have hwt : IntKind.i64.wrap (t + 1) = t + 1 := by rw [HT.out]; exact HW1.out
  obtain ⟨fin, hfin⟩ : ∃ fin : Value → List Value, fin = fun v => [.int .i64 (t + 1), v, .slice fa m fc, .int .i64 bu, .int .i64 0, .int .i64 0] := ⟨_, rfl⟩
  have HFIN := Lib.hid (show ∀ v, fin v = [.int .i64 (t + 1), v, .slice fa m fc, .int .i64 bu, .int .i64 0, .int .i64 0] from fun v => by rw [hfin])
  refine wp_flow_j (fun β L' w' => AfJ w1 p.starts [.int .i64 0, .slice none 0 0, .slice none 0 0, .int .i64 0, .int .i64 0, .int .i64 0] fin (β 3) (β 6) (β 12) (L' 3) (L' 6) (L' 12) (L' 13) w') (by kernel_rfl) (by kernel_rfl) ?h0 ?_
  case h0 => exact ⟨(Below.refl _ _).drew, fun e => (by cases e), fun e => (by cases e), fun e => (by cases e)⟩
  clear hfin
  iterate 3 (((with_reducible refine FlowJ.pure (v := ?_) ?_ ?_ ?_ ?_); rotate_left 1; (focus (intro _; rfl)); (focus (intro β L' w' hJ hat; (try dsimp only at hJ); (try dsimp only); simpa only [setL, Nat.reduceEqDiff, if_false] using hJ)); (focus (intro β L' w' hJ hat; (try dsimp only at hJ); (have y0 := cell_later hJ.low b0); go_simp; (try with_reducible rfl); done)); (try simp only [Act.put, List.setIfInBounds_toArray, List.set_cons_zero, List.set_cons_succ, Nat.reduceAdd])))
  ((with_reducible refine FlowJ.ghost ?_ ?_ ?_); (focus (intro _; rfl)); (focus (intro β L' w' hJ hat K' hK; (try dsimp only at hJ); ((have n6 := hat.not (j := 6) (by kernel_rfl)); (have n13 := hat.not (j := 13) (by kernel_rfl)); have un := hat.un; simp only [un, n6, n13] at hJ; go_simp; refine hK.out _ _ ?_; simp only [updG, setL, Nat.reduceEqDiff, if_true, if_false, n6, n13]; exact hJ.made))); (try simp only [Act.put, List.setIfInBounds_toArray, List.set_cons_zero, List.set_cons_succ, Nat.reduceAdd]))
  iterate 2 (((with_reducible refine FlowJ.pure (v := ?_) ?_ ?_ ?_ ?_); rotate_left 1; (focus (intro _; rfl)); (focus (intro β L' w' hJ hat; (try dsimp only at hJ); (try dsimp only); simpa only [setL, Nat.reduceEqDiff, if_false] using hJ)); (focus (intro β L' w' hJ hat; (try dsimp only at hJ); (have y0 := cell_later hJ.low b1); go_simp; (try with_reducible rfl); done)); (try simp only [Act.put, List.setIfInBounds_toArray, List.set_cons_zero, List.set_cons_succ, Nat.reduceAdd])))
  ((with_reducible refine FlowJ.ghost ?_ ?_ ?_); (focus (intro _; rfl)); (focus (intro β L' w' hJ hat K' hK; (try dsimp only at hJ); ((have p3 := hat.pre 3 (by kernel_rfl)); (have n13 := hat.not (j := 13) (by kernel_rfl)); have un := hat.un; simp only [un, p3, n13] at hJ; obtain ⟨v', w2, hr, ho, hg, hnn⟩ := El.app (E := EI) w' w1.heap.size (β 3) [] p.starts (hJ.e3 rfl rfl) sa sc (Ints.el (HI.out.later hJ.low)) (by have := HL.out; simp; omega) hJ.low.size 22; rw [← HN.out] at hr; refine wp_app_eq (.tmp 9) (.tmp 11) 22 rfl _ _ rfl rfl hr ?_; refine hK.out _ _ ?_; simp only [updG, setL, Nat.reduceEqDiff, if_true, if_false, p3, n13]; exact hJ.app (by simpa using ho) hg hnn))); (try simp only [Act.put, List.setIfInBounds_toArray, List.set_cons_zero, List.set_cons_succ, Nat.reduceAdd]))
  iterate 2 (((with_reducible refine FlowJ.pure (v := ?_) ?_ ?_ ?_ ?_); rotate_left 1; (focus (intro _; rfl)); (focus (intro β L' w' hJ hat; (try dsimp only at hJ); (try dsimp only); simpa only [setL, Nat.reduceEqDiff, if_false] using hJ)); (focus (intro β L' w' hJ hat; (try dsimp only at hJ); (have y0 := cell_later hJ.low b2); go_simp; (try with_reducible rfl); done)); (try simp only [Act.put, List.setIfInBounds_toArray, List.set_cons_zero, List.set_cons_succ, Nat.reduceAdd])))
  iterate 2 (((with_reducible refine FlowJ.pure (v := ?_) ?_ ?_ ?_ ?_); rotate_left 1; (focus (intro _; rfl)); (focus (intro β L' w' hJ hat; (try dsimp only at hJ); (try dsimp only); simpa only [setL, Nat.reduceEqDiff, if_false] using hJ)); (focus (intro β L' w' hJ hat; (try dsimp only at hJ); (have y0 := cell_later hJ.low b3); go_simp; (try with_reducible rfl); done)); (try simp only [Act.put, List.setIfInBounds_toArray, List.set_cons_zero, List.set_cons_succ, Nat.reduceAdd])))
  refine FlowJ.pureG (v := fun β => .agg #[.int .i64 (t + 1), β 6, .slice fa m fc, .int .i64 bu, .int .i64 0, .int .i64 0]) (fun β k b hk => ?_) (fun β b => rfl) (fun _ => rfl) (fun β L' w' hJ hat => by simpa only [setL, Nat.reduceEqDiff, if_false] using hJ) (fun β L' w' hJ hat => ?_) ?_
  · have : updG β k b 6 = β 6 := updG_ne β b fun e => by subst e; exact Bool.false_ne_true (hk.symm.trans (by kernel_rfl))
    simp only [this]
  · have p6 := hat.pre 6 (by kernel_rfl)
    obtain ⟨oa, na, c2, e6⟩ := (hJ.e6 p6).shape
    rw [e6]
    clear hJ
    go_simp
    (try with_reducible rfl); done
  (try simp only [Act.put, List.setIfInBounds_toArray, List.set_cons_zero, List.set_cons_succ, Nat.reduceAdd])
  ((with_reducible refine FlowJ.ghost ?_ ?_ ?_); (focus (intro _; rfl)); (focus (intro β L' w' hJ hat K' hK; (try dsimp only at hJ); ((have n13 := hat.not (j := 13) (by kernel_rfl)); have un := hat.un; simp only [un, n13] at hJ; go_simp; refine hK.out _ _ ?_; simp only [updG, setL, Nat.reduceEqDiff, if_true, if_false, n13]; exact hJ.new (o := [.int .i64 0, .slice none 0 0, .slice none 0 0, .int .i64 0, .int .i64 0, .int .i64 0]) rfl))); (try simp only [Act.put, List.setIfInBounds_toArray, List.set_cons_zero, List.set_cons_succ, Nat.reduceAdd]))
  ((with_reducible refine FlowJ.eff ?_ ?_ ?_); (focus (intro _; rfl)); (focus (intro β L' w' hJ hat K' hK; (try dsimp only at hJ); ((have p12 := hat.pre 12 (by kernel_rfl)); (have p11 := hat.pre 11 (by kernel_rfl)); have p6 := hat.down 11 6 p11 (by decide) (by kernel_rfl); have p3 := hat.down 6 3 p6 (by decide) (by kernel_rfl); have un := hat.un; simp only [un, p3, p6, p12] at hJ; obtain ⟨oa, na, c2, e6⟩ := (hJ.e6 rfl).shape; obtain ⟨b, e12, hb1, hb2, hbx, hn3, hn6⟩ := hJ.bx rfl; simp only [Bool.false_eq_true, if_false] at hbx; obtain ⟨c0, f0⟩ := hbx 0 _ rfl; obtain ⟨c1, f1⟩ := hbx 1 _ rfl; obtain ⟨c2', f2⟩ := hbx 2 _ rfl; obtain ⟨c3, f3⟩ := hbx 3 _ rfl; obtain ⟨c4, f4⟩ := hbx 4 _ rfl; obtain ⟨c5, f5⟩ := hbx 5 _ rfl; have hd := hJ.done (by intro v; rw [HFIN.out]; rfl) e12; rw [HFIN.out] at hd; simp only [World.setCells, Nat.zero_add, Nat.reduceAdd] at hd; rw [e6, e12]; rw [e6] at hd; go_simp; rw [← e6, ← e12]; rw [← e6] at hd; refine hK.out _ ?_; simp only [setL, Nat.reduceEqDiff, if_true, if_false, p3, p6, p12]; exact hd))); (try simp only [Act.put, Nat.reduceAdd]))
  refine FlowJ.stop ?_
  dsimp only
  intro β w5 hJ
  obtain ⟨b, e12, hb1, hb2, hxw, _, hne⟩ := hJ.bx rfl
  have ho := hJ.e6 rfl
  have hl5 := hJ.low
  have hne := hne rfl
  obtain ⟨oa, c2, e6, _⟩ := ho.at
  rw [← HN.out] at e6
  rw [e6] at ho hne
  simp only [if_true] at hxw
  rw [HFIN.out, e6] at hxw
  rw [e12, e6]
  have hrw := HR.out.later hl5
  have hbw : Below w.heap.size w w5 := HB.out.trans (hl5.mono HB.out.size)
  have hRb : b ≠ w.heap.size + 1 := by have := HS1.out; omega
  have HBO := Lib.hid (show w1.heap.size ≤ b from hb1)
  clear hJ b0 b1 b2 b3 hl5 e12 e6 hwt hb1 hb2
  rcases HC.out with rfl | ⟨k, rfl, hk, hu0, hu1⟩
  · have how := ho
    have HSS := Lib.hid (show p.starts = (posN p (-1)).starts from rfl)
    clear ho hne
    have HRX := Lib.hid hrw
    have c0 := (hxw 0 _ rfl).1
    have c1 := (hxw 1 _ rfl).1
    have c2' := (hxw 2 _ rfl).1
    have c3 := (hxw 3 _ rfl).1
    have c4 := (hxw 4 _ rfl).1
    have c5 := (hxw 5 _ rfl).1
    obtain ⟨r0, g0⟩ := hrw 0 _ rfl
    obtain ⟨r1, g1⟩ := hrw 1 _ rfl
    obtain ⟨r2, g2⟩ := hrw 2 _ rfl
    obtain ⟨r3, g3⟩ := hrw 3 _ rfl
    obtain ⟨r4, g4⟩ := hrw 4 _ rfl
    obtain ⟨r5, g5⟩ := hrw 5 _ rfl
    have HOX := Lib.hid how
    have HBX := Lib.hid hbw
    clear hrw hxw how hbw
    go_wp2_with fail
    obtain ⟨w6, hw6⟩ : ∃ w6, w6 = (w5).setCells (w.heap.size + 1) 0 [.int .i64 (t + 1), .slice oa n c2, .slice fa m fc, .int .i64 bu, .int .i64 0, .int .i64 0] := ⟨_, rfl⟩
    have hb6 : Below w.heap.size w w6 := by rw [hw6]; exact below_setCells _ _ _ _ HBX.out (by omega)
    have ho6 : EI.Own w6 w1.heap.size (.slice oa n c2) (p.starts) := by
      rw [hw6]
      exact World.ownsRow.kept HOX.out (grown_setCells _ _ _ _) (.inr fun e => by have := (HOX.out.lt _ e).1; have := HS1.out; omega)
    have hr6 : BoxAt w6 (w.heap.size + 1) [.int .i64 (t + 1), .slice oa n c2, .slice fa m fc, .int .i64 bu, .int .i64 0, .int .i64 0] := by
      rw [hw6]
      exact HRX.out.stored rfl
    simp only [World.setCells, Nat.zero_add, Nat.reduceAdd] at hw6
    rw [← hw6]
    have q0 := (hr6 0 _ rfl).1
    have q1 := (hr6 1 _ rfl).1
    have q2 := (hr6 2 _ rfl).1
    have q3 := (hr6 3 _ rfl).1
    have q4 := (hr6 4 _ rfl).1
    have q5 := (hr6 5 _ rfl).1
    refine bodyPost_ret (v := .agg #[.int .i64 (t + 1), .slice oa n c2, .slice fa m fc, .int .i64 bu, .int .i64 0, .int .i64 0]) (by simp [results, go_sem, q0, q1, q2, q3, q4, q5]) rfl ?_
    refine ⟨oa, c2, ?_, ⟨?_, HP.out.f.later hb6⟩, hb6⟩
    · unfold psV
      rw [posN_len, HT.out, HN.out, HM.out, HBU.out]
      rfl
    · rw [← HSS.out]
      obtain ⟨_, _, e9, _, _, hat9, _⟩ := ho6.at
      rw [(Value.slice.inj e9).1]
      exact hat9.ints
  · obtain ⟨la, lc, hlv, _, _, hat, hcase⟩ := ho.at
    have hlb : ∃ gb, la = some ⟨gb, 0, none⟩ := by
      rcases hcase with ⟨_, _, e⟩ | ⟨gb, e, _⟩
      · rw [e] at hk; simp at hk
      · exact ⟨gb, e⟩
    obtain ⟨gb, rfl⟩ := hlb
    obtain ⟨_, _, e2, cl⟩ := hat.ints k hk
    cases e2
    rw [Nat.zero_add] at cl
    obtain ⟨rfl, -, rfl⟩ := Value.slice.inj hlv
    have clf : w5.frozen? ⟨gb, k, none⟩ = false := by
      obtain ⟨cur, hcur⟩ := ho.ty (g := gb) rfl
      simp [World.frozen?, hcur]
    obtain ⟨u, hu⟩ : ∃ u, u = ig p.starts k := ⟨_, rfl⟩
    rw [← hu] at cl hu0 hu1
    have wr1 : IntKind.i64.wrap (u - 1) = u - 1 := IntWalk.i64_in _ (by omega)
    have y1 : (k : Int) < (n : Int) := by have := HN.out; omega
    have y0 : (0 : Int) ≤ (k : Int) := by omega
    have HSS := Lib.hid (show p.starts.set k (u - 1) = (posN p k).starts from by
      show _ = (if 0 ≤ (k : Int) then p.starts.set (k : Int).toNat (ig p.starts (k : Int).toNat - 1) else p.starts)
      rw [if_pos (by omega), hu]
      rfl)
    have hgb : gb ≠ b := fun e => hne (by rw [e]; rfl)
    have HO5 := Lib.hid ho
    have HX5 := Lib.hid hxw
    have HR5 := Lib.hid hrw
    have HB5 := Lib.hid hbw
    have HGB := Lib.hid hgb
    have o1 := (hxw 1 _ rfl).1
    clear ho hne hat hcase hlv hu hk hu0 hu1 hxw hrw hbw hgb
    go_upto_region 4 with fail
    refine wp_named ?_
    intro wg hwg
    have hgl := (HO5.out.lt gb rfl).1
    have hch : Chg (fun k => k = gb) w5 wg := by rw [hwg]; exact Chg.setCell (S := fun k => k = gb) (Chg.refl _ _) (p := ⟨gb, k, none⟩) (fun _ => rfl) _
    have how : EI.Own wg w1.heap.size (.slice (some ⟨gb, 0, none⟩) n c2) (p.starts.set k (u - 1)) := by rw [hwg]; exact own_set HO5.out k (u - 1)
    have hxw := HX5.out.chg hch (fun e => HGB.out e.symm) HX5.out.lt
    have hrw := HR5.out.chg hch (by have := HS1.out; omega) HR5.out.lt
    have hbw : Below w.heap.size w wg := HB5.out.trans (hch.below HB5.out.size fun k e => by have := HS1.out; omega)
    clear hwg hch cl clf o1 hgl wr1 y1 y0
    obtain ⟨oa, hoa⟩ : ∃ x, x = (some ⟨gb, 0, none⟩ : Option Addr) := ⟨_, rfl⟩
    rw [← hoa] at how hxw
    clear hoa
    have HRX := Lib.hid hrw
    have c0 := (hxw 0 _ rfl).1
    have c1 := (hxw 1 _ rfl).1
    have c2' := (hxw 2 _ rfl).1
    have c3 := (hxw 3 _ rfl).1
    have c4 := (hxw 4 _ rfl).1
    have c5 := (hxw 5 _ rfl).1
    obtain ⟨r0, g0⟩ := hrw 0 _ rfl
    obtain ⟨r1, g1⟩ := hrw 1 _ rfl
    obtain ⟨r2, g2⟩ := hrw 2 _ rfl
    obtain ⟨r3, g3⟩ := hrw 3 _ rfl
    obtain ⟨r4, g4⟩ := hrw 4 _ rfl
    obtain ⟨r5, g5⟩ := hrw 5 _ rfl
    have HOX := Lib.hid how
    have HBX := Lib.hid hbw
    clear hrw hxw how hbw
    go_wp2_with fail
    obtain ⟨w6, hw6⟩ : ∃ w6, w6 = (wg).setCells (w.heap.size + 1) 0 [.int .i64 (t + 1), .slice oa n c2, .slice fa m fc, .int .i64 bu, .int .i64 0, .int .i64 0] := ⟨_, rfl⟩
    have hb6 : Below w.heap.size w w6 := by rw [hw6]; exact below_setCells _ _ _ _ HBX.out (by omega)
    have ho6 : EI.Own w6 w1.heap.size (.slice oa n c2) ((p.starts.set k (u - 1))) := by
      rw [hw6]
      exact World.ownsRow.kept HOX.out (grown_setCells _ _ _ _) (.inr fun e => by have := (HOX.out.lt _ e).1; have := HS1.out; omega)
    have hr6 : BoxAt w6 (w.heap.size + 1) [.int .i64 (t + 1), .slice oa n c2, .slice fa m fc, .int .i64 bu, .int .i64 0, .int .i64 0] := by
      rw [hw6]
      exact HRX.out.stored rfl
    simp only [World.setCells, Nat.zero_add, Nat.reduceAdd] at hw6
    rw [← hw6]
    have q0 := (hr6 0 _ rfl).1
    have q1 := (hr6 1 _ rfl).1
    have q2 := (hr6 2 _ rfl).1
    have q3 := (hr6 3 _ rfl).1
    have q4 := (hr6 4 _ rfl).1
    have q5 := (hr6 5 _ rfl).1
    refine bodyPost_ret (v := .agg #[.int .i64 (t + 1), .slice oa n c2, .slice fa m fc, .int .i64 bu, .int .i64 0, .int .i64 0]) (by simp [results, go_sem, q0, q1, q2, q3, q4, q5]) rfl ?_
    refine ⟨oa, c2, ?_, ⟨?_, HP.out.f.later hb6⟩, hb6⟩
    · unfold psV
      rw [posN_len, HT.out, HN.out, HM.out, HBU.out]
      rfl
    · rw [← HSS.out]
      obtain ⟨_, _, e9, _, _, hat9, _⟩ := ho6.at
      rw [(Value.slice.inj e9).1]
      exact hat9.ints
end
section
open Go.RowKit

theorem cmpI_self (a : Int) : cmpI a a = 0 := cmpI_zero.2 rfl
theorem cmpL_self : ∀ l : List Int, cmpL l l = 0
  | [] => rfl
  | a :: l => by
    unfold cmpL
    rw [if_pos (cmpI_self a)]
    exact cmpL_self l
theorem cmpP_of {p q : Pos} (h : p.st = q.st) : cmpP p q = 0 := by
  unfold Pos.st at h
  simp only [St.mk.injEq] at h
  obtain ⟨h1, h2, h3, h4⟩ := h
  unfold cmpP
  rw [h1, h2, h3, h4, cmpI_self, cmpL_self, cmpL_self, cmpI_self]
  rfl
/-- the plan as it lies -/
structure LiI (n m : Nat) (w : World) (a : Option Addr) (l : List PA) : Prop where
  at' : EQ.At w a l
  ps : PsAll w l
  len : ∀ x ∈ l, x.1.starts.length = n ∧ x.1.failed.length = m
theorem LiI.later {n m : Nat} {w w' : World} {a : Option Addr} {l : List PA} (h : LiI n m w a l) (hb : Below w.heap.size w w') : LiI n m w' a l := ⟨h.at'.later hb, h.ps.later hb, h.len⟩
theorem uniq_of : ∀ {l : List PA}, (l.map fun x : PA => x.1.st).Nodup → ∀ x ∈ l, ∀ y ∈ l, x.1.st = y.1.st → x = y
  | [], _, x, hx, _, _, _ => by cases hx
  | a :: l, h, x, hx, y, hy, e => by
    rw [List.map_cons, List.nodup_cons] at h
    rcases List.mem_cons.1 hx with hx1 | hx1
    · rcases List.mem_cons.1 hy with hy1 | hy1
      · rw [hx1, hy1]
      · exact absurd (List.mem_map.2 ⟨y, hy1, by rw [← e, hx1]⟩) h.1
    · rcases List.mem_cons.1 hy with hy1 | hy1
      · exact absurd (List.mem_map.2 ⟨x, hx1, by rw [e, hy1]⟩) h.1
      · exact uniq_of h.2 x hx1 y hy1 e
set_option maxRecDepth 100000 in
set_option maxHeartbeats 4000000 in
theorem lfind_any (n m : Nat) (a : Option Addr) (c : Nat) (l : List PA) (p : PA) (w : World) (hL : LiI n m w a l) (hll : l.length ≤ 100000000000) (hP : PsAt w p.1 p.2.1 p.2.2.2.1) (hn : p.1.starts.length = n) (hm : p.1.failed.length = m) (hb : n ≤ 1000 ∧ m ≤ 1000) (z : PA) (hin : z ∈ l ∧ z.1.st = p.1.st ∧ ∀ x ∈ l, x.1.st = p.1.st → x = z) :
    Calls Try.prog 22 #[.slice a l.length c, .agg (psCs p).toArray] w (RetB (.tuple #[.agg (psCs z).toArray, .bool true]) w) := by
  obtain ⟨⟨pt, ps, pf, pb, pc, pd⟩, sa, sc, fa, fc⟩ := p
  simp only at hn hm hP hin
  have hpc : (psCs (⟨pt, ps, pf, pb, pc, pd⟩, sa, sc, fa, fc) : List Value) = [.int .i64 pt, .slice sa n sc, .slice fa m fc, .int .i64 pb, .int .i64 pc, .int .i64 pd] := by rw [← hn, ← hm]
  rw [hpc]
  obtain ⟨ll, hll2⟩ : ∃ n, n = l.length := ⟨_, rfl⟩
  rw [← hll2] at hll ⊢
  have hrc : ∀ x ∈ l, ∀ wy, Below w.heap.size w wy → Calls Try.prog 23 #[.agg #[.int .i64 x.1.turn, .slice x.2.1 n x.2.2.1, .slice x.2.2.2.1 m x.2.2.2.2, .int .i64 x.1.budget, .int .i64 x.1.choice, .int .i64 x.1.bound], .agg #[.int .i64 pt, .slice sa n sc, .slice fa m fc, .int .i64 pb, .int .i64 pc, .int .i64 pd]] wy (RetB (.int .i64 (cmpP x.1 ⟨pt, ps, pf, pb, pc, pd⟩)) wy) := fun x hx wy hy => by
    obtain ⟨h1, h2⟩ := hL.len x hx
    have h := rcmp_any x (⟨pt, ps, pf, pb, pc, pd⟩, sa, sc, fa, fc) wy (((hL.later hy).ps) x hx) (hP.later hy) (by show ps.length = _; rw [hn, h1]) (by show pf.length = _; rw [hm, h2]) (by rw [h1, h2]; exact hb)
    rw [hpc, show psCs x = [.int .i64 x.1.turn, .slice x.2.1 n x.2.2.1, .slice x.2.2.2.1 m x.2.2.2.2, .int .i64 x.1.budget, .int .i64 x.1.choice, .int .i64 x.1.bound] from by rw [← h1, ← h2]] at h
    exact h
  have HRC := Lib.hid hrc
  have HL := Lib.hid hL
  have HLL := Lib.hid hll2
  have HIN := Lib.hid hin
  have HST := Lib.hid (show (⟨pt, ps, pf, pb, pc, pd⟩ : Pos).st = (⟨pt, ps, pf, pb, pc, pd⟩ : Pos).st from rfl)
  clear hpc hll2 hrc hL hP hn hm hb hin
  go_enter Try.func22, Try.ntmps22
  go_upto_region 1 with fail
  refine wp_named ?_
  intro w1 hw1
  obtain ⟨hb1, hs1, ⟨hg, _⟩, hr, _⟩ := alloc2t w [.int .i64 pt, .slice sa n sc, .slice fa m fc, .int .i64 pb, .int .i64 pc, .int .i64 pd] [.int .i64 0, .slice none 0 0, .slice none 0 0, .int .i64 0, .int .i64 0, .int .i64 0] _ _ w1 hw1
  have HB1 := Lib.hid hb1
  have HG := Lib.hid hg
  have HR := Lib.hid hr
  clear hw1 hb1 hs1 hg hr
  go_wp2_with fail
  go_loopg [6] (ll + 1) (fun k v6 wr => ∃ i : Nat, i ≤ ll ∧ k + i = ll + 1 ∧ v6 = .int .i64 i ∧ Below w1.heap.size w1 wr ∧ ∀ j (h : j < l.length), j < i → ¬ cmpP l[j].1 ⟨pt, ps, pf, pb, pc, pd⟩ = 0)
  case atStart => exact ⟨0, by omega, by omega, rfl, Below.refl _ _, fun j _ h => by omega⟩
  case round =>
    obtain ⟨i, hi, hki, rfl, hbr, hno⟩ := hrel
    obtain ⟨wq, hwq⟩ : ∃ wq, wq = wr := ⟨_, rfl⟩
    subst hwq
    have HBR := Lib.hid hbr
    have HNO := Lib.hid hno
    clear hbr hno
    by_cases hlt : i < ll
    · have hiL : i < l.length := by have := HLL.out; omega
      have hbw := HB1.out.trans (HBR.out.mono HB1.out.size)
      have hLq := HL.out.later hbw
      obtain ⟨b, off, rfl, _⟩ := hLq.at'.head (by omega)
      have hrng := hLq.at'.range hiL
      rw [show off + i * EQ.S = off + i * 6 from rfl] at hrng
      have hcl := HRC.out l[i] (List.getElem_mem hiL)
      have hmem := List.getElem_mem hiL
      have hlen := HL.out.len l[i] hmem
      have hno2 := HNO.out
      obtain ⟨x, hx⟩ : ∃ x, x = l[i] := ⟨_, rfl⟩
      rw [← hx] at hrng hcl hmem hlen
      have x0 := hrng 0 _ rfl
      have x1 := hrng 1 _ rfl
      have x2 := hrng 2 _ rfl
      have x3 := hrng 3 _ rfl
      have x4 := hrng 4 _ rfl
      have x5 := hrng 5 _ rfl
      rw [Nat.add_zero] at x0
      rw [hlen.1] at x1
      rw [hlen.2] at x2
      obtain ⟨g0, g1, g2, g3, g4, g5⟩ : wq.cell? ⟨w.heap.size, 0, none⟩ = some (.int .i64 pt) ∧ wq.cell? ⟨w.heap.size, 1, none⟩ = some (.slice sa n sc) ∧ wq.cell? ⟨w.heap.size, 2, none⟩ = some (.slice fa m fc) ∧ wq.cell? ⟨w.heap.size, 3, none⟩ = some (.int .i64 pb) ∧ wq.cell? ⟨w.heap.size, 4, none⟩ = some (.int .i64 pc) ∧ wq.cell? ⟨w.heap.size, 5, none⟩ = some (.int .i64 pd) := by
        have h := HG.out.later HBR.out
        exact ⟨(h 0 _ rfl).1, (h 1 _ rfl).1, (h 2 _ rfl).1, (h 3 _ rfl).1, (h 4 _ rfl).1, (h 5 _ rfl).1⟩
      obtain ⟨r, hr⟩ : ∃ r, r = cmpP x.1 ⟨pt, ps, pf, pb, pc, pd⟩ := ⟨_, rfl⟩
      rw [← hr] at hcl
      obtain ⟨⟨xt, xs, xf, xb, xc, xd⟩, xa, xac, xfa, xfc⟩ := x
      simp only at x0 x1 x2 x3 x4 x5 hcl hlen hmem
      have hxc : (psCs (⟨xt, xs, xf, xb, xc, xd⟩, xa, xac, xfa, xfc) : List Value) = [.int .i64 xt, .slice xa n xac, .slice xfa m xfc, .int .i64 xb, .int .i64 xc, .int .i64 xd] := by rw [← hlen.1, ← hlen.2]
      have HX := Lib.hid hx
      have HMEM := Lib.hid hmem
      have HXC := Lib.hid hxc
      have HBW := Lib.hid hbw
      have HRR := Lib.hid hr
      have HCL := Lib.hid hcl
      have i1 : (i : Int) < (ll : Int) := by omega
      have i0 : (0 : Int) ≤ (i : Int) := by omega
      have HLT := Lib.hid hlt
      have hS : ∀ wy : World, Below wq.heap.size wq wy → Below wq.heap.size wq wy ∧ wy.cell? ⟨w.heap.size, 0, none⟩ = some (.int .i64 pt) ∧ wy.cell? ⟨w.heap.size, 1, none⟩ = some (.slice sa n sc) ∧ wy.cell? ⟨w.heap.size, 2, none⟩ = some (.slice fa m fc) ∧ wy.cell? ⟨w.heap.size, 3, none⟩ = some (.int .i64 pb) ∧ wy.cell? ⟨w.heap.size, 4, none⟩ = some (.int .i64 pc) ∧ wy.cell? ⟨w.heap.size, 5, none⟩ = some (.int .i64 pd)
          ∧ wy.cell? ⟨b, off + i * 6, none⟩ = some (.int .i64 xt) ∧ wy.cell? ⟨b, off + i * 6 + 1, none⟩ = some (.slice xa n xac) ∧ wy.cell? ⟨b, off + i * 6 + 2, none⟩ = some (.slice xfa m xfc) ∧ wy.cell? ⟨b, off + i * 6 + 3, none⟩ = some (.int .i64 xb) ∧ wy.cell? ⟨b, off + i * 6 + 4, none⟩ = some (.int .i64 xc) ∧ wy.cell? ⟨b, off + i * 6 + 5, none⟩ = some (.int .i64 xd) := fun wy hy =>
        ⟨hy, cell_later hy g0, cell_later hy g1, cell_later hy g2, cell_later hy g3, cell_later hy g4, cell_later hy g5, cell_later hy x0, cell_later hy x1, cell_later hy x2, cell_later hy x3, cell_later hy x4, cell_later hy x5⟩
      clear hno2 hx hmem hlen hxc hbw hr hcl hLq hrng g0 g1 g2 g3 g4 g5 x0 x1 x2 x3 x4 x5 hlt
      go_upto_region 4 with fail
      refine wp_flow_s [] [] (by kernel_rfl) (by kernel_rfl) (by kernel_rfl) ?_
      repeat (first | ((with_reducible refine Flow.pure hS StayG.nil (v := ?_) ?_ ?_ ?_ ?_); rotate_left 1; (focus kernel_rfl); (focus (intro _; rfl)); (focus (intro β wx hSw; (try dsimp only at hSw); go_simp; (try with_reducible rfl); done)); (try simp only [Act.put, List.setIfInBounds_toArray, List.set_cons_zero, List.set_cons_succ, Nat.reduceAdd])) | ((with_reducible refine Flow.skip StayG.nil ?_ ?_ ?_); (focus kernel_rfl); (focus (intro _; rfl)); (try simp only [Act.put, List.setIfInBounds_toArray, List.set_cons_zero, List.set_cons_succ, Nat.reduceAdd])) | ((with_reducible refine Flow.call hS StayG.nil (v := ?_) ?_ ?_ ?_ ?_); rotate_left 1; (focus kernel_rfl); (focus (intro _; rfl)); (focus (intro β L wx hI hat hSw K' hK; (try dsimp only at hSw); go_simp; go_at_call 23; refine Calls.mono (HCL.out _ (HBW.out.trans (hSw.1.mono HBW.out.size))) ?_; rintro e w' ⟨rfl, hb'⟩; exact hK.out _ hb')); (try simp only [Act.put, List.setIfInBounds_toArray, List.set_cons_zero, List.set_cons_succ, Nat.reduceAdd])))
      ((with_reducible refine Flow.stop ?_); dsimp only; intro β w4 hI4)
      have HB4 := Lib.hid (HBR.out.trans (hI4.below.mono HBR.out.size))
      obtain ⟨_, _, _, _, _, _, _, x0, x1, x2, x3, x4, x5⟩ := hS w4 hI4.below
      by_cases hr0 : r = 0
      · subst hr0
        have HZ := Lib.hid (HIN.out.2.2 _ HMEM.out (cmpP_zero (HRR.out.symm)))
        obtain ⟨r0, g0⟩ := (HR.out.later HB4.out) 0 _ rfl
        obtain ⟨r1, g1⟩ := (HR.out.later HB4.out) 1 _ rfl
        obtain ⟨r2, g2⟩ := (HR.out.later HB4.out) 2 _ rfl
        obtain ⟨r3, g3⟩ := (HR.out.later HB4.out) 3 _ rfl
        obtain ⟨r4, g4⟩ := (HR.out.later HB4.out) 4 _ rfl
        obtain ⟨r5, g5⟩ := (HR.out.later HB4.out) 5 _ rfl
        have HR4 := Lib.hid (HR.out.later HB4.out)
        clear hS hI4
        go_wp2_with fail
        obtain ⟨w6, hw6⟩ : ∃ w6, w6 = w4.setCells (w.heap.size + 1) 0 [.int .i64 xt, .slice xa n xac, .slice xfa m xfc, .int .i64 xb, .int .i64 xc, .int .i64 xd] := ⟨_, rfl⟩
        have hb6 : Below w.heap.size w w6 := by rw [hw6]; exact below_setCells _ _ _ _ (HB1.out.trans (HB4.out.mono HB1.out.size)) (by omega)
        have hr6 : BoxAt w6 (w.heap.size + 1) [.int .i64 xt, .slice xa n xac, .slice xfa m xfc, .int .i64 xb, .int .i64 xc, .int .i64 xd] := by
          rw [hw6]
          exact HR4.out.stored rfl
        simp only [World.setCells, Nat.zero_add, Nat.reduceAdd] at hw6
        rw [← hw6]
        have q0 := (hr6 0 _ rfl).1
        have q1 := (hr6 1 _ rfl).1
        have q2 := (hr6 2 _ rfl).1
        have q3 := (hr6 3 _ rfl).1
        have q4 := (hr6 4 _ rfl).1
        have q5 := (hr6 5 _ rfl).1
        refine bodyPost_ret (v := .tuple #[.agg #[.int .i64 xt, .slice xa n xac, .slice xfa m xfc, .int .i64 xb, .int .i64 xc, .int .i64 xd], .bool true]) (by simp [results, go_sem, q0, q1, q2, q3, q4, q5]) rfl ?_
        exact retB (by rw [← HZ.out, HXC.out]) hb6
      · have hr1 : (r == 0) = false := by simpa using hr0
        have HNX := Lib.hid (show ∀ j (h : j < l.length), j < i + 1 → ¬ cmpP l[j].1 ⟨pt, ps, pf, pb, pc, pd⟩ = 0 from fun j h hj => by
          by_cases hji : j < i
          · exact HNO.out j h hji
          · obtain rfl : j = i := by omega
            intro e
            rw [← HX.out] at e
            exact hr0 (HRR.out.trans e))
        clear hS hI4 x0 x1 x2 x3 x4 x5
        go_wp2_with fail
        go_roundg (ll - i)
        case measure => have := HLT.out; omega
        case rel => exact ⟨i + 1, HLT.out, by have := HLT.out; omega, by go_num, HB4.out, HNX.out⟩
    · exfalso
      obtain ⟨hx, he, _⟩ := HIN.out
      obtain ⟨j, hj, rfl⟩ := List.mem_iff_getElem.1 hx
      exact HNO.out j hj (by have := HLL.out; omega) (cmpP_of he)
end
section
open Go.RowKit Go.Maps Go.Shelf

structure FolR (g : Gm) (D R : List St) : Prop where
  nd : R.Nodup
  sub : ∀ y ∈ D, y ∈ R
  new : ∀ y ∈ R, y ∈ D ∨ (Dom g y ∧ y.turn < g.deps.length ∧ (y.turn + 1 < g.deps.length → ∀ x ∈ madeL (afterS y (BG g y).1), x ∈ R))
theorem fol_props {g : Gm} : ∀ (k : Nat) (s : St) (D : List St), Dom g s → s.turn + k = g.deps.length → D.Nodup → FolR g D (followL g k s D) ∧ (0 < k → ∀ x ∈ madeL s, x ∈ followL g k s D)
  | 0, s, D, _, _, hn => ⟨⟨hn, fun _ h => h, fun _ h => .inl h⟩, fun h => absurd h (by omega)⟩
  | k + 1, s, D, hs, hk, hn => by
    rw [followL_succ]
    have key : ∀ (l : List St) (D : List St), (∀ x ∈ l, x ∈ madeL s) → D.Nodup → FolR g D (l.foldl (folStep g k) D) ∧ ∀ x ∈ l, x ∈ l.foldl (folStep g k) D := by
      intro l
      induction l with
      | nil => intro D _ hn; exact ⟨⟨hn, fun _ h => h, fun _ h => .inl h⟩, fun _ h => (by cases h)⟩
      | cons x l ih =>
        intro D hl hn
        rw [List.foldl_cons]
        have hx := hl x (by simp)
        have hdx := hs.made hx
        have htx := made_turn hx
        have st : FolR g D (folStep g k D x) ∧ x ∈ folStep g k D x := by
          unfold folStep
          split
          · rename_i h
            exact ⟨⟨hn, fun _ h => h, fun _ h => .inl h⟩, h⟩
          · rename_i h
            have hn2 : (D ++ [x]).Nodup := by
              rw [List.nodup_append]
              exact ⟨hn, by simp, fun y hy z hz => by rw [List.mem_singleton.1 hz]; exact fun e => h (e ▸ hy)⟩
            obtain ⟨⟨a, b, c⟩, d⟩ := fol_props k (afterS x (BG g x).1) (D ++ [x]) (hdx.next (by omega)) (by show x.turn + 1 + k = _; omega) hn2
            refine ⟨⟨a, fun y hy => b y (by simp [hy]), fun y hy => ?_⟩, b x (by simp)⟩
            rcases c y hy with h1 | h1
            · rcases List.mem_append.1 h1 with h2 | h2
              · exact .inl h2
              · have e := List.mem_singleton.1 h2
                subst e
                exact .inr ⟨hdx, by omega, fun ht => d (by omega)⟩
            · exact .inr h1
        obtain ⟨s1, s2⟩ := st
        obtain ⟨t1, t2⟩ := ih (folStep g k D x) (fun y hy => hl y (by simp [hy])) s1.nd
        refine ⟨⟨t1.nd, fun y hy => t1.sub y (s1.sub y hy), fun y hy => ?_⟩, fun y hy => ?_⟩
        · rcases t1.new y hy with h1 | h1
          · rcases s1.new y h1 with h2 | ⟨h2, h3, h4⟩
            · exact .inl h2
            · exact .inr ⟨h2, h3, fun ht z hz => t1.sub z (h4 ht z hz)⟩
          · exact .inr h1
        · rcases List.mem_cons.1 hy with rfl | hy
          · exact t1.sub _ s2
          · exact t2 y hy
    have := key (madeL s) D (fun _ h => h) hn
    exact ⟨this.1, fun _ => this.2⟩
theorem bvF_val {g : Gm} {w : St → Int} {x : St} (hd : ∀ v ∈ dg g x.turn.toNat, 0 ≤ v) : (bvF g w x).2 = (if (bvF g w x).1 < 0 then 1 else 0) + w (afterS x (bvF g w x).1) := by
  have key : ∀ (l : List Int) (o : Int × Int), (∀ v ∈ l, 0 ≤ v) → o.2 = (if o.1 < 0 then 1 else 0) + w (afterS x o.1) → (l.foldl (considerF w x) o).2 = (if (l.foldl (considerF w x) o).1 < 0 then 1 else 0) + w (afterS x (l.foldl (considerF w x) o).1) := by
    intro l
    induction l with
    | nil => intro o _ h; exact h
    | cons v l ih =>
      intro o hl h
      have hv := hl v (by simp)
      refine ih _ (fun y hy => hl y (by simp [hy])) ?_
      unfold considerF
      split
      · split
        · show w (afterS x v) = (if v < 0 then 1 else 0) + w (afterS x v)
          rw [if_neg (by omega)]
          omega
        · exact h
      · exact h
  unfold bvF
  exact key _ _ hd rfl
def boundB (g : Gm) (x : St) : Int := (BG g x).2
/-- what the plan's rows hold -/
structure PlanR (g : Gm) (l : List PA) : Prop where
  strict : (l.map (·.1)).Pairwise (fun x y => cmpP x y < 0)
  pos : ∀ q ∈ l, q.1 = posS g q.1.st
  dom : ∀ q ∈ l, Dom g q.1.st ∧ q.1.turn < g.deps.length
  next : ∀ q ∈ l, q.1.turn + 1 < g.deps.length → ∀ y ∈ madeL (afterS q.1.st q.1.choice), ∃ r ∈ l, r.1.st = y
  first : 0 < g.deps.length → ∀ y ∈ madeL (beginS g), ∃ r ∈ l, r.1.st = y
theorem PlanOf.rows {g : Gm} (hv : VG g) {l : List PA} (h : PlanOf g (l.map (·.1))) : PlanR g l := by
  obtain ⟨⟨nd, _, new⟩, fst⟩ := fol_props (g := g) g.deps.length (beginS g) [] (Dom.begin hv) (by show (0 : Int) + _ = _; omega) List.nodup_nil
  have hmem : ∀ q ∈ l, ∃ x ∈ followL g g.deps.length (beginS g) [], q.1 = posS g x := fun q hq => by
    have h1 := h.p.mem_iff.1 (List.mem_map.2 ⟨q, hq, rfl⟩)
    obtain ⟨x, hx, e⟩ := List.mem_map.1 h1
    exact ⟨x, hx, e.symm⟩
  have hback : ∀ x ∈ followL g g.deps.length (beginS g) [], ∃ r ∈ l, r.1.st = x := fun x hx => by
    have h1 := h.p.mem_iff.2 (List.mem_map.2 ⟨x, hx, rfl⟩)
    obtain ⟨r, hr, e⟩ := List.mem_map.1 h1
    exact ⟨r, hr, by have e' : r.1 = posS g x := e; rw [e', posS_st]⟩
  have hst : ((l.map (·.1)).map Pos.st).Nodup := by
    have h1 := h.p.map Pos.st
    rw [List.map_map, List.map_map] at h1
    have e : (followL g g.deps.length (beginS g) []).map (Pos.st ∘ posS g) = followL g g.deps.length (beginS g) [] := by
      rw [show (Pos.st ∘ posS g) = id from rfl, List.map_id]
    rw [e] at h1
    rw [List.map_map]
    exact h1.nodup_iff.2 nd
  refine ⟨strict_of h.s hst, fun q hq => ?_, fun q hq => ?_, fun q hq ht y hy => ?_, fun h0 y hy => hback y (fst h0 y hy)⟩
  · obtain ⟨x, hx, e⟩ := hmem q hq
    rw [e, posS_st]
  · obtain ⟨x, hx, e⟩ := hmem q hq
    rcases new x hx with h1 | ⟨h1, h2, _⟩
    · cases h1
    · rw [e, posS_st]
      exact ⟨h1, h2⟩
  · obtain ⟨x, hx, e⟩ := hmem q hq
    rcases new x hx with h1 | ⟨h1, h2, h3⟩
    · cases h1
    · rw [e, posS_st] at hy
      rw [e] at ht
      exact hback y (h3 ht y hy)
theorem PlanR.nodup {g : Gm} {l : List PA} (h : PlanR g l) : (l.map fun x : PA => x.1.st).Nodup := by
  have h1 : (l.map (·.1)).Pairwise (fun x y => x.st ≠ y.st) := h.strict.imp fun {x y} hxy e => by rw [cmpP_of e] at hxy; omega
  have h2 := List.pairwise_map.1 h1
  exact List.pairwise_map.2 h2
theorem PlanR.bound {g : Gm} (hv : VG g) {l : List PA} (h : PlanR g l) {q : PA} (hq : q ∈ l) : q.1.bound = (if q.1.choice < 0 then 1 else 0) + (if q.1.turn + 1 < g.deps.length then maxL ((madeL (afterS q.1.st q.1.choice)).map (boundB g)) else 0) := by
  have e := h.pos q hq
  obtain ⟨hd, ht⟩ := h.dom q hq
  have h0 := hd.t0
  have e1 : q.1.bound = (BG g q.1.st).2 := by rw [e]; rfl
  have e2 : q.1.choice = (BG g q.1.st).1 := by rw [e]; rfl
  have e3 : q.1.st.turn = q.1.turn := rfl
  rw [e1, e2]
  have hb := bvF_val (g := g) (w := WG g) (x := q.1.st) fun v hv' => (okDep_domG (hv.2.2.2.2.2 q.1.st.turn.toNat (by omega)) hv').1
  rw [show (BG g q.1.st).2 = (bvF g (WG g) q.1.st).2 from rfl, hb]
  congr 1
  by_cases hn : q.1.turn + 1 < g.deps.length
  · rw [if_pos hn]
    exact WG_on (by show 0 ≤ q.1.st.turn + 1; omega) (by show q.1.st.turn + 1 < _; omega)
  · rw [if_neg hn]
    exact WG_end (by show _ ≤ q.1.st.turn + 1; omega)
theorem boundB_in {g : Gm} (hv : VG g) (x : St) : 0 ≤ boundB g x ∧ boundB g x ≤ 13 := by
  have := bvF_in (g := g) (w := WG g) (x := x) (b := 12) (WG_in hv)
  exact ⟨this.1, by have h := this.2; show (BG g x).2 ≤ 13; exact h⟩
theorem PlanR.can {g : Gm} {l : List PA} (h : PlanR g l) {q : PA} (hq : q ∈ l) : can g q.1.st q.1.choice := by
  have e := h.pos q hq
  have e2 : q.1.choice = (BG g q.1.st).1 := by rw [e]; rfl
  rw [e2]
  exact BG_can g q.1.st
end
section
open Go.RowKit

set_option maxRecDepth 100000 in
set_option maxHeartbeats 4000000 in
theorem lafter_any (B : St → Int) (n m : Nat) (l : List PA) (a : Option Addr) (c Lb : Nat) (p : Pos) (sa fa : Option Addr) (sc fc : Nat) (w : World) (hbox : BoxAt w Lb [.slice a l.length c]) (hL : LiI n m w a l) (hll : l.length ≤ 100000000000) (hP : PsAt w p sa fa) (hn : p.starts.length = n) (hm : p.failed.length = m) (hb : n ≤ 50 ∧ m ≤ 50) (hbu : p.budget ≤ 1000)
    (hB : ∀ x, 0 ≤ B x ∧ B x ≤ 100) (hnd : (l.map fun x : PA => x.1.st).Nodup) (hval : ∀ r ∈ l, r.1.bound = B r.1.st) (hin : ∀ y ∈ madeL p.st, ∃ r ∈ l, r.1.st = y) :
    Calls Try.prog 20 #[psV p sa sc fa fc, .pointer (some ⟨Lb, 0, none⟩)] w (RetB (.tuple #[.int .i64 (maxL ((madeL p.st).map B)), .bool true]) w) := by
  have hlens : ∀ y ∈ madeL p.st, y.starts.length = n ∧ y.failed.length = m := fun y hy => by
    rcases mem_made.1 hy with rfl | ⟨v, h1, h2, h3, rfl⟩
    · exact ⟨hn, hm⟩
    · exact ⟨hn, by show (p.failed.set v true).length = m; rw [List.length_set]; exact hm⟩
  have hmv : ∀ wy, Below w.heap.size w wy → Calls Try.prog 21 #[psV p sa sc fa fc] wy (RetMv p wy) := fun wy hy => rmoves_any p sa fa sc fc wy (hP.later hy) (by omega) hbu
  have hfd : ∀ y : PA, y.1.st ∈ madeL p.st → ∃ z ∈ l, z.1.st = y.1.st ∧ ∀ wy, Below w.heap.size w wy → PsAt wy y.1 y.2.1 y.2.2.2.1 → Calls Try.prog 22 #[.slice a l.length c, .agg (psCs y).toArray] wy (RetB (.tuple #[.agg (psCs z).toArray, .bool true]) wy) := fun y hy => by
    obtain ⟨z, hz, e⟩ := hin _ hy
    obtain ⟨h1, h2⟩ := hlens _ hy
    exact ⟨z, hz, e, fun wy hy2 hp => lfind_any n m a c l y wy (hL.later hy2) hll hp h1 h2 (by omega) z ⟨hz, e, fun x hx e2 => uniq_of hnd x hx z hz (e2.trans e.symm)⟩⟩
  obtain ⟨pt, hpt⟩ : ∃ x, x = p.turn := ⟨_, rfl⟩
  obtain ⟨pb, hpb⟩ : ∃ x, x = p.budget := ⟨_, rfl⟩
  obtain ⟨pc, hpc⟩ : ∃ x, x = p.choice := ⟨_, rfl⟩
  obtain ⟨pd, hpd⟩ : ∃ x, x = p.bound := ⟨_, rfl⟩
  obtain ⟨ll, hll2⟩ : ∃ x, x = l.length := ⟨_, rfl⟩
  obtain ⟨Q, hQ⟩ : ∃ x, x = maxL ((madeL p.st).map B) := ⟨_, rfl⟩
  unfold psV at hmv ⊢
  rw [hn, hm, ← hpt, ← hpb, ← hpc, ← hpd] at hmv ⊢
  rw [← hll2] at hfd hbox
  rw [← hQ]
  have HMV := Lib.hid hmv
  have HFD := Lib.hid hfd
  have HLEN := Lib.hid hlens
  have HBOX := Lib.hid hbox
  have HL := Lib.hid hL
  have HVAL := Lib.hid hval
  have HBB := Lib.hid hB
  have HQ := Lib.hid hQ
  clear hmv hfd hlens hbox hL hll hP hn hm hbu hB hnd hval hin hpt hpb hpc hpd hll2 hQ
  go_enter Try.func20, Try.ntmps20
  go_upto_region 1 with fail
  refine wp_named ?_
  intro w1 hw1
  obtain ⟨hb1, hs1, hx1, _⟩ := alloc1 w [.int .i64 pt, .slice sa n sc, .slice fa m fc, .int .i64 pb, .int .i64 pc, .int .i64 pd] _ w1 hw1
  have HB1 := Lib.hid hb1
  have c0 := (hx1 0 _ rfl).1
  have c1 := (hx1 1 _ rfl).1
  have c2 := (hx1 2 _ rfl).1
  have c3 := (hx1 3 _ rfl).1
  have c4 := (hx1 4 _ rfl).1
  have c5 := (hx1 5 _ rfl).1
  clear hw1 hb1 hs1 hx1
  go_wp2_with fail
  refine Calls.mono (HMV.out w1 HB1.out) ?_
  rintro e w2 ⟨am, cm, ml, rfl, hmap, hat, hps, hb2⟩
  have hbw2 := HB1.out.trans (hb2.mono HB1.out.size)
  obtain ⟨mn, hmn⟩ : ∃ x, x = ml.length := ⟨_, rfl⟩
  have hmn2 : ml.length ≤ 100 := by
    have h := congrArg List.length hmap
    rw [List.length_map] at h
    unfold madeL hits at h
    rw [List.length_cons, List.length_map] at h
    have h3 := (HLEN.out p.st (mem_made.2 (.inl rfl))).2
    split at h
    · have := List.length_filter_le (fun v => !bg p.st.failed v) (List.range p.st.failed.length)
      rw [List.length_range] at this
      omega
    · simp at h; omega
  rw [← hmn] at hmn2 ⊢
  have HMAP := Lib.hid hmap
  have HAT := Lib.hid hat
  have HPS := Lib.hid hps
  have HBW2 := Lib.hid hbw2
  have HMN := Lib.hid hmn
  clear hmap hat hps hbw2 hmn hb2 c0 c1 c2 c3 c4 c5
  go_wp2_with fail
  go_loopg [5, 7] (mn + 1) (fun k v5 v7 wr => ∃ i : Nat, i ≤ mn ∧ k + i = mn + 1 ∧ v7 = .int .i64 i ∧ v5 = .int .i64 (maxL ((ml.take i).map fun x : PA => B x.1.st)) ∧ Below w2.heap.size w2 wr)
  case atStart => exact ⟨0, by omega, by omega, rfl, rfl, Below.refl _ _⟩
  case round =>
    obtain ⟨i, hi, hki, rfl, rfl, hbr⟩ := hrel
    obtain ⟨wq, hwq⟩ : ∃ wq, wq = wr := ⟨_, rfl⟩
    subst hwq
    have HBR := Lib.hid hbr
    obtain ⟨M, hM⟩ : ∃ x, x = maxL ((ml.take i).map fun x : PA => B x.1.st) := ⟨_, rfl⟩
    have hM0 : 0 ≤ M ∧ M ≤ 100 := by
      rw [hM]
      refine maxL_in (fun y hy => ?_) (by omega)
      obtain ⟨x, _, rfl⟩ := List.mem_map.1 hy
      exact HBB.out _
    rw [← hM]
    have HM := Lib.hid hM
    clear hbr hM
    have hbwq := HBW2.out.trans (HBR.out.mono HBW2.out.size)
    by_cases hlt : i < mn
    · have hiL : i < ml.length := by have := HMN.out; omega
      have hatq := HAT.out.later HBR.out
      obtain ⟨b, off, rfl, _⟩ := hatq.head (by omega)
      have hrng := hatq.range hiL
      rw [show off + i * EQ.S = off + i * 6 from rfl] at hrng
      have hpy := (HPS.out.later HBR.out) ml[i] (List.getElem_mem hiL)
      have hyin : ml[i].1.st ∈ madeL p.st := by rw [← HMAP.out]; exact List.mem_map.2 ⟨_, List.getElem_mem hiL, rfl⟩
      have hnx : maxL ((ml.take (i + 1)).map fun x : PA => B x.1.st) = max M (B ml[i].1.st) := by
        rw [List.take_succ_eq_append_getElem hiL, List.map_append, List.map_singleton, maxL_snoc, HM.out]
      obtain ⟨z, hz, hze, hfd⟩ := HFD.out ml[i] hyin
      obtain ⟨hl1, hl2⟩ := HLEN.out _ hyin
      have hzb := HVAL.out z hz
      rw [hze] at hzb
      obtain ⟨k1, k2⟩ := HL.out.len z hz
      obtain ⟨y, hy⟩ : ∃ y, y = ml[i] := ⟨_, rfl⟩
      rw [← hy] at hrng hpy hnx hfd hl1 hl2 hzb hze
      have hBy := HBB.out y.1.st
      rw [← hzb] at hBy hnx
      obtain ⟨⟨yt, ys, yf, yb, yc, yd⟩, ysa, ysc, yfa, yfc⟩ := y
      obtain ⟨⟨zt, zs, zf, zb, zc, zd⟩, zsa, zsc, zfa, zfc⟩ := z
      replace k1 : zs.length = n := k1
      replace k2 : zf.length = m := k2
      replace hl1 : ys.length = n := hl1
      replace hl2 : yf.length = m := hl2
      replace hnx : maxL ((ml.take (i + 1)).map fun x : PA => B x.1.st) = max M zd := hnx
      replace hBy : 0 ≤ zd ∧ zd ≤ 100 := hBy
      have x0 : wq.cell? ⟨b, off + i * 6, none⟩ = some (.int .i64 yt) := by have := hrng 0 _ rfl; rwa [Nat.add_zero] at this
      have x1 : wq.cell? ⟨b, off + i * 6 + 1, none⟩ = some (.slice ysa n ysc) := by have := hrng 1 _ rfl; rw [← hl1]; exact this
      have x2 : wq.cell? ⟨b, off + i * 6 + 2, none⟩ = some (.slice yfa m yfc) := by have := hrng 2 _ rfl; rw [← hl2]; exact this
      have x3 : wq.cell? ⟨b, off + i * 6 + 3, none⟩ = some (.int .i64 yb) := hrng 3 _ rfl
      have x4 : wq.cell? ⟨b, off + i * 6 + 4, none⟩ = some (.int .i64 yc) := hrng 4 _ rfl
      have x5 : wq.cell? ⟨b, off + i * 6 + 5, none⟩ = some (.int .i64 yd) := hrng 5 _ rfl
      have lb := ((HBOX.out.later hbwq) 0 _ rfl).1
      have hcl : ∀ wy, Below wq.heap.size wq wy → Calls Try.prog 22 #[.slice a ll c, .agg #[.int .i64 yt, .slice ysa n ysc, .slice yfa m yfc, .int .i64 yb, .int .i64 yc, .int .i64 yd]] wy (RetB (.tuple #[.agg #[.int .i64 zt, .slice zsa n zsc, .slice zfa m zfc, .int .i64 zb, .int .i64 zc, .int .i64 zd], .bool true]) wy) := fun wy h => by
        have h2 := hfd wy (hbwq.trans (h.mono hbwq.size)) (hpy.later h)
        rw [show psCs (⟨yt, ys, yf, yb, yc, yd⟩, ysa, ysc, yfa, yfc) = [.int .i64 yt, .slice ysa n ysc, .slice yfa m yfc, .int .i64 yb, .int .i64 yc, .int .i64 yd] from by rw [← hl1, ← hl2], show psCs (⟨zt, zs, zf, zb, zc, zd⟩, zsa, zsc, zfa, zfc) = [.int .i64 zt, .slice zsa n zsc, .slice zfa m zfc, .int .i64 zb, .int .i64 zc, .int .i64 zd] from by rw [← k1, ← k2]] at h2
        exact h2
      have HCL := Lib.hid hcl
      have HNX := Lib.hid hnx
      have HBW := Lib.hid hbwq
      have i1 : (i : Int) < (mn : Int) := by omega
      have i0 : (0 : Int) ≤ (i : Int) := by omega
      have HLT := Lib.hid hlt
      have hS : ∀ wy : World, Below wq.heap.size wq wy → Below wq.heap.size wq wy ∧ wy.cell? ⟨Lb, 0, none⟩ = some (.slice a ll c)
          ∧ wy.cell? ⟨b, off + i * 6, none⟩ = some (.int .i64 yt) ∧ wy.cell? ⟨b, off + i * 6 + 1, none⟩ = some (.slice ysa n ysc) ∧ wy.cell? ⟨b, off + i * 6 + 2, none⟩ = some (.slice yfa m yfc) ∧ wy.cell? ⟨b, off + i * 6 + 3, none⟩ = some (.int .i64 yb) ∧ wy.cell? ⟨b, off + i * 6 + 4, none⟩ = some (.int .i64 yc) ∧ wy.cell? ⟨b, off + i * 6 + 5, none⟩ = some (.int .i64 yd) := fun wy hy =>
        ⟨hy, cell_later hy lb, cell_later hy x0, cell_later hy x1, cell_later hy x2, cell_later hy x3, cell_later hy x4, cell_later hy x5⟩
      clear hcl hnx hbwq hatq hrng hpy hyin hz hze hfd hl1 hl2 hzb k1 k2 hy x0 x1 x2 x3 x4 x5 lb hlt hiL
      have hnd : (List.map Bx.k [PB 9 10 [.int .i64 0, .slice none 0 0, .slice none 0 0, .int .i64 0, .int .i64 0, .int .i64 0] [.int .i64 zt, .slice zsa n zsc, .slice zfa m zfc, .int .i64 zb, .int .i64 zc, .int .i64 zd]]).Nodup := by simp
      go_upto_region 6 with fail
      refine wp_flow_s [PB 9 10 [.int .i64 0, .slice none 0 0, .slice none 0 0, .int .i64 0, .int .i64 0, .int .i64 0] [.int .i64 zt, .slice zsa n zsc, .slice zfa m zfc, .int .i64 zb, .int .i64 zc, .int .i64 zd]] [] (by kernel_rfl) (by kernel_rfl) (by kernel_rfl) ?_
      repeat (first | ((with_reducible refine Flow.pure hS StayG.nil (v := ?_) ?_ ?_ ?_ ?_); rotate_left 1; (focus kernel_rfl); (focus (intro _; rfl)); (focus (intro β wx hSw; (try dsimp only at hSw); go_simp; (try with_reducible rfl); done)); (try simp only [Act.put, List.setIfInBounds_toArray, List.set_cons_zero, List.set_cons_succ, Nat.reduceAdd])) | ((with_reducible refine Flow.skip StayG.nil ?_ ?_ ?_); (focus kernel_rfl); (focus (intro _; rfl)); (try simp only [Act.put, List.setIfInBounds_toArray, List.set_cons_zero, List.set_cons_succ, Nat.reduceAdd])) | ((with_reducible refine Flow.call hS StayG.nil (v := ?_) ?_ ?_ ?_ ?_); rotate_left 1; (focus kernel_rfl); (focus (intro _; rfl)); (focus (intro β L wx hI hat hSw K' hK; (try dsimp only at hSw); go_simp; go_at_call 22; refine Calls.mono (HCL.out _ hSw.1) ?_; rintro e w' ⟨rfl, hb'⟩; exact hK.out _ hb')); (try simp only [Act.put, List.setIfInBounds_toArray, List.set_cons_zero, List.set_cons_succ, Nat.reduceAdd])) | ((with_reducible refine Flow.make hS StayG.nil (PB 9 10 [.int .i64 0, .slice none 0 0, .slice none 0 0, .int .i64 0, .int .i64 0, .int .i64 0] [.int .i64 zt, .slice zsa n zsc, .slice zfa m zfc, .int .i64 zb, .int .i64 zc, .int .i64 zd]) 40 hnd ?_ ?_ ?_ ?_ ?_ ?_ ?_ ?_ ?_); (focus (simp; done)); (focus rfl); (focus kernel_rfl); (focus kernel_rfl); (focus (exact Or.inr ⟨_, rfl, by decide, by kernel_rfl⟩)); (focus (intro _; rfl)); (focus (intro _; rfl)); (focus (intro β wx hSw; (try dsimp only at hSw); go_simp; (try with_reducible rfl); done)); (try simp only [Act.put, List.setIfInBounds_toArray, List.set_cons_zero, List.set_cons_succ, Nat.reduceAdd])) | ((with_reducible refine Flow.store hS (fun _ h => absurd h (by simp)) (PB 9 10 [.int .i64 0, .slice none 0 0, .slice none 0 0, .int .i64 0, .int .i64 0, .int .i64 0] [.int .i64 zt, .slice zsa n zsc, .slice zfa m zfc, .int .i64 zb, .int .i64 zc, .int .i64 zd]) hnd ?_ ?_ ?_ ?_ ?_ ?_ ?_ ?_ ?_ ?_); (focus (simp; done)); (focus rfl); (focus rfl); (focus kernel_rfl); (focus kernel_rfl); (focus kernel_rfl); (focus kernel_rfl); (focus (intro _; rfl)); (focus (intro β n wx hSw hβ hc; (try dsimp only at hSw hβ); (have hc0 := hc 0 _ rfl; have hc1 := hc 1 _ rfl; have hc2 := hc 2 _ rfl; have hc3 := hc 3 _ rfl; have hc4 := hc 4 _ rfl; have hc5 := hc 5 _ rfl; obtain ⟨hc0, hf0⟩ := hc0; obtain ⟨hc1, hf1⟩ := hc1; obtain ⟨hc2, hf2⟩ := hc2; obtain ⟨hc3, hf3⟩ := hc3; obtain ⟨hc4, hf4⟩ := hc4; obtain ⟨hc5, hf5⟩ := hc5); clear hc; simp only [World.setCells]; go_simp; (try with_reducible rfl); done)); (try simp only [Act.put, Nat.reduceAdd])))
      ((with_reducible refine Flow.stop ?_); dsimp only; intro β w4 hI4)
      have HB4 := Lib.hid (HBR.out.trans (hI4.below.mono HBR.out.size))
      obtain ⟨se, slo, shi, sq⟩ := hI4.box (PB 9 10 [.int .i64 0, .slice none 0 0, .slice none 0 0, .int .i64 0, .int .i64 0, .int .i64 0] [.int .i64 zt, .slice zsa n zsc, .slice zfa m zfc, .int .i64 zb, .int .i64 zc, .int .i64 zd]) (by simp) rfl
      have s5 := (sq 5 _ rfl).1
      have s5f := (sq 5 _ rfl).2
      clear sq
      obtain ⟨S, hSb⟩ : ∃ S, S = blk (β 9) := ⟨_, rfl⟩
      dsimp only [PB] at se slo shi s5 s5f
      rw [← hSb] at se slo shi s5 s5f
      rw [se]
      clear se hSb hS hI4
      have HBy := Lib.hid hBy
      by_cases hMz : M ≤ zd
      · have HNX2 := Lib.hid (show zd = maxL ((ml.take (i + 1)).map fun x : PA => B x.1.st) from by rw [HNX.out]; omega)
        have emx : max M zd = zd := by omega
        go_wp2_with fail
        go_roundg (mn - i)
        case measure => have := HLT.out; omega
        case rel => exact ⟨i + 1, HLT.out, by have := HLT.out; omega, by go_num, by rw [← HNX2.out], HB4.out⟩
      · have HNX2 := Lib.hid (show M = maxL ((ml.take (i + 1)).map fun x : PA => B x.1.st) from by rw [HNX.out]; omega)
        have emx : max M zd = M := by omega
        go_wp2_with fail
        go_roundg (mn - i)
        case measure => have := HLT.out; omega
        case rel => exact ⟨i + 1, HLT.out, by have := HLT.out; omega, by go_num, by rw [← HNX2.out], HB4.out⟩
    · obtain rfl : mn = i := by omega
      have HE := Lib.hid (show M = Q from by
        rw [HM.out, HQ.out, ← HMAP.out, List.map_map, List.take_of_length_le (by rw [← HMN.out]; exact Nat.le_refl _)]
        rfl)
      have HBE := Lib.hid hbwq
      clear hbwq hlt hi hki
      go_wp2_with fail
      refine bodyPost_ret (v := .tuple #[.int .i64 M, .bool true]) (by simp [results, Try.f20, go_sem]) rfl ?_
      rw [HE.out]
      exact retB rfl HBE.out
end
end Go.Proofs.Ytlkknoooeldomaa

